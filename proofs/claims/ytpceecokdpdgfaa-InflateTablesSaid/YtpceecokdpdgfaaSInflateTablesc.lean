/- Texts joined: part 3 of what LInflateTables stands on. -/
import Derived.Test.YtpceecokdpdgfaaSInflateTablesb
namespace Go.Proofs.Ytpceecokdpdgfaa.W
open Go Go.Q Go.Proofs
set_option linter.unusedVariables false
set_option linter.unusedSimpArgs false
set_option maxRecDepth 100000 in
set_option maxHeartbeats 4000000 in
theorem s_inflate_Lit (k : Nat) (x4 : Int) (x24 : Int) (x25 : Int) (x26 : Bool) (H : g_inflate_Lit k x4 = some (x24, x25, x26)) : Go.Q.Spec Try.prog 6 0 [.lit (.int .i64 x4)] Mem.nil (fun o M => o = .ret (.tup [.lit (.int .i64 x24), .lit (.int .i64 x25), .lit (.bool x26)]) ∧ M = Mem.nil) := by
 unfold g_inflate_Lit at H
 refine Go.Q.Spec.of_bodyR (az := []) (rs := [.tmp 2, .tmp 3, .tmp 4]) (nt := 31) Try.func6 rfl rfl (by intro t T h; simp at h) rfl rfl fun cx hnp => ?_
 refine WP.seq ?_
 refine WP.region ?_
 refine WPL.q (q_as (v := .lit (.int _ _)) rfl) rfl ?_
 refine WPL.q (q_as (v := .lit (.int _ _)) rfl) rfl ?_
 refine WPL.q (q_as (v := .lit (.bool _)) rfl) rfl ?_
 refine WPL.nilW ?_
 refine W.now ?_
 refine Then.n ?_
 refine WP.seq ?_
 refine WP.block ?_
 refine WP.seq ?_
 obtain ⟨x35, H36, H⟩ := bnd H
 refine WP.monoW (Q := fun x E M => x = .normal ∧ E = ((Env.none.upd 0 (.lit (.int .i64 x4))).upd 5 (.lit (.bool x35))) ∧ M = Mem.nil) ?_ ?_
 · clear H
   have H := H36
   clear H36
   refine WP.region ?_
   refine WPL.q (q_mv (v := .lit (.int _ _)) rfl) rfl ?_
   refine WPL.q (q_lss rfl rfl) rfl ?_
   refine WPL.q (q_mv (v := .lit (.bool _)) rfl) rfl ?_
   refine WPL.split (t := 8) (b := (decide (x4 < 257))) rfl (fun hb35 => ?_) (fun hb35 => ?_)
   · replace H := cnt hb35 H
     refine WPL.skipg (b' := true) rfl rfl (lb hb35) rfl rfl (.inl trivial) ?_
     refine WPL.skipg (b' := true) rfl rfl (lb hb35) rfl rfl (.inl trivial) ?_
     refine WPL.q (q_pickT (v := .lit (.bool _)) (lb hb35) rfl) rfl ?_
     refine WPL.q (q_as (v := .lit (.bool _)) rfl) rfl ?_
     refine WPL.nilW ?_
     have q0 := (Option.some.inj H)
     subst q0
     exact W.wk [] hnp ⟨rfl, rfl, rfl⟩ ⟨rfl, trivial, by decide, rfl, trivial⟩ (LeE.upd rfl rfl (LeE.upd rfl rfl (LeE.none rfl rfl))) rfl
   replace H := cnf hb35 H
   refine WPL.qg rfl rfl (lb hb35) (q_mv (v := .lit (.int _ _)) rfl) rfl ?_
   refine WPL.qg rfl rfl (lb hb35) (q_gtr rfl rfl) rfl ?_
   refine WPL.q (q_pickF (v := .lit (.bool _)) (lb hb35) rfl) rfl ?_
   refine WPL.q (q_as (v := .lit (.bool _)) rfl) rfl ?_
   refine WPL.nilW ?_
   have q0 := (Option.some.inj H)
   subst q0
   exact W.wk [] hnp ⟨rfl, rfl, rfl⟩ ⟨rfl, trivial, by decide, rfl, trivial⟩ (LeE.upd rfl rfl (LeE.upd rfl rfl (LeE.none rfl rfl))) rfl
 rintro _ _ _ ⟨rfl, rfl, rfl⟩
 refine W.now ?_
 refine Then.n ?_
 refine WP.cond (t := x35) rfl (fun hb37 => ?_) (fun hb37 => ?_)
 · replace H := cnt hb37 H
   refine WP.seq ?_
   refine WP.region ?_
   refine WPL.q (q_as (v := .lit (.int _ _)) rfl) rfl ?_
   refine WPL.q (q_as (v := .lit (.int _ _)) rfl) rfl ?_
   refine WPL.q (q_as (v := .lit (.bool _)) rfl) rfl ?_
   refine WPL.nilW ?_
   refine W.now ?_
   refine Then.n ?_
   refine WP.retW ?_
   have q0 := (Prod.mk.inj (Option.some.inj H)).1
   have q1 := (Prod.mk.inj (Prod.mk.inj (Option.some.inj H)).2).1
   have q2 := (Prod.mk.inj (Prod.mk.inj (Option.some.inj H)).2).2
   subst q0
   subst q1
   subst q2
   exact W.now (InBlock.r (Then.r (BodyR.mkR trivial rfl [] ⟨rfl, rfl⟩ ⟨rfl, trivial, by decide, rfl, trivial⟩ rfl rfl)))
 replace H := cnf hb37 H
 refine WP.seq ?_
 refine WP.region ?_
 refine WPL.q (q_mv (v := .lit (.int _ _)) rfl) rfl ?_
 refine WPL.q (q_eql rfl rfl) rfl ?_
 refine WPL.q (q_as (v := .lit (.bool _)) rfl) rfl ?_
 refine WPL.nilW ?_
 refine W.now ?_
 refine Then.n ?_
 refine WP.cond (t := (decide (x4 = 285))) rfl (fun hb38 => ?_) (fun hb38 => ?_)
 · replace H := cnt hb38 H
   refine WP.seq ?_
   refine WP.region ?_
   refine WPL.q (q_as (v := .lit (.int _ _)) rfl) rfl ?_
   refine WPL.q (q_as (v := .lit (.int _ _)) rfl) rfl ?_
   refine WPL.q (q_as (v := .lit (.bool _)) rfl) rfl ?_
   refine WPL.nilW ?_
   refine W.now ?_
   refine Then.n ?_
   refine WP.retW ?_
   have q0 := (Prod.mk.inj (Option.some.inj H)).1
   have q1 := (Prod.mk.inj (Prod.mk.inj (Option.some.inj H)).2).1
   have q2 := (Prod.mk.inj (Prod.mk.inj (Option.some.inj H)).2).2
   subst q0
   subst q1
   subst q2
   exact W.now (InBlock.r (Then.r (BodyR.mkR trivial rfl [] ⟨rfl, rfl⟩ ⟨rfl, trivial, by decide, rfl, trivial⟩ rfl rfl)))
 replace H := cnf hb38 H
 refine WP.seq ?_
 refine WP.region ?_
 refine WPL.q (q_mv (v := .lit (.int _ _)) rfl) rfl ?_
 refine WPL.q (q_lss rfl rfl) rfl ?_
 refine WPL.q (q_as (v := .lit (.bool _)) rfl) rfl ?_
 refine WPL.nilW ?_
 refine W.now ?_
 refine Then.n ?_
 refine WP.cond (t := (decide (x4 < 265))) rfl (fun hb39 => ?_) (fun hb39 => ?_)
 · replace H := cnt hb39 H
   refine WP.seq ?_
   refine WP.region ?_
   refine WPL.q (q_mv (v := .lit (.int _ _)) rfl) rfl ?_
   refine WPL.q (q_sub rfl rfl) rfl ?_
   refine WPL.q (q_as (v := .lit (.int _ _)) rfl) rfl ?_
   refine WPL.q (q_as (v := .lit (.int _ _)) rfl) rfl ?_
   refine WPL.q (q_as (v := .lit (.bool _)) rfl) rfl ?_
   refine WPL.nilW ?_
   refine W.now ?_
   refine Then.n ?_
   refine WP.retW ?_
   have q0 := (Prod.mk.inj (Option.some.inj H)).1
   have q1 := (Prod.mk.inj (Prod.mk.inj (Option.some.inj H)).2).1
   have q2 := (Prod.mk.inj (Prod.mk.inj (Option.some.inj H)).2).2
   subst q0
   subst q1
   subst q2
   exact W.now (InBlock.r (Then.r (BodyR.mkR trivial rfl [] ⟨rfl, rfl⟩ ⟨rfl, trivial, by decide, rfl, trivial⟩ rfl rfl)))
 replace H := cnf hb39 H
 refine WP.skipW ?_
 refine W.now ?_
 refine InBlock.n ?_
 refine Then.n ?_
 refine WP.seq ?_
 refine WP.region ?_
 refine WPL.q (q_mv (v := .lit (.int _ _)) rfl) rfl ?_
 refine WPL.q (q_sub rfl rfl) rfl ?_
 obtain ⟨x41, h41, H⟩ := bnd H
 refine WPL.q (q_nm (q_quo rfl rfl rfl) (nm_int h41)) rfl ?_
 refine WPL.q (q_as (v := .lit (.int _ _)) rfl) rfl ?_
 refine WPL.nilW ?_
 refine W.now ?_
 refine Then.n ?_
 refine WP.seq ?_
 refine WP.region ?_
 refine WPL.q (q_mv (v := .lit (.int _ _)) rfl) rfl ?_
 refine WPL.q (q_sub rfl rfl) rfl ?_
 obtain ⟨x42, h42, H⟩ := bnd H
 refine WPL.q (q_nm (q_rem rfl rfl rfl) (nm_int h42)) rfl ?_
 refine WPL.q (q_add rfl rfl) rfl ?_
 refine WPL.q (q_mv (v := .lit (.int _ _)) rfl) rfl ?_
 obtain ⟨h42, H⟩ := grd H
 obtain ⟨x44, h44, H⟩ := bnd H
 refine WPL.q (q_nm (q_shl rfl rfl h42) (nm_int h44)) rfl ?_
 refine WPL.q (q_add rfl rfl) rfl ?_
 refine WPL.q (q_mv (v := .lit (.int _ _)) rfl) rfl ?_
 refine WPL.q (q_as (v := .lit (.int _ _)) rfl) rfl ?_
 refine WPL.q (q_as (v := .lit (.int _ _)) rfl) rfl ?_
 refine WPL.q (q_as (v := .lit (.bool _)) rfl) rfl ?_
 refine WPL.nilW ?_
 refine W.now ?_
 refine Then.n ?_
 refine WP.retW ?_
 have q0 := (Prod.mk.inj (Option.some.inj H)).1
 have q1 := (Prod.mk.inj (Prod.mk.inj (Option.some.inj H)).2).1
 have q2 := (Prod.mk.inj (Prod.mk.inj (Option.some.inj H)).2).2
 subst q0
 subst q1
 subst q2
 exact W.now (BodyR.mkR trivial rfl [] ⟨rfl, rfl⟩ ⟨rfl, trivial, by decide, rfl, trivial⟩ rfl rfl)
set_option maxRecDepth 100000 in
set_option maxHeartbeats 4000000 in
theorem s_quireref03_litBits (k : Nat) (x65 : Int) (x70 : Int) (H : g_quireref03_litBits k x65 = some x70) : Go.Q.Spec Try.prog 18 0 [.lit (.int .i64 x65)] Mem.nil (fun o M => o = .ret (.lit (.int .i64 x70)) ∧ M = Mem.nil) := by
 unfold g_quireref03_litBits at H
 refine Go.Q.Spec.of_bodyR (az := []) (rs := [.tmp 2]) (nt := 8) Try.func18 rfl rfl (by intro t T h; simp at h) rfl rfl fun cx hnp => ?_
 refine WP.seq ?_
 refine WP.region ?_
 refine WPL.q (q_as (v := .lit (.int _ _)) rfl) rfl ?_
 refine WPL.nilW ?_
 refine W.now ?_
 refine Then.n ?_
 refine WP.seq ?_
 refine WP.seq ?_
 refine WP.region ?_
 refine WPL.q (q_mv (v := .lit (.int _ _)) rfl) rfl ?_
 refine WPL.q (q_lss rfl rfl) rfl ?_
 refine WPL.nilW ?_
 refine W.now ?_
 refine Then.n ?_
 refine WP.cond (t := (decide (x65 < 265))) rfl (fun hb71 => ?_) (fun hb71 => ?_)
 · replace H := cnt hb71 H
   refine WP.seq ?_
   refine WP.region ?_
   refine WPL.q (q_as (v := .lit (.int _ _)) rfl) rfl ?_
   refine WPL.nilW ?_
   refine W.now ?_
   refine Then.n ?_
   refine WP.retW ?_
   have q0 := (Option.some.inj H)
   subst q0
   exact W.now (Then.r (BodyR.mkR trivial rfl [] ⟨rfl, rfl⟩ ⟨rfl, trivial, by decide, rfl, trivial⟩ rfl rfl))
 replace H := cnf hb71 H
 refine WP.skipW ?_
 refine W.now ?_
 refine Then.n ?_
 refine WP.seq ?_
 refine WP.region ?_
 refine WPL.q (q_mv (v := .lit (.int _ _)) rfl) rfl ?_
 refine WPL.q (q_sub rfl rfl) rfl ?_
 obtain ⟨x73, h73, H⟩ := bnd H
 refine WPL.q (q_nm (q_quo rfl rfl rfl) (nm_int h73)) rfl ?_
 refine WPL.q (q_as (v := .lit (.int _ _)) rfl) rfl ?_
 refine WPL.nilW ?_
 refine W.now ?_
 refine Then.n ?_
 refine WP.retW ?_
 have q0 := (Option.some.inj H)
 subst q0
 exact W.now (BodyR.mkR trivial rfl [] ⟨rfl, rfl⟩ ⟨rfl, trivial, by decide, rfl, trivial⟩ rfl rfl)
set_option maxRecDepth 100000 in
set_option maxHeartbeats 4000000 in
theorem s_quireref03_Lit (k : Nat) (x49 : Int) (x90 : Int) (x91 : Int) (x92 : Bool) (H : g_quireref03_Lit k x49 = some (x90, x91, x92)) : Go.Q.Spec Try.prog 7 0 [.lit (.int .i64 x49)] Mem.nil (fun o M => o = .ret (.tup [.lit (.int .i64 x90), .lit (.int .i64 x91), .lit (.bool x92)]) ∧ M = Mem.nil) := by
 unfold g_quireref03_Lit at H
 refine Go.Q.Spec.of_bodyR (az := []) (rs := [.tmp 2, .tmp 3, .tmp 4]) (nt := 29) Try.func7 rfl rfl (by intro t T h; simp at h) rfl rfl fun cx hnp => ?_
 refine WP.seq ?_
 refine WP.region ?_
 refine WPL.q (q_as (v := .lit (.int _ _)) rfl) rfl ?_
 refine WPL.q (q_as (v := .lit (.int _ _)) rfl) rfl ?_
 refine WPL.q (q_as (v := .lit (.bool _)) rfl) rfl ?_
 refine WPL.nilW ?_
 refine W.now ?_
 refine Then.n ?_
 refine WP.seq ?_
 refine WP.seq ?_
 obtain ⟨x99, H100, H⟩ := bnd H
 refine WP.monoW (Q := fun x E M => x = .normal ∧ E = ((Env.none.upd 0 (.lit (.int .i64 x49))).upd 12 (.lit (.bool x99))) ∧ M = Mem.nil) ?_ ?_
 · clear H
   have H := H100
   clear H100
   refine WP.region ?_
   refine WPL.q (q_mv (v := .lit (.int _ _)) rfl) rfl ?_
   refine WPL.q (q_lss rfl rfl) rfl ?_
   refine WPL.q (q_mv (v := .lit (.bool _)) rfl) rfl ?_
   refine WPL.split (t := 9) (b := (decide (x49 < 257))) rfl (fun hb99 => ?_) (fun hb99 => ?_)
   · replace H := cnt hb99 H
     refine WPL.skipg (b' := true) rfl rfl (lb hb99) rfl rfl (.inl trivial) ?_
     refine WPL.skipg (b' := true) rfl rfl (lb hb99) rfl rfl (.inl trivial) ?_
     refine WPL.q (q_pickT (v := .lit (.bool _)) (lb hb99) rfl) rfl ?_
     refine WPL.nilW ?_
     have q0 := (Option.some.inj H)
     subst q0
     exact W.wk [] hnp ⟨rfl, rfl, rfl⟩ ⟨rfl, trivial, by decide, rfl, trivial⟩ (LeE.upd rfl rfl (LeE.upd rfl rfl (LeE.none rfl rfl))) rfl
   replace H := cnf hb99 H
   refine WPL.qg rfl rfl (lb hb99) (q_mv (v := .lit (.int _ _)) rfl) rfl ?_
   refine WPL.qg rfl rfl (lb hb99) (q_gtr rfl rfl) rfl ?_
   refine WPL.q (q_pickF (v := .lit (.bool _)) (lb hb99) rfl) rfl ?_
   refine WPL.nilW ?_
   have q0 := (Option.some.inj H)
   subst q0
   exact W.wk [] hnp ⟨rfl, rfl, rfl⟩ ⟨rfl, trivial, by decide, rfl, trivial⟩ (LeE.upd rfl rfl (LeE.upd rfl rfl (LeE.none rfl rfl))) rfl
 rintro _ _ _ ⟨rfl, rfl, rfl⟩
 refine W.now ?_
 refine Then.n ?_
 refine WP.cond (t := x99) rfl (fun hb101 => ?_) (fun hb101 => ?_)
 · replace H := cnt hb101 H
   refine WP.seq ?_
   refine WP.region ?_
   refine WPL.q (q_as (v := .lit (.int _ _)) rfl) rfl ?_
   refine WPL.q (q_as (v := .lit (.int _ _)) rfl) rfl ?_
   refine WPL.q (q_as (v := .lit (.bool _)) rfl) rfl ?_
   refine WPL.nilW ?_
   refine W.now ?_
   refine Then.n ?_
   refine WP.retW ?_
   have q0 := (Prod.mk.inj (Option.some.inj H)).1
   have q1 := (Prod.mk.inj (Prod.mk.inj (Option.some.inj H)).2).1
   have q2 := (Prod.mk.inj (Prod.mk.inj (Option.some.inj H)).2).2
   subst q0
   subst q1
   subst q2
   exact W.now (Then.r (BodyR.mkR trivial rfl [] ⟨rfl, rfl⟩ ⟨rfl, trivial, by decide, rfl, trivial⟩ rfl rfl))
 replace H := cnf hb101 H
 refine WP.skipW ?_
 refine W.now ?_
 refine Then.n ?_
 refine WP.seq ?_
 refine WP.seq ?_
 refine WP.region ?_
 refine WPL.q (q_mv (v := .lit (.int _ _)) rfl) rfl ?_
 refine WPL.q (q_eql rfl rfl) rfl ?_
 refine WPL.nilW ?_
 refine W.now ?_
 refine Then.n ?_
 refine WP.cond (t := (decide (x49 = 285))) rfl (fun hb103 => ?_) (fun hb103 => ?_)
 · replace H := cnt hb103 H
   refine WP.seq ?_
   refine WP.region ?_
   refine WPL.q (q_as (v := .lit (.int _ _)) rfl) rfl ?_
   refine WPL.q (q_as (v := .lit (.int _ _)) rfl) rfl ?_
   refine WPL.q (q_as (v := .lit (.bool _)) rfl) rfl ?_
   refine WPL.nilW ?_
   refine W.now ?_
   refine Then.n ?_
   refine WP.retW ?_
   have q0 := (Prod.mk.inj (Option.some.inj H)).1
   have q1 := (Prod.mk.inj (Prod.mk.inj (Option.some.inj H)).2).1
   have q2 := (Prod.mk.inj (Prod.mk.inj (Option.some.inj H)).2).2
   subst q0
   subst q1
   subst q2
   exact W.now (Then.r (BodyR.mkR trivial rfl [] ⟨rfl, rfl⟩ ⟨rfl, trivial, by decide, rfl, trivial⟩ rfl rfl))
 replace H := cnf hb103 H
 refine WP.skipW ?_
 refine W.now ?_
 refine Then.n ?_
 refine WP.seq ?_
 refine WP.region ?_
 refine WPL.q (q_as (v := .lit (.int _ _)) rfl) rfl ?_
 refine WPL.nilW ?_
 refine W.now ?_
 refine Then.n ?_
 refine WP.seq ?_
 refine WP.seq ?_
 refine WP.region ?_
 refine WPL.q (q_as (v := .lit (.int _ _)) rfl) rfl ?_
 refine WPL.nilW ?_
 refine W.now ?_
 refine Then.n ?_
 refine WP.block ?_
 refine WP.cv (Cv.weak (E' := (((Env.none.upd 0 (.lit (.int .i64 x49))).upd 5 (.lit (.int .i64 3))).upd 6 (.lit (.int .i64 257)))) (M' := Mem.nil) [] hnp ⟨rfl, trivial, by decide, rfl, trivial⟩ (LeE.upd rfl rfl (LeE.upd rfl rfl (LeE.upd rfl rfl (LeE.none rfl rfl))))) ?_
 obtain ⟨x119, H125, H⟩ := bnd H
 refine WP.monoW (Q := fun x E M => x = .exit 0 ∧ E = ((Env.none.upd 0 (.lit (.int .i64 x49))).upd 5 (.lit (.int .i64 x119))) ∧ M = Mem.nil) ?_ ?_
 · refine WP.loop (β := Int × Int) (fun n b => g_quireref03_Lit_l0 k x49 n b.1 b.2 = some x119) (fun b => (((Env.none.upd 0 (.lit (.int .i64 x49))).upd 5 (.lit (.int .i64 b.1))).upd 6 (.lit (.int .i64 b.2)))) (fun b => Mem.nil) k (3, 257) H125 rfl rfl ?_
   rintro n ⟨x111, x112⟩ H
   obtain _ | n := n
   · exact nf rfl H
   rw [g_quireref03_Lit_l0.eq_2] at H
   show WP _ _ _ _ (((Env.none.upd 0 (.lit (.int .i64 x49))).upd 5 (.lit (.int .i64 x111))).upd 6 (.lit (.int .i64 x112))) Mem.nil _
   refine WP.seq ?_
   refine WP.seq ?_
   refine WP.region ?_
   refine WPL.q (q_mv (v := .lit (.int _ _)) rfl) rfl ?_
   refine WPL.q (q_mv (v := .lit (.int _ _)) rfl) rfl ?_
   refine WPL.q (q_lss rfl rfl) rfl ?_
   refine WPL.nilW ?_
   refine W.now ?_
   refine Then.n ?_
   refine WP.cond (t := (decide (x112 < x49))) rfl (fun hb120 => ?_) (fun hb120 => ?_)
   · replace H := cnt hb120 H
     refine WP.skipW ?_
     refine W.now ?_
     refine Then.n ?_
     refine WP.seq ?_
     refine WP.block ?_
     refine WP.region ?_
     refine WPL.q (q_mv (v := .lit (.int _ _)) rfl) rfl ?_
     refine WPL.q (q_mv (v := .lit (.int _ _)) rfl) rfl ?_
     obtain ⟨x123, h121, H⟩ := bnd H
     refine WPL.c (runs_call (s := []) (t := []) (N := 0) (bor := []) fn18 rfl (s_quireref03_litBits k x112 x123 h121) ⟨rfl, trivial, by decide, rfl, trivial⟩ rfl trivial (.ren rfl rfl .nil) rfl trivial rfl) rfl ?_
     refine WPL.q (q_conv Try.underlying3 Try.underlying36 rfl) rfl ?_
     obtain ⟨h123, H⟩ := grd H
     refine WPL.q (q_shl rfl rfl h123) rfl ?_
     obtain ⟨x125, h125, H⟩ := bnd H
     refine WPL.q (q_nm (q_add rfl rfl) (nm_int h125)) rfl ?_
     refine WPL.q (q_as (v := .lit (.int _ _)) rfl) rfl ?_
     refine WPL.nilW ?_
     refine W.now ?_
     refine InBlock.n ?_
     refine Then.n ?_
     refine WP.region ?_
     refine WPL.q (q_mv (v := .lit (.int _ _)) rfl) rfl ?_
     refine WPL.q (q_add rfl rfl) rfl ?_
     refine WPL.q (q_as (v := .lit (.int _ _)) rfl) rfl ?_
     refine WPL.nilW ?_
     exact W.wk [] hnp (Then.n ⟨n, (x125, (IntKind.wrap .i64 (x112 + 1))), Nat.lt_succ_self n, H, rfl, rfl⟩) ⟨rfl, trivial, by decide, rfl, trivial⟩ (LeE.upd rfl rfl (LeE.upd rfl rfl (LeE.upd rfl rfl (LeE.none rfl rfl)))) rfl
   replace H := cnf hb120 H
   refine WP.exitW ?_
   have q0 := (Option.some.inj H)
   subst q0
   exact W.wk [] hnp (Then.x (Then.x ⟨rfl, rfl, rfl⟩)) ⟨rfl, trivial, by decide, rfl, trivial⟩ (LeE.upd rfl rfl (LeE.upd rfl rfl (LeE.none rfl rfl))) rfl
 rintro _ _ _ ⟨rfl, rfl, rfl⟩
 refine W.now ?_
 refine InBlock.x0 ?_
 refine Then.n ?_
 refine WP.seq ?_
 refine WP.region ?_
 refine WPL.q (q_mv (v := .lit (.int _ _)) rfl) rfl ?_
 refine WPL.q (q_mv (v := .lit (.int _ _)) rfl) rfl ?_
 obtain ⟨x128, h126, H⟩ := bnd H
 refine WPL.c (runs_call (s := []) (t := []) (N := 0) (bor := []) fn18 rfl (s_quireref03_litBits k x49 x128 h126) ⟨rfl, trivial, by decide, rfl, trivial⟩ rfl trivial (.ren rfl rfl .nil) rfl trivial rfl) rfl ?_
 refine WPL.q (q_as (v := .lit (.int _ _)) rfl) rfl ?_
 refine WPL.q (q_as (v := .lit (.int _ _)) rfl) rfl ?_
 refine WPL.q (q_as (v := .lit (.bool _)) rfl) rfl ?_
 refine WPL.nilW ?_
 refine W.now ?_
 refine Then.n ?_
 refine WP.retW ?_
 have q0 := (Prod.mk.inj (Option.some.inj H)).1
 have q1 := (Prod.mk.inj (Prod.mk.inj (Option.some.inj H)).2).1
 have q2 := (Prod.mk.inj (Prod.mk.inj (Option.some.inj H)).2).2
 subst q0
 subst q1
 subst q2
 exact W.now (BodyR.mkR trivial rfl [] ⟨rfl, rfl⟩ ⟨rfl, trivial, by decide, rfl, trivial⟩ rfl rfl)
set_option maxRecDepth 100000 in
set_option maxHeartbeats 4000000 in
theorem s_inflate_Dist (k : Nat) (x133 : Int) (x151 : Int) (x152 : Int) (x153 : Bool) (H : g_inflate_Dist k x133 = some (x151, x152, x153)) : Go.Q.Spec Try.prog 8 0 [.lit (.int .i64 x133)] Mem.nil (fun o M => o = .ret (.tup [.lit (.int .i64 x151), .lit (.int .i64 x152), .lit (.bool x153)]) ∧ M = Mem.nil) := by
 unfold g_inflate_Dist at H
 refine Go.Q.Spec.of_bodyR (az := []) (rs := [.tmp 2, .tmp 3, .tmp 4]) (nt := 27) Try.func8 rfl rfl (by intro t T h; simp at h) rfl rfl fun cx hnp => ?_
 refine WP.seq ?_
 refine WP.region ?_
 refine WPL.q (q_as (v := .lit (.int _ _)) rfl) rfl ?_
 refine WPL.q (q_as (v := .lit (.int _ _)) rfl) rfl ?_
 refine WPL.q (q_as (v := .lit (.bool _)) rfl) rfl ?_
 refine WPL.nilW ?_
 refine W.now ?_
 refine Then.n ?_
 refine WP.seq ?_
 refine WP.block ?_
 refine WP.seq ?_
 obtain ⟨x161, H162, H⟩ := bnd H
 refine WP.monoW (Q := fun x E M => x = .normal ∧ E = ((Env.none.upd 0 (.lit (.int .i64 x133))).upd 5 (.lit (.bool x161))) ∧ M = Mem.nil) ?_ ?_
 · clear H
   have H := H162
   clear H162
   refine WP.region ?_
   refine WPL.q (q_mv (v := .lit (.int _ _)) rfl) rfl ?_
   refine WPL.q (q_lss rfl rfl) rfl ?_
   refine WPL.q (q_mv (v := .lit (.bool _)) rfl) rfl ?_
   refine WPL.split (t := 8) (b := (decide (x133 < 0))) rfl (fun hb161 => ?_) (fun hb161 => ?_)
   · replace H := cnt hb161 H
     refine WPL.skipg (b' := true) rfl rfl (lb hb161) rfl rfl (.inl trivial) ?_
     refine WPL.skipg (b' := true) rfl rfl (lb hb161) rfl rfl (.inl trivial) ?_
     refine WPL.q (q_pickT (v := .lit (.bool _)) (lb hb161) rfl) rfl ?_
     refine WPL.q (q_as (v := .lit (.bool _)) rfl) rfl ?_
     refine WPL.nilW ?_
     have q0 := (Option.some.inj H)
     subst q0
     exact W.wk [] hnp ⟨rfl, rfl, rfl⟩ ⟨rfl, trivial, by decide, rfl, trivial⟩ (LeE.upd rfl rfl (LeE.upd rfl rfl (LeE.none rfl rfl))) rfl
   replace H := cnf hb161 H
   refine WPL.qg rfl rfl (lb hb161) (q_mv (v := .lit (.int _ _)) rfl) rfl ?_
   refine WPL.qg rfl rfl (lb hb161) (q_gtr rfl rfl) rfl ?_
   refine WPL.q (q_pickF (v := .lit (.bool _)) (lb hb161) rfl) rfl ?_
   refine WPL.q (q_as (v := .lit (.bool _)) rfl) rfl ?_
   refine WPL.nilW ?_
   have q0 := (Option.some.inj H)
   subst q0
   exact W.wk [] hnp ⟨rfl, rfl, rfl⟩ ⟨rfl, trivial, by decide, rfl, trivial⟩ (LeE.upd rfl rfl (LeE.upd rfl rfl (LeE.none rfl rfl))) rfl
 rintro _ _ _ ⟨rfl, rfl, rfl⟩
 refine W.now ?_
 refine Then.n ?_
 refine WP.cond (t := x161) rfl (fun hb163 => ?_) (fun hb163 => ?_)
 · replace H := cnt hb163 H
   refine WP.seq ?_
   refine WP.region ?_
   refine WPL.q (q_as (v := .lit (.int _ _)) rfl) rfl ?_
   refine WPL.q (q_as (v := .lit (.int _ _)) rfl) rfl ?_
   refine WPL.q (q_as (v := .lit (.bool _)) rfl) rfl ?_
   refine WPL.nilW ?_
   refine W.now ?_
   refine Then.n ?_
   refine WP.retW ?_
   have q0 := (Prod.mk.inj (Option.some.inj H)).1
   have q1 := (Prod.mk.inj (Prod.mk.inj (Option.some.inj H)).2).1
   have q2 := (Prod.mk.inj (Prod.mk.inj (Option.some.inj H)).2).2
   subst q0
   subst q1
   subst q2
   exact W.now (InBlock.r (Then.r (BodyR.mkR trivial rfl [] ⟨rfl, rfl⟩ ⟨rfl, trivial, by decide, rfl, trivial⟩ rfl rfl)))
 replace H := cnf hb163 H
 refine WP.seq ?_
 refine WP.region ?_
 refine WPL.q (q_mv (v := .lit (.int _ _)) rfl) rfl ?_
 refine WPL.q (q_lss rfl rfl) rfl ?_
 refine WPL.q (q_as (v := .lit (.bool _)) rfl) rfl ?_
 refine WPL.nilW ?_
 refine W.now ?_
 refine Then.n ?_
 refine WP.cond (t := (decide (x133 < 4))) rfl (fun hb164 => ?_) (fun hb164 => ?_)
 · replace H := cnt hb164 H
   refine WP.seq ?_
   refine WP.region ?_
   refine WPL.q (q_mv (v := .lit (.int _ _)) rfl) rfl ?_
   refine WPL.q (q_add rfl rfl) rfl ?_
   refine WPL.q (q_as (v := .lit (.int _ _)) rfl) rfl ?_
   refine WPL.q (q_as (v := .lit (.int _ _)) rfl) rfl ?_
   refine WPL.q (q_as (v := .lit (.bool _)) rfl) rfl ?_
   refine WPL.nilW ?_
   refine W.now ?_
   refine Then.n ?_
   refine WP.retW ?_
   have q0 := (Prod.mk.inj (Option.some.inj H)).1
   have q1 := (Prod.mk.inj (Prod.mk.inj (Option.some.inj H)).2).1
   have q2 := (Prod.mk.inj (Prod.mk.inj (Option.some.inj H)).2).2
   subst q0
   subst q1
   subst q2
   exact W.now (InBlock.r (Then.r (BodyR.mkR trivial rfl [] ⟨rfl, rfl⟩ ⟨rfl, trivial, by decide, rfl, trivial⟩ rfl rfl)))
 replace H := cnf hb164 H
 refine WP.skipW ?_
 refine W.now ?_
 refine InBlock.n ?_
 refine Then.n ?_
 refine WP.seq ?_
 refine WP.region ?_
 refine WPL.q (q_mv (v := .lit (.int _ _)) rfl) rfl ?_
 refine WPL.q (q_quo rfl rfl rfl) rfl ?_
 obtain ⟨x166, h166, H⟩ := bnd H
 refine WPL.q (q_nm (q_sub rfl rfl) (nm_int h166)) rfl ?_
 refine WPL.q (q_as (v := .lit (.int _ _)) rfl) rfl ?_
 refine WPL.nilW ?_
 refine W.now ?_
 refine Then.n ?_
 refine WP.seq ?_
 refine WP.region ?_
 refine WPL.q (q_mv (v := .lit (.int _ _)) rfl) rfl ?_
 refine WPL.q (q_rem rfl rfl rfl) rfl ?_
 obtain ⟨x167, h167, H⟩ := bnd H
 refine WPL.q (q_nm (q_add rfl rfl) (nm_int h167)) rfl ?_
 refine WPL.q (q_mv (v := .lit (.int _ _)) rfl) rfl ?_
 obtain ⟨h167, H⟩ := grd H
 refine WPL.q (q_shl rfl rfl h167) rfl ?_
 obtain ⟨x169, h169, H⟩ := bnd H
 refine WPL.q (q_nm (q_add rfl rfl) (nm_int h169)) rfl ?_
 refine WPL.q (q_mv (v := .lit (.int _ _)) rfl) rfl ?_
 refine WPL.q (q_as (v := .lit (.int _ _)) rfl) rfl ?_
 refine WPL.q (q_as (v := .lit (.int _ _)) rfl) rfl ?_
 refine WPL.q (q_as (v := .lit (.bool _)) rfl) rfl ?_
 refine WPL.nilW ?_
 refine W.now ?_
 refine Then.n ?_
 refine WP.retW ?_
 have q0 := (Prod.mk.inj (Option.some.inj H)).1
 have q1 := (Prod.mk.inj (Prod.mk.inj (Option.some.inj H)).2).1
 have q2 := (Prod.mk.inj (Prod.mk.inj (Option.some.inj H)).2).2
 subst q0
 subst q1
 subst q2
 exact W.now (BodyR.mkR trivial rfl [] ⟨rfl, rfl⟩ ⟨rfl, trivial, by decide, rfl, trivial⟩ rfl rfl)
set_option maxRecDepth 100000 in
set_option maxHeartbeats 4000000 in
theorem s_quireref03_distBits (k : Nat) (x188 : Int) (x193 : Int) (H : g_quireref03_distBits k x188 = some x193) : Go.Q.Spec Try.prog 19 0 [.lit (.int .i64 x188)] Mem.nil (fun o M => o = .ret (.lit (.int .i64 x193)) ∧ M = Mem.nil) := by
 unfold g_quireref03_distBits at H
 refine Go.Q.Spec.of_bodyR (az := []) (rs := [.tmp 2]) (nt := 8) Try.func19 rfl rfl (by intro t T h; simp at h) rfl rfl fun cx hnp => ?_
 refine WP.seq ?_
 refine WP.region ?_
 refine WPL.q (q_as (v := .lit (.int _ _)) rfl) rfl ?_
 refine WPL.nilW ?_
 refine W.now ?_
 refine Then.n ?_
 refine WP.seq ?_
 refine WP.seq ?_
 refine WP.region ?_
 refine WPL.q (q_mv (v := .lit (.int _ _)) rfl) rfl ?_
 refine WPL.q (q_lss rfl rfl) rfl ?_
 refine WPL.nilW ?_
 refine W.now ?_
 refine Then.n ?_
 refine WP.cond (t := (decide (x188 < 4))) rfl (fun hb194 => ?_) (fun hb194 => ?_)
 · replace H := cnt hb194 H
   refine WP.seq ?_
   refine WP.region ?_
   refine WPL.q (q_as (v := .lit (.int _ _)) rfl) rfl ?_
   refine WPL.nilW ?_
   refine W.now ?_
   refine Then.n ?_
   refine WP.retW ?_
   have q0 := (Option.some.inj H)
   subst q0
   exact W.now (Then.r (BodyR.mkR trivial rfl [] ⟨rfl, rfl⟩ ⟨rfl, trivial, by decide, rfl, trivial⟩ rfl rfl))
 replace H := cnf hb194 H
 refine WP.skipW ?_
 refine W.now ?_
 refine Then.n ?_
 refine WP.seq ?_
 refine WP.region ?_
 refine WPL.q (q_mv (v := .lit (.int _ _)) rfl) rfl ?_
 refine WPL.q (q_quo rfl rfl rfl) rfl ?_
 obtain ⟨x196, h196, H⟩ := bnd H
 refine WPL.q (q_nm (q_sub rfl rfl) (nm_int h196)) rfl ?_
 refine WPL.q (q_as (v := .lit (.int _ _)) rfl) rfl ?_
 refine WPL.nilW ?_
 refine W.now ?_
 refine Then.n ?_
 refine WP.retW ?_
 have q0 := (Option.some.inj H)
 subst q0
 exact W.now (BodyR.mkR trivial rfl [] ⟨rfl, rfl⟩ ⟨rfl, trivial, by decide, rfl, trivial⟩ rfl rfl)
set_option maxRecDepth 100000 in
set_option maxHeartbeats 4000000 in
theorem s_quireref03_Dist (k : Nat) (x174 : Int) (x213 : Int) (x214 : Int) (x215 : Bool) (H : g_quireref03_Dist k x174 = some (x213, x214, x215)) : Go.Q.Spec Try.prog 9 0 [.lit (.int .i64 x174)] Mem.nil (fun o M => o = .ret (.tup [.lit (.int .i64 x213), .lit (.int .i64 x214), .lit (.bool x215)]) ∧ M = Mem.nil) := by
 unfold g_quireref03_Dist at H
 refine Go.Q.Spec.of_bodyR (az := []) (rs := [.tmp 2, .tmp 3, .tmp 4]) (nt := 27) Try.func9 rfl rfl (by intro t T h; simp at h) rfl rfl fun cx hnp => ?_
 refine WP.seq ?_
 refine WP.region ?_
 refine WPL.q (q_as (v := .lit (.int _ _)) rfl) rfl ?_
 refine WPL.q (q_as (v := .lit (.int _ _)) rfl) rfl ?_
 refine WPL.q (q_as (v := .lit (.bool _)) rfl) rfl ?_
 refine WPL.nilW ?_
 refine W.now ?_
 refine Then.n ?_
 refine WP.seq ?_
 refine WP.seq ?_
 obtain ⟨x222, H223, H⟩ := bnd H
 refine WP.monoW (Q := fun x E M => x = .normal ∧ E = ((Env.none.upd 0 (.lit (.int .i64 x174))).upd 12 (.lit (.bool x222))) ∧ M = Mem.nil) ?_ ?_
 · clear H
   have H := H223
   clear H223
   refine WP.region ?_
   refine WPL.q (q_mv (v := .lit (.int _ _)) rfl) rfl ?_
   refine WPL.q (q_lss rfl rfl) rfl ?_
   refine WPL.q (q_mv (v := .lit (.bool _)) rfl) rfl ?_
   refine WPL.split (t := 9) (b := (decide (x174 < 0))) rfl (fun hb222 => ?_) (fun hb222 => ?_)
   · replace H := cnt hb222 H
     refine WPL.skipg (b' := true) rfl rfl (lb hb222) rfl rfl (.inl trivial) ?_
     refine WPL.skipg (b' := true) rfl rfl (lb hb222) rfl rfl (.inl trivial) ?_
     refine WPL.q (q_pickT (v := .lit (.bool _)) (lb hb222) rfl) rfl ?_
     refine WPL.nilW ?_
     have q0 := (Option.some.inj H)
     subst q0
     exact W.wk [] hnp ⟨rfl, rfl, rfl⟩ ⟨rfl, trivial, by decide, rfl, trivial⟩ (LeE.upd rfl rfl (LeE.upd rfl rfl (LeE.none rfl rfl))) rfl
   replace H := cnf hb222 H
   refine WPL.qg rfl rfl (lb hb222) (q_mv (v := .lit (.int _ _)) rfl) rfl ?_
   refine WPL.qg rfl rfl (lb hb222) (q_gtr rfl rfl) rfl ?_
   refine WPL.q (q_pickF (v := .lit (.bool _)) (lb hb222) rfl) rfl ?_
   refine WPL.nilW ?_
   have q0 := (Option.some.inj H)
   subst q0
   exact W.wk [] hnp ⟨rfl, rfl, rfl⟩ ⟨rfl, trivial, by decide, rfl, trivial⟩ (LeE.upd rfl rfl (LeE.upd rfl rfl (LeE.none rfl rfl))) rfl
 rintro _ _ _ ⟨rfl, rfl, rfl⟩
 refine W.now ?_
 refine Then.n ?_
 refine WP.cond (t := x222) rfl (fun hb224 => ?_) (fun hb224 => ?_)
 · replace H := cnt hb224 H
   refine WP.seq ?_
   refine WP.region ?_
   refine WPL.q (q_as (v := .lit (.int _ _)) rfl) rfl ?_
   refine WPL.q (q_as (v := .lit (.int _ _)) rfl) rfl ?_
   refine WPL.q (q_as (v := .lit (.bool _)) rfl) rfl ?_
   refine WPL.nilW ?_
   refine W.now ?_
   refine Then.n ?_
   refine WP.retW ?_
   have q0 := (Prod.mk.inj (Option.some.inj H)).1
   have q1 := (Prod.mk.inj (Prod.mk.inj (Option.some.inj H)).2).1
   have q2 := (Prod.mk.inj (Prod.mk.inj (Option.some.inj H)).2).2
   subst q0
   subst q1
   subst q2
   exact W.now (Then.r (BodyR.mkR trivial rfl [] ⟨rfl, rfl⟩ ⟨rfl, trivial, by decide, rfl, trivial⟩ rfl rfl))
 replace H := cnf hb224 H
 refine WP.skipW ?_
 refine W.now ?_
 refine Then.n ?_
 refine WP.seq ?_
 refine WP.region ?_
 refine WPL.q (q_as (v := .lit (.int _ _)) rfl) rfl ?_
 refine WPL.nilW ?_
 refine W.now ?_
 refine Then.n ?_
 refine WP.seq ?_
 refine WP.seq ?_
 refine WP.region ?_
 refine WPL.q (q_as (v := .lit (.int _ _)) rfl) rfl ?_
 refine WPL.nilW ?_
 refine W.now ?_
 refine Then.n ?_
 refine WP.block ?_
 refine WP.cv (Cv.weak (E' := (((Env.none.upd 0 (.lit (.int .i64 x174))).upd 5 (.lit (.int .i64 1))).upd 6 (.lit (.int .i64 0)))) (M' := Mem.nil) [] hnp ⟨rfl, trivial, by decide, rfl, trivial⟩ (LeE.upd rfl rfl (LeE.upd rfl rfl (LeE.upd rfl rfl (LeE.none rfl rfl))))) ?_
 obtain ⟨x240, H246, H⟩ := bnd H
 refine WP.monoW (Q := fun x E M => x = .exit 0 ∧ E = ((Env.none.upd 0 (.lit (.int .i64 x174))).upd 5 (.lit (.int .i64 x240))) ∧ M = Mem.nil) ?_ ?_
 · refine WP.loop (β := Int × Int) (fun n b => g_quireref03_Dist_l0 k x174 n b.1 b.2 = some x240) (fun b => (((Env.none.upd 0 (.lit (.int .i64 x174))).upd 5 (.lit (.int .i64 b.1))).upd 6 (.lit (.int .i64 b.2)))) (fun b => Mem.nil) k (1, 0) H246 rfl rfl ?_
   rintro n ⟨x232, x233⟩ H
   obtain _ | n := n
   · exact nf rfl H
   rw [g_quireref03_Dist_l0.eq_2] at H
   show WP _ _ _ _ (((Env.none.upd 0 (.lit (.int .i64 x174))).upd 5 (.lit (.int .i64 x232))).upd 6 (.lit (.int .i64 x233))) Mem.nil _
   refine WP.seq ?_
   refine WP.seq ?_
   refine WP.region ?_
   refine WPL.q (q_mv (v := .lit (.int _ _)) rfl) rfl ?_
   refine WPL.q (q_mv (v := .lit (.int _ _)) rfl) rfl ?_
   refine WPL.q (q_lss rfl rfl) rfl ?_
   refine WPL.nilW ?_
   refine W.now ?_
   refine Then.n ?_
   refine WP.cond (t := (decide (x233 < x174))) rfl (fun hb241 => ?_) (fun hb241 => ?_)
   · replace H := cnt hb241 H
     refine WP.skipW ?_
     refine W.now ?_
     refine Then.n ?_
     refine WP.seq ?_
     refine WP.block ?_
     refine WP.region ?_
     refine WPL.q (q_mv (v := .lit (.int _ _)) rfl) rfl ?_
     refine WPL.q (q_mv (v := .lit (.int _ _)) rfl) rfl ?_
     obtain ⟨x244, h242, H⟩ := bnd H
     refine WPL.c (runs_call (s := []) (t := []) (N := 0) (bor := []) fn19 rfl (s_quireref03_distBits k x233 x244 h242) ⟨rfl, trivial, by decide, rfl, trivial⟩ rfl trivial (.ren rfl rfl .nil) rfl trivial rfl) rfl ?_
     refine WPL.q (q_conv Try.underlying3 Try.underlying36 rfl) rfl ?_
     obtain ⟨h244, H⟩ := grd H
     refine WPL.q (q_shl rfl rfl h244) rfl ?_
     obtain ⟨x246, h246, H⟩ := bnd H
     refine WPL.q (q_nm (q_add rfl rfl) (nm_int h246)) rfl ?_
     refine WPL.q (q_as (v := .lit (.int _ _)) rfl) rfl ?_
     refine WPL.nilW ?_
     refine W.now ?_
     refine InBlock.n ?_
     refine Then.n ?_
     refine WP.region ?_
     refine WPL.q (q_mv (v := .lit (.int _ _)) rfl) rfl ?_
     refine WPL.q (q_add rfl rfl) rfl ?_
     refine WPL.q (q_as (v := .lit (.int _ _)) rfl) rfl ?_
     refine WPL.nilW ?_
     exact W.wk [] hnp (Then.n ⟨n, (x246, (IntKind.wrap .i64 (x233 + 1))), Nat.lt_succ_self n, H, rfl, rfl⟩) ⟨rfl, trivial, by decide, rfl, trivial⟩ (LeE.upd rfl rfl (LeE.upd rfl rfl (LeE.upd rfl rfl (LeE.none rfl rfl)))) rfl
   replace H := cnf hb241 H
   refine WP.exitW ?_
   have q0 := (Option.some.inj H)
   subst q0
   exact W.wk [] hnp (Then.x (Then.x ⟨rfl, rfl, rfl⟩)) ⟨rfl, trivial, by decide, rfl, trivial⟩ (LeE.upd rfl rfl (LeE.upd rfl rfl (LeE.none rfl rfl))) rfl
 rintro _ _ _ ⟨rfl, rfl, rfl⟩
 refine W.now ?_
 refine InBlock.x0 ?_
 refine Then.n ?_
 refine WP.seq ?_
 refine WP.region ?_
 refine WPL.q (q_mv (v := .lit (.int _ _)) rfl) rfl ?_
 refine WPL.q (q_mv (v := .lit (.int _ _)) rfl) rfl ?_
 obtain ⟨x249, h247, H⟩ := bnd H
 refine WPL.c (runs_call (s := []) (t := []) (N := 0) (bor := []) fn19 rfl (s_quireref03_distBits k x174 x249 h247) ⟨rfl, trivial, by decide, rfl, trivial⟩ rfl trivial (.ren rfl rfl .nil) rfl trivial rfl) rfl ?_
 refine WPL.q (q_as (v := .lit (.int _ _)) rfl) rfl ?_
 refine WPL.q (q_as (v := .lit (.int _ _)) rfl) rfl ?_
 refine WPL.q (q_as (v := .lit (.bool _)) rfl) rfl ?_
 refine WPL.nilW ?_
 refine W.now ?_
 refine Then.n ?_
 refine WP.retW ?_
 have q0 := (Prod.mk.inj (Option.some.inj H)).1
 have q1 := (Prod.mk.inj (Prod.mk.inj (Option.some.inj H)).2).1
 have q2 := (Prod.mk.inj (Prod.mk.inj (Option.some.inj H)).2).2
 subst q0
 subst q1
 subst q2
 exact W.now (BodyR.mkR trivial rfl [] ⟨rfl, rfl⟩ ⟨rfl, trivial, by decide, rfl, trivial⟩ rfl rfl)
set_option maxRecDepth 100000 in
set_option maxHeartbeats 4000000 in
theorem s_inflate_laid (k : Nat) (x261 : (List S_inflate_run)) (x312 : (List Int)) (H : g_inflate_laid k x261 = some x312) : Go.Q.Spec Try.prog 20 0 [.ro (Rd.slice rdS_inflate_run) true x261] Mem.nil (fun o M => o = .ret (.ro (Rd.slice (Rd.int .i64)) false x312) ∧ M = Mem.nil) := by
 unfold g_inflate_laid at H
 refine Go.Q.Spec.of_bodyR (az := []) (rs := [.tmp 2]) (nt := 24) Try.func20 rfl rfl (by intro t T h; simp at h) rfl rfl fun cx hnp => ?_
 refine WP.seq ?_
 refine WP.region ?_
 refine WPL.q (q_as (v := .lit _) rfl) rfl ?_
 refine WPL.nilW ?_
 refine W.now ?_
 refine Then.n ?_
 refine WP.seq ?_
 refine WP.region ?_
 refine WPL.q (q_as (v := .lit _) rfl) rfl ?_
 refine WPL.nilW ?_
 refine W.now ?_
 refine Then.n ?_
 refine WP.seq ?_
 refine WP.seq ?_
 refine WP.region ?_
 refine WPL.q (q_mv (v := .ro _ _ _) rfl) rfl ?_
 refine WPL.q (q_len_ro sl49 rfl) rfl ?_
 refine WPL.q (q_mv (v := .lit (.int _ _)) rfl) rfl ?_
 refine WPL.nilW ?_
 refine W.now ?_
 refine Then.n ?_
 refine WP.block ?_
 refine WP.cv (Cv.vir 3 (Rd.int .i64) (N := 0) rfl 3 rfl) ?_
 refine WP.cv (Cv.weak (E' := ((((Env.none.upd 3 (.whole 0)).upd 6 (.ro (Rd.slice rdS_inflate_run) true x261)).upd 7 (.lit (.int .i64 ((List.length x261 : Nat) : Int)))).upd 8 (.lit (.int .i64 0)))) (M' := (Mem.nil.push (.row 3 (Rd.int .i64) ([] : List Int)))) [0] hnp ⟨rfl, ⟨trivial, .inr ⟨rfl, rfl, rfl⟩⟩, by decide, rfl, trivial⟩ (LeE.upd rfl rfl (LeE.upd rfl rfl (LeE.upd rfl rfl (LeE.upd rfl rfl (LeE.none rfl rfl)))))) ?_
 obtain ⟨x360, H377, H⟩ := bnd H
 refine WP.monoW (Q := fun x E M => x = .exit 0 ∧ E = (Env.none.upd 3 (.whole 0)) ∧ M = (Mem.nil.push (.row 3 (Rd.int .i64) x360))) ?_ ?_
 · refine WP.loop (β := Int × (List Int)) (fun n b => g_inflate_laid_l0 k x261 n b.1 b.2 = some x360) (fun b => ((((Env.none.upd 3 (.whole 0)).upd 6 (.ro (Rd.slice rdS_inflate_run) true x261)).upd 7 (.lit (.int .i64 ((List.length x261 : Nat) : Int)))).upd 8 (.lit (.int .i64 b.1)))) (fun b => (Mem.nil.push (.row 3 (Rd.int .i64) b.2))) k (0, ([] : List Int)) H377 rfl rfl ?_
   rintro n ⟨x344, x345⟩ H
   obtain _ | n := n
   · exact nf rfl H
   rw [g_inflate_laid_l0.eq_2] at H
   show WP _ _ _ _ ((((Env.none.upd 3 (.whole 0)).upd 6 (.ro (Rd.slice rdS_inflate_run) true x261)).upd 7 (.lit (.int .i64 ((List.length x261 : Nat) : Int)))).upd 8 (.lit (.int .i64 x344))) (Mem.nil.push (.row 3 (Rd.int .i64) x345)) _
   refine WP.seq ?_
   refine WP.region ?_
   obtain ⟨x361, h361, H⟩ := bnd H
   refine WPL.q (q_nm (q_lss rfl rfl) (nm_bool h361)) rfl ?_
   refine WPL.nilW ?_
   refine W.now ?_
   refine Then.n ?_
   refine WP.seq ?_
   refine WP.cond (t := x361) rfl (fun hb362 => ?_) (fun hb362 => ?_)
   · replace H := cnt hb362 H
     refine WP.skipW ?_
     refine W.now ?_
     refine Then.n ?_
     refine WP.seq ?_
     refine WP.block ?_
     refine WP.seq ?_
     refine WP.region ?_
     obtain ⟨x364, h364, H⟩ := bnd H
     refine WPL.q (q_index_ro sl49 rfl rfl rfl h364) rfl ?_
     refine WPL.q (q_load_roag ag40 rfl rfl S_inflate_run.sp) rfl ?_
     refine WPL.d (d_alloc ze40 rfl) rfl ?_
     refine WPL.s (s_store sz40 rfl rfl rfl rfl rfl) ?_
     refine WPL.nilW ?_
     refine W.now ?_
     refine Then.n ?_
     refine WP.seq ?_
     refine WP.region ?_
     refine WPL.q (q_fieldAddr fi40_0 rfl rfl) rfl ?_
     refine WPL.q (q_load sc3 rfl rfl rfl) rfl ?_
     refine WPL.q (q_mv (v := .lit (.int _ _)) rfl) rfl ?_
     refine WPL.nilW ?_
     refine W.now ?_
     refine Then.n ?_
     refine WP.block ?_
     refine WP.cv (Cv.weak (E' := (((((((Env.none.upd 3 (.whole 0)).upd 5 (.ptr 1 0)).upd 6 (.ro (Rd.slice rdS_inflate_run) true x261)).upd 7 (.lit (.int .i64 ((List.length x261 : Nat) : Int)))).upd 8 (.lit (.int .i64 x344))).upd 13 (.lit (.int .i64 x364.fmany))).upd 14 (.lit (.int .i64 0)))) (M' := ((Mem.nil.push (.row 3 (Rd.int .i64) x345)).push (.cells 40 [.lit (.int .i64 x364.fmany), .lit (.int .i64 x364.flength)]))) [0, 1] hnp ⟨rfl, ⟨⟨trivial, .inr ⟨rfl, rfl, rfl⟩⟩, .inr ⟨rfl, rfl, rfl⟩⟩, by decide, rfl, trivial⟩ (LeE.upd rfl rfl (LeE.upd rfl rfl (LeE.upd rfl rfl (LeE.upd rfl rfl (LeE.upd rfl rfl (LeE.upd rfl rfl (LeE.upd rfl rfl (LeE.none rfl rfl))))))))) ?_
     obtain ⟨x373, H376, H⟩ := bnd H
     refine WP.monoW (Q := fun x E M => x = .exit 2 ∧ E = ((((Env.none.upd 3 (.whole 0)).upd 6 (.ro (Rd.slice rdS_inflate_run) true x261)).upd 7 (.lit (.int .i64 ((List.length x261 : Nat) : Int)))).upd 8 (.lit (.int .i64 x344))) ∧ M = (Mem.nil.push (.row 3 (Rd.int .i64) x373))) ?_ ?_
     · refine WP.loop (β := Int × (List Int)) (fun n b => g_inflate_laid_l1 k x364 n b.1 b.2 = some x373) (fun b => (((((((Env.none.upd 3 (.whole 0)).upd 5 (.ptr 1 0)).upd 6 (.ro (Rd.slice rdS_inflate_run) true x261)).upd 7 (.lit (.int .i64 ((List.length x261 : Nat) : Int)))).upd 8 (.lit (.int .i64 x344))).upd 13 (.lit (.int .i64 x364.fmany))).upd 14 (.lit (.int .i64 b.1)))) (fun b => ((Mem.nil.push (.row 3 (Rd.int .i64) b.2)).push (.cells 40 [.lit (.int .i64 x364.fmany), .lit (.int .i64 x364.flength)]))) k (0, x345) H376 rfl rfl ?_
       rintro n ⟨x368, x369⟩ H
       obtain _ | n := n
       · exact nf rfl H
       rw [g_inflate_laid_l1.eq_2] at H
       show WP _ _ _ _ (((((((Env.none.upd 3 (.whole 0)).upd 5 (.ptr 1 0)).upd 6 (.ro (Rd.slice rdS_inflate_run) true x261)).upd 7 (.lit (.int .i64 ((List.length x261 : Nat) : Int)))).upd 8 (.lit (.int .i64 x344))).upd 13 (.lit (.int .i64 x364.fmany))).upd 14 (.lit (.int .i64 x368))) ((Mem.nil.push (.row 3 (Rd.int .i64) x369)).push (.cells 40 [.lit (.int .i64 x364.fmany), .lit (.int .i64 x364.flength)])) _
       refine WP.seq ?_
       refine WP.region ?_
       refine WPL.q (q_lss rfl rfl) rfl ?_
       refine WPL.nilW ?_
       refine W.now ?_
       refine Then.n ?_
       refine WP.seq ?_
       refine WP.cond (t := (decide (x368 < x364.fmany))) rfl (fun hb374 => ?_) (fun hb374 => ?_)
       · replace H := cnt hb374 H
         refine WP.skipW ?_
         refine W.now ?_
         refine Then.n ?_
         refine WP.seq ?_
         refine WP.block ?_
         refine WP.region ?_
         refine WPL.q (q_mv (v := .whole _) rfl) rfl ?_
         refine WPL.q (q_fieldAddr fi40_1 rfl rfl) rfl ?_
         refine WPL.q (q_load sc3 rfl rfl rfl) rfl ?_
         refine WPL.d (d_buildSlice (ds := ([x364.flength] : List Int)) (R := (Rd.int .i64)) li25 rfl rfl rfl rfl rfl (JoinRows.cons1 Joins.sc rfl JoinRows.nil) rfl rfl) rfl ?_
         obtain ⟨h375, H⟩ := grd H
         refine WPL.d (d_append ap25 rfl rfl rfl rfl (src_row sl25 rfl rfl) h375 rfl) rfl ?_
         refine WPL.q (q_as (v := .whole _) rfl) rfl ?_
         refine WPL.nilW ?_
         refine W.now ?_
         refine InBlock.n ?_
         refine Then.n ?_
         refine WP.region ?_
         refine WPL.q (q_add rfl rfl) rfl ?_
         refine WPL.q (q_mv (v := .lit (.int _ _)) rfl) rfl ?_
         refine WPL.nilW ?_
         exact W.wk [3, 1] hnp (Then.n ⟨n, ((IntKind.wrap .i64 (x368 + 1)), (x369 ++ ([x364.flength] : List Int))), Nat.lt_succ_self n, H, rfl, rfl⟩) ⟨rfl, ⟨⟨trivial, .inr ⟨rfl, rfl, rfl⟩⟩, .inr ⟨rfl, rfl, rfl⟩⟩, by decide, rfl, trivial⟩ (LeE.upd rfl rfl (LeE.upd rfl rfl (LeE.upd rfl rfl (LeE.upd rfl rfl (LeE.upd rfl rfl (LeE.upd rfl rfl (LeE.upd rfl rfl (LeE.none rfl rfl)))))))) rfl
       replace H := cnf hb374 H
       refine WP.exitW ?_
       have q0 := (Option.some.inj H)
       subst q0
       exact W.wk [0] hnp (Then.x (Then.x ⟨rfl, rfl, rfl⟩)) ⟨rfl, ⟨trivial, .inr ⟨rfl, rfl, rfl⟩⟩, by decide, rfl, trivial⟩ (LeE.upd rfl rfl (LeE.upd rfl rfl (LeE.upd rfl rfl (LeE.upd rfl rfl (LeE.none rfl rfl))))) rfl
     rintro _ _ _ ⟨rfl, rfl, rfl⟩
     refine W.now ?_
     refine InBlock.x0 ?_
     refine InBlock.n ?_
     refine Then.n ?_
     refine WP.region ?_
     refine WPL.q (q_add rfl rfl) rfl ?_
     refine WPL.q (q_mv (v := .lit (.int _ _)) rfl) rfl ?_
     refine WPL.nilW ?_
     exact W.wk [0] hnp (Then.n ⟨n, ((IntKind.wrap .i64 (x344 + 1)), x373), Nat.lt_succ_self n, H, rfl, rfl⟩) ⟨rfl, ⟨trivial, .inr ⟨rfl, rfl, rfl⟩⟩, by decide, rfl, trivial⟩ (LeE.upd rfl rfl (LeE.upd rfl rfl (LeE.upd rfl rfl (LeE.upd rfl rfl (LeE.none rfl rfl))))) rfl
   replace H := cnf hb362 H
   refine WP.exitW ?_
   have q0 := (Option.some.inj H)
   subst q0
   exact W.wk [0] hnp (Then.x (Then.x ⟨rfl, rfl, rfl⟩)) ⟨rfl, ⟨trivial, .inr ⟨rfl, rfl, rfl⟩⟩, by decide, rfl, trivial⟩ (LeE.upd rfl rfl (LeE.none rfl rfl)) rfl
 rintro _ _ _ ⟨rfl, rfl, rfl⟩
 refine W.now ?_
 refine InBlock.x0 ?_
 refine Then.n ?_
 refine WP.seq ?_
 refine WP.region ?_
 refine WPL.q (q_mv (v := .whole _) rfl) rfl ?_
 refine WPL.q (q_as (v := .whole _) rfl) rfl ?_
 refine WPL.nilW ?_
 refine W.now ?_
 refine Then.n ?_
 refine WP.retW ?_
 refine W.cv (Cv.frzRow (i := 0) rfl rfl hnp rfl rfl) rfl ?_
 have q0 := (Option.some.inj H)
 subst q0
 exact W.now (BodyR.mkR trivial rfl [] ⟨rfl, rfl⟩ ⟨rfl, trivial, by decide, rfl, trivial⟩ rfl rfl)
set_option maxRecDepth 100000 in
set_option maxHeartbeats 4000000 in
theorem s_inflate_FixedLit (k : Nat) (x381 : (List Int)) (H : g_inflate_FixedLit k = some x381) : Go.Q.Spec Try.prog 11 0 [] Mem.nil (fun o M => o = .ret (.ro (Rd.slice (Rd.int .i64)) false x381) ∧ M = Mem.nil) := by
 unfold g_inflate_FixedLit at H
 refine Go.Q.Spec.of_bodyR (az := []) (rs := [.tmp 0]) (nt := 7) Try.func11 rfl rfl (by intro t T h; simp at h) rfl rfl fun cx hnp => ?_
 refine WP.seq ?_
 refine WP.region ?_
 refine WPL.q (q_as (v := .lit _) rfl) rfl ?_
 refine WPL.nilW ?_
 refine W.now ?_
 refine Then.n ?_
 refine WP.seq ?_
 refine WP.region ?_
 refine WPL.q (q_build bu40 rfl) rfl ?_
 refine WPL.q (q_build bu40 rfl) rfl ?_
 refine WPL.q (q_build bu40 rfl) rfl ?_
 refine WPL.q (q_build bu40 rfl) rfl ?_
 refine WPL.d (d_buildSlice (ds := ([(⟨144, 8⟩ : S_inflate_run), (⟨112, 9⟩ : S_inflate_run), (⟨24, 7⟩ : S_inflate_run), (⟨8, 8⟩ : S_inflate_run)] : List S_inflate_run)) (R := rdS_inflate_run) li49 rfl rfl rfl rfl rfl (JoinRows.cons (l := [.lit (.int .i64 144), .lit (.int .i64 8)]) (Joins.via (Joins.cons Joins.sc (Joins.cons Joins.sc Joins.unit))) rfl (JoinRows.cons (l := [.lit (.int .i64 112), .lit (.int .i64 9)]) (Joins.via (Joins.cons Joins.sc (Joins.cons Joins.sc Joins.unit))) rfl (JoinRows.cons (l := [.lit (.int .i64 24), .lit (.int .i64 7)]) (Joins.via (Joins.cons Joins.sc (Joins.cons Joins.sc Joins.unit))) rfl (JoinRows.cons (l := [.lit (.int .i64 8), .lit (.int .i64 8)]) (Joins.via (Joins.cons Joins.sc (Joins.cons Joins.sc Joins.unit))) rfl JoinRows.nil)))) rfl rfl) rfl ?_
 obtain ⟨x383, h381, H⟩ := bnd H
 refine WPL.c (runs_call (s := []) (t := []) (N := 1) (bor := [0]) fn20 rfl (s_inflate_laid k ([(⟨144, 8⟩ : S_inflate_run), (⟨112, 9⟩ : S_inflate_run), (⟨24, 7⟩ : S_inflate_run), (⟨8, 8⟩ : S_inflate_run)] : List S_inflate_run) x383 h381) ⟨rfl, trivial, by decide, rfl, trivial⟩ rfl ⟨trivial, rfl, rfl, trivial⟩ (.row rfl rfl .nil) rfl trivial rfl) rfl ?_
 refine WPL.q (q_as (v := .ro _ _ _) rfl) rfl ?_
 refine WPL.nilW ?_
 refine W.now ?_
 refine Then.n ?_
 refine WP.retW ?_
 have q0 := (Option.some.inj H)
 subst q0
 exact W.now (BodyR.mkR trivial rfl [] ⟨rfl, rfl⟩ ⟨rfl, trivial, by decide, rfl, trivial⟩ rfl rfl)
set_option maxRecDepth 100000 in
set_option maxHeartbeats 4000000 in
theorem s_quireref03_FixedLit (k : Nat) (x447 : (List Int)) (H : g_quireref03_FixedLit k = some x447) : Go.Q.Spec Try.prog 12 0 [] Mem.nil (fun o M => o = .ret (.ro (Rd.slice (Rd.int .i64)) false x447) ∧ M = Mem.nil) := by
 unfold g_quireref03_FixedLit at H
 refine Go.Q.Spec.of_bodyR (az := []) (rs := [.tmp 0]) (nt := 25) Try.func12 rfl rfl (by intro t T h; simp at h) rfl rfl fun cx hnp => ?_
 refine WP.seq ?_
 refine WP.region ?_
 refine WPL.q (q_as (v := .lit _) rfl) rfl ?_
 refine WPL.nilW ?_
 refine W.now ?_
 refine Then.n ?_
 refine WP.seq ?_
 refine WP.region ?_
 refine WPL.q (q_as (v := .lit _) rfl) rfl ?_
 refine WPL.nilW ?_
 refine W.now ?_
 refine Then.n ?_
 refine WP.seq ?_
 refine WP.seq ?_
 refine WP.region ?_
 refine WPL.q (q_as (v := .lit (.int _ _)) rfl) rfl ?_
 refine WPL.nilW ?_
 refine W.now ?_
 refine Then.n ?_
 refine WP.block ?_
 refine WP.cv (Cv.vir 3 (Rd.int .i64) (N := 0) rfl 1 rfl) ?_
 refine WP.cv (Cv.weak (E' := ((Env.none.upd 1 (.whole 0)).upd 2 (.lit (.int .i64 0)))) (M' := (Mem.nil.push (.row 3 (Rd.int .i64) ([] : List Int)))) [0] hnp ⟨rfl, ⟨trivial, .inr ⟨rfl, rfl, rfl⟩⟩, by decide, rfl, trivial⟩ (LeE.upd rfl rfl (LeE.upd rfl rfl (LeE.none rfl rfl)))) ?_
 obtain ⟨x506, H558, H⟩ := bnd H
 refine WP.monoW (Q := fun x E M => x = .exit 0 ∧ E = (Env.none.upd 1 (.whole 0)) ∧ M = (Mem.nil.push (.row 3 (Rd.int .i64) x506))) ?_ ?_
 · refine WP.loop (β := Int × (List Int)) (fun n b => g_quireref03_FixedLit_l0 k n b.1 b.2 = some x506) (fun b => ((Env.none.upd 1 (.whole 0)).upd 2 (.lit (.int .i64 b.1)))) (fun b => (Mem.nil.push (.row 3 (Rd.int .i64) b.2))) k (0, ([] : List Int)) H558 rfl rfl ?_
   rintro n ⟨x452, x453⟩ H
   obtain _ | n := n
   · exact nf rfl H
   rw [g_quireref03_FixedLit_l0.eq_2] at H
   show WP _ _ _ _ ((Env.none.upd 1 (.whole 0)).upd 2 (.lit (.int .i64 x452))) (Mem.nil.push (.row 3 (Rd.int .i64) x453)) _
   refine WP.seq ?_
   refine WP.seq ?_
   refine WP.region ?_
   refine WPL.q (q_mv (v := .lit (.int _ _)) rfl) rfl ?_
   refine WPL.q (q_lss rfl rfl) rfl ?_
   refine WPL.nilW ?_
   refine W.now ?_
   refine Then.n ?_
   refine WP.cond (t := (decide (x452 < 288))) rfl (fun hb507 => ?_) (fun hb507 => ?_)
   · replace H := cnt hb507 H
     refine WP.skipW ?_
     refine W.now ?_
     refine Then.n ?_
     refine WP.seq ?_
     refine WP.block ?_
     refine WP.seq ?_
     refine WP.region ?_
     refine WPL.q (q_as (v := .lit (.int _ _)) rfl) rfl ?_
     refine WPL.nilW ?_
     refine W.now ?_
     refine Then.n ?_
     refine WP.seq ?_
     obtain ⟨x539, H544, H⟩ := bnd H
     refine WP.monoW (Q := fun x E M => x = .normal ∧ E = (((Env.none.upd 1 (.whole 0)).upd 2 (.lit (.int .i64 x452))).upd 3 (.lit (.int .i64 x539))) ∧ M = (Mem.nil.push (.row 3 (Rd.int .i64) x453))) ?_ ?_
     · clear H
       have H := H544
       clear H544
       refine WP.seq ?_
       obtain ⟨x541, H542, H⟩ := bnd H
       refine WP.monoW (Q := fun x E M => x = .normal ∧ E = ((((Env.none.upd 1 (.whole 0)).upd 2 (.lit (.int .i64 x452))).upd 3 (.lit (.int .i64 8))).upd 13 (.lit (.bool x541))) ∧ M = (Mem.nil.push (.row 3 (Rd.int .i64) x453))) ?_ ?_
       · clear H
         have H := H542
         clear H542
         refine WP.region ?_
         refine WPL.q (q_mv (v := .lit (.int _ _)) rfl) rfl ?_
         refine WPL.q (q_geq rfl rfl) rfl ?_
         refine WPL.q (q_mv (v := .lit (.bool _)) rfl) rfl ?_
         refine WPL.split (t := 10) (b := (decide (144 ≤ x452))) rfl (fun hb541 => ?_) (fun hb541 => ?_)
         · replace H := cnt hb541 H
           refine WPL.qg rfl rfl (lb hb541) (q_mv (v := .lit (.int _ _)) rfl) rfl ?_
           refine WPL.qg rfl rfl (lb hb541) (q_lss rfl rfl) rfl ?_
           refine WPL.q (q_pickT (v := .lit (.bool _)) (lb hb541) rfl) rfl ?_
           refine WPL.nilW ?_
           have q0 := (Option.some.inj H)
           subst q0
           exact W.wk [0] hnp ⟨rfl, rfl, rfl⟩ ⟨rfl, ⟨trivial, .inr ⟨rfl, rfl, rfl⟩⟩, by decide, rfl, trivial⟩ (LeE.upd rfl rfl (LeE.upd rfl rfl (LeE.upd rfl rfl (LeE.upd rfl rfl (LeE.none rfl rfl))))) rfl
         replace H := cnf hb541 H
         refine WPL.skipg (b' := false) rfl rfl (lb hb541) rfl rfl (.inl trivial) ?_
         refine WPL.skipg (b' := false) rfl rfl (lb hb541) rfl rfl (.inl trivial) ?_
         refine WPL.q (q_pickF (v := .lit (.bool _)) (lb hb541) rfl) rfl ?_
         refine WPL.nilW ?_
         have q0 := (Option.some.inj H)
         subst q0
         exact W.wk [0] hnp ⟨rfl, rfl, rfl⟩ ⟨rfl, ⟨trivial, .inr ⟨rfl, rfl, rfl⟩⟩, by decide, rfl, trivial⟩ (LeE.upd rfl rfl (LeE.upd rfl rfl (LeE.upd rfl rfl (LeE.upd rfl rfl (LeE.none rfl rfl))))) rfl
       rintro _ _ _ ⟨rfl, rfl, rfl⟩
       refine W.now ?_
       refine Then.n ?_
       refine WP.cond (t := x541) rfl (fun hb543 => ?_) (fun hb543 => ?_)
       · replace H := cnt hb543 H
         refine WP.region ?_
         refine WPL.q (q_as (v := .lit (.int _ _)) rfl) rfl ?_
         refine WPL.nilW ?_
         have q0 := (Option.some.inj H)
         subst q0
         exact W.wk [0] hnp ⟨rfl, rfl, rfl⟩ ⟨rfl, ⟨trivial, .inr ⟨rfl, rfl, rfl⟩⟩, by decide, rfl, trivial⟩ (LeE.upd rfl rfl (LeE.upd rfl rfl (LeE.upd rfl rfl (LeE.none rfl rfl)))) rfl
       replace H := cnf hb543 H
       refine WP.skipW ?_
       have q0 := (Option.some.inj H)
       subst q0
       exact W.wk [0] hnp ⟨rfl, rfl, rfl⟩ ⟨rfl, ⟨trivial, .inr ⟨rfl, rfl, rfl⟩⟩, by decide, rfl, trivial⟩ (LeE.upd rfl rfl (LeE.upd rfl rfl (LeE.upd rfl rfl (LeE.none rfl rfl)))) rfl
     rintro _ _ _ ⟨rfl, rfl, rfl⟩
     refine W.now ?_
     refine Then.n ?_
     refine WP.seq ?_
     obtain ⟨x551, H556, H⟩ := bnd H
     refine WP.monoW (Q := fun x E M => x = .normal ∧ E = (((Env.none.upd 1 (.whole 0)).upd 2 (.lit (.int .i64 x452))).upd 3 (.lit (.int .i64 x551))) ∧ M = (Mem.nil.push (.row 3 (Rd.int .i64) x453))) ?_ ?_
     · clear H
       have H := H556
       clear H556
       refine WP.seq ?_
       obtain ⟨x553, H554, H⟩ := bnd H
       refine WP.monoW (Q := fun x E M => x = .normal ∧ E = ((((Env.none.upd 1 (.whole 0)).upd 2 (.lit (.int .i64 x452))).upd 3 (.lit (.int .i64 x539))).upd 19 (.lit (.bool x553))) ∧ M = (Mem.nil.push (.row 3 (Rd.int .i64) x453))) ?_ ?_
       · clear H
         have H := H554
         clear H554
         refine WP.region ?_
         refine WPL.q (q_mv (v := .lit (.int _ _)) rfl) rfl ?_
         refine WPL.q (q_geq rfl rfl) rfl ?_
         refine WPL.q (q_mv (v := .lit (.bool _)) rfl) rfl ?_
         refine WPL.split (t := 16) (b := (decide (256 ≤ x452))) rfl (fun hb553 => ?_) (fun hb553 => ?_)
         · replace H := cnt hb553 H
           refine WPL.qg rfl rfl (lb hb553) (q_mv (v := .lit (.int _ _)) rfl) rfl ?_
           refine WPL.qg rfl rfl (lb hb553) (q_lss rfl rfl) rfl ?_
           refine WPL.q (q_pickT (v := .lit (.bool _)) (lb hb553) rfl) rfl ?_
           refine WPL.nilW ?_
           have q0 := (Option.some.inj H)
           subst q0
           exact W.wk [0] hnp ⟨rfl, rfl, rfl⟩ ⟨rfl, ⟨trivial, .inr ⟨rfl, rfl, rfl⟩⟩, by decide, rfl, trivial⟩ (LeE.upd rfl rfl (LeE.upd rfl rfl (LeE.upd rfl rfl (LeE.upd rfl rfl (LeE.none rfl rfl))))) rfl
         replace H := cnf hb553 H
         refine WPL.skipg (b' := false) rfl rfl (lb hb553) rfl rfl (.inl trivial) ?_
         refine WPL.skipg (b' := false) rfl rfl (lb hb553) rfl rfl (.inl trivial) ?_
         refine WPL.q (q_pickF (v := .lit (.bool _)) (lb hb553) rfl) rfl ?_
         refine WPL.nilW ?_
         have q0 := (Option.some.inj H)
         subst q0
         exact W.wk [0] hnp ⟨rfl, rfl, rfl⟩ ⟨rfl, ⟨trivial, .inr ⟨rfl, rfl, rfl⟩⟩, by decide, rfl, trivial⟩ (LeE.upd rfl rfl (LeE.upd rfl rfl (LeE.upd rfl rfl (LeE.upd rfl rfl (LeE.none rfl rfl))))) rfl
       rintro _ _ _ ⟨rfl, rfl, rfl⟩
       refine W.now ?_
       refine Then.n ?_
       refine WP.cond (t := x553) rfl (fun hb555 => ?_) (fun hb555 => ?_)
       · replace H := cnt hb555 H
         refine WP.region ?_
         refine WPL.q (q_as (v := .lit (.int _ _)) rfl) rfl ?_
         refine WPL.nilW ?_
         have q0 := (Option.some.inj H)
         subst q0
         exact W.wk [0] hnp ⟨rfl, rfl, rfl⟩ ⟨rfl, ⟨trivial, .inr ⟨rfl, rfl, rfl⟩⟩, by decide, rfl, trivial⟩ (LeE.upd rfl rfl (LeE.upd rfl rfl (LeE.upd rfl rfl (LeE.none rfl rfl)))) rfl
       replace H := cnf hb555 H
       refine WP.skipW ?_
       have q0 := (Option.some.inj H)
       subst q0
       exact W.wk [0] hnp ⟨rfl, rfl, rfl⟩ ⟨rfl, ⟨trivial, .inr ⟨rfl, rfl, rfl⟩⟩, by decide, rfl, trivial⟩ (LeE.upd rfl rfl (LeE.upd rfl rfl (LeE.upd rfl rfl (LeE.none rfl rfl)))) rfl
     rintro _ _ _ ⟨rfl, rfl, rfl⟩
     refine W.now ?_
     refine Then.n ?_
     refine WP.region ?_
     refine WPL.q (q_mv (v := .whole _) rfl) rfl ?_
     refine WPL.q (q_mv (v := .lit (.int _ _)) rfl) rfl ?_
     refine WPL.d (d_buildSlice (ds := ([x551] : List Int)) (R := (Rd.int .i64)) li25 rfl rfl rfl rfl rfl (JoinRows.cons1 Joins.sc rfl JoinRows.nil) rfl rfl) rfl ?_
     obtain ⟨h557, H⟩ := grd H
     refine WPL.d (d_append ap25 rfl rfl rfl rfl (src_row sl25 rfl rfl) h557 rfl) rfl ?_
     refine WPL.q (q_as (v := .whole _) rfl) rfl ?_
     refine WPL.nilW ?_
     refine W.now ?_
     refine InBlock.n ?_
     refine Then.n ?_
     refine WP.region ?_
     refine WPL.q (q_mv (v := .lit (.int _ _)) rfl) rfl ?_
     refine WPL.q (q_add rfl rfl) rfl ?_
     refine WPL.q (q_as (v := .lit (.int _ _)) rfl) rfl ?_
     refine WPL.nilW ?_
     exact W.wk [2] hnp (Then.n ⟨n, ((IntKind.wrap .i64 (x452 + 1)), (x453 ++ ([x551] : List Int))), Nat.lt_succ_self n, H, rfl, rfl⟩) ⟨rfl, ⟨trivial, .inr ⟨rfl, rfl, rfl⟩⟩, by decide, rfl, trivial⟩ (LeE.upd rfl rfl (LeE.upd rfl rfl (LeE.none rfl rfl))) rfl
   replace H := cnf hb507 H
   refine WP.exitW ?_
   have q0 := (Option.some.inj H)
   subst q0
   exact W.wk [0] hnp (Then.x (Then.x ⟨rfl, rfl, rfl⟩)) ⟨rfl, ⟨trivial, .inr ⟨rfl, rfl, rfl⟩⟩, by decide, rfl, trivial⟩ (LeE.upd rfl rfl (LeE.none rfl rfl)) rfl
 rintro _ _ _ ⟨rfl, rfl, rfl⟩
 refine W.now ?_
 refine InBlock.x0 ?_
 refine Then.n ?_
 refine WP.seq ?_
 refine WP.region ?_
 refine WPL.q (q_mv (v := .whole _) rfl) rfl ?_
 refine WPL.q (q_as (v := .whole _) rfl) rfl ?_
 refine WPL.nilW ?_
 refine W.now ?_
 refine Then.n ?_
 refine WP.retW ?_
 refine W.cv (Cv.frzRow (i := 0) rfl rfl hnp rfl rfl) rfl ?_
 have q0 := (Option.some.inj H)
 subst q0
 exact W.now (BodyR.mkR trivial rfl [] ⟨rfl, rfl⟩ ⟨rfl, trivial, by decide, rfl, trivial⟩ rfl rfl)
set_option maxRecDepth 100000 in
set_option maxHeartbeats 4000000 in
theorem s_quirelaw03_ints (k : Nat) (x562 : (List Int)) (x563 : (List Int)) (x600 : Bool) (H : g_quirelaw03_ints k x562 x563 = some x600) : Go.Q.Spec Try.prog 10 0 [.ro (Rd.slice (Rd.int .i64)) false x562, .ro (Rd.slice (Rd.int .i64)) false x563] Mem.nil (fun o M => o = .ret (.lit (.bool x600)) ∧ M = Mem.nil) := by
 unfold g_quirelaw03_ints at H
 refine Go.Q.Spec.of_bodyR (az := []) (rs := [.tmp 4]) (nt := 26) Try.func10 rfl rfl (by intro t T h; simp at h) rfl rfl fun cx hnp => ?_
 refine WP.seq ?_
 refine WP.region ?_
 refine WPL.q (q_as (v := .lit (.bool _)) rfl) rfl ?_
 refine WPL.nilW ?_
 refine W.now ?_
 refine Then.n ?_
 refine WP.seq ?_
 refine WP.seq ?_
 refine WP.region ?_
 refine WPL.q (q_mv (v := .ro _ _ _) rfl) rfl ?_
 refine WPL.q (q_len_ro sl25 rfl) rfl ?_
 refine WPL.q (q_mv (v := .ro _ _ _) rfl) rfl ?_
 refine WPL.q (q_len_ro sl25 rfl) rfl ?_
 obtain ⟨x603, h603, H⟩ := bnd H
 refine WPL.q (q_nm (q_neq rfl rfl) (nm_bool h603)) rfl ?_
 refine WPL.nilW ?_
 refine W.now ?_
 refine Then.n ?_
 refine WP.cond (t := x603) rfl (fun hb603 => ?_) (fun hb603 => ?_)
 · replace H := cnt hb603 H
   refine WP.seq ?_
   refine WP.region ?_
   refine WPL.q (q_as (v := .lit (.bool _)) rfl) rfl ?_
   refine WPL.nilW ?_
   refine W.now ?_
   refine Then.n ?_
   refine WP.retW ?_
   have q0 := (Option.some.inj H)
   subst q0
   exact W.now (Then.r (BodyR.mkR trivial rfl [] ⟨rfl, rfl⟩ ⟨rfl, trivial, by decide, rfl, trivial⟩ rfl rfl))
 replace H := cnf hb603 H
 refine WP.skipW ?_
 refine W.now ?_
 refine Then.n ?_
 refine WP.seq ?_
 refine WP.seq ?_
 refine WP.region ?_
 refine WPL.q (q_as (v := .lit (.int _ _)) rfl) rfl ?_
 refine WPL.nilW ?_
 refine W.now ?_
 refine Then.n ?_
 refine WP.block ?_
 refine WP.cv (Cv.weak (E' := (((Env.none.upd 0 (.ro (Rd.slice (Rd.int .i64)) false x562)).upd 1 (.ro (Rd.slice (Rd.int .i64)) false x563)).upd 5 (.lit (.int .i64 0)))) (M' := Mem.nil) [] hnp ⟨rfl, trivial, by decide, rfl, trivial⟩ (LeE.upd rfl rfl (LeE.upd rfl rfl (LeE.upd rfl rfl (LeE.none rfl rfl))))) ?_
 obtain ⟨y649, H647, H⟩ := bnd H
 refine WP.monoW (Q := fun x E M => match (generalizing := false) y649 with | (Sum.inl _) => x = .ret ∧ E = (Env.none.upd 4 (.lit (.bool false))) ∧ M = Mem.nil | (Sum.inr _) => x = .exit 0 ∧ E = Env.none ∧ M = Mem.nil) ?_ ?_
 · refine WP.loop (β := Int) (fun n b => g_quirelaw03_ints_l0 k x562 x563 n b = some y649) (fun b => (((Env.none.upd 0 (.ro (Rd.slice (Rd.int .i64)) false x562)).upd 1 (.ro (Rd.slice (Rd.int .i64)) false x563)).upd 5 (.lit (.int .i64 b)))) (fun b => Mem.nil) k 0 H647 rfl rfl ?_
   rintro n x619 H
   obtain _ | n := n
   · exact nf rfl H
   rw [g_quirelaw03_ints_l0.eq_2] at H
   show WP _ _ _ _ (((Env.none.upd 0 (.ro (Rd.slice (Rd.int .i64)) false x562)).upd 1 (.ro (Rd.slice (Rd.int .i64)) false x563)).upd 5 (.lit (.int .i64 x619))) Mem.nil _
   refine WP.seq ?_
   refine WP.seq ?_
   refine WP.region ?_
   refine WPL.q (q_mv (v := .lit (.int _ _)) rfl) rfl ?_
   refine WPL.q (q_mv (v := .ro _ _ _) rfl) rfl ?_
   refine WPL.q (q_len_ro sl25 rfl) rfl ?_
   obtain ⟨x636, h636, H⟩ := bnd H
   refine WPL.q (q_nm (q_lss rfl rfl) (nm_bool h636)) rfl ?_
   refine WPL.nilW ?_
   refine W.now ?_
   refine Then.n ?_
   refine WP.cond (t := x636) rfl (fun hb636 => ?_) (fun hb636 => ?_)
   · replace H := cnt hb636 H
     refine WP.skipW ?_
     refine W.now ?_
     refine Then.n ?_
     refine WP.seq ?_
     refine WP.block ?_
     refine WP.seq ?_
     refine WP.regionD' 9 [] [] mixed rfl ?_
     refine WPD.takeT 0 rfl (by kernel_rfl) (q_mv (v := .ro _ _ _) rfl) rfl ?_
     refine WPD.takeT 1 rfl (by kernel_rfl) (q_mv (v := .lit (.int _ _)) rfl) rfl ?_
     obtain ⟨x645, h645, H⟩ := bnd H
     refine WPD.takeT 2 rfl (by kernel_rfl) (q_index_ro sl25 rfl rfl rfl h645) rfl ?_
     refine WPD.takeT 3 rfl (by kernel_rfl) (q_load_sc sc3 rfl) rfl ?_
     refine WPD.takeT 4 rfl (by kernel_rfl) (q_mv (v := .ro _ _ _) rfl) rfl ?_
     refine WPD.takeT 5 rfl (by kernel_rfl) (q_mv (v := .lit (.int _ _)) rfl) rfl ?_
     obtain ⟨x646, h646, H⟩ := bnd H
     refine WPD.takeT 6 rfl (by kernel_rfl) (q_index_ro sl25 rfl rfl rfl h646) rfl ?_
     refine WPD.takeT 7 rfl (by kernel_rfl) (q_load_sc sc3 rfl) rfl ?_
     refine WPD.takeT 8 rfl (by kernel_rfl) (q_neq rfl rfl) rfl ?_
     refine WPD.doneW (by kernel_rfl) ?_
     refine W.now ?_
     refine Then.n ?_
     refine WP.cond (t := (!decide (x645 = x646))) rfl (fun hb646 => ?_) (fun hb646 => ?_)
     · replace H := cnt hb646 H
       refine WP.seq ?_
       refine WP.region ?_
       refine WPL.q (q_as (v := .lit (.bool _)) rfl) rfl ?_
       refine WPL.nilW ?_
       refine W.now ?_
       refine Then.n ?_
       refine WP.retW ?_
       have q0 := Option.some.inj H
       subst q0
       exact W.wk [] hnp (InBlock.r (Then.r (Then.r ⟨rfl, rfl, rfl⟩))) ⟨rfl, trivial, by decide, rfl, trivial⟩ (LeE.upd rfl rfl (LeE.none rfl rfl)) rfl
     replace H := cnf hb646 H
     refine WP.skipW ?_
     refine W.now ?_
     refine InBlock.n ?_
     refine Then.n ?_
     refine WP.region ?_
     refine WPL.q (q_mv (v := .lit (.int _ _)) rfl) rfl ?_
     refine WPL.q (q_add rfl rfl) rfl ?_
     refine WPL.q (q_as (v := .lit (.int _ _)) rfl) rfl ?_
     refine WPL.nilW ?_
     exact W.wk [] hnp (Then.n ⟨n, (IntKind.wrap .i64 (x619 + 1)), Nat.lt_succ_self n, H, rfl, rfl⟩) ⟨rfl, trivial, by decide, rfl, trivial⟩ (LeE.upd rfl rfl (LeE.upd rfl rfl (LeE.upd rfl rfl (LeE.none rfl rfl)))) rfl
   replace H := cnf hb636 H
   refine WP.exitW ?_
   have q0 := Option.some.inj H
   subst q0
   exact W.wk [] hnp (Then.x (Then.x ⟨rfl, rfl, rfl⟩)) ⟨rfl, trivial, by decide, rfl, trivial⟩ (LeE.none rfl rfl) rfl
 rcases y649 with _ | _
 · rintro _ _ _ ⟨rfl, rfl, rfl⟩
   have q0 := (Option.some.inj H)
   subst q0
   exact W.now (InBlock.r (Then.r (BodyR.mkR trivial rfl [] ⟨rfl, rfl⟩ ⟨rfl, trivial, by decide, rfl, trivial⟩ rfl rfl)))
 rintro _ _ _ ⟨rfl, rfl, rfl⟩
 refine W.now ?_
 refine InBlock.x0 ?_
 refine Then.n ?_
 refine WP.seq ?_
 refine WP.region ?_
 refine WPL.q (q_as (v := .lit (.bool _)) rfl) rfl ?_
 refine WPL.nilW ?_
 refine W.now ?_
 refine Then.n ?_
 refine WP.retW ?_
 have q0 := (Option.some.inj H)
 subst q0
 exact W.now (BodyR.mkR trivial rfl [] ⟨rfl, rfl⟩ ⟨rfl, trivial, by decide, rfl, trivial⟩ rfl rfl)
end Go.Proofs.Ytpceecokdpdgfaa.W
namespace Go.Proofs.Ytpceecokdpdgfaa.W
open Go Go.Q Go.Proofs
set_option linter.unusedVariables false
set_option linter.unusedSimpArgs false
set_option maxRecDepth 100000 in
set_option maxHeartbeats 4000000 in
theorem s_inflate_FixedDist (k : Nat) (x656 : (List Int)) (H : g_inflate_FixedDist k = some x656) : Go.Q.Spec Try.prog 13 0 [] Mem.nil (fun o M => o = .ret (.ro (Rd.slice (Rd.int .i64)) false x656) ∧ M = Mem.nil) := by
 unfold g_inflate_FixedDist at H
 refine Go.Q.Spec.of_bodyR (az := []) (rs := [.tmp 0]) (nt := 4) Try.func13 rfl rfl (by intro t T h; simp at h) rfl rfl fun cx hnp => ?_
 refine WP.seq ?_
 refine WP.region ?_
 refine WPL.q (q_as (v := .lit _) rfl) rfl ?_
 refine WPL.nilW ?_
 refine W.now ?_
 refine Then.n ?_
 refine WP.seq ?_
 refine WP.region ?_
 refine WPL.q (q_build bu40 rfl) rfl ?_
 refine WPL.d (d_buildSlice (ds := ([(⟨32, 5⟩ : S_inflate_run)] : List S_inflate_run)) (R := rdS_inflate_run) li49 rfl rfl rfl rfl rfl (JoinRows.cons (l := [.lit (.int .i64 32), .lit (.int .i64 5)]) (Joins.via (Joins.cons Joins.sc (Joins.cons Joins.sc Joins.unit))) rfl JoinRows.nil) rfl rfl) rfl ?_
 obtain ⟨x658, h656, H⟩ := bnd H
 refine WPL.c (runs_call (s := []) (t := []) (N := 1) (bor := [0]) fn20 rfl (s_inflate_laid k ([(⟨32, 5⟩ : S_inflate_run)] : List S_inflate_run) x658 h656) ⟨rfl, trivial, by decide, rfl, trivial⟩ rfl ⟨trivial, rfl, rfl, trivial⟩ (.row rfl rfl .nil) rfl trivial rfl) rfl ?_
 refine WPL.q (q_as (v := .ro _ _ _) rfl) rfl ?_
 refine WPL.nilW ?_
 refine W.now ?_
 refine Then.n ?_
 refine WP.retW ?_
 have q0 := (Option.some.inj H)
 subst q0
 exact W.now (BodyR.mkR trivial rfl [] ⟨rfl, rfl⟩ ⟨rfl, trivial, by decide, rfl, trivial⟩ rfl rfl)
set_option maxRecDepth 100000 in
set_option maxHeartbeats 4000000 in
theorem s_quireref03_FixedDist (k : Nat) (x671 : (List Int)) (H : g_quireref03_FixedDist k = some x671) : Go.Q.Spec Try.prog 14 0 [] Mem.nil (fun o M => o = .ret (.ro (Rd.slice (Rd.int .i64)) false x671) ∧ M = Mem.nil) := by
 unfold g_quireref03_FixedDist at H
 refine Go.Q.Spec.of_bodyR (az := []) (rs := [.tmp 0]) (nt := 11) Try.func14 rfl rfl (by intro t T h; simp at h) rfl rfl fun cx hnp => ?_
 refine WP.seq ?_
 refine WP.region ?_
 refine WPL.q (q_as (v := .lit _) rfl) rfl ?_
 refine WPL.nilW ?_
 refine W.now ?_
 refine Then.n ?_
 refine WP.seq ?_
 refine WP.region ?_
 refine WPL.q (q_as (v := .lit _) rfl) rfl ?_
 refine WPL.nilW ?_
 refine W.now ?_
 refine Then.n ?_
 refine WP.seq ?_
 refine WP.seq ?_
 refine WP.region ?_
 refine WPL.q (q_as (v := .lit (.int _ _)) rfl) rfl ?_
 refine WPL.nilW ?_
 refine W.now ?_
 refine Then.n ?_
 refine WP.block ?_
 refine WP.cv (Cv.vir 3 (Rd.int .i64) (N := 0) rfl 1 rfl) ?_
 refine WP.cv (Cv.weak (E' := ((Env.none.upd 1 (.whole 0)).upd 2 (.lit (.int .i64 0)))) (M' := (Mem.nil.push (.row 3 (Rd.int .i64) ([] : List Int)))) [0] hnp ⟨rfl, ⟨trivial, .inr ⟨rfl, rfl, rfl⟩⟩, by decide, rfl, trivial⟩ (LeE.upd rfl rfl (LeE.upd rfl rfl (LeE.none rfl rfl)))) ?_
 obtain ⟨x679, H682, H⟩ := bnd H
 refine WP.monoW (Q := fun x E M => x = .exit 0 ∧ E = (Env.none.upd 1 (.whole 0)) ∧ M = (Mem.nil.push (.row 3 (Rd.int .i64) x679))) ?_ ?_
 · refine WP.loop (β := Int × (List Int)) (fun n b => g_quireref03_FixedDist_l0 k n b.1 b.2 = some x679) (fun b => ((Env.none.upd 1 (.whole 0)).upd 2 (.lit (.int .i64 b.1)))) (fun b => (Mem.nil.push (.row 3 (Rd.int .i64) b.2))) k (0, ([] : List Int)) H682 rfl rfl ?_
   rintro n ⟨x674, x675⟩ H
   obtain _ | n := n
   · exact nf rfl H
   rw [g_quireref03_FixedDist_l0.eq_2] at H
   show WP _ _ _ _ ((Env.none.upd 1 (.whole 0)).upd 2 (.lit (.int .i64 x674))) (Mem.nil.push (.row 3 (Rd.int .i64) x675)) _
   refine WP.seq ?_
   refine WP.seq ?_
   refine WP.region ?_
   refine WPL.q (q_mv (v := .lit (.int _ _)) rfl) rfl ?_
   refine WPL.q (q_lss rfl rfl) rfl ?_
   refine WPL.nilW ?_
   refine W.now ?_
   refine Then.n ?_
   refine WP.cond (t := (decide (x674 < 32))) rfl (fun hb680 => ?_) (fun hb680 => ?_)
   · replace H := cnt hb680 H
     refine WP.skipW ?_
     refine W.now ?_
     refine Then.n ?_
     refine WP.seq ?_
     refine WP.block ?_
     refine WP.region ?_
     refine WPL.q (q_mv (v := .whole _) rfl) rfl ?_
     refine WPL.d (d_buildSlice (ds := ([5] : List Int)) (R := (Rd.int .i64)) li25 rfl rfl rfl rfl rfl (JoinRows.cons1 Joins.sc rfl JoinRows.nil) rfl rfl) rfl ?_
     obtain ⟨h681, H⟩ := grd H
     refine WPL.d (d_append ap25 rfl rfl rfl rfl (src_row sl25 rfl rfl) h681 rfl) rfl ?_
     refine WPL.q (q_as (v := .whole _) rfl) rfl ?_
     refine WPL.nilW ?_
     refine W.now ?_
     refine InBlock.n ?_
     refine Then.n ?_
     refine WP.region ?_
     refine WPL.q (q_mv (v := .lit (.int _ _)) rfl) rfl ?_
     refine WPL.q (q_add rfl rfl) rfl ?_
     refine WPL.q (q_as (v := .lit (.int _ _)) rfl) rfl ?_
     refine WPL.nilW ?_
     exact W.wk [2] hnp (Then.n ⟨n, ((IntKind.wrap .i64 (x674 + 1)), (x675 ++ ([5] : List Int))), Nat.lt_succ_self n, H, rfl, rfl⟩) ⟨rfl, ⟨trivial, .inr ⟨rfl, rfl, rfl⟩⟩, by decide, rfl, trivial⟩ (LeE.upd rfl rfl (LeE.upd rfl rfl (LeE.none rfl rfl))) rfl
   replace H := cnf hb680 H
   refine WP.exitW ?_
   have q0 := (Option.some.inj H)
   subst q0
   exact W.wk [0] hnp (Then.x (Then.x ⟨rfl, rfl, rfl⟩)) ⟨rfl, ⟨trivial, .inr ⟨rfl, rfl, rfl⟩⟩, by decide, rfl, trivial⟩ (LeE.upd rfl rfl (LeE.none rfl rfl)) rfl
 rintro _ _ _ ⟨rfl, rfl, rfl⟩
 refine W.now ?_
 refine InBlock.x0 ?_
 refine Then.n ?_
 refine WP.seq ?_
 refine WP.region ?_
 refine WPL.q (q_mv (v := .whole _) rfl) rfl ?_
 refine WPL.q (q_as (v := .whole _) rfl) rfl ?_
 refine WPL.nilW ?_
 refine W.now ?_
 refine Then.n ?_
 refine WP.retW ?_
 refine W.cv (Cv.frzRow (i := 0) rfl rfl hnp rfl rfl) rfl ?_
 have q0 := (Option.some.inj H)
 subst q0
 exact W.now (BodyR.mkR trivial rfl [] ⟨rfl, rfl⟩ ⟨rfl, trivial, by decide, rfl, trivial⟩ rfl rfl)
set_option maxRecDepth 100000 in
set_option maxHeartbeats 4000000 in
theorem s_slices_Clone_byte_byte (k : Nat) (x697 : List Int) (x698 : List Int) (H : g_slices_Clone_byte_byte k x697 = some x698) : Go.Q.Spec Try.prog 25 0 [.ro (Rd.slice (Rd.int .u8)) true x697] Mem.nil (fun o M => o = .ret (.ro (Rd.slice (Rd.int .u8)) false x698) ∧ M = Mem.nil) := by
  unfold g_slices_Clone_byte_byte at H
  obtain ⟨h, H⟩ := grd H
  have q0 := Option.some.inj H
  subst q0
  refine Go.Q.Spec.of_bodyR (az := []) (rs := [.tmp 2]) (nt := 8) Try.func25 rfl rfl (by intro t T h; simp at h) rfl rfl fun cx hnp => ?_
  refine WP.seq ?_
  refine WP.region ?_
  refine WPL.q (q_as (v := .lit _) rfl) rfl ?_
  refine WPL.nilW ?_
  refine W.now ?_
  refine Then.n ?_
  refine WP.seq ?_
  refine WP.seq ?_
  refine WP.region ?_
  refine WPL.q (q_mv (v := .ro _ _ _) rfl) rfl ?_
  refine WPL.eqlNil Try.underlying29 rfl rfl fun nb hnb => ?_
  refine WPL.nilW ?_
  refine W.now ?_
  refine Then.n ?_
  refine WP.cond (t := nb) rfl (fun hb => ?_) (fun hb => ?_)
  · have h0 := hnb hb
    subst h0
    refine WP.seq ?_
    refine WP.region ?_
    refine WPL.q (q_as (v := .lit _) rfl) rfl ?_
    refine WPL.nilW ?_
    refine W.now ?_
    refine Then.n ?_
    refine WP.retW ?_
    refine W.cv (Cv.nilRo (Rd.int .u8) false 2 rfl) rfl ?_
    refine W.now ?_
    refine Then.r ?_
    exact ⟨trivial, _, rfl, [], (.ro (Rd.slice (Rd.int .u8)) false ([] : List Int)), Mem.nil, ⟨rfl, trivial, by decide, rfl, trivial⟩, rfl, rfl, rfl, rfl⟩
  · refine WP.skipW ?_
    refine W.now ?_
    refine Then.n ?_
    refine WP.seq ?_
    refine WP.region ?_
    refine WPL.d (d_buildSlice (ds := ([] : List Int)) (R := (Rd.int .u8)) li29 rfl rfl rfl rfl rfl JoinRows.nil rfl rfl) rfl ?_
    refine WPL.q (q_mv (v := .ro _ _ _) rfl) rfl ?_
    refine WPL.d (d_append ap29 rfl rfl rfl rfl (src_bor sl29 Rd.flat_sc rfl) h rfl) rfl ?_
    refine WPL.q (q_as (v := .whole _) rfl) rfl ?_
    refine WPL.nilW ?_
    refine W.now ?_
    refine Then.n ?_
    refine WP.retW ?_
    refine W.cv (Cv.frzRow (i := 1) rfl rfl hnp rfl rfl) rfl ?_
    refine W.now ?_
    exact ⟨trivial, _, rfl, [], (.ro (Rd.slice (Rd.int .u8)) false x697), Mem.nil, ⟨rfl, trivial, by decide, rfl, trivial⟩, rfl, rfl, rfl, rfl⟩
set_option maxRecDepth 100000 in
set_option maxHeartbeats 4000000 in
theorem s_bits_NewReader (k : Nat) (x695 : (List Int)) (x701 : (List Int)) (H : g_bits_NewReader k x695 = some x701) : Go.Q.Spec Try.prog 21 0 [.ro (Rd.slice (Rd.int .u8)) true x695] Mem.nil (fun o M => o = .ret (.ptr 0 0) ∧ M = (Mem.nil.push (.cells 52 [.ro (Rd.slice (Rd.int .u8)) false x701, .lit (.int .i64 0)]))) := by
 unfold g_bits_NewReader at H
 refine Go.Q.Spec.of_bodyR (az := []) (rs := [.tmp 2]) (nt := 7) Try.func21 rfl rfl (by intro t T h; simp at h) rfl rfl fun cx hnp => ?_
 refine WP.seq ?_
 refine WP.region ?_
 refine WPL.q (q_as (v := .lit _) rfl) rfl ?_
 refine WPL.nilW ?_
 refine W.now ?_
 refine Then.n ?_
 refine WP.seq ?_
 refine WP.region ?_
 refine WPL.q (q_mv (v := .ro _ _ _) rfl) rfl ?_
 obtain ⟨x703, h701, H⟩ := bnd H
 refine WPL.c (runs_call (s := []) (t := []) (N := 0) (bor := []) fn25 rfl (s_slices_Clone_byte_byte k x695 x703 h701) ⟨rfl, trivial, by decide, rfl, trivial⟩ rfl trivial (.ren rfl rfl .nil) rfl trivial rfl) rfl ?_
 refine WPL.q (q_build bu52 rfl) rfl ?_
 refine WPL.d (d_box rfl rfl) rfl ?_
 refine WPL.q (q_as (v := .ptr _ _) rfl) rfl ?_
 refine WPL.nilW ?_
 refine W.now ?_
 refine Then.n ?_
 refine WP.retW ?_
 have q0 := (Option.some.inj H)
 subst q0
 exact W.now (BodyR.mkR trivial rfl [0] ⟨rfl, rfl⟩ ⟨rfl, ⟨trivial, .inr ⟨rfl, rfl, rfl⟩⟩, by decide, rfl, trivial⟩ rfl rfl)
set_option maxRecDepth 100000 in
set_option maxHeartbeats 4000000 in
theorem s_bits_Reader_Left (k : Nat) (x725 : (List Int)) (x726 : Int) (x730 : Int) (H : g_bits_Reader_Left k x725 x726 = some x730) : Go.Q.Spec Try.prog 24 1 [.ptr 0 0] (Mem.nil.push (.cells 52 [.ro (Rd.slice (Rd.int .u8)) false x725, .lit (.int .i64 x726)])) (fun o M => o = .ret (.lit (.int .i64 x730)) ∧ M = (Mem.nil.push (.cells 52 [.ro (Rd.slice (Rd.int .u8)) false x725, .lit (.int .i64 x726)]))) := by
 unfold g_bits_Reader_Left at H
 refine Go.Q.Spec.of_bodyR (az := []) (rs := [.tmp 2]) (nt := 16) Try.func24 rfl rfl (by intro t T h; simp at h) rfl rfl fun cx hnp => ?_
 refine WP.seq ?_
 refine WP.region ?_
 refine WPL.q (q_as (v := .lit (.int _ _)) rfl) rfl ?_
 refine WPL.nilW ?_
 refine W.now ?_
 refine Then.n ?_
 refine WP.seq ?_
 refine WP.seq ?_
 refine WP.region ?_
 refine WPL.q (q_mv (v := .ptr _ _) rfl) rfl ?_
 refine WPL.q (q_eqlp Try.underlying42 rfl) rfl ?_
 refine WPL.nilW ?_
 refine W.now ?_
 refine Then.n ?_
 refine WP.condF rfl ?_
 refine WP.skipW ?_
 refine W.now ?_
 refine Then.n ?_
 refine WP.seq ?_
 refine WP.regionD' 12 [0] [] mixed rfl ?_
 refine WPD.takeT 0 rfl (by kernel_rfl) (q_mv (v := .ptr _ _) rfl) rfl ?_
 refine WPD.takeT 1 rfl (by kernel_rfl) (q_nilCheck rfl) rfl ?_
 refine WPD.takeT 2 rfl (by kernel_rfl) (q_fieldAddr fi52_0 rfl rfl) rfl ?_
 refine WPD.takeT 6 rfl (by kernel_rfl) (q_mv (v := .ptr _ _) rfl) rfl ?_
 refine WPD.takeT 7 rfl (by kernel_rfl) (q_nilCheck rfl) rfl ?_
 refine WPD.takeT 8 rfl (by kernel_rfl) (q_fieldAddr fi52_1 rfl rfl) rfl ?_
 refine WPD.take 3 rfl (by kernel_rfl) (q_load sc29 rfl rfl rfl) rfl rfl ?_
 refine WPD.takeT 4 rfl (by kernel_rfl) (q_len_ro sl29 rfl) rfl ?_
 obtain ⟨x732, h732, H⟩ := bnd H
 refine WPD.takeT 5 rfl (by kernel_rfl) (q_nm (q_mul rfl rfl) (nm_int h732)) rfl ?_
 refine WPD.take 9 rfl (by kernel_rfl) (q_load sc3 rfl rfl rfl) rfl rfl ?_
 refine WPD.takeT 10 rfl (by kernel_rfl) (q_sub rfl rfl) rfl ?_
 refine WPD.takeT 11 rfl (by kernel_rfl) (q_as (v := .lit (.int _ _)) rfl) rfl ?_
 refine WPD.doneW (by kernel_rfl) ?_
 refine W.now ?_
 refine Then.n ?_
 refine WP.retW ?_
 have q0 := (Option.some.inj H)
 subst q0
 exact W.now (BodyR.mkR trivial rfl [0] ⟨rfl, rfl⟩ ⟨rfl, ⟨trivial, .inr ⟨rfl, rfl, rfl⟩⟩, by decide, rfl, ⟨trivial, rfl⟩⟩ rfl rfl)
set_option maxRecDepth 100000 in
set_option maxHeartbeats 4000000 in
theorem s_bits_Reader_Take (k : Nat) (x716 : Int) (x717 : (List Int)) (x718 : Int) (x781 : Int) (x782 : Int) (x783 : (List Int)) (x784 : Int) (H : g_bits_Reader_Take k x716 x717 x718 = some (x781, x782, x783, x784)) : Go.Q.Spec Try.prog 32 1 [.ptr 0 0, .lit (.int .i64 x716)] (Mem.nil.push (.cells 52 [.ro (Rd.slice (Rd.int .u8)) false x717, .lit (.int .i64 x718)])) (fun o M => o = .ret (.tup [.lit (.int .u32 x781), .lit (.int .i64 x782)]) ∧ M = (Mem.nil.push (.cells 52 [.ro (Rd.slice (Rd.int .u8)) false x783, .lit (.int .i64 x784)]))) := by
 unfold g_bits_Reader_Take at H
 refine Go.Q.Spec.of_bodyR (az := []) (rs := [.tmp 4, .tmp 5]) (nt := 85) Try.func32 rfl rfl (by intro t T h; simp at h) rfl rfl fun cx hnp => ?_
 refine WP.seq ?_
 refine WP.region ?_
 refine WPL.q (q_as (v := .lit (.int _ _)) rfl) rfl ?_
 refine WPL.q (q_as (v := .lit (.int _ _)) rfl) rfl ?_
 refine WPL.nilW ?_
 refine W.now ?_
 refine Then.n ?_
 refine WP.seq ?_
 refine WP.block ?_
 refine WP.seq ?_
 refine WP.region ?_
 refine WPL.q (q_mv (v := .ptr _ _) rfl) rfl ?_
 refine WPL.q (q_eqlp Try.underlying42 rfl) rfl ?_
 refine WPL.q (q_as (v := .lit (.bool _)) rfl) rfl ?_
 refine WPL.nilW ?_
 refine W.now ?_
 refine Then.n ?_
 refine WP.condF rfl ?_
 refine WP.seq ?_
 obtain ⟨x794, H795, H⟩ := bnd H
 refine WP.monoW (Q := fun x E M => x = .normal ∧ E = (((Env.none.upd 0 (.ptr 0 0)).upd 1 (.lit (.int .i64 x716))).upd 12 (.lit (.bool x794))) ∧ M = (Mem.nil.push (.cells 52 [.ro (Rd.slice (Rd.int .u8)) false x717, .lit (.int .i64 x718)]))) ?_ ?_
 · clear H
   have H := H795
   clear H795
   refine WP.region ?_
   refine WPL.q (q_mv (v := .lit (.int _ _)) rfl) rfl ?_
   refine WPL.q (q_lss rfl rfl) rfl ?_
   refine WPL.q (q_mv (v := .lit (.bool _)) rfl) rfl ?_
   refine WPL.split (t := 15) (b := (decide (x716 < 0))) rfl (fun hb794 => ?_) (fun hb794 => ?_)
   · replace H := cnt hb794 H
     refine WPL.skipg (b' := true) rfl rfl (lb hb794) rfl rfl (.inl trivial) ?_
     refine WPL.skipg (b' := true) rfl rfl (lb hb794) rfl rfl (.inl trivial) ?_
     refine WPL.q (q_pickT (v := .lit (.bool _)) (lb hb794) rfl) rfl ?_
     refine WPL.q (q_as (v := .lit (.bool _)) rfl) rfl ?_
     refine WPL.nilW ?_
     have q0 := (Option.some.inj H)
     subst q0
     exact W.wk [0] hnp ⟨rfl, rfl, rfl⟩ ⟨rfl, ⟨trivial, .inr ⟨rfl, rfl, rfl⟩⟩, by decide, rfl, ⟨trivial, rfl⟩⟩ (LeE.upd rfl rfl (LeE.upd rfl rfl (LeE.upd rfl rfl (LeE.none rfl rfl)))) rfl
   replace H := cnf hb794 H
   refine WPL.qg rfl rfl (lb hb794) (q_mv (v := .lit (.int _ _)) rfl) rfl ?_
   refine WPL.qg rfl rfl (lb hb794) (q_gtr rfl rfl) rfl ?_
   refine WPL.q (q_pickF (v := .lit (.bool _)) (lb hb794) rfl) rfl ?_
   refine WPL.q (q_as (v := .lit (.bool _)) rfl) rfl ?_
   refine WPL.nilW ?_
   have q0 := (Option.some.inj H)
   subst q0
   exact W.wk [0] hnp ⟨rfl, rfl, rfl⟩ ⟨rfl, ⟨trivial, .inr ⟨rfl, rfl, rfl⟩⟩, by decide, rfl, ⟨trivial, rfl⟩⟩ (LeE.upd rfl rfl (LeE.upd rfl rfl (LeE.upd rfl rfl (LeE.none rfl rfl)))) rfl
 rintro _ _ _ ⟨rfl, rfl, rfl⟩
 refine W.now ?_
 refine Then.n ?_
 refine WP.cond (t := x794) rfl (fun hb796 => ?_) (fun hb796 => ?_)
 · replace H := cnt hb796 H
   refine WP.seq ?_
   refine WP.region ?_
   refine WPL.q (q_as (v := .lit (.int _ _)) rfl) rfl ?_
   refine WPL.q (q_as (v := .lit (.int _ _)) rfl) rfl ?_
   refine WPL.nilW ?_
   refine W.now ?_
   refine Then.n ?_
   refine WP.retW ?_
   have q0 := (Prod.mk.inj (Option.some.inj H)).1
   have q1 := (Prod.mk.inj (Prod.mk.inj (Option.some.inj H)).2).1
   have q2 := (Prod.mk.inj (Prod.mk.inj (Prod.mk.inj (Option.some.inj H)).2).2).1
   have q3 := (Prod.mk.inj (Prod.mk.inj (Prod.mk.inj (Option.some.inj H)).2).2).2
   subst q0
   subst q1
   subst q2
   subst q3
   exact W.now (InBlock.r (Then.r (BodyR.mkR trivial rfl [0] ⟨rfl, rfl⟩ ⟨rfl, ⟨trivial, .inr ⟨rfl, rfl, rfl⟩⟩, by decide, rfl, ⟨trivial, rfl⟩⟩ rfl rfl)))
 replace H := cnf hb796 H
 refine WP.seq ?_
 refine WP.region ?_
 refine WPL.q (q_mv (v := .lit (.int _ _)) rfl) rfl ?_
 refine WPL.q (q_mv (v := .ptr _ _) rfl) rfl ?_
 obtain ⟨x799, h797, H⟩ := bnd H
 refine WPL.c (runs_call (s := [0]) (t := [0]) (N := 1) (bor := []) fn24 rfl (s_bits_Reader_Left k x717 x718 x799 h797) ⟨rfl, ⟨trivial, .inr ⟨rfl, rfl, rfl⟩⟩, by decide, rfl, trivial⟩ rfl trivial (.ren rfl rfl .nil) rfl ⟨trivial, rfl⟩ rfl) rfl ?_
 refine WPL.q (q_gtr rfl rfl) rfl ?_
 refine WPL.q (q_as (v := .lit (.bool _)) rfl) rfl ?_
 refine WPL.nilW ?_
 refine W.now ?_
 refine Then.n ?_
 refine WP.cond (t := (decide (x799 < x716))) rfl (fun hb799 => ?_) (fun hb799 => ?_)
 · replace H := cnt hb799 H
   refine WP.seq ?_
   refine WP.region ?_
   refine WPL.q (q_as (v := .lit (.int _ _)) rfl) rfl ?_
   refine WPL.q (q_as (v := .lit (.int _ _)) rfl) rfl ?_
   refine WPL.nilW ?_
   refine W.now ?_
   refine Then.n ?_
   refine WP.retW ?_
   have q0 := (Prod.mk.inj (Option.some.inj H)).1
   have q1 := (Prod.mk.inj (Prod.mk.inj (Option.some.inj H)).2).1
   have q2 := (Prod.mk.inj (Prod.mk.inj (Prod.mk.inj (Option.some.inj H)).2).2).1
   have q3 := (Prod.mk.inj (Prod.mk.inj (Prod.mk.inj (Option.some.inj H)).2).2).2
   subst q0
   subst q1
   subst q2
   subst q3
   exact W.now (InBlock.r (Then.r (BodyR.mkR trivial rfl [0] ⟨rfl, rfl⟩ ⟨rfl, ⟨trivial, .inr ⟨rfl, rfl, rfl⟩⟩, by decide, rfl, ⟨trivial, rfl⟩⟩ rfl rfl)))
 replace H := cnf hb799 H
 refine WP.skipW ?_
 refine W.now ?_
 refine InBlock.n ?_
 refine Then.n ?_
 refine WP.seq ?_
 refine WP.region ?_
 refine WPL.q (q_as (v := .lit (.int _ _)) rfl) rfl ?_
 refine WPL.q (q_as (v := .lit (.int _ _)) rfl) rfl ?_
 refine WPL.nilW ?_
 refine W.now ?_
 refine Then.n ?_
 refine WP.seq ?_
 refine WP.block ?_
 refine WP.cv (Cv.weak (E' := ((((Env.none.upd 0 (.ptr 0 0)).upd 1 (.lit (.int .i64 x716))).upd 6 (.lit (.int .u64 0))).upd 7 (.lit (.int .i64 0)))) (M' := (Mem.nil.push (.cells 52 [.ro (Rd.slice (Rd.int .u8)) false x717, .lit (.int .i64 x718)]))) [0] hnp ⟨rfl, ⟨trivial, .inr ⟨rfl, rfl, rfl⟩⟩, by decide, rfl, ⟨trivial, rfl⟩⟩ (LeE.upd rfl rfl (LeE.upd rfl rfl (LeE.upd rfl rfl (LeE.upd rfl rfl (LeE.none rfl rfl)))))) ?_
 obtain ⟨⟨x831, x832, x833⟩, H847, H⟩ := bnd H
 refine WP.monoW (Q := fun x E M => x = .exit 1 ∧ E = ((Env.none.upd 1 (.lit (.int .i64 x716))).upd 6 (.lit (.int .u64 x831))) ∧ M = (Mem.nil.push (.cells 52 [.ro (Rd.slice (Rd.int .u8)) false x832, .lit (.int .i64 x833)]))) ?_ ?_
 · refine WP.loop (β := Int × Int × (List Int) × Int) (fun n b => g_bits_Reader_Take_l0 k x716 n b.1 b.2.1 b.2.2.1 b.2.2.2 = some (x831, x832, x833)) (fun b => ((((Env.none.upd 0 (.ptr 0 0)).upd 1 (.lit (.int .i64 x716))).upd 6 (.lit (.int .u64 b.1))).upd 7 (.lit (.int .i64 b.2.1)))) (fun b => (Mem.nil.push (.cells 52 [.ro (Rd.slice (Rd.int .u8)) false b.2.2.1, .lit (.int .i64 b.2.2.2)]))) k (0, 0, x717, x718) H847 rfl rfl ?_
   rintro n ⟨x813, x814, x815, x816⟩ H
   obtain _ | n := n
   · exact nf rfl H
   rw [g_bits_Reader_Take_l0.eq_2] at H
   show WP _ _ _ _ ((((Env.none.upd 0 (.ptr 0 0)).upd 1 (.lit (.int .i64 x716))).upd 6 (.lit (.int .u64 x813))).upd 7 (.lit (.int .i64 x814))) (Mem.nil.push (.cells 52 [.ro (Rd.slice (Rd.int .u8)) false x815, .lit (.int .i64 x816)])) _
   refine WP.seq ?_
   refine WP.seq ?_
   refine WP.region ?_
   refine WPL.q (q_mv (v := .lit (.int _ _)) rfl) rfl ?_
   refine WPL.q (q_mv (v := .lit (.int _ _)) rfl) rfl ?_
   refine WPL.q (q_lss rfl rfl) rfl ?_
   refine WPL.nilW ?_
   refine W.now ?_
   refine Then.n ?_
   refine WP.cond (t := (decide (x814 < x716))) rfl (fun hb834 => ?_) (fun hb834 => ?_)
   · replace H := cnt hb834 H
     refine WP.skipW ?_
     refine W.now ?_
     refine Then.n ?_
     refine WP.block ?_
     refine WP.seq ?_
     refine WP.regionD' 17 [0] [] mixed rfl ?_
     refine WPD.takeT 0 rfl (by kernel_rfl) (q_mv (v := .lit (.int _ _)) rfl) rfl ?_
     refine WPD.takeT 1 rfl (by kernel_rfl) (q_mv (v := .ptr _ _) rfl) rfl ?_
     refine WPD.takeT 2 rfl (by kernel_rfl) (q_nilCheck rfl) rfl ?_
     refine WPD.takeT 3 rfl (by kernel_rfl) (q_fieldAddr fi52_0 rfl rfl) rfl ?_
     refine WPD.takeT 7 rfl (by kernel_rfl) (q_mv (v := .ptr _ _) rfl) rfl ?_
     refine WPD.takeT 8 rfl (by kernel_rfl) (q_nilCheck rfl) rfl ?_
     refine WPD.takeT 9 rfl (by kernel_rfl) (q_fieldAddr fi52_1 rfl rfl) rfl ?_
     refine WPD.takeT 13 rfl (by kernel_rfl) (q_mv (v := .lit (.int _ _)) rfl) rfl ?_
     refine WPD.take 4 rfl (by kernel_rfl) (q_load sc29 rfl rfl rfl) rfl rfl ?_
     obtain ⟨x840, h840, H⟩ := bnd H
     refine WPD.takeT 5 rfl (by kernel_rfl) (q_index_ro sl29 rfl rfl rfl h840) rfl ?_
     refine WPD.takeT 6 rfl (by kernel_rfl) (q_load_sc sc5 rfl) rfl ?_
     refine WPD.take 10 rfl (by kernel_rfl) (q_load sc3 rfl rfl rfl) rfl rfl ?_
     obtain ⟨h840, H⟩ := grd H
     refine WPD.takeT 11 rfl (by kernel_rfl) (q_shr rfl rfl h840) rfl ?_
     refine WPD.takeT 12 rfl (by kernel_rfl) (q_conv Try.underlying5 Try.underlying73 rfl) rfl ?_
     obtain ⟨h841, H⟩ := grd H
     obtain ⟨x843, h843, H⟩ := bnd H
     refine WPD.takeT 14 rfl (by kernel_rfl) (q_nm (q_shl rfl rfl h841) (nm_int h843)) rfl ?_
     refine WPD.takeT 15 rfl (by kernel_rfl) (q_or rfl rfl) rfl ?_
     refine WPD.takeT 16 rfl (by kernel_rfl) (q_as (v := .lit (.int _ _)) rfl) rfl ?_
     refine WPD.doneW (by kernel_rfl) ?_
     refine W.now ?_
     refine Then.n ?_
     refine WP.seq ?_
     refine WP.region ?_
     refine WPL.q (q_mv (v := .ptr _ _) rfl) rfl ?_
     refine WPL.q (q_nilCheck rfl) rfl ?_
     refine WPL.q (q_fieldAddr fi52_1 rfl rfl) rfl ?_
     refine WPL.q (q_load sc3 rfl rfl rfl) rfl ?_
     refine WPL.q (q_sub rfl rfl) rfl ?_
     refine WPL.q (q_mv (v := .lit (.int _ _)) rfl) rfl ?_
     refine WPL.q (q_mv (v := .lit (.int _ _)) rfl) rfl ?_
     refine WPL.q (q_sub rfl rfl) rfl ?_
     obtain ⟨x844, h844, H⟩ := bnd H
     refine WPL.q (q_nm (q_min rfl rfl) (nm_int h844)) rfl ?_
     refine WPL.q (q_as (v := .lit (.int _ _)) rfl) rfl ?_
     refine WPL.nilW ?_
     refine W.now ?_
     refine Then.n ?_
     refine WP.seq ?_
     refine WP.region ?_
     refine WPL.q (q_mv (v := .lit (.int _ _)) rfl) rfl ?_
     refine WPL.q (q_mv (v := .lit (.int _ _)) rfl) rfl ?_
     refine WPL.q (q_add rfl rfl) rfl ?_
     refine WPL.q (q_as (v := .lit (.int _ _)) rfl) rfl ?_
     refine WPL.nilW ?_
     refine W.now ?_
     refine Then.n ?_
     refine WP.seq ?_
     refine WP.region ?_
     refine WPL.q (q_mv (v := .ptr _ _) rfl) rfl ?_
     refine WPL.q (q_nilCheck rfl) rfl ?_
     refine WPL.q (q_fieldAddr fi52_1 rfl rfl) rfl ?_
     refine WPL.q (q_load sc3 rfl rfl rfl) rfl ?_
     refine WPL.q (q_mv (v := .lit (.int _ _)) rfl) rfl ?_
     refine WPL.q (q_add rfl rfl) rfl ?_
     refine WPL.q (q_nilCheck rfl) rfl ?_
     refine WPL.q (q_fieldAddr fi52_1 rfl rfl) rfl ?_
     refine WPL.s (s_store sz3 rfl rfl rfl rfl rfl) ?_
     refine WPL.nilW ?_
     refine W.now ?_
     refine Then.n ?_
     refine WP.seq ?_
     refine WP.region ?_
     refine WPL.q (q_mv (v := .ptr _ _) rfl) rfl ?_
     refine WPL.q (q_nilCheck rfl) rfl ?_
     refine WPL.q (q_fieldAddr fi52_1 rfl rfl) rfl ?_
     refine WPL.q (q_load sc3 rfl rfl rfl) rfl ?_
     obtain ⟨x845, h845, H⟩ := bnd H
     refine WPL.q (q_nm (q_eql rfl rfl) (nm_bool h845)) rfl ?_
     refine WPL.nilW ?_
     refine W.now ?_
     refine Then.n ?_
     refine WP.cond (t := x845) rfl (fun hb845 => ?_) (fun hb845 => ?_)
     · replace H := cnt hb845 H
       refine WP.region ?_
       refine WPL.q (q_mv (v := .ptr _ _) rfl) rfl ?_
       refine WPL.q (q_mv (v := .ptr _ _) rfl) rfl ?_
       refine WPL.q (q_mv (v := .ptr _ _) rfl) rfl ?_
       refine WPL.q (q_nilCheck rfl) rfl ?_
       refine WPL.q (q_fieldAddr fi52_0 rfl rfl) rfl ?_
       refine WPL.q (q_load sc29 rfl rfl rfl) rfl ?_
       obtain ⟨h846, H⟩ := grd H
       refine WPL.q (q_slice_ro (i := 1) (j := ((List.length x815 : Nat) : Int)) sl29 rfl rfl ⟨_, rfl⟩ rfl h846) rfl ?_
       refine WPL.q (q_nilCheck rfl) rfl ?_
       refine WPL.q (q_fieldAddr fi52_0 rfl rfl) rfl ?_
       refine WPL.s (s_store sz29 rfl rfl rfl rfl rfl) ?_
       refine WPL.q (q_nilCheck rfl) rfl ?_
       refine WPL.q (q_fieldAddr fi52_1 rfl rfl) rfl ?_
       refine WPL.s (s_store sz3 rfl rfl rfl rfl rfl) ?_
       refine WPL.nilW ?_
       exact W.wk [0] hnp (InBlock.n (Then.n ⟨n, ((bits .or .u64 x813 x843), (IntKind.wrap .i64 (x814 + x844)), (List.drop (Int.toNat 1) (List.take (Int.toNat ((List.length x815 : Nat) : Int)) x815)), 0), Nat.lt_succ_self n, H, rfl, rfl⟩)) ⟨rfl, ⟨trivial, .inr ⟨rfl, rfl, rfl⟩⟩, by decide, rfl, ⟨trivial, rfl⟩⟩ (LeE.upd rfl rfl (LeE.upd rfl rfl (LeE.upd rfl rfl (LeE.upd rfl rfl (LeE.none rfl rfl))))) rfl
     replace H := cnf hb845 H
     refine WP.skipW ?_
     exact W.wk [0] hnp (InBlock.n (Then.n ⟨n, ((bits .or .u64 x813 x843), (IntKind.wrap .i64 (x814 + x844)), x815, (IntKind.wrap .i64 (x816 + x844))), Nat.lt_succ_self n, H, rfl, rfl⟩)) ⟨rfl, ⟨trivial, .inr ⟨rfl, rfl, rfl⟩⟩, by decide, rfl, ⟨trivial, rfl⟩⟩ (LeE.upd rfl rfl (LeE.upd rfl rfl (LeE.upd rfl rfl (LeE.upd rfl rfl (LeE.none rfl rfl))))) rfl
   replace H := cnf hb834 H
   refine WP.exitW ?_
   have q0 := (Prod.mk.inj (Option.some.inj H)).1
   have q1 := (Prod.mk.inj (Prod.mk.inj (Option.some.inj H)).2).1
   have q2 := (Prod.mk.inj (Prod.mk.inj (Option.some.inj H)).2).2
   subst q0
   subst q1
   subst q2
   exact W.wk [0] hnp (Then.x (Then.x ⟨rfl, rfl, rfl⟩)) ⟨rfl, ⟨trivial, .inr ⟨rfl, rfl, rfl⟩⟩, by decide, rfl, ⟨trivial, rfl⟩⟩ (LeE.upd rfl rfl (LeE.upd rfl rfl (LeE.none rfl rfl))) rfl
 rintro _ _ _ ⟨rfl, rfl, rfl⟩
 refine W.now ?_
 refine InBlock.x0 ?_
 refine Then.n ?_
 refine WP.seq ?_
 refine WP.region ?_
 refine WPL.q (q_mv (v := .lit (.int _ _)) rfl) rfl ?_
 refine WPL.q (q_mv (v := .lit (.int _ _)) rfl) rfl ?_
 obtain ⟨h848, H⟩ := grd H
 refine WPL.q (q_shl rfl rfl h848) rfl ?_
 obtain ⟨x850, h850, H⟩ := bnd H
 refine WPL.q (q_nm (q_sub rfl rfl) (nm_int h850)) rfl ?_
 refine WPL.q (q_and rfl rfl) rfl ?_
 obtain ⟨x851, h851, H⟩ := bnd H
 refine WPL.q (q_nm (q_conv Try.underlying73 Try.underlying57 rfl) (nm_int h851)) rfl ?_
 refine WPL.q (q_as (v := .lit (.int _ _)) rfl) rfl ?_
 refine WPL.q (q_as (v := .lit (.int _ _)) rfl) rfl ?_
 refine WPL.nilW ?_
 refine W.now ?_
 refine Then.n ?_
 refine WP.retW ?_
 have q0 := (Prod.mk.inj (Option.some.inj H)).1
 have q1 := (Prod.mk.inj (Prod.mk.inj (Option.some.inj H)).2).1
 have q2 := (Prod.mk.inj (Prod.mk.inj (Prod.mk.inj (Option.some.inj H)).2).2).1
 have q3 := (Prod.mk.inj (Prod.mk.inj (Prod.mk.inj (Option.some.inj H)).2).2).2
 subst q0
 subst q1
 subst q2
 subst q3
 exact W.now (BodyR.mkR trivial rfl [0] ⟨rfl, rfl⟩ ⟨rfl, ⟨trivial, .inr ⟨rfl, rfl, rfl⟩⟩, by decide, rfl, ⟨trivial, rfl⟩⟩ rfl rfl)
set_option maxRecDepth 100000 in
set_option maxHeartbeats 4000000 in
theorem s_inflate_must (k : Nat) (x857 : Int) (r : (Unit ⊕ Unit)) (H : g_inflate_must k x857 = some r) : Go.Q.Spec Try.prog 31 0 [.lit (.int .i64 x857)] Mem.nil (fun o M => match (generalizing := false) r with | (Sum.inl _) => o = .pan (.ifc 46 (.lit (.int .i64 x857))) ∧ M = Mem.nil | (Sum.inr _) => o = .ret (.tup []) ∧ M = Mem.nil) := by
 unfold g_inflate_must at H
 refine Go.Q.Spec.of_bodyR (az := []) (rs := []) (nt := 6) Try.func31 rfl rfl (by intro t T h; simp at h) rfl rfl fun cx hnp => ?_
 refine WP.seq ?_
 refine WP.region ?_
 refine WPL.q (q_mv (v := .lit (.int _ _)) rfl) rfl ?_
 refine WPL.q (q_neq rfl rfl) rfl ?_
 refine WPL.nilW ?_
 refine W.now ?_
 refine Then.n ?_
 refine WP.cond (t := (!decide (x857 = 0))) rfl (fun hb859 => ?_) (fun hb859 => ?_)
 · replace H := cnt hb859 H
   refine WP.region ?_
   refine WPL.q (q_mv (v := .lit (.int _ _)) rfl) rfl ?_
   refine WPL.q (q_mki cn46) rfl ?_
   refine WPL.pW (runs_panic rfl) ?_
   have q0 := Option.some.inj H
   subst q0
   exact W.now (BodyR.mkP trivial [] ⟨rfl, rfl⟩ ⟨rfl, trivial, by decide, rfl, trivial⟩ rfl rfl)
 replace H := cnf hb859 H
 refine WP.skipW ?_
 have q0 := Option.some.inj H
 subst q0
 exact W.now (BodyR.mkN trivial rfl [] ⟨rfl, rfl⟩ ⟨rfl, trivial, by decide, rfl, trivial⟩ rfl rfl)
set_option maxRecDepth 100000 in
set_option maxHeartbeats 4000000 in
theorem s_bits_Reader_Align (k : Nat) (x902 : (List Int)) (x903 : Int) (x907 : (List Int)) (x908 : Int) (H : g_bits_Reader_Align k x902 x903 = some (x907, x908)) : Go.Q.Spec Try.prog 47 1 [.ptr 0 0] (Mem.nil.push (.cells 52 [.ro (Rd.slice (Rd.int .u8)) false x902, .lit (.int .i64 x903)])) (fun o M => o = .ret (.tup []) ∧ M = (Mem.nil.push (.cells 52 [.ro (Rd.slice (Rd.int .u8)) false x907, .lit (.int .i64 x908)]))) := by
 unfold g_bits_Reader_Align at H
 refine Go.Q.Spec.of_bodyR (az := []) (rs := []) (nt := 22) Try.func47 rfl rfl (by intro t T h; simp at h) rfl rfl fun cx hnp => ?_
 refine WP.seq ?_
 refine WP.region ?_
 refine WPL.q (q_mv (v := .ptr _ _) rfl) rfl ?_
 refine WPL.q (q_neqp Try.underlying42 rfl) rfl ?_
 refine WPL.q (q_mv (v := .lit (.bool _)) rfl) rfl ?_
 refine WPL.qg rfl rfl rfl (q_mv (v := .ptr _ _) rfl) rfl ?_
 refine WPL.qg rfl rfl rfl (q_nilCheck rfl) rfl ?_
 refine WPL.qg rfl rfl rfl (q_fieldAddr fi52_1 rfl rfl) rfl ?_
 refine WPL.qg rfl rfl rfl (q_load sc3 rfl rfl rfl) rfl ?_
 refine WPL.qg rfl rfl rfl (q_gtr rfl rfl) rfl ?_
 refine WPL.q (q_pickT (v := .lit (.bool _)) rfl rfl) rfl ?_
 refine WPL.nilW ?_
 refine W.now ?_
 refine Then.n ?_
 refine WP.cond (t := (decide (0 < x903))) rfl (fun hb908 => ?_) (fun hb908 => ?_)
 · replace H := cnt hb908 H
   refine WP.region ?_
   refine WPL.q (q_mv (v := .ptr _ _) rfl) rfl ?_
   refine WPL.q (q_mv (v := .ptr _ _) rfl) rfl ?_
   refine WPL.q (q_mv (v := .ptr _ _) rfl) rfl ?_
   refine WPL.q (q_nilCheck rfl) rfl ?_
   refine WPL.q (q_fieldAddr fi52_0 rfl rfl) rfl ?_
   refine WPL.q (q_load sc29 rfl rfl rfl) rfl ?_
   obtain ⟨h909, H⟩ := grd H
   refine WPL.q (q_slice_ro (i := 1) (j := ((List.length x902 : Nat) : Int)) sl29 rfl rfl ⟨_, rfl⟩ rfl h909) rfl ?_
   refine WPL.q (q_nilCheck rfl) rfl ?_
   refine WPL.q (q_fieldAddr fi52_0 rfl rfl) rfl ?_
   refine WPL.s (s_store sz29 rfl rfl rfl rfl rfl) ?_
   refine WPL.q (q_nilCheck rfl) rfl ?_
   refine WPL.q (q_fieldAddr fi52_1 rfl rfl) rfl ?_
   refine WPL.s (s_store sz3 rfl rfl rfl rfl rfl) ?_
   refine WPL.nilW ?_
   have q0 := (Prod.mk.inj (Option.some.inj H)).1
   have q1 := (Prod.mk.inj (Option.some.inj H)).2
   subst q0
   subst q1
   exact W.now (BodyR.mkN trivial rfl [0] ⟨rfl, rfl⟩ ⟨rfl, ⟨trivial, .inr ⟨rfl, rfl, rfl⟩⟩, by decide, rfl, ⟨trivial, rfl⟩⟩ rfl rfl)
 replace H := cnf hb908 H
 refine WP.skipW ?_
 have q0 := (Prod.mk.inj (Option.some.inj H)).1
 have q1 := (Prod.mk.inj (Option.some.inj H)).2
 subst q0
 subst q1
 exact W.now (BodyR.mkN trivial rfl [0] ⟨rfl, rfl⟩ ⟨rfl, ⟨trivial, .inr ⟨rfl, rfl, rfl⟩⟩, by decide, rfl, ⟨trivial, rfl⟩⟩ rfl rfl)
set_option maxRecDepth 100000 in
set_option maxHeartbeats 4000000 in
theorem s_slices_Clone_byte_byte__b (k : Nat) (x919 : List Int) (x920 : List Int) (H : g_slices_Clone_byte_byte__b k x919 = some x920) : Go.Q.Spec Try.prog 25 0 [.ro (Rd.slice (Rd.int .u8)) false x919] Mem.nil (fun o M => o = .ret (.ro (Rd.slice (Rd.int .u8)) false x920) ∧ M = Mem.nil) := by
  unfold g_slices_Clone_byte_byte__b at H
  obtain ⟨h, H⟩ := grd H
  have q0 := Option.some.inj H
  subst q0
  refine Go.Q.Spec.of_bodyR (az := []) (rs := [.tmp 2]) (nt := 8) Try.func25 rfl rfl (by intro t T h; simp at h) rfl rfl fun cx hnp => ?_
  refine WP.seq ?_
  refine WP.region ?_
  refine WPL.q (q_as (v := .lit _) rfl) rfl ?_
  refine WPL.nilW ?_
  refine W.now ?_
  refine Then.n ?_
  refine WP.seq ?_
  refine WP.seq ?_
  refine WP.region ?_
  refine WPL.q (q_mv (v := .ro _ _ _) rfl) rfl ?_
  refine WPL.eqlNil Try.underlying29 rfl rfl fun nb hnb => ?_
  refine WPL.nilW ?_
  refine W.now ?_
  refine Then.n ?_
  refine WP.cond (t := nb) rfl (fun hb => ?_) (fun hb => ?_)
  · have h0 := hnb hb
    subst h0
    refine WP.seq ?_
    refine WP.region ?_
    refine WPL.q (q_as (v := .lit _) rfl) rfl ?_
    refine WPL.nilW ?_
    refine W.now ?_
    refine Then.n ?_
    refine WP.retW ?_
    refine W.cv (Cv.nilRo (Rd.int .u8) false 2 rfl) rfl ?_
    refine W.now ?_
    refine Then.r ?_
    exact ⟨trivial, _, rfl, [], (.ro (Rd.slice (Rd.int .u8)) false ([] : List Int)), Mem.nil, ⟨rfl, trivial, by decide, rfl, trivial⟩, rfl, rfl, rfl, rfl⟩
  · refine WP.skipW ?_
    refine W.now ?_
    refine Then.n ?_
    refine WP.seq ?_
    refine WP.region ?_
    refine WPL.d (d_buildSlice (ds := ([] : List Int)) (R := (Rd.int .u8)) li29 rfl rfl rfl rfl rfl JoinRows.nil rfl rfl) rfl ?_
    refine WPL.q (q_mv (v := .ro _ _ _) rfl) rfl ?_
    refine WPL.d (d_append ap29 rfl rfl rfl rfl (src_ro sl29 rfl) h rfl) rfl ?_
    refine WPL.q (q_as (v := .whole _) rfl) rfl ?_
    refine WPL.nilW ?_
    refine W.now ?_
    refine Then.n ?_
    refine WP.retW ?_
    refine W.cv (Cv.frzRow (i := 1) rfl rfl hnp rfl rfl) rfl ?_
    refine W.now ?_
    exact ⟨trivial, _, rfl, [], (.ro (Rd.slice (Rd.int .u8)) false x919), Mem.nil, ⟨rfl, trivial, by decide, rfl, trivial⟩, rfl, rfl, rfl, rfl⟩
set_option maxRecDepth 100000 in
set_option maxHeartbeats 4000000 in
theorem s_bits_Reader_Bytes (k : Nat) (x896 : Int) (x897 : (List Int)) (x898 : Int) (x924 : (List Int)) (x925 : Int) (x926 : (List Int)) (x927 : Int) (H : g_bits_Reader_Bytes k x896 x897 x898 = some (x924, x925, x926, x927)) : Go.Q.Spec Try.prog 42 1 [.ptr 0 0, .lit (.int .i64 x896)] (Mem.nil.push (.cells 52 [.ro (Rd.slice (Rd.int .u8)) false x897, .lit (.int .i64 x898)])) (fun o M => o = .ret (.tup [.ro (Rd.slice (Rd.int .u8)) false x924, .lit (.int .i64 x925)]) ∧ M = (Mem.nil.push (.cells 52 [.ro (Rd.slice (Rd.int .u8)) false x926, .lit (.int .i64 x927)]))) := by
 unfold g_bits_Reader_Bytes at H
 refine Go.Q.Spec.of_bodyR (az := []) (rs := [.tmp 4, .tmp 5]) (nt := 37) Try.func42 rfl rfl (by intro t T h; simp at h) rfl rfl fun cx hnp => ?_
 refine WP.seq ?_
 refine WP.region ?_
 refine WPL.q (q_as (v := .lit _) rfl) rfl ?_
 refine WPL.q (q_as (v := .lit (.int _ _)) rfl) rfl ?_
 refine WPL.nilW ?_
 refine W.now ?_
 refine Then.n ?_
 refine WP.seq ?_
 refine WP.seq ?_
 refine WP.region ?_
 refine WPL.q (q_mv (v := .ptr _ _) rfl) rfl ?_
 refine WPL.q (q_eqlp Try.underlying42 rfl) rfl ?_
 refine WPL.nilW ?_
 refine W.now ?_
 refine Then.n ?_
 refine WP.condF rfl ?_
 refine WP.skipW ?_
 refine W.now ?_
 refine Then.n ?_
 refine WP.seq ?_
 refine WP.seq ?_
 refine WP.region ?_
 refine WPL.q (q_mv (v := .lit (.int _ _)) rfl) rfl ?_
 refine WPL.q (q_lss rfl rfl) rfl ?_
 refine WPL.nilW ?_
 refine W.now ?_
 refine Then.n ?_
 refine WP.cond (t := (decide (x896 < 0))) rfl (fun hb928 => ?_) (fun hb928 => ?_)
 · replace H := cnt hb928 H
   refine WP.seq ?_
   refine WP.region ?_
   refine WPL.q (q_as (v := .lit _) rfl) rfl ?_
   refine WPL.q (q_as (v := .lit (.int _ _)) rfl) rfl ?_
   refine WPL.nilW ?_
   refine W.now ?_
   refine Then.n ?_
   refine WP.retW ?_
   refine W.cv (Cv.nilRo (Rd.int .u8) false 4 rfl) rfl ?_
   have q0 := (Prod.mk.inj (Option.some.inj H)).1
   have q1 := (Prod.mk.inj (Prod.mk.inj (Option.some.inj H)).2).1
   have q2 := (Prod.mk.inj (Prod.mk.inj (Prod.mk.inj (Option.some.inj H)).2).2).1
   have q3 := (Prod.mk.inj (Prod.mk.inj (Prod.mk.inj (Option.some.inj H)).2).2).2
   subst q0
   subst q1
   subst q2
   subst q3
   exact W.now (Then.r (BodyR.mkR trivial rfl [0] ⟨rfl, rfl⟩ ⟨rfl, ⟨trivial, .inr ⟨rfl, rfl, rfl⟩⟩, by decide, rfl, ⟨trivial, rfl⟩⟩ rfl rfl))
 replace H := cnf hb928 H
 refine WP.skipW ?_
 refine W.now ?_
 refine Then.n ?_
 refine WP.seq ?_
 refine WP.region ?_
 refine WPL.q (q_mv (v := .ptr _ _) rfl) rfl ?_
 obtain ⟨⟨x931, x932⟩, h929, H⟩ := bnd H
 refine WPL.c (runs_call (s := [0]) (t := [0]) (N := 1) (bor := []) fn47 rfl (s_bits_Reader_Align k x897 x898 x931 x932 h929) ⟨rfl, ⟨trivial, .inr ⟨rfl, rfl, rfl⟩⟩, by decide, rfl, trivial⟩ rfl trivial (.ren rfl rfl .nil) rfl ⟨trivial, rfl⟩ rfl) rfl ?_
 refine WPL.nilW ?_
 refine W.now ?_
 refine Then.n ?_
 refine WP.seq ?_
 refine WP.seq ?_
 refine WP.region ?_
 refine WPL.q (q_mv (v := .lit (.int _ _)) rfl) rfl ?_
 refine WPL.q (q_mv (v := .ptr _ _) rfl) rfl ?_
 refine WPL.q (q_nilCheck rfl) rfl ?_
 refine WPL.q (q_fieldAddr fi52_0 rfl rfl) rfl ?_
 refine WPL.q (q_load sc29 rfl rfl rfl) rfl ?_
 refine WPL.q (q_len_ro sl29 rfl) rfl ?_
 obtain ⟨x935, h935, H⟩ := bnd H
 refine WPL.q (q_nm (q_gtr rfl rfl) (nm_bool h935)) rfl ?_
 refine WPL.nilW ?_
 refine W.now ?_
 refine Then.n ?_
 refine WP.cond (t := x935) rfl (fun hb935 => ?_) (fun hb935 => ?_)
 · replace H := cnt hb935 H
   refine WP.seq ?_
   refine WP.region ?_
   refine WPL.q (q_as (v := .lit _) rfl) rfl ?_
   refine WPL.q (q_as (v := .lit (.int _ _)) rfl) rfl ?_
   refine WPL.nilW ?_
   refine W.now ?_
   refine Then.n ?_
   refine WP.retW ?_
   refine W.cv (Cv.nilRo (Rd.int .u8) false 4 rfl) rfl ?_
   have q0 := (Prod.mk.inj (Option.some.inj H)).1
   have q1 := (Prod.mk.inj (Prod.mk.inj (Option.some.inj H)).2).1
   have q2 := (Prod.mk.inj (Prod.mk.inj (Prod.mk.inj (Option.some.inj H)).2).2).1
   have q3 := (Prod.mk.inj (Prod.mk.inj (Prod.mk.inj (Option.some.inj H)).2).2).2
   subst q0
   subst q1
   subst q2
   subst q3
   exact W.now (Then.r (BodyR.mkR trivial rfl [0] ⟨rfl, rfl⟩ ⟨rfl, ⟨trivial, .inr ⟨rfl, rfl, rfl⟩⟩, by decide, rfl, ⟨trivial, rfl⟩⟩ rfl rfl))
 replace H := cnf hb935 H
 refine WP.skipW ?_
 refine W.now ?_
 refine Then.n ?_
 refine WP.seq ?_
 refine WP.region ?_
 refine WPL.q (q_mv (v := .ptr _ _) rfl) rfl ?_
 refine WPL.q (q_nilCheck rfl) rfl ?_
 refine WPL.q (q_fieldAddr fi52_0 rfl rfl) rfl ?_
 refine WPL.q (q_load sc29 rfl rfl rfl) rfl ?_
 refine WPL.q (q_mv (v := .lit (.int _ _)) rfl) rfl ?_
 obtain ⟨h936, H⟩ := grd H
 refine WPL.q (q_slice_ro (i := 0) (j := x896) sl29 rfl rfl rfl ⟨_, rfl⟩ h936) rfl ?_
 obtain ⟨x939, h937, H⟩ := bnd H
 refine WPL.c (runs_call (s := []) (t := []) (N := 1) (bor := []) fn25 rfl (s_slices_Clone_byte_byte__b k (List.drop (Int.toNat 0) (List.take (Int.toNat x896) x931)) x939 h937) ⟨rfl, trivial, by decide, rfl, trivial⟩ rfl trivial (.ren rfl rfl .nil) rfl trivial rfl) rfl ?_
 refine WPL.q (q_as (v := .ro _ _ _) rfl) rfl ?_
 refine WPL.nilW ?_
 refine W.now ?_
 refine Then.n ?_
 refine WP.seq ?_
 refine WP.region ?_
 refine WPL.q (q_mv (v := .ptr _ _) rfl) rfl ?_
 refine WPL.q (q_mv (v := .ptr _ _) rfl) rfl ?_
 refine WPL.q (q_nilCheck rfl) rfl ?_
 refine WPL.q (q_fieldAddr fi52_0 rfl rfl) rfl ?_
 refine WPL.q (q_load sc29 rfl rfl rfl) rfl ?_
 refine WPL.q (q_mv (v := .lit (.int _ _)) rfl) rfl ?_
 obtain ⟨h939, H⟩ := grd H
 refine WPL.q (q_slice_ro (i := x896) (j := ((List.length x931 : Nat) : Int)) sl29 rfl rfl ⟨_, rfl⟩ rfl h939) rfl ?_
 refine WPL.q (q_nilCheck rfl) rfl ?_
 refine WPL.q (q_fieldAddr fi52_0 rfl rfl) rfl ?_
 refine WPL.s (s_store sz29 rfl rfl rfl rfl rfl) ?_
 refine WPL.nilW ?_
 refine W.now ?_
 refine Then.n ?_
 refine WP.seq ?_
 refine WP.region ?_
 refine WPL.q (q_mv (v := .ro _ _ _) rfl) rfl ?_
 refine WPL.q (q_as (v := .ro _ _ _) rfl) rfl ?_
 refine WPL.q (q_as (v := .lit (.int _ _)) rfl) rfl ?_
 refine WPL.nilW ?_
 refine W.now ?_
 refine Then.n ?_
 refine WP.retW ?_
 have q0 := (Prod.mk.inj (Option.some.inj H)).1
 have q1 := (Prod.mk.inj (Prod.mk.inj (Option.some.inj H)).2).1
 have q2 := (Prod.mk.inj (Prod.mk.inj (Prod.mk.inj (Option.some.inj H)).2).2).1
 have q3 := (Prod.mk.inj (Prod.mk.inj (Prod.mk.inj (Option.some.inj H)).2).2).2
 subst q0
 subst q1
 subst q2
 subst q3
 exact W.now (BodyR.mkR trivial rfl [0] ⟨rfl, rfl⟩ ⟨rfl, ⟨trivial, .inr ⟨rfl, rfl, rfl⟩⟩, by decide, rfl, ⟨trivial, rfl⟩⟩ rfl rfl)
set_option maxRecDepth 100000 in
set_option maxHeartbeats 4000000 in
theorem s_inflate_ask (k : Nat) (x975 : Bool) (x976 : Int) (r : (Unit ⊕ Unit)) (H : g_inflate_ask k x975 x976 = some r) : Go.Q.Spec Try.prog 34 0 [.lit (.bool x975), .lit (.int .i64 x976)] Mem.nil (fun o M => match (generalizing := false) r with | (Sum.inl _) => o = .pan (.ifc 46 (.lit (.int .i64 x976))) ∧ M = Mem.nil | (Sum.inr _) => o = .ret (.tup []) ∧ M = Mem.nil) := by
 unfold g_inflate_ask at H
 refine Go.Q.Spec.of_bodyR (az := []) (rs := []) (nt := 8) Try.func34 rfl rfl (by intro t T h; simp at h) rfl rfl fun cx hnp => ?_
 refine WP.seq ?_
 refine WP.region ?_
 refine WPL.q (q_mv (v := .lit (.bool _)) rfl) rfl ?_
 refine WPL.q (q_not rfl) rfl ?_
 refine WPL.nilW ?_
 refine W.now ?_
 refine Then.n ?_
 refine WP.cond (t := (!x975)) rfl (fun hb980 => ?_) (fun hb980 => ?_)
 · replace H := cnt hb980 H
   refine WP.region ?_
   refine WPL.q (q_mv (v := .lit (.int _ _)) rfl) rfl ?_
   obtain ⟨y983, h981, H⟩ := bnd H
   rcases y983 with _ | _
   · refine WPL.pW (runs_callP (s := []) (t := []) (N := 0) (bor := []) fn31 rfl (s_inflate_must k x976 (Sum.inl ()) h981) ⟨rfl, trivial, by decide, rfl, trivial⟩ rfl trivial (.ren rfl rfl .nil) rfl trivial rfl) ?_
     have q0 := Option.some.inj H
     subst q0
     exact W.now (BodyR.mkP trivial [] ⟨rfl, rfl⟩ ⟨rfl, trivial, by decide, rfl, trivial⟩ rfl rfl)
   refine WPL.c (runs_call (s := []) (t := []) (N := 0) (bor := []) fn31 rfl (s_inflate_must k x976 (Sum.inr ()) h981) ⟨rfl, trivial, by decide, rfl, trivial⟩ rfl trivial (.ren rfl rfl .nil) rfl trivial rfl) rfl ?_
   refine WPL.nilW ?_
   have q0 := Option.some.inj H
   subst q0
   exact W.now (BodyR.mkN trivial rfl [] ⟨rfl, rfl⟩ ⟨rfl, trivial, by decide, rfl, trivial⟩ rfl rfl)
 replace H := cnf hb980 H
 refine WP.skipW ?_
 have q0 := Option.some.inj H
 subst q0
 exact W.now (BodyR.mkN trivial rfl [] ⟨rfl, rfl⟩ ⟨rfl, trivial, by decide, rfl, trivial⟩ rfl rfl)
end Go.Proofs.Ytpceecokdpdgfaa.W
namespace Go.Proofs.Ytpceecokdpdgfaa.W
open Go Go.Q Go.Proofs
set_option linter.unusedVariables false
set_option linter.unusedSimpArgs false
set_option maxRecDepth 100000 in
set_option maxHeartbeats 4000000 in
theorem s_huff_judged (k : Nat) (x1124 : (List Int)) (x1223 : Bool) (x1224 : Int) (H : g_huff_judged k x1124 = some (x1223, x1224)) : Go.Q.Spec Try.prog 44 0 [.ro (Rd.slice (Rd.int .i64)) false x1124] Mem.nil (fun o M => o = .ret (.tup [.lit (.bool x1223), .lit (.int .i64 x1224)]) ∧ M = Mem.nil) := by
 unfold g_huff_judged at H
 refine Go.Q.Spec.of_bodyR (az := []) (rs := [.tmp 2, .tmp 3]) (nt := 45) Try.func44 rfl rfl (by intro t T h; simp at h) rfl rfl fun cx hnp => ?_
 refine WP.seq ?_
 refine WP.region ?_
 refine WPL.q (q_as (v := .lit (.bool _)) rfl) rfl ?_
 refine WPL.q (q_as (v := .lit (.int _ _)) rfl) rfl ?_
 refine WPL.nilW ?_
 refine W.now ?_
 refine Then.n ?_
 refine WP.seq ?_
 refine WP.seq ?_
 refine WP.region ?_
 refine WPL.q (q_mv (v := .ro _ _ _) rfl) rfl ?_
 refine WPL.q (q_len_ro sl25 rfl) rfl ?_
 obtain ⟨x1227, h1227, H⟩ := bnd H
 refine WPL.q (q_nm (q_gtr rfl rfl) (nm_bool h1227)) rfl ?_
 refine WPL.nilW ?_
 refine W.now ?_
 refine Then.n ?_
 refine WP.cond (t := x1227) rfl (fun hb1227 => ?_) (fun hb1227 => ?_)
 · replace H := cnt hb1227 H
   refine WP.seq ?_
   refine WP.region ?_
   refine WPL.q (q_as (v := .lit (.bool _)) rfl) rfl ?_
   refine WPL.q (q_as (v := .lit (.int _ _)) rfl) rfl ?_
   refine WPL.nilW ?_
   refine W.now ?_
   refine Then.n ?_
   refine WP.retW ?_
   have q0 := (Prod.mk.inj (Option.some.inj H)).1
   have q1 := (Prod.mk.inj (Option.some.inj H)).2
   subst q0
   subst q1
   exact W.now (Then.r (BodyR.mkR trivial rfl [] ⟨rfl, rfl⟩ ⟨rfl, trivial, by decide, rfl, trivial⟩ rfl rfl))
 replace H := cnf hb1227 H
 refine WP.skipW ?_
 refine W.now ?_
 refine Then.n ?_
 refine WP.seq ?_
 refine WP.region ?_
 refine WPL.q (q_as (v := .lit (.int _ _)) rfl) rfl ?_
 refine WPL.q (q_as (v := .lit (.int _ _)) rfl) rfl ?_
 refine WPL.nilW ?_
 refine W.now ?_
 refine Then.n ?_
 refine WP.seq ?_
 refine WP.seq ?_
 refine WP.region ?_
 refine WPL.q (q_mv (v := .ro _ _ _) rfl) rfl ?_
 refine WPL.q (q_len_ro sl25 rfl) rfl ?_
 refine WPL.q (q_mv (v := .lit (.int _ _)) rfl) rfl ?_
 refine WPL.nilW ?_
 refine W.now ?_
 refine Then.n ?_
 refine WP.block ?_
 refine WP.cv (Cv.weak (E' := (((((Env.none.upd 4 (.lit (.int .i64 32768))).upd 5 (.lit (.int .i64 0))).upd 11 (.ro (Rd.slice (Rd.int .i64)) false x1124)).upd 12 (.lit (.int .i64 ((List.length x1124 : Nat) : Int)))).upd 13 (.lit (.int .i64 0)))) (M' := Mem.nil) [] hnp ⟨rfl, trivial, by decide, rfl, trivial⟩ (LeE.upd rfl rfl (LeE.upd rfl rfl (LeE.upd rfl rfl (LeE.upd rfl rfl (LeE.upd rfl rfl (LeE.none rfl rfl))))))) ?_
 obtain ⟨y1340, H1338, H⟩ := bnd H
 refine WP.monoW (Q := fun x E M => match (generalizing := false) y1340 with | (Sum.inl _) => x = .ret ∧ E = ((Env.none.upd 2 (.lit (.bool false))).upd 3 (.lit (.int .i64 1))) ∧ M = Mem.nil | (Sum.inr (x1302, x1303)) => x = .exit 0 ∧ E = ((Env.none.upd 4 (.lit (.int .i64 x1302))).upd 5 (.lit (.int .i64 x1303))) ∧ M = Mem.nil) ?_ ?_
 · refine WP.loop (β := Int × Int × Int) (fun n b => g_huff_judged_l0 k x1124 n b.1 b.2.1 b.2.2 = some y1340) (fun b => (((((Env.none.upd 4 (.lit (.int .i64 b.1))).upd 5 (.lit (.int .i64 b.2.1))).upd 11 (.ro (Rd.slice (Rd.int .i64)) false x1124)).upd 12 (.lit (.int .i64 ((List.length x1124 : Nat) : Int)))).upd 13 (.lit (.int .i64 b.2.2)))) (fun b => Mem.nil) k (32768, 0, 0) H1338 rfl rfl ?_
   rintro n ⟨x1264, x1265, x1266⟩ H
   obtain _ | n := n
   · exact nf rfl H
   rw [g_huff_judged_l0.eq_2] at H
   show WP _ _ _ _ (((((Env.none.upd 4 (.lit (.int .i64 x1264))).upd 5 (.lit (.int .i64 x1265))).upd 11 (.ro (Rd.slice (Rd.int .i64)) false x1124)).upd 12 (.lit (.int .i64 ((List.length x1124 : Nat) : Int)))).upd 13 (.lit (.int .i64 x1266))) Mem.nil _
   refine WP.seq ?_
   refine WP.region ?_
   obtain ⟨x1304, h1304, H⟩ := bnd H
   refine WPL.q (q_nm (q_lss rfl rfl) (nm_bool h1304)) rfl ?_
   refine WPL.nilW ?_
   refine W.now ?_
   refine Then.n ?_
   refine WP.seq ?_
   refine WP.cond (t := x1304) rfl (fun hb1305 => ?_) (fun hb1305 => ?_)
   · replace H := cnt hb1305 H
     refine WP.skipW ?_
     refine W.now ?_
     refine Then.n ?_
     refine WP.seq ?_
     obtain ⟨y1338, H1336, H⟩ := bnd H
     refine WP.monoW (Q := fun x E M => match (generalizing := false) y1338 with | (Sum.inl _) => x = .ret ∧ E = ((Env.none.upd 2 (.lit (.bool false))).upd 3 (.lit (.int .i64 1))) ∧ M = Mem.nil | (Sum.inr (x1321, x1322)) => x = .normal ∧ E = (((((Env.none.upd 4 (.lit (.int .i64 x1321))).upd 5 (.lit (.int .i64 x1322))).upd 11 (.ro (Rd.slice (Rd.int .i64)) false x1124)).upd 12 (.lit (.int .i64 ((List.length x1124 : Nat) : Int)))).upd 13 (.lit (.int .i64 x1266))) ∧ M = Mem.nil) ?_ ?_
     · clear H
       have H := H1336
       clear H1336
       refine WP.block ?_
       refine WP.seq ?_
       refine WP.region ?_
       obtain ⟨x1323, h1323, H⟩ := bnd H
       refine WPL.q (q_index_ro sl25 rfl rfl rfl h1323) rfl ?_
       refine WPL.q (q_load_sc sc3 rfl) rfl ?_
       refine WPL.q (q_as (v := .lit (.int _ _)) rfl) rfl ?_
       refine WPL.nilW ?_
       refine W.now ?_
       refine Then.n ?_
       refine WP.seq ?_
       refine WP.seq ?_
       obtain ⟨x1330, H1331, H⟩ := bnd H
       refine WP.monoW (Q := fun x E M => x = .normal ∧ E = (((((((Env.none.upd 4 (.lit (.int .i64 x1264))).upd 5 (.lit (.int .i64 x1265))).upd 7 (.lit (.int .i64 x1323))).upd 11 (.ro (Rd.slice (Rd.int .i64)) false x1124)).upd 12 (.lit (.int .i64 ((List.length x1124 : Nat) : Int)))).upd 13 (.lit (.int .i64 x1266))).upd 22 (.lit (.bool x1330))) ∧ M = Mem.nil) ?_ ?_
       · clear H
         have H := H1331
         clear H1331
         refine WP.region ?_
         refine WPL.q (q_mv (v := .lit (.int _ _)) rfl) rfl ?_
         refine WPL.q (q_lss rfl rfl) rfl ?_
         refine WPL.q (q_mv (v := .lit (.bool _)) rfl) rfl ?_
         refine WPL.split (t := 19) (b := (decide (x1323 < 0))) rfl (fun hb1330 => ?_) (fun hb1330 => ?_)
         · replace H := cnt hb1330 H
           refine WPL.skipg (b' := true) rfl rfl (lb hb1330) rfl rfl (.inl trivial) ?_
           refine WPL.skipg (b' := true) rfl rfl (lb hb1330) rfl rfl (.inl trivial) ?_
           refine WPL.q (q_pickT (v := .lit (.bool _)) (lb hb1330) rfl) rfl ?_
           refine WPL.nilW ?_
           have q0 := (Option.some.inj H)
           subst q0
           exact W.wk [] hnp ⟨rfl, rfl, rfl⟩ ⟨rfl, trivial, by decide, rfl, trivial⟩ (LeE.upd rfl rfl (LeE.upd rfl rfl (LeE.upd rfl rfl (LeE.upd rfl rfl (LeE.upd rfl rfl (LeE.upd rfl rfl (LeE.upd rfl rfl (LeE.none rfl rfl)))))))) rfl
         replace H := cnf hb1330 H
         refine WPL.qg rfl rfl (lb hb1330) (q_mv (v := .lit (.int _ _)) rfl) rfl ?_
         refine WPL.qg rfl rfl (lb hb1330) (q_gtr rfl rfl) rfl ?_
         refine WPL.q (q_pickF (v := .lit (.bool _)) (lb hb1330) rfl) rfl ?_
         refine WPL.nilW ?_
         have q0 := (Option.some.inj H)
         subst q0
         exact W.wk [] hnp ⟨rfl, rfl, rfl⟩ ⟨rfl, trivial, by decide, rfl, trivial⟩ (LeE.upd rfl rfl (LeE.upd rfl rfl (LeE.upd rfl rfl (LeE.upd rfl rfl (LeE.upd rfl rfl (LeE.upd rfl rfl (LeE.upd rfl rfl (LeE.none rfl rfl)))))))) rfl
       rintro _ _ _ ⟨rfl, rfl, rfl⟩
       refine W.now ?_
       refine Then.n ?_
       refine WP.cond (t := x1330) rfl (fun hb1332 => ?_) (fun hb1332 => ?_)
       · replace H := cnt hb1332 H
         refine WP.seq ?_
         refine WP.region ?_
         refine WPL.q (q_as (v := .lit (.bool _)) rfl) rfl ?_
         refine WPL.q (q_as (v := .lit (.int _ _)) rfl) rfl ?_
         refine WPL.nilW ?_
         refine W.now ?_
         refine Then.n ?_
         refine WP.retW ?_
         have q0 := Option.some.inj H
         subst q0
         exact W.wk [] hnp (Then.r (InBlock.r ⟨rfl, rfl, rfl⟩)) ⟨rfl, trivial, by decide, rfl, trivial⟩ (LeE.upd rfl rfl (LeE.upd rfl rfl (LeE.none rfl rfl))) rfl
       replace H := cnf hb1332 H
       refine WP.skipW ?_
       refine W.now ?_
       refine Then.n ?_
       refine WP.seq ?_
       refine WP.region ?_
       refine WPL.q (q_mv (v := .lit (.int _ _)) rfl) rfl ?_
       refine WPL.q (q_gtr rfl rfl) rfl ?_
       refine WPL.nilW ?_
       refine W.now ?_
       refine Then.n ?_
       refine WP.cond (t := (decide (0 < x1323))) rfl (fun hb1333 => ?_) (fun hb1333 => ?_)
       · replace H := cnt hb1333 H
         refine WP.seq ?_
         refine WP.region ?_
         refine WPL.q (q_mv (v := .lit (.int _ _)) rfl) rfl ?_
         refine WPL.q (q_mv (v := .lit (.int _ _)) rfl) rfl ?_
         refine WPL.q (q_sub rfl rfl) rfl ?_
         obtain ⟨h1334, H⟩ := grd H
         obtain ⟨x1336, h1336, H⟩ := bnd H
         refine WPL.q (q_nm (q_shl rfl rfl h1334) (nm_int h1336)) rfl ?_
         refine WPL.q (q_sub rfl rfl) rfl ?_
         refine WPL.q (q_as (v := .lit (.int _ _)) rfl) rfl ?_
         refine WPL.nilW ?_
         refine W.now ?_
         refine Then.n ?_
         refine WP.region ?_
         refine WPL.q (q_mv (v := .lit (.int _ _)) rfl) rfl ?_
         refine WPL.q (q_add rfl rfl) rfl ?_
         refine WPL.q (q_as (v := .lit (.int _ _)) rfl) rfl ?_
         refine WPL.nilW ?_
         have q0 := Option.some.inj H
         subst q0
         exact W.wk [] hnp (InBlock.n ⟨rfl, rfl, rfl⟩) ⟨rfl, trivial, by decide, rfl, trivial⟩ (LeE.upd rfl rfl (LeE.upd rfl rfl (LeE.upd rfl rfl (LeE.upd rfl rfl (LeE.upd rfl rfl (LeE.none rfl rfl)))))) rfl
       replace H := cnf hb1333 H
       refine WP.skipW ?_
       have q0 := Option.some.inj H
       subst q0
       exact W.wk [] hnp (InBlock.n ⟨rfl, rfl, rfl⟩) ⟨rfl, trivial, by decide, rfl, trivial⟩ (LeE.upd rfl rfl (LeE.upd rfl rfl (LeE.upd rfl rfl (LeE.upd rfl rfl (LeE.upd rfl rfl (LeE.none rfl rfl)))))) rfl
     rcases y1338 with _ | ⟨x1321, x1322⟩
     · rintro _ _ _ ⟨rfl, rfl, rfl⟩
       have q0 := Option.some.inj H
       subst q0
       exact W.wk [] hnp (Then.r (Then.r ⟨rfl, rfl, rfl⟩)) ⟨rfl, trivial, by decide, rfl, trivial⟩ (LeE.upd rfl rfl (LeE.upd rfl rfl (LeE.none rfl rfl))) rfl
     rintro _ _ _ ⟨rfl, rfl, rfl⟩
     refine W.now ?_
     refine Then.n ?_
     refine WP.region ?_
     refine WPL.q (q_add rfl rfl) rfl ?_
     refine WPL.q (q_mv (v := .lit (.int _ _)) rfl) rfl ?_
     refine WPL.nilW ?_
     exact W.wk [] hnp (Then.n ⟨n, (x1321, x1322, (IntKind.wrap .i64 (x1266 + 1))), Nat.lt_succ_self n, H, rfl, rfl⟩) ⟨rfl, trivial, by decide, rfl, trivial⟩ (LeE.upd rfl rfl (LeE.upd rfl rfl (LeE.upd rfl rfl (LeE.upd rfl rfl (LeE.upd rfl rfl (LeE.none rfl rfl)))))) rfl
   replace H := cnf hb1305 H
   refine WP.exitW ?_
   have q0 := Option.some.inj H
   subst q0
   exact W.wk [] hnp (Then.x (Then.x ⟨rfl, rfl, rfl⟩)) ⟨rfl, trivial, by decide, rfl, trivial⟩ (LeE.upd rfl rfl (LeE.upd rfl rfl (LeE.none rfl rfl))) rfl
 rcases y1340 with _ | ⟨x1302, x1303⟩
 · rintro _ _ _ ⟨rfl, rfl, rfl⟩
   have q0 := (Prod.mk.inj (Option.some.inj H)).1
   have q1 := (Prod.mk.inj (Option.some.inj H)).2
   subst q0
   subst q1
   exact W.now (InBlock.r (Then.r (BodyR.mkR trivial rfl [] ⟨rfl, rfl⟩ ⟨rfl, trivial, by decide, rfl, trivial⟩ rfl rfl)))
 rintro _ _ _ ⟨rfl, rfl, rfl⟩
 refine W.now ?_
 refine InBlock.x0 ?_
 refine Then.n ?_
 refine WP.seq ?_
 refine WP.block ?_
 refine WP.seq ?_
 refine WP.region ?_
 refine WPL.q (q_mv (v := .lit (.int _ _)) rfl) rfl ?_
 refine WPL.q (q_eql rfl rfl) rfl ?_
 refine WPL.q (q_as (v := .lit (.bool _)) rfl) rfl ?_
 refine WPL.nilW ?_
 refine W.now ?_
 refine Then.n ?_
 refine WP.cond (t := (decide (x1302 = 0))) rfl (fun hb1348 => ?_) (fun hb1348 => ?_)
 · replace H := cnt hb1348 H
   refine WP.seq ?_
   refine WP.region ?_
   refine WPL.q (q_as (v := .lit (.bool _)) rfl) rfl ?_
   refine WPL.q (q_as (v := .lit (.int _ _)) rfl) rfl ?_
   refine WPL.nilW ?_
   refine W.now ?_
   refine Then.n ?_
   refine WP.retW ?_
   have q0 := (Prod.mk.inj (Option.some.inj H)).1
   have q1 := (Prod.mk.inj (Option.some.inj H)).2
   subst q0
   subst q1
   exact W.now (InBlock.r (Then.r (BodyR.mkR trivial rfl [] ⟨rfl, rfl⟩ ⟨rfl, trivial, by decide, rfl, trivial⟩ rfl rfl)))
 replace H := cnf hb1348 H
 refine WP.seq ?_
 obtain ⟨x1352, H1354, H⟩ := bnd H
 refine WP.monoW (Q := fun x E M => x = .normal ∧ E = (Env.none.upd 36 (.lit (.bool x1352))) ∧ M = Mem.nil) ?_ ?_
 · clear H
   have H := H1354
   clear H1354
   refine WP.seq ?_
   refine WP.region ?_
   refine WPL.q (q_mv (v := .lit (.int _ _)) rfl) rfl ?_
   refine WPL.q (q_eql rfl rfl) rfl ?_
   refine WPL.q (q_as (v := .lit (.bool _)) rfl) rfl ?_
   refine WPL.nilW ?_
   refine W.now ?_
   refine Then.n ?_
   refine WP.cond (t := (decide (x1303 = 0))) rfl (fun hb1352 => ?_) (fun hb1352 => ?_)
   · replace H := cnt hb1352 H
     refine WP.skipW ?_
     have q0 := (Option.some.inj H)
     subst q0
     exact W.wk [] hnp ⟨rfl, rfl, rfl⟩ ⟨rfl, trivial, by decide, rfl, trivial⟩ (LeE.upd rfl rfl (LeE.none rfl rfl)) rfl
   replace H := cnf hb1352 H
   refine WP.region ?_
   refine WPL.q (q_mv (v := .lit (.int _ _)) rfl) rfl ?_
   refine WPL.q (q_eql rfl rfl) rfl ?_
   refine WPL.q (q_mv (v := .lit (.bool _)) rfl) rfl ?_
   refine WPL.split (t := 41) (b := (decide (x1303 = 1))) rfl (fun hb1353 => ?_) (fun hb1353 => ?_)
   · replace H := cnt hb1353 H
     refine WPL.qg rfl rfl (lb hb1353) (q_mv (v := .lit (.int _ _)) rfl) rfl ?_
     refine WPL.qg rfl rfl (lb hb1353) (q_eql rfl rfl) rfl ?_
     refine WPL.q (q_pickT (v := .lit (.bool _)) (lb hb1353) rfl) rfl ?_
     refine WPL.q (q_as (v := .lit (.bool _)) rfl) rfl ?_
     refine WPL.nilW ?_
     have q0 := (Option.some.inj H)
     subst q0
     exact W.wk [] hnp ⟨rfl, rfl, rfl⟩ ⟨rfl, trivial, by decide, rfl, trivial⟩ (LeE.upd rfl rfl (LeE.none rfl rfl)) rfl
   replace H := cnf hb1353 H
   refine WPL.skipg (b' := false) rfl rfl (lb hb1353) rfl rfl (.inl trivial) ?_
   refine WPL.skipg (b' := false) rfl rfl (lb hb1353) rfl rfl (.inl trivial) ?_
   refine WPL.q (q_pickF (v := .lit (.bool _)) (lb hb1353) rfl) rfl ?_
   refine WPL.q (q_as (v := .lit (.bool _)) rfl) rfl ?_
   refine WPL.nilW ?_
   have q0 := (Option.some.inj H)
   subst q0
   exact W.wk [] hnp ⟨rfl, rfl, rfl⟩ ⟨rfl, trivial, by decide, rfl, trivial⟩ (LeE.upd rfl rfl (LeE.none rfl rfl)) rfl
 rintro _ _ _ ⟨rfl, rfl, rfl⟩
 refine W.now ?_
 refine Then.n ?_
 refine WP.cond (t := x1352) rfl (fun hb1355 => ?_) (fun hb1355 => ?_)
 · replace H := cnt hb1355 H
   refine WP.seq ?_
   refine WP.region ?_
   refine WPL.q (q_as (v := .lit (.bool _)) rfl) rfl ?_
   refine WPL.q (q_as (v := .lit (.int _ _)) rfl) rfl ?_
   refine WPL.nilW ?_
   refine W.now ?_
   refine Then.n ?_
   refine WP.retW ?_
   have q0 := (Prod.mk.inj (Option.some.inj H)).1
   have q1 := (Prod.mk.inj (Option.some.inj H)).2
   subst q0
   subst q1
   exact W.now (InBlock.r (Then.r (BodyR.mkR trivial rfl [] ⟨rfl, rfl⟩ ⟨rfl, trivial, by decide, rfl, trivial⟩ rfl rfl)))
 replace H := cnf hb1355 H
 refine WP.skipW ?_
 refine W.now ?_
 refine InBlock.n ?_
 refine Then.n ?_
 refine WP.seq ?_
 refine WP.region ?_
 refine WPL.q (q_as (v := .lit (.bool _)) rfl) rfl ?_
 refine WPL.q (q_as (v := .lit (.int _ _)) rfl) rfl ?_
 refine WPL.nilW ?_
 refine W.now ?_
 refine Then.n ?_
 refine WP.retW ?_
 have q0 := (Prod.mk.inj (Option.some.inj H)).1
 have q1 := (Prod.mk.inj (Option.some.inj H)).2
 subst q0
 subst q1
 exact W.now (BodyR.mkR trivial rfl [] ⟨rfl, rfl⟩ ⟨rfl, trivial, by decide, rfl, trivial⟩ rfl rfl)
set_option maxRecDepth 100000 in
set_option maxHeartbeats 4000000 in
theorem s_huff_of (k : Nat) (x1365 : (List Int)) (x1366 : Int) (H : g_huff_of k x1365 x1366 = some ()) : Go.Q.Spec Try.prog 45 0 [.ro (Rd.slice (Rd.int .i64)) false x1365, .lit (.int .i64 x1366)] Mem.nil (fun o M => o = .ret (.fn 49 [.ptr 0 0, .ptr 1 0]) ∧ M = ((Mem.nil.push (.cells 25 [.ro (Rd.slice (Rd.int .i64)) false x1365])).push (.cells 3 [.lit (.int .i64 x1366)]))) := by
 unfold g_huff_of at H
 refine Go.Q.Spec.of_bodyR (az := []) (rs := [.tmp 4]) (nt := 6) Try.func45 rfl rfl (by intro t T h; simp at h) rfl rfl fun cx hnp => ?_
 refine WP.seq ?_
 refine WP.region ?_
 refine WPL.d (d_box rfl rfl) rfl ?_
 refine WPL.d (d_box rfl rfl) rfl ?_
 refine WPL.q (q_as (v := .lit _) rfl) rfl ?_
 refine WPL.nilW ?_
 refine W.now ?_
 refine Then.n ?_
 refine WP.seq ?_
 refine WP.region ?_
 refine WPL.q (q_makeFunc) rfl ?_
 refine WPL.q (q_as (v := .fn _ _) rfl) rfl ?_
 refine WPL.nilW ?_
 refine W.now ?_
 refine Then.n ?_
 refine WP.retW ?_
 exact W.now (BodyR.mkR trivial rfl [0, 1] ⟨rfl, rfl⟩ ⟨rfl, ⟨⟨trivial, .inr ⟨rfl, rfl, rfl⟩⟩, .inr ⟨rfl, rfl, rfl⟩⟩, by decide, rfl, trivial⟩ rfl rfl)
set_option maxRecDepth 100000 in
set_option maxHeartbeats 4000000 in
theorem s_huff_New (k : Nat) (x1122 : (List Int)) (r : (Int ⊕ ((List Int) × (List Int)))) (H : g_huff_New k x1122 = some r) : Go.Q.Spec Try.prog 38 0 [.ro (Rd.slice (Rd.int .i64)) false x1122] Mem.nil (fun o M => match (generalizing := false) r with | (Sum.inl x1794) => o = .ret (.tup [.lit (.pointer none), .lit (.int .i64 x1794)]) ∧ M = Mem.nil | (Sum.inr (x1795, x1796)) => o = .ret (.tup [.ptr 0 0, .lit (.int .i64 0)]) ∧ M = ((Mem.nil.push (.cells 82 [.lit (.int .i64 (List.getD x1795 0 (0 : Int))), .lit (.int .i64 (List.getD x1795 1 (0 : Int))), .lit (.int .i64 (List.getD x1795 2 (0 : Int))), .lit (.int .i64 (List.getD x1795 3 (0 : Int))), .lit (.int .i64 (List.getD x1795 4 (0 : Int))), .lit (.int .i64 (List.getD x1795 5 (0 : Int))), .lit (.int .i64 (List.getD x1795 6 (0 : Int))), .lit (.int .i64 (List.getD x1795 7 (0 : Int))), .lit (.int .i64 (List.getD x1795 8 (0 : Int))), .lit (.int .i64 (List.getD x1795 9 (0 : Int))), .lit (.int .i64 (List.getD x1795 10 (0 : Int))), .lit (.int .i64 (List.getD x1795 11 (0 : Int))), .lit (.int .i64 (List.getD x1795 12 (0 : Int))), .lit (.int .i64 (List.getD x1795 13 (0 : Int))), .lit (.int .i64 (List.getD x1795 14 (0 : Int))), .lit (.int .i64 (List.getD x1795 15 (0 : Int))), .whole 1])).push (.row 3 (Rd.int .i64) x1796))) := by
 unfold g_huff_New at H
 refine Go.Q.Spec.of_bodyR (az := []) (rs := [.tmp 2, .tmp 3]) (nt := 49) Try.func38 rfl rfl (by intro t T h; simp at h) rfl rfl fun cx hnp => ?_
 refine WP.seq ?_
 refine WP.region ?_
 refine WPL.q (q_as (v := .lit _) rfl) rfl ?_
 refine WPL.q (q_as (v := .lit (.int _ _)) rfl) rfl ?_
 refine WPL.nilW ?_
 refine W.now ?_
 refine Then.n ?_
 refine WP.seq ?_
 refine WP.seq ?_
 refine WP.region ?_
 refine WPL.q (q_mv (v := .ro _ _ _) rfl) rfl ?_
 obtain ⟨⟨x1802, x1803⟩, h1800, H⟩ := bnd H
 refine WPL.c (runs_call (s := []) (t := []) (N := 0) (bor := []) fn44 rfl (s_huff_judged k x1122 x1802 x1803 h1800) ⟨rfl, trivial, by decide, rfl, trivial⟩ rfl trivial (.ren rfl rfl .nil) rfl trivial rfl) rfl ?_
 refine WPL.q (q_mv (v := .tup _) rfl) rfl ?_
 refine WPL.q (q_extract rfl rfl) rfl ?_
 refine WPL.q (q_extract rfl rfl) rfl ?_
 refine WPL.q (q_as (v := .lit (.bool _)) rfl) rfl ?_
 refine WPL.q (q_as (v := .lit (.int _ _)) rfl) rfl ?_
 refine WPL.nilW ?_
 refine W.now ?_
 refine Then.n ?_
 refine WP.seq ?_
 refine WP.region ?_
 refine WPL.q (q_mv (v := .lit (.int _ _)) rfl) rfl ?_
 refine WPL.q (q_neq rfl rfl) rfl ?_
 refine WPL.nilW ?_
 refine W.now ?_
 refine Then.n ?_
 refine WP.cond (t := (!decide (x1803 = 0))) rfl (fun hb1803 => ?_) (fun hb1803 => ?_)
 · replace H := cnt hb1803 H
   refine WP.seq ?_
   refine WP.region ?_
   refine WPL.q (q_mv (v := .lit (.int _ _)) rfl) rfl ?_
   refine WPL.q (q_as (v := .lit _) rfl) rfl ?_
   refine WPL.q (q_as (v := .lit (.int _ _)) rfl) rfl ?_
   refine WPL.nilW ?_
   refine W.now ?_
   refine Then.n ?_
   refine WP.retW ?_
   have q0 := Option.some.inj H
   subst q0
   exact W.now (Then.r (BodyR.mkR trivial rfl [] ⟨rfl, rfl⟩ ⟨rfl, trivial, by decide, rfl, trivial⟩ rfl rfl))
 replace H := cnf hb1803 H
 refine WP.skipW ?_
 refine W.now ?_
 refine Then.n ?_
 refine WP.seq ?_
 refine WP.region ?_
 refine WPL.q (q_build bu82 rfl) rfl ?_
 refine WPL.d (d_box rfl rfl) rfl ?_
 refine WPL.d (d_alloc ze54 rfl) rfl ?_
 refine WPL.s (s_store sz54 rfl rfl rfl rfl rfl) ?_
 refine WPL.nilW ?_
 refine W.now ?_
 refine Then.n ?_
 refine WP.seq ?_
 refine WP.seq ?_
 refine WP.region ?_
 refine WPL.d (d_alloc ze3 rfl) rfl ?_
 refine WPL.s (s_store sz3 rfl rfl rfl rfl rfl) ?_
 refine WPL.nilW ?_
 refine W.now ?_
 refine Then.n ?_
 refine WP.block ?_
 refine WP.cv (Cv.nullMark (N := 3) rfl rfl) ?_
 refine WP.cv (Cv.virC 3 (Rd.int .i64) (N := 4) rfl rfl (i := 0) (off := 16) rfl rfl) ?_
 refine WP.cv (Cv.weak (E' := ((((⟨fun _ => .any, [4], [], []⟩ : Env).upd 0 (.ro (Rd.slice (Rd.int .i64)) false x1122)).upd 6 (.ptr 0 0)).upd 7 (.ptr 3 0))) (M' := (((((Mem.nil.push (.cells 54 [.ptr 1 0])).push (.cells 82 [.lit (.int .i64 (List.getD (List.replicate 16 (0 : Int)) 0 (0 : Int))), .lit (.int .i64 (List.getD (List.replicate 16 (0 : Int)) 1 (0 : Int))), .lit (.int .i64 (List.getD (List.replicate 16 (0 : Int)) 2 (0 : Int))), .lit (.int .i64 (List.getD (List.replicate 16 (0 : Int)) 3 (0 : Int))), .lit (.int .i64 (List.getD (List.replicate 16 (0 : Int)) 4 (0 : Int))), .lit (.int .i64 (List.getD (List.replicate 16 (0 : Int)) 5 (0 : Int))), .lit (.int .i64 (List.getD (List.replicate 16 (0 : Int)) 6 (0 : Int))), .lit (.int .i64 (List.getD (List.replicate 16 (0 : Int)) 7 (0 : Int))), .lit (.int .i64 (List.getD (List.replicate 16 (0 : Int)) 8 (0 : Int))), .lit (.int .i64 (List.getD (List.replicate 16 (0 : Int)) 9 (0 : Int))), .lit (.int .i64 (List.getD (List.replicate 16 (0 : Int)) 10 (0 : Int))), .lit (.int .i64 (List.getD (List.replicate 16 (0 : Int)) 11 (0 : Int))), .lit (.int .i64 (List.getD (List.replicate 16 (0 : Int)) 12 (0 : Int))), .lit (.int .i64 (List.getD (List.replicate 16 (0 : Int)) 13 (0 : Int))), .lit (.int .i64 (List.getD (List.replicate 16 (0 : Int)) 14 (0 : Int))), .lit (.int .i64 (List.getD (List.replicate 16 (0 : Int)) 15 (0 : Int))), .whole 2])).push (.row 3 (Rd.int .i64) ([] : List Int))).push (.cells 3 [.lit (.int .i64 1)])).push (.bag))) [1, 0, 4, 2, 3] hnp ⟨rfl, ⟨⟨⟨⟨⟨trivial, .inr ⟨rfl, rfl, rfl⟩⟩, .inr ⟨rfl, rfl, rfl⟩⟩, .inr ⟨rfl, rfl, rfl⟩⟩, .inr ⟨rfl, rfl, rfl⟩⟩, .inr ⟨rfl, rfl, rfl⟩⟩, by decide, rfl, trivial⟩ (LeE.upd rfl rfl (LeE.upd rfl rfl (LeE.upd rfl rfl (LeE.noneD rfl rfl .nil))))) ?_
 obtain ⟨⟨x2228, x2229⟩, H2467, H⟩ := bnd H
 refine WP.monoW (Q := fun x E M => x = .exit 0 ∧ E = ((⟨fun _ => .any, [3], [], []⟩ : Env).upd 6 (.ptr 0 0)) ∧ M = ((((Mem.nil.push (.cells 54 [.ptr 1 0])).push (.cells 82 [.lit (.int .i64 (List.getD x2228 0 (0 : Int))), .lit (.int .i64 (List.getD x2228 1 (0 : Int))), .lit (.int .i64 (List.getD x2228 2 (0 : Int))), .lit (.int .i64 (List.getD x2228 3 (0 : Int))), .lit (.int .i64 (List.getD x2228 4 (0 : Int))), .lit (.int .i64 (List.getD x2228 5 (0 : Int))), .lit (.int .i64 (List.getD x2228 6 (0 : Int))), .lit (.int .i64 (List.getD x2228 7 (0 : Int))), .lit (.int .i64 (List.getD x2228 8 (0 : Int))), .lit (.int .i64 (List.getD x2228 9 (0 : Int))), .lit (.int .i64 (List.getD x2228 10 (0 : Int))), .lit (.int .i64 (List.getD x2228 11 (0 : Int))), .lit (.int .i64 (List.getD x2228 12 (0 : Int))), .lit (.int .i64 (List.getD x2228 13 (0 : Int))), .lit (.int .i64 (List.getD x2228 14 (0 : Int))), .lit (.int .i64 (List.getD x2228 15 (0 : Int))), .whole 2])).push (.row 3 (Rd.int .i64) x2229)).push (.bag))) ?_ ?_
 · refine WP.loop (β := (List Int) × (List Int) × Int) (fun n b => g_huff_New_l0 k x1122 n b.1 b.2.1 b.2.2 = some (x2228, x2229)) (fun b => ((((⟨fun _ => .any, [4], [], []⟩ : Env).upd 0 (.ro (Rd.slice (Rd.int .i64)) false x1122)).upd 6 (.ptr 0 0)).upd 7 (.ptr 3 0))) (fun b => (((((Mem.nil.push (.cells 54 [.ptr 1 0])).push (.cells 82 [.lit (.int .i64 (List.getD b.1 0 (0 : Int))), .lit (.int .i64 (List.getD b.1 1 (0 : Int))), .lit (.int .i64 (List.getD b.1 2 (0 : Int))), .lit (.int .i64 (List.getD b.1 3 (0 : Int))), .lit (.int .i64 (List.getD b.1 4 (0 : Int))), .lit (.int .i64 (List.getD b.1 5 (0 : Int))), .lit (.int .i64 (List.getD b.1 6 (0 : Int))), .lit (.int .i64 (List.getD b.1 7 (0 : Int))), .lit (.int .i64 (List.getD b.1 8 (0 : Int))), .lit (.int .i64 (List.getD b.1 9 (0 : Int))), .lit (.int .i64 (List.getD b.1 10 (0 : Int))), .lit (.int .i64 (List.getD b.1 11 (0 : Int))), .lit (.int .i64 (List.getD b.1 12 (0 : Int))), .lit (.int .i64 (List.getD b.1 13 (0 : Int))), .lit (.int .i64 (List.getD b.1 14 (0 : Int))), .lit (.int .i64 (List.getD b.1 15 (0 : Int))), .whole 2])).push (.row 3 (Rd.int .i64) b.2.1)).push (.cells 3 [.lit (.int .i64 b.2.2)])).push (.bag))) k ((List.replicate 16 (0 : Int)), ([] : List Int), 1) H2467 rfl rfl ?_
   rintro n ⟨x2062, x2063, x2064⟩ H
   obtain _ | n := n
   · exact nf rfl H
   rw [g_huff_New_l0.eq_2] at H
   show WP _ _ _ _ ((((⟨fun _ => .any, [4], [], []⟩ : Env).upd 0 (.ro (Rd.slice (Rd.int .i64)) false x1122)).upd 6 (.ptr 0 0)).upd 7 (.ptr 3 0)) (((((Mem.nil.push (.cells 54 [.ptr 1 0])).push (.cells 82 [.lit (.int .i64 (List.getD x2062 0 (0 : Int))), .lit (.int .i64 (List.getD x2062 1 (0 : Int))), .lit (.int .i64 (List.getD x2062 2 (0 : Int))), .lit (.int .i64 (List.getD x2062 3 (0 : Int))), .lit (.int .i64 (List.getD x2062 4 (0 : Int))), .lit (.int .i64 (List.getD x2062 5 (0 : Int))), .lit (.int .i64 (List.getD x2062 6 (0 : Int))), .lit (.int .i64 (List.getD x2062 7 (0 : Int))), .lit (.int .i64 (List.getD x2062 8 (0 : Int))), .lit (.int .i64 (List.getD x2062 9 (0 : Int))), .lit (.int .i64 (List.getD x2062 10 (0 : Int))), .lit (.int .i64 (List.getD x2062 11 (0 : Int))), .lit (.int .i64 (List.getD x2062 12 (0 : Int))), .lit (.int .i64 (List.getD x2062 13 (0 : Int))), .lit (.int .i64 (List.getD x2062 14 (0 : Int))), .lit (.int .i64 (List.getD x2062 15 (0 : Int))), .whole 2])).push (.row 3 (Rd.int .i64) x2063)).push (.cells 3 [.lit (.int .i64 x2064)])).push (.bag)) _
   refine WP.seq ?_
   refine WP.seq ?_
   refine WP.region ?_
   refine WPL.q (q_load sc3 rfl rfl rfl) rfl ?_
   refine WPL.q (q_leq rfl rfl) rfl ?_
   refine WPL.nilW ?_
   refine W.now ?_
   refine Then.n ?_
   refine WP.cond (t := (decide (x2064 ≤ 15))) rfl (fun hb2230 => ?_) (fun hb2230 => ?_)
   · replace H := cnt hb2230 H
     refine WP.skipW ?_
     refine W.now ?_
     refine Then.n ?_
     refine WP.seq ?_
     refine WP.block ?_
     refine WP.seq ?_
     refine WP.region ?_
     refine WPL.q (q_mv (v := .ro _ _ _) rfl) rfl ?_
     refine WPL.q (q_load sc3 rfl rfl rfl) rfl ?_
     obtain ⟨_, h2231, H⟩ := bnd H
     refine WPL.c (runs_call (s := []) (t := [5, 6]) (N := 7) (bor := []) fn45 rfl (s_huff_of k x1122 x2064 h2231) ⟨rfl, trivial, by decide, rfl, trivial⟩ rfl trivial (.ren rfl rfl (.ren rfl rfl .nil)) rfl ⟨⟨trivial, rfl⟩, rfl⟩ rfl) rfl ?_
     refine WPL.nilW ?_
     refine W.now ?_
     refine Then.n ?_
     refine WP.block ?_
     refine WP.range (nti := 23) (n := 7) rfl rfl Try.func49 rfl (by kernel_rfl) rfl rfl rfl rfl fun l_2232 r_2232 aC2232 hp2232 ha2232 hb2232 ht2232 hs2232 hf2232 => ?_
     refine WP.seq ?_
     refine WP.region ?_
     refine WPL.q (q_load sc25 rfl rfl rfl) rfl ?_
     refine WPL.q (q_len_ro sl25 rfl) rfl ?_
     refine WPL.q (q_mv (v := .lit (.int _ _)) rfl) rfl ?_
     refine WPL.nilW ?_
     refine W.now ?_
     refine Then.n ?_
     refine WP.block ?_
     refine WP.cv (Cv.weak (E' := ((((((⟨fun _ => .any, [], [⟨aC2232, (((((Env.none.upd 0 (.ro (Rd.slice (Rd.int .i64)) false x1122)).upd 6 (.ptr 1 0)).upd 7 (.ptr 4 0)).upd 25 (.fn 49 [.ptr 5 0, .ptr 0 0]))).v, [6, 7], some (8, l_2232)⟩], []⟩ : Env).upd 0 (.lit (.func (.yield l_2232) #[] #[]))).upd 2 (.ptr 0 0)).upd 6 (.ro (Rd.slice (Rd.int .i64)) false x1122)).upd 7 (.lit (.int .i64 ((List.length x1122 : Nat) : Int)))).upd 8 (.lit (.int .i64 0)))) (M' := (((((((((Mem.nil.push (.cells 3 [.lit (.int .i64 x2064)])).push (.cells 54 [.ptr 2 0])).push (.cells 82 [.lit (.int .i64 (List.getD x2062 0 (0 : Int))), .lit (.int .i64 (List.getD x2062 1 (0 : Int))), .lit (.int .i64 (List.getD x2062 2 (0 : Int))), .lit (.int .i64 (List.getD x2062 3 (0 : Int))), .lit (.int .i64 (List.getD x2062 4 (0 : Int))), .lit (.int .i64 (List.getD x2062 5 (0 : Int))), .lit (.int .i64 (List.getD x2062 6 (0 : Int))), .lit (.int .i64 (List.getD x2062 7 (0 : Int))), .lit (.int .i64 (List.getD x2062 8 (0 : Int))), .lit (.int .i64 (List.getD x2062 9 (0 : Int))), .lit (.int .i64 (List.getD x2062 10 (0 : Int))), .lit (.int .i64 (List.getD x2062 11 (0 : Int))), .lit (.int .i64 (List.getD x2062 12 (0 : Int))), .lit (.int .i64 (List.getD x2062 13 (0 : Int))), .lit (.int .i64 (List.getD x2062 14 (0 : Int))), .lit (.int .i64 (List.getD x2062 15 (0 : Int))), .whole 3])).push (.row 3 (Rd.int .i64) x2063)).push (.cells 3 [.lit (.int .i64 x2064)])).push (.cells 25 [.ro (Rd.slice (Rd.int .i64)) false x1122])).push (.obj (Obj.deferred (some [])))).push (.bag)).push (.obj (lp r_2232 .ready none)))) [6, 0, 1, 2, 3, 5, 7, 4, 8] hnp ⟨rfl, ⟨⟨⟨⟨⟨⟨⟨⟨⟨trivial, .inr ⟨rfl, rfl, rfl⟩⟩, .inr ⟨rfl, rfl, rfl⟩⟩, .inr ⟨rfl, rfl, rfl⟩⟩, .inr ⟨rfl, rfl, rfl⟩⟩, .inr ⟨rfl, rfl, rfl⟩⟩, .inr ⟨rfl, rfl, rfl⟩⟩, .inr ⟨rfl, rfl, rfl⟩⟩, .inr ⟨rfl, rfl, rfl⟩⟩, .inr ⟨rfl, rfl, rfl⟩⟩, by decide, rfl, trivial⟩ (LeE.upd rfl rfl (LeE.upd rfl rfl (LeE.upd rfl rfl (LeE.upd rfl rfl (LeE.upd rfl rfl (LeE.noneD rfl rfl (.cons ⟨rfl, (LeV.upd rfl rfl (LeV.upd rfl rfl (LeV.upd rfl rfl (LeV.upd rfl rfl LeV.none)))), rfl, rfl, rfl, rfl⟩ .nil)))))))) ?_
     obtain ⟨y2467, H2465, H⟩ := bnd H
     refine WP.monoW (Q := fun x E M => match (generalizing := false) y2467 with | (Sum.inl (x2387, x2388)) => x = .ret ∧ E = (⟨fun _ => .any, [], [⟨aC2232, (((((Env.none.upd 0 (.ro (Rd.slice (Rd.int .i64)) false x1122)).upd 6 (.ptr 0 0)).upd 7 (.ptr 3 0)).upd 25 (.fn 49 [.ptr 4 0, .ptr 5 0]))).v, [6, 7], some (8, l_2232)⟩], []⟩ : Env) ∧ M = (((((((((Mem.nil.push (.cells 54 [.ptr 1 0])).push (.cells 82 [.lit (.int .i64 (List.getD x2387 0 (0 : Int))), .lit (.int .i64 (List.getD x2387 1 (0 : Int))), .lit (.int .i64 (List.getD x2387 2 (0 : Int))), .lit (.int .i64 (List.getD x2387 3 (0 : Int))), .lit (.int .i64 (List.getD x2387 4 (0 : Int))), .lit (.int .i64 (List.getD x2387 5 (0 : Int))), .lit (.int .i64 (List.getD x2387 6 (0 : Int))), .lit (.int .i64 (List.getD x2387 7 (0 : Int))), .lit (.int .i64 (List.getD x2387 8 (0 : Int))), .lit (.int .i64 (List.getD x2387 9 (0 : Int))), .lit (.int .i64 (List.getD x2387 10 (0 : Int))), .lit (.int .i64 (List.getD x2387 11 (0 : Int))), .lit (.int .i64 (List.getD x2387 12 (0 : Int))), .lit (.int .i64 (List.getD x2387 13 (0 : Int))), .lit (.int .i64 (List.getD x2387 14 (0 : Int))), .lit (.int .i64 (List.getD x2387 15 (0 : Int))), .whole 2])).push (.row 3 (Rd.int .i64) x2388)).push (.cells 3 [.lit (.int .i64 x2064)])).push (.cells 25 [.ro (Rd.slice (Rd.int .i64)) false x1122])).push (.cells 3 [.lit (.int .i64 x2064)])).push (.obj (Obj.deferred (some [])))).push (.bag)).push (.obj (lp r_2232 .ready none))) | (Sum.inr (x2389, x2390)) => x = .exit 0 ∧ E = (⟨fun _ => .any, [], [⟨aC2232, (((((Env.none.upd 0 (.ro (Rd.slice (Rd.int .i64)) false x1122)).upd 6 (.ptr 0 0)).upd 7 (.ptr 3 0)).upd 25 (.fn 49 [.ptr 4 0, .ptr 5 0]))).v, [6, 7], some (8, l_2232)⟩], []⟩ : Env) ∧ M = (((((((((Mem.nil.push (.cells 54 [.ptr 1 0])).push (.cells 82 [.lit (.int .i64 (List.getD x2389 0 (0 : Int))), .lit (.int .i64 (List.getD x2389 1 (0 : Int))), .lit (.int .i64 (List.getD x2389 2 (0 : Int))), .lit (.int .i64 (List.getD x2389 3 (0 : Int))), .lit (.int .i64 (List.getD x2389 4 (0 : Int))), .lit (.int .i64 (List.getD x2389 5 (0 : Int))), .lit (.int .i64 (List.getD x2389 6 (0 : Int))), .lit (.int .i64 (List.getD x2389 7 (0 : Int))), .lit (.int .i64 (List.getD x2389 8 (0 : Int))), .lit (.int .i64 (List.getD x2389 9 (0 : Int))), .lit (.int .i64 (List.getD x2389 10 (0 : Int))), .lit (.int .i64 (List.getD x2389 11 (0 : Int))), .lit (.int .i64 (List.getD x2389 12 (0 : Int))), .lit (.int .i64 (List.getD x2389 13 (0 : Int))), .lit (.int .i64 (List.getD x2389 14 (0 : Int))), .lit (.int .i64 (List.getD x2389 15 (0 : Int))), .whole 2])).push (.row 3 (Rd.int .i64) x2390)).push (.cells 3 [.lit (.int .i64 x2064)])).push (.cells 25 [.ro (Rd.slice (Rd.int .i64)) false x1122])).push (.cells 3 [.lit (.int .i64 x2064)])).push (.obj (Obj.deferred (some [])))).push (.bag)).push (.obj (lp r_2232 .ready none)))) ?_ ?_
     · refine WP.loop (β := Int × (List Int) × (List Int)) (fun n b => g_huff_New_l1 k x1122 x2064 n b.1 b.2.1 b.2.2 = some y2467) (fun b => ((((((⟨fun _ => .any, [], [⟨aC2232, (((((Env.none.upd 0 (.ro (Rd.slice (Rd.int .i64)) false x1122)).upd 6 (.ptr 1 0)).upd 7 (.ptr 4 0)).upd 25 (.fn 49 [.ptr 5 0, .ptr 0 0]))).v, [6, 7], some (8, l_2232)⟩], []⟩ : Env).upd 0 (.lit (.func (.yield l_2232) #[] #[]))).upd 2 (.ptr 0 0)).upd 6 (.ro (Rd.slice (Rd.int .i64)) false x1122)).upd 7 (.lit (.int .i64 ((List.length x1122 : Nat) : Int)))).upd 8 (.lit (.int .i64 b.1)))) (fun b => (((((((((Mem.nil.push (.cells 3 [.lit (.int .i64 x2064)])).push (.cells 54 [.ptr 2 0])).push (.cells 82 [.lit (.int .i64 (List.getD b.2.1 0 (0 : Int))), .lit (.int .i64 (List.getD b.2.1 1 (0 : Int))), .lit (.int .i64 (List.getD b.2.1 2 (0 : Int))), .lit (.int .i64 (List.getD b.2.1 3 (0 : Int))), .lit (.int .i64 (List.getD b.2.1 4 (0 : Int))), .lit (.int .i64 (List.getD b.2.1 5 (0 : Int))), .lit (.int .i64 (List.getD b.2.1 6 (0 : Int))), .lit (.int .i64 (List.getD b.2.1 7 (0 : Int))), .lit (.int .i64 (List.getD b.2.1 8 (0 : Int))), .lit (.int .i64 (List.getD b.2.1 9 (0 : Int))), .lit (.int .i64 (List.getD b.2.1 10 (0 : Int))), .lit (.int .i64 (List.getD b.2.1 11 (0 : Int))), .lit (.int .i64 (List.getD b.2.1 12 (0 : Int))), .lit (.int .i64 (List.getD b.2.1 13 (0 : Int))), .lit (.int .i64 (List.getD b.2.1 14 (0 : Int))), .lit (.int .i64 (List.getD b.2.1 15 (0 : Int))), .whole 3])).push (.row 3 (Rd.int .i64) b.2.2)).push (.cells 3 [.lit (.int .i64 x2064)])).push (.cells 25 [.ro (Rd.slice (Rd.int .i64)) false x1122])).push (.obj (Obj.deferred (some [])))).push (.bag)).push (.obj (lp r_2232 .ready none)))) k (0, x2062, x2063) H2465 rfl rfl ?_
       rintro n ⟨x2309, x2310, x2311⟩ H
       obtain _ | n := n
       · exact nf rfl H
       rw [g_huff_New_l1.eq_2] at H
       show WP _ _ _ _ ((((((⟨fun _ => .any, [], [⟨aC2232, (((((Env.none.upd 0 (.ro (Rd.slice (Rd.int .i64)) false x1122)).upd 6 (.ptr 1 0)).upd 7 (.ptr 4 0)).upd 25 (.fn 49 [.ptr 5 0, .ptr 0 0]))).v, [6, 7], some (8, l_2232)⟩], []⟩ : Env).upd 0 (.lit (.func (.yield l_2232) #[] #[]))).upd 2 (.ptr 0 0)).upd 6 (.ro (Rd.slice (Rd.int .i64)) false x1122)).upd 7 (.lit (.int .i64 ((List.length x1122 : Nat) : Int)))).upd 8 (.lit (.int .i64 x2309))) (((((((((Mem.nil.push (.cells 3 [.lit (.int .i64 x2064)])).push (.cells 54 [.ptr 2 0])).push (.cells 82 [.lit (.int .i64 (List.getD x2310 0 (0 : Int))), .lit (.int .i64 (List.getD x2310 1 (0 : Int))), .lit (.int .i64 (List.getD x2310 2 (0 : Int))), .lit (.int .i64 (List.getD x2310 3 (0 : Int))), .lit (.int .i64 (List.getD x2310 4 (0 : Int))), .lit (.int .i64 (List.getD x2310 5 (0 : Int))), .lit (.int .i64 (List.getD x2310 6 (0 : Int))), .lit (.int .i64 (List.getD x2310 7 (0 : Int))), .lit (.int .i64 (List.getD x2310 8 (0 : Int))), .lit (.int .i64 (List.getD x2310 9 (0 : Int))), .lit (.int .i64 (List.getD x2310 10 (0 : Int))), .lit (.int .i64 (List.getD x2310 11 (0 : Int))), .lit (.int .i64 (List.getD x2310 12 (0 : Int))), .lit (.int .i64 (List.getD x2310 13 (0 : Int))), .lit (.int .i64 (List.getD x2310 14 (0 : Int))), .lit (.int .i64 (List.getD x2310 15 (0 : Int))), .whole 3])).push (.row 3 (Rd.int .i64) x2311)).push (.cells 3 [.lit (.int .i64 x2064)])).push (.cells 25 [.ro (Rd.slice (Rd.int .i64)) false x1122])).push (.obj (Obj.deferred (some [])))).push (.bag)).push (.obj (lp r_2232 .ready none))) _
       refine WP.seq ?_
       refine WP.region ?_
       obtain ⟨x2391, h2391, H⟩ := bnd H
       refine WPL.q (q_nm (q_lss rfl rfl) (nm_bool h2391)) rfl ?_
       refine WPL.nilW ?_
       refine W.now ?_
       refine Then.n ?_
       refine WP.seq ?_
       refine WP.cond (t := x2391) rfl (fun hb2392 => ?_) (fun hb2392 => ?_)
       · replace H := cnt hb2392 H
         refine WP.skipW ?_
         refine W.now ?_
         refine Then.n ?_
         refine WP.seq ?_
         refine WP.block ?_
         refine WP.seq ?_
         refine WP.region ?_
         refine WPL.q (q_mv (v := .lit (.int _ _)) rfl) rfl ?_
         obtain ⟨x2430, h2430, H⟩ := bnd H
         refine WPL.q (q_index_ro sl25 rfl rfl rfl h2430) rfl ?_
         refine WPL.q (q_load_sc sc3 rfl) rfl ?_
         refine WPL.q (q_as (v := .lit (.int _ _)) rfl) rfl ?_
         refine WPL.q (q_as (v := .lit (.int _ _)) rfl) rfl ?_
         refine WPL.nilW ?_
         refine W.now ?_
         refine Then.n ?_
         refine WP.seq ?_
         obtain ⟨⟨x2446, x2447, x2448⟩, H2463, H⟩ := bnd H
         refine WP.monoW (Q := fun x E M => x = .normal ∧ E = (((((((⟨fun _ => .any, [], [⟨aC2232, (((((Env.none.upd 0 (.ro (Rd.slice (Rd.int .i64)) false x1122)).upd 6 (.ptr 1 0)).upd 7 (.ptr 4 0)).upd 25 (.fn 49 [.ptr 5 0, .ptr 0 0]))).v, [6, 7], some (8, l_2232)⟩], []⟩ : Env).upd 0 (.lit (.func (.yield l_2232) #[] #[]))).upd 2 (.ptr 0 0)).upd 6 (.ro (Rd.slice (Rd.int .i64)) false x1122)).upd 7 (.lit (.int .i64 ((List.length x1122 : Nat) : Int)))).upd 8 (.lit (.int .i64 x2309))).upd 21 (.lit (.bool x2446))) ∧ M = (((((((((Mem.nil.push (.cells 3 [.lit (.int .i64 x2064)])).push (.cells 54 [.ptr 2 0])).push (.cells 82 [.lit (.int .i64 (List.getD x2447 0 (0 : Int))), .lit (.int .i64 (List.getD x2447 1 (0 : Int))), .lit (.int .i64 (List.getD x2447 2 (0 : Int))), .lit (.int .i64 (List.getD x2447 3 (0 : Int))), .lit (.int .i64 (List.getD x2447 4 (0 : Int))), .lit (.int .i64 (List.getD x2447 5 (0 : Int))), .lit (.int .i64 (List.getD x2447 6 (0 : Int))), .lit (.int .i64 (List.getD x2447 7 (0 : Int))), .lit (.int .i64 (List.getD x2447 8 (0 : Int))), .lit (.int .i64 (List.getD x2447 9 (0 : Int))), .lit (.int .i64 (List.getD x2447 10 (0 : Int))), .lit (.int .i64 (List.getD x2447 11 (0 : Int))), .lit (.int .i64 (List.getD x2447 12 (0 : Int))), .lit (.int .i64 (List.getD x2447 13 (0 : Int))), .lit (.int .i64 (List.getD x2447 14 (0 : Int))), .lit (.int .i64 (List.getD x2447 15 (0 : Int))), .whole 3])).push (.row 3 (Rd.int .i64) x2448)).push (.cells 3 [.lit (.int .i64 x2064)])).push (.cells 25 [.ro (Rd.slice (Rd.int .i64)) false x1122])).push (.obj (Obj.deferred (some [])))).push (.bag)).push (.obj (lp r_2232 .ready none)))) ?_ ?_
         · clear H
           have H := H2463
           clear H2463
           refine WP.region ?_
           refine WPL.q (q_mv (v := .lit (.int _ _)) rfl) rfl ?_
           refine WPL.q (q_load sc3 rfl rfl rfl) rfl ?_
           refine WPL.q (q_eql rfl rfl) rfl ?_
           refine WPL.q (q_mv (v := .lit (.bool _)) rfl) rfl ?_
           refine WPL.split (t := 16) (b := (decide (x2430 = x2064))) rfl (fun hb2448 => ?_) (fun hb2448 => ?_)
           · replace H := cnt hb2448 H
             refine WPL.qg rfl rfl (lb hb2448) (q_mv (v := .lit _) rfl) rfl ?_
             refine WPL.qg rfl rfl (lb hb2448) (q_mv (v := .lit (.int _ _)) rfl) rfl ?_
             refine WPL.yg rfl rfl rfl rfl hp2232 ha2232 hb2232 ht2232 hs2232 hf2232 rfl rfl rfl rfl rfl (lb hb2448) fun aI2449 => ?_
             refine WP.region ?_
             refine WPL.q (q_as (v := .lit (.int _ _)) rfl) rfl ?_
             refine WPL.nilW ?_
             refine W.now ?_
             refine ⟨rfl, rfl, _, _, _, _, _, _, rfl, rfl, ?_⟩
             refine WP.block ?_
             refine WP.seq ?_
             refine WP.regionD' 11 [1, 2, 4] [10] mixed rfl ?_
             refine WPD.take 0 rfl (by kernel_rfl) (q_load sc54 rfl rfl rfl) rfl rfl ?_
             refine WPD.takeT 2 rfl (by kernel_rfl) (q_nilCheck rfl) rfl ?_
             refine WPD.takeT 3 rfl (by kernel_rfl) (q_fieldAddr fi82_0 rfl rfl) rfl ?_
             refine WPD.takeT 7 rfl (by kernel_rfl) (q_nilCheck rfl) rfl ?_
             refine WPD.takeT 8 rfl (by kernel_rfl) (q_fieldAddr fi82_0 rfl rfl) rfl ?_
             refine WPD.take 1 rfl (by kernel_rfl) (q_load sc3 rfl rfl rfl) rfl rfl ?_
             obtain ⟨h2457, H⟩ := grd H
             refine WPD.takeT 4 rfl (by kernel_rfl) (q_indexArr ar80 rfl rfl h2457 rfl) rfl ?_
             refine WPD.take 5 rfl (by kernel_rfl) (q_load_arr (f := (fun z : Int => AVal.lit (.int .i64 z))) (d0 := (0 : Int)) (xs := x2310) (n := 16) (off := 0) (j := (Int.toNat x2064)) sc3 rfl rfl rfl (natlt h2457) (addone _ _)) rfl rfl ?_
             obtain ⟨x2459, h2459, H⟩ := bnd H
             refine WPD.takeT 6 rfl (by kernel_rfl) (q_nm (q_add rfl rfl) (nm_int h2459)) rfl ?_
             obtain ⟨h2459, H⟩ := grd H
             refine WPD.takeT 9 rfl (by kernel_rfl) (q_indexArr ar80 rfl rfl h2459 rfl) rfl ?_
             refine WPD.effS 10 [] [] rfl (by kernel_rfl) (s_store_arr (f := (fun z : Int => AVal.lit (.int .i64 z))) (d0 := (0 : Int)) (xs := x2310) (n := 16) (off := 0) (j := (Int.toNat x2064)) (v := x2459) sz3 rfl rfl rfl rfl rfl (natlt h2459) (addone _ _)) rfl ?_
             refine WPD.doneW (by kernel_rfl) ?_
             refine W.now ?_
             refine Then.n ?_
             refine WP.regionD' 11 [1, 2] [10] mixed rfl ?_
             refine WPD.takeT 5 rfl (by kernel_rfl) (q_mv (v := .lit (.int _ _)) rfl) rfl ?_
             refine WPD.take 0 rfl (by kernel_rfl) (q_load sc54 rfl rfl rfl) rfl rfl ?_
             refine WPD.take 1 rfl (by kernel_rfl) (q_load sc54 rfl rfl rfl) rfl rfl ?_
             refine WPD.takeT 2 rfl (by kernel_rfl) (q_nilCheck rfl) rfl ?_
             refine WPD.takeT 3 rfl (by kernel_rfl) (q_fieldAddr fi82_1 rfl rfl) rfl ?_
             refine WPD.take 4 rfl (by kernel_rfl) (q_load sc25 rfl rfl rfl) rfl rfl ?_
             refine WPD.eff 6 [1, 2] [10] rfl (by kernel_rfl) (Does.runs (d_buildSlice (ds := ([x2309] : List Int)) (R := (Rd.int .i64)) li25 rfl rfl rfl rfl rfl (JoinRows.cons1 Joins.sc rfl JoinRows.nil) rfl rfl)) rfl rfl ?_
             obtain ⟨h2462, H⟩ := grd H
             refine WPD.eff 7 [1, 2] [10] rfl (by kernel_rfl) (Does.runs (d_append ap25 rfl rfl rfl rfl (src_row sl25 rfl rfl) h2462 rfl)) rfl rfl ?_
             refine WPD.takeT 8 rfl (by kernel_rfl) (q_nilCheck rfl) rfl ?_
             refine WPD.takeT 9 rfl (by kernel_rfl) (q_fieldAddr fi82_1 rfl rfl) rfl ?_
             refine WPD.effS 10 [] [] rfl (by kernel_rfl) (s_store sz25 rfl rfl rfl rfl rfl) rfl ?_
             refine WPD.doneW (by kernel_rfl) ?_
             refine W.now ?_
             refine InBlock.n ?_
             refine ⟨rfl, _, _, _, _, _, _, rfl, rfl, _, rfl, ?_⟩
             refine WPL.qg rfl rfl (lb hb2448) (q_not rfl) rfl ?_
             refine WPL.q (q_pickT (v := .lit (.bool _)) (lb hb2448) rfl) rfl ?_
             refine WPL.nilW ?_
             have q0 := (Prod.mk.inj (Option.some.inj H)).1
             have q1 := (Prod.mk.inj (Prod.mk.inj (Option.some.inj H)).2).1
             have q2 := (Prod.mk.inj (Prod.mk.inj (Option.some.inj H)).2).2
             subst q0
             subst q1
             subst q2
             exact W.wk [0, 1, 2, 10, 4, 5, 6, 7, 8] hnp ⟨rfl, rfl, rfl⟩ ⟨rfl, ⟨⟨⟨⟨⟨⟨⟨⟨⟨trivial, .inr ⟨rfl, rfl, rfl⟩⟩, .inr ⟨rfl, rfl, rfl⟩⟩, .inr ⟨rfl, rfl, rfl⟩⟩, .inr ⟨rfl, rfl, rfl⟩⟩, .inr ⟨rfl, rfl, rfl⟩⟩, .inr ⟨rfl, rfl, rfl⟩⟩, .inr ⟨rfl, rfl, rfl⟩⟩, .inr ⟨rfl, rfl, rfl⟩⟩, .inr ⟨rfl, rfl, rfl⟩⟩, by decide, rfl, trivial⟩ (LeE.upd rfl rfl (LeE.upd rfl rfl (LeE.upd rfl rfl (LeE.upd rfl rfl (LeE.upd rfl rfl (LeE.upd rfl rfl (LeE.noneD rfl rfl (.cons ⟨rfl, (LeV.upd rfl rfl (LeV.upd rfl rfl (LeV.upd rfl rfl (LeV.upd rfl rfl LeV.none)))), rfl, rfl, rfl, rfl⟩ .nil)))))))) rfl
           replace H := cnf hb2448 H
           refine WPL.skipg (b' := false) rfl rfl (lb hb2448) rfl rfl (.inl trivial) ?_
           refine WPL.skipg (b' := false) rfl rfl (lb hb2448) rfl rfl (.inl trivial) ?_
           refine WPL.skipg (b' := false) rfl rfl (lb hb2448) rfl rfl (SkipOkE.und rfl) ?_
           refine WPL.skipg (b' := false) rfl rfl (lb hb2448) rfl rfl (.inl trivial) ?_
           refine WPL.q (q_pickF (v := .lit (.bool _)) (lb hb2448) rfl) rfl ?_
           refine WPL.nilW ?_
           have q0 := (Prod.mk.inj (Option.some.inj H)).1
           have q1 := (Prod.mk.inj (Prod.mk.inj (Option.some.inj H)).2).1
           have q2 := (Prod.mk.inj (Prod.mk.inj (Option.some.inj H)).2).2
           subst q0
           subst q1
           subst q2
           exact W.wk [0, 1, 2, 3, 4, 5, 6, 7, 8] hnp ⟨rfl, rfl, rfl⟩ ⟨rfl, ⟨⟨⟨⟨⟨⟨⟨⟨⟨trivial, .inr ⟨rfl, rfl, rfl⟩⟩, .inr ⟨rfl, rfl, rfl⟩⟩, .inr ⟨rfl, rfl, rfl⟩⟩, .inr ⟨rfl, rfl, rfl⟩⟩, .inr ⟨rfl, rfl, rfl⟩⟩, .inr ⟨rfl, rfl, rfl⟩⟩, .inr ⟨rfl, rfl, rfl⟩⟩, .inr ⟨rfl, rfl, rfl⟩⟩, .inr ⟨rfl, rfl, rfl⟩⟩, by decide, rfl, trivial⟩ (LeE.upd rfl rfl (LeE.upd rfl rfl (LeE.upd rfl rfl (LeE.upd rfl rfl (LeE.upd rfl rfl (LeE.upd rfl rfl (LeE.noneD rfl rfl (.cons ⟨rfl, (LeV.upd rfl rfl (LeV.upd rfl rfl (LeV.upd rfl rfl (LeV.upd rfl rfl LeV.none)))), rfl, rfl, rfl, rfl⟩ .nil)))))))) rfl
         rintro _ _ _ ⟨rfl, rfl, rfl⟩
         refine W.now ?_
         refine Then.n ?_
         refine WP.cond (t := x2446) rfl (fun hb2464 => ?_) (fun hb2464 => ?_)
         · replace H := cnt hb2464 H
           refine WP.retW ?_
           have q0 := Option.some.inj H
           subst q0
           exact W.wk [1, 2, 3, 4, 5, 0, 6, 7, 8] hnp (InBlock.r (Then.r (Then.r ⟨rfl, rfl, rfl⟩))) ⟨rfl, ⟨⟨⟨⟨⟨⟨⟨⟨⟨trivial, .inr ⟨rfl, rfl, rfl⟩⟩, .inr ⟨rfl, rfl, rfl⟩⟩, .inr ⟨rfl, rfl, rfl⟩⟩, .inr ⟨rfl, rfl, rfl⟩⟩, .inr ⟨rfl, rfl, rfl⟩⟩, .inr ⟨rfl, rfl, rfl⟩⟩, .inr ⟨rfl, rfl, rfl⟩⟩, .inr ⟨rfl, rfl, rfl⟩⟩, .inr ⟨rfl, rfl, rfl⟩⟩, by decide, rfl, trivial⟩ (LeE.noneD rfl rfl (.cons ⟨rfl, (LeV.upd rfl rfl (LeV.upd rfl rfl (LeV.upd rfl rfl (LeV.upd rfl rfl LeV.none)))), rfl, rfl, rfl, rfl⟩ .nil)) rfl
         replace H := cnf hb2464 H
         refine WP.skipW ?_
         refine W.now ?_
         refine InBlock.n ?_
         refine Then.n ?_
         refine WP.region ?_
         refine WPL.q (q_add rfl rfl) rfl ?_
         refine WPL.q (q_mv (v := .lit (.int _ _)) rfl) rfl ?_
         refine WPL.nilW ?_
         exact W.wk [0, 1, 2, 3, 4, 5, 6, 7, 8] hnp (Then.n ⟨n, ((IntKind.wrap .i64 (x2309 + 1)), x2447, x2448), Nat.lt_succ_self n, H, rfl, rfl⟩) ⟨rfl, ⟨⟨⟨⟨⟨⟨⟨⟨⟨trivial, .inr ⟨rfl, rfl, rfl⟩⟩, .inr ⟨rfl, rfl, rfl⟩⟩, .inr ⟨rfl, rfl, rfl⟩⟩, .inr ⟨rfl, rfl, rfl⟩⟩, .inr ⟨rfl, rfl, rfl⟩⟩, .inr ⟨rfl, rfl, rfl⟩⟩, .inr ⟨rfl, rfl, rfl⟩⟩, .inr ⟨rfl, rfl, rfl⟩⟩, .inr ⟨rfl, rfl, rfl⟩⟩, by decide, rfl, trivial⟩ (LeE.upd rfl rfl (LeE.upd rfl rfl (LeE.upd rfl rfl (LeE.upd rfl rfl (LeE.upd rfl rfl (LeE.noneD rfl rfl (.cons ⟨rfl, (LeV.upd rfl rfl (LeV.upd rfl rfl (LeV.upd rfl rfl (LeV.upd rfl rfl LeV.none)))), rfl, rfl, rfl, rfl⟩ .nil))))))) rfl
       replace H := cnf hb2392 H
       refine WP.exitW ?_
       have q0 := Option.some.inj H
       subst q0
       exact W.wk [1, 2, 3, 4, 5, 0, 6, 7, 8] hnp (Then.x (Then.x ⟨rfl, rfl, rfl⟩)) ⟨rfl, ⟨⟨⟨⟨⟨⟨⟨⟨⟨trivial, .inr ⟨rfl, rfl, rfl⟩⟩, .inr ⟨rfl, rfl, rfl⟩⟩, .inr ⟨rfl, rfl, rfl⟩⟩, .inr ⟨rfl, rfl, rfl⟩⟩, .inr ⟨rfl, rfl, rfl⟩⟩, .inr ⟨rfl, rfl, rfl⟩⟩, .inr ⟨rfl, rfl, rfl⟩⟩, .inr ⟨rfl, rfl, rfl⟩⟩, .inr ⟨rfl, rfl, rfl⟩⟩, by decide, rfl, trivial⟩ (LeE.noneD rfl rfl (.cons ⟨rfl, (LeV.upd rfl rfl (LeV.upd rfl rfl (LeV.upd rfl rfl (LeV.upd rfl rfl LeV.none)))), rfl, rfl, rfl, rfl⟩ .nil)) rfl
     rcases y2467 with ⟨x2387, x2388⟩ | ⟨x2389, x2390⟩
     · rintro _ _ _ ⟨rfl, rfl, rfl⟩
       refine W.now ?_
       refine InBlock.r ?_
       refine ⟨trivial, _, _, _, _, rfl, _, _, rfl, (fun h => by cases h), ?_⟩
       refine W.cv (Cv.absorb (N := 9) (j := 6) (i := 7) rfl rfl rfl rfl) rfl ?_
       refine W.now ?_
       refine InBlock.n ?_
       refine InBlock.n ?_
       refine Then.n ?_
       refine WP.seq ?_
       refine WP.seq ?_
       refine WP.region ?_
       refine WPL.q (q_load sc3 rfl rfl rfl) rfl ?_
       refine WPL.nilW ?_
       refine W.now ?_
       refine Then.n ?_
       refine WP.region ?_
       refine WPL.d (d_alloc ze3 rfl) rfl ?_
       refine WPL.s (s_store sz3 rfl rfl rfl rfl rfl) ?_
       refine WPL.nilW ?_
       refine W.now ?_
       refine Then.n ?_
       refine WP.region ?_
       refine WPL.q (q_load sc3 rfl rfl rfl) rfl ?_
       refine WPL.q (q_add rfl rfl) rfl ?_
       refine WPL.s (s_store sz3 rfl rfl rfl rfl rfl) ?_
       refine WPL.nilW ?_
       exact W.wk [0, 1, 2, 10, 9] hnp (Then.n ⟨n, (x2387, x2388, (IntKind.wrap .i64 (x2064 + 1))), Nat.lt_succ_self n, H, rfl, rfl⟩) ⟨rfl, ⟨⟨⟨⟨⟨trivial, .inr ⟨rfl, rfl, rfl⟩⟩, .inr ⟨rfl, rfl, rfl⟩⟩, .inr ⟨rfl, rfl, rfl⟩⟩, .inr ⟨rfl, rfl, rfl⟩⟩, .inr ⟨rfl, rfl, rfl⟩⟩, by decide, rfl, trivial⟩ (LeE.upd rfl rfl (LeE.upd rfl rfl (LeE.upd rfl rfl (LeE.noneD rfl rfl .nil)))) rfl
     rintro _ _ _ ⟨rfl, rfl, rfl⟩
     refine W.now ?_
     refine InBlock.x0 ?_
     refine ⟨trivial, _, _, _, _, rfl, _, _, rfl, (fun h => by cases h), ?_⟩
     refine W.cv (Cv.absorb (N := 9) (j := 6) (i := 7) rfl rfl rfl rfl) rfl ?_
     refine W.now ?_
     refine InBlock.n ?_
     refine InBlock.n ?_
     refine Then.n ?_
     refine WP.seq ?_
     refine WP.seq ?_
     refine WP.region ?_
     refine WPL.q (q_load sc3 rfl rfl rfl) rfl ?_
     refine WPL.nilW ?_
     refine W.now ?_
     refine Then.n ?_
     refine WP.region ?_
     refine WPL.d (d_alloc ze3 rfl) rfl ?_
     refine WPL.s (s_store sz3 rfl rfl rfl rfl rfl) ?_
     refine WPL.nilW ?_
     refine W.now ?_
     refine Then.n ?_
     refine WP.region ?_
     refine WPL.q (q_load sc3 rfl rfl rfl) rfl ?_
     refine WPL.q (q_add rfl rfl) rfl ?_
     refine WPL.s (s_store sz3 rfl rfl rfl rfl rfl) ?_
     refine WPL.nilW ?_
     exact W.wk [0, 1, 2, 10, 9] hnp (Then.n ⟨n, (x2389, x2390, (IntKind.wrap .i64 (x2064 + 1))), Nat.lt_succ_self n, H, rfl, rfl⟩) ⟨rfl, ⟨⟨⟨⟨⟨trivial, .inr ⟨rfl, rfl, rfl⟩⟩, .inr ⟨rfl, rfl, rfl⟩⟩, .inr ⟨rfl, rfl, rfl⟩⟩, .inr ⟨rfl, rfl, rfl⟩⟩, .inr ⟨rfl, rfl, rfl⟩⟩, by decide, rfl, trivial⟩ (LeE.upd rfl rfl (LeE.upd rfl rfl (LeE.upd rfl rfl (LeE.noneD rfl rfl .nil)))) rfl
   replace H := cnf hb2230 H
   refine WP.exitW ?_
   have q0 := (Prod.mk.inj (Option.some.inj H)).1
   have q1 := (Prod.mk.inj (Option.some.inj H)).2
   subst q0
   subst q1
   exact W.wk [0, 1, 2, 4] hnp (Then.x (Then.x ⟨rfl, rfl, rfl⟩)) ⟨rfl, ⟨⟨⟨⟨trivial, .inr ⟨rfl, rfl, rfl⟩⟩, .inr ⟨rfl, rfl, rfl⟩⟩, .inr ⟨rfl, rfl, rfl⟩⟩, .inr ⟨rfl, rfl, rfl⟩⟩, by decide, rfl, trivial⟩ (LeE.upd rfl rfl (LeE.noneD rfl rfl .nil)) rfl
 rintro _ _ _ ⟨rfl, rfl, rfl⟩
 refine W.now ?_
 refine InBlock.x0 ?_
 refine Then.n ?_
 refine WP.seq ?_
 refine WP.region ?_
 refine WPL.q (q_load sc54 rfl rfl rfl) rfl ?_
 refine WPL.q (q_as (v := .ptr _ _) rfl) rfl ?_
 refine WPL.q (q_as (v := .lit (.int _ _)) rfl) rfl ?_
 refine WPL.nilW ?_
 refine W.now ?_
 refine Then.n ?_
 refine WP.retW ?_
 have q0 := Option.some.inj H
 subst q0
 exact W.now (BodyR.mkR ⟨.inr rfl, trivial⟩ rfl [1, 2] ⟨rfl, rfl⟩ ⟨rfl, ⟨⟨trivial, .inr ⟨rfl, rfl, rfl⟩⟩, .inr ⟨rfl, rfl, rfl⟩⟩, by decide, rfl, trivial⟩ rfl rfl)
set_option maxRecDepth 100000 in
set_option maxHeartbeats 4000000 in
theorem s_inflate_code (k : Nat) (x1120 : (List Int)) (r : (Int ⊕ (Unit ⊕ ((List Int) × (List Int))))) (H : g_inflate_code k x1120 = some r) : Go.Q.Spec Try.prog 29 0 [.ro (Rd.slice (Rd.int .i64)) false x1120] Mem.nil (fun o M => match (generalizing := false) r with | (Sum.inl x2478) => o = .pan (.ifc 46 (.lit (.int .i64 x2478))) ∧ M = Mem.nil | (Sum.inr (Sum.inl _)) => o = .ret (.lit (.pointer none)) ∧ M = Mem.nil | (Sum.inr (Sum.inr (x2479, x2480))) => o = .ret (.ptr 0 0) ∧ M = ((Mem.nil.push (.cells 82 [.lit (.int .i64 (List.getD x2479 0 (0 : Int))), .lit (.int .i64 (List.getD x2479 1 (0 : Int))), .lit (.int .i64 (List.getD x2479 2 (0 : Int))), .lit (.int .i64 (List.getD x2479 3 (0 : Int))), .lit (.int .i64 (List.getD x2479 4 (0 : Int))), .lit (.int .i64 (List.getD x2479 5 (0 : Int))), .lit (.int .i64 (List.getD x2479 6 (0 : Int))), .lit (.int .i64 (List.getD x2479 7 (0 : Int))), .lit (.int .i64 (List.getD x2479 8 (0 : Int))), .lit (.int .i64 (List.getD x2479 9 (0 : Int))), .lit (.int .i64 (List.getD x2479 10 (0 : Int))), .lit (.int .i64 (List.getD x2479 11 (0 : Int))), .lit (.int .i64 (List.getD x2479 12 (0 : Int))), .lit (.int .i64 (List.getD x2479 13 (0 : Int))), .lit (.int .i64 (List.getD x2479 14 (0 : Int))), .lit (.int .i64 (List.getD x2479 15 (0 : Int))), .whole 1])).push (.row 3 (Rd.int .i64) x2480))) := by
 unfold g_inflate_code at H
 refine Go.Q.Spec.of_bodyR (az := []) (rs := [.tmp 2]) (nt := 13) Try.func29 rfl rfl (by intro t T h; simp at h) rfl rfl fun cx hnp => ?_
 refine WP.seq ?_
 refine WP.region ?_
 refine WPL.q (q_as (v := .lit _) rfl) rfl ?_
 refine WPL.nilW ?_
 refine W.now ?_
 refine Then.n ?_
 refine WP.seq ?_
 refine WP.region ?_
 refine WPL.q (q_mv (v := .ro _ _ _) rfl) rfl ?_
 obtain ⟨y2485, h2480, H⟩ := bnd H
 rcases y2485 with x2482 | ⟨x2483, x2484⟩
 · refine WPL.c (runs_call (s := []) (t := []) (N := 0) (bor := []) fn38 rfl (s_huff_New k x1120 (Sum.inl x2482) h2480) ⟨rfl, trivial, by decide, rfl, trivial⟩ rfl trivial (.ren rfl rfl .nil) rfl trivial rfl) rfl ?_
   refine WPL.q (q_mv (v := .tup _) rfl) rfl ?_
   refine WPL.q (q_extract rfl rfl) rfl ?_
   refine WPL.q (q_extract rfl rfl) rfl ?_
   refine WPL.q (q_as (v := .lit _) rfl) rfl ?_
   refine WPL.q (q_as (v := .lit (.int _ _)) rfl) rfl ?_
   refine WPL.nilW ?_
   refine W.now ?_
   refine Then.n ?_
   refine WP.seq ?_
   refine WP.region ?_
   refine WPL.q (q_mv (v := .lit (.int _ _)) rfl) rfl ?_
   obtain ⟨y2487, h2485, H⟩ := bnd H
   rcases y2487 with _ | _
   · refine WPL.pW (runs_callP (s := []) (t := []) (N := 0) (bor := []) fn31 rfl (s_inflate_must k x2482 (Sum.inl ()) h2485) ⟨rfl, trivial, by decide, rfl, trivial⟩ rfl trivial (.ren rfl rfl .nil) rfl trivial rfl) ?_
     have q0 := Option.some.inj H
     subst q0
     exact W.now (Then.p (BodyR.mkP trivial [] ⟨rfl, rfl⟩ ⟨rfl, trivial, by decide, rfl, trivial⟩ rfl rfl))
   refine WPL.c (runs_call (s := []) (t := []) (N := 0) (bor := []) fn31 rfl (s_inflate_must k x2482 (Sum.inr ()) h2485) ⟨rfl, trivial, by decide, rfl, trivial⟩ rfl trivial (.ren rfl rfl .nil) rfl trivial rfl) rfl ?_
   refine WPL.nilW ?_
   refine W.now ?_
   refine Then.n ?_
   refine WP.seq ?_
   refine WP.region ?_
   refine WPL.q (q_mv (v := .lit _) rfl) rfl ?_
   refine WPL.q (q_as (v := .lit _) rfl) rfl ?_
   refine WPL.nilW ?_
   refine W.now ?_
   refine Then.n ?_
   refine WP.retW ?_
   have q0 := Option.some.inj H
   subst q0
   exact W.now (BodyR.mkR trivial rfl [] ⟨rfl, rfl⟩ ⟨rfl, trivial, by decide, rfl, trivial⟩ rfl rfl)
 refine WPL.c (runs_call (s := []) (t := [0, 1]) (N := 2) (bor := []) fn38 rfl (s_huff_New k x1120 (Sum.inr (x2483, x2484)) h2480) ⟨rfl, trivial, by decide, rfl, trivial⟩ rfl trivial (.ren rfl rfl .nil) rfl ⟨⟨trivial, rfl⟩, rfl⟩ rfl) rfl ?_
 refine WPL.q (q_mv (v := .tup _) rfl) rfl ?_
 refine WPL.q (q_extract rfl rfl) rfl ?_
 refine WPL.q (q_extract rfl rfl) rfl ?_
 refine WPL.q (q_as (v := .ptr _ _) rfl) rfl ?_
 refine WPL.q (q_as (v := .lit (.int _ _)) rfl) rfl ?_
 refine WPL.nilW ?_
 refine W.now ?_
 refine Then.n ?_
 refine WP.seq ?_
 refine WP.region ?_
 refine WPL.q (q_mv (v := .lit (.int _ _)) rfl) rfl ?_
 obtain ⟨y2489, h2487, H⟩ := bnd H
 rcases y2489 with _ | _
 · refine WPL.pW (runs_callP (s := []) (t := []) (N := 2) (bor := []) fn31 rfl (s_inflate_must k 0 (Sum.inl ()) h2487) ⟨rfl, trivial, by decide, rfl, trivial⟩ rfl trivial (.ren rfl rfl .nil) rfl trivial rfl) ?_
   have q0 := Option.some.inj H
   subst q0
   exact W.now (Then.p (BodyR.mkP trivial [] ⟨rfl, rfl⟩ ⟨rfl, trivial, by decide, rfl, trivial⟩ rfl rfl))
 refine WPL.c (runs_call (s := []) (t := []) (N := 2) (bor := []) fn31 rfl (s_inflate_must k 0 (Sum.inr ()) h2487) ⟨rfl, trivial, by decide, rfl, trivial⟩ rfl trivial (.ren rfl rfl .nil) rfl trivial rfl) rfl ?_
 refine WPL.nilW ?_
 refine W.now ?_
 refine Then.n ?_
 refine WP.seq ?_
 refine WP.region ?_
 refine WPL.q (q_mv (v := .ptr _ _) rfl) rfl ?_
 refine WPL.q (q_as (v := .ptr _ _) rfl) rfl ?_
 refine WPL.nilW ?_
 refine W.now ?_
 refine Then.n ?_
 refine WP.retW ?_
 have q0 := Option.some.inj H
 subst q0
 exact W.now (BodyR.mkR trivial rfl [0, 1] ⟨rfl, rfl⟩ ⟨rfl, ⟨⟨trivial, .inr ⟨rfl, rfl, rfl⟩⟩, .inr ⟨rfl, rfl, rfl⟩⟩, by decide, rfl, trivial⟩ rfl rfl)
set_option maxRecDepth 100000 in
set_option maxHeartbeats 4000000 in
theorem s_huff_Decoder_Next (k : Nat) (x2510 : (List Int)) (x2511 : Int) (H : g_huff_Decoder_Next k x2510 x2511 = some ()) : Go.Q.Spec Try.prog 43 1 [.lit (.pointer none), .ptr 0 0] (Mem.nil.push (.cells 52 [.ro (Rd.slice (Rd.int .u8)) false x2510, .lit (.int .i64 x2511)])) (fun o M => o = .ret (.tup [.lit (.int .i64 0), .lit (.int .i64 2)]) ∧ M = (Mem.nil.push (.cells 52 [.ro (Rd.slice (Rd.int .u8)) false x2510, .lit (.int .i64 x2511)]))) := by
 unfold g_huff_Decoder_Next at H
 refine Go.Q.Spec.of_bodyR (az := []) (rs := [.tmp 4, .tmp 5]) (nt := 98) Try.func43 rfl rfl (by intro t T h; simp at h) rfl rfl fun cx hnp => ?_
 refine WP.seq ?_
 refine WP.region ?_
 refine WPL.q (q_as (v := .lit (.int _ _)) rfl) rfl ?_
 refine WPL.q (q_as (v := .lit (.int _ _)) rfl) rfl ?_
 refine WPL.nilW ?_
 refine W.now ?_
 refine Then.n ?_
 refine WP.scope ?_
 refine WP.seq ?_
 refine WP.seq ?_
 refine WP.region ?_
 refine WPL.q (q_mv (v := .lit _) rfl) rfl ?_
 refine WPL.q (q_eqlp_nil Try.underlying54 rfl) rfl ?_
 refine WPL.q (q_mv (v := .lit (.bool _)) rfl) rfl ?_
 refine WPL.skipg (b' := true) rfl rfl rfl rfl rfl (.inl trivial) ?_
 refine WPL.skipg (b' := true) rfl rfl rfl rfl rfl (.inl trivial) ?_
 refine WPL.q (q_pickT (v := .lit (.bool _)) rfl rfl) rfl ?_
 refine WPL.nilW ?_
 refine W.now ?_
 refine Then.n ?_
 refine WP.condT rfl ?_
 refine WP.seq ?_
 refine WP.region ?_
 refine WPL.q (q_as (v := .lit (.int _ _)) rfl) rfl ?_
 refine WPL.q (q_as (v := .lit (.int _ _)) rfl) rfl ?_
 refine WPL.nilW ?_
 refine W.now ?_
 refine Then.n ?_
 refine WP.retW ?_
 exact W.now (Then.r (Scope.r (BodyR.mkR trivial rfl [0] ⟨rfl, rfl⟩ ⟨rfl, ⟨trivial, .inr ⟨rfl, rfl, rfl⟩⟩, by decide, rfl, ⟨trivial, rfl⟩⟩ rfl rfl)))
end Go.Proofs.Ytpceecokdpdgfaa.W
namespace Go.Proofs.Ytpceecokdpdgfaa.W
open Go Go.Q Go.Proofs
set_option linter.unusedVariables false
set_option linter.unusedSimpArgs false
set_option maxRecDepth 100000 in
set_option maxHeartbeats 4000000 in
theorem s_inflate_stream_sym__b (k : Nat) (x2524 : Int) (x2525 : (List Int)) (x2526 : Int) (x2527 : (List Int)) (r : (Unit ⊕ Unit)) (H : g_inflate_stream_sym__b k x2524 x2525 x2526 x2527 = some r) : Go.Q.Spec Try.prog 36 2 [.ptr 0 0, .lit (.pointer none)] (((Mem.nil.push (.cells 45 [.ptr 1 0, .whole 2, .lit (.int .i64 x2524)])).push (.cells 52 [.ro (Rd.slice (Rd.int .u8)) false x2525, .lit (.int .i64 x2526)])).push (.row 5 (Rd.int .u8) x2527)) (fun o M => match (generalizing := false) r with | (Sum.inl _) => o = .pan (.ifc 46 (.lit (.int .i64 2))) ∧ M = ((Mem.nil.push (.gone)).push (.gone)) | (Sum.inr _) => o = .ret (.lit (.int .i64 0)) ∧ M = (((Mem.nil.push (.cells 45 [.ptr 1 0, .whole 2, .lit (.int .i64 x2524)])).push (.cells 52 [.ro (Rd.slice (Rd.int .u8)) false x2525, .lit (.int .i64 x2526)])).push (.row 5 (Rd.int .u8) x2527))) := by
 unfold g_inflate_stream_sym__b at H
 refine Go.Q.Spec.of_bodyR (az := []) (rs := [.tmp 4]) (nt := 19) Try.func36 rfl rfl (by intro t T h; simp at h) rfl rfl fun cx hnp => ?_
 refine WP.seq ?_
 refine WP.region ?_
 refine WPL.q (q_as (v := .lit (.int _ _)) rfl) rfl ?_
 refine WPL.nilW ?_
 refine W.now ?_
 refine Then.n ?_
 refine WP.seq ?_
 refine WP.region ?_
 refine WPL.q (q_mv (v := .lit _) rfl) rfl ?_
 refine WPL.q (q_mv (v := .ptr _ _) rfl) rfl ?_
 refine WPL.q (q_nilCheck rfl) rfl ?_
 refine WPL.q (q_fieldAddr fi45_0 rfl rfl) rfl ?_
 refine WPL.q (q_load sc42 rfl rfl rfl) rfl ?_
 obtain ⟨_, h2531, H⟩ := bnd H
 refine WPL.c (runs_call (s := [1]) (t := [1]) (N := 3) (bor := []) fn43 rfl (s_huff_Decoder_Next k x2525 x2526 h2531) ⟨rfl, ⟨trivial, .inr ⟨rfl, rfl, rfl⟩⟩, by decide, rfl, trivial⟩ rfl trivial (.ren rfl rfl (.ren rfl rfl .nil)) rfl ⟨trivial, rfl⟩ rfl) rfl ?_
 refine WPL.q (q_mv (v := .tup _) rfl) rfl ?_
 refine WPL.q (q_extract rfl rfl) rfl ?_
 refine WPL.q (q_extract rfl rfl) rfl ?_
 refine WPL.q (q_as (v := .lit (.int _ _)) rfl) rfl ?_
 refine WPL.q (q_as (v := .lit (.int _ _)) rfl) rfl ?_
 refine WPL.nilW ?_
 refine W.now ?_
 refine Then.n ?_
 refine WP.seq ?_
 refine WP.region ?_
 refine WPL.q (q_mv (v := .lit (.int _ _)) rfl) rfl ?_
 obtain ⟨y2534, h2532, H⟩ := bnd H
 rcases y2534 with _ | _
 · refine WPL.pW (runs_callP (s := []) (t := []) (N := 3) (bor := []) fn31 rfl (s_inflate_must k 2 (Sum.inl ()) h2532) ⟨rfl, trivial, by decide, rfl, trivial⟩ rfl trivial (.ren rfl rfl .nil) rfl trivial rfl) ?_
   have q0 := Option.some.inj H
   subst q0
   exact W.now (Then.p (BodyR.mkP trivial [0, 1] ⟨rfl, rfl⟩ ⟨rfl, ⟨⟨trivial, .inl rfl⟩, .inl rfl⟩, by decide, rfl, ⟨⟨trivial, rfl⟩, rfl⟩⟩ rfl rfl))
 refine WPL.c (runs_call (s := []) (t := []) (N := 3) (bor := []) fn31 rfl (s_inflate_must k 2 (Sum.inr ()) h2532) ⟨rfl, trivial, by decide, rfl, trivial⟩ rfl trivial (.ren rfl rfl .nil) rfl trivial rfl) rfl ?_
 refine WPL.nilW ?_
 refine W.now ?_
 refine Then.n ?_
 refine WP.seq ?_
 refine WP.region ?_
 refine WPL.q (q_mv (v := .lit (.int _ _)) rfl) rfl ?_
 refine WPL.q (q_as (v := .lit (.int _ _)) rfl) rfl ?_
 refine WPL.nilW ?_
 refine W.now ?_
 refine Then.n ?_
 refine WP.retW ?_
 have q0 := Option.some.inj H
 subst q0
 exact W.now (BodyR.mkR trivial rfl [0, 1, 2] ⟨rfl, rfl⟩ ⟨rfl, ⟨⟨⟨trivial, .inr ⟨rfl, rfl, rfl⟩⟩, .inr ⟨rfl, rfl, rfl⟩⟩, .inr ⟨rfl, rfl, rfl⟩⟩, by decide, rfl, ⟨⟨trivial, rfl⟩, rfl⟩⟩ rfl rfl)
set_option maxRecDepth 100000 in
set_option maxHeartbeats 4000000 in
theorem s_inflate_stream_room__b (k : Nat) (x2537 : Int) (x2538 : Int) (x2539 : (List Int)) (x2540 : Int) (x2541 : (List Int)) (r : (Unit ⊕ Unit)) (H : g_inflate_stream_room__b k x2537 x2538 x2539 x2540 x2541 = some r) : Go.Q.Spec Try.prog 35 2 [.ptr 0 0, .lit (.int .i64 x2537)] (((Mem.nil.push (.cells 45 [.ptr 1 0, .whole 2, .lit (.int .i64 x2538)])).push (.cells 52 [.ro (Rd.slice (Rd.int .u8)) false x2539, .lit (.int .i64 x2540)])).push (.row 5 (Rd.int .u8) x2541)) (fun o M => match (generalizing := false) r with | (Sum.inl _) => o = .pan (.ifc 46 (.lit (.int .i64 3))) ∧ M = ((Mem.nil.push (.gone)).push (.gone)) | (Sum.inr _) => o = .ret (.tup []) ∧ M = (((Mem.nil.push (.cells 45 [.ptr 1 0, .whole 2, .lit (.int .i64 x2538)])).push (.cells 52 [.ro (Rd.slice (Rd.int .u8)) false x2539, .lit (.int .i64 x2540)])).push (.row 5 (Rd.int .u8) x2541))) := by
 unfold g_inflate_stream_room__b at H
 refine Go.Q.Spec.of_bodyR (az := []) (rs := []) (nt := 17) Try.func35 rfl rfl (by intro t T h; simp at h) rfl rfl fun cx hnp => ?_
 refine WP.regionD' 13 [0] [] mixed rfl ?_
 refine WPD.takeT 0 rfl (by kernel_rfl) (q_mv (v := .lit (.int _ _)) rfl) rfl ?_
 refine WPD.takeT 1 rfl (by kernel_rfl) (q_mv (v := .ptr _ _) rfl) rfl ?_
 refine WPD.takeT 2 rfl (by kernel_rfl) (q_nilCheck rfl) rfl ?_
 refine WPD.takeT 3 rfl (by kernel_rfl) (q_fieldAddr fi45_2 rfl rfl) rfl ?_
 refine WPD.takeT 5 rfl (by kernel_rfl) (q_mv (v := .ptr _ _) rfl) rfl ?_
 refine WPD.takeT 6 rfl (by kernel_rfl) (q_nilCheck rfl) rfl ?_
 refine WPD.takeT 7 rfl (by kernel_rfl) (q_fieldAddr fi45_1 rfl rfl) rfl ?_
 refine WPD.take 4 rfl (by kernel_rfl) (q_load sc3 rfl rfl rfl) rfl rfl ?_
 refine WPD.take 8 rfl (by kernel_rfl) (q_load sc29 rfl rfl rfl) rfl rfl ?_
 refine WPD.takeT 9 rfl (by kernel_rfl) (q_len_row sl29 rfl rfl) rfl ?_
 obtain ⟨x2552, h2552, H⟩ := bnd H
 refine WPD.takeT 10 rfl (by kernel_rfl) (q_nm (q_sub rfl rfl) (nm_int h2552)) rfl ?_
 refine WPD.takeT 11 rfl (by kernel_rfl) (q_leq rfl rfl) rfl ?_
 obtain ⟨y2554, h2552, H⟩ := bnd H
 rcases y2554 with _ | _
 · refine WPD.pW 12 rfl (by kernel_rfl) (runs_callP (s := []) (t := []) (N := 3) (bor := []) fn34 rfl (s_inflate_ask k (decide (x2537 ≤ x2552)) 3 (Sum.inl ()) h2552) ⟨rfl, trivial, by decide, rfl, trivial⟩ rfl trivial (.ren rfl rfl (.ren rfl rfl .nil)) rfl trivial rfl) ?_
   have q0 := Option.some.inj H
   subst q0
   exact W.now (BodyR.mkP trivial [0, 1] ⟨rfl, rfl⟩ ⟨rfl, ⟨⟨trivial, .inl rfl⟩, .inl rfl⟩, by decide, rfl, ⟨⟨trivial, rfl⟩, rfl⟩⟩ rfl rfl)
 refine WPD.eff 12 [0] [] rfl (by kernel_rfl) (runs_call (s := []) (t := []) (N := 3) (bor := []) fn34 rfl (s_inflate_ask k (decide (x2537 ≤ x2552)) 3 (Sum.inr ()) h2552) ⟨rfl, trivial, by decide, rfl, trivial⟩ rfl trivial (.ren rfl rfl (.ren rfl rfl .nil)) rfl trivial rfl) rfl rfl ?_
 refine WPD.doneW (by kernel_rfl) ?_
 have q0 := Option.some.inj H
 subst q0
 exact W.now (BodyR.mkN trivial rfl [0, 1, 2] ⟨rfl, rfl⟩ ⟨rfl, ⟨⟨⟨trivial, .inr ⟨rfl, rfl, rfl⟩⟩, .inr ⟨rfl, rfl, rfl⟩⟩, .inr ⟨rfl, rfl, rfl⟩⟩, by decide, rfl, ⟨⟨trivial, rfl⟩, rfl⟩⟩ rfl rfl)
set_option maxRecDepth 100000 in
set_option maxHeartbeats 4000000 in
theorem s_huff_Decoder_begins (k : Nat) (x2688 : Int) (x2689 : Int) (x2690 : (List Int)) (x2691 : (List Int)) (x2706 : Bool) (H : g_huff_Decoder_begins k x2688 x2689 x2690 x2691 = some x2706) : Go.Q.Spec Try.prog 48 1 [.ptr 0 0, .lit (.int .i64 x2688), .lit (.int .i64 x2689)] ((Mem.nil.push (.cells 82 [.lit (.int .i64 (List.getD x2690 0 (0 : Int))), .lit (.int .i64 (List.getD x2690 1 (0 : Int))), .lit (.int .i64 (List.getD x2690 2 (0 : Int))), .lit (.int .i64 (List.getD x2690 3 (0 : Int))), .lit (.int .i64 (List.getD x2690 4 (0 : Int))), .lit (.int .i64 (List.getD x2690 5 (0 : Int))), .lit (.int .i64 (List.getD x2690 6 (0 : Int))), .lit (.int .i64 (List.getD x2690 7 (0 : Int))), .lit (.int .i64 (List.getD x2690 8 (0 : Int))), .lit (.int .i64 (List.getD x2690 9 (0 : Int))), .lit (.int .i64 (List.getD x2690 10 (0 : Int))), .lit (.int .i64 (List.getD x2690 11 (0 : Int))), .lit (.int .i64 (List.getD x2690 12 (0 : Int))), .lit (.int .i64 (List.getD x2690 13 (0 : Int))), .lit (.int .i64 (List.getD x2690 14 (0 : Int))), .lit (.int .i64 (List.getD x2690 15 (0 : Int))), .whole 1])).push (.row 3 (Rd.int .i64) x2691)) (fun o M => o = .ret (.lit (.bool x2706)) ∧ M = ((Mem.nil.push (.cells 82 [.lit (.int .i64 (List.getD x2690 0 (0 : Int))), .lit (.int .i64 (List.getD x2690 1 (0 : Int))), .lit (.int .i64 (List.getD x2690 2 (0 : Int))), .lit (.int .i64 (List.getD x2690 3 (0 : Int))), .lit (.int .i64 (List.getD x2690 4 (0 : Int))), .lit (.int .i64 (List.getD x2690 5 (0 : Int))), .lit (.int .i64 (List.getD x2690 6 (0 : Int))), .lit (.int .i64 (List.getD x2690 7 (0 : Int))), .lit (.int .i64 (List.getD x2690 8 (0 : Int))), .lit (.int .i64 (List.getD x2690 9 (0 : Int))), .lit (.int .i64 (List.getD x2690 10 (0 : Int))), .lit (.int .i64 (List.getD x2690 11 (0 : Int))), .lit (.int .i64 (List.getD x2690 12 (0 : Int))), .lit (.int .i64 (List.getD x2690 13 (0 : Int))), .lit (.int .i64 (List.getD x2690 14 (0 : Int))), .lit (.int .i64 (List.getD x2690 15 (0 : Int))), .whole 1])).push (.row 3 (Rd.int .i64) x2691))) := by
 unfold g_huff_Decoder_begins at H
 refine Go.Q.Spec.of_bodyR (az := []) (rs := [.tmp 6]) (nt := 27) Try.func48 rfl rfl (by intro t T h; simp at h) rfl rfl fun cx hnp => ?_
 refine WP.seq ?_
 refine WP.region ?_
 refine WPL.q (q_as (v := .lit (.bool _)) rfl) rfl ?_
 refine WPL.nilW ?_
 refine W.now ?_
 refine Then.n ?_
 refine WP.seq ?_
 refine WP.region ?_
 refine WPL.q (q_as (v := .lit (.int _ _)) rfl) rfl ?_
 refine WPL.nilW ?_
 refine W.now ?_
 refine Then.n ?_
 refine WP.seq ?_
 refine WP.seq ?_
 refine WP.region ?_
 refine WPL.q (q_as (v := .lit (.int _ _)) rfl) rfl ?_
 refine WPL.nilW ?_
 refine W.now ?_
 refine Then.n ?_
 refine WP.block ?_
 refine WP.cv (Cv.weak (E' := (((((Env.none.upd 0 (.ptr 0 0)).upd 1 (.lit (.int .i64 x2688))).upd 2 (.lit (.int .i64 x2689))).upd 7 (.lit (.int .i64 0))).upd 8 (.lit (.int .i64 15)))) (M' := ((Mem.nil.push (.cells 82 [.lit (.int .i64 (List.getD x2690 0 (0 : Int))), .lit (.int .i64 (List.getD x2690 1 (0 : Int))), .lit (.int .i64 (List.getD x2690 2 (0 : Int))), .lit (.int .i64 (List.getD x2690 3 (0 : Int))), .lit (.int .i64 (List.getD x2690 4 (0 : Int))), .lit (.int .i64 (List.getD x2690 5 (0 : Int))), .lit (.int .i64 (List.getD x2690 6 (0 : Int))), .lit (.int .i64 (List.getD x2690 7 (0 : Int))), .lit (.int .i64 (List.getD x2690 8 (0 : Int))), .lit (.int .i64 (List.getD x2690 9 (0 : Int))), .lit (.int .i64 (List.getD x2690 10 (0 : Int))), .lit (.int .i64 (List.getD x2690 11 (0 : Int))), .lit (.int .i64 (List.getD x2690 12 (0 : Int))), .lit (.int .i64 (List.getD x2690 13 (0 : Int))), .lit (.int .i64 (List.getD x2690 14 (0 : Int))), .lit (.int .i64 (List.getD x2690 15 (0 : Int))), .whole 1])).push (.row 3 (Rd.int .i64) x2691))) [0, 1] hnp ⟨rfl, ⟨⟨trivial, .inr ⟨rfl, rfl, rfl⟩⟩, .inr ⟨rfl, rfl, rfl⟩⟩, by decide, rfl, ⟨trivial, rfl⟩⟩ (LeE.upd rfl rfl (LeE.upd rfl rfl (LeE.upd rfl rfl (LeE.upd rfl rfl (LeE.upd rfl rfl (LeE.none rfl rfl))))))) ?_
 obtain ⟨x2718, H2723, H⟩ := bnd H
 refine WP.monoW (Q := fun x E M => x = .exit 0 ∧ E = ((Env.none.upd 1 (.lit (.int .i64 x2688))).upd 7 (.lit (.int .i64 x2718))) ∧ M = ((Mem.nil.push (.cells 82 [.lit (.int .i64 (List.getD x2690 0 (0 : Int))), .lit (.int .i64 (List.getD x2690 1 (0 : Int))), .lit (.int .i64 (List.getD x2690 2 (0 : Int))), .lit (.int .i64 (List.getD x2690 3 (0 : Int))), .lit (.int .i64 (List.getD x2690 4 (0 : Int))), .lit (.int .i64 (List.getD x2690 5 (0 : Int))), .lit (.int .i64 (List.getD x2690 6 (0 : Int))), .lit (.int .i64 (List.getD x2690 7 (0 : Int))), .lit (.int .i64 (List.getD x2690 8 (0 : Int))), .lit (.int .i64 (List.getD x2690 9 (0 : Int))), .lit (.int .i64 (List.getD x2690 10 (0 : Int))), .lit (.int .i64 (List.getD x2690 11 (0 : Int))), .lit (.int .i64 (List.getD x2690 12 (0 : Int))), .lit (.int .i64 (List.getD x2690 13 (0 : Int))), .lit (.int .i64 (List.getD x2690 14 (0 : Int))), .lit (.int .i64 (List.getD x2690 15 (0 : Int))), .whole 1])).push (.row 3 (Rd.int .i64) x2691))) ?_ ?_
 · refine WP.loop (β := Int × Int) (fun n b => g_huff_Decoder_begins_l0 k x2689 x2690 n b.1 b.2 = some x2718) (fun b => (((((Env.none.upd 0 (.ptr 0 0)).upd 1 (.lit (.int .i64 x2688))).upd 2 (.lit (.int .i64 x2689))).upd 7 (.lit (.int .i64 b.1))).upd 8 (.lit (.int .i64 b.2)))) (fun b => ((Mem.nil.push (.cells 82 [.lit (.int .i64 (List.getD x2690 0 (0 : Int))), .lit (.int .i64 (List.getD x2690 1 (0 : Int))), .lit (.int .i64 (List.getD x2690 2 (0 : Int))), .lit (.int .i64 (List.getD x2690 3 (0 : Int))), .lit (.int .i64 (List.getD x2690 4 (0 : Int))), .lit (.int .i64 (List.getD x2690 5 (0 : Int))), .lit (.int .i64 (List.getD x2690 6 (0 : Int))), .lit (.int .i64 (List.getD x2690 7 (0 : Int))), .lit (.int .i64 (List.getD x2690 8 (0 : Int))), .lit (.int .i64 (List.getD x2690 9 (0 : Int))), .lit (.int .i64 (List.getD x2690 10 (0 : Int))), .lit (.int .i64 (List.getD x2690 11 (0 : Int))), .lit (.int .i64 (List.getD x2690 12 (0 : Int))), .lit (.int .i64 (List.getD x2690 13 (0 : Int))), .lit (.int .i64 (List.getD x2690 14 (0 : Int))), .lit (.int .i64 (List.getD x2690 15 (0 : Int))), .whole 1])).push (.row 3 (Rd.int .i64) x2691))) k (0, 15) H2723 rfl rfl ?_
   rintro n ⟨x2711, x2712⟩ H
   obtain _ | n := n
   · exact nf rfl H
   rw [g_huff_Decoder_begins_l0.eq_2] at H
   show WP _ _ _ _ (((((Env.none.upd 0 (.ptr 0 0)).upd 1 (.lit (.int .i64 x2688))).upd 2 (.lit (.int .i64 x2689))).upd 7 (.lit (.int .i64 x2711))).upd 8 (.lit (.int .i64 x2712))) ((Mem.nil.push (.cells 82 [.lit (.int .i64 (List.getD x2690 0 (0 : Int))), .lit (.int .i64 (List.getD x2690 1 (0 : Int))), .lit (.int .i64 (List.getD x2690 2 (0 : Int))), .lit (.int .i64 (List.getD x2690 3 (0 : Int))), .lit (.int .i64 (List.getD x2690 4 (0 : Int))), .lit (.int .i64 (List.getD x2690 5 (0 : Int))), .lit (.int .i64 (List.getD x2690 6 (0 : Int))), .lit (.int .i64 (List.getD x2690 7 (0 : Int))), .lit (.int .i64 (List.getD x2690 8 (0 : Int))), .lit (.int .i64 (List.getD x2690 9 (0 : Int))), .lit (.int .i64 (List.getD x2690 10 (0 : Int))), .lit (.int .i64 (List.getD x2690 11 (0 : Int))), .lit (.int .i64 (List.getD x2690 12 (0 : Int))), .lit (.int .i64 (List.getD x2690 13 (0 : Int))), .lit (.int .i64 (List.getD x2690 14 (0 : Int))), .lit (.int .i64 (List.getD x2690 15 (0 : Int))), .whole 1])).push (.row 3 (Rd.int .i64) x2691)) _
   refine WP.seq ?_
   refine WP.seq ?_
   refine WP.region ?_
   refine WPL.q (q_mv (v := .lit (.int _ _)) rfl) rfl ?_
   refine WPL.q (q_mv (v := .lit (.int _ _)) rfl) rfl ?_
   refine WPL.q (q_geq rfl rfl) rfl ?_
   refine WPL.nilW ?_
   refine W.now ?_
   refine Then.n ?_
   refine WP.cond (t := (decide (x2689 ≤ x2712))) rfl (fun hb2719 => ?_) (fun hb2719 => ?_)
   · replace H := cnt hb2719 H
     refine WP.skipW ?_
     refine W.now ?_
     refine Then.n ?_
     refine WP.seq ?_
     refine WP.block ?_
     refine WP.region ?_
     refine WPL.q (q_mv (v := .lit (.int _ _)) rfl) rfl ?_
     refine WPL.q (q_mv (v := .ptr _ _) rfl) rfl ?_
     refine WPL.q (q_mv (v := .lit (.int _ _)) rfl) rfl ?_
     refine WPL.q (q_nilCheck rfl) rfl ?_
     refine WPL.q (q_fieldAddr fi82_0 rfl rfl) rfl ?_
     obtain ⟨h2720, H⟩ := grd H
     refine WPL.q (q_indexArr ar80 rfl rfl h2720 rfl) rfl ?_
     refine WPL.q (q_load_arr (f := (fun z : Int => AVal.lit (.int .i64 z))) (d0 := (0 : Int)) (xs := x2690) (n := 16) (off := 0) (j := (Int.toNat x2712)) sc3 rfl rfl rfl (natlt h2720) (addone _ _)) rfl ?_
     obtain ⟨x2722, h2722, H⟩ := bnd H
     refine WPL.q (q_nm (q_add rfl rfl) (nm_int h2722)) rfl ?_
     refine WPL.q (q_add rfl rfl) rfl ?_
     obtain ⟨x2723, h2723, H⟩ := bnd H
     refine WPL.q (q_nm (q_quo rfl rfl rfl) (nm_int h2723)) rfl ?_
     refine WPL.q (q_as (v := .lit (.int _ _)) rfl) rfl ?_
     refine WPL.nilW ?_
     refine W.now ?_
     refine InBlock.n ?_
     refine Then.n ?_
     refine WP.region ?_
     refine WPL.q (q_mv (v := .lit (.int _ _)) rfl) rfl ?_
     refine WPL.q (q_sub rfl rfl) rfl ?_
     refine WPL.q (q_as (v := .lit (.int _ _)) rfl) rfl ?_
     refine WPL.nilW ?_
     exact W.wk [0, 1] hnp (Then.n ⟨n, (x2723, (IntKind.wrap .i64 (x2712 - 1))), Nat.lt_succ_self n, H, rfl, rfl⟩) ⟨rfl, ⟨⟨trivial, .inr ⟨rfl, rfl, rfl⟩⟩, .inr ⟨rfl, rfl, rfl⟩⟩, by decide, rfl, ⟨trivial, rfl⟩⟩ (LeE.upd rfl rfl (LeE.upd rfl rfl (LeE.upd rfl rfl (LeE.upd rfl rfl (LeE.upd rfl rfl (LeE.none rfl rfl)))))) rfl
   replace H := cnf hb2719 H
   refine WP.exitW ?_
   have q0 := (Option.some.inj H)
   subst q0
   exact W.wk [0, 1] hnp (Then.x (Then.x ⟨rfl, rfl, rfl⟩)) ⟨rfl, ⟨⟨trivial, .inr ⟨rfl, rfl, rfl⟩⟩, .inr ⟨rfl, rfl, rfl⟩⟩, by decide, rfl, ⟨trivial, rfl⟩⟩ (LeE.upd rfl rfl (LeE.upd rfl rfl (LeE.none rfl rfl))) rfl
 rintro _ _ _ ⟨rfl, rfl, rfl⟩
 refine W.now ?_
 refine InBlock.x0 ?_
 refine Then.n ?_
 refine WP.seq ?_
 refine WP.region ?_
 refine WPL.q (q_mv (v := .lit (.int _ _)) rfl) rfl ?_
 refine WPL.q (q_mv (v := .lit (.int _ _)) rfl) rfl ?_
 refine WPL.q (q_lss rfl rfl) rfl ?_
 refine WPL.q (q_as (v := .lit (.bool _)) rfl) rfl ?_
 refine WPL.nilW ?_
 refine W.now ?_
 refine Then.n ?_
 refine WP.retW ?_
 have q0 := (Option.some.inj H)
 subst q0
 exact W.now (BodyR.mkR trivial rfl [0, 1] ⟨rfl, rfl⟩ ⟨rfl, ⟨⟨trivial, .inr ⟨rfl, rfl, rfl⟩⟩, .inr ⟨rfl, rfl, rfl⟩⟩, by decide, rfl, ⟨trivial, rfl⟩⟩ rfl rfl)
set_option maxRecDepth 100000 in
set_option maxHeartbeats 4000000 in
theorem s_huff_Decoder_Next__b (k : Nat) (x2661 : (List Int)) (x2662 : (List Int)) (x2663 : Int) (x2664 : (List Int)) (x2827 : Int) (x2828 : Int) (x2829 : (List Int)) (x2830 : Int) (H : g_huff_Decoder_Next__b k x2661 x2662 x2663 x2664 = some (x2827, x2828, x2829, x2830)) : Go.Q.Spec Try.prog 43 2 [.ptr 0 0, .ptr 1 0] (((Mem.nil.push (.cells 82 [.lit (.int .i64 (List.getD x2661 0 (0 : Int))), .lit (.int .i64 (List.getD x2661 1 (0 : Int))), .lit (.int .i64 (List.getD x2661 2 (0 : Int))), .lit (.int .i64 (List.getD x2661 3 (0 : Int))), .lit (.int .i64 (List.getD x2661 4 (0 : Int))), .lit (.int .i64 (List.getD x2661 5 (0 : Int))), .lit (.int .i64 (List.getD x2661 6 (0 : Int))), .lit (.int .i64 (List.getD x2661 7 (0 : Int))), .lit (.int .i64 (List.getD x2661 8 (0 : Int))), .lit (.int .i64 (List.getD x2661 9 (0 : Int))), .lit (.int .i64 (List.getD x2661 10 (0 : Int))), .lit (.int .i64 (List.getD x2661 11 (0 : Int))), .lit (.int .i64 (List.getD x2661 12 (0 : Int))), .lit (.int .i64 (List.getD x2661 13 (0 : Int))), .lit (.int .i64 (List.getD x2661 14 (0 : Int))), .lit (.int .i64 (List.getD x2661 15 (0 : Int))), .whole 2])).push (.cells 52 [.ro (Rd.slice (Rd.int .u8)) false x2662, .lit (.int .i64 x2663)])).push (.row 3 (Rd.int .i64) x2664)) (fun o M => o = .ret (.tup [.lit (.int .i64 x2827), .lit (.int .i64 x2828)]) ∧ M = (((Mem.nil.push (.cells 82 [.lit (.int .i64 (List.getD x2661 0 (0 : Int))), .lit (.int .i64 (List.getD x2661 1 (0 : Int))), .lit (.int .i64 (List.getD x2661 2 (0 : Int))), .lit (.int .i64 (List.getD x2661 3 (0 : Int))), .lit (.int .i64 (List.getD x2661 4 (0 : Int))), .lit (.int .i64 (List.getD x2661 5 (0 : Int))), .lit (.int .i64 (List.getD x2661 6 (0 : Int))), .lit (.int .i64 (List.getD x2661 7 (0 : Int))), .lit (.int .i64 (List.getD x2661 8 (0 : Int))), .lit (.int .i64 (List.getD x2661 9 (0 : Int))), .lit (.int .i64 (List.getD x2661 10 (0 : Int))), .lit (.int .i64 (List.getD x2661 11 (0 : Int))), .lit (.int .i64 (List.getD x2661 12 (0 : Int))), .lit (.int .i64 (List.getD x2661 13 (0 : Int))), .lit (.int .i64 (List.getD x2661 14 (0 : Int))), .lit (.int .i64 (List.getD x2661 15 (0 : Int))), .whole 2])).push (.cells 52 [.ro (Rd.slice (Rd.int .u8)) false x2829, .lit (.int .i64 x2830)])).push (.row 3 (Rd.int .i64) x2664))) := by
 unfold g_huff_Decoder_Next__b at H
 refine Go.Q.Spec.of_bodyR (az := []) (rs := [.tmp 4, .tmp 5]) (nt := 98) Try.func43 rfl rfl (by intro t T h; simp at h) rfl rfl fun cx hnp => ?_
 refine WP.seq ?_
 refine WP.region ?_
 refine WPL.q (q_as (v := .lit (.int _ _)) rfl) rfl ?_
 refine WPL.q (q_as (v := .lit (.int _ _)) rfl) rfl ?_
 refine WPL.nilW ?_
 refine W.now ?_
 refine Then.n ?_
 refine WP.scope ?_
 refine WP.seq ?_
 refine WP.seq ?_
 refine WP.region ?_
 refine WPL.q (q_mv (v := .ptr _ _) rfl) rfl ?_
 refine WPL.q (q_eqlp Try.underlying54 rfl) rfl ?_
 refine WPL.q (q_mv (v := .lit (.bool _)) rfl) rfl ?_
 refine WPL.qg rfl rfl rfl (q_mv (v := .ptr _ _) rfl) rfl ?_
 refine WPL.qg rfl rfl rfl (q_eqlp Try.underlying42 rfl) rfl ?_
 refine WPL.q (q_pickF (v := .lit (.bool _)) rfl rfl) rfl ?_
 refine WPL.nilW ?_
 refine W.now ?_
 refine Then.n ?_
 refine WP.condF rfl ?_
 refine WP.skipW ?_
 refine W.now ?_
 refine Then.n ?_
 refine WP.seq ?_
 refine WP.region ?_
 refine WPL.q (q_mv (v := .ptr _ _) rfl) rfl ?_
 refine WPL.q (q_nilCheck rfl) rfl ?_
 refine WPL.q (q_load_ag ag52 rfl rfl (Nat.le_of_ble_eq_true rfl)) rfl ?_
 refine WPL.d (d_alloc ze52 rfl) rfl ?_
 refine WPL.s (s_store sz52 rfl rfl rfl rfl rfl) ?_
 refine WPL.nilW ?_
 refine W.now ?_
 refine Then.n ?_
 refine WP.seq ?_
 refine WP.region ?_
 refine WPL.q (q_as (v := .lit (.int _ _)) rfl) rfl ?_
 refine WPL.q (q_as (v := .lit (.int _ _)) rfl) rfl ?_
 refine WPL.q (q_as (v := .lit (.int _ _)) rfl) rfl ?_
 refine WPL.nilW ?_
 refine W.now ?_
 refine Then.n ?_
 refine WP.seq ?_
 refine WP.region ?_
 refine WPL.q (q_as (v := .lit (.int _ _)) rfl) rfl ?_
 refine WPL.nilW ?_
 refine W.now ?_
 refine Then.n ?_
 refine WP.seq ?_
 refine WP.labelW ?_
 refine W.now ?_
 refine Then.n ?_
 refine WP.seq ?_
 refine WP.seq ?_
 refine WP.region ?_
 refine WPL.q (q_as (v := .lit (.int _ _)) rfl) rfl ?_
 refine WPL.nilW ?_
 refine W.now ?_
 refine Then.n ?_
 refine WP.block ?_
 refine WP.cv (Cv.weak (E' := ((((((((Env.none.upd 0 (.ptr 0 0)).upd 1 (.ptr 1 0)).upd 6 (.ptr 3 0)).upd 7 (.lit (.int .i64 0))).upd 8 (.lit (.int .i64 0))).upd 9 (.lit (.int .i64 0))).upd 10 (.lit (.int .i64 11))).upd 11 (.lit (.int .i64 1)))) (M' := ((((Mem.nil.push (.cells 82 [.lit (.int .i64 (List.getD x2661 0 (0 : Int))), .lit (.int .i64 (List.getD x2661 1 (0 : Int))), .lit (.int .i64 (List.getD x2661 2 (0 : Int))), .lit (.int .i64 (List.getD x2661 3 (0 : Int))), .lit (.int .i64 (List.getD x2661 4 (0 : Int))), .lit (.int .i64 (List.getD x2661 5 (0 : Int))), .lit (.int .i64 (List.getD x2661 6 (0 : Int))), .lit (.int .i64 (List.getD x2661 7 (0 : Int))), .lit (.int .i64 (List.getD x2661 8 (0 : Int))), .lit (.int .i64 (List.getD x2661 9 (0 : Int))), .lit (.int .i64 (List.getD x2661 10 (0 : Int))), .lit (.int .i64 (List.getD x2661 11 (0 : Int))), .lit (.int .i64 (List.getD x2661 12 (0 : Int))), .lit (.int .i64 (List.getD x2661 13 (0 : Int))), .lit (.int .i64 (List.getD x2661 14 (0 : Int))), .lit (.int .i64 (List.getD x2661 15 (0 : Int))), .whole 2])).push (.cells 52 [.ro (Rd.slice (Rd.int .u8)) false x2662, .lit (.int .i64 x2663)])).push (.row 3 (Rd.int .i64) x2664)).push (.cells 52 [.ro (Rd.slice (Rd.int .u8)) false x2662, .lit (.int .i64 x2663)]))) [0, 1, 2, 3] hnp ⟨rfl, ⟨⟨⟨⟨trivial, .inr ⟨rfl, rfl, rfl⟩⟩, .inr ⟨rfl, rfl, rfl⟩⟩, .inr ⟨rfl, rfl, rfl⟩⟩, .inr ⟨rfl, rfl, rfl⟩⟩, by decide, rfl, ⟨⟨trivial, rfl⟩, rfl⟩⟩ (LeE.upd rfl rfl (LeE.upd rfl rfl (LeE.upd rfl rfl (LeE.upd rfl rfl (LeE.upd rfl rfl (LeE.upd rfl rfl (LeE.upd rfl rfl (LeE.upd rfl rfl (LeE.none rfl rfl)))))))))) ?_
 obtain ⟨y3014, H3012, H⟩ := bnd H
 refine WP.monoW (Q := fun x E M => match (generalizing := false) y3014 with | (Sum.inl (x2947, x2948, x2949)) => x = .exit 0 ∧ E = (((Env.none.upd 1 (.ptr 1 0)).upd 6 (.ptr 3 0)).upd 10 (.lit (.int .i64 x2947))) ∧ M = ((((Mem.nil.push (.cells 82 [.lit (.int .i64 (List.getD x2661 0 (0 : Int))), .lit (.int .i64 (List.getD x2661 1 (0 : Int))), .lit (.int .i64 (List.getD x2661 2 (0 : Int))), .lit (.int .i64 (List.getD x2661 3 (0 : Int))), .lit (.int .i64 (List.getD x2661 4 (0 : Int))), .lit (.int .i64 (List.getD x2661 5 (0 : Int))), .lit (.int .i64 (List.getD x2661 6 (0 : Int))), .lit (.int .i64 (List.getD x2661 7 (0 : Int))), .lit (.int .i64 (List.getD x2661 8 (0 : Int))), .lit (.int .i64 (List.getD x2661 9 (0 : Int))), .lit (.int .i64 (List.getD x2661 10 (0 : Int))), .lit (.int .i64 (List.getD x2661 11 (0 : Int))), .lit (.int .i64 (List.getD x2661 12 (0 : Int))), .lit (.int .i64 (List.getD x2661 13 (0 : Int))), .lit (.int .i64 (List.getD x2661 14 (0 : Int))), .lit (.int .i64 (List.getD x2661 15 (0 : Int))), .whole 2])).push (.cells 52 [.ro (Rd.slice (Rd.int .u8)) false x2948, .lit (.int .i64 x2949)])).push (.row 3 (Rd.int .i64) x2664)).push (.cells 52 [.ro (Rd.slice (Rd.int .u8)) false x2662, .lit (.int .i64 x2663)])) | (Sum.inr (x2950, x2951, x2952)) => x = .ret ∧ E = ((Env.none.upd 4 (.lit (.int .i64 x2950))).upd 5 (.lit (.int .i64 0))) ∧ M = (((Mem.nil.push (.cells 82 [.lit (.int .i64 (List.getD x2661 0 (0 : Int))), .lit (.int .i64 (List.getD x2661 1 (0 : Int))), .lit (.int .i64 (List.getD x2661 2 (0 : Int))), .lit (.int .i64 (List.getD x2661 3 (0 : Int))), .lit (.int .i64 (List.getD x2661 4 (0 : Int))), .lit (.int .i64 (List.getD x2661 5 (0 : Int))), .lit (.int .i64 (List.getD x2661 6 (0 : Int))), .lit (.int .i64 (List.getD x2661 7 (0 : Int))), .lit (.int .i64 (List.getD x2661 8 (0 : Int))), .lit (.int .i64 (List.getD x2661 9 (0 : Int))), .lit (.int .i64 (List.getD x2661 10 (0 : Int))), .lit (.int .i64 (List.getD x2661 11 (0 : Int))), .lit (.int .i64 (List.getD x2661 12 (0 : Int))), .lit (.int .i64 (List.getD x2661 13 (0 : Int))), .lit (.int .i64 (List.getD x2661 14 (0 : Int))), .lit (.int .i64 (List.getD x2661 15 (0 : Int))), .whole 2])).push (.cells 52 [.ro (Rd.slice (Rd.int .u8)) false x2951, .lit (.int .i64 x2952)])).push (.row 3 (Rd.int .i64) x2664))) ?_ ?_
 · refine WP.loop (β := Int × Int × Int × Int × (List Int) × Int) (fun n b => g_huff_Decoder_Next__b_l0 k x2661 x2664 n b.1 b.2.1 b.2.2.1 b.2.2.2.1 b.2.2.2.2.1 b.2.2.2.2.2 = some y3014) (fun b => ((((((((Env.none.upd 0 (.ptr 0 0)).upd 1 (.ptr 1 0)).upd 6 (.ptr 3 0)).upd 7 (.lit (.int .i64 b.1))).upd 8 (.lit (.int .i64 b.2.1))).upd 9 (.lit (.int .i64 b.2.2.1))).upd 10 (.lit (.int .i64 11))).upd 11 (.lit (.int .i64 b.2.2.2.1)))) (fun b => ((((Mem.nil.push (.cells 82 [.lit (.int .i64 (List.getD x2661 0 (0 : Int))), .lit (.int .i64 (List.getD x2661 1 (0 : Int))), .lit (.int .i64 (List.getD x2661 2 (0 : Int))), .lit (.int .i64 (List.getD x2661 3 (0 : Int))), .lit (.int .i64 (List.getD x2661 4 (0 : Int))), .lit (.int .i64 (List.getD x2661 5 (0 : Int))), .lit (.int .i64 (List.getD x2661 6 (0 : Int))), .lit (.int .i64 (List.getD x2661 7 (0 : Int))), .lit (.int .i64 (List.getD x2661 8 (0 : Int))), .lit (.int .i64 (List.getD x2661 9 (0 : Int))), .lit (.int .i64 (List.getD x2661 10 (0 : Int))), .lit (.int .i64 (List.getD x2661 11 (0 : Int))), .lit (.int .i64 (List.getD x2661 12 (0 : Int))), .lit (.int .i64 (List.getD x2661 13 (0 : Int))), .lit (.int .i64 (List.getD x2661 14 (0 : Int))), .lit (.int .i64 (List.getD x2661 15 (0 : Int))), .whole 2])).push (.cells 52 [.ro (Rd.slice (Rd.int .u8)) false b.2.2.2.2.1, .lit (.int .i64 b.2.2.2.2.2)])).push (.row 3 (Rd.int .i64) x2664)).push (.cells 52 [.ro (Rd.slice (Rd.int .u8)) false x2662, .lit (.int .i64 x2663)]))) k (0, 0, 0, 1, x2662, x2663) H3012 rfl rfl ?_
   rintro n ⟨x2881, x2882, x2883, x2884, x2885, x2886⟩ H
   obtain _ | n := n
   · exact nf rfl H
   rw [g_huff_Decoder_Next__b_l0.eq_2] at H
   show WP _ _ _ _ ((((((((Env.none.upd 0 (.ptr 0 0)).upd 1 (.ptr 1 0)).upd 6 (.ptr 3 0)).upd 7 (.lit (.int .i64 x2881))).upd 8 (.lit (.int .i64 x2882))).upd 9 (.lit (.int .i64 x2883))).upd 10 (.lit (.int .i64 11))).upd 11 (.lit (.int .i64 x2884))) ((((Mem.nil.push (.cells 82 [.lit (.int .i64 (List.getD x2661 0 (0 : Int))), .lit (.int .i64 (List.getD x2661 1 (0 : Int))), .lit (.int .i64 (List.getD x2661 2 (0 : Int))), .lit (.int .i64 (List.getD x2661 3 (0 : Int))), .lit (.int .i64 (List.getD x2661 4 (0 : Int))), .lit (.int .i64 (List.getD x2661 5 (0 : Int))), .lit (.int .i64 (List.getD x2661 6 (0 : Int))), .lit (.int .i64 (List.getD x2661 7 (0 : Int))), .lit (.int .i64 (List.getD x2661 8 (0 : Int))), .lit (.int .i64 (List.getD x2661 9 (0 : Int))), .lit (.int .i64 (List.getD x2661 10 (0 : Int))), .lit (.int .i64 (List.getD x2661 11 (0 : Int))), .lit (.int .i64 (List.getD x2661 12 (0 : Int))), .lit (.int .i64 (List.getD x2661 13 (0 : Int))), .lit (.int .i64 (List.getD x2661 14 (0 : Int))), .lit (.int .i64 (List.getD x2661 15 (0 : Int))), .whole 2])).push (.cells 52 [.ro (Rd.slice (Rd.int .u8)) false x2885, .lit (.int .i64 x2886)])).push (.row 3 (Rd.int .i64) x2664)).push (.cells 52 [.ro (Rd.slice (Rd.int .u8)) false x2662, .lit (.int .i64 x2663)])) _
   refine WP.seq ?_
   refine WP.seq ?_
   refine WP.region ?_
   refine WPL.q (q_mv (v := .lit (.int _ _)) rfl) rfl ?_
   refine WPL.q (q_leq rfl rfl) rfl ?_
   refine WPL.nilW ?_
   refine W.now ?_
   refine Then.n ?_
   refine WP.cond (t := (decide (x2884 ≤ 15))) rfl (fun hb2953 => ?_) (fun hb2953 => ?_)
   · replace H := cnt hb2953 H
     refine WP.skipW ?_
     refine W.now ?_
     refine Then.n ?_
     refine WP.seq ?_
     refine WP.block ?_
     refine WP.seq ?_
     refine WP.seq ?_
     refine WP.region ?_
     refine WPL.q (q_mv (v := .lit (.int _ _)) rfl) rfl ?_
     refine WPL.q (q_mv (v := .ptr _ _) rfl) rfl ?_
     refine WPL.q (q_nilCheck rfl) rfl ?_
     refine WPL.q (q_fieldAddr fi82_1 rfl rfl) rfl ?_
     refine WPL.q (q_load sc25 rfl rfl rfl) rfl ?_
     refine WPL.q (q_len_row sl25 rfl rfl) rfl ?_
     obtain ⟨x2986, h2986, H⟩ := bnd H
     refine WPL.q (q_nm (q_eql rfl rfl) (nm_bool h2986)) rfl ?_
     refine WPL.nilW ?_
     refine W.now ?_
     refine Then.n ?_
     refine WP.cond (t := x2986) rfl (fun hb2986 => ?_) (fun hb2986 => ?_)
     · replace H := cnt hb2986 H
       refine WP.exitW ?_
       have q0 := Option.some.inj H
       subst q0
       exact W.wk [0, 1, 2, 3] hnp (Then.x (InBlock.x rfl (Then.x (Then.x ⟨rfl, rfl, rfl⟩)))) ⟨rfl, ⟨⟨⟨⟨trivial, .inr ⟨rfl, rfl, rfl⟩⟩, .inr ⟨rfl, rfl, rfl⟩⟩, .inr ⟨rfl, rfl, rfl⟩⟩, .inr ⟨rfl, rfl, rfl⟩⟩, by decide, rfl, ⟨⟨trivial, rfl⟩, rfl⟩⟩ (LeE.upd rfl rfl (LeE.upd rfl rfl (LeE.upd rfl rfl (LeE.none rfl rfl)))) rfl
     replace H := cnf hb2986 H
     refine WP.skipW ?_
     refine W.now ?_
     refine Then.n ?_
     refine WP.seq ?_
     refine WP.region ?_
     refine WPL.q (q_mv (v := .ptr _ _) rfl) rfl ?_
     obtain ⟨⟨x2989, x2990, x2991, x2992⟩, h2987, H⟩ := bnd H
     refine WPL.c (runs_call (s := [1]) (t := [1]) (N := 4) (bor := []) fn32 rfl (s_bits_Reader_Take k 1 x2885 x2886 x2989 x2990 x2991 x2992 h2987) ⟨rfl, ⟨trivial, .inr ⟨rfl, rfl, rfl⟩⟩, by decide, rfl, trivial⟩ rfl trivial (.ren rfl rfl (.ren rfl rfl .nil)) rfl ⟨trivial, rfl⟩ rfl) rfl ?_
     refine WPL.q (q_mv (v := .tup _) rfl) rfl ?_
     refine WPL.q (q_extract rfl rfl) rfl ?_
     refine WPL.q (q_extract rfl rfl) rfl ?_
     refine WPL.q (q_as (v := .lit (.int _ _)) rfl) rfl ?_
     refine WPL.q (q_as (v := .lit (.int _ _)) rfl) rfl ?_
     refine WPL.nilW ?_
     refine W.now ?_
     refine Then.n ?_
     refine WP.seq ?_
     refine WP.seq ?_
     refine WP.region ?_
     refine WPL.q (q_mv (v := .lit (.int _ _)) rfl) rfl ?_
     refine WPL.q (q_neq rfl rfl) rfl ?_
     refine WPL.nilW ?_
     refine W.now ?_
     refine Then.n ?_
     refine WP.cond (t := (!decide (x2990 = 0))) rfl (fun hb2993 => ?_) (fun hb2993 => ?_)
     · replace H := cnt hb2993 H
       refine WP.seq ?_
       refine WP.region ?_
       refine WPL.q (q_mv (v := .lit (.int _ _)) rfl) rfl ?_
       refine WPL.q (q_as (v := .lit (.int _ _)) rfl) rfl ?_
       refine WPL.nilW ?_
       refine W.now ?_
       refine Then.n ?_
       refine WP.exitW ?_
       have q0 := Option.some.inj H
       subst q0
       exact W.wk [0, 1, 2, 3] hnp (Then.x (InBlock.x rfl (Then.x (Then.x ⟨rfl, rfl, rfl⟩)))) ⟨rfl, ⟨⟨⟨⟨trivial, .inr ⟨rfl, rfl, rfl⟩⟩, .inr ⟨rfl, rfl, rfl⟩⟩, .inr ⟨rfl, rfl, rfl⟩⟩, .inr ⟨rfl, rfl, rfl⟩⟩, by decide, rfl, ⟨⟨trivial, rfl⟩, rfl⟩⟩ (LeE.upd rfl rfl (LeE.upd rfl rfl (LeE.upd rfl rfl (LeE.none rfl rfl)))) rfl
     replace H := cnf hb2993 H
     refine WP.skipW ?_
     refine W.now ?_
     refine Then.n ?_
     refine WP.seq ?_
     refine WP.region ?_
     refine WPL.q (q_mv (v := .lit (.int _ _)) rfl) rfl ?_
     refine WPL.q (q_shl rfl rfl rfl) rfl ?_
     refine WPL.q (q_mv (v := .lit (.int _ _)) rfl) rfl ?_
     refine WPL.q (q_conv Try.underlying57 Try.underlying3 rfl) rfl ?_
     obtain ⟨x2995, h2995, H⟩ := bnd H
     refine WPL.q (q_nm (q_or rfl rfl) (nm_int h2995)) rfl ?_
     refine WPL.q (q_as (v := .lit (.int _ _)) rfl) rfl ?_
     refine WPL.nilW ?_
     refine W.now ?_
     refine Then.n ?_
     refine WP.seq ?_
     refine WP.region ?_
     refine WPL.q (q_mv (v := .lit (.int _ _)) rfl) rfl ?_
     refine WPL.q (q_shl rfl rfl rfl) rfl ?_
     refine WPL.q (q_as (v := .lit (.int _ _)) rfl) rfl ?_
     refine WPL.nilW ?_
     refine W.now ?_
     refine Then.n ?_
     refine WP.seq ?_
     refine WP.seq ?_
     refine WP.region ?_
     refine WPL.q (q_mv (v := .lit (.int _ _)) rfl) rfl ?_
     refine WPL.q (q_mv (v := .lit (.int _ _)) rfl) rfl ?_
     obtain ⟨x3001, h3001, H⟩ := bnd H
     refine WPL.q (q_nm (q_sub rfl rfl) (nm_int h3001)) rfl ?_
     refine WPL.q (q_as (v := .lit (.int _ _)) rfl) rfl ?_
     refine WPL.nilW ?_
     refine W.now ?_
     refine Then.n ?_
     refine WP.seq ?_
     refine WP.region ?_
     refine WPL.q (q_mv (v := .lit (.int _ _)) rfl) rfl ?_
     refine WPL.q (q_mv (v := .ptr _ _) rfl) rfl ?_
     refine WPL.q (q_mv (v := .lit (.int _ _)) rfl) rfl ?_
     refine WPL.q (q_nilCheck rfl) rfl ?_
     refine WPL.q (q_fieldAddr fi82_0 rfl rfl) rfl ?_
     obtain ⟨h3001, H⟩ := grd H
     refine WPL.q (q_indexArr ar80 rfl rfl h3001 rfl) rfl ?_
     refine WPL.q (q_load_arr (f := (fun z : Int => AVal.lit (.int .i64 z))) (d0 := (0 : Int)) (xs := x2661) (n := 16) (off := 0) (j := (Int.toNat x2884)) sc3 rfl rfl rfl (natlt h3001) (addone _ _)) rfl ?_
     obtain ⟨x3003, h3003, H⟩ := bnd H
     refine WPL.q (q_nm (q_lss rfl rfl) (nm_bool h3003)) rfl ?_
     refine WPL.nilW ?_
     refine W.now ?_
     refine Then.n ?_
     refine WP.cond (t := x3003) rfl (fun hb3003 => ?_) (fun hb3003 => ?_)
     · replace H := cnt hb3003 H
       refine WP.seq ?_
       refine WP.region ?_
       refine WPL.q (q_mv (v := .ptr _ _) rfl) rfl ?_
       refine WPL.q (q_nilCheck rfl) rfl ?_
       refine WPL.q (q_fieldAddr fi82_1 rfl rfl) rfl ?_
       refine WPL.q (q_load sc25 rfl rfl rfl) rfl ?_
       refine WPL.q (q_mv (v := .lit (.int _ _)) rfl) rfl ?_
       refine WPL.q (q_mv (v := .lit (.int _ _)) rfl) rfl ?_
       refine WPL.q (q_add rfl rfl) rfl ?_
       obtain ⟨x3005, h3005, H⟩ := bnd H
       refine WPL.q (q_index_row sl25 rfl rfl rfl (ixs h3005)) rfl ?_
       refine WPL.q (q_load_row (j := (Int.toNat (IntKind.wrap .i64 (x2883 + x3001)))) sc3 rfl rfl (ixj h3005)) rfl ?_
       refine WPL.q (q_as (v := .lit (.int _ _)) rfl) rfl ?_
       refine WPL.q (q_as (v := .lit (.int _ _)) rfl) rfl ?_
       refine WPL.nilW ?_
       refine W.now ?_
       refine Then.n ?_
       refine WP.retW ?_
       have q0 := Option.some.inj H
       subst q0
       exact W.wk [0, 1, 2] hnp (Then.r (InBlock.r (Then.r (Then.r ⟨rfl, rfl, rfl⟩)))) ⟨rfl, ⟨⟨⟨trivial, .inr ⟨rfl, rfl, rfl⟩⟩, .inr ⟨rfl, rfl, rfl⟩⟩, .inr ⟨rfl, rfl, rfl⟩⟩, by decide, rfl, ⟨⟨trivial, rfl⟩, rfl⟩⟩ (LeE.upd rfl rfl (LeE.upd rfl rfl (LeE.none rfl rfl))) rfl
     replace H := cnf hb3003 H
     refine WP.skipW ?_
     refine W.now ?_
     refine Then.n ?_
     refine WP.seq ?_
     refine WP.region ?_
     refine WPL.q (q_mv (v := .lit (.int _ _)) rfl) rfl ?_
     refine WPL.q (q_mv (v := .ptr _ _) rfl) rfl ?_
     refine WPL.q (q_mv (v := .lit (.int _ _)) rfl) rfl ?_
     refine WPL.q (q_nilCheck rfl) rfl ?_
     refine WPL.q (q_fieldAddr fi82_0 rfl rfl) rfl ?_
     obtain ⟨h3005, H⟩ := grd H
     refine WPL.q (q_indexArr ar80 rfl rfl h3005 rfl) rfl ?_
     refine WPL.q (q_load_arr (f := (fun z : Int => AVal.lit (.int .i64 z))) (d0 := (0 : Int)) (xs := x2661) (n := 16) (off := 0) (j := (Int.toNat x2884)) sc3 rfl rfl rfl (natlt h3005) (addone _ _)) rfl ?_
     obtain ⟨x3007, h3007, H⟩ := bnd H
     refine WPL.q (q_nm (q_add rfl rfl) (nm_int h3007)) rfl ?_
     refine WPL.q (q_as (v := .lit (.int _ _)) rfl) rfl ?_
     refine WPL.nilW ?_
     refine W.now ?_
     refine Then.n ?_
     refine WP.seq ?_
     refine WP.region ?_
     refine WPL.q (q_mv (v := .lit (.int _ _)) rfl) rfl ?_
     refine WPL.q (q_mv (v := .ptr _ _) rfl) rfl ?_
     refine WPL.q (q_mv (v := .lit (.int _ _)) rfl) rfl ?_
     refine WPL.q (q_nilCheck rfl) rfl ?_
     refine WPL.q (q_fieldAddr fi82_0 rfl rfl) rfl ?_
     obtain ⟨h3007, H⟩ := grd H
     refine WPL.q (q_indexArr ar80 rfl rfl h3007 rfl) rfl ?_
     refine WPL.q (q_load_arr (f := (fun z : Int => AVal.lit (.int .i64 z))) (d0 := (0 : Int)) (xs := x2661) (n := 16) (off := 0) (j := (Int.toNat x2884)) sc3 rfl rfl rfl (natlt h3007) (addone _ _)) rfl ?_
     obtain ⟨x3009, h3009, H⟩ := bnd H
     refine WPL.q (q_nm (q_add rfl rfl) (nm_int h3009)) rfl ?_
     refine WPL.q (q_as (v := .lit (.int _ _)) rfl) rfl ?_
     refine WPL.nilW ?_
     refine W.now ?_
     refine Then.n ?_
     refine WP.seq ?_
     refine WP.region ?_
     refine WPL.q (q_mv (v := .ptr _ _) rfl) rfl ?_
     refine WPL.q (q_mv (v := .lit (.int _ _)) rfl) rfl ?_
     refine WPL.q (q_mv (v := .lit (.int _ _)) rfl) rfl ?_
     refine WPL.q (q_sub rfl rfl) rfl ?_
     refine WPL.q (q_mv (v := .lit (.int _ _)) rfl) rfl ?_
     refine WPL.q (q_add rfl rfl) rfl ?_
     obtain ⟨x3011, h3009, H⟩ := bnd H
     refine WPL.c (runs_call (s := [0, 2]) (t := [0, 4]) (N := 5) (bor := []) fn48 rfl (s_huff_Decoder_begins k (IntKind.wrap .i64 (x2995 - x3007)) (IntKind.wrap .i64 (x2884 + 1)) x2661 x2664 x3011 h3009) ⟨rfl, ⟨⟨trivial, .inr ⟨rfl, rfl, rfl⟩⟩, .inr ⟨rfl, rfl, rfl⟩⟩, by decide, rfl, trivial⟩ rfl trivial (.ren rfl rfl (.ren rfl rfl (.ren rfl rfl .nil))) rfl ⟨⟨trivial, rfl⟩, rfl⟩ rfl) rfl ?_
     refine WPL.q (q_not rfl) rfl ?_
     refine WPL.nilW ?_
     refine W.now ?_
     refine Then.n ?_
     refine WP.cond (t := (!x3011)) rfl (fun hb3011 => ?_) (fun hb3011 => ?_)
     · replace H := cnt hb3011 H
       refine WP.exitW ?_
       have q0 := Option.some.inj H
       subst q0
       exact W.wk [0, 1, 4, 3] hnp (InBlock.x rfl (Then.x (Then.x ⟨rfl, rfl, rfl⟩))) ⟨rfl, ⟨⟨⟨⟨trivial, .inr ⟨rfl, rfl, rfl⟩⟩, .inr ⟨rfl, rfl, rfl⟩⟩, .inr ⟨rfl, rfl, rfl⟩⟩, .inr ⟨rfl, rfl, rfl⟩⟩, by decide, rfl, ⟨⟨trivial, rfl⟩, rfl⟩⟩ (LeE.upd rfl rfl (LeE.upd rfl rfl (LeE.upd rfl rfl (LeE.none rfl rfl)))) rfl
     replace H := cnf hb3011 H
     refine WP.skipW ?_
     refine W.now ?_
     refine InBlock.n ?_
     refine Then.n ?_
     refine WP.region ?_
     refine WPL.q (q_mv (v := .lit (.int _ _)) rfl) rfl ?_
     refine WPL.q (q_add rfl rfl) rfl ?_
     refine WPL.q (q_as (v := .lit (.int _ _)) rfl) rfl ?_
     refine WPL.nilW ?_
     exact W.wk [0, 1, 4, 3] hnp (Then.n ⟨n, (x2995, x3007, x3009, (IntKind.wrap .i64 (x2884 + 1)), x2991, x2992), Nat.lt_succ_self n, H, rfl, rfl⟩) ⟨rfl, ⟨⟨⟨⟨trivial, .inr ⟨rfl, rfl, rfl⟩⟩, .inr ⟨rfl, rfl, rfl⟩⟩, .inr ⟨rfl, rfl, rfl⟩⟩, .inr ⟨rfl, rfl, rfl⟩⟩, by decide, rfl, ⟨⟨trivial, rfl⟩, rfl⟩⟩ (LeE.upd rfl rfl (LeE.upd rfl rfl (LeE.upd rfl rfl (LeE.upd rfl rfl (LeE.upd rfl rfl (LeE.upd rfl rfl (LeE.upd rfl rfl (LeE.upd rfl rfl (LeE.none rfl rfl))))))))) rfl
   replace H := cnf hb2953 H
   refine WP.exitW ?_
   have q0 := Option.some.inj H
   subst q0
   exact W.wk [0, 1, 2, 3] hnp (Then.x (Then.x ⟨rfl, rfl, rfl⟩)) ⟨rfl, ⟨⟨⟨⟨trivial, .inr ⟨rfl, rfl, rfl⟩⟩, .inr ⟨rfl, rfl, rfl⟩⟩, .inr ⟨rfl, rfl, rfl⟩⟩, .inr ⟨rfl, rfl, rfl⟩⟩, by decide, rfl, ⟨⟨trivial, rfl⟩, rfl⟩⟩ (LeE.upd rfl rfl (LeE.upd rfl rfl (LeE.upd rfl rfl (LeE.none rfl rfl)))) rfl
 rcases y3014 with ⟨x2947, x2948, x2949⟩ | ⟨x2950, x2951, x2952⟩
 · rintro _ _ _ ⟨rfl, rfl, rfl⟩
   refine W.now ?_
   refine InBlock.x0 ?_
   refine Then.n ?_
   refine WP.seq ?_
   refine WP.region ?_
   refine WPL.q (q_mv (v := .ptr _ _) rfl) rfl ?_
   refine WPL.q (q_load_ag ag52 rfl rfl (Nat.le_of_ble_eq_true rfl)) rfl ?_
   refine WPL.q (q_nilCheck rfl) rfl ?_
   refine WPL.s (s_store sz52 rfl rfl rfl rfl rfl) ?_
   refine WPL.nilW ?_
   refine W.now ?_
   refine Then.n ?_
   refine WP.seq ?_
   refine WP.region ?_
   refine WPL.q (q_mv (v := .lit (.int _ _)) rfl) rfl ?_
   refine WPL.q (q_as (v := .lit (.int _ _)) rfl) rfl ?_
   refine WPL.q (q_as (v := .lit (.int _ _)) rfl) rfl ?_
   refine WPL.nilW ?_
   refine W.now ?_
   refine Then.n ?_
   refine WP.retW ?_
   have q0 := (Prod.mk.inj (Option.some.inj H)).1
   have q1 := (Prod.mk.inj (Prod.mk.inj (Option.some.inj H)).2).1
   have q2 := (Prod.mk.inj (Prod.mk.inj (Prod.mk.inj (Option.some.inj H)).2).2).1
   have q3 := (Prod.mk.inj (Prod.mk.inj (Prod.mk.inj (Option.some.inj H)).2).2).2
   subst q0
   subst q1
   subst q2
   subst q3
   exact W.now (Scope.r (BodyR.mkR trivial rfl [0, 1, 2] ⟨rfl, rfl⟩ ⟨rfl, ⟨⟨⟨trivial, .inr ⟨rfl, rfl, rfl⟩⟩, .inr ⟨rfl, rfl, rfl⟩⟩, .inr ⟨rfl, rfl, rfl⟩⟩, by decide, rfl, ⟨⟨trivial, rfl⟩, rfl⟩⟩ rfl rfl))
 rintro _ _ _ ⟨rfl, rfl, rfl⟩
 have q0 := (Prod.mk.inj (Option.some.inj H)).1
 have q1 := (Prod.mk.inj (Prod.mk.inj (Option.some.inj H)).2).1
 have q2 := (Prod.mk.inj (Prod.mk.inj (Prod.mk.inj (Option.some.inj H)).2).2).1
 have q3 := (Prod.mk.inj (Prod.mk.inj (Prod.mk.inj (Option.some.inj H)).2).2).2
 subst q0
 subst q1
 subst q2
 subst q3
 exact W.now (InBlock.r (Then.r (Scope.r (BodyR.mkR trivial rfl [0, 1, 2] ⟨rfl, rfl⟩ ⟨rfl, ⟨⟨⟨trivial, .inr ⟨rfl, rfl, rfl⟩⟩, .inr ⟨rfl, rfl, rfl⟩⟩, .inr ⟨rfl, rfl, rfl⟩⟩, by decide, rfl, ⟨⟨trivial, rfl⟩, rfl⟩⟩ rfl rfl))))
end Go.Proofs.Ytpceecokdpdgfaa.W
