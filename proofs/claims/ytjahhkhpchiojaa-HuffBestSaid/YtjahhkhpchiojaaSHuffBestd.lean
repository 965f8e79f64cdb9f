/- Texts joined: part 4 of what LHuffBest stands on. -/
import Derived.Test.YtjahhkhpchiojaaSHuffBestc
namespace Go.Proofs.Ytjahhkhpchiojaa.W
open Go Go.Q Go.Proofs
set_option linter.unusedVariables false
set_option linter.unusedSimpArgs false
set_option maxRecDepth 100000 in
set_option maxHeartbeats 4000000 in
theorem s_huff_judged (k : Nat) (x3549 : (List Int)) (x3648 : Bool) (x3649 : Int) (H : g_huff_judged k x3549 = some (x3648, x3649)) : Go.Q.Spec Try.prog 20 0 [.ro (Rd.slice (Rd.int .i64)) true x3549] Mem.nil (fun o M => o = .ret (.tup [.lit (.bool x3648), .lit (.int .i64 x3649)]) ∧ M = Mem.nil) := by
 unfold g_huff_judged at H
 refine Go.Q.Spec.of_bodyR (az := []) (rs := [.tmp 2, .tmp 3]) (nt := 45) Try.func20 rfl rfl (by intro t T h; simp at h) rfl rfl fun cx hnp => ?_
 refine WP.seq ?_
 refine WP.region ?_
 refine WPL.q (q_as (v := .lit (.bool _)) rfl) rfl ?_
 refine WPL.q (q_as (v := .lit (.int _ _)) rfl) rfl ?_
 refine WPL.nilW ?_
 refine W.now ?_
 refine Then.n ?_
 refine WP.seq ?_
 refine WP.seq ?_
 refine WP.region ?_
 refine WPL.q (q_mv (v := .ro _ _ _) rfl) rfl ?_
 refine WPL.q (q_len_ro sl22 rfl) rfl ?_
 obtain ⟨x3652, h3652, H⟩ := bnd H
 refine WPL.q (q_nm (q_gtr rfl rfl) (nm_bool h3652)) rfl ?_
 refine WPL.nilW ?_
 refine W.now ?_
 refine Then.n ?_
 refine WP.cond (t := x3652) rfl (fun hb3652 => ?_) (fun hb3652 => ?_)
 · replace H := cnt hb3652 H
   refine WP.seq ?_
   refine WP.region ?_
   refine WPL.q (q_as (v := .lit (.bool _)) rfl) rfl ?_
   refine WPL.q (q_as (v := .lit (.int _ _)) rfl) rfl ?_
   refine WPL.nilW ?_
   refine W.now ?_
   refine Then.n ?_
   refine WP.retW ?_
   have q0 := (Prod.mk.inj (Option.some.inj H)).1
   have q1 := (Prod.mk.inj (Option.some.inj H)).2
   subst q0
   subst q1
   exact W.now (Then.r (BodyR.mkR trivial rfl [] ⟨rfl, rfl⟩ ⟨rfl, trivial, by decide, rfl, trivial⟩ rfl rfl))
 replace H := cnf hb3652 H
 refine WP.skipW ?_
 refine W.now ?_
 refine Then.n ?_
 refine WP.seq ?_
 refine WP.region ?_
 refine WPL.q (q_as (v := .lit (.int _ _)) rfl) rfl ?_
 refine WPL.q (q_as (v := .lit (.int _ _)) rfl) rfl ?_
 refine WPL.nilW ?_
 refine W.now ?_
 refine Then.n ?_
 refine WP.seq ?_
 refine WP.seq ?_
 refine WP.region ?_
 refine WPL.q (q_mv (v := .ro _ _ _) rfl) rfl ?_
 refine WPL.q (q_len_ro sl22 rfl) rfl ?_
 refine WPL.q (q_mv (v := .lit (.int _ _)) rfl) rfl ?_
 refine WPL.nilW ?_
 refine W.now ?_
 refine Then.n ?_
 refine WP.block ?_
 refine WP.cv (Cv.weak (E' := (((((Env.none.upd 4 (.lit (.int .i64 32768))).upd 5 (.lit (.int .i64 0))).upd 11 (.ro (Rd.slice (Rd.int .i64)) true x3549)).upd 12 (.lit (.int .i64 ((List.length x3549 : Nat) : Int)))).upd 13 (.lit (.int .i64 0)))) (M' := Mem.nil) [] hnp ⟨rfl, trivial, by decide, rfl, trivial⟩ (LeE.upd rfl rfl (LeE.upd rfl rfl (LeE.upd rfl rfl (LeE.upd rfl rfl (LeE.upd rfl rfl (LeE.none rfl rfl))))))) ?_
 obtain ⟨y3765, H3763, H⟩ := bnd H
 refine WP.monoW (Q := fun x E M => match (generalizing := false) y3765 with | (Sum.inl _) => x = .ret ∧ E = ((Env.none.upd 2 (.lit (.bool false))).upd 3 (.lit (.int .i64 1))) ∧ M = Mem.nil | (Sum.inr (x3727, x3728)) => x = .exit 0 ∧ E = ((Env.none.upd 4 (.lit (.int .i64 x3727))).upd 5 (.lit (.int .i64 x3728))) ∧ M = Mem.nil) ?_ ?_
 · refine WP.loop (β := Int × Int × Int) (fun n b => g_huff_judged_l0 k x3549 n b.1 b.2.1 b.2.2 = some y3765) (fun b => (((((Env.none.upd 4 (.lit (.int .i64 b.1))).upd 5 (.lit (.int .i64 b.2.1))).upd 11 (.ro (Rd.slice (Rd.int .i64)) true x3549)).upd 12 (.lit (.int .i64 ((List.length x3549 : Nat) : Int)))).upd 13 (.lit (.int .i64 b.2.2)))) (fun b => Mem.nil) k (32768, 0, 0) H3763 rfl rfl ?_
   rintro n ⟨x3689, x3690, x3691⟩ H
   obtain _ | n := n
   · exact nf rfl H
   rw [g_huff_judged_l0.eq_2] at H
   show WP _ _ _ _ (((((Env.none.upd 4 (.lit (.int .i64 x3689))).upd 5 (.lit (.int .i64 x3690))).upd 11 (.ro (Rd.slice (Rd.int .i64)) true x3549)).upd 12 (.lit (.int .i64 ((List.length x3549 : Nat) : Int)))).upd 13 (.lit (.int .i64 x3691))) Mem.nil _
   refine WP.seq ?_
   refine WP.region ?_
   obtain ⟨x3729, h3729, H⟩ := bnd H
   refine WPL.q (q_nm (q_lss rfl rfl) (nm_bool h3729)) rfl ?_
   refine WPL.nilW ?_
   refine W.now ?_
   refine Then.n ?_
   refine WP.seq ?_
   refine WP.cond (t := x3729) rfl (fun hb3730 => ?_) (fun hb3730 => ?_)
   · replace H := cnt hb3730 H
     refine WP.skipW ?_
     refine W.now ?_
     refine Then.n ?_
     refine WP.seq ?_
     obtain ⟨y3763, H3761, H⟩ := bnd H
     refine WP.monoW (Q := fun x E M => match (generalizing := false) y3763 with | (Sum.inl _) => x = .ret ∧ E = ((Env.none.upd 2 (.lit (.bool false))).upd 3 (.lit (.int .i64 1))) ∧ M = Mem.nil | (Sum.inr (x3746, x3747)) => x = .normal ∧ E = (((((Env.none.upd 4 (.lit (.int .i64 x3746))).upd 5 (.lit (.int .i64 x3747))).upd 11 (.ro (Rd.slice (Rd.int .i64)) true x3549)).upd 12 (.lit (.int .i64 ((List.length x3549 : Nat) : Int)))).upd 13 (.lit (.int .i64 x3691))) ∧ M = Mem.nil) ?_ ?_
     · clear H
       have H := H3761
       clear H3761
       refine WP.block ?_
       refine WP.seq ?_
       refine WP.region ?_
       obtain ⟨x3748, h3748, H⟩ := bnd H
       refine WPL.q (q_index_ro sl22 rfl rfl rfl h3748) rfl ?_
       refine WPL.q (q_load_sc sc3 rfl) rfl ?_
       refine WPL.q (q_as (v := .lit (.int _ _)) rfl) rfl ?_
       refine WPL.nilW ?_
       refine W.now ?_
       refine Then.n ?_
       refine WP.seq ?_
       refine WP.seq ?_
       obtain ⟨x3755, H3756, H⟩ := bnd H
       refine WP.monoW (Q := fun x E M => x = .normal ∧ E = (((((((Env.none.upd 4 (.lit (.int .i64 x3689))).upd 5 (.lit (.int .i64 x3690))).upd 7 (.lit (.int .i64 x3748))).upd 11 (.ro (Rd.slice (Rd.int .i64)) true x3549)).upd 12 (.lit (.int .i64 ((List.length x3549 : Nat) : Int)))).upd 13 (.lit (.int .i64 x3691))).upd 22 (.lit (.bool x3755))) ∧ M = Mem.nil) ?_ ?_
       · clear H
         have H := H3756
         clear H3756
         refine WP.region ?_
         refine WPL.q (q_mv (v := .lit (.int _ _)) rfl) rfl ?_
         refine WPL.q (q_lss rfl rfl) rfl ?_
         refine WPL.q (q_mv (v := .lit (.bool _)) rfl) rfl ?_
         refine WPL.split (t := 19) (b := (decide (x3748 < 0))) rfl (fun hb3755 => ?_) (fun hb3755 => ?_)
         · replace H := cnt hb3755 H
           refine WPL.skipg (b' := true) rfl rfl (lb hb3755) rfl rfl (.inl trivial) ?_
           refine WPL.skipg (b' := true) rfl rfl (lb hb3755) rfl rfl (.inl trivial) ?_
           refine WPL.q (q_pickT (v := .lit (.bool _)) (lb hb3755) rfl) rfl ?_
           refine WPL.nilW ?_
           have q0 := (Option.some.inj H)
           subst q0
           exact W.wk [] hnp ⟨rfl, rfl, rfl⟩ ⟨rfl, trivial, by decide, rfl, trivial⟩ (LeE.upd rfl rfl (LeE.upd rfl rfl (LeE.upd rfl rfl (LeE.upd rfl rfl (LeE.upd rfl rfl (LeE.upd rfl rfl (LeE.upd rfl rfl (LeE.none rfl rfl)))))))) rfl
         replace H := cnf hb3755 H
         refine WPL.qg rfl rfl (lb hb3755) (q_mv (v := .lit (.int _ _)) rfl) rfl ?_
         refine WPL.qg rfl rfl (lb hb3755) (q_gtr rfl rfl) rfl ?_
         refine WPL.q (q_pickF (v := .lit (.bool _)) (lb hb3755) rfl) rfl ?_
         refine WPL.nilW ?_
         have q0 := (Option.some.inj H)
         subst q0
         exact W.wk [] hnp ⟨rfl, rfl, rfl⟩ ⟨rfl, trivial, by decide, rfl, trivial⟩ (LeE.upd rfl rfl (LeE.upd rfl rfl (LeE.upd rfl rfl (LeE.upd rfl rfl (LeE.upd rfl rfl (LeE.upd rfl rfl (LeE.upd rfl rfl (LeE.none rfl rfl)))))))) rfl
       rintro _ _ _ ⟨rfl, rfl, rfl⟩
       refine W.now ?_
       refine Then.n ?_
       refine WP.cond (t := x3755) rfl (fun hb3757 => ?_) (fun hb3757 => ?_)
       · replace H := cnt hb3757 H
         refine WP.seq ?_
         refine WP.region ?_
         refine WPL.q (q_as (v := .lit (.bool _)) rfl) rfl ?_
         refine WPL.q (q_as (v := .lit (.int _ _)) rfl) rfl ?_
         refine WPL.nilW ?_
         refine W.now ?_
         refine Then.n ?_
         refine WP.retW ?_
         have q0 := Option.some.inj H
         subst q0
         exact W.wk [] hnp (Then.r (InBlock.r ⟨rfl, rfl, rfl⟩)) ⟨rfl, trivial, by decide, rfl, trivial⟩ (LeE.upd rfl rfl (LeE.upd rfl rfl (LeE.none rfl rfl))) rfl
       replace H := cnf hb3757 H
       refine WP.skipW ?_
       refine W.now ?_
       refine Then.n ?_
       refine WP.seq ?_
       refine WP.region ?_
       refine WPL.q (q_mv (v := .lit (.int _ _)) rfl) rfl ?_
       refine WPL.q (q_gtr rfl rfl) rfl ?_
       refine WPL.nilW ?_
       refine W.now ?_
       refine Then.n ?_
       refine WP.cond (t := (decide (0 < x3748))) rfl (fun hb3758 => ?_) (fun hb3758 => ?_)
       · replace H := cnt hb3758 H
         refine WP.seq ?_
         refine WP.region ?_
         refine WPL.q (q_mv (v := .lit (.int _ _)) rfl) rfl ?_
         refine WPL.q (q_mv (v := .lit (.int _ _)) rfl) rfl ?_
         refine WPL.q (q_sub rfl rfl) rfl ?_
         obtain ⟨h3759, H⟩ := grd H
         obtain ⟨x3761, h3761, H⟩ := bnd H
         refine WPL.q (q_nm (q_shl rfl rfl h3759) (nm_int h3761)) rfl ?_
         refine WPL.q (q_sub rfl rfl) rfl ?_
         refine WPL.q (q_as (v := .lit (.int _ _)) rfl) rfl ?_
         refine WPL.nilW ?_
         refine W.now ?_
         refine Then.n ?_
         refine WP.region ?_
         refine WPL.q (q_mv (v := .lit (.int _ _)) rfl) rfl ?_
         refine WPL.q (q_add rfl rfl) rfl ?_
         refine WPL.q (q_as (v := .lit (.int _ _)) rfl) rfl ?_
         refine WPL.nilW ?_
         have q0 := Option.some.inj H
         subst q0
         exact W.wk [] hnp (InBlock.n ⟨rfl, rfl, rfl⟩) ⟨rfl, trivial, by decide, rfl, trivial⟩ (LeE.upd rfl rfl (LeE.upd rfl rfl (LeE.upd rfl rfl (LeE.upd rfl rfl (LeE.upd rfl rfl (LeE.none rfl rfl)))))) rfl
       replace H := cnf hb3758 H
       refine WP.skipW ?_
       have q0 := Option.some.inj H
       subst q0
       exact W.wk [] hnp (InBlock.n ⟨rfl, rfl, rfl⟩) ⟨rfl, trivial, by decide, rfl, trivial⟩ (LeE.upd rfl rfl (LeE.upd rfl rfl (LeE.upd rfl rfl (LeE.upd rfl rfl (LeE.upd rfl rfl (LeE.none rfl rfl)))))) rfl
     rcases y3763 with _ | ⟨x3746, x3747⟩
     · rintro _ _ _ ⟨rfl, rfl, rfl⟩
       have q0 := Option.some.inj H
       subst q0
       exact W.wk [] hnp (Then.r (Then.r ⟨rfl, rfl, rfl⟩)) ⟨rfl, trivial, by decide, rfl, trivial⟩ (LeE.upd rfl rfl (LeE.upd rfl rfl (LeE.none rfl rfl))) rfl
     rintro _ _ _ ⟨rfl, rfl, rfl⟩
     refine W.now ?_
     refine Then.n ?_
     refine WP.region ?_
     refine WPL.q (q_add rfl rfl) rfl ?_
     refine WPL.q (q_mv (v := .lit (.int _ _)) rfl) rfl ?_
     refine WPL.nilW ?_
     exact W.wk [] hnp (Then.n ⟨n, (x3746, x3747, (IntKind.wrap .i64 (x3691 + 1))), Nat.lt_succ_self n, H, rfl, rfl⟩) ⟨rfl, trivial, by decide, rfl, trivial⟩ (LeE.upd rfl rfl (LeE.upd rfl rfl (LeE.upd rfl rfl (LeE.upd rfl rfl (LeE.upd rfl rfl (LeE.none rfl rfl)))))) rfl
   replace H := cnf hb3730 H
   refine WP.exitW ?_
   have q0 := Option.some.inj H
   subst q0
   exact W.wk [] hnp (Then.x (Then.x ⟨rfl, rfl, rfl⟩)) ⟨rfl, trivial, by decide, rfl, trivial⟩ (LeE.upd rfl rfl (LeE.upd rfl rfl (LeE.none rfl rfl))) rfl
 rcases y3765 with _ | ⟨x3727, x3728⟩
 · rintro _ _ _ ⟨rfl, rfl, rfl⟩
   have q0 := (Prod.mk.inj (Option.some.inj H)).1
   have q1 := (Prod.mk.inj (Option.some.inj H)).2
   subst q0
   subst q1
   exact W.now (InBlock.r (Then.r (BodyR.mkR trivial rfl [] ⟨rfl, rfl⟩ ⟨rfl, trivial, by decide, rfl, trivial⟩ rfl rfl)))
 rintro _ _ _ ⟨rfl, rfl, rfl⟩
 refine W.now ?_
 refine InBlock.x0 ?_
 refine Then.n ?_
 refine WP.seq ?_
 refine WP.block ?_
 refine WP.seq ?_
 refine WP.region ?_
 refine WPL.q (q_mv (v := .lit (.int _ _)) rfl) rfl ?_
 refine WPL.q (q_eql rfl rfl) rfl ?_
 refine WPL.q (q_as (v := .lit (.bool _)) rfl) rfl ?_
 refine WPL.nilW ?_
 refine W.now ?_
 refine Then.n ?_
 refine WP.cond (t := (decide (x3727 = 0))) rfl (fun hb3773 => ?_) (fun hb3773 => ?_)
 · replace H := cnt hb3773 H
   refine WP.seq ?_
   refine WP.region ?_
   refine WPL.q (q_as (v := .lit (.bool _)) rfl) rfl ?_
   refine WPL.q (q_as (v := .lit (.int _ _)) rfl) rfl ?_
   refine WPL.nilW ?_
   refine W.now ?_
   refine Then.n ?_
   refine WP.retW ?_
   have q0 := (Prod.mk.inj (Option.some.inj H)).1
   have q1 := (Prod.mk.inj (Option.some.inj H)).2
   subst q0
   subst q1
   exact W.now (InBlock.r (Then.r (BodyR.mkR trivial rfl [] ⟨rfl, rfl⟩ ⟨rfl, trivial, by decide, rfl, trivial⟩ rfl rfl)))
 replace H := cnf hb3773 H
 refine WP.seq ?_
 obtain ⟨x3777, H3779, H⟩ := bnd H
 refine WP.monoW (Q := fun x E M => x = .normal ∧ E = (Env.none.upd 36 (.lit (.bool x3777))) ∧ M = Mem.nil) ?_ ?_
 · clear H
   have H := H3779
   clear H3779
   refine WP.seq ?_
   refine WP.region ?_
   refine WPL.q (q_mv (v := .lit (.int _ _)) rfl) rfl ?_
   refine WPL.q (q_eql rfl rfl) rfl ?_
   refine WPL.q (q_as (v := .lit (.bool _)) rfl) rfl ?_
   refine WPL.nilW ?_
   refine W.now ?_
   refine Then.n ?_
   refine WP.cond (t := (decide (x3728 = 0))) rfl (fun hb3777 => ?_) (fun hb3777 => ?_)
   · replace H := cnt hb3777 H
     refine WP.skipW ?_
     have q0 := (Option.some.inj H)
     subst q0
     exact W.wk [] hnp ⟨rfl, rfl, rfl⟩ ⟨rfl, trivial, by decide, rfl, trivial⟩ (LeE.upd rfl rfl (LeE.none rfl rfl)) rfl
   replace H := cnf hb3777 H
   refine WP.region ?_
   refine WPL.q (q_mv (v := .lit (.int _ _)) rfl) rfl ?_
   refine WPL.q (q_eql rfl rfl) rfl ?_
   refine WPL.q (q_mv (v := .lit (.bool _)) rfl) rfl ?_
   refine WPL.split (t := 41) (b := (decide (x3728 = 1))) rfl (fun hb3778 => ?_) (fun hb3778 => ?_)
   · replace H := cnt hb3778 H
     refine WPL.qg rfl rfl (lb hb3778) (q_mv (v := .lit (.int _ _)) rfl) rfl ?_
     refine WPL.qg rfl rfl (lb hb3778) (q_eql rfl rfl) rfl ?_
     refine WPL.q (q_pickT (v := .lit (.bool _)) (lb hb3778) rfl) rfl ?_
     refine WPL.q (q_as (v := .lit (.bool _)) rfl) rfl ?_
     refine WPL.nilW ?_
     have q0 := (Option.some.inj H)
     subst q0
     exact W.wk [] hnp ⟨rfl, rfl, rfl⟩ ⟨rfl, trivial, by decide, rfl, trivial⟩ (LeE.upd rfl rfl (LeE.none rfl rfl)) rfl
   replace H := cnf hb3778 H
   refine WPL.skipg (b' := false) rfl rfl (lb hb3778) rfl rfl (.inl trivial) ?_
   refine WPL.skipg (b' := false) rfl rfl (lb hb3778) rfl rfl (.inl trivial) ?_
   refine WPL.q (q_pickF (v := .lit (.bool _)) (lb hb3778) rfl) rfl ?_
   refine WPL.q (q_as (v := .lit (.bool _)) rfl) rfl ?_
   refine WPL.nilW ?_
   have q0 := (Option.some.inj H)
   subst q0
   exact W.wk [] hnp ⟨rfl, rfl, rfl⟩ ⟨rfl, trivial, by decide, rfl, trivial⟩ (LeE.upd rfl rfl (LeE.none rfl rfl)) rfl
 rintro _ _ _ ⟨rfl, rfl, rfl⟩
 refine W.now ?_
 refine Then.n ?_
 refine WP.cond (t := x3777) rfl (fun hb3780 => ?_) (fun hb3780 => ?_)
 · replace H := cnt hb3780 H
   refine WP.seq ?_
   refine WP.region ?_
   refine WPL.q (q_as (v := .lit (.bool _)) rfl) rfl ?_
   refine WPL.q (q_as (v := .lit (.int _ _)) rfl) rfl ?_
   refine WPL.nilW ?_
   refine W.now ?_
   refine Then.n ?_
   refine WP.retW ?_
   have q0 := (Prod.mk.inj (Option.some.inj H)).1
   have q1 := (Prod.mk.inj (Option.some.inj H)).2
   subst q0
   subst q1
   exact W.now (InBlock.r (Then.r (BodyR.mkR trivial rfl [] ⟨rfl, rfl⟩ ⟨rfl, trivial, by decide, rfl, trivial⟩ rfl rfl)))
 replace H := cnf hb3780 H
 refine WP.skipW ?_
 refine W.now ?_
 refine InBlock.n ?_
 refine Then.n ?_
 refine WP.seq ?_
 refine WP.region ?_
 refine WPL.q (q_as (v := .lit (.bool _)) rfl) rfl ?_
 refine WPL.q (q_as (v := .lit (.int _ _)) rfl) rfl ?_
 refine WPL.nilW ?_
 refine W.now ?_
 refine Then.n ?_
 refine WP.retW ?_
 have q0 := (Prod.mk.inj (Option.some.inj H)).1
 have q1 := (Prod.mk.inj (Option.some.inj H)).2
 subst q0
 subst q1
 exact W.now (BodyR.mkR trivial rfl [] ⟨rfl, rfl⟩ ⟨rfl, trivial, by decide, rfl, trivial⟩ rfl rfl)
set_option maxRecDepth 100000 in
set_option maxHeartbeats 4000000 in
theorem s_huff_of (k : Nat) (x3791 : (List Int)) (x3792 : Int) (H : g_huff_of k x3791 x3792 = some ()) : Go.Q.Spec Try.prog 21 0 [.ro (Rd.slice (Rd.int .i64)) true x3791, .lit (.int .i64 x3792)] Mem.nil (fun o M => o = .ret (.fn 24 [.ptr 0 0, .ptr 1 0]) ∧ M = ((Mem.nil.push (.cells 22 [.ro (Rd.slice (Rd.int .i64)) true x3791])).push (.cells 3 [.lit (.int .i64 x3792)]))) := by
 unfold g_huff_of at H
 refine Go.Q.Spec.of_bodyR (az := []) (rs := [.tmp 4]) (nt := 6) Try.func21 rfl rfl (by intro t T h; simp at h) rfl rfl fun cx hnp => ?_
 refine WP.seq ?_
 refine WP.region ?_
 refine WPL.d (d_box rfl rfl) rfl ?_
 refine WPL.d (d_box rfl rfl) rfl ?_
 refine WPL.q (q_as (v := .lit _) rfl) rfl ?_
 refine WPL.nilW ?_
 refine W.now ?_
 refine Then.n ?_
 refine WP.seq ?_
 refine WP.region ?_
 refine WPL.q (q_makeFunc) rfl ?_
 refine WPL.q (q_as (v := .fn _ _) rfl) rfl ?_
 refine WPL.nilW ?_
 refine W.now ?_
 refine Then.n ?_
 refine WP.retW ?_
 exact W.now (BodyR.mkR trivial rfl [0, 1] ⟨rfl, rfl⟩ ⟨rfl, ⟨⟨trivial, .inr ⟨rfl, rfl, rfl⟩⟩, .inr ⟨rfl, rfl, rfl⟩⟩, by decide, rfl, trivial⟩ rfl rfl)
set_option maxRecDepth 100000 in
set_option maxHeartbeats 4000000 in
theorem s_huff_Codes (k : Nat) (x3547 : (List Int)) (x4008 : (List Int)) (x4009 : Int) (H : g_huff_Codes k x3547 = some (x4008, x4009)) : Go.Q.Spec Try.prog 14 0 [.ro (Rd.slice (Rd.int .i64)) true x3547] Mem.nil (fun o M => o = .ret (.tup [.ro (Rd.slice (Rd.int .u32)) false x4008, .lit (.int .i64 x4009)]) ∧ M = Mem.nil) := by
 unfold g_huff_Codes at H
 refine Go.Q.Spec.of_bodyR (az := []) (rs := [.tmp 2, .tmp 3]) (nt := 38) Try.func14 rfl rfl (by intro t T h; simp at h) rfl rfl fun cx hnp => ?_
 refine WP.seq ?_
 refine WP.region ?_
 refine WPL.q (q_as (v := .lit _) rfl) rfl ?_
 refine WPL.q (q_as (v := .lit (.int _ _)) rfl) rfl ?_
 refine WPL.nilW ?_
 refine W.now ?_
 refine Then.n ?_
 refine WP.seq ?_
 refine WP.seq ?_
 refine WP.region ?_
 refine WPL.q (q_mv (v := .ro _ _ _) rfl) rfl ?_
 obtain ⟨⟨x4015, x4016⟩, h4013, H⟩ := bnd H
 refine WPL.c (runs_call (s := []) (t := []) (N := 0) (bor := []) fn20 rfl (s_huff_judged k x3547 x4015 x4016 h4013) ⟨rfl, trivial, by decide, rfl, trivial⟩ rfl trivial (.ren rfl rfl .nil) rfl trivial rfl) rfl ?_
 refine WPL.q (q_mv (v := .tup _) rfl) rfl ?_
 refine WPL.q (q_extract rfl rfl) rfl ?_
 refine WPL.q (q_extract rfl rfl) rfl ?_
 refine WPL.q (q_as (v := .lit (.bool _)) rfl) rfl ?_
 refine WPL.q (q_as (v := .lit (.int _ _)) rfl) rfl ?_
 refine WPL.nilW ?_
 refine W.now ?_
 refine Then.n ?_
 refine WP.seq ?_
 refine WP.region ?_
 refine WPL.q (q_mv (v := .lit (.int _ _)) rfl) rfl ?_
 refine WPL.q (q_neq rfl rfl) rfl ?_
 refine WPL.nilW ?_
 refine W.now ?_
 refine Then.n ?_
 refine WP.cond (t := (!decide (x4016 = 0))) rfl (fun hb4016 => ?_) (fun hb4016 => ?_)
 · replace H := cnt hb4016 H
   refine WP.seq ?_
   refine WP.region ?_
   refine WPL.q (q_mv (v := .lit (.int _ _)) rfl) rfl ?_
   refine WPL.q (q_as (v := .lit _) rfl) rfl ?_
   refine WPL.q (q_as (v := .lit (.int _ _)) rfl) rfl ?_
   refine WPL.nilW ?_
   refine W.now ?_
   refine Then.n ?_
   refine WP.retW ?_
   refine W.cv (Cv.nilRo (Rd.int .u32) false 2 rfl) rfl ?_
   have q0 := (Prod.mk.inj (Option.some.inj H)).1
   have q1 := (Prod.mk.inj (Option.some.inj H)).2
   subst q0
   subst q1
   exact W.now (Then.r (BodyR.mkR trivial rfl [] ⟨rfl, rfl⟩ ⟨rfl, trivial, by decide, rfl, trivial⟩ rfl rfl))
 replace H := cnf hb4016 H
 refine WP.skipW ?_
 refine W.now ?_
 refine Then.n ?_
 refine WP.seq ?_
 refine WP.region ?_
 refine WPL.q (q_mv (v := .ro _ _ _) rfl) rfl ?_
 refine WPL.q (q_len_ro sl22 rfl) rfl ?_
 obtain ⟨h4017, H⟩ := grd H
 refine WPL.d (d_make (d := (0 : Int)) (R := (Rd.int .u32)) li40 by43 rfl rfl rfl Joins.sc rfl rfl h4017 rfl) rfl ?_
 refine WPL.d (d_alloc ze40 rfl) rfl ?_
 refine WPL.s (s_store sz40 rfl rfl rfl rfl rfl) ?_
 refine WPL.nilW ?_
 refine W.now ?_
 refine Then.n ?_
 refine WP.seq ?_
 refine WP.region ?_
 refine WPL.d (d_alloc ze43 rfl) rfl ?_
 refine WPL.s (s_store sz43 rfl rfl rfl rfl rfl) ?_
 refine WPL.nilW ?_
 refine W.now ?_
 refine Then.n ?_
 refine WP.seq ?_
 refine WP.seq ?_
 refine WP.region ?_
 refine WPL.q (q_as (v := .lit (.int _ _)) rfl) rfl ?_
 refine WPL.nilW ?_
 refine W.now ?_
 refine Then.n ?_
 refine WP.block ?_
 refine WP.cv (Cv.nullMark (N := 3) rfl rfl) ?_
 refine WP.cv (Cv.weak (E' := (((((⟨fun _ => .any, [3], [], []⟩ : Env).upd 0 (.ro (Rd.slice (Rd.int .i64)) true x3547)).upd 6 (.ptr 0 0)).upd 7 (.ptr 2 0)).upd 8 (.lit (.int .i64 1)))) (M' := ((((Mem.nil.push (.cells 40 [.whole 1])).push (.row 43 (Rd.int .u32) (List.replicate (Int.toNat ((List.length x3547 : Nat) : Int)) (0 : Int)))).push (.cells 43 [.lit (.int .u32 0)])).push (.bag))) [1, 0, 2, 3] hnp ⟨rfl, ⟨⟨⟨⟨trivial, .inr ⟨rfl, rfl, rfl⟩⟩, .inr ⟨rfl, rfl, rfl⟩⟩, .inr ⟨rfl, rfl, rfl⟩⟩, .inr ⟨rfl, rfl, rfl⟩⟩, by decide, rfl, trivial⟩ (LeE.upd rfl rfl (LeE.upd rfl rfl (LeE.upd rfl rfl (LeE.upd rfl rfl (LeE.noneD rfl rfl .nil)))))) ?_
 obtain ⟨x4231, H4329, H⟩ := bnd H
 refine WP.monoW (Q := fun x E M => x = .exit 0 ∧ E = ((⟨fun _ => .any, [2], [], []⟩ : Env).upd 6 (.ptr 0 0)) ∧ M = (((Mem.nil.push (.cells 40 [.whole 1])).push (.row 43 (Rd.int .u32) x4231)).push (.bag))) ?_ ?_
 · refine WP.loop (β := Int × (List Int) × Int) (fun n b => g_huff_Codes_l0 k x3547 n b.1 b.2.1 b.2.2 = some x4231) (fun b => (((((⟨fun _ => .any, [3], [], []⟩ : Env).upd 0 (.ro (Rd.slice (Rd.int .i64)) true x3547)).upd 6 (.ptr 0 0)).upd 7 (.ptr 2 0)).upd 8 (.lit (.int .i64 b.1)))) (fun b => ((((Mem.nil.push (.cells 40 [.whole 1])).push (.row 43 (Rd.int .u32) b.2.1)).push (.cells 43 [.lit (.int .u32 b.2.2)])).push (.bag))) k (1, (List.replicate (Int.toNat ((List.length x3547 : Nat) : Int)) (0 : Int)), 0) H4329 rfl rfl ?_
   rintro n ⟨x4157, x4158, x4159⟩ H
   obtain _ | n := n
   · exact nf rfl H
   rw [g_huff_Codes_l0.eq_2] at H
   show WP _ _ _ _ (((((⟨fun _ => .any, [3], [], []⟩ : Env).upd 0 (.ro (Rd.slice (Rd.int .i64)) true x3547)).upd 6 (.ptr 0 0)).upd 7 (.ptr 2 0)).upd 8 (.lit (.int .i64 x4157))) ((((Mem.nil.push (.cells 40 [.whole 1])).push (.row 43 (Rd.int .u32) x4158)).push (.cells 43 [.lit (.int .u32 x4159)])).push (.bag)) _
   refine WP.seq ?_
   refine WP.seq ?_
   refine WP.region ?_
   refine WPL.q (q_mv (v := .lit (.int _ _)) rfl) rfl ?_
   refine WPL.q (q_leq rfl rfl) rfl ?_
   refine WPL.nilW ?_
   refine W.now ?_
   refine Then.n ?_
   refine WP.cond (t := (decide (x4157 ≤ 15))) rfl (fun hb4232 => ?_) (fun hb4232 => ?_)
   · replace H := cnt hb4232 H
     refine WP.skipW ?_
     refine W.now ?_
     refine Then.n ?_
     refine WP.seq ?_
     refine WP.block ?_
     refine WP.seq ?_
     refine WP.region ?_
     refine WPL.q (q_load sc43 rfl rfl rfl) rfl ?_
     refine WPL.q (q_shl rfl rfl rfl) rfl ?_
     refine WPL.s (s_store sz43 rfl rfl rfl rfl rfl) ?_
     refine WPL.nilW ?_
     refine W.now ?_
     refine Then.n ?_
     refine WP.seq ?_
     refine WP.region ?_
     refine WPL.q (q_mv (v := .ro _ _ _) rfl) rfl ?_
     refine WPL.q (q_mv (v := .lit (.int _ _)) rfl) rfl ?_
     obtain ⟨_, h4233, H⟩ := bnd H
     refine WPL.c (runs_call (s := []) (t := [4, 5]) (N := 6) (bor := []) fn21 rfl (s_huff_of k x3547 x4157 h4233) ⟨rfl, trivial, by decide, rfl, trivial⟩ rfl trivial (.ren rfl rfl (.ren rfl rfl .nil)) rfl ⟨⟨trivial, rfl⟩, rfl⟩ rfl) rfl ?_
     refine WPL.nilW ?_
     refine W.now ?_
     refine Then.n ?_
     refine WP.block ?_
     refine WP.range (nti := 23) (n := 6) rfl rfl Try.func24 rfl (by kernel_rfl) rfl rfl rfl rfl fun l_4234 r_4234 aC4234 hp4234 ha4234 hb4234 ht4234 hs4234 hf4234 => ?_
     refine WP.seq ?_
     refine WP.region ?_
     refine WPL.q (q_load sc22 rfl rfl rfl) rfl ?_
     refine WPL.q (q_len_ro sl22 rfl) rfl ?_
     refine WPL.q (q_mv (v := .lit (.int _ _)) rfl) rfl ?_
     refine WPL.nilW ?_
     refine W.now ?_
     refine Then.n ?_
     refine WP.block ?_
     refine WP.cv (Cv.weak (E' := ((((((⟨fun _ => .any, [], [⟨aC4234, ((((((Env.none.upd 0 (.ro (Rd.slice (Rd.int .i64)) true x3547)).upd 6 (.ptr 1 0)).upd 7 (.ptr 3 0)).upd 8 (.lit (.int .i64 x4157))).upd 29 (.fn 24 [.ptr 4 0, .ptr 0 0]))).v, [5, 6], some (7, l_4234)⟩], []⟩ : Env).upd 0 (.lit (.func (.yield l_4234) #[] #[]))).upd 2 (.ptr 0 0)).upd 6 (.ro (Rd.slice (Rd.int .i64)) true x3547)).upd 7 (.lit (.int .i64 ((List.length x3547 : Nat) : Int)))).upd 8 (.lit (.int .i64 0)))) (M' := ((((((((Mem.nil.push (.cells 3 [.lit (.int .i64 x4157)])).push (.cells 40 [.whole 2])).push (.row 43 (Rd.int .u32) x4158)).push (.cells 43 [.lit (.int .u32 (shlI .u32 x4159 1))])).push (.cells 22 [.ro (Rd.slice (Rd.int .i64)) true x3547])).push (.obj (Obj.deferred (some [])))).push (.bag)).push (.obj (lp r_4234 .ready none)))) [5, 0, 1, 2, 4, 6, 3, 7] hnp ⟨rfl, ⟨⟨⟨⟨⟨⟨⟨⟨trivial, .inr ⟨rfl, rfl, rfl⟩⟩, .inr ⟨rfl, rfl, rfl⟩⟩, .inr ⟨rfl, rfl, rfl⟩⟩, .inr ⟨rfl, rfl, rfl⟩⟩, .inr ⟨rfl, rfl, rfl⟩⟩, .inr ⟨rfl, rfl, rfl⟩⟩, .inr ⟨rfl, rfl, rfl⟩⟩, .inr ⟨rfl, rfl, rfl⟩⟩, by decide, rfl, trivial⟩ (LeE.upd rfl rfl (LeE.upd rfl rfl (LeE.upd rfl rfl (LeE.upd rfl rfl (LeE.upd rfl rfl (LeE.noneD rfl rfl (.cons ⟨rfl, (LeV.upd rfl rfl (LeV.upd rfl rfl (LeV.upd rfl rfl (LeV.upd rfl rfl (LeV.upd rfl rfl LeV.none))))), rfl, rfl, rfl, rfl⟩ .nil)))))))) ?_
     obtain ⟨y4329, H4327, H⟩ := bnd H
     refine WP.monoW (Q := fun x E M => match (generalizing := false) y4329 with | (Sum.inl (x4297, x4298)) => x = .ret ∧ E = (⟨fun _ => .any, [], [⟨aC4234, ((((((Env.none.upd 0 (.ro (Rd.slice (Rd.int .i64)) true x3547)).upd 6 (.ptr 0 0)).upd 7 (.ptr 2 0)).upd 8 (.lit (.int .i64 x4157))).upd 29 (.fn 24 [.ptr 3 0, .ptr 4 0]))).v, [5, 6], some (7, l_4234)⟩], []⟩ : Env) ∧ M = ((((((((Mem.nil.push (.cells 40 [.whole 1])).push (.row 43 (Rd.int .u32) x4297)).push (.cells 43 [.lit (.int .u32 x4298)])).push (.cells 22 [.ro (Rd.slice (Rd.int .i64)) true x3547])).push (.cells 3 [.lit (.int .i64 x4157)])).push (.obj (Obj.deferred (some [])))).push (.bag)).push (.obj (lp r_4234 .ready none))) | (Sum.inr (x4299, x4300)) => x = .exit 0 ∧ E = (⟨fun _ => .any, [], [⟨aC4234, ((((((Env.none.upd 0 (.ro (Rd.slice (Rd.int .i64)) true x3547)).upd 6 (.ptr 0 0)).upd 7 (.ptr 2 0)).upd 8 (.lit (.int .i64 x4157))).upd 29 (.fn 24 [.ptr 3 0, .ptr 4 0]))).v, [5, 6], some (7, l_4234)⟩], []⟩ : Env) ∧ M = ((((((((Mem.nil.push (.cells 40 [.whole 1])).push (.row 43 (Rd.int .u32) x4299)).push (.cells 43 [.lit (.int .u32 x4300)])).push (.cells 22 [.ro (Rd.slice (Rd.int .i64)) true x3547])).push (.cells 3 [.lit (.int .i64 x4157)])).push (.obj (Obj.deferred (some [])))).push (.bag)).push (.obj (lp r_4234 .ready none)))) ?_ ?_
     · refine WP.loop (β := Int × (List Int) × Int) (fun n b => g_huff_Codes_l1 k x3547 x4157 n b.1 b.2.1 b.2.2 = some y4329) (fun b => ((((((⟨fun _ => .any, [], [⟨aC4234, ((((((Env.none.upd 0 (.ro (Rd.slice (Rd.int .i64)) true x3547)).upd 6 (.ptr 1 0)).upd 7 (.ptr 3 0)).upd 8 (.lit (.int .i64 x4157))).upd 29 (.fn 24 [.ptr 4 0, .ptr 0 0]))).v, [5, 6], some (7, l_4234)⟩], []⟩ : Env).upd 0 (.lit (.func (.yield l_4234) #[] #[]))).upd 2 (.ptr 0 0)).upd 6 (.ro (Rd.slice (Rd.int .i64)) true x3547)).upd 7 (.lit (.int .i64 ((List.length x3547 : Nat) : Int)))).upd 8 (.lit (.int .i64 b.1)))) (fun b => ((((((((Mem.nil.push (.cells 3 [.lit (.int .i64 x4157)])).push (.cells 40 [.whole 2])).push (.row 43 (Rd.int .u32) b.2.1)).push (.cells 43 [.lit (.int .u32 b.2.2)])).push (.cells 22 [.ro (Rd.slice (Rd.int .i64)) true x3547])).push (.obj (Obj.deferred (some [])))).push (.bag)).push (.obj (lp r_4234 .ready none)))) k (0, x4158, (shlI .u32 x4159 1)) H4327 rfl rfl ?_
       rintro n ⟨x4267, x4268, x4269⟩ H
       obtain _ | n := n
       · exact nf rfl H
       rw [g_huff_Codes_l1.eq_2] at H
       show WP _ _ _ _ ((((((⟨fun _ => .any, [], [⟨aC4234, ((((((Env.none.upd 0 (.ro (Rd.slice (Rd.int .i64)) true x3547)).upd 6 (.ptr 1 0)).upd 7 (.ptr 3 0)).upd 8 (.lit (.int .i64 x4157))).upd 29 (.fn 24 [.ptr 4 0, .ptr 0 0]))).v, [5, 6], some (7, l_4234)⟩], []⟩ : Env).upd 0 (.lit (.func (.yield l_4234) #[] #[]))).upd 2 (.ptr 0 0)).upd 6 (.ro (Rd.slice (Rd.int .i64)) true x3547)).upd 7 (.lit (.int .i64 ((List.length x3547 : Nat) : Int)))).upd 8 (.lit (.int .i64 x4267))) ((((((((Mem.nil.push (.cells 3 [.lit (.int .i64 x4157)])).push (.cells 40 [.whole 2])).push (.row 43 (Rd.int .u32) x4268)).push (.cells 43 [.lit (.int .u32 x4269)])).push (.cells 22 [.ro (Rd.slice (Rd.int .i64)) true x3547])).push (.obj (Obj.deferred (some [])))).push (.bag)).push (.obj (lp r_4234 .ready none))) _
       refine WP.seq ?_
       refine WP.region ?_
       obtain ⟨x4301, h4301, H⟩ := bnd H
       refine WPL.q (q_nm (q_lss rfl rfl) (nm_bool h4301)) rfl ?_
       refine WPL.nilW ?_
       refine W.now ?_
       refine Then.n ?_
       refine WP.seq ?_
       refine WP.cond (t := x4301) rfl (fun hb4302 => ?_) (fun hb4302 => ?_)
       · replace H := cnt hb4302 H
         refine WP.skipW ?_
         refine W.now ?_
         refine Then.n ?_
         refine WP.seq ?_
         refine WP.block ?_
         refine WP.seq ?_
         refine WP.region ?_
         refine WPL.q (q_mv (v := .lit (.int _ _)) rfl) rfl ?_
         obtain ⟨x4316, h4316, H⟩ := bnd H
         refine WPL.q (q_index_ro sl22 rfl rfl rfl h4316) rfl ?_
         refine WPL.q (q_load_sc sc3 rfl) rfl ?_
         refine WPL.q (q_as (v := .lit (.int _ _)) rfl) rfl ?_
         refine WPL.q (q_as (v := .lit (.int _ _)) rfl) rfl ?_
         refine WPL.nilW ?_
         refine W.now ?_
         refine Then.n ?_
         refine WP.seq ?_
         obtain ⟨⟨x4320, x4321, x4322⟩, H4325, H⟩ := bnd H
         refine WP.monoW (Q := fun x E M => x = .normal ∧ E = (((((((⟨fun _ => .any, [], [⟨aC4234, ((((((Env.none.upd 0 (.ro (Rd.slice (Rd.int .i64)) true x3547)).upd 6 (.ptr 1 0)).upd 7 (.ptr 3 0)).upd 8 (.lit (.int .i64 x4157))).upd 29 (.fn 24 [.ptr 4 0, .ptr 0 0]))).v, [5, 6], some (7, l_4234)⟩], []⟩ : Env).upd 0 (.lit (.func (.yield l_4234) #[] #[]))).upd 2 (.ptr 0 0)).upd 6 (.ro (Rd.slice (Rd.int .i64)) true x3547)).upd 7 (.lit (.int .i64 ((List.length x3547 : Nat) : Int)))).upd 8 (.lit (.int .i64 x4267))).upd 21 (.lit (.bool x4320))) ∧ M = ((((((((Mem.nil.push (.cells 3 [.lit (.int .i64 x4157)])).push (.cells 40 [.whole 2])).push (.row 43 (Rd.int .u32) x4321)).push (.cells 43 [.lit (.int .u32 x4322)])).push (.cells 22 [.ro (Rd.slice (Rd.int .i64)) true x3547])).push (.obj (Obj.deferred (some [])))).push (.bag)).push (.obj (lp r_4234 .ready none)))) ?_ ?_
         · clear H
           have H := H4325
           clear H4325
           refine WP.region ?_
           refine WPL.q (q_mv (v := .lit (.int _ _)) rfl) rfl ?_
           refine WPL.q (q_load sc3 rfl rfl rfl) rfl ?_
           refine WPL.q (q_eql rfl rfl) rfl ?_
           refine WPL.q (q_mv (v := .lit (.bool _)) rfl) rfl ?_
           refine WPL.split (t := 16) (b := (decide (x4316 = x4157))) rfl (fun hb4322 => ?_) (fun hb4322 => ?_)
           · replace H := cnt hb4322 H
             refine WPL.qg rfl rfl (lb hb4322) (q_mv (v := .lit _) rfl) rfl ?_
             refine WPL.qg rfl rfl (lb hb4322) (q_mv (v := .lit (.int _ _)) rfl) rfl ?_
             refine WPL.yg rfl rfl rfl rfl hp4234 ha4234 hb4234 ht4234 hs4234 hf4234 rfl rfl rfl rfl rfl (lb hb4322) fun aI4323 => ?_
             refine WP.region ?_
             refine WPL.q (q_as (v := .lit (.int _ _)) rfl) rfl ?_
             refine WPL.nilW ?_
             refine W.now ?_
             refine ⟨rfl, rfl, _, _, _, _, _, _, rfl, rfl, ?_⟩
             refine WP.block ?_
             refine WP.seq ?_
             refine WP.region ?_
             refine WPL.q (q_load sc40 rfl rfl rfl) rfl ?_
             refine WPL.q (q_mv (v := .lit (.int _ _)) rfl) rfl ?_
             refine WPL.q (q_load sc43 rfl rfl rfl) rfl ?_
             obtain ⟨x4325, h4325, H⟩ := bnd H
             refine WPL.q (q_index_row sl40 rfl rfl rfl (ixs h4325)) rfl ?_
             refine WPL.s (s_store_row (j := (Int.toNat x4267)) (d := x4269) sz43 rfl rfl rfl rfl Joins.sc (ixl h4325)) ?_
             refine WPL.nilW ?_
             refine W.now ?_
             refine Then.n ?_
             refine WP.region ?_
             refine WPL.q (q_load sc43 rfl rfl rfl) rfl ?_
             refine WPL.q (q_add rfl rfl) rfl ?_
             refine WPL.s (s_store sz43 rfl rfl rfl rfl rfl) ?_
             refine WPL.nilW ?_
             refine W.now ?_
             refine InBlock.n ?_
             refine ⟨rfl, _, _, _, _, _, _, rfl, rfl, _, rfl, ?_⟩
             refine WPL.qg rfl rfl (lb hb4322) (q_not rfl) rfl ?_
             refine WPL.q (q_pickT (v := .lit (.bool _)) (lb hb4322) rfl) rfl ?_
             refine WPL.nilW ?_
             have q0 := (Prod.mk.inj (Option.some.inj H)).1
             have q1 := (Prod.mk.inj (Prod.mk.inj (Option.some.inj H)).2).1
             have q2 := (Prod.mk.inj (Prod.mk.inj (Option.some.inj H)).2).2
             subst q0
             subst q1
             subst q2
             exact W.wk [0, 1, 2, 3, 4, 5, 6, 7] hnp ⟨rfl, rfl, rfl⟩ ⟨rfl, ⟨⟨⟨⟨⟨⟨⟨⟨trivial, .inr ⟨rfl, rfl, rfl⟩⟩, .inr ⟨rfl, rfl, rfl⟩⟩, .inr ⟨rfl, rfl, rfl⟩⟩, .inr ⟨rfl, rfl, rfl⟩⟩, .inr ⟨rfl, rfl, rfl⟩⟩, .inr ⟨rfl, rfl, rfl⟩⟩, .inr ⟨rfl, rfl, rfl⟩⟩, .inr ⟨rfl, rfl, rfl⟩⟩, by decide, rfl, trivial⟩ (LeE.upd rfl rfl (LeE.upd rfl rfl (LeE.upd rfl rfl (LeE.upd rfl rfl (LeE.upd rfl rfl (LeE.upd rfl rfl (LeE.noneD rfl rfl (.cons ⟨rfl, (LeV.upd rfl rfl (LeV.upd rfl rfl (LeV.upd rfl rfl (LeV.upd rfl rfl (LeV.upd rfl rfl LeV.none))))), rfl, rfl, rfl, rfl⟩ .nil)))))))) rfl
           replace H := cnf hb4322 H
           refine WPL.skipg (b' := false) rfl rfl (lb hb4322) rfl rfl (.inl trivial) ?_
           refine WPL.skipg (b' := false) rfl rfl (lb hb4322) rfl rfl (.inl trivial) ?_
           refine WPL.skipg (b' := false) rfl rfl (lb hb4322) rfl rfl (SkipOkE.und rfl) ?_
           refine WPL.skipg (b' := false) rfl rfl (lb hb4322) rfl rfl (.inl trivial) ?_
           refine WPL.q (q_pickF (v := .lit (.bool _)) (lb hb4322) rfl) rfl ?_
           refine WPL.nilW ?_
           have q0 := (Prod.mk.inj (Option.some.inj H)).1
           have q1 := (Prod.mk.inj (Prod.mk.inj (Option.some.inj H)).2).1
           have q2 := (Prod.mk.inj (Prod.mk.inj (Option.some.inj H)).2).2
           subst q0
           subst q1
           subst q2
           exact W.wk [0, 1, 2, 3, 4, 5, 6, 7] hnp ⟨rfl, rfl, rfl⟩ ⟨rfl, ⟨⟨⟨⟨⟨⟨⟨⟨trivial, .inr ⟨rfl, rfl, rfl⟩⟩, .inr ⟨rfl, rfl, rfl⟩⟩, .inr ⟨rfl, rfl, rfl⟩⟩, .inr ⟨rfl, rfl, rfl⟩⟩, .inr ⟨rfl, rfl, rfl⟩⟩, .inr ⟨rfl, rfl, rfl⟩⟩, .inr ⟨rfl, rfl, rfl⟩⟩, .inr ⟨rfl, rfl, rfl⟩⟩, by decide, rfl, trivial⟩ (LeE.upd rfl rfl (LeE.upd rfl rfl (LeE.upd rfl rfl (LeE.upd rfl rfl (LeE.upd rfl rfl (LeE.upd rfl rfl (LeE.noneD rfl rfl (.cons ⟨rfl, (LeV.upd rfl rfl (LeV.upd rfl rfl (LeV.upd rfl rfl (LeV.upd rfl rfl (LeV.upd rfl rfl LeV.none))))), rfl, rfl, rfl, rfl⟩ .nil)))))))) rfl
         rintro _ _ _ ⟨rfl, rfl, rfl⟩
         refine W.now ?_
         refine Then.n ?_
         refine WP.cond (t := x4320) rfl (fun hb4326 => ?_) (fun hb4326 => ?_)
         · replace H := cnt hb4326 H
           refine WP.retW ?_
           have q0 := Option.some.inj H
           subst q0
           exact W.wk [1, 2, 3, 4, 0, 5, 6, 7] hnp (InBlock.r (Then.r (Then.r ⟨rfl, rfl, rfl⟩))) ⟨rfl, ⟨⟨⟨⟨⟨⟨⟨⟨trivial, .inr ⟨rfl, rfl, rfl⟩⟩, .inr ⟨rfl, rfl, rfl⟩⟩, .inr ⟨rfl, rfl, rfl⟩⟩, .inr ⟨rfl, rfl, rfl⟩⟩, .inr ⟨rfl, rfl, rfl⟩⟩, .inr ⟨rfl, rfl, rfl⟩⟩, .inr ⟨rfl, rfl, rfl⟩⟩, .inr ⟨rfl, rfl, rfl⟩⟩, by decide, rfl, trivial⟩ (LeE.noneD rfl rfl (.cons ⟨rfl, (LeV.upd rfl rfl (LeV.upd rfl rfl (LeV.upd rfl rfl (LeV.upd rfl rfl (LeV.upd rfl rfl LeV.none))))), rfl, rfl, rfl, rfl⟩ .nil)) rfl
         replace H := cnf hb4326 H
         refine WP.skipW ?_
         refine W.now ?_
         refine InBlock.n ?_
         refine Then.n ?_
         refine WP.region ?_
         refine WPL.q (q_add rfl rfl) rfl ?_
         refine WPL.q (q_mv (v := .lit (.int _ _)) rfl) rfl ?_
         refine WPL.nilW ?_
         exact W.wk [0, 1, 2, 3, 4, 5, 6, 7] hnp (Then.n ⟨n, ((IntKind.wrap .i64 (x4267 + 1)), x4321, x4322), Nat.lt_succ_self n, H, rfl, rfl⟩) ⟨rfl, ⟨⟨⟨⟨⟨⟨⟨⟨trivial, .inr ⟨rfl, rfl, rfl⟩⟩, .inr ⟨rfl, rfl, rfl⟩⟩, .inr ⟨rfl, rfl, rfl⟩⟩, .inr ⟨rfl, rfl, rfl⟩⟩, .inr ⟨rfl, rfl, rfl⟩⟩, .inr ⟨rfl, rfl, rfl⟩⟩, .inr ⟨rfl, rfl, rfl⟩⟩, .inr ⟨rfl, rfl, rfl⟩⟩, by decide, rfl, trivial⟩ (LeE.upd rfl rfl (LeE.upd rfl rfl (LeE.upd rfl rfl (LeE.upd rfl rfl (LeE.upd rfl rfl (LeE.noneD rfl rfl (.cons ⟨rfl, (LeV.upd rfl rfl (LeV.upd rfl rfl (LeV.upd rfl rfl (LeV.upd rfl rfl (LeV.upd rfl rfl LeV.none))))), rfl, rfl, rfl, rfl⟩ .nil))))))) rfl
       replace H := cnf hb4302 H
       refine WP.exitW ?_
       have q0 := Option.some.inj H
       subst q0
       exact W.wk [1, 2, 3, 4, 0, 5, 6, 7] hnp (Then.x (Then.x ⟨rfl, rfl, rfl⟩)) ⟨rfl, ⟨⟨⟨⟨⟨⟨⟨⟨trivial, .inr ⟨rfl, rfl, rfl⟩⟩, .inr ⟨rfl, rfl, rfl⟩⟩, .inr ⟨rfl, rfl, rfl⟩⟩, .inr ⟨rfl, rfl, rfl⟩⟩, .inr ⟨rfl, rfl, rfl⟩⟩, .inr ⟨rfl, rfl, rfl⟩⟩, .inr ⟨rfl, rfl, rfl⟩⟩, .inr ⟨rfl, rfl, rfl⟩⟩, by decide, rfl, trivial⟩ (LeE.noneD rfl rfl (.cons ⟨rfl, (LeV.upd rfl rfl (LeV.upd rfl rfl (LeV.upd rfl rfl (LeV.upd rfl rfl (LeV.upd rfl rfl LeV.none))))), rfl, rfl, rfl, rfl⟩ .nil)) rfl
     rcases y4329 with ⟨x4297, x4298⟩ | ⟨x4299, x4300⟩
     · rintro _ _ _ ⟨rfl, rfl, rfl⟩
       refine W.now ?_
       refine InBlock.r ?_
       refine ⟨trivial, _, _, _, _, rfl, _, _, rfl, (fun h => by cases h), ?_⟩
       refine W.cv (Cv.absorb (N := 8) (j := 5) (i := 6) rfl rfl rfl rfl) rfl ?_
       refine W.now ?_
       refine InBlock.n ?_
       refine InBlock.n ?_
       refine Then.n ?_
       refine WP.region ?_
       refine WPL.q (q_mv (v := .lit (.int _ _)) rfl) rfl ?_
       refine WPL.q (q_add rfl rfl) rfl ?_
       refine WPL.q (q_as (v := .lit (.int _ _)) rfl) rfl ?_
       refine WPL.nilW ?_
       exact W.wk [0, 1, 2, 8] hnp (Then.n ⟨n, ((IntKind.wrap .i64 (x4157 + 1)), x4297, x4298), Nat.lt_succ_self n, H, rfl, rfl⟩) ⟨rfl, ⟨⟨⟨⟨trivial, .inr ⟨rfl, rfl, rfl⟩⟩, .inr ⟨rfl, rfl, rfl⟩⟩, .inr ⟨rfl, rfl, rfl⟩⟩, .inr ⟨rfl, rfl, rfl⟩⟩, by decide, rfl, trivial⟩ (LeE.upd rfl rfl (LeE.upd rfl rfl (LeE.upd rfl rfl (LeE.upd rfl rfl (LeE.noneD rfl rfl .nil))))) rfl
     rintro _ _ _ ⟨rfl, rfl, rfl⟩
     refine W.now ?_
     refine InBlock.x0 ?_
     refine ⟨trivial, _, _, _, _, rfl, _, _, rfl, (fun h => by cases h), ?_⟩
     refine W.cv (Cv.absorb (N := 8) (j := 5) (i := 6) rfl rfl rfl rfl) rfl ?_
     refine W.now ?_
     refine InBlock.n ?_
     refine InBlock.n ?_
     refine Then.n ?_
     refine WP.region ?_
     refine WPL.q (q_mv (v := .lit (.int _ _)) rfl) rfl ?_
     refine WPL.q (q_add rfl rfl) rfl ?_
     refine WPL.q (q_as (v := .lit (.int _ _)) rfl) rfl ?_
     refine WPL.nilW ?_
     exact W.wk [0, 1, 2, 8] hnp (Then.n ⟨n, ((IntKind.wrap .i64 (x4157 + 1)), x4299, x4300), Nat.lt_succ_self n, H, rfl, rfl⟩) ⟨rfl, ⟨⟨⟨⟨trivial, .inr ⟨rfl, rfl, rfl⟩⟩, .inr ⟨rfl, rfl, rfl⟩⟩, .inr ⟨rfl, rfl, rfl⟩⟩, .inr ⟨rfl, rfl, rfl⟩⟩, by decide, rfl, trivial⟩ (LeE.upd rfl rfl (LeE.upd rfl rfl (LeE.upd rfl rfl (LeE.upd rfl rfl (LeE.noneD rfl rfl .nil))))) rfl
   replace H := cnf hb4232 H
   refine WP.exitW ?_
   have q0 := (Option.some.inj H)
   subst q0
   exact W.wk [0, 1, 3] hnp (Then.x (Then.x ⟨rfl, rfl, rfl⟩)) ⟨rfl, ⟨⟨⟨trivial, .inr ⟨rfl, rfl, rfl⟩⟩, .inr ⟨rfl, rfl, rfl⟩⟩, .inr ⟨rfl, rfl, rfl⟩⟩, by decide, rfl, trivial⟩ (LeE.upd rfl rfl (LeE.noneD rfl rfl .nil)) rfl
 rintro _ _ _ ⟨rfl, rfl, rfl⟩
 refine W.now ?_
 refine InBlock.x0 ?_
 refine Then.n ?_
 refine WP.seq ?_
 refine WP.region ?_
 refine WPL.q (q_load sc40 rfl rfl rfl) rfl ?_
 refine WPL.q (q_as (v := .whole _) rfl) rfl ?_
 refine WPL.q (q_as (v := .lit (.int _ _)) rfl) rfl ?_
 refine WPL.nilW ?_
 refine W.now ?_
 refine Then.n ?_
 refine WP.retW ?_
 refine W.cv (Cv.frzRow (i := 1) rfl rfl hnp rfl rfl) rfl ?_
 have q0 := (Prod.mk.inj (Option.some.inj H)).1
 have q1 := (Prod.mk.inj (Option.some.inj H)).2
 subst q0
 subst q1
 exact W.now (BodyR.mkR ⟨.inr rfl, trivial⟩ rfl [] ⟨rfl, rfl⟩ ⟨rfl, trivial, by decide, rfl, trivial⟩ rfl rfl)
set_option maxRecDepth 100000 in
set_option maxHeartbeats 4000000 in
theorem s_huff_Lengths__b (k : Nat) (x4337 : (List Int)) (x4338 : Int) (r : (((List Int) × Int) ⊕ ByteArray)) (H : g_huff_Lengths k x4337 x4338 = some r) : Go.Q.Spec Try.prog 4 0 [.ro (Rd.slice (Rd.int .i64)) true x4337, .lit (.int .i64 x4338)] Mem.nil (fun o M => match (generalizing := false) r with | (Sum.inl (x4681, x4682)) => o = .ret (.tup [.ro (Rd.slice (Rd.int .i64)) false x4681, .lit (.int .i64 x4682)]) ∧ M = Mem.nil | (Sum.inr x4683) => o = .pan (.ifc 9 (.lit (.string x4683))) ∧ M = Mem.nil) := by
 unfold g_huff_Lengths at H
 refine Go.Q.Spec.of_bodyR (az := []) (rs := [.tmp 4, .tmp 5]) (nt := 146) Try.func4 rfl rfl (by intro t T h; simp at h) rfl rfl fun cx hnp => ?_
 refine WP.seq ?_
 refine WP.region ?_
 refine WPL.q (q_as (v := .lit _) rfl) rfl ?_
 refine WPL.q (q_as (v := .lit (.int _ _)) rfl) rfl ?_
 refine WPL.nilW ?_
 refine W.now ?_
 refine Then.n ?_
 refine WP.seq ?_
 refine WP.region ?_
 refine WPL.q (q_as (v := .lit _) rfl) rfl ?_
 refine WPL.nilW ?_
 refine W.now ?_
 refine Then.n ?_
 refine WP.seq ?_
 refine WP.seq ?_
 obtain ⟨x4696, H4699, H⟩ := bnd H
 refine WP.monoW (Q := fun x E M => x = .normal ∧ E = ((((Env.none.upd 0 (.ro (Rd.slice (Rd.int .i64)) true x4337)).upd 1 (.lit (.int .i64 x4338))).upd 6 (.lit (.slice none 0 0))).upd 27 (.lit (.bool x4696))) ∧ M = Mem.nil) ?_ ?_
 · clear H
   have H := H4699
   clear H4699
   refine WP.region ?_
   refine WPL.q (q_mv (v := .ro _ _ _) rfl) rfl ?_
   refine WPL.q (q_len_ro sl22 rfl) rfl ?_
   obtain ⟨x4697, h4697, H⟩ := bnd H
   refine WPL.q (q_nm (q_gtr rfl rfl) (nm_bool h4697)) rfl ?_
   refine WPL.q (q_mv (v := .lit (.bool _)) rfl) rfl ?_
   refine WPL.split (t := 20) (b := x4697) rfl (fun hb4697 => ?_) (fun hb4697 => ?_)
   · replace H := cnt hb4697 H
     refine WPL.skipg (b' := true) rfl rfl (lb hb4697) rfl rfl (.inl trivial) ?_
     refine WPL.skipg (b' := true) rfl rfl (lb hb4697) rfl rfl (.inl trivial) ?_
     refine WPL.q (q_pickT (v := .lit (.bool _)) (lb hb4697) rfl) rfl ?_
     refine WPL.q (q_mv (v := .lit (.bool _)) rfl) rfl ?_
     refine WPL.skipg (b' := true) rfl rfl rfl rfl rfl (.inl trivial) ?_
     refine WPL.skipg (b' := true) rfl rfl rfl rfl rfl (.inl trivial) ?_
     refine WPL.q (q_pickT (v := .lit (.bool _)) rfl rfl) rfl ?_
     refine WPL.nilW ?_
     have q0 := (Option.some.inj H)
     subst q0
     exact W.wk [] hnp ⟨rfl, rfl, rfl⟩ ⟨rfl, trivial, by decide, rfl, trivial⟩ (LeE.upd rfl rfl (LeE.upd rfl rfl (LeE.upd rfl rfl (LeE.upd rfl rfl (LeE.none rfl rfl))))) rfl
   replace H := cnf hb4697 H
   refine WPL.qg rfl rfl (lb hb4697) (q_mv (v := .lit (.int _ _)) rfl) rfl ?_
   refine WPL.qg rfl rfl (lb hb4697) (q_lss rfl rfl) rfl ?_
   refine WPL.q (q_pickF (v := .lit (.bool _)) (lb hb4697) rfl) rfl ?_
   refine WPL.q (q_mv (v := .lit (.bool _)) rfl) rfl ?_
   refine WPL.split (t := 24) (b := (decide (x4338 < 1))) rfl (fun hb4698 => ?_) (fun hb4698 => ?_)
   · replace H := cnt hb4698 H
     refine WPL.skipg (b' := true) rfl rfl (lb hb4698) rfl rfl (.inl trivial) ?_
     refine WPL.skipg (b' := true) rfl rfl (lb hb4698) rfl rfl (.inl trivial) ?_
     refine WPL.q (q_pickT (v := .lit (.bool _)) (lb hb4698) rfl) rfl ?_
     refine WPL.nilW ?_
     have q0 := (Option.some.inj H)
     subst q0
     exact W.wk [] hnp ⟨rfl, rfl, rfl⟩ ⟨rfl, trivial, by decide, rfl, trivial⟩ (LeE.upd rfl rfl (LeE.upd rfl rfl (LeE.upd rfl rfl (LeE.upd rfl rfl (LeE.none rfl rfl))))) rfl
   replace H := cnf hb4698 H
   refine WPL.qg rfl rfl (lb hb4698) (q_mv (v := .lit (.int _ _)) rfl) rfl ?_
   refine WPL.qg rfl rfl (lb hb4698) (q_gtr rfl rfl) rfl ?_
   refine WPL.q (q_pickF (v := .lit (.bool _)) (lb hb4698) rfl) rfl ?_
   refine WPL.nilW ?_
   have q0 := (Option.some.inj H)
   subst q0
   exact W.wk [] hnp ⟨rfl, rfl, rfl⟩ ⟨rfl, trivial, by decide, rfl, trivial⟩ (LeE.upd rfl rfl (LeE.upd rfl rfl (LeE.upd rfl rfl (LeE.upd rfl rfl (LeE.none rfl rfl))))) rfl
 rintro _ _ _ ⟨rfl, rfl, rfl⟩
 refine W.now ?_
 refine Then.n ?_
 refine WP.cond (t := x4696) rfl (fun hb4700 => ?_) (fun hb4700 => ?_)
 · replace H := cnt hb4700 H
   refine WP.seq ?_
   refine WP.region ?_
   refine WPL.q (q_as (v := .lit _) rfl) rfl ?_
   refine WPL.q (q_as (v := .lit (.int _ _)) rfl) rfl ?_
   refine WPL.nilW ?_
   refine W.now ?_
   refine Then.n ?_
   refine WP.retW ?_
   refine W.cv (Cv.nilRo (Rd.int .i64) false 4 rfl) rfl ?_
   have q0 := Option.some.inj H
   subst q0
   exact W.now (Then.r (BodyR.mkR trivial rfl [] ⟨rfl, rfl⟩ ⟨rfl, trivial, by decide, rfl, trivial⟩ rfl rfl))
 replace H := cnf hb4700 H
 refine WP.skipW ?_
 refine W.now ?_
 refine Then.n ?_
 refine WP.seq ?_
 refine WP.seq ?_
 refine WP.region ?_
 refine WPL.q (q_mv (v := .ro _ _ _) rfl) rfl ?_
 refine WPL.q (q_len_ro sl22 rfl) rfl ?_
 refine WPL.q (q_mv (v := .lit (.int _ _)) rfl) rfl ?_
 refine WPL.nilW ?_
 refine W.now ?_
 refine Then.n ?_
 refine WP.block ?_
 refine WP.cv (Cv.vir 34 rdS_huff_coin (N := 0) rfl 6 rfl) ?_
 refine WP.cv (Cv.weak (E' := ((((((Env.none.upd 0 (.ro (Rd.slice (Rd.int .i64)) true x4337)).upd 1 (.lit (.int .i64 x4338))).upd 6 (.whole 0)).upd 28 (.ro (Rd.slice (Rd.int .i64)) true x4337)).upd 29 (.lit (.int .i64 ((List.length x4337 : Nat) : Int)))).upd 30 (.lit (.int .i64 0)))) (M' := (Mem.nil.push (.row 34 rdS_huff_coin ([] : List S_huff_coin)))) [0] hnp ⟨rfl, ⟨trivial, .inr ⟨rfl, rfl, rfl⟩⟩, by decide, rfl, trivial⟩ (LeE.upd rfl rfl (LeE.upd rfl rfl (LeE.upd rfl rfl (LeE.upd rfl rfl (LeE.upd rfl rfl (LeE.upd rfl rfl (LeE.none rfl rfl)))))))) ?_
 obtain ⟨y4834, H4832, H⟩ := bnd H
 refine WP.monoW (Q := fun x E M => match (generalizing := false) y4834 with | (Sum.inl _) => x = .ret ∧ E = ((Env.none.upd 4 (.lit (.slice none 0 0))).upd 5 (.lit (.int .i64 1))) ∧ M = Mem.nil | (Sum.inr x4800) => x = .exit 0 ∧ E = (((Env.none.upd 0 (.ro (Rd.slice (Rd.int .i64)) true x4337)).upd 1 (.lit (.int .i64 x4338))).upd 6 (.whole 0)) ∧ M = (Mem.nil.push (.row 34 rdS_huff_coin x4800))) ?_ ?_
 · refine WP.loop (β := Int × (List S_huff_coin)) (fun n b => g_huff_Lengths_l0 k x4337 n b.1 b.2 = some y4834) (fun b => ((((((Env.none.upd 0 (.ro (Rd.slice (Rd.int .i64)) true x4337)).upd 1 (.lit (.int .i64 x4338))).upd 6 (.whole 0)).upd 28 (.ro (Rd.slice (Rd.int .i64)) true x4337)).upd 29 (.lit (.int .i64 ((List.length x4337 : Nat) : Int)))).upd 30 (.lit (.int .i64 b.1)))) (fun b => (Mem.nil.push (.row 34 rdS_huff_coin b.2))) k (0, ([] : List S_huff_coin)) H4832 rfl rfl ?_
   rintro n ⟨x4766, x4767⟩ H
   obtain _ | n := n
   · exact nf rfl H
   rw [g_huff_Lengths_l0.eq_2] at H
   show WP _ _ _ _ ((((((Env.none.upd 0 (.ro (Rd.slice (Rd.int .i64)) true x4337)).upd 1 (.lit (.int .i64 x4338))).upd 6 (.whole 0)).upd 28 (.ro (Rd.slice (Rd.int .i64)) true x4337)).upd 29 (.lit (.int .i64 ((List.length x4337 : Nat) : Int)))).upd 30 (.lit (.int .i64 x4766))) (Mem.nil.push (.row 34 rdS_huff_coin x4767)) _
   refine WP.seq ?_
   refine WP.region ?_
   obtain ⟨x4801, h4801, H⟩ := bnd H
   refine WPL.q (q_nm (q_lss rfl rfl) (nm_bool h4801)) rfl ?_
   refine WPL.nilW ?_
   refine W.now ?_
   refine Then.n ?_
   refine WP.seq ?_
   refine WP.cond (t := x4801) rfl (fun hb4802 => ?_) (fun hb4802 => ?_)
   · replace H := cnt hb4802 H
     refine WP.skipW ?_
     refine W.now ?_
     refine Then.n ?_
     refine WP.seq ?_
     obtain ⟨y4832, H4830, H⟩ := bnd H
     refine WP.monoW (Q := fun x E M => match (generalizing := false) y4832 with | (Sum.inl _) => x = .ret ∧ E = ((Env.none.upd 4 (.lit (.slice none 0 0))).upd 5 (.lit (.int .i64 1))) ∧ M = Mem.nil | (Sum.inr x4817) => x = .normal ∧ E = ((((((Env.none.upd 0 (.ro (Rd.slice (Rd.int .i64)) true x4337)).upd 1 (.lit (.int .i64 x4338))).upd 6 (.whole 0)).upd 28 (.ro (Rd.slice (Rd.int .i64)) true x4337)).upd 29 (.lit (.int .i64 ((List.length x4337 : Nat) : Int)))).upd 30 (.lit (.int .i64 x4766))) ∧ M = (Mem.nil.push (.row 34 rdS_huff_coin x4817))) ?_ ?_
     · clear H
       have H := H4830
       clear H4830
       refine WP.block ?_
       refine WP.seq ?_
       refine WP.region ?_
       refine WPL.q (q_mv (v := .lit (.int _ _)) rfl) rfl ?_
       obtain ⟨x4818, h4818, H⟩ := bnd H
       refine WPL.q (q_index_ro sl22 rfl rfl rfl h4818) rfl ?_
       refine WPL.q (q_load_sc sc3 rfl) rfl ?_
       refine WPL.q (q_as (v := .lit (.int _ _)) rfl) rfl ?_
       refine WPL.q (q_as (v := .lit (.int _ _)) rfl) rfl ?_
       refine WPL.nilW ?_
       refine W.now ?_
       refine Then.n ?_
       refine WP.seq ?_
       refine WP.seq ?_
       obtain ⟨x4825, H4826, H⟩ := bnd H
       refine WP.monoW (Q := fun x E M => x = .normal ∧ E = (((((((((Env.none.upd 0 (.ro (Rd.slice (Rd.int .i64)) true x4337)).upd 1 (.lit (.int .i64 x4338))).upd 6 (.whole 0)).upd 7 (.lit (.int .i64 x4766))).upd 8 (.lit (.int .i64 x4818))).upd 28 (.ro (Rd.slice (Rd.int .i64)) true x4337)).upd 29 (.lit (.int .i64 ((List.length x4337 : Nat) : Int)))).upd 30 (.lit (.int .i64 x4766))).upd 40 (.lit (.bool x4825))) ∧ M = (Mem.nil.push (.row 34 rdS_huff_coin x4767))) ?_ ?_
       · clear H
         have H := H4826
         clear H4826
         refine WP.region ?_
         refine WPL.q (q_mv (v := .lit (.int _ _)) rfl) rfl ?_
         refine WPL.q (q_lss rfl rfl) rfl ?_
         refine WPL.q (q_mv (v := .lit (.bool _)) rfl) rfl ?_
         refine WPL.split (t := 37) (b := (decide (x4818 < 0))) rfl (fun hb4825 => ?_) (fun hb4825 => ?_)
         · replace H := cnt hb4825 H
           refine WPL.skipg (b' := true) rfl rfl (lb hb4825) rfl rfl (.inl trivial) ?_
           refine WPL.skipg (b' := true) rfl rfl (lb hb4825) rfl rfl (.inl trivial) ?_
           refine WPL.q (q_pickT (v := .lit (.bool _)) (lb hb4825) rfl) rfl ?_
           refine WPL.nilW ?_
           have q0 := (Option.some.inj H)
           subst q0
           exact W.wk [0] hnp ⟨rfl, rfl, rfl⟩ ⟨rfl, ⟨trivial, .inr ⟨rfl, rfl, rfl⟩⟩, by decide, rfl, trivial⟩ (LeE.upd rfl rfl (LeE.upd rfl rfl (LeE.upd rfl rfl (LeE.upd rfl rfl (LeE.upd rfl rfl (LeE.upd rfl rfl (LeE.upd rfl rfl (LeE.upd rfl rfl (LeE.upd rfl rfl (LeE.none rfl rfl)))))))))) rfl
         replace H := cnf hb4825 H
         refine WPL.qg rfl rfl (lb hb4825) (q_mv (v := .lit (.int _ _)) rfl) rfl ?_
         refine WPL.qg rfl rfl (lb hb4825) (q_gtr rfl rfl) rfl ?_
         refine WPL.q (q_pickF (v := .lit (.bool _)) (lb hb4825) rfl) rfl ?_
         refine WPL.nilW ?_
         have q0 := (Option.some.inj H)
         subst q0
         exact W.wk [0] hnp ⟨rfl, rfl, rfl⟩ ⟨rfl, ⟨trivial, .inr ⟨rfl, rfl, rfl⟩⟩, by decide, rfl, trivial⟩ (LeE.upd rfl rfl (LeE.upd rfl rfl (LeE.upd rfl rfl (LeE.upd rfl rfl (LeE.upd rfl rfl (LeE.upd rfl rfl (LeE.upd rfl rfl (LeE.upd rfl rfl (LeE.upd rfl rfl (LeE.none rfl rfl)))))))))) rfl
       rintro _ _ _ ⟨rfl, rfl, rfl⟩
       refine W.now ?_
       refine Then.n ?_
       refine WP.cond (t := x4825) rfl (fun hb4827 => ?_) (fun hb4827 => ?_)
       · replace H := cnt hb4827 H
         refine WP.seq ?_
         refine WP.region ?_
         refine WPL.q (q_as (v := .lit _) rfl) rfl ?_
         refine WPL.q (q_as (v := .lit (.int _ _)) rfl) rfl ?_
         refine WPL.nilW ?_
         refine W.now ?_
         refine Then.n ?_
         refine WP.retW ?_
         have q0 := Option.some.inj H
         subst q0
         exact W.wk [] hnp (Then.r (InBlock.r ⟨rfl, rfl, rfl⟩)) ⟨rfl, trivial, by decide, rfl, trivial⟩ (LeE.upd rfl rfl (LeE.upd rfl rfl (LeE.none rfl rfl))) rfl
       replace H := cnf hb4827 H
       refine WP.skipW ?_
       refine W.now ?_
       refine Then.n ?_
       refine WP.seq ?_
       refine WP.region ?_
       refine WPL.q (q_mv (v := .lit (.int _ _)) rfl) rfl ?_
       refine WPL.q (q_gtr rfl rfl) rfl ?_
       refine WPL.nilW ?_
       refine W.now ?_
       refine Then.n ?_
       refine WP.cond (t := (decide (0 < x4818))) rfl (fun hb4828 => ?_) (fun hb4828 => ?_)
       · replace H := cnt hb4828 H
         refine WP.region ?_
         refine WPL.q (q_mv (v := .whole _) rfl) rfl ?_
         refine WPL.q (q_mv (v := .lit (.int _ _)) rfl) rfl ?_
         refine WPL.q (q_mv (v := .lit (.int _ _)) rfl) rfl ?_
         refine WPL.d (d_buildSlice (ds := ([x4766] : List Int)) (R := (Rd.int .i64)) li22 rfl rfl rfl rfl rfl (JoinRows.cons1 Joins.sc rfl JoinRows.nil) rfl rfl) rfl ?_
         refine WPL.q (q_build bu34 rfl) rfl ?_
         refine WPL.cv (Cv.frzRow (i := 1) rfl rfl hnp rfl rfl) ?_
         refine WPL.d (d_buildSlice (ds := ([(⟨x4818, ([x4766] : List Int)⟩ : S_huff_coin)] : List S_huff_coin)) (R := rdS_huff_coin) li32 rfl rfl rfl rfl rfl (JoinRows.cons (l := [.lit (.int .i64 x4818), .ro (Rd.slice (Rd.int .i64)) false ([x4766] : List Int)]) (Joins.via (Joins.cons Joins.sc (Joins.cons Joins.one Joins.unit))) rfl JoinRows.nil) rfl rfl) rfl ?_
         obtain ⟨h4829, H⟩ := grd H
         refine WPL.d (d_append ap32 rfl rfl rfl rfl (src_row sl32 rfl rfl) h4829 rfl) rfl ?_
         refine WPL.q (q_as (v := .whole _) rfl) rfl ?_
         refine WPL.nilW ?_
         have q0 := Option.some.inj H
         subst q0
         exact W.wk [3] hnp (InBlock.n ⟨rfl, rfl, rfl⟩) ⟨rfl, ⟨trivial, .inr ⟨rfl, rfl, rfl⟩⟩, by decide, rfl, trivial⟩ (LeE.upd rfl rfl (LeE.upd rfl rfl (LeE.upd rfl rfl (LeE.upd rfl rfl (LeE.upd rfl rfl (LeE.upd rfl rfl (LeE.none rfl rfl))))))) rfl
       replace H := cnf hb4828 H
       refine WP.skipW ?_
       have q0 := Option.some.inj H
       subst q0
       exact W.wk [0] hnp (InBlock.n ⟨rfl, rfl, rfl⟩) ⟨rfl, ⟨trivial, .inr ⟨rfl, rfl, rfl⟩⟩, by decide, rfl, trivial⟩ (LeE.upd rfl rfl (LeE.upd rfl rfl (LeE.upd rfl rfl (LeE.upd rfl rfl (LeE.upd rfl rfl (LeE.upd rfl rfl (LeE.none rfl rfl))))))) rfl
     rcases y4832 with _ | x4817
     · rintro _ _ _ ⟨rfl, rfl, rfl⟩
       have q0 := Option.some.inj H
       subst q0
       exact W.wk [] hnp (Then.r (Then.r ⟨rfl, rfl, rfl⟩)) ⟨rfl, trivial, by decide, rfl, trivial⟩ (LeE.upd rfl rfl (LeE.upd rfl rfl (LeE.none rfl rfl))) rfl
     rintro _ _ _ ⟨rfl, rfl, rfl⟩
     refine W.now ?_
     refine Then.n ?_
     refine WP.region ?_
     refine WPL.q (q_add rfl rfl) rfl ?_
     refine WPL.q (q_mv (v := .lit (.int _ _)) rfl) rfl ?_
     refine WPL.nilW ?_
     exact W.wk [0] hnp (Then.n ⟨n, ((IntKind.wrap .i64 (x4766 + 1)), x4817), Nat.lt_succ_self n, H, rfl, rfl⟩) ⟨rfl, ⟨trivial, .inr ⟨rfl, rfl, rfl⟩⟩, by decide, rfl, trivial⟩ (LeE.upd rfl rfl (LeE.upd rfl rfl (LeE.upd rfl rfl (LeE.upd rfl rfl (LeE.upd rfl rfl (LeE.upd rfl rfl (LeE.none rfl rfl))))))) rfl
   replace H := cnf hb4802 H
   refine WP.exitW ?_
   have q0 := Option.some.inj H
   subst q0
   exact W.wk [0] hnp (Then.x (Then.x ⟨rfl, rfl, rfl⟩)) ⟨rfl, ⟨trivial, .inr ⟨rfl, rfl, rfl⟩⟩, by decide, rfl, trivial⟩ (LeE.upd rfl rfl (LeE.upd rfl rfl (LeE.upd rfl rfl (LeE.none rfl rfl)))) rfl
 rcases y4834 with _ | x4800
 · rintro _ _ _ ⟨rfl, rfl, rfl⟩
   refine W.cv (Cv.nilRo (Rd.int .i64) false 4 rfl) rfl ?_
   have q0 := Option.some.inj H
   subst q0
   exact W.now (InBlock.r (Then.r (BodyR.mkR trivial rfl [] ⟨rfl, rfl⟩ ⟨rfl, trivial, by decide, rfl, trivial⟩ rfl rfl)))
 rintro _ _ _ ⟨rfl, rfl, rfl⟩
 refine W.now ?_
 refine InBlock.x0 ?_
 refine Then.n ?_
 refine WP.seq ?_
 refine WP.seq ?_
 refine WP.region ?_
 refine WPL.q (q_mv (v := .whole _) rfl) rfl ?_
 refine WPL.q (q_len_row sl32 rfl rfl) rfl ?_
 refine WPL.q (q_mv (v := .lit (.int _ _)) rfl) rfl ?_
 obtain ⟨h4837, H⟩ := grd H
 refine WPL.q (q_shl rfl rfl h4837) rfl ?_
 obtain ⟨x4839, h4839, H⟩ := bnd H
 refine WPL.q (q_nm (q_gtr rfl rfl) (nm_bool h4839)) rfl ?_
 refine WPL.nilW ?_
 refine W.now ?_
 refine Then.n ?_
 refine WP.cond (t := x4839) rfl (fun hb4839 => ?_) (fun hb4839 => ?_)
 · replace H := cnt hb4839 H
   refine WP.seq ?_
   refine WP.region ?_
   refine WPL.q (q_as (v := .lit _) rfl) rfl ?_
   refine WPL.q (q_as (v := .lit (.int _ _)) rfl) rfl ?_
   refine WPL.nilW ?_
   refine W.now ?_
   refine Then.n ?_
   refine WP.retW ?_
   refine W.cv (Cv.nilRo (Rd.int .i64) false 4 rfl) rfl ?_
   have q0 := Option.some.inj H
   subst q0
   exact W.now (Then.r (BodyR.mkR trivial rfl [] ⟨rfl, rfl⟩ ⟨rfl, trivial, by decide, rfl, trivial⟩ rfl rfl))
 replace H := cnf hb4839 H
 refine WP.skipW ?_
 refine W.now ?_
 refine Then.n ?_
 refine WP.seq ?_
 refine WP.region ?_
 refine WPL.q (q_mv (v := .ro _ _ _) rfl) rfl ?_
 refine WPL.q (q_len_ro sl22 rfl) rfl ?_
 obtain ⟨h4840, H⟩ := grd H
 refine WPL.d (d_make (d := (0 : Int)) (R := (Rd.int .i64)) li22 by3 rfl rfl rfl Joins.sc rfl rfl h4840 rfl) rfl ?_
 refine WPL.q (q_as (v := .whole _) rfl) rfl ?_
 refine WPL.nilW ?_
 refine W.now ?_
 refine Then.n ?_
 refine WP.seq ?_
 refine WP.seq ?_
 refine WP.region ?_
 refine WPL.q (q_mv (v := .whole _) rfl) rfl ?_
 refine WPL.q (q_len_row sl32 rfl rfl) rfl ?_
 obtain ⟨x4847, h4847, H⟩ := bnd H
 refine WPL.q (q_nm (q_eql rfl rfl) (nm_bool h4847)) rfl ?_
 refine WPL.nilW ?_
 refine W.now ?_
 refine Then.n ?_
 refine WP.cond (t := x4847) rfl (fun hb4847 => ?_) (fun hb4847 => ?_)
 · replace H := cnt hb4847 H
   refine WP.seq ?_
   refine WP.region ?_
   refine WPL.q (q_mv (v := .whole _) rfl) rfl ?_
   refine WPL.q (q_mv (v := .whole _) rfl) rfl ?_
   obtain ⟨x4849, h4849, H⟩ := bnd H
   refine WPL.q (q_index_row sl32 rfl rfl rfl (ixs h4849)) rfl ?_
   refine WPL.q (q_fieldAddr fi34_1 rfl rfl) rfl ?_
   refine WPL.q (q_load_rowr (j := (Int.toNat 0)) (n := 2) (off := 1) (d := x4849) sc22 rfl rfl (ixj h4849) rfl S_huff_coin.p1 rfl) rfl ?_
   obtain ⟨x4850, h4850, H⟩ := bnd H
   refine WPL.q (q_index_ro sl22 rfl rfl rfl h4850) rfl ?_
   refine WPL.q (q_load_sc sc3 rfl) rfl ?_
   obtain ⟨x4851, h4851, H⟩ := bnd H
   refine WPL.q (q_index_row sl22 rfl rfl rfl (ixs h4851)) rfl ?_
   refine WPL.s (s_store_row (j := (Int.toNat x4850)) (d := 1) sz3 rfl rfl rfl rfl Joins.sc (ixl h4851)) ?_
   refine WPL.nilW ?_
   refine W.now ?_
   refine Then.n ?_
   refine WP.seq ?_
   refine WP.region ?_
   refine WPL.q (q_mv (v := .whole _) rfl) rfl ?_
   refine WPL.q (q_as (v := .whole _) rfl) rfl ?_
   refine WPL.q (q_as (v := .lit (.int _ _)) rfl) rfl ?_
   refine WPL.nilW ?_
   refine W.now ?_
   refine Then.n ?_
   refine WP.retW ?_
   refine W.cv (Cv.frzRow (i := 1) rfl rfl hnp rfl rfl) rfl ?_
   have q0 := Option.some.inj H
   subst q0
   exact W.now (Then.r (BodyR.mkR trivial rfl [] ⟨rfl, rfl⟩ ⟨rfl, trivial, by decide, rfl, trivial⟩ rfl rfl))
 replace H := cnf hb4847 H
 refine WP.skipW ?_
 refine W.now ?_
 refine Then.n ?_
 refine WP.seq ?_
 refine WP.region ?_
 refine WPL.q (q_as (v := .fn _ _) rfl) rfl ?_
 refine WPL.nilW ?_
 refine W.now ?_
 refine Then.n ?_
 refine WP.seq ?_
 refine WP.region ?_
 refine WPL.q (q_mv (v := .whole _) rfl) rfl ?_
 refine WPL.q (q_mv (v := .fn _ _) rfl) rfl ?_
 obtain ⟨x4853, h4851, H⟩ := bnd H
 refine WPL.c (runs_call (s := [0]) (t := [0]) (N := 2) (bor := []) fn11 rfl (s_slices_SortStableFunc_huff_coin_huff_coin k x4800 x4853 h4851) ⟨rfl, ⟨trivial, .inr ⟨rfl, rfl, rfl⟩⟩, by decide, rfl, trivial⟩ rfl trivial (.ren rfl rfl (.ren rfl rfl .nil)) rfl ⟨trivial, rfl⟩ rfl) rfl ?_
 refine WPL.nilW ?_
 refine W.now ?_
 refine Then.n ?_
 refine WP.seq ?_
 refine WP.region ?_
 refine WPL.q (q_as (v := .lit _) rfl) rfl ?_
 refine WPL.nilW ?_
 refine W.now ?_
 refine Then.n ?_
 refine WP.seq ?_
 refine WP.seq ?_
 refine WP.region ?_
 refine WPL.q (q_mv (v := .lit (.int _ _)) rfl) rfl ?_
 refine WPL.q (q_mv (v := .lit (.int _ _)) rfl) rfl ?_
 refine WPL.nilW ?_
 refine W.now ?_
 refine Then.n ?_
 refine WP.block ?_
 refine WP.cv (Cv.vir 34 rdS_huff_coin (N := 2) rfl 11 rfl) ?_
 refine WP.cv (Cv.weak (E' := ((((((Env.none.upd 6 (.whole 0)).upd 9 (.whole 1)).upd 10 (.fn 9 [])).upd 11 (.whole 2)).upd 74 (.lit (.int .i64 x4338))).upd 75 (.lit (.int .i64 0)))) (M' := (((Mem.nil.push (.row 34 rdS_huff_coin x4853)).push (.row 3 (Rd.int .i64) (List.replicate (Int.toNat ((List.length x4337 : Nat) : Int)) (0 : Int)))).push (.row 34 rdS_huff_coin ([] : List S_huff_coin)))) [0, 1, 2] hnp ⟨rfl, ⟨⟨⟨trivial, .inr ⟨rfl, rfl, rfl⟩⟩, .inr ⟨rfl, rfl, rfl⟩⟩, .inr ⟨rfl, rfl, rfl⟩⟩, by decide, rfl, trivial⟩ (LeE.upd rfl rfl (LeE.upd rfl rfl (LeE.upd rfl rfl (LeE.upd rfl rfl (LeE.upd rfl rfl (LeE.upd rfl rfl (LeE.none rfl rfl)))))))) ?_
 obtain ⟨y5102, H5100, H⟩ := bnd H
 refine WP.monoW (Q := fun x E M => match (generalizing := false) y5102 with | (Sum.inl x5003) => x = .panic (.ifc 9 (.lit (.string x5003))) ∧ E = Env.none ∧ M = Mem.nil | (Sum.inr x5004) => x = .exit 2 ∧ E = (((Env.none.upd 6 (.whole 0)).upd 9 (.whole 1)).upd 11 (.whole 2)) ∧ M = (((Mem.nil.push (.row 34 rdS_huff_coin x4853)).push (.row 3 (Rd.int .i64) (List.replicate (Int.toNat ((List.length x4337 : Nat) : Int)) (0 : Int)))).push (.row 34 rdS_huff_coin x5004))) ?_ ?_
 · refine WP.loop (β := Int × (List S_huff_coin)) (fun n b => g_huff_Lengths_l1 k x4338 x4853 n b.1 b.2 = some y5102) (fun b => ((((((Env.none.upd 6 (.whole 0)).upd 9 (.whole 1)).upd 10 (.fn 9 [])).upd 11 (.whole 2)).upd 74 (.lit (.int .i64 x4338))).upd 75 (.lit (.int .i64 b.1)))) (fun b => (((Mem.nil.push (.row 34 rdS_huff_coin x4853)).push (.row 3 (Rd.int .i64) (List.replicate (Int.toNat ((List.length x4337 : Nat) : Int)) (0 : Int)))).push (.row 34 rdS_huff_coin b.2))) k (0, ([] : List S_huff_coin)) H5100 rfl rfl ?_
   rintro n ⟨x4933, x4934⟩ H
   obtain _ | n := n
   · exact nf rfl H
   rw [g_huff_Lengths_l1.eq_2] at H
   show WP _ _ _ _ ((((((Env.none.upd 6 (.whole 0)).upd 9 (.whole 1)).upd 10 (.fn 9 [])).upd 11 (.whole 2)).upd 74 (.lit (.int .i64 x4338))).upd 75 (.lit (.int .i64 x4933))) (((Mem.nil.push (.row 34 rdS_huff_coin x4853)).push (.row 3 (Rd.int .i64) (List.replicate (Int.toNat ((List.length x4337 : Nat) : Int)) (0 : Int)))).push (.row 34 rdS_huff_coin x4934)) _
   refine WP.seq ?_
   refine WP.region ?_
   refine WPL.q (q_lss rfl rfl) rfl ?_
   refine WPL.nilW ?_
   refine W.now ?_
   refine Then.n ?_
   refine WP.seq ?_
   refine WP.cond (t := (decide (x4933 < x4338))) rfl (fun hb5005 => ?_) (fun hb5005 => ?_)
   · replace H := cnt hb5005 H
     refine WP.skipW ?_
     refine W.now ?_
     refine Then.n ?_
     refine WP.seq ?_
     refine WP.block ?_
     refine WP.seq ?_
     refine WP.region ?_
     refine WPL.q (q_mv (v := .whole _) rfl) rfl ?_
     obtain ⟨x5008, h5006, H⟩ := bnd H
     refine WPL.c (runs_call (s := [0]) (t := [0, 3]) (N := 4) (bor := []) fn12 rfl (s_slices_Clone_huff_coin_huff_coin k x4853 x5008 h5006) ⟨rfl, ⟨trivial, .inr ⟨rfl, rfl, rfl⟩⟩, by decide, rfl, trivial⟩ rfl trivial (.ren rfl rfl .nil) rfl ⟨⟨trivial, rfl⟩, rfl⟩ rfl) rfl ?_
     refine WPL.q (q_as (v := .whole _) rfl) rfl ?_
     refine WPL.nilW ?_
     refine W.now ?_
     refine Then.n ?_
     refine WP.seq ?_
     refine WP.seq ?_
     refine WP.region ?_
     refine WPL.q (q_as (v := .lit (.int _ _)) rfl) rfl ?_
     refine WPL.nilW ?_
     refine W.now ?_
     refine Then.n ?_
     refine WP.block ?_
     refine WP.cv (Cv.weak (E' := ((((((((Env.none.upd 6 (.whole 0)).upd 9 (.whole 1)).upd 10 (.fn 9 [])).upd 11 (.whole 2)).upd 12 (.whole 3)).upd 13 (.lit (.int .i64 0))).upd 74 (.lit (.int .i64 x4338))).upd 75 (.lit (.int .i64 x4933)))) (M' := ((((Mem.nil.push (.row 34 rdS_huff_coin x4853)).push (.row 3 (Rd.int .i64) (List.replicate (Int.toNat ((List.length x4337 : Nat) : Int)) (0 : Int)))).push (.row 34 rdS_huff_coin x4934)).push (.row 34 rdS_huff_coin x5008))) [0, 1, 2, 3] hnp ⟨rfl, ⟨⟨⟨⟨trivial, .inr ⟨rfl, rfl, rfl⟩⟩, .inr ⟨rfl, rfl, rfl⟩⟩, .inr ⟨rfl, rfl, rfl⟩⟩, .inr ⟨rfl, rfl, rfl⟩⟩, by decide, rfl, trivial⟩ (LeE.upd rfl rfl (LeE.upd rfl rfl (LeE.upd rfl rfl (LeE.upd rfl rfl (LeE.upd rfl rfl (LeE.upd rfl rfl (LeE.upd rfl rfl (LeE.upd rfl rfl (LeE.none rfl rfl)))))))))) ?_
     obtain ⟨y5098, H5096, H⟩ := bnd H
     refine WP.monoW (Q := fun x E M => match (generalizing := false) y5098 with | (Sum.inl x5067) => x = .panic (.ifc 9 (.lit (.string x5067))) ∧ E = Env.none ∧ M = Mem.nil | (Sum.inr x5068) => x = .exit 4 ∧ E = ((((((Env.none.upd 6 (.whole 0)).upd 9 (.whole 1)).upd 10 (.fn 9 [])).upd 12 (.whole 2)).upd 74 (.lit (.int .i64 x4338))).upd 75 (.lit (.int .i64 x4933))) ∧ M = (((Mem.nil.push (.row 34 rdS_huff_coin x4853)).push (.row 3 (Rd.int .i64) (List.replicate (Int.toNat ((List.length x4337 : Nat) : Int)) (0 : Int)))).push (.row 34 rdS_huff_coin x5068))) ?_ ?_
     · refine WP.loop (β := Int × (List S_huff_coin)) (fun n b => g_huff_Lengths_l2 k x4934 n b.1 b.2 = some y5098) (fun b => ((((((((Env.none.upd 6 (.whole 0)).upd 9 (.whole 1)).upd 10 (.fn 9 [])).upd 11 (.whole 2)).upd 12 (.whole 3)).upd 13 (.lit (.int .i64 b.1))).upd 74 (.lit (.int .i64 x4338))).upd 75 (.lit (.int .i64 x4933)))) (fun b => ((((Mem.nil.push (.row 34 rdS_huff_coin x4853)).push (.row 3 (Rd.int .i64) (List.replicate (Int.toNat ((List.length x4337 : Nat) : Int)) (0 : Int)))).push (.row 34 rdS_huff_coin x4934)).push (.row 34 rdS_huff_coin b.2))) k (0, x5008) H5096 rfl rfl ?_
       rintro n ⟨x5037, x5038⟩ H
       obtain _ | n := n
       · exact nf rfl H
       rw [g_huff_Lengths_l2.eq_2] at H
       show WP _ _ _ _ ((((((((Env.none.upd 6 (.whole 0)).upd 9 (.whole 1)).upd 10 (.fn 9 [])).upd 11 (.whole 2)).upd 12 (.whole 3)).upd 13 (.lit (.int .i64 x5037))).upd 74 (.lit (.int .i64 x4338))).upd 75 (.lit (.int .i64 x4933))) ((((Mem.nil.push (.row 34 rdS_huff_coin x4853)).push (.row 3 (Rd.int .i64) (List.replicate (Int.toNat ((List.length x4337 : Nat) : Int)) (0 : Int)))).push (.row 34 rdS_huff_coin x4934)).push (.row 34 rdS_huff_coin x5038)) _
       refine WP.seq ?_
       refine WP.seq ?_
       refine WP.region ?_
       refine WPL.q (q_mv (v := .lit (.int _ _)) rfl) rfl ?_
       refine WPL.q (q_add rfl rfl) rfl ?_
       refine WPL.q (q_mv (v := .whole _) rfl) rfl ?_
       refine WPL.q (q_len_row sl32 rfl rfl) rfl ?_
       obtain ⟨x5071, h5071, H⟩ := bnd H
       refine WPL.q (q_nm (q_lss rfl rfl) (nm_bool h5071)) rfl ?_
       refine WPL.nilW ?_
       refine W.now ?_
       refine Then.n ?_
       refine WP.cond (t := x5071) rfl (fun hb5071 => ?_) (fun hb5071 => ?_)
       · replace H := cnt hb5071 H
         refine WP.skipW ?_
         refine W.now ?_
         refine Then.n ?_
         refine WP.seq ?_
         refine WP.block ?_
         refine WP.regionD' 30 [2] [] mixed rfl ?_
         refine WPD.takeT 0 rfl (by kernel_rfl) (q_mv (v := .whole _) rfl) rfl ?_
         refine WPD.takeT 1 rfl (by kernel_rfl) (q_mv (v := .whole _) rfl) rfl ?_
         refine WPD.takeT 2 rfl (by kernel_rfl) (q_mv (v := .lit (.int _ _)) rfl) rfl ?_
         obtain ⟨x5087, h5087, H⟩ := bnd H
         refine WPD.takeT 3 rfl (by kernel_rfl) (q_index_row sl32 rfl rfl rfl (ixs h5087)) rfl ?_
         refine WPD.takeT 4 rfl (by kernel_rfl) (q_fieldAddr fi34_0 rfl rfl) rfl ?_
         refine WPD.takeT 6 rfl (by kernel_rfl) (q_mv (v := .whole _) rfl) rfl ?_
         refine WPD.takeT 7 rfl (by kernel_rfl) (q_mv (v := .lit (.int _ _)) rfl) rfl ?_
         refine WPD.takeT 8 rfl (by kernel_rfl) (q_add rfl rfl) rfl ?_
         obtain ⟨x5088, h5088, H⟩ := bnd H
         refine WPD.takeT 9 rfl (by kernel_rfl) (q_index_row sl32 rfl rfl rfl (ixs h5088)) rfl ?_
         refine WPD.takeT 10 rfl (by kernel_rfl) (q_fieldAddr fi34_0 rfl rfl) rfl ?_
         refine WPD.takeT 13 rfl (by kernel_rfl) (q_mv (v := .whole _) rfl) rfl ?_
         refine WPD.takeT 14 rfl (by kernel_rfl) (q_mv (v := .lit (.int _ _)) rfl) rfl ?_
         obtain ⟨x5089, h5089, H⟩ := bnd H
         refine WPD.takeT 15 rfl (by kernel_rfl) (q_index_row sl32 rfl rfl rfl (ixs h5089)) rfl ?_
         refine WPD.takeT 16 rfl (by kernel_rfl) (q_fieldAddr fi34_1 rfl rfl) rfl ?_
         refine WPD.takeT 18 rfl (by kernel_rfl) (q_mv (v := .whole _) rfl) rfl ?_
         refine WPD.takeT 19 rfl (by kernel_rfl) (q_mv (v := .lit (.int _ _)) rfl) rfl ?_
         refine WPD.takeT 20 rfl (by kernel_rfl) (q_add rfl rfl) rfl ?_
         obtain ⟨x5090, h5090, H⟩ := bnd H
         refine WPD.takeT 21 rfl (by kernel_rfl) (q_index_row sl32 rfl rfl rfl (ixs h5090)) rfl ?_
         refine WPD.takeT 22 rfl (by kernel_rfl) (q_fieldAddr fi34_1 rfl rfl) rfl ?_
         refine WPD.take 5 rfl (by kernel_rfl) (q_load_rowf (j := (Int.toNat x5037)) (n := 2) (off := 0) (d := x5087) sc3 rfl rfl (ixj h5087) rfl S_huff_coin.p0) rfl rfl ?_
         refine WPD.take 11 rfl (by kernel_rfl) (q_load_rowf (j := (Int.toNat (IntKind.wrap .i64 (x5037 + 1)))) (n := 2) (off := 0) (d := x5088) sc3 rfl rfl (ixj h5088) rfl S_huff_coin.p0) rfl rfl ?_
         obtain ⟨x5091, h5091, H⟩ := bnd H
         refine WPD.takeT 12 rfl (by kernel_rfl) (q_nm (q_add rfl rfl) (nm_int h5091)) rfl ?_
         refine WPD.take 17 rfl (by kernel_rfl) (q_load_rowr (j := (Int.toNat x5037)) (n := 2) (off := 1) (d := x5089) sc22 rfl rfl (ixj h5089) rfl S_huff_coin.p1 rfl) rfl rfl ?_
         refine WPD.take 23 rfl (by kernel_rfl) (q_load_rowr (j := (Int.toNat (IntKind.wrap .i64 (x5037 + 1)))) (n := 2) (off := 1) (d := x5090) sc22 rfl rfl (ixj h5090) rfl S_huff_coin.p1 rfl) rfl rfl ?_
         refine WPD.eff 24 [2] [] rfl (by kernel_rfl) (Does.runs (d_buildSlice (ds := ([x5089.fsyms, x5090.fsyms] : List (List Int))) (R := (Rd.slice (Rd.int .i64))) li52 rfl rfl rfl rfl rfl (JoinRows.cons (l := [.ro (Rd.slice (Rd.int .i64)) false x5089.fsyms]) Joins.one rfl (JoinRows.cons (l := [.ro (Rd.slice (Rd.int .i64)) false x5090.fsyms]) Joins.one rfl JoinRows.nil)) rfl rfl)) rfl rfl ?_
         obtain ⟨y5095, h5091, H⟩ := bnd H
         rcases y5095 with x5093 | x5094
         · refine WPD.pW 25 rfl (by kernel_rfl) (runs_callP (s := [4]) (t := [4]) (N := 5) (bor := []) fn13 rfl (s_slices_Concat_int_int k ([x5089.fsyms, x5090.fsyms] : List (List Int)) (Sum.inl x5093) h5091) ⟨rfl, ⟨trivial, .inr ⟨rfl, rfl, rfl⟩⟩, by decide, rfl, trivial⟩ rfl trivial (.ren rfl rfl .nil) rfl ⟨trivial, rfl⟩ rfl) ?_
           have q0 := Option.some.inj H
           subst q0
           exact W.wkP [] hnp (InBlock.p (Then.p (Then.p ⟨rfl, rfl, rfl⟩))) ⟨rfl, trivial, by decide, rfl, trivial⟩ (LeE.none rfl rfl) rfl rfl
         refine WPD.eff 25 [2] [] rfl (by kernel_rfl) (runs_call (s := [4]) (t := [4]) (N := 5) (bor := []) fn13 rfl (s_slices_Concat_int_int k ([x5089.fsyms, x5090.fsyms] : List (List Int)) (Sum.inr x5094) h5091) ⟨rfl, ⟨trivial, .inr ⟨rfl, rfl, rfl⟩⟩, by decide, rfl, trivial⟩ rfl trivial (.ren rfl rfl .nil) rfl ⟨trivial, rfl⟩ rfl) rfl rfl ?_
         refine WPD.takeT 26 rfl (by kernel_rfl) (q_build bu34 rfl) rfl ?_
         refine WPD.eff 27 [2] [] rfl (by kernel_rfl) (Does.runs (d_buildSlice (ds := ([(⟨x5091, x5094⟩ : S_huff_coin)] : List S_huff_coin)) (R := rdS_huff_coin) li32 rfl rfl rfl rfl rfl (JoinRows.cons (l := [.lit (.int .i64 x5091), .ro (Rd.slice (Rd.int .i64)) false x5094]) (Joins.via (Joins.cons Joins.sc (Joins.cons Joins.one Joins.unit))) rfl JoinRows.nil) rfl rfl)) rfl rfl ?_
         obtain ⟨h5095, H⟩ := grd H
         refine WPD.eff 28 [2] [] rfl (by kernel_rfl) (Does.runs (d_append ap32 rfl rfl rfl rfl (src_row sl32 rfl rfl) h5095 rfl)) rfl rfl ?_
         refine WPD.takeT 29 rfl (by kernel_rfl) (q_as (v := .whole _) rfl) rfl ?_
         refine WPD.doneW (by kernel_rfl) ?_
         refine W.now ?_
         refine InBlock.n ?_
         refine Then.n ?_
         refine WP.region ?_
         refine WPL.q (q_mv (v := .lit (.int _ _)) rfl) rfl ?_
         refine WPL.q (q_add rfl rfl) rfl ?_
         refine WPL.q (q_as (v := .lit (.int _ _)) rfl) rfl ?_
         refine WPL.nilW ?_
         exact W.wk [0, 1, 2, 6] hnp (Then.n ⟨n, ((IntKind.wrap .i64 (x5037 + 2)), (x5038 ++ ([(⟨x5091, x5094⟩ : S_huff_coin)] : List S_huff_coin))), Nat.lt_succ_self n, H, rfl, rfl⟩) ⟨rfl, ⟨⟨⟨⟨trivial, .inr ⟨rfl, rfl, rfl⟩⟩, .inr ⟨rfl, rfl, rfl⟩⟩, .inr ⟨rfl, rfl, rfl⟩⟩, .inr ⟨rfl, rfl, rfl⟩⟩, by decide, rfl, trivial⟩ (LeE.upd rfl rfl (LeE.upd rfl rfl (LeE.upd rfl rfl (LeE.upd rfl rfl (LeE.upd rfl rfl (LeE.upd rfl rfl (LeE.upd rfl rfl (LeE.upd rfl rfl (LeE.none rfl rfl))))))))) rfl
       replace H := cnf hb5071 H
       refine WP.exitW ?_
       have q0 := Option.some.inj H
       subst q0
       exact W.wk [0, 1, 3] hnp (Then.x (Then.x ⟨rfl, rfl, rfl⟩)) ⟨rfl, ⟨⟨⟨trivial, .inr ⟨rfl, rfl, rfl⟩⟩, .inr ⟨rfl, rfl, rfl⟩⟩, .inr ⟨rfl, rfl, rfl⟩⟩, by decide, rfl, trivial⟩ (LeE.upd rfl rfl (LeE.upd rfl rfl (LeE.upd rfl rfl (LeE.upd rfl rfl (LeE.upd rfl rfl (LeE.upd rfl rfl (LeE.none rfl rfl))))))) rfl
     rcases y5098 with x5067 | x5068
     · rintro _ _ _ ⟨rfl, rfl, rfl⟩
       have q0 := Option.some.inj H
       subst q0
       exact W.wkP [] hnp (InBlock.p (Then.p (InBlock.p (Then.p (Then.p ⟨rfl, rfl, rfl⟩))))) ⟨rfl, trivial, by decide, rfl, trivial⟩ (LeE.none rfl rfl) rfl rfl
     rintro _ _ _ ⟨rfl, rfl, rfl⟩
     refine W.now ?_
     refine InBlock.x0 ?_
     refine Then.n ?_
     refine WP.seq ?_
     refine WP.region ?_
     refine WPL.q (q_mv (v := .whole _) rfl) rfl ?_
     refine WPL.q (q_mv (v := .fn _ _) rfl) rfl ?_
     obtain ⟨x5100, h5098, H⟩ := bnd H
     refine WPL.c (runs_call (s := [2]) (t := [2]) (N := 3) (bor := []) fn11 rfl (s_slices_SortStableFunc_huff_coin_huff_coin k x5068 x5100 h5098) ⟨rfl, ⟨trivial, .inr ⟨rfl, rfl, rfl⟩⟩, by decide, rfl, trivial⟩ rfl trivial (.ren rfl rfl (.ren rfl rfl .nil)) rfl ⟨trivial, rfl⟩ rfl) rfl ?_
     refine WPL.nilW ?_
     refine W.now ?_
     refine Then.n ?_
     refine WP.region ?_
     refine WPL.q (q_mv (v := .whole _) rfl) rfl ?_
     refine WPL.q (q_as (v := .whole _) rfl) rfl ?_
     refine WPL.nilW ?_
     refine W.now ?_
     refine InBlock.n ?_
     refine Then.n ?_
     refine WP.region ?_
     refine WPL.q (q_add rfl rfl) rfl ?_
     refine WPL.q (q_mv (v := .lit (.int _ _)) rfl) rfl ?_
     refine WPL.nilW ?_
     exact W.wk [0, 1, 2] hnp (Then.n ⟨n, ((IntKind.wrap .i64 (x4933 + 1)), x5100), Nat.lt_succ_self n, H, rfl, rfl⟩) ⟨rfl, ⟨⟨⟨trivial, .inr ⟨rfl, rfl, rfl⟩⟩, .inr ⟨rfl, rfl, rfl⟩⟩, .inr ⟨rfl, rfl, rfl⟩⟩, by decide, rfl, trivial⟩ (LeE.upd rfl rfl (LeE.upd rfl rfl (LeE.upd rfl rfl (LeE.upd rfl rfl (LeE.upd rfl rfl (LeE.upd rfl rfl (LeE.none rfl rfl))))))) rfl
   replace H := cnf hb5005 H
   refine WP.exitW ?_
   have q0 := Option.some.inj H
   subst q0
   exact W.wk [0, 1, 2] hnp (Then.x (Then.x ⟨rfl, rfl, rfl⟩)) ⟨rfl, ⟨⟨⟨trivial, .inr ⟨rfl, rfl, rfl⟩⟩, .inr ⟨rfl, rfl, rfl⟩⟩, .inr ⟨rfl, rfl, rfl⟩⟩, by decide, rfl, trivial⟩ (LeE.upd rfl rfl (LeE.upd rfl rfl (LeE.upd rfl rfl (LeE.none rfl rfl)))) rfl
 rcases y5102 with x5003 | x5004
 · rintro _ _ _ ⟨rfl, rfl, rfl⟩
   have q0 := Option.some.inj H
   subst q0
   exact W.now (InBlock.p (Then.p (BodyR.mkP trivial [] ⟨rfl, rfl⟩ ⟨rfl, trivial, by decide, rfl, trivial⟩ rfl rfl)))
 rintro _ _ _ ⟨rfl, rfl, rfl⟩
 refine W.now ?_
 refine InBlock.x0 ?_
 refine Then.n ?_
 refine WP.seq ?_
 refine WP.seq ?_
 refine WP.region ?_
 refine WPL.q (q_as (v := .lit (.int _ _)) rfl) rfl ?_
 refine WPL.nilW ?_
 refine W.now ?_
 refine Then.n ?_
 refine WP.block ?_
 refine WP.cv (Cv.weak (E' := ((((Env.none.upd 6 (.whole 0)).upd 9 (.whole 1)).upd 11 (.whole 2)).upd 14 (.lit (.int .i64 0)))) (M' := (((Mem.nil.push (.row 34 rdS_huff_coin x4853)).push (.row 3 (Rd.int .i64) (List.replicate (Int.toNat ((List.length x4337 : Nat) : Int)) (0 : Int)))).push (.row 34 rdS_huff_coin x5004))) [0, 1, 2] hnp ⟨rfl, ⟨⟨⟨trivial, .inr ⟨rfl, rfl, rfl⟩⟩, .inr ⟨rfl, rfl, rfl⟩⟩, .inr ⟨rfl, rfl, rfl⟩⟩, by decide, rfl, trivial⟩ (LeE.upd rfl rfl (LeE.upd rfl rfl (LeE.upd rfl rfl (LeE.upd rfl rfl (LeE.none rfl rfl)))))) ?_
 obtain ⟨x5151, H5180, H⟩ := bnd H
 refine WP.monoW (Q := fun x E M => x = .exit 6 ∧ E = (Env.none.upd 9 (.whole 0)) ∧ M = (Mem.nil.push (.row 3 (Rd.int .i64) x5151))) ?_ ?_
 · refine WP.loop (β := Int × (List Int)) (fun n b => g_huff_Lengths_l3 k x4853 x5004 n b.1 b.2 = some x5151) (fun b => ((((Env.none.upd 6 (.whole 0)).upd 9 (.whole 1)).upd 11 (.whole 2)).upd 14 (.lit (.int .i64 b.1)))) (fun b => (((Mem.nil.push (.row 34 rdS_huff_coin x4853)).push (.row 3 (Rd.int .i64) b.2)).push (.row 34 rdS_huff_coin x5004))) k (0, (List.replicate (Int.toNat ((List.length x4337 : Nat) : Int)) (0 : Int))) H5180 rfl rfl ?_
   rintro n ⟨x5126, x5127⟩ H
   obtain _ | n := n
   · exact nf rfl H
   rw [g_huff_Lengths_l3.eq_2] at H
   show WP _ _ _ _ ((((Env.none.upd 6 (.whole 0)).upd 9 (.whole 1)).upd 11 (.whole 2)).upd 14 (.lit (.int .i64 x5126))) (((Mem.nil.push (.row 34 rdS_huff_coin x4853)).push (.row 3 (Rd.int .i64) x5127)).push (.row 34 rdS_huff_coin x5004)) _
   refine WP.seq ?_
   refine WP.seq ?_
   refine WP.region ?_
   refine WPL.q (q_mv (v := .lit (.int _ _)) rfl) rfl ?_
   refine WPL.q (q_mv (v := .whole _) rfl) rfl ?_
   refine WPL.q (q_len_row sl32 rfl rfl) rfl ?_
   obtain ⟨x5155, h5155, H⟩ := bnd H
   refine WPL.q (q_nm (q_mul rfl rfl) (nm_int h5155)) rfl ?_
   refine WPL.q (q_sub rfl rfl) rfl ?_
   obtain ⟨x5156, h5156, H⟩ := bnd H
   refine WPL.q (q_nm (q_lss rfl rfl) (nm_bool h5156)) rfl ?_
   refine WPL.nilW ?_
   refine W.now ?_
   refine Then.n ?_
   refine WP.cond (t := x5156) rfl (fun hb5156 => ?_) (fun hb5156 => ?_)
   · replace H := cnt hb5156 H
     refine WP.skipW ?_
     refine W.now ?_
     refine Then.n ?_
     refine WP.seq ?_
     refine WP.block ?_
     refine WP.seq ?_
     refine WP.region ?_
     refine WPL.q (q_mv (v := .whole _) rfl) rfl ?_
     refine WPL.q (q_mv (v := .lit (.int _ _)) rfl) rfl ?_
     obtain ⟨x5158, h5158, H⟩ := bnd H
     refine WPL.q (q_index_row sl32 rfl rfl rfl (ixs h5158)) rfl ?_
     refine WPL.q (q_fieldAddr fi34_1 rfl rfl) rfl ?_
     refine WPL.q (q_load_rowr (j := (Int.toNat x5126)) (n := 2) (off := 1) (d := x5158) sc22 rfl rfl (ixj h5158) rfl S_huff_coin.p1 rfl) rfl ?_
     refine WPL.q (q_len_ro sl22 rfl) rfl ?_
     refine WPL.q (q_mv (v := .lit (.int _ _)) rfl) rfl ?_
     refine WPL.nilW ?_
     refine W.now ?_
     refine Then.n ?_
     refine WP.block ?_
     refine WP.cv (Cv.weak (E' := (((((((Env.none.upd 6 (.whole 0)).upd 9 (.whole 1)).upd 11 (.whole 2)).upd 14 (.lit (.int .i64 x5126))).upd 132 (.ro (Rd.slice (Rd.int .i64)) false x5158.fsyms)).upd 133 (.lit (.int .i64 ((List.length x5158.fsyms : Nat) : Int)))).upd 134 (.lit (.int .i64 0)))) (M' := (((Mem.nil.push (.row 34 rdS_huff_coin x4853)).push (.row 3 (Rd.int .i64) x5127)).push (.row 34 rdS_huff_coin x5004))) [0, 1, 2] hnp ⟨rfl, ⟨⟨⟨trivial, .inr ⟨rfl, rfl, rfl⟩⟩, .inr ⟨rfl, rfl, rfl⟩⟩, .inr ⟨rfl, rfl, rfl⟩⟩, by decide, rfl, trivial⟩ (LeE.upd rfl rfl (LeE.upd rfl rfl (LeE.upd rfl rfl (LeE.upd rfl rfl (LeE.upd rfl rfl (LeE.upd rfl rfl (LeE.upd rfl rfl (LeE.none rfl rfl))))))))) ?_
     obtain ⟨x5173, H5179, H⟩ := bnd H
     refine WP.monoW (Q := fun x E M => x = .exit 8 ∧ E = ((((Env.none.upd 6 (.whole 0)).upd 9 (.whole 1)).upd 11 (.whole 2)).upd 14 (.lit (.int .i64 x5126))) ∧ M = (((Mem.nil.push (.row 34 rdS_huff_coin x4853)).push (.row 3 (Rd.int .i64) x5173)).push (.row 34 rdS_huff_coin x5004))) ?_ ?_
     · refine WP.loop (β := Int × (List Int)) (fun n b => g_huff_Lengths_l4 k x5158 n b.1 b.2 = some x5173) (fun b => (((((((Env.none.upd 6 (.whole 0)).upd 9 (.whole 1)).upd 11 (.whole 2)).upd 14 (.lit (.int .i64 x5126))).upd 132 (.ro (Rd.slice (Rd.int .i64)) false x5158.fsyms)).upd 133 (.lit (.int .i64 ((List.length x5158.fsyms : Nat) : Int)))).upd 134 (.lit (.int .i64 b.1)))) (fun b => (((Mem.nil.push (.row 34 rdS_huff_coin x4853)).push (.row 3 (Rd.int .i64) b.2)).push (.row 34 rdS_huff_coin x5004))) k (0, x5127) H5179 rfl rfl ?_
       rintro n ⟨x5165, x5166⟩ H
       obtain _ | n := n
       · exact nf rfl H
       rw [g_huff_Lengths_l4.eq_2] at H
       show WP _ _ _ _ (((((((Env.none.upd 6 (.whole 0)).upd 9 (.whole 1)).upd 11 (.whole 2)).upd 14 (.lit (.int .i64 x5126))).upd 132 (.ro (Rd.slice (Rd.int .i64)) false x5158.fsyms)).upd 133 (.lit (.int .i64 ((List.length x5158.fsyms : Nat) : Int)))).upd 134 (.lit (.int .i64 x5165))) (((Mem.nil.push (.row 34 rdS_huff_coin x4853)).push (.row 3 (Rd.int .i64) x5166)).push (.row 34 rdS_huff_coin x5004)) _
       refine WP.seq ?_
       refine WP.region ?_
       obtain ⟨x5174, h5174, H⟩ := bnd H
       refine WPL.q (q_nm (q_lss rfl rfl) (nm_bool h5174)) rfl ?_
       refine WPL.nilW ?_
       refine W.now ?_
       refine Then.n ?_
       refine WP.seq ?_
       refine WP.cond (t := x5174) rfl (fun hb5175 => ?_) (fun hb5175 => ?_)
       · replace H := cnt hb5175 H
         refine WP.skipW ?_
         refine W.now ?_
         refine Then.n ?_
         refine WP.seq ?_
         refine WP.block ?_
         refine WP.seq ?_
         refine WP.region ?_
         obtain ⟨x5177, h5177, H⟩ := bnd H
         refine WPL.q (q_index_ro sl22 rfl rfl rfl h5177) rfl ?_
         refine WPL.q (q_load_sc sc3 rfl) rfl ?_
         refine WPL.q (q_as (v := .lit (.int _ _)) rfl) rfl ?_
         refine WPL.nilW ?_
         refine W.now ?_
         refine Then.n ?_
         refine WP.region ?_
         refine WPL.q (q_mv (v := .whole _) rfl) rfl ?_
         refine WPL.q (q_mv (v := .lit (.int _ _)) rfl) rfl ?_
         obtain ⟨x5178, h5178, H⟩ := bnd H
         refine WPL.q (q_index_row sl22 rfl rfl rfl (ixs h5178)) rfl ?_
         refine WPL.q (q_load_row (j := (Int.toNat x5177)) sc3 rfl rfl (ixj h5178)) rfl ?_
         refine WPL.q (q_add rfl rfl) rfl ?_
         obtain ⟨x5179, h5179, H⟩ := bnd H
         refine WPL.q (q_index_row sl22 rfl rfl rfl (ixs h5179)) rfl ?_
         refine WPL.s (s_store_row (j := (Int.toNat x5177)) (d := (IntKind.wrap .i64 (x5178 + 1))) sz3 rfl rfl rfl rfl Joins.sc (ixl h5179)) ?_
         refine WPL.nilW ?_
         refine W.now ?_
         refine InBlock.n ?_
         refine Then.n ?_
         refine WP.region ?_
         refine WPL.q (q_add rfl rfl) rfl ?_
         refine WPL.q (q_mv (v := .lit (.int _ _)) rfl) rfl ?_
         refine WPL.nilW ?_
         exact W.wk [0, 1, 2] hnp (Then.n ⟨n, ((IntKind.wrap .i64 (x5165 + 1)), (List.set x5166 (Int.toNat x5177) (IntKind.wrap .i64 (x5178 + 1)))), Nat.lt_succ_self n, H, rfl, rfl⟩) ⟨rfl, ⟨⟨⟨trivial, .inr ⟨rfl, rfl, rfl⟩⟩, .inr ⟨rfl, rfl, rfl⟩⟩, .inr ⟨rfl, rfl, rfl⟩⟩, by decide, rfl, trivial⟩ (LeE.upd rfl rfl (LeE.upd rfl rfl (LeE.upd rfl rfl (LeE.upd rfl rfl (LeE.upd rfl rfl (LeE.upd rfl rfl (LeE.upd rfl rfl (LeE.none rfl rfl)))))))) rfl
       replace H := cnf hb5175 H
       refine WP.exitW ?_
       have q0 := (Option.some.inj H)
       subst q0
       exact W.wk [0, 1, 2] hnp (Then.x (Then.x ⟨rfl, rfl, rfl⟩)) ⟨rfl, ⟨⟨⟨trivial, .inr ⟨rfl, rfl, rfl⟩⟩, .inr ⟨rfl, rfl, rfl⟩⟩, .inr ⟨rfl, rfl, rfl⟩⟩, by decide, rfl, trivial⟩ (LeE.upd rfl rfl (LeE.upd rfl rfl (LeE.upd rfl rfl (LeE.upd rfl rfl (LeE.none rfl rfl))))) rfl
     rintro _ _ _ ⟨rfl, rfl, rfl⟩
     refine W.now ?_
     refine InBlock.x0 ?_
     refine InBlock.n ?_
     refine Then.n ?_
     refine WP.region ?_
     refine WPL.q (q_mv (v := .lit (.int _ _)) rfl) rfl ?_
     refine WPL.q (q_add rfl rfl) rfl ?_
     refine WPL.q (q_as (v := .lit (.int _ _)) rfl) rfl ?_
     refine WPL.nilW ?_
     exact W.wk [0, 1, 2] hnp (Then.n ⟨n, ((IntKind.wrap .i64 (x5126 + 1)), x5173), Nat.lt_succ_self n, H, rfl, rfl⟩) ⟨rfl, ⟨⟨⟨trivial, .inr ⟨rfl, rfl, rfl⟩⟩, .inr ⟨rfl, rfl, rfl⟩⟩, .inr ⟨rfl, rfl, rfl⟩⟩, by decide, rfl, trivial⟩ (LeE.upd rfl rfl (LeE.upd rfl rfl (LeE.upd rfl rfl (LeE.upd rfl rfl (LeE.none rfl rfl))))) rfl
   replace H := cnf hb5156 H
   refine WP.exitW ?_
   have q0 := (Option.some.inj H)
   subst q0
   exact W.wk [1] hnp (Then.x (Then.x ⟨rfl, rfl, rfl⟩)) ⟨rfl, ⟨trivial, .inr ⟨rfl, rfl, rfl⟩⟩, by decide, rfl, trivial⟩ (LeE.upd rfl rfl (LeE.none rfl rfl)) rfl
 rintro _ _ _ ⟨rfl, rfl, rfl⟩
 refine W.now ?_
 refine InBlock.x0 ?_
 refine Then.n ?_
 refine WP.seq ?_
 refine WP.region ?_
 refine WPL.q (q_mv (v := .whole _) rfl) rfl ?_
 refine WPL.q (q_as (v := .whole _) rfl) rfl ?_
 refine WPL.q (q_as (v := .lit (.int _ _)) rfl) rfl ?_
 refine WPL.nilW ?_
 refine W.now ?_
 refine Then.n ?_
 refine WP.retW ?_
 refine W.cv (Cv.frzRow (i := 0) rfl rfl hnp rfl rfl) rfl ?_
 have q0 := Option.some.inj H
 subst q0
 exact W.now (BodyR.mkR trivial rfl [] ⟨rfl, rfl⟩ ⟨rfl, trivial, by decide, rfl, trivial⟩ rfl rfl)
end Go.Proofs.Ytjahhkhpchiojaa.W
namespace Go.Proofs.Ytjahhkhpchiojaa.W
open Go Go.Q Go.Proofs
set_option linter.unusedVariables false
set_option linter.unusedSimpArgs false
set_option maxRecDepth 100000 in
set_option maxHeartbeats 4000000 in
theorem s_quirelaw02_alive (k : Nat) (r : (Bool ⊕ ByteArray)) (H : g_quirelaw02_alive k = some r) : Go.Q.Spec Try.prog 5 0 [] Mem.nil (fun o M => match (generalizing := false) r with | (Sum.inl x5233) => o = .ret (.lit (.bool x5233)) ∧ M = Mem.nil | (Sum.inr x5234) => o = .pan (.ifc 9 (.lit (.string x5234))) ∧ M = Mem.nil) := by
 unfold g_quirelaw02_alive at H
 refine Go.Q.Spec.of_bodyR (az := []) (rs := [.tmp 0]) (nt := 90) Try.func5 rfl rfl (by intro t T h; simp at h) rfl rfl fun cx hnp => ?_
 refine WP.seq ?_
 refine WP.region ?_
 refine WPL.q (q_as (v := .lit (.bool _)) rfl) rfl ?_
 refine WPL.nilW ?_
 refine W.now ?_
 refine Then.n ?_
 refine WP.seq ?_
 refine WP.region ?_
 refine WPL.d (d_buildSlice (ds := ([2, 1, 3, 3] : List Int)) (R := (Rd.int .i64)) li22 rfl rfl rfl rfl rfl (JoinRows.cons1 Joins.sc rfl (JoinRows.cons1 Joins.sc rfl (JoinRows.cons1 Joins.sc rfl (JoinRows.cons1 Joins.sc rfl JoinRows.nil)))) rfl rfl) rfl ?_
 obtain ⟨⟨x5236, x5237⟩, h5234, H⟩ := bnd H
 refine WPL.c (runs_call (s := []) (t := []) (N := 1) (bor := [0]) fn14 rfl (s_huff_Codes k ([2, 1, 3, 3] : List Int) x5236 x5237 h5234) ⟨rfl, trivial, by decide, rfl, trivial⟩ rfl ⟨trivial, rfl, rfl, trivial⟩ (.row rfl rfl .nil) rfl trivial rfl) rfl ?_
 refine WPL.q (q_mv (v := .tup _) rfl) rfl ?_
 refine WPL.q (q_extract rfl rfl) rfl ?_
 refine WPL.q (q_extract rfl rfl) rfl ?_
 refine WPL.q (q_as (v := .ro _ _ _) rfl) rfl ?_
 refine WPL.q (q_as (v := .lit (.int _ _)) rfl) rfl ?_
 refine WPL.nilW ?_
 refine W.now ?_
 refine Then.n ?_
 refine WP.seq ?_
 refine WP.region ?_
 refine WPL.d (d_buildSlice (ds := ([1, 1, 1] : List Int)) (R := (Rd.int .i64)) li22 rfl rfl rfl rfl rfl (JoinRows.cons1 Joins.sc rfl (JoinRows.cons1 Joins.sc rfl (JoinRows.cons1 Joins.sc rfl JoinRows.nil))) rfl rfl) rfl ?_
 obtain ⟨⟨x5239, x5240⟩, h5237, H⟩ := bnd H
 refine WPL.c (runs_call (s := []) (t := []) (N := 2) (bor := [1]) fn14 rfl (s_huff_Codes k ([1, 1, 1] : List Int) x5239 x5240 h5237) ⟨rfl, trivial, by decide, rfl, trivial⟩ rfl ⟨trivial, rfl, rfl, trivial⟩ (.row rfl rfl .nil) rfl trivial rfl) rfl ?_
 refine WPL.q (q_mv (v := .tup _) rfl) rfl ?_
 refine WPL.q (q_extract rfl rfl) rfl ?_
 refine WPL.q (q_extract rfl rfl) rfl ?_
 refine WPL.q (q_as (v := .ro _ _ _) rfl) rfl ?_
 refine WPL.q (q_as (v := .lit (.int _ _)) rfl) rfl ?_
 refine WPL.nilW ?_
 refine W.now ?_
 refine Then.n ?_
 refine WP.seq ?_
 refine WP.region ?_
 refine WPL.d (d_buildSlice (ds := ([5, 1, 1, 0] : List Int)) (R := (Rd.int .i64)) li22 rfl rfl rfl rfl rfl (JoinRows.cons1 Joins.sc rfl (JoinRows.cons1 Joins.sc rfl (JoinRows.cons1 Joins.sc rfl (JoinRows.cons1 Joins.sc rfl JoinRows.nil)))) rfl rfl) rfl ?_
 obtain ⟨y5245, h5240, H⟩ := bnd H
 rcases y5245 with ⟨x5242, x5243⟩ | x5244
 · refine WPL.c (runs_call (s := []) (t := []) (N := 3) (bor := [2]) fn4 rfl (s_huff_Lengths__b k ([5, 1, 1, 0] : List Int) 15 (Sum.inl (x5242, x5243)) h5240) ⟨rfl, trivial, by decide, rfl, trivial⟩ rfl ⟨trivial, rfl, rfl, trivial⟩ (.row rfl rfl (.ren rfl rfl .nil)) rfl trivial rfl) rfl ?_
   refine WPL.q (q_mv (v := .tup _) rfl) rfl ?_
   refine WPL.q (q_extract rfl rfl) rfl ?_
   refine WPL.q (q_extract rfl rfl) rfl ?_
   refine WPL.q (q_as (v := .ro _ _ _) rfl) rfl ?_
   refine WPL.q (q_as (v := .lit (.int _ _)) rfl) rfl ?_
   refine WPL.nilW ?_
   refine W.now ?_
   refine Then.n ?_
   refine WP.seq ?_
   obtain ⟨x5268, H5290, H⟩ := bnd H
   refine WP.monoW (Q := fun x E M => x = .normal ∧ E = (Env.none.upd 0 (.lit (.bool x5268))) ∧ M = Mem.nil) ?_ ?_
   · clear H
     have H := H5290
     clear H5290
     refine WP.region ?_
     refine WPL.q (q_mv (v := .lit (.int _ _)) rfl) rfl ?_
     refine WPL.q (q_eql rfl rfl) rfl ?_
     refine WPL.q (q_mv (v := .lit (.bool _)) rfl) rfl ?_
     refine WPL.split (t := 24) (b := (decide (x5237 = 0))) rfl (fun hb5268 => ?_) (fun hb5268 => ?_)
     · replace H := cnt hb5268 H
       refine WPL.qg rfl rfl (lb hb5268) (q_mv (v := .ro _ _ _) rfl) rfl ?_
       refine WPL.qg rfl rfl (lb hb5268) (q_len_ro sl40 rfl) rfl ?_
       obtain ⟨x5270, h5270, H⟩ := bnd H
       refine WPL.qg rfl rfl (lb hb5268) (q_nm (q_eql rfl rfl) (nm_bool h5270)) rfl ?_
       refine WPL.q (q_pickT (v := .lit (.bool _)) (lb hb5268) rfl) rfl ?_
       refine WPL.q (q_mv (v := .lit (.bool _)) rfl) rfl ?_
       refine WPL.split (t := 29) (b := x5270) rfl (fun hb5270 => ?_) (fun hb5270 => ?_)
       · replace H := cnt hb5270 H
         refine WPL.qg rfl rfl (lb hb5270) (q_mv (v := .ro _ _ _) rfl) rfl ?_
         obtain ⟨x5272, h5272, H⟩ := bnd H
         refine WPL.qg rfl rfl (lb hb5270) (q_index_ro sl40 rfl rfl rfl h5272) rfl ?_
         refine WPL.qg rfl rfl (lb hb5270) (q_load_sc sc43 rfl) rfl ?_
         refine WPL.qg rfl rfl (lb hb5270) (q_eql rfl rfl) rfl ?_
         refine WPL.q (q_pickT (v := .lit (.bool _)) (lb hb5270) rfl) rfl ?_
         refine WPL.q (q_mv (v := .lit (.bool _)) rfl) rfl ?_
         refine WPL.split (t := 35) (b := (decide (x5272 = 2))) rfl (fun hb5272 => ?_) (fun hb5272 => ?_)
         · replace H := cnt hb5272 H
           refine WPL.qg rfl rfl (lb hb5272) (q_mv (v := .ro _ _ _) rfl) rfl ?_
           obtain ⟨x5274, h5274, H⟩ := bnd H
           refine WPL.qg rfl rfl (lb hb5272) (q_index_ro sl40 rfl rfl rfl h5274) rfl ?_
           refine WPL.qg rfl rfl (lb hb5272) (q_load_sc sc43 rfl) rfl ?_
           refine WPL.qg rfl rfl (lb hb5272) (q_eql rfl rfl) rfl ?_
           refine WPL.q (q_pickT (v := .lit (.bool _)) (lb hb5272) rfl) rfl ?_
           refine WPL.q (q_mv (v := .lit (.bool _)) rfl) rfl ?_
           refine WPL.split (t := 41) (b := (decide (x5274 = 0))) rfl (fun hb5274 => ?_) (fun hb5274 => ?_)
           · replace H := cnt hb5274 H
             refine WPL.qg rfl rfl (lb hb5274) (q_mv (v := .ro _ _ _) rfl) rfl ?_
             obtain ⟨x5276, h5276, H⟩ := bnd H
             refine WPL.qg rfl rfl (lb hb5274) (q_index_ro sl40 rfl rfl rfl h5276) rfl ?_
             refine WPL.qg rfl rfl (lb hb5274) (q_load_sc sc43 rfl) rfl ?_
             refine WPL.qg rfl rfl (lb hb5274) (q_eql rfl rfl) rfl ?_
             refine WPL.q (q_pickT (v := .lit (.bool _)) (lb hb5274) rfl) rfl ?_
             refine WPL.q (q_mv (v := .lit (.bool _)) rfl) rfl ?_
             refine WPL.split (t := 47) (b := (decide (x5276 = 6))) rfl (fun hb5276 => ?_) (fun hb5276 => ?_)
             · replace H := cnt hb5276 H
               refine WPL.qg rfl rfl (lb hb5276) (q_mv (v := .ro _ _ _) rfl) rfl ?_
               obtain ⟨x5278, h5278, H⟩ := bnd H
               refine WPL.qg rfl rfl (lb hb5276) (q_index_ro sl40 rfl rfl rfl h5278) rfl ?_
               refine WPL.qg rfl rfl (lb hb5276) (q_load_sc sc43 rfl) rfl ?_
               refine WPL.qg rfl rfl (lb hb5276) (q_eql rfl rfl) rfl ?_
               refine WPL.q (q_pickT (v := .lit (.bool _)) (lb hb5276) rfl) rfl ?_
               refine WPL.q (q_mv (v := .lit (.bool _)) rfl) rfl ?_
               refine WPL.split (t := 53) (b := (decide (x5278 = 7))) rfl (fun hb5278 => ?_) (fun hb5278 => ?_)
               · replace H := cnt hb5278 H
                 refine WPL.qg rfl rfl (lb hb5278) (q_mv (v := .lit (.int _ _)) rfl) rfl ?_
                 refine WPL.qg rfl rfl (lb hb5278) (q_eql rfl rfl) rfl ?_
                 refine WPL.q (q_pickT (v := .lit (.bool _)) (lb hb5278) rfl) rfl ?_
                 refine WPL.q (q_mv (v := .lit (.bool _)) rfl) rfl ?_
                 refine WPL.split (t := 57) (b := (decide (x5240 = 11))) rfl (fun hb5279 => ?_) (fun hb5279 => ?_)
                 · replace H := cnt hb5279 H
                   refine WPL.qg rfl rfl (lb hb5279) (q_mv (v := .lit (.int _ _)) rfl) rfl ?_
                   refine WPL.qg rfl rfl (lb hb5279) (q_eql rfl rfl) rfl ?_
                   refine WPL.q (q_pickT (v := .lit (.bool _)) (lb hb5279) rfl) rfl ?_
                   refine WPL.q (q_mv (v := .lit (.bool _)) rfl) rfl ?_
                   refine WPL.split (t := 61) (b := (decide (x5243 = 0))) rfl (fun hb5280 => ?_) (fun hb5280 => ?_)
                   · replace H := cnt hb5280 H
                     refine WPL.qg rfl rfl (lb hb5280) (q_mv (v := .ro _ _ _) rfl) rfl ?_
                     refine WPL.qg rfl rfl (lb hb5280) (q_len_ro sl22 rfl) rfl ?_
                     obtain ⟨x5282, h5282, H⟩ := bnd H
                     refine WPL.qg rfl rfl (lb hb5280) (q_nm (q_eql rfl rfl) (nm_bool h5282)) rfl ?_
                     refine WPL.q (q_pickT (v := .lit (.bool _)) (lb hb5280) rfl) rfl ?_
                     refine WPL.q (q_mv (v := .lit (.bool _)) rfl) rfl ?_
                     refine WPL.split (t := 66) (b := x5282) rfl (fun hb5282 => ?_) (fun hb5282 => ?_)
                     · replace H := cnt hb5282 H
                       refine WPL.qg rfl rfl (lb hb5282) (q_mv (v := .ro _ _ _) rfl) rfl ?_
                       obtain ⟨x5284, h5284, H⟩ := bnd H
                       refine WPL.qg rfl rfl (lb hb5282) (q_index_ro sl22 rfl rfl rfl h5284) rfl ?_
                       refine WPL.qg rfl rfl (lb hb5282) (q_load_sc sc3 rfl) rfl ?_
                       refine WPL.qg rfl rfl (lb hb5282) (q_eql rfl rfl) rfl ?_
                       refine WPL.q (q_pickT (v := .lit (.bool _)) (lb hb5282) rfl) rfl ?_
                       refine WPL.q (q_mv (v := .lit (.bool _)) rfl) rfl ?_
                       refine WPL.split (t := 72) (b := (decide (x5284 = 1))) rfl (fun hb5284 => ?_) (fun hb5284 => ?_)
                       · replace H := cnt hb5284 H
                         refine WPL.qg rfl rfl (lb hb5284) (q_mv (v := .ro _ _ _) rfl) rfl ?_
                         obtain ⟨x5286, h5286, H⟩ := bnd H
                         refine WPL.qg rfl rfl (lb hb5284) (q_index_ro sl22 rfl rfl rfl h5286) rfl ?_
                         refine WPL.qg rfl rfl (lb hb5284) (q_load_sc sc3 rfl) rfl ?_
                         refine WPL.qg rfl rfl (lb hb5284) (q_eql rfl rfl) rfl ?_
                         refine WPL.q (q_pickT (v := .lit (.bool _)) (lb hb5284) rfl) rfl ?_
                         refine WPL.q (q_mv (v := .lit (.bool _)) rfl) rfl ?_
                         refine WPL.split (t := 78) (b := (decide (x5286 = 2))) rfl (fun hb5286 => ?_) (fun hb5286 => ?_)
                         · replace H := cnt hb5286 H
                           refine WPL.qg rfl rfl (lb hb5286) (q_mv (v := .ro _ _ _) rfl) rfl ?_
                           obtain ⟨x5288, h5288, H⟩ := bnd H
                           refine WPL.qg rfl rfl (lb hb5286) (q_index_ro sl22 rfl rfl rfl h5288) rfl ?_
                           refine WPL.qg rfl rfl (lb hb5286) (q_load_sc sc3 rfl) rfl ?_
                           refine WPL.qg rfl rfl (lb hb5286) (q_eql rfl rfl) rfl ?_
                           refine WPL.q (q_pickT (v := .lit (.bool _)) (lb hb5286) rfl) rfl ?_
                           refine WPL.q (q_mv (v := .lit (.bool _)) rfl) rfl ?_
                           refine WPL.split (t := 84) (b := (decide (x5288 = 2))) rfl (fun hb5288 => ?_) (fun hb5288 => ?_)
                           · replace H := cnt hb5288 H
                             refine WPL.qg rfl rfl (lb hb5288) (q_mv (v := .ro _ _ _) rfl) rfl ?_
                             obtain ⟨x5290, h5290, H⟩ := bnd H
                             refine WPL.qg rfl rfl (lb hb5288) (q_index_ro sl22 rfl rfl rfl h5290) rfl ?_
                             refine WPL.qg rfl rfl (lb hb5288) (q_load_sc sc3 rfl) rfl ?_
                             refine WPL.qg rfl rfl (lb hb5288) (q_eql rfl rfl) rfl ?_
                             refine WPL.q (q_pickT (v := .lit (.bool _)) (lb hb5288) rfl) rfl ?_
                             refine WPL.q (q_as (v := .lit (.bool _)) rfl) rfl ?_
                             refine WPL.nilW ?_
                             have q0 := (Option.some.inj H)
                             subst q0
                             exact W.wk [] hnp ⟨rfl, rfl, rfl⟩ ⟨rfl, trivial, by decide, rfl, trivial⟩ (LeE.upd rfl rfl (LeE.none rfl rfl)) rfl
                           replace H := cnf hb5288 H
                           refine WPL.skipg (b' := false) rfl rfl (lb hb5288) rfl rfl (.inl trivial) ?_
                           refine WPL.skipg (b' := false) rfl rfl (lb hb5288) rfl rfl (.inl trivial) ?_
                           refine WPL.skipg (b' := false) rfl rfl (lb hb5288) rfl rfl (.inl trivial) ?_
                           refine WPL.skipg (b' := false) rfl rfl (lb hb5288) rfl rfl (.inl trivial) ?_
                           refine WPL.q (q_pickF (v := .lit (.bool _)) (lb hb5288) rfl) rfl ?_
                           refine WPL.q (q_as (v := .lit (.bool _)) rfl) rfl ?_
                           refine WPL.nilW ?_
                           have q0 := (Option.some.inj H)
                           subst q0
                           exact W.wk [] hnp ⟨rfl, rfl, rfl⟩ ⟨rfl, trivial, by decide, rfl, trivial⟩ (LeE.upd rfl rfl (LeE.none rfl rfl)) rfl
                         replace H := cnf hb5286 H
                         refine WPL.skipg (b' := false) rfl rfl (lb hb5286) rfl rfl (.inl trivial) ?_
                         refine WPL.skipg (b' := false) rfl rfl (lb hb5286) rfl rfl (.inl trivial) ?_
                         refine WPL.skipg (b' := false) rfl rfl (lb hb5286) rfl rfl (.inl trivial) ?_
                         refine WPL.skipg (b' := false) rfl rfl (lb hb5286) rfl rfl (.inl trivial) ?_
                         refine WPL.q (q_pickF (v := .lit (.bool _)) (lb hb5286) rfl) rfl ?_
                         refine WPL.q (q_mv (v := .lit (.bool _)) rfl) rfl ?_
                         refine WPL.skipg (b' := false) rfl rfl rfl rfl rfl (.inl trivial) ?_
                         refine WPL.skipg (b' := false) rfl rfl rfl rfl rfl (.inl trivial) ?_
                         refine WPL.skipg (b' := false) rfl rfl rfl rfl rfl (.inl trivial) ?_
                         refine WPL.skipg (b' := false) rfl rfl rfl rfl rfl (.inl trivial) ?_
                         refine WPL.q (q_pickF (v := .lit (.bool _)) rfl rfl) rfl ?_
                         refine WPL.q (q_as (v := .lit (.bool _)) rfl) rfl ?_
                         refine WPL.nilW ?_
                         have q0 := (Option.some.inj H)
                         subst q0
                         exact W.wk [] hnp ⟨rfl, rfl, rfl⟩ ⟨rfl, trivial, by decide, rfl, trivial⟩ (LeE.upd rfl rfl (LeE.none rfl rfl)) rfl
                       replace H := cnf hb5284 H
                       refine WPL.skipg (b' := false) rfl rfl (lb hb5284) rfl rfl (.inl trivial) ?_
                       refine WPL.skipg (b' := false) rfl rfl (lb hb5284) rfl rfl (.inl trivial) ?_
                       refine WPL.skipg (b' := false) rfl rfl (lb hb5284) rfl rfl (.inl trivial) ?_
                       refine WPL.skipg (b' := false) rfl rfl (lb hb5284) rfl rfl (.inl trivial) ?_
                       refine WPL.q (q_pickF (v := .lit (.bool _)) (lb hb5284) rfl) rfl ?_
                       refine WPL.q (q_mv (v := .lit (.bool _)) rfl) rfl ?_
                       refine WPL.skipg (b' := false) rfl rfl rfl rfl rfl (.inl trivial) ?_
                       refine WPL.skipg (b' := false) rfl rfl rfl rfl rfl (.inl trivial) ?_
                       refine WPL.skipg (b' := false) rfl rfl rfl rfl rfl (.inl trivial) ?_
                       refine WPL.skipg (b' := false) rfl rfl rfl rfl rfl (.inl trivial) ?_
                       refine WPL.q (q_pickF (v := .lit (.bool _)) rfl rfl) rfl ?_
                       refine WPL.q (q_mv (v := .lit (.bool _)) rfl) rfl ?_
                       refine WPL.skipg (b' := false) rfl rfl rfl rfl rfl (.inl trivial) ?_
                       refine WPL.skipg (b' := false) rfl rfl rfl rfl rfl (.inl trivial) ?_
                       refine WPL.skipg (b' := false) rfl rfl rfl rfl rfl (.inl trivial) ?_
                       refine WPL.skipg (b' := false) rfl rfl rfl rfl rfl (.inl trivial) ?_
                       refine WPL.q (q_pickF (v := .lit (.bool _)) rfl rfl) rfl ?_
                       refine WPL.q (q_as (v := .lit (.bool _)) rfl) rfl ?_
                       refine WPL.nilW ?_
                       have q0 := (Option.some.inj H)
                       subst q0
                       exact W.wk [] hnp ⟨rfl, rfl, rfl⟩ ⟨rfl, trivial, by decide, rfl, trivial⟩ (LeE.upd rfl rfl (LeE.none rfl rfl)) rfl
                     replace H := cnf hb5282 H
                     refine WPL.skipg (b' := false) rfl rfl (lb hb5282) rfl rfl (.inl trivial) ?_
                     refine WPL.skipg (b' := false) rfl rfl (lb hb5282) rfl rfl (.inl trivial) ?_
                     refine WPL.skipg (b' := false) rfl rfl (lb hb5282) rfl rfl (.inl trivial) ?_
                     refine WPL.skipg (b' := false) rfl rfl (lb hb5282) rfl rfl (.inl trivial) ?_
                     refine WPL.q (q_pickF (v := .lit (.bool _)) (lb hb5282) rfl) rfl ?_
                     refine WPL.q (q_mv (v := .lit (.bool _)) rfl) rfl ?_
                     refine WPL.skipg (b' := false) rfl rfl rfl rfl rfl (.inl trivial) ?_
                     refine WPL.skipg (b' := false) rfl rfl rfl rfl rfl (.inl trivial) ?_
                     refine WPL.skipg (b' := false) rfl rfl rfl rfl rfl (.inl trivial) ?_
                     refine WPL.skipg (b' := false) rfl rfl rfl rfl rfl (.inl trivial) ?_
                     refine WPL.q (q_pickF (v := .lit (.bool _)) rfl rfl) rfl ?_
                     refine WPL.q (q_mv (v := .lit (.bool _)) rfl) rfl ?_
                     refine WPL.skipg (b' := false) rfl rfl rfl rfl rfl (.inl trivial) ?_
                     refine WPL.skipg (b' := false) rfl rfl rfl rfl rfl (.inl trivial) ?_
                     refine WPL.skipg (b' := false) rfl rfl rfl rfl rfl (.inl trivial) ?_
                     refine WPL.skipg (b' := false) rfl rfl rfl rfl rfl (.inl trivial) ?_
                     refine WPL.q (q_pickF (v := .lit (.bool _)) rfl rfl) rfl ?_
                     refine WPL.q (q_mv (v := .lit (.bool _)) rfl) rfl ?_
                     refine WPL.skipg (b' := false) rfl rfl rfl rfl rfl (.inl trivial) ?_
                     refine WPL.skipg (b' := false) rfl rfl rfl rfl rfl (.inl trivial) ?_
                     refine WPL.skipg (b' := false) rfl rfl rfl rfl rfl (.inl trivial) ?_
                     refine WPL.skipg (b' := false) rfl rfl rfl rfl rfl (.inl trivial) ?_
                     refine WPL.q (q_pickF (v := .lit (.bool _)) rfl rfl) rfl ?_
                     refine WPL.q (q_as (v := .lit (.bool _)) rfl) rfl ?_
                     refine WPL.nilW ?_
                     have q0 := (Option.some.inj H)
                     subst q0
                     exact W.wk [] hnp ⟨rfl, rfl, rfl⟩ ⟨rfl, trivial, by decide, rfl, trivial⟩ (LeE.upd rfl rfl (LeE.none rfl rfl)) rfl
                   replace H := cnf hb5280 H
                   refine WPL.skipg (b' := false) rfl rfl (lb hb5280) rfl rfl (.inl trivial) ?_
                   refine WPL.skipg (b' := false) rfl rfl (lb hb5280) rfl rfl (.inl trivial) ?_
                   refine WPL.skipg (b' := false) rfl rfl (lb hb5280) rfl rfl (.inl trivial) ?_
                   refine WPL.q (q_pickF (v := .lit (.bool _)) (lb hb5280) rfl) rfl ?_
                   refine WPL.q (q_mv (v := .lit (.bool _)) rfl) rfl ?_
                   refine WPL.skipg (b' := false) rfl rfl rfl rfl rfl (.inl trivial) ?_
                   refine WPL.skipg (b' := false) rfl rfl rfl rfl rfl (.inl trivial) ?_
                   refine WPL.skipg (b' := false) rfl rfl rfl rfl rfl (.inl trivial) ?_
                   refine WPL.skipg (b' := false) rfl rfl rfl rfl rfl (.inl trivial) ?_
                   refine WPL.q (q_pickF (v := .lit (.bool _)) rfl rfl) rfl ?_
                   refine WPL.q (q_mv (v := .lit (.bool _)) rfl) rfl ?_
                   refine WPL.skipg (b' := false) rfl rfl rfl rfl rfl (.inl trivial) ?_
                   refine WPL.skipg (b' := false) rfl rfl rfl rfl rfl (.inl trivial) ?_
                   refine WPL.skipg (b' := false) rfl rfl rfl rfl rfl (.inl trivial) ?_
                   refine WPL.skipg (b' := false) rfl rfl rfl rfl rfl (.inl trivial) ?_
                   refine WPL.q (q_pickF (v := .lit (.bool _)) rfl rfl) rfl ?_
                   refine WPL.q (q_mv (v := .lit (.bool _)) rfl) rfl ?_
                   refine WPL.skipg (b' := false) rfl rfl rfl rfl rfl (.inl trivial) ?_
                   refine WPL.skipg (b' := false) rfl rfl rfl rfl rfl (.inl trivial) ?_
                   refine WPL.skipg (b' := false) rfl rfl rfl rfl rfl (.inl trivial) ?_
                   refine WPL.skipg (b' := false) rfl rfl rfl rfl rfl (.inl trivial) ?_
                   refine WPL.q (q_pickF (v := .lit (.bool _)) rfl rfl) rfl ?_
                   refine WPL.q (q_mv (v := .lit (.bool _)) rfl) rfl ?_
                   refine WPL.skipg (b' := false) rfl rfl rfl rfl rfl (.inl trivial) ?_
                   refine WPL.skipg (b' := false) rfl rfl rfl rfl rfl (.inl trivial) ?_
                   refine WPL.skipg (b' := false) rfl rfl rfl rfl rfl (.inl trivial) ?_
                   refine WPL.skipg (b' := false) rfl rfl rfl rfl rfl (.inl trivial) ?_
                   refine WPL.q (q_pickF (v := .lit (.bool _)) rfl rfl) rfl ?_
                   refine WPL.q (q_as (v := .lit (.bool _)) rfl) rfl ?_
                   refine WPL.nilW ?_
                   have q0 := (Option.some.inj H)
                   subst q0
                   exact W.wk [] hnp ⟨rfl, rfl, rfl⟩ ⟨rfl, trivial, by decide, rfl, trivial⟩ (LeE.upd rfl rfl (LeE.none rfl rfl)) rfl
                 replace H := cnf hb5279 H
                 refine WPL.skipg (b' := false) rfl rfl (lb hb5279) rfl rfl (.inl trivial) ?_
                 refine WPL.skipg (b' := false) rfl rfl (lb hb5279) rfl rfl (.inl trivial) ?_
                 refine WPL.q (q_pickF (v := .lit (.bool _)) (lb hb5279) rfl) rfl ?_
                 refine WPL.q (q_mv (v := .lit (.bool _)) rfl) rfl ?_
                 refine WPL.skipg (b' := false) rfl rfl rfl rfl rfl (.inl trivial) ?_
                 refine WPL.skipg (b' := false) rfl rfl rfl rfl rfl (.inl trivial) ?_
                 refine WPL.skipg (b' := false) rfl rfl rfl rfl rfl (.inl trivial) ?_
                 refine WPL.q (q_pickF (v := .lit (.bool _)) rfl rfl) rfl ?_
                 refine WPL.q (q_mv (v := .lit (.bool _)) rfl) rfl ?_
                 refine WPL.skipg (b' := false) rfl rfl rfl rfl rfl (.inl trivial) ?_
                 refine WPL.skipg (b' := false) rfl rfl rfl rfl rfl (.inl trivial) ?_
                 refine WPL.skipg (b' := false) rfl rfl rfl rfl rfl (.inl trivial) ?_
                 refine WPL.skipg (b' := false) rfl rfl rfl rfl rfl (.inl trivial) ?_
                 refine WPL.q (q_pickF (v := .lit (.bool _)) rfl rfl) rfl ?_
                 refine WPL.q (q_mv (v := .lit (.bool _)) rfl) rfl ?_
                 refine WPL.skipg (b' := false) rfl rfl rfl rfl rfl (.inl trivial) ?_
                 refine WPL.skipg (b' := false) rfl rfl rfl rfl rfl (.inl trivial) ?_
                 refine WPL.skipg (b' := false) rfl rfl rfl rfl rfl (.inl trivial) ?_
                 refine WPL.skipg (b' := false) rfl rfl rfl rfl rfl (.inl trivial) ?_
                 refine WPL.q (q_pickF (v := .lit (.bool _)) rfl rfl) rfl ?_
                 refine WPL.q (q_mv (v := .lit (.bool _)) rfl) rfl ?_
                 refine WPL.skipg (b' := false) rfl rfl rfl rfl rfl (.inl trivial) ?_
                 refine WPL.skipg (b' := false) rfl rfl rfl rfl rfl (.inl trivial) ?_
                 refine WPL.skipg (b' := false) rfl rfl rfl rfl rfl (.inl trivial) ?_
                 refine WPL.skipg (b' := false) rfl rfl rfl rfl rfl (.inl trivial) ?_
                 refine WPL.q (q_pickF (v := .lit (.bool _)) rfl rfl) rfl ?_
                 refine WPL.q (q_mv (v := .lit (.bool _)) rfl) rfl ?_
                 refine WPL.skipg (b' := false) rfl rfl rfl rfl rfl (.inl trivial) ?_
                 refine WPL.skipg (b' := false) rfl rfl rfl rfl rfl (.inl trivial) ?_
                 refine WPL.skipg (b' := false) rfl rfl rfl rfl rfl (.inl trivial) ?_
                 refine WPL.skipg (b' := false) rfl rfl rfl rfl rfl (.inl trivial) ?_
                 refine WPL.q (q_pickF (v := .lit (.bool _)) rfl rfl) rfl ?_
                 refine WPL.q (q_as (v := .lit (.bool _)) rfl) rfl ?_
                 refine WPL.nilW ?_
                 have q0 := (Option.some.inj H)
                 subst q0
                 exact W.wk [] hnp ⟨rfl, rfl, rfl⟩ ⟨rfl, trivial, by decide, rfl, trivial⟩ (LeE.upd rfl rfl (LeE.none rfl rfl)) rfl
               replace H := cnf hb5278 H
               refine WPL.skipg (b' := false) rfl rfl (lb hb5278) rfl rfl (.inl trivial) ?_
               refine WPL.skipg (b' := false) rfl rfl (lb hb5278) rfl rfl (.inl trivial) ?_
               refine WPL.q (q_pickF (v := .lit (.bool _)) (lb hb5278) rfl) rfl ?_
               refine WPL.q (q_mv (v := .lit (.bool _)) rfl) rfl ?_
               refine WPL.skipg (b' := false) rfl rfl rfl rfl rfl (.inl trivial) ?_
               refine WPL.skipg (b' := false) rfl rfl rfl rfl rfl (.inl trivial) ?_
               refine WPL.q (q_pickF (v := .lit (.bool _)) rfl rfl) rfl ?_
               refine WPL.q (q_mv (v := .lit (.bool _)) rfl) rfl ?_
               refine WPL.skipg (b' := false) rfl rfl rfl rfl rfl (.inl trivial) ?_
               refine WPL.skipg (b' := false) rfl rfl rfl rfl rfl (.inl trivial) ?_
               refine WPL.skipg (b' := false) rfl rfl rfl rfl rfl (.inl trivial) ?_
               refine WPL.q (q_pickF (v := .lit (.bool _)) rfl rfl) rfl ?_
               refine WPL.q (q_mv (v := .lit (.bool _)) rfl) rfl ?_
               refine WPL.skipg (b' := false) rfl rfl rfl rfl rfl (.inl trivial) ?_
               refine WPL.skipg (b' := false) rfl rfl rfl rfl rfl (.inl trivial) ?_
               refine WPL.skipg (b' := false) rfl rfl rfl rfl rfl (.inl trivial) ?_
               refine WPL.skipg (b' := false) rfl rfl rfl rfl rfl (.inl trivial) ?_
               refine WPL.q (q_pickF (v := .lit (.bool _)) rfl rfl) rfl ?_
               refine WPL.q (q_mv (v := .lit (.bool _)) rfl) rfl ?_
               refine WPL.skipg (b' := false) rfl rfl rfl rfl rfl (.inl trivial) ?_
               refine WPL.skipg (b' := false) rfl rfl rfl rfl rfl (.inl trivial) ?_
               refine WPL.skipg (b' := false) rfl rfl rfl rfl rfl (.inl trivial) ?_
               refine WPL.skipg (b' := false) rfl rfl rfl rfl rfl (.inl trivial) ?_
               refine WPL.q (q_pickF (v := .lit (.bool _)) rfl rfl) rfl ?_
               refine WPL.q (q_mv (v := .lit (.bool _)) rfl) rfl ?_
               refine WPL.skipg (b' := false) rfl rfl rfl rfl rfl (.inl trivial) ?_
               refine WPL.skipg (b' := false) rfl rfl rfl rfl rfl (.inl trivial) ?_
               refine WPL.skipg (b' := false) rfl rfl rfl rfl rfl (.inl trivial) ?_
               refine WPL.skipg (b' := false) rfl rfl rfl rfl rfl (.inl trivial) ?_
               refine WPL.q (q_pickF (v := .lit (.bool _)) rfl rfl) rfl ?_
               refine WPL.q (q_mv (v := .lit (.bool _)) rfl) rfl ?_
               refine WPL.skipg (b' := false) rfl rfl rfl rfl rfl (.inl trivial) ?_
               refine WPL.skipg (b' := false) rfl rfl rfl rfl rfl (.inl trivial) ?_
               refine WPL.skipg (b' := false) rfl rfl rfl rfl rfl (.inl trivial) ?_
               refine WPL.skipg (b' := false) rfl rfl rfl rfl rfl (.inl trivial) ?_
               refine WPL.q (q_pickF (v := .lit (.bool _)) rfl rfl) rfl ?_
               refine WPL.q (q_as (v := .lit (.bool _)) rfl) rfl ?_
               refine WPL.nilW ?_
               have q0 := (Option.some.inj H)
               subst q0
               exact W.wk [] hnp ⟨rfl, rfl, rfl⟩ ⟨rfl, trivial, by decide, rfl, trivial⟩ (LeE.upd rfl rfl (LeE.none rfl rfl)) rfl
             replace H := cnf hb5276 H
             refine WPL.skipg (b' := false) rfl rfl (lb hb5276) rfl rfl (.inl trivial) ?_
             refine WPL.skipg (b' := false) rfl rfl (lb hb5276) rfl rfl (.inl trivial) ?_
             refine WPL.skipg (b' := false) rfl rfl (lb hb5276) rfl rfl (.inl trivial) ?_
             refine WPL.skipg (b' := false) rfl rfl (lb hb5276) rfl rfl (.inl trivial) ?_
             refine WPL.q (q_pickF (v := .lit (.bool _)) (lb hb5276) rfl) rfl ?_
             refine WPL.q (q_mv (v := .lit (.bool _)) rfl) rfl ?_
             refine WPL.skipg (b' := false) rfl rfl rfl rfl rfl (.inl trivial) ?_
             refine WPL.skipg (b' := false) rfl rfl rfl rfl rfl (.inl trivial) ?_
             refine WPL.q (q_pickF (v := .lit (.bool _)) rfl rfl) rfl ?_
             refine WPL.q (q_mv (v := .lit (.bool _)) rfl) rfl ?_
             refine WPL.skipg (b' := false) rfl rfl rfl rfl rfl (.inl trivial) ?_
             refine WPL.skipg (b' := false) rfl rfl rfl rfl rfl (.inl trivial) ?_
             refine WPL.q (q_pickF (v := .lit (.bool _)) rfl rfl) rfl ?_
             refine WPL.q (q_mv (v := .lit (.bool _)) rfl) rfl ?_
             refine WPL.skipg (b' := false) rfl rfl rfl rfl rfl (.inl trivial) ?_
             refine WPL.skipg (b' := false) rfl rfl rfl rfl rfl (.inl trivial) ?_
             refine WPL.skipg (b' := false) rfl rfl rfl rfl rfl (.inl trivial) ?_
             refine WPL.q (q_pickF (v := .lit (.bool _)) rfl rfl) rfl ?_
             refine WPL.q (q_mv (v := .lit (.bool _)) rfl) rfl ?_
             refine WPL.skipg (b' := false) rfl rfl rfl rfl rfl (.inl trivial) ?_
             refine WPL.skipg (b' := false) rfl rfl rfl rfl rfl (.inl trivial) ?_
             refine WPL.skipg (b' := false) rfl rfl rfl rfl rfl (.inl trivial) ?_
             refine WPL.skipg (b' := false) rfl rfl rfl rfl rfl (.inl trivial) ?_
             refine WPL.q (q_pickF (v := .lit (.bool _)) rfl rfl) rfl ?_
             refine WPL.q (q_mv (v := .lit (.bool _)) rfl) rfl ?_
             refine WPL.skipg (b' := false) rfl rfl rfl rfl rfl (.inl trivial) ?_
             refine WPL.skipg (b' := false) rfl rfl rfl rfl rfl (.inl trivial) ?_
             refine WPL.skipg (b' := false) rfl rfl rfl rfl rfl (.inl trivial) ?_
             refine WPL.skipg (b' := false) rfl rfl rfl rfl rfl (.inl trivial) ?_
             refine WPL.q (q_pickF (v := .lit (.bool _)) rfl rfl) rfl ?_
             refine WPL.q (q_mv (v := .lit (.bool _)) rfl) rfl ?_
             refine WPL.skipg (b' := false) rfl rfl rfl rfl rfl (.inl trivial) ?_
             refine WPL.skipg (b' := false) rfl rfl rfl rfl rfl (.inl trivial) ?_
             refine WPL.skipg (b' := false) rfl rfl rfl rfl rfl (.inl trivial) ?_
             refine WPL.skipg (b' := false) rfl rfl rfl rfl rfl (.inl trivial) ?_
             refine WPL.q (q_pickF (v := .lit (.bool _)) rfl rfl) rfl ?_
             refine WPL.q (q_mv (v := .lit (.bool _)) rfl) rfl ?_
             refine WPL.skipg (b' := false) rfl rfl rfl rfl rfl (.inl trivial) ?_
             refine WPL.skipg (b' := false) rfl rfl rfl rfl rfl (.inl trivial) ?_
             refine WPL.skipg (b' := false) rfl rfl rfl rfl rfl (.inl trivial) ?_
             refine WPL.skipg (b' := false) rfl rfl rfl rfl rfl (.inl trivial) ?_
             refine WPL.q (q_pickF (v := .lit (.bool _)) rfl rfl) rfl ?_
             refine WPL.q (q_as (v := .lit (.bool _)) rfl) rfl ?_
             refine WPL.nilW ?_
             have q0 := (Option.some.inj H)
             subst q0
             exact W.wk [] hnp ⟨rfl, rfl, rfl⟩ ⟨rfl, trivial, by decide, rfl, trivial⟩ (LeE.upd rfl rfl (LeE.none rfl rfl)) rfl
           replace H := cnf hb5274 H
           refine WPL.skipg (b' := false) rfl rfl (lb hb5274) rfl rfl (.inl trivial) ?_
           refine WPL.skipg (b' := false) rfl rfl (lb hb5274) rfl rfl (.inl trivial) ?_
           refine WPL.skipg (b' := false) rfl rfl (lb hb5274) rfl rfl (.inl trivial) ?_
           refine WPL.skipg (b' := false) rfl rfl (lb hb5274) rfl rfl (.inl trivial) ?_
           refine WPL.q (q_pickF (v := .lit (.bool _)) (lb hb5274) rfl) rfl ?_
           refine WPL.q (q_mv (v := .lit (.bool _)) rfl) rfl ?_
           refine WPL.skipg (b' := false) rfl rfl rfl rfl rfl (.inl trivial) ?_
           refine WPL.skipg (b' := false) rfl rfl rfl rfl rfl (.inl trivial) ?_
           refine WPL.skipg (b' := false) rfl rfl rfl rfl rfl (.inl trivial) ?_
           refine WPL.skipg (b' := false) rfl rfl rfl rfl rfl (.inl trivial) ?_
           refine WPL.q (q_pickF (v := .lit (.bool _)) rfl rfl) rfl ?_
           refine WPL.q (q_mv (v := .lit (.bool _)) rfl) rfl ?_
           refine WPL.skipg (b' := false) rfl rfl rfl rfl rfl (.inl trivial) ?_
           refine WPL.skipg (b' := false) rfl rfl rfl rfl rfl (.inl trivial) ?_
           refine WPL.q (q_pickF (v := .lit (.bool _)) rfl rfl) rfl ?_
           refine WPL.q (q_mv (v := .lit (.bool _)) rfl) rfl ?_
           refine WPL.skipg (b' := false) rfl rfl rfl rfl rfl (.inl trivial) ?_
           refine WPL.skipg (b' := false) rfl rfl rfl rfl rfl (.inl trivial) ?_
           refine WPL.q (q_pickF (v := .lit (.bool _)) rfl rfl) rfl ?_
           refine WPL.q (q_mv (v := .lit (.bool _)) rfl) rfl ?_
           refine WPL.skipg (b' := false) rfl rfl rfl rfl rfl (.inl trivial) ?_
           refine WPL.skipg (b' := false) rfl rfl rfl rfl rfl (.inl trivial) ?_
           refine WPL.skipg (b' := false) rfl rfl rfl rfl rfl (.inl trivial) ?_
           refine WPL.q (q_pickF (v := .lit (.bool _)) rfl rfl) rfl ?_
           refine WPL.q (q_mv (v := .lit (.bool _)) rfl) rfl ?_
           refine WPL.skipg (b' := false) rfl rfl rfl rfl rfl (.inl trivial) ?_
           refine WPL.skipg (b' := false) rfl rfl rfl rfl rfl (.inl trivial) ?_
           refine WPL.skipg (b' := false) rfl rfl rfl rfl rfl (.inl trivial) ?_
           refine WPL.skipg (b' := false) rfl rfl rfl rfl rfl (.inl trivial) ?_
           refine WPL.q (q_pickF (v := .lit (.bool _)) rfl rfl) rfl ?_
           refine WPL.q (q_mv (v := .lit (.bool _)) rfl) rfl ?_
           refine WPL.skipg (b' := false) rfl rfl rfl rfl rfl (.inl trivial) ?_
           refine WPL.skipg (b' := false) rfl rfl rfl rfl rfl (.inl trivial) ?_
           refine WPL.skipg (b' := false) rfl rfl rfl rfl rfl (.inl trivial) ?_
           refine WPL.skipg (b' := false) rfl rfl rfl rfl rfl (.inl trivial) ?_
           refine WPL.q (q_pickF (v := .lit (.bool _)) rfl rfl) rfl ?_
           refine WPL.q (q_mv (v := .lit (.bool _)) rfl) rfl ?_
           refine WPL.skipg (b' := false) rfl rfl rfl rfl rfl (.inl trivial) ?_
           refine WPL.skipg (b' := false) rfl rfl rfl rfl rfl (.inl trivial) ?_
           refine WPL.skipg (b' := false) rfl rfl rfl rfl rfl (.inl trivial) ?_
           refine WPL.skipg (b' := false) rfl rfl rfl rfl rfl (.inl trivial) ?_
           refine WPL.q (q_pickF (v := .lit (.bool _)) rfl rfl) rfl ?_
           refine WPL.q (q_mv (v := .lit (.bool _)) rfl) rfl ?_
           refine WPL.skipg (b' := false) rfl rfl rfl rfl rfl (.inl trivial) ?_
           refine WPL.skipg (b' := false) rfl rfl rfl rfl rfl (.inl trivial) ?_
           refine WPL.skipg (b' := false) rfl rfl rfl rfl rfl (.inl trivial) ?_
           refine WPL.skipg (b' := false) rfl rfl rfl rfl rfl (.inl trivial) ?_
           refine WPL.q (q_pickF (v := .lit (.bool _)) rfl rfl) rfl ?_
           refine WPL.q (q_as (v := .lit (.bool _)) rfl) rfl ?_
           refine WPL.nilW ?_
           have q0 := (Option.some.inj H)
           subst q0
           exact W.wk [] hnp ⟨rfl, rfl, rfl⟩ ⟨rfl, trivial, by decide, rfl, trivial⟩ (LeE.upd rfl rfl (LeE.none rfl rfl)) rfl
         replace H := cnf hb5272 H
         refine WPL.skipg (b' := false) rfl rfl (lb hb5272) rfl rfl (.inl trivial) ?_
         refine WPL.skipg (b' := false) rfl rfl (lb hb5272) rfl rfl (.inl trivial) ?_
         refine WPL.skipg (b' := false) rfl rfl (lb hb5272) rfl rfl (.inl trivial) ?_
         refine WPL.skipg (b' := false) rfl rfl (lb hb5272) rfl rfl (.inl trivial) ?_
         refine WPL.q (q_pickF (v := .lit (.bool _)) (lb hb5272) rfl) rfl ?_
         refine WPL.q (q_mv (v := .lit (.bool _)) rfl) rfl ?_
         refine WPL.skipg (b' := false) rfl rfl rfl rfl rfl (.inl trivial) ?_
         refine WPL.skipg (b' := false) rfl rfl rfl rfl rfl (.inl trivial) ?_
         refine WPL.skipg (b' := false) rfl rfl rfl rfl rfl (.inl trivial) ?_
         refine WPL.skipg (b' := false) rfl rfl rfl rfl rfl (.inl trivial) ?_
         refine WPL.q (q_pickF (v := .lit (.bool _)) rfl rfl) rfl ?_
         refine WPL.q (q_mv (v := .lit (.bool _)) rfl) rfl ?_
         refine WPL.skipg (b' := false) rfl rfl rfl rfl rfl (.inl trivial) ?_
         refine WPL.skipg (b' := false) rfl rfl rfl rfl rfl (.inl trivial) ?_
         refine WPL.skipg (b' := false) rfl rfl rfl rfl rfl (.inl trivial) ?_
         refine WPL.skipg (b' := false) rfl rfl rfl rfl rfl (.inl trivial) ?_
         refine WPL.q (q_pickF (v := .lit (.bool _)) rfl rfl) rfl ?_
         refine WPL.q (q_mv (v := .lit (.bool _)) rfl) rfl ?_
         refine WPL.skipg (b' := false) rfl rfl rfl rfl rfl (.inl trivial) ?_
         refine WPL.skipg (b' := false) rfl rfl rfl rfl rfl (.inl trivial) ?_
         refine WPL.q (q_pickF (v := .lit (.bool _)) rfl rfl) rfl ?_
         refine WPL.q (q_mv (v := .lit (.bool _)) rfl) rfl ?_
         refine WPL.skipg (b' := false) rfl rfl rfl rfl rfl (.inl trivial) ?_
         refine WPL.skipg (b' := false) rfl rfl rfl rfl rfl (.inl trivial) ?_
         refine WPL.q (q_pickF (v := .lit (.bool _)) rfl rfl) rfl ?_
         refine WPL.q (q_mv (v := .lit (.bool _)) rfl) rfl ?_
         refine WPL.skipg (b' := false) rfl rfl rfl rfl rfl (.inl trivial) ?_
         refine WPL.skipg (b' := false) rfl rfl rfl rfl rfl (.inl trivial) ?_
         refine WPL.skipg (b' := false) rfl rfl rfl rfl rfl (.inl trivial) ?_
         refine WPL.q (q_pickF (v := .lit (.bool _)) rfl rfl) rfl ?_
         refine WPL.q (q_mv (v := .lit (.bool _)) rfl) rfl ?_
         refine WPL.skipg (b' := false) rfl rfl rfl rfl rfl (.inl trivial) ?_
         refine WPL.skipg (b' := false) rfl rfl rfl rfl rfl (.inl trivial) ?_
         refine WPL.skipg (b' := false) rfl rfl rfl rfl rfl (.inl trivial) ?_
         refine WPL.skipg (b' := false) rfl rfl rfl rfl rfl (.inl trivial) ?_
         refine WPL.q (q_pickF (v := .lit (.bool _)) rfl rfl) rfl ?_
         refine WPL.q (q_mv (v := .lit (.bool _)) rfl) rfl ?_
         refine WPL.skipg (b' := false) rfl rfl rfl rfl rfl (.inl trivial) ?_
         refine WPL.skipg (b' := false) rfl rfl rfl rfl rfl (.inl trivial) ?_
         refine WPL.skipg (b' := false) rfl rfl rfl rfl rfl (.inl trivial) ?_
         refine WPL.skipg (b' := false) rfl rfl rfl rfl rfl (.inl trivial) ?_
         refine WPL.q (q_pickF (v := .lit (.bool _)) rfl rfl) rfl ?_
         refine WPL.q (q_mv (v := .lit (.bool _)) rfl) rfl ?_
         refine WPL.skipg (b' := false) rfl rfl rfl rfl rfl (.inl trivial) ?_
         refine WPL.skipg (b' := false) rfl rfl rfl rfl rfl (.inl trivial) ?_
         refine WPL.skipg (b' := false) rfl rfl rfl rfl rfl (.inl trivial) ?_
         refine WPL.skipg (b' := false) rfl rfl rfl rfl rfl (.inl trivial) ?_
         refine WPL.q (q_pickF (v := .lit (.bool _)) rfl rfl) rfl ?_
         refine WPL.q (q_mv (v := .lit (.bool _)) rfl) rfl ?_
         refine WPL.skipg (b' := false) rfl rfl rfl rfl rfl (.inl trivial) ?_
         refine WPL.skipg (b' := false) rfl rfl rfl rfl rfl (.inl trivial) ?_
         refine WPL.skipg (b' := false) rfl rfl rfl rfl rfl (.inl trivial) ?_
         refine WPL.skipg (b' := false) rfl rfl rfl rfl rfl (.inl trivial) ?_
         refine WPL.q (q_pickF (v := .lit (.bool _)) rfl rfl) rfl ?_
         refine WPL.q (q_as (v := .lit (.bool _)) rfl) rfl ?_
         refine WPL.nilW ?_
         have q0 := (Option.some.inj H)
         subst q0
         exact W.wk [] hnp ⟨rfl, rfl, rfl⟩ ⟨rfl, trivial, by decide, rfl, trivial⟩ (LeE.upd rfl rfl (LeE.none rfl rfl)) rfl
       replace H := cnf hb5270 H
       refine WPL.skipg (b' := false) rfl rfl (lb hb5270) rfl rfl (.inl trivial) ?_
       refine WPL.skipg (b' := false) rfl rfl (lb hb5270) rfl rfl (.inl trivial) ?_
       refine WPL.skipg (b' := false) rfl rfl (lb hb5270) rfl rfl (.inl trivial) ?_
       refine WPL.skipg (b' := false) rfl rfl (lb hb5270) rfl rfl (.inl trivial) ?_
       refine WPL.q (q_pickF (v := .lit (.bool _)) (lb hb5270) rfl) rfl ?_
       refine WPL.q (q_mv (v := .lit (.bool _)) rfl) rfl ?_
       refine WPL.skipg (b' := false) rfl rfl rfl rfl rfl (.inl trivial) ?_
       refine WPL.skipg (b' := false) rfl rfl rfl rfl rfl (.inl trivial) ?_
       refine WPL.skipg (b' := false) rfl rfl rfl rfl rfl (.inl trivial) ?_
       refine WPL.skipg (b' := false) rfl rfl rfl rfl rfl (.inl trivial) ?_
       refine WPL.q (q_pickF (v := .lit (.bool _)) rfl rfl) rfl ?_
       refine WPL.q (q_mv (v := .lit (.bool _)) rfl) rfl ?_
       refine WPL.skipg (b' := false) rfl rfl rfl rfl rfl (.inl trivial) ?_
       refine WPL.skipg (b' := false) rfl rfl rfl rfl rfl (.inl trivial) ?_
       refine WPL.skipg (b' := false) rfl rfl rfl rfl rfl (.inl trivial) ?_
       refine WPL.skipg (b' := false) rfl rfl rfl rfl rfl (.inl trivial) ?_
       refine WPL.q (q_pickF (v := .lit (.bool _)) rfl rfl) rfl ?_
       refine WPL.q (q_mv (v := .lit (.bool _)) rfl) rfl ?_
       refine WPL.skipg (b' := false) rfl rfl rfl rfl rfl (.inl trivial) ?_
       refine WPL.skipg (b' := false) rfl rfl rfl rfl rfl (.inl trivial) ?_
       refine WPL.skipg (b' := false) rfl rfl rfl rfl rfl (.inl trivial) ?_
       refine WPL.skipg (b' := false) rfl rfl rfl rfl rfl (.inl trivial) ?_
       refine WPL.q (q_pickF (v := .lit (.bool _)) rfl rfl) rfl ?_
       refine WPL.q (q_mv (v := .lit (.bool _)) rfl) rfl ?_
       refine WPL.skipg (b' := false) rfl rfl rfl rfl rfl (.inl trivial) ?_
       refine WPL.skipg (b' := false) rfl rfl rfl rfl rfl (.inl trivial) ?_
       refine WPL.q (q_pickF (v := .lit (.bool _)) rfl rfl) rfl ?_
       refine WPL.q (q_mv (v := .lit (.bool _)) rfl) rfl ?_
       refine WPL.skipg (b' := false) rfl rfl rfl rfl rfl (.inl trivial) ?_
       refine WPL.skipg (b' := false) rfl rfl rfl rfl rfl (.inl trivial) ?_
       refine WPL.q (q_pickF (v := .lit (.bool _)) rfl rfl) rfl ?_
       refine WPL.q (q_mv (v := .lit (.bool _)) rfl) rfl ?_
       refine WPL.skipg (b' := false) rfl rfl rfl rfl rfl (.inl trivial) ?_
       refine WPL.skipg (b' := false) rfl rfl rfl rfl rfl (.inl trivial) ?_
       refine WPL.skipg (b' := false) rfl rfl rfl rfl rfl (.inl trivial) ?_
       refine WPL.q (q_pickF (v := .lit (.bool _)) rfl rfl) rfl ?_
       refine WPL.q (q_mv (v := .lit (.bool _)) rfl) rfl ?_
       refine WPL.skipg (b' := false) rfl rfl rfl rfl rfl (.inl trivial) ?_
       refine WPL.skipg (b' := false) rfl rfl rfl rfl rfl (.inl trivial) ?_
       refine WPL.skipg (b' := false) rfl rfl rfl rfl rfl (.inl trivial) ?_
       refine WPL.skipg (b' := false) rfl rfl rfl rfl rfl (.inl trivial) ?_
       refine WPL.q (q_pickF (v := .lit (.bool _)) rfl rfl) rfl ?_
       refine WPL.q (q_mv (v := .lit (.bool _)) rfl) rfl ?_
       refine WPL.skipg (b' := false) rfl rfl rfl rfl rfl (.inl trivial) ?_
       refine WPL.skipg (b' := false) rfl rfl rfl rfl rfl (.inl trivial) ?_
       refine WPL.skipg (b' := false) rfl rfl rfl rfl rfl (.inl trivial) ?_
       refine WPL.skipg (b' := false) rfl rfl rfl rfl rfl (.inl trivial) ?_
       refine WPL.q (q_pickF (v := .lit (.bool _)) rfl rfl) rfl ?_
       refine WPL.q (q_mv (v := .lit (.bool _)) rfl) rfl ?_
       refine WPL.skipg (b' := false) rfl rfl rfl rfl rfl (.inl trivial) ?_
       refine WPL.skipg (b' := false) rfl rfl rfl rfl rfl (.inl trivial) ?_
       refine WPL.skipg (b' := false) rfl rfl rfl rfl rfl (.inl trivial) ?_
       refine WPL.skipg (b' := false) rfl rfl rfl rfl rfl (.inl trivial) ?_
       refine WPL.q (q_pickF (v := .lit (.bool _)) rfl rfl) rfl ?_
       refine WPL.q (q_mv (v := .lit (.bool _)) rfl) rfl ?_
       refine WPL.skipg (b' := false) rfl rfl rfl rfl rfl (.inl trivial) ?_
       refine WPL.skipg (b' := false) rfl rfl rfl rfl rfl (.inl trivial) ?_
       refine WPL.skipg (b' := false) rfl rfl rfl rfl rfl (.inl trivial) ?_
       refine WPL.skipg (b' := false) rfl rfl rfl rfl rfl (.inl trivial) ?_
       refine WPL.q (q_pickF (v := .lit (.bool _)) rfl rfl) rfl ?_
       refine WPL.q (q_as (v := .lit (.bool _)) rfl) rfl ?_
       refine WPL.nilW ?_
       have q0 := (Option.some.inj H)
       subst q0
       exact W.wk [] hnp ⟨rfl, rfl, rfl⟩ ⟨rfl, trivial, by decide, rfl, trivial⟩ (LeE.upd rfl rfl (LeE.none rfl rfl)) rfl
     replace H := cnf hb5268 H
     refine WPL.skipg (b' := false) rfl rfl (lb hb5268) rfl rfl (.inl trivial) ?_
     refine WPL.skipg (b' := false) rfl rfl (lb hb5268) rfl rfl (.inl trivial) ?_
     refine WPL.skipg (b' := false) rfl rfl (lb hb5268) rfl rfl (.inl trivial) ?_
     refine WPL.q (q_pickF (v := .lit (.bool _)) (lb hb5268) rfl) rfl ?_
     refine WPL.q (q_mv (v := .lit (.bool _)) rfl) rfl ?_
     refine WPL.skipg (b' := false) rfl rfl rfl rfl rfl (.inl trivial) ?_
     refine WPL.skipg (b' := false) rfl rfl rfl rfl rfl (.inl trivial) ?_
     refine WPL.skipg (b' := false) rfl rfl rfl rfl rfl (.inl trivial) ?_
     refine WPL.skipg (b' := false) rfl rfl rfl rfl rfl (.inl trivial) ?_
     refine WPL.q (q_pickF (v := .lit (.bool _)) rfl rfl) rfl ?_
     refine WPL.q (q_mv (v := .lit (.bool _)) rfl) rfl ?_
     refine WPL.skipg (b' := false) rfl rfl rfl rfl rfl (.inl trivial) ?_
     refine WPL.skipg (b' := false) rfl rfl rfl rfl rfl (.inl trivial) ?_
     refine WPL.skipg (b' := false) rfl rfl rfl rfl rfl (.inl trivial) ?_
     refine WPL.skipg (b' := false) rfl rfl rfl rfl rfl (.inl trivial) ?_
     refine WPL.q (q_pickF (v := .lit (.bool _)) rfl rfl) rfl ?_
     refine WPL.q (q_mv (v := .lit (.bool _)) rfl) rfl ?_
     refine WPL.skipg (b' := false) rfl rfl rfl rfl rfl (.inl trivial) ?_
     refine WPL.skipg (b' := false) rfl rfl rfl rfl rfl (.inl trivial) ?_
     refine WPL.skipg (b' := false) rfl rfl rfl rfl rfl (.inl trivial) ?_
     refine WPL.skipg (b' := false) rfl rfl rfl rfl rfl (.inl trivial) ?_
     refine WPL.q (q_pickF (v := .lit (.bool _)) rfl rfl) rfl ?_
     refine WPL.q (q_mv (v := .lit (.bool _)) rfl) rfl ?_
     refine WPL.skipg (b' := false) rfl rfl rfl rfl rfl (.inl trivial) ?_
     refine WPL.skipg (b' := false) rfl rfl rfl rfl rfl (.inl trivial) ?_
     refine WPL.skipg (b' := false) rfl rfl rfl rfl rfl (.inl trivial) ?_
     refine WPL.skipg (b' := false) rfl rfl rfl rfl rfl (.inl trivial) ?_
     refine WPL.q (q_pickF (v := .lit (.bool _)) rfl rfl) rfl ?_
     refine WPL.q (q_mv (v := .lit (.bool _)) rfl) rfl ?_
     refine WPL.skipg (b' := false) rfl rfl rfl rfl rfl (.inl trivial) ?_
     refine WPL.skipg (b' := false) rfl rfl rfl rfl rfl (.inl trivial) ?_
     refine WPL.q (q_pickF (v := .lit (.bool _)) rfl rfl) rfl ?_
     refine WPL.q (q_mv (v := .lit (.bool _)) rfl) rfl ?_
     refine WPL.skipg (b' := false) rfl rfl rfl rfl rfl (.inl trivial) ?_
     refine WPL.skipg (b' := false) rfl rfl rfl rfl rfl (.inl trivial) ?_
     refine WPL.q (q_pickF (v := .lit (.bool _)) rfl rfl) rfl ?_
     refine WPL.q (q_mv (v := .lit (.bool _)) rfl) rfl ?_
     refine WPL.skipg (b' := false) rfl rfl rfl rfl rfl (.inl trivial) ?_
     refine WPL.skipg (b' := false) rfl rfl rfl rfl rfl (.inl trivial) ?_
     refine WPL.skipg (b' := false) rfl rfl rfl rfl rfl (.inl trivial) ?_
     refine WPL.q (q_pickF (v := .lit (.bool _)) rfl rfl) rfl ?_
     refine WPL.q (q_mv (v := .lit (.bool _)) rfl) rfl ?_
     refine WPL.skipg (b' := false) rfl rfl rfl rfl rfl (.inl trivial) ?_
     refine WPL.skipg (b' := false) rfl rfl rfl rfl rfl (.inl trivial) ?_
     refine WPL.skipg (b' := false) rfl rfl rfl rfl rfl (.inl trivial) ?_
     refine WPL.skipg (b' := false) rfl rfl rfl rfl rfl (.inl trivial) ?_
     refine WPL.q (q_pickF (v := .lit (.bool _)) rfl rfl) rfl ?_
     refine WPL.q (q_mv (v := .lit (.bool _)) rfl) rfl ?_
     refine WPL.skipg (b' := false) rfl rfl rfl rfl rfl (.inl trivial) ?_
     refine WPL.skipg (b' := false) rfl rfl rfl rfl rfl (.inl trivial) ?_
     refine WPL.skipg (b' := false) rfl rfl rfl rfl rfl (.inl trivial) ?_
     refine WPL.skipg (b' := false) rfl rfl rfl rfl rfl (.inl trivial) ?_
     refine WPL.q (q_pickF (v := .lit (.bool _)) rfl rfl) rfl ?_
     refine WPL.q (q_mv (v := .lit (.bool _)) rfl) rfl ?_
     refine WPL.skipg (b' := false) rfl rfl rfl rfl rfl (.inl trivial) ?_
     refine WPL.skipg (b' := false) rfl rfl rfl rfl rfl (.inl trivial) ?_
     refine WPL.skipg (b' := false) rfl rfl rfl rfl rfl (.inl trivial) ?_
     refine WPL.skipg (b' := false) rfl rfl rfl rfl rfl (.inl trivial) ?_
     refine WPL.q (q_pickF (v := .lit (.bool _)) rfl rfl) rfl ?_
     refine WPL.q (q_mv (v := .lit (.bool _)) rfl) rfl ?_
     refine WPL.skipg (b' := false) rfl rfl rfl rfl rfl (.inl trivial) ?_
     refine WPL.skipg (b' := false) rfl rfl rfl rfl rfl (.inl trivial) ?_
     refine WPL.skipg (b' := false) rfl rfl rfl rfl rfl (.inl trivial) ?_
     refine WPL.skipg (b' := false) rfl rfl rfl rfl rfl (.inl trivial) ?_
     refine WPL.q (q_pickF (v := .lit (.bool _)) rfl rfl) rfl ?_
     refine WPL.q (q_as (v := .lit (.bool _)) rfl) rfl ?_
     refine WPL.nilW ?_
     have q0 := (Option.some.inj H)
     subst q0
     exact W.wk [] hnp ⟨rfl, rfl, rfl⟩ ⟨rfl, trivial, by decide, rfl, trivial⟩ (LeE.upd rfl rfl (LeE.none rfl rfl)) rfl
   rintro _ _ _ ⟨rfl, rfl, rfl⟩
   refine W.now ?_
   refine Then.n ?_
   refine WP.retW ?_
   have q0 := Option.some.inj H
   subst q0
   exact W.now (BodyR.mkR trivial rfl [] ⟨rfl, rfl⟩ ⟨rfl, trivial, by decide, rfl, trivial⟩ rfl rfl)
 refine WPL.pW (runs_callP (s := []) (t := []) (N := 3) (bor := [2]) fn4 rfl (s_huff_Lengths__b k ([5, 1, 1, 0] : List Int) 15 (Sum.inr x5244) h5240) ⟨rfl, trivial, by decide, rfl, trivial⟩ rfl ⟨trivial, rfl, rfl, trivial⟩ (.row rfl rfl (.ren rfl rfl .nil)) rfl trivial rfl) ?_
 have q0 := Option.some.inj H
 subst q0
 exact W.now (Then.p (BodyR.mkP trivial [] ⟨rfl, rfl⟩ ⟨rfl, trivial, by decide, rfl, trivial⟩ rfl rfl))
set_option maxRecDepth 100000 in
set_option maxHeartbeats 4000000 in
theorem s_quireref02_space (k : Nat) (x5464 : (List Int)) (x5510 : Int) (x5511 : Int) (H : g_quireref02_space k x5464 = some (x5510, x5511)) : Go.Q.Spec Try.prog 15 0 [.ro (Rd.slice (Rd.int .i64)) false x5464] Mem.nil (fun o M => o = .ret (.tup [.lit (.int .i64 x5510), .lit (.int .i64 x5511)]) ∧ M = Mem.nil) := by
 unfold g_quireref02_space at H
 refine Go.Q.Spec.of_bodyR (az := []) (rs := [.tmp 2, .tmp 3]) (nt := 31) Try.func15 rfl rfl (by intro t T h; simp at h) rfl rfl fun cx hnp => ?_
 refine WP.seq ?_
 refine WP.region ?_
 refine WPL.q (q_as (v := .lit (.int _ _)) rfl) rfl ?_
 refine WPL.q (q_as (v := .lit (.int _ _)) rfl) rfl ?_
 refine WPL.nilW ?_
 refine W.now ?_
 refine Then.n ?_
 refine WP.seq ?_
 refine WP.region ?_
 refine WPL.q (q_as (v := .lit (.int _ _)) rfl) rfl ?_
 refine WPL.q (q_as (v := .lit (.int _ _)) rfl) rfl ?_
 refine WPL.nilW ?_
 refine W.now ?_
 refine Then.n ?_
 refine WP.seq ?_
 refine WP.seq ?_
 refine WP.region ?_
 refine WPL.q (q_as (v := .lit (.int _ _)) rfl) rfl ?_
 refine WPL.nilW ?_
 refine W.now ?_
 refine Then.n ?_
 refine WP.block ?_
 refine WP.cv (Cv.weak (E' := ((((Env.none.upd 0 (.ro (Rd.slice (Rd.int .i64)) false x5464)).upd 4 (.lit (.int .i64 0))).upd 5 (.lit (.int .i64 0))).upd 6 (.lit (.int .i64 0)))) (M' := Mem.nil) [] hnp ⟨rfl, trivial, by decide, rfl, trivial⟩ (LeE.upd rfl rfl (LeE.upd rfl rfl (LeE.upd rfl rfl (LeE.upd rfl rfl (LeE.none rfl rfl)))))) ?_
 obtain ⟨⟨x5553, x5554⟩, H5573, H⟩ := bnd H
 refine WP.monoW (Q := fun x E M => x = .exit 0 ∧ E = ((Env.none.upd 4 (.lit (.int .i64 x5553))).upd 5 (.lit (.int .i64 x5554))) ∧ M = Mem.nil) ?_ ?_
 · refine WP.loop (β := Int × Int × Int) (fun n b => g_quireref02_space_l0 k x5464 n b.1 b.2.1 b.2.2 = some (x5553, x5554)) (fun b => ((((Env.none.upd 0 (.ro (Rd.slice (Rd.int .i64)) false x5464)).upd 4 (.lit (.int .i64 b.1))).upd 5 (.lit (.int .i64 b.2.1))).upd 6 (.lit (.int .i64 b.2.2)))) (fun b => Mem.nil) k (0, 0, 0) H5573 rfl rfl ?_
   rintro n ⟨x5531, x5532, x5533⟩ H
   obtain _ | n := n
   · exact nf rfl H
   rw [g_quireref02_space_l0.eq_2] at H
   show WP _ _ _ _ ((((Env.none.upd 0 (.ro (Rd.slice (Rd.int .i64)) false x5464)).upd 4 (.lit (.int .i64 x5531))).upd 5 (.lit (.int .i64 x5532))).upd 6 (.lit (.int .i64 x5533))) Mem.nil _
   refine WP.seq ?_
   refine WP.seq ?_
   refine WP.region ?_
   refine WPL.q (q_mv (v := .lit (.int _ _)) rfl) rfl ?_
   refine WPL.q (q_mv (v := .ro _ _ _) rfl) rfl ?_
   refine WPL.q (q_len_ro sl22 rfl) rfl ?_
   obtain ⟨x5557, h5557, H⟩ := bnd H
   refine WPL.q (q_nm (q_lss rfl rfl) (nm_bool h5557)) rfl ?_
   refine WPL.nilW ?_
   refine W.now ?_
   refine Then.n ?_
   refine WP.cond (t := x5557) rfl (fun hb5557 => ?_) (fun hb5557 => ?_)
   · replace H := cnt hb5557 H
     refine WP.skipW ?_
     refine W.now ?_
     refine Then.n ?_
     refine WP.seq ?_
     obtain ⟨⟨x5565, x5566⟩, H5572, H⟩ := bnd H
     refine WP.monoW (Q := fun x E M => x = .normal ∧ E = ((((Env.none.upd 0 (.ro (Rd.slice (Rd.int .i64)) false x5464)).upd 4 (.lit (.int .i64 x5565))).upd 5 (.lit (.int .i64 x5566))).upd 6 (.lit (.int .i64 x5533))) ∧ M = Mem.nil) ?_ ?_
     · clear H
       have H := H5572
       clear H5572
       refine WP.block ?_
       refine WP.seq ?_
       refine WP.region ?_
       refine WPL.q (q_mv (v := .ro _ _ _) rfl) rfl ?_
       refine WPL.q (q_mv (v := .lit (.int _ _)) rfl) rfl ?_
       obtain ⟨x5567, h5567, H⟩ := bnd H
       refine WPL.q (q_index_ro sl22 rfl rfl rfl h5567) rfl ?_
       refine WPL.q (q_load_sc sc3 rfl) rfl ?_
       refine WPL.q (q_gtr rfl rfl) rfl ?_
       refine WPL.nilW ?_
       refine W.now ?_
       refine Then.n ?_
       refine WP.cond (t := (decide (0 < x5567))) rfl (fun hb5567 => ?_) (fun hb5567 => ?_)
       · replace H := cnt hb5567 H
         refine WP.seq ?_
         refine WP.region ?_
         refine WPL.q (q_mv (v := .lit (.int _ _)) rfl) rfl ?_
         refine WPL.q (q_mv (v := .ro _ _ _) rfl) rfl ?_
         refine WPL.q (q_mv (v := .lit (.int _ _)) rfl) rfl ?_
         obtain ⟨x5569, h5569, H⟩ := bnd H
         refine WPL.q (q_index_ro sl22 rfl rfl rfl h5569) rfl ?_
         refine WPL.q (q_load_sc sc3 rfl) rfl ?_
         refine WPL.q (q_sub rfl rfl) rfl ?_
         obtain ⟨x5570, h5570, H⟩ := bnd H
         refine WPL.q (q_nm (q_conv Try.underlying3 Try.underlying27 rfl) (nm_int h5570)) rfl ?_
         obtain ⟨h5570, H⟩ := grd H
         refine WPL.q (q_shl rfl rfl h5570) rfl ?_
         obtain ⟨x5572, h5572, H⟩ := bnd H
         refine WPL.q (q_nm (q_add rfl rfl) (nm_int h5572)) rfl ?_
         refine WPL.q (q_as (v := .lit (.int _ _)) rfl) rfl ?_
         refine WPL.nilW ?_
         refine W.now ?_
         refine Then.n ?_
         refine WP.region ?_
         refine WPL.q (q_mv (v := .lit (.int _ _)) rfl) rfl ?_
         refine WPL.q (q_add rfl rfl) rfl ?_
         refine WPL.q (q_as (v := .lit (.int _ _)) rfl) rfl ?_
         refine WPL.nilW ?_
         have q0 := (Prod.mk.inj (Option.some.inj H)).1
         have q1 := (Prod.mk.inj (Option.some.inj H)).2
         subst q0
         subst q1
         exact W.wk [] hnp (InBlock.n ⟨rfl, rfl, rfl⟩) ⟨rfl, trivial, by decide, rfl, trivial⟩ (LeE.upd rfl rfl (LeE.upd rfl rfl (LeE.upd rfl rfl (LeE.upd rfl rfl (LeE.none rfl rfl))))) rfl
       replace H := cnf hb5567 H
       refine WP.skipW ?_
       have q0 := (Prod.mk.inj (Option.some.inj H)).1
       have q1 := (Prod.mk.inj (Option.some.inj H)).2
       subst q0
       subst q1
       exact W.wk [] hnp (InBlock.n ⟨rfl, rfl, rfl⟩) ⟨rfl, trivial, by decide, rfl, trivial⟩ (LeE.upd rfl rfl (LeE.upd rfl rfl (LeE.upd rfl rfl (LeE.upd rfl rfl (LeE.none rfl rfl))))) rfl
     rintro _ _ _ ⟨rfl, rfl, rfl⟩
     refine W.now ?_
     refine Then.n ?_
     refine WP.region ?_
     refine WPL.q (q_mv (v := .lit (.int _ _)) rfl) rfl ?_
     refine WPL.q (q_add rfl rfl) rfl ?_
     refine WPL.q (q_as (v := .lit (.int _ _)) rfl) rfl ?_
     refine WPL.nilW ?_
     exact W.wk [] hnp (Then.n ⟨n, (x5565, x5566, (IntKind.wrap .i64 (x5533 + 1))), Nat.lt_succ_self n, H, rfl, rfl⟩) ⟨rfl, trivial, by decide, rfl, trivial⟩ (LeE.upd rfl rfl (LeE.upd rfl rfl (LeE.upd rfl rfl (LeE.upd rfl rfl (LeE.none rfl rfl))))) rfl
   replace H := cnf hb5557 H
   refine WP.exitW ?_
   have q0 := (Prod.mk.inj (Option.some.inj H)).1
   have q1 := (Prod.mk.inj (Option.some.inj H)).2
   subst q0
   subst q1
   exact W.wk [] hnp (Then.x (Then.x ⟨rfl, rfl, rfl⟩)) ⟨rfl, trivial, by decide, rfl, trivial⟩ (LeE.upd rfl rfl (LeE.upd rfl rfl (LeE.none rfl rfl))) rfl
 rintro _ _ _ ⟨rfl, rfl, rfl⟩
 refine W.now ?_
 refine InBlock.x0 ?_
 refine Then.n ?_
 refine WP.seq ?_
 refine WP.region ?_
 refine WPL.q (q_mv (v := .lit (.int _ _)) rfl) rfl ?_
 refine WPL.q (q_mv (v := .lit (.int _ _)) rfl) rfl ?_
 refine WPL.q (q_as (v := .lit (.int _ _)) rfl) rfl ?_
 refine WPL.q (q_as (v := .lit (.int _ _)) rfl) rfl ?_
 refine WPL.nilW ?_
 refine W.now ?_
 refine Then.n ?_
 refine WP.retW ?_
 have q0 := (Prod.mk.inj (Option.some.inj H)).1
 have q1 := (Prod.mk.inj (Option.some.inj H)).2
 subst q0
 subst q1
 exact W.now (BodyR.mkR trivial rfl [] ⟨rfl, rfl⟩ ⟨rfl, trivial, by decide, rfl, trivial⟩ rfl rfl)
set_option maxRecDepth 100000 in
set_option maxHeartbeats 4000000 in
theorem s_quireref02_Right (k : Nat) (x5411 : (List Int)) (x5596 : Int) (H : g_quireref02_Right k x5411 = some x5596) : Go.Q.Spec Try.prog 6 0 [.ro (Rd.slice (Rd.int .i64)) false x5411] Mem.nil (fun o M => o = .ret (.lit (.int .i64 x5596)) ∧ M = Mem.nil) := by
 unfold g_quireref02_Right at H
 refine Go.Q.Spec.of_bodyR (az := []) (rs := [.tmp 2]) (nt := 46) Try.func6 rfl rfl (by intro t T h; simp at h) rfl rfl fun cx hnp => ?_
 refine WP.seq ?_
 refine WP.region ?_
 refine WPL.q (q_as (v := .lit (.int _ _)) rfl) rfl ?_
 refine WPL.nilW ?_
 refine W.now ?_
 refine Then.n ?_
 refine WP.seq ?_
 refine WP.seq ?_
 refine WP.region ?_
 refine WPL.q (q_mv (v := .ro _ _ _) rfl) rfl ?_
 refine WPL.q (q_len_ro sl22 rfl) rfl ?_
 obtain ⟨x5599, h5599, H⟩ := bnd H
 refine WPL.q (q_nm (q_gtr rfl rfl) (nm_bool h5599)) rfl ?_
 refine WPL.nilW ?_
 refine W.now ?_
 refine Then.n ?_
 refine WP.cond (t := x5599) rfl (fun hb5599 => ?_) (fun hb5599 => ?_)
 · replace H := cnt hb5599 H
   refine WP.seq ?_
   refine WP.region ?_
   refine WPL.q (q_as (v := .lit (.int _ _)) rfl) rfl ?_
   refine WPL.nilW ?_
   refine W.now ?_
   refine Then.n ?_
   refine WP.retW ?_
   have q0 := (Option.some.inj H)
   subst q0
   exact W.now (Then.r (BodyR.mkR trivial rfl [] ⟨rfl, rfl⟩ ⟨rfl, trivial, by decide, rfl, trivial⟩ rfl rfl))
 replace H := cnf hb5599 H
 refine WP.skipW ?_
 refine W.now ?_
 refine Then.n ?_
 refine WP.seq ?_
 refine WP.seq ?_
 refine WP.region ?_
 refine WPL.q (q_as (v := .lit (.int _ _)) rfl) rfl ?_
 refine WPL.nilW ?_
 refine W.now ?_
 refine Then.n ?_
 refine WP.block ?_
 refine WP.cv (Cv.weak (E' := ((Env.none.upd 0 (.ro (Rd.slice (Rd.int .i64)) false x5411)).upd 3 (.lit (.int .i64 0)))) (M' := Mem.nil) [] hnp ⟨rfl, trivial, by decide, rfl, trivial⟩ (LeE.upd rfl rfl (LeE.upd rfl rfl (LeE.none rfl rfl)))) ?_
 obtain ⟨y5669, H5667, H⟩ := bnd H
 refine WP.monoW (Q := fun x E M => match (generalizing := false) y5669 with | (Sum.inl _) => x = .ret ∧ E = (Env.none.upd 2 (.lit (.int .i64 1))) ∧ M = Mem.nil | (Sum.inr _) => x = .exit 0 ∧ E = (Env.none.upd 0 (.ro (Rd.slice (Rd.int .i64)) false x5411)) ∧ M = Mem.nil) ?_ ?_
 · refine WP.loop (β := Int) (fun n b => g_quireref02_Right_l0 k x5411 n b = some y5669) (fun b => ((Env.none.upd 0 (.ro (Rd.slice (Rd.int .i64)) false x5411)).upd 3 (.lit (.int .i64 b)))) (fun b => Mem.nil) k 0 H5667 rfl rfl ?_
   rintro n x5623 H
   obtain _ | n := n
   · exact nf rfl H
   rw [g_quireref02_Right_l0.eq_2] at H
   show WP _ _ _ _ ((Env.none.upd 0 (.ro (Rd.slice (Rd.int .i64)) false x5411)).upd 3 (.lit (.int .i64 x5623))) Mem.nil _
   refine WP.seq ?_
   refine WP.seq ?_
   refine WP.region ?_
   refine WPL.q (q_mv (v := .lit (.int _ _)) rfl) rfl ?_
   refine WPL.q (q_mv (v := .ro _ _ _) rfl) rfl ?_
   refine WPL.q (q_len_ro sl22 rfl) rfl ?_
   obtain ⟨x5648, h5648, H⟩ := bnd H
   refine WPL.q (q_nm (q_lss rfl rfl) (nm_bool h5648)) rfl ?_
   refine WPL.nilW ?_
   refine W.now ?_
   refine Then.n ?_
   refine WP.cond (t := x5648) rfl (fun hb5648 => ?_) (fun hb5648 => ?_)
   · replace H := cnt hb5648 H
     refine WP.skipW ?_
     refine W.now ?_
     refine Then.n ?_
     refine WP.seq ?_
     refine WP.block ?_
     refine WP.seq ?_
     obtain ⟨x5662, H5665, H⟩ := bnd H
     refine WP.monoW (Q := fun x E M => x = .normal ∧ E = (((Env.none.upd 0 (.ro (Rd.slice (Rd.int .i64)) false x5411)).upd 3 (.lit (.int .i64 x5623))).upd 26 (.lit (.bool x5662))) ∧ M = Mem.nil) ?_ ?_
     · clear H
       have H := H5665
       clear H5665
       refine WP.region ?_
       refine WPL.q (q_mv (v := .ro _ _ _) rfl) rfl ?_
       refine WPL.q (q_mv (v := .lit (.int _ _)) rfl) rfl ?_
       obtain ⟨x5663, h5663, H⟩ := bnd H
       refine WPL.q (q_index_ro sl22 rfl rfl rfl h5663) rfl ?_
       refine WPL.q (q_load_sc sc3 rfl) rfl ?_
       refine WPL.q (q_lss rfl rfl) rfl ?_
       refine WPL.q (q_mv (v := .lit (.bool _)) rfl) rfl ?_
       refine WPL.split (t := 20) (b := (decide (x5663 < 0))) rfl (fun hb5663 => ?_) (fun hb5663 => ?_)
       · replace H := cnt hb5663 H
         refine WPL.skipg (b' := true) rfl rfl (lb hb5663) rfl rfl (.inl trivial) ?_
         refine WPL.skipg (b' := true) rfl rfl (lb hb5663) rfl rfl (.inl trivial) ?_
         refine WPL.skipg (b' := true) rfl rfl (lb hb5663) rfl rfl (.inl trivial) ?_
         refine WPL.skipg (b' := true) rfl rfl (lb hb5663) rfl rfl (.inl trivial) ?_
         refine WPL.skipg (b' := true) rfl rfl (lb hb5663) rfl rfl (.inl trivial) ?_
         refine WPL.q (q_pickT (v := .lit (.bool _)) (lb hb5663) rfl) rfl ?_
         refine WPL.nilW ?_
         have q0 := (Option.some.inj H)
         subst q0
         exact W.wk [] hnp ⟨rfl, rfl, rfl⟩ ⟨rfl, trivial, by decide, rfl, trivial⟩ (LeE.upd rfl rfl (LeE.upd rfl rfl (LeE.upd rfl rfl (LeE.none rfl rfl)))) rfl
       replace H := cnf hb5663 H
       refine WPL.qg rfl rfl (lb hb5663) (q_mv (v := .ro _ _ _) rfl) rfl ?_
       refine WPL.qg rfl rfl (lb hb5663) (q_mv (v := .lit (.int _ _)) rfl) rfl ?_
       obtain ⟨x5665, h5665, H⟩ := bnd H
       refine WPL.qg rfl rfl (lb hb5663) (q_index_ro sl22 rfl rfl rfl h5665) rfl ?_
       refine WPL.qg rfl rfl (lb hb5663) (q_load_sc sc3 rfl) rfl ?_
       refine WPL.qg rfl rfl (lb hb5663) (q_gtr rfl rfl) rfl ?_
       refine WPL.q (q_pickF (v := .lit (.bool _)) (lb hb5663) rfl) rfl ?_
       refine WPL.nilW ?_
       have q0 := (Option.some.inj H)
       subst q0
       exact W.wk [] hnp ⟨rfl, rfl, rfl⟩ ⟨rfl, trivial, by decide, rfl, trivial⟩ (LeE.upd rfl rfl (LeE.upd rfl rfl (LeE.upd rfl rfl (LeE.none rfl rfl)))) rfl
     rintro _ _ _ ⟨rfl, rfl, rfl⟩
     refine W.now ?_
     refine Then.n ?_
     refine WP.cond (t := x5662) rfl (fun hb5666 => ?_) (fun hb5666 => ?_)
     · replace H := cnt hb5666 H
       refine WP.seq ?_
       refine WP.region ?_
       refine WPL.q (q_as (v := .lit (.int _ _)) rfl) rfl ?_
       refine WPL.nilW ?_
       refine W.now ?_
       refine Then.n ?_
       refine WP.retW ?_
       have q0 := Option.some.inj H
       subst q0
       exact W.wk [] hnp (InBlock.r (Then.r (Then.r ⟨rfl, rfl, rfl⟩))) ⟨rfl, trivial, by decide, rfl, trivial⟩ (LeE.upd rfl rfl (LeE.none rfl rfl)) rfl
     replace H := cnf hb5666 H
     refine WP.skipW ?_
     refine W.now ?_
     refine InBlock.n ?_
     refine Then.n ?_
     refine WP.region ?_
     refine WPL.q (q_mv (v := .lit (.int _ _)) rfl) rfl ?_
     refine WPL.q (q_add rfl rfl) rfl ?_
     refine WPL.q (q_as (v := .lit (.int _ _)) rfl) rfl ?_
     refine WPL.nilW ?_
     exact W.wk [] hnp (Then.n ⟨n, (IntKind.wrap .i64 (x5623 + 1)), Nat.lt_succ_self n, H, rfl, rfl⟩) ⟨rfl, trivial, by decide, rfl, trivial⟩ (LeE.upd rfl rfl (LeE.upd rfl rfl (LeE.none rfl rfl))) rfl
   replace H := cnf hb5648 H
   refine WP.exitW ?_
   have q0 := Option.some.inj H
   subst q0
   exact W.wk [] hnp (Then.x (Then.x ⟨rfl, rfl, rfl⟩)) ⟨rfl, trivial, by decide, rfl, trivial⟩ (LeE.upd rfl rfl (LeE.none rfl rfl)) rfl
 rcases y5669 with _ | _
 · rintro _ _ _ ⟨rfl, rfl, rfl⟩
   have q0 := (Option.some.inj H)
   subst q0
   exact W.now (InBlock.r (Then.r (BodyR.mkR trivial rfl [] ⟨rfl, rfl⟩ ⟨rfl, trivial, by decide, rfl, trivial⟩ rfl rfl)))
 rintro _ _ _ ⟨rfl, rfl, rfl⟩
 refine W.now ?_
 refine InBlock.x0 ?_
 refine Then.n ?_
 refine WP.seq ?_
 refine WP.region ?_
 refine WPL.q (q_mv (v := .ro _ _ _) rfl) rfl ?_
 obtain ⟨⟨x5671, x5672⟩, h5669, H⟩ := bnd H
 refine WPL.c (runs_call (s := []) (t := []) (N := 0) (bor := []) fn15 rfl (s_quireref02_space k x5411 x5671 x5672 h5669) ⟨rfl, trivial, by decide, rfl, trivial⟩ rfl trivial (.ren rfl rfl .nil) rfl trivial rfl) rfl ?_
 refine WPL.q (q_mv (v := .tup _) rfl) rfl ?_
 refine WPL.q (q_extract rfl rfl) rfl ?_
 refine WPL.q (q_extract rfl rfl) rfl ?_
 refine WPL.q (q_as (v := .lit (.int _ _)) rfl) rfl ?_
 refine WPL.q (q_as (v := .lit (.int _ _)) rfl) rfl ?_
 refine WPL.nilW ?_
 refine W.now ?_
 refine Then.n ?_
 refine WP.seq ?_
 refine WP.seq ?_
 obtain ⟨x5685, H5688, H⟩ := bnd H
 refine WP.monoW (Q := fun x E M => x = .normal ∧ E = (Env.none.upd 45 (.lit (.bool x5685))) ∧ M = Mem.nil) ?_ ?_
 · clear H
   have H := H5688
   clear H5688
   refine WP.region ?_
   refine WPL.q (q_mv (v := .lit (.int _ _)) rfl) rfl ?_
   refine WPL.q (q_eql rfl rfl) rfl ?_
   refine WPL.q (q_mv (v := .lit (.bool _)) rfl) rfl ?_
   refine WPL.split (t := 34) (b := (decide (x5671 = 32768))) rfl (fun hb5685 => ?_) (fun hb5685 => ?_)
   · replace H := cnt hb5685 H
     refine WPL.skipg (b' := true) rfl rfl (lb hb5685) rfl rfl (.inl trivial) ?_
     refine WPL.skipg (b' := true) rfl rfl (lb hb5685) rfl rfl (.inl trivial) ?_
     refine WPL.q (q_pickT (v := .lit (.bool _)) (lb hb5685) rfl) rfl ?_
     refine WPL.q (q_mv (v := .lit (.bool _)) rfl) rfl ?_
     refine WPL.skipg (b' := true) rfl rfl rfl rfl rfl (.inl trivial) ?_
     refine WPL.skipg (b' := true) rfl rfl rfl rfl rfl (.inl trivial) ?_
     refine WPL.skipg (b' := true) rfl rfl rfl rfl rfl (.inl trivial) ?_
     refine WPL.skipu rfl rfl rfl rfl (.inl trivial) ?_
     refine WPL.skipu rfl rfl rfl rfl (.inl trivial) ?_
     refine WPL.skipg (b' := true) rfl rfl rfl rfl rfl (.inl trivial) ?_
     refine WPL.q (q_pickT (v := .lit (.bool _)) rfl rfl) rfl ?_
     refine WPL.nilW ?_
     have q0 := (Option.some.inj H)
     subst q0
     exact W.wk [] hnp ⟨rfl, rfl, rfl⟩ ⟨rfl, trivial, by decide, rfl, trivial⟩ (LeE.upd rfl rfl (LeE.none rfl rfl)) rfl
   replace H := cnf hb5685 H
   refine WPL.qg rfl rfl (lb hb5685) (q_mv (v := .lit (.int _ _)) rfl) rfl ?_
   refine WPL.qg rfl rfl (lb hb5685) (q_eql rfl rfl) rfl ?_
   refine WPL.q (q_pickF (v := .lit (.bool _)) (lb hb5685) rfl) rfl ?_
   refine WPL.q (q_mv (v := .lit (.bool _)) rfl) rfl ?_
   refine WPL.split (t := 38) (b := (decide (x5672 = 0))) rfl (fun hb5686 => ?_) (fun hb5686 => ?_)
   · replace H := cnt hb5686 H
     refine WPL.skipg (b' := true) rfl rfl (lb hb5686) rfl rfl (.inl trivial) ?_
     refine WPL.skipg (b' := true) rfl rfl (lb hb5686) rfl rfl (.inl trivial) ?_
     refine WPL.skipg (b' := true) rfl rfl (lb hb5686) rfl rfl (.inl trivial) ?_
     refine WPL.skipu rfl rfl rfl rfl (.inl trivial) ?_
     refine WPL.skipu rfl rfl rfl rfl (.inl trivial) ?_
     refine WPL.skipg (b' := true) rfl rfl (lb hb5686) rfl rfl (.inl trivial) ?_
     refine WPL.q (q_pickT (v := .lit (.bool _)) (lb hb5686) rfl) rfl ?_
     refine WPL.nilW ?_
     have q0 := (Option.some.inj H)
     subst q0
     exact W.wk [] hnp ⟨rfl, rfl, rfl⟩ ⟨rfl, trivial, by decide, rfl, trivial⟩ (LeE.upd rfl rfl (LeE.none rfl rfl)) rfl
   replace H := cnf hb5686 H
   refine WPL.qg rfl rfl (lb hb5686) (q_mv (v := .lit (.int _ _)) rfl) rfl ?_
   refine WPL.qg rfl rfl (lb hb5686) (q_eql rfl rfl) rfl ?_
   refine WPL.qg rfl rfl (lb hb5686) (q_mv (v := .lit (.bool _)) rfl) rfl ?_
   refine WPL.split (t := 41) (b := (decide (x5672 = 1))) rfl (fun hb5687 => ?_) (fun hb5687 => ?_)
   · replace H := cnt hb5687 H
     refine WPL.qg rfl rfl (lb hb5687) (q_mv (v := .lit (.int _ _)) rfl) rfl ?_
     refine WPL.qg rfl rfl (lb hb5687) (q_eql rfl rfl) rfl ?_
     refine WPL.qg rfl rfl (lb hb5686) (q_pickT (v := .lit (.bool _)) (lb hb5687) rfl) rfl ?_
     refine WPL.q (q_pickF (v := .lit (.bool _)) (lb hb5686) rfl) rfl ?_
     refine WPL.nilW ?_
     have q0 := (Option.some.inj H)
     subst q0
     exact W.wk [] hnp ⟨rfl, rfl, rfl⟩ ⟨rfl, trivial, by decide, rfl, trivial⟩ (LeE.upd rfl rfl (LeE.none rfl rfl)) rfl
   replace H := cnf hb5687 H
   refine WPL.skipg (b' := false) rfl rfl (lb hb5687) rfl rfl (.inl trivial) ?_
   refine WPL.skipg (b' := false) rfl rfl (lb hb5687) rfl rfl (.inl trivial) ?_
   refine WPL.qg rfl rfl (lb hb5686) (q_pickF (v := .lit (.bool _)) (lb hb5687) rfl) rfl ?_
   refine WPL.q (q_pickF (v := .lit (.bool _)) (lb hb5686) rfl) rfl ?_
   refine WPL.nilW ?_
   have q0 := (Option.some.inj H)
   subst q0
   exact W.wk [] hnp ⟨rfl, rfl, rfl⟩ ⟨rfl, trivial, by decide, rfl, trivial⟩ (LeE.upd rfl rfl (LeE.none rfl rfl)) rfl
 rintro _ _ _ ⟨rfl, rfl, rfl⟩
 refine W.now ?_
 refine Then.n ?_
 refine WP.cond (t := x5685) rfl (fun hb5689 => ?_) (fun hb5689 => ?_)
 · replace H := cnt hb5689 H
   refine WP.seq ?_
   refine WP.region ?_
   refine WPL.q (q_as (v := .lit (.int _ _)) rfl) rfl ?_
   refine WPL.nilW ?_
   refine W.now ?_
   refine Then.n ?_
   refine WP.retW ?_
   have q0 := (Option.some.inj H)
   subst q0
   exact W.now (Then.r (BodyR.mkR trivial rfl [] ⟨rfl, rfl⟩ ⟨rfl, trivial, by decide, rfl, trivial⟩ rfl rfl))
 replace H := cnf hb5689 H
 refine WP.skipW ?_
 refine W.now ?_
 refine Then.n ?_
 refine WP.seq ?_
 refine WP.region ?_
 refine WPL.q (q_as (v := .lit (.int _ _)) rfl) rfl ?_
 refine WPL.nilW ?_
 refine W.now ?_
 refine Then.n ?_
 refine WP.retW ?_
 have q0 := (Option.some.inj H)
 subst q0
 exact W.now (BodyR.mkR trivial rfl [] ⟨rfl, rfl⟩ ⟨rfl, trivial, by decide, rfl, trivial⟩ rfl rfl)
end Go.Proofs.Ytjahhkhpchiojaa.W
namespace Go.Proofs.Ytjahhkhpchiojaa.W
open Go Go.Q Go.Proofs
set_option linter.unusedVariables false
set_option linter.unusedSimpArgs false
set_option maxRecDepth 100000 in
set_option maxHeartbeats 4000000 in
theorem s_quireref02_Cost (k : Nat) (x5817 : (List Int)) (x5818 : (List Int)) (x6027 : Int) (H : g_quireref02_Cost k x5817 x5818 = some x6027) : Go.Q.Spec Try.prog 7 0 [.ro (Rd.slice (Rd.int .i64)) false x5817, .ro (Rd.slice (Rd.int .i64)) false x5818] Mem.nil (fun o M => o = .ret (.lit (.int .i64 x6027)) ∧ M = Mem.nil) := by
 unfold g_quireref02_Cost at H
 refine Go.Q.Spec.of_bodyR (az := []) (rs := [.tmp 4]) (nt := 61) Try.func7 rfl rfl (by intro t T h; simp at h) rfl rfl fun cx hnp => ?_
 refine WP.seq ?_
 refine WP.region ?_
 refine WPL.q (q_as (v := .lit (.int _ _)) rfl) rfl ?_
 refine WPL.nilW ?_
 refine W.now ?_
 refine Then.n ?_
 refine WP.seq ?_
 refine WP.region ?_
 refine WPL.q (q_as (v := .lit (.int _ _)) rfl) rfl ?_
 refine WPL.nilW ?_
 refine W.now ?_
 refine Then.n ?_
 refine WP.seq ?_
 refine WP.seq ?_
 refine WP.region ?_
 refine WPL.q (q_as (v := .lit (.int _ _)) rfl) rfl ?_
 refine WPL.nilW ?_
 refine W.now ?_
 refine Then.n ?_
 refine WP.block ?_
 refine WP.cv (Cv.weak (E' := ((((Env.none.upd 0 (.ro (Rd.slice (Rd.int .i64)) false x5817)).upd 1 (.ro (Rd.slice (Rd.int .i64)) false x5818)).upd 5 (.lit (.int .i64 0))).upd 6 (.lit (.int .i64 0)))) (M' := Mem.nil) [] hnp ⟨rfl, trivial, by decide, rfl, trivial⟩ (LeE.upd rfl rfl (LeE.upd rfl rfl (LeE.upd rfl rfl (LeE.upd rfl rfl (LeE.none rfl rfl)))))) ?_
 obtain ⟨y6335, H6333, H⟩ := bnd H
 refine WP.monoW (Q := fun x E M => match (generalizing := false) y6335 with | (Sum.inl _) => x = .ret ∧ E = (Env.none.upd 4 (.lit (.int .i64 4611686018427387904))) ∧ M = Mem.nil | (Sum.inr x6232) => x = .exit 0 ∧ E = (Env.none.upd 5 (.lit (.int .i64 x6232))) ∧ M = Mem.nil) ?_ ?_
 · refine WP.loop (β := Int × Int) (fun n b => g_quireref02_Cost_l0 k x5817 x5818 n b.1 b.2 = some y6335) (fun b => ((((Env.none.upd 0 (.ro (Rd.slice (Rd.int .i64)) false x5817)).upd 1 (.ro (Rd.slice (Rd.int .i64)) false x5818)).upd 5 (.lit (.int .i64 b.1))).upd 6 (.lit (.int .i64 b.2)))) (fun b => Mem.nil) k (0, 0) H6333 rfl rfl ?_
   rintro n ⟨x6129, x6130⟩ H
   obtain _ | n := n
   · exact nf rfl H
   rw [g_quireref02_Cost_l0.eq_2] at H
   show WP _ _ _ _ ((((Env.none.upd 0 (.ro (Rd.slice (Rd.int .i64)) false x5817)).upd 1 (.ro (Rd.slice (Rd.int .i64)) false x5818)).upd 5 (.lit (.int .i64 x6129))).upd 6 (.lit (.int .i64 x6130))) Mem.nil _
   refine WP.seq ?_
   refine WP.seq ?_
   obtain ⟨x6245, H6248, H⟩ := bnd H
   refine WP.monoW (Q := fun x E M => x = .normal ∧ E = (((((Env.none.upd 0 (.ro (Rd.slice (Rd.int .i64)) false x5817)).upd 1 (.ro (Rd.slice (Rd.int .i64)) false x5818)).upd 5 (.lit (.int .i64 x6129))).upd 6 (.lit (.int .i64 x6130))).upd 18 (.lit (.bool x6245))) ∧ M = Mem.nil) ?_ ?_
   · clear H
     have H := H6248
     clear H6248
     refine WP.region ?_
     refine WPL.q (q_mv (v := .lit (.int _ _)) rfl) rfl ?_
     refine WPL.q (q_mv (v := .ro _ _ _) rfl) rfl ?_
     refine WPL.q (q_len_ro sl22 rfl) rfl ?_
     obtain ⟨x6246, h6246, H⟩ := bnd H
     refine WPL.q (q_nm (q_lss rfl rfl) (nm_bool h6246)) rfl ?_
     refine WPL.q (q_mv (v := .lit (.bool _)) rfl) rfl ?_
     refine WPL.split (t := 13) (b := x6246) rfl (fun hb6246 => ?_) (fun hb6246 => ?_)
     · replace H := cnt hb6246 H
       refine WPL.qg rfl rfl (lb hb6246) (q_mv (v := .lit (.int _ _)) rfl) rfl ?_
       refine WPL.qg rfl rfl (lb hb6246) (q_mv (v := .ro _ _ _) rfl) rfl ?_
       refine WPL.qg rfl rfl (lb hb6246) (q_len_ro sl22 rfl) rfl ?_
       obtain ⟨x6248, h6248, H⟩ := bnd H
       refine WPL.qg rfl rfl (lb hb6246) (q_nm (q_lss rfl rfl) (nm_bool h6248)) rfl ?_
       refine WPL.q (q_pickT (v := .lit (.bool _)) (lb hb6246) rfl) rfl ?_
       refine WPL.nilW ?_
       have q0 := (Option.some.inj H)
       subst q0
       exact W.wk [] hnp ⟨rfl, rfl, rfl⟩ ⟨rfl, trivial, by decide, rfl, trivial⟩ (LeE.upd rfl rfl (LeE.upd rfl rfl (LeE.upd rfl rfl (LeE.upd rfl rfl (LeE.upd rfl rfl (LeE.none rfl rfl)))))) rfl
     replace H := cnf hb6246 H
     refine WPL.skipg (b' := false) rfl rfl (lb hb6246) rfl rfl (.inl trivial) ?_
     refine WPL.skipg (b' := false) rfl rfl (lb hb6246) rfl rfl (.inl trivial) ?_
     refine WPL.skipg (b' := false) rfl rfl (lb hb6246) rfl rfl (.inl trivial) ?_
     refine WPL.skipg (b' := false) rfl rfl (lb hb6246) rfl rfl (.inl trivial) ?_
     refine WPL.q (q_pickF (v := .lit (.bool _)) (lb hb6246) rfl) rfl ?_
     refine WPL.nilW ?_
     have q0 := (Option.some.inj H)
     subst q0
     exact W.wk [] hnp ⟨rfl, rfl, rfl⟩ ⟨rfl, trivial, by decide, rfl, trivial⟩ (LeE.upd rfl rfl (LeE.upd rfl rfl (LeE.upd rfl rfl (LeE.upd rfl rfl (LeE.upd rfl rfl (LeE.none rfl rfl)))))) rfl
   rintro _ _ _ ⟨rfl, rfl, rfl⟩
   refine W.now ?_
   refine Then.n ?_
   refine WP.cond (t := x6245) rfl (fun hb6249 => ?_) (fun hb6249 => ?_)
   · replace H := cnt hb6249 H
     refine WP.skipW ?_
     refine W.now ?_
     refine Then.n ?_
     refine WP.seq ?_
     obtain ⟨y6333, H6331, H⟩ := bnd H
     refine WP.monoW (Q := fun x E M => match (generalizing := false) y6333 with | (Sum.inl x6291) => x = .normal ∧ E = ((((Env.none.upd 0 (.ro (Rd.slice (Rd.int .i64)) false x5817)).upd 1 (.ro (Rd.slice (Rd.int .i64)) false x5818)).upd 5 (.lit (.int .i64 x6291))).upd 6 (.lit (.int .i64 x6130))) ∧ M = Mem.nil | (Sum.inr _) => x = .ret ∧ E = (Env.none.upd 4 (.lit (.int .i64 4611686018427387904))) ∧ M = Mem.nil) ?_ ?_
     · clear H
       have H := H6331
       clear H6331
       refine WP.block ?_
       refine WP.seq ?_
       refine WP.regionD' 10 [] [] mixed rfl ?_
       refine WPD.takeT 0 rfl (by kernel_rfl) (q_mv (v := .ro _ _ _) rfl) rfl ?_
       refine WPD.takeT 1 rfl (by kernel_rfl) (q_mv (v := .lit (.int _ _)) rfl) rfl ?_
       obtain ⟨x6294, h6294, H⟩ := bnd H
       refine WPD.takeT 2 rfl (by kernel_rfl) (q_index_ro sl22 rfl rfl rfl h6294) rfl ?_
       refine WPD.takeT 3 rfl (by kernel_rfl) (q_load_sc sc3 rfl) rfl ?_
       refine WPD.takeT 4 rfl (by kernel_rfl) (q_mv (v := .ro _ _ _) rfl) rfl ?_
       refine WPD.takeT 5 rfl (by kernel_rfl) (q_mv (v := .lit (.int _ _)) rfl) rfl ?_
       obtain ⟨x6295, h6295, H⟩ := bnd H
       refine WPD.takeT 6 rfl (by kernel_rfl) (q_index_ro sl22 rfl rfl rfl h6295) rfl ?_
       refine WPD.takeT 7 rfl (by kernel_rfl) (q_load_sc sc3 rfl) rfl ?_
       refine WPD.takeT 8 rfl (by kernel_rfl) (q_as (v := .lit (.int _ _)) rfl) rfl ?_
       refine WPD.takeT 9 rfl (by kernel_rfl) (q_as (v := .lit (.int _ _)) rfl) rfl ?_
       refine WPD.doneW (by kernel_rfl) ?_
       refine W.now ?_
       refine Then.n ?_
       refine WP.seq ?_
       refine WP.seq ?_
       obtain ⟨x6302, H6303, H⟩ := bnd H
       refine WP.monoW (Q := fun x E M => x = .normal ∧ E = (((((((Env.none.upd 0 (.ro (Rd.slice (Rd.int .i64)) false x5817)).upd 1 (.ro (Rd.slice (Rd.int .i64)) false x5818)).upd 5 (.lit (.int .i64 x6129))).upd 6 (.lit (.int .i64 x6130))).upd 7 (.lit (.int .i64 x6294))).upd 8 (.lit (.int .i64 x6295))).upd 34 (.lit (.bool x6302))) ∧ M = Mem.nil) ?_ ?_
       · clear H
         have H := H6303
         clear H6303
         refine WP.region ?_
         refine WPL.q (q_mv (v := .lit (.int _ _)) rfl) rfl ?_
         refine WPL.q (q_eql rfl rfl) rfl ?_
         refine WPL.q (q_mv (v := .lit (.bool _)) rfl) rfl ?_
         refine WPL.split (t := 31) (b := (decide (x6294 = 0))) rfl (fun hb6302 => ?_) (fun hb6302 => ?_)
         · replace H := cnt hb6302 H
           refine WPL.skipg (b' := true) rfl rfl (lb hb6302) rfl rfl (.inl trivial) ?_
           refine WPL.skipg (b' := true) rfl rfl (lb hb6302) rfl rfl (.inl trivial) ?_
           refine WPL.q (q_pickT (v := .lit (.bool _)) (lb hb6302) rfl) rfl ?_
           refine WPL.nilW ?_
           have q0 := (Option.some.inj H)
           subst q0
           exact W.wk [] hnp ⟨rfl, rfl, rfl⟩ ⟨rfl, trivial, by decide, rfl, trivial⟩ (LeE.upd rfl rfl (LeE.upd rfl rfl (LeE.upd rfl rfl (LeE.upd rfl rfl (LeE.upd rfl rfl (LeE.upd rfl rfl (LeE.upd rfl rfl (LeE.none rfl rfl)))))))) rfl
         replace H := cnf hb6302 H
         refine WPL.qg rfl rfl (lb hb6302) (q_mv (v := .lit (.int _ _)) rfl) rfl ?_
         refine WPL.qg rfl rfl (lb hb6302) (q_eql rfl rfl) rfl ?_
         refine WPL.q (q_pickF (v := .lit (.bool _)) (lb hb6302) rfl) rfl ?_
         refine WPL.nilW ?_
         have q0 := (Option.some.inj H)
         subst q0
         exact W.wk [] hnp ⟨rfl, rfl, rfl⟩ ⟨rfl, trivial, by decide, rfl, trivial⟩ (LeE.upd rfl rfl (LeE.upd rfl rfl (LeE.upd rfl rfl (LeE.upd rfl rfl (LeE.upd rfl rfl (LeE.upd rfl rfl (LeE.upd rfl rfl (LeE.none rfl rfl)))))))) rfl
       rintro _ _ _ ⟨rfl, rfl, rfl⟩
       refine W.now ?_
       refine Then.n ?_
       refine WP.cond (t := x6302) rfl (fun hb6304 => ?_) (fun hb6304 => ?_)
       · replace H := cnt hb6304 H
         refine WP.exitW ?_
         have q0 := Option.some.inj H
         subst q0
         exact W.wk [] hnp (Then.x (InBlock.x0 ⟨rfl, rfl, rfl⟩)) ⟨rfl, trivial, by decide, rfl, trivial⟩ (LeE.upd rfl rfl (LeE.upd rfl rfl (LeE.upd rfl rfl (LeE.upd rfl rfl (LeE.none rfl rfl))))) rfl
       replace H := cnf hb6304 H
       refine WP.skipW ?_
       refine W.now ?_
       refine Then.n ?_
       refine WP.seq ?_
       refine WP.seq ?_
       obtain ⟨x6318, H6321, H⟩ := bnd H
       refine WP.monoW (Q := fun x E M => x = .normal ∧ E = (((((((Env.none.upd 0 (.ro (Rd.slice (Rd.int .i64)) false x5817)).upd 1 (.ro (Rd.slice (Rd.int .i64)) false x5818)).upd 5 (.lit (.int .i64 x6129))).upd 6 (.lit (.int .i64 x6130))).upd 7 (.lit (.int .i64 x6294))).upd 8 (.lit (.int .i64 x6295))).upd 48 (.lit (.bool x6318))) ∧ M = Mem.nil) ?_ ?_
       · clear H
         have H := H6321
         clear H6321
         refine WP.region ?_
         refine WPL.q (q_mv (v := .lit (.int _ _)) rfl) rfl ?_
         refine WPL.q (q_gtr rfl rfl) rfl ?_
         refine WPL.q (q_mv (v := .lit (.bool _)) rfl) rfl ?_
         refine WPL.split (t := 37) (b := (decide (1099511627776 < x6294))) rfl (fun hb6318 => ?_) (fun hb6318 => ?_)
         · replace H := cnt hb6318 H
           refine WPL.skipg (b' := true) rfl rfl (lb hb6318) rfl rfl (.inl trivial) ?_
           refine WPL.skipg (b' := true) rfl rfl (lb hb6318) rfl rfl (.inl trivial) ?_
           refine WPL.q (q_pickT (v := .lit (.bool _)) (lb hb6318) rfl) rfl ?_
           refine WPL.q (q_mv (v := .lit (.bool _)) rfl) rfl ?_
           refine WPL.skipg (b' := true) rfl rfl rfl rfl rfl (.inl trivial) ?_
           refine WPL.skipg (b' := true) rfl rfl rfl rfl rfl (.inl trivial) ?_
           refine WPL.q (q_pickT (v := .lit (.bool _)) rfl rfl) rfl ?_
           refine WPL.q (q_mv (v := .lit (.bool _)) rfl) rfl ?_
           refine WPL.skipg (b' := true) rfl rfl rfl rfl rfl (.inl trivial) ?_
           refine WPL.skipg (b' := true) rfl rfl rfl rfl rfl (.inl trivial) ?_
           refine WPL.q (q_pickT (v := .lit (.bool _)) rfl rfl) rfl ?_
           refine WPL.nilW ?_
           have q0 := (Option.some.inj H)
           subst q0
           exact W.wk [] hnp ⟨rfl, rfl, rfl⟩ ⟨rfl, trivial, by decide, rfl, trivial⟩ (LeE.upd rfl rfl (LeE.upd rfl rfl (LeE.upd rfl rfl (LeE.upd rfl rfl (LeE.upd rfl rfl (LeE.upd rfl rfl (LeE.upd rfl rfl (LeE.none rfl rfl)))))))) rfl
         replace H := cnf hb6318 H
         refine WPL.qg rfl rfl (lb hb6318) (q_mv (v := .lit (.int _ _)) rfl) rfl ?_
         refine WPL.qg rfl rfl (lb hb6318) (q_lss rfl rfl) rfl ?_
         refine WPL.q (q_pickF (v := .lit (.bool _)) (lb hb6318) rfl) rfl ?_
         refine WPL.q (q_mv (v := .lit (.bool _)) rfl) rfl ?_
         refine WPL.split (t := 41) (b := (decide (x6294 < (-1099511627776)))) rfl (fun hb6319 => ?_) (fun hb6319 => ?_)
         · replace H := cnt hb6319 H
           refine WPL.skipg (b' := true) rfl rfl (lb hb6319) rfl rfl (.inl trivial) ?_
           refine WPL.skipg (b' := true) rfl rfl (lb hb6319) rfl rfl (.inl trivial) ?_
           refine WPL.q (q_pickT (v := .lit (.bool _)) (lb hb6319) rfl) rfl ?_
           refine WPL.q (q_mv (v := .lit (.bool _)) rfl) rfl ?_
           refine WPL.skipg (b' := true) rfl rfl rfl rfl rfl (.inl trivial) ?_
           refine WPL.skipg (b' := true) rfl rfl rfl rfl rfl (.inl trivial) ?_
           refine WPL.q (q_pickT (v := .lit (.bool _)) rfl rfl) rfl ?_
           refine WPL.nilW ?_
           have q0 := (Option.some.inj H)
           subst q0
           exact W.wk [] hnp ⟨rfl, rfl, rfl⟩ ⟨rfl, trivial, by decide, rfl, trivial⟩ (LeE.upd rfl rfl (LeE.upd rfl rfl (LeE.upd rfl rfl (LeE.upd rfl rfl (LeE.upd rfl rfl (LeE.upd rfl rfl (LeE.upd rfl rfl (LeE.none rfl rfl)))))))) rfl
         replace H := cnf hb6319 H
         refine WPL.qg rfl rfl (lb hb6319) (q_mv (v := .lit (.int _ _)) rfl) rfl ?_
         refine WPL.qg rfl rfl (lb hb6319) (q_gtr rfl rfl) rfl ?_
         refine WPL.q (q_pickF (v := .lit (.bool _)) (lb hb6319) rfl) rfl ?_
         refine WPL.q (q_mv (v := .lit (.bool _)) rfl) rfl ?_
         refine WPL.split (t := 45) (b := (decide (1048576 < x6295))) rfl (fun hb6320 => ?_) (fun hb6320 => ?_)
         · replace H := cnt hb6320 H
           refine WPL.skipg (b' := true) rfl rfl (lb hb6320) rfl rfl (.inl trivial) ?_
           refine WPL.skipg (b' := true) rfl rfl (lb hb6320) rfl rfl (.inl trivial) ?_
           refine WPL.q (q_pickT (v := .lit (.bool _)) (lb hb6320) rfl) rfl ?_
           refine WPL.nilW ?_
           have q0 := (Option.some.inj H)
           subst q0
           exact W.wk [] hnp ⟨rfl, rfl, rfl⟩ ⟨rfl, trivial, by decide, rfl, trivial⟩ (LeE.upd rfl rfl (LeE.upd rfl rfl (LeE.upd rfl rfl (LeE.upd rfl rfl (LeE.upd rfl rfl (LeE.upd rfl rfl (LeE.upd rfl rfl (LeE.none rfl rfl)))))))) rfl
         replace H := cnf hb6320 H
         refine WPL.qg rfl rfl (lb hb6320) (q_mv (v := .lit (.int _ _)) rfl) rfl ?_
         refine WPL.qg rfl rfl (lb hb6320) (q_lss rfl rfl) rfl ?_
         refine WPL.q (q_pickF (v := .lit (.bool _)) (lb hb6320) rfl) rfl ?_
         refine WPL.nilW ?_
         have q0 := (Option.some.inj H)
         subst q0
         exact W.wk [] hnp ⟨rfl, rfl, rfl⟩ ⟨rfl, trivial, by decide, rfl, trivial⟩ (LeE.upd rfl rfl (LeE.upd rfl rfl (LeE.upd rfl rfl (LeE.upd rfl rfl (LeE.upd rfl rfl (LeE.upd rfl rfl (LeE.upd rfl rfl (LeE.none rfl rfl)))))))) rfl
       rintro _ _ _ ⟨rfl, rfl, rfl⟩
       refine W.now ?_
       refine Then.n ?_
       refine WP.cond (t := x6318) rfl (fun hb6322 => ?_) (fun hb6322 => ?_)
       · replace H := cnt hb6322 H
         refine WP.seq ?_
         refine WP.region ?_
         refine WPL.q (q_as (v := .lit (.int _ _)) rfl) rfl ?_
         refine WPL.nilW ?_
         refine W.now ?_
         refine Then.n ?_
         refine WP.retW ?_
         have q0 := Option.some.inj H
         subst q0
         exact W.wk [] hnp (Then.r (InBlock.r ⟨rfl, rfl, rfl⟩)) ⟨rfl, trivial, by decide, rfl, trivial⟩ (LeE.upd rfl rfl (LeE.none rfl rfl)) rfl
       replace H := cnf hb6322 H
       refine WP.skipW ?_
       refine W.now ?_
       refine Then.n ?_
       refine WP.seq ?_
       refine WP.region ?_
       refine WPL.q (q_mv (v := .lit (.int _ _)) rfl) rfl ?_
       refine WPL.q (q_mv (v := .lit (.int _ _)) rfl) rfl ?_
       refine WPL.q (q_mv (v := .lit (.int _ _)) rfl) rfl ?_
       refine WPL.q (q_mul rfl rfl) rfl ?_
       obtain ⟨x6324, h6324, H⟩ := bnd H
       refine WPL.q (q_nm (q_add rfl rfl) (nm_int h6324)) rfl ?_
       refine WPL.q (q_as (v := .lit (.int _ _)) rfl) rfl ?_
       refine WPL.nilW ?_
       refine W.now ?_
       refine Then.n ?_
       refine WP.seq ?_
       obtain ⟨x6327, H6329, H⟩ := bnd H
       refine WP.monoW (Q := fun x E M => x = .normal ∧ E = (((((Env.none.upd 0 (.ro (Rd.slice (Rd.int .i64)) false x5817)).upd 1 (.ro (Rd.slice (Rd.int .i64)) false x5818)).upd 5 (.lit (.int .i64 x6324))).upd 6 (.lit (.int .i64 x6130))).upd 59 (.lit (.bool x6327))) ∧ M = Mem.nil) ?_ ?_
       · clear H
         have H := H6329
         clear H6329
         refine WP.region ?_
         refine WPL.q (q_mv (v := .lit (.int _ _)) rfl) rfl ?_
         refine WPL.q (q_gtr rfl rfl) rfl ?_
         refine WPL.q (q_mv (v := .lit (.bool _)) rfl) rfl ?_
         refine WPL.split (t := 56) (b := (decide (2305843009213693952 < x6324))) rfl (fun hb6327 => ?_) (fun hb6327 => ?_)
         · replace H := cnt hb6327 H
           refine WPL.skipg (b' := true) rfl rfl (lb hb6327) rfl rfl (.inl trivial) ?_
           refine WPL.skipg (b' := true) rfl rfl (lb hb6327) rfl rfl (.inl trivial) ?_
           refine WPL.q (q_pickT (v := .lit (.bool _)) (lb hb6327) rfl) rfl ?_
           refine WPL.nilW ?_
           have q0 := (Option.some.inj H)
           subst q0
           exact W.wk [] hnp ⟨rfl, rfl, rfl⟩ ⟨rfl, trivial, by decide, rfl, trivial⟩ (LeE.upd rfl rfl (LeE.upd rfl rfl (LeE.upd rfl rfl (LeE.upd rfl rfl (LeE.upd rfl rfl (LeE.none rfl rfl)))))) rfl
         replace H := cnf hb6327 H
         refine WPL.qg rfl rfl (lb hb6327) (q_mv (v := .lit (.int _ _)) rfl) rfl ?_
         obtain ⟨x6329, h6329, H⟩ := bnd H
         refine WPL.qg rfl rfl (lb hb6327) (q_nm (q_lss rfl rfl) (nm_bool h6329)) rfl ?_
         refine WPL.q (q_pickF (v := .lit (.bool _)) (lb hb6327) rfl) rfl ?_
         refine WPL.nilW ?_
         have q0 := (Option.some.inj H)
         subst q0
         exact W.wk [] hnp ⟨rfl, rfl, rfl⟩ ⟨rfl, trivial, by decide, rfl, trivial⟩ (LeE.upd rfl rfl (LeE.upd rfl rfl (LeE.upd rfl rfl (LeE.upd rfl rfl (LeE.upd rfl rfl (LeE.none rfl rfl)))))) rfl
       rintro _ _ _ ⟨rfl, rfl, rfl⟩
       refine W.now ?_
       refine Then.n ?_
       refine WP.cond (t := x6327) rfl (fun hb6330 => ?_) (fun hb6330 => ?_)
       · replace H := cnt hb6330 H
         refine WP.seq ?_
         refine WP.region ?_
         refine WPL.q (q_as (v := .lit (.int _ _)) rfl) rfl ?_
         refine WPL.nilW ?_
         refine W.now ?_
         refine Then.n ?_
         refine WP.retW ?_
         have q0 := Option.some.inj H
         subst q0
         exact W.wk [] hnp (InBlock.r ⟨rfl, rfl, rfl⟩) ⟨rfl, trivial, by decide, rfl, trivial⟩ (LeE.upd rfl rfl (LeE.none rfl rfl)) rfl
       replace H := cnf hb6330 H
       refine WP.skipW ?_
       have q0 := Option.some.inj H
       subst q0
       exact W.wk [] hnp (InBlock.n ⟨rfl, rfl, rfl⟩) ⟨rfl, trivial, by decide, rfl, trivial⟩ (LeE.upd rfl rfl (LeE.upd rfl rfl (LeE.upd rfl rfl (LeE.upd rfl rfl (LeE.none rfl rfl))))) rfl
     rcases y6333 with x6291 | _
     · rintro _ _ _ ⟨rfl, rfl, rfl⟩
       refine W.now ?_
       refine Then.n ?_
       refine WP.region ?_
       refine WPL.q (q_mv (v := .lit (.int _ _)) rfl) rfl ?_
       refine WPL.q (q_add rfl rfl) rfl ?_
       refine WPL.q (q_as (v := .lit (.int _ _)) rfl) rfl ?_
       refine WPL.nilW ?_
       exact W.wk [] hnp (Then.n ⟨n, (x6291, (IntKind.wrap .i64 (x6130 + 1))), Nat.lt_succ_self n, H, rfl, rfl⟩) ⟨rfl, trivial, by decide, rfl, trivial⟩ (LeE.upd rfl rfl (LeE.upd rfl rfl (LeE.upd rfl rfl (LeE.upd rfl rfl (LeE.none rfl rfl))))) rfl
     rintro _ _ _ ⟨rfl, rfl, rfl⟩
     have q0 := Option.some.inj H
     subst q0
     exact W.wk [] hnp (Then.r (Then.r ⟨rfl, rfl, rfl⟩)) ⟨rfl, trivial, by decide, rfl, trivial⟩ (LeE.upd rfl rfl (LeE.none rfl rfl)) rfl
   replace H := cnf hb6249 H
   refine WP.exitW ?_
   have q0 := Option.some.inj H
   subst q0
   exact W.wk [] hnp (Then.x (Then.x ⟨rfl, rfl, rfl⟩)) ⟨rfl, trivial, by decide, rfl, trivial⟩ (LeE.upd rfl rfl (LeE.none rfl rfl)) rfl
 rcases y6335 with _ | x6232
 · rintro _ _ _ ⟨rfl, rfl, rfl⟩
   have q0 := (Option.some.inj H)
   subst q0
   exact W.now (InBlock.r (Then.r (BodyR.mkR trivial rfl [] ⟨rfl, rfl⟩ ⟨rfl, trivial, by decide, rfl, trivial⟩ rfl rfl)))
 rintro _ _ _ ⟨rfl, rfl, rfl⟩
 refine W.now ?_
 refine InBlock.x0 ?_
 refine Then.n ?_
 refine WP.seq ?_
 refine WP.region ?_
 refine WPL.q (q_mv (v := .lit (.int _ _)) rfl) rfl ?_
 refine WPL.q (q_as (v := .lit (.int _ _)) rfl) rfl ?_
 refine WPL.nilW ?_
 refine W.now ?_
 refine Then.n ?_
 refine WP.retW ?_
 have q0 := (Option.some.inj H)
 subst q0
 exact W.now (BodyR.mkR trivial rfl [] ⟨rfl, rfl⟩ ⟨rfl, trivial, by decide, rfl, trivial⟩ rfl rfl)
set_option maxRecDepth 100000 in
set_option maxHeartbeats 4000000 in
theorem s_quireref02_sorted (k : Nat) (x6397 : (List S_quireref02_coin)) (x6721 : (List S_quireref02_coin)) (H : g_quireref02_sorted k x6397 = some x6721) : Go.Q.Spec Try.prog 16 1 [.whole 0] (Mem.nil.push (.row 48 rdS_quireref02_coin x6397)) (fun o M => o = .ret (.ro (Rd.slice rdS_quireref02_coin) false x6721) ∧ M = (Mem.nil.push (.row 48 rdS_quireref02_coin x6397))) := by
 unfold g_quireref02_sorted at H
 refine Go.Q.Spec.of_bodyR (az := []) (rs := [.tmp 2]) (nt := 52) Try.func16 rfl rfl (by intro t T h; simp at h) rfl rfl fun cx hnp => ?_
 refine WP.seq ?_
 refine WP.region ?_
 refine WPL.q (q_as (v := .lit _) rfl) rfl ?_
 refine WPL.nilW ?_
 refine W.now ?_
 refine Then.n ?_
 refine WP.seq ?_
 refine WP.region ?_
 refine WPL.q (q_as (v := .lit _) rfl) rfl ?_
 refine WPL.nilW ?_
 refine W.now ?_
 refine Then.n ?_
 refine WP.seq ?_
 refine WP.seq ?_
 refine WP.region ?_
 refine WPL.q (q_as (v := .lit (.int _ _)) rfl) rfl ?_
 refine WPL.nilW ?_
 refine W.now ?_
 refine Then.n ?_
 refine WP.block ?_
 refine WP.cv (Cv.vir 48 rdS_quireref02_coin (N := 1) rfl 3 rfl) ?_
 refine WP.cv (Cv.weak (E' := (((Env.none.upd 0 (.whole 0)).upd 3 (.whole 1)).upd 4 (.lit (.int .i64 0)))) (M' := ((Mem.nil.push (.row 48 rdS_quireref02_coin x6397)).push (.row 48 rdS_quireref02_coin ([] : List S_quireref02_coin)))) [0, 1] hnp ⟨rfl, ⟨⟨trivial, .inr ⟨rfl, rfl, rfl⟩⟩, .inr ⟨rfl, rfl, rfl⟩⟩, by decide, rfl, ⟨trivial, rfl⟩⟩ (LeE.upd rfl rfl (LeE.upd rfl rfl (LeE.upd rfl rfl (LeE.none rfl rfl))))) ?_
 obtain ⟨x7042, H7250, H⟩ := bnd H
 refine WP.monoW (Q := fun x E M => x = .exit 0 ∧ E = (Env.none.upd 3 (.whole 1)) ∧ M = ((Mem.nil.push (.row 48 rdS_quireref02_coin x6397)).push (.row 48 rdS_quireref02_coin x7042))) ?_ ?_
 · refine WP.loop (β := Int × (List S_quireref02_coin)) (fun n b => g_quireref02_sorted_l0 k x6397 n b.1 b.2 = some x7042) (fun b => (((Env.none.upd 0 (.whole 0)).upd 3 (.whole 1)).upd 4 (.lit (.int .i64 b.1)))) (fun b => ((Mem.nil.push (.row 48 rdS_quireref02_coin x6397)).push (.row 48 rdS_quireref02_coin b.2))) k (0, ([] : List S_quireref02_coin)) H7250 rfl rfl ?_
   rintro n ⟨x6886, x6887⟩ H
   obtain _ | n := n
   · exact nf rfl H
   rw [g_quireref02_sorted_l0.eq_2] at H
   show WP _ _ _ _ (((Env.none.upd 0 (.whole 0)).upd 3 (.whole 1)).upd 4 (.lit (.int .i64 x6886))) ((Mem.nil.push (.row 48 rdS_quireref02_coin x6397)).push (.row 48 rdS_quireref02_coin x6887)) _
   refine WP.seq ?_
   refine WP.seq ?_
   refine WP.region ?_
   refine WPL.q (q_mv (v := .lit (.int _ _)) rfl) rfl ?_
   refine WPL.q (q_mv (v := .whole _) rfl) rfl ?_
   refine WPL.q (q_len_row sl46 rfl rfl) rfl ?_
   obtain ⟨x7045, h7045, H⟩ := bnd H
   refine WPL.q (q_nm (q_lss rfl rfl) (nm_bool h7045)) rfl ?_
   refine WPL.nilW ?_
   refine W.now ?_
   refine Then.n ?_
   refine WP.cond (t := x7045) rfl (fun hb7045 => ?_) (fun hb7045 => ?_)
   · replace H := cnt hb7045 H
     refine WP.skipW ?_
     refine W.now ?_
     refine Then.n ?_
     refine WP.seq ?_
     refine WP.block ?_
     refine WP.seq ?_
     refine WP.region ?_
     refine WPL.q (q_mv (v := .whole _) rfl) rfl ?_
     refine WPL.q (q_len_row sl46 rfl rfl) rfl ?_
     refine WPL.q (q_as (v := .lit (.int _ _)) rfl) rfl ?_
     refine WPL.nilW ?_
     refine W.now ?_
     refine Then.n ?_
     refine WP.seq ?_
     refine WP.block ?_
     refine WP.cv (Cv.weak (E' := ((((Env.none.upd 0 (.whole 0)).upd 3 (.whole 1)).upd 4 (.lit (.int .i64 x6886))).upd 5 (.lit (.int .i64 ((List.length x6887 : Nat) : Int))))) (M' := ((Mem.nil.push (.row 48 rdS_quireref02_coin x6397)).push (.row 48 rdS_quireref02_coin x6887))) [0, 1] hnp ⟨rfl, ⟨⟨trivial, .inr ⟨rfl, rfl, rfl⟩⟩, .inr ⟨rfl, rfl, rfl⟩⟩, by decide, rfl, ⟨trivial, rfl⟩⟩ (LeE.upd rfl rfl (LeE.upd rfl rfl (LeE.upd rfl rfl (LeE.upd rfl rfl (LeE.none rfl rfl)))))) ?_
     obtain ⟨x7189, H7243, H⟩ := bnd H
     refine WP.monoW (Q := fun x E M => x = .exit 2 ∧ E = ((((Env.none.upd 0 (.whole 0)).upd 3 (.whole 1)).upd 4 (.lit (.int .i64 x6886))).upd 5 (.lit (.int .i64 x7189))) ∧ M = ((Mem.nil.push (.row 48 rdS_quireref02_coin x6397)).push (.row 48 rdS_quireref02_coin x6887))) ?_ ?_
     · refine WP.loop (β := Int) (fun n b => g_quireref02_sorted_l1 k x6397 x6886 x6887 n b = some x7189) (fun b => ((((Env.none.upd 0 (.whole 0)).upd 3 (.whole 1)).upd 4 (.lit (.int .i64 x6886))).upd 5 (.lit (.int .i64 b)))) (fun b => ((Mem.nil.push (.row 48 rdS_quireref02_coin x6397)).push (.row 48 rdS_quireref02_coin x6887))) k ((List.length x6887 : Nat) : Int) H7243 rfl rfl ?_
       rintro n x7134 H
       obtain _ | n := n
       · exact nf rfl H
       rw [g_quireref02_sorted_l1.eq_2] at H
       show WP _ _ _ _ ((((Env.none.upd 0 (.whole 0)).upd 3 (.whole 1)).upd 4 (.lit (.int .i64 x6886))).upd 5 (.lit (.int .i64 x7134))) ((Mem.nil.push (.row 48 rdS_quireref02_coin x6397)).push (.row 48 rdS_quireref02_coin x6887)) _
       refine WP.seq ?_
       refine WP.seq ?_
       obtain ⟨x7229, H7241, H⟩ := bnd H
       refine WP.monoW (Q := fun x E M => x = .normal ∧ E = (((((Env.none.upd 0 (.whole 0)).upd 3 (.whole 1)).upd 4 (.lit (.int .i64 x6886))).upd 5 (.lit (.int .i64 x7134))).upd 30 (.lit (.bool x7229))) ∧ M = ((Mem.nil.push (.row 48 rdS_quireref02_coin x6397)).push (.row 48 rdS_quireref02_coin x6887))) ?_ ?_
       · clear H
         have H := H7241
         clear H7241
         refine WP.regionD' 16 [0, 1] [] mixed rfl ?_
         refine WPD.takeT 0 rfl (by kernel_rfl) (q_mv (v := .lit (.int _ _)) rfl) rfl ?_
         refine WPD.takeT 1 rfl (by kernel_rfl) (q_gtr rfl rfl) rfl ?_
         refine WPD.takeT 2 rfl (by kernel_rfl) (q_mv (v := .lit (.bool _)) rfl) rfl ?_
         refine WPD.split (t := 17) (b := (decide (0 < x7134))) rfl (fun hb7238 => ?_) (fun hb7238 => ?_)
         · replace H := cnt hb7238 H
           refine WPD.takegT 3 rfl (by kernel_rfl) rfl rfl (lb hb7238) (q_mv (v := .whole _) rfl) rfl ?_
           refine WPD.takegT 4 rfl (by kernel_rfl) rfl rfl (lb hb7238) (q_mv (v := .lit (.int _ _)) rfl) rfl ?_
           refine WPD.takegT 5 rfl (by kernel_rfl) rfl rfl (lb hb7238) (q_sub rfl rfl) rfl ?_
           obtain ⟨x7240, h7240, H⟩ := bnd H
           refine WPD.takegT 6 rfl (by kernel_rfl) rfl rfl (lb hb7238) (q_index_row sl46 rfl rfl rfl (ixs h7240)) rfl ?_
           refine WPD.takegT 7 rfl (by kernel_rfl) rfl rfl (lb hb7238) (q_fieldAddr fi48_0 rfl rfl) rfl ?_
           refine WPD.takegT 9 rfl (by kernel_rfl) rfl rfl (lb hb7238) (q_mv (v := .whole _) rfl) rfl ?_
           refine WPD.takegT 10 rfl (by kernel_rfl) rfl rfl (lb hb7238) (q_mv (v := .lit (.int _ _)) rfl) rfl ?_
           obtain ⟨x7241, h7241, H⟩ := bnd H
           refine WPD.takegT 11 rfl (by kernel_rfl) rfl rfl (lb hb7238) (q_index_row sl46 rfl rfl rfl (ixs h7241)) rfl ?_
           refine WPD.takegT 12 rfl (by kernel_rfl) rfl rfl (lb hb7238) (q_fieldAddr fi48_0 rfl rfl) rfl ?_
           refine WPD.takeg 8 rfl (by kernel_rfl) rfl rfl (lb hb7238) (q_load_rowf (j := (Int.toNat (IntKind.wrap .i64 (x7134 - 1)))) (n := 2) (off := 0) (d := x7240) sc3 rfl rfl (ixj h7240) rfl S_quireref02_coin.p0) rfl rfl ?_
           refine WPD.takeg 13 rfl (by kernel_rfl) rfl rfl (lb hb7238) (q_load_rowf (j := (Int.toNat x6886)) (n := 2) (off := 0) (d := x7241) sc3 rfl rfl (ixj h7241) rfl S_quireref02_coin.p0) rfl rfl ?_
           refine WPD.takegT 14 rfl (by kernel_rfl) rfl rfl (lb hb7238) (q_gtr rfl rfl) rfl ?_
           refine WPD.takeT 15 rfl (by kernel_rfl) (q_pickT (v := .lit (.bool _)) (lb hb7238) rfl) rfl ?_
           refine WPD.doneW (by kernel_rfl) ?_
           have q0 := (Option.some.inj H)
           subst q0
           exact W.wk [0, 1] hnp ⟨rfl, rfl, rfl⟩ ⟨rfl, ⟨⟨trivial, .inr ⟨rfl, rfl, rfl⟩⟩, .inr ⟨rfl, rfl, rfl⟩⟩, by decide, rfl, ⟨trivial, rfl⟩⟩ (LeE.upd rfl rfl (LeE.upd rfl rfl (LeE.upd rfl rfl (LeE.upd rfl rfl (LeE.upd rfl rfl (LeE.none rfl rfl)))))) rfl
         replace H := cnf hb7238 H
         refine WPD.pass (b' := false) 3 rfl (by kernel_rfl) rfl rfl (lb hb7238) rfl rfl (.inl trivial) ?_
         refine WPD.pass (b' := false) 4 rfl (by kernel_rfl) rfl rfl (lb hb7238) rfl rfl (.inl trivial) ?_
         refine WPD.pass (b' := false) 5 rfl (by kernel_rfl) rfl rfl (lb hb7238) rfl rfl (.inl trivial) ?_
         refine WPD.pass (b' := false) 6 rfl (by kernel_rfl) rfl rfl (lb hb7238) rfl rfl (.inl trivial) ?_
         refine WPD.pass (b' := false) 7 rfl (by kernel_rfl) rfl rfl (lb hb7238) rfl rfl (.inl trivial) ?_
         refine WPD.pass (b' := false) 8 rfl (by kernel_rfl) rfl rfl (lb hb7238) rfl rfl (.inl trivial) ?_
         refine WPD.pass (b' := false) 9 rfl (by kernel_rfl) rfl rfl (lb hb7238) rfl rfl (.inl trivial) ?_
         refine WPD.pass (b' := false) 10 rfl (by kernel_rfl) rfl rfl (lb hb7238) rfl rfl (.inl trivial) ?_
         refine WPD.pass (b' := false) 11 rfl (by kernel_rfl) rfl rfl (lb hb7238) rfl rfl (.inl trivial) ?_
         refine WPD.pass (b' := false) 12 rfl (by kernel_rfl) rfl rfl (lb hb7238) rfl rfl (.inl trivial) ?_
         refine WPD.pass (b' := false) 13 rfl (by kernel_rfl) rfl rfl (lb hb7238) rfl rfl (.inl trivial) ?_
         refine WPD.pass (b' := false) 14 rfl (by kernel_rfl) rfl rfl (lb hb7238) rfl rfl (.inl trivial) ?_
         refine WPD.takeT 15 rfl (by kernel_rfl) (q_pickF (v := .lit (.bool _)) (lb hb7238) rfl) rfl ?_
         refine WPD.doneW (by kernel_rfl) ?_
         have q0 := (Option.some.inj H)
         subst q0
         exact W.wk [0, 1] hnp ⟨rfl, rfl, rfl⟩ ⟨rfl, ⟨⟨trivial, .inr ⟨rfl, rfl, rfl⟩⟩, .inr ⟨rfl, rfl, rfl⟩⟩, by decide, rfl, ⟨trivial, rfl⟩⟩ (LeE.upd rfl rfl (LeE.upd rfl rfl (LeE.upd rfl rfl (LeE.upd rfl rfl (LeE.upd rfl rfl (LeE.none rfl rfl)))))) rfl
       rintro _ _ _ ⟨rfl, rfl, rfl⟩
       refine W.now ?_
       refine Then.n ?_
       refine WP.cond (t := x7229) rfl (fun hb7242 => ?_) (fun hb7242 => ?_)
       · replace H := cnt hb7242 H
         refine WP.skipW ?_
         refine W.now ?_
         refine Then.n ?_
         refine WP.block ?_
         refine WP.region ?_
         refine WPL.q (q_mv (v := .lit (.int _ _)) rfl) rfl ?_
         refine WPL.q (q_sub rfl rfl) rfl ?_
         refine WPL.q (q_as (v := .lit (.int _ _)) rfl) rfl ?_
         refine WPL.nilW ?_
         exact W.wk [0, 1] hnp (InBlock.n (Then.n ⟨n, (IntKind.wrap .i64 (x7134 - 1)), Nat.lt_succ_self n, H, rfl, rfl⟩)) ⟨rfl, ⟨⟨trivial, .inr ⟨rfl, rfl, rfl⟩⟩, .inr ⟨rfl, rfl, rfl⟩⟩, by decide, rfl, ⟨trivial, rfl⟩⟩ (LeE.upd rfl rfl (LeE.upd rfl rfl (LeE.upd rfl rfl (LeE.upd rfl rfl (LeE.none rfl rfl))))) rfl
       replace H := cnf hb7242 H
       refine WP.exitW ?_
       have q0 := (Option.some.inj H)
       subst q0
       exact W.wk [0, 1] hnp (Then.x (Then.x ⟨rfl, rfl, rfl⟩)) ⟨rfl, ⟨⟨trivial, .inr ⟨rfl, rfl, rfl⟩⟩, .inr ⟨rfl, rfl, rfl⟩⟩, by decide, rfl, ⟨trivial, rfl⟩⟩ (LeE.upd rfl rfl (LeE.upd rfl rfl (LeE.upd rfl rfl (LeE.upd rfl rfl (LeE.none rfl rfl))))) rfl
     rintro _ _ _ ⟨rfl, rfl, rfl⟩
     refine W.now ?_
     refine InBlock.x0 ?_
     refine Then.n ?_
     refine WP.seq ?_
     refine WP.region ?_
     refine WPL.q (q_as (v := .lit _) rfl) rfl ?_
     refine WPL.nilW ?_
     refine W.now ?_
     refine Then.n ?_
     refine WP.seq ?_
     refine WP.region ?_
     refine WPL.q (q_mv (v := .lit _) rfl) rfl ?_
     refine WPL.q (q_mv (v := .whole _) rfl) rfl ?_
     refine WPL.q (q_mv (v := .lit (.int _ _)) rfl) rfl ?_
     obtain ⟨h7244, H⟩ := grd H
     refine WPL.cv (Cv.frzRow (i := 1) rfl rfl hnp rfl rfl) ?_
     refine WPL.q (q_slice_ro (i := 0) (j := x7189) sl46 rfl rfl rfl ⟨_, rfl⟩ h7244) rfl ?_
     obtain ⟨h7245, H⟩ := grd H
     refine WPL.cv (Cv.vir 48 rdS_quireref02_coin (N := 2) rfl 33 rfl) ?_
     refine WPL.d (d_append ap46 rfl rfl rfl rfl (src_ro sl46 rfl) h7245 rfl) rfl ?_
     refine WPL.q (q_as (v := .whole _) rfl) rfl ?_
     refine WPL.nilW ?_
     refine W.now ?_
     refine Then.n ?_
     refine WP.seq ?_
     refine WP.region ?_
     refine WPL.q (q_mv (v := .whole _) rfl) rfl ?_
     refine WPL.q (q_mv (v := .whole _) rfl) rfl ?_
     refine WPL.q (q_mv (v := .lit (.int _ _)) rfl) rfl ?_
     obtain ⟨x7247, h7247, H⟩ := bnd H
     refine WPL.q (q_index_row sl46 rfl rfl rfl (ixs h7247)) rfl ?_
     refine WPL.q (q_load_rowag (j := (Int.toNat x6886)) ag48 rfl rfl (ixj h7247) rfl S_quireref02_coin.sp) rfl ?_
     refine WPL.d (d_buildSlice (ds := ([(⟨x7247.ffreq, x7247.fsyms⟩ : S_quireref02_coin)] : List S_quireref02_coin)) (R := rdS_quireref02_coin) li46 rfl rfl rfl rfl rfl (JoinRows.cons (l := [.lit (.int .i64 x7247.ffreq), .ro (Rd.slice (Rd.int .i64)) false x7247.fsyms]) (Joins.via (Joins.cons Joins.sc (Joins.cons Joins.one Joins.unit))) rfl JoinRows.nil) rfl rfl) rfl ?_
     obtain ⟨h7247, H⟩ := grd H
     refine WPL.d (d_append ap46 rfl rfl rfl rfl (src_row sl46 rfl rfl) h7247 rfl) rfl ?_
     refine WPL.q (q_as (v := .whole _) rfl) rfl ?_
     refine WPL.nilW ?_
     refine W.now ?_
     refine Then.n ?_
     refine WP.seq ?_
     refine WP.region ?_
     refine WPL.q (q_mv (v := .whole _) rfl) rfl ?_
     refine WPL.q (q_mv (v := .ro _ _ _) rfl) rfl ?_
     refine WPL.q (q_mv (v := .lit (.int _ _)) rfl) rfl ?_
     obtain ⟨h7248, H⟩ := grd H
     refine WPL.q (q_slice_ro (i := x7189) (j := ((List.length x6887 : Nat) : Int)) sl46 rfl rfl ⟨_, rfl⟩ rfl h7248) rfl ?_
     obtain ⟨h7249, H⟩ := grd H
     refine WPL.d (d_append ap46 rfl rfl rfl rfl (src_ro sl46 rfl) h7249 rfl) rfl ?_
     refine WPL.q (q_as (v := .whole _) rfl) rfl ?_
     refine WPL.nilW ?_
     refine W.now ?_
     refine Then.n ?_
     refine WP.region ?_
     refine WPL.q (q_mv (v := .whole _) rfl) rfl ?_
     refine WPL.q (q_as (v := .whole _) rfl) rfl ?_
     refine WPL.nilW ?_
     refine W.now ?_
     refine InBlock.n ?_
     refine Then.n ?_
     refine WP.region ?_
     refine WPL.q (q_mv (v := .lit (.int _ _)) rfl) rfl ?_
     refine WPL.q (q_add rfl rfl) rfl ?_
     refine WPL.q (q_as (v := .lit (.int _ _)) rfl) rfl ?_
     refine WPL.nilW ?_
     exact W.wk [0, 6] hnp (Then.n ⟨n, ((IntKind.wrap .i64 (x6886 + 1)), (((([] : List S_quireref02_coin) ++ (List.drop (Int.toNat 0) (List.take (Int.toNat x7189) x6887))) ++ ([(⟨x7247.ffreq, x7247.fsyms⟩ : S_quireref02_coin)] : List S_quireref02_coin)) ++ (List.drop (Int.toNat x7189) (List.take (Int.toNat ((List.length x6887 : Nat) : Int)) x6887)))), Nat.lt_succ_self n, H, rfl, rfl⟩) ⟨rfl, ⟨⟨trivial, .inr ⟨rfl, rfl, rfl⟩⟩, .inr ⟨rfl, rfl, rfl⟩⟩, by decide, rfl, ⟨trivial, rfl⟩⟩ (LeE.upd rfl rfl (LeE.upd rfl rfl (LeE.upd rfl rfl (LeE.none rfl rfl)))) rfl
   replace H := cnf hb7045 H
   refine WP.exitW ?_
   have q0 := (Option.some.inj H)
   subst q0
   exact W.wk [0, 1] hnp (Then.x (Then.x ⟨rfl, rfl, rfl⟩)) ⟨rfl, ⟨⟨trivial, .inr ⟨rfl, rfl, rfl⟩⟩, .inr ⟨rfl, rfl, rfl⟩⟩, by decide, rfl, ⟨trivial, rfl⟩⟩ (LeE.upd rfl rfl (LeE.none rfl rfl)) rfl
 rintro _ _ _ ⟨rfl, rfl, rfl⟩
 refine W.now ?_
 refine InBlock.x0 ?_
 refine Then.n ?_
 refine WP.seq ?_
 refine WP.region ?_
 refine WPL.q (q_mv (v := .whole _) rfl) rfl ?_
 refine WPL.q (q_as (v := .whole _) rfl) rfl ?_
 refine WPL.nilW ?_
 refine W.now ?_
 refine Then.n ?_
 refine WP.retW ?_
 refine W.cv (Cv.frzRow (i := 1) rfl rfl hnp rfl rfl) rfl ?_
 have q0 := (Option.some.inj H)
 subst q0
 exact W.now (BodyR.mkR trivial rfl [0] ⟨rfl, rfl⟩ ⟨rfl, ⟨trivial, .inr ⟨rfl, rfl, rfl⟩⟩, by decide, rfl, ⟨trivial, rfl⟩⟩ rfl rfl)
set_option maxRecDepth 100000 in
set_option maxHeartbeats 4000000 in
theorem s_quireref02_Least (k : Nat) (x6338 : (List Int)) (x6339 : Int) (x7490 : Int) (H : g_quireref02_Least k x6338 x6339 = some x7490) : Go.Q.Spec Try.prog 8 0 [.ro (Rd.slice (Rd.int .i64)) false x6338, .lit (.int .i64 x6339)] Mem.nil (fun o M => o = .ret (.lit (.int .i64 x7490)) ∧ M = Mem.nil) := by
 unfold g_quireref02_Least at H
 refine Go.Q.Spec.of_bodyR (az := []) (rs := [.tmp 4]) (nt := 134) Try.func8 rfl rfl (by intro t T h; simp at h) rfl rfl fun cx hnp => ?_
 refine WP.seq ?_
 refine WP.region ?_
 refine WPL.q (q_as (v := .lit (.int _ _)) rfl) rfl ?_
 refine WPL.nilW ?_
 refine W.now ?_
 refine Then.n ?_
 refine WP.seq ?_
 refine WP.region ?_
 refine WPL.q (q_as (v := .lit _) rfl) rfl ?_
 refine WPL.nilW ?_
 refine W.now ?_
 refine Then.n ?_
 refine WP.seq ?_
 refine WP.seq ?_
 refine WP.region ?_
 refine WPL.q (q_as (v := .lit (.int _ _)) rfl) rfl ?_
 refine WPL.nilW ?_
 refine W.now ?_
 refine Then.n ?_
 refine WP.block ?_
 refine WP.cv (Cv.vir 48 rdS_quireref02_coin (N := 0) rfl 5 rfl) ?_
 refine WP.cv (Cv.weak (E' := ((((Env.none.upd 0 (.ro (Rd.slice (Rd.int .i64)) false x6338)).upd 1 (.lit (.int .i64 x6339))).upd 5 (.whole 0)).upd 6 (.lit (.int .i64 0)))) (M' := (Mem.nil.push (.row 48 rdS_quireref02_coin ([] : List S_quireref02_coin)))) [0] hnp ⟨rfl, ⟨trivial, .inr ⟨rfl, rfl, rfl⟩⟩, by decide, rfl, trivial⟩ (LeE.upd rfl rfl (LeE.upd rfl rfl (LeE.upd rfl rfl (LeE.upd rfl rfl (LeE.none rfl rfl)))))) ?_
 obtain ⟨x7535, H7549, H⟩ := bnd H
 refine WP.monoW (Q := fun x E M => x = .exit 0 ∧ E = (((Env.none.upd 0 (.ro (Rd.slice (Rd.int .i64)) false x6338)).upd 1 (.lit (.int .i64 x6339))).upd 5 (.whole 0)) ∧ M = (Mem.nil.push (.row 48 rdS_quireref02_coin x7535))) ?_ ?_
 · refine WP.loop (β := Int × (List S_quireref02_coin)) (fun n b => g_quireref02_Least_l0 k x6338 n b.1 b.2 = some x7535) (fun b => ((((Env.none.upd 0 (.ro (Rd.slice (Rd.int .i64)) false x6338)).upd 1 (.lit (.int .i64 x6339))).upd 5 (.whole 0)).upd 6 (.lit (.int .i64 b.1)))) (fun b => (Mem.nil.push (.row 48 rdS_quireref02_coin b.2))) k (0, ([] : List S_quireref02_coin)) H7549 rfl rfl ?_
   rintro n ⟨x7519, x7520⟩ H
   obtain _ | n := n
   · exact nf rfl H
   rw [g_quireref02_Least_l0.eq_2] at H
   show WP _ _ _ _ ((((Env.none.upd 0 (.ro (Rd.slice (Rd.int .i64)) false x6338)).upd 1 (.lit (.int .i64 x6339))).upd 5 (.whole 0)).upd 6 (.lit (.int .i64 x7519))) (Mem.nil.push (.row 48 rdS_quireref02_coin x7520)) _
   refine WP.seq ?_
   refine WP.seq ?_
   refine WP.region ?_
   refine WPL.q (q_mv (v := .lit (.int _ _)) rfl) rfl ?_
   refine WPL.q (q_mv (v := .ro _ _ _) rfl) rfl ?_
   refine WPL.q (q_len_ro sl22 rfl) rfl ?_
   obtain ⟨x7538, h7538, H⟩ := bnd H
   refine WPL.q (q_nm (q_lss rfl rfl) (nm_bool h7538)) rfl ?_
   refine WPL.nilW ?_
   refine W.now ?_
   refine Then.n ?_
   refine WP.cond (t := x7538) rfl (fun hb7538 => ?_) (fun hb7538 => ?_)
   · replace H := cnt hb7538 H
     refine WP.skipW ?_
     refine W.now ?_
     refine Then.n ?_
     refine WP.seq ?_
     obtain ⟨x7544, H7548, H⟩ := bnd H
     refine WP.monoW (Q := fun x E M => x = .normal ∧ E = ((((Env.none.upd 0 (.ro (Rd.slice (Rd.int .i64)) false x6338)).upd 1 (.lit (.int .i64 x6339))).upd 5 (.whole 0)).upd 6 (.lit (.int .i64 x7519))) ∧ M = (Mem.nil.push (.row 48 rdS_quireref02_coin x7544))) ?_ ?_
     · clear H
       have H := H7548
       clear H7548
       refine WP.block ?_
       refine WP.seq ?_
       refine WP.region ?_
       refine WPL.q (q_mv (v := .ro _ _ _) rfl) rfl ?_
       refine WPL.q (q_mv (v := .lit (.int _ _)) rfl) rfl ?_
       obtain ⟨x7545, h7545, H⟩ := bnd H
       refine WPL.q (q_index_ro sl22 rfl rfl rfl h7545) rfl ?_
       refine WPL.q (q_load_sc sc3 rfl) rfl ?_
       refine WPL.q (q_gtr rfl rfl) rfl ?_
       refine WPL.nilW ?_
       refine W.now ?_
       refine Then.n ?_
       refine WP.cond (t := (decide (0 < x7545))) rfl (fun hb7545 => ?_) (fun hb7545 => ?_)
       · replace H := cnt hb7545 H
         refine WP.region ?_
         refine WPL.q (q_mv (v := .whole _) rfl) rfl ?_
         refine WPL.q (q_mv (v := .ro _ _ _) rfl) rfl ?_
         refine WPL.q (q_mv (v := .lit (.int _ _)) rfl) rfl ?_
         obtain ⟨x7547, h7547, H⟩ := bnd H
         refine WPL.q (q_index_ro sl22 rfl rfl rfl h7547) rfl ?_
         refine WPL.q (q_load_sc sc3 rfl) rfl ?_
         refine WPL.q (q_mv (v := .lit (.int _ _)) rfl) rfl ?_
         refine WPL.d (d_buildSlice (ds := ([x7519] : List Int)) (R := (Rd.int .i64)) li22 rfl rfl rfl rfl rfl (JoinRows.cons1 Joins.sc rfl JoinRows.nil) rfl rfl) rfl ?_
         refine WPL.q (q_build bu48 rfl) rfl ?_
         refine WPL.cv (Cv.frzRow (i := 1) rfl rfl hnp rfl rfl) ?_
         refine WPL.d (d_buildSlice (ds := ([(⟨x7547, ([x7519] : List Int)⟩ : S_quireref02_coin)] : List S_quireref02_coin)) (R := rdS_quireref02_coin) li46 rfl rfl rfl rfl rfl (JoinRows.cons (l := [.lit (.int .i64 x7547), .ro (Rd.slice (Rd.int .i64)) false ([x7519] : List Int)]) (Joins.via (Joins.cons Joins.sc (Joins.cons Joins.one Joins.unit))) rfl JoinRows.nil) rfl rfl) rfl ?_
         obtain ⟨h7547, H⟩ := grd H
         refine WPL.d (d_append ap46 rfl rfl rfl rfl (src_row sl46 rfl rfl) h7547 rfl) rfl ?_
         refine WPL.q (q_as (v := .whole _) rfl) rfl ?_
         refine WPL.nilW ?_
         have q0 := (Option.some.inj H)
         subst q0
         exact W.wk [3] hnp (InBlock.n ⟨rfl, rfl, rfl⟩) ⟨rfl, ⟨trivial, .inr ⟨rfl, rfl, rfl⟩⟩, by decide, rfl, trivial⟩ (LeE.upd rfl rfl (LeE.upd rfl rfl (LeE.upd rfl rfl (LeE.upd rfl rfl (LeE.none rfl rfl))))) rfl
       replace H := cnf hb7545 H
       refine WP.skipW ?_
       have q0 := (Option.some.inj H)
       subst q0
       exact W.wk [0] hnp (InBlock.n ⟨rfl, rfl, rfl⟩) ⟨rfl, ⟨trivial, .inr ⟨rfl, rfl, rfl⟩⟩, by decide, rfl, trivial⟩ (LeE.upd rfl rfl (LeE.upd rfl rfl (LeE.upd rfl rfl (LeE.upd rfl rfl (LeE.none rfl rfl))))) rfl
     rintro _ _ _ ⟨rfl, rfl, rfl⟩
     refine W.now ?_
     refine Then.n ?_
     refine WP.region ?_
     refine WPL.q (q_mv (v := .lit (.int _ _)) rfl) rfl ?_
     refine WPL.q (q_add rfl rfl) rfl ?_
     refine WPL.q (q_as (v := .lit (.int _ _)) rfl) rfl ?_
     refine WPL.nilW ?_
     exact W.wk [0] hnp (Then.n ⟨n, ((IntKind.wrap .i64 (x7519 + 1)), x7544), Nat.lt_succ_self n, H, rfl, rfl⟩) ⟨rfl, ⟨trivial, .inr ⟨rfl, rfl, rfl⟩⟩, by decide, rfl, trivial⟩ (LeE.upd rfl rfl (LeE.upd rfl rfl (LeE.upd rfl rfl (LeE.upd rfl rfl (LeE.none rfl rfl))))) rfl
   replace H := cnf hb7538 H
   refine WP.exitW ?_
   have q0 := (Option.some.inj H)
   subst q0
   exact W.wk [0] hnp (Then.x (Then.x ⟨rfl, rfl, rfl⟩)) ⟨rfl, ⟨trivial, .inr ⟨rfl, rfl, rfl⟩⟩, by decide, rfl, trivial⟩ (LeE.upd rfl rfl (LeE.upd rfl rfl (LeE.upd rfl rfl (LeE.none rfl rfl)))) rfl
 rintro _ _ _ ⟨rfl, rfl, rfl⟩
 refine W.now ?_
 refine InBlock.x0 ?_
 refine Then.n ?_
 refine WP.seq ?_
 refine WP.seq ?_
 refine WP.region ?_
 refine WPL.q (q_mv (v := .whole _) rfl) rfl ?_
 refine WPL.q (q_len_row sl46 rfl rfl) rfl ?_
 obtain ⟨x7553, h7553, H⟩ := bnd H
 refine WPL.q (q_nm (q_eql rfl rfl) (nm_bool h7553)) rfl ?_
 refine WPL.nilW ?_
 refine W.now ?_
 refine Then.n ?_
 refine WP.cond (t := x7553) rfl (fun hb7553 => ?_) (fun hb7553 => ?_)
 · replace H := cnt hb7553 H
   refine WP.seq ?_
   refine WP.region ?_
   refine WPL.q (q_as (v := .lit (.int _ _)) rfl) rfl ?_
   refine WPL.nilW ?_
   refine W.now ?_
   refine Then.n ?_
   refine WP.retW ?_
   have q0 := (Option.some.inj H)
   subst q0
   exact W.now (Then.r (BodyR.mkR trivial rfl [] ⟨rfl, rfl⟩ ⟨rfl, trivial, by decide, rfl, trivial⟩ rfl rfl))
 replace H := cnf hb7553 H
 refine WP.skipW ?_
 refine W.now ?_
 refine Then.n ?_
 refine WP.seq ?_
 refine WP.seq ?_
 refine WP.region ?_
 refine WPL.q (q_mv (v := .whole _) rfl) rfl ?_
 refine WPL.q (q_len_row sl46 rfl rfl) rfl ?_
 obtain ⟨x7558, h7558, H⟩ := bnd H
 refine WPL.q (q_nm (q_eql rfl rfl) (nm_bool h7558)) rfl ?_
 refine WPL.nilW ?_
 refine W.now ?_
 refine Then.n ?_
 refine WP.cond (t := x7558) rfl (fun hb7558 => ?_) (fun hb7558 => ?_)
 · replace H := cnt hb7558 H
   refine WP.seq ?_
   refine WP.region ?_
   refine WPL.q (q_mv (v := .whole _) rfl) rfl ?_
   obtain ⟨x7560, h7560, H⟩ := bnd H
   refine WPL.q (q_index_row sl46 rfl rfl rfl (ixs h7560)) rfl ?_
   refine WPL.q (q_fieldAddr fi48_0 rfl rfl) rfl ?_
   refine WPL.q (q_load_rowf (j := (Int.toNat 0)) (n := 2) (off := 0) (d := x7560) sc3 rfl rfl (ixj h7560) rfl S_quireref02_coin.p0) rfl ?_
   refine WPL.q (q_as (v := .lit (.int _ _)) rfl) rfl ?_
   refine WPL.nilW ?_
   refine W.now ?_
   refine Then.n ?_
   refine WP.retW ?_
   have q0 := (Option.some.inj H)
   subst q0
   exact W.now (Then.r (BodyR.mkR trivial rfl [] ⟨rfl, rfl⟩ ⟨rfl, trivial, by decide, rfl, trivial⟩ rfl rfl))
 replace H := cnf hb7558 H
 refine WP.skipW ?_
 refine W.now ?_
 refine Then.n ?_
 refine WP.seq ?_
 refine WP.region ?_
 refine WPL.q (q_mv (v := .whole _) rfl) rfl ?_
 obtain ⟨x7562, h7560, H⟩ := bnd H
 refine WPL.c (runs_call (s := [0]) (t := [0]) (N := 1) (bor := []) fn16 rfl (s_quireref02_sorted k x7535 x7562 h7560) ⟨rfl, ⟨trivial, .inr ⟨rfl, rfl, rfl⟩⟩, by decide, rfl, trivial⟩ rfl trivial (.ren rfl rfl .nil) rfl ⟨trivial, rfl⟩ rfl) rfl ?_
 refine WPL.q (q_as (v := .ro _ _ _) rfl) rfl ?_
 refine WPL.nilW ?_
 refine W.now ?_
 refine Then.n ?_
 refine WP.seq ?_
 refine WP.region ?_
 refine WPL.q (q_mv (v := .ro _ _ _) rfl) rfl ?_
 refine WPL.q (q_as (v := .ro _ _ _) rfl) rfl ?_
 refine WPL.nilW ?_
 refine W.now ?_
 refine Then.n ?_
 refine WP.seq ?_
 refine WP.seq ?_
 refine WP.region ?_
 refine WPL.q (q_as (v := .lit (.int _ _)) rfl) rfl ?_
 refine WPL.nilW ?_
 refine W.now ?_
 refine Then.n ?_
 refine WP.block ?_
 refine WP.cv (Cv.weak (E' := (((((Env.none.upd 0 (.ro (Rd.slice (Rd.int .i64)) false x6338)).upd 1 (.lit (.int .i64 x6339))).upd 5 (.ro (Rd.slice rdS_quireref02_coin) false x7562)).upd 7 (.ro (Rd.slice rdS_quireref02_coin) false x7562)).upd 8 (.lit (.int .i64 1)))) (M' := Mem.nil) [] hnp ⟨rfl, trivial, by decide, rfl, trivial⟩ (LeE.upd rfl rfl (LeE.upd rfl rfl (LeE.upd rfl rfl (LeE.upd rfl rfl (LeE.upd rfl rfl (LeE.none rfl rfl))))))) ?_
 obtain ⟨x7705, H7795, H⟩ := bnd H
 refine WP.monoW (Q := fun x E M => x = .exit 2 ∧ E = (((Env.none.upd 0 (.ro (Rd.slice (Rd.int .i64)) false x6338)).upd 5 (.ro (Rd.slice rdS_quireref02_coin) false x7562)).upd 7 (.ro (Rd.slice rdS_quireref02_coin) false x7705)) ∧ M = Mem.nil) ?_ ?_
 · refine WP.loop (β := (List S_quireref02_coin) × Int) (fun n b => g_quireref02_Least_l1 k x6339 x7562 n b.1 b.2 = some x7705) (fun b => (((((Env.none.upd 0 (.ro (Rd.slice (Rd.int .i64)) false x6338)).upd 1 (.lit (.int .i64 x6339))).upd 5 (.ro (Rd.slice rdS_quireref02_coin) false x7562)).upd 7 (.ro (Rd.slice rdS_quireref02_coin) false b.1)).upd 8 (.lit (.int .i64 b.2)))) (fun b => Mem.nil) k (x7562, 1) H7795 rfl rfl ?_
   rintro n ⟨x7633, x7634⟩ H
   obtain _ | n := n
   · exact nf rfl H
   rw [g_quireref02_Least_l1.eq_2] at H
   show WP _ _ _ _ (((((Env.none.upd 0 (.ro (Rd.slice (Rd.int .i64)) false x6338)).upd 1 (.lit (.int .i64 x6339))).upd 5 (.ro (Rd.slice rdS_quireref02_coin) false x7562)).upd 7 (.ro (Rd.slice rdS_quireref02_coin) false x7633)).upd 8 (.lit (.int .i64 x7634))) Mem.nil _
   refine WP.seq ?_
   refine WP.seq ?_
   refine WP.region ?_
   refine WPL.q (q_mv (v := .lit (.int _ _)) rfl) rfl ?_
   refine WPL.q (q_mv (v := .lit (.int _ _)) rfl) rfl ?_
   refine WPL.q (q_lss rfl rfl) rfl ?_
   refine WPL.nilW ?_
   refine W.now ?_
   refine Then.n ?_
   refine WP.cond (t := (decide (x7634 < x6339))) rfl (fun hb7706 => ?_) (fun hb7706 => ?_)
   · replace H := cnt hb7706 H
     refine WP.skipW ?_
     refine W.now ?_
     refine Then.n ?_
     refine WP.seq ?_
     refine WP.block ?_
     refine WP.seq ?_
     refine WP.region ?_
     refine WPL.q (q_as (v := .lit _) rfl) rfl ?_
     refine WPL.nilW ?_
     refine W.now ?_
     refine Then.n ?_
     refine WP.seq ?_
     refine WP.seq ?_
     refine WP.region ?_
     refine WPL.q (q_as (v := .lit (.int _ _)) rfl) rfl ?_
     refine WPL.nilW ?_
     refine W.now ?_
     refine Then.n ?_
     refine WP.block ?_
     refine WP.cv (Cv.vir 48 rdS_quireref02_coin (N := 0) rfl 9 rfl) ?_
     refine WP.cv (Cv.weak (E' := (((((((Env.none.upd 0 (.ro (Rd.slice (Rd.int .i64)) false x6338)).upd 1 (.lit (.int .i64 x6339))).upd 5 (.ro (Rd.slice rdS_quireref02_coin) false x7562)).upd 7 (.ro (Rd.slice rdS_quireref02_coin) false x7633)).upd 8 (.lit (.int .i64 x7634))).upd 9 (.whole 0)).upd 10 (.lit (.int .i64 0)))) (M' := (Mem.nil.push (.row 48 rdS_quireref02_coin ([] : List S_quireref02_coin)))) [0] hnp ⟨rfl, ⟨trivial, .inr ⟨rfl, rfl, rfl⟩⟩, by decide, rfl, trivial⟩ (LeE.upd rfl rfl (LeE.upd rfl rfl (LeE.upd rfl rfl (LeE.upd rfl rfl (LeE.upd rfl rfl (LeE.upd rfl rfl (LeE.upd rfl rfl (LeE.none rfl rfl))))))))) ?_
     obtain ⟨x7770, H7790, H⟩ := bnd H
     refine WP.monoW (Q := fun x E M => x = .exit 4 ∧ E = (((((Env.none.upd 0 (.ro (Rd.slice (Rd.int .i64)) false x6338)).upd 1 (.lit (.int .i64 x6339))).upd 5 (.ro (Rd.slice rdS_quireref02_coin) false x7562)).upd 8 (.lit (.int .i64 x7634))).upd 9 (.whole 0)) ∧ M = (Mem.nil.push (.row 48 rdS_quireref02_coin x7770))) ?_ ?_
     · refine WP.loop (β := Int × (List S_quireref02_coin)) (fun n b => g_quireref02_Least_l2 k x7633 n b.1 b.2 = some x7770) (fun b => (((((((Env.none.upd 0 (.ro (Rd.slice (Rd.int .i64)) false x6338)).upd 1 (.lit (.int .i64 x6339))).upd 5 (.ro (Rd.slice rdS_quireref02_coin) false x7562)).upd 7 (.ro (Rd.slice rdS_quireref02_coin) false x7633)).upd 8 (.lit (.int .i64 x7634))).upd 9 (.whole 0)).upd 10 (.lit (.int .i64 b.1)))) (fun b => (Mem.nil.push (.row 48 rdS_quireref02_coin b.2))) k (0, ([] : List S_quireref02_coin)) H7790 rfl rfl ?_
       rintro n ⟨x7748, x7749⟩ H
       obtain _ | n := n
       · exact nf rfl H
       rw [g_quireref02_Least_l2.eq_2] at H
       show WP _ _ _ _ (((((((Env.none.upd 0 (.ro (Rd.slice (Rd.int .i64)) false x6338)).upd 1 (.lit (.int .i64 x6339))).upd 5 (.ro (Rd.slice rdS_quireref02_coin) false x7562)).upd 7 (.ro (Rd.slice rdS_quireref02_coin) false x7633)).upd 8 (.lit (.int .i64 x7634))).upd 9 (.whole 0)).upd 10 (.lit (.int .i64 x7748))) (Mem.nil.push (.row 48 rdS_quireref02_coin x7749)) _
       refine WP.seq ?_
       refine WP.seq ?_
       refine WP.region ?_
       refine WPL.q (q_mv (v := .lit (.int _ _)) rfl) rfl ?_
       refine WPL.q (q_add rfl rfl) rfl ?_
       refine WPL.q (q_mv (v := .ro _ _ _) rfl) rfl ?_
       refine WPL.q (q_len_ro sl46 rfl) rfl ?_
       obtain ⟨x7773, h7773, H⟩ := bnd H
       refine WPL.q (q_nm (q_lss rfl rfl) (nm_bool h7773)) rfl ?_
       refine WPL.nilW ?_
       refine W.now ?_
       refine Then.n ?_
       refine WP.cond (t := x7773) rfl (fun hb7773 => ?_) (fun hb7773 => ?_)
       · replace H := cnt hb7773 H
         refine WP.skipW ?_
         refine W.now ?_
         refine Then.n ?_
         refine WP.seq ?_
         refine WP.block ?_
         refine WP.regionD' 31 [] [] mixed rfl ?_
         refine WPD.takeT 0 rfl (by kernel_rfl) (q_mv (v := .whole _) rfl) rfl ?_
         refine WPD.takeT 1 rfl (by kernel_rfl) (q_mv (v := .ro _ _ _) rfl) rfl ?_
         refine WPD.takeT 2 rfl (by kernel_rfl) (q_mv (v := .lit (.int _ _)) rfl) rfl ?_
         obtain ⟨x7783, h7783, H⟩ := bnd H
         refine WPD.takeT 3 rfl (by kernel_rfl) (q_index_ro sl46 rfl rfl rfl h7783) rfl ?_
         refine WPD.takeT 4 rfl (by kernel_rfl) (q_fieldAddr_ro fi48_0 rfl rfl S_quireref02_coin.p0 (Nat.le_of_ble_eq_true rfl)) rfl ?_
         refine WPD.takeT 5 rfl (by kernel_rfl) (q_load_sc sc3 rfl) rfl ?_
         refine WPD.takeT 6 rfl (by kernel_rfl) (q_mv (v := .ro _ _ _) rfl) rfl ?_
         refine WPD.takeT 7 rfl (by kernel_rfl) (q_mv (v := .lit (.int _ _)) rfl) rfl ?_
         refine WPD.takeT 8 rfl (by kernel_rfl) (q_add rfl rfl) rfl ?_
         obtain ⟨x7784, h7784, H⟩ := bnd H
         refine WPD.takeT 9 rfl (by kernel_rfl) (q_index_ro sl46 rfl rfl rfl h7784) rfl ?_
         refine WPD.takeT 10 rfl (by kernel_rfl) (q_fieldAddr_ro fi48_0 rfl rfl S_quireref02_coin.p0 (Nat.le_of_ble_eq_true rfl)) rfl ?_
         refine WPD.takeT 11 rfl (by kernel_rfl) (q_load_sc sc3 rfl) rfl ?_
         obtain ⟨x7785, h7785, H⟩ := bnd H
         refine WPD.takeT 12 rfl (by kernel_rfl) (q_nm (q_add rfl rfl) (nm_int h7785)) rfl ?_
         refine WPD.takeT 14 rfl (by kernel_rfl) (q_mv (v := .ro _ _ _) rfl) rfl ?_
         refine WPD.takeT 15 rfl (by kernel_rfl) (q_mv (v := .lit (.int _ _)) rfl) rfl ?_
         obtain ⟨x7786, h7786, H⟩ := bnd H
         refine WPD.takeT 16 rfl (by kernel_rfl) (q_index_ro sl46 rfl rfl rfl h7786) rfl ?_
         refine WPD.takeT 17 rfl (by kernel_rfl) (q_fieldAddr_ro fi48_1 rfl rfl S_quireref02_coin.p1 (Nat.le_of_ble_eq_true rfl)) rfl ?_
         refine WPD.takeT 18 rfl (by kernel_rfl) (q_load_ro sc22 rfl rfl) rfl ?_
         refine WPD.takeT 20 rfl (by kernel_rfl) (q_mv (v := .ro _ _ _) rfl) rfl ?_
         refine WPD.takeT 21 rfl (by kernel_rfl) (q_mv (v := .lit (.int _ _)) rfl) rfl ?_
         refine WPD.takeT 22 rfl (by kernel_rfl) (q_add rfl rfl) rfl ?_
         obtain ⟨x7787, h7787, H⟩ := bnd H
         refine WPD.takeT 23 rfl (by kernel_rfl) (q_index_ro sl46 rfl rfl rfl h7787) rfl ?_
         refine WPD.takeT 24 rfl (by kernel_rfl) (q_fieldAddr_ro fi48_1 rfl rfl S_quireref02_coin.p1 (Nat.le_of_ble_eq_true rfl)) rfl ?_
         refine WPD.takeT 25 rfl (by kernel_rfl) (q_load_ro sc22 rfl rfl) rfl ?_
         refine WPD.eff 13 [] [] rfl (by kernel_rfl) (Does.runs (d_buildSlice (ds := ([] : List Int)) (R := (Rd.int .i64)) li22 rfl rfl rfl rfl rfl JoinRows.nil rfl rfl)) rfl rfl ?_
         obtain ⟨h7787, H⟩ := grd H
         refine WPD.eff 19 [] [] rfl (by kernel_rfl) (Does.runs (d_append ap22 rfl rfl rfl rfl (src_ro sl22 rfl) h7787 rfl)) rfl rfl ?_
         obtain ⟨h7788, H⟩ := grd H
         refine WPD.eff 26 [] [] rfl (by kernel_rfl) (Does.runs (d_append ap22 rfl rfl rfl rfl (src_ro sl22 rfl) h7788 rfl)) rfl rfl ?_
         refine WPD.takeT 27 rfl (by kernel_rfl) (q_build bu48 rfl) rfl ?_
         refine WPD.cvL (CvL.frzRow (i := 3) rfl rfl hnp rfl rfl) rfl ?_
         refine WPD.eff 28 [] [] rfl (by kernel_rfl) (Does.runs (d_buildSlice (ds := ([(⟨x7785, ((([] : List Int) ++ x7786.fsyms) ++ x7787.fsyms)⟩ : S_quireref02_coin)] : List S_quireref02_coin)) (R := rdS_quireref02_coin) li46 rfl rfl rfl rfl rfl (JoinRows.cons (l := [.lit (.int .i64 x7785), .ro (Rd.slice (Rd.int .i64)) false ((([] : List Int) ++ x7786.fsyms) ++ x7787.fsyms)]) (Joins.via (Joins.cons Joins.sc (Joins.cons Joins.one Joins.unit))) rfl JoinRows.nil) rfl rfl)) rfl rfl ?_
         obtain ⟨h7789, H⟩ := grd H
         refine WPD.eff 29 [] [] rfl (by kernel_rfl) (Does.runs (d_append ap46 rfl rfl rfl rfl (src_row sl46 rfl rfl) h7789 rfl)) rfl rfl ?_
         refine WPD.takeT 30 rfl (by kernel_rfl) (q_as (v := .whole _) rfl) rfl ?_
         refine WPD.doneW (by kernel_rfl) ?_
         refine W.now ?_
         refine InBlock.n ?_
         refine Then.n ?_
         refine WP.region ?_
         refine WPL.q (q_mv (v := .lit (.int _ _)) rfl) rfl ?_
         refine WPL.q (q_add rfl rfl) rfl ?_
         refine WPL.q (q_as (v := .lit (.int _ _)) rfl) rfl ?_
         refine WPL.nilW ?_
         exact W.wk [5] hnp (Then.n ⟨n, ((IntKind.wrap .i64 (x7748 + 2)), (x7749 ++ ([(⟨x7785, ((([] : List Int) ++ x7786.fsyms) ++ x7787.fsyms)⟩ : S_quireref02_coin)] : List S_quireref02_coin))), Nat.lt_succ_self n, H, rfl, rfl⟩) ⟨rfl, ⟨trivial, .inr ⟨rfl, rfl, rfl⟩⟩, by decide, rfl, trivial⟩ (LeE.upd rfl rfl (LeE.upd rfl rfl (LeE.upd rfl rfl (LeE.upd rfl rfl (LeE.upd rfl rfl (LeE.upd rfl rfl (LeE.upd rfl rfl (LeE.none rfl rfl)))))))) rfl
       replace H := cnf hb7773 H
       refine WP.exitW ?_
       have q0 := (Option.some.inj H)
       subst q0
       exact W.wk [0] hnp (Then.x (Then.x ⟨rfl, rfl, rfl⟩)) ⟨rfl, ⟨trivial, .inr ⟨rfl, rfl, rfl⟩⟩, by decide, rfl, trivial⟩ (LeE.upd rfl rfl (LeE.upd rfl rfl (LeE.upd rfl rfl (LeE.upd rfl rfl (LeE.upd rfl rfl (LeE.none rfl rfl)))))) rfl
     rintro _ _ _ ⟨rfl, rfl, rfl⟩
     refine W.now ?_
     refine InBlock.x0 ?_
     refine Then.n ?_
     refine WP.region ?_
     refine WPL.d (d_buildSlice (ds := ([] : List S_quireref02_coin)) (R := rdS_quireref02_coin) li46 rfl rfl rfl rfl rfl JoinRows.nil rfl rfl) rfl ?_
     refine WPL.q (q_mv (v := .ro _ _ _) rfl) rfl ?_
     obtain ⟨h7791, H⟩ := grd H
     refine WPL.d (d_append ap46 rfl rfl rfl rfl (src_ro sl46 rfl) h7791 rfl) rfl ?_
     refine WPL.q (q_mv (v := .whole _) rfl) rfl ?_
     obtain ⟨h7792, H⟩ := grd H
     refine WPL.d (d_append ap46 rfl rfl rfl rfl (src_row sl46 rfl rfl) h7792 rfl) rfl ?_
     obtain ⟨x7795, h7793, H⟩ := bnd H
     refine WPL.c (runs_call (s := [3]) (t := [3]) (N := 4) (bor := []) fn16 rfl (s_quireref02_sorted k ((([] : List S_quireref02_coin) ++ x7562) ++ x7770) x7795 h7793) ⟨rfl, ⟨trivial, .inr ⟨rfl, rfl, rfl⟩⟩, by decide, rfl, trivial⟩ rfl trivial (.ren rfl rfl .nil) rfl ⟨trivial, rfl⟩ rfl) rfl ?_
     refine WPL.q (q_as (v := .ro _ _ _) rfl) rfl ?_
     refine WPL.nilW ?_
     refine W.now ?_
     refine InBlock.n ?_
     refine Then.n ?_
     refine WP.region ?_
     refine WPL.q (q_mv (v := .lit (.int _ _)) rfl) rfl ?_
     refine WPL.q (q_add rfl rfl) rfl ?_
     refine WPL.q (q_as (v := .lit (.int _ _)) rfl) rfl ?_
     refine WPL.nilW ?_
     exact W.wk [] hnp (Then.n ⟨n, (x7795, (IntKind.wrap .i64 (x7634 + 1))), Nat.lt_succ_self n, H, rfl, rfl⟩) ⟨rfl, trivial, by decide, rfl, trivial⟩ (LeE.upd rfl rfl (LeE.upd rfl rfl (LeE.upd rfl rfl (LeE.upd rfl rfl (LeE.upd rfl rfl (LeE.none rfl rfl)))))) rfl
   replace H := cnf hb7706 H
   refine WP.exitW ?_
   have q0 := (Option.some.inj H)
   subst q0
   exact W.wk [] hnp (Then.x (Then.x ⟨rfl, rfl, rfl⟩)) ⟨rfl, trivial, by decide, rfl, trivial⟩ (LeE.upd rfl rfl (LeE.upd rfl rfl (LeE.upd rfl rfl (LeE.none rfl rfl)))) rfl
 rintro _ _ _ ⟨rfl, rfl, rfl⟩
 refine W.now ?_
 refine InBlock.x0 ?_
 refine Then.n ?_
 refine WP.seq ?_
 refine WP.region ?_
 refine WPL.q (q_as (v := .lit (.int _ _)) rfl) rfl ?_
 refine WPL.nilW ?_
 refine W.now ?_
 refine Then.n ?_
 refine WP.seq ?_
 refine WP.seq ?_
 refine WP.region ?_
 refine WPL.q (q_as (v := .lit (.int _ _)) rfl) rfl ?_
 refine WPL.nilW ?_
 refine W.now ?_
 refine Then.n ?_
 refine WP.block ?_
 refine WP.cv (Cv.weak (E' := (((((Env.none.upd 0 (.ro (Rd.slice (Rd.int .i64)) false x6338)).upd 5 (.ro (Rd.slice rdS_quireref02_coin) false x7562)).upd 7 (.ro (Rd.slice rdS_quireref02_coin) false x7705)).upd 11 (.lit (.int .i64 0))).upd 12 (.lit (.int .i64 0)))) (M' := Mem.nil) [] hnp ⟨rfl, trivial, by decide, rfl, trivial⟩ (LeE.upd rfl rfl (LeE.upd rfl rfl (LeE.upd rfl rfl (LeE.upd rfl rfl (LeE.upd rfl rfl (LeE.none rfl rfl))))))) ?_
 obtain ⟨x7887, H7940, H⟩ := bnd H
 refine WP.monoW (Q := fun x E M => x = .exit 6 ∧ E = (Env.none.upd 11 (.lit (.int .i64 x7887))) ∧ M = Mem.nil) ?_ ?_
 · refine WP.loop (β := Int × Int) (fun n b => g_quireref02_Least_l3 k x6338 x7562 x7705 n b.1 b.2 = some x7887) (fun b => (((((Env.none.upd 0 (.ro (Rd.slice (Rd.int .i64)) false x6338)).upd 5 (.ro (Rd.slice rdS_quireref02_coin) false x7562)).upd 7 (.ro (Rd.slice rdS_quireref02_coin) false x7705)).upd 11 (.lit (.int .i64 b.1))).upd 12 (.lit (.int .i64 b.2)))) (fun b => Mem.nil) k (0, 0) H7940 rfl rfl ?_
   rintro n ⟨x7841, x7842⟩ H
   obtain _ | n := n
   · exact nf rfl H
   rw [g_quireref02_Least_l3.eq_2] at H
   show WP _ _ _ _ (((((Env.none.upd 0 (.ro (Rd.slice (Rd.int .i64)) false x6338)).upd 5 (.ro (Rd.slice rdS_quireref02_coin) false x7562)).upd 7 (.ro (Rd.slice rdS_quireref02_coin) false x7705)).upd 11 (.lit (.int .i64 x7841))).upd 12 (.lit (.int .i64 x7842))) Mem.nil _
   refine WP.seq ?_
   refine WP.seq ?_
   obtain ⟨x7903, H7907, H⟩ := bnd H
   refine WP.monoW (Q := fun x E M => x = .normal ∧ E = ((((((Env.none.upd 0 (.ro (Rd.slice (Rd.int .i64)) false x6338)).upd 5 (.ro (Rd.slice rdS_quireref02_coin) false x7562)).upd 7 (.ro (Rd.slice rdS_quireref02_coin) false x7705)).upd 11 (.lit (.int .i64 x7841))).upd 12 (.lit (.int .i64 x7842))).upd 107 (.lit (.bool x7903))) ∧ M = Mem.nil) ?_ ?_
   · clear H
     have H := H7907
     clear H7907
     refine WP.region ?_
     refine WPL.q (q_mv (v := .lit (.int _ _)) rfl) rfl ?_
     refine WPL.q (q_mv (v := .ro _ _ _) rfl) rfl ?_
     refine WPL.q (q_len_ro sl46 rfl) rfl ?_
     obtain ⟨x7904, h7904, H⟩ := bnd H
     refine WPL.q (q_nm (q_mul rfl rfl) (nm_int h7904)) rfl ?_
     refine WPL.q (q_sub rfl rfl) rfl ?_
     obtain ⟨x7905, h7905, H⟩ := bnd H
     refine WPL.q (q_nm (q_lss rfl rfl) (nm_bool h7905)) rfl ?_
     refine WPL.q (q_mv (v := .lit (.bool _)) rfl) rfl ?_
     refine WPL.split (t := 102) (b := x7905) rfl (fun hb7905 => ?_) (fun hb7905 => ?_)
     · replace H := cnt hb7905 H
       refine WPL.qg rfl rfl (lb hb7905) (q_mv (v := .lit (.int _ _)) rfl) rfl ?_
       refine WPL.qg rfl rfl (lb hb7905) (q_mv (v := .ro _ _ _) rfl) rfl ?_
       refine WPL.qg rfl rfl (lb hb7905) (q_len_ro sl46 rfl) rfl ?_
       obtain ⟨x7907, h7907, H⟩ := bnd H
       refine WPL.qg rfl rfl (lb hb7905) (q_nm (q_lss rfl rfl) (nm_bool h7907)) rfl ?_
       refine WPL.q (q_pickT (v := .lit (.bool _)) (lb hb7905) rfl) rfl ?_
       refine WPL.nilW ?_
       have q0 := (Option.some.inj H)
       subst q0
       exact W.wk [] hnp ⟨rfl, rfl, rfl⟩ ⟨rfl, trivial, by decide, rfl, trivial⟩ (LeE.upd rfl rfl (LeE.upd rfl rfl (LeE.upd rfl rfl (LeE.upd rfl rfl (LeE.upd rfl rfl (LeE.upd rfl rfl (LeE.none rfl rfl))))))) rfl
     replace H := cnf hb7905 H
     refine WPL.skipg (b' := false) rfl rfl (lb hb7905) rfl rfl (.inl trivial) ?_
     refine WPL.skipg (b' := false) rfl rfl (lb hb7905) rfl rfl (.inl trivial) ?_
     refine WPL.skipg (b' := false) rfl rfl (lb hb7905) rfl rfl (.inl trivial) ?_
     refine WPL.skipg (b' := false) rfl rfl (lb hb7905) rfl rfl (.inl trivial) ?_
     refine WPL.q (q_pickF (v := .lit (.bool _)) (lb hb7905) rfl) rfl ?_
     refine WPL.nilW ?_
     have q0 := (Option.some.inj H)
     subst q0
     exact W.wk [] hnp ⟨rfl, rfl, rfl⟩ ⟨rfl, trivial, by decide, rfl, trivial⟩ (LeE.upd rfl rfl (LeE.upd rfl rfl (LeE.upd rfl rfl (LeE.upd rfl rfl (LeE.upd rfl rfl (LeE.upd rfl rfl (LeE.none rfl rfl))))))) rfl
   rintro _ _ _ ⟨rfl, rfl, rfl⟩
   refine W.now ?_
   refine Then.n ?_
   refine WP.cond (t := x7903) rfl (fun hb7908 => ?_) (fun hb7908 => ?_)
   · replace H := cnt hb7908 H
     refine WP.skipW ?_
     refine W.now ?_
     refine Then.n ?_
     refine WP.seq ?_
     refine WP.block ?_
     refine WP.seq ?_
     refine WP.region ?_
     refine WPL.q (q_as (v := .lit (.int _ _)) rfl) rfl ?_
     refine WPL.nilW ?_
     refine W.now ?_
     refine Then.n ?_
     refine WP.block ?_
     refine WP.cv (Cv.weak (E' := ((((((Env.none.upd 0 (.ro (Rd.slice (Rd.int .i64)) false x6338)).upd 5 (.ro (Rd.slice rdS_quireref02_coin) false x7562)).upd 7 (.ro (Rd.slice rdS_quireref02_coin) false x7705)).upd 11 (.lit (.int .i64 x7841))).upd 12 (.lit (.int .i64 x7842))).upd 13 (.lit (.int .i64 0)))) (M' := Mem.nil) [] hnp ⟨rfl, trivial, by decide, rfl, trivial⟩ (LeE.upd rfl rfl (LeE.upd rfl rfl (LeE.upd rfl rfl (LeE.upd rfl rfl (LeE.upd rfl rfl (LeE.upd rfl rfl (LeE.none rfl rfl)))))))) ?_
     obtain ⟨x7930, H7939, H⟩ := bnd H
     refine WP.monoW (Q := fun x E M => x = .exit 8 ∧ E = (((((Env.none.upd 0 (.ro (Rd.slice (Rd.int .i64)) false x6338)).upd 5 (.ro (Rd.slice rdS_quireref02_coin) false x7562)).upd 7 (.ro (Rd.slice rdS_quireref02_coin) false x7705)).upd 11 (.lit (.int .i64 x7930))).upd 12 (.lit (.int .i64 x7842))) ∧ M = Mem.nil) ?_ ?_
     · refine WP.loop (β := Int × Int) (fun n b => g_quireref02_Least_l4 k x6338 x7705 x7842 n b.1 b.2 = some x7930) (fun b => ((((((Env.none.upd 0 (.ro (Rd.slice (Rd.int .i64)) false x6338)).upd 5 (.ro (Rd.slice rdS_quireref02_coin) false x7562)).upd 7 (.ro (Rd.slice rdS_quireref02_coin) false x7705)).upd 11 (.lit (.int .i64 b.1))).upd 12 (.lit (.int .i64 x7842))).upd 13 (.lit (.int .i64 b.2)))) (fun b => Mem.nil) k (x7841, 0) H7939 rfl rfl ?_
       rintro n ⟨x7919, x7920⟩ H
       obtain _ | n := n
       · exact nf rfl H
       rw [g_quireref02_Least_l4.eq_2] at H
       show WP _ _ _ _ ((((((Env.none.upd 0 (.ro (Rd.slice (Rd.int .i64)) false x6338)).upd 5 (.ro (Rd.slice rdS_quireref02_coin) false x7562)).upd 7 (.ro (Rd.slice rdS_quireref02_coin) false x7705)).upd 11 (.lit (.int .i64 x7919))).upd 12 (.lit (.int .i64 x7842))).upd 13 (.lit (.int .i64 x7920))) Mem.nil _
       refine WP.seq ?_
       refine WP.seq ?_
       refine WP.region ?_
       refine WPL.q (q_mv (v := .lit (.int _ _)) rfl) rfl ?_
       refine WPL.q (q_mv (v := .ro _ _ _) rfl) rfl ?_
       refine WPL.q (q_mv (v := .lit (.int _ _)) rfl) rfl ?_
       obtain ⟨x7934, h7934, H⟩ := bnd H
       refine WPL.q (q_index_ro sl46 rfl rfl rfl h7934) rfl ?_
       refine WPL.q (q_fieldAddr_ro fi48_1 rfl rfl S_quireref02_coin.p1 (Nat.le_of_ble_eq_true rfl)) rfl ?_
       refine WPL.q (q_load_ro sc22 rfl rfl) rfl ?_
       refine WPL.q (q_len_ro sl22 rfl) rfl ?_
       obtain ⟨x7935, h7935, H⟩ := bnd H
       refine WPL.q (q_nm (q_lss rfl rfl) (nm_bool h7935)) rfl ?_
       refine WPL.nilW ?_
       refine W.now ?_
       refine Then.n ?_
       refine WP.cond (t := x7935) rfl (fun hb7935 => ?_) (fun hb7935 => ?_)
       · replace H := cnt hb7935 H
         refine WP.skipW ?_
         refine W.now ?_
         refine Then.n ?_
         refine WP.seq ?_
         refine WP.block ?_
         refine WP.region ?_
         refine WPL.q (q_mv (v := .lit (.int _ _)) rfl) rfl ?_
         refine WPL.q (q_mv (v := .ro _ _ _) rfl) rfl ?_
         refine WPL.q (q_mv (v := .ro _ _ _) rfl) rfl ?_
         refine WPL.q (q_mv (v := .lit (.int _ _)) rfl) rfl ?_
         obtain ⟨x7937, h7937, H⟩ := bnd H
         refine WPL.q (q_index_ro sl46 rfl rfl rfl h7937) rfl ?_
         refine WPL.q (q_fieldAddr_ro fi48_1 rfl rfl S_quireref02_coin.p1 (Nat.le_of_ble_eq_true rfl)) rfl ?_
         refine WPL.q (q_load_ro sc22 rfl rfl) rfl ?_
         refine WPL.q (q_mv (v := .lit (.int _ _)) rfl) rfl ?_
         obtain ⟨x7938, h7938, H⟩ := bnd H
         refine WPL.q (q_index_ro sl22 rfl rfl rfl h7938) rfl ?_
         refine WPL.q (q_load_sc sc3 rfl) rfl ?_
         obtain ⟨x7939, h7939, H⟩ := bnd H
         refine WPL.q (q_index_ro sl22 rfl rfl rfl h7939) rfl ?_
         refine WPL.q (q_load_sc sc3 rfl) rfl ?_
         refine WPL.q (q_add rfl rfl) rfl ?_
         refine WPL.q (q_as (v := .lit (.int _ _)) rfl) rfl ?_
         refine WPL.nilW ?_
         refine W.now ?_
         refine InBlock.n ?_
         refine Then.n ?_
         refine WP.region ?_
         refine WPL.q (q_mv (v := .lit (.int _ _)) rfl) rfl ?_
         refine WPL.q (q_add rfl rfl) rfl ?_
         refine WPL.q (q_as (v := .lit (.int _ _)) rfl) rfl ?_
         refine WPL.nilW ?_
         exact W.wk [] hnp (Then.n ⟨n, ((IntKind.wrap .i64 (x7919 + x7939)), (IntKind.wrap .i64 (x7920 + 1))), Nat.lt_succ_self n, H, rfl, rfl⟩) ⟨rfl, trivial, by decide, rfl, trivial⟩ (LeE.upd rfl rfl (LeE.upd rfl rfl (LeE.upd rfl rfl (LeE.upd rfl rfl (LeE.upd rfl rfl (LeE.upd rfl rfl (LeE.none rfl rfl))))))) rfl
       replace H := cnf hb7935 H
       refine WP.exitW ?_
       have q0 := (Option.some.inj H)
       subst q0
       exact W.wk [] hnp (Then.x (Then.x ⟨rfl, rfl, rfl⟩)) ⟨rfl, trivial, by decide, rfl, trivial⟩ (LeE.upd rfl rfl (LeE.upd rfl rfl (LeE.upd rfl rfl (LeE.upd rfl rfl (LeE.upd rfl rfl (LeE.none rfl rfl)))))) rfl
     rintro _ _ _ ⟨rfl, rfl, rfl⟩
     refine W.now ?_
     refine InBlock.x0 ?_
     refine InBlock.n ?_
     refine Then.n ?_
     refine WP.region ?_
     refine WPL.q (q_mv (v := .lit (.int _ _)) rfl) rfl ?_
     refine WPL.q (q_add rfl rfl) rfl ?_
     refine WPL.q (q_as (v := .lit (.int _ _)) rfl) rfl ?_
     refine WPL.nilW ?_
     exact W.wk [] hnp (Then.n ⟨n, (x7930, (IntKind.wrap .i64 (x7842 + 1))), Nat.lt_succ_self n, H, rfl, rfl⟩) ⟨rfl, trivial, by decide, rfl, trivial⟩ (LeE.upd rfl rfl (LeE.upd rfl rfl (LeE.upd rfl rfl (LeE.upd rfl rfl (LeE.upd rfl rfl (LeE.none rfl rfl)))))) rfl
   replace H := cnf hb7908 H
   refine WP.exitW ?_
   have q0 := (Option.some.inj H)
   subst q0
   exact W.wk [] hnp (Then.x (Then.x ⟨rfl, rfl, rfl⟩)) ⟨rfl, trivial, by decide, rfl, trivial⟩ (LeE.upd rfl rfl (LeE.none rfl rfl)) rfl
 rintro _ _ _ ⟨rfl, rfl, rfl⟩
 refine W.now ?_
 refine InBlock.x0 ?_
 refine Then.n ?_
 refine WP.seq ?_
 refine WP.region ?_
 refine WPL.q (q_mv (v := .lit (.int _ _)) rfl) rfl ?_
 refine WPL.q (q_as (v := .lit (.int _ _)) rfl) rfl ?_
 refine WPL.nilW ?_
 refine W.now ?_
 refine Then.n ?_
 refine WP.retW ?_
 have q0 := (Option.some.inj H)
 subst q0
 exact W.now (BodyR.mkR trivial rfl [] ⟨rfl, rfl⟩ ⟨rfl, trivial, by decide, rfl, trivial⟩ rfl rfl)
end Go.Proofs.Ytjahhkhpchiojaa.W
