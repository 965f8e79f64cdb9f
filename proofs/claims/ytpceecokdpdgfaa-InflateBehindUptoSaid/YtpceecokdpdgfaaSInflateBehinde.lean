/- Texts joined: part 5 of what LInflateBehind stands on. -/
import Derived.Test.YtpceecokdpdgfaaSInflateBehindd
namespace Go.Proofs.Ytpceecokdpdgfaa.W
open Go Go.Q Go.Proofs
set_option linter.unusedVariables false
set_option linter.unusedSimpArgs false
set_option maxRecDepth 100000 in
set_option maxHeartbeats 4000000 in
theorem s_inflate_stream_all (k : Nat) (x707 : Int) (x708 : (List Int)) (x709 : Int) (x710 : (List Int)) (r : (Int ⊕ ((List Int) × Int × (List Int)))) (H : g_inflate_stream_all k x707 x708 x709 x710 = some r) : Go.Q.Spec Try.prog 23 2 [.ptr 0 0] (((Mem.nil.push (.cells 45 [.ptr 1 0, .whole 2, .lit (.int .i64 x707)])).push (.cells 52 [.ro (Rd.slice (Rd.int .u8)) false x708, .lit (.int .i64 x709)])).push (.row 5 (Rd.int .u8) x710)) (fun o M => match (generalizing := false) r with | (Sum.inl x4243) => o = .pan (.ifc 46 (.lit (.int .i64 x4243))) ∧ M = ((Mem.nil.push (.gone)).push (.gone)) | (Sum.inr (x4244, x4245, x4246)) => o = .ret (.tup []) ∧ M = (((Mem.nil.push (.cells 45 [.ptr 1 0, .whole 2, .lit (.int .i64 x707)])).push (.cells 52 [.ro (Rd.slice (Rd.int .u8)) false x4244, .lit (.int .i64 x4245)])).push (.row 5 (Rd.int .u8) x4246))) := by
 unfold g_inflate_stream_all at H
 refine Go.Q.Spec.of_bodyR (az := []) (rs := []) (nt := 26) Try.func23 rfl rfl (by intro t T h; simp at h) rfl rfl fun cx hnp => ?_
 refine WP.seq ?_
 refine WP.region ?_
 refine WPL.q (q_as (v := .lit (.int _ _)) rfl) rfl ?_
 refine WPL.nilW ?_
 refine W.now ?_
 refine Then.n ?_
 refine WP.block ?_
 refine WP.cv (Cv.weak (E' := ((Env.none.upd 0 (.ptr 0 0)).upd 2 (.lit (.int .i64 0)))) (M' := (((Mem.nil.push (.cells 45 [.ptr 1 0, .whole 2, .lit (.int .i64 x707)])).push (.cells 52 [.ro (Rd.slice (Rd.int .u8)) false x708, .lit (.int .i64 x709)])).push (.row 5 (Rd.int .u8) x710))) [0, 1, 2] hnp ⟨rfl, ⟨⟨⟨trivial, .inr ⟨rfl, rfl, rfl⟩⟩, .inr ⟨rfl, rfl, rfl⟩⟩, .inr ⟨rfl, rfl, rfl⟩⟩, by decide, rfl, ⟨⟨trivial, rfl⟩, rfl⟩⟩ (LeE.upd rfl rfl (LeE.upd rfl rfl (LeE.none rfl rfl)))) ?_
 obtain ⟨y4411, H4409, H⟩ := bnd H
 refine WP.monoW (Q := fun x E M => match (generalizing := false) y4411 with | (Sum.inl x4351) => x = .panic (.ifc 46 (.lit (.int .i64 x4351))) ∧ E = Env.none ∧ M = ((Mem.nil.push (.gone)).push (.gone)) | (Sum.inr (Sum.inl (x4352, x4353, x4354, x4355))) => x = .panic (.ifc 46 (.lit (.int .i64 x4352))) ∧ E = Env.none ∧ M = (((Mem.nil.push (.cells 45 [.ptr 1 0, .whole 2, .lit (.int .i64 x707)])).push (.cells 52 [.ro (Rd.slice (Rd.int .u8)) false x4353, .lit (.int .i64 x4354)])).push (.row 5 (Rd.int .u8) x4355)) | (Sum.inr (Sum.inr (x4356, x4357, x4358))) => x = .exit 0 ∧ E = Env.none ∧ M = (((Mem.nil.push (.cells 45 [.ptr 1 0, .whole 2, .lit (.int .i64 x707)])).push (.cells 52 [.ro (Rd.slice (Rd.int .u8)) false x4356, .lit (.int .i64 x4357)])).push (.row 5 (Rd.int .u8) x4358))) ?_ ?_
 · refine WP.loop (β := Int × (List Int) × Int × (List Int)) (fun n b => g_inflate_stream_all_l0 k x707 n b.1 b.2.1 b.2.2.1 b.2.2.2 = some y4411) (fun b => ((Env.none.upd 0 (.ptr 0 0)).upd 2 (.lit (.int .i64 b.1)))) (fun b => (((Mem.nil.push (.cells 45 [.ptr 1 0, .whole 2, .lit (.int .i64 x707)])).push (.cells 52 [.ro (Rd.slice (Rd.int .u8)) false b.2.1, .lit (.int .i64 b.2.2.1)])).push (.row 5 (Rd.int .u8) b.2.2.2))) k (0, x708, x709, x710) H4409 rfl rfl ?_
   rintro n ⟨x4296, x4297, x4298, x4299⟩ H
   obtain _ | n := n
   · exact nf rfl H
   rw [g_inflate_stream_all_l0.eq_2] at H
   show WP _ _ _ _ ((Env.none.upd 0 (.ptr 0 0)).upd 2 (.lit (.int .i64 x4296))) (((Mem.nil.push (.cells 45 [.ptr 1 0, .whole 2, .lit (.int .i64 x707)])).push (.cells 52 [.ro (Rd.slice (Rd.int .u8)) false x4297, .lit (.int .i64 x4298)])).push (.row 5 (Rd.int .u8) x4299)) _
   refine WP.seq ?_
   refine WP.seq ?_
   refine WP.region ?_
   refine WPL.q (q_mv (v := .lit (.int _ _)) rfl) rfl ?_
   refine WPL.q (q_eql rfl rfl) rfl ?_
   refine WPL.nilW ?_
   refine W.now ?_
   refine Then.n ?_
   refine WP.cond (t := (decide (x4296 = 0))) rfl (fun hb4359 => ?_) (fun hb4359 => ?_)
   · replace H := cnt hb4359 H
     refine WP.skipW ?_
     refine W.now ?_
     refine Then.n ?_
     refine WP.block ?_
     refine WP.seq ?_
     refine WP.region ?_
     refine WPL.q (q_mv (v := .ptr _ _) rfl) rfl ?_
     obtain ⟨y4366, h4360, H⟩ := bnd H
     rcases y4366 with x4362 | ⟨x4363, x4364, x4365⟩
     · refine WPL.pW (runs_callP (s := [0, 1, 2]) (t := [0, 1]) (N := 3) (bor := []) fn26 rfl (s_inflate_stream_take k 1 x707 x4297 x4298 x4299 (Sum.inl x4362) h4360) ⟨rfl, ⟨⟨⟨trivial, .inr ⟨rfl, rfl, rfl⟩⟩, .inr ⟨rfl, rfl, rfl⟩⟩, .inr ⟨rfl, rfl, rfl⟩⟩, by decide, rfl, trivial⟩ rfl trivial (.ren rfl rfl (.ren rfl rfl .nil)) rfl ⟨⟨trivial, rfl⟩, rfl⟩ rfl) ?_
       have q0 := Option.some.inj H
       subst q0
       exact W.wkP [0, 1] hnp (Then.p (InBlock.p (Then.p ⟨rfl, rfl, rfl⟩))) ⟨rfl, ⟨⟨trivial, .inl rfl⟩, .inl rfl⟩, by decide, rfl, ⟨⟨trivial, rfl⟩, rfl⟩⟩ (LeE.none rfl rfl) rfl rfl
     refine WPL.c (runs_call (s := [0, 1, 2]) (t := [0, 1, 3]) (N := 4) (bor := []) fn26 rfl (s_inflate_stream_take k 1 x707 x4297 x4298 x4299 (Sum.inr (x4363, x4364, x4365)) h4360) ⟨rfl, ⟨⟨⟨trivial, .inr ⟨rfl, rfl, rfl⟩⟩, .inr ⟨rfl, rfl, rfl⟩⟩, .inr ⟨rfl, rfl, rfl⟩⟩, by decide, rfl, trivial⟩ rfl trivial (.ren rfl rfl (.ren rfl rfl .nil)) rfl ⟨⟨⟨trivial, rfl⟩, rfl⟩, rfl⟩ rfl) rfl ?_
     refine WPL.q (q_as (v := .lit (.int _ _)) rfl) rfl ?_
     refine WPL.nilW ?_
     refine W.now ?_
     refine Then.n ?_
     refine WP.seq ?_
     refine WP.region ?_
     refine WPL.q (q_mv (v := .ptr _ _) rfl) rfl ?_
     obtain ⟨y4372, h4366, H⟩ := bnd H
     rcases y4372 with x4368 | ⟨x4369, x4370, x4371⟩
     · refine WPL.pW (runs_callP (s := [0, 1, 3]) (t := [0, 1]) (N := 4) (bor := []) fn26 rfl (s_inflate_stream_take k 2 x707 x4364 x4365 x4299 (Sum.inl x4368) h4366) ⟨rfl, ⟨⟨⟨trivial, .inr ⟨rfl, rfl, rfl⟩⟩, .inr ⟨rfl, rfl, rfl⟩⟩, .inr ⟨rfl, rfl, rfl⟩⟩, by decide, rfl, trivial⟩ rfl trivial (.ren rfl rfl (.ren rfl rfl .nil)) rfl ⟨⟨trivial, rfl⟩, rfl⟩ rfl) ?_
       have q0 := Option.some.inj H
       subst q0
       exact W.wkP [0, 1] hnp (Then.p (InBlock.p (Then.p ⟨rfl, rfl, rfl⟩))) ⟨rfl, ⟨⟨trivial, .inl rfl⟩, .inl rfl⟩, by decide, rfl, ⟨⟨trivial, rfl⟩, rfl⟩⟩ (LeE.none rfl rfl) rfl rfl
     refine WPL.c (runs_call (s := [0, 1, 3]) (t := [0, 1, 4]) (N := 5) (bor := []) fn26 rfl (s_inflate_stream_take k 2 x707 x4364 x4365 x4299 (Sum.inr (x4369, x4370, x4371)) h4366) ⟨rfl, ⟨⟨⟨trivial, .inr ⟨rfl, rfl, rfl⟩⟩, .inr ⟨rfl, rfl, rfl⟩⟩, .inr ⟨rfl, rfl, rfl⟩⟩, by decide, rfl, trivial⟩ rfl trivial (.ren rfl rfl (.ren rfl rfl .nil)) rfl ⟨⟨⟨trivial, rfl⟩, rfl⟩, rfl⟩ rfl) rfl ?_
     refine WPL.nilW ?_
     refine W.now ?_
     refine Then.n ?_
     refine WP.block ?_
     refine WP.seq ?_
     refine WP.region ?_
     refine WPL.q (q_eql rfl rfl) rfl ?_
     refine WPL.q (q_as (v := .lit (.bool _)) rfl) rfl ?_
     refine WPL.nilW ?_
     refine W.now ?_
     refine Then.n ?_
     refine WP.cond (t := (decide (x4369 = 0))) rfl (fun hb4372 => ?_) (fun hb4372 => ?_)
     · replace H := cnt hb4372 H
       refine WP.region ?_
       refine WPL.q (q_mv (v := .ptr _ _) rfl) rfl ?_
       obtain ⟨y4379, h4373, H⟩ := bnd H
       rcases y4379 with x4375 | ⟨x4376, x4377, x4378⟩
       · refine WPL.pW (runs_callP (s := [0, 1, 4]) (t := [0, 1]) (N := 5) (bor := []) fn27 rfl (s_inflate_stream_stored k x707 x4370 x4371 x4299 (Sum.inl x4375) h4373) ⟨rfl, ⟨⟨⟨trivial, .inr ⟨rfl, rfl, rfl⟩⟩, .inr ⟨rfl, rfl, rfl⟩⟩, .inr ⟨rfl, rfl, rfl⟩⟩, by decide, rfl, trivial⟩ rfl trivial (.ren rfl rfl .nil) rfl ⟨⟨trivial, rfl⟩, rfl⟩ rfl) ?_
         have q0 := Option.some.inj H
         subst q0
         exact W.wkP [0, 1] hnp (InBlock.p (InBlock.p (Then.p ⟨rfl, rfl, rfl⟩))) ⟨rfl, ⟨⟨trivial, .inl rfl⟩, .inl rfl⟩, by decide, rfl, ⟨⟨trivial, rfl⟩, rfl⟩⟩ (LeE.none rfl rfl) rfl rfl
       refine WPL.c (runs_call (s := [0, 1, 4]) (t := [0, 1, 5]) (N := 6) (bor := []) fn27 rfl (s_inflate_stream_stored k x707 x4370 x4371 x4299 (Sum.inr (x4376, x4377, x4378)) h4373) ⟨rfl, ⟨⟨⟨trivial, .inr ⟨rfl, rfl, rfl⟩⟩, .inr ⟨rfl, rfl, rfl⟩⟩, .inr ⟨rfl, rfl, rfl⟩⟩, by decide, rfl, trivial⟩ rfl trivial (.ren rfl rfl .nil) rfl ⟨⟨⟨trivial, rfl⟩, rfl⟩, rfl⟩ rfl) rfl ?_
       refine WPL.nilW ?_
       exact W.wk [0, 1, 5] hnp (InBlock.n (InBlock.n (Then.n ⟨n, (x4363, x4376, x4377, x4378), Nat.lt_succ_self n, H, rfl, rfl⟩))) ⟨rfl, ⟨⟨⟨trivial, .inr ⟨rfl, rfl, rfl⟩⟩, .inr ⟨rfl, rfl, rfl⟩⟩, .inr ⟨rfl, rfl, rfl⟩⟩, by decide, rfl, ⟨⟨trivial, rfl⟩, rfl⟩⟩ (LeE.upd rfl rfl (LeE.upd rfl rfl (LeE.none rfl rfl))) rfl
     replace H := cnf hb4372 H
     refine WP.seq ?_
     refine WP.region ?_
     refine WPL.q (q_eql rfl rfl) rfl ?_
     refine WPL.q (q_as (v := .lit (.bool _)) rfl) rfl ?_
     refine WPL.nilW ?_
     refine W.now ?_
     refine Then.n ?_
     refine WP.cond (t := (decide (x4369 = 1))) rfl (fun hb4379 => ?_) (fun hb4379 => ?_)
     · replace H := cnt hb4379 H
       refine WP.region ?_
       refine WPL.q (q_mv (v := .ptr _ _) rfl) rfl ?_
       obtain ⟨x4382, h4380, H⟩ := bnd H
       refine WPL.c (runs_call (s := []) (t := []) (N := 5) (bor := []) fn11 rfl (s_inflate_FixedLit k x4382 h4380) ⟨rfl, trivial, by decide, rfl, trivial⟩ rfl trivial .nil rfl trivial rfl) rfl ?_
       obtain ⟨y4387, h4382, H⟩ := bnd H
       rcases y4387 with x4384 | ⟨x4385, x4386⟩
       · refine WPL.pW (runs_callP (s := []) (t := []) (N := 5) (bor := []) fn29 rfl (s_inflate_code k x4382 (Sum.inl x4384) h4382) ⟨rfl, trivial, by decide, rfl, trivial⟩ rfl trivial (.ren rfl rfl .nil) rfl trivial rfl) ?_
         have q0 := Option.some.inj H
         subst q0
         exact W.wkP [0, 1, 4] hnp (InBlock.p (InBlock.p (Then.p ⟨rfl, rfl, rfl⟩))) ⟨rfl, ⟨⟨⟨trivial, .inr ⟨rfl, rfl, rfl⟩⟩, .inr ⟨rfl, rfl, rfl⟩⟩, .inr ⟨rfl, rfl, rfl⟩⟩, by decide, rfl, ⟨⟨trivial, rfl⟩, rfl⟩⟩ (LeE.none rfl rfl) rfl rfl
       refine WPL.c (runs_call (s := []) (t := [5, 6]) (N := 7) (bor := []) fn29 rfl (s_inflate_code k x4382 (Sum.inr (x4385, x4386)) h4382) ⟨rfl, trivial, by decide, rfl, trivial⟩ rfl trivial (.ren rfl rfl .nil) rfl ⟨⟨trivial, rfl⟩, rfl⟩ rfl) rfl ?_
       obtain ⟨x4389, h4387, H⟩ := bnd H
       refine WPL.c (runs_call (s := []) (t := []) (N := 7) (bor := []) fn13 rfl (s_inflate_FixedDist k x4389 h4387) ⟨rfl, trivial, by decide, rfl, trivial⟩ rfl trivial .nil rfl trivial rfl) rfl ?_
       obtain ⟨y4394, h4389, H⟩ := bnd H
       rcases y4394 with x4391 | ⟨x4392, x4393⟩
       · refine WPL.pW (runs_callP (s := []) (t := []) (N := 7) (bor := []) fn29 rfl (s_inflate_code k x4389 (Sum.inl x4391) h4389) ⟨rfl, trivial, by decide, rfl, trivial⟩ rfl trivial (.ren rfl rfl .nil) rfl trivial rfl) ?_
         have q0 := Option.some.inj H
         subst q0
         exact W.wkP [0, 1, 4] hnp (InBlock.p (InBlock.p (Then.p ⟨rfl, rfl, rfl⟩))) ⟨rfl, ⟨⟨⟨trivial, .inr ⟨rfl, rfl, rfl⟩⟩, .inr ⟨rfl, rfl, rfl⟩⟩, .inr ⟨rfl, rfl, rfl⟩⟩, by decide, rfl, ⟨⟨trivial, rfl⟩, rfl⟩⟩ (LeE.none rfl rfl) rfl rfl
       refine WPL.c (runs_call (s := []) (t := [7, 8]) (N := 9) (bor := []) fn29 rfl (s_inflate_code k x4389 (Sum.inr (x4392, x4393)) h4389) ⟨rfl, trivial, by decide, rfl, trivial⟩ rfl trivial (.ren rfl rfl .nil) rfl ⟨⟨trivial, rfl⟩, rfl⟩ rfl) rfl ?_
       obtain ⟨y4400, h4394, H⟩ := bnd H
       rcases y4400 with x4396 | ⟨x4397, x4398, x4399⟩
       · refine WPL.pW (runs_callP (s := [0, 1, 5, 7, 4, 6, 8]) (t := [0, 1, 5, 7]) (N := 9) (bor := []) fn28 rfl (s_inflate_stream_coded k x707 x4370 x4371 x4385 x4392 x4299 x4386 x4393 (Sum.inl x4396) h4394) ⟨rfl, ⟨⟨⟨⟨⟨⟨⟨trivial, .inr ⟨rfl, rfl, rfl⟩⟩, .inr ⟨rfl, rfl, rfl⟩⟩, .inr ⟨rfl, rfl, rfl⟩⟩, .inr ⟨rfl, rfl, rfl⟩⟩, .inr ⟨rfl, rfl, rfl⟩⟩, .inr ⟨rfl, rfl, rfl⟩⟩, .inr ⟨rfl, rfl, rfl⟩⟩, by decide, rfl, trivial⟩ rfl trivial (.ren rfl rfl (.ren rfl rfl (.ren rfl rfl .nil))) rfl ⟨⟨⟨⟨trivial, rfl⟩, rfl⟩, rfl⟩, rfl⟩ rfl) ?_
         have q0 := Option.some.inj H
         subst q0
         exact W.wkP [0, 1] hnp (InBlock.p (InBlock.p (Then.p ⟨rfl, rfl, rfl⟩))) ⟨rfl, ⟨⟨trivial, .inl rfl⟩, .inl rfl⟩, by decide, rfl, ⟨⟨trivial, rfl⟩, rfl⟩⟩ (LeE.none rfl rfl) rfl rfl
       refine WPL.c (runs_call (s := [0, 1, 5, 7, 4, 6, 8]) (t := [0, 1, 5, 7, 9, 10, 11]) (N := 12) (bor := []) fn28 rfl (s_inflate_stream_coded k x707 x4370 x4371 x4385 x4392 x4299 x4386 x4393 (Sum.inr (x4397, x4398, x4399)) h4394) ⟨rfl, ⟨⟨⟨⟨⟨⟨⟨trivial, .inr ⟨rfl, rfl, rfl⟩⟩, .inr ⟨rfl, rfl, rfl⟩⟩, .inr ⟨rfl, rfl, rfl⟩⟩, .inr ⟨rfl, rfl, rfl⟩⟩, .inr ⟨rfl, rfl, rfl⟩⟩, .inr ⟨rfl, rfl, rfl⟩⟩, .inr ⟨rfl, rfl, rfl⟩⟩, by decide, rfl, trivial⟩ rfl trivial (.ren rfl rfl (.ren rfl rfl (.ren rfl rfl .nil))) rfl ⟨⟨⟨⟨⟨⟨⟨trivial, rfl⟩, rfl⟩, rfl⟩, rfl⟩, rfl⟩, rfl⟩, rfl⟩ rfl) rfl ?_
       refine WPL.nilW ?_
       exact W.wk [0, 1, 9] hnp (InBlock.n (InBlock.n (Then.n ⟨n, (x4363, x4397, x4398, x4399), Nat.lt_succ_self n, H, rfl, rfl⟩))) ⟨rfl, ⟨⟨⟨trivial, .inr ⟨rfl, rfl, rfl⟩⟩, .inr ⟨rfl, rfl, rfl⟩⟩, .inr ⟨rfl, rfl, rfl⟩⟩, by decide, rfl, ⟨⟨trivial, rfl⟩, rfl⟩⟩ (LeE.upd rfl rfl (LeE.upd rfl rfl (LeE.none rfl rfl))) rfl
     replace H := cnf hb4379 H
     refine WP.seq ?_
     refine WP.region ?_
     refine WPL.q (q_eql rfl rfl) rfl ?_
     refine WPL.q (q_as (v := .lit (.bool _)) rfl) rfl ?_
     refine WPL.nilW ?_
     refine W.now ?_
     refine Then.n ?_
     refine WP.cond (t := (decide (x4369 = 2))) rfl (fun hb4400 => ?_) (fun hb4400 => ?_)
     · replace H := cnt hb4400 H
       refine WP.region ?_
       refine WPL.q (q_mv (v := .ptr _ _) rfl) rfl ?_
       obtain ⟨y4407, h4401, H⟩ := bnd H
       rcases y4407 with x4403 | ⟨x4404, x4405, x4406⟩
       · refine WPL.pW (runs_callP (s := [0, 1, 4]) (t := [0, 1]) (N := 5) (bor := []) fn30 rfl (s_inflate_stream_dynamic k x707 x4370 x4371 x4299 (Sum.inl x4403) h4401) ⟨rfl, ⟨⟨⟨trivial, .inr ⟨rfl, rfl, rfl⟩⟩, .inr ⟨rfl, rfl, rfl⟩⟩, .inr ⟨rfl, rfl, rfl⟩⟩, by decide, rfl, trivial⟩ rfl trivial (.ren rfl rfl .nil) rfl ⟨⟨trivial, rfl⟩, rfl⟩ rfl) ?_
         have q0 := Option.some.inj H
         subst q0
         exact W.wkP [0, 1] hnp (InBlock.p (InBlock.p (Then.p ⟨rfl, rfl, rfl⟩))) ⟨rfl, ⟨⟨trivial, .inl rfl⟩, .inl rfl⟩, by decide, rfl, ⟨⟨trivial, rfl⟩, rfl⟩⟩ (LeE.none rfl rfl) rfl rfl
       refine WPL.c (runs_call (s := [0, 1, 4]) (t := [0, 1, 5]) (N := 6) (bor := []) fn30 rfl (s_inflate_stream_dynamic k x707 x4370 x4371 x4299 (Sum.inr (x4404, x4405, x4406)) h4401) ⟨rfl, ⟨⟨⟨trivial, .inr ⟨rfl, rfl, rfl⟩⟩, .inr ⟨rfl, rfl, rfl⟩⟩, .inr ⟨rfl, rfl, rfl⟩⟩, by decide, rfl, trivial⟩ rfl trivial (.ren rfl rfl .nil) rfl ⟨⟨⟨trivial, rfl⟩, rfl⟩, rfl⟩ rfl) rfl ?_
       refine WPL.nilW ?_
       exact W.wk [0, 1, 5] hnp (InBlock.n (InBlock.n (Then.n ⟨n, (x4363, x4404, x4405, x4406), Nat.lt_succ_self n, H, rfl, rfl⟩))) ⟨rfl, ⟨⟨⟨trivial, .inr ⟨rfl, rfl, rfl⟩⟩, .inr ⟨rfl, rfl, rfl⟩⟩, .inr ⟨rfl, rfl, rfl⟩⟩, by decide, rfl, ⟨⟨trivial, rfl⟩, rfl⟩⟩ (LeE.upd rfl rfl (LeE.upd rfl rfl (LeE.none rfl rfl))) rfl
     replace H := cnf hb4400 H
     refine WP.region ?_
     obtain ⟨y4409, h4407, H⟩ := bnd H
     rcases y4409 with _ | _
     · refine WPL.pW (runs_callP (s := []) (t := []) (N := 5) (bor := []) fn31 rfl (s_inflate_must k 12 (Sum.inl ()) h4407) ⟨rfl, trivial, by decide, rfl, trivial⟩ rfl trivial (.ren rfl rfl .nil) rfl trivial rfl) ?_
       have q0 := Option.some.inj H
       subst q0
       exact W.wkP [0, 1, 4] hnp (InBlock.p (InBlock.p (Then.p ⟨rfl, rfl, rfl⟩))) ⟨rfl, ⟨⟨⟨trivial, .inr ⟨rfl, rfl, rfl⟩⟩, .inr ⟨rfl, rfl, rfl⟩⟩, .inr ⟨rfl, rfl, rfl⟩⟩, by decide, rfl, ⟨⟨trivial, rfl⟩, rfl⟩⟩ (LeE.none rfl rfl) rfl rfl
     refine WPL.c (runs_call (s := []) (t := []) (N := 5) (bor := []) fn31 rfl (s_inflate_must k 12 (Sum.inr ()) h4407) ⟨rfl, trivial, by decide, rfl, trivial⟩ rfl trivial (.ren rfl rfl .nil) rfl trivial rfl) rfl ?_
     refine WPL.nilW ?_
     exact W.wk [0, 1, 4] hnp (InBlock.n (InBlock.n (Then.n ⟨n, (x4363, x4370, x4371, x4299), Nat.lt_succ_self n, H, rfl, rfl⟩))) ⟨rfl, ⟨⟨⟨trivial, .inr ⟨rfl, rfl, rfl⟩⟩, .inr ⟨rfl, rfl, rfl⟩⟩, .inr ⟨rfl, rfl, rfl⟩⟩, by decide, rfl, ⟨⟨trivial, rfl⟩, rfl⟩⟩ (LeE.upd rfl rfl (LeE.upd rfl rfl (LeE.none rfl rfl))) rfl
   replace H := cnf hb4359 H
   refine WP.exitW ?_
   have q0 := Option.some.inj H
   subst q0
   exact W.wk [0, 1, 2] hnp (Then.x (Then.x ⟨rfl, rfl, rfl⟩)) ⟨rfl, ⟨⟨⟨trivial, .inr ⟨rfl, rfl, rfl⟩⟩, .inr ⟨rfl, rfl, rfl⟩⟩, .inr ⟨rfl, rfl, rfl⟩⟩, by decide, rfl, ⟨⟨trivial, rfl⟩, rfl⟩⟩ (LeE.none rfl rfl) rfl
 rcases y4411 with x4351 | ⟨x4352, x4353, x4354, x4355⟩ | ⟨x4356, x4357, x4358⟩
 · rintro _ _ _ ⟨rfl, rfl, rfl⟩
   have q0 := Option.some.inj H
   subst q0
   exact W.now (InBlock.p (BodyR.mkP trivial [0, 1] ⟨rfl, rfl⟩ ⟨rfl, ⟨⟨trivial, .inl rfl⟩, .inl rfl⟩, by decide, rfl, ⟨⟨trivial, rfl⟩, rfl⟩⟩ rfl rfl))
 · rintro _ _ _ ⟨rfl, rfl, rfl⟩
   have q0 := Option.some.inj H
   subst q0
   exact W.now (InBlock.p (BodyR.mkP trivial [0, 1] ⟨rfl, rfl⟩ ⟨rfl, ⟨⟨trivial, .inl rfl⟩, .inl rfl⟩, by decide, rfl, ⟨⟨trivial, rfl⟩, rfl⟩⟩ rfl rfl))
 rintro _ _ _ ⟨rfl, rfl, rfl⟩
 have q0 := Option.some.inj H
 subst q0
 exact W.now (InBlock.x0 (BodyR.mkN trivial rfl [0, 1, 2] ⟨rfl, rfl⟩ ⟨rfl, ⟨⟨⟨trivial, .inr ⟨rfl, rfl, rfl⟩⟩, .inr ⟨rfl, rfl, rfl⟩⟩, .inr ⟨rfl, rfl, rfl⟩⟩, by decide, rfl, ⟨⟨trivial, rfl⟩, rfl⟩⟩ rfl rfl))
set_option maxRecDepth 100000 in
set_option maxHeartbeats 4000000 in
theorem s_inflate_Inflate (k : Nat) (x690 : (List Int)) (x691 : Int) (x4426 : (List Int)) (x4427 : Int) (x4428 : Int) (H : g_inflate_Inflate k x690 x691 = some (x4426, x4427, x4428)) : Go.Q.Spec Try.prog 16 0 [.ro (Rd.slice (Rd.int .u8)) true x690, .lit (.int .i64 x691)] Mem.nil (fun o M => o = .ret (.tup [.ro (Rd.slice (Rd.int .u8)) false x4426, .lit (.int .i64 x4427), .lit (.int .i64 x4428)]) ∧ M = (((Mem.nil.push (.cells 29 [.ro (Rd.slice (Rd.int .u8)) false x4426])).push (.cells 3 [.lit (.int .i64 x4427)])).push (.cells 30 [.lit (.int .i64 x4428)]))) := by
 unfold g_inflate_Inflate at H
 refine Go.Q.Spec.of_bodyD (az := []) (rs := [.cell 4 29, .cell 5 3, .cell 6 30]) (nt := 31) (pin := [4, 5, 6]) (nc := 3) (ntc := 18) Try.func16 rfl rfl (by intro t T h; simp at h; rcases h with ⟨rfl, rfl⟩ | ⟨rfl, rfl⟩ | ⟨rfl, rfl⟩ <;> first | exact sc29 | exact sc3 | exact sc30) rfl rfl Try.func22 rfl rfl rfl (by kernel_rfl) rfl fun cx hnp => ?_
 refine WP.seq ?_
 refine WP.region ?_
 refine WPL.d (d_alloc ze29 rfl) rfl ?_
 refine WPL.d (d_alloc ze3 rfl) rfl ?_
 refine WPL.d (d_alloc ze30 rfl) rfl ?_
 refine WPL.nilW ?_
 refine W.now ?_
 refine Then.n ?_
 refine WP.seq ?_
 refine WP.seq ?_
 refine WP.region ?_
 refine WPL.q (q_mv (v := .lit (.int _ _)) rfl) rfl ?_
 refine WPL.q (q_lss rfl rfl) rfl ?_
 refine WPL.nilW ?_
 refine W.now ?_
 refine Then.n ?_
 refine WP.cond (t := (decide (x691 < 0))) rfl (fun hb4429 => ?_) (fun hb4429 => ?_)
 · replace H := cnt hb4429 H
   refine WP.seq ?_
   refine WP.region ?_
   refine WPL.s (s_store sz29 rfl rfl rfl rfl rfl) ?_
   refine WPL.s (s_store sz3 rfl rfl rfl rfl rfl) ?_
   refine WPL.s (s_store sz30 rfl rfl rfl rfl rfl) ?_
   refine WPL.nilW ?_
   refine W.now ?_
   refine Then.n ?_
   refine WP.retW ?_
   refine W.cv (Cv.nilRoC (Rd.int .u8) false (i := 0) (off := 0) rfl rfl rfl) rfl ?_
   have q0 := (Prod.mk.inj (Option.some.inj H)).1
   have q1 := (Prod.mk.inj (Prod.mk.inj (Option.some.inj H)).2).1
   have q2 := (Prod.mk.inj (Prod.mk.inj (Option.some.inj H)).2).2
   subst q0
   subst q1
   subst q2
   exact W.now (Then.r (.inl ⟨rfl, BodyR.mkR trivial rfl [0, 1, 2] ⟨rfl, rfl⟩ ⟨rfl, ⟨⟨⟨trivial, .inr ⟨rfl, rfl, rfl⟩⟩, .inr ⟨rfl, rfl, rfl⟩⟩, .inr ⟨rfl, rfl, rfl⟩⟩, by decide, rfl, trivial⟩ rfl rfl⟩))
 replace H := cnf hb4429 H
 refine WP.skipW ?_
 refine W.now ?_
 refine Then.n ?_
 refine WP.seq ?_
 refine WP.region ?_
 refine WPL.q (q_mv (v := .ro _ _ _) rfl) rfl ?_
 obtain ⟨x4432, h4430, H⟩ := bnd H
 refine WPL.c (runs_call (s := []) (t := [3]) (N := 4) (bor := []) fn21 rfl (s_bits_NewReader k x690 x4432 h4430) ⟨rfl, trivial, by decide, rfl, trivial⟩ rfl trivial (.ren rfl rfl .nil) rfl ⟨trivial, rfl⟩ rfl) rfl ?_
 refine WPL.q (q_mv (v := .lit (.int _ _)) rfl) rfl ?_
 refine WPL.q (q_build bu45 rfl) rfl ?_
 refine WPL.d (d_box rfl rfl) rfl ?_
 refine WPL.cv (Cv.virC 5 (Rd.int .u8) (N := 5) rfl (i := 4) rfl (off := 1) rfl rfl) ?_
 refine WPL.q (q_as (v := .ptr _ _) rfl) rfl ?_
 refine WPL.nilW ?_
 refine W.now ?_
 refine Then.n ?_
 refine WP.seq ?_
 refine WP.region ?_
 refine WPL.q (q_makeFunc) rfl ?_
 refine WPL.dfr rfl rfl rfl fun aD4432 hsaD4432 => ?_
 refine WPL.nilW ?_
 refine W.now ?_
 refine Then.n ?_
 refine WP.seq ?_
 refine WP.region ?_
 refine WPL.q (q_mv (v := .ptr _ _) rfl) rfl ?_
 obtain ⟨y4439, h4433, H⟩ := bnd H
 rcases y4439 with x4435 | ⟨x4436, x4437, x4438⟩
 · refine WPL.pW (runs_callP (s := [4, 3, 5]) (t := [4, 3]) (N := 6) (bor := []) fn23 rfl (s_inflate_stream_all k x691 x4432 0 ([] : List Int) (Sum.inl x4435) h4433) ⟨rfl, ⟨⟨⟨trivial, .inr ⟨rfl, rfl, rfl⟩⟩, .inr ⟨rfl, rfl, rfl⟩⟩, .inr ⟨rfl, rfl, rfl⟩⟩, by decide, rfl, trivial⟩ rfl trivial (.ren rfl rfl .nil) rfl ⟨⟨trivial, rfl⟩, rfl⟩ rfl) ?_
   refine W.now ?_
   refine Then.p ?_
   refine .inr ⟨_, .inl rfl, rfl, _, _, hsaD4432, rfl, rfl, fun aF4439 => ?_⟩
   refine WP.seq ?_
   refine WP.region ?_
   refine WPL.q (q_mv (v := .ifc _ _) rfl) rfl ?_
   refine WPL.q (q_neqIfc Try.underlying20 rfl) rfl ?_
   refine WPL.nilW ?_
   refine W.now ?_
   refine Then.n ?_
   refine WP.condT rfl ?_
   refine WP.seq ?_
   refine WP.region ?_
   refine WPL.q (q_mv (v := .ifc _ _) rfl) rfl ?_
   refine WPL.q (q_assertIs cn46 rfl) rfl ?_
   refine WPL.q (q_mv (v := .tup _) rfl) rfl ?_
   refine WPL.q (q_extract rfl rfl) rfl ?_
   refine WPL.q (q_extract rfl rfl) rfl ?_
   refine WPL.q (q_as (v := .lit (.int _ _)) rfl) rfl ?_
   refine WPL.q (q_as (v := .lit (.bool _)) rfl) rfl ?_
   refine WPL.nilW ?_
   refine W.now ?_
   refine Then.n ?_
   refine WP.seq ?_
   refine WP.seq ?_
   refine WP.region ?_
   refine WPL.q (q_mv (v := .lit (.bool _)) rfl) rfl ?_
   refine WPL.q (q_not rfl) rfl ?_
   refine WPL.nilW ?_
   refine W.now ?_
   refine Then.n ?_
   refine WP.condFB (t := (!true)) rfl rfl ?_
   refine WP.skipW ?_
   refine W.now ?_
   refine Then.n ?_
   refine WP.region ?_
   refine WPL.q (q_mv (v := .lit (.int _ _)) rfl) rfl ?_
   refine WPL.s (s_store sz29 rfl rfl rfl rfl rfl) ?_
   refine WPL.s (s_store sz3 rfl rfl rfl rfl rfl) ?_
   refine WPL.s (s_store sz30 rfl rfl rfl rfl rfl) ?_
   refine WPL.nilW ?_
   refine W.cv (Cv.nilRoC (Rd.int .u8) false (i := 0) (off := 0) rfl rfl rfl) rfl ?_
   refine W.now ?_
   have q0 := (Prod.mk.inj (Option.some.inj H)).1
   have q1 := (Prod.mk.inj (Prod.mk.inj (Option.some.inj H)).2).1
   have q2 := (Prod.mk.inj (Prod.mk.inj (Option.some.inj H)).2).2
   subst q0
   subst q1
   subst q2
   exact ⟨.inl rfl, rfl, _, rfl, BodyR.mkR trivial rfl [0, 1, 2] ⟨rfl, rfl⟩ ⟨rfl, ⟨⟨⟨trivial, .inr ⟨rfl, rfl, rfl⟩⟩, .inr ⟨rfl, rfl, rfl⟩⟩, .inr ⟨rfl, rfl, rfl⟩⟩, by decide, rfl, trivial⟩ rfl rfl⟩
 refine WPL.c (runs_call (s := [4, 3, 5]) (t := [4, 3, 6]) (N := 7) (bor := []) fn23 rfl (s_inflate_stream_all k x691 x4432 0 ([] : List Int) (Sum.inr (x4436, x4437, x4438)) h4433) ⟨rfl, ⟨⟨⟨trivial, .inr ⟨rfl, rfl, rfl⟩⟩, .inr ⟨rfl, rfl, rfl⟩⟩, .inr ⟨rfl, rfl, rfl⟩⟩, by decide, rfl, trivial⟩ rfl trivial (.ren rfl rfl .nil) rfl ⟨⟨⟨trivial, rfl⟩, rfl⟩, rfl⟩ rfl) rfl ?_
 refine WPL.nilW ?_
 refine W.now ?_
 refine Then.n ?_
 refine WP.seq ?_
 refine WP.regionD' 16 [4] [] mixed rfl ?_
 refine WPD.takeT 0 rfl (by kernel_rfl) (q_mv (v := .ptr _ _) rfl) rfl ?_
 refine WPD.takeT 1 rfl (by kernel_rfl) (q_nilCheck rfl) rfl ?_
 refine WPD.takeT 2 rfl (by kernel_rfl) (q_fieldAddr fi45_1 rfl rfl) rfl ?_
 refine WPD.takeT 4 rfl (by kernel_rfl) (q_mv (v := .ro _ _ _) rfl) rfl ?_
 refine WPD.takeT 5 rfl (by kernel_rfl) (q_len_ro sl29 rfl) rfl ?_
 refine WPD.takeT 6 rfl (by kernel_rfl) (q_mv (v := .ptr _ _) rfl) rfl ?_
 refine WPD.takeT 7 rfl (by kernel_rfl) (q_nilCheck rfl) rfl ?_
 refine WPD.takeT 8 rfl (by kernel_rfl) (q_fieldAddr fi45_0 rfl rfl) rfl ?_
 refine WPD.take 3 rfl (by kernel_rfl) (q_load sc29 rfl rfl rfl) rfl rfl ?_
 refine WPD.take 9 rfl (by kernel_rfl) (q_load sc42 rfl rfl rfl) rfl rfl ?_
 obtain ⟨x4445, h4443, H⟩ := bnd H
 refine WPD.eff 10 [4] [] rfl (by kernel_rfl) (runs_call (s := [3]) (t := [3]) (N := 7) (bor := []) fn24 rfl (s_bits_Reader_Left k x4436 x4437 x4445 h4443) ⟨rfl, ⟨trivial, .inr ⟨rfl, rfl, rfl⟩⟩, by decide, rfl, trivial⟩ rfl trivial (.ren rfl rfl .nil) rfl ⟨trivial, rfl⟩ rfl) rfl rfl ?_
 refine WPD.takeT 11 rfl (by kernel_rfl) (q_quo rfl rfl rfl) rfl ?_
 obtain ⟨x4446, h4446, H⟩ := bnd H
 refine WPD.takeT 12 rfl (by kernel_rfl) (q_nm (q_sub rfl rfl) (nm_int h4446)) rfl ?_
 refine WPD.effS 13 [4] [] rfl (by kernel_rfl) (s_store sz29 rfl rfl rfl rfl rfl) rfl ?_
 refine WPD.effS 14 [4] [] rfl (by kernel_rfl) (s_store sz3 rfl rfl rfl rfl rfl) rfl ?_
 refine WPD.effS 15 [4] [] rfl (by kernel_rfl) (s_store sz30 rfl rfl rfl rfl rfl) rfl ?_
 refine WPD.doneW (by kernel_rfl) ?_
 refine W.now ?_
 refine Then.n ?_
 refine WP.retW ?_
 refine W.now ?_
 refine .inr ⟨_, .inr ⟨.inr rfl, rfl⟩, rfl, _, _, hsaD4432, rfl, rfl, fun aF4446 => ?_⟩
 refine WP.seq ?_
 refine WP.region ?_
 refine WPL.q (q_mv (v := .lit _) rfl) rfl ?_
 refine WPL.q (q_neqNilIfc Try.underlying20 rfl) rfl ?_
 refine WPL.nilW ?_
 refine W.now ?_
 refine Then.n ?_
 refine WP.condF rfl ?_
 refine WP.skipW ?_
 refine W.cv (Cv.frzRow (i := 6) rfl rfl hnp rfl rfl) rfl ?_
 refine W.now ?_
 have q0 := (Prod.mk.inj (Option.some.inj H)).1
 have q1 := (Prod.mk.inj (Prod.mk.inj (Option.some.inj H)).2).1
 have q2 := (Prod.mk.inj (Prod.mk.inj (Option.some.inj H)).2).2
 subst q0
 subst q1
 subst q2
 exact ⟨.inl rfl, rfl, _, rfl, BodyR.mkR trivial rfl [0, 1, 2] ⟨rfl, rfl⟩ ⟨rfl, ⟨⟨⟨trivial, .inr ⟨rfl, rfl, rfl⟩⟩, .inr ⟨rfl, rfl, rfl⟩⟩, .inr ⟨rfl, rfl, rfl⟩⟩, by decide, rfl, trivial⟩ rfl rfl⟩
set_option maxRecDepth 100000 in
set_option maxHeartbeats 4000000 in
theorem s_bits_NewReader__b (k : Nat) (x4465 : (List Int)) (x4469 : (List Int)) (H : g_bits_NewReader__b k x4465 = some x4469) : Go.Q.Spec Try.prog 21 0 [.ro (Rd.slice (Rd.int .u8)) false x4465] Mem.nil (fun o M => o = .ret (.ptr 0 0) ∧ M = (Mem.nil.push (.cells 52 [.ro (Rd.slice (Rd.int .u8)) false x4469, .lit (.int .i64 0)]))) := by
 unfold g_bits_NewReader__b at H
 refine Go.Q.Spec.of_bodyR (az := []) (rs := [.tmp 2]) (nt := 7) Try.func21 rfl rfl (by intro t T h; simp at h) rfl rfl fun cx hnp => ?_
 refine WP.seq ?_
 refine WP.region ?_
 refine WPL.q (q_as (v := .lit _) rfl) rfl ?_
 refine WPL.nilW ?_
 refine W.now ?_
 refine Then.n ?_
 refine WP.seq ?_
 refine WP.region ?_
 refine WPL.q (q_mv (v := .ro _ _ _) rfl) rfl ?_
 obtain ⟨x4471, h4469, H⟩ := bnd H
 refine WPL.c (runs_call (s := []) (t := []) (N := 0) (bor := []) fn25 rfl (s_slices_Clone_byte_byte__b k x4465 x4471 h4469) ⟨rfl, trivial, by decide, rfl, trivial⟩ rfl trivial (.ren rfl rfl .nil) rfl trivial rfl) rfl ?_
 refine WPL.q (q_build bu52 rfl) rfl ?_
 refine WPL.d (d_box rfl rfl) rfl ?_
 refine WPL.q (q_as (v := .ptr _ _) rfl) rfl ?_
 refine WPL.nilW ?_
 refine W.now ?_
 refine Then.n ?_
 refine WP.retW ?_
 have q0 := (Option.some.inj H)
 subst q0
 exact W.now (BodyR.mkR trivial rfl [0] ⟨rfl, rfl⟩ ⟨rfl, ⟨trivial, .inr ⟨rfl, rfl, rfl⟩⟩, by decide, rfl, trivial⟩ rfl rfl)
set_option maxRecDepth 100000 in
set_option maxHeartbeats 4000000 in
theorem s_inflate_Inflate__b (k : Nat) (x4460 : (List Int)) (x4461 : Int) (x4489 : (List Int)) (x4490 : Int) (x4491 : Int) (H : g_inflate_Inflate__b k x4460 x4461 = some (x4489, x4490, x4491)) : Go.Q.Spec Try.prog 16 0 [.ro (Rd.slice (Rd.int .u8)) false x4460, .lit (.int .i64 x4461)] Mem.nil (fun o M => o = .ret (.tup [.ro (Rd.slice (Rd.int .u8)) false x4489, .lit (.int .i64 x4490), .lit (.int .i64 x4491)]) ∧ M = (((Mem.nil.push (.cells 29 [.ro (Rd.slice (Rd.int .u8)) false x4489])).push (.cells 3 [.lit (.int .i64 x4490)])).push (.cells 30 [.lit (.int .i64 x4491)]))) := by
 unfold g_inflate_Inflate__b at H
 refine Go.Q.Spec.of_bodyD (az := []) (rs := [.cell 4 29, .cell 5 3, .cell 6 30]) (nt := 31) (pin := [4, 5, 6]) (nc := 3) (ntc := 18) Try.func16 rfl rfl (by intro t T h; simp at h; rcases h with ⟨rfl, rfl⟩ | ⟨rfl, rfl⟩ | ⟨rfl, rfl⟩ <;> first | exact sc29 | exact sc3 | exact sc30) rfl rfl Try.func22 rfl rfl rfl (by kernel_rfl) rfl fun cx hnp => ?_
 refine WP.seq ?_
 refine WP.region ?_
 refine WPL.d (d_alloc ze29 rfl) rfl ?_
 refine WPL.d (d_alloc ze3 rfl) rfl ?_
 refine WPL.d (d_alloc ze30 rfl) rfl ?_
 refine WPL.nilW ?_
 refine W.now ?_
 refine Then.n ?_
 refine WP.seq ?_
 refine WP.seq ?_
 refine WP.region ?_
 refine WPL.q (q_mv (v := .lit (.int _ _)) rfl) rfl ?_
 refine WPL.q (q_lss rfl rfl) rfl ?_
 refine WPL.nilW ?_
 refine W.now ?_
 refine Then.n ?_
 refine WP.cond (t := (decide (x4461 < 0))) rfl (fun hb4492 => ?_) (fun hb4492 => ?_)
 · replace H := cnt hb4492 H
   refine WP.seq ?_
   refine WP.region ?_
   refine WPL.s (s_store sz29 rfl rfl rfl rfl rfl) ?_
   refine WPL.s (s_store sz3 rfl rfl rfl rfl rfl) ?_
   refine WPL.s (s_store sz30 rfl rfl rfl rfl rfl) ?_
   refine WPL.nilW ?_
   refine W.now ?_
   refine Then.n ?_
   refine WP.retW ?_
   refine W.cv (Cv.nilRoC (Rd.int .u8) false (i := 0) (off := 0) rfl rfl rfl) rfl ?_
   have q0 := (Prod.mk.inj (Option.some.inj H)).1
   have q1 := (Prod.mk.inj (Prod.mk.inj (Option.some.inj H)).2).1
   have q2 := (Prod.mk.inj (Prod.mk.inj (Option.some.inj H)).2).2
   subst q0
   subst q1
   subst q2
   exact W.now (Then.r (.inl ⟨rfl, BodyR.mkR trivial rfl [0, 1, 2] ⟨rfl, rfl⟩ ⟨rfl, ⟨⟨⟨trivial, .inr ⟨rfl, rfl, rfl⟩⟩, .inr ⟨rfl, rfl, rfl⟩⟩, .inr ⟨rfl, rfl, rfl⟩⟩, by decide, rfl, trivial⟩ rfl rfl⟩))
 replace H := cnf hb4492 H
 refine WP.skipW ?_
 refine W.now ?_
 refine Then.n ?_
 refine WP.seq ?_
 refine WP.region ?_
 refine WPL.q (q_mv (v := .ro _ _ _) rfl) rfl ?_
 obtain ⟨x4495, h4493, H⟩ := bnd H
 refine WPL.c (runs_call (s := []) (t := [3]) (N := 4) (bor := []) fn21 rfl (s_bits_NewReader__b k x4460 x4495 h4493) ⟨rfl, trivial, by decide, rfl, trivial⟩ rfl trivial (.ren rfl rfl .nil) rfl ⟨trivial, rfl⟩ rfl) rfl ?_
 refine WPL.q (q_mv (v := .lit (.int _ _)) rfl) rfl ?_
 refine WPL.q (q_build bu45 rfl) rfl ?_
 refine WPL.d (d_box rfl rfl) rfl ?_
 refine WPL.cv (Cv.virC 5 (Rd.int .u8) (N := 5) rfl (i := 4) rfl (off := 1) rfl rfl) ?_
 refine WPL.q (q_as (v := .ptr _ _) rfl) rfl ?_
 refine WPL.nilW ?_
 refine W.now ?_
 refine Then.n ?_
 refine WP.seq ?_
 refine WP.region ?_
 refine WPL.q (q_makeFunc) rfl ?_
 refine WPL.dfr rfl rfl rfl fun aD4495 hsaD4495 => ?_
 refine WPL.nilW ?_
 refine W.now ?_
 refine Then.n ?_
 refine WP.seq ?_
 refine WP.region ?_
 refine WPL.q (q_mv (v := .ptr _ _) rfl) rfl ?_
 obtain ⟨y4502, h4496, H⟩ := bnd H
 rcases y4502 with x4498 | ⟨x4499, x4500, x4501⟩
 · refine WPL.pW (runs_callP (s := [4, 3, 5]) (t := [4, 3]) (N := 6) (bor := []) fn23 rfl (s_inflate_stream_all k x4461 x4495 0 ([] : List Int) (Sum.inl x4498) h4496) ⟨rfl, ⟨⟨⟨trivial, .inr ⟨rfl, rfl, rfl⟩⟩, .inr ⟨rfl, rfl, rfl⟩⟩, .inr ⟨rfl, rfl, rfl⟩⟩, by decide, rfl, trivial⟩ rfl trivial (.ren rfl rfl .nil) rfl ⟨⟨trivial, rfl⟩, rfl⟩ rfl) ?_
   refine W.now ?_
   refine Then.p ?_
   refine .inr ⟨_, .inl rfl, rfl, _, _, hsaD4495, rfl, rfl, fun aF4502 => ?_⟩
   refine WP.seq ?_
   refine WP.region ?_
   refine WPL.q (q_mv (v := .ifc _ _) rfl) rfl ?_
   refine WPL.q (q_neqIfc Try.underlying20 rfl) rfl ?_
   refine WPL.nilW ?_
   refine W.now ?_
   refine Then.n ?_
   refine WP.condT rfl ?_
   refine WP.seq ?_
   refine WP.region ?_
   refine WPL.q (q_mv (v := .ifc _ _) rfl) rfl ?_
   refine WPL.q (q_assertIs cn46 rfl) rfl ?_
   refine WPL.q (q_mv (v := .tup _) rfl) rfl ?_
   refine WPL.q (q_extract rfl rfl) rfl ?_
   refine WPL.q (q_extract rfl rfl) rfl ?_
   refine WPL.q (q_as (v := .lit (.int _ _)) rfl) rfl ?_
   refine WPL.q (q_as (v := .lit (.bool _)) rfl) rfl ?_
   refine WPL.nilW ?_
   refine W.now ?_
   refine Then.n ?_
   refine WP.seq ?_
   refine WP.seq ?_
   refine WP.region ?_
   refine WPL.q (q_mv (v := .lit (.bool _)) rfl) rfl ?_
   refine WPL.q (q_not rfl) rfl ?_
   refine WPL.nilW ?_
   refine W.now ?_
   refine Then.n ?_
   refine WP.condFB (t := (!true)) rfl rfl ?_
   refine WP.skipW ?_
   refine W.now ?_
   refine Then.n ?_
   refine WP.region ?_
   refine WPL.q (q_mv (v := .lit (.int _ _)) rfl) rfl ?_
   refine WPL.s (s_store sz29 rfl rfl rfl rfl rfl) ?_
   refine WPL.s (s_store sz3 rfl rfl rfl rfl rfl) ?_
   refine WPL.s (s_store sz30 rfl rfl rfl rfl rfl) ?_
   refine WPL.nilW ?_
   refine W.cv (Cv.nilRoC (Rd.int .u8) false (i := 0) (off := 0) rfl rfl rfl) rfl ?_
   refine W.now ?_
   have q0 := (Prod.mk.inj (Option.some.inj H)).1
   have q1 := (Prod.mk.inj (Prod.mk.inj (Option.some.inj H)).2).1
   have q2 := (Prod.mk.inj (Prod.mk.inj (Option.some.inj H)).2).2
   subst q0
   subst q1
   subst q2
   exact ⟨.inl rfl, rfl, _, rfl, BodyR.mkR trivial rfl [0, 1, 2] ⟨rfl, rfl⟩ ⟨rfl, ⟨⟨⟨trivial, .inr ⟨rfl, rfl, rfl⟩⟩, .inr ⟨rfl, rfl, rfl⟩⟩, .inr ⟨rfl, rfl, rfl⟩⟩, by decide, rfl, trivial⟩ rfl rfl⟩
 refine WPL.c (runs_call (s := [4, 3, 5]) (t := [4, 3, 6]) (N := 7) (bor := []) fn23 rfl (s_inflate_stream_all k x4461 x4495 0 ([] : List Int) (Sum.inr (x4499, x4500, x4501)) h4496) ⟨rfl, ⟨⟨⟨trivial, .inr ⟨rfl, rfl, rfl⟩⟩, .inr ⟨rfl, rfl, rfl⟩⟩, .inr ⟨rfl, rfl, rfl⟩⟩, by decide, rfl, trivial⟩ rfl trivial (.ren rfl rfl .nil) rfl ⟨⟨⟨trivial, rfl⟩, rfl⟩, rfl⟩ rfl) rfl ?_
 refine WPL.nilW ?_
 refine W.now ?_
 refine Then.n ?_
 refine WP.seq ?_
 refine WP.regionD' 16 [4] [] mixed rfl ?_
 refine WPD.takeT 0 rfl (by kernel_rfl) (q_mv (v := .ptr _ _) rfl) rfl ?_
 refine WPD.takeT 1 rfl (by kernel_rfl) (q_nilCheck rfl) rfl ?_
 refine WPD.takeT 2 rfl (by kernel_rfl) (q_fieldAddr fi45_1 rfl rfl) rfl ?_
 refine WPD.takeT 4 rfl (by kernel_rfl) (q_mv (v := .ro _ _ _) rfl) rfl ?_
 refine WPD.takeT 5 rfl (by kernel_rfl) (q_len_ro sl29 rfl) rfl ?_
 refine WPD.takeT 6 rfl (by kernel_rfl) (q_mv (v := .ptr _ _) rfl) rfl ?_
 refine WPD.takeT 7 rfl (by kernel_rfl) (q_nilCheck rfl) rfl ?_
 refine WPD.takeT 8 rfl (by kernel_rfl) (q_fieldAddr fi45_0 rfl rfl) rfl ?_
 refine WPD.take 3 rfl (by kernel_rfl) (q_load sc29 rfl rfl rfl) rfl rfl ?_
 refine WPD.take 9 rfl (by kernel_rfl) (q_load sc42 rfl rfl rfl) rfl rfl ?_
 obtain ⟨x4508, h4506, H⟩ := bnd H
 refine WPD.eff 10 [4] [] rfl (by kernel_rfl) (runs_call (s := [3]) (t := [3]) (N := 7) (bor := []) fn24 rfl (s_bits_Reader_Left k x4499 x4500 x4508 h4506) ⟨rfl, ⟨trivial, .inr ⟨rfl, rfl, rfl⟩⟩, by decide, rfl, trivial⟩ rfl trivial (.ren rfl rfl .nil) rfl ⟨trivial, rfl⟩ rfl) rfl rfl ?_
 refine WPD.takeT 11 rfl (by kernel_rfl) (q_quo rfl rfl rfl) rfl ?_
 obtain ⟨x4509, h4509, H⟩ := bnd H
 refine WPD.takeT 12 rfl (by kernel_rfl) (q_nm (q_sub rfl rfl) (nm_int h4509)) rfl ?_
 refine WPD.effS 13 [4] [] rfl (by kernel_rfl) (s_store sz29 rfl rfl rfl rfl rfl) rfl ?_
 refine WPD.effS 14 [4] [] rfl (by kernel_rfl) (s_store sz3 rfl rfl rfl rfl rfl) rfl ?_
 refine WPD.effS 15 [4] [] rfl (by kernel_rfl) (s_store sz30 rfl rfl rfl rfl rfl) rfl ?_
 refine WPD.doneW (by kernel_rfl) ?_
 refine W.now ?_
 refine Then.n ?_
 refine WP.retW ?_
 refine W.now ?_
 refine .inr ⟨_, .inr ⟨.inr rfl, rfl⟩, rfl, _, _, hsaD4495, rfl, rfl, fun aF4509 => ?_⟩
 refine WP.seq ?_
 refine WP.region ?_
 refine WPL.q (q_mv (v := .lit _) rfl) rfl ?_
 refine WPL.q (q_neqNilIfc Try.underlying20 rfl) rfl ?_
 refine WPL.nilW ?_
 refine W.now ?_
 refine Then.n ?_
 refine WP.condF rfl ?_
 refine WP.skipW ?_
 refine W.cv (Cv.frzRow (i := 6) rfl rfl hnp rfl rfl) rfl ?_
 refine W.now ?_
 have q0 := (Prod.mk.inj (Option.some.inj H)).1
 have q1 := (Prod.mk.inj (Prod.mk.inj (Option.some.inj H)).2).1
 have q2 := (Prod.mk.inj (Prod.mk.inj (Option.some.inj H)).2).2
 subst q0
 subst q1
 subst q2
 exact ⟨.inl rfl, rfl, _, rfl, BodyR.mkR trivial rfl [0, 1, 2] ⟨rfl, rfl⟩ ⟨rfl, ⟨⟨⟨trivial, .inr ⟨rfl, rfl, rfl⟩⟩, .inr ⟨rfl, rfl, rfl⟩⟩, .inr ⟨rfl, rfl, rfl⟩⟩, by decide, rfl, trivial⟩ rfl rfl⟩
set_option maxRecDepth 100000 in
set_option maxHeartbeats 4000000 in
theorem s_quirelaw03_alive (k : Nat) (x4535 : Bool) (H : g_quirelaw03_alive k = some x4535) : Go.Q.Spec Try.prog 15 0 [] Mem.nil (fun o M => o = .ret (.lit (.bool x4535)) ∧ M = Mem.nil) := by
 unfold g_quirelaw03_alive at H
 refine Go.Q.Spec.of_bodyR (az := []) (rs := [.tmp 0]) (nt := 68) Try.func15 rfl rfl (by intro t T h; simp at h) rfl rfl fun cx hnp => ?_
 refine WP.seq ?_
 refine WP.region ?_
 refine WPL.q (q_as (v := .lit (.bool _)) rfl) rfl ?_
 refine WPL.nilW ?_
 refine W.now ?_
 refine Then.n ?_
 refine WP.seq ?_
 refine WP.region ?_
 refine WPL.d (d_buildSlice (ds := ([75, 4, 0] : List Int)) (R := (Rd.int .u8)) li29 rfl rfl rfl rfl rfl (JoinRows.cons1 Joins.sc rfl (JoinRows.cons1 Joins.sc rfl (JoinRows.cons1 Joins.sc rfl JoinRows.nil))) rfl rfl) rfl ?_
 obtain ⟨⟨x4537, x4538, x4539⟩, h4535, H⟩ := bnd H
 refine WPL.c (runs_call (s := []) (t := [1, 2, 3]) (N := 4) (bor := [0]) fn16 rfl (s_inflate_Inflate k ([75, 4, 0] : List Int) 9 x4537 x4538 x4539 h4535) ⟨rfl, trivial, by decide, rfl, trivial⟩ rfl ⟨trivial, rfl, rfl, trivial⟩ (.row rfl rfl (.ren rfl rfl .nil)) rfl ⟨⟨⟨trivial, rfl⟩, rfl⟩, rfl⟩ rfl) rfl ?_
 refine WPL.q (q_mv (v := .tup _) rfl) rfl ?_
 refine WPL.q (q_extract rfl rfl) rfl ?_
 refine WPL.q (q_extract rfl rfl) rfl ?_
 refine WPL.q (q_extract rfl rfl) rfl ?_
 refine WPL.q (q_as (v := .ro _ _ _) rfl) rfl ?_
 refine WPL.q (q_as (v := .lit (.int _ _)) rfl) rfl ?_
 refine WPL.q (q_as (v := .lit (.int _ _)) rfl) rfl ?_
 refine WPL.nilW ?_
 refine W.now ?_
 refine Then.n ?_
 refine WP.seq ?_
 refine WP.region ?_
 refine WPL.d (d_buildSlice (ds := ([1, 1, 0, 254, 255, 97] : List Int)) (R := (Rd.int .u8)) li29 rfl rfl rfl rfl rfl (JoinRows.cons1 Joins.sc rfl (JoinRows.cons1 Joins.sc rfl (JoinRows.cons1 Joins.sc rfl (JoinRows.cons1 Joins.sc rfl (JoinRows.cons1 Joins.sc rfl (JoinRows.cons1 Joins.sc rfl JoinRows.nil)))))) rfl rfl) rfl ?_
 obtain ⟨⟨x4541, x4542, x4543⟩, h4539, H⟩ := bnd H
 refine WPL.c (runs_call (s := []) (t := [5, 6, 7]) (N := 8) (bor := [4]) fn16 rfl (s_inflate_Inflate k ([1, 1, 0, 254, 255, 97] : List Int) 9 x4541 x4542 x4543 h4539) ⟨rfl, trivial, by decide, rfl, trivial⟩ rfl ⟨trivial, rfl, rfl, trivial⟩ (.row rfl rfl (.ren rfl rfl .nil)) rfl ⟨⟨⟨trivial, rfl⟩, rfl⟩, rfl⟩ rfl) rfl ?_
 refine WPL.q (q_mv (v := .tup _) rfl) rfl ?_
 refine WPL.q (q_extract rfl rfl) rfl ?_
 refine WPL.q (q_extract rfl rfl) rfl ?_
 refine WPL.q (q_extract rfl rfl) rfl ?_
 refine WPL.q (q_as (v := .ro _ _ _) rfl) rfl ?_
 refine WPL.q (q_as (v := .lit (.int _ _)) rfl) rfl ?_
 refine WPL.q (q_as (v := .lit (.int _ _)) rfl) rfl ?_
 refine WPL.nilW ?_
 refine W.now ?_
 refine Then.n ?_
 refine WP.seq ?_
 refine WP.region ?_
 refine WPL.d (d_buildSlice (ds := ([7] : List Int)) (R := (Rd.int .u8)) li29 rfl rfl rfl rfl rfl (JoinRows.cons1 Joins.sc rfl JoinRows.nil) rfl rfl) rfl ?_
 obtain ⟨⟨x4545, x4546, x4547⟩, h4543, H⟩ := bnd H
 refine WPL.c (runs_call (s := []) (t := [9, 10, 11]) (N := 12) (bor := [8]) fn16 rfl (s_inflate_Inflate k ([7] : List Int) 9 x4545 x4546 x4547 h4543) ⟨rfl, trivial, by decide, rfl, trivial⟩ rfl ⟨trivial, rfl, rfl, trivial⟩ (.row rfl rfl (.ren rfl rfl .nil)) rfl ⟨⟨⟨trivial, rfl⟩, rfl⟩, rfl⟩ rfl) rfl ?_
 refine WPL.q (q_mv (v := .tup _) rfl) rfl ?_
 refine WPL.q (q_extract rfl rfl) rfl ?_
 refine WPL.q (q_extract rfl rfl) rfl ?_
 refine WPL.q (q_extract rfl rfl) rfl ?_
 refine WPL.q (q_as (v := .ro _ _ _) rfl) rfl ?_
 refine WPL.q (q_as (v := .lit (.int _ _)) rfl) rfl ?_
 refine WPL.q (q_as (v := .lit (.int _ _)) rfl) rfl ?_
 refine WPL.nilW ?_
 refine W.now ?_
 refine Then.n ?_
 refine WP.seq ?_
 refine WP.region ?_
 obtain ⟨⟨x4549, x4550, x4551⟩, h4547, H⟩ := bnd H
 refine WPL.c (runs_call (s := []) (t := [12, 13, 14]) (N := 15) (bor := []) fn16 rfl (s_inflate_Inflate__b k ([] : List Int) 9 x4549 x4550 x4551 h4547) ⟨rfl, trivial, by decide, rfl, trivial⟩ rfl trivial (.nilSlice (.ren rfl rfl .nil)) rfl ⟨⟨⟨trivial, rfl⟩, rfl⟩, rfl⟩ rfl) rfl ?_
 refine WPL.q (q_mv (v := .tup _) rfl) rfl ?_
 refine WPL.q (q_extract rfl rfl) rfl ?_
 refine WPL.q (q_extract rfl rfl) rfl ?_
 refine WPL.q (q_extract rfl rfl) rfl ?_
 refine WPL.q (q_as (v := .ro _ _ _) rfl) rfl ?_
 refine WPL.q (q_as (v := .lit (.int _ _)) rfl) rfl ?_
 refine WPL.q (q_as (v := .lit (.int _ _)) rfl) rfl ?_
 refine WPL.nilW ?_
 refine W.now ?_
 refine Then.n ?_
 refine WP.seq ?_
 obtain ⟨x4561, H4570, H⟩ := bnd H
 refine WP.monoW (Q := fun x E M => x = .normal ∧ E = (Env.none.upd 0 (.lit (.bool x4561))) ∧ M = Mem.nil) ?_ ?_
 · clear H
   have H := H4570
   clear H4570
   refine WP.region ?_
   refine WPL.q (q_mv (v := .ro _ _ _) rfl) rfl ?_
   refine WPL.q (q_bytes_str Try.underlying29 Try.underlying5 Try.underlying9 rfl) rfl ?_
   obtain ⟨x4562, h4562, H⟩ := bnd H
   refine WPL.q (q_nm (q_eqls rfl rfl) (nm_bool h4562)) rfl ?_
   refine WPL.q (q_mv (v := .lit (.bool _)) rfl) rfl ?_
   refine WPL.split (t := 39) (b := x4562) rfl (fun hb4562 => ?_) (fun hb4562 => ?_)
   · replace H := cnt hb4562 H
     refine WPL.qg rfl rfl (lb hb4562) (q_mv (v := .lit (.int _ _)) rfl) rfl ?_
     refine WPL.qg rfl rfl (lb hb4562) (q_eql rfl rfl) rfl ?_
     refine WPL.q (q_pickT (v := .lit (.bool _)) (lb hb4562) rfl) rfl ?_
     refine WPL.q (q_mv (v := .lit (.bool _)) rfl) rfl ?_
     refine WPL.split (t := 43) (b := (decide (x4538 = 3))) rfl (fun hb4563 => ?_) (fun hb4563 => ?_)
     · replace H := cnt hb4563 H
       refine WPL.qg rfl rfl (lb hb4563) (q_mv (v := .lit (.int _ _)) rfl) rfl ?_
       refine WPL.qg rfl rfl (lb hb4563) (q_eql rfl rfl) rfl ?_
       refine WPL.q (q_pickT (v := .lit (.bool _)) (lb hb4563) rfl) rfl ?_
       refine WPL.q (q_mv (v := .lit (.bool _)) rfl) rfl ?_
       refine WPL.split (t := 47) (b := (decide (x4539 = 0))) rfl (fun hb4564 => ?_) (fun hb4564 => ?_)
       · replace H := cnt hb4564 H
         refine WPL.qg rfl rfl (lb hb4564) (q_mv (v := .ro _ _ _) rfl) rfl ?_
         refine WPL.qg rfl rfl (lb hb4564) (q_bytes_str Try.underlying29 Try.underlying5 Try.underlying9 rfl) rfl ?_
         obtain ⟨x4566, h4566, H⟩ := bnd H
         refine WPL.qg rfl rfl (lb hb4564) (q_nm (q_eqls rfl rfl) (nm_bool h4566)) rfl ?_
         refine WPL.q (q_pickT (v := .lit (.bool _)) (lb hb4564) rfl) rfl ?_
         refine WPL.q (q_mv (v := .lit (.bool _)) rfl) rfl ?_
         refine WPL.split (t := 52) (b := x4566) rfl (fun hb4566 => ?_) (fun hb4566 => ?_)
         · replace H := cnt hb4566 H
           refine WPL.qg rfl rfl (lb hb4566) (q_mv (v := .lit (.int _ _)) rfl) rfl ?_
           refine WPL.qg rfl rfl (lb hb4566) (q_eql rfl rfl) rfl ?_
           refine WPL.q (q_pickT (v := .lit (.bool _)) (lb hb4566) rfl) rfl ?_
           refine WPL.q (q_mv (v := .lit (.bool _)) rfl) rfl ?_
           refine WPL.split (t := 56) (b := (decide (x4542 = 6))) rfl (fun hb4567 => ?_) (fun hb4567 => ?_)
           · replace H := cnt hb4567 H
             refine WPL.qg rfl rfl (lb hb4567) (q_mv (v := .lit (.int _ _)) rfl) rfl ?_
             refine WPL.qg rfl rfl (lb hb4567) (q_eql rfl rfl) rfl ?_
             refine WPL.q (q_pickT (v := .lit (.bool _)) (lb hb4567) rfl) rfl ?_
             refine WPL.q (q_mv (v := .lit (.bool _)) rfl) rfl ?_
             refine WPL.split (t := 60) (b := (decide (x4543 = 0))) rfl (fun hb4568 => ?_) (fun hb4568 => ?_)
             · replace H := cnt hb4568 H
               refine WPL.qg rfl rfl (lb hb4568) (q_mv (v := .lit (.int _ _)) rfl) rfl ?_
               refine WPL.qg rfl rfl (lb hb4568) (q_eql rfl rfl) rfl ?_
               refine WPL.q (q_pickT (v := .lit (.bool _)) (lb hb4568) rfl) rfl ?_
               refine WPL.q (q_mv (v := .lit (.bool _)) rfl) rfl ?_
               refine WPL.split (t := 64) (b := (decide (x4547 = 12))) rfl (fun hb4569 => ?_) (fun hb4569 => ?_)
               · replace H := cnt hb4569 H
                 refine WPL.qg rfl rfl (lb hb4569) (q_mv (v := .lit (.int _ _)) rfl) rfl ?_
                 refine WPL.qg rfl rfl (lb hb4569) (q_eql rfl rfl) rfl ?_
                 refine WPL.q (q_pickT (v := .lit (.bool _)) (lb hb4569) rfl) rfl ?_
                 refine WPL.q (q_as (v := .lit (.bool _)) rfl) rfl ?_
                 refine WPL.nilW ?_
                 have q0 := (Option.some.inj H)
                 subst q0
                 exact W.wk [] hnp ⟨rfl, rfl, rfl⟩ ⟨rfl, trivial, by decide, rfl, trivial⟩ (LeE.upd rfl rfl (LeE.none rfl rfl)) rfl
               replace H := cnf hb4569 H
               refine WPL.skipg (b' := false) rfl rfl (lb hb4569) rfl rfl (.inl trivial) ?_
               refine WPL.skipg (b' := false) rfl rfl (lb hb4569) rfl rfl (.inl trivial) ?_
               refine WPL.q (q_pickF (v := .lit (.bool _)) (lb hb4569) rfl) rfl ?_
               refine WPL.q (q_as (v := .lit (.bool _)) rfl) rfl ?_
               refine WPL.nilW ?_
               have q0 := (Option.some.inj H)
               subst q0
               exact W.wk [] hnp ⟨rfl, rfl, rfl⟩ ⟨rfl, trivial, by decide, rfl, trivial⟩ (LeE.upd rfl rfl (LeE.none rfl rfl)) rfl
             replace H := cnf hb4568 H
             refine WPL.skipg (b' := false) rfl rfl (lb hb4568) rfl rfl (.inl trivial) ?_
             refine WPL.skipg (b' := false) rfl rfl (lb hb4568) rfl rfl (.inl trivial) ?_
             refine WPL.q (q_pickF (v := .lit (.bool _)) (lb hb4568) rfl) rfl ?_
             refine WPL.q (q_mv (v := .lit (.bool _)) rfl) rfl ?_
             refine WPL.skipg (b' := false) rfl rfl rfl rfl rfl (.inl trivial) ?_
             refine WPL.skipg (b' := false) rfl rfl rfl rfl rfl (.inl trivial) ?_
             refine WPL.q (q_pickF (v := .lit (.bool _)) rfl rfl) rfl ?_
             refine WPL.q (q_as (v := .lit (.bool _)) rfl) rfl ?_
             refine WPL.nilW ?_
             have q0 := (Option.some.inj H)
             subst q0
             exact W.wk [] hnp ⟨rfl, rfl, rfl⟩ ⟨rfl, trivial, by decide, rfl, trivial⟩ (LeE.upd rfl rfl (LeE.none rfl rfl)) rfl
           replace H := cnf hb4567 H
           refine WPL.skipg (b' := false) rfl rfl (lb hb4567) rfl rfl (.inl trivial) ?_
           refine WPL.skipg (b' := false) rfl rfl (lb hb4567) rfl rfl (.inl trivial) ?_
           refine WPL.q (q_pickF (v := .lit (.bool _)) (lb hb4567) rfl) rfl ?_
           refine WPL.q (q_mv (v := .lit (.bool _)) rfl) rfl ?_
           refine WPL.skipg (b' := false) rfl rfl rfl rfl rfl (.inl trivial) ?_
           refine WPL.skipg (b' := false) rfl rfl rfl rfl rfl (.inl trivial) ?_
           refine WPL.q (q_pickF (v := .lit (.bool _)) rfl rfl) rfl ?_
           refine WPL.q (q_mv (v := .lit (.bool _)) rfl) rfl ?_
           refine WPL.skipg (b' := false) rfl rfl rfl rfl rfl (.inl trivial) ?_
           refine WPL.skipg (b' := false) rfl rfl rfl rfl rfl (.inl trivial) ?_
           refine WPL.q (q_pickF (v := .lit (.bool _)) rfl rfl) rfl ?_
           refine WPL.q (q_as (v := .lit (.bool _)) rfl) rfl ?_
           refine WPL.nilW ?_
           have q0 := (Option.some.inj H)
           subst q0
           exact W.wk [] hnp ⟨rfl, rfl, rfl⟩ ⟨rfl, trivial, by decide, rfl, trivial⟩ (LeE.upd rfl rfl (LeE.none rfl rfl)) rfl
         replace H := cnf hb4566 H
         refine WPL.skipg (b' := false) rfl rfl (lb hb4566) rfl rfl (.inl trivial) ?_
         refine WPL.skipg (b' := false) rfl rfl (lb hb4566) rfl rfl (.inl trivial) ?_
         refine WPL.q (q_pickF (v := .lit (.bool _)) (lb hb4566) rfl) rfl ?_
         refine WPL.q (q_mv (v := .lit (.bool _)) rfl) rfl ?_
         refine WPL.skipg (b' := false) rfl rfl rfl rfl rfl (.inl trivial) ?_
         refine WPL.skipg (b' := false) rfl rfl rfl rfl rfl (.inl trivial) ?_
         refine WPL.q (q_pickF (v := .lit (.bool _)) rfl rfl) rfl ?_
         refine WPL.q (q_mv (v := .lit (.bool _)) rfl) rfl ?_
         refine WPL.skipg (b' := false) rfl rfl rfl rfl rfl (.inl trivial) ?_
         refine WPL.skipg (b' := false) rfl rfl rfl rfl rfl (.inl trivial) ?_
         refine WPL.q (q_pickF (v := .lit (.bool _)) rfl rfl) rfl ?_
         refine WPL.q (q_mv (v := .lit (.bool _)) rfl) rfl ?_
         refine WPL.skipg (b' := false) rfl rfl rfl rfl rfl (.inl trivial) ?_
         refine WPL.skipg (b' := false) rfl rfl rfl rfl rfl (.inl trivial) ?_
         refine WPL.q (q_pickF (v := .lit (.bool _)) rfl rfl) rfl ?_
         refine WPL.q (q_as (v := .lit (.bool _)) rfl) rfl ?_
         refine WPL.nilW ?_
         have q0 := (Option.some.inj H)
         subst q0
         exact W.wk [] hnp ⟨rfl, rfl, rfl⟩ ⟨rfl, trivial, by decide, rfl, trivial⟩ (LeE.upd rfl rfl (LeE.none rfl rfl)) rfl
       replace H := cnf hb4564 H
       refine WPL.skipg (b' := false) rfl rfl (lb hb4564) rfl rfl (.inl trivial) ?_
       refine WPL.skipg (b' := false) rfl rfl (lb hb4564) rfl rfl (.inl trivial) ?_
       refine WPL.skipg (b' := false) rfl rfl (lb hb4564) rfl rfl (.inl trivial) ?_
       refine WPL.q (q_pickF (v := .lit (.bool _)) (lb hb4564) rfl) rfl ?_
       refine WPL.q (q_mv (v := .lit (.bool _)) rfl) rfl ?_
       refine WPL.skipg (b' := false) rfl rfl rfl rfl rfl (.inl trivial) ?_
       refine WPL.skipg (b' := false) rfl rfl rfl rfl rfl (.inl trivial) ?_
       refine WPL.q (q_pickF (v := .lit (.bool _)) rfl rfl) rfl ?_
       refine WPL.q (q_mv (v := .lit (.bool _)) rfl) rfl ?_
       refine WPL.skipg (b' := false) rfl rfl rfl rfl rfl (.inl trivial) ?_
       refine WPL.skipg (b' := false) rfl rfl rfl rfl rfl (.inl trivial) ?_
       refine WPL.q (q_pickF (v := .lit (.bool _)) rfl rfl) rfl ?_
       refine WPL.q (q_mv (v := .lit (.bool _)) rfl) rfl ?_
       refine WPL.skipg (b' := false) rfl rfl rfl rfl rfl (.inl trivial) ?_
       refine WPL.skipg (b' := false) rfl rfl rfl rfl rfl (.inl trivial) ?_
       refine WPL.q (q_pickF (v := .lit (.bool _)) rfl rfl) rfl ?_
       refine WPL.q (q_mv (v := .lit (.bool _)) rfl) rfl ?_
       refine WPL.skipg (b' := false) rfl rfl rfl rfl rfl (.inl trivial) ?_
       refine WPL.skipg (b' := false) rfl rfl rfl rfl rfl (.inl trivial) ?_
       refine WPL.q (q_pickF (v := .lit (.bool _)) rfl rfl) rfl ?_
       refine WPL.q (q_as (v := .lit (.bool _)) rfl) rfl ?_
       refine WPL.nilW ?_
       have q0 := (Option.some.inj H)
       subst q0
       exact W.wk [] hnp ⟨rfl, rfl, rfl⟩ ⟨rfl, trivial, by decide, rfl, trivial⟩ (LeE.upd rfl rfl (LeE.none rfl rfl)) rfl
     replace H := cnf hb4563 H
     refine WPL.skipg (b' := false) rfl rfl (lb hb4563) rfl rfl (.inl trivial) ?_
     refine WPL.skipg (b' := false) rfl rfl (lb hb4563) rfl rfl (.inl trivial) ?_
     refine WPL.q (q_pickF (v := .lit (.bool _)) (lb hb4563) rfl) rfl ?_
     refine WPL.q (q_mv (v := .lit (.bool _)) rfl) rfl ?_
     refine WPL.skipg (b' := false) rfl rfl rfl rfl rfl (.inl trivial) ?_
     refine WPL.skipg (b' := false) rfl rfl rfl rfl rfl (.inl trivial) ?_
     refine WPL.skipg (b' := false) rfl rfl rfl rfl rfl (.inl trivial) ?_
     refine WPL.q (q_pickF (v := .lit (.bool _)) rfl rfl) rfl ?_
     refine WPL.q (q_mv (v := .lit (.bool _)) rfl) rfl ?_
     refine WPL.skipg (b' := false) rfl rfl rfl rfl rfl (.inl trivial) ?_
     refine WPL.skipg (b' := false) rfl rfl rfl rfl rfl (.inl trivial) ?_
     refine WPL.q (q_pickF (v := .lit (.bool _)) rfl rfl) rfl ?_
     refine WPL.q (q_mv (v := .lit (.bool _)) rfl) rfl ?_
     refine WPL.skipg (b' := false) rfl rfl rfl rfl rfl (.inl trivial) ?_
     refine WPL.skipg (b' := false) rfl rfl rfl rfl rfl (.inl trivial) ?_
     refine WPL.q (q_pickF (v := .lit (.bool _)) rfl rfl) rfl ?_
     refine WPL.q (q_mv (v := .lit (.bool _)) rfl) rfl ?_
     refine WPL.skipg (b' := false) rfl rfl rfl rfl rfl (.inl trivial) ?_
     refine WPL.skipg (b' := false) rfl rfl rfl rfl rfl (.inl trivial) ?_
     refine WPL.q (q_pickF (v := .lit (.bool _)) rfl rfl) rfl ?_
     refine WPL.q (q_mv (v := .lit (.bool _)) rfl) rfl ?_
     refine WPL.skipg (b' := false) rfl rfl rfl rfl rfl (.inl trivial) ?_
     refine WPL.skipg (b' := false) rfl rfl rfl rfl rfl (.inl trivial) ?_
     refine WPL.q (q_pickF (v := .lit (.bool _)) rfl rfl) rfl ?_
     refine WPL.q (q_as (v := .lit (.bool _)) rfl) rfl ?_
     refine WPL.nilW ?_
     have q0 := (Option.some.inj H)
     subst q0
     exact W.wk [] hnp ⟨rfl, rfl, rfl⟩ ⟨rfl, trivial, by decide, rfl, trivial⟩ (LeE.upd rfl rfl (LeE.none rfl rfl)) rfl
   replace H := cnf hb4562 H
   refine WPL.skipg (b' := false) rfl rfl (lb hb4562) rfl rfl (.inl trivial) ?_
   refine WPL.skipg (b' := false) rfl rfl (lb hb4562) rfl rfl (.inl trivial) ?_
   refine WPL.q (q_pickF (v := .lit (.bool _)) (lb hb4562) rfl) rfl ?_
   refine WPL.q (q_mv (v := .lit (.bool _)) rfl) rfl ?_
   refine WPL.skipg (b' := false) rfl rfl rfl rfl rfl (.inl trivial) ?_
   refine WPL.skipg (b' := false) rfl rfl rfl rfl rfl (.inl trivial) ?_
   refine WPL.q (q_pickF (v := .lit (.bool _)) rfl rfl) rfl ?_
   refine WPL.q (q_mv (v := .lit (.bool _)) rfl) rfl ?_
   refine WPL.skipg (b' := false) rfl rfl rfl rfl rfl (.inl trivial) ?_
   refine WPL.skipg (b' := false) rfl rfl rfl rfl rfl (.inl trivial) ?_
   refine WPL.skipg (b' := false) rfl rfl rfl rfl rfl (.inl trivial) ?_
   refine WPL.q (q_pickF (v := .lit (.bool _)) rfl rfl) rfl ?_
   refine WPL.q (q_mv (v := .lit (.bool _)) rfl) rfl ?_
   refine WPL.skipg (b' := false) rfl rfl rfl rfl rfl (.inl trivial) ?_
   refine WPL.skipg (b' := false) rfl rfl rfl rfl rfl (.inl trivial) ?_
   refine WPL.q (q_pickF (v := .lit (.bool _)) rfl rfl) rfl ?_
   refine WPL.q (q_mv (v := .lit (.bool _)) rfl) rfl ?_
   refine WPL.skipg (b' := false) rfl rfl rfl rfl rfl (.inl trivial) ?_
   refine WPL.skipg (b' := false) rfl rfl rfl rfl rfl (.inl trivial) ?_
   refine WPL.q (q_pickF (v := .lit (.bool _)) rfl rfl) rfl ?_
   refine WPL.q (q_mv (v := .lit (.bool _)) rfl) rfl ?_
   refine WPL.skipg (b' := false) rfl rfl rfl rfl rfl (.inl trivial) ?_
   refine WPL.skipg (b' := false) rfl rfl rfl rfl rfl (.inl trivial) ?_
   refine WPL.q (q_pickF (v := .lit (.bool _)) rfl rfl) rfl ?_
   refine WPL.q (q_mv (v := .lit (.bool _)) rfl) rfl ?_
   refine WPL.skipg (b' := false) rfl rfl rfl rfl rfl (.inl trivial) ?_
   refine WPL.skipg (b' := false) rfl rfl rfl rfl rfl (.inl trivial) ?_
   refine WPL.q (q_pickF (v := .lit (.bool _)) rfl rfl) rfl ?_
   refine WPL.q (q_as (v := .lit (.bool _)) rfl) rfl ?_
   refine WPL.nilW ?_
   have q0 := (Option.some.inj H)
   subst q0
   exact W.wk [] hnp ⟨rfl, rfl, rfl⟩ ⟨rfl, trivial, by decide, rfl, trivial⟩ (LeE.upd rfl rfl (LeE.none rfl rfl)) rfl
 rintro _ _ _ ⟨rfl, rfl, rfl⟩
 refine W.now ?_
 refine Then.n ?_
 refine WP.retW ?_
 have q0 := (Option.some.inj H)
 subst q0
 exact W.now (BodyR.mkR trivial rfl [] ⟨rfl, rfl⟩ ⟨rfl, trivial, by decide, rfl, trivial⟩ rfl rfl)
end Go.Proofs.Ytpceecokdpdgfaa.W
namespace Go.Proofs.Ytpceecokdpdgfaa.W
open Go Go.Q Go.Proofs
set_option linter.unusedVariables false
set_option linter.unusedSimpArgs false
set_option maxRecDepth 100000 in
set_option maxHeartbeats 4000000 in
theorem s_quirelaw01_Same (k : Nat) (x4738 : (List Int)) (x4739 : (List Int)) (x4742 : Bool) (H : g_quirelaw01_Same k x4738 x4739 = some x4742) : Go.Q.Spec Try.prog 17 0 [.ro (Rd.slice (Rd.int .u8)) false x4738, .ro (Rd.slice (Rd.int .u8)) false x4739] Mem.nil (fun o M => o = .ret (.lit (.bool x4742)) ∧ M = Mem.nil) := by
 unfold g_quirelaw01_Same at H
 refine Go.Q.Spec.of_bodyR (az := []) (rs := [.tmp 4]) (nt := 10) Try.func17 rfl rfl (by intro t T h; simp at h) rfl rfl fun cx hnp => ?_
 refine WP.seq ?_
 refine WP.region ?_
 refine WPL.q (q_as (v := .lit (.bool _)) rfl) rfl ?_
 refine WPL.nilW ?_
 refine W.now ?_
 refine Then.n ?_
 refine WP.seq ?_
 refine WP.region ?_
 refine WPL.q (q_mv (v := .ro _ _ _) rfl) rfl ?_
 refine WPL.q (q_bytes_str Try.underlying29 Try.underlying5 Try.underlying9 rfl) rfl ?_
 refine WPL.q (q_mv (v := .ro _ _ _) rfl) rfl ?_
 refine WPL.q (q_bytes_str Try.underlying29 Try.underlying5 Try.underlying9 rfl) rfl ?_
 obtain ⟨x4743, h4743, H⟩ := bnd H
 refine WPL.q (q_nm (q_eqls rfl rfl) (nm_bool h4743)) rfl ?_
 refine WPL.q (q_as (v := .lit (.bool _)) rfl) rfl ?_
 refine WPL.nilW ?_
 refine W.now ?_
 refine Then.n ?_
 refine WP.retW ?_
 have q0 := (Option.some.inj H)
 subst q0
 exact W.now (BodyR.mkR trivial rfl [] ⟨rfl, rfl⟩ ⟨rfl, trivial, by decide, rfl, trivial⟩ rfl rfl)
set_option maxRecDepth 100000 in
set_option maxHeartbeats 4000000 in
theorem s_quirelaw03_InflateBehind (k : Nat) (x4664 : (List Int)) (x4665 : (List Int)) (x4666 : Int) (x4760 : Bool) (H : g_quirelaw03_InflateBehind k x4664 x4665 x4666 = some x4760) : Go.Q.Spec Try.prog 4 0 [.ro (Rd.slice (Rd.int .u8)) false x4664, .ro (Rd.slice (Rd.int .u8)) false x4665, .lit (.int .i64 x4666)] Mem.nil (fun o M => o = .ret (.lit (.bool x4760)) ∧ M = Mem.nil) := by
 unfold g_quirelaw03_InflateBehind at H
 refine Go.Q.Spec.of_bodyR (az := []) (rs := [.tmp 6]) (nt := 93) Try.func4 rfl rfl (by intro t T h; simp at h) rfl rfl fun cx hnp => ?_
 refine WP.seq ?_
 refine WP.region ?_
 refine WPL.q (q_as (v := .lit (.bool _)) rfl) rfl ?_
 refine WPL.nilW ?_
 refine W.now ?_
 refine Then.n ?_
 refine WP.seq ?_
 obtain ⟨x4762, H4763, H⟩ := bnd H
 refine WP.monoW (Q := fun x E M => x = .normal ∧ E = (((Env.none.upd 0 (.ro (Rd.slice (Rd.int .u8)) false x4664)).upd 1 (.ro (Rd.slice (Rd.int .u8)) false x4665)).upd 2 (.lit (.int .i64 x4762))) ∧ M = Mem.nil) ?_ ?_
 · clear H
   have H := H4763
   clear H4763
   refine WP.seq ?_
   refine WP.region ?_
   refine WPL.q (q_mv (v := .lit (.int _ _)) rfl) rfl ?_
   refine WPL.q (q_gtr rfl rfl) rfl ?_
   refine WPL.nilW ?_
   refine W.now ?_
   refine Then.n ?_
   refine WP.cond (t := (decide (65536 < x4666))) rfl (fun hb4762 => ?_) (fun hb4762 => ?_)
   · replace H := cnt hb4762 H
     refine WP.region ?_
     refine WPL.q (q_as (v := .lit (.int _ _)) rfl) rfl ?_
     refine WPL.nilW ?_
     have q0 := (Option.some.inj H)
     subst q0
     exact W.wk [] hnp ⟨rfl, rfl, rfl⟩ ⟨rfl, trivial, by decide, rfl, trivial⟩ (LeE.upd rfl rfl (LeE.upd rfl rfl (LeE.upd rfl rfl (LeE.none rfl rfl)))) rfl
   replace H := cnf hb4762 H
   refine WP.skipW ?_
   have q0 := (Option.some.inj H)
   subst q0
   exact W.wk [] hnp ⟨rfl, rfl, rfl⟩ ⟨rfl, trivial, by decide, rfl, trivial⟩ (LeE.upd rfl rfl (LeE.upd rfl rfl (LeE.upd rfl rfl (LeE.none rfl rfl)))) rfl
 rintro _ _ _ ⟨rfl, rfl, rfl⟩
 refine W.now ?_
 refine Then.n ?_
 refine WP.seq ?_
 refine WP.region ?_
 refine WPL.q (q_mv (v := .ro _ _ _) rfl) rfl ?_
 refine WPL.q (q_mv (v := .lit (.int _ _)) rfl) rfl ?_
 obtain ⟨⟨x4766, x4767, x4768⟩, h4764, H⟩ := bnd H
 refine WPL.c (runs_call (s := []) (t := [0, 1, 2]) (N := 3) (bor := []) fn16 rfl (s_inflate_Inflate__b k x4664 x4762 x4766 x4767 x4768 h4764) ⟨rfl, trivial, by decide, rfl, trivial⟩ rfl trivial (.ren rfl rfl (.ren rfl rfl .nil)) rfl ⟨⟨⟨trivial, rfl⟩, rfl⟩, rfl⟩ rfl) rfl ?_
 refine WPL.q (q_mv (v := .tup _) rfl) rfl ?_
 refine WPL.q (q_extract rfl rfl) rfl ?_
 refine WPL.q (q_extract rfl rfl) rfl ?_
 refine WPL.q (q_extract rfl rfl) rfl ?_
 refine WPL.q (q_as (v := .ro _ _ _) rfl) rfl ?_
 refine WPL.q (q_as (v := .lit (.int _ _)) rfl) rfl ?_
 refine WPL.q (q_as (v := .lit (.int _ _)) rfl) rfl ?_
 refine WPL.nilW ?_
 refine W.now ?_
 refine Then.n ?_
 refine WP.seq ?_
 refine WP.seq ?_
 refine WP.region ?_
 refine WPL.q (q_mv (v := .lit (.int _ _)) rfl) rfl ?_
 refine WPL.q (q_neq rfl rfl) rfl ?_
 refine WPL.nilW ?_
 refine W.now ?_
 refine Then.n ?_
 refine WP.cond (t := (!decide (x4768 = 0))) rfl (fun hb4781 => ?_) (fun hb4781 => ?_)
 · replace H := cnt hb4781 H
   refine WP.seq ?_
   obtain ⟨x4788, H4793, H⟩ := bnd H
   refine WP.monoW (Q := fun x E M => x = .normal ∧ E = (Env.none.upd 6 (.lit (.bool x4788))) ∧ M = Mem.nil) ?_ ?_
   · clear H
     have H := H4793
     clear H4793
     refine WP.region ?_
     refine WPL.q (q_mv (v := .ro _ _ _) rfl) rfl ?_
     refine WPL.q (q_len_ro sl29 rfl) rfl ?_
     obtain ⟨x4789, h4789, H⟩ := bnd H
     refine WPL.q (q_nm (q_eql rfl rfl) (nm_bool h4789)) rfl ?_
     refine WPL.q (q_mv (v := .lit (.bool _)) rfl) rfl ?_
     refine WPL.split (t := 30) (b := x4789) rfl (fun hb4789 => ?_) (fun hb4789 => ?_)
     · replace H := cnt hb4789 H
       refine WPL.qg rfl rfl (lb hb4789) (q_mv (v := .lit (.int _ _)) rfl) rfl ?_
       refine WPL.qg rfl rfl (lb hb4789) (q_eql rfl rfl) rfl ?_
       refine WPL.q (q_pickT (v := .lit (.bool _)) (lb hb4789) rfl) rfl ?_
       refine WPL.q (q_mv (v := .lit (.bool _)) rfl) rfl ?_
       refine WPL.split (t := 34) (b := (decide (x4767 = 0))) rfl (fun hb4790 => ?_) (fun hb4790 => ?_)
       · replace H := cnt hb4790 H
         obtain ⟨x4793, h4791, H⟩ := bnd H
         refine WPL.cg rfl rfl (lb hb4790) (runs_call (s := []) (t := []) (N := 3) (bor := []) fn15 rfl (s_quirelaw03_alive k x4793 h4791) ⟨rfl, trivial, by decide, rfl, trivial⟩ rfl trivial .nil rfl trivial rfl) rfl ?_
         refine WPL.q (q_pickT (v := .lit (.bool _)) (lb hb4790) rfl) rfl ?_
         refine WPL.q (q_as (v := .lit (.bool _)) rfl) rfl ?_
         refine WPL.nilW ?_
         have q0 := (Option.some.inj H)
         subst q0
         exact W.wk [] hnp ⟨rfl, rfl, rfl⟩ ⟨rfl, trivial, by decide, rfl, trivial⟩ (LeE.upd rfl rfl (LeE.none rfl rfl)) rfl
       replace H := cnf hb4790 H
       refine WPL.skipg (b' := false) rfl rfl (lb hb4790) rfl rfl (.inl (by simp only [SkipOk]; kernel_rfl)) ?_
       refine WPL.q (q_pickF (v := .lit (.bool _)) (lb hb4790) rfl) rfl ?_
       refine WPL.q (q_as (v := .lit (.bool _)) rfl) rfl ?_
       refine WPL.nilW ?_
       have q0 := (Option.some.inj H)
       subst q0
       exact W.wk [] hnp ⟨rfl, rfl, rfl⟩ ⟨rfl, trivial, by decide, rfl, trivial⟩ (LeE.upd rfl rfl (LeE.none rfl rfl)) rfl
     replace H := cnf hb4789 H
     refine WPL.skipg (b' := false) rfl rfl (lb hb4789) rfl rfl (.inl trivial) ?_
     refine WPL.skipg (b' := false) rfl rfl (lb hb4789) rfl rfl (.inl trivial) ?_
     refine WPL.q (q_pickF (v := .lit (.bool _)) (lb hb4789) rfl) rfl ?_
     refine WPL.q (q_mv (v := .lit (.bool _)) rfl) rfl ?_
     refine WPL.skipg (b' := false) rfl rfl rfl rfl rfl (.inl (by simp only [SkipOk]; kernel_rfl)) ?_
     refine WPL.q (q_pickF (v := .lit (.bool _)) rfl rfl) rfl ?_
     refine WPL.q (q_as (v := .lit (.bool _)) rfl) rfl ?_
     refine WPL.nilW ?_
     have q0 := (Option.some.inj H)
     subst q0
     exact W.wk [] hnp ⟨rfl, rfl, rfl⟩ ⟨rfl, trivial, by decide, rfl, trivial⟩ (LeE.upd rfl rfl (LeE.none rfl rfl)) rfl
   rintro _ _ _ ⟨rfl, rfl, rfl⟩
   refine W.now ?_
   refine Then.n ?_
   refine WP.retW ?_
   have q0 := (Option.some.inj H)
   subst q0
   exact W.now (Then.r (BodyR.mkR trivial rfl [] ⟨rfl, rfl⟩ ⟨rfl, trivial, by decide, rfl, trivial⟩ rfl rfl))
 replace H := cnf hb4781 H
 refine WP.skipW ?_
 refine W.now ?_
 refine Then.n ?_
 refine WP.seq ?_
 refine WP.seq ?_
 obtain ⟨x4810, H4814, H⟩ := bnd H
 refine WP.monoW (Q := fun x E M => x = .normal ∧ E = ((((((Env.none.upd 0 (.ro (Rd.slice (Rd.int .u8)) false x4664)).upd 1 (.ro (Rd.slice (Rd.int .u8)) false x4665)).upd 2 (.lit (.int .i64 x4762))).upd 7 (.ro (Rd.slice (Rd.int .u8)) false x4766)).upd 8 (.lit (.int .i64 x4767))).upd 50 (.lit (.bool x4810))) ∧ M = Mem.nil) ?_ ?_
 · clear H
   have H := H4814
   clear H4814
   refine WP.region ?_
   refine WPL.q (q_mv (v := .lit (.int _ _)) rfl) rfl ?_
   refine WPL.q (q_lss rfl rfl) rfl ?_
   refine WPL.q (q_mv (v := .lit (.bool _)) rfl) rfl ?_
   refine WPL.split (t := 39) (b := (decide (x4767 < 1))) rfl (fun hb4810 => ?_) (fun hb4810 => ?_)
   · replace H := cnt hb4810 H
     refine WPL.skipg (b' := true) rfl rfl (lb hb4810) rfl rfl (.inl trivial) ?_
     refine WPL.skipg (b' := true) rfl rfl (lb hb4810) rfl rfl (.inl trivial) ?_
     refine WPL.skipg (b' := true) rfl rfl (lb hb4810) rfl rfl (.inl trivial) ?_
     refine WPL.skipg (b' := true) rfl rfl (lb hb4810) rfl rfl (.inl trivial) ?_
     refine WPL.q (q_pickT (v := .lit (.bool _)) (lb hb4810) rfl) rfl ?_
     refine WPL.q (q_mv (v := .lit (.bool _)) rfl) rfl ?_
     refine WPL.skipg (b' := true) rfl rfl rfl rfl rfl (.inl trivial) ?_
     refine WPL.skipg (b' := true) rfl rfl rfl rfl rfl (.inl trivial) ?_
     refine WPL.skipg (b' := true) rfl rfl rfl rfl rfl (.inl trivial) ?_
     refine WPL.skipg (b' := true) rfl rfl rfl rfl rfl (.inl trivial) ?_
     refine WPL.q (q_pickT (v := .lit (.bool _)) rfl rfl) rfl ?_
     refine WPL.nilW ?_
     have q0 := (Option.some.inj H)
     subst q0
     exact W.wk [] hnp ⟨rfl, rfl, rfl⟩ ⟨rfl, trivial, by decide, rfl, trivial⟩ (LeE.upd rfl rfl (LeE.upd rfl rfl (LeE.upd rfl rfl (LeE.upd rfl rfl (LeE.upd rfl rfl (LeE.upd rfl rfl (LeE.none rfl rfl))))))) rfl
   replace H := cnf hb4810 H
   refine WPL.qg rfl rfl (lb hb4810) (q_mv (v := .lit (.int _ _)) rfl) rfl ?_
   refine WPL.qg rfl rfl (lb hb4810) (q_mv (v := .ro _ _ _) rfl) rfl ?_
   refine WPL.qg rfl rfl (lb hb4810) (q_len_ro sl29 rfl) rfl ?_
   obtain ⟨x4812, h4812, H⟩ := bnd H
   refine WPL.qg rfl rfl (lb hb4810) (q_nm (q_gtr rfl rfl) (nm_bool h4812)) rfl ?_
   refine WPL.q (q_pickF (v := .lit (.bool _)) (lb hb4810) rfl) rfl ?_
   refine WPL.q (q_mv (v := .lit (.bool _)) rfl) rfl ?_
   refine WPL.split (t := 45) (b := x4812) rfl (fun hb4812 => ?_) (fun hb4812 => ?_)
   · replace H := cnt hb4812 H
     refine WPL.skipg (b' := true) rfl rfl (lb hb4812) rfl rfl (.inl trivial) ?_
     refine WPL.skipg (b' := true) rfl rfl (lb hb4812) rfl rfl (.inl trivial) ?_
     refine WPL.skipg (b' := true) rfl rfl (lb hb4812) rfl rfl (.inl trivial) ?_
     refine WPL.skipg (b' := true) rfl rfl (lb hb4812) rfl rfl (.inl trivial) ?_
     refine WPL.q (q_pickT (v := .lit (.bool _)) (lb hb4812) rfl) rfl ?_
     refine WPL.nilW ?_
     have q0 := (Option.some.inj H)
     subst q0
     exact W.wk [] hnp ⟨rfl, rfl, rfl⟩ ⟨rfl, trivial, by decide, rfl, trivial⟩ (LeE.upd rfl rfl (LeE.upd rfl rfl (LeE.upd rfl rfl (LeE.upd rfl rfl (LeE.upd rfl rfl (LeE.upd rfl rfl (LeE.none rfl rfl))))))) rfl
   replace H := cnf hb4812 H
   refine WPL.qg rfl rfl (lb hb4812) (q_mv (v := .ro _ _ _) rfl) rfl ?_
   refine WPL.qg rfl rfl (lb hb4812) (q_len_ro sl29 rfl) rfl ?_
   refine WPL.qg rfl rfl (lb hb4812) (q_mv (v := .lit (.int _ _)) rfl) rfl ?_
   obtain ⟨x4814, h4814, H⟩ := bnd H
   refine WPL.qg rfl rfl (lb hb4812) (q_nm (q_gtr rfl rfl) (nm_bool h4814)) rfl ?_
   refine WPL.q (q_pickF (v := .lit (.bool _)) (lb hb4812) rfl) rfl ?_
   refine WPL.nilW ?_
   have q0 := (Option.some.inj H)
   subst q0
   exact W.wk [] hnp ⟨rfl, rfl, rfl⟩ ⟨rfl, trivial, by decide, rfl, trivial⟩ (LeE.upd rfl rfl (LeE.upd rfl rfl (LeE.upd rfl rfl (LeE.upd rfl rfl (LeE.upd rfl rfl (LeE.upd rfl rfl (LeE.none rfl rfl))))))) rfl
 rintro _ _ _ ⟨rfl, rfl, rfl⟩
 refine W.now ?_
 refine Then.n ?_
 refine WP.cond (t := x4810) rfl (fun hb4815 => ?_) (fun hb4815 => ?_)
 · replace H := cnt hb4815 H
   refine WP.seq ?_
   refine WP.region ?_
   refine WPL.q (q_as (v := .lit (.bool _)) rfl) rfl ?_
   refine WPL.nilW ?_
   refine W.now ?_
   refine Then.n ?_
   refine WP.retW ?_
   have q0 := (Option.some.inj H)
   subst q0
   exact W.now (Then.r (BodyR.mkR trivial rfl [] ⟨rfl, rfl⟩ ⟨rfl, trivial, by decide, rfl, trivial⟩ rfl rfl))
 replace H := cnf hb4815 H
 refine WP.skipW ?_
 refine W.now ?_
 refine Then.n ?_
 refine WP.seq ?_
 refine WP.region ?_
 refine WPL.d (d_buildSlice (ds := ([] : List Int)) (R := (Rd.int .u8)) li29 rfl rfl rfl rfl rfl JoinRows.nil rfl rfl) rfl ?_
 refine WPL.q (q_mv (v := .ro _ _ _) rfl) rfl ?_
 refine WPL.q (q_mv (v := .lit (.int _ _)) rfl) rfl ?_
 obtain ⟨h4816, H⟩ := grd H
 refine WPL.q (q_slice_ro (i := 0) (j := x4767) sl29 rfl rfl rfl ⟨_, rfl⟩ h4816) rfl ?_
 obtain ⟨h4817, H⟩ := grd H
 refine WPL.d (d_append ap29 rfl rfl rfl rfl (src_ro sl29 rfl) h4817 rfl) rfl ?_
 refine WPL.q (q_mv (v := .ro _ _ _) rfl) rfl ?_
 obtain ⟨h4818, H⟩ := grd H
 refine WPL.d (d_append ap29 rfl rfl rfl rfl (src_ro sl29 rfl) h4818 rfl) rfl ?_
 refine WPL.q (q_mv (v := .lit (.int _ _)) rfl) rfl ?_
 obtain ⟨⟨x4821, x4822, x4823⟩, h4819, H⟩ := bnd H
 refine WPL.c (runs_call (s := []) (t := [3, 4, 5]) (N := 6) (bor := [2]) fn16 rfl (s_inflate_Inflate k ((([] : List Int) ++ (List.drop (Int.toNat 0) (List.take (Int.toNat x4767) x4664))) ++ x4665) x4762 x4821 x4822 x4823 h4819) ⟨rfl, trivial, by decide, rfl, trivial⟩ rfl ⟨trivial, rfl, rfl, trivial⟩ (.row rfl rfl (.ren rfl rfl .nil)) rfl ⟨⟨⟨trivial, rfl⟩, rfl⟩, rfl⟩ rfl) rfl ?_
 refine WPL.q (q_mv (v := .tup _) rfl) rfl ?_
 refine WPL.q (q_extract rfl rfl) rfl ?_
 refine WPL.q (q_extract rfl rfl) rfl ?_
 refine WPL.q (q_extract rfl rfl) rfl ?_
 refine WPL.q (q_as (v := .ro _ _ _) rfl) rfl ?_
 refine WPL.q (q_as (v := .lit (.int _ _)) rfl) rfl ?_
 refine WPL.q (q_as (v := .lit (.int _ _)) rfl) rfl ?_
 refine WPL.nilW ?_
 refine W.now ?_
 refine Then.n ?_
 refine WP.seq ?_
 refine WP.region ?_
 refine WPL.q (q_mv (v := .ro _ _ _) rfl) rfl ?_
 refine WPL.q (q_mv (v := .lit (.int _ _)) rfl) rfl ?_
 refine WPL.q (q_sub rfl rfl) rfl ?_
 obtain ⟨h4823, H⟩ := grd H
 refine WPL.q (q_slice_ro (i := 0) (j := (IntKind.wrap .i64 (x4767 - 1))) sl29 rfl rfl rfl ⟨_, rfl⟩ h4823) rfl ?_
 refine WPL.q (q_mv (v := .lit (.int _ _)) rfl) rfl ?_
 obtain ⟨⟨x4826, x4827, x4828⟩, h4824, H⟩ := bnd H
 refine WPL.c (runs_call (s := []) (t := [6, 7, 8]) (N := 9) (bor := []) fn16 rfl (s_inflate_Inflate__b k (List.drop (Int.toNat 0) (List.take (Int.toNat (IntKind.wrap .i64 (x4767 - 1))) x4664)) x4762 x4826 x4827 x4828 h4824) ⟨rfl, trivial, by decide, rfl, trivial⟩ rfl trivial (.ren rfl rfl (.ren rfl rfl .nil)) rfl ⟨⟨⟨trivial, rfl⟩, rfl⟩, rfl⟩ rfl) rfl ?_
 refine WPL.q (q_mv (v := .tup _) rfl) rfl ?_
 refine WPL.q (q_extract rfl rfl) rfl ?_
 refine WPL.q (q_extract rfl rfl) rfl ?_
 refine WPL.q (q_extract rfl rfl) rfl ?_
 refine WPL.q (q_as (v := .ro _ _ _) rfl) rfl ?_
 refine WPL.q (q_as (v := .lit (.int _ _)) rfl) rfl ?_
 refine WPL.q (q_as (v := .lit (.int _ _)) rfl) rfl ?_
 refine WPL.nilW ?_
 refine W.now ?_
 refine Then.n ?_
 refine WP.seq ?_
 obtain ⟨x4837, H4845, H⟩ := bnd H
 refine WP.monoW (Q := fun x E M => x = .normal ∧ E = (Env.none.upd 6 (.lit (.bool x4837))) ∧ M = Mem.nil) ?_ ?_
 · clear H
   have H := H4845
   clear H4845
   refine WP.region ?_
   refine WPL.q (q_mv (v := .lit (.int _ _)) rfl) rfl ?_
   refine WPL.q (q_eql rfl rfl) rfl ?_
   refine WPL.q (q_mv (v := .lit (.bool _)) rfl) rfl ?_
   refine WPL.split (t := 76) (b := (decide (x4823 = 0))) rfl (fun hb4837 => ?_) (fun hb4837 => ?_)
   · replace H := cnt hb4837 H
     refine WPL.qg rfl rfl (lb hb4837) (q_mv (v := .lit (.int _ _)) rfl) rfl ?_
     refine WPL.qg rfl rfl (lb hb4837) (q_mv (v := .lit (.int _ _)) rfl) rfl ?_
     refine WPL.qg rfl rfl (lb hb4837) (q_eql rfl rfl) rfl ?_
     refine WPL.q (q_pickT (v := .lit (.bool _)) (lb hb4837) rfl) rfl ?_
     refine WPL.q (q_mv (v := .lit (.bool _)) rfl) rfl ?_
     refine WPL.split (t := 81) (b := (decide (x4822 = x4767))) rfl (fun hb4838 => ?_) (fun hb4838 => ?_)
     · replace H := cnt hb4838 H
       refine WPL.qg rfl rfl (lb hb4838) (q_mv (v := .ro _ _ _) rfl) rfl ?_
       refine WPL.qg rfl rfl (lb hb4838) (q_mv (v := .ro _ _ _) rfl) rfl ?_
       obtain ⟨x4841, h4839, H⟩ := bnd H
       refine WPL.cg rfl rfl (lb hb4838) (runs_call (s := []) (t := []) (N := 9) (bor := []) fn17 rfl (s_quirelaw01_Same k x4766 x4821 x4841 h4839) ⟨rfl, trivial, by decide, rfl, trivial⟩ rfl trivial (.ren rfl rfl (.ren rfl rfl .nil)) rfl trivial rfl) rfl ?_
       refine WPL.q (q_pickT (v := .lit (.bool _)) (lb hb4838) rfl) rfl ?_
       refine WPL.q (q_mv (v := .lit (.bool _)) rfl) rfl ?_
       refine WPL.split (t := 86) (b := x4841) rfl (fun hb4841 => ?_) (fun hb4841 => ?_)
       · replace H := cnt hb4841 H
         refine WPL.qg rfl rfl (lb hb4841) (q_mv (v := .lit (.int _ _)) rfl) rfl ?_
         refine WPL.qg rfl rfl (lb hb4841) (q_eql rfl rfl) rfl ?_
         refine WPL.q (q_pickT (v := .lit (.bool _)) (lb hb4841) rfl) rfl ?_
         refine WPL.q (q_mv (v := .lit (.bool _)) rfl) rfl ?_
         refine WPL.split (t := 90) (b := (decide (x4828 = 10))) rfl (fun hb4842 => ?_) (fun hb4842 => ?_)
         · replace H := cnt hb4842 H
           obtain ⟨x4845, h4843, H⟩ := bnd H
           refine WPL.cg rfl rfl (lb hb4842) (runs_call (s := []) (t := []) (N := 9) (bor := []) fn15 rfl (s_quirelaw03_alive k x4845 h4843) ⟨rfl, trivial, by decide, rfl, trivial⟩ rfl trivial .nil rfl trivial rfl) rfl ?_
           refine WPL.q (q_pickT (v := .lit (.bool _)) (lb hb4842) rfl) rfl ?_
           refine WPL.q (q_as (v := .lit (.bool _)) rfl) rfl ?_
           refine WPL.nilW ?_
           have q0 := (Option.some.inj H)
           subst q0
           exact W.wk [] hnp ⟨rfl, rfl, rfl⟩ ⟨rfl, trivial, by decide, rfl, trivial⟩ (LeE.upd rfl rfl (LeE.none rfl rfl)) rfl
         replace H := cnf hb4842 H
         refine WPL.skipg (b' := false) rfl rfl (lb hb4842) rfl rfl (.inl (by simp only [SkipOk]; kernel_rfl)) ?_
         refine WPL.q (q_pickF (v := .lit (.bool _)) (lb hb4842) rfl) rfl ?_
         refine WPL.q (q_as (v := .lit (.bool _)) rfl) rfl ?_
         refine WPL.nilW ?_
         have q0 := (Option.some.inj H)
         subst q0
         exact W.wk [] hnp ⟨rfl, rfl, rfl⟩ ⟨rfl, trivial, by decide, rfl, trivial⟩ (LeE.upd rfl rfl (LeE.none rfl rfl)) rfl
       replace H := cnf hb4841 H
       refine WPL.skipg (b' := false) rfl rfl (lb hb4841) rfl rfl (.inl trivial) ?_
       refine WPL.skipg (b' := false) rfl rfl (lb hb4841) rfl rfl (.inl trivial) ?_
       refine WPL.q (q_pickF (v := .lit (.bool _)) (lb hb4841) rfl) rfl ?_
       refine WPL.q (q_mv (v := .lit (.bool _)) rfl) rfl ?_
       refine WPL.skipg (b' := false) rfl rfl rfl rfl rfl (.inl (by simp only [SkipOk]; kernel_rfl)) ?_
       refine WPL.q (q_pickF (v := .lit (.bool _)) rfl rfl) rfl ?_
       refine WPL.q (q_as (v := .lit (.bool _)) rfl) rfl ?_
       refine WPL.nilW ?_
       have q0 := (Option.some.inj H)
       subst q0
       exact W.wk [] hnp ⟨rfl, rfl, rfl⟩ ⟨rfl, trivial, by decide, rfl, trivial⟩ (LeE.upd rfl rfl (LeE.none rfl rfl)) rfl
     replace H := cnf hb4838 H
     refine WPL.skipg (b' := false) rfl rfl (lb hb4838) rfl rfl (.inl trivial) ?_
     refine WPL.skipg (b' := false) rfl rfl (lb hb4838) rfl rfl (.inl trivial) ?_
     refine WPL.skipg (b' := false) rfl rfl (lb hb4838) rfl rfl (.inl (by simp only [SkipOk]; kernel_rfl)) ?_
     refine WPL.q (q_pickF (v := .lit (.bool _)) (lb hb4838) rfl) rfl ?_
     refine WPL.q (q_mv (v := .lit (.bool _)) rfl) rfl ?_
     refine WPL.skipg (b' := false) rfl rfl rfl rfl rfl (.inl trivial) ?_
     refine WPL.skipg (b' := false) rfl rfl rfl rfl rfl (.inl trivial) ?_
     refine WPL.q (q_pickF (v := .lit (.bool _)) rfl rfl) rfl ?_
     refine WPL.q (q_mv (v := .lit (.bool _)) rfl) rfl ?_
     refine WPL.skipg (b' := false) rfl rfl rfl rfl rfl (.inl (by simp only [SkipOk]; kernel_rfl)) ?_
     refine WPL.q (q_pickF (v := .lit (.bool _)) rfl rfl) rfl ?_
     refine WPL.q (q_as (v := .lit (.bool _)) rfl) rfl ?_
     refine WPL.nilW ?_
     have q0 := (Option.some.inj H)
     subst q0
     exact W.wk [] hnp ⟨rfl, rfl, rfl⟩ ⟨rfl, trivial, by decide, rfl, trivial⟩ (LeE.upd rfl rfl (LeE.none rfl rfl)) rfl
   replace H := cnf hb4837 H
   refine WPL.skipg (b' := false) rfl rfl (lb hb4837) rfl rfl (.inl trivial) ?_
   refine WPL.skipg (b' := false) rfl rfl (lb hb4837) rfl rfl (.inl trivial) ?_
   refine WPL.skipg (b' := false) rfl rfl (lb hb4837) rfl rfl (.inl trivial) ?_
   refine WPL.q (q_pickF (v := .lit (.bool _)) (lb hb4837) rfl) rfl ?_
   refine WPL.q (q_mv (v := .lit (.bool _)) rfl) rfl ?_
   refine WPL.skipg (b' := false) rfl rfl rfl rfl rfl (.inl trivial) ?_
   refine WPL.skipg (b' := false) rfl rfl rfl rfl rfl (.inl trivial) ?_
   refine WPL.skipg (b' := false) rfl rfl rfl rfl rfl (.inl (by simp only [SkipOk]; kernel_rfl)) ?_
   refine WPL.q (q_pickF (v := .lit (.bool _)) rfl rfl) rfl ?_
   refine WPL.q (q_mv (v := .lit (.bool _)) rfl) rfl ?_
   refine WPL.skipg (b' := false) rfl rfl rfl rfl rfl (.inl trivial) ?_
   refine WPL.skipg (b' := false) rfl rfl rfl rfl rfl (.inl trivial) ?_
   refine WPL.q (q_pickF (v := .lit (.bool _)) rfl rfl) rfl ?_
   refine WPL.q (q_mv (v := .lit (.bool _)) rfl) rfl ?_
   refine WPL.skipg (b' := false) rfl rfl rfl rfl rfl (.inl (by simp only [SkipOk]; kernel_rfl)) ?_
   refine WPL.q (q_pickF (v := .lit (.bool _)) rfl rfl) rfl ?_
   refine WPL.q (q_as (v := .lit (.bool _)) rfl) rfl ?_
   refine WPL.nilW ?_
   have q0 := (Option.some.inj H)
   subst q0
   exact W.wk [] hnp ⟨rfl, rfl, rfl⟩ ⟨rfl, trivial, by decide, rfl, trivial⟩ (LeE.upd rfl rfl (LeE.none rfl rfl)) rfl
 rintro _ _ _ ⟨rfl, rfl, rfl⟩
 refine W.now ?_
 refine Then.n ?_
 refine WP.retW ?_
 have q0 := (Option.some.inj H)
 subst q0
 exact W.now (BodyR.mkR trivial rfl [] ⟨rfl, rfl⟩ ⟨rfl, trivial, by decide, rfl, trivial⟩ rfl rfl)
end Go.Proofs.Ytpceecokdpdgfaa.W
namespace Go.Proofs.Ytpceecokdpdgfaa.W
open Go Go.Q Go.Proofs
set_option linter.unusedVariables false
set_option linter.unusedSimpArgs false
end Go.Proofs.Ytpceecokdpdgfaa.W
namespace Go.Proofs.Ytpceecokdpdgfaa.W
open Go Go.Q Go.Proofs
set_option linter.unusedVariables false
set_option linter.unusedSimpArgs false
/-- What a length takes of the room. -/
def wt (x : Int) : Int := if 0 < x then 2 ^ (15 - x.toNat) else 0
def there (x : Int) : Int := if 0 < x then 1 else 0
def sumW : List Int → Int
  | [] => 0
  | x :: l => wt x + sumW l
def cntL : List Int → Int
  | [] => 0
  | x :: l => there x + cntL l
def badX (x : Int) : Prop := x < 0 ∨ 15 < x
instance (x : Int) : Decidable (badX x) := by unfold badX; infer_instance
def badL (l : List Int) : Prop := ∃ x ∈ l, badX x
instance (l : List Int) : Decidable (badL l) := by unfold badL; infer_instance
theorem pow15 {x : Int} (h0 : 0 < x) (h1 : x ≤ 15) : 1 ≤ (2 : Int) ^ (15 - x.toNat) ∧ (2 : Int) ^ (15 - x.toNat) ≤ 16384 := by
  have : ∃ n : Nat, x.toNat = n ∧ 1 ≤ n ∧ n ≤ 15 := ⟨x.toNat, rfl, by omega, by omega⟩
  obtain ⟨n, hn, h2, h3⟩ := this
  rw [hn]
  obtain rfl | rfl | rfl | rfl | rfl | rfl | rfl | rfl | rfl | rfl | rfl | rfl | rfl | rfl | rfl : n = 1 ∨ n = 2 ∨ n = 3 ∨ n = 4 ∨ n = 5 ∨ n = 6 ∨ n = 7 ∨ n = 8 ∨ n = 9 ∨ n = 10 ∨ n = 11 ∨ n = 12 ∨ n = 13 ∨ n = 14 ∨ n = 15 := by omega
  all_goals decide
theorem wt_le {x : Int} (h : ¬ badX x) : 0 ≤ wt x ∧ wt x ≤ 16384 := by
  unfold badX at h
  unfold wt
  split
  · have := pow15 (x := x) (by omega) (by omega); omega
  · omega
theorem shl1 {b : Nat} (h : b ≤ 15) : shlI .i64 1 (b : Int) = 2 ^ b := by
  obtain rfl | rfl | rfl | rfl | rfl | rfl | rfl | rfl | rfl | rfl | rfl | rfl | rfl | rfl | rfl | rfl : b = 0 ∨ b = 1 ∨ b = 2 ∨ b = 3 ∨ b = 4 ∨ b = 5 ∨ b = 6 ∨ b = 7 ∨ b = 8 ∨ b = 9 ∨ b = 10 ∨ b = 11 ∨ b = 12 ∨ b = 13 ∨ b = 14 ∨ b = 15 := by omega
  all_goals rfl
theorem shlw {x : Int} (h0 : 0 < x) (h1 : x ≤ 15) : shlI .i64 1 (15 - x) = 2 ^ (15 - x.toNat) := by
  rw [show (15 : Int) - x = ((15 - x.toNat : Nat) : Int) by omega]
  exact shl1 (by omega)
theorem drop_cons {α : Type} {l : List α} {i : Nat} (h : i < l.length) : l.drop i = l[i] :: l.drop (i + 1) := List.drop_eq_getElem_cons h
theorem badL_cons {x : Int} {l : List Int} : badL (x :: l) ↔ badX x ∨ badL l := by simp [badL]
theorem wsucc {i : Nat} (h : i < 9223372036854775807) : IntKind.wrap .i64 ((i : Int) + 1) = ((i + 1 : Nat) : Int) := by rw [wi (by omega) (by omega)]; omega
theorem g_huff_judged_l0_eq (k : Nat) (l : List Int) (hl : l.length ≤ 320) : ∀ (n i : Nat) (a m : Int), i ≤ l.length → l.length - i < n → -100000000 + 16384 * ((l.length : Int) - i) ≤ a → a ≤ 100000000 → 0 ≤ m → m ≤ i →
    g_huff_judged_l0 k l n a m i = some (if badL (l.drop i) then Sum.inl () else Sum.inr (a - sumW (l.drop i), m + cntL (l.drop i))) := by
  intro n
  induction n with
  | zero => intro i a m _ h; omega
  | succ n ih =>
    intro i a m hi hn ha1 ha2 hm0 hm
    rw [g_huff_judged_l0.eq_2]
    simp only [Option.bind_some, bd]
    by_cases h : i < l.length
    · have e : ix l (i : Int) = some l[i] := ix_nat h
      rw [if_pos (by omega), e, drop_cons h]
      simp only [Option.bind_some, badL_cons, sumW, cntL]
      generalize hx : l[i] = x
      by_cases hb : badX x
      · have hb' : (if x < 0 then some true else some (decide (15 < x))) = some true := by
          unfold badX at hb
          split
          · rfl
          · rw [dt (by omega)]
        rw [hb', if_pos (Or.inl hb : badX x ∨ badL (l.drop (i + 1)))]
        rfl
      · have hb' : (if x < 0 then some true else some (decide (15 < x))) = some false := by
          unfold badX at hb
          rw [if_neg (by omega), df (by omega)]
        have hw := wt_le hb
        unfold badX at hb
        rw [hb']
        simp only [Option.bind_some, bf, or_iff_right (show ¬ badX x by unfold badX; exact hb)]
        unfold wt there at *
        by_cases h0 : 0 < x
        · rw [if_pos h0] at hw
          rw [if_pos h0, wi (n := 15 - x) (by omega) (by omega), if_pos (by omega), shlw h0 (by omega), if_pos h0, if_pos h0]
          rw [wi (n := a - 2 ^ (15 - x.toNat)) (by omega) (by omega), wi (n := m + 1) (by omega) (by omega), wsucc (by omega)]
          simp only [Option.bind_some]
          rw [ih (i + 1) _ _ (by omega) (by omega) (by omega) (by omega) (by omega) (by omega)]
          simp only [Int.sub_sub, Int.add_assoc]
        · rw [if_neg h0, if_neg h0, if_neg h0, wsucc (by omega)]
          simp only [Option.bind_some]
          rw [ih (i + 1) _ _ (by omega) (by omega) (by omega) (by omega) (by omega) (by omega)]
          simp only [Int.zero_add]
    · rw [if_neg (by omega), List.drop_of_length_le (by omega), if_neg (by simp [badL])]
      simp [sumW, cntL]
/-- The chapter's judgement. -/
def judge (l : List Int) : Bool × Int :=
  if 320 < l.length then (false, 1) else if badL l then (false, 1) else if sumW l = 32768 then (true, 0) else if cntL l = 0 ∨ cntL l = 1 ∧ sumW l = 16384 then (false, 0) else (false, 11)
theorem sumW_le : ∀ {l : List Int}, ¬ badL l → 0 ≤ sumW l ∧ sumW l ≤ 16384 * (l.length : Int)
  | [], _ => by simp [sumW]
  | x :: l, h => by
    rw [badL_cons, not_or] at h
    have h1 := wt_le h.1
    have h2 := sumW_le h.2
    simp only [sumW, List.length_cons]
    omega
theorem g_huff_judged_eq {k : Nat} {l : List Int} (hk : 330 ≤ k) : g_huff_judged k l = some (judge l) := by
  unfold g_huff_judged judge
  simp only [Option.bind_some, bd]
  by_cases h : 320 < l.length
  · rw [if_pos (by omega), if_pos h]
  · rw [if_neg (by omega), if_neg h]
    have e := g_huff_judged_l0_eq k l (by omega) k 0 32768 0 (by omega) (by omega) (by omega) (by omega) (by omega) (by omega)
    rw [List.drop_zero] at e
    have e' : g_huff_judged_l0 k l k 32768 0 0 = _ := e
    rw [e']
    by_cases hb : badL l
    · rw [if_pos hb, if_pos hb]; rfl
    · have hs := sumW_le hb
      rw [if_neg hb, if_neg hb]
      simp only [Option.bind_some, Int.zero_add]
      by_cases h1 : sumW l = 32768
      · rw [if_pos (by omega), if_pos h1]
      · rw [if_neg (by omega), if_neg h1]
        by_cases h2 : cntL l = 0
        · rw [if_pos h2, dt h2, if_pos (.inl h2)]; rfl
        · rw [if_neg h2]
          by_cases h3 : cntL l = 1
          · rw [if_pos h3]
            by_cases h4 : sumW l = 16384
            · rw [dt (by omega), if_pos (.inr ⟨h3, h4⟩)]; rfl
            · rw [df (by omega), if_neg (by omega)]; rfl
          · rw [if_neg h3, if_neg (by omega)]; rfl
theorem judge_ok {l : List Int} (h : (judge l).2 = 0) : l.length ≤ 320 ∧ ¬ badL l ∧ (sumW l = 32768 ∨ cntL l = 0 ∨ cntL l = 1 ∧ sumW l = 16384) := by
  unfold judge at h
  by_cases h0 : 320 < l.length
  · rw [if_pos h0] at h; cases h
  · rw [if_neg h0] at h
    by_cases hb : badL l
    · rw [if_pos hb] at h; cases h
    · rw [if_neg hb] at h
      refine ⟨by omega, hb, ?_⟩
      by_cases h1 : sumW l = 32768
      · exact .inl h1
      · rw [if_neg h1] at h
        by_cases h2 : cntL l = 0 ∨ cntL l = 1 ∧ sumW l = 16384
        · exact .inr h2
        · rw [if_neg h2] at h; cases h
/-- How many have a length. -/
abbrev cn (l : List Int) (c : Nat) : Nat := l.count (c : Int)
/-- Half of the first code of a length. -/
def hf (l : List Int) : Nat → Nat
  | 0 => 0
  | c + 1 => if c = 0 then 0 else 2 * hf l c + cn l c
end Go.Proofs.Ytpceecokdpdgfaa.W
namespace Go.Proofs.Ytpceecokdpdgfaa.W
open Go Go.Q Go.Proofs
set_option linter.unusedVariables false
set_option linter.unusedSimpArgs false
def okB (b : List Int) : Prop := ∀ x ∈ b, 0 ≤ x ∧ x ≤ 255
/-- A bit of bytes. -/
def tk (B : List Int) (a : Nat) : Nat := (B.getD (a / 8) 0).toNat / 2 ^ (a % 8) % 2
theorem tk_le (B : List Int) (a : Nat) : tk B a ≤ 1 := by unfold tk; omega
theorem byte_bit64 {x : Int} (h : 0 ≤ x ∧ x ≤ 255) {p : Nat} (hp : p ≤ 7) : IntKind.wrap .u32 (bits .and .u64 (bits .or .u64 0 (shlI .u64 (IntKind.wrap .u64 (shrI .u8 x (p : Int))) 0)) 1) = ((x.toNat / 2 ^ p % 2 : Nat) : Int) := by
  obtain ⟨b, rfl⟩ : ∃ b : BitVec 8, x = (b.toNat : Int) := ⟨BitVec.ofNat 8 x.toNat, by simp; omega⟩
  rw [u8_shr, u64_of_u8, show (1 : Int) = ((1#64).toNat : Int) from rfl, show (0 : Int) = ((0#64).toNat : Int) from rfl, u64_shl, u64_or, u64_and, u32_of_u64, Int.toNat_natCast, Int.toNat_natCast]
  congr 1
  rw [BitVec.toNat_setWidth, BitVec.toNat_and, show (1#64).toNat = 1 from rfl, Nat.and_one_is_mod, BitVec.toNat_or, BitVec.toNat_shiftLeft, BitVec.toNat_setWidth, BitVec.toNat_ushiftRight, Nat.shiftRight_eq_div_pow]
  have hb := b.isLt
  have h2 : b.toNat / 2 ^ p ≤ b.toNat := Nat.div_le_self _ _
  simp only [show (0#64).toNat = 0 from rfl, Int.toNat_natCast, Int.toNat_zero, Nat.shiftLeft_zero, Nat.zero_or]
  rw [Nat.mod_eq_of_lt (show b.toNat / 2 ^ p < 2 ^ 64 by omega), Nat.mod_eq_of_lt (show b.toNat / 2 ^ p < 2 ^ 64 by omega)]
  omega
theorem g_bits_Reader_Take_eq (k : Nat) (hk : 10 ≤ k) (B : List Int) (hB : okB B) (hl : B.length ≤ 140737488355328) (a : Nat) (ha : a ≤ 8 * B.length) :
    g_bits_Reader_Take k 1 (B.drop (a / 8)) ((a % 8 : Nat) : Int) = if a < 8 * B.length then some ((tk B a : Int), 0, B.drop ((a + 1) / 8), (((a + 1) % 8 : Nat) : Int)) else some (0, 10, B.drop (a / 8), ((a % 8 : Nat) : Int)) := by
  unfold g_bits_Reader_Take g_bits_Reader_Left
  simp only [Option.bind_some, bd]
  rw [if_neg (by omega), df (by omega)]
  simp only [Option.bind_some, bf, List.length_drop]
  rw [wi (n := 8 * ((B.length - a / 8 : Nat) : Int)) (by omega) (by omega), wi (n := 8 * ((B.length - a / 8 : Nat) : Int) - ((a % 8 : Nat) : Int)) (by omega) (by omega)]
  by_cases h : a < 8 * B.length
  · rw [if_neg (by omega), if_pos h]
    obtain ⟨k, rfl⟩ : ∃ k', k = k' + 2 := ⟨k - 2, by omega⟩
    have hi : a / 8 < B.length := by omega
    have e1 : ix (B.drop (a / 8)) 0 = some B[a / 8] := by
      unfold ix
      rw [if_pos (by omega), Int.toNat_zero, List.getElem?_drop, Nat.add_zero, List.getElem?_eq_getElem hi]
    rw [g_bits_Reader_Take_l0.eq_2]
    simp only [Option.bind_some, bd]
    rw [if_pos (by omega), e1]
    simp only [Option.bind_some]
    rw [if_pos (by omega), if_pos (by omega)]
    have hv : IntKind.wrap .u32 (bits .and .u64 (bits .or .u64 0 (shlI .u64 (IntKind.wrap .u64 (shrI .u8 B[a / 8] ((a % 8 : Nat) : Int))) 0)) 1) = (tk B a : Int) := by
      rw [byte_bit64 (hB _ (List.getElem_mem hi)) (by omega)]
      simp [tk, List.getD_eq_getElem?_getD, List.getElem?_eq_getElem hi]
    have hm : IntKind.wrap .u64 (shlI .u64 1 1 - 1) = 1 := by decide
    have hmin : (if (1 : Int) - 0 < 8 - ((a % 8 : Nat) : Int) then (1 : Int) - 0 else 8 - ((a % 8 : Nat) : Int)) = 1 := by split <;> omega
    rw [wi (n := (1 : Int) - 0) (by omega) (by omega), wi (n := (8 : Int) - ((a % 8 : Nat) : Int)) (by omega) (by omega), hmin, wi (n := ((a % 8 : Nat) : Int) + 1) (by omega) (by omega), wi (n := (0 : Int) + 1) (by omega) (by omega)]
    have fin : ∀ v b p, g_bits_Reader_Take_l0 (k + 2) 1 (k + 1) v (0 + 1) b p = some (v, b, p) := by
      intro v b p
      rw [g_bits_Reader_Take_l0.eq_2, bd, if_neg (by omega)]
    by_cases h8 : a % 8 = 7
    · rw [if_pos (by omega), if_pos (by simp; omega), fin]
      simp only [Option.bind_some]
      rw [if_pos (by omega), hm, hv]
      have e3 : (a + 1) / 8 = a / 8 + 1 := by omega
      have e4 : (a + 1) % 8 = 0 := by omega
      rw [e3, e4, Int.toNat_natCast, List.take_length, show Int.toNat 1 = 1 from rfl, List.drop_drop]
      rfl
    · rw [if_neg (by omega), fin]
      simp only [Option.bind_some]
      rw [if_pos (by omega), hm, hv]
      have e3 : (a + 1) / 8 = a / 8 := by omega
      have e4 : (a + 1) % 8 = a % 8 + 1 := by omega
      rw [e3, e4]
      rfl
  · rw [if_pos (by omega), if_neg h]
theorem shl64 {n : Nat} (h : n ≤ 65536) : shlI .i64 (n : Int) 1 = ((2 * n : Nat) : Int) := by
  show IntKind.wrap .i64 ((n : Int) * 2) = _
  rw [wi (by omega) (by omega)]
  omega
theorem or_bit {v b : Nat} (hb : b ≤ 1) : 2 * v ||| b = 2 * v + b := by
  rcases Nat.le_one_iff_eq_zero_or_eq_one.1 hb with rfl | rfl
  · simp
  · apply Nat.eq_of_testBit_eq
    intro i
    rw [Nat.testBit_or]
    cases i with
    | zero => simp [Nat.testBit_zero]
    | succ i => rw [Nat.testBit_succ, Nat.testBit_succ, Nat.testBit_succ, show 2 * v / 2 = v by omega, show (2 * v + 1) / 2 = v by omega]; simp
theorem or_bit64 {v b : Nat} (hv : v ≤ 65536) (hb : b ≤ 1) : bits .or .i64 (((2 * v : Nat) : Int)) (b : Int) = ((2 * v + b : Nat) : Int) := by
  have e : bits .or .i64 (((2 * v : Nat) : Int)) (b : Int) = IntKind.wrap .i64 ((BitVec.ofInt 64 ((2 * v : Nat) : Int) ||| BitVec.ofInt 64 (b : Int)).toNat : Int) := rfl
  rw [e, BitVec.ofInt_natCast, BitVec.ofInt_natCast, BitVec.toNat_or, BitVec.toNat_ofNat, BitVec.toNat_ofNat, Nat.mod_eq_of_lt (by omega), Nat.mod_eq_of_lt (by omega), or_bit hb, wi (by omega) (by omega)]
end Go.Proofs.Ytpceecokdpdgfaa.W
namespace Go.Proofs.Ytpceecokdpdgfaa.W
open Go Go.Q Go.Proofs
set_option linter.unusedVariables false
set_option linter.unusedSimpArgs false
/-- Where a length stands. -/
def ixs (c : Int) : List Int → Nat → List Int
  | [], _ => []
  | x :: l, i => if x = c then (i : Int) :: ixs c l (i + 1) else ixs c l (i + 1)
theorem ixs_length (c : Int) : ∀ (l : List Int) (i : Nat), (ixs c l i).length = l.count c
  | [], _ => rfl
  | x :: l, i => by
    unfold ixs
    by_cases hx : x = c
    · subst hx; rw [if_pos rfl, List.count_cons_self]; simp [ixs_length]
    · rw [if_neg hx, List.count_cons_of_ne hx, ixs_length]
theorem g_huff_New_l1_ok (k : Nat) (l : List Int) (hl : l.length ≤ 320) (c : Nat) (hc : c < 16) : ∀ (n i : Nat) (cs sy : List Int), i ≤ l.length → l.length - i < n → sy.length + (l.length - i) ≤ 100000 → 0 ≤ cs.getD c 0 → cs.getD c 0 + (l.length - i : Nat) ≤ 100000 →
    Ret (g_huff_New_l1 k l c n i cs sy) fun r => ∃ cs', r = Sum.inr (cs', sy ++ ixs c (l.drop i) i) ∧ ∀ d, d < 16 → cs'.getD d 0 = cs.getD d 0 + if d = c then ((l.drop i).count (c : Int) : Int) else 0 := by
  intro n
  induction n with
  | zero => intro i cs sy _ h; omega
  | succ n ih =>
    intro i cs sy hi hn hsy h0 hcs
    rw [g_huff_New_l1.eq_2]
    simp only [Option.bind_some, bd]
    by_cases h : i < l.length
    · have e : ix l (i : Int) = some l[i] := ix_nat h
      rw [if_pos (by omega), e, drop_cons h]
      simp only [Option.bind_some]
      by_cases hx : l[i] = (c : Int)
      · rw [if_pos hx, if_pos (by omega), if_pos (by omega), if_pos (by simp; omega), Int.toNat_natCast, wi (n := cs.getD c 0 + 1) (by omega) (by omega), wsucc (by omega)]
        simp only [Option.bind_some, Bool.not_true, bf]
        obtain ⟨r, h1, cs', rfl, h3⟩ := ih (i + 1) (setD 0 cs 16 c (cs.getD c 0 + 1)) (sy ++ [(i : Int)]) (by omega) (by omega) (by simp; omega) (by rw [setD_get hc, if_pos rfl]; omega) (by rw [setD_get hc, if_pos rfl]; omega)
        refine ⟨_, h1, cs', by simp [ixs, hx], fun d hd => ?_⟩
        rw [h3 d hd, setD_get hd, hx, List.count_cons_self]
        split
        · rename_i hdc; subst hdc; omega
        · omega
      · rw [if_neg hx, wsucc (by omega)]
        simp only [Option.bind_some, bf]
        obtain ⟨r, h1, cs', rfl, h3⟩ := ih (i + 1) cs sy (by omega) (by omega) (by omega) h0 (by omega)
        refine ⟨_, h1, cs', by simp [ixs, hx], fun d hd => ?_⟩
        rw [h3 d hd, List.count_cons_of_ne hx]
    · rw [if_neg (by omega)]
      refine Ret.pure ⟨cs, by rw [List.drop_of_length_le (by omega)]; simp [ixs], fun d hd => ?_⟩
      rw [List.drop_of_length_le (by omega)]
      simp
/-- The symbols of lengths c, c + 1, ... -/
def symsFrom (l : List Int) : Nat → Nat → List Int
  | 0, _ => []
  | m + 1, c => ixs c l 0 ++ symsFrom l m (c + 1)
theorem g_huff_New_l0_ok (k : Nat) (l : List Int) (hl : l.length ≤ 320) (hk : 330 ≤ k) : ∀ (n m c : Nat) (cs sy : List Int), c + m = 16 → m < n → sy.length + 320 * m ≤ 90000 → (∀ d, d < 16 → 0 ≤ cs.getD d 0 ∧ cs.getD d 0 ≤ 320 * c) →
    Ret (g_huff_New_l0 k l n cs sy c) fun r => ∃ cs', r = (cs', sy ++ symsFrom l m c) ∧ ∀ d, d < 16 → cs'.getD d 0 = cs.getD d 0 + if c ≤ d then (cn l d : Int) else 0 := by
  intro n
  induction n with
  | zero => intro m c cs sy _ h; omega
  | succ n ih =>
    intro m c cs sy hc hm hsy hcs
    rw [g_huff_New_l0.eq_2, bd]
    cases m with
    | zero => rw [if_neg (by omega)]; exact Ret.pure ⟨cs, by simp [symsFrom], fun d hd => by rw [if_neg (by omega)]; omega⟩
    | succ m =>
      have h0 := hcs c (by omega)
      obtain ⟨r, h1, cs1, rfl, h3⟩ := g_huff_New_l1_ok k l hl c (by omega) k 0 cs sy (by omega) (by omega) (by omega) h0.1 (by omega)
      have h1' : g_huff_New_l1 k l c k 0 cs sy = _ := h1
      rw [if_pos (by omega), h1', wi (by omega) (by omega)]
      simp only [g_huff_of, Option.bind_some, List.drop_zero] at h3 ⊢
      rw [show (c : Int) + 1 = ((c + 1 : Nat) : Int) by omega]
      have hle : ∀ d, cn l d ≤ 320 := fun d => Nat.le_trans List.count_le_length hl
      have hlc : (ixs c l 0).length ≤ 320 := by rw [ixs_length]; exact hle c
      obtain ⟨r, g1, cs2, rfl, g3⟩ := ih m (c + 1) cs1 (sy ++ ixs c l 0) (by omega) (by omega) (by simp; omega) (fun d hd => by
        have := h3 d hd
        have h5 := hcs d hd
        have h6 := hle c
        simp only [cn] at h6
        rw [this]
        split <;> omega)
      refine ⟨_, g1, cs2, by simp [symsFrom], fun d hd => ?_⟩
      rw [g3 d hd, h3 d hd]
      by_cases hd' : d = c
      · subst hd'; rw [if_pos rfl, if_neg (by omega), if_pos (by omega)]; simp [cn]
      · rw [if_neg hd']
        by_cases h7 : c ≤ d
        · rw [if_pos (by omega), if_pos h7]; omega
        · rw [if_neg (by omega), if_neg h7]; omega
/-- A decoder of lengths. -/
structure Dec (l : List Int) (cs sy : List Int) : Prop where
  cs : ∀ d, 1 ≤ d → d ≤ 15 → cs.getD d 0 = (cn l d : Int)
  sy : sy = symsFrom l 15 1
theorem g_huff_New_ok {k : Nat} (hk : 330 ≤ k) {l : List Int} : if (judge l).2 = 0 then ∃ cs sy, g_huff_New k l = some (Sum.inr (cs, sy)) ∧ Dec l cs sy else g_huff_New k l = some (Sum.inl (judge l).2) := by
  have e : g_huff_New k l = (if (judge l).2 = 0 then ((g_huff_New_l0 k l k (List.replicate 16 (0 : Int)) ([] : List Int) 1).bind fun (x7571, x7572) => some (Sum.inr (x7571, x7572))) else some (Sum.inl (judge l).2)) := by
    unfold g_huff_New
    rw [g_huff_judged_eq hk]
    simp only [Option.bind_some, bnd']
  by_cases h : (judge l).2 = 0
  · rw [if_pos h] at e ⊢
    have hz : ∀ d, d < 16 → (List.replicate 16 (0 : Int)).getD d 0 = 0 := by
      intro d hd
      rw [List.getD_eq_getElem?_getD, List.getElem?_replicate, if_pos hd]; rfl
    obtain ⟨r, h1, cs, rfl, h3⟩ := g_huff_New_l0_ok k l (judge_ok h).1 hk k 15 1 (List.replicate 16 (0 : Int)) [] (by omega) (by omega) (by simp) (fun d hd => by rw [hz d hd]; omega)
    have h1' : g_huff_New_l0 k l k (List.replicate 16 (0 : Int)) [] 1 = _ := h1
    refine ⟨cs, _, by rw [e, h1']; rfl, fun d h1 h2 => ?_, rfl⟩
    rw [h3 d (by omega), hz d (by omega), if_pos (by omega), Int.zero_add]
  · rw [if_neg h] at e ⊢; exact e
/-- How many symbols have shorter codes. -/
def ah (l : List Int) : Nat → Nat
  | 0 => 0
  | c + 1 => if c = 0 then 0 else ah l c + cn l c
theorem ah_le (l : List Int) : ∀ (b a : Nat), a ≤ b → ah l a ≤ ah l b
  | 0, a, h => by have : a = 0 := by omega
                  subst this; exact Nat.le_refl _
  | b + 1, a, h => by
    by_cases hab : a = b + 1
    · subst hab; exact Nat.le_refl _
    · refine Nat.le_trans (ah_le l b a (by omega)) ?_
      simp only [ah]
      split
      · rename_i hb; subst hb; simp [ah]
      · omega
theorem symsFrom_length (l : List Int) : ∀ (m c : Nat), 1 ≤ c → ah l c + (symsFrom l m c).length = ah l (c + m)
  | 0, c, _ => by simp [symsFrom]
  | m + 1, c, h => by
    have ih := symsFrom_length l m (c + 1) (by omega)
    have e : ah l (c + 1) = ah l c + cn l c := by simp only [ah, if_neg (show ¬ c = 0 by omega)]
    rw [symsFrom, List.length_append, ixs_length, show c + (m + 1) = c + 1 + m by omega, ← ih, e]
    simp only [cn]; omega
end Go.Proofs.Ytpceecokdpdgfaa.W
namespace Go.Proofs.Ytpceecokdpdgfaa.W
open Go Go.Q Go.Proofs
set_option linter.unusedVariables false
set_option linter.unusedSimpArgs false
theorem ah_bound {l : List Int} (hl : l.length ≤ 320) : ah l 16 ≤ 4800 := by
  have hle : ∀ d, cn l d ≤ 320 := fun d => Nat.le_trans List.count_le_length hl
  have h3 : ∀ c, 1 ≤ c → ah l c ≤ 320 * (c - 1) := by
    intro c
    induction c with
    | zero => intro h; omega
    | succ c ihc =>
      intro _
      by_cases hc0 : c = 0
      · subst hc0; simp [ah]
      · have := ihc (by omega); have := hle c; simp only [ah, if_neg hc0]; omega
  have := h3 16 (by omega)
  omega
theorem Dec.len {l cs sy : List Int} (hd : Dec l cs sy) : sy.length = ah l 16 := by
  have := symsFrom_length l 15 1 (by omega)
  rw [hd.sy]
  simpa [ah] using this
end Go.Proofs.Ytpceecokdpdgfaa.W
namespace Go.Proofs.Ytpceecokdpdgfaa.W
open Go Go.Q Go.Proofs
set_option linter.unusedVariables false
set_option linter.unusedSimpArgs false
/-- The same bytes ahead of a bit, as far as there are any. -/
def Ag (B C : List Int) (a : Nat) : Prop := ∀ i, 8 * i < a → i < C.length → C[i]? = B[i]?
theorem Ag.mono {B C : List Int} {a b : Nat} (h : Ag B C b) (hab : a ≤ b) : Ag B C a := fun i h1 h2 => h i (by omega) h2
theorem Ag.refl (B : List Int) (a : Nat) : Ag B B a := fun _ _ _ => rfl
abbrev TM (α : Type) := Int → List Int → Int → Option (Int ⊕ (α × List Int × Int))
abbrev TW := Int → List Int → Int → Option (Int ⊕ (List Int × Int × List Int))
def rX : Nat := 140737488355328
/-- Something that reads: there is an answer; it takes w bits at least. -/
structure GoodM {α : Type} (N w : Nat) (P : α → Prop) (f : TM α) : Prop where
  h : ∀ (B : List Int) (a : Nat) (m : Int), okB B → B.length ≤ rX → a ≤ 8 * B.length → 8 * B.length ≤ a + N →
    (∃ e, e ≠ 0 ∧ f m (B.drop (a / 8)) ((a % 8 : Nat) : Int) = some (.inl e)) ∨
    ∃ a' v, a + w ≤ a' ∧ a' ≤ 8 * B.length ∧ P v ∧
      ∀ (C : List Int) (m' : Int), okB C → C.length ≤ rX → Ag B C a' → a ≤ 8 * C.length →
        f m' (C.drop (a / 8)) ((a % 8 : Nat) : Int) = some (if a' ≤ 8 * C.length then .inr (v, C.drop (a' / 8), ((a' % 8 : Nat) : Int)) else .inl 10)
/-- Something that reads and writes. -/
structure GoodW (N w : Nat) (lo : Nat) (ln : List Int → Nat) (P : List Int → Prop) (f : TW) : Prop where
  h : ∀ (B : List Int) (a : Nat) (m : Int), okB B → B.length ≤ rX → a ≤ 8 * B.length → 8 * B.length ≤ a + N → (lo : Int) ≤ m → m ≤ 65536 →
    (∃ e, e ≠ 0 ∧ f m (B.drop (a / 8)) ((a % 8 : Nat) : Int) = some (.inl e)) ∨
    ∃ a' o, a + w ≤ a' ∧ a' ≤ 8 * B.length ∧ P o ∧ lo ≤ ln o ∧ (ln o : Int) ≤ m ∧
      (∀ (C : List Int), okB C → C.length ≤ rX → Ag B C a' → a ≤ 8 * C.length →
        f m (C.drop (a / 8)) ((a % 8 : Nat) : Int) = some (if a' ≤ 8 * C.length then .inr (C.drop (a' / 8), ((a' % 8 : Nat) : Int), o) else .inl 10)) ∧
      (∀ (m' : Int), (lo : Int) ≤ m' → m' ≤ 65536 →
        f m' (B.drop (a / 8)) ((a % 8 : Nat) : Int) = some (if (ln o : Int) ≤ m' then .inr (B.drop (a' / 8), ((a' % 8 : Nat) : Int), o) else .inl 3))
section
variable {α S : Type} {N w w2 lo : Nat} {ln : List Int → Nat} {P : List Int → Prop} {post : S → Option (Int ⊕ (List Int × Int × List Int))}
theorem GoodW.less {f : TW} (h : GoodW N w lo ln P f) (hw : w2 ≤ w) : GoodW N w2 lo ln P f := ⟨fun B a m hB hl ha hN h1 h2 => by
  rcases h.h B a m hB hl ha hN h1 h2 with h | ⟨a', o, g1, g⟩
  · exact .inl h
  · exact .inr ⟨a', o, by omega, g⟩⟩
theorem GoodW.weak {f : TW} {P' : List Int → Prop} (h : GoodW N w lo ln P f) (hp : ∀ o, P o → P' o) : GoodW N w lo ln P' f := ⟨fun B a m hB hl ha hN h1 h2 => by
  rcases h.h B a m hB hl ha hN h1 h2 with h | ⟨a', o, g1, g2, g3, g⟩
  · exact .inl h
  · exact .inr ⟨a', o, g1, g2, hp o g3, g⟩⟩
theorem GoodW.congr {f g : TW} (h : GoodW N w lo ln P f) (e : ∀ m b p, g m b p = f m b p) : GoodW N w lo ln P g := by
  have : g = f := by funext m b p; exact e m b p
  rw [this]; exact h
theorem GoodM.congr {P : α → Prop} {f g : TM α} (h : GoodM N w P f) (e : ∀ m b p, g m b p = f m b p) : GoodM N w P g := by
  have : g = f := by funext m b p; exact e m b p
  rw [this]; exact h
theorem GoodM.fuel {P : α → Prop} {f : TM α} {N' : Nat} (h : GoodM N w P f) (hN : N' ≤ N) : GoodM N' w P f := ⟨fun B a m hB hl ha hN => h.h B a m hB hl ha (by omega)⟩
theorem GoodW.fuel {f : TW} {N' : Nat} (h : GoodW N w lo ln P f) (hN : N' ≤ N) : GoodW N' w lo ln P f := ⟨fun B a m hB hl ha hN h1 h2 => h.h B a m hB hl ha (by omega) h1 h2⟩
theorem GoodW.vac {f : TW} (h : 65536 < lo) : GoodW N w lo ln P f := ⟨fun B a m hB hl ha hN h1 h2 => absurd h (by omega)⟩
/-- First something is read. -/
theorem GoodW.bindR {Q : α → Prop} {f : TM α} {K : Int → (Int ⊕ (α × List Int × Int)) → Option S} (hf : GoodM N w Q f) (hE : ∀ m e, (K m (.inl e)).bind post = some (.inl e))
    (hG : ∀ v, Q v → w ≤ N → GoodW (N - w) w2 lo ln P (fun m b p => (K m (.inr (v, b, p))).bind post)) :
    GoodW N (w + w2) lo ln P (fun m b p => ((f m b p).bind fun y => K m y).bind post) := ⟨fun B a m hB hl ha hN h1 h2 => by
  rcases hf.h B a m hB hl ha hN with ⟨e, he, h⟩ | ⟨a1, v, g1, g2, g3, g4⟩
  · exact .inl ⟨e, he, by simp only [h, Option.bind_some, hE]⟩
  · have e0 := g4 B m hB hl (Ag.refl B a1) ha
    rw [if_pos g2] at e0
    rcases (hG v g3 (by omega)).h B a1 m hB hl g2 (by omega) h1 h2 with ⟨e, he, h⟩ | ⟨a', o, k1, k2, k3, k4, k5, k6, k7⟩
    · exact .inl ⟨e, he, by simp only [e0, Option.bind_some]; exact h⟩
    · refine .inr ⟨a', o, by omega, k2, k3, k4, k5, fun C hC hCl hag haC => ?_, fun m' hm1 hm2 => ?_⟩
      · have e1 := g4 C m hC hCl (hag.mono (by omega)) haC
        by_cases hc : a1 ≤ 8 * C.length
        · rw [if_pos hc] at e1
          simp only [e1, Option.bind_some]
          exact k6 C hC hCl hag hc
        · rw [if_neg hc] at e1
          rw [if_neg (by omega)]
          simp only [e1, Option.bind_some, hE]
      · have e1 := g4 B m' hB hl (Ag.refl B a1) ha
        rw [if_pos g2] at e1
        simp only [e1, Option.bind_some]
        exact k7 m' hm1 hm2⟩
/-- First something is read and written. -/
theorem GoodW.bindW {ln1 : List Int → Nat} {Q : List Int → Prop} {f : TW} {K : Int → (Int ⊕ (List Int × Int × List Int)) → Option S} (hf : GoodW N w lo ln1 Q f) (hE : ∀ m e, (K m (.inl e)).bind post = some (.inl e))
    (hG : ∀ o, Q o → w ≤ N → GoodW (N - w) w2 (ln1 o) ln P (fun m b p => (K m (.inr (b, p, o))).bind post)) :
    GoodW N (w + w2) lo ln P (fun m b p => ((f m b p).bind fun y => K m y).bind post) := ⟨fun B a m hB hl ha hN h1 h2 => by
  rcases hf.h B a m hB hl ha hN h1 h2 with ⟨e, he, h⟩ | ⟨a1, o1, g1, g2, g3, g4, g5, g6, g7⟩
  · exact .inl ⟨e, he, by simp only [h, Option.bind_some, hE]⟩
  · have e0 := g6 B hB hl (Ag.refl B a1) ha
    rw [if_pos g2] at e0
    rcases (hG o1 g3 (by omega)).h B a1 m hB hl g2 (by omega) g5 h2 with ⟨e, he, h⟩ | ⟨a', o, k1, k2, k3, k4, k5, k6, k7⟩
    · exact .inl ⟨e, he, by simp only [e0, Option.bind_some]; exact h⟩
    · refine .inr ⟨a', o, by omega, k2, k3, by omega, k5, fun C hC hCl hag haC => ?_, fun m' hm1 hm2 => ?_⟩
      · have e1 := g6 C hC hCl (hag.mono (by omega)) haC
        by_cases hc : a1 ≤ 8 * C.length
        · rw [if_pos hc] at e1
          simp only [e1, Option.bind_some]
          exact k6 C hC hCl hag hc
        · rw [if_neg hc] at e1
          rw [if_neg (by omega)]
          simp only [e1, Option.bind_some, hE]
      · have e1 := g7 m' hm1 hm2
        by_cases hc : (ln1 o1 : Int) ≤ m'
        · rw [if_pos hc] at e1
          simp only [e1, Option.bind_some]
          exact k7 m' hc hm2
        · rw [if_neg hc] at e1
          rw [if_neg (by omega)]
          simp only [e1, Option.bind_some, hE]⟩
theorem GoodW.cond {c : Bool} {f g : Int → List Int → Int → Option S} (h1 : c = true → GoodW N w lo ln P (fun m b p => (f m b p).bind post)) (h2 : c = false → GoodW N w lo ln P (fun m b p => (g m b p).bind post)) :
    GoodW N w lo ln P (fun m b p => (bif c then f m b p else g m b p).bind post) := by
  cases c with
  | true => exact h1 rfl
  | false => exact h2 rfl
theorem GoodW.err {E : Int → List Int → Int → Option S} {e : Int} (he : e ≠ 0) (hE : ∀ m b p, (E m b p).bind post = some (.inl e)) : GoodW N w lo ln P (fun m b p => (E m b p).bind post) :=
  ⟨fun B a m hB hl ha hN h1 h2 => .inl ⟨e, he, hE _ _ _⟩⟩
theorem GoodW.err0 {e : Int} (he : e ≠ 0) : GoodW N w lo ln P (fun _ _ _ => some (.inl e)) := ⟨fun B a m hB hl ha hN h1 h2 => .inl ⟨e, he, rfl⟩⟩
theorem GoodW.ret0 {o : List Int} (hP : P o) (hlo : ln o = lo) : GoodW N 0 lo ln P (fun _ b p => some (.inr (b, p, o))) :=
  ⟨fun B a m hB hl ha hN h1 h2 => .inr ⟨a, o, by omega, ha, hP, by omega, by omega, fun C hC hCl hag haC => by rw [if_pos haC], fun m' hm1 hm2 => by rw [if_pos (by omega)]⟩⟩
theorem GoodW.ret {R : Int → List Int → Int → Option S} {o : List Int} (hP : P o) (hlo : ln o = lo) (hR : ∀ m b p, (R m b p).bind post = some (.inr (b, p, o))) : GoodW N 0 lo ln P (fun m b p => (R m b p).bind post) :=
  ⟨fun B a m hB hl ha hN h1 h2 => .inr ⟨a, o, by omega, ha, hP, by omega, by omega, fun C hC hCl hag haC => by rw [if_pos haC]; exact hR _ _ _, fun m' hm1 hm2 => by rw [if_pos (by omega)]; exact hR _ _ _⟩⟩
/-- Room is asked for. -/
theorem GoodW.room {n : Nat} {n' : Int} {o : List Int} {E : Option S} {f : Int → List Int → Int → Option S} (hn : n' = (n : Int)) (hn2 : n ≤ 100000000) (hlo : o.length = lo) (hE : E.bind post = some (.inl 3))
    (h : GoodW N w (lo + n) ln P (fun m b p => (f m b p).bind post)) :
    GoodW N w lo ln P (fun m b p => (bif decide (n' ≤ IntKind.wrap .i64 (m - ((o.length : Nat) : Int))) then f m b p else E).bind post) := by
  subst hn
  have key : ∀ (m : Int) b p, (lo : Int) ≤ m → m ≤ 65536 → (bif decide ((n : Int) ≤ IntKind.wrap .i64 (m - ((o.length : Nat) : Int))) then f m b p else E).bind post = if ((lo + n : Nat) : Int) ≤ m then (f m b p).bind post else some (.inl 3) := by
    intro m b p hm1 hm2
    rw [wi (by omega) (by omega), bd]
    by_cases hc : ((lo + n : Nat) : Int) ≤ m
    · rw [if_pos hc, if_pos (by omega)]
    · rw [if_neg hc, if_neg (by omega), hE]
  refine ⟨fun B a m hB hl ha hN h1 h2 => ?_⟩
  by_cases hc : ((lo + n : Nat) : Int) ≤ m
  · rcases h.h B a m hB hl ha hN hc h2 with ⟨e, he, h⟩ | ⟨a', o', k1, k2, k3, k4, k5, k6, k7⟩
    · exact .inl ⟨e, he, by rw [key _ _ _ h1 h2, if_pos hc]; exact h⟩
    · refine .inr ⟨a', o', k1, k2, k3, by omega, k5, fun C hC hCl hag haC => ?_, fun m' hm1 hm2 => ?_⟩
      · rw [key _ _ _ h1 h2, if_pos hc]; exact k6 C hC hCl hag haC
      · rw [key _ _ _ hm1 hm2]
        by_cases hc' : ((lo + n : Nat) : Int) ≤ m'
        · rw [if_pos hc']; exact k7 m' hc' hm2
        · rw [if_neg hc', if_neg (by omega)]
  · exact .inl ⟨3, by decide, by rw [key _ _ _ h1 h2, if_neg hc]⟩
theorem GoodW.some {f : TW} (h : GoodW N w lo ln P (fun m b p => (f m b p).bind Option.some)) : GoodW N w lo ln P f := h.congr fun m b p => by simp
theorem GoodW.toSome {f : TW} (h : GoodW N w lo ln P f) : GoodW N w lo ln P (fun m b p => (f m b p).bind Option.some) := h.congr fun m b p => by simp
end
theorem ask_bind {β : Type} (k : Nat) (c : Bool) (e : Int) (he : e ≠ 0) (F : Unit ⊕ Unit → Option β) : (g_inflate_ask k c e).bind F = bif c then F (.inr ()) else F (.inl ()) := by
  unfold g_inflate_ask g_inflate_must
  cases c with
  | true => rfl
  | false => simp [he]
theorem ask12 {β : Type} (k : Nat) (c : Bool) (F : Unit ⊕ Unit → Option β) : (g_inflate_ask k c 12).bind F = bif c then F (.inr ()) else F (.inl ()) := ask_bind k c 12 (by decide) F
theorem ask11 {β : Type} (k : Nat) (c : Bool) (F : Unit ⊕ Unit → Option β) : (g_inflate_ask k c 11).bind F = bif c then F (.inr ()) else F (.inl ()) := ask_bind k c 11 (by decide) F
theorem must_bad {β : Type} (k : Nat) {e : Int} (he : e ≠ 0) (F : Unit ⊕ Unit → Option β) : (g_inflate_must k e).bind F = F (.inl ()) := by simp [g_inflate_must, he]
theorem room_bind {β : Type} (k : Nat) (n m : Int) (b : List Int) (p : Int) (o : List Int) (F : Unit ⊕ Unit → Option β) :
    (g_inflate_stream_room k n m b p o).bind F = bif decide (n ≤ IntKind.wrap .i64 (m - ((o.length : Nat) : Int))) then F (.inr ()) else F (.inl ()) := by
  unfold g_inflate_stream_room
  simp only [Option.bind_some]
  rw [ask_bind _ _ _ (by decide)]
  cases (decide (n ≤ IntKind.wrap .i64 (m - ((o.length : Nat) : Int)))) <;> rfl
end Go.Proofs.Ytpceecokdpdgfaa.W
namespace Go.Proofs.Ytpceecokdpdgfaa.W
open Go Go.Q Go.Proofs
set_option linter.unusedVariables false
set_option linter.unusedSimpArgs false
theorem drop_ix {C : List Int} {j : Nat} (h : j < C.length) : ix (C.drop j) 0 = some C[j] := by
  unfold ix
  rw [if_pos (by omega), Int.toNat_zero, List.getElem?_drop, Nat.add_zero, List.getElem?_eq_getElem h]
theorem Ag.at {B C : List Int} {a j : Nat} (h : Ag B C a) (h1 : 8 * j < a) (h2 : j < C.length) : ∃ hj : j < B.length, C[j] = B[j] := by
  have := h j h1 h2
  rw [List.getElem?_eq_getElem h2] at this
  obtain ⟨hj, e⟩ := List.getElem?_eq_some_iff.1 this.symm
  exact ⟨hj, e.symm⟩
theorem take_loop (k n : Nat) (hn : n ≤ 16) (B : List Int) (a : Nat) : ∀ (f got : Nat) (v : Int), got ≤ n → n - got < f →
    ∃ v' : Int, ∀ C : List Int, okB C → C.length ≤ rX → Ag B C (a + n) → a + n ≤ 8 * C.length →
      g_bits_Reader_Take_l0 k (n : Int) f v (got : Int) (C.drop ((a + got) / 8)) (((a + got) % 8 : Nat) : Int) = some (v', C.drop ((a + n) / 8), (((a + n) % 8 : Nat) : Int)) := by
  intro f
  induction f with
  | zero => intro got v _ h; omega
  | succ f ih =>
    intro got v hg hf
    by_cases hc : got < n
    · by_cases hj : (a + got) / 8 < B.length
      · obtain ⟨s, hs⟩ : ∃ s : Nat, s = min (n - got) (8 - (a + got) % 8) := ⟨_, rfl⟩
        obtain ⟨v', hv'⟩ := ih (got + s) (bits .or .u64 v (shlI .u64 (IntKind.wrap .u64 (shrI .u8 B[(a + got) / 8] (((a + got) % 8 : Nat) : Int))) (got : Int))) (by omega) (by omega)
        refine ⟨v', fun C hC hCl hag hlen => ?_⟩
        obtain ⟨_, e1⟩ := hag.at (j := (a + got) / 8) (by omega) (by omega)
        rw [g_bits_Reader_Take_l0.eq_2]
        simp only [bd]
        have hsm : (if (IntKind.wrap .i64 ((n : Int) - (got : Int))) < (IntKind.wrap .i64 (8 - (((a + got) % 8 : Nat) : Int))) then (IntKind.wrap .i64 ((n : Int) - (got : Int))) else (IntKind.wrap .i64 (8 - (((a + got) % 8 : Nat) : Int)))) = (s : Int) := by
          rw [wi (n := (n : Int) - (got : Int)) (by omega) (by omega), wi (n := (8 : Int) - (((a + got) % 8 : Nat) : Int)) (by omega) (by omega)]
          split <;> omega
        rw [if_pos (by omega), drop_ix (by omega : (a + got) / 8 < C.length), e1]
        simp only [Option.bind_some]
        rw [if_pos (by omega), if_pos (by omega)]
        simp only [hsm, bd]
        rw [wi (n := (got : Int) + (s : Int)) (by omega) (by omega), wi (n := (((a + got) % 8 : Nat) : Int) + (s : Int)) (by omega) (by omega)]
        have hv := hv' C hC hCl hag hlen
        have eg : (got : Int) + (s : Int) = ((got + s : Nat) : Int) := by omega
        by_cases h8 : (a + got) % 8 + s = 8
        · rw [if_pos (by omega), List.length_drop, if_pos (by omega), Int.toNat_natCast, show C.length - (a + got) / 8 = (C.drop ((a + got) / 8)).length by simp, List.take_length, show Int.toNat 1 = 1 from rfl, List.drop_drop, eg]
          have e3 : (a + (got + s)) / 8 = (a + got) / 8 + 1 := by omega
          have e4 : (a + (got + s)) % 8 = 0 := by omega
          rw [e3, e4] at hv
          exact hv
        · rw [if_neg (by omega), eg]
          have e3 : (a + (got + s)) / 8 = (a + got) / 8 := by omega
          have e4 : (a + (got + s)) % 8 = (a + got) % 8 + s := by omega
          rw [e3, e4] at hv
          have e5 : (((a + got) % 8 : Nat) : Int) + (s : Int) = (((a + got) % 8 + s : Nat) : Int) := by omega
          rw [e5]
          exact hv
      · refine ⟨0, fun C hC hCl hag hlen => ?_⟩
        obtain ⟨hj', _⟩ := hag.at (j := (a + got) / 8) (by omega) (by omega)
        exact absurd hj' hj
    · have hgn : got = n := by omega
      subst hgn
      refine ⟨v, fun C hC hCl hag hlen => ?_⟩
      rw [g_bits_Reader_Take_l0.eq_2, bd, if_neg (by omega)]
theorem mask_lt {n : Nat} (hn : n ≤ 16) (v : Int) : ∃ x : Nat, IntKind.wrap .u32 (bits .and .u64 v (IntKind.wrap .u64 (shlI .u64 1 (n : Int) - 1))) = (x : Int) ∧ x < 2 ^ n := by
  have hm : IntKind.wrap .u64 (shlI .u64 1 (n : Int) - 1) = ((2 ^ n - 1 : Nat) : Int) := by
    have : ((List.range 17).all fun n => decide (IntKind.wrap .u64 (shlI .u64 1 (n : Int) - 1) = ((2 ^ n - 1 : Nat) : Int))) = true := by kernel_rfl
    exact of_decide_eq_true (List.all_eq_true.1 this n (List.mem_range.2 (by omega)))
  have h16 : 2 ^ n ≤ 2 ^ 16 := Nat.pow_le_pow_right (by decide) hn
  have hp : 0 < 2 ^ n := Nat.two_pow_pos n
  rw [hm]
  have e : bits .and .u64 v ((2 ^ n - 1 : Nat) : Int) = IntKind.wrap .u64 (((BitVec.ofInt 64 v &&& BitVec.ofInt 64 ((2 ^ n - 1 : Nat) : Int)).toNat : Nat) : Int) := rfl
  have hle : (BitVec.ofInt 64 v &&& BitVec.ofInt 64 ((2 ^ n - 1 : Nat) : Int)).toNat ≤ 2 ^ n - 1 := by
    rw [BitVec.toNat_and, BitVec.ofInt_natCast (w := 64) (2 ^ n - 1)]
    refine Nat.le_trans Nat.and_le_right ?_
    rw [BitVec.toNat_ofNat, Nat.mod_eq_of_lt (by omega)]
    exact Nat.le_refl _
  refine ⟨_, ?_, Nat.lt_of_le_of_lt hle (by omega)⟩
  rw [e]
  generalize (BitVec.ofInt 64 v &&& BitVec.ofInt 64 ((2 ^ n - 1 : Nat) : Int)).toNat = y at hle
  have h1 : y ≤ 65535 := by omega
  simp only [IntKind.wrap, IntKind.bits, IntKind.signed, Bool.false_and, Bool.false_eq_true, if_false]
  omega
/-- Some bits are taken. -/
theorem take_good {k : Nat} (hk : 20 ≤ k) {n : Nat} (hn : n ≤ 16) (o : List Int) (N : Nat) : GoodM N n (fun v : Int => 0 ≤ v ∧ v < (2 ^ n : Nat)) (fun m b p => g_inflate_stream_take k (n : Int) m b p o) := by
  refine ⟨fun B a m hB hl ha hN => ?_⟩
  have h16 : 2 ^ n ≤ 2 ^ 16 := Nat.pow_le_pow_right (by decide) hn
  have pre : ∀ C : List Int, C.length ≤ rX → a ≤ 8 * C.length → ∀ m, g_inflate_stream_take k (n : Int) m (C.drop (a / 8)) ((a % 8 : Nat) : Int) o =
      if 8 * C.length < a + n then some (.inl 10) else (g_bits_Reader_Take_l0 k (n : Int) k 0 0 (C.drop (a / 8)) ((a % 8 : Nat) : Int)).bind fun r => some (.inr (IntKind.wrap .i64 (IntKind.wrap .u32 (bits .and .u64 r.1 (IntKind.wrap .u64 (shlI .u64 1 (n : Int) - 1)))), r.2.1, r.2.2)) := by
    intro C hCl haC m
    unfold rX at hCl
    unfold g_inflate_stream_take g_bits_Reader_Take g_bits_Reader_Left
    rw [df (by omega : ¬ ((n : Int) < 0)), df (by omega : ¬ (32 < (n : Int)))]
    simp only [bf, Option.bind_some, bd, List.length_drop]
    rw [wi (n := 8 * ((C.length - a / 8 : Nat) : Int)) (by omega) (by omega), wi (n := 8 * ((C.length - a / 8 : Nat) : Int) - ((a % 8 : Nat) : Int)) (by omega) (by omega)]
    by_cases hc : 8 * C.length < a + n
    · rw [if_pos hc, if_pos (by omega)]
      rfl
    · rw [if_neg hc, if_neg (by omega)]
      cases g_bits_Reader_Take_l0 k (n : Int) k 0 0 (C.drop (a / 8)) ((a % 8 : Nat) : Int) with
      | none => rfl
      | some r =>
        obtain ⟨r1, r2, r3⟩ := r
        simp only [Option.bind_some]
        rw [if_pos (by omega)]
        rfl
  by_cases hc : 8 * B.length < a + n
  · exact .inl ⟨10, by decide, by rw [pre B hl ha m, if_pos hc]⟩
  · obtain ⟨v', hv'⟩ := take_loop k n hn B a k 0 0 (by omega) (by omega)
    obtain ⟨x, hx, hx2⟩ := mask_lt hn v'
    refine .inr ⟨a + n, (x : Int), by omega, by omega, ⟨by omega, by omega⟩, fun C m' hC hCl hag haC => ?_⟩
    rw [pre C hCl haC m']
    by_cases hc2 : 8 * C.length < a + n
    · rw [if_pos hc2, if_neg (by omega)]
    · rw [if_neg hc2, if_pos (by omega)]
      have := hv' C hC hCl hag (by omega)
      rw [Nat.add_zero] at this
      rw [show ((0 : Nat) : Int) = 0 from rfl] at this
      rw [this]
      simp only [Option.bind_some, hx]
      rw [wi (by omega) (by omega)]
/-- Whole bytes are taken. -/
theorem bytes_good {k : Nat} {n : Nat} (hn : n ≤ 100000) (o : List Int) (N : Nat) : GoodM N 0 (fun v : List Int => v.length = n ∧ okB v) (fun m b p => g_inflate_stream_bytes k (n : Int) m b p o) := by
  refine ⟨fun B a m hB hl ha hN => ?_⟩
  have pre : ∀ C : List Int, C.length ≤ rX → a ≤ 8 * C.length → ∀ m, g_inflate_stream_bytes k (n : Int) m (C.drop (a / 8)) ((a % 8 : Nat) : Int) o =
      if C.length < (a + 7) / 8 + n then some (.inl 10) else some (.inr ((C.drop ((a + 7) / 8)).take n, C.drop ((a + 7) / 8 + n), 0)) := by
    intro C hCl haC m
    unfold rX at hCl
    have al : g_bits_Reader_Align k (C.drop (a / 8)) ((a % 8 : Nat) : Int) = some (C.drop ((a + 7) / 8), 0) := by
      unfold g_bits_Reader_Align
      rw [bd]
      by_cases h0 : a % 8 = 0
      · rw [if_neg (by omega), h0, show (a + 7) / 8 = a / 8 by omega]
        rfl
      · rw [if_pos (by omega), bd, if_pos (by simp only [List.length_drop]; omega), Int.toNat_natCast, List.take_length, show Int.toNat 1 = 1 from rfl, List.drop_drop, show a / 8 + 1 = (a + 7) / 8 by omega]
    unfold g_inflate_stream_bytes g_bits_Reader_Bytes
    rw [bd, if_neg (by omega), al]
    simp only [Option.bind_some, bd, List.length_drop]
    by_cases hc : C.length < (a + 7) / 8 + n
    · rw [if_pos hc, if_pos (by omega)]
      rfl
    · rw [if_neg hc, if_neg (by omega), if_pos (by omega)]
      unfold g_slices_Clone_byte_byte__b
      rw [bd, if_pos (by simp; omega)]
      simp only [Option.bind_some]
      rw [if_pos (by omega), Int.toNat_natCast, Int.toNat_natCast, show C.length - (a + 7) / 8 = (C.drop ((a + 7) / 8)).length by simp, List.take_length, List.drop_drop, Int.toNat_zero, List.drop_zero]
      rfl
  by_cases hc : B.length < (a + 7) / 8 + n
  · exact .inl ⟨10, by decide, by rw [pre B hl ha m, if_pos hc]⟩
  · refine .inr ⟨8 * ((a + 7) / 8 + n), (B.drop ((a + 7) / 8)).take n, by omega, by omega, ⟨by simp; omega, fun x hx => hB x (List.mem_of_mem_drop (List.mem_of_mem_take hx))⟩, fun C m' hC hCl hag haC => ?_⟩
    rw [pre C hCl haC m']
    by_cases hc2 : C.length < (a + 7) / 8 + n
    · rw [if_pos hc2, if_neg (by omega)]
    · rw [if_neg hc2, if_pos (by omega)]
      have e : (C.drop ((a + 7) / 8)).take n = (B.drop ((a + 7) / 8)).take n := by
        apply List.ext_getElem?
        intro i
        rw [List.getElem?_take, List.getElem?_take]
        by_cases hi : i < n
        · rw [if_pos hi, if_pos hi, List.getElem?_drop, List.getElem?_drop]
          exact hag _ (by omega) (by omega)
        · rw [if_neg hi, if_neg hi]
      have e2 : 8 * ((a + 7) / 8 + n) / 8 = (a + 7) / 8 + n := by omega
      have e3 : 8 * ((a + 7) / 8 + n) % 8 = 0 := by omega
      rw [e, e2, e3]
      rfl
end Go.Proofs.Ytpceecokdpdgfaa.W
namespace Go.Proofs.Ytpceecokdpdgfaa.W
open Go Go.Q Go.Proofs
set_option linter.unusedVariables false
set_option linter.unusedSimpArgs false
theorem begins_some (k : Nat) (hk : 20 ≤ k) (room : Int) (q : Nat) (cs sy : List Int) (hq : 1 ≤ q) : ∃ b, g_huff_Decoder_begins k room (q : Int) cs sy = some b := by
  have key : ∀ (f t : Nat) (r : Int), t ≤ 15 → t < f → ∃ x, g_huff_Decoder_begins_l0 k (q : Int) cs f r (t : Int) = some x := by
    intro f
    induction f with
    | zero => intro t r _ h; omega
    | succ f ih =>
      intro t r ht hf
      rw [g_huff_Decoder_begins_l0.eq_2]
      simp only [bd, Option.bind_some]
      by_cases hc : (q : Int) ≤ (t : Int)
      · rw [if_pos hc, if_pos (by omega), wi (n := (t : Int) - 1) (by omega) (by omega), show (t : Int) - 1 = ((t - 1 : Nat) : Int) by omega]
        exact ih _ _ (by omega) (by omega)
      · rw [if_neg hc]; exact ⟨_, rfl⟩
  obtain ⟨x, hx⟩ := key k 15 0 (by omega) (by omega)
  unfold g_huff_Decoder_begins
  have e : g_huff_Decoder_begins_l0 k (q : Int) cs k 0 15 = some x := hx
  rw [e]
  exact ⟨_, rfl⟩
theorem tk_ag {B C : List Int} {a a' : Nat} (h : Ag B C a') (h1 : a < a') (h2 : a < 8 * C.length) : tk C a = tk B a := by
  unfold tk
  rw [List.getD_eq_getElem?_getD, List.getD_eq_getElem?_getD, h (a / 8) (by omega) (by omega)]
/-- A round of a decoder. -/
theorem next_round {k : Nat} (hk : 400 ≤ k) {l cs sy : List Int} (hd : Dec l cs sy) (hl : l.length ≤ 320) (n d code first : Nat) (h1 : 1 ≤ d) (h15 : d ≤ 15) (hcf : first ≤ code) (hcode : code < 2 ^ (d - 1)) (t : Nat) (ht : t ≤ 1) :
    ∃ R : Option (Int ⊕ (Nat × Nat × Nat)), R ≠ none ∧ (∀ e, R = some (.inl e) → True) ∧
      (R = some (.inr (2 * code + t, 2 * first + cn l d, ah l (d + 1))) → 2 * first + cn l d ≤ 2 * code + t) ∧
      (∀ r, R = some (.inr r) → r = (2 * code + t, 2 * first + cn l d, ah l (d + 1))) ∧
      ∀ (C : List Int) (a : Nat), okB C → C.length ≤ rX → a < 8 * C.length → tk C a = t → ah l d ≠ sy.length →
        g_huff_Decoder_Next_l0 k cs sy (n + 1) (code : Int) (first : Int) (ah l d : Int) (d : Int) (C.drop (a / 8)) ((a % 8 : Nat) : Int) = 
          match R with
          | none => none
          | some (.inl e) => if e < 0 then some (.inl (11, C.drop ((a + 1) / 8), (((a + 1) % 8 : Nat) : Int))) else some (.inr (sy.getD e.toNat 0, C.drop ((a + 1) / 8), (((a + 1) % 8 : Nat) : Int)))
          | some (.inr (c', f', i')) => g_huff_Decoder_Next_l0 k cs sy n (c' : Int) (f' : Int) (i' : Int) ((d + 1 : Nat) : Int) (C.drop ((a + 1) / 8)) (((a + 1) % 8 : Nat) : Int) := by
  have hp : 2 ^ d ≤ 2 ^ 15 := Nat.pow_le_pow_right (by decide) h15
  have hp2 : 2 ^ d = 2 * 2 ^ (d - 1) := by rw [← Nat.pow_succ']; congr 1; omega
  have hah : ah l (d + 1) = ah l d + cn l d := by simp only [ah, if_neg (show ¬ d = 0 by omega)]
  have hlen := hd.len
  have hle : ah l (d + 1) ≤ ah l 16 := ah_le l 16 (d + 1) (by omega)
  have hb := ah_bound hl
  have hcs : List.getD cs d 0 = (cn l d : Int) := hd.cs d h1 h15
  obtain ⟨bb, hbb⟩ := begins_some k (by omega) (((2 * code + t : Nat) : Int) - ((2 * first + cn l d : Nat) : Int)) (d + 1) cs sy (by omega)
  have hcn : cn l d ≤ 320 := Nat.le_trans List.count_le_length hl
  have run : ∀ (C : List Int) (a : Nat), okB C → C.length ≤ rX → a < 8 * C.length → tk C a = t → ah l d ≠ sy.length →
        g_huff_Decoder_Next_l0 k cs sy (n + 1) (code : Int) (first : Int) (ah l d : Int) (d : Int) (C.drop (a / 8)) ((a % 8 : Nat) : Int) = 
        if 2 * code + t - 2 * first < cn l d then some (.inr (sy.getD (ah l d + (2 * code + t - 2 * first)) 0, C.drop ((a + 1) / 8), (((a + 1) % 8 : Nat) : Int)))
        else bif bb then g_huff_Decoder_Next_l0 k cs sy n ((2 * code + t : Nat) : Int) ((2 * first + cn l d : Nat) : Int) (ah l (d + 1) : Int) ((d + 1 : Nat) : Int) (C.drop ((a + 1) / 8)) (((a + 1) % 8 : Nat) : Int)
        else some (.inl (11, C.drop ((a + 1) / 8), (((a + 1) % 8 : Nat) : Int))) := by
    intro C a hC hCl ha htk hne
    have htake := g_bits_Reader_Take_eq k (by omega) C hC hCl a (by omega)
    rw [if_pos ha, htk] at htake
    rw [g_huff_Decoder_Next_l0.eq_2]
    simp only [bd]
    rw [if_pos (by omega), df (by omega : ¬ ((ah l d : Int) = ((sy.length : Nat) : Int)))]
    simp only [Option.bind_some, bf, htake, bnd']
    rw [if_pos trivial]
    rw [shl64 (by omega : code ≤ 65536), wi (n := (t : Int)) (by omega) (by omega), or_bit64 (by omega) ht, shl64 (by omega : first ≤ 65536), wi (n := ((2 * code + t : Nat) : Int) - ((2 * first : Nat) : Int)) (by omega) (by omega)]
    simp only [bd, Int.toNat_natCast, hcs]
    rw [if_pos (by omega)]
    by_cases hc : 2 * code + t - 2 * first < cn l d
    · rw [if_pos hc, if_pos (by omega), wi (n := (ah l d : Int) + (((2 * code + t : Nat) : Int) - ((2 * first : Nat) : Int))) (by omega) (by omega),
        show (ah l d : Int) + (((2 * code + t : Nat) : Int) - ((2 * first : Nat) : Int)) = ((ah l d + (2 * code + t - 2 * first) : Nat) : Int) by omega]
      rw [ix_nat (by omega)]
      simp only [Option.bind_some]
      rw [List.getD_eq_getElem?_getD, List.getElem?_eq_getElem (by omega : ah l d + (2 * code + t - 2 * first) < sy.length)]
      rfl
    · rw [if_neg hc, if_neg (by omega), if_pos (by omega), if_pos (by omega)]
      rw [wi (n := ((2 * first : Nat) : Int) + (cn l d : Int)) (by omega) (by omega), show ((2 * first : Nat) : Int) + (cn l d : Int) = ((2 * first + cn l d : Nat) : Int) by omega,
        wi (n := (ah l d : Int) + (cn l d : Int)) (by omega) (by omega), show (ah l d : Int) + (cn l d : Int) = ((ah l (d + 1) : Nat) : Int) by omega,
        wi (n := ((2 * code + t : Nat) : Int) - ((2 * first + cn l d : Nat) : Int)) (by omega) (by omega), wi (n := (d : Int) + 1) (by omega) (by omega), show (d : Int) + 1 = ((d + 1 : Nat) : Int) by omega, hbb]
      simp only [Option.bind_some]
      cases bb <;> rfl
  by_cases hc : 2 * code + t - 2 * first < cn l d
  · refine ⟨some (.inl ((ah l d + (2 * code + t - 2 * first) : Nat) : Int)), by simp, fun _ _ => trivial, (fun h => by simp at h), (fun r h => by simp at h), fun C a hC hCl ha htk hne => ?_⟩
    rw [run C a hC hCl ha htk hne, if_pos hc]
    simp only [Int.toNat_natCast]
    rw [if_neg (by omega)]
  · cases hbb' : bb with
    | true =>
      refine ⟨some (.inr (2 * code + t, 2 * first + cn l d, ah l (d + 1))), by simp, fun _ _ => trivial, (fun _ => by omega), (fun r h => by simpa using h.symm), fun C a hC hCl ha htk hne => ?_⟩
      rw [run C a hC hCl ha htk hne, if_neg hc, hbb']
      rfl
    | false =>
      refine ⟨some (.inl (-1)), by simp, fun _ _ => trivial, (fun h => by simp at h), (fun r h => by simp at h), fun C a hC hCl ha htk hne => ?_⟩
      rw [run C a hC hCl ha htk hne, if_neg hc, hbb']
      rfl
theorem next_good {k : Nat} (hk : 400 ≤ k) {l cs sy : List Int} (hd : Dec l cs sy) (hl : l.length ≤ 320) : ∀ (n d code first : Nat), 1 ≤ d → d ≤ 16 → 16 - d < n → first ≤ code → code < 2 ^ (d - 1) → ∀ (B : List Int) (a : Nat), okB B → B.length ≤ rX → a ≤ 8 * B.length →
    (∃ e b p, e ≠ 0 ∧ g_huff_Decoder_Next_l0 k cs sy n (code : Int) (first : Int) (ah l d : Int) (d : Int) (B.drop (a / 8)) ((a % 8 : Nat) : Int) = some (.inl (e, b, p))) ∨
    ∃ a' v, a + 1 ≤ a' ∧ a' ≤ 8 * B.length ∧ ∀ C : List Int, okB C → C.length ≤ rX → Ag B C a' → a ≤ 8 * C.length →
      if a' ≤ 8 * C.length then g_huff_Decoder_Next_l0 k cs sy n (code : Int) (first : Int) (ah l d : Int) (d : Int) (C.drop (a / 8)) ((a % 8 : Nat) : Int) = some (.inr (v, C.drop (a' / 8), ((a' % 8 : Nat) : Int)))
      else ∃ b p, g_huff_Decoder_Next_l0 k cs sy n (code : Int) (first : Int) (ah l d : Int) (d : Int) (C.drop (a / 8)) ((a % 8 : Nat) : Int) = some (.inl (10, b, p)) := by
  intro n
  induction n with
  | zero => intro d _ _ _ _ h; omega
  | succ n ih =>
    intro d code first h1 h16 hn hcf hcode B a hB hBl ha
    by_cases h15 : d ≤ 15
    · by_cases hne : ah l d = sy.length
      · refine .inl ⟨11, B.drop (a / 8), ((a % 8 : Nat) : Int), by decide, ?_⟩
        rw [g_huff_Decoder_Next_l0.eq_2]
        simp only [bd]
        rw [if_pos (by omega), dt (by omega : (ah l d : Int) = ((sy.length : Nat) : Int))]
        rfl
      · have short : ∀ (C : List Int), okB C → C.length ≤ rX → a ≤ 8 * C.length → ¬ a < 8 * C.length → ∃ b p, g_huff_Decoder_Next_l0 k cs sy (n + 1) (code : Int) (first : Int) (ah l d : Int) (d : Int) (C.drop (a / 8)) ((a % 8 : Nat) : Int) = some (.inl (10, b, p)) := by
          intro C hC hCl haC hlt
          have htake := g_bits_Reader_Take_eq k (by omega) C hC hCl a haC
          rw [if_neg hlt] at htake
          rw [g_huff_Decoder_Next_l0.eq_2]
          simp only [bd]
          rw [if_pos (by omega), df (by omega : ¬ ((ah l d : Int) = ((sy.length : Nat) : Int)))]
          simp only [Option.bind_some, bf, htake, bnd']
          exact ⟨_, _, rfl⟩
        by_cases hlt : a < 8 * B.length
        · obtain ⟨R, hR0, _, hR1, hR2, hR3⟩ := next_round hk hd hl n d code first h1 h15 hcf hcode (tk B a) (tk_le B a)
          have hp2 : 2 ^ d = 2 * 2 ^ (d - 1) := by rw [← Nat.pow_succ']; congr 1; omega
          have htl := tk_le B a
          rcases R with _ | e | ⟨c', f', i'⟩
          · exact absurd rfl hR0
          · have hB3 := hR3 B a hB hBl hlt rfl hne
            simp only at hB3
            by_cases he : e < 0
            · rw [if_pos he] at hB3
              exact .inl ⟨11, _, _, by decide, hB3⟩
            · rw [if_neg he] at hB3
              refine .inr ⟨a + 1, sy.getD e.toNat 0, by omega, by omega, fun C hC hCl hag haC => ?_⟩
              by_cases hc : a + 1 ≤ 8 * C.length
              · rw [if_pos hc]
                have := hR3 C a hC hCl (by omega) (tk_ag hag (by omega) (by omega)) hne
                simp only at this
                rw [if_neg he] at this
                exact this
              · rw [if_neg hc]
                exact short C hC hCl haC (by omega)
          · have hr := hR2 _ rfl
            simp only [Prod.mk.injEq] at hr
            obtain ⟨rfl, rfl, rfl⟩ := hr
            have hge := hR1 rfl
            have hB3 := hR3 B a hB hBl hlt rfl hne
            simp only at hB3
            rcases ih (d + 1) (2 * code + tk B a) (2 * first + cn l d) (by omega) (by omega) (by omega) hge (by rw [Nat.add_sub_cancel]; omega) B (a + 1) hB hBl (by omega) with ⟨e, b, p, he, h⟩ | ⟨a', v, g1, g2, g3⟩
            · exact .inl ⟨e, b, p, he, hB3.trans h⟩
            · refine .inr ⟨a', v, by omega, g2, fun C hC hCl hag haC => ?_⟩
              by_cases hc : a + 1 ≤ 8 * C.length
              · have hC3 := hR3 C a hC hCl (by omega) (tk_ag hag (by omega) (by omega)) hne
                simp only at hC3
                rw [hC3]
                exact g3 C hC hCl hag hc
              · rw [if_neg (by omega)]
                exact short C hC hCl haC (by omega)
        · obtain ⟨b, p, h⟩ := short B hB hBl ha hlt
          exact .inl ⟨10, b, p, by decide, h⟩
    · refine .inl ⟨11, B.drop (a / 8), ((a % 8 : Nat) : Int), by decide, ?_⟩
      rw [g_huff_Decoder_Next_l0.eq_2]
      simp only [bd]
      rw [if_neg (by omega)]
/-- A symbol is read. -/
theorem sym_good {k : Nat} (hk : 400 ≤ k) {l cs sy : List Int} (hd : Dec l cs sy) (hl : l.length ≤ 320) (o : List Int) (N : Nat) : GoodM N 1 (fun _ : Int => True) (fun m b p => g_inflate_stream_sym k m b p cs o sy) := by
  refine ⟨fun B a m hB hBl ha hN => ?_⟩
  have bad : ∀ (C : List Int) (m : Int) (e : Int) b p, e ≠ 0 → g_huff_Decoder_Next_l0 k cs sy k 0 0 0 1 (C.drop (a / 8)) ((a % 8 : Nat) : Int) = some (.inl (e, b, p)) → g_inflate_stream_sym k m (C.drop (a / 8)) ((a % 8 : Nat) : Int) cs o sy = some (.inl e) := by
    intro C m e b p he h
    unfold g_inflate_stream_sym g_huff_Decoder_Next
    rw [h]
    simp only [Option.bind_some]
    rw [must_bad k he]
  have good : ∀ (C : List Int) (m : Int) (v : Int) b p, g_huff_Decoder_Next_l0 k cs sy k 0 0 0 1 (C.drop (a / 8)) ((a % 8 : Nat) : Int) = some (.inr (v, b, p)) → g_inflate_stream_sym k m (C.drop (a / 8)) ((a % 8 : Nat) : Int) cs o sy = some (.inr (v, b, p)) := by
    intro C m v b p h
    unfold g_inflate_stream_sym g_huff_Decoder_Next
    rw [h]
    rfl
  rcases next_good hk hd hl k 1 0 0 (by omega) (by omega) (by omega) (by omega) (by decide) B a hB hBl ha with ⟨e, b, p, he, h⟩ | ⟨a', v, g1, g2, g3⟩
  · exact .inl ⟨e, he, bad B m e b p he h⟩
  · refine .inr ⟨a', v, g1, g2, trivial, fun C m' hC hCl hag haC => ?_⟩
    have := g3 C hC hCl hag haC
    by_cases hc : a' ≤ 8 * C.length
    · rw [if_pos hc] at this ⊢
      exact good C m' v _ _ this
    · rw [if_neg hc] at this ⊢
      obtain ⟨b, p, h⟩ := this
      exact bad C m' 10 b p (by decide) h
end Go.Proofs.Ytpceecokdpdgfaa.W
namespace Go.Proofs.Ytpceecokdpdgfaa.W
open Go Go.Q Go.Proofs
set_option linter.unusedVariables false
set_option linter.unusedSimpArgs false
theorem two_bytes {x y : Int} (hx : 0 ≤ x ∧ x ≤ 255) (hy : 0 ≤ y ∧ y ≤ 255) : ∃ n : Nat, bits .or .i64 (IntKind.wrap .i64 x) (shlI .i64 (IntKind.wrap .i64 y) 8) = (n : Int) ∧ n ≤ 65535 := by
  obtain ⟨a, rfl⟩ : ∃ a : Nat, x = (a : Int) := ⟨x.toNat, by omega⟩
  obtain ⟨b, rfl⟩ : ∃ b : Nat, y = (b : Int) := ⟨y.toNat, by omega⟩
  have e1 : shlI .i64 (IntKind.wrap .i64 (b : Int)) 8 = ((256 * b : Nat) : Int) := by
    rw [wi (by omega) (by omega)]
    show IntKind.wrap .i64 ((b : Int) * 256) = _
    rw [wi (by omega) (by omega)]
    omega
  rw [e1, wi (by omega) (by omega)]
  have e : bits .or .i64 (a : Int) ((256 * b : Nat) : Int) = IntKind.wrap .i64 (((BitVec.ofInt 64 (a : Int) ||| BitVec.ofInt 64 ((256 * b : Nat) : Int)).toNat : Nat) : Int) := rfl
  have hlt : (BitVec.ofInt 64 (a : Int) ||| BitVec.ofInt 64 ((256 * b : Nat) : Int)).toNat < 2 ^ 16 := by
    rw [BitVec.ofInt_natCast, BitVec.ofInt_natCast, BitVec.toNat_or, BitVec.toNat_ofNat, BitVec.toNat_ofNat, Nat.mod_eq_of_lt (by omega), Nat.mod_eq_of_lt (by omega)]
    exact Nat.or_lt_two_pow (by omega) (by omega)
  refine ⟨_, ?_, Nat.le_of_lt_succ hlt⟩
  rw [e, wi (by omega) (by omega)]
theorem four {l : List Int} (h : l.length = 4) : ∃ a b c d, l = [a, b, c, d] := by
  match l, h with
  | [a, b, c, d], _ => exact ⟨a, b, c, d, rfl⟩
theorem stored_good (k : Nat) (o : List Int) (N : Nat) : GoodW N 0 o.length List.length (fun _ => True) (fun m b p => g_inflate_stream_stored k m b p o) := by
  by_cases ho : 65536 < o.length
  · exact .vac ho
  refine GoodW.some ?_
  unfold g_inflate_stream_stored
  refine GoodW.bindR (w := 0) (w2 := 0) (show GoodM N 0 _ (fun m b p => g_inflate_stream_bytes k 4 m b p o) from bytes_good (k := k) (n := 4) (by omega) o N) ?_ ?_
  · exact fun _ _ => rfl
  rintro h ⟨h4, hok⟩ _
  dsimp only
  obtain ⟨x0, x1, x2, x3, rfl⟩ := four h4
  have e0 : ix [x0, x1, x2, x3] (0 : Int) = some x0 := rfl
  have e1 : ix [x0, x1, x2, x3] (1 : Int) = some x1 := rfl
  have e2 : ix [x0, x1, x2, x3] (2 : Int) = some x2 := rfl
  have e3 : ix [x0, x1, x2, x3] (3 : Int) = some x3 := rfl
  obtain ⟨n, hn, hn2⟩ := two_bytes (hok x0 (by simp)) (hok x1 (by simp))
  simp only [e0, e1, e2, e3, Option.bind_some, ask12, room_bind, hn]
  refine GoodW.cond (fun _ => ?_) (fun _ => .err (e := 12) (by decide) ?_)
  rotate_left
  · exact fun _ _ _ => rfl
  refine GoodW.room (n := n) rfl (by omega) rfl rfl ?_
  refine GoodW.bindR (w := 0) (w2 := 0) (bytes_good (k := k) (n := n) (by omega) o N) ?_ ?_
  · exact fun _ _ => rfl
  rintro v ⟨hv, _⟩ _
  dsimp only
  have hg : decide ((o.length + v.length) * 1 ≤ 140737488355328) = true := decide_eq_true (by omega)
  simp only [hg, cond_true]
  refine GoodW.ret (o := o ++ v) trivial (by simp [hv]) ?_
  exact fun _ _ _ => rfl
def litB (x : Option (Int × Int × Bool)) : Bool := match x with
  | some (b, e, c) => c && decide (1 ≤ b) && decide (b ≤ 30000) && decide (0 ≤ e) && decide (e ≤ 13)
  | none => false
theorem litAll2 : ((List.range 29).all fun i => litB (g_inflate_Lit 0 (257 + (i : Int)))) = true := by kernel_rfl
theorem distAll2 : ((List.range 30).all fun i => litB (g_inflate_Dist 0 (i : Int))) = true := by kernel_rfl
theorem litB_ok {x : Option (Int × Int × Bool)} (h : litB x = true) : ∃ b e : Nat, x = some ((b : Int), (e : Int), true) ∧ 1 ≤ b ∧ b ≤ 30000 ∧ e ≤ 13 := by
  match x, h with
  | some (b, e, c), h =>
    simp only [litB, Bool.and_eq_true, decide_eq_true_eq] at h
    obtain ⟨⟨⟨⟨rfl, h1⟩, h2⟩, h3⟩, h4⟩ := h
    exact ⟨b.toNat, e.toNat, by rw [Int.toNat_of_nonneg (by omega), Int.toNat_of_nonneg h3], by omega, by omega, by omega⟩
theorem lit_ok (k : Nat) (s : Int) : g_inflate_Lit k s = some (0, 0, false) ∨ ∃ b e : Nat, g_inflate_Lit k s = some ((b : Int), (e : Int), true) ∧ 1 ≤ b ∧ b ≤ 30000 ∧ e ≤ 13 := by
  by_cases h : s < 257 ∨ 285 < s
  · left
    unfold g_inflate_Lit
    rcases h with h | h
    · rw [decide_eq_true h]; rfl
    · rw [decide_eq_false (by omega : ¬ s < 257), decide_eq_true h]; rfl
  · right
    obtain ⟨i, rfl⟩ : ∃ i : Nat, s = 257 + (i : Int) := ⟨(s - 257).toNat, by omega⟩
    exact litB_ok (List.all_eq_true.1 litAll2 i (List.mem_range.2 (by omega)))
theorem dist_ok (k : Nat) (s : Int) : g_inflate_Dist k s = some (0, 0, false) ∨ ∃ b e : Nat, g_inflate_Dist k s = some ((b : Int), (e : Int), true) ∧ 1 ≤ b ∧ b ≤ 30000 ∧ e ≤ 13 := by
  by_cases h : s < 0 ∨ 29 < s
  · left
    unfold g_inflate_Dist
    rcases h with h | h
    · rw [decide_eq_true h]; rfl
    · rw [decide_eq_false (by omega : ¬ s < 0), decide_eq_true h]; rfl
  · right
    obtain ⟨i, rfl⟩ : ∃ i : Nat, s = (i : Int) := ⟨s.toNat, by omega⟩
    exact litB_ok (List.all_eq_true.1 distAll2 i (List.mem_range.2 (by omega)))
theorem copied_loop (k : Nat) (b1 e1 b2 e2 : Int) (n far : Nat) (hn : IntKind.wrap .i64 (b1 + e1) = (n : Int)) (hf : IntKind.wrap .i64 (b2 + e2) = (far : Int)) (hn2 : n ≤ 100000) (hf1 : 1 ≤ far) :
    ∀ (f i : Nat) (o : List Int), i ≤ n → n - i < f → far ≤ o.length → o.length ≤ 1000000 - (n - i) → n - i ≤ 1000000 → ∃ o', g_inflate_stream_copied_l0 k b1 e1 b2 e2 f (i : Int) o = some o' ∧ o'.length = o.length + (n - i) := by
  intro f
  induction f with
  | zero => intro i o _ h; omega
  | succ f ih =>
    intro i o hi hfu hfar ho hni
    rw [g_inflate_stream_copied_l0.eq_2]
    simp only [Option.bind_some, bd, hn, hf]
    by_cases hc : i < n
    · rw [if_pos (by omega), wi (n := ((o.length : Nat) : Int) - (far : Int)) (by omega) (by omega), ix_int (by omega) (by omega)]
      simp only [Option.bind_some]
      rw [if_pos (by simp; omega), wi (n := (i : Int) + 1) (by omega) (by omega), show (i : Int) + 1 = ((i + 1 : Nat) : Int) by omega]
      obtain ⟨o', h1, h2⟩ := ih (i + 1) (o ++ [o[(((o.length : Nat) : Int) - (far : Int)).toNat]'(by omega)]) (by omega) (by omega) (by simp; omega) (by simp; omega) (by omega)
      refine ⟨o', h1, ?_⟩
      rw [h2]
      simp
      omega
    · rw [if_neg (by omega)]
      exact ⟨o, rfl, by omega⟩
theorem copied_good {k : Nat} (hk : 100020 ≤ k) {l cs sy : List Int} (hd : Dec l cs sy) (hl : l.length ≤ 320) (x : Int) (o : List Int) (N : Nat) :
    GoodW N 0 o.length List.length (fun _ => True) (fun m b p => g_inflate_stream_copied k x m b p cs o sy) := by
  by_cases ho : 65536 < o.length
  · exact .vac ho
  refine GoodW.some ?_
  unfold g_inflate_stream_copied
  rcases lit_ok k x with hx | ⟨lb, le, hx, hlb1, hlb, hle⟩
  · simp only [hx, Option.bind_some, ask12, cond_false]
    exact GoodW.err0 (by decide)
  simp only [hx, Option.bind_some, ask12, cond_true, room_bind]
  have pl : 2 ^ le ≤ 2 ^ 13 := Nat.pow_le_pow_right (by decide) hle
  refine GoodW.less (w := le + 0) ?_ (Nat.zero_le _)
  refine GoodW.bindR (w := le) (w2 := 0) (take_good (k := k) (by omega) (by omega) o N) ?_ ?_
  · exact fun _ _ => rfl
  rintro v ⟨hv0, hv⟩ _
  dsimp only
  refine GoodW.less (w := 1 + 0) ?_ (Nat.zero_le _)
  refine GoodW.bindR (w := 1) (w2 := 0) (sym_good (k := k) (by omega) hd hl o _) ?_ ?_
  · exact fun _ _ => rfl
  rintro s _ _
  dsimp only
  rcases dist_ok k s with hs | ⟨db, de, hs, hdb1, hdb, hde⟩
  · simp only [hs, Option.bind_some, cond_false]
    exact GoodW.err0 (by decide)
  simp only [hs, Option.bind_some, cond_true]
  have pd : 2 ^ de ≤ 2 ^ 13 := Nat.pow_le_pow_right (by decide) hde
  refine GoodW.less (w := de + 0) ?_ (Nat.zero_le _)
  refine GoodW.bindR (w := de) (w2 := 0) (take_good (k := k) (by omega) (by omega) o _) ?_ ?_
  · exact fun _ _ => rfl
  rintro u ⟨hu0, hu⟩ _
  dsimp only
  obtain ⟨v, rfl⟩ : ∃ v' : Nat, v = (v' : Int) := ⟨v.toNat, by omega⟩
  obtain ⟨u, rfl⟩ : ∃ u' : Nat, u = (u' : Int) := ⟨u.toNat, by omega⟩
  have hn : IntKind.wrap .i64 ((lb : Int) + (v : Int)) = ((lb + v : Nat) : Int) := by rw [wi (by omega) (by omega)]; omega
  have hf : IntKind.wrap .i64 ((db : Int) + (u : Int)) = ((db + u : Nat) : Int) := by rw [wi (by omega) (by omega)]; omega
  refine GoodW.cond (fun hc => ?_) (fun _ => .err (e := 12) (by decide) ?_)
  rotate_left
  · exact fun _ _ _ => rfl
  have hc' := of_decide_eq_true hc
  rw [hf] at hc'
  obtain ⟨o', h1, h2⟩ := copied_loop k lb v db u (lb + v) (db + u) hn hf (by omega) (by omega) k 0 o (by omega) (by omega) (by omega) (by omega) (by omega)
  have h1' : g_inflate_stream_copied_l0 k (lb : Int) (v : Int) (db : Int) (u : Int) k 0 o = some o' := h1
  refine GoodW.room (n := lb + v) hn (by omega) rfl rfl ?_
  simp only [h1', Option.bind_some]
  exact GoodW.ret0 trivial (by rw [h2]; omega)
def codedPost : (Int ⊕ (Unit ⊕ (Int ⊕ (List Int × Int × List Int)))) → Option (Int ⊕ (List Int × Int × List Int))
  | .inl e => some (.inl e)
  | .inr (.inl _) => some (.inl 3)
  | .inr (.inr (.inl e)) => some (.inl e)
  | .inr (.inr (.inr (b, p, o))) => some (.inr (b, p, o))
theorem coded_loop {k : Nat} (hk : 100020 ≤ k) {l1 cs1 sy1 l2 cs2 sy2 : List Int} (hd1 : Dec l1 cs1 sy1) (hl1 : l1.length ≤ 320) (hd2 : Dec l2 cs2 sy2) (hl2 : l2.length ≤ 320) : ∀ (n N : Nat) (o : List Int), N < n →
    GoodW N 1 o.length List.length (fun _ => True) (fun m b p => (g_inflate_stream_coded_l0 k m cs1 cs2 sy1 sy2 n b p o).bind codedPost) := by
  intro n
  induction n with
  | zero => intro N o h; omega
  | succ n ih =>
    intro N o hN
    by_cases ho : 65536 < o.length
    · exact .vac ho
    simp only [g_inflate_stream_coded_l0.eq_2, room_bind]
    refine GoodW.bindR (w := 1) (w2 := 0) (sym_good (k := k) (by omega) hd1 hl1 o N) ?_ ?_
    · exact fun _ _ => rfl
    rintro v _ hw
    dsimp only
    refine GoodW.cond (fun _ => ?_) (fun _ => GoodW.cond (fun _ => ?_) (fun _ => ?_))
    · refine GoodW.room (n := 1) rfl (by omega) rfl rfl ?_
      have hg : decide ((o.length + [IntKind.wrap .u8 v].length) * 1 ≤ 140737488355328) = true := decide_eq_true (by simp; omega)
      simp only [hg, cond_true]
      have e : o.length + 1 = (o ++ [IntKind.wrap .u8 v]).length := by simp
      rw [e]
      exact (ih (N - 1) _ (by omega)).less (Nat.zero_le _)
    · refine GoodW.ret (o := o) trivial rfl ?_
      exact fun _ _ _ => rfl
    · refine GoodW.bindW (w := 0) (w2 := 0) (copied_good hk hd2 hl2 v o (N - 1)) ?_ ?_
      · exact fun _ _ => rfl
      rintro o' _ _
      dsimp only
      exact (ih (N - 1) o' (by omega)).less (Nat.zero_le _)
theorem coded_good {k : Nat} (hk : 100020 ≤ k) {l1 cs1 sy1 l2 cs2 sy2 : List Int} (hd1 : Dec l1 cs1 sy1) (hl1 : l1.length ≤ 320) (hd2 : Dec l2 cs2 sy2) (hl2 : l2.length ≤ 320) (N : Nat) (hN : N < k) (o : List Int) :
    GoodW N 1 o.length List.length (fun _ => True) (fun m b p => g_inflate_stream_coded k m b p cs1 cs2 o sy1 sy2) :=
  (coded_loop hk hd1 hl1 hd2 hl2 k N o hN).congr fun m b p => by
    unfold g_inflate_stream_coded
    congr 1
end Go.Proofs.Ytpceecokdpdgfaa.W
namespace Go.Proofs.Ytpceecokdpdgfaa.W
open Go Go.Q Go.Proofs
set_option linter.unusedVariables false
set_option linter.unusedSimpArgs false
theorem laid_one {k : Nat} (hk : 1010 ≤ k) (n : Nat) (hn : n ≤ 1000) (v : Int) : g_inflate_laid k ([(⟨(n : Int), v⟩ : S_inflate_run)] : List S_inflate_run) = some (List.replicate n v) := by
  have h1 : ∀ (f i : Nat) (l : List Int), i ≤ n → n - i < f → l.length ≤ 100000 → g_inflate_laid_l1 k ⟨(n : Int), v⟩ f (i : Int) l = some (l ++ List.replicate (n - i) v) := by
    intro f
    induction f with
    | zero => intro i l _ h; omega
    | succ f ih =>
      intro i l hi hf hl
      rw [g_inflate_laid_l1.eq_2]
      simp only [bd]
      by_cases hc : i < n
      · rw [if_pos (by omega), if_pos (by simp; omega), wi (n := (i : Int) + 1) (by omega) (by omega), show (i : Int) + 1 = ((i + 1 : Nat) : Int) by omega]
        by_cases h9 : l.length + 1 ≤ 100000
        · rw [ih (i + 1) _ (by omega) (by omega) (by simp; omega), List.append_assoc, show n - i = (n - (i + 1)) + 1 by omega, List.replicate_succ]
          rfl
        · have hgen : ∀ (f i : Nat) (l : List Int), i ≤ n → n - i < f → l.length + (n - i) ≤ 1000000 → g_inflate_laid_l1 k ⟨(n : Int), v⟩ f (i : Int) l = some (l ++ List.replicate (n - i) v) := by
            intro f
            induction f with
            | zero => intro i l _ h; omega
            | succ f ih =>
              intro i l hi hf hl
              rw [g_inflate_laid_l1.eq_2]
              simp only [bd]
              by_cases hc : i < n
              · rw [if_pos (by omega), if_pos (by simp; omega), wi (n := (i : Int) + 1) (by omega) (by omega), show (i : Int) + 1 = ((i + 1 : Nat) : Int) by omega]
                rw [ih (i + 1) _ (by omega) (by omega) (by simp; omega), List.append_assoc, show n - i = (n - (i + 1)) + 1 by omega, List.replicate_succ]
                rfl
              · rw [if_neg (by omega), show n - i = 0 by omega]; simp
          rw [hgen f (i + 1) _ (by omega) (by omega) (by simp; omega), List.append_assoc, show n - i = (n - (i + 1)) + 1 by omega, List.replicate_succ]
          rfl
      · rw [if_neg (by omega), show n - i = 0 by omega]; simp
  unfold g_inflate_laid
  obtain ⟨k', rfl⟩ : ∃ k', k = k' + 2 := ⟨k - 2, by omega⟩
  have e1 : g_inflate_laid_l1 (k' + 2) ⟨(n : Int), v⟩ (k' + 2) 0 [] = some (List.replicate n v) := by
    have := h1 (k' + 2) 0 [] (by omega) (by omega) (by simp)
    simpa using this
  have e0 : g_inflate_laid_l0 (k' + 2) [⟨(n : Int), v⟩] (k' + 2) 0 [] = some (List.replicate n v) := by
    rw [g_inflate_laid_l0.eq_2]
    simp only [List.length_cons, List.length_nil, Option.bind_some]
    rw [dt (by omega), bt, show ix [(⟨(n : Int), v⟩ : S_inflate_run)] 0 = some ⟨(n : Int), v⟩ from rfl]
    simp only [Option.bind_some, e1]
    rw [show IntKind.wrap .i64 (0 + 1) = 1 from rfl, g_inflate_laid_l0.eq_2]
    simp only [List.length_cons, List.length_nil, Option.bind_some]
    rw [df (by omega), bf]
  rw [e0]
  rfl
theorem code_ok {k : Nat} (hk : 400 ≤ k) (l : List Int) : (∃ e, e ≠ 0 ∧ g_inflate_code k l = some (.inl e)) ∨ ∃ cs sy, g_inflate_code k l = some (.inr (cs, sy)) ∧ Dec l cs sy ∧ l.length ≤ 320 := by
  have h := g_huff_New_ok (k := k) (by omega) (l := l)
  unfold g_inflate_code
  by_cases hj : (judge l).2 = 0
  · rw [if_pos hj] at h
    obtain ⟨cs, sy, h1, h2⟩ := h
    exact .inr ⟨cs, sy, by rw [h1]; rfl, h2, (judge_ok hj).1⟩
  · rw [if_neg hj] at h
    refine .inl ⟨_, hj, ?_⟩
    rw [h]
    simp only [Option.bind_some]
    rw [must_bad k hj]
theorem last_ok (k : Nat) (row : List Int) (hr : row.length ≤ 1000) : ∃ v c, g_inflate_stream_dynamic_1__b k row = some (v, c) := by
  unfold g_inflate_stream_dynamic_1__b
  simp only [Option.bind_some, bd]
  by_cases h : row.length = 0
  · rw [if_pos (by omega)]; exact ⟨_, _, rfl⟩
  · rw [if_neg (by omega), wi (by omega) (by omega), ix_int (by omega) (by omega)]
    exact ⟨_, _, rfl⟩
def ord19 : List Int := [16, 17, 18, 0, 8, 7, 9, 6, 10, 5, 11, 4, 12, 3, 13, 2, 14, 1, 15]
theorem ord_ok {n i : Nat} (hn : n ≤ 19) (hi : i < n) : ∃ x : Nat, ix (List.drop (Int.toNat 0) (List.take n (fixD (0 : Int) ([16, 17, 18, 0, 8, 7, 9, 6, 10, 5, 11, 4, 12, 3, 13, 2, 14, 1, 15] : List Int) 19))) (i : Int) = some (x : Int) ∧ x < 19 := by
  have e : fixD (0 : Int) ([16, 17, 18, 0, 8, 7, 9, 6, 10, 5, 11, 4, 12, 3, 13, 2, 14, 1, 15] : List Int) 19 = ord19 := by decide
  have hall : (ord19.all fun x => decide (0 ≤ x) && decide (x < 19)) = true := by decide
  rw [e, Int.toNat_zero, List.drop_zero]
  have hl : i < (ord19.take n).length := by rw [List.length_take, show ord19.length = 19 from rfl]; omega
  rw [ix_nat hl]
  have := List.all_eq_true.1 hall _ (List.mem_of_mem_take (List.getElem_mem hl))
  simp only [Bool.and_eq_true, decide_eq_true_eq] at this
  exact ⟨((ord19.take n)[i]'hl).toNat, by rw [Int.toNat_of_nonneg this.1], by omega⟩
theorem ord_len {n : Nat} (hn : n ≤ 19) : (List.length (List.drop (Int.toNat 0) (List.take n (fixD (0 : Int) ([16, 17, 18, 0, 8, 7, 9, 6, 10, 5, 11, 4, 12, 3, 13, 2, 14, 1, 15] : List Int) 19)))) = n := by
  simp [fixD]
  omega
theorem lens_good {k : Nat} (hk : 20 ≤ k) (o : List Int) (lo : Nat) (c : Int) (many : Nat) (hc : IntKind.wrap .i64 (4 + c) = (many : Int)) (hm : many ≤ 19) : ∀ (n i : Nat) (l : List Int) (N : Nat), many - i < n → i ≤ many →
    GoodW N 0 lo (fun _ => lo) (fun _ => True) (fun m b p => g_inflate_stream_dynamic_l0 k m o c (many : Int) n (i : Int) b p l) := by
  intro n
  induction n with
  | zero => intro i l N h; omega
  | succ n ih =>
    intro i l N hn hi
    refine GoodW.some ?_
    simp only [g_inflate_stream_dynamic_l0.eq_2, hc, Int.toNat_natCast]
    refine GoodW.cond (fun h => ?_) (fun h => ?_)
    · have h' := of_decide_eq_true h
      obtain ⟨x, hx, hx2⟩ := ord_ok hm (by omega : i < many)
      simp only [hx, Option.bind_some]
      refine GoodW.less (w := 3 + 0) ?_ (Nat.zero_le _)
      refine GoodW.bindR (w := 3) (w2 := 0) (show GoodM N 3 _ (fun m b p => g_inflate_stream_take k 3 m b p o) from take_good (k := k) (n := 3) (by omega) (by omega) o N) ?_ ?_
      · exact fun _ _ => rfl
      rintro v ⟨hv0, hv⟩ _
      dsimp only
      have hg : decide (0 ≤ (x : Int) ∧ (x : Int) < 19) = true := decide_eq_true (by omega)
      simp only [hg, cond_true]
      rw [wi (n := (i : Int) + 1) (by omega) (by omega), show (i : Int) + 1 = ((i + 1 : Nat) : Int) by omega]
      exact (ih (i + 1) _ (N - 3) (by omega) (by omega)).toSome
    · refine GoodW.ret (o := l) trivial rfl ?_
      exact fun _ _ _ => rfl
def dynPost : ((Int × (List Int)) ⊕ (((List Int) × Int × (List Int)) ⊕ ((Int × (List Int)) ⊕ (((List Int) × Int × (List Int)) ⊕ ((List Int) × Int × (List Int)))))) → Option (Int ⊕ (List Int × Int × List Int))
  | .inl (e, _) => some (.inl e)
  | .inr (.inl _) => some (.inl 12)
  | .inr (.inr (.inl (e, _))) => some (.inl e)
  | .inr (.inr (.inr (.inl _))) => some (.inl 12)
  | .inr (.inr (.inr (.inr (b, p, row)))) => some (.inr (b, p, row))
theorem row_tail {k : Nat} (hk : 2000 ≤ k) (lo N T : Nat) (hT : T ≤ 400) (TT : Int) (hTT : TT = (T : Int)) (many : Nat) (many' : Int) (hm' : many' = (many : Int)) (hm1 : 1 ≤ many) (hm2 : many ≤ 300) (v : Int) (row : List Int) (hr : row.length < T)
    (L : Int → List Int → Int → List Int → Option ((Int × (List Int)) ⊕ (((List Int) × Int × (List Int)) ⊕ ((Int × (List Int)) ⊕ (((List Int) × Int × (List Int)) ⊕ ((List Int) × Int × (List Int)))))))
    (hrec : ∀ row', row'.length < T → GoodW N 0 lo (fun _ => lo) (fun r => r.length = T) (fun m b p => (L m b p row').bind dynPost)) :
    GoodW N 0 lo (fun _ => lo) (fun r => r.length = T) (fun m b p => (bif decide (many' ≤ IntKind.wrap .i64 (TT - ((row.length : Nat) : Int))) then (g_inflate_laid k ([(⟨many', v⟩ : S_inflate_run)] : List S_inflate_run)).bind fun z =>
        (bif decide ((row.length + z.length) * 8 ≤ 140737488355328) then (bif decide (((row ++ z).length : Int) = TT) then some (.inr (.inr (.inr (.inr (b, p, (row ++ z)))))) else L m b p (row ++ z)) else none)
      else some (.inr (.inr (.inr (.inl (b, p, row)))))).bind dynPost) := by
  subst hTT hm'
  refine GoodW.cond (fun h => ?_) (fun _ => .err (e := 12) (by decide) ?_)
  · have h' := of_decide_eq_true h
    rw [wi (by omega) (by omega)] at h'
    have hg : decide ((row.length + (List.replicate many v).length) * 8 ≤ 140737488355328) = true := decide_eq_true (by simp; omega)
    simp only [laid_one (by omega : 1010 ≤ k) many (by omega) v, Option.bind_some, hg, cond_true]
    refine GoodW.cond (fun h2 => ?_) (fun h2 => ?_)
    · refine GoodW.ret (o := row ++ List.replicate many v) (by have := of_decide_eq_true h2; omega) rfl ?_
      exact fun _ _ _ => rfl
    · refine hrec _ ?_
      have := of_decide_eq_false h2
      simp only [List.length_append, List.length_replicate] at this ⊢
      omega
  · exact fun _ _ _ => rfl
theorem row_good {k : Nat} (hk : 2000 ≤ k) (o : List Int) (lo : Nat) (v1 v2 : Int) (T : Nat) (hT : T ≤ 400) (hTT : IntKind.wrap .i64 (IntKind.wrap .i64 (257 + v1) + IntKind.wrap .i64 (1 + v2)) = (T : Int)) {l cs sy : List Int} (hd : Dec l cs sy) (hl : l.length ≤ 320) :
    ∀ (n N : Nat) (row : List Int), N < n → row.length < T → GoodW N 1 lo (fun _ => lo) (fun r => r.length = T) (fun m b p => (g_inflate_stream_dynamic_l1 k m o v1 v2 cs sy n b p row).bind dynPost) := by
  intro n
  induction n with
  | zero => intro N row h; omega
  | succ n ih =>
    intro N row hN hr
    obtain ⟨lv, lc, hlast⟩ := last_ok k row (by omega)
    simp only [g_inflate_stream_dynamic_l1.eq_2, ask12, Option.bind_some, hlast]
    refine GoodW.bindR (w := 1) (w2 := 0) (sym_good (k := k) (by omega) hd hl o N) ?_ ?_
    · exact fun _ _ => rfl
    rintro x _ hw
    dsimp only
    have hrec : ∀ N', N' ≤ N - 1 → ∀ row', row'.length < T → GoodW N' 0 lo (fun _ => lo) (fun r => r.length = T) (fun m b p => (g_inflate_stream_dynamic_l1 k m o v1 v2 cs sy n b p row').bind dynPost) :=
      fun N' hN' row' h => ((ih N' row' (by omega) h)).less (Nat.zero_le _)
    refine GoodW.cond (fun _ => ?_) (fun _ => GoodW.cond (fun _ => ?_) (fun _ => GoodW.cond (fun _ => ?_) (fun _ => ?_)))
    · refine GoodW.cond (fun _ => ?_) (fun _ => .err (e := 12) (by decide) ?_)
      · refine GoodW.less (w := 2 + 0) ?_ (Nat.zero_le _)
        refine GoodW.bindR (w := 2) (w2 := 0) (show GoodM (N - 1) 2 _ (fun m b p => g_inflate_stream_take k 2 m b p o) from take_good (k := k) (n := 2) (by omega) (by omega) o (N - 1)) ?_ ?_
        · exact fun _ _ => rfl
        rintro v ⟨hv0, hv⟩ _
        dsimp only
        exact row_tail hk lo _ T hT _ hTT (3 + v.toNat) _ (by rw [wi (by omega) (by omega)]; omega) (by omega) (by omega) lv row hr (fun m b p row => g_inflate_stream_dynamic_l1 k m o v1 v2 cs sy n b p row) (hrec _ (by omega))
      · exact fun _ _ _ => rfl
    · refine GoodW.less (w := 3 + 0) ?_ (Nat.zero_le _)
      refine GoodW.bindR (w := 3) (w2 := 0) (show GoodM (N - 1) 3 _ (fun m b p => g_inflate_stream_take k 3 m b p o) from take_good (k := k) (n := 3) (by omega) (by omega) o (N - 1)) ?_ ?_
      · exact fun _ _ => rfl
      rintro v ⟨hv0, hv⟩ _
      dsimp only
      exact row_tail hk lo _ T hT _ hTT (3 + v.toNat) _ (by rw [wi (by omega) (by omega)]; omega) (by omega) (by omega) 0 row hr (fun m b p row => g_inflate_stream_dynamic_l1 k m o v1 v2 cs sy n b p row) (hrec _ (by omega))
    · refine GoodW.less (w := 7 + 0) ?_ (Nat.zero_le _)
      refine GoodW.bindR (w := 7) (w2 := 0) (show GoodM (N - 1) 7 _ (fun m b p => g_inflate_stream_take k 7 m b p o) from take_good (k := k) (n := 7) (by omega) (by omega) o (N - 1)) ?_ ?_
      · exact fun _ _ => rfl
      rintro v ⟨hv0, hv⟩ _
      dsimp only
      exact row_tail hk lo _ T hT _ hTT (11 + v.toNat) _ (by rw [wi (by omega) (by omega)]; omega) (by omega) (by omega) 0 row hr (fun m b p row => g_inflate_stream_dynamic_l1 k m o v1 v2 cs sy n b p row) (hrec _ (by omega))
    · exact row_tail hk lo _ T hT _ hTT 1 _ rfl (by omega) (by omega) x row hr (fun m b p row => g_inflate_stream_dynamic_l1 k m o v1 v2 cs sy n b p row) (hrec _ (by omega))
end Go.Proofs.Ytpceecokdpdgfaa.W
namespace Go.Proofs.Ytpceecokdpdgfaa.W
open Go Go.Q Go.Proofs
set_option linter.unusedVariables false
set_option linter.unusedSimpArgs false
theorem full_eq {k : Nat} (hk : 400 ≤ k) (l : List Int) : g_huff_Full k l = some (judge l).1 := by
  unfold g_huff_Full
  rw [g_huff_judged_eq (by omega)]
  rfl
theorem dynamic_good {k : Nat} (hk : 100020 ≤ k) (N : Nat) (hN : N < k) (o : List Int) : GoodW N 0 o.length List.length (fun _ => True) (fun m b p => g_inflate_stream_dynamic k m b p o) := by
  by_cases ho : 65536 < o.length
  · exact .vac ho
  refine GoodW.some ?_
  unfold g_inflate_stream_dynamic
  refine GoodW.less (w := 5 + 0) ?_ (Nat.zero_le _)
  refine GoodW.bindR (w := 5) (w2 := 0) (show GoodM N 5 _ (fun m b p => g_inflate_stream_take k 5 m b p o) from take_good (k := k) (n := 5) (by omega) (by omega) o N) ?_ ?_
  · exact fun _ _ => rfl
  rintro v1 ⟨h10, h1⟩ _
  dsimp only
  refine GoodW.less (w := 5 + 0) ?_ (Nat.zero_le _)
  refine GoodW.bindR (w := 5) (w2 := 0) (show GoodM (N - 5) 5 _ (fun m b p => g_inflate_stream_take k 5 m b p o) from take_good (k := k) (n := 5) (by omega) (by omega) o _) ?_ ?_
  · exact fun _ _ => rfl
  rintro v2 ⟨h20, h2⟩ _
  dsimp only
  refine GoodW.less (w := 4 + 0) ?_ (Nat.zero_le _)
  refine GoodW.bindR (w := 4) (w2 := 0) (show GoodM (N - 5 - 5) 4 _ (fun m b p => g_inflate_stream_take k 4 m b p o) from take_good (k := k) (n := 4) (by omega) (by omega) o _) ?_ ?_
  · exact fun _ _ => rfl
  rintro v3 ⟨h30, h3⟩ _
  dsimp only
  obtain ⟨v1, rfl⟩ : ∃ n : Nat, v1 = (n : Int) := ⟨v1.toNat, by omega⟩
  obtain ⟨v2, rfl⟩ : ∃ n : Nat, v2 = (n : Int) := ⟨v2.toNat, by omega⟩
  obtain ⟨v3, rfl⟩ : ∃ n : Nat, v3 = (n : Int) := ⟨v3.toNat, by omega⟩
  have e1 : IntKind.wrap .i64 (257 + (v1 : Int)) = ((257 + v1 : Nat) : Int) := by rw [wi (by omega) (by omega)]; omega
  have e2 : IntKind.wrap .i64 (1 + (v2 : Int)) = ((1 + v2 : Nat) : Int) := by rw [wi (by omega) (by omega)]; omega
  have e3 : IntKind.wrap .i64 (4 + (v3 : Int)) = ((4 + v3 : Nat) : Int) := by rw [wi (by omega) (by omega)]; omega
  have e4 : IntKind.wrap .i64 (IntKind.wrap .i64 (257 + (v1 : Int)) + IntKind.wrap .i64 (1 + (v2 : Int))) = ((258 + v1 + v2 : Nat) : Int) := by rw [e1, e2, wi (by omega) (by omega)]; omega
  have g1 : decide (0 ≤ (0 : Int) ∧ (0 : Int) ≤ ((4 + v3 : Nat) : Int) ∧ ((4 + v3 : Nat) : Int) ≤ (19 : Int)) = true := decide_eq_true (by omega)
  have g2 : decide (0 ≤ (0 : Int) ∧ (0 : Int) ≤ (19 : Int) ∧ (19 : Int) ≤ (19 : Int)) = true := by decide
  simp only [ask12, ask11, Option.bind_some, e1, e2, e3, g1, g2, cond_true, Int.toNat_natCast, ord_len (by omega : 4 + v3 ≤ 19), full_eq (by omega : 400 ≤ k)]
  by_cases c1 : (((257 + v1 : Nat) : Int) ≤ 286)
  · by_cases c2 : (((1 + v2 : Nat) : Int) ≤ 30)
    · simp only [decide_eq_true c1, decide_eq_true c2, cond_true, Option.bind_some]
      refine GoodW.bindW (w := 0) (w2 := 0) (lens_good (k := k) (by omega) o o.length (v3 : Int) (4 + v3) e3 (by omega) k 0 (List.replicate 19 (0 : Int)) _ (by omega) (by omega)) ?_ ?_
      · exact fun _ _ => rfl
      rintro ls _ _
      dsimp only
      refine GoodW.cond (fun _ => ?_) (fun _ => .err (e := 11) (by decide) ?_)
      · rcases code_ok (k := k) (by omega) (List.drop (Int.toNat 0) (List.take (Int.toNat (19 : Int)) (fixD (0 : Int) ls 19))) with ⟨e, he, h⟩ | ⟨cs, sy, h, hd, hl⟩
        · simp only [h, Option.bind_some]
          exact GoodW.err0 he
        · simp only [h, Option.bind_some, g_inflate_stream_runs]
          have hrow := row_good (k := k) (by omega) o o.length (v1 : Int) (v2 : Int) (258 + v1 + v2) (by omega) e4 hd hl k (N - 5 - 5 - 4 - 0) [] (by omega) (by simp; omega)
          have hrow' := hrow.less (Nat.zero_le 1)
          refine GoodW.congr (f := fun m b p => (((g_inflate_stream_dynamic_l1 k m o (v1 : Int) (v2 : Int) cs sy k b p []).bind dynPost).bind fun y => match y with
            | .inl e => some (.inl e)
            | .inr (b, p, row) => (ix row 256).bind fun x => bif decide (0 < x) then
                (bif decide (0 ≤ (0 : Int) ∧ (0 : Int) ≤ ((257 + v1 : Nat) : Int) ∧ ((257 + v1 : Nat) : Int) ≤ ((List.length row : Nat) : Int)) then
                  (g_inflate_code k (List.drop (Int.toNat 0) (List.take (257 + v1) row))).bind fun y => match y with
                    | .inl e => some (.inl e)
                    | .inr (c1, s1) => bif decide (0 ≤ ((257 + v1 : Nat) : Int) ∧ ((257 + v1 : Nat) : Int) ≤ ((List.length row : Nat) : Int) ∧ ((List.length row : Nat) : Int) ≤ ((List.length row : Nat) : Int)) then
                        (g_inflate_code k (List.drop (257 + v1) (List.take (List.length row) row))).bind fun y => match y with
                          | .inl e => some (.inl e)
                          | .inr (c2, s2) => (g_inflate_stream_coded k m b p c1 c2 o s1 s2).bind fun y => match y with
                            | .inl e => some (.inl e)
                            | .inr (b, p, o) => some (.inr (b, p, o))
                      else none
                  else none)
                else some (.inl 12)).bind some) ?_ ?_
          · refine GoodW.bindW (w := 0) (w2 := 0) hrow' ?_ ?_
            · exact fun _ _ => rfl
            rintro row hr _
            dsimp only
            have hx : ∃ x, ix row 256 = some x := ⟨_, ix_int (by omega) (by omega)⟩
            obtain ⟨x, hx⟩ := hx
            simp only [hx, Option.bind_some]
            refine GoodW.cond (fun _ => ?_) (fun _ => .err (e := 12) (by decide) ?_)
            · have g3 : decide (0 ≤ (0 : Int) ∧ (0 : Int) ≤ ((257 + v1 : Nat) : Int) ∧ ((257 + v1 : Nat) : Int) ≤ ((List.length row : Nat) : Int)) = true := decide_eq_true (by omega)
              have g4 : decide (0 ≤ ((257 + v1 : Nat) : Int) ∧ ((257 + v1 : Nat) : Int) ≤ ((List.length row : Nat) : Int) ∧ ((List.length row : Nat) : Int) ≤ ((List.length row : Nat) : Int)) = true := decide_eq_true (by omega)
              simp only [g3, g4, cond_true]
              rcases code_ok (k := k) (by omega) (List.drop (Int.toNat 0) (List.take (257 + v1) row)) with ⟨e, he, h⟩ | ⟨c1, s1, h, hd1, hl1⟩
              · simp only [h, Option.bind_some]
                exact GoodW.err0 he
              · simp only [h, Option.bind_some]
                rcases code_ok (k := k) (by omega) (List.drop (257 + v1) (List.take (List.length row) row)) with ⟨e, he, h⟩ | ⟨c2, s2, h, hd2, hl2⟩
                · simp only [h, Option.bind_some]
                  exact GoodW.err0 he
                · simp only [h, Option.bind_some]
                  refine GoodW.bindW (w := 0) (w2 := 0) ((coded_good hk hd1 hl1 hd2 hl2 _ (by omega) o).less (Nat.zero_le _)) ?_ ?_
                  · exact fun _ _ => rfl
                  rintro o' _ _
                  refine GoodW.ret (o := o') trivial rfl ?_
                  exact fun _ _ _ => rfl
            · exact fun _ _ _ => rfl
          · intro m b p
            cases g_inflate_stream_dynamic_l1 k m o (v1 : Int) (v2 : Int) cs sy k b p [] with
            | none => rfl
            | some y => rcases y with ⟨e, r⟩ | ⟨r1, r2, r3⟩ | ⟨e, r⟩ | ⟨r1, r2, r3⟩ | ⟨r1, r2, r3⟩ <;> rfl
      · exact fun _ _ _ => rfl
    · simp only [decide_eq_true c1, decide_eq_false c2, cond_true, cond_false, Option.bind_some]
      exact GoodW.err0 (by decide)
  · simp only [decide_eq_false c1, cond_false, Option.bind_some]
    exact GoodW.err0 (by decide)
end Go.Proofs.Ytpceecokdpdgfaa.W
namespace Go.Proofs.Ytpceecokdpdgfaa.W
open Go Go.Q Go.Proofs
set_option linter.unusedVariables false
set_option linter.unusedSimpArgs false
theorem alive {k : Nat} (hk : 400 ≤ k) : g_quirelaw03_alive k = some true := (g_quirelaw03_alive_mono hk).h _ (by kernel_rfl)
theorem fixedLit_some {k : Nat} (hk : 400 ≤ k) : ∃ l, g_inflate_FixedLit k = some l := by
  have h : (g_inflate_FixedLit 400).isSome = true := by kernel_rfl
  obtain ⟨l, hl⟩ := Option.isSome_iff_exists.1 h
  exact ⟨l, (g_inflate_FixedLit_mono hk).h _ hl⟩
theorem fixedDist_some {k : Nat} (hk : 400 ≤ k) : ∃ l, g_inflate_FixedDist k = some l := by
  have h : (g_inflate_FixedDist 400).isSome = true := by kernel_rfl
  obtain ⟨l, hl⟩ := Option.isSome_iff_exists.1 h
  exact ⟨l, (g_inflate_FixedDist_mono hk).h _ hl⟩
def allPost : (Int ⊕ ((Int × (List Int) × Int × (List Int)) ⊕ ((List Int) × Int × (List Int)))) → Option (Int ⊕ (List Int × Int × List Int))
  | .inl e => some (.inl e)
  | .inr (.inl (e, _, _, _)) => some (.inl e)
  | .inr (.inr (b, p, o)) => some (.inr (b, p, o))
theorem all_loop {k : Nat} (hk : 100020 ≤ k) : ∀ (n N : Nat) (last : Int) (o : List Int), N < n → N < k →
    GoodW N (if last = 0 then 3 else 0) o.length List.length (fun _ => True) (fun m b p => (g_inflate_stream_all_l0 k m n last b p o).bind allPost) := by
  intro n
  induction n with
  | zero => intro N _ o h; omega
  | succ n ih =>
    intro N last o hN hNk
    by_cases ho : 65536 < o.length
    · exact .vac ho
    simp only [g_inflate_stream_all_l0.eq_2]
    by_cases hl : last = 0
    · subst hl
      simp only [decide_true, cond_true, if_true]
      refine GoodW.bindR (w := 1) (w2 := 2) (show GoodM N 1 _ (fun m b p => g_inflate_stream_take k 1 m b p o) from take_good (k := k) (n := 1) (by omega) (by omega) o N) ?_ ?_
      · exact fun _ _ => rfl
      rintro last _ hw1
      dsimp only
      refine GoodW.bindR (w := 2) (w2 := 0) (show GoodM (N - 1) 2 _ (fun m b p => g_inflate_stream_take k 2 m b p o) from take_good (k := k) (n := 2) (by omega) (by omega) o _) ?_ ?_
      · exact fun _ _ => rfl
      rintro kind _ hw2
      dsimp only
      have hrec : ∀ N', N' ≤ N - 1 - 2 → ∀ o', GoodW N' 0 (List.length o') List.length (fun _ => True) (fun m b p => (g_inflate_stream_all_l0 k m n last b p o').bind allPost) :=
        fun N' hN' o' => (ih N' last o' (by omega) (by omega)).less (Nat.zero_le _)
      refine GoodW.cond (fun _ => ?_) (fun _ => GoodW.cond (fun _ => ?_) (fun _ => GoodW.cond (fun _ => ?_) (fun _ => ?_)))
      · refine GoodW.bindW (w := 0) (w2 := 0) (stored_good k o _) ?_ ?_
        · exact fun _ _ => rfl
        rintro o' _ _
        exact hrec _ (by omega) o'
      · obtain ⟨l1, h1⟩ := fixedLit_some (k := k) (by omega)
        obtain ⟨l2, h2⟩ := fixedDist_some (k := k) (by omega)
        simp only [h1, h2, Option.bind_some]
        rcases code_ok (k := k) (by omega) l1 with ⟨e, he, h⟩ | ⟨c1, s1, h, hd1, hl1⟩
        · simp only [h, Option.bind_some]
          exact GoodW.err0 he
        · simp only [h, Option.bind_some]
          rcases code_ok (k := k) (by omega) l2 with ⟨e, he, h⟩ | ⟨c2, s2, h, hd2, hl2⟩
          · simp only [h, Option.bind_some]
            exact GoodW.err0 he
          · simp only [h, Option.bind_some]
            refine GoodW.bindW (w := 0) (w2 := 0) ((coded_good hk hd1 hl1 hd2 hl2 _ (by omega) o).less (Nat.zero_le _)) ?_ ?_
            · exact fun _ _ => rfl
            rintro o' _ _
            exact hrec _ (by omega) o'
      · refine GoodW.bindW (w := 0) (w2 := 0) (dynamic_good hk _ (by omega) o) ?_ ?_
        · exact fun _ _ => rfl
        rintro o' _ _
        exact hrec _ (by omega) o'
      · simp only [must_bad k (show (12 : Int) ≠ 0 by decide)]
        exact GoodW.err0 (by decide)
    · simp only [decide_eq_false hl, cond_false, if_neg hl]
      exact GoodW.ret0 trivial rfl
theorem all_good {k : Nat} (hk : 100020 ≤ k) (N : Nat) (hN : N < k) : GoodW N 3 0 List.length (fun _ => True) (fun m b p => g_inflate_stream_all k m b p []) :=
  (all_loop hk k N 0 [] hN hN).congr fun m b p => by
    unfold g_inflate_stream_all
    congr 1
theorem inflate_same (k : Nat) (b : List Int) (m : Int) : g_inflate_Inflate k b m = g_inflate_Inflate__b k b m := rfl
theorem inflate_of {k : Nat} {b : List Int} {m : Int} (hm : 0 ≤ m) (hb : b.length ≤ rX) {r : Int ⊕ (List Int × Int × List Int)} (h : g_inflate_stream_all k m b 0 [] = some r) :
    g_inflate_Inflate__b k b m = match r with
      | .inl e => some ([], 0, e)
      | .inr (b', p', o) => some (o, IntKind.wrap .i64 (((b.length : Nat) : Int) - IntKind.wrap .i64 (Int.tdiv (IntKind.wrap .i64 (IntKind.wrap .i64 (8 * ((b'.length : Nat) : Int)) - p')) 8)), 0) := by
  unfold rX at hb
  unfold g_inflate_Inflate__b g_bits_NewReader__b g_slices_Clone_byte_byte__b
  rw [df (by omega : ¬ m < 0), bf, dt (by simp; omega : (List.length ([] : List Int) + List.length b) * 1 ≤ 140737488355328), bt]
  simp only [Option.bind_some, h]
  rcases r with e | ⟨b', p', o⟩ <;> rfl
/-- What a stream tells. -/
theorem inflate_ok {k : Nat} (B : List Int) (m : Int) (hB : okB B) (hl : B.length ≤ rX) (hm : m ≤ 65536) (hk : 100020 + 8 * B.length ≤ k) :
    (∃ e, e ≠ 0 ∧ g_inflate_Inflate__b k B m = some ([], 0, e)) ∨
    ∃ a o, 3 ≤ a ∧ a ≤ 8 * B.length ∧ (o.length : Int) ≤ m ∧
      (∀ C, okB C → C.length ≤ rX → Ag B C a → g_inflate_Inflate__b k C m = some (if a ≤ 8 * C.length then (o, (((a + 7) / 8 : Nat) : Int), 0) else ([], 0, 10))) ∧
      (∀ m', 0 ≤ m' → m' ≤ 65536 → g_inflate_Inflate__b k B m' = some (if (o.length : Int) ≤ m' then (o, (((a + 7) / 8 : Nat) : Int), 0) else ([], 0, 3))) := by
  by_cases h0 : m < 0
  · refine .inl ⟨1, by decide, ?_⟩
    unfold g_inflate_Inflate__b
    rw [dt h0, bt]
  · have used : ∀ (C : List Int) (a : Nat), C.length ≤ rX → a ≤ 8 * C.length → IntKind.wrap .i64 (((C.length : Nat) : Int) - IntKind.wrap .i64 (Int.tdiv (IntKind.wrap .i64 (IntKind.wrap .i64 (8 * (((C.drop (a / 8)).length : Nat) : Int)) - ((a % 8 : Nat) : Int))) 8)) = (((a + 7) / 8 : Nat) : Int) := by
      intro C a hC ha
      unfold rX at hC
      rw [List.length_drop, wi (n := 8 * ((C.length - a / 8 : Nat) : Int)) (by omega) (by omega), wi (n := 8 * ((C.length - a / 8 : Nat) : Int) - ((a % 8 : Nat) : Int)) (by omega) (by omega)]
      have e : 8 * ((C.length - a / 8 : Nat) : Int) - ((a % 8 : Nat) : Int) = ((8 * C.length - a : Nat) : Int) := by omega
      rw [e, show Int.tdiv ((8 * C.length - a : Nat) : Int) 8 = (((8 * C.length - a) / 8 : Nat) : Int) from rfl, wi (n := (((8 * C.length - a) / 8 : Nat) : Int)) (by omega) (by omega), wi (by omega) (by omega)]
      omega
    rcases (all_good (k := k) (by omega) (8 * B.length) (by omega)).h B 0 m hB hl (by omega) (by omega) (by omega) hm with ⟨e, he, h⟩ | ⟨a, o, h1, h2, _, _, h3, h4, h5⟩
    · exact .inl ⟨e, he, inflate_of (by omega) hl h⟩
    · refine .inr ⟨a, o, by omega, h2, h3, fun C hC hCl hag => ?_, fun m' hm1 hm2 => ?_⟩
      · have h := h4 C hC hCl hag (by omega)
        have h' : g_inflate_stream_all k m C 0 [] = _ := h
        by_cases hc : a ≤ 8 * C.length
        · rw [if_pos hc] at h' ⊢
          rw [inflate_of (by omega) hCl h']
          simp only
          rw [used C a hCl hc]
        · rw [if_neg hc] at h' ⊢
          rw [inflate_of (by omega) hCl h']
      · have h := h5 m' hm1 hm2
        have h' : g_inflate_stream_all k m' B 0 [] = _ := h
        by_cases hc : (o.length : Int) ≤ m'
        · rw [if_pos hc] at h' ⊢
          rw [inflate_of hm1 hl h']
          simp only
          rw [used B a hl h2]
        · rw [if_neg hc] at h' ⊢
          rw [inflate_of hm1 hl h']
theorem okB_of {l : List Int} (h : ∀ x ∈ l, (Lit.int .u8 x).wf = true) : okB l := fun x hx => by
  obtain ⟨v, rfl⟩ := u8_bv (h x hx)
  have := v.isLt
  omega
theorem same_self (k : Nat) (l : List Int) : g_quirelaw01_Same k l l = some true := by
  unfold g_quirelaw01_Same
  simp
theorem msum_one {α : Type} (l : List α) : msum (fun _ => 1) l = l.length := by
  induction l with
  | nil => rfl
  | cons x l ih => simp only [msum, ih, List.length_cons]; omega
theorem behind (b more : List Int) (mst : Int) (hb : b.length ≤ maxLen ∧ ∀ x ∈ b, (Lit.int .u8 x).wf = true) (hm : more.length ≤ maxLen ∧ ∀ x ∈ more, (Lit.int .u8 x).wf = true) (_ : (Lit.int .i64 mst).wf = true)
    (mb : msum (fun x => 1) b + 1 ≤ 1048576) (mm : msum (fun x => 1) more + 1 ≤ 1048576) : ∃ k, g_quirelaw03_InflateBehind k b more mst = some true := by
  rw [msum_one] at mb mm
  refine ⟨100020 + 8 * b.length, ?_⟩
  unfold g_quirelaw03_InflateBehind
  have hal := alive (k := 100020 + 8 * b.length) (by omega)
  obtain ⟨M, hM, hM2⟩ : ∃ M : Int, (bif decide (65536 < mst) then some 65536 else some mst) = some M ∧ M ≤ 65536 := by
    rw [bd]
    split
    · exact ⟨_, rfl, by omega⟩
    · exact ⟨_, rfl, by omega⟩
  rw [hM]
  simp only [Option.bind_some]
  rcases inflate_ok (k := 100020 + 8 * b.length) b M (okB_of hb.2) (by unfold rX; omega) hM2 (by omega) with ⟨e, he, h⟩ | ⟨a, o, h1, h2, h3, h4, h5⟩
  · rw [h]
    simp only [Option.bind_some]
    rw [df he]
    simp [hal]
  · have e1 := h4 b (okB_of hb.2) (by unfold rX; omega) (Ag.refl b a)
    rw [if_pos h2] at e1
    rw [e1]
    obtain ⟨n, hn⟩ : ∃ n, n = (a + 7) / 8 := ⟨_, rfl⟩
    simp only [← hn] at h4 ⊢
    simp only [Option.bind_some, decide_true, Bool.not_true, cond_false, Int.toNat_natCast, Int.toNat_zero, List.drop_zero, List.nil_append]
    rw [df (by omega : ¬ ((n : Int) < 1)), bf, df (by omega : ¬ ((b.length : Int) < (n : Int))), bf, df (by omega : ¬ (M < (o.length : Int)))]
    simp only [Option.bind_some, cond_false]
    rw [dt (by omega : (0 : Int) ≤ 0 ∧ (0 : Int) ≤ (n : Int) ∧ (n : Int) ≤ (b.length : Int)), bt, dt (by simp; omega), bt, dt (by simp; omega), bt, inflate_same]
    have e2 := h4 (b.take n ++ more) (fun x hx => by
      rcases List.mem_append.1 hx with hx | hx
      · exact okB_of hb.2 x (List.mem_of_mem_take hx)
      · exact okB_of hm.2 x hx) (by unfold rX; simp; omega) (fun i h1 h2 => by
        rw [List.getElem?_append_left (by simp; omega), List.getElem?_take, if_pos (by omega)])
    rw [if_pos (by simp; omega)] at e2
    rw [e2]
    simp only [Option.bind_some]
    rw [wi (n := (n : Int) - 1) (by omega) (by omega), dt (by omega), bt, show ((n : Int) - 1).toNat = n - 1 by omega]
    have e3 := h4 (b.take (n - 1)) (fun x hx => okB_of hb.2 x (List.mem_of_mem_take hx)) (by unfold rX; simp; omega) (fun i h1 h2 => by
        rw [List.length_take] at h2
        rw [List.getElem?_take, if_pos (by omega)])
    rw [if_neg (by simp; omega)] at e3
    rw [e3]
    simp [same_self, hal]
end Go.Proofs.Ytpceecokdpdgfaa.W
