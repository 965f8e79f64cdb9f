/- Texts joined: part 5 of what LValMakes stands on. -/
import Derived.Test.YthpcgknknpjpdaaGreatDoorSValMakesd
namespace Go.Proofs.YthpcgknknpjpdaaGreatDoor.W
open Go Go.Q Go.Proofs
set_option linter.unusedVariables false
set_option linter.unusedSimpArgs false
set_option maxRecDepth 100000
set_option maxHeartbeats 4000000
theorem s_rv_text (k : Nat) (x1 : ByteArray) (x2 : Bool) (H : g_rv_text k x1 = some x2) : Go.Q.Spec Tryz.prog 48 0 [.lit (.string x1)] Mem.nil (fun o M => o = .ret (.lit (.bool x2)) ∧ M = Mem.nil) := by
 unfold g_rv_text at H
 refine Go.Q.Spec.of_bodyR (az := []) (rs := [.tmp 2]) (nt := 11) Tryz.func48 rfl rfl (by intro t T h; simp at h) rfl rfl fun cx hnp => ?_
 refine WP.sr ?_
 refine WPL.qq (q_as (v := .lit (.bool _)) rfl) ?_
 refine WPL.nx ?_
 refine WP.seq ?_
 obtain ⟨x3, H1, H⟩ := bnd H
 refine WP.monoW (Q := fun x E M => x = .normal ∧ E = (Env.none.upd 2 (.lit (.bool x3))) ∧ M = Mem.nil) ?_ ?_
 · clear H
   have H := H1
   clear H1
   refine WP.region ?_
   refine WPL.qq (q_mv (v := .lit (.string _)) rfl) ?_
   refine WPL.qq (q_len_str Tryz.underlying9 rfl) ?_
   obtain ⟨x4, h1, H⟩ := bnd H
   refine WPL.qq (q_nm (q_leq rfl rfl) (nm_bool h1)) ?_
   refine WPL.qq (q_mv (v := .lit (.bool _)) rfl) ?_
   refine WPL.split (t := 6) (b := x4) rfl (fun hb1 => ?_) (fun hb1 => ?_)
   · replace H := cnt hb1 H
     refine WPL.gq rfl (lb hb1) (q_mv (v := .lit (.string _)) rfl) ?_
     obtain ⟨x5, h2, H⟩ := bnd H
     refine WPL.cg rfl rfl (lb hb1) (runs_call (s := []) (t := []) (N := 0) (bor := []) fn87 rfl (s_r6_Xml k x1 x5 h2) ⟨rfl, trivial, by decide, rfl, trivial⟩ rfl trivial (.ren rfl rfl .nil) rfl trivial rfl) rfl ?_
     refine WPL.gq rfl (lb hb1) (q_eql rfl rfl) ?_
     refine WPL.qq (q_pickT (v := .lit (.bool _)) (lb hb1) rfl) ?_
     refine WPL.qq (q_as (v := .lit (.bool _)) rfl) ?_
     refine WPL.nilW ?_
     have q0 := j1 H
     subst q0
     exact W.wk [] hnp r3 ⟨rfl, trivial, by decide, rfl, trivial⟩ (LeE.u (LeE.none rfl rfl)) rfl
   replace H := cnf hb1 H
   refine WPL.sg false rfl (lb hb1) ?_
   refine WPL.sg false rfl (lb hb1) ?_
   refine WPL.sg false rfl (lb hb1) ?_
   refine WPL.qq (q_pickF (v := .lit (.bool _)) (lb hb1) rfl) ?_
   refine WPL.qq (q_as (v := .lit (.bool _)) rfl) ?_
   refine WPL.nilW ?_
   have q0 := j1 H
   subst q0
   exact W.wk [] hnp r3 ⟨rfl, trivial, by decide, rfl, trivial⟩ (LeE.u (LeE.none rfl rfl)) rfl
 rintro _ _ _ ⟨rfl, rfl, rfl⟩
 refine W.now ?_
 refine Then.n ?_
 refine WP.retW ?_
 have q0 := j1 H
 subst q0
 exact W.now (BodyR.mkR trivial rfl [] ⟨rfl, rfl⟩ ⟨rfl, trivial, by decide, rfl, trivial⟩ rfl rfl)
theorem s_rv_Str (k : Nat) (x1 : ByteArray) (x2 : Int) (x3 : ByteArray) (x4 : Int) (H : g_rv_Str k x1 = some (x2, x3, x4)) : Go.Q.Spec Tryz.prog 15 0 [.lit (.string x1)] Mem.nil (fun o M => o = .ret (.agg [.lit (.int .i64 x2), .lit (.int .i64 0), .lit (.int .i64 0), .lit (.string x3), .lit (.bool false), .lit (.int .i64 x4)]) ∧ M = (Mem.nil.push (.cells 29 [.lit (.int .i64 x2), .lit (.int .i64 0), .lit (.int .i64 0), .lit (.string x3), .lit (.bool false), .lit (.int .i64 x4)]))) := by
 unfold g_rv_Str at H
 refine Go.Q.Spec.of_bodyR (az := [(29, 6)]) (rs := [.cell 2 29]) (nt := 9) Tryz.func15 rfl rfl (by intro t T h; simp at h; rcases h with ⟨rfl, rfl⟩ <;> first | exact ag29) rfl rfl fun cx hnp => ?_
 refine WP.sr ?_
 refine WPL.d (d_alloc ze29 rfl) rfl ?_
 refine WPL.nx ?_
 refine WP.seq ?_
 refine WP.sr ?_
 refine WPL.qq (q_mv (v := .lit (.string _)) rfl) ?_
 obtain ⟨x5, h1, H⟩ := bnd H
 refine WPL.c (runs_call (s := []) (t := []) (N := 1) (bor := []) fn48 rfl (s_rv_text k x1 x5 h1) ⟨rfl, trivial, by decide, rfl, trivial⟩ rfl trivial (.ren rfl rfl .nil) rfl trivial rfl) rfl ?_
 refine WPL.qq (q_not rfl) ?_
 refine WPL.nx ?_
 refine WP.cond (t := (!x5)) rfl (fun hb1 => ?_) (fun hb1 => ?_)
 · replace H := cnt hb1 H
   refine WP.sr ?_
   obtain ⟨x6, h2, H⟩ := bnd H
   refine WPL.c (runs_call (s := []) (t := [1]) (N := 2) (bor := []) fn17 rfl (s_rv_Err k 2 x6 h2) ⟨rfl, trivial, by decide, rfl, trivial⟩ rfl trivial (.ren rfl rfl .nil) rfl BB1 rfl) rfl ?_
   refine WPL.s (s_store sz29 rfl rfl rfl rfl rfl) ?_
   refine WPL.nx ?_
   refine WP.retW ?_
   obtain ⟨rfl, rfl, rfl⟩ := j3 H
   exact W.now (Then.r (BodyR.mkR trivial rfl [0] ⟨rfl, rfl⟩ ⟨rfl, AA1, by decide, rfl, trivial⟩ rfl rfl))
 replace H := cnf hb1 H
 refine WP.skipW ?_
 refine W.now ?_
 refine Then.n ?_
 refine WP.sr ?_
 refine WPL.qq (q_mv (v := .lit (.string _)) rfl) ?_
 refine WPL.qq (q_build bu29 rfl) ?_
 refine WPL.s (s_store sz29 rfl rfl rfl rfl rfl) ?_
 refine WPL.nx ?_
 refine WP.retW ?_
 obtain ⟨rfl, rfl, rfl⟩ := j3 H
 exact W.now (BodyR.mkR trivial rfl [0] ⟨rfl, rfl⟩ ⟨rfl, AA1, by decide, rfl, trivial⟩ rfl rfl)
theorem s_sl_HasPrefix (k : Nat) (x1 : ByteArray) (x2 : ByteArray) (x3 : Bool) (H : g_sl_HasPrefix k x1 x2 = some x3) : Go.Q.Spec Tryz.prog 140 0 [.lit (.string x1), .lit (.string x2)] Mem.nil (fun o M => o = .ret (.lit (.bool x3)) ∧ M = Mem.nil) := by
 unfold g_sl_HasPrefix at H
 refine Go.Q.Spec.of_bodyR (az := []) (rs := [.tmp 4]) (nt := 18) Tryz.func140 rfl rfl (by intro t T h; simp at h) rfl rfl fun cx hnp => ?_
 refine WP.sr ?_
 refine WPL.qq (q_as (v := .lit (.bool _)) rfl) ?_
 refine WPL.nx ?_
 refine WP.seq ?_
 obtain ⟨x4, H1, H⟩ := bnd H
 refine WP.monoW (Q := fun x E M => x = .normal ∧ E = (Env.none.upd 4 (.lit (.bool x4))) ∧ M = Mem.nil) ?_ ?_
 · clear H
   have H := H1
   clear H1
   refine WP.region ?_
   refine WPL.qq (q_mv (v := .lit (.string _)) rfl) ?_
   refine WPL.qq (q_len_str Tryz.underlying9 rfl) ?_
   refine WPL.qq (q_mv (v := .lit (.string _)) rfl) ?_
   refine WPL.qq (q_len_str Tryz.underlying9 rfl) ?_
   obtain ⟨x5, h1, H⟩ := bnd H
   refine WPL.qq (q_nm (q_geq rfl rfl) (nm_bool h1)) ?_
   refine WPL.qq (q_mv (v := .lit (.bool _)) rfl) ?_
   refine WPL.split (t := 10) (b := x5) rfl (fun hb1 => ?_) (fun hb1 => ?_)
   · replace H := cnt hb1 H
     refine WPL.gq rfl (lb hb1) (q_mv (v := .lit (.string _)) rfl) ?_
     refine WPL.gq rfl (lb hb1) (q_mv (v := .lit (.string _)) rfl) ?_
     refine WPL.gq rfl (lb hb1) (q_len_str Tryz.underlying9 rfl) ?_
     obtain ⟨h2, H⟩ := grd H
     obtain ⟨x6, h3, H⟩ := bnd H
     refine WPL.gq rfl (lb hb1) (q_nm (q_slice_str (i := 0) (j := ((ByteArray.size x2 : Nat) : Int)) Tryz.underlying9 rfl rfl ⟨_, rfl⟩ h2) (nm_str h3)) ?_
     refine WPL.gq rfl (lb hb1) (q_mv (v := .lit (.string _)) rfl) ?_
     refine WPL.gq rfl (lb hb1) (q_eqls rfl rfl) ?_
     refine WPL.qq (q_pickT (v := .lit (.bool _)) (lb hb1) rfl) ?_
     refine WPL.qq (q_as (v := .lit (.bool _)) rfl) ?_
     refine WPL.nilW ?_
     have q0 := j1 H
     subst q0
     exact W.wk [] hnp r3 ⟨rfl, trivial, by decide, rfl, trivial⟩ (LeE.u (LeE.none rfl rfl)) rfl
   replace H := cnf hb1 H
   refine WPL.sg false rfl (lb hb1) ?_
   refine WPL.sg false rfl (lb hb1) ?_
   refine WPL.sg false rfl (lb hb1) ?_
   refine WPL.sg false rfl (lb hb1) ?_
   refine WPL.sg false rfl (lb hb1) ?_
   refine WPL.sg false rfl (lb hb1) ?_
   refine WPL.qq (q_pickF (v := .lit (.bool _)) (lb hb1) rfl) ?_
   refine WPL.qq (q_as (v := .lit (.bool _)) rfl) ?_
   refine WPL.nilW ?_
   have q0 := j1 H
   subst q0
   exact W.wk [] hnp r3 ⟨rfl, trivial, by decide, rfl, trivial⟩ (LeE.u (LeE.none rfl rfl)) rfl
 rintro _ _ _ ⟨rfl, rfl, rfl⟩
 refine W.now ?_
 refine Then.n ?_
 refine WP.retW ?_
 have q0 := j1 H
 subst q0
 exact W.now (BodyR.mkR trivial rfl [] ⟨rfl, rfl⟩ ⟨rfl, trivial, by decide, rfl, trivial⟩ rfl rfl)
theorem s_sl_CutPrefix (k : Nat) (x1 : ByteArray) (x2 : ByteArray) (x3 : ByteArray) (x4 : Bool) (H : g_sl_CutPrefix k x1 x2 = some (x3, x4)) : Go.Q.Spec Tryz.prog 161 0 [.lit (.string x1), .lit (.string x2)] Mem.nil (fun o M => o = .ret (.tup [.lit (.string x3), .lit (.bool x4)]) ∧ M = Mem.nil) := by
 unfold g_sl_CutPrefix at H
 refine Go.Q.Spec.of_bodyR (az := []) (rs := [.tmp 4, .tmp 5]) (nt := 15) Tryz.func161 rfl rfl (by intro t T h; simp at h) rfl rfl fun cx hnp => ?_
 refine WP.sr ?_
 refine WPL.qq (q_as (v := .lit (.string _)) rfl) ?_
 refine WPL.qq (q_as (v := .lit (.bool _)) rfl) ?_
 refine WPL.nx ?_
 refine WP.seq ?_
 refine WP.sr ?_
 refine WPL.qq (q_mv (v := .lit (.string _)) rfl) ?_
 refine WPL.qq (q_mv (v := .lit (.string _)) rfl) ?_
 obtain ⟨x5, h1, H⟩ := bnd H
 refine WPL.c (runs_call (s := []) (t := []) (N := 0) (bor := []) fn140 rfl (s_sl_HasPrefix k x1 x2 x5 h1) ⟨rfl, trivial, by decide, rfl, trivial⟩ rfl trivial (.ren rfl rfl (.ren rfl rfl .nil)) rfl trivial rfl) rfl ?_
 refine WPL.qq (q_not rfl) ?_
 refine WPL.nx ?_
 refine WP.cond (t := (!x5)) rfl (fun hb1 => ?_) (fun hb1 => ?_)
 · replace H := cnt hb1 H
   refine WP.sr ?_
   refine WPL.qq (q_mv (v := .lit (.string _)) rfl) ?_
   refine WPL.qq (q_as (v := .lit (.string _)) rfl) ?_
   refine WPL.qq (q_as (v := .lit (.bool _)) rfl) ?_
   refine WPL.nx ?_
   refine WP.retW ?_
   obtain ⟨rfl, rfl⟩ := j2 H
   exact W.now (Then.r (BodyR.mkR trivial rfl [] ⟨rfl, rfl⟩ ⟨rfl, trivial, by decide, rfl, trivial⟩ rfl rfl))
 replace H := cnf hb1 H
 refine WP.skipW ?_
 refine W.now ?_
 refine Then.n ?_
 refine WP.sr ?_
 refine WPL.qq (q_mv (v := .lit (.string _)) rfl) ?_
 refine WPL.qq (q_mv (v := .lit (.string _)) rfl) ?_
 refine WPL.qq (q_len_str Tryz.underlying9 rfl) ?_
 obtain ⟨h2, H⟩ := grd H
 obtain ⟨x6, h3, H⟩ := bnd H
 refine WPL.qq (q_nm (q_slice_str (i := ((ByteArray.size x2 : Nat) : Int)) (j := ((ByteArray.size x1 : Nat) : Int)) Tryz.underlying9 rfl ⟨_, rfl⟩ rfl h2) (nm_str h3)) ?_
 refine WPL.qq (q_as (v := .lit (.string _)) rfl) ?_
 refine WPL.qq (q_as (v := .lit (.bool _)) rfl) ?_
 refine WPL.nx ?_
 refine WP.retW ?_
 obtain ⟨rfl, rfl⟩ := j2 H
 exact W.now (BodyR.mkR trivial rfl [] ⟨rfl, rfl⟩ ⟨rfl, trivial, by decide, rfl, trivial⟩ rfl rfl)
theorem s_st_CutPrefix (k : Nat) (x1 : ByteArray) (x2 : ByteArray) (x3 : ByteArray) (x4 : Bool) (H : g_st_CutPrefix k x1 x2 = some (x3, x4)) : Go.Q.Spec Tryz.prog 137 0 [.lit (.string x1), .lit (.string x2)] Mem.nil (fun o M => o = .ret (.tup [.lit (.string x3), .lit (.bool x4)]) ∧ M = Mem.nil) := by
 unfold g_st_CutPrefix at H
 refine Go.Q.Spec.of_bodyR (az := []) (rs := [.tmp 4, .tmp 5]) (nt := 11) Tryz.func137 rfl rfl (by intro t T h; simp at h) rfl rfl fun cx hnp => ?_
 refine WP.sr ?_
 refine WPL.qq (q_as (v := .lit (.string _)) rfl) ?_
 refine WPL.qq (q_as (v := .lit (.bool _)) rfl) ?_
 refine WPL.nx ?_
 refine WP.sr ?_
 refine WPL.qq (q_mv (v := .lit (.string _)) rfl) ?_
 refine WPL.qq (q_mv (v := .lit (.string _)) rfl) ?_
 obtain ⟨⟨x5, x6⟩, h1, H⟩ := bnd H
 refine WPL.c (runs_call (s := []) (t := []) (N := 0) (bor := []) fn161 rfl (s_sl_CutPrefix k x1 x2 x5 x6 h1) ⟨rfl, trivial, by decide, rfl, trivial⟩ rfl trivial (.ren rfl rfl (.ren rfl rfl .nil)) rfl trivial rfl) rfl ?_
 refine WPL.qq (q_extract rfl rfl) ?_
 refine WPL.qq (q_extract rfl rfl) ?_
 refine WPL.qq (q_as (v := .lit (.string _)) rfl) ?_
 refine WPL.qq (q_as (v := .lit (.bool _)) rfl) ?_
 refine WPL.nx ?_
 refine WP.retW ?_
 obtain ⟨rfl, rfl⟩ := j2 H
 exact W.now (BodyR.mkR trivial rfl [] ⟨rfl, rfl⟩ ⟨rfl, trivial, by decide, rfl, trivial⟩ rfl rfl)
theorem s_dec_parser_take (k : Nat) (x1 : ByteArray) (x2 : ByteArray) (x3 : Bool) (x4 : ByteArray) (H : g_dec_parser_take k x1 x2 = some (x3, x4)) : Go.Q.Spec Tryz.prog 88 1 [.ptr 0 0, .lit (.string x1)] (Mem.nil.push (.cells 84 [.lit (.string x2)])) (fun o M => o = .ret (.lit (.bool x3)) ∧ M = (Mem.nil.push (.cells 84 [.lit (.string x4)]))) := by
 unfold g_dec_parser_take at H
 refine Go.Q.Spec.of_bodyR (az := []) (rs := [.tmp 4]) (nt := 21) Tryz.func88 rfl rfl (by intro t T h; simp at h) rfl rfl fun cx hnp => ?_
 refine WP.sr ?_
 refine WPL.qq (q_as (v := .lit (.bool _)) rfl) ?_
 refine WPL.nx ?_
 refine WP.sr ?_
 refine WPL.qq (q_mv (v := .ptr _ _) rfl) ?_
 refine WPL.qq (q_nilCheck rfl) ?_
 refine WPL.qq (q_fieldAddr fi84_0 rfl rfl) ?_
 refine WPL.qq (q_load sc9 rfl rfl rfl) ?_
 refine WPL.qq (q_mv (v := .lit (.string _)) rfl) ?_
 obtain ⟨⟨x5, x6⟩, h1, H⟩ := bnd H
 refine WPL.c (runs_call (s := []) (t := []) (N := 1) (bor := []) fn137 rfl (s_st_CutPrefix k x2 x1 x5 x6 h1) ⟨rfl, trivial, by decide, rfl, trivial⟩ rfl trivial (.ren rfl rfl (.ren rfl rfl .nil)) rfl trivial rfl) rfl ?_
 refine WPL.qq (q_mv (v := .tup _) rfl) ?_
 refine WPL.qq (q_extract rfl rfl) ?_
 refine WPL.qq (q_extract rfl rfl) ?_
 refine WPL.qq (q_as (v := .lit (.string _)) rfl) ?_
 refine WPL.qq (q_as (v := .lit (.bool _)) rfl) ?_
 refine WPL.nx ?_
 refine WP.sr ?_
 refine WPL.qq (q_mv (v := .ptr _ _) rfl) ?_
 refine WPL.qq (q_mv (v := .lit (.string _)) rfl) ?_
 refine WPL.qq (q_nilCheck rfl) ?_
 refine WPL.qq (q_fieldAddr fi84_0 rfl rfl) ?_
 refine WPL.s (s_store sz9 rfl rfl rfl rfl rfl) ?_
 refine WPL.nx ?_
 refine WP.sr ?_
 refine WPL.qq (q_mv (v := .lit (.bool _)) rfl) ?_
 refine WPL.qq (q_as (v := .lit (.bool _)) rfl) ?_
 refine WPL.nx ?_
 refine WP.retW ?_
 obtain ⟨rfl, rfl⟩ := j2 H
 exact W.now (BodyR.mkR trivial rfl [0] ⟨rfl, rfl⟩ ⟨rfl, AA1, by decide, rfl, BB1⟩ rfl rfl)
theorem s_dec_parser_some (k : Nat) (x1 : ByteArray) (x2 : ByteArray) (x3 : ByteArray) (H : g_dec_parser_some k x1 = some (x2, x3)) : Go.Q.Spec Tryz.prog 89 1 [.ptr 0 0] (Mem.nil.push (.cells 84 [.lit (.string x1)])) (fun o M => o = .ret (.lit (.string x2)) ∧ M = (Mem.nil.push (.cells 84 [.lit (.string x3)]))) := by
 unfold g_dec_parser_some at H
 refine Go.Q.Spec.of_bodyR (az := []) (rs := [.tmp 2]) (nt := 48) Tryz.func89 rfl rfl (by intro t T h; simp at h) rfl rfl fun cx hnp => ?_
 refine WP.sr ?_
 refine WPL.qq (q_as (v := .lit (.string _)) rfl) ?_
 refine WPL.nx ?_
 refine WP.sr ?_
 refine WPL.qq (q_as (v := .lit (.int _ _)) rfl) ?_
 refine WPL.nx ?_
 refine WP.seq ?_
 refine WP.block ?_
 refine WP.cv (Cv.weak (E' := ((Env.none.upd 0 (.ptr 0 0)).upd 3 (.lit (.int .i64 0)))) (M' := (Mem.nil.push (.cells 84 [.lit (.string x1)]))) [0] hnp ⟨rfl, AA1, by decide, rfl, BB1⟩ (LeE.u (LeE.u (LeE.none rfl rfl)))) ?_
 obtain ⟨x4, H1, H⟩ := bnd H
 refine WP.monoW (Q := fun x E M => x = .exit 0 ∧ E = ((Env.none.upd 0 (.ptr 0 0)).upd 3 (.lit (.int .i64 x4))) ∧ M = (Mem.nil.push (.cells 84 [.lit (.string x1)]))) ?_ ?_
 · refine WP.loop (β := Int) (fun n b => g_dec_parser_some_l0 k x1 n b = some x4) (fun b => ((Env.none.upd 0 (.ptr 0 0)).upd 3 (.lit (.int .i64 b)))) (fun b => (Mem.nil.push (.cells 84 [.lit (.string x1)]))) k 0 H1 rfl rfl ?_
   rintro n x5 H
   obtain _ | n := n
   · exact nf rfl H
   rw [g_dec_parser_some_l0.eq_2] at H
   show WP _ _ _ _ ((Env.none.upd 0 (.ptr 0 0)).upd 3 (.lit (.int .i64 x5))) (Mem.nil.push (.cells 84 [.lit (.string x1)])) _
   refine WP.seq ?_
   refine WP.seq ?_
   obtain ⟨x6, H2, H⟩ := bnd H
   refine WP.monoW (Q := fun x E M => x = .normal ∧ E = (((Env.none.upd 0 (.ptr 0 0)).upd 3 (.lit (.int .i64 x5))).upd 29 (.lit (.bool x6))) ∧ M = (Mem.nil.push (.cells 84 [.lit (.string x1)]))) ?_ ?_
   · clear H
     have H := H2
     clear H2
     refine WP.region ?_
     refine WPL.qq (q_mv (v := .lit (.int _ _)) rfl) ?_
     refine WPL.qq (q_mv (v := .ptr _ _) rfl) ?_
     refine WPL.qq (q_nilCheck rfl) ?_
     refine WPL.qq (q_fieldAddr fi84_0 rfl rfl) ?_
     refine WPL.qq (q_load sc9 rfl rfl rfl) ?_
     refine WPL.qq (q_len_str Tryz.underlying9 rfl) ?_
     obtain ⟨x7, h1, H⟩ := bnd H
     refine WPL.qq (q_nm (q_lss rfl rfl) (nm_bool h1)) ?_
     refine WPL.qq (q_mv (v := .lit (.bool _)) rfl) ?_
     refine WPL.split (t := 12) (b := x7) rfl (fun hb1 => ?_) (fun hb1 => ?_)
     · replace H := cnt hb1 H
       refine WPL.gq rfl (lb hb1) (q_mv (v := .ptr _ _) rfl) ?_
       refine WPL.gq rfl (lb hb1) (q_nilCheck rfl) ?_
       refine WPL.gq rfl (lb hb1) (q_fieldAddr fi84_0 rfl rfl) ?_
       refine WPL.gq rfl (lb hb1) (q_load sc9 rfl rfl rfl) ?_
       refine WPL.gq rfl (lb hb1) (q_mv (v := .lit (.int _ _)) rfl) ?_
       obtain ⟨x8, h2, H⟩ := bnd H
       refine WPL.gq rfl (lb hb1) (q_index_str Tryz.underlying9 rfl rfl h2) ?_
       refine WPL.gq rfl (lb hb1) (q_geq rfl rfl) ?_
       refine WPL.qq (q_pickT (v := .lit (.bool _)) (lb hb1) rfl) ?_
       refine WPL.qq (q_mv (v := .lit (.bool _)) rfl) ?_
       refine WPL.split (t := 21) (b := (decide (48 ≤ x8))) rfl (fun hb2 => ?_) (fun hb2 => ?_)
       · replace H := cnt hb2 H
         refine WPL.gq rfl (lb hb2) (q_mv (v := .ptr _ _) rfl) ?_
         refine WPL.gq rfl (lb hb2) (q_nilCheck rfl) ?_
         refine WPL.gq rfl (lb hb2) (q_fieldAddr fi84_0 rfl rfl) ?_
         refine WPL.gq rfl (lb hb2) (q_load sc9 rfl rfl rfl) ?_
         refine WPL.gq rfl (lb hb2) (q_mv (v := .lit (.int _ _)) rfl) ?_
         obtain ⟨x9, h3, H⟩ := bnd H
         refine WPL.gq rfl (lb hb2) (q_index_str Tryz.underlying9 rfl rfl h3) ?_
         refine WPL.gq rfl (lb hb2) (q_leq rfl rfl) ?_
         refine WPL.qq (q_pickT (v := .lit (.bool _)) (lb hb2) rfl) ?_
         refine WPL.nilW ?_
         have q0 := j1 H
         subst q0
         exact W.wk [0] hnp r3 ⟨rfl, AA1, by decide, rfl, BB1⟩ (LeE.u (LeE.u (LeE.u (LeE.none rfl rfl)))) rfl
       replace H := cnf hb2 H
       refine WPL.sg false rfl (lb hb2) ?_
       refine WPL.sg false rfl (lb hb2) ?_
       refine WPL.sg false rfl (lb hb2) ?_
       refine WPL.sg false rfl (lb hb2) ?_
       refine WPL.sg false rfl (lb hb2) ?_
       refine WPL.sg false rfl (lb hb2) ?_
       refine WPL.sg false rfl (lb hb2) ?_
       refine WPL.qq (q_pickF (v := .lit (.bool _)) (lb hb2) rfl) ?_
       refine WPL.nilW ?_
       have q0 := j1 H
       subst q0
       exact W.wk [0] hnp r3 ⟨rfl, AA1, by decide, rfl, BB1⟩ (LeE.u (LeE.u (LeE.u (LeE.none rfl rfl)))) rfl
     replace H := cnf hb1 H
     refine WPL.sg false rfl (lb hb1) ?_
     refine WPL.sg false rfl (lb hb1) ?_
     refine WPL.sg false rfl (lb hb1) ?_
     refine WPL.sg false rfl (lb hb1) ?_
     refine WPL.sg false rfl (lb hb1) ?_
     refine WPL.sg false rfl (lb hb1) ?_
     refine WPL.sg false rfl (lb hb1) ?_
     refine WPL.qq (q_pickF (v := .lit (.bool _)) (lb hb1) rfl) ?_
     refine WPL.qq (q_mv (v := .lit (.bool _)) rfl) ?_
     refine WPL.sg false rfl rfl ?_
     refine WPL.sg false rfl rfl ?_
     refine WPL.sg false rfl rfl ?_
     refine WPL.sg false rfl rfl ?_
     refine WPL.sg false rfl rfl ?_
     refine WPL.sg false rfl rfl ?_
     refine WPL.sg false rfl rfl ?_
     refine WPL.qq (q_pickF (v := .lit (.bool _)) rfl rfl) ?_
     refine WPL.nilW ?_
     have q0 := j1 H
     subst q0
     exact W.wk [0] hnp r3 ⟨rfl, AA1, by decide, rfl, BB1⟩ (LeE.u (LeE.u (LeE.u (LeE.none rfl rfl)))) rfl
   rintro _ _ _ ⟨rfl, rfl, rfl⟩
   refine W.now ?_
   refine Then.n ?_
   refine WP.cond (t := x6) rfl (fun hb3 => ?_) (fun hb3 => ?_)
   · replace H := cnt hb3 H
     refine WP.skipW ?_
     refine W.now ?_
     refine Then.n ?_
     refine WP.block ?_
     refine WP.region ?_
     refine WPL.qq (q_mv (v := .lit (.int _ _)) rfl) ?_
     refine WPL.qq (q_add rfl rfl) ?_
     refine WPL.qq (q_as (v := .lit (.int _ _)) rfl) ?_
     refine WPL.nilW ?_
     exact W.wk [0] hnp (InBlock.n (Then.n ⟨n, (IntKind.wrap .i64 (x5 + 1)), Nat.lt_succ_self n, H, rfl, rfl⟩)) ⟨rfl, AA1, by decide, rfl, BB1⟩ (LeE.u (LeE.u (LeE.none rfl rfl))) rfl
   replace H := cnf hb3 H
   refine WP.exitW ?_
   have q0 := j1 H
   subst q0
   exact W.wk [0] hnp (Then.x (Then.x r3)) ⟨rfl, AA1, by decide, rfl, BB1⟩ (LeE.u (LeE.u (LeE.none rfl rfl))) rfl
 rintro _ _ _ ⟨rfl, rfl, rfl⟩
 refine W.now ?_
 refine InBlock.x0 ?_
 refine Then.n ?_
 refine WP.sr ?_
 refine WPL.qq (q_mv (v := .ptr _ _) rfl) ?_
 refine WPL.qq (q_nilCheck rfl) ?_
 refine WPL.qq (q_fieldAddr fi84_0 rfl rfl) ?_
 refine WPL.qq (q_load sc9 rfl rfl rfl) ?_
 refine WPL.qq (q_mv (v := .lit (.int _ _)) rfl) ?_
 obtain ⟨h4, H⟩ := grd H
 refine WPL.qq (q_slice_str (i := 0) (j := x4) Tryz.underlying9 rfl rfl ⟨_, rfl⟩ h4) ?_
 refine WPL.qq (q_as (v := .lit (.string _)) rfl) ?_
 refine WPL.nx ?_
 refine WP.sr ?_
 refine WPL.qq (q_mv (v := .ptr _ _) rfl) ?_
 refine WPL.qq (q_mv (v := .ptr _ _) rfl) ?_
 refine WPL.qq (q_nilCheck rfl) ?_
 refine WPL.qq (q_fieldAddr fi84_0 rfl rfl) ?_
 refine WPL.qq (q_load sc9 rfl rfl rfl) ?_
 refine WPL.qq (q_mv (v := .lit (.int _ _)) rfl) ?_
 obtain ⟨h5, H⟩ := grd H
 obtain ⟨x10, h6, H⟩ := bnd H
 refine WPL.qq (q_nm (q_slice_str (i := x4) (j := ((ByteArray.size x1 : Nat) : Int)) Tryz.underlying9 rfl ⟨_, rfl⟩ rfl h5) (nm_str h6)) ?_
 refine WPL.qq (q_nilCheck rfl) ?_
 refine WPL.qq (q_fieldAddr fi84_0 rfl rfl) ?_
 refine WPL.s (s_store sz9 rfl rfl rfl rfl rfl) ?_
 refine WPL.nx ?_
 refine WP.sr ?_
 refine WPL.qq (q_mv (v := .lit (.string _)) rfl) ?_
 refine WPL.qq (q_as (v := .lit (.string _)) rfl) ?_
 refine WPL.nx ?_
 refine WP.retW ?_
 obtain ⟨rfl, rfl⟩ := j2 H
 exact W.now (BodyR.mkR trivial rfl [0] ⟨rfl, rfl⟩ ⟨rfl, AA1, by decide, rfl, BB1⟩ rfl rfl)
theorem s_dec_values (k : Nat) (x1 : ByteArray) (H : g_dec_values k x1 = some ()) : Go.Q.Spec Tryz.prog 90 0 [.lit (.string x1)] Mem.nil (fun o M => o = .ret (.fn 138 [.ptr 0 0]) ∧ M = (Mem.nil.push (.cells 9 [.lit (.string x1)]))) := by
 unfold g_dec_values at H
 refine Go.Q.Spec.of_bodyR (az := []) (rs := [.tmp 2]) (nt := 4) Tryz.func90 rfl rfl (by intro t T h; simp at h) rfl rfl fun cx hnp => ?_
 refine WP.sr ?_
 refine WPL.d (d_box rfl rfl) rfl ?_
 refine WPL.qq (q_as (v := .lit _) rfl) ?_
 refine WPL.nx ?_
 refine WP.sr ?_
 refine WPL.qq (q_makeFunc) ?_
 refine WPL.qq (q_as (v := .fn _ _) rfl) ?_
 refine WPL.nx ?_
 refine WP.retW ?_
 exact W.now (BodyR.mkR trivial rfl [0] ⟨rfl, rfl⟩ ⟨rfl, AA1, by decide, rfl, trivial⟩ rfl rfl)
theorem s_st_trimLeftByte (k : Nat) (x1 : ByteArray) (x2 : Int) (x3 : ByteArray) (H : g_st_trimLeftByte k x1 x2 = some x3) : Go.Q.Spec Tryz.prog 122 0 [.lit (.string x1), .lit (.int .u8 x2)] Mem.nil (fun o M => o = .ret (.lit (.string x3)) ∧ M = Mem.nil) := by
 unfold g_st_trimLeftByte at H
 refine Go.Q.Spec.of_bodyR (az := []) (rs := [.tmp 4]) (nt := 17) Tryz.func122 rfl rfl (by intro t T h; simp at h) rfl rfl fun cx hnp => ?_
 refine WP.sr ?_
 refine WPL.qq (q_as (v := .lit (.string _)) rfl) ?_
 refine WPL.nx ?_
 refine WP.seq ?_
 refine WP.block ?_
 refine WP.cv (Cv.weak (E' := ((Env.none.upd 0 (.lit (.string x1))).upd 1 (.lit (.int .u8 x2)))) (M' := Mem.nil) [] hnp ⟨rfl, trivial, by decide, rfl, trivial⟩ (LeE.u (LeE.u (LeE.none rfl rfl)))) ?_
 obtain ⟨x4, H1, H⟩ := bnd H
 refine WP.monoW (Q := fun x E M => x = .exit 0 ∧ E = (Env.none.upd 0 (.lit (.string x4))) ∧ M = Mem.nil) ?_ ?_
 · refine WP.loop (β := ByteArray) (fun n b => g_st_trimLeftByte_l0 k x2 n b = some x4) (fun b => ((Env.none.upd 0 (.lit (.string b))).upd 1 (.lit (.int .u8 x2)))) (fun b => Mem.nil) k x1 H1 rfl rfl ?_
   rintro n x5 H
   obtain _ | n := n
   · exact nf rfl H
   rw [g_st_trimLeftByte_l0.eq_2] at H
   show WP _ _ _ _ ((Env.none.upd 0 (.lit (.string x5))).upd 1 (.lit (.int .u8 x2))) Mem.nil _
   refine WP.seq ?_
   refine WP.seq ?_
   obtain ⟨x6, H2, H⟩ := bnd H
   refine WP.monoW (Q := fun x E M => x = .normal ∧ E = (((Env.none.upd 0 (.lit (.string x5))).upd 1 (.lit (.int .u8 x2))).upd 13 (.lit (.bool x6))) ∧ M = Mem.nil) ?_ ?_
   · clear H
     have H := H2
     clear H2
     refine WP.region ?_
     refine WPL.qq (q_mv (v := .lit (.string _)) rfl) ?_
     refine WPL.qq (q_len_str Tryz.underlying9 rfl) ?_
     obtain ⟨x7, h1, H⟩ := bnd H
     refine WPL.qq (q_nm (q_gtr rfl rfl) (nm_bool h1)) ?_
     refine WPL.qq (q_mv (v := .lit (.bool _)) rfl) ?_
     refine WPL.split (t := 8) (b := x7) rfl (fun hb1 => ?_) (fun hb1 => ?_)
     · replace H := cnt hb1 H
       refine WPL.gq rfl (lb hb1) (q_mv (v := .lit (.string _)) rfl) ?_
       obtain ⟨x8, h2, H⟩ := bnd H
       refine WPL.gq rfl (lb hb1) (q_index_str Tryz.underlying9 rfl rfl h2) ?_
       refine WPL.gq rfl (lb hb1) (q_mv (v := .lit (.int _ _)) rfl) ?_
       refine WPL.gq rfl (lb hb1) (q_eql rfl rfl) ?_
       refine WPL.qq (q_pickT (v := .lit (.bool _)) (lb hb1) rfl) ?_
       refine WPL.nilW ?_
       have q0 := j1 H
       subst q0
       exact W.wk [] hnp r3 ⟨rfl, trivial, by decide, rfl, trivial⟩ (LeE.u (LeE.u (LeE.u (LeE.none rfl rfl)))) rfl
     replace H := cnf hb1 H
     refine WPL.sg false rfl (lb hb1) ?_
     refine WPL.sg false rfl (lb hb1) ?_
     refine WPL.sg false rfl (lb hb1) ?_
     refine WPL.sg false rfl (lb hb1) ?_
     refine WPL.qq (q_pickF (v := .lit (.bool _)) (lb hb1) rfl) ?_
     refine WPL.nilW ?_
     have q0 := j1 H
     subst q0
     exact W.wk [] hnp r3 ⟨rfl, trivial, by decide, rfl, trivial⟩ (LeE.u (LeE.u (LeE.u (LeE.none rfl rfl)))) rfl
   rintro _ _ _ ⟨rfl, rfl, rfl⟩
   refine W.now ?_
   refine Then.n ?_
   refine WP.cond (t := x6) rfl (fun hb2 => ?_) (fun hb2 => ?_)
   · replace H := cnt hb2 H
     refine WP.skipW ?_
     refine W.now ?_
     refine Then.n ?_
     refine WP.block ?_
     refine WP.region ?_
     refine WPL.qq (q_mv (v := .lit (.string _)) rfl) ?_
     obtain ⟨h3, H⟩ := grd H
     obtain ⟨x9, h4, H⟩ := bnd H
     refine WPL.qq (q_nm (q_slice_str (i := 1) (j := ((ByteArray.size x5 : Nat) : Int)) Tryz.underlying9 rfl ⟨_, rfl⟩ rfl h3) (nm_str h4)) ?_
     refine WPL.qq (q_as (v := .lit (.string _)) rfl) ?_
     refine WPL.nilW ?_
     exact W.wk [] hnp (InBlock.n (Then.n ⟨n, x9, Nat.lt_succ_self n, H, rfl, rfl⟩)) ⟨rfl, trivial, by decide, rfl, trivial⟩ (LeE.u (LeE.u (LeE.none rfl rfl))) rfl
   replace H := cnf hb2 H
   refine WP.exitW ?_
   have q0 := j1 H
   subst q0
   exact W.wk [] hnp (Then.x (Then.x r3)) ⟨rfl, trivial, by decide, rfl, trivial⟩ (LeE.u (LeE.none rfl rfl)) rfl
 rintro _ _ _ ⟨rfl, rfl, rfl⟩
 refine W.now ?_
 refine InBlock.x0 ?_
 refine Then.n ?_
 refine WP.sr ?_
 refine WPL.qq (q_mv (v := .lit (.string _)) rfl) ?_
 refine WPL.qq (q_as (v := .lit (.string _)) rfl) ?_
 refine WPL.nx ?_
 refine WP.retW ?_
 have q0 := j1 H
 subst q0
 exact W.now (BodyR.mkR trivial rfl [] ⟨rfl, rfl⟩ ⟨rfl, trivial, by decide, rfl, trivial⟩ rfl rfl)
theorem s_st_TrimLeft (k : Nat) (x1 : ByteArray) (x2 : ByteArray) (x3 : ByteArray) (H : g_st_TrimLeft k x1 x2 = some x3) : Go.Q.Spec Tryz.prog 91 0 [.lit (.string x1), .lit (.string x2)] Mem.nil (fun o M => o = .ret (.lit (.string x3)) ∧ M = Mem.nil) := by
 unfold g_st_TrimLeft at H
 refine Go.Q.Spec.of_bodyR (az := []) (rs := [.tmp 4]) (nt := 37) Tryz.func91 rfl rfl (by intro t T h; simp at h) rfl rfl fun cx hnp => ?_
 refine WP.sr ?_
 refine WPL.qq (q_as (v := .lit (.string _)) rfl) ?_
 refine WPL.nx ?_
 refine WP.seq ?_
 refine WP.seq ?_
 obtain ⟨x4, H1, H⟩ := bnd H
 refine WP.monoW (Q := fun x E M => x = .normal ∧ E = (((Env.none.upd 0 (.lit (.string x1))).upd 1 (.lit (.string x2))).upd 12 (.lit (.bool x4))) ∧ M = Mem.nil) ?_ ?_
 · clear H
   have H := H1
   clear H1
   refine WP.region ?_
   refine WPL.qq (q_mv (v := .lit (.string _)) rfl) ?_
   obtain ⟨x5, h1, H⟩ := bnd H
   refine WPL.qq (q_nm (q_eqls rfl rfl) (nm_bool h1)) ?_
   refine WPL.qq (q_mv (v := .lit (.bool _)) rfl) ?_
   refine WPL.split (t := 9) (b := x5) rfl (fun hb1 => ?_) (fun hb1 => ?_)
   · replace H := cnt hb1 H
     refine WPL.sg true rfl (lb hb1) ?_
     refine WPL.sg true rfl (lb hb1) ?_
     refine WPL.qq (q_pickT (v := .lit (.bool _)) (lb hb1) rfl) ?_
     refine WPL.nilW ?_
     have q0 := j1 H
     subst q0
     exact W.wk [] hnp r3 ⟨rfl, trivial, by decide, rfl, trivial⟩ (LeE.u (LeE.u (LeE.u (LeE.none rfl rfl)))) rfl
   replace H := cnf hb1 H
   refine WPL.gq rfl (lb hb1) (q_mv (v := .lit (.string _)) rfl) ?_
   obtain ⟨x6, h2, H⟩ := bnd H
   refine WPL.gq rfl (lb hb1) (q_nm (q_eqls rfl rfl) (nm_bool h2)) ?_
   refine WPL.qq (q_pickF (v := .lit (.bool _)) (lb hb1) rfl) ?_
   refine WPL.nilW ?_
   have q0 := j1 H
   subst q0
   exact W.wk [] hnp r3 ⟨rfl, trivial, by decide, rfl, trivial⟩ (LeE.u (LeE.u (LeE.u (LeE.none rfl rfl)))) rfl
 rintro _ _ _ ⟨rfl, rfl, rfl⟩
 refine W.now ?_
 refine Then.n ?_
 refine WP.cond (t := x4) rfl (fun hb2 => ?_) (fun hb2 => ?_)
 · replace H := cnt hb2 H
   refine WP.sr ?_
   refine WPL.qq (q_mv (v := .lit (.string _)) rfl) ?_
   refine WPL.qq (q_as (v := .lit (.string _)) rfl) ?_
   refine WPL.nx ?_
   refine WP.retW ?_
   have q0 := j1 H
   subst q0
   exact W.now (Then.r (BodyR.mkR trivial rfl [] ⟨rfl, rfl⟩ ⟨rfl, trivial, by decide, rfl, trivial⟩ rfl rfl))
 replace H := cnf hb2 H
 refine WP.skipW ?_
 refine W.now ?_
 refine Then.n ?_
 refine WP.seq ?_
 refine WP.seq ?_
 obtain ⟨x7, H2, H⟩ := bnd H
 refine WP.monoW (Q := fun x E M => x = .normal ∧ E = (((Env.none.upd 0 (.lit (.string x1))).upd 1 (.lit (.string x2))).upd 21 (.lit (.bool x7))) ∧ M = Mem.nil) ?_ ?_
 · clear H
   have H := H2
   clear H2
   refine WP.region ?_
   refine WPL.qq (q_mv (v := .lit (.string _)) rfl) ?_
   refine WPL.qq (q_len_str Tryz.underlying9 rfl) ?_
   obtain ⟨x8, h3, H⟩ := bnd H
   refine WPL.qq (q_nm (q_eql rfl rfl) (nm_bool h3)) ?_
   refine WPL.qq (q_mv (v := .lit (.bool _)) rfl) ?_
   refine WPL.split (t := 17) (b := x8) rfl (fun hb3 => ?_) (fun hb3 => ?_)
   · replace H := cnt hb3 H
     refine WPL.gq rfl (lb hb3) (q_mv (v := .lit (.string _)) rfl) ?_
     obtain ⟨x9, h4, H⟩ := bnd H
     refine WPL.gq rfl (lb hb3) (q_index_str Tryz.underlying9 rfl rfl h4) ?_
     refine WPL.gq rfl (lb hb3) (q_lss rfl rfl) ?_
     refine WPL.qq (q_pickT (v := .lit (.bool _)) (lb hb3) rfl) ?_
     refine WPL.nilW ?_
     have q0 := j1 H
     subst q0
     exact W.wk [] hnp r3 ⟨rfl, trivial, by decide, rfl, trivial⟩ (LeE.u (LeE.u (LeE.u (LeE.none rfl rfl)))) rfl
   replace H := cnf hb3 H
   refine WPL.sg false rfl (lb hb3) ?_
   refine WPL.sg false rfl (lb hb3) ?_
   refine WPL.sg false rfl (lb hb3) ?_
   refine WPL.qq (q_pickF (v := .lit (.bool _)) (lb hb3) rfl) ?_
   refine WPL.nilW ?_
   have q0 := j1 H
   subst q0
   exact W.wk [] hnp r3 ⟨rfl, trivial, by decide, rfl, trivial⟩ (LeE.u (LeE.u (LeE.u (LeE.none rfl rfl)))) rfl
 rintro _ _ _ ⟨rfl, rfl, rfl⟩
 refine W.now ?_
 refine Then.n ?_
 refine WP.cond (t := x7) rfl (fun hb4 => ?_) (fun hb4 => ?_)
 · replace H := cnt hb4 H
   refine WP.sr ?_
   refine WPL.qq (q_mv (v := .lit (.string _)) rfl) ?_
   refine WPL.qq (q_mv (v := .lit (.string _)) rfl) ?_
   obtain ⟨x10, h5, H⟩ := bnd H
   refine WPL.qq (q_index_str Tryz.underlying9 rfl rfl h5) ?_
   obtain ⟨x11, h5, H⟩ := bnd H
   refine WPL.c (runs_call (s := []) (t := []) (N := 0) (bor := []) fn122 rfl (s_st_trimLeftByte k x1 x10 x11 h5) ⟨rfl, trivial, by decide, rfl, trivial⟩ rfl trivial (.ren rfl rfl (.ren rfl rfl .nil)) rfl trivial rfl) rfl ?_
   refine WPL.qq (q_as (v := .lit (.string _)) rfl) ?_
   refine WPL.nx ?_
   refine WP.retW ?_
   have q0 := j1 H
   subst q0
   exact W.now (Then.r (BodyR.mkR trivial rfl [] ⟨rfl, rfl⟩ ⟨rfl, trivial, by decide, rfl, trivial⟩ rfl rfl))
 replace H := cnf hb4 H
 refine WP.skipW ?_
 refine W.now ?_
 refine Then.n ?_
 refine WP.seq ?_
 refine WP.sr ?_
 refine WPL.qq (q_mv (v := .lit (.string _)) rfl) ?_
 exact nf rfl H
theorem s_st_trimRightByte (k : Nat) (x1 : ByteArray) (x2 : Int) (x3 : ByteArray) (H : g_st_trimRightByte k x1 x2 = some x3) : Go.Q.Spec Tryz.prog 123 0 [.lit (.string x1), .lit (.int .u8 x2)] Mem.nil (fun o M => o = .ret (.lit (.string x3)) ∧ M = Mem.nil) := by
 unfold g_st_trimRightByte at H
 refine Go.Q.Spec.of_bodyR (az := []) (rs := [.tmp 4]) (nt := 23) Tryz.func123 rfl rfl (by intro t T h; simp at h) rfl rfl fun cx hnp => ?_
 refine WP.sr ?_
 refine WPL.qq (q_as (v := .lit (.string _)) rfl) ?_
 refine WPL.nx ?_
 refine WP.seq ?_
 refine WP.block ?_
 refine WP.cv (Cv.weak (E' := ((Env.none.upd 0 (.lit (.string x1))).upd 1 (.lit (.int .u8 x2)))) (M' := Mem.nil) [] hnp ⟨rfl, trivial, by decide, rfl, trivial⟩ (LeE.u (LeE.u (LeE.none rfl rfl)))) ?_
 obtain ⟨x4, H1, H⟩ := bnd H
 refine WP.monoW (Q := fun x E M => x = .exit 0 ∧ E = (Env.none.upd 0 (.lit (.string x4))) ∧ M = Mem.nil) ?_ ?_
 · refine WP.loop (β := ByteArray) (fun n b => g_st_trimRightByte_l0 k x2 n b = some x4) (fun b => ((Env.none.upd 0 (.lit (.string b))).upd 1 (.lit (.int .u8 x2)))) (fun b => Mem.nil) k x1 H1 rfl rfl ?_
   rintro n x5 H
   obtain _ | n := n
   · exact nf rfl H
   rw [g_st_trimRightByte_l0.eq_2] at H
   show WP _ _ _ _ ((Env.none.upd 0 (.lit (.string x5))).upd 1 (.lit (.int .u8 x2))) Mem.nil _
   refine WP.seq ?_
   refine WP.seq ?_
   obtain ⟨x6, H2, H⟩ := bnd H
   refine WP.monoW (Q := fun x E M => x = .normal ∧ E = (((Env.none.upd 0 (.lit (.string x5))).upd 1 (.lit (.int .u8 x2))).upd 16 (.lit (.bool x6))) ∧ M = Mem.nil) ?_ ?_
   · clear H
     have H := H2
     clear H2
     refine WP.region ?_
     refine WPL.qq (q_mv (v := .lit (.string _)) rfl) ?_
     refine WPL.qq (q_len_str Tryz.underlying9 rfl) ?_
     obtain ⟨x7, h1, H⟩ := bnd H
     refine WPL.qq (q_nm (q_gtr rfl rfl) (nm_bool h1)) ?_
     refine WPL.qq (q_mv (v := .lit (.bool _)) rfl) ?_
     refine WPL.split (t := 8) (b := x7) rfl (fun hb1 => ?_) (fun hb1 => ?_)
     · replace H := cnt hb1 H
       refine WPL.gq rfl (lb hb1) (q_mv (v := .lit (.string _)) rfl) ?_
       refine WPL.gq rfl (lb hb1) (q_mv (v := .lit (.string _)) rfl) ?_
       refine WPL.gq rfl (lb hb1) (q_len_str Tryz.underlying9 rfl) ?_
       obtain ⟨x8, h2, H⟩ := bnd H
       refine WPL.gq rfl (lb hb1) (q_nm (q_sub rfl rfl) (nm_int h2)) ?_
       obtain ⟨x9, h3, H⟩ := bnd H
       refine WPL.gq rfl (lb hb1) (q_index_str Tryz.underlying9 rfl rfl h3) ?_
       refine WPL.gq rfl (lb hb1) (q_mv (v := .lit (.int _ _)) rfl) ?_
       refine WPL.gq rfl (lb hb1) (q_eql rfl rfl) ?_
       refine WPL.qq (q_pickT (v := .lit (.bool _)) (lb hb1) rfl) ?_
       refine WPL.nilW ?_
       have q0 := j1 H
       subst q0
       exact W.wk [] hnp r3 ⟨rfl, trivial, by decide, rfl, trivial⟩ (LeE.u (LeE.u (LeE.u (LeE.none rfl rfl)))) rfl
     replace H := cnf hb1 H
     refine WPL.sg false rfl (lb hb1) ?_
     refine WPL.sg false rfl (lb hb1) ?_
     refine WPL.sg false rfl (lb hb1) ?_
     refine WPL.sg false rfl (lb hb1) ?_
     refine WPL.sg false rfl (lb hb1) ?_
     refine WPL.sg false rfl (lb hb1) ?_
     refine WPL.sg false rfl (lb hb1) ?_
     refine WPL.qq (q_pickF (v := .lit (.bool _)) (lb hb1) rfl) ?_
     refine WPL.nilW ?_
     have q0 := j1 H
     subst q0
     exact W.wk [] hnp r3 ⟨rfl, trivial, by decide, rfl, trivial⟩ (LeE.u (LeE.u (LeE.u (LeE.none rfl rfl)))) rfl
   rintro _ _ _ ⟨rfl, rfl, rfl⟩
   refine W.now ?_
   refine Then.n ?_
   refine WP.cond (t := x6) rfl (fun hb2 => ?_) (fun hb2 => ?_)
   · replace H := cnt hb2 H
     refine WP.skipW ?_
     refine W.now ?_
     refine Then.n ?_
     refine WP.block ?_
     refine WP.region ?_
     refine WPL.qq (q_mv (v := .lit (.string _)) rfl) ?_
     refine WPL.qq (q_mv (v := .lit (.string _)) rfl) ?_
     refine WPL.qq (q_len_str Tryz.underlying9 rfl) ?_
     obtain ⟨x10, h4, H⟩ := bnd H
     refine WPL.qq (q_nm (q_sub rfl rfl) (nm_int h4)) ?_
     obtain ⟨h4, H⟩ := grd H
     refine WPL.qq (q_slice_str (i := 0) (j := x10) Tryz.underlying9 rfl rfl ⟨_, rfl⟩ h4) ?_
     refine WPL.qq (q_as (v := .lit (.string _)) rfl) ?_
     refine WPL.nilW ?_
     exact W.wk [] hnp (InBlock.n (Then.n ⟨n, (ByteArray.extract x5 (Int.toNat 0) (Int.toNat x10)), Nat.lt_succ_self n, H, rfl, rfl⟩)) ⟨rfl, trivial, by decide, rfl, trivial⟩ (LeE.u (LeE.u (LeE.none rfl rfl))) rfl
   replace H := cnf hb2 H
   refine WP.exitW ?_
   have q0 := j1 H
   subst q0
   exact W.wk [] hnp (Then.x (Then.x r3)) ⟨rfl, trivial, by decide, rfl, trivial⟩ (LeE.u (LeE.none rfl rfl)) rfl
 rintro _ _ _ ⟨rfl, rfl, rfl⟩
 refine W.now ?_
 refine InBlock.x0 ?_
 refine Then.n ?_
 refine WP.sr ?_
 refine WPL.qq (q_mv (v := .lit (.string _)) rfl) ?_
 refine WPL.qq (q_as (v := .lit (.string _)) rfl) ?_
 refine WPL.nx ?_
 refine WP.retW ?_
 have q0 := j1 H
 subst q0
 exact W.now (BodyR.mkR trivial rfl [] ⟨rfl, rfl⟩ ⟨rfl, trivial, by decide, rfl, trivial⟩ rfl rfl)
theorem s_st_TrimRight (k : Nat) (x1 : ByteArray) (x2 : ByteArray) (x3 : ByteArray) (H : g_st_TrimRight k x1 x2 = some x3) : Go.Q.Spec Tryz.prog 92 0 [.lit (.string x1), .lit (.string x2)] Mem.nil (fun o M => o = .ret (.lit (.string x3)) ∧ M = Mem.nil) := by
 unfold g_st_TrimRight at H
 refine Go.Q.Spec.of_bodyR (az := []) (rs := [.tmp 4]) (nt := 37) Tryz.func92 rfl rfl (by intro t T h; simp at h) rfl rfl fun cx hnp => ?_
 refine WP.sr ?_
 refine WPL.qq (q_as (v := .lit (.string _)) rfl) ?_
 refine WPL.nx ?_
 refine WP.seq ?_
 refine WP.seq ?_
 obtain ⟨x4, H1, H⟩ := bnd H
 refine WP.monoW (Q := fun x E M => x = .normal ∧ E = (((Env.none.upd 0 (.lit (.string x1))).upd 1 (.lit (.string x2))).upd 12 (.lit (.bool x4))) ∧ M = Mem.nil) ?_ ?_
 · clear H
   have H := H1
   clear H1
   refine WP.region ?_
   refine WPL.qq (q_mv (v := .lit (.string _)) rfl) ?_
   obtain ⟨x5, h1, H⟩ := bnd H
   refine WPL.qq (q_nm (q_eqls rfl rfl) (nm_bool h1)) ?_
   refine WPL.qq (q_mv (v := .lit (.bool _)) rfl) ?_
   refine WPL.split (t := 9) (b := x5) rfl (fun hb1 => ?_) (fun hb1 => ?_)
   · replace H := cnt hb1 H
     refine WPL.sg true rfl (lb hb1) ?_
     refine WPL.sg true rfl (lb hb1) ?_
     refine WPL.qq (q_pickT (v := .lit (.bool _)) (lb hb1) rfl) ?_
     refine WPL.nilW ?_
     have q0 := j1 H
     subst q0
     exact W.wk [] hnp r3 ⟨rfl, trivial, by decide, rfl, trivial⟩ (LeE.u (LeE.u (LeE.u (LeE.none rfl rfl)))) rfl
   replace H := cnf hb1 H
   refine WPL.gq rfl (lb hb1) (q_mv (v := .lit (.string _)) rfl) ?_
   obtain ⟨x6, h2, H⟩ := bnd H
   refine WPL.gq rfl (lb hb1) (q_nm (q_eqls rfl rfl) (nm_bool h2)) ?_
   refine WPL.qq (q_pickF (v := .lit (.bool _)) (lb hb1) rfl) ?_
   refine WPL.nilW ?_
   have q0 := j1 H
   subst q0
   exact W.wk [] hnp r3 ⟨rfl, trivial, by decide, rfl, trivial⟩ (LeE.u (LeE.u (LeE.u (LeE.none rfl rfl)))) rfl
 rintro _ _ _ ⟨rfl, rfl, rfl⟩
 refine W.now ?_
 refine Then.n ?_
 refine WP.cond (t := x4) rfl (fun hb2 => ?_) (fun hb2 => ?_)
 · replace H := cnt hb2 H
   refine WP.sr ?_
   refine WPL.qq (q_mv (v := .lit (.string _)) rfl) ?_
   refine WPL.qq (q_as (v := .lit (.string _)) rfl) ?_
   refine WPL.nx ?_
   refine WP.retW ?_
   have q0 := j1 H
   subst q0
   exact W.now (Then.r (BodyR.mkR trivial rfl [] ⟨rfl, rfl⟩ ⟨rfl, trivial, by decide, rfl, trivial⟩ rfl rfl))
 replace H := cnf hb2 H
 refine WP.skipW ?_
 refine W.now ?_
 refine Then.n ?_
 refine WP.seq ?_
 refine WP.seq ?_
 obtain ⟨x7, H2, H⟩ := bnd H
 refine WP.monoW (Q := fun x E M => x = .normal ∧ E = (((Env.none.upd 0 (.lit (.string x1))).upd 1 (.lit (.string x2))).upd 21 (.lit (.bool x7))) ∧ M = Mem.nil) ?_ ?_
 · clear H
   have H := H2
   clear H2
   refine WP.region ?_
   refine WPL.qq (q_mv (v := .lit (.string _)) rfl) ?_
   refine WPL.qq (q_len_str Tryz.underlying9 rfl) ?_
   obtain ⟨x8, h3, H⟩ := bnd H
   refine WPL.qq (q_nm (q_eql rfl rfl) (nm_bool h3)) ?_
   refine WPL.qq (q_mv (v := .lit (.bool _)) rfl) ?_
   refine WPL.split (t := 17) (b := x8) rfl (fun hb3 => ?_) (fun hb3 => ?_)
   · replace H := cnt hb3 H
     refine WPL.gq rfl (lb hb3) (q_mv (v := .lit (.string _)) rfl) ?_
     obtain ⟨x9, h4, H⟩ := bnd H
     refine WPL.gq rfl (lb hb3) (q_index_str Tryz.underlying9 rfl rfl h4) ?_
     refine WPL.gq rfl (lb hb3) (q_lss rfl rfl) ?_
     refine WPL.qq (q_pickT (v := .lit (.bool _)) (lb hb3) rfl) ?_
     refine WPL.nilW ?_
     have q0 := j1 H
     subst q0
     exact W.wk [] hnp r3 ⟨rfl, trivial, by decide, rfl, trivial⟩ (LeE.u (LeE.u (LeE.u (LeE.none rfl rfl)))) rfl
   replace H := cnf hb3 H
   refine WPL.sg false rfl (lb hb3) ?_
   refine WPL.sg false rfl (lb hb3) ?_
   refine WPL.sg false rfl (lb hb3) ?_
   refine WPL.qq (q_pickF (v := .lit (.bool _)) (lb hb3) rfl) ?_
   refine WPL.nilW ?_
   have q0 := j1 H
   subst q0
   exact W.wk [] hnp r3 ⟨rfl, trivial, by decide, rfl, trivial⟩ (LeE.u (LeE.u (LeE.u (LeE.none rfl rfl)))) rfl
 rintro _ _ _ ⟨rfl, rfl, rfl⟩
 refine W.now ?_
 refine Then.n ?_
 refine WP.cond (t := x7) rfl (fun hb4 => ?_) (fun hb4 => ?_)
 · replace H := cnt hb4 H
   refine WP.sr ?_
   refine WPL.qq (q_mv (v := .lit (.string _)) rfl) ?_
   refine WPL.qq (q_mv (v := .lit (.string _)) rfl) ?_
   obtain ⟨x10, h5, H⟩ := bnd H
   refine WPL.qq (q_index_str Tryz.underlying9 rfl rfl h5) ?_
   obtain ⟨x11, h5, H⟩ := bnd H
   refine WPL.c (runs_call (s := []) (t := []) (N := 0) (bor := []) fn123 rfl (s_st_trimRightByte k x1 x10 x11 h5) ⟨rfl, trivial, by decide, rfl, trivial⟩ rfl trivial (.ren rfl rfl (.ren rfl rfl .nil)) rfl trivial rfl) rfl ?_
   refine WPL.qq (q_as (v := .lit (.string _)) rfl) ?_
   refine WPL.nx ?_
   refine WP.retW ?_
   have q0 := j1 H
   subst q0
   exact W.now (Then.r (BodyR.mkR trivial rfl [] ⟨rfl, rfl⟩ ⟨rfl, trivial, by decide, rfl, trivial⟩ rfl rfl))
 replace H := cnf hb4 H
 refine WP.skipW ?_
 refine W.now ?_
 refine Then.n ?_
 refine WP.seq ?_
 refine WP.sr ?_
 refine WPL.qq (q_mv (v := .lit (.string _)) rfl) ?_
 exact nf rfl H
theorem s_dec_wide_plus (k : Nat) (x1 : Int) (x2 : Int) (x3 : Int) (x4 : Int) (x5 : Bool) (H : g_dec_wide_plus k x1 x2 x3 x4 = some x5) : Go.Q.Spec Tryz.prog 94 0 [.agg [.lit (.int .u64 x1), .lit (.int .u64 x2)], .agg [.lit (.int .u64 x3), .lit (.int .u64 x4)]] Mem.nil (fun o M => o = .ret (.tup [.agg [.lit (.int .u64 ((add64 x1 x3 ((add64 x2 x4 0).2)).1)), .lit (.int .u64 ((add64 x2 x4 0).1))], .lit (.bool x5)]) ∧ M = (Mem.nil.push (.cells 69 [.lit (.int .u64 ((add64 x1 x3 ((add64 x2 x4 0).2)).1)), .lit (.int .u64 ((add64 x2 x4 0).1))]))) := by
 unfold g_dec_wide_plus at H
 refine Go.Q.Spec.of_bodyR (az := [(69, 2)]) (rs := [.cell 4 69, .tmp 5]) (nt := 31) Tryz.func94 rfl rfl (by intro t T h; simp at h; rcases h with ⟨rfl, rfl⟩ <;> first | exact ag69) rfl rfl fun cx hnp => ?_
 refine WP.sr ?_
 refine WPL.d (d_box rfl rfl) rfl ?_
 refine WPL.d (d_box rfl rfl) rfl ?_
 refine WPL.d (d_alloc ze69 rfl) rfl ?_
 refine WPL.qq (q_as (v := .lit (.bool _)) rfl) ?_
 refine WPL.nx ?_
 refine WP.sr ?_
 refine WPL.qq (q_fieldAddr fi69_1 rfl rfl) ?_
 refine WPL.qq (q_load sc67 rfl rfl rfl) ?_
 refine WPL.qq (q_fieldAddr fi69_1 rfl rfl) ?_
 refine WPL.qq (q_load sc67 rfl rfl rfl) ?_
 refine WPL.qq (q_add64 ex139 rfl rfl rfl rfl rfl) ?_
 refine WPL.qq (q_mv (v := .tup _) rfl) ?_
 refine WPL.qq (q_extract rfl rfl) ?_
 refine WPL.qq (q_extract rfl rfl) ?_
 refine WPL.qq (q_as (v := .lit (.int _ _)) rfl) ?_
 refine WPL.qq (q_as (v := .lit (.int _ _)) rfl) ?_
 refine WPL.nx ?_
 refine WP.sr ?_
 refine WPL.qq (q_fieldAddr fi69_0 rfl rfl) ?_
 refine WPL.qq (q_load sc67 rfl rfl rfl) ?_
 refine WPL.qq (q_fieldAddr fi69_0 rfl rfl) ?_
 refine WPL.qq (q_load sc67 rfl rfl rfl) ?_
 refine WPL.qq (q_mv (v := .lit (.int _ _)) rfl) ?_
 obtain ⟨h1, H⟩ := grd H
 refine WPL.qq (q_add64 ex139 rfl rfl rfl rfl h1) ?_
 refine WPL.qq (q_mv (v := .tup _) rfl) ?_
 refine WPL.qq (q_extract rfl rfl) ?_
 refine WPL.qq (q_extract rfl rfl) ?_
 refine WPL.qq (q_as (v := .lit (.int _ _)) rfl) ?_
 refine WPL.qq (q_as (v := .lit (.int _ _)) rfl) ?_
 refine WPL.nx ?_
 refine WP.sr ?_
 refine WPL.qq (q_mv (v := .lit (.int _ _)) rfl) ?_
 refine WPL.qq (q_mv (v := .lit (.int _ _)) rfl) ?_
 refine WPL.qq (q_build bu69 rfl) ?_
 refine WPL.qq (q_mv (v := .lit (.int _ _)) rfl) ?_
 obtain ⟨x6, h2, H⟩ := bnd H
 refine WPL.qq (q_nm (q_eql rfl rfl) (nm_bool h2)) ?_
 refine WPL.s (s_store sz69 rfl rfl rfl rfl rfl) ?_
 refine WPL.qq (q_as (v := .lit (.bool _)) rfl) ?_
 refine WPL.nx ?_
 refine WP.retW ?_
 have q0 := j1 H
 subst q0
 exact W.now (BodyR.mkR trivial rfl [2] ⟨rfl, rfl⟩ ⟨rfl, AA1, by decide, rfl, trivial⟩ rfl rfl)
theorem s_dec_Parse (k : Nat) (x1 : ByteArray) (x2 : Int) (x3 : Int) (x4 : Int) (H : g_dec_Parse k x1 = some (x2, x3, x4)) : Go.Q.Spec Tryz.prog 49 0 [.lit (.string x1)] Mem.nil (fun o M => o = .ret (.tup [.agg [.lit (.int .i64 x3), .lit (.int .i64 x4)], .lit (.int .i64 x2)]) ∧ M = (Mem.nil.push (.cells 23 [.lit (.int .i64 x3), .lit (.int .i64 x4)]))) := by
 unfold g_dec_Parse at H
 refine Go.Q.Spec.of_bodyR (az := [(23, 2)]) (rs := [.cell 2 23, .tmp 3]) (nt := 131) Tryz.func49 rfl rfl (by intro t T h; simp at h; rcases h with ⟨rfl, rfl⟩ <;> first | exact ag23) rfl rfl fun cx hnp => ?_
 refine WP.sr ?_
 refine WPL.d (d_alloc ze23 rfl) rfl ?_
 refine WPL.qq (q_as (v := .lit (.int _ _)) rfl) ?_
 refine WPL.nx ?_
 refine WP.sr ?_
 refine WPL.qq (q_mv (v := .lit (.string _)) rfl) ?_
 refine WPL.qq (q_build bu84 rfl) ?_
 refine WPL.d (d_box rfl rfl) rfl ?_
 refine WPL.qq (q_as (v := .ptr _ _) rfl) ?_
 refine WPL.nx ?_
 refine WP.sr ?_
 refine WPL.qq (q_mv (v := .ptr _ _) rfl) ?_
 obtain ⟨⟨x5, x6⟩, h1, H⟩ := bnd H
 refine WPL.c (runs_call (s := [1]) (t := [1]) (N := 2) (bor := []) fn88 rfl (s_dec_parser_take k (ByteArray.mk #[45]) x1 x5 x6 h1) ⟨rfl, AA1, by decide, rfl, trivial⟩ rfl trivial (.ren rfl rfl (.ren rfl rfl .nil)) rfl BB1 rfl) rfl ?_
 refine WPL.qq (q_as (v := .lit (.bool _)) rfl) ?_
 refine WPL.nx ?_
 refine WP.sr ?_
 refine WPL.qq (q_mv (v := .ptr _ _) rfl) ?_
 obtain ⟨⟨x7, x8⟩, h2, H⟩ := bnd H
 refine WPL.c (runs_call (s := [1]) (t := [1]) (N := 2) (bor := []) fn89 rfl (s_dec_parser_some k x6 x7 x8 h2) ⟨rfl, AA1, by decide, rfl, trivial⟩ rfl trivial (.ren rfl rfl .nil) rfl BB1 rfl) rfl ?_
 refine WPL.qq (q_as (v := .lit (.string _)) rfl) ?_
 refine WPL.qq (q_as (v := .lit (.string _)) rfl) ?_
 refine WPL.nx ?_
 refine WP.seq ?_
 obtain ⟨x9, H1, H⟩ := bnd H
 refine WP.monoW (Q := fun x E M => x = .normal ∧ E = ((((((Env.none.upd 2 (.ptr 0 0)).upd 4 (.ptr 1 0)).upd 5 (.lit (.bool x5))).upd 6 (.lit (.string x7))).upd 7 (.lit (.string (ByteArray.mk #[])))).upd 8 (.lit (.bool x9))) ∧ M = ((Mem.nil.push (.cells 23 [.lit (.int .i64 0), .lit (.int .i64 0)])).push (.cells 84 [.lit (.string x8)]))) ?_ ?_
 · clear H
   have H := H1
   clear H1
   refine WP.region ?_
   refine WPL.qq (q_mv (v := .lit (.string _)) rfl) ?_
   refine WPL.qq (q_len_str Tryz.underlying9 rfl) ?_
   obtain ⟨x10, h3, H⟩ := bnd H
   refine WPL.qq (q_nm (q_leq rfl rfl) (nm_bool h3)) ?_
   refine WPL.qq (q_mv (v := .lit (.bool _)) rfl) ?_
   refine WPL.split (t := 27) (b := x10) rfl (fun hb1 => ?_) (fun hb1 => ?_)
   · replace H := cnt hb1 H
     refine WPL.gq rfl (lb hb1) (q_mv (v := .lit (.string _)) rfl) ?_
     obtain ⟨x11, h4, H⟩ := bnd H
     refine WPL.gq rfl (lb hb1) (q_nm (q_neqs rfl rfl) (nm_bool h4)) ?_
     refine WPL.qq (q_pickT (v := .lit (.bool _)) (lb hb1) rfl) ?_
     refine WPL.qq (q_as (v := .lit (.bool _)) rfl) ?_
     refine WPL.nilW ?_
     have q0 := j1 H
     subst q0
     exact W.wk [0, 1] hnp r3 ⟨rfl, AA2, by decide, rfl, trivial⟩ (LeE.u (LeE.u (LeE.u (LeE.u (LeE.u (LeE.u (LeE.none rfl rfl))))))) rfl
   replace H := cnf hb1 H
   refine WPL.sg false rfl (lb hb1) ?_
   refine WPL.sg false rfl (lb hb1) ?_
   refine WPL.qq (q_pickF (v := .lit (.bool _)) (lb hb1) rfl) ?_
   refine WPL.qq (q_as (v := .lit (.bool _)) rfl) ?_
   refine WPL.nilW ?_
   have q0 := j1 H
   subst q0
   exact W.wk [0, 1] hnp r3 ⟨rfl, AA2, by decide, rfl, trivial⟩ (LeE.u (LeE.u (LeE.u (LeE.u (LeE.u (LeE.u (LeE.none rfl rfl))))))) rfl
 rintro _ _ _ ⟨rfl, rfl, rfl⟩
 refine W.now ?_
 refine Then.n ?_
 refine WP.seq ?_
 obtain ⟨⟨x12, x13, x14⟩, H2, H⟩ := bnd H
 refine WP.monoW (Q := fun x E M => x = .normal ∧ E = ((((((Env.none.upd 2 (.ptr 0 0)).upd 4 (.ptr 1 0)).upd 5 (.lit (.bool x5))).upd 6 (.lit (.string x7))).upd 7 (.lit (.string x12))).upd 8 (.lit (.bool x13))) ∧ M = ((Mem.nil.push (.cells 23 [.lit (.int .i64 0), .lit (.int .i64 0)])).push (.cells 84 [.lit (.string x14)]))) ?_ ?_
 · clear H
   have H := H2
   clear H2
   refine WP.sr ?_
   refine WPL.qq (q_mv (v := .ptr _ _) rfl) ?_
   obtain ⟨⟨x15, x16⟩, h5, H⟩ := bnd H
   refine WPL.c (runs_call (s := [1]) (t := [1]) (N := 2) (bor := []) fn88 rfl (s_dec_parser_take k (ByteArray.mk #[46]) x8 x15 x16 h5) ⟨rfl, AA1, by decide, rfl, trivial⟩ rfl trivial (.ren rfl rfl (.ren rfl rfl .nil)) rfl BB1 rfl) rfl ?_
   refine WPL.nx ?_
   refine WP.cond (t := x15) rfl (fun hb2 => ?_) (fun hb2 => ?_)
   · replace H := cnt hb2 H
     refine WP.sr ?_
     refine WPL.qq (q_mv (v := .ptr _ _) rfl) ?_
     obtain ⟨⟨x17, x18⟩, h6, H⟩ := bnd H
     refine WPL.c (runs_call (s := [1]) (t := [1]) (N := 2) (bor := []) fn89 rfl (s_dec_parser_some k x16 x17 x18 h6) ⟨rfl, AA1, by decide, rfl, trivial⟩ rfl trivial (.ren rfl rfl .nil) rfl BB1 rfl) rfl ?_
     refine WPL.qq (q_as (v := .lit (.string _)) rfl) ?_
     refine WPL.nx ?_
     refine WP.region ?_
     refine WPL.qq (q_mv (v := .lit (.bool _)) rfl) ?_
     refine WPL.qq (q_mv (v := .lit (.bool _)) rfl) ?_
     refine WPL.split (t := 36) (b := x9) rfl (fun hb3 => ?_) (fun hb3 => ?_)
     · replace H := cnt hb3 H
       refine WPL.gq rfl (lb hb3) (q_mv (v := .lit (.string _)) rfl) ?_
       obtain ⟨x19, h7, H⟩ := bnd H
       refine WPL.gq rfl (lb hb3) (q_nm (q_neqs rfl rfl) (nm_bool h7)) ?_
       refine WPL.qq (q_pickT (v := .lit (.bool _)) (lb hb3) rfl) ?_
       refine WPL.qq (q_as (v := .lit (.bool _)) rfl) ?_
       refine WPL.nilW ?_
       obtain ⟨rfl, rfl, rfl⟩ := j3 H
       exact W.wk [0, 1] hnp r3 ⟨rfl, AA2, by decide, rfl, trivial⟩ (LeE.u (LeE.u (LeE.u (LeE.u (LeE.u (LeE.u (LeE.none rfl rfl))))))) rfl
     replace H := cnf hb3 H
     refine WPL.sg false rfl (lb hb3) ?_
     refine WPL.sg false rfl (lb hb3) ?_
     refine WPL.qq (q_pickF (v := .lit (.bool _)) (lb hb3) rfl) ?_
     refine WPL.qq (q_as (v := .lit (.bool _)) rfl) ?_
     refine WPL.nilW ?_
     obtain ⟨rfl, rfl, rfl⟩ := j3 H
     exact W.wk [0, 1] hnp r3 ⟨rfl, AA2, by decide, rfl, trivial⟩ (LeE.u (LeE.u (LeE.u (LeE.u (LeE.u (LeE.u (LeE.none rfl rfl))))))) rfl
   replace H := cnf hb2 H
   refine WP.skipW ?_
   obtain ⟨rfl, rfl, rfl⟩ := j3 H
   exact W.wk [0, 1] hnp r3 ⟨rfl, AA2, by decide, rfl, trivial⟩ (LeE.u (LeE.u (LeE.u (LeE.u (LeE.u (LeE.u (LeE.none rfl rfl))))))) rfl
 rintro _ _ _ ⟨rfl, rfl, rfl⟩
 refine W.now ?_
 refine Then.n ?_
 refine WP.sr ?_
 refine WPL.d (d_alloc ze3 rfl) rfl ?_
 refine WPL.s (s_store sz3 rfl rfl rfl rfl rfl) ?_
 refine WPL.nx ?_
 refine WP.seq ?_
 obtain ⟨⟨x20, x21, x22⟩, H3, H⟩ := bnd H
 refine WP.monoW (Q := fun x E M => x = .normal ∧ E = ((((((((⟨fun _ => .any, [3], [], []⟩ : Env).upd 2 (.ptr 0 0)).upd 4 (.ptr 1 0)).upd 5 (.lit (.bool x5))).upd 6 (.lit (.string x7))).upd 7 (.lit (.string x12))).upd 8 (.lit (.bool x20))).upd 9 (.ptr 2 0)) ∧ M = ((((Mem.nil.push (.cells 23 [.lit (.int .i64 0), .lit (.int .i64 0)])).push (.cells 84 [.lit (.string x21)])).push (.cells 3 [.lit (.int .i64 x22)])).push (.bag))) ?_ ?_
 · clear H
   have H := H3
   clear H3
   refine WP.seq ?_
   obtain ⟨⟨x23, x24⟩, H4, H⟩ := bnd H
   refine WP.monoW (Q := fun x E M => x = .normal ∧ E = ((((((((Env.none.upd 2 (.ptr 0 0)).upd 4 (.ptr 1 0)).upd 5 (.lit (.bool x5))).upd 6 (.lit (.string x7))).upd 7 (.lit (.string x12))).upd 8 (.lit (.bool x13))).upd 9 (.ptr 2 0)).upd 45 (.lit (.bool x23))) ∧ M = (((Mem.nil.push (.cells 23 [.lit (.int .i64 0), .lit (.int .i64 0)])).push (.cells 84 [.lit (.string x24)])).push (.cells 3 [.lit (.int .i64 0)]))) ?_ ?_
   · clear H
     have H := H4
     clear H4
     refine WP.region ?_
     refine WPL.qq (q_mv (v := .ptr _ _) rfl) ?_
     obtain ⟨⟨x25, x26⟩, h8, H⟩ := bnd H
     refine WPL.c (runs_call (s := [1]) (t := [1]) (N := 3) (bor := []) fn88 rfl (s_dec_parser_take k (ByteArray.mk #[101]) x14 x25 x26 h8) ⟨rfl, AA1, by decide, rfl, trivial⟩ rfl trivial (.ren rfl rfl (.ren rfl rfl .nil)) rfl BB1 rfl) rfl ?_
     refine WPL.qq (q_mv (v := .lit (.bool _)) rfl) ?_
     refine WPL.split (t := 42) (b := x25) rfl (fun hb4 => ?_) (fun hb4 => ?_)
     · replace H := cnt hb4 H
       refine WPL.sg true rfl (lb hb4) ?_
       refine WPL.sg true rfl (lb hb4) ?_
       refine WPL.qq (q_pickT (v := .lit (.bool _)) (lb hb4) rfl) ?_
       refine WPL.nilW ?_
       obtain ⟨rfl, rfl⟩ := j2 H
       exact W.wk [0, 1, 2] hnp r3 ⟨rfl, AA3, by decide, rfl, trivial⟩ (LeE.u (LeE.u (LeE.u (LeE.u (LeE.u (LeE.u (LeE.u (LeE.u (LeE.none rfl rfl))))))))) rfl
     replace H := cnf hb4 H
     refine WPL.gq rfl (lb hb4) (q_mv (v := .ptr _ _) rfl) ?_
     obtain ⟨⟨x27, x28⟩, h9, H⟩ := bnd H
     refine WPL.cg rfl rfl (lb hb4) (runs_call (s := [1]) (t := [1]) (N := 3) (bor := []) fn88 rfl (s_dec_parser_take k (ByteArray.mk #[69]) x26 x27 x28 h9) ⟨rfl, AA1, by decide, rfl, trivial⟩ rfl trivial (.ren rfl rfl (.ren rfl rfl .nil)) rfl BB1 rfl) rfl ?_
     refine WPL.qq (q_pickF (v := .lit (.bool _)) (lb hb4) rfl) ?_
     refine WPL.nilW ?_
     obtain ⟨rfl, rfl⟩ := j2 H
     exact W.wk [0, 1, 2] hnp r3 ⟨rfl, AA3, by decide, rfl, trivial⟩ (LeE.u (LeE.u (LeE.u (LeE.u (LeE.u (LeE.u (LeE.u (LeE.u (LeE.none rfl rfl))))))))) rfl
   rintro _ _ _ ⟨rfl, rfl, rfl⟩
   refine W.now ?_
   refine Then.n ?_
   refine WP.cond (t := x23) rfl (fun hb5 => ?_) (fun hb5 => ?_)
   · replace H := cnt hb5 H
     refine WP.sr ?_
     refine WPL.qq (q_mv (v := .ptr _ _) rfl) ?_
     obtain ⟨⟨x29, x30⟩, h10, H⟩ := bnd H
     refine WPL.c (runs_call (s := [1]) (t := [1]) (N := 3) (bor := []) fn88 rfl (s_dec_parser_take k (ByteArray.mk #[45]) x24 x29 x30 h10) ⟨rfl, AA1, by decide, rfl, trivial⟩ rfl trivial (.ren rfl rfl (.ren rfl rfl .nil)) rfl BB1 rfl) rfl ?_
     refine WPL.qq (q_as (v := .lit (.bool _)) rfl) ?_
     refine WPL.nx ?_
     refine WP.seq ?_
     obtain ⟨x31, H5, H⟩ := bnd H
     refine WP.monoW (Q := fun x E M => x = .normal ∧ E = ((((((((Env.none.upd 2 (.ptr 0 0)).upd 4 (.ptr 1 0)).upd 5 (.lit (.bool x5))).upd 6 (.lit (.string x7))).upd 7 (.lit (.string x12))).upd 8 (.lit (.bool x13))).upd 9 (.ptr 2 0)).upd 10 (.lit (.bool x29))) ∧ M = (((Mem.nil.push (.cells 23 [.lit (.int .i64 0), .lit (.int .i64 0)])).push (.cells 84 [.lit (.string x31)])).push (.cells 3 [.lit (.int .i64 0)]))) ?_ ?_
     · clear H
       have H := H5
       clear H5
       refine WP.sr ?_
       refine WPL.qq (q_mv (v := .lit (.bool _)) rfl) ?_
       refine WPL.qq (q_not rfl) ?_
       refine WPL.nx ?_
       refine WP.cond (t := (!x29)) rfl (fun hb6 => ?_) (fun hb6 => ?_)
       · replace H := cnt hb6 H
         refine WP.region ?_
         refine WPL.qq (q_mv (v := .ptr _ _) rfl) ?_
         obtain ⟨⟨x32, x33⟩, h11, H⟩ := bnd H
         refine WPL.c (runs_call (s := [1]) (t := [1]) (N := 3) (bor := []) fn88 rfl (s_dec_parser_take k (ByteArray.mk #[43]) x30 x32 x33 h11) ⟨rfl, AA1, by decide, rfl, trivial⟩ rfl trivial (.ren rfl rfl (.ren rfl rfl .nil)) rfl BB1 rfl) rfl ?_
         refine WPL.nilW ?_
         have q0 := j1 H
         subst q0
         exact W.wk [0, 1, 2] hnp r3 ⟨rfl, AA3, by decide, rfl, trivial⟩ (LeE.u (LeE.u (LeE.u (LeE.u (LeE.u (LeE.u (LeE.u (LeE.u (LeE.none rfl rfl))))))))) rfl
       replace H := cnf hb6 H
       refine WP.skipW ?_
       have q0 := j1 H
       subst q0
       exact W.wk [0, 1, 2] hnp r3 ⟨rfl, AA3, by decide, rfl, trivial⟩ (LeE.u (LeE.u (LeE.u (LeE.u (LeE.u (LeE.u (LeE.u (LeE.u (LeE.none rfl rfl))))))))) rfl
     rintro _ _ _ ⟨rfl, rfl, rfl⟩
     refine W.now ?_
     refine Then.n ?_
     refine WP.sr ?_
     refine WPL.qq (q_mv (v := .ptr _ _) rfl) ?_
     obtain ⟨⟨x34, x35⟩, h12, H⟩ := bnd H
     refine WPL.c (runs_call (s := [1]) (t := [1]) (N := 3) (bor := []) fn89 rfl (s_dec_parser_some k x31 x34 x35 h12) ⟨rfl, AA1, by decide, rfl, trivial⟩ rfl trivial (.ren rfl rfl .nil) rfl BB1 rfl) rfl ?_
     refine WPL.qq (q_as (v := .lit (.string _)) rfl) ?_
     refine WPL.nx ?_
     refine WP.seq ?_
     obtain ⟨x36, H6, H⟩ := bnd H
     refine WP.monoW (Q := fun x E M => x = .normal ∧ E = (((((((((Env.none.upd 2 (.ptr 0 0)).upd 4 (.ptr 1 0)).upd 5 (.lit (.bool x5))).upd 6 (.lit (.string x7))).upd 7 (.lit (.string x12))).upd 8 (.lit (.bool x36))).upd 9 (.ptr 2 0)).upd 10 (.lit (.bool x29))).upd 11 (.lit (.string x34))) ∧ M = (((Mem.nil.push (.cells 23 [.lit (.int .i64 0), .lit (.int .i64 0)])).push (.cells 84 [.lit (.string x35)])).push (.cells 3 [.lit (.int .i64 0)]))) ?_ ?_
     · clear H
       have H := H6
       clear H6
       refine WP.region ?_
       refine WPL.qq (q_mv (v := .lit (.bool _)) rfl) ?_
       refine WPL.qq (q_mv (v := .lit (.bool _)) rfl) ?_
       refine WPL.split (t := 55) (b := x13) rfl (fun hb7 => ?_) (fun hb7 => ?_)
       · replace H := cnt hb7 H
         refine WPL.gq rfl (lb hb7) (q_mv (v := .lit (.string _)) rfl) ?_
         refine WPL.gq rfl (lb hb7) (q_len_str Tryz.underlying9 rfl) ?_
         obtain ⟨x37, h13, H⟩ := bnd H
         refine WPL.gq rfl (lb hb7) (q_nm (q_geq rfl rfl) (nm_bool h13)) ?_
         refine WPL.qq (q_pickT (v := .lit (.bool _)) (lb hb7) rfl) ?_
         refine WPL.qq (q_mv (v := .lit (.bool _)) rfl) ?_
         refine WPL.split (t := 60) (b := x37) rfl (fun hb8 => ?_) (fun hb8 => ?_)
         · replace H := cnt hb8 H
           refine WPL.gq rfl (lb hb8) (q_mv (v := .lit (.string _)) rfl) ?_
           refine WPL.gq rfl (lb hb8) (q_len_str Tryz.underlying9 rfl) ?_
           obtain ⟨x38, h14, H⟩ := bnd H
           refine WPL.gq rfl (lb hb8) (q_nm (q_leq rfl rfl) (nm_bool h14)) ?_
           refine WPL.qq (q_pickT (v := .lit (.bool _)) (lb hb8) rfl) ?_
           refine WPL.qq (q_as (v := .lit (.bool _)) rfl) ?_
           refine WPL.nilW ?_
           have q0 := j1 H
           subst q0
           exact W.wk [0, 1, 2] hnp r3 ⟨rfl, AA3, by decide, rfl, trivial⟩ (LeE.u (LeE.u (LeE.u (LeE.u (LeE.u (LeE.u (LeE.u (LeE.u (LeE.u (LeE.none rfl rfl)))))))))) rfl
         replace H := cnf hb8 H
         refine WPL.sg false rfl (lb hb8) ?_
         refine WPL.sg false rfl (lb hb8) ?_
         refine WPL.sg false rfl (lb hb8) ?_
         refine WPL.qq (q_pickF (v := .lit (.bool _)) (lb hb8) rfl) ?_
         refine WPL.qq (q_as (v := .lit (.bool _)) rfl) ?_
         refine WPL.nilW ?_
         have q0 := j1 H
         subst q0
         exact W.wk [0, 1, 2] hnp r3 ⟨rfl, AA3, by decide, rfl, trivial⟩ (LeE.u (LeE.u (LeE.u (LeE.u (LeE.u (LeE.u (LeE.u (LeE.u (LeE.u (LeE.none rfl rfl)))))))))) rfl
       replace H := cnf hb7 H
       refine WPL.sg false rfl (lb hb7) ?_
       refine WPL.sg false rfl (lb hb7) ?_
       refine WPL.sg false rfl (lb hb7) ?_
       refine WPL.qq (q_pickF (v := .lit (.bool _)) (lb hb7) rfl) ?_
       refine WPL.qq (q_mv (v := .lit (.bool _)) rfl) ?_
       refine WPL.sg false rfl rfl ?_
       refine WPL.sg false rfl rfl ?_
       refine WPL.sg false rfl rfl ?_
       refine WPL.qq (q_pickF (v := .lit (.bool _)) rfl rfl) ?_
       refine WPL.qq (q_as (v := .lit (.bool _)) rfl) ?_
       refine WPL.nilW ?_
       have q0 := j1 H
       subst q0
       exact W.wk [0, 1, 2] hnp r3 ⟨rfl, AA3, by decide, rfl, trivial⟩ (LeE.u (LeE.u (LeE.u (LeE.u (LeE.u (LeE.u (LeE.u (LeE.u (LeE.u (LeE.none rfl rfl)))))))))) rfl
     rintro _ _ _ ⟨rfl, rfl, rfl⟩
     refine W.now ?_
     refine Then.n ?_
     refine WP.seq ?_
     obtain ⟨x39, H7, H⟩ := bnd H
     refine WP.monoW (Q := fun x E M => x = .normal ∧ E = (((((((((⟨fun _ => .any, [3], [], []⟩ : Env).upd 2 (.ptr 0 0)).upd 4 (.ptr 1 0)).upd 5 (.lit (.bool x5))).upd 6 (.lit (.string x7))).upd 7 (.lit (.string x12))).upd 8 (.lit (.bool x36))).upd 9 (.ptr 2 0)).upd 10 (.lit (.bool x29))) ∧ M = ((((Mem.nil.push (.cells 23 [.lit (.int .i64 0), .lit (.int .i64 0)])).push (.cells 84 [.lit (.string x35)])).push (.cells 3 [.lit (.int .i64 x39)])).push (.bag))) ?_ ?_
     · clear H
       have H := H7
       clear H7
       refine WP.sr ?_
       refine WPL.qq (q_mv (v := .lit (.bool _)) rfl) ?_
       refine WPL.nx ?_
       refine WP.cond (t := x36) rfl (fun hb9 => ?_) (fun hb9 => ?_)
       · replace H := cnt hb9 H
         refine WP.sr ?_
         refine WPL.qq (q_mv (v := .lit (.string _)) rfl) ?_
         obtain ⟨_, h15, H⟩ := bnd H
         refine WPL.c (runs_call (s := []) (t := [3]) (N := 4) (bor := []) fn90 rfl (s_dec_values k x34 h15) ⟨rfl, trivial, by decide, rfl, trivial⟩ rfl trivial (.ren rfl rfl .nil) rfl BB1 rfl) rfl ?_
         refine WPL.nx ?_
         refine WP.block ?_
         refine WP.cv (Cv.nullMark (N := 4) rfl rfl) ?_
         refine WP.range (nti := 18) (n := 5) rfl rfl Tryz.func138 rfl (by kernel_rfl) rfl rfl rfl rfl fun l_1 r_1 aC1 hp1 ha1 hb10 ht1 hs1 hf1 => ?_
         refine WP.sr ?_
         refine WPL.qq (q_load sc9 rfl rfl rfl) ?_
         refine WPL.qq (q_len_str Tryz.underlying9 rfl) ?_
         refine WPL.qq (q_mv (v := .lit (.int _ _)) rfl) ?_
         refine WPL.nx ?_
         refine WP.block ?_
         refine WP.cv (Cv.weak (E' := (((((⟨fun _ => .any, [], [⟨aC1, ((((((((((Env.none.upd 2 (.ptr 1 0)).upd 4 (.ptr 2 0)).upd 5 (.lit (.bool x5))).upd 6 (.lit (.string x7))).upd 7 (.lit (.string x12))).upd 8 (.lit (.bool x36))).upd 9 (.ptr 3 0)).upd 10 (.lit (.bool x29))).upd 67 (.fn 138 [.ptr 0 0]))).v, [4, 5], some (6, l_1)⟩], []⟩ : Env).upd 0 (.lit (.func (.yield l_1) #[] #[]))).upd 1 (.ptr 0 0)).upd 5 (.lit (.int .i64 ((ByteArray.size x34 : Nat) : Int)))).upd 6 (.lit (.int .i64 0)))) (M' := (((((((Mem.nil.push (.cells 9 [.lit (.string x34)])).push (.cells 23 [.lit (.int .i64 0), .lit (.int .i64 0)])).push (.cells 84 [.lit (.string x35)])).push (.cells 3 [.lit (.int .i64 0)])).push (.obj (Obj.deferred (some [])))).push (.bag)).push (.obj (lp r_1 .ready none)))) [3, 0, 1, 2, 5, 4, 6] hnp ⟨rfl, AA7, by decide, rfl, trivial⟩ (LeE.u (LeE.u (LeE.u (LeE.u (LeE.noneD rfl rfl (.cons ⟨rfl, (LeV.upd rfl rfl (LeV.upd rfl rfl (LeV.upd rfl rfl (LeV.upd rfl rfl (LeV.upd rfl rfl (LeV.upd rfl rfl (LeV.upd rfl rfl (LeV.upd rfl rfl (LeV.upd rfl rfl LeV.none))))))))), rfl, rfl, rfl, rfl⟩ .nil))))))) ?_
         obtain ⟨x40, H8, H⟩ := bnd H
         refine WP.monoW (Q := fun x E M => x = .exit 0 ∧ E = (⟨fun _ => .any, [], [⟨aC1, ((((((((((Env.none.upd 2 (.ptr 0 0)).upd 4 (.ptr 1 0)).upd 5 (.lit (.bool x5))).upd 6 (.lit (.string x7))).upd 7 (.lit (.string x12))).upd 8 (.lit (.bool x36))).upd 9 (.ptr 2 0)).upd 10 (.lit (.bool x29))).upd 67 (.fn 138 [.ptr 3 0]))).v, [4, 5], some (6, l_1)⟩], []⟩ : Env) ∧ M = (((((((Mem.nil.push (.cells 23 [.lit (.int .i64 0), .lit (.int .i64 0)])).push (.cells 84 [.lit (.string x35)])).push (.cells 3 [.lit (.int .i64 x40)])).push (.cells 9 [.lit (.string x34)])).push (.obj (Obj.deferred (some [])))).push (.bag)).push (.obj (lp r_1 .ready none)))) ?_ ?_
         · refine WP.loop (β := Int × Int) (fun n b => g_dec_Parse_l0 k x34 n b.1 b.2 = some x40) (fun b => (((((⟨fun _ => .any, [], [⟨aC1, ((((((((((Env.none.upd 2 (.ptr 1 0)).upd 4 (.ptr 2 0)).upd 5 (.lit (.bool x5))).upd 6 (.lit (.string x7))).upd 7 (.lit (.string x12))).upd 8 (.lit (.bool x36))).upd 9 (.ptr 3 0)).upd 10 (.lit (.bool x29))).upd 67 (.fn 138 [.ptr 0 0]))).v, [4, 5], some (6, l_1)⟩], []⟩ : Env).upd 0 (.lit (.func (.yield l_1) #[] #[]))).upd 1 (.ptr 0 0)).upd 5 (.lit (.int .i64 ((ByteArray.size x34 : Nat) : Int)))).upd 6 (.lit (.int .i64 b.1)))) (fun b => (((((((Mem.nil.push (.cells 9 [.lit (.string x34)])).push (.cells 23 [.lit (.int .i64 0), .lit (.int .i64 0)])).push (.cells 84 [.lit (.string x35)])).push (.cells 3 [.lit (.int .i64 b.2)])).push (.obj (Obj.deferred (some [])))).push (.bag)).push (.obj (lp r_1 .ready none)))) k (0, 0) H8 rfl rfl ?_
           rintro n ⟨x41, x42⟩ H
           obtain _ | n := n
           · exact nf rfl H
           rw [g_dec_Parse_l0.eq_2] at H
           show WP _ _ _ _ (((((⟨fun _ => .any, [], [⟨aC1, ((((((((((Env.none.upd 2 (.ptr 1 0)).upd 4 (.ptr 2 0)).upd 5 (.lit (.bool x5))).upd 6 (.lit (.string x7))).upd 7 (.lit (.string x12))).upd 8 (.lit (.bool x36))).upd 9 (.ptr 3 0)).upd 10 (.lit (.bool x29))).upd 67 (.fn 138 [.ptr 0 0]))).v, [4, 5], some (6, l_1)⟩], []⟩ : Env).upd 0 (.lit (.func (.yield l_1) #[] #[]))).upd 1 (.ptr 0 0)).upd 5 (.lit (.int .i64 ((ByteArray.size x34 : Nat) : Int)))).upd 6 (.lit (.int .i64 x41))) (((((((Mem.nil.push (.cells 9 [.lit (.string x34)])).push (.cells 23 [.lit (.int .i64 0), .lit (.int .i64 0)])).push (.cells 84 [.lit (.string x35)])).push (.cells 3 [.lit (.int .i64 x42)])).push (.obj (Obj.deferred (some [])))).push (.bag)).push (.obj (lp r_1 .ready none))) _
           refine WP.sr ?_
           obtain ⟨x43, h16, H⟩ := bnd H
           refine WPL.qq (q_nm (q_lss rfl rfl) (nm_bool h16)) ?_
           refine WPL.nx ?_
           refine WP.seq ?_
           refine WP.cond (t := x43) rfl (fun hb11 => ?_) (fun hb11 => ?_)
           · replace H := cnt hb11 H
             refine WP.skipW ?_
             refine W.now ?_
             refine Then.n ?_
             refine WP.seq ?_
             refine WP.block ?_
             refine WP.sr ?_
             refine WPL.qq (q_mv (v := .lit (.int _ _)) rfl) ?_
             refine WPL.qq (q_as (v := .lit (.int _ _)) rfl) ?_
             refine WPL.nx ?_
             refine WP.sr ?_
             refine WPL.qq (q_mv (v := .lit _) rfl) ?_
             refine WPL.qq (q_load sc9 rfl rfl rfl) ?_
             refine WPL.qq (q_mv (v := .lit (.int _ _)) rfl) ?_
             obtain ⟨x44, h17, H⟩ := bnd H
             refine WPL.qq (q_index_str Tryz.underlying9 rfl rfl h17) ?_
             refine WPL.qq (q_sub rfl rfl) ?_
             obtain ⟨x45, h18, H⟩ := bnd H
             refine WPL.qq (q_nm (q_conv Tryz.underlying5 Tryz.underlying3 rfl) (nm_int h18)) ?_
             refine WPL.y rfl rfl rfl rfl hp1 ha1 hb10 ht1 hs1 hf1 rfl rfl rfl fun aI1 => ?_
             refine WP.region ?_
             refine WPL.qq (q_as (v := .lit (.int _ _)) rfl) ?_
             refine WPL.nilW ?_
             refine W.now ?_
             refine ⟨rfl, rfl, _, _, _, _, _, _, rfl, rfl, ?_⟩
             refine WP.block ?_
             refine WP.region ?_
             refine WPL.qq (q_load sc3 rfl rfl rfl) ?_
             refine WPL.qq (q_mul rfl rfl) ?_
             refine WPL.qq (q_mv (v := .lit (.int _ _)) rfl) ?_
             obtain ⟨x46, h19, H⟩ := bnd H
             refine WPL.qq (q_nm (q_add rfl rfl) (nm_int h19)) ?_
             refine WPL.s (s_store sz3 rfl rfl rfl rfl rfl) ?_
             refine WPL.nilW ?_
             refine W.now ?_
             refine InBlock.n ?_
             refine ⟨rfl, _, _, _, _, _, _, rfl, rfl, _, rfl, ?_⟩
             refine WPL.qq (q_not rfl) ?_
             refine WPL.nx ?_
             refine WP.condFB (t := (!true)) rfl rfl ?_
             refine WP.skipW ?_
             refine W.now ?_
             refine InBlock.n ?_
             refine Then.n ?_
             refine WP.region ?_
             refine WPL.qq (q_add rfl rfl) ?_
             refine WPL.qq (q_mv (v := .lit (.int _ _)) rfl) ?_
             refine WPL.nilW ?_
             exact W.wk [0, 1, 2, 3, 4, 5, 6] hnp (Then.n ⟨n, ((IntKind.wrap .i64 (x41 + 1)), x46), Nat.lt_succ_self n, H, rfl, rfl⟩) ⟨rfl, AA7, by decide, rfl, trivial⟩ (LeE.u (LeE.u (LeE.u (LeE.u (LeE.noneD rfl rfl (.cons ⟨rfl, (LeV.upd rfl rfl (LeV.upd rfl rfl (LeV.upd rfl rfl (LeV.upd rfl rfl (LeV.upd rfl rfl (LeV.upd rfl rfl (LeV.upd rfl rfl (LeV.upd rfl rfl (LeV.upd rfl rfl LeV.none))))))))), rfl, rfl, rfl, rfl⟩ .nil)))))) rfl
           replace H := cnf hb11 H
           refine WP.exitW ?_
           have q0 := j1 H
           subst q0
           exact W.wk [1, 2, 3, 0, 4, 5, 6] hnp (Then.x (Then.x r3)) ⟨rfl, AA7, by decide, rfl, trivial⟩ (LeE.noneD rfl rfl (.cons ⟨rfl, (LeV.upd rfl rfl (LeV.upd rfl rfl (LeV.upd rfl rfl (LeV.upd rfl rfl (LeV.upd rfl rfl (LeV.upd rfl rfl (LeV.upd rfl rfl (LeV.upd rfl rfl (LeV.upd rfl rfl LeV.none))))))))), rfl, rfl, rfl, rfl⟩ .nil)) rfl
         rintro _ _ _ ⟨rfl, rfl, rfl⟩
         refine W.now ?_
         refine InBlock.x0 ?_
         refine ⟨trivial, _, _, _, _, rfl, _, _, rfl, (fun h => by cases h), ?_⟩
         refine W.cv (Cv.absorb (N := 7) (j := 4) (i := 5) rfl rfl rfl rfl) rfl ?_
         have q0 := j1 H
         subst q0
         exact W.wk [0, 1, 2, 7] hnp (InBlock.n r3) ⟨rfl, AA4, by decide, rfl, trivial⟩ (LeE.u (LeE.u (LeE.u (LeE.u (LeE.u (LeE.u (LeE.u (LeE.u (LeE.noneD rfl rfl .nil))))))))) rfl
       replace H := cnf hb9 H
       refine WP.skipW ?_
       refine W.cv (Cv.nullMark (N := 3) rfl rfl) rfl ?_
       have q0 := j1 H
       subst q0
       exact W.wk [0, 1, 2, 3] hnp r3 ⟨rfl, AA4, by decide, rfl, trivial⟩ (LeE.u (LeE.u (LeE.u (LeE.u (LeE.u (LeE.u (LeE.u (LeE.u (LeE.noneD rfl rfl .nil))))))))) rfl
     rintro _ _ _ ⟨rfl, rfl, rfl⟩
     refine W.now ?_
     refine Then.n ?_
     refine WP.sr ?_
     refine WPL.qq (q_mv (v := .lit (.bool _)) rfl) ?_
     refine WPL.nx ?_
     refine WP.cond (t := x29) rfl (fun hb12 => ?_) (fun hb12 => ?_)
     · replace H := cnt hb12 H
       refine WP.region ?_
       refine WPL.qq (q_load sc3 rfl rfl rfl) ?_
       refine WPL.qq (q_neg rfl) ?_
       refine WPL.s (s_store sz3 rfl rfl rfl rfl rfl) ?_
       refine WPL.nilW ?_
       obtain ⟨rfl, rfl, rfl⟩ := j3 H
       exact W.wk [0, 1, 2, 3] hnp r3 ⟨rfl, AA4, by decide, rfl, trivial⟩ (LeE.u (LeE.u (LeE.u (LeE.u (LeE.u (LeE.u (LeE.u (LeE.noneD rfl rfl .nil)))))))) rfl
     replace H := cnf hb12 H
     refine WP.skipW ?_
     obtain ⟨rfl, rfl, rfl⟩ := j3 H
     exact W.wk [0, 1, 2, 3] hnp r3 ⟨rfl, AA4, by decide, rfl, trivial⟩ (LeE.u (LeE.u (LeE.u (LeE.u (LeE.u (LeE.u (LeE.u (LeE.noneD rfl rfl .nil)))))))) rfl
   replace H := cnf hb5 H
   refine WP.skipW ?_
   refine W.cv (Cv.nullMark (N := 3) rfl rfl) rfl ?_
   obtain ⟨rfl, rfl, rfl⟩ := j3 H
   exact W.wk [0, 1, 2, 3] hnp r3 ⟨rfl, AA4, by decide, rfl, trivial⟩ (LeE.u (LeE.u (LeE.u (LeE.u (LeE.u (LeE.u (LeE.u (LeE.noneD rfl rfl .nil)))))))) rfl
 rintro _ _ _ ⟨rfl, rfl, rfl⟩
 refine W.now ?_
 refine Then.n ?_
 refine WP.seq ?_
 refine WP.seq ?_
 obtain ⟨x47, H9, H⟩ := bnd H
 refine WP.monoW (Q := fun x E M => x = .normal ∧ E = (((((((⟨fun _ => .any, [2], [], []⟩ : Env).upd 2 (.ptr 0 0)).upd 5 (.lit (.bool x5))).upd 6 (.lit (.string x7))).upd 7 (.lit (.string x12))).upd 9 (.ptr 1 0)).upd 84 (.lit (.bool x47))) ∧ M = (((Mem.nil.push (.cells 23 [.lit (.int .i64 0), .lit (.int .i64 0)])).push (.cells 3 [.lit (.int .i64 x22)])).push (.bag))) ?_ ?_
 · clear H
   have H := H9
   clear H9
   refine WP.region ?_
   refine WPL.qq (q_mv (v := .lit (.bool _)) rfl) ?_
   refine WPL.qq (q_not rfl) ?_
   refine WPL.qq (q_mv (v := .lit (.bool _)) rfl) ?_
   refine WPL.split (t := 78) (b := (!x20)) rfl (fun hb13 => ?_) (fun hb13 => ?_)
   · replace H := cnt hb13 H
     refine WPL.sg true rfl (lb hb13) ?_
     refine WPL.sg true rfl (lb hb13) ?_
     refine WPL.sg true rfl (lb hb13) ?_
     refine WPL.sg true rfl (lb hb13) ?_
     refine WPL.sg true rfl (lb hb13) ?_
     refine WPL.qq (q_pickT (v := .lit (.bool _)) (lb hb13) rfl) ?_
     refine WPL.nilW ?_
     have q0 := j1 H
     subst q0
     exact W.wk [0, 2, 3] hnp r3 ⟨rfl, AA3, by decide, rfl, trivial⟩ (LeE.u (LeE.u (LeE.u (LeE.u (LeE.u (LeE.u (LeE.noneD rfl rfl .nil))))))) rfl
   replace H := cnf hb13 H
   refine WPL.gq rfl (lb hb13) (q_mv (v := .ptr _ _) rfl) ?_
   refine WPL.gq rfl (lb hb13) (q_nilCheck rfl) ?_
   refine WPL.gq rfl (lb hb13) (q_fieldAddr fi84_0 rfl rfl) ?_
   refine WPL.gq rfl (lb hb13) (q_load sc9 rfl rfl rfl) ?_
   obtain ⟨x48, h20, H⟩ := bnd H
   refine WPL.gq rfl (lb hb13) (q_nm (q_neqs rfl rfl) (nm_bool h20)) ?_
   refine WPL.qq (q_pickF (v := .lit (.bool _)) (lb hb13) rfl) ?_
   refine WPL.nilW ?_
   have q0 := j1 H
   subst q0
   exact W.wk [0, 2, 3] hnp r3 ⟨rfl, AA3, by decide, rfl, trivial⟩ (LeE.u (LeE.u (LeE.u (LeE.u (LeE.u (LeE.u (LeE.noneD rfl rfl .nil))))))) rfl
 rintro _ _ _ ⟨rfl, rfl, rfl⟩
 refine W.now ?_
 refine Then.n ?_
 refine WP.cond (t := x47) rfl (fun hb14 => ?_) (fun hb14 => ?_)
 · replace H := cnt hb14 H
   refine WP.sr ?_
   refine WPL.qq (q_build bu23 rfl) ?_
   refine WPL.s (s_store sz23 rfl rfl rfl rfl rfl) ?_
   refine WPL.qq (q_as (v := .lit (.int _ _)) rfl) ?_
   refine WPL.nx ?_
   refine WP.retW ?_
   obtain ⟨rfl, rfl, rfl⟩ := j3 H
   exact W.now (Then.r (BodyR.mkR ⟨.inr rfl, trivial⟩ rfl [0] ⟨rfl, rfl⟩ ⟨rfl, AA1, by decide, rfl, trivial⟩ rfl rfl))
 replace H := cnf hb14 H
 refine WP.skipW ?_
 refine W.now ?_
 refine Then.n ?_
 refine WP.sr ?_
 refine WPL.qq (q_mv (v := .lit (.string _)) rfl) ?_
 refine WPL.qq (q_mv (v := .lit (.string _)) rfl) ?_
 obtain ⟨h21, H⟩ := grd H
 refine WPL.qq (q_concat rfl rfl h21) ?_
 obtain ⟨x49, h22, H⟩ := bnd H
 refine WPL.c (runs_call (s := []) (t := []) (N := 3) (bor := []) fn91 rfl (s_st_TrimLeft k (x7 ++ x12) (ByteArray.mk #[48]) x49 h22) ⟨rfl, trivial, by decide, rfl, trivial⟩ rfl trivial (.ren rfl rfl (.ren rfl rfl .nil)) rfl trivial rfl) rfl ?_
 refine WPL.qq (q_as (v := .lit (.string _)) rfl) ?_
 refine WPL.nx ?_
 refine WP.sr ?_
 refine WPL.qq (q_load sc3 rfl rfl rfl) ?_
 refine WPL.qq (q_mv (v := .lit (.string _)) rfl) ?_
 refine WPL.qq (q_len_str Tryz.underlying9 rfl) ?_
 obtain ⟨x50, h23, H⟩ := bnd H
 refine WPL.qq (q_nm (q_sub rfl rfl) (nm_int h23)) ?_
 refine WPL.s (s_store sz3 rfl rfl rfl rfl rfl) ?_
 refine WPL.nx ?_
 refine WP.sr ?_
 refine WPL.qq (q_mv (v := .lit (.string _)) rfl) ?_
 obtain ⟨x51, h23, H⟩ := bnd H
 refine WPL.c (runs_call (s := []) (t := []) (N := 3) (bor := []) fn92 rfl (s_st_TrimRight k x49 (ByteArray.mk #[48]) x51 h23) ⟨rfl, trivial, by decide, rfl, trivial⟩ rfl trivial (.ren rfl rfl (.ren rfl rfl .nil)) rfl trivial rfl) rfl ?_
 refine WPL.qq (q_as (v := .lit (.string _)) rfl) ?_
 refine WPL.nx ?_
 refine WP.sr ?_
 refine WPL.qq (q_load sc3 rfl rfl rfl) ?_
 refine WPL.qq (q_mv (v := .lit (.string _)) rfl) ?_
 refine WPL.qq (q_len_str Tryz.underlying9 rfl) ?_
 refine WPL.qq (q_mv (v := .lit (.string _)) rfl) ?_
 refine WPL.qq (q_len_str Tryz.underlying9 rfl) ?_
 obtain ⟨x52, h24, H⟩ := bnd H
 refine WPL.qq (q_nm (q_sub rfl rfl) (nm_int h24)) ?_
 refine WPL.qq (q_add rfl rfl) ?_
 refine WPL.s (s_store sz3 rfl rfl rfl rfl rfl) ?_
 refine WPL.nx ?_
 refine WP.seq ?_
 refine WP.sr ?_
 refine WPL.qq (q_mv (v := .lit (.string _)) rfl) ?_
 refine WPL.qq (q_len_str Tryz.underlying9 rfl) ?_
 obtain ⟨x53, h25, H⟩ := bnd H
 refine WPL.qq (q_nm (q_gtr rfl rfl) (nm_bool h25)) ?_
 refine WPL.nx ?_
 refine WP.cond (t := x53) rfl (fun hb15 => ?_) (fun hb15 => ?_)
 · replace H := cnt hb15 H
   refine WP.sr ?_
   refine WPL.qq (q_build bu23 rfl) ?_
   refine WPL.s (s_store sz23 rfl rfl rfl rfl rfl) ?_
   refine WPL.qq (q_as (v := .lit (.int _ _)) rfl) ?_
   refine WPL.nx ?_
   refine WP.retW ?_
   obtain ⟨rfl, rfl, rfl⟩ := j3 H
   exact W.now (Then.r (BodyR.mkR ⟨.inr rfl, trivial⟩ rfl [0] ⟨rfl, rfl⟩ ⟨rfl, AA1, by decide, rfl, trivial⟩ rfl rfl))
 replace H := cnf hb15 H
 refine WP.skipW ?_
 refine W.now ?_
 refine Then.n ?_
 refine WP.sr ?_
 refine WPL.qq (q_build bu69 rfl) ?_
 refine WPL.d (d_alloc ze69 rfl) rfl ?_
 refine WPL.s (s_store sz69 rfl rfl rfl rfl rfl) ?_
 refine WPL.nx ?_
 refine WP.seq ?_
 refine WP.sr ?_
 refine WPL.qq (q_mv (v := .lit (.string _)) rfl) ?_
 obtain ⟨_, h26, H⟩ := bnd H
 refine WPL.c (runs_call (s := []) (t := [4]) (N := 5) (bor := []) fn90 rfl (s_dec_values k x51 h26) ⟨rfl, trivial, by decide, rfl, trivial⟩ rfl trivial (.ren rfl rfl .nil) rfl BB1 rfl) rfl ?_
 refine WPL.nx ?_
 refine WP.block ?_
 refine WP.range (nti := 18) (n := 5) rfl rfl Tryz.func138 rfl (by kernel_rfl) rfl rfl rfl rfl fun l_2 r_2 aC2 hp2 ha2 hb16 ht2 hs2 hf2 => ?_
 refine WP.sr ?_
 refine WPL.qq (q_load sc9 rfl rfl rfl) ?_
 refine WPL.qq (q_len_str Tryz.underlying9 rfl) ?_
 refine WPL.qq (q_mv (v := .lit (.int _ _)) rfl) ?_
 refine WPL.nx ?_
 refine WP.block ?_
 refine WP.cv (Cv.weak (E' := (((((⟨fun _ => .any, [], [⟨aC2, ((((((Env.none.upd 2 (.ptr 1 0)).upd 5 (.lit (.bool x5))).upd 9 (.ptr 2 0)).upd 15 (.ptr 3 0)).upd 109 (.fn 138 [.ptr 0 0]))).v, [4, 5], some (6, l_2)⟩], []⟩ : Env).upd 0 (.lit (.func (.yield l_2) #[] #[]))).upd 1 (.ptr 0 0)).upd 5 (.lit (.int .i64 ((ByteArray.size x51 : Nat) : Int)))).upd 6 (.lit (.int .i64 0)))) (M' := (((((((Mem.nil.push (.cells 9 [.lit (.string x51)])).push (.cells 23 [.lit (.int .i64 0), .lit (.int .i64 0)])).push (.cells 3 [.lit (.int .i64 (IntKind.wrap .i64 (x50 + x52)))])).push (.cells 69 [.lit (.int .u64 0), .lit (.int .u64 0)])).push (.obj (Obj.deferred (some [])))).push (.bag)).push (.obj (lp r_2 .ready none)))) [4, 0, 1, 3, 5, 2, 6] hnp ⟨rfl, AA7, by decide, rfl, trivial⟩ (LeE.u (LeE.u (LeE.u (LeE.u (LeE.noneD rfl rfl (.cons ⟨rfl, (LeV.upd rfl rfl (LeV.upd rfl rfl (LeV.upd rfl rfl (LeV.upd rfl rfl (LeV.upd rfl rfl LeV.none))))), rfl, rfl, rfl, rfl⟩ .nil))))))) ?_
 obtain ⟨⟨x54, x55⟩, H10, H⟩ := bnd H
 refine WP.monoW (Q := fun x E M => x = .exit 0 ∧ E = (⟨fun _ => .any, [], [⟨aC2, ((((((Env.none.upd 2 (.ptr 0 0)).upd 5 (.lit (.bool x5))).upd 9 (.ptr 1 0)).upd 15 (.ptr 2 0)).upd 109 (.fn 138 [.ptr 3 0]))).v, [4, 5], some (6, l_2)⟩], []⟩ : Env) ∧ M = (((((((Mem.nil.push (.cells 23 [.lit (.int .i64 0), .lit (.int .i64 0)])).push (.cells 3 [.lit (.int .i64 (IntKind.wrap .i64 (x50 + x52)))])).push (.cells 69 [.lit (.int .u64 x54), .lit (.int .u64 x55)])).push (.cells 9 [.lit (.string x51)])).push (.obj (Obj.deferred (some [])))).push (.bag)).push (.obj (lp r_2 .ready none)))) ?_ ?_
 · refine WP.loop (β := Int × Int × Int) (fun n b => g_dec_Parse_l1 k x51 n b.1 b.2.1 b.2.2 = some (x54, x55)) (fun b => (((((⟨fun _ => .any, [], [⟨aC2, ((((((Env.none.upd 2 (.ptr 1 0)).upd 5 (.lit (.bool x5))).upd 9 (.ptr 2 0)).upd 15 (.ptr 3 0)).upd 109 (.fn 138 [.ptr 0 0]))).v, [4, 5], some (6, l_2)⟩], []⟩ : Env).upd 0 (.lit (.func (.yield l_2) #[] #[]))).upd 1 (.ptr 0 0)).upd 5 (.lit (.int .i64 ((ByteArray.size x51 : Nat) : Int)))).upd 6 (.lit (.int .i64 b.1)))) (fun b => (((((((Mem.nil.push (.cells 9 [.lit (.string x51)])).push (.cells 23 [.lit (.int .i64 0), .lit (.int .i64 0)])).push (.cells 3 [.lit (.int .i64 (IntKind.wrap .i64 (x50 + x52)))])).push (.cells 69 [.lit (.int .u64 b.2.1), .lit (.int .u64 b.2.2)])).push (.obj (Obj.deferred (some [])))).push (.bag)).push (.obj (lp r_2 .ready none)))) k (0, 0, 0) H10 rfl rfl ?_
   rintro n ⟨x56, x57, x58⟩ H
   obtain _ | n := n
   · exact nf rfl H
   rw [g_dec_Parse_l1.eq_2] at H
   show WP _ _ _ _ (((((⟨fun _ => .any, [], [⟨aC2, ((((((Env.none.upd 2 (.ptr 1 0)).upd 5 (.lit (.bool x5))).upd 9 (.ptr 2 0)).upd 15 (.ptr 3 0)).upd 109 (.fn 138 [.ptr 0 0]))).v, [4, 5], some (6, l_2)⟩], []⟩ : Env).upd 0 (.lit (.func (.yield l_2) #[] #[]))).upd 1 (.ptr 0 0)).upd 5 (.lit (.int .i64 ((ByteArray.size x51 : Nat) : Int)))).upd 6 (.lit (.int .i64 x56))) (((((((Mem.nil.push (.cells 9 [.lit (.string x51)])).push (.cells 23 [.lit (.int .i64 0), .lit (.int .i64 0)])).push (.cells 3 [.lit (.int .i64 (IntKind.wrap .i64 (x50 + x52)))])).push (.cells 69 [.lit (.int .u64 x57), .lit (.int .u64 x58)])).push (.obj (Obj.deferred (some [])))).push (.bag)).push (.obj (lp r_2 .ready none))) _
   refine WP.sr ?_
   obtain ⟨x59, h27, H⟩ := bnd H
   refine WPL.qq (q_nm (q_lss rfl rfl) (nm_bool h27)) ?_
   refine WPL.nx ?_
   refine WP.seq ?_
   refine WP.cond (t := x59) rfl (fun hb17 => ?_) (fun hb17 => ?_)
   · replace H := cnt hb17 H
     refine WP.skipW ?_
     refine W.now ?_
     refine Then.n ?_
     refine WP.seq ?_
     refine WP.block ?_
     refine WP.sr ?_
     refine WPL.qq (q_mv (v := .lit (.int _ _)) rfl) ?_
     refine WPL.qq (q_as (v := .lit (.int _ _)) rfl) ?_
     refine WPL.nx ?_
     refine WP.sr ?_
     refine WPL.qq (q_mv (v := .lit _) rfl) ?_
     refine WPL.qq (q_load sc9 rfl rfl rfl) ?_
     refine WPL.qq (q_mv (v := .lit (.int _ _)) rfl) ?_
     obtain ⟨x60, h28, H⟩ := bnd H
     refine WPL.qq (q_index_str Tryz.underlying9 rfl rfl h28) ?_
     refine WPL.qq (q_sub rfl rfl) ?_
     obtain ⟨x61, h29, H⟩ := bnd H
     refine WPL.qq (q_nm (q_conv Tryz.underlying5 Tryz.underlying3 rfl) (nm_int h29)) ?_
     refine WPL.y rfl rfl rfl rfl hp2 ha2 hb16 ht2 hs2 hf2 rfl rfl rfl fun aI2 => ?_
     refine WP.region ?_
     refine WPL.qq (q_as (v := .lit (.int _ _)) rfl) ?_
     refine WPL.nilW ?_
     refine W.now ?_
     refine ⟨rfl, rfl, _, _, _, _, _, _, rfl, rfl, ?_⟩
     refine WP.block ?_
     refine WP.sr ?_
     refine WPL.qq (q_load_ag ag69 rfl rfl (Nat.le_of_ble_eq_true rfl)) ?_
     obtain ⟨⟨x62, x63⟩, h30, H⟩ := bnd H
     refine WPL.c (runs_call (s := []) (t := [7]) (N := 8) (bor := []) fn93 rfl (s_dec_wide_times k x57 x58 10 x62 x63 h30) ⟨rfl, trivial, by decide, rfl, trivial⟩ rfl trivial (.ren rfl rfl (.ren rfl rfl .nil)) rfl BB1 rfl) rfl ?_
     refine WPL.qq (q_mv (v := .tup _) rfl) ?_
     refine WPL.qq (q_extract rfl rfl) ?_
     refine WPL.qq (q_extract rfl rfl) ?_
     refine WPL.s (s_store sz69 rfl rfl rfl rfl rfl) ?_
     refine WPL.nx ?_
     refine WP.region ?_
     refine WPL.qq (q_load_ag ag69 rfl rfl (Nat.le_of_ble_eq_true rfl)) ?_
     refine WPL.qq (q_mv (v := .lit (.int _ _)) rfl) ?_
     refine WPL.qq (q_conv Tryz.underlying3 Tryz.underlying67 rfl) ?_
     refine WPL.qq (q_build bu69 rfl) ?_
     obtain ⟨x64, h31, H⟩ := bnd H
     refine WPL.c (runs_call (s := []) (t := [8]) (N := 9) (bor := []) fn94 rfl (s_dec_wide_plus k x63 (IntKind.wrap .u64 (x58 * 10)) 0 (IntKind.wrap .u64 x61) x64 h31) ⟨rfl, trivial, by decide, rfl, trivial⟩ rfl trivial (.ren rfl rfl (.ren rfl rfl .nil)) rfl BB1 rfl) rfl ?_
     refine WPL.qq (q_mv (v := .tup _) rfl) ?_
     refine WPL.qq (q_extract rfl rfl) ?_
     refine WPL.qq (q_extract rfl rfl) ?_
     refine WPL.s (s_store sz69 rfl rfl rfl rfl rfl) ?_
     refine WPL.nilW ?_
     refine W.now ?_
     refine InBlock.n ?_
     refine ⟨rfl, _, _, _, _, _, _, rfl, rfl, _, rfl, ?_⟩
     refine WPL.qq (q_not rfl) ?_
     refine WPL.nx ?_
     refine WP.condFB (t := (!true)) rfl rfl ?_
     refine WP.skipW ?_
     refine W.now ?_
     refine InBlock.n ?_
     refine Then.n ?_
     refine WP.region ?_
     refine WPL.qq (q_add rfl rfl) ?_
     refine WPL.qq (q_mv (v := .lit (.int _ _)) rfl) ?_
     refine WPL.nilW ?_
     exact W.wk [0, 1, 2, 3, 4, 5, 6] hnp (Then.n ⟨n, ((IntKind.wrap .i64 (x56 + 1)), (add64 x63 0 ((add64 (IntKind.wrap .u64 (x58 * 10)) (IntKind.wrap .u64 x61) 0).2)).1, (add64 (IntKind.wrap .u64 (x58 * 10)) (IntKind.wrap .u64 x61) 0).1), Nat.lt_succ_self n, H, rfl, rfl⟩) ⟨rfl, AA7, by decide, rfl, trivial⟩ (LeE.u (LeE.u (LeE.u (LeE.u (LeE.noneD rfl rfl (.cons ⟨rfl, (LeV.upd rfl rfl (LeV.upd rfl rfl (LeV.upd rfl rfl (LeV.upd rfl rfl (LeV.upd rfl rfl LeV.none))))), rfl, rfl, rfl, rfl⟩ .nil)))))) rfl
   replace H := cnf hb17 H
   refine WP.exitW ?_
   obtain ⟨rfl, rfl⟩ := j2 H
   exact W.wk [1, 2, 3, 0, 4, 5, 6] hnp (Then.x (Then.x r3)) ⟨rfl, AA7, by decide, rfl, trivial⟩ (LeE.noneD rfl rfl (.cons ⟨rfl, (LeV.upd rfl rfl (LeV.upd rfl rfl (LeV.upd rfl rfl (LeV.upd rfl rfl (LeV.upd rfl rfl LeV.none))))), rfl, rfl, rfl, rfl⟩ .nil)) rfl
 rintro _ _ _ ⟨rfl, rfl, rfl⟩
 refine W.now ?_
 refine InBlock.x0 ?_
 refine ⟨trivial, _, _, _, _, rfl, _, _, rfl, (fun h => by cases h), ?_⟩
 refine W.cv (Cv.absorb (N := 7) (j := 4) (i := 5) rfl rfl rfl rfl) rfl ?_
 refine W.now ?_
 refine InBlock.n ?_
 refine Then.n ?_
 refine WP.sr ?_
 refine WPL.qq (q_mv (v := .lit (.bool _)) rfl) ?_
 refine WPL.qq (q_load_ag ag69 rfl rfl (Nat.le_of_ble_eq_true rfl)) ?_
 refine WPL.qq (q_load sc3 rfl rfl rfl) ?_
 refine WPL.qq (q_build bu71 rfl) ?_
 obtain ⟨⟨x65, x66, x67⟩, h32, H⟩ := bnd H
 refine WPL.c (runs_call (s := []) (t := [8]) (N := 9) (bor := []) fn82 rfl (s_dec_num_tell k x5 x54 x55 (IntKind.wrap .i64 (x50 + x52)) x65 x66 x67 h32) ⟨rfl, trivial, by decide, rfl, trivial⟩ rfl trivial (.ren rfl rfl .nil) rfl BB1 rfl) rfl ?_
 refine WPL.qq (q_extract rfl rfl) ?_
 refine WPL.qq (q_extract rfl rfl) ?_
 refine WPL.s (s_store sz23 rfl rfl rfl rfl rfl) ?_
 refine WPL.qq (q_as (v := .lit (.int _ _)) rfl) ?_
 refine WPL.nx ?_
 refine WP.retW ?_
 obtain ⟨rfl, rfl, rfl⟩ := j3 H
 exact W.now (BodyR.mkR ⟨.inr rfl, trivial⟩ rfl [0] ⟨rfl, rfl⟩ ⟨rfl, AA1, by decide, rfl, trivial⟩ rfl rfl)
end Go.Proofs.YthpcgknknpjpdaaGreatDoor.W
namespace Go.Proofs.YthpcgknknpjpdaaGreatDoor.W
open Go Go.Q Go.Proofs
set_option linter.unusedVariables false
set_option linter.unusedSimpArgs false
set_option maxRecDepth 100000
set_option maxHeartbeats 4000000
theorem s_val_Truth (k : Nat) (x1 : Bool) (H : g_val_Truth k x1 = some ()) : Go.Q.Spec Tryz.prog 21 0 [.lit (.bool x1)] Mem.nil (fun o M => o = .ret (.agg [.lit (.int .i64 3), .lit (.int .i64 0), .lit (.int .i64 0), .lit (.string (ByteArray.mk #[])), .lit (.bool x1), .lit (.int .i64 0)]) ∧ M = (Mem.nil.push (.cells 29 [.lit (.int .i64 3), .lit (.int .i64 0), .lit (.int .i64 0), .lit (.string (ByteArray.mk #[])), .lit (.bool x1), .lit (.int .i64 0)]))) := by
 unfold g_val_Truth at H
 refine Go.Q.Spec.of_bodyR (az := [(29, 6)]) (rs := [.cell 2 29]) (nt := 5) Tryz.func21 rfl rfl (by intro t T h; simp at h; rcases h with ⟨rfl, rfl⟩ <;> first | exact ag29) rfl rfl fun cx hnp => ?_
 refine WP.sr ?_
 refine WPL.d (d_alloc ze29 rfl) rfl ?_
 refine WPL.nx ?_
 refine WP.sr ?_
 refine WPL.qq (q_mv (v := .lit (.bool _)) rfl) ?_
 refine WPL.qq (q_build bu29 rfl) ?_
 refine WPL.s (s_store sz29 rfl rfl rfl rfl rfl) ?_
 refine WPL.nx ?_
 refine WP.retW ?_
 exact W.now (BodyR.mkR trivial rfl [0] ⟨rfl, rfl⟩ ⟨rfl, AA1, by decide, rfl, trivial⟩ rfl rfl)
theorem s_sl_TrimPrefix (k : Nat) (x1 : ByteArray) (x2 : ByteArray) (x3 : ByteArray) (H : g_sl_TrimPrefix k x1 x2 = some x3) : Go.Q.Spec Tryz.prog 95 0 [.lit (.string x1), .lit (.string x2)] Mem.nil (fun o M => o = .ret (.lit (.string x3)) ∧ M = Mem.nil) := by
 unfold g_sl_TrimPrefix at H
 refine Go.Q.Spec.of_bodyR (az := []) (rs := [.tmp 4]) (nt := 13) Tryz.func95 rfl rfl (by intro t T h; simp at h) rfl rfl fun cx hnp => ?_
 refine WP.sr ?_
 refine WPL.qq (q_as (v := .lit (.string _)) rfl) ?_
 refine WPL.nx ?_
 refine WP.seq ?_
 refine WP.sr ?_
 refine WPL.qq (q_mv (v := .lit (.string _)) rfl) ?_
 refine WPL.qq (q_mv (v := .lit (.string _)) rfl) ?_
 obtain ⟨x4, h1, H⟩ := bnd H
 refine WPL.c (runs_call (s := []) (t := []) (N := 0) (bor := []) fn140 rfl (s_sl_HasPrefix k x1 x2 x4 h1) ⟨rfl, trivial, by decide, rfl, trivial⟩ rfl trivial (.ren rfl rfl (.ren rfl rfl .nil)) rfl trivial rfl) rfl ?_
 refine WPL.nx ?_
 refine WP.cond (t := x4) rfl (fun hb1 => ?_) (fun hb1 => ?_)
 · replace H := cnt hb1 H
   refine WP.sr ?_
   refine WPL.qq (q_mv (v := .lit (.string _)) rfl) ?_
   refine WPL.qq (q_mv (v := .lit (.string _)) rfl) ?_
   refine WPL.qq (q_len_str Tryz.underlying9 rfl) ?_
   obtain ⟨h2, H⟩ := grd H
   obtain ⟨x5, h3, H⟩ := bnd H
   refine WPL.qq (q_nm (q_slice_str (i := ((ByteArray.size x2 : Nat) : Int)) (j := ((ByteArray.size x1 : Nat) : Int)) Tryz.underlying9 rfl ⟨_, rfl⟩ rfl h2) (nm_str h3)) ?_
   refine WPL.qq (q_as (v := .lit (.string _)) rfl) ?_
   refine WPL.nx ?_
   refine WP.retW ?_
   have q0 := j1 H
   subst q0
   exact W.now (Then.r (BodyR.mkR trivial rfl [] ⟨rfl, rfl⟩ ⟨rfl, trivial, by decide, rfl, trivial⟩ rfl rfl))
 replace H := cnf hb1 H
 refine WP.skipW ?_
 refine W.now ?_
 refine Then.n ?_
 refine WP.sr ?_
 refine WPL.qq (q_mv (v := .lit (.string _)) rfl) ?_
 refine WPL.qq (q_as (v := .lit (.string _)) rfl) ?_
 refine WPL.nx ?_
 refine WP.retW ?_
 have q0 := j1 H
 subst q0
 exact W.now (BodyR.mkR trivial rfl [] ⟨rfl, rfl⟩ ⟨rfl, trivial, by decide, rfl, trivial⟩ rfl rfl)
theorem s_st_TrimPrefix (k : Nat) (x1 : ByteArray) (x2 : ByteArray) (x3 : ByteArray) (H : g_st_TrimPrefix k x1 x2 = some x3) : Go.Q.Spec Tryz.prog 50 0 [.lit (.string x1), .lit (.string x2)] Mem.nil (fun o M => o = .ret (.lit (.string x3)) ∧ M = Mem.nil) := by
 unfold g_st_TrimPrefix at H
 refine Go.Q.Spec.of_bodyR (az := []) (rs := [.tmp 4]) (nt := 8) Tryz.func50 rfl rfl (by intro t T h; simp at h) rfl rfl fun cx hnp => ?_
 refine WP.sr ?_
 refine WPL.qq (q_as (v := .lit (.string _)) rfl) ?_
 refine WPL.nx ?_
 refine WP.sr ?_
 refine WPL.qq (q_mv (v := .lit (.string _)) rfl) ?_
 refine WPL.qq (q_mv (v := .lit (.string _)) rfl) ?_
 obtain ⟨x4, h1, H⟩ := bnd H
 refine WPL.c (runs_call (s := []) (t := []) (N := 0) (bor := []) fn95 rfl (s_sl_TrimPrefix k x1 x2 x4 h1) ⟨rfl, trivial, by decide, rfl, trivial⟩ rfl trivial (.ren rfl rfl (.ren rfl rfl .nil)) rfl trivial rfl) rfl ?_
 refine WPL.qq (q_as (v := .lit (.string _)) rfl) ?_
 refine WPL.nx ?_
 refine WP.retW ?_
 have q0 := j1 H
 subst q0
 exact W.now (BodyR.mkR trivial rfl [] ⟨rfl, rfl⟩ ⟨rfl, trivial, by decide, rfl, trivial⟩ rfl rfl)
theorem s_val_Typed (k : Nat) (x1 : ByteArray) (x2 : Int) (x3 : Int) (x4 : Int) (x5 : ByteArray) (x6 : Bool) (x7 : Int) (H : g_val_Typed k x1 = some (x2, x3, x4, x5, x6, x7)) : Go.Q.Spec Tryz.prog 19 0 [.lit (.string x1)] Mem.nil (fun o M => o = .ret (.agg [.lit (.int .i64 x2), .lit (.int .i64 x3), .lit (.int .i64 x4), .lit (.string x5), .lit (.bool x6), .lit (.int .i64 x7)]) ∧ M = (Mem.nil.push (.cells 29 [.lit (.int .i64 x2), .lit (.int .i64 x3), .lit (.int .i64 x4), .lit (.string x5), .lit (.bool x6), .lit (.int .i64 x7)]))) := by
 unfold g_val_Typed at H
 refine Go.Q.Spec.of_bodyR (az := [(29, 6)]) (rs := [.cell 2 29]) (nt := 44) Tryz.func19 rfl rfl (by intro t T h; simp at h; rcases h with ⟨rfl, rfl⟩ <;> first | exact ag29) rfl rfl fun cx hnp => ?_
 refine WP.sr ?_
 refine WPL.d (d_alloc ze29 rfl) rfl ?_
 refine WPL.nx ?_
 refine WP.sr ?_
 refine WPL.qq (q_mv (v := .lit (.string _)) rfl) ?_
 obtain ⟨⟨x8, x9⟩, h1, H⟩ := bnd H
 refine WPL.c (runs_call (s := []) (t := []) (N := 1) (bor := []) fn9 rfl (s_val_ErrCode k x1 x8 x9 h1) ⟨rfl, trivial, by decide, rfl, trivial⟩ rfl trivial (.ren rfl rfl .nil) rfl trivial rfl) rfl ?_
 refine WPL.qq (q_mv (v := .tup _) rfl) ?_
 refine WPL.qq (q_extract rfl rfl) ?_
 refine WPL.qq (q_extract rfl rfl) ?_
 refine WPL.qq (q_as (v := .lit (.int _ _)) rfl) ?_
 refine WPL.qq (q_as (v := .lit (.bool _)) rfl) ?_
 refine WPL.nx ?_
 refine WP.sr ?_
 refine WPL.qq (q_mv (v := .lit (.string _)) rfl) ?_
 obtain ⟨⟨x10, x11, x12⟩, h2, H⟩ := bnd H
 refine WPL.c (runs_call (s := []) (t := [1]) (N := 2) (bor := []) fn49 rfl (s_dec_Parse k x1 x10 x11 x12 h2) ⟨rfl, trivial, by decide, rfl, trivial⟩ rfl trivial (.ren rfl rfl .nil) rfl BB1 rfl) rfl ?_
 refine WPL.qq (q_mv (v := .tup _) rfl) ?_
 refine WPL.qq (q_extract rfl rfl) ?_
 refine WPL.qq (q_extract rfl rfl) ?_
 refine WPL.d (d_alloc ze23 rfl) rfl ?_
 refine WPL.s (s_store sz23 rfl rfl rfl rfl rfl) ?_
 refine WPL.qq (q_as (v := .lit (.int _ _)) rfl) ?_
 refine WPL.nx ?_
 refine WP.seq ?_
 refine WP.block ?_
 refine WP.sr ?_
 refine WPL.qq (q_mv (v := .lit (.string _)) rfl) ?_
 obtain ⟨x13, h3, H⟩ := bnd H
 refine WPL.qq (q_nm (q_eqls rfl rfl) (nm_bool h3)) ?_
 refine WPL.qq (q_as (v := .lit (.bool _)) rfl) ?_
 refine WPL.nx ?_
 refine WP.cond (t := x13) rfl (fun hb1 => ?_) (fun hb1 => ?_)
 · replace H := cnt hb1 H
   refine WP.sr ?_
   refine WPL.qq (q_build bu29 rfl) ?_
   refine WPL.s (s_store sz29 rfl rfl rfl rfl rfl) ?_
   refine WPL.nx ?_
   refine WP.retW ?_
   obtain ⟨rfl, rfl, rfl, rfl, rfl, rfl⟩ := j6 H
   exact W.now (InBlock.r (Then.r (BodyR.mkR trivial rfl [0] ⟨rfl, rfl⟩ ⟨rfl, AA1, by decide, rfl, trivial⟩ rfl rfl)))
 replace H := cnf hb1 H
 refine WP.seq ?_
 obtain ⟨x14, H1, H⟩ := bnd H
 refine WP.monoW (Q := fun x E M => x = .normal ∧ E = (((((((Env.none.upd 0 (.lit (.string x1))).upd 2 (.ptr 0 0)).upd 3 (.lit (.int .i64 x8))).upd 4 (.lit (.bool x9))).upd 5 (.ptr 1 0)).upd 6 (.lit (.int .i64 x10))).upd 21 (.lit (.bool x14))) ∧ M = ((Mem.nil.push (.cells 29 [.lit (.int .i64 0), .lit (.int .i64 0), .lit (.int .i64 0), .lit (.string (ByteArray.mk #[])), .lit (.bool false), .lit (.int .i64 0)])).push (.cells 23 [.lit (.int .i64 x11), .lit (.int .i64 x12)]))) ?_ ?_
 · clear H
   have H := H1
   clear H1
   refine WP.region ?_
   refine WPL.qq (q_mv (v := .lit (.string _)) rfl) ?_
   obtain ⟨x15, h4, H⟩ := bnd H
   refine WPL.qq (q_nm (q_eqls rfl rfl) (nm_bool h4)) ?_
   refine WPL.qq (q_mv (v := .lit (.bool _)) rfl) ?_
   refine WPL.split (t := 24) (b := x15) rfl (fun hb2 => ?_) (fun hb2 => ?_)
   · replace H := cnt hb2 H
     refine WPL.sg true rfl (lb hb2) ?_
     refine WPL.sg true rfl (lb hb2) ?_
     refine WPL.qq (q_pickT (v := .lit (.bool _)) (lb hb2) rfl) ?_
     refine WPL.qq (q_as (v := .lit (.bool _)) rfl) ?_
     refine WPL.nilW ?_
     have q0 := j1 H
     subst q0
     exact W.wk [0, 2] hnp r3 ⟨rfl, AA2, by decide, rfl, trivial⟩ (LeE.u (LeE.u (LeE.u (LeE.u (LeE.u (LeE.u (LeE.u (LeE.none rfl rfl)))))))) rfl
   replace H := cnf hb2 H
   refine WPL.gq rfl (lb hb2) (q_mv (v := .lit (.string _)) rfl) ?_
   obtain ⟨x16, h5, H⟩ := bnd H
   refine WPL.gq rfl (lb hb2) (q_nm (q_eqls rfl rfl) (nm_bool h5)) ?_
   refine WPL.qq (q_pickF (v := .lit (.bool _)) (lb hb2) rfl) ?_
   refine WPL.qq (q_as (v := .lit (.bool _)) rfl) ?_
   refine WPL.nilW ?_
   have q0 := j1 H
   subst q0
   exact W.wk [0, 2] hnp r3 ⟨rfl, AA2, by decide, rfl, trivial⟩ (LeE.u (LeE.u (LeE.u (LeE.u (LeE.u (LeE.u (LeE.u (LeE.none rfl rfl)))))))) rfl
 rintro _ _ _ ⟨rfl, rfl, rfl⟩
 refine W.now ?_
 refine Then.n ?_
 refine WP.cond (t := x14) rfl (fun hb3 => ?_) (fun hb3 => ?_)
 · replace H := cnt hb3 H
   refine WP.sr ?_
   refine WPL.qq (q_mv (v := .lit (.string _)) rfl) ?_
   obtain ⟨x17, h6, H⟩ := bnd H
   refine WPL.qq (q_nm (q_eqls rfl rfl) (nm_bool h6)) ?_
   obtain ⟨_, h6, H⟩ := bnd H
   refine WPL.c (runs_call (s := []) (t := [2]) (N := 3) (bor := []) fn21 rfl (s_val_Truth k x17 h6) ⟨rfl, trivial, by decide, rfl, trivial⟩ rfl trivial (.ren rfl rfl .nil) rfl BB1 rfl) rfl ?_
   refine WPL.s (s_store sz29 rfl rfl rfl rfl rfl) ?_
   refine WPL.nx ?_
   refine WP.retW ?_
   obtain ⟨rfl, rfl, rfl, rfl, rfl, rfl⟩ := j6 H
   exact W.now (InBlock.r (Then.r (BodyR.mkR trivial rfl [0] ⟨rfl, rfl⟩ ⟨rfl, AA1, by decide, rfl, trivial⟩ rfl rfl)))
 replace H := cnf hb3 H
 refine WP.sr ?_
 refine WPL.qq (q_mv (v := .lit (.bool _)) rfl) ?_
 refine WPL.qq (q_as (v := .lit (.bool _)) rfl) ?_
 refine WPL.nx ?_
 refine WP.cond (t := x9) rfl (fun hb4 => ?_) (fun hb4 => ?_)
 · replace H := cnt hb4 H
   refine WP.sr ?_
   refine WPL.qq (q_mv (v := .lit (.int _ _)) rfl) ?_
   obtain ⟨x18, h7, H⟩ := bnd H
   refine WPL.c (runs_call (s := []) (t := [2]) (N := 3) (bor := []) fn16 rfl (s_val_Err k x8 x18 h7) ⟨rfl, trivial, by decide, rfl, trivial⟩ rfl trivial (.ren rfl rfl .nil) rfl BB1 rfl) rfl ?_
   refine WPL.s (s_store sz29 rfl rfl rfl rfl rfl) ?_
   refine WPL.nx ?_
   refine WP.retW ?_
   obtain ⟨rfl, rfl, rfl, rfl, rfl, rfl⟩ := j6 H
   exact W.now (InBlock.r (Then.r (BodyR.mkR trivial rfl [0] ⟨rfl, rfl⟩ ⟨rfl, AA1, by decide, rfl, trivial⟩ rfl rfl)))
 replace H := cnf hb4 H
 refine WP.sr ?_
 refine WPL.qq (q_mv (v := .lit (.int _ _)) rfl) ?_
 refine WPL.qq (q_eql rfl rfl) ?_
 refine WPL.qq (q_as (v := .lit (.bool _)) rfl) ?_
 refine WPL.nx ?_
 refine WP.cond (t := (decide (x10 = 0))) rfl (fun hb5 => ?_) (fun hb5 => ?_)
 · replace H := cnt hb5 H
   refine WP.sr ?_
   refine WPL.qq (q_load_ag ag23 rfl rfl (Nat.le_of_ble_eq_true rfl)) ?_
   refine WPL.qq (q_mv (v := .lit (.int _ _)) rfl) ?_
   obtain ⟨⟨x19, x20, x21, x22⟩, h8, H⟩ := bnd H
   refine WPL.c (runs_call (s := []) (t := [2]) (N := 3) (bor := []) fn12 rfl (s_val_Of k x11 x12 x10 x19 x20 x21 x22 h8) ⟨rfl, trivial, by decide, rfl, trivial⟩ rfl trivial (.ren rfl rfl (.ren rfl rfl .nil)) rfl BB1 rfl) rfl ?_
   refine WPL.s (s_store sz29 rfl rfl rfl rfl rfl) ?_
   refine WPL.nx ?_
   refine WP.retW ?_
   obtain ⟨rfl, rfl, rfl, rfl, rfl, rfl⟩ := j6 H
   exact W.now (InBlock.r (Then.r (BodyR.mkR trivial rfl [0] ⟨rfl, rfl⟩ ⟨rfl, AA1, by decide, rfl, trivial⟩ rfl rfl)))
 replace H := cnf hb5 H
 refine WP.skipW ?_
 refine W.now ?_
 refine InBlock.n ?_
 refine Then.n ?_
 refine WP.sr ?_
 refine WPL.qq (q_mv (v := .lit (.string _)) rfl) ?_
 obtain ⟨x23, h9, H⟩ := bnd H
 refine WPL.c (runs_call (s := []) (t := []) (N := 2) (bor := []) fn50 rfl (s_st_TrimPrefix k x1 (ByteArray.mk #[39]) x23 h9) ⟨rfl, trivial, by decide, rfl, trivial⟩ rfl trivial (.ren rfl rfl (.ren rfl rfl .nil)) rfl trivial rfl) rfl ?_
 obtain ⟨⟨x24, x25, x26⟩, h10, H⟩ := bnd H
 refine WPL.c (runs_call (s := []) (t := [2]) (N := 3) (bor := []) fn14 rfl (s_val_Str k x23 x24 x25 x26 h10) ⟨rfl, trivial, by decide, rfl, trivial⟩ rfl trivial (.ren rfl rfl .nil) rfl BB1 rfl) rfl ?_
 refine WPL.s (s_store sz29 rfl rfl rfl rfl rfl) ?_
 refine WPL.nx ?_
 refine WP.retW ?_
 obtain ⟨rfl, rfl, rfl, rfl, rfl, rfl⟩ := j6 H
 exact W.now (BodyR.mkR trivial rfl [0] ⟨rfl, rfl⟩ ⟨rfl, AA1, by decide, rfl, trivial⟩ rfl rfl)
theorem s_rv_Truth (k : Nat) (x1 : Bool) (H : g_rv_Truth k x1 = some ()) : Go.Q.Spec Tryz.prog 22 0 [.lit (.bool x1)] Mem.nil (fun o M => o = .ret (.agg [.lit (.int .i64 3), .lit (.int .i64 0), .lit (.int .i64 0), .lit (.string (ByteArray.mk #[])), .lit (.bool x1), .lit (.int .i64 0)]) ∧ M = (Mem.nil.push (.cells 29 [.lit (.int .i64 3), .lit (.int .i64 0), .lit (.int .i64 0), .lit (.string (ByteArray.mk #[])), .lit (.bool x1), .lit (.int .i64 0)]))) := by
 unfold g_rv_Truth at H
 refine Go.Q.Spec.of_bodyR (az := [(29, 6)]) (rs := [.cell 2 29]) (nt := 5) Tryz.func22 rfl rfl (by intro t T h; simp at h; rcases h with ⟨rfl, rfl⟩ <;> first | exact ag29) rfl rfl fun cx hnp => ?_
 refine WP.sr ?_
 refine WPL.d (d_alloc ze29 rfl) rfl ?_
 refine WPL.nx ?_
 refine WP.sr ?_
 refine WPL.qq (q_mv (v := .lit (.bool _)) rfl) ?_
 refine WPL.qq (q_build bu29 rfl) ?_
 refine WPL.s (s_store sz29 rfl rfl rfl rfl rfl) ?_
 refine WPL.nx ?_
 refine WP.retW ?_
 exact W.now (BodyR.mkR trivial rfl [0] ⟨rfl, rfl⟩ ⟨rfl, AA1, by decide, rfl, trivial⟩ rfl rfl)
theorem s_r9_digit (k : Nat) (x1 : Int) (x2 : Bool) (H : g_r9_digit k x1 = some x2) : Go.Q.Spec Tryz.prog 96 0 [.lit (.int .u8 x1)] Mem.nil (fun o M => o = .ret (.lit (.bool x2)) ∧ M = Mem.nil) := by
 unfold g_r9_digit at H
 refine Go.Q.Spec.of_bodyR (az := []) (rs := [.tmp 2]) (nt := 9) Tryz.func96 rfl rfl (by intro t T h; simp at h) rfl rfl fun cx hnp => ?_
 refine WP.sr ?_
 refine WPL.qq (q_as (v := .lit (.bool _)) rfl) ?_
 refine WPL.nx ?_
 refine WP.seq ?_
 obtain ⟨x3, H1, H⟩ := bnd H
 refine WP.monoW (Q := fun x E M => x = .normal ∧ E = (Env.none.upd 2 (.lit (.bool x3))) ∧ M = Mem.nil) ?_ ?_
 · clear H
   have H := H1
   clear H1
   refine WP.region ?_
   refine WPL.qq (q_mv (v := .lit (.int _ _)) rfl) ?_
   refine WPL.qq (q_geq rfl rfl) ?_
   refine WPL.qq (q_mv (v := .lit (.bool _)) rfl) ?_
   refine WPL.split (t := 5) (b := (decide (48 ≤ x1))) rfl (fun hb1 => ?_) (fun hb1 => ?_)
   · replace H := cnt hb1 H
     refine WPL.gq rfl (lb hb1) (q_mv (v := .lit (.int _ _)) rfl) ?_
     refine WPL.gq rfl (lb hb1) (q_leq rfl rfl) ?_
     refine WPL.qq (q_pickT (v := .lit (.bool _)) (lb hb1) rfl) ?_
     refine WPL.qq (q_as (v := .lit (.bool _)) rfl) ?_
     refine WPL.nilW ?_
     have q0 := j1 H
     subst q0
     exact W.wk [] hnp r3 ⟨rfl, trivial, by decide, rfl, trivial⟩ (LeE.u (LeE.none rfl rfl)) rfl
   replace H := cnf hb1 H
   refine WPL.sg false rfl (lb hb1) ?_
   refine WPL.sg false rfl (lb hb1) ?_
   refine WPL.qq (q_pickF (v := .lit (.bool _)) (lb hb1) rfl) ?_
   refine WPL.qq (q_as (v := .lit (.bool _)) rfl) ?_
   refine WPL.nilW ?_
   have q0 := j1 H
   subst q0
   exact W.wk [] hnp r3 ⟨rfl, trivial, by decide, rfl, trivial⟩ (LeE.u (LeE.none rfl rfl)) rfl
 rintro _ _ _ ⟨rfl, rfl, rfl⟩
 refine W.now ?_
 refine Then.n ?_
 refine WP.retW ?_
 have q0 := j1 H
 subst q0
 exact W.now (BodyR.mkR trivial rfl [] ⟨rfl, rfl⟩ ⟨rfl, trivial, by decide, rfl, trivial⟩ rfl rfl)
theorem s_r9_Parse (k : Nat) (x1 : ByteArray) (x2 : Int) (x3 : Int) (x4 : Int) (H : g_r9_Parse k x1 = some (x2, x3, x4)) : Go.Q.Spec Tryz.prog 51 0 [.lit (.string x1)] Mem.nil (fun o M => o = .ret (.tup [.agg [.lit (.int .i64 x3), .lit (.int .i64 x4)], .lit (.int .i64 x2)]) ∧ M = (Mem.nil.push (.cells 23 [.lit (.int .i64 x3), .lit (.int .i64 x4)]))) := by
 unfold g_r9_Parse at H
 refine Go.Q.Spec.of_bodyR (az := [(23, 2)]) (rs := [.cell 2 23, .tmp 3]) (nt := 210) Tryz.func51 rfl rfl (by intro t T h; simp at h; rcases h with ⟨rfl, rfl⟩ <;> first | exact ag23) rfl rfl fun cx hnp => ?_
 refine WP.sr ?_
 refine WPL.d (d_alloc ze23 rfl) rfl ?_
 refine WPL.qq (q_as (v := .lit (.int _ _)) rfl) ?_
 refine WPL.nx ?_
 refine WP.seq ?_
 refine WP.sr ?_
 refine WPL.qq (q_mv (v := .lit (.string _)) rfl) ?_
 refine WPL.qq (q_len_str Tryz.underlying9 rfl) ?_
 obtain ⟨x5, h1, H⟩ := bnd H
 refine WPL.qq (q_nm (q_gtr rfl rfl) (nm_bool h1)) ?_
 refine WPL.nx ?_
 refine WP.cond (t := x5) rfl (fun hb1 => ?_) (fun hb1 => ?_)
 · replace H := cnt hb1 H
   refine WP.sr ?_
   refine WPL.qq (q_build bu23 rfl) ?_
   refine WPL.s (s_store sz23 rfl rfl rfl rfl rfl) ?_
   refine WPL.qq (q_as (v := .lit (.int _ _)) rfl) ?_
   refine WPL.nx ?_
   refine WP.retW ?_
   obtain ⟨rfl, rfl, rfl⟩ := j3 H
   exact W.now (Then.r (BodyR.mkR trivial rfl [0] ⟨rfl, rfl⟩ ⟨rfl, AA1, by decide, rfl, trivial⟩ rfl rfl))
 replace H := cnf hb1 H
 refine WP.skipW ?_
 refine W.now ?_
 refine Then.n ?_
 refine WP.sr ?_
 refine WPL.qq (q_build bu81 rfl) ?_
 refine WPL.d (d_alloc ze81 rfl) rfl ?_
 refine WPL.s (s_store sz81 rfl rfl rfl rfl rfl) ?_
 refine WPL.nx ?_
 refine WP.sr ?_
 refine WPL.qq (q_as (v := .lit (.int _ _)) rfl) ?_
 refine WPL.nx ?_
 refine WP.seq ?_
 obtain ⟨x6, H1, H⟩ := bnd H
 refine WP.monoW (Q := fun x E M => x = .normal ∧ E = (((((Env.none.upd 0 (.lit (.string x1))).upd 2 (.ptr 0 0)).upd 4 (.ptr 1 0)).upd 5 (.lit (.int .i64 0))).upd 6 (.lit (.bool x6))) ∧ M = ((Mem.nil.push (.cells 23 [.lit (.int .i64 0), .lit (.int .i64 0)])).push (.cells 81 [.lit (.bool false), .lit (.slice none 0 0), .lit (.int .i64 0)]))) ?_ ?_
 · clear H
   have H := H1
   clear H1
   refine WP.region ?_
   refine WPL.qq (q_mv (v := .lit (.string _)) rfl) ?_
   refine WPL.qq (q_len_str Tryz.underlying9 rfl) ?_
   obtain ⟨x7, h2, H⟩ := bnd H
   refine WPL.qq (q_nm (q_gtr rfl rfl) (nm_bool h2)) ?_
   refine WPL.qq (q_mv (v := .lit (.bool _)) rfl) ?_
   refine WPL.split (t := 20) (b := x7) rfl (fun hb2 => ?_) (fun hb2 => ?_)
   · replace H := cnt hb2 H
     refine WPL.gq rfl (lb hb2) (q_mv (v := .lit (.string _)) rfl) ?_
     obtain ⟨x8, h3, H⟩ := bnd H
     refine WPL.gq rfl (lb hb2) (q_index_str Tryz.underlying9 rfl rfl h3) ?_
     refine WPL.gq rfl (lb hb2) (q_eql rfl rfl) ?_
     refine WPL.qq (q_pickT (v := .lit (.bool _)) (lb hb2) rfl) ?_
     refine WPL.qq (q_as (v := .lit (.bool _)) rfl) ?_
     refine WPL.nilW ?_
     have q0 := j1 H
     subst q0
     exact W.wk [0, 1] hnp r3 ⟨rfl, AA2, by decide, rfl, trivial⟩ (LeE.u (LeE.u (LeE.u (LeE.u (LeE.u (LeE.none rfl rfl)))))) rfl
   replace H := cnf hb2 H
   refine WPL.sg false rfl (lb hb2) ?_
   refine WPL.sg false rfl (lb hb2) ?_
   refine WPL.sg false rfl (lb hb2) ?_
   refine WPL.qq (q_pickF (v := .lit (.bool _)) (lb hb2) rfl) ?_
   refine WPL.qq (q_as (v := .lit (.bool _)) rfl) ?_
   refine WPL.nilW ?_
   have q0 := j1 H
   subst q0
   exact W.wk [0, 1] hnp r3 ⟨rfl, AA2, by decide, rfl, trivial⟩ (LeE.u (LeE.u (LeE.u (LeE.u (LeE.u (LeE.none rfl rfl)))))) rfl
 rintro _ _ _ ⟨rfl, rfl, rfl⟩
 refine W.now ?_
 refine Then.n ?_
 refine WP.seq ?_
 obtain ⟨x9, H2, H⟩ := bnd H
 refine WP.monoW (Q := fun x E M => x = .normal ∧ E = (((((Env.none.upd 0 (.lit (.string x1))).upd 2 (.ptr 0 0)).upd 4 (.ptr 1 0)).upd 5 (.lit (.int .i64 x9))).upd 6 (.lit (.bool x6))) ∧ M = ((Mem.nil.push (.cells 23 [.lit (.int .i64 0), .lit (.int .i64 0)])).push (.cells 81 [.lit (.bool false), .lit (.slice none 0 0), .lit (.int .i64 0)]))) ?_ ?_
 · clear H
   have H := H2
   clear H2
   refine WP.sr ?_
   refine WPL.qq (q_mv (v := .lit (.bool _)) rfl) ?_
   refine WPL.nx ?_
   refine WP.cond (t := x6) rfl (fun hb3 => ?_) (fun hb3 => ?_)
   · replace H := cnt hb3 H
     refine WP.region ?_
     refine WPL.qq (q_as (v := .lit (.int _ _)) rfl) ?_
     refine WPL.nilW ?_
     have q0 := j1 H
     subst q0
     exact W.wk [0, 1] hnp r3 ⟨rfl, AA2, by decide, rfl, trivial⟩ (LeE.u (LeE.u (LeE.u (LeE.u (LeE.u (LeE.none rfl rfl)))))) rfl
   replace H := cnf hb3 H
   refine WP.skipW ?_
   have q0 := j1 H
   subst q0
   exact W.wk [0, 1] hnp r3 ⟨rfl, AA2, by decide, rfl, trivial⟩ (LeE.u (LeE.u (LeE.u (LeE.u (LeE.u (LeE.none rfl rfl)))))) rfl
 rintro _ _ _ ⟨rfl, rfl, rfl⟩
 refine W.now ?_
 refine Then.n ?_
 refine WP.sr ?_
 refine WPL.qq (q_as (v := .lit _) rfl) ?_
 refine WPL.nx ?_
 refine WP.sr ?_
 refine WPL.qq (q_mv (v := .lit (.int _ _)) rfl) ?_
 refine WPL.qq (q_as (v := .lit (.int _ _)) rfl) ?_
 refine WPL.nx ?_
 refine WP.seq ?_
 refine WP.block ?_
 refine WP.cv (Cv.vir 3 (Rd.int .i64) (N := 2) rfl 7 rfl) ?_
 refine WP.cv (Cv.weak (E' := (((((((Env.none.upd 0 (.lit (.string x1))).upd 2 (.ptr 0 0)).upd 4 (.ptr 1 0)).upd 5 (.lit (.int .i64 x9))).upd 6 (.lit (.bool x6))).upd 7 (.whole 2)).upd 8 (.lit (.int .i64 x9)))) (M' := (((Mem.nil.push (.cells 23 [.lit (.int .i64 0), .lit (.int .i64 0)])).push (.cells 81 [.lit (.bool false), .lit (.slice none 0 0), .lit (.int .i64 0)])).push (.row 3 (Rd.int .i64) ([] : List Int)))) [0, 1, 2] hnp ⟨rfl, AA3, by decide, rfl, trivial⟩ (LeE.u (LeE.u (LeE.u (LeE.u (LeE.u (LeE.u (LeE.u (LeE.none rfl rfl))))))))) ?_
 obtain ⟨⟨x10, x11⟩, H3, H⟩ := bnd H
 refine WP.monoW (Q := fun x E M => x = .exit 0 ∧ E = (((((((Env.none.upd 0 (.lit (.string x1))).upd 2 (.ptr 0 0)).upd 4 (.ptr 1 0)).upd 5 (.lit (.int .i64 x10))).upd 6 (.lit (.bool x6))).upd 7 (.whole 2)).upd 8 (.lit (.int .i64 x9))) ∧ M = (((Mem.nil.push (.cells 23 [.lit (.int .i64 0), .lit (.int .i64 0)])).push (.cells 81 [.lit (.bool false), .lit (.slice none 0 0), .lit (.int .i64 0)])).push (.row 3 (Rd.int .i64) x11))) ?_ ?_
 · refine WP.loop (β := Int × (List Int)) (fun n b => g_r9_Parse_l0 k x1 n b.1 b.2 = some (x10, x11)) (fun b => (((((((Env.none.upd 0 (.lit (.string x1))).upd 2 (.ptr 0 0)).upd 4 (.ptr 1 0)).upd 5 (.lit (.int .i64 b.1))).upd 6 (.lit (.bool x6))).upd 7 (.whole 2)).upd 8 (.lit (.int .i64 x9)))) (fun b => (((Mem.nil.push (.cells 23 [.lit (.int .i64 0), .lit (.int .i64 0)])).push (.cells 81 [.lit (.bool false), .lit (.slice none 0 0), .lit (.int .i64 0)])).push (.row 3 (Rd.int .i64) b.2))) k (x9, ([] : List Int)) H3 rfl rfl ?_
   rintro n ⟨x12, x13⟩ H
   obtain _ | n := n
   · exact nf rfl H
   rw [g_r9_Parse_l0.eq_2] at H
   show WP _ _ _ _ (((((((Env.none.upd 0 (.lit (.string x1))).upd 2 (.ptr 0 0)).upd 4 (.ptr 1 0)).upd 5 (.lit (.int .i64 x12))).upd 6 (.lit (.bool x6))).upd 7 (.whole 2)).upd 8 (.lit (.int .i64 x9))) (((Mem.nil.push (.cells 23 [.lit (.int .i64 0), .lit (.int .i64 0)])).push (.cells 81 [.lit (.bool false), .lit (.slice none 0 0), .lit (.int .i64 0)])).push (.row 3 (Rd.int .i64) x13)) _
   refine WP.seq ?_
   refine WP.seq ?_
   obtain ⟨x14, H4, H⟩ := bnd H
   refine WP.monoW (Q := fun x E M => x = .normal ∧ E = ((((((((Env.none.upd 0 (.lit (.string x1))).upd 2 (.ptr 0 0)).upd 4 (.ptr 1 0)).upd 5 (.lit (.int .i64 x12))).upd 6 (.lit (.bool x6))).upd 7 (.whole 2)).upd 8 (.lit (.int .i64 x9))).upd 36 (.lit (.bool x14))) ∧ M = (((Mem.nil.push (.cells 23 [.lit (.int .i64 0), .lit (.int .i64 0)])).push (.cells 81 [.lit (.bool false), .lit (.slice none 0 0), .lit (.int .i64 0)])).push (.row 3 (Rd.int .i64) x13))) ?_ ?_
   · clear H
     have H := H4
     clear H4
     refine WP.region ?_
     refine WPL.qq (q_mv (v := .lit (.int _ _)) rfl) ?_
     refine WPL.qq (q_mv (v := .lit (.string _)) rfl) ?_
     refine WPL.qq (q_len_str Tryz.underlying9 rfl) ?_
     obtain ⟨x15, h4, H⟩ := bnd H
     refine WPL.qq (q_nm (q_lss rfl rfl) (nm_bool h4)) ?_
     refine WPL.qq (q_mv (v := .lit (.bool _)) rfl) ?_
     refine WPL.split (t := 31) (b := x15) rfl (fun hb4 => ?_) (fun hb4 => ?_)
     · replace H := cnt hb4 H
       refine WPL.gq rfl (lb hb4) (q_mv (v := .lit (.string _)) rfl) ?_
       refine WPL.gq rfl (lb hb4) (q_mv (v := .lit (.int _ _)) rfl) ?_
       obtain ⟨x16, h5, H⟩ := bnd H
       refine WPL.gq rfl (lb hb4) (q_index_str Tryz.underlying9 rfl rfl h5) ?_
       obtain ⟨x17, h5, H⟩ := bnd H
       refine WPL.cg rfl rfl (lb hb4) (runs_call (s := []) (t := []) (N := 3) (bor := []) fn96 rfl (s_r9_digit k x16 x17 h5) ⟨rfl, trivial, by decide, rfl, trivial⟩ rfl trivial (.ren rfl rfl .nil) rfl trivial rfl) rfl ?_
       refine WPL.qq (q_pickT (v := .lit (.bool _)) (lb hb4) rfl) ?_
       refine WPL.nilW ?_
       have q0 := j1 H
       subst q0
       exact W.wk [0, 1, 2] hnp r3 ⟨rfl, AA3, by decide, rfl, trivial⟩ (LeE.u (LeE.u (LeE.u (LeE.u (LeE.u (LeE.u (LeE.u (LeE.u (LeE.none rfl rfl))))))))) rfl
     replace H := cnf hb4 H
     refine WPL.sg false rfl (lb hb4) ?_
     refine WPL.sg false rfl (lb hb4) ?_
     refine WPL.sg false rfl (lb hb4) ?_
     refine WPL.sg false rfl (lb hb4) ?_
     refine WPL.qq (q_pickF (v := .lit (.bool _)) (lb hb4) rfl) ?_
     refine WPL.nilW ?_
     have q0 := j1 H
     subst q0
     exact W.wk [0, 1, 2] hnp r3 ⟨rfl, AA3, by decide, rfl, trivial⟩ (LeE.u (LeE.u (LeE.u (LeE.u (LeE.u (LeE.u (LeE.u (LeE.u (LeE.none rfl rfl))))))))) rfl
   rintro _ _ _ ⟨rfl, rfl, rfl⟩
   refine W.now ?_
   refine Then.n ?_
   refine WP.cond (t := x14) rfl (fun hb5 => ?_) (fun hb5 => ?_)
   · replace H := cnt hb5 H
     refine WP.skipW ?_
     refine W.now ?_
     refine Then.n ?_
     refine WP.block ?_
     refine WP.sr ?_
     refine WPL.qq (q_mv (v := .whole _) rfl) ?_
     refine WPL.qq (q_mv (v := .lit (.string _)) rfl) ?_
     refine WPL.qq (q_mv (v := .lit (.int _ _)) rfl) ?_
     obtain ⟨x18, h6, H⟩ := bnd H
     refine WPL.qq (q_index_str Tryz.underlying9 rfl rfl h6) ?_
     refine WPL.qq (q_sub rfl rfl) ?_
     obtain ⟨x19, h7, H⟩ := bnd H
     refine WPL.qq (q_nm (q_conv Tryz.underlying5 Tryz.underlying3 rfl) (nm_int h7)) ?_
     refine WPL.d (d_buildSlice (ds := ([x19] : List Int)) (R := (Rd.int .i64)) li76 rfl rfl rfl rfl rfl (JoinRows.cons1 Joins.sc rfl JoinRows.nil) rfl rfl) rfl ?_
     obtain ⟨h7, H⟩ := grd H
     refine WPL.d (d_append ap76 rfl rfl rfl rfl (src_row sl76 rfl rfl) h7 rfl) rfl ?_
     refine WPL.qq (q_as (v := .whole _) rfl) ?_
     refine WPL.nx ?_
     refine WP.region ?_
     refine WPL.qq (q_mv (v := .lit (.int _ _)) rfl) ?_
     refine WPL.qq (q_add rfl rfl) ?_
     refine WPL.qq (q_as (v := .lit (.int _ _)) rfl) ?_
     refine WPL.nilW ?_
     exact W.wk [0, 1, 4] hnp (InBlock.n (Then.n ⟨n, ((IntKind.wrap .i64 (x12 + 1)), (x13 ++ ([x19] : List Int))), Nat.lt_succ_self n, H, rfl, rfl⟩)) ⟨rfl, AA3, by decide, rfl, trivial⟩ (LeE.u (LeE.u (LeE.u (LeE.u (LeE.u (LeE.u (LeE.u (LeE.none rfl rfl)))))))) rfl
   replace H := cnf hb5 H
   refine WP.exitW ?_
   obtain ⟨rfl, rfl⟩ := j2 H
   exact W.wk [0, 1, 2] hnp (Then.x (Then.x r3)) ⟨rfl, AA3, by decide, rfl, trivial⟩ (LeE.u (LeE.u (LeE.u (LeE.u (LeE.u (LeE.u (LeE.u (LeE.none rfl rfl)))))))) rfl
 rintro _ _ _ ⟨rfl, rfl, rfl⟩
 refine W.now ?_
 refine InBlock.x0 ?_
 refine Then.n ?_
 refine WP.seq ?_
 refine WP.sr ?_
 refine WPL.qq (q_mv (v := .lit (.int _ _)) rfl) ?_
 refine WPL.qq (q_mv (v := .lit (.int _ _)) rfl) ?_
 refine WPL.qq (q_eql rfl rfl) ?_
 refine WPL.nx ?_
 refine WP.cond (t := (decide (x10 = x9))) rfl (fun hb6 => ?_) (fun hb6 => ?_)
 · replace H := cnt hb6 H
   refine WP.sr ?_
   refine WPL.qq (q_build bu23 rfl) ?_
   refine WPL.s (s_store sz23 rfl rfl rfl rfl rfl) ?_
   refine WPL.qq (q_as (v := .lit (.int _ _)) rfl) ?_
   refine WPL.nx ?_
   refine WP.retW ?_
   obtain ⟨rfl, rfl, rfl⟩ := j3 H
   exact W.now (Then.r (BodyR.mkR trivial rfl [0] ⟨rfl, rfl⟩ ⟨rfl, AA1, by decide, rfl, trivial⟩ rfl rfl))
 replace H := cnf hb6 H
 refine WP.skipW ?_
 refine W.now ?_
 refine Then.n ?_
 refine WP.seq ?_
 obtain ⟨y1, H5, H⟩ := bnd H
 refine WP.monoW (Q := fun x E M => match (generalizing := false) y1 with | (Sum.inl _) => x = .ret ∧ E = ((Env.none.upd 2 (.ptr 0 0)).upd 3 (.lit (.int .i64 40))) ∧ M = (Mem.nil.push (.cells 23 [.lit (.int .i64 0), .lit (.int .i64 0)])) | (Sum.inr (x20, x21, x22)) => x = .normal ∧ E = ((((((Env.none.upd 0 (.lit (.string x1))).upd 2 (.ptr 0 0)).upd 4 (.ptr 1 0)).upd 5 (.lit (.int .i64 x20))).upd 6 (.lit (.bool x6))).upd 7 (.whole 2)) ∧ M = (((Mem.nil.push (.cells 23 [.lit (.int .i64 0), .lit (.int .i64 0)])).push (.cells 81 [.lit (.bool false), .lit (.slice none 0 0), .lit (.int .i64 x21)])).push (.row 3 (Rd.int .i64) x22))) ?_ ?_
 · clear H
   have H := H5
   clear H5
   refine WP.seq ?_
   obtain ⟨x23, H6, H⟩ := bnd H
   refine WP.monoW (Q := fun x E M => x = .normal ∧ E = (((((((Env.none.upd 0 (.lit (.string x1))).upd 2 (.ptr 0 0)).upd 4 (.ptr 1 0)).upd 5 (.lit (.int .i64 x10))).upd 6 (.lit (.bool x6))).upd 7 (.whole 2)).upd 60 (.lit (.bool x23))) ∧ M = (((Mem.nil.push (.cells 23 [.lit (.int .i64 0), .lit (.int .i64 0)])).push (.cells 81 [.lit (.bool false), .lit (.slice none 0 0), .lit (.int .i64 0)])).push (.row 3 (Rd.int .i64) x11))) ?_ ?_
   · clear H
     have H := H6
     clear H6
     refine WP.region ?_
     refine WPL.qq (q_mv (v := .lit (.int _ _)) rfl) ?_
     refine WPL.qq (q_mv (v := .lit (.string _)) rfl) ?_
     refine WPL.qq (q_len_str Tryz.underlying9 rfl) ?_
     obtain ⟨x24, h8, H⟩ := bnd H
     refine WPL.qq (q_nm (q_lss rfl rfl) (nm_bool h8)) ?_
     refine WPL.qq (q_mv (v := .lit (.bool _)) rfl) ?_
     refine WPL.split (t := 55) (b := x24) rfl (fun hb7 => ?_) (fun hb7 => ?_)
     · replace H := cnt hb7 H
       refine WPL.gq rfl (lb hb7) (q_mv (v := .lit (.string _)) rfl) ?_
       refine WPL.gq rfl (lb hb7) (q_mv (v := .lit (.int _ _)) rfl) ?_
       obtain ⟨x25, h9, H⟩ := bnd H
       refine WPL.gq rfl (lb hb7) (q_index_str Tryz.underlying9 rfl rfl h9) ?_
       refine WPL.gq rfl (lb hb7) (q_eql rfl rfl) ?_
       refine WPL.qq (q_pickT (v := .lit (.bool _)) (lb hb7) rfl) ?_
       refine WPL.nilW ?_
       have q0 := j1 H
       subst q0
       exact W.wk [0, 1, 2] hnp r3 ⟨rfl, AA3, by decide, rfl, trivial⟩ (LeE.u (LeE.u (LeE.u (LeE.u (LeE.u (LeE.u (LeE.u (LeE.none rfl rfl)))))))) rfl
     replace H := cnf hb7 H
     refine WPL.sg false rfl (lb hb7) ?_
     refine WPL.sg false rfl (lb hb7) ?_
     refine WPL.sg false rfl (lb hb7) ?_
     refine WPL.sg false rfl (lb hb7) ?_
     refine WPL.qq (q_pickF (v := .lit (.bool _)) (lb hb7) rfl) ?_
     refine WPL.nilW ?_
     have q0 := j1 H
     subst q0
     exact W.wk [0, 1, 2] hnp r3 ⟨rfl, AA3, by decide, rfl, trivial⟩ (LeE.u (LeE.u (LeE.u (LeE.u (LeE.u (LeE.u (LeE.u (LeE.none rfl rfl)))))))) rfl
   rintro _ _ _ ⟨rfl, rfl, rfl⟩
   refine W.now ?_
   refine Then.n ?_
   refine WP.cond (t := x23) rfl (fun hb8 => ?_) (fun hb8 => ?_)
   · replace H := cnt hb8 H
     refine WP.sr ?_
     refine WPL.qq (q_mv (v := .lit (.int _ _)) rfl) ?_
     refine WPL.qq (q_add rfl rfl) ?_
     refine WPL.qq (q_as (v := .lit (.int _ _)) rfl) ?_
     refine WPL.nx ?_
     refine WP.sr ?_
     refine WPL.qq (q_mv (v := .lit (.int _ _)) rfl) ?_
     refine WPL.qq (q_as (v := .lit (.int _ _)) rfl) ?_
     refine WPL.nx ?_
     refine WP.seq ?_
     refine WP.block ?_
     refine WP.cv (Cv.weak (E' := (((((((Env.none.upd 0 (.lit (.string x1))).upd 2 (.ptr 0 0)).upd 4 (.ptr 1 0)).upd 5 (.lit (.int .i64 (IntKind.wrap .i64 (x10 + 1))))).upd 6 (.lit (.bool x6))).upd 7 (.whole 2)).upd 8 (.lit (.int .i64 (IntKind.wrap .i64 (x10 + 1)))))) (M' := (((Mem.nil.push (.cells 23 [.lit (.int .i64 0), .lit (.int .i64 0)])).push (.cells 81 [.lit (.bool false), .lit (.slice none 0 0), .lit (.int .i64 0)])).push (.row 3 (Rd.int .i64) x11))) [0, 1, 2] hnp ⟨rfl, AA3, by decide, rfl, trivial⟩ (LeE.u (LeE.u (LeE.u (LeE.u (LeE.u (LeE.u (LeE.u (LeE.none rfl rfl))))))))) ?_
     obtain ⟨⟨x26, x27, x28⟩, H7, H⟩ := bnd H
     refine WP.monoW (Q := fun x E M => x = .exit 2 ∧ E = (((((((Env.none.upd 0 (.lit (.string x1))).upd 2 (.ptr 0 0)).upd 4 (.ptr 1 0)).upd 5 (.lit (.int .i64 x26))).upd 6 (.lit (.bool x6))).upd 7 (.whole 2)).upd 8 (.lit (.int .i64 (IntKind.wrap .i64 (x10 + 1))))) ∧ M = (((Mem.nil.push (.cells 23 [.lit (.int .i64 0), .lit (.int .i64 0)])).push (.cells 81 [.lit (.bool false), .lit (.slice none 0 0), .lit (.int .i64 x27)])).push (.row 3 (Rd.int .i64) x28))) ?_ ?_
     · refine WP.loop (β := Int × Int × (List Int)) (fun n b => g_r9_Parse_l1 k x1 n b.1 b.2.1 b.2.2 = some (x26, x27, x28)) (fun b => (((((((Env.none.upd 0 (.lit (.string x1))).upd 2 (.ptr 0 0)).upd 4 (.ptr 1 0)).upd 5 (.lit (.int .i64 b.1))).upd 6 (.lit (.bool x6))).upd 7 (.whole 2)).upd 8 (.lit (.int .i64 (IntKind.wrap .i64 (x10 + 1)))))) (fun b => (((Mem.nil.push (.cells 23 [.lit (.int .i64 0), .lit (.int .i64 0)])).push (.cells 81 [.lit (.bool false), .lit (.slice none 0 0), .lit (.int .i64 b.2.1)])).push (.row 3 (Rd.int .i64) b.2.2))) k ((IntKind.wrap .i64 (x10 + 1)), 0, x11) H7 rfl rfl ?_
       rintro n ⟨x29, x30, x31⟩ H
       obtain _ | n := n
       · exact nf rfl H
       rw [g_r9_Parse_l1.eq_2] at H
       show WP _ _ _ _ (((((((Env.none.upd 0 (.lit (.string x1))).upd 2 (.ptr 0 0)).upd 4 (.ptr 1 0)).upd 5 (.lit (.int .i64 x29))).upd 6 (.lit (.bool x6))).upd 7 (.whole 2)).upd 8 (.lit (.int .i64 (IntKind.wrap .i64 (x10 + 1))))) (((Mem.nil.push (.cells 23 [.lit (.int .i64 0), .lit (.int .i64 0)])).push (.cells 81 [.lit (.bool false), .lit (.slice none 0 0), .lit (.int .i64 x30)])).push (.row 3 (Rd.int .i64) x31)) _
       refine WP.seq ?_
       refine WP.seq ?_
       obtain ⟨x32, H8, H⟩ := bnd H
       refine WP.monoW (Q := fun x E M => x = .normal ∧ E = ((((((((Env.none.upd 0 (.lit (.string x1))).upd 2 (.ptr 0 0)).upd 4 (.ptr 1 0)).upd 5 (.lit (.int .i64 x29))).upd 6 (.lit (.bool x6))).upd 7 (.whole 2)).upd 8 (.lit (.int .i64 (IntKind.wrap .i64 (x10 + 1))))).upd 73 (.lit (.bool x32))) ∧ M = (((Mem.nil.push (.cells 23 [.lit (.int .i64 0), .lit (.int .i64 0)])).push (.cells 81 [.lit (.bool false), .lit (.slice none 0 0), .lit (.int .i64 x30)])).push (.row 3 (Rd.int .i64) x31))) ?_ ?_
       · clear H
         have H := H8
         clear H8
         refine WP.region ?_
         refine WPL.qq (q_mv (v := .lit (.int _ _)) rfl) ?_
         refine WPL.qq (q_mv (v := .lit (.string _)) rfl) ?_
         refine WPL.qq (q_len_str Tryz.underlying9 rfl) ?_
         obtain ⟨x33, h10, H⟩ := bnd H
         refine WPL.qq (q_nm (q_lss rfl rfl) (nm_bool h10)) ?_
         refine WPL.qq (q_mv (v := .lit (.bool _)) rfl) ?_
         refine WPL.split (t := 68) (b := x33) rfl (fun hb9 => ?_) (fun hb9 => ?_)
         · replace H := cnt hb9 H
           refine WPL.gq rfl (lb hb9) (q_mv (v := .lit (.string _)) rfl) ?_
           refine WPL.gq rfl (lb hb9) (q_mv (v := .lit (.int _ _)) rfl) ?_
           obtain ⟨x34, h11, H⟩ := bnd H
           refine WPL.gq rfl (lb hb9) (q_index_str Tryz.underlying9 rfl rfl h11) ?_
           obtain ⟨x35, h11, H⟩ := bnd H
           refine WPL.cg rfl rfl (lb hb9) (runs_call (s := []) (t := []) (N := 3) (bor := []) fn96 rfl (s_r9_digit k x34 x35 h11) ⟨rfl, trivial, by decide, rfl, trivial⟩ rfl trivial (.ren rfl rfl .nil) rfl trivial rfl) rfl ?_
           refine WPL.qq (q_pickT (v := .lit (.bool _)) (lb hb9) rfl) ?_
           refine WPL.nilW ?_
           have q0 := j1 H
           subst q0
           exact W.wk [0, 1, 2] hnp r3 ⟨rfl, AA3, by decide, rfl, trivial⟩ (LeE.u (LeE.u (LeE.u (LeE.u (LeE.u (LeE.u (LeE.u (LeE.u (LeE.none rfl rfl))))))))) rfl
         replace H := cnf hb9 H
         refine WPL.sg false rfl (lb hb9) ?_
         refine WPL.sg false rfl (lb hb9) ?_
         refine WPL.sg false rfl (lb hb9) ?_
         refine WPL.sg false rfl (lb hb9) ?_
         refine WPL.qq (q_pickF (v := .lit (.bool _)) (lb hb9) rfl) ?_
         refine WPL.nilW ?_
         have q0 := j1 H
         subst q0
         exact W.wk [0, 1, 2] hnp r3 ⟨rfl, AA3, by decide, rfl, trivial⟩ (LeE.u (LeE.u (LeE.u (LeE.u (LeE.u (LeE.u (LeE.u (LeE.u (LeE.none rfl rfl))))))))) rfl
       rintro _ _ _ ⟨rfl, rfl, rfl⟩
       refine W.now ?_
       refine Then.n ?_
       refine WP.cond (t := x32) rfl (fun hb10 => ?_) (fun hb10 => ?_)
       · replace H := cnt hb10 H
         refine WP.skipW ?_
         refine W.now ?_
         refine Then.n ?_
         refine WP.block ?_
         refine WP.sr ?_
         refine WPL.qq (q_mv (v := .whole _) rfl) ?_
         refine WPL.qq (q_mv (v := .lit (.string _)) rfl) ?_
         refine WPL.qq (q_mv (v := .lit (.int _ _)) rfl) ?_
         obtain ⟨x36, h12, H⟩ := bnd H
         refine WPL.qq (q_index_str Tryz.underlying9 rfl rfl h12) ?_
         refine WPL.qq (q_sub rfl rfl) ?_
         obtain ⟨x37, h13, H⟩ := bnd H
         refine WPL.qq (q_nm (q_conv Tryz.underlying5 Tryz.underlying3 rfl) (nm_int h13)) ?_
         refine WPL.d (d_buildSlice (ds := ([x37] : List Int)) (R := (Rd.int .i64)) li76 rfl rfl rfl rfl rfl (JoinRows.cons1 Joins.sc rfl JoinRows.nil) rfl rfl) rfl ?_
         obtain ⟨h13, H⟩ := grd H
         refine WPL.d (d_append ap76 rfl rfl rfl rfl (src_row sl76 rfl rfl) h13 rfl) rfl ?_
         refine WPL.qq (q_as (v := .whole _) rfl) ?_
         refine WPL.nx ?_
         refine WP.sr ?_
         refine WPL.qq (q_fieldAddr fi81_1 rfl rfl) ?_
         refine WPL.qq (q_load sc3 rfl rfl rfl) ?_
         refine WPL.qq (q_sub rfl rfl) ?_
         refine WPL.qq (q_fieldAddr fi81_1 rfl rfl) ?_
         refine WPL.s (s_store sz3 rfl rfl rfl rfl rfl) ?_
         refine WPL.nx ?_
         refine WP.region ?_
         refine WPL.qq (q_mv (v := .lit (.int _ _)) rfl) ?_
         refine WPL.qq (q_add rfl rfl) ?_
         refine WPL.qq (q_as (v := .lit (.int _ _)) rfl) ?_
         refine WPL.nilW ?_
         exact W.wk [0, 1, 4] hnp (InBlock.n (Then.n ⟨n, ((IntKind.wrap .i64 (x29 + 1)), (IntKind.wrap .i64 (x30 - 1)), (x31 ++ ([x37] : List Int))), Nat.lt_succ_self n, H, rfl, rfl⟩)) ⟨rfl, AA3, by decide, rfl, trivial⟩ (LeE.u (LeE.u (LeE.u (LeE.u (LeE.u (LeE.u (LeE.u (LeE.none rfl rfl)))))))) rfl
       replace H := cnf hb10 H
       refine WP.exitW ?_
       obtain ⟨rfl, rfl, rfl⟩ := j3 H
       exact W.wk [0, 1, 2] hnp (Then.x (Then.x r3)) ⟨rfl, AA3, by decide, rfl, trivial⟩ (LeE.u (LeE.u (LeE.u (LeE.u (LeE.u (LeE.u (LeE.u (LeE.none rfl rfl)))))))) rfl
     rintro _ _ _ ⟨rfl, rfl, rfl⟩
     refine W.now ?_
     refine InBlock.x0 ?_
     refine Then.n ?_
     refine WP.sr ?_
     refine WPL.qq (q_mv (v := .lit (.int _ _)) rfl) ?_
     refine WPL.qq (q_mv (v := .lit (.int _ _)) rfl) ?_
     obtain ⟨x38, h14, H⟩ := bnd H
     refine WPL.qq (q_nm (q_eql rfl rfl) (nm_bool h14)) ?_
     refine WPL.nx ?_
     refine WP.cond (t := x38) rfl (fun hb11 => ?_) (fun hb11 => ?_)
     · replace H := cnt hb11 H
       refine WP.sr ?_
       refine WPL.qq (q_build bu23 rfl) ?_
       refine WPL.s (s_store sz23 rfl rfl rfl rfl rfl) ?_
       refine WPL.qq (q_as (v := .lit (.int _ _)) rfl) ?_
       refine WPL.nx ?_
       refine WP.retW ?_
       have q0 := j1 H
       subst q0
       exact W.wk [0] hnp r3 ⟨rfl, AA1, by decide, rfl, trivial⟩ (LeE.u (LeE.u (LeE.none rfl rfl))) rfl
     replace H := cnf hb11 H
     refine WP.skipW ?_
     have q0 := j1 H
     subst q0
     exact W.wk [0, 1, 2] hnp r3 ⟨rfl, AA3, by decide, rfl, trivial⟩ (LeE.u (LeE.u (LeE.u (LeE.u (LeE.u (LeE.u (LeE.none rfl rfl))))))) rfl
   replace H := cnf hb8 H
   refine WP.skipW ?_
   have q0 := j1 H
   subst q0
   exact W.wk [0, 1, 2] hnp r3 ⟨rfl, AA3, by decide, rfl, trivial⟩ (LeE.u (LeE.u (LeE.u (LeE.u (LeE.u (LeE.u (LeE.none rfl rfl))))))) rfl
 rcases y1 with _ | ⟨x20, x21, x22⟩
 · rintro _ _ _ ⟨rfl, rfl, rfl⟩
   obtain ⟨rfl, rfl, rfl⟩ := j3 H
   exact W.now (Then.r (BodyR.mkR trivial rfl [0] ⟨rfl, rfl⟩ ⟨rfl, AA1, by decide, rfl, trivial⟩ rfl rfl))
 rintro _ _ _ ⟨rfl, rfl, rfl⟩
 refine W.now ?_
 refine Then.n ?_
 refine WP.seq ?_
 obtain ⟨y2, H9, H⟩ := bnd H
 refine WP.monoW (Q := fun x E M => match (generalizing := false) y2 with | (Sum.inl _) => x = .ret ∧ E = ((Env.none.upd 2 (.ptr 0 0)).upd 3 (.lit (.int .i64 40))) ∧ M = (Mem.nil.push (.cells 23 [.lit (.int .i64 0), .lit (.int .i64 0)])) | (Sum.inr (x39, x40)) => x = .normal ∧ E = ((((((Env.none.upd 0 (.lit (.string x1))).upd 2 (.ptr 0 0)).upd 4 (.ptr 1 0)).upd 5 (.lit (.int .i64 x39))).upd 6 (.lit (.bool x6))).upd 7 (.whole 2)) ∧ M = (((Mem.nil.push (.cells 23 [.lit (.int .i64 0), .lit (.int .i64 0)])).push (.cells 81 [.lit (.bool false), .lit (.slice none 0 0), .lit (.int .i64 x40)])).push (.row 3 (Rd.int .i64) x22))) ?_ ?_
 · clear H
   have H := H9
   clear H9
   refine WP.seq ?_
   obtain ⟨x41, H10, H⟩ := bnd H
   refine WP.monoW (Q := fun x E M => x = .normal ∧ E = (((((((Env.none.upd 0 (.lit (.string x1))).upd 2 (.ptr 0 0)).upd 4 (.ptr 1 0)).upd 5 (.lit (.int .i64 x20))).upd 6 (.lit (.bool x6))).upd 7 (.whole 2)).upd 107 (.lit (.bool x41))) ∧ M = (((Mem.nil.push (.cells 23 [.lit (.int .i64 0), .lit (.int .i64 0)])).push (.cells 81 [.lit (.bool false), .lit (.slice none 0 0), .lit (.int .i64 x21)])).push (.row 3 (Rd.int .i64) x22))) ?_ ?_
   · clear H
     have H := H10
     clear H10
     refine WP.region ?_
     refine WPL.qq (q_mv (v := .lit (.int _ _)) rfl) ?_
     refine WPL.qq (q_mv (v := .lit (.string _)) rfl) ?_
     refine WPL.qq (q_len_str Tryz.underlying9 rfl) ?_
     obtain ⟨x42, h15, H⟩ := bnd H
     refine WPL.qq (q_nm (q_lss rfl rfl) (nm_bool h15)) ?_
     refine WPL.qq (q_mv (v := .lit (.bool _)) rfl) ?_
     refine WPL.split (t := 96) (b := x42) rfl (fun hb12 => ?_) (fun hb12 => ?_)
     · replace H := cnt hb12 H
       refine WPL.gq rfl (lb hb12) (q_mv (v := .lit (.string _)) rfl) ?_
       refine WPL.gq rfl (lb hb12) (q_mv (v := .lit (.int _ _)) rfl) ?_
       obtain ⟨x43, h16, H⟩ := bnd H
       refine WPL.gq rfl (lb hb12) (q_index_str Tryz.underlying9 rfl rfl h16) ?_
       refine WPL.gq rfl (lb hb12) (q_eql rfl rfl) ?_
       refine WPL.gq rfl (lb hb12) (q_mv (v := .lit (.bool _)) rfl) ?_
       refine WPL.split (t := 101) (b := (decide (x43 = 101))) rfl (fun hb13 => ?_) (fun hb13 => ?_)
       · replace H := cnt hb13 H
         refine WPL.sg true rfl (lb hb13) ?_
         refine WPL.sg true rfl (lb hb13) ?_
         refine WPL.sg true rfl (lb hb13) ?_
         refine WPL.sg true rfl (lb hb13) ?_
         refine WPL.gq rfl (lb hb12) (q_pickT (v := .lit (.bool _)) (lb hb13) rfl) ?_
         refine WPL.qq (q_pickT (v := .lit (.bool _)) (lb hb12) rfl) ?_
         refine WPL.nilW ?_
         have q0 := j1 H
         subst q0
         exact W.wk [0, 1, 2] hnp r3 ⟨rfl, AA3, by decide, rfl, trivial⟩ (LeE.u (LeE.u (LeE.u (LeE.u (LeE.u (LeE.u (LeE.u (LeE.none rfl rfl)))))))) rfl
       replace H := cnf hb13 H
       refine WPL.gq rfl (lb hb13) (q_mv (v := .lit (.string _)) rfl) ?_
       refine WPL.gq rfl (lb hb13) (q_mv (v := .lit (.int _ _)) rfl) ?_
       obtain ⟨x44, h17, H⟩ := bnd H
       refine WPL.gq rfl (lb hb13) (q_index_str Tryz.underlying9 rfl rfl h17) ?_
       refine WPL.gq rfl (lb hb13) (q_eql rfl rfl) ?_
       refine WPL.gq rfl (lb hb12) (q_pickF (v := .lit (.bool _)) (lb hb13) rfl) ?_
       refine WPL.qq (q_pickT (v := .lit (.bool _)) (lb hb12) rfl) ?_
       refine WPL.nilW ?_
       have q0 := j1 H
       subst q0
       exact W.wk [0, 1, 2] hnp r3 ⟨rfl, AA3, by decide, rfl, trivial⟩ (LeE.u (LeE.u (LeE.u (LeE.u (LeE.u (LeE.u (LeE.u (LeE.none rfl rfl)))))))) rfl
     replace H := cnf hb12 H
     refine WPL.sg false rfl (lb hb12) ?_
     refine WPL.sg false rfl (lb hb12) ?_
     refine WPL.sg false rfl (lb hb12) ?_
     refine WPL.sg false rfl (lb hb12) ?_
     refine WPL.sg false rfl (lb hb12) ?_
     refine WPL.skipu rfl rfl rfl rfl (.inl trivial) ?_
     refine WPL.skipu rfl rfl rfl rfl (.inl trivial) ?_
     refine WPL.skipu rfl rfl rfl rfl (.inl trivial) ?_
     refine WPL.skipu rfl rfl rfl rfl (.inl trivial) ?_
     refine WPL.sg false rfl (lb hb12) ?_
     refine WPL.qq (q_pickF (v := .lit (.bool _)) (lb hb12) rfl) ?_
     refine WPL.nilW ?_
     have q0 := j1 H
     subst q0
     exact W.wk [0, 1, 2] hnp r3 ⟨rfl, AA3, by decide, rfl, trivial⟩ (LeE.u (LeE.u (LeE.u (LeE.u (LeE.u (LeE.u (LeE.u (LeE.none rfl rfl)))))))) rfl
   rintro _ _ _ ⟨rfl, rfl, rfl⟩
   refine W.now ?_
   refine Then.n ?_
   refine WP.cond (t := x41) rfl (fun hb14 => ?_) (fun hb14 => ?_)
   · replace H := cnt hb14 H
     refine WP.sr ?_
     refine WPL.qq (q_mv (v := .lit (.int _ _)) rfl) ?_
     refine WPL.qq (q_add rfl rfl) ?_
     refine WPL.qq (q_as (v := .lit (.int _ _)) rfl) ?_
     refine WPL.nx ?_
     refine WP.seq ?_
     obtain ⟨x45, H11, H⟩ := bnd H
     refine WP.monoW (Q := fun x E M => x = .normal ∧ E = (((((((Env.none.upd 0 (.lit (.string x1))).upd 2 (.ptr 0 0)).upd 4 (.ptr 1 0)).upd 5 (.lit (.int .i64 (IntKind.wrap .i64 (x20 + 1))))).upd 6 (.lit (.bool x6))).upd 7 (.whole 2)).upd 9 (.lit (.bool x45))) ∧ M = (((Mem.nil.push (.cells 23 [.lit (.int .i64 0), .lit (.int .i64 0)])).push (.cells 81 [.lit (.bool false), .lit (.slice none 0 0), .lit (.int .i64 x21)])).push (.row 3 (Rd.int .i64) x22))) ?_ ?_
     · clear H
       have H := H11
       clear H11
       refine WP.region ?_
       refine WPL.qq (q_mv (v := .lit (.int _ _)) rfl) ?_
       refine WPL.qq (q_mv (v := .lit (.string _)) rfl) ?_
       refine WPL.qq (q_len_str Tryz.underlying9 rfl) ?_
       obtain ⟨x46, h18, H⟩ := bnd H
       refine WPL.qq (q_nm (q_lss rfl rfl) (nm_bool h18)) ?_
       refine WPL.qq (q_mv (v := .lit (.bool _)) rfl) ?_
       refine WPL.split (t := 114) (b := x46) rfl (fun hb15 => ?_) (fun hb15 => ?_)
       · replace H := cnt hb15 H
         refine WPL.gq rfl (lb hb15) (q_mv (v := .lit (.string _)) rfl) ?_
         refine WPL.gq rfl (lb hb15) (q_mv (v := .lit (.int _ _)) rfl) ?_
         obtain ⟨x47, h19, H⟩ := bnd H
         refine WPL.gq rfl (lb hb15) (q_index_str Tryz.underlying9 rfl rfl h19) ?_
         refine WPL.gq rfl (lb hb15) (q_eql rfl rfl) ?_
         refine WPL.qq (q_pickT (v := .lit (.bool _)) (lb hb15) rfl) ?_
         refine WPL.qq (q_as (v := .lit (.bool _)) rfl) ?_
         refine WPL.nilW ?_
         have q0 := j1 H
         subst q0
         exact W.wk [0, 1, 2] hnp r3 ⟨rfl, AA3, by decide, rfl, trivial⟩ (LeE.u (LeE.u (LeE.u (LeE.u (LeE.u (LeE.u (LeE.u (LeE.none rfl rfl)))))))) rfl
       replace H := cnf hb15 H
       refine WPL.sg false rfl (lb hb15) ?_
       refine WPL.sg false rfl (lb hb15) ?_
       refine WPL.sg false rfl (lb hb15) ?_
       refine WPL.sg false rfl (lb hb15) ?_
       refine WPL.qq (q_pickF (v := .lit (.bool _)) (lb hb15) rfl) ?_
       refine WPL.qq (q_as (v := .lit (.bool _)) rfl) ?_
       refine WPL.nilW ?_
       have q0 := j1 H
       subst q0
       exact W.wk [0, 1, 2] hnp r3 ⟨rfl, AA3, by decide, rfl, trivial⟩ (LeE.u (LeE.u (LeE.u (LeE.u (LeE.u (LeE.u (LeE.u (LeE.none rfl rfl)))))))) rfl
     rintro _ _ _ ⟨rfl, rfl, rfl⟩
     refine W.now ?_
     refine Then.n ?_
     refine WP.seq ?_
     obtain ⟨x48, H12, H⟩ := bnd H
     refine WP.monoW (Q := fun x E M => x = .normal ∧ E = (((((((Env.none.upd 0 (.lit (.string x1))).upd 2 (.ptr 0 0)).upd 4 (.ptr 1 0)).upd 5 (.lit (.int .i64 x48))).upd 6 (.lit (.bool x6))).upd 7 (.whole 2)).upd 9 (.lit (.bool x45))) ∧ M = (((Mem.nil.push (.cells 23 [.lit (.int .i64 0), .lit (.int .i64 0)])).push (.cells 81 [.lit (.bool false), .lit (.slice none 0 0), .lit (.int .i64 x21)])).push (.row 3 (Rd.int .i64) x22))) ?_ ?_
     · clear H
       have H := H12
       clear H12
       refine WP.seq ?_
       obtain ⟨x49, H13, H⟩ := bnd H
       refine WP.monoW (Q := fun x E M => x = .normal ∧ E = ((((((((Env.none.upd 0 (.lit (.string x1))).upd 2 (.ptr 0 0)).upd 4 (.ptr 1 0)).upd 5 (.lit (.int .i64 (IntKind.wrap .i64 (x20 + 1))))).upd 6 (.lit (.bool x6))).upd 7 (.whole 2)).upd 9 (.lit (.bool x45))).upd 135 (.lit (.bool x49))) ∧ M = (((Mem.nil.push (.cells 23 [.lit (.int .i64 0), .lit (.int .i64 0)])).push (.cells 81 [.lit (.bool false), .lit (.slice none 0 0), .lit (.int .i64 x21)])).push (.row 3 (Rd.int .i64) x22))) ?_ ?_
       · clear H
         have H := H13
         clear H13
         refine WP.region ?_
         refine WPL.qq (q_mv (v := .lit (.int _ _)) rfl) ?_
         refine WPL.qq (q_mv (v := .lit (.string _)) rfl) ?_
         refine WPL.qq (q_len_str Tryz.underlying9 rfl) ?_
         obtain ⟨x50, h20, H⟩ := bnd H
         refine WPL.qq (q_nm (q_lss rfl rfl) (nm_bool h20)) ?_
         refine WPL.qq (q_mv (v := .lit (.bool _)) rfl) ?_
         refine WPL.split (t := 124) (b := x50) rfl (fun hb16 => ?_) (fun hb16 => ?_)
         · replace H := cnt hb16 H
           refine WPL.gq rfl (lb hb16) (q_mv (v := .lit (.string _)) rfl) ?_
           refine WPL.gq rfl (lb hb16) (q_mv (v := .lit (.int _ _)) rfl) ?_
           obtain ⟨x51, h21, H⟩ := bnd H
           refine WPL.gq rfl (lb hb16) (q_index_str Tryz.underlying9 rfl rfl h21) ?_
           refine WPL.gq rfl (lb hb16) (q_eql rfl rfl) ?_
           refine WPL.gq rfl (lb hb16) (q_mv (v := .lit (.bool _)) rfl) ?_
           refine WPL.split (t := 129) (b := (decide (x51 = 45))) rfl (fun hb17 => ?_) (fun hb17 => ?_)
           · replace H := cnt hb17 H
             refine WPL.sg true rfl (lb hb17) ?_
             refine WPL.sg true rfl (lb hb17) ?_
             refine WPL.sg true rfl (lb hb17) ?_
             refine WPL.sg true rfl (lb hb17) ?_
             refine WPL.gq rfl (lb hb16) (q_pickT (v := .lit (.bool _)) (lb hb17) rfl) ?_
             refine WPL.qq (q_pickT (v := .lit (.bool _)) (lb hb16) rfl) ?_
             refine WPL.nilW ?_
             have q0 := j1 H
             subst q0
             exact W.wk [0, 1, 2] hnp r3 ⟨rfl, AA3, by decide, rfl, trivial⟩ (LeE.u (LeE.u (LeE.u (LeE.u (LeE.u (LeE.u (LeE.u (LeE.u (LeE.none rfl rfl))))))))) rfl
           replace H := cnf hb17 H
           refine WPL.gq rfl (lb hb17) (q_mv (v := .lit (.string _)) rfl) ?_
           refine WPL.gq rfl (lb hb17) (q_mv (v := .lit (.int _ _)) rfl) ?_
           obtain ⟨x52, h22, H⟩ := bnd H
           refine WPL.gq rfl (lb hb17) (q_index_str Tryz.underlying9 rfl rfl h22) ?_
           refine WPL.gq rfl (lb hb17) (q_eql rfl rfl) ?_
           refine WPL.gq rfl (lb hb16) (q_pickF (v := .lit (.bool _)) (lb hb17) rfl) ?_
           refine WPL.qq (q_pickT (v := .lit (.bool _)) (lb hb16) rfl) ?_
           refine WPL.nilW ?_
           have q0 := j1 H
           subst q0
           exact W.wk [0, 1, 2] hnp r3 ⟨rfl, AA3, by decide, rfl, trivial⟩ (LeE.u (LeE.u (LeE.u (LeE.u (LeE.u (LeE.u (LeE.u (LeE.u (LeE.none rfl rfl))))))))) rfl
         replace H := cnf hb16 H
         refine WPL.sg false rfl (lb hb16) ?_
         refine WPL.sg false rfl (lb hb16) ?_
         refine WPL.sg false rfl (lb hb16) ?_
         refine WPL.sg false rfl (lb hb16) ?_
         refine WPL.sg false rfl (lb hb16) ?_
         refine WPL.skipu rfl rfl rfl rfl (.inl trivial) ?_
         refine WPL.skipu rfl rfl rfl rfl (.inl trivial) ?_
         refine WPL.skipu rfl rfl rfl rfl (.inl trivial) ?_
         refine WPL.skipu rfl rfl rfl rfl (.inl trivial) ?_
         refine WPL.sg false rfl (lb hb16) ?_
         refine WPL.qq (q_pickF (v := .lit (.bool _)) (lb hb16) rfl) ?_
         refine WPL.nilW ?_
         have q0 := j1 H
         subst q0
         exact W.wk [0, 1, 2] hnp r3 ⟨rfl, AA3, by decide, rfl, trivial⟩ (LeE.u (LeE.u (LeE.u (LeE.u (LeE.u (LeE.u (LeE.u (LeE.u (LeE.none rfl rfl))))))))) rfl
       rintro _ _ _ ⟨rfl, rfl, rfl⟩
       refine W.now ?_
       refine Then.n ?_
       refine WP.cond (t := x49) rfl (fun hb18 => ?_) (fun hb18 => ?_)
       · replace H := cnt hb18 H
         refine WP.region ?_
         refine WPL.qq (q_mv (v := .lit (.int _ _)) rfl) ?_
         obtain ⟨x53, h23, H⟩ := bnd H
         refine WPL.qq (q_nm (q_add rfl rfl) (nm_int h23)) ?_
         refine WPL.qq (q_as (v := .lit (.int _ _)) rfl) ?_
         refine WPL.nilW ?_
         have q0 := j1 H
         subst q0
         exact W.wk [0, 1, 2] hnp r3 ⟨rfl, AA3, by decide, rfl, trivial⟩ (LeE.u (LeE.u (LeE.u (LeE.u (LeE.u (LeE.u (LeE.u (LeE.none rfl rfl)))))))) rfl
       replace H := cnf hb18 H
       refine WP.skipW ?_
       have q0 := j1 H
       subst q0
       exact W.wk [0, 1, 2] hnp r3 ⟨rfl, AA3, by decide, rfl, trivial⟩ (LeE.u (LeE.u (LeE.u (LeE.u (LeE.u (LeE.u (LeE.u (LeE.none rfl rfl)))))))) rfl
     rintro _ _ _ ⟨rfl, rfl, rfl⟩
     refine W.now ?_
     refine Then.n ?_
     refine WP.sr ?_
     refine WPL.qq (q_mv (v := .lit (.int _ _)) rfl) ?_
     refine WPL.qq (q_as (v := .lit (.int _ _)) rfl) ?_
     refine WPL.nx ?_
     refine WP.sr ?_
     refine WPL.qq (q_as (v := .lit (.int _ _)) rfl) ?_
     refine WPL.nx ?_
     refine WP.seq ?_
     refine WP.block ?_
     refine WP.cv (Cv.weak (E' := (((((((((Env.none.upd 0 (.lit (.string x1))).upd 2 (.ptr 0 0)).upd 4 (.ptr 1 0)).upd 5 (.lit (.int .i64 x48))).upd 6 (.lit (.bool x6))).upd 7 (.whole 2)).upd 8 (.lit (.int .i64 x48))).upd 9 (.lit (.bool x45))).upd 10 (.lit (.int .i64 0)))) (M' := (((Mem.nil.push (.cells 23 [.lit (.int .i64 0), .lit (.int .i64 0)])).push (.cells 81 [.lit (.bool false), .lit (.slice none 0 0), .lit (.int .i64 x21)])).push (.row 3 (Rd.int .i64) x22))) [0, 1, 2] hnp ⟨rfl, AA3, by decide, rfl, trivial⟩ (LeE.u (LeE.u (LeE.u (LeE.u (LeE.u (LeE.u (LeE.u (LeE.u (LeE.u (LeE.none rfl rfl))))))))))) ?_
     obtain ⟨y3, H14, H⟩ := bnd H
     refine WP.monoW (Q := fun x E M => match (generalizing := false) y3 with | (Sum.inl _) => x = .ret ∧ E = ((Env.none.upd 2 (.ptr 0 0)).upd 3 (.lit (.int .i64 40))) ∧ M = (Mem.nil.push (.cells 23 [.lit (.int .i64 0), .lit (.int .i64 0)])) | (Sum.inr (x54, x55)) => x = .exit 4 ∧ E = (((((((((Env.none.upd 0 (.lit (.string x1))).upd 2 (.ptr 0 0)).upd 4 (.ptr 1 0)).upd 5 (.lit (.int .i64 x54))).upd 6 (.lit (.bool x6))).upd 7 (.whole 2)).upd 8 (.lit (.int .i64 x48))).upd 9 (.lit (.bool x45))).upd 10 (.lit (.int .i64 x55))) ∧ M = (((Mem.nil.push (.cells 23 [.lit (.int .i64 0), .lit (.int .i64 0)])).push (.cells 81 [.lit (.bool false), .lit (.slice none 0 0), .lit (.int .i64 x21)])).push (.row 3 (Rd.int .i64) x22))) ?_ ?_
     · refine WP.loop (β := Int × Int) (fun n b => g_r9_Parse_l2 k x1 x48 n b.1 b.2 = some y3) (fun b => (((((((((Env.none.upd 0 (.lit (.string x1))).upd 2 (.ptr 0 0)).upd 4 (.ptr 1 0)).upd 5 (.lit (.int .i64 b.1))).upd 6 (.lit (.bool x6))).upd 7 (.whole 2)).upd 8 (.lit (.int .i64 x48))).upd 9 (.lit (.bool x45))).upd 10 (.lit (.int .i64 b.2)))) (fun b => (((Mem.nil.push (.cells 23 [.lit (.int .i64 0), .lit (.int .i64 0)])).push (.cells 81 [.lit (.bool false), .lit (.slice none 0 0), .lit (.int .i64 x21)])).push (.row 3 (Rd.int .i64) x22))) k (x48, 0) H14 rfl rfl ?_
       rintro n ⟨x56, x57⟩ H
       obtain _ | n := n
       · exact nf rfl H
       rw [g_r9_Parse_l2.eq_2] at H
       show WP _ _ _ _ (((((((((Env.none.upd 0 (.lit (.string x1))).upd 2 (.ptr 0 0)).upd 4 (.ptr 1 0)).upd 5 (.lit (.int .i64 x56))).upd 6 (.lit (.bool x6))).upd 7 (.whole 2)).upd 8 (.lit (.int .i64 x48))).upd 9 (.lit (.bool x45))).upd 10 (.lit (.int .i64 x57))) (((Mem.nil.push (.cells 23 [.lit (.int .i64 0), .lit (.int .i64 0)])).push (.cells 81 [.lit (.bool false), .lit (.slice none 0 0), .lit (.int .i64 x21)])).push (.row 3 (Rd.int .i64) x22)) _
       refine WP.seq ?_
       refine WP.seq ?_
       obtain ⟨x58, H15, H⟩ := bnd H
       refine WP.monoW (Q := fun x E M => x = .normal ∧ E = ((((((((((Env.none.upd 0 (.lit (.string x1))).upd 2 (.ptr 0 0)).upd 4 (.ptr 1 0)).upd 5 (.lit (.int .i64 x56))).upd 6 (.lit (.bool x6))).upd 7 (.whole 2)).upd 8 (.lit (.int .i64 x48))).upd 9 (.lit (.bool x45))).upd 10 (.lit (.int .i64 x57))).upd 148 (.lit (.bool x58))) ∧ M = (((Mem.nil.push (.cells 23 [.lit (.int .i64 0), .lit (.int .i64 0)])).push (.cells 81 [.lit (.bool false), .lit (.slice none 0 0), .lit (.int .i64 x21)])).push (.row 3 (Rd.int .i64) x22))) ?_ ?_
       · clear H
         have H := H15
         clear H15
         refine WP.region ?_
         refine WPL.qq (q_mv (v := .lit (.int _ _)) rfl) ?_
         refine WPL.qq (q_mv (v := .lit (.string _)) rfl) ?_
         refine WPL.qq (q_len_str Tryz.underlying9 rfl) ?_
         obtain ⟨x59, h24, H⟩ := bnd H
         refine WPL.qq (q_nm (q_lss rfl rfl) (nm_bool h24)) ?_
         refine WPL.qq (q_mv (v := .lit (.bool _)) rfl) ?_
         refine WPL.split (t := 143) (b := x59) rfl (fun hb19 => ?_) (fun hb19 => ?_)
         · replace H := cnt hb19 H
           refine WPL.gq rfl (lb hb19) (q_mv (v := .lit (.string _)) rfl) ?_
           refine WPL.gq rfl (lb hb19) (q_mv (v := .lit (.int _ _)) rfl) ?_
           obtain ⟨x60, h25, H⟩ := bnd H
           refine WPL.gq rfl (lb hb19) (q_index_str Tryz.underlying9 rfl rfl h25) ?_
           obtain ⟨x61, h25, H⟩ := bnd H
           refine WPL.cg rfl rfl (lb hb19) (runs_call (s := []) (t := []) (N := 3) (bor := []) fn96 rfl (s_r9_digit k x60 x61 h25) ⟨rfl, trivial, by decide, rfl, trivial⟩ rfl trivial (.ren rfl rfl .nil) rfl trivial rfl) rfl ?_
           refine WPL.qq (q_pickT (v := .lit (.bool _)) (lb hb19) rfl) ?_
           refine WPL.nilW ?_
           have q0 := j1 H
           subst q0
           exact W.wk [0, 1, 2] hnp r3 ⟨rfl, AA3, by decide, rfl, trivial⟩ (LeE.u (LeE.u (LeE.u (LeE.u (LeE.u (LeE.u (LeE.u (LeE.u (LeE.u (LeE.u (LeE.none rfl rfl))))))))))) rfl
         replace H := cnf hb19 H
         refine WPL.sg false rfl (lb hb19) ?_
         refine WPL.sg false rfl (lb hb19) ?_
         refine WPL.sg false rfl (lb hb19) ?_
         refine WPL.sg false rfl (lb hb19) ?_
         refine WPL.qq (q_pickF (v := .lit (.bool _)) (lb hb19) rfl) ?_
         refine WPL.nilW ?_
         have q0 := j1 H
         subst q0
         exact W.wk [0, 1, 2] hnp r3 ⟨rfl, AA3, by decide, rfl, trivial⟩ (LeE.u (LeE.u (LeE.u (LeE.u (LeE.u (LeE.u (LeE.u (LeE.u (LeE.u (LeE.u (LeE.none rfl rfl))))))))))) rfl
       rintro _ _ _ ⟨rfl, rfl, rfl⟩
       refine W.now ?_
       refine Then.n ?_
       refine WP.cond (t := x58) rfl (fun hb20 => ?_) (fun hb20 => ?_)
       · replace H := cnt hb20 H
         refine WP.skipW ?_
         refine W.now ?_
         refine Then.n ?_
         refine WP.block ?_
         refine WP.sr ?_
         refine WPL.qq (q_mv (v := .lit (.int _ _)) rfl) ?_
         refine WPL.qq (q_mul rfl rfl) ?_
         refine WPL.qq (q_mv (v := .lit (.string _)) rfl) ?_
         refine WPL.qq (q_mv (v := .lit (.int _ _)) rfl) ?_
         obtain ⟨x62, h26, H⟩ := bnd H
         refine WPL.qq (q_index_str Tryz.underlying9 rfl rfl h26) ?_
         refine WPL.qq (q_sub rfl rfl) ?_
         obtain ⟨x63, h27, H⟩ := bnd H
         refine WPL.qq (q_nm (q_conv Tryz.underlying5 Tryz.underlying3 rfl) (nm_int h27)) ?_
         obtain ⟨x64, h28, H⟩ := bnd H
         refine WPL.qq (q_nm (q_add rfl rfl) (nm_int h28)) ?_
         refine WPL.qq (q_as (v := .lit (.int _ _)) rfl) ?_
         refine WPL.nx ?_
         refine WP.sr ?_
         refine WPL.qq (q_mv (v := .lit (.int _ _)) rfl) ?_
         refine WPL.qq (q_add rfl rfl) ?_
         refine WPL.qq (q_as (v := .lit (.int _ _)) rfl) ?_
         refine WPL.nx ?_
         refine WP.sr ?_
         refine WPL.qq (q_mv (v := .lit (.int _ _)) rfl) ?_
         refine WPL.qq (q_mv (v := .lit (.int _ _)) rfl) ?_
         obtain ⟨x65, h29, H⟩ := bnd H
         refine WPL.qq (q_nm (q_sub rfl rfl) (nm_int h29)) ?_
         refine WPL.qq (q_gtr rfl rfl) ?_
         refine WPL.nx ?_
         refine WP.cond (t := (decide (3 < x65))) rfl (fun hb21 => ?_) (fun hb21 => ?_)
         · replace H := cnt hb21 H
           refine WP.sr ?_
           refine WPL.qq (q_build bu23 rfl) ?_
           refine WPL.s (s_store sz23 rfl rfl rfl rfl rfl) ?_
           refine WPL.qq (q_as (v := .lit (.int _ _)) rfl) ?_
           refine WPL.nx ?_
           refine WP.retW ?_
           have q0 := j1 H
           subst q0
           exact W.wk [0] hnp (InBlock.r (Then.r r3)) ⟨rfl, AA1, by decide, rfl, trivial⟩ (LeE.u (LeE.u (LeE.none rfl rfl))) rfl
         replace H := cnf hb21 H
         refine WP.skipW ?_
         exact W.wk [0, 1, 2] hnp (InBlock.n (Then.n ⟨n, ((IntKind.wrap .i64 (x56 + 1)), x64), Nat.lt_succ_self n, H, rfl, rfl⟩)) ⟨rfl, AA3, by decide, rfl, trivial⟩ (LeE.u (LeE.u (LeE.u (LeE.u (LeE.u (LeE.u (LeE.u (LeE.u (LeE.u (LeE.none rfl rfl)))))))))) rfl
       replace H := cnf hb20 H
       refine WP.exitW ?_
       have q0 := j1 H
       subst q0
       exact W.wk [0, 1, 2] hnp (Then.x (Then.x r3)) ⟨rfl, AA3, by decide, rfl, trivial⟩ (LeE.u (LeE.u (LeE.u (LeE.u (LeE.u (LeE.u (LeE.u (LeE.u (LeE.u (LeE.none rfl rfl)))))))))) rfl
     rcases y3 with _ | ⟨x54, x55⟩
     · rintro _ _ _ ⟨rfl, rfl, rfl⟩
       have q0 := j1 H
       subst q0
       exact W.wk [0] hnp (InBlock.r (Then.r r3)) ⟨rfl, AA1, by decide, rfl, trivial⟩ (LeE.u (LeE.u (LeE.none rfl rfl))) rfl
     rintro _ _ _ ⟨rfl, rfl, rfl⟩
     refine W.now ?_
     refine InBlock.x0 ?_
     refine Then.n ?_
     refine WP.seq ?_
     refine WP.sr ?_
     refine WPL.qq (q_mv (v := .lit (.int _ _)) rfl) ?_
     refine WPL.qq (q_mv (v := .lit (.int _ _)) rfl) ?_
     refine WPL.qq (q_eql rfl rfl) ?_
     refine WPL.nx ?_
     refine WP.cond (t := (decide (x54 = x48))) rfl (fun hb22 => ?_) (fun hb22 => ?_)
     · replace H := cnt hb22 H
       refine WP.sr ?_
       refine WPL.qq (q_build bu23 rfl) ?_
       refine WPL.s (s_store sz23 rfl rfl rfl rfl rfl) ?_
       refine WPL.qq (q_as (v := .lit (.int _ _)) rfl) ?_
       refine WPL.nx ?_
       refine WP.retW ?_
       have q0 := j1 H
       subst q0
       exact W.wk [0] hnp (Then.r r3) ⟨rfl, AA1, by decide, rfl, trivial⟩ (LeE.u (LeE.u (LeE.none rfl rfl))) rfl
     replace H := cnf hb22 H
     refine WP.skipW ?_
     refine W.now ?_
     refine Then.n ?_
     refine WP.seq ?_
     obtain ⟨x66, H16, H⟩ := bnd H
     refine WP.monoW (Q := fun x E M => x = .normal ∧ E = (((((((Env.none.upd 0 (.lit (.string x1))).upd 2 (.ptr 0 0)).upd 4 (.ptr 1 0)).upd 5 (.lit (.int .i64 x54))).upd 6 (.lit (.bool x6))).upd 7 (.whole 2)).upd 10 (.lit (.int .i64 x66))) ∧ M = (((Mem.nil.push (.cells 23 [.lit (.int .i64 0), .lit (.int .i64 0)])).push (.cells 81 [.lit (.bool false), .lit (.slice none 0 0), .lit (.int .i64 x21)])).push (.row 3 (Rd.int .i64) x22))) ?_ ?_
     · clear H
       have H := H16
       clear H16
       refine WP.sr ?_
       refine WPL.qq (q_mv (v := .lit (.bool _)) rfl) ?_
       refine WPL.nx ?_
       refine WP.cond (t := x45) rfl (fun hb23 => ?_) (fun hb23 => ?_)
       · replace H := cnt hb23 H
         refine WP.region ?_
         refine WPL.qq (q_mv (v := .lit (.int _ _)) rfl) ?_
         refine WPL.qq (q_neg rfl) ?_
         refine WPL.qq (q_as (v := .lit (.int _ _)) rfl) ?_
         refine WPL.nilW ?_
         have q0 := j1 H
         subst q0
         exact W.wk [0, 1, 2] hnp r3 ⟨rfl, AA3, by decide, rfl, trivial⟩ (LeE.u (LeE.u (LeE.u (LeE.u (LeE.u (LeE.u (LeE.u (LeE.none rfl rfl)))))))) rfl
       replace H := cnf hb23 H
       refine WP.skipW ?_
       have q0 := j1 H
       subst q0
       exact W.wk [0, 1, 2] hnp r3 ⟨rfl, AA3, by decide, rfl, trivial⟩ (LeE.u (LeE.u (LeE.u (LeE.u (LeE.u (LeE.u (LeE.u (LeE.none rfl rfl)))))))) rfl
     rintro _ _ _ ⟨rfl, rfl, rfl⟩
     refine W.now ?_
     refine Then.n ?_
     refine WP.region ?_
     refine WPL.qq (q_fieldAddr fi81_1 rfl rfl) ?_
     refine WPL.qq (q_load sc3 rfl rfl rfl) ?_
     refine WPL.qq (q_mv (v := .lit (.int _ _)) rfl) ?_
     refine WPL.qq (q_add rfl rfl) ?_
     refine WPL.qq (q_fieldAddr fi81_1 rfl rfl) ?_
     refine WPL.s (s_store sz3 rfl rfl rfl rfl rfl) ?_
     refine WPL.nilW ?_
     have q0 := j1 H
     subst q0
     exact W.wk [0, 1, 2] hnp r3 ⟨rfl, AA3, by decide, rfl, trivial⟩ (LeE.u (LeE.u (LeE.u (LeE.u (LeE.u (LeE.u (LeE.none rfl rfl))))))) rfl
   replace H := cnf hb14 H
   refine WP.skipW ?_
   have q0 := j1 H
   subst q0
   exact W.wk [0, 1, 2] hnp r3 ⟨rfl, AA3, by decide, rfl, trivial⟩ (LeE.u (LeE.u (LeE.u (LeE.u (LeE.u (LeE.u (LeE.none rfl rfl))))))) rfl
 rcases y2 with _ | ⟨x39, x40⟩
 · rintro _ _ _ ⟨rfl, rfl, rfl⟩
   obtain ⟨rfl, rfl, rfl⟩ := j3 H
   exact W.now (Then.r (BodyR.mkR trivial rfl [0] ⟨rfl, rfl⟩ ⟨rfl, AA1, by decide, rfl, trivial⟩ rfl rfl))
 rintro _ _ _ ⟨rfl, rfl, rfl⟩
 refine W.now ?_
 refine Then.n ?_
 refine WP.seq ?_
 refine WP.sr ?_
 refine WPL.qq (q_mv (v := .lit (.int _ _)) rfl) ?_
 refine WPL.qq (q_mv (v := .lit (.string _)) rfl) ?_
 refine WPL.qq (q_len_str Tryz.underlying9 rfl) ?_
 obtain ⟨x67, h30, H⟩ := bnd H
 refine WPL.qq (q_nm (q_lss rfl rfl) (nm_bool h30)) ?_
 refine WPL.nx ?_
 refine WP.cond (t := x67) rfl (fun hb24 => ?_) (fun hb24 => ?_)
 · replace H := cnt hb24 H
   refine WP.sr ?_
   refine WPL.qq (q_build bu23 rfl) ?_
   refine WPL.s (s_store sz23 rfl rfl rfl rfl rfl) ?_
   refine WPL.qq (q_as (v := .lit (.int _ _)) rfl) ?_
   refine WPL.nx ?_
   refine WP.retW ?_
   obtain ⟨rfl, rfl, rfl⟩ := j3 H
   exact W.now (Then.r (BodyR.mkR trivial rfl [0] ⟨rfl, rfl⟩ ⟨rfl, AA1, by decide, rfl, trivial⟩ rfl rfl))
 replace H := cnf hb24 H
 refine WP.skipW ?_
 refine W.now ?_
 refine Then.n ?_
 refine WP.seq ?_
 refine WP.sr ?_
 refine WPL.qq (q_mv (v := .whole _) rfl) ?_
 refine WPL.qq (q_len_row sl76 rfl rfl) ?_
 obtain ⟨x68, h31, H⟩ := bnd H
 refine WPL.qq (q_nm (q_sub rfl rfl) (nm_int h31)) ?_
 refine WPL.qq (q_as (v := .lit (.int _ _)) rfl) ?_
 refine WPL.nx ?_
 refine WP.block ?_
 refine WP.cv (Cv.virC 3 (Rd.int .i64) (N := 3) rfl rfl (i := 1) (off := 1) rfl rfl) ?_
 refine WP.cv (Cv.weak (E' := (((((Env.none.upd 2 (.ptr 0 0)).upd 4 (.ptr 1 0)).upd 6 (.lit (.bool x6))).upd 7 (.whole 3)).upd 11 (.lit (.int .i64 x68)))) (M' := ((((Mem.nil.push (.cells 23 [.lit (.int .i64 0), .lit (.int .i64 0)])).push (.cells 81 [.lit (.bool false), .whole 2, .lit (.int .i64 x40)])).push (.row 3 (Rd.int .i64) ([] : List Int))).push (.row 3 (Rd.int .i64) x22))) [0, 1, 3, 2] hnp ⟨rfl, AA4, by decide, rfl, trivial⟩ (LeE.u (LeE.u (LeE.u (LeE.u (LeE.u (LeE.none rfl rfl))))))) ?_
 obtain ⟨x69, H17, H⟩ := bnd H
 refine WP.monoW (Q := fun x E M => x = .exit 6 ∧ E = (((Env.none.upd 2 (.ptr 0 0)).upd 4 (.ptr 1 0)).upd 6 (.lit (.bool x6))) ∧ M = (((Mem.nil.push (.cells 23 [.lit (.int .i64 0), .lit (.int .i64 0)])).push (.cells 81 [.lit (.bool false), .whole 2, .lit (.int .i64 x40)])).push (.row 3 (Rd.int .i64) x69))) ?_ ?_
 · refine WP.loop (β := Int × (List Int)) (fun n b => g_r9_Parse_l3 k x22 n b.1 b.2 = some x69) (fun b => (((((Env.none.upd 2 (.ptr 0 0)).upd 4 (.ptr 1 0)).upd 6 (.lit (.bool x6))).upd 7 (.whole 3)).upd 11 (.lit (.int .i64 b.1)))) (fun b => ((((Mem.nil.push (.cells 23 [.lit (.int .i64 0), .lit (.int .i64 0)])).push (.cells 81 [.lit (.bool false), .whole 2, .lit (.int .i64 x40)])).push (.row 3 (Rd.int .i64) b.2)).push (.row 3 (Rd.int .i64) x22))) k (x68, ([] : List Int)) H17 rfl rfl ?_
   rintro n ⟨x70, x71⟩ H
   obtain _ | n := n
   · exact nf rfl H
   rw [g_r9_Parse_l3.eq_2] at H
   show WP _ _ _ _ (((((Env.none.upd 2 (.ptr 0 0)).upd 4 (.ptr 1 0)).upd 6 (.lit (.bool x6))).upd 7 (.whole 3)).upd 11 (.lit (.int .i64 x70))) ((((Mem.nil.push (.cells 23 [.lit (.int .i64 0), .lit (.int .i64 0)])).push (.cells 81 [.lit (.bool false), .whole 2, .lit (.int .i64 x40)])).push (.row 3 (Rd.int .i64) x71)).push (.row 3 (Rd.int .i64) x22)) _
   refine WP.seq ?_
   refine WP.sr ?_
   refine WPL.qq (q_mv (v := .lit (.int _ _)) rfl) ?_
   refine WPL.qq (q_geq rfl rfl) ?_
   refine WPL.nx ?_
   refine WP.cond (t := (decide (0 ≤ x70))) rfl (fun hb25 => ?_) (fun hb25 => ?_)
   · replace H := cnt hb25 H
     refine WP.skipW ?_
     refine W.now ?_
     refine Then.n ?_
     refine WP.seq ?_
     refine WP.block ?_
     refine WP.regionD' 12 [1, 3] [11] mixed rfl ?_
     refine WPD.tT 0 rfl (q_fieldAddr fi81_0 rfl rfl) ?_
     refine WPD.tT 1 rfl (q_fieldAddr fi78_1 rfl rfl) ?_
     refine WPD.tT 3 rfl (q_mv (v := .whole _) rfl) ?_
     refine WPD.tT 4 rfl (q_mv (v := .lit (.int _ _)) rfl) ?_
     obtain ⟨x72, h32, H⟩ := bnd H
     refine WPD.tT 5 rfl (q_index_row sl76 rfl rfl rfl (ixs h32)) ?_
     refine WPD.take 2 rfl (by kernel_rfl) (q_load sc76 rfl rfl rfl) rfl rfl ?_
     refine WPD.take 6 rfl (by kernel_rfl) (q_load_row (j := (Int.toNat x70)) sc3 rfl rfl (ixj h32)) rfl rfl ?_
     refine WPD.ef 7 [1, 3] [11] rfl (Does.runs (d_buildSlice (ds := ([x72] : List Int)) (R := (Rd.int .i64)) li76 rfl rfl rfl rfl rfl (JoinRows.cons1 Joins.sc rfl JoinRows.nil) rfl rfl)) ?_
     obtain ⟨h32, H⟩ := grd H
     refine WPD.ef 8 [1, 3] [11] rfl (Does.runs (d_append ap76 rfl rfl rfl rfl (src_row sl76 rfl rfl) h32 rfl)) ?_
     refine WPD.tT 9 rfl (q_fieldAddr fi81_0 rfl rfl) ?_
     refine WPD.tT 10 rfl (q_fieldAddr fi78_1 rfl rfl) ?_
     refine WPD.effS 11 [] [] rfl (by kernel_rfl) (s_store sz76 rfl rfl rfl rfl rfl) rfl ?_
     refine WPD.doneW (by kernel_rfl) ?_
     refine W.now ?_
     refine InBlock.n ?_
     refine Then.n ?_
     refine WP.region ?_
     refine WPL.qq (q_mv (v := .lit (.int _ _)) rfl) ?_
     refine WPL.qq (q_sub rfl rfl) ?_
     refine WPL.qq (q_as (v := .lit (.int _ _)) rfl) ?_
     refine WPL.nilW ?_
     exact W.wk [0, 1, 5, 3] hnp (Then.n ⟨n, ((IntKind.wrap .i64 (x70 - 1)), (x71 ++ ([x72] : List Int))), Nat.lt_succ_self n, H, rfl, rfl⟩) ⟨rfl, AA4, by decide, rfl, trivial⟩ (LeE.u (LeE.u (LeE.u (LeE.u (LeE.u (LeE.none rfl rfl)))))) rfl
   replace H := cnf hb25 H
   refine WP.exitW ?_
   have q0 := j1 H
   subst q0
   exact W.wk [0, 1, 2] hnp (Then.x (Then.x r3)) ⟨rfl, AA3, by decide, rfl, trivial⟩ (LeE.u (LeE.u (LeE.u (LeE.none rfl rfl)))) rfl
 rintro _ _ _ ⟨rfl, rfl, rfl⟩
 refine W.now ?_
 refine InBlock.x0 ?_
 refine Then.n ?_
 refine WP.sr ?_
 refine WPL.qq (q_mv (v := .lit (.bool _)) rfl) ?_
 refine WPL.qq (q_fieldAddr fi81_0 rfl rfl) ?_
 refine WPL.qq (q_fieldAddr fi78_0 rfl rfl) ?_
 refine WPL.s (s_store sz4 rfl rfl rfl rfl rfl) ?_
 refine WPL.nx ?_
 refine WP.sr ?_
 refine WPL.qq (q_fieldAddr fi81_0 rfl rfl) ?_
 refine WPL.qq (q_load_ag ag78 rfl rfl (Nat.le_of_ble_eq_true rfl)) ?_
 obtain ⟨⟨x73, x74⟩, h33, H⟩ := bnd H
 refine WPL.c (runs_call (s := [2]) (t := [3]) (N := 4) (bor := []) fn97 rfl (s_r9_trim__b k x6 x69 x73 x74 h33) ⟨rfl, AA1, by decide, rfl, trivial⟩ rfl trivial (.ren rfl rfl .nil) rfl BB1 rfl) rfl ?_
 refine WPL.qq (q_fieldAddr fi81_0 rfl rfl) ?_
 refine WPL.s (s_store sz78 rfl rfl rfl rfl rfl) ?_
 refine WPL.nx ?_
 refine WP.sr ?_
 refine WPL.qq (q_load_ag ag81 rfl rfl (Nat.le_of_ble_eq_true rfl)) ?_
 obtain ⟨⟨x75, x76, x77⟩, h34, H⟩ := bnd H
 refine WPL.c (runs_call (s := []) (t := [4]) (N := 5) (bor := []) fn84 rfl (s_r9_Tell k x73 x74 x40 x75 x76 x77 h34) ⟨rfl, trivial, by decide, rfl, trivial⟩ rfl trivial (.ren rfl rfl .nil) rfl BB1 rfl) rfl ?_
 refine WPL.qq (q_extract rfl rfl) ?_
 refine WPL.qq (q_extract rfl rfl) ?_
 refine WPL.s (s_store sz23 rfl rfl rfl rfl rfl) ?_
 refine WPL.qq (q_as (v := .lit (.int _ _)) rfl) ?_
 refine WPL.nx ?_
 refine WP.retW ?_
 obtain ⟨rfl, rfl, rfl⟩ := j3 H
 exact W.now (BodyR.mkR trivial rfl [0] ⟨rfl, rfl⟩ ⟨rfl, AA1, by decide, rfl, trivial⟩ rfl rfl)
end Go.Proofs.YthpcgknknpjpdaaGreatDoor.W
namespace Go.Proofs.YthpcgknknpjpdaaGreatDoor.W
open Go Go.Q Go.Proofs
set_option linter.unusedVariables false
set_option linter.unusedSimpArgs false
set_option maxRecDepth 100000
set_option maxHeartbeats 4000000
theorem s_rv_Typed (k : Nat) (x1 : ByteArray) (x2 : Int) (x3 : Int) (x4 : Int) (x5 : ByteArray) (x6 : Bool) (x7 : Int) (H : g_rv_Typed k x1 = some (x2, x3, x4, x5, x6, x7)) : Go.Q.Spec Tryz.prog 20 0 [.lit (.string x1)] Mem.nil (fun o M => o = .ret (.agg [.lit (.int .i64 x2), .lit (.int .i64 x3), .lit (.int .i64 x4), .lit (.string x5), .lit (.bool x6), .lit (.int .i64 x7)]) ∧ M = (Mem.nil.push (.cells 29 [.lit (.int .i64 x2), .lit (.int .i64 x3), .lit (.int .i64 x4), .lit (.string x5), .lit (.bool x6), .lit (.int .i64 x7)]))) := by
 unfold g_rv_Typed at H
 refine Go.Q.Spec.of_bodyR (az := [(29, 6)]) (rs := [.cell 2 29]) (nt := 44) Tryz.func20 rfl rfl (by intro t T h; simp at h; rcases h with ⟨rfl, rfl⟩ <;> first | exact ag29) rfl rfl fun cx hnp => ?_
 refine WP.sr ?_
 refine WPL.d (d_alloc ze29 rfl) rfl ?_
 refine WPL.nx ?_
 refine WP.seq ?_
 refine WP.sr ?_
 refine WPL.qq (q_mv (v := .lit (.string _)) rfl) ?_
 obtain ⟨x8, h1, H⟩ := bnd H
 refine WPL.qq (q_nm (q_eqls rfl rfl) (nm_bool h1)) ?_
 refine WPL.nx ?_
 refine WP.cond (t := x8) rfl (fun hb1 => ?_) (fun hb1 => ?_)
 · replace H := cnt hb1 H
   refine WP.sr ?_
   refine WPL.qq (q_build bu29 rfl) ?_
   refine WPL.s (s_store sz29 rfl rfl rfl rfl rfl) ?_
   refine WPL.nx ?_
   refine WP.retW ?_
   obtain ⟨rfl, rfl, rfl, rfl, rfl, rfl⟩ := j6 H
   exact W.now (Then.r (BodyR.mkR trivial rfl [0] ⟨rfl, rfl⟩ ⟨rfl, AA1, by decide, rfl, trivial⟩ rfl rfl))
 replace H := cnf hb1 H
 refine WP.skipW ?_
 refine W.now ?_
 refine Then.n ?_
 refine WP.seq ?_
 refine WP.seq ?_
 obtain ⟨x9, H1, H⟩ := bnd H
 refine WP.monoW (Q := fun x E M => x = .normal ∧ E = (((Env.none.upd 0 (.lit (.string x1))).upd 2 (.ptr 0 0)).upd 15 (.lit (.bool x9))) ∧ M = (Mem.nil.push (.cells 29 [.lit (.int .i64 0), .lit (.int .i64 0), .lit (.int .i64 0), .lit (.string (ByteArray.mk #[])), .lit (.bool false), .lit (.int .i64 0)]))) ?_ ?_
 · clear H
   have H := H1
   clear H1
   refine WP.region ?_
   refine WPL.qq (q_mv (v := .lit (.string _)) rfl) ?_
   obtain ⟨x10, h2, H⟩ := bnd H
   refine WPL.qq (q_nm (q_eqls rfl rfl) (nm_bool h2)) ?_
   refine WPL.qq (q_mv (v := .lit (.bool _)) rfl) ?_
   refine WPL.split (t := 12) (b := x10) rfl (fun hb2 => ?_) (fun hb2 => ?_)
   · replace H := cnt hb2 H
     refine WPL.sg true rfl (lb hb2) ?_
     refine WPL.sg true rfl (lb hb2) ?_
     refine WPL.qq (q_pickT (v := .lit (.bool _)) (lb hb2) rfl) ?_
     refine WPL.nilW ?_
     have q0 := j1 H
     subst q0
     exact W.wk [0] hnp r3 ⟨rfl, AA1, by decide, rfl, trivial⟩ (LeE.u (LeE.u (LeE.u (LeE.none rfl rfl)))) rfl
   replace H := cnf hb2 H
   refine WPL.gq rfl (lb hb2) (q_mv (v := .lit (.string _)) rfl) ?_
   obtain ⟨x11, h3, H⟩ := bnd H
   refine WPL.gq rfl (lb hb2) (q_nm (q_eqls rfl rfl) (nm_bool h3)) ?_
   refine WPL.qq (q_pickF (v := .lit (.bool _)) (lb hb2) rfl) ?_
   refine WPL.nilW ?_
   have q0 := j1 H
   subst q0
   exact W.wk [0] hnp r3 ⟨rfl, AA1, by decide, rfl, trivial⟩ (LeE.u (LeE.u (LeE.u (LeE.none rfl rfl)))) rfl
 rintro _ _ _ ⟨rfl, rfl, rfl⟩
 refine W.now ?_
 refine Then.n ?_
 refine WP.cond (t := x9) rfl (fun hb3 => ?_) (fun hb3 => ?_)
 · replace H := cnt hb3 H
   refine WP.sr ?_
   refine WPL.qq (q_mv (v := .lit (.string _)) rfl) ?_
   obtain ⟨x12, h4, H⟩ := bnd H
   refine WPL.qq (q_nm (q_eqls rfl rfl) (nm_bool h4)) ?_
   obtain ⟨_, h4, H⟩ := bnd H
   refine WPL.c (runs_call (s := []) (t := [1]) (N := 2) (bor := []) fn22 rfl (s_rv_Truth k x12 h4) ⟨rfl, trivial, by decide, rfl, trivial⟩ rfl trivial (.ren rfl rfl .nil) rfl BB1 rfl) rfl ?_
   refine WPL.s (s_store sz29 rfl rfl rfl rfl rfl) ?_
   refine WPL.nx ?_
   refine WP.retW ?_
   obtain ⟨rfl, rfl, rfl, rfl, rfl, rfl⟩ := j6 H
   exact W.now (Then.r (BodyR.mkR trivial rfl [0] ⟨rfl, rfl⟩ ⟨rfl, AA1, by decide, rfl, trivial⟩ rfl rfl))
 replace H := cnf hb3 H
 refine WP.skipW ?_
 refine W.now ?_
 refine Then.n ?_
 refine WP.seq ?_
 refine WP.sr ?_
 refine WPL.qq (q_mv (v := .lit (.string _)) rfl) ?_
 obtain ⟨⟨x13, x14⟩, h5, H⟩ := bnd H
 refine WPL.c (runs_call (s := []) (t := []) (N := 1) (bor := []) fn10 rfl (s_rv_ErrCode k x1 x13 x14 h5) ⟨rfl, trivial, by decide, rfl, trivial⟩ rfl trivial (.ren rfl rfl .nil) rfl trivial rfl) rfl ?_
 refine WPL.qq (q_mv (v := .tup _) rfl) ?_
 refine WPL.qq (q_extract rfl rfl) ?_
 refine WPL.qq (q_extract rfl rfl) ?_
 refine WPL.qq (q_as (v := .lit (.int _ _)) rfl) ?_
 refine WPL.qq (q_as (v := .lit (.bool _)) rfl) ?_
 refine WPL.nx ?_
 refine WP.sr ?_
 refine WPL.qq (q_mv (v := .lit (.bool _)) rfl) ?_
 refine WPL.nx ?_
 refine WP.cond (t := x14) rfl (fun hb4 => ?_) (fun hb4 => ?_)
 · replace H := cnt hb4 H
   refine WP.sr ?_
   refine WPL.qq (q_mv (v := .lit (.int _ _)) rfl) ?_
   obtain ⟨x15, h6, H⟩ := bnd H
   refine WPL.c (runs_call (s := []) (t := [1]) (N := 2) (bor := []) fn17 rfl (s_rv_Err k x13 x15 h6) ⟨rfl, trivial, by decide, rfl, trivial⟩ rfl trivial (.ren rfl rfl .nil) rfl BB1 rfl) rfl ?_
   refine WPL.s (s_store sz29 rfl rfl rfl rfl rfl) ?_
   refine WPL.nx ?_
   refine WP.retW ?_
   obtain ⟨rfl, rfl, rfl, rfl, rfl, rfl⟩ := j6 H
   exact W.now (Then.r (BodyR.mkR trivial rfl [0] ⟨rfl, rfl⟩ ⟨rfl, AA1, by decide, rfl, trivial⟩ rfl rfl))
 replace H := cnf hb4 H
 refine WP.skipW ?_
 refine W.now ?_
 refine Then.n ?_
 refine WP.sr ?_
 refine WPL.qq (q_mv (v := .lit (.string _)) rfl) ?_
 obtain ⟨⟨x16, x17, x18⟩, h7, H⟩ := bnd H
 refine WPL.c (runs_call (s := []) (t := [1]) (N := 2) (bor := []) fn51 rfl (s_r9_Parse k x1 x16 x17 x18 h7) ⟨rfl, trivial, by decide, rfl, trivial⟩ rfl trivial (.ren rfl rfl .nil) rfl BB1 rfl) rfl ?_
 refine WPL.qq (q_mv (v := .tup _) rfl) ?_
 refine WPL.qq (q_extract rfl rfl) ?_
 refine WPL.qq (q_extract rfl rfl) ?_
 refine WPL.d (d_alloc ze23 rfl) rfl ?_
 refine WPL.s (s_store sz23 rfl rfl rfl rfl rfl) ?_
 refine WPL.qq (q_as (v := .lit (.int _ _)) rfl) ?_
 refine WPL.nx ?_
 refine WP.seq ?_
 refine WP.sr ?_
 refine WPL.qq (q_mv (v := .lit (.int _ _)) rfl) ?_
 refine WPL.qq (q_eql rfl rfl) ?_
 refine WPL.nx ?_
 refine WP.cond (t := (decide (x16 = 0))) rfl (fun hb5 => ?_) (fun hb5 => ?_)
 · replace H := cnt hb5 H
   refine WP.sr ?_
   refine WPL.qq (q_load_ag ag23 rfl rfl (Nat.le_of_ble_eq_true rfl)) ?_
   refine WPL.qq (q_mv (v := .lit (.int _ _)) rfl) ?_
   obtain ⟨⟨x19, x20, x21, x22⟩, h8, H⟩ := bnd H
   refine WPL.c (runs_call (s := []) (t := [3]) (N := 4) (bor := []) fn13 rfl (s_rv_Of k x17 x18 x16 x19 x20 x21 x22 h8) ⟨rfl, trivial, by decide, rfl, trivial⟩ rfl trivial (.ren rfl rfl (.ren rfl rfl .nil)) rfl BB1 rfl) rfl ?_
   refine WPL.s (s_store sz29 rfl rfl rfl rfl rfl) ?_
   refine WPL.nx ?_
   refine WP.retW ?_
   obtain ⟨rfl, rfl, rfl, rfl, rfl, rfl⟩ := j6 H
   exact W.now (Then.r (BodyR.mkR trivial rfl [0] ⟨rfl, rfl⟩ ⟨rfl, AA1, by decide, rfl, trivial⟩ rfl rfl))
 replace H := cnf hb5 H
 refine WP.skipW ?_
 refine W.now ?_
 refine Then.n ?_
 refine WP.seq ?_
 obtain ⟨x23, H2, H⟩ := bnd H
 refine WP.monoW (Q := fun x E M => x = .normal ∧ E = ((Env.none.upd 0 (.lit (.string x23))).upd 2 (.ptr 0 0)) ∧ M = (Mem.nil.push (.cells 29 [.lit (.int .i64 0), .lit (.int .i64 0), .lit (.int .i64 0), .lit (.string (ByteArray.mk #[])), .lit (.bool false), .lit (.int .i64 0)]))) ?_ ?_
 · clear H
   have H := H2
   clear H2
   refine WP.sr ?_
   refine WPL.qq (q_mv (v := .lit (.string _)) rfl) ?_
   obtain ⟨x24, h9, H⟩ := bnd H
   refine WPL.qq (q_index_str Tryz.underlying9 rfl rfl h9) ?_
   refine WPL.qq (q_eql rfl rfl) ?_
   refine WPL.nx ?_
   refine WP.cond (t := (decide (x24 = 39))) rfl (fun hb6 => ?_) (fun hb6 => ?_)
   · replace H := cnt hb6 H
     refine WP.region ?_
     refine WPL.qq (q_mv (v := .lit (.string _)) rfl) ?_
     obtain ⟨h10, H⟩ := grd H
     obtain ⟨x25, h11, H⟩ := bnd H
     refine WPL.qq (q_nm (q_slice_str (i := 1) (j := ((ByteArray.size x1 : Nat) : Int)) Tryz.underlying9 rfl ⟨_, rfl⟩ rfl h10) (nm_str h11)) ?_
     refine WPL.qq (q_as (v := .lit (.string _)) rfl) ?_
     refine WPL.nilW ?_
     have q0 := j1 H
     subst q0
     exact W.wk [0] hnp r3 ⟨rfl, AA1, by decide, rfl, trivial⟩ (LeE.u (LeE.u (LeE.none rfl rfl))) rfl
   replace H := cnf hb6 H
   refine WP.skipW ?_
   have q0 := j1 H
   subst q0
   exact W.wk [0] hnp r3 ⟨rfl, AA1, by decide, rfl, trivial⟩ (LeE.u (LeE.u (LeE.none rfl rfl))) rfl
 rintro _ _ _ ⟨rfl, rfl, rfl⟩
 refine W.now ?_
 refine Then.n ?_
 refine WP.sr ?_
 refine WPL.qq (q_mv (v := .lit (.string _)) rfl) ?_
 obtain ⟨⟨x26, x27, x28⟩, h12, H⟩ := bnd H
 refine WPL.c (runs_call (s := []) (t := [1]) (N := 2) (bor := []) fn15 rfl (s_rv_Str k x23 x26 x27 x28 h12) ⟨rfl, trivial, by decide, rfl, trivial⟩ rfl trivial (.ren rfl rfl .nil) rfl BB1 rfl) rfl ?_
 refine WPL.s (s_store sz29 rfl rfl rfl rfl rfl) ?_
 refine WPL.nx ?_
 refine WP.retW ?_
 obtain ⟨rfl, rfl, rfl, rfl, rfl, rfl⟩ := j6 H
 exact W.now (BodyR.mkR trivial rfl [0] ⟨rfl, rfl⟩ ⟨rfl, AA1, by decide, rfl, trivial⟩ rfl rfl)
theorem s_val_Right (k : Nat) (x1 : Int) (x2 : Int) (x3 : Int) (x4 : ByteArray) (x5 : Bool) (x6 : Int) (x7 : Bool) (H : g_val_Right k x1 x2 x3 x4 x5 x6 = some x7) : Go.Q.Spec Tryz.prog 25 0 [.agg [.lit (.int .i64 x1), .lit (.int .i64 x2), .lit (.int .i64 x3), .lit (.string x4), .lit (.bool x5), .lit (.int .i64 x6)]] Mem.nil (fun o M => o = .ret (.lit (.bool x7)) ∧ M = Mem.nil) := by
 unfold g_val_Right at H
 refine Go.Q.Spec.of_bodyR (az := []) (rs := [.tmp 2]) (nt := 46) Tryz.func25 rfl rfl (by intro t T h; simp at h) rfl rfl fun cx hnp => ?_
 refine WP.sr ?_
 refine WPL.d (d_box rfl rfl) rfl ?_
 refine WPL.qq (q_as (v := .lit (.bool _)) rfl) ?_
 refine WPL.nx ?_
 refine WP.seq ?_
 refine WP.sr ?_
 refine WPL.qq (q_fieldAddr fi29_0 rfl rfl) ?_
 refine WPL.qq (q_load sc3 rfl rfl rfl) ?_
 refine WPL.nx ?_
 refine WP.block ?_
 refine WP.seq ?_
 obtain ⟨x8, H1, H⟩ := bnd H
 refine WP.monoW (Q := fun x E M => x = .normal ∧ E = (((Env.none.upd 1 (.ptr 0 0)).upd 4 (.lit (.int .i64 x1))).upd 5 (.lit (.bool x8))) ∧ M = (Mem.nil.push (.cells 29 [.lit (.int .i64 x1), .lit (.int .i64 x2), .lit (.int .i64 x3), .lit (.string x4), .lit (.bool x5), .lit (.int .i64 x6)]))) ?_ ?_
 · clear H
   have H := H1
   clear H1
   refine WP.sr ?_
   refine WPL.qq (q_eql rfl rfl) ?_
   refine WPL.qq (q_as (v := .lit (.bool _)) rfl) ?_
   refine WPL.nx ?_
   refine WP.cond (t := (decide (x1 = 0))) rfl (fun hb1 => ?_) (fun hb1 => ?_)
   · replace H := cnt hb1 H
     refine WP.skipW ?_
     have q0 := j1 H
     subst q0
     exact W.wk [0] hnp r3 ⟨rfl, AA1, by decide, rfl, trivial⟩ (LeE.u (LeE.u (LeE.u (LeE.none rfl rfl)))) rfl
   replace H := cnf hb1 H
   refine WP.region ?_
   refine WPL.qq (q_eql rfl rfl) ?_
   refine WPL.qq (q_as (v := .lit (.bool _)) rfl) ?_
   refine WPL.nilW ?_
   have q0 := j1 H
   subst q0
   exact W.wk [0] hnp r3 ⟨rfl, AA1, by decide, rfl, trivial⟩ (LeE.u (LeE.u (LeE.u (LeE.none rfl rfl)))) rfl
 rintro _ _ _ ⟨rfl, rfl, rfl⟩
 refine W.now ?_
 refine Then.n ?_
 refine WP.cond (t := x8) rfl (fun hb2 => ?_) (fun hb2 => ?_)
 · replace H := cnt hb2 H
   refine WP.seq ?_
   obtain ⟨x9, H2, H⟩ := bnd H
   refine WP.monoW (Q := fun x E M => x = .normal ∧ E = (Env.none.upd 2 (.lit (.bool x9))) ∧ M = Mem.nil) ?_ ?_
   · clear H
     have H := H2
     clear H2
     refine WP.region ?_
     refine WPL.qq (q_load_ag ag29 rfl rfl (Nat.le_of_ble_eq_true rfl)) ?_
     refine WPL.qq (q_fieldAddr fi29_0 rfl rfl) ?_
     refine WPL.qq (q_load sc3 rfl rfl rfl) ?_
     refine WPL.qq (q_fieldAddr fi29_3 rfl rfl) ?_
     refine WPL.qq (q_load sc4 rfl rfl rfl) ?_
     refine WPL.qq (q_mv (v := .lit (.bool _)) rfl) ?_
     refine WPL.split (t := 13) (b := x5) rfl (fun hb3 => ?_) (fun hb3 => ?_)
     · replace H := cnt hb3 H
       refine WPL.gq rfl (lb hb3) (q_fieldAddr fi29_0 rfl rfl) ?_
       refine WPL.gq rfl (lb hb3) (q_load sc3 rfl rfl rfl) ?_
       refine WPL.gq rfl (lb hb3) (q_eql rfl rfl) ?_
       refine WPL.qq (q_pickT (v := .lit (.bool _)) (lb hb3) rfl) ?_
       refine WPL.qq (q_build bu29 rfl) ?_
       obtain ⟨x10, h1, H⟩ := bnd H
       refine WPL.qq (q_nm (q_eqlAg (xs := [(.int .i64 x1), (.int .i64 x2), (.int .i64 x3), (.string x4), (.bool x5), (.int .i64 x6)]) (ys := [(.int .i64 x1), (.int .i64 0), (.int .i64 0), (.string (ByteArray.mk #[])), (.bool (decide (x1 = 3))), (.int .i64 0)]) (n := 9) rfl eg29 rfl rfl eq29) (nm_bool h1)) ?_
       refine WPL.qq (q_as (v := .lit (.bool _)) rfl) ?_
       refine WPL.nilW ?_
       have q0 := j1 H
       subst q0
       exact W.wk [] hnp r3 ⟨rfl, trivial, by decide, rfl, trivial⟩ (LeE.u (LeE.none rfl rfl)) rfl
     replace H := cnf hb3 H
     refine WPL.sg false rfl (lb hb3) ?_
     refine WPL.sg false rfl (lb hb3) ?_
     refine WPL.sg false rfl (lb hb3) ?_
     refine WPL.qq (q_pickF (v := .lit (.bool _)) (lb hb3) rfl) ?_
     refine WPL.qq (q_build bu29 rfl) ?_
     obtain ⟨x11, h2, H⟩ := bnd H
     refine WPL.qq (q_nm (q_eqlAg (xs := [(.int .i64 x1), (.int .i64 x2), (.int .i64 x3), (.string x4), (.bool x5), (.int .i64 x6)]) (ys := [(.int .i64 x1), (.int .i64 0), (.int .i64 0), (.string (ByteArray.mk #[])), (.bool false), (.int .i64 0)]) (n := 9) rfl eg29 rfl rfl eq29) (nm_bool h2)) ?_
     refine WPL.qq (q_as (v := .lit (.bool _)) rfl) ?_
     refine WPL.nilW ?_
     have q0 := j1 H
     subst q0
     exact W.wk [] hnp r3 ⟨rfl, trivial, by decide, rfl, trivial⟩ (LeE.u (LeE.none rfl rfl)) rfl
   rintro _ _ _ ⟨rfl, rfl, rfl⟩
   refine W.now ?_
   refine Then.n ?_
   refine WP.retW ?_
   have q0 := j1 H
   subst q0
   exact W.now (InBlock.r (Then.r (BodyR.mkR trivial rfl [] ⟨rfl, rfl⟩ ⟨rfl, trivial, by decide, rfl, trivial⟩ rfl rfl)))
 replace H := cnf hb2 H
 refine WP.sr ?_
 refine WPL.qq (q_eql rfl rfl) ?_
 refine WPL.qq (q_as (v := .lit (.bool _)) rfl) ?_
 refine WPL.nx ?_
 refine WP.cond (t := (decide (x1 = 1))) rfl (fun hb4 => ?_) (fun hb4 => ?_)
 · replace H := cnt hb4 H
   refine WP.seq ?_
   obtain ⟨x12, H3, H⟩ := bnd H
   refine WP.monoW (Q := fun x E M => x = .normal ∧ E = (Env.none.upd 2 (.lit (.bool x12))) ∧ M = Mem.nil) ?_ ?_
   · clear H
     have H := H3
     clear H3
     refine WP.region ?_
     refine WPL.qq (q_fieldAddr fi29_1 rfl rfl) ?_
     refine WPL.qq (q_load_ag ag23 rfl rfl (Nat.le_of_ble_eq_true rfl)) ?_
     obtain ⟨x13, h3, H⟩ := bnd H
     refine WPL.c (runs_call (s := []) (t := []) (N := 1) (bor := []) fn45 rfl (s_dec_Right k x2 x3 x13 h3) ⟨rfl, trivial, by decide, rfl, trivial⟩ rfl trivial (.ren rfl rfl .nil) rfl trivial rfl) rfl ?_
     refine WPL.qq (q_mv (v := .lit (.bool _)) rfl) ?_
     refine WPL.split (t := 25) (b := x13) rfl (fun hb5 => ?_) (fun hb5 => ?_)
     · replace H := cnt hb5 H
       refine WPL.gq rfl (lb hb5) (q_load_ag ag29 rfl rfl (Nat.le_of_ble_eq_true rfl)) ?_
       refine WPL.gq rfl (lb hb5) (q_fieldAddr fi29_1 rfl rfl) ?_
       refine WPL.gq rfl (lb hb5) (q_load_ag ag23 rfl rfl (Nat.le_of_ble_eq_true rfl)) ?_
       refine WPL.gq rfl (lb hb5) (q_build bu29 rfl) ?_
       obtain ⟨x14, h4, H⟩ := bnd H
       refine WPL.gq rfl (lb hb5) (q_nm (q_eqlAg (xs := [(.int .i64 x1), (.int .i64 x2), (.int .i64 x3), (.string x4), (.bool x5), (.int .i64 x6)]) (ys := [(.int .i64 1), (.int .i64 x2), (.int .i64 x3), (.string (ByteArray.mk #[])), (.bool false), (.int .i64 0)]) (n := 9) rfl eg29 rfl rfl eq29) (nm_bool h4)) ?_
       refine WPL.qq (q_pickT (v := .lit (.bool _)) (lb hb5) rfl) ?_
       refine WPL.qq (q_as (v := .lit (.bool _)) rfl) ?_
       refine WPL.nilW ?_
       have q0 := j1 H
       subst q0
       exact W.wk [] hnp r3 ⟨rfl, trivial, by decide, rfl, trivial⟩ (LeE.u (LeE.none rfl rfl)) rfl
     replace H := cnf hb5 H
     refine WPL.sg false rfl (lb hb5) ?_
     refine WPL.sg false rfl (lb hb5) ?_
     refine WPL.sg false rfl (lb hb5) ?_
     refine WPL.sg false rfl (lb hb5) ?_
     refine WPL.sg false rfl (lb hb5) ?_
     refine WPL.qq (q_pickF (v := .lit (.bool _)) (lb hb5) rfl) ?_
     refine WPL.qq (q_as (v := .lit (.bool _)) rfl) ?_
     refine WPL.nilW ?_
     have q0 := j1 H
     subst q0
     exact W.wk [] hnp r3 ⟨rfl, trivial, by decide, rfl, trivial⟩ (LeE.u (LeE.none rfl rfl)) rfl
   rintro _ _ _ ⟨rfl, rfl, rfl⟩
   refine W.now ?_
   refine Then.n ?_
   refine WP.retW ?_
   have q0 := j1 H
   subst q0
   exact W.now (InBlock.r (Then.r (BodyR.mkR trivial rfl [] ⟨rfl, rfl⟩ ⟨rfl, trivial, by decide, rfl, trivial⟩ rfl rfl)))
 replace H := cnf hb4 H
 refine WP.sr ?_
 refine WPL.qq (q_eql rfl rfl) ?_
 refine WPL.qq (q_as (v := .lit (.bool _)) rfl) ?_
 refine WPL.nx ?_
 refine WP.cond (t := (decide (x1 = 2))) rfl (fun hb6 => ?_) (fun hb6 => ?_)
 · replace H := cnt hb6 H
   refine WP.seq ?_
   refine WP.regionD' 6 [0] [] mixed rfl ?_
   refine WPD.tT 1 rfl (q_fieldAddr fi29_2 rfl rfl) ?_
   refine WPD.take 0 rfl (by kernel_rfl) (q_load_ag ag29 rfl rfl (Nat.le_of_ble_eq_true rfl)) rfl rfl ?_
   refine WPD.take 2 rfl (by kernel_rfl) (q_load sc9 rfl rfl rfl) rfl rfl ?_
   obtain ⟨⟨x15, x16, x17⟩, h5, H⟩ := bnd H
   refine WPD.ef 3 [0] [] rfl (runs_call (s := []) (t := [1]) (N := 2) (bor := []) fn14 rfl (s_val_Str k x4 x15 x16 x17 h5) ⟨rfl, trivial, by decide, rfl, trivial⟩ rfl trivial (.ren rfl rfl .nil) rfl BB1 rfl) ?_
   obtain ⟨x18, h6, H⟩ := bnd H
   refine WPD.tT 4 rfl (q_nm (q_eqlAg (xs := [(.int .i64 x1), (.int .i64 x2), (.int .i64 x3), (.string x4), (.bool x5), (.int .i64 x6)]) (ys := [(.int .i64 x15), (.int .i64 0), (.int .i64 0), (.string x16), (.bool false), (.int .i64 x17)]) (n := 9) rfl eg29 rfl rfl eq29) (nm_bool h6)) ?_
   refine WPD.tT 5 rfl (q_as (v := .lit (.bool _)) rfl) ?_
   refine WPD.doneW (by kernel_rfl) ?_
   refine W.now ?_
   refine Then.n ?_
   refine WP.retW ?_
   have q0 := j1 H
   subst q0
   exact W.now (InBlock.r (Then.r (BodyR.mkR trivial rfl [] ⟨rfl, rfl⟩ ⟨rfl, trivial, by decide, rfl, trivial⟩ rfl rfl)))
 replace H := cnf hb6 H
 refine WP.sr ?_
 refine WPL.qq (q_eql rfl rfl) ?_
 refine WPL.qq (q_as (v := .lit (.bool _)) rfl) ?_
 refine WPL.nx ?_
 refine WP.cond (t := (decide (x1 = 4))) rfl (fun hb7 => ?_) (fun hb7 => ?_)
 · replace H := cnt hb7 H
   refine WP.seq ?_
   refine WP.regionD' 6 [0] [] mixed rfl ?_
   refine WPD.tT 1 rfl (q_fieldAddr fi29_4 rfl rfl) ?_
   refine WPD.take 0 rfl (by kernel_rfl) (q_load_ag ag29 rfl rfl (Nat.le_of_ble_eq_true rfl)) rfl rfl ?_
   refine WPD.take 2 rfl (by kernel_rfl) (q_load sc3 rfl rfl rfl) rfl rfl ?_
   obtain ⟨x19, h7, H⟩ := bnd H
   refine WPD.ef 3 [0] [] rfl (runs_call (s := []) (t := [1]) (N := 2) (bor := []) fn16 rfl (s_val_Err k x6 x19 h7) ⟨rfl, trivial, by decide, rfl, trivial⟩ rfl trivial (.ren rfl rfl .nil) rfl BB1 rfl) ?_
   obtain ⟨x20, h8, H⟩ := bnd H
   refine WPD.tT 4 rfl (q_nm (q_eqlAg (xs := [(.int .i64 x1), (.int .i64 x2), (.int .i64 x3), (.string x4), (.bool x5), (.int .i64 x6)]) (ys := [(.int .i64 4), (.int .i64 0), (.int .i64 0), (.string (ByteArray.mk #[])), (.bool false), (.int .i64 x19)]) (n := 9) rfl eg29 rfl rfl eq29) (nm_bool h8)) ?_
   refine WPD.tT 5 rfl (q_as (v := .lit (.bool _)) rfl) ?_
   refine WPD.doneW (by kernel_rfl) ?_
   refine W.now ?_
   refine Then.n ?_
   refine WP.retW ?_
   have q0 := j1 H
   subst q0
   exact W.now (InBlock.r (Then.r (BodyR.mkR trivial rfl [] ⟨rfl, rfl⟩ ⟨rfl, trivial, by decide, rfl, trivial⟩ rfl rfl)))
 replace H := cnf hb7 H
 refine WP.skipW ?_
 refine W.now ?_
 refine InBlock.n ?_
 refine Then.n ?_
 refine WP.sr ?_
 refine WPL.qq (q_as (v := .lit (.bool _)) rfl) ?_
 refine WPL.nx ?_
 refine WP.retW ?_
 have q0 := j1 H
 subst q0
 exact W.now (BodyR.mkR trivial rfl [] ⟨rfl, rfl⟩ ⟨rfl, trivial, by decide, rfl, trivial⟩ rfl rfl)
theorem s_val_clean (k : Nat) (x1 : Int) (x2 : Int) (x3 : Int) (x4 : ByteArray) (x5 : Bool) (x6 : Int) (x7 : Int) (x8 : Int) (x9 : Int) (x10 : ByteArray) (x11 : Bool) (x12 : Int) (H : g_val_clean k x1 x2 x3 x4 x5 x6 = some (x7, x8, x9, x10, x11, x12)) : Go.Q.Spec Tryz.prog 53 0 [.agg [.lit (.int .i64 x1), .lit (.int .i64 x2), .lit (.int .i64 x3), .lit (.string x4), .lit (.bool x5), .lit (.int .i64 x6)]] Mem.nil (fun o M => o = .ret (.agg [.lit (.int .i64 x7), .lit (.int .i64 x8), .lit (.int .i64 x9), .lit (.string x10), .lit (.bool x11), .lit (.int .i64 x12)]) ∧ M = (Mem.nil.push (.cells 29 [.lit (.int .i64 x7), .lit (.int .i64 x8), .lit (.int .i64 x9), .lit (.string x10), .lit (.bool x11), .lit (.int .i64 x12)]))) := by
 unfold g_val_clean at H
 refine Go.Q.Spec.of_bodyR (az := [(29, 6)]) (rs := [.cell 2 29]) (nt := 7) Tryz.func53 rfl rfl (by intro t T h; simp at h; rcases h with ⟨rfl, rfl⟩ <;> first | exact ag29) rfl rfl fun cx hnp => ?_
 refine WP.sr ?_
 refine WPL.d (d_box rfl rfl) rfl ?_
 refine WPL.d (d_alloc ze29 rfl) rfl ?_
 refine WPL.nx ?_
 refine WP.seq ?_
 refine WP.sr ?_
 refine WPL.qq (q_load_ag ag29 rfl rfl (Nat.le_of_ble_eq_true rfl)) ?_
 obtain ⟨x13, h1, H⟩ := bnd H
 refine WPL.c (runs_call (s := []) (t := []) (N := 2) (bor := []) fn25 rfl (s_val_Right k x1 x2 x3 x4 x5 x6 x13 h1) ⟨rfl, trivial, by decide, rfl, trivial⟩ rfl trivial (.ren rfl rfl .nil) rfl trivial rfl) rfl ?_
 refine WPL.nx ?_
 refine WP.cond (t := x13) rfl (fun hb1 => ?_) (fun hb1 => ?_)
 · replace H := cnt hb1 H
   refine WP.sr ?_
   refine WPL.qq (q_load_ag ag29 rfl rfl (Nat.le_of_ble_eq_true rfl)) ?_
   refine WPL.s (s_store sz29 rfl rfl rfl rfl rfl) ?_
   refine WPL.nx ?_
   refine WP.retW ?_
   obtain ⟨rfl, rfl, rfl, rfl, rfl, rfl⟩ := j6 H
   exact W.now (Then.r (BodyR.mkR trivial rfl [1] ⟨rfl, rfl⟩ ⟨rfl, AA1, by decide, rfl, trivial⟩ rfl rfl))
 replace H := cnf hb1 H
 refine WP.skipW ?_
 refine W.now ?_
 refine Then.n ?_
 refine WP.sr ?_
 obtain ⟨x14, h2, H⟩ := bnd H
 refine WPL.c (runs_call (s := []) (t := [2]) (N := 3) (bor := []) fn16 rfl (s_val_Err k 2 x14 h2) ⟨rfl, trivial, by decide, rfl, trivial⟩ rfl trivial (.ren rfl rfl .nil) rfl BB1 rfl) rfl ?_
 refine WPL.s (s_store sz29 rfl rfl rfl rfl rfl) ?_
 refine WPL.nx ?_
 refine WP.retW ?_
 obtain ⟨rfl, rfl, rfl, rfl, rfl, rfl⟩ := j6 H
 exact W.now (BodyR.mkR trivial rfl [1] ⟨rfl, rfl⟩ ⟨rfl, AA1, by decide, rfl, trivial⟩ rfl rfl)
theorem s_st_Trim (k : Nat) (x1 : ByteArray) (x2 : ByteArray) (x3 : ByteArray) (H : g_st_Trim k x1 x2 = some x3) : Go.Q.Spec Tryz.prog 76 0 [.lit (.string x1), .lit (.string x2)] Mem.nil (fun o M => o = .ret (.lit (.string x3)) ∧ M = Mem.nil) := by
 unfold g_st_Trim at H
 refine Go.Q.Spec.of_bodyR (az := []) (rs := [.tmp 4]) (nt := 43) Tryz.func76 rfl rfl (by intro t T h; simp at h) rfl rfl fun cx hnp => ?_
 refine WP.sr ?_
 refine WPL.qq (q_as (v := .lit (.string _)) rfl) ?_
 refine WPL.nx ?_
 refine WP.seq ?_
 refine WP.seq ?_
 obtain ⟨x4, H1, H⟩ := bnd H
 refine WP.monoW (Q := fun x E M => x = .normal ∧ E = (((Env.none.upd 0 (.lit (.string x1))).upd 1 (.lit (.string x2))).upd 12 (.lit (.bool x4))) ∧ M = Mem.nil) ?_ ?_
 · clear H
   have H := H1
   clear H1
   refine WP.region ?_
   refine WPL.qq (q_mv (v := .lit (.string _)) rfl) ?_
   obtain ⟨x5, h1, H⟩ := bnd H
   refine WPL.qq (q_nm (q_eqls rfl rfl) (nm_bool h1)) ?_
   refine WPL.qq (q_mv (v := .lit (.bool _)) rfl) ?_
   refine WPL.split (t := 9) (b := x5) rfl (fun hb1 => ?_) (fun hb1 => ?_)
   · replace H := cnt hb1 H
     refine WPL.sg true rfl (lb hb1) ?_
     refine WPL.sg true rfl (lb hb1) ?_
     refine WPL.qq (q_pickT (v := .lit (.bool _)) (lb hb1) rfl) ?_
     refine WPL.nilW ?_
     have q0 := j1 H
     subst q0
     exact W.wk [] hnp r3 ⟨rfl, trivial, by decide, rfl, trivial⟩ (LeE.u (LeE.u (LeE.u (LeE.none rfl rfl)))) rfl
   replace H := cnf hb1 H
   refine WPL.gq rfl (lb hb1) (q_mv (v := .lit (.string _)) rfl) ?_
   obtain ⟨x6, h2, H⟩ := bnd H
   refine WPL.gq rfl (lb hb1) (q_nm (q_eqls rfl rfl) (nm_bool h2)) ?_
   refine WPL.qq (q_pickF (v := .lit (.bool _)) (lb hb1) rfl) ?_
   refine WPL.nilW ?_
   have q0 := j1 H
   subst q0
   exact W.wk [] hnp r3 ⟨rfl, trivial, by decide, rfl, trivial⟩ (LeE.u (LeE.u (LeE.u (LeE.none rfl rfl)))) rfl
 rintro _ _ _ ⟨rfl, rfl, rfl⟩
 refine W.now ?_
 refine Then.n ?_
 refine WP.cond (t := x4) rfl (fun hb2 => ?_) (fun hb2 => ?_)
 · replace H := cnt hb2 H
   refine WP.sr ?_
   refine WPL.qq (q_mv (v := .lit (.string _)) rfl) ?_
   refine WPL.qq (q_as (v := .lit (.string _)) rfl) ?_
   refine WPL.nx ?_
   refine WP.retW ?_
   have q0 := j1 H
   subst q0
   exact W.now (Then.r (BodyR.mkR trivial rfl [] ⟨rfl, rfl⟩ ⟨rfl, trivial, by decide, rfl, trivial⟩ rfl rfl))
 replace H := cnf hb2 H
 refine WP.skipW ?_
 refine W.now ?_
 refine Then.n ?_
 refine WP.seq ?_
 refine WP.seq ?_
 obtain ⟨x7, H2, H⟩ := bnd H
 refine WP.monoW (Q := fun x E M => x = .normal ∧ E = (((Env.none.upd 0 (.lit (.string x1))).upd 1 (.lit (.string x2))).upd 21 (.lit (.bool x7))) ∧ M = Mem.nil) ?_ ?_
 · clear H
   have H := H2
   clear H2
   refine WP.region ?_
   refine WPL.qq (q_mv (v := .lit (.string _)) rfl) ?_
   refine WPL.qq (q_len_str Tryz.underlying9 rfl) ?_
   obtain ⟨x8, h3, H⟩ := bnd H
   refine WPL.qq (q_nm (q_eql rfl rfl) (nm_bool h3)) ?_
   refine WPL.qq (q_mv (v := .lit (.bool _)) rfl) ?_
   refine WPL.split (t := 17) (b := x8) rfl (fun hb3 => ?_) (fun hb3 => ?_)
   · replace H := cnt hb3 H
     refine WPL.gq rfl (lb hb3) (q_mv (v := .lit (.string _)) rfl) ?_
     obtain ⟨x9, h4, H⟩ := bnd H
     refine WPL.gq rfl (lb hb3) (q_index_str Tryz.underlying9 rfl rfl h4) ?_
     refine WPL.gq rfl (lb hb3) (q_lss rfl rfl) ?_
     refine WPL.qq (q_pickT (v := .lit (.bool _)) (lb hb3) rfl) ?_
     refine WPL.nilW ?_
     have q0 := j1 H
     subst q0
     exact W.wk [] hnp r3 ⟨rfl, trivial, by decide, rfl, trivial⟩ (LeE.u (LeE.u (LeE.u (LeE.none rfl rfl)))) rfl
   replace H := cnf hb3 H
   refine WPL.sg false rfl (lb hb3) ?_
   refine WPL.sg false rfl (lb hb3) ?_
   refine WPL.sg false rfl (lb hb3) ?_
   refine WPL.qq (q_pickF (v := .lit (.bool _)) (lb hb3) rfl) ?_
   refine WPL.nilW ?_
   have q0 := j1 H
   subst q0
   exact W.wk [] hnp r3 ⟨rfl, trivial, by decide, rfl, trivial⟩ (LeE.u (LeE.u (LeE.u (LeE.none rfl rfl)))) rfl
 rintro _ _ _ ⟨rfl, rfl, rfl⟩
 refine W.now ?_
 refine Then.n ?_
 refine WP.cond (t := x7) rfl (fun hb4 => ?_) (fun hb4 => ?_)
 · replace H := cnt hb4 H
   refine WP.seq ?_
   refine WP.regionD' 8 [] [] mixed rfl ?_
   refine WPD.tT 0 rfl (q_mv (v := .lit (.string _)) rfl) ?_
   refine WPD.tT 1 rfl (q_mv (v := .lit (.string _)) rfl) ?_
   obtain ⟨x10, h5, H⟩ := bnd H
   refine WPD.tT 2 rfl (q_index_str Tryz.underlying9 rfl rfl h5) ?_
   refine WPD.tT 4 rfl (q_mv (v := .lit (.string _)) rfl) ?_
   obtain ⟨x11, h6, H⟩ := bnd H
   refine WPD.tT 5 rfl (q_index_str Tryz.underlying9 rfl rfl h6) ?_
   obtain ⟨x12, h6, H⟩ := bnd H
   refine WPD.ef 3 [] [] rfl (runs_call (s := []) (t := []) (N := 0) (bor := []) fn123 rfl (s_st_trimRightByte k x1 x10 x12 h6) ⟨rfl, trivial, by decide, rfl, trivial⟩ rfl trivial (.ren rfl rfl (.ren rfl rfl .nil)) rfl trivial rfl) ?_
   obtain ⟨x13, h7, H⟩ := bnd H
   refine WPD.ef 6 [] [] rfl (runs_call (s := []) (t := []) (N := 0) (bor := []) fn122 rfl (s_st_trimLeftByte k x12 x11 x13 h7) ⟨rfl, trivial, by decide, rfl, trivial⟩ rfl trivial (.ren rfl rfl (.ren rfl rfl .nil)) rfl trivial rfl) ?_
   refine WPD.tT 7 rfl (q_as (v := .lit (.string _)) rfl) ?_
   refine WPD.doneW (by kernel_rfl) ?_
   refine W.now ?_
   refine Then.n ?_
   refine WP.retW ?_
   have q0 := j1 H
   subst q0
   exact W.now (Then.r (BodyR.mkR trivial rfl [] ⟨rfl, rfl⟩ ⟨rfl, trivial, by decide, rfl, trivial⟩ rfl rfl))
 replace H := cnf hb4 H
 refine WP.skipW ?_
 refine W.now ?_
 refine Then.n ?_
 refine WP.seq ?_
 refine WP.sr ?_
 refine WPL.qq (q_mv (v := .lit (.string _)) rfl) ?_
 exact nf rfl H
theorem s_val_Num (k : Nat) (x1 : Int) (x2 : Int) (x3 : Int) (x4 : ByteArray) (x5 : Bool) (x6 : Int) (x7 : Int) (x8 : Int) (x9 : Int) (x10 : ByteArray) (x11 : Bool) (x12 : Int) (H : g_val_Num k x1 x2 x3 x4 x5 x6 = some (x7, x8, x9, x10, x11, x12)) : Go.Q.Spec Tryz.prog 36 0 [.agg [.lit (.int .i64 x1), .lit (.int .i64 x2), .lit (.int .i64 x3), .lit (.string x4), .lit (.bool x5), .lit (.int .i64 x6)]] Mem.nil (fun o M => o = .ret (.agg [.lit (.int .i64 x7), .lit (.int .i64 x8), .lit (.int .i64 x9), .lit (.string x10), .lit (.bool x11), .lit (.int .i64 x12)]) ∧ M = (Mem.nil.push (.cells 29 [.lit (.int .i64 x7), .lit (.int .i64 x8), .lit (.int .i64 x9), .lit (.string x10), .lit (.bool x11), .lit (.int .i64 x12)]))) := by
 unfold g_val_Num at H
 refine Go.Q.Spec.of_bodyR (az := [(29, 6)]) (rs := [.cell 2 29]) (nt := 36) Tryz.func36 rfl rfl (by intro t T h; simp at h; rcases h with ⟨rfl, rfl⟩ <;> first | exact ag29) rfl rfl fun cx hnp => ?_
 refine WP.sr ?_
 refine WPL.d (d_box rfl rfl) rfl ?_
 refine WPL.d (d_alloc ze29 rfl) rfl ?_
 refine WPL.nx ?_
 refine WP.sr ?_
 refine WPL.qq (q_load_ag ag29 rfl rfl (Nat.le_of_ble_eq_true rfl)) ?_
 obtain ⟨⟨x13, x14, x15, x16, x17, x18⟩, h1, H⟩ := bnd H
 refine WPL.c (runs_call (s := []) (t := [2]) (N := 3) (bor := []) fn53 rfl (s_val_clean k x1 x2 x3 x4 x5 x6 x13 x14 x15 x16 x17 x18 h1) ⟨rfl, trivial, by decide, rfl, trivial⟩ rfl trivial (.ren rfl rfl .nil) rfl BB1 rfl) rfl ?_
 refine WPL.s (s_store sz29 rfl rfl rfl rfl rfl) ?_
 refine WPL.nx ?_
 refine WP.sr ?_
 refine WPL.qq (q_build bu23 rfl) ?_
 refine WPL.d (d_alloc ze23 rfl) rfl ?_
 refine WPL.s (s_store sz23 rfl rfl rfl rfl rfl) ?_
 refine WPL.nx ?_
 refine WP.seq ?_
 refine WP.sr ?_
 refine WPL.qq (q_fieldAddr fi29_0 rfl rfl) ?_
 refine WPL.qq (q_load sc3 rfl rfl rfl) ?_
 refine WPL.nx ?_
 refine WP.block ?_
 refine WP.seq ?_
 refine WP.block ?_
 refine WP.seq ?_
 obtain ⟨y1, H1, H⟩ := bnd H
 refine WP.monoW (Q := fun x E M => match (generalizing := false) y1 with | (Sum.inl x19) => x = .normal ∧ E = ((Env.none.upd 2 (.ptr 0 0)).upd 3 (.ptr 1 0)) ∧ M = ((Mem.nil.push (.cells 29 [.lit (.int .i64 0), .lit (.int .i64 0), .lit (.int .i64 0), .lit (.string (ByteArray.mk #[])), .lit (.bool false), .lit (.int .i64 0)])).push (.cells 23 [.lit (.int .i64 x19), .lit (.int .i64 0)])) | (Sum.inr (Sum.inl _)) => x = .exit 3 ∧ E = ((Env.none.upd 1 (.ptr 0 0)).upd 2 (.ptr 1 0)) ∧ M = ((Mem.nil.push (.cells 29 [.lit (.int .i64 x13), .lit (.int .i64 x14), .lit (.int .i64 x15), .lit (.string x16), .lit (.bool x17), .lit (.int .i64 x18)])).push (.cells 29 [.lit (.int .i64 0), .lit (.int .i64 0), .lit (.int .i64 0), .lit (.string (ByteArray.mk #[])), .lit (.bool false), .lit (.int .i64 0)])) | (Sum.inr (Sum.inr _)) => x = .exit 0 ∧ E = ((Env.none.upd 1 (.ptr 0 0)).upd 2 (.ptr 1 0)) ∧ M = ((Mem.nil.push (.cells 29 [.lit (.int .i64 x13), .lit (.int .i64 x14), .lit (.int .i64 x15), .lit (.string x16), .lit (.bool x17), .lit (.int .i64 x18)])).push (.cells 29 [.lit (.int .i64 0), .lit (.int .i64 0), .lit (.int .i64 0), .lit (.string (ByteArray.mk #[])), .lit (.bool false), .lit (.int .i64 0)]))) ?_ ?_
 · clear H
   have H := H1
   clear H1
   refine WP.block ?_
   refine WP.seq ?_
   refine WP.block ?_
   refine WP.seq ?_
   refine WP.seq ?_
   refine WP.sr ?_
   refine WPL.qq (q_eql rfl rfl) ?_
   refine WPL.qq (q_as (v := .lit (.bool _)) rfl) ?_
   refine WPL.nx ?_
   refine WP.cond (t := (decide (x13 = 3))) rfl (fun hb1 => ?_) (fun hb1 => ?_)
   · replace H := cnt hb1 H
     refine WP.exitW ?_
     refine W.now ?_
     refine Then.x ?_
     refine Then.x ?_
     refine InBlock.x0 ?_
     refine Then.n ?_
     refine WP.sr ?_
     refine WPL.qq (q_fieldAddr fi29_3 rfl rfl) ?_
     refine WPL.qq (q_load sc4 rfl rfl rfl) ?_
     refine WPL.nx ?_
     refine WP.cond (t := x17) rfl (fun hb2 => ?_) (fun hb2 => ?_)
     · replace H := cnt hb2 H
       refine WP.region ?_
       refine WPL.qq (q_fieldAddr fi23_0 rfl rfl) ?_
       refine WPL.s (s_store sz2 rfl rfl rfl rfl rfl) ?_
       refine WPL.nilW ?_
       have q0 := j1 H
       subst q0
       exact W.wk [1, 3] hnp (InBlock.n r3) ⟨rfl, AA2, by decide, rfl, trivial⟩ (LeE.u (LeE.u (LeE.none rfl rfl))) rfl
     replace H := cnf hb2 H
     refine WP.skipW ?_
     have q0 := j1 H
     subst q0
     exact W.wk [1, 3] hnp (InBlock.n r3) ⟨rfl, AA2, by decide, rfl, trivial⟩ (LeE.u (LeE.u (LeE.none rfl rfl))) rfl
   replace H := cnf hb1 H
   refine WP.skipW ?_
   refine W.now ?_
   refine Then.n ?_
   refine WP.seq ?_
   refine WP.sr ?_
   refine WPL.qq (q_eql rfl rfl) ?_
   refine WPL.qq (q_as (v := .lit (.bool _)) rfl) ?_
   refine WPL.nx ?_
   refine WP.cond (t := (decide (x13 = 0))) rfl (fun hb3 => ?_) (fun hb3 => ?_)
   · replace H := cnt hb3 H
     refine WP.exitW ?_
     have q0 := j1 H
     subst q0
     exact W.wk [1, 3] hnp (Then.x (Then.x (InBlock.x rfl (Then.x (InBlock.x0 r3))))) ⟨rfl, AA2, by decide, rfl, trivial⟩ (LeE.u (LeE.u (LeE.none rfl rfl))) rfl
   replace H := cnf hb3 H
   refine WP.skipW ?_
   refine W.now ?_
   refine Then.n ?_
   refine WP.sr ?_
   refine WPL.qq (q_eql rfl rfl) ?_
   refine WPL.qq (q_as (v := .lit (.bool _)) rfl) ?_
   refine WPL.nx ?_
   refine WP.cond (t := (decide (x13 = 2))) rfl (fun hb4 => ?_) (fun hb4 => ?_)
   · replace H := cnt hb4 H
     refine WP.exitW ?_
     have q0 := j1 H
     subst q0
     exact W.wk [0, 1] hnp (Then.x (InBlock.x rfl (Then.x (InBlock.x rfl r3)))) ⟨rfl, AA2, by decide, rfl, trivial⟩ (LeE.u (LeE.u (LeE.none rfl rfl))) rfl
   replace H := cnf hb4 H
   refine WP.skipW ?_
   refine W.now ?_
   refine Then.n ?_
   refine WP.exitW ?_
   have q0 := j1 H
   subst q0
   exact W.wk [0, 1] hnp (InBlock.x rfl (Then.x (InBlock.x rfl r3))) ⟨rfl, AA2, by decide, rfl, trivial⟩ (LeE.u (LeE.u (LeE.none rfl rfl))) rfl
 rcases y1 with x19 | _ | _
 · rintro _ _ _ ⟨rfl, rfl, rfl⟩
   refine W.now ?_
   refine Then.n ?_
   refine WP.seq ?_
   refine WP.sr ?_
   refine WPL.qq (q_load_ag ag23 rfl rfl (Nat.le_of_ble_eq_true rfl)) ?_
   obtain ⟨⟨x20, x21, x22, x23⟩, h2, H⟩ := bnd H
   refine WPL.c (runs_call (s := []) (t := [2]) (N := 3) (bor := []) fn12 rfl (s_val_Of k x19 0 0 x20 x21 x22 x23 h2) ⟨rfl, trivial, by decide, rfl, trivial⟩ rfl trivial (.ren rfl rfl (.ren rfl rfl .nil)) rfl BB1 rfl) rfl ?_
   refine WPL.s (s_store sz29 rfl rfl rfl rfl rfl) ?_
   refine WPL.nx ?_
   refine WP.retW ?_
   obtain ⟨rfl, rfl, rfl, rfl, rfl, rfl⟩ := j6 H
   exact W.now (Then.r (InBlock.r (Then.r (InBlock.r (Then.r (BodyR.mkR trivial rfl [0] ⟨rfl, rfl⟩ ⟨rfl, AA1, by decide, rfl, trivial⟩ rfl rfl))))))
 · rintro _ _ _ ⟨rfl, rfl, rfl⟩
   refine W.now ?_
   refine Then.x ?_
   refine InBlock.x0 ?_
   refine Then.n ?_
   refine WP.seq ?_
   refine WP.sr ?_
   refine WPL.qq (q_fieldAddr fi29_2 rfl rfl) ?_
   refine WPL.qq (q_load sc9 rfl rfl rfl) ?_
   obtain ⟨x24, h3, H⟩ := bnd H
   refine WPL.c (runs_call (s := []) (t := []) (N := 2) (bor := []) fn76 rfl (s_st_Trim k x16 (ByteArray.mk #[32]) x24 h3) ⟨rfl, trivial, by decide, rfl, trivial⟩ rfl trivial (.ren rfl rfl (.ren rfl rfl .nil)) rfl trivial rfl) rfl ?_
   obtain ⟨⟨x25, x26, x27⟩, h4, H⟩ := bnd H
   refine WPL.c (runs_call (s := []) (t := [2]) (N := 3) (bor := []) fn49 rfl (s_dec_Parse k x24 x25 x26 x27 h4) ⟨rfl, trivial, by decide, rfl, trivial⟩ rfl trivial (.ren rfl rfl .nil) rfl BB1 rfl) rfl ?_
   refine WPL.qq (q_mv (v := .tup _) rfl) ?_
   refine WPL.qq (q_extract rfl rfl) ?_
   refine WPL.qq (q_extract rfl rfl) ?_
   refine WPL.d (d_alloc ze23 rfl) rfl ?_
   refine WPL.s (s_store sz23 rfl rfl rfl rfl rfl) ?_
   refine WPL.qq (q_as (v := .lit (.int _ _)) rfl) ?_
   refine WPL.nx ?_
   refine WP.seq ?_
   refine WP.sr ?_
   refine WPL.qq (q_mv (v := .lit (.int _ _)) rfl) ?_
   refine WPL.qq (q_eql rfl rfl) ?_
   refine WPL.nx ?_
   refine WP.cond (t := (decide (x25 = 40))) rfl (fun hb5 => ?_) (fun hb5 => ?_)
   · replace H := cnt hb5 H
     refine WP.sr ?_
     obtain ⟨x28, h5, H⟩ := bnd H
     refine WPL.c (runs_call (s := []) (t := [4]) (N := 5) (bor := []) fn16 rfl (s_val_Err k 2 x28 h5) ⟨rfl, trivial, by decide, rfl, trivial⟩ rfl trivial (.ren rfl rfl .nil) rfl BB1 rfl) rfl ?_
     refine WPL.s (s_store sz29 rfl rfl rfl rfl rfl) ?_
     refine WPL.nx ?_
     refine WP.retW ?_
     obtain ⟨rfl, rfl, rfl, rfl, rfl, rfl⟩ := j6 H
     exact W.now (Then.r (Then.r (InBlock.r (Then.r (BodyR.mkR trivial rfl [1] ⟨rfl, rfl⟩ ⟨rfl, AA1, by decide, rfl, trivial⟩ rfl rfl)))))
   replace H := cnf hb5 H
   refine WP.skipW ?_
   refine W.now ?_
   refine Then.n ?_
   refine WP.sr ?_
   refine WPL.qq (q_load_ag ag23 rfl rfl (Nat.le_of_ble_eq_true rfl)) ?_
   refine WPL.qq (q_mv (v := .lit (.int _ _)) rfl) ?_
   obtain ⟨⟨x29, x30, x31, x32⟩, h6, H⟩ := bnd H
   refine WPL.c (runs_call (s := []) (t := [4]) (N := 5) (bor := []) fn12 rfl (s_val_Of k x26 x27 x25 x29 x30 x31 x32 h6) ⟨rfl, trivial, by decide, rfl, trivial⟩ rfl trivial (.ren rfl rfl (.ren rfl rfl .nil)) rfl BB1 rfl) rfl ?_
   refine WPL.s (s_store sz29 rfl rfl rfl rfl rfl) ?_
   refine WPL.nx ?_
   refine WP.retW ?_
   obtain ⟨rfl, rfl, rfl, rfl, rfl, rfl⟩ := j6 H
   exact W.now (Then.r (InBlock.r (Then.r (BodyR.mkR trivial rfl [1] ⟨rfl, rfl⟩ ⟨rfl, AA1, by decide, rfl, trivial⟩ rfl rfl))))
 rintro _ _ _ ⟨rfl, rfl, rfl⟩
 refine W.now ?_
 refine Then.x ?_
 refine InBlock.x rfl ?_
 refine Then.x ?_
 refine InBlock.x0 ?_
 refine Then.n ?_
 refine WP.sr ?_
 refine WPL.qq (q_load_ag ag29 rfl rfl (Nat.le_of_ble_eq_true rfl)) ?_
 refine WPL.s (s_store sz29 rfl rfl rfl rfl rfl) ?_
 refine WPL.nx ?_
 refine WP.retW ?_
 obtain ⟨rfl, rfl, rfl, rfl, rfl, rfl⟩ := j6 H
 exact W.now (BodyR.mkR trivial rfl [1] ⟨rfl, rfl⟩ ⟨rfl, AA1, by decide, rfl, trivial⟩ rfl rfl)
theorem s_dec_clean (k : Nat) (x1 : Int) (x2 : Int) (x3 : Int) (x4 : Int) (x5 : Bool) (x6 : Int) (x7 : Int) (x8 : Int) (x9 : Int) (H : g_dec_clean k x1 x2 x3 x4 = some (x5, x6, x7, x8, x9)) : Go.Q.Spec Tryz.prog 99 3 [.sl 0 1 0 2] (((Mem.nil.push (.cells 96 [.ptr 1 0, .ptr 2 0])).push (.cells 23 [.lit (.int .i64 x1), .lit (.int .i64 x2)])).push (.cells 23 [.lit (.int .i64 x3), .lit (.int .i64 x4)])) (fun o M => o = .ret (.lit (.bool x5)) ∧ M = (((Mem.nil.push (.cells 96 [.ptr 1 0, .ptr 2 0])).push (.cells 23 [.lit (.int .i64 x6), .lit (.int .i64 x7)])).push (.cells 23 [.lit (.int .i64 x8), .lit (.int .i64 x9)]))) := by
 unfold g_dec_clean at H
 refine Go.Q.Spec.of_bodyR (az := []) (rs := [.tmp 2]) (nt := 28) Tryz.func99 rfl rfl (by intro t T h; simp at h) rfl rfl fun cx hnp => ?_
 refine WP.sr ?_
 refine WPL.qq (q_as (v := .lit (.bool _)) rfl) ?_
 refine WPL.nx ?_
 refine WP.seq ?_
 refine WP.sr ?_
 refine WPL.qq (q_mv (v := .sl _ _ _ _) rfl) ?_
 refine WPL.qq (q_len_sl (k := 2) sl144 rfl rfl) ?_
 refine WPL.qq (q_mv (v := .lit (.int _ _)) rfl) ?_
 refine WPL.nx ?_
 refine WP.block ?_
 refine WP.loopU ?_
 refine WPI.round ?_
 refine WP.sr ?_
 refine WPL.qq (q_lss rfl rfl) ?_
 refine WPL.nx ?_
 refine WP.seq ?_
 refine WP.condT rfl ?_
 refine WP.skipW ?_
 refine W.now ?_
 refine Then.n ?_
 refine WP.seq ?_
 refine WP.block ?_
 refine WP.sr ?_
 refine WPL.qq (q_index_sl (o := 0) sl144 rfl rfl rfl rfl) ?_
 refine WPL.qq (q_load sc96 rfl rfl rfl) ?_
 refine WPL.qq (q_as (v := .ptr _ _) rfl) ?_
 refine WPL.nx ?_
 refine WP.seq ?_
 refine WP.sr ?_
 refine WPL.qq (q_mv (v := .ptr _ _) rfl) ?_
 refine WPL.qq (q_nilCheck rfl) ?_
 refine WPL.qq (q_load_ag ag23 rfl rfl (Nat.le_of_ble_eq_true rfl)) ?_
 refine WPL.d (d_buildSlice (ds := ([(⟨x1, x2⟩ : S_api_Dec)] : List S_api_Dec)) (R := rdS_api_Dec) li130 rfl rfl rfl rfl rfl (JoinRows.cons (l := [.lit (.int .i64 x1), .lit (.int .i64 x2)]) (Joins.via (Joins.cons Joins.sc (Joins.cons Joins.sc Joins.unit))) rfl JoinRows.nil) rfl rfl) rfl ?_
 obtain ⟨x10, h1, H⟩ := bnd H
 refine WPL.c (runs_call (s := []) (t := []) (N := 4) (bor := [3]) fn83 rfl (s_dec_ranged k ([(⟨x1, x2⟩ : S_api_Dec)] : List S_api_Dec) x10 h1) ⟨rfl, trivial, by decide, rfl, trivial⟩ rfl ⟨trivial, rfl, rfl, trivial⟩ (.row rfl rfl .nil) rfl trivial rfl) rfl ?_
 refine WPL.qq (q_not rfl) ?_
 refine WPL.nx ?_
 refine WP.cond (t := (!x10)) rfl (fun hb1 => ?_) (fun hb1 => ?_)
 · replace H := cnt hb1 H
   refine WP.sr ?_
   refine WPL.qq (q_as (v := .lit (.bool _)) rfl) ?_
   refine WPL.nx ?_
   refine WP.retW ?_
   obtain ⟨rfl, rfl, rfl, rfl, rfl⟩ := j5 H
   exact W.now (Then.r (InBlock.r (Then.r (Then.r (InBlock.r (Then.r (BodyR.mkR trivial rfl [0, 1, 2] ⟨rfl, rfl⟩ ⟨rfl, AA3, by decide, rfl, BB3⟩ rfl rfl)))))))
 replace H := cnf hb1 H
 refine WP.skipW ?_
 refine W.now ?_
 refine Then.n ?_
 refine WP.region ?_
 refine WPL.qq (q_mv (v := .ptr _ _) rfl) ?_
 refine WPL.qq (q_mv (v := .ptr _ _) rfl) ?_
 refine WPL.qq (q_nilCheck rfl) ?_
 refine WPL.qq (q_load_ag ag23 rfl rfl (Nat.le_of_ble_eq_true rfl)) ?_
 obtain ⟨x11, h2, H⟩ := bnd H
 refine WPL.c (runs_call (s := []) (t := [4]) (N := 5) (bor := []) fn81 rfl (s_dec_of k x1 x2 x11 h2) ⟨rfl, trivial, by decide, rfl, trivial⟩ rfl trivial (.ren rfl rfl .nil) rfl BB1 rfl) rfl ?_
 obtain ⟨⟨x12, x13, x14⟩, h3, H⟩ := bnd H
 refine WPL.c (runs_call (s := []) (t := [5]) (N := 6) (bor := []) fn82 rfl (s_dec_num_tell k (decide (x1 < 0)) 0 x11 x2 x12 x13 x14 h3) ⟨rfl, trivial, by decide, rfl, trivial⟩ rfl trivial (.ren rfl rfl .nil) rfl BB1 rfl) rfl ?_
 refine WPL.qq (q_mv (v := .tup _) rfl) ?_
 refine WPL.qq (q_extract rfl rfl) ?_
 refine WPL.qq (q_extract rfl rfl) ?_
 refine WPL.qq (q_nilCheck rfl) ?_
 refine WPL.s (s_store sz23 rfl rfl rfl rfl rfl) ?_
 refine WPL.nilW ?_
 refine W.now ?_
 refine InBlock.n ?_
 refine Then.n ?_
 refine WP.region ?_
 refine WPL.qq (q_nm (q_add rfl rfl) (fold_int (b := 1) (by decide))) ?_
 refine WPL.qq (q_mv (v := .lit (.int _ _)) rfl) ?_
 refine WPL.nx ?_
 refine WPI.round ?_
 refine WP.sr ?_
 refine WPL.qq (q_lss rfl rfl) ?_
 refine WPL.nx ?_
 refine WP.seq ?_
 refine WP.condT rfl ?_
 refine WP.skipW ?_
 refine W.now ?_
 refine Then.n ?_
 refine WP.seq ?_
 refine WP.block ?_
 refine WP.sr ?_
 refine WPL.qq (q_index_sl (o := 1) sl144 rfl rfl rfl rfl) ?_
 refine WPL.qq (q_load sc96 rfl rfl rfl) ?_
 refine WPL.qq (q_as (v := .ptr _ _) rfl) ?_
 refine WPL.nx ?_
 refine WP.seq ?_
 refine WP.sr ?_
 refine WPL.qq (q_mv (v := .ptr _ _) rfl) ?_
 refine WPL.qq (q_nilCheck rfl) ?_
 refine WPL.qq (q_load_ag ag23 rfl rfl (Nat.le_of_ble_eq_true rfl)) ?_
 refine WPL.d (d_buildSlice (ds := ([(⟨x3, x4⟩ : S_api_Dec)] : List S_api_Dec)) (R := rdS_api_Dec) li130 rfl rfl rfl rfl rfl (JoinRows.cons (l := [.lit (.int .i64 x3), .lit (.int .i64 x4)]) (Joins.via (Joins.cons Joins.sc (Joins.cons Joins.sc Joins.unit))) rfl JoinRows.nil) rfl rfl) rfl ?_
 obtain ⟨x15, h4, H⟩ := bnd H
 refine WPL.c (runs_call (s := []) (t := []) (N := 7) (bor := [6]) fn83 rfl (s_dec_ranged k ([(⟨x3, x4⟩ : S_api_Dec)] : List S_api_Dec) x15 h4) ⟨rfl, trivial, by decide, rfl, trivial⟩ rfl ⟨trivial, rfl, rfl, trivial⟩ (.row rfl rfl .nil) rfl trivial rfl) rfl ?_
 refine WPL.qq (q_not rfl) ?_
 refine WPL.nx ?_
 refine WP.cond (t := (!x15)) rfl (fun hb2 => ?_) (fun hb2 => ?_)
 · replace H := cnt hb2 H
   refine WP.sr ?_
   refine WPL.qq (q_as (v := .lit (.bool _)) rfl) ?_
   refine WPL.nx ?_
   refine WP.retW ?_
   obtain ⟨rfl, rfl, rfl, rfl, rfl⟩ := j5 H
   exact W.now (Then.r (InBlock.r (Then.r (Then.r (InBlock.r (Then.r (BodyR.mkR trivial rfl [0, 1, 2] ⟨rfl, rfl⟩ ⟨rfl, AA3, by decide, rfl, BB3⟩ rfl rfl)))))))
 replace H := cnf hb2 H
 refine WP.skipW ?_
 refine W.now ?_
 refine Then.n ?_
 refine WP.region ?_
 refine WPL.qq (q_mv (v := .ptr _ _) rfl) ?_
 refine WPL.qq (q_mv (v := .ptr _ _) rfl) ?_
 refine WPL.qq (q_nilCheck rfl) ?_
 refine WPL.qq (q_load_ag ag23 rfl rfl (Nat.le_of_ble_eq_true rfl)) ?_
 obtain ⟨x16, h5, H⟩ := bnd H
 refine WPL.c (runs_call (s := []) (t := [7]) (N := 8) (bor := []) fn81 rfl (s_dec_of k x3 x4 x16 h5) ⟨rfl, trivial, by decide, rfl, trivial⟩ rfl trivial (.ren rfl rfl .nil) rfl BB1 rfl) rfl ?_
 obtain ⟨⟨x17, x18, x19⟩, h6, H⟩ := bnd H
 refine WPL.c (runs_call (s := []) (t := [8]) (N := 9) (bor := []) fn82 rfl (s_dec_num_tell k (decide (x3 < 0)) 0 x16 x4 x17 x18 x19 h6) ⟨rfl, trivial, by decide, rfl, trivial⟩ rfl trivial (.ren rfl rfl .nil) rfl BB1 rfl) rfl ?_
 refine WPL.qq (q_mv (v := .tup _) rfl) ?_
 refine WPL.qq (q_extract rfl rfl) ?_
 refine WPL.qq (q_extract rfl rfl) ?_
 refine WPL.qq (q_nilCheck rfl) ?_
 refine WPL.s (s_store sz23 rfl rfl rfl rfl rfl) ?_
 refine WPL.nilW ?_
 refine W.now ?_
 refine InBlock.n ?_
 refine Then.n ?_
 refine WP.region ?_
 refine WPL.qq (q_nm (q_add rfl rfl) (fold_int (b := 2) (by decide))) ?_
 refine WPL.qq (q_mv (v := .lit (.int _ _)) rfl) ?_
 refine WPL.nx ?_
 refine WPI.round ?_
 refine WP.sr ?_
 refine WPL.qq (q_lss rfl rfl) ?_
 refine WPL.nx ?_
 refine WP.seq ?_
 refine WP.condF rfl ?_
 refine WP.exitW ?_
 refine W.now ?_
 refine Then.x ?_
 refine Then.x ?_
 refine InBlock.x0 ?_
 refine Then.n ?_
 refine WP.sr ?_
 refine WPL.qq (q_as (v := .lit (.bool _)) rfl) ?_
 refine WPL.nx ?_
 refine WP.retW ?_
 obtain ⟨rfl, rfl, rfl, rfl, rfl⟩ := j5 H
 exact W.now (BodyR.mkR trivial rfl [0, 1, 2] ⟨rfl, rfl⟩ ⟨rfl, AA3, by decide, rfl, BB3⟩ rfl rfl)
end Go.Proofs.YthpcgknknpjpdaaGreatDoor.W
