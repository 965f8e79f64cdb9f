/- Texts joined: part 3 of what LHuffBest stands on. -/
import Derived.Test.YtjahhkhpchiojaaSHuffBestb
namespace Go.Proofs.Ytjahhkhpchiojaa.W
open Go Go.Q Go.Proofs
set_option linter.unusedVariables false
set_option linter.unusedSimpArgs false
set_option maxRecDepth 100000 in
set_option maxHeartbeats 4000000 in
theorem s_cmp_isNaN_int (k : Nat) (x178 : Int) (H : g_cmp_isNaN_int k x178 = some ()) : Go.Q.Spec Try.prog 17 0 [.lit (.int .i64 x178)] Mem.nil (fun o M => o = .ret (.lit (.bool (!decide (x178 = x178)))) ∧ M = Mem.nil) := by
 unfold g_cmp_isNaN_int at H
 refine Go.Q.Spec.of_bodyR (az := []) (rs := [.tmp 2]) (nt := 6) Try.func17 rfl rfl (by intro t T h; simp at h) rfl rfl fun cx hnp => ?_
 refine WP.seq ?_
 refine WP.region ?_
 refine WPL.q (q_as (v := .lit (.bool _)) rfl) rfl ?_
 refine WPL.nilW ?_
 refine W.now ?_
 refine Then.n ?_
 refine WP.seq ?_
 refine WP.region ?_
 refine WPL.q (q_mv (v := .lit (.int _ _)) rfl) rfl ?_
 refine WPL.q (q_mv (v := .lit (.int _ _)) rfl) rfl ?_
 refine WPL.q (q_neq rfl rfl) rfl ?_
 refine WPL.q (q_as (v := .lit (.bool _)) rfl) rfl ?_
 refine WPL.nilW ?_
 refine W.now ?_
 refine Then.n ?_
 refine WP.retW ?_
 exact W.now (BodyR.mkR trivial rfl [] ⟨rfl, rfl⟩ ⟨rfl, trivial, by decide, rfl, trivial⟩ rfl rfl)
set_option maxRecDepth 100000 in
set_option maxHeartbeats 4000000 in
theorem s_cmp_Compare_int (k : Nat) (x175 : Int) (x176 : Int) (x194 : Int) (H : g_cmp_Compare_int k x175 x176 = some x194) : Go.Q.Spec Try.prog 10 0 [.lit (.int .i64 x175), .lit (.int .i64 x176)] Mem.nil (fun o M => o = .ret (.lit (.int .i64 x194)) ∧ M = Mem.nil) := by
 unfold g_cmp_Compare_int at H
 refine Go.Q.Spec.of_bodyR (az := []) (rs := [.tmp 4]) (nt := 20) Try.func10 rfl rfl (by intro t T h; simp at h) rfl rfl fun cx hnp => ?_
 refine WP.seq ?_
 refine WP.region ?_
 refine WPL.q (q_as (v := .lit (.int _ _)) rfl) rfl ?_
 refine WPL.nilW ?_
 refine W.now ?_
 refine Then.n ?_
 refine WP.seq ?_
 refine WP.region ?_
 refine WPL.q (q_mv (v := .lit (.int _ _)) rfl) rfl ?_
 obtain ⟨_, h194, H⟩ := bnd H
 refine WPL.c (runs_call (s := []) (t := []) (N := 0) (bor := []) fn17 rfl (s_cmp_isNaN_int k x175 h194) ⟨rfl, trivial, by decide, rfl, trivial⟩ rfl trivial (.ren rfl rfl .nil) rfl trivial rfl) rfl ?_
 refine WPL.q (q_as (v := .lit (.bool _)) rfl) rfl ?_
 refine WPL.nilW ?_
 refine W.now ?_
 refine Then.n ?_
 refine WP.seq ?_
 refine WP.region ?_
 refine WPL.q (q_mv (v := .lit (.int _ _)) rfl) rfl ?_
 obtain ⟨_, h195, H⟩ := bnd H
 refine WPL.c (runs_call (s := []) (t := []) (N := 0) (bor := []) fn17 rfl (s_cmp_isNaN_int k x176 h195) ⟨rfl, trivial, by decide, rfl, trivial⟩ rfl trivial (.ren rfl rfl .nil) rfl trivial rfl) rfl ?_
 refine WPL.q (q_as (v := .lit (.bool _)) rfl) rfl ?_
 refine WPL.nilW ?_
 refine W.now ?_
 refine Then.n ?_
 refine WP.seq ?_
 refine WP.seq ?_
 refine WP.region ?_
 refine WPL.q (q_mv (v := .lit (.bool _)) rfl) rfl ?_
 refine WPL.nilW ?_
 refine W.now ?_
 refine Then.n ?_
 refine WP.cond (t := (!decide (x175 = x175))) rfl (fun hb199 => ?_) (fun hb199 => ?_)
 · replace H := cnt hb199 H
   refine WP.seq ?_
   refine WP.seq ?_
   refine WP.region ?_
   refine WPL.q (q_mv (v := .lit (.bool _)) rfl) rfl ?_
   refine WPL.nilW ?_
   refine W.now ?_
   refine Then.n ?_
   refine WP.cond (t := (!decide (x176 = x176))) rfl (fun hb201 => ?_) (fun hb201 => ?_)
   · replace H := cnt hb201 H
     refine WP.seq ?_
     refine WP.region ?_
     refine WPL.q (q_as (v := .lit (.int _ _)) rfl) rfl ?_
     refine WPL.nilW ?_
     refine W.now ?_
     refine Then.n ?_
     refine WP.retW ?_
     have q0 := (Option.some.inj H)
     subst q0
     exact W.now (Then.r (Then.r (BodyR.mkR trivial rfl [] ⟨rfl, rfl⟩ ⟨rfl, trivial, by decide, rfl, trivial⟩ rfl rfl)))
   replace H := cnf hb201 H
   refine WP.skipW ?_
   refine W.now ?_
   refine Then.n ?_
   refine WP.seq ?_
   refine WP.region ?_
   refine WPL.q (q_as (v := .lit (.int _ _)) rfl) rfl ?_
   refine WPL.nilW ?_
   refine W.now ?_
   refine Then.n ?_
   refine WP.retW ?_
   have q0 := (Option.some.inj H)
   subst q0
   exact W.now (Then.r (BodyR.mkR trivial rfl [] ⟨rfl, rfl⟩ ⟨rfl, trivial, by decide, rfl, trivial⟩ rfl rfl))
 replace H := cnf hb199 H
 refine WP.skipW ?_
 refine W.now ?_
 refine Then.n ?_
 refine WP.seq ?_
 refine WP.seq ?_
 refine WP.region ?_
 refine WPL.q (q_mv (v := .lit (.bool _)) rfl) rfl ?_
 refine WPL.nilW ?_
 refine W.now ?_
 refine Then.n ?_
 refine WP.cond (t := (!decide (x176 = x176))) rfl (fun hb203 => ?_) (fun hb203 => ?_)
 · replace H := cnt hb203 H
   refine WP.seq ?_
   refine WP.region ?_
   refine WPL.q (q_as (v := .lit (.int _ _)) rfl) rfl ?_
   refine WPL.nilW ?_
   refine W.now ?_
   refine Then.n ?_
   refine WP.retW ?_
   have q0 := (Option.some.inj H)
   subst q0
   exact W.now (Then.r (BodyR.mkR trivial rfl [] ⟨rfl, rfl⟩ ⟨rfl, trivial, by decide, rfl, trivial⟩ rfl rfl))
 replace H := cnf hb203 H
 refine WP.skipW ?_
 refine W.now ?_
 refine Then.n ?_
 refine WP.seq ?_
 refine WP.seq ?_
 refine WP.region ?_
 refine WPL.q (q_mv (v := .lit (.int _ _)) rfl) rfl ?_
 refine WPL.q (q_mv (v := .lit (.int _ _)) rfl) rfl ?_
 refine WPL.q (q_lss rfl rfl) rfl ?_
 refine WPL.nilW ?_
 refine W.now ?_
 refine Then.n ?_
 refine WP.cond (t := (decide (x175 < x176))) rfl (fun hb205 => ?_) (fun hb205 => ?_)
 · replace H := cnt hb205 H
   refine WP.seq ?_
   refine WP.region ?_
   refine WPL.q (q_as (v := .lit (.int _ _)) rfl) rfl ?_
   refine WPL.nilW ?_
   refine W.now ?_
   refine Then.n ?_
   refine WP.retW ?_
   have q0 := (Option.some.inj H)
   subst q0
   exact W.now (Then.r (BodyR.mkR trivial rfl [] ⟨rfl, rfl⟩ ⟨rfl, trivial, by decide, rfl, trivial⟩ rfl rfl))
 replace H := cnf hb205 H
 refine WP.skipW ?_
 refine W.now ?_
 refine Then.n ?_
 refine WP.seq ?_
 refine WP.seq ?_
 refine WP.region ?_
 refine WPL.q (q_mv (v := .lit (.int _ _)) rfl) rfl ?_
 refine WPL.q (q_mv (v := .lit (.int _ _)) rfl) rfl ?_
 refine WPL.q (q_gtr rfl rfl) rfl ?_
 refine WPL.nilW ?_
 refine W.now ?_
 refine Then.n ?_
 refine WP.cond (t := (decide (x176 < x175))) rfl (fun hb207 => ?_) (fun hb207 => ?_)
 · replace H := cnt hb207 H
   refine WP.seq ?_
   refine WP.region ?_
   refine WPL.q (q_as (v := .lit (.int _ _)) rfl) rfl ?_
   refine WPL.nilW ?_
   refine W.now ?_
   refine Then.n ?_
   refine WP.retW ?_
   have q0 := (Option.some.inj H)
   subst q0
   exact W.now (Then.r (BodyR.mkR trivial rfl [] ⟨rfl, rfl⟩ ⟨rfl, trivial, by decide, rfl, trivial⟩ rfl rfl))
 replace H := cnf hb207 H
 refine WP.skipW ?_
 refine W.now ?_
 refine Then.n ?_
 refine WP.seq ?_
 refine WP.region ?_
 refine WPL.q (q_as (v := .lit (.int _ _)) rfl) rfl ?_
 refine WPL.nilW ?_
 refine W.now ?_
 refine Then.n ?_
 refine WP.retW ?_
 have q0 := (Option.some.inj H)
 subst q0
 exact W.now (BodyR.mkR trivial rfl [] ⟨rfl, rfl⟩ ⟨rfl, trivial, by decide, rfl, trivial⟩ rfl rfl)
set_option maxRecDepth 100000 in
set_option maxHeartbeats 4000000 in
theorem s_huff_Lengths_1 (k : Nat) (x170 : Int) (x171 : (List Int)) (x172 : Int) (x173 : (List Int)) (x211 : Int) (H : g_huff_Lengths_1 k x170 x171 x172 x173 = some x211) : Go.Q.Spec Try.prog 9 0 [.agg [.lit (.int .i64 x170), .ro (Rd.slice (Rd.int .i64)) false x171], .agg [.lit (.int .i64 x172), .ro (Rd.slice (Rd.int .i64)) false x173]] Mem.nil (fun o M => o = .ret (.lit (.int .i64 x211)) ∧ M = Mem.nil) := by
 unfold g_huff_Lengths_1 at H
 refine Go.Q.Spec.of_bodyR (az := []) (rs := [.tmp 4]) (nt := 10) Try.func9 rfl rfl (by intro t T h; simp at h) rfl rfl fun cx hnp => ?_
 refine WP.seq ?_
 refine WP.region ?_
 refine WPL.d (d_box rfl rfl) rfl ?_
 refine WPL.d (d_box rfl rfl) rfl ?_
 refine WPL.q (q_as (v := .lit (.int _ _)) rfl) rfl ?_
 refine WPL.nilW ?_
 refine W.now ?_
 refine Then.n ?_
 refine WP.seq ?_
 refine WP.region ?_
 refine WPL.q (q_fieldAddr fi34_0 rfl rfl) rfl ?_
 refine WPL.q (q_load sc3 rfl rfl rfl) rfl ?_
 refine WPL.q (q_fieldAddr fi34_0 rfl rfl) rfl ?_
 refine WPL.q (q_load sc3 rfl rfl rfl) rfl ?_
 obtain ⟨x213, h211, H⟩ := bnd H
 refine WPL.c (runs_call (s := []) (t := []) (N := 2) (bor := []) fn10 rfl (s_cmp_Compare_int k x170 x172 x213 h211) ⟨rfl, trivial, by decide, rfl, trivial⟩ rfl trivial (.ren rfl rfl (.ren rfl rfl .nil)) rfl trivial rfl) rfl ?_
 refine WPL.q (q_as (v := .lit (.int _ _)) rfl) rfl ?_
 refine WPL.nilW ?_
 refine W.now ?_
 refine Then.n ?_
 refine WP.retW ?_
 have q0 := (Option.some.inj H)
 subst q0
 exact W.now (BodyR.mkR trivial rfl [] ⟨rfl, rfl⟩ ⟨rfl, trivial, by decide, rfl, trivial⟩ rfl rfl)
set_option maxRecDepth 100000 in
set_option maxHeartbeats 4000000 in
theorem s_slices_insertionSortCmpFunc_huff_coin (k : Nat) (x152 : Int) (x153 : Int) (x154 : (List S_huff_coin)) (x536 : (List S_huff_coin)) (H : g_slices_insertionSortCmpFunc_huff_coin k x152 x153 x154 = some x536) : Go.Q.Spec Try.prog 22 1 [.whole 0, .lit (.int .i64 x152), .lit (.int .i64 x153), .fn 9 []] (Mem.nil.push (.row 34 rdS_huff_coin x154)) (fun o M => o = .ret (.tup []) ∧ M = (Mem.nil.push (.row 34 rdS_huff_coin x536))) := by
 unfold g_slices_insertionSortCmpFunc_huff_coin at H
 refine Go.Q.Spec.of_bodyR (az := []) (rs := []) (nt := 53) Try.func22 rfl rfl (by intro t T h; simp at h) rfl rfl fun cx hnp => ?_
 refine WP.seq ?_
 refine WP.region ?_
 refine WPL.q (q_mv (v := .lit (.int _ _)) rfl) rfl ?_
 refine WPL.q (q_add rfl rfl) rfl ?_
 refine WPL.q (q_as (v := .lit (.int _ _)) rfl) rfl ?_
 refine WPL.nilW ?_
 refine W.now ?_
 refine Then.n ?_
 refine WP.block ?_
 refine WP.cv (Cv.weak (E' := (((((Env.none.upd 0 (.whole 0)).upd 1 (.lit (.int .i64 x152))).upd 2 (.lit (.int .i64 x153))).upd 3 (.fn 9 [])).upd 8 (.lit (.int .i64 (IntKind.wrap .i64 (x152 + 1)))))) (M' := (Mem.nil.push (.row 34 rdS_huff_coin x154))) [0] hnp ⟨rfl, ⟨trivial, .inr ⟨rfl, rfl, rfl⟩⟩, by decide, rfl, ⟨trivial, rfl⟩⟩ (LeE.upd rfl rfl (LeE.upd rfl rfl (LeE.upd rfl rfl (LeE.upd rfl rfl (LeE.upd rfl rfl (LeE.none rfl rfl))))))) ?_
 obtain ⟨x871, H1090, H⟩ := bnd H
 refine WP.monoW (Q := fun x E M => x = .exit 0 ∧ E = Env.none ∧ M = (Mem.nil.push (.row 34 rdS_huff_coin x871))) ?_ ?_
 · refine WP.loop (β := Int × (List S_huff_coin)) (fun n b => g_slices_insertionSortCmpFunc_huff_coin_l0 k x152 x153 n b.1 b.2 = some x871) (fun b => (((((Env.none.upd 0 (.whole 0)).upd 1 (.lit (.int .i64 x152))).upd 2 (.lit (.int .i64 x153))).upd 3 (.fn 9 [])).upd 8 (.lit (.int .i64 b.1)))) (fun b => (Mem.nil.push (.row 34 rdS_huff_coin b.2))) k ((IntKind.wrap .i64 (x152 + 1)), x154) H1090 rfl rfl ?_
   rintro n ⟨x721, x722⟩ H
   obtain _ | n := n
   · exact nf rfl H
   rw [g_slices_insertionSortCmpFunc_huff_coin_l0.eq_2] at H
   show WP _ _ _ _ (((((Env.none.upd 0 (.whole 0)).upd 1 (.lit (.int .i64 x152))).upd 2 (.lit (.int .i64 x153))).upd 3 (.fn 9 [])).upd 8 (.lit (.int .i64 x721))) (Mem.nil.push (.row 34 rdS_huff_coin x722)) _
   refine WP.seq ?_
   refine WP.seq ?_
   refine WP.region ?_
   refine WPL.q (q_mv (v := .lit (.int _ _)) rfl) rfl ?_
   refine WPL.q (q_mv (v := .lit (.int _ _)) rfl) rfl ?_
   refine WPL.q (q_lss rfl rfl) rfl ?_
   refine WPL.nilW ?_
   refine W.now ?_
   refine Then.n ?_
   refine WP.cond (t := (decide (x721 < x153))) rfl (fun hb872 => ?_) (fun hb872 => ?_)
   · replace H := cnt hb872 H
     refine WP.skipW ?_
     refine W.now ?_
     refine Then.n ?_
     refine WP.seq ?_
     refine WP.block ?_
     refine WP.seq ?_
     refine WP.region ?_
     refine WPL.q (q_mv (v := .lit (.int _ _)) rfl) rfl ?_
     refine WPL.q (q_as (v := .lit (.int _ _)) rfl) rfl ?_
     refine WPL.nilW ?_
     refine W.now ?_
     refine Then.n ?_
     refine WP.block ?_
     refine WP.cv (Cv.weak (E' := ((((((Env.none.upd 0 (.whole 0)).upd 1 (.lit (.int .i64 x152))).upd 2 (.lit (.int .i64 x153))).upd 3 (.fn 9 [])).upd 8 (.lit (.int .i64 x721))).upd 9 (.lit (.int .i64 x721)))) (M' := (Mem.nil.push (.row 34 rdS_huff_coin x722))) [0] hnp ⟨rfl, ⟨trivial, .inr ⟨rfl, rfl, rfl⟩⟩, by decide, rfl, ⟨trivial, rfl⟩⟩ (LeE.upd rfl rfl (LeE.upd rfl rfl (LeE.upd rfl rfl (LeE.upd rfl rfl (LeE.upd rfl rfl (LeE.upd rfl rfl (LeE.none rfl rfl)))))))) ?_
     obtain ⟨x1018, H1089, H⟩ := bnd H
     refine WP.monoW (Q := fun x E M => x = .exit 2 ∧ E = (((((Env.none.upd 0 (.whole 0)).upd 1 (.lit (.int .i64 x152))).upd 2 (.lit (.int .i64 x153))).upd 3 (.fn 9 [])).upd 8 (.lit (.int .i64 x721))) ∧ M = (Mem.nil.push (.row 34 rdS_huff_coin x1018))) ?_ ?_
     · refine WP.loop (β := Int × (List S_huff_coin)) (fun n b => g_slices_insertionSortCmpFunc_huff_coin_l1 k x152 n b.1 b.2 = some x1018) (fun b => ((((((Env.none.upd 0 (.whole 0)).upd 1 (.lit (.int .i64 x152))).upd 2 (.lit (.int .i64 x153))).upd 3 (.fn 9 [])).upd 8 (.lit (.int .i64 x721))).upd 9 (.lit (.int .i64 b.1)))) (fun b => (Mem.nil.push (.row 34 rdS_huff_coin b.2))) k (x721, x722) H1089 rfl rfl ?_
       rintro n ⟨x945, x946⟩ H
       obtain _ | n := n
       · exact nf rfl H
       rw [g_slices_insertionSortCmpFunc_huff_coin_l1.eq_2] at H
       show WP _ _ _ _ ((((((Env.none.upd 0 (.whole 0)).upd 1 (.lit (.int .i64 x152))).upd 2 (.lit (.int .i64 x153))).upd 3 (.fn 9 [])).upd 8 (.lit (.int .i64 x721))).upd 9 (.lit (.int .i64 x945))) (Mem.nil.push (.row 34 rdS_huff_coin x946)) _
       refine WP.seq ?_
       refine WP.seq ?_
       obtain ⟨x1061, H1074, H⟩ := bnd H
       refine WP.monoW (Q := fun x E M => x = .normal ∧ E = (((((((Env.none.upd 0 (.whole 0)).upd 1 (.lit (.int .i64 x152))).upd 2 (.lit (.int .i64 x153))).upd 3 (.fn 9 [])).upd 8 (.lit (.int .i64 x721))).upd 9 (.lit (.int .i64 x945))).upd 34 (.lit (.bool x1061))) ∧ M = (Mem.nil.push (.row 34 rdS_huff_coin x946))) ?_ ?_
       · clear H
         have H := H1074
         clear H1074
         refine WP.regionD' 17 [0] [] mixed rfl ?_
         refine WPD.takeT 0 rfl (by kernel_rfl) (q_mv (v := .lit (.int _ _)) rfl) rfl ?_
         refine WPD.takeT 1 rfl (by kernel_rfl) (q_mv (v := .lit (.int _ _)) rfl) rfl ?_
         refine WPD.takeT 2 rfl (by kernel_rfl) (q_gtr rfl rfl) rfl ?_
         refine WPD.takeT 3 rfl (by kernel_rfl) (q_mv (v := .lit (.bool _)) rfl) rfl ?_
         refine WPD.split (t := 21) (b := (decide (x152 < x945))) rfl (fun hb1069 => ?_) (fun hb1069 => ?_)
         · replace H := cnt hb1069 H
           refine WPD.takegT 4 rfl (by kernel_rfl) rfl rfl (lb hb1069) (q_mv (v := .fn _ _) rfl) rfl ?_
           refine WPD.takegT 5 rfl (by kernel_rfl) rfl rfl (lb hb1069) (q_mv (v := .whole _) rfl) rfl ?_
           refine WPD.takegT 6 rfl (by kernel_rfl) rfl rfl (lb hb1069) (q_mv (v := .lit (.int _ _)) rfl) rfl ?_
           obtain ⟨x1071, h1071, H⟩ := bnd H
           refine WPD.takegT 7 rfl (by kernel_rfl) rfl rfl (lb hb1069) (q_index_row sl32 rfl rfl rfl (ixs h1071)) rfl ?_
           refine WPD.takegT 9 rfl (by kernel_rfl) rfl rfl (lb hb1069) (q_mv (v := .whole _) rfl) rfl ?_
           refine WPD.takegT 10 rfl (by kernel_rfl) rfl rfl (lb hb1069) (q_mv (v := .lit (.int _ _)) rfl) rfl ?_
           refine WPD.takegT 11 rfl (by kernel_rfl) rfl rfl (lb hb1069) (q_sub rfl rfl) rfl ?_
           obtain ⟨x1072, h1072, H⟩ := bnd H
           refine WPD.takegT 12 rfl (by kernel_rfl) rfl rfl (lb hb1069) (q_index_row sl32 rfl rfl rfl (ixs h1072)) rfl ?_
           refine WPD.takeg 8 rfl (by kernel_rfl) rfl rfl (lb hb1069) (q_load_rowag (j := (Int.toNat x945)) ag34 rfl rfl (ixj h1071) rfl S_huff_coin.sp) rfl rfl ?_
           refine WPD.takeg 13 rfl (by kernel_rfl) rfl rfl (lb hb1069) (q_load_rowag (j := (Int.toNat (IntKind.wrap .i64 (x945 - 1)))) ag34 rfl rfl (ixj h1072) rfl S_huff_coin.sp) rfl rfl ?_
           obtain ⟨x1074, h1072, H⟩ := bnd H
           refine WPD.effg 14 [0] [] rfl (by kernel_rfl) rfl rfl (lb hb1069) (runs_call (s := []) (t := []) (N := 1) (bor := []) fn9 rfl (s_huff_Lengths_1 k x1071.ffreq x1071.fsyms x1072.ffreq x1072.fsyms x1074 h1072) ⟨rfl, trivial, by decide, rfl, trivial⟩ rfl trivial (.ren rfl rfl (.ren rfl rfl .nil)) rfl trivial rfl) rfl rfl ?_
           refine WPD.takegT 15 rfl (by kernel_rfl) rfl rfl (lb hb1069) (q_lss rfl rfl) rfl ?_
           refine WPD.takeT 16 rfl (by kernel_rfl) (q_pickT (v := .lit (.bool _)) (lb hb1069) rfl) rfl ?_
           refine WPD.doneW (by kernel_rfl) ?_
           have q0 := (Option.some.inj H)
           subst q0
           exact W.wk [0] hnp ⟨rfl, rfl, rfl⟩ ⟨rfl, ⟨trivial, .inr ⟨rfl, rfl, rfl⟩⟩, by decide, rfl, ⟨trivial, rfl⟩⟩ (LeE.upd rfl rfl (LeE.upd rfl rfl (LeE.upd rfl rfl (LeE.upd rfl rfl (LeE.upd rfl rfl (LeE.upd rfl rfl (LeE.upd rfl rfl (LeE.none rfl rfl)))))))) rfl
         replace H := cnf hb1069 H
         refine WPD.pass (b' := false) 4 rfl (by kernel_rfl) rfl rfl (lb hb1069) rfl rfl (.inl trivial) ?_
         refine WPD.pass (b' := false) 5 rfl (by kernel_rfl) rfl rfl (lb hb1069) rfl rfl (.inl trivial) ?_
         refine WPD.pass (b' := false) 6 rfl (by kernel_rfl) rfl rfl (lb hb1069) rfl rfl (.inl trivial) ?_
         refine WPD.pass (b' := false) 7 rfl (by kernel_rfl) rfl rfl (lb hb1069) rfl rfl (.inl trivial) ?_
         refine WPD.pass (b' := false) 8 rfl (by kernel_rfl) rfl rfl (lb hb1069) rfl rfl (.inl trivial) ?_
         refine WPD.pass (b' := false) 9 rfl (by kernel_rfl) rfl rfl (lb hb1069) rfl rfl (.inl trivial) ?_
         refine WPD.pass (b' := false) 10 rfl (by kernel_rfl) rfl rfl (lb hb1069) rfl rfl (.inl trivial) ?_
         refine WPD.pass (b' := false) 11 rfl (by kernel_rfl) rfl rfl (lb hb1069) rfl rfl (.inl trivial) ?_
         refine WPD.pass (b' := false) 12 rfl (by kernel_rfl) rfl rfl (lb hb1069) rfl rfl (.inl trivial) ?_
         refine WPD.pass (b' := false) 13 rfl (by kernel_rfl) rfl rfl (lb hb1069) rfl rfl (.inl trivial) ?_
         refine WPD.pass (b' := false) 14 rfl (by kernel_rfl) rfl rfl (lb hb1069) rfl rfl (SkipOkE.und rfl) ?_
         refine WPD.pass (b' := false) 15 rfl (by kernel_rfl) rfl rfl (lb hb1069) rfl rfl (.inl trivial) ?_
         refine WPD.takeT 16 rfl (by kernel_rfl) (q_pickF (v := .lit (.bool _)) (lb hb1069) rfl) rfl ?_
         refine WPD.doneW (by kernel_rfl) ?_
         have q0 := (Option.some.inj H)
         subst q0
         exact W.wk [0] hnp ⟨rfl, rfl, rfl⟩ ⟨rfl, ⟨trivial, .inr ⟨rfl, rfl, rfl⟩⟩, by decide, rfl, ⟨trivial, rfl⟩⟩ (LeE.upd rfl rfl (LeE.upd rfl rfl (LeE.upd rfl rfl (LeE.upd rfl rfl (LeE.upd rfl rfl (LeE.upd rfl rfl (LeE.upd rfl rfl (LeE.none rfl rfl)))))))) rfl
       rintro _ _ _ ⟨rfl, rfl, rfl⟩
       refine W.now ?_
       refine Then.n ?_
       refine WP.cond (t := x1061) rfl (fun hb1075 => ?_) (fun hb1075 => ?_)
       · replace H := cnt hb1075 H
         refine WP.skipW ?_
         refine W.now ?_
         refine Then.n ?_
         refine WP.seq ?_
         refine WP.block ?_
         refine WP.regionD' 18 [0] [15] mixed rfl ?_
         refine WPD.takeT 0 rfl (by kernel_rfl) (q_mv (v := .whole _) rfl) rfl ?_
         refine WPD.takeT 1 rfl (by kernel_rfl) (q_mv (v := .lit (.int _ _)) rfl) rfl ?_
         refine WPD.takeT 2 rfl (by kernel_rfl) (q_mv (v := .whole _) rfl) rfl ?_
         refine WPD.takeT 3 rfl (by kernel_rfl) (q_mv (v := .lit (.int _ _)) rfl) rfl ?_
         refine WPD.takeT 4 rfl (by kernel_rfl) (q_sub rfl rfl) rfl ?_
         refine WPD.takeT 5 rfl (by kernel_rfl) (q_mv (v := .whole _) rfl) rfl ?_
         refine WPD.takeT 6 rfl (by kernel_rfl) (q_mv (v := .lit (.int _ _)) rfl) rfl ?_
         refine WPD.takeT 7 rfl (by kernel_rfl) (q_sub rfl rfl) rfl ?_
         obtain ⟨x1086, h1086, H⟩ := bnd H
         refine WPD.takeT 8 rfl (by kernel_rfl) (q_index_row sl32 rfl rfl rfl (ixs h1086)) rfl ?_
         refine WPD.takeT 10 rfl (by kernel_rfl) (q_mv (v := .whole _) rfl) rfl ?_
         refine WPD.takeT 11 rfl (by kernel_rfl) (q_mv (v := .lit (.int _ _)) rfl) rfl ?_
         obtain ⟨x1087, h1087, H⟩ := bnd H
         refine WPD.takeT 12 rfl (by kernel_rfl) (q_index_row sl32 rfl rfl rfl (ixs h1087)) rfl ?_
         refine WPD.take 9 rfl (by kernel_rfl) (q_load_rowag (j := (Int.toNat (IntKind.wrap .i64 (x945 - 1)))) ag34 rfl rfl (ixj h1086) rfl S_huff_coin.sp) rfl rfl ?_
         refine WPD.take 13 rfl (by kernel_rfl) (q_load_rowag (j := (Int.toNat x945)) ag34 rfl rfl (ixj h1087) rfl S_huff_coin.sp) rfl rfl ?_
         obtain ⟨x1088, h1088, H⟩ := bnd H
         refine WPD.takeT 14 rfl (by kernel_rfl) (q_index_row sl32 rfl rfl rfl (ixs h1088)) rfl ?_
         refine WPD.effS 15 [] [] rfl (by kernel_rfl) (s_store_row (j := (Int.toNat x945)) (d := (⟨x1086.ffreq, x1086.fsyms⟩ : S_huff_coin)) sz34 rfl rfl rfl rfl (Joins.via (Joins.cons Joins.sc (Joins.cons Joins.one Joins.unit))) (ixl h1088)) rfl ?_
         obtain ⟨x1089, h1089, H⟩ := bnd H
         refine WPD.takeT 16 rfl (by kernel_rfl) (q_index_row sl32 rfl rfl rfl (ixs h1089)) rfl ?_
         refine WPD.effS 17 [] [] rfl (by kernel_rfl) (s_store_row (j := (Int.toNat (IntKind.wrap .i64 (x945 - 1)))) (d := (⟨x1087.ffreq, x1087.fsyms⟩ : S_huff_coin)) sz34 rfl rfl rfl rfl (Joins.via (Joins.cons Joins.sc (Joins.cons Joins.one Joins.unit))) (ixl h1089)) rfl ?_
         refine WPD.doneW (by kernel_rfl) ?_
         refine W.now ?_
         refine InBlock.n ?_
         refine Then.n ?_
         refine WP.region ?_
         refine WPL.q (q_mv (v := .lit (.int _ _)) rfl) rfl ?_
         refine WPL.q (q_sub rfl rfl) rfl ?_
         refine WPL.q (q_as (v := .lit (.int _ _)) rfl) rfl ?_
         refine WPL.nilW ?_
         exact W.wk [0] hnp (Then.n ⟨n, ((IntKind.wrap .i64 (x945 - 1)), (List.set (List.set x946 (Int.toNat x945) (⟨x1086.ffreq, x1086.fsyms⟩ : S_huff_coin)) (Int.toNat (IntKind.wrap .i64 (x945 - 1))) (⟨x1087.ffreq, x1087.fsyms⟩ : S_huff_coin))), Nat.lt_succ_self n, H, rfl, rfl⟩) ⟨rfl, ⟨trivial, .inr ⟨rfl, rfl, rfl⟩⟩, by decide, rfl, ⟨trivial, rfl⟩⟩ (LeE.upd rfl rfl (LeE.upd rfl rfl (LeE.upd rfl rfl (LeE.upd rfl rfl (LeE.upd rfl rfl (LeE.upd rfl rfl (LeE.none rfl rfl))))))) rfl
       replace H := cnf hb1075 H
       refine WP.exitW ?_
       have q0 := (Option.some.inj H)
       subst q0
       exact W.wk [0] hnp (Then.x (Then.x ⟨rfl, rfl, rfl⟩)) ⟨rfl, ⟨trivial, .inr ⟨rfl, rfl, rfl⟩⟩, by decide, rfl, ⟨trivial, rfl⟩⟩ (LeE.upd rfl rfl (LeE.upd rfl rfl (LeE.upd rfl rfl (LeE.upd rfl rfl (LeE.upd rfl rfl (LeE.none rfl rfl)))))) rfl
     rintro _ _ _ ⟨rfl, rfl, rfl⟩
     refine W.now ?_
     refine InBlock.x0 ?_
     refine InBlock.n ?_
     refine Then.n ?_
     refine WP.region ?_
     refine WPL.q (q_mv (v := .lit (.int _ _)) rfl) rfl ?_
     refine WPL.q (q_add rfl rfl) rfl ?_
     refine WPL.q (q_as (v := .lit (.int _ _)) rfl) rfl ?_
     refine WPL.nilW ?_
     exact W.wk [0] hnp (Then.n ⟨n, ((IntKind.wrap .i64 (x721 + 1)), x1018), Nat.lt_succ_self n, H, rfl, rfl⟩) ⟨rfl, ⟨trivial, .inr ⟨rfl, rfl, rfl⟩⟩, by decide, rfl, ⟨trivial, rfl⟩⟩ (LeE.upd rfl rfl (LeE.upd rfl rfl (LeE.upd rfl rfl (LeE.upd rfl rfl (LeE.upd rfl rfl (LeE.none rfl rfl)))))) rfl
   replace H := cnf hb872 H
   refine WP.exitW ?_
   have q0 := (Option.some.inj H)
   subst q0
   exact W.wk [0] hnp (Then.x (Then.x ⟨rfl, rfl, rfl⟩)) ⟨rfl, ⟨trivial, .inr ⟨rfl, rfl, rfl⟩⟩, by decide, rfl, ⟨trivial, rfl⟩⟩ (LeE.none rfl rfl) rfl
 rintro _ _ _ ⟨rfl, rfl, rfl⟩
 have q0 := (Option.some.inj H)
 subst q0
 exact W.now (InBlock.x0 (BodyR.mkN trivial rfl [0] ⟨rfl, rfl⟩ ⟨rfl, ⟨trivial, .inr ⟨rfl, rfl, rfl⟩⟩, by decide, rfl, ⟨trivial, rfl⟩⟩ rfl rfl))
set_option maxRecDepth 100000 in
set_option maxHeartbeats 4000000 in
theorem s_slices_swapRangeCmpFunc_huff_coin (k : Nat) (x1473 : Int) (x1474 : Int) (x1475 : Int) (x1476 : (List S_huff_coin)) (x1512 : (List S_huff_coin)) (H : g_slices_swapRangeCmpFunc_huff_coin k x1473 x1474 x1475 x1476 = some x1512) : Go.Q.Spec Try.prog 26 1 [.whole 0, .lit (.int .i64 x1473), .lit (.int .i64 x1474), .lit (.int .i64 x1475), .fn 9 []] (Mem.nil.push (.row 34 rdS_huff_coin x1476)) (fun o M => o = .ret (.tup []) ∧ M = (Mem.nil.push (.row 34 rdS_huff_coin x1512))) := by
 unfold g_slices_swapRangeCmpFunc_huff_coin at H
 refine Go.Q.Spec.of_bodyR (az := []) (rs := []) (nt := 38) Try.func26 rfl rfl (by intro t T h; simp at h) rfl rfl fun cx hnp => ?_
 refine WP.seq ?_
 refine WP.region ?_
 refine WPL.q (q_as (v := .lit (.int _ _)) rfl) rfl ?_
 refine WPL.nilW ?_
 refine W.now ?_
 refine Then.n ?_
 refine WP.block ?_
 refine WP.cv (Cv.weak (E' := (((((Env.none.upd 0 (.whole 0)).upd 1 (.lit (.int .i64 x1473))).upd 2 (.lit (.int .i64 x1474))).upd 3 (.lit (.int .i64 x1475))).upd 10 (.lit (.int .i64 0)))) (M' := (Mem.nil.push (.row 34 rdS_huff_coin x1476))) [0] hnp ⟨rfl, ⟨trivial, .inr ⟨rfl, rfl, rfl⟩⟩, by decide, rfl, ⟨trivial, rfl⟩⟩ (LeE.upd rfl rfl (LeE.upd rfl rfl (LeE.upd rfl rfl (LeE.upd rfl rfl (LeE.upd rfl rfl (LeE.none rfl rfl))))))) ?_
 obtain ⟨x1545, H1560, H⟩ := bnd H
 refine WP.monoW (Q := fun x E M => x = .exit 0 ∧ E = Env.none ∧ M = (Mem.nil.push (.row 34 rdS_huff_coin x1545))) ?_ ?_
 · refine WP.loop (β := Int × (List S_huff_coin)) (fun n b => g_slices_swapRangeCmpFunc_huff_coin_l0 k x1473 x1474 x1475 n b.1 b.2 = some x1545) (fun b => (((((Env.none.upd 0 (.whole 0)).upd 1 (.lit (.int .i64 x1473))).upd 2 (.lit (.int .i64 x1474))).upd 3 (.lit (.int .i64 x1475))).upd 10 (.lit (.int .i64 b.1)))) (fun b => (Mem.nil.push (.row 34 rdS_huff_coin b.2))) k (0, x1476) H1560 rfl rfl ?_
   rintro n ⟨x1528, x1529⟩ H
   obtain _ | n := n
   · exact nf rfl H
   rw [g_slices_swapRangeCmpFunc_huff_coin_l0.eq_2] at H
   show WP _ _ _ _ (((((Env.none.upd 0 (.whole 0)).upd 1 (.lit (.int .i64 x1473))).upd 2 (.lit (.int .i64 x1474))).upd 3 (.lit (.int .i64 x1475))).upd 10 (.lit (.int .i64 x1528))) (Mem.nil.push (.row 34 rdS_huff_coin x1529)) _
   refine WP.seq ?_
   refine WP.seq ?_
   refine WP.region ?_
   refine WPL.q (q_mv (v := .lit (.int _ _)) rfl) rfl ?_
   refine WPL.q (q_mv (v := .lit (.int _ _)) rfl) rfl ?_
   refine WPL.q (q_lss rfl rfl) rfl ?_
   refine WPL.nilW ?_
   refine W.now ?_
   refine Then.n ?_
   refine WP.cond (t := (decide (x1528 < x1475))) rfl (fun hb1546 => ?_) (fun hb1546 => ?_)
   · replace H := cnt hb1546 H
     refine WP.skipW ?_
     refine W.now ?_
     refine Then.n ?_
     refine WP.seq ?_
     refine WP.block ?_
     refine WP.regionD' 24 [0] [21] mixed rfl ?_
     refine WPD.takeT 0 rfl (by kernel_rfl) (q_mv (v := .whole _) rfl) rfl ?_
     refine WPD.takeT 1 rfl (by kernel_rfl) (q_mv (v := .lit (.int _ _)) rfl) rfl ?_
     refine WPD.takeT 2 rfl (by kernel_rfl) (q_mv (v := .lit (.int _ _)) rfl) rfl ?_
     refine WPD.takeT 3 rfl (by kernel_rfl) (q_add rfl rfl) rfl ?_
     refine WPD.takeT 4 rfl (by kernel_rfl) (q_mv (v := .whole _) rfl) rfl ?_
     refine WPD.takeT 5 rfl (by kernel_rfl) (q_mv (v := .lit (.int _ _)) rfl) rfl ?_
     refine WPD.takeT 6 rfl (by kernel_rfl) (q_mv (v := .lit (.int _ _)) rfl) rfl ?_
     refine WPD.takeT 7 rfl (by kernel_rfl) (q_add rfl rfl) rfl ?_
     refine WPD.takeT 8 rfl (by kernel_rfl) (q_mv (v := .whole _) rfl) rfl ?_
     refine WPD.takeT 9 rfl (by kernel_rfl) (q_mv (v := .lit (.int _ _)) rfl) rfl ?_
     refine WPD.takeT 10 rfl (by kernel_rfl) (q_mv (v := .lit (.int _ _)) rfl) rfl ?_
     refine WPD.takeT 11 rfl (by kernel_rfl) (q_add rfl rfl) rfl ?_
     obtain ⟨x1557, h1557, H⟩ := bnd H
     refine WPD.takeT 12 rfl (by kernel_rfl) (q_index_row sl32 rfl rfl rfl (ixs h1557)) rfl ?_
     refine WPD.takeT 14 rfl (by kernel_rfl) (q_mv (v := .whole _) rfl) rfl ?_
     refine WPD.takeT 15 rfl (by kernel_rfl) (q_mv (v := .lit (.int _ _)) rfl) rfl ?_
     refine WPD.takeT 16 rfl (by kernel_rfl) (q_mv (v := .lit (.int _ _)) rfl) rfl ?_
     refine WPD.takeT 17 rfl (by kernel_rfl) (q_add rfl rfl) rfl ?_
     obtain ⟨x1558, h1558, H⟩ := bnd H
     refine WPD.takeT 18 rfl (by kernel_rfl) (q_index_row sl32 rfl rfl rfl (ixs h1558)) rfl ?_
     refine WPD.take 13 rfl (by kernel_rfl) (q_load_rowag (j := (Int.toNat (IntKind.wrap .i64 (x1474 + x1528)))) ag34 rfl rfl (ixj h1557) rfl S_huff_coin.sp) rfl rfl ?_
     refine WPD.take 19 rfl (by kernel_rfl) (q_load_rowag (j := (Int.toNat (IntKind.wrap .i64 (x1473 + x1528)))) ag34 rfl rfl (ixj h1558) rfl S_huff_coin.sp) rfl rfl ?_
     obtain ⟨x1559, h1559, H⟩ := bnd H
     refine WPD.takeT 20 rfl (by kernel_rfl) (q_index_row sl32 rfl rfl rfl (ixs h1559)) rfl ?_
     refine WPD.effS 21 [] [] rfl (by kernel_rfl) (s_store_row (j := (Int.toNat (IntKind.wrap .i64 (x1473 + x1528)))) (d := (⟨x1557.ffreq, x1557.fsyms⟩ : S_huff_coin)) sz34 rfl rfl rfl rfl (Joins.via (Joins.cons Joins.sc (Joins.cons Joins.one Joins.unit))) (ixl h1559)) rfl ?_
     obtain ⟨x1560, h1560, H⟩ := bnd H
     refine WPD.takeT 22 rfl (by kernel_rfl) (q_index_row sl32 rfl rfl rfl (ixs h1560)) rfl ?_
     refine WPD.effS 23 [] [] rfl (by kernel_rfl) (s_store_row (j := (Int.toNat (IntKind.wrap .i64 (x1474 + x1528)))) (d := (⟨x1558.ffreq, x1558.fsyms⟩ : S_huff_coin)) sz34 rfl rfl rfl rfl (Joins.via (Joins.cons Joins.sc (Joins.cons Joins.one Joins.unit))) (ixl h1560)) rfl ?_
     refine WPD.doneW (by kernel_rfl) ?_
     refine W.now ?_
     refine InBlock.n ?_
     refine Then.n ?_
     refine WP.region ?_
     refine WPL.q (q_mv (v := .lit (.int _ _)) rfl) rfl ?_
     refine WPL.q (q_add rfl rfl) rfl ?_
     refine WPL.q (q_as (v := .lit (.int _ _)) rfl) rfl ?_
     refine WPL.nilW ?_
     exact W.wk [0] hnp (Then.n ⟨n, ((IntKind.wrap .i64 (x1528 + 1)), (List.set (List.set x1529 (Int.toNat (IntKind.wrap .i64 (x1473 + x1528))) (⟨x1557.ffreq, x1557.fsyms⟩ : S_huff_coin)) (Int.toNat (IntKind.wrap .i64 (x1474 + x1528))) (⟨x1558.ffreq, x1558.fsyms⟩ : S_huff_coin))), Nat.lt_succ_self n, H, rfl, rfl⟩) ⟨rfl, ⟨trivial, .inr ⟨rfl, rfl, rfl⟩⟩, by decide, rfl, ⟨trivial, rfl⟩⟩ (LeE.upd rfl rfl (LeE.upd rfl rfl (LeE.upd rfl rfl (LeE.upd rfl rfl (LeE.upd rfl rfl (LeE.none rfl rfl)))))) rfl
   replace H := cnf hb1546 H
   refine WP.exitW ?_
   have q0 := (Option.some.inj H)
   subst q0
   exact W.wk [0] hnp (Then.x (Then.x ⟨rfl, rfl, rfl⟩)) ⟨rfl, ⟨trivial, .inr ⟨rfl, rfl, rfl⟩⟩, by decide, rfl, ⟨trivial, rfl⟩⟩ (LeE.none rfl rfl) rfl
 rintro _ _ _ ⟨rfl, rfl, rfl⟩
 have q0 := (Option.some.inj H)
 subst q0
 exact W.now (InBlock.x0 (BodyR.mkN trivial rfl [0] ⟨rfl, rfl⟩ ⟨rfl, ⟨trivial, .inr ⟨rfl, rfl, rfl⟩⟩, by decide, rfl, ⟨trivial, rfl⟩⟩ rfl rfl))
set_option maxRecDepth 100000 in
set_option maxHeartbeats 4000000 in
theorem s_slices_rotateCmpFunc_huff_coin (k : Nat) (x1461 : Int) (x1462 : Int) (x1463 : Int) (x1464 : (List S_huff_coin)) (x1587 : (List S_huff_coin)) (H : g_slices_rotateCmpFunc_huff_coin k x1461 x1462 x1463 x1464 = some x1587) : Go.Q.Spec Try.prog 25 1 [.whole 0, .lit (.int .i64 x1461), .lit (.int .i64 x1462), .lit (.int .i64 x1463), .fn 9 []] (Mem.nil.push (.row 34 rdS_huff_coin x1464)) (fun o M => o = .ret (.tup []) ∧ M = (Mem.nil.push (.row 34 rdS_huff_coin x1587))) := by
 unfold g_slices_rotateCmpFunc_huff_coin at H
 refine Go.Q.Spec.of_bodyR (az := []) (rs := []) (nt := 58) Try.func25 rfl rfl (by intro t T h; simp at h) rfl rfl fun cx hnp => ?_
 refine WP.seq ?_
 refine WP.region ?_
 refine WPL.q (q_mv (v := .lit (.int _ _)) rfl) rfl ?_
 refine WPL.q (q_mv (v := .lit (.int _ _)) rfl) rfl ?_
 refine WPL.q (q_sub rfl rfl) rfl ?_
 refine WPL.q (q_as (v := .lit (.int _ _)) rfl) rfl ?_
 refine WPL.nilW ?_
 refine W.now ?_
 refine Then.n ?_
 refine WP.seq ?_
 refine WP.region ?_
 refine WPL.q (q_mv (v := .lit (.int _ _)) rfl) rfl ?_
 refine WPL.q (q_mv (v := .lit (.int _ _)) rfl) rfl ?_
 refine WPL.q (q_sub rfl rfl) rfl ?_
 refine WPL.q (q_as (v := .lit (.int _ _)) rfl) rfl ?_
 refine WPL.nilW ?_
 refine W.now ?_
 refine Then.n ?_
 refine WP.seq ?_
 refine WP.block ?_
 refine WP.cv (Cv.weak (E' := (((((Env.none.upd 0 (.whole 0)).upd 2 (.lit (.int .i64 x1462))).upd 4 (.fn 9 [])).upd 10 (.lit (.int .i64 (IntKind.wrap .i64 (x1462 - x1461))))).upd 11 (.lit (.int .i64 (IntKind.wrap .i64 (x1463 - x1462)))))) (M' := (Mem.nil.push (.row 34 rdS_huff_coin x1464))) [0] hnp ⟨rfl, ⟨trivial, .inr ⟨rfl, rfl, rfl⟩⟩, by decide, rfl, ⟨trivial, rfl⟩⟩ (LeE.upd rfl rfl (LeE.upd rfl rfl (LeE.upd rfl rfl (LeE.upd rfl rfl (LeE.upd rfl rfl (LeE.none rfl rfl))))))) ?_
 obtain ⟨⟨x1615, x1616⟩, H1624, H⟩ := bnd H
 refine WP.monoW (Q := fun x E M => x = .exit 0 ∧ E = ((((Env.none.upd 0 (.whole 0)).upd 2 (.lit (.int .i64 x1462))).upd 4 (.fn 9 [])).upd 10 (.lit (.int .i64 x1615))) ∧ M = (Mem.nil.push (.row 34 rdS_huff_coin x1616))) ?_ ?_
 · refine WP.loop (β := Int × Int × (List S_huff_coin)) (fun n b => g_slices_rotateCmpFunc_huff_coin_l0 k x1462 n b.1 b.2.1 b.2.2 = some (x1615, x1616)) (fun b => (((((Env.none.upd 0 (.whole 0)).upd 2 (.lit (.int .i64 x1462))).upd 4 (.fn 9 [])).upd 10 (.lit (.int .i64 b.1))).upd 11 (.lit (.int .i64 b.2.1)))) (fun b => (Mem.nil.push (.row 34 rdS_huff_coin b.2.2))) k ((IntKind.wrap .i64 (x1462 - x1461)), (IntKind.wrap .i64 (x1463 - x1462)), x1464) H1624 rfl rfl ?_
   rintro n ⟨x1604, x1605, x1606⟩ H
   obtain _ | n := n
   · exact nf rfl H
   rw [g_slices_rotateCmpFunc_huff_coin_l0.eq_2] at H
   show WP _ _ _ _ (((((Env.none.upd 0 (.whole 0)).upd 2 (.lit (.int .i64 x1462))).upd 4 (.fn 9 [])).upd 10 (.lit (.int .i64 x1604))).upd 11 (.lit (.int .i64 x1605))) (Mem.nil.push (.row 34 rdS_huff_coin x1606)) _
   refine WP.seq ?_
   refine WP.seq ?_
   refine WP.region ?_
   refine WPL.q (q_mv (v := .lit (.int _ _)) rfl) rfl ?_
   refine WPL.q (q_mv (v := .lit (.int _ _)) rfl) rfl ?_
   refine WPL.q (q_neq rfl rfl) rfl ?_
   refine WPL.nilW ?_
   refine W.now ?_
   refine Then.n ?_
   refine WP.cond (t := (!decide (x1604 = x1605))) rfl (fun hb1617 => ?_) (fun hb1617 => ?_)
   · replace H := cnt hb1617 H
     refine WP.skipW ?_
     refine W.now ?_
     refine Then.n ?_
     refine WP.block ?_
     refine WP.seq ?_
     refine WP.region ?_
     refine WPL.q (q_mv (v := .lit (.int _ _)) rfl) rfl ?_
     refine WPL.q (q_mv (v := .lit (.int _ _)) rfl) rfl ?_
     refine WPL.q (q_gtr rfl rfl) rfl ?_
     refine WPL.nilW ?_
     refine W.now ?_
     refine Then.n ?_
     refine WP.cond (t := (decide (x1605 < x1604))) rfl (fun hb1618 => ?_) (fun hb1618 => ?_)
     · replace H := cnt hb1618 H
       refine WP.seq ?_
       refine WP.region ?_
       refine WPL.q (q_mv (v := .whole _) rfl) rfl ?_
       refine WPL.q (q_mv (v := .lit (.int _ _)) rfl) rfl ?_
       refine WPL.q (q_mv (v := .lit (.int _ _)) rfl) rfl ?_
       refine WPL.q (q_sub rfl rfl) rfl ?_
       refine WPL.q (q_mv (v := .lit (.int _ _)) rfl) rfl ?_
       refine WPL.q (q_mv (v := .lit (.int _ _)) rfl) rfl ?_
       refine WPL.q (q_mv (v := .fn _ _) rfl) rfl ?_
       obtain ⟨x1621, h1619, H⟩ := bnd H
       refine WPL.c (runs_call (s := [0]) (t := [0]) (N := 1) (bor := []) fn26 rfl (s_slices_swapRangeCmpFunc_huff_coin k (IntKind.wrap .i64 (x1462 - x1604)) x1462 x1605 x1606 x1621 h1619) ⟨rfl, ⟨trivial, .inr ⟨rfl, rfl, rfl⟩⟩, by decide, rfl, trivial⟩ rfl trivial (.ren rfl rfl (.ren rfl rfl (.ren rfl rfl (.ren rfl rfl (.ren rfl rfl .nil))))) rfl ⟨trivial, rfl⟩ rfl) rfl ?_
       refine WPL.nilW ?_
       refine W.now ?_
       refine Then.n ?_
       refine WP.region ?_
       refine WPL.q (q_mv (v := .lit (.int _ _)) rfl) rfl ?_
       refine WPL.q (q_mv (v := .lit (.int _ _)) rfl) rfl ?_
       refine WPL.q (q_sub rfl rfl) rfl ?_
       refine WPL.q (q_as (v := .lit (.int _ _)) rfl) rfl ?_
       refine WPL.nilW ?_
       exact W.wk [0] hnp (InBlock.n (Then.n ⟨n, ((IntKind.wrap .i64 (x1604 - x1605)), x1605, x1621), Nat.lt_succ_self n, H, rfl, rfl⟩)) ⟨rfl, ⟨trivial, .inr ⟨rfl, rfl, rfl⟩⟩, by decide, rfl, ⟨trivial, rfl⟩⟩ (LeE.upd rfl rfl (LeE.upd rfl rfl (LeE.upd rfl rfl (LeE.upd rfl rfl (LeE.upd rfl rfl (LeE.none rfl rfl)))))) rfl
     replace H := cnf hb1618 H
     refine WP.seq ?_
     refine WP.region ?_
     refine WPL.q (q_mv (v := .whole _) rfl) rfl ?_
     refine WPL.q (q_mv (v := .lit (.int _ _)) rfl) rfl ?_
     refine WPL.q (q_mv (v := .lit (.int _ _)) rfl) rfl ?_
     refine WPL.q (q_sub rfl rfl) rfl ?_
     refine WPL.q (q_mv (v := .lit (.int _ _)) rfl) rfl ?_
     refine WPL.q (q_mv (v := .lit (.int _ _)) rfl) rfl ?_
     refine WPL.q (q_add rfl rfl) rfl ?_
     refine WPL.q (q_mv (v := .lit (.int _ _)) rfl) rfl ?_
     obtain ⟨x1622, h1622, H⟩ := bnd H
     refine WPL.q (q_nm (q_sub rfl rfl) (nm_int h1622)) rfl ?_
     refine WPL.q (q_mv (v := .lit (.int _ _)) rfl) rfl ?_
     refine WPL.q (q_mv (v := .fn _ _) rfl) rfl ?_
     obtain ⟨x1624, h1622, H⟩ := bnd H
     refine WPL.c (runs_call (s := [0]) (t := [0]) (N := 1) (bor := []) fn26 rfl (s_slices_swapRangeCmpFunc_huff_coin k (IntKind.wrap .i64 (x1462 - x1604)) x1622 x1604 x1606 x1624 h1622) ⟨rfl, ⟨trivial, .inr ⟨rfl, rfl, rfl⟩⟩, by decide, rfl, trivial⟩ rfl trivial (.ren rfl rfl (.ren rfl rfl (.ren rfl rfl (.ren rfl rfl (.ren rfl rfl .nil))))) rfl ⟨trivial, rfl⟩ rfl) rfl ?_
     refine WPL.nilW ?_
     refine W.now ?_
     refine Then.n ?_
     refine WP.region ?_
     refine WPL.q (q_mv (v := .lit (.int _ _)) rfl) rfl ?_
     refine WPL.q (q_mv (v := .lit (.int _ _)) rfl) rfl ?_
     refine WPL.q (q_sub rfl rfl) rfl ?_
     refine WPL.q (q_as (v := .lit (.int _ _)) rfl) rfl ?_
     refine WPL.nilW ?_
     exact W.wk [0] hnp (InBlock.n (Then.n ⟨n, (x1604, (IntKind.wrap .i64 (x1605 - x1604)), x1624), Nat.lt_succ_self n, H, rfl, rfl⟩)) ⟨rfl, ⟨trivial, .inr ⟨rfl, rfl, rfl⟩⟩, by decide, rfl, ⟨trivial, rfl⟩⟩ (LeE.upd rfl rfl (LeE.upd rfl rfl (LeE.upd rfl rfl (LeE.upd rfl rfl (LeE.upd rfl rfl (LeE.none rfl rfl)))))) rfl
   replace H := cnf hb1617 H
   refine WP.exitW ?_
   have q0 := (Prod.mk.inj (Option.some.inj H)).1
   have q1 := (Prod.mk.inj (Option.some.inj H)).2
   subst q0
   subst q1
   exact W.wk [0] hnp (Then.x (Then.x ⟨rfl, rfl, rfl⟩)) ⟨rfl, ⟨trivial, .inr ⟨rfl, rfl, rfl⟩⟩, by decide, rfl, ⟨trivial, rfl⟩⟩ (LeE.upd rfl rfl (LeE.upd rfl rfl (LeE.upd rfl rfl (LeE.upd rfl rfl (LeE.none rfl rfl))))) rfl
 rintro _ _ _ ⟨rfl, rfl, rfl⟩
 refine W.now ?_
 refine InBlock.x0 ?_
 refine Then.n ?_
 refine WP.region ?_
 refine WPL.q (q_mv (v := .whole _) rfl) rfl ?_
 refine WPL.q (q_mv (v := .lit (.int _ _)) rfl) rfl ?_
 refine WPL.q (q_mv (v := .lit (.int _ _)) rfl) rfl ?_
 refine WPL.q (q_sub rfl rfl) rfl ?_
 refine WPL.q (q_mv (v := .lit (.int _ _)) rfl) rfl ?_
 refine WPL.q (q_mv (v := .lit (.int _ _)) rfl) rfl ?_
 refine WPL.q (q_mv (v := .fn _ _) rfl) rfl ?_
 obtain ⟨x1627, h1625, H⟩ := bnd H
 refine WPL.c (runs_call (s := [0]) (t := [0]) (N := 1) (bor := []) fn26 rfl (s_slices_swapRangeCmpFunc_huff_coin k (IntKind.wrap .i64 (x1462 - x1615)) x1462 x1615 x1616 x1627 h1625) ⟨rfl, ⟨trivial, .inr ⟨rfl, rfl, rfl⟩⟩, by decide, rfl, trivial⟩ rfl trivial (.ren rfl rfl (.ren rfl rfl (.ren rfl rfl (.ren rfl rfl (.ren rfl rfl .nil))))) rfl ⟨trivial, rfl⟩ rfl) rfl ?_
 refine WPL.nilW ?_
 have q0 := (Option.some.inj H)
 subst q0
 exact W.now (BodyR.mkN trivial rfl [0] ⟨rfl, rfl⟩ ⟨rfl, ⟨trivial, .inr ⟨rfl, rfl, rfl⟩⟩, by decide, rfl, ⟨trivial, rfl⟩⟩ rfl rfl)
set_option maxRecDepth 100000 in
set_option maxHeartbeats 4000000 in
theorem sb_slices_symMergeCmpFunc_huff_coin (rc1116 : Int → Int → Int → (List S_huff_coin) → Option (List S_huff_coin)) (hrc1116 : ∀ (x1112 : Int) (x1113 : Int) (x1114 : Int) (x1115 : (List S_huff_coin)) (x1667 : (List S_huff_coin)), rc1116 x1112 x1113 x1114 x1115 = some x1667 → Go.Q.Spec Try.prog 23 1 [.whole 0, .lit (.int .i64 x1112), .lit (.int .i64 x1113), .lit (.int .i64 x1114), .fn 9 []] (Mem.nil.push (.row 34 rdS_huff_coin x1115)) (fun o M => o = .ret (.tup []) ∧ M = (Mem.nil.push (.row 34 rdS_huff_coin x1667)))) (k : Nat) (x1112 : Int) (x1113 : Int) (x1114 : Int) (x1115 : (List S_huff_coin)) (x1667 : (List S_huff_coin)) (H : h_slices_symMergeCmpFunc_huff_coin rc1116 k x1112 x1113 x1114 x1115 = some x1667) : Go.Q.Spec Try.prog 23 1 [.whole 0, .lit (.int .i64 x1112), .lit (.int .i64 x1113), .lit (.int .i64 x1114), .fn 9 []] (Mem.nil.push (.row 34 rdS_huff_coin x1115)) (fun o M => o = .ret (.tup []) ∧ M = (Mem.nil.push (.row 34 rdS_huff_coin x1667))) := by
 unfold h_slices_symMergeCmpFunc_huff_coin at H
 refine Go.Q.Spec.of_bodyR (az := []) (rs := []) (nt := 220) Try.func23 rfl rfl (by intro t T h; simp at h) rfl rfl fun cx hnp => ?_
 refine WP.seq ?_
 refine WP.seq ?_
 refine WP.region ?_
 refine WPL.q (q_mv (v := .lit (.int _ _)) rfl) rfl ?_
 refine WPL.q (q_mv (v := .lit (.int _ _)) rfl) rfl ?_
 refine WPL.q (q_sub rfl rfl) rfl ?_
 obtain ⟨x2131, h2131, H⟩ := bnd H
 refine WPL.q (q_nm (q_eql rfl rfl) (nm_bool h2131)) rfl ?_
 refine WPL.nilW ?_
 refine W.now ?_
 refine Then.n ?_
 refine WP.cond (t := x2131) rfl (fun hb2131 => ?_) (fun hb2131 => ?_)
 · replace H := cnt hb2131 H
   refine WP.seq ?_
   refine WP.region ?_
   refine WPL.q (q_mv (v := .lit (.int _ _)) rfl) rfl ?_
   refine WPL.q (q_as (v := .lit (.int _ _)) rfl) rfl ?_
   refine WPL.nilW ?_
   refine W.now ?_
   refine Then.n ?_
   refine WP.seq ?_
   refine WP.region ?_
   refine WPL.q (q_mv (v := .lit (.int _ _)) rfl) rfl ?_
   refine WPL.q (q_as (v := .lit (.int _ _)) rfl) rfl ?_
   refine WPL.nilW ?_
   refine W.now ?_
   refine Then.n ?_
   refine WP.seq ?_
   refine WP.block ?_
   refine WP.cv (Cv.weak (E' := (((((Env.none.upd 0 (.whole 0)).upd 1 (.lit (.int .i64 x1112))).upd 4 (.fn 9 [])).upd 10 (.lit (.int .i64 x1113))).upd 11 (.lit (.int .i64 x1114)))) (M' := (Mem.nil.push (.row 34 rdS_huff_coin x1115))) [0] hnp ⟨rfl, ⟨trivial, .inr ⟨rfl, rfl, rfl⟩⟩, by decide, rfl, ⟨trivial, rfl⟩⟩ (LeE.upd rfl rfl (LeE.upd rfl rfl (LeE.upd rfl rfl (LeE.upd rfl rfl (LeE.upd rfl rfl (LeE.none rfl rfl))))))) ?_
   obtain ⟨x2165, H2180, H⟩ := bnd H
   refine WP.monoW (Q := fun x E M => x = .exit 0 ∧ E = (((Env.none.upd 0 (.whole 0)).upd 1 (.lit (.int .i64 x1112))).upd 10 (.lit (.int .i64 x2165))) ∧ M = (Mem.nil.push (.row 34 rdS_huff_coin x1115))) ?_ ?_
   · refine WP.loop (β := Int × Int) (fun n b => g_slices_symMergeCmpFunc_huff_coin_l0 k x1112 x1115 n b.1 b.2 = some x2165) (fun b => (((((Env.none.upd 0 (.whole 0)).upd 1 (.lit (.int .i64 x1112))).upd 4 (.fn 9 [])).upd 10 (.lit (.int .i64 b.1))).upd 11 (.lit (.int .i64 b.2)))) (fun b => (Mem.nil.push (.row 34 rdS_huff_coin x1115))) k (x1113, x1114) H2180 rfl rfl ?_
     rintro n ⟨x2148, x2149⟩ H
     obtain _ | n := n
     · exact nf rfl H
     rw [g_slices_symMergeCmpFunc_huff_coin_l0.eq_2] at H
     show WP _ _ _ _ (((((Env.none.upd 0 (.whole 0)).upd 1 (.lit (.int .i64 x1112))).upd 4 (.fn 9 [])).upd 10 (.lit (.int .i64 x2148))).upd 11 (.lit (.int .i64 x2149))) (Mem.nil.push (.row 34 rdS_huff_coin x1115)) _
     refine WP.seq ?_
     refine WP.seq ?_
     refine WP.region ?_
     refine WPL.q (q_mv (v := .lit (.int _ _)) rfl) rfl ?_
     refine WPL.q (q_mv (v := .lit (.int _ _)) rfl) rfl ?_
     refine WPL.q (q_lss rfl rfl) rfl ?_
     refine WPL.nilW ?_
     refine W.now ?_
     refine Then.n ?_
     refine WP.cond (t := (decide (x2148 < x2149))) rfl (fun hb2166 => ?_) (fun hb2166 => ?_)
     · replace H := cnt hb2166 H
       refine WP.skipW ?_
       refine W.now ?_
       refine Then.n ?_
       refine WP.block ?_
       refine WP.seq ?_
       refine WP.region ?_
       refine WPL.q (q_mv (v := .lit (.int _ _)) rfl) rfl ?_
       refine WPL.q (q_mv (v := .lit (.int _ _)) rfl) rfl ?_
       refine WPL.q (q_add rfl rfl) rfl ?_
       obtain ⟨x2168, h2168, H⟩ := bnd H
       refine WPL.q (q_nm (q_conv Try.underlying3 Try.underlying27 rfl) (nm_int h2168)) rfl ?_
       refine WPL.q (q_shr rfl rfl rfl) rfl ?_
       refine WPL.q (q_conv Try.underlying27 Try.underlying3 rfl) rfl ?_
       refine WPL.q (q_as (v := .lit (.int _ _)) rfl) rfl ?_
       refine WPL.nilW ?_
       refine W.now ?_
       refine Then.n ?_
       refine WP.seq ?_
       refine WP.regionD' 11 [0] [] mixed rfl ?_
       refine WPD.takeT 0 rfl (by kernel_rfl) (q_mv (v := .fn _ _) rfl) rfl ?_
       refine WPD.takeT 1 rfl (by kernel_rfl) (q_mv (v := .whole _) rfl) rfl ?_
       refine WPD.takeT 2 rfl (by kernel_rfl) (q_mv (v := .lit (.int _ _)) rfl) rfl ?_
       obtain ⟨x2175, h2175, H⟩ := bnd H
       refine WPD.takeT 3 rfl (by kernel_rfl) (q_index_row sl32 rfl rfl rfl (ixs h2175)) rfl ?_
       refine WPD.takeT 5 rfl (by kernel_rfl) (q_mv (v := .whole _) rfl) rfl ?_
       refine WPD.takeT 6 rfl (by kernel_rfl) (q_mv (v := .lit (.int _ _)) rfl) rfl ?_
       obtain ⟨x2176, h2176, H⟩ := bnd H
       refine WPD.takeT 7 rfl (by kernel_rfl) (q_index_row sl32 rfl rfl rfl (ixs h2176)) rfl ?_
       refine WPD.take 4 rfl (by kernel_rfl) (q_load_rowag (j := (Int.toNat (IntKind.wrap .i64 (shrI .u64 x2168 1)))) ag34 rfl rfl (ixj h2175) rfl S_huff_coin.sp) rfl rfl ?_
       refine WPD.take 8 rfl (by kernel_rfl) (q_load_rowag (j := (Int.toNat x1112)) ag34 rfl rfl (ixj h2176) rfl S_huff_coin.sp) rfl rfl ?_
       obtain ⟨x2178, h2176, H⟩ := bnd H
       refine WPD.eff 9 [0] [] rfl (by kernel_rfl) (runs_call (s := []) (t := []) (N := 1) (bor := []) fn9 rfl (s_huff_Lengths_1 k x2175.ffreq x2175.fsyms x2176.ffreq x2176.fsyms x2178 h2176) ⟨rfl, trivial, by decide, rfl, trivial⟩ rfl trivial (.ren rfl rfl (.ren rfl rfl .nil)) rfl trivial rfl) rfl rfl ?_
       refine WPD.takeT 10 rfl (by kernel_rfl) (q_lss rfl rfl) rfl ?_
       refine WPD.doneW (by kernel_rfl) ?_
       refine W.now ?_
       refine Then.n ?_
       refine WP.cond (t := (decide (x2178 < 0))) rfl (fun hb2178 => ?_) (fun hb2178 => ?_)
       · replace H := cnt hb2178 H
         refine WP.region ?_
         refine WPL.q (q_mv (v := .lit (.int _ _)) rfl) rfl ?_
         obtain ⟨x2180, h2180, H⟩ := bnd H
         refine WPL.q (q_nm (q_add rfl rfl) (nm_int h2180)) rfl ?_
         refine WPL.q (q_as (v := .lit (.int _ _)) rfl) rfl ?_
         refine WPL.nilW ?_
         exact W.wk [0] hnp (InBlock.n (Then.n ⟨n, (x2180, x2149), Nat.lt_succ_self n, H, rfl, rfl⟩)) ⟨rfl, ⟨trivial, .inr ⟨rfl, rfl, rfl⟩⟩, by decide, rfl, ⟨trivial, rfl⟩⟩ (LeE.upd rfl rfl (LeE.upd rfl rfl (LeE.upd rfl rfl (LeE.upd rfl rfl (LeE.upd rfl rfl (LeE.none rfl rfl)))))) rfl
       replace H := cnf hb2178 H
       refine WP.region ?_
       refine WPL.q (q_mv (v := .lit (.int _ _)) rfl) rfl ?_
       refine WPL.q (q_as (v := .lit (.int _ _)) rfl) rfl ?_
       refine WPL.nilW ?_
       exact W.wk [0] hnp (InBlock.n (Then.n ⟨n, (x2148, (IntKind.wrap .i64 (shrI .u64 x2168 1))), Nat.lt_succ_self n, H, rfl, rfl⟩)) ⟨rfl, ⟨trivial, .inr ⟨rfl, rfl, rfl⟩⟩, by decide, rfl, ⟨trivial, rfl⟩⟩ (LeE.upd rfl rfl (LeE.upd rfl rfl (LeE.upd rfl rfl (LeE.upd rfl rfl (LeE.upd rfl rfl (LeE.none rfl rfl)))))) rfl
     replace H := cnf hb2166 H
     refine WP.exitW ?_
     have q0 := (Option.some.inj H)
     subst q0
     exact W.wk [0] hnp (Then.x (Then.x ⟨rfl, rfl, rfl⟩)) ⟨rfl, ⟨trivial, .inr ⟨rfl, rfl, rfl⟩⟩, by decide, rfl, ⟨trivial, rfl⟩⟩ (LeE.upd rfl rfl (LeE.upd rfl rfl (LeE.upd rfl rfl (LeE.none rfl rfl)))) rfl
   rintro _ _ _ ⟨rfl, rfl, rfl⟩
   refine W.now ?_
   refine InBlock.x0 ?_
   refine Then.n ?_
   refine WP.seq ?_
   refine WP.seq ?_
   refine WP.region ?_
   refine WPL.q (q_mv (v := .lit (.int _ _)) rfl) rfl ?_
   refine WPL.q (q_as (v := .lit (.int _ _)) rfl) rfl ?_
   refine WPL.nilW ?_
   refine W.now ?_
   refine Then.n ?_
   refine WP.block ?_
   refine WP.cv (Cv.weak (E' := (((Env.none.upd 0 (.whole 0)).upd 10 (.lit (.int .i64 x2165))).upd 13 (.lit (.int .i64 x1112)))) (M' := (Mem.nil.push (.row 34 rdS_huff_coin x1115))) [0] hnp ⟨rfl, ⟨trivial, .inr ⟨rfl, rfl, rfl⟩⟩, by decide, rfl, ⟨trivial, rfl⟩⟩ (LeE.upd rfl rfl (LeE.upd rfl rfl (LeE.upd rfl rfl (LeE.none rfl rfl))))) ?_
   obtain ⟨x2218, H2235, H⟩ := bnd H
   refine WP.monoW (Q := fun x E M => x = .exit 2 ∧ E = Env.none ∧ M = (Mem.nil.push (.row 34 rdS_huff_coin x2218))) ?_ ?_
   · refine WP.loop (β := Int × (List S_huff_coin)) (fun n b => g_slices_symMergeCmpFunc_huff_coin_l1 k x2165 n b.1 b.2 = some x2218) (fun b => (((Env.none.upd 0 (.whole 0)).upd 10 (.lit (.int .i64 x2165))).upd 13 (.lit (.int .i64 b.1)))) (fun b => (Mem.nil.push (.row 34 rdS_huff_coin b.2))) k (x1112, x1115) H2235 rfl rfl ?_
     rintro n ⟨x2199, x2200⟩ H
     obtain _ | n := n
     · exact nf rfl H
     rw [g_slices_symMergeCmpFunc_huff_coin_l1.eq_2] at H
     show WP _ _ _ _ (((Env.none.upd 0 (.whole 0)).upd 10 (.lit (.int .i64 x2165))).upd 13 (.lit (.int .i64 x2199))) (Mem.nil.push (.row 34 rdS_huff_coin x2200)) _
     refine WP.seq ?_
     refine WP.seq ?_
     refine WP.region ?_
     refine WPL.q (q_mv (v := .lit (.int _ _)) rfl) rfl ?_
     refine WPL.q (q_mv (v := .lit (.int _ _)) rfl) rfl ?_
     refine WPL.q (q_sub rfl rfl) rfl ?_
     obtain ⟨x2221, h2221, H⟩ := bnd H
     refine WPL.q (q_nm (q_lss rfl rfl) (nm_bool h2221)) rfl ?_
     refine WPL.nilW ?_
     refine W.now ?_
     refine Then.n ?_
     refine WP.cond (t := x2221) rfl (fun hb2221 => ?_) (fun hb2221 => ?_)
     · replace H := cnt hb2221 H
       refine WP.skipW ?_
       refine W.now ?_
       refine Then.n ?_
       refine WP.seq ?_
       refine WP.block ?_
       refine WP.regionD' 18 [0] [15] mixed rfl ?_
       refine WPD.takeT 0 rfl (by kernel_rfl) (q_mv (v := .whole _) rfl) rfl ?_
       refine WPD.takeT 1 rfl (by kernel_rfl) (q_mv (v := .lit (.int _ _)) rfl) rfl ?_
       refine WPD.takeT 2 rfl (by kernel_rfl) (q_mv (v := .whole _) rfl) rfl ?_
       refine WPD.takeT 3 rfl (by kernel_rfl) (q_mv (v := .lit (.int _ _)) rfl) rfl ?_
       refine WPD.takeT 4 rfl (by kernel_rfl) (q_add rfl rfl) rfl ?_
       refine WPD.takeT 5 rfl (by kernel_rfl) (q_mv (v := .whole _) rfl) rfl ?_
       refine WPD.takeT 6 rfl (by kernel_rfl) (q_mv (v := .lit (.int _ _)) rfl) rfl ?_
       refine WPD.takeT 7 rfl (by kernel_rfl) (q_add rfl rfl) rfl ?_
       obtain ⟨x2232, h2232, H⟩ := bnd H
       refine WPD.takeT 8 rfl (by kernel_rfl) (q_index_row sl32 rfl rfl rfl (ixs h2232)) rfl ?_
       refine WPD.takeT 10 rfl (by kernel_rfl) (q_mv (v := .whole _) rfl) rfl ?_
       refine WPD.takeT 11 rfl (by kernel_rfl) (q_mv (v := .lit (.int _ _)) rfl) rfl ?_
       obtain ⟨x2233, h2233, H⟩ := bnd H
       refine WPD.takeT 12 rfl (by kernel_rfl) (q_index_row sl32 rfl rfl rfl (ixs h2233)) rfl ?_
       refine WPD.take 9 rfl (by kernel_rfl) (q_load_rowag (j := (Int.toNat (IntKind.wrap .i64 (x2199 + 1)))) ag34 rfl rfl (ixj h2232) rfl S_huff_coin.sp) rfl rfl ?_
       refine WPD.take 13 rfl (by kernel_rfl) (q_load_rowag (j := (Int.toNat x2199)) ag34 rfl rfl (ixj h2233) rfl S_huff_coin.sp) rfl rfl ?_
       obtain ⟨x2234, h2234, H⟩ := bnd H
       refine WPD.takeT 14 rfl (by kernel_rfl) (q_index_row sl32 rfl rfl rfl (ixs h2234)) rfl ?_
       refine WPD.effS 15 [] [] rfl (by kernel_rfl) (s_store_row (j := (Int.toNat x2199)) (d := (⟨x2232.ffreq, x2232.fsyms⟩ : S_huff_coin)) sz34 rfl rfl rfl rfl (Joins.via (Joins.cons Joins.sc (Joins.cons Joins.one Joins.unit))) (ixl h2234)) rfl ?_
       obtain ⟨x2235, h2235, H⟩ := bnd H
       refine WPD.takeT 16 rfl (by kernel_rfl) (q_index_row sl32 rfl rfl rfl (ixs h2235)) rfl ?_
       refine WPD.effS 17 [] [] rfl (by kernel_rfl) (s_store_row (j := (Int.toNat (IntKind.wrap .i64 (x2199 + 1)))) (d := (⟨x2233.ffreq, x2233.fsyms⟩ : S_huff_coin)) sz34 rfl rfl rfl rfl (Joins.via (Joins.cons Joins.sc (Joins.cons Joins.one Joins.unit))) (ixl h2235)) rfl ?_
       refine WPD.doneW (by kernel_rfl) ?_
       refine W.now ?_
       refine InBlock.n ?_
       refine Then.n ?_
       refine WP.region ?_
       refine WPL.q (q_mv (v := .lit (.int _ _)) rfl) rfl ?_
       refine WPL.q (q_add rfl rfl) rfl ?_
       refine WPL.q (q_as (v := .lit (.int _ _)) rfl) rfl ?_
       refine WPL.nilW ?_
       exact W.wk [0] hnp (Then.n ⟨n, ((IntKind.wrap .i64 (x2199 + 1)), (List.set (List.set x2200 (Int.toNat x2199) (⟨x2232.ffreq, x2232.fsyms⟩ : S_huff_coin)) (Int.toNat (IntKind.wrap .i64 (x2199 + 1))) (⟨x2233.ffreq, x2233.fsyms⟩ : S_huff_coin))), Nat.lt_succ_self n, H, rfl, rfl⟩) ⟨rfl, ⟨trivial, .inr ⟨rfl, rfl, rfl⟩⟩, by decide, rfl, ⟨trivial, rfl⟩⟩ (LeE.upd rfl rfl (LeE.upd rfl rfl (LeE.upd rfl rfl (LeE.none rfl rfl)))) rfl
     replace H := cnf hb2221 H
     refine WP.exitW ?_
     have q0 := (Option.some.inj H)
     subst q0
     exact W.wk [0] hnp (Then.x (Then.x ⟨rfl, rfl, rfl⟩)) ⟨rfl, ⟨trivial, .inr ⟨rfl, rfl, rfl⟩⟩, by decide, rfl, ⟨trivial, rfl⟩⟩ (LeE.none rfl rfl) rfl
   rintro _ _ _ ⟨rfl, rfl, rfl⟩
   refine W.now ?_
   refine InBlock.x0 ?_
   refine Then.n ?_
   refine WP.retW ?_
   have q0 := (Option.some.inj H)
   subst q0
   exact W.now (Then.r (BodyR.mkR trivial rfl [0] ⟨rfl, rfl⟩ ⟨rfl, ⟨trivial, .inr ⟨rfl, rfl, rfl⟩⟩, by decide, rfl, ⟨trivial, rfl⟩⟩ rfl rfl))
 replace H := cnf hb2131 H
 refine WP.skipW ?_
 refine W.now ?_
 refine Then.n ?_
 refine WP.seq ?_
 refine WP.seq ?_
 refine WP.region ?_
 refine WPL.q (q_mv (v := .lit (.int _ _)) rfl) rfl ?_
 refine WPL.q (q_mv (v := .lit (.int _ _)) rfl) rfl ?_
 refine WPL.q (q_sub rfl rfl) rfl ?_
 obtain ⟨x2307, h2307, H⟩ := bnd H
 refine WPL.q (q_nm (q_eql rfl rfl) (nm_bool h2307)) rfl ?_
 refine WPL.nilW ?_
 refine W.now ?_
 refine Then.n ?_
 refine WP.cond (t := x2307) rfl (fun hb2307 => ?_) (fun hb2307 => ?_)
 · replace H := cnt hb2307 H
   refine WP.seq ?_
   refine WP.region ?_
   refine WPL.q (q_mv (v := .lit (.int _ _)) rfl) rfl ?_
   refine WPL.q (q_as (v := .lit (.int _ _)) rfl) rfl ?_
   refine WPL.nilW ?_
   refine W.now ?_
   refine Then.n ?_
   refine WP.seq ?_
   refine WP.region ?_
   refine WPL.q (q_mv (v := .lit (.int _ _)) rfl) rfl ?_
   refine WPL.q (q_as (v := .lit (.int _ _)) rfl) rfl ?_
   refine WPL.nilW ?_
   refine W.now ?_
   refine Then.n ?_
   refine WP.seq ?_
   refine WP.block ?_
   refine WP.cv (Cv.weak (E' := (((((Env.none.upd 0 (.whole 0)).upd 2 (.lit (.int .i64 x1113))).upd 4 (.fn 9 [])).upd 14 (.lit (.int .i64 x1112))).upd 15 (.lit (.int .i64 x1113)))) (M' := (Mem.nil.push (.row 34 rdS_huff_coin x1115))) [0] hnp ⟨rfl, ⟨trivial, .inr ⟨rfl, rfl, rfl⟩⟩, by decide, rfl, ⟨trivial, rfl⟩⟩ (LeE.upd rfl rfl (LeE.upd rfl rfl (LeE.upd rfl rfl (LeE.upd rfl rfl (LeE.upd rfl rfl (LeE.none rfl rfl))))))) ?_
   obtain ⟨x2341, H2356, H⟩ := bnd H
   refine WP.monoW (Q := fun x E M => x = .exit 4 ∧ E = (((Env.none.upd 0 (.whole 0)).upd 2 (.lit (.int .i64 x1113))).upd 14 (.lit (.int .i64 x2341))) ∧ M = (Mem.nil.push (.row 34 rdS_huff_coin x1115))) ?_ ?_
   · refine WP.loop (β := Int × Int) (fun n b => g_slices_symMergeCmpFunc_huff_coin_l2 k x1113 x1115 n b.1 b.2 = some x2341) (fun b => (((((Env.none.upd 0 (.whole 0)).upd 2 (.lit (.int .i64 x1113))).upd 4 (.fn 9 [])).upd 14 (.lit (.int .i64 b.1))).upd 15 (.lit (.int .i64 b.2)))) (fun b => (Mem.nil.push (.row 34 rdS_huff_coin x1115))) k (x1112, x1113) H2356 rfl rfl ?_
     rintro n ⟨x2324, x2325⟩ H
     obtain _ | n := n
     · exact nf rfl H
     rw [g_slices_symMergeCmpFunc_huff_coin_l2.eq_2] at H
     show WP _ _ _ _ (((((Env.none.upd 0 (.whole 0)).upd 2 (.lit (.int .i64 x1113))).upd 4 (.fn 9 [])).upd 14 (.lit (.int .i64 x2324))).upd 15 (.lit (.int .i64 x2325))) (Mem.nil.push (.row 34 rdS_huff_coin x1115)) _
     refine WP.seq ?_
     refine WP.seq ?_
     refine WP.region ?_
     refine WPL.q (q_mv (v := .lit (.int _ _)) rfl) rfl ?_
     refine WPL.q (q_mv (v := .lit (.int _ _)) rfl) rfl ?_
     refine WPL.q (q_lss rfl rfl) rfl ?_
     refine WPL.nilW ?_
     refine W.now ?_
     refine Then.n ?_
     refine WP.cond (t := (decide (x2324 < x2325))) rfl (fun hb2342 => ?_) (fun hb2342 => ?_)
     · replace H := cnt hb2342 H
       refine WP.skipW ?_
       refine W.now ?_
       refine Then.n ?_
       refine WP.block ?_
       refine WP.seq ?_
       refine WP.region ?_
       refine WPL.q (q_mv (v := .lit (.int _ _)) rfl) rfl ?_
       refine WPL.q (q_mv (v := .lit (.int _ _)) rfl) rfl ?_
       refine WPL.q (q_add rfl rfl) rfl ?_
       obtain ⟨x2344, h2344, H⟩ := bnd H
       refine WPL.q (q_nm (q_conv Try.underlying3 Try.underlying27 rfl) (nm_int h2344)) rfl ?_
       refine WPL.q (q_shr rfl rfl rfl) rfl ?_
       refine WPL.q (q_conv Try.underlying27 Try.underlying3 rfl) rfl ?_
       refine WPL.q (q_as (v := .lit (.int _ _)) rfl) rfl ?_
       refine WPL.nilW ?_
       refine W.now ?_
       refine Then.n ?_
       refine WP.seq ?_
       refine WP.regionD' 12 [0] [] mixed rfl ?_
       refine WPD.takeT 0 rfl (by kernel_rfl) (q_mv (v := .fn _ _) rfl) rfl ?_
       refine WPD.takeT 1 rfl (by kernel_rfl) (q_mv (v := .whole _) rfl) rfl ?_
       refine WPD.takeT 2 rfl (by kernel_rfl) (q_mv (v := .lit (.int _ _)) rfl) rfl ?_
       obtain ⟨x2351, h2351, H⟩ := bnd H
       refine WPD.takeT 3 rfl (by kernel_rfl) (q_index_row sl32 rfl rfl rfl (ixs h2351)) rfl ?_
       refine WPD.takeT 5 rfl (by kernel_rfl) (q_mv (v := .whole _) rfl) rfl ?_
       refine WPD.takeT 6 rfl (by kernel_rfl) (q_mv (v := .lit (.int _ _)) rfl) rfl ?_
       obtain ⟨x2352, h2352, H⟩ := bnd H
       refine WPD.takeT 7 rfl (by kernel_rfl) (q_index_row sl32 rfl rfl rfl (ixs h2352)) rfl ?_
       refine WPD.take 4 rfl (by kernel_rfl) (q_load_rowag (j := (Int.toNat x1113)) ag34 rfl rfl (ixj h2351) rfl S_huff_coin.sp) rfl rfl ?_
       refine WPD.take 8 rfl (by kernel_rfl) (q_load_rowag (j := (Int.toNat (IntKind.wrap .i64 (shrI .u64 x2344 1)))) ag34 rfl rfl (ixj h2352) rfl S_huff_coin.sp) rfl rfl ?_
       obtain ⟨x2354, h2352, H⟩ := bnd H
       refine WPD.eff 9 [0] [] rfl (by kernel_rfl) (runs_call (s := []) (t := []) (N := 1) (bor := []) fn9 rfl (s_huff_Lengths_1 k x2351.ffreq x2351.fsyms x2352.ffreq x2352.fsyms x2354 h2352) ⟨rfl, trivial, by decide, rfl, trivial⟩ rfl trivial (.ren rfl rfl (.ren rfl rfl .nil)) rfl trivial rfl) rfl rfl ?_
       refine WPD.takeT 10 rfl (by kernel_rfl) (q_lss rfl rfl) rfl ?_
       refine WPD.takeT 11 rfl (by kernel_rfl) (q_not rfl) rfl ?_
       refine WPD.doneW (by kernel_rfl) ?_
       refine W.now ?_
       refine Then.n ?_
       refine WP.cond (t := (!(decide (x2354 < 0)))) rfl (fun hb2354 => ?_) (fun hb2354 => ?_)
       · replace H := cnt hb2354 H
         refine WP.region ?_
         refine WPL.q (q_mv (v := .lit (.int _ _)) rfl) rfl ?_
         obtain ⟨x2356, h2356, H⟩ := bnd H
         refine WPL.q (q_nm (q_add rfl rfl) (nm_int h2356)) rfl ?_
         refine WPL.q (q_as (v := .lit (.int _ _)) rfl) rfl ?_
         refine WPL.nilW ?_
         exact W.wk [0] hnp (InBlock.n (Then.n ⟨n, (x2356, x2325), Nat.lt_succ_self n, H, rfl, rfl⟩)) ⟨rfl, ⟨trivial, .inr ⟨rfl, rfl, rfl⟩⟩, by decide, rfl, ⟨trivial, rfl⟩⟩ (LeE.upd rfl rfl (LeE.upd rfl rfl (LeE.upd rfl rfl (LeE.upd rfl rfl (LeE.upd rfl rfl (LeE.none rfl rfl)))))) rfl
       replace H := cnf hb2354 H
       refine WP.region ?_
       refine WPL.q (q_mv (v := .lit (.int _ _)) rfl) rfl ?_
       refine WPL.q (q_as (v := .lit (.int _ _)) rfl) rfl ?_
       refine WPL.nilW ?_
       exact W.wk [0] hnp (InBlock.n (Then.n ⟨n, (x2324, (IntKind.wrap .i64 (shrI .u64 x2344 1))), Nat.lt_succ_self n, H, rfl, rfl⟩)) ⟨rfl, ⟨trivial, .inr ⟨rfl, rfl, rfl⟩⟩, by decide, rfl, ⟨trivial, rfl⟩⟩ (LeE.upd rfl rfl (LeE.upd rfl rfl (LeE.upd rfl rfl (LeE.upd rfl rfl (LeE.upd rfl rfl (LeE.none rfl rfl)))))) rfl
     replace H := cnf hb2342 H
     refine WP.exitW ?_
     have q0 := (Option.some.inj H)
     subst q0
     exact W.wk [0] hnp (Then.x (Then.x ⟨rfl, rfl, rfl⟩)) ⟨rfl, ⟨trivial, .inr ⟨rfl, rfl, rfl⟩⟩, by decide, rfl, ⟨trivial, rfl⟩⟩ (LeE.upd rfl rfl (LeE.upd rfl rfl (LeE.upd rfl rfl (LeE.none rfl rfl)))) rfl
   rintro _ _ _ ⟨rfl, rfl, rfl⟩
   refine W.now ?_
   refine InBlock.x0 ?_
   refine Then.n ?_
   refine WP.seq ?_
   refine WP.seq ?_
   refine WP.region ?_
   refine WPL.q (q_mv (v := .lit (.int _ _)) rfl) rfl ?_
   refine WPL.q (q_as (v := .lit (.int _ _)) rfl) rfl ?_
   refine WPL.nilW ?_
   refine W.now ?_
   refine Then.n ?_
   refine WP.block ?_
   refine WP.cv (Cv.weak (E' := (((Env.none.upd 0 (.whole 0)).upd 14 (.lit (.int .i64 x2341))).upd 17 (.lit (.int .i64 x1113)))) (M' := (Mem.nil.push (.row 34 rdS_huff_coin x1115))) [0] hnp ⟨rfl, ⟨trivial, .inr ⟨rfl, rfl, rfl⟩⟩, by decide, rfl, ⟨trivial, rfl⟩⟩ (LeE.upd rfl rfl (LeE.upd rfl rfl (LeE.upd rfl rfl (LeE.none rfl rfl))))) ?_
   obtain ⟨x2390, H2405, H⟩ := bnd H
   refine WP.monoW (Q := fun x E M => x = .exit 6 ∧ E = Env.none ∧ M = (Mem.nil.push (.row 34 rdS_huff_coin x2390))) ?_ ?_
   · refine WP.loop (β := Int × (List S_huff_coin)) (fun n b => g_slices_symMergeCmpFunc_huff_coin_l3 k x2341 n b.1 b.2 = some x2390) (fun b => (((Env.none.upd 0 (.whole 0)).upd 14 (.lit (.int .i64 x2341))).upd 17 (.lit (.int .i64 b.1)))) (fun b => (Mem.nil.push (.row 34 rdS_huff_coin b.2))) k (x1113, x1115) H2405 rfl rfl ?_
     rintro n ⟨x2373, x2374⟩ H
     obtain _ | n := n
     · exact nf rfl H
     rw [g_slices_symMergeCmpFunc_huff_coin_l3.eq_2] at H
     show WP _ _ _ _ (((Env.none.upd 0 (.whole 0)).upd 14 (.lit (.int .i64 x2341))).upd 17 (.lit (.int .i64 x2373))) (Mem.nil.push (.row 34 rdS_huff_coin x2374)) _
     refine WP.seq ?_
     refine WP.seq ?_
     refine WP.region ?_
     refine WPL.q (q_mv (v := .lit (.int _ _)) rfl) rfl ?_
     refine WPL.q (q_mv (v := .lit (.int _ _)) rfl) rfl ?_
     refine WPL.q (q_gtr rfl rfl) rfl ?_
     refine WPL.nilW ?_
     refine W.now ?_
     refine Then.n ?_
     refine WP.cond (t := (decide (x2341 < x2373))) rfl (fun hb2391 => ?_) (fun hb2391 => ?_)
     · replace H := cnt hb2391 H
       refine WP.skipW ?_
       refine W.now ?_
       refine Then.n ?_
       refine WP.seq ?_
       refine WP.block ?_
       refine WP.regionD' 18 [0] [15] mixed rfl ?_
       refine WPD.takeT 0 rfl (by kernel_rfl) (q_mv (v := .whole _) rfl) rfl ?_
       refine WPD.takeT 1 rfl (by kernel_rfl) (q_mv (v := .lit (.int _ _)) rfl) rfl ?_
       refine WPD.takeT 2 rfl (by kernel_rfl) (q_mv (v := .whole _) rfl) rfl ?_
       refine WPD.takeT 3 rfl (by kernel_rfl) (q_mv (v := .lit (.int _ _)) rfl) rfl ?_
       refine WPD.takeT 4 rfl (by kernel_rfl) (q_sub rfl rfl) rfl ?_
       refine WPD.takeT 5 rfl (by kernel_rfl) (q_mv (v := .whole _) rfl) rfl ?_
       refine WPD.takeT 6 rfl (by kernel_rfl) (q_mv (v := .lit (.int _ _)) rfl) rfl ?_
       refine WPD.takeT 7 rfl (by kernel_rfl) (q_sub rfl rfl) rfl ?_
       obtain ⟨x2402, h2402, H⟩ := bnd H
       refine WPD.takeT 8 rfl (by kernel_rfl) (q_index_row sl32 rfl rfl rfl (ixs h2402)) rfl ?_
       refine WPD.takeT 10 rfl (by kernel_rfl) (q_mv (v := .whole _) rfl) rfl ?_
       refine WPD.takeT 11 rfl (by kernel_rfl) (q_mv (v := .lit (.int _ _)) rfl) rfl ?_
       obtain ⟨x2403, h2403, H⟩ := bnd H
       refine WPD.takeT 12 rfl (by kernel_rfl) (q_index_row sl32 rfl rfl rfl (ixs h2403)) rfl ?_
       refine WPD.take 9 rfl (by kernel_rfl) (q_load_rowag (j := (Int.toNat (IntKind.wrap .i64 (x2373 - 1)))) ag34 rfl rfl (ixj h2402) rfl S_huff_coin.sp) rfl rfl ?_
       refine WPD.take 13 rfl (by kernel_rfl) (q_load_rowag (j := (Int.toNat x2373)) ag34 rfl rfl (ixj h2403) rfl S_huff_coin.sp) rfl rfl ?_
       obtain ⟨x2404, h2404, H⟩ := bnd H
       refine WPD.takeT 14 rfl (by kernel_rfl) (q_index_row sl32 rfl rfl rfl (ixs h2404)) rfl ?_
       refine WPD.effS 15 [] [] rfl (by kernel_rfl) (s_store_row (j := (Int.toNat x2373)) (d := (⟨x2402.ffreq, x2402.fsyms⟩ : S_huff_coin)) sz34 rfl rfl rfl rfl (Joins.via (Joins.cons Joins.sc (Joins.cons Joins.one Joins.unit))) (ixl h2404)) rfl ?_
       obtain ⟨x2405, h2405, H⟩ := bnd H
       refine WPD.takeT 16 rfl (by kernel_rfl) (q_index_row sl32 rfl rfl rfl (ixs h2405)) rfl ?_
       refine WPD.effS 17 [] [] rfl (by kernel_rfl) (s_store_row (j := (Int.toNat (IntKind.wrap .i64 (x2373 - 1)))) (d := (⟨x2403.ffreq, x2403.fsyms⟩ : S_huff_coin)) sz34 rfl rfl rfl rfl (Joins.via (Joins.cons Joins.sc (Joins.cons Joins.one Joins.unit))) (ixl h2405)) rfl ?_
       refine WPD.doneW (by kernel_rfl) ?_
       refine W.now ?_
       refine InBlock.n ?_
       refine Then.n ?_
       refine WP.region ?_
       refine WPL.q (q_mv (v := .lit (.int _ _)) rfl) rfl ?_
       refine WPL.q (q_sub rfl rfl) rfl ?_
       refine WPL.q (q_as (v := .lit (.int _ _)) rfl) rfl ?_
       refine WPL.nilW ?_
       exact W.wk [0] hnp (Then.n ⟨n, ((IntKind.wrap .i64 (x2373 - 1)), (List.set (List.set x2374 (Int.toNat x2373) (⟨x2402.ffreq, x2402.fsyms⟩ : S_huff_coin)) (Int.toNat (IntKind.wrap .i64 (x2373 - 1))) (⟨x2403.ffreq, x2403.fsyms⟩ : S_huff_coin))), Nat.lt_succ_self n, H, rfl, rfl⟩) ⟨rfl, ⟨trivial, .inr ⟨rfl, rfl, rfl⟩⟩, by decide, rfl, ⟨trivial, rfl⟩⟩ (LeE.upd rfl rfl (LeE.upd rfl rfl (LeE.upd rfl rfl (LeE.none rfl rfl)))) rfl
     replace H := cnf hb2391 H
     refine WP.exitW ?_
     have q0 := (Option.some.inj H)
     subst q0
     exact W.wk [0] hnp (Then.x (Then.x ⟨rfl, rfl, rfl⟩)) ⟨rfl, ⟨trivial, .inr ⟨rfl, rfl, rfl⟩⟩, by decide, rfl, ⟨trivial, rfl⟩⟩ (LeE.none rfl rfl) rfl
   rintro _ _ _ ⟨rfl, rfl, rfl⟩
   refine W.now ?_
   refine InBlock.x0 ?_
   refine Then.n ?_
   refine WP.retW ?_
   have q0 := (Option.some.inj H)
   subst q0
   exact W.now (Then.r (BodyR.mkR trivial rfl [0] ⟨rfl, rfl⟩ ⟨rfl, ⟨trivial, .inr ⟨rfl, rfl, rfl⟩⟩, by decide, rfl, ⟨trivial, rfl⟩⟩ rfl rfl))
 replace H := cnf hb2307 H
 refine WP.skipW ?_
 refine W.now ?_
 refine Then.n ?_
 refine WP.seq ?_
 refine WP.region ?_
 refine WPL.q (q_mv (v := .lit (.int _ _)) rfl) rfl ?_
 refine WPL.q (q_mv (v := .lit (.int _ _)) rfl) rfl ?_
 refine WPL.q (q_add rfl rfl) rfl ?_
 obtain ⟨x2407, h2407, H⟩ := bnd H
 refine WPL.q (q_nm (q_conv Try.underlying3 Try.underlying27 rfl) (nm_int h2407)) rfl ?_
 refine WPL.q (q_shr rfl rfl rfl) rfl ?_
 refine WPL.q (q_conv Try.underlying27 Try.underlying3 rfl) rfl ?_
 refine WPL.q (q_as (v := .lit (.int _ _)) rfl) rfl ?_
 refine WPL.nilW ?_
 refine W.now ?_
 refine Then.n ?_
 refine WP.seq ?_
 refine WP.region ?_
 refine WPL.q (q_mv (v := .lit (.int _ _)) rfl) rfl ?_
 refine WPL.q (q_mv (v := .lit (.int _ _)) rfl) rfl ?_
 obtain ⟨x2408, h2408, H⟩ := bnd H
 refine WPL.q (q_nm (q_add rfl rfl) (nm_int h2408)) rfl ?_
 refine WPL.q (q_as (v := .lit (.int _ _)) rfl) rfl ?_
 refine WPL.nilW ?_
 refine W.now ?_
 refine Then.n ?_
 refine WP.seq ?_
 refine WP.region ?_
 refine WPL.q (q_as (v := .lit (.int _ _)) rfl) rfl ?_
 refine WPL.q (q_as (v := .lit (.int _ _)) rfl) rfl ?_
 refine WPL.nilW ?_
 refine W.now ?_
 refine Then.n ?_
 refine WP.seq ?_
 obtain ⟨⟨x2411, x2412⟩, H2414, H⟩ := bnd H
 refine WP.monoW (Q := fun x E M => x = .normal ∧ E = (((((((((Env.none.upd 0 (.whole 0)).upd 1 (.lit (.int .i64 x1112))).upd 2 (.lit (.int .i64 x1113))).upd 3 (.lit (.int .i64 x1114))).upd 4 (.fn 9 [])).upd 18 (.lit (.int .i64 (IntKind.wrap .i64 (shrI .u64 x2407 1))))).upd 19 (.lit (.int .i64 x2408))).upd 20 (.lit (.int .i64 x2411))).upd 21 (.lit (.int .i64 x2412))) ∧ M = (Mem.nil.push (.row 34 rdS_huff_coin x1115))) ?_ ?_
 · clear H
   have H := H2414
   clear H2414
   refine WP.seq ?_
   refine WP.region ?_
   refine WPL.q (q_mv (v := .lit (.int _ _)) rfl) rfl ?_
   refine WPL.q (q_mv (v := .lit (.int _ _)) rfl) rfl ?_
   obtain ⟨x2413, h2413, H⟩ := bnd H
   refine WPL.q (q_nm (q_gtr rfl rfl) (nm_bool h2413)) rfl ?_
   refine WPL.nilW ?_
   refine W.now ?_
   refine Then.n ?_
   refine WP.cond (t := x2413) rfl (fun hb2413 => ?_) (fun hb2413 => ?_)
   · replace H := cnt hb2413 H
     refine WP.seq ?_
     refine WP.region ?_
     refine WPL.q (q_mv (v := .lit (.int _ _)) rfl) rfl ?_
     refine WPL.q (q_mv (v := .lit (.int _ _)) rfl) rfl ?_
     refine WPL.q (q_sub rfl rfl) rfl ?_
     refine WPL.q (q_as (v := .lit (.int _ _)) rfl) rfl ?_
     refine WPL.nilW ?_
     refine W.now ?_
     refine Then.n ?_
     refine WP.region ?_
     refine WPL.q (q_mv (v := .lit (.int _ _)) rfl) rfl ?_
     refine WPL.q (q_as (v := .lit (.int _ _)) rfl) rfl ?_
     refine WPL.nilW ?_
     have q0 := (Prod.mk.inj (Option.some.inj H)).1
     have q1 := (Prod.mk.inj (Option.some.inj H)).2
     subst q0
     subst q1
     exact W.wk [0] hnp ⟨rfl, rfl, rfl⟩ ⟨rfl, ⟨trivial, .inr ⟨rfl, rfl, rfl⟩⟩, by decide, rfl, ⟨trivial, rfl⟩⟩ (LeE.upd rfl rfl (LeE.upd rfl rfl (LeE.upd rfl rfl (LeE.upd rfl rfl (LeE.upd rfl rfl (LeE.upd rfl rfl (LeE.upd rfl rfl (LeE.upd rfl rfl (LeE.upd rfl rfl (LeE.none rfl rfl)))))))))) rfl
   replace H := cnf hb2413 H
   refine WP.seq ?_
   refine WP.region ?_
   refine WPL.q (q_mv (v := .lit (.int _ _)) rfl) rfl ?_
   refine WPL.q (q_as (v := .lit (.int _ _)) rfl) rfl ?_
   refine WPL.nilW ?_
   refine W.now ?_
   refine Then.n ?_
   refine WP.region ?_
   refine WPL.q (q_mv (v := .lit (.int _ _)) rfl) rfl ?_
   refine WPL.q (q_as (v := .lit (.int _ _)) rfl) rfl ?_
   refine WPL.nilW ?_
   have q0 := (Prod.mk.inj (Option.some.inj H)).1
   have q1 := (Prod.mk.inj (Option.some.inj H)).2
   subst q0
   subst q1
   exact W.wk [0] hnp ⟨rfl, rfl, rfl⟩ ⟨rfl, ⟨trivial, .inr ⟨rfl, rfl, rfl⟩⟩, by decide, rfl, ⟨trivial, rfl⟩⟩ (LeE.upd rfl rfl (LeE.upd rfl rfl (LeE.upd rfl rfl (LeE.upd rfl rfl (LeE.upd rfl rfl (LeE.upd rfl rfl (LeE.upd rfl rfl (LeE.upd rfl rfl (LeE.upd rfl rfl (LeE.none rfl rfl)))))))))) rfl
 rintro _ _ _ ⟨rfl, rfl, rfl⟩
 refine W.now ?_
 refine Then.n ?_
 refine WP.seq ?_
 refine WP.region ?_
 refine WPL.q (q_mv (v := .lit (.int _ _)) rfl) rfl ?_
 refine WPL.q (q_sub rfl rfl) rfl ?_
 refine WPL.q (q_as (v := .lit (.int _ _)) rfl) rfl ?_
 refine WPL.nilW ?_
 refine W.now ?_
 refine Then.n ?_
 refine WP.seq ?_
 refine WP.block ?_
 refine WP.cv (Cv.weak (E' := ((((((((((Env.none.upd 0 (.whole 0)).upd 1 (.lit (.int .i64 x1112))).upd 2 (.lit (.int .i64 x1113))).upd 3 (.lit (.int .i64 x1114))).upd 4 (.fn 9 [])).upd 18 (.lit (.int .i64 (IntKind.wrap .i64 (shrI .u64 x2407 1))))).upd 19 (.lit (.int .i64 x2408))).upd 20 (.lit (.int .i64 x2411))).upd 21 (.lit (.int .i64 x2412))).upd 22 (.lit (.int .i64 (IntKind.wrap .i64 (x2408 - 1)))))) (M' := (Mem.nil.push (.row 34 rdS_huff_coin x1115))) [0] hnp ⟨rfl, ⟨trivial, .inr ⟨rfl, rfl, rfl⟩⟩, by decide, rfl, ⟨trivial, rfl⟩⟩ (LeE.upd rfl rfl (LeE.upd rfl rfl (LeE.upd rfl rfl (LeE.upd rfl rfl (LeE.upd rfl rfl (LeE.upd rfl rfl (LeE.upd rfl rfl (LeE.upd rfl rfl (LeE.upd rfl rfl (LeE.upd rfl rfl (LeE.none rfl rfl)))))))))))) ?_
 obtain ⟨x2454, H2472, H⟩ := bnd H
 refine WP.monoW (Q := fun x E M => x = .exit 8 ∧ E = ((((((((Env.none.upd 0 (.whole 0)).upd 1 (.lit (.int .i64 x1112))).upd 2 (.lit (.int .i64 x1113))).upd 3 (.lit (.int .i64 x1114))).upd 4 (.fn 9 [])).upd 18 (.lit (.int .i64 (IntKind.wrap .i64 (shrI .u64 x2407 1))))).upd 19 (.lit (.int .i64 x2408))).upd 20 (.lit (.int .i64 x2454))) ∧ M = (Mem.nil.push (.row 34 rdS_huff_coin x1115))) ?_ ?_
 · refine WP.loop (β := Int × Int) (fun n b => g_slices_symMergeCmpFunc_huff_coin_l4 k x1115 x2408 n b.1 b.2 = some x2454) (fun b => ((((((((((Env.none.upd 0 (.whole 0)).upd 1 (.lit (.int .i64 x1112))).upd 2 (.lit (.int .i64 x1113))).upd 3 (.lit (.int .i64 x1114))).upd 4 (.fn 9 [])).upd 18 (.lit (.int .i64 (IntKind.wrap .i64 (shrI .u64 x2407 1))))).upd 19 (.lit (.int .i64 x2408))).upd 20 (.lit (.int .i64 b.1))).upd 21 (.lit (.int .i64 b.2))).upd 22 (.lit (.int .i64 (IntKind.wrap .i64 (x2408 - 1)))))) (fun b => (Mem.nil.push (.row 34 rdS_huff_coin x1115))) k (x2411, x2412) H2472 rfl rfl ?_
   rintro n ⟨x2434, x2435⟩ H
   obtain _ | n := n
   · exact nf rfl H
   rw [g_slices_symMergeCmpFunc_huff_coin_l4.eq_2] at H
   show WP _ _ _ _ ((((((((((Env.none.upd 0 (.whole 0)).upd 1 (.lit (.int .i64 x1112))).upd 2 (.lit (.int .i64 x1113))).upd 3 (.lit (.int .i64 x1114))).upd 4 (.fn 9 [])).upd 18 (.lit (.int .i64 (IntKind.wrap .i64 (shrI .u64 x2407 1))))).upd 19 (.lit (.int .i64 x2408))).upd 20 (.lit (.int .i64 x2434))).upd 21 (.lit (.int .i64 x2435))).upd 22 (.lit (.int .i64 (IntKind.wrap .i64 (x2408 - 1))))) (Mem.nil.push (.row 34 rdS_huff_coin x1115)) _
   refine WP.seq ?_
   refine WP.seq ?_
   refine WP.region ?_
   refine WPL.q (q_mv (v := .lit (.int _ _)) rfl) rfl ?_
   refine WPL.q (q_mv (v := .lit (.int _ _)) rfl) rfl ?_
   refine WPL.q (q_lss rfl rfl) rfl ?_
   refine WPL.nilW ?_
   refine W.now ?_
   refine Then.n ?_
   refine WP.cond (t := (decide (x2434 < x2435))) rfl (fun hb2455 => ?_) (fun hb2455 => ?_)
   · replace H := cnt hb2455 H
     refine WP.skipW ?_
     refine W.now ?_
     refine Then.n ?_
     refine WP.block ?_
     refine WP.seq ?_
     refine WP.region ?_
     refine WPL.q (q_mv (v := .lit (.int _ _)) rfl) rfl ?_
     refine WPL.q (q_mv (v := .lit (.int _ _)) rfl) rfl ?_
     refine WPL.q (q_add rfl rfl) rfl ?_
     obtain ⟨x2457, h2457, H⟩ := bnd H
     refine WPL.q (q_nm (q_conv Try.underlying3 Try.underlying27 rfl) (nm_int h2457)) rfl ?_
     refine WPL.q (q_shr rfl rfl rfl) rfl ?_
     refine WPL.q (q_conv Try.underlying27 Try.underlying3 rfl) rfl ?_
     refine WPL.q (q_as (v := .lit (.int _ _)) rfl) rfl ?_
     refine WPL.nilW ?_
     refine W.now ?_
     refine Then.n ?_
     refine WP.seq ?_
     refine WP.regionD' 14 [0] [] mixed rfl ?_
     refine WPD.takeT 0 rfl (by kernel_rfl) (q_mv (v := .fn _ _) rfl) rfl ?_
     refine WPD.takeT 1 rfl (by kernel_rfl) (q_mv (v := .whole _) rfl) rfl ?_
     refine WPD.takeT 2 rfl (by kernel_rfl) (q_mv (v := .lit (.int _ _)) rfl) rfl ?_
     refine WPD.takeT 3 rfl (by kernel_rfl) (q_mv (v := .lit (.int _ _)) rfl) rfl ?_
     obtain ⟨x2466, h2466, H⟩ := bnd H
     refine WPD.takeT 4 rfl (by kernel_rfl) (q_nm (q_sub rfl rfl) (nm_int h2466)) rfl ?_
     obtain ⟨x2467, h2467, H⟩ := bnd H
     refine WPD.takeT 5 rfl (by kernel_rfl) (q_index_row sl32 rfl rfl rfl (ixs h2467)) rfl ?_
     refine WPD.takeT 7 rfl (by kernel_rfl) (q_mv (v := .whole _) rfl) rfl ?_
     refine WPD.takeT 8 rfl (by kernel_rfl) (q_mv (v := .lit (.int _ _)) rfl) rfl ?_
     obtain ⟨x2468, h2468, H⟩ := bnd H
     refine WPD.takeT 9 rfl (by kernel_rfl) (q_index_row sl32 rfl rfl rfl (ixs h2468)) rfl ?_
     refine WPD.take 6 rfl (by kernel_rfl) (q_load_rowag (j := (Int.toNat x2466)) ag34 rfl rfl (ixj h2467) rfl S_huff_coin.sp) rfl rfl ?_
     refine WPD.take 10 rfl (by kernel_rfl) (q_load_rowag (j := (Int.toNat (IntKind.wrap .i64 (shrI .u64 x2457 1)))) ag34 rfl rfl (ixj h2468) rfl S_huff_coin.sp) rfl rfl ?_
     obtain ⟨x2470, h2468, H⟩ := bnd H
     refine WPD.eff 11 [0] [] rfl (by kernel_rfl) (runs_call (s := []) (t := []) (N := 1) (bor := []) fn9 rfl (s_huff_Lengths_1 k x2467.ffreq x2467.fsyms x2468.ffreq x2468.fsyms x2470 h2468) ⟨rfl, trivial, by decide, rfl, trivial⟩ rfl trivial (.ren rfl rfl (.ren rfl rfl .nil)) rfl trivial rfl) rfl rfl ?_
     refine WPD.takeT 12 rfl (by kernel_rfl) (q_lss rfl rfl) rfl ?_
     refine WPD.takeT 13 rfl (by kernel_rfl) (q_not rfl) rfl ?_
     refine WPD.doneW (by kernel_rfl) ?_
     refine W.now ?_
     refine Then.n ?_
     refine WP.cond (t := (!(decide (x2470 < 0)))) rfl (fun hb2470 => ?_) (fun hb2470 => ?_)
     · replace H := cnt hb2470 H
       refine WP.region ?_
       refine WPL.q (q_mv (v := .lit (.int _ _)) rfl) rfl ?_
       obtain ⟨x2472, h2472, H⟩ := bnd H
       refine WPL.q (q_nm (q_add rfl rfl) (nm_int h2472)) rfl ?_
       refine WPL.q (q_as (v := .lit (.int _ _)) rfl) rfl ?_
       refine WPL.nilW ?_
       exact W.wk [0] hnp (InBlock.n (Then.n ⟨n, (x2472, x2435), Nat.lt_succ_self n, H, rfl, rfl⟩)) ⟨rfl, ⟨trivial, .inr ⟨rfl, rfl, rfl⟩⟩, by decide, rfl, ⟨trivial, rfl⟩⟩ (LeE.upd rfl rfl (LeE.upd rfl rfl (LeE.upd rfl rfl (LeE.upd rfl rfl (LeE.upd rfl rfl (LeE.upd rfl rfl (LeE.upd rfl rfl (LeE.upd rfl rfl (LeE.upd rfl rfl (LeE.upd rfl rfl (LeE.none rfl rfl))))))))))) rfl
     replace H := cnf hb2470 H
     refine WP.region ?_
     refine WPL.q (q_mv (v := .lit (.int _ _)) rfl) rfl ?_
     refine WPL.q (q_as (v := .lit (.int _ _)) rfl) rfl ?_
     refine WPL.nilW ?_
     exact W.wk [0] hnp (InBlock.n (Then.n ⟨n, (x2434, (IntKind.wrap .i64 (shrI .u64 x2457 1))), Nat.lt_succ_self n, H, rfl, rfl⟩)) ⟨rfl, ⟨trivial, .inr ⟨rfl, rfl, rfl⟩⟩, by decide, rfl, ⟨trivial, rfl⟩⟩ (LeE.upd rfl rfl (LeE.upd rfl rfl (LeE.upd rfl rfl (LeE.upd rfl rfl (LeE.upd rfl rfl (LeE.upd rfl rfl (LeE.upd rfl rfl (LeE.upd rfl rfl (LeE.upd rfl rfl (LeE.upd rfl rfl (LeE.none rfl rfl))))))))))) rfl
   replace H := cnf hb2455 H
   refine WP.exitW ?_
   have q0 := (Option.some.inj H)
   subst q0
   exact W.wk [0] hnp (Then.x (Then.x ⟨rfl, rfl, rfl⟩)) ⟨rfl, ⟨trivial, .inr ⟨rfl, rfl, rfl⟩⟩, by decide, rfl, ⟨trivial, rfl⟩⟩ (LeE.upd rfl rfl (LeE.upd rfl rfl (LeE.upd rfl rfl (LeE.upd rfl rfl (LeE.upd rfl rfl (LeE.upd rfl rfl (LeE.upd rfl rfl (LeE.upd rfl rfl (LeE.none rfl rfl))))))))) rfl
 rintro _ _ _ ⟨rfl, rfl, rfl⟩
 refine W.now ?_
 refine InBlock.x0 ?_
 refine Then.n ?_
 refine WP.seq ?_
 refine WP.region ?_
 refine WPL.q (q_mv (v := .lit (.int _ _)) rfl) rfl ?_
 refine WPL.q (q_mv (v := .lit (.int _ _)) rfl) rfl ?_
 refine WPL.q (q_sub rfl rfl) rfl ?_
 refine WPL.q (q_as (v := .lit (.int _ _)) rfl) rfl ?_
 refine WPL.nilW ?_
 refine W.now ?_
 refine Then.n ?_
 refine WP.seq ?_
 obtain ⟨x2483, H2492, H⟩ := bnd H
 refine WP.monoW (Q := fun x E M => x = .normal ∧ E = (((((((Env.none.upd 0 (.whole 0)).upd 1 (.lit (.int .i64 x1112))).upd 3 (.lit (.int .i64 x1114))).upd 4 (.fn 9 [])).upd 18 (.lit (.int .i64 (IntKind.wrap .i64 (shrI .u64 x2407 1))))).upd 20 (.lit (.int .i64 x2454))).upd 24 (.lit (.int .i64 (IntKind.wrap .i64 (x2408 - x2454))))) ∧ M = (Mem.nil.push (.row 34 rdS_huff_coin x2483))) ?_ ?_
 · clear H
   have H := H2492
   clear H2492
   refine WP.seq ?_
   obtain ⟨x2486, H2488, H⟩ := bnd H
   refine WP.monoW (Q := fun x E M => x = .normal ∧ E = (((((((((Env.none.upd 0 (.whole 0)).upd 1 (.lit (.int .i64 x1112))).upd 2 (.lit (.int .i64 x1113))).upd 3 (.lit (.int .i64 x1114))).upd 4 (.fn 9 [])).upd 18 (.lit (.int .i64 (IntKind.wrap .i64 (shrI .u64 x2407 1))))).upd 20 (.lit (.int .i64 x2454))).upd 24 (.lit (.int .i64 (IntKind.wrap .i64 (x2408 - x2454))))).upd 185 (.lit (.bool x2486))) ∧ M = (Mem.nil.push (.row 34 rdS_huff_coin x1115))) ?_ ?_
   · clear H
     have H := H2488
     clear H2488
     refine WP.region ?_
     refine WPL.q (q_mv (v := .lit (.int _ _)) rfl) rfl ?_
     refine WPL.q (q_mv (v := .lit (.int _ _)) rfl) rfl ?_
     refine WPL.q (q_lss rfl rfl) rfl ?_
     refine WPL.q (q_mv (v := .lit (.bool _)) rfl) rfl ?_
     refine WPL.split (t := 181) (b := (decide (x2454 < x1113))) rfl (fun hb2486 => ?_) (fun hb2486 => ?_)
     · replace H := cnt hb2486 H
       refine WPL.qg rfl rfl (lb hb2486) (q_mv (v := .lit (.int _ _)) rfl) rfl ?_
       refine WPL.qg rfl rfl (lb hb2486) (q_mv (v := .lit (.int _ _)) rfl) rfl ?_
       obtain ⟨x2488, h2488, H⟩ := bnd H
       refine WPL.qg rfl rfl (lb hb2486) (q_nm (q_lss rfl rfl) (nm_bool h2488)) rfl ?_
       refine WPL.q (q_pickT (v := .lit (.bool _)) (lb hb2486) rfl) rfl ?_
       refine WPL.nilW ?_
       have q0 := (Option.some.inj H)
       subst q0
       exact W.wk [0] hnp ⟨rfl, rfl, rfl⟩ ⟨rfl, ⟨trivial, .inr ⟨rfl, rfl, rfl⟩⟩, by decide, rfl, ⟨trivial, rfl⟩⟩ (LeE.upd rfl rfl (LeE.upd rfl rfl (LeE.upd rfl rfl (LeE.upd rfl rfl (LeE.upd rfl rfl (LeE.upd rfl rfl (LeE.upd rfl rfl (LeE.upd rfl rfl (LeE.upd rfl rfl (LeE.none rfl rfl)))))))))) rfl
     replace H := cnf hb2486 H
     refine WPL.skipg (b' := false) rfl rfl (lb hb2486) rfl rfl (.inl trivial) ?_
     refine WPL.skipg (b' := false) rfl rfl (lb hb2486) rfl rfl (.inl trivial) ?_
     refine WPL.skipg (b' := false) rfl rfl (lb hb2486) rfl rfl (.inl trivial) ?_
     refine WPL.q (q_pickF (v := .lit (.bool _)) (lb hb2486) rfl) rfl ?_
     refine WPL.nilW ?_
     have q0 := (Option.some.inj H)
     subst q0
     exact W.wk [0] hnp ⟨rfl, rfl, rfl⟩ ⟨rfl, ⟨trivial, .inr ⟨rfl, rfl, rfl⟩⟩, by decide, rfl, ⟨trivial, rfl⟩⟩ (LeE.upd rfl rfl (LeE.upd rfl rfl (LeE.upd rfl rfl (LeE.upd rfl rfl (LeE.upd rfl rfl (LeE.upd rfl rfl (LeE.upd rfl rfl (LeE.upd rfl rfl (LeE.upd rfl rfl (LeE.none rfl rfl)))))))))) rfl
   rintro _ _ _ ⟨rfl, rfl, rfl⟩
   refine W.now ?_
   refine Then.n ?_
   refine WP.cond (t := x2486) rfl (fun hb2489 => ?_) (fun hb2489 => ?_)
   · replace H := cnt hb2489 H
     refine WP.region ?_
     refine WPL.q (q_mv (v := .whole _) rfl) rfl ?_
     refine WPL.q (q_mv (v := .lit (.int _ _)) rfl) rfl ?_
     refine WPL.q (q_mv (v := .lit (.int _ _)) rfl) rfl ?_
     refine WPL.q (q_mv (v := .lit (.int _ _)) rfl) rfl ?_
     refine WPL.q (q_mv (v := .fn _ _) rfl) rfl ?_
     obtain ⟨x2492, h2490, H⟩ := bnd H
     refine WPL.c (runs_call (s := [0]) (t := [0]) (N := 1) (bor := []) fn25 rfl (s_slices_rotateCmpFunc_huff_coin k x2454 x1113 (IntKind.wrap .i64 (x2408 - x2454)) x1115 x2492 h2490) ⟨rfl, ⟨trivial, .inr ⟨rfl, rfl, rfl⟩⟩, by decide, rfl, trivial⟩ rfl trivial (.ren rfl rfl (.ren rfl rfl (.ren rfl rfl (.ren rfl rfl (.ren rfl rfl .nil))))) rfl ⟨trivial, rfl⟩ rfl) rfl ?_
     refine WPL.nilW ?_
     have q0 := (Option.some.inj H)
     subst q0
     exact W.wk [0] hnp ⟨rfl, rfl, rfl⟩ ⟨rfl, ⟨trivial, .inr ⟨rfl, rfl, rfl⟩⟩, by decide, rfl, ⟨trivial, rfl⟩⟩ (LeE.upd rfl rfl (LeE.upd rfl rfl (LeE.upd rfl rfl (LeE.upd rfl rfl (LeE.upd rfl rfl (LeE.upd rfl rfl (LeE.upd rfl rfl (LeE.none rfl rfl)))))))) rfl
   replace H := cnf hb2489 H
   refine WP.skipW ?_
   have q0 := (Option.some.inj H)
   subst q0
   exact W.wk [0] hnp ⟨rfl, rfl, rfl⟩ ⟨rfl, ⟨trivial, .inr ⟨rfl, rfl, rfl⟩⟩, by decide, rfl, ⟨trivial, rfl⟩⟩ (LeE.upd rfl rfl (LeE.upd rfl rfl (LeE.upd rfl rfl (LeE.upd rfl rfl (LeE.upd rfl rfl (LeE.upd rfl rfl (LeE.upd rfl rfl (LeE.none rfl rfl)))))))) rfl
 rintro _ _ _ ⟨rfl, rfl, rfl⟩
 refine W.now ?_
 refine Then.n ?_
 refine WP.seq ?_
 obtain ⟨x2503, H2512, H⟩ := bnd H
 refine WP.monoW (Q := fun x E M => x = .normal ∧ E = (((((Env.none.upd 0 (.whole 0)).upd 3 (.lit (.int .i64 x1114))).upd 4 (.fn 9 [])).upd 18 (.lit (.int .i64 (IntKind.wrap .i64 (shrI .u64 x2407 1))))).upd 24 (.lit (.int .i64 (IntKind.wrap .i64 (x2408 - x2454))))) ∧ M = (Mem.nil.push (.row 34 rdS_huff_coin x2503))) ?_ ?_
 · clear H
   have H := H2512
   clear H2512
   refine WP.seq ?_
   obtain ⟨x2506, H2508, H⟩ := bnd H
   refine WP.monoW (Q := fun x E M => x = .normal ∧ E = ((((((((Env.none.upd 0 (.whole 0)).upd 1 (.lit (.int .i64 x1112))).upd 3 (.lit (.int .i64 x1114))).upd 4 (.fn 9 [])).upd 18 (.lit (.int .i64 (IntKind.wrap .i64 (shrI .u64 x2407 1))))).upd 20 (.lit (.int .i64 x2454))).upd 24 (.lit (.int .i64 (IntKind.wrap .i64 (x2408 - x2454))))).upd 199 (.lit (.bool x2506))) ∧ M = (Mem.nil.push (.row 34 rdS_huff_coin x2483))) ?_ ?_
   · clear H
     have H := H2508
     clear H2508
     refine WP.region ?_
     refine WPL.q (q_mv (v := .lit (.int _ _)) rfl) rfl ?_
     refine WPL.q (q_mv (v := .lit (.int _ _)) rfl) rfl ?_
     refine WPL.q (q_lss rfl rfl) rfl ?_
     refine WPL.q (q_mv (v := .lit (.bool _)) rfl) rfl ?_
     refine WPL.split (t := 195) (b := (decide (x1112 < x2454))) rfl (fun hb2506 => ?_) (fun hb2506 => ?_)
     · replace H := cnt hb2506 H
       refine WPL.qg rfl rfl (lb hb2506) (q_mv (v := .lit (.int _ _)) rfl) rfl ?_
       refine WPL.qg rfl rfl (lb hb2506) (q_mv (v := .lit (.int _ _)) rfl) rfl ?_
       obtain ⟨x2508, h2508, H⟩ := bnd H
       refine WPL.qg rfl rfl (lb hb2506) (q_nm (q_lss rfl rfl) (nm_bool h2508)) rfl ?_
       refine WPL.q (q_pickT (v := .lit (.bool _)) (lb hb2506) rfl) rfl ?_
       refine WPL.nilW ?_
       have q0 := (Option.some.inj H)
       subst q0
       exact W.wk [0] hnp ⟨rfl, rfl, rfl⟩ ⟨rfl, ⟨trivial, .inr ⟨rfl, rfl, rfl⟩⟩, by decide, rfl, ⟨trivial, rfl⟩⟩ (LeE.upd rfl rfl (LeE.upd rfl rfl (LeE.upd rfl rfl (LeE.upd rfl rfl (LeE.upd rfl rfl (LeE.upd rfl rfl (LeE.upd rfl rfl (LeE.upd rfl rfl (LeE.none rfl rfl))))))))) rfl
     replace H := cnf hb2506 H
     refine WPL.skipg (b' := false) rfl rfl (lb hb2506) rfl rfl (.inl trivial) ?_
     refine WPL.skipg (b' := false) rfl rfl (lb hb2506) rfl rfl (.inl trivial) ?_
     refine WPL.skipg (b' := false) rfl rfl (lb hb2506) rfl rfl (.inl trivial) ?_
     refine WPL.q (q_pickF (v := .lit (.bool _)) (lb hb2506) rfl) rfl ?_
     refine WPL.nilW ?_
     have q0 := (Option.some.inj H)
     subst q0
     exact W.wk [0] hnp ⟨rfl, rfl, rfl⟩ ⟨rfl, ⟨trivial, .inr ⟨rfl, rfl, rfl⟩⟩, by decide, rfl, ⟨trivial, rfl⟩⟩ (LeE.upd rfl rfl (LeE.upd rfl rfl (LeE.upd rfl rfl (LeE.upd rfl rfl (LeE.upd rfl rfl (LeE.upd rfl rfl (LeE.upd rfl rfl (LeE.upd rfl rfl (LeE.none rfl rfl))))))))) rfl
   rintro _ _ _ ⟨rfl, rfl, rfl⟩
   refine W.now ?_
   refine Then.n ?_
   refine WP.cond (t := x2506) rfl (fun hb2509 => ?_) (fun hb2509 => ?_)
   · replace H := cnt hb2509 H
     refine WP.region ?_
     refine WPL.q (q_mv (v := .whole _) rfl) rfl ?_
     refine WPL.q (q_mv (v := .lit (.int _ _)) rfl) rfl ?_
     refine WPL.q (q_mv (v := .lit (.int _ _)) rfl) rfl ?_
     refine WPL.q (q_mv (v := .lit (.int _ _)) rfl) rfl ?_
     refine WPL.q (q_mv (v := .fn _ _) rfl) rfl ?_
     obtain ⟨x2512, h2510, H⟩ := bnd H
     refine WPL.c (runs_call (s := [0]) (t := [0]) (N := 1) (bor := []) fn23 rfl (hrc1116 x1112 x2454 (IntKind.wrap .i64 (shrI .u64 x2407 1)) x2483 x2512 h2510) ⟨rfl, ⟨trivial, .inr ⟨rfl, rfl, rfl⟩⟩, by decide, rfl, trivial⟩ rfl trivial (.ren rfl rfl (.ren rfl rfl (.ren rfl rfl (.ren rfl rfl (.ren rfl rfl .nil))))) rfl ⟨trivial, rfl⟩ rfl) rfl ?_
     refine WPL.nilW ?_
     have q0 := (Option.some.inj H)
     subst q0
     exact W.wk [0] hnp ⟨rfl, rfl, rfl⟩ ⟨rfl, ⟨trivial, .inr ⟨rfl, rfl, rfl⟩⟩, by decide, rfl, ⟨trivial, rfl⟩⟩ (LeE.upd rfl rfl (LeE.upd rfl rfl (LeE.upd rfl rfl (LeE.upd rfl rfl (LeE.upd rfl rfl (LeE.none rfl rfl)))))) rfl
   replace H := cnf hb2509 H
   refine WP.skipW ?_
   have q0 := (Option.some.inj H)
   subst q0
   exact W.wk [0] hnp ⟨rfl, rfl, rfl⟩ ⟨rfl, ⟨trivial, .inr ⟨rfl, rfl, rfl⟩⟩, by decide, rfl, ⟨trivial, rfl⟩⟩ (LeE.upd rfl rfl (LeE.upd rfl rfl (LeE.upd rfl rfl (LeE.upd rfl rfl (LeE.upd rfl rfl (LeE.none rfl rfl)))))) rfl
 rintro _ _ _ ⟨rfl, rfl, rfl⟩
 refine W.now ?_
 refine Then.n ?_
 refine WP.seq ?_
 obtain ⟨x2517, H2520, H⟩ := bnd H
 refine WP.monoW (Q := fun x E M => x = .normal ∧ E = ((((((Env.none.upd 0 (.whole 0)).upd 3 (.lit (.int .i64 x1114))).upd 4 (.fn 9 [])).upd 18 (.lit (.int .i64 (IntKind.wrap .i64 (shrI .u64 x2407 1))))).upd 24 (.lit (.int .i64 (IntKind.wrap .i64 (x2408 - x2454))))).upd 213 (.lit (.bool x2517))) ∧ M = (Mem.nil.push (.row 34 rdS_huff_coin x2503))) ?_ ?_
 · clear H
   have H := H2520
   clear H2520
   refine WP.region ?_
   refine WPL.q (q_mv (v := .lit (.int _ _)) rfl) rfl ?_
   refine WPL.q (q_mv (v := .lit (.int _ _)) rfl) rfl ?_
   obtain ⟨x2518, h2518, H⟩ := bnd H
   refine WPL.q (q_nm (q_lss rfl rfl) (nm_bool h2518)) rfl ?_
   refine WPL.q (q_mv (v := .lit (.bool _)) rfl) rfl ?_
   refine WPL.split (t := 209) (b := x2518) rfl (fun hb2518 => ?_) (fun hb2518 => ?_)
   · replace H := cnt hb2518 H
     refine WPL.qg rfl rfl (lb hb2518) (q_mv (v := .lit (.int _ _)) rfl) rfl ?_
     refine WPL.qg rfl rfl (lb hb2518) (q_mv (v := .lit (.int _ _)) rfl) rfl ?_
     obtain ⟨x2520, h2520, H⟩ := bnd H
     refine WPL.qg rfl rfl (lb hb2518) (q_nm (q_lss rfl rfl) (nm_bool h2520)) rfl ?_
     refine WPL.q (q_pickT (v := .lit (.bool _)) (lb hb2518) rfl) rfl ?_
     refine WPL.nilW ?_
     have q0 := (Option.some.inj H)
     subst q0
     exact W.wk [0] hnp ⟨rfl, rfl, rfl⟩ ⟨rfl, ⟨trivial, .inr ⟨rfl, rfl, rfl⟩⟩, by decide, rfl, ⟨trivial, rfl⟩⟩ (LeE.upd rfl rfl (LeE.upd rfl rfl (LeE.upd rfl rfl (LeE.upd rfl rfl (LeE.upd rfl rfl (LeE.upd rfl rfl (LeE.none rfl rfl))))))) rfl
   replace H := cnf hb2518 H
   refine WPL.skipg (b' := false) rfl rfl (lb hb2518) rfl rfl (.inl trivial) ?_
   refine WPL.skipg (b' := false) rfl rfl (lb hb2518) rfl rfl (.inl trivial) ?_
   refine WPL.skipg (b' := false) rfl rfl (lb hb2518) rfl rfl (.inl trivial) ?_
   refine WPL.q (q_pickF (v := .lit (.bool _)) (lb hb2518) rfl) rfl ?_
   refine WPL.nilW ?_
   have q0 := (Option.some.inj H)
   subst q0
   exact W.wk [0] hnp ⟨rfl, rfl, rfl⟩ ⟨rfl, ⟨trivial, .inr ⟨rfl, rfl, rfl⟩⟩, by decide, rfl, ⟨trivial, rfl⟩⟩ (LeE.upd rfl rfl (LeE.upd rfl rfl (LeE.upd rfl rfl (LeE.upd rfl rfl (LeE.upd rfl rfl (LeE.upd rfl rfl (LeE.none rfl rfl))))))) rfl
 rintro _ _ _ ⟨rfl, rfl, rfl⟩
 refine W.now ?_
 refine Then.n ?_
 refine WP.cond (t := x2517) rfl (fun hb2521 => ?_) (fun hb2521 => ?_)
 · replace H := cnt hb2521 H
   refine WP.region ?_
   refine WPL.q (q_mv (v := .whole _) rfl) rfl ?_
   refine WPL.q (q_mv (v := .lit (.int _ _)) rfl) rfl ?_
   refine WPL.q (q_mv (v := .lit (.int _ _)) rfl) rfl ?_
   refine WPL.q (q_mv (v := .lit (.int _ _)) rfl) rfl ?_
   refine WPL.q (q_mv (v := .fn _ _) rfl) rfl ?_
   obtain ⟨x2524, h2522, H⟩ := bnd H
   refine WPL.c (runs_call (s := [0]) (t := [0]) (N := 1) (bor := []) fn23 rfl (hrc1116 (IntKind.wrap .i64 (shrI .u64 x2407 1)) (IntKind.wrap .i64 (x2408 - x2454)) x1114 x2503 x2524 h2522) ⟨rfl, ⟨trivial, .inr ⟨rfl, rfl, rfl⟩⟩, by decide, rfl, trivial⟩ rfl trivial (.ren rfl rfl (.ren rfl rfl (.ren rfl rfl (.ren rfl rfl (.ren rfl rfl .nil))))) rfl ⟨trivial, rfl⟩ rfl) rfl ?_
   refine WPL.nilW ?_
   have q0 := (Option.some.inj H)
   subst q0
   exact W.now (BodyR.mkN trivial rfl [0] ⟨rfl, rfl⟩ ⟨rfl, ⟨trivial, .inr ⟨rfl, rfl, rfl⟩⟩, by decide, rfl, ⟨trivial, rfl⟩⟩ rfl rfl)
 replace H := cnf hb2521 H
 refine WP.skipW ?_
 have q0 := (Option.some.inj H)
 subst q0
 exact W.now (BodyR.mkN trivial rfl [0] ⟨rfl, rfl⟩ ⟨rfl, ⟨trivial, .inr ⟨rfl, rfl, rfl⟩⟩, by decide, rfl, ⟨trivial, rfl⟩⟩ rfl rfl)
theorem s_slices_symMergeCmpFunc_huff_coin : ∀ (k : Nat) (x1112 : Int) (x1113 : Int) (x1114 : Int) (x1115 : (List S_huff_coin)) (x1667 : (List S_huff_coin)) (H : g_slices_symMergeCmpFunc_huff_coin k x1112 x1113 x1114 x1115 = some x1667), Go.Q.Spec Try.prog 23 1 [.whole 0, .lit (.int .i64 x1112), .lit (.int .i64 x1113), .lit (.int .i64 x1114), .fn 9 []] (Mem.nil.push (.row 34 rdS_huff_coin x1115)) (fun o M => o = .ret (.tup []) ∧ M = (Mem.nil.push (.row 34 rdS_huff_coin x1667)))
  | 0, _, _, _, _, _, H => nf rfl H
  | k + 1, x1112, x1113, x1114, x1115, x1667, H => sb_slices_symMergeCmpFunc_huff_coin (g_slices_symMergeCmpFunc_huff_coin k) (s_slices_symMergeCmpFunc_huff_coin k) k x1112 x1113 x1114 x1115 x1667 H
end Go.Proofs.Ytjahhkhpchiojaa.W
namespace Go.Proofs.Ytjahhkhpchiojaa.W
open Go Go.Q Go.Proofs
set_option linter.unusedVariables false
set_option linter.unusedSimpArgs false
set_option maxRecDepth 100000 in
set_option maxHeartbeats 4000000 in
theorem s_slices_stableCmpFunc_huff_coin (k : Nat) (x147 : Int) (x148 : (List S_huff_coin)) (x2583 : (List S_huff_coin)) (H : g_slices_stableCmpFunc_huff_coin k x147 x148 = some x2583) : Go.Q.Spec Try.prog 18 1 [.whole 0, .lit (.int .i64 x147), .fn 9 []] (Mem.nil.push (.row 34 rdS_huff_coin x148)) (fun o M => o = .ret (.tup []) ∧ M = (Mem.nil.push (.row 34 rdS_huff_coin x2583))) := by
 unfold g_slices_stableCmpFunc_huff_coin at H
 refine Go.Q.Spec.of_bodyR (az := []) (rs := []) (nt := 63) Try.func18 rfl rfl (by intro t T h; simp at h) rfl rfl fun cx hnp => ?_
 refine WP.seq ?_
 refine WP.region ?_
 refine WPL.q (q_as (v := .lit (.int _ _)) rfl) rfl ?_
 refine WPL.nilW ?_
 refine W.now ?_
 refine Then.n ?_
 refine WP.seq ?_
 refine WP.region ?_
 refine WPL.q (q_mv (v := .lit (.int _ _)) rfl) rfl ?_
 refine WPL.q (q_as (v := .lit (.int _ _)) rfl) rfl ?_
 refine WPL.q (q_as (v := .lit (.int _ _)) rfl) rfl ?_
 refine WPL.nilW ?_
 refine W.now ?_
 refine Then.n ?_
 refine WP.seq ?_
 refine WP.block ?_
 refine WP.cv (Cv.weak (E' := ((((((Env.none.upd 0 (.whole 0)).upd 1 (.lit (.int .i64 x147))).upd 2 (.fn 9 [])).upd 6 (.lit (.int .i64 20))).upd 7 (.lit (.int .i64 0))).upd 8 (.lit (.int .i64 20)))) (M' := (Mem.nil.push (.row 34 rdS_huff_coin x148))) [0] hnp ⟨rfl, ⟨trivial, .inr ⟨rfl, rfl, rfl⟩⟩, by decide, rfl, ⟨trivial, rfl⟩⟩ (LeE.upd rfl rfl (LeE.upd rfl rfl (LeE.upd rfl rfl (LeE.upd rfl rfl (LeE.upd rfl rfl (LeE.upd rfl rfl (LeE.none rfl rfl)))))))) ?_
 obtain ⟨⟨x2595, x2596⟩, H2600, H⟩ := bnd H
 refine WP.monoW (Q := fun x E M => x = .exit 0 ∧ E = (((((Env.none.upd 0 (.whole 0)).upd 1 (.lit (.int .i64 x147))).upd 2 (.fn 9 [])).upd 6 (.lit (.int .i64 20))).upd 7 (.lit (.int .i64 x2595))) ∧ M = (Mem.nil.push (.row 34 rdS_huff_coin x2596))) ?_ ?_
 · refine WP.loop (β := Int × Int × (List S_huff_coin)) (fun n b => g_slices_stableCmpFunc_huff_coin_l0 k x147 n b.1 b.2.1 b.2.2 = some (x2595, x2596)) (fun b => ((((((Env.none.upd 0 (.whole 0)).upd 1 (.lit (.int .i64 x147))).upd 2 (.fn 9 [])).upd 6 (.lit (.int .i64 20))).upd 7 (.lit (.int .i64 b.1))).upd 8 (.lit (.int .i64 b.2.1)))) (fun b => (Mem.nil.push (.row 34 rdS_huff_coin b.2.2))) k (0, 20, x148) H2600 rfl rfl ?_
   rintro n ⟨x2588, x2589, x2590⟩ H
   obtain _ | n := n
   · exact nf rfl H
   rw [g_slices_stableCmpFunc_huff_coin_l0.eq_2] at H
   show WP _ _ _ _ ((((((Env.none.upd 0 (.whole 0)).upd 1 (.lit (.int .i64 x147))).upd 2 (.fn 9 [])).upd 6 (.lit (.int .i64 20))).upd 7 (.lit (.int .i64 x2588))).upd 8 (.lit (.int .i64 x2589))) (Mem.nil.push (.row 34 rdS_huff_coin x2590)) _
   refine WP.seq ?_
   refine WP.seq ?_
   refine WP.region ?_
   refine WPL.q (q_mv (v := .lit (.int _ _)) rfl) rfl ?_
   refine WPL.q (q_mv (v := .lit (.int _ _)) rfl) rfl ?_
   refine WPL.q (q_leq rfl rfl) rfl ?_
   refine WPL.nilW ?_
   refine W.now ?_
   refine Then.n ?_
   refine WP.cond (t := (decide (x2589 ≤ x147))) rfl (fun hb2597 => ?_) (fun hb2597 => ?_)
   · replace H := cnt hb2597 H
     refine WP.skipW ?_
     refine W.now ?_
     refine Then.n ?_
     refine WP.block ?_
     refine WP.seq ?_
     refine WP.region ?_
     refine WPL.q (q_mv (v := .whole _) rfl) rfl ?_
     refine WPL.q (q_mv (v := .lit (.int _ _)) rfl) rfl ?_
     refine WPL.q (q_mv (v := .lit (.int _ _)) rfl) rfl ?_
     refine WPL.q (q_mv (v := .fn _ _) rfl) rfl ?_
     obtain ⟨x2600, h2598, H⟩ := bnd H
     refine WPL.c (runs_call (s := [0]) (t := [0]) (N := 1) (bor := []) fn22 rfl (s_slices_insertionSortCmpFunc_huff_coin k x2588 x2589 x2590 x2600 h2598) ⟨rfl, ⟨trivial, .inr ⟨rfl, rfl, rfl⟩⟩, by decide, rfl, trivial⟩ rfl trivial (.ren rfl rfl (.ren rfl rfl (.ren rfl rfl (.ren rfl rfl .nil)))) rfl ⟨trivial, rfl⟩ rfl) rfl ?_
     refine WPL.nilW ?_
     refine W.now ?_
     refine Then.n ?_
     refine WP.seq ?_
     refine WP.region ?_
     refine WPL.q (q_mv (v := .lit (.int _ _)) rfl) rfl ?_
     refine WPL.q (q_as (v := .lit (.int _ _)) rfl) rfl ?_
     refine WPL.nilW ?_
     refine W.now ?_
     refine Then.n ?_
     refine WP.region ?_
     refine WPL.q (q_mv (v := .lit (.int _ _)) rfl) rfl ?_
     refine WPL.q (q_mv (v := .lit (.int _ _)) rfl) rfl ?_
     refine WPL.q (q_add rfl rfl) rfl ?_
     refine WPL.q (q_as (v := .lit (.int _ _)) rfl) rfl ?_
     refine WPL.nilW ?_
     exact W.wk [0] hnp (InBlock.n (Then.n ⟨n, (x2589, (IntKind.wrap .i64 (x2589 + 20)), x2600), Nat.lt_succ_self n, H, rfl, rfl⟩)) ⟨rfl, ⟨trivial, .inr ⟨rfl, rfl, rfl⟩⟩, by decide, rfl, ⟨trivial, rfl⟩⟩ (LeE.upd rfl rfl (LeE.upd rfl rfl (LeE.upd rfl rfl (LeE.upd rfl rfl (LeE.upd rfl rfl (LeE.upd rfl rfl (LeE.none rfl rfl))))))) rfl
   replace H := cnf hb2597 H
   refine WP.exitW ?_
   have q0 := (Prod.mk.inj (Option.some.inj H)).1
   have q1 := (Prod.mk.inj (Option.some.inj H)).2
   subst q0
   subst q1
   exact W.wk [0] hnp (Then.x (Then.x ⟨rfl, rfl, rfl⟩)) ⟨rfl, ⟨trivial, .inr ⟨rfl, rfl, rfl⟩⟩, by decide, rfl, ⟨trivial, rfl⟩⟩ (LeE.upd rfl rfl (LeE.upd rfl rfl (LeE.upd rfl rfl (LeE.upd rfl rfl (LeE.upd rfl rfl (LeE.none rfl rfl)))))) rfl
 rintro _ _ _ ⟨rfl, rfl, rfl⟩
 refine W.now ?_
 refine InBlock.x0 ?_
 refine Then.n ?_
 refine WP.seq ?_
 refine WP.region ?_
 refine WPL.q (q_mv (v := .whole _) rfl) rfl ?_
 refine WPL.q (q_mv (v := .lit (.int _ _)) rfl) rfl ?_
 refine WPL.q (q_mv (v := .lit (.int _ _)) rfl) rfl ?_
 refine WPL.q (q_mv (v := .fn _ _) rfl) rfl ?_
 obtain ⟨x2603, h2601, H⟩ := bnd H
 refine WPL.c (runs_call (s := [0]) (t := [0]) (N := 1) (bor := []) fn22 rfl (s_slices_insertionSortCmpFunc_huff_coin k x2595 x147 x2596 x2603 h2601) ⟨rfl, ⟨trivial, .inr ⟨rfl, rfl, rfl⟩⟩, by decide, rfl, trivial⟩ rfl trivial (.ren rfl rfl (.ren rfl rfl (.ren rfl rfl (.ren rfl rfl .nil)))) rfl ⟨trivial, rfl⟩ rfl) rfl ?_
 refine WPL.nilW ?_
 refine W.now ?_
 refine Then.n ?_
 refine WP.block ?_
 refine WP.cv (Cv.weak (E' := ((((Env.none.upd 0 (.whole 0)).upd 1 (.lit (.int .i64 x147))).upd 2 (.fn 9 [])).upd 6 (.lit (.int .i64 20)))) (M' := (Mem.nil.push (.row 34 rdS_huff_coin x2603))) [0] hnp ⟨rfl, ⟨trivial, .inr ⟨rfl, rfl, rfl⟩⟩, by decide, rfl, ⟨trivial, rfl⟩⟩ (LeE.upd rfl rfl (LeE.upd rfl rfl (LeE.upd rfl rfl (LeE.upd rfl rfl (LeE.none rfl rfl)))))) ?_
 obtain ⟨x2666, H2701, H⟩ := bnd H
 refine WP.monoW (Q := fun x E M => x = .exit 2 ∧ E = Env.none ∧ M = (Mem.nil.push (.row 34 rdS_huff_coin x2666))) ?_ ?_
 · refine WP.loop (β := Int × (List S_huff_coin)) (fun n b => g_slices_stableCmpFunc_huff_coin_l1 k x147 n b.1 b.2 = some x2666) (fun b => ((((Env.none.upd 0 (.whole 0)).upd 1 (.lit (.int .i64 x147))).upd 2 (.fn 9 [])).upd 6 (.lit (.int .i64 b.1)))) (fun b => (Mem.nil.push (.row 34 rdS_huff_coin b.2))) k (20, x2603) H2701 rfl rfl ?_
   rintro n ⟨x2634, x2635⟩ H
   obtain _ | n := n
   · exact nf rfl H
   rw [g_slices_stableCmpFunc_huff_coin_l1.eq_2] at H
   show WP _ _ _ _ ((((Env.none.upd 0 (.whole 0)).upd 1 (.lit (.int .i64 x147))).upd 2 (.fn 9 [])).upd 6 (.lit (.int .i64 x2634))) (Mem.nil.push (.row 34 rdS_huff_coin x2635)) _
   refine WP.seq ?_
   refine WP.seq ?_
   refine WP.region ?_
   refine WPL.q (q_mv (v := .lit (.int _ _)) rfl) rfl ?_
   refine WPL.q (q_mv (v := .lit (.int _ _)) rfl) rfl ?_
   refine WPL.q (q_lss rfl rfl) rfl ?_
   refine WPL.nilW ?_
   refine W.now ?_
   refine Then.n ?_
   refine WP.cond (t := (decide (x2634 < x147))) rfl (fun hb2667 => ?_) (fun hb2667 => ?_)
   · replace H := cnt hb2667 H
     refine WP.skipW ?_
     refine W.now ?_
     refine Then.n ?_
     refine WP.block ?_
     refine WP.seq ?_
     refine WP.region ?_
     refine WPL.q (q_mv (v := .lit (.int _ _)) rfl) rfl ?_
     refine WPL.q (q_mul rfl rfl) rfl ?_
     refine WPL.q (q_as (v := .lit (.int _ _)) rfl) rfl ?_
     refine WPL.q (q_as (v := .lit (.int _ _)) rfl) rfl ?_
     refine WPL.nilW ?_
     refine W.now ?_
     refine Then.n ?_
     refine WP.seq ?_
     refine WP.block ?_
     refine WP.cv (Cv.weak (E' := ((((((Env.none.upd 0 (.whole 0)).upd 1 (.lit (.int .i64 x147))).upd 2 (.fn 9 [])).upd 6 (.lit (.int .i64 x2634))).upd 7 (.lit (.int .i64 0))).upd 8 (.lit (.int .i64 (IntKind.wrap .i64 (2 * x2634)))))) (M' := (Mem.nil.push (.row 34 rdS_huff_coin x2635))) [0] hnp ⟨rfl, ⟨trivial, .inr ⟨rfl, rfl, rfl⟩⟩, by decide, rfl, ⟨trivial, rfl⟩⟩ (LeE.upd rfl rfl (LeE.upd rfl rfl (LeE.upd rfl rfl (LeE.upd rfl rfl (LeE.upd rfl rfl (LeE.upd rfl rfl (LeE.none rfl rfl)))))))) ?_
     obtain ⟨⟨x2684, x2685⟩, H2690, H⟩ := bnd H
     refine WP.monoW (Q := fun x E M => x = .exit 4 ∧ E = (((((Env.none.upd 0 (.whole 0)).upd 1 (.lit (.int .i64 x147))).upd 2 (.fn 9 [])).upd 6 (.lit (.int .i64 x2634))).upd 7 (.lit (.int .i64 x2684))) ∧ M = (Mem.nil.push (.row 34 rdS_huff_coin x2685))) ?_ ?_
     · refine WP.loop (β := Int × Int × (List S_huff_coin)) (fun n b => g_slices_stableCmpFunc_huff_coin_l2 k x147 x2634 n b.1 b.2.1 b.2.2 = some (x2684, x2685)) (fun b => ((((((Env.none.upd 0 (.whole 0)).upd 1 (.lit (.int .i64 x147))).upd 2 (.fn 9 [])).upd 6 (.lit (.int .i64 x2634))).upd 7 (.lit (.int .i64 b.1))).upd 8 (.lit (.int .i64 b.2.1)))) (fun b => (Mem.nil.push (.row 34 rdS_huff_coin b.2.2))) k (0, (IntKind.wrap .i64 (2 * x2634)), x2635) H2690 rfl rfl ?_
       rintro n ⟨x2676, x2677, x2678⟩ H
       obtain _ | n := n
       · exact nf rfl H
       rw [g_slices_stableCmpFunc_huff_coin_l2.eq_2] at H
       show WP _ _ _ _ ((((((Env.none.upd 0 (.whole 0)).upd 1 (.lit (.int .i64 x147))).upd 2 (.fn 9 [])).upd 6 (.lit (.int .i64 x2634))).upd 7 (.lit (.int .i64 x2676))).upd 8 (.lit (.int .i64 x2677))) (Mem.nil.push (.row 34 rdS_huff_coin x2678)) _
       refine WP.seq ?_
       refine WP.seq ?_
       refine WP.region ?_
       refine WPL.q (q_mv (v := .lit (.int _ _)) rfl) rfl ?_
       refine WPL.q (q_mv (v := .lit (.int _ _)) rfl) rfl ?_
       refine WPL.q (q_leq rfl rfl) rfl ?_
       refine WPL.nilW ?_
       refine W.now ?_
       refine Then.n ?_
       refine WP.cond (t := (decide (x2677 ≤ x147))) rfl (fun hb2686 => ?_) (fun hb2686 => ?_)
       · replace H := cnt hb2686 H
         refine WP.skipW ?_
         refine W.now ?_
         refine Then.n ?_
         refine WP.block ?_
         refine WP.seq ?_
         refine WP.region ?_
         refine WPL.q (q_mv (v := .whole _) rfl) rfl ?_
         refine WPL.q (q_mv (v := .lit (.int _ _)) rfl) rfl ?_
         refine WPL.q (q_mv (v := .lit (.int _ _)) rfl) rfl ?_
         refine WPL.q (q_mv (v := .lit (.int _ _)) rfl) rfl ?_
         refine WPL.q (q_add rfl rfl) rfl ?_
         refine WPL.q (q_mv (v := .lit (.int _ _)) rfl) rfl ?_
         refine WPL.q (q_mv (v := .fn _ _) rfl) rfl ?_
         obtain ⟨x2689, h2687, H⟩ := bnd H
         refine WPL.c (runs_call (s := [0]) (t := [0]) (N := 1) (bor := []) fn23 rfl (s_slices_symMergeCmpFunc_huff_coin k x2676 (IntKind.wrap .i64 (x2676 + x2634)) x2677 x2678 x2689 h2687) ⟨rfl, ⟨trivial, .inr ⟨rfl, rfl, rfl⟩⟩, by decide, rfl, trivial⟩ rfl trivial (.ren rfl rfl (.ren rfl rfl (.ren rfl rfl (.ren rfl rfl (.ren rfl rfl .nil))))) rfl ⟨trivial, rfl⟩ rfl) rfl ?_
         refine WPL.nilW ?_
         refine W.now ?_
         refine Then.n ?_
         refine WP.seq ?_
         refine WP.region ?_
         refine WPL.q (q_mv (v := .lit (.int _ _)) rfl) rfl ?_
         refine WPL.q (q_as (v := .lit (.int _ _)) rfl) rfl ?_
         refine WPL.nilW ?_
         refine W.now ?_
         refine Then.n ?_
         refine WP.region ?_
         refine WPL.q (q_mv (v := .lit (.int _ _)) rfl) rfl ?_
         refine WPL.q (q_mv (v := .lit (.int _ _)) rfl) rfl ?_
         refine WPL.q (q_mul rfl rfl) rfl ?_
         obtain ⟨x2690, h2690, H⟩ := bnd H
         refine WPL.q (q_nm (q_add rfl rfl) (nm_int h2690)) rfl ?_
         refine WPL.q (q_as (v := .lit (.int _ _)) rfl) rfl ?_
         refine WPL.nilW ?_
         exact W.wk [0] hnp (InBlock.n (Then.n ⟨n, (x2677, x2690, x2689), Nat.lt_succ_self n, H, rfl, rfl⟩)) ⟨rfl, ⟨trivial, .inr ⟨rfl, rfl, rfl⟩⟩, by decide, rfl, ⟨trivial, rfl⟩⟩ (LeE.upd rfl rfl (LeE.upd rfl rfl (LeE.upd rfl rfl (LeE.upd rfl rfl (LeE.upd rfl rfl (LeE.upd rfl rfl (LeE.none rfl rfl))))))) rfl
       replace H := cnf hb2686 H
       refine WP.exitW ?_
       have q0 := (Prod.mk.inj (Option.some.inj H)).1
       have q1 := (Prod.mk.inj (Option.some.inj H)).2
       subst q0
       subst q1
       exact W.wk [0] hnp (Then.x (Then.x ⟨rfl, rfl, rfl⟩)) ⟨rfl, ⟨trivial, .inr ⟨rfl, rfl, rfl⟩⟩, by decide, rfl, ⟨trivial, rfl⟩⟩ (LeE.upd rfl rfl (LeE.upd rfl rfl (LeE.upd rfl rfl (LeE.upd rfl rfl (LeE.upd rfl rfl (LeE.none rfl rfl)))))) rfl
     rintro _ _ _ ⟨rfl, rfl, rfl⟩
     refine W.now ?_
     refine InBlock.x0 ?_
     refine Then.n ?_
     refine WP.seq ?_
     obtain ⟨x2696, H2700, H⟩ := bnd H
     refine WP.monoW (Q := fun x E M => x = .normal ∧ E = ((((Env.none.upd 0 (.whole 0)).upd 1 (.lit (.int .i64 x147))).upd 2 (.fn 9 [])).upd 6 (.lit (.int .i64 x2634))) ∧ M = (Mem.nil.push (.row 34 rdS_huff_coin x2696))) ?_ ?_
     · clear H
       have H := H2700
       clear H2700
       refine WP.seq ?_
       refine WP.region ?_
       refine WPL.q (q_mv (v := .lit (.int _ _)) rfl) rfl ?_
       refine WPL.q (q_mv (v := .lit (.int _ _)) rfl) rfl ?_
       refine WPL.q (q_add rfl rfl) rfl ?_
       refine WPL.q (q_as (v := .lit (.int _ _)) rfl) rfl ?_
       refine WPL.nilW ?_
       refine W.now ?_
       refine Then.n ?_
       refine WP.seq ?_
       refine WP.region ?_
       refine WPL.q (q_mv (v := .lit (.int _ _)) rfl) rfl ?_
       refine WPL.q (q_mv (v := .lit (.int _ _)) rfl) rfl ?_
       obtain ⟨x2697, h2697, H⟩ := bnd H
       refine WPL.q (q_nm (q_lss rfl rfl) (nm_bool h2697)) rfl ?_
       refine WPL.nilW ?_
       refine W.now ?_
       refine Then.n ?_
       refine WP.cond (t := x2697) rfl (fun hb2697 => ?_) (fun hb2697 => ?_)
       · replace H := cnt hb2697 H
         refine WP.region ?_
         refine WPL.q (q_mv (v := .whole _) rfl) rfl ?_
         refine WPL.q (q_mv (v := .lit (.int _ _)) rfl) rfl ?_
         refine WPL.q (q_mv (v := .lit (.int _ _)) rfl) rfl ?_
         refine WPL.q (q_mv (v := .lit (.int _ _)) rfl) rfl ?_
         refine WPL.q (q_mv (v := .fn _ _) rfl) rfl ?_
         obtain ⟨x2700, h2698, H⟩ := bnd H
         refine WPL.c (runs_call (s := [0]) (t := [0]) (N := 1) (bor := []) fn23 rfl (s_slices_symMergeCmpFunc_huff_coin k x2684 (IntKind.wrap .i64 (x2684 + x2634)) x147 x2685 x2700 h2698) ⟨rfl, ⟨trivial, .inr ⟨rfl, rfl, rfl⟩⟩, by decide, rfl, trivial⟩ rfl trivial (.ren rfl rfl (.ren rfl rfl (.ren rfl rfl (.ren rfl rfl (.ren rfl rfl .nil))))) rfl ⟨trivial, rfl⟩ rfl) rfl ?_
         refine WPL.nilW ?_
         have q0 := (Option.some.inj H)
         subst q0
         exact W.wk [0] hnp ⟨rfl, rfl, rfl⟩ ⟨rfl, ⟨trivial, .inr ⟨rfl, rfl, rfl⟩⟩, by decide, rfl, ⟨trivial, rfl⟩⟩ (LeE.upd rfl rfl (LeE.upd rfl rfl (LeE.upd rfl rfl (LeE.upd rfl rfl (LeE.none rfl rfl))))) rfl
       replace H := cnf hb2697 H
       refine WP.skipW ?_
       have q0 := (Option.some.inj H)
       subst q0
       exact W.wk [0] hnp ⟨rfl, rfl, rfl⟩ ⟨rfl, ⟨trivial, .inr ⟨rfl, rfl, rfl⟩⟩, by decide, rfl, ⟨trivial, rfl⟩⟩ (LeE.upd rfl rfl (LeE.upd rfl rfl (LeE.upd rfl rfl (LeE.upd rfl rfl (LeE.none rfl rfl))))) rfl
     rintro _ _ _ ⟨rfl, rfl, rfl⟩
     refine W.now ?_
     refine Then.n ?_
     refine WP.region ?_
     refine WPL.q (q_mv (v := .lit (.int _ _)) rfl) rfl ?_
     refine WPL.q (q_mul rfl rfl) rfl ?_
     refine WPL.q (q_as (v := .lit (.int _ _)) rfl) rfl ?_
     refine WPL.nilW ?_
     exact W.wk [0] hnp (InBlock.n (Then.n ⟨n, ((IntKind.wrap .i64 (x2634 * 2)), x2696), Nat.lt_succ_self n, H, rfl, rfl⟩)) ⟨rfl, ⟨trivial, .inr ⟨rfl, rfl, rfl⟩⟩, by decide, rfl, ⟨trivial, rfl⟩⟩ (LeE.upd rfl rfl (LeE.upd rfl rfl (LeE.upd rfl rfl (LeE.upd rfl rfl (LeE.none rfl rfl))))) rfl
   replace H := cnf hb2667 H
   refine WP.exitW ?_
   have q0 := (Option.some.inj H)
   subst q0
   exact W.wk [0] hnp (Then.x (Then.x ⟨rfl, rfl, rfl⟩)) ⟨rfl, ⟨trivial, .inr ⟨rfl, rfl, rfl⟩⟩, by decide, rfl, ⟨trivial, rfl⟩⟩ (LeE.none rfl rfl) rfl
 rintro _ _ _ ⟨rfl, rfl, rfl⟩
 have q0 := (Option.some.inj H)
 subst q0
 exact W.now (InBlock.x0 (BodyR.mkN trivial rfl [0] ⟨rfl, rfl⟩ ⟨rfl, ⟨trivial, .inr ⟨rfl, rfl, rfl⟩⟩, by decide, rfl, ⟨trivial, rfl⟩⟩ rfl rfl))
set_option maxRecDepth 100000 in
set_option maxHeartbeats 4000000 in
theorem s_slices_SortStableFunc_huff_coin_huff_coin (k : Nat) (x145 : (List S_huff_coin)) (x2705 : (List S_huff_coin)) (H : g_slices_SortStableFunc_huff_coin_huff_coin k x145 = some x2705) : Go.Q.Spec Try.prog 11 1 [.whole 0, .fn 9 []] (Mem.nil.push (.row 34 rdS_huff_coin x145)) (fun o M => o = .ret (.tup []) ∧ M = (Mem.nil.push (.row 34 rdS_huff_coin x2705))) := by
 unfold g_slices_SortStableFunc_huff_coin_huff_coin at H
 refine Go.Q.Spec.of_bodyR (az := []) (rs := []) (nt := 9) Try.func11 rfl rfl (by intro t T h; simp at h) rfl rfl fun cx hnp => ?_
 refine WP.region ?_
 refine WPL.q (q_mv (v := .whole _) rfl) rfl ?_
 refine WPL.q (q_mv (v := .whole _) rfl) rfl ?_
 refine WPL.q (q_len_row sl32 rfl rfl) rfl ?_
 refine WPL.q (q_mv (v := .fn _ _) rfl) rfl ?_
 obtain ⟨x2707, h2705, H⟩ := bnd H
 refine WPL.c (runs_call (s := [0]) (t := [0]) (N := 1) (bor := []) fn18 rfl (s_slices_stableCmpFunc_huff_coin k ((List.length x145 : Nat) : Int) x145 x2707 h2705) ⟨rfl, ⟨trivial, .inr ⟨rfl, rfl, rfl⟩⟩, by decide, rfl, trivial⟩ rfl trivial (.ren rfl rfl (.ren rfl rfl (.ren rfl rfl .nil))) rfl ⟨trivial, rfl⟩ rfl) rfl ?_
 refine WPL.nilW ?_
 have q0 := (Option.some.inj H)
 subst q0
 exact W.now (BodyR.mkN trivial rfl [0] ⟨rfl, rfl⟩ ⟨rfl, ⟨trivial, .inr ⟨rfl, rfl, rfl⟩⟩, by decide, rfl, ⟨trivial, rfl⟩⟩ rfl rfl)
set_option maxRecDepth 100000 in
set_option maxHeartbeats 4000000 in
theorem s_slices_Clone_huff_coin_huff_coin (k : Nat) (x2712 : List S_huff_coin) (x2713 : List S_huff_coin) (H : g_slices_Clone_huff_coin_huff_coin k x2712 = some x2713) : Go.Q.Spec Try.prog 12 1 [.whole 0] (Mem.nil.push (.row 34 rdS_huff_coin x2712)) (fun o M => o = .ret (.whole 1) ∧ M = ((Mem.nil.push (.row 34 rdS_huff_coin x2712)).push (.row 34 rdS_huff_coin x2713))) := by
  unfold g_slices_Clone_huff_coin_huff_coin at H
  obtain ⟨h, H⟩ := grd H
  have q0 := Option.some.inj H
  subst q0
  refine Go.Q.Spec.of_bodyR (az := []) (rs := [.tmp 2]) (nt := 8) Try.func12 rfl rfl (by intro t T h; simp at h) rfl rfl fun cx hnp => ?_
  refine WP.seq ?_
  refine WP.region ?_
  refine WPL.q (q_as (v := .lit _) rfl) rfl ?_
  refine WPL.nilW ?_
  refine W.now ?_
  refine Then.n ?_
  refine WP.seq ?_
  refine WP.seq ?_
  refine WP.region ?_
  refine WPL.q (q_mv (v := .whole _) rfl) rfl ?_
  refine WPL.eqlNilW Try.underlying32 rfl rfl rfl fun nb hnb => ?_
  refine WPL.nilW ?_
  refine W.now ?_
  refine Then.n ?_
  refine WP.cond (t := nb) rfl (fun hb => ?_) (fun hb => ?_)
  · have h0 := hnb hb
    subst h0
    refine WP.seq ?_
    refine WP.region ?_
    refine WPL.q (q_as (v := .lit _) rfl) rfl ?_
    refine WPL.nilW ?_
    refine W.now ?_
    refine Then.n ?_
    refine WP.retW ?_
    refine W.cv (Cv.vir 34 rdS_huff_coin (N := 1) rfl 2 rfl) rfl ?_
    refine W.now ?_
    refine Then.r ?_
    exact ⟨trivial, _, rfl, [0, 1], (.whole 1), ((Mem.nil.push (.row 34 rdS_huff_coin ([] : List S_huff_coin))).push (.row 34 rdS_huff_coin ([] : List S_huff_coin))), ⟨rfl, ⟨⟨trivial, .inr ⟨rfl, rfl, rfl⟩⟩, .inr ⟨rfl, rfl, rfl⟩⟩, by decide, rfl, ⟨trivial, rfl⟩⟩, rfl, rfl, rfl, rfl⟩
  · refine WP.skipW ?_
    refine W.now ?_
    refine Then.n ?_
    refine WP.seq ?_
    refine WP.region ?_
    refine WPL.d (d_buildSlice (ds := ([] : List S_huff_coin)) (R := rdS_huff_coin) li32 rfl rfl rfl rfl rfl JoinRows.nil rfl rfl) rfl ?_
    refine WPL.q (q_mv (v := .whole _) rfl) rfl ?_
    refine WPL.d (d_append ap32 rfl rfl rfl rfl (src_row sl32 rfl rfl) h rfl) rfl ?_
    refine WPL.q (q_as (v := .whole _) rfl) rfl ?_
    refine WPL.nilW ?_
    refine W.now ?_
    refine Then.n ?_
    refine WP.retW ?_
    refine W.now ?_
    exact ⟨trivial, _, rfl, [0, 2], (.whole 1), ((Mem.nil.push (.row 34 rdS_huff_coin x2712)).push (.row 34 rdS_huff_coin x2712)), ⟨rfl, ⟨⟨trivial, .inr ⟨rfl, rfl, rfl⟩⟩, .inr ⟨rfl, rfl, rfl⟩⟩, by decide, rfl, ⟨trivial, rfl⟩⟩, rfl, rfl, rfl, rfl⟩
set_option maxRecDepth 100000 in
set_option maxHeartbeats 4000000 in
theorem s_slices_Grow_int_int (k : Nat) (x2765 : Int) (r : (Unit ⊕ (List Int))) (H : g_slices_Grow_int_int k x2765 = some r) : Go.Q.Spec Try.prog 19 0 [.lit (.slice none 0 0), .lit (.int .i64 x2765)] Mem.nil (fun o M => match (generalizing := false) r with | (Sum.inl _) => o = .pan (.ifc 9 (.lit (.string (ByteArray.mk #[99, 97, 110, 110, 111, 116, 32, 98, 101, 32, 110, 101, 103, 97, 116, 105, 118, 101])))) ∧ M = Mem.nil | (Sum.inr x2779) => o = .ret (.whole 0) ∧ M = (Mem.nil.push (.row 3 (Rd.int .i64) x2779))) := by
 unfold g_slices_Grow_int_int at H
 refine Go.Q.Spec.of_bodyR (az := []) (rs := [.tmp 4]) (nt := 27) Try.func19 rfl rfl (by intro t T h; simp at h) rfl rfl fun cx hnp => ?_
 refine WP.seq ?_
 refine WP.region ?_
 refine WPL.q (q_as (v := .lit _) rfl) rfl ?_
 refine WPL.nilW ?_
 refine W.now ?_
 refine Then.n ?_
 refine WP.seq ?_
 refine WP.seq ?_
 refine WP.region ?_
 refine WPL.q (q_mv (v := .lit (.int _ _)) rfl) rfl ?_
 refine WPL.q (q_lss rfl rfl) rfl ?_
 refine WPL.nilW ?_
 refine W.now ?_
 refine Then.n ?_
 refine WP.cond (t := (decide (x2765 < 0))) rfl (fun hb2780 => ?_) (fun hb2780 => ?_)
 · replace H := cnt hb2780 H
   refine WP.region ?_
   refine WPL.q (q_mki cn9) rfl ?_
   refine WPL.pW (runs_panic rfl) ?_
   have q0 := Option.some.inj H
   subst q0
   exact W.now (Then.p (BodyR.mkP trivial [] ⟨rfl, rfl⟩ ⟨rfl, trivial, by decide, rfl, trivial⟩ rfl rfl))
 replace H := cnf hb2780 H
 refine WP.skipW ?_
 refine W.now ?_
 refine Then.n ?_
 refine WP.seq ?_
 obtain ⟨x2786, H2790, H⟩ := bnd H
 refine WP.monoW (Q := fun x E M => x = .normal ∧ E = (Env.none.upd 0 (.whole 0)) ∧ M = (Mem.nil.push (.row 3 (Rd.int .i64) x2786))) ?_ ?_
 · clear H
   have H := H2790
   clear H2790
   refine WP.seq ?_
   refine WP.region ?_
   refine WPL.q (q_mv (v := .lit (.int _ _)) rfl) rfl ?_
   refine WPL.q (q_mv (v := .lit _) rfl) rfl ?_
   refine WPL.q (q_cap_nil Try.underlying22 rfl) rfl ?_
   refine WPL.q (q_mv (v := .lit _) rfl) rfl ?_
   refine WPL.q (q_len_nil sl22 rfl) rfl ?_
   refine WPL.q (q_sub rfl rfl) rfl ?_
   obtain ⟨x2787, h2787, H⟩ := bnd H
   refine WPL.q (q_nm (q_sub rfl rfl) (nm_int h2787)) rfl ?_
   refine WPL.q (q_as (v := .lit (.int _ _)) rfl) rfl ?_
   refine WPL.nilW ?_
   refine W.now ?_
   refine Then.n ?_
   refine WP.seq ?_
   refine WP.region ?_
   refine WPL.q (q_mv (v := .lit (.int _ _)) rfl) rfl ?_
   refine WPL.q (q_gtr rfl rfl) rfl ?_
   refine WPL.nilW ?_
   refine W.now ?_
   refine Then.n ?_
   refine WP.cond (t := (decide (0 < x2787))) rfl (fun hb2787 => ?_) (fun hb2787 => ?_)
   · replace H := cnt hb2787 H
     refine WP.region ?_
     refine WPL.q (q_mv (v := .lit _) rfl) rfl ?_
     refine WPL.q (q_mv (v := .lit _) rfl) rfl ?_
     refine WPL.q (q_cap_nil Try.underlying22 rfl) rfl ?_
     refine WPL.q (q_slice_nil sl22 rfl rfl) rfl ?_
     refine WPL.q (q_mv (v := .lit (.int _ _)) rfl) rfl ?_
     obtain ⟨h2788, H⟩ := grd H
     refine WPL.d (d_appendMakeNil (d := (0 : Int)) (R := (Rd.int .i64)) li22 by3 Try.underlying3 rfl rfl rfl rfl Joins.sc rfl rfl h2788 rfl) rfl ?_
     refine WPL.q (q_mv (v := .lit _) rfl) rfl ?_
     refine WPL.q (q_len_nil sl22 rfl) rfl ?_
     obtain ⟨h2789, H⟩ := grd H
     refine WPL.d (d_cut sl22 rfl rfl rfl h2789 rfl) rfl ?_
     refine WPL.q (q_as (v := .whole _) rfl) rfl ?_
     refine WPL.nilW ?_
     have q0 := (Option.some.inj H)
     subst q0
     exact W.wk [1] hnp ⟨rfl, rfl, rfl⟩ ⟨rfl, ⟨trivial, .inr ⟨rfl, rfl, rfl⟩⟩, by decide, rfl, trivial⟩ (LeE.upd rfl rfl (LeE.none rfl rfl)) rfl
   replace H := cnf hb2787 H
   refine WP.skipW ?_
   refine W.cv (Cv.vir 3 (Rd.int .i64) (N := 0) rfl 0 rfl) rfl ?_
   have q0 := (Option.some.inj H)
   subst q0
   exact W.wk [0] hnp ⟨rfl, rfl, rfl⟩ ⟨rfl, ⟨trivial, .inr ⟨rfl, rfl, rfl⟩⟩, by decide, rfl, trivial⟩ (LeE.upd rfl rfl (LeE.none rfl rfl)) rfl
 rintro _ _ _ ⟨rfl, rfl, rfl⟩
 refine W.now ?_
 refine Then.n ?_
 refine WP.seq ?_
 refine WP.region ?_
 refine WPL.q (q_mv (v := .whole _) rfl) rfl ?_
 refine WPL.q (q_as (v := .whole _) rfl) rfl ?_
 refine WPL.nilW ?_
 refine W.now ?_
 refine Then.n ?_
 refine WP.retW ?_
 have q0 := Option.some.inj H
 subst q0
 exact W.now (BodyR.mkR trivial rfl [0] ⟨rfl, rfl⟩ ⟨rfl, ⟨trivial, .inr ⟨rfl, rfl, rfl⟩⟩, by decide, rfl, trivial⟩ rfl rfl)
set_option maxRecDepth 100000 in
set_option maxHeartbeats 4000000 in
theorem s_slices_Concat_int_int (k : Nat) (x2740 : (List (List Int))) (r : (ByteArray ⊕ (List Int))) (H : g_slices_Concat_int_int k x2740 = some r) : Go.Q.Spec Try.prog 13 1 [.whole 0] (Mem.nil.push (.row 22 (Rd.slice (Rd.int .i64)) x2740)) (fun o M => match (generalizing := false) r with | (Sum.inl x2809) => o = .pan (.ifc 9 (.lit (.string x2809))) ∧ M = (Mem.nil.push (.gone)) | (Sum.inr x2810) => o = .ret (.ro (Rd.slice (Rd.int .i64)) false x2810) ∧ M = (Mem.nil.push (.row 22 (Rd.slice (Rd.int .i64)) x2740))) := by
 unfold g_slices_Concat_int_int at H
 refine Go.Q.Spec.of_bodyR (az := []) (rs := [.tmp 2]) (nt := 36) Try.func13 rfl rfl (by intro t T h; simp at h) rfl rfl fun cx hnp => ?_
 refine WP.seq ?_
 refine WP.region ?_
 refine WPL.q (q_as (v := .lit _) rfl) rfl ?_
 refine WPL.nilW ?_
 refine W.now ?_
 refine Then.n ?_
 refine WP.seq ?_
 refine WP.region ?_
 refine WPL.q (q_as (v := .lit (.int _ _)) rfl) rfl ?_
 refine WPL.nilW ?_
 refine W.now ?_
 refine Then.n ?_
 refine WP.seq ?_
 refine WP.seq ?_
 refine WP.region ?_
 refine WPL.q (q_mv (v := .whole _) rfl) rfl ?_
 refine WPL.q (q_len_row sl52 rfl rfl) rfl ?_
 refine WPL.q (q_mv (v := .lit (.int _ _)) rfl) rfl ?_
 refine WPL.nilW ?_
 refine W.now ?_
 refine Then.n ?_
 refine WP.block ?_
 refine WP.cv (Cv.weak (E' := (((((Env.none.upd 0 (.whole 0)).upd 3 (.lit (.int .i64 0))).upd 9 (.whole 0)).upd 10 (.lit (.int .i64 ((List.length x2740 : Nat) : Int)))).upd 11 (.lit (.int .i64 0)))) (M' := (Mem.nil.push (.row 22 (Rd.slice (Rd.int .i64)) x2740))) [0] hnp ⟨rfl, ⟨trivial, .inr ⟨rfl, rfl, rfl⟩⟩, by decide, rfl, ⟨trivial, rfl⟩⟩ (LeE.upd rfl rfl (LeE.upd rfl rfl (LeE.upd rfl rfl (LeE.upd rfl rfl (LeE.upd rfl rfl (LeE.none rfl rfl))))))) ?_
 obtain ⟨y2842, H2840, H⟩ := bnd H
 refine WP.monoW (Q := fun x E M => match (generalizing := false) y2842 with | (Sum.inl _) => x = .panic (.ifc 9 (.lit (.string (ByteArray.mk #[108, 101, 110, 32, 111, 117, 116, 32, 111, 102, 32, 114, 97, 110, 103, 101])))) ∧ E = Env.none ∧ M = (Mem.nil.push (.row 22 (Rd.slice (Rd.int .i64)) x2740)) | (Sum.inr x2831) => x = .exit 0 ∧ E = ((Env.none.upd 0 (.whole 0)).upd 3 (.lit (.int .i64 x2831))) ∧ M = (Mem.nil.push (.row 22 (Rd.slice (Rd.int .i64)) x2740))) ?_ ?_
 · refine WP.loop (β := Int × Int) (fun n b => g_slices_Concat_int_int_l0 k x2740 n b.1 b.2 = some y2842) (fun b => (((((Env.none.upd 0 (.whole 0)).upd 3 (.lit (.int .i64 b.1))).upd 9 (.whole 0)).upd 10 (.lit (.int .i64 ((List.length x2740 : Nat) : Int)))).upd 11 (.lit (.int .i64 b.2)))) (fun b => (Mem.nil.push (.row 22 (Rd.slice (Rd.int .i64)) x2740))) k (0, 0) H2840 rfl rfl ?_
   rintro n ⟨x2820, x2821⟩ H
   obtain _ | n := n
   · exact nf rfl H
   rw [g_slices_Concat_int_int_l0.eq_2] at H
   show WP _ _ _ _ (((((Env.none.upd 0 (.whole 0)).upd 3 (.lit (.int .i64 x2820))).upd 9 (.whole 0)).upd 10 (.lit (.int .i64 ((List.length x2740 : Nat) : Int)))).upd 11 (.lit (.int .i64 x2821))) (Mem.nil.push (.row 22 (Rd.slice (Rd.int .i64)) x2740)) _
   refine WP.seq ?_
   refine WP.region ?_
   obtain ⟨x2832, h2832, H⟩ := bnd H
   refine WPL.q (q_nm (q_lss rfl rfl) (nm_bool h2832)) rfl ?_
   refine WPL.nilW ?_
   refine W.now ?_
   refine Then.n ?_
   refine WP.seq ?_
   refine WP.cond (t := x2832) rfl (fun hb2833 => ?_) (fun hb2833 => ?_)
   · replace H := cnt hb2833 H
     refine WP.skipW ?_
     refine W.now ?_
     refine Then.n ?_
     refine WP.seq ?_
     refine WP.block ?_
     refine WP.seq ?_
     refine WP.region ?_
     obtain ⟨x2838, h2838, H⟩ := bnd H
     refine WPL.q (q_index_row sl52 rfl rfl rfl (ixs h2838)) rfl ?_
     refine WPL.q (q_load_rowr (j := (Int.toNat x2821)) (n := 1) (off := 0) (d := x2838) sc22 rfl rfl (ixj h2838) rfl PartIs.self rfl) rfl ?_
     refine WPL.q (q_as (v := .ro _ _ _) rfl) rfl ?_
     refine WPL.nilW ?_
     refine W.now ?_
     refine Then.n ?_
     refine WP.seq ?_
     refine WP.region ?_
     refine WPL.q (q_mv (v := .lit (.int _ _)) rfl) rfl ?_
     refine WPL.q (q_mv (v := .ro _ _ _) rfl) rfl ?_
     refine WPL.q (q_len_ro sl22 rfl) rfl ?_
     obtain ⟨x2839, h2839, H⟩ := bnd H
     refine WPL.q (q_nm (q_add rfl rfl) (nm_int h2839)) rfl ?_
     refine WPL.q (q_as (v := .lit (.int _ _)) rfl) rfl ?_
     refine WPL.nilW ?_
     refine W.now ?_
     refine Then.n ?_
     refine WP.seq ?_
     refine WP.region ?_
     refine WPL.q (q_mv (v := .lit (.int _ _)) rfl) rfl ?_
     refine WPL.q (q_lss rfl rfl) rfl ?_
     refine WPL.nilW ?_
     refine W.now ?_
     refine Then.n ?_
     refine WP.cond (t := (decide (x2839 < 0))) rfl (fun hb2839 => ?_) (fun hb2839 => ?_)
     · replace H := cnt hb2839 H
       refine WP.region ?_
       refine WPL.q (q_mki cn9) rfl ?_
       refine WPL.pW (runs_panic rfl) ?_
       have q0 := Option.some.inj H
       subst q0
       exact W.wkP [0] hnp (InBlock.p (Then.p (Then.p ⟨rfl, rfl, rfl⟩))) ⟨rfl, ⟨trivial, .inr ⟨rfl, rfl, rfl⟩⟩, by decide, rfl, ⟨trivial, rfl⟩⟩ (LeE.none rfl rfl) rfl rfl
     replace H := cnf hb2839 H
     refine WP.skipW ?_
     refine W.now ?_
     refine InBlock.n ?_
     refine Then.n ?_
     refine WP.region ?_
     refine WPL.q (q_add rfl rfl) rfl ?_
     refine WPL.q (q_mv (v := .lit (.int _ _)) rfl) rfl ?_
     refine WPL.nilW ?_
     exact W.wk [0] hnp (Then.n ⟨n, (x2839, (IntKind.wrap .i64 (x2821 + 1))), Nat.lt_succ_self n, H, rfl, rfl⟩) ⟨rfl, ⟨trivial, .inr ⟨rfl, rfl, rfl⟩⟩, by decide, rfl, ⟨trivial, rfl⟩⟩ (LeE.upd rfl rfl (LeE.upd rfl rfl (LeE.upd rfl rfl (LeE.upd rfl rfl (LeE.upd rfl rfl (LeE.none rfl rfl)))))) rfl
   replace H := cnf hb2833 H
   refine WP.exitW ?_
   have q0 := Option.some.inj H
   subst q0
   exact W.wk [0] hnp (Then.x (Then.x ⟨rfl, rfl, rfl⟩)) ⟨rfl, ⟨trivial, .inr ⟨rfl, rfl, rfl⟩⟩, by decide, rfl, ⟨trivial, rfl⟩⟩ (LeE.upd rfl rfl (LeE.upd rfl rfl (LeE.none rfl rfl))) rfl
 rcases y2842 with _ | x2831
 · rintro _ _ _ ⟨rfl, rfl, rfl⟩
   have q0 := Option.some.inj H
   subst q0
   exact W.now (InBlock.p (Then.p (BodyR.mkP trivial [0] ⟨rfl, rfl⟩ ⟨rfl, ⟨trivial, .inl rfl⟩, by decide, rfl, ⟨trivial, rfl⟩⟩ rfl rfl)))
 rintro _ _ _ ⟨rfl, rfl, rfl⟩
 refine W.now ?_
 refine InBlock.x0 ?_
 refine Then.n ?_
 refine WP.seq ?_
 refine WP.region ?_
 refine WPL.q (q_mv (v := .lit (.int _ _)) rfl) rfl ?_
 obtain ⟨y2845, h2842, H⟩ := bnd H
 rcases y2845 with _ | x2844
 · refine WPL.pW (runs_callP (s := []) (t := []) (N := 1) (bor := []) fn19 rfl (s_slices_Grow_int_int k x2831 (Sum.inl ()) h2842) ⟨rfl, trivial, by decide, rfl, trivial⟩ rfl trivial (.ren rfl rfl (.ren rfl rfl .nil)) rfl trivial rfl) ?_
   have q0 := Option.some.inj H
   subst q0
   exact W.now (Then.p (BodyR.mkP trivial [0] ⟨rfl, rfl⟩ ⟨rfl, ⟨trivial, .inl rfl⟩, by decide, rfl, ⟨trivial, rfl⟩⟩ rfl rfl))
 refine WPL.c (runs_call (s := []) (t := [1]) (N := 2) (bor := []) fn19 rfl (s_slices_Grow_int_int k x2831 (Sum.inr x2844) h2842) ⟨rfl, trivial, by decide, rfl, trivial⟩ rfl trivial (.ren rfl rfl (.ren rfl rfl .nil)) rfl ⟨trivial, rfl⟩ rfl) rfl ?_
 refine WPL.q (q_as (v := .whole _) rfl) rfl ?_
 refine WPL.nilW ?_
 refine W.now ?_
 refine Then.n ?_
 refine WP.seq ?_
 refine WP.seq ?_
 refine WP.region ?_
 refine WPL.q (q_mv (v := .whole _) rfl) rfl ?_
 refine WPL.q (q_len_row sl52 rfl rfl) rfl ?_
 refine WPL.q (q_mv (v := .lit (.int _ _)) rfl) rfl ?_
 refine WPL.nilW ?_
 refine W.now ?_
 refine Then.n ?_
 refine WP.block ?_
 refine WP.cv (Cv.weak (E' := ((((Env.none.upd 6 (.whole 1)).upd 25 (.whole 0)).upd 26 (.lit (.int .i64 ((List.length x2740 : Nat) : Int)))).upd 27 (.lit (.int .i64 0)))) (M' := ((Mem.nil.push (.row 22 (Rd.slice (Rd.int .i64)) x2740)).push (.row 3 (Rd.int .i64) x2844))) [0, 1] hnp ⟨rfl, ⟨⟨trivial, .inr ⟨rfl, rfl, rfl⟩⟩, .inr ⟨rfl, rfl, rfl⟩⟩, by decide, rfl, ⟨trivial, rfl⟩⟩ (LeE.upd rfl rfl (LeE.upd rfl rfl (LeE.upd rfl rfl (LeE.upd rfl rfl (LeE.none rfl rfl)))))) ?_
 obtain ⟨x2858, H2863, H⟩ := bnd H
 refine WP.monoW (Q := fun x E M => x = .exit 2 ∧ E = (Env.none.upd 6 (.whole 1)) ∧ M = ((Mem.nil.push (.row 22 (Rd.slice (Rd.int .i64)) x2740)).push (.row 3 (Rd.int .i64) x2858))) ?_ ?_
 · refine WP.loop (β := Int × (List Int)) (fun n b => g_slices_Concat_int_int_l1 k x2740 n b.1 b.2 = some x2858) (fun b => ((((Env.none.upd 6 (.whole 1)).upd 25 (.whole 0)).upd 26 (.lit (.int .i64 ((List.length x2740 : Nat) : Int)))).upd 27 (.lit (.int .i64 b.1)))) (fun b => ((Mem.nil.push (.row 22 (Rd.slice (Rd.int .i64)) x2740)).push (.row 3 (Rd.int .i64) b.2))) k (0, x2844) H2863 rfl rfl ?_
   rintro n ⟨x2851, x2852⟩ H
   obtain _ | n := n
   · exact nf rfl H
   rw [g_slices_Concat_int_int_l1.eq_2] at H
   show WP _ _ _ _ ((((Env.none.upd 6 (.whole 1)).upd 25 (.whole 0)).upd 26 (.lit (.int .i64 ((List.length x2740 : Nat) : Int)))).upd 27 (.lit (.int .i64 x2851))) ((Mem.nil.push (.row 22 (Rd.slice (Rd.int .i64)) x2740)).push (.row 3 (Rd.int .i64) x2852)) _
   refine WP.seq ?_
   refine WP.region ?_
   obtain ⟨x2859, h2859, H⟩ := bnd H
   refine WPL.q (q_nm (q_lss rfl rfl) (nm_bool h2859)) rfl ?_
   refine WPL.nilW ?_
   refine W.now ?_
   refine Then.n ?_
   refine WP.seq ?_
   refine WP.cond (t := x2859) rfl (fun hb2860 => ?_) (fun hb2860 => ?_)
   · replace H := cnt hb2860 H
     refine WP.skipW ?_
     refine W.now ?_
     refine Then.n ?_
     refine WP.seq ?_
     refine WP.block ?_
     refine WP.seq ?_
     refine WP.region ?_
     obtain ⟨x2862, h2862, H⟩ := bnd H
     refine WPL.q (q_index_row sl52 rfl rfl rfl (ixs h2862)) rfl ?_
     refine WPL.q (q_load_rowr (j := (Int.toNat x2851)) (n := 1) (off := 0) (d := x2862) sc22 rfl rfl (ixj h2862) rfl PartIs.self rfl) rfl ?_
     refine WPL.q (q_as (v := .ro _ _ _) rfl) rfl ?_
     refine WPL.nilW ?_
     refine W.now ?_
     refine Then.n ?_
     refine WP.region ?_
     refine WPL.q (q_mv (v := .whole _) rfl) rfl ?_
     refine WPL.q (q_mv (v := .ro _ _ _) rfl) rfl ?_
     obtain ⟨h2862, H⟩ := grd H
     refine WPL.d (d_append ap22 rfl rfl rfl rfl (src_ro sl22 rfl) h2862 rfl) rfl ?_
     refine WPL.q (q_as (v := .whole _) rfl) rfl ?_
     refine WPL.nilW ?_
     refine W.now ?_
     refine InBlock.n ?_
     refine Then.n ?_
     refine WP.region ?_
     refine WPL.q (q_add rfl rfl) rfl ?_
     refine WPL.q (q_mv (v := .lit (.int _ _)) rfl) rfl ?_
     refine WPL.nilW ?_
     exact W.wk [0, 2] hnp (Then.n ⟨n, ((IntKind.wrap .i64 (x2851 + 1)), (x2852 ++ x2862)), Nat.lt_succ_self n, H, rfl, rfl⟩) ⟨rfl, ⟨⟨trivial, .inr ⟨rfl, rfl, rfl⟩⟩, .inr ⟨rfl, rfl, rfl⟩⟩, by decide, rfl, ⟨trivial, rfl⟩⟩ (LeE.upd rfl rfl (LeE.upd rfl rfl (LeE.upd rfl rfl (LeE.upd rfl rfl (LeE.none rfl rfl))))) rfl
   replace H := cnf hb2860 H
   refine WP.exitW ?_
   have q0 := (Option.some.inj H)
   subst q0
   exact W.wk [0, 1] hnp (Then.x (Then.x ⟨rfl, rfl, rfl⟩)) ⟨rfl, ⟨⟨trivial, .inr ⟨rfl, rfl, rfl⟩⟩, .inr ⟨rfl, rfl, rfl⟩⟩, by decide, rfl, ⟨trivial, rfl⟩⟩ (LeE.upd rfl rfl (LeE.none rfl rfl)) rfl
 rintro _ _ _ ⟨rfl, rfl, rfl⟩
 refine W.now ?_
 refine InBlock.x0 ?_
 refine Then.n ?_
 refine WP.seq ?_
 refine WP.region ?_
 refine WPL.q (q_mv (v := .whole _) rfl) rfl ?_
 refine WPL.q (q_as (v := .whole _) rfl) rfl ?_
 refine WPL.nilW ?_
 refine W.now ?_
 refine Then.n ?_
 refine WP.retW ?_
 refine W.cv (Cv.frzRow (i := 1) rfl rfl hnp rfl rfl) rfl ?_
 have q0 := Option.some.inj H
 subst q0
 exact W.now (BodyR.mkR trivial rfl [0] ⟨rfl, rfl⟩ ⟨rfl, ⟨trivial, .inr ⟨rfl, rfl, rfl⟩⟩, by decide, rfl, ⟨trivial, rfl⟩⟩ rfl rfl)
set_option maxRecDepth 100000 in
set_option maxHeartbeats 4000000 in
theorem s_huff_Lengths (k : Nat) (x6 : (List Int)) (x7 : Int) (r : (((List Int) × Int) ⊕ ByteArray)) (H : g_huff_Lengths k x6 x7 = some r) : Go.Q.Spec Try.prog 4 0 [.ro (Rd.slice (Rd.int .i64)) false x6, .lit (.int .i64 x7)] Mem.nil (fun o M => match (generalizing := false) r with | (Sum.inl (x3040, x3041)) => o = .ret (.tup [.ro (Rd.slice (Rd.int .i64)) false x3040, .lit (.int .i64 x3041)]) ∧ M = Mem.nil | (Sum.inr x3042) => o = .pan (.ifc 9 (.lit (.string x3042))) ∧ M = Mem.nil) := by
 unfold g_huff_Lengths at H
 refine Go.Q.Spec.of_bodyR (az := []) (rs := [.tmp 4, .tmp 5]) (nt := 146) Try.func4 rfl rfl (by intro t T h; simp at h) rfl rfl fun cx hnp => ?_
 refine WP.seq ?_
 refine WP.region ?_
 refine WPL.q (q_as (v := .lit _) rfl) rfl ?_
 refine WPL.q (q_as (v := .lit (.int _ _)) rfl) rfl ?_
 refine WPL.nilW ?_
 refine W.now ?_
 refine Then.n ?_
 refine WP.seq ?_
 refine WP.region ?_
 refine WPL.q (q_as (v := .lit _) rfl) rfl ?_
 refine WPL.nilW ?_
 refine W.now ?_
 refine Then.n ?_
 refine WP.seq ?_
 refine WP.seq ?_
 obtain ⟨x3055, H3058, H⟩ := bnd H
 refine WP.monoW (Q := fun x E M => x = .normal ∧ E = ((((Env.none.upd 0 (.ro (Rd.slice (Rd.int .i64)) false x6)).upd 1 (.lit (.int .i64 x7))).upd 6 (.lit (.slice none 0 0))).upd 27 (.lit (.bool x3055))) ∧ M = Mem.nil) ?_ ?_
 · clear H
   have H := H3058
   clear H3058
   refine WP.region ?_
   refine WPL.q (q_mv (v := .ro _ _ _) rfl) rfl ?_
   refine WPL.q (q_len_ro sl22 rfl) rfl ?_
   obtain ⟨x3056, h3056, H⟩ := bnd H
   refine WPL.q (q_nm (q_gtr rfl rfl) (nm_bool h3056)) rfl ?_
   refine WPL.q (q_mv (v := .lit (.bool _)) rfl) rfl ?_
   refine WPL.split (t := 20) (b := x3056) rfl (fun hb3056 => ?_) (fun hb3056 => ?_)
   · replace H := cnt hb3056 H
     refine WPL.skipg (b' := true) rfl rfl (lb hb3056) rfl rfl (.inl trivial) ?_
     refine WPL.skipg (b' := true) rfl rfl (lb hb3056) rfl rfl (.inl trivial) ?_
     refine WPL.q (q_pickT (v := .lit (.bool _)) (lb hb3056) rfl) rfl ?_
     refine WPL.q (q_mv (v := .lit (.bool _)) rfl) rfl ?_
     refine WPL.skipg (b' := true) rfl rfl rfl rfl rfl (.inl trivial) ?_
     refine WPL.skipg (b' := true) rfl rfl rfl rfl rfl (.inl trivial) ?_
     refine WPL.q (q_pickT (v := .lit (.bool _)) rfl rfl) rfl ?_
     refine WPL.nilW ?_
     have q0 := (Option.some.inj H)
     subst q0
     exact W.wk [] hnp ⟨rfl, rfl, rfl⟩ ⟨rfl, trivial, by decide, rfl, trivial⟩ (LeE.upd rfl rfl (LeE.upd rfl rfl (LeE.upd rfl rfl (LeE.upd rfl rfl (LeE.none rfl rfl))))) rfl
   replace H := cnf hb3056 H
   refine WPL.qg rfl rfl (lb hb3056) (q_mv (v := .lit (.int _ _)) rfl) rfl ?_
   refine WPL.qg rfl rfl (lb hb3056) (q_lss rfl rfl) rfl ?_
   refine WPL.q (q_pickF (v := .lit (.bool _)) (lb hb3056) rfl) rfl ?_
   refine WPL.q (q_mv (v := .lit (.bool _)) rfl) rfl ?_
   refine WPL.split (t := 24) (b := (decide (x7 < 1))) rfl (fun hb3057 => ?_) (fun hb3057 => ?_)
   · replace H := cnt hb3057 H
     refine WPL.skipg (b' := true) rfl rfl (lb hb3057) rfl rfl (.inl trivial) ?_
     refine WPL.skipg (b' := true) rfl rfl (lb hb3057) rfl rfl (.inl trivial) ?_
     refine WPL.q (q_pickT (v := .lit (.bool _)) (lb hb3057) rfl) rfl ?_
     refine WPL.nilW ?_
     have q0 := (Option.some.inj H)
     subst q0
     exact W.wk [] hnp ⟨rfl, rfl, rfl⟩ ⟨rfl, trivial, by decide, rfl, trivial⟩ (LeE.upd rfl rfl (LeE.upd rfl rfl (LeE.upd rfl rfl (LeE.upd rfl rfl (LeE.none rfl rfl))))) rfl
   replace H := cnf hb3057 H
   refine WPL.qg rfl rfl (lb hb3057) (q_mv (v := .lit (.int _ _)) rfl) rfl ?_
   refine WPL.qg rfl rfl (lb hb3057) (q_gtr rfl rfl) rfl ?_
   refine WPL.q (q_pickF (v := .lit (.bool _)) (lb hb3057) rfl) rfl ?_
   refine WPL.nilW ?_
   have q0 := (Option.some.inj H)
   subst q0
   exact W.wk [] hnp ⟨rfl, rfl, rfl⟩ ⟨rfl, trivial, by decide, rfl, trivial⟩ (LeE.upd rfl rfl (LeE.upd rfl rfl (LeE.upd rfl rfl (LeE.upd rfl rfl (LeE.none rfl rfl))))) rfl
 rintro _ _ _ ⟨rfl, rfl, rfl⟩
 refine W.now ?_
 refine Then.n ?_
 refine WP.cond (t := x3055) rfl (fun hb3059 => ?_) (fun hb3059 => ?_)
 · replace H := cnt hb3059 H
   refine WP.seq ?_
   refine WP.region ?_
   refine WPL.q (q_as (v := .lit _) rfl) rfl ?_
   refine WPL.q (q_as (v := .lit (.int _ _)) rfl) rfl ?_
   refine WPL.nilW ?_
   refine W.now ?_
   refine Then.n ?_
   refine WP.retW ?_
   refine W.cv (Cv.nilRo (Rd.int .i64) false 4 rfl) rfl ?_
   have q0 := Option.some.inj H
   subst q0
   exact W.now (Then.r (BodyR.mkR trivial rfl [] ⟨rfl, rfl⟩ ⟨rfl, trivial, by decide, rfl, trivial⟩ rfl rfl))
 replace H := cnf hb3059 H
 refine WP.skipW ?_
 refine W.now ?_
 refine Then.n ?_
 refine WP.seq ?_
 refine WP.seq ?_
 refine WP.region ?_
 refine WPL.q (q_mv (v := .ro _ _ _) rfl) rfl ?_
 refine WPL.q (q_len_ro sl22 rfl) rfl ?_
 refine WPL.q (q_mv (v := .lit (.int _ _)) rfl) rfl ?_
 refine WPL.nilW ?_
 refine W.now ?_
 refine Then.n ?_
 refine WP.block ?_
 refine WP.cv (Cv.vir 34 rdS_huff_coin (N := 0) rfl 6 rfl) ?_
 refine WP.cv (Cv.weak (E' := ((((((Env.none.upd 0 (.ro (Rd.slice (Rd.int .i64)) false x6)).upd 1 (.lit (.int .i64 x7))).upd 6 (.whole 0)).upd 28 (.ro (Rd.slice (Rd.int .i64)) false x6)).upd 29 (.lit (.int .i64 ((List.length x6 : Nat) : Int)))).upd 30 (.lit (.int .i64 0)))) (M' := (Mem.nil.push (.row 34 rdS_huff_coin ([] : List S_huff_coin)))) [0] hnp ⟨rfl, ⟨trivial, .inr ⟨rfl, rfl, rfl⟩⟩, by decide, rfl, trivial⟩ (LeE.upd rfl rfl (LeE.upd rfl rfl (LeE.upd rfl rfl (LeE.upd rfl rfl (LeE.upd rfl rfl (LeE.upd rfl rfl (LeE.none rfl rfl)))))))) ?_
 obtain ⟨y3193, H3191, H⟩ := bnd H
 refine WP.monoW (Q := fun x E M => match (generalizing := false) y3193 with | (Sum.inl _) => x = .ret ∧ E = ((Env.none.upd 4 (.lit (.slice none 0 0))).upd 5 (.lit (.int .i64 1))) ∧ M = Mem.nil | (Sum.inr x3159) => x = .exit 0 ∧ E = (((Env.none.upd 0 (.ro (Rd.slice (Rd.int .i64)) false x6)).upd 1 (.lit (.int .i64 x7))).upd 6 (.whole 0)) ∧ M = (Mem.nil.push (.row 34 rdS_huff_coin x3159))) ?_ ?_
 · refine WP.loop (β := Int × (List S_huff_coin)) (fun n b => g_huff_Lengths_l0 k x6 n b.1 b.2 = some y3193) (fun b => ((((((Env.none.upd 0 (.ro (Rd.slice (Rd.int .i64)) false x6)).upd 1 (.lit (.int .i64 x7))).upd 6 (.whole 0)).upd 28 (.ro (Rd.slice (Rd.int .i64)) false x6)).upd 29 (.lit (.int .i64 ((List.length x6 : Nat) : Int)))).upd 30 (.lit (.int .i64 b.1)))) (fun b => (Mem.nil.push (.row 34 rdS_huff_coin b.2))) k (0, ([] : List S_huff_coin)) H3191 rfl rfl ?_
   rintro n ⟨x3125, x3126⟩ H
   obtain _ | n := n
   · exact nf rfl H
   rw [g_huff_Lengths_l0.eq_2] at H
   show WP _ _ _ _ ((((((Env.none.upd 0 (.ro (Rd.slice (Rd.int .i64)) false x6)).upd 1 (.lit (.int .i64 x7))).upd 6 (.whole 0)).upd 28 (.ro (Rd.slice (Rd.int .i64)) false x6)).upd 29 (.lit (.int .i64 ((List.length x6 : Nat) : Int)))).upd 30 (.lit (.int .i64 x3125))) (Mem.nil.push (.row 34 rdS_huff_coin x3126)) _
   refine WP.seq ?_
   refine WP.region ?_
   obtain ⟨x3160, h3160, H⟩ := bnd H
   refine WPL.q (q_nm (q_lss rfl rfl) (nm_bool h3160)) rfl ?_
   refine WPL.nilW ?_
   refine W.now ?_
   refine Then.n ?_
   refine WP.seq ?_
   refine WP.cond (t := x3160) rfl (fun hb3161 => ?_) (fun hb3161 => ?_)
   · replace H := cnt hb3161 H
     refine WP.skipW ?_
     refine W.now ?_
     refine Then.n ?_
     refine WP.seq ?_
     obtain ⟨y3191, H3189, H⟩ := bnd H
     refine WP.monoW (Q := fun x E M => match (generalizing := false) y3191 with | (Sum.inl _) => x = .ret ∧ E = ((Env.none.upd 4 (.lit (.slice none 0 0))).upd 5 (.lit (.int .i64 1))) ∧ M = Mem.nil | (Sum.inr x3176) => x = .normal ∧ E = ((((((Env.none.upd 0 (.ro (Rd.slice (Rd.int .i64)) false x6)).upd 1 (.lit (.int .i64 x7))).upd 6 (.whole 0)).upd 28 (.ro (Rd.slice (Rd.int .i64)) false x6)).upd 29 (.lit (.int .i64 ((List.length x6 : Nat) : Int)))).upd 30 (.lit (.int .i64 x3125))) ∧ M = (Mem.nil.push (.row 34 rdS_huff_coin x3176))) ?_ ?_
     · clear H
       have H := H3189
       clear H3189
       refine WP.block ?_
       refine WP.seq ?_
       refine WP.region ?_
       refine WPL.q (q_mv (v := .lit (.int _ _)) rfl) rfl ?_
       obtain ⟨x3177, h3177, H⟩ := bnd H
       refine WPL.q (q_index_ro sl22 rfl rfl rfl h3177) rfl ?_
       refine WPL.q (q_load_sc sc3 rfl) rfl ?_
       refine WPL.q (q_as (v := .lit (.int _ _)) rfl) rfl ?_
       refine WPL.q (q_as (v := .lit (.int _ _)) rfl) rfl ?_
       refine WPL.nilW ?_
       refine W.now ?_
       refine Then.n ?_
       refine WP.seq ?_
       refine WP.seq ?_
       obtain ⟨x3184, H3185, H⟩ := bnd H
       refine WP.monoW (Q := fun x E M => x = .normal ∧ E = (((((((((Env.none.upd 0 (.ro (Rd.slice (Rd.int .i64)) false x6)).upd 1 (.lit (.int .i64 x7))).upd 6 (.whole 0)).upd 7 (.lit (.int .i64 x3125))).upd 8 (.lit (.int .i64 x3177))).upd 28 (.ro (Rd.slice (Rd.int .i64)) false x6)).upd 29 (.lit (.int .i64 ((List.length x6 : Nat) : Int)))).upd 30 (.lit (.int .i64 x3125))).upd 40 (.lit (.bool x3184))) ∧ M = (Mem.nil.push (.row 34 rdS_huff_coin x3126))) ?_ ?_
       · clear H
         have H := H3185
         clear H3185
         refine WP.region ?_
         refine WPL.q (q_mv (v := .lit (.int _ _)) rfl) rfl ?_
         refine WPL.q (q_lss rfl rfl) rfl ?_
         refine WPL.q (q_mv (v := .lit (.bool _)) rfl) rfl ?_
         refine WPL.split (t := 37) (b := (decide (x3177 < 0))) rfl (fun hb3184 => ?_) (fun hb3184 => ?_)
         · replace H := cnt hb3184 H
           refine WPL.skipg (b' := true) rfl rfl (lb hb3184) rfl rfl (.inl trivial) ?_
           refine WPL.skipg (b' := true) rfl rfl (lb hb3184) rfl rfl (.inl trivial) ?_
           refine WPL.q (q_pickT (v := .lit (.bool _)) (lb hb3184) rfl) rfl ?_
           refine WPL.nilW ?_
           have q0 := (Option.some.inj H)
           subst q0
           exact W.wk [0] hnp ⟨rfl, rfl, rfl⟩ ⟨rfl, ⟨trivial, .inr ⟨rfl, rfl, rfl⟩⟩, by decide, rfl, trivial⟩ (LeE.upd rfl rfl (LeE.upd rfl rfl (LeE.upd rfl rfl (LeE.upd rfl rfl (LeE.upd rfl rfl (LeE.upd rfl rfl (LeE.upd rfl rfl (LeE.upd rfl rfl (LeE.upd rfl rfl (LeE.none rfl rfl)))))))))) rfl
         replace H := cnf hb3184 H
         refine WPL.qg rfl rfl (lb hb3184) (q_mv (v := .lit (.int _ _)) rfl) rfl ?_
         refine WPL.qg rfl rfl (lb hb3184) (q_gtr rfl rfl) rfl ?_
         refine WPL.q (q_pickF (v := .lit (.bool _)) (lb hb3184) rfl) rfl ?_
         refine WPL.nilW ?_
         have q0 := (Option.some.inj H)
         subst q0
         exact W.wk [0] hnp ⟨rfl, rfl, rfl⟩ ⟨rfl, ⟨trivial, .inr ⟨rfl, rfl, rfl⟩⟩, by decide, rfl, trivial⟩ (LeE.upd rfl rfl (LeE.upd rfl rfl (LeE.upd rfl rfl (LeE.upd rfl rfl (LeE.upd rfl rfl (LeE.upd rfl rfl (LeE.upd rfl rfl (LeE.upd rfl rfl (LeE.upd rfl rfl (LeE.none rfl rfl)))))))))) rfl
       rintro _ _ _ ⟨rfl, rfl, rfl⟩
       refine W.now ?_
       refine Then.n ?_
       refine WP.cond (t := x3184) rfl (fun hb3186 => ?_) (fun hb3186 => ?_)
       · replace H := cnt hb3186 H
         refine WP.seq ?_
         refine WP.region ?_
         refine WPL.q (q_as (v := .lit _) rfl) rfl ?_
         refine WPL.q (q_as (v := .lit (.int _ _)) rfl) rfl ?_
         refine WPL.nilW ?_
         refine W.now ?_
         refine Then.n ?_
         refine WP.retW ?_
         have q0 := Option.some.inj H
         subst q0
         exact W.wk [] hnp (Then.r (InBlock.r ⟨rfl, rfl, rfl⟩)) ⟨rfl, trivial, by decide, rfl, trivial⟩ (LeE.upd rfl rfl (LeE.upd rfl rfl (LeE.none rfl rfl))) rfl
       replace H := cnf hb3186 H
       refine WP.skipW ?_
       refine W.now ?_
       refine Then.n ?_
       refine WP.seq ?_
       refine WP.region ?_
       refine WPL.q (q_mv (v := .lit (.int _ _)) rfl) rfl ?_
       refine WPL.q (q_gtr rfl rfl) rfl ?_
       refine WPL.nilW ?_
       refine W.now ?_
       refine Then.n ?_
       refine WP.cond (t := (decide (0 < x3177))) rfl (fun hb3187 => ?_) (fun hb3187 => ?_)
       · replace H := cnt hb3187 H
         refine WP.region ?_
         refine WPL.q (q_mv (v := .whole _) rfl) rfl ?_
         refine WPL.q (q_mv (v := .lit (.int _ _)) rfl) rfl ?_
         refine WPL.q (q_mv (v := .lit (.int _ _)) rfl) rfl ?_
         refine WPL.d (d_buildSlice (ds := ([x3125] : List Int)) (R := (Rd.int .i64)) li22 rfl rfl rfl rfl rfl (JoinRows.cons1 Joins.sc rfl JoinRows.nil) rfl rfl) rfl ?_
         refine WPL.q (q_build bu34 rfl) rfl ?_
         refine WPL.cv (Cv.frzRow (i := 1) rfl rfl hnp rfl rfl) ?_
         refine WPL.d (d_buildSlice (ds := ([(⟨x3177, ([x3125] : List Int)⟩ : S_huff_coin)] : List S_huff_coin)) (R := rdS_huff_coin) li32 rfl rfl rfl rfl rfl (JoinRows.cons (l := [.lit (.int .i64 x3177), .ro (Rd.slice (Rd.int .i64)) false ([x3125] : List Int)]) (Joins.via (Joins.cons Joins.sc (Joins.cons Joins.one Joins.unit))) rfl JoinRows.nil) rfl rfl) rfl ?_
         obtain ⟨h3188, H⟩ := grd H
         refine WPL.d (d_append ap32 rfl rfl rfl rfl (src_row sl32 rfl rfl) h3188 rfl) rfl ?_
         refine WPL.q (q_as (v := .whole _) rfl) rfl ?_
         refine WPL.nilW ?_
         have q0 := Option.some.inj H
         subst q0
         exact W.wk [3] hnp (InBlock.n ⟨rfl, rfl, rfl⟩) ⟨rfl, ⟨trivial, .inr ⟨rfl, rfl, rfl⟩⟩, by decide, rfl, trivial⟩ (LeE.upd rfl rfl (LeE.upd rfl rfl (LeE.upd rfl rfl (LeE.upd rfl rfl (LeE.upd rfl rfl (LeE.upd rfl rfl (LeE.none rfl rfl))))))) rfl
       replace H := cnf hb3187 H
       refine WP.skipW ?_
       have q0 := Option.some.inj H
       subst q0
       exact W.wk [0] hnp (InBlock.n ⟨rfl, rfl, rfl⟩) ⟨rfl, ⟨trivial, .inr ⟨rfl, rfl, rfl⟩⟩, by decide, rfl, trivial⟩ (LeE.upd rfl rfl (LeE.upd rfl rfl (LeE.upd rfl rfl (LeE.upd rfl rfl (LeE.upd rfl rfl (LeE.upd rfl rfl (LeE.none rfl rfl))))))) rfl
     rcases y3191 with _ | x3176
     · rintro _ _ _ ⟨rfl, rfl, rfl⟩
       have q0 := Option.some.inj H
       subst q0
       exact W.wk [] hnp (Then.r (Then.r ⟨rfl, rfl, rfl⟩)) ⟨rfl, trivial, by decide, rfl, trivial⟩ (LeE.upd rfl rfl (LeE.upd rfl rfl (LeE.none rfl rfl))) rfl
     rintro _ _ _ ⟨rfl, rfl, rfl⟩
     refine W.now ?_
     refine Then.n ?_
     refine WP.region ?_
     refine WPL.q (q_add rfl rfl) rfl ?_
     refine WPL.q (q_mv (v := .lit (.int _ _)) rfl) rfl ?_
     refine WPL.nilW ?_
     exact W.wk [0] hnp (Then.n ⟨n, ((IntKind.wrap .i64 (x3125 + 1)), x3176), Nat.lt_succ_self n, H, rfl, rfl⟩) ⟨rfl, ⟨trivial, .inr ⟨rfl, rfl, rfl⟩⟩, by decide, rfl, trivial⟩ (LeE.upd rfl rfl (LeE.upd rfl rfl (LeE.upd rfl rfl (LeE.upd rfl rfl (LeE.upd rfl rfl (LeE.upd rfl rfl (LeE.none rfl rfl))))))) rfl
   replace H := cnf hb3161 H
   refine WP.exitW ?_
   have q0 := Option.some.inj H
   subst q0
   exact W.wk [0] hnp (Then.x (Then.x ⟨rfl, rfl, rfl⟩)) ⟨rfl, ⟨trivial, .inr ⟨rfl, rfl, rfl⟩⟩, by decide, rfl, trivial⟩ (LeE.upd rfl rfl (LeE.upd rfl rfl (LeE.upd rfl rfl (LeE.none rfl rfl)))) rfl
 rcases y3193 with _ | x3159
 · rintro _ _ _ ⟨rfl, rfl, rfl⟩
   refine W.cv (Cv.nilRo (Rd.int .i64) false 4 rfl) rfl ?_
   have q0 := Option.some.inj H
   subst q0
   exact W.now (InBlock.r (Then.r (BodyR.mkR trivial rfl [] ⟨rfl, rfl⟩ ⟨rfl, trivial, by decide, rfl, trivial⟩ rfl rfl)))
 rintro _ _ _ ⟨rfl, rfl, rfl⟩
 refine W.now ?_
 refine InBlock.x0 ?_
 refine Then.n ?_
 refine WP.seq ?_
 refine WP.seq ?_
 refine WP.region ?_
 refine WPL.q (q_mv (v := .whole _) rfl) rfl ?_
 refine WPL.q (q_len_row sl32 rfl rfl) rfl ?_
 refine WPL.q (q_mv (v := .lit (.int _ _)) rfl) rfl ?_
 obtain ⟨h3196, H⟩ := grd H
 refine WPL.q (q_shl rfl rfl h3196) rfl ?_
 obtain ⟨x3198, h3198, H⟩ := bnd H
 refine WPL.q (q_nm (q_gtr rfl rfl) (nm_bool h3198)) rfl ?_
 refine WPL.nilW ?_
 refine W.now ?_
 refine Then.n ?_
 refine WP.cond (t := x3198) rfl (fun hb3198 => ?_) (fun hb3198 => ?_)
 · replace H := cnt hb3198 H
   refine WP.seq ?_
   refine WP.region ?_
   refine WPL.q (q_as (v := .lit _) rfl) rfl ?_
   refine WPL.q (q_as (v := .lit (.int _ _)) rfl) rfl ?_
   refine WPL.nilW ?_
   refine W.now ?_
   refine Then.n ?_
   refine WP.retW ?_
   refine W.cv (Cv.nilRo (Rd.int .i64) false 4 rfl) rfl ?_
   have q0 := Option.some.inj H
   subst q0
   exact W.now (Then.r (BodyR.mkR trivial rfl [] ⟨rfl, rfl⟩ ⟨rfl, trivial, by decide, rfl, trivial⟩ rfl rfl))
 replace H := cnf hb3198 H
 refine WP.skipW ?_
 refine W.now ?_
 refine Then.n ?_
 refine WP.seq ?_
 refine WP.region ?_
 refine WPL.q (q_mv (v := .ro _ _ _) rfl) rfl ?_
 refine WPL.q (q_len_ro sl22 rfl) rfl ?_
 obtain ⟨h3199, H⟩ := grd H
 refine WPL.d (d_make (d := (0 : Int)) (R := (Rd.int .i64)) li22 by3 rfl rfl rfl Joins.sc rfl rfl h3199 rfl) rfl ?_
 refine WPL.q (q_as (v := .whole _) rfl) rfl ?_
 refine WPL.nilW ?_
 refine W.now ?_
 refine Then.n ?_
 refine WP.seq ?_
 refine WP.seq ?_
 refine WP.region ?_
 refine WPL.q (q_mv (v := .whole _) rfl) rfl ?_
 refine WPL.q (q_len_row sl32 rfl rfl) rfl ?_
 obtain ⟨x3206, h3206, H⟩ := bnd H
 refine WPL.q (q_nm (q_eql rfl rfl) (nm_bool h3206)) rfl ?_
 refine WPL.nilW ?_
 refine W.now ?_
 refine Then.n ?_
 refine WP.cond (t := x3206) rfl (fun hb3206 => ?_) (fun hb3206 => ?_)
 · replace H := cnt hb3206 H
   refine WP.seq ?_
   refine WP.region ?_
   refine WPL.q (q_mv (v := .whole _) rfl) rfl ?_
   refine WPL.q (q_mv (v := .whole _) rfl) rfl ?_
   obtain ⟨x3208, h3208, H⟩ := bnd H
   refine WPL.q (q_index_row sl32 rfl rfl rfl (ixs h3208)) rfl ?_
   refine WPL.q (q_fieldAddr fi34_1 rfl rfl) rfl ?_
   refine WPL.q (q_load_rowr (j := (Int.toNat 0)) (n := 2) (off := 1) (d := x3208) sc22 rfl rfl (ixj h3208) rfl S_huff_coin.p1 rfl) rfl ?_
   obtain ⟨x3209, h3209, H⟩ := bnd H
   refine WPL.q (q_index_ro sl22 rfl rfl rfl h3209) rfl ?_
   refine WPL.q (q_load_sc sc3 rfl) rfl ?_
   obtain ⟨x3210, h3210, H⟩ := bnd H
   refine WPL.q (q_index_row sl22 rfl rfl rfl (ixs h3210)) rfl ?_
   refine WPL.s (s_store_row (j := (Int.toNat x3209)) (d := 1) sz3 rfl rfl rfl rfl Joins.sc (ixl h3210)) ?_
   refine WPL.nilW ?_
   refine W.now ?_
   refine Then.n ?_
   refine WP.seq ?_
   refine WP.region ?_
   refine WPL.q (q_mv (v := .whole _) rfl) rfl ?_
   refine WPL.q (q_as (v := .whole _) rfl) rfl ?_
   refine WPL.q (q_as (v := .lit (.int _ _)) rfl) rfl ?_
   refine WPL.nilW ?_
   refine W.now ?_
   refine Then.n ?_
   refine WP.retW ?_
   refine W.cv (Cv.frzRow (i := 1) rfl rfl hnp rfl rfl) rfl ?_
   have q0 := Option.some.inj H
   subst q0
   exact W.now (Then.r (BodyR.mkR trivial rfl [] ⟨rfl, rfl⟩ ⟨rfl, trivial, by decide, rfl, trivial⟩ rfl rfl))
 replace H := cnf hb3206 H
 refine WP.skipW ?_
 refine W.now ?_
 refine Then.n ?_
 refine WP.seq ?_
 refine WP.region ?_
 refine WPL.q (q_as (v := .fn _ _) rfl) rfl ?_
 refine WPL.nilW ?_
 refine W.now ?_
 refine Then.n ?_
 refine WP.seq ?_
 refine WP.region ?_
 refine WPL.q (q_mv (v := .whole _) rfl) rfl ?_
 refine WPL.q (q_mv (v := .fn _ _) rfl) rfl ?_
 obtain ⟨x3212, h3210, H⟩ := bnd H
 refine WPL.c (runs_call (s := [0]) (t := [0]) (N := 2) (bor := []) fn11 rfl (s_slices_SortStableFunc_huff_coin_huff_coin k x3159 x3212 h3210) ⟨rfl, ⟨trivial, .inr ⟨rfl, rfl, rfl⟩⟩, by decide, rfl, trivial⟩ rfl trivial (.ren rfl rfl (.ren rfl rfl .nil)) rfl ⟨trivial, rfl⟩ rfl) rfl ?_
 refine WPL.nilW ?_
 refine W.now ?_
 refine Then.n ?_
 refine WP.seq ?_
 refine WP.region ?_
 refine WPL.q (q_as (v := .lit _) rfl) rfl ?_
 refine WPL.nilW ?_
 refine W.now ?_
 refine Then.n ?_
 refine WP.seq ?_
 refine WP.seq ?_
 refine WP.region ?_
 refine WPL.q (q_mv (v := .lit (.int _ _)) rfl) rfl ?_
 refine WPL.q (q_mv (v := .lit (.int _ _)) rfl) rfl ?_
 refine WPL.nilW ?_
 refine W.now ?_
 refine Then.n ?_
 refine WP.block ?_
 refine WP.cv (Cv.vir 34 rdS_huff_coin (N := 2) rfl 11 rfl) ?_
 refine WP.cv (Cv.weak (E' := ((((((Env.none.upd 6 (.whole 0)).upd 9 (.whole 1)).upd 10 (.fn 9 [])).upd 11 (.whole 2)).upd 74 (.lit (.int .i64 x7))).upd 75 (.lit (.int .i64 0)))) (M' := (((Mem.nil.push (.row 34 rdS_huff_coin x3212)).push (.row 3 (Rd.int .i64) (List.replicate (Int.toNat ((List.length x6 : Nat) : Int)) (0 : Int)))).push (.row 34 rdS_huff_coin ([] : List S_huff_coin)))) [0, 1, 2] hnp ⟨rfl, ⟨⟨⟨trivial, .inr ⟨rfl, rfl, rfl⟩⟩, .inr ⟨rfl, rfl, rfl⟩⟩, .inr ⟨rfl, rfl, rfl⟩⟩, by decide, rfl, trivial⟩ (LeE.upd rfl rfl (LeE.upd rfl rfl (LeE.upd rfl rfl (LeE.upd rfl rfl (LeE.upd rfl rfl (LeE.upd rfl rfl (LeE.none rfl rfl)))))))) ?_
 obtain ⟨y3461, H3459, H⟩ := bnd H
 refine WP.monoW (Q := fun x E M => match (generalizing := false) y3461 with | (Sum.inl x3362) => x = .panic (.ifc 9 (.lit (.string x3362))) ∧ E = Env.none ∧ M = Mem.nil | (Sum.inr x3363) => x = .exit 2 ∧ E = (((Env.none.upd 6 (.whole 0)).upd 9 (.whole 1)).upd 11 (.whole 2)) ∧ M = (((Mem.nil.push (.row 34 rdS_huff_coin x3212)).push (.row 3 (Rd.int .i64) (List.replicate (Int.toNat ((List.length x6 : Nat) : Int)) (0 : Int)))).push (.row 34 rdS_huff_coin x3363))) ?_ ?_
 · refine WP.loop (β := Int × (List S_huff_coin)) (fun n b => g_huff_Lengths_l1 k x7 x3212 n b.1 b.2 = some y3461) (fun b => ((((((Env.none.upd 6 (.whole 0)).upd 9 (.whole 1)).upd 10 (.fn 9 [])).upd 11 (.whole 2)).upd 74 (.lit (.int .i64 x7))).upd 75 (.lit (.int .i64 b.1)))) (fun b => (((Mem.nil.push (.row 34 rdS_huff_coin x3212)).push (.row 3 (Rd.int .i64) (List.replicate (Int.toNat ((List.length x6 : Nat) : Int)) (0 : Int)))).push (.row 34 rdS_huff_coin b.2))) k (0, ([] : List S_huff_coin)) H3459 rfl rfl ?_
   rintro n ⟨x3292, x3293⟩ H
   obtain _ | n := n
   · exact nf rfl H
   rw [g_huff_Lengths_l1.eq_2] at H
   show WP _ _ _ _ ((((((Env.none.upd 6 (.whole 0)).upd 9 (.whole 1)).upd 10 (.fn 9 [])).upd 11 (.whole 2)).upd 74 (.lit (.int .i64 x7))).upd 75 (.lit (.int .i64 x3292))) (((Mem.nil.push (.row 34 rdS_huff_coin x3212)).push (.row 3 (Rd.int .i64) (List.replicate (Int.toNat ((List.length x6 : Nat) : Int)) (0 : Int)))).push (.row 34 rdS_huff_coin x3293)) _
   refine WP.seq ?_
   refine WP.region ?_
   refine WPL.q (q_lss rfl rfl) rfl ?_
   refine WPL.nilW ?_
   refine W.now ?_
   refine Then.n ?_
   refine WP.seq ?_
   refine WP.cond (t := (decide (x3292 < x7))) rfl (fun hb3364 => ?_) (fun hb3364 => ?_)
   · replace H := cnt hb3364 H
     refine WP.skipW ?_
     refine W.now ?_
     refine Then.n ?_
     refine WP.seq ?_
     refine WP.block ?_
     refine WP.seq ?_
     refine WP.region ?_
     refine WPL.q (q_mv (v := .whole _) rfl) rfl ?_
     obtain ⟨x3367, h3365, H⟩ := bnd H
     refine WPL.c (runs_call (s := [0]) (t := [0, 3]) (N := 4) (bor := []) fn12 rfl (s_slices_Clone_huff_coin_huff_coin k x3212 x3367 h3365) ⟨rfl, ⟨trivial, .inr ⟨rfl, rfl, rfl⟩⟩, by decide, rfl, trivial⟩ rfl trivial (.ren rfl rfl .nil) rfl ⟨⟨trivial, rfl⟩, rfl⟩ rfl) rfl ?_
     refine WPL.q (q_as (v := .whole _) rfl) rfl ?_
     refine WPL.nilW ?_
     refine W.now ?_
     refine Then.n ?_
     refine WP.seq ?_
     refine WP.seq ?_
     refine WP.region ?_
     refine WPL.q (q_as (v := .lit (.int _ _)) rfl) rfl ?_
     refine WPL.nilW ?_
     refine W.now ?_
     refine Then.n ?_
     refine WP.block ?_
     refine WP.cv (Cv.weak (E' := ((((((((Env.none.upd 6 (.whole 0)).upd 9 (.whole 1)).upd 10 (.fn 9 [])).upd 11 (.whole 2)).upd 12 (.whole 3)).upd 13 (.lit (.int .i64 0))).upd 74 (.lit (.int .i64 x7))).upd 75 (.lit (.int .i64 x3292)))) (M' := ((((Mem.nil.push (.row 34 rdS_huff_coin x3212)).push (.row 3 (Rd.int .i64) (List.replicate (Int.toNat ((List.length x6 : Nat) : Int)) (0 : Int)))).push (.row 34 rdS_huff_coin x3293)).push (.row 34 rdS_huff_coin x3367))) [0, 1, 2, 3] hnp ⟨rfl, ⟨⟨⟨⟨trivial, .inr ⟨rfl, rfl, rfl⟩⟩, .inr ⟨rfl, rfl, rfl⟩⟩, .inr ⟨rfl, rfl, rfl⟩⟩, .inr ⟨rfl, rfl, rfl⟩⟩, by decide, rfl, trivial⟩ (LeE.upd rfl rfl (LeE.upd rfl rfl (LeE.upd rfl rfl (LeE.upd rfl rfl (LeE.upd rfl rfl (LeE.upd rfl rfl (LeE.upd rfl rfl (LeE.upd rfl rfl (LeE.none rfl rfl)))))))))) ?_
     obtain ⟨y3457, H3455, H⟩ := bnd H
     refine WP.monoW (Q := fun x E M => match (generalizing := false) y3457 with | (Sum.inl x3426) => x = .panic (.ifc 9 (.lit (.string x3426))) ∧ E = Env.none ∧ M = Mem.nil | (Sum.inr x3427) => x = .exit 4 ∧ E = ((((((Env.none.upd 6 (.whole 0)).upd 9 (.whole 1)).upd 10 (.fn 9 [])).upd 12 (.whole 2)).upd 74 (.lit (.int .i64 x7))).upd 75 (.lit (.int .i64 x3292))) ∧ M = (((Mem.nil.push (.row 34 rdS_huff_coin x3212)).push (.row 3 (Rd.int .i64) (List.replicate (Int.toNat ((List.length x6 : Nat) : Int)) (0 : Int)))).push (.row 34 rdS_huff_coin x3427))) ?_ ?_
     · refine WP.loop (β := Int × (List S_huff_coin)) (fun n b => g_huff_Lengths_l2 k x3293 n b.1 b.2 = some y3457) (fun b => ((((((((Env.none.upd 6 (.whole 0)).upd 9 (.whole 1)).upd 10 (.fn 9 [])).upd 11 (.whole 2)).upd 12 (.whole 3)).upd 13 (.lit (.int .i64 b.1))).upd 74 (.lit (.int .i64 x7))).upd 75 (.lit (.int .i64 x3292)))) (fun b => ((((Mem.nil.push (.row 34 rdS_huff_coin x3212)).push (.row 3 (Rd.int .i64) (List.replicate (Int.toNat ((List.length x6 : Nat) : Int)) (0 : Int)))).push (.row 34 rdS_huff_coin x3293)).push (.row 34 rdS_huff_coin b.2))) k (0, x3367) H3455 rfl rfl ?_
       rintro n ⟨x3396, x3397⟩ H
       obtain _ | n := n
       · exact nf rfl H
       rw [g_huff_Lengths_l2.eq_2] at H
       show WP _ _ _ _ ((((((((Env.none.upd 6 (.whole 0)).upd 9 (.whole 1)).upd 10 (.fn 9 [])).upd 11 (.whole 2)).upd 12 (.whole 3)).upd 13 (.lit (.int .i64 x3396))).upd 74 (.lit (.int .i64 x7))).upd 75 (.lit (.int .i64 x3292))) ((((Mem.nil.push (.row 34 rdS_huff_coin x3212)).push (.row 3 (Rd.int .i64) (List.replicate (Int.toNat ((List.length x6 : Nat) : Int)) (0 : Int)))).push (.row 34 rdS_huff_coin x3293)).push (.row 34 rdS_huff_coin x3397)) _
       refine WP.seq ?_
       refine WP.seq ?_
       refine WP.region ?_
       refine WPL.q (q_mv (v := .lit (.int _ _)) rfl) rfl ?_
       refine WPL.q (q_add rfl rfl) rfl ?_
       refine WPL.q (q_mv (v := .whole _) rfl) rfl ?_
       refine WPL.q (q_len_row sl32 rfl rfl) rfl ?_
       obtain ⟨x3430, h3430, H⟩ := bnd H
       refine WPL.q (q_nm (q_lss rfl rfl) (nm_bool h3430)) rfl ?_
       refine WPL.nilW ?_
       refine W.now ?_
       refine Then.n ?_
       refine WP.cond (t := x3430) rfl (fun hb3430 => ?_) (fun hb3430 => ?_)
       · replace H := cnt hb3430 H
         refine WP.skipW ?_
         refine W.now ?_
         refine Then.n ?_
         refine WP.seq ?_
         refine WP.block ?_
         refine WP.regionD' 30 [2] [] mixed rfl ?_
         refine WPD.takeT 0 rfl (by kernel_rfl) (q_mv (v := .whole _) rfl) rfl ?_
         refine WPD.takeT 1 rfl (by kernel_rfl) (q_mv (v := .whole _) rfl) rfl ?_
         refine WPD.takeT 2 rfl (by kernel_rfl) (q_mv (v := .lit (.int _ _)) rfl) rfl ?_
         obtain ⟨x3446, h3446, H⟩ := bnd H
         refine WPD.takeT 3 rfl (by kernel_rfl) (q_index_row sl32 rfl rfl rfl (ixs h3446)) rfl ?_
         refine WPD.takeT 4 rfl (by kernel_rfl) (q_fieldAddr fi34_0 rfl rfl) rfl ?_
         refine WPD.takeT 6 rfl (by kernel_rfl) (q_mv (v := .whole _) rfl) rfl ?_
         refine WPD.takeT 7 rfl (by kernel_rfl) (q_mv (v := .lit (.int _ _)) rfl) rfl ?_
         refine WPD.takeT 8 rfl (by kernel_rfl) (q_add rfl rfl) rfl ?_
         obtain ⟨x3447, h3447, H⟩ := bnd H
         refine WPD.takeT 9 rfl (by kernel_rfl) (q_index_row sl32 rfl rfl rfl (ixs h3447)) rfl ?_
         refine WPD.takeT 10 rfl (by kernel_rfl) (q_fieldAddr fi34_0 rfl rfl) rfl ?_
         refine WPD.takeT 13 rfl (by kernel_rfl) (q_mv (v := .whole _) rfl) rfl ?_
         refine WPD.takeT 14 rfl (by kernel_rfl) (q_mv (v := .lit (.int _ _)) rfl) rfl ?_
         obtain ⟨x3448, h3448, H⟩ := bnd H
         refine WPD.takeT 15 rfl (by kernel_rfl) (q_index_row sl32 rfl rfl rfl (ixs h3448)) rfl ?_
         refine WPD.takeT 16 rfl (by kernel_rfl) (q_fieldAddr fi34_1 rfl rfl) rfl ?_
         refine WPD.takeT 18 rfl (by kernel_rfl) (q_mv (v := .whole _) rfl) rfl ?_
         refine WPD.takeT 19 rfl (by kernel_rfl) (q_mv (v := .lit (.int _ _)) rfl) rfl ?_
         refine WPD.takeT 20 rfl (by kernel_rfl) (q_add rfl rfl) rfl ?_
         obtain ⟨x3449, h3449, H⟩ := bnd H
         refine WPD.takeT 21 rfl (by kernel_rfl) (q_index_row sl32 rfl rfl rfl (ixs h3449)) rfl ?_
         refine WPD.takeT 22 rfl (by kernel_rfl) (q_fieldAddr fi34_1 rfl rfl) rfl ?_
         refine WPD.take 5 rfl (by kernel_rfl) (q_load_rowf (j := (Int.toNat x3396)) (n := 2) (off := 0) (d := x3446) sc3 rfl rfl (ixj h3446) rfl S_huff_coin.p0) rfl rfl ?_
         refine WPD.take 11 rfl (by kernel_rfl) (q_load_rowf (j := (Int.toNat (IntKind.wrap .i64 (x3396 + 1)))) (n := 2) (off := 0) (d := x3447) sc3 rfl rfl (ixj h3447) rfl S_huff_coin.p0) rfl rfl ?_
         obtain ⟨x3450, h3450, H⟩ := bnd H
         refine WPD.takeT 12 rfl (by kernel_rfl) (q_nm (q_add rfl rfl) (nm_int h3450)) rfl ?_
         refine WPD.take 17 rfl (by kernel_rfl) (q_load_rowr (j := (Int.toNat x3396)) (n := 2) (off := 1) (d := x3448) sc22 rfl rfl (ixj h3448) rfl S_huff_coin.p1 rfl) rfl rfl ?_
         refine WPD.take 23 rfl (by kernel_rfl) (q_load_rowr (j := (Int.toNat (IntKind.wrap .i64 (x3396 + 1)))) (n := 2) (off := 1) (d := x3449) sc22 rfl rfl (ixj h3449) rfl S_huff_coin.p1 rfl) rfl rfl ?_
         refine WPD.eff 24 [2] [] rfl (by kernel_rfl) (Does.runs (d_buildSlice (ds := ([x3448.fsyms, x3449.fsyms] : List (List Int))) (R := (Rd.slice (Rd.int .i64))) li52 rfl rfl rfl rfl rfl (JoinRows.cons (l := [.ro (Rd.slice (Rd.int .i64)) false x3448.fsyms]) Joins.one rfl (JoinRows.cons (l := [.ro (Rd.slice (Rd.int .i64)) false x3449.fsyms]) Joins.one rfl JoinRows.nil)) rfl rfl)) rfl rfl ?_
         obtain ⟨y3454, h3450, H⟩ := bnd H
         rcases y3454 with x3452 | x3453
         · refine WPD.pW 25 rfl (by kernel_rfl) (runs_callP (s := [4]) (t := [4]) (N := 5) (bor := []) fn13 rfl (s_slices_Concat_int_int k ([x3448.fsyms, x3449.fsyms] : List (List Int)) (Sum.inl x3452) h3450) ⟨rfl, ⟨trivial, .inr ⟨rfl, rfl, rfl⟩⟩, by decide, rfl, trivial⟩ rfl trivial (.ren rfl rfl .nil) rfl ⟨trivial, rfl⟩ rfl) ?_
           have q0 := Option.some.inj H
           subst q0
           exact W.wkP [] hnp (InBlock.p (Then.p (Then.p ⟨rfl, rfl, rfl⟩))) ⟨rfl, trivial, by decide, rfl, trivial⟩ (LeE.none rfl rfl) rfl rfl
         refine WPD.eff 25 [2] [] rfl (by kernel_rfl) (runs_call (s := [4]) (t := [4]) (N := 5) (bor := []) fn13 rfl (s_slices_Concat_int_int k ([x3448.fsyms, x3449.fsyms] : List (List Int)) (Sum.inr x3453) h3450) ⟨rfl, ⟨trivial, .inr ⟨rfl, rfl, rfl⟩⟩, by decide, rfl, trivial⟩ rfl trivial (.ren rfl rfl .nil) rfl ⟨trivial, rfl⟩ rfl) rfl rfl ?_
         refine WPD.takeT 26 rfl (by kernel_rfl) (q_build bu34 rfl) rfl ?_
         refine WPD.eff 27 [2] [] rfl (by kernel_rfl) (Does.runs (d_buildSlice (ds := ([(⟨x3450, x3453⟩ : S_huff_coin)] : List S_huff_coin)) (R := rdS_huff_coin) li32 rfl rfl rfl rfl rfl (JoinRows.cons (l := [.lit (.int .i64 x3450), .ro (Rd.slice (Rd.int .i64)) false x3453]) (Joins.via (Joins.cons Joins.sc (Joins.cons Joins.one Joins.unit))) rfl JoinRows.nil) rfl rfl)) rfl rfl ?_
         obtain ⟨h3454, H⟩ := grd H
         refine WPD.eff 28 [2] [] rfl (by kernel_rfl) (Does.runs (d_append ap32 rfl rfl rfl rfl (src_row sl32 rfl rfl) h3454 rfl)) rfl rfl ?_
         refine WPD.takeT 29 rfl (by kernel_rfl) (q_as (v := .whole _) rfl) rfl ?_
         refine WPD.doneW (by kernel_rfl) ?_
         refine W.now ?_
         refine InBlock.n ?_
         refine Then.n ?_
         refine WP.region ?_
         refine WPL.q (q_mv (v := .lit (.int _ _)) rfl) rfl ?_
         refine WPL.q (q_add rfl rfl) rfl ?_
         refine WPL.q (q_as (v := .lit (.int _ _)) rfl) rfl ?_
         refine WPL.nilW ?_
         exact W.wk [0, 1, 2, 6] hnp (Then.n ⟨n, ((IntKind.wrap .i64 (x3396 + 2)), (x3397 ++ ([(⟨x3450, x3453⟩ : S_huff_coin)] : List S_huff_coin))), Nat.lt_succ_self n, H, rfl, rfl⟩) ⟨rfl, ⟨⟨⟨⟨trivial, .inr ⟨rfl, rfl, rfl⟩⟩, .inr ⟨rfl, rfl, rfl⟩⟩, .inr ⟨rfl, rfl, rfl⟩⟩, .inr ⟨rfl, rfl, rfl⟩⟩, by decide, rfl, trivial⟩ (LeE.upd rfl rfl (LeE.upd rfl rfl (LeE.upd rfl rfl (LeE.upd rfl rfl (LeE.upd rfl rfl (LeE.upd rfl rfl (LeE.upd rfl rfl (LeE.upd rfl rfl (LeE.none rfl rfl))))))))) rfl
       replace H := cnf hb3430 H
       refine WP.exitW ?_
       have q0 := Option.some.inj H
       subst q0
       exact W.wk [0, 1, 3] hnp (Then.x (Then.x ⟨rfl, rfl, rfl⟩)) ⟨rfl, ⟨⟨⟨trivial, .inr ⟨rfl, rfl, rfl⟩⟩, .inr ⟨rfl, rfl, rfl⟩⟩, .inr ⟨rfl, rfl, rfl⟩⟩, by decide, rfl, trivial⟩ (LeE.upd rfl rfl (LeE.upd rfl rfl (LeE.upd rfl rfl (LeE.upd rfl rfl (LeE.upd rfl rfl (LeE.upd rfl rfl (LeE.none rfl rfl))))))) rfl
     rcases y3457 with x3426 | x3427
     · rintro _ _ _ ⟨rfl, rfl, rfl⟩
       have q0 := Option.some.inj H
       subst q0
       exact W.wkP [] hnp (InBlock.p (Then.p (InBlock.p (Then.p (Then.p ⟨rfl, rfl, rfl⟩))))) ⟨rfl, trivial, by decide, rfl, trivial⟩ (LeE.none rfl rfl) rfl rfl
     rintro _ _ _ ⟨rfl, rfl, rfl⟩
     refine W.now ?_
     refine InBlock.x0 ?_
     refine Then.n ?_
     refine WP.seq ?_
     refine WP.region ?_
     refine WPL.q (q_mv (v := .whole _) rfl) rfl ?_
     refine WPL.q (q_mv (v := .fn _ _) rfl) rfl ?_
     obtain ⟨x3459, h3457, H⟩ := bnd H
     refine WPL.c (runs_call (s := [2]) (t := [2]) (N := 3) (bor := []) fn11 rfl (s_slices_SortStableFunc_huff_coin_huff_coin k x3427 x3459 h3457) ⟨rfl, ⟨trivial, .inr ⟨rfl, rfl, rfl⟩⟩, by decide, rfl, trivial⟩ rfl trivial (.ren rfl rfl (.ren rfl rfl .nil)) rfl ⟨trivial, rfl⟩ rfl) rfl ?_
     refine WPL.nilW ?_
     refine W.now ?_
     refine Then.n ?_
     refine WP.region ?_
     refine WPL.q (q_mv (v := .whole _) rfl) rfl ?_
     refine WPL.q (q_as (v := .whole _) rfl) rfl ?_
     refine WPL.nilW ?_
     refine W.now ?_
     refine InBlock.n ?_
     refine Then.n ?_
     refine WP.region ?_
     refine WPL.q (q_add rfl rfl) rfl ?_
     refine WPL.q (q_mv (v := .lit (.int _ _)) rfl) rfl ?_
     refine WPL.nilW ?_
     exact W.wk [0, 1, 2] hnp (Then.n ⟨n, ((IntKind.wrap .i64 (x3292 + 1)), x3459), Nat.lt_succ_self n, H, rfl, rfl⟩) ⟨rfl, ⟨⟨⟨trivial, .inr ⟨rfl, rfl, rfl⟩⟩, .inr ⟨rfl, rfl, rfl⟩⟩, .inr ⟨rfl, rfl, rfl⟩⟩, by decide, rfl, trivial⟩ (LeE.upd rfl rfl (LeE.upd rfl rfl (LeE.upd rfl rfl (LeE.upd rfl rfl (LeE.upd rfl rfl (LeE.upd rfl rfl (LeE.none rfl rfl))))))) rfl
   replace H := cnf hb3364 H
   refine WP.exitW ?_
   have q0 := Option.some.inj H
   subst q0
   exact W.wk [0, 1, 2] hnp (Then.x (Then.x ⟨rfl, rfl, rfl⟩)) ⟨rfl, ⟨⟨⟨trivial, .inr ⟨rfl, rfl, rfl⟩⟩, .inr ⟨rfl, rfl, rfl⟩⟩, .inr ⟨rfl, rfl, rfl⟩⟩, by decide, rfl, trivial⟩ (LeE.upd rfl rfl (LeE.upd rfl rfl (LeE.upd rfl rfl (LeE.none rfl rfl)))) rfl
 rcases y3461 with x3362 | x3363
 · rintro _ _ _ ⟨rfl, rfl, rfl⟩
   have q0 := Option.some.inj H
   subst q0
   exact W.now (InBlock.p (Then.p (BodyR.mkP trivial [] ⟨rfl, rfl⟩ ⟨rfl, trivial, by decide, rfl, trivial⟩ rfl rfl)))
 rintro _ _ _ ⟨rfl, rfl, rfl⟩
 refine W.now ?_
 refine InBlock.x0 ?_
 refine Then.n ?_
 refine WP.seq ?_
 refine WP.seq ?_
 refine WP.region ?_
 refine WPL.q (q_as (v := .lit (.int _ _)) rfl) rfl ?_
 refine WPL.nilW ?_
 refine W.now ?_
 refine Then.n ?_
 refine WP.block ?_
 refine WP.cv (Cv.weak (E' := ((((Env.none.upd 6 (.whole 0)).upd 9 (.whole 1)).upd 11 (.whole 2)).upd 14 (.lit (.int .i64 0)))) (M' := (((Mem.nil.push (.row 34 rdS_huff_coin x3212)).push (.row 3 (Rd.int .i64) (List.replicate (Int.toNat ((List.length x6 : Nat) : Int)) (0 : Int)))).push (.row 34 rdS_huff_coin x3363))) [0, 1, 2] hnp ⟨rfl, ⟨⟨⟨trivial, .inr ⟨rfl, rfl, rfl⟩⟩, .inr ⟨rfl, rfl, rfl⟩⟩, .inr ⟨rfl, rfl, rfl⟩⟩, by decide, rfl, trivial⟩ (LeE.upd rfl rfl (LeE.upd rfl rfl (LeE.upd rfl rfl (LeE.upd rfl rfl (LeE.none rfl rfl)))))) ?_
 obtain ⟨x3510, H3539, H⟩ := bnd H
 refine WP.monoW (Q := fun x E M => x = .exit 6 ∧ E = (Env.none.upd 9 (.whole 0)) ∧ M = (Mem.nil.push (.row 3 (Rd.int .i64) x3510))) ?_ ?_
 · refine WP.loop (β := Int × (List Int)) (fun n b => g_huff_Lengths_l3 k x3212 x3363 n b.1 b.2 = some x3510) (fun b => ((((Env.none.upd 6 (.whole 0)).upd 9 (.whole 1)).upd 11 (.whole 2)).upd 14 (.lit (.int .i64 b.1)))) (fun b => (((Mem.nil.push (.row 34 rdS_huff_coin x3212)).push (.row 3 (Rd.int .i64) b.2)).push (.row 34 rdS_huff_coin x3363))) k (0, (List.replicate (Int.toNat ((List.length x6 : Nat) : Int)) (0 : Int))) H3539 rfl rfl ?_
   rintro n ⟨x3485, x3486⟩ H
   obtain _ | n := n
   · exact nf rfl H
   rw [g_huff_Lengths_l3.eq_2] at H
   show WP _ _ _ _ ((((Env.none.upd 6 (.whole 0)).upd 9 (.whole 1)).upd 11 (.whole 2)).upd 14 (.lit (.int .i64 x3485))) (((Mem.nil.push (.row 34 rdS_huff_coin x3212)).push (.row 3 (Rd.int .i64) x3486)).push (.row 34 rdS_huff_coin x3363)) _
   refine WP.seq ?_
   refine WP.seq ?_
   refine WP.region ?_
   refine WPL.q (q_mv (v := .lit (.int _ _)) rfl) rfl ?_
   refine WPL.q (q_mv (v := .whole _) rfl) rfl ?_
   refine WPL.q (q_len_row sl32 rfl rfl) rfl ?_
   obtain ⟨x3514, h3514, H⟩ := bnd H
   refine WPL.q (q_nm (q_mul rfl rfl) (nm_int h3514)) rfl ?_
   refine WPL.q (q_sub rfl rfl) rfl ?_
   obtain ⟨x3515, h3515, H⟩ := bnd H
   refine WPL.q (q_nm (q_lss rfl rfl) (nm_bool h3515)) rfl ?_
   refine WPL.nilW ?_
   refine W.now ?_
   refine Then.n ?_
   refine WP.cond (t := x3515) rfl (fun hb3515 => ?_) (fun hb3515 => ?_)
   · replace H := cnt hb3515 H
     refine WP.skipW ?_
     refine W.now ?_
     refine Then.n ?_
     refine WP.seq ?_
     refine WP.block ?_
     refine WP.seq ?_
     refine WP.region ?_
     refine WPL.q (q_mv (v := .whole _) rfl) rfl ?_
     refine WPL.q (q_mv (v := .lit (.int _ _)) rfl) rfl ?_
     obtain ⟨x3517, h3517, H⟩ := bnd H
     refine WPL.q (q_index_row sl32 rfl rfl rfl (ixs h3517)) rfl ?_
     refine WPL.q (q_fieldAddr fi34_1 rfl rfl) rfl ?_
     refine WPL.q (q_load_rowr (j := (Int.toNat x3485)) (n := 2) (off := 1) (d := x3517) sc22 rfl rfl (ixj h3517) rfl S_huff_coin.p1 rfl) rfl ?_
     refine WPL.q (q_len_ro sl22 rfl) rfl ?_
     refine WPL.q (q_mv (v := .lit (.int _ _)) rfl) rfl ?_
     refine WPL.nilW ?_
     refine W.now ?_
     refine Then.n ?_
     refine WP.block ?_
     refine WP.cv (Cv.weak (E' := (((((((Env.none.upd 6 (.whole 0)).upd 9 (.whole 1)).upd 11 (.whole 2)).upd 14 (.lit (.int .i64 x3485))).upd 132 (.ro (Rd.slice (Rd.int .i64)) false x3517.fsyms)).upd 133 (.lit (.int .i64 ((List.length x3517.fsyms : Nat) : Int)))).upd 134 (.lit (.int .i64 0)))) (M' := (((Mem.nil.push (.row 34 rdS_huff_coin x3212)).push (.row 3 (Rd.int .i64) x3486)).push (.row 34 rdS_huff_coin x3363))) [0, 1, 2] hnp ⟨rfl, ⟨⟨⟨trivial, .inr ⟨rfl, rfl, rfl⟩⟩, .inr ⟨rfl, rfl, rfl⟩⟩, .inr ⟨rfl, rfl, rfl⟩⟩, by decide, rfl, trivial⟩ (LeE.upd rfl rfl (LeE.upd rfl rfl (LeE.upd rfl rfl (LeE.upd rfl rfl (LeE.upd rfl rfl (LeE.upd rfl rfl (LeE.upd rfl rfl (LeE.none rfl rfl))))))))) ?_
     obtain ⟨x3532, H3538, H⟩ := bnd H
     refine WP.monoW (Q := fun x E M => x = .exit 8 ∧ E = ((((Env.none.upd 6 (.whole 0)).upd 9 (.whole 1)).upd 11 (.whole 2)).upd 14 (.lit (.int .i64 x3485))) ∧ M = (((Mem.nil.push (.row 34 rdS_huff_coin x3212)).push (.row 3 (Rd.int .i64) x3532)).push (.row 34 rdS_huff_coin x3363))) ?_ ?_
     · refine WP.loop (β := Int × (List Int)) (fun n b => g_huff_Lengths_l4 k x3517 n b.1 b.2 = some x3532) (fun b => (((((((Env.none.upd 6 (.whole 0)).upd 9 (.whole 1)).upd 11 (.whole 2)).upd 14 (.lit (.int .i64 x3485))).upd 132 (.ro (Rd.slice (Rd.int .i64)) false x3517.fsyms)).upd 133 (.lit (.int .i64 ((List.length x3517.fsyms : Nat) : Int)))).upd 134 (.lit (.int .i64 b.1)))) (fun b => (((Mem.nil.push (.row 34 rdS_huff_coin x3212)).push (.row 3 (Rd.int .i64) b.2)).push (.row 34 rdS_huff_coin x3363))) k (0, x3486) H3538 rfl rfl ?_
       rintro n ⟨x3524, x3525⟩ H
       obtain _ | n := n
       · exact nf rfl H
       rw [g_huff_Lengths_l4.eq_2] at H
       show WP _ _ _ _ (((((((Env.none.upd 6 (.whole 0)).upd 9 (.whole 1)).upd 11 (.whole 2)).upd 14 (.lit (.int .i64 x3485))).upd 132 (.ro (Rd.slice (Rd.int .i64)) false x3517.fsyms)).upd 133 (.lit (.int .i64 ((List.length x3517.fsyms : Nat) : Int)))).upd 134 (.lit (.int .i64 x3524))) (((Mem.nil.push (.row 34 rdS_huff_coin x3212)).push (.row 3 (Rd.int .i64) x3525)).push (.row 34 rdS_huff_coin x3363)) _
       refine WP.seq ?_
       refine WP.region ?_
       obtain ⟨x3533, h3533, H⟩ := bnd H
       refine WPL.q (q_nm (q_lss rfl rfl) (nm_bool h3533)) rfl ?_
       refine WPL.nilW ?_
       refine W.now ?_
       refine Then.n ?_
       refine WP.seq ?_
       refine WP.cond (t := x3533) rfl (fun hb3534 => ?_) (fun hb3534 => ?_)
       · replace H := cnt hb3534 H
         refine WP.skipW ?_
         refine W.now ?_
         refine Then.n ?_
         refine WP.seq ?_
         refine WP.block ?_
         refine WP.seq ?_
         refine WP.region ?_
         obtain ⟨x3536, h3536, H⟩ := bnd H
         refine WPL.q (q_index_ro sl22 rfl rfl rfl h3536) rfl ?_
         refine WPL.q (q_load_sc sc3 rfl) rfl ?_
         refine WPL.q (q_as (v := .lit (.int _ _)) rfl) rfl ?_
         refine WPL.nilW ?_
         refine W.now ?_
         refine Then.n ?_
         refine WP.region ?_
         refine WPL.q (q_mv (v := .whole _) rfl) rfl ?_
         refine WPL.q (q_mv (v := .lit (.int _ _)) rfl) rfl ?_
         obtain ⟨x3537, h3537, H⟩ := bnd H
         refine WPL.q (q_index_row sl22 rfl rfl rfl (ixs h3537)) rfl ?_
         refine WPL.q (q_load_row (j := (Int.toNat x3536)) sc3 rfl rfl (ixj h3537)) rfl ?_
         refine WPL.q (q_add rfl rfl) rfl ?_
         obtain ⟨x3538, h3538, H⟩ := bnd H
         refine WPL.q (q_index_row sl22 rfl rfl rfl (ixs h3538)) rfl ?_
         refine WPL.s (s_store_row (j := (Int.toNat x3536)) (d := (IntKind.wrap .i64 (x3537 + 1))) sz3 rfl rfl rfl rfl Joins.sc (ixl h3538)) ?_
         refine WPL.nilW ?_
         refine W.now ?_
         refine InBlock.n ?_
         refine Then.n ?_
         refine WP.region ?_
         refine WPL.q (q_add rfl rfl) rfl ?_
         refine WPL.q (q_mv (v := .lit (.int _ _)) rfl) rfl ?_
         refine WPL.nilW ?_
         exact W.wk [0, 1, 2] hnp (Then.n ⟨n, ((IntKind.wrap .i64 (x3524 + 1)), (List.set x3525 (Int.toNat x3536) (IntKind.wrap .i64 (x3537 + 1)))), Nat.lt_succ_self n, H, rfl, rfl⟩) ⟨rfl, ⟨⟨⟨trivial, .inr ⟨rfl, rfl, rfl⟩⟩, .inr ⟨rfl, rfl, rfl⟩⟩, .inr ⟨rfl, rfl, rfl⟩⟩, by decide, rfl, trivial⟩ (LeE.upd rfl rfl (LeE.upd rfl rfl (LeE.upd rfl rfl (LeE.upd rfl rfl (LeE.upd rfl rfl (LeE.upd rfl rfl (LeE.upd rfl rfl (LeE.none rfl rfl)))))))) rfl
       replace H := cnf hb3534 H
       refine WP.exitW ?_
       have q0 := (Option.some.inj H)
       subst q0
       exact W.wk [0, 1, 2] hnp (Then.x (Then.x ⟨rfl, rfl, rfl⟩)) ⟨rfl, ⟨⟨⟨trivial, .inr ⟨rfl, rfl, rfl⟩⟩, .inr ⟨rfl, rfl, rfl⟩⟩, .inr ⟨rfl, rfl, rfl⟩⟩, by decide, rfl, trivial⟩ (LeE.upd rfl rfl (LeE.upd rfl rfl (LeE.upd rfl rfl (LeE.upd rfl rfl (LeE.none rfl rfl))))) rfl
     rintro _ _ _ ⟨rfl, rfl, rfl⟩
     refine W.now ?_
     refine InBlock.x0 ?_
     refine InBlock.n ?_
     refine Then.n ?_
     refine WP.region ?_
     refine WPL.q (q_mv (v := .lit (.int _ _)) rfl) rfl ?_
     refine WPL.q (q_add rfl rfl) rfl ?_
     refine WPL.q (q_as (v := .lit (.int _ _)) rfl) rfl ?_
     refine WPL.nilW ?_
     exact W.wk [0, 1, 2] hnp (Then.n ⟨n, ((IntKind.wrap .i64 (x3485 + 1)), x3532), Nat.lt_succ_self n, H, rfl, rfl⟩) ⟨rfl, ⟨⟨⟨trivial, .inr ⟨rfl, rfl, rfl⟩⟩, .inr ⟨rfl, rfl, rfl⟩⟩, .inr ⟨rfl, rfl, rfl⟩⟩, by decide, rfl, trivial⟩ (LeE.upd rfl rfl (LeE.upd rfl rfl (LeE.upd rfl rfl (LeE.upd rfl rfl (LeE.none rfl rfl))))) rfl
   replace H := cnf hb3515 H
   refine WP.exitW ?_
   have q0 := (Option.some.inj H)
   subst q0
   exact W.wk [1] hnp (Then.x (Then.x ⟨rfl, rfl, rfl⟩)) ⟨rfl, ⟨trivial, .inr ⟨rfl, rfl, rfl⟩⟩, by decide, rfl, trivial⟩ (LeE.upd rfl rfl (LeE.none rfl rfl)) rfl
 rintro _ _ _ ⟨rfl, rfl, rfl⟩
 refine W.now ?_
 refine InBlock.x0 ?_
 refine Then.n ?_
 refine WP.seq ?_
 refine WP.region ?_
 refine WPL.q (q_mv (v := .whole _) rfl) rfl ?_
 refine WPL.q (q_as (v := .whole _) rfl) rfl ?_
 refine WPL.q (q_as (v := .lit (.int _ _)) rfl) rfl ?_
 refine WPL.nilW ?_
 refine W.now ?_
 refine Then.n ?_
 refine WP.retW ?_
 refine W.cv (Cv.frzRow (i := 0) rfl rfl hnp rfl rfl) rfl ?_
 have q0 := Option.some.inj H
 subst q0
 exact W.now (BodyR.mkR trivial rfl [] ⟨rfl, rfl⟩ ⟨rfl, trivial, by decide, rfl, trivial⟩ rfl rfl)
end Go.Proofs.Ytjahhkhpchiojaa.W
