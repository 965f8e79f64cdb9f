/- Texts joined: part 4 of what LInflateBehind stands on. -/
import Derived.Test.YtpceecokdpdgfaaSInflateBehindc
namespace Go.Proofs.Ytpceecokdpdgfaa.W
open Go Go.Q Go.Proofs
set_option linter.unusedVariables false
set_option linter.unusedSimpArgs false
set_option maxRecDepth 100000 in
set_option maxHeartbeats 4000000 in
theorem s_huff_Decoder_Next (k : Nat) (x2523 : (List Int)) (x2524 : (List Int)) (x2525 : Int) (x2526 : (List Int)) (x2689 : Int) (x2690 : Int) (x2691 : (List Int)) (x2692 : Int) (H : g_huff_Decoder_Next k x2523 x2524 x2525 x2526 = some (x2689, x2690, x2691, x2692)) : Go.Q.Spec Try.prog 43 2 [.ptr 0 0, .ptr 1 0] (((Mem.nil.push (.cells 82 [.lit (.int .i64 (List.getD x2523 0 (0 : Int))), .lit (.int .i64 (List.getD x2523 1 (0 : Int))), .lit (.int .i64 (List.getD x2523 2 (0 : Int))), .lit (.int .i64 (List.getD x2523 3 (0 : Int))), .lit (.int .i64 (List.getD x2523 4 (0 : Int))), .lit (.int .i64 (List.getD x2523 5 (0 : Int))), .lit (.int .i64 (List.getD x2523 6 (0 : Int))), .lit (.int .i64 (List.getD x2523 7 (0 : Int))), .lit (.int .i64 (List.getD x2523 8 (0 : Int))), .lit (.int .i64 (List.getD x2523 9 (0 : Int))), .lit (.int .i64 (List.getD x2523 10 (0 : Int))), .lit (.int .i64 (List.getD x2523 11 (0 : Int))), .lit (.int .i64 (List.getD x2523 12 (0 : Int))), .lit (.int .i64 (List.getD x2523 13 (0 : Int))), .lit (.int .i64 (List.getD x2523 14 (0 : Int))), .lit (.int .i64 (List.getD x2523 15 (0 : Int))), .whole 2])).push (.cells 52 [.ro (Rd.slice (Rd.int .u8)) false x2524, .lit (.int .i64 x2525)])).push (.row 3 (Rd.int .i64) x2526)) (fun o M => o = .ret (.tup [.lit (.int .i64 x2689), .lit (.int .i64 x2690)]) ∧ M = (((Mem.nil.push (.cells 82 [.lit (.int .i64 (List.getD x2523 0 (0 : Int))), .lit (.int .i64 (List.getD x2523 1 (0 : Int))), .lit (.int .i64 (List.getD x2523 2 (0 : Int))), .lit (.int .i64 (List.getD x2523 3 (0 : Int))), .lit (.int .i64 (List.getD x2523 4 (0 : Int))), .lit (.int .i64 (List.getD x2523 5 (0 : Int))), .lit (.int .i64 (List.getD x2523 6 (0 : Int))), .lit (.int .i64 (List.getD x2523 7 (0 : Int))), .lit (.int .i64 (List.getD x2523 8 (0 : Int))), .lit (.int .i64 (List.getD x2523 9 (0 : Int))), .lit (.int .i64 (List.getD x2523 10 (0 : Int))), .lit (.int .i64 (List.getD x2523 11 (0 : Int))), .lit (.int .i64 (List.getD x2523 12 (0 : Int))), .lit (.int .i64 (List.getD x2523 13 (0 : Int))), .lit (.int .i64 (List.getD x2523 14 (0 : Int))), .lit (.int .i64 (List.getD x2523 15 (0 : Int))), .whole 2])).push (.cells 52 [.ro (Rd.slice (Rd.int .u8)) false x2691, .lit (.int .i64 x2692)])).push (.row 3 (Rd.int .i64) x2526))) := by
 unfold g_huff_Decoder_Next at H
 refine Go.Q.Spec.of_bodyR (az := []) (rs := [.tmp 4, .tmp 5]) (nt := 98) Try.func43 rfl rfl (by intro t T h; simp at h) rfl rfl fun cx hnp => ?_
 refine WP.seq ?_
 refine WP.region ?_
 refine WPL.q (q_as (v := .lit (.int _ _)) rfl) rfl ?_
 refine WPL.q (q_as (v := .lit (.int _ _)) rfl) rfl ?_
 refine WPL.nilW ?_
 refine W.now ?_
 refine Then.n ?_
 refine WP.scope ?_
 refine WP.seq ?_
 refine WP.seq ?_
 refine WP.region ?_
 refine WPL.q (q_mv (v := .ptr _ _) rfl) rfl ?_
 refine WPL.q (q_eqlp Try.underlying54 rfl) rfl ?_
 refine WPL.q (q_mv (v := .lit (.bool _)) rfl) rfl ?_
 refine WPL.qg rfl rfl rfl (q_mv (v := .ptr _ _) rfl) rfl ?_
 refine WPL.qg rfl rfl rfl (q_eqlp Try.underlying42 rfl) rfl ?_
 refine WPL.q (q_pickF (v := .lit (.bool _)) rfl rfl) rfl ?_
 refine WPL.nilW ?_
 refine W.now ?_
 refine Then.n ?_
 refine WP.condF rfl ?_
 refine WP.skipW ?_
 refine W.now ?_
 refine Then.n ?_
 refine WP.seq ?_
 refine WP.region ?_
 refine WPL.q (q_mv (v := .ptr _ _) rfl) rfl ?_
 refine WPL.q (q_nilCheck rfl) rfl ?_
 refine WPL.q (q_load_ag ag52 rfl rfl (Nat.le_of_ble_eq_true rfl)) rfl ?_
 refine WPL.d (d_alloc ze52 rfl) rfl ?_
 refine WPL.s (s_store sz52 rfl rfl rfl rfl rfl) ?_
 refine WPL.nilW ?_
 refine W.now ?_
 refine Then.n ?_
 refine WP.seq ?_
 refine WP.region ?_
 refine WPL.q (q_as (v := .lit (.int _ _)) rfl) rfl ?_
 refine WPL.q (q_as (v := .lit (.int _ _)) rfl) rfl ?_
 refine WPL.q (q_as (v := .lit (.int _ _)) rfl) rfl ?_
 refine WPL.nilW ?_
 refine W.now ?_
 refine Then.n ?_
 refine WP.seq ?_
 refine WP.region ?_
 refine WPL.q (q_as (v := .lit (.int _ _)) rfl) rfl ?_
 refine WPL.nilW ?_
 refine W.now ?_
 refine Then.n ?_
 refine WP.seq ?_
 refine WP.labelW ?_
 refine W.now ?_
 refine Then.n ?_
 refine WP.seq ?_
 refine WP.seq ?_
 refine WP.region ?_
 refine WPL.q (q_as (v := .lit (.int _ _)) rfl) rfl ?_
 refine WPL.nilW ?_
 refine W.now ?_
 refine Then.n ?_
 refine WP.block ?_
 refine WP.cv (Cv.weak (E' := ((((((((Env.none.upd 0 (.ptr 0 0)).upd 1 (.ptr 1 0)).upd 6 (.ptr 3 0)).upd 7 (.lit (.int .i64 0))).upd 8 (.lit (.int .i64 0))).upd 9 (.lit (.int .i64 0))).upd 10 (.lit (.int .i64 11))).upd 11 (.lit (.int .i64 1)))) (M' := ((((Mem.nil.push (.cells 82 [.lit (.int .i64 (List.getD x2523 0 (0 : Int))), .lit (.int .i64 (List.getD x2523 1 (0 : Int))), .lit (.int .i64 (List.getD x2523 2 (0 : Int))), .lit (.int .i64 (List.getD x2523 3 (0 : Int))), .lit (.int .i64 (List.getD x2523 4 (0 : Int))), .lit (.int .i64 (List.getD x2523 5 (0 : Int))), .lit (.int .i64 (List.getD x2523 6 (0 : Int))), .lit (.int .i64 (List.getD x2523 7 (0 : Int))), .lit (.int .i64 (List.getD x2523 8 (0 : Int))), .lit (.int .i64 (List.getD x2523 9 (0 : Int))), .lit (.int .i64 (List.getD x2523 10 (0 : Int))), .lit (.int .i64 (List.getD x2523 11 (0 : Int))), .lit (.int .i64 (List.getD x2523 12 (0 : Int))), .lit (.int .i64 (List.getD x2523 13 (0 : Int))), .lit (.int .i64 (List.getD x2523 14 (0 : Int))), .lit (.int .i64 (List.getD x2523 15 (0 : Int))), .whole 2])).push (.cells 52 [.ro (Rd.slice (Rd.int .u8)) false x2524, .lit (.int .i64 x2525)])).push (.row 3 (Rd.int .i64) x2526)).push (.cells 52 [.ro (Rd.slice (Rd.int .u8)) false x2524, .lit (.int .i64 x2525)]))) [0, 1, 2, 3] hnp ⟨rfl, ⟨⟨⟨⟨trivial, .inr ⟨rfl, rfl, rfl⟩⟩, .inr ⟨rfl, rfl, rfl⟩⟩, .inr ⟨rfl, rfl, rfl⟩⟩, .inr ⟨rfl, rfl, rfl⟩⟩, by decide, rfl, ⟨⟨trivial, rfl⟩, rfl⟩⟩ (LeE.upd rfl rfl (LeE.upd rfl rfl (LeE.upd rfl rfl (LeE.upd rfl rfl (LeE.upd rfl rfl (LeE.upd rfl rfl (LeE.upd rfl rfl (LeE.upd rfl rfl (LeE.none rfl rfl)))))))))) ?_
 obtain ⟨y2876, H2874, H⟩ := bnd H
 refine WP.monoW (Q := fun x E M => match (generalizing := false) y2876 with | (Sum.inl (x2809, x2810, x2811)) => x = .exit 0 ∧ E = (((Env.none.upd 1 (.ptr 1 0)).upd 6 (.ptr 3 0)).upd 10 (.lit (.int .i64 x2809))) ∧ M = ((((Mem.nil.push (.cells 82 [.lit (.int .i64 (List.getD x2523 0 (0 : Int))), .lit (.int .i64 (List.getD x2523 1 (0 : Int))), .lit (.int .i64 (List.getD x2523 2 (0 : Int))), .lit (.int .i64 (List.getD x2523 3 (0 : Int))), .lit (.int .i64 (List.getD x2523 4 (0 : Int))), .lit (.int .i64 (List.getD x2523 5 (0 : Int))), .lit (.int .i64 (List.getD x2523 6 (0 : Int))), .lit (.int .i64 (List.getD x2523 7 (0 : Int))), .lit (.int .i64 (List.getD x2523 8 (0 : Int))), .lit (.int .i64 (List.getD x2523 9 (0 : Int))), .lit (.int .i64 (List.getD x2523 10 (0 : Int))), .lit (.int .i64 (List.getD x2523 11 (0 : Int))), .lit (.int .i64 (List.getD x2523 12 (0 : Int))), .lit (.int .i64 (List.getD x2523 13 (0 : Int))), .lit (.int .i64 (List.getD x2523 14 (0 : Int))), .lit (.int .i64 (List.getD x2523 15 (0 : Int))), .whole 2])).push (.cells 52 [.ro (Rd.slice (Rd.int .u8)) false x2810, .lit (.int .i64 x2811)])).push (.row 3 (Rd.int .i64) x2526)).push (.cells 52 [.ro (Rd.slice (Rd.int .u8)) false x2524, .lit (.int .i64 x2525)])) | (Sum.inr (x2812, x2813, x2814)) => x = .ret ∧ E = ((Env.none.upd 4 (.lit (.int .i64 x2812))).upd 5 (.lit (.int .i64 0))) ∧ M = (((Mem.nil.push (.cells 82 [.lit (.int .i64 (List.getD x2523 0 (0 : Int))), .lit (.int .i64 (List.getD x2523 1 (0 : Int))), .lit (.int .i64 (List.getD x2523 2 (0 : Int))), .lit (.int .i64 (List.getD x2523 3 (0 : Int))), .lit (.int .i64 (List.getD x2523 4 (0 : Int))), .lit (.int .i64 (List.getD x2523 5 (0 : Int))), .lit (.int .i64 (List.getD x2523 6 (0 : Int))), .lit (.int .i64 (List.getD x2523 7 (0 : Int))), .lit (.int .i64 (List.getD x2523 8 (0 : Int))), .lit (.int .i64 (List.getD x2523 9 (0 : Int))), .lit (.int .i64 (List.getD x2523 10 (0 : Int))), .lit (.int .i64 (List.getD x2523 11 (0 : Int))), .lit (.int .i64 (List.getD x2523 12 (0 : Int))), .lit (.int .i64 (List.getD x2523 13 (0 : Int))), .lit (.int .i64 (List.getD x2523 14 (0 : Int))), .lit (.int .i64 (List.getD x2523 15 (0 : Int))), .whole 2])).push (.cells 52 [.ro (Rd.slice (Rd.int .u8)) false x2813, .lit (.int .i64 x2814)])).push (.row 3 (Rd.int .i64) x2526))) ?_ ?_
 · refine WP.loop (β := Int × Int × Int × Int × (List Int) × Int) (fun n b => g_huff_Decoder_Next_l0 k x2523 x2526 n b.1 b.2.1 b.2.2.1 b.2.2.2.1 b.2.2.2.2.1 b.2.2.2.2.2 = some y2876) (fun b => ((((((((Env.none.upd 0 (.ptr 0 0)).upd 1 (.ptr 1 0)).upd 6 (.ptr 3 0)).upd 7 (.lit (.int .i64 b.1))).upd 8 (.lit (.int .i64 b.2.1))).upd 9 (.lit (.int .i64 b.2.2.1))).upd 10 (.lit (.int .i64 11))).upd 11 (.lit (.int .i64 b.2.2.2.1)))) (fun b => ((((Mem.nil.push (.cells 82 [.lit (.int .i64 (List.getD x2523 0 (0 : Int))), .lit (.int .i64 (List.getD x2523 1 (0 : Int))), .lit (.int .i64 (List.getD x2523 2 (0 : Int))), .lit (.int .i64 (List.getD x2523 3 (0 : Int))), .lit (.int .i64 (List.getD x2523 4 (0 : Int))), .lit (.int .i64 (List.getD x2523 5 (0 : Int))), .lit (.int .i64 (List.getD x2523 6 (0 : Int))), .lit (.int .i64 (List.getD x2523 7 (0 : Int))), .lit (.int .i64 (List.getD x2523 8 (0 : Int))), .lit (.int .i64 (List.getD x2523 9 (0 : Int))), .lit (.int .i64 (List.getD x2523 10 (0 : Int))), .lit (.int .i64 (List.getD x2523 11 (0 : Int))), .lit (.int .i64 (List.getD x2523 12 (0 : Int))), .lit (.int .i64 (List.getD x2523 13 (0 : Int))), .lit (.int .i64 (List.getD x2523 14 (0 : Int))), .lit (.int .i64 (List.getD x2523 15 (0 : Int))), .whole 2])).push (.cells 52 [.ro (Rd.slice (Rd.int .u8)) false b.2.2.2.2.1, .lit (.int .i64 b.2.2.2.2.2)])).push (.row 3 (Rd.int .i64) x2526)).push (.cells 52 [.ro (Rd.slice (Rd.int .u8)) false x2524, .lit (.int .i64 x2525)]))) k (0, 0, 0, 1, x2524, x2525) H2874 rfl rfl ?_
   rintro n ⟨x2743, x2744, x2745, x2746, x2747, x2748⟩ H
   obtain _ | n := n
   · exact nf rfl H
   rw [g_huff_Decoder_Next_l0.eq_2] at H
   show WP _ _ _ _ ((((((((Env.none.upd 0 (.ptr 0 0)).upd 1 (.ptr 1 0)).upd 6 (.ptr 3 0)).upd 7 (.lit (.int .i64 x2743))).upd 8 (.lit (.int .i64 x2744))).upd 9 (.lit (.int .i64 x2745))).upd 10 (.lit (.int .i64 11))).upd 11 (.lit (.int .i64 x2746))) ((((Mem.nil.push (.cells 82 [.lit (.int .i64 (List.getD x2523 0 (0 : Int))), .lit (.int .i64 (List.getD x2523 1 (0 : Int))), .lit (.int .i64 (List.getD x2523 2 (0 : Int))), .lit (.int .i64 (List.getD x2523 3 (0 : Int))), .lit (.int .i64 (List.getD x2523 4 (0 : Int))), .lit (.int .i64 (List.getD x2523 5 (0 : Int))), .lit (.int .i64 (List.getD x2523 6 (0 : Int))), .lit (.int .i64 (List.getD x2523 7 (0 : Int))), .lit (.int .i64 (List.getD x2523 8 (0 : Int))), .lit (.int .i64 (List.getD x2523 9 (0 : Int))), .lit (.int .i64 (List.getD x2523 10 (0 : Int))), .lit (.int .i64 (List.getD x2523 11 (0 : Int))), .lit (.int .i64 (List.getD x2523 12 (0 : Int))), .lit (.int .i64 (List.getD x2523 13 (0 : Int))), .lit (.int .i64 (List.getD x2523 14 (0 : Int))), .lit (.int .i64 (List.getD x2523 15 (0 : Int))), .whole 2])).push (.cells 52 [.ro (Rd.slice (Rd.int .u8)) false x2747, .lit (.int .i64 x2748)])).push (.row 3 (Rd.int .i64) x2526)).push (.cells 52 [.ro (Rd.slice (Rd.int .u8)) false x2524, .lit (.int .i64 x2525)])) _
   refine WP.seq ?_
   refine WP.seq ?_
   refine WP.region ?_
   refine WPL.q (q_mv (v := .lit (.int _ _)) rfl) rfl ?_
   refine WPL.q (q_leq rfl rfl) rfl ?_
   refine WPL.nilW ?_
   refine W.now ?_
   refine Then.n ?_
   refine WP.cond (t := (decide (x2746 ≤ 15))) rfl (fun hb2815 => ?_) (fun hb2815 => ?_)
   · replace H := cnt hb2815 H
     refine WP.skipW ?_
     refine W.now ?_
     refine Then.n ?_
     refine WP.seq ?_
     refine WP.block ?_
     refine WP.seq ?_
     refine WP.seq ?_
     refine WP.region ?_
     refine WPL.q (q_mv (v := .lit (.int _ _)) rfl) rfl ?_
     refine WPL.q (q_mv (v := .ptr _ _) rfl) rfl ?_
     refine WPL.q (q_nilCheck rfl) rfl ?_
     refine WPL.q (q_fieldAddr fi82_1 rfl rfl) rfl ?_
     refine WPL.q (q_load sc25 rfl rfl rfl) rfl ?_
     refine WPL.q (q_len_row sl25 rfl rfl) rfl ?_
     obtain ⟨x2848, h2848, H⟩ := bnd H
     refine WPL.q (q_nm (q_eql rfl rfl) (nm_bool h2848)) rfl ?_
     refine WPL.nilW ?_
     refine W.now ?_
     refine Then.n ?_
     refine WP.cond (t := x2848) rfl (fun hb2848 => ?_) (fun hb2848 => ?_)
     · replace H := cnt hb2848 H
       refine WP.exitW ?_
       have q0 := Option.some.inj H
       subst q0
       exact W.wk [0, 1, 2, 3] hnp (Then.x (InBlock.x rfl (Then.x (Then.x ⟨rfl, rfl, rfl⟩)))) ⟨rfl, ⟨⟨⟨⟨trivial, .inr ⟨rfl, rfl, rfl⟩⟩, .inr ⟨rfl, rfl, rfl⟩⟩, .inr ⟨rfl, rfl, rfl⟩⟩, .inr ⟨rfl, rfl, rfl⟩⟩, by decide, rfl, ⟨⟨trivial, rfl⟩, rfl⟩⟩ (LeE.upd rfl rfl (LeE.upd rfl rfl (LeE.upd rfl rfl (LeE.none rfl rfl)))) rfl
     replace H := cnf hb2848 H
     refine WP.skipW ?_
     refine W.now ?_
     refine Then.n ?_
     refine WP.seq ?_
     refine WP.region ?_
     refine WPL.q (q_mv (v := .ptr _ _) rfl) rfl ?_
     obtain ⟨⟨x2851, x2852, x2853, x2854⟩, h2849, H⟩ := bnd H
     refine WPL.c (runs_call (s := [1]) (t := [1]) (N := 4) (bor := []) fn32 rfl (s_bits_Reader_Take k 1 x2747 x2748 x2851 x2852 x2853 x2854 h2849) ⟨rfl, ⟨trivial, .inr ⟨rfl, rfl, rfl⟩⟩, by decide, rfl, trivial⟩ rfl trivial (.ren rfl rfl (.ren rfl rfl .nil)) rfl ⟨trivial, rfl⟩ rfl) rfl ?_
     refine WPL.q (q_mv (v := .tup _) rfl) rfl ?_
     refine WPL.q (q_extract rfl rfl) rfl ?_
     refine WPL.q (q_extract rfl rfl) rfl ?_
     refine WPL.q (q_as (v := .lit (.int _ _)) rfl) rfl ?_
     refine WPL.q (q_as (v := .lit (.int _ _)) rfl) rfl ?_
     refine WPL.nilW ?_
     refine W.now ?_
     refine Then.n ?_
     refine WP.seq ?_
     refine WP.seq ?_
     refine WP.region ?_
     refine WPL.q (q_mv (v := .lit (.int _ _)) rfl) rfl ?_
     refine WPL.q (q_neq rfl rfl) rfl ?_
     refine WPL.nilW ?_
     refine W.now ?_
     refine Then.n ?_
     refine WP.cond (t := (!decide (x2852 = 0))) rfl (fun hb2855 => ?_) (fun hb2855 => ?_)
     · replace H := cnt hb2855 H
       refine WP.seq ?_
       refine WP.region ?_
       refine WPL.q (q_mv (v := .lit (.int _ _)) rfl) rfl ?_
       refine WPL.q (q_as (v := .lit (.int _ _)) rfl) rfl ?_
       refine WPL.nilW ?_
       refine W.now ?_
       refine Then.n ?_
       refine WP.exitW ?_
       have q0 := Option.some.inj H
       subst q0
       exact W.wk [0, 1, 2, 3] hnp (Then.x (InBlock.x rfl (Then.x (Then.x ⟨rfl, rfl, rfl⟩)))) ⟨rfl, ⟨⟨⟨⟨trivial, .inr ⟨rfl, rfl, rfl⟩⟩, .inr ⟨rfl, rfl, rfl⟩⟩, .inr ⟨rfl, rfl, rfl⟩⟩, .inr ⟨rfl, rfl, rfl⟩⟩, by decide, rfl, ⟨⟨trivial, rfl⟩, rfl⟩⟩ (LeE.upd rfl rfl (LeE.upd rfl rfl (LeE.upd rfl rfl (LeE.none rfl rfl)))) rfl
     replace H := cnf hb2855 H
     refine WP.skipW ?_
     refine W.now ?_
     refine Then.n ?_
     refine WP.seq ?_
     refine WP.region ?_
     refine WPL.q (q_mv (v := .lit (.int _ _)) rfl) rfl ?_
     refine WPL.q (q_shl rfl rfl rfl) rfl ?_
     refine WPL.q (q_mv (v := .lit (.int _ _)) rfl) rfl ?_
     refine WPL.q (q_conv Try.underlying57 Try.underlying3 rfl) rfl ?_
     obtain ⟨x2857, h2857, H⟩ := bnd H
     refine WPL.q (q_nm (q_or rfl rfl) (nm_int h2857)) rfl ?_
     refine WPL.q (q_as (v := .lit (.int _ _)) rfl) rfl ?_
     refine WPL.nilW ?_
     refine W.now ?_
     refine Then.n ?_
     refine WP.seq ?_
     refine WP.region ?_
     refine WPL.q (q_mv (v := .lit (.int _ _)) rfl) rfl ?_
     refine WPL.q (q_shl rfl rfl rfl) rfl ?_
     refine WPL.q (q_as (v := .lit (.int _ _)) rfl) rfl ?_
     refine WPL.nilW ?_
     refine W.now ?_
     refine Then.n ?_
     refine WP.seq ?_
     refine WP.seq ?_
     refine WP.region ?_
     refine WPL.q (q_mv (v := .lit (.int _ _)) rfl) rfl ?_
     refine WPL.q (q_mv (v := .lit (.int _ _)) rfl) rfl ?_
     obtain ⟨x2863, h2863, H⟩ := bnd H
     refine WPL.q (q_nm (q_sub rfl rfl) (nm_int h2863)) rfl ?_
     refine WPL.q (q_as (v := .lit (.int _ _)) rfl) rfl ?_
     refine WPL.nilW ?_
     refine W.now ?_
     refine Then.n ?_
     refine WP.seq ?_
     refine WP.region ?_
     refine WPL.q (q_mv (v := .lit (.int _ _)) rfl) rfl ?_
     refine WPL.q (q_mv (v := .ptr _ _) rfl) rfl ?_
     refine WPL.q (q_mv (v := .lit (.int _ _)) rfl) rfl ?_
     refine WPL.q (q_nilCheck rfl) rfl ?_
     refine WPL.q (q_fieldAddr fi82_0 rfl rfl) rfl ?_
     obtain ⟨h2863, H⟩ := grd H
     refine WPL.q (q_indexArr ar80 rfl rfl h2863 rfl) rfl ?_
     refine WPL.q (q_load_arr (f := (fun z : Int => AVal.lit (.int .i64 z))) (d0 := (0 : Int)) (xs := x2523) (n := 16) (off := 0) (j := (Int.toNat x2746)) sc3 rfl rfl rfl (natlt h2863) (addone _ _)) rfl ?_
     obtain ⟨x2865, h2865, H⟩ := bnd H
     refine WPL.q (q_nm (q_lss rfl rfl) (nm_bool h2865)) rfl ?_
     refine WPL.nilW ?_
     refine W.now ?_
     refine Then.n ?_
     refine WP.cond (t := x2865) rfl (fun hb2865 => ?_) (fun hb2865 => ?_)
     · replace H := cnt hb2865 H
       refine WP.seq ?_
       refine WP.region ?_
       refine WPL.q (q_mv (v := .ptr _ _) rfl) rfl ?_
       refine WPL.q (q_nilCheck rfl) rfl ?_
       refine WPL.q (q_fieldAddr fi82_1 rfl rfl) rfl ?_
       refine WPL.q (q_load sc25 rfl rfl rfl) rfl ?_
       refine WPL.q (q_mv (v := .lit (.int _ _)) rfl) rfl ?_
       refine WPL.q (q_mv (v := .lit (.int _ _)) rfl) rfl ?_
       refine WPL.q (q_add rfl rfl) rfl ?_
       obtain ⟨x2867, h2867, H⟩ := bnd H
       refine WPL.q (q_index_row sl25 rfl rfl rfl (ixs h2867)) rfl ?_
       refine WPL.q (q_load_row (j := (Int.toNat (IntKind.wrap .i64 (x2745 + x2863)))) sc3 rfl rfl (ixj h2867)) rfl ?_
       refine WPL.q (q_as (v := .lit (.int _ _)) rfl) rfl ?_
       refine WPL.q (q_as (v := .lit (.int _ _)) rfl) rfl ?_
       refine WPL.nilW ?_
       refine W.now ?_
       refine Then.n ?_
       refine WP.retW ?_
       have q0 := Option.some.inj H
       subst q0
       exact W.wk [0, 1, 2] hnp (Then.r (InBlock.r (Then.r (Then.r ⟨rfl, rfl, rfl⟩)))) ⟨rfl, ⟨⟨⟨trivial, .inr ⟨rfl, rfl, rfl⟩⟩, .inr ⟨rfl, rfl, rfl⟩⟩, .inr ⟨rfl, rfl, rfl⟩⟩, by decide, rfl, ⟨⟨trivial, rfl⟩, rfl⟩⟩ (LeE.upd rfl rfl (LeE.upd rfl rfl (LeE.none rfl rfl))) rfl
     replace H := cnf hb2865 H
     refine WP.skipW ?_
     refine W.now ?_
     refine Then.n ?_
     refine WP.seq ?_
     refine WP.region ?_
     refine WPL.q (q_mv (v := .lit (.int _ _)) rfl) rfl ?_
     refine WPL.q (q_mv (v := .ptr _ _) rfl) rfl ?_
     refine WPL.q (q_mv (v := .lit (.int _ _)) rfl) rfl ?_
     refine WPL.q (q_nilCheck rfl) rfl ?_
     refine WPL.q (q_fieldAddr fi82_0 rfl rfl) rfl ?_
     obtain ⟨h2867, H⟩ := grd H
     refine WPL.q (q_indexArr ar80 rfl rfl h2867 rfl) rfl ?_
     refine WPL.q (q_load_arr (f := (fun z : Int => AVal.lit (.int .i64 z))) (d0 := (0 : Int)) (xs := x2523) (n := 16) (off := 0) (j := (Int.toNat x2746)) sc3 rfl rfl rfl (natlt h2867) (addone _ _)) rfl ?_
     obtain ⟨x2869, h2869, H⟩ := bnd H
     refine WPL.q (q_nm (q_add rfl rfl) (nm_int h2869)) rfl ?_
     refine WPL.q (q_as (v := .lit (.int _ _)) rfl) rfl ?_
     refine WPL.nilW ?_
     refine W.now ?_
     refine Then.n ?_
     refine WP.seq ?_
     refine WP.region ?_
     refine WPL.q (q_mv (v := .lit (.int _ _)) rfl) rfl ?_
     refine WPL.q (q_mv (v := .ptr _ _) rfl) rfl ?_
     refine WPL.q (q_mv (v := .lit (.int _ _)) rfl) rfl ?_
     refine WPL.q (q_nilCheck rfl) rfl ?_
     refine WPL.q (q_fieldAddr fi82_0 rfl rfl) rfl ?_
     obtain ⟨h2869, H⟩ := grd H
     refine WPL.q (q_indexArr ar80 rfl rfl h2869 rfl) rfl ?_
     refine WPL.q (q_load_arr (f := (fun z : Int => AVal.lit (.int .i64 z))) (d0 := (0 : Int)) (xs := x2523) (n := 16) (off := 0) (j := (Int.toNat x2746)) sc3 rfl rfl rfl (natlt h2869) (addone _ _)) rfl ?_
     obtain ⟨x2871, h2871, H⟩ := bnd H
     refine WPL.q (q_nm (q_add rfl rfl) (nm_int h2871)) rfl ?_
     refine WPL.q (q_as (v := .lit (.int _ _)) rfl) rfl ?_
     refine WPL.nilW ?_
     refine W.now ?_
     refine Then.n ?_
     refine WP.seq ?_
     refine WP.region ?_
     refine WPL.q (q_mv (v := .ptr _ _) rfl) rfl ?_
     refine WPL.q (q_mv (v := .lit (.int _ _)) rfl) rfl ?_
     refine WPL.q (q_mv (v := .lit (.int _ _)) rfl) rfl ?_
     refine WPL.q (q_sub rfl rfl) rfl ?_
     refine WPL.q (q_mv (v := .lit (.int _ _)) rfl) rfl ?_
     refine WPL.q (q_add rfl rfl) rfl ?_
     obtain ⟨x2873, h2871, H⟩ := bnd H
     refine WPL.c (runs_call (s := [0, 2]) (t := [0, 4]) (N := 5) (bor := []) fn48 rfl (s_huff_Decoder_begins k (IntKind.wrap .i64 (x2857 - x2869)) (IntKind.wrap .i64 (x2746 + 1)) x2523 x2526 x2873 h2871) ⟨rfl, ⟨⟨trivial, .inr ⟨rfl, rfl, rfl⟩⟩, .inr ⟨rfl, rfl, rfl⟩⟩, by decide, rfl, trivial⟩ rfl trivial (.ren rfl rfl (.ren rfl rfl (.ren rfl rfl .nil))) rfl ⟨⟨trivial, rfl⟩, rfl⟩ rfl) rfl ?_
     refine WPL.q (q_not rfl) rfl ?_
     refine WPL.nilW ?_
     refine W.now ?_
     refine Then.n ?_
     refine WP.cond (t := (!x2873)) rfl (fun hb2873 => ?_) (fun hb2873 => ?_)
     · replace H := cnt hb2873 H
       refine WP.exitW ?_
       have q0 := Option.some.inj H
       subst q0
       exact W.wk [0, 1, 4, 3] hnp (InBlock.x rfl (Then.x (Then.x ⟨rfl, rfl, rfl⟩))) ⟨rfl, ⟨⟨⟨⟨trivial, .inr ⟨rfl, rfl, rfl⟩⟩, .inr ⟨rfl, rfl, rfl⟩⟩, .inr ⟨rfl, rfl, rfl⟩⟩, .inr ⟨rfl, rfl, rfl⟩⟩, by decide, rfl, ⟨⟨trivial, rfl⟩, rfl⟩⟩ (LeE.upd rfl rfl (LeE.upd rfl rfl (LeE.upd rfl rfl (LeE.none rfl rfl)))) rfl
     replace H := cnf hb2873 H
     refine WP.skipW ?_
     refine W.now ?_
     refine InBlock.n ?_
     refine Then.n ?_
     refine WP.region ?_
     refine WPL.q (q_mv (v := .lit (.int _ _)) rfl) rfl ?_
     refine WPL.q (q_add rfl rfl) rfl ?_
     refine WPL.q (q_as (v := .lit (.int _ _)) rfl) rfl ?_
     refine WPL.nilW ?_
     exact W.wk [0, 1, 4, 3] hnp (Then.n ⟨n, (x2857, x2869, x2871, (IntKind.wrap .i64 (x2746 + 1)), x2853, x2854), Nat.lt_succ_self n, H, rfl, rfl⟩) ⟨rfl, ⟨⟨⟨⟨trivial, .inr ⟨rfl, rfl, rfl⟩⟩, .inr ⟨rfl, rfl, rfl⟩⟩, .inr ⟨rfl, rfl, rfl⟩⟩, .inr ⟨rfl, rfl, rfl⟩⟩, by decide, rfl, ⟨⟨trivial, rfl⟩, rfl⟩⟩ (LeE.upd rfl rfl (LeE.upd rfl rfl (LeE.upd rfl rfl (LeE.upd rfl rfl (LeE.upd rfl rfl (LeE.upd rfl rfl (LeE.upd rfl rfl (LeE.upd rfl rfl (LeE.none rfl rfl))))))))) rfl
   replace H := cnf hb2815 H
   refine WP.exitW ?_
   have q0 := Option.some.inj H
   subst q0
   exact W.wk [0, 1, 2, 3] hnp (Then.x (Then.x ⟨rfl, rfl, rfl⟩)) ⟨rfl, ⟨⟨⟨⟨trivial, .inr ⟨rfl, rfl, rfl⟩⟩, .inr ⟨rfl, rfl, rfl⟩⟩, .inr ⟨rfl, rfl, rfl⟩⟩, .inr ⟨rfl, rfl, rfl⟩⟩, by decide, rfl, ⟨⟨trivial, rfl⟩, rfl⟩⟩ (LeE.upd rfl rfl (LeE.upd rfl rfl (LeE.upd rfl rfl (LeE.none rfl rfl)))) rfl
 rcases y2876 with ⟨x2809, x2810, x2811⟩ | ⟨x2812, x2813, x2814⟩
 · rintro _ _ _ ⟨rfl, rfl, rfl⟩
   refine W.now ?_
   refine InBlock.x0 ?_
   refine Then.n ?_
   refine WP.seq ?_
   refine WP.region ?_
   refine WPL.q (q_mv (v := .ptr _ _) rfl) rfl ?_
   refine WPL.q (q_load_ag ag52 rfl rfl (Nat.le_of_ble_eq_true rfl)) rfl ?_
   refine WPL.q (q_nilCheck rfl) rfl ?_
   refine WPL.s (s_store sz52 rfl rfl rfl rfl rfl) ?_
   refine WPL.nilW ?_
   refine W.now ?_
   refine Then.n ?_
   refine WP.seq ?_
   refine WP.region ?_
   refine WPL.q (q_mv (v := .lit (.int _ _)) rfl) rfl ?_
   refine WPL.q (q_as (v := .lit (.int _ _)) rfl) rfl ?_
   refine WPL.q (q_as (v := .lit (.int _ _)) rfl) rfl ?_
   refine WPL.nilW ?_
   refine W.now ?_
   refine Then.n ?_
   refine WP.retW ?_
   have q0 := (Prod.mk.inj (Option.some.inj H)).1
   have q1 := (Prod.mk.inj (Prod.mk.inj (Option.some.inj H)).2).1
   have q2 := (Prod.mk.inj (Prod.mk.inj (Prod.mk.inj (Option.some.inj H)).2).2).1
   have q3 := (Prod.mk.inj (Prod.mk.inj (Prod.mk.inj (Option.some.inj H)).2).2).2
   subst q0
   subst q1
   subst q2
   subst q3
   exact W.now (Scope.r (BodyR.mkR trivial rfl [0, 1, 2] ⟨rfl, rfl⟩ ⟨rfl, ⟨⟨⟨trivial, .inr ⟨rfl, rfl, rfl⟩⟩, .inr ⟨rfl, rfl, rfl⟩⟩, .inr ⟨rfl, rfl, rfl⟩⟩, by decide, rfl, ⟨⟨trivial, rfl⟩, rfl⟩⟩ rfl rfl))
 rintro _ _ _ ⟨rfl, rfl, rfl⟩
 have q0 := (Prod.mk.inj (Option.some.inj H)).1
 have q1 := (Prod.mk.inj (Prod.mk.inj (Option.some.inj H)).2).1
 have q2 := (Prod.mk.inj (Prod.mk.inj (Prod.mk.inj (Option.some.inj H)).2).2).1
 have q3 := (Prod.mk.inj (Prod.mk.inj (Prod.mk.inj (Option.some.inj H)).2).2).2
 subst q0
 subst q1
 subst q2
 subst q3
 exact W.now (InBlock.r (Then.r (Scope.r (BodyR.mkR trivial rfl [0, 1, 2] ⟨rfl, rfl⟩ ⟨rfl, ⟨⟨⟨trivial, .inr ⟨rfl, rfl, rfl⟩⟩, .inr ⟨rfl, rfl, rfl⟩⟩, .inr ⟨rfl, rfl, rfl⟩⟩, by decide, rfl, ⟨⟨trivial, rfl⟩, rfl⟩⟩ rfl rfl))))
set_option maxRecDepth 100000 in
set_option maxHeartbeats 4000000 in
theorem s_inflate_stream_sym (k : Nat) (x2516 : Int) (x2517 : (List Int)) (x2518 : Int) (x2519 : (List Int)) (x2520 : (List Int)) (x2521 : (List Int)) (r : (Int ⊕ (Int × (List Int) × Int))) (H : g_inflate_stream_sym k x2516 x2517 x2518 x2519 x2520 x2521 = some r) : Go.Q.Spec Try.prog 36 3 [.ptr 0 0, .ptr 2 0] (((((Mem.nil.push (.cells 45 [.ptr 1 0, .whole 3, .lit (.int .i64 x2516)])).push (.cells 52 [.ro (Rd.slice (Rd.int .u8)) false x2517, .lit (.int .i64 x2518)])).push (.cells 82 [.lit (.int .i64 (List.getD x2519 0 (0 : Int))), .lit (.int .i64 (List.getD x2519 1 (0 : Int))), .lit (.int .i64 (List.getD x2519 2 (0 : Int))), .lit (.int .i64 (List.getD x2519 3 (0 : Int))), .lit (.int .i64 (List.getD x2519 4 (0 : Int))), .lit (.int .i64 (List.getD x2519 5 (0 : Int))), .lit (.int .i64 (List.getD x2519 6 (0 : Int))), .lit (.int .i64 (List.getD x2519 7 (0 : Int))), .lit (.int .i64 (List.getD x2519 8 (0 : Int))), .lit (.int .i64 (List.getD x2519 9 (0 : Int))), .lit (.int .i64 (List.getD x2519 10 (0 : Int))), .lit (.int .i64 (List.getD x2519 11 (0 : Int))), .lit (.int .i64 (List.getD x2519 12 (0 : Int))), .lit (.int .i64 (List.getD x2519 13 (0 : Int))), .lit (.int .i64 (List.getD x2519 14 (0 : Int))), .lit (.int .i64 (List.getD x2519 15 (0 : Int))), .whole 4])).push (.row 5 (Rd.int .u8) x2520)).push (.row 3 (Rd.int .i64) x2521)) (fun o M => match (generalizing := false) r with | (Sum.inl x2884) => o = .pan (.ifc 46 (.lit (.int .i64 x2884))) ∧ M = (((Mem.nil.push (.gone)).push (.gone)).push (.gone)) | (Sum.inr (x2885, x2886, x2887)) => o = .ret (.lit (.int .i64 x2885)) ∧ M = (((((Mem.nil.push (.cells 45 [.ptr 1 0, .whole 3, .lit (.int .i64 x2516)])).push (.cells 52 [.ro (Rd.slice (Rd.int .u8)) false x2886, .lit (.int .i64 x2887)])).push (.cells 82 [.lit (.int .i64 (List.getD x2519 0 (0 : Int))), .lit (.int .i64 (List.getD x2519 1 (0 : Int))), .lit (.int .i64 (List.getD x2519 2 (0 : Int))), .lit (.int .i64 (List.getD x2519 3 (0 : Int))), .lit (.int .i64 (List.getD x2519 4 (0 : Int))), .lit (.int .i64 (List.getD x2519 5 (0 : Int))), .lit (.int .i64 (List.getD x2519 6 (0 : Int))), .lit (.int .i64 (List.getD x2519 7 (0 : Int))), .lit (.int .i64 (List.getD x2519 8 (0 : Int))), .lit (.int .i64 (List.getD x2519 9 (0 : Int))), .lit (.int .i64 (List.getD x2519 10 (0 : Int))), .lit (.int .i64 (List.getD x2519 11 (0 : Int))), .lit (.int .i64 (List.getD x2519 12 (0 : Int))), .lit (.int .i64 (List.getD x2519 13 (0 : Int))), .lit (.int .i64 (List.getD x2519 14 (0 : Int))), .lit (.int .i64 (List.getD x2519 15 (0 : Int))), .whole 4])).push (.row 5 (Rd.int .u8) x2520)).push (.row 3 (Rd.int .i64) x2521))) := by
 unfold g_inflate_stream_sym at H
 refine Go.Q.Spec.of_bodyR (az := []) (rs := [.tmp 4]) (nt := 19) Try.func36 rfl rfl (by intro t T h; simp at h) rfl rfl fun cx hnp => ?_
 refine WP.seq ?_
 refine WP.region ?_
 refine WPL.q (q_as (v := .lit (.int _ _)) rfl) rfl ?_
 refine WPL.nilW ?_
 refine W.now ?_
 refine Then.n ?_
 refine WP.seq ?_
 refine WP.region ?_
 refine WPL.q (q_mv (v := .ptr _ _) rfl) rfl ?_
 refine WPL.q (q_mv (v := .ptr _ _) rfl) rfl ?_
 refine WPL.q (q_nilCheck rfl) rfl ?_
 refine WPL.q (q_fieldAddr fi45_0 rfl rfl) rfl ?_
 refine WPL.q (q_load sc42 rfl rfl rfl) rfl ?_
 obtain ⟨⟨x2889, x2890, x2891, x2892⟩, h2887, H⟩ := bnd H
 refine WPL.c (runs_call (s := [2, 1, 4]) (t := [2, 1, 5]) (N := 6) (bor := []) fn43 rfl (s_huff_Decoder_Next k x2519 x2517 x2518 x2521 x2889 x2890 x2891 x2892 h2887) ⟨rfl, ⟨⟨⟨trivial, .inr ⟨rfl, rfl, rfl⟩⟩, .inr ⟨rfl, rfl, rfl⟩⟩, .inr ⟨rfl, rfl, rfl⟩⟩, by decide, rfl, trivial⟩ rfl trivial (.ren rfl rfl (.ren rfl rfl .nil)) rfl ⟨⟨⟨trivial, rfl⟩, rfl⟩, rfl⟩ rfl) rfl ?_
 refine WPL.q (q_mv (v := .tup _) rfl) rfl ?_
 refine WPL.q (q_extract rfl rfl) rfl ?_
 refine WPL.q (q_extract rfl rfl) rfl ?_
 refine WPL.q (q_as (v := .lit (.int _ _)) rfl) rfl ?_
 refine WPL.q (q_as (v := .lit (.int _ _)) rfl) rfl ?_
 refine WPL.nilW ?_
 refine W.now ?_
 refine Then.n ?_
 refine WP.seq ?_
 refine WP.region ?_
 refine WPL.q (q_mv (v := .lit (.int _ _)) rfl) rfl ?_
 obtain ⟨y2894, h2892, H⟩ := bnd H
 rcases y2894 with _ | _
 · refine WPL.pW (runs_callP (s := []) (t := []) (N := 6) (bor := []) fn31 rfl (s_inflate_must k x2890 (Sum.inl ()) h2892) ⟨rfl, trivial, by decide, rfl, trivial⟩ rfl trivial (.ren rfl rfl .nil) rfl trivial rfl) ?_
   have q0 := Option.some.inj H
   subst q0
   exact W.now (Then.p (BodyR.mkP trivial [0, 1, 2] ⟨rfl, rfl⟩ ⟨rfl, ⟨⟨⟨trivial, .inl rfl⟩, .inl rfl⟩, .inl rfl⟩, by decide, rfl, ⟨⟨⟨trivial, rfl⟩, rfl⟩, rfl⟩⟩ rfl rfl))
 refine WPL.c (runs_call (s := []) (t := []) (N := 6) (bor := []) fn31 rfl (s_inflate_must k x2890 (Sum.inr ()) h2892) ⟨rfl, trivial, by decide, rfl, trivial⟩ rfl trivial (.ren rfl rfl .nil) rfl trivial rfl) rfl ?_
 refine WPL.nilW ?_
 refine W.now ?_
 refine Then.n ?_
 refine WP.seq ?_
 refine WP.region ?_
 refine WPL.q (q_mv (v := .lit (.int _ _)) rfl) rfl ?_
 refine WPL.q (q_as (v := .lit (.int _ _)) rfl) rfl ?_
 refine WPL.nilW ?_
 refine W.now ?_
 refine Then.n ?_
 refine WP.retW ?_
 have q0 := Option.some.inj H
 subst q0
 exact W.now (BodyR.mkR trivial rfl [0, 1, 2, 3, 5] ⟨rfl, rfl⟩ ⟨rfl, ⟨⟨⟨⟨⟨trivial, .inr ⟨rfl, rfl, rfl⟩⟩, .inr ⟨rfl, rfl, rfl⟩⟩, .inr ⟨rfl, rfl, rfl⟩⟩, .inr ⟨rfl, rfl, rfl⟩⟩, .inr ⟨rfl, rfl, rfl⟩⟩, by decide, rfl, ⟨⟨⟨trivial, rfl⟩, rfl⟩, rfl⟩⟩ rfl rfl)
set_option maxRecDepth 100000 in
set_option maxHeartbeats 4000000 in
theorem s_inflate_stream_copied (k : Nat) (x2906 : Int) (x2907 : Int) (x2908 : (List Int)) (x2909 : Int) (x2910 : (List Int)) (x2911 : (List Int)) (x2912 : (List Int)) (r : (Int ⊕ ((List Int) × Int × (List Int)))) (H : g_inflate_stream_copied k x2906 x2907 x2908 x2909 x2910 x2911 x2912 = some r) : Go.Q.Spec Try.prog 37 3 [.ptr 0 0, .lit (.int .i64 x2906), .ptr 2 0] (((((Mem.nil.push (.cells 45 [.ptr 1 0, .whole 3, .lit (.int .i64 x2907)])).push (.cells 52 [.ro (Rd.slice (Rd.int .u8)) false x2908, .lit (.int .i64 x2909)])).push (.cells 82 [.lit (.int .i64 (List.getD x2910 0 (0 : Int))), .lit (.int .i64 (List.getD x2910 1 (0 : Int))), .lit (.int .i64 (List.getD x2910 2 (0 : Int))), .lit (.int .i64 (List.getD x2910 3 (0 : Int))), .lit (.int .i64 (List.getD x2910 4 (0 : Int))), .lit (.int .i64 (List.getD x2910 5 (0 : Int))), .lit (.int .i64 (List.getD x2910 6 (0 : Int))), .lit (.int .i64 (List.getD x2910 7 (0 : Int))), .lit (.int .i64 (List.getD x2910 8 (0 : Int))), .lit (.int .i64 (List.getD x2910 9 (0 : Int))), .lit (.int .i64 (List.getD x2910 10 (0 : Int))), .lit (.int .i64 (List.getD x2910 11 (0 : Int))), .lit (.int .i64 (List.getD x2910 12 (0 : Int))), .lit (.int .i64 (List.getD x2910 13 (0 : Int))), .lit (.int .i64 (List.getD x2910 14 (0 : Int))), .lit (.int .i64 (List.getD x2910 15 (0 : Int))), .whole 4])).push (.row 5 (Rd.int .u8) x2911)).push (.row 3 (Rd.int .i64) x2912)) (fun o M => match (generalizing := false) r with | (Sum.inl x2981) => o = .pan (.ifc 46 (.lit (.int .i64 x2981))) ∧ M = (((Mem.nil.push (.gone)).push (.gone)).push (.gone)) | (Sum.inr (x2982, x2983, x2984)) => o = .ret (.tup []) ∧ M = (((((Mem.nil.push (.cells 45 [.ptr 1 0, .whole 3, .lit (.int .i64 x2907)])).push (.cells 52 [.ro (Rd.slice (Rd.int .u8)) false x2982, .lit (.int .i64 x2983)])).push (.cells 82 [.lit (.int .i64 (List.getD x2910 0 (0 : Int))), .lit (.int .i64 (List.getD x2910 1 (0 : Int))), .lit (.int .i64 (List.getD x2910 2 (0 : Int))), .lit (.int .i64 (List.getD x2910 3 (0 : Int))), .lit (.int .i64 (List.getD x2910 4 (0 : Int))), .lit (.int .i64 (List.getD x2910 5 (0 : Int))), .lit (.int .i64 (List.getD x2910 6 (0 : Int))), .lit (.int .i64 (List.getD x2910 7 (0 : Int))), .lit (.int .i64 (List.getD x2910 8 (0 : Int))), .lit (.int .i64 (List.getD x2910 9 (0 : Int))), .lit (.int .i64 (List.getD x2910 10 (0 : Int))), .lit (.int .i64 (List.getD x2910 11 (0 : Int))), .lit (.int .i64 (List.getD x2910 12 (0 : Int))), .lit (.int .i64 (List.getD x2910 13 (0 : Int))), .lit (.int .i64 (List.getD x2910 14 (0 : Int))), .lit (.int .i64 (List.getD x2910 15 (0 : Int))), .whole 4])).push (.row 5 (Rd.int .u8) x2984)).push (.row 3 (Rd.int .i64) x2912))) := by
 unfold g_inflate_stream_copied at H
 refine Go.Q.Spec.of_bodyR (az := []) (rs := []) (nt := 76) Try.func37 rfl rfl (by intro t T h; simp at h) rfl rfl fun cx hnp => ?_
 refine WP.seq ?_
 refine WP.region ?_
 refine WPL.q (q_mv (v := .lit (.int _ _)) rfl) rfl ?_
 obtain ⟨⟨x2986, x2987, x2988⟩, h2984, H⟩ := bnd H
 refine WPL.c (runs_call (s := []) (t := []) (N := 5) (bor := []) fn6 rfl (s_inflate_Lit k x2906 x2986 x2987 x2988 h2984) ⟨rfl, trivial, by decide, rfl, trivial⟩ rfl trivial (.ren rfl rfl .nil) rfl trivial rfl) rfl ?_
 refine WPL.q (q_mv (v := .tup _) rfl) rfl ?_
 refine WPL.q (q_extract rfl rfl) rfl ?_
 refine WPL.q (q_extract rfl rfl) rfl ?_
 refine WPL.q (q_extract rfl rfl) rfl ?_
 refine WPL.q (q_as (v := .lit (.int _ _)) rfl) rfl ?_
 refine WPL.q (q_as (v := .lit (.int _ _)) rfl) rfl ?_
 refine WPL.q (q_as (v := .lit (.bool _)) rfl) rfl ?_
 refine WPL.nilW ?_
 refine W.now ?_
 refine Then.n ?_
 refine WP.seq ?_
 refine WP.region ?_
 refine WPL.q (q_mv (v := .lit (.bool _)) rfl) rfl ?_
 obtain ⟨y2990, h2988, H⟩ := bnd H
 rcases y2990 with _ | _
 · refine WPL.pW (runs_callP (s := []) (t := []) (N := 5) (bor := []) fn34 rfl (s_inflate_ask k x2988 12 (Sum.inl ()) h2988) ⟨rfl, trivial, by decide, rfl, trivial⟩ rfl trivial (.ren rfl rfl (.ren rfl rfl .nil)) rfl trivial rfl) ?_
   have q0 := Option.some.inj H
   subst q0
   exact W.now (Then.p (BodyR.mkP trivial [0, 1, 2] ⟨rfl, rfl⟩ ⟨rfl, ⟨⟨⟨trivial, .inl rfl⟩, .inl rfl⟩, .inl rfl⟩, by decide, rfl, ⟨⟨⟨trivial, rfl⟩, rfl⟩, rfl⟩⟩ rfl rfl))
 refine WPL.c (runs_call (s := []) (t := []) (N := 5) (bor := []) fn34 rfl (s_inflate_ask k x2988 12 (Sum.inr ()) h2988) ⟨rfl, trivial, by decide, rfl, trivial⟩ rfl trivial (.ren rfl rfl (.ren rfl rfl .nil)) rfl trivial rfl) rfl ?_
 refine WPL.nilW ?_
 refine W.now ?_
 refine Then.n ?_
 refine WP.seq ?_
 refine WP.region ?_
 refine WPL.q (q_mv (v := .lit (.int _ _)) rfl) rfl ?_
 refine WPL.q (q_mv (v := .ptr _ _) rfl) rfl ?_
 refine WPL.q (q_mv (v := .lit (.int _ _)) rfl) rfl ?_
 obtain ⟨y2996, h2990, H⟩ := bnd H
 rcases y2996 with x2992 | ⟨x2993, x2994, x2995⟩
 · refine WPL.pW (runs_callP (s := [0, 1, 3]) (t := [0, 1]) (N := 5) (bor := []) fn26 rfl (s_inflate_stream_take k x2987 x2907 x2908 x2909 x2911 (Sum.inl x2992) h2990) ⟨rfl, ⟨⟨⟨trivial, .inr ⟨rfl, rfl, rfl⟩⟩, .inr ⟨rfl, rfl, rfl⟩⟩, .inr ⟨rfl, rfl, rfl⟩⟩, by decide, rfl, trivial⟩ rfl trivial (.ren rfl rfl (.ren rfl rfl .nil)) rfl ⟨⟨trivial, rfl⟩, rfl⟩ rfl) ?_
   have q0 := Option.some.inj H
   subst q0
   exact W.now (Then.p (BodyR.mkP trivial [0, 1, 2] ⟨rfl, rfl⟩ ⟨rfl, ⟨⟨⟨trivial, .inl rfl⟩, .inl rfl⟩, .inl rfl⟩, by decide, rfl, ⟨⟨⟨trivial, rfl⟩, rfl⟩, rfl⟩⟩ rfl rfl))
 refine WPL.c (runs_call (s := [0, 1, 3]) (t := [0, 1, 5]) (N := 6) (bor := []) fn26 rfl (s_inflate_stream_take k x2987 x2907 x2908 x2909 x2911 (Sum.inr (x2993, x2994, x2995)) h2990) ⟨rfl, ⟨⟨⟨trivial, .inr ⟨rfl, rfl, rfl⟩⟩, .inr ⟨rfl, rfl, rfl⟩⟩, .inr ⟨rfl, rfl, rfl⟩⟩, by decide, rfl, trivial⟩ rfl trivial (.ren rfl rfl (.ren rfl rfl .nil)) rfl ⟨⟨⟨trivial, rfl⟩, rfl⟩, rfl⟩ rfl) rfl ?_
 refine WPL.q (q_add rfl rfl) rfl ?_
 refine WPL.q (q_as (v := .lit (.int _ _)) rfl) rfl ?_
 refine WPL.nilW ?_
 refine W.now ?_
 refine Then.n ?_
 refine WP.seq ?_
 refine WP.region ?_
 refine WPL.q (q_mv (v := .ptr _ _) rfl) rfl ?_
 refine WPL.q (q_mv (v := .ptr _ _) rfl) rfl ?_
 obtain ⟨y3002, h2996, H⟩ := bnd H
 rcases y3002 with x2998 | ⟨x2999, x3000, x3001⟩
 · refine WPL.pW (runs_callP (s := [0, 1, 2, 5, 4]) (t := [0, 1, 2]) (N := 6) (bor := []) fn36 rfl (s_inflate_stream_sym k x2907 x2994 x2995 x2910 x2911 x2912 (Sum.inl x2998) h2996) ⟨rfl, ⟨⟨⟨⟨⟨trivial, .inr ⟨rfl, rfl, rfl⟩⟩, .inr ⟨rfl, rfl, rfl⟩⟩, .inr ⟨rfl, rfl, rfl⟩⟩, .inr ⟨rfl, rfl, rfl⟩⟩, .inr ⟨rfl, rfl, rfl⟩⟩, by decide, rfl, trivial⟩ rfl trivial (.ren rfl rfl (.ren rfl rfl .nil)) rfl ⟨⟨⟨trivial, rfl⟩, rfl⟩, rfl⟩ rfl) ?_
   have q0 := Option.some.inj H
   subst q0
   exact W.now (Then.p (BodyR.mkP trivial [0, 1, 2] ⟨rfl, rfl⟩ ⟨rfl, ⟨⟨⟨trivial, .inl rfl⟩, .inl rfl⟩, .inl rfl⟩, by decide, rfl, ⟨⟨⟨trivial, rfl⟩, rfl⟩, rfl⟩⟩ rfl rfl))
 refine WPL.c (runs_call (s := [0, 1, 2, 5, 4]) (t := [0, 1, 2, 6, 7]) (N := 8) (bor := []) fn36 rfl (s_inflate_stream_sym k x2907 x2994 x2995 x2910 x2911 x2912 (Sum.inr (x2999, x3000, x3001)) h2996) ⟨rfl, ⟨⟨⟨⟨⟨trivial, .inr ⟨rfl, rfl, rfl⟩⟩, .inr ⟨rfl, rfl, rfl⟩⟩, .inr ⟨rfl, rfl, rfl⟩⟩, .inr ⟨rfl, rfl, rfl⟩⟩, .inr ⟨rfl, rfl, rfl⟩⟩, by decide, rfl, trivial⟩ rfl trivial (.ren rfl rfl (.ren rfl rfl .nil)) rfl ⟨⟨⟨⟨⟨trivial, rfl⟩, rfl⟩, rfl⟩, rfl⟩, rfl⟩ rfl) rfl ?_
 obtain ⟨⟨x3004, x3005, x3006⟩, h3002, H⟩ := bnd H
 refine WPL.c (runs_call (s := []) (t := []) (N := 8) (bor := []) fn8 rfl (s_inflate_Dist k x2999 x3004 x3005 x3006 h3002) ⟨rfl, trivial, by decide, rfl, trivial⟩ rfl trivial (.ren rfl rfl .nil) rfl trivial rfl) rfl ?_
 refine WPL.q (q_mv (v := .tup _) rfl) rfl ?_
 refine WPL.q (q_extract rfl rfl) rfl ?_
 refine WPL.q (q_extract rfl rfl) rfl ?_
 refine WPL.q (q_extract rfl rfl) rfl ?_
 refine WPL.q (q_as (v := .lit (.int _ _)) rfl) rfl ?_
 refine WPL.q (q_as (v := .lit (.int _ _)) rfl) rfl ?_
 refine WPL.q (q_as (v := .lit (.bool _)) rfl) rfl ?_
 refine WPL.nilW ?_
 refine W.now ?_
 refine Then.n ?_
 refine WP.seq ?_
 refine WP.region ?_
 refine WPL.q (q_mv (v := .lit (.bool _)) rfl) rfl ?_
 obtain ⟨y3008, h3006, H⟩ := bnd H
 rcases y3008 with _ | _
 · refine WPL.pW (runs_callP (s := []) (t := []) (N := 8) (bor := []) fn34 rfl (s_inflate_ask k x3006 12 (Sum.inl ()) h3006) ⟨rfl, trivial, by decide, rfl, trivial⟩ rfl trivial (.ren rfl rfl (.ren rfl rfl .nil)) rfl trivial rfl) ?_
   have q0 := Option.some.inj H
   subst q0
   exact W.now (Then.p (BodyR.mkP trivial [0, 1, 2] ⟨rfl, rfl⟩ ⟨rfl, ⟨⟨⟨trivial, .inl rfl⟩, .inl rfl⟩, .inl rfl⟩, by decide, rfl, ⟨⟨⟨trivial, rfl⟩, rfl⟩, rfl⟩⟩ rfl rfl))
 refine WPL.c (runs_call (s := []) (t := []) (N := 8) (bor := []) fn34 rfl (s_inflate_ask k x3006 12 (Sum.inr ()) h3006) ⟨rfl, trivial, by decide, rfl, trivial⟩ rfl trivial (.ren rfl rfl (.ren rfl rfl .nil)) rfl trivial rfl) rfl ?_
 refine WPL.nilW ?_
 refine W.now ?_
 refine Then.n ?_
 refine WP.seq ?_
 refine WP.region ?_
 refine WPL.q (q_mv (v := .lit (.int _ _)) rfl) rfl ?_
 refine WPL.q (q_mv (v := .ptr _ _) rfl) rfl ?_
 refine WPL.q (q_mv (v := .lit (.int _ _)) rfl) rfl ?_
 obtain ⟨y3014, h3008, H⟩ := bnd H
 rcases y3014 with x3010 | ⟨x3011, x3012, x3013⟩
 · refine WPL.pW (runs_callP (s := [0, 1, 6]) (t := [0, 1]) (N := 8) (bor := []) fn26 rfl (s_inflate_stream_take k x3005 x2907 x3000 x3001 x2911 (Sum.inl x3010) h3008) ⟨rfl, ⟨⟨⟨trivial, .inr ⟨rfl, rfl, rfl⟩⟩, .inr ⟨rfl, rfl, rfl⟩⟩, .inr ⟨rfl, rfl, rfl⟩⟩, by decide, rfl, trivial⟩ rfl trivial (.ren rfl rfl (.ren rfl rfl .nil)) rfl ⟨⟨trivial, rfl⟩, rfl⟩ rfl) ?_
   have q0 := Option.some.inj H
   subst q0
   exact W.now (Then.p (BodyR.mkP trivial [0, 1, 2] ⟨rfl, rfl⟩ ⟨rfl, ⟨⟨⟨trivial, .inl rfl⟩, .inl rfl⟩, .inl rfl⟩, by decide, rfl, ⟨⟨⟨trivial, rfl⟩, rfl⟩, rfl⟩⟩ rfl rfl))
 refine WPL.c (runs_call (s := [0, 1, 6]) (t := [0, 1, 8]) (N := 9) (bor := []) fn26 rfl (s_inflate_stream_take k x3005 x2907 x3000 x3001 x2911 (Sum.inr (x3011, x3012, x3013)) h3008) ⟨rfl, ⟨⟨⟨trivial, .inr ⟨rfl, rfl, rfl⟩⟩, .inr ⟨rfl, rfl, rfl⟩⟩, .inr ⟨rfl, rfl, rfl⟩⟩, by decide, rfl, trivial⟩ rfl trivial (.ren rfl rfl (.ren rfl rfl .nil)) rfl ⟨⟨⟨trivial, rfl⟩, rfl⟩, rfl⟩ rfl) rfl ?_
 refine WPL.q (q_add rfl rfl) rfl ?_
 refine WPL.q (q_as (v := .lit (.int _ _)) rfl) rfl ?_
 refine WPL.nilW ?_
 refine W.now ?_
 refine Then.n ?_
 refine WP.seq ?_
 refine WP.region ?_
 refine WPL.q (q_mv (v := .lit (.int _ _)) rfl) rfl ?_
 refine WPL.q (q_mv (v := .ptr _ _) rfl) rfl ?_
 refine WPL.q (q_nilCheck rfl) rfl ?_
 refine WPL.q (q_fieldAddr fi45_1 rfl rfl) rfl ?_
 refine WPL.q (q_load sc29 rfl rfl rfl) rfl ?_
 refine WPL.q (q_len_row sl29 rfl rfl) rfl ?_
 obtain ⟨x3015, h3015, H⟩ := bnd H
 refine WPL.q (q_nm (q_leq rfl rfl) (nm_bool h3015)) rfl ?_
 obtain ⟨y3017, h3015, H⟩ := bnd H
 rcases y3017 with _ | _
 · refine WPL.pW (runs_callP (s := []) (t := []) (N := 9) (bor := []) fn34 rfl (s_inflate_ask k x3015 12 (Sum.inl ()) h3015) ⟨rfl, trivial, by decide, rfl, trivial⟩ rfl trivial (.ren rfl rfl (.ren rfl rfl .nil)) rfl trivial rfl) ?_
   have q0 := Option.some.inj H
   subst q0
   exact W.now (Then.p (BodyR.mkP trivial [0, 1, 2] ⟨rfl, rfl⟩ ⟨rfl, ⟨⟨⟨trivial, .inl rfl⟩, .inl rfl⟩, .inl rfl⟩, by decide, rfl, ⟨⟨⟨trivial, rfl⟩, rfl⟩, rfl⟩⟩ rfl rfl))
 refine WPL.c (runs_call (s := []) (t := []) (N := 9) (bor := []) fn34 rfl (s_inflate_ask k x3015 12 (Sum.inr ()) h3015) ⟨rfl, trivial, by decide, rfl, trivial⟩ rfl trivial (.ren rfl rfl (.ren rfl rfl .nil)) rfl trivial rfl) rfl ?_
 refine WPL.nilW ?_
 refine W.now ?_
 refine Then.n ?_
 refine WP.seq ?_
 refine WP.region ?_
 refine WPL.q (q_mv (v := .ptr _ _) rfl) rfl ?_
 refine WPL.q (q_mv (v := .lit (.int _ _)) rfl) rfl ?_
 obtain ⟨y3019, h3017, H⟩ := bnd H
 rcases y3019 with _ | _
 · refine WPL.pW (runs_callP (s := [0, 1, 8]) (t := [0, 1]) (N := 9) (bor := []) fn35 rfl (s_inflate_stream_room k (IntKind.wrap .i64 (x2986 + x2993)) x2907 x3012 x3013 x2911 (Sum.inl ()) h3017) ⟨rfl, ⟨⟨⟨trivial, .inr ⟨rfl, rfl, rfl⟩⟩, .inr ⟨rfl, rfl, rfl⟩⟩, .inr ⟨rfl, rfl, rfl⟩⟩, by decide, rfl, trivial⟩ rfl trivial (.ren rfl rfl (.ren rfl rfl .nil)) rfl ⟨⟨trivial, rfl⟩, rfl⟩ rfl) ?_
   have q0 := Option.some.inj H
   subst q0
   exact W.now (Then.p (BodyR.mkP trivial [0, 1, 2] ⟨rfl, rfl⟩ ⟨rfl, ⟨⟨⟨trivial, .inl rfl⟩, .inl rfl⟩, .inl rfl⟩, by decide, rfl, ⟨⟨⟨trivial, rfl⟩, rfl⟩, rfl⟩⟩ rfl rfl))
 refine WPL.c (runs_call (s := [0, 1, 8]) (t := [0, 1, 9]) (N := 10) (bor := []) fn35 rfl (s_inflate_stream_room k (IntKind.wrap .i64 (x2986 + x2993)) x2907 x3012 x3013 x2911 (Sum.inr ()) h3017) ⟨rfl, ⟨⟨⟨trivial, .inr ⟨rfl, rfl, rfl⟩⟩, .inr ⟨rfl, rfl, rfl⟩⟩, .inr ⟨rfl, rfl, rfl⟩⟩, by decide, rfl, trivial⟩ rfl trivial (.ren rfl rfl (.ren rfl rfl .nil)) rfl ⟨⟨⟨trivial, rfl⟩, rfl⟩, rfl⟩ rfl) rfl ?_
 refine WPL.nilW ?_
 refine W.now ?_
 refine Then.n ?_
 refine WP.seq ?_
 refine WP.region ?_
 refine WPL.q (q_mv (v := .lit (.int _ _)) rfl) rfl ?_
 refine WPL.q (q_mv (v := .lit (.int _ _)) rfl) rfl ?_
 refine WPL.nilW ?_
 refine W.now ?_
 refine Then.n ?_
 refine WP.block ?_
 refine WP.cv (Cv.weak (E' := ((((Env.none.upd 0 (.ptr 0 0)).upd 10 (.lit (.int .i64 (IntKind.wrap .i64 (x3004 + x3011))))).upd 50 (.lit (.int .i64 (IntKind.wrap .i64 (x2986 + x2993))))).upd 51 (.lit (.int .i64 0)))) (M' := (((((Mem.nil.push (.cells 45 [.ptr 1 0, .whole 3, .lit (.int .i64 x2907)])).push (.cells 52 [.ro (Rd.slice (Rd.int .u8)) false x3012, .lit (.int .i64 x3013)])).push (.cells 82 [.lit (.int .i64 (List.getD x2910 0 (0 : Int))), .lit (.int .i64 (List.getD x2910 1 (0 : Int))), .lit (.int .i64 (List.getD x2910 2 (0 : Int))), .lit (.int .i64 (List.getD x2910 3 (0 : Int))), .lit (.int .i64 (List.getD x2910 4 (0 : Int))), .lit (.int .i64 (List.getD x2910 5 (0 : Int))), .lit (.int .i64 (List.getD x2910 6 (0 : Int))), .lit (.int .i64 (List.getD x2910 7 (0 : Int))), .lit (.int .i64 (List.getD x2910 8 (0 : Int))), .lit (.int .i64 (List.getD x2910 9 (0 : Int))), .lit (.int .i64 (List.getD x2910 10 (0 : Int))), .lit (.int .i64 (List.getD x2910 11 (0 : Int))), .lit (.int .i64 (List.getD x2910 12 (0 : Int))), .lit (.int .i64 (List.getD x2910 13 (0 : Int))), .lit (.int .i64 (List.getD x2910 14 (0 : Int))), .lit (.int .i64 (List.getD x2910 15 (0 : Int))), .whole 4])).push (.row 5 (Rd.int .u8) x2911)).push (.row 3 (Rd.int .i64) x2912))) [0, 1, 2, 9, 7] hnp ⟨rfl, ⟨⟨⟨⟨⟨trivial, .inr ⟨rfl, rfl, rfl⟩⟩, .inr ⟨rfl, rfl, rfl⟩⟩, .inr ⟨rfl, rfl, rfl⟩⟩, .inr ⟨rfl, rfl, rfl⟩⟩, .inr ⟨rfl, rfl, rfl⟩⟩, by decide, rfl, ⟨⟨⟨trivial, rfl⟩, rfl⟩, rfl⟩⟩ (LeE.upd rfl rfl (LeE.upd rfl rfl (LeE.upd rfl rfl (LeE.upd rfl rfl (LeE.none rfl rfl)))))) ?_
 obtain ⟨x3050, H3064, H⟩ := bnd H
 refine WP.monoW (Q := fun x E M => x = .exit 0 ∧ E = Env.none ∧ M = (((((Mem.nil.push (.cells 45 [.ptr 1 0, .whole 3, .lit (.int .i64 x2907)])).push (.cells 52 [.ro (Rd.slice (Rd.int .u8)) false x3012, .lit (.int .i64 x3013)])).push (.cells 82 [.lit (.int .i64 (List.getD x2910 0 (0 : Int))), .lit (.int .i64 (List.getD x2910 1 (0 : Int))), .lit (.int .i64 (List.getD x2910 2 (0 : Int))), .lit (.int .i64 (List.getD x2910 3 (0 : Int))), .lit (.int .i64 (List.getD x2910 4 (0 : Int))), .lit (.int .i64 (List.getD x2910 5 (0 : Int))), .lit (.int .i64 (List.getD x2910 6 (0 : Int))), .lit (.int .i64 (List.getD x2910 7 (0 : Int))), .lit (.int .i64 (List.getD x2910 8 (0 : Int))), .lit (.int .i64 (List.getD x2910 9 (0 : Int))), .lit (.int .i64 (List.getD x2910 10 (0 : Int))), .lit (.int .i64 (List.getD x2910 11 (0 : Int))), .lit (.int .i64 (List.getD x2910 12 (0 : Int))), .lit (.int .i64 (List.getD x2910 13 (0 : Int))), .lit (.int .i64 (List.getD x2910 14 (0 : Int))), .lit (.int .i64 (List.getD x2910 15 (0 : Int))), .whole 4])).push (.row 5 (Rd.int .u8) x3050)).push (.row 3 (Rd.int .i64) x2912))) ?_ ?_
 · refine WP.loop (β := Int × (List Int)) (fun n b => g_inflate_stream_copied_l0 k x2986 x2993 x3004 x3011 n b.1 b.2 = some x3050) (fun b => ((((Env.none.upd 0 (.ptr 0 0)).upd 10 (.lit (.int .i64 (IntKind.wrap .i64 (x3004 + x3011))))).upd 50 (.lit (.int .i64 (IntKind.wrap .i64 (x2986 + x2993))))).upd 51 (.lit (.int .i64 b.1)))) (fun b => (((((Mem.nil.push (.cells 45 [.ptr 1 0, .whole 3, .lit (.int .i64 x2907)])).push (.cells 52 [.ro (Rd.slice (Rd.int .u8)) false x3012, .lit (.int .i64 x3013)])).push (.cells 82 [.lit (.int .i64 (List.getD x2910 0 (0 : Int))), .lit (.int .i64 (List.getD x2910 1 (0 : Int))), .lit (.int .i64 (List.getD x2910 2 (0 : Int))), .lit (.int .i64 (List.getD x2910 3 (0 : Int))), .lit (.int .i64 (List.getD x2910 4 (0 : Int))), .lit (.int .i64 (List.getD x2910 5 (0 : Int))), .lit (.int .i64 (List.getD x2910 6 (0 : Int))), .lit (.int .i64 (List.getD x2910 7 (0 : Int))), .lit (.int .i64 (List.getD x2910 8 (0 : Int))), .lit (.int .i64 (List.getD x2910 9 (0 : Int))), .lit (.int .i64 (List.getD x2910 10 (0 : Int))), .lit (.int .i64 (List.getD x2910 11 (0 : Int))), .lit (.int .i64 (List.getD x2910 12 (0 : Int))), .lit (.int .i64 (List.getD x2910 13 (0 : Int))), .lit (.int .i64 (List.getD x2910 14 (0 : Int))), .lit (.int .i64 (List.getD x2910 15 (0 : Int))), .whole 4])).push (.row 5 (Rd.int .u8) b.2)).push (.row 3 (Rd.int .i64) x2912))) k (0, x2911) H3064 rfl rfl ?_
   rintro n ⟨x3034, x3035⟩ H
   obtain _ | n := n
   · exact nf rfl H
   rw [g_inflate_stream_copied_l0.eq_2] at H
   show WP _ _ _ _ ((((Env.none.upd 0 (.ptr 0 0)).upd 10 (.lit (.int .i64 (IntKind.wrap .i64 (x3004 + x3011))))).upd 50 (.lit (.int .i64 (IntKind.wrap .i64 (x2986 + x2993))))).upd 51 (.lit (.int .i64 x3034))) (((((Mem.nil.push (.cells 45 [.ptr 1 0, .whole 3, .lit (.int .i64 x2907)])).push (.cells 52 [.ro (Rd.slice (Rd.int .u8)) false x3012, .lit (.int .i64 x3013)])).push (.cells 82 [.lit (.int .i64 (List.getD x2910 0 (0 : Int))), .lit (.int .i64 (List.getD x2910 1 (0 : Int))), .lit (.int .i64 (List.getD x2910 2 (0 : Int))), .lit (.int .i64 (List.getD x2910 3 (0 : Int))), .lit (.int .i64 (List.getD x2910 4 (0 : Int))), .lit (.int .i64 (List.getD x2910 5 (0 : Int))), .lit (.int .i64 (List.getD x2910 6 (0 : Int))), .lit (.int .i64 (List.getD x2910 7 (0 : Int))), .lit (.int .i64 (List.getD x2910 8 (0 : Int))), .lit (.int .i64 (List.getD x2910 9 (0 : Int))), .lit (.int .i64 (List.getD x2910 10 (0 : Int))), .lit (.int .i64 (List.getD x2910 11 (0 : Int))), .lit (.int .i64 (List.getD x2910 12 (0 : Int))), .lit (.int .i64 (List.getD x2910 13 (0 : Int))), .lit (.int .i64 (List.getD x2910 14 (0 : Int))), .lit (.int .i64 (List.getD x2910 15 (0 : Int))), .whole 4])).push (.row 5 (Rd.int .u8) x3035)).push (.row 3 (Rd.int .i64) x2912)) _
   refine WP.seq ?_
   refine WP.region ?_
   obtain ⟨x3051, h3051, H⟩ := bnd H
   refine WPL.q (q_nm (q_lss rfl rfl) (nm_bool h3051)) rfl ?_
   refine WPL.nilW ?_
   refine W.now ?_
   refine Then.n ?_
   refine WP.seq ?_
   refine WP.cond (t := x3051) rfl (fun hb3052 => ?_) (fun hb3052 => ?_)
   · replace H := cnt hb3052 H
     refine WP.skipW ?_
     refine W.now ?_
     refine Then.n ?_
     refine WP.seq ?_
     refine WP.block ?_
     refine WP.regionD' 23 [0, 3] [19] mixed rfl ?_
     refine WPD.takeT 0 rfl (by kernel_rfl) (q_mv (v := .ptr _ _) rfl) rfl ?_
     refine WPD.takeT 1 rfl (by kernel_rfl) (q_mv (v := .ptr _ _) rfl) rfl ?_
     refine WPD.takeT 2 rfl (by kernel_rfl) (q_nilCheck rfl) rfl ?_
     refine WPD.takeT 3 rfl (by kernel_rfl) (q_fieldAddr fi45_1 rfl rfl) rfl ?_
     refine WPD.takeT 5 rfl (by kernel_rfl) (q_mv (v := .ptr _ _) rfl) rfl ?_
     refine WPD.takeT 6 rfl (by kernel_rfl) (q_nilCheck rfl) rfl ?_
     refine WPD.takeT 7 rfl (by kernel_rfl) (q_fieldAddr fi45_1 rfl rfl) rfl ?_
     refine WPD.takeT 9 rfl (by kernel_rfl) (q_mv (v := .ptr _ _) rfl) rfl ?_
     refine WPD.takeT 10 rfl (by kernel_rfl) (q_nilCheck rfl) rfl ?_
     refine WPD.takeT 11 rfl (by kernel_rfl) (q_fieldAddr fi45_1 rfl rfl) rfl ?_
     refine WPD.takeT 14 rfl (by kernel_rfl) (q_mv (v := .lit (.int _ _)) rfl) rfl ?_
     refine WPD.take 4 rfl (by kernel_rfl) (q_load sc29 rfl rfl rfl) rfl rfl ?_
     refine WPD.take 8 rfl (by kernel_rfl) (q_load sc29 rfl rfl rfl) rfl rfl ?_
     refine WPD.take 12 rfl (by kernel_rfl) (q_load sc29 rfl rfl rfl) rfl rfl ?_
     refine WPD.takeT 13 rfl (by kernel_rfl) (q_len_row sl29 rfl rfl) rfl ?_
     obtain ⟨x3062, h3062, H⟩ := bnd H
     refine WPD.takeT 15 rfl (by kernel_rfl) (q_nm (q_sub rfl rfl) (nm_int h3062)) rfl ?_
     obtain ⟨x3063, h3063, H⟩ := bnd H
     refine WPD.takeT 16 rfl (by kernel_rfl) (q_index_row sl29 rfl rfl rfl (ixs h3063)) rfl ?_
     refine WPD.take 17 rfl (by kernel_rfl) (q_load_row (j := (Int.toNat x3062)) sc5 rfl rfl (ixj h3063)) rfl rfl ?_
     refine WPD.eff 18 [0, 3] [19] rfl (by kernel_rfl) (Does.runs (d_buildSlice (ds := ([x3063] : List Int)) (R := (Rd.int .u8)) li29 rfl rfl rfl rfl rfl (JoinRows.cons1 Joins.sc rfl JoinRows.nil) rfl rfl)) rfl rfl ?_
     obtain ⟨h3063, H⟩ := grd H
     refine WPD.eff 19 [] [] rfl (by kernel_rfl) (Does.runs (d_append ap29 rfl rfl rfl rfl (src_row sl29 rfl rfl) h3063 rfl)) rfl rfl ?_
     refine WPD.takeT 20 rfl (by kernel_rfl) (q_nilCheck rfl) rfl ?_
     refine WPD.takeT 21 rfl (by kernel_rfl) (q_fieldAddr fi45_1 rfl rfl) rfl ?_
     refine WPD.effS 22 [] [] rfl (by kernel_rfl) (s_store sz29 rfl rfl rfl rfl rfl) rfl ?_
     refine WPD.doneW (by kernel_rfl) ?_
     refine W.now ?_
     refine InBlock.n ?_
     refine Then.n ?_
     refine WP.region ?_
     refine WPL.q (q_add rfl rfl) rfl ?_
     refine WPL.q (q_mv (v := .lit (.int _ _)) rfl) rfl ?_
     refine WPL.nilW ?_
     exact W.wk [0, 1, 2, 6, 4] hnp (Then.n ⟨n, ((IntKind.wrap .i64 (x3034 + 1)), (x3035 ++ ([x3063] : List Int))), Nat.lt_succ_self n, H, rfl, rfl⟩) ⟨rfl, ⟨⟨⟨⟨⟨trivial, .inr ⟨rfl, rfl, rfl⟩⟩, .inr ⟨rfl, rfl, rfl⟩⟩, .inr ⟨rfl, rfl, rfl⟩⟩, .inr ⟨rfl, rfl, rfl⟩⟩, .inr ⟨rfl, rfl, rfl⟩⟩, by decide, rfl, ⟨⟨⟨trivial, rfl⟩, rfl⟩, rfl⟩⟩ (LeE.upd rfl rfl (LeE.upd rfl rfl (LeE.upd rfl rfl (LeE.upd rfl rfl (LeE.none rfl rfl))))) rfl
   replace H := cnf hb3052 H
   refine WP.exitW ?_
   have q0 := (Option.some.inj H)
   subst q0
   exact W.wk [0, 1, 2, 3, 4] hnp (Then.x (Then.x ⟨rfl, rfl, rfl⟩)) ⟨rfl, ⟨⟨⟨⟨⟨trivial, .inr ⟨rfl, rfl, rfl⟩⟩, .inr ⟨rfl, rfl, rfl⟩⟩, .inr ⟨rfl, rfl, rfl⟩⟩, .inr ⟨rfl, rfl, rfl⟩⟩, .inr ⟨rfl, rfl, rfl⟩⟩, by decide, rfl, ⟨⟨⟨trivial, rfl⟩, rfl⟩, rfl⟩⟩ (LeE.none rfl rfl) rfl
 rintro _ _ _ ⟨rfl, rfl, rfl⟩
 have q0 := Option.some.inj H
 subst q0
 exact W.now (InBlock.x0 (BodyR.mkN trivial rfl [0, 1, 2, 3, 4] ⟨rfl, rfl⟩ ⟨rfl, ⟨⟨⟨⟨⟨trivial, .inr ⟨rfl, rfl, rfl⟩⟩, .inr ⟨rfl, rfl, rfl⟩⟩, .inr ⟨rfl, rfl, rfl⟩⟩, .inr ⟨rfl, rfl, rfl⟩⟩, .inr ⟨rfl, rfl, rfl⟩⟩, by decide, rfl, ⟨⟨⟨trivial, rfl⟩, rfl⟩, rfl⟩⟩ rfl rfl))
set_option maxRecDepth 100000 in
set_option maxHeartbeats 4000000 in
theorem s_inflate_stream_coded (k : Nat) (x2507 : Int) (x2508 : (List Int)) (x2509 : Int) (x2510 : (List Int)) (x2511 : (List Int)) (x2512 : (List Int)) (x2513 : (List Int)) (x2514 : (List Int)) (r : (Int ⊕ ((List Int) × Int × (List Int)))) (H : g_inflate_stream_coded k x2507 x2508 x2509 x2510 x2511 x2512 x2513 x2514 = some r) : Go.Q.Spec Try.prog 28 4 [.ptr 0 0, .ptr 2 0, .ptr 3 0] (((((((Mem.nil.push (.cells 45 [.ptr 1 0, .whole 4, .lit (.int .i64 x2507)])).push (.cells 52 [.ro (Rd.slice (Rd.int .u8)) false x2508, .lit (.int .i64 x2509)])).push (.cells 82 [.lit (.int .i64 (List.getD x2510 0 (0 : Int))), .lit (.int .i64 (List.getD x2510 1 (0 : Int))), .lit (.int .i64 (List.getD x2510 2 (0 : Int))), .lit (.int .i64 (List.getD x2510 3 (0 : Int))), .lit (.int .i64 (List.getD x2510 4 (0 : Int))), .lit (.int .i64 (List.getD x2510 5 (0 : Int))), .lit (.int .i64 (List.getD x2510 6 (0 : Int))), .lit (.int .i64 (List.getD x2510 7 (0 : Int))), .lit (.int .i64 (List.getD x2510 8 (0 : Int))), .lit (.int .i64 (List.getD x2510 9 (0 : Int))), .lit (.int .i64 (List.getD x2510 10 (0 : Int))), .lit (.int .i64 (List.getD x2510 11 (0 : Int))), .lit (.int .i64 (List.getD x2510 12 (0 : Int))), .lit (.int .i64 (List.getD x2510 13 (0 : Int))), .lit (.int .i64 (List.getD x2510 14 (0 : Int))), .lit (.int .i64 (List.getD x2510 15 (0 : Int))), .whole 5])).push (.cells 82 [.lit (.int .i64 (List.getD x2511 0 (0 : Int))), .lit (.int .i64 (List.getD x2511 1 (0 : Int))), .lit (.int .i64 (List.getD x2511 2 (0 : Int))), .lit (.int .i64 (List.getD x2511 3 (0 : Int))), .lit (.int .i64 (List.getD x2511 4 (0 : Int))), .lit (.int .i64 (List.getD x2511 5 (0 : Int))), .lit (.int .i64 (List.getD x2511 6 (0 : Int))), .lit (.int .i64 (List.getD x2511 7 (0 : Int))), .lit (.int .i64 (List.getD x2511 8 (0 : Int))), .lit (.int .i64 (List.getD x2511 9 (0 : Int))), .lit (.int .i64 (List.getD x2511 10 (0 : Int))), .lit (.int .i64 (List.getD x2511 11 (0 : Int))), .lit (.int .i64 (List.getD x2511 12 (0 : Int))), .lit (.int .i64 (List.getD x2511 13 (0 : Int))), .lit (.int .i64 (List.getD x2511 14 (0 : Int))), .lit (.int .i64 (List.getD x2511 15 (0 : Int))), .whole 6])).push (.row 5 (Rd.int .u8) x2512)).push (.row 3 (Rd.int .i64) x2513)).push (.row 3 (Rd.int .i64) x2514)) (fun o M => match (generalizing := false) r with | (Sum.inl x3099) => o = .pan (.ifc 46 (.lit (.int .i64 x3099))) ∧ M = ((((Mem.nil.push (.gone)).push (.gone)).push (.gone)).push (.gone)) | (Sum.inr (x3100, x3101, x3102)) => o = .ret (.tup []) ∧ M = (((((((Mem.nil.push (.cells 45 [.ptr 1 0, .whole 4, .lit (.int .i64 x2507)])).push (.cells 52 [.ro (Rd.slice (Rd.int .u8)) false x3100, .lit (.int .i64 x3101)])).push (.cells 82 [.lit (.int .i64 (List.getD x2510 0 (0 : Int))), .lit (.int .i64 (List.getD x2510 1 (0 : Int))), .lit (.int .i64 (List.getD x2510 2 (0 : Int))), .lit (.int .i64 (List.getD x2510 3 (0 : Int))), .lit (.int .i64 (List.getD x2510 4 (0 : Int))), .lit (.int .i64 (List.getD x2510 5 (0 : Int))), .lit (.int .i64 (List.getD x2510 6 (0 : Int))), .lit (.int .i64 (List.getD x2510 7 (0 : Int))), .lit (.int .i64 (List.getD x2510 8 (0 : Int))), .lit (.int .i64 (List.getD x2510 9 (0 : Int))), .lit (.int .i64 (List.getD x2510 10 (0 : Int))), .lit (.int .i64 (List.getD x2510 11 (0 : Int))), .lit (.int .i64 (List.getD x2510 12 (0 : Int))), .lit (.int .i64 (List.getD x2510 13 (0 : Int))), .lit (.int .i64 (List.getD x2510 14 (0 : Int))), .lit (.int .i64 (List.getD x2510 15 (0 : Int))), .whole 5])).push (.cells 82 [.lit (.int .i64 (List.getD x2511 0 (0 : Int))), .lit (.int .i64 (List.getD x2511 1 (0 : Int))), .lit (.int .i64 (List.getD x2511 2 (0 : Int))), .lit (.int .i64 (List.getD x2511 3 (0 : Int))), .lit (.int .i64 (List.getD x2511 4 (0 : Int))), .lit (.int .i64 (List.getD x2511 5 (0 : Int))), .lit (.int .i64 (List.getD x2511 6 (0 : Int))), .lit (.int .i64 (List.getD x2511 7 (0 : Int))), .lit (.int .i64 (List.getD x2511 8 (0 : Int))), .lit (.int .i64 (List.getD x2511 9 (0 : Int))), .lit (.int .i64 (List.getD x2511 10 (0 : Int))), .lit (.int .i64 (List.getD x2511 11 (0 : Int))), .lit (.int .i64 (List.getD x2511 12 (0 : Int))), .lit (.int .i64 (List.getD x2511 13 (0 : Int))), .lit (.int .i64 (List.getD x2511 14 (0 : Int))), .lit (.int .i64 (List.getD x2511 15 (0 : Int))), .whole 6])).push (.row 5 (Rd.int .u8) x3102)).push (.row 3 (Rd.int .i64) x2513)).push (.row 3 (Rd.int .i64) x2514))) := by
 unfold g_inflate_stream_coded at H
 refine Go.Q.Spec.of_bodyR (az := []) (rs := []) (nt := 33) Try.func28 rfl rfl (by intro t T h; simp at h) rfl rfl fun cx hnp => ?_
 refine WP.scope ?_
 refine WP.seq ?_
 refine WP.labelW ?_
 refine W.now ?_
 refine Then.n ?_
 refine WP.block ?_
 refine WP.cv (Cv.weak (E' := (((Env.none.upd 0 (.ptr 0 0)).upd 1 (.ptr 2 0)).upd 2 (.ptr 3 0))) (M' := (((((((Mem.nil.push (.cells 45 [.ptr 1 0, .whole 4, .lit (.int .i64 x2507)])).push (.cells 52 [.ro (Rd.slice (Rd.int .u8)) false x2508, .lit (.int .i64 x2509)])).push (.cells 82 [.lit (.int .i64 (List.getD x2510 0 (0 : Int))), .lit (.int .i64 (List.getD x2510 1 (0 : Int))), .lit (.int .i64 (List.getD x2510 2 (0 : Int))), .lit (.int .i64 (List.getD x2510 3 (0 : Int))), .lit (.int .i64 (List.getD x2510 4 (0 : Int))), .lit (.int .i64 (List.getD x2510 5 (0 : Int))), .lit (.int .i64 (List.getD x2510 6 (0 : Int))), .lit (.int .i64 (List.getD x2510 7 (0 : Int))), .lit (.int .i64 (List.getD x2510 8 (0 : Int))), .lit (.int .i64 (List.getD x2510 9 (0 : Int))), .lit (.int .i64 (List.getD x2510 10 (0 : Int))), .lit (.int .i64 (List.getD x2510 11 (0 : Int))), .lit (.int .i64 (List.getD x2510 12 (0 : Int))), .lit (.int .i64 (List.getD x2510 13 (0 : Int))), .lit (.int .i64 (List.getD x2510 14 (0 : Int))), .lit (.int .i64 (List.getD x2510 15 (0 : Int))), .whole 5])).push (.cells 82 [.lit (.int .i64 (List.getD x2511 0 (0 : Int))), .lit (.int .i64 (List.getD x2511 1 (0 : Int))), .lit (.int .i64 (List.getD x2511 2 (0 : Int))), .lit (.int .i64 (List.getD x2511 3 (0 : Int))), .lit (.int .i64 (List.getD x2511 4 (0 : Int))), .lit (.int .i64 (List.getD x2511 5 (0 : Int))), .lit (.int .i64 (List.getD x2511 6 (0 : Int))), .lit (.int .i64 (List.getD x2511 7 (0 : Int))), .lit (.int .i64 (List.getD x2511 8 (0 : Int))), .lit (.int .i64 (List.getD x2511 9 (0 : Int))), .lit (.int .i64 (List.getD x2511 10 (0 : Int))), .lit (.int .i64 (List.getD x2511 11 (0 : Int))), .lit (.int .i64 (List.getD x2511 12 (0 : Int))), .lit (.int .i64 (List.getD x2511 13 (0 : Int))), .lit (.int .i64 (List.getD x2511 14 (0 : Int))), .lit (.int .i64 (List.getD x2511 15 (0 : Int))), .whole 6])).push (.row 5 (Rd.int .u8) x2512)).push (.row 3 (Rd.int .i64) x2513)).push (.row 3 (Rd.int .i64) x2514))) [0, 1, 2, 3, 4, 5, 6] hnp ⟨rfl, ⟨⟨⟨⟨⟨⟨⟨trivial, .inr ⟨rfl, rfl, rfl⟩⟩, .inr ⟨rfl, rfl, rfl⟩⟩, .inr ⟨rfl, rfl, rfl⟩⟩, .inr ⟨rfl, rfl, rfl⟩⟩, .inr ⟨rfl, rfl, rfl⟩⟩, .inr ⟨rfl, rfl, rfl⟩⟩, .inr ⟨rfl, rfl, rfl⟩⟩, by decide, rfl, ⟨⟨⟨⟨trivial, rfl⟩, rfl⟩, rfl⟩, rfl⟩⟩ (LeE.upd rfl rfl (LeE.upd rfl rfl (LeE.upd rfl rfl (LeE.none rfl rfl))))) ?_
 obtain ⟨y3163, H3161, H⟩ := bnd H
 refine WP.monoW (Q := fun x E M => match (generalizing := false) y3163 with | (Sum.inl x3140) => x = .panic (.ifc 46 (.lit (.int .i64 x3140))) ∧ E = Env.none ∧ M = (((((Mem.nil.push (.gone)).push (.gone)).push (.gone)).push (.cells 82 [.lit (.int .i64 (List.getD x2511 0 (0 : Int))), .lit (.int .i64 (List.getD x2511 1 (0 : Int))), .lit (.int .i64 (List.getD x2511 2 (0 : Int))), .lit (.int .i64 (List.getD x2511 3 (0 : Int))), .lit (.int .i64 (List.getD x2511 4 (0 : Int))), .lit (.int .i64 (List.getD x2511 5 (0 : Int))), .lit (.int .i64 (List.getD x2511 6 (0 : Int))), .lit (.int .i64 (List.getD x2511 7 (0 : Int))), .lit (.int .i64 (List.getD x2511 8 (0 : Int))), .lit (.int .i64 (List.getD x2511 9 (0 : Int))), .lit (.int .i64 (List.getD x2511 10 (0 : Int))), .lit (.int .i64 (List.getD x2511 11 (0 : Int))), .lit (.int .i64 (List.getD x2511 12 (0 : Int))), .lit (.int .i64 (List.getD x2511 13 (0 : Int))), .lit (.int .i64 (List.getD x2511 14 (0 : Int))), .lit (.int .i64 (List.getD x2511 15 (0 : Int))), .whole 4])).push (.row 3 (Rd.int .i64) x2514)) | (Sum.inr (Sum.inl _)) => x = .panic (.ifc 46 (.lit (.int .i64 3))) ∧ E = Env.none ∧ M = ((((((Mem.nil.push (.gone)).push (.gone)).push (.cells 82 [.lit (.int .i64 (List.getD x2510 0 (0 : Int))), .lit (.int .i64 (List.getD x2510 1 (0 : Int))), .lit (.int .i64 (List.getD x2510 2 (0 : Int))), .lit (.int .i64 (List.getD x2510 3 (0 : Int))), .lit (.int .i64 (List.getD x2510 4 (0 : Int))), .lit (.int .i64 (List.getD x2510 5 (0 : Int))), .lit (.int .i64 (List.getD x2510 6 (0 : Int))), .lit (.int .i64 (List.getD x2510 7 (0 : Int))), .lit (.int .i64 (List.getD x2510 8 (0 : Int))), .lit (.int .i64 (List.getD x2510 9 (0 : Int))), .lit (.int .i64 (List.getD x2510 10 (0 : Int))), .lit (.int .i64 (List.getD x2510 11 (0 : Int))), .lit (.int .i64 (List.getD x2510 12 (0 : Int))), .lit (.int .i64 (List.getD x2510 13 (0 : Int))), .lit (.int .i64 (List.getD x2510 14 (0 : Int))), .lit (.int .i64 (List.getD x2510 15 (0 : Int))), .whole 4])).push (.cells 82 [.lit (.int .i64 (List.getD x2511 0 (0 : Int))), .lit (.int .i64 (List.getD x2511 1 (0 : Int))), .lit (.int .i64 (List.getD x2511 2 (0 : Int))), .lit (.int .i64 (List.getD x2511 3 (0 : Int))), .lit (.int .i64 (List.getD x2511 4 (0 : Int))), .lit (.int .i64 (List.getD x2511 5 (0 : Int))), .lit (.int .i64 (List.getD x2511 6 (0 : Int))), .lit (.int .i64 (List.getD x2511 7 (0 : Int))), .lit (.int .i64 (List.getD x2511 8 (0 : Int))), .lit (.int .i64 (List.getD x2511 9 (0 : Int))), .lit (.int .i64 (List.getD x2511 10 (0 : Int))), .lit (.int .i64 (List.getD x2511 11 (0 : Int))), .lit (.int .i64 (List.getD x2511 12 (0 : Int))), .lit (.int .i64 (List.getD x2511 13 (0 : Int))), .lit (.int .i64 (List.getD x2511 14 (0 : Int))), .lit (.int .i64 (List.getD x2511 15 (0 : Int))), .whole 5])).push (.row 3 (Rd.int .i64) x2513)).push (.row 3 (Rd.int .i64) x2514)) | (Sum.inr (Sum.inr (Sum.inl x3141))) => x = .panic (.ifc 46 (.lit (.int .i64 x3141))) ∧ E = Env.none ∧ M = (((((Mem.nil.push (.gone)).push (.gone)).push (.cells 82 [.lit (.int .i64 (List.getD x2510 0 (0 : Int))), .lit (.int .i64 (List.getD x2510 1 (0 : Int))), .lit (.int .i64 (List.getD x2510 2 (0 : Int))), .lit (.int .i64 (List.getD x2510 3 (0 : Int))), .lit (.int .i64 (List.getD x2510 4 (0 : Int))), .lit (.int .i64 (List.getD x2510 5 (0 : Int))), .lit (.int .i64 (List.getD x2510 6 (0 : Int))), .lit (.int .i64 (List.getD x2510 7 (0 : Int))), .lit (.int .i64 (List.getD x2510 8 (0 : Int))), .lit (.int .i64 (List.getD x2510 9 (0 : Int))), .lit (.int .i64 (List.getD x2510 10 (0 : Int))), .lit (.int .i64 (List.getD x2510 11 (0 : Int))), .lit (.int .i64 (List.getD x2510 12 (0 : Int))), .lit (.int .i64 (List.getD x2510 13 (0 : Int))), .lit (.int .i64 (List.getD x2510 14 (0 : Int))), .lit (.int .i64 (List.getD x2510 15 (0 : Int))), .whole 4])).push (.gone)).push (.row 3 (Rd.int .i64) x2513)) | (Sum.inr (Sum.inr (Sum.inr (x3142, x3143, x3144)))) => x = .exit 0 ∧ E = Env.none ∧ M = (((((((Mem.nil.push (.cells 45 [.ptr 1 0, .whole 4, .lit (.int .i64 x2507)])).push (.cells 52 [.ro (Rd.slice (Rd.int .u8)) false x3142, .lit (.int .i64 x3143)])).push (.cells 82 [.lit (.int .i64 (List.getD x2510 0 (0 : Int))), .lit (.int .i64 (List.getD x2510 1 (0 : Int))), .lit (.int .i64 (List.getD x2510 2 (0 : Int))), .lit (.int .i64 (List.getD x2510 3 (0 : Int))), .lit (.int .i64 (List.getD x2510 4 (0 : Int))), .lit (.int .i64 (List.getD x2510 5 (0 : Int))), .lit (.int .i64 (List.getD x2510 6 (0 : Int))), .lit (.int .i64 (List.getD x2510 7 (0 : Int))), .lit (.int .i64 (List.getD x2510 8 (0 : Int))), .lit (.int .i64 (List.getD x2510 9 (0 : Int))), .lit (.int .i64 (List.getD x2510 10 (0 : Int))), .lit (.int .i64 (List.getD x2510 11 (0 : Int))), .lit (.int .i64 (List.getD x2510 12 (0 : Int))), .lit (.int .i64 (List.getD x2510 13 (0 : Int))), .lit (.int .i64 (List.getD x2510 14 (0 : Int))), .lit (.int .i64 (List.getD x2510 15 (0 : Int))), .whole 5])).push (.cells 82 [.lit (.int .i64 (List.getD x2511 0 (0 : Int))), .lit (.int .i64 (List.getD x2511 1 (0 : Int))), .lit (.int .i64 (List.getD x2511 2 (0 : Int))), .lit (.int .i64 (List.getD x2511 3 (0 : Int))), .lit (.int .i64 (List.getD x2511 4 (0 : Int))), .lit (.int .i64 (List.getD x2511 5 (0 : Int))), .lit (.int .i64 (List.getD x2511 6 (0 : Int))), .lit (.int .i64 (List.getD x2511 7 (0 : Int))), .lit (.int .i64 (List.getD x2511 8 (0 : Int))), .lit (.int .i64 (List.getD x2511 9 (0 : Int))), .lit (.int .i64 (List.getD x2511 10 (0 : Int))), .lit (.int .i64 (List.getD x2511 11 (0 : Int))), .lit (.int .i64 (List.getD x2511 12 (0 : Int))), .lit (.int .i64 (List.getD x2511 13 (0 : Int))), .lit (.int .i64 (List.getD x2511 14 (0 : Int))), .lit (.int .i64 (List.getD x2511 15 (0 : Int))), .whole 6])).push (.row 5 (Rd.int .u8) x3144)).push (.row 3 (Rd.int .i64) x2513)).push (.row 3 (Rd.int .i64) x2514))) ?_ ?_
 · refine WP.loop (β := (List Int) × Int × (List Int)) (fun n b => g_inflate_stream_coded_l0 k x2507 x2510 x2511 x2513 x2514 n b.1 b.2.1 b.2.2 = some y3163) (fun b => (((Env.none.upd 0 (.ptr 0 0)).upd 1 (.ptr 2 0)).upd 2 (.ptr 3 0))) (fun b => (((((((Mem.nil.push (.cells 45 [.ptr 1 0, .whole 4, .lit (.int .i64 x2507)])).push (.cells 52 [.ro (Rd.slice (Rd.int .u8)) false b.1, .lit (.int .i64 b.2.1)])).push (.cells 82 [.lit (.int .i64 (List.getD x2510 0 (0 : Int))), .lit (.int .i64 (List.getD x2510 1 (0 : Int))), .lit (.int .i64 (List.getD x2510 2 (0 : Int))), .lit (.int .i64 (List.getD x2510 3 (0 : Int))), .lit (.int .i64 (List.getD x2510 4 (0 : Int))), .lit (.int .i64 (List.getD x2510 5 (0 : Int))), .lit (.int .i64 (List.getD x2510 6 (0 : Int))), .lit (.int .i64 (List.getD x2510 7 (0 : Int))), .lit (.int .i64 (List.getD x2510 8 (0 : Int))), .lit (.int .i64 (List.getD x2510 9 (0 : Int))), .lit (.int .i64 (List.getD x2510 10 (0 : Int))), .lit (.int .i64 (List.getD x2510 11 (0 : Int))), .lit (.int .i64 (List.getD x2510 12 (0 : Int))), .lit (.int .i64 (List.getD x2510 13 (0 : Int))), .lit (.int .i64 (List.getD x2510 14 (0 : Int))), .lit (.int .i64 (List.getD x2510 15 (0 : Int))), .whole 5])).push (.cells 82 [.lit (.int .i64 (List.getD x2511 0 (0 : Int))), .lit (.int .i64 (List.getD x2511 1 (0 : Int))), .lit (.int .i64 (List.getD x2511 2 (0 : Int))), .lit (.int .i64 (List.getD x2511 3 (0 : Int))), .lit (.int .i64 (List.getD x2511 4 (0 : Int))), .lit (.int .i64 (List.getD x2511 5 (0 : Int))), .lit (.int .i64 (List.getD x2511 6 (0 : Int))), .lit (.int .i64 (List.getD x2511 7 (0 : Int))), .lit (.int .i64 (List.getD x2511 8 (0 : Int))), .lit (.int .i64 (List.getD x2511 9 (0 : Int))), .lit (.int .i64 (List.getD x2511 10 (0 : Int))), .lit (.int .i64 (List.getD x2511 11 (0 : Int))), .lit (.int .i64 (List.getD x2511 12 (0 : Int))), .lit (.int .i64 (List.getD x2511 13 (0 : Int))), .lit (.int .i64 (List.getD x2511 14 (0 : Int))), .lit (.int .i64 (List.getD x2511 15 (0 : Int))), .whole 6])).push (.row 5 (Rd.int .u8) b.2.2)).push (.row 3 (Rd.int .i64) x2513)).push (.row 3 (Rd.int .i64) x2514))) k (x2508, x2509, x2512) H3161 rfl rfl ?_
   rintro n ⟨x3120, x3121, x3122⟩ H
   obtain _ | n := n
   · exact nf rfl H
   rw [g_inflate_stream_coded_l0.eq_2] at H
   show WP _ _ _ _ (((Env.none.upd 0 (.ptr 0 0)).upd 1 (.ptr 2 0)).upd 2 (.ptr 3 0)) (((((((Mem.nil.push (.cells 45 [.ptr 1 0, .whole 4, .lit (.int .i64 x2507)])).push (.cells 52 [.ro (Rd.slice (Rd.int .u8)) false x3120, .lit (.int .i64 x3121)])).push (.cells 82 [.lit (.int .i64 (List.getD x2510 0 (0 : Int))), .lit (.int .i64 (List.getD x2510 1 (0 : Int))), .lit (.int .i64 (List.getD x2510 2 (0 : Int))), .lit (.int .i64 (List.getD x2510 3 (0 : Int))), .lit (.int .i64 (List.getD x2510 4 (0 : Int))), .lit (.int .i64 (List.getD x2510 5 (0 : Int))), .lit (.int .i64 (List.getD x2510 6 (0 : Int))), .lit (.int .i64 (List.getD x2510 7 (0 : Int))), .lit (.int .i64 (List.getD x2510 8 (0 : Int))), .lit (.int .i64 (List.getD x2510 9 (0 : Int))), .lit (.int .i64 (List.getD x2510 10 (0 : Int))), .lit (.int .i64 (List.getD x2510 11 (0 : Int))), .lit (.int .i64 (List.getD x2510 12 (0 : Int))), .lit (.int .i64 (List.getD x2510 13 (0 : Int))), .lit (.int .i64 (List.getD x2510 14 (0 : Int))), .lit (.int .i64 (List.getD x2510 15 (0 : Int))), .whole 5])).push (.cells 82 [.lit (.int .i64 (List.getD x2511 0 (0 : Int))), .lit (.int .i64 (List.getD x2511 1 (0 : Int))), .lit (.int .i64 (List.getD x2511 2 (0 : Int))), .lit (.int .i64 (List.getD x2511 3 (0 : Int))), .lit (.int .i64 (List.getD x2511 4 (0 : Int))), .lit (.int .i64 (List.getD x2511 5 (0 : Int))), .lit (.int .i64 (List.getD x2511 6 (0 : Int))), .lit (.int .i64 (List.getD x2511 7 (0 : Int))), .lit (.int .i64 (List.getD x2511 8 (0 : Int))), .lit (.int .i64 (List.getD x2511 9 (0 : Int))), .lit (.int .i64 (List.getD x2511 10 (0 : Int))), .lit (.int .i64 (List.getD x2511 11 (0 : Int))), .lit (.int .i64 (List.getD x2511 12 (0 : Int))), .lit (.int .i64 (List.getD x2511 13 (0 : Int))), .lit (.int .i64 (List.getD x2511 14 (0 : Int))), .lit (.int .i64 (List.getD x2511 15 (0 : Int))), .whole 6])).push (.row 5 (Rd.int .u8) x3122)).push (.row 3 (Rd.int .i64) x2513)).push (.row 3 (Rd.int .i64) x2514)) _
   refine WP.block ?_
   refine WP.seq ?_
   refine WP.region ?_
   refine WPL.q (q_mv (v := .ptr _ _) rfl) rfl ?_
   refine WPL.q (q_mv (v := .ptr _ _) rfl) rfl ?_
   obtain ⟨y3150, h3144, H⟩ := bnd H
   rcases y3150 with x3146 | ⟨x3147, x3148, x3149⟩
   · refine WPL.pW (runs_callP (s := [0, 1, 2, 4, 5]) (t := [0, 1, 2]) (N := 7) (bor := []) fn36 rfl (s_inflate_stream_sym k x2507 x3120 x3121 x2510 x3122 x2513 (Sum.inl x3146) h3144) ⟨rfl, ⟨⟨⟨⟨⟨trivial, .inr ⟨rfl, rfl, rfl⟩⟩, .inr ⟨rfl, rfl, rfl⟩⟩, .inr ⟨rfl, rfl, rfl⟩⟩, .inr ⟨rfl, rfl, rfl⟩⟩, .inr ⟨rfl, rfl, rfl⟩⟩, by decide, rfl, trivial⟩ rfl trivial (.ren rfl rfl (.ren rfl rfl .nil)) rfl ⟨⟨⟨trivial, rfl⟩, rfl⟩, rfl⟩ rfl) ?_
     have q0 := Option.some.inj H
     subst q0
     exact W.wkP [0, 1, 2, 3, 6] hnp (Then.p (InBlock.p (Then.p ⟨rfl, rfl, rfl⟩))) ⟨rfl, ⟨⟨⟨⟨⟨trivial, .inl rfl⟩, .inl rfl⟩, .inl rfl⟩, .inr ⟨rfl, rfl, rfl⟩⟩, .inr ⟨rfl, rfl, rfl⟩⟩, by decide, rfl, ⟨⟨⟨⟨trivial, rfl⟩, rfl⟩, rfl⟩, rfl⟩⟩ (LeE.none rfl rfl) rfl rfl
   refine WPL.c (runs_call (s := [0, 1, 2, 4, 5]) (t := [0, 1, 2, 7, 8]) (N := 9) (bor := []) fn36 rfl (s_inflate_stream_sym k x2507 x3120 x3121 x2510 x3122 x2513 (Sum.inr (x3147, x3148, x3149)) h3144) ⟨rfl, ⟨⟨⟨⟨⟨trivial, .inr ⟨rfl, rfl, rfl⟩⟩, .inr ⟨rfl, rfl, rfl⟩⟩, .inr ⟨rfl, rfl, rfl⟩⟩, .inr ⟨rfl, rfl, rfl⟩⟩, .inr ⟨rfl, rfl, rfl⟩⟩, by decide, rfl, trivial⟩ rfl trivial (.ren rfl rfl (.ren rfl rfl .nil)) rfl ⟨⟨⟨⟨⟨trivial, rfl⟩, rfl⟩, rfl⟩, rfl⟩, rfl⟩ rfl) rfl ?_
   refine WPL.q (q_as (v := .lit (.int _ _)) rfl) rfl ?_
   refine WPL.nilW ?_
   refine W.now ?_
   refine Then.n ?_
   refine WP.block ?_
   refine WP.seq ?_
   refine WP.region ?_
   refine WPL.q (q_mv (v := .lit (.int _ _)) rfl) rfl ?_
   refine WPL.q (q_lss rfl rfl) rfl ?_
   refine WPL.q (q_as (v := .lit (.bool _)) rfl) rfl ?_
   refine WPL.nilW ?_
   refine W.now ?_
   refine Then.n ?_
   refine WP.cond (t := (decide (x3147 < 256))) rfl (fun hb3150 => ?_) (fun hb3150 => ?_)
   · replace H := cnt hb3150 H
     refine WP.seq ?_
     refine WP.region ?_
     refine WPL.q (q_mv (v := .ptr _ _) rfl) rfl ?_
     obtain ⟨y3153, h3151, H⟩ := bnd H
     rcases y3153 with _ | _
     · refine WPL.pW (runs_callP (s := [0, 1, 7]) (t := [0, 1]) (N := 9) (bor := []) fn35 rfl (s_inflate_stream_room k 1 x2507 x3148 x3149 x3122 (Sum.inl ()) h3151) ⟨rfl, ⟨⟨⟨trivial, .inr ⟨rfl, rfl, rfl⟩⟩, .inr ⟨rfl, rfl, rfl⟩⟩, .inr ⟨rfl, rfl, rfl⟩⟩, by decide, rfl, trivial⟩ rfl trivial (.ren rfl rfl (.ren rfl rfl .nil)) rfl ⟨⟨trivial, rfl⟩, rfl⟩ rfl) ?_
       have q0 := Option.some.inj H
       subst q0
       exact W.wkP [0, 1, 2, 3, 8, 6] hnp (Then.p (InBlock.p (InBlock.p (Then.p ⟨rfl, rfl, rfl⟩)))) ⟨rfl, ⟨⟨⟨⟨⟨⟨trivial, .inl rfl⟩, .inl rfl⟩, .inr ⟨rfl, rfl, rfl⟩⟩, .inr ⟨rfl, rfl, rfl⟩⟩, .inr ⟨rfl, rfl, rfl⟩⟩, .inr ⟨rfl, rfl, rfl⟩⟩, by decide, rfl, ⟨⟨⟨⟨trivial, rfl⟩, rfl⟩, rfl⟩, rfl⟩⟩ (LeE.none rfl rfl) rfl rfl
     refine WPL.c (runs_call (s := [0, 1, 7]) (t := [0, 1, 9]) (N := 10) (bor := []) fn35 rfl (s_inflate_stream_room k 1 x2507 x3148 x3149 x3122 (Sum.inr ()) h3151) ⟨rfl, ⟨⟨⟨trivial, .inr ⟨rfl, rfl, rfl⟩⟩, .inr ⟨rfl, rfl, rfl⟩⟩, .inr ⟨rfl, rfl, rfl⟩⟩, by decide, rfl, trivial⟩ rfl trivial (.ren rfl rfl (.ren rfl rfl .nil)) rfl ⟨⟨⟨trivial, rfl⟩, rfl⟩, rfl⟩ rfl) rfl ?_
     refine WPL.nilW ?_
     refine W.now ?_
     refine Then.n ?_
     refine WP.region ?_
     refine WPL.q (q_mv (v := .ptr _ _) rfl) rfl ?_
     refine WPL.q (q_mv (v := .ptr _ _) rfl) rfl ?_
     refine WPL.q (q_nilCheck rfl) rfl ?_
     refine WPL.q (q_fieldAddr fi45_1 rfl rfl) rfl ?_
     refine WPL.q (q_load sc29 rfl rfl rfl) rfl ?_
     refine WPL.q (q_mv (v := .lit (.int _ _)) rfl) rfl ?_
     refine WPL.q (q_conv Try.underlying3 Try.underlying5 rfl) rfl ?_
     refine WPL.d (d_buildSlice (ds := ([(IntKind.wrap .u8 x3147)] : List Int)) (R := (Rd.int .u8)) li29 rfl rfl rfl rfl rfl (JoinRows.cons1 Joins.sc rfl JoinRows.nil) rfl rfl) rfl ?_
     obtain ⟨h3153, H⟩ := grd H
     refine WPL.d (d_append ap29 rfl rfl rfl rfl (src_row sl29 rfl rfl) h3153 rfl) rfl ?_
     refine WPL.q (q_nilCheck rfl) rfl ?_
     refine WPL.q (q_fieldAddr fi45_1 rfl rfl) rfl ?_
     refine WPL.s (s_store sz29 rfl rfl rfl rfl rfl) ?_
     refine WPL.nilW ?_
     exact W.wk [0, 1, 2, 3, 11, 8, 6] hnp (InBlock.n (InBlock.n (Then.n ⟨n, (x3148, x3149, (x3122 ++ ([(IntKind.wrap .u8 x3147)] : List Int))), Nat.lt_succ_self n, H, rfl, rfl⟩))) ⟨rfl, ⟨⟨⟨⟨⟨⟨⟨trivial, .inr ⟨rfl, rfl, rfl⟩⟩, .inr ⟨rfl, rfl, rfl⟩⟩, .inr ⟨rfl, rfl, rfl⟩⟩, .inr ⟨rfl, rfl, rfl⟩⟩, .inr ⟨rfl, rfl, rfl⟩⟩, .inr ⟨rfl, rfl, rfl⟩⟩, .inr ⟨rfl, rfl, rfl⟩⟩, by decide, rfl, ⟨⟨⟨⟨trivial, rfl⟩, rfl⟩, rfl⟩, rfl⟩⟩ (LeE.upd rfl rfl (LeE.upd rfl rfl (LeE.upd rfl rfl (LeE.none rfl rfl)))) rfl
   replace H := cnf hb3150 H
   refine WP.seq ?_
   refine WP.region ?_
   refine WPL.q (q_mv (v := .lit (.int _ _)) rfl) rfl ?_
   refine WPL.q (q_eql rfl rfl) rfl ?_
   refine WPL.q (q_as (v := .lit (.bool _)) rfl) rfl ?_
   refine WPL.nilW ?_
   refine W.now ?_
   refine Then.n ?_
   refine WP.cond (t := (decide (x3147 = 256))) rfl (fun hb3154 => ?_) (fun hb3154 => ?_)
   · replace H := cnt hb3154 H
     refine WP.exitW ?_
     have q0 := Option.some.inj H
     subst q0
     exact W.wk [0, 1, 2, 3, 7, 8, 6] hnp (InBlock.x rfl (InBlock.x rfl (Then.x ⟨rfl, rfl, rfl⟩))) ⟨rfl, ⟨⟨⟨⟨⟨⟨⟨trivial, .inr ⟨rfl, rfl, rfl⟩⟩, .inr ⟨rfl, rfl, rfl⟩⟩, .inr ⟨rfl, rfl, rfl⟩⟩, .inr ⟨rfl, rfl, rfl⟩⟩, .inr ⟨rfl, rfl, rfl⟩⟩, .inr ⟨rfl, rfl, rfl⟩⟩, .inr ⟨rfl, rfl, rfl⟩⟩, by decide, rfl, ⟨⟨⟨⟨trivial, rfl⟩, rfl⟩, rfl⟩, rfl⟩⟩ (LeE.none rfl rfl) rfl
   replace H := cnf hb3154 H
   refine WP.region ?_
   refine WPL.q (q_mv (v := .ptr _ _) rfl) rfl ?_
   refine WPL.q (q_mv (v := .lit (.int _ _)) rfl) rfl ?_
   refine WPL.q (q_mv (v := .ptr _ _) rfl) rfl ?_
   obtain ⟨y3161, h3155, H⟩ := bnd H
   rcases y3161 with x3157 | ⟨x3158, x3159, x3160⟩
   · refine WPL.pW (runs_callP (s := [0, 1, 3, 7, 6]) (t := [0, 1, 3]) (N := 9) (bor := []) fn37 rfl (s_inflate_stream_copied k x3147 x2507 x3148 x3149 x2511 x3122 x2514 (Sum.inl x3157) h3155) ⟨rfl, ⟨⟨⟨⟨⟨trivial, .inr ⟨rfl, rfl, rfl⟩⟩, .inr ⟨rfl, rfl, rfl⟩⟩, .inr ⟨rfl, rfl, rfl⟩⟩, .inr ⟨rfl, rfl, rfl⟩⟩, .inr ⟨rfl, rfl, rfl⟩⟩, by decide, rfl, trivial⟩ rfl trivial (.ren rfl rfl (.ren rfl rfl (.ren rfl rfl .nil))) rfl ⟨⟨⟨trivial, rfl⟩, rfl⟩, rfl⟩ rfl) ?_
     have q0 := Option.some.inj H
     subst q0
     exact W.wkP [0, 1, 2, 3, 8] hnp (InBlock.p (InBlock.p (Then.p ⟨rfl, rfl, rfl⟩))) ⟨rfl, ⟨⟨⟨⟨⟨trivial, .inl rfl⟩, .inl rfl⟩, .inr ⟨rfl, rfl, rfl⟩⟩, .inl rfl⟩, .inr ⟨rfl, rfl, rfl⟩⟩, by decide, rfl, ⟨⟨⟨⟨trivial, rfl⟩, rfl⟩, rfl⟩, rfl⟩⟩ (LeE.none rfl rfl) rfl rfl
   refine WPL.c (runs_call (s := [0, 1, 3, 7, 6]) (t := [0, 1, 3, 9, 10]) (N := 11) (bor := []) fn37 rfl (s_inflate_stream_copied k x3147 x2507 x3148 x3149 x2511 x3122 x2514 (Sum.inr (x3158, x3159, x3160)) h3155) ⟨rfl, ⟨⟨⟨⟨⟨trivial, .inr ⟨rfl, rfl, rfl⟩⟩, .inr ⟨rfl, rfl, rfl⟩⟩, .inr ⟨rfl, rfl, rfl⟩⟩, .inr ⟨rfl, rfl, rfl⟩⟩, .inr ⟨rfl, rfl, rfl⟩⟩, by decide, rfl, trivial⟩ rfl trivial (.ren rfl rfl (.ren rfl rfl (.ren rfl rfl .nil))) rfl ⟨⟨⟨⟨⟨trivial, rfl⟩, rfl⟩, rfl⟩, rfl⟩, rfl⟩ rfl) rfl ?_
   refine WPL.nilW ?_
   exact W.wk [0, 1, 2, 3, 9, 8, 10] hnp (InBlock.n (InBlock.n (Then.n ⟨n, (x3158, x3159, x3160), Nat.lt_succ_self n, H, rfl, rfl⟩))) ⟨rfl, ⟨⟨⟨⟨⟨⟨⟨trivial, .inr ⟨rfl, rfl, rfl⟩⟩, .inr ⟨rfl, rfl, rfl⟩⟩, .inr ⟨rfl, rfl, rfl⟩⟩, .inr ⟨rfl, rfl, rfl⟩⟩, .inr ⟨rfl, rfl, rfl⟩⟩, .inr ⟨rfl, rfl, rfl⟩⟩, .inr ⟨rfl, rfl, rfl⟩⟩, by decide, rfl, ⟨⟨⟨⟨trivial, rfl⟩, rfl⟩, rfl⟩, rfl⟩⟩ (LeE.upd rfl rfl (LeE.upd rfl rfl (LeE.upd rfl rfl (LeE.none rfl rfl)))) rfl
 rcases y3163 with x3140 | _ | x3141 | ⟨x3142, x3143, x3144⟩
 · rintro _ _ _ ⟨rfl, rfl, rfl⟩
   have q0 := Option.some.inj H
   subst q0
   exact W.now (InBlock.p (Scope.p (BodyR.mkP trivial [0, 1, 2, 3] ⟨rfl, rfl⟩ ⟨rfl, ⟨⟨⟨⟨trivial, .inl rfl⟩, .inl rfl⟩, .inl rfl⟩, .inl rfl⟩, by decide, rfl, ⟨⟨⟨⟨trivial, rfl⟩, rfl⟩, rfl⟩, rfl⟩⟩ rfl rfl)))
 · rintro _ _ _ ⟨rfl, rfl, rfl⟩
   have q0 := Option.some.inj H
   subst q0
   exact W.now (InBlock.p (Scope.p (BodyR.mkP trivial [0, 1, 2, 3] ⟨rfl, rfl⟩ ⟨rfl, ⟨⟨⟨⟨trivial, .inl rfl⟩, .inl rfl⟩, .inl rfl⟩, .inl rfl⟩, by decide, rfl, ⟨⟨⟨⟨trivial, rfl⟩, rfl⟩, rfl⟩, rfl⟩⟩ rfl rfl)))
 · rintro _ _ _ ⟨rfl, rfl, rfl⟩
   have q0 := Option.some.inj H
   subst q0
   exact W.now (InBlock.p (Scope.p (BodyR.mkP trivial [0, 1, 2, 3] ⟨rfl, rfl⟩ ⟨rfl, ⟨⟨⟨⟨trivial, .inl rfl⟩, .inl rfl⟩, .inl rfl⟩, .inl rfl⟩, by decide, rfl, ⟨⟨⟨⟨trivial, rfl⟩, rfl⟩, rfl⟩, rfl⟩⟩ rfl rfl)))
 rintro _ _ _ ⟨rfl, rfl, rfl⟩
 have q0 := Option.some.inj H
 subst q0
 exact W.now (InBlock.x0 (Scope.n (BodyR.mkN trivial rfl [0, 1, 2, 3, 4, 5, 6] ⟨rfl, rfl⟩ ⟨rfl, ⟨⟨⟨⟨⟨⟨⟨trivial, .inr ⟨rfl, rfl, rfl⟩⟩, .inr ⟨rfl, rfl, rfl⟩⟩, .inr ⟨rfl, rfl, rfl⟩⟩, .inr ⟨rfl, rfl, rfl⟩⟩, .inr ⟨rfl, rfl, rfl⟩⟩, .inr ⟨rfl, rfl, rfl⟩⟩, .inr ⟨rfl, rfl, rfl⟩⟩, by decide, rfl, ⟨⟨⟨⟨trivial, rfl⟩, rfl⟩, rfl⟩, rfl⟩⟩ rfl rfl)))
end Go.Proofs.Ytpceecokdpdgfaa.W
namespace Go.Proofs.Ytpceecokdpdgfaa.W
open Go Go.Q Go.Proofs
set_option linter.unusedVariables false
set_option linter.unusedSimpArgs false
set_option maxRecDepth 100000 in
set_option maxHeartbeats 4000000 in
theorem s_huff_Full (k : Nat) (x3243 : (List Int)) (x3248 : Bool) (H : g_huff_Full k x3243 = some x3248) : Go.Q.Spec Try.prog 39 0 [.ro (Rd.slice (Rd.int .i64)) false x3243] Mem.nil (fun o M => o = .ret (.lit (.bool x3248)) ∧ M = Mem.nil) := by
 unfold g_huff_Full at H
 refine Go.Q.Spec.of_bodyR (az := []) (rs := [.tmp 2]) (nt := 11) Try.func39 rfl rfl (by intro t T h; simp at h) rfl rfl fun cx hnp => ?_
 refine WP.seq ?_
 refine WP.region ?_
 refine WPL.q (q_as (v := .lit (.bool _)) rfl) rfl ?_
 refine WPL.nilW ?_
 refine W.now ?_
 refine Then.n ?_
 refine WP.seq ?_
 refine WP.region ?_
 refine WPL.q (q_mv (v := .ro _ _ _) rfl) rfl ?_
 obtain ⟨⟨x3250, x3251⟩, h3248, H⟩ := bnd H
 refine WPL.c (runs_call (s := []) (t := []) (N := 0) (bor := []) fn44 rfl (s_huff_judged k x3243 x3250 x3251 h3248) ⟨rfl, trivial, by decide, rfl, trivial⟩ rfl trivial (.ren rfl rfl .nil) rfl trivial rfl) rfl ?_
 refine WPL.q (q_mv (v := .tup _) rfl) rfl ?_
 refine WPL.q (q_extract rfl rfl) rfl ?_
 refine WPL.q (q_extract rfl rfl) rfl ?_
 refine WPL.q (q_as (v := .lit (.bool _)) rfl) rfl ?_
 refine WPL.q (q_as (v := .lit (.int _ _)) rfl) rfl ?_
 refine WPL.nilW ?_
 refine W.now ?_
 refine Then.n ?_
 refine WP.seq ?_
 refine WP.region ?_
 refine WPL.q (q_mv (v := .lit (.bool _)) rfl) rfl ?_
 refine WPL.q (q_as (v := .lit (.bool _)) rfl) rfl ?_
 refine WPL.nilW ?_
 refine W.now ?_
 refine Then.n ?_
 refine WP.retW ?_
 have q0 := (Option.some.inj H)
 subst q0
 exact W.now (BodyR.mkR trivial rfl [] ⟨rfl, rfl⟩ ⟨rfl, trivial, by decide, rfl, trivial⟩ rfl rfl)
set_option maxRecDepth 100000 in
set_option maxHeartbeats 4000000 in
theorem s_inflate_stream_runs (k : Nat) (x3262 : Int) (x3263 : (List Int)) (x3264 : Int) (x3265 : (List Int)) (x3266 : (List Int)) (x3267 : (List Int)) (H : g_inflate_stream_runs k x3262 x3263 x3264 x3265 x3266 x3267 = some ()) : Go.Q.Spec Try.prog 41 4 [.ptr 0 0, .ptr 2 0, .fn 40 [.ptr 3 0]] ((((((Mem.nil.push (.cells 45 [.ptr 1 0, .whole 4, .lit (.int .i64 x3262)])).push (.cells 52 [.ro (Rd.slice (Rd.int .u8)) false x3263, .lit (.int .i64 x3264)])).push (.cells 82 [.lit (.int .i64 (List.getD x3265 0 (0 : Int))), .lit (.int .i64 (List.getD x3265 1 (0 : Int))), .lit (.int .i64 (List.getD x3265 2 (0 : Int))), .lit (.int .i64 (List.getD x3265 3 (0 : Int))), .lit (.int .i64 (List.getD x3265 4 (0 : Int))), .lit (.int .i64 (List.getD x3265 5 (0 : Int))), .lit (.int .i64 (List.getD x3265 6 (0 : Int))), .lit (.int .i64 (List.getD x3265 7 (0 : Int))), .lit (.int .i64 (List.getD x3265 8 (0 : Int))), .lit (.int .i64 (List.getD x3265 9 (0 : Int))), .lit (.int .i64 (List.getD x3265 10 (0 : Int))), .lit (.int .i64 (List.getD x3265 11 (0 : Int))), .lit (.int .i64 (List.getD x3265 12 (0 : Int))), .lit (.int .i64 (List.getD x3265 13 (0 : Int))), .lit (.int .i64 (List.getD x3265 14 (0 : Int))), .lit (.int .i64 (List.getD x3265 15 (0 : Int))), .whole 5])).push (.cells 25 [.lit (.slice none 0 0)])).push (.row 5 (Rd.int .u8) x3266)).push (.row 3 (Rd.int .i64) x3267)) (fun o M => o = .ret (.fn 46 [.ptr 6 0, .ptr 7 0, .ptr 8 0]) ∧ M = (((((((((Mem.nil.push (.cells 45 [.ptr 1 0, .whole 4, .lit (.int .i64 x3262)])).push (.cells 52 [.ro (Rd.slice (Rd.int .u8)) false x3263, .lit (.int .i64 x3264)])).push (.cells 82 [.lit (.int .i64 (List.getD x3265 0 (0 : Int))), .lit (.int .i64 (List.getD x3265 1 (0 : Int))), .lit (.int .i64 (List.getD x3265 2 (0 : Int))), .lit (.int .i64 (List.getD x3265 3 (0 : Int))), .lit (.int .i64 (List.getD x3265 4 (0 : Int))), .lit (.int .i64 (List.getD x3265 5 (0 : Int))), .lit (.int .i64 (List.getD x3265 6 (0 : Int))), .lit (.int .i64 (List.getD x3265 7 (0 : Int))), .lit (.int .i64 (List.getD x3265 8 (0 : Int))), .lit (.int .i64 (List.getD x3265 9 (0 : Int))), .lit (.int .i64 (List.getD x3265 10 (0 : Int))), .lit (.int .i64 (List.getD x3265 11 (0 : Int))), .lit (.int .i64 (List.getD x3265 12 (0 : Int))), .lit (.int .i64 (List.getD x3265 13 (0 : Int))), .lit (.int .i64 (List.getD x3265 14 (0 : Int))), .lit (.int .i64 (List.getD x3265 15 (0 : Int))), .whole 5])).push (.cells 25 [.lit (.slice none 0 0)])).push (.row 5 (Rd.int .u8) x3266)).push (.row 3 (Rd.int .i64) x3267)).push (.cells 41 [.ptr 0 0])).push (.cells 54 [.ptr 2 0])).push (.cells 69 [.fn 40 [.ptr 3 0]]))) := by
 unfold g_inflate_stream_runs at H
 refine Go.Q.Spec.of_bodyR (az := []) (rs := [.tmp 6]) (nt := 8) Try.func41 rfl rfl (by intro t T h; simp at h) rfl rfl fun cx hnp => ?_
 refine WP.seq ?_
 refine WP.region ?_
 refine WPL.d (d_box rfl rfl) rfl ?_
 refine WPL.d (d_box rfl rfl) rfl ?_
 refine WPL.d (d_box rfl rfl) rfl ?_
 refine WPL.q (q_as (v := .lit _) rfl) rfl ?_
 refine WPL.nilW ?_
 refine W.now ?_
 refine Then.n ?_
 refine WP.seq ?_
 refine WP.region ?_
 refine WPL.q (q_makeFunc) rfl ?_
 refine WPL.q (q_as (v := .fn _ _) rfl) rfl ?_
 refine WPL.nilW ?_
 refine W.now ?_
 refine Then.n ?_
 refine WP.retW ?_
 exact W.now (BodyR.mkR trivial rfl [0, 1, 2, 3, 4, 5, 6, 7, 8] ⟨rfl, rfl⟩ ⟨rfl, ⟨⟨⟨⟨⟨⟨⟨⟨⟨trivial, .inr ⟨rfl, rfl, rfl⟩⟩, .inr ⟨rfl, rfl, rfl⟩⟩, .inr ⟨rfl, rfl, rfl⟩⟩, .inr ⟨rfl, rfl, rfl⟩⟩, .inr ⟨rfl, rfl, rfl⟩⟩, .inr ⟨rfl, rfl, rfl⟩⟩, .inr ⟨rfl, rfl, rfl⟩⟩, .inr ⟨rfl, rfl, rfl⟩⟩, .inr ⟨rfl, rfl, rfl⟩⟩, by decide, rfl, ⟨⟨⟨⟨trivial, rfl⟩, rfl⟩, rfl⟩, rfl⟩⟩ rfl rfl)
set_option maxRecDepth 100000 in
set_option maxHeartbeats 4000000 in
theorem s_inflate_stream_dynamic_1__b (k : Nat) (x3377 : (List Int)) (x3385 : Int) (x3386 : Bool) (H : g_inflate_stream_dynamic_1__b k x3377 = some (x3385, x3386)) : Go.Q.Spec Try.prog 40 1 [.ptr 0 0] ((Mem.nil.push (.cells 25 [.whole 1])).push (.row 3 (Rd.int .i64) x3377)) (fun o M => o = .ret (.tup [.lit (.int .i64 x3385), .lit (.bool x3386)]) ∧ M = ((Mem.nil.push (.cells 25 [.whole 1])).push (.row 3 (Rd.int .i64) x3377))) := by
 unfold g_inflate_stream_dynamic_1__b at H
 refine Go.Q.Spec.of_bodyR (az := []) (rs := [.tmp 1, .tmp 2]) (nt := 12) Try.func40 rfl rfl (by intro t T h; simp at h) rfl rfl fun cx hnp => ?_
 refine WP.seq ?_
 refine WP.region ?_
 refine WPL.q (q_as (v := .lit (.int _ _)) rfl) rfl ?_
 refine WPL.q (q_as (v := .lit (.bool _)) rfl) rfl ?_
 refine WPL.nilW ?_
 refine W.now ?_
 refine Then.n ?_
 refine WP.seq ?_
 refine WP.seq ?_
 refine WP.region ?_
 refine WPL.q (q_load sc25 rfl rfl rfl) rfl ?_
 refine WPL.q (q_len_row sl25 rfl rfl) rfl ?_
 obtain ⟨x3389, h3389, H⟩ := bnd H
 refine WPL.q (q_nm (q_eql rfl rfl) (nm_bool h3389)) rfl ?_
 refine WPL.nilW ?_
 refine W.now ?_
 refine Then.n ?_
 refine WP.cond (t := x3389) rfl (fun hb3389 => ?_) (fun hb3389 => ?_)
 · replace H := cnt hb3389 H
   refine WP.seq ?_
   refine WP.region ?_
   refine WPL.q (q_as (v := .lit (.int _ _)) rfl) rfl ?_
   refine WPL.q (q_as (v := .lit (.bool _)) rfl) rfl ?_
   refine WPL.nilW ?_
   refine W.now ?_
   refine Then.n ?_
   refine WP.retW ?_
   have q0 := (Prod.mk.inj (Option.some.inj H)).1
   have q1 := (Prod.mk.inj (Option.some.inj H)).2
   subst q0
   subst q1
   exact W.now (Then.r (BodyR.mkR trivial rfl [0, 1] ⟨rfl, rfl⟩ ⟨rfl, ⟨⟨trivial, .inr ⟨rfl, rfl, rfl⟩⟩, .inr ⟨rfl, rfl, rfl⟩⟩, by decide, rfl, ⟨trivial, rfl⟩⟩ rfl rfl))
 replace H := cnf hb3389 H
 refine WP.skipW ?_
 refine W.now ?_
 refine Then.n ?_
 refine WP.seq ?_
 refine WP.region ?_
 refine WPL.q (q_load sc25 rfl rfl rfl) rfl ?_
 refine WPL.q (q_load sc25 rfl rfl rfl) rfl ?_
 refine WPL.q (q_len_row sl25 rfl rfl) rfl ?_
 obtain ⟨x3391, h3391, H⟩ := bnd H
 refine WPL.q (q_nm (q_sub rfl rfl) (nm_int h3391)) rfl ?_
 obtain ⟨x3392, h3392, H⟩ := bnd H
 refine WPL.q (q_index_row sl25 rfl rfl rfl (ixs h3392)) rfl ?_
 refine WPL.q (q_load_row (j := (Int.toNat x3391)) sc3 rfl rfl (ixj h3392)) rfl ?_
 refine WPL.q (q_as (v := .lit (.int _ _)) rfl) rfl ?_
 refine WPL.q (q_as (v := .lit (.bool _)) rfl) rfl ?_
 refine WPL.nilW ?_
 refine W.now ?_
 refine Then.n ?_
 refine WP.retW ?_
 have q0 := (Prod.mk.inj (Option.some.inj H)).1
 have q1 := (Prod.mk.inj (Option.some.inj H)).2
 subst q0
 subst q1
 exact W.now (BodyR.mkR trivial rfl [0, 1] ⟨rfl, rfl⟩ ⟨rfl, ⟨⟨trivial, .inr ⟨rfl, rfl, rfl⟩⟩, .inr ⟨rfl, rfl, rfl⟩⟩, by decide, rfl, ⟨trivial, rfl⟩⟩ rfl rfl)
set_option maxRecDepth 100000 in
set_option maxHeartbeats 4000000 in
theorem s_inflate_stream_dynamic (k : Nat) (x3171 : Int) (x3172 : (List Int)) (x3173 : Int) (x3174 : (List Int)) (r : (Int ⊕ ((List Int) × Int × (List Int)))) (H : g_inflate_stream_dynamic k x3171 x3172 x3173 x3174 = some r) : Go.Q.Spec Try.prog 30 2 [.ptr 0 0] (((Mem.nil.push (.cells 45 [.ptr 1 0, .whole 2, .lit (.int .i64 x3171)])).push (.cells 52 [.ro (Rd.slice (Rd.int .u8)) false x3172, .lit (.int .i64 x3173)])).push (.row 5 (Rd.int .u8) x3174)) (fun o M => match (generalizing := false) r with | (Sum.inl x3631) => o = .pan (.ifc 46 (.lit (.int .i64 x3631))) ∧ M = ((Mem.nil.push (.gone)).push (.gone)) | (Sum.inr (x3632, x3633, x3634)) => o = .ret (.tup []) ∧ M = (((Mem.nil.push (.cells 45 [.ptr 1 0, .whole 2, .lit (.int .i64 x3171)])).push (.cells 52 [.ro (Rd.slice (Rd.int .u8)) false x3632, .lit (.int .i64 x3633)])).push (.row 5 (Rd.int .u8) x3634))) := by
 unfold g_inflate_stream_dynamic at H
 refine Go.Q.Spec.of_bodyR (az := []) (rs := []) (nt := 89) Try.func30 rfl rfl (by intro t T h; simp at h) rfl rfl fun cx hnp => ?_
 refine WP.seq ?_
 refine WP.region ?_
 refine WPL.q (q_mv (v := .ptr _ _) rfl) rfl ?_
 obtain ⟨y3640, h3634, H⟩ := bnd H
 rcases y3640 with x3636 | ⟨x3637, x3638, x3639⟩
 · refine WPL.pW (runs_callP (s := [0, 1, 2]) (t := [0, 1]) (N := 3) (bor := []) fn26 rfl (s_inflate_stream_take k 5 x3171 x3172 x3173 x3174 (Sum.inl x3636) h3634) ⟨rfl, ⟨⟨⟨trivial, .inr ⟨rfl, rfl, rfl⟩⟩, .inr ⟨rfl, rfl, rfl⟩⟩, .inr ⟨rfl, rfl, rfl⟩⟩, by decide, rfl, trivial⟩ rfl trivial (.ren rfl rfl (.ren rfl rfl .nil)) rfl ⟨⟨trivial, rfl⟩, rfl⟩ rfl) ?_
   have q0 := Option.some.inj H
   subst q0
   exact W.now (Then.p (BodyR.mkP trivial [0, 1] ⟨rfl, rfl⟩ ⟨rfl, ⟨⟨trivial, .inl rfl⟩, .inl rfl⟩, by decide, rfl, ⟨⟨trivial, rfl⟩, rfl⟩⟩ rfl rfl))
 refine WPL.c (runs_call (s := [0, 1, 2]) (t := [0, 1, 3]) (N := 4) (bor := []) fn26 rfl (s_inflate_stream_take k 5 x3171 x3172 x3173 x3174 (Sum.inr (x3637, x3638, x3639)) h3634) ⟨rfl, ⟨⟨⟨trivial, .inr ⟨rfl, rfl, rfl⟩⟩, .inr ⟨rfl, rfl, rfl⟩⟩, .inr ⟨rfl, rfl, rfl⟩⟩, by decide, rfl, trivial⟩ rfl trivial (.ren rfl rfl (.ren rfl rfl .nil)) rfl ⟨⟨⟨trivial, rfl⟩, rfl⟩, rfl⟩ rfl) rfl ?_
 refine WPL.q (q_add rfl rfl) rfl ?_
 refine WPL.d (d_alloc ze3 rfl) rfl ?_
 refine WPL.s (s_store sz3 rfl rfl rfl rfl rfl) ?_
 refine WPL.nilW ?_
 refine W.now ?_
 refine Then.n ?_
 refine WP.seq ?_
 refine WP.region ?_
 refine WPL.q (q_mv (v := .ptr _ _) rfl) rfl ?_
 obtain ⟨y3646, h3640, H⟩ := bnd H
 rcases y3646 with x3642 | ⟨x3643, x3644, x3645⟩
 · refine WPL.pW (runs_callP (s := [0, 1, 3]) (t := [0, 1]) (N := 5) (bor := []) fn26 rfl (s_inflate_stream_take k 5 x3171 x3638 x3639 x3174 (Sum.inl x3642) h3640) ⟨rfl, ⟨⟨⟨trivial, .inr ⟨rfl, rfl, rfl⟩⟩, .inr ⟨rfl, rfl, rfl⟩⟩, .inr ⟨rfl, rfl, rfl⟩⟩, by decide, rfl, trivial⟩ rfl trivial (.ren rfl rfl (.ren rfl rfl .nil)) rfl ⟨⟨trivial, rfl⟩, rfl⟩ rfl) ?_
   have q0 := Option.some.inj H
   subst q0
   exact W.now (Then.p (BodyR.mkP trivial [0, 1] ⟨rfl, rfl⟩ ⟨rfl, ⟨⟨trivial, .inl rfl⟩, .inl rfl⟩, by decide, rfl, ⟨⟨trivial, rfl⟩, rfl⟩⟩ rfl rfl))
 refine WPL.c (runs_call (s := [0, 1, 3]) (t := [0, 1, 5]) (N := 6) (bor := []) fn26 rfl (s_inflate_stream_take k 5 x3171 x3638 x3639 x3174 (Sum.inr (x3643, x3644, x3645)) h3640) ⟨rfl, ⟨⟨⟨trivial, .inr ⟨rfl, rfl, rfl⟩⟩, .inr ⟨rfl, rfl, rfl⟩⟩, .inr ⟨rfl, rfl, rfl⟩⟩, by decide, rfl, trivial⟩ rfl trivial (.ren rfl rfl (.ren rfl rfl .nil)) rfl ⟨⟨⟨trivial, rfl⟩, rfl⟩, rfl⟩ rfl) rfl ?_
 refine WPL.q (q_add rfl rfl) rfl ?_
 refine WPL.d (d_alloc ze3 rfl) rfl ?_
 refine WPL.s (s_store sz3 rfl rfl rfl rfl rfl) ?_
 refine WPL.nilW ?_
 refine W.now ?_
 refine Then.n ?_
 refine WP.seq ?_
 refine WP.region ?_
 refine WPL.q (q_mv (v := .ptr _ _) rfl) rfl ?_
 obtain ⟨y3652, h3646, H⟩ := bnd H
 rcases y3652 with x3648 | ⟨x3649, x3650, x3651⟩
 · refine WPL.pW (runs_callP (s := [0, 1, 5]) (t := [0, 1]) (N := 7) (bor := []) fn26 rfl (s_inflate_stream_take k 4 x3171 x3644 x3645 x3174 (Sum.inl x3648) h3646) ⟨rfl, ⟨⟨⟨trivial, .inr ⟨rfl, rfl, rfl⟩⟩, .inr ⟨rfl, rfl, rfl⟩⟩, .inr ⟨rfl, rfl, rfl⟩⟩, by decide, rfl, trivial⟩ rfl trivial (.ren rfl rfl (.ren rfl rfl .nil)) rfl ⟨⟨trivial, rfl⟩, rfl⟩ rfl) ?_
   have q0 := Option.some.inj H
   subst q0
   exact W.now (Then.p (BodyR.mkP trivial [0, 1] ⟨rfl, rfl⟩ ⟨rfl, ⟨⟨trivial, .inl rfl⟩, .inl rfl⟩, by decide, rfl, ⟨⟨trivial, rfl⟩, rfl⟩⟩ rfl rfl))
 refine WPL.c (runs_call (s := [0, 1, 5]) (t := [0, 1, 7]) (N := 8) (bor := []) fn26 rfl (s_inflate_stream_take k 4 x3171 x3644 x3645 x3174 (Sum.inr (x3649, x3650, x3651)) h3646) ⟨rfl, ⟨⟨⟨trivial, .inr ⟨rfl, rfl, rfl⟩⟩, .inr ⟨rfl, rfl, rfl⟩⟩, .inr ⟨rfl, rfl, rfl⟩⟩, by decide, rfl, trivial⟩ rfl trivial (.ren rfl rfl (.ren rfl rfl .nil)) rfl ⟨⟨⟨trivial, rfl⟩, rfl⟩, rfl⟩ rfl) rfl ?_
 refine WPL.q (q_add rfl rfl) rfl ?_
 refine WPL.q (q_as (v := .lit (.int _ _)) rfl) rfl ?_
 refine WPL.nilW ?_
 refine W.now ?_
 refine Then.n ?_
 refine WP.seq ?_
 obtain ⟨y3668, H3666, H⟩ := bnd H
 refine WP.monoW (Q := fun x E M => match (generalizing := false) y3668 with | (Sum.inl _) => x = .panic (.ifc 46 (.lit (.int .i64 12))) ∧ E = Env.none ∧ M = (((Mem.nil.push (.cells 45 [.ptr 1 0, .whole 2, .lit (.int .i64 x3171)])).push (.cells 52 [.ro (Rd.slice (Rd.int .u8)) false x3650, .lit (.int .i64 x3651)])).push (.row 5 (Rd.int .u8) x3174)) | (Sum.inr _) => x = .normal ∧ E = ((((Env.none.upd 0 (.ptr 0 0)).upd 2 (.ptr 3 0)).upd 3 (.ptr 4 0)).upd 4 (.lit (.int .i64 (IntKind.wrap .i64 (4 + x3649))))) ∧ M = (((((Mem.nil.push (.cells 45 [.ptr 1 0, .whole 2, .lit (.int .i64 x3171)])).push (.cells 52 [.ro (Rd.slice (Rd.int .u8)) false x3650, .lit (.int .i64 x3651)])).push (.row 5 (Rd.int .u8) x3174)).push (.cells 3 [.lit (.int .i64 (IntKind.wrap .i64 (257 + x3637)))])).push (.cells 3 [.lit (.int .i64 (IntKind.wrap .i64 (1 + x3643)))]))) ?_ ?_
 · clear H
   have H := H3666
   clear H3666
   refine WP.region ?_
   refine WPL.q (q_load sc3 rfl rfl rfl) rfl ?_
   obtain ⟨x3660, h3660, H⟩ := bnd H
   refine WPL.q (q_nm (q_leq rfl rfl) (nm_bool h3660)) rfl ?_
   refine WPL.q (q_mv (v := .lit (.bool _)) rfl) rfl ?_
   refine WPL.split (t := 24) (b := x3660) rfl (fun hb3660 => ?_) (fun hb3660 => ?_)
   · replace H := cnt hb3660 H
     refine WPL.qg rfl rfl (lb hb3660) (q_load sc3 rfl rfl rfl) rfl ?_
     obtain ⟨x3662, h3662, H⟩ := bnd H
     refine WPL.qg rfl rfl (lb hb3660) (q_nm (q_leq rfl rfl) (nm_bool h3662)) rfl ?_
     refine WPL.q (q_pickT (v := .lit (.bool _)) (lb hb3660) rfl) rfl ?_
     obtain ⟨y3664, h3662, H⟩ := bnd H
     rcases y3664 with _ | _
     · refine WPL.pW (runs_callP (s := []) (t := []) (N := 8) (bor := []) fn34 rfl (s_inflate_ask k x3662 12 (Sum.inl ()) h3662) ⟨rfl, trivial, by decide, rfl, trivial⟩ rfl trivial (.ren rfl rfl (.ren rfl rfl .nil)) rfl trivial rfl) ?_
       have q0 := Option.some.inj H
       subst q0
       exact W.wkP [0, 1, 7] hnp ⟨rfl, rfl, rfl⟩ ⟨rfl, ⟨⟨⟨trivial, .inr ⟨rfl, rfl, rfl⟩⟩, .inr ⟨rfl, rfl, rfl⟩⟩, .inr ⟨rfl, rfl, rfl⟩⟩, by decide, rfl, ⟨⟨trivial, rfl⟩, rfl⟩⟩ (LeE.none rfl rfl) rfl rfl
     refine WPL.c (runs_call (s := []) (t := []) (N := 8) (bor := []) fn34 rfl (s_inflate_ask k x3662 12 (Sum.inr ()) h3662) ⟨rfl, trivial, by decide, rfl, trivial⟩ rfl trivial (.ren rfl rfl (.ren rfl rfl .nil)) rfl trivial rfl) rfl ?_
     refine WPL.nilW ?_
     have q0 := Option.some.inj H
     subst q0
     exact W.wk [0, 1, 7, 4, 6] hnp ⟨rfl, rfl, rfl⟩ ⟨rfl, ⟨⟨⟨⟨⟨trivial, .inr ⟨rfl, rfl, rfl⟩⟩, .inr ⟨rfl, rfl, rfl⟩⟩, .inr ⟨rfl, rfl, rfl⟩⟩, .inr ⟨rfl, rfl, rfl⟩⟩, .inr ⟨rfl, rfl, rfl⟩⟩, by decide, rfl, ⟨⟨trivial, rfl⟩, rfl⟩⟩ (LeE.upd rfl rfl (LeE.upd rfl rfl (LeE.upd rfl rfl (LeE.upd rfl rfl (LeE.none rfl rfl))))) rfl
   replace H := cnf hb3660 H
   refine WPL.skipg (b' := false) rfl rfl (lb hb3660) rfl rfl (.inl trivial) ?_
   refine WPL.skipg (b' := false) rfl rfl (lb hb3660) rfl rfl (.inl trivial) ?_
   refine WPL.q (q_pickF (v := .lit (.bool _)) (lb hb3660) rfl) rfl ?_
   obtain ⟨y3666, h3664, H⟩ := bnd H
   rcases y3666 with _ | _
   · refine WPL.pW (runs_callP (s := []) (t := []) (N := 8) (bor := []) fn34 rfl (s_inflate_ask k false 12 (Sum.inl ()) h3664) ⟨rfl, trivial, by decide, rfl, trivial⟩ rfl trivial (.ren rfl rfl (.ren rfl rfl .nil)) rfl trivial rfl) ?_
     have q0 := Option.some.inj H
     subst q0
     exact W.wkP [0, 1, 7] hnp ⟨rfl, rfl, rfl⟩ ⟨rfl, ⟨⟨⟨trivial, .inr ⟨rfl, rfl, rfl⟩⟩, .inr ⟨rfl, rfl, rfl⟩⟩, .inr ⟨rfl, rfl, rfl⟩⟩, by decide, rfl, ⟨⟨trivial, rfl⟩, rfl⟩⟩ (LeE.none rfl rfl) rfl rfl
   refine WPL.c (runs_call (s := []) (t := []) (N := 8) (bor := []) fn34 rfl (s_inflate_ask k false 12 (Sum.inr ()) h3664) ⟨rfl, trivial, by decide, rfl, trivial⟩ rfl trivial (.ren rfl rfl (.ren rfl rfl .nil)) rfl trivial rfl) rfl ?_
   refine WPL.nilW ?_
   have q0 := Option.some.inj H
   subst q0
   exact W.wk [0, 1, 7, 4, 6] hnp ⟨rfl, rfl, rfl⟩ ⟨rfl, ⟨⟨⟨⟨⟨trivial, .inr ⟨rfl, rfl, rfl⟩⟩, .inr ⟨rfl, rfl, rfl⟩⟩, .inr ⟨rfl, rfl, rfl⟩⟩, .inr ⟨rfl, rfl, rfl⟩⟩, .inr ⟨rfl, rfl, rfl⟩⟩, by decide, rfl, ⟨⟨trivial, rfl⟩, rfl⟩⟩ (LeE.upd rfl rfl (LeE.upd rfl rfl (LeE.upd rfl rfl (LeE.upd rfl rfl (LeE.none rfl rfl))))) rfl
 rcases y3668 with _ | _
 · rintro _ _ _ ⟨rfl, rfl, rfl⟩
   have q0 := Option.some.inj H
   subst q0
   exact W.now (Then.p (BodyR.mkP trivial [0, 1] ⟨rfl, rfl⟩ ⟨rfl, ⟨⟨trivial, .inl rfl⟩, .inl rfl⟩, by decide, rfl, ⟨⟨trivial, rfl⟩, rfl⟩⟩ rfl rfl))
 rintro _ _ _ ⟨rfl, rfl, rfl⟩
 refine W.now ?_
 refine Then.n ?_
 refine WP.seq ?_
 refine WP.region ?_
 refine WPL.q (q_buildC (l := [.lit (.int .i64 (List.getD ([16, 17, 18, 0, 8, 7, 9, 6, 10, 5, 11, 4, 12, 3, 13, 2, 14, 1, 15] : List Int) 0 (0 : Int))), .lit (.int .i64 (List.getD ([16, 17, 18, 0, 8, 7, 9, 6, 10, 5, 11, 4, 12, 3, 13, 2, 14, 1, 15] : List Int) 1 (0 : Int))), .lit (.int .i64 (List.getD ([16, 17, 18, 0, 8, 7, 9, 6, 10, 5, 11, 4, 12, 3, 13, 2, 14, 1, 15] : List Int) 2 (0 : Int))), .lit (.int .i64 (List.getD ([16, 17, 18, 0, 8, 7, 9, 6, 10, 5, 11, 4, 12, 3, 13, 2, 14, 1, 15] : List Int) 3 (0 : Int))), .lit (.int .i64 (List.getD ([16, 17, 18, 0, 8, 7, 9, 6, 10, 5, 11, 4, 12, 3, 13, 2, 14, 1, 15] : List Int) 4 (0 : Int))), .lit (.int .i64 (List.getD ([16, 17, 18, 0, 8, 7, 9, 6, 10, 5, 11, 4, 12, 3, 13, 2, 14, 1, 15] : List Int) 5 (0 : Int))), .lit (.int .i64 (List.getD ([16, 17, 18, 0, 8, 7, 9, 6, 10, 5, 11, 4, 12, 3, 13, 2, 14, 1, 15] : List Int) 6 (0 : Int))), .lit (.int .i64 (List.getD ([16, 17, 18, 0, 8, 7, 9, 6, 10, 5, 11, 4, 12, 3, 13, 2, 14, 1, 15] : List Int) 7 (0 : Int))), .lit (.int .i64 (List.getD ([16, 17, 18, 0, 8, 7, 9, 6, 10, 5, 11, 4, 12, 3, 13, 2, 14, 1, 15] : List Int) 8 (0 : Int))), .lit (.int .i64 (List.getD ([16, 17, 18, 0, 8, 7, 9, 6, 10, 5, 11, 4, 12, 3, 13, 2, 14, 1, 15] : List Int) 9 (0 : Int))), .lit (.int .i64 (List.getD ([16, 17, 18, 0, 8, 7, 9, 6, 10, 5, 11, 4, 12, 3, 13, 2, 14, 1, 15] : List Int) 10 (0 : Int))), .lit (.int .i64 (List.getD ([16, 17, 18, 0, 8, 7, 9, 6, 10, 5, 11, 4, 12, 3, 13, 2, 14, 1, 15] : List Int) 11 (0 : Int))), .lit (.int .i64 (List.getD ([16, 17, 18, 0, 8, 7, 9, 6, 10, 5, 11, 4, 12, 3, 13, 2, 14, 1, 15] : List Int) 12 (0 : Int))), .lit (.int .i64 (List.getD ([16, 17, 18, 0, 8, 7, 9, 6, 10, 5, 11, 4, 12, 3, 13, 2, 14, 1, 15] : List Int) 13 (0 : Int))), .lit (.int .i64 (List.getD ([16, 17, 18, 0, 8, 7, 9, 6, 10, 5, 11, 4, 12, 3, 13, 2, 14, 1, 15] : List Int) 14 (0 : Int))), .lit (.int .i64 (List.getD ([16, 17, 18, 0, 8, 7, 9, 6, 10, 5, 11, 4, 12, 3, 13, 2, 14, 1, 15] : List Int) 15 (0 : Int))), .lit (.int .i64 (List.getD ([16, 17, 18, 0, 8, 7, 9, 6, 10, 5, 11, 4, 12, 3, 13, 2, 14, 1, 15] : List Int) 16 (0 : Int))), .lit (.int .i64 (List.getD ([16, 17, 18, 0, 8, 7, 9, 6, 10, 5, 11, 4, 12, 3, 13, 2, 14, 1, 15] : List Int) 17 (0 : Int))), .lit (.int .i64 (List.getD ([16, 17, 18, 0, 8, 7, 9, 6, 10, 5, 11, 4, 12, 3, 13, 2, 14, 1, 15] : List Int) 18 (0 : Int)))]) bu67 (by kernel_rfl) (by kernel_rfl)) rfl ?_
 refine WPL.d (d_alloc ze67 rfl) rfl ?_
 refine WPL.s (s_store sz67 rfl rfl rfl rfl rfl) ?_
 refine WPL.nilW ?_
 refine W.now ?_
 refine Then.n ?_
 refine WP.seq ?_
 refine WP.region ?_
 refine WPL.d (d_alloc ze67 rfl) rfl ?_
 refine WPL.nilW ?_
 refine W.now ?_
 refine Then.n ?_
 refine WP.seq ?_
 refine WP.seq ?_
 refine WP.region ?_
 refine WPL.q (q_mv (v := .lit (.int _ _)) rfl) rfl ?_
 obtain ⟨h3668, H⟩ := grd H
 refine WPL.cv (Cv.frzCells (i := 5) (R := (Rd.array 19 (Rd.int .i64) (0 : Int))) (d := ([16, 17, 18, 0, 8, 7, 9, 6, 10, 5, 11, 4, 12, 3, 13, 2, 14, 1, 15] : List Int)) rfl rfl Joins.arr rfl hnp rfl rfl) ?_
 refine WPL.q (q_sliceArr_ro (i := 0) (j := (IntKind.wrap .i64 (4 + x3649))) ar67 rfl rfl rfl ⟨_, rfl⟩ h3668) rfl ?_
 obtain ⟨x3670, h3670, H⟩ := bnd H
 refine WPL.q (q_nm (q_len_ro sl25 rfl) (nm_int h3670)) rfl ?_
 refine WPL.q (q_mv (v := .lit (.int _ _)) rfl) rfl ?_
 refine WPL.nilW ?_
 refine W.now ?_
 refine Then.n ?_
 refine WP.block ?_
 refine WP.cv (Cv.weak (E' := (((((((Env.none.upd 0 (.ptr 0 0)).upd 2 (.ptr 3 0)).upd 3 (.ptr 4 0)).upd 6 (.ptr 5 0)).upd 31 (.ro (Rd.slice (Rd.int .i64)) false (List.drop (Int.toNat 0) (List.take (Int.toNat (IntKind.wrap .i64 (4 + x3649))) (fixD (0 : Int) ([16, 17, 18, 0, 8, 7, 9, 6, 10, 5, 11, 4, 12, 3, 13, 2, 14, 1, 15] : List Int) 19))))).upd 32 (.lit (.int .i64 x3670))).upd 33 (.lit (.int .i64 0)))) (M' := ((((((Mem.nil.push (.cells 45 [.ptr 1 0, .whole 2, .lit (.int .i64 x3171)])).push (.cells 52 [.ro (Rd.slice (Rd.int .u8)) false x3650, .lit (.int .i64 x3651)])).push (.row 5 (Rd.int .u8) x3174)).push (.cells 3 [.lit (.int .i64 (IntKind.wrap .i64 (257 + x3637)))])).push (.cells 3 [.lit (.int .i64 (IntKind.wrap .i64 (1 + x3643)))])).push (.cells 67 [.lit (.int .i64 (List.getD (List.replicate 19 (0 : Int)) 0 (0 : Int))), .lit (.int .i64 (List.getD (List.replicate 19 (0 : Int)) 1 (0 : Int))), .lit (.int .i64 (List.getD (List.replicate 19 (0 : Int)) 2 (0 : Int))), .lit (.int .i64 (List.getD (List.replicate 19 (0 : Int)) 3 (0 : Int))), .lit (.int .i64 (List.getD (List.replicate 19 (0 : Int)) 4 (0 : Int))), .lit (.int .i64 (List.getD (List.replicate 19 (0 : Int)) 5 (0 : Int))), .lit (.int .i64 (List.getD (List.replicate 19 (0 : Int)) 6 (0 : Int))), .lit (.int .i64 (List.getD (List.replicate 19 (0 : Int)) 7 (0 : Int))), .lit (.int .i64 (List.getD (List.replicate 19 (0 : Int)) 8 (0 : Int))), .lit (.int .i64 (List.getD (List.replicate 19 (0 : Int)) 9 (0 : Int))), .lit (.int .i64 (List.getD (List.replicate 19 (0 : Int)) 10 (0 : Int))), .lit (.int .i64 (List.getD (List.replicate 19 (0 : Int)) 11 (0 : Int))), .lit (.int .i64 (List.getD (List.replicate 19 (0 : Int)) 12 (0 : Int))), .lit (.int .i64 (List.getD (List.replicate 19 (0 : Int)) 13 (0 : Int))), .lit (.int .i64 (List.getD (List.replicate 19 (0 : Int)) 14 (0 : Int))), .lit (.int .i64 (List.getD (List.replicate 19 (0 : Int)) 15 (0 : Int))), .lit (.int .i64 (List.getD (List.replicate 19 (0 : Int)) 16 (0 : Int))), .lit (.int .i64 (List.getD (List.replicate 19 (0 : Int)) 17 (0 : Int))), .lit (.int .i64 (List.getD (List.replicate 19 (0 : Int)) 18 (0 : Int)))]))) [0, 1, 2, 3, 4, 6] hnp ⟨rfl, ⟨⟨⟨⟨⟨⟨trivial, .inr ⟨rfl, rfl, rfl⟩⟩, .inr ⟨rfl, rfl, rfl⟩⟩, .inr ⟨rfl, rfl, rfl⟩⟩, .inr ⟨rfl, rfl, rfl⟩⟩, .inr ⟨rfl, rfl, rfl⟩⟩, .inr ⟨rfl, rfl, rfl⟩⟩, by decide, rfl, ⟨⟨trivial, rfl⟩, rfl⟩⟩ (LeE.upd rfl rfl (LeE.upd rfl rfl (LeE.upd rfl rfl (LeE.upd rfl rfl (LeE.upd rfl rfl (LeE.upd rfl rfl (LeE.upd rfl rfl (LeE.none rfl rfl))))))))) ?_
 obtain ⟨y3710, H3708, H⟩ := bnd H
 refine WP.monoW (Q := fun x E M => match (generalizing := false) y3710 with | (Sum.inl x3695) => x = .panic (.ifc 46 (.lit (.int .i64 x3695))) ∧ E = Env.none ∧ M = ((Mem.nil.push (.gone)).push (.gone)) | (Sum.inr (x3696, x3697, x3698)) => x = .exit 0 ∧ E = ((((Env.none.upd 0 (.ptr 0 0)).upd 2 (.ptr 3 0)).upd 3 (.ptr 4 0)).upd 6 (.ptr 5 0)) ∧ M = ((((((Mem.nil.push (.cells 45 [.ptr 1 0, .whole 2, .lit (.int .i64 x3171)])).push (.cells 52 [.ro (Rd.slice (Rd.int .u8)) false x3696, .lit (.int .i64 x3697)])).push (.row 5 (Rd.int .u8) x3174)).push (.cells 3 [.lit (.int .i64 (IntKind.wrap .i64 (257 + x3637)))])).push (.cells 3 [.lit (.int .i64 (IntKind.wrap .i64 (1 + x3643)))])).push (.cells 67 [.lit (.int .i64 (List.getD x3698 0 (0 : Int))), .lit (.int .i64 (List.getD x3698 1 (0 : Int))), .lit (.int .i64 (List.getD x3698 2 (0 : Int))), .lit (.int .i64 (List.getD x3698 3 (0 : Int))), .lit (.int .i64 (List.getD x3698 4 (0 : Int))), .lit (.int .i64 (List.getD x3698 5 (0 : Int))), .lit (.int .i64 (List.getD x3698 6 (0 : Int))), .lit (.int .i64 (List.getD x3698 7 (0 : Int))), .lit (.int .i64 (List.getD x3698 8 (0 : Int))), .lit (.int .i64 (List.getD x3698 9 (0 : Int))), .lit (.int .i64 (List.getD x3698 10 (0 : Int))), .lit (.int .i64 (List.getD x3698 11 (0 : Int))), .lit (.int .i64 (List.getD x3698 12 (0 : Int))), .lit (.int .i64 (List.getD x3698 13 (0 : Int))), .lit (.int .i64 (List.getD x3698 14 (0 : Int))), .lit (.int .i64 (List.getD x3698 15 (0 : Int))), .lit (.int .i64 (List.getD x3698 16 (0 : Int))), .lit (.int .i64 (List.getD x3698 17 (0 : Int))), .lit (.int .i64 (List.getD x3698 18 (0 : Int)))]))) ?_ ?_
 · refine WP.loop (β := Int × (List Int) × Int × (List Int)) (fun n b => g_inflate_stream_dynamic_l0 k x3171 x3174 x3649 x3670 n b.1 b.2.1 b.2.2.1 b.2.2.2 = some y3710) (fun b => (((((((Env.none.upd 0 (.ptr 0 0)).upd 2 (.ptr 3 0)).upd 3 (.ptr 4 0)).upd 6 (.ptr 5 0)).upd 31 (.ro (Rd.slice (Rd.int .i64)) false (List.drop (Int.toNat 0) (List.take (Int.toNat (IntKind.wrap .i64 (4 + x3649))) (fixD (0 : Int) ([16, 17, 18, 0, 8, 7, 9, 6, 10, 5, 11, 4, 12, 3, 13, 2, 14, 1, 15] : List Int) 19))))).upd 32 (.lit (.int .i64 x3670))).upd 33 (.lit (.int .i64 b.1)))) (fun b => ((((((Mem.nil.push (.cells 45 [.ptr 1 0, .whole 2, .lit (.int .i64 x3171)])).push (.cells 52 [.ro (Rd.slice (Rd.int .u8)) false b.2.1, .lit (.int .i64 b.2.2.1)])).push (.row 5 (Rd.int .u8) x3174)).push (.cells 3 [.lit (.int .i64 (IntKind.wrap .i64 (257 + x3637)))])).push (.cells 3 [.lit (.int .i64 (IntKind.wrap .i64 (1 + x3643)))])).push (.cells 67 [.lit (.int .i64 (List.getD b.2.2.2 0 (0 : Int))), .lit (.int .i64 (List.getD b.2.2.2 1 (0 : Int))), .lit (.int .i64 (List.getD b.2.2.2 2 (0 : Int))), .lit (.int .i64 (List.getD b.2.2.2 3 (0 : Int))), .lit (.int .i64 (List.getD b.2.2.2 4 (0 : Int))), .lit (.int .i64 (List.getD b.2.2.2 5 (0 : Int))), .lit (.int .i64 (List.getD b.2.2.2 6 (0 : Int))), .lit (.int .i64 (List.getD b.2.2.2 7 (0 : Int))), .lit (.int .i64 (List.getD b.2.2.2 8 (0 : Int))), .lit (.int .i64 (List.getD b.2.2.2 9 (0 : Int))), .lit (.int .i64 (List.getD b.2.2.2 10 (0 : Int))), .lit (.int .i64 (List.getD b.2.2.2 11 (0 : Int))), .lit (.int .i64 (List.getD b.2.2.2 12 (0 : Int))), .lit (.int .i64 (List.getD b.2.2.2 13 (0 : Int))), .lit (.int .i64 (List.getD b.2.2.2 14 (0 : Int))), .lit (.int .i64 (List.getD b.2.2.2 15 (0 : Int))), .lit (.int .i64 (List.getD b.2.2.2 16 (0 : Int))), .lit (.int .i64 (List.getD b.2.2.2 17 (0 : Int))), .lit (.int .i64 (List.getD b.2.2.2 18 (0 : Int)))]))) k (0, x3650, x3651, (List.replicate 19 (0 : Int))) H3708 rfl rfl ?_
   rintro n ⟨x3681, x3682, x3683, x3684⟩ H
   obtain _ | n := n
   · exact nf rfl H
   rw [g_inflate_stream_dynamic_l0.eq_2] at H
   show WP _ _ _ _ (((((((Env.none.upd 0 (.ptr 0 0)).upd 2 (.ptr 3 0)).upd 3 (.ptr 4 0)).upd 6 (.ptr 5 0)).upd 31 (.ro (Rd.slice (Rd.int .i64)) false (List.drop (Int.toNat 0) (List.take (Int.toNat (IntKind.wrap .i64 (4 + x3649))) (fixD (0 : Int) ([16, 17, 18, 0, 8, 7, 9, 6, 10, 5, 11, 4, 12, 3, 13, 2, 14, 1, 15] : List Int) 19))))).upd 32 (.lit (.int .i64 x3670))).upd 33 (.lit (.int .i64 x3681))) ((((((Mem.nil.push (.cells 45 [.ptr 1 0, .whole 2, .lit (.int .i64 x3171)])).push (.cells 52 [.ro (Rd.slice (Rd.int .u8)) false x3682, .lit (.int .i64 x3683)])).push (.row 5 (Rd.int .u8) x3174)).push (.cells 3 [.lit (.int .i64 (IntKind.wrap .i64 (257 + x3637)))])).push (.cells 3 [.lit (.int .i64 (IntKind.wrap .i64 (1 + x3643)))])).push (.cells 67 [.lit (.int .i64 (List.getD x3684 0 (0 : Int))), .lit (.int .i64 (List.getD x3684 1 (0 : Int))), .lit (.int .i64 (List.getD x3684 2 (0 : Int))), .lit (.int .i64 (List.getD x3684 3 (0 : Int))), .lit (.int .i64 (List.getD x3684 4 (0 : Int))), .lit (.int .i64 (List.getD x3684 5 (0 : Int))), .lit (.int .i64 (List.getD x3684 6 (0 : Int))), .lit (.int .i64 (List.getD x3684 7 (0 : Int))), .lit (.int .i64 (List.getD x3684 8 (0 : Int))), .lit (.int .i64 (List.getD x3684 9 (0 : Int))), .lit (.int .i64 (List.getD x3684 10 (0 : Int))), .lit (.int .i64 (List.getD x3684 11 (0 : Int))), .lit (.int .i64 (List.getD x3684 12 (0 : Int))), .lit (.int .i64 (List.getD x3684 13 (0 : Int))), .lit (.int .i64 (List.getD x3684 14 (0 : Int))), .lit (.int .i64 (List.getD x3684 15 (0 : Int))), .lit (.int .i64 (List.getD x3684 16 (0 : Int))), .lit (.int .i64 (List.getD x3684 17 (0 : Int))), .lit (.int .i64 (List.getD x3684 18 (0 : Int)))])) _
   refine WP.seq ?_
   refine WP.region ?_
   refine WPL.q (q_lss rfl rfl) rfl ?_
   refine WPL.nilW ?_
   refine W.now ?_
   refine Then.n ?_
   refine WP.seq ?_
   refine WP.cond (t := (decide (x3681 < x3670))) rfl (fun hb3699 => ?_) (fun hb3699 => ?_)
   · replace H := cnt hb3699 H
     refine WP.skipW ?_
     refine W.now ?_
     refine Then.n ?_
     refine WP.seq ?_
     refine WP.block ?_
     refine WP.seq ?_
     refine WP.region ?_
     obtain ⟨x3701, h3701, H⟩ := bnd H
     refine WPL.q (q_index_ro sl25 rfl rfl rfl h3701) rfl ?_
     refine WPL.q (q_load_sc sc3 rfl) rfl ?_
     refine WPL.q (q_as (v := .lit (.int _ _)) rfl) rfl ?_
     refine WPL.nilW ?_
     refine W.now ?_
     refine Then.n ?_
     refine WP.region ?_
     refine WPL.q (q_mv (v := .lit (.int _ _)) rfl) rfl ?_
     refine WPL.q (q_mv (v := .ptr _ _) rfl) rfl ?_
     obtain ⟨y3707, h3701, H⟩ := bnd H
     rcases y3707 with x3703 | ⟨x3704, x3705, x3706⟩
     · refine WPL.pW (runs_callP (s := [0, 1, 2]) (t := [0, 1]) (N := 6) (bor := []) fn26 rfl (s_inflate_stream_take k 3 x3171 x3682 x3683 x3174 (Sum.inl x3703) h3701) ⟨rfl, ⟨⟨⟨trivial, .inr ⟨rfl, rfl, rfl⟩⟩, .inr ⟨rfl, rfl, rfl⟩⟩, .inr ⟨rfl, rfl, rfl⟩⟩, by decide, rfl, trivial⟩ rfl trivial (.ren rfl rfl (.ren rfl rfl .nil)) rfl ⟨⟨trivial, rfl⟩, rfl⟩ rfl) ?_
       have q0 := Option.some.inj H
       subst q0
       exact W.wkP [0, 1] hnp (InBlock.p (Then.p (Then.p ⟨rfl, rfl, rfl⟩))) ⟨rfl, ⟨⟨trivial, .inl rfl⟩, .inl rfl⟩, by decide, rfl, ⟨⟨trivial, rfl⟩, rfl⟩⟩ (LeE.none rfl rfl) rfl rfl
     refine WPL.c (runs_call (s := [0, 1, 2]) (t := [0, 1, 6]) (N := 7) (bor := []) fn26 rfl (s_inflate_stream_take k 3 x3171 x3682 x3683 x3174 (Sum.inr (x3704, x3705, x3706)) h3701) ⟨rfl, ⟨⟨⟨trivial, .inr ⟨rfl, rfl, rfl⟩⟩, .inr ⟨rfl, rfl, rfl⟩⟩, .inr ⟨rfl, rfl, rfl⟩⟩, by decide, rfl, trivial⟩ rfl trivial (.ren rfl rfl (.ren rfl rfl .nil)) rfl ⟨⟨⟨trivial, rfl⟩, rfl⟩, rfl⟩ rfl) rfl ?_
     obtain ⟨h3707, H⟩ := grd H
     refine WPL.q (q_indexArr ar67 rfl rfl h3707 rfl) rfl ?_
     refine WPL.s (s_store_arr (f := (fun z : Int => AVal.lit (.int .i64 z))) (d0 := (0 : Int)) (xs := x3684) (n := 19) (off := 0) (j := (Int.toNat x3701)) (v := x3704) sz3 rfl rfl rfl rfl rfl (natlt h3707) (addone _ _)) ?_
     refine WPL.nilW ?_
     refine W.now ?_
     refine InBlock.n ?_
     refine Then.n ?_
     refine WP.region ?_
     refine WPL.q (q_add rfl rfl) rfl ?_
     refine WPL.q (q_mv (v := .lit (.int _ _)) rfl) rfl ?_
     refine WPL.nilW ?_
     exact W.wk [0, 1, 6, 3, 4, 5] hnp (Then.n ⟨n, ((IntKind.wrap .i64 (x3681 + 1)), x3705, x3706, (setD (0 : Int) x3684 19 (Int.toNat x3701) x3704)), Nat.lt_succ_self n, H, rfl, rfl⟩) ⟨rfl, ⟨⟨⟨⟨⟨⟨trivial, .inr ⟨rfl, rfl, rfl⟩⟩, .inr ⟨rfl, rfl, rfl⟩⟩, .inr ⟨rfl, rfl, rfl⟩⟩, .inr ⟨rfl, rfl, rfl⟩⟩, .inr ⟨rfl, rfl, rfl⟩⟩, .inr ⟨rfl, rfl, rfl⟩⟩, by decide, rfl, ⟨⟨trivial, rfl⟩, rfl⟩⟩ (LeE.upd rfl rfl (LeE.upd rfl rfl (LeE.upd rfl rfl (LeE.upd rfl rfl (LeE.upd rfl rfl (LeE.upd rfl rfl (LeE.upd rfl rfl (LeE.none rfl rfl)))))))) rfl
   replace H := cnf hb3699 H
   refine WP.exitW ?_
   have q0 := Option.some.inj H
   subst q0
   exact W.wk [0, 1, 2, 3, 4, 5] hnp (Then.x (Then.x ⟨rfl, rfl, rfl⟩)) ⟨rfl, ⟨⟨⟨⟨⟨⟨trivial, .inr ⟨rfl, rfl, rfl⟩⟩, .inr ⟨rfl, rfl, rfl⟩⟩, .inr ⟨rfl, rfl, rfl⟩⟩, .inr ⟨rfl, rfl, rfl⟩⟩, .inr ⟨rfl, rfl, rfl⟩⟩, .inr ⟨rfl, rfl, rfl⟩⟩, by decide, rfl, ⟨⟨trivial, rfl⟩, rfl⟩⟩ (LeE.upd rfl rfl (LeE.upd rfl rfl (LeE.upd rfl rfl (LeE.upd rfl rfl (LeE.none rfl rfl))))) rfl
 rcases y3710 with x3695 | ⟨x3696, x3697, x3698⟩
 · rintro _ _ _ ⟨rfl, rfl, rfl⟩
   have q0 := Option.some.inj H
   subst q0
   exact W.now (InBlock.p (Then.p (BodyR.mkP trivial [0, 1] ⟨rfl, rfl⟩ ⟨rfl, ⟨⟨trivial, .inl rfl⟩, .inl rfl⟩, by decide, rfl, ⟨⟨trivial, rfl⟩, rfl⟩⟩ rfl rfl)))
 rintro _ _ _ ⟨rfl, rfl, rfl⟩
 refine W.now ?_
 refine InBlock.x0 ?_
 refine Then.n ?_
 refine WP.seq ?_
 refine WP.region ?_
 obtain ⟨h3710, H⟩ := grd H
 refine WPL.cv (Cv.frzCells (i := 5) (R := (Rd.array 19 (Rd.int .i64) (0 : Int))) (d := x3698) rfl rfl Joins.arr rfl hnp rfl rfl) ?_
 refine WPL.q (q_sliceArr_ro (i := 0) (j := (19 : Int)) ar67 rfl rfl rfl rfl h3710) rfl ?_
 obtain ⟨x3713, h3711, H⟩ := bnd H
 refine WPL.c (runs_call (s := []) (t := []) (N := 6) (bor := []) fn39 rfl (s_huff_Full k (List.drop (Int.toNat 0) (List.take (Int.toNat (19 : Int)) (fixD (0 : Int) x3698 19))) x3713 h3711) ⟨rfl, trivial, by decide, rfl, trivial⟩ rfl trivial (.ren rfl rfl .nil) rfl trivial rfl) rfl ?_
 obtain ⟨y3715, h3713, H⟩ := bnd H
 rcases y3715 with _ | _
 · refine WPL.pW (runs_callP (s := []) (t := []) (N := 6) (bor := []) fn34 rfl (s_inflate_ask k x3713 11 (Sum.inl ()) h3713) ⟨rfl, trivial, by decide, rfl, trivial⟩ rfl trivial (.ren rfl rfl (.ren rfl rfl .nil)) rfl trivial rfl) ?_
   have q0 := Option.some.inj H
   subst q0
   exact W.now (Then.p (BodyR.mkP trivial [0, 1] ⟨rfl, rfl⟩ ⟨rfl, ⟨⟨trivial, .inl rfl⟩, .inl rfl⟩, by decide, rfl, ⟨⟨trivial, rfl⟩, rfl⟩⟩ rfl rfl))
 refine WPL.c (runs_call (s := []) (t := []) (N := 6) (bor := []) fn34 rfl (s_inflate_ask k x3713 11 (Sum.inr ()) h3713) ⟨rfl, trivial, by decide, rfl, trivial⟩ rfl trivial (.ren rfl rfl (.ren rfl rfl .nil)) rfl trivial rfl) rfl ?_
 refine WPL.nilW ?_
 refine W.now ?_
 refine Then.n ?_
 refine WP.seq ?_
 refine WP.region ?_
 refine WPL.d (d_alloc ze25 rfl) rfl ?_
 refine WPL.nilW ?_
 refine W.now ?_
 refine Then.n ?_
 refine WP.seq ?_
 refine WP.region ?_
 refine WPL.q (q_makeFunc) rfl ?_
 refine WPL.q (q_as (v := .fn _ _) rfl) rfl ?_
 refine WPL.nilW ?_
 refine W.now ?_
 refine Then.n ?_
 refine WP.seq ?_
 refine WP.seq ?_
 refine WP.region ?_
 refine WPL.q (q_mv (v := .ptr _ _) rfl) rfl ?_
 obtain ⟨h3715, H⟩ := grd H
 refine WPL.q (q_sliceArr_ro (i := 0) (j := (19 : Int)) ar67 rfl rfl rfl rfl h3715) rfl ?_
 obtain ⟨y3721, h3716, H⟩ := bnd H
 rcases y3721 with x3718 | ⟨x3719, x3720⟩
 · refine WPL.pW (runs_callP (s := []) (t := []) (N := 7) (bor := []) fn29 rfl (s_inflate_code k (List.drop (Int.toNat 0) (List.take (Int.toNat (19 : Int)) (fixD (0 : Int) x3698 19))) (Sum.inl x3718) h3716) ⟨rfl, trivial, by decide, rfl, trivial⟩ rfl trivial (.ren rfl rfl .nil) rfl trivial rfl) ?_
   have q0 := Option.some.inj H
   subst q0
   exact W.now (Then.p (Then.p (BodyR.mkP trivial [0, 1] ⟨rfl, rfl⟩ ⟨rfl, ⟨⟨trivial, .inl rfl⟩, .inl rfl⟩, by decide, rfl, ⟨⟨trivial, rfl⟩, rfl⟩⟩ rfl rfl)))
 refine WPL.c (runs_call (s := []) (t := [7, 8]) (N := 9) (bor := []) fn29 rfl (s_inflate_code k (List.drop (Int.toNat 0) (List.take (Int.toNat (19 : Int)) (fixD (0 : Int) x3698 19))) (Sum.inr (x3719, x3720)) h3716) ⟨rfl, trivial, by decide, rfl, trivial⟩ rfl trivial (.ren rfl rfl .nil) rfl ⟨⟨trivial, rfl⟩, rfl⟩ rfl) rfl ?_
 refine WPL.q (q_mv (v := .fn _ _) rfl) rfl ?_
 obtain ⟨_, h3721, H⟩ := bnd H
 refine WPL.c (runs_call (s := [0, 1, 7, 6, 2, 8]) (t := [0, 1, 7, 6, 9, 10, 11, 12, 13]) (N := 14) (bor := []) fn41 rfl (s_inflate_stream_runs k x3171 x3696 x3697 x3719 x3174 x3720 h3721) ⟨rfl, ⟨⟨⟨⟨⟨⟨trivial, .inr ⟨rfl, rfl, rfl⟩⟩, .inr ⟨rfl, rfl, rfl⟩⟩, .inr ⟨rfl, rfl, rfl⟩⟩, .inr ⟨rfl, rfl, rfl⟩⟩, .inr ⟨rfl, rfl, rfl⟩⟩, .inr ⟨rfl, rfl, rfl⟩⟩, by decide, rfl, trivial⟩ rfl trivial (.ren rfl rfl (.ren rfl rfl (.ren rfl rfl .nil))) rfl ⟨⟨⟨⟨⟨⟨⟨⟨⟨trivial, rfl⟩, rfl⟩, rfl⟩, rfl⟩, rfl⟩, rfl⟩, rfl⟩, rfl⟩, rfl⟩ rfl) rfl ?_
 refine WPL.nilW ?_
 refine W.now ?_
 refine Then.n ?_
 refine WP.block ?_
 refine WP.cv (Cv.nullMark (N := 14) rfl rfl) ?_
 refine WP.range (nti := 50) (n := 15) rfl rfl Try.func46 rfl (by kernel_rfl) rfl rfl rfl rfl fun l_3722 r_3722 aC3722 hp3722 ha3722 hb3722 ht3722 hs3722 hf3722 => ?_
 refine WP.seq ?_
 refine WP.region ?_
 refine WPL.q (q_as (v := .lit (.bool _)) rfl) rfl ?_
 refine WPL.nilW ?_
 refine W.now ?_
 refine Then.n ?_
 refine WP.block ?_
 refine WP.cv (Cv.virC 3 (Rd.int .i64) (N := 17) rfl rfl (i := 6) (off := 0) rfl rfl) ?_
 refine WP.cv (Cv.weak (E' := ((((((⟨fun _ => .any, [], [⟨aC3722, ((((((Env.none.upd 0 (.ptr 0 0)).upd 2 (.ptr 10 0)).upd 3 (.ptr 11 0)).upd 9 (.ptr 8 0)).upd 50 (.fn 46 [.ptr 3 0, .ptr 4 0, .ptr 7 0]))).v, [12, 13], some (14, l_3722)⟩], []⟩ : Env).upd 0 (.lit (.func (.yield l_3722) #[] #[]))).upd 1 (.ptr 3 0)).upd 2 (.ptr 4 0)).upd 3 (.ptr 7 0)).upd 5 (.lit (.bool true)))) (M' := (((((((((((((((Mem.nil.push (.cells 45 [.ptr 1 0, .whole 2, .lit (.int .i64 x3171)])).push (.cells 52 [.ro (Rd.slice (Rd.int .u8)) false x3696, .lit (.int .i64 x3697)])).push (.row 5 (Rd.int .u8) x3174)).push (.cells 41 [.ptr 0 0])).push (.cells 54 [.ptr 5 0])).push (.cells 82 [.lit (.int .i64 (List.getD x3719 0 (0 : Int))), .lit (.int .i64 (List.getD x3719 1 (0 : Int))), .lit (.int .i64 (List.getD x3719 2 (0 : Int))), .lit (.int .i64 (List.getD x3719 3 (0 : Int))), .lit (.int .i64 (List.getD x3719 4 (0 : Int))), .lit (.int .i64 (List.getD x3719 5 (0 : Int))), .lit (.int .i64 (List.getD x3719 6 (0 : Int))), .lit (.int .i64 (List.getD x3719 7 (0 : Int))), .lit (.int .i64 (List.getD x3719 8 (0 : Int))), .lit (.int .i64 (List.getD x3719 9 (0 : Int))), .lit (.int .i64 (List.getD x3719 10 (0 : Int))), .lit (.int .i64 (List.getD x3719 11 (0 : Int))), .lit (.int .i64 (List.getD x3719 12 (0 : Int))), .lit (.int .i64 (List.getD x3719 13 (0 : Int))), .lit (.int .i64 (List.getD x3719 14 (0 : Int))), .lit (.int .i64 (List.getD x3719 15 (0 : Int))), .whole 6])).push (.row 3 (Rd.int .i64) x3720)).push (.cells 69 [.fn 40 [.ptr 8 0]])).push (.cells 25 [.whole 9])).push (.row 3 (Rd.int .i64) ([] : List Int))).push (.cells 3 [.lit (.int .i64 (IntKind.wrap .i64 (257 + x3637)))])).push (.cells 3 [.lit (.int .i64 (IntKind.wrap .i64 (1 + x3643)))])).push (.obj (Obj.deferred (some [])))).push (.bag)).push (.obj (lp r_3722 .ready none)))) [0, 1, 9, 11, 12, 7, 10, 13, 6, 17, 3, 4, 15, 14, 16] hnp ⟨rfl, ⟨⟨⟨⟨⟨⟨⟨⟨⟨⟨⟨⟨⟨⟨⟨trivial, .inr ⟨rfl, rfl, rfl⟩⟩, .inr ⟨rfl, rfl, rfl⟩⟩, .inr ⟨rfl, rfl, rfl⟩⟩, .inr ⟨rfl, rfl, rfl⟩⟩, .inr ⟨rfl, rfl, rfl⟩⟩, .inr ⟨rfl, rfl, rfl⟩⟩, .inr ⟨rfl, rfl, rfl⟩⟩, .inr ⟨rfl, rfl, rfl⟩⟩, .inr ⟨rfl, rfl, rfl⟩⟩, .inr ⟨rfl, rfl, rfl⟩⟩, .inr ⟨rfl, rfl, rfl⟩⟩, .inr ⟨rfl, rfl, rfl⟩⟩, .inr ⟨rfl, rfl, rfl⟩⟩, .inr ⟨rfl, rfl, rfl⟩⟩, .inr ⟨rfl, rfl, rfl⟩⟩, by decide, rfl, ⟨⟨trivial, rfl⟩, rfl⟩⟩ (LeE.upd rfl rfl (LeE.upd rfl rfl (LeE.upd rfl rfl (LeE.upd rfl rfl (LeE.upd rfl rfl (LeE.noneD rfl rfl (.cons ⟨rfl, (LeV.upd rfl rfl (LeV.upd rfl rfl (LeV.upd rfl rfl (LeV.upd rfl rfl (LeV.upd rfl rfl LeV.none))))), rfl, rfl, rfl, rfl⟩ .nil)))))))) ?_
 obtain ⟨y4148, H4146, H⟩ := bnd H
 refine WP.monoW (Q := fun x E M => match (generalizing := false) y4148 with | (Sum.inl (x4031, x4032)) => x = .panic (.ifc 46 (.lit (.int .i64 x4031))) ∧ E = (⟨fun _ => .any, [], [⟨aC3722, (((((Env.none.upd 2 (.ptr 2 0)).upd 3 (.ptr 3 0)).upd 9 (.ptr 4 0)).upd 50 (.fn 46 [.ptr 6 0, .ptr 7 0, .ptr 9 0]))).v, [10, 11], some (12, l_3722)⟩], []⟩ : Env) ∧ M = (((((((((((((Mem.nil.push (.gone)).push (.gone)).push (.cells 3 [.lit (.int .i64 (IntKind.wrap .i64 (257 + x3637)))])).push (.cells 3 [.lit (.int .i64 (IntKind.wrap .i64 (1 + x3643)))])).push (.cells 25 [.whole 5])).push (.row 3 (Rd.int .i64) x4032)).push (.cells 41 [.ptr 0 0])).push (.cells 54 [.ptr 8 0])).push (.gone)).push (.cells 69 [.fn 40 [.ptr 4 0]])).push (.obj (Obj.deferred (some [])))).push (.bag)).push (.obj (lp r_3722 .ready none))) | (Sum.inr (Sum.inl (x4033, x4034, x4035))) => x = .panic (.ifc 46 (.lit (.int .i64 12))) ∧ E = (⟨fun _ => .any, [], [⟨aC3722, ((((((Env.none.upd 0 (.ptr 0 0)).upd 2 (.ptr 3 0)).upd 3 (.ptr 4 0)).upd 9 (.ptr 5 0)).upd 50 (.fn 46 [.ptr 7 0, .ptr 8 0, .ptr 11 0]))).v, [12, 13], some (14, l_3722)⟩], []⟩ : Env) ∧ M = (((((((((((((((Mem.nil.push (.cells 45 [.ptr 1 0, .whole 2, .lit (.int .i64 x3171)])).push (.cells 52 [.ro (Rd.slice (Rd.int .u8)) false x4033, .lit (.int .i64 x4034)])).push (.row 5 (Rd.int .u8) x3174)).push (.cells 3 [.lit (.int .i64 (IntKind.wrap .i64 (257 + x3637)))])).push (.cells 3 [.lit (.int .i64 (IntKind.wrap .i64 (1 + x3643)))])).push (.cells 25 [.whole 6])).push (.row 3 (Rd.int .i64) x4035)).push (.cells 41 [.ptr 0 0])).push (.cells 54 [.ptr 9 0])).push (.cells 82 [.lit (.int .i64 (List.getD x3719 0 (0 : Int))), .lit (.int .i64 (List.getD x3719 1 (0 : Int))), .lit (.int .i64 (List.getD x3719 2 (0 : Int))), .lit (.int .i64 (List.getD x3719 3 (0 : Int))), .lit (.int .i64 (List.getD x3719 4 (0 : Int))), .lit (.int .i64 (List.getD x3719 5 (0 : Int))), .lit (.int .i64 (List.getD x3719 6 (0 : Int))), .lit (.int .i64 (List.getD x3719 7 (0 : Int))), .lit (.int .i64 (List.getD x3719 8 (0 : Int))), .lit (.int .i64 (List.getD x3719 9 (0 : Int))), .lit (.int .i64 (List.getD x3719 10 (0 : Int))), .lit (.int .i64 (List.getD x3719 11 (0 : Int))), .lit (.int .i64 (List.getD x3719 12 (0 : Int))), .lit (.int .i64 (List.getD x3719 13 (0 : Int))), .lit (.int .i64 (List.getD x3719 14 (0 : Int))), .lit (.int .i64 (List.getD x3719 15 (0 : Int))), .whole 10])).push (.row 3 (Rd.int .i64) x3720)).push (.cells 69 [.fn 40 [.ptr 5 0]])).push (.obj (Obj.deferred (some [])))).push (.bag)).push (.obj (lp r_3722 .ready none))) | (Sum.inr (Sum.inr (Sum.inl (x4036, x4037)))) => x = .panic (.ifc 46 (.lit (.int .i64 x4036))) ∧ E = (⟨fun _ => .any, [], [⟨aC3722, (((((Env.none.upd 2 (.ptr 2 0)).upd 3 (.ptr 3 0)).upd 9 (.ptr 4 0)).upd 50 (.fn 46 [.ptr 6 0, .ptr 7 0, .ptr 10 0]))).v, [11, 12], some (13, l_3722)⟩], []⟩ : Env) ∧ M = ((((((((((((((Mem.nil.push (.gone)).push (.gone)).push (.cells 3 [.lit (.int .i64 (IntKind.wrap .i64 (257 + x3637)))])).push (.cells 3 [.lit (.int .i64 (IntKind.wrap .i64 (1 + x3643)))])).push (.cells 25 [.whole 5])).push (.row 3 (Rd.int .i64) x4037)).push (.cells 41 [.ptr 0 0])).push (.cells 54 [.ptr 8 0])).push (.cells 82 [.lit (.int .i64 (List.getD x3719 0 (0 : Int))), .lit (.int .i64 (List.getD x3719 1 (0 : Int))), .lit (.int .i64 (List.getD x3719 2 (0 : Int))), .lit (.int .i64 (List.getD x3719 3 (0 : Int))), .lit (.int .i64 (List.getD x3719 4 (0 : Int))), .lit (.int .i64 (List.getD x3719 5 (0 : Int))), .lit (.int .i64 (List.getD x3719 6 (0 : Int))), .lit (.int .i64 (List.getD x3719 7 (0 : Int))), .lit (.int .i64 (List.getD x3719 8 (0 : Int))), .lit (.int .i64 (List.getD x3719 9 (0 : Int))), .lit (.int .i64 (List.getD x3719 10 (0 : Int))), .lit (.int .i64 (List.getD x3719 11 (0 : Int))), .lit (.int .i64 (List.getD x3719 12 (0 : Int))), .lit (.int .i64 (List.getD x3719 13 (0 : Int))), .lit (.int .i64 (List.getD x3719 14 (0 : Int))), .lit (.int .i64 (List.getD x3719 15 (0 : Int))), .whole 9])).push (.row 3 (Rd.int .i64) x3720)).push (.cells 69 [.fn 40 [.ptr 4 0]])).push (.obj (Obj.deferred (some [])))).push (.bag)).push (.obj (lp r_3722 .ready none))) | (Sum.inr (Sum.inr (Sum.inr (Sum.inl (x4038, x4039, x4040))))) => x = .panic (.ifc 46 (.lit (.int .i64 12))) ∧ E = (⟨fun _ => .any, [], [⟨aC3722, ((((((Env.none.upd 0 (.ptr 0 0)).upd 2 (.ptr 3 0)).upd 3 (.ptr 4 0)).upd 9 (.ptr 5 0)).upd 50 (.fn 46 [.ptr 7 0, .ptr 8 0, .ptr 11 0]))).v, [12, 13], some (14, l_3722)⟩], []⟩ : Env) ∧ M = (((((((((((((((Mem.nil.push (.cells 45 [.ptr 1 0, .whole 2, .lit (.int .i64 x3171)])).push (.cells 52 [.ro (Rd.slice (Rd.int .u8)) false x4038, .lit (.int .i64 x4039)])).push (.row 5 (Rd.int .u8) x3174)).push (.cells 3 [.lit (.int .i64 (IntKind.wrap .i64 (257 + x3637)))])).push (.cells 3 [.lit (.int .i64 (IntKind.wrap .i64 (1 + x3643)))])).push (.cells 25 [.whole 6])).push (.row 3 (Rd.int .i64) x4040)).push (.cells 41 [.ptr 0 0])).push (.cells 54 [.ptr 9 0])).push (.cells 82 [.lit (.int .i64 (List.getD x3719 0 (0 : Int))), .lit (.int .i64 (List.getD x3719 1 (0 : Int))), .lit (.int .i64 (List.getD x3719 2 (0 : Int))), .lit (.int .i64 (List.getD x3719 3 (0 : Int))), .lit (.int .i64 (List.getD x3719 4 (0 : Int))), .lit (.int .i64 (List.getD x3719 5 (0 : Int))), .lit (.int .i64 (List.getD x3719 6 (0 : Int))), .lit (.int .i64 (List.getD x3719 7 (0 : Int))), .lit (.int .i64 (List.getD x3719 8 (0 : Int))), .lit (.int .i64 (List.getD x3719 9 (0 : Int))), .lit (.int .i64 (List.getD x3719 10 (0 : Int))), .lit (.int .i64 (List.getD x3719 11 (0 : Int))), .lit (.int .i64 (List.getD x3719 12 (0 : Int))), .lit (.int .i64 (List.getD x3719 13 (0 : Int))), .lit (.int .i64 (List.getD x3719 14 (0 : Int))), .lit (.int .i64 (List.getD x3719 15 (0 : Int))), .whole 10])).push (.row 3 (Rd.int .i64) x3720)).push (.cells 69 [.fn 40 [.ptr 5 0]])).push (.obj (Obj.deferred (some [])))).push (.bag)).push (.obj (lp r_3722 .busy none))) | (Sum.inr (Sum.inr (Sum.inr (Sum.inr (x4041, x4042, x4043))))) => x = .exit 0 ∧ E = (⟨fun _ => .any, [], [⟨aC3722, ((((((Env.none.upd 0 (.ptr 0 0)).upd 2 (.ptr 3 0)).upd 3 (.ptr 4 0)).upd 9 (.ptr 5 0)).upd 50 (.fn 46 [.ptr 7 0, .ptr 8 0, .ptr 11 0]))).v, [12, 13], some (14, l_3722)⟩], []⟩ : Env) ∧ M = (((((((((((((((Mem.nil.push (.cells 45 [.ptr 1 0, .whole 2, .lit (.int .i64 x3171)])).push (.cells 52 [.ro (Rd.slice (Rd.int .u8)) false x4041, .lit (.int .i64 x4042)])).push (.row 5 (Rd.int .u8) x3174)).push (.cells 3 [.lit (.int .i64 (IntKind.wrap .i64 (257 + x3637)))])).push (.cells 3 [.lit (.int .i64 (IntKind.wrap .i64 (1 + x3643)))])).push (.cells 25 [.whole 6])).push (.row 3 (Rd.int .i64) x4043)).push (.cells 41 [.ptr 0 0])).push (.cells 54 [.ptr 9 0])).push (.cells 82 [.lit (.int .i64 (List.getD x3719 0 (0 : Int))), .lit (.int .i64 (List.getD x3719 1 (0 : Int))), .lit (.int .i64 (List.getD x3719 2 (0 : Int))), .lit (.int .i64 (List.getD x3719 3 (0 : Int))), .lit (.int .i64 (List.getD x3719 4 (0 : Int))), .lit (.int .i64 (List.getD x3719 5 (0 : Int))), .lit (.int .i64 (List.getD x3719 6 (0 : Int))), .lit (.int .i64 (List.getD x3719 7 (0 : Int))), .lit (.int .i64 (List.getD x3719 8 (0 : Int))), .lit (.int .i64 (List.getD x3719 9 (0 : Int))), .lit (.int .i64 (List.getD x3719 10 (0 : Int))), .lit (.int .i64 (List.getD x3719 11 (0 : Int))), .lit (.int .i64 (List.getD x3719 12 (0 : Int))), .lit (.int .i64 (List.getD x3719 13 (0 : Int))), .lit (.int .i64 (List.getD x3719 14 (0 : Int))), .lit (.int .i64 (List.getD x3719 15 (0 : Int))), .whole 10])).push (.row 3 (Rd.int .i64) x3720)).push (.cells 69 [.fn 40 [.ptr 5 0]])).push (.obj (Obj.deferred (some [])))).push (.bag)).push (.obj (lp r_3722 .done (some (.exit 2)))))) ?_ ?_
 · refine WP.loop2 (β := (List Int) × Int × (List Int)) (fun n b => g_inflate_stream_dynamic_l1 k x3171 x3174 x3637 x3643 x3719 x3720 n b.1 b.2.1 b.2.2 = some y4148) (fun b => ((((((⟨fun _ => .any, [], [⟨aC3722, ((((((Env.none.upd 0 (.ptr 0 0)).upd 2 (.ptr 10 0)).upd 3 (.ptr 11 0)).upd 9 (.ptr 8 0)).upd 50 (.fn 46 [.ptr 3 0, .ptr 4 0, .ptr 7 0]))).v, [12, 13], some (14, l_3722)⟩], []⟩ : Env).upd 0 (.lit (.func (.yield l_3722) #[] #[]))).upd 1 (.ptr 3 0)).upd 2 (.ptr 4 0)).upd 3 (.ptr 7 0)).upd 5 (.lit (.bool true)))) (fun b => (((((((((((((((Mem.nil.push (.cells 45 [.ptr 1 0, .whole 2, .lit (.int .i64 x3171)])).push (.cells 52 [.ro (Rd.slice (Rd.int .u8)) false b.1, .lit (.int .i64 b.2.1)])).push (.row 5 (Rd.int .u8) x3174)).push (.cells 41 [.ptr 0 0])).push (.cells 54 [.ptr 5 0])).push (.cells 82 [.lit (.int .i64 (List.getD x3719 0 (0 : Int))), .lit (.int .i64 (List.getD x3719 1 (0 : Int))), .lit (.int .i64 (List.getD x3719 2 (0 : Int))), .lit (.int .i64 (List.getD x3719 3 (0 : Int))), .lit (.int .i64 (List.getD x3719 4 (0 : Int))), .lit (.int .i64 (List.getD x3719 5 (0 : Int))), .lit (.int .i64 (List.getD x3719 6 (0 : Int))), .lit (.int .i64 (List.getD x3719 7 (0 : Int))), .lit (.int .i64 (List.getD x3719 8 (0 : Int))), .lit (.int .i64 (List.getD x3719 9 (0 : Int))), .lit (.int .i64 (List.getD x3719 10 (0 : Int))), .lit (.int .i64 (List.getD x3719 11 (0 : Int))), .lit (.int .i64 (List.getD x3719 12 (0 : Int))), .lit (.int .i64 (List.getD x3719 13 (0 : Int))), .lit (.int .i64 (List.getD x3719 14 (0 : Int))), .lit (.int .i64 (List.getD x3719 15 (0 : Int))), .whole 6])).push (.row 3 (Rd.int .i64) x3720)).push (.cells 69 [.fn 40 [.ptr 8 0]])).push (.cells 25 [.whole 9])).push (.row 3 (Rd.int .i64) b.2.2)).push (.cells 3 [.lit (.int .i64 (IntKind.wrap .i64 (257 + x3637)))])).push (.cells 3 [.lit (.int .i64 (IntKind.wrap .i64 (1 + x3643)))])).push (.obj (Obj.deferred (some [])))).push (.bag)).push (.obj (lp r_3722 .ready none)))) k (x3696, x3697, ([] : List Int)) H4146 rfl rfl ?_
   rintro n ⟨x3925, x3926, x3927⟩ H
   obtain _ | n := n
   · exact nf rfl H
   rw [g_inflate_stream_dynamic_l1.eq_2] at H
   show WP _ _ _ _ ((((((⟨fun _ => .any, [], [⟨aC3722, ((((((Env.none.upd 0 (.ptr 0 0)).upd 2 (.ptr 10 0)).upd 3 (.ptr 11 0)).upd 9 (.ptr 8 0)).upd 50 (.fn 46 [.ptr 3 0, .ptr 4 0, .ptr 7 0]))).v, [12, 13], some (14, l_3722)⟩], []⟩ : Env).upd 0 (.lit (.func (.yield l_3722) #[] #[]))).upd 1 (.ptr 3 0)).upd 2 (.ptr 4 0)).upd 3 (.ptr 7 0)).upd 5 (.lit (.bool true))) (((((((((((((((Mem.nil.push (.cells 45 [.ptr 1 0, .whole 2, .lit (.int .i64 x3171)])).push (.cells 52 [.ro (Rd.slice (Rd.int .u8)) false x3925, .lit (.int .i64 x3926)])).push (.row 5 (Rd.int .u8) x3174)).push (.cells 41 [.ptr 0 0])).push (.cells 54 [.ptr 5 0])).push (.cells 82 [.lit (.int .i64 (List.getD x3719 0 (0 : Int))), .lit (.int .i64 (List.getD x3719 1 (0 : Int))), .lit (.int .i64 (List.getD x3719 2 (0 : Int))), .lit (.int .i64 (List.getD x3719 3 (0 : Int))), .lit (.int .i64 (List.getD x3719 4 (0 : Int))), .lit (.int .i64 (List.getD x3719 5 (0 : Int))), .lit (.int .i64 (List.getD x3719 6 (0 : Int))), .lit (.int .i64 (List.getD x3719 7 (0 : Int))), .lit (.int .i64 (List.getD x3719 8 (0 : Int))), .lit (.int .i64 (List.getD x3719 9 (0 : Int))), .lit (.int .i64 (List.getD x3719 10 (0 : Int))), .lit (.int .i64 (List.getD x3719 11 (0 : Int))), .lit (.int .i64 (List.getD x3719 12 (0 : Int))), .lit (.int .i64 (List.getD x3719 13 (0 : Int))), .lit (.int .i64 (List.getD x3719 14 (0 : Int))), .lit (.int .i64 (List.getD x3719 15 (0 : Int))), .whole 6])).push (.row 3 (Rd.int .i64) x3720)).push (.cells 69 [.fn 40 [.ptr 8 0]])).push (.cells 25 [.whole 9])).push (.row 3 (Rd.int .i64) x3927)).push (.cells 3 [.lit (.int .i64 (IntKind.wrap .i64 (257 + x3637)))])).push (.cells 3 [.lit (.int .i64 (IntKind.wrap .i64 (1 + x3643)))])).push (.obj (Obj.deferred (some [])))).push (.bag)).push (.obj (lp r_3722 .ready none))) _
   refine WP.seq ?_
   refine WP.seq ?_
   refine WP.region ?_
   refine WPL.q (q_mv (v := .lit (.bool _)) rfl) rfl ?_
   refine WPL.nilW ?_
   refine W.now ?_
   refine Then.n ?_
   refine WP.condT rfl ?_
   refine WP.skipW ?_
   refine W.now ?_
   refine Then.n ?_
   refine WP.block ?_
   refine WP.seq ?_
   refine WP.region ?_
   refine WPL.q (q_load sc41 rfl rfl rfl) rfl ?_
   refine WPL.q (q_load sc54 rfl rfl rfl) rfl ?_
   obtain ⟨y4049, h4043, H⟩ := bnd H
   rcases y4049 with x4045 | ⟨x4046, x4047, x4048⟩
   · refine WPL.pW (runs_callP (s := [0, 1, 5, 2, 6]) (t := [0, 1, 5]) (N := 15) (bor := []) fn36 rfl (s_inflate_stream_sym k x3171 x3925 x3926 x3719 x3174 x3720 (Sum.inl x4045) h4043) ⟨rfl, ⟨⟨⟨⟨⟨trivial, .inr ⟨rfl, rfl, rfl⟩⟩, .inr ⟨rfl, rfl, rfl⟩⟩, .inr ⟨rfl, rfl, rfl⟩⟩, .inr ⟨rfl, rfl, rfl⟩⟩, .inr ⟨rfl, rfl, rfl⟩⟩, by decide, rfl, trivial⟩ rfl trivial (.ren rfl rfl (.ren rfl rfl .nil)) rfl ⟨⟨⟨trivial, rfl⟩, rfl⟩, rfl⟩ rfl) ?_
     have q0 := Option.some.inj H
     subst q0
     exact W.wkP [0, 1, 10, 11, 8, 9, 3, 4, 5, 7, 12, 13, 14] hnp (Then.p (InBlock.p (Then.p ⟨rfl, rfl, rfl⟩))) ⟨rfl, ⟨⟨⟨⟨⟨⟨⟨⟨⟨⟨⟨⟨⟨trivial, .inl rfl⟩, .inl rfl⟩, .inr ⟨rfl, rfl, rfl⟩⟩, .inr ⟨rfl, rfl, rfl⟩⟩, .inr ⟨rfl, rfl, rfl⟩⟩, .inr ⟨rfl, rfl, rfl⟩⟩, .inr ⟨rfl, rfl, rfl⟩⟩, .inr ⟨rfl, rfl, rfl⟩⟩, .inl rfl⟩, .inr ⟨rfl, rfl, rfl⟩⟩, .inr ⟨rfl, rfl, rfl⟩⟩, .inr ⟨rfl, rfl, rfl⟩⟩, .inr ⟨rfl, rfl, rfl⟩⟩, by decide, rfl, ⟨⟨trivial, rfl⟩, rfl⟩⟩ (LeE.noneD rfl rfl (.cons ⟨rfl, (LeV.upd rfl rfl (LeV.upd rfl rfl (LeV.upd rfl rfl (LeV.upd rfl rfl LeV.none)))), rfl, rfl, rfl, rfl⟩ .nil)) rfl rfl
   refine WPL.c (runs_call (s := [0, 1, 5, 2, 6]) (t := [0, 1, 5, 15, 16]) (N := 17) (bor := []) fn36 rfl (s_inflate_stream_sym k x3171 x3925 x3926 x3719 x3174 x3720 (Sum.inr (x4046, x4047, x4048)) h4043) ⟨rfl, ⟨⟨⟨⟨⟨trivial, .inr ⟨rfl, rfl, rfl⟩⟩, .inr ⟨rfl, rfl, rfl⟩⟩, .inr ⟨rfl, rfl, rfl⟩⟩, .inr ⟨rfl, rfl, rfl⟩⟩, .inr ⟨rfl, rfl, rfl⟩⟩, by decide, rfl, trivial⟩ rfl trivial (.ren rfl rfl (.ren rfl rfl .nil)) rfl ⟨⟨⟨⟨⟨trivial, rfl⟩, rfl⟩, rfl⟩, rfl⟩, rfl⟩ rfl) rfl ?_
   refine WPL.q (q_as (v := .lit (.int _ _)) rfl) rfl ?_
   refine WPL.nilW ?_
   refine W.now ?_
   refine Then.n ?_
   refine WP.seq ?_
   refine WP.region ?_
   refine WPL.q (q_mv (v := .lit (.int _ _)) rfl) rfl ?_
   refine WPL.nilW ?_
   refine W.now ?_
   refine Then.n ?_
   refine WP.block ?_
   refine WP.seq ?_
   refine WP.region ?_
   refine WPL.q (q_eql rfl rfl) rfl ?_
   refine WPL.q (q_as (v := .lit (.bool _)) rfl) rfl ?_
   refine WPL.nilW ?_
   refine W.now ?_
   refine Then.n ?_
   refine WP.cond (t := (decide (x4046 = 16))) rfl (fun hb4049 => ?_) (fun hb4049 => ?_)
   · replace H := cnt hb4049 H
     refine WP.seq ?_
     refine WP.region ?_
     refine WPL.q (q_load sc69 rfl rfl rfl) rfl ?_
     obtain ⟨⟨x4052, x4053⟩, h4050, H⟩ := bnd H
     refine WPL.c (runs_call (s := [8, 9]) (t := [8, 17]) (N := 18) (bor := []) fn40 rfl (s_inflate_stream_dynamic_1__b k x3927 x4052 x4053 h4050) ⟨rfl, ⟨⟨trivial, .inr ⟨rfl, rfl, rfl⟩⟩, .inr ⟨rfl, rfl, rfl⟩⟩, by decide, rfl, trivial⟩ rfl trivial (.ren rfl rfl .nil) rfl ⟨⟨trivial, rfl⟩, rfl⟩ rfl) rfl ?_
     refine WPL.q (q_mv (v := .tup _) rfl) rfl ?_
     refine WPL.q (q_extract rfl rfl) rfl ?_
     refine WPL.q (q_extract rfl rfl) rfl ?_
     refine WPL.q (q_as (v := .lit (.int _ _)) rfl) rfl ?_
     refine WPL.q (q_as (v := .lit (.bool _)) rfl) rfl ?_
     refine WPL.nilW ?_
     refine W.now ?_
     refine Then.n ?_
     refine WP.seq ?_
     refine WP.region ?_
     refine WPL.q (q_mv (v := .lit (.bool _)) rfl) rfl ?_
     obtain ⟨y4055, h4053, H⟩ := bnd H
     rcases y4055 with _ | _
     · refine WPL.pW (runs_callP (s := []) (t := []) (N := 18) (bor := []) fn34 rfl (s_inflate_ask k x4053 12 (Sum.inl ()) h4053) ⟨rfl, trivial, by decide, rfl, trivial⟩ rfl trivial (.ren rfl rfl (.ren rfl rfl .nil)) rfl trivial rfl) ?_
       have q0 := Option.some.inj H
       subst q0
       exact W.wkP [0, 1, 15, 10, 11, 8, 17, 3, 4, 5, 16, 7, 12, 13, 14] hnp (Then.p (InBlock.p (InBlock.p (Then.p ⟨rfl, rfl, rfl⟩)))) ⟨rfl, ⟨⟨⟨⟨⟨⟨⟨⟨⟨⟨⟨⟨⟨⟨⟨trivial, .inr ⟨rfl, rfl, rfl⟩⟩, .inr ⟨rfl, rfl, rfl⟩⟩, .inr ⟨rfl, rfl, rfl⟩⟩, .inr ⟨rfl, rfl, rfl⟩⟩, .inr ⟨rfl, rfl, rfl⟩⟩, .inr ⟨rfl, rfl, rfl⟩⟩, .inr ⟨rfl, rfl, rfl⟩⟩, .inr ⟨rfl, rfl, rfl⟩⟩, .inr ⟨rfl, rfl, rfl⟩⟩, .inr ⟨rfl, rfl, rfl⟩⟩, .inr ⟨rfl, rfl, rfl⟩⟩, .inr ⟨rfl, rfl, rfl⟩⟩, .inr ⟨rfl, rfl, rfl⟩⟩, .inr ⟨rfl, rfl, rfl⟩⟩, .inr ⟨rfl, rfl, rfl⟩⟩, by decide, rfl, ⟨⟨trivial, rfl⟩, rfl⟩⟩ (LeE.noneD rfl rfl (.cons ⟨rfl, (LeV.upd rfl rfl (LeV.upd rfl rfl (LeV.upd rfl rfl (LeV.upd rfl rfl (LeV.upd rfl rfl LeV.none))))), rfl, rfl, rfl, rfl⟩ .nil)) rfl rfl
     refine WPL.c (runs_call (s := []) (t := []) (N := 18) (bor := []) fn34 rfl (s_inflate_ask k x4053 12 (Sum.inr ()) h4053) ⟨rfl, trivial, by decide, rfl, trivial⟩ rfl trivial (.ren rfl rfl (.ren rfl rfl .nil)) rfl trivial rfl) rfl ?_
     refine WPL.nilW ?_
     refine W.now ?_
     refine Then.n ?_
     refine WP.region ?_
     refine WPL.q (q_mv (v := .lit _) rfl) rfl ?_
     refine WPL.q (q_load sc41 rfl rfl rfl) rfl ?_
     obtain ⟨y4061, h4055, H⟩ := bnd H
     rcases y4061 with x4057 | ⟨x4058, x4059, x4060⟩
     · refine WPL.pW (runs_callP (s := [0, 1, 15]) (t := [0, 1]) (N := 18) (bor := []) fn26 rfl (s_inflate_stream_take k 2 x3171 x4047 x4048 x3174 (Sum.inl x4057) h4055) ⟨rfl, ⟨⟨⟨trivial, .inr ⟨rfl, rfl, rfl⟩⟩, .inr ⟨rfl, rfl, rfl⟩⟩, .inr ⟨rfl, rfl, rfl⟩⟩, by decide, rfl, trivial⟩ rfl trivial (.ren rfl rfl (.ren rfl rfl .nil)) rfl ⟨⟨trivial, rfl⟩, rfl⟩ rfl) ?_
       have q0 := Option.some.inj H
       subst q0
       exact W.wkP [0, 1, 10, 11, 8, 17, 3, 4, 5, 16, 7, 12, 13, 14] hnp (InBlock.p (InBlock.p (Then.p ⟨rfl, rfl, rfl⟩))) ⟨rfl, ⟨⟨⟨⟨⟨⟨⟨⟨⟨⟨⟨⟨⟨⟨trivial, .inl rfl⟩, .inl rfl⟩, .inr ⟨rfl, rfl, rfl⟩⟩, .inr ⟨rfl, rfl, rfl⟩⟩, .inr ⟨rfl, rfl, rfl⟩⟩, .inr ⟨rfl, rfl, rfl⟩⟩, .inr ⟨rfl, rfl, rfl⟩⟩, .inr ⟨rfl, rfl, rfl⟩⟩, .inr ⟨rfl, rfl, rfl⟩⟩, .inr ⟨rfl, rfl, rfl⟩⟩, .inr ⟨rfl, rfl, rfl⟩⟩, .inr ⟨rfl, rfl, rfl⟩⟩, .inr ⟨rfl, rfl, rfl⟩⟩, .inr ⟨rfl, rfl, rfl⟩⟩, by decide, rfl, ⟨⟨trivial, rfl⟩, rfl⟩⟩ (LeE.noneD rfl rfl (.cons ⟨rfl, (LeV.upd rfl rfl (LeV.upd rfl rfl (LeV.upd rfl rfl (LeV.upd rfl rfl LeV.none)))), rfl, rfl, rfl, rfl⟩ .nil)) rfl rfl
     refine WPL.c (runs_call (s := [0, 1, 15]) (t := [0, 1, 18]) (N := 19) (bor := []) fn26 rfl (s_inflate_stream_take k 2 x3171 x4047 x4048 x3174 (Sum.inr (x4058, x4059, x4060)) h4055) ⟨rfl, ⟨⟨⟨trivial, .inr ⟨rfl, rfl, rfl⟩⟩, .inr ⟨rfl, rfl, rfl⟩⟩, .inr ⟨rfl, rfl, rfl⟩⟩, by decide, rfl, trivial⟩ rfl trivial (.ren rfl rfl (.ren rfl rfl .nil)) rfl ⟨⟨⟨trivial, rfl⟩, rfl⟩, rfl⟩ rfl) rfl ?_
     refine WPL.q (q_add rfl rfl) rfl ?_
     refine WPL.q (q_mv (v := .lit (.int _ _)) rfl) rfl ?_
     refine WPL.q (q_build bu40 rfl) rfl ?_
     refine WPL.y rfl rfl rfl rfl hp3722 ha3722 hb3722 ht3722 hs3722 hf3722 rfl rfl rfl fun aI4061 => ?_
     refine WP.region ?_
     refine WPL.d (d_alloc ze40 rfl) rfl ?_
     refine WPL.s (s_store sz40 rfl rfl rfl rfl rfl) ?_
     refine WPL.nilW ?_
     refine W.now ?_
     refine ⟨rfl, rfl, _, _, _, _, _, _, rfl, rfl, ?_⟩
     refine WP.block ?_
     refine WP.seq ?_
     refine WP.region ?_
     refine WPL.q (q_fieldAddr fi40_0 rfl rfl) rfl ?_
     refine WPL.q (q_load sc3 rfl rfl rfl) rfl ?_
     refine WPL.q (q_load sc3 rfl rfl rfl) rfl ?_
     refine WPL.q (q_load sc3 rfl rfl rfl) rfl ?_
     obtain ⟨x4063, h4063, H⟩ := bnd H
     refine WPL.q (q_nm (q_add rfl rfl) (nm_int h4063)) rfl ?_
     refine WPL.q (q_load sc25 rfl rfl rfl) rfl ?_
     refine WPL.q (q_len_row sl25 rfl rfl) rfl ?_
     obtain ⟨x4064, h4064, H⟩ := bnd H
     refine WPL.q (q_nm (q_sub rfl rfl) (nm_int h4064)) rfl ?_
     obtain ⟨x4065, h4065, H⟩ := bnd H
     refine WPL.q (q_nm (q_leq rfl rfl) (nm_bool h4065)) rfl ?_
     obtain ⟨y4067, h4065, H⟩ := bnd H
     rcases y4067 with _ | _
     · refine WPL.pW (runs_callP (s := []) (t := []) (N := 20) (bor := []) fn34 rfl (s_inflate_ask k x4065 12 (Sum.inl ()) h4065) ⟨rfl, trivial, by decide, rfl, trivial⟩ rfl trivial (.ren rfl rfl (.ren rfl rfl .nil)) rfl trivial rfl) ?_
       refine W.now ?_
       refine Then.p ?_
       refine InBlock.p ?_
       refine ⟨rfl, _, _, _, _, _, _, rfl, rfl, ?_⟩
       have q0 := Option.some.inj H
       subst q0
       exact W.wkP [0, 1, 18, 10, 11, 8, 17, 3, 4, 5, 16, 7, 12, 13, 14] hnp (InBlock.p (InBlock.p (Then.p ⟨rfl, rfl, rfl⟩))) ⟨rfl, ⟨⟨⟨⟨⟨⟨⟨⟨⟨⟨⟨⟨⟨⟨⟨trivial, .inr ⟨rfl, rfl, rfl⟩⟩, .inr ⟨rfl, rfl, rfl⟩⟩, .inr ⟨rfl, rfl, rfl⟩⟩, .inr ⟨rfl, rfl, rfl⟩⟩, .inr ⟨rfl, rfl, rfl⟩⟩, .inr ⟨rfl, rfl, rfl⟩⟩, .inr ⟨rfl, rfl, rfl⟩⟩, .inr ⟨rfl, rfl, rfl⟩⟩, .inr ⟨rfl, rfl, rfl⟩⟩, .inr ⟨rfl, rfl, rfl⟩⟩, .inr ⟨rfl, rfl, rfl⟩⟩, .inr ⟨rfl, rfl, rfl⟩⟩, .inr ⟨rfl, rfl, rfl⟩⟩, .inr ⟨rfl, rfl, rfl⟩⟩, .inr ⟨rfl, rfl, rfl⟩⟩, by decide, rfl, ⟨⟨trivial, rfl⟩, rfl⟩⟩ (LeE.noneD rfl rfl (.cons ⟨rfl, (LeV.upd rfl rfl (LeV.upd rfl rfl (LeV.upd rfl rfl (LeV.upd rfl rfl (LeV.upd rfl rfl LeV.none))))), rfl, rfl, rfl, rfl⟩ .nil)) rfl rfl
     refine WPL.c (runs_call (s := []) (t := []) (N := 20) (bor := []) fn34 rfl (s_inflate_ask k x4065 12 (Sum.inr ()) h4065) ⟨rfl, trivial, by decide, rfl, trivial⟩ rfl trivial (.ren rfl rfl (.ren rfl rfl .nil)) rfl trivial rfl) rfl ?_
     refine WPL.nilW ?_
     refine W.now ?_
     refine Then.n ?_
     refine WP.seq ?_
     refine WP.regionD' 6 [8, 19] [5] mixed rfl ?_
     refine WPD.take 0 rfl (by kernel_rfl) (q_load sc25 rfl rfl rfl) rfl rfl ?_
     refine WPD.take 1 rfl (by kernel_rfl) (q_load_ag ag40 rfl rfl (Nat.le_of_ble_eq_true rfl)) rfl rfl ?_
     refine WPD.eff 2 [8, 19] [5] rfl (by kernel_rfl) (Does.runs (d_buildSlice (ds := ([(⟨(IntKind.wrap .i64 (3 + x4058)), x4052⟩ : S_inflate_run)] : List S_inflate_run)) (R := rdS_inflate_run) li49 rfl rfl rfl rfl rfl (JoinRows.cons (l := [.lit (.int .i64 (IntKind.wrap .i64 (3 + x4058))), .lit (.int .i64 x4052)]) (Joins.via (Joins.cons Joins.sc (Joins.cons Joins.sc Joins.unit))) rfl JoinRows.nil) rfl rfl)) rfl rfl ?_
     obtain ⟨x4075, h4073, H⟩ := bnd H
     refine WPD.eff 3 [8, 19] [5] rfl (by kernel_rfl) (runs_call (s := []) (t := []) (N := 21) (bor := [20]) fn20 rfl (s_inflate_laid k ([(⟨(IntKind.wrap .i64 (3 + x4058)), x4052⟩ : S_inflate_run)] : List S_inflate_run) x4075 h4073) ⟨rfl, trivial, by decide, rfl, trivial⟩ rfl ⟨trivial, rfl, rfl, trivial⟩ (.row rfl rfl .nil) rfl trivial rfl) rfl rfl ?_
     obtain ⟨h4075, H⟩ := grd H
     refine WPD.eff 4 [8, 19] [5] rfl (by kernel_rfl) (Does.runs (d_append ap25 rfl rfl rfl rfl (src_ro sl25 rfl) h4075 rfl)) rfl rfl ?_
     refine WPD.effS 5 [] [] rfl (by kernel_rfl) (s_store sz25 rfl rfl rfl rfl rfl) rfl ?_
     refine WPD.doneW (by kernel_rfl) ?_
     refine W.now ?_
     refine Then.n ?_
     refine WP.seq ?_
     refine WP.region ?_
     refine WPL.q (q_load sc25 rfl rfl rfl) rfl ?_
     refine WPL.q (q_len_row sl25 rfl rfl) rfl ?_
     refine WPL.q (q_load sc3 rfl rfl rfl) rfl ?_
     refine WPL.q (q_load sc3 rfl rfl rfl) rfl ?_
     obtain ⟨x4077, h4077, H⟩ := bnd H
     refine WPL.q (q_nm (q_add rfl rfl) (nm_int h4077)) rfl ?_
     obtain ⟨x4078, h4078, H⟩ := bnd H
     refine WPL.q (q_nm (q_eql rfl rfl) (nm_bool h4078)) rfl ?_
     refine WPL.nilW ?_
     refine W.now ?_
     refine Then.n ?_
     refine WP.cond (t := x4078) rfl (fun hb4078 => ?_) (fun hb4078 => ?_)
     · replace H := cnt hb4078 H
       refine WP.exitW ?_
       refine W.now ?_
       refine InBlock.x rfl ?_
       refine ⟨rfl, _, _, _, _, _, _, rfl, rfl, _, rfl, ?_⟩
       refine WPL.q (q_as (v := .lit (.bool _)) rfl) rfl ?_
       refine WPL.nilW ?_
       refine W.now ?_
       refine InBlock.n ?_
       refine InBlock.n ?_
       refine Then.n (.inr ?_)
       refine WPI.round ?_
       refine WP.seq ?_
       refine WP.seq ?_
       refine WP.region ?_
       refine WPL.q (q_mv (v := .lit (.bool _)) rfl) rfl ?_
       refine WPL.nilW ?_
       refine W.now ?_
       refine Then.n ?_
       refine WP.condF rfl ?_
       refine WP.exitW ?_
       have q0 := Option.some.inj H
       subst q0
       exact W.wk [0, 1, 18, 10, 11, 8, 21, 3, 4, 5, 16, 7, 12, 13, 14] hnp (Then.x (Then.x ⟨rfl, rfl, rfl⟩)) ⟨rfl, ⟨⟨⟨⟨⟨⟨⟨⟨⟨⟨⟨⟨⟨⟨⟨trivial, .inr ⟨rfl, rfl, rfl⟩⟩, .inr ⟨rfl, rfl, rfl⟩⟩, .inr ⟨rfl, rfl, rfl⟩⟩, .inr ⟨rfl, rfl, rfl⟩⟩, .inr ⟨rfl, rfl, rfl⟩⟩, .inr ⟨rfl, rfl, rfl⟩⟩, .inr ⟨rfl, rfl, rfl⟩⟩, .inr ⟨rfl, rfl, rfl⟩⟩, .inr ⟨rfl, rfl, rfl⟩⟩, .inr ⟨rfl, rfl, rfl⟩⟩, .inr ⟨rfl, rfl, rfl⟩⟩, .inr ⟨rfl, rfl, rfl⟩⟩, .inr ⟨rfl, rfl, rfl⟩⟩, .inr ⟨rfl, rfl, rfl⟩⟩, .inr ⟨rfl, rfl, rfl⟩⟩, by decide, rfl, ⟨⟨trivial, rfl⟩, rfl⟩⟩ (LeE.noneD rfl rfl (.cons ⟨rfl, (LeV.upd rfl rfl (LeV.upd rfl rfl (LeV.upd rfl rfl (LeV.upd rfl rfl (LeV.upd rfl rfl LeV.none))))), rfl, rfl, rfl, rfl⟩ .nil)) rfl
     replace H := cnf hb4078 H
     refine WP.skipW ?_
     refine W.now ?_
     refine InBlock.n ?_
     refine ⟨rfl, _, _, _, _, _, _, rfl, rfl, _, rfl, ?_⟩
     refine WPL.q (q_as (v := .lit (.bool _)) rfl) rfl ?_
     refine WPL.nilW ?_
     exact W.wk [0, 1, 18, 3, 4, 5, 16, 7, 8, 21, 10, 11, 12, 13, 14] hnp (InBlock.n (InBlock.n (Then.n (.inl ⟨n, (x4059, x4060, (x3927 ++ x4075)), Nat.lt_succ_self n, H, rfl, rfl⟩)))) ⟨rfl, ⟨⟨⟨⟨⟨⟨⟨⟨⟨⟨⟨⟨⟨⟨⟨trivial, .inr ⟨rfl, rfl, rfl⟩⟩, .inr ⟨rfl, rfl, rfl⟩⟩, .inr ⟨rfl, rfl, rfl⟩⟩, .inr ⟨rfl, rfl, rfl⟩⟩, .inr ⟨rfl, rfl, rfl⟩⟩, .inr ⟨rfl, rfl, rfl⟩⟩, .inr ⟨rfl, rfl, rfl⟩⟩, .inr ⟨rfl, rfl, rfl⟩⟩, .inr ⟨rfl, rfl, rfl⟩⟩, .inr ⟨rfl, rfl, rfl⟩⟩, .inr ⟨rfl, rfl, rfl⟩⟩, .inr ⟨rfl, rfl, rfl⟩⟩, .inr ⟨rfl, rfl, rfl⟩⟩, .inr ⟨rfl, rfl, rfl⟩⟩, .inr ⟨rfl, rfl, rfl⟩⟩, by decide, rfl, ⟨⟨trivial, rfl⟩, rfl⟩⟩ (LeE.upd rfl rfl (LeE.upd rfl rfl (LeE.upd rfl rfl (LeE.upd rfl rfl (LeE.upd rfl rfl (LeE.noneD rfl rfl (.cons ⟨rfl, (LeV.upd rfl rfl (LeV.upd rfl rfl (LeV.upd rfl rfl (LeV.upd rfl rfl (LeV.upd rfl rfl LeV.none))))), rfl, rfl, rfl, rfl⟩ .nil))))))) rfl
   replace H := cnf hb4049 H
   refine WP.seq ?_
   refine WP.region ?_
   refine WPL.q (q_eql rfl rfl) rfl ?_
   refine WPL.q (q_as (v := .lit (.bool _)) rfl) rfl ?_
   refine WPL.nilW ?_
   refine W.now ?_
   refine Then.n ?_
   refine WP.cond (t := (decide (x4046 = 17))) rfl (fun hb4079 => ?_) (fun hb4079 => ?_)
   · replace H := cnt hb4079 H
     refine WP.region ?_
     refine WPL.q (q_mv (v := .lit _) rfl) rfl ?_
     refine WPL.q (q_load sc41 rfl rfl rfl) rfl ?_
     obtain ⟨y4086, h4080, H⟩ := bnd H
     rcases y4086 with x4082 | ⟨x4083, x4084, x4085⟩
     · refine WPL.pW (runs_callP (s := [0, 1, 15]) (t := [0, 1]) (N := 17) (bor := []) fn26 rfl (s_inflate_stream_take k 3 x3171 x4047 x4048 x3174 (Sum.inl x4082) h4080) ⟨rfl, ⟨⟨⟨trivial, .inr ⟨rfl, rfl, rfl⟩⟩, .inr ⟨rfl, rfl, rfl⟩⟩, .inr ⟨rfl, rfl, rfl⟩⟩, by decide, rfl, trivial⟩ rfl trivial (.ren rfl rfl (.ren rfl rfl .nil)) rfl ⟨⟨trivial, rfl⟩, rfl⟩ rfl) ?_
       have q0 := Option.some.inj H
       subst q0
       exact W.wkP [0, 1, 10, 11, 8, 9, 3, 4, 5, 16, 7, 12, 13, 14] hnp (InBlock.p (InBlock.p (Then.p ⟨rfl, rfl, rfl⟩))) ⟨rfl, ⟨⟨⟨⟨⟨⟨⟨⟨⟨⟨⟨⟨⟨⟨trivial, .inl rfl⟩, .inl rfl⟩, .inr ⟨rfl, rfl, rfl⟩⟩, .inr ⟨rfl, rfl, rfl⟩⟩, .inr ⟨rfl, rfl, rfl⟩⟩, .inr ⟨rfl, rfl, rfl⟩⟩, .inr ⟨rfl, rfl, rfl⟩⟩, .inr ⟨rfl, rfl, rfl⟩⟩, .inr ⟨rfl, rfl, rfl⟩⟩, .inr ⟨rfl, rfl, rfl⟩⟩, .inr ⟨rfl, rfl, rfl⟩⟩, .inr ⟨rfl, rfl, rfl⟩⟩, .inr ⟨rfl, rfl, rfl⟩⟩, .inr ⟨rfl, rfl, rfl⟩⟩, by decide, rfl, ⟨⟨trivial, rfl⟩, rfl⟩⟩ (LeE.noneD rfl rfl (.cons ⟨rfl, (LeV.upd rfl rfl (LeV.upd rfl rfl (LeV.upd rfl rfl (LeV.upd rfl rfl LeV.none)))), rfl, rfl, rfl, rfl⟩ .nil)) rfl rfl
     refine WPL.c (runs_call (s := [0, 1, 15]) (t := [0, 1, 17]) (N := 18) (bor := []) fn26 rfl (s_inflate_stream_take k 3 x3171 x4047 x4048 x3174 (Sum.inr (x4083, x4084, x4085)) h4080) ⟨rfl, ⟨⟨⟨trivial, .inr ⟨rfl, rfl, rfl⟩⟩, .inr ⟨rfl, rfl, rfl⟩⟩, .inr ⟨rfl, rfl, rfl⟩⟩, by decide, rfl, trivial⟩ rfl trivial (.ren rfl rfl (.ren rfl rfl .nil)) rfl ⟨⟨⟨trivial, rfl⟩, rfl⟩, rfl⟩ rfl) rfl ?_
     refine WPL.q (q_add rfl rfl) rfl ?_
     refine WPL.q (q_build bu40 rfl) rfl ?_
     refine WPL.y rfl rfl rfl rfl hp3722 ha3722 hb3722 ht3722 hs3722 hf3722 rfl rfl rfl fun aI4086 => ?_
     refine WP.region ?_
     refine WPL.d (d_alloc ze40 rfl) rfl ?_
     refine WPL.s (s_store sz40 rfl rfl rfl rfl rfl) ?_
     refine WPL.nilW ?_
     refine W.now ?_
     refine ⟨rfl, rfl, _, _, _, _, _, _, rfl, rfl, ?_⟩
     refine WP.block ?_
     refine WP.seq ?_
     refine WP.region ?_
     refine WPL.q (q_fieldAddr fi40_0 rfl rfl) rfl ?_
     refine WPL.q (q_load sc3 rfl rfl rfl) rfl ?_
     refine WPL.q (q_load sc3 rfl rfl rfl) rfl ?_
     refine WPL.q (q_load sc3 rfl rfl rfl) rfl ?_
     obtain ⟨x4088, h4088, H⟩ := bnd H
     refine WPL.q (q_nm (q_add rfl rfl) (nm_int h4088)) rfl ?_
     refine WPL.q (q_load sc25 rfl rfl rfl) rfl ?_
     refine WPL.q (q_len_row sl25 rfl rfl) rfl ?_
     obtain ⟨x4089, h4089, H⟩ := bnd H
     refine WPL.q (q_nm (q_sub rfl rfl) (nm_int h4089)) rfl ?_
     obtain ⟨x4090, h4090, H⟩ := bnd H
     refine WPL.q (q_nm (q_leq rfl rfl) (nm_bool h4090)) rfl ?_
     obtain ⟨y4092, h4090, H⟩ := bnd H
     rcases y4092 with _ | _
     · refine WPL.pW (runs_callP (s := []) (t := []) (N := 19) (bor := []) fn34 rfl (s_inflate_ask k x4090 12 (Sum.inl ()) h4090) ⟨rfl, trivial, by decide, rfl, trivial⟩ rfl trivial (.ren rfl rfl (.ren rfl rfl .nil)) rfl trivial rfl) ?_
       refine W.now ?_
       refine Then.p ?_
       refine InBlock.p ?_
       refine ⟨rfl, _, _, _, _, _, _, rfl, rfl, ?_⟩
       have q0 := Option.some.inj H
       subst q0
       exact W.wkP [0, 1, 17, 10, 11, 8, 9, 3, 4, 5, 16, 7, 12, 13, 14] hnp (InBlock.p (InBlock.p (Then.p ⟨rfl, rfl, rfl⟩))) ⟨rfl, ⟨⟨⟨⟨⟨⟨⟨⟨⟨⟨⟨⟨⟨⟨⟨trivial, .inr ⟨rfl, rfl, rfl⟩⟩, .inr ⟨rfl, rfl, rfl⟩⟩, .inr ⟨rfl, rfl, rfl⟩⟩, .inr ⟨rfl, rfl, rfl⟩⟩, .inr ⟨rfl, rfl, rfl⟩⟩, .inr ⟨rfl, rfl, rfl⟩⟩, .inr ⟨rfl, rfl, rfl⟩⟩, .inr ⟨rfl, rfl, rfl⟩⟩, .inr ⟨rfl, rfl, rfl⟩⟩, .inr ⟨rfl, rfl, rfl⟩⟩, .inr ⟨rfl, rfl, rfl⟩⟩, .inr ⟨rfl, rfl, rfl⟩⟩, .inr ⟨rfl, rfl, rfl⟩⟩, .inr ⟨rfl, rfl, rfl⟩⟩, .inr ⟨rfl, rfl, rfl⟩⟩, by decide, rfl, ⟨⟨trivial, rfl⟩, rfl⟩⟩ (LeE.noneD rfl rfl (.cons ⟨rfl, (LeV.upd rfl rfl (LeV.upd rfl rfl (LeV.upd rfl rfl (LeV.upd rfl rfl (LeV.upd rfl rfl LeV.none))))), rfl, rfl, rfl, rfl⟩ .nil)) rfl rfl
     refine WPL.c (runs_call (s := []) (t := []) (N := 19) (bor := []) fn34 rfl (s_inflate_ask k x4090 12 (Sum.inr ()) h4090) ⟨rfl, trivial, by decide, rfl, trivial⟩ rfl trivial (.ren rfl rfl (.ren rfl rfl .nil)) rfl trivial rfl) rfl ?_
     refine WPL.nilW ?_
     refine W.now ?_
     refine Then.n ?_
     refine WP.seq ?_
     refine WP.regionD' 6 [8, 18] [5] mixed rfl ?_
     refine WPD.take 0 rfl (by kernel_rfl) (q_load sc25 rfl rfl rfl) rfl rfl ?_
     refine WPD.take 1 rfl (by kernel_rfl) (q_load_ag ag40 rfl rfl (Nat.le_of_ble_eq_true rfl)) rfl rfl ?_
     refine WPD.eff 2 [8, 18] [5] rfl (by kernel_rfl) (Does.runs (d_buildSlice (ds := ([(⟨(IntKind.wrap .i64 (3 + x4083)), 0⟩ : S_inflate_run)] : List S_inflate_run)) (R := rdS_inflate_run) li49 rfl rfl rfl rfl rfl (JoinRows.cons (l := [.lit (.int .i64 (IntKind.wrap .i64 (3 + x4083))), .lit (.int .i64 0)]) (Joins.via (Joins.cons Joins.sc (Joins.cons Joins.sc Joins.unit))) rfl JoinRows.nil) rfl rfl)) rfl rfl ?_
     obtain ⟨x4100, h4098, H⟩ := bnd H
     refine WPD.eff 3 [8, 18] [5] rfl (by kernel_rfl) (runs_call (s := []) (t := []) (N := 20) (bor := [19]) fn20 rfl (s_inflate_laid k ([(⟨(IntKind.wrap .i64 (3 + x4083)), 0⟩ : S_inflate_run)] : List S_inflate_run) x4100 h4098) ⟨rfl, trivial, by decide, rfl, trivial⟩ rfl ⟨trivial, rfl, rfl, trivial⟩ (.row rfl rfl .nil) rfl trivial rfl) rfl rfl ?_
     obtain ⟨h4100, H⟩ := grd H
     refine WPD.eff 4 [8, 18] [5] rfl (by kernel_rfl) (Does.runs (d_append ap25 rfl rfl rfl rfl (src_ro sl25 rfl) h4100 rfl)) rfl rfl ?_
     refine WPD.effS 5 [] [] rfl (by kernel_rfl) (s_store sz25 rfl rfl rfl rfl rfl) rfl ?_
     refine WPD.doneW (by kernel_rfl) ?_
     refine W.now ?_
     refine Then.n ?_
     refine WP.seq ?_
     refine WP.region ?_
     refine WPL.q (q_load sc25 rfl rfl rfl) rfl ?_
     refine WPL.q (q_len_row sl25 rfl rfl) rfl ?_
     refine WPL.q (q_load sc3 rfl rfl rfl) rfl ?_
     refine WPL.q (q_load sc3 rfl rfl rfl) rfl ?_
     obtain ⟨x4102, h4102, H⟩ := bnd H
     refine WPL.q (q_nm (q_add rfl rfl) (nm_int h4102)) rfl ?_
     obtain ⟨x4103, h4103, H⟩ := bnd H
     refine WPL.q (q_nm (q_eql rfl rfl) (nm_bool h4103)) rfl ?_
     refine WPL.nilW ?_
     refine W.now ?_
     refine Then.n ?_
     refine WP.cond (t := x4103) rfl (fun hb4103 => ?_) (fun hb4103 => ?_)
     · replace H := cnt hb4103 H
       refine WP.exitW ?_
       refine W.now ?_
       refine InBlock.x rfl ?_
       refine ⟨rfl, _, _, _, _, _, _, rfl, rfl, _, rfl, ?_⟩
       refine WPL.q (q_as (v := .lit (.bool _)) rfl) rfl ?_
       refine WPL.nilW ?_
       refine W.now ?_
       refine InBlock.n ?_
       refine InBlock.n ?_
       refine Then.n (.inr ?_)
       refine WPI.round ?_
       refine WP.seq ?_
       refine WP.seq ?_
       refine WP.region ?_
       refine WPL.q (q_mv (v := .lit (.bool _)) rfl) rfl ?_
       refine WPL.nilW ?_
       refine W.now ?_
       refine Then.n ?_
       refine WP.condF rfl ?_
       refine WP.exitW ?_
       have q0 := Option.some.inj H
       subst q0
       exact W.wk [0, 1, 17, 10, 11, 8, 20, 3, 4, 5, 16, 7, 12, 13, 14] hnp (Then.x (Then.x ⟨rfl, rfl, rfl⟩)) ⟨rfl, ⟨⟨⟨⟨⟨⟨⟨⟨⟨⟨⟨⟨⟨⟨⟨trivial, .inr ⟨rfl, rfl, rfl⟩⟩, .inr ⟨rfl, rfl, rfl⟩⟩, .inr ⟨rfl, rfl, rfl⟩⟩, .inr ⟨rfl, rfl, rfl⟩⟩, .inr ⟨rfl, rfl, rfl⟩⟩, .inr ⟨rfl, rfl, rfl⟩⟩, .inr ⟨rfl, rfl, rfl⟩⟩, .inr ⟨rfl, rfl, rfl⟩⟩, .inr ⟨rfl, rfl, rfl⟩⟩, .inr ⟨rfl, rfl, rfl⟩⟩, .inr ⟨rfl, rfl, rfl⟩⟩, .inr ⟨rfl, rfl, rfl⟩⟩, .inr ⟨rfl, rfl, rfl⟩⟩, .inr ⟨rfl, rfl, rfl⟩⟩, .inr ⟨rfl, rfl, rfl⟩⟩, by decide, rfl, ⟨⟨trivial, rfl⟩, rfl⟩⟩ (LeE.noneD rfl rfl (.cons ⟨rfl, (LeV.upd rfl rfl (LeV.upd rfl rfl (LeV.upd rfl rfl (LeV.upd rfl rfl (LeV.upd rfl rfl LeV.none))))), rfl, rfl, rfl, rfl⟩ .nil)) rfl
     replace H := cnf hb4103 H
     refine WP.skipW ?_
     refine W.now ?_
     refine InBlock.n ?_
     refine ⟨rfl, _, _, _, _, _, _, rfl, rfl, _, rfl, ?_⟩
     refine WPL.q (q_as (v := .lit (.bool _)) rfl) rfl ?_
     refine WPL.nilW ?_
     exact W.wk [0, 1, 17, 3, 4, 5, 16, 7, 8, 20, 10, 11, 12, 13, 14] hnp (InBlock.n (InBlock.n (Then.n (.inl ⟨n, (x4084, x4085, (x3927 ++ x4100)), Nat.lt_succ_self n, H, rfl, rfl⟩)))) ⟨rfl, ⟨⟨⟨⟨⟨⟨⟨⟨⟨⟨⟨⟨⟨⟨⟨trivial, .inr ⟨rfl, rfl, rfl⟩⟩, .inr ⟨rfl, rfl, rfl⟩⟩, .inr ⟨rfl, rfl, rfl⟩⟩, .inr ⟨rfl, rfl, rfl⟩⟩, .inr ⟨rfl, rfl, rfl⟩⟩, .inr ⟨rfl, rfl, rfl⟩⟩, .inr ⟨rfl, rfl, rfl⟩⟩, .inr ⟨rfl, rfl, rfl⟩⟩, .inr ⟨rfl, rfl, rfl⟩⟩, .inr ⟨rfl, rfl, rfl⟩⟩, .inr ⟨rfl, rfl, rfl⟩⟩, .inr ⟨rfl, rfl, rfl⟩⟩, .inr ⟨rfl, rfl, rfl⟩⟩, .inr ⟨rfl, rfl, rfl⟩⟩, .inr ⟨rfl, rfl, rfl⟩⟩, by decide, rfl, ⟨⟨trivial, rfl⟩, rfl⟩⟩ (LeE.upd rfl rfl (LeE.upd rfl rfl (LeE.upd rfl rfl (LeE.upd rfl rfl (LeE.upd rfl rfl (LeE.noneD rfl rfl (.cons ⟨rfl, (LeV.upd rfl rfl (LeV.upd rfl rfl (LeV.upd rfl rfl (LeV.upd rfl rfl (LeV.upd rfl rfl LeV.none))))), rfl, rfl, rfl, rfl⟩ .nil))))))) rfl
   replace H := cnf hb4079 H
   refine WP.seq ?_
   refine WP.region ?_
   refine WPL.q (q_eql rfl rfl) rfl ?_
   refine WPL.q (q_as (v := .lit (.bool _)) rfl) rfl ?_
   refine WPL.nilW ?_
   refine W.now ?_
   refine Then.n ?_
   refine WP.cond (t := (decide (x4046 = 18))) rfl (fun hb4104 => ?_) (fun hb4104 => ?_)
   · replace H := cnt hb4104 H
     refine WP.region ?_
     refine WPL.q (q_mv (v := .lit _) rfl) rfl ?_
     refine WPL.q (q_load sc41 rfl rfl rfl) rfl ?_
     obtain ⟨y4111, h4105, H⟩ := bnd H
     rcases y4111 with x4107 | ⟨x4108, x4109, x4110⟩
     · refine WPL.pW (runs_callP (s := [0, 1, 15]) (t := [0, 1]) (N := 17) (bor := []) fn26 rfl (s_inflate_stream_take k 7 x3171 x4047 x4048 x3174 (Sum.inl x4107) h4105) ⟨rfl, ⟨⟨⟨trivial, .inr ⟨rfl, rfl, rfl⟩⟩, .inr ⟨rfl, rfl, rfl⟩⟩, .inr ⟨rfl, rfl, rfl⟩⟩, by decide, rfl, trivial⟩ rfl trivial (.ren rfl rfl (.ren rfl rfl .nil)) rfl ⟨⟨trivial, rfl⟩, rfl⟩ rfl) ?_
       have q0 := Option.some.inj H
       subst q0
       exact W.wkP [0, 1, 10, 11, 8, 9, 3, 4, 5, 16, 7, 12, 13, 14] hnp (InBlock.p (InBlock.p (Then.p ⟨rfl, rfl, rfl⟩))) ⟨rfl, ⟨⟨⟨⟨⟨⟨⟨⟨⟨⟨⟨⟨⟨⟨trivial, .inl rfl⟩, .inl rfl⟩, .inr ⟨rfl, rfl, rfl⟩⟩, .inr ⟨rfl, rfl, rfl⟩⟩, .inr ⟨rfl, rfl, rfl⟩⟩, .inr ⟨rfl, rfl, rfl⟩⟩, .inr ⟨rfl, rfl, rfl⟩⟩, .inr ⟨rfl, rfl, rfl⟩⟩, .inr ⟨rfl, rfl, rfl⟩⟩, .inr ⟨rfl, rfl, rfl⟩⟩, .inr ⟨rfl, rfl, rfl⟩⟩, .inr ⟨rfl, rfl, rfl⟩⟩, .inr ⟨rfl, rfl, rfl⟩⟩, .inr ⟨rfl, rfl, rfl⟩⟩, by decide, rfl, ⟨⟨trivial, rfl⟩, rfl⟩⟩ (LeE.noneD rfl rfl (.cons ⟨rfl, (LeV.upd rfl rfl (LeV.upd rfl rfl (LeV.upd rfl rfl (LeV.upd rfl rfl LeV.none)))), rfl, rfl, rfl, rfl⟩ .nil)) rfl rfl
     refine WPL.c (runs_call (s := [0, 1, 15]) (t := [0, 1, 17]) (N := 18) (bor := []) fn26 rfl (s_inflate_stream_take k 7 x3171 x4047 x4048 x3174 (Sum.inr (x4108, x4109, x4110)) h4105) ⟨rfl, ⟨⟨⟨trivial, .inr ⟨rfl, rfl, rfl⟩⟩, .inr ⟨rfl, rfl, rfl⟩⟩, .inr ⟨rfl, rfl, rfl⟩⟩, by decide, rfl, trivial⟩ rfl trivial (.ren rfl rfl (.ren rfl rfl .nil)) rfl ⟨⟨⟨trivial, rfl⟩, rfl⟩, rfl⟩ rfl) rfl ?_
     refine WPL.q (q_add rfl rfl) rfl ?_
     refine WPL.q (q_build bu40 rfl) rfl ?_
     refine WPL.y rfl rfl rfl rfl hp3722 ha3722 hb3722 ht3722 hs3722 hf3722 rfl rfl rfl fun aI4111 => ?_
     refine WP.region ?_
     refine WPL.d (d_alloc ze40 rfl) rfl ?_
     refine WPL.s (s_store sz40 rfl rfl rfl rfl rfl) ?_
     refine WPL.nilW ?_
     refine W.now ?_
     refine ⟨rfl, rfl, _, _, _, _, _, _, rfl, rfl, ?_⟩
     refine WP.block ?_
     refine WP.seq ?_
     refine WP.region ?_
     refine WPL.q (q_fieldAddr fi40_0 rfl rfl) rfl ?_
     refine WPL.q (q_load sc3 rfl rfl rfl) rfl ?_
     refine WPL.q (q_load sc3 rfl rfl rfl) rfl ?_
     refine WPL.q (q_load sc3 rfl rfl rfl) rfl ?_
     obtain ⟨x4113, h4113, H⟩ := bnd H
     refine WPL.q (q_nm (q_add rfl rfl) (nm_int h4113)) rfl ?_
     refine WPL.q (q_load sc25 rfl rfl rfl) rfl ?_
     refine WPL.q (q_len_row sl25 rfl rfl) rfl ?_
     obtain ⟨x4114, h4114, H⟩ := bnd H
     refine WPL.q (q_nm (q_sub rfl rfl) (nm_int h4114)) rfl ?_
     obtain ⟨x4115, h4115, H⟩ := bnd H
     refine WPL.q (q_nm (q_leq rfl rfl) (nm_bool h4115)) rfl ?_
     obtain ⟨y4117, h4115, H⟩ := bnd H
     rcases y4117 with _ | _
     · refine WPL.pW (runs_callP (s := []) (t := []) (N := 19) (bor := []) fn34 rfl (s_inflate_ask k x4115 12 (Sum.inl ()) h4115) ⟨rfl, trivial, by decide, rfl, trivial⟩ rfl trivial (.ren rfl rfl (.ren rfl rfl .nil)) rfl trivial rfl) ?_
       refine W.now ?_
       refine Then.p ?_
       refine InBlock.p ?_
       refine ⟨rfl, _, _, _, _, _, _, rfl, rfl, ?_⟩
       have q0 := Option.some.inj H
       subst q0
       exact W.wkP [0, 1, 17, 10, 11, 8, 9, 3, 4, 5, 16, 7, 12, 13, 14] hnp (InBlock.p (InBlock.p (Then.p ⟨rfl, rfl, rfl⟩))) ⟨rfl, ⟨⟨⟨⟨⟨⟨⟨⟨⟨⟨⟨⟨⟨⟨⟨trivial, .inr ⟨rfl, rfl, rfl⟩⟩, .inr ⟨rfl, rfl, rfl⟩⟩, .inr ⟨rfl, rfl, rfl⟩⟩, .inr ⟨rfl, rfl, rfl⟩⟩, .inr ⟨rfl, rfl, rfl⟩⟩, .inr ⟨rfl, rfl, rfl⟩⟩, .inr ⟨rfl, rfl, rfl⟩⟩, .inr ⟨rfl, rfl, rfl⟩⟩, .inr ⟨rfl, rfl, rfl⟩⟩, .inr ⟨rfl, rfl, rfl⟩⟩, .inr ⟨rfl, rfl, rfl⟩⟩, .inr ⟨rfl, rfl, rfl⟩⟩, .inr ⟨rfl, rfl, rfl⟩⟩, .inr ⟨rfl, rfl, rfl⟩⟩, .inr ⟨rfl, rfl, rfl⟩⟩, by decide, rfl, ⟨⟨trivial, rfl⟩, rfl⟩⟩ (LeE.noneD rfl rfl (.cons ⟨rfl, (LeV.upd rfl rfl (LeV.upd rfl rfl (LeV.upd rfl rfl (LeV.upd rfl rfl (LeV.upd rfl rfl LeV.none))))), rfl, rfl, rfl, rfl⟩ .nil)) rfl rfl
     refine WPL.c (runs_call (s := []) (t := []) (N := 19) (bor := []) fn34 rfl (s_inflate_ask k x4115 12 (Sum.inr ()) h4115) ⟨rfl, trivial, by decide, rfl, trivial⟩ rfl trivial (.ren rfl rfl (.ren rfl rfl .nil)) rfl trivial rfl) rfl ?_
     refine WPL.nilW ?_
     refine W.now ?_
     refine Then.n ?_
     refine WP.seq ?_
     refine WP.regionD' 6 [8, 18] [5] mixed rfl ?_
     refine WPD.take 0 rfl (by kernel_rfl) (q_load sc25 rfl rfl rfl) rfl rfl ?_
     refine WPD.take 1 rfl (by kernel_rfl) (q_load_ag ag40 rfl rfl (Nat.le_of_ble_eq_true rfl)) rfl rfl ?_
     refine WPD.eff 2 [8, 18] [5] rfl (by kernel_rfl) (Does.runs (d_buildSlice (ds := ([(⟨(IntKind.wrap .i64 (11 + x4108)), 0⟩ : S_inflate_run)] : List S_inflate_run)) (R := rdS_inflate_run) li49 rfl rfl rfl rfl rfl (JoinRows.cons (l := [.lit (.int .i64 (IntKind.wrap .i64 (11 + x4108))), .lit (.int .i64 0)]) (Joins.via (Joins.cons Joins.sc (Joins.cons Joins.sc Joins.unit))) rfl JoinRows.nil) rfl rfl)) rfl rfl ?_
     obtain ⟨x4125, h4123, H⟩ := bnd H
     refine WPD.eff 3 [8, 18] [5] rfl (by kernel_rfl) (runs_call (s := []) (t := []) (N := 20) (bor := [19]) fn20 rfl (s_inflate_laid k ([(⟨(IntKind.wrap .i64 (11 + x4108)), 0⟩ : S_inflate_run)] : List S_inflate_run) x4125 h4123) ⟨rfl, trivial, by decide, rfl, trivial⟩ rfl ⟨trivial, rfl, rfl, trivial⟩ (.row rfl rfl .nil) rfl trivial rfl) rfl rfl ?_
     obtain ⟨h4125, H⟩ := grd H
     refine WPD.eff 4 [8, 18] [5] rfl (by kernel_rfl) (Does.runs (d_append ap25 rfl rfl rfl rfl (src_ro sl25 rfl) h4125 rfl)) rfl rfl ?_
     refine WPD.effS 5 [] [] rfl (by kernel_rfl) (s_store sz25 rfl rfl rfl rfl rfl) rfl ?_
     refine WPD.doneW (by kernel_rfl) ?_
     refine W.now ?_
     refine Then.n ?_
     refine WP.seq ?_
     refine WP.region ?_
     refine WPL.q (q_load sc25 rfl rfl rfl) rfl ?_
     refine WPL.q (q_len_row sl25 rfl rfl) rfl ?_
     refine WPL.q (q_load sc3 rfl rfl rfl) rfl ?_
     refine WPL.q (q_load sc3 rfl rfl rfl) rfl ?_
     obtain ⟨x4127, h4127, H⟩ := bnd H
     refine WPL.q (q_nm (q_add rfl rfl) (nm_int h4127)) rfl ?_
     obtain ⟨x4128, h4128, H⟩ := bnd H
     refine WPL.q (q_nm (q_eql rfl rfl) (nm_bool h4128)) rfl ?_
     refine WPL.nilW ?_
     refine W.now ?_
     refine Then.n ?_
     refine WP.cond (t := x4128) rfl (fun hb4128 => ?_) (fun hb4128 => ?_)
     · replace H := cnt hb4128 H
       refine WP.exitW ?_
       refine W.now ?_
       refine InBlock.x rfl ?_
       refine ⟨rfl, _, _, _, _, _, _, rfl, rfl, _, rfl, ?_⟩
       refine WPL.q (q_as (v := .lit (.bool _)) rfl) rfl ?_
       refine WPL.nilW ?_
       refine W.now ?_
       refine InBlock.n ?_
       refine InBlock.n ?_
       refine Then.n (.inr ?_)
       refine WPI.round ?_
       refine WP.seq ?_
       refine WP.seq ?_
       refine WP.region ?_
       refine WPL.q (q_mv (v := .lit (.bool _)) rfl) rfl ?_
       refine WPL.nilW ?_
       refine W.now ?_
       refine Then.n ?_
       refine WP.condF rfl ?_
       refine WP.exitW ?_
       have q0 := Option.some.inj H
       subst q0
       exact W.wk [0, 1, 17, 10, 11, 8, 20, 3, 4, 5, 16, 7, 12, 13, 14] hnp (Then.x (Then.x ⟨rfl, rfl, rfl⟩)) ⟨rfl, ⟨⟨⟨⟨⟨⟨⟨⟨⟨⟨⟨⟨⟨⟨⟨trivial, .inr ⟨rfl, rfl, rfl⟩⟩, .inr ⟨rfl, rfl, rfl⟩⟩, .inr ⟨rfl, rfl, rfl⟩⟩, .inr ⟨rfl, rfl, rfl⟩⟩, .inr ⟨rfl, rfl, rfl⟩⟩, .inr ⟨rfl, rfl, rfl⟩⟩, .inr ⟨rfl, rfl, rfl⟩⟩, .inr ⟨rfl, rfl, rfl⟩⟩, .inr ⟨rfl, rfl, rfl⟩⟩, .inr ⟨rfl, rfl, rfl⟩⟩, .inr ⟨rfl, rfl, rfl⟩⟩, .inr ⟨rfl, rfl, rfl⟩⟩, .inr ⟨rfl, rfl, rfl⟩⟩, .inr ⟨rfl, rfl, rfl⟩⟩, .inr ⟨rfl, rfl, rfl⟩⟩, by decide, rfl, ⟨⟨trivial, rfl⟩, rfl⟩⟩ (LeE.noneD rfl rfl (.cons ⟨rfl, (LeV.upd rfl rfl (LeV.upd rfl rfl (LeV.upd rfl rfl (LeV.upd rfl rfl (LeV.upd rfl rfl LeV.none))))), rfl, rfl, rfl, rfl⟩ .nil)) rfl
     replace H := cnf hb4128 H
     refine WP.skipW ?_
     refine W.now ?_
     refine InBlock.n ?_
     refine ⟨rfl, _, _, _, _, _, _, rfl, rfl, _, rfl, ?_⟩
     refine WPL.q (q_as (v := .lit (.bool _)) rfl) rfl ?_
     refine WPL.nilW ?_
     exact W.wk [0, 1, 17, 3, 4, 5, 16, 7, 8, 20, 10, 11, 12, 13, 14] hnp (InBlock.n (InBlock.n (Then.n (.inl ⟨n, (x4109, x4110, (x3927 ++ x4125)), Nat.lt_succ_self n, H, rfl, rfl⟩)))) ⟨rfl, ⟨⟨⟨⟨⟨⟨⟨⟨⟨⟨⟨⟨⟨⟨⟨trivial, .inr ⟨rfl, rfl, rfl⟩⟩, .inr ⟨rfl, rfl, rfl⟩⟩, .inr ⟨rfl, rfl, rfl⟩⟩, .inr ⟨rfl, rfl, rfl⟩⟩, .inr ⟨rfl, rfl, rfl⟩⟩, .inr ⟨rfl, rfl, rfl⟩⟩, .inr ⟨rfl, rfl, rfl⟩⟩, .inr ⟨rfl, rfl, rfl⟩⟩, .inr ⟨rfl, rfl, rfl⟩⟩, .inr ⟨rfl, rfl, rfl⟩⟩, .inr ⟨rfl, rfl, rfl⟩⟩, .inr ⟨rfl, rfl, rfl⟩⟩, .inr ⟨rfl, rfl, rfl⟩⟩, .inr ⟨rfl, rfl, rfl⟩⟩, .inr ⟨rfl, rfl, rfl⟩⟩, by decide, rfl, ⟨⟨trivial, rfl⟩, rfl⟩⟩ (LeE.upd rfl rfl (LeE.upd rfl rfl (LeE.upd rfl rfl (LeE.upd rfl rfl (LeE.upd rfl rfl (LeE.noneD rfl rfl (.cons ⟨rfl, (LeV.upd rfl rfl (LeV.upd rfl rfl (LeV.upd rfl rfl (LeV.upd rfl rfl (LeV.upd rfl rfl LeV.none))))), rfl, rfl, rfl, rfl⟩ .nil))))))) rfl
   replace H := cnf hb4104 H
   refine WP.region ?_
   refine WPL.q (q_mv (v := .lit _) rfl) rfl ?_
   refine WPL.q (q_mv (v := .lit (.int _ _)) rfl) rfl ?_
   refine WPL.q (q_build bu40 rfl) rfl ?_
   refine WPL.y rfl rfl rfl rfl hp3722 ha3722 hb3722 ht3722 hs3722 hf3722 rfl rfl rfl fun aI4129 => ?_
   refine WP.region ?_
   refine WPL.d (d_alloc ze40 rfl) rfl ?_
   refine WPL.s (s_store sz40 rfl rfl rfl rfl rfl) ?_
   refine WPL.nilW ?_
   refine W.now ?_
   refine ⟨rfl, rfl, _, _, _, _, _, _, rfl, rfl, ?_⟩
   refine WP.block ?_
   refine WP.seq ?_
   refine WP.region ?_
   refine WPL.q (q_fieldAddr fi40_0 rfl rfl) rfl ?_
   refine WPL.q (q_load sc3 rfl rfl rfl) rfl ?_
   refine WPL.q (q_load sc3 rfl rfl rfl) rfl ?_
   refine WPL.q (q_load sc3 rfl rfl rfl) rfl ?_
   obtain ⟨x4131, h4131, H⟩ := bnd H
   refine WPL.q (q_nm (q_add rfl rfl) (nm_int h4131)) rfl ?_
   refine WPL.q (q_load sc25 rfl rfl rfl) rfl ?_
   refine WPL.q (q_len_row sl25 rfl rfl) rfl ?_
   obtain ⟨x4132, h4132, H⟩ := bnd H
   refine WPL.q (q_nm (q_sub rfl rfl) (nm_int h4132)) rfl ?_
   refine WPL.q (q_leq rfl rfl) rfl ?_
   obtain ⟨y4134, h4132, H⟩ := bnd H
   rcases y4134 with _ | _
   · refine WPL.pW (runs_callP (s := []) (t := []) (N := 18) (bor := []) fn34 rfl (s_inflate_ask k (decide (1 ≤ x4132)) 12 (Sum.inl ()) h4132) ⟨rfl, trivial, by decide, rfl, trivial⟩ rfl trivial (.ren rfl rfl (.ren rfl rfl .nil)) rfl trivial rfl) ?_
     refine W.now ?_
     refine Then.p ?_
     refine InBlock.p ?_
     refine ⟨rfl, _, _, _, _, _, _, rfl, rfl, ?_⟩
     have q0 := Option.some.inj H
     subst q0
     exact W.wkP [0, 1, 15, 10, 11, 8, 9, 3, 4, 5, 16, 7, 12, 13, 14] hnp (InBlock.p (InBlock.p (Then.p ⟨rfl, rfl, rfl⟩))) ⟨rfl, ⟨⟨⟨⟨⟨⟨⟨⟨⟨⟨⟨⟨⟨⟨⟨trivial, .inr ⟨rfl, rfl, rfl⟩⟩, .inr ⟨rfl, rfl, rfl⟩⟩, .inr ⟨rfl, rfl, rfl⟩⟩, .inr ⟨rfl, rfl, rfl⟩⟩, .inr ⟨rfl, rfl, rfl⟩⟩, .inr ⟨rfl, rfl, rfl⟩⟩, .inr ⟨rfl, rfl, rfl⟩⟩, .inr ⟨rfl, rfl, rfl⟩⟩, .inr ⟨rfl, rfl, rfl⟩⟩, .inr ⟨rfl, rfl, rfl⟩⟩, .inr ⟨rfl, rfl, rfl⟩⟩, .inr ⟨rfl, rfl, rfl⟩⟩, .inr ⟨rfl, rfl, rfl⟩⟩, .inr ⟨rfl, rfl, rfl⟩⟩, .inr ⟨rfl, rfl, rfl⟩⟩, by decide, rfl, ⟨⟨trivial, rfl⟩, rfl⟩⟩ (LeE.noneD rfl rfl (.cons ⟨rfl, (LeV.upd rfl rfl (LeV.upd rfl rfl (LeV.upd rfl rfl (LeV.upd rfl rfl (LeV.upd rfl rfl LeV.none))))), rfl, rfl, rfl, rfl⟩ .nil)) rfl rfl
   refine WPL.c (runs_call (s := []) (t := []) (N := 18) (bor := []) fn34 rfl (s_inflate_ask k (decide (1 ≤ x4132)) 12 (Sum.inr ()) h4132) ⟨rfl, trivial, by decide, rfl, trivial⟩ rfl trivial (.ren rfl rfl (.ren rfl rfl .nil)) rfl trivial rfl) rfl ?_
   refine WPL.nilW ?_
   refine W.now ?_
   refine Then.n ?_
   refine WP.seq ?_
   refine WP.regionD' 6 [8, 17] [5] mixed rfl ?_
   refine WPD.take 0 rfl (by kernel_rfl) (q_load sc25 rfl rfl rfl) rfl rfl ?_
   refine WPD.take 1 rfl (by kernel_rfl) (q_load_ag ag40 rfl rfl (Nat.le_of_ble_eq_true rfl)) rfl rfl ?_
   refine WPD.eff 2 [8, 17] [5] rfl (by kernel_rfl) (Does.runs (d_buildSlice (ds := ([(⟨1, x4046⟩ : S_inflate_run)] : List S_inflate_run)) (R := rdS_inflate_run) li49 rfl rfl rfl rfl rfl (JoinRows.cons (l := [.lit (.int .i64 1), .lit (.int .i64 x4046)]) (Joins.via (Joins.cons Joins.sc (Joins.cons Joins.sc Joins.unit))) rfl JoinRows.nil) rfl rfl)) rfl rfl ?_
   obtain ⟨x4142, h4140, H⟩ := bnd H
   refine WPD.eff 3 [8, 17] [5] rfl (by kernel_rfl) (runs_call (s := []) (t := []) (N := 19) (bor := [18]) fn20 rfl (s_inflate_laid k ([(⟨1, x4046⟩ : S_inflate_run)] : List S_inflate_run) x4142 h4140) ⟨rfl, trivial, by decide, rfl, trivial⟩ rfl ⟨trivial, rfl, rfl, trivial⟩ (.row rfl rfl .nil) rfl trivial rfl) rfl rfl ?_
   obtain ⟨h4142, H⟩ := grd H
   refine WPD.eff 4 [8, 17] [5] rfl (by kernel_rfl) (Does.runs (d_append ap25 rfl rfl rfl rfl (src_ro sl25 rfl) h4142 rfl)) rfl rfl ?_
   refine WPD.effS 5 [] [] rfl (by kernel_rfl) (s_store sz25 rfl rfl rfl rfl rfl) rfl ?_
   refine WPD.doneW (by kernel_rfl) ?_
   refine W.now ?_
   refine Then.n ?_
   refine WP.seq ?_
   refine WP.region ?_
   refine WPL.q (q_load sc25 rfl rfl rfl) rfl ?_
   refine WPL.q (q_len_row sl25 rfl rfl) rfl ?_
   refine WPL.q (q_load sc3 rfl rfl rfl) rfl ?_
   refine WPL.q (q_load sc3 rfl rfl rfl) rfl ?_
   obtain ⟨x4144, h4144, H⟩ := bnd H
   refine WPL.q (q_nm (q_add rfl rfl) (nm_int h4144)) rfl ?_
   obtain ⟨x4145, h4145, H⟩ := bnd H
   refine WPL.q (q_nm (q_eql rfl rfl) (nm_bool h4145)) rfl ?_
   refine WPL.nilW ?_
   refine W.now ?_
   refine Then.n ?_
   refine WP.cond (t := x4145) rfl (fun hb4145 => ?_) (fun hb4145 => ?_)
   · replace H := cnt hb4145 H
     refine WP.exitW ?_
     refine W.now ?_
     refine InBlock.x rfl ?_
     refine ⟨rfl, _, _, _, _, _, _, rfl, rfl, _, rfl, ?_⟩
     refine WPL.q (q_as (v := .lit (.bool _)) rfl) rfl ?_
     refine WPL.nilW ?_
     refine W.now ?_
     refine InBlock.n ?_
     refine InBlock.n ?_
     refine Then.n (.inr ?_)
     refine WPI.round ?_
     refine WP.seq ?_
     refine WP.seq ?_
     refine WP.region ?_
     refine WPL.q (q_mv (v := .lit (.bool _)) rfl) rfl ?_
     refine WPL.nilW ?_
     refine W.now ?_
     refine Then.n ?_
     refine WP.condF rfl ?_
     refine WP.exitW ?_
     have q0 := Option.some.inj H
     subst q0
     exact W.wk [0, 1, 15, 10, 11, 8, 19, 3, 4, 5, 16, 7, 12, 13, 14] hnp (Then.x (Then.x ⟨rfl, rfl, rfl⟩)) ⟨rfl, ⟨⟨⟨⟨⟨⟨⟨⟨⟨⟨⟨⟨⟨⟨⟨trivial, .inr ⟨rfl, rfl, rfl⟩⟩, .inr ⟨rfl, rfl, rfl⟩⟩, .inr ⟨rfl, rfl, rfl⟩⟩, .inr ⟨rfl, rfl, rfl⟩⟩, .inr ⟨rfl, rfl, rfl⟩⟩, .inr ⟨rfl, rfl, rfl⟩⟩, .inr ⟨rfl, rfl, rfl⟩⟩, .inr ⟨rfl, rfl, rfl⟩⟩, .inr ⟨rfl, rfl, rfl⟩⟩, .inr ⟨rfl, rfl, rfl⟩⟩, .inr ⟨rfl, rfl, rfl⟩⟩, .inr ⟨rfl, rfl, rfl⟩⟩, .inr ⟨rfl, rfl, rfl⟩⟩, .inr ⟨rfl, rfl, rfl⟩⟩, .inr ⟨rfl, rfl, rfl⟩⟩, by decide, rfl, ⟨⟨trivial, rfl⟩, rfl⟩⟩ (LeE.noneD rfl rfl (.cons ⟨rfl, (LeV.upd rfl rfl (LeV.upd rfl rfl (LeV.upd rfl rfl (LeV.upd rfl rfl (LeV.upd rfl rfl LeV.none))))), rfl, rfl, rfl, rfl⟩ .nil)) rfl
   replace H := cnf hb4145 H
   refine WP.skipW ?_
   refine W.now ?_
   refine InBlock.n ?_
   refine ⟨rfl, _, _, _, _, _, _, rfl, rfl, _, rfl, ?_⟩
   refine WPL.q (q_as (v := .lit (.bool _)) rfl) rfl ?_
   refine WPL.nilW ?_
   exact W.wk [0, 1, 15, 3, 4, 5, 16, 7, 8, 19, 10, 11, 12, 13, 14] hnp (InBlock.n (InBlock.n (Then.n (.inl ⟨n, (x4047, x4048, (x3927 ++ x4142)), Nat.lt_succ_self n, H, rfl, rfl⟩)))) ⟨rfl, ⟨⟨⟨⟨⟨⟨⟨⟨⟨⟨⟨⟨⟨⟨⟨trivial, .inr ⟨rfl, rfl, rfl⟩⟩, .inr ⟨rfl, rfl, rfl⟩⟩, .inr ⟨rfl, rfl, rfl⟩⟩, .inr ⟨rfl, rfl, rfl⟩⟩, .inr ⟨rfl, rfl, rfl⟩⟩, .inr ⟨rfl, rfl, rfl⟩⟩, .inr ⟨rfl, rfl, rfl⟩⟩, .inr ⟨rfl, rfl, rfl⟩⟩, .inr ⟨rfl, rfl, rfl⟩⟩, .inr ⟨rfl, rfl, rfl⟩⟩, .inr ⟨rfl, rfl, rfl⟩⟩, .inr ⟨rfl, rfl, rfl⟩⟩, .inr ⟨rfl, rfl, rfl⟩⟩, .inr ⟨rfl, rfl, rfl⟩⟩, .inr ⟨rfl, rfl, rfl⟩⟩, by decide, rfl, ⟨⟨trivial, rfl⟩, rfl⟩⟩ (LeE.upd rfl rfl (LeE.upd rfl rfl (LeE.upd rfl rfl (LeE.upd rfl rfl (LeE.upd rfl rfl (LeE.noneD rfl rfl (.cons ⟨rfl, (LeV.upd rfl rfl (LeV.upd rfl rfl (LeV.upd rfl rfl (LeV.upd rfl rfl (LeV.upd rfl rfl LeV.none))))), rfl, rfl, rfl, rfl⟩ .nil))))))) rfl
 rcases y4148 with ⟨x4031, x4032⟩ | ⟨x4033, x4034, x4035⟩ | ⟨x4036, x4037⟩ | ⟨x4038, x4039, x4040⟩ | ⟨x4041, x4042, x4043⟩
 · rintro _ _ _ ⟨rfl, rfl, rfl⟩
   refine W.now ?_
   refine InBlock.p ?_
   refine ⟨trivial, _, _, _, _, rfl, ?_⟩
   have q0 := Option.some.inj H
   subst q0
   exact W.now (InBlock.p (Then.p (BodyR.mkP ⟨.inl rfl, ⟨.inr rfl, trivial⟩⟩ [0, 1] ⟨rfl, rfl⟩ ⟨rfl, ⟨⟨trivial, .inl rfl⟩, .inl rfl⟩, by decide, rfl, ⟨⟨trivial, rfl⟩, rfl⟩⟩ rfl rfl)))
 · rintro _ _ _ ⟨rfl, rfl, rfl⟩
   refine W.now ?_
   refine InBlock.p ?_
   refine ⟨trivial, _, _, _, _, rfl, ?_⟩
   have q0 := Option.some.inj H
   subst q0
   exact W.now (InBlock.p (Then.p (BodyR.mkP ⟨.inl rfl, ⟨.inr rfl, trivial⟩⟩ [0, 1] ⟨rfl, rfl⟩ ⟨rfl, ⟨⟨trivial, .inl rfl⟩, .inl rfl⟩, by decide, rfl, ⟨⟨trivial, rfl⟩, rfl⟩⟩ rfl rfl)))
 · rintro _ _ _ ⟨rfl, rfl, rfl⟩
   refine W.now ?_
   refine InBlock.p ?_
   refine ⟨trivial, _, _, _, _, rfl, ?_⟩
   have q0 := Option.some.inj H
   subst q0
   exact W.now (InBlock.p (Then.p (BodyR.mkP ⟨.inl rfl, ⟨.inr rfl, trivial⟩⟩ [0, 1] ⟨rfl, rfl⟩ ⟨rfl, ⟨⟨trivial, .inl rfl⟩, .inl rfl⟩, by decide, rfl, ⟨⟨trivial, rfl⟩, rfl⟩⟩ rfl rfl)))
 · rintro _ _ _ ⟨rfl, rfl, rfl⟩
   refine W.now ?_
   refine InBlock.p ?_
   refine ⟨trivial, _, _, _, _, rfl, ?_⟩
   have q0 := Option.some.inj H
   subst q0
   exact W.now (InBlock.p (Then.p (BodyR.mkP ⟨.inl rfl, ⟨.inr rfl, trivial⟩⟩ [0, 1] ⟨rfl, rfl⟩ ⟨rfl, ⟨⟨trivial, .inl rfl⟩, .inl rfl⟩, by decide, rfl, ⟨⟨trivial, rfl⟩, rfl⟩⟩ rfl rfl)))
 rintro _ _ _ ⟨rfl, rfl, rfl⟩
 refine W.now ?_
 refine InBlock.x0 ?_
 refine ⟨trivial, _, _, _, _, rfl, _, _, rfl, (fun h => by cases h), ?_⟩
 refine WP.cv (Cv.absorb (N := 15) (j := 12) (i := 13) rfl rfl rfl rfl) ?_
 refine WP.exitW ?_
 refine W.now ?_
 refine InBlock.x0 ?_
 refine Then.n ?_
 refine WP.seq ?_
 refine WP.region ?_
 refine WPL.q (q_load sc25 rfl rfl rfl) rfl ?_
 obtain ⟨x4149, h4149, H⟩ := bnd H
 refine WPL.q (q_index_row sl25 rfl rfl rfl (ixs h4149)) rfl ?_
 refine WPL.q (q_load_row (j := (Int.toNat 256)) sc3 rfl rfl (ixj h4149)) rfl ?_
 refine WPL.q (q_gtr rfl rfl) rfl ?_
 obtain ⟨y4151, h4149, H⟩ := bnd H
 rcases y4151 with _ | _
 · refine WPL.pW (runs_callP (s := []) (t := []) (N := 16) (bor := []) fn34 rfl (s_inflate_ask k (decide (0 < x4149)) 12 (Sum.inl ()) h4149) ⟨rfl, trivial, by decide, rfl, trivial⟩ rfl trivial (.ren rfl rfl (.ren rfl rfl .nil)) rfl trivial rfl) ?_
   have q0 := Option.some.inj H
   subst q0
   exact W.now (Then.p (BodyR.mkP ⟨.inr rfl, trivial⟩ [0, 1] ⟨rfl, rfl⟩ ⟨rfl, ⟨⟨trivial, .inl rfl⟩, .inl rfl⟩, by decide, rfl, ⟨⟨trivial, rfl⟩, rfl⟩⟩ rfl rfl))
 refine WPL.c (runs_call (s := []) (t := []) (N := 16) (bor := []) fn34 rfl (s_inflate_ask k (decide (0 < x4149)) 12 (Sum.inr ()) h4149) ⟨rfl, trivial, by decide, rfl, trivial⟩ rfl trivial (.ren rfl rfl (.ren rfl rfl .nil)) rfl trivial rfl) rfl ?_
 refine WPL.nilW ?_
 refine W.now ?_
 refine Then.n ?_
 refine WP.seq ?_
 refine WP.region ?_
 refine WPL.q (q_load sc25 rfl rfl rfl) rfl ?_
 refine WPL.q (q_load sc3 rfl rfl rfl) rfl ?_
 obtain ⟨h4151, H⟩ := grd H
 refine WPL.cv (Cv.frzRow (i := 6) rfl rfl hnp rfl rfl) ?_
 refine WPL.q (q_slice_ro (i := 0) (j := (IntKind.wrap .i64 (257 + x3637))) sl25 rfl rfl rfl ⟨_, rfl⟩ h4151) rfl ?_
 obtain ⟨y4157, h4152, H⟩ := bnd H
 rcases y4157 with x4154 | ⟨x4155, x4156⟩
 · refine WPL.pW (runs_callP (s := []) (t := []) (N := 16) (bor := []) fn29 rfl (s_inflate_code k (List.drop (Int.toNat 0) (List.take (Int.toNat (IntKind.wrap .i64 (257 + x3637))) x4043)) (Sum.inl x4154) h4152) ⟨rfl, trivial, by decide, rfl, trivial⟩ rfl trivial (.ren rfl rfl .nil) rfl trivial rfl) ?_
   have q0 := Option.some.inj H
   subst q0
   exact W.now (Then.p (BodyR.mkP ⟨.inr rfl, trivial⟩ [0, 1] ⟨rfl, rfl⟩ ⟨rfl, ⟨⟨trivial, .inl rfl⟩, .inl rfl⟩, by decide, rfl, ⟨⟨trivial, rfl⟩, rfl⟩⟩ rfl rfl))
 refine WPL.c (runs_call (s := []) (t := [16, 17]) (N := 18) (bor := []) fn29 rfl (s_inflate_code k (List.drop (Int.toNat 0) (List.take (Int.toNat (IntKind.wrap .i64 (257 + x3637))) x4043)) (Sum.inr (x4155, x4156)) h4152) ⟨rfl, trivial, by decide, rfl, trivial⟩ rfl trivial (.ren rfl rfl .nil) rfl ⟨⟨trivial, rfl⟩, rfl⟩ rfl) rfl ?_
 refine WPL.q (q_as (v := .ptr _ _) rfl) rfl ?_
 refine WPL.nilW ?_
 refine W.now ?_
 refine Then.n ?_
 refine WP.region ?_
 refine WPL.q (q_mv (v := .ptr _ _) rfl) rfl ?_
 refine WPL.q (q_mv (v := .ptr _ _) rfl) rfl ?_
 refine WPL.q (q_load sc25 rfl rfl rfl) rfl ?_
 refine WPL.q (q_load sc3 rfl rfl rfl) rfl ?_
 obtain ⟨h4157, H⟩ := grd H
 refine WPL.q (q_slice_ro (i := (IntKind.wrap .i64 (257 + x3637))) (j := ((List.length x4043 : Nat) : Int)) sl25 rfl rfl ⟨_, rfl⟩ rfl h4157) rfl ?_
 obtain ⟨y4163, h4158, H⟩ := bnd H
 rcases y4163 with x4160 | ⟨x4161, x4162⟩
 · refine WPL.pW (runs_callP (s := []) (t := []) (N := 18) (bor := []) fn29 rfl (s_inflate_code k (List.drop (Int.toNat (IntKind.wrap .i64 (257 + x3637))) (List.take (Int.toNat ((List.length x4043 : Nat) : Int)) x4043)) (Sum.inl x4160) h4158) ⟨rfl, trivial, by decide, rfl, trivial⟩ rfl trivial (.ren rfl rfl .nil) rfl trivial rfl) ?_
   have q0 := Option.some.inj H
   subst q0
   exact W.now (BodyR.mkP ⟨.inr rfl, trivial⟩ [0, 1] ⟨rfl, rfl⟩ ⟨rfl, ⟨⟨trivial, .inl rfl⟩, .inl rfl⟩, by decide, rfl, ⟨⟨trivial, rfl⟩, rfl⟩⟩ rfl rfl)
 refine WPL.c (runs_call (s := []) (t := [18, 19]) (N := 20) (bor := []) fn29 rfl (s_inflate_code k (List.drop (Int.toNat (IntKind.wrap .i64 (257 + x3637))) (List.take (Int.toNat ((List.length x4043 : Nat) : Int)) x4043)) (Sum.inr (x4161, x4162)) h4158) ⟨rfl, trivial, by decide, rfl, trivial⟩ rfl trivial (.ren rfl rfl .nil) rfl ⟨⟨trivial, rfl⟩, rfl⟩ rfl) rfl ?_
 obtain ⟨y4169, h4163, H⟩ := bnd H
 rcases y4169 with x4165 | ⟨x4166, x4167, x4168⟩
 · refine WPL.pW (runs_callP (s := [0, 1, 16, 18, 2, 17, 19]) (t := [0, 1, 16, 18]) (N := 20) (bor := []) fn28 rfl (s_inflate_stream_coded k x3171 x4041 x4042 x4155 x4161 x3174 x4156 x4162 (Sum.inl x4165) h4163) ⟨rfl, ⟨⟨⟨⟨⟨⟨⟨trivial, .inr ⟨rfl, rfl, rfl⟩⟩, .inr ⟨rfl, rfl, rfl⟩⟩, .inr ⟨rfl, rfl, rfl⟩⟩, .inr ⟨rfl, rfl, rfl⟩⟩, .inr ⟨rfl, rfl, rfl⟩⟩, .inr ⟨rfl, rfl, rfl⟩⟩, .inr ⟨rfl, rfl, rfl⟩⟩, by decide, rfl, trivial⟩ rfl trivial (.ren rfl rfl (.ren rfl rfl (.ren rfl rfl .nil))) rfl ⟨⟨⟨⟨trivial, rfl⟩, rfl⟩, rfl⟩, rfl⟩ rfl) ?_
   have q0 := Option.some.inj H
   subst q0
   exact W.now (BodyR.mkP ⟨.inr rfl, trivial⟩ [0, 1] ⟨rfl, rfl⟩ ⟨rfl, ⟨⟨trivial, .inl rfl⟩, .inl rfl⟩, by decide, rfl, ⟨⟨trivial, rfl⟩, rfl⟩⟩ rfl rfl)
 refine WPL.c (runs_call (s := [0, 1, 16, 18, 2, 17, 19]) (t := [0, 1, 16, 18, 20, 21, 22]) (N := 23) (bor := []) fn28 rfl (s_inflate_stream_coded k x3171 x4041 x4042 x4155 x4161 x3174 x4156 x4162 (Sum.inr (x4166, x4167, x4168)) h4163) ⟨rfl, ⟨⟨⟨⟨⟨⟨⟨trivial, .inr ⟨rfl, rfl, rfl⟩⟩, .inr ⟨rfl, rfl, rfl⟩⟩, .inr ⟨rfl, rfl, rfl⟩⟩, .inr ⟨rfl, rfl, rfl⟩⟩, .inr ⟨rfl, rfl, rfl⟩⟩, .inr ⟨rfl, rfl, rfl⟩⟩, .inr ⟨rfl, rfl, rfl⟩⟩, by decide, rfl, trivial⟩ rfl trivial (.ren rfl rfl (.ren rfl rfl (.ren rfl rfl .nil))) rfl ⟨⟨⟨⟨⟨⟨⟨trivial, rfl⟩, rfl⟩, rfl⟩, rfl⟩, rfl⟩, rfl⟩, rfl⟩ rfl) rfl ?_
 refine WPL.nilW ?_
 have q0 := Option.some.inj H
 subst q0
 exact W.now (BodyR.mkN ⟨.inr rfl, trivial⟩ rfl [0, 1, 20] ⟨rfl, rfl⟩ ⟨rfl, ⟨⟨⟨trivial, .inr ⟨rfl, rfl, rfl⟩⟩, .inr ⟨rfl, rfl, rfl⟩⟩, .inr ⟨rfl, rfl, rfl⟩⟩, by decide, rfl, ⟨⟨trivial, rfl⟩, rfl⟩⟩ rfl rfl)
end Go.Proofs.Ytpceecokdpdgfaa.W
