/- Texts joined: part 5 of what LDeflateParse stands on. -/
import Derived.Test.YtmmeanjjfhimjaaSDeflateParsed
namespace Go.Proofs.Ytmmeanjjfhimjaa.W
open Go Go.Q Go.Proofs
set_option linter.unusedVariables false
set_option linter.unusedSimpArgs false
set_option maxRecDepth 100000 in
set_option maxHeartbeats 4000000 in
theorem s_deflate_fixed (k : Nat) (x3195 : (List S_deflate_Item)) (x5154 : (List Int)) (H : g_deflate_fixed k x3195 = some x5154) : Go.Q.Spec Try.prog 17 0 [.ro (Rd.slice rdS_deflate_Item) false x3195] Mem.nil (fun o M => o = .ret (.ro (Rd.slice (Rd.int .u8)) false x5154) ∧ M = Mem.nil) := by
 unfold g_deflate_fixed at H
 refine Go.Q.Spec.of_bodyR (az := []) (rs := [.tmp 2]) (nt := 15) Try.func17 rfl rfl (by intro t T h; simp at h) rfl rfl fun cx hnp => ?_
 refine WP.seq ?_
 refine WP.region ?_
 refine WPL.q (q_as (v := .lit _) rfl) rfl ?_
 refine WPL.nilW ?_
 refine W.now ?_
 refine Then.n ?_
 refine WP.seq ?_
 refine WP.region ?_
 obtain ⟨_, h5154, H⟩ := bnd H
 refine WPL.c (runs_call (s := []) (t := [0]) (N := 1) (bor := []) fn23 rfl (s_bits_NewWriter k h5154) ⟨rfl, trivial, by decide, rfl, trivial⟩ rfl trivial .nil rfl ⟨trivial, rfl⟩ rfl) rfl ?_
 refine WPL.q (q_as (v := .ptr _ _) rfl) rfl ?_
 refine WPL.nilW ?_
 refine W.now ?_
 refine Then.n ?_
 refine WP.seq ?_
 refine WP.region ?_
 refine WPL.q (q_mv (v := .ptr _ _) rfl) rfl ?_
 obtain ⟨⟨x5157, x5158, x5159⟩, h5155, H⟩ := bnd H
 refine WPL.c (runs_call (s := [0]) (t := [0, 1]) (N := 2) (bor := []) fn24 rfl (s_bits_Writer_Put k 3 3 0 x5157 x5158 x5159 h5155) ⟨rfl, ⟨trivial, .inr ⟨rfl, rfl, rfl⟩⟩, by decide, rfl, trivial⟩ rfl trivial (.ren rfl rfl (.ren rfl rfl (.ren rfl rfl .nil))) rfl ⟨⟨trivial, rfl⟩, rfl⟩ rfl) rfl ?_
 refine WPL.nilW ?_
 refine W.now ?_
 refine Then.n ?_
 refine WP.seq ?_
 refine WP.region ?_
 refine WPL.q (q_mv (v := .ptr _ _) rfl) rfl ?_
 obtain ⟨x5161, h5159, H⟩ := bnd H
 refine WPL.c (runs_call (s := []) (t := []) (N := 2) (bor := []) fn29 rfl (s_inflate_FixedLit k x5161 h5159) ⟨rfl, trivial, by decide, rfl, trivial⟩ rfl trivial .nil rfl trivial rfl) rfl ?_
 obtain ⟨x5163, h5161, H⟩ := bnd H
 refine WPL.c (runs_call (s := []) (t := []) (N := 2) (bor := []) fn30 rfl (s_inflate_FixedDist k x5163 h5161) ⟨rfl, trivial, by decide, rfl, trivial⟩ rfl trivial .nil rfl trivial rfl) rfl ?_
 obtain ⟨⟨x5165, x5166⟩, h5163, H⟩ := bnd H
 refine WPL.c (runs_call (s := [0, 1]) (t := [0, 2, 3]) (N := 4) (bor := []) fn28 rfl (s_deflate_coded k x5161 x5163 x5158 x5159 x5165 x5166 h5163) ⟨rfl, ⟨⟨trivial, .inr ⟨rfl, rfl, rfl⟩⟩, .inr ⟨rfl, rfl, rfl⟩⟩, by decide, rfl, trivial⟩ rfl trivial (.ren rfl rfl (.ren rfl rfl (.ren rfl rfl .nil))) rfl ⟨⟨⟨trivial, rfl⟩, rfl⟩, rfl⟩ rfl) rfl ?_
 refine WPL.q (q_mv (v := .ro _ _ _) rfl) rfl ?_
 obtain ⟨⟨x5168, x5169⟩, h5166, H⟩ := bnd H
 refine WPL.c (runs_call (s := [3, 0, 2]) (t := [3, 0, 4]) (N := 5) (bor := []) fn31 rfl (s_deflate_coder_all k x3195 x5161 x5163 x5165 x5166 x5158 x5159 x5168 x5169 h5166) ⟨rfl, ⟨⟨⟨trivial, .inr ⟨rfl, rfl, rfl⟩⟩, .inr ⟨rfl, rfl, rfl⟩⟩, .inr ⟨rfl, rfl, rfl⟩⟩, by decide, rfl, trivial⟩ rfl trivial (.ren rfl rfl (.ren rfl rfl .nil)) rfl ⟨⟨⟨trivial, rfl⟩, rfl⟩, rfl⟩ rfl) rfl ?_
 refine WPL.nilW ?_
 refine W.now ?_
 refine Then.n ?_
 refine WP.seq ?_
 refine WP.region ?_
 refine WPL.q (q_mv (v := .ptr _ _) rfl) rfl ?_
 obtain ⟨x5171, h5169, H⟩ := bnd H
 refine WPL.c (runs_call (s := [0, 4]) (t := [0, 5]) (N := 6) (bor := []) fn27 rfl (s_bits_Writer_Done k x5168 x5169 x5171 h5169) ⟨rfl, ⟨⟨trivial, .inr ⟨rfl, rfl, rfl⟩⟩, .inr ⟨rfl, rfl, rfl⟩⟩, by decide, rfl, trivial⟩ rfl trivial (.ren rfl rfl .nil) rfl ⟨⟨trivial, rfl⟩, rfl⟩ rfl) rfl ?_
 refine WPL.q (q_as (v := .ro _ _ _) rfl) rfl ?_
 refine WPL.nilW ?_
 refine W.now ?_
 refine Then.n ?_
 refine WP.retW ?_
 have q0 := (Option.some.inj H)
 subst q0
 exact W.now (BodyR.mkR trivial rfl [] ⟨rfl, rfl⟩ ⟨rfl, trivial, by decide, rfl, trivial⟩ rfl rfl)
set_option maxRecDepth 100000 in
set_option maxHeartbeats 4000000 in
theorem s_cmp_isNaN_int (k : Nat) (x5469 : Int) (H : g_cmp_isNaN_int k x5469 = some ()) : Go.Q.Spec Try.prog 79 0 [.lit (.int .i64 x5469)] Mem.nil (fun o M => o = .ret (.lit (.bool (!decide (x5469 = x5469)))) ∧ M = Mem.nil) := by
 unfold g_cmp_isNaN_int at H
 refine Go.Q.Spec.of_bodyR (az := []) (rs := [.tmp 2]) (nt := 6) Try.func79 rfl rfl (by intro t T h; simp at h) rfl rfl fun cx hnp => ?_
 refine WP.seq ?_
 refine WP.region ?_
 refine WPL.q (q_as (v := .lit (.bool _)) rfl) rfl ?_
 refine WPL.nilW ?_
 refine W.now ?_
 refine Then.n ?_
 refine WP.seq ?_
 refine WP.region ?_
 refine WPL.q (q_mv (v := .lit (.int _ _)) rfl) rfl ?_
 refine WPL.q (q_mv (v := .lit (.int _ _)) rfl) rfl ?_
 refine WPL.q (q_neq rfl rfl) rfl ?_
 refine WPL.q (q_as (v := .lit (.bool _)) rfl) rfl ?_
 refine WPL.nilW ?_
 refine W.now ?_
 refine Then.n ?_
 refine WP.retW ?_
 exact W.now (BodyR.mkR trivial rfl [] ⟨rfl, rfl⟩ ⟨rfl, trivial, by decide, rfl, trivial⟩ rfl rfl)
set_option maxRecDepth 100000 in
set_option maxHeartbeats 4000000 in
theorem s_cmp_Compare_int (k : Nat) (x5466 : Int) (x5467 : Int) (x5485 : Int) (H : g_cmp_Compare_int k x5466 x5467 = some x5485) : Go.Q.Spec Try.prog 59 0 [.lit (.int .i64 x5466), .lit (.int .i64 x5467)] Mem.nil (fun o M => o = .ret (.lit (.int .i64 x5485)) ∧ M = Mem.nil) := by
 unfold g_cmp_Compare_int at H
 refine Go.Q.Spec.of_bodyR (az := []) (rs := [.tmp 4]) (nt := 20) Try.func59 rfl rfl (by intro t T h; simp at h) rfl rfl fun cx hnp => ?_
 refine WP.seq ?_
 refine WP.region ?_
 refine WPL.q (q_as (v := .lit (.int _ _)) rfl) rfl ?_
 refine WPL.nilW ?_
 refine W.now ?_
 refine Then.n ?_
 refine WP.seq ?_
 refine WP.region ?_
 refine WPL.q (q_mv (v := .lit (.int _ _)) rfl) rfl ?_
 obtain ⟨_, h5485, H⟩ := bnd H
 refine WPL.c (runs_call (s := []) (t := []) (N := 0) (bor := []) fn79 rfl (s_cmp_isNaN_int k x5466 h5485) ⟨rfl, trivial, by decide, rfl, trivial⟩ rfl trivial (.ren rfl rfl .nil) rfl trivial rfl) rfl ?_
 refine WPL.q (q_as (v := .lit (.bool _)) rfl) rfl ?_
 refine WPL.nilW ?_
 refine W.now ?_
 refine Then.n ?_
 refine WP.seq ?_
 refine WP.region ?_
 refine WPL.q (q_mv (v := .lit (.int _ _)) rfl) rfl ?_
 obtain ⟨_, h5486, H⟩ := bnd H
 refine WPL.c (runs_call (s := []) (t := []) (N := 0) (bor := []) fn79 rfl (s_cmp_isNaN_int k x5467 h5486) ⟨rfl, trivial, by decide, rfl, trivial⟩ rfl trivial (.ren rfl rfl .nil) rfl trivial rfl) rfl ?_
 refine WPL.q (q_as (v := .lit (.bool _)) rfl) rfl ?_
 refine WPL.nilW ?_
 refine W.now ?_
 refine Then.n ?_
 refine WP.seq ?_
 refine WP.seq ?_
 refine WP.region ?_
 refine WPL.q (q_mv (v := .lit (.bool _)) rfl) rfl ?_
 refine WPL.nilW ?_
 refine W.now ?_
 refine Then.n ?_
 refine WP.cond (t := (!decide (x5466 = x5466))) rfl (fun hb5490 => ?_) (fun hb5490 => ?_)
 · replace H := cnt hb5490 H
   refine WP.seq ?_
   refine WP.seq ?_
   refine WP.region ?_
   refine WPL.q (q_mv (v := .lit (.bool _)) rfl) rfl ?_
   refine WPL.nilW ?_
   refine W.now ?_
   refine Then.n ?_
   refine WP.cond (t := (!decide (x5467 = x5467))) rfl (fun hb5492 => ?_) (fun hb5492 => ?_)
   · replace H := cnt hb5492 H
     refine WP.seq ?_
     refine WP.region ?_
     refine WPL.q (q_as (v := .lit (.int _ _)) rfl) rfl ?_
     refine WPL.nilW ?_
     refine W.now ?_
     refine Then.n ?_
     refine WP.retW ?_
     have q0 := (Option.some.inj H)
     subst q0
     exact W.now (Then.r (Then.r (BodyR.mkR trivial rfl [] ⟨rfl, rfl⟩ ⟨rfl, trivial, by decide, rfl, trivial⟩ rfl rfl)))
   replace H := cnf hb5492 H
   refine WP.skipW ?_
   refine W.now ?_
   refine Then.n ?_
   refine WP.seq ?_
   refine WP.region ?_
   refine WPL.q (q_as (v := .lit (.int _ _)) rfl) rfl ?_
   refine WPL.nilW ?_
   refine W.now ?_
   refine Then.n ?_
   refine WP.retW ?_
   have q0 := (Option.some.inj H)
   subst q0
   exact W.now (Then.r (BodyR.mkR trivial rfl [] ⟨rfl, rfl⟩ ⟨rfl, trivial, by decide, rfl, trivial⟩ rfl rfl))
 replace H := cnf hb5490 H
 refine WP.skipW ?_
 refine W.now ?_
 refine Then.n ?_
 refine WP.seq ?_
 refine WP.seq ?_
 refine WP.region ?_
 refine WPL.q (q_mv (v := .lit (.bool _)) rfl) rfl ?_
 refine WPL.nilW ?_
 refine W.now ?_
 refine Then.n ?_
 refine WP.cond (t := (!decide (x5467 = x5467))) rfl (fun hb5494 => ?_) (fun hb5494 => ?_)
 · replace H := cnt hb5494 H
   refine WP.seq ?_
   refine WP.region ?_
   refine WPL.q (q_as (v := .lit (.int _ _)) rfl) rfl ?_
   refine WPL.nilW ?_
   refine W.now ?_
   refine Then.n ?_
   refine WP.retW ?_
   have q0 := (Option.some.inj H)
   subst q0
   exact W.now (Then.r (BodyR.mkR trivial rfl [] ⟨rfl, rfl⟩ ⟨rfl, trivial, by decide, rfl, trivial⟩ rfl rfl))
 replace H := cnf hb5494 H
 refine WP.skipW ?_
 refine W.now ?_
 refine Then.n ?_
 refine WP.seq ?_
 refine WP.seq ?_
 refine WP.region ?_
 refine WPL.q (q_mv (v := .lit (.int _ _)) rfl) rfl ?_
 refine WPL.q (q_mv (v := .lit (.int _ _)) rfl) rfl ?_
 refine WPL.q (q_lss rfl rfl) rfl ?_
 refine WPL.nilW ?_
 refine W.now ?_
 refine Then.n ?_
 refine WP.cond (t := (decide (x5466 < x5467))) rfl (fun hb5496 => ?_) (fun hb5496 => ?_)
 · replace H := cnt hb5496 H
   refine WP.seq ?_
   refine WP.region ?_
   refine WPL.q (q_as (v := .lit (.int _ _)) rfl) rfl ?_
   refine WPL.nilW ?_
   refine W.now ?_
   refine Then.n ?_
   refine WP.retW ?_
   have q0 := (Option.some.inj H)
   subst q0
   exact W.now (Then.r (BodyR.mkR trivial rfl [] ⟨rfl, rfl⟩ ⟨rfl, trivial, by decide, rfl, trivial⟩ rfl rfl))
 replace H := cnf hb5496 H
 refine WP.skipW ?_
 refine W.now ?_
 refine Then.n ?_
 refine WP.seq ?_
 refine WP.seq ?_
 refine WP.region ?_
 refine WPL.q (q_mv (v := .lit (.int _ _)) rfl) rfl ?_
 refine WPL.q (q_mv (v := .lit (.int _ _)) rfl) rfl ?_
 refine WPL.q (q_gtr rfl rfl) rfl ?_
 refine WPL.nilW ?_
 refine W.now ?_
 refine Then.n ?_
 refine WP.cond (t := (decide (x5467 < x5466))) rfl (fun hb5498 => ?_) (fun hb5498 => ?_)
 · replace H := cnt hb5498 H
   refine WP.seq ?_
   refine WP.region ?_
   refine WPL.q (q_as (v := .lit (.int _ _)) rfl) rfl ?_
   refine WPL.nilW ?_
   refine W.now ?_
   refine Then.n ?_
   refine WP.retW ?_
   have q0 := (Option.some.inj H)
   subst q0
   exact W.now (Then.r (BodyR.mkR trivial rfl [] ⟨rfl, rfl⟩ ⟨rfl, trivial, by decide, rfl, trivial⟩ rfl rfl))
 replace H := cnf hb5498 H
 refine WP.skipW ?_
 refine W.now ?_
 refine Then.n ?_
 refine WP.seq ?_
 refine WP.region ?_
 refine WPL.q (q_as (v := .lit (.int _ _)) rfl) rfl ?_
 refine WPL.nilW ?_
 refine W.now ?_
 refine Then.n ?_
 refine WP.retW ?_
 have q0 := (Option.some.inj H)
 subst q0
 exact W.now (BodyR.mkR trivial rfl [] ⟨rfl, rfl⟩ ⟨rfl, trivial, by decide, rfl, trivial⟩ rfl rfl)
set_option maxRecDepth 100000 in
set_option maxHeartbeats 4000000 in
theorem s_huff_Lengths_1 (k : Nat) (x5461 : Int) (x5462 : (List Int)) (x5463 : Int) (x5464 : (List Int)) (x5502 : Int) (H : g_huff_Lengths_1 k x5461 x5462 x5463 x5464 = some x5502) : Go.Q.Spec Try.prog 58 0 [.agg [.lit (.int .i64 x5461), .ro (Rd.slice (Rd.int .i64)) false x5462], .agg [.lit (.int .i64 x5463), .ro (Rd.slice (Rd.int .i64)) false x5464]] Mem.nil (fun o M => o = .ret (.lit (.int .i64 x5502)) ∧ M = Mem.nil) := by
 unfold g_huff_Lengths_1 at H
 refine Go.Q.Spec.of_bodyR (az := []) (rs := [.tmp 4]) (nt := 10) Try.func58 rfl rfl (by intro t T h; simp at h) rfl rfl fun cx hnp => ?_
 refine WP.seq ?_
 refine WP.region ?_
 refine WPL.d (d_box rfl rfl) rfl ?_
 refine WPL.d (d_box rfl rfl) rfl ?_
 refine WPL.q (q_as (v := .lit (.int _ _)) rfl) rfl ?_
 refine WPL.nilW ?_
 refine W.now ?_
 refine Then.n ?_
 refine WP.seq ?_
 refine WP.region ?_
 refine WPL.q (q_fieldAddr fi114_0 rfl rfl) rfl ?_
 refine WPL.q (q_load sc3 rfl rfl rfl) rfl ?_
 refine WPL.q (q_fieldAddr fi114_0 rfl rfl) rfl ?_
 refine WPL.q (q_load sc3 rfl rfl rfl) rfl ?_
 obtain ⟨x5504, h5502, H⟩ := bnd H
 refine WPL.c (runs_call (s := []) (t := []) (N := 2) (bor := []) fn59 rfl (s_cmp_Compare_int k x5461 x5463 x5504 h5502) ⟨rfl, trivial, by decide, rfl, trivial⟩ rfl trivial (.ren rfl rfl (.ren rfl rfl .nil)) rfl trivial rfl) rfl ?_
 refine WPL.q (q_as (v := .lit (.int _ _)) rfl) rfl ?_
 refine WPL.nilW ?_
 refine W.now ?_
 refine Then.n ?_
 refine WP.retW ?_
 have q0 := (Option.some.inj H)
 subst q0
 exact W.now (BodyR.mkR trivial rfl [] ⟨rfl, rfl⟩ ⟨rfl, trivial, by decide, rfl, trivial⟩ rfl rfl)
set_option maxRecDepth 100000 in
set_option maxHeartbeats 4000000 in
theorem s_slices_insertionSortCmpFunc_huff_coin (k : Nat) (x5443 : Int) (x5444 : Int) (x5445 : (List S_huff_coin)) (x5827 : (List S_huff_coin)) (H : g_slices_insertionSortCmpFunc_huff_coin k x5443 x5444 x5445 = some x5827) : Go.Q.Spec Try.prog 88 1 [.whole 0, .lit (.int .i64 x5443), .lit (.int .i64 x5444), .fn 58 []] (Mem.nil.push (.row 114 rdS_huff_coin x5445)) (fun o M => o = .ret (.tup []) ∧ M = (Mem.nil.push (.row 114 rdS_huff_coin x5827))) := by
 unfold g_slices_insertionSortCmpFunc_huff_coin at H
 refine Go.Q.Spec.of_bodyR (az := []) (rs := []) (nt := 53) Try.func88 rfl rfl (by intro t T h; simp at h) rfl rfl fun cx hnp => ?_
 refine WP.seq ?_
 refine WP.region ?_
 refine WPL.q (q_mv (v := .lit (.int _ _)) rfl) rfl ?_
 refine WPL.q (q_add rfl rfl) rfl ?_
 refine WPL.q (q_as (v := .lit (.int _ _)) rfl) rfl ?_
 refine WPL.nilW ?_
 refine W.now ?_
 refine Then.n ?_
 refine WP.block ?_
 refine WP.cv (Cv.weak (E' := (((((Env.none.upd 0 (.whole 0)).upd 1 (.lit (.int .i64 x5443))).upd 2 (.lit (.int .i64 x5444))).upd 3 (.fn 58 [])).upd 8 (.lit (.int .i64 (IntKind.wrap .i64 (x5443 + 1)))))) (M' := (Mem.nil.push (.row 114 rdS_huff_coin x5445))) [0] hnp ⟨rfl, ⟨trivial, .inr ⟨rfl, rfl, rfl⟩⟩, by decide, rfl, ⟨trivial, rfl⟩⟩ (LeE.upd rfl rfl (LeE.upd rfl rfl (LeE.upd rfl rfl (LeE.upd rfl rfl (LeE.upd rfl rfl (LeE.none rfl rfl))))))) ?_
 obtain ⟨x6162, H6381, H⟩ := bnd H
 refine WP.monoW (Q := fun x E M => x = .exit 0 ∧ E = Env.none ∧ M = (Mem.nil.push (.row 114 rdS_huff_coin x6162))) ?_ ?_
 · refine WP.loop (β := Int × (List S_huff_coin)) (fun n b => g_slices_insertionSortCmpFunc_huff_coin_l0 k x5443 x5444 n b.1 b.2 = some x6162) (fun b => (((((Env.none.upd 0 (.whole 0)).upd 1 (.lit (.int .i64 x5443))).upd 2 (.lit (.int .i64 x5444))).upd 3 (.fn 58 [])).upd 8 (.lit (.int .i64 b.1)))) (fun b => (Mem.nil.push (.row 114 rdS_huff_coin b.2))) k ((IntKind.wrap .i64 (x5443 + 1)), x5445) H6381 rfl rfl ?_
   rintro n ⟨x6012, x6013⟩ H
   obtain _ | n := n
   · exact nf rfl H
   rw [g_slices_insertionSortCmpFunc_huff_coin_l0.eq_2] at H
   show WP _ _ _ _ (((((Env.none.upd 0 (.whole 0)).upd 1 (.lit (.int .i64 x5443))).upd 2 (.lit (.int .i64 x5444))).upd 3 (.fn 58 [])).upd 8 (.lit (.int .i64 x6012))) (Mem.nil.push (.row 114 rdS_huff_coin x6013)) _
   refine WP.seq ?_
   refine WP.seq ?_
   refine WP.region ?_
   refine WPL.q (q_mv (v := .lit (.int _ _)) rfl) rfl ?_
   refine WPL.q (q_mv (v := .lit (.int _ _)) rfl) rfl ?_
   refine WPL.q (q_lss rfl rfl) rfl ?_
   refine WPL.nilW ?_
   refine W.now ?_
   refine Then.n ?_
   refine WP.cond (t := (decide (x6012 < x5444))) rfl (fun hb6163 => ?_) (fun hb6163 => ?_)
   · replace H := cnt hb6163 H
     refine WP.skipW ?_
     refine W.now ?_
     refine Then.n ?_
     refine WP.seq ?_
     refine WP.block ?_
     refine WP.seq ?_
     refine WP.region ?_
     refine WPL.q (q_mv (v := .lit (.int _ _)) rfl) rfl ?_
     refine WPL.q (q_as (v := .lit (.int _ _)) rfl) rfl ?_
     refine WPL.nilW ?_
     refine W.now ?_
     refine Then.n ?_
     refine WP.block ?_
     refine WP.cv (Cv.weak (E' := ((((((Env.none.upd 0 (.whole 0)).upd 1 (.lit (.int .i64 x5443))).upd 2 (.lit (.int .i64 x5444))).upd 3 (.fn 58 [])).upd 8 (.lit (.int .i64 x6012))).upd 9 (.lit (.int .i64 x6012)))) (M' := (Mem.nil.push (.row 114 rdS_huff_coin x6013))) [0] hnp ⟨rfl, ⟨trivial, .inr ⟨rfl, rfl, rfl⟩⟩, by decide, rfl, ⟨trivial, rfl⟩⟩ (LeE.upd rfl rfl (LeE.upd rfl rfl (LeE.upd rfl rfl (LeE.upd rfl rfl (LeE.upd rfl rfl (LeE.upd rfl rfl (LeE.none rfl rfl)))))))) ?_
     obtain ⟨x6309, H6380, H⟩ := bnd H
     refine WP.monoW (Q := fun x E M => x = .exit 2 ∧ E = (((((Env.none.upd 0 (.whole 0)).upd 1 (.lit (.int .i64 x5443))).upd 2 (.lit (.int .i64 x5444))).upd 3 (.fn 58 [])).upd 8 (.lit (.int .i64 x6012))) ∧ M = (Mem.nil.push (.row 114 rdS_huff_coin x6309))) ?_ ?_
     · refine WP.loop (β := Int × (List S_huff_coin)) (fun n b => g_slices_insertionSortCmpFunc_huff_coin_l1 k x5443 n b.1 b.2 = some x6309) (fun b => ((((((Env.none.upd 0 (.whole 0)).upd 1 (.lit (.int .i64 x5443))).upd 2 (.lit (.int .i64 x5444))).upd 3 (.fn 58 [])).upd 8 (.lit (.int .i64 x6012))).upd 9 (.lit (.int .i64 b.1)))) (fun b => (Mem.nil.push (.row 114 rdS_huff_coin b.2))) k (x6012, x6013) H6380 rfl rfl ?_
       rintro n ⟨x6236, x6237⟩ H
       obtain _ | n := n
       · exact nf rfl H
       rw [g_slices_insertionSortCmpFunc_huff_coin_l1.eq_2] at H
       show WP _ _ _ _ ((((((Env.none.upd 0 (.whole 0)).upd 1 (.lit (.int .i64 x5443))).upd 2 (.lit (.int .i64 x5444))).upd 3 (.fn 58 [])).upd 8 (.lit (.int .i64 x6012))).upd 9 (.lit (.int .i64 x6236))) (Mem.nil.push (.row 114 rdS_huff_coin x6237)) _
       refine WP.seq ?_
       refine WP.seq ?_
       obtain ⟨x6352, H6365, H⟩ := bnd H
       refine WP.monoW (Q := fun x E M => x = .normal ∧ E = (((((((Env.none.upd 0 (.whole 0)).upd 1 (.lit (.int .i64 x5443))).upd 2 (.lit (.int .i64 x5444))).upd 3 (.fn 58 [])).upd 8 (.lit (.int .i64 x6012))).upd 9 (.lit (.int .i64 x6236))).upd 34 (.lit (.bool x6352))) ∧ M = (Mem.nil.push (.row 114 rdS_huff_coin x6237))) ?_ ?_
       · clear H
         have H := H6365
         clear H6365
         refine WP.regionD' 17 [0] [] mixed rfl ?_
         refine WPD.takeT 0 rfl (by kernel_rfl) (q_mv (v := .lit (.int _ _)) rfl) rfl ?_
         refine WPD.takeT 1 rfl (by kernel_rfl) (q_mv (v := .lit (.int _ _)) rfl) rfl ?_
         refine WPD.takeT 2 rfl (by kernel_rfl) (q_gtr rfl rfl) rfl ?_
         refine WPD.takeT 3 rfl (by kernel_rfl) (q_mv (v := .lit (.bool _)) rfl) rfl ?_
         refine WPD.split (t := 21) (b := (decide (x5443 < x6236))) rfl (fun hb6360 => ?_) (fun hb6360 => ?_)
         · replace H := cnt hb6360 H
           refine WPD.takegT 4 rfl (by kernel_rfl) rfl rfl (lb hb6360) (q_mv (v := .fn _ _) rfl) rfl ?_
           refine WPD.takegT 5 rfl (by kernel_rfl) rfl rfl (lb hb6360) (q_mv (v := .whole _) rfl) rfl ?_
           refine WPD.takegT 6 rfl (by kernel_rfl) rfl rfl (lb hb6360) (q_mv (v := .lit (.int _ _)) rfl) rfl ?_
           obtain ⟨x6362, h6362, H⟩ := bnd H
           refine WPD.takegT 7 rfl (by kernel_rfl) rfl rfl (lb hb6360) (q_index_row sl112 rfl rfl rfl (ixs h6362)) rfl ?_
           refine WPD.takegT 9 rfl (by kernel_rfl) rfl rfl (lb hb6360) (q_mv (v := .whole _) rfl) rfl ?_
           refine WPD.takegT 10 rfl (by kernel_rfl) rfl rfl (lb hb6360) (q_mv (v := .lit (.int _ _)) rfl) rfl ?_
           refine WPD.takegT 11 rfl (by kernel_rfl) rfl rfl (lb hb6360) (q_sub rfl rfl) rfl ?_
           obtain ⟨x6363, h6363, H⟩ := bnd H
           refine WPD.takegT 12 rfl (by kernel_rfl) rfl rfl (lb hb6360) (q_index_row sl112 rfl rfl rfl (ixs h6363)) rfl ?_
           refine WPD.takeg 8 rfl (by kernel_rfl) rfl rfl (lb hb6360) (q_load_rowag (j := (Int.toNat x6236)) ag114 rfl rfl (ixj h6362) rfl S_huff_coin.sp) rfl rfl ?_
           refine WPD.takeg 13 rfl (by kernel_rfl) rfl rfl (lb hb6360) (q_load_rowag (j := (Int.toNat (IntKind.wrap .i64 (x6236 - 1)))) ag114 rfl rfl (ixj h6363) rfl S_huff_coin.sp) rfl rfl ?_
           obtain ⟨x6365, h6363, H⟩ := bnd H
           refine WPD.effg 14 [0] [] rfl (by kernel_rfl) rfl rfl (lb hb6360) (runs_call (s := []) (t := []) (N := 1) (bor := []) fn58 rfl (s_huff_Lengths_1 k x6362.ffreq x6362.fsyms x6363.ffreq x6363.fsyms x6365 h6363) ⟨rfl, trivial, by decide, rfl, trivial⟩ rfl trivial (.ren rfl rfl (.ren rfl rfl .nil)) rfl trivial rfl) rfl rfl ?_
           refine WPD.takegT 15 rfl (by kernel_rfl) rfl rfl (lb hb6360) (q_lss rfl rfl) rfl ?_
           refine WPD.takeT 16 rfl (by kernel_rfl) (q_pickT (v := .lit (.bool _)) (lb hb6360) rfl) rfl ?_
           refine WPD.doneW (by kernel_rfl) ?_
           have q0 := (Option.some.inj H)
           subst q0
           exact W.wk [0] hnp ⟨rfl, rfl, rfl⟩ ⟨rfl, ⟨trivial, .inr ⟨rfl, rfl, rfl⟩⟩, by decide, rfl, ⟨trivial, rfl⟩⟩ (LeE.upd rfl rfl (LeE.upd rfl rfl (LeE.upd rfl rfl (LeE.upd rfl rfl (LeE.upd rfl rfl (LeE.upd rfl rfl (LeE.upd rfl rfl (LeE.none rfl rfl)))))))) rfl
         replace H := cnf hb6360 H
         refine WPD.pass (b' := false) 4 rfl (by kernel_rfl) rfl rfl (lb hb6360) rfl rfl (.inl trivial) ?_
         refine WPD.pass (b' := false) 5 rfl (by kernel_rfl) rfl rfl (lb hb6360) rfl rfl (.inl trivial) ?_
         refine WPD.pass (b' := false) 6 rfl (by kernel_rfl) rfl rfl (lb hb6360) rfl rfl (.inl trivial) ?_
         refine WPD.pass (b' := false) 7 rfl (by kernel_rfl) rfl rfl (lb hb6360) rfl rfl (.inl trivial) ?_
         refine WPD.pass (b' := false) 8 rfl (by kernel_rfl) rfl rfl (lb hb6360) rfl rfl (.inl trivial) ?_
         refine WPD.pass (b' := false) 9 rfl (by kernel_rfl) rfl rfl (lb hb6360) rfl rfl (.inl trivial) ?_
         refine WPD.pass (b' := false) 10 rfl (by kernel_rfl) rfl rfl (lb hb6360) rfl rfl (.inl trivial) ?_
         refine WPD.pass (b' := false) 11 rfl (by kernel_rfl) rfl rfl (lb hb6360) rfl rfl (.inl trivial) ?_
         refine WPD.pass (b' := false) 12 rfl (by kernel_rfl) rfl rfl (lb hb6360) rfl rfl (.inl trivial) ?_
         refine WPD.pass (b' := false) 13 rfl (by kernel_rfl) rfl rfl (lb hb6360) rfl rfl (.inl trivial) ?_
         refine WPD.pass (b' := false) 14 rfl (by kernel_rfl) rfl rfl (lb hb6360) rfl rfl (SkipOkE.und rfl) ?_
         refine WPD.pass (b' := false) 15 rfl (by kernel_rfl) rfl rfl (lb hb6360) rfl rfl (.inl trivial) ?_
         refine WPD.takeT 16 rfl (by kernel_rfl) (q_pickF (v := .lit (.bool _)) (lb hb6360) rfl) rfl ?_
         refine WPD.doneW (by kernel_rfl) ?_
         have q0 := (Option.some.inj H)
         subst q0
         exact W.wk [0] hnp ⟨rfl, rfl, rfl⟩ ⟨rfl, ⟨trivial, .inr ⟨rfl, rfl, rfl⟩⟩, by decide, rfl, ⟨trivial, rfl⟩⟩ (LeE.upd rfl rfl (LeE.upd rfl rfl (LeE.upd rfl rfl (LeE.upd rfl rfl (LeE.upd rfl rfl (LeE.upd rfl rfl (LeE.upd rfl rfl (LeE.none rfl rfl)))))))) rfl
       rintro _ _ _ ⟨rfl, rfl, rfl⟩
       refine W.now ?_
       refine Then.n ?_
       refine WP.cond (t := x6352) rfl (fun hb6366 => ?_) (fun hb6366 => ?_)
       · replace H := cnt hb6366 H
         refine WP.skipW ?_
         refine W.now ?_
         refine Then.n ?_
         refine WP.seq ?_
         refine WP.block ?_
         refine WP.regionD' 18 [0] [15] mixed rfl ?_
         refine WPD.takeT 0 rfl (by kernel_rfl) (q_mv (v := .whole _) rfl) rfl ?_
         refine WPD.takeT 1 rfl (by kernel_rfl) (q_mv (v := .lit (.int _ _)) rfl) rfl ?_
         refine WPD.takeT 2 rfl (by kernel_rfl) (q_mv (v := .whole _) rfl) rfl ?_
         refine WPD.takeT 3 rfl (by kernel_rfl) (q_mv (v := .lit (.int _ _)) rfl) rfl ?_
         refine WPD.takeT 4 rfl (by kernel_rfl) (q_sub rfl rfl) rfl ?_
         refine WPD.takeT 5 rfl (by kernel_rfl) (q_mv (v := .whole _) rfl) rfl ?_
         refine WPD.takeT 6 rfl (by kernel_rfl) (q_mv (v := .lit (.int _ _)) rfl) rfl ?_
         refine WPD.takeT 7 rfl (by kernel_rfl) (q_sub rfl rfl) rfl ?_
         obtain ⟨x6377, h6377, H⟩ := bnd H
         refine WPD.takeT 8 rfl (by kernel_rfl) (q_index_row sl112 rfl rfl rfl (ixs h6377)) rfl ?_
         refine WPD.takeT 10 rfl (by kernel_rfl) (q_mv (v := .whole _) rfl) rfl ?_
         refine WPD.takeT 11 rfl (by kernel_rfl) (q_mv (v := .lit (.int _ _)) rfl) rfl ?_
         obtain ⟨x6378, h6378, H⟩ := bnd H
         refine WPD.takeT 12 rfl (by kernel_rfl) (q_index_row sl112 rfl rfl rfl (ixs h6378)) rfl ?_
         refine WPD.take 9 rfl (by kernel_rfl) (q_load_rowag (j := (Int.toNat (IntKind.wrap .i64 (x6236 - 1)))) ag114 rfl rfl (ixj h6377) rfl S_huff_coin.sp) rfl rfl ?_
         refine WPD.take 13 rfl (by kernel_rfl) (q_load_rowag (j := (Int.toNat x6236)) ag114 rfl rfl (ixj h6378) rfl S_huff_coin.sp) rfl rfl ?_
         obtain ⟨x6379, h6379, H⟩ := bnd H
         refine WPD.takeT 14 rfl (by kernel_rfl) (q_index_row sl112 rfl rfl rfl (ixs h6379)) rfl ?_
         refine WPD.effS 15 [] [] rfl (by kernel_rfl) (s_store_row (j := (Int.toNat x6236)) (d := (⟨x6377.ffreq, x6377.fsyms⟩ : S_huff_coin)) sz114 rfl rfl rfl rfl (Joins.via (Joins.cons Joins.sc (Joins.cons Joins.one Joins.unit))) (ixl h6379)) rfl ?_
         obtain ⟨x6380, h6380, H⟩ := bnd H
         refine WPD.takeT 16 rfl (by kernel_rfl) (q_index_row sl112 rfl rfl rfl (ixs h6380)) rfl ?_
         refine WPD.effS 17 [] [] rfl (by kernel_rfl) (s_store_row (j := (Int.toNat (IntKind.wrap .i64 (x6236 - 1)))) (d := (⟨x6378.ffreq, x6378.fsyms⟩ : S_huff_coin)) sz114 rfl rfl rfl rfl (Joins.via (Joins.cons Joins.sc (Joins.cons Joins.one Joins.unit))) (ixl h6380)) rfl ?_
         refine WPD.doneW (by kernel_rfl) ?_
         refine W.now ?_
         refine InBlock.n ?_
         refine Then.n ?_
         refine WP.region ?_
         refine WPL.q (q_mv (v := .lit (.int _ _)) rfl) rfl ?_
         refine WPL.q (q_sub rfl rfl) rfl ?_
         refine WPL.q (q_as (v := .lit (.int _ _)) rfl) rfl ?_
         refine WPL.nilW ?_
         exact W.wk [0] hnp (Then.n ⟨n, ((IntKind.wrap .i64 (x6236 - 1)), (List.set (List.set x6237 (Int.toNat x6236) (⟨x6377.ffreq, x6377.fsyms⟩ : S_huff_coin)) (Int.toNat (IntKind.wrap .i64 (x6236 - 1))) (⟨x6378.ffreq, x6378.fsyms⟩ : S_huff_coin))), Nat.lt_succ_self n, H, rfl, rfl⟩) ⟨rfl, ⟨trivial, .inr ⟨rfl, rfl, rfl⟩⟩, by decide, rfl, ⟨trivial, rfl⟩⟩ (LeE.upd rfl rfl (LeE.upd rfl rfl (LeE.upd rfl rfl (LeE.upd rfl rfl (LeE.upd rfl rfl (LeE.upd rfl rfl (LeE.none rfl rfl))))))) rfl
       replace H := cnf hb6366 H
       refine WP.exitW ?_
       have q0 := (Option.some.inj H)
       subst q0
       exact W.wk [0] hnp (Then.x (Then.x ⟨rfl, rfl, rfl⟩)) ⟨rfl, ⟨trivial, .inr ⟨rfl, rfl, rfl⟩⟩, by decide, rfl, ⟨trivial, rfl⟩⟩ (LeE.upd rfl rfl (LeE.upd rfl rfl (LeE.upd rfl rfl (LeE.upd rfl rfl (LeE.upd rfl rfl (LeE.none rfl rfl)))))) rfl
     rintro _ _ _ ⟨rfl, rfl, rfl⟩
     refine W.now ?_
     refine InBlock.x0 ?_
     refine InBlock.n ?_
     refine Then.n ?_
     refine WP.region ?_
     refine WPL.q (q_mv (v := .lit (.int _ _)) rfl) rfl ?_
     refine WPL.q (q_add rfl rfl) rfl ?_
     refine WPL.q (q_as (v := .lit (.int _ _)) rfl) rfl ?_
     refine WPL.nilW ?_
     exact W.wk [0] hnp (Then.n ⟨n, ((IntKind.wrap .i64 (x6012 + 1)), x6309), Nat.lt_succ_self n, H, rfl, rfl⟩) ⟨rfl, ⟨trivial, .inr ⟨rfl, rfl, rfl⟩⟩, by decide, rfl, ⟨trivial, rfl⟩⟩ (LeE.upd rfl rfl (LeE.upd rfl rfl (LeE.upd rfl rfl (LeE.upd rfl rfl (LeE.upd rfl rfl (LeE.none rfl rfl)))))) rfl
   replace H := cnf hb6163 H
   refine WP.exitW ?_
   have q0 := (Option.some.inj H)
   subst q0
   exact W.wk [0] hnp (Then.x (Then.x ⟨rfl, rfl, rfl⟩)) ⟨rfl, ⟨trivial, .inr ⟨rfl, rfl, rfl⟩⟩, by decide, rfl, ⟨trivial, rfl⟩⟩ (LeE.none rfl rfl) rfl
 rintro _ _ _ ⟨rfl, rfl, rfl⟩
 have q0 := (Option.some.inj H)
 subst q0
 exact W.now (InBlock.x0 (BodyR.mkN trivial rfl [0] ⟨rfl, rfl⟩ ⟨rfl, ⟨trivial, .inr ⟨rfl, rfl, rfl⟩⟩, by decide, rfl, ⟨trivial, rfl⟩⟩ rfl rfl))
set_option maxRecDepth 100000 in
set_option maxHeartbeats 4000000 in
theorem s_slices_swapRangeCmpFunc_huff_coin (k : Nat) (x6764 : Int) (x6765 : Int) (x6766 : Int) (x6767 : (List S_huff_coin)) (x6803 : (List S_huff_coin)) (H : g_slices_swapRangeCmpFunc_huff_coin k x6764 x6765 x6766 x6767 = some x6803) : Go.Q.Spec Try.prog 94 1 [.whole 0, .lit (.int .i64 x6764), .lit (.int .i64 x6765), .lit (.int .i64 x6766), .fn 58 []] (Mem.nil.push (.row 114 rdS_huff_coin x6767)) (fun o M => o = .ret (.tup []) ∧ M = (Mem.nil.push (.row 114 rdS_huff_coin x6803))) := by
 unfold g_slices_swapRangeCmpFunc_huff_coin at H
 refine Go.Q.Spec.of_bodyR (az := []) (rs := []) (nt := 38) Try.func94 rfl rfl (by intro t T h; simp at h) rfl rfl fun cx hnp => ?_
 refine WP.seq ?_
 refine WP.region ?_
 refine WPL.q (q_as (v := .lit (.int _ _)) rfl) rfl ?_
 refine WPL.nilW ?_
 refine W.now ?_
 refine Then.n ?_
 refine WP.block ?_
 refine WP.cv (Cv.weak (E' := (((((Env.none.upd 0 (.whole 0)).upd 1 (.lit (.int .i64 x6764))).upd 2 (.lit (.int .i64 x6765))).upd 3 (.lit (.int .i64 x6766))).upd 10 (.lit (.int .i64 0)))) (M' := (Mem.nil.push (.row 114 rdS_huff_coin x6767))) [0] hnp ⟨rfl, ⟨trivial, .inr ⟨rfl, rfl, rfl⟩⟩, by decide, rfl, ⟨trivial, rfl⟩⟩ (LeE.upd rfl rfl (LeE.upd rfl rfl (LeE.upd rfl rfl (LeE.upd rfl rfl (LeE.upd rfl rfl (LeE.none rfl rfl))))))) ?_
 obtain ⟨x6836, H6851, H⟩ := bnd H
 refine WP.monoW (Q := fun x E M => x = .exit 0 ∧ E = Env.none ∧ M = (Mem.nil.push (.row 114 rdS_huff_coin x6836))) ?_ ?_
 · refine WP.loop (β := Int × (List S_huff_coin)) (fun n b => g_slices_swapRangeCmpFunc_huff_coin_l0 k x6764 x6765 x6766 n b.1 b.2 = some x6836) (fun b => (((((Env.none.upd 0 (.whole 0)).upd 1 (.lit (.int .i64 x6764))).upd 2 (.lit (.int .i64 x6765))).upd 3 (.lit (.int .i64 x6766))).upd 10 (.lit (.int .i64 b.1)))) (fun b => (Mem.nil.push (.row 114 rdS_huff_coin b.2))) k (0, x6767) H6851 rfl rfl ?_
   rintro n ⟨x6819, x6820⟩ H
   obtain _ | n := n
   · exact nf rfl H
   rw [g_slices_swapRangeCmpFunc_huff_coin_l0.eq_2] at H
   show WP _ _ _ _ (((((Env.none.upd 0 (.whole 0)).upd 1 (.lit (.int .i64 x6764))).upd 2 (.lit (.int .i64 x6765))).upd 3 (.lit (.int .i64 x6766))).upd 10 (.lit (.int .i64 x6819))) (Mem.nil.push (.row 114 rdS_huff_coin x6820)) _
   refine WP.seq ?_
   refine WP.seq ?_
   refine WP.region ?_
   refine WPL.q (q_mv (v := .lit (.int _ _)) rfl) rfl ?_
   refine WPL.q (q_mv (v := .lit (.int _ _)) rfl) rfl ?_
   refine WPL.q (q_lss rfl rfl) rfl ?_
   refine WPL.nilW ?_
   refine W.now ?_
   refine Then.n ?_
   refine WP.cond (t := (decide (x6819 < x6766))) rfl (fun hb6837 => ?_) (fun hb6837 => ?_)
   · replace H := cnt hb6837 H
     refine WP.skipW ?_
     refine W.now ?_
     refine Then.n ?_
     refine WP.seq ?_
     refine WP.block ?_
     refine WP.regionD' 24 [0] [21] mixed rfl ?_
     refine WPD.takeT 0 rfl (by kernel_rfl) (q_mv (v := .whole _) rfl) rfl ?_
     refine WPD.takeT 1 rfl (by kernel_rfl) (q_mv (v := .lit (.int _ _)) rfl) rfl ?_
     refine WPD.takeT 2 rfl (by kernel_rfl) (q_mv (v := .lit (.int _ _)) rfl) rfl ?_
     refine WPD.takeT 3 rfl (by kernel_rfl) (q_add rfl rfl) rfl ?_
     refine WPD.takeT 4 rfl (by kernel_rfl) (q_mv (v := .whole _) rfl) rfl ?_
     refine WPD.takeT 5 rfl (by kernel_rfl) (q_mv (v := .lit (.int _ _)) rfl) rfl ?_
     refine WPD.takeT 6 rfl (by kernel_rfl) (q_mv (v := .lit (.int _ _)) rfl) rfl ?_
     refine WPD.takeT 7 rfl (by kernel_rfl) (q_add rfl rfl) rfl ?_
     refine WPD.takeT 8 rfl (by kernel_rfl) (q_mv (v := .whole _) rfl) rfl ?_
     refine WPD.takeT 9 rfl (by kernel_rfl) (q_mv (v := .lit (.int _ _)) rfl) rfl ?_
     refine WPD.takeT 10 rfl (by kernel_rfl) (q_mv (v := .lit (.int _ _)) rfl) rfl ?_
     refine WPD.takeT 11 rfl (by kernel_rfl) (q_add rfl rfl) rfl ?_
     obtain ⟨x6848, h6848, H⟩ := bnd H
     refine WPD.takeT 12 rfl (by kernel_rfl) (q_index_row sl112 rfl rfl rfl (ixs h6848)) rfl ?_
     refine WPD.takeT 14 rfl (by kernel_rfl) (q_mv (v := .whole _) rfl) rfl ?_
     refine WPD.takeT 15 rfl (by kernel_rfl) (q_mv (v := .lit (.int _ _)) rfl) rfl ?_
     refine WPD.takeT 16 rfl (by kernel_rfl) (q_mv (v := .lit (.int _ _)) rfl) rfl ?_
     refine WPD.takeT 17 rfl (by kernel_rfl) (q_add rfl rfl) rfl ?_
     obtain ⟨x6849, h6849, H⟩ := bnd H
     refine WPD.takeT 18 rfl (by kernel_rfl) (q_index_row sl112 rfl rfl rfl (ixs h6849)) rfl ?_
     refine WPD.take 13 rfl (by kernel_rfl) (q_load_rowag (j := (Int.toNat (IntKind.wrap .i64 (x6765 + x6819)))) ag114 rfl rfl (ixj h6848) rfl S_huff_coin.sp) rfl rfl ?_
     refine WPD.take 19 rfl (by kernel_rfl) (q_load_rowag (j := (Int.toNat (IntKind.wrap .i64 (x6764 + x6819)))) ag114 rfl rfl (ixj h6849) rfl S_huff_coin.sp) rfl rfl ?_
     obtain ⟨x6850, h6850, H⟩ := bnd H
     refine WPD.takeT 20 rfl (by kernel_rfl) (q_index_row sl112 rfl rfl rfl (ixs h6850)) rfl ?_
     refine WPD.effS 21 [] [] rfl (by kernel_rfl) (s_store_row (j := (Int.toNat (IntKind.wrap .i64 (x6764 + x6819)))) (d := (⟨x6848.ffreq, x6848.fsyms⟩ : S_huff_coin)) sz114 rfl rfl rfl rfl (Joins.via (Joins.cons Joins.sc (Joins.cons Joins.one Joins.unit))) (ixl h6850)) rfl ?_
     obtain ⟨x6851, h6851, H⟩ := bnd H
     refine WPD.takeT 22 rfl (by kernel_rfl) (q_index_row sl112 rfl rfl rfl (ixs h6851)) rfl ?_
     refine WPD.effS 23 [] [] rfl (by kernel_rfl) (s_store_row (j := (Int.toNat (IntKind.wrap .i64 (x6765 + x6819)))) (d := (⟨x6849.ffreq, x6849.fsyms⟩ : S_huff_coin)) sz114 rfl rfl rfl rfl (Joins.via (Joins.cons Joins.sc (Joins.cons Joins.one Joins.unit))) (ixl h6851)) rfl ?_
     refine WPD.doneW (by kernel_rfl) ?_
     refine W.now ?_
     refine InBlock.n ?_
     refine Then.n ?_
     refine WP.region ?_
     refine WPL.q (q_mv (v := .lit (.int _ _)) rfl) rfl ?_
     refine WPL.q (q_add rfl rfl) rfl ?_
     refine WPL.q (q_as (v := .lit (.int _ _)) rfl) rfl ?_
     refine WPL.nilW ?_
     exact W.wk [0] hnp (Then.n ⟨n, ((IntKind.wrap .i64 (x6819 + 1)), (List.set (List.set x6820 (Int.toNat (IntKind.wrap .i64 (x6764 + x6819))) (⟨x6848.ffreq, x6848.fsyms⟩ : S_huff_coin)) (Int.toNat (IntKind.wrap .i64 (x6765 + x6819))) (⟨x6849.ffreq, x6849.fsyms⟩ : S_huff_coin))), Nat.lt_succ_self n, H, rfl, rfl⟩) ⟨rfl, ⟨trivial, .inr ⟨rfl, rfl, rfl⟩⟩, by decide, rfl, ⟨trivial, rfl⟩⟩ (LeE.upd rfl rfl (LeE.upd rfl rfl (LeE.upd rfl rfl (LeE.upd rfl rfl (LeE.upd rfl rfl (LeE.none rfl rfl)))))) rfl
   replace H := cnf hb6837 H
   refine WP.exitW ?_
   have q0 := (Option.some.inj H)
   subst q0
   exact W.wk [0] hnp (Then.x (Then.x ⟨rfl, rfl, rfl⟩)) ⟨rfl, ⟨trivial, .inr ⟨rfl, rfl, rfl⟩⟩, by decide, rfl, ⟨trivial, rfl⟩⟩ (LeE.none rfl rfl) rfl
 rintro _ _ _ ⟨rfl, rfl, rfl⟩
 have q0 := (Option.some.inj H)
 subst q0
 exact W.now (InBlock.x0 (BodyR.mkN trivial rfl [0] ⟨rfl, rfl⟩ ⟨rfl, ⟨trivial, .inr ⟨rfl, rfl, rfl⟩⟩, by decide, rfl, ⟨trivial, rfl⟩⟩ rfl rfl))
set_option maxRecDepth 100000 in
set_option maxHeartbeats 4000000 in
theorem s_slices_rotateCmpFunc_huff_coin (k : Nat) (x6752 : Int) (x6753 : Int) (x6754 : Int) (x6755 : (List S_huff_coin)) (x6878 : (List S_huff_coin)) (H : g_slices_rotateCmpFunc_huff_coin k x6752 x6753 x6754 x6755 = some x6878) : Go.Q.Spec Try.prog 93 1 [.whole 0, .lit (.int .i64 x6752), .lit (.int .i64 x6753), .lit (.int .i64 x6754), .fn 58 []] (Mem.nil.push (.row 114 rdS_huff_coin x6755)) (fun o M => o = .ret (.tup []) ∧ M = (Mem.nil.push (.row 114 rdS_huff_coin x6878))) := by
 unfold g_slices_rotateCmpFunc_huff_coin at H
 refine Go.Q.Spec.of_bodyR (az := []) (rs := []) (nt := 58) Try.func93 rfl rfl (by intro t T h; simp at h) rfl rfl fun cx hnp => ?_
 refine WP.seq ?_
 refine WP.region ?_
 refine WPL.q (q_mv (v := .lit (.int _ _)) rfl) rfl ?_
 refine WPL.q (q_mv (v := .lit (.int _ _)) rfl) rfl ?_
 refine WPL.q (q_sub rfl rfl) rfl ?_
 refine WPL.q (q_as (v := .lit (.int _ _)) rfl) rfl ?_
 refine WPL.nilW ?_
 refine W.now ?_
 refine Then.n ?_
 refine WP.seq ?_
 refine WP.region ?_
 refine WPL.q (q_mv (v := .lit (.int _ _)) rfl) rfl ?_
 refine WPL.q (q_mv (v := .lit (.int _ _)) rfl) rfl ?_
 refine WPL.q (q_sub rfl rfl) rfl ?_
 refine WPL.q (q_as (v := .lit (.int _ _)) rfl) rfl ?_
 refine WPL.nilW ?_
 refine W.now ?_
 refine Then.n ?_
 refine WP.seq ?_
 refine WP.block ?_
 refine WP.cv (Cv.weak (E' := (((((Env.none.upd 0 (.whole 0)).upd 2 (.lit (.int .i64 x6753))).upd 4 (.fn 58 [])).upd 10 (.lit (.int .i64 (IntKind.wrap .i64 (x6753 - x6752))))).upd 11 (.lit (.int .i64 (IntKind.wrap .i64 (x6754 - x6753)))))) (M' := (Mem.nil.push (.row 114 rdS_huff_coin x6755))) [0] hnp ⟨rfl, ⟨trivial, .inr ⟨rfl, rfl, rfl⟩⟩, by decide, rfl, ⟨trivial, rfl⟩⟩ (LeE.upd rfl rfl (LeE.upd rfl rfl (LeE.upd rfl rfl (LeE.upd rfl rfl (LeE.upd rfl rfl (LeE.none rfl rfl))))))) ?_
 obtain ⟨⟨x6906, x6907⟩, H6915, H⟩ := bnd H
 refine WP.monoW (Q := fun x E M => x = .exit 0 ∧ E = ((((Env.none.upd 0 (.whole 0)).upd 2 (.lit (.int .i64 x6753))).upd 4 (.fn 58 [])).upd 10 (.lit (.int .i64 x6906))) ∧ M = (Mem.nil.push (.row 114 rdS_huff_coin x6907))) ?_ ?_
 · refine WP.loop (β := Int × Int × (List S_huff_coin)) (fun n b => g_slices_rotateCmpFunc_huff_coin_l0 k x6753 n b.1 b.2.1 b.2.2 = some (x6906, x6907)) (fun b => (((((Env.none.upd 0 (.whole 0)).upd 2 (.lit (.int .i64 x6753))).upd 4 (.fn 58 [])).upd 10 (.lit (.int .i64 b.1))).upd 11 (.lit (.int .i64 b.2.1)))) (fun b => (Mem.nil.push (.row 114 rdS_huff_coin b.2.2))) k ((IntKind.wrap .i64 (x6753 - x6752)), (IntKind.wrap .i64 (x6754 - x6753)), x6755) H6915 rfl rfl ?_
   rintro n ⟨x6895, x6896, x6897⟩ H
   obtain _ | n := n
   · exact nf rfl H
   rw [g_slices_rotateCmpFunc_huff_coin_l0.eq_2] at H
   show WP _ _ _ _ (((((Env.none.upd 0 (.whole 0)).upd 2 (.lit (.int .i64 x6753))).upd 4 (.fn 58 [])).upd 10 (.lit (.int .i64 x6895))).upd 11 (.lit (.int .i64 x6896))) (Mem.nil.push (.row 114 rdS_huff_coin x6897)) _
   refine WP.seq ?_
   refine WP.seq ?_
   refine WP.region ?_
   refine WPL.q (q_mv (v := .lit (.int _ _)) rfl) rfl ?_
   refine WPL.q (q_mv (v := .lit (.int _ _)) rfl) rfl ?_
   refine WPL.q (q_neq rfl rfl) rfl ?_
   refine WPL.nilW ?_
   refine W.now ?_
   refine Then.n ?_
   refine WP.cond (t := (!decide (x6895 = x6896))) rfl (fun hb6908 => ?_) (fun hb6908 => ?_)
   · replace H := cnt hb6908 H
     refine WP.skipW ?_
     refine W.now ?_
     refine Then.n ?_
     refine WP.block ?_
     refine WP.seq ?_
     refine WP.region ?_
     refine WPL.q (q_mv (v := .lit (.int _ _)) rfl) rfl ?_
     refine WPL.q (q_mv (v := .lit (.int _ _)) rfl) rfl ?_
     refine WPL.q (q_gtr rfl rfl) rfl ?_
     refine WPL.nilW ?_
     refine W.now ?_
     refine Then.n ?_
     refine WP.cond (t := (decide (x6896 < x6895))) rfl (fun hb6909 => ?_) (fun hb6909 => ?_)
     · replace H := cnt hb6909 H
       refine WP.seq ?_
       refine WP.region ?_
       refine WPL.q (q_mv (v := .whole _) rfl) rfl ?_
       refine WPL.q (q_mv (v := .lit (.int _ _)) rfl) rfl ?_
       refine WPL.q (q_mv (v := .lit (.int _ _)) rfl) rfl ?_
       refine WPL.q (q_sub rfl rfl) rfl ?_
       refine WPL.q (q_mv (v := .lit (.int _ _)) rfl) rfl ?_
       refine WPL.q (q_mv (v := .lit (.int _ _)) rfl) rfl ?_
       refine WPL.q (q_mv (v := .fn _ _) rfl) rfl ?_
       obtain ⟨x6912, h6910, H⟩ := bnd H
       refine WPL.c (runs_call (s := [0]) (t := [0]) (N := 1) (bor := []) fn94 rfl (s_slices_swapRangeCmpFunc_huff_coin k (IntKind.wrap .i64 (x6753 - x6895)) x6753 x6896 x6897 x6912 h6910) ⟨rfl, ⟨trivial, .inr ⟨rfl, rfl, rfl⟩⟩, by decide, rfl, trivial⟩ rfl trivial (.ren rfl rfl (.ren rfl rfl (.ren rfl rfl (.ren rfl rfl (.ren rfl rfl .nil))))) rfl ⟨trivial, rfl⟩ rfl) rfl ?_
       refine WPL.nilW ?_
       refine W.now ?_
       refine Then.n ?_
       refine WP.region ?_
       refine WPL.q (q_mv (v := .lit (.int _ _)) rfl) rfl ?_
       refine WPL.q (q_mv (v := .lit (.int _ _)) rfl) rfl ?_
       refine WPL.q (q_sub rfl rfl) rfl ?_
       refine WPL.q (q_as (v := .lit (.int _ _)) rfl) rfl ?_
       refine WPL.nilW ?_
       exact W.wk [0] hnp (InBlock.n (Then.n ⟨n, ((IntKind.wrap .i64 (x6895 - x6896)), x6896, x6912), Nat.lt_succ_self n, H, rfl, rfl⟩)) ⟨rfl, ⟨trivial, .inr ⟨rfl, rfl, rfl⟩⟩, by decide, rfl, ⟨trivial, rfl⟩⟩ (LeE.upd rfl rfl (LeE.upd rfl rfl (LeE.upd rfl rfl (LeE.upd rfl rfl (LeE.upd rfl rfl (LeE.none rfl rfl)))))) rfl
     replace H := cnf hb6909 H
     refine WP.seq ?_
     refine WP.region ?_
     refine WPL.q (q_mv (v := .whole _) rfl) rfl ?_
     refine WPL.q (q_mv (v := .lit (.int _ _)) rfl) rfl ?_
     refine WPL.q (q_mv (v := .lit (.int _ _)) rfl) rfl ?_
     refine WPL.q (q_sub rfl rfl) rfl ?_
     refine WPL.q (q_mv (v := .lit (.int _ _)) rfl) rfl ?_
     refine WPL.q (q_mv (v := .lit (.int _ _)) rfl) rfl ?_
     refine WPL.q (q_add rfl rfl) rfl ?_
     refine WPL.q (q_mv (v := .lit (.int _ _)) rfl) rfl ?_
     obtain ⟨x6913, h6913, H⟩ := bnd H
     refine WPL.q (q_nm (q_sub rfl rfl) (nm_int h6913)) rfl ?_
     refine WPL.q (q_mv (v := .lit (.int _ _)) rfl) rfl ?_
     refine WPL.q (q_mv (v := .fn _ _) rfl) rfl ?_
     obtain ⟨x6915, h6913, H⟩ := bnd H
     refine WPL.c (runs_call (s := [0]) (t := [0]) (N := 1) (bor := []) fn94 rfl (s_slices_swapRangeCmpFunc_huff_coin k (IntKind.wrap .i64 (x6753 - x6895)) x6913 x6895 x6897 x6915 h6913) ⟨rfl, ⟨trivial, .inr ⟨rfl, rfl, rfl⟩⟩, by decide, rfl, trivial⟩ rfl trivial (.ren rfl rfl (.ren rfl rfl (.ren rfl rfl (.ren rfl rfl (.ren rfl rfl .nil))))) rfl ⟨trivial, rfl⟩ rfl) rfl ?_
     refine WPL.nilW ?_
     refine W.now ?_
     refine Then.n ?_
     refine WP.region ?_
     refine WPL.q (q_mv (v := .lit (.int _ _)) rfl) rfl ?_
     refine WPL.q (q_mv (v := .lit (.int _ _)) rfl) rfl ?_
     refine WPL.q (q_sub rfl rfl) rfl ?_
     refine WPL.q (q_as (v := .lit (.int _ _)) rfl) rfl ?_
     refine WPL.nilW ?_
     exact W.wk [0] hnp (InBlock.n (Then.n ⟨n, (x6895, (IntKind.wrap .i64 (x6896 - x6895)), x6915), Nat.lt_succ_self n, H, rfl, rfl⟩)) ⟨rfl, ⟨trivial, .inr ⟨rfl, rfl, rfl⟩⟩, by decide, rfl, ⟨trivial, rfl⟩⟩ (LeE.upd rfl rfl (LeE.upd rfl rfl (LeE.upd rfl rfl (LeE.upd rfl rfl (LeE.upd rfl rfl (LeE.none rfl rfl)))))) rfl
   replace H := cnf hb6908 H
   refine WP.exitW ?_
   have q0 := (Prod.mk.inj (Option.some.inj H)).1
   have q1 := (Prod.mk.inj (Option.some.inj H)).2
   subst q0
   subst q1
   exact W.wk [0] hnp (Then.x (Then.x ⟨rfl, rfl, rfl⟩)) ⟨rfl, ⟨trivial, .inr ⟨rfl, rfl, rfl⟩⟩, by decide, rfl, ⟨trivial, rfl⟩⟩ (LeE.upd rfl rfl (LeE.upd rfl rfl (LeE.upd rfl rfl (LeE.upd rfl rfl (LeE.none rfl rfl))))) rfl
 rintro _ _ _ ⟨rfl, rfl, rfl⟩
 refine W.now ?_
 refine InBlock.x0 ?_
 refine Then.n ?_
 refine WP.region ?_
 refine WPL.q (q_mv (v := .whole _) rfl) rfl ?_
 refine WPL.q (q_mv (v := .lit (.int _ _)) rfl) rfl ?_
 refine WPL.q (q_mv (v := .lit (.int _ _)) rfl) rfl ?_
 refine WPL.q (q_sub rfl rfl) rfl ?_
 refine WPL.q (q_mv (v := .lit (.int _ _)) rfl) rfl ?_
 refine WPL.q (q_mv (v := .lit (.int _ _)) rfl) rfl ?_
 refine WPL.q (q_mv (v := .fn _ _) rfl) rfl ?_
 obtain ⟨x6918, h6916, H⟩ := bnd H
 refine WPL.c (runs_call (s := [0]) (t := [0]) (N := 1) (bor := []) fn94 rfl (s_slices_swapRangeCmpFunc_huff_coin k (IntKind.wrap .i64 (x6753 - x6906)) x6753 x6906 x6907 x6918 h6916) ⟨rfl, ⟨trivial, .inr ⟨rfl, rfl, rfl⟩⟩, by decide, rfl, trivial⟩ rfl trivial (.ren rfl rfl (.ren rfl rfl (.ren rfl rfl (.ren rfl rfl (.ren rfl rfl .nil))))) rfl ⟨trivial, rfl⟩ rfl) rfl ?_
 refine WPL.nilW ?_
 have q0 := (Option.some.inj H)
 subst q0
 exact W.now (BodyR.mkN trivial rfl [0] ⟨rfl, rfl⟩ ⟨rfl, ⟨trivial, .inr ⟨rfl, rfl, rfl⟩⟩, by decide, rfl, ⟨trivial, rfl⟩⟩ rfl rfl)
set_option maxRecDepth 100000 in
set_option maxHeartbeats 4000000 in
theorem sb_slices_symMergeCmpFunc_huff_coin (rc6407 : Int → Int → Int → (List S_huff_coin) → Option (List S_huff_coin)) (hrc6407 : ∀ (x6403 : Int) (x6404 : Int) (x6405 : Int) (x6406 : (List S_huff_coin)) (x6958 : (List S_huff_coin)), rc6407 x6403 x6404 x6405 x6406 = some x6958 → Go.Q.Spec Try.prog 89 1 [.whole 0, .lit (.int .i64 x6403), .lit (.int .i64 x6404), .lit (.int .i64 x6405), .fn 58 []] (Mem.nil.push (.row 114 rdS_huff_coin x6406)) (fun o M => o = .ret (.tup []) ∧ M = (Mem.nil.push (.row 114 rdS_huff_coin x6958)))) (k : Nat) (x6403 : Int) (x6404 : Int) (x6405 : Int) (x6406 : (List S_huff_coin)) (x6958 : (List S_huff_coin)) (H : h_slices_symMergeCmpFunc_huff_coin rc6407 k x6403 x6404 x6405 x6406 = some x6958) : Go.Q.Spec Try.prog 89 1 [.whole 0, .lit (.int .i64 x6403), .lit (.int .i64 x6404), .lit (.int .i64 x6405), .fn 58 []] (Mem.nil.push (.row 114 rdS_huff_coin x6406)) (fun o M => o = .ret (.tup []) ∧ M = (Mem.nil.push (.row 114 rdS_huff_coin x6958))) := by
 unfold h_slices_symMergeCmpFunc_huff_coin at H
 refine Go.Q.Spec.of_bodyR (az := []) (rs := []) (nt := 220) Try.func89 rfl rfl (by intro t T h; simp at h) rfl rfl fun cx hnp => ?_
 refine WP.seq ?_
 refine WP.seq ?_
 refine WP.region ?_
 refine WPL.q (q_mv (v := .lit (.int _ _)) rfl) rfl ?_
 refine WPL.q (q_mv (v := .lit (.int _ _)) rfl) rfl ?_
 refine WPL.q (q_sub rfl rfl) rfl ?_
 obtain ⟨x7422, h7422, H⟩ := bnd H
 refine WPL.q (q_nm (q_eql rfl rfl) (nm_bool h7422)) rfl ?_
 refine WPL.nilW ?_
 refine W.now ?_
 refine Then.n ?_
 refine WP.cond (t := x7422) rfl (fun hb7422 => ?_) (fun hb7422 => ?_)
 · replace H := cnt hb7422 H
   refine WP.seq ?_
   refine WP.region ?_
   refine WPL.q (q_mv (v := .lit (.int _ _)) rfl) rfl ?_
   refine WPL.q (q_as (v := .lit (.int _ _)) rfl) rfl ?_
   refine WPL.nilW ?_
   refine W.now ?_
   refine Then.n ?_
   refine WP.seq ?_
   refine WP.region ?_
   refine WPL.q (q_mv (v := .lit (.int _ _)) rfl) rfl ?_
   refine WPL.q (q_as (v := .lit (.int _ _)) rfl) rfl ?_
   refine WPL.nilW ?_
   refine W.now ?_
   refine Then.n ?_
   refine WP.seq ?_
   refine WP.block ?_
   refine WP.cv (Cv.weak (E' := (((((Env.none.upd 0 (.whole 0)).upd 1 (.lit (.int .i64 x6403))).upd 4 (.fn 58 [])).upd 10 (.lit (.int .i64 x6404))).upd 11 (.lit (.int .i64 x6405)))) (M' := (Mem.nil.push (.row 114 rdS_huff_coin x6406))) [0] hnp ⟨rfl, ⟨trivial, .inr ⟨rfl, rfl, rfl⟩⟩, by decide, rfl, ⟨trivial, rfl⟩⟩ (LeE.upd rfl rfl (LeE.upd rfl rfl (LeE.upd rfl rfl (LeE.upd rfl rfl (LeE.upd rfl rfl (LeE.none rfl rfl))))))) ?_
   obtain ⟨x7456, H7471, H⟩ := bnd H
   refine WP.monoW (Q := fun x E M => x = .exit 0 ∧ E = (((Env.none.upd 0 (.whole 0)).upd 1 (.lit (.int .i64 x6403))).upd 10 (.lit (.int .i64 x7456))) ∧ M = (Mem.nil.push (.row 114 rdS_huff_coin x6406))) ?_ ?_
   · refine WP.loop (β := Int × Int) (fun n b => g_slices_symMergeCmpFunc_huff_coin_l0 k x6403 x6406 n b.1 b.2 = some x7456) (fun b => (((((Env.none.upd 0 (.whole 0)).upd 1 (.lit (.int .i64 x6403))).upd 4 (.fn 58 [])).upd 10 (.lit (.int .i64 b.1))).upd 11 (.lit (.int .i64 b.2)))) (fun b => (Mem.nil.push (.row 114 rdS_huff_coin x6406))) k (x6404, x6405) H7471 rfl rfl ?_
     rintro n ⟨x7439, x7440⟩ H
     obtain _ | n := n
     · exact nf rfl H
     rw [g_slices_symMergeCmpFunc_huff_coin_l0.eq_2] at H
     show WP _ _ _ _ (((((Env.none.upd 0 (.whole 0)).upd 1 (.lit (.int .i64 x6403))).upd 4 (.fn 58 [])).upd 10 (.lit (.int .i64 x7439))).upd 11 (.lit (.int .i64 x7440))) (Mem.nil.push (.row 114 rdS_huff_coin x6406)) _
     refine WP.seq ?_
     refine WP.seq ?_
     refine WP.region ?_
     refine WPL.q (q_mv (v := .lit (.int _ _)) rfl) rfl ?_
     refine WPL.q (q_mv (v := .lit (.int _ _)) rfl) rfl ?_
     refine WPL.q (q_lss rfl rfl) rfl ?_
     refine WPL.nilW ?_
     refine W.now ?_
     refine Then.n ?_
     refine WP.cond (t := (decide (x7439 < x7440))) rfl (fun hb7457 => ?_) (fun hb7457 => ?_)
     · replace H := cnt hb7457 H
       refine WP.skipW ?_
       refine W.now ?_
       refine Then.n ?_
       refine WP.block ?_
       refine WP.seq ?_
       refine WP.region ?_
       refine WPL.q (q_mv (v := .lit (.int _ _)) rfl) rfl ?_
       refine WPL.q (q_mv (v := .lit (.int _ _)) rfl) rfl ?_
       refine WPL.q (q_add rfl rfl) rfl ?_
       obtain ⟨x7459, h7459, H⟩ := bnd H
       refine WPL.q (q_nm (q_conv Try.underlying3 Try.underlying54 rfl) (nm_int h7459)) rfl ?_
       refine WPL.q (q_shr rfl rfl rfl) rfl ?_
       refine WPL.q (q_conv Try.underlying54 Try.underlying3 rfl) rfl ?_
       refine WPL.q (q_as (v := .lit (.int _ _)) rfl) rfl ?_
       refine WPL.nilW ?_
       refine W.now ?_
       refine Then.n ?_
       refine WP.seq ?_
       refine WP.regionD' 11 [0] [] mixed rfl ?_
       refine WPD.takeT 0 rfl (by kernel_rfl) (q_mv (v := .fn _ _) rfl) rfl ?_
       refine WPD.takeT 1 rfl (by kernel_rfl) (q_mv (v := .whole _) rfl) rfl ?_
       refine WPD.takeT 2 rfl (by kernel_rfl) (q_mv (v := .lit (.int _ _)) rfl) rfl ?_
       obtain ⟨x7466, h7466, H⟩ := bnd H
       refine WPD.takeT 3 rfl (by kernel_rfl) (q_index_row sl112 rfl rfl rfl (ixs h7466)) rfl ?_
       refine WPD.takeT 5 rfl (by kernel_rfl) (q_mv (v := .whole _) rfl) rfl ?_
       refine WPD.takeT 6 rfl (by kernel_rfl) (q_mv (v := .lit (.int _ _)) rfl) rfl ?_
       obtain ⟨x7467, h7467, H⟩ := bnd H
       refine WPD.takeT 7 rfl (by kernel_rfl) (q_index_row sl112 rfl rfl rfl (ixs h7467)) rfl ?_
       refine WPD.take 4 rfl (by kernel_rfl) (q_load_rowag (j := (Int.toNat (IntKind.wrap .i64 (shrI .u64 x7459 1)))) ag114 rfl rfl (ixj h7466) rfl S_huff_coin.sp) rfl rfl ?_
       refine WPD.take 8 rfl (by kernel_rfl) (q_load_rowag (j := (Int.toNat x6403)) ag114 rfl rfl (ixj h7467) rfl S_huff_coin.sp) rfl rfl ?_
       obtain ⟨x7469, h7467, H⟩ := bnd H
       refine WPD.eff 9 [0] [] rfl (by kernel_rfl) (runs_call (s := []) (t := []) (N := 1) (bor := []) fn58 rfl (s_huff_Lengths_1 k x7466.ffreq x7466.fsyms x7467.ffreq x7467.fsyms x7469 h7467) ⟨rfl, trivial, by decide, rfl, trivial⟩ rfl trivial (.ren rfl rfl (.ren rfl rfl .nil)) rfl trivial rfl) rfl rfl ?_
       refine WPD.takeT 10 rfl (by kernel_rfl) (q_lss rfl rfl) rfl ?_
       refine WPD.doneW (by kernel_rfl) ?_
       refine W.now ?_
       refine Then.n ?_
       refine WP.cond (t := (decide (x7469 < 0))) rfl (fun hb7469 => ?_) (fun hb7469 => ?_)
       · replace H := cnt hb7469 H
         refine WP.region ?_
         refine WPL.q (q_mv (v := .lit (.int _ _)) rfl) rfl ?_
         obtain ⟨x7471, h7471, H⟩ := bnd H
         refine WPL.q (q_nm (q_add rfl rfl) (nm_int h7471)) rfl ?_
         refine WPL.q (q_as (v := .lit (.int _ _)) rfl) rfl ?_
         refine WPL.nilW ?_
         exact W.wk [0] hnp (InBlock.n (Then.n ⟨n, (x7471, x7440), Nat.lt_succ_self n, H, rfl, rfl⟩)) ⟨rfl, ⟨trivial, .inr ⟨rfl, rfl, rfl⟩⟩, by decide, rfl, ⟨trivial, rfl⟩⟩ (LeE.upd rfl rfl (LeE.upd rfl rfl (LeE.upd rfl rfl (LeE.upd rfl rfl (LeE.upd rfl rfl (LeE.none rfl rfl)))))) rfl
       replace H := cnf hb7469 H
       refine WP.region ?_
       refine WPL.q (q_mv (v := .lit (.int _ _)) rfl) rfl ?_
       refine WPL.q (q_as (v := .lit (.int _ _)) rfl) rfl ?_
       refine WPL.nilW ?_
       exact W.wk [0] hnp (InBlock.n (Then.n ⟨n, (x7439, (IntKind.wrap .i64 (shrI .u64 x7459 1))), Nat.lt_succ_self n, H, rfl, rfl⟩)) ⟨rfl, ⟨trivial, .inr ⟨rfl, rfl, rfl⟩⟩, by decide, rfl, ⟨trivial, rfl⟩⟩ (LeE.upd rfl rfl (LeE.upd rfl rfl (LeE.upd rfl rfl (LeE.upd rfl rfl (LeE.upd rfl rfl (LeE.none rfl rfl)))))) rfl
     replace H := cnf hb7457 H
     refine WP.exitW ?_
     have q0 := (Option.some.inj H)
     subst q0
     exact W.wk [0] hnp (Then.x (Then.x ⟨rfl, rfl, rfl⟩)) ⟨rfl, ⟨trivial, .inr ⟨rfl, rfl, rfl⟩⟩, by decide, rfl, ⟨trivial, rfl⟩⟩ (LeE.upd rfl rfl (LeE.upd rfl rfl (LeE.upd rfl rfl (LeE.none rfl rfl)))) rfl
   rintro _ _ _ ⟨rfl, rfl, rfl⟩
   refine W.now ?_
   refine InBlock.x0 ?_
   refine Then.n ?_
   refine WP.seq ?_
   refine WP.seq ?_
   refine WP.region ?_
   refine WPL.q (q_mv (v := .lit (.int _ _)) rfl) rfl ?_
   refine WPL.q (q_as (v := .lit (.int _ _)) rfl) rfl ?_
   refine WPL.nilW ?_
   refine W.now ?_
   refine Then.n ?_
   refine WP.block ?_
   refine WP.cv (Cv.weak (E' := (((Env.none.upd 0 (.whole 0)).upd 10 (.lit (.int .i64 x7456))).upd 13 (.lit (.int .i64 x6403)))) (M' := (Mem.nil.push (.row 114 rdS_huff_coin x6406))) [0] hnp ⟨rfl, ⟨trivial, .inr ⟨rfl, rfl, rfl⟩⟩, by decide, rfl, ⟨trivial, rfl⟩⟩ (LeE.upd rfl rfl (LeE.upd rfl rfl (LeE.upd rfl rfl (LeE.none rfl rfl))))) ?_
   obtain ⟨x7509, H7526, H⟩ := bnd H
   refine WP.monoW (Q := fun x E M => x = .exit 2 ∧ E = Env.none ∧ M = (Mem.nil.push (.row 114 rdS_huff_coin x7509))) ?_ ?_
   · refine WP.loop (β := Int × (List S_huff_coin)) (fun n b => g_slices_symMergeCmpFunc_huff_coin_l1 k x7456 n b.1 b.2 = some x7509) (fun b => (((Env.none.upd 0 (.whole 0)).upd 10 (.lit (.int .i64 x7456))).upd 13 (.lit (.int .i64 b.1)))) (fun b => (Mem.nil.push (.row 114 rdS_huff_coin b.2))) k (x6403, x6406) H7526 rfl rfl ?_
     rintro n ⟨x7490, x7491⟩ H
     obtain _ | n := n
     · exact nf rfl H
     rw [g_slices_symMergeCmpFunc_huff_coin_l1.eq_2] at H
     show WP _ _ _ _ (((Env.none.upd 0 (.whole 0)).upd 10 (.lit (.int .i64 x7456))).upd 13 (.lit (.int .i64 x7490))) (Mem.nil.push (.row 114 rdS_huff_coin x7491)) _
     refine WP.seq ?_
     refine WP.seq ?_
     refine WP.region ?_
     refine WPL.q (q_mv (v := .lit (.int _ _)) rfl) rfl ?_
     refine WPL.q (q_mv (v := .lit (.int _ _)) rfl) rfl ?_
     refine WPL.q (q_sub rfl rfl) rfl ?_
     obtain ⟨x7512, h7512, H⟩ := bnd H
     refine WPL.q (q_nm (q_lss rfl rfl) (nm_bool h7512)) rfl ?_
     refine WPL.nilW ?_
     refine W.now ?_
     refine Then.n ?_
     refine WP.cond (t := x7512) rfl (fun hb7512 => ?_) (fun hb7512 => ?_)
     · replace H := cnt hb7512 H
       refine WP.skipW ?_
       refine W.now ?_
       refine Then.n ?_
       refine WP.seq ?_
       refine WP.block ?_
       refine WP.regionD' 18 [0] [15] mixed rfl ?_
       refine WPD.takeT 0 rfl (by kernel_rfl) (q_mv (v := .whole _) rfl) rfl ?_
       refine WPD.takeT 1 rfl (by kernel_rfl) (q_mv (v := .lit (.int _ _)) rfl) rfl ?_
       refine WPD.takeT 2 rfl (by kernel_rfl) (q_mv (v := .whole _) rfl) rfl ?_
       refine WPD.takeT 3 rfl (by kernel_rfl) (q_mv (v := .lit (.int _ _)) rfl) rfl ?_
       refine WPD.takeT 4 rfl (by kernel_rfl) (q_add rfl rfl) rfl ?_
       refine WPD.takeT 5 rfl (by kernel_rfl) (q_mv (v := .whole _) rfl) rfl ?_
       refine WPD.takeT 6 rfl (by kernel_rfl) (q_mv (v := .lit (.int _ _)) rfl) rfl ?_
       refine WPD.takeT 7 rfl (by kernel_rfl) (q_add rfl rfl) rfl ?_
       obtain ⟨x7523, h7523, H⟩ := bnd H
       refine WPD.takeT 8 rfl (by kernel_rfl) (q_index_row sl112 rfl rfl rfl (ixs h7523)) rfl ?_
       refine WPD.takeT 10 rfl (by kernel_rfl) (q_mv (v := .whole _) rfl) rfl ?_
       refine WPD.takeT 11 rfl (by kernel_rfl) (q_mv (v := .lit (.int _ _)) rfl) rfl ?_
       obtain ⟨x7524, h7524, H⟩ := bnd H
       refine WPD.takeT 12 rfl (by kernel_rfl) (q_index_row sl112 rfl rfl rfl (ixs h7524)) rfl ?_
       refine WPD.take 9 rfl (by kernel_rfl) (q_load_rowag (j := (Int.toNat (IntKind.wrap .i64 (x7490 + 1)))) ag114 rfl rfl (ixj h7523) rfl S_huff_coin.sp) rfl rfl ?_
       refine WPD.take 13 rfl (by kernel_rfl) (q_load_rowag (j := (Int.toNat x7490)) ag114 rfl rfl (ixj h7524) rfl S_huff_coin.sp) rfl rfl ?_
       obtain ⟨x7525, h7525, H⟩ := bnd H
       refine WPD.takeT 14 rfl (by kernel_rfl) (q_index_row sl112 rfl rfl rfl (ixs h7525)) rfl ?_
       refine WPD.effS 15 [] [] rfl (by kernel_rfl) (s_store_row (j := (Int.toNat x7490)) (d := (⟨x7523.ffreq, x7523.fsyms⟩ : S_huff_coin)) sz114 rfl rfl rfl rfl (Joins.via (Joins.cons Joins.sc (Joins.cons Joins.one Joins.unit))) (ixl h7525)) rfl ?_
       obtain ⟨x7526, h7526, H⟩ := bnd H
       refine WPD.takeT 16 rfl (by kernel_rfl) (q_index_row sl112 rfl rfl rfl (ixs h7526)) rfl ?_
       refine WPD.effS 17 [] [] rfl (by kernel_rfl) (s_store_row (j := (Int.toNat (IntKind.wrap .i64 (x7490 + 1)))) (d := (⟨x7524.ffreq, x7524.fsyms⟩ : S_huff_coin)) sz114 rfl rfl rfl rfl (Joins.via (Joins.cons Joins.sc (Joins.cons Joins.one Joins.unit))) (ixl h7526)) rfl ?_
       refine WPD.doneW (by kernel_rfl) ?_
       refine W.now ?_
       refine InBlock.n ?_
       refine Then.n ?_
       refine WP.region ?_
       refine WPL.q (q_mv (v := .lit (.int _ _)) rfl) rfl ?_
       refine WPL.q (q_add rfl rfl) rfl ?_
       refine WPL.q (q_as (v := .lit (.int _ _)) rfl) rfl ?_
       refine WPL.nilW ?_
       exact W.wk [0] hnp (Then.n ⟨n, ((IntKind.wrap .i64 (x7490 + 1)), (List.set (List.set x7491 (Int.toNat x7490) (⟨x7523.ffreq, x7523.fsyms⟩ : S_huff_coin)) (Int.toNat (IntKind.wrap .i64 (x7490 + 1))) (⟨x7524.ffreq, x7524.fsyms⟩ : S_huff_coin))), Nat.lt_succ_self n, H, rfl, rfl⟩) ⟨rfl, ⟨trivial, .inr ⟨rfl, rfl, rfl⟩⟩, by decide, rfl, ⟨trivial, rfl⟩⟩ (LeE.upd rfl rfl (LeE.upd rfl rfl (LeE.upd rfl rfl (LeE.none rfl rfl)))) rfl
     replace H := cnf hb7512 H
     refine WP.exitW ?_
     have q0 := (Option.some.inj H)
     subst q0
     exact W.wk [0] hnp (Then.x (Then.x ⟨rfl, rfl, rfl⟩)) ⟨rfl, ⟨trivial, .inr ⟨rfl, rfl, rfl⟩⟩, by decide, rfl, ⟨trivial, rfl⟩⟩ (LeE.none rfl rfl) rfl
   rintro _ _ _ ⟨rfl, rfl, rfl⟩
   refine W.now ?_
   refine InBlock.x0 ?_
   refine Then.n ?_
   refine WP.retW ?_
   have q0 := (Option.some.inj H)
   subst q0
   exact W.now (Then.r (BodyR.mkR trivial rfl [0] ⟨rfl, rfl⟩ ⟨rfl, ⟨trivial, .inr ⟨rfl, rfl, rfl⟩⟩, by decide, rfl, ⟨trivial, rfl⟩⟩ rfl rfl))
 replace H := cnf hb7422 H
 refine WP.skipW ?_
 refine W.now ?_
 refine Then.n ?_
 refine WP.seq ?_
 refine WP.seq ?_
 refine WP.region ?_
 refine WPL.q (q_mv (v := .lit (.int _ _)) rfl) rfl ?_
 refine WPL.q (q_mv (v := .lit (.int _ _)) rfl) rfl ?_
 refine WPL.q (q_sub rfl rfl) rfl ?_
 obtain ⟨x7598, h7598, H⟩ := bnd H
 refine WPL.q (q_nm (q_eql rfl rfl) (nm_bool h7598)) rfl ?_
 refine WPL.nilW ?_
 refine W.now ?_
 refine Then.n ?_
 refine WP.cond (t := x7598) rfl (fun hb7598 => ?_) (fun hb7598 => ?_)
 · replace H := cnt hb7598 H
   refine WP.seq ?_
   refine WP.region ?_
   refine WPL.q (q_mv (v := .lit (.int _ _)) rfl) rfl ?_
   refine WPL.q (q_as (v := .lit (.int _ _)) rfl) rfl ?_
   refine WPL.nilW ?_
   refine W.now ?_
   refine Then.n ?_
   refine WP.seq ?_
   refine WP.region ?_
   refine WPL.q (q_mv (v := .lit (.int _ _)) rfl) rfl ?_
   refine WPL.q (q_as (v := .lit (.int _ _)) rfl) rfl ?_
   refine WPL.nilW ?_
   refine W.now ?_
   refine Then.n ?_
   refine WP.seq ?_
   refine WP.block ?_
   refine WP.cv (Cv.weak (E' := (((((Env.none.upd 0 (.whole 0)).upd 2 (.lit (.int .i64 x6404))).upd 4 (.fn 58 [])).upd 14 (.lit (.int .i64 x6403))).upd 15 (.lit (.int .i64 x6404)))) (M' := (Mem.nil.push (.row 114 rdS_huff_coin x6406))) [0] hnp ⟨rfl, ⟨trivial, .inr ⟨rfl, rfl, rfl⟩⟩, by decide, rfl, ⟨trivial, rfl⟩⟩ (LeE.upd rfl rfl (LeE.upd rfl rfl (LeE.upd rfl rfl (LeE.upd rfl rfl (LeE.upd rfl rfl (LeE.none rfl rfl))))))) ?_
   obtain ⟨x7632, H7647, H⟩ := bnd H
   refine WP.monoW (Q := fun x E M => x = .exit 4 ∧ E = (((Env.none.upd 0 (.whole 0)).upd 2 (.lit (.int .i64 x6404))).upd 14 (.lit (.int .i64 x7632))) ∧ M = (Mem.nil.push (.row 114 rdS_huff_coin x6406))) ?_ ?_
   · refine WP.loop (β := Int × Int) (fun n b => g_slices_symMergeCmpFunc_huff_coin_l2 k x6404 x6406 n b.1 b.2 = some x7632) (fun b => (((((Env.none.upd 0 (.whole 0)).upd 2 (.lit (.int .i64 x6404))).upd 4 (.fn 58 [])).upd 14 (.lit (.int .i64 b.1))).upd 15 (.lit (.int .i64 b.2)))) (fun b => (Mem.nil.push (.row 114 rdS_huff_coin x6406))) k (x6403, x6404) H7647 rfl rfl ?_
     rintro n ⟨x7615, x7616⟩ H
     obtain _ | n := n
     · exact nf rfl H
     rw [g_slices_symMergeCmpFunc_huff_coin_l2.eq_2] at H
     show WP _ _ _ _ (((((Env.none.upd 0 (.whole 0)).upd 2 (.lit (.int .i64 x6404))).upd 4 (.fn 58 [])).upd 14 (.lit (.int .i64 x7615))).upd 15 (.lit (.int .i64 x7616))) (Mem.nil.push (.row 114 rdS_huff_coin x6406)) _
     refine WP.seq ?_
     refine WP.seq ?_
     refine WP.region ?_
     refine WPL.q (q_mv (v := .lit (.int _ _)) rfl) rfl ?_
     refine WPL.q (q_mv (v := .lit (.int _ _)) rfl) rfl ?_
     refine WPL.q (q_lss rfl rfl) rfl ?_
     refine WPL.nilW ?_
     refine W.now ?_
     refine Then.n ?_
     refine WP.cond (t := (decide (x7615 < x7616))) rfl (fun hb7633 => ?_) (fun hb7633 => ?_)
     · replace H := cnt hb7633 H
       refine WP.skipW ?_
       refine W.now ?_
       refine Then.n ?_
       refine WP.block ?_
       refine WP.seq ?_
       refine WP.region ?_
       refine WPL.q (q_mv (v := .lit (.int _ _)) rfl) rfl ?_
       refine WPL.q (q_mv (v := .lit (.int _ _)) rfl) rfl ?_
       refine WPL.q (q_add rfl rfl) rfl ?_
       obtain ⟨x7635, h7635, H⟩ := bnd H
       refine WPL.q (q_nm (q_conv Try.underlying3 Try.underlying54 rfl) (nm_int h7635)) rfl ?_
       refine WPL.q (q_shr rfl rfl rfl) rfl ?_
       refine WPL.q (q_conv Try.underlying54 Try.underlying3 rfl) rfl ?_
       refine WPL.q (q_as (v := .lit (.int _ _)) rfl) rfl ?_
       refine WPL.nilW ?_
       refine W.now ?_
       refine Then.n ?_
       refine WP.seq ?_
       refine WP.regionD' 12 [0] [] mixed rfl ?_
       refine WPD.takeT 0 rfl (by kernel_rfl) (q_mv (v := .fn _ _) rfl) rfl ?_
       refine WPD.takeT 1 rfl (by kernel_rfl) (q_mv (v := .whole _) rfl) rfl ?_
       refine WPD.takeT 2 rfl (by kernel_rfl) (q_mv (v := .lit (.int _ _)) rfl) rfl ?_
       obtain ⟨x7642, h7642, H⟩ := bnd H
       refine WPD.takeT 3 rfl (by kernel_rfl) (q_index_row sl112 rfl rfl rfl (ixs h7642)) rfl ?_
       refine WPD.takeT 5 rfl (by kernel_rfl) (q_mv (v := .whole _) rfl) rfl ?_
       refine WPD.takeT 6 rfl (by kernel_rfl) (q_mv (v := .lit (.int _ _)) rfl) rfl ?_
       obtain ⟨x7643, h7643, H⟩ := bnd H
       refine WPD.takeT 7 rfl (by kernel_rfl) (q_index_row sl112 rfl rfl rfl (ixs h7643)) rfl ?_
       refine WPD.take 4 rfl (by kernel_rfl) (q_load_rowag (j := (Int.toNat x6404)) ag114 rfl rfl (ixj h7642) rfl S_huff_coin.sp) rfl rfl ?_
       refine WPD.take 8 rfl (by kernel_rfl) (q_load_rowag (j := (Int.toNat (IntKind.wrap .i64 (shrI .u64 x7635 1)))) ag114 rfl rfl (ixj h7643) rfl S_huff_coin.sp) rfl rfl ?_
       obtain ⟨x7645, h7643, H⟩ := bnd H
       refine WPD.eff 9 [0] [] rfl (by kernel_rfl) (runs_call (s := []) (t := []) (N := 1) (bor := []) fn58 rfl (s_huff_Lengths_1 k x7642.ffreq x7642.fsyms x7643.ffreq x7643.fsyms x7645 h7643) ⟨rfl, trivial, by decide, rfl, trivial⟩ rfl trivial (.ren rfl rfl (.ren rfl rfl .nil)) rfl trivial rfl) rfl rfl ?_
       refine WPD.takeT 10 rfl (by kernel_rfl) (q_lss rfl rfl) rfl ?_
       refine WPD.takeT 11 rfl (by kernel_rfl) (q_not rfl) rfl ?_
       refine WPD.doneW (by kernel_rfl) ?_
       refine W.now ?_
       refine Then.n ?_
       refine WP.cond (t := (!(decide (x7645 < 0)))) rfl (fun hb7645 => ?_) (fun hb7645 => ?_)
       · replace H := cnt hb7645 H
         refine WP.region ?_
         refine WPL.q (q_mv (v := .lit (.int _ _)) rfl) rfl ?_
         obtain ⟨x7647, h7647, H⟩ := bnd H
         refine WPL.q (q_nm (q_add rfl rfl) (nm_int h7647)) rfl ?_
         refine WPL.q (q_as (v := .lit (.int _ _)) rfl) rfl ?_
         refine WPL.nilW ?_
         exact W.wk [0] hnp (InBlock.n (Then.n ⟨n, (x7647, x7616), Nat.lt_succ_self n, H, rfl, rfl⟩)) ⟨rfl, ⟨trivial, .inr ⟨rfl, rfl, rfl⟩⟩, by decide, rfl, ⟨trivial, rfl⟩⟩ (LeE.upd rfl rfl (LeE.upd rfl rfl (LeE.upd rfl rfl (LeE.upd rfl rfl (LeE.upd rfl rfl (LeE.none rfl rfl)))))) rfl
       replace H := cnf hb7645 H
       refine WP.region ?_
       refine WPL.q (q_mv (v := .lit (.int _ _)) rfl) rfl ?_
       refine WPL.q (q_as (v := .lit (.int _ _)) rfl) rfl ?_
       refine WPL.nilW ?_
       exact W.wk [0] hnp (InBlock.n (Then.n ⟨n, (x7615, (IntKind.wrap .i64 (shrI .u64 x7635 1))), Nat.lt_succ_self n, H, rfl, rfl⟩)) ⟨rfl, ⟨trivial, .inr ⟨rfl, rfl, rfl⟩⟩, by decide, rfl, ⟨trivial, rfl⟩⟩ (LeE.upd rfl rfl (LeE.upd rfl rfl (LeE.upd rfl rfl (LeE.upd rfl rfl (LeE.upd rfl rfl (LeE.none rfl rfl)))))) rfl
     replace H := cnf hb7633 H
     refine WP.exitW ?_
     have q0 := (Option.some.inj H)
     subst q0
     exact W.wk [0] hnp (Then.x (Then.x ⟨rfl, rfl, rfl⟩)) ⟨rfl, ⟨trivial, .inr ⟨rfl, rfl, rfl⟩⟩, by decide, rfl, ⟨trivial, rfl⟩⟩ (LeE.upd rfl rfl (LeE.upd rfl rfl (LeE.upd rfl rfl (LeE.none rfl rfl)))) rfl
   rintro _ _ _ ⟨rfl, rfl, rfl⟩
   refine W.now ?_
   refine InBlock.x0 ?_
   refine Then.n ?_
   refine WP.seq ?_
   refine WP.seq ?_
   refine WP.region ?_
   refine WPL.q (q_mv (v := .lit (.int _ _)) rfl) rfl ?_
   refine WPL.q (q_as (v := .lit (.int _ _)) rfl) rfl ?_
   refine WPL.nilW ?_
   refine W.now ?_
   refine Then.n ?_
   refine WP.block ?_
   refine WP.cv (Cv.weak (E' := (((Env.none.upd 0 (.whole 0)).upd 14 (.lit (.int .i64 x7632))).upd 17 (.lit (.int .i64 x6404)))) (M' := (Mem.nil.push (.row 114 rdS_huff_coin x6406))) [0] hnp ⟨rfl, ⟨trivial, .inr ⟨rfl, rfl, rfl⟩⟩, by decide, rfl, ⟨trivial, rfl⟩⟩ (LeE.upd rfl rfl (LeE.upd rfl rfl (LeE.upd rfl rfl (LeE.none rfl rfl))))) ?_
   obtain ⟨x7681, H7696, H⟩ := bnd H
   refine WP.monoW (Q := fun x E M => x = .exit 6 ∧ E = Env.none ∧ M = (Mem.nil.push (.row 114 rdS_huff_coin x7681))) ?_ ?_
   · refine WP.loop (β := Int × (List S_huff_coin)) (fun n b => g_slices_symMergeCmpFunc_huff_coin_l3 k x7632 n b.1 b.2 = some x7681) (fun b => (((Env.none.upd 0 (.whole 0)).upd 14 (.lit (.int .i64 x7632))).upd 17 (.lit (.int .i64 b.1)))) (fun b => (Mem.nil.push (.row 114 rdS_huff_coin b.2))) k (x6404, x6406) H7696 rfl rfl ?_
     rintro n ⟨x7664, x7665⟩ H
     obtain _ | n := n
     · exact nf rfl H
     rw [g_slices_symMergeCmpFunc_huff_coin_l3.eq_2] at H
     show WP _ _ _ _ (((Env.none.upd 0 (.whole 0)).upd 14 (.lit (.int .i64 x7632))).upd 17 (.lit (.int .i64 x7664))) (Mem.nil.push (.row 114 rdS_huff_coin x7665)) _
     refine WP.seq ?_
     refine WP.seq ?_
     refine WP.region ?_
     refine WPL.q (q_mv (v := .lit (.int _ _)) rfl) rfl ?_
     refine WPL.q (q_mv (v := .lit (.int _ _)) rfl) rfl ?_
     refine WPL.q (q_gtr rfl rfl) rfl ?_
     refine WPL.nilW ?_
     refine W.now ?_
     refine Then.n ?_
     refine WP.cond (t := (decide (x7632 < x7664))) rfl (fun hb7682 => ?_) (fun hb7682 => ?_)
     · replace H := cnt hb7682 H
       refine WP.skipW ?_
       refine W.now ?_
       refine Then.n ?_
       refine WP.seq ?_
       refine WP.block ?_
       refine WP.regionD' 18 [0] [15] mixed rfl ?_
       refine WPD.takeT 0 rfl (by kernel_rfl) (q_mv (v := .whole _) rfl) rfl ?_
       refine WPD.takeT 1 rfl (by kernel_rfl) (q_mv (v := .lit (.int _ _)) rfl) rfl ?_
       refine WPD.takeT 2 rfl (by kernel_rfl) (q_mv (v := .whole _) rfl) rfl ?_
       refine WPD.takeT 3 rfl (by kernel_rfl) (q_mv (v := .lit (.int _ _)) rfl) rfl ?_
       refine WPD.takeT 4 rfl (by kernel_rfl) (q_sub rfl rfl) rfl ?_
       refine WPD.takeT 5 rfl (by kernel_rfl) (q_mv (v := .whole _) rfl) rfl ?_
       refine WPD.takeT 6 rfl (by kernel_rfl) (q_mv (v := .lit (.int _ _)) rfl) rfl ?_
       refine WPD.takeT 7 rfl (by kernel_rfl) (q_sub rfl rfl) rfl ?_
       obtain ⟨x7693, h7693, H⟩ := bnd H
       refine WPD.takeT 8 rfl (by kernel_rfl) (q_index_row sl112 rfl rfl rfl (ixs h7693)) rfl ?_
       refine WPD.takeT 10 rfl (by kernel_rfl) (q_mv (v := .whole _) rfl) rfl ?_
       refine WPD.takeT 11 rfl (by kernel_rfl) (q_mv (v := .lit (.int _ _)) rfl) rfl ?_
       obtain ⟨x7694, h7694, H⟩ := bnd H
       refine WPD.takeT 12 rfl (by kernel_rfl) (q_index_row sl112 rfl rfl rfl (ixs h7694)) rfl ?_
       refine WPD.take 9 rfl (by kernel_rfl) (q_load_rowag (j := (Int.toNat (IntKind.wrap .i64 (x7664 - 1)))) ag114 rfl rfl (ixj h7693) rfl S_huff_coin.sp) rfl rfl ?_
       refine WPD.take 13 rfl (by kernel_rfl) (q_load_rowag (j := (Int.toNat x7664)) ag114 rfl rfl (ixj h7694) rfl S_huff_coin.sp) rfl rfl ?_
       obtain ⟨x7695, h7695, H⟩ := bnd H
       refine WPD.takeT 14 rfl (by kernel_rfl) (q_index_row sl112 rfl rfl rfl (ixs h7695)) rfl ?_
       refine WPD.effS 15 [] [] rfl (by kernel_rfl) (s_store_row (j := (Int.toNat x7664)) (d := (⟨x7693.ffreq, x7693.fsyms⟩ : S_huff_coin)) sz114 rfl rfl rfl rfl (Joins.via (Joins.cons Joins.sc (Joins.cons Joins.one Joins.unit))) (ixl h7695)) rfl ?_
       obtain ⟨x7696, h7696, H⟩ := bnd H
       refine WPD.takeT 16 rfl (by kernel_rfl) (q_index_row sl112 rfl rfl rfl (ixs h7696)) rfl ?_
       refine WPD.effS 17 [] [] rfl (by kernel_rfl) (s_store_row (j := (Int.toNat (IntKind.wrap .i64 (x7664 - 1)))) (d := (⟨x7694.ffreq, x7694.fsyms⟩ : S_huff_coin)) sz114 rfl rfl rfl rfl (Joins.via (Joins.cons Joins.sc (Joins.cons Joins.one Joins.unit))) (ixl h7696)) rfl ?_
       refine WPD.doneW (by kernel_rfl) ?_
       refine W.now ?_
       refine InBlock.n ?_
       refine Then.n ?_
       refine WP.region ?_
       refine WPL.q (q_mv (v := .lit (.int _ _)) rfl) rfl ?_
       refine WPL.q (q_sub rfl rfl) rfl ?_
       refine WPL.q (q_as (v := .lit (.int _ _)) rfl) rfl ?_
       refine WPL.nilW ?_
       exact W.wk [0] hnp (Then.n ⟨n, ((IntKind.wrap .i64 (x7664 - 1)), (List.set (List.set x7665 (Int.toNat x7664) (⟨x7693.ffreq, x7693.fsyms⟩ : S_huff_coin)) (Int.toNat (IntKind.wrap .i64 (x7664 - 1))) (⟨x7694.ffreq, x7694.fsyms⟩ : S_huff_coin))), Nat.lt_succ_self n, H, rfl, rfl⟩) ⟨rfl, ⟨trivial, .inr ⟨rfl, rfl, rfl⟩⟩, by decide, rfl, ⟨trivial, rfl⟩⟩ (LeE.upd rfl rfl (LeE.upd rfl rfl (LeE.upd rfl rfl (LeE.none rfl rfl)))) rfl
     replace H := cnf hb7682 H
     refine WP.exitW ?_
     have q0 := (Option.some.inj H)
     subst q0
     exact W.wk [0] hnp (Then.x (Then.x ⟨rfl, rfl, rfl⟩)) ⟨rfl, ⟨trivial, .inr ⟨rfl, rfl, rfl⟩⟩, by decide, rfl, ⟨trivial, rfl⟩⟩ (LeE.none rfl rfl) rfl
   rintro _ _ _ ⟨rfl, rfl, rfl⟩
   refine W.now ?_
   refine InBlock.x0 ?_
   refine Then.n ?_
   refine WP.retW ?_
   have q0 := (Option.some.inj H)
   subst q0
   exact W.now (Then.r (BodyR.mkR trivial rfl [0] ⟨rfl, rfl⟩ ⟨rfl, ⟨trivial, .inr ⟨rfl, rfl, rfl⟩⟩, by decide, rfl, ⟨trivial, rfl⟩⟩ rfl rfl))
 replace H := cnf hb7598 H
 refine WP.skipW ?_
 refine W.now ?_
 refine Then.n ?_
 refine WP.seq ?_
 refine WP.region ?_
 refine WPL.q (q_mv (v := .lit (.int _ _)) rfl) rfl ?_
 refine WPL.q (q_mv (v := .lit (.int _ _)) rfl) rfl ?_
 refine WPL.q (q_add rfl rfl) rfl ?_
 obtain ⟨x7698, h7698, H⟩ := bnd H
 refine WPL.q (q_nm (q_conv Try.underlying3 Try.underlying54 rfl) (nm_int h7698)) rfl ?_
 refine WPL.q (q_shr rfl rfl rfl) rfl ?_
 refine WPL.q (q_conv Try.underlying54 Try.underlying3 rfl) rfl ?_
 refine WPL.q (q_as (v := .lit (.int _ _)) rfl) rfl ?_
 refine WPL.nilW ?_
 refine W.now ?_
 refine Then.n ?_
 refine WP.seq ?_
 refine WP.region ?_
 refine WPL.q (q_mv (v := .lit (.int _ _)) rfl) rfl ?_
 refine WPL.q (q_mv (v := .lit (.int _ _)) rfl) rfl ?_
 obtain ⟨x7699, h7699, H⟩ := bnd H
 refine WPL.q (q_nm (q_add rfl rfl) (nm_int h7699)) rfl ?_
 refine WPL.q (q_as (v := .lit (.int _ _)) rfl) rfl ?_
 refine WPL.nilW ?_
 refine W.now ?_
 refine Then.n ?_
 refine WP.seq ?_
 refine WP.region ?_
 refine WPL.q (q_as (v := .lit (.int _ _)) rfl) rfl ?_
 refine WPL.q (q_as (v := .lit (.int _ _)) rfl) rfl ?_
 refine WPL.nilW ?_
 refine W.now ?_
 refine Then.n ?_
 refine WP.seq ?_
 obtain ⟨⟨x7702, x7703⟩, H7705, H⟩ := bnd H
 refine WP.monoW (Q := fun x E M => x = .normal ∧ E = (((((((((Env.none.upd 0 (.whole 0)).upd 1 (.lit (.int .i64 x6403))).upd 2 (.lit (.int .i64 x6404))).upd 3 (.lit (.int .i64 x6405))).upd 4 (.fn 58 [])).upd 18 (.lit (.int .i64 (IntKind.wrap .i64 (shrI .u64 x7698 1))))).upd 19 (.lit (.int .i64 x7699))).upd 20 (.lit (.int .i64 x7702))).upd 21 (.lit (.int .i64 x7703))) ∧ M = (Mem.nil.push (.row 114 rdS_huff_coin x6406))) ?_ ?_
 · clear H
   have H := H7705
   clear H7705
   refine WP.seq ?_
   refine WP.region ?_
   refine WPL.q (q_mv (v := .lit (.int _ _)) rfl) rfl ?_
   refine WPL.q (q_mv (v := .lit (.int _ _)) rfl) rfl ?_
   obtain ⟨x7704, h7704, H⟩ := bnd H
   refine WPL.q (q_nm (q_gtr rfl rfl) (nm_bool h7704)) rfl ?_
   refine WPL.nilW ?_
   refine W.now ?_
   refine Then.n ?_
   refine WP.cond (t := x7704) rfl (fun hb7704 => ?_) (fun hb7704 => ?_)
   · replace H := cnt hb7704 H
     refine WP.seq ?_
     refine WP.region ?_
     refine WPL.q (q_mv (v := .lit (.int _ _)) rfl) rfl ?_
     refine WPL.q (q_mv (v := .lit (.int _ _)) rfl) rfl ?_
     refine WPL.q (q_sub rfl rfl) rfl ?_
     refine WPL.q (q_as (v := .lit (.int _ _)) rfl) rfl ?_
     refine WPL.nilW ?_
     refine W.now ?_
     refine Then.n ?_
     refine WP.region ?_
     refine WPL.q (q_mv (v := .lit (.int _ _)) rfl) rfl ?_
     refine WPL.q (q_as (v := .lit (.int _ _)) rfl) rfl ?_
     refine WPL.nilW ?_
     have q0 := (Prod.mk.inj (Option.some.inj H)).1
     have q1 := (Prod.mk.inj (Option.some.inj H)).2
     subst q0
     subst q1
     exact W.wk [0] hnp ⟨rfl, rfl, rfl⟩ ⟨rfl, ⟨trivial, .inr ⟨rfl, rfl, rfl⟩⟩, by decide, rfl, ⟨trivial, rfl⟩⟩ (LeE.upd rfl rfl (LeE.upd rfl rfl (LeE.upd rfl rfl (LeE.upd rfl rfl (LeE.upd rfl rfl (LeE.upd rfl rfl (LeE.upd rfl rfl (LeE.upd rfl rfl (LeE.upd rfl rfl (LeE.none rfl rfl)))))))))) rfl
   replace H := cnf hb7704 H
   refine WP.seq ?_
   refine WP.region ?_
   refine WPL.q (q_mv (v := .lit (.int _ _)) rfl) rfl ?_
   refine WPL.q (q_as (v := .lit (.int _ _)) rfl) rfl ?_
   refine WPL.nilW ?_
   refine W.now ?_
   refine Then.n ?_
   refine WP.region ?_
   refine WPL.q (q_mv (v := .lit (.int _ _)) rfl) rfl ?_
   refine WPL.q (q_as (v := .lit (.int _ _)) rfl) rfl ?_
   refine WPL.nilW ?_
   have q0 := (Prod.mk.inj (Option.some.inj H)).1
   have q1 := (Prod.mk.inj (Option.some.inj H)).2
   subst q0
   subst q1
   exact W.wk [0] hnp ⟨rfl, rfl, rfl⟩ ⟨rfl, ⟨trivial, .inr ⟨rfl, rfl, rfl⟩⟩, by decide, rfl, ⟨trivial, rfl⟩⟩ (LeE.upd rfl rfl (LeE.upd rfl rfl (LeE.upd rfl rfl (LeE.upd rfl rfl (LeE.upd rfl rfl (LeE.upd rfl rfl (LeE.upd rfl rfl (LeE.upd rfl rfl (LeE.upd rfl rfl (LeE.none rfl rfl)))))))))) rfl
 rintro _ _ _ ⟨rfl, rfl, rfl⟩
 refine W.now ?_
 refine Then.n ?_
 refine WP.seq ?_
 refine WP.region ?_
 refine WPL.q (q_mv (v := .lit (.int _ _)) rfl) rfl ?_
 refine WPL.q (q_sub rfl rfl) rfl ?_
 refine WPL.q (q_as (v := .lit (.int _ _)) rfl) rfl ?_
 refine WPL.nilW ?_
 refine W.now ?_
 refine Then.n ?_
 refine WP.seq ?_
 refine WP.block ?_
 refine WP.cv (Cv.weak (E' := ((((((((((Env.none.upd 0 (.whole 0)).upd 1 (.lit (.int .i64 x6403))).upd 2 (.lit (.int .i64 x6404))).upd 3 (.lit (.int .i64 x6405))).upd 4 (.fn 58 [])).upd 18 (.lit (.int .i64 (IntKind.wrap .i64 (shrI .u64 x7698 1))))).upd 19 (.lit (.int .i64 x7699))).upd 20 (.lit (.int .i64 x7702))).upd 21 (.lit (.int .i64 x7703))).upd 22 (.lit (.int .i64 (IntKind.wrap .i64 (x7699 - 1)))))) (M' := (Mem.nil.push (.row 114 rdS_huff_coin x6406))) [0] hnp ⟨rfl, ⟨trivial, .inr ⟨rfl, rfl, rfl⟩⟩, by decide, rfl, ⟨trivial, rfl⟩⟩ (LeE.upd rfl rfl (LeE.upd rfl rfl (LeE.upd rfl rfl (LeE.upd rfl rfl (LeE.upd rfl rfl (LeE.upd rfl rfl (LeE.upd rfl rfl (LeE.upd rfl rfl (LeE.upd rfl rfl (LeE.upd rfl rfl (LeE.none rfl rfl)))))))))))) ?_
 obtain ⟨x7745, H7763, H⟩ := bnd H
 refine WP.monoW (Q := fun x E M => x = .exit 8 ∧ E = ((((((((Env.none.upd 0 (.whole 0)).upd 1 (.lit (.int .i64 x6403))).upd 2 (.lit (.int .i64 x6404))).upd 3 (.lit (.int .i64 x6405))).upd 4 (.fn 58 [])).upd 18 (.lit (.int .i64 (IntKind.wrap .i64 (shrI .u64 x7698 1))))).upd 19 (.lit (.int .i64 x7699))).upd 20 (.lit (.int .i64 x7745))) ∧ M = (Mem.nil.push (.row 114 rdS_huff_coin x6406))) ?_ ?_
 · refine WP.loop (β := Int × Int) (fun n b => g_slices_symMergeCmpFunc_huff_coin_l4 k x6406 x7699 n b.1 b.2 = some x7745) (fun b => ((((((((((Env.none.upd 0 (.whole 0)).upd 1 (.lit (.int .i64 x6403))).upd 2 (.lit (.int .i64 x6404))).upd 3 (.lit (.int .i64 x6405))).upd 4 (.fn 58 [])).upd 18 (.lit (.int .i64 (IntKind.wrap .i64 (shrI .u64 x7698 1))))).upd 19 (.lit (.int .i64 x7699))).upd 20 (.lit (.int .i64 b.1))).upd 21 (.lit (.int .i64 b.2))).upd 22 (.lit (.int .i64 (IntKind.wrap .i64 (x7699 - 1)))))) (fun b => (Mem.nil.push (.row 114 rdS_huff_coin x6406))) k (x7702, x7703) H7763 rfl rfl ?_
   rintro n ⟨x7725, x7726⟩ H
   obtain _ | n := n
   · exact nf rfl H
   rw [g_slices_symMergeCmpFunc_huff_coin_l4.eq_2] at H
   show WP _ _ _ _ ((((((((((Env.none.upd 0 (.whole 0)).upd 1 (.lit (.int .i64 x6403))).upd 2 (.lit (.int .i64 x6404))).upd 3 (.lit (.int .i64 x6405))).upd 4 (.fn 58 [])).upd 18 (.lit (.int .i64 (IntKind.wrap .i64 (shrI .u64 x7698 1))))).upd 19 (.lit (.int .i64 x7699))).upd 20 (.lit (.int .i64 x7725))).upd 21 (.lit (.int .i64 x7726))).upd 22 (.lit (.int .i64 (IntKind.wrap .i64 (x7699 - 1))))) (Mem.nil.push (.row 114 rdS_huff_coin x6406)) _
   refine WP.seq ?_
   refine WP.seq ?_
   refine WP.region ?_
   refine WPL.q (q_mv (v := .lit (.int _ _)) rfl) rfl ?_
   refine WPL.q (q_mv (v := .lit (.int _ _)) rfl) rfl ?_
   refine WPL.q (q_lss rfl rfl) rfl ?_
   refine WPL.nilW ?_
   refine W.now ?_
   refine Then.n ?_
   refine WP.cond (t := (decide (x7725 < x7726))) rfl (fun hb7746 => ?_) (fun hb7746 => ?_)
   · replace H := cnt hb7746 H
     refine WP.skipW ?_
     refine W.now ?_
     refine Then.n ?_
     refine WP.block ?_
     refine WP.seq ?_
     refine WP.region ?_
     refine WPL.q (q_mv (v := .lit (.int _ _)) rfl) rfl ?_
     refine WPL.q (q_mv (v := .lit (.int _ _)) rfl) rfl ?_
     refine WPL.q (q_add rfl rfl) rfl ?_
     obtain ⟨x7748, h7748, H⟩ := bnd H
     refine WPL.q (q_nm (q_conv Try.underlying3 Try.underlying54 rfl) (nm_int h7748)) rfl ?_
     refine WPL.q (q_shr rfl rfl rfl) rfl ?_
     refine WPL.q (q_conv Try.underlying54 Try.underlying3 rfl) rfl ?_
     refine WPL.q (q_as (v := .lit (.int _ _)) rfl) rfl ?_
     refine WPL.nilW ?_
     refine W.now ?_
     refine Then.n ?_
     refine WP.seq ?_
     refine WP.regionD' 14 [0] [] mixed rfl ?_
     refine WPD.takeT 0 rfl (by kernel_rfl) (q_mv (v := .fn _ _) rfl) rfl ?_
     refine WPD.takeT 1 rfl (by kernel_rfl) (q_mv (v := .whole _) rfl) rfl ?_
     refine WPD.takeT 2 rfl (by kernel_rfl) (q_mv (v := .lit (.int _ _)) rfl) rfl ?_
     refine WPD.takeT 3 rfl (by kernel_rfl) (q_mv (v := .lit (.int _ _)) rfl) rfl ?_
     obtain ⟨x7757, h7757, H⟩ := bnd H
     refine WPD.takeT 4 rfl (by kernel_rfl) (q_nm (q_sub rfl rfl) (nm_int h7757)) rfl ?_
     obtain ⟨x7758, h7758, H⟩ := bnd H
     refine WPD.takeT 5 rfl (by kernel_rfl) (q_index_row sl112 rfl rfl rfl (ixs h7758)) rfl ?_
     refine WPD.takeT 7 rfl (by kernel_rfl) (q_mv (v := .whole _) rfl) rfl ?_
     refine WPD.takeT 8 rfl (by kernel_rfl) (q_mv (v := .lit (.int _ _)) rfl) rfl ?_
     obtain ⟨x7759, h7759, H⟩ := bnd H
     refine WPD.takeT 9 rfl (by kernel_rfl) (q_index_row sl112 rfl rfl rfl (ixs h7759)) rfl ?_
     refine WPD.take 6 rfl (by kernel_rfl) (q_load_rowag (j := (Int.toNat x7757)) ag114 rfl rfl (ixj h7758) rfl S_huff_coin.sp) rfl rfl ?_
     refine WPD.take 10 rfl (by kernel_rfl) (q_load_rowag (j := (Int.toNat (IntKind.wrap .i64 (shrI .u64 x7748 1)))) ag114 rfl rfl (ixj h7759) rfl S_huff_coin.sp) rfl rfl ?_
     obtain ⟨x7761, h7759, H⟩ := bnd H
     refine WPD.eff 11 [0] [] rfl (by kernel_rfl) (runs_call (s := []) (t := []) (N := 1) (bor := []) fn58 rfl (s_huff_Lengths_1 k x7758.ffreq x7758.fsyms x7759.ffreq x7759.fsyms x7761 h7759) ⟨rfl, trivial, by decide, rfl, trivial⟩ rfl trivial (.ren rfl rfl (.ren rfl rfl .nil)) rfl trivial rfl) rfl rfl ?_
     refine WPD.takeT 12 rfl (by kernel_rfl) (q_lss rfl rfl) rfl ?_
     refine WPD.takeT 13 rfl (by kernel_rfl) (q_not rfl) rfl ?_
     refine WPD.doneW (by kernel_rfl) ?_
     refine W.now ?_
     refine Then.n ?_
     refine WP.cond (t := (!(decide (x7761 < 0)))) rfl (fun hb7761 => ?_) (fun hb7761 => ?_)
     · replace H := cnt hb7761 H
       refine WP.region ?_
       refine WPL.q (q_mv (v := .lit (.int _ _)) rfl) rfl ?_
       obtain ⟨x7763, h7763, H⟩ := bnd H
       refine WPL.q (q_nm (q_add rfl rfl) (nm_int h7763)) rfl ?_
       refine WPL.q (q_as (v := .lit (.int _ _)) rfl) rfl ?_
       refine WPL.nilW ?_
       exact W.wk [0] hnp (InBlock.n (Then.n ⟨n, (x7763, x7726), Nat.lt_succ_self n, H, rfl, rfl⟩)) ⟨rfl, ⟨trivial, .inr ⟨rfl, rfl, rfl⟩⟩, by decide, rfl, ⟨trivial, rfl⟩⟩ (LeE.upd rfl rfl (LeE.upd rfl rfl (LeE.upd rfl rfl (LeE.upd rfl rfl (LeE.upd rfl rfl (LeE.upd rfl rfl (LeE.upd rfl rfl (LeE.upd rfl rfl (LeE.upd rfl rfl (LeE.upd rfl rfl (LeE.none rfl rfl))))))))))) rfl
     replace H := cnf hb7761 H
     refine WP.region ?_
     refine WPL.q (q_mv (v := .lit (.int _ _)) rfl) rfl ?_
     refine WPL.q (q_as (v := .lit (.int _ _)) rfl) rfl ?_
     refine WPL.nilW ?_
     exact W.wk [0] hnp (InBlock.n (Then.n ⟨n, (x7725, (IntKind.wrap .i64 (shrI .u64 x7748 1))), Nat.lt_succ_self n, H, rfl, rfl⟩)) ⟨rfl, ⟨trivial, .inr ⟨rfl, rfl, rfl⟩⟩, by decide, rfl, ⟨trivial, rfl⟩⟩ (LeE.upd rfl rfl (LeE.upd rfl rfl (LeE.upd rfl rfl (LeE.upd rfl rfl (LeE.upd rfl rfl (LeE.upd rfl rfl (LeE.upd rfl rfl (LeE.upd rfl rfl (LeE.upd rfl rfl (LeE.upd rfl rfl (LeE.none rfl rfl))))))))))) rfl
   replace H := cnf hb7746 H
   refine WP.exitW ?_
   have q0 := (Option.some.inj H)
   subst q0
   exact W.wk [0] hnp (Then.x (Then.x ⟨rfl, rfl, rfl⟩)) ⟨rfl, ⟨trivial, .inr ⟨rfl, rfl, rfl⟩⟩, by decide, rfl, ⟨trivial, rfl⟩⟩ (LeE.upd rfl rfl (LeE.upd rfl rfl (LeE.upd rfl rfl (LeE.upd rfl rfl (LeE.upd rfl rfl (LeE.upd rfl rfl (LeE.upd rfl rfl (LeE.upd rfl rfl (LeE.none rfl rfl))))))))) rfl
 rintro _ _ _ ⟨rfl, rfl, rfl⟩
 refine W.now ?_
 refine InBlock.x0 ?_
 refine Then.n ?_
 refine WP.seq ?_
 refine WP.region ?_
 refine WPL.q (q_mv (v := .lit (.int _ _)) rfl) rfl ?_
 refine WPL.q (q_mv (v := .lit (.int _ _)) rfl) rfl ?_
 refine WPL.q (q_sub rfl rfl) rfl ?_
 refine WPL.q (q_as (v := .lit (.int _ _)) rfl) rfl ?_
 refine WPL.nilW ?_
 refine W.now ?_
 refine Then.n ?_
 refine WP.seq ?_
 obtain ⟨x7774, H7783, H⟩ := bnd H
 refine WP.monoW (Q := fun x E M => x = .normal ∧ E = (((((((Env.none.upd 0 (.whole 0)).upd 1 (.lit (.int .i64 x6403))).upd 3 (.lit (.int .i64 x6405))).upd 4 (.fn 58 [])).upd 18 (.lit (.int .i64 (IntKind.wrap .i64 (shrI .u64 x7698 1))))).upd 20 (.lit (.int .i64 x7745))).upd 24 (.lit (.int .i64 (IntKind.wrap .i64 (x7699 - x7745))))) ∧ M = (Mem.nil.push (.row 114 rdS_huff_coin x7774))) ?_ ?_
 · clear H
   have H := H7783
   clear H7783
   refine WP.seq ?_
   obtain ⟨x7777, H7779, H⟩ := bnd H
   refine WP.monoW (Q := fun x E M => x = .normal ∧ E = (((((((((Env.none.upd 0 (.whole 0)).upd 1 (.lit (.int .i64 x6403))).upd 2 (.lit (.int .i64 x6404))).upd 3 (.lit (.int .i64 x6405))).upd 4 (.fn 58 [])).upd 18 (.lit (.int .i64 (IntKind.wrap .i64 (shrI .u64 x7698 1))))).upd 20 (.lit (.int .i64 x7745))).upd 24 (.lit (.int .i64 (IntKind.wrap .i64 (x7699 - x7745))))).upd 185 (.lit (.bool x7777))) ∧ M = (Mem.nil.push (.row 114 rdS_huff_coin x6406))) ?_ ?_
   · clear H
     have H := H7779
     clear H7779
     refine WP.region ?_
     refine WPL.q (q_mv (v := .lit (.int _ _)) rfl) rfl ?_
     refine WPL.q (q_mv (v := .lit (.int _ _)) rfl) rfl ?_
     refine WPL.q (q_lss rfl rfl) rfl ?_
     refine WPL.q (q_mv (v := .lit (.bool _)) rfl) rfl ?_
     refine WPL.split (t := 181) (b := (decide (x7745 < x6404))) rfl (fun hb7777 => ?_) (fun hb7777 => ?_)
     · replace H := cnt hb7777 H
       refine WPL.qg rfl rfl (lb hb7777) (q_mv (v := .lit (.int _ _)) rfl) rfl ?_
       refine WPL.qg rfl rfl (lb hb7777) (q_mv (v := .lit (.int _ _)) rfl) rfl ?_
       obtain ⟨x7779, h7779, H⟩ := bnd H
       refine WPL.qg rfl rfl (lb hb7777) (q_nm (q_lss rfl rfl) (nm_bool h7779)) rfl ?_
       refine WPL.q (q_pickT (v := .lit (.bool _)) (lb hb7777) rfl) rfl ?_
       refine WPL.nilW ?_
       have q0 := (Option.some.inj H)
       subst q0
       exact W.wk [0] hnp ⟨rfl, rfl, rfl⟩ ⟨rfl, ⟨trivial, .inr ⟨rfl, rfl, rfl⟩⟩, by decide, rfl, ⟨trivial, rfl⟩⟩ (LeE.upd rfl rfl (LeE.upd rfl rfl (LeE.upd rfl rfl (LeE.upd rfl rfl (LeE.upd rfl rfl (LeE.upd rfl rfl (LeE.upd rfl rfl (LeE.upd rfl rfl (LeE.upd rfl rfl (LeE.none rfl rfl)))))))))) rfl
     replace H := cnf hb7777 H
     refine WPL.skipg (b' := false) rfl rfl (lb hb7777) rfl rfl (.inl trivial) ?_
     refine WPL.skipg (b' := false) rfl rfl (lb hb7777) rfl rfl (.inl trivial) ?_
     refine WPL.skipg (b' := false) rfl rfl (lb hb7777) rfl rfl (.inl trivial) ?_
     refine WPL.q (q_pickF (v := .lit (.bool _)) (lb hb7777) rfl) rfl ?_
     refine WPL.nilW ?_
     have q0 := (Option.some.inj H)
     subst q0
     exact W.wk [0] hnp ⟨rfl, rfl, rfl⟩ ⟨rfl, ⟨trivial, .inr ⟨rfl, rfl, rfl⟩⟩, by decide, rfl, ⟨trivial, rfl⟩⟩ (LeE.upd rfl rfl (LeE.upd rfl rfl (LeE.upd rfl rfl (LeE.upd rfl rfl (LeE.upd rfl rfl (LeE.upd rfl rfl (LeE.upd rfl rfl (LeE.upd rfl rfl (LeE.upd rfl rfl (LeE.none rfl rfl)))))))))) rfl
   rintro _ _ _ ⟨rfl, rfl, rfl⟩
   refine W.now ?_
   refine Then.n ?_
   refine WP.cond (t := x7777) rfl (fun hb7780 => ?_) (fun hb7780 => ?_)
   · replace H := cnt hb7780 H
     refine WP.region ?_
     refine WPL.q (q_mv (v := .whole _) rfl) rfl ?_
     refine WPL.q (q_mv (v := .lit (.int _ _)) rfl) rfl ?_
     refine WPL.q (q_mv (v := .lit (.int _ _)) rfl) rfl ?_
     refine WPL.q (q_mv (v := .lit (.int _ _)) rfl) rfl ?_
     refine WPL.q (q_mv (v := .fn _ _) rfl) rfl ?_
     obtain ⟨x7783, h7781, H⟩ := bnd H
     refine WPL.c (runs_call (s := [0]) (t := [0]) (N := 1) (bor := []) fn93 rfl (s_slices_rotateCmpFunc_huff_coin k x7745 x6404 (IntKind.wrap .i64 (x7699 - x7745)) x6406 x7783 h7781) ⟨rfl, ⟨trivial, .inr ⟨rfl, rfl, rfl⟩⟩, by decide, rfl, trivial⟩ rfl trivial (.ren rfl rfl (.ren rfl rfl (.ren rfl rfl (.ren rfl rfl (.ren rfl rfl .nil))))) rfl ⟨trivial, rfl⟩ rfl) rfl ?_
     refine WPL.nilW ?_
     have q0 := (Option.some.inj H)
     subst q0
     exact W.wk [0] hnp ⟨rfl, rfl, rfl⟩ ⟨rfl, ⟨trivial, .inr ⟨rfl, rfl, rfl⟩⟩, by decide, rfl, ⟨trivial, rfl⟩⟩ (LeE.upd rfl rfl (LeE.upd rfl rfl (LeE.upd rfl rfl (LeE.upd rfl rfl (LeE.upd rfl rfl (LeE.upd rfl rfl (LeE.upd rfl rfl (LeE.none rfl rfl)))))))) rfl
   replace H := cnf hb7780 H
   refine WP.skipW ?_
   have q0 := (Option.some.inj H)
   subst q0
   exact W.wk [0] hnp ⟨rfl, rfl, rfl⟩ ⟨rfl, ⟨trivial, .inr ⟨rfl, rfl, rfl⟩⟩, by decide, rfl, ⟨trivial, rfl⟩⟩ (LeE.upd rfl rfl (LeE.upd rfl rfl (LeE.upd rfl rfl (LeE.upd rfl rfl (LeE.upd rfl rfl (LeE.upd rfl rfl (LeE.upd rfl rfl (LeE.none rfl rfl)))))))) rfl
 rintro _ _ _ ⟨rfl, rfl, rfl⟩
 refine W.now ?_
 refine Then.n ?_
 refine WP.seq ?_
 obtain ⟨x7794, H7803, H⟩ := bnd H
 refine WP.monoW (Q := fun x E M => x = .normal ∧ E = (((((Env.none.upd 0 (.whole 0)).upd 3 (.lit (.int .i64 x6405))).upd 4 (.fn 58 [])).upd 18 (.lit (.int .i64 (IntKind.wrap .i64 (shrI .u64 x7698 1))))).upd 24 (.lit (.int .i64 (IntKind.wrap .i64 (x7699 - x7745))))) ∧ M = (Mem.nil.push (.row 114 rdS_huff_coin x7794))) ?_ ?_
 · clear H
   have H := H7803
   clear H7803
   refine WP.seq ?_
   obtain ⟨x7797, H7799, H⟩ := bnd H
   refine WP.monoW (Q := fun x E M => x = .normal ∧ E = ((((((((Env.none.upd 0 (.whole 0)).upd 1 (.lit (.int .i64 x6403))).upd 3 (.lit (.int .i64 x6405))).upd 4 (.fn 58 [])).upd 18 (.lit (.int .i64 (IntKind.wrap .i64 (shrI .u64 x7698 1))))).upd 20 (.lit (.int .i64 x7745))).upd 24 (.lit (.int .i64 (IntKind.wrap .i64 (x7699 - x7745))))).upd 199 (.lit (.bool x7797))) ∧ M = (Mem.nil.push (.row 114 rdS_huff_coin x7774))) ?_ ?_
   · clear H
     have H := H7799
     clear H7799
     refine WP.region ?_
     refine WPL.q (q_mv (v := .lit (.int _ _)) rfl) rfl ?_
     refine WPL.q (q_mv (v := .lit (.int _ _)) rfl) rfl ?_
     refine WPL.q (q_lss rfl rfl) rfl ?_
     refine WPL.q (q_mv (v := .lit (.bool _)) rfl) rfl ?_
     refine WPL.split (t := 195) (b := (decide (x6403 < x7745))) rfl (fun hb7797 => ?_) (fun hb7797 => ?_)
     · replace H := cnt hb7797 H
       refine WPL.qg rfl rfl (lb hb7797) (q_mv (v := .lit (.int _ _)) rfl) rfl ?_
       refine WPL.qg rfl rfl (lb hb7797) (q_mv (v := .lit (.int _ _)) rfl) rfl ?_
       obtain ⟨x7799, h7799, H⟩ := bnd H
       refine WPL.qg rfl rfl (lb hb7797) (q_nm (q_lss rfl rfl) (nm_bool h7799)) rfl ?_
       refine WPL.q (q_pickT (v := .lit (.bool _)) (lb hb7797) rfl) rfl ?_
       refine WPL.nilW ?_
       have q0 := (Option.some.inj H)
       subst q0
       exact W.wk [0] hnp ⟨rfl, rfl, rfl⟩ ⟨rfl, ⟨trivial, .inr ⟨rfl, rfl, rfl⟩⟩, by decide, rfl, ⟨trivial, rfl⟩⟩ (LeE.upd rfl rfl (LeE.upd rfl rfl (LeE.upd rfl rfl (LeE.upd rfl rfl (LeE.upd rfl rfl (LeE.upd rfl rfl (LeE.upd rfl rfl (LeE.upd rfl rfl (LeE.none rfl rfl))))))))) rfl
     replace H := cnf hb7797 H
     refine WPL.skipg (b' := false) rfl rfl (lb hb7797) rfl rfl (.inl trivial) ?_
     refine WPL.skipg (b' := false) rfl rfl (lb hb7797) rfl rfl (.inl trivial) ?_
     refine WPL.skipg (b' := false) rfl rfl (lb hb7797) rfl rfl (.inl trivial) ?_
     refine WPL.q (q_pickF (v := .lit (.bool _)) (lb hb7797) rfl) rfl ?_
     refine WPL.nilW ?_
     have q0 := (Option.some.inj H)
     subst q0
     exact W.wk [0] hnp ⟨rfl, rfl, rfl⟩ ⟨rfl, ⟨trivial, .inr ⟨rfl, rfl, rfl⟩⟩, by decide, rfl, ⟨trivial, rfl⟩⟩ (LeE.upd rfl rfl (LeE.upd rfl rfl (LeE.upd rfl rfl (LeE.upd rfl rfl (LeE.upd rfl rfl (LeE.upd rfl rfl (LeE.upd rfl rfl (LeE.upd rfl rfl (LeE.none rfl rfl))))))))) rfl
   rintro _ _ _ ⟨rfl, rfl, rfl⟩
   refine W.now ?_
   refine Then.n ?_
   refine WP.cond (t := x7797) rfl (fun hb7800 => ?_) (fun hb7800 => ?_)
   · replace H := cnt hb7800 H
     refine WP.region ?_
     refine WPL.q (q_mv (v := .whole _) rfl) rfl ?_
     refine WPL.q (q_mv (v := .lit (.int _ _)) rfl) rfl ?_
     refine WPL.q (q_mv (v := .lit (.int _ _)) rfl) rfl ?_
     refine WPL.q (q_mv (v := .lit (.int _ _)) rfl) rfl ?_
     refine WPL.q (q_mv (v := .fn _ _) rfl) rfl ?_
     obtain ⟨x7803, h7801, H⟩ := bnd H
     refine WPL.c (runs_call (s := [0]) (t := [0]) (N := 1) (bor := []) fn89 rfl (hrc6407 x6403 x7745 (IntKind.wrap .i64 (shrI .u64 x7698 1)) x7774 x7803 h7801) ⟨rfl, ⟨trivial, .inr ⟨rfl, rfl, rfl⟩⟩, by decide, rfl, trivial⟩ rfl trivial (.ren rfl rfl (.ren rfl rfl (.ren rfl rfl (.ren rfl rfl (.ren rfl rfl .nil))))) rfl ⟨trivial, rfl⟩ rfl) rfl ?_
     refine WPL.nilW ?_
     have q0 := (Option.some.inj H)
     subst q0
     exact W.wk [0] hnp ⟨rfl, rfl, rfl⟩ ⟨rfl, ⟨trivial, .inr ⟨rfl, rfl, rfl⟩⟩, by decide, rfl, ⟨trivial, rfl⟩⟩ (LeE.upd rfl rfl (LeE.upd rfl rfl (LeE.upd rfl rfl (LeE.upd rfl rfl (LeE.upd rfl rfl (LeE.none rfl rfl)))))) rfl
   replace H := cnf hb7800 H
   refine WP.skipW ?_
   have q0 := (Option.some.inj H)
   subst q0
   exact W.wk [0] hnp ⟨rfl, rfl, rfl⟩ ⟨rfl, ⟨trivial, .inr ⟨rfl, rfl, rfl⟩⟩, by decide, rfl, ⟨trivial, rfl⟩⟩ (LeE.upd rfl rfl (LeE.upd rfl rfl (LeE.upd rfl rfl (LeE.upd rfl rfl (LeE.upd rfl rfl (LeE.none rfl rfl)))))) rfl
 rintro _ _ _ ⟨rfl, rfl, rfl⟩
 refine W.now ?_
 refine Then.n ?_
 refine WP.seq ?_
 obtain ⟨x7808, H7811, H⟩ := bnd H
 refine WP.monoW (Q := fun x E M => x = .normal ∧ E = ((((((Env.none.upd 0 (.whole 0)).upd 3 (.lit (.int .i64 x6405))).upd 4 (.fn 58 [])).upd 18 (.lit (.int .i64 (IntKind.wrap .i64 (shrI .u64 x7698 1))))).upd 24 (.lit (.int .i64 (IntKind.wrap .i64 (x7699 - x7745))))).upd 213 (.lit (.bool x7808))) ∧ M = (Mem.nil.push (.row 114 rdS_huff_coin x7794))) ?_ ?_
 · clear H
   have H := H7811
   clear H7811
   refine WP.region ?_
   refine WPL.q (q_mv (v := .lit (.int _ _)) rfl) rfl ?_
   refine WPL.q (q_mv (v := .lit (.int _ _)) rfl) rfl ?_
   obtain ⟨x7809, h7809, H⟩ := bnd H
   refine WPL.q (q_nm (q_lss rfl rfl) (nm_bool h7809)) rfl ?_
   refine WPL.q (q_mv (v := .lit (.bool _)) rfl) rfl ?_
   refine WPL.split (t := 209) (b := x7809) rfl (fun hb7809 => ?_) (fun hb7809 => ?_)
   · replace H := cnt hb7809 H
     refine WPL.qg rfl rfl (lb hb7809) (q_mv (v := .lit (.int _ _)) rfl) rfl ?_
     refine WPL.qg rfl rfl (lb hb7809) (q_mv (v := .lit (.int _ _)) rfl) rfl ?_
     obtain ⟨x7811, h7811, H⟩ := bnd H
     refine WPL.qg rfl rfl (lb hb7809) (q_nm (q_lss rfl rfl) (nm_bool h7811)) rfl ?_
     refine WPL.q (q_pickT (v := .lit (.bool _)) (lb hb7809) rfl) rfl ?_
     refine WPL.nilW ?_
     have q0 := (Option.some.inj H)
     subst q0
     exact W.wk [0] hnp ⟨rfl, rfl, rfl⟩ ⟨rfl, ⟨trivial, .inr ⟨rfl, rfl, rfl⟩⟩, by decide, rfl, ⟨trivial, rfl⟩⟩ (LeE.upd rfl rfl (LeE.upd rfl rfl (LeE.upd rfl rfl (LeE.upd rfl rfl (LeE.upd rfl rfl (LeE.upd rfl rfl (LeE.none rfl rfl))))))) rfl
   replace H := cnf hb7809 H
   refine WPL.skipg (b' := false) rfl rfl (lb hb7809) rfl rfl (.inl trivial) ?_
   refine WPL.skipg (b' := false) rfl rfl (lb hb7809) rfl rfl (.inl trivial) ?_
   refine WPL.skipg (b' := false) rfl rfl (lb hb7809) rfl rfl (.inl trivial) ?_
   refine WPL.q (q_pickF (v := .lit (.bool _)) (lb hb7809) rfl) rfl ?_
   refine WPL.nilW ?_
   have q0 := (Option.some.inj H)
   subst q0
   exact W.wk [0] hnp ⟨rfl, rfl, rfl⟩ ⟨rfl, ⟨trivial, .inr ⟨rfl, rfl, rfl⟩⟩, by decide, rfl, ⟨trivial, rfl⟩⟩ (LeE.upd rfl rfl (LeE.upd rfl rfl (LeE.upd rfl rfl (LeE.upd rfl rfl (LeE.upd rfl rfl (LeE.upd rfl rfl (LeE.none rfl rfl))))))) rfl
 rintro _ _ _ ⟨rfl, rfl, rfl⟩
 refine W.now ?_
 refine Then.n ?_
 refine WP.cond (t := x7808) rfl (fun hb7812 => ?_) (fun hb7812 => ?_)
 · replace H := cnt hb7812 H
   refine WP.region ?_
   refine WPL.q (q_mv (v := .whole _) rfl) rfl ?_
   refine WPL.q (q_mv (v := .lit (.int _ _)) rfl) rfl ?_
   refine WPL.q (q_mv (v := .lit (.int _ _)) rfl) rfl ?_
   refine WPL.q (q_mv (v := .lit (.int _ _)) rfl) rfl ?_
   refine WPL.q (q_mv (v := .fn _ _) rfl) rfl ?_
   obtain ⟨x7815, h7813, H⟩ := bnd H
   refine WPL.c (runs_call (s := [0]) (t := [0]) (N := 1) (bor := []) fn89 rfl (hrc6407 (IntKind.wrap .i64 (shrI .u64 x7698 1)) (IntKind.wrap .i64 (x7699 - x7745)) x6405 x7794 x7815 h7813) ⟨rfl, ⟨trivial, .inr ⟨rfl, rfl, rfl⟩⟩, by decide, rfl, trivial⟩ rfl trivial (.ren rfl rfl (.ren rfl rfl (.ren rfl rfl (.ren rfl rfl (.ren rfl rfl .nil))))) rfl ⟨trivial, rfl⟩ rfl) rfl ?_
   refine WPL.nilW ?_
   have q0 := (Option.some.inj H)
   subst q0
   exact W.now (BodyR.mkN trivial rfl [0] ⟨rfl, rfl⟩ ⟨rfl, ⟨trivial, .inr ⟨rfl, rfl, rfl⟩⟩, by decide, rfl, ⟨trivial, rfl⟩⟩ rfl rfl)
 replace H := cnf hb7812 H
 refine WP.skipW ?_
 have q0 := (Option.some.inj H)
 subst q0
 exact W.now (BodyR.mkN trivial rfl [0] ⟨rfl, rfl⟩ ⟨rfl, ⟨trivial, .inr ⟨rfl, rfl, rfl⟩⟩, by decide, rfl, ⟨trivial, rfl⟩⟩ rfl rfl)
theorem s_slices_symMergeCmpFunc_huff_coin : ∀ (k : Nat) (x6403 : Int) (x6404 : Int) (x6405 : Int) (x6406 : (List S_huff_coin)) (x6958 : (List S_huff_coin)) (H : g_slices_symMergeCmpFunc_huff_coin k x6403 x6404 x6405 x6406 = some x6958), Go.Q.Spec Try.prog 89 1 [.whole 0, .lit (.int .i64 x6403), .lit (.int .i64 x6404), .lit (.int .i64 x6405), .fn 58 []] (Mem.nil.push (.row 114 rdS_huff_coin x6406)) (fun o M => o = .ret (.tup []) ∧ M = (Mem.nil.push (.row 114 rdS_huff_coin x6958)))
  | 0, _, _, _, _, _, H => nf rfl H
  | k + 1, x6403, x6404, x6405, x6406, x6958, H => sb_slices_symMergeCmpFunc_huff_coin (g_slices_symMergeCmpFunc_huff_coin k) (s_slices_symMergeCmpFunc_huff_coin k) k x6403 x6404 x6405 x6406 x6958 H
end Go.Proofs.Ytmmeanjjfhimjaa.W
namespace Go.Proofs.Ytmmeanjjfhimjaa.W
open Go Go.Q Go.Proofs
set_option linter.unusedVariables false
set_option linter.unusedSimpArgs false
set_option maxRecDepth 100000 in
set_option maxHeartbeats 4000000 in
theorem s_slices_stableCmpFunc_huff_coin (k : Nat) (x5438 : Int) (x5439 : (List S_huff_coin)) (x7874 : (List S_huff_coin)) (H : g_slices_stableCmpFunc_huff_coin k x5438 x5439 = some x7874) : Go.Q.Spec Try.prog 80 1 [.whole 0, .lit (.int .i64 x5438), .fn 58 []] (Mem.nil.push (.row 114 rdS_huff_coin x5439)) (fun o M => o = .ret (.tup []) ∧ M = (Mem.nil.push (.row 114 rdS_huff_coin x7874))) := by
 unfold g_slices_stableCmpFunc_huff_coin at H
 refine Go.Q.Spec.of_bodyR (az := []) (rs := []) (nt := 63) Try.func80 rfl rfl (by intro t T h; simp at h) rfl rfl fun cx hnp => ?_
 refine WP.seq ?_
 refine WP.region ?_
 refine WPL.q (q_as (v := .lit (.int _ _)) rfl) rfl ?_
 refine WPL.nilW ?_
 refine W.now ?_
 refine Then.n ?_
 refine WP.seq ?_
 refine WP.region ?_
 refine WPL.q (q_mv (v := .lit (.int _ _)) rfl) rfl ?_
 refine WPL.q (q_as (v := .lit (.int _ _)) rfl) rfl ?_
 refine WPL.q (q_as (v := .lit (.int _ _)) rfl) rfl ?_
 refine WPL.nilW ?_
 refine W.now ?_
 refine Then.n ?_
 refine WP.seq ?_
 refine WP.block ?_
 refine WP.cv (Cv.weak (E' := ((((((Env.none.upd 0 (.whole 0)).upd 1 (.lit (.int .i64 x5438))).upd 2 (.fn 58 [])).upd 6 (.lit (.int .i64 20))).upd 7 (.lit (.int .i64 0))).upd 8 (.lit (.int .i64 20)))) (M' := (Mem.nil.push (.row 114 rdS_huff_coin x5439))) [0] hnp ⟨rfl, ⟨trivial, .inr ⟨rfl, rfl, rfl⟩⟩, by decide, rfl, ⟨trivial, rfl⟩⟩ (LeE.upd rfl rfl (LeE.upd rfl rfl (LeE.upd rfl rfl (LeE.upd rfl rfl (LeE.upd rfl rfl (LeE.upd rfl rfl (LeE.none rfl rfl)))))))) ?_
 obtain ⟨⟨x7886, x7887⟩, H7891, H⟩ := bnd H
 refine WP.monoW (Q := fun x E M => x = .exit 0 ∧ E = (((((Env.none.upd 0 (.whole 0)).upd 1 (.lit (.int .i64 x5438))).upd 2 (.fn 58 [])).upd 6 (.lit (.int .i64 20))).upd 7 (.lit (.int .i64 x7886))) ∧ M = (Mem.nil.push (.row 114 rdS_huff_coin x7887))) ?_ ?_
 · refine WP.loop (β := Int × Int × (List S_huff_coin)) (fun n b => g_slices_stableCmpFunc_huff_coin_l0 k x5438 n b.1 b.2.1 b.2.2 = some (x7886, x7887)) (fun b => ((((((Env.none.upd 0 (.whole 0)).upd 1 (.lit (.int .i64 x5438))).upd 2 (.fn 58 [])).upd 6 (.lit (.int .i64 20))).upd 7 (.lit (.int .i64 b.1))).upd 8 (.lit (.int .i64 b.2.1)))) (fun b => (Mem.nil.push (.row 114 rdS_huff_coin b.2.2))) k (0, 20, x5439) H7891 rfl rfl ?_
   rintro n ⟨x7879, x7880, x7881⟩ H
   obtain _ | n := n
   · exact nf rfl H
   rw [g_slices_stableCmpFunc_huff_coin_l0.eq_2] at H
   show WP _ _ _ _ ((((((Env.none.upd 0 (.whole 0)).upd 1 (.lit (.int .i64 x5438))).upd 2 (.fn 58 [])).upd 6 (.lit (.int .i64 20))).upd 7 (.lit (.int .i64 x7879))).upd 8 (.lit (.int .i64 x7880))) (Mem.nil.push (.row 114 rdS_huff_coin x7881)) _
   refine WP.seq ?_
   refine WP.seq ?_
   refine WP.region ?_
   refine WPL.q (q_mv (v := .lit (.int _ _)) rfl) rfl ?_
   refine WPL.q (q_mv (v := .lit (.int _ _)) rfl) rfl ?_
   refine WPL.q (q_leq rfl rfl) rfl ?_
   refine WPL.nilW ?_
   refine W.now ?_
   refine Then.n ?_
   refine WP.cond (t := (decide (x7880 ≤ x5438))) rfl (fun hb7888 => ?_) (fun hb7888 => ?_)
   · replace H := cnt hb7888 H
     refine WP.skipW ?_
     refine W.now ?_
     refine Then.n ?_
     refine WP.block ?_
     refine WP.seq ?_
     refine WP.region ?_
     refine WPL.q (q_mv (v := .whole _) rfl) rfl ?_
     refine WPL.q (q_mv (v := .lit (.int _ _)) rfl) rfl ?_
     refine WPL.q (q_mv (v := .lit (.int _ _)) rfl) rfl ?_
     refine WPL.q (q_mv (v := .fn _ _) rfl) rfl ?_
     obtain ⟨x7891, h7889, H⟩ := bnd H
     refine WPL.c (runs_call (s := [0]) (t := [0]) (N := 1) (bor := []) fn88 rfl (s_slices_insertionSortCmpFunc_huff_coin k x7879 x7880 x7881 x7891 h7889) ⟨rfl, ⟨trivial, .inr ⟨rfl, rfl, rfl⟩⟩, by decide, rfl, trivial⟩ rfl trivial (.ren rfl rfl (.ren rfl rfl (.ren rfl rfl (.ren rfl rfl .nil)))) rfl ⟨trivial, rfl⟩ rfl) rfl ?_
     refine WPL.nilW ?_
     refine W.now ?_
     refine Then.n ?_
     refine WP.seq ?_
     refine WP.region ?_
     refine WPL.q (q_mv (v := .lit (.int _ _)) rfl) rfl ?_
     refine WPL.q (q_as (v := .lit (.int _ _)) rfl) rfl ?_
     refine WPL.nilW ?_
     refine W.now ?_
     refine Then.n ?_
     refine WP.region ?_
     refine WPL.q (q_mv (v := .lit (.int _ _)) rfl) rfl ?_
     refine WPL.q (q_mv (v := .lit (.int _ _)) rfl) rfl ?_
     refine WPL.q (q_add rfl rfl) rfl ?_
     refine WPL.q (q_as (v := .lit (.int _ _)) rfl) rfl ?_
     refine WPL.nilW ?_
     exact W.wk [0] hnp (InBlock.n (Then.n ⟨n, (x7880, (IntKind.wrap .i64 (x7880 + 20)), x7891), Nat.lt_succ_self n, H, rfl, rfl⟩)) ⟨rfl, ⟨trivial, .inr ⟨rfl, rfl, rfl⟩⟩, by decide, rfl, ⟨trivial, rfl⟩⟩ (LeE.upd rfl rfl (LeE.upd rfl rfl (LeE.upd rfl rfl (LeE.upd rfl rfl (LeE.upd rfl rfl (LeE.upd rfl rfl (LeE.none rfl rfl))))))) rfl
   replace H := cnf hb7888 H
   refine WP.exitW ?_
   have q0 := (Prod.mk.inj (Option.some.inj H)).1
   have q1 := (Prod.mk.inj (Option.some.inj H)).2
   subst q0
   subst q1
   exact W.wk [0] hnp (Then.x (Then.x ⟨rfl, rfl, rfl⟩)) ⟨rfl, ⟨trivial, .inr ⟨rfl, rfl, rfl⟩⟩, by decide, rfl, ⟨trivial, rfl⟩⟩ (LeE.upd rfl rfl (LeE.upd rfl rfl (LeE.upd rfl rfl (LeE.upd rfl rfl (LeE.upd rfl rfl (LeE.none rfl rfl)))))) rfl
 rintro _ _ _ ⟨rfl, rfl, rfl⟩
 refine W.now ?_
 refine InBlock.x0 ?_
 refine Then.n ?_
 refine WP.seq ?_
 refine WP.region ?_
 refine WPL.q (q_mv (v := .whole _) rfl) rfl ?_
 refine WPL.q (q_mv (v := .lit (.int _ _)) rfl) rfl ?_
 refine WPL.q (q_mv (v := .lit (.int _ _)) rfl) rfl ?_
 refine WPL.q (q_mv (v := .fn _ _) rfl) rfl ?_
 obtain ⟨x7894, h7892, H⟩ := bnd H
 refine WPL.c (runs_call (s := [0]) (t := [0]) (N := 1) (bor := []) fn88 rfl (s_slices_insertionSortCmpFunc_huff_coin k x7886 x5438 x7887 x7894 h7892) ⟨rfl, ⟨trivial, .inr ⟨rfl, rfl, rfl⟩⟩, by decide, rfl, trivial⟩ rfl trivial (.ren rfl rfl (.ren rfl rfl (.ren rfl rfl (.ren rfl rfl .nil)))) rfl ⟨trivial, rfl⟩ rfl) rfl ?_
 refine WPL.nilW ?_
 refine W.now ?_
 refine Then.n ?_
 refine WP.block ?_
 refine WP.cv (Cv.weak (E' := ((((Env.none.upd 0 (.whole 0)).upd 1 (.lit (.int .i64 x5438))).upd 2 (.fn 58 [])).upd 6 (.lit (.int .i64 20)))) (M' := (Mem.nil.push (.row 114 rdS_huff_coin x7894))) [0] hnp ⟨rfl, ⟨trivial, .inr ⟨rfl, rfl, rfl⟩⟩, by decide, rfl, ⟨trivial, rfl⟩⟩ (LeE.upd rfl rfl (LeE.upd rfl rfl (LeE.upd rfl rfl (LeE.upd rfl rfl (LeE.none rfl rfl)))))) ?_
 obtain ⟨x7957, H7992, H⟩ := bnd H
 refine WP.monoW (Q := fun x E M => x = .exit 2 ∧ E = Env.none ∧ M = (Mem.nil.push (.row 114 rdS_huff_coin x7957))) ?_ ?_
 · refine WP.loop (β := Int × (List S_huff_coin)) (fun n b => g_slices_stableCmpFunc_huff_coin_l1 k x5438 n b.1 b.2 = some x7957) (fun b => ((((Env.none.upd 0 (.whole 0)).upd 1 (.lit (.int .i64 x5438))).upd 2 (.fn 58 [])).upd 6 (.lit (.int .i64 b.1)))) (fun b => (Mem.nil.push (.row 114 rdS_huff_coin b.2))) k (20, x7894) H7992 rfl rfl ?_
   rintro n ⟨x7925, x7926⟩ H
   obtain _ | n := n
   · exact nf rfl H
   rw [g_slices_stableCmpFunc_huff_coin_l1.eq_2] at H
   show WP _ _ _ _ ((((Env.none.upd 0 (.whole 0)).upd 1 (.lit (.int .i64 x5438))).upd 2 (.fn 58 [])).upd 6 (.lit (.int .i64 x7925))) (Mem.nil.push (.row 114 rdS_huff_coin x7926)) _
   refine WP.seq ?_
   refine WP.seq ?_
   refine WP.region ?_
   refine WPL.q (q_mv (v := .lit (.int _ _)) rfl) rfl ?_
   refine WPL.q (q_mv (v := .lit (.int _ _)) rfl) rfl ?_
   refine WPL.q (q_lss rfl rfl) rfl ?_
   refine WPL.nilW ?_
   refine W.now ?_
   refine Then.n ?_
   refine WP.cond (t := (decide (x7925 < x5438))) rfl (fun hb7958 => ?_) (fun hb7958 => ?_)
   · replace H := cnt hb7958 H
     refine WP.skipW ?_
     refine W.now ?_
     refine Then.n ?_
     refine WP.block ?_
     refine WP.seq ?_
     refine WP.region ?_
     refine WPL.q (q_mv (v := .lit (.int _ _)) rfl) rfl ?_
     refine WPL.q (q_mul rfl rfl) rfl ?_
     refine WPL.q (q_as (v := .lit (.int _ _)) rfl) rfl ?_
     refine WPL.q (q_as (v := .lit (.int _ _)) rfl) rfl ?_
     refine WPL.nilW ?_
     refine W.now ?_
     refine Then.n ?_
     refine WP.seq ?_
     refine WP.block ?_
     refine WP.cv (Cv.weak (E' := ((((((Env.none.upd 0 (.whole 0)).upd 1 (.lit (.int .i64 x5438))).upd 2 (.fn 58 [])).upd 6 (.lit (.int .i64 x7925))).upd 7 (.lit (.int .i64 0))).upd 8 (.lit (.int .i64 (IntKind.wrap .i64 (2 * x7925)))))) (M' := (Mem.nil.push (.row 114 rdS_huff_coin x7926))) [0] hnp ⟨rfl, ⟨trivial, .inr ⟨rfl, rfl, rfl⟩⟩, by decide, rfl, ⟨trivial, rfl⟩⟩ (LeE.upd rfl rfl (LeE.upd rfl rfl (LeE.upd rfl rfl (LeE.upd rfl rfl (LeE.upd rfl rfl (LeE.upd rfl rfl (LeE.none rfl rfl)))))))) ?_
     obtain ⟨⟨x7975, x7976⟩, H7981, H⟩ := bnd H
     refine WP.monoW (Q := fun x E M => x = .exit 4 ∧ E = (((((Env.none.upd 0 (.whole 0)).upd 1 (.lit (.int .i64 x5438))).upd 2 (.fn 58 [])).upd 6 (.lit (.int .i64 x7925))).upd 7 (.lit (.int .i64 x7975))) ∧ M = (Mem.nil.push (.row 114 rdS_huff_coin x7976))) ?_ ?_
     · refine WP.loop (β := Int × Int × (List S_huff_coin)) (fun n b => g_slices_stableCmpFunc_huff_coin_l2 k x5438 x7925 n b.1 b.2.1 b.2.2 = some (x7975, x7976)) (fun b => ((((((Env.none.upd 0 (.whole 0)).upd 1 (.lit (.int .i64 x5438))).upd 2 (.fn 58 [])).upd 6 (.lit (.int .i64 x7925))).upd 7 (.lit (.int .i64 b.1))).upd 8 (.lit (.int .i64 b.2.1)))) (fun b => (Mem.nil.push (.row 114 rdS_huff_coin b.2.2))) k (0, (IntKind.wrap .i64 (2 * x7925)), x7926) H7981 rfl rfl ?_
       rintro n ⟨x7967, x7968, x7969⟩ H
       obtain _ | n := n
       · exact nf rfl H
       rw [g_slices_stableCmpFunc_huff_coin_l2.eq_2] at H
       show WP _ _ _ _ ((((((Env.none.upd 0 (.whole 0)).upd 1 (.lit (.int .i64 x5438))).upd 2 (.fn 58 [])).upd 6 (.lit (.int .i64 x7925))).upd 7 (.lit (.int .i64 x7967))).upd 8 (.lit (.int .i64 x7968))) (Mem.nil.push (.row 114 rdS_huff_coin x7969)) _
       refine WP.seq ?_
       refine WP.seq ?_
       refine WP.region ?_
       refine WPL.q (q_mv (v := .lit (.int _ _)) rfl) rfl ?_
       refine WPL.q (q_mv (v := .lit (.int _ _)) rfl) rfl ?_
       refine WPL.q (q_leq rfl rfl) rfl ?_
       refine WPL.nilW ?_
       refine W.now ?_
       refine Then.n ?_
       refine WP.cond (t := (decide (x7968 ≤ x5438))) rfl (fun hb7977 => ?_) (fun hb7977 => ?_)
       · replace H := cnt hb7977 H
         refine WP.skipW ?_
         refine W.now ?_
         refine Then.n ?_
         refine WP.block ?_
         refine WP.seq ?_
         refine WP.region ?_
         refine WPL.q (q_mv (v := .whole _) rfl) rfl ?_
         refine WPL.q (q_mv (v := .lit (.int _ _)) rfl) rfl ?_
         refine WPL.q (q_mv (v := .lit (.int _ _)) rfl) rfl ?_
         refine WPL.q (q_mv (v := .lit (.int _ _)) rfl) rfl ?_
         refine WPL.q (q_add rfl rfl) rfl ?_
         refine WPL.q (q_mv (v := .lit (.int _ _)) rfl) rfl ?_
         refine WPL.q (q_mv (v := .fn _ _) rfl) rfl ?_
         obtain ⟨x7980, h7978, H⟩ := bnd H
         refine WPL.c (runs_call (s := [0]) (t := [0]) (N := 1) (bor := []) fn89 rfl (s_slices_symMergeCmpFunc_huff_coin k x7967 (IntKind.wrap .i64 (x7967 + x7925)) x7968 x7969 x7980 h7978) ⟨rfl, ⟨trivial, .inr ⟨rfl, rfl, rfl⟩⟩, by decide, rfl, trivial⟩ rfl trivial (.ren rfl rfl (.ren rfl rfl (.ren rfl rfl (.ren rfl rfl (.ren rfl rfl .nil))))) rfl ⟨trivial, rfl⟩ rfl) rfl ?_
         refine WPL.nilW ?_
         refine W.now ?_
         refine Then.n ?_
         refine WP.seq ?_
         refine WP.region ?_
         refine WPL.q (q_mv (v := .lit (.int _ _)) rfl) rfl ?_
         refine WPL.q (q_as (v := .lit (.int _ _)) rfl) rfl ?_
         refine WPL.nilW ?_
         refine W.now ?_
         refine Then.n ?_
         refine WP.region ?_
         refine WPL.q (q_mv (v := .lit (.int _ _)) rfl) rfl ?_
         refine WPL.q (q_mv (v := .lit (.int _ _)) rfl) rfl ?_
         refine WPL.q (q_mul rfl rfl) rfl ?_
         obtain ⟨x7981, h7981, H⟩ := bnd H
         refine WPL.q (q_nm (q_add rfl rfl) (nm_int h7981)) rfl ?_
         refine WPL.q (q_as (v := .lit (.int _ _)) rfl) rfl ?_
         refine WPL.nilW ?_
         exact W.wk [0] hnp (InBlock.n (Then.n ⟨n, (x7968, x7981, x7980), Nat.lt_succ_self n, H, rfl, rfl⟩)) ⟨rfl, ⟨trivial, .inr ⟨rfl, rfl, rfl⟩⟩, by decide, rfl, ⟨trivial, rfl⟩⟩ (LeE.upd rfl rfl (LeE.upd rfl rfl (LeE.upd rfl rfl (LeE.upd rfl rfl (LeE.upd rfl rfl (LeE.upd rfl rfl (LeE.none rfl rfl))))))) rfl
       replace H := cnf hb7977 H
       refine WP.exitW ?_
       have q0 := (Prod.mk.inj (Option.some.inj H)).1
       have q1 := (Prod.mk.inj (Option.some.inj H)).2
       subst q0
       subst q1
       exact W.wk [0] hnp (Then.x (Then.x ⟨rfl, rfl, rfl⟩)) ⟨rfl, ⟨trivial, .inr ⟨rfl, rfl, rfl⟩⟩, by decide, rfl, ⟨trivial, rfl⟩⟩ (LeE.upd rfl rfl (LeE.upd rfl rfl (LeE.upd rfl rfl (LeE.upd rfl rfl (LeE.upd rfl rfl (LeE.none rfl rfl)))))) rfl
     rintro _ _ _ ⟨rfl, rfl, rfl⟩
     refine W.now ?_
     refine InBlock.x0 ?_
     refine Then.n ?_
     refine WP.seq ?_
     obtain ⟨x7987, H7991, H⟩ := bnd H
     refine WP.monoW (Q := fun x E M => x = .normal ∧ E = ((((Env.none.upd 0 (.whole 0)).upd 1 (.lit (.int .i64 x5438))).upd 2 (.fn 58 [])).upd 6 (.lit (.int .i64 x7925))) ∧ M = (Mem.nil.push (.row 114 rdS_huff_coin x7987))) ?_ ?_
     · clear H
       have H := H7991
       clear H7991
       refine WP.seq ?_
       refine WP.region ?_
       refine WPL.q (q_mv (v := .lit (.int _ _)) rfl) rfl ?_
       refine WPL.q (q_mv (v := .lit (.int _ _)) rfl) rfl ?_
       refine WPL.q (q_add rfl rfl) rfl ?_
       refine WPL.q (q_as (v := .lit (.int _ _)) rfl) rfl ?_
       refine WPL.nilW ?_
       refine W.now ?_
       refine Then.n ?_
       refine WP.seq ?_
       refine WP.region ?_
       refine WPL.q (q_mv (v := .lit (.int _ _)) rfl) rfl ?_
       refine WPL.q (q_mv (v := .lit (.int _ _)) rfl) rfl ?_
       obtain ⟨x7988, h7988, H⟩ := bnd H
       refine WPL.q (q_nm (q_lss rfl rfl) (nm_bool h7988)) rfl ?_
       refine WPL.nilW ?_
       refine W.now ?_
       refine Then.n ?_
       refine WP.cond (t := x7988) rfl (fun hb7988 => ?_) (fun hb7988 => ?_)
       · replace H := cnt hb7988 H
         refine WP.region ?_
         refine WPL.q (q_mv (v := .whole _) rfl) rfl ?_
         refine WPL.q (q_mv (v := .lit (.int _ _)) rfl) rfl ?_
         refine WPL.q (q_mv (v := .lit (.int _ _)) rfl) rfl ?_
         refine WPL.q (q_mv (v := .lit (.int _ _)) rfl) rfl ?_
         refine WPL.q (q_mv (v := .fn _ _) rfl) rfl ?_
         obtain ⟨x7991, h7989, H⟩ := bnd H
         refine WPL.c (runs_call (s := [0]) (t := [0]) (N := 1) (bor := []) fn89 rfl (s_slices_symMergeCmpFunc_huff_coin k x7975 (IntKind.wrap .i64 (x7975 + x7925)) x5438 x7976 x7991 h7989) ⟨rfl, ⟨trivial, .inr ⟨rfl, rfl, rfl⟩⟩, by decide, rfl, trivial⟩ rfl trivial (.ren rfl rfl (.ren rfl rfl (.ren rfl rfl (.ren rfl rfl (.ren rfl rfl .nil))))) rfl ⟨trivial, rfl⟩ rfl) rfl ?_
         refine WPL.nilW ?_
         have q0 := (Option.some.inj H)
         subst q0
         exact W.wk [0] hnp ⟨rfl, rfl, rfl⟩ ⟨rfl, ⟨trivial, .inr ⟨rfl, rfl, rfl⟩⟩, by decide, rfl, ⟨trivial, rfl⟩⟩ (LeE.upd rfl rfl (LeE.upd rfl rfl (LeE.upd rfl rfl (LeE.upd rfl rfl (LeE.none rfl rfl))))) rfl
       replace H := cnf hb7988 H
       refine WP.skipW ?_
       have q0 := (Option.some.inj H)
       subst q0
       exact W.wk [0] hnp ⟨rfl, rfl, rfl⟩ ⟨rfl, ⟨trivial, .inr ⟨rfl, rfl, rfl⟩⟩, by decide, rfl, ⟨trivial, rfl⟩⟩ (LeE.upd rfl rfl (LeE.upd rfl rfl (LeE.upd rfl rfl (LeE.upd rfl rfl (LeE.none rfl rfl))))) rfl
     rintro _ _ _ ⟨rfl, rfl, rfl⟩
     refine W.now ?_
     refine Then.n ?_
     refine WP.region ?_
     refine WPL.q (q_mv (v := .lit (.int _ _)) rfl) rfl ?_
     refine WPL.q (q_mul rfl rfl) rfl ?_
     refine WPL.q (q_as (v := .lit (.int _ _)) rfl) rfl ?_
     refine WPL.nilW ?_
     exact W.wk [0] hnp (InBlock.n (Then.n ⟨n, ((IntKind.wrap .i64 (x7925 * 2)), x7987), Nat.lt_succ_self n, H, rfl, rfl⟩)) ⟨rfl, ⟨trivial, .inr ⟨rfl, rfl, rfl⟩⟩, by decide, rfl, ⟨trivial, rfl⟩⟩ (LeE.upd rfl rfl (LeE.upd rfl rfl (LeE.upd rfl rfl (LeE.upd rfl rfl (LeE.none rfl rfl))))) rfl
   replace H := cnf hb7958 H
   refine WP.exitW ?_
   have q0 := (Option.some.inj H)
   subst q0
   exact W.wk [0] hnp (Then.x (Then.x ⟨rfl, rfl, rfl⟩)) ⟨rfl, ⟨trivial, .inr ⟨rfl, rfl, rfl⟩⟩, by decide, rfl, ⟨trivial, rfl⟩⟩ (LeE.none rfl rfl) rfl
 rintro _ _ _ ⟨rfl, rfl, rfl⟩
 have q0 := (Option.some.inj H)
 subst q0
 exact W.now (InBlock.x0 (BodyR.mkN trivial rfl [0] ⟨rfl, rfl⟩ ⟨rfl, ⟨trivial, .inr ⟨rfl, rfl, rfl⟩⟩, by decide, rfl, ⟨trivial, rfl⟩⟩ rfl rfl))
set_option maxRecDepth 100000 in
set_option maxHeartbeats 4000000 in
theorem s_slices_SortStableFunc_huff_coin_huff_coin (k : Nat) (x5436 : (List S_huff_coin)) (x7996 : (List S_huff_coin)) (H : g_slices_SortStableFunc_huff_coin_huff_coin k x5436 = some x7996) : Go.Q.Spec Try.prog 60 1 [.whole 0, .fn 58 []] (Mem.nil.push (.row 114 rdS_huff_coin x5436)) (fun o M => o = .ret (.tup []) ∧ M = (Mem.nil.push (.row 114 rdS_huff_coin x7996))) := by
 unfold g_slices_SortStableFunc_huff_coin_huff_coin at H
 refine Go.Q.Spec.of_bodyR (az := []) (rs := []) (nt := 9) Try.func60 rfl rfl (by intro t T h; simp at h) rfl rfl fun cx hnp => ?_
 refine WP.region ?_
 refine WPL.q (q_mv (v := .whole _) rfl) rfl ?_
 refine WPL.q (q_mv (v := .whole _) rfl) rfl ?_
 refine WPL.q (q_len_row sl112 rfl rfl) rfl ?_
 refine WPL.q (q_mv (v := .fn _ _) rfl) rfl ?_
 obtain ⟨x7998, h7996, H⟩ := bnd H
 refine WPL.c (runs_call (s := [0]) (t := [0]) (N := 1) (bor := []) fn80 rfl (s_slices_stableCmpFunc_huff_coin k ((List.length x5436 : Nat) : Int) x5436 x7998 h7996) ⟨rfl, ⟨trivial, .inr ⟨rfl, rfl, rfl⟩⟩, by decide, rfl, trivial⟩ rfl trivial (.ren rfl rfl (.ren rfl rfl (.ren rfl rfl .nil))) rfl ⟨trivial, rfl⟩ rfl) rfl ?_
 refine WPL.nilW ?_
 have q0 := (Option.some.inj H)
 subst q0
 exact W.now (BodyR.mkN trivial rfl [0] ⟨rfl, rfl⟩ ⟨rfl, ⟨trivial, .inr ⟨rfl, rfl, rfl⟩⟩, by decide, rfl, ⟨trivial, rfl⟩⟩ rfl rfl)
set_option maxRecDepth 100000 in
set_option maxHeartbeats 4000000 in
theorem s_slices_Clone_huff_coin_huff_coin (k : Nat) (x8003 : List S_huff_coin) (x8004 : List S_huff_coin) (H : g_slices_Clone_huff_coin_huff_coin k x8003 = some x8004) : Go.Q.Spec Try.prog 61 1 [.whole 0] (Mem.nil.push (.row 114 rdS_huff_coin x8003)) (fun o M => o = .ret (.whole 1) ∧ M = ((Mem.nil.push (.row 114 rdS_huff_coin x8003)).push (.row 114 rdS_huff_coin x8004))) := by
  unfold g_slices_Clone_huff_coin_huff_coin at H
  obtain ⟨h, H⟩ := grd H
  have q0 := Option.some.inj H
  subst q0
  refine Go.Q.Spec.of_bodyR (az := []) (rs := [.tmp 2]) (nt := 8) Try.func61 rfl rfl (by intro t T h; simp at h) rfl rfl fun cx hnp => ?_
  refine WP.seq ?_
  refine WP.region ?_
  refine WPL.q (q_as (v := .lit _) rfl) rfl ?_
  refine WPL.nilW ?_
  refine W.now ?_
  refine Then.n ?_
  refine WP.seq ?_
  refine WP.seq ?_
  refine WP.region ?_
  refine WPL.q (q_mv (v := .whole _) rfl) rfl ?_
  refine WPL.eqlNilW Try.underlying112 rfl rfl rfl fun nb hnb => ?_
  refine WPL.nilW ?_
  refine W.now ?_
  refine Then.n ?_
  refine WP.cond (t := nb) rfl (fun hb => ?_) (fun hb => ?_)
  · have h0 := hnb hb
    subst h0
    refine WP.seq ?_
    refine WP.region ?_
    refine WPL.q (q_as (v := .lit _) rfl) rfl ?_
    refine WPL.nilW ?_
    refine W.now ?_
    refine Then.n ?_
    refine WP.retW ?_
    refine W.cv (Cv.vir 114 rdS_huff_coin (N := 1) rfl 2 rfl) rfl ?_
    refine W.now ?_
    refine Then.r ?_
    exact ⟨trivial, _, rfl, [0, 1], (.whole 1), ((Mem.nil.push (.row 114 rdS_huff_coin ([] : List S_huff_coin))).push (.row 114 rdS_huff_coin ([] : List S_huff_coin))), ⟨rfl, ⟨⟨trivial, .inr ⟨rfl, rfl, rfl⟩⟩, .inr ⟨rfl, rfl, rfl⟩⟩, by decide, rfl, ⟨trivial, rfl⟩⟩, rfl, rfl, rfl, rfl⟩
  · refine WP.skipW ?_
    refine W.now ?_
    refine Then.n ?_
    refine WP.seq ?_
    refine WP.region ?_
    refine WPL.d (d_buildSlice (ds := ([] : List S_huff_coin)) (R := rdS_huff_coin) li112 rfl rfl rfl rfl rfl JoinRows.nil rfl rfl) rfl ?_
    refine WPL.q (q_mv (v := .whole _) rfl) rfl ?_
    refine WPL.d (d_append ap112 rfl rfl rfl rfl (src_row sl112 rfl rfl) h rfl) rfl ?_
    refine WPL.q (q_as (v := .whole _) rfl) rfl ?_
    refine WPL.nilW ?_
    refine W.now ?_
    refine Then.n ?_
    refine WP.retW ?_
    refine W.now ?_
    exact ⟨trivial, _, rfl, [0, 2], (.whole 1), ((Mem.nil.push (.row 114 rdS_huff_coin x8003)).push (.row 114 rdS_huff_coin x8003)), ⟨rfl, ⟨⟨trivial, .inr ⟨rfl, rfl, rfl⟩⟩, .inr ⟨rfl, rfl, rfl⟩⟩, by decide, rfl, ⟨trivial, rfl⟩⟩, rfl, rfl, rfl, rfl⟩
set_option maxRecDepth 100000 in
set_option maxHeartbeats 4000000 in
theorem s_slices_Grow_int_int (k : Nat) (x8056 : Int) (r : (Unit ⊕ (List Int))) (H : g_slices_Grow_int_int k x8056 = some r) : Go.Q.Spec Try.prog 64 0 [.lit (.slice none 0 0), .lit (.int .i64 x8056)] Mem.nil (fun o M => match (generalizing := false) r with | (Sum.inl _) => o = .pan (.ifc 9 (.lit (.string (ByteArray.mk #[99, 97, 110, 110, 111, 116, 32, 98, 101, 32, 110, 101, 103, 97, 116, 105, 118, 101])))) ∧ M = Mem.nil | (Sum.inr x8070) => o = .ret (.whole 0) ∧ M = (Mem.nil.push (.row 3 (Rd.int .i64) x8070))) := by
 unfold g_slices_Grow_int_int at H
 refine Go.Q.Spec.of_bodyR (az := []) (rs := [.tmp 4]) (nt := 27) Try.func64 rfl rfl (by intro t T h; simp at h) rfl rfl fun cx hnp => ?_
 refine WP.seq ?_
 refine WP.region ?_
 refine WPL.q (q_as (v := .lit _) rfl) rfl ?_
 refine WPL.nilW ?_
 refine W.now ?_
 refine Then.n ?_
 refine WP.seq ?_
 refine WP.seq ?_
 refine WP.region ?_
 refine WPL.q (q_mv (v := .lit (.int _ _)) rfl) rfl ?_
 refine WPL.q (q_lss rfl rfl) rfl ?_
 refine WPL.nilW ?_
 refine W.now ?_
 refine Then.n ?_
 refine WP.cond (t := (decide (x8056 < 0))) rfl (fun hb8071 => ?_) (fun hb8071 => ?_)
 · replace H := cnt hb8071 H
   refine WP.region ?_
   refine WPL.q (q_mki cn9) rfl ?_
   refine WPL.pW (runs_panic rfl) ?_
   have q0 := Option.some.inj H
   subst q0
   exact W.now (Then.p (BodyR.mkP trivial [] ⟨rfl, rfl⟩ ⟨rfl, trivial, by decide, rfl, trivial⟩ rfl rfl))
 replace H := cnf hb8071 H
 refine WP.skipW ?_
 refine W.now ?_
 refine Then.n ?_
 refine WP.seq ?_
 obtain ⟨x8077, H8081, H⟩ := bnd H
 refine WP.monoW (Q := fun x E M => x = .normal ∧ E = (Env.none.upd 0 (.whole 0)) ∧ M = (Mem.nil.push (.row 3 (Rd.int .i64) x8077))) ?_ ?_
 · clear H
   have H := H8081
   clear H8081
   refine WP.seq ?_
   refine WP.region ?_
   refine WPL.q (q_mv (v := .lit (.int _ _)) rfl) rfl ?_
   refine WPL.q (q_mv (v := .lit _) rfl) rfl ?_
   refine WPL.q (q_cap_nil Try.underlying66 rfl) rfl ?_
   refine WPL.q (q_mv (v := .lit _) rfl) rfl ?_
   refine WPL.q (q_len_nil sl66 rfl) rfl ?_
   refine WPL.q (q_sub rfl rfl) rfl ?_
   obtain ⟨x8078, h8078, H⟩ := bnd H
   refine WPL.q (q_nm (q_sub rfl rfl) (nm_int h8078)) rfl ?_
   refine WPL.q (q_as (v := .lit (.int _ _)) rfl) rfl ?_
   refine WPL.nilW ?_
   refine W.now ?_
   refine Then.n ?_
   refine WP.seq ?_
   refine WP.region ?_
   refine WPL.q (q_mv (v := .lit (.int _ _)) rfl) rfl ?_
   refine WPL.q (q_gtr rfl rfl) rfl ?_
   refine WPL.nilW ?_
   refine W.now ?_
   refine Then.n ?_
   refine WP.cond (t := (decide (0 < x8078))) rfl (fun hb8078 => ?_) (fun hb8078 => ?_)
   · replace H := cnt hb8078 H
     refine WP.region ?_
     refine WPL.q (q_mv (v := .lit _) rfl) rfl ?_
     refine WPL.q (q_mv (v := .lit _) rfl) rfl ?_
     refine WPL.q (q_cap_nil Try.underlying66 rfl) rfl ?_
     refine WPL.q (q_slice_nil sl66 rfl rfl) rfl ?_
     refine WPL.q (q_mv (v := .lit (.int _ _)) rfl) rfl ?_
     obtain ⟨h8079, H⟩ := grd H
     refine WPL.d (d_appendMakeNil (d := (0 : Int)) (R := (Rd.int .i64)) li66 by3 Try.underlying3 rfl rfl rfl rfl Joins.sc rfl rfl h8079 rfl) rfl ?_
     refine WPL.q (q_mv (v := .lit _) rfl) rfl ?_
     refine WPL.q (q_len_nil sl66 rfl) rfl ?_
     obtain ⟨h8080, H⟩ := grd H
     refine WPL.d (d_cut sl66 rfl rfl rfl h8080 rfl) rfl ?_
     refine WPL.q (q_as (v := .whole _) rfl) rfl ?_
     refine WPL.nilW ?_
     have q0 := (Option.some.inj H)
     subst q0
     exact W.wk [1] hnp ⟨rfl, rfl, rfl⟩ ⟨rfl, ⟨trivial, .inr ⟨rfl, rfl, rfl⟩⟩, by decide, rfl, trivial⟩ (LeE.upd rfl rfl (LeE.none rfl rfl)) rfl
   replace H := cnf hb8078 H
   refine WP.skipW ?_
   refine W.cv (Cv.vir 3 (Rd.int .i64) (N := 0) rfl 0 rfl) rfl ?_
   have q0 := (Option.some.inj H)
   subst q0
   exact W.wk [0] hnp ⟨rfl, rfl, rfl⟩ ⟨rfl, ⟨trivial, .inr ⟨rfl, rfl, rfl⟩⟩, by decide, rfl, trivial⟩ (LeE.upd rfl rfl (LeE.none rfl rfl)) rfl
 rintro _ _ _ ⟨rfl, rfl, rfl⟩
 refine W.now ?_
 refine Then.n ?_
 refine WP.seq ?_
 refine WP.region ?_
 refine WPL.q (q_mv (v := .whole _) rfl) rfl ?_
 refine WPL.q (q_as (v := .whole _) rfl) rfl ?_
 refine WPL.nilW ?_
 refine W.now ?_
 refine Then.n ?_
 refine WP.retW ?_
 have q0 := Option.some.inj H
 subst q0
 exact W.now (BodyR.mkR trivial rfl [0] ⟨rfl, rfl⟩ ⟨rfl, ⟨trivial, .inr ⟨rfl, rfl, rfl⟩⟩, by decide, rfl, trivial⟩ rfl rfl)
set_option maxRecDepth 100000 in
set_option maxHeartbeats 4000000 in
theorem s_slices_Concat_int_int (k : Nat) (x8031 : (List (List Int))) (r : (ByteArray ⊕ (List Int))) (H : g_slices_Concat_int_int k x8031 = some r) : Go.Q.Spec Try.prog 37 1 [.whole 0] (Mem.nil.push (.row 66 (Rd.slice (Rd.int .i64)) x8031)) (fun o M => match (generalizing := false) r with | (Sum.inl x8100) => o = .pan (.ifc 9 (.lit (.string x8100))) ∧ M = (Mem.nil.push (.gone)) | (Sum.inr x8101) => o = .ret (.ro (Rd.slice (Rd.int .i64)) false x8101) ∧ M = (Mem.nil.push (.row 66 (Rd.slice (Rd.int .i64)) x8031))) := by
 unfold g_slices_Concat_int_int at H
 refine Go.Q.Spec.of_bodyR (az := []) (rs := [.tmp 2]) (nt := 36) Try.func37 rfl rfl (by intro t T h; simp at h) rfl rfl fun cx hnp => ?_
 refine WP.seq ?_
 refine WP.region ?_
 refine WPL.q (q_as (v := .lit _) rfl) rfl ?_
 refine WPL.nilW ?_
 refine W.now ?_
 refine Then.n ?_
 refine WP.seq ?_
 refine WP.region ?_
 refine WPL.q (q_as (v := .lit (.int _ _)) rfl) rfl ?_
 refine WPL.nilW ?_
 refine W.now ?_
 refine Then.n ?_
 refine WP.seq ?_
 refine WP.seq ?_
 refine WP.region ?_
 refine WPL.q (q_mv (v := .whole _) rfl) rfl ?_
 refine WPL.q (q_len_row sl120 rfl rfl) rfl ?_
 refine WPL.q (q_mv (v := .lit (.int _ _)) rfl) rfl ?_
 refine WPL.nilW ?_
 refine W.now ?_
 refine Then.n ?_
 refine WP.block ?_
 refine WP.cv (Cv.weak (E' := (((((Env.none.upd 0 (.whole 0)).upd 3 (.lit (.int .i64 0))).upd 9 (.whole 0)).upd 10 (.lit (.int .i64 ((List.length x8031 : Nat) : Int)))).upd 11 (.lit (.int .i64 0)))) (M' := (Mem.nil.push (.row 66 (Rd.slice (Rd.int .i64)) x8031))) [0] hnp ⟨rfl, ⟨trivial, .inr ⟨rfl, rfl, rfl⟩⟩, by decide, rfl, ⟨trivial, rfl⟩⟩ (LeE.upd rfl rfl (LeE.upd rfl rfl (LeE.upd rfl rfl (LeE.upd rfl rfl (LeE.upd rfl rfl (LeE.none rfl rfl))))))) ?_
 obtain ⟨y8133, H8131, H⟩ := bnd H
 refine WP.monoW (Q := fun x E M => match (generalizing := false) y8133 with | (Sum.inl _) => x = .panic (.ifc 9 (.lit (.string (ByteArray.mk #[108, 101, 110, 32, 111, 117, 116, 32, 111, 102, 32, 114, 97, 110, 103, 101])))) ∧ E = Env.none ∧ M = (Mem.nil.push (.row 66 (Rd.slice (Rd.int .i64)) x8031)) | (Sum.inr x8122) => x = .exit 0 ∧ E = ((Env.none.upd 0 (.whole 0)).upd 3 (.lit (.int .i64 x8122))) ∧ M = (Mem.nil.push (.row 66 (Rd.slice (Rd.int .i64)) x8031))) ?_ ?_
 · refine WP.loop (β := Int × Int) (fun n b => g_slices_Concat_int_int_l0 k x8031 n b.1 b.2 = some y8133) (fun b => (((((Env.none.upd 0 (.whole 0)).upd 3 (.lit (.int .i64 b.1))).upd 9 (.whole 0)).upd 10 (.lit (.int .i64 ((List.length x8031 : Nat) : Int)))).upd 11 (.lit (.int .i64 b.2)))) (fun b => (Mem.nil.push (.row 66 (Rd.slice (Rd.int .i64)) x8031))) k (0, 0) H8131 rfl rfl ?_
   rintro n ⟨x8111, x8112⟩ H
   obtain _ | n := n
   · exact nf rfl H
   rw [g_slices_Concat_int_int_l0.eq_2] at H
   show WP _ _ _ _ (((((Env.none.upd 0 (.whole 0)).upd 3 (.lit (.int .i64 x8111))).upd 9 (.whole 0)).upd 10 (.lit (.int .i64 ((List.length x8031 : Nat) : Int)))).upd 11 (.lit (.int .i64 x8112))) (Mem.nil.push (.row 66 (Rd.slice (Rd.int .i64)) x8031)) _
   refine WP.seq ?_
   refine WP.region ?_
   obtain ⟨x8123, h8123, H⟩ := bnd H
   refine WPL.q (q_nm (q_lss rfl rfl) (nm_bool h8123)) rfl ?_
   refine WPL.nilW ?_
   refine W.now ?_
   refine Then.n ?_
   refine WP.seq ?_
   refine WP.cond (t := x8123) rfl (fun hb8124 => ?_) (fun hb8124 => ?_)
   · replace H := cnt hb8124 H
     refine WP.skipW ?_
     refine W.now ?_
     refine Then.n ?_
     refine WP.seq ?_
     refine WP.block ?_
     refine WP.seq ?_
     refine WP.region ?_
     obtain ⟨x8129, h8129, H⟩ := bnd H
     refine WPL.q (q_index_row sl120 rfl rfl rfl (ixs h8129)) rfl ?_
     refine WPL.q (q_load_rowr (j := (Int.toNat x8112)) (n := 1) (off := 0) (d := x8129) sc66 rfl rfl (ixj h8129) rfl PartIs.self rfl) rfl ?_
     refine WPL.q (q_as (v := .ro _ _ _) rfl) rfl ?_
     refine WPL.nilW ?_
     refine W.now ?_
     refine Then.n ?_
     refine WP.seq ?_
     refine WP.region ?_
     refine WPL.q (q_mv (v := .lit (.int _ _)) rfl) rfl ?_
     refine WPL.q (q_mv (v := .ro _ _ _) rfl) rfl ?_
     refine WPL.q (q_len_ro sl66 rfl) rfl ?_
     obtain ⟨x8130, h8130, H⟩ := bnd H
     refine WPL.q (q_nm (q_add rfl rfl) (nm_int h8130)) rfl ?_
     refine WPL.q (q_as (v := .lit (.int _ _)) rfl) rfl ?_
     refine WPL.nilW ?_
     refine W.now ?_
     refine Then.n ?_
     refine WP.seq ?_
     refine WP.region ?_
     refine WPL.q (q_mv (v := .lit (.int _ _)) rfl) rfl ?_
     refine WPL.q (q_lss rfl rfl) rfl ?_
     refine WPL.nilW ?_
     refine W.now ?_
     refine Then.n ?_
     refine WP.cond (t := (decide (x8130 < 0))) rfl (fun hb8130 => ?_) (fun hb8130 => ?_)
     · replace H := cnt hb8130 H
       refine WP.region ?_
       refine WPL.q (q_mki cn9) rfl ?_
       refine WPL.pW (runs_panic rfl) ?_
       have q0 := Option.some.inj H
       subst q0
       exact W.wkP [0] hnp (InBlock.p (Then.p (Then.p ⟨rfl, rfl, rfl⟩))) ⟨rfl, ⟨trivial, .inr ⟨rfl, rfl, rfl⟩⟩, by decide, rfl, ⟨trivial, rfl⟩⟩ (LeE.none rfl rfl) rfl rfl
     replace H := cnf hb8130 H
     refine WP.skipW ?_
     refine W.now ?_
     refine InBlock.n ?_
     refine Then.n ?_
     refine WP.region ?_
     refine WPL.q (q_add rfl rfl) rfl ?_
     refine WPL.q (q_mv (v := .lit (.int _ _)) rfl) rfl ?_
     refine WPL.nilW ?_
     exact W.wk [0] hnp (Then.n ⟨n, (x8130, (IntKind.wrap .i64 (x8112 + 1))), Nat.lt_succ_self n, H, rfl, rfl⟩) ⟨rfl, ⟨trivial, .inr ⟨rfl, rfl, rfl⟩⟩, by decide, rfl, ⟨trivial, rfl⟩⟩ (LeE.upd rfl rfl (LeE.upd rfl rfl (LeE.upd rfl rfl (LeE.upd rfl rfl (LeE.upd rfl rfl (LeE.none rfl rfl)))))) rfl
   replace H := cnf hb8124 H
   refine WP.exitW ?_
   have q0 := Option.some.inj H
   subst q0
   exact W.wk [0] hnp (Then.x (Then.x ⟨rfl, rfl, rfl⟩)) ⟨rfl, ⟨trivial, .inr ⟨rfl, rfl, rfl⟩⟩, by decide, rfl, ⟨trivial, rfl⟩⟩ (LeE.upd rfl rfl (LeE.upd rfl rfl (LeE.none rfl rfl))) rfl
 rcases y8133 with _ | x8122
 · rintro _ _ _ ⟨rfl, rfl, rfl⟩
   have q0 := Option.some.inj H
   subst q0
   exact W.now (InBlock.p (Then.p (BodyR.mkP trivial [0] ⟨rfl, rfl⟩ ⟨rfl, ⟨trivial, .inl rfl⟩, by decide, rfl, ⟨trivial, rfl⟩⟩ rfl rfl)))
 rintro _ _ _ ⟨rfl, rfl, rfl⟩
 refine W.now ?_
 refine InBlock.x0 ?_
 refine Then.n ?_
 refine WP.seq ?_
 refine WP.region ?_
 refine WPL.q (q_mv (v := .lit (.int _ _)) rfl) rfl ?_
 obtain ⟨y8136, h8133, H⟩ := bnd H
 rcases y8136 with _ | x8135
 · refine WPL.pW (runs_callP (s := []) (t := []) (N := 1) (bor := []) fn64 rfl (s_slices_Grow_int_int k x8122 (Sum.inl ()) h8133) ⟨rfl, trivial, by decide, rfl, trivial⟩ rfl trivial (.ren rfl rfl (.ren rfl rfl .nil)) rfl trivial rfl) ?_
   have q0 := Option.some.inj H
   subst q0
   exact W.now (Then.p (BodyR.mkP trivial [0] ⟨rfl, rfl⟩ ⟨rfl, ⟨trivial, .inl rfl⟩, by decide, rfl, ⟨trivial, rfl⟩⟩ rfl rfl))
 refine WPL.c (runs_call (s := []) (t := [1]) (N := 2) (bor := []) fn64 rfl (s_slices_Grow_int_int k x8122 (Sum.inr x8135) h8133) ⟨rfl, trivial, by decide, rfl, trivial⟩ rfl trivial (.ren rfl rfl (.ren rfl rfl .nil)) rfl ⟨trivial, rfl⟩ rfl) rfl ?_
 refine WPL.q (q_as (v := .whole _) rfl) rfl ?_
 refine WPL.nilW ?_
 refine W.now ?_
 refine Then.n ?_
 refine WP.seq ?_
 refine WP.seq ?_
 refine WP.region ?_
 refine WPL.q (q_mv (v := .whole _) rfl) rfl ?_
 refine WPL.q (q_len_row sl120 rfl rfl) rfl ?_
 refine WPL.q (q_mv (v := .lit (.int _ _)) rfl) rfl ?_
 refine WPL.nilW ?_
 refine W.now ?_
 refine Then.n ?_
 refine WP.block ?_
 refine WP.cv (Cv.weak (E' := ((((Env.none.upd 6 (.whole 1)).upd 25 (.whole 0)).upd 26 (.lit (.int .i64 ((List.length x8031 : Nat) : Int)))).upd 27 (.lit (.int .i64 0)))) (M' := ((Mem.nil.push (.row 66 (Rd.slice (Rd.int .i64)) x8031)).push (.row 3 (Rd.int .i64) x8135))) [0, 1] hnp ⟨rfl, ⟨⟨trivial, .inr ⟨rfl, rfl, rfl⟩⟩, .inr ⟨rfl, rfl, rfl⟩⟩, by decide, rfl, ⟨trivial, rfl⟩⟩ (LeE.upd rfl rfl (LeE.upd rfl rfl (LeE.upd rfl rfl (LeE.upd rfl rfl (LeE.none rfl rfl)))))) ?_
 obtain ⟨x8149, H8154, H⟩ := bnd H
 refine WP.monoW (Q := fun x E M => x = .exit 2 ∧ E = (Env.none.upd 6 (.whole 1)) ∧ M = ((Mem.nil.push (.row 66 (Rd.slice (Rd.int .i64)) x8031)).push (.row 3 (Rd.int .i64) x8149))) ?_ ?_
 · refine WP.loop (β := Int × (List Int)) (fun n b => g_slices_Concat_int_int_l1 k x8031 n b.1 b.2 = some x8149) (fun b => ((((Env.none.upd 6 (.whole 1)).upd 25 (.whole 0)).upd 26 (.lit (.int .i64 ((List.length x8031 : Nat) : Int)))).upd 27 (.lit (.int .i64 b.1)))) (fun b => ((Mem.nil.push (.row 66 (Rd.slice (Rd.int .i64)) x8031)).push (.row 3 (Rd.int .i64) b.2))) k (0, x8135) H8154 rfl rfl ?_
   rintro n ⟨x8142, x8143⟩ H
   obtain _ | n := n
   · exact nf rfl H
   rw [g_slices_Concat_int_int_l1.eq_2] at H
   show WP _ _ _ _ ((((Env.none.upd 6 (.whole 1)).upd 25 (.whole 0)).upd 26 (.lit (.int .i64 ((List.length x8031 : Nat) : Int)))).upd 27 (.lit (.int .i64 x8142))) ((Mem.nil.push (.row 66 (Rd.slice (Rd.int .i64)) x8031)).push (.row 3 (Rd.int .i64) x8143)) _
   refine WP.seq ?_
   refine WP.region ?_
   obtain ⟨x8150, h8150, H⟩ := bnd H
   refine WPL.q (q_nm (q_lss rfl rfl) (nm_bool h8150)) rfl ?_
   refine WPL.nilW ?_
   refine W.now ?_
   refine Then.n ?_
   refine WP.seq ?_
   refine WP.cond (t := x8150) rfl (fun hb8151 => ?_) (fun hb8151 => ?_)
   · replace H := cnt hb8151 H
     refine WP.skipW ?_
     refine W.now ?_
     refine Then.n ?_
     refine WP.seq ?_
     refine WP.block ?_
     refine WP.seq ?_
     refine WP.region ?_
     obtain ⟨x8153, h8153, H⟩ := bnd H
     refine WPL.q (q_index_row sl120 rfl rfl rfl (ixs h8153)) rfl ?_
     refine WPL.q (q_load_rowr (j := (Int.toNat x8142)) (n := 1) (off := 0) (d := x8153) sc66 rfl rfl (ixj h8153) rfl PartIs.self rfl) rfl ?_
     refine WPL.q (q_as (v := .ro _ _ _) rfl) rfl ?_
     refine WPL.nilW ?_
     refine W.now ?_
     refine Then.n ?_
     refine WP.region ?_
     refine WPL.q (q_mv (v := .whole _) rfl) rfl ?_
     refine WPL.q (q_mv (v := .ro _ _ _) rfl) rfl ?_
     obtain ⟨h8153, H⟩ := grd H
     refine WPL.d (d_append ap66 rfl rfl rfl rfl (src_ro sl66 rfl) h8153 rfl) rfl ?_
     refine WPL.q (q_as (v := .whole _) rfl) rfl ?_
     refine WPL.nilW ?_
     refine W.now ?_
     refine InBlock.n ?_
     refine Then.n ?_
     refine WP.region ?_
     refine WPL.q (q_add rfl rfl) rfl ?_
     refine WPL.q (q_mv (v := .lit (.int _ _)) rfl) rfl ?_
     refine WPL.nilW ?_
     exact W.wk [0, 2] hnp (Then.n ⟨n, ((IntKind.wrap .i64 (x8142 + 1)), (x8143 ++ x8153)), Nat.lt_succ_self n, H, rfl, rfl⟩) ⟨rfl, ⟨⟨trivial, .inr ⟨rfl, rfl, rfl⟩⟩, .inr ⟨rfl, rfl, rfl⟩⟩, by decide, rfl, ⟨trivial, rfl⟩⟩ (LeE.upd rfl rfl (LeE.upd rfl rfl (LeE.upd rfl rfl (LeE.upd rfl rfl (LeE.none rfl rfl))))) rfl
   replace H := cnf hb8151 H
   refine WP.exitW ?_
   have q0 := (Option.some.inj H)
   subst q0
   exact W.wk [0, 1] hnp (Then.x (Then.x ⟨rfl, rfl, rfl⟩)) ⟨rfl, ⟨⟨trivial, .inr ⟨rfl, rfl, rfl⟩⟩, .inr ⟨rfl, rfl, rfl⟩⟩, by decide, rfl, ⟨trivial, rfl⟩⟩ (LeE.upd rfl rfl (LeE.none rfl rfl)) rfl
 rintro _ _ _ ⟨rfl, rfl, rfl⟩
 refine W.now ?_
 refine InBlock.x0 ?_
 refine Then.n ?_
 refine WP.seq ?_
 refine WP.region ?_
 refine WPL.q (q_mv (v := .whole _) rfl) rfl ?_
 refine WPL.q (q_as (v := .whole _) rfl) rfl ?_
 refine WPL.nilW ?_
 refine W.now ?_
 refine Then.n ?_
 refine WP.retW ?_
 refine W.cv (Cv.frzRow (i := 1) rfl rfl hnp rfl rfl) rfl ?_
 have q0 := Option.some.inj H
 subst q0
 exact W.now (BodyR.mkR trivial rfl [0] ⟨rfl, rfl⟩ ⟨rfl, ⟨trivial, .inr ⟨rfl, rfl, rfl⟩⟩, by decide, rfl, ⟨trivial, rfl⟩⟩ rfl rfl)
set_option maxRecDepth 100000 in
set_option maxHeartbeats 4000000 in
theorem s_huff_Lengths (k : Nat) (x5297 : (List Int)) (x5298 : Int) (r : (((List Int) × Int) ⊕ ByteArray)) (H : g_huff_Lengths k x5297 x5298 = some r) : Go.Q.Spec Try.prog 34 0 [.ro (Rd.slice (Rd.int .i64)) true x5297, .lit (.int .i64 x5298)] Mem.nil (fun o M => match (generalizing := false) r with | (Sum.inl (x8331, x8332)) => o = .ret (.tup [.ro (Rd.slice (Rd.int .i64)) false x8331, .lit (.int .i64 x8332)]) ∧ M = Mem.nil | (Sum.inr x8333) => o = .pan (.ifc 9 (.lit (.string x8333))) ∧ M = Mem.nil) := by
 unfold g_huff_Lengths at H
 refine Go.Q.Spec.of_bodyR (az := []) (rs := [.tmp 4, .tmp 5]) (nt := 146) Try.func34 rfl rfl (by intro t T h; simp at h) rfl rfl fun cx hnp => ?_
 refine WP.seq ?_
 refine WP.region ?_
 refine WPL.q (q_as (v := .lit _) rfl) rfl ?_
 refine WPL.q (q_as (v := .lit (.int _ _)) rfl) rfl ?_
 refine WPL.nilW ?_
 refine W.now ?_
 refine Then.n ?_
 refine WP.seq ?_
 refine WP.region ?_
 refine WPL.q (q_as (v := .lit _) rfl) rfl ?_
 refine WPL.nilW ?_
 refine W.now ?_
 refine Then.n ?_
 refine WP.seq ?_
 refine WP.seq ?_
 obtain ⟨x8346, H8349, H⟩ := bnd H
 refine WP.monoW (Q := fun x E M => x = .normal ∧ E = ((((Env.none.upd 0 (.ro (Rd.slice (Rd.int .i64)) true x5297)).upd 1 (.lit (.int .i64 x5298))).upd 6 (.lit (.slice none 0 0))).upd 27 (.lit (.bool x8346))) ∧ M = Mem.nil) ?_ ?_
 · clear H
   have H := H8349
   clear H8349
   refine WP.region ?_
   refine WPL.q (q_mv (v := .ro _ _ _) rfl) rfl ?_
   refine WPL.q (q_len_ro sl66 rfl) rfl ?_
   obtain ⟨x8347, h8347, H⟩ := bnd H
   refine WPL.q (q_nm (q_gtr rfl rfl) (nm_bool h8347)) rfl ?_
   refine WPL.q (q_mv (v := .lit (.bool _)) rfl) rfl ?_
   refine WPL.split (t := 20) (b := x8347) rfl (fun hb8347 => ?_) (fun hb8347 => ?_)
   · replace H := cnt hb8347 H
     refine WPL.skipg (b' := true) rfl rfl (lb hb8347) rfl rfl (.inl trivial) ?_
     refine WPL.skipg (b' := true) rfl rfl (lb hb8347) rfl rfl (.inl trivial) ?_
     refine WPL.q (q_pickT (v := .lit (.bool _)) (lb hb8347) rfl) rfl ?_
     refine WPL.q (q_mv (v := .lit (.bool _)) rfl) rfl ?_
     refine WPL.skipg (b' := true) rfl rfl rfl rfl rfl (.inl trivial) ?_
     refine WPL.skipg (b' := true) rfl rfl rfl rfl rfl (.inl trivial) ?_
     refine WPL.q (q_pickT (v := .lit (.bool _)) rfl rfl) rfl ?_
     refine WPL.nilW ?_
     have q0 := (Option.some.inj H)
     subst q0
     exact W.wk [] hnp ⟨rfl, rfl, rfl⟩ ⟨rfl, trivial, by decide, rfl, trivial⟩ (LeE.upd rfl rfl (LeE.upd rfl rfl (LeE.upd rfl rfl (LeE.upd rfl rfl (LeE.none rfl rfl))))) rfl
   replace H := cnf hb8347 H
   refine WPL.qg rfl rfl (lb hb8347) (q_mv (v := .lit (.int _ _)) rfl) rfl ?_
   refine WPL.qg rfl rfl (lb hb8347) (q_lss rfl rfl) rfl ?_
   refine WPL.q (q_pickF (v := .lit (.bool _)) (lb hb8347) rfl) rfl ?_
   refine WPL.q (q_mv (v := .lit (.bool _)) rfl) rfl ?_
   refine WPL.split (t := 24) (b := (decide (x5298 < 1))) rfl (fun hb8348 => ?_) (fun hb8348 => ?_)
   · replace H := cnt hb8348 H
     refine WPL.skipg (b' := true) rfl rfl (lb hb8348) rfl rfl (.inl trivial) ?_
     refine WPL.skipg (b' := true) rfl rfl (lb hb8348) rfl rfl (.inl trivial) ?_
     refine WPL.q (q_pickT (v := .lit (.bool _)) (lb hb8348) rfl) rfl ?_
     refine WPL.nilW ?_
     have q0 := (Option.some.inj H)
     subst q0
     exact W.wk [] hnp ⟨rfl, rfl, rfl⟩ ⟨rfl, trivial, by decide, rfl, trivial⟩ (LeE.upd rfl rfl (LeE.upd rfl rfl (LeE.upd rfl rfl (LeE.upd rfl rfl (LeE.none rfl rfl))))) rfl
   replace H := cnf hb8348 H
   refine WPL.qg rfl rfl (lb hb8348) (q_mv (v := .lit (.int _ _)) rfl) rfl ?_
   refine WPL.qg rfl rfl (lb hb8348) (q_gtr rfl rfl) rfl ?_
   refine WPL.q (q_pickF (v := .lit (.bool _)) (lb hb8348) rfl) rfl ?_
   refine WPL.nilW ?_
   have q0 := (Option.some.inj H)
   subst q0
   exact W.wk [] hnp ⟨rfl, rfl, rfl⟩ ⟨rfl, trivial, by decide, rfl, trivial⟩ (LeE.upd rfl rfl (LeE.upd rfl rfl (LeE.upd rfl rfl (LeE.upd rfl rfl (LeE.none rfl rfl))))) rfl
 rintro _ _ _ ⟨rfl, rfl, rfl⟩
 refine W.now ?_
 refine Then.n ?_
 refine WP.cond (t := x8346) rfl (fun hb8350 => ?_) (fun hb8350 => ?_)
 · replace H := cnt hb8350 H
   refine WP.seq ?_
   refine WP.region ?_
   refine WPL.q (q_as (v := .lit _) rfl) rfl ?_
   refine WPL.q (q_as (v := .lit (.int _ _)) rfl) rfl ?_
   refine WPL.nilW ?_
   refine W.now ?_
   refine Then.n ?_
   refine WP.retW ?_
   refine W.cv (Cv.nilRo (Rd.int .i64) false 4 rfl) rfl ?_
   have q0 := Option.some.inj H
   subst q0
   exact W.now (Then.r (BodyR.mkR trivial rfl [] ⟨rfl, rfl⟩ ⟨rfl, trivial, by decide, rfl, trivial⟩ rfl rfl))
 replace H := cnf hb8350 H
 refine WP.skipW ?_
 refine W.now ?_
 refine Then.n ?_
 refine WP.seq ?_
 refine WP.seq ?_
 refine WP.region ?_
 refine WPL.q (q_mv (v := .ro _ _ _) rfl) rfl ?_
 refine WPL.q (q_len_ro sl66 rfl) rfl ?_
 refine WPL.q (q_mv (v := .lit (.int _ _)) rfl) rfl ?_
 refine WPL.nilW ?_
 refine W.now ?_
 refine Then.n ?_
 refine WP.block ?_
 refine WP.cv (Cv.vir 114 rdS_huff_coin (N := 0) rfl 6 rfl) ?_
 refine WP.cv (Cv.weak (E' := ((((((Env.none.upd 0 (.ro (Rd.slice (Rd.int .i64)) true x5297)).upd 1 (.lit (.int .i64 x5298))).upd 6 (.whole 0)).upd 28 (.ro (Rd.slice (Rd.int .i64)) true x5297)).upd 29 (.lit (.int .i64 ((List.length x5297 : Nat) : Int)))).upd 30 (.lit (.int .i64 0)))) (M' := (Mem.nil.push (.row 114 rdS_huff_coin ([] : List S_huff_coin)))) [0] hnp ⟨rfl, ⟨trivial, .inr ⟨rfl, rfl, rfl⟩⟩, by decide, rfl, trivial⟩ (LeE.upd rfl rfl (LeE.upd rfl rfl (LeE.upd rfl rfl (LeE.upd rfl rfl (LeE.upd rfl rfl (LeE.upd rfl rfl (LeE.none rfl rfl)))))))) ?_
 obtain ⟨y8484, H8482, H⟩ := bnd H
 refine WP.monoW (Q := fun x E M => match (generalizing := false) y8484 with | (Sum.inl _) => x = .ret ∧ E = ((Env.none.upd 4 (.lit (.slice none 0 0))).upd 5 (.lit (.int .i64 1))) ∧ M = Mem.nil | (Sum.inr x8450) => x = .exit 0 ∧ E = (((Env.none.upd 0 (.ro (Rd.slice (Rd.int .i64)) true x5297)).upd 1 (.lit (.int .i64 x5298))).upd 6 (.whole 0)) ∧ M = (Mem.nil.push (.row 114 rdS_huff_coin x8450))) ?_ ?_
 · refine WP.loop (β := Int × (List S_huff_coin)) (fun n b => g_huff_Lengths_l0 k x5297 n b.1 b.2 = some y8484) (fun b => ((((((Env.none.upd 0 (.ro (Rd.slice (Rd.int .i64)) true x5297)).upd 1 (.lit (.int .i64 x5298))).upd 6 (.whole 0)).upd 28 (.ro (Rd.slice (Rd.int .i64)) true x5297)).upd 29 (.lit (.int .i64 ((List.length x5297 : Nat) : Int)))).upd 30 (.lit (.int .i64 b.1)))) (fun b => (Mem.nil.push (.row 114 rdS_huff_coin b.2))) k (0, ([] : List S_huff_coin)) H8482 rfl rfl ?_
   rintro n ⟨x8416, x8417⟩ H
   obtain _ | n := n
   · exact nf rfl H
   rw [g_huff_Lengths_l0.eq_2] at H
   show WP _ _ _ _ ((((((Env.none.upd 0 (.ro (Rd.slice (Rd.int .i64)) true x5297)).upd 1 (.lit (.int .i64 x5298))).upd 6 (.whole 0)).upd 28 (.ro (Rd.slice (Rd.int .i64)) true x5297)).upd 29 (.lit (.int .i64 ((List.length x5297 : Nat) : Int)))).upd 30 (.lit (.int .i64 x8416))) (Mem.nil.push (.row 114 rdS_huff_coin x8417)) _
   refine WP.seq ?_
   refine WP.region ?_
   obtain ⟨x8451, h8451, H⟩ := bnd H
   refine WPL.q (q_nm (q_lss rfl rfl) (nm_bool h8451)) rfl ?_
   refine WPL.nilW ?_
   refine W.now ?_
   refine Then.n ?_
   refine WP.seq ?_
   refine WP.cond (t := x8451) rfl (fun hb8452 => ?_) (fun hb8452 => ?_)
   · replace H := cnt hb8452 H
     refine WP.skipW ?_
     refine W.now ?_
     refine Then.n ?_
     refine WP.seq ?_
     obtain ⟨y8482, H8480, H⟩ := bnd H
     refine WP.monoW (Q := fun x E M => match (generalizing := false) y8482 with | (Sum.inl _) => x = .ret ∧ E = ((Env.none.upd 4 (.lit (.slice none 0 0))).upd 5 (.lit (.int .i64 1))) ∧ M = Mem.nil | (Sum.inr x8467) => x = .normal ∧ E = ((((((Env.none.upd 0 (.ro (Rd.slice (Rd.int .i64)) true x5297)).upd 1 (.lit (.int .i64 x5298))).upd 6 (.whole 0)).upd 28 (.ro (Rd.slice (Rd.int .i64)) true x5297)).upd 29 (.lit (.int .i64 ((List.length x5297 : Nat) : Int)))).upd 30 (.lit (.int .i64 x8416))) ∧ M = (Mem.nil.push (.row 114 rdS_huff_coin x8467))) ?_ ?_
     · clear H
       have H := H8480
       clear H8480
       refine WP.block ?_
       refine WP.seq ?_
       refine WP.region ?_
       refine WPL.q (q_mv (v := .lit (.int _ _)) rfl) rfl ?_
       obtain ⟨x8468, h8468, H⟩ := bnd H
       refine WPL.q (q_index_ro sl66 rfl rfl rfl h8468) rfl ?_
       refine WPL.q (q_load_sc sc3 rfl) rfl ?_
       refine WPL.q (q_as (v := .lit (.int _ _)) rfl) rfl ?_
       refine WPL.q (q_as (v := .lit (.int _ _)) rfl) rfl ?_
       refine WPL.nilW ?_
       refine W.now ?_
       refine Then.n ?_
       refine WP.seq ?_
       refine WP.seq ?_
       obtain ⟨x8475, H8476, H⟩ := bnd H
       refine WP.monoW (Q := fun x E M => x = .normal ∧ E = (((((((((Env.none.upd 0 (.ro (Rd.slice (Rd.int .i64)) true x5297)).upd 1 (.lit (.int .i64 x5298))).upd 6 (.whole 0)).upd 7 (.lit (.int .i64 x8416))).upd 8 (.lit (.int .i64 x8468))).upd 28 (.ro (Rd.slice (Rd.int .i64)) true x5297)).upd 29 (.lit (.int .i64 ((List.length x5297 : Nat) : Int)))).upd 30 (.lit (.int .i64 x8416))).upd 40 (.lit (.bool x8475))) ∧ M = (Mem.nil.push (.row 114 rdS_huff_coin x8417))) ?_ ?_
       · clear H
         have H := H8476
         clear H8476
         refine WP.region ?_
         refine WPL.q (q_mv (v := .lit (.int _ _)) rfl) rfl ?_
         refine WPL.q (q_lss rfl rfl) rfl ?_
         refine WPL.q (q_mv (v := .lit (.bool _)) rfl) rfl ?_
         refine WPL.split (t := 37) (b := (decide (x8468 < 0))) rfl (fun hb8475 => ?_) (fun hb8475 => ?_)
         · replace H := cnt hb8475 H
           refine WPL.skipg (b' := true) rfl rfl (lb hb8475) rfl rfl (.inl trivial) ?_
           refine WPL.skipg (b' := true) rfl rfl (lb hb8475) rfl rfl (.inl trivial) ?_
           refine WPL.q (q_pickT (v := .lit (.bool _)) (lb hb8475) rfl) rfl ?_
           refine WPL.nilW ?_
           have q0 := (Option.some.inj H)
           subst q0
           exact W.wk [0] hnp ⟨rfl, rfl, rfl⟩ ⟨rfl, ⟨trivial, .inr ⟨rfl, rfl, rfl⟩⟩, by decide, rfl, trivial⟩ (LeE.upd rfl rfl (LeE.upd rfl rfl (LeE.upd rfl rfl (LeE.upd rfl rfl (LeE.upd rfl rfl (LeE.upd rfl rfl (LeE.upd rfl rfl (LeE.upd rfl rfl (LeE.upd rfl rfl (LeE.none rfl rfl)))))))))) rfl
         replace H := cnf hb8475 H
         refine WPL.qg rfl rfl (lb hb8475) (q_mv (v := .lit (.int _ _)) rfl) rfl ?_
         refine WPL.qg rfl rfl (lb hb8475) (q_gtr rfl rfl) rfl ?_
         refine WPL.q (q_pickF (v := .lit (.bool _)) (lb hb8475) rfl) rfl ?_
         refine WPL.nilW ?_
         have q0 := (Option.some.inj H)
         subst q0
         exact W.wk [0] hnp ⟨rfl, rfl, rfl⟩ ⟨rfl, ⟨trivial, .inr ⟨rfl, rfl, rfl⟩⟩, by decide, rfl, trivial⟩ (LeE.upd rfl rfl (LeE.upd rfl rfl (LeE.upd rfl rfl (LeE.upd rfl rfl (LeE.upd rfl rfl (LeE.upd rfl rfl (LeE.upd rfl rfl (LeE.upd rfl rfl (LeE.upd rfl rfl (LeE.none rfl rfl)))))))))) rfl
       rintro _ _ _ ⟨rfl, rfl, rfl⟩
       refine W.now ?_
       refine Then.n ?_
       refine WP.cond (t := x8475) rfl (fun hb8477 => ?_) (fun hb8477 => ?_)
       · replace H := cnt hb8477 H
         refine WP.seq ?_
         refine WP.region ?_
         refine WPL.q (q_as (v := .lit _) rfl) rfl ?_
         refine WPL.q (q_as (v := .lit (.int _ _)) rfl) rfl ?_
         refine WPL.nilW ?_
         refine W.now ?_
         refine Then.n ?_
         refine WP.retW ?_
         have q0 := Option.some.inj H
         subst q0
         exact W.wk [] hnp (Then.r (InBlock.r ⟨rfl, rfl, rfl⟩)) ⟨rfl, trivial, by decide, rfl, trivial⟩ (LeE.upd rfl rfl (LeE.upd rfl rfl (LeE.none rfl rfl))) rfl
       replace H := cnf hb8477 H
       refine WP.skipW ?_
       refine W.now ?_
       refine Then.n ?_
       refine WP.seq ?_
       refine WP.region ?_
       refine WPL.q (q_mv (v := .lit (.int _ _)) rfl) rfl ?_
       refine WPL.q (q_gtr rfl rfl) rfl ?_
       refine WPL.nilW ?_
       refine W.now ?_
       refine Then.n ?_
       refine WP.cond (t := (decide (0 < x8468))) rfl (fun hb8478 => ?_) (fun hb8478 => ?_)
       · replace H := cnt hb8478 H
         refine WP.region ?_
         refine WPL.q (q_mv (v := .whole _) rfl) rfl ?_
         refine WPL.q (q_mv (v := .lit (.int _ _)) rfl) rfl ?_
         refine WPL.q (q_mv (v := .lit (.int _ _)) rfl) rfl ?_
         refine WPL.d (d_buildSlice (ds := ([x8416] : List Int)) (R := (Rd.int .i64)) li66 rfl rfl rfl rfl rfl (JoinRows.cons1 Joins.sc rfl JoinRows.nil) rfl rfl) rfl ?_
         refine WPL.q (q_build bu114 rfl) rfl ?_
         refine WPL.cv (Cv.frzRow (i := 1) rfl rfl hnp rfl rfl) ?_
         refine WPL.d (d_buildSlice (ds := ([(⟨x8468, ([x8416] : List Int)⟩ : S_huff_coin)] : List S_huff_coin)) (R := rdS_huff_coin) li112 rfl rfl rfl rfl rfl (JoinRows.cons (l := [.lit (.int .i64 x8468), .ro (Rd.slice (Rd.int .i64)) false ([x8416] : List Int)]) (Joins.via (Joins.cons Joins.sc (Joins.cons Joins.one Joins.unit))) rfl JoinRows.nil) rfl rfl) rfl ?_
         obtain ⟨h8479, H⟩ := grd H
         refine WPL.d (d_append ap112 rfl rfl rfl rfl (src_row sl112 rfl rfl) h8479 rfl) rfl ?_
         refine WPL.q (q_as (v := .whole _) rfl) rfl ?_
         refine WPL.nilW ?_
         have q0 := Option.some.inj H
         subst q0
         exact W.wk [3] hnp (InBlock.n ⟨rfl, rfl, rfl⟩) ⟨rfl, ⟨trivial, .inr ⟨rfl, rfl, rfl⟩⟩, by decide, rfl, trivial⟩ (LeE.upd rfl rfl (LeE.upd rfl rfl (LeE.upd rfl rfl (LeE.upd rfl rfl (LeE.upd rfl rfl (LeE.upd rfl rfl (LeE.none rfl rfl))))))) rfl
       replace H := cnf hb8478 H
       refine WP.skipW ?_
       have q0 := Option.some.inj H
       subst q0
       exact W.wk [0] hnp (InBlock.n ⟨rfl, rfl, rfl⟩) ⟨rfl, ⟨trivial, .inr ⟨rfl, rfl, rfl⟩⟩, by decide, rfl, trivial⟩ (LeE.upd rfl rfl (LeE.upd rfl rfl (LeE.upd rfl rfl (LeE.upd rfl rfl (LeE.upd rfl rfl (LeE.upd rfl rfl (LeE.none rfl rfl))))))) rfl
     rcases y8482 with _ | x8467
     · rintro _ _ _ ⟨rfl, rfl, rfl⟩
       have q0 := Option.some.inj H
       subst q0
       exact W.wk [] hnp (Then.r (Then.r ⟨rfl, rfl, rfl⟩)) ⟨rfl, trivial, by decide, rfl, trivial⟩ (LeE.upd rfl rfl (LeE.upd rfl rfl (LeE.none rfl rfl))) rfl
     rintro _ _ _ ⟨rfl, rfl, rfl⟩
     refine W.now ?_
     refine Then.n ?_
     refine WP.region ?_
     refine WPL.q (q_add rfl rfl) rfl ?_
     refine WPL.q (q_mv (v := .lit (.int _ _)) rfl) rfl ?_
     refine WPL.nilW ?_
     exact W.wk [0] hnp (Then.n ⟨n, ((IntKind.wrap .i64 (x8416 + 1)), x8467), Nat.lt_succ_self n, H, rfl, rfl⟩) ⟨rfl, ⟨trivial, .inr ⟨rfl, rfl, rfl⟩⟩, by decide, rfl, trivial⟩ (LeE.upd rfl rfl (LeE.upd rfl rfl (LeE.upd rfl rfl (LeE.upd rfl rfl (LeE.upd rfl rfl (LeE.upd rfl rfl (LeE.none rfl rfl))))))) rfl
   replace H := cnf hb8452 H
   refine WP.exitW ?_
   have q0 := Option.some.inj H
   subst q0
   exact W.wk [0] hnp (Then.x (Then.x ⟨rfl, rfl, rfl⟩)) ⟨rfl, ⟨trivial, .inr ⟨rfl, rfl, rfl⟩⟩, by decide, rfl, trivial⟩ (LeE.upd rfl rfl (LeE.upd rfl rfl (LeE.upd rfl rfl (LeE.none rfl rfl)))) rfl
 rcases y8484 with _ | x8450
 · rintro _ _ _ ⟨rfl, rfl, rfl⟩
   refine W.cv (Cv.nilRo (Rd.int .i64) false 4 rfl) rfl ?_
   have q0 := Option.some.inj H
   subst q0
   exact W.now (InBlock.r (Then.r (BodyR.mkR trivial rfl [] ⟨rfl, rfl⟩ ⟨rfl, trivial, by decide, rfl, trivial⟩ rfl rfl)))
 rintro _ _ _ ⟨rfl, rfl, rfl⟩
 refine W.now ?_
 refine InBlock.x0 ?_
 refine Then.n ?_
 refine WP.seq ?_
 refine WP.seq ?_
 refine WP.region ?_
 refine WPL.q (q_mv (v := .whole _) rfl) rfl ?_
 refine WPL.q (q_len_row sl112 rfl rfl) rfl ?_
 refine WPL.q (q_mv (v := .lit (.int _ _)) rfl) rfl ?_
 obtain ⟨h8487, H⟩ := grd H
 refine WPL.q (q_shl rfl rfl h8487) rfl ?_
 obtain ⟨x8489, h8489, H⟩ := bnd H
 refine WPL.q (q_nm (q_gtr rfl rfl) (nm_bool h8489)) rfl ?_
 refine WPL.nilW ?_
 refine W.now ?_
 refine Then.n ?_
 refine WP.cond (t := x8489) rfl (fun hb8489 => ?_) (fun hb8489 => ?_)
 · replace H := cnt hb8489 H
   refine WP.seq ?_
   refine WP.region ?_
   refine WPL.q (q_as (v := .lit _) rfl) rfl ?_
   refine WPL.q (q_as (v := .lit (.int _ _)) rfl) rfl ?_
   refine WPL.nilW ?_
   refine W.now ?_
   refine Then.n ?_
   refine WP.retW ?_
   refine W.cv (Cv.nilRo (Rd.int .i64) false 4 rfl) rfl ?_
   have q0 := Option.some.inj H
   subst q0
   exact W.now (Then.r (BodyR.mkR trivial rfl [] ⟨rfl, rfl⟩ ⟨rfl, trivial, by decide, rfl, trivial⟩ rfl rfl))
 replace H := cnf hb8489 H
 refine WP.skipW ?_
 refine W.now ?_
 refine Then.n ?_
 refine WP.seq ?_
 refine WP.region ?_
 refine WPL.q (q_mv (v := .ro _ _ _) rfl) rfl ?_
 refine WPL.q (q_len_ro sl66 rfl) rfl ?_
 obtain ⟨h8490, H⟩ := grd H
 refine WPL.d (d_make (d := (0 : Int)) (R := (Rd.int .i64)) li66 by3 rfl rfl rfl Joins.sc rfl rfl h8490 rfl) rfl ?_
 refine WPL.q (q_as (v := .whole _) rfl) rfl ?_
 refine WPL.nilW ?_
 refine W.now ?_
 refine Then.n ?_
 refine WP.seq ?_
 refine WP.seq ?_
 refine WP.region ?_
 refine WPL.q (q_mv (v := .whole _) rfl) rfl ?_
 refine WPL.q (q_len_row sl112 rfl rfl) rfl ?_
 obtain ⟨x8497, h8497, H⟩ := bnd H
 refine WPL.q (q_nm (q_eql rfl rfl) (nm_bool h8497)) rfl ?_
 refine WPL.nilW ?_
 refine W.now ?_
 refine Then.n ?_
 refine WP.cond (t := x8497) rfl (fun hb8497 => ?_) (fun hb8497 => ?_)
 · replace H := cnt hb8497 H
   refine WP.seq ?_
   refine WP.region ?_
   refine WPL.q (q_mv (v := .whole _) rfl) rfl ?_
   refine WPL.q (q_mv (v := .whole _) rfl) rfl ?_
   obtain ⟨x8499, h8499, H⟩ := bnd H
   refine WPL.q (q_index_row sl112 rfl rfl rfl (ixs h8499)) rfl ?_
   refine WPL.q (q_fieldAddr fi114_1 rfl rfl) rfl ?_
   refine WPL.q (q_load_rowr (j := (Int.toNat 0)) (n := 2) (off := 1) (d := x8499) sc66 rfl rfl (ixj h8499) rfl S_huff_coin.p1 rfl) rfl ?_
   obtain ⟨x8500, h8500, H⟩ := bnd H
   refine WPL.q (q_index_ro sl66 rfl rfl rfl h8500) rfl ?_
   refine WPL.q (q_load_sc sc3 rfl) rfl ?_
   obtain ⟨x8501, h8501, H⟩ := bnd H
   refine WPL.q (q_index_row sl66 rfl rfl rfl (ixs h8501)) rfl ?_
   refine WPL.s (s_store_row (j := (Int.toNat x8500)) (d := 1) sz3 rfl rfl rfl rfl Joins.sc (ixl h8501)) ?_
   refine WPL.nilW ?_
   refine W.now ?_
   refine Then.n ?_
   refine WP.seq ?_
   refine WP.region ?_
   refine WPL.q (q_mv (v := .whole _) rfl) rfl ?_
   refine WPL.q (q_as (v := .whole _) rfl) rfl ?_
   refine WPL.q (q_as (v := .lit (.int _ _)) rfl) rfl ?_
   refine WPL.nilW ?_
   refine W.now ?_
   refine Then.n ?_
   refine WP.retW ?_
   refine W.cv (Cv.frzRow (i := 1) rfl rfl hnp rfl rfl) rfl ?_
   have q0 := Option.some.inj H
   subst q0
   exact W.now (Then.r (BodyR.mkR trivial rfl [] ⟨rfl, rfl⟩ ⟨rfl, trivial, by decide, rfl, trivial⟩ rfl rfl))
 replace H := cnf hb8497 H
 refine WP.skipW ?_
 refine W.now ?_
 refine Then.n ?_
 refine WP.seq ?_
 refine WP.region ?_
 refine WPL.q (q_as (v := .fn _ _) rfl) rfl ?_
 refine WPL.nilW ?_
 refine W.now ?_
 refine Then.n ?_
 refine WP.seq ?_
 refine WP.region ?_
 refine WPL.q (q_mv (v := .whole _) rfl) rfl ?_
 refine WPL.q (q_mv (v := .fn _ _) rfl) rfl ?_
 obtain ⟨x8503, h8501, H⟩ := bnd H
 refine WPL.c (runs_call (s := [0]) (t := [0]) (N := 2) (bor := []) fn60 rfl (s_slices_SortStableFunc_huff_coin_huff_coin k x8450 x8503 h8501) ⟨rfl, ⟨trivial, .inr ⟨rfl, rfl, rfl⟩⟩, by decide, rfl, trivial⟩ rfl trivial (.ren rfl rfl (.ren rfl rfl .nil)) rfl ⟨trivial, rfl⟩ rfl) rfl ?_
 refine WPL.nilW ?_
 refine W.now ?_
 refine Then.n ?_
 refine WP.seq ?_
 refine WP.region ?_
 refine WPL.q (q_as (v := .lit _) rfl) rfl ?_
 refine WPL.nilW ?_
 refine W.now ?_
 refine Then.n ?_
 refine WP.seq ?_
 refine WP.seq ?_
 refine WP.region ?_
 refine WPL.q (q_mv (v := .lit (.int _ _)) rfl) rfl ?_
 refine WPL.q (q_mv (v := .lit (.int _ _)) rfl) rfl ?_
 refine WPL.nilW ?_
 refine W.now ?_
 refine Then.n ?_
 refine WP.block ?_
 refine WP.cv (Cv.vir 114 rdS_huff_coin (N := 2) rfl 11 rfl) ?_
 refine WP.cv (Cv.weak (E' := ((((((Env.none.upd 6 (.whole 0)).upd 9 (.whole 1)).upd 10 (.fn 58 [])).upd 11 (.whole 2)).upd 74 (.lit (.int .i64 x5298))).upd 75 (.lit (.int .i64 0)))) (M' := (((Mem.nil.push (.row 114 rdS_huff_coin x8503)).push (.row 3 (Rd.int .i64) (List.replicate (Int.toNat ((List.length x5297 : Nat) : Int)) (0 : Int)))).push (.row 114 rdS_huff_coin ([] : List S_huff_coin)))) [0, 1, 2] hnp ⟨rfl, ⟨⟨⟨trivial, .inr ⟨rfl, rfl, rfl⟩⟩, .inr ⟨rfl, rfl, rfl⟩⟩, .inr ⟨rfl, rfl, rfl⟩⟩, by decide, rfl, trivial⟩ (LeE.upd rfl rfl (LeE.upd rfl rfl (LeE.upd rfl rfl (LeE.upd rfl rfl (LeE.upd rfl rfl (LeE.upd rfl rfl (LeE.none rfl rfl)))))))) ?_
 obtain ⟨y8752, H8750, H⟩ := bnd H
 refine WP.monoW (Q := fun x E M => match (generalizing := false) y8752 with | (Sum.inl x8653) => x = .panic (.ifc 9 (.lit (.string x8653))) ∧ E = Env.none ∧ M = Mem.nil | (Sum.inr x8654) => x = .exit 2 ∧ E = (((Env.none.upd 6 (.whole 0)).upd 9 (.whole 1)).upd 11 (.whole 2)) ∧ M = (((Mem.nil.push (.row 114 rdS_huff_coin x8503)).push (.row 3 (Rd.int .i64) (List.replicate (Int.toNat ((List.length x5297 : Nat) : Int)) (0 : Int)))).push (.row 114 rdS_huff_coin x8654))) ?_ ?_
 · refine WP.loop (β := Int × (List S_huff_coin)) (fun n b => g_huff_Lengths_l1 k x5298 x8503 n b.1 b.2 = some y8752) (fun b => ((((((Env.none.upd 6 (.whole 0)).upd 9 (.whole 1)).upd 10 (.fn 58 [])).upd 11 (.whole 2)).upd 74 (.lit (.int .i64 x5298))).upd 75 (.lit (.int .i64 b.1)))) (fun b => (((Mem.nil.push (.row 114 rdS_huff_coin x8503)).push (.row 3 (Rd.int .i64) (List.replicate (Int.toNat ((List.length x5297 : Nat) : Int)) (0 : Int)))).push (.row 114 rdS_huff_coin b.2))) k (0, ([] : List S_huff_coin)) H8750 rfl rfl ?_
   rintro n ⟨x8583, x8584⟩ H
   obtain _ | n := n
   · exact nf rfl H
   rw [g_huff_Lengths_l1.eq_2] at H
   show WP _ _ _ _ ((((((Env.none.upd 6 (.whole 0)).upd 9 (.whole 1)).upd 10 (.fn 58 [])).upd 11 (.whole 2)).upd 74 (.lit (.int .i64 x5298))).upd 75 (.lit (.int .i64 x8583))) (((Mem.nil.push (.row 114 rdS_huff_coin x8503)).push (.row 3 (Rd.int .i64) (List.replicate (Int.toNat ((List.length x5297 : Nat) : Int)) (0 : Int)))).push (.row 114 rdS_huff_coin x8584)) _
   refine WP.seq ?_
   refine WP.region ?_
   refine WPL.q (q_lss rfl rfl) rfl ?_
   refine WPL.nilW ?_
   refine W.now ?_
   refine Then.n ?_
   refine WP.seq ?_
   refine WP.cond (t := (decide (x8583 < x5298))) rfl (fun hb8655 => ?_) (fun hb8655 => ?_)
   · replace H := cnt hb8655 H
     refine WP.skipW ?_
     refine W.now ?_
     refine Then.n ?_
     refine WP.seq ?_
     refine WP.block ?_
     refine WP.seq ?_
     refine WP.region ?_
     refine WPL.q (q_mv (v := .whole _) rfl) rfl ?_
     obtain ⟨x8658, h8656, H⟩ := bnd H
     refine WPL.c (runs_call (s := [0]) (t := [0, 3]) (N := 4) (bor := []) fn61 rfl (s_slices_Clone_huff_coin_huff_coin k x8503 x8658 h8656) ⟨rfl, ⟨trivial, .inr ⟨rfl, rfl, rfl⟩⟩, by decide, rfl, trivial⟩ rfl trivial (.ren rfl rfl .nil) rfl ⟨⟨trivial, rfl⟩, rfl⟩ rfl) rfl ?_
     refine WPL.q (q_as (v := .whole _) rfl) rfl ?_
     refine WPL.nilW ?_
     refine W.now ?_
     refine Then.n ?_
     refine WP.seq ?_
     refine WP.seq ?_
     refine WP.region ?_
     refine WPL.q (q_as (v := .lit (.int _ _)) rfl) rfl ?_
     refine WPL.nilW ?_
     refine W.now ?_
     refine Then.n ?_
     refine WP.block ?_
     refine WP.cv (Cv.weak (E' := ((((((((Env.none.upd 6 (.whole 0)).upd 9 (.whole 1)).upd 10 (.fn 58 [])).upd 11 (.whole 2)).upd 12 (.whole 3)).upd 13 (.lit (.int .i64 0))).upd 74 (.lit (.int .i64 x5298))).upd 75 (.lit (.int .i64 x8583)))) (M' := ((((Mem.nil.push (.row 114 rdS_huff_coin x8503)).push (.row 3 (Rd.int .i64) (List.replicate (Int.toNat ((List.length x5297 : Nat) : Int)) (0 : Int)))).push (.row 114 rdS_huff_coin x8584)).push (.row 114 rdS_huff_coin x8658))) [0, 1, 2, 3] hnp ⟨rfl, ⟨⟨⟨⟨trivial, .inr ⟨rfl, rfl, rfl⟩⟩, .inr ⟨rfl, rfl, rfl⟩⟩, .inr ⟨rfl, rfl, rfl⟩⟩, .inr ⟨rfl, rfl, rfl⟩⟩, by decide, rfl, trivial⟩ (LeE.upd rfl rfl (LeE.upd rfl rfl (LeE.upd rfl rfl (LeE.upd rfl rfl (LeE.upd rfl rfl (LeE.upd rfl rfl (LeE.upd rfl rfl (LeE.upd rfl rfl (LeE.none rfl rfl)))))))))) ?_
     obtain ⟨y8748, H8746, H⟩ := bnd H
     refine WP.monoW (Q := fun x E M => match (generalizing := false) y8748 with | (Sum.inl x8717) => x = .panic (.ifc 9 (.lit (.string x8717))) ∧ E = Env.none ∧ M = Mem.nil | (Sum.inr x8718) => x = .exit 4 ∧ E = ((((((Env.none.upd 6 (.whole 0)).upd 9 (.whole 1)).upd 10 (.fn 58 [])).upd 12 (.whole 2)).upd 74 (.lit (.int .i64 x5298))).upd 75 (.lit (.int .i64 x8583))) ∧ M = (((Mem.nil.push (.row 114 rdS_huff_coin x8503)).push (.row 3 (Rd.int .i64) (List.replicate (Int.toNat ((List.length x5297 : Nat) : Int)) (0 : Int)))).push (.row 114 rdS_huff_coin x8718))) ?_ ?_
     · refine WP.loop (β := Int × (List S_huff_coin)) (fun n b => g_huff_Lengths_l2 k x8584 n b.1 b.2 = some y8748) (fun b => ((((((((Env.none.upd 6 (.whole 0)).upd 9 (.whole 1)).upd 10 (.fn 58 [])).upd 11 (.whole 2)).upd 12 (.whole 3)).upd 13 (.lit (.int .i64 b.1))).upd 74 (.lit (.int .i64 x5298))).upd 75 (.lit (.int .i64 x8583)))) (fun b => ((((Mem.nil.push (.row 114 rdS_huff_coin x8503)).push (.row 3 (Rd.int .i64) (List.replicate (Int.toNat ((List.length x5297 : Nat) : Int)) (0 : Int)))).push (.row 114 rdS_huff_coin x8584)).push (.row 114 rdS_huff_coin b.2))) k (0, x8658) H8746 rfl rfl ?_
       rintro n ⟨x8687, x8688⟩ H
       obtain _ | n := n
       · exact nf rfl H
       rw [g_huff_Lengths_l2.eq_2] at H
       show WP _ _ _ _ ((((((((Env.none.upd 6 (.whole 0)).upd 9 (.whole 1)).upd 10 (.fn 58 [])).upd 11 (.whole 2)).upd 12 (.whole 3)).upd 13 (.lit (.int .i64 x8687))).upd 74 (.lit (.int .i64 x5298))).upd 75 (.lit (.int .i64 x8583))) ((((Mem.nil.push (.row 114 rdS_huff_coin x8503)).push (.row 3 (Rd.int .i64) (List.replicate (Int.toNat ((List.length x5297 : Nat) : Int)) (0 : Int)))).push (.row 114 rdS_huff_coin x8584)).push (.row 114 rdS_huff_coin x8688)) _
       refine WP.seq ?_
       refine WP.seq ?_
       refine WP.region ?_
       refine WPL.q (q_mv (v := .lit (.int _ _)) rfl) rfl ?_
       refine WPL.q (q_add rfl rfl) rfl ?_
       refine WPL.q (q_mv (v := .whole _) rfl) rfl ?_
       refine WPL.q (q_len_row sl112 rfl rfl) rfl ?_
       obtain ⟨x8721, h8721, H⟩ := bnd H
       refine WPL.q (q_nm (q_lss rfl rfl) (nm_bool h8721)) rfl ?_
       refine WPL.nilW ?_
       refine W.now ?_
       refine Then.n ?_
       refine WP.cond (t := x8721) rfl (fun hb8721 => ?_) (fun hb8721 => ?_)
       · replace H := cnt hb8721 H
         refine WP.skipW ?_
         refine W.now ?_
         refine Then.n ?_
         refine WP.seq ?_
         refine WP.block ?_
         refine WP.regionD' 30 [2] [] mixed rfl ?_
         refine WPD.takeT 0 rfl (by kernel_rfl) (q_mv (v := .whole _) rfl) rfl ?_
         refine WPD.takeT 1 rfl (by kernel_rfl) (q_mv (v := .whole _) rfl) rfl ?_
         refine WPD.takeT 2 rfl (by kernel_rfl) (q_mv (v := .lit (.int _ _)) rfl) rfl ?_
         obtain ⟨x8737, h8737, H⟩ := bnd H
         refine WPD.takeT 3 rfl (by kernel_rfl) (q_index_row sl112 rfl rfl rfl (ixs h8737)) rfl ?_
         refine WPD.takeT 4 rfl (by kernel_rfl) (q_fieldAddr fi114_0 rfl rfl) rfl ?_
         refine WPD.takeT 6 rfl (by kernel_rfl) (q_mv (v := .whole _) rfl) rfl ?_
         refine WPD.takeT 7 rfl (by kernel_rfl) (q_mv (v := .lit (.int _ _)) rfl) rfl ?_
         refine WPD.takeT 8 rfl (by kernel_rfl) (q_add rfl rfl) rfl ?_
         obtain ⟨x8738, h8738, H⟩ := bnd H
         refine WPD.takeT 9 rfl (by kernel_rfl) (q_index_row sl112 rfl rfl rfl (ixs h8738)) rfl ?_
         refine WPD.takeT 10 rfl (by kernel_rfl) (q_fieldAddr fi114_0 rfl rfl) rfl ?_
         refine WPD.takeT 13 rfl (by kernel_rfl) (q_mv (v := .whole _) rfl) rfl ?_
         refine WPD.takeT 14 rfl (by kernel_rfl) (q_mv (v := .lit (.int _ _)) rfl) rfl ?_
         obtain ⟨x8739, h8739, H⟩ := bnd H
         refine WPD.takeT 15 rfl (by kernel_rfl) (q_index_row sl112 rfl rfl rfl (ixs h8739)) rfl ?_
         refine WPD.takeT 16 rfl (by kernel_rfl) (q_fieldAddr fi114_1 rfl rfl) rfl ?_
         refine WPD.takeT 18 rfl (by kernel_rfl) (q_mv (v := .whole _) rfl) rfl ?_
         refine WPD.takeT 19 rfl (by kernel_rfl) (q_mv (v := .lit (.int _ _)) rfl) rfl ?_
         refine WPD.takeT 20 rfl (by kernel_rfl) (q_add rfl rfl) rfl ?_
         obtain ⟨x8740, h8740, H⟩ := bnd H
         refine WPD.takeT 21 rfl (by kernel_rfl) (q_index_row sl112 rfl rfl rfl (ixs h8740)) rfl ?_
         refine WPD.takeT 22 rfl (by kernel_rfl) (q_fieldAddr fi114_1 rfl rfl) rfl ?_
         refine WPD.take 5 rfl (by kernel_rfl) (q_load_rowf (j := (Int.toNat x8687)) (n := 2) (off := 0) (d := x8737) sc3 rfl rfl (ixj h8737) rfl S_huff_coin.p0) rfl rfl ?_
         refine WPD.take 11 rfl (by kernel_rfl) (q_load_rowf (j := (Int.toNat (IntKind.wrap .i64 (x8687 + 1)))) (n := 2) (off := 0) (d := x8738) sc3 rfl rfl (ixj h8738) rfl S_huff_coin.p0) rfl rfl ?_
         obtain ⟨x8741, h8741, H⟩ := bnd H
         refine WPD.takeT 12 rfl (by kernel_rfl) (q_nm (q_add rfl rfl) (nm_int h8741)) rfl ?_
         refine WPD.take 17 rfl (by kernel_rfl) (q_load_rowr (j := (Int.toNat x8687)) (n := 2) (off := 1) (d := x8739) sc66 rfl rfl (ixj h8739) rfl S_huff_coin.p1 rfl) rfl rfl ?_
         refine WPD.take 23 rfl (by kernel_rfl) (q_load_rowr (j := (Int.toNat (IntKind.wrap .i64 (x8687 + 1)))) (n := 2) (off := 1) (d := x8740) sc66 rfl rfl (ixj h8740) rfl S_huff_coin.p1 rfl) rfl rfl ?_
         refine WPD.eff 24 [2] [] rfl (by kernel_rfl) (Does.runs (d_buildSlice (ds := ([x8739.fsyms, x8740.fsyms] : List (List Int))) (R := (Rd.slice (Rd.int .i64))) li120 rfl rfl rfl rfl rfl (JoinRows.cons (l := [.ro (Rd.slice (Rd.int .i64)) false x8739.fsyms]) Joins.one rfl (JoinRows.cons (l := [.ro (Rd.slice (Rd.int .i64)) false x8740.fsyms]) Joins.one rfl JoinRows.nil)) rfl rfl)) rfl rfl ?_
         obtain ⟨y8745, h8741, H⟩ := bnd H
         rcases y8745 with x8743 | x8744
         · refine WPD.pW 25 rfl (by kernel_rfl) (runs_callP (s := [4]) (t := [4]) (N := 5) (bor := []) fn37 rfl (s_slices_Concat_int_int k ([x8739.fsyms, x8740.fsyms] : List (List Int)) (Sum.inl x8743) h8741) ⟨rfl, ⟨trivial, .inr ⟨rfl, rfl, rfl⟩⟩, by decide, rfl, trivial⟩ rfl trivial (.ren rfl rfl .nil) rfl ⟨trivial, rfl⟩ rfl) ?_
           have q0 := Option.some.inj H
           subst q0
           exact W.wkP [] hnp (InBlock.p (Then.p (Then.p ⟨rfl, rfl, rfl⟩))) ⟨rfl, trivial, by decide, rfl, trivial⟩ (LeE.none rfl rfl) rfl rfl
         refine WPD.eff 25 [2] [] rfl (by kernel_rfl) (runs_call (s := [4]) (t := [4]) (N := 5) (bor := []) fn37 rfl (s_slices_Concat_int_int k ([x8739.fsyms, x8740.fsyms] : List (List Int)) (Sum.inr x8744) h8741) ⟨rfl, ⟨trivial, .inr ⟨rfl, rfl, rfl⟩⟩, by decide, rfl, trivial⟩ rfl trivial (.ren rfl rfl .nil) rfl ⟨trivial, rfl⟩ rfl) rfl rfl ?_
         refine WPD.takeT 26 rfl (by kernel_rfl) (q_build bu114 rfl) rfl ?_
         refine WPD.eff 27 [2] [] rfl (by kernel_rfl) (Does.runs (d_buildSlice (ds := ([(⟨x8741, x8744⟩ : S_huff_coin)] : List S_huff_coin)) (R := rdS_huff_coin) li112 rfl rfl rfl rfl rfl (JoinRows.cons (l := [.lit (.int .i64 x8741), .ro (Rd.slice (Rd.int .i64)) false x8744]) (Joins.via (Joins.cons Joins.sc (Joins.cons Joins.one Joins.unit))) rfl JoinRows.nil) rfl rfl)) rfl rfl ?_
         obtain ⟨h8745, H⟩ := grd H
         refine WPD.eff 28 [2] [] rfl (by kernel_rfl) (Does.runs (d_append ap112 rfl rfl rfl rfl (src_row sl112 rfl rfl) h8745 rfl)) rfl rfl ?_
         refine WPD.takeT 29 rfl (by kernel_rfl) (q_as (v := .whole _) rfl) rfl ?_
         refine WPD.doneW (by kernel_rfl) ?_
         refine W.now ?_
         refine InBlock.n ?_
         refine Then.n ?_
         refine WP.region ?_
         refine WPL.q (q_mv (v := .lit (.int _ _)) rfl) rfl ?_
         refine WPL.q (q_add rfl rfl) rfl ?_
         refine WPL.q (q_as (v := .lit (.int _ _)) rfl) rfl ?_
         refine WPL.nilW ?_
         exact W.wk [0, 1, 2, 6] hnp (Then.n ⟨n, ((IntKind.wrap .i64 (x8687 + 2)), (x8688 ++ ([(⟨x8741, x8744⟩ : S_huff_coin)] : List S_huff_coin))), Nat.lt_succ_self n, H, rfl, rfl⟩) ⟨rfl, ⟨⟨⟨⟨trivial, .inr ⟨rfl, rfl, rfl⟩⟩, .inr ⟨rfl, rfl, rfl⟩⟩, .inr ⟨rfl, rfl, rfl⟩⟩, .inr ⟨rfl, rfl, rfl⟩⟩, by decide, rfl, trivial⟩ (LeE.upd rfl rfl (LeE.upd rfl rfl (LeE.upd rfl rfl (LeE.upd rfl rfl (LeE.upd rfl rfl (LeE.upd rfl rfl (LeE.upd rfl rfl (LeE.upd rfl rfl (LeE.none rfl rfl))))))))) rfl
       replace H := cnf hb8721 H
       refine WP.exitW ?_
       have q0 := Option.some.inj H
       subst q0
       exact W.wk [0, 1, 3] hnp (Then.x (Then.x ⟨rfl, rfl, rfl⟩)) ⟨rfl, ⟨⟨⟨trivial, .inr ⟨rfl, rfl, rfl⟩⟩, .inr ⟨rfl, rfl, rfl⟩⟩, .inr ⟨rfl, rfl, rfl⟩⟩, by decide, rfl, trivial⟩ (LeE.upd rfl rfl (LeE.upd rfl rfl (LeE.upd rfl rfl (LeE.upd rfl rfl (LeE.upd rfl rfl (LeE.upd rfl rfl (LeE.none rfl rfl))))))) rfl
     rcases y8748 with x8717 | x8718
     · rintro _ _ _ ⟨rfl, rfl, rfl⟩
       have q0 := Option.some.inj H
       subst q0
       exact W.wkP [] hnp (InBlock.p (Then.p (InBlock.p (Then.p (Then.p ⟨rfl, rfl, rfl⟩))))) ⟨rfl, trivial, by decide, rfl, trivial⟩ (LeE.none rfl rfl) rfl rfl
     rintro _ _ _ ⟨rfl, rfl, rfl⟩
     refine W.now ?_
     refine InBlock.x0 ?_
     refine Then.n ?_
     refine WP.seq ?_
     refine WP.region ?_
     refine WPL.q (q_mv (v := .whole _) rfl) rfl ?_
     refine WPL.q (q_mv (v := .fn _ _) rfl) rfl ?_
     obtain ⟨x8750, h8748, H⟩ := bnd H
     refine WPL.c (runs_call (s := [2]) (t := [2]) (N := 3) (bor := []) fn60 rfl (s_slices_SortStableFunc_huff_coin_huff_coin k x8718 x8750 h8748) ⟨rfl, ⟨trivial, .inr ⟨rfl, rfl, rfl⟩⟩, by decide, rfl, trivial⟩ rfl trivial (.ren rfl rfl (.ren rfl rfl .nil)) rfl ⟨trivial, rfl⟩ rfl) rfl ?_
     refine WPL.nilW ?_
     refine W.now ?_
     refine Then.n ?_
     refine WP.region ?_
     refine WPL.q (q_mv (v := .whole _) rfl) rfl ?_
     refine WPL.q (q_as (v := .whole _) rfl) rfl ?_
     refine WPL.nilW ?_
     refine W.now ?_
     refine InBlock.n ?_
     refine Then.n ?_
     refine WP.region ?_
     refine WPL.q (q_add rfl rfl) rfl ?_
     refine WPL.q (q_mv (v := .lit (.int _ _)) rfl) rfl ?_
     refine WPL.nilW ?_
     exact W.wk [0, 1, 2] hnp (Then.n ⟨n, ((IntKind.wrap .i64 (x8583 + 1)), x8750), Nat.lt_succ_self n, H, rfl, rfl⟩) ⟨rfl, ⟨⟨⟨trivial, .inr ⟨rfl, rfl, rfl⟩⟩, .inr ⟨rfl, rfl, rfl⟩⟩, .inr ⟨rfl, rfl, rfl⟩⟩, by decide, rfl, trivial⟩ (LeE.upd rfl rfl (LeE.upd rfl rfl (LeE.upd rfl rfl (LeE.upd rfl rfl (LeE.upd rfl rfl (LeE.upd rfl rfl (LeE.none rfl rfl))))))) rfl
   replace H := cnf hb8655 H
   refine WP.exitW ?_
   have q0 := Option.some.inj H
   subst q0
   exact W.wk [0, 1, 2] hnp (Then.x (Then.x ⟨rfl, rfl, rfl⟩)) ⟨rfl, ⟨⟨⟨trivial, .inr ⟨rfl, rfl, rfl⟩⟩, .inr ⟨rfl, rfl, rfl⟩⟩, .inr ⟨rfl, rfl, rfl⟩⟩, by decide, rfl, trivial⟩ (LeE.upd rfl rfl (LeE.upd rfl rfl (LeE.upd rfl rfl (LeE.none rfl rfl)))) rfl
 rcases y8752 with x8653 | x8654
 · rintro _ _ _ ⟨rfl, rfl, rfl⟩
   have q0 := Option.some.inj H
   subst q0
   exact W.now (InBlock.p (Then.p (BodyR.mkP trivial [] ⟨rfl, rfl⟩ ⟨rfl, trivial, by decide, rfl, trivial⟩ rfl rfl)))
 rintro _ _ _ ⟨rfl, rfl, rfl⟩
 refine W.now ?_
 refine InBlock.x0 ?_
 refine Then.n ?_
 refine WP.seq ?_
 refine WP.seq ?_
 refine WP.region ?_
 refine WPL.q (q_as (v := .lit (.int _ _)) rfl) rfl ?_
 refine WPL.nilW ?_
 refine W.now ?_
 refine Then.n ?_
 refine WP.block ?_
 refine WP.cv (Cv.weak (E' := ((((Env.none.upd 6 (.whole 0)).upd 9 (.whole 1)).upd 11 (.whole 2)).upd 14 (.lit (.int .i64 0)))) (M' := (((Mem.nil.push (.row 114 rdS_huff_coin x8503)).push (.row 3 (Rd.int .i64) (List.replicate (Int.toNat ((List.length x5297 : Nat) : Int)) (0 : Int)))).push (.row 114 rdS_huff_coin x8654))) [0, 1, 2] hnp ⟨rfl, ⟨⟨⟨trivial, .inr ⟨rfl, rfl, rfl⟩⟩, .inr ⟨rfl, rfl, rfl⟩⟩, .inr ⟨rfl, rfl, rfl⟩⟩, by decide, rfl, trivial⟩ (LeE.upd rfl rfl (LeE.upd rfl rfl (LeE.upd rfl rfl (LeE.upd rfl rfl (LeE.none rfl rfl)))))) ?_
 obtain ⟨x8801, H8830, H⟩ := bnd H
 refine WP.monoW (Q := fun x E M => x = .exit 6 ∧ E = (Env.none.upd 9 (.whole 0)) ∧ M = (Mem.nil.push (.row 3 (Rd.int .i64) x8801))) ?_ ?_
 · refine WP.loop (β := Int × (List Int)) (fun n b => g_huff_Lengths_l3 k x8503 x8654 n b.1 b.2 = some x8801) (fun b => ((((Env.none.upd 6 (.whole 0)).upd 9 (.whole 1)).upd 11 (.whole 2)).upd 14 (.lit (.int .i64 b.1)))) (fun b => (((Mem.nil.push (.row 114 rdS_huff_coin x8503)).push (.row 3 (Rd.int .i64) b.2)).push (.row 114 rdS_huff_coin x8654))) k (0, (List.replicate (Int.toNat ((List.length x5297 : Nat) : Int)) (0 : Int))) H8830 rfl rfl ?_
   rintro n ⟨x8776, x8777⟩ H
   obtain _ | n := n
   · exact nf rfl H
   rw [g_huff_Lengths_l3.eq_2] at H
   show WP _ _ _ _ ((((Env.none.upd 6 (.whole 0)).upd 9 (.whole 1)).upd 11 (.whole 2)).upd 14 (.lit (.int .i64 x8776))) (((Mem.nil.push (.row 114 rdS_huff_coin x8503)).push (.row 3 (Rd.int .i64) x8777)).push (.row 114 rdS_huff_coin x8654)) _
   refine WP.seq ?_
   refine WP.seq ?_
   refine WP.region ?_
   refine WPL.q (q_mv (v := .lit (.int _ _)) rfl) rfl ?_
   refine WPL.q (q_mv (v := .whole _) rfl) rfl ?_
   refine WPL.q (q_len_row sl112 rfl rfl) rfl ?_
   obtain ⟨x8805, h8805, H⟩ := bnd H
   refine WPL.q (q_nm (q_mul rfl rfl) (nm_int h8805)) rfl ?_
   refine WPL.q (q_sub rfl rfl) rfl ?_
   obtain ⟨x8806, h8806, H⟩ := bnd H
   refine WPL.q (q_nm (q_lss rfl rfl) (nm_bool h8806)) rfl ?_
   refine WPL.nilW ?_
   refine W.now ?_
   refine Then.n ?_
   refine WP.cond (t := x8806) rfl (fun hb8806 => ?_) (fun hb8806 => ?_)
   · replace H := cnt hb8806 H
     refine WP.skipW ?_
     refine W.now ?_
     refine Then.n ?_
     refine WP.seq ?_
     refine WP.block ?_
     refine WP.seq ?_
     refine WP.region ?_
     refine WPL.q (q_mv (v := .whole _) rfl) rfl ?_
     refine WPL.q (q_mv (v := .lit (.int _ _)) rfl) rfl ?_
     obtain ⟨x8808, h8808, H⟩ := bnd H
     refine WPL.q (q_index_row sl112 rfl rfl rfl (ixs h8808)) rfl ?_
     refine WPL.q (q_fieldAddr fi114_1 rfl rfl) rfl ?_
     refine WPL.q (q_load_rowr (j := (Int.toNat x8776)) (n := 2) (off := 1) (d := x8808) sc66 rfl rfl (ixj h8808) rfl S_huff_coin.p1 rfl) rfl ?_
     refine WPL.q (q_len_ro sl66 rfl) rfl ?_
     refine WPL.q (q_mv (v := .lit (.int _ _)) rfl) rfl ?_
     refine WPL.nilW ?_
     refine W.now ?_
     refine Then.n ?_
     refine WP.block ?_
     refine WP.cv (Cv.weak (E' := (((((((Env.none.upd 6 (.whole 0)).upd 9 (.whole 1)).upd 11 (.whole 2)).upd 14 (.lit (.int .i64 x8776))).upd 132 (.ro (Rd.slice (Rd.int .i64)) false x8808.fsyms)).upd 133 (.lit (.int .i64 ((List.length x8808.fsyms : Nat) : Int)))).upd 134 (.lit (.int .i64 0)))) (M' := (((Mem.nil.push (.row 114 rdS_huff_coin x8503)).push (.row 3 (Rd.int .i64) x8777)).push (.row 114 rdS_huff_coin x8654))) [0, 1, 2] hnp ⟨rfl, ⟨⟨⟨trivial, .inr ⟨rfl, rfl, rfl⟩⟩, .inr ⟨rfl, rfl, rfl⟩⟩, .inr ⟨rfl, rfl, rfl⟩⟩, by decide, rfl, trivial⟩ (LeE.upd rfl rfl (LeE.upd rfl rfl (LeE.upd rfl rfl (LeE.upd rfl rfl (LeE.upd rfl rfl (LeE.upd rfl rfl (LeE.upd rfl rfl (LeE.none rfl rfl))))))))) ?_
     obtain ⟨x8823, H8829, H⟩ := bnd H
     refine WP.monoW (Q := fun x E M => x = .exit 8 ∧ E = ((((Env.none.upd 6 (.whole 0)).upd 9 (.whole 1)).upd 11 (.whole 2)).upd 14 (.lit (.int .i64 x8776))) ∧ M = (((Mem.nil.push (.row 114 rdS_huff_coin x8503)).push (.row 3 (Rd.int .i64) x8823)).push (.row 114 rdS_huff_coin x8654))) ?_ ?_
     · refine WP.loop (β := Int × (List Int)) (fun n b => g_huff_Lengths_l4 k x8808 n b.1 b.2 = some x8823) (fun b => (((((((Env.none.upd 6 (.whole 0)).upd 9 (.whole 1)).upd 11 (.whole 2)).upd 14 (.lit (.int .i64 x8776))).upd 132 (.ro (Rd.slice (Rd.int .i64)) false x8808.fsyms)).upd 133 (.lit (.int .i64 ((List.length x8808.fsyms : Nat) : Int)))).upd 134 (.lit (.int .i64 b.1)))) (fun b => (((Mem.nil.push (.row 114 rdS_huff_coin x8503)).push (.row 3 (Rd.int .i64) b.2)).push (.row 114 rdS_huff_coin x8654))) k (0, x8777) H8829 rfl rfl ?_
       rintro n ⟨x8815, x8816⟩ H
       obtain _ | n := n
       · exact nf rfl H
       rw [g_huff_Lengths_l4.eq_2] at H
       show WP _ _ _ _ (((((((Env.none.upd 6 (.whole 0)).upd 9 (.whole 1)).upd 11 (.whole 2)).upd 14 (.lit (.int .i64 x8776))).upd 132 (.ro (Rd.slice (Rd.int .i64)) false x8808.fsyms)).upd 133 (.lit (.int .i64 ((List.length x8808.fsyms : Nat) : Int)))).upd 134 (.lit (.int .i64 x8815))) (((Mem.nil.push (.row 114 rdS_huff_coin x8503)).push (.row 3 (Rd.int .i64) x8816)).push (.row 114 rdS_huff_coin x8654)) _
       refine WP.seq ?_
       refine WP.region ?_
       obtain ⟨x8824, h8824, H⟩ := bnd H
       refine WPL.q (q_nm (q_lss rfl rfl) (nm_bool h8824)) rfl ?_
       refine WPL.nilW ?_
       refine W.now ?_
       refine Then.n ?_
       refine WP.seq ?_
       refine WP.cond (t := x8824) rfl (fun hb8825 => ?_) (fun hb8825 => ?_)
       · replace H := cnt hb8825 H
         refine WP.skipW ?_
         refine W.now ?_
         refine Then.n ?_
         refine WP.seq ?_
         refine WP.block ?_
         refine WP.seq ?_
         refine WP.region ?_
         obtain ⟨x8827, h8827, H⟩ := bnd H
         refine WPL.q (q_index_ro sl66 rfl rfl rfl h8827) rfl ?_
         refine WPL.q (q_load_sc sc3 rfl) rfl ?_
         refine WPL.q (q_as (v := .lit (.int _ _)) rfl) rfl ?_
         refine WPL.nilW ?_
         refine W.now ?_
         refine Then.n ?_
         refine WP.region ?_
         refine WPL.q (q_mv (v := .whole _) rfl) rfl ?_
         refine WPL.q (q_mv (v := .lit (.int _ _)) rfl) rfl ?_
         obtain ⟨x8828, h8828, H⟩ := bnd H
         refine WPL.q (q_index_row sl66 rfl rfl rfl (ixs h8828)) rfl ?_
         refine WPL.q (q_load_row (j := (Int.toNat x8827)) sc3 rfl rfl (ixj h8828)) rfl ?_
         refine WPL.q (q_add rfl rfl) rfl ?_
         obtain ⟨x8829, h8829, H⟩ := bnd H
         refine WPL.q (q_index_row sl66 rfl rfl rfl (ixs h8829)) rfl ?_
         refine WPL.s (s_store_row (j := (Int.toNat x8827)) (d := (IntKind.wrap .i64 (x8828 + 1))) sz3 rfl rfl rfl rfl Joins.sc (ixl h8829)) ?_
         refine WPL.nilW ?_
         refine W.now ?_
         refine InBlock.n ?_
         refine Then.n ?_
         refine WP.region ?_
         refine WPL.q (q_add rfl rfl) rfl ?_
         refine WPL.q (q_mv (v := .lit (.int _ _)) rfl) rfl ?_
         refine WPL.nilW ?_
         exact W.wk [0, 1, 2] hnp (Then.n ⟨n, ((IntKind.wrap .i64 (x8815 + 1)), (List.set x8816 (Int.toNat x8827) (IntKind.wrap .i64 (x8828 + 1)))), Nat.lt_succ_self n, H, rfl, rfl⟩) ⟨rfl, ⟨⟨⟨trivial, .inr ⟨rfl, rfl, rfl⟩⟩, .inr ⟨rfl, rfl, rfl⟩⟩, .inr ⟨rfl, rfl, rfl⟩⟩, by decide, rfl, trivial⟩ (LeE.upd rfl rfl (LeE.upd rfl rfl (LeE.upd rfl rfl (LeE.upd rfl rfl (LeE.upd rfl rfl (LeE.upd rfl rfl (LeE.upd rfl rfl (LeE.none rfl rfl)))))))) rfl
       replace H := cnf hb8825 H
       refine WP.exitW ?_
       have q0 := (Option.some.inj H)
       subst q0
       exact W.wk [0, 1, 2] hnp (Then.x (Then.x ⟨rfl, rfl, rfl⟩)) ⟨rfl, ⟨⟨⟨trivial, .inr ⟨rfl, rfl, rfl⟩⟩, .inr ⟨rfl, rfl, rfl⟩⟩, .inr ⟨rfl, rfl, rfl⟩⟩, by decide, rfl, trivial⟩ (LeE.upd rfl rfl (LeE.upd rfl rfl (LeE.upd rfl rfl (LeE.upd rfl rfl (LeE.none rfl rfl))))) rfl
     rintro _ _ _ ⟨rfl, rfl, rfl⟩
     refine W.now ?_
     refine InBlock.x0 ?_
     refine InBlock.n ?_
     refine Then.n ?_
     refine WP.region ?_
     refine WPL.q (q_mv (v := .lit (.int _ _)) rfl) rfl ?_
     refine WPL.q (q_add rfl rfl) rfl ?_
     refine WPL.q (q_as (v := .lit (.int _ _)) rfl) rfl ?_
     refine WPL.nilW ?_
     exact W.wk [0, 1, 2] hnp (Then.n ⟨n, ((IntKind.wrap .i64 (x8776 + 1)), x8823), Nat.lt_succ_self n, H, rfl, rfl⟩) ⟨rfl, ⟨⟨⟨trivial, .inr ⟨rfl, rfl, rfl⟩⟩, .inr ⟨rfl, rfl, rfl⟩⟩, .inr ⟨rfl, rfl, rfl⟩⟩, by decide, rfl, trivial⟩ (LeE.upd rfl rfl (LeE.upd rfl rfl (LeE.upd rfl rfl (LeE.upd rfl rfl (LeE.none rfl rfl))))) rfl
   replace H := cnf hb8806 H
   refine WP.exitW ?_
   have q0 := (Option.some.inj H)
   subst q0
   exact W.wk [1] hnp (Then.x (Then.x ⟨rfl, rfl, rfl⟩)) ⟨rfl, ⟨trivial, .inr ⟨rfl, rfl, rfl⟩⟩, by decide, rfl, trivial⟩ (LeE.upd rfl rfl (LeE.none rfl rfl)) rfl
 rintro _ _ _ ⟨rfl, rfl, rfl⟩
 refine W.now ?_
 refine InBlock.x0 ?_
 refine Then.n ?_
 refine WP.seq ?_
 refine WP.region ?_
 refine WPL.q (q_mv (v := .whole _) rfl) rfl ?_
 refine WPL.q (q_as (v := .whole _) rfl) rfl ?_
 refine WPL.q (q_as (v := .lit (.int _ _)) rfl) rfl ?_
 refine WPL.nilW ?_
 refine W.now ?_
 refine Then.n ?_
 refine WP.retW ?_
 refine W.cv (Cv.frzRow (i := 0) rfl rfl hnp rfl rfl) rfl ?_
 have q0 := Option.some.inj H
 subst q0
 exact W.now (BodyR.mkR trivial rfl [] ⟨rfl, rfl⟩ ⟨rfl, trivial, by decide, rfl, trivial⟩ rfl rfl)
end Go.Proofs.Ytmmeanjjfhimjaa.W
