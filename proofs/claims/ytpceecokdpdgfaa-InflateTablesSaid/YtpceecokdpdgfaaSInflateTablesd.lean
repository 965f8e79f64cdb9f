/- Texts joined: part 4 of what LInflateTables stands on. -/
import Derived.Test.YtpceecokdpdgfaaSInflateTablesc
namespace Go.Proofs.Ytpceecokdpdgfaa.W
open Go Go.Q Go.Proofs
set_option linter.unusedVariables false
set_option linter.unusedSimpArgs false
set_option maxRecDepth 100000 in
set_option maxHeartbeats 4000000 in
theorem s_inflate_stream_sym__d (k : Nat) (x3136 : Int) (x3137 : (List Int)) (x3138 : Int) (x3139 : (List Int)) (x3140 : (List Int)) (x3141 : (List Int)) (r : (Int ⊕ (Int × (List Int) × Int))) (H : g_inflate_stream_sym__d k x3136 x3137 x3138 x3139 x3140 x3141 = some r) : Go.Q.Spec Try.prog 36 3 [.ptr 0 0, .ptr 2 0] (((((Mem.nil.push (.cells 45 [.ptr 1 0, .whole 3, .lit (.int .i64 x3136)])).push (.cells 52 [.ro (Rd.slice (Rd.int .u8)) false x3137, .lit (.int .i64 x3138)])).push (.cells 82 [.lit (.int .i64 (List.getD x3139 0 (0 : Int))), .lit (.int .i64 (List.getD x3139 1 (0 : Int))), .lit (.int .i64 (List.getD x3139 2 (0 : Int))), .lit (.int .i64 (List.getD x3139 3 (0 : Int))), .lit (.int .i64 (List.getD x3139 4 (0 : Int))), .lit (.int .i64 (List.getD x3139 5 (0 : Int))), .lit (.int .i64 (List.getD x3139 6 (0 : Int))), .lit (.int .i64 (List.getD x3139 7 (0 : Int))), .lit (.int .i64 (List.getD x3139 8 (0 : Int))), .lit (.int .i64 (List.getD x3139 9 (0 : Int))), .lit (.int .i64 (List.getD x3139 10 (0 : Int))), .lit (.int .i64 (List.getD x3139 11 (0 : Int))), .lit (.int .i64 (List.getD x3139 12 (0 : Int))), .lit (.int .i64 (List.getD x3139 13 (0 : Int))), .lit (.int .i64 (List.getD x3139 14 (0 : Int))), .lit (.int .i64 (List.getD x3139 15 (0 : Int))), .whole 4])).push (.row 5 (Rd.int .u8) x3140)).push (.row 3 (Rd.int .i64) x3141)) (fun o M => match (generalizing := false) r with | (Sum.inl x3150) => o = .pan (.ifc 46 (.lit (.int .i64 x3150))) ∧ M = (((Mem.nil.push (.gone)).push (.gone)).push (.gone)) | (Sum.inr (x3151, x3152, x3153)) => o = .ret (.lit (.int .i64 x3151)) ∧ M = (((((Mem.nil.push (.cells 45 [.ptr 1 0, .whole 3, .lit (.int .i64 x3136)])).push (.cells 52 [.ro (Rd.slice (Rd.int .u8)) false x3152, .lit (.int .i64 x3153)])).push (.cells 82 [.lit (.int .i64 (List.getD x3139 0 (0 : Int))), .lit (.int .i64 (List.getD x3139 1 (0 : Int))), .lit (.int .i64 (List.getD x3139 2 (0 : Int))), .lit (.int .i64 (List.getD x3139 3 (0 : Int))), .lit (.int .i64 (List.getD x3139 4 (0 : Int))), .lit (.int .i64 (List.getD x3139 5 (0 : Int))), .lit (.int .i64 (List.getD x3139 6 (0 : Int))), .lit (.int .i64 (List.getD x3139 7 (0 : Int))), .lit (.int .i64 (List.getD x3139 8 (0 : Int))), .lit (.int .i64 (List.getD x3139 9 (0 : Int))), .lit (.int .i64 (List.getD x3139 10 (0 : Int))), .lit (.int .i64 (List.getD x3139 11 (0 : Int))), .lit (.int .i64 (List.getD x3139 12 (0 : Int))), .lit (.int .i64 (List.getD x3139 13 (0 : Int))), .lit (.int .i64 (List.getD x3139 14 (0 : Int))), .lit (.int .i64 (List.getD x3139 15 (0 : Int))), .whole 4])).push (.row 5 (Rd.int .u8) x3140)).push (.row 3 (Rd.int .i64) x3141))) := by
 unfold g_inflate_stream_sym__d at H
 refine Go.Q.Spec.of_bodyR (az := []) (rs := [.tmp 4]) (nt := 19) Try.func36 rfl rfl (by intro t T h; simp at h) rfl rfl fun cx hnp => ?_
 refine WP.seq ?_
 refine WP.region ?_
 refine WPL.q (q_as (v := .lit (.int _ _)) rfl) rfl ?_
 refine WPL.nilW ?_
 refine W.now ?_
 refine Then.n ?_
 refine WP.seq ?_
 refine WP.region ?_
 refine WPL.q (q_mv (v := .ptr _ _) rfl) rfl ?_
 refine WPL.q (q_mv (v := .ptr _ _) rfl) rfl ?_
 refine WPL.q (q_nilCheck rfl) rfl ?_
 refine WPL.q (q_fieldAddr fi45_0 rfl rfl) rfl ?_
 refine WPL.q (q_load sc42 rfl rfl rfl) rfl ?_
 obtain ⟨⟨x3155, x3156, x3157, x3158⟩, h3153, H⟩ := bnd H
 refine WPL.c (runs_call (s := [2, 1, 4]) (t := [2, 1, 5]) (N := 6) (bor := []) fn43 rfl (s_huff_Decoder_Next__b k x3139 x3137 x3138 x3141 x3155 x3156 x3157 x3158 h3153) ⟨rfl, ⟨⟨⟨trivial, .inr ⟨rfl, rfl, rfl⟩⟩, .inr ⟨rfl, rfl, rfl⟩⟩, .inr ⟨rfl, rfl, rfl⟩⟩, by decide, rfl, trivial⟩ rfl trivial (.ren rfl rfl (.ren rfl rfl .nil)) rfl ⟨⟨⟨trivial, rfl⟩, rfl⟩, rfl⟩ rfl) rfl ?_
 refine WPL.q (q_mv (v := .tup _) rfl) rfl ?_
 refine WPL.q (q_extract rfl rfl) rfl ?_
 refine WPL.q (q_extract rfl rfl) rfl ?_
 refine WPL.q (q_as (v := .lit (.int _ _)) rfl) rfl ?_
 refine WPL.q (q_as (v := .lit (.int _ _)) rfl) rfl ?_
 refine WPL.nilW ?_
 refine W.now ?_
 refine Then.n ?_
 refine WP.seq ?_
 refine WP.region ?_
 refine WPL.q (q_mv (v := .lit (.int _ _)) rfl) rfl ?_
 obtain ⟨y3160, h3158, H⟩ := bnd H
 rcases y3160 with _ | _
 · refine WPL.pW (runs_callP (s := []) (t := []) (N := 6) (bor := []) fn31 rfl (s_inflate_must k x3156 (Sum.inl ()) h3158) ⟨rfl, trivial, by decide, rfl, trivial⟩ rfl trivial (.ren rfl rfl .nil) rfl trivial rfl) ?_
   have q0 := Option.some.inj H
   subst q0
   exact W.now (Then.p (BodyR.mkP trivial [0, 1, 2] ⟨rfl, rfl⟩ ⟨rfl, ⟨⟨⟨trivial, .inl rfl⟩, .inl rfl⟩, .inl rfl⟩, by decide, rfl, ⟨⟨⟨trivial, rfl⟩, rfl⟩, rfl⟩⟩ rfl rfl))
 refine WPL.c (runs_call (s := []) (t := []) (N := 6) (bor := []) fn31 rfl (s_inflate_must k x3156 (Sum.inr ()) h3158) ⟨rfl, trivial, by decide, rfl, trivial⟩ rfl trivial (.ren rfl rfl .nil) rfl trivial rfl) rfl ?_
 refine WPL.nilW ?_
 refine W.now ?_
 refine Then.n ?_
 refine WP.seq ?_
 refine WP.region ?_
 refine WPL.q (q_mv (v := .lit (.int _ _)) rfl) rfl ?_
 refine WPL.q (q_as (v := .lit (.int _ _)) rfl) rfl ?_
 refine WPL.nilW ?_
 refine W.now ?_
 refine Then.n ?_
 refine WP.retW ?_
 have q0 := Option.some.inj H
 subst q0
 exact W.now (BodyR.mkR trivial rfl [0, 1, 2, 3, 5] ⟨rfl, rfl⟩ ⟨rfl, ⟨⟨⟨⟨⟨trivial, .inr ⟨rfl, rfl, rfl⟩⟩, .inr ⟨rfl, rfl, rfl⟩⟩, .inr ⟨rfl, rfl, rfl⟩⟩, .inr ⟨rfl, rfl, rfl⟩⟩, .inr ⟨rfl, rfl, rfl⟩⟩, by decide, rfl, ⟨⟨⟨trivial, rfl⟩, rfl⟩, rfl⟩⟩ rfl rfl)
set_option maxRecDepth 100000 in
set_option maxHeartbeats 4000000 in
theorem s_inflate_stream_take__b (k : Nat) (x3184 : Int) (x3185 : Int) (x3186 : (List Int)) (x3187 : Int) (x3188 : (List Int)) (r : (Int ⊕ (Int × (List Int) × Int))) (H : g_inflate_stream_take__b k x3184 x3185 x3186 x3187 x3188 = some r) : Go.Q.Spec Try.prog 26 2 [.ptr 0 0, .lit (.int .i64 x3184)] (((Mem.nil.push (.cells 45 [.ptr 1 0, .whole 2, .lit (.int .i64 x3185)])).push (.cells 52 [.ro (Rd.slice (Rd.int .u8)) false x3186, .lit (.int .i64 x3187)])).push (.row 5 (Rd.int .u8) x3188)) (fun o M => match (generalizing := false) r with | (Sum.inl x3197) => o = .pan (.ifc 46 (.lit (.int .i64 x3197))) ∧ M = ((Mem.nil.push (.gone)).push (.gone)) | (Sum.inr (x3198, x3199, x3200)) => o = .ret (.lit (.int .i64 x3198)) ∧ M = (((Mem.nil.push (.cells 45 [.ptr 1 0, .whole 2, .lit (.int .i64 x3185)])).push (.cells 52 [.ro (Rd.slice (Rd.int .u8)) false x3199, .lit (.int .i64 x3200)])).push (.row 5 (Rd.int .u8) x3188))) := by
 unfold g_inflate_stream_take__b at H
 refine Go.Q.Spec.of_bodyR (az := []) (rs := [.tmp 4]) (nt := 20) Try.func26 rfl rfl (by intro t T h; simp at h) rfl rfl fun cx hnp => ?_
 refine WP.seq ?_
 refine WP.region ?_
 refine WPL.q (q_as (v := .lit (.int _ _)) rfl) rfl ?_
 refine WPL.nilW ?_
 refine W.now ?_
 refine Then.n ?_
 refine WP.seq ?_
 refine WP.region ?_
 refine WPL.q (q_mv (v := .ptr _ _) rfl) rfl ?_
 refine WPL.q (q_nilCheck rfl) rfl ?_
 refine WPL.q (q_fieldAddr fi45_0 rfl rfl) rfl ?_
 refine WPL.q (q_load sc42 rfl rfl rfl) rfl ?_
 refine WPL.q (q_mv (v := .lit (.int _ _)) rfl) rfl ?_
 obtain ⟨⟨x3202, x3203, x3204, x3205⟩, h3200, H⟩ := bnd H
 refine WPL.c (runs_call (s := [1]) (t := [1]) (N := 3) (bor := []) fn32 rfl (s_bits_Reader_Take k x3184 x3186 x3187 x3202 x3203 x3204 x3205 h3200) ⟨rfl, ⟨trivial, .inr ⟨rfl, rfl, rfl⟩⟩, by decide, rfl, trivial⟩ rfl trivial (.ren rfl rfl (.ren rfl rfl .nil)) rfl ⟨trivial, rfl⟩ rfl) rfl ?_
 refine WPL.q (q_mv (v := .tup _) rfl) rfl ?_
 refine WPL.q (q_extract rfl rfl) rfl ?_
 refine WPL.q (q_extract rfl rfl) rfl ?_
 refine WPL.q (q_as (v := .lit (.int _ _)) rfl) rfl ?_
 refine WPL.q (q_as (v := .lit (.int _ _)) rfl) rfl ?_
 refine WPL.nilW ?_
 refine W.now ?_
 refine Then.n ?_
 refine WP.seq ?_
 refine WP.region ?_
 refine WPL.q (q_mv (v := .lit (.int _ _)) rfl) rfl ?_
 obtain ⟨y3207, h3205, H⟩ := bnd H
 rcases y3207 with _ | _
 · refine WPL.pW (runs_callP (s := []) (t := []) (N := 3) (bor := []) fn31 rfl (s_inflate_must k x3203 (Sum.inl ()) h3205) ⟨rfl, trivial, by decide, rfl, trivial⟩ rfl trivial (.ren rfl rfl .nil) rfl trivial rfl) ?_
   have q0 := Option.some.inj H
   subst q0
   exact W.now (Then.p (BodyR.mkP trivial [0, 1] ⟨rfl, rfl⟩ ⟨rfl, ⟨⟨trivial, .inl rfl⟩, .inl rfl⟩, by decide, rfl, ⟨⟨trivial, rfl⟩, rfl⟩⟩ rfl rfl))
 refine WPL.c (runs_call (s := []) (t := []) (N := 3) (bor := []) fn31 rfl (s_inflate_must k x3203 (Sum.inr ()) h3205) ⟨rfl, trivial, by decide, rfl, trivial⟩ rfl trivial (.ren rfl rfl .nil) rfl trivial rfl) rfl ?_
 refine WPL.nilW ?_
 refine W.now ?_
 refine Then.n ?_
 refine WP.seq ?_
 refine WP.region ?_
 refine WPL.q (q_mv (v := .lit (.int _ _)) rfl) rfl ?_
 refine WPL.q (q_conv Try.underlying57 Try.underlying3 rfl) rfl ?_
 refine WPL.q (q_as (v := .lit (.int _ _)) rfl) rfl ?_
 refine WPL.nilW ?_
 refine W.now ?_
 refine Then.n ?_
 refine WP.retW ?_
 have q0 := Option.some.inj H
 subst q0
 exact W.now (BodyR.mkR trivial rfl [0, 1, 2] ⟨rfl, rfl⟩ ⟨rfl, ⟨⟨⟨trivial, .inr ⟨rfl, rfl, rfl⟩⟩, .inr ⟨rfl, rfl, rfl⟩⟩, .inr ⟨rfl, rfl, rfl⟩⟩, by decide, rfl, ⟨⟨trivial, rfl⟩, rfl⟩⟩ rfl rfl)
set_option maxRecDepth 100000 in
set_option maxHeartbeats 4000000 in
theorem s_inflate_stream_copied__b (k : Nat) (x3172 : Int) (x3173 : Int) (x3174 : (List Int)) (x3175 : Int) (x3176 : (List Int)) (r : (Int ⊕ ((List Int) × Int × (List Int)))) (H : g_inflate_stream_copied__b k x3172 x3173 x3174 x3175 x3176 = some r) : Go.Q.Spec Try.prog 37 2 [.ptr 0 0, .lit (.int .i64 x3172), .lit (.pointer none)] (((Mem.nil.push (.cells 45 [.ptr 1 0, .whole 2, .lit (.int .i64 x3173)])).push (.cells 52 [.ro (Rd.slice (Rd.int .u8)) false x3174, .lit (.int .i64 x3175)])).push (.row 5 (Rd.int .u8) x3176)) (fun o M => match (generalizing := false) r with | (Sum.inl x3265) => o = .pan (.ifc 46 (.lit (.int .i64 x3265))) ∧ M = ((Mem.nil.push (.gone)).push (.gone)) | (Sum.inr (x3266, x3267, x3268)) => o = .ret (.tup []) ∧ M = (((Mem.nil.push (.cells 45 [.ptr 1 0, .whole 2, .lit (.int .i64 x3173)])).push (.cells 52 [.ro (Rd.slice (Rd.int .u8)) false x3266, .lit (.int .i64 x3267)])).push (.row 5 (Rd.int .u8) x3268))) := by
 unfold g_inflate_stream_copied__b at H
 refine Go.Q.Spec.of_bodyR (az := []) (rs := []) (nt := 76) Try.func37 rfl rfl (by intro t T h; simp at h) rfl rfl fun cx hnp => ?_
 refine WP.seq ?_
 refine WP.region ?_
 refine WPL.q (q_mv (v := .lit (.int _ _)) rfl) rfl ?_
 obtain ⟨⟨x3270, x3271, x3272⟩, h3268, H⟩ := bnd H
 refine WPL.c (runs_call (s := []) (t := []) (N := 3) (bor := []) fn6 rfl (s_inflate_Lit k x3172 x3270 x3271 x3272 h3268) ⟨rfl, trivial, by decide, rfl, trivial⟩ rfl trivial (.ren rfl rfl .nil) rfl trivial rfl) rfl ?_
 refine WPL.q (q_mv (v := .tup _) rfl) rfl ?_
 refine WPL.q (q_extract rfl rfl) rfl ?_
 refine WPL.q (q_extract rfl rfl) rfl ?_
 refine WPL.q (q_extract rfl rfl) rfl ?_
 refine WPL.q (q_as (v := .lit (.int _ _)) rfl) rfl ?_
 refine WPL.q (q_as (v := .lit (.int _ _)) rfl) rfl ?_
 refine WPL.q (q_as (v := .lit (.bool _)) rfl) rfl ?_
 refine WPL.nilW ?_
 refine W.now ?_
 refine Then.n ?_
 refine WP.seq ?_
 refine WP.region ?_
 refine WPL.q (q_mv (v := .lit (.bool _)) rfl) rfl ?_
 obtain ⟨y3274, h3272, H⟩ := bnd H
 rcases y3274 with _ | _
 · refine WPL.pW (runs_callP (s := []) (t := []) (N := 3) (bor := []) fn34 rfl (s_inflate_ask k x3272 12 (Sum.inl ()) h3272) ⟨rfl, trivial, by decide, rfl, trivial⟩ rfl trivial (.ren rfl rfl (.ren rfl rfl .nil)) rfl trivial rfl) ?_
   have q0 := Option.some.inj H
   subst q0
   exact W.now (Then.p (BodyR.mkP trivial [0, 1] ⟨rfl, rfl⟩ ⟨rfl, ⟨⟨trivial, .inl rfl⟩, .inl rfl⟩, by decide, rfl, ⟨⟨trivial, rfl⟩, rfl⟩⟩ rfl rfl))
 refine WPL.c (runs_call (s := []) (t := []) (N := 3) (bor := []) fn34 rfl (s_inflate_ask k x3272 12 (Sum.inr ()) h3272) ⟨rfl, trivial, by decide, rfl, trivial⟩ rfl trivial (.ren rfl rfl (.ren rfl rfl .nil)) rfl trivial rfl) rfl ?_
 refine WPL.nilW ?_
 refine W.now ?_
 refine Then.n ?_
 refine WP.seq ?_
 refine WP.region ?_
 refine WPL.q (q_mv (v := .lit (.int _ _)) rfl) rfl ?_
 refine WPL.q (q_mv (v := .ptr _ _) rfl) rfl ?_
 refine WPL.q (q_mv (v := .lit (.int _ _)) rfl) rfl ?_
 obtain ⟨y3280, h3274, H⟩ := bnd H
 rcases y3280 with x3276 | ⟨x3277, x3278, x3279⟩
 · refine WPL.pW (runs_callP (s := [0, 1, 2]) (t := [0, 1]) (N := 3) (bor := []) fn26 rfl (s_inflate_stream_take__b k x3271 x3173 x3174 x3175 x3176 (Sum.inl x3276) h3274) ⟨rfl, ⟨⟨⟨trivial, .inr ⟨rfl, rfl, rfl⟩⟩, .inr ⟨rfl, rfl, rfl⟩⟩, .inr ⟨rfl, rfl, rfl⟩⟩, by decide, rfl, trivial⟩ rfl trivial (.ren rfl rfl (.ren rfl rfl .nil)) rfl ⟨⟨trivial, rfl⟩, rfl⟩ rfl) ?_
   have q0 := Option.some.inj H
   subst q0
   exact W.now (Then.p (BodyR.mkP trivial [0, 1] ⟨rfl, rfl⟩ ⟨rfl, ⟨⟨trivial, .inl rfl⟩, .inl rfl⟩, by decide, rfl, ⟨⟨trivial, rfl⟩, rfl⟩⟩ rfl rfl))
 refine WPL.c (runs_call (s := [0, 1, 2]) (t := [0, 1, 3]) (N := 4) (bor := []) fn26 rfl (s_inflate_stream_take__b k x3271 x3173 x3174 x3175 x3176 (Sum.inr (x3277, x3278, x3279)) h3274) ⟨rfl, ⟨⟨⟨trivial, .inr ⟨rfl, rfl, rfl⟩⟩, .inr ⟨rfl, rfl, rfl⟩⟩, .inr ⟨rfl, rfl, rfl⟩⟩, by decide, rfl, trivial⟩ rfl trivial (.ren rfl rfl (.ren rfl rfl .nil)) rfl ⟨⟨⟨trivial, rfl⟩, rfl⟩, rfl⟩ rfl) rfl ?_
 refine WPL.q (q_add rfl rfl) rfl ?_
 refine WPL.q (q_as (v := .lit (.int _ _)) rfl) rfl ?_
 refine WPL.nilW ?_
 refine W.now ?_
 refine Then.n ?_
 refine WP.seq ?_
 refine WP.region ?_
 refine WPL.q (q_mv (v := .ptr _ _) rfl) rfl ?_
 refine WPL.q (q_mv (v := .lit _) rfl) rfl ?_
 obtain ⟨y3282, h3280, H⟩ := bnd H
 rcases y3282 with _ | _
 · refine WPL.pW (runs_callP (s := [0, 1, 3]) (t := [0, 1]) (N := 4) (bor := []) fn36 rfl (s_inflate_stream_sym__b k x3173 x3278 x3279 x3176 (Sum.inl ()) h3280) ⟨rfl, ⟨⟨⟨trivial, .inr ⟨rfl, rfl, rfl⟩⟩, .inr ⟨rfl, rfl, rfl⟩⟩, .inr ⟨rfl, rfl, rfl⟩⟩, by decide, rfl, trivial⟩ rfl trivial (.ren rfl rfl (.ren rfl rfl .nil)) rfl ⟨⟨trivial, rfl⟩, rfl⟩ rfl) ?_
   have q0 := Option.some.inj H
   subst q0
   exact W.now (Then.p (BodyR.mkP trivial [0, 1] ⟨rfl, rfl⟩ ⟨rfl, ⟨⟨trivial, .inl rfl⟩, .inl rfl⟩, by decide, rfl, ⟨⟨trivial, rfl⟩, rfl⟩⟩ rfl rfl))
 refine WPL.c (runs_call (s := [0, 1, 3]) (t := [0, 1, 4]) (N := 5) (bor := []) fn36 rfl (s_inflate_stream_sym__b k x3173 x3278 x3279 x3176 (Sum.inr ()) h3280) ⟨rfl, ⟨⟨⟨trivial, .inr ⟨rfl, rfl, rfl⟩⟩, .inr ⟨rfl, rfl, rfl⟩⟩, .inr ⟨rfl, rfl, rfl⟩⟩, by decide, rfl, trivial⟩ rfl trivial (.ren rfl rfl (.ren rfl rfl .nil)) rfl ⟨⟨⟨trivial, rfl⟩, rfl⟩, rfl⟩ rfl) rfl ?_
 obtain ⟨⟨x3284, x3285, x3286⟩, h3282, H⟩ := bnd H
 refine WPL.c (runs_call (s := []) (t := []) (N := 5) (bor := []) fn8 rfl (s_inflate_Dist k 0 x3284 x3285 x3286 h3282) ⟨rfl, trivial, by decide, rfl, trivial⟩ rfl trivial (.ren rfl rfl .nil) rfl trivial rfl) rfl ?_
 refine WPL.q (q_mv (v := .tup _) rfl) rfl ?_
 refine WPL.q (q_extract rfl rfl) rfl ?_
 refine WPL.q (q_extract rfl rfl) rfl ?_
 refine WPL.q (q_extract rfl rfl) rfl ?_
 refine WPL.q (q_as (v := .lit (.int _ _)) rfl) rfl ?_
 refine WPL.q (q_as (v := .lit (.int _ _)) rfl) rfl ?_
 refine WPL.q (q_as (v := .lit (.bool _)) rfl) rfl ?_
 refine WPL.nilW ?_
 refine W.now ?_
 refine Then.n ?_
 refine WP.seq ?_
 refine WP.region ?_
 refine WPL.q (q_mv (v := .lit (.bool _)) rfl) rfl ?_
 obtain ⟨y3288, h3286, H⟩ := bnd H
 rcases y3288 with _ | _
 · refine WPL.pW (runs_callP (s := []) (t := []) (N := 5) (bor := []) fn34 rfl (s_inflate_ask k x3286 12 (Sum.inl ()) h3286) ⟨rfl, trivial, by decide, rfl, trivial⟩ rfl trivial (.ren rfl rfl (.ren rfl rfl .nil)) rfl trivial rfl) ?_
   have q0 := Option.some.inj H
   subst q0
   exact W.now (Then.p (BodyR.mkP trivial [0, 1] ⟨rfl, rfl⟩ ⟨rfl, ⟨⟨trivial, .inl rfl⟩, .inl rfl⟩, by decide, rfl, ⟨⟨trivial, rfl⟩, rfl⟩⟩ rfl rfl))
 refine WPL.c (runs_call (s := []) (t := []) (N := 5) (bor := []) fn34 rfl (s_inflate_ask k x3286 12 (Sum.inr ()) h3286) ⟨rfl, trivial, by decide, rfl, trivial⟩ rfl trivial (.ren rfl rfl (.ren rfl rfl .nil)) rfl trivial rfl) rfl ?_
 refine WPL.nilW ?_
 refine W.now ?_
 refine Then.n ?_
 refine WP.seq ?_
 refine WP.region ?_
 refine WPL.q (q_mv (v := .lit (.int _ _)) rfl) rfl ?_
 refine WPL.q (q_mv (v := .ptr _ _) rfl) rfl ?_
 refine WPL.q (q_mv (v := .lit (.int _ _)) rfl) rfl ?_
 obtain ⟨y3294, h3288, H⟩ := bnd H
 rcases y3294 with x3290 | ⟨x3291, x3292, x3293⟩
 · refine WPL.pW (runs_callP (s := [0, 1, 4]) (t := [0, 1]) (N := 5) (bor := []) fn26 rfl (s_inflate_stream_take__b k x3285 x3173 x3278 x3279 x3176 (Sum.inl x3290) h3288) ⟨rfl, ⟨⟨⟨trivial, .inr ⟨rfl, rfl, rfl⟩⟩, .inr ⟨rfl, rfl, rfl⟩⟩, .inr ⟨rfl, rfl, rfl⟩⟩, by decide, rfl, trivial⟩ rfl trivial (.ren rfl rfl (.ren rfl rfl .nil)) rfl ⟨⟨trivial, rfl⟩, rfl⟩ rfl) ?_
   have q0 := Option.some.inj H
   subst q0
   exact W.now (Then.p (BodyR.mkP trivial [0, 1] ⟨rfl, rfl⟩ ⟨rfl, ⟨⟨trivial, .inl rfl⟩, .inl rfl⟩, by decide, rfl, ⟨⟨trivial, rfl⟩, rfl⟩⟩ rfl rfl))
 refine WPL.c (runs_call (s := [0, 1, 4]) (t := [0, 1, 5]) (N := 6) (bor := []) fn26 rfl (s_inflate_stream_take__b k x3285 x3173 x3278 x3279 x3176 (Sum.inr (x3291, x3292, x3293)) h3288) ⟨rfl, ⟨⟨⟨trivial, .inr ⟨rfl, rfl, rfl⟩⟩, .inr ⟨rfl, rfl, rfl⟩⟩, .inr ⟨rfl, rfl, rfl⟩⟩, by decide, rfl, trivial⟩ rfl trivial (.ren rfl rfl (.ren rfl rfl .nil)) rfl ⟨⟨⟨trivial, rfl⟩, rfl⟩, rfl⟩ rfl) rfl ?_
 refine WPL.q (q_add rfl rfl) rfl ?_
 refine WPL.q (q_as (v := .lit (.int _ _)) rfl) rfl ?_
 refine WPL.nilW ?_
 refine W.now ?_
 refine Then.n ?_
 refine WP.seq ?_
 refine WP.region ?_
 refine WPL.q (q_mv (v := .lit (.int _ _)) rfl) rfl ?_
 refine WPL.q (q_mv (v := .ptr _ _) rfl) rfl ?_
 refine WPL.q (q_nilCheck rfl) rfl ?_
 refine WPL.q (q_fieldAddr fi45_1 rfl rfl) rfl ?_
 refine WPL.q (q_load sc29 rfl rfl rfl) rfl ?_
 refine WPL.q (q_len_row sl29 rfl rfl) rfl ?_
 obtain ⟨x3295, h3295, H⟩ := bnd H
 refine WPL.q (q_nm (q_leq rfl rfl) (nm_bool h3295)) rfl ?_
 obtain ⟨y3297, h3295, H⟩ := bnd H
 rcases y3297 with _ | _
 · refine WPL.pW (runs_callP (s := []) (t := []) (N := 6) (bor := []) fn34 rfl (s_inflate_ask k x3295 12 (Sum.inl ()) h3295) ⟨rfl, trivial, by decide, rfl, trivial⟩ rfl trivial (.ren rfl rfl (.ren rfl rfl .nil)) rfl trivial rfl) ?_
   have q0 := Option.some.inj H
   subst q0
   exact W.now (Then.p (BodyR.mkP trivial [0, 1] ⟨rfl, rfl⟩ ⟨rfl, ⟨⟨trivial, .inl rfl⟩, .inl rfl⟩, by decide, rfl, ⟨⟨trivial, rfl⟩, rfl⟩⟩ rfl rfl))
 refine WPL.c (runs_call (s := []) (t := []) (N := 6) (bor := []) fn34 rfl (s_inflate_ask k x3295 12 (Sum.inr ()) h3295) ⟨rfl, trivial, by decide, rfl, trivial⟩ rfl trivial (.ren rfl rfl (.ren rfl rfl .nil)) rfl trivial rfl) rfl ?_
 refine WPL.nilW ?_
 refine W.now ?_
 refine Then.n ?_
 refine WP.seq ?_
 refine WP.region ?_
 refine WPL.q (q_mv (v := .ptr _ _) rfl) rfl ?_
 refine WPL.q (q_mv (v := .lit (.int _ _)) rfl) rfl ?_
 obtain ⟨y3299, h3297, H⟩ := bnd H
 rcases y3299 with _ | _
 · refine WPL.pW (runs_callP (s := [0, 1, 5]) (t := [0, 1]) (N := 6) (bor := []) fn35 rfl (s_inflate_stream_room__b k (IntKind.wrap .i64 (x3270 + x3277)) x3173 x3292 x3293 x3176 (Sum.inl ()) h3297) ⟨rfl, ⟨⟨⟨trivial, .inr ⟨rfl, rfl, rfl⟩⟩, .inr ⟨rfl, rfl, rfl⟩⟩, .inr ⟨rfl, rfl, rfl⟩⟩, by decide, rfl, trivial⟩ rfl trivial (.ren rfl rfl (.ren rfl rfl .nil)) rfl ⟨⟨trivial, rfl⟩, rfl⟩ rfl) ?_
   have q0 := Option.some.inj H
   subst q0
   exact W.now (Then.p (BodyR.mkP trivial [0, 1] ⟨rfl, rfl⟩ ⟨rfl, ⟨⟨trivial, .inl rfl⟩, .inl rfl⟩, by decide, rfl, ⟨⟨trivial, rfl⟩, rfl⟩⟩ rfl rfl))
 refine WPL.c (runs_call (s := [0, 1, 5]) (t := [0, 1, 6]) (N := 7) (bor := []) fn35 rfl (s_inflate_stream_room__b k (IntKind.wrap .i64 (x3270 + x3277)) x3173 x3292 x3293 x3176 (Sum.inr ()) h3297) ⟨rfl, ⟨⟨⟨trivial, .inr ⟨rfl, rfl, rfl⟩⟩, .inr ⟨rfl, rfl, rfl⟩⟩, .inr ⟨rfl, rfl, rfl⟩⟩, by decide, rfl, trivial⟩ rfl trivial (.ren rfl rfl (.ren rfl rfl .nil)) rfl ⟨⟨⟨trivial, rfl⟩, rfl⟩, rfl⟩ rfl) rfl ?_
 refine WPL.nilW ?_
 refine W.now ?_
 refine Then.n ?_
 refine WP.seq ?_
 refine WP.region ?_
 refine WPL.q (q_mv (v := .lit (.int _ _)) rfl) rfl ?_
 refine WPL.q (q_mv (v := .lit (.int _ _)) rfl) rfl ?_
 refine WPL.nilW ?_
 refine W.now ?_
 refine Then.n ?_
 refine WP.block ?_
 refine WP.cv (Cv.weak (E' := ((((Env.none.upd 0 (.ptr 0 0)).upd 10 (.lit (.int .i64 (IntKind.wrap .i64 (x3284 + x3291))))).upd 50 (.lit (.int .i64 (IntKind.wrap .i64 (x3270 + x3277))))).upd 51 (.lit (.int .i64 0)))) (M' := (((Mem.nil.push (.cells 45 [.ptr 1 0, .whole 2, .lit (.int .i64 x3173)])).push (.cells 52 [.ro (Rd.slice (Rd.int .u8)) false x3292, .lit (.int .i64 x3293)])).push (.row 5 (Rd.int .u8) x3176))) [0, 1, 6] hnp ⟨rfl, ⟨⟨⟨trivial, .inr ⟨rfl, rfl, rfl⟩⟩, .inr ⟨rfl, rfl, rfl⟩⟩, .inr ⟨rfl, rfl, rfl⟩⟩, by decide, rfl, ⟨⟨trivial, rfl⟩, rfl⟩⟩ (LeE.upd rfl rfl (LeE.upd rfl rfl (LeE.upd rfl rfl (LeE.upd rfl rfl (LeE.none rfl rfl)))))) ?_
 obtain ⟨x3330, H3344, H⟩ := bnd H
 refine WP.monoW (Q := fun x E M => x = .exit 0 ∧ E = Env.none ∧ M = (((Mem.nil.push (.cells 45 [.ptr 1 0, .whole 2, .lit (.int .i64 x3173)])).push (.cells 52 [.ro (Rd.slice (Rd.int .u8)) false x3292, .lit (.int .i64 x3293)])).push (.row 5 (Rd.int .u8) x3330))) ?_ ?_
 · refine WP.loop (β := Int × (List Int)) (fun n b => g_inflate_stream_copied__b_l0 k x3270 x3277 x3284 x3291 n b.1 b.2 = some x3330) (fun b => ((((Env.none.upd 0 (.ptr 0 0)).upd 10 (.lit (.int .i64 (IntKind.wrap .i64 (x3284 + x3291))))).upd 50 (.lit (.int .i64 (IntKind.wrap .i64 (x3270 + x3277))))).upd 51 (.lit (.int .i64 b.1)))) (fun b => (((Mem.nil.push (.cells 45 [.ptr 1 0, .whole 2, .lit (.int .i64 x3173)])).push (.cells 52 [.ro (Rd.slice (Rd.int .u8)) false x3292, .lit (.int .i64 x3293)])).push (.row 5 (Rd.int .u8) b.2))) k (0, x3176) H3344 rfl rfl ?_
   rintro n ⟨x3314, x3315⟩ H
   obtain _ | n := n
   · exact nf rfl H
   rw [g_inflate_stream_copied__b_l0.eq_2] at H
   show WP _ _ _ _ ((((Env.none.upd 0 (.ptr 0 0)).upd 10 (.lit (.int .i64 (IntKind.wrap .i64 (x3284 + x3291))))).upd 50 (.lit (.int .i64 (IntKind.wrap .i64 (x3270 + x3277))))).upd 51 (.lit (.int .i64 x3314))) (((Mem.nil.push (.cells 45 [.ptr 1 0, .whole 2, .lit (.int .i64 x3173)])).push (.cells 52 [.ro (Rd.slice (Rd.int .u8)) false x3292, .lit (.int .i64 x3293)])).push (.row 5 (Rd.int .u8) x3315)) _
   refine WP.seq ?_
   refine WP.region ?_
   obtain ⟨x3331, h3331, H⟩ := bnd H
   refine WPL.q (q_nm (q_lss rfl rfl) (nm_bool h3331)) rfl ?_
   refine WPL.nilW ?_
   refine W.now ?_
   refine Then.n ?_
   refine WP.seq ?_
   refine WP.cond (t := x3331) rfl (fun hb3332 => ?_) (fun hb3332 => ?_)
   · replace H := cnt hb3332 H
     refine WP.skipW ?_
     refine W.now ?_
     refine Then.n ?_
     refine WP.seq ?_
     refine WP.block ?_
     refine WP.regionD' 23 [0, 2] [19] mixed rfl ?_
     refine WPD.takeT 0 rfl (by kernel_rfl) (q_mv (v := .ptr _ _) rfl) rfl ?_
     refine WPD.takeT 1 rfl (by kernel_rfl) (q_mv (v := .ptr _ _) rfl) rfl ?_
     refine WPD.takeT 2 rfl (by kernel_rfl) (q_nilCheck rfl) rfl ?_
     refine WPD.takeT 3 rfl (by kernel_rfl) (q_fieldAddr fi45_1 rfl rfl) rfl ?_
     refine WPD.takeT 5 rfl (by kernel_rfl) (q_mv (v := .ptr _ _) rfl) rfl ?_
     refine WPD.takeT 6 rfl (by kernel_rfl) (q_nilCheck rfl) rfl ?_
     refine WPD.takeT 7 rfl (by kernel_rfl) (q_fieldAddr fi45_1 rfl rfl) rfl ?_
     refine WPD.takeT 9 rfl (by kernel_rfl) (q_mv (v := .ptr _ _) rfl) rfl ?_
     refine WPD.takeT 10 rfl (by kernel_rfl) (q_nilCheck rfl) rfl ?_
     refine WPD.takeT 11 rfl (by kernel_rfl) (q_fieldAddr fi45_1 rfl rfl) rfl ?_
     refine WPD.takeT 14 rfl (by kernel_rfl) (q_mv (v := .lit (.int _ _)) rfl) rfl ?_
     refine WPD.take 4 rfl (by kernel_rfl) (q_load sc29 rfl rfl rfl) rfl rfl ?_
     refine WPD.take 8 rfl (by kernel_rfl) (q_load sc29 rfl rfl rfl) rfl rfl ?_
     refine WPD.take 12 rfl (by kernel_rfl) (q_load sc29 rfl rfl rfl) rfl rfl ?_
     refine WPD.takeT 13 rfl (by kernel_rfl) (q_len_row sl29 rfl rfl) rfl ?_
     obtain ⟨x3342, h3342, H⟩ := bnd H
     refine WPD.takeT 15 rfl (by kernel_rfl) (q_nm (q_sub rfl rfl) (nm_int h3342)) rfl ?_
     obtain ⟨x3343, h3343, H⟩ := bnd H
     refine WPD.takeT 16 rfl (by kernel_rfl) (q_index_row sl29 rfl rfl rfl (ixs h3343)) rfl ?_
     refine WPD.take 17 rfl (by kernel_rfl) (q_load_row (j := (Int.toNat x3342)) sc5 rfl rfl (ixj h3343)) rfl rfl ?_
     refine WPD.eff 18 [0, 2] [19] rfl (by kernel_rfl) (Does.runs (d_buildSlice (ds := ([x3343] : List Int)) (R := (Rd.int .u8)) li29 rfl rfl rfl rfl rfl (JoinRows.cons1 Joins.sc rfl JoinRows.nil) rfl rfl)) rfl rfl ?_
     obtain ⟨h3343, H⟩ := grd H
     refine WPD.eff 19 [] [] rfl (by kernel_rfl) (Does.runs (d_append ap29 rfl rfl rfl rfl (src_row sl29 rfl rfl) h3343 rfl)) rfl rfl ?_
     refine WPD.takeT 20 rfl (by kernel_rfl) (q_nilCheck rfl) rfl ?_
     refine WPD.takeT 21 rfl (by kernel_rfl) (q_fieldAddr fi45_1 rfl rfl) rfl ?_
     refine WPD.effS 22 [] [] rfl (by kernel_rfl) (s_store sz29 rfl rfl rfl rfl rfl) rfl ?_
     refine WPD.doneW (by kernel_rfl) ?_
     refine W.now ?_
     refine InBlock.n ?_
     refine Then.n ?_
     refine WP.region ?_
     refine WPL.q (q_add rfl rfl) rfl ?_
     refine WPL.q (q_mv (v := .lit (.int _ _)) rfl) rfl ?_
     refine WPL.nilW ?_
     exact W.wk [0, 1, 4] hnp (Then.n ⟨n, ((IntKind.wrap .i64 (x3314 + 1)), (x3315 ++ ([x3343] : List Int))), Nat.lt_succ_self n, H, rfl, rfl⟩) ⟨rfl, ⟨⟨⟨trivial, .inr ⟨rfl, rfl, rfl⟩⟩, .inr ⟨rfl, rfl, rfl⟩⟩, .inr ⟨rfl, rfl, rfl⟩⟩, by decide, rfl, ⟨⟨trivial, rfl⟩, rfl⟩⟩ (LeE.upd rfl rfl (LeE.upd rfl rfl (LeE.upd rfl rfl (LeE.upd rfl rfl (LeE.none rfl rfl))))) rfl
   replace H := cnf hb3332 H
   refine WP.exitW ?_
   have q0 := (Option.some.inj H)
   subst q0
   exact W.wk [0, 1, 2] hnp (Then.x (Then.x ⟨rfl, rfl, rfl⟩)) ⟨rfl, ⟨⟨⟨trivial, .inr ⟨rfl, rfl, rfl⟩⟩, .inr ⟨rfl, rfl, rfl⟩⟩, .inr ⟨rfl, rfl, rfl⟩⟩, by decide, rfl, ⟨⟨trivial, rfl⟩, rfl⟩⟩ (LeE.none rfl rfl) rfl
 rintro _ _ _ ⟨rfl, rfl, rfl⟩
 have q0 := Option.some.inj H
 subst q0
 exact W.now (InBlock.x0 (BodyR.mkN trivial rfl [0, 1, 2] ⟨rfl, rfl⟩ ⟨rfl, ⟨⟨⟨trivial, .inr ⟨rfl, rfl, rfl⟩⟩, .inr ⟨rfl, rfl, rfl⟩⟩, .inr ⟨rfl, rfl, rfl⟩⟩, by decide, rfl, ⟨⟨trivial, rfl⟩, rfl⟩⟩ rfl rfl))
end Go.Proofs.Ytpceecokdpdgfaa.W
namespace Go.Proofs.Ytpceecokdpdgfaa.W
open Go Go.Q Go.Proofs
set_option linter.unusedVariables false
set_option linter.unusedSimpArgs false
set_option maxRecDepth 100000 in
set_option maxHeartbeats 4000000 in
theorem s_inflate_stream_copied__d (k : Nat) (x3598 : Int) (x3599 : Int) (x3600 : (List Int)) (x3601 : Int) (x3602 : (List Int)) (x3603 : (List Int)) (x3604 : (List Int)) (r : (Int ⊕ ((List Int) × Int × (List Int)))) (H : g_inflate_stream_copied__d k x3598 x3599 x3600 x3601 x3602 x3603 x3604 = some r) : Go.Q.Spec Try.prog 37 3 [.ptr 0 0, .lit (.int .i64 x3598), .ptr 2 0] (((((Mem.nil.push (.cells 45 [.ptr 1 0, .whole 3, .lit (.int .i64 x3599)])).push (.cells 52 [.ro (Rd.slice (Rd.int .u8)) false x3600, .lit (.int .i64 x3601)])).push (.cells 82 [.lit (.int .i64 (List.getD x3602 0 (0 : Int))), .lit (.int .i64 (List.getD x3602 1 (0 : Int))), .lit (.int .i64 (List.getD x3602 2 (0 : Int))), .lit (.int .i64 (List.getD x3602 3 (0 : Int))), .lit (.int .i64 (List.getD x3602 4 (0 : Int))), .lit (.int .i64 (List.getD x3602 5 (0 : Int))), .lit (.int .i64 (List.getD x3602 6 (0 : Int))), .lit (.int .i64 (List.getD x3602 7 (0 : Int))), .lit (.int .i64 (List.getD x3602 8 (0 : Int))), .lit (.int .i64 (List.getD x3602 9 (0 : Int))), .lit (.int .i64 (List.getD x3602 10 (0 : Int))), .lit (.int .i64 (List.getD x3602 11 (0 : Int))), .lit (.int .i64 (List.getD x3602 12 (0 : Int))), .lit (.int .i64 (List.getD x3602 13 (0 : Int))), .lit (.int .i64 (List.getD x3602 14 (0 : Int))), .lit (.int .i64 (List.getD x3602 15 (0 : Int))), .whole 4])).push (.row 5 (Rd.int .u8) x3603)).push (.row 3 (Rd.int .i64) x3604)) (fun o M => match (generalizing := false) r with | (Sum.inl x3673) => o = .pan (.ifc 46 (.lit (.int .i64 x3673))) ∧ M = (((Mem.nil.push (.gone)).push (.gone)).push (.gone)) | (Sum.inr (x3674, x3675, x3676)) => o = .ret (.tup []) ∧ M = (((((Mem.nil.push (.cells 45 [.ptr 1 0, .whole 3, .lit (.int .i64 x3599)])).push (.cells 52 [.ro (Rd.slice (Rd.int .u8)) false x3674, .lit (.int .i64 x3675)])).push (.cells 82 [.lit (.int .i64 (List.getD x3602 0 (0 : Int))), .lit (.int .i64 (List.getD x3602 1 (0 : Int))), .lit (.int .i64 (List.getD x3602 2 (0 : Int))), .lit (.int .i64 (List.getD x3602 3 (0 : Int))), .lit (.int .i64 (List.getD x3602 4 (0 : Int))), .lit (.int .i64 (List.getD x3602 5 (0 : Int))), .lit (.int .i64 (List.getD x3602 6 (0 : Int))), .lit (.int .i64 (List.getD x3602 7 (0 : Int))), .lit (.int .i64 (List.getD x3602 8 (0 : Int))), .lit (.int .i64 (List.getD x3602 9 (0 : Int))), .lit (.int .i64 (List.getD x3602 10 (0 : Int))), .lit (.int .i64 (List.getD x3602 11 (0 : Int))), .lit (.int .i64 (List.getD x3602 12 (0 : Int))), .lit (.int .i64 (List.getD x3602 13 (0 : Int))), .lit (.int .i64 (List.getD x3602 14 (0 : Int))), .lit (.int .i64 (List.getD x3602 15 (0 : Int))), .whole 4])).push (.row 5 (Rd.int .u8) x3676)).push (.row 3 (Rd.int .i64) x3604))) := by
 unfold g_inflate_stream_copied__d at H
 refine Go.Q.Spec.of_bodyR (az := []) (rs := []) (nt := 76) Try.func37 rfl rfl (by intro t T h; simp at h) rfl rfl fun cx hnp => ?_
 refine WP.seq ?_
 refine WP.region ?_
 refine WPL.q (q_mv (v := .lit (.int _ _)) rfl) rfl ?_
 obtain ⟨⟨x3678, x3679, x3680⟩, h3676, H⟩ := bnd H
 refine WPL.c (runs_call (s := []) (t := []) (N := 5) (bor := []) fn6 rfl (s_inflate_Lit k x3598 x3678 x3679 x3680 h3676) ⟨rfl, trivial, by decide, rfl, trivial⟩ rfl trivial (.ren rfl rfl .nil) rfl trivial rfl) rfl ?_
 refine WPL.q (q_mv (v := .tup _) rfl) rfl ?_
 refine WPL.q (q_extract rfl rfl) rfl ?_
 refine WPL.q (q_extract rfl rfl) rfl ?_
 refine WPL.q (q_extract rfl rfl) rfl ?_
 refine WPL.q (q_as (v := .lit (.int _ _)) rfl) rfl ?_
 refine WPL.q (q_as (v := .lit (.int _ _)) rfl) rfl ?_
 refine WPL.q (q_as (v := .lit (.bool _)) rfl) rfl ?_
 refine WPL.nilW ?_
 refine W.now ?_
 refine Then.n ?_
 refine WP.seq ?_
 refine WP.region ?_
 refine WPL.q (q_mv (v := .lit (.bool _)) rfl) rfl ?_
 obtain ⟨y3682, h3680, H⟩ := bnd H
 rcases y3682 with _ | _
 · refine WPL.pW (runs_callP (s := []) (t := []) (N := 5) (bor := []) fn34 rfl (s_inflate_ask k x3680 12 (Sum.inl ()) h3680) ⟨rfl, trivial, by decide, rfl, trivial⟩ rfl trivial (.ren rfl rfl (.ren rfl rfl .nil)) rfl trivial rfl) ?_
   have q0 := Option.some.inj H
   subst q0
   exact W.now (Then.p (BodyR.mkP trivial [0, 1, 2] ⟨rfl, rfl⟩ ⟨rfl, ⟨⟨⟨trivial, .inl rfl⟩, .inl rfl⟩, .inl rfl⟩, by decide, rfl, ⟨⟨⟨trivial, rfl⟩, rfl⟩, rfl⟩⟩ rfl rfl))
 refine WPL.c (runs_call (s := []) (t := []) (N := 5) (bor := []) fn34 rfl (s_inflate_ask k x3680 12 (Sum.inr ()) h3680) ⟨rfl, trivial, by decide, rfl, trivial⟩ rfl trivial (.ren rfl rfl (.ren rfl rfl .nil)) rfl trivial rfl) rfl ?_
 refine WPL.nilW ?_
 refine W.now ?_
 refine Then.n ?_
 refine WP.seq ?_
 refine WP.region ?_
 refine WPL.q (q_mv (v := .lit (.int _ _)) rfl) rfl ?_
 refine WPL.q (q_mv (v := .ptr _ _) rfl) rfl ?_
 refine WPL.q (q_mv (v := .lit (.int _ _)) rfl) rfl ?_
 obtain ⟨y3688, h3682, H⟩ := bnd H
 rcases y3688 with x3684 | ⟨x3685, x3686, x3687⟩
 · refine WPL.pW (runs_callP (s := [0, 1, 3]) (t := [0, 1]) (N := 5) (bor := []) fn26 rfl (s_inflate_stream_take__b k x3679 x3599 x3600 x3601 x3603 (Sum.inl x3684) h3682) ⟨rfl, ⟨⟨⟨trivial, .inr ⟨rfl, rfl, rfl⟩⟩, .inr ⟨rfl, rfl, rfl⟩⟩, .inr ⟨rfl, rfl, rfl⟩⟩, by decide, rfl, trivial⟩ rfl trivial (.ren rfl rfl (.ren rfl rfl .nil)) rfl ⟨⟨trivial, rfl⟩, rfl⟩ rfl) ?_
   have q0 := Option.some.inj H
   subst q0
   exact W.now (Then.p (BodyR.mkP trivial [0, 1, 2] ⟨rfl, rfl⟩ ⟨rfl, ⟨⟨⟨trivial, .inl rfl⟩, .inl rfl⟩, .inl rfl⟩, by decide, rfl, ⟨⟨⟨trivial, rfl⟩, rfl⟩, rfl⟩⟩ rfl rfl))
 refine WPL.c (runs_call (s := [0, 1, 3]) (t := [0, 1, 5]) (N := 6) (bor := []) fn26 rfl (s_inflate_stream_take__b k x3679 x3599 x3600 x3601 x3603 (Sum.inr (x3685, x3686, x3687)) h3682) ⟨rfl, ⟨⟨⟨trivial, .inr ⟨rfl, rfl, rfl⟩⟩, .inr ⟨rfl, rfl, rfl⟩⟩, .inr ⟨rfl, rfl, rfl⟩⟩, by decide, rfl, trivial⟩ rfl trivial (.ren rfl rfl (.ren rfl rfl .nil)) rfl ⟨⟨⟨trivial, rfl⟩, rfl⟩, rfl⟩ rfl) rfl ?_
 refine WPL.q (q_add rfl rfl) rfl ?_
 refine WPL.q (q_as (v := .lit (.int _ _)) rfl) rfl ?_
 refine WPL.nilW ?_
 refine W.now ?_
 refine Then.n ?_
 refine WP.seq ?_
 refine WP.region ?_
 refine WPL.q (q_mv (v := .ptr _ _) rfl) rfl ?_
 refine WPL.q (q_mv (v := .ptr _ _) rfl) rfl ?_
 obtain ⟨y3694, h3688, H⟩ := bnd H
 rcases y3694 with x3690 | ⟨x3691, x3692, x3693⟩
 · refine WPL.pW (runs_callP (s := [0, 1, 2, 5, 4]) (t := [0, 1, 2]) (N := 6) (bor := []) fn36 rfl (s_inflate_stream_sym__d k x3599 x3686 x3687 x3602 x3603 x3604 (Sum.inl x3690) h3688) ⟨rfl, ⟨⟨⟨⟨⟨trivial, .inr ⟨rfl, rfl, rfl⟩⟩, .inr ⟨rfl, rfl, rfl⟩⟩, .inr ⟨rfl, rfl, rfl⟩⟩, .inr ⟨rfl, rfl, rfl⟩⟩, .inr ⟨rfl, rfl, rfl⟩⟩, by decide, rfl, trivial⟩ rfl trivial (.ren rfl rfl (.ren rfl rfl .nil)) rfl ⟨⟨⟨trivial, rfl⟩, rfl⟩, rfl⟩ rfl) ?_
   have q0 := Option.some.inj H
   subst q0
   exact W.now (Then.p (BodyR.mkP trivial [0, 1, 2] ⟨rfl, rfl⟩ ⟨rfl, ⟨⟨⟨trivial, .inl rfl⟩, .inl rfl⟩, .inl rfl⟩, by decide, rfl, ⟨⟨⟨trivial, rfl⟩, rfl⟩, rfl⟩⟩ rfl rfl))
 refine WPL.c (runs_call (s := [0, 1, 2, 5, 4]) (t := [0, 1, 2, 6, 7]) (N := 8) (bor := []) fn36 rfl (s_inflate_stream_sym__d k x3599 x3686 x3687 x3602 x3603 x3604 (Sum.inr (x3691, x3692, x3693)) h3688) ⟨rfl, ⟨⟨⟨⟨⟨trivial, .inr ⟨rfl, rfl, rfl⟩⟩, .inr ⟨rfl, rfl, rfl⟩⟩, .inr ⟨rfl, rfl, rfl⟩⟩, .inr ⟨rfl, rfl, rfl⟩⟩, .inr ⟨rfl, rfl, rfl⟩⟩, by decide, rfl, trivial⟩ rfl trivial (.ren rfl rfl (.ren rfl rfl .nil)) rfl ⟨⟨⟨⟨⟨trivial, rfl⟩, rfl⟩, rfl⟩, rfl⟩, rfl⟩ rfl) rfl ?_
 obtain ⟨⟨x3696, x3697, x3698⟩, h3694, H⟩ := bnd H
 refine WPL.c (runs_call (s := []) (t := []) (N := 8) (bor := []) fn8 rfl (s_inflate_Dist k x3691 x3696 x3697 x3698 h3694) ⟨rfl, trivial, by decide, rfl, trivial⟩ rfl trivial (.ren rfl rfl .nil) rfl trivial rfl) rfl ?_
 refine WPL.q (q_mv (v := .tup _) rfl) rfl ?_
 refine WPL.q (q_extract rfl rfl) rfl ?_
 refine WPL.q (q_extract rfl rfl) rfl ?_
 refine WPL.q (q_extract rfl rfl) rfl ?_
 refine WPL.q (q_as (v := .lit (.int _ _)) rfl) rfl ?_
 refine WPL.q (q_as (v := .lit (.int _ _)) rfl) rfl ?_
 refine WPL.q (q_as (v := .lit (.bool _)) rfl) rfl ?_
 refine WPL.nilW ?_
 refine W.now ?_
 refine Then.n ?_
 refine WP.seq ?_
 refine WP.region ?_
 refine WPL.q (q_mv (v := .lit (.bool _)) rfl) rfl ?_
 obtain ⟨y3700, h3698, H⟩ := bnd H
 rcases y3700 with _ | _
 · refine WPL.pW (runs_callP (s := []) (t := []) (N := 8) (bor := []) fn34 rfl (s_inflate_ask k x3698 12 (Sum.inl ()) h3698) ⟨rfl, trivial, by decide, rfl, trivial⟩ rfl trivial (.ren rfl rfl (.ren rfl rfl .nil)) rfl trivial rfl) ?_
   have q0 := Option.some.inj H
   subst q0
   exact W.now (Then.p (BodyR.mkP trivial [0, 1, 2] ⟨rfl, rfl⟩ ⟨rfl, ⟨⟨⟨trivial, .inl rfl⟩, .inl rfl⟩, .inl rfl⟩, by decide, rfl, ⟨⟨⟨trivial, rfl⟩, rfl⟩, rfl⟩⟩ rfl rfl))
 refine WPL.c (runs_call (s := []) (t := []) (N := 8) (bor := []) fn34 rfl (s_inflate_ask k x3698 12 (Sum.inr ()) h3698) ⟨rfl, trivial, by decide, rfl, trivial⟩ rfl trivial (.ren rfl rfl (.ren rfl rfl .nil)) rfl trivial rfl) rfl ?_
 refine WPL.nilW ?_
 refine W.now ?_
 refine Then.n ?_
 refine WP.seq ?_
 refine WP.region ?_
 refine WPL.q (q_mv (v := .lit (.int _ _)) rfl) rfl ?_
 refine WPL.q (q_mv (v := .ptr _ _) rfl) rfl ?_
 refine WPL.q (q_mv (v := .lit (.int _ _)) rfl) rfl ?_
 obtain ⟨y3706, h3700, H⟩ := bnd H
 rcases y3706 with x3702 | ⟨x3703, x3704, x3705⟩
 · refine WPL.pW (runs_callP (s := [0, 1, 6]) (t := [0, 1]) (N := 8) (bor := []) fn26 rfl (s_inflate_stream_take__b k x3697 x3599 x3692 x3693 x3603 (Sum.inl x3702) h3700) ⟨rfl, ⟨⟨⟨trivial, .inr ⟨rfl, rfl, rfl⟩⟩, .inr ⟨rfl, rfl, rfl⟩⟩, .inr ⟨rfl, rfl, rfl⟩⟩, by decide, rfl, trivial⟩ rfl trivial (.ren rfl rfl (.ren rfl rfl .nil)) rfl ⟨⟨trivial, rfl⟩, rfl⟩ rfl) ?_
   have q0 := Option.some.inj H
   subst q0
   exact W.now (Then.p (BodyR.mkP trivial [0, 1, 2] ⟨rfl, rfl⟩ ⟨rfl, ⟨⟨⟨trivial, .inl rfl⟩, .inl rfl⟩, .inl rfl⟩, by decide, rfl, ⟨⟨⟨trivial, rfl⟩, rfl⟩, rfl⟩⟩ rfl rfl))
 refine WPL.c (runs_call (s := [0, 1, 6]) (t := [0, 1, 8]) (N := 9) (bor := []) fn26 rfl (s_inflate_stream_take__b k x3697 x3599 x3692 x3693 x3603 (Sum.inr (x3703, x3704, x3705)) h3700) ⟨rfl, ⟨⟨⟨trivial, .inr ⟨rfl, rfl, rfl⟩⟩, .inr ⟨rfl, rfl, rfl⟩⟩, .inr ⟨rfl, rfl, rfl⟩⟩, by decide, rfl, trivial⟩ rfl trivial (.ren rfl rfl (.ren rfl rfl .nil)) rfl ⟨⟨⟨trivial, rfl⟩, rfl⟩, rfl⟩ rfl) rfl ?_
 refine WPL.q (q_add rfl rfl) rfl ?_
 refine WPL.q (q_as (v := .lit (.int _ _)) rfl) rfl ?_
 refine WPL.nilW ?_
 refine W.now ?_
 refine Then.n ?_
 refine WP.seq ?_
 refine WP.region ?_
 refine WPL.q (q_mv (v := .lit (.int _ _)) rfl) rfl ?_
 refine WPL.q (q_mv (v := .ptr _ _) rfl) rfl ?_
 refine WPL.q (q_nilCheck rfl) rfl ?_
 refine WPL.q (q_fieldAddr fi45_1 rfl rfl) rfl ?_
 refine WPL.q (q_load sc29 rfl rfl rfl) rfl ?_
 refine WPL.q (q_len_row sl29 rfl rfl) rfl ?_
 obtain ⟨x3707, h3707, H⟩ := bnd H
 refine WPL.q (q_nm (q_leq rfl rfl) (nm_bool h3707)) rfl ?_
 obtain ⟨y3709, h3707, H⟩ := bnd H
 rcases y3709 with _ | _
 · refine WPL.pW (runs_callP (s := []) (t := []) (N := 9) (bor := []) fn34 rfl (s_inflate_ask k x3707 12 (Sum.inl ()) h3707) ⟨rfl, trivial, by decide, rfl, trivial⟩ rfl trivial (.ren rfl rfl (.ren rfl rfl .nil)) rfl trivial rfl) ?_
   have q0 := Option.some.inj H
   subst q0
   exact W.now (Then.p (BodyR.mkP trivial [0, 1, 2] ⟨rfl, rfl⟩ ⟨rfl, ⟨⟨⟨trivial, .inl rfl⟩, .inl rfl⟩, .inl rfl⟩, by decide, rfl, ⟨⟨⟨trivial, rfl⟩, rfl⟩, rfl⟩⟩ rfl rfl))
 refine WPL.c (runs_call (s := []) (t := []) (N := 9) (bor := []) fn34 rfl (s_inflate_ask k x3707 12 (Sum.inr ()) h3707) ⟨rfl, trivial, by decide, rfl, trivial⟩ rfl trivial (.ren rfl rfl (.ren rfl rfl .nil)) rfl trivial rfl) rfl ?_
 refine WPL.nilW ?_
 refine W.now ?_
 refine Then.n ?_
 refine WP.seq ?_
 refine WP.region ?_
 refine WPL.q (q_mv (v := .ptr _ _) rfl) rfl ?_
 refine WPL.q (q_mv (v := .lit (.int _ _)) rfl) rfl ?_
 obtain ⟨y3711, h3709, H⟩ := bnd H
 rcases y3711 with _ | _
 · refine WPL.pW (runs_callP (s := [0, 1, 8]) (t := [0, 1]) (N := 9) (bor := []) fn35 rfl (s_inflate_stream_room__b k (IntKind.wrap .i64 (x3678 + x3685)) x3599 x3704 x3705 x3603 (Sum.inl ()) h3709) ⟨rfl, ⟨⟨⟨trivial, .inr ⟨rfl, rfl, rfl⟩⟩, .inr ⟨rfl, rfl, rfl⟩⟩, .inr ⟨rfl, rfl, rfl⟩⟩, by decide, rfl, trivial⟩ rfl trivial (.ren rfl rfl (.ren rfl rfl .nil)) rfl ⟨⟨trivial, rfl⟩, rfl⟩ rfl) ?_
   have q0 := Option.some.inj H
   subst q0
   exact W.now (Then.p (BodyR.mkP trivial [0, 1, 2] ⟨rfl, rfl⟩ ⟨rfl, ⟨⟨⟨trivial, .inl rfl⟩, .inl rfl⟩, .inl rfl⟩, by decide, rfl, ⟨⟨⟨trivial, rfl⟩, rfl⟩, rfl⟩⟩ rfl rfl))
 refine WPL.c (runs_call (s := [0, 1, 8]) (t := [0, 1, 9]) (N := 10) (bor := []) fn35 rfl (s_inflate_stream_room__b k (IntKind.wrap .i64 (x3678 + x3685)) x3599 x3704 x3705 x3603 (Sum.inr ()) h3709) ⟨rfl, ⟨⟨⟨trivial, .inr ⟨rfl, rfl, rfl⟩⟩, .inr ⟨rfl, rfl, rfl⟩⟩, .inr ⟨rfl, rfl, rfl⟩⟩, by decide, rfl, trivial⟩ rfl trivial (.ren rfl rfl (.ren rfl rfl .nil)) rfl ⟨⟨⟨trivial, rfl⟩, rfl⟩, rfl⟩ rfl) rfl ?_
 refine WPL.nilW ?_
 refine W.now ?_
 refine Then.n ?_
 refine WP.seq ?_
 refine WP.region ?_
 refine WPL.q (q_mv (v := .lit (.int _ _)) rfl) rfl ?_
 refine WPL.q (q_mv (v := .lit (.int _ _)) rfl) rfl ?_
 refine WPL.nilW ?_
 refine W.now ?_
 refine Then.n ?_
 refine WP.block ?_
 refine WP.cv (Cv.weak (E' := ((((Env.none.upd 0 (.ptr 0 0)).upd 10 (.lit (.int .i64 (IntKind.wrap .i64 (x3696 + x3703))))).upd 50 (.lit (.int .i64 (IntKind.wrap .i64 (x3678 + x3685))))).upd 51 (.lit (.int .i64 0)))) (M' := (((((Mem.nil.push (.cells 45 [.ptr 1 0, .whole 3, .lit (.int .i64 x3599)])).push (.cells 52 [.ro (Rd.slice (Rd.int .u8)) false x3704, .lit (.int .i64 x3705)])).push (.cells 82 [.lit (.int .i64 (List.getD x3602 0 (0 : Int))), .lit (.int .i64 (List.getD x3602 1 (0 : Int))), .lit (.int .i64 (List.getD x3602 2 (0 : Int))), .lit (.int .i64 (List.getD x3602 3 (0 : Int))), .lit (.int .i64 (List.getD x3602 4 (0 : Int))), .lit (.int .i64 (List.getD x3602 5 (0 : Int))), .lit (.int .i64 (List.getD x3602 6 (0 : Int))), .lit (.int .i64 (List.getD x3602 7 (0 : Int))), .lit (.int .i64 (List.getD x3602 8 (0 : Int))), .lit (.int .i64 (List.getD x3602 9 (0 : Int))), .lit (.int .i64 (List.getD x3602 10 (0 : Int))), .lit (.int .i64 (List.getD x3602 11 (0 : Int))), .lit (.int .i64 (List.getD x3602 12 (0 : Int))), .lit (.int .i64 (List.getD x3602 13 (0 : Int))), .lit (.int .i64 (List.getD x3602 14 (0 : Int))), .lit (.int .i64 (List.getD x3602 15 (0 : Int))), .whole 4])).push (.row 5 (Rd.int .u8) x3603)).push (.row 3 (Rd.int .i64) x3604))) [0, 1, 2, 9, 7] hnp ⟨rfl, ⟨⟨⟨⟨⟨trivial, .inr ⟨rfl, rfl, rfl⟩⟩, .inr ⟨rfl, rfl, rfl⟩⟩, .inr ⟨rfl, rfl, rfl⟩⟩, .inr ⟨rfl, rfl, rfl⟩⟩, .inr ⟨rfl, rfl, rfl⟩⟩, by decide, rfl, ⟨⟨⟨trivial, rfl⟩, rfl⟩, rfl⟩⟩ (LeE.upd rfl rfl (LeE.upd rfl rfl (LeE.upd rfl rfl (LeE.upd rfl rfl (LeE.none rfl rfl)))))) ?_
 obtain ⟨x3742, H3756, H⟩ := bnd H
 refine WP.monoW (Q := fun x E M => x = .exit 0 ∧ E = Env.none ∧ M = (((((Mem.nil.push (.cells 45 [.ptr 1 0, .whole 3, .lit (.int .i64 x3599)])).push (.cells 52 [.ro (Rd.slice (Rd.int .u8)) false x3704, .lit (.int .i64 x3705)])).push (.cells 82 [.lit (.int .i64 (List.getD x3602 0 (0 : Int))), .lit (.int .i64 (List.getD x3602 1 (0 : Int))), .lit (.int .i64 (List.getD x3602 2 (0 : Int))), .lit (.int .i64 (List.getD x3602 3 (0 : Int))), .lit (.int .i64 (List.getD x3602 4 (0 : Int))), .lit (.int .i64 (List.getD x3602 5 (0 : Int))), .lit (.int .i64 (List.getD x3602 6 (0 : Int))), .lit (.int .i64 (List.getD x3602 7 (0 : Int))), .lit (.int .i64 (List.getD x3602 8 (0 : Int))), .lit (.int .i64 (List.getD x3602 9 (0 : Int))), .lit (.int .i64 (List.getD x3602 10 (0 : Int))), .lit (.int .i64 (List.getD x3602 11 (0 : Int))), .lit (.int .i64 (List.getD x3602 12 (0 : Int))), .lit (.int .i64 (List.getD x3602 13 (0 : Int))), .lit (.int .i64 (List.getD x3602 14 (0 : Int))), .lit (.int .i64 (List.getD x3602 15 (0 : Int))), .whole 4])).push (.row 5 (Rd.int .u8) x3742)).push (.row 3 (Rd.int .i64) x3604))) ?_ ?_
 · refine WP.loop (β := Int × (List Int)) (fun n b => g_inflate_stream_copied__d_l0 k x3678 x3685 x3696 x3703 n b.1 b.2 = some x3742) (fun b => ((((Env.none.upd 0 (.ptr 0 0)).upd 10 (.lit (.int .i64 (IntKind.wrap .i64 (x3696 + x3703))))).upd 50 (.lit (.int .i64 (IntKind.wrap .i64 (x3678 + x3685))))).upd 51 (.lit (.int .i64 b.1)))) (fun b => (((((Mem.nil.push (.cells 45 [.ptr 1 0, .whole 3, .lit (.int .i64 x3599)])).push (.cells 52 [.ro (Rd.slice (Rd.int .u8)) false x3704, .lit (.int .i64 x3705)])).push (.cells 82 [.lit (.int .i64 (List.getD x3602 0 (0 : Int))), .lit (.int .i64 (List.getD x3602 1 (0 : Int))), .lit (.int .i64 (List.getD x3602 2 (0 : Int))), .lit (.int .i64 (List.getD x3602 3 (0 : Int))), .lit (.int .i64 (List.getD x3602 4 (0 : Int))), .lit (.int .i64 (List.getD x3602 5 (0 : Int))), .lit (.int .i64 (List.getD x3602 6 (0 : Int))), .lit (.int .i64 (List.getD x3602 7 (0 : Int))), .lit (.int .i64 (List.getD x3602 8 (0 : Int))), .lit (.int .i64 (List.getD x3602 9 (0 : Int))), .lit (.int .i64 (List.getD x3602 10 (0 : Int))), .lit (.int .i64 (List.getD x3602 11 (0 : Int))), .lit (.int .i64 (List.getD x3602 12 (0 : Int))), .lit (.int .i64 (List.getD x3602 13 (0 : Int))), .lit (.int .i64 (List.getD x3602 14 (0 : Int))), .lit (.int .i64 (List.getD x3602 15 (0 : Int))), .whole 4])).push (.row 5 (Rd.int .u8) b.2)).push (.row 3 (Rd.int .i64) x3604))) k (0, x3603) H3756 rfl rfl ?_
   rintro n ⟨x3726, x3727⟩ H
   obtain _ | n := n
   · exact nf rfl H
   rw [g_inflate_stream_copied__d_l0.eq_2] at H
   show WP _ _ _ _ ((((Env.none.upd 0 (.ptr 0 0)).upd 10 (.lit (.int .i64 (IntKind.wrap .i64 (x3696 + x3703))))).upd 50 (.lit (.int .i64 (IntKind.wrap .i64 (x3678 + x3685))))).upd 51 (.lit (.int .i64 x3726))) (((((Mem.nil.push (.cells 45 [.ptr 1 0, .whole 3, .lit (.int .i64 x3599)])).push (.cells 52 [.ro (Rd.slice (Rd.int .u8)) false x3704, .lit (.int .i64 x3705)])).push (.cells 82 [.lit (.int .i64 (List.getD x3602 0 (0 : Int))), .lit (.int .i64 (List.getD x3602 1 (0 : Int))), .lit (.int .i64 (List.getD x3602 2 (0 : Int))), .lit (.int .i64 (List.getD x3602 3 (0 : Int))), .lit (.int .i64 (List.getD x3602 4 (0 : Int))), .lit (.int .i64 (List.getD x3602 5 (0 : Int))), .lit (.int .i64 (List.getD x3602 6 (0 : Int))), .lit (.int .i64 (List.getD x3602 7 (0 : Int))), .lit (.int .i64 (List.getD x3602 8 (0 : Int))), .lit (.int .i64 (List.getD x3602 9 (0 : Int))), .lit (.int .i64 (List.getD x3602 10 (0 : Int))), .lit (.int .i64 (List.getD x3602 11 (0 : Int))), .lit (.int .i64 (List.getD x3602 12 (0 : Int))), .lit (.int .i64 (List.getD x3602 13 (0 : Int))), .lit (.int .i64 (List.getD x3602 14 (0 : Int))), .lit (.int .i64 (List.getD x3602 15 (0 : Int))), .whole 4])).push (.row 5 (Rd.int .u8) x3727)).push (.row 3 (Rd.int .i64) x3604)) _
   refine WP.seq ?_
   refine WP.region ?_
   obtain ⟨x3743, h3743, H⟩ := bnd H
   refine WPL.q (q_nm (q_lss rfl rfl) (nm_bool h3743)) rfl ?_
   refine WPL.nilW ?_
   refine W.now ?_
   refine Then.n ?_
   refine WP.seq ?_
   refine WP.cond (t := x3743) rfl (fun hb3744 => ?_) (fun hb3744 => ?_)
   · replace H := cnt hb3744 H
     refine WP.skipW ?_
     refine W.now ?_
     refine Then.n ?_
     refine WP.seq ?_
     refine WP.block ?_
     refine WP.regionD' 23 [0, 3] [19] mixed rfl ?_
     refine WPD.takeT 0 rfl (by kernel_rfl) (q_mv (v := .ptr _ _) rfl) rfl ?_
     refine WPD.takeT 1 rfl (by kernel_rfl) (q_mv (v := .ptr _ _) rfl) rfl ?_
     refine WPD.takeT 2 rfl (by kernel_rfl) (q_nilCheck rfl) rfl ?_
     refine WPD.takeT 3 rfl (by kernel_rfl) (q_fieldAddr fi45_1 rfl rfl) rfl ?_
     refine WPD.takeT 5 rfl (by kernel_rfl) (q_mv (v := .ptr _ _) rfl) rfl ?_
     refine WPD.takeT 6 rfl (by kernel_rfl) (q_nilCheck rfl) rfl ?_
     refine WPD.takeT 7 rfl (by kernel_rfl) (q_fieldAddr fi45_1 rfl rfl) rfl ?_
     refine WPD.takeT 9 rfl (by kernel_rfl) (q_mv (v := .ptr _ _) rfl) rfl ?_
     refine WPD.takeT 10 rfl (by kernel_rfl) (q_nilCheck rfl) rfl ?_
     refine WPD.takeT 11 rfl (by kernel_rfl) (q_fieldAddr fi45_1 rfl rfl) rfl ?_
     refine WPD.takeT 14 rfl (by kernel_rfl) (q_mv (v := .lit (.int _ _)) rfl) rfl ?_
     refine WPD.take 4 rfl (by kernel_rfl) (q_load sc29 rfl rfl rfl) rfl rfl ?_
     refine WPD.take 8 rfl (by kernel_rfl) (q_load sc29 rfl rfl rfl) rfl rfl ?_
     refine WPD.take 12 rfl (by kernel_rfl) (q_load sc29 rfl rfl rfl) rfl rfl ?_
     refine WPD.takeT 13 rfl (by kernel_rfl) (q_len_row sl29 rfl rfl) rfl ?_
     obtain ⟨x3754, h3754, H⟩ := bnd H
     refine WPD.takeT 15 rfl (by kernel_rfl) (q_nm (q_sub rfl rfl) (nm_int h3754)) rfl ?_
     obtain ⟨x3755, h3755, H⟩ := bnd H
     refine WPD.takeT 16 rfl (by kernel_rfl) (q_index_row sl29 rfl rfl rfl (ixs h3755)) rfl ?_
     refine WPD.take 17 rfl (by kernel_rfl) (q_load_row (j := (Int.toNat x3754)) sc5 rfl rfl (ixj h3755)) rfl rfl ?_
     refine WPD.eff 18 [0, 3] [19] rfl (by kernel_rfl) (Does.runs (d_buildSlice (ds := ([x3755] : List Int)) (R := (Rd.int .u8)) li29 rfl rfl rfl rfl rfl (JoinRows.cons1 Joins.sc rfl JoinRows.nil) rfl rfl)) rfl rfl ?_
     obtain ⟨h3755, H⟩ := grd H
     refine WPD.eff 19 [] [] rfl (by kernel_rfl) (Does.runs (d_append ap29 rfl rfl rfl rfl (src_row sl29 rfl rfl) h3755 rfl)) rfl rfl ?_
     refine WPD.takeT 20 rfl (by kernel_rfl) (q_nilCheck rfl) rfl ?_
     refine WPD.takeT 21 rfl (by kernel_rfl) (q_fieldAddr fi45_1 rfl rfl) rfl ?_
     refine WPD.effS 22 [] [] rfl (by kernel_rfl) (s_store sz29 rfl rfl rfl rfl rfl) rfl ?_
     refine WPD.doneW (by kernel_rfl) ?_
     refine W.now ?_
     refine InBlock.n ?_
     refine Then.n ?_
     refine WP.region ?_
     refine WPL.q (q_add rfl rfl) rfl ?_
     refine WPL.q (q_mv (v := .lit (.int _ _)) rfl) rfl ?_
     refine WPL.nilW ?_
     exact W.wk [0, 1, 2, 6, 4] hnp (Then.n ⟨n, ((IntKind.wrap .i64 (x3726 + 1)), (x3727 ++ ([x3755] : List Int))), Nat.lt_succ_self n, H, rfl, rfl⟩) ⟨rfl, ⟨⟨⟨⟨⟨trivial, .inr ⟨rfl, rfl, rfl⟩⟩, .inr ⟨rfl, rfl, rfl⟩⟩, .inr ⟨rfl, rfl, rfl⟩⟩, .inr ⟨rfl, rfl, rfl⟩⟩, .inr ⟨rfl, rfl, rfl⟩⟩, by decide, rfl, ⟨⟨⟨trivial, rfl⟩, rfl⟩, rfl⟩⟩ (LeE.upd rfl rfl (LeE.upd rfl rfl (LeE.upd rfl rfl (LeE.upd rfl rfl (LeE.none rfl rfl))))) rfl
   replace H := cnf hb3744 H
   refine WP.exitW ?_
   have q0 := (Option.some.inj H)
   subst q0
   exact W.wk [0, 1, 2, 3, 4] hnp (Then.x (Then.x ⟨rfl, rfl, rfl⟩)) ⟨rfl, ⟨⟨⟨⟨⟨trivial, .inr ⟨rfl, rfl, rfl⟩⟩, .inr ⟨rfl, rfl, rfl⟩⟩, .inr ⟨rfl, rfl, rfl⟩⟩, .inr ⟨rfl, rfl, rfl⟩⟩, .inr ⟨rfl, rfl, rfl⟩⟩, by decide, rfl, ⟨⟨⟨trivial, rfl⟩, rfl⟩, rfl⟩⟩ (LeE.none rfl rfl) rfl
 rintro _ _ _ ⟨rfl, rfl, rfl⟩
 have q0 := Option.some.inj H
 subst q0
 exact W.now (InBlock.x0 (BodyR.mkN trivial rfl [0, 1, 2, 3, 4] ⟨rfl, rfl⟩ ⟨rfl, ⟨⟨⟨⟨⟨trivial, .inr ⟨rfl, rfl, rfl⟩⟩, .inr ⟨rfl, rfl, rfl⟩⟩, .inr ⟨rfl, rfl, rfl⟩⟩, .inr ⟨rfl, rfl, rfl⟩⟩, .inr ⟨rfl, rfl, rfl⟩⟩, by decide, rfl, ⟨⟨⟨trivial, rfl⟩, rfl⟩, rfl⟩⟩ rfl rfl))
set_option maxRecDepth 100000 in
set_option maxHeartbeats 4000000 in
theorem s_inflate_stream_bytes__b (k : Nat) (x3974 : Int) (x3975 : Int) (x3976 : (List Int)) (x3977 : Int) (x3978 : (List Int)) (r : (Int ⊕ ((List Int) × (List Int) × Int))) (H : g_inflate_stream_bytes__b k x3974 x3975 x3976 x3977 x3978 = some r) : Go.Q.Spec Try.prog 33 3 [.ptr 0 0, .lit (.int .i64 x3974)] (((Mem.nil.push (.cells 45 [.ptr 1 0, .whole 2, .lit (.int .i64 x3975)])).push (.cells 52 [.ro (Rd.slice (Rd.int .u8)) false x3976, .lit (.int .i64 x3977)])).push (.row 5 (Rd.int .u8) x3978)) (fun o M => match (generalizing := false) r with | (Sum.inl x3987) => o = .pan (.ifc 46 (.lit (.int .i64 x3987))) ∧ M = (((Mem.nil.push (.gone)).push (.gone)).push (.gone)) | (Sum.inr (x3988, x3989, x3990)) => o = .ret (.ro (Rd.slice (Rd.int .u8)) false x3988) ∧ M = (((Mem.nil.push (.cells 45 [.ptr 1 0, .whole 2, .lit (.int .i64 x3975)])).push (.cells 52 [.ro (Rd.slice (Rd.int .u8)) false x3989, .lit (.int .i64 x3990)])).push (.row 5 (Rd.int .u8) x3978))) := by
 unfold g_inflate_stream_bytes__b at H
 refine Go.Q.Spec.of_bodyR (az := []) (rs := [.tmp 4]) (nt := 19) Try.func33 rfl rfl (by intro t T h; simp at h) rfl rfl fun cx hnp => ?_
 refine WP.seq ?_
 refine WP.region ?_
 refine WPL.q (q_as (v := .lit _) rfl) rfl ?_
 refine WPL.nilW ?_
 refine W.now ?_
 refine Then.n ?_
 refine WP.seq ?_
 refine WP.region ?_
 refine WPL.q (q_mv (v := .ptr _ _) rfl) rfl ?_
 refine WPL.q (q_nilCheck rfl) rfl ?_
 refine WPL.q (q_fieldAddr fi45_0 rfl rfl) rfl ?_
 refine WPL.q (q_load sc42 rfl rfl rfl) rfl ?_
 refine WPL.q (q_mv (v := .lit (.int _ _)) rfl) rfl ?_
 obtain ⟨⟨x3992, x3993, x3994, x3995⟩, h3990, H⟩ := bnd H
 refine WPL.c (runs_call (s := [1]) (t := [1]) (N := 3) (bor := []) fn42 rfl (s_bits_Reader_Bytes k x3974 x3976 x3977 x3992 x3993 x3994 x3995 h3990) ⟨rfl, ⟨trivial, .inr ⟨rfl, rfl, rfl⟩⟩, by decide, rfl, trivial⟩ rfl trivial (.ren rfl rfl (.ren rfl rfl .nil)) rfl ⟨trivial, rfl⟩ rfl) rfl ?_
 refine WPL.q (q_mv (v := .tup _) rfl) rfl ?_
 refine WPL.q (q_extract rfl rfl) rfl ?_
 refine WPL.q (q_extract rfl rfl) rfl ?_
 refine WPL.q (q_as (v := .ro _ _ _) rfl) rfl ?_
 refine WPL.q (q_as (v := .lit (.int _ _)) rfl) rfl ?_
 refine WPL.nilW ?_
 refine W.now ?_
 refine Then.n ?_
 refine WP.seq ?_
 refine WP.region ?_
 refine WPL.q (q_mv (v := .lit (.int _ _)) rfl) rfl ?_
 obtain ⟨y3997, h3995, H⟩ := bnd H
 rcases y3997 with _ | _
 · refine WPL.pW (runs_callP (s := []) (t := []) (N := 3) (bor := []) fn31 rfl (s_inflate_must k x3993 (Sum.inl ()) h3995) ⟨rfl, trivial, by decide, rfl, trivial⟩ rfl trivial (.ren rfl rfl .nil) rfl trivial rfl) ?_
   have q0 := Option.some.inj H
   subst q0
   exact W.now (Then.p (BodyR.mkP trivial [0, 1, 2] ⟨rfl, rfl⟩ ⟨rfl, ⟨⟨⟨trivial, .inl rfl⟩, .inl rfl⟩, .inl rfl⟩, by decide, rfl, ⟨⟨⟨trivial, rfl⟩, rfl⟩, rfl⟩⟩ rfl rfl))
 refine WPL.c (runs_call (s := []) (t := []) (N := 3) (bor := []) fn31 rfl (s_inflate_must k x3993 (Sum.inr ()) h3995) ⟨rfl, trivial, by decide, rfl, trivial⟩ rfl trivial (.ren rfl rfl .nil) rfl trivial rfl) rfl ?_
 refine WPL.nilW ?_
 refine W.now ?_
 refine Then.n ?_
 refine WP.seq ?_
 refine WP.region ?_
 refine WPL.q (q_mv (v := .ro _ _ _) rfl) rfl ?_
 refine WPL.q (q_as (v := .ro _ _ _) rfl) rfl ?_
 refine WPL.nilW ?_
 refine W.now ?_
 refine Then.n ?_
 refine WP.retW ?_
 have q0 := Option.some.inj H
 subst q0
 exact W.now (BodyR.mkR trivial rfl [0, 1, 2] ⟨rfl, rfl⟩ ⟨rfl, ⟨⟨⟨trivial, .inr ⟨rfl, rfl, rfl⟩⟩, .inr ⟨rfl, rfl, rfl⟩⟩, .inr ⟨rfl, rfl, rfl⟩⟩, by decide, rfl, ⟨⟨⟨trivial, rfl⟩, rfl⟩, rfl⟩⟩ rfl rfl)
end Go.Proofs.Ytpceecokdpdgfaa.W
namespace Go.Proofs.Ytpceecokdpdgfaa.W
open Go Go.Q Go.Proofs
set_option linter.unusedVariables false
set_option linter.unusedSimpArgs false
set_option maxRecDepth 100000 in
set_option maxHeartbeats 4000000 in
theorem s_inflate_stream_stored__b (k : Nat) (x3969 : Int) (x3970 : (List Int)) (x3971 : Int) (x3972 : (List Int)) (r : (Int ⊕ ((List Int) × Int × (List Int)))) (H : g_inflate_stream_stored__b k x3969 x3970 x3971 x3972 = some r) : Go.Q.Spec Try.prog 27 2 [.ptr 0 0] (((Mem.nil.push (.cells 45 [.ptr 1 0, .whole 2, .lit (.int .i64 x3969)])).push (.cells 52 [.ro (Rd.slice (Rd.int .u8)) false x3970, .lit (.int .i64 x3971)])).push (.row 5 (Rd.int .u8) x3972)) (fun o M => match (generalizing := false) r with | (Sum.inl x4059) => o = .pan (.ifc 46 (.lit (.int .i64 x4059))) ∧ M = ((Mem.nil.push (.gone)).push (.gone)) | (Sum.inr (x4060, x4061, x4062)) => o = .ret (.tup []) ∧ M = (((Mem.nil.push (.cells 45 [.ptr 1 0, .whole 2, .lit (.int .i64 x3969)])).push (.cells 52 [.ro (Rd.slice (Rd.int .u8)) false x4060, .lit (.int .i64 x4061)])).push (.row 5 (Rd.int .u8) x4062))) := by
 unfold g_inflate_stream_stored__b at H
 refine Go.Q.Spec.of_bodyR (az := []) (rs := []) (nt := 44) Try.func27 rfl rfl (by intro t T h; simp at h) rfl rfl fun cx hnp => ?_
 refine WP.seq ?_
 refine WP.region ?_
 refine WPL.q (q_mv (v := .ptr _ _) rfl) rfl ?_
 obtain ⟨y4068, h4062, H⟩ := bnd H
 rcases y4068 with x4064 | ⟨x4065, x4066, x4067⟩
 · refine WPL.pW (runs_callP (s := [0, 1, 2]) (t := [0, 1, 2]) (N := 3) (bor := []) fn33 rfl (s_inflate_stream_bytes__b k 4 x3969 x3970 x3971 x3972 (Sum.inl x4064) h4062) ⟨rfl, ⟨⟨⟨trivial, .inr ⟨rfl, rfl, rfl⟩⟩, .inr ⟨rfl, rfl, rfl⟩⟩, .inr ⟨rfl, rfl, rfl⟩⟩, by decide, rfl, trivial⟩ rfl trivial (.ren rfl rfl (.ren rfl rfl .nil)) rfl ⟨⟨⟨trivial, rfl⟩, rfl⟩, rfl⟩ rfl) ?_
   have q0 := Option.some.inj H
   subst q0
   exact W.now (Then.p (BodyR.mkP trivial [0, 1] ⟨rfl, rfl⟩ ⟨rfl, ⟨⟨trivial, .inl rfl⟩, .inl rfl⟩, by decide, rfl, ⟨⟨trivial, rfl⟩, rfl⟩⟩ rfl rfl))
 refine WPL.c (runs_call (s := [0, 1, 2]) (t := [0, 1, 2]) (N := 3) (bor := []) fn33 rfl (s_inflate_stream_bytes__b k 4 x3969 x3970 x3971 x3972 (Sum.inr (x4065, x4066, x4067)) h4062) ⟨rfl, ⟨⟨⟨trivial, .inr ⟨rfl, rfl, rfl⟩⟩, .inr ⟨rfl, rfl, rfl⟩⟩, .inr ⟨rfl, rfl, rfl⟩⟩, by decide, rfl, trivial⟩ rfl trivial (.ren rfl rfl (.ren rfl rfl .nil)) rfl ⟨⟨⟨trivial, rfl⟩, rfl⟩, rfl⟩ rfl) rfl ?_
 refine WPL.q (q_as (v := .ro _ _ _) rfl) rfl ?_
 refine WPL.nilW ?_
 refine W.now ?_
 refine Then.n ?_
 refine WP.seq ?_
 refine WP.regionD' 11 [] [] mixed rfl ?_
 refine WPD.takeT 0 rfl (by kernel_rfl) (q_mv (v := .ro _ _ _) rfl) rfl ?_
 obtain ⟨x4072, h4072, H⟩ := bnd H
 refine WPD.takeT 1 rfl (by kernel_rfl) (q_index_ro sl29 rfl rfl rfl h4072) rfl ?_
 refine WPD.takeT 2 rfl (by kernel_rfl) (q_load_sc sc5 rfl) rfl ?_
 refine WPD.takeT 3 rfl (by kernel_rfl) (q_conv Try.underlying5 Try.underlying3 rfl) rfl ?_
 refine WPD.takeT 4 rfl (by kernel_rfl) (q_mv (v := .ro _ _ _) rfl) rfl ?_
 obtain ⟨x4073, h4073, H⟩ := bnd H
 refine WPD.takeT 5 rfl (by kernel_rfl) (q_index_ro sl29 rfl rfl rfl h4073) rfl ?_
 refine WPD.takeT 6 rfl (by kernel_rfl) (q_load_sc sc5 rfl) rfl ?_
 refine WPD.takeT 7 rfl (by kernel_rfl) (q_conv Try.underlying5 Try.underlying3 rfl) rfl ?_
 refine WPD.takeT 8 rfl (by kernel_rfl) (q_shl rfl rfl rfl) rfl ?_
 obtain ⟨x4074, h4074, H⟩ := bnd H
 refine WPD.takeT 9 rfl (by kernel_rfl) (q_nm (q_or rfl rfl) (nm_int h4074)) rfl ?_
 refine WPD.takeT 10 rfl (by kernel_rfl) (q_as (v := .lit (.int _ _)) rfl) rfl ?_
 refine WPD.doneW (by kernel_rfl) ?_
 refine W.now ?_
 refine Then.n ?_
 refine WP.seq ?_
 refine WP.regionD' 14 [] [] mixed rfl ?_
 refine WPD.takeT 0 rfl (by kernel_rfl) (q_mv (v := .lit (.int _ _)) rfl) rfl ?_
 refine WPD.takeT 1 rfl (by kernel_rfl) (q_xor rfl rfl) rfl ?_
 refine WPD.takeT 2 rfl (by kernel_rfl) (q_mv (v := .ro _ _ _) rfl) rfl ?_
 obtain ⟨x4081, h4081, H⟩ := bnd H
 refine WPD.takeT 3 rfl (by kernel_rfl) (q_index_ro sl29 rfl rfl rfl h4081) rfl ?_
 refine WPD.takeT 4 rfl (by kernel_rfl) (q_load_sc sc5 rfl) rfl ?_
 refine WPD.takeT 5 rfl (by kernel_rfl) (q_conv Try.underlying5 Try.underlying3 rfl) rfl ?_
 refine WPD.takeT 6 rfl (by kernel_rfl) (q_mv (v := .ro _ _ _) rfl) rfl ?_
 obtain ⟨x4082, h4082, H⟩ := bnd H
 refine WPD.takeT 7 rfl (by kernel_rfl) (q_index_ro sl29 rfl rfl rfl h4082) rfl ?_
 refine WPD.takeT 8 rfl (by kernel_rfl) (q_load_sc sc5 rfl) rfl ?_
 refine WPD.takeT 9 rfl (by kernel_rfl) (q_conv Try.underlying5 Try.underlying3 rfl) rfl ?_
 refine WPD.takeT 10 rfl (by kernel_rfl) (q_shl rfl rfl rfl) rfl ?_
 obtain ⟨x4083, h4083, H⟩ := bnd H
 refine WPD.takeT 11 rfl (by kernel_rfl) (q_nm (q_or rfl rfl) (nm_int h4083)) rfl ?_
 obtain ⟨x4084, h4084, H⟩ := bnd H
 refine WPD.takeT 12 rfl (by kernel_rfl) (q_nm (q_eql rfl rfl) (nm_bool h4084)) rfl ?_
 obtain ⟨y4086, h4084, H⟩ := bnd H
 rcases y4086 with _ | _
 · refine WPD.pW 13 rfl (by kernel_rfl) (runs_callP (s := []) (t := []) (N := 3) (bor := []) fn34 rfl (s_inflate_ask k x4084 12 (Sum.inl ()) h4084) ⟨rfl, trivial, by decide, rfl, trivial⟩ rfl trivial (.ren rfl rfl (.ren rfl rfl .nil)) rfl trivial rfl) ?_
   have q0 := Option.some.inj H
   subst q0
   exact W.now (Then.p (BodyR.mkP trivial [0, 1] ⟨rfl, rfl⟩ ⟨rfl, ⟨⟨trivial, .inl rfl⟩, .inl rfl⟩, by decide, rfl, ⟨⟨trivial, rfl⟩, rfl⟩⟩ rfl rfl))
 refine WPD.eff 13 [] [] rfl (by kernel_rfl) (runs_call (s := []) (t := []) (N := 3) (bor := []) fn34 rfl (s_inflate_ask k x4084 12 (Sum.inr ()) h4084) ⟨rfl, trivial, by decide, rfl, trivial⟩ rfl trivial (.ren rfl rfl (.ren rfl rfl .nil)) rfl trivial rfl) rfl rfl ?_
 refine WPD.doneW (by kernel_rfl) ?_
 refine W.now ?_
 refine Then.n ?_
 refine WP.seq ?_
 refine WP.region ?_
 refine WPL.q (q_mv (v := .ptr _ _) rfl) rfl ?_
 refine WPL.q (q_mv (v := .lit (.int _ _)) rfl) rfl ?_
 obtain ⟨y4088, h4086, H⟩ := bnd H
 rcases y4088 with _ | _
 · refine WPL.pW (runs_callP (s := [0, 1, 2]) (t := [0, 1]) (N := 3) (bor := []) fn35 rfl (s_inflate_stream_room__b k x4074 x3969 x4066 x4067 x3972 (Sum.inl ()) h4086) ⟨rfl, ⟨⟨⟨trivial, .inr ⟨rfl, rfl, rfl⟩⟩, .inr ⟨rfl, rfl, rfl⟩⟩, .inr ⟨rfl, rfl, rfl⟩⟩, by decide, rfl, trivial⟩ rfl trivial (.ren rfl rfl (.ren rfl rfl .nil)) rfl ⟨⟨trivial, rfl⟩, rfl⟩ rfl) ?_
   have q0 := Option.some.inj H
   subst q0
   exact W.now (Then.p (BodyR.mkP trivial [0, 1] ⟨rfl, rfl⟩ ⟨rfl, ⟨⟨trivial, .inl rfl⟩, .inl rfl⟩, by decide, rfl, ⟨⟨trivial, rfl⟩, rfl⟩⟩ rfl rfl))
 refine WPL.c (runs_call (s := [0, 1, 2]) (t := [0, 1, 3]) (N := 4) (bor := []) fn35 rfl (s_inflate_stream_room__b k x4074 x3969 x4066 x4067 x3972 (Sum.inr ()) h4086) ⟨rfl, ⟨⟨⟨trivial, .inr ⟨rfl, rfl, rfl⟩⟩, .inr ⟨rfl, rfl, rfl⟩⟩, .inr ⟨rfl, rfl, rfl⟩⟩, by decide, rfl, trivial⟩ rfl trivial (.ren rfl rfl (.ren rfl rfl .nil)) rfl ⟨⟨⟨trivial, rfl⟩, rfl⟩, rfl⟩ rfl) rfl ?_
 refine WPL.nilW ?_
 refine W.now ?_
 refine Then.n ?_
 refine WP.regionD' 12 [0] [7] mixed rfl ?_
 refine WPD.takeT 0 rfl (by kernel_rfl) (q_mv (v := .ptr _ _) rfl) rfl ?_
 refine WPD.takeT 1 rfl (by kernel_rfl) (q_mv (v := .ptr _ _) rfl) rfl ?_
 refine WPD.takeT 2 rfl (by kernel_rfl) (q_nilCheck rfl) rfl ?_
 refine WPD.takeT 3 rfl (by kernel_rfl) (q_fieldAddr fi45_1 rfl rfl) rfl ?_
 refine WPD.takeT 5 rfl (by kernel_rfl) (q_mv (v := .ptr _ _) rfl) rfl ?_
 refine WPD.takeT 6 rfl (by kernel_rfl) (q_mv (v := .lit (.int _ _)) rfl) rfl ?_
 refine WPD.of2 4 7 (by kernel_rfl) ?_ ?_
 · refine WPD1.eff 4 [0] [7] rfl (Does.runs (Quiet.does (q_load sc29 rfl rfl rfl))) rfl rfl ?_
   obtain ⟨y4115, h4109, H⟩ := bnd H
   rcases y4115 with x4111 | ⟨x4112, x4113, x4114⟩
   · refine WPD.pW 7 rfl (by kernel_rfl) (runs_callP (s := [0, 1, 3]) (t := [0, 1, 3]) (N := 4) (bor := []) fn33 rfl (s_inflate_stream_bytes__b k x4074 x3969 x4066 x4067 x3972 (Sum.inl x4111) h4109) ⟨rfl, ⟨⟨⟨trivial, .inr ⟨rfl, rfl, rfl⟩⟩, .inr ⟨rfl, rfl, rfl⟩⟩, .inr ⟨rfl, rfl, rfl⟩⟩, by decide, rfl, trivial⟩ rfl trivial (.ren rfl rfl (.ren rfl rfl .nil)) rfl ⟨⟨⟨trivial, rfl⟩, rfl⟩, rfl⟩ rfl) ?_
     have q0 := Option.some.inj H
     subst q0
     exact W.now (BodyR.mkP trivial [0, 1] ⟨rfl, rfl⟩ ⟨rfl, ⟨⟨trivial, .inl rfl⟩, .inl rfl⟩, by decide, rfl, ⟨⟨trivial, rfl⟩, rfl⟩⟩ rfl rfl)
   refine WPD.eff 7 [] [] rfl (by kernel_rfl) (runs_call (s := [0, 1, 3]) (t := [0, 1, 3]) (N := 4) (bor := []) fn33 rfl (s_inflate_stream_bytes__b k x4074 x3969 x4066 x4067 x3972 (Sum.inr (x4112, x4113, x4114)) h4109) ⟨rfl, ⟨⟨⟨trivial, .inr ⟨rfl, rfl, rfl⟩⟩, .inr ⟨rfl, rfl, rfl⟩⟩, .inr ⟨rfl, rfl, rfl⟩⟩, by decide, rfl, trivial⟩ rfl trivial (.ren rfl rfl (.ren rfl rfl .nil)) rfl ⟨⟨⟨trivial, rfl⟩, rfl⟩, rfl⟩ rfl) rfl rfl ?_
   obtain ⟨h4115, H⟩ := grd H
   refine WPD.eff 8 [] [] rfl (by kernel_rfl) (Does.runs (d_append ap29 rfl rfl rfl rfl (src_ro sl29 rfl) h4115 rfl)) rfl rfl ?_
   refine WPD.takeT 9 rfl (by kernel_rfl) (q_nilCheck rfl) rfl ?_
   refine WPD.takeT 10 rfl (by kernel_rfl) (q_fieldAddr fi45_1 rfl rfl) rfl ?_
   refine WPD.effS 11 [] [] rfl (by kernel_rfl) (s_store sz29 rfl rfl rfl rfl rfl) rfl ?_
   refine WPD.doneW (by kernel_rfl) ?_
   have q0 := Option.some.inj H
   subst q0
   exact W.now (BodyR.mkN trivial rfl [0, 1, 4] ⟨rfl, rfl⟩ ⟨rfl, ⟨⟨⟨trivial, .inr ⟨rfl, rfl, rfl⟩⟩, .inr ⟨rfl, rfl, rfl⟩⟩, .inr ⟨rfl, rfl, rfl⟩⟩, by decide, rfl, ⟨⟨trivial, rfl⟩, rfl⟩⟩ rfl rfl)
 obtain ⟨y4122, h4116, H⟩ := bnd H
 rcases y4122 with x4118 | ⟨x4119, x4120, x4121⟩
 · refine WPD1.pW 7 rfl (runs_callP (s := [0, 1, 3]) (t := [0, 1, 3]) (N := 4) (bor := []) fn33 rfl (s_inflate_stream_bytes__b k x4074 x3969 x4066 x4067 x3972 (Sum.inl x4118) h4116) ⟨rfl, ⟨⟨⟨trivial, .inr ⟨rfl, rfl, rfl⟩⟩, .inr ⟨rfl, rfl, rfl⟩⟩, .inr ⟨rfl, rfl, rfl⟩⟩, by decide, rfl, trivial⟩ rfl trivial (.ren rfl rfl (.ren rfl rfl .nil)) rfl ⟨⟨⟨trivial, rfl⟩, rfl⟩, rfl⟩ rfl) ?_
   have q0 := Option.some.inj H
   subst q0
   exact W.now (BodyR.mkP trivial [0, 1] ⟨rfl, rfl⟩ ⟨rfl, ⟨⟨trivial, .inl rfl⟩, .inl rfl⟩, by decide, rfl, ⟨⟨trivial, rfl⟩, rfl⟩⟩ rfl rfl)
 refine WPD1.eff 7 [0] [11] rfl (runs_call (s := [0, 1, 3]) (t := [0, 1, 3]) (N := 4) (bor := []) fn33 rfl (s_inflate_stream_bytes__b k x4074 x3969 x4066 x4067 x3972 (Sum.inr (x4119, x4120, x4121)) h4116) ⟨rfl, ⟨⟨⟨trivial, .inr ⟨rfl, rfl, rfl⟩⟩, .inr ⟨rfl, rfl, rfl⟩⟩, .inr ⟨rfl, rfl, rfl⟩⟩, by decide, rfl, trivial⟩ rfl trivial (.ren rfl rfl (.ren rfl rfl .nil)) rfl ⟨⟨⟨trivial, rfl⟩, rfl⟩, rfl⟩ rfl) rfl rfl ?_
 refine WPD.take 4 rfl (by kernel_rfl) (q_load sc29 rfl rfl rfl) rfl rfl ?_
 obtain ⟨h4122, H⟩ := grd H
 refine WPD.eff 8 [0] [11] rfl (by kernel_rfl) (Does.runs (d_append ap29 rfl rfl rfl rfl (src_ro sl29 rfl) h4122 rfl)) rfl rfl ?_
 refine WPD.takeT 9 rfl (by kernel_rfl) (q_nilCheck rfl) rfl ?_
 refine WPD.takeT 10 rfl (by kernel_rfl) (q_fieldAddr fi45_1 rfl rfl) rfl ?_
 refine WPD.effS 11 [] [] rfl (by kernel_rfl) (s_store sz29 rfl rfl rfl rfl rfl) rfl ?_
 refine WPD.doneW (by kernel_rfl) ?_
 have q0 := Option.some.inj H
 subst q0
 exact W.now (BodyR.mkN trivial rfl [0, 1, 4] ⟨rfl, rfl⟩ ⟨rfl, ⟨⟨⟨trivial, .inr ⟨rfl, rfl, rfl⟩⟩, .inr ⟨rfl, rfl, rfl⟩⟩, .inr ⟨rfl, rfl, rfl⟩⟩, by decide, rfl, ⟨⟨trivial, rfl⟩, rfl⟩⟩ rfl rfl)
set_option maxRecDepth 100000 in
set_option maxHeartbeats 4000000 in
theorem s_inflate_stream_coded__e (k : Nat) (x4145 : Int) (x4146 : (List Int)) (x4147 : Int) (x4148 : (List Int)) (x4163 : Int) (H : g_inflate_stream_coded__e k x4145 x4146 x4147 x4148 = some x4163) : Go.Q.Spec Try.prog 28 2 [.ptr 0 0, .lit (.pointer none), .lit (.pointer none)] (((Mem.nil.push (.cells 45 [.ptr 1 0, .whole 2, .lit (.int .i64 x4145)])).push (.cells 52 [.ro (Rd.slice (Rd.int .u8)) false x4146, .lit (.int .i64 x4147)])).push (.row 5 (Rd.int .u8) x4148)) (fun o M => o = .pan (.ifc 46 (.lit (.int .i64 x4163))) ∧ M = ((Mem.nil.push (.gone)).push (.gone))) := by
 unfold g_inflate_stream_coded__e at H
 refine Go.Q.Spec.of_bodyR (az := []) (rs := []) (nt := 33) Try.func28 rfl rfl (by intro t T h; simp at h) rfl rfl fun cx hnp => ?_
 refine WP.scope ?_
 refine WP.seq ?_
 refine WP.labelW ?_
 refine W.now ?_
 refine Then.n ?_
 refine WP.block ?_
 refine WP.cv (Cv.weak (E' := (((Env.none.upd 0 (.ptr 0 0)).upd 1 (.lit (.pointer none))).upd 2 (.lit (.pointer none)))) (M' := (((Mem.nil.push (.cells 45 [.ptr 1 0, .whole 2, .lit (.int .i64 x4145)])).push (.cells 52 [.ro (Rd.slice (Rd.int .u8)) false x4146, .lit (.int .i64 x4147)])).push (.row 5 (Rd.int .u8) x4148))) [0, 1, 2] hnp ⟨rfl, ⟨⟨⟨trivial, .inr ⟨rfl, rfl, rfl⟩⟩, .inr ⟨rfl, rfl, rfl⟩⟩, .inr ⟨rfl, rfl, rfl⟩⟩, by decide, rfl, ⟨⟨trivial, rfl⟩, rfl⟩⟩ (LeE.upd rfl rfl (LeE.upd rfl rfl (LeE.upd rfl rfl (LeE.none rfl rfl))))) ?_
 obtain ⟨x4175, H4180, H⟩ := bnd H
 refine WP.monoW (Q := fun x E M => x = .panic (.ifc 46 (.lit (.int .i64 x4175))) ∧ E = Env.none ∧ M = ((Mem.nil.push (.gone)).push (.gone))) ?_ ?_
 · refine WP.loop (β := (List Int)) (fun n b => g_inflate_stream_coded__e_l0 k x4145 x4146 x4147 n b = some x4175) (fun b => (((Env.none.upd 0 (.ptr 0 0)).upd 1 (.lit (.pointer none))).upd 2 (.lit (.pointer none)))) (fun b => (((Mem.nil.push (.cells 45 [.ptr 1 0, .whole 2, .lit (.int .i64 x4145)])).push (.cells 52 [.ro (Rd.slice (Rd.int .u8)) false x4146, .lit (.int .i64 x4147)])).push (.row 5 (Rd.int .u8) b))) k x4148 H4180 rfl rfl ?_
   rintro n x4169 H
   obtain _ | n := n
   · exact nf rfl H
   rw [g_inflate_stream_coded__e_l0.eq_2] at H
   show WP _ _ _ _ (((Env.none.upd 0 (.ptr 0 0)).upd 1 (.lit (.pointer none))).upd 2 (.lit (.pointer none))) (((Mem.nil.push (.cells 45 [.ptr 1 0, .whole 2, .lit (.int .i64 x4145)])).push (.cells 52 [.ro (Rd.slice (Rd.int .u8)) false x4146, .lit (.int .i64 x4147)])).push (.row 5 (Rd.int .u8) x4169)) _
   refine WP.block ?_
   refine WP.seq ?_
   refine WP.region ?_
   refine WPL.q (q_mv (v := .ptr _ _) rfl) rfl ?_
   refine WPL.q (q_mv (v := .lit _) rfl) rfl ?_
   obtain ⟨y4177, h4175, H⟩ := bnd H
   rcases y4177 with _ | _
   · refine WPL.pW (runs_callP (s := [0, 1, 2]) (t := [0, 1]) (N := 3) (bor := []) fn36 rfl (s_inflate_stream_sym__b k x4145 x4146 x4147 x4169 (Sum.inl ()) h4175) ⟨rfl, ⟨⟨⟨trivial, .inr ⟨rfl, rfl, rfl⟩⟩, .inr ⟨rfl, rfl, rfl⟩⟩, .inr ⟨rfl, rfl, rfl⟩⟩, by decide, rfl, trivial⟩ rfl trivial (.ren rfl rfl (.ren rfl rfl .nil)) rfl ⟨⟨trivial, rfl⟩, rfl⟩ rfl) ?_
     have q0 := (Option.some.inj H)
     subst q0
     exact W.wkP [0, 1] hnp (Then.p (InBlock.p (Then.p ⟨rfl, rfl, rfl⟩))) ⟨rfl, ⟨⟨trivial, .inl rfl⟩, .inl rfl⟩, by decide, rfl, ⟨⟨trivial, rfl⟩, rfl⟩⟩ (LeE.none rfl rfl) rfl rfl
   refine WPL.c (runs_call (s := [0, 1, 2]) (t := [0, 1, 3]) (N := 4) (bor := []) fn36 rfl (s_inflate_stream_sym__b k x4145 x4146 x4147 x4169 (Sum.inr ()) h4175) ⟨rfl, ⟨⟨⟨trivial, .inr ⟨rfl, rfl, rfl⟩⟩, .inr ⟨rfl, rfl, rfl⟩⟩, .inr ⟨rfl, rfl, rfl⟩⟩, by decide, rfl, trivial⟩ rfl trivial (.ren rfl rfl (.ren rfl rfl .nil)) rfl ⟨⟨⟨trivial, rfl⟩, rfl⟩, rfl⟩ rfl) rfl ?_
   refine WPL.q (q_as (v := .lit (.int _ _)) rfl) rfl ?_
   refine WPL.nilW ?_
   refine W.now ?_
   refine Then.n ?_
   refine WP.block ?_
   refine WP.seq ?_
   refine WP.region ?_
   refine WPL.q (q_mv (v := .lit (.int _ _)) rfl) rfl ?_
   refine WPL.q (q_lss rfl rfl) rfl ?_
   refine WPL.q (q_as (v := .lit (.bool _)) rfl) rfl ?_
   refine WPL.nilW ?_
   refine W.now ?_
   refine Then.n ?_
   refine WP.condT rfl ?_
   refine WP.seq ?_
   refine WP.region ?_
   refine WPL.q (q_mv (v := .ptr _ _) rfl) rfl ?_
   obtain ⟨y4179, h4177, H⟩ := bnd H
   rcases y4179 with _ | _
   · refine WPL.pW (runs_callP (s := [0, 1, 3]) (t := [0, 1]) (N := 4) (bor := []) fn35 rfl (s_inflate_stream_room__b k 1 x4145 x4146 x4147 x4169 (Sum.inl ()) h4177) ⟨rfl, ⟨⟨⟨trivial, .inr ⟨rfl, rfl, rfl⟩⟩, .inr ⟨rfl, rfl, rfl⟩⟩, .inr ⟨rfl, rfl, rfl⟩⟩, by decide, rfl, trivial⟩ rfl trivial (.ren rfl rfl (.ren rfl rfl .nil)) rfl ⟨⟨trivial, rfl⟩, rfl⟩ rfl) ?_
     have q0 := (Option.some.inj H)
     subst q0
     exact W.wkP [0, 1] hnp (Then.p (InBlock.p (InBlock.p (Then.p ⟨rfl, rfl, rfl⟩)))) ⟨rfl, ⟨⟨trivial, .inl rfl⟩, .inl rfl⟩, by decide, rfl, ⟨⟨trivial, rfl⟩, rfl⟩⟩ (LeE.none rfl rfl) rfl rfl
   refine WPL.c (runs_call (s := [0, 1, 3]) (t := [0, 1, 4]) (N := 5) (bor := []) fn35 rfl (s_inflate_stream_room__b k 1 x4145 x4146 x4147 x4169 (Sum.inr ()) h4177) ⟨rfl, ⟨⟨⟨trivial, .inr ⟨rfl, rfl, rfl⟩⟩, .inr ⟨rfl, rfl, rfl⟩⟩, .inr ⟨rfl, rfl, rfl⟩⟩, by decide, rfl, trivial⟩ rfl trivial (.ren rfl rfl (.ren rfl rfl .nil)) rfl ⟨⟨⟨trivial, rfl⟩, rfl⟩, rfl⟩ rfl) rfl ?_
   refine WPL.nilW ?_
   refine W.now ?_
   refine Then.n ?_
   refine WP.region ?_
   refine WPL.q (q_mv (v := .ptr _ _) rfl) rfl ?_
   refine WPL.q (q_mv (v := .ptr _ _) rfl) rfl ?_
   refine WPL.q (q_nilCheck rfl) rfl ?_
   refine WPL.q (q_fieldAddr fi45_1 rfl rfl) rfl ?_
   refine WPL.q (q_load sc29 rfl rfl rfl) rfl ?_
   refine WPL.q (q_mv (v := .lit (.int _ _)) rfl) rfl ?_
   refine WPL.q (q_conv Try.underlying3 Try.underlying5 rfl) rfl ?_
   refine WPL.d (d_buildSlice (ds := ([(IntKind.wrap .u8 0)] : List Int)) (R := (Rd.int .u8)) li29 rfl rfl rfl rfl rfl (JoinRows.cons1 Joins.sc rfl JoinRows.nil) rfl rfl) rfl ?_
   obtain ⟨h4179, H⟩ := grd H
   refine WPL.d (d_append ap29 rfl rfl rfl rfl (src_row sl29 rfl rfl) h4179 rfl) rfl ?_
   refine WPL.q (q_nilCheck rfl) rfl ?_
   refine WPL.q (q_fieldAddr fi45_1 rfl rfl) rfl ?_
   refine WPL.s (s_store sz29 rfl rfl rfl rfl rfl) ?_
   refine WPL.nilW ?_
   exact W.wk [0, 1, 6] hnp (InBlock.n (InBlock.n (Then.n ⟨n, (x4169 ++ ([(IntKind.wrap .u8 0)] : List Int)), Nat.lt_succ_self n, H, rfl, rfl⟩))) ⟨rfl, ⟨⟨⟨trivial, .inr ⟨rfl, rfl, rfl⟩⟩, .inr ⟨rfl, rfl, rfl⟩⟩, .inr ⟨rfl, rfl, rfl⟩⟩, by decide, rfl, ⟨⟨trivial, rfl⟩, rfl⟩⟩ (LeE.upd rfl rfl (LeE.upd rfl rfl (LeE.upd rfl rfl (LeE.none rfl rfl)))) rfl
 rintro _ _ _ ⟨rfl, rfl, rfl⟩
 have q0 := (Option.some.inj H)
 subst q0
 exact W.now (InBlock.p (Scope.p (BodyR.mkP trivial [0, 1] ⟨rfl, rfl⟩ ⟨rfl, ⟨⟨trivial, .inl rfl⟩, .inl rfl⟩, by decide, rfl, ⟨⟨trivial, rfl⟩, rfl⟩⟩ rfl rfl)))
set_option maxRecDepth 100000 in
set_option maxHeartbeats 4000000 in
theorem s_inflate_stream_coded__f (k : Nat) (x4184 : Int) (x4185 : (List Int)) (x4186 : Int) (x4187 : (List Int)) (x4188 : (List Int)) (x4189 : (List Int)) (x4204 : Int) (H : g_inflate_stream_coded__f k x4184 x4185 x4186 x4187 x4188 x4189 = some x4204) : Go.Q.Spec Try.prog 28 3 [.ptr 0 0, .lit (.pointer none), .ptr 2 0] (((((Mem.nil.push (.cells 45 [.ptr 1 0, .whole 3, .lit (.int .i64 x4184)])).push (.cells 52 [.ro (Rd.slice (Rd.int .u8)) false x4185, .lit (.int .i64 x4186)])).push (.cells 82 [.lit (.int .i64 (List.getD x4187 0 (0 : Int))), .lit (.int .i64 (List.getD x4187 1 (0 : Int))), .lit (.int .i64 (List.getD x4187 2 (0 : Int))), .lit (.int .i64 (List.getD x4187 3 (0 : Int))), .lit (.int .i64 (List.getD x4187 4 (0 : Int))), .lit (.int .i64 (List.getD x4187 5 (0 : Int))), .lit (.int .i64 (List.getD x4187 6 (0 : Int))), .lit (.int .i64 (List.getD x4187 7 (0 : Int))), .lit (.int .i64 (List.getD x4187 8 (0 : Int))), .lit (.int .i64 (List.getD x4187 9 (0 : Int))), .lit (.int .i64 (List.getD x4187 10 (0 : Int))), .lit (.int .i64 (List.getD x4187 11 (0 : Int))), .lit (.int .i64 (List.getD x4187 12 (0 : Int))), .lit (.int .i64 (List.getD x4187 13 (0 : Int))), .lit (.int .i64 (List.getD x4187 14 (0 : Int))), .lit (.int .i64 (List.getD x4187 15 (0 : Int))), .whole 4])).push (.row 5 (Rd.int .u8) x4188)).push (.row 3 (Rd.int .i64) x4189)) (fun o M => o = .pan (.ifc 46 (.lit (.int .i64 x4204))) ∧ M = (((Mem.nil.push (.gone)).push (.gone)).push (.gone))) := by
 unfold g_inflate_stream_coded__f at H
 refine Go.Q.Spec.of_bodyR (az := []) (rs := []) (nt := 33) Try.func28 rfl rfl (by intro t T h; simp at h) rfl rfl fun cx hnp => ?_
 refine WP.scope ?_
 refine WP.seq ?_
 refine WP.labelW ?_
 refine W.now ?_
 refine Then.n ?_
 refine WP.block ?_
 refine WP.cv (Cv.weak (E' := (((Env.none.upd 0 (.ptr 0 0)).upd 1 (.lit (.pointer none))).upd 2 (.ptr 2 0))) (M' := (((((Mem.nil.push (.cells 45 [.ptr 1 0, .whole 3, .lit (.int .i64 x4184)])).push (.cells 52 [.ro (Rd.slice (Rd.int .u8)) false x4185, .lit (.int .i64 x4186)])).push (.cells 82 [.lit (.int .i64 (List.getD x4187 0 (0 : Int))), .lit (.int .i64 (List.getD x4187 1 (0 : Int))), .lit (.int .i64 (List.getD x4187 2 (0 : Int))), .lit (.int .i64 (List.getD x4187 3 (0 : Int))), .lit (.int .i64 (List.getD x4187 4 (0 : Int))), .lit (.int .i64 (List.getD x4187 5 (0 : Int))), .lit (.int .i64 (List.getD x4187 6 (0 : Int))), .lit (.int .i64 (List.getD x4187 7 (0 : Int))), .lit (.int .i64 (List.getD x4187 8 (0 : Int))), .lit (.int .i64 (List.getD x4187 9 (0 : Int))), .lit (.int .i64 (List.getD x4187 10 (0 : Int))), .lit (.int .i64 (List.getD x4187 11 (0 : Int))), .lit (.int .i64 (List.getD x4187 12 (0 : Int))), .lit (.int .i64 (List.getD x4187 13 (0 : Int))), .lit (.int .i64 (List.getD x4187 14 (0 : Int))), .lit (.int .i64 (List.getD x4187 15 (0 : Int))), .whole 4])).push (.row 5 (Rd.int .u8) x4188)).push (.row 3 (Rd.int .i64) x4189))) [0, 1, 2, 3, 4] hnp ⟨rfl, ⟨⟨⟨⟨⟨trivial, .inr ⟨rfl, rfl, rfl⟩⟩, .inr ⟨rfl, rfl, rfl⟩⟩, .inr ⟨rfl, rfl, rfl⟩⟩, .inr ⟨rfl, rfl, rfl⟩⟩, .inr ⟨rfl, rfl, rfl⟩⟩, by decide, rfl, ⟨⟨⟨trivial, rfl⟩, rfl⟩, rfl⟩⟩ (LeE.upd rfl rfl (LeE.upd rfl rfl (LeE.upd rfl rfl (LeE.none rfl rfl))))) ?_
 obtain ⟨x4216, H4221, H⟩ := bnd H
 refine WP.monoW (Q := fun x E M => x = .panic (.ifc 46 (.lit (.int .i64 x4216))) ∧ E = Env.none ∧ M = ((((Mem.nil.push (.gone)).push (.gone)).push (.cells 82 [.lit (.int .i64 (List.getD x4187 0 (0 : Int))), .lit (.int .i64 (List.getD x4187 1 (0 : Int))), .lit (.int .i64 (List.getD x4187 2 (0 : Int))), .lit (.int .i64 (List.getD x4187 3 (0 : Int))), .lit (.int .i64 (List.getD x4187 4 (0 : Int))), .lit (.int .i64 (List.getD x4187 5 (0 : Int))), .lit (.int .i64 (List.getD x4187 6 (0 : Int))), .lit (.int .i64 (List.getD x4187 7 (0 : Int))), .lit (.int .i64 (List.getD x4187 8 (0 : Int))), .lit (.int .i64 (List.getD x4187 9 (0 : Int))), .lit (.int .i64 (List.getD x4187 10 (0 : Int))), .lit (.int .i64 (List.getD x4187 11 (0 : Int))), .lit (.int .i64 (List.getD x4187 12 (0 : Int))), .lit (.int .i64 (List.getD x4187 13 (0 : Int))), .lit (.int .i64 (List.getD x4187 14 (0 : Int))), .lit (.int .i64 (List.getD x4187 15 (0 : Int))), .whole 3])).push (.row 3 (Rd.int .i64) x4189))) ?_ ?_
 · refine WP.loop (β := (List Int)) (fun n b => g_inflate_stream_coded__f_l0 k x4184 x4185 x4186 n b = some x4216) (fun b => (((Env.none.upd 0 (.ptr 0 0)).upd 1 (.lit (.pointer none))).upd 2 (.ptr 2 0))) (fun b => (((((Mem.nil.push (.cells 45 [.ptr 1 0, .whole 3, .lit (.int .i64 x4184)])).push (.cells 52 [.ro (Rd.slice (Rd.int .u8)) false x4185, .lit (.int .i64 x4186)])).push (.cells 82 [.lit (.int .i64 (List.getD x4187 0 (0 : Int))), .lit (.int .i64 (List.getD x4187 1 (0 : Int))), .lit (.int .i64 (List.getD x4187 2 (0 : Int))), .lit (.int .i64 (List.getD x4187 3 (0 : Int))), .lit (.int .i64 (List.getD x4187 4 (0 : Int))), .lit (.int .i64 (List.getD x4187 5 (0 : Int))), .lit (.int .i64 (List.getD x4187 6 (0 : Int))), .lit (.int .i64 (List.getD x4187 7 (0 : Int))), .lit (.int .i64 (List.getD x4187 8 (0 : Int))), .lit (.int .i64 (List.getD x4187 9 (0 : Int))), .lit (.int .i64 (List.getD x4187 10 (0 : Int))), .lit (.int .i64 (List.getD x4187 11 (0 : Int))), .lit (.int .i64 (List.getD x4187 12 (0 : Int))), .lit (.int .i64 (List.getD x4187 13 (0 : Int))), .lit (.int .i64 (List.getD x4187 14 (0 : Int))), .lit (.int .i64 (List.getD x4187 15 (0 : Int))), .whole 4])).push (.row 5 (Rd.int .u8) b)).push (.row 3 (Rd.int .i64) x4189))) k x4188 H4221 rfl rfl ?_
   rintro n x4210 H
   obtain _ | n := n
   · exact nf rfl H
   rw [g_inflate_stream_coded__f_l0.eq_2] at H
   show WP _ _ _ _ (((Env.none.upd 0 (.ptr 0 0)).upd 1 (.lit (.pointer none))).upd 2 (.ptr 2 0)) (((((Mem.nil.push (.cells 45 [.ptr 1 0, .whole 3, .lit (.int .i64 x4184)])).push (.cells 52 [.ro (Rd.slice (Rd.int .u8)) false x4185, .lit (.int .i64 x4186)])).push (.cells 82 [.lit (.int .i64 (List.getD x4187 0 (0 : Int))), .lit (.int .i64 (List.getD x4187 1 (0 : Int))), .lit (.int .i64 (List.getD x4187 2 (0 : Int))), .lit (.int .i64 (List.getD x4187 3 (0 : Int))), .lit (.int .i64 (List.getD x4187 4 (0 : Int))), .lit (.int .i64 (List.getD x4187 5 (0 : Int))), .lit (.int .i64 (List.getD x4187 6 (0 : Int))), .lit (.int .i64 (List.getD x4187 7 (0 : Int))), .lit (.int .i64 (List.getD x4187 8 (0 : Int))), .lit (.int .i64 (List.getD x4187 9 (0 : Int))), .lit (.int .i64 (List.getD x4187 10 (0 : Int))), .lit (.int .i64 (List.getD x4187 11 (0 : Int))), .lit (.int .i64 (List.getD x4187 12 (0 : Int))), .lit (.int .i64 (List.getD x4187 13 (0 : Int))), .lit (.int .i64 (List.getD x4187 14 (0 : Int))), .lit (.int .i64 (List.getD x4187 15 (0 : Int))), .whole 4])).push (.row 5 (Rd.int .u8) x4210)).push (.row 3 (Rd.int .i64) x4189)) _
   refine WP.block ?_
   refine WP.seq ?_
   refine WP.region ?_
   refine WPL.q (q_mv (v := .ptr _ _) rfl) rfl ?_
   refine WPL.q (q_mv (v := .lit _) rfl) rfl ?_
   obtain ⟨y4218, h4216, H⟩ := bnd H
   rcases y4218 with _ | _
   · refine WPL.pW (runs_callP (s := [0, 1, 3]) (t := [0, 1]) (N := 5) (bor := []) fn36 rfl (s_inflate_stream_sym__b k x4184 x4185 x4186 x4210 (Sum.inl ()) h4216) ⟨rfl, ⟨⟨⟨trivial, .inr ⟨rfl, rfl, rfl⟩⟩, .inr ⟨rfl, rfl, rfl⟩⟩, .inr ⟨rfl, rfl, rfl⟩⟩, by decide, rfl, trivial⟩ rfl trivial (.ren rfl rfl (.ren rfl rfl .nil)) rfl ⟨⟨trivial, rfl⟩, rfl⟩ rfl) ?_
     have q0 := (Option.some.inj H)
     subst q0
     exact W.wkP [0, 1, 2, 4] hnp (Then.p (InBlock.p (Then.p ⟨rfl, rfl, rfl⟩))) ⟨rfl, ⟨⟨⟨⟨trivial, .inl rfl⟩, .inl rfl⟩, .inr ⟨rfl, rfl, rfl⟩⟩, .inr ⟨rfl, rfl, rfl⟩⟩, by decide, rfl, ⟨⟨⟨trivial, rfl⟩, rfl⟩, rfl⟩⟩ (LeE.none rfl rfl) rfl rfl
   refine WPL.c (runs_call (s := [0, 1, 3]) (t := [0, 1, 5]) (N := 6) (bor := []) fn36 rfl (s_inflate_stream_sym__b k x4184 x4185 x4186 x4210 (Sum.inr ()) h4216) ⟨rfl, ⟨⟨⟨trivial, .inr ⟨rfl, rfl, rfl⟩⟩, .inr ⟨rfl, rfl, rfl⟩⟩, .inr ⟨rfl, rfl, rfl⟩⟩, by decide, rfl, trivial⟩ rfl trivial (.ren rfl rfl (.ren rfl rfl .nil)) rfl ⟨⟨⟨trivial, rfl⟩, rfl⟩, rfl⟩ rfl) rfl ?_
   refine WPL.q (q_as (v := .lit (.int _ _)) rfl) rfl ?_
   refine WPL.nilW ?_
   refine W.now ?_
   refine Then.n ?_
   refine WP.block ?_
   refine WP.seq ?_
   refine WP.region ?_
   refine WPL.q (q_mv (v := .lit (.int _ _)) rfl) rfl ?_
   refine WPL.q (q_lss rfl rfl) rfl ?_
   refine WPL.q (q_as (v := .lit (.bool _)) rfl) rfl ?_
   refine WPL.nilW ?_
   refine W.now ?_
   refine Then.n ?_
   refine WP.condT rfl ?_
   refine WP.seq ?_
   refine WP.region ?_
   refine WPL.q (q_mv (v := .ptr _ _) rfl) rfl ?_
   obtain ⟨y4220, h4218, H⟩ := bnd H
   rcases y4220 with _ | _
   · refine WPL.pW (runs_callP (s := [0, 1, 5]) (t := [0, 1]) (N := 6) (bor := []) fn35 rfl (s_inflate_stream_room__b k 1 x4184 x4185 x4186 x4210 (Sum.inl ()) h4218) ⟨rfl, ⟨⟨⟨trivial, .inr ⟨rfl, rfl, rfl⟩⟩, .inr ⟨rfl, rfl, rfl⟩⟩, .inr ⟨rfl, rfl, rfl⟩⟩, by decide, rfl, trivial⟩ rfl trivial (.ren rfl rfl (.ren rfl rfl .nil)) rfl ⟨⟨trivial, rfl⟩, rfl⟩ rfl) ?_
     have q0 := (Option.some.inj H)
     subst q0
     exact W.wkP [0, 1, 2, 4] hnp (Then.p (InBlock.p (InBlock.p (Then.p ⟨rfl, rfl, rfl⟩)))) ⟨rfl, ⟨⟨⟨⟨trivial, .inl rfl⟩, .inl rfl⟩, .inr ⟨rfl, rfl, rfl⟩⟩, .inr ⟨rfl, rfl, rfl⟩⟩, by decide, rfl, ⟨⟨⟨trivial, rfl⟩, rfl⟩, rfl⟩⟩ (LeE.none rfl rfl) rfl rfl
   refine WPL.c (runs_call (s := [0, 1, 5]) (t := [0, 1, 6]) (N := 7) (bor := []) fn35 rfl (s_inflate_stream_room__b k 1 x4184 x4185 x4186 x4210 (Sum.inr ()) h4218) ⟨rfl, ⟨⟨⟨trivial, .inr ⟨rfl, rfl, rfl⟩⟩, .inr ⟨rfl, rfl, rfl⟩⟩, .inr ⟨rfl, rfl, rfl⟩⟩, by decide, rfl, trivial⟩ rfl trivial (.ren rfl rfl (.ren rfl rfl .nil)) rfl ⟨⟨⟨trivial, rfl⟩, rfl⟩, rfl⟩ rfl) rfl ?_
   refine WPL.nilW ?_
   refine W.now ?_
   refine Then.n ?_
   refine WP.region ?_
   refine WPL.q (q_mv (v := .ptr _ _) rfl) rfl ?_
   refine WPL.q (q_mv (v := .ptr _ _) rfl) rfl ?_
   refine WPL.q (q_nilCheck rfl) rfl ?_
   refine WPL.q (q_fieldAddr fi45_1 rfl rfl) rfl ?_
   refine WPL.q (q_load sc29 rfl rfl rfl) rfl ?_
   refine WPL.q (q_mv (v := .lit (.int _ _)) rfl) rfl ?_
   refine WPL.q (q_conv Try.underlying3 Try.underlying5 rfl) rfl ?_
   refine WPL.d (d_buildSlice (ds := ([(IntKind.wrap .u8 0)] : List Int)) (R := (Rd.int .u8)) li29 rfl rfl rfl rfl rfl (JoinRows.cons1 Joins.sc rfl JoinRows.nil) rfl rfl) rfl ?_
   obtain ⟨h4220, H⟩ := grd H
   refine WPL.d (d_append ap29 rfl rfl rfl rfl (src_row sl29 rfl rfl) h4220 rfl) rfl ?_
   refine WPL.q (q_nilCheck rfl) rfl ?_
   refine WPL.q (q_fieldAddr fi45_1 rfl rfl) rfl ?_
   refine WPL.s (s_store sz29 rfl rfl rfl rfl rfl) ?_
   refine WPL.nilW ?_
   exact W.wk [0, 1, 2, 8, 4] hnp (InBlock.n (InBlock.n (Then.n ⟨n, (x4210 ++ ([(IntKind.wrap .u8 0)] : List Int)), Nat.lt_succ_self n, H, rfl, rfl⟩))) ⟨rfl, ⟨⟨⟨⟨⟨trivial, .inr ⟨rfl, rfl, rfl⟩⟩, .inr ⟨rfl, rfl, rfl⟩⟩, .inr ⟨rfl, rfl, rfl⟩⟩, .inr ⟨rfl, rfl, rfl⟩⟩, .inr ⟨rfl, rfl, rfl⟩⟩, by decide, rfl, ⟨⟨⟨trivial, rfl⟩, rfl⟩, rfl⟩⟩ (LeE.upd rfl rfl (LeE.upd rfl rfl (LeE.upd rfl rfl (LeE.none rfl rfl)))) rfl
 rintro _ _ _ ⟨rfl, rfl, rfl⟩
 have q0 := (Option.some.inj H)
 subst q0
 exact W.now (InBlock.p (Scope.p (BodyR.mkP trivial [0, 1, 2] ⟨rfl, rfl⟩ ⟨rfl, ⟨⟨⟨trivial, .inl rfl⟩, .inl rfl⟩, .inl rfl⟩, by decide, rfl, ⟨⟨⟨trivial, rfl⟩, rfl⟩, rfl⟩⟩ rfl rfl)))
set_option maxRecDepth 100000 in
set_option maxHeartbeats 4000000 in
theorem s_inflate_stream_coded__g (k : Nat) (x4232 : Int) (x4233 : (List Int)) (x4234 : Int) (x4235 : (List Int)) (x4236 : (List Int)) (x4237 : (List Int)) (r : (Int ⊕ ((List Int) × Int × (List Int)))) (H : g_inflate_stream_coded__g k x4232 x4233 x4234 x4235 x4236 x4237 = some r) : Go.Q.Spec Try.prog 28 3 [.ptr 0 0, .ptr 2 0, .lit (.pointer none)] (((((Mem.nil.push (.cells 45 [.ptr 1 0, .whole 3, .lit (.int .i64 x4232)])).push (.cells 52 [.ro (Rd.slice (Rd.int .u8)) false x4233, .lit (.int .i64 x4234)])).push (.cells 82 [.lit (.int .i64 (List.getD x4235 0 (0 : Int))), .lit (.int .i64 (List.getD x4235 1 (0 : Int))), .lit (.int .i64 (List.getD x4235 2 (0 : Int))), .lit (.int .i64 (List.getD x4235 3 (0 : Int))), .lit (.int .i64 (List.getD x4235 4 (0 : Int))), .lit (.int .i64 (List.getD x4235 5 (0 : Int))), .lit (.int .i64 (List.getD x4235 6 (0 : Int))), .lit (.int .i64 (List.getD x4235 7 (0 : Int))), .lit (.int .i64 (List.getD x4235 8 (0 : Int))), .lit (.int .i64 (List.getD x4235 9 (0 : Int))), .lit (.int .i64 (List.getD x4235 10 (0 : Int))), .lit (.int .i64 (List.getD x4235 11 (0 : Int))), .lit (.int .i64 (List.getD x4235 12 (0 : Int))), .lit (.int .i64 (List.getD x4235 13 (0 : Int))), .lit (.int .i64 (List.getD x4235 14 (0 : Int))), .lit (.int .i64 (List.getD x4235 15 (0 : Int))), .whole 4])).push (.row 5 (Rd.int .u8) x4236)).push (.row 3 (Rd.int .i64) x4237)) (fun o M => match (generalizing := false) r with | (Sum.inl x4283) => o = .pan (.ifc 46 (.lit (.int .i64 x4283))) ∧ M = (((Mem.nil.push (.gone)).push (.gone)).push (.gone)) | (Sum.inr (x4284, x4285, x4286)) => o = .ret (.tup []) ∧ M = (((((Mem.nil.push (.cells 45 [.ptr 1 0, .whole 3, .lit (.int .i64 x4232)])).push (.cells 52 [.ro (Rd.slice (Rd.int .u8)) false x4284, .lit (.int .i64 x4285)])).push (.cells 82 [.lit (.int .i64 (List.getD x4235 0 (0 : Int))), .lit (.int .i64 (List.getD x4235 1 (0 : Int))), .lit (.int .i64 (List.getD x4235 2 (0 : Int))), .lit (.int .i64 (List.getD x4235 3 (0 : Int))), .lit (.int .i64 (List.getD x4235 4 (0 : Int))), .lit (.int .i64 (List.getD x4235 5 (0 : Int))), .lit (.int .i64 (List.getD x4235 6 (0 : Int))), .lit (.int .i64 (List.getD x4235 7 (0 : Int))), .lit (.int .i64 (List.getD x4235 8 (0 : Int))), .lit (.int .i64 (List.getD x4235 9 (0 : Int))), .lit (.int .i64 (List.getD x4235 10 (0 : Int))), .lit (.int .i64 (List.getD x4235 11 (0 : Int))), .lit (.int .i64 (List.getD x4235 12 (0 : Int))), .lit (.int .i64 (List.getD x4235 13 (0 : Int))), .lit (.int .i64 (List.getD x4235 14 (0 : Int))), .lit (.int .i64 (List.getD x4235 15 (0 : Int))), .whole 4])).push (.row 5 (Rd.int .u8) x4286)).push (.row 3 (Rd.int .i64) x4237))) := by
 unfold g_inflate_stream_coded__g at H
 refine Go.Q.Spec.of_bodyR (az := []) (rs := []) (nt := 33) Try.func28 rfl rfl (by intro t T h; simp at h) rfl rfl fun cx hnp => ?_
 refine WP.scope ?_
 refine WP.seq ?_
 refine WP.labelW ?_
 refine W.now ?_
 refine Then.n ?_
 refine WP.block ?_
 refine WP.cv (Cv.weak (E' := (((Env.none.upd 0 (.ptr 0 0)).upd 1 (.ptr 2 0)).upd 2 (.lit (.pointer none)))) (M' := (((((Mem.nil.push (.cells 45 [.ptr 1 0, .whole 3, .lit (.int .i64 x4232)])).push (.cells 52 [.ro (Rd.slice (Rd.int .u8)) false x4233, .lit (.int .i64 x4234)])).push (.cells 82 [.lit (.int .i64 (List.getD x4235 0 (0 : Int))), .lit (.int .i64 (List.getD x4235 1 (0 : Int))), .lit (.int .i64 (List.getD x4235 2 (0 : Int))), .lit (.int .i64 (List.getD x4235 3 (0 : Int))), .lit (.int .i64 (List.getD x4235 4 (0 : Int))), .lit (.int .i64 (List.getD x4235 5 (0 : Int))), .lit (.int .i64 (List.getD x4235 6 (0 : Int))), .lit (.int .i64 (List.getD x4235 7 (0 : Int))), .lit (.int .i64 (List.getD x4235 8 (0 : Int))), .lit (.int .i64 (List.getD x4235 9 (0 : Int))), .lit (.int .i64 (List.getD x4235 10 (0 : Int))), .lit (.int .i64 (List.getD x4235 11 (0 : Int))), .lit (.int .i64 (List.getD x4235 12 (0 : Int))), .lit (.int .i64 (List.getD x4235 13 (0 : Int))), .lit (.int .i64 (List.getD x4235 14 (0 : Int))), .lit (.int .i64 (List.getD x4235 15 (0 : Int))), .whole 4])).push (.row 5 (Rd.int .u8) x4236)).push (.row 3 (Rd.int .i64) x4237))) [0, 1, 2, 3, 4] hnp ⟨rfl, ⟨⟨⟨⟨⟨trivial, .inr ⟨rfl, rfl, rfl⟩⟩, .inr ⟨rfl, rfl, rfl⟩⟩, .inr ⟨rfl, rfl, rfl⟩⟩, .inr ⟨rfl, rfl, rfl⟩⟩, .inr ⟨rfl, rfl, rfl⟩⟩, by decide, rfl, ⟨⟨⟨trivial, rfl⟩, rfl⟩, rfl⟩⟩ (LeE.upd rfl rfl (LeE.upd rfl rfl (LeE.upd rfl rfl (LeE.none rfl rfl))))) ?_
 obtain ⟨y4347, H4345, H⟩ := bnd H
 refine WP.monoW (Q := fun x E M => match (generalizing := false) y4347 with | (Sum.inl x4324) => x = .panic (.ifc 46 (.lit (.int .i64 x4324))) ∧ E = Env.none ∧ M = (((Mem.nil.push (.gone)).push (.gone)).push (.gone)) | (Sum.inr (Sum.inl x4325)) => x = .panic (.ifc 46 (.lit (.int .i64 x4325))) ∧ E = Env.none ∧ M = ((((Mem.nil.push (.gone)).push (.gone)).push (.cells 82 [.lit (.int .i64 (List.getD x4235 0 (0 : Int))), .lit (.int .i64 (List.getD x4235 1 (0 : Int))), .lit (.int .i64 (List.getD x4235 2 (0 : Int))), .lit (.int .i64 (List.getD x4235 3 (0 : Int))), .lit (.int .i64 (List.getD x4235 4 (0 : Int))), .lit (.int .i64 (List.getD x4235 5 (0 : Int))), .lit (.int .i64 (List.getD x4235 6 (0 : Int))), .lit (.int .i64 (List.getD x4235 7 (0 : Int))), .lit (.int .i64 (List.getD x4235 8 (0 : Int))), .lit (.int .i64 (List.getD x4235 9 (0 : Int))), .lit (.int .i64 (List.getD x4235 10 (0 : Int))), .lit (.int .i64 (List.getD x4235 11 (0 : Int))), .lit (.int .i64 (List.getD x4235 12 (0 : Int))), .lit (.int .i64 (List.getD x4235 13 (0 : Int))), .lit (.int .i64 (List.getD x4235 14 (0 : Int))), .lit (.int .i64 (List.getD x4235 15 (0 : Int))), .whole 3])).push (.row 3 (Rd.int .i64) x4237)) | (Sum.inr (Sum.inr (x4326, x4327, x4328))) => x = .exit 0 ∧ E = Env.none ∧ M = (((((Mem.nil.push (.cells 45 [.ptr 1 0, .whole 3, .lit (.int .i64 x4232)])).push (.cells 52 [.ro (Rd.slice (Rd.int .u8)) false x4326, .lit (.int .i64 x4327)])).push (.cells 82 [.lit (.int .i64 (List.getD x4235 0 (0 : Int))), .lit (.int .i64 (List.getD x4235 1 (0 : Int))), .lit (.int .i64 (List.getD x4235 2 (0 : Int))), .lit (.int .i64 (List.getD x4235 3 (0 : Int))), .lit (.int .i64 (List.getD x4235 4 (0 : Int))), .lit (.int .i64 (List.getD x4235 5 (0 : Int))), .lit (.int .i64 (List.getD x4235 6 (0 : Int))), .lit (.int .i64 (List.getD x4235 7 (0 : Int))), .lit (.int .i64 (List.getD x4235 8 (0 : Int))), .lit (.int .i64 (List.getD x4235 9 (0 : Int))), .lit (.int .i64 (List.getD x4235 10 (0 : Int))), .lit (.int .i64 (List.getD x4235 11 (0 : Int))), .lit (.int .i64 (List.getD x4235 12 (0 : Int))), .lit (.int .i64 (List.getD x4235 13 (0 : Int))), .lit (.int .i64 (List.getD x4235 14 (0 : Int))), .lit (.int .i64 (List.getD x4235 15 (0 : Int))), .whole 4])).push (.row 5 (Rd.int .u8) x4328)).push (.row 3 (Rd.int .i64) x4237))) ?_ ?_
 · refine WP.loop (β := (List Int) × Int × (List Int)) (fun n b => g_inflate_stream_coded__g_l0 k x4232 x4235 x4237 n b.1 b.2.1 b.2.2 = some y4347) (fun b => (((Env.none.upd 0 (.ptr 0 0)).upd 1 (.ptr 2 0)).upd 2 (.lit (.pointer none)))) (fun b => (((((Mem.nil.push (.cells 45 [.ptr 1 0, .whole 3, .lit (.int .i64 x4232)])).push (.cells 52 [.ro (Rd.slice (Rd.int .u8)) false b.1, .lit (.int .i64 b.2.1)])).push (.cells 82 [.lit (.int .i64 (List.getD x4235 0 (0 : Int))), .lit (.int .i64 (List.getD x4235 1 (0 : Int))), .lit (.int .i64 (List.getD x4235 2 (0 : Int))), .lit (.int .i64 (List.getD x4235 3 (0 : Int))), .lit (.int .i64 (List.getD x4235 4 (0 : Int))), .lit (.int .i64 (List.getD x4235 5 (0 : Int))), .lit (.int .i64 (List.getD x4235 6 (0 : Int))), .lit (.int .i64 (List.getD x4235 7 (0 : Int))), .lit (.int .i64 (List.getD x4235 8 (0 : Int))), .lit (.int .i64 (List.getD x4235 9 (0 : Int))), .lit (.int .i64 (List.getD x4235 10 (0 : Int))), .lit (.int .i64 (List.getD x4235 11 (0 : Int))), .lit (.int .i64 (List.getD x4235 12 (0 : Int))), .lit (.int .i64 (List.getD x4235 13 (0 : Int))), .lit (.int .i64 (List.getD x4235 14 (0 : Int))), .lit (.int .i64 (List.getD x4235 15 (0 : Int))), .whole 4])).push (.row 5 (Rd.int .u8) b.2.2)).push (.row 3 (Rd.int .i64) x4237))) k (x4233, x4234, x4236) H4345 rfl rfl ?_
   rintro n ⟨x4304, x4305, x4306⟩ H
   obtain _ | n := n
   · exact nf rfl H
   rw [g_inflate_stream_coded__g_l0.eq_2] at H
   show WP _ _ _ _ (((Env.none.upd 0 (.ptr 0 0)).upd 1 (.ptr 2 0)).upd 2 (.lit (.pointer none))) (((((Mem.nil.push (.cells 45 [.ptr 1 0, .whole 3, .lit (.int .i64 x4232)])).push (.cells 52 [.ro (Rd.slice (Rd.int .u8)) false x4304, .lit (.int .i64 x4305)])).push (.cells 82 [.lit (.int .i64 (List.getD x4235 0 (0 : Int))), .lit (.int .i64 (List.getD x4235 1 (0 : Int))), .lit (.int .i64 (List.getD x4235 2 (0 : Int))), .lit (.int .i64 (List.getD x4235 3 (0 : Int))), .lit (.int .i64 (List.getD x4235 4 (0 : Int))), .lit (.int .i64 (List.getD x4235 5 (0 : Int))), .lit (.int .i64 (List.getD x4235 6 (0 : Int))), .lit (.int .i64 (List.getD x4235 7 (0 : Int))), .lit (.int .i64 (List.getD x4235 8 (0 : Int))), .lit (.int .i64 (List.getD x4235 9 (0 : Int))), .lit (.int .i64 (List.getD x4235 10 (0 : Int))), .lit (.int .i64 (List.getD x4235 11 (0 : Int))), .lit (.int .i64 (List.getD x4235 12 (0 : Int))), .lit (.int .i64 (List.getD x4235 13 (0 : Int))), .lit (.int .i64 (List.getD x4235 14 (0 : Int))), .lit (.int .i64 (List.getD x4235 15 (0 : Int))), .whole 4])).push (.row 5 (Rd.int .u8) x4306)).push (.row 3 (Rd.int .i64) x4237)) _
   refine WP.block ?_
   refine WP.seq ?_
   refine WP.region ?_
   refine WPL.q (q_mv (v := .ptr _ _) rfl) rfl ?_
   refine WPL.q (q_mv (v := .ptr _ _) rfl) rfl ?_
   obtain ⟨y4334, h4328, H⟩ := bnd H
   rcases y4334 with x4330 | ⟨x4331, x4332, x4333⟩
   · refine WPL.pW (runs_callP (s := [0, 1, 2, 3, 4]) (t := [0, 1, 2]) (N := 5) (bor := []) fn36 rfl (s_inflate_stream_sym__d k x4232 x4304 x4305 x4235 x4306 x4237 (Sum.inl x4330) h4328) ⟨rfl, ⟨⟨⟨⟨⟨trivial, .inr ⟨rfl, rfl, rfl⟩⟩, .inr ⟨rfl, rfl, rfl⟩⟩, .inr ⟨rfl, rfl, rfl⟩⟩, .inr ⟨rfl, rfl, rfl⟩⟩, .inr ⟨rfl, rfl, rfl⟩⟩, by decide, rfl, trivial⟩ rfl trivial (.ren rfl rfl (.ren rfl rfl .nil)) rfl ⟨⟨⟨trivial, rfl⟩, rfl⟩, rfl⟩ rfl) ?_
     have q0 := Option.some.inj H
     subst q0
     exact W.wkP [0, 1, 2] hnp (Then.p (InBlock.p (Then.p ⟨rfl, rfl, rfl⟩))) ⟨rfl, ⟨⟨⟨trivial, .inl rfl⟩, .inl rfl⟩, .inl rfl⟩, by decide, rfl, ⟨⟨⟨trivial, rfl⟩, rfl⟩, rfl⟩⟩ (LeE.none rfl rfl) rfl rfl
   refine WPL.c (runs_call (s := [0, 1, 2, 3, 4]) (t := [0, 1, 2, 5, 6]) (N := 7) (bor := []) fn36 rfl (s_inflate_stream_sym__d k x4232 x4304 x4305 x4235 x4306 x4237 (Sum.inr (x4331, x4332, x4333)) h4328) ⟨rfl, ⟨⟨⟨⟨⟨trivial, .inr ⟨rfl, rfl, rfl⟩⟩, .inr ⟨rfl, rfl, rfl⟩⟩, .inr ⟨rfl, rfl, rfl⟩⟩, .inr ⟨rfl, rfl, rfl⟩⟩, .inr ⟨rfl, rfl, rfl⟩⟩, by decide, rfl, trivial⟩ rfl trivial (.ren rfl rfl (.ren rfl rfl .nil)) rfl ⟨⟨⟨⟨⟨trivial, rfl⟩, rfl⟩, rfl⟩, rfl⟩, rfl⟩ rfl) rfl ?_
   refine WPL.q (q_as (v := .lit (.int _ _)) rfl) rfl ?_
   refine WPL.nilW ?_
   refine W.now ?_
   refine Then.n ?_
   refine WP.block ?_
   refine WP.seq ?_
   refine WP.region ?_
   refine WPL.q (q_mv (v := .lit (.int _ _)) rfl) rfl ?_
   refine WPL.q (q_lss rfl rfl) rfl ?_
   refine WPL.q (q_as (v := .lit (.bool _)) rfl) rfl ?_
   refine WPL.nilW ?_
   refine W.now ?_
   refine Then.n ?_
   refine WP.cond (t := (decide (x4331 < 256))) rfl (fun hb4334 => ?_) (fun hb4334 => ?_)
   · replace H := cnt hb4334 H
     refine WP.seq ?_
     refine WP.region ?_
     refine WPL.q (q_mv (v := .ptr _ _) rfl) rfl ?_
     obtain ⟨y4337, h4335, H⟩ := bnd H
     rcases y4337 with _ | _
     · refine WPL.pW (runs_callP (s := [0, 1, 5]) (t := [0, 1]) (N := 7) (bor := []) fn35 rfl (s_inflate_stream_room__b k 1 x4232 x4332 x4333 x4306 (Sum.inl ()) h4335) ⟨rfl, ⟨⟨⟨trivial, .inr ⟨rfl, rfl, rfl⟩⟩, .inr ⟨rfl, rfl, rfl⟩⟩, .inr ⟨rfl, rfl, rfl⟩⟩, by decide, rfl, trivial⟩ rfl trivial (.ren rfl rfl (.ren rfl rfl .nil)) rfl ⟨⟨trivial, rfl⟩, rfl⟩ rfl) ?_
       have q0 := Option.some.inj H
       subst q0
       exact W.wkP [0, 1, 2, 6] hnp (Then.p (InBlock.p (InBlock.p (Then.p ⟨rfl, rfl, rfl⟩)))) ⟨rfl, ⟨⟨⟨⟨trivial, .inl rfl⟩, .inl rfl⟩, .inr ⟨rfl, rfl, rfl⟩⟩, .inr ⟨rfl, rfl, rfl⟩⟩, by decide, rfl, ⟨⟨⟨trivial, rfl⟩, rfl⟩, rfl⟩⟩ (LeE.none rfl rfl) rfl rfl
     refine WPL.c (runs_call (s := [0, 1, 5]) (t := [0, 1, 7]) (N := 8) (bor := []) fn35 rfl (s_inflate_stream_room__b k 1 x4232 x4332 x4333 x4306 (Sum.inr ()) h4335) ⟨rfl, ⟨⟨⟨trivial, .inr ⟨rfl, rfl, rfl⟩⟩, .inr ⟨rfl, rfl, rfl⟩⟩, .inr ⟨rfl, rfl, rfl⟩⟩, by decide, rfl, trivial⟩ rfl trivial (.ren rfl rfl (.ren rfl rfl .nil)) rfl ⟨⟨⟨trivial, rfl⟩, rfl⟩, rfl⟩ rfl) rfl ?_
     refine WPL.nilW ?_
     refine W.now ?_
     refine Then.n ?_
     refine WP.region ?_
     refine WPL.q (q_mv (v := .ptr _ _) rfl) rfl ?_
     refine WPL.q (q_mv (v := .ptr _ _) rfl) rfl ?_
     refine WPL.q (q_nilCheck rfl) rfl ?_
     refine WPL.q (q_fieldAddr fi45_1 rfl rfl) rfl ?_
     refine WPL.q (q_load sc29 rfl rfl rfl) rfl ?_
     refine WPL.q (q_mv (v := .lit (.int _ _)) rfl) rfl ?_
     refine WPL.q (q_conv Try.underlying3 Try.underlying5 rfl) rfl ?_
     refine WPL.d (d_buildSlice (ds := ([(IntKind.wrap .u8 x4331)] : List Int)) (R := (Rd.int .u8)) li29 rfl rfl rfl rfl rfl (JoinRows.cons1 Joins.sc rfl JoinRows.nil) rfl rfl) rfl ?_
     obtain ⟨h4337, H⟩ := grd H
     refine WPL.d (d_append ap29 rfl rfl rfl rfl (src_row sl29 rfl rfl) h4337 rfl) rfl ?_
     refine WPL.q (q_nilCheck rfl) rfl ?_
     refine WPL.q (q_fieldAddr fi45_1 rfl rfl) rfl ?_
     refine WPL.s (s_store sz29 rfl rfl rfl rfl rfl) ?_
     refine WPL.nilW ?_
     exact W.wk [0, 1, 2, 9, 6] hnp (InBlock.n (InBlock.n (Then.n ⟨n, (x4332, x4333, (x4306 ++ ([(IntKind.wrap .u8 x4331)] : List Int))), Nat.lt_succ_self n, H, rfl, rfl⟩))) ⟨rfl, ⟨⟨⟨⟨⟨trivial, .inr ⟨rfl, rfl, rfl⟩⟩, .inr ⟨rfl, rfl, rfl⟩⟩, .inr ⟨rfl, rfl, rfl⟩⟩, .inr ⟨rfl, rfl, rfl⟩⟩, .inr ⟨rfl, rfl, rfl⟩⟩, by decide, rfl, ⟨⟨⟨trivial, rfl⟩, rfl⟩, rfl⟩⟩ (LeE.upd rfl rfl (LeE.upd rfl rfl (LeE.upd rfl rfl (LeE.none rfl rfl)))) rfl
   replace H := cnf hb4334 H
   refine WP.seq ?_
   refine WP.region ?_
   refine WPL.q (q_mv (v := .lit (.int _ _)) rfl) rfl ?_
   refine WPL.q (q_eql rfl rfl) rfl ?_
   refine WPL.q (q_as (v := .lit (.bool _)) rfl) rfl ?_
   refine WPL.nilW ?_
   refine W.now ?_
   refine Then.n ?_
   refine WP.cond (t := (decide (x4331 = 256))) rfl (fun hb4338 => ?_) (fun hb4338 => ?_)
   · replace H := cnt hb4338 H
     refine WP.exitW ?_
     have q0 := Option.some.inj H
     subst q0
     exact W.wk [0, 1, 2, 5, 6] hnp (InBlock.x rfl (InBlock.x rfl (Then.x ⟨rfl, rfl, rfl⟩))) ⟨rfl, ⟨⟨⟨⟨⟨trivial, .inr ⟨rfl, rfl, rfl⟩⟩, .inr ⟨rfl, rfl, rfl⟩⟩, .inr ⟨rfl, rfl, rfl⟩⟩, .inr ⟨rfl, rfl, rfl⟩⟩, .inr ⟨rfl, rfl, rfl⟩⟩, by decide, rfl, ⟨⟨⟨trivial, rfl⟩, rfl⟩, rfl⟩⟩ (LeE.none rfl rfl) rfl
   replace H := cnf hb4338 H
   refine WP.region ?_
   refine WPL.q (q_mv (v := .ptr _ _) rfl) rfl ?_
   refine WPL.q (q_mv (v := .lit (.int _ _)) rfl) rfl ?_
   refine WPL.q (q_mv (v := .lit _) rfl) rfl ?_
   obtain ⟨y4345, h4339, H⟩ := bnd H
   rcases y4345 with x4341 | ⟨x4342, x4343, x4344⟩
   · refine WPL.pW (runs_callP (s := [0, 1, 5]) (t := [0, 1]) (N := 7) (bor := []) fn37 rfl (s_inflate_stream_copied__b k x4331 x4232 x4332 x4333 x4306 (Sum.inl x4341) h4339) ⟨rfl, ⟨⟨⟨trivial, .inr ⟨rfl, rfl, rfl⟩⟩, .inr ⟨rfl, rfl, rfl⟩⟩, .inr ⟨rfl, rfl, rfl⟩⟩, by decide, rfl, trivial⟩ rfl trivial (.ren rfl rfl (.ren rfl rfl (.ren rfl rfl .nil))) rfl ⟨⟨trivial, rfl⟩, rfl⟩ rfl) ?_
     have q0 := Option.some.inj H
     subst q0
     exact W.wkP [0, 1, 2, 6] hnp (InBlock.p (InBlock.p (Then.p ⟨rfl, rfl, rfl⟩))) ⟨rfl, ⟨⟨⟨⟨trivial, .inl rfl⟩, .inl rfl⟩, .inr ⟨rfl, rfl, rfl⟩⟩, .inr ⟨rfl, rfl, rfl⟩⟩, by decide, rfl, ⟨⟨⟨trivial, rfl⟩, rfl⟩, rfl⟩⟩ (LeE.none rfl rfl) rfl rfl
   refine WPL.c (runs_call (s := [0, 1, 5]) (t := [0, 1, 7]) (N := 8) (bor := []) fn37 rfl (s_inflate_stream_copied__b k x4331 x4232 x4332 x4333 x4306 (Sum.inr (x4342, x4343, x4344)) h4339) ⟨rfl, ⟨⟨⟨trivial, .inr ⟨rfl, rfl, rfl⟩⟩, .inr ⟨rfl, rfl, rfl⟩⟩, .inr ⟨rfl, rfl, rfl⟩⟩, by decide, rfl, trivial⟩ rfl trivial (.ren rfl rfl (.ren rfl rfl (.ren rfl rfl .nil))) rfl ⟨⟨⟨trivial, rfl⟩, rfl⟩, rfl⟩ rfl) rfl ?_
   refine WPL.nilW ?_
   exact W.wk [0, 1, 2, 7, 6] hnp (InBlock.n (InBlock.n (Then.n ⟨n, (x4342, x4343, x4344), Nat.lt_succ_self n, H, rfl, rfl⟩))) ⟨rfl, ⟨⟨⟨⟨⟨trivial, .inr ⟨rfl, rfl, rfl⟩⟩, .inr ⟨rfl, rfl, rfl⟩⟩, .inr ⟨rfl, rfl, rfl⟩⟩, .inr ⟨rfl, rfl, rfl⟩⟩, .inr ⟨rfl, rfl, rfl⟩⟩, by decide, rfl, ⟨⟨⟨trivial, rfl⟩, rfl⟩, rfl⟩⟩ (LeE.upd rfl rfl (LeE.upd rfl rfl (LeE.upd rfl rfl (LeE.none rfl rfl)))) rfl
 rcases y4347 with x4324 | x4325 | ⟨x4326, x4327, x4328⟩
 · rintro _ _ _ ⟨rfl, rfl, rfl⟩
   have q0 := Option.some.inj H
   subst q0
   exact W.now (InBlock.p (Scope.p (BodyR.mkP trivial [0, 1, 2] ⟨rfl, rfl⟩ ⟨rfl, ⟨⟨⟨trivial, .inl rfl⟩, .inl rfl⟩, .inl rfl⟩, by decide, rfl, ⟨⟨⟨trivial, rfl⟩, rfl⟩, rfl⟩⟩ rfl rfl)))
 · rintro _ _ _ ⟨rfl, rfl, rfl⟩
   have q0 := Option.some.inj H
   subst q0
   exact W.now (InBlock.p (Scope.p (BodyR.mkP trivial [0, 1, 2] ⟨rfl, rfl⟩ ⟨rfl, ⟨⟨⟨trivial, .inl rfl⟩, .inl rfl⟩, .inl rfl⟩, by decide, rfl, ⟨⟨⟨trivial, rfl⟩, rfl⟩, rfl⟩⟩ rfl rfl)))
 rintro _ _ _ ⟨rfl, rfl, rfl⟩
 have q0 := Option.some.inj H
 subst q0
 exact W.now (InBlock.x0 (Scope.n (BodyR.mkN trivial rfl [0, 1, 2, 3, 4] ⟨rfl, rfl⟩ ⟨rfl, ⟨⟨⟨⟨⟨trivial, .inr ⟨rfl, rfl, rfl⟩⟩, .inr ⟨rfl, rfl, rfl⟩⟩, .inr ⟨rfl, rfl, rfl⟩⟩, .inr ⟨rfl, rfl, rfl⟩⟩, .inr ⟨rfl, rfl, rfl⟩⟩, by decide, rfl, ⟨⟨⟨trivial, rfl⟩, rfl⟩, rfl⟩⟩ rfl rfl)))
set_option maxRecDepth 100000 in
set_option maxHeartbeats 4000000 in
theorem s_inflate_stream_coded__h (k : Nat) (x4354 : Int) (x4355 : (List Int)) (x4356 : Int) (x4357 : (List Int)) (x4358 : (List Int)) (x4359 : (List Int)) (x4360 : (List Int)) (x4361 : (List Int)) (r : (Int ⊕ ((List Int) × Int × (List Int)))) (H : g_inflate_stream_coded__h k x4354 x4355 x4356 x4357 x4358 x4359 x4360 x4361 = some r) : Go.Q.Spec Try.prog 28 4 [.ptr 0 0, .ptr 2 0, .ptr 3 0] (((((((Mem.nil.push (.cells 45 [.ptr 1 0, .whole 4, .lit (.int .i64 x4354)])).push (.cells 52 [.ro (Rd.slice (Rd.int .u8)) false x4355, .lit (.int .i64 x4356)])).push (.cells 82 [.lit (.int .i64 (List.getD x4357 0 (0 : Int))), .lit (.int .i64 (List.getD x4357 1 (0 : Int))), .lit (.int .i64 (List.getD x4357 2 (0 : Int))), .lit (.int .i64 (List.getD x4357 3 (0 : Int))), .lit (.int .i64 (List.getD x4357 4 (0 : Int))), .lit (.int .i64 (List.getD x4357 5 (0 : Int))), .lit (.int .i64 (List.getD x4357 6 (0 : Int))), .lit (.int .i64 (List.getD x4357 7 (0 : Int))), .lit (.int .i64 (List.getD x4357 8 (0 : Int))), .lit (.int .i64 (List.getD x4357 9 (0 : Int))), .lit (.int .i64 (List.getD x4357 10 (0 : Int))), .lit (.int .i64 (List.getD x4357 11 (0 : Int))), .lit (.int .i64 (List.getD x4357 12 (0 : Int))), .lit (.int .i64 (List.getD x4357 13 (0 : Int))), .lit (.int .i64 (List.getD x4357 14 (0 : Int))), .lit (.int .i64 (List.getD x4357 15 (0 : Int))), .whole 5])).push (.cells 82 [.lit (.int .i64 (List.getD x4358 0 (0 : Int))), .lit (.int .i64 (List.getD x4358 1 (0 : Int))), .lit (.int .i64 (List.getD x4358 2 (0 : Int))), .lit (.int .i64 (List.getD x4358 3 (0 : Int))), .lit (.int .i64 (List.getD x4358 4 (0 : Int))), .lit (.int .i64 (List.getD x4358 5 (0 : Int))), .lit (.int .i64 (List.getD x4358 6 (0 : Int))), .lit (.int .i64 (List.getD x4358 7 (0 : Int))), .lit (.int .i64 (List.getD x4358 8 (0 : Int))), .lit (.int .i64 (List.getD x4358 9 (0 : Int))), .lit (.int .i64 (List.getD x4358 10 (0 : Int))), .lit (.int .i64 (List.getD x4358 11 (0 : Int))), .lit (.int .i64 (List.getD x4358 12 (0 : Int))), .lit (.int .i64 (List.getD x4358 13 (0 : Int))), .lit (.int .i64 (List.getD x4358 14 (0 : Int))), .lit (.int .i64 (List.getD x4358 15 (0 : Int))), .whole 6])).push (.row 5 (Rd.int .u8) x4359)).push (.row 3 (Rd.int .i64) x4360)).push (.row 3 (Rd.int .i64) x4361)) (fun o M => match (generalizing := false) r with | (Sum.inl x4407) => o = .pan (.ifc 46 (.lit (.int .i64 x4407))) ∧ M = ((((Mem.nil.push (.gone)).push (.gone)).push (.gone)).push (.gone)) | (Sum.inr (x4408, x4409, x4410)) => o = .ret (.tup []) ∧ M = (((((((Mem.nil.push (.cells 45 [.ptr 1 0, .whole 4, .lit (.int .i64 x4354)])).push (.cells 52 [.ro (Rd.slice (Rd.int .u8)) false x4408, .lit (.int .i64 x4409)])).push (.cells 82 [.lit (.int .i64 (List.getD x4357 0 (0 : Int))), .lit (.int .i64 (List.getD x4357 1 (0 : Int))), .lit (.int .i64 (List.getD x4357 2 (0 : Int))), .lit (.int .i64 (List.getD x4357 3 (0 : Int))), .lit (.int .i64 (List.getD x4357 4 (0 : Int))), .lit (.int .i64 (List.getD x4357 5 (0 : Int))), .lit (.int .i64 (List.getD x4357 6 (0 : Int))), .lit (.int .i64 (List.getD x4357 7 (0 : Int))), .lit (.int .i64 (List.getD x4357 8 (0 : Int))), .lit (.int .i64 (List.getD x4357 9 (0 : Int))), .lit (.int .i64 (List.getD x4357 10 (0 : Int))), .lit (.int .i64 (List.getD x4357 11 (0 : Int))), .lit (.int .i64 (List.getD x4357 12 (0 : Int))), .lit (.int .i64 (List.getD x4357 13 (0 : Int))), .lit (.int .i64 (List.getD x4357 14 (0 : Int))), .lit (.int .i64 (List.getD x4357 15 (0 : Int))), .whole 5])).push (.cells 82 [.lit (.int .i64 (List.getD x4358 0 (0 : Int))), .lit (.int .i64 (List.getD x4358 1 (0 : Int))), .lit (.int .i64 (List.getD x4358 2 (0 : Int))), .lit (.int .i64 (List.getD x4358 3 (0 : Int))), .lit (.int .i64 (List.getD x4358 4 (0 : Int))), .lit (.int .i64 (List.getD x4358 5 (0 : Int))), .lit (.int .i64 (List.getD x4358 6 (0 : Int))), .lit (.int .i64 (List.getD x4358 7 (0 : Int))), .lit (.int .i64 (List.getD x4358 8 (0 : Int))), .lit (.int .i64 (List.getD x4358 9 (0 : Int))), .lit (.int .i64 (List.getD x4358 10 (0 : Int))), .lit (.int .i64 (List.getD x4358 11 (0 : Int))), .lit (.int .i64 (List.getD x4358 12 (0 : Int))), .lit (.int .i64 (List.getD x4358 13 (0 : Int))), .lit (.int .i64 (List.getD x4358 14 (0 : Int))), .lit (.int .i64 (List.getD x4358 15 (0 : Int))), .whole 6])).push (.row 5 (Rd.int .u8) x4410)).push (.row 3 (Rd.int .i64) x4360)).push (.row 3 (Rd.int .i64) x4361))) := by
 unfold g_inflate_stream_coded__h at H
 refine Go.Q.Spec.of_bodyR (az := []) (rs := []) (nt := 33) Try.func28 rfl rfl (by intro t T h; simp at h) rfl rfl fun cx hnp => ?_
 refine WP.scope ?_
 refine WP.seq ?_
 refine WP.labelW ?_
 refine W.now ?_
 refine Then.n ?_
 refine WP.block ?_
 refine WP.cv (Cv.weak (E' := (((Env.none.upd 0 (.ptr 0 0)).upd 1 (.ptr 2 0)).upd 2 (.ptr 3 0))) (M' := (((((((Mem.nil.push (.cells 45 [.ptr 1 0, .whole 4, .lit (.int .i64 x4354)])).push (.cells 52 [.ro (Rd.slice (Rd.int .u8)) false x4355, .lit (.int .i64 x4356)])).push (.cells 82 [.lit (.int .i64 (List.getD x4357 0 (0 : Int))), .lit (.int .i64 (List.getD x4357 1 (0 : Int))), .lit (.int .i64 (List.getD x4357 2 (0 : Int))), .lit (.int .i64 (List.getD x4357 3 (0 : Int))), .lit (.int .i64 (List.getD x4357 4 (0 : Int))), .lit (.int .i64 (List.getD x4357 5 (0 : Int))), .lit (.int .i64 (List.getD x4357 6 (0 : Int))), .lit (.int .i64 (List.getD x4357 7 (0 : Int))), .lit (.int .i64 (List.getD x4357 8 (0 : Int))), .lit (.int .i64 (List.getD x4357 9 (0 : Int))), .lit (.int .i64 (List.getD x4357 10 (0 : Int))), .lit (.int .i64 (List.getD x4357 11 (0 : Int))), .lit (.int .i64 (List.getD x4357 12 (0 : Int))), .lit (.int .i64 (List.getD x4357 13 (0 : Int))), .lit (.int .i64 (List.getD x4357 14 (0 : Int))), .lit (.int .i64 (List.getD x4357 15 (0 : Int))), .whole 5])).push (.cells 82 [.lit (.int .i64 (List.getD x4358 0 (0 : Int))), .lit (.int .i64 (List.getD x4358 1 (0 : Int))), .lit (.int .i64 (List.getD x4358 2 (0 : Int))), .lit (.int .i64 (List.getD x4358 3 (0 : Int))), .lit (.int .i64 (List.getD x4358 4 (0 : Int))), .lit (.int .i64 (List.getD x4358 5 (0 : Int))), .lit (.int .i64 (List.getD x4358 6 (0 : Int))), .lit (.int .i64 (List.getD x4358 7 (0 : Int))), .lit (.int .i64 (List.getD x4358 8 (0 : Int))), .lit (.int .i64 (List.getD x4358 9 (0 : Int))), .lit (.int .i64 (List.getD x4358 10 (0 : Int))), .lit (.int .i64 (List.getD x4358 11 (0 : Int))), .lit (.int .i64 (List.getD x4358 12 (0 : Int))), .lit (.int .i64 (List.getD x4358 13 (0 : Int))), .lit (.int .i64 (List.getD x4358 14 (0 : Int))), .lit (.int .i64 (List.getD x4358 15 (0 : Int))), .whole 6])).push (.row 5 (Rd.int .u8) x4359)).push (.row 3 (Rd.int .i64) x4360)).push (.row 3 (Rd.int .i64) x4361))) [0, 1, 2, 3, 4, 5, 6] hnp ⟨rfl, ⟨⟨⟨⟨⟨⟨⟨trivial, .inr ⟨rfl, rfl, rfl⟩⟩, .inr ⟨rfl, rfl, rfl⟩⟩, .inr ⟨rfl, rfl, rfl⟩⟩, .inr ⟨rfl, rfl, rfl⟩⟩, .inr ⟨rfl, rfl, rfl⟩⟩, .inr ⟨rfl, rfl, rfl⟩⟩, .inr ⟨rfl, rfl, rfl⟩⟩, by decide, rfl, ⟨⟨⟨⟨trivial, rfl⟩, rfl⟩, rfl⟩, rfl⟩⟩ (LeE.upd rfl rfl (LeE.upd rfl rfl (LeE.upd rfl rfl (LeE.none rfl rfl))))) ?_
 obtain ⟨y4471, H4469, H⟩ := bnd H
 refine WP.monoW (Q := fun x E M => match (generalizing := false) y4471 with | (Sum.inl x4448) => x = .panic (.ifc 46 (.lit (.int .i64 x4448))) ∧ E = Env.none ∧ M = (((((Mem.nil.push (.gone)).push (.gone)).push (.gone)).push (.cells 82 [.lit (.int .i64 (List.getD x4358 0 (0 : Int))), .lit (.int .i64 (List.getD x4358 1 (0 : Int))), .lit (.int .i64 (List.getD x4358 2 (0 : Int))), .lit (.int .i64 (List.getD x4358 3 (0 : Int))), .lit (.int .i64 (List.getD x4358 4 (0 : Int))), .lit (.int .i64 (List.getD x4358 5 (0 : Int))), .lit (.int .i64 (List.getD x4358 6 (0 : Int))), .lit (.int .i64 (List.getD x4358 7 (0 : Int))), .lit (.int .i64 (List.getD x4358 8 (0 : Int))), .lit (.int .i64 (List.getD x4358 9 (0 : Int))), .lit (.int .i64 (List.getD x4358 10 (0 : Int))), .lit (.int .i64 (List.getD x4358 11 (0 : Int))), .lit (.int .i64 (List.getD x4358 12 (0 : Int))), .lit (.int .i64 (List.getD x4358 13 (0 : Int))), .lit (.int .i64 (List.getD x4358 14 (0 : Int))), .lit (.int .i64 (List.getD x4358 15 (0 : Int))), .whole 4])).push (.row 3 (Rd.int .i64) x4361)) | (Sum.inr (Sum.inl _)) => x = .panic (.ifc 46 (.lit (.int .i64 3))) ∧ E = Env.none ∧ M = ((((((Mem.nil.push (.gone)).push (.gone)).push (.cells 82 [.lit (.int .i64 (List.getD x4357 0 (0 : Int))), .lit (.int .i64 (List.getD x4357 1 (0 : Int))), .lit (.int .i64 (List.getD x4357 2 (0 : Int))), .lit (.int .i64 (List.getD x4357 3 (0 : Int))), .lit (.int .i64 (List.getD x4357 4 (0 : Int))), .lit (.int .i64 (List.getD x4357 5 (0 : Int))), .lit (.int .i64 (List.getD x4357 6 (0 : Int))), .lit (.int .i64 (List.getD x4357 7 (0 : Int))), .lit (.int .i64 (List.getD x4357 8 (0 : Int))), .lit (.int .i64 (List.getD x4357 9 (0 : Int))), .lit (.int .i64 (List.getD x4357 10 (0 : Int))), .lit (.int .i64 (List.getD x4357 11 (0 : Int))), .lit (.int .i64 (List.getD x4357 12 (0 : Int))), .lit (.int .i64 (List.getD x4357 13 (0 : Int))), .lit (.int .i64 (List.getD x4357 14 (0 : Int))), .lit (.int .i64 (List.getD x4357 15 (0 : Int))), .whole 4])).push (.cells 82 [.lit (.int .i64 (List.getD x4358 0 (0 : Int))), .lit (.int .i64 (List.getD x4358 1 (0 : Int))), .lit (.int .i64 (List.getD x4358 2 (0 : Int))), .lit (.int .i64 (List.getD x4358 3 (0 : Int))), .lit (.int .i64 (List.getD x4358 4 (0 : Int))), .lit (.int .i64 (List.getD x4358 5 (0 : Int))), .lit (.int .i64 (List.getD x4358 6 (0 : Int))), .lit (.int .i64 (List.getD x4358 7 (0 : Int))), .lit (.int .i64 (List.getD x4358 8 (0 : Int))), .lit (.int .i64 (List.getD x4358 9 (0 : Int))), .lit (.int .i64 (List.getD x4358 10 (0 : Int))), .lit (.int .i64 (List.getD x4358 11 (0 : Int))), .lit (.int .i64 (List.getD x4358 12 (0 : Int))), .lit (.int .i64 (List.getD x4358 13 (0 : Int))), .lit (.int .i64 (List.getD x4358 14 (0 : Int))), .lit (.int .i64 (List.getD x4358 15 (0 : Int))), .whole 5])).push (.row 3 (Rd.int .i64) x4360)).push (.row 3 (Rd.int .i64) x4361)) | (Sum.inr (Sum.inr (Sum.inl x4449))) => x = .panic (.ifc 46 (.lit (.int .i64 x4449))) ∧ E = Env.none ∧ M = (((((Mem.nil.push (.gone)).push (.gone)).push (.cells 82 [.lit (.int .i64 (List.getD x4357 0 (0 : Int))), .lit (.int .i64 (List.getD x4357 1 (0 : Int))), .lit (.int .i64 (List.getD x4357 2 (0 : Int))), .lit (.int .i64 (List.getD x4357 3 (0 : Int))), .lit (.int .i64 (List.getD x4357 4 (0 : Int))), .lit (.int .i64 (List.getD x4357 5 (0 : Int))), .lit (.int .i64 (List.getD x4357 6 (0 : Int))), .lit (.int .i64 (List.getD x4357 7 (0 : Int))), .lit (.int .i64 (List.getD x4357 8 (0 : Int))), .lit (.int .i64 (List.getD x4357 9 (0 : Int))), .lit (.int .i64 (List.getD x4357 10 (0 : Int))), .lit (.int .i64 (List.getD x4357 11 (0 : Int))), .lit (.int .i64 (List.getD x4357 12 (0 : Int))), .lit (.int .i64 (List.getD x4357 13 (0 : Int))), .lit (.int .i64 (List.getD x4357 14 (0 : Int))), .lit (.int .i64 (List.getD x4357 15 (0 : Int))), .whole 4])).push (.gone)).push (.row 3 (Rd.int .i64) x4360)) | (Sum.inr (Sum.inr (Sum.inr (x4450, x4451, x4452)))) => x = .exit 0 ∧ E = Env.none ∧ M = (((((((Mem.nil.push (.cells 45 [.ptr 1 0, .whole 4, .lit (.int .i64 x4354)])).push (.cells 52 [.ro (Rd.slice (Rd.int .u8)) false x4450, .lit (.int .i64 x4451)])).push (.cells 82 [.lit (.int .i64 (List.getD x4357 0 (0 : Int))), .lit (.int .i64 (List.getD x4357 1 (0 : Int))), .lit (.int .i64 (List.getD x4357 2 (0 : Int))), .lit (.int .i64 (List.getD x4357 3 (0 : Int))), .lit (.int .i64 (List.getD x4357 4 (0 : Int))), .lit (.int .i64 (List.getD x4357 5 (0 : Int))), .lit (.int .i64 (List.getD x4357 6 (0 : Int))), .lit (.int .i64 (List.getD x4357 7 (0 : Int))), .lit (.int .i64 (List.getD x4357 8 (0 : Int))), .lit (.int .i64 (List.getD x4357 9 (0 : Int))), .lit (.int .i64 (List.getD x4357 10 (0 : Int))), .lit (.int .i64 (List.getD x4357 11 (0 : Int))), .lit (.int .i64 (List.getD x4357 12 (0 : Int))), .lit (.int .i64 (List.getD x4357 13 (0 : Int))), .lit (.int .i64 (List.getD x4357 14 (0 : Int))), .lit (.int .i64 (List.getD x4357 15 (0 : Int))), .whole 5])).push (.cells 82 [.lit (.int .i64 (List.getD x4358 0 (0 : Int))), .lit (.int .i64 (List.getD x4358 1 (0 : Int))), .lit (.int .i64 (List.getD x4358 2 (0 : Int))), .lit (.int .i64 (List.getD x4358 3 (0 : Int))), .lit (.int .i64 (List.getD x4358 4 (0 : Int))), .lit (.int .i64 (List.getD x4358 5 (0 : Int))), .lit (.int .i64 (List.getD x4358 6 (0 : Int))), .lit (.int .i64 (List.getD x4358 7 (0 : Int))), .lit (.int .i64 (List.getD x4358 8 (0 : Int))), .lit (.int .i64 (List.getD x4358 9 (0 : Int))), .lit (.int .i64 (List.getD x4358 10 (0 : Int))), .lit (.int .i64 (List.getD x4358 11 (0 : Int))), .lit (.int .i64 (List.getD x4358 12 (0 : Int))), .lit (.int .i64 (List.getD x4358 13 (0 : Int))), .lit (.int .i64 (List.getD x4358 14 (0 : Int))), .lit (.int .i64 (List.getD x4358 15 (0 : Int))), .whole 6])).push (.row 5 (Rd.int .u8) x4452)).push (.row 3 (Rd.int .i64) x4360)).push (.row 3 (Rd.int .i64) x4361))) ?_ ?_
 · refine WP.loop (β := (List Int) × Int × (List Int)) (fun n b => g_inflate_stream_coded__h_l0 k x4354 x4357 x4358 x4360 x4361 n b.1 b.2.1 b.2.2 = some y4471) (fun b => (((Env.none.upd 0 (.ptr 0 0)).upd 1 (.ptr 2 0)).upd 2 (.ptr 3 0))) (fun b => (((((((Mem.nil.push (.cells 45 [.ptr 1 0, .whole 4, .lit (.int .i64 x4354)])).push (.cells 52 [.ro (Rd.slice (Rd.int .u8)) false b.1, .lit (.int .i64 b.2.1)])).push (.cells 82 [.lit (.int .i64 (List.getD x4357 0 (0 : Int))), .lit (.int .i64 (List.getD x4357 1 (0 : Int))), .lit (.int .i64 (List.getD x4357 2 (0 : Int))), .lit (.int .i64 (List.getD x4357 3 (0 : Int))), .lit (.int .i64 (List.getD x4357 4 (0 : Int))), .lit (.int .i64 (List.getD x4357 5 (0 : Int))), .lit (.int .i64 (List.getD x4357 6 (0 : Int))), .lit (.int .i64 (List.getD x4357 7 (0 : Int))), .lit (.int .i64 (List.getD x4357 8 (0 : Int))), .lit (.int .i64 (List.getD x4357 9 (0 : Int))), .lit (.int .i64 (List.getD x4357 10 (0 : Int))), .lit (.int .i64 (List.getD x4357 11 (0 : Int))), .lit (.int .i64 (List.getD x4357 12 (0 : Int))), .lit (.int .i64 (List.getD x4357 13 (0 : Int))), .lit (.int .i64 (List.getD x4357 14 (0 : Int))), .lit (.int .i64 (List.getD x4357 15 (0 : Int))), .whole 5])).push (.cells 82 [.lit (.int .i64 (List.getD x4358 0 (0 : Int))), .lit (.int .i64 (List.getD x4358 1 (0 : Int))), .lit (.int .i64 (List.getD x4358 2 (0 : Int))), .lit (.int .i64 (List.getD x4358 3 (0 : Int))), .lit (.int .i64 (List.getD x4358 4 (0 : Int))), .lit (.int .i64 (List.getD x4358 5 (0 : Int))), .lit (.int .i64 (List.getD x4358 6 (0 : Int))), .lit (.int .i64 (List.getD x4358 7 (0 : Int))), .lit (.int .i64 (List.getD x4358 8 (0 : Int))), .lit (.int .i64 (List.getD x4358 9 (0 : Int))), .lit (.int .i64 (List.getD x4358 10 (0 : Int))), .lit (.int .i64 (List.getD x4358 11 (0 : Int))), .lit (.int .i64 (List.getD x4358 12 (0 : Int))), .lit (.int .i64 (List.getD x4358 13 (0 : Int))), .lit (.int .i64 (List.getD x4358 14 (0 : Int))), .lit (.int .i64 (List.getD x4358 15 (0 : Int))), .whole 6])).push (.row 5 (Rd.int .u8) b.2.2)).push (.row 3 (Rd.int .i64) x4360)).push (.row 3 (Rd.int .i64) x4361))) k (x4355, x4356, x4359) H4469 rfl rfl ?_
   rintro n ⟨x4428, x4429, x4430⟩ H
   obtain _ | n := n
   · exact nf rfl H
   rw [g_inflate_stream_coded__h_l0.eq_2] at H
   show WP _ _ _ _ (((Env.none.upd 0 (.ptr 0 0)).upd 1 (.ptr 2 0)).upd 2 (.ptr 3 0)) (((((((Mem.nil.push (.cells 45 [.ptr 1 0, .whole 4, .lit (.int .i64 x4354)])).push (.cells 52 [.ro (Rd.slice (Rd.int .u8)) false x4428, .lit (.int .i64 x4429)])).push (.cells 82 [.lit (.int .i64 (List.getD x4357 0 (0 : Int))), .lit (.int .i64 (List.getD x4357 1 (0 : Int))), .lit (.int .i64 (List.getD x4357 2 (0 : Int))), .lit (.int .i64 (List.getD x4357 3 (0 : Int))), .lit (.int .i64 (List.getD x4357 4 (0 : Int))), .lit (.int .i64 (List.getD x4357 5 (0 : Int))), .lit (.int .i64 (List.getD x4357 6 (0 : Int))), .lit (.int .i64 (List.getD x4357 7 (0 : Int))), .lit (.int .i64 (List.getD x4357 8 (0 : Int))), .lit (.int .i64 (List.getD x4357 9 (0 : Int))), .lit (.int .i64 (List.getD x4357 10 (0 : Int))), .lit (.int .i64 (List.getD x4357 11 (0 : Int))), .lit (.int .i64 (List.getD x4357 12 (0 : Int))), .lit (.int .i64 (List.getD x4357 13 (0 : Int))), .lit (.int .i64 (List.getD x4357 14 (0 : Int))), .lit (.int .i64 (List.getD x4357 15 (0 : Int))), .whole 5])).push (.cells 82 [.lit (.int .i64 (List.getD x4358 0 (0 : Int))), .lit (.int .i64 (List.getD x4358 1 (0 : Int))), .lit (.int .i64 (List.getD x4358 2 (0 : Int))), .lit (.int .i64 (List.getD x4358 3 (0 : Int))), .lit (.int .i64 (List.getD x4358 4 (0 : Int))), .lit (.int .i64 (List.getD x4358 5 (0 : Int))), .lit (.int .i64 (List.getD x4358 6 (0 : Int))), .lit (.int .i64 (List.getD x4358 7 (0 : Int))), .lit (.int .i64 (List.getD x4358 8 (0 : Int))), .lit (.int .i64 (List.getD x4358 9 (0 : Int))), .lit (.int .i64 (List.getD x4358 10 (0 : Int))), .lit (.int .i64 (List.getD x4358 11 (0 : Int))), .lit (.int .i64 (List.getD x4358 12 (0 : Int))), .lit (.int .i64 (List.getD x4358 13 (0 : Int))), .lit (.int .i64 (List.getD x4358 14 (0 : Int))), .lit (.int .i64 (List.getD x4358 15 (0 : Int))), .whole 6])).push (.row 5 (Rd.int .u8) x4430)).push (.row 3 (Rd.int .i64) x4360)).push (.row 3 (Rd.int .i64) x4361)) _
   refine WP.block ?_
   refine WP.seq ?_
   refine WP.region ?_
   refine WPL.q (q_mv (v := .ptr _ _) rfl) rfl ?_
   refine WPL.q (q_mv (v := .ptr _ _) rfl) rfl ?_
   obtain ⟨y4458, h4452, H⟩ := bnd H
   rcases y4458 with x4454 | ⟨x4455, x4456, x4457⟩
   · refine WPL.pW (runs_callP (s := [0, 1, 2, 4, 5]) (t := [0, 1, 2]) (N := 7) (bor := []) fn36 rfl (s_inflate_stream_sym__d k x4354 x4428 x4429 x4357 x4430 x4360 (Sum.inl x4454) h4452) ⟨rfl, ⟨⟨⟨⟨⟨trivial, .inr ⟨rfl, rfl, rfl⟩⟩, .inr ⟨rfl, rfl, rfl⟩⟩, .inr ⟨rfl, rfl, rfl⟩⟩, .inr ⟨rfl, rfl, rfl⟩⟩, .inr ⟨rfl, rfl, rfl⟩⟩, by decide, rfl, trivial⟩ rfl trivial (.ren rfl rfl (.ren rfl rfl .nil)) rfl ⟨⟨⟨trivial, rfl⟩, rfl⟩, rfl⟩ rfl) ?_
     have q0 := Option.some.inj H
     subst q0
     exact W.wkP [0, 1, 2, 3, 6] hnp (Then.p (InBlock.p (Then.p ⟨rfl, rfl, rfl⟩))) ⟨rfl, ⟨⟨⟨⟨⟨trivial, .inl rfl⟩, .inl rfl⟩, .inl rfl⟩, .inr ⟨rfl, rfl, rfl⟩⟩, .inr ⟨rfl, rfl, rfl⟩⟩, by decide, rfl, ⟨⟨⟨⟨trivial, rfl⟩, rfl⟩, rfl⟩, rfl⟩⟩ (LeE.none rfl rfl) rfl rfl
   refine WPL.c (runs_call (s := [0, 1, 2, 4, 5]) (t := [0, 1, 2, 7, 8]) (N := 9) (bor := []) fn36 rfl (s_inflate_stream_sym__d k x4354 x4428 x4429 x4357 x4430 x4360 (Sum.inr (x4455, x4456, x4457)) h4452) ⟨rfl, ⟨⟨⟨⟨⟨trivial, .inr ⟨rfl, rfl, rfl⟩⟩, .inr ⟨rfl, rfl, rfl⟩⟩, .inr ⟨rfl, rfl, rfl⟩⟩, .inr ⟨rfl, rfl, rfl⟩⟩, .inr ⟨rfl, rfl, rfl⟩⟩, by decide, rfl, trivial⟩ rfl trivial (.ren rfl rfl (.ren rfl rfl .nil)) rfl ⟨⟨⟨⟨⟨trivial, rfl⟩, rfl⟩, rfl⟩, rfl⟩, rfl⟩ rfl) rfl ?_
   refine WPL.q (q_as (v := .lit (.int _ _)) rfl) rfl ?_
   refine WPL.nilW ?_
   refine W.now ?_
   refine Then.n ?_
   refine WP.block ?_
   refine WP.seq ?_
   refine WP.region ?_
   refine WPL.q (q_mv (v := .lit (.int _ _)) rfl) rfl ?_
   refine WPL.q (q_lss rfl rfl) rfl ?_
   refine WPL.q (q_as (v := .lit (.bool _)) rfl) rfl ?_
   refine WPL.nilW ?_
   refine W.now ?_
   refine Then.n ?_
   refine WP.cond (t := (decide (x4455 < 256))) rfl (fun hb4458 => ?_) (fun hb4458 => ?_)
   · replace H := cnt hb4458 H
     refine WP.seq ?_
     refine WP.region ?_
     refine WPL.q (q_mv (v := .ptr _ _) rfl) rfl ?_
     obtain ⟨y4461, h4459, H⟩ := bnd H
     rcases y4461 with _ | _
     · refine WPL.pW (runs_callP (s := [0, 1, 7]) (t := [0, 1]) (N := 9) (bor := []) fn35 rfl (s_inflate_stream_room__b k 1 x4354 x4456 x4457 x4430 (Sum.inl ()) h4459) ⟨rfl, ⟨⟨⟨trivial, .inr ⟨rfl, rfl, rfl⟩⟩, .inr ⟨rfl, rfl, rfl⟩⟩, .inr ⟨rfl, rfl, rfl⟩⟩, by decide, rfl, trivial⟩ rfl trivial (.ren rfl rfl (.ren rfl rfl .nil)) rfl ⟨⟨trivial, rfl⟩, rfl⟩ rfl) ?_
       have q0 := Option.some.inj H
       subst q0
       exact W.wkP [0, 1, 2, 3, 8, 6] hnp (Then.p (InBlock.p (InBlock.p (Then.p ⟨rfl, rfl, rfl⟩)))) ⟨rfl, ⟨⟨⟨⟨⟨⟨trivial, .inl rfl⟩, .inl rfl⟩, .inr ⟨rfl, rfl, rfl⟩⟩, .inr ⟨rfl, rfl, rfl⟩⟩, .inr ⟨rfl, rfl, rfl⟩⟩, .inr ⟨rfl, rfl, rfl⟩⟩, by decide, rfl, ⟨⟨⟨⟨trivial, rfl⟩, rfl⟩, rfl⟩, rfl⟩⟩ (LeE.none rfl rfl) rfl rfl
     refine WPL.c (runs_call (s := [0, 1, 7]) (t := [0, 1, 9]) (N := 10) (bor := []) fn35 rfl (s_inflate_stream_room__b k 1 x4354 x4456 x4457 x4430 (Sum.inr ()) h4459) ⟨rfl, ⟨⟨⟨trivial, .inr ⟨rfl, rfl, rfl⟩⟩, .inr ⟨rfl, rfl, rfl⟩⟩, .inr ⟨rfl, rfl, rfl⟩⟩, by decide, rfl, trivial⟩ rfl trivial (.ren rfl rfl (.ren rfl rfl .nil)) rfl ⟨⟨⟨trivial, rfl⟩, rfl⟩, rfl⟩ rfl) rfl ?_
     refine WPL.nilW ?_
     refine W.now ?_
     refine Then.n ?_
     refine WP.region ?_
     refine WPL.q (q_mv (v := .ptr _ _) rfl) rfl ?_
     refine WPL.q (q_mv (v := .ptr _ _) rfl) rfl ?_
     refine WPL.q (q_nilCheck rfl) rfl ?_
     refine WPL.q (q_fieldAddr fi45_1 rfl rfl) rfl ?_
     refine WPL.q (q_load sc29 rfl rfl rfl) rfl ?_
     refine WPL.q (q_mv (v := .lit (.int _ _)) rfl) rfl ?_
     refine WPL.q (q_conv Try.underlying3 Try.underlying5 rfl) rfl ?_
     refine WPL.d (d_buildSlice (ds := ([(IntKind.wrap .u8 x4455)] : List Int)) (R := (Rd.int .u8)) li29 rfl rfl rfl rfl rfl (JoinRows.cons1 Joins.sc rfl JoinRows.nil) rfl rfl) rfl ?_
     obtain ⟨h4461, H⟩ := grd H
     refine WPL.d (d_append ap29 rfl rfl rfl rfl (src_row sl29 rfl rfl) h4461 rfl) rfl ?_
     refine WPL.q (q_nilCheck rfl) rfl ?_
     refine WPL.q (q_fieldAddr fi45_1 rfl rfl) rfl ?_
     refine WPL.s (s_store sz29 rfl rfl rfl rfl rfl) ?_
     refine WPL.nilW ?_
     exact W.wk [0, 1, 2, 3, 11, 8, 6] hnp (InBlock.n (InBlock.n (Then.n ⟨n, (x4456, x4457, (x4430 ++ ([(IntKind.wrap .u8 x4455)] : List Int))), Nat.lt_succ_self n, H, rfl, rfl⟩))) ⟨rfl, ⟨⟨⟨⟨⟨⟨⟨trivial, .inr ⟨rfl, rfl, rfl⟩⟩, .inr ⟨rfl, rfl, rfl⟩⟩, .inr ⟨rfl, rfl, rfl⟩⟩, .inr ⟨rfl, rfl, rfl⟩⟩, .inr ⟨rfl, rfl, rfl⟩⟩, .inr ⟨rfl, rfl, rfl⟩⟩, .inr ⟨rfl, rfl, rfl⟩⟩, by decide, rfl, ⟨⟨⟨⟨trivial, rfl⟩, rfl⟩, rfl⟩, rfl⟩⟩ (LeE.upd rfl rfl (LeE.upd rfl rfl (LeE.upd rfl rfl (LeE.none rfl rfl)))) rfl
   replace H := cnf hb4458 H
   refine WP.seq ?_
   refine WP.region ?_
   refine WPL.q (q_mv (v := .lit (.int _ _)) rfl) rfl ?_
   refine WPL.q (q_eql rfl rfl) rfl ?_
   refine WPL.q (q_as (v := .lit (.bool _)) rfl) rfl ?_
   refine WPL.nilW ?_
   refine W.now ?_
   refine Then.n ?_
   refine WP.cond (t := (decide (x4455 = 256))) rfl (fun hb4462 => ?_) (fun hb4462 => ?_)
   · replace H := cnt hb4462 H
     refine WP.exitW ?_
     have q0 := Option.some.inj H
     subst q0
     exact W.wk [0, 1, 2, 3, 7, 8, 6] hnp (InBlock.x rfl (InBlock.x rfl (Then.x ⟨rfl, rfl, rfl⟩))) ⟨rfl, ⟨⟨⟨⟨⟨⟨⟨trivial, .inr ⟨rfl, rfl, rfl⟩⟩, .inr ⟨rfl, rfl, rfl⟩⟩, .inr ⟨rfl, rfl, rfl⟩⟩, .inr ⟨rfl, rfl, rfl⟩⟩, .inr ⟨rfl, rfl, rfl⟩⟩, .inr ⟨rfl, rfl, rfl⟩⟩, .inr ⟨rfl, rfl, rfl⟩⟩, by decide, rfl, ⟨⟨⟨⟨trivial, rfl⟩, rfl⟩, rfl⟩, rfl⟩⟩ (LeE.none rfl rfl) rfl
   replace H := cnf hb4462 H
   refine WP.region ?_
   refine WPL.q (q_mv (v := .ptr _ _) rfl) rfl ?_
   refine WPL.q (q_mv (v := .lit (.int _ _)) rfl) rfl ?_
   refine WPL.q (q_mv (v := .ptr _ _) rfl) rfl ?_
   obtain ⟨y4469, h4463, H⟩ := bnd H
   rcases y4469 with x4465 | ⟨x4466, x4467, x4468⟩
   · refine WPL.pW (runs_callP (s := [0, 1, 3, 7, 6]) (t := [0, 1, 3]) (N := 9) (bor := []) fn37 rfl (s_inflate_stream_copied__d k x4455 x4354 x4456 x4457 x4358 x4430 x4361 (Sum.inl x4465) h4463) ⟨rfl, ⟨⟨⟨⟨⟨trivial, .inr ⟨rfl, rfl, rfl⟩⟩, .inr ⟨rfl, rfl, rfl⟩⟩, .inr ⟨rfl, rfl, rfl⟩⟩, .inr ⟨rfl, rfl, rfl⟩⟩, .inr ⟨rfl, rfl, rfl⟩⟩, by decide, rfl, trivial⟩ rfl trivial (.ren rfl rfl (.ren rfl rfl (.ren rfl rfl .nil))) rfl ⟨⟨⟨trivial, rfl⟩, rfl⟩, rfl⟩ rfl) ?_
     have q0 := Option.some.inj H
     subst q0
     exact W.wkP [0, 1, 2, 3, 8] hnp (InBlock.p (InBlock.p (Then.p ⟨rfl, rfl, rfl⟩))) ⟨rfl, ⟨⟨⟨⟨⟨trivial, .inl rfl⟩, .inl rfl⟩, .inr ⟨rfl, rfl, rfl⟩⟩, .inl rfl⟩, .inr ⟨rfl, rfl, rfl⟩⟩, by decide, rfl, ⟨⟨⟨⟨trivial, rfl⟩, rfl⟩, rfl⟩, rfl⟩⟩ (LeE.none rfl rfl) rfl rfl
   refine WPL.c (runs_call (s := [0, 1, 3, 7, 6]) (t := [0, 1, 3, 9, 10]) (N := 11) (bor := []) fn37 rfl (s_inflate_stream_copied__d k x4455 x4354 x4456 x4457 x4358 x4430 x4361 (Sum.inr (x4466, x4467, x4468)) h4463) ⟨rfl, ⟨⟨⟨⟨⟨trivial, .inr ⟨rfl, rfl, rfl⟩⟩, .inr ⟨rfl, rfl, rfl⟩⟩, .inr ⟨rfl, rfl, rfl⟩⟩, .inr ⟨rfl, rfl, rfl⟩⟩, .inr ⟨rfl, rfl, rfl⟩⟩, by decide, rfl, trivial⟩ rfl trivial (.ren rfl rfl (.ren rfl rfl (.ren rfl rfl .nil))) rfl ⟨⟨⟨⟨⟨trivial, rfl⟩, rfl⟩, rfl⟩, rfl⟩, rfl⟩ rfl) rfl ?_
   refine WPL.nilW ?_
   exact W.wk [0, 1, 2, 3, 9, 8, 10] hnp (InBlock.n (InBlock.n (Then.n ⟨n, (x4466, x4467, x4468), Nat.lt_succ_self n, H, rfl, rfl⟩))) ⟨rfl, ⟨⟨⟨⟨⟨⟨⟨trivial, .inr ⟨rfl, rfl, rfl⟩⟩, .inr ⟨rfl, rfl, rfl⟩⟩, .inr ⟨rfl, rfl, rfl⟩⟩, .inr ⟨rfl, rfl, rfl⟩⟩, .inr ⟨rfl, rfl, rfl⟩⟩, .inr ⟨rfl, rfl, rfl⟩⟩, .inr ⟨rfl, rfl, rfl⟩⟩, by decide, rfl, ⟨⟨⟨⟨trivial, rfl⟩, rfl⟩, rfl⟩, rfl⟩⟩ (LeE.upd rfl rfl (LeE.upd rfl rfl (LeE.upd rfl rfl (LeE.none rfl rfl)))) rfl
 rcases y4471 with x4448 | _ | x4449 | ⟨x4450, x4451, x4452⟩
 · rintro _ _ _ ⟨rfl, rfl, rfl⟩
   have q0 := Option.some.inj H
   subst q0
   exact W.now (InBlock.p (Scope.p (BodyR.mkP trivial [0, 1, 2, 3] ⟨rfl, rfl⟩ ⟨rfl, ⟨⟨⟨⟨trivial, .inl rfl⟩, .inl rfl⟩, .inl rfl⟩, .inl rfl⟩, by decide, rfl, ⟨⟨⟨⟨trivial, rfl⟩, rfl⟩, rfl⟩, rfl⟩⟩ rfl rfl)))
 · rintro _ _ _ ⟨rfl, rfl, rfl⟩
   have q0 := Option.some.inj H
   subst q0
   exact W.now (InBlock.p (Scope.p (BodyR.mkP trivial [0, 1, 2, 3] ⟨rfl, rfl⟩ ⟨rfl, ⟨⟨⟨⟨trivial, .inl rfl⟩, .inl rfl⟩, .inl rfl⟩, .inl rfl⟩, by decide, rfl, ⟨⟨⟨⟨trivial, rfl⟩, rfl⟩, rfl⟩, rfl⟩⟩ rfl rfl)))
 · rintro _ _ _ ⟨rfl, rfl, rfl⟩
   have q0 := Option.some.inj H
   subst q0
   exact W.now (InBlock.p (Scope.p (BodyR.mkP trivial [0, 1, 2, 3] ⟨rfl, rfl⟩ ⟨rfl, ⟨⟨⟨⟨trivial, .inl rfl⟩, .inl rfl⟩, .inl rfl⟩, .inl rfl⟩, by decide, rfl, ⟨⟨⟨⟨trivial, rfl⟩, rfl⟩, rfl⟩, rfl⟩⟩ rfl rfl)))
 rintro _ _ _ ⟨rfl, rfl, rfl⟩
 have q0 := Option.some.inj H
 subst q0
 exact W.now (InBlock.x0 (Scope.n (BodyR.mkN trivial rfl [0, 1, 2, 3, 4, 5, 6] ⟨rfl, rfl⟩ ⟨rfl, ⟨⟨⟨⟨⟨⟨⟨trivial, .inr ⟨rfl, rfl, rfl⟩⟩, .inr ⟨rfl, rfl, rfl⟩⟩, .inr ⟨rfl, rfl, rfl⟩⟩, .inr ⟨rfl, rfl, rfl⟩⟩, .inr ⟨rfl, rfl, rfl⟩⟩, .inr ⟨rfl, rfl, rfl⟩⟩, .inr ⟨rfl, rfl, rfl⟩⟩, by decide, rfl, ⟨⟨⟨⟨trivial, rfl⟩, rfl⟩, rfl⟩, rfl⟩⟩ rfl rfl)))
end Go.Proofs.Ytpceecokdpdgfaa.W
namespace Go.Proofs.Ytpceecokdpdgfaa.W
open Go Go.Q Go.Proofs
set_option linter.unusedVariables false
set_option linter.unusedSimpArgs false
set_option maxRecDepth 100000 in
set_option maxHeartbeats 4000000 in
theorem s_inflate_stream_dynamic__b (k : Nat) (x4479 : Int) (x4480 : (List Int)) (x4481 : Int) (x4482 : (List Int)) (x4518 : Int) (H : g_inflate_stream_dynamic__b k x4479 x4480 x4481 x4482 = some x4518) : Go.Q.Spec Try.prog 30 2 [.ptr 0 0] (((Mem.nil.push (.cells 45 [.ptr 1 0, .whole 2, .lit (.int .i64 x4479)])).push (.cells 52 [.ro (Rd.slice (Rd.int .u8)) false x4480, .lit (.int .i64 x4481)])).push (.row 5 (Rd.int .u8) x4482)) (fun o M => o = .pan (.ifc 46 (.lit (.int .i64 x4518))) ∧ M = ((Mem.nil.push (.gone)).push (.gone))) := by
 unfold g_inflate_stream_dynamic__b at H
 refine Go.Q.Spec.of_bodyR (az := []) (rs := []) (nt := 89) Try.func30 rfl rfl (by intro t T h; simp at h) rfl rfl fun cx hnp => ?_
 refine WP.seq ?_
 refine WP.region ?_
 refine WPL.q (q_mv (v := .ptr _ _) rfl) rfl ?_
 obtain ⟨y4524, h4518, H⟩ := bnd H
 rcases y4524 with x4520 | ⟨x4521, x4522, x4523⟩
 · refine WPL.pW (runs_callP (s := [0, 1, 2]) (t := [0, 1]) (N := 3) (bor := []) fn26 rfl (s_inflate_stream_take__b k 5 x4479 x4480 x4481 x4482 (Sum.inl x4520) h4518) ⟨rfl, ⟨⟨⟨trivial, .inr ⟨rfl, rfl, rfl⟩⟩, .inr ⟨rfl, rfl, rfl⟩⟩, .inr ⟨rfl, rfl, rfl⟩⟩, by decide, rfl, trivial⟩ rfl trivial (.ren rfl rfl (.ren rfl rfl .nil)) rfl ⟨⟨trivial, rfl⟩, rfl⟩ rfl) ?_
   have q0 := (Option.some.inj H)
   subst q0
   exact W.now (Then.p (BodyR.mkP trivial [0, 1] ⟨rfl, rfl⟩ ⟨rfl, ⟨⟨trivial, .inl rfl⟩, .inl rfl⟩, by decide, rfl, ⟨⟨trivial, rfl⟩, rfl⟩⟩ rfl rfl))
 refine WPL.c (runs_call (s := [0, 1, 2]) (t := [0, 1, 3]) (N := 4) (bor := []) fn26 rfl (s_inflate_stream_take__b k 5 x4479 x4480 x4481 x4482 (Sum.inr (x4521, x4522, x4523)) h4518) ⟨rfl, ⟨⟨⟨trivial, .inr ⟨rfl, rfl, rfl⟩⟩, .inr ⟨rfl, rfl, rfl⟩⟩, .inr ⟨rfl, rfl, rfl⟩⟩, by decide, rfl, trivial⟩ rfl trivial (.ren rfl rfl (.ren rfl rfl .nil)) rfl ⟨⟨⟨trivial, rfl⟩, rfl⟩, rfl⟩ rfl) rfl ?_
 refine WPL.q (q_add rfl rfl) rfl ?_
 refine WPL.d (d_alloc ze3 rfl) rfl ?_
 refine WPL.s (s_store sz3 rfl rfl rfl rfl rfl) ?_
 refine WPL.nilW ?_
 refine W.now ?_
 refine Then.n ?_
 refine WP.seq ?_
 refine WP.region ?_
 refine WPL.q (q_mv (v := .ptr _ _) rfl) rfl ?_
 obtain ⟨y4530, h4524, H⟩ := bnd H
 rcases y4530 with x4526 | ⟨x4527, x4528, x4529⟩
 · refine WPL.pW (runs_callP (s := [0, 1, 3]) (t := [0, 1]) (N := 5) (bor := []) fn26 rfl (s_inflate_stream_take__b k 5 x4479 x4522 x4523 x4482 (Sum.inl x4526) h4524) ⟨rfl, ⟨⟨⟨trivial, .inr ⟨rfl, rfl, rfl⟩⟩, .inr ⟨rfl, rfl, rfl⟩⟩, .inr ⟨rfl, rfl, rfl⟩⟩, by decide, rfl, trivial⟩ rfl trivial (.ren rfl rfl (.ren rfl rfl .nil)) rfl ⟨⟨trivial, rfl⟩, rfl⟩ rfl) ?_
   have q0 := (Option.some.inj H)
   subst q0
   exact W.now (Then.p (BodyR.mkP trivial [0, 1] ⟨rfl, rfl⟩ ⟨rfl, ⟨⟨trivial, .inl rfl⟩, .inl rfl⟩, by decide, rfl, ⟨⟨trivial, rfl⟩, rfl⟩⟩ rfl rfl))
 refine WPL.c (runs_call (s := [0, 1, 3]) (t := [0, 1, 5]) (N := 6) (bor := []) fn26 rfl (s_inflate_stream_take__b k 5 x4479 x4522 x4523 x4482 (Sum.inr (x4527, x4528, x4529)) h4524) ⟨rfl, ⟨⟨⟨trivial, .inr ⟨rfl, rfl, rfl⟩⟩, .inr ⟨rfl, rfl, rfl⟩⟩, .inr ⟨rfl, rfl, rfl⟩⟩, by decide, rfl, trivial⟩ rfl trivial (.ren rfl rfl (.ren rfl rfl .nil)) rfl ⟨⟨⟨trivial, rfl⟩, rfl⟩, rfl⟩ rfl) rfl ?_
 refine WPL.q (q_add rfl rfl) rfl ?_
 refine WPL.d (d_alloc ze3 rfl) rfl ?_
 refine WPL.s (s_store sz3 rfl rfl rfl rfl rfl) ?_
 refine WPL.nilW ?_
 refine W.now ?_
 refine Then.n ?_
 refine WP.seq ?_
 refine WP.region ?_
 refine WPL.q (q_mv (v := .ptr _ _) rfl) rfl ?_
 obtain ⟨y4536, h4530, H⟩ := bnd H
 rcases y4536 with x4532 | ⟨x4533, x4534, x4535⟩
 · refine WPL.pW (runs_callP (s := [0, 1, 5]) (t := [0, 1]) (N := 7) (bor := []) fn26 rfl (s_inflate_stream_take__b k 4 x4479 x4528 x4529 x4482 (Sum.inl x4532) h4530) ⟨rfl, ⟨⟨⟨trivial, .inr ⟨rfl, rfl, rfl⟩⟩, .inr ⟨rfl, rfl, rfl⟩⟩, .inr ⟨rfl, rfl, rfl⟩⟩, by decide, rfl, trivial⟩ rfl trivial (.ren rfl rfl (.ren rfl rfl .nil)) rfl ⟨⟨trivial, rfl⟩, rfl⟩ rfl) ?_
   have q0 := (Option.some.inj H)
   subst q0
   exact W.now (Then.p (BodyR.mkP trivial [0, 1] ⟨rfl, rfl⟩ ⟨rfl, ⟨⟨trivial, .inl rfl⟩, .inl rfl⟩, by decide, rfl, ⟨⟨trivial, rfl⟩, rfl⟩⟩ rfl rfl))
 refine WPL.c (runs_call (s := [0, 1, 5]) (t := [0, 1, 7]) (N := 8) (bor := []) fn26 rfl (s_inflate_stream_take__b k 4 x4479 x4528 x4529 x4482 (Sum.inr (x4533, x4534, x4535)) h4530) ⟨rfl, ⟨⟨⟨trivial, .inr ⟨rfl, rfl, rfl⟩⟩, .inr ⟨rfl, rfl, rfl⟩⟩, .inr ⟨rfl, rfl, rfl⟩⟩, by decide, rfl, trivial⟩ rfl trivial (.ren rfl rfl (.ren rfl rfl .nil)) rfl ⟨⟨⟨trivial, rfl⟩, rfl⟩, rfl⟩ rfl) rfl ?_
 refine WPL.q (q_add rfl rfl) rfl ?_
 refine WPL.q (q_as (v := .lit (.int _ _)) rfl) rfl ?_
 refine WPL.nilW ?_
 refine W.now ?_
 refine Then.n ?_
 refine WP.seq ?_
 obtain ⟨y4552, H4550, H⟩ := bnd H
 refine WP.monoW (Q := fun x E M => match (generalizing := false) y4552 with | (Sum.inl _) => x = .panic (.ifc 46 (.lit (.int .i64 12))) ∧ E = Env.none ∧ M = (((Mem.nil.push (.cells 45 [.ptr 1 0, .whole 2, .lit (.int .i64 x4479)])).push (.cells 52 [.ro (Rd.slice (Rd.int .u8)) false x4534, .lit (.int .i64 x4535)])).push (.row 5 (Rd.int .u8) x4482)) | (Sum.inr _) => x = .normal ∧ E = ((((Env.none.upd 0 (.ptr 0 0)).upd 2 (.ptr 3 0)).upd 3 (.ptr 4 0)).upd 4 (.lit (.int .i64 (IntKind.wrap .i64 (4 + x4533))))) ∧ M = (((((Mem.nil.push (.cells 45 [.ptr 1 0, .whole 2, .lit (.int .i64 x4479)])).push (.cells 52 [.ro (Rd.slice (Rd.int .u8)) false x4534, .lit (.int .i64 x4535)])).push (.row 5 (Rd.int .u8) x4482)).push (.cells 3 [.lit (.int .i64 (IntKind.wrap .i64 (257 + x4521)))])).push (.cells 3 [.lit (.int .i64 (IntKind.wrap .i64 (1 + x4527)))]))) ?_ ?_
 · clear H
   have H := H4550
   clear H4550
   refine WP.region ?_
   refine WPL.q (q_load sc3 rfl rfl rfl) rfl ?_
   obtain ⟨x4544, h4544, H⟩ := bnd H
   refine WPL.q (q_nm (q_leq rfl rfl) (nm_bool h4544)) rfl ?_
   refine WPL.q (q_mv (v := .lit (.bool _)) rfl) rfl ?_
   refine WPL.split (t := 24) (b := x4544) rfl (fun hb4544 => ?_) (fun hb4544 => ?_)
   · replace H := cnt hb4544 H
     refine WPL.qg rfl rfl (lb hb4544) (q_load sc3 rfl rfl rfl) rfl ?_
     obtain ⟨x4546, h4546, H⟩ := bnd H
     refine WPL.qg rfl rfl (lb hb4544) (q_nm (q_leq rfl rfl) (nm_bool h4546)) rfl ?_
     refine WPL.q (q_pickT (v := .lit (.bool _)) (lb hb4544) rfl) rfl ?_
     obtain ⟨y4548, h4546, H⟩ := bnd H
     rcases y4548 with _ | _
     · refine WPL.pW (runs_callP (s := []) (t := []) (N := 8) (bor := []) fn34 rfl (s_inflate_ask k x4546 12 (Sum.inl ()) h4546) ⟨rfl, trivial, by decide, rfl, trivial⟩ rfl trivial (.ren rfl rfl (.ren rfl rfl .nil)) rfl trivial rfl) ?_
       have q0 := Option.some.inj H
       subst q0
       exact W.wkP [0, 1, 7] hnp ⟨rfl, rfl, rfl⟩ ⟨rfl, ⟨⟨⟨trivial, .inr ⟨rfl, rfl, rfl⟩⟩, .inr ⟨rfl, rfl, rfl⟩⟩, .inr ⟨rfl, rfl, rfl⟩⟩, by decide, rfl, ⟨⟨trivial, rfl⟩, rfl⟩⟩ (LeE.none rfl rfl) rfl rfl
     refine WPL.c (runs_call (s := []) (t := []) (N := 8) (bor := []) fn34 rfl (s_inflate_ask k x4546 12 (Sum.inr ()) h4546) ⟨rfl, trivial, by decide, rfl, trivial⟩ rfl trivial (.ren rfl rfl (.ren rfl rfl .nil)) rfl trivial rfl) rfl ?_
     refine WPL.nilW ?_
     have q0 := Option.some.inj H
     subst q0
     exact W.wk [0, 1, 7, 4, 6] hnp ⟨rfl, rfl, rfl⟩ ⟨rfl, ⟨⟨⟨⟨⟨trivial, .inr ⟨rfl, rfl, rfl⟩⟩, .inr ⟨rfl, rfl, rfl⟩⟩, .inr ⟨rfl, rfl, rfl⟩⟩, .inr ⟨rfl, rfl, rfl⟩⟩, .inr ⟨rfl, rfl, rfl⟩⟩, by decide, rfl, ⟨⟨trivial, rfl⟩, rfl⟩⟩ (LeE.upd rfl rfl (LeE.upd rfl rfl (LeE.upd rfl rfl (LeE.upd rfl rfl (LeE.none rfl rfl))))) rfl
   replace H := cnf hb4544 H
   refine WPL.skipg (b' := false) rfl rfl (lb hb4544) rfl rfl (.inl trivial) ?_
   refine WPL.skipg (b' := false) rfl rfl (lb hb4544) rfl rfl (.inl trivial) ?_
   refine WPL.q (q_pickF (v := .lit (.bool _)) (lb hb4544) rfl) rfl ?_
   obtain ⟨y4550, h4548, H⟩ := bnd H
   rcases y4550 with _ | _
   · refine WPL.pW (runs_callP (s := []) (t := []) (N := 8) (bor := []) fn34 rfl (s_inflate_ask k false 12 (Sum.inl ()) h4548) ⟨rfl, trivial, by decide, rfl, trivial⟩ rfl trivial (.ren rfl rfl (.ren rfl rfl .nil)) rfl trivial rfl) ?_
     have q0 := Option.some.inj H
     subst q0
     exact W.wkP [0, 1, 7] hnp ⟨rfl, rfl, rfl⟩ ⟨rfl, ⟨⟨⟨trivial, .inr ⟨rfl, rfl, rfl⟩⟩, .inr ⟨rfl, rfl, rfl⟩⟩, .inr ⟨rfl, rfl, rfl⟩⟩, by decide, rfl, ⟨⟨trivial, rfl⟩, rfl⟩⟩ (LeE.none rfl rfl) rfl rfl
   refine WPL.c (runs_call (s := []) (t := []) (N := 8) (bor := []) fn34 rfl (s_inflate_ask k false 12 (Sum.inr ()) h4548) ⟨rfl, trivial, by decide, rfl, trivial⟩ rfl trivial (.ren rfl rfl (.ren rfl rfl .nil)) rfl trivial rfl) rfl ?_
   refine WPL.nilW ?_
   have q0 := Option.some.inj H
   subst q0
   exact W.wk [0, 1, 7, 4, 6] hnp ⟨rfl, rfl, rfl⟩ ⟨rfl, ⟨⟨⟨⟨⟨trivial, .inr ⟨rfl, rfl, rfl⟩⟩, .inr ⟨rfl, rfl, rfl⟩⟩, .inr ⟨rfl, rfl, rfl⟩⟩, .inr ⟨rfl, rfl, rfl⟩⟩, .inr ⟨rfl, rfl, rfl⟩⟩, by decide, rfl, ⟨⟨trivial, rfl⟩, rfl⟩⟩ (LeE.upd rfl rfl (LeE.upd rfl rfl (LeE.upd rfl rfl (LeE.upd rfl rfl (LeE.none rfl rfl))))) rfl
 rcases y4552 with _ | _
 · rintro _ _ _ ⟨rfl, rfl, rfl⟩
   have q0 := (Option.some.inj H)
   subst q0
   exact W.now (Then.p (BodyR.mkP trivial [0, 1] ⟨rfl, rfl⟩ ⟨rfl, ⟨⟨trivial, .inl rfl⟩, .inl rfl⟩, by decide, rfl, ⟨⟨trivial, rfl⟩, rfl⟩⟩ rfl rfl))
 rintro _ _ _ ⟨rfl, rfl, rfl⟩
 refine W.now ?_
 refine Then.n ?_
 refine WP.seq ?_
 refine WP.region ?_
 exact nf rfl H
set_option maxRecDepth 100000 in
set_option maxHeartbeats 4000000 in
theorem s_inflate_stream_all (k : Nat) (x707 : Int) (x708 : (List Int)) (x709 : Int) (r : (Int ⊕ ((List Int) × Int × (List Int)))) (H : g_inflate_stream_all k x707 x708 x709 = some r) : Go.Q.Spec Try.prog 23 2 [.ptr 0 0] ((Mem.nil.push (.cells 45 [.ptr 1 0, .lit (.slice none 0 0), .lit (.int .i64 x707)])).push (.cells 52 [.ro (Rd.slice (Rd.int .u8)) false x708, .lit (.int .i64 x709)])) (fun o M => match (generalizing := false) r with | (Sum.inl x4635) => o = .pan (.ifc 46 (.lit (.int .i64 x4635))) ∧ M = ((Mem.nil.push (.gone)).push (.gone)) | (Sum.inr (x4636, x4637, x4638)) => o = .ret (.tup []) ∧ M = (((Mem.nil.push (.cells 45 [.ptr 1 0, .whole 2, .lit (.int .i64 x707)])).push (.cells 52 [.ro (Rd.slice (Rd.int .u8)) false x4636, .lit (.int .i64 x4637)])).push (.row 5 (Rd.int .u8) x4638))) := by
 unfold g_inflate_stream_all at H
 refine Go.Q.Spec.of_bodyR (az := []) (rs := []) (nt := 26) Try.func23 rfl rfl (by intro t T h; simp at h) rfl rfl fun cx hnp => ?_
 refine WP.seq ?_
 refine WP.region ?_
 refine WPL.q (q_as (v := .lit (.int _ _)) rfl) rfl ?_
 refine WPL.nilW ?_
 refine W.now ?_
 refine Then.n ?_
 refine WP.block ?_
 refine WP.cv (Cv.virC 5 (Rd.int .u8) (N := 2) rfl rfl (i := 0) (off := 1) rfl rfl) ?_
 refine WP.cv (Cv.weak (E' := ((Env.none.upd 0 (.ptr 0 0)).upd 2 (.lit (.int .i64 0)))) (M' := (((Mem.nil.push (.cells 45 [.ptr 1 0, .whole 2, .lit (.int .i64 x707)])).push (.cells 52 [.ro (Rd.slice (Rd.int .u8)) false x708, .lit (.int .i64 x709)])).push (.row 5 (Rd.int .u8) ([] : List Int)))) [0, 1, 2] hnp ⟨rfl, ⟨⟨⟨trivial, .inr ⟨rfl, rfl, rfl⟩⟩, .inr ⟨rfl, rfl, rfl⟩⟩, .inr ⟨rfl, rfl, rfl⟩⟩, by decide, rfl, ⟨⟨trivial, rfl⟩, rfl⟩⟩ (LeE.upd rfl rfl (LeE.upd rfl rfl (LeE.none rfl rfl)))) ?_
 obtain ⟨y4904, H4902, H⟩ := bnd H
 refine WP.monoW (Q := fun x E M => match (generalizing := false) y4904 with | (Sum.inl x4831) => x = .panic (.ifc 46 (.lit (.int .i64 x4831))) ∧ E = Env.none ∧ M = ((Mem.nil.push (.gone)).push (.gone)) | (Sum.inr (Sum.inl (x4832, x4833, x4834, x4835))) => x = .panic (.ifc 46 (.lit (.int .i64 x4832))) ∧ E = Env.none ∧ M = (((Mem.nil.push (.cells 45 [.ptr 1 0, .whole 2, .lit (.int .i64 x707)])).push (.cells 52 [.ro (Rd.slice (Rd.int .u8)) false x4833, .lit (.int .i64 x4834)])).push (.row 5 (Rd.int .u8) x4835)) | (Sum.inr (Sum.inr (x4836, x4837, x4838))) => x = .exit 0 ∧ E = Env.none ∧ M = (((Mem.nil.push (.cells 45 [.ptr 1 0, .whole 2, .lit (.int .i64 x707)])).push (.cells 52 [.ro (Rd.slice (Rd.int .u8)) false x4836, .lit (.int .i64 x4837)])).push (.row 5 (Rd.int .u8) x4838))) ?_ ?_
 · refine WP.loop (β := Int × (List Int) × Int × (List Int)) (fun n b => g_inflate_stream_all_l0 k x707 n b.1 b.2.1 b.2.2.1 b.2.2.2 = some y4904) (fun b => ((Env.none.upd 0 (.ptr 0 0)).upd 2 (.lit (.int .i64 b.1)))) (fun b => (((Mem.nil.push (.cells 45 [.ptr 1 0, .whole 2, .lit (.int .i64 x707)])).push (.cells 52 [.ro (Rd.slice (Rd.int .u8)) false b.2.1, .lit (.int .i64 b.2.2.1)])).push (.row 5 (Rd.int .u8) b.2.2.2))) k (0, x708, x709, ([] : List Int)) H4902 rfl rfl ?_
   rintro n ⟨x4763, x4764, x4765, x4766⟩ H
   obtain _ | n := n
   · exact nf rfl H
   rw [g_inflate_stream_all_l0.eq_2] at H
   show WP _ _ _ _ ((Env.none.upd 0 (.ptr 0 0)).upd 2 (.lit (.int .i64 x4763))) (((Mem.nil.push (.cells 45 [.ptr 1 0, .whole 2, .lit (.int .i64 x707)])).push (.cells 52 [.ro (Rd.slice (Rd.int .u8)) false x4764, .lit (.int .i64 x4765)])).push (.row 5 (Rd.int .u8) x4766)) _
   refine WP.seq ?_
   refine WP.seq ?_
   refine WP.region ?_
   refine WPL.q (q_mv (v := .lit (.int _ _)) rfl) rfl ?_
   refine WPL.q (q_eql rfl rfl) rfl ?_
   refine WPL.nilW ?_
   refine W.now ?_
   refine Then.n ?_
   refine WP.cond (t := (decide (x4763 = 0))) rfl (fun hb4839 => ?_) (fun hb4839 => ?_)
   · replace H := cnt hb4839 H
     refine WP.skipW ?_
     refine W.now ?_
     refine Then.n ?_
     refine WP.block ?_
     refine WP.seq ?_
     refine WP.region ?_
     refine WPL.q (q_mv (v := .ptr _ _) rfl) rfl ?_
     obtain ⟨y4846, h4840, H⟩ := bnd H
     rcases y4846 with x4842 | ⟨x4843, x4844, x4845⟩
     · refine WPL.pW (runs_callP (s := [0, 1, 2]) (t := [0, 1]) (N := 3) (bor := []) fn26 rfl (s_inflate_stream_take__b k 1 x707 x4764 x4765 x4766 (Sum.inl x4842) h4840) ⟨rfl, ⟨⟨⟨trivial, .inr ⟨rfl, rfl, rfl⟩⟩, .inr ⟨rfl, rfl, rfl⟩⟩, .inr ⟨rfl, rfl, rfl⟩⟩, by decide, rfl, trivial⟩ rfl trivial (.ren rfl rfl (.ren rfl rfl .nil)) rfl ⟨⟨trivial, rfl⟩, rfl⟩ rfl) ?_
       have q0 := Option.some.inj H
       subst q0
       exact W.wkP [0, 1] hnp (Then.p (InBlock.p (Then.p ⟨rfl, rfl, rfl⟩))) ⟨rfl, ⟨⟨trivial, .inl rfl⟩, .inl rfl⟩, by decide, rfl, ⟨⟨trivial, rfl⟩, rfl⟩⟩ (LeE.none rfl rfl) rfl rfl
     refine WPL.c (runs_call (s := [0, 1, 2]) (t := [0, 1, 3]) (N := 4) (bor := []) fn26 rfl (s_inflate_stream_take__b k 1 x707 x4764 x4765 x4766 (Sum.inr (x4843, x4844, x4845)) h4840) ⟨rfl, ⟨⟨⟨trivial, .inr ⟨rfl, rfl, rfl⟩⟩, .inr ⟨rfl, rfl, rfl⟩⟩, .inr ⟨rfl, rfl, rfl⟩⟩, by decide, rfl, trivial⟩ rfl trivial (.ren rfl rfl (.ren rfl rfl .nil)) rfl ⟨⟨⟨trivial, rfl⟩, rfl⟩, rfl⟩ rfl) rfl ?_
     refine WPL.q (q_as (v := .lit (.int _ _)) rfl) rfl ?_
     refine WPL.nilW ?_
     refine W.now ?_
     refine Then.n ?_
     refine WP.seq ?_
     refine WP.region ?_
     refine WPL.q (q_mv (v := .ptr _ _) rfl) rfl ?_
     obtain ⟨y4852, h4846, H⟩ := bnd H
     rcases y4852 with x4848 | ⟨x4849, x4850, x4851⟩
     · refine WPL.pW (runs_callP (s := [0, 1, 3]) (t := [0, 1]) (N := 4) (bor := []) fn26 rfl (s_inflate_stream_take__b k 2 x707 x4844 x4845 x4766 (Sum.inl x4848) h4846) ⟨rfl, ⟨⟨⟨trivial, .inr ⟨rfl, rfl, rfl⟩⟩, .inr ⟨rfl, rfl, rfl⟩⟩, .inr ⟨rfl, rfl, rfl⟩⟩, by decide, rfl, trivial⟩ rfl trivial (.ren rfl rfl (.ren rfl rfl .nil)) rfl ⟨⟨trivial, rfl⟩, rfl⟩ rfl) ?_
       have q0 := Option.some.inj H
       subst q0
       exact W.wkP [0, 1] hnp (Then.p (InBlock.p (Then.p ⟨rfl, rfl, rfl⟩))) ⟨rfl, ⟨⟨trivial, .inl rfl⟩, .inl rfl⟩, by decide, rfl, ⟨⟨trivial, rfl⟩, rfl⟩⟩ (LeE.none rfl rfl) rfl rfl
     refine WPL.c (runs_call (s := [0, 1, 3]) (t := [0, 1, 4]) (N := 5) (bor := []) fn26 rfl (s_inflate_stream_take__b k 2 x707 x4844 x4845 x4766 (Sum.inr (x4849, x4850, x4851)) h4846) ⟨rfl, ⟨⟨⟨trivial, .inr ⟨rfl, rfl, rfl⟩⟩, .inr ⟨rfl, rfl, rfl⟩⟩, .inr ⟨rfl, rfl, rfl⟩⟩, by decide, rfl, trivial⟩ rfl trivial (.ren rfl rfl (.ren rfl rfl .nil)) rfl ⟨⟨⟨trivial, rfl⟩, rfl⟩, rfl⟩ rfl) rfl ?_
     refine WPL.nilW ?_
     refine W.now ?_
     refine Then.n ?_
     refine WP.block ?_
     refine WP.seq ?_
     refine WP.region ?_
     refine WPL.q (q_eql rfl rfl) rfl ?_
     refine WPL.q (q_as (v := .lit (.bool _)) rfl) rfl ?_
     refine WPL.nilW ?_
     refine W.now ?_
     refine Then.n ?_
     refine WP.cond (t := (decide (x4849 = 0))) rfl (fun hb4852 => ?_) (fun hb4852 => ?_)
     · replace H := cnt hb4852 H
       refine WP.region ?_
       refine WPL.q (q_mv (v := .ptr _ _) rfl) rfl ?_
       obtain ⟨y4859, h4853, H⟩ := bnd H
       rcases y4859 with x4855 | ⟨x4856, x4857, x4858⟩
       · refine WPL.pW (runs_callP (s := [0, 1, 4]) (t := [0, 1]) (N := 5) (bor := []) fn27 rfl (s_inflate_stream_stored__b k x707 x4850 x4851 x4766 (Sum.inl x4855) h4853) ⟨rfl, ⟨⟨⟨trivial, .inr ⟨rfl, rfl, rfl⟩⟩, .inr ⟨rfl, rfl, rfl⟩⟩, .inr ⟨rfl, rfl, rfl⟩⟩, by decide, rfl, trivial⟩ rfl trivial (.ren rfl rfl .nil) rfl ⟨⟨trivial, rfl⟩, rfl⟩ rfl) ?_
         have q0 := Option.some.inj H
         subst q0
         exact W.wkP [0, 1] hnp (InBlock.p (InBlock.p (Then.p ⟨rfl, rfl, rfl⟩))) ⟨rfl, ⟨⟨trivial, .inl rfl⟩, .inl rfl⟩, by decide, rfl, ⟨⟨trivial, rfl⟩, rfl⟩⟩ (LeE.none rfl rfl) rfl rfl
       refine WPL.c (runs_call (s := [0, 1, 4]) (t := [0, 1, 5]) (N := 6) (bor := []) fn27 rfl (s_inflate_stream_stored__b k x707 x4850 x4851 x4766 (Sum.inr (x4856, x4857, x4858)) h4853) ⟨rfl, ⟨⟨⟨trivial, .inr ⟨rfl, rfl, rfl⟩⟩, .inr ⟨rfl, rfl, rfl⟩⟩, .inr ⟨rfl, rfl, rfl⟩⟩, by decide, rfl, trivial⟩ rfl trivial (.ren rfl rfl .nil) rfl ⟨⟨⟨trivial, rfl⟩, rfl⟩, rfl⟩ rfl) rfl ?_
       refine WPL.nilW ?_
       exact W.wk [0, 1, 5] hnp (InBlock.n (InBlock.n (Then.n ⟨n, (x4843, x4856, x4857, x4858), Nat.lt_succ_self n, H, rfl, rfl⟩))) ⟨rfl, ⟨⟨⟨trivial, .inr ⟨rfl, rfl, rfl⟩⟩, .inr ⟨rfl, rfl, rfl⟩⟩, .inr ⟨rfl, rfl, rfl⟩⟩, by decide, rfl, ⟨⟨trivial, rfl⟩, rfl⟩⟩ (LeE.upd rfl rfl (LeE.upd rfl rfl (LeE.none rfl rfl))) rfl
     replace H := cnf hb4852 H
     refine WP.seq ?_
     refine WP.region ?_
     refine WPL.q (q_eql rfl rfl) rfl ?_
     refine WPL.q (q_as (v := .lit (.bool _)) rfl) rfl ?_
     refine WPL.nilW ?_
     refine W.now ?_
     refine Then.n ?_
     refine WP.cond (t := (decide (x4849 = 1))) rfl (fun hb4859 => ?_) (fun hb4859 => ?_)
     · replace H := cnt hb4859 H
       refine WP.region ?_
       refine WPL.q (q_mv (v := .ptr _ _) rfl) rfl ?_
       obtain ⟨x4862, h4860, H⟩ := bnd H
       refine WPL.c (runs_call (s := []) (t := []) (N := 5) (bor := []) fn11 rfl (s_inflate_FixedLit k x4862 h4860) ⟨rfl, trivial, by decide, rfl, trivial⟩ rfl trivial .nil rfl trivial rfl) rfl ?_
       obtain ⟨y4867, h4862, H⟩ := bnd H
       rcases y4867 with x4864 | _ | ⟨x4865, x4866⟩
       · refine WPL.pW (runs_callP (s := []) (t := []) (N := 5) (bor := []) fn29 rfl (s_inflate_code k x4862 (Sum.inl x4864) h4862) ⟨rfl, trivial, by decide, rfl, trivial⟩ rfl trivial (.ren rfl rfl .nil) rfl trivial rfl) ?_
         have q0 := Option.some.inj H
         subst q0
         exact W.wkP [0, 1, 4] hnp (InBlock.p (InBlock.p (Then.p ⟨rfl, rfl, rfl⟩))) ⟨rfl, ⟨⟨⟨trivial, .inr ⟨rfl, rfl, rfl⟩⟩, .inr ⟨rfl, rfl, rfl⟩⟩, .inr ⟨rfl, rfl, rfl⟩⟩, by decide, rfl, ⟨⟨trivial, rfl⟩, rfl⟩⟩ (LeE.none rfl rfl) rfl rfl
       · refine WPL.c (runs_call (s := []) (t := []) (N := 5) (bor := []) fn29 rfl (s_inflate_code k x4862 (Sum.inr (Sum.inl ())) h4862) ⟨rfl, trivial, by decide, rfl, trivial⟩ rfl trivial (.ren rfl rfl .nil) rfl trivial rfl) rfl ?_
         obtain ⟨x4869, h4867, H⟩ := bnd H
         refine WPL.c (runs_call (s := []) (t := []) (N := 5) (bor := []) fn13 rfl (s_inflate_FixedDist k x4869 h4867) ⟨rfl, trivial, by decide, rfl, trivial⟩ rfl trivial .nil rfl trivial rfl) rfl ?_
         obtain ⟨y4874, h4869, H⟩ := bnd H
         rcases y4874 with x4871 | _ | ⟨x4872, x4873⟩
         · refine WPL.pW (runs_callP (s := []) (t := []) (N := 5) (bor := []) fn29 rfl (s_inflate_code k x4869 (Sum.inl x4871) h4869) ⟨rfl, trivial, by decide, rfl, trivial⟩ rfl trivial (.ren rfl rfl .nil) rfl trivial rfl) ?_
           have q0 := Option.some.inj H
           subst q0
           exact W.wkP [0, 1, 4] hnp (InBlock.p (InBlock.p (Then.p ⟨rfl, rfl, rfl⟩))) ⟨rfl, ⟨⟨⟨trivial, .inr ⟨rfl, rfl, rfl⟩⟩, .inr ⟨rfl, rfl, rfl⟩⟩, .inr ⟨rfl, rfl, rfl⟩⟩, by decide, rfl, ⟨⟨trivial, rfl⟩, rfl⟩⟩ (LeE.none rfl rfl) rfl rfl
         · refine WPL.c (runs_call (s := []) (t := []) (N := 5) (bor := []) fn29 rfl (s_inflate_code k x4869 (Sum.inr (Sum.inl ())) h4869) ⟨rfl, trivial, by decide, rfl, trivial⟩ rfl trivial (.ren rfl rfl .nil) rfl trivial rfl) rfl ?_
           obtain ⟨x4876, h4874, H⟩ := bnd H
           refine WPL.pW (runs_callP (s := [0, 1, 4]) (t := [0, 1]) (N := 5) (bor := []) fn28 rfl (s_inflate_stream_coded__e k x707 x4850 x4851 x4766 x4876 h4874) ⟨rfl, ⟨⟨⟨trivial, .inr ⟨rfl, rfl, rfl⟩⟩, .inr ⟨rfl, rfl, rfl⟩⟩, .inr ⟨rfl, rfl, rfl⟩⟩, by decide, rfl, trivial⟩ rfl trivial (.ren rfl rfl (.ren rfl rfl (.ren rfl rfl .nil))) rfl ⟨⟨trivial, rfl⟩, rfl⟩ rfl) ?_
           have q0 := Option.some.inj H
           subst q0
           exact W.wkP [0, 1] hnp (InBlock.p (InBlock.p (Then.p ⟨rfl, rfl, rfl⟩))) ⟨rfl, ⟨⟨trivial, .inl rfl⟩, .inl rfl⟩, by decide, rfl, ⟨⟨trivial, rfl⟩, rfl⟩⟩ (LeE.none rfl rfl) rfl rfl
         refine WPL.c (runs_call (s := []) (t := [5, 6]) (N := 7) (bor := []) fn29 rfl (s_inflate_code k x4869 (Sum.inr (Sum.inr (x4872, x4873))) h4869) ⟨rfl, trivial, by decide, rfl, trivial⟩ rfl trivial (.ren rfl rfl .nil) rfl ⟨⟨trivial, rfl⟩, rfl⟩ rfl) rfl ?_
         obtain ⟨x4878, h4876, H⟩ := bnd H
         refine WPL.pW (runs_callP (s := [0, 1, 5, 4, 6]) (t := [0, 1, 5]) (N := 7) (bor := []) fn28 rfl (s_inflate_stream_coded__f k x707 x4850 x4851 x4872 x4766 x4873 x4878 h4876) ⟨rfl, ⟨⟨⟨⟨⟨trivial, .inr ⟨rfl, rfl, rfl⟩⟩, .inr ⟨rfl, rfl, rfl⟩⟩, .inr ⟨rfl, rfl, rfl⟩⟩, .inr ⟨rfl, rfl, rfl⟩⟩, .inr ⟨rfl, rfl, rfl⟩⟩, by decide, rfl, trivial⟩ rfl trivial (.ren rfl rfl (.ren rfl rfl (.ren rfl rfl .nil))) rfl ⟨⟨⟨trivial, rfl⟩, rfl⟩, rfl⟩ rfl) ?_
         have q0 := Option.some.inj H
         subst q0
         exact W.wkP [0, 1] hnp (InBlock.p (InBlock.p (Then.p ⟨rfl, rfl, rfl⟩))) ⟨rfl, ⟨⟨trivial, .inl rfl⟩, .inl rfl⟩, by decide, rfl, ⟨⟨trivial, rfl⟩, rfl⟩⟩ (LeE.none rfl rfl) rfl rfl
       refine WPL.c (runs_call (s := []) (t := [5, 6]) (N := 7) (bor := []) fn29 rfl (s_inflate_code k x4862 (Sum.inr (Sum.inr (x4865, x4866))) h4862) ⟨rfl, trivial, by decide, rfl, trivial⟩ rfl trivial (.ren rfl rfl .nil) rfl ⟨⟨trivial, rfl⟩, rfl⟩ rfl) rfl ?_
       obtain ⟨x4880, h4878, H⟩ := bnd H
       refine WPL.c (runs_call (s := []) (t := []) (N := 7) (bor := []) fn13 rfl (s_inflate_FixedDist k x4880 h4878) ⟨rfl, trivial, by decide, rfl, trivial⟩ rfl trivial .nil rfl trivial rfl) rfl ?_
       obtain ⟨y4885, h4880, H⟩ := bnd H
       rcases y4885 with x4882 | _ | ⟨x4883, x4884⟩
       · refine WPL.pW (runs_callP (s := []) (t := []) (N := 7) (bor := []) fn29 rfl (s_inflate_code k x4880 (Sum.inl x4882) h4880) ⟨rfl, trivial, by decide, rfl, trivial⟩ rfl trivial (.ren rfl rfl .nil) rfl trivial rfl) ?_
         have q0 := Option.some.inj H
         subst q0
         exact W.wkP [0, 1, 4] hnp (InBlock.p (InBlock.p (Then.p ⟨rfl, rfl, rfl⟩))) ⟨rfl, ⟨⟨⟨trivial, .inr ⟨rfl, rfl, rfl⟩⟩, .inr ⟨rfl, rfl, rfl⟩⟩, .inr ⟨rfl, rfl, rfl⟩⟩, by decide, rfl, ⟨⟨trivial, rfl⟩, rfl⟩⟩ (LeE.none rfl rfl) rfl rfl
       · refine WPL.c (runs_call (s := []) (t := []) (N := 7) (bor := []) fn29 rfl (s_inflate_code k x4880 (Sum.inr (Sum.inl ())) h4880) ⟨rfl, trivial, by decide, rfl, trivial⟩ rfl trivial (.ren rfl rfl .nil) rfl trivial rfl) rfl ?_
         obtain ⟨y4891, h4885, H⟩ := bnd H
         rcases y4891 with x4887 | ⟨x4888, x4889, x4890⟩
         · refine WPL.pW (runs_callP (s := [0, 1, 5, 4, 6]) (t := [0, 1, 5]) (N := 7) (bor := []) fn28 rfl (s_inflate_stream_coded__g k x707 x4850 x4851 x4865 x4766 x4866 (Sum.inl x4887) h4885) ⟨rfl, ⟨⟨⟨⟨⟨trivial, .inr ⟨rfl, rfl, rfl⟩⟩, .inr ⟨rfl, rfl, rfl⟩⟩, .inr ⟨rfl, rfl, rfl⟩⟩, .inr ⟨rfl, rfl, rfl⟩⟩, .inr ⟨rfl, rfl, rfl⟩⟩, by decide, rfl, trivial⟩ rfl trivial (.ren rfl rfl (.ren rfl rfl (.ren rfl rfl .nil))) rfl ⟨⟨⟨trivial, rfl⟩, rfl⟩, rfl⟩ rfl) ?_
           have q0 := Option.some.inj H
           subst q0
           exact W.wkP [0, 1] hnp (InBlock.p (InBlock.p (Then.p ⟨rfl, rfl, rfl⟩))) ⟨rfl, ⟨⟨trivial, .inl rfl⟩, .inl rfl⟩, by decide, rfl, ⟨⟨trivial, rfl⟩, rfl⟩⟩ (LeE.none rfl rfl) rfl rfl
         refine WPL.c (runs_call (s := [0, 1, 5, 4, 6]) (t := [0, 1, 5, 7, 8]) (N := 9) (bor := []) fn28 rfl (s_inflate_stream_coded__g k x707 x4850 x4851 x4865 x4766 x4866 (Sum.inr (x4888, x4889, x4890)) h4885) ⟨rfl, ⟨⟨⟨⟨⟨trivial, .inr ⟨rfl, rfl, rfl⟩⟩, .inr ⟨rfl, rfl, rfl⟩⟩, .inr ⟨rfl, rfl, rfl⟩⟩, .inr ⟨rfl, rfl, rfl⟩⟩, .inr ⟨rfl, rfl, rfl⟩⟩, by decide, rfl, trivial⟩ rfl trivial (.ren rfl rfl (.ren rfl rfl (.ren rfl rfl .nil))) rfl ⟨⟨⟨⟨⟨trivial, rfl⟩, rfl⟩, rfl⟩, rfl⟩, rfl⟩ rfl) rfl ?_
         refine WPL.nilW ?_
         exact W.wk [0, 1, 7] hnp (InBlock.n (InBlock.n (Then.n ⟨n, (x4843, x4888, x4889, x4890), Nat.lt_succ_self n, H, rfl, rfl⟩))) ⟨rfl, ⟨⟨⟨trivial, .inr ⟨rfl, rfl, rfl⟩⟩, .inr ⟨rfl, rfl, rfl⟩⟩, .inr ⟨rfl, rfl, rfl⟩⟩, by decide, rfl, ⟨⟨trivial, rfl⟩, rfl⟩⟩ (LeE.upd rfl rfl (LeE.upd rfl rfl (LeE.none rfl rfl))) rfl
       refine WPL.c (runs_call (s := []) (t := [7, 8]) (N := 9) (bor := []) fn29 rfl (s_inflate_code k x4880 (Sum.inr (Sum.inr (x4883, x4884))) h4880) ⟨rfl, trivial, by decide, rfl, trivial⟩ rfl trivial (.ren rfl rfl .nil) rfl ⟨⟨trivial, rfl⟩, rfl⟩ rfl) rfl ?_
       obtain ⟨y4897, h4891, H⟩ := bnd H
       rcases y4897 with x4893 | ⟨x4894, x4895, x4896⟩
       · refine WPL.pW (runs_callP (s := [0, 1, 5, 7, 4, 6, 8]) (t := [0, 1, 5, 7]) (N := 9) (bor := []) fn28 rfl (s_inflate_stream_coded__h k x707 x4850 x4851 x4865 x4883 x4766 x4866 x4884 (Sum.inl x4893) h4891) ⟨rfl, ⟨⟨⟨⟨⟨⟨⟨trivial, .inr ⟨rfl, rfl, rfl⟩⟩, .inr ⟨rfl, rfl, rfl⟩⟩, .inr ⟨rfl, rfl, rfl⟩⟩, .inr ⟨rfl, rfl, rfl⟩⟩, .inr ⟨rfl, rfl, rfl⟩⟩, .inr ⟨rfl, rfl, rfl⟩⟩, .inr ⟨rfl, rfl, rfl⟩⟩, by decide, rfl, trivial⟩ rfl trivial (.ren rfl rfl (.ren rfl rfl (.ren rfl rfl .nil))) rfl ⟨⟨⟨⟨trivial, rfl⟩, rfl⟩, rfl⟩, rfl⟩ rfl) ?_
         have q0 := Option.some.inj H
         subst q0
         exact W.wkP [0, 1] hnp (InBlock.p (InBlock.p (Then.p ⟨rfl, rfl, rfl⟩))) ⟨rfl, ⟨⟨trivial, .inl rfl⟩, .inl rfl⟩, by decide, rfl, ⟨⟨trivial, rfl⟩, rfl⟩⟩ (LeE.none rfl rfl) rfl rfl
       refine WPL.c (runs_call (s := [0, 1, 5, 7, 4, 6, 8]) (t := [0, 1, 5, 7, 9, 10, 11]) (N := 12) (bor := []) fn28 rfl (s_inflate_stream_coded__h k x707 x4850 x4851 x4865 x4883 x4766 x4866 x4884 (Sum.inr (x4894, x4895, x4896)) h4891) ⟨rfl, ⟨⟨⟨⟨⟨⟨⟨trivial, .inr ⟨rfl, rfl, rfl⟩⟩, .inr ⟨rfl, rfl, rfl⟩⟩, .inr ⟨rfl, rfl, rfl⟩⟩, .inr ⟨rfl, rfl, rfl⟩⟩, .inr ⟨rfl, rfl, rfl⟩⟩, .inr ⟨rfl, rfl, rfl⟩⟩, .inr ⟨rfl, rfl, rfl⟩⟩, by decide, rfl, trivial⟩ rfl trivial (.ren rfl rfl (.ren rfl rfl (.ren rfl rfl .nil))) rfl ⟨⟨⟨⟨⟨⟨⟨trivial, rfl⟩, rfl⟩, rfl⟩, rfl⟩, rfl⟩, rfl⟩, rfl⟩ rfl) rfl ?_
       refine WPL.nilW ?_
       exact W.wk [0, 1, 9] hnp (InBlock.n (InBlock.n (Then.n ⟨n, (x4843, x4894, x4895, x4896), Nat.lt_succ_self n, H, rfl, rfl⟩))) ⟨rfl, ⟨⟨⟨trivial, .inr ⟨rfl, rfl, rfl⟩⟩, .inr ⟨rfl, rfl, rfl⟩⟩, .inr ⟨rfl, rfl, rfl⟩⟩, by decide, rfl, ⟨⟨trivial, rfl⟩, rfl⟩⟩ (LeE.upd rfl rfl (LeE.upd rfl rfl (LeE.none rfl rfl))) rfl
     replace H := cnf hb4859 H
     refine WP.seq ?_
     refine WP.region ?_
     refine WPL.q (q_eql rfl rfl) rfl ?_
     refine WPL.q (q_as (v := .lit (.bool _)) rfl) rfl ?_
     refine WPL.nilW ?_
     refine W.now ?_
     refine Then.n ?_
     refine WP.cond (t := (decide (x4849 = 2))) rfl (fun hb4897 => ?_) (fun hb4897 => ?_)
     · replace H := cnt hb4897 H
       refine WP.region ?_
       refine WPL.q (q_mv (v := .ptr _ _) rfl) rfl ?_
       obtain ⟨x4900, h4898, H⟩ := bnd H
       refine WPL.pW (runs_callP (s := [0, 1, 4]) (t := [0, 1]) (N := 5) (bor := []) fn30 rfl (s_inflate_stream_dynamic__b k x707 x4850 x4851 x4766 x4900 h4898) ⟨rfl, ⟨⟨⟨trivial, .inr ⟨rfl, rfl, rfl⟩⟩, .inr ⟨rfl, rfl, rfl⟩⟩, .inr ⟨rfl, rfl, rfl⟩⟩, by decide, rfl, trivial⟩ rfl trivial (.ren rfl rfl .nil) rfl ⟨⟨trivial, rfl⟩, rfl⟩ rfl) ?_
       have q0 := Option.some.inj H
       subst q0
       exact W.wkP [0, 1] hnp (InBlock.p (InBlock.p (Then.p ⟨rfl, rfl, rfl⟩))) ⟨rfl, ⟨⟨trivial, .inl rfl⟩, .inl rfl⟩, by decide, rfl, ⟨⟨trivial, rfl⟩, rfl⟩⟩ (LeE.none rfl rfl) rfl rfl
     replace H := cnf hb4897 H
     refine WP.region ?_
     obtain ⟨y4902, h4900, H⟩ := bnd H
     rcases y4902 with _ | _
     · refine WPL.pW (runs_callP (s := []) (t := []) (N := 5) (bor := []) fn31 rfl (s_inflate_must k 12 (Sum.inl ()) h4900) ⟨rfl, trivial, by decide, rfl, trivial⟩ rfl trivial (.ren rfl rfl .nil) rfl trivial rfl) ?_
       have q0 := Option.some.inj H
       subst q0
       exact W.wkP [0, 1, 4] hnp (InBlock.p (InBlock.p (Then.p ⟨rfl, rfl, rfl⟩))) ⟨rfl, ⟨⟨⟨trivial, .inr ⟨rfl, rfl, rfl⟩⟩, .inr ⟨rfl, rfl, rfl⟩⟩, .inr ⟨rfl, rfl, rfl⟩⟩, by decide, rfl, ⟨⟨trivial, rfl⟩, rfl⟩⟩ (LeE.none rfl rfl) rfl rfl
     refine WPL.c (runs_call (s := []) (t := []) (N := 5) (bor := []) fn31 rfl (s_inflate_must k 12 (Sum.inr ()) h4900) ⟨rfl, trivial, by decide, rfl, trivial⟩ rfl trivial (.ren rfl rfl .nil) rfl trivial rfl) rfl ?_
     refine WPL.nilW ?_
     exact W.wk [0, 1, 4] hnp (InBlock.n (InBlock.n (Then.n ⟨n, (x4843, x4850, x4851, x4766), Nat.lt_succ_self n, H, rfl, rfl⟩))) ⟨rfl, ⟨⟨⟨trivial, .inr ⟨rfl, rfl, rfl⟩⟩, .inr ⟨rfl, rfl, rfl⟩⟩, .inr ⟨rfl, rfl, rfl⟩⟩, by decide, rfl, ⟨⟨trivial, rfl⟩, rfl⟩⟩ (LeE.upd rfl rfl (LeE.upd rfl rfl (LeE.none rfl rfl))) rfl
   replace H := cnf hb4839 H
   refine WP.exitW ?_
   have q0 := Option.some.inj H
   subst q0
   exact W.wk [0, 1, 2] hnp (Then.x (Then.x ⟨rfl, rfl, rfl⟩)) ⟨rfl, ⟨⟨⟨trivial, .inr ⟨rfl, rfl, rfl⟩⟩, .inr ⟨rfl, rfl, rfl⟩⟩, .inr ⟨rfl, rfl, rfl⟩⟩, by decide, rfl, ⟨⟨trivial, rfl⟩, rfl⟩⟩ (LeE.none rfl rfl) rfl
 rcases y4904 with x4831 | ⟨x4832, x4833, x4834, x4835⟩ | ⟨x4836, x4837, x4838⟩
 · rintro _ _ _ ⟨rfl, rfl, rfl⟩
   have q0 := Option.some.inj H
   subst q0
   exact W.now (InBlock.p (BodyR.mkP trivial [0, 1] ⟨rfl, rfl⟩ ⟨rfl, ⟨⟨trivial, .inl rfl⟩, .inl rfl⟩, by decide, rfl, ⟨⟨trivial, rfl⟩, rfl⟩⟩ rfl rfl))
 · rintro _ _ _ ⟨rfl, rfl, rfl⟩
   have q0 := Option.some.inj H
   subst q0
   exact W.now (InBlock.p (BodyR.mkP trivial [0, 1] ⟨rfl, rfl⟩ ⟨rfl, ⟨⟨trivial, .inl rfl⟩, .inl rfl⟩, by decide, rfl, ⟨⟨trivial, rfl⟩, rfl⟩⟩ rfl rfl))
 rintro _ _ _ ⟨rfl, rfl, rfl⟩
 have q0 := Option.some.inj H
 subst q0
 exact W.now (InBlock.x0 (BodyR.mkN trivial rfl [0, 1, 2] ⟨rfl, rfl⟩ ⟨rfl, ⟨⟨⟨trivial, .inr ⟨rfl, rfl, rfl⟩⟩, .inr ⟨rfl, rfl, rfl⟩⟩, .inr ⟨rfl, rfl, rfl⟩⟩, by decide, rfl, ⟨⟨trivial, rfl⟩, rfl⟩⟩ rfl rfl))
set_option maxRecDepth 100000 in
set_option maxHeartbeats 4000000 in
theorem s_inflate_Inflate (k : Nat) (x690 : (List Int)) (x691 : Int) (x4919 : (List Int)) (x4920 : Int) (x4921 : Int) (H : g_inflate_Inflate k x690 x691 = some (x4919, x4920, x4921)) : Go.Q.Spec Try.prog 16 0 [.ro (Rd.slice (Rd.int .u8)) true x690, .lit (.int .i64 x691)] Mem.nil (fun o M => o = .ret (.tup [.ro (Rd.slice (Rd.int .u8)) false x4919, .lit (.int .i64 x4920), .lit (.int .i64 x4921)]) ∧ M = (((Mem.nil.push (.cells 29 [.ro (Rd.slice (Rd.int .u8)) false x4919])).push (.cells 3 [.lit (.int .i64 x4920)])).push (.cells 30 [.lit (.int .i64 x4921)]))) := by
 unfold g_inflate_Inflate at H
 refine Go.Q.Spec.of_bodyD (az := []) (rs := [.cell 4 29, .cell 5 3, .cell 6 30]) (nt := 31) (pin := [4, 5, 6]) (nc := 3) (ntc := 18) Try.func16 rfl rfl (by intro t T h; simp at h; rcases h with ⟨rfl, rfl⟩ | ⟨rfl, rfl⟩ | ⟨rfl, rfl⟩ <;> first | exact sc29 | exact sc3 | exact sc30) rfl rfl Try.func22 rfl rfl rfl (by kernel_rfl) rfl fun cx hnp => ?_
 refine WP.seq ?_
 refine WP.region ?_
 refine WPL.d (d_alloc ze29 rfl) rfl ?_
 refine WPL.d (d_alloc ze3 rfl) rfl ?_
 refine WPL.d (d_alloc ze30 rfl) rfl ?_
 refine WPL.nilW ?_
 refine W.now ?_
 refine Then.n ?_
 refine WP.seq ?_
 refine WP.seq ?_
 refine WP.region ?_
 refine WPL.q (q_mv (v := .lit (.int _ _)) rfl) rfl ?_
 refine WPL.q (q_lss rfl rfl) rfl ?_
 refine WPL.nilW ?_
 refine W.now ?_
 refine Then.n ?_
 refine WP.cond (t := (decide (x691 < 0))) rfl (fun hb4922 => ?_) (fun hb4922 => ?_)
 · replace H := cnt hb4922 H
   refine WP.seq ?_
   refine WP.region ?_
   refine WPL.s (s_store sz29 rfl rfl rfl rfl rfl) ?_
   refine WPL.s (s_store sz3 rfl rfl rfl rfl rfl) ?_
   refine WPL.s (s_store sz30 rfl rfl rfl rfl rfl) ?_
   refine WPL.nilW ?_
   refine W.now ?_
   refine Then.n ?_
   refine WP.retW ?_
   refine W.cv (Cv.nilRoC (Rd.int .u8) false (i := 0) (off := 0) rfl rfl rfl) rfl ?_
   have q0 := (Prod.mk.inj (Option.some.inj H)).1
   have q1 := (Prod.mk.inj (Prod.mk.inj (Option.some.inj H)).2).1
   have q2 := (Prod.mk.inj (Prod.mk.inj (Option.some.inj H)).2).2
   subst q0
   subst q1
   subst q2
   exact W.now (Then.r (.inl ⟨rfl, BodyR.mkR trivial rfl [0, 1, 2] ⟨rfl, rfl⟩ ⟨rfl, ⟨⟨⟨trivial, .inr ⟨rfl, rfl, rfl⟩⟩, .inr ⟨rfl, rfl, rfl⟩⟩, .inr ⟨rfl, rfl, rfl⟩⟩, by decide, rfl, trivial⟩ rfl rfl⟩))
 replace H := cnf hb4922 H
 refine WP.skipW ?_
 refine W.now ?_
 refine Then.n ?_
 refine WP.seq ?_
 refine WP.region ?_
 refine WPL.q (q_mv (v := .ro _ _ _) rfl) rfl ?_
 obtain ⟨x4925, h4923, H⟩ := bnd H
 refine WPL.c (runs_call (s := []) (t := [3]) (N := 4) (bor := []) fn21 rfl (s_bits_NewReader k x690 x4925 h4923) ⟨rfl, trivial, by decide, rfl, trivial⟩ rfl trivial (.ren rfl rfl .nil) rfl ⟨trivial, rfl⟩ rfl) rfl ?_
 refine WPL.q (q_mv (v := .lit (.int _ _)) rfl) rfl ?_
 refine WPL.q (q_build bu45 rfl) rfl ?_
 refine WPL.d (d_box rfl rfl) rfl ?_
 refine WPL.q (q_as (v := .ptr _ _) rfl) rfl ?_
 refine WPL.nilW ?_
 refine W.now ?_
 refine Then.n ?_
 refine WP.seq ?_
 refine WP.region ?_
 refine WPL.q (q_makeFunc) rfl ?_
 refine WPL.dfr rfl rfl rfl fun aD4925 hsaD4925 => ?_
 refine WPL.nilW ?_
 refine W.now ?_
 refine Then.n ?_
 refine WP.seq ?_
 refine WP.region ?_
 refine WPL.q (q_mv (v := .ptr _ _) rfl) rfl ?_
 obtain ⟨y4932, h4926, H⟩ := bnd H
 rcases y4932 with x4928 | ⟨x4929, x4930, x4931⟩
 · refine WPL.pW (runs_callP (s := [4, 3]) (t := [4, 3]) (N := 5) (bor := []) fn23 rfl (s_inflate_stream_all k x691 x4925 0 (Sum.inl x4928) h4926) ⟨rfl, ⟨⟨trivial, .inr ⟨rfl, rfl, rfl⟩⟩, .inr ⟨rfl, rfl, rfl⟩⟩, by decide, rfl, trivial⟩ rfl trivial (.ren rfl rfl .nil) rfl ⟨⟨trivial, rfl⟩, rfl⟩ rfl) ?_
   refine W.now ?_
   refine Then.p ?_
   refine .inr ⟨_, .inl rfl, rfl, _, _, hsaD4925, rfl, rfl, fun aF4932 => ?_⟩
   refine WP.seq ?_
   refine WP.region ?_
   refine WPL.q (q_mv (v := .ifc _ _) rfl) rfl ?_
   refine WPL.q (q_neqIfc Try.underlying20 rfl) rfl ?_
   refine WPL.nilW ?_
   refine W.now ?_
   refine Then.n ?_
   refine WP.condT rfl ?_
   refine WP.seq ?_
   refine WP.region ?_
   refine WPL.q (q_mv (v := .ifc _ _) rfl) rfl ?_
   refine WPL.q (q_assertIs cn46 rfl) rfl ?_
   refine WPL.q (q_mv (v := .tup _) rfl) rfl ?_
   refine WPL.q (q_extract rfl rfl) rfl ?_
   refine WPL.q (q_extract rfl rfl) rfl ?_
   refine WPL.q (q_as (v := .lit (.int _ _)) rfl) rfl ?_
   refine WPL.q (q_as (v := .lit (.bool _)) rfl) rfl ?_
   refine WPL.nilW ?_
   refine W.now ?_
   refine Then.n ?_
   refine WP.seq ?_
   refine WP.seq ?_
   refine WP.region ?_
   refine WPL.q (q_mv (v := .lit (.bool _)) rfl) rfl ?_
   refine WPL.q (q_not rfl) rfl ?_
   refine WPL.nilW ?_
   refine W.now ?_
   refine Then.n ?_
   refine WP.condFB (t := (!true)) rfl rfl ?_
   refine WP.skipW ?_
   refine W.now ?_
   refine Then.n ?_
   refine WP.region ?_
   refine WPL.q (q_mv (v := .lit (.int _ _)) rfl) rfl ?_
   refine WPL.s (s_store sz29 rfl rfl rfl rfl rfl) ?_
   refine WPL.s (s_store sz3 rfl rfl rfl rfl rfl) ?_
   refine WPL.s (s_store sz30 rfl rfl rfl rfl rfl) ?_
   refine WPL.nilW ?_
   refine W.cv (Cv.nilRoC (Rd.int .u8) false (i := 0) (off := 0) rfl rfl rfl) rfl ?_
   refine W.now ?_
   have q0 := (Prod.mk.inj (Option.some.inj H)).1
   have q1 := (Prod.mk.inj (Prod.mk.inj (Option.some.inj H)).2).1
   have q2 := (Prod.mk.inj (Prod.mk.inj (Option.some.inj H)).2).2
   subst q0
   subst q1
   subst q2
   exact ⟨.inl rfl, rfl, _, rfl, BodyR.mkR trivial rfl [0, 1, 2] ⟨rfl, rfl⟩ ⟨rfl, ⟨⟨⟨trivial, .inr ⟨rfl, rfl, rfl⟩⟩, .inr ⟨rfl, rfl, rfl⟩⟩, .inr ⟨rfl, rfl, rfl⟩⟩, by decide, rfl, trivial⟩ rfl rfl⟩
 refine WPL.c (runs_call (s := [4, 3]) (t := [4, 3, 5]) (N := 6) (bor := []) fn23 rfl (s_inflate_stream_all k x691 x4925 0 (Sum.inr (x4929, x4930, x4931)) h4926) ⟨rfl, ⟨⟨trivial, .inr ⟨rfl, rfl, rfl⟩⟩, .inr ⟨rfl, rfl, rfl⟩⟩, by decide, rfl, trivial⟩ rfl trivial (.ren rfl rfl .nil) rfl ⟨⟨⟨trivial, rfl⟩, rfl⟩, rfl⟩ rfl) rfl ?_
 refine WPL.nilW ?_
 refine W.now ?_
 refine Then.n ?_
 refine WP.seq ?_
 refine WP.regionD' 16 [4] [] mixed rfl ?_
 refine WPD.takeT 0 rfl (by kernel_rfl) (q_mv (v := .ptr _ _) rfl) rfl ?_
 refine WPD.takeT 1 rfl (by kernel_rfl) (q_nilCheck rfl) rfl ?_
 refine WPD.takeT 2 rfl (by kernel_rfl) (q_fieldAddr fi45_1 rfl rfl) rfl ?_
 refine WPD.takeT 4 rfl (by kernel_rfl) (q_mv (v := .ro _ _ _) rfl) rfl ?_
 refine WPD.takeT 5 rfl (by kernel_rfl) (q_len_ro sl29 rfl) rfl ?_
 refine WPD.takeT 6 rfl (by kernel_rfl) (q_mv (v := .ptr _ _) rfl) rfl ?_
 refine WPD.takeT 7 rfl (by kernel_rfl) (q_nilCheck rfl) rfl ?_
 refine WPD.takeT 8 rfl (by kernel_rfl) (q_fieldAddr fi45_0 rfl rfl) rfl ?_
 refine WPD.take 3 rfl (by kernel_rfl) (q_load sc29 rfl rfl rfl) rfl rfl ?_
 refine WPD.take 9 rfl (by kernel_rfl) (q_load sc42 rfl rfl rfl) rfl rfl ?_
 obtain ⟨x4938, h4936, H⟩ := bnd H
 refine WPD.eff 10 [4] [] rfl (by kernel_rfl) (runs_call (s := [3]) (t := [3]) (N := 6) (bor := []) fn24 rfl (s_bits_Reader_Left k x4929 x4930 x4938 h4936) ⟨rfl, ⟨trivial, .inr ⟨rfl, rfl, rfl⟩⟩, by decide, rfl, trivial⟩ rfl trivial (.ren rfl rfl .nil) rfl ⟨trivial, rfl⟩ rfl) rfl rfl ?_
 refine WPD.takeT 11 rfl (by kernel_rfl) (q_quo rfl rfl rfl) rfl ?_
 obtain ⟨x4939, h4939, H⟩ := bnd H
 refine WPD.takeT 12 rfl (by kernel_rfl) (q_nm (q_sub rfl rfl) (nm_int h4939)) rfl ?_
 refine WPD.effS 13 [4] [] rfl (by kernel_rfl) (s_store sz29 rfl rfl rfl rfl rfl) rfl ?_
 refine WPD.effS 14 [4] [] rfl (by kernel_rfl) (s_store sz3 rfl rfl rfl rfl rfl) rfl ?_
 refine WPD.effS 15 [4] [] rfl (by kernel_rfl) (s_store sz30 rfl rfl rfl rfl rfl) rfl ?_
 refine WPD.doneW (by kernel_rfl) ?_
 refine W.now ?_
 refine Then.n ?_
 refine WP.retW ?_
 refine W.now ?_
 refine .inr ⟨_, .inr ⟨.inr rfl, rfl⟩, rfl, _, _, hsaD4925, rfl, rfl, fun aF4939 => ?_⟩
 refine WP.seq ?_
 refine WP.region ?_
 refine WPL.q (q_mv (v := .lit _) rfl) rfl ?_
 refine WPL.q (q_neqNilIfc Try.underlying20 rfl) rfl ?_
 refine WPL.nilW ?_
 refine W.now ?_
 refine Then.n ?_
 refine WP.condF rfl ?_
 refine WP.skipW ?_
 refine W.cv (Cv.frzRow (i := 5) rfl rfl hnp rfl rfl) rfl ?_
 refine W.now ?_
 have q0 := (Prod.mk.inj (Option.some.inj H)).1
 have q1 := (Prod.mk.inj (Prod.mk.inj (Option.some.inj H)).2).1
 have q2 := (Prod.mk.inj (Prod.mk.inj (Option.some.inj H)).2).2
 subst q0
 subst q1
 subst q2
 exact ⟨.inl rfl, rfl, _, rfl, BodyR.mkR trivial rfl [0, 1, 2] ⟨rfl, rfl⟩ ⟨rfl, ⟨⟨⟨trivial, .inr ⟨rfl, rfl, rfl⟩⟩, .inr ⟨rfl, rfl, rfl⟩⟩, .inr ⟨rfl, rfl, rfl⟩⟩, by decide, rfl, trivial⟩ rfl rfl⟩
set_option maxRecDepth 100000 in
set_option maxHeartbeats 4000000 in
theorem s_bits_NewReader__b (k : Nat) (x4958 : (List Int)) (x4962 : (List Int)) (H : g_bits_NewReader__b k x4958 = some x4962) : Go.Q.Spec Try.prog 21 0 [.ro (Rd.slice (Rd.int .u8)) false x4958] Mem.nil (fun o M => o = .ret (.ptr 0 0) ∧ M = (Mem.nil.push (.cells 52 [.ro (Rd.slice (Rd.int .u8)) false x4962, .lit (.int .i64 0)]))) := by
 unfold g_bits_NewReader__b at H
 refine Go.Q.Spec.of_bodyR (az := []) (rs := [.tmp 2]) (nt := 7) Try.func21 rfl rfl (by intro t T h; simp at h) rfl rfl fun cx hnp => ?_
 refine WP.seq ?_
 refine WP.region ?_
 refine WPL.q (q_as (v := .lit _) rfl) rfl ?_
 refine WPL.nilW ?_
 refine W.now ?_
 refine Then.n ?_
 refine WP.seq ?_
 refine WP.region ?_
 refine WPL.q (q_mv (v := .ro _ _ _) rfl) rfl ?_
 obtain ⟨x4964, h4962, H⟩ := bnd H
 refine WPL.c (runs_call (s := []) (t := []) (N := 0) (bor := []) fn25 rfl (s_slices_Clone_byte_byte__b k x4958 x4964 h4962) ⟨rfl, trivial, by decide, rfl, trivial⟩ rfl trivial (.ren rfl rfl .nil) rfl trivial rfl) rfl ?_
 refine WPL.q (q_build bu52 rfl) rfl ?_
 refine WPL.d (d_box rfl rfl) rfl ?_
 refine WPL.q (q_as (v := .ptr _ _) rfl) rfl ?_
 refine WPL.nilW ?_
 refine W.now ?_
 refine Then.n ?_
 refine WP.retW ?_
 have q0 := (Option.some.inj H)
 subst q0
 exact W.now (BodyR.mkR trivial rfl [0] ⟨rfl, rfl⟩ ⟨rfl, ⟨trivial, .inr ⟨rfl, rfl, rfl⟩⟩, by decide, rfl, trivial⟩ rfl rfl)
set_option maxRecDepth 100000 in
set_option maxHeartbeats 4000000 in
theorem s_inflate_Inflate__b (k : Nat) (x4953 : (List Int)) (x4954 : Int) (x4982 : (List Int)) (x4983 : Int) (x4984 : Int) (H : g_inflate_Inflate__b k x4953 x4954 = some (x4982, x4983, x4984)) : Go.Q.Spec Try.prog 16 0 [.ro (Rd.slice (Rd.int .u8)) false x4953, .lit (.int .i64 x4954)] Mem.nil (fun o M => o = .ret (.tup [.ro (Rd.slice (Rd.int .u8)) false x4982, .lit (.int .i64 x4983), .lit (.int .i64 x4984)]) ∧ M = (((Mem.nil.push (.cells 29 [.ro (Rd.slice (Rd.int .u8)) false x4982])).push (.cells 3 [.lit (.int .i64 x4983)])).push (.cells 30 [.lit (.int .i64 x4984)]))) := by
 unfold g_inflate_Inflate__b at H
 refine Go.Q.Spec.of_bodyD (az := []) (rs := [.cell 4 29, .cell 5 3, .cell 6 30]) (nt := 31) (pin := [4, 5, 6]) (nc := 3) (ntc := 18) Try.func16 rfl rfl (by intro t T h; simp at h; rcases h with ⟨rfl, rfl⟩ | ⟨rfl, rfl⟩ | ⟨rfl, rfl⟩ <;> first | exact sc29 | exact sc3 | exact sc30) rfl rfl Try.func22 rfl rfl rfl (by kernel_rfl) rfl fun cx hnp => ?_
 refine WP.seq ?_
 refine WP.region ?_
 refine WPL.d (d_alloc ze29 rfl) rfl ?_
 refine WPL.d (d_alloc ze3 rfl) rfl ?_
 refine WPL.d (d_alloc ze30 rfl) rfl ?_
 refine WPL.nilW ?_
 refine W.now ?_
 refine Then.n ?_
 refine WP.seq ?_
 refine WP.seq ?_
 refine WP.region ?_
 refine WPL.q (q_mv (v := .lit (.int _ _)) rfl) rfl ?_
 refine WPL.q (q_lss rfl rfl) rfl ?_
 refine WPL.nilW ?_
 refine W.now ?_
 refine Then.n ?_
 refine WP.cond (t := (decide (x4954 < 0))) rfl (fun hb4985 => ?_) (fun hb4985 => ?_)
 · replace H := cnt hb4985 H
   refine WP.seq ?_
   refine WP.region ?_
   refine WPL.s (s_store sz29 rfl rfl rfl rfl rfl) ?_
   refine WPL.s (s_store sz3 rfl rfl rfl rfl rfl) ?_
   refine WPL.s (s_store sz30 rfl rfl rfl rfl rfl) ?_
   refine WPL.nilW ?_
   refine W.now ?_
   refine Then.n ?_
   refine WP.retW ?_
   refine W.cv (Cv.nilRoC (Rd.int .u8) false (i := 0) (off := 0) rfl rfl rfl) rfl ?_
   have q0 := (Prod.mk.inj (Option.some.inj H)).1
   have q1 := (Prod.mk.inj (Prod.mk.inj (Option.some.inj H)).2).1
   have q2 := (Prod.mk.inj (Prod.mk.inj (Option.some.inj H)).2).2
   subst q0
   subst q1
   subst q2
   exact W.now (Then.r (.inl ⟨rfl, BodyR.mkR trivial rfl [0, 1, 2] ⟨rfl, rfl⟩ ⟨rfl, ⟨⟨⟨trivial, .inr ⟨rfl, rfl, rfl⟩⟩, .inr ⟨rfl, rfl, rfl⟩⟩, .inr ⟨rfl, rfl, rfl⟩⟩, by decide, rfl, trivial⟩ rfl rfl⟩))
 replace H := cnf hb4985 H
 refine WP.skipW ?_
 refine W.now ?_
 refine Then.n ?_
 refine WP.seq ?_
 refine WP.region ?_
 refine WPL.q (q_mv (v := .ro _ _ _) rfl) rfl ?_
 obtain ⟨x4988, h4986, H⟩ := bnd H
 refine WPL.c (runs_call (s := []) (t := [3]) (N := 4) (bor := []) fn21 rfl (s_bits_NewReader__b k x4953 x4988 h4986) ⟨rfl, trivial, by decide, rfl, trivial⟩ rfl trivial (.ren rfl rfl .nil) rfl ⟨trivial, rfl⟩ rfl) rfl ?_
 refine WPL.q (q_mv (v := .lit (.int _ _)) rfl) rfl ?_
 refine WPL.q (q_build bu45 rfl) rfl ?_
 refine WPL.d (d_box rfl rfl) rfl ?_
 refine WPL.q (q_as (v := .ptr _ _) rfl) rfl ?_
 refine WPL.nilW ?_
 refine W.now ?_
 refine Then.n ?_
 refine WP.seq ?_
 refine WP.region ?_
 refine WPL.q (q_makeFunc) rfl ?_
 refine WPL.dfr rfl rfl rfl fun aD4988 hsaD4988 => ?_
 refine WPL.nilW ?_
 refine W.now ?_
 refine Then.n ?_
 refine WP.seq ?_
 refine WP.region ?_
 refine WPL.q (q_mv (v := .ptr _ _) rfl) rfl ?_
 obtain ⟨y4995, h4989, H⟩ := bnd H
 rcases y4995 with x4991 | ⟨x4992, x4993, x4994⟩
 · refine WPL.pW (runs_callP (s := [4, 3]) (t := [4, 3]) (N := 5) (bor := []) fn23 rfl (s_inflate_stream_all k x4954 x4988 0 (Sum.inl x4991) h4989) ⟨rfl, ⟨⟨trivial, .inr ⟨rfl, rfl, rfl⟩⟩, .inr ⟨rfl, rfl, rfl⟩⟩, by decide, rfl, trivial⟩ rfl trivial (.ren rfl rfl .nil) rfl ⟨⟨trivial, rfl⟩, rfl⟩ rfl) ?_
   refine W.now ?_
   refine Then.p ?_
   refine .inr ⟨_, .inl rfl, rfl, _, _, hsaD4988, rfl, rfl, fun aF4995 => ?_⟩
   refine WP.seq ?_
   refine WP.region ?_
   refine WPL.q (q_mv (v := .ifc _ _) rfl) rfl ?_
   refine WPL.q (q_neqIfc Try.underlying20 rfl) rfl ?_
   refine WPL.nilW ?_
   refine W.now ?_
   refine Then.n ?_
   refine WP.condT rfl ?_
   refine WP.seq ?_
   refine WP.region ?_
   refine WPL.q (q_mv (v := .ifc _ _) rfl) rfl ?_
   refine WPL.q (q_assertIs cn46 rfl) rfl ?_
   refine WPL.q (q_mv (v := .tup _) rfl) rfl ?_
   refine WPL.q (q_extract rfl rfl) rfl ?_
   refine WPL.q (q_extract rfl rfl) rfl ?_
   refine WPL.q (q_as (v := .lit (.int _ _)) rfl) rfl ?_
   refine WPL.q (q_as (v := .lit (.bool _)) rfl) rfl ?_
   refine WPL.nilW ?_
   refine W.now ?_
   refine Then.n ?_
   refine WP.seq ?_
   refine WP.seq ?_
   refine WP.region ?_
   refine WPL.q (q_mv (v := .lit (.bool _)) rfl) rfl ?_
   refine WPL.q (q_not rfl) rfl ?_
   refine WPL.nilW ?_
   refine W.now ?_
   refine Then.n ?_
   refine WP.condFB (t := (!true)) rfl rfl ?_
   refine WP.skipW ?_
   refine W.now ?_
   refine Then.n ?_
   refine WP.region ?_
   refine WPL.q (q_mv (v := .lit (.int _ _)) rfl) rfl ?_
   refine WPL.s (s_store sz29 rfl rfl rfl rfl rfl) ?_
   refine WPL.s (s_store sz3 rfl rfl rfl rfl rfl) ?_
   refine WPL.s (s_store sz30 rfl rfl rfl rfl rfl) ?_
   refine WPL.nilW ?_
   refine W.cv (Cv.nilRoC (Rd.int .u8) false (i := 0) (off := 0) rfl rfl rfl) rfl ?_
   refine W.now ?_
   have q0 := (Prod.mk.inj (Option.some.inj H)).1
   have q1 := (Prod.mk.inj (Prod.mk.inj (Option.some.inj H)).2).1
   have q2 := (Prod.mk.inj (Prod.mk.inj (Option.some.inj H)).2).2
   subst q0
   subst q1
   subst q2
   exact ⟨.inl rfl, rfl, _, rfl, BodyR.mkR trivial rfl [0, 1, 2] ⟨rfl, rfl⟩ ⟨rfl, ⟨⟨⟨trivial, .inr ⟨rfl, rfl, rfl⟩⟩, .inr ⟨rfl, rfl, rfl⟩⟩, .inr ⟨rfl, rfl, rfl⟩⟩, by decide, rfl, trivial⟩ rfl rfl⟩
 refine WPL.c (runs_call (s := [4, 3]) (t := [4, 3, 5]) (N := 6) (bor := []) fn23 rfl (s_inflate_stream_all k x4954 x4988 0 (Sum.inr (x4992, x4993, x4994)) h4989) ⟨rfl, ⟨⟨trivial, .inr ⟨rfl, rfl, rfl⟩⟩, .inr ⟨rfl, rfl, rfl⟩⟩, by decide, rfl, trivial⟩ rfl trivial (.ren rfl rfl .nil) rfl ⟨⟨⟨trivial, rfl⟩, rfl⟩, rfl⟩ rfl) rfl ?_
 refine WPL.nilW ?_
 refine W.now ?_
 refine Then.n ?_
 refine WP.seq ?_
 refine WP.regionD' 16 [4] [] mixed rfl ?_
 refine WPD.takeT 0 rfl (by kernel_rfl) (q_mv (v := .ptr _ _) rfl) rfl ?_
 refine WPD.takeT 1 rfl (by kernel_rfl) (q_nilCheck rfl) rfl ?_
 refine WPD.takeT 2 rfl (by kernel_rfl) (q_fieldAddr fi45_1 rfl rfl) rfl ?_
 refine WPD.takeT 4 rfl (by kernel_rfl) (q_mv (v := .ro _ _ _) rfl) rfl ?_
 refine WPD.takeT 5 rfl (by kernel_rfl) (q_len_ro sl29 rfl) rfl ?_
 refine WPD.takeT 6 rfl (by kernel_rfl) (q_mv (v := .ptr _ _) rfl) rfl ?_
 refine WPD.takeT 7 rfl (by kernel_rfl) (q_nilCheck rfl) rfl ?_
 refine WPD.takeT 8 rfl (by kernel_rfl) (q_fieldAddr fi45_0 rfl rfl) rfl ?_
 refine WPD.take 3 rfl (by kernel_rfl) (q_load sc29 rfl rfl rfl) rfl rfl ?_
 refine WPD.take 9 rfl (by kernel_rfl) (q_load sc42 rfl rfl rfl) rfl rfl ?_
 obtain ⟨x5001, h4999, H⟩ := bnd H
 refine WPD.eff 10 [4] [] rfl (by kernel_rfl) (runs_call (s := [3]) (t := [3]) (N := 6) (bor := []) fn24 rfl (s_bits_Reader_Left k x4992 x4993 x5001 h4999) ⟨rfl, ⟨trivial, .inr ⟨rfl, rfl, rfl⟩⟩, by decide, rfl, trivial⟩ rfl trivial (.ren rfl rfl .nil) rfl ⟨trivial, rfl⟩ rfl) rfl rfl ?_
 refine WPD.takeT 11 rfl (by kernel_rfl) (q_quo rfl rfl rfl) rfl ?_
 obtain ⟨x5002, h5002, H⟩ := bnd H
 refine WPD.takeT 12 rfl (by kernel_rfl) (q_nm (q_sub rfl rfl) (nm_int h5002)) rfl ?_
 refine WPD.effS 13 [4] [] rfl (by kernel_rfl) (s_store sz29 rfl rfl rfl rfl rfl) rfl ?_
 refine WPD.effS 14 [4] [] rfl (by kernel_rfl) (s_store sz3 rfl rfl rfl rfl rfl) rfl ?_
 refine WPD.effS 15 [4] [] rfl (by kernel_rfl) (s_store sz30 rfl rfl rfl rfl rfl) rfl ?_
 refine WPD.doneW (by kernel_rfl) ?_
 refine W.now ?_
 refine Then.n ?_
 refine WP.retW ?_
 refine W.now ?_
 refine .inr ⟨_, .inr ⟨.inr rfl, rfl⟩, rfl, _, _, hsaD4988, rfl, rfl, fun aF5002 => ?_⟩
 refine WP.seq ?_
 refine WP.region ?_
 refine WPL.q (q_mv (v := .lit _) rfl) rfl ?_
 refine WPL.q (q_neqNilIfc Try.underlying20 rfl) rfl ?_
 refine WPL.nilW ?_
 refine W.now ?_
 refine Then.n ?_
 refine WP.condF rfl ?_
 refine WP.skipW ?_
 refine W.cv (Cv.frzRow (i := 5) rfl rfl hnp rfl rfl) rfl ?_
 refine W.now ?_
 have q0 := (Prod.mk.inj (Option.some.inj H)).1
 have q1 := (Prod.mk.inj (Prod.mk.inj (Option.some.inj H)).2).1
 have q2 := (Prod.mk.inj (Prod.mk.inj (Option.some.inj H)).2).2
 subst q0
 subst q1
 subst q2
 exact ⟨.inl rfl, rfl, _, rfl, BodyR.mkR trivial rfl [0, 1, 2] ⟨rfl, rfl⟩ ⟨rfl, ⟨⟨⟨trivial, .inr ⟨rfl, rfl, rfl⟩⟩, .inr ⟨rfl, rfl, rfl⟩⟩, .inr ⟨rfl, rfl, rfl⟩⟩, by decide, rfl, trivial⟩ rfl rfl⟩
set_option maxRecDepth 100000 in
set_option maxHeartbeats 4000000 in
theorem s_quirelaw03_alive (k : Nat) (x5028 : Bool) (H : g_quirelaw03_alive k = some x5028) : Go.Q.Spec Try.prog 15 0 [] Mem.nil (fun o M => o = .ret (.lit (.bool x5028)) ∧ M = Mem.nil) := by
 unfold g_quirelaw03_alive at H
 refine Go.Q.Spec.of_bodyR (az := []) (rs := [.tmp 0]) (nt := 68) Try.func15 rfl rfl (by intro t T h; simp at h) rfl rfl fun cx hnp => ?_
 refine WP.seq ?_
 refine WP.region ?_
 refine WPL.q (q_as (v := .lit (.bool _)) rfl) rfl ?_
 refine WPL.nilW ?_
 refine W.now ?_
 refine Then.n ?_
 refine WP.seq ?_
 refine WP.region ?_
 refine WPL.d (d_buildSlice (ds := ([75, 4, 0] : List Int)) (R := (Rd.int .u8)) li29 rfl rfl rfl rfl rfl (JoinRows.cons1 Joins.sc rfl (JoinRows.cons1 Joins.sc rfl (JoinRows.cons1 Joins.sc rfl JoinRows.nil))) rfl rfl) rfl ?_
 obtain ⟨⟨x5030, x5031, x5032⟩, h5028, H⟩ := bnd H
 refine WPL.c (runs_call (s := []) (t := [1, 2, 3]) (N := 4) (bor := [0]) fn16 rfl (s_inflate_Inflate k ([75, 4, 0] : List Int) 9 x5030 x5031 x5032 h5028) ⟨rfl, trivial, by decide, rfl, trivial⟩ rfl ⟨trivial, rfl, rfl, trivial⟩ (.row rfl rfl (.ren rfl rfl .nil)) rfl ⟨⟨⟨trivial, rfl⟩, rfl⟩, rfl⟩ rfl) rfl ?_
 refine WPL.q (q_mv (v := .tup _) rfl) rfl ?_
 refine WPL.q (q_extract rfl rfl) rfl ?_
 refine WPL.q (q_extract rfl rfl) rfl ?_
 refine WPL.q (q_extract rfl rfl) rfl ?_
 refine WPL.q (q_as (v := .ro _ _ _) rfl) rfl ?_
 refine WPL.q (q_as (v := .lit (.int _ _)) rfl) rfl ?_
 refine WPL.q (q_as (v := .lit (.int _ _)) rfl) rfl ?_
 refine WPL.nilW ?_
 refine W.now ?_
 refine Then.n ?_
 refine WP.seq ?_
 refine WP.region ?_
 refine WPL.d (d_buildSlice (ds := ([1, 1, 0, 254, 255, 97] : List Int)) (R := (Rd.int .u8)) li29 rfl rfl rfl rfl rfl (JoinRows.cons1 Joins.sc rfl (JoinRows.cons1 Joins.sc rfl (JoinRows.cons1 Joins.sc rfl (JoinRows.cons1 Joins.sc rfl (JoinRows.cons1 Joins.sc rfl (JoinRows.cons1 Joins.sc rfl JoinRows.nil)))))) rfl rfl) rfl ?_
 obtain ⟨⟨x5034, x5035, x5036⟩, h5032, H⟩ := bnd H
 refine WPL.c (runs_call (s := []) (t := [5, 6, 7]) (N := 8) (bor := [4]) fn16 rfl (s_inflate_Inflate k ([1, 1, 0, 254, 255, 97] : List Int) 9 x5034 x5035 x5036 h5032) ⟨rfl, trivial, by decide, rfl, trivial⟩ rfl ⟨trivial, rfl, rfl, trivial⟩ (.row rfl rfl (.ren rfl rfl .nil)) rfl ⟨⟨⟨trivial, rfl⟩, rfl⟩, rfl⟩ rfl) rfl ?_
 refine WPL.q (q_mv (v := .tup _) rfl) rfl ?_
 refine WPL.q (q_extract rfl rfl) rfl ?_
 refine WPL.q (q_extract rfl rfl) rfl ?_
 refine WPL.q (q_extract rfl rfl) rfl ?_
 refine WPL.q (q_as (v := .ro _ _ _) rfl) rfl ?_
 refine WPL.q (q_as (v := .lit (.int _ _)) rfl) rfl ?_
 refine WPL.q (q_as (v := .lit (.int _ _)) rfl) rfl ?_
 refine WPL.nilW ?_
 refine W.now ?_
 refine Then.n ?_
 refine WP.seq ?_
 refine WP.region ?_
 refine WPL.d (d_buildSlice (ds := ([7] : List Int)) (R := (Rd.int .u8)) li29 rfl rfl rfl rfl rfl (JoinRows.cons1 Joins.sc rfl JoinRows.nil) rfl rfl) rfl ?_
 obtain ⟨⟨x5038, x5039, x5040⟩, h5036, H⟩ := bnd H
 refine WPL.c (runs_call (s := []) (t := [9, 10, 11]) (N := 12) (bor := [8]) fn16 rfl (s_inflate_Inflate k ([7] : List Int) 9 x5038 x5039 x5040 h5036) ⟨rfl, trivial, by decide, rfl, trivial⟩ rfl ⟨trivial, rfl, rfl, trivial⟩ (.row rfl rfl (.ren rfl rfl .nil)) rfl ⟨⟨⟨trivial, rfl⟩, rfl⟩, rfl⟩ rfl) rfl ?_
 refine WPL.q (q_mv (v := .tup _) rfl) rfl ?_
 refine WPL.q (q_extract rfl rfl) rfl ?_
 refine WPL.q (q_extract rfl rfl) rfl ?_
 refine WPL.q (q_extract rfl rfl) rfl ?_
 refine WPL.q (q_as (v := .ro _ _ _) rfl) rfl ?_
 refine WPL.q (q_as (v := .lit (.int _ _)) rfl) rfl ?_
 refine WPL.q (q_as (v := .lit (.int _ _)) rfl) rfl ?_
 refine WPL.nilW ?_
 refine W.now ?_
 refine Then.n ?_
 refine WP.seq ?_
 refine WP.region ?_
 obtain ⟨⟨x5042, x5043, x5044⟩, h5040, H⟩ := bnd H
 refine WPL.c (runs_call (s := []) (t := [12, 13, 14]) (N := 15) (bor := []) fn16 rfl (s_inflate_Inflate__b k ([] : List Int) 9 x5042 x5043 x5044 h5040) ⟨rfl, trivial, by decide, rfl, trivial⟩ rfl trivial (.nilSlice (.ren rfl rfl .nil)) rfl ⟨⟨⟨trivial, rfl⟩, rfl⟩, rfl⟩ rfl) rfl ?_
 refine WPL.q (q_mv (v := .tup _) rfl) rfl ?_
 refine WPL.q (q_extract rfl rfl) rfl ?_
 refine WPL.q (q_extract rfl rfl) rfl ?_
 refine WPL.q (q_extract rfl rfl) rfl ?_
 refine WPL.q (q_as (v := .ro _ _ _) rfl) rfl ?_
 refine WPL.q (q_as (v := .lit (.int _ _)) rfl) rfl ?_
 refine WPL.q (q_as (v := .lit (.int _ _)) rfl) rfl ?_
 refine WPL.nilW ?_
 refine W.now ?_
 refine Then.n ?_
 refine WP.seq ?_
 obtain ⟨x5054, H5063, H⟩ := bnd H
 refine WP.monoW (Q := fun x E M => x = .normal ∧ E = (Env.none.upd 0 (.lit (.bool x5054))) ∧ M = Mem.nil) ?_ ?_
 · clear H
   have H := H5063
   clear H5063
   refine WP.region ?_
   refine WPL.q (q_mv (v := .ro _ _ _) rfl) rfl ?_
   refine WPL.q (q_bytes_str Try.underlying29 Try.underlying5 Try.underlying9 rfl) rfl ?_
   obtain ⟨x5055, h5055, H⟩ := bnd H
   refine WPL.q (q_nm (q_eqls rfl rfl) (nm_bool h5055)) rfl ?_
   refine WPL.q (q_mv (v := .lit (.bool _)) rfl) rfl ?_
   refine WPL.split (t := 39) (b := x5055) rfl (fun hb5055 => ?_) (fun hb5055 => ?_)
   · replace H := cnt hb5055 H
     refine WPL.qg rfl rfl (lb hb5055) (q_mv (v := .lit (.int _ _)) rfl) rfl ?_
     refine WPL.qg rfl rfl (lb hb5055) (q_eql rfl rfl) rfl ?_
     refine WPL.q (q_pickT (v := .lit (.bool _)) (lb hb5055) rfl) rfl ?_
     refine WPL.q (q_mv (v := .lit (.bool _)) rfl) rfl ?_
     refine WPL.split (t := 43) (b := (decide (x5031 = 3))) rfl (fun hb5056 => ?_) (fun hb5056 => ?_)
     · replace H := cnt hb5056 H
       refine WPL.qg rfl rfl (lb hb5056) (q_mv (v := .lit (.int _ _)) rfl) rfl ?_
       refine WPL.qg rfl rfl (lb hb5056) (q_eql rfl rfl) rfl ?_
       refine WPL.q (q_pickT (v := .lit (.bool _)) (lb hb5056) rfl) rfl ?_
       refine WPL.q (q_mv (v := .lit (.bool _)) rfl) rfl ?_
       refine WPL.split (t := 47) (b := (decide (x5032 = 0))) rfl (fun hb5057 => ?_) (fun hb5057 => ?_)
       · replace H := cnt hb5057 H
         refine WPL.qg rfl rfl (lb hb5057) (q_mv (v := .ro _ _ _) rfl) rfl ?_
         refine WPL.qg rfl rfl (lb hb5057) (q_bytes_str Try.underlying29 Try.underlying5 Try.underlying9 rfl) rfl ?_
         obtain ⟨x5059, h5059, H⟩ := bnd H
         refine WPL.qg rfl rfl (lb hb5057) (q_nm (q_eqls rfl rfl) (nm_bool h5059)) rfl ?_
         refine WPL.q (q_pickT (v := .lit (.bool _)) (lb hb5057) rfl) rfl ?_
         refine WPL.q (q_mv (v := .lit (.bool _)) rfl) rfl ?_
         refine WPL.split (t := 52) (b := x5059) rfl (fun hb5059 => ?_) (fun hb5059 => ?_)
         · replace H := cnt hb5059 H
           refine WPL.qg rfl rfl (lb hb5059) (q_mv (v := .lit (.int _ _)) rfl) rfl ?_
           refine WPL.qg rfl rfl (lb hb5059) (q_eql rfl rfl) rfl ?_
           refine WPL.q (q_pickT (v := .lit (.bool _)) (lb hb5059) rfl) rfl ?_
           refine WPL.q (q_mv (v := .lit (.bool _)) rfl) rfl ?_
           refine WPL.split (t := 56) (b := (decide (x5035 = 6))) rfl (fun hb5060 => ?_) (fun hb5060 => ?_)
           · replace H := cnt hb5060 H
             refine WPL.qg rfl rfl (lb hb5060) (q_mv (v := .lit (.int _ _)) rfl) rfl ?_
             refine WPL.qg rfl rfl (lb hb5060) (q_eql rfl rfl) rfl ?_
             refine WPL.q (q_pickT (v := .lit (.bool _)) (lb hb5060) rfl) rfl ?_
             refine WPL.q (q_mv (v := .lit (.bool _)) rfl) rfl ?_
             refine WPL.split (t := 60) (b := (decide (x5036 = 0))) rfl (fun hb5061 => ?_) (fun hb5061 => ?_)
             · replace H := cnt hb5061 H
               refine WPL.qg rfl rfl (lb hb5061) (q_mv (v := .lit (.int _ _)) rfl) rfl ?_
               refine WPL.qg rfl rfl (lb hb5061) (q_eql rfl rfl) rfl ?_
               refine WPL.q (q_pickT (v := .lit (.bool _)) (lb hb5061) rfl) rfl ?_
               refine WPL.q (q_mv (v := .lit (.bool _)) rfl) rfl ?_
               refine WPL.split (t := 64) (b := (decide (x5040 = 12))) rfl (fun hb5062 => ?_) (fun hb5062 => ?_)
               · replace H := cnt hb5062 H
                 refine WPL.qg rfl rfl (lb hb5062) (q_mv (v := .lit (.int _ _)) rfl) rfl ?_
                 refine WPL.qg rfl rfl (lb hb5062) (q_eql rfl rfl) rfl ?_
                 refine WPL.q (q_pickT (v := .lit (.bool _)) (lb hb5062) rfl) rfl ?_
                 refine WPL.q (q_as (v := .lit (.bool _)) rfl) rfl ?_
                 refine WPL.nilW ?_
                 have q0 := (Option.some.inj H)
                 subst q0
                 exact W.wk [] hnp ⟨rfl, rfl, rfl⟩ ⟨rfl, trivial, by decide, rfl, trivial⟩ (LeE.upd rfl rfl (LeE.none rfl rfl)) rfl
               replace H := cnf hb5062 H
               refine WPL.skipg (b' := false) rfl rfl (lb hb5062) rfl rfl (.inl trivial) ?_
               refine WPL.skipg (b' := false) rfl rfl (lb hb5062) rfl rfl (.inl trivial) ?_
               refine WPL.q (q_pickF (v := .lit (.bool _)) (lb hb5062) rfl) rfl ?_
               refine WPL.q (q_as (v := .lit (.bool _)) rfl) rfl ?_
               refine WPL.nilW ?_
               have q0 := (Option.some.inj H)
               subst q0
               exact W.wk [] hnp ⟨rfl, rfl, rfl⟩ ⟨rfl, trivial, by decide, rfl, trivial⟩ (LeE.upd rfl rfl (LeE.none rfl rfl)) rfl
             replace H := cnf hb5061 H
             refine WPL.skipg (b' := false) rfl rfl (lb hb5061) rfl rfl (.inl trivial) ?_
             refine WPL.skipg (b' := false) rfl rfl (lb hb5061) rfl rfl (.inl trivial) ?_
             refine WPL.q (q_pickF (v := .lit (.bool _)) (lb hb5061) rfl) rfl ?_
             refine WPL.q (q_mv (v := .lit (.bool _)) rfl) rfl ?_
             refine WPL.skipg (b' := false) rfl rfl rfl rfl rfl (.inl trivial) ?_
             refine WPL.skipg (b' := false) rfl rfl rfl rfl rfl (.inl trivial) ?_
             refine WPL.q (q_pickF (v := .lit (.bool _)) rfl rfl) rfl ?_
             refine WPL.q (q_as (v := .lit (.bool _)) rfl) rfl ?_
             refine WPL.nilW ?_
             have q0 := (Option.some.inj H)
             subst q0
             exact W.wk [] hnp ⟨rfl, rfl, rfl⟩ ⟨rfl, trivial, by decide, rfl, trivial⟩ (LeE.upd rfl rfl (LeE.none rfl rfl)) rfl
           replace H := cnf hb5060 H
           refine WPL.skipg (b' := false) rfl rfl (lb hb5060) rfl rfl (.inl trivial) ?_
           refine WPL.skipg (b' := false) rfl rfl (lb hb5060) rfl rfl (.inl trivial) ?_
           refine WPL.q (q_pickF (v := .lit (.bool _)) (lb hb5060) rfl) rfl ?_
           refine WPL.q (q_mv (v := .lit (.bool _)) rfl) rfl ?_
           refine WPL.skipg (b' := false) rfl rfl rfl rfl rfl (.inl trivial) ?_
           refine WPL.skipg (b' := false) rfl rfl rfl rfl rfl (.inl trivial) ?_
           refine WPL.q (q_pickF (v := .lit (.bool _)) rfl rfl) rfl ?_
           refine WPL.q (q_mv (v := .lit (.bool _)) rfl) rfl ?_
           refine WPL.skipg (b' := false) rfl rfl rfl rfl rfl (.inl trivial) ?_
           refine WPL.skipg (b' := false) rfl rfl rfl rfl rfl (.inl trivial) ?_
           refine WPL.q (q_pickF (v := .lit (.bool _)) rfl rfl) rfl ?_
           refine WPL.q (q_as (v := .lit (.bool _)) rfl) rfl ?_
           refine WPL.nilW ?_
           have q0 := (Option.some.inj H)
           subst q0
           exact W.wk [] hnp ⟨rfl, rfl, rfl⟩ ⟨rfl, trivial, by decide, rfl, trivial⟩ (LeE.upd rfl rfl (LeE.none rfl rfl)) rfl
         replace H := cnf hb5059 H
         refine WPL.skipg (b' := false) rfl rfl (lb hb5059) rfl rfl (.inl trivial) ?_
         refine WPL.skipg (b' := false) rfl rfl (lb hb5059) rfl rfl (.inl trivial) ?_
         refine WPL.q (q_pickF (v := .lit (.bool _)) (lb hb5059) rfl) rfl ?_
         refine WPL.q (q_mv (v := .lit (.bool _)) rfl) rfl ?_
         refine WPL.skipg (b' := false) rfl rfl rfl rfl rfl (.inl trivial) ?_
         refine WPL.skipg (b' := false) rfl rfl rfl rfl rfl (.inl trivial) ?_
         refine WPL.q (q_pickF (v := .lit (.bool _)) rfl rfl) rfl ?_
         refine WPL.q (q_mv (v := .lit (.bool _)) rfl) rfl ?_
         refine WPL.skipg (b' := false) rfl rfl rfl rfl rfl (.inl trivial) ?_
         refine WPL.skipg (b' := false) rfl rfl rfl rfl rfl (.inl trivial) ?_
         refine WPL.q (q_pickF (v := .lit (.bool _)) rfl rfl) rfl ?_
         refine WPL.q (q_mv (v := .lit (.bool _)) rfl) rfl ?_
         refine WPL.skipg (b' := false) rfl rfl rfl rfl rfl (.inl trivial) ?_
         refine WPL.skipg (b' := false) rfl rfl rfl rfl rfl (.inl trivial) ?_
         refine WPL.q (q_pickF (v := .lit (.bool _)) rfl rfl) rfl ?_
         refine WPL.q (q_as (v := .lit (.bool _)) rfl) rfl ?_
         refine WPL.nilW ?_
         have q0 := (Option.some.inj H)
         subst q0
         exact W.wk [] hnp ⟨rfl, rfl, rfl⟩ ⟨rfl, trivial, by decide, rfl, trivial⟩ (LeE.upd rfl rfl (LeE.none rfl rfl)) rfl
       replace H := cnf hb5057 H
       refine WPL.skipg (b' := false) rfl rfl (lb hb5057) rfl rfl (.inl trivial) ?_
       refine WPL.skipg (b' := false) rfl rfl (lb hb5057) rfl rfl (.inl trivial) ?_
       refine WPL.skipg (b' := false) rfl rfl (lb hb5057) rfl rfl (.inl trivial) ?_
       refine WPL.q (q_pickF (v := .lit (.bool _)) (lb hb5057) rfl) rfl ?_
       refine WPL.q (q_mv (v := .lit (.bool _)) rfl) rfl ?_
       refine WPL.skipg (b' := false) rfl rfl rfl rfl rfl (.inl trivial) ?_
       refine WPL.skipg (b' := false) rfl rfl rfl rfl rfl (.inl trivial) ?_
       refine WPL.q (q_pickF (v := .lit (.bool _)) rfl rfl) rfl ?_
       refine WPL.q (q_mv (v := .lit (.bool _)) rfl) rfl ?_
       refine WPL.skipg (b' := false) rfl rfl rfl rfl rfl (.inl trivial) ?_
       refine WPL.skipg (b' := false) rfl rfl rfl rfl rfl (.inl trivial) ?_
       refine WPL.q (q_pickF (v := .lit (.bool _)) rfl rfl) rfl ?_
       refine WPL.q (q_mv (v := .lit (.bool _)) rfl) rfl ?_
       refine WPL.skipg (b' := false) rfl rfl rfl rfl rfl (.inl trivial) ?_
       refine WPL.skipg (b' := false) rfl rfl rfl rfl rfl (.inl trivial) ?_
       refine WPL.q (q_pickF (v := .lit (.bool _)) rfl rfl) rfl ?_
       refine WPL.q (q_mv (v := .lit (.bool _)) rfl) rfl ?_
       refine WPL.skipg (b' := false) rfl rfl rfl rfl rfl (.inl trivial) ?_
       refine WPL.skipg (b' := false) rfl rfl rfl rfl rfl (.inl trivial) ?_
       refine WPL.q (q_pickF (v := .lit (.bool _)) rfl rfl) rfl ?_
       refine WPL.q (q_as (v := .lit (.bool _)) rfl) rfl ?_
       refine WPL.nilW ?_
       have q0 := (Option.some.inj H)
       subst q0
       exact W.wk [] hnp ⟨rfl, rfl, rfl⟩ ⟨rfl, trivial, by decide, rfl, trivial⟩ (LeE.upd rfl rfl (LeE.none rfl rfl)) rfl
     replace H := cnf hb5056 H
     refine WPL.skipg (b' := false) rfl rfl (lb hb5056) rfl rfl (.inl trivial) ?_
     refine WPL.skipg (b' := false) rfl rfl (lb hb5056) rfl rfl (.inl trivial) ?_
     refine WPL.q (q_pickF (v := .lit (.bool _)) (lb hb5056) rfl) rfl ?_
     refine WPL.q (q_mv (v := .lit (.bool _)) rfl) rfl ?_
     refine WPL.skipg (b' := false) rfl rfl rfl rfl rfl (.inl trivial) ?_
     refine WPL.skipg (b' := false) rfl rfl rfl rfl rfl (.inl trivial) ?_
     refine WPL.skipg (b' := false) rfl rfl rfl rfl rfl (.inl trivial) ?_
     refine WPL.q (q_pickF (v := .lit (.bool _)) rfl rfl) rfl ?_
     refine WPL.q (q_mv (v := .lit (.bool _)) rfl) rfl ?_
     refine WPL.skipg (b' := false) rfl rfl rfl rfl rfl (.inl trivial) ?_
     refine WPL.skipg (b' := false) rfl rfl rfl rfl rfl (.inl trivial) ?_
     refine WPL.q (q_pickF (v := .lit (.bool _)) rfl rfl) rfl ?_
     refine WPL.q (q_mv (v := .lit (.bool _)) rfl) rfl ?_
     refine WPL.skipg (b' := false) rfl rfl rfl rfl rfl (.inl trivial) ?_
     refine WPL.skipg (b' := false) rfl rfl rfl rfl rfl (.inl trivial) ?_
     refine WPL.q (q_pickF (v := .lit (.bool _)) rfl rfl) rfl ?_
     refine WPL.q (q_mv (v := .lit (.bool _)) rfl) rfl ?_
     refine WPL.skipg (b' := false) rfl rfl rfl rfl rfl (.inl trivial) ?_
     refine WPL.skipg (b' := false) rfl rfl rfl rfl rfl (.inl trivial) ?_
     refine WPL.q (q_pickF (v := .lit (.bool _)) rfl rfl) rfl ?_
     refine WPL.q (q_mv (v := .lit (.bool _)) rfl) rfl ?_
     refine WPL.skipg (b' := false) rfl rfl rfl rfl rfl (.inl trivial) ?_
     refine WPL.skipg (b' := false) rfl rfl rfl rfl rfl (.inl trivial) ?_
     refine WPL.q (q_pickF (v := .lit (.bool _)) rfl rfl) rfl ?_
     refine WPL.q (q_as (v := .lit (.bool _)) rfl) rfl ?_
     refine WPL.nilW ?_
     have q0 := (Option.some.inj H)
     subst q0
     exact W.wk [] hnp ⟨rfl, rfl, rfl⟩ ⟨rfl, trivial, by decide, rfl, trivial⟩ (LeE.upd rfl rfl (LeE.none rfl rfl)) rfl
   replace H := cnf hb5055 H
   refine WPL.skipg (b' := false) rfl rfl (lb hb5055) rfl rfl (.inl trivial) ?_
   refine WPL.skipg (b' := false) rfl rfl (lb hb5055) rfl rfl (.inl trivial) ?_
   refine WPL.q (q_pickF (v := .lit (.bool _)) (lb hb5055) rfl) rfl ?_
   refine WPL.q (q_mv (v := .lit (.bool _)) rfl) rfl ?_
   refine WPL.skipg (b' := false) rfl rfl rfl rfl rfl (.inl trivial) ?_
   refine WPL.skipg (b' := false) rfl rfl rfl rfl rfl (.inl trivial) ?_
   refine WPL.q (q_pickF (v := .lit (.bool _)) rfl rfl) rfl ?_
   refine WPL.q (q_mv (v := .lit (.bool _)) rfl) rfl ?_
   refine WPL.skipg (b' := false) rfl rfl rfl rfl rfl (.inl trivial) ?_
   refine WPL.skipg (b' := false) rfl rfl rfl rfl rfl (.inl trivial) ?_
   refine WPL.skipg (b' := false) rfl rfl rfl rfl rfl (.inl trivial) ?_
   refine WPL.q (q_pickF (v := .lit (.bool _)) rfl rfl) rfl ?_
   refine WPL.q (q_mv (v := .lit (.bool _)) rfl) rfl ?_
   refine WPL.skipg (b' := false) rfl rfl rfl rfl rfl (.inl trivial) ?_
   refine WPL.skipg (b' := false) rfl rfl rfl rfl rfl (.inl trivial) ?_
   refine WPL.q (q_pickF (v := .lit (.bool _)) rfl rfl) rfl ?_
   refine WPL.q (q_mv (v := .lit (.bool _)) rfl) rfl ?_
   refine WPL.skipg (b' := false) rfl rfl rfl rfl rfl (.inl trivial) ?_
   refine WPL.skipg (b' := false) rfl rfl rfl rfl rfl (.inl trivial) ?_
   refine WPL.q (q_pickF (v := .lit (.bool _)) rfl rfl) rfl ?_
   refine WPL.q (q_mv (v := .lit (.bool _)) rfl) rfl ?_
   refine WPL.skipg (b' := false) rfl rfl rfl rfl rfl (.inl trivial) ?_
   refine WPL.skipg (b' := false) rfl rfl rfl rfl rfl (.inl trivial) ?_
   refine WPL.q (q_pickF (v := .lit (.bool _)) rfl rfl) rfl ?_
   refine WPL.q (q_mv (v := .lit (.bool _)) rfl) rfl ?_
   refine WPL.skipg (b' := false) rfl rfl rfl rfl rfl (.inl trivial) ?_
   refine WPL.skipg (b' := false) rfl rfl rfl rfl rfl (.inl trivial) ?_
   refine WPL.q (q_pickF (v := .lit (.bool _)) rfl rfl) rfl ?_
   refine WPL.q (q_as (v := .lit (.bool _)) rfl) rfl ?_
   refine WPL.nilW ?_
   have q0 := (Option.some.inj H)
   subst q0
   exact W.wk [] hnp ⟨rfl, rfl, rfl⟩ ⟨rfl, trivial, by decide, rfl, trivial⟩ (LeE.upd rfl rfl (LeE.none rfl rfl)) rfl
 rintro _ _ _ ⟨rfl, rfl, rfl⟩
 refine W.now ?_
 refine Then.n ?_
 refine WP.retW ?_
 have q0 := (Option.some.inj H)
 subst q0
 exact W.now (BodyR.mkR trivial rfl [] ⟨rfl, rfl⟩ ⟨rfl, trivial, by decide, rfl, trivial⟩ rfl rfl)
end Go.Proofs.Ytpceecokdpdgfaa.W
namespace Go.Proofs.Ytpceecokdpdgfaa.W
open Go Go.Q Go.Proofs
set_option linter.unusedVariables false
set_option linter.unusedSimpArgs false
set_option maxRecDepth 100000 in
set_option maxHeartbeats 4000000 in
theorem s_quirelaw03_InflateTables (k : Nat) (x2 : Int) (x5091 : Bool) (H : g_quirelaw03_InflateTables k x2 = some x5091) : Go.Q.Spec Try.prog 3 0 [.lit (.int .i64 x2)] Mem.nil (fun o M => o = .ret (.lit (.bool x5091)) ∧ M = Mem.nil) := by
 unfold g_quirelaw03_InflateTables at H
 refine Go.Q.Spec.of_bodyR (az := []) (rs := [.tmp 2]) (nt := 80) Try.func3 rfl rfl (by intro t T h; simp at h) rfl rfl fun cx hnp => ?_
 refine WP.seq ?_
 refine WP.region ?_
 refine WPL.q (q_as (v := .lit (.bool _)) rfl) rfl ?_
 refine WPL.nilW ?_
 refine W.now ?_
 refine Then.n ?_
 refine WP.seq ?_
 refine WP.region ?_
 refine WPL.q (q_mv (v := .lit (.int _ _)) rfl) rfl ?_
 obtain ⟨⟨x5093, x5094, x5095⟩, h5091, H⟩ := bnd H
 refine WPL.c (runs_call (s := []) (t := []) (N := 0) (bor := []) fn6 rfl (s_inflate_Lit k x2 x5093 x5094 x5095 h5091) ⟨rfl, trivial, by decide, rfl, trivial⟩ rfl trivial (.ren rfl rfl .nil) rfl trivial rfl) rfl ?_
 refine WPL.q (q_mv (v := .tup _) rfl) rfl ?_
 refine WPL.q (q_extract rfl rfl) rfl ?_
 refine WPL.q (q_extract rfl rfl) rfl ?_
 refine WPL.q (q_extract rfl rfl) rfl ?_
 refine WPL.q (q_as (v := .lit (.int _ _)) rfl) rfl ?_
 refine WPL.q (q_as (v := .lit (.int _ _)) rfl) rfl ?_
 refine WPL.q (q_as (v := .lit (.bool _)) rfl) rfl ?_
 refine WPL.nilW ?_
 refine W.now ?_
 refine Then.n ?_
 refine WP.seq ?_
 refine WP.region ?_
 refine WPL.q (q_mv (v := .lit (.int _ _)) rfl) rfl ?_
 obtain ⟨⟨x5097, x5098, x5099⟩, h5095, H⟩ := bnd H
 refine WPL.c (runs_call (s := []) (t := []) (N := 0) (bor := []) fn7 rfl (s_quireref03_Lit k x2 x5097 x5098 x5099 h5095) ⟨rfl, trivial, by decide, rfl, trivial⟩ rfl trivial (.ren rfl rfl .nil) rfl trivial rfl) rfl ?_
 refine WPL.q (q_mv (v := .tup _) rfl) rfl ?_
 refine WPL.q (q_extract rfl rfl) rfl ?_
 refine WPL.q (q_extract rfl rfl) rfl ?_
 refine WPL.q (q_extract rfl rfl) rfl ?_
 refine WPL.q (q_as (v := .lit (.int _ _)) rfl) rfl ?_
 refine WPL.q (q_as (v := .lit (.int _ _)) rfl) rfl ?_
 refine WPL.q (q_as (v := .lit (.bool _)) rfl) rfl ?_
 refine WPL.nilW ?_
 refine W.now ?_
 refine Then.n ?_
 refine WP.seq ?_
 refine WP.region ?_
 refine WPL.q (q_mv (v := .lit (.int _ _)) rfl) rfl ?_
 obtain ⟨⟨x5101, x5102, x5103⟩, h5099, H⟩ := bnd H
 refine WPL.c (runs_call (s := []) (t := []) (N := 0) (bor := []) fn8 rfl (s_inflate_Dist k x2 x5101 x5102 x5103 h5099) ⟨rfl, trivial, by decide, rfl, trivial⟩ rfl trivial (.ren rfl rfl .nil) rfl trivial rfl) rfl ?_
 refine WPL.q (q_mv (v := .tup _) rfl) rfl ?_
 refine WPL.q (q_extract rfl rfl) rfl ?_
 refine WPL.q (q_extract rfl rfl) rfl ?_
 refine WPL.q (q_extract rfl rfl) rfl ?_
 refine WPL.q (q_as (v := .lit (.int _ _)) rfl) rfl ?_
 refine WPL.q (q_as (v := .lit (.int _ _)) rfl) rfl ?_
 refine WPL.q (q_as (v := .lit (.bool _)) rfl) rfl ?_
 refine WPL.nilW ?_
 refine W.now ?_
 refine Then.n ?_
 refine WP.seq ?_
 refine WP.region ?_
 refine WPL.q (q_mv (v := .lit (.int _ _)) rfl) rfl ?_
 obtain ⟨⟨x5105, x5106, x5107⟩, h5103, H⟩ := bnd H
 refine WPL.c (runs_call (s := []) (t := []) (N := 0) (bor := []) fn9 rfl (s_quireref03_Dist k x2 x5105 x5106 x5107 h5103) ⟨rfl, trivial, by decide, rfl, trivial⟩ rfl trivial (.ren rfl rfl .nil) rfl trivial rfl) rfl ?_
 refine WPL.q (q_mv (v := .tup _) rfl) rfl ?_
 refine WPL.q (q_extract rfl rfl) rfl ?_
 refine WPL.q (q_extract rfl rfl) rfl ?_
 refine WPL.q (q_extract rfl rfl) rfl ?_
 refine WPL.q (q_as (v := .lit (.int _ _)) rfl) rfl ?_
 refine WPL.q (q_as (v := .lit (.int _ _)) rfl) rfl ?_
 refine WPL.q (q_as (v := .lit (.bool _)) rfl) rfl ?_
 refine WPL.nilW ?_
 refine W.now ?_
 refine Then.n ?_
 refine WP.seq ?_
 obtain ⟨x5130, H5152, H⟩ := bnd H
 refine WP.monoW (Q := fun x E M => x = .normal ∧ E = (Env.none.upd 2 (.lit (.bool x5130))) ∧ M = Mem.nil) ?_ ?_
 · clear H
   have H := H5152
   clear H5152
   refine WP.region ?_
   refine WPL.q (q_mv (v := .lit (.int _ _)) rfl) rfl ?_
   refine WPL.q (q_mv (v := .lit (.int _ _)) rfl) rfl ?_
   refine WPL.q (q_eql rfl rfl) rfl ?_
   refine WPL.q (q_mv (v := .lit (.bool _)) rfl) rfl ?_
   refine WPL.split (t := 42) (b := (decide (x5093 = x5097))) rfl (fun hb5130 => ?_) (fun hb5130 => ?_)
   · replace H := cnt hb5130 H
     refine WPL.qg rfl rfl (lb hb5130) (q_mv (v := .lit (.int _ _)) rfl) rfl ?_
     refine WPL.qg rfl rfl (lb hb5130) (q_mv (v := .lit (.int _ _)) rfl) rfl ?_
     refine WPL.qg rfl rfl (lb hb5130) (q_eql rfl rfl) rfl ?_
     refine WPL.q (q_pickT (v := .lit (.bool _)) (lb hb5130) rfl) rfl ?_
     refine WPL.q (q_mv (v := .lit (.bool _)) rfl) rfl ?_
     refine WPL.split (t := 47) (b := (decide (x5094 = x5098))) rfl (fun hb5131 => ?_) (fun hb5131 => ?_)
     · replace H := cnt hb5131 H
       refine WPL.qg rfl rfl (lb hb5131) (q_mv (v := .lit (.bool _)) rfl) rfl ?_
       refine WPL.qg rfl rfl (lb hb5131) (q_mv (v := .lit (.bool _)) rfl) rfl ?_
       refine WPL.qg rfl rfl (lb hb5131) (q_eqlb Try.underlying4 rfl rfl) rfl ?_
       refine WPL.q (q_pickT (v := .lit (.bool _)) (lb hb5131) rfl) rfl ?_
       refine WPL.q (q_mv (v := .lit (.bool _)) rfl) rfl ?_
       refine WPL.split (t := 52) (b := (x5095 == x5099)) rfl (fun hb5132 => ?_) (fun hb5132 => ?_)
       · replace H := cnt hb5132 H
         refine WPL.qg rfl rfl (lb hb5132) (q_mv (v := .lit (.int _ _)) rfl) rfl ?_
         refine WPL.qg rfl rfl (lb hb5132) (q_mv (v := .lit (.int _ _)) rfl) rfl ?_
         refine WPL.qg rfl rfl (lb hb5132) (q_eql rfl rfl) rfl ?_
         refine WPL.q (q_pickT (v := .lit (.bool _)) (lb hb5132) rfl) rfl ?_
         refine WPL.q (q_mv (v := .lit (.bool _)) rfl) rfl ?_
         refine WPL.split (t := 57) (b := (decide (x5101 = x5105))) rfl (fun hb5133 => ?_) (fun hb5133 => ?_)
         · replace H := cnt hb5133 H
           refine WPL.qg rfl rfl (lb hb5133) (q_mv (v := .lit (.int _ _)) rfl) rfl ?_
           refine WPL.qg rfl rfl (lb hb5133) (q_mv (v := .lit (.int _ _)) rfl) rfl ?_
           refine WPL.qg rfl rfl (lb hb5133) (q_eql rfl rfl) rfl ?_
           refine WPL.q (q_pickT (v := .lit (.bool _)) (lb hb5133) rfl) rfl ?_
           refine WPL.q (q_mv (v := .lit (.bool _)) rfl) rfl ?_
           refine WPL.split (t := 62) (b := (decide (x5102 = x5106))) rfl (fun hb5134 => ?_) (fun hb5134 => ?_)
           · replace H := cnt hb5134 H
             refine WPL.qg rfl rfl (lb hb5134) (q_mv (v := .lit (.bool _)) rfl) rfl ?_
             refine WPL.qg rfl rfl (lb hb5134) (q_mv (v := .lit (.bool _)) rfl) rfl ?_
             refine WPL.qg rfl rfl (lb hb5134) (q_eqlb Try.underlying4 rfl rfl) rfl ?_
             refine WPL.q (q_pickT (v := .lit (.bool _)) (lb hb5134) rfl) rfl ?_
             refine WPL.q (q_mv (v := .lit (.bool _)) rfl) rfl ?_
             refine WPL.split (t := 67) (b := (x5103 == x5107)) rfl (fun hb5135 => ?_) (fun hb5135 => ?_)
             · replace H := cnt hb5135 H
               obtain ⟨x5138, h5136, H⟩ := bnd H
               refine WPL.cg rfl rfl (lb hb5135) (runs_call (s := []) (t := []) (N := 0) (bor := []) fn11 rfl (s_inflate_FixedLit k x5138 h5136) ⟨rfl, trivial, by decide, rfl, trivial⟩ rfl trivial .nil rfl trivial rfl) rfl ?_
               obtain ⟨x5140, h5138, H⟩ := bnd H
               refine WPL.cg rfl rfl (lb hb5135) (runs_call (s := []) (t := []) (N := 0) (bor := []) fn12 rfl (s_quireref03_FixedLit k x5140 h5138) ⟨rfl, trivial, by decide, rfl, trivial⟩ rfl trivial .nil rfl trivial rfl) rfl ?_
               obtain ⟨x5142, h5140, H⟩ := bnd H
               refine WPL.cg rfl rfl (lb hb5135) (runs_call (s := []) (t := []) (N := 0) (bor := []) fn10 rfl (s_quirelaw03_ints k x5138 x5140 x5142 h5140) ⟨rfl, trivial, by decide, rfl, trivial⟩ rfl trivial (.ren rfl rfl (.ren rfl rfl .nil)) rfl trivial rfl) rfl ?_
               refine WPL.q (q_pickT (v := .lit (.bool _)) (lb hb5135) rfl) rfl ?_
               refine WPL.q (q_mv (v := .lit (.bool _)) rfl) rfl ?_
               refine WPL.split (t := 72) (b := x5142) rfl (fun hb5142 => ?_) (fun hb5142 => ?_)
               · replace H := cnt hb5142 H
                 obtain ⟨x5145, h5143, H⟩ := bnd H
                 refine WPL.cg rfl rfl (lb hb5142) (runs_call (s := []) (t := []) (N := 0) (bor := []) fn13 rfl (s_inflate_FixedDist k x5145 h5143) ⟨rfl, trivial, by decide, rfl, trivial⟩ rfl trivial .nil rfl trivial rfl) rfl ?_
                 obtain ⟨x5147, h5145, H⟩ := bnd H
                 refine WPL.cg rfl rfl (lb hb5142) (runs_call (s := []) (t := []) (N := 0) (bor := []) fn14 rfl (s_quireref03_FixedDist k x5147 h5145) ⟨rfl, trivial, by decide, rfl, trivial⟩ rfl trivial .nil rfl trivial rfl) rfl ?_
                 obtain ⟨x5149, h5147, H⟩ := bnd H
                 refine WPL.cg rfl rfl (lb hb5142) (runs_call (s := []) (t := []) (N := 0) (bor := []) fn10 rfl (s_quirelaw03_ints k x5145 x5147 x5149 h5147) ⟨rfl, trivial, by decide, rfl, trivial⟩ rfl trivial (.ren rfl rfl (.ren rfl rfl .nil)) rfl trivial rfl) rfl ?_
                 refine WPL.q (q_pickT (v := .lit (.bool _)) (lb hb5142) rfl) rfl ?_
                 refine WPL.q (q_mv (v := .lit (.bool _)) rfl) rfl ?_
                 refine WPL.split (t := 77) (b := x5149) rfl (fun hb5149 => ?_) (fun hb5149 => ?_)
                 · replace H := cnt hb5149 H
                   obtain ⟨x5152, h5150, H⟩ := bnd H
                   refine WPL.cg rfl rfl (lb hb5149) (runs_call (s := []) (t := []) (N := 0) (bor := []) fn15 rfl (s_quirelaw03_alive k x5152 h5150) ⟨rfl, trivial, by decide, rfl, trivial⟩ rfl trivial .nil rfl trivial rfl) rfl ?_
                   refine WPL.q (q_pickT (v := .lit (.bool _)) (lb hb5149) rfl) rfl ?_
                   refine WPL.q (q_as (v := .lit (.bool _)) rfl) rfl ?_
                   refine WPL.nilW ?_
                   have q0 := (Option.some.inj H)
                   subst q0
                   exact W.wk [] hnp ⟨rfl, rfl, rfl⟩ ⟨rfl, trivial, by decide, rfl, trivial⟩ (LeE.upd rfl rfl (LeE.none rfl rfl)) rfl
                 replace H := cnf hb5149 H
                 refine WPL.skipg (b' := false) rfl rfl (lb hb5149) rfl rfl (.inl (by simp only [SkipOk]; kernel_rfl)) ?_
                 refine WPL.q (q_pickF (v := .lit (.bool _)) (lb hb5149) rfl) rfl ?_
                 refine WPL.q (q_as (v := .lit (.bool _)) rfl) rfl ?_
                 refine WPL.nilW ?_
                 have q0 := (Option.some.inj H)
                 subst q0
                 exact W.wk [] hnp ⟨rfl, rfl, rfl⟩ ⟨rfl, trivial, by decide, rfl, trivial⟩ (LeE.upd rfl rfl (LeE.none rfl rfl)) rfl
               replace H := cnf hb5142 H
               refine WPL.skipg (b' := false) rfl rfl (lb hb5142) rfl rfl (.inl (by simp only [SkipOk]; kernel_rfl)) ?_
               refine WPL.skipg (b' := false) rfl rfl (lb hb5142) rfl rfl (.inl (by simp only [SkipOk]; kernel_rfl)) ?_
               refine WPL.skipg (b' := false) rfl rfl (lb hb5142) rfl rfl (.inl (by simp only [SkipOk]; kernel_rfl)) ?_
               refine WPL.q (q_pickF (v := .lit (.bool _)) (lb hb5142) rfl) rfl ?_
               refine WPL.q (q_mv (v := .lit (.bool _)) rfl) rfl ?_
               refine WPL.skipg (b' := false) rfl rfl rfl rfl rfl (.inl (by simp only [SkipOk]; kernel_rfl)) ?_
               refine WPL.q (q_pickF (v := .lit (.bool _)) rfl rfl) rfl ?_
               refine WPL.q (q_as (v := .lit (.bool _)) rfl) rfl ?_
               refine WPL.nilW ?_
               have q0 := (Option.some.inj H)
               subst q0
               exact W.wk [] hnp ⟨rfl, rfl, rfl⟩ ⟨rfl, trivial, by decide, rfl, trivial⟩ (LeE.upd rfl rfl (LeE.none rfl rfl)) rfl
             replace H := cnf hb5135 H
             refine WPL.skipg (b' := false) rfl rfl (lb hb5135) rfl rfl (.inl (by simp only [SkipOk]; kernel_rfl)) ?_
             refine WPL.skipg (b' := false) rfl rfl (lb hb5135) rfl rfl (.inl (by simp only [SkipOk]; kernel_rfl)) ?_
             refine WPL.skipg (b' := false) rfl rfl (lb hb5135) rfl rfl (.inl (by simp only [SkipOk]; kernel_rfl)) ?_
             refine WPL.q (q_pickF (v := .lit (.bool _)) (lb hb5135) rfl) rfl ?_
             refine WPL.q (q_mv (v := .lit (.bool _)) rfl) rfl ?_
             refine WPL.skipg (b' := false) rfl rfl rfl rfl rfl (.inl (by simp only [SkipOk]; kernel_rfl)) ?_
             refine WPL.skipg (b' := false) rfl rfl rfl rfl rfl (.inl (by simp only [SkipOk]; kernel_rfl)) ?_
             refine WPL.skipg (b' := false) rfl rfl rfl rfl rfl (.inl (by simp only [SkipOk]; kernel_rfl)) ?_
             refine WPL.q (q_pickF (v := .lit (.bool _)) rfl rfl) rfl ?_
             refine WPL.q (q_mv (v := .lit (.bool _)) rfl) rfl ?_
             refine WPL.skipg (b' := false) rfl rfl rfl rfl rfl (.inl (by simp only [SkipOk]; kernel_rfl)) ?_
             refine WPL.q (q_pickF (v := .lit (.bool _)) rfl rfl) rfl ?_
             refine WPL.q (q_as (v := .lit (.bool _)) rfl) rfl ?_
             refine WPL.nilW ?_
             have q0 := (Option.some.inj H)
             subst q0
             exact W.wk [] hnp ⟨rfl, rfl, rfl⟩ ⟨rfl, trivial, by decide, rfl, trivial⟩ (LeE.upd rfl rfl (LeE.none rfl rfl)) rfl
           replace H := cnf hb5134 H
           refine WPL.skipg (b' := false) rfl rfl (lb hb5134) rfl rfl (.inl trivial) ?_
           refine WPL.skipg (b' := false) rfl rfl (lb hb5134) rfl rfl (.inl trivial) ?_
           refine WPL.skipg (b' := false) rfl rfl (lb hb5134) rfl rfl (.inl trivial) ?_
           refine WPL.q (q_pickF (v := .lit (.bool _)) (lb hb5134) rfl) rfl ?_
           refine WPL.q (q_mv (v := .lit (.bool _)) rfl) rfl ?_
           refine WPL.skipg (b' := false) rfl rfl rfl rfl rfl (.inl (by simp only [SkipOk]; kernel_rfl)) ?_
           refine WPL.skipg (b' := false) rfl rfl rfl rfl rfl (.inl (by simp only [SkipOk]; kernel_rfl)) ?_
           refine WPL.skipg (b' := false) rfl rfl rfl rfl rfl (.inl (by simp only [SkipOk]; kernel_rfl)) ?_
           refine WPL.q (q_pickF (v := .lit (.bool _)) rfl rfl) rfl ?_
           refine WPL.q (q_mv (v := .lit (.bool _)) rfl) rfl ?_
           refine WPL.skipg (b' := false) rfl rfl rfl rfl rfl (.inl (by simp only [SkipOk]; kernel_rfl)) ?_
           refine WPL.skipg (b' := false) rfl rfl rfl rfl rfl (.inl (by simp only [SkipOk]; kernel_rfl)) ?_
           refine WPL.skipg (b' := false) rfl rfl rfl rfl rfl (.inl (by simp only [SkipOk]; kernel_rfl)) ?_
           refine WPL.q (q_pickF (v := .lit (.bool _)) rfl rfl) rfl ?_
           refine WPL.q (q_mv (v := .lit (.bool _)) rfl) rfl ?_
           refine WPL.skipg (b' := false) rfl rfl rfl rfl rfl (.inl (by simp only [SkipOk]; kernel_rfl)) ?_
           refine WPL.q (q_pickF (v := .lit (.bool _)) rfl rfl) rfl ?_
           refine WPL.q (q_as (v := .lit (.bool _)) rfl) rfl ?_
           refine WPL.nilW ?_
           have q0 := (Option.some.inj H)
           subst q0
           exact W.wk [] hnp ⟨rfl, rfl, rfl⟩ ⟨rfl, trivial, by decide, rfl, trivial⟩ (LeE.upd rfl rfl (LeE.none rfl rfl)) rfl
         replace H := cnf hb5133 H
         refine WPL.skipg (b' := false) rfl rfl (lb hb5133) rfl rfl (.inl trivial) ?_
         refine WPL.skipg (b' := false) rfl rfl (lb hb5133) rfl rfl (.inl trivial) ?_
         refine WPL.skipg (b' := false) rfl rfl (lb hb5133) rfl rfl (.inl trivial) ?_
         refine WPL.q (q_pickF (v := .lit (.bool _)) (lb hb5133) rfl) rfl ?_
         refine WPL.q (q_mv (v := .lit (.bool _)) rfl) rfl ?_
         refine WPL.skipg (b' := false) rfl rfl rfl rfl rfl (.inl trivial) ?_
         refine WPL.skipg (b' := false) rfl rfl rfl rfl rfl (.inl trivial) ?_
         refine WPL.skipg (b' := false) rfl rfl rfl rfl rfl (.inl trivial) ?_
         refine WPL.q (q_pickF (v := .lit (.bool _)) rfl rfl) rfl ?_
         refine WPL.q (q_mv (v := .lit (.bool _)) rfl) rfl ?_
         refine WPL.skipg (b' := false) rfl rfl rfl rfl rfl (.inl (by simp only [SkipOk]; kernel_rfl)) ?_
         refine WPL.skipg (b' := false) rfl rfl rfl rfl rfl (.inl (by simp only [SkipOk]; kernel_rfl)) ?_
         refine WPL.skipg (b' := false) rfl rfl rfl rfl rfl (.inl (by simp only [SkipOk]; kernel_rfl)) ?_
         refine WPL.q (q_pickF (v := .lit (.bool _)) rfl rfl) rfl ?_
         refine WPL.q (q_mv (v := .lit (.bool _)) rfl) rfl ?_
         refine WPL.skipg (b' := false) rfl rfl rfl rfl rfl (.inl (by simp only [SkipOk]; kernel_rfl)) ?_
         refine WPL.skipg (b' := false) rfl rfl rfl rfl rfl (.inl (by simp only [SkipOk]; kernel_rfl)) ?_
         refine WPL.skipg (b' := false) rfl rfl rfl rfl rfl (.inl (by simp only [SkipOk]; kernel_rfl)) ?_
         refine WPL.q (q_pickF (v := .lit (.bool _)) rfl rfl) rfl ?_
         refine WPL.q (q_mv (v := .lit (.bool _)) rfl) rfl ?_
         refine WPL.skipg (b' := false) rfl rfl rfl rfl rfl (.inl (by simp only [SkipOk]; kernel_rfl)) ?_
         refine WPL.q (q_pickF (v := .lit (.bool _)) rfl rfl) rfl ?_
         refine WPL.q (q_as (v := .lit (.bool _)) rfl) rfl ?_
         refine WPL.nilW ?_
         have q0 := (Option.some.inj H)
         subst q0
         exact W.wk [] hnp ⟨rfl, rfl, rfl⟩ ⟨rfl, trivial, by decide, rfl, trivial⟩ (LeE.upd rfl rfl (LeE.none rfl rfl)) rfl
       replace H := cnf hb5132 H
       refine WPL.skipg (b' := false) rfl rfl (lb hb5132) rfl rfl (.inl trivial) ?_
       refine WPL.skipg (b' := false) rfl rfl (lb hb5132) rfl rfl (.inl trivial) ?_
       refine WPL.skipg (b' := false) rfl rfl (lb hb5132) rfl rfl (.inl trivial) ?_
       refine WPL.q (q_pickF (v := .lit (.bool _)) (lb hb5132) rfl) rfl ?_
       refine WPL.q (q_mv (v := .lit (.bool _)) rfl) rfl ?_
       refine WPL.skipg (b' := false) rfl rfl rfl rfl rfl (.inl trivial) ?_
       refine WPL.skipg (b' := false) rfl rfl rfl rfl rfl (.inl trivial) ?_
       refine WPL.skipg (b' := false) rfl rfl rfl rfl rfl (.inl trivial) ?_
       refine WPL.q (q_pickF (v := .lit (.bool _)) rfl rfl) rfl ?_
       refine WPL.q (q_mv (v := .lit (.bool _)) rfl) rfl ?_
       refine WPL.skipg (b' := false) rfl rfl rfl rfl rfl (.inl trivial) ?_
       refine WPL.skipg (b' := false) rfl rfl rfl rfl rfl (.inl trivial) ?_
       refine WPL.skipg (b' := false) rfl rfl rfl rfl rfl (.inl trivial) ?_
       refine WPL.q (q_pickF (v := .lit (.bool _)) rfl rfl) rfl ?_
       refine WPL.q (q_mv (v := .lit (.bool _)) rfl) rfl ?_
       refine WPL.skipg (b' := false) rfl rfl rfl rfl rfl (.inl (by simp only [SkipOk]; kernel_rfl)) ?_
       refine WPL.skipg (b' := false) rfl rfl rfl rfl rfl (.inl (by simp only [SkipOk]; kernel_rfl)) ?_
       refine WPL.skipg (b' := false) rfl rfl rfl rfl rfl (.inl (by simp only [SkipOk]; kernel_rfl)) ?_
       refine WPL.q (q_pickF (v := .lit (.bool _)) rfl rfl) rfl ?_
       refine WPL.q (q_mv (v := .lit (.bool _)) rfl) rfl ?_
       refine WPL.skipg (b' := false) rfl rfl rfl rfl rfl (.inl (by simp only [SkipOk]; kernel_rfl)) ?_
       refine WPL.skipg (b' := false) rfl rfl rfl rfl rfl (.inl (by simp only [SkipOk]; kernel_rfl)) ?_
       refine WPL.skipg (b' := false) rfl rfl rfl rfl rfl (.inl (by simp only [SkipOk]; kernel_rfl)) ?_
       refine WPL.q (q_pickF (v := .lit (.bool _)) rfl rfl) rfl ?_
       refine WPL.q (q_mv (v := .lit (.bool _)) rfl) rfl ?_
       refine WPL.skipg (b' := false) rfl rfl rfl rfl rfl (.inl (by simp only [SkipOk]; kernel_rfl)) ?_
       refine WPL.q (q_pickF (v := .lit (.bool _)) rfl rfl) rfl ?_
       refine WPL.q (q_as (v := .lit (.bool _)) rfl) rfl ?_
       refine WPL.nilW ?_
       have q0 := (Option.some.inj H)
       subst q0
       exact W.wk [] hnp ⟨rfl, rfl, rfl⟩ ⟨rfl, trivial, by decide, rfl, trivial⟩ (LeE.upd rfl rfl (LeE.none rfl rfl)) rfl
     replace H := cnf hb5131 H
     refine WPL.skipg (b' := false) rfl rfl (lb hb5131) rfl rfl (.inl trivial) ?_
     refine WPL.skipg (b' := false) rfl rfl (lb hb5131) rfl rfl (.inl trivial) ?_
     refine WPL.skipg (b' := false) rfl rfl (lb hb5131) rfl rfl (.inl trivial) ?_
     refine WPL.q (q_pickF (v := .lit (.bool _)) (lb hb5131) rfl) rfl ?_
     refine WPL.q (q_mv (v := .lit (.bool _)) rfl) rfl ?_
     refine WPL.skipg (b' := false) rfl rfl rfl rfl rfl (.inl trivial) ?_
     refine WPL.skipg (b' := false) rfl rfl rfl rfl rfl (.inl trivial) ?_
     refine WPL.skipg (b' := false) rfl rfl rfl rfl rfl (.inl trivial) ?_
     refine WPL.q (q_pickF (v := .lit (.bool _)) rfl rfl) rfl ?_
     refine WPL.q (q_mv (v := .lit (.bool _)) rfl) rfl ?_
     refine WPL.skipg (b' := false) rfl rfl rfl rfl rfl (.inl trivial) ?_
     refine WPL.skipg (b' := false) rfl rfl rfl rfl rfl (.inl trivial) ?_
     refine WPL.skipg (b' := false) rfl rfl rfl rfl rfl (.inl trivial) ?_
     refine WPL.q (q_pickF (v := .lit (.bool _)) rfl rfl) rfl ?_
     refine WPL.q (q_mv (v := .lit (.bool _)) rfl) rfl ?_
     refine WPL.skipg (b' := false) rfl rfl rfl rfl rfl (.inl trivial) ?_
     refine WPL.skipg (b' := false) rfl rfl rfl rfl rfl (.inl trivial) ?_
     refine WPL.skipg (b' := false) rfl rfl rfl rfl rfl (.inl trivial) ?_
     refine WPL.q (q_pickF (v := .lit (.bool _)) rfl rfl) rfl ?_
     refine WPL.q (q_mv (v := .lit (.bool _)) rfl) rfl ?_
     refine WPL.skipg (b' := false) rfl rfl rfl rfl rfl (.inl (by simp only [SkipOk]; kernel_rfl)) ?_
     refine WPL.skipg (b' := false) rfl rfl rfl rfl rfl (.inl (by simp only [SkipOk]; kernel_rfl)) ?_
     refine WPL.skipg (b' := false) rfl rfl rfl rfl rfl (.inl (by simp only [SkipOk]; kernel_rfl)) ?_
     refine WPL.q (q_pickF (v := .lit (.bool _)) rfl rfl) rfl ?_
     refine WPL.q (q_mv (v := .lit (.bool _)) rfl) rfl ?_
     refine WPL.skipg (b' := false) rfl rfl rfl rfl rfl (.inl (by simp only [SkipOk]; kernel_rfl)) ?_
     refine WPL.skipg (b' := false) rfl rfl rfl rfl rfl (.inl (by simp only [SkipOk]; kernel_rfl)) ?_
     refine WPL.skipg (b' := false) rfl rfl rfl rfl rfl (.inl (by simp only [SkipOk]; kernel_rfl)) ?_
     refine WPL.q (q_pickF (v := .lit (.bool _)) rfl rfl) rfl ?_
     refine WPL.q (q_mv (v := .lit (.bool _)) rfl) rfl ?_
     refine WPL.skipg (b' := false) rfl rfl rfl rfl rfl (.inl (by simp only [SkipOk]; kernel_rfl)) ?_
     refine WPL.q (q_pickF (v := .lit (.bool _)) rfl rfl) rfl ?_
     refine WPL.q (q_as (v := .lit (.bool _)) rfl) rfl ?_
     refine WPL.nilW ?_
     have q0 := (Option.some.inj H)
     subst q0
     exact W.wk [] hnp ⟨rfl, rfl, rfl⟩ ⟨rfl, trivial, by decide, rfl, trivial⟩ (LeE.upd rfl rfl (LeE.none rfl rfl)) rfl
   replace H := cnf hb5130 H
   refine WPL.skipg (b' := false) rfl rfl (lb hb5130) rfl rfl (.inl trivial) ?_
   refine WPL.skipg (b' := false) rfl rfl (lb hb5130) rfl rfl (.inl trivial) ?_
   refine WPL.skipg (b' := false) rfl rfl (lb hb5130) rfl rfl (.inl trivial) ?_
   refine WPL.q (q_pickF (v := .lit (.bool _)) (lb hb5130) rfl) rfl ?_
   refine WPL.q (q_mv (v := .lit (.bool _)) rfl) rfl ?_
   refine WPL.skipg (b' := false) rfl rfl rfl rfl rfl (.inl trivial) ?_
   refine WPL.skipg (b' := false) rfl rfl rfl rfl rfl (.inl trivial) ?_
   refine WPL.skipg (b' := false) rfl rfl rfl rfl rfl (.inl trivial) ?_
   refine WPL.q (q_pickF (v := .lit (.bool _)) rfl rfl) rfl ?_
   refine WPL.q (q_mv (v := .lit (.bool _)) rfl) rfl ?_
   refine WPL.skipg (b' := false) rfl rfl rfl rfl rfl (.inl trivial) ?_
   refine WPL.skipg (b' := false) rfl rfl rfl rfl rfl (.inl trivial) ?_
   refine WPL.skipg (b' := false) rfl rfl rfl rfl rfl (.inl trivial) ?_
   refine WPL.q (q_pickF (v := .lit (.bool _)) rfl rfl) rfl ?_
   refine WPL.q (q_mv (v := .lit (.bool _)) rfl) rfl ?_
   refine WPL.skipg (b' := false) rfl rfl rfl rfl rfl (.inl trivial) ?_
   refine WPL.skipg (b' := false) rfl rfl rfl rfl rfl (.inl trivial) ?_
   refine WPL.skipg (b' := false) rfl rfl rfl rfl rfl (.inl trivial) ?_
   refine WPL.q (q_pickF (v := .lit (.bool _)) rfl rfl) rfl ?_
   refine WPL.q (q_mv (v := .lit (.bool _)) rfl) rfl ?_
   refine WPL.skipg (b' := false) rfl rfl rfl rfl rfl (.inl trivial) ?_
   refine WPL.skipg (b' := false) rfl rfl rfl rfl rfl (.inl trivial) ?_
   refine WPL.skipg (b' := false) rfl rfl rfl rfl rfl (.inl trivial) ?_
   refine WPL.q (q_pickF (v := .lit (.bool _)) rfl rfl) rfl ?_
   refine WPL.q (q_mv (v := .lit (.bool _)) rfl) rfl ?_
   refine WPL.skipg (b' := false) rfl rfl rfl rfl rfl (.inl (by simp only [SkipOk]; kernel_rfl)) ?_
   refine WPL.skipg (b' := false) rfl rfl rfl rfl rfl (.inl (by simp only [SkipOk]; kernel_rfl)) ?_
   refine WPL.skipg (b' := false) rfl rfl rfl rfl rfl (.inl (by simp only [SkipOk]; kernel_rfl)) ?_
   refine WPL.q (q_pickF (v := .lit (.bool _)) rfl rfl) rfl ?_
   refine WPL.q (q_mv (v := .lit (.bool _)) rfl) rfl ?_
   refine WPL.skipg (b' := false) rfl rfl rfl rfl rfl (.inl (by simp only [SkipOk]; kernel_rfl)) ?_
   refine WPL.skipg (b' := false) rfl rfl rfl rfl rfl (.inl (by simp only [SkipOk]; kernel_rfl)) ?_
   refine WPL.skipg (b' := false) rfl rfl rfl rfl rfl (.inl (by simp only [SkipOk]; kernel_rfl)) ?_
   refine WPL.q (q_pickF (v := .lit (.bool _)) rfl rfl) rfl ?_
   refine WPL.q (q_mv (v := .lit (.bool _)) rfl) rfl ?_
   refine WPL.skipg (b' := false) rfl rfl rfl rfl rfl (.inl (by simp only [SkipOk]; kernel_rfl)) ?_
   refine WPL.q (q_pickF (v := .lit (.bool _)) rfl rfl) rfl ?_
   refine WPL.q (q_as (v := .lit (.bool _)) rfl) rfl ?_
   refine WPL.nilW ?_
   have q0 := (Option.some.inj H)
   subst q0
   exact W.wk [] hnp ⟨rfl, rfl, rfl⟩ ⟨rfl, trivial, by decide, rfl, trivial⟩ (LeE.upd rfl rfl (LeE.none rfl rfl)) rfl
 rintro _ _ _ ⟨rfl, rfl, rfl⟩
 refine W.now ?_
 refine Then.n ?_
 refine WP.retW ?_
 have q0 := (Option.some.inj H)
 subst q0
 exact W.now (BodyR.mkR trivial rfl [] ⟨rfl, rfl⟩ ⟨rfl, trivial, by decide, rfl, trivial⟩ rfl rfl)
end Go.Proofs.Ytpceecokdpdgfaa.W
namespace Go.Proofs.Ytpceecokdpdgfaa.W
open Go Go.Q Go.Proofs
set_option linter.unusedVariables false
set_option linter.unusedSimpArgs false
theorem alive : g_quirelaw03_alive 400 = some true := by kernel_rfl
theorem fixedLit : ((g_inflate_FixedLit 400).bind fun a => (g_quireref03_FixedLit 400).bind fun b => g_quirelaw03_ints 400 a b) = some true := by kernel_rfl
theorem fixedDist : ((g_inflate_FixedDist 400).bind fun a => (g_quireref03_FixedDist 400).bind fun b => g_quirelaw03_ints 400 a b) = some true := by kernel_rfl
/-- Both answers are there and the same. -/
def sameB (a b : Option (Int × Int × Bool)) : Bool := match a, b with
  | some x, some y => decide (x.1 = y.1) && decide (x.2.1 = y.2.1) && (x.2.2 == y.2.2)
  | _, _ => false
theorem sameB_iff {a b : Option (Int × Int × Bool)} (h : sameB a b = true) : ∃ x y z, a = some (x, y, z) ∧ b = some (x, y, z) := by
  unfold sameB at h
  split at h
  · rename_i x y
    obtain ⟨x1, x2, x3⟩ := x
    obtain ⟨y1, y2, y3⟩ := y
    simp only [Bool.and_eq_true, decide_eq_true_eq, beq_iff_eq] at h
    obtain ⟨⟨rfl, rfl⟩, rfl⟩ := h
    exact ⟨_, _, _, rfl, rfl⟩
  · cases h
theorem litAll : ((List.range 29).all fun i => sameB (g_inflate_Lit 400 (257 + (i : Int))) (g_quireref03_Lit 400 (257 + (i : Int)))) = true := by kernel_rfl
theorem distAll : ((List.range 30).all fun i => sameB (g_inflate_Dist 400 (i : Int)) (g_quireref03_Dist 400 (i : Int))) = true := by kernel_rfl
theorem lit (s : Int) : ∃ x y z, g_inflate_Lit 400 s = some (x, y, z) ∧ g_quireref03_Lit 400 s = some (x, y, z) := by
  by_cases h : s < 257 ∨ 285 < s
  · refine ⟨0, 0, false, ?_, ?_⟩
    · unfold g_inflate_Lit
      rcases h with h | h
      · rw [decide_eq_true h]; rfl
      · rw [decide_eq_false (by omega : ¬ s < 257), decide_eq_true h]; rfl
    · unfold g_quireref03_Lit
      rcases h with h | h
      · rw [decide_eq_true h]; rfl
      · rw [decide_eq_false (by omega : ¬ s < 257), decide_eq_true h]; rfl
  · obtain ⟨i, rfl⟩ : ∃ i : Nat, s = 257 + (i : Int) := ⟨(s - 257).toNat, by omega⟩
    exact sameB_iff (List.all_eq_true.1 litAll i (List.mem_range.2 (by omega)))
theorem dist (s : Int) : ∃ x y z, g_inflate_Dist 400 s = some (x, y, z) ∧ g_quireref03_Dist 400 s = some (x, y, z) := by
  by_cases h : s < 0 ∨ 29 < s
  · refine ⟨0, 0, false, ?_, ?_⟩
    · unfold g_inflate_Dist
      rcases h with h | h
      · rw [decide_eq_true h]; rfl
      · rw [decide_eq_false (by omega : ¬ s < 0), decide_eq_true h]; rfl
    · unfold g_quireref03_Dist
      rcases h with h | h
      · rw [decide_eq_true h]; rfl
      · rw [decide_eq_false (by omega : ¬ s < 0), decide_eq_true h]; rfl
  · obtain ⟨i, rfl⟩ : ∃ i : Nat, s = (i : Int) := ⟨s.toNat, by omega⟩
    exact sameB_iff (List.all_eq_true.1 distAll i (List.mem_range.2 (by omega)))
theorem bnd2 {α β : Type} {a b : Option α} {f : α → α → Option β} {r : β} (h : (a.bind fun x => b.bind fun y => f x y) = some r) : ∃ x y, a = some x ∧ b = some y ∧ f x y = some r := by
  cases a with
  | none => cases h
  | some x => cases b with
    | none => cases h
    | some y => exact ⟨x, y, rfl, rfl, h⟩
theorem tables (s : Int) (h : (Lit.int .i64 s).wf = true) : ∃ k, g_quirelaw03_InflateTables k s = some true := by
  refine ⟨400, ?_⟩
  obtain ⟨a, b, c, h1, h2⟩ := lit s
  obtain ⟨d, e, f, h3, h4⟩ := dist s
  obtain ⟨p, q, p1, p2, p3⟩ := bnd2 fixedLit
  obtain ⟨u, v, u1, u2, u3⟩ := bnd2 fixedDist
  unfold g_quirelaw03_InflateTables
  rw [h1, h2, h3, h4, p1, p2, u1, u2]
  simp only [Option.bind_some, decide_true, beq_self_eq_true, cond_true, p3, u3, alive]
end Go.Proofs.Ytpceecokdpdgfaa.W
