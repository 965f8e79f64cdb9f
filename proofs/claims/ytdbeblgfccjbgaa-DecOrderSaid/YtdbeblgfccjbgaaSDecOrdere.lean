/- Texts joined: part 5 of what LDecOrder stands on. -/
import Derived.Test.YtdbeblgfccjbgaaSDecOrderd
namespace Go.Proofs.Ytdbeblgfccjbgaa.W
open Go Go.Q Go.Proofs
set_option linter.unusedVariables false
set_option linter.unusedSimpArgs false
set_option maxRecDepth 100000 in
set_option maxHeartbeats 4000000 in
theorem s_dec_Make (k : Nat) (x8742 : Int) (x8743 : Int) (x8765 : Int) (x8766 : Int) (x8767 : Int) (H : g_dec_Make k x8742 x8743 = some (x8765, x8766, x8767)) : Go.Q.Spec Try.prog 25 0 [.lit (.int .i64 x8742), .lit (.int .i64 x8743)] Mem.nil (fun o M => o = .ret (.tup [.agg [.lit (.int .i64 x8766), .lit (.int .i64 x8767)], .lit (.int .i64 x8765)]) ∧ M = (Mem.nil.push (.cells 23 [.lit (.int .i64 x8766), .lit (.int .i64 x8767)]))) := by
 unfold g_dec_Make at H
 refine Go.Q.Spec.of_bodyR (az := [(23, 2)]) (rs := [.cell 4 23, .tmp 5]) (nt := 27) Try.func25 rfl rfl (by intro t T h; simp at h; rcases h with ⟨rfl, rfl⟩ <;> first | exact ag23) rfl rfl fun cx hnp => ?_
 refine WP.seq ?_
 refine WP.region ?_
 refine WPL.d (d_alloc ze23 rfl) rfl ?_
 refine WPL.q (q_as (v := .lit (.int _ _)) rfl) rfl ?_
 refine WPL.nilW ?_
 refine W.now ?_
 refine Then.n ?_
 refine WP.seq ?_
 refine WP.seq ?_
 obtain ⟨x8777, H8779, H⟩ := bnd H
 refine WP.monoW (Q := fun x E M => x = .normal ∧ E = ((((Env.none.upd 0 (.lit (.int .i64 x8742))).upd 1 (.lit (.int .i64 x8743))).upd 4 (.ptr 0 0)).upd 15 (.lit (.bool x8777))) ∧ M = (Mem.nil.push (.cells 23 [.lit (.int .i64 0), .lit (.int .i64 0)]))) ?_ ?_
 · clear H
   have H := H8779
   clear H8779
   refine WP.region ?_
   refine WPL.q (q_mv (v := .lit (.int _ _)) rfl) rfl ?_
   refine WPL.q (q_neq rfl rfl) rfl ?_
   refine WPL.q (q_mv (v := .lit (.bool _)) rfl) rfl ?_
   refine WPL.split (t := 8) (b := (!decide (x8742 = 0))) rfl (fun hb8777 => ?_) (fun hb8777 => ?_)
   · replace H := cnt hb8777 H
     refine WPL.qg rfl rfl (lb hb8777) (q_mv (v := .lit (.int _ _)) rfl) rfl ?_
     refine WPL.qg rfl rfl (lb hb8777) (q_lss rfl rfl) rfl ?_
     refine WPL.qg rfl rfl (lb hb8777) (q_mv (v := .lit (.bool _)) rfl) rfl ?_
     refine WPL.split (t := 11) (b := (decide (x8743 < (-100)))) rfl (fun hb8778 => ?_) (fun hb8778 => ?_)
     · replace H := cnt hb8778 H
       refine WPL.skipg (b' := true) rfl rfl (lb hb8778) rfl rfl ?_
       refine WPL.skipg (b' := true) rfl rfl (lb hb8778) rfl rfl ?_
       refine WPL.qg rfl rfl (lb hb8777) (q_pickT (v := .lit (.bool _)) (lb hb8778) rfl) rfl ?_
       refine WPL.q (q_pickT (v := .lit (.bool _)) (lb hb8777) rfl) rfl ?_
       refine WPL.nilW ?_
       have q0 := (Option.some.inj H)
       subst q0
       exact W.wk [0] hnp ⟨rfl, rfl, rfl⟩ ⟨rfl, ⟨trivial, .inr ⟨rfl, rfl, rfl⟩⟩, by decide, rfl, trivial⟩ (LeE.upd rfl rfl (LeE.upd rfl rfl (LeE.upd rfl rfl (LeE.upd rfl rfl (LeE.none rfl rfl))))) rfl
     replace H := cnf hb8778 H
     refine WPL.qg rfl rfl (lb hb8778) (q_mv (v := .lit (.int _ _)) rfl) rfl ?_
     refine WPL.qg rfl rfl (lb hb8778) (q_gtr rfl rfl) rfl ?_
     refine WPL.qg rfl rfl (lb hb8777) (q_pickF (v := .lit (.bool _)) (lb hb8778) rfl) rfl ?_
     refine WPL.q (q_pickT (v := .lit (.bool _)) (lb hb8777) rfl) rfl ?_
     refine WPL.nilW ?_
     have q0 := (Option.some.inj H)
     subst q0
     exact W.wk [0] hnp ⟨rfl, rfl, rfl⟩ ⟨rfl, ⟨trivial, .inr ⟨rfl, rfl, rfl⟩⟩, by decide, rfl, trivial⟩ (LeE.upd rfl rfl (LeE.upd rfl rfl (LeE.upd rfl rfl (LeE.upd rfl rfl (LeE.none rfl rfl))))) rfl
   replace H := cnf hb8777 H
   refine WPL.skipg (b' := false) rfl rfl (lb hb8777) rfl rfl ?_
   refine WPL.skipg (b' := false) rfl rfl (lb hb8777) rfl rfl ?_
   refine WPL.skipg (b' := false) rfl rfl (lb hb8777) rfl rfl ?_
   refine WPL.skipu rfl rfl rfl rfl ?_
   refine WPL.skipu rfl rfl rfl rfl ?_
   refine WPL.skipg (b' := false) rfl rfl (lb hb8777) rfl rfl ?_
   refine WPL.q (q_pickF (v := .lit (.bool _)) (lb hb8777) rfl) rfl ?_
   refine WPL.nilW ?_
   have q0 := (Option.some.inj H)
   subst q0
   exact W.wk [0] hnp ⟨rfl, rfl, rfl⟩ ⟨rfl, ⟨trivial, .inr ⟨rfl, rfl, rfl⟩⟩, by decide, rfl, trivial⟩ (LeE.upd rfl rfl (LeE.upd rfl rfl (LeE.upd rfl rfl (LeE.upd rfl rfl (LeE.none rfl rfl))))) rfl
 rintro _ _ _ ⟨rfl, rfl, rfl⟩
 refine W.now ?_
 refine Then.n ?_
 refine WP.cond (t := x8777) rfl (fun hb8780 => ?_) (fun hb8780 => ?_)
 · replace H := cnt hb8780 H
   refine WP.seq ?_
   refine WP.region ?_
   refine WPL.q (q_build bu23 rfl) rfl ?_
   refine WPL.s (s_store sz23 rfl rfl rfl rfl rfl) ?_
   refine WPL.q (q_as (v := .lit (.int _ _)) rfl) rfl ?_
   refine WPL.nilW ?_
   refine W.now ?_
   refine Then.n ?_
   refine WP.retW ?_
   have q0 := (Prod.mk.inj (Option.some.inj H)).1
   have q1 := (Prod.mk.inj (Prod.mk.inj (Option.some.inj H)).2).1
   have q2 := (Prod.mk.inj (Prod.mk.inj (Option.some.inj H)).2).2
   subst q0
   subst q1
   subst q2
   exact W.now (Then.r (BodyR.mkR trivial rfl [0] ⟨rfl, rfl⟩ ⟨rfl, ⟨trivial, .inr ⟨rfl, rfl, rfl⟩⟩, by decide, rfl, trivial⟩ rfl rfl))
 replace H := cnf hb8780 H
 refine WP.skipW ?_
 refine W.now ?_
 refine Then.n ?_
 refine WP.seq ?_
 refine WP.region ?_
 refine WPL.q (q_mv (v := .lit (.int _ _)) rfl) rfl ?_
 refine WPL.q (q_lss rfl rfl) rfl ?_
 refine WPL.q (q_mv (v := .lit (.int _ _)) rfl) rfl ?_
 obtain ⟨x8783, h8781, H⟩ := bnd H
 refine WPL.c (runs_call (s := []) (t := []) (N := 1) (bor := []) fn28 rfl (s_dec_size k x8742 x8783 h8781) ⟨rfl, trivial, by decide, rfl, trivial⟩ rfl trivial (.ren rfl rfl .nil) rfl trivial rfl) rfl ?_
 refine WPL.q (q_build bu43 rfl) rfl ?_
 refine WPL.q (q_mv (v := .lit (.int _ _)) rfl) rfl ?_
 refine WPL.q (q_build bu47 rfl) rfl ?_
 obtain ⟨⟨x8785, x8786, x8787⟩, h8783, H⟩ := bnd H
 refine WPL.c (runs_call (s := []) (t := [1]) (N := 2) (bor := []) fn31 rfl (s_dec_num_tell k (decide (x8742 < 0)) 0 x8783 x8743 x8785 x8786 x8787 h8783) ⟨rfl, trivial, by decide, rfl, trivial⟩ rfl trivial (.ren rfl rfl .nil) rfl ⟨trivial, rfl⟩ rfl) rfl ?_
 refine WPL.q (q_extract rfl rfl) rfl ?_
 refine WPL.q (q_extract rfl rfl) rfl ?_
 refine WPL.s (s_store sz23 rfl rfl rfl rfl rfl) ?_
 refine WPL.q (q_as (v := .lit (.int _ _)) rfl) rfl ?_
 refine WPL.nilW ?_
 refine W.now ?_
 refine Then.n ?_
 refine WP.retW ?_
 have q0 := (Prod.mk.inj (Option.some.inj H)).1
 have q1 := (Prod.mk.inj (Prod.mk.inj (Option.some.inj H)).2).1
 have q2 := (Prod.mk.inj (Prod.mk.inj (Option.some.inj H)).2).2
 subst q0
 subst q1
 subst q2
 exact W.now (BodyR.mkR trivial rfl [0] ⟨rfl, rfl⟩ ⟨rfl, ⟨trivial, .inr ⟨rfl, rfl, rfl⟩⟩, by decide, rfl, trivial⟩ rfl rfl)
set_option maxRecDepth 100000 in
set_option maxHeartbeats 4000000 in
theorem s_math_bits_Mul (k : Nat) (x8866 : Int) (x8867 : Int) (x8871 : Int) (H : g_math_bits_Mul k x8866 x8867 = some x8871) : Go.Q.Spec Try.prog 70 0 [.lit (.int .u64 x8866), .lit (.int .u64 x8867)] Mem.nil (fun o M => o = .ret (.tup [.lit (.int .u64 x8871), .lit (.int .u64 (IntKind.wrap .u64 (x8866 * x8867)))]) ∧ M = Mem.nil) := by
 unfold g_math_bits_Mul at H
 refine Go.Q.Spec.of_bodyR (az := []) (rs := [.tmp 4, .tmp 5]) (nt := 30) Try.func70 rfl rfl (by intro t T h; simp at h) rfl rfl fun cx hnp => ?_
 refine WP.seq ?_
 refine WP.region ?_
 refine WPL.q (q_as (v := .lit (.int _ _)) rfl) rfl ?_
 refine WPL.q (q_as (v := .lit (.int _ _)) rfl) rfl ?_
 refine WPL.nilW ?_
 refine W.now ?_
 refine Then.n ?_
 refine WP.seq ?_
 refine WP.condF rfl ?_
 refine WP.skipW ?_
 refine W.now ?_
 refine Then.n ?_
 refine WP.seq ?_
 refine WP.region ?_
 refine WPL.q (q_mv (v := .lit (.int _ _)) rfl) rfl ?_
 refine WPL.q (q_mv (v := .lit (.int _ _)) rfl) rfl ?_
 obtain ⟨x8873, h8871, H⟩ := bnd H
 refine WPL.c (runs_call (s := []) (t := []) (N := 0) (bor := []) fn53 rfl (s_math_bits_Mul64 k x8866 x8867 x8873 h8871) ⟨rfl, trivial, by decide, rfl, trivial⟩ rfl trivial (.ren rfl rfl (.ren rfl rfl .nil)) rfl trivial rfl) rfl ?_
 refine WPL.q (q_mv (v := .tup _) rfl) rfl ?_
 refine WPL.q (q_extract rfl rfl) rfl ?_
 refine WPL.q (q_extract rfl rfl) rfl ?_
 refine WPL.q (q_as (v := .lit (.int _ _)) rfl) rfl ?_
 refine WPL.q (q_as (v := .lit (.int _ _)) rfl) rfl ?_
 refine WPL.nilW ?_
 refine W.now ?_
 refine Then.n ?_
 refine WP.seq ?_
 refine WP.region ?_
 refine WPL.q (q_mv (v := .lit (.int _ _)) rfl) rfl ?_
 refine WPL.q (q_mv (v := .lit (.int _ _)) rfl) rfl ?_
 refine WPL.q (q_as (v := .lit (.int _ _)) rfl) rfl ?_
 refine WPL.q (q_as (v := .lit (.int _ _)) rfl) rfl ?_
 refine WPL.nilW ?_
 refine W.now ?_
 refine Then.n ?_
 refine WP.retW ?_
 have q0 := (Option.some.inj H)
 subst q0
 exact W.now (BodyR.mkR trivial rfl [] ⟨rfl, rfl⟩ ⟨rfl, trivial, by decide, rfl, trivial⟩ rfl rfl)
set_option maxRecDepth 100000 in
set_option maxHeartbeats 4000000 in
theorem s_internal_stringslite_HasPrefix (k : Nat) (x8911 : ByteArray) (x8912 : ByteArray) (x8924 : Bool) (H : g_internal_stringslite_HasPrefix k x8911 x8912 = some x8924) : Go.Q.Spec Try.prog 78 0 [.lit (.string x8911), .lit (.string x8912)] Mem.nil (fun o M => o = .ret (.lit (.bool x8924)) ∧ M = Mem.nil) := by
 unfold g_internal_stringslite_HasPrefix at H
 refine Go.Q.Spec.of_bodyR (az := []) (rs := [.tmp 4]) (nt := 18) Try.func78 rfl rfl (by intro t T h; simp at h) rfl rfl fun cx hnp => ?_
 refine WP.seq ?_
 refine WP.region ?_
 refine WPL.q (q_as (v := .lit (.bool _)) rfl) rfl ?_
 refine WPL.nilW ?_
 refine W.now ?_
 refine Then.n ?_
 refine WP.seq ?_
 obtain ⟨x8929, H8933, H⟩ := bnd H
 refine WP.monoW (Q := fun x E M => x = .normal ∧ E = (Env.none.upd 4 (.lit (.bool x8929))) ∧ M = Mem.nil) ?_ ?_
 · clear H
   have H := H8933
   clear H8933
   refine WP.region ?_
   refine WPL.q (q_mv (v := .lit (.string _)) rfl) rfl ?_
   refine WPL.q (q_len_str Try.underlying9 rfl) rfl ?_
   refine WPL.q (q_mv (v := .lit (.string _)) rfl) rfl ?_
   refine WPL.q (q_len_str Try.underlying9 rfl) rfl ?_
   obtain ⟨x8930, h8930, H⟩ := bnd H
   refine WPL.q (q_nm (q_geq rfl rfl) (nm_bool h8930)) rfl ?_
   refine WPL.q (q_mv (v := .lit (.bool _)) rfl) rfl ?_
   refine WPL.split (t := 10) (b := x8930) rfl (fun hb8930 => ?_) (fun hb8930 => ?_)
   · replace H := cnt hb8930 H
     refine WPL.qg rfl rfl (lb hb8930) (q_mv (v := .lit (.string _)) rfl) rfl ?_
     refine WPL.qg rfl rfl (lb hb8930) (q_mv (v := .lit (.string _)) rfl) rfl ?_
     refine WPL.qg rfl rfl (lb hb8930) (q_len_str Try.underlying9 rfl) rfl ?_
     obtain ⟨h8931, H⟩ := grd H
     obtain ⟨x8933, h8933, H⟩ := bnd H
     refine WPL.qg rfl rfl (lb hb8930) (q_nm (q_slice_str (i := 0) (j := ((ByteArray.size x8912 : Nat) : Int)) Try.underlying9 rfl rfl ⟨_, rfl⟩ h8931) (nm_str h8933)) rfl ?_
     refine WPL.qg rfl rfl (lb hb8930) (q_mv (v := .lit (.string _)) rfl) rfl ?_
     refine WPL.qg rfl rfl (lb hb8930) (q_eqls rfl rfl) rfl ?_
     refine WPL.q (q_pickT (v := .lit (.bool _)) (lb hb8930) rfl) rfl ?_
     refine WPL.q (q_as (v := .lit (.bool _)) rfl) rfl ?_
     refine WPL.nilW ?_
     have q0 := (Option.some.inj H)
     subst q0
     exact W.wk [] hnp ⟨rfl, rfl, rfl⟩ ⟨rfl, trivial, by decide, rfl, trivial⟩ (LeE.upd rfl rfl (LeE.none rfl rfl)) rfl
   replace H := cnf hb8930 H
   refine WPL.skipg (b' := false) rfl rfl (lb hb8930) rfl rfl ?_
   refine WPL.skipg (b' := false) rfl rfl (lb hb8930) rfl rfl ?_
   refine WPL.skipg (b' := false) rfl rfl (lb hb8930) rfl rfl ?_
   refine WPL.skipg (b' := false) rfl rfl (lb hb8930) rfl rfl ?_
   refine WPL.skipg (b' := false) rfl rfl (lb hb8930) rfl rfl ?_
   refine WPL.skipg (b' := false) rfl rfl (lb hb8930) rfl rfl ?_
   refine WPL.q (q_pickF (v := .lit (.bool _)) (lb hb8930) rfl) rfl ?_
   refine WPL.q (q_as (v := .lit (.bool _)) rfl) rfl ?_
   refine WPL.nilW ?_
   have q0 := (Option.some.inj H)
   subst q0
   exact W.wk [] hnp ⟨rfl, rfl, rfl⟩ ⟨rfl, trivial, by decide, rfl, trivial⟩ (LeE.upd rfl rfl (LeE.none rfl rfl)) rfl
 rintro _ _ _ ⟨rfl, rfl, rfl⟩
 refine W.now ?_
 refine Then.n ?_
 refine WP.retW ?_
 have q0 := (Option.some.inj H)
 subst q0
 exact W.now (BodyR.mkR trivial rfl [] ⟨rfl, rfl⟩ ⟨rfl, trivial, by decide, rfl, trivial⟩ rfl rfl)
set_option maxRecDepth 100000 in
set_option maxHeartbeats 4000000 in
theorem s_strings_HasPrefix (k : Nat) (x8908 : ByteArray) (x8909 : ByteArray) (x8937 : Bool) (H : g_strings_HasPrefix k x8908 x8909 = some x8937) : Go.Q.Spec Try.prog 71 0 [.lit (.string x8908), .lit (.string x8909)] Mem.nil (fun o M => o = .ret (.lit (.bool x8937)) ∧ M = Mem.nil) := by
 unfold g_strings_HasPrefix at H
 refine Go.Q.Spec.of_bodyR (az := []) (rs := [.tmp 4]) (nt := 8) Try.func71 rfl rfl (by intro t T h; simp at h) rfl rfl fun cx hnp => ?_
 refine WP.seq ?_
 refine WP.region ?_
 refine WPL.q (q_as (v := .lit (.bool _)) rfl) rfl ?_
 refine WPL.nilW ?_
 refine W.now ?_
 refine Then.n ?_
 refine WP.seq ?_
 refine WP.region ?_
 refine WPL.q (q_mv (v := .lit (.string _)) rfl) rfl ?_
 refine WPL.q (q_mv (v := .lit (.string _)) rfl) rfl ?_
 obtain ⟨x8939, h8937, H⟩ := bnd H
 refine WPL.c (runs_call (s := []) (t := []) (N := 0) (bor := []) fn78 rfl (s_internal_stringslite_HasPrefix k x8908 x8909 x8939 h8937) ⟨rfl, trivial, by decide, rfl, trivial⟩ rfl trivial (.ren rfl rfl (.ren rfl rfl .nil)) rfl trivial rfl) rfl ?_
 refine WPL.q (q_as (v := .lit (.bool _)) rfl) rfl ?_
 refine WPL.nilW ?_
 refine W.now ?_
 refine Then.n ?_
 refine WP.retW ?_
 have q0 := (Option.some.inj H)
 subst q0
 exact W.now (BodyR.mkR trivial rfl [] ⟨rfl, rfl⟩ ⟨rfl, trivial, by decide, rfl, trivial⟩ rfl rfl)
set_option maxRecDepth 100000 in
set_option maxHeartbeats 4000000 in
theorem s_strings_Builder_copyCheck (k : Nat) (H : g_strings_Builder_copyCheck k = some ()) : Go.Q.Spec Try.prog 79 1 [.ptr 0 0] (Mem.nil.push (.cells 101 [.lit (.pointer none), .lit (.slice none 0 0)])) (fun o M => o = .ret (.tup []) ∧ M = (Mem.nil.push (.cells 101 [.ptr 0 0, .lit (.slice none 0 0)]))) := by
 unfold g_strings_Builder_copyCheck at H
 refine Go.Q.Spec.of_bodyR (az := []) (rs := []) (nt := 20) Try.func79 rfl rfl (by intro t T h; simp at h) rfl rfl fun cx hnp => ?_
 refine WP.seq ?_
 refine WP.region ?_
 refine WPL.q (q_mv (v := .ptr _ _) rfl) rfl ?_
 refine WPL.q (q_nilCheck rfl) rfl ?_
 refine WPL.q (q_fieldAddr fi101_0 rfl rfl) rfl ?_
 refine WPL.q (q_load sc99 rfl rfl rfl) rfl ?_
 refine WPL.q (q_eqlp_nil Try.underlying99 rfl) rfl ?_
 refine WPL.nilW ?_
 refine W.now ?_
 refine Then.n ?_
 refine WP.condT rfl ?_
 refine WP.region ?_
 refine WPL.q (q_mv (v := .ptr _ _) rfl) rfl ?_
 refine WPL.q (q_mv (v := .ptr _ _) rfl) rfl ?_
 refine WPL.q (q_toUnsafe Try.underlying99 Try.underlying111 in101 rfl rfl rfl) rfl ?_
 refine WPL.q (q_noEscape ex81 rfl (v := .ptr _ _) rfl) rfl ?_
 refine WPL.q (q_fromUnsafe Try.underlying111 Try.underlying99 te101 rfl rfl (by kernel_rfl)) rfl ?_
 refine WPL.q (q_nilCheck rfl) rfl ?_
 refine WPL.q (q_fieldAddr fi101_0 rfl rfl) rfl ?_
 refine WPL.s (s_store sz99 rfl rfl rfl rfl rfl) ?_
 refine WPL.nilW ?_
 exact W.now (BodyR.mkN trivial rfl [0] ⟨rfl, rfl⟩ ⟨rfl, ⟨trivial, .inr ⟨rfl, rfl, rfl⟩⟩, by decide, rfl, ⟨trivial, rfl⟩⟩ rfl rfl)
set_option maxRecDepth 100000 in
set_option maxHeartbeats 4000000 in
theorem s_strings_Builder_grow (k : Nat) (x9085 : Int) (H : g_strings_Builder_grow k x9085 = some ()) : Go.Q.Spec Try.prog 80 1 [.ptr 0 0, .lit (.int .i64 x9085)] (Mem.nil.push (.cells 101 [.ptr 0 0, .lit (.slice none 0 0)])) (fun o M => o = .ret (.tup []) ∧ M = ((Mem.nil.push (.cells 101 [.ptr 0 0, .whole 1])).push (.row 5 (Rd.int .u8) ([] : List Int)))) := by
 unfold g_strings_Builder_grow at H
 refine Go.Q.Spec.of_bodyR (az := []) (rs := []) (nt := 30) Try.func80 rfl rfl (by intro t T h; simp at h) rfl rfl fun cx hnp => ?_
 refine WP.seq ?_
 refine WP.regionD' 16 [0] [] mixed rfl ?_
 refine WPD.takeT 0 rfl (by kernel_rfl) (q_mv (v := .ptr _ _) rfl) rfl ?_
 refine WPD.takeT 1 rfl (by kernel_rfl) (q_nilCheck rfl) rfl ?_
 refine WPD.takeT 2 rfl (by kernel_rfl) (q_fieldAddr fi101_1 rfl rfl) rfl ?_
 refine WPD.takeT 6 rfl (by kernel_rfl) (q_mv (v := .lit (.int _ _)) rfl) rfl ?_
 refine WPD.takeT 9 rfl (by kernel_rfl) (q_mv (v := .ptr _ _) rfl) rfl ?_
 refine WPD.takeT 10 rfl (by kernel_rfl) (q_nilCheck rfl) rfl ?_
 refine WPD.takeT 11 rfl (by kernel_rfl) (q_fieldAddr fi101_1 rfl rfl) rfl ?_
 refine WPD.take 3 rfl (by kernel_rfl) (q_load sc89 rfl rfl rfl) rfl rfl ?_
 refine WPD.takeT 4 rfl (by kernel_rfl) (q_cap_nil Try.underlying89 rfl) rfl ?_
 refine WPD.takeT 5 rfl (by kernel_rfl) (q_mul rfl rfl) rfl ?_
 obtain ⟨x9100, h9100, H⟩ := bnd H
 refine WPD.takeT 7 rfl (by kernel_rfl) (q_nm (q_add rfl rfl) (nm_int h9100)) rfl ?_
 refine WPD.take 12 rfl (by kernel_rfl) (q_load sc89 rfl rfl rfl) rfl rfl ?_
 refine WPD.takeT 13 rfl (by kernel_rfl) (q_len_nil sl89 rfl) rfl ?_
 obtain ⟨h9100, H⟩ := grd H
 refine WPD.eff 8 [0] [] rfl (by kernel_rfl) (Does.runs (d_makeNoZero ex82 Try.underlying89 rfl rfl h9100 rfl)) rfl rfl ?_
 obtain ⟨h9102, H⟩ := grd H
 refine WPD.eff 14 [0] [] rfl (by kernel_rfl) (Does.runs (d_cut sl89 rfl rfl rfl h9102 rfl)) rfl rfl ?_
 refine WPD.takeT 15 rfl (by kernel_rfl) (q_as (v := .whole _) rfl) rfl ?_
 refine WPD.doneW (by kernel_rfl) ?_
 refine W.now ?_
 refine Then.n ?_
 refine WP.seq ?_
 refine WP.region ?_
 refine WPL.q (q_mv (v := .whole _) rfl) rfl ?_
 refine WPL.q (q_mv (v := .ptr _ _) rfl) rfl ?_
 refine WPL.q (q_nilCheck rfl) rfl ?_
 refine WPL.q (q_fieldAddr fi101_1 rfl rfl) rfl ?_
 refine WPL.q (q_load sc89 rfl rfl rfl) rfl ?_
 obtain ⟨h9103, H⟩ := grd H
 refine WPL.d (d_copyAll sl89 rfl rfl rfl rfl (src_nil (R := (Rd.int .u8)) sl89 rfl) h9103) rfl ?_
 refine WPL.nilW ?_
 refine W.now ?_
 refine Then.n ?_
 refine WP.region ?_
 refine WPL.q (q_mv (v := .ptr _ _) rfl) rfl ?_
 refine WPL.q (q_mv (v := .whole _) rfl) rfl ?_
 refine WPL.q (q_nilCheck rfl) rfl ?_
 refine WPL.q (q_fieldAddr fi101_1 rfl rfl) rfl ?_
 refine WPL.s (s_store sz89 rfl rfl rfl rfl rfl) ?_
 refine WPL.nilW ?_
 exact W.now (BodyR.mkN trivial rfl [0, 2] ⟨rfl, rfl⟩ ⟨rfl, ⟨⟨trivial, .inr ⟨rfl, rfl, rfl⟩⟩, .inr ⟨rfl, rfl, rfl⟩⟩, by decide, rfl, ⟨trivial, rfl⟩⟩ rfl rfl)
set_option maxRecDepth 100000 in
set_option maxHeartbeats 4000000 in
theorem s_strings_Builder_Grow (k : Nat) (x9076 : Int) (H : g_strings_Builder_Grow k x9076 = some ()) : Go.Q.Spec Try.prog 72 1 [.ptr 0 0, .lit (.int .i64 x9076)] (Mem.nil.push (.cells 101 [.lit (.pointer none), .lit (.slice none 0 0)])) (fun o M => o = .ret (.tup []) ∧ M = ((Mem.nil.push (.cells 101 [.ptr 0 0, .whole 1])).push (.row 5 (Rd.int .u8) ([] : List Int)))) := by
 unfold g_strings_Builder_Grow at H
 refine Go.Q.Spec.of_bodyR (az := []) (rs := []) (nt := 25) Try.func72 rfl rfl (by intro t T h; simp at h) rfl rfl fun cx hnp => ?_
 refine WP.seq ?_
 refine WP.region ?_
 refine WPL.q (q_mv (v := .ptr _ _) rfl) rfl ?_
 obtain ⟨_, h9105, H⟩ := bnd H
 refine WPL.c (runs_call (s := [0]) (t := [0]) (N := 1) (bor := []) fn79 rfl (s_strings_Builder_copyCheck k h9105) ⟨rfl, ⟨trivial, .inr ⟨rfl, rfl, rfl⟩⟩, by decide, rfl, trivial⟩ rfl trivial (.ren rfl rfl .nil) rfl ⟨trivial, rfl⟩ rfl) rfl ?_
 refine WPL.nilW ?_
 refine W.now ?_
 refine Then.n ?_
 refine WP.seq ?_
 refine WP.seq ?_
 refine WP.region ?_
 refine WPL.q (q_mv (v := .lit (.int _ _)) rfl) rfl ?_
 refine WPL.q (q_lss rfl rfl) rfl ?_
 refine WPL.nilW ?_
 refine W.now ?_
 refine Then.n ?_
 refine WP.cond (t := (decide (x9076 < 0))) rfl (fun hb9107 => ?_) (fun hb9107 => ?_)
 · replace H := cnt hb9107 H
   refine WP.region ?_
   refine WPL.q (q_mki cn9) rfl ?_
   exact nf rfl H
 replace H := cnf hb9107 H
 refine WP.skipW ?_
 refine W.now ?_
 refine Then.n ?_
 refine WP.seq ?_
 refine WP.regionD' 13 [0] [] mixed rfl ?_
 refine WPD.takeT 0 rfl (by kernel_rfl) (q_mv (v := .ptr _ _) rfl) rfl ?_
 refine WPD.takeT 1 rfl (by kernel_rfl) (q_nilCheck rfl) rfl ?_
 refine WPD.takeT 2 rfl (by kernel_rfl) (q_fieldAddr fi101_1 rfl rfl) rfl ?_
 refine WPD.takeT 5 rfl (by kernel_rfl) (q_mv (v := .ptr _ _) rfl) rfl ?_
 refine WPD.takeT 6 rfl (by kernel_rfl) (q_nilCheck rfl) rfl ?_
 refine WPD.takeT 7 rfl (by kernel_rfl) (q_fieldAddr fi101_1 rfl rfl) rfl ?_
 refine WPD.takeT 11 rfl (by kernel_rfl) (q_mv (v := .lit (.int _ _)) rfl) rfl ?_
 refine WPD.take 3 rfl (by kernel_rfl) (q_load sc89 rfl rfl rfl) rfl rfl ?_
 refine WPD.takeT 4 rfl (by kernel_rfl) (q_cap_nil Try.underlying89 rfl) rfl ?_
 refine WPD.take 8 rfl (by kernel_rfl) (q_load sc89 rfl rfl rfl) rfl rfl ?_
 refine WPD.takeT 9 rfl (by kernel_rfl) (q_len_nil sl89 rfl) rfl ?_
 refine WPD.takeT 10 rfl (by kernel_rfl) (q_sub rfl rfl) rfl ?_
 obtain ⟨x9110, h9110, H⟩ := bnd H
 refine WPD.takeT 12 rfl (by kernel_rfl) (q_nm (q_lss rfl rfl) (nm_bool h9110)) rfl ?_
 refine WPD.doneW (by kernel_rfl) ?_
 refine W.now ?_
 refine Then.n ?_
 refine WP.cond (t := x9110) rfl (fun hb9110 => ?_) (fun hb9110 => ?_)
 · replace H := cnt hb9110 H
   refine WP.region ?_
   refine WPL.q (q_mv (v := .ptr _ _) rfl) rfl ?_
   refine WPL.q (q_mv (v := .lit (.int _ _)) rfl) rfl ?_
   obtain ⟨_, h9111, H⟩ := bnd H
   refine WPL.c (runs_call (s := [0]) (t := [0, 1]) (N := 2) (bor := []) fn80 rfl (s_strings_Builder_grow k x9076 h9111) ⟨rfl, ⟨trivial, .inr ⟨rfl, rfl, rfl⟩⟩, by decide, rfl, trivial⟩ rfl trivial (.ren rfl rfl (.ren rfl rfl .nil)) rfl ⟨⟨trivial, rfl⟩, rfl⟩ rfl) rfl ?_
   refine WPL.nilW ?_
   exact W.now (BodyR.mkN trivial rfl [0, 1] ⟨rfl, rfl⟩ ⟨rfl, ⟨⟨trivial, .inr ⟨rfl, rfl, rfl⟩⟩, .inr ⟨rfl, rfl, rfl⟩⟩, by decide, rfl, ⟨trivial, rfl⟩⟩ rfl rfl)
 replace H := cnf hb9110 H
 refine WP.skipW ?_
 refine W.cv (Cv.virC 5 (Rd.int .u8) (N := 1) rfl rfl (i := 0) (off := 1) rfl rfl) rfl ?_
 exact W.now (BodyR.mkN trivial rfl [0, 1] ⟨rfl, rfl⟩ ⟨rfl, ⟨⟨trivial, .inr ⟨rfl, rfl, rfl⟩⟩, .inr ⟨rfl, rfl, rfl⟩⟩, by decide, rfl, ⟨trivial, rfl⟩⟩ rfl rfl)
set_option maxRecDepth 100000 in
set_option maxHeartbeats 4000000 in
theorem s_strings_Builder_copyCheck__b (k : Nat) (x9117 : (List Int)) (H : g_strings_Builder_copyCheck__b k x9117 = some ()) : Go.Q.Spec Try.prog 79 1 [.ptr 0 0] ((Mem.nil.push (.cells 101 [.ptr 0 0, .whole 1])).push (.row 5 (Rd.int .u8) x9117)) (fun o M => o = .ret (.tup []) ∧ M = ((Mem.nil.push (.cells 101 [.ptr 0 0, .whole 1])).push (.row 5 (Rd.int .u8) x9117))) := by
 unfold g_strings_Builder_copyCheck__b at H
 refine Go.Q.Spec.of_bodyR (az := []) (rs := []) (nt := 20) Try.func79 rfl rfl (by intro t T h; simp at h) rfl rfl fun cx hnp => ?_
 refine WP.seq ?_
 refine WP.region ?_
 refine WPL.q (q_mv (v := .ptr _ _) rfl) rfl ?_
 refine WPL.q (q_nilCheck rfl) rfl ?_
 refine WPL.q (q_fieldAddr fi101_0 rfl rfl) rfl ?_
 refine WPL.q (q_load sc99 rfl rfl rfl) rfl ?_
 refine WPL.q (q_eqlp Try.underlying99 rfl) rfl ?_
 refine WPL.nilW ?_
 refine W.now ?_
 refine Then.n ?_
 refine WP.condF rfl ?_
 refine WP.seq ?_
 refine WP.region ?_
 refine WPL.q (q_mv (v := .ptr _ _) rfl) rfl ?_
 refine WPL.q (q_nilCheck rfl) rfl ?_
 refine WPL.q (q_fieldAddr fi101_0 rfl rfl) rfl ?_
 refine WPL.q (q_load sc99 rfl rfl rfl) rfl ?_
 refine WPL.q (q_mv (v := .ptr _ _) rfl) rfl ?_
 refine WPL.q (q_neqpSelf Try.underlying99 te101 rfl rfl) rfl ?_
 refine WPL.nilW ?_
 refine W.now ?_
 refine Then.n ?_
 refine WP.condF rfl ?_
 refine WP.skipW ?_
 exact W.now (BodyR.mkN trivial rfl [0, 1] ⟨rfl, rfl⟩ ⟨rfl, ⟨⟨trivial, .inr ⟨rfl, rfl, rfl⟩⟩, .inr ⟨rfl, rfl, rfl⟩⟩, by decide, rfl, ⟨trivial, rfl⟩⟩ rfl rfl)
set_option maxRecDepth 100000 in
set_option maxHeartbeats 4000000 in
theorem s_strings_Builder_WriteString (k : Nat) (x9114 : ByteArray) (x9115 : (List Int)) (H : g_strings_Builder_WriteString k x9114 x9115 = some ()) : Go.Q.Spec Try.prog 73 1 [.ptr 0 0, .lit (.string x9114)] ((Mem.nil.push (.cells 101 [.ptr 0 0, .whole 1])).push (.row 5 (Rd.int .u8) x9115)) (fun o M => o = .ret (.tup [.lit (.int .i64 ((ByteArray.size x9114 : Nat) : Int)), .lit .nilIface]) ∧ M = ((Mem.nil.push (.cells 101 [.ptr 0 0, .whole 1])).push (.row 5 (Rd.int .u8) (x9115 ++ (strInts x9114))))) := by
 unfold g_strings_Builder_WriteString at H
 refine Go.Q.Spec.of_bodyR (az := []) (rs := [.tmp 4, .tmp 5]) (nt := 19) Try.func73 rfl rfl (by intro t T h; simp at h) rfl rfl fun cx hnp => ?_
 refine WP.seq ?_
 refine WP.region ?_
 refine WPL.q (q_as (v := .lit (.int _ _)) rfl) rfl ?_
 refine WPL.q (q_as (v := .lit _) rfl) rfl ?_
 refine WPL.nilW ?_
 refine W.now ?_
 refine Then.n ?_
 refine WP.seq ?_
 refine WP.region ?_
 refine WPL.q (q_mv (v := .ptr _ _) rfl) rfl ?_
 obtain ⟨_, h9120, H⟩ := bnd H
 refine WPL.c (runs_call (s := [0, 1]) (t := [0, 2]) (N := 3) (bor := []) fn79 rfl (s_strings_Builder_copyCheck__b k x9115 h9120) ⟨rfl, ⟨⟨trivial, .inr ⟨rfl, rfl, rfl⟩⟩, .inr ⟨rfl, rfl, rfl⟩⟩, by decide, rfl, trivial⟩ rfl trivial (.ren rfl rfl .nil) rfl ⟨⟨trivial, rfl⟩, rfl⟩ rfl) rfl ?_
 refine WPL.nilW ?_
 refine W.now ?_
 refine Then.n ?_
 refine WP.seq ?_
 refine WP.region ?_
 refine WPL.q (q_mv (v := .ptr _ _) rfl) rfl ?_
 refine WPL.q (q_mv (v := .ptr _ _) rfl) rfl ?_
 refine WPL.q (q_nilCheck rfl) rfl ?_
 refine WPL.q (q_fieldAddr fi101_1 rfl rfl) rfl ?_
 refine WPL.q (q_load sc89 rfl rfl rfl) rfl ?_
 refine WPL.q (q_mv (v := .lit (.string _)) rfl) rfl ?_
 obtain ⟨h9121, H⟩ := grd H
 refine WPL.d (d_append ap89 rfl rfl rfl rfl (src_str Try.underlying9 rfl) h9121 rfl) rfl ?_
 refine WPL.q (q_nilCheck rfl) rfl ?_
 refine WPL.q (q_fieldAddr fi101_1 rfl rfl) rfl ?_
 refine WPL.s (s_store sz89 rfl rfl rfl rfl rfl) ?_
 refine WPL.nilW ?_
 refine W.now ?_
 refine Then.n ?_
 refine WP.seq ?_
 refine WP.region ?_
 refine WPL.q (q_mv (v := .lit (.string _)) rfl) rfl ?_
 refine WPL.q (q_len_str Try.underlying9 rfl) rfl ?_
 refine WPL.q (q_as (v := .lit (.int _ _)) rfl) rfl ?_
 refine WPL.q (q_as (v := .lit _) rfl) rfl ?_
 refine WPL.nilW ?_
 refine W.now ?_
 refine Then.n ?_
 refine WP.retW ?_
 exact W.now (BodyR.mkR trivial rfl [0, 3] ⟨rfl, rfl⟩ ⟨rfl, ⟨⟨trivial, .inr ⟨rfl, rfl, rfl⟩⟩, .inr ⟨rfl, rfl, rfl⟩⟩, by decide, rfl, ⟨trivial, rfl⟩⟩ rfl rfl)
set_option maxRecDepth 100000 in
set_option maxHeartbeats 4000000 in
theorem s_strings_Builder_Len (k : Nat) (x9124 : (List Int)) (H : g_strings_Builder_Len k x9124 = some ()) : Go.Q.Spec Try.prog 74 1 [.ptr 0 0] ((Mem.nil.push (.cells 101 [.ptr 0 0, .whole 1])).push (.row 5 (Rd.int .u8) x9124)) (fun o M => o = .ret (.lit (.int .i64 ((List.length x9124 : Nat) : Int))) ∧ M = ((Mem.nil.push (.cells 101 [.ptr 0 0, .whole 1])).push (.row 5 (Rd.int .u8) x9124))) := by
 unfold g_strings_Builder_Len at H
 refine Go.Q.Spec.of_bodyR (az := []) (rs := [.tmp 2]) (nt := 8) Try.func74 rfl rfl (by intro t T h; simp at h) rfl rfl fun cx hnp => ?_
 refine WP.seq ?_
 refine WP.region ?_
 refine WPL.q (q_as (v := .lit (.int _ _)) rfl) rfl ?_
 refine WPL.nilW ?_
 refine W.now ?_
 refine Then.n ?_
 refine WP.seq ?_
 refine WP.region ?_
 refine WPL.q (q_mv (v := .ptr _ _) rfl) rfl ?_
 refine WPL.q (q_nilCheck rfl) rfl ?_
 refine WPL.q (q_fieldAddr fi101_1 rfl rfl) rfl ?_
 refine WPL.q (q_load sc89 rfl rfl rfl) rfl ?_
 refine WPL.q (q_len_row sl89 rfl rfl) rfl ?_
 refine WPL.q (q_as (v := .lit (.int _ _)) rfl) rfl ?_
 refine WPL.nilW ?_
 refine W.now ?_
 refine Then.n ?_
 refine WP.retW ?_
 exact W.now (BodyR.mkR trivial rfl [0, 1] ⟨rfl, rfl⟩ ⟨rfl, ⟨⟨trivial, .inr ⟨rfl, rfl, rfl⟩⟩, .inr ⟨rfl, rfl, rfl⟩⟩, by decide, rfl, ⟨trivial, rfl⟩⟩ rfl rfl)
set_option maxRecDepth 100000 in
set_option maxHeartbeats 4000000 in
theorem s_strings_Builder_String (k : Nat) (x9137 : (List Int)) (r : (Unit ⊕ Unit)) (H : g_strings_Builder_String k x9137 = some r) : Go.Q.Spec Try.prog 75 1 [.ptr 0 0] ((Mem.nil.push (.cells 101 [.ptr 0 0, .whole 1])).push (.row 5 (Rd.int .u8) x9137)) (fun o M => match (generalizing := false) r with | (Sum.inl _) => o = .ret (.lit (.string ByteArray.empty)) ∧ M = ((Mem.nil.push (.cells 101 [.ptr 0 0, .whole 1])).push (.row 5 (Rd.int .u8) x9137)) | (Sum.inr _) => o = .ret (.lit (.string (strOf x9137))) ∧ M = ((Mem.nil.push (.cells 101 [.ptr 0 0, .whole 1])).push (.gone))) := by
 unfold g_strings_Builder_String at H
 refine Go.Q.Spec.of_bodyR (az := []) (rs := [.tmp 2]) (nt := 14) Try.func75 rfl rfl (by intro t T h; simp at h) rfl rfl fun cx hnp => ?_
 refine WP.seq ?_
 refine WP.region ?_
 refine WPL.q (q_as (v := .lit (.string _)) rfl) rfl ?_
 refine WPL.nilW ?_
 refine W.now ?_
 refine Then.n ?_
 refine WP.seq ?_
 refine WP.regionD' 12 [0] [] mixed rfl ?_
 refine WPD.takeT 0 rfl (by kernel_rfl) (q_mv (v := .ptr _ _) rfl) rfl ?_
 refine WPD.takeT 1 rfl (by kernel_rfl) (q_nilCheck rfl) rfl ?_
 refine WPD.takeT 2 rfl (by kernel_rfl) (q_fieldAddr fi101_1 rfl rfl) rfl ?_
 refine WPD.takeT 5 rfl (by kernel_rfl) (q_mv (v := .ptr _ _) rfl) rfl ?_
 refine WPD.takeT 6 rfl (by kernel_rfl) (q_nilCheck rfl) rfl ?_
 refine WPD.takeT 7 rfl (by kernel_rfl) (q_fieldAddr fi101_1 rfl rfl) rfl ?_
 refine WPD.take 3 rfl (by kernel_rfl) (q_load sc89 rfl rfl rfl) rfl rfl ?_
 refine WPD.take 8 rfl (by kernel_rfl) (q_load sc89 rfl rfl rfl) rfl rfl ?_
 refine WPD.takeT 9 rfl (by kernel_rfl) (q_len_row sl89 rfl rfl) rfl ?_
 refine WPD.splitB (decide (List.length x9137 = 0)) (fun hb9141 => ?_) (fun hb9141 => ?_)
 · replace H := cnt hb9141 H
   refine WPD.eff 4 [0] [] rfl (by kernel_rfl) (Does.runs (d_sliceData0 Try.underlying110 rfl rfl hb9141)) rfl rfl ?_
   refine WPD.eff 10 [0] [] rfl (by kernel_rfl) (Does.runs (Quiet.does (q_unsafeStr0 rfl rfl (len0 hb9141)))) rfl rfl ?_
   refine WPD.takeT 11 rfl (by kernel_rfl) (q_as (v := .lit (.string _)) rfl) rfl ?_
   refine WPD.doneW (by kernel_rfl) ?_
   refine W.now ?_
   refine Then.n ?_
   refine WP.retW ?_
   have q0 := Option.some.inj H
   subst q0
   exact W.now (BodyR.mkR trivial rfl [0, 1] ⟨rfl, rfl⟩ ⟨rfl, ⟨⟨trivial, .inr ⟨rfl, rfl, rfl⟩⟩, .inr ⟨rfl, rfl, rfl⟩⟩, by decide, rfl, ⟨trivial, rfl⟩⟩ rfl rfl)
 replace H := cnf hb9141 H
 refine WPD.eff 4 [0] [] rfl (by kernel_rfl) (Does.runs (Quiet.does (q_sliceData rfl rfl hb9141))) rfl rfl ?_
 refine WPD.eff 10 [0] [] rfl (by kernel_rfl) (Does.runs (d_unsafeStr Try.underlying110 (by kernel_rfl) rfl rfl rfl hb9141 rfl)) rfl rfl ?_
 refine WPD.takeT 11 rfl (by kernel_rfl) (q_as (v := .lit (.string _)) rfl) rfl ?_
 refine WPD.doneW (by kernel_rfl) ?_
 refine W.now ?_
 refine Then.n ?_
 refine WP.retW ?_
 have q0 := Option.some.inj H
 subst q0
 exact W.now (BodyR.mkR trivial rfl [0, 1] ⟨rfl, rfl⟩ ⟨rfl, ⟨⟨trivial, .inr ⟨rfl, rfl, rfl⟩⟩, .inl rfl⟩, by decide, rfl, ⟨trivial, rfl⟩⟩ rfl rfl)
set_option maxRecDepth 100000 in
set_option maxHeartbeats 4000000 in
theorem s_strings_Repeat (k : Nat) (x8856 : ByteArray) (x8857 : Int) (x9172 : ByteArray) (H : g_strings_Repeat k x8856 x8857 = some x9172) : Go.Q.Spec Try.prog 66 0 [.lit (.string x8856), .lit (.int .i64 x8857)] Mem.nil (fun o M => o = .ret (.lit (.string x9172)) ∧ M = Mem.nil) := by
 unfold g_strings_Repeat at H
 refine Go.Q.Spec.of_bodyR (az := []) (rs := [.tmp 4]) (nt := 125) Try.func66 rfl rfl (by intro t T h; simp at h) rfl rfl fun cx hnp => ?_
 refine WP.seq ?_
 refine WP.region ?_
 refine WPL.q (q_as (v := .lit (.string _)) rfl) rfl ?_
 refine WPL.nilW ?_
 refine W.now ?_
 refine Then.n ?_
 refine WP.seq ?_
 refine WP.seq ?_
 refine WP.region ?_
 refine WPL.q (q_mv (v := .lit (.int _ _)) rfl) rfl ?_
 refine WPL.nilW ?_
 refine W.now ?_
 refine Then.n ?_
 refine WP.block ?_
 refine WP.seq ?_
 refine WP.region ?_
 refine WPL.q (q_eql rfl rfl) rfl ?_
 refine WPL.q (q_as (v := .lit (.bool _)) rfl) rfl ?_
 refine WPL.nilW ?_
 refine W.now ?_
 refine Then.n ?_
 refine WP.cond (t := (decide (x8857 = 0))) rfl (fun hb9174 => ?_) (fun hb9174 => ?_)
 · replace H := cnt hb9174 H
   refine WP.seq ?_
   refine WP.region ?_
   refine WPL.q (q_as (v := .lit (.string _)) rfl) rfl ?_
   refine WPL.nilW ?_
   refine W.now ?_
   refine Then.n ?_
   refine WP.retW ?_
   have q0 := (Option.some.inj H)
   subst q0
   exact W.now (InBlock.r (Then.r (BodyR.mkR trivial rfl [] ⟨rfl, rfl⟩ ⟨rfl, trivial, by decide, rfl, trivial⟩ rfl rfl)))
 replace H := cnf hb9174 H
 refine WP.seq ?_
 refine WP.region ?_
 refine WPL.q (q_eql rfl rfl) rfl ?_
 refine WPL.q (q_as (v := .lit (.bool _)) rfl) rfl ?_
 refine WPL.nilW ?_
 refine W.now ?_
 refine Then.n ?_
 refine WP.cond (t := (decide (x8857 = 1))) rfl (fun hb9175 => ?_) (fun hb9175 => ?_)
 · replace H := cnt hb9175 H
   refine WP.seq ?_
   refine WP.region ?_
   refine WPL.q (q_mv (v := .lit (.string _)) rfl) rfl ?_
   refine WPL.q (q_as (v := .lit (.string _)) rfl) rfl ?_
   refine WPL.nilW ?_
   refine W.now ?_
   refine Then.n ?_
   refine WP.retW ?_
   have q0 := (Option.some.inj H)
   subst q0
   exact W.now (InBlock.r (Then.r (BodyR.mkR trivial rfl [] ⟨rfl, rfl⟩ ⟨rfl, trivial, by decide, rfl, trivial⟩ rfl rfl)))
 replace H := cnf hb9175 H
 refine WP.skipW ?_
 refine W.now ?_
 refine InBlock.n ?_
 refine Then.n ?_
 refine WP.seq ?_
 refine WP.seq ?_
 refine WP.region ?_
 refine WPL.q (q_mv (v := .lit (.int _ _)) rfl) rfl ?_
 refine WPL.q (q_lss rfl rfl) rfl ?_
 refine WPL.nilW ?_
 refine W.now ?_
 refine Then.n ?_
 refine WP.cond (t := (decide (x8857 < 0))) rfl (fun hb9177 => ?_) (fun hb9177 => ?_)
 · replace H := cnt hb9177 H
   refine WP.region ?_
   refine WPL.q (q_mki cn9) rfl ?_
   exact nf rfl H
 replace H := cnf hb9177 H
 refine WP.skipW ?_
 refine W.now ?_
 refine Then.n ?_
 refine WP.seq ?_
 refine WP.region ?_
 refine WPL.q (q_mv (v := .lit (.string _)) rfl) rfl ?_
 refine WPL.q (q_len_str Try.underlying9 rfl) rfl ?_
 obtain ⟨x9179, h9179, H⟩ := bnd H
 refine WPL.q (q_nm (q_conv Try.underlying3 Try.underlying92 rfl) (nm_int h9179)) rfl ?_
 refine WPL.q (q_mv (v := .lit (.int _ _)) rfl) rfl ?_
 refine WPL.q (q_conv Try.underlying3 Try.underlying92 rfl) rfl ?_
 obtain ⟨x9181, h9179, H⟩ := bnd H
 refine WPL.c (runs_call (s := []) (t := []) (N := 0) (bor := []) fn70 rfl (s_math_bits_Mul k x9179 (IntKind.wrap .u64 x8857) x9181 h9179) ⟨rfl, trivial, by decide, rfl, trivial⟩ rfl trivial (.ren rfl rfl (.ren rfl rfl .nil)) rfl trivial rfl) rfl ?_
 refine WPL.q (q_mv (v := .tup _) rfl) rfl ?_
 refine WPL.q (q_extract rfl rfl) rfl ?_
 refine WPL.q (q_extract rfl rfl) rfl ?_
 refine WPL.q (q_as (v := .lit (.int _ _)) rfl) rfl ?_
 refine WPL.q (q_as (v := .lit (.int _ _)) rfl) rfl ?_
 refine WPL.nilW ?_
 refine W.now ?_
 refine Then.n ?_
 refine WP.seq ?_
 refine WP.seq ?_
 obtain ⟨x9191, H9193, H⟩ := bnd H
 refine WP.monoW (Q := fun x E M => x = .normal ∧ E = (((Env.none.upd 0 (.lit (.string x8856))).upd 6 (.lit (.int .u64 (IntKind.wrap .u64 (x9179 * (IntKind.wrap .u64 x8857)))))).upd 34 (.lit (.bool x9191))) ∧ M = Mem.nil) ?_ ?_
 · clear H
   have H := H9193
   clear H9193
   refine WP.region ?_
   refine WPL.q (q_mv (v := .lit (.int _ _)) rfl) rfl ?_
   refine WPL.q (q_gtr rfl rfl) rfl ?_
   refine WPL.q (q_mv (v := .lit (.bool _)) rfl) rfl ?_
   refine WPL.split (t := 31) (b := (decide (0 < x9181))) rfl (fun hb9191 => ?_) (fun hb9191 => ?_)
   · replace H := cnt hb9191 H
     refine WPL.skipg (b' := true) rfl rfl (lb hb9191) rfl rfl ?_
     refine WPL.skipg (b' := true) rfl rfl (lb hb9191) rfl rfl ?_
     refine WPL.q (q_pickT (v := .lit (.bool _)) (lb hb9191) rfl) rfl ?_
     refine WPL.nilW ?_
     have q0 := (Option.some.inj H)
     subst q0
     exact W.wk [] hnp ⟨rfl, rfl, rfl⟩ ⟨rfl, trivial, by decide, rfl, trivial⟩ (LeE.upd rfl rfl (LeE.upd rfl rfl (LeE.upd rfl rfl (LeE.none rfl rfl)))) rfl
   replace H := cnf hb9191 H
   refine WPL.qg rfl rfl (lb hb9191) (q_mv (v := .lit (.int _ _)) rfl) rfl ?_
   obtain ⟨x9193, h9193, H⟩ := bnd H
   refine WPL.qg rfl rfl (lb hb9191) (q_nm (q_gtr rfl rfl) (nm_bool h9193)) rfl ?_
   refine WPL.q (q_pickF (v := .lit (.bool _)) (lb hb9191) rfl) rfl ?_
   refine WPL.nilW ?_
   have q0 := (Option.some.inj H)
   subst q0
   exact W.wk [] hnp ⟨rfl, rfl, rfl⟩ ⟨rfl, trivial, by decide, rfl, trivial⟩ (LeE.upd rfl rfl (LeE.upd rfl rfl (LeE.upd rfl rfl (LeE.none rfl rfl)))) rfl
 rintro _ _ _ ⟨rfl, rfl, rfl⟩
 refine W.now ?_
 refine Then.n ?_
 refine WP.cond (t := x9191) rfl (fun hb9194 => ?_) (fun hb9194 => ?_)
 · replace H := cnt hb9194 H
   refine WP.region ?_
   refine WPL.q (q_mki cn9) rfl ?_
   exact nf rfl H
 replace H := cnf hb9194 H
 refine WP.skipW ?_
 refine W.now ?_
 refine Then.n ?_
 refine WP.seq ?_
 refine WP.region ?_
 refine WPL.q (q_mv (v := .lit (.int _ _)) rfl) rfl ?_
 obtain ⟨x9196, h9196, H⟩ := bnd H
 refine WPL.q (q_nm (q_conv Try.underlying92 Try.underlying3 rfl) (nm_int h9196)) rfl ?_
 refine WPL.q (q_as (v := .lit (.int _ _)) rfl) rfl ?_
 refine WPL.nilW ?_
 refine W.now ?_
 refine Then.n ?_
 refine WP.seq ?_
 refine WP.seq ?_
 refine WP.region ?_
 refine WPL.q (q_mv (v := .lit (.string _)) rfl) rfl ?_
 refine WPL.q (q_len_str Try.underlying9 rfl) rfl ?_
 obtain ⟨x9199, h9199, H⟩ := bnd H
 refine WPL.q (q_nm (q_eql rfl rfl) (nm_bool h9199)) rfl ?_
 refine WPL.nilW ?_
 refine W.now ?_
 refine Then.n ?_
 refine WP.cond (t := x9199) rfl (fun hb9199 => ?_) (fun hb9199 => ?_)
 · replace H := cnt hb9199 H
   refine WP.seq ?_
   refine WP.region ?_
   refine WPL.q (q_as (v := .lit (.string _)) rfl) rfl ?_
   refine WPL.nilW ?_
   refine W.now ?_
   refine Then.n ?_
   refine WP.retW ?_
   have q0 := (Option.some.inj H)
   subst q0
   exact W.now (Then.r (BodyR.mkR trivial rfl [] ⟨rfl, rfl⟩ ⟨rfl, trivial, by decide, rfl, trivial⟩ rfl rfl))
 replace H := cnf hb9199 H
 refine WP.skipW ?_
 refine W.now ?_
 refine Then.n ?_
 refine WP.seq ?_
 obtain ⟨y9337, H9335, H⟩ := bnd H
 refine WP.monoW (Q := fun x E M => match (generalizing := false) y9337 with | (Sum.inl x9268) => x = .ret ∧ E = (Env.none.upd 4 (.lit (.string x9268))) ∧ M = Mem.nil | (Sum.inr _) => x = .normal ∧ E = ((Env.none.upd 0 (.lit (.string x8856))).upd 7 (.lit (.int .i64 x9196))) ∧ M = Mem.nil) ?_ ?_
 · clear H
   have H := H9335
   clear H9335
   refine WP.seq ?_
   refine WP.region ?_
   refine WPL.q (q_mv (v := .lit (.string _)) rfl) rfl ?_
   obtain ⟨x9269, h9269, H⟩ := bnd H
   refine WPL.q (q_index_str Try.underlying9 rfl rfl h9269) rfl ?_
   refine WPL.nilW ?_
   refine W.now ?_
   refine Then.n ?_
   refine WP.block ?_
   refine WP.seq ?_
   obtain ⟨x9274, H9278, H⟩ := bnd H
   refine WP.monoW (Q := fun x E M => x = .normal ∧ E = (((Env.none.upd 0 (.lit (.string x8856))).upd 7 (.lit (.int .i64 x9196))).upd 43 (.lit (.bool x9274))) ∧ M = Mem.nil) ?_ ?_
   · clear H
     have H := H9278
     clear H9278
     refine WP.seq ?_
     refine WP.region ?_
     refine WPL.q (q_eql rfl rfl) rfl ?_
     refine WPL.q (q_as (v := .lit (.bool _)) rfl) rfl ?_
     refine WPL.nilW ?_
     refine W.now ?_
     refine Then.n ?_
     refine WP.cond (t := (decide (x9269 = 32))) rfl (fun hb9274 => ?_) (fun hb9274 => ?_)
     · replace H := cnt hb9274 H
       refine WP.skipW ?_
       have q0 := (Option.some.inj H)
       subst q0
       exact W.wk [] hnp ⟨rfl, rfl, rfl⟩ ⟨rfl, trivial, by decide, rfl, trivial⟩ (LeE.upd rfl rfl (LeE.upd rfl rfl (LeE.upd rfl rfl (LeE.none rfl rfl)))) rfl
     replace H := cnf hb9274 H
     refine WP.seq ?_
     refine WP.region ?_
     refine WPL.q (q_eql rfl rfl) rfl ?_
     refine WPL.q (q_as (v := .lit (.bool _)) rfl) rfl ?_
     refine WPL.nilW ?_
     refine W.now ?_
     refine Then.n ?_
     refine WP.cond (t := (decide (x9269 = 45))) rfl (fun hb9275 => ?_) (fun hb9275 => ?_)
     · replace H := cnt hb9275 H
       refine WP.skipW ?_
       have q0 := (Option.some.inj H)
       subst q0
       exact W.wk [] hnp ⟨rfl, rfl, rfl⟩ ⟨rfl, trivial, by decide, rfl, trivial⟩ (LeE.upd rfl rfl (LeE.upd rfl rfl (LeE.upd rfl rfl (LeE.none rfl rfl)))) rfl
     replace H := cnf hb9275 H
     refine WP.seq ?_
     refine WP.region ?_
     refine WPL.q (q_eql rfl rfl) rfl ?_
     refine WPL.q (q_as (v := .lit (.bool _)) rfl) rfl ?_
     refine WPL.nilW ?_
     refine W.now ?_
     refine Then.n ?_
     refine WP.cond (t := (decide (x9269 = 48))) rfl (fun hb9276 => ?_) (fun hb9276 => ?_)
     · replace H := cnt hb9276 H
       refine WP.skipW ?_
       have q0 := (Option.some.inj H)
       subst q0
       exact W.wk [] hnp ⟨rfl, rfl, rfl⟩ ⟨rfl, trivial, by decide, rfl, trivial⟩ (LeE.upd rfl rfl (LeE.upd rfl rfl (LeE.upd rfl rfl (LeE.none rfl rfl)))) rfl
     replace H := cnf hb9276 H
     refine WP.seq ?_
     refine WP.region ?_
     refine WPL.q (q_eql rfl rfl) rfl ?_
     refine WPL.q (q_as (v := .lit (.bool _)) rfl) rfl ?_
     refine WPL.nilW ?_
     refine W.now ?_
     refine Then.n ?_
     refine WP.cond (t := (decide (x9269 = 61))) rfl (fun hb9277 => ?_) (fun hb9277 => ?_)
     · replace H := cnt hb9277 H
       refine WP.skipW ?_
       have q0 := (Option.some.inj H)
       subst q0
       exact W.wk [] hnp ⟨rfl, rfl, rfl⟩ ⟨rfl, trivial, by decide, rfl, trivial⟩ (LeE.upd rfl rfl (LeE.upd rfl rfl (LeE.upd rfl rfl (LeE.none rfl rfl)))) rfl
     replace H := cnf hb9277 H
     refine WP.region ?_
     refine WPL.q (q_eql rfl rfl) rfl ?_
     refine WPL.q (q_as (v := .lit (.bool _)) rfl) rfl ?_
     refine WPL.nilW ?_
     have q0 := (Option.some.inj H)
     subst q0
     exact W.wk [] hnp ⟨rfl, rfl, rfl⟩ ⟨rfl, trivial, by decide, rfl, trivial⟩ (LeE.upd rfl rfl (LeE.upd rfl rfl (LeE.upd rfl rfl (LeE.none rfl rfl)))) rfl
   rintro _ _ _ ⟨rfl, rfl, rfl⟩
   refine W.now ?_
   refine Then.n ?_
   refine WP.cond (t := x9274) rfl (fun hb9279 => ?_) (fun hb9279 => ?_)
   · replace H := cnt hb9279 H
     refine WP.block ?_
     refine WP.seq ?_
     obtain ⟨x9284, H9287, H⟩ := bnd H
     refine WP.monoW (Q := fun x E M => x = .normal ∧ E = (((Env.none.upd 0 (.lit (.string x8856))).upd 7 (.lit (.int .i64 x9196))).upd 49 (.lit (.bool x9284))) ∧ M = Mem.nil) ?_ ?_
     · clear H
       have H := H9287
       clear H9287
       refine WP.region ?_
       refine WPL.q (q_mv (v := .lit (.int _ _)) rfl) rfl ?_
       refine WPL.q (q_leq rfl rfl) rfl ?_
       refine WPL.q (q_mv (v := .lit (.bool _)) rfl) rfl ?_
       refine WPL.split (t := 52) (b := (decide (x9196 ≤ 128))) rfl (fun hb9284 => ?_) (fun hb9284 => ?_)
       · replace H := cnt hb9284 H
         refine WPL.qg rfl rfl (lb hb9284) (q_mv (v := .lit (.string _)) rfl) rfl ?_
         obtain ⟨x9287, h9285, H⟩ := bnd H
         refine WPL.cg rfl rfl (lb hb9284) (runs_call (s := []) (t := []) (N := 0) (bor := []) fn71 rfl (s_strings_HasPrefix k (ByteArray.mk #[32, 32, 32, 32, 32, 32, 32, 32, 32, 32, 32, 32, 32, 32, 32, 32, 32, 32, 32, 32, 32, 32, 32, 32, 32, 32, 32, 32, 32, 32, 32, 32, 32, 32, 32, 32, 32, 32, 32, 32, 32, 32, 32, 32, 32, 32, 32, 32, 32, 32, 32, 32, 32, 32, 32, 32, 32, 32, 32, 32, 32, 32, 32, 32, 32, 32, 32, 32, 32, 32, 32, 32, 32, 32, 32, 32, 32, 32, 32, 32, 32, 32, 32, 32, 32, 32, 32, 32, 32, 32, 32, 32, 32, 32, 32, 32, 32, 32, 32, 32, 32, 32, 32, 32, 32, 32, 32, 32, 32, 32, 32, 32, 32, 32, 32, 32, 32, 32, 32, 32, 32, 32, 32, 32, 32, 32, 32, 32]) x8856 x9287 h9285) ⟨rfl, trivial, by decide, rfl, trivial⟩ rfl trivial (.ren rfl rfl (.ren rfl rfl .nil)) rfl trivial rfl) rfl ?_
         refine WPL.q (q_pickT (v := .lit (.bool _)) (lb hb9284) rfl) rfl ?_
         refine WPL.q (q_as (v := .lit (.bool _)) rfl) rfl ?_
         refine WPL.nilW ?_
         have q0 := (Option.some.inj H)
         subst q0
         exact W.wk [] hnp ⟨rfl, rfl, rfl⟩ ⟨rfl, trivial, by decide, rfl, trivial⟩ (LeE.upd rfl rfl (LeE.upd rfl rfl (LeE.upd rfl rfl (LeE.none rfl rfl)))) rfl
       replace H := cnf hb9284 H
       refine WPL.skipg (b' := false) rfl rfl (lb hb9284) rfl rfl ?_
       refine WPL.skipg (b' := false) rfl rfl (lb hb9284) rfl rfl ?_
       refine WPL.q (q_pickF (v := .lit (.bool _)) (lb hb9284) rfl) rfl ?_
       refine WPL.q (q_as (v := .lit (.bool _)) rfl) rfl ?_
       refine WPL.nilW ?_
       have q0 := (Option.some.inj H)
       subst q0
       exact W.wk [] hnp ⟨rfl, rfl, rfl⟩ ⟨rfl, trivial, by decide, rfl, trivial⟩ (LeE.upd rfl rfl (LeE.upd rfl rfl (LeE.upd rfl rfl (LeE.none rfl rfl)))) rfl
     rintro _ _ _ ⟨rfl, rfl, rfl⟩
     refine W.now ?_
     refine Then.n ?_
     refine WP.cond (t := x9284) rfl (fun hb9288 => ?_) (fun hb9288 => ?_)
     · replace H := cnt hb9288 H
       refine WP.seq ?_
       refine WP.region ?_
       refine WPL.q (q_mv (v := .lit (.int _ _)) rfl) rfl ?_
       obtain ⟨h9289, H⟩ := grd H
       obtain ⟨x9291, h9291, H⟩ := bnd H
       refine WPL.q (q_nm (q_slice_str (i := 0) (j := x9196) Try.underlying9 rfl rfl ⟨_, rfl⟩ h9289) (nm_str h9291)) rfl ?_
       refine WPL.q (q_as (v := .lit (.string _)) rfl) rfl ?_
       refine WPL.nilW ?_
       refine W.now ?_
       refine Then.n ?_
       refine WP.retW ?_
       have q0 := Option.some.inj H
       subst q0
       exact W.wk [] hnp (InBlock.r (InBlock.r ⟨rfl, rfl, rfl⟩)) ⟨rfl, trivial, by decide, rfl, trivial⟩ (LeE.upd rfl rfl (LeE.none rfl rfl)) rfl
     replace H := cnf hb9288 H
     refine WP.seq ?_
     obtain ⟨x9295, H9298, H⟩ := bnd H
     refine WP.monoW (Q := fun x E M => x = .normal ∧ E = (((Env.none.upd 0 (.lit (.string x8856))).upd 7 (.lit (.int .i64 x9196))).upd 58 (.lit (.bool x9295))) ∧ M = Mem.nil) ?_ ?_
     · clear H
       have H := H9298
       clear H9298
       refine WP.region ?_
       refine WPL.q (q_mv (v := .lit (.int _ _)) rfl) rfl ?_
       refine WPL.q (q_leq rfl rfl) rfl ?_
       refine WPL.q (q_mv (v := .lit (.bool _)) rfl) rfl ?_
       refine WPL.split (t := 61) (b := (decide (x9196 ≤ 128))) rfl (fun hb9295 => ?_) (fun hb9295 => ?_)
       · replace H := cnt hb9295 H
         refine WPL.qg rfl rfl (lb hb9295) (q_mv (v := .lit (.string _)) rfl) rfl ?_
         obtain ⟨x9298, h9296, H⟩ := bnd H
         refine WPL.cg rfl rfl (lb hb9295) (runs_call (s := []) (t := []) (N := 0) (bor := []) fn71 rfl (s_strings_HasPrefix k (ByteArray.mk #[45, 45, 45, 45, 45, 45, 45, 45, 45, 45, 45, 45, 45, 45, 45, 45, 45, 45, 45, 45, 45, 45, 45, 45, 45, 45, 45, 45, 45, 45, 45, 45, 45, 45, 45, 45, 45, 45, 45, 45, 45, 45, 45, 45, 45, 45, 45, 45, 45, 45, 45, 45, 45, 45, 45, 45, 45, 45, 45, 45, 45, 45, 45, 45, 45, 45, 45, 45, 45, 45, 45, 45, 45, 45, 45, 45, 45, 45, 45, 45, 45, 45, 45, 45, 45, 45, 45, 45, 45, 45, 45, 45, 45, 45, 45, 45, 45, 45, 45, 45, 45, 45, 45, 45, 45, 45, 45, 45, 45, 45, 45, 45, 45, 45, 45, 45, 45, 45, 45, 45, 45, 45, 45, 45, 45, 45, 45, 45]) x8856 x9298 h9296) ⟨rfl, trivial, by decide, rfl, trivial⟩ rfl trivial (.ren rfl rfl (.ren rfl rfl .nil)) rfl trivial rfl) rfl ?_
         refine WPL.q (q_pickT (v := .lit (.bool _)) (lb hb9295) rfl) rfl ?_
         refine WPL.q (q_as (v := .lit (.bool _)) rfl) rfl ?_
         refine WPL.nilW ?_
         have q0 := (Option.some.inj H)
         subst q0
         exact W.wk [] hnp ⟨rfl, rfl, rfl⟩ ⟨rfl, trivial, by decide, rfl, trivial⟩ (LeE.upd rfl rfl (LeE.upd rfl rfl (LeE.upd rfl rfl (LeE.none rfl rfl)))) rfl
       replace H := cnf hb9295 H
       refine WPL.skipg (b' := false) rfl rfl (lb hb9295) rfl rfl ?_
       refine WPL.skipg (b' := false) rfl rfl (lb hb9295) rfl rfl ?_
       refine WPL.q (q_pickF (v := .lit (.bool _)) (lb hb9295) rfl) rfl ?_
       refine WPL.q (q_as (v := .lit (.bool _)) rfl) rfl ?_
       refine WPL.nilW ?_
       have q0 := (Option.some.inj H)
       subst q0
       exact W.wk [] hnp ⟨rfl, rfl, rfl⟩ ⟨rfl, trivial, by decide, rfl, trivial⟩ (LeE.upd rfl rfl (LeE.upd rfl rfl (LeE.upd rfl rfl (LeE.none rfl rfl)))) rfl
     rintro _ _ _ ⟨rfl, rfl, rfl⟩
     refine W.now ?_
     refine Then.n ?_
     refine WP.cond (t := x9295) rfl (fun hb9299 => ?_) (fun hb9299 => ?_)
     · replace H := cnt hb9299 H
       refine WP.seq ?_
       refine WP.region ?_
       refine WPL.q (q_mv (v := .lit (.int _ _)) rfl) rfl ?_
       obtain ⟨h9300, H⟩ := grd H
       obtain ⟨x9302, h9302, H⟩ := bnd H
       refine WPL.q (q_nm (q_slice_str (i := 0) (j := x9196) Try.underlying9 rfl rfl ⟨_, rfl⟩ h9300) (nm_str h9302)) rfl ?_
       refine WPL.q (q_as (v := .lit (.string _)) rfl) rfl ?_
       refine WPL.nilW ?_
       refine W.now ?_
       refine Then.n ?_
       refine WP.retW ?_
       have q0 := Option.some.inj H
       subst q0
       exact W.wk [] hnp (InBlock.r (InBlock.r ⟨rfl, rfl, rfl⟩)) ⟨rfl, trivial, by decide, rfl, trivial⟩ (LeE.upd rfl rfl (LeE.none rfl rfl)) rfl
     replace H := cnf hb9299 H
     refine WP.seq ?_
     obtain ⟨x9306, H9309, H⟩ := bnd H
     refine WP.monoW (Q := fun x E M => x = .normal ∧ E = (((Env.none.upd 0 (.lit (.string x8856))).upd 7 (.lit (.int .i64 x9196))).upd 67 (.lit (.bool x9306))) ∧ M = Mem.nil) ?_ ?_
     · clear H
       have H := H9309
       clear H9309
       refine WP.region ?_
       refine WPL.q (q_mv (v := .lit (.int _ _)) rfl) rfl ?_
       refine WPL.q (q_leq rfl rfl) rfl ?_
       refine WPL.q (q_mv (v := .lit (.bool _)) rfl) rfl ?_
       refine WPL.split (t := 70) (b := (decide (x9196 ≤ 64))) rfl (fun hb9306 => ?_) (fun hb9306 => ?_)
       · replace H := cnt hb9306 H
         refine WPL.qg rfl rfl (lb hb9306) (q_mv (v := .lit (.string _)) rfl) rfl ?_
         obtain ⟨x9309, h9307, H⟩ := bnd H
         refine WPL.cg rfl rfl (lb hb9306) (runs_call (s := []) (t := []) (N := 0) (bor := []) fn71 rfl (s_strings_HasPrefix k (ByteArray.mk #[48, 48, 48, 48, 48, 48, 48, 48, 48, 48, 48, 48, 48, 48, 48, 48, 48, 48, 48, 48, 48, 48, 48, 48, 48, 48, 48, 48, 48, 48, 48, 48, 48, 48, 48, 48, 48, 48, 48, 48, 48, 48, 48, 48, 48, 48, 48, 48, 48, 48, 48, 48, 48, 48, 48, 48, 48, 48, 48, 48, 48, 48, 48, 48]) x8856 x9309 h9307) ⟨rfl, trivial, by decide, rfl, trivial⟩ rfl trivial (.ren rfl rfl (.ren rfl rfl .nil)) rfl trivial rfl) rfl ?_
         refine WPL.q (q_pickT (v := .lit (.bool _)) (lb hb9306) rfl) rfl ?_
         refine WPL.q (q_as (v := .lit (.bool _)) rfl) rfl ?_
         refine WPL.nilW ?_
         have q0 := (Option.some.inj H)
         subst q0
         exact W.wk [] hnp ⟨rfl, rfl, rfl⟩ ⟨rfl, trivial, by decide, rfl, trivial⟩ (LeE.upd rfl rfl (LeE.upd rfl rfl (LeE.upd rfl rfl (LeE.none rfl rfl)))) rfl
       replace H := cnf hb9306 H
       refine WPL.skipg (b' := false) rfl rfl (lb hb9306) rfl rfl ?_
       refine WPL.skipg (b' := false) rfl rfl (lb hb9306) rfl rfl ?_
       refine WPL.q (q_pickF (v := .lit (.bool _)) (lb hb9306) rfl) rfl ?_
       refine WPL.q (q_as (v := .lit (.bool _)) rfl) rfl ?_
       refine WPL.nilW ?_
       have q0 := (Option.some.inj H)
       subst q0
       exact W.wk [] hnp ⟨rfl, rfl, rfl⟩ ⟨rfl, trivial, by decide, rfl, trivial⟩ (LeE.upd rfl rfl (LeE.upd rfl rfl (LeE.upd rfl rfl (LeE.none rfl rfl)))) rfl
     rintro _ _ _ ⟨rfl, rfl, rfl⟩
     refine W.now ?_
     refine Then.n ?_
     refine WP.cond (t := x9306) rfl (fun hb9310 => ?_) (fun hb9310 => ?_)
     · replace H := cnt hb9310 H
       refine WP.seq ?_
       refine WP.region ?_
       refine WPL.q (q_mv (v := .lit (.int _ _)) rfl) rfl ?_
       obtain ⟨h9311, H⟩ := grd H
       obtain ⟨x9313, h9313, H⟩ := bnd H
       refine WPL.q (q_nm (q_slice_str (i := 0) (j := x9196) Try.underlying9 rfl rfl ⟨_, rfl⟩ h9311) (nm_str h9313)) rfl ?_
       refine WPL.q (q_as (v := .lit (.string _)) rfl) rfl ?_
       refine WPL.nilW ?_
       refine W.now ?_
       refine Then.n ?_
       refine WP.retW ?_
       have q0 := Option.some.inj H
       subst q0
       exact W.wk [] hnp (InBlock.r (InBlock.r ⟨rfl, rfl, rfl⟩)) ⟨rfl, trivial, by decide, rfl, trivial⟩ (LeE.upd rfl rfl (LeE.none rfl rfl)) rfl
     replace H := cnf hb9310 H
     refine WP.seq ?_
     obtain ⟨x9317, H9320, H⟩ := bnd H
     refine WP.monoW (Q := fun x E M => x = .normal ∧ E = (((Env.none.upd 0 (.lit (.string x8856))).upd 7 (.lit (.int .i64 x9196))).upd 76 (.lit (.bool x9317))) ∧ M = Mem.nil) ?_ ?_
     · clear H
       have H := H9320
       clear H9320
       refine WP.region ?_
       refine WPL.q (q_mv (v := .lit (.int _ _)) rfl) rfl ?_
       refine WPL.q (q_leq rfl rfl) rfl ?_
       refine WPL.q (q_mv (v := .lit (.bool _)) rfl) rfl ?_
       refine WPL.split (t := 79) (b := (decide (x9196 ≤ 128))) rfl (fun hb9317 => ?_) (fun hb9317 => ?_)
       · replace H := cnt hb9317 H
         refine WPL.qg rfl rfl (lb hb9317) (q_mv (v := .lit (.string _)) rfl) rfl ?_
         obtain ⟨x9320, h9318, H⟩ := bnd H
         refine WPL.cg rfl rfl (lb hb9317) (runs_call (s := []) (t := []) (N := 0) (bor := []) fn71 rfl (s_strings_HasPrefix k (ByteArray.mk #[61, 61, 61, 61, 61, 61, 61, 61, 61, 61, 61, 61, 61, 61, 61, 61, 61, 61, 61, 61, 61, 61, 61, 61, 61, 61, 61, 61, 61, 61, 61, 61, 61, 61, 61, 61, 61, 61, 61, 61, 61, 61, 61, 61, 61, 61, 61, 61, 61, 61, 61, 61, 61, 61, 61, 61, 61, 61, 61, 61, 61, 61, 61, 61, 61, 61, 61, 61, 61, 61, 61, 61, 61, 61, 61, 61, 61, 61, 61, 61, 61, 61, 61, 61, 61, 61, 61, 61, 61, 61, 61, 61, 61, 61, 61, 61, 61, 61, 61, 61, 61, 61, 61, 61, 61, 61, 61, 61, 61, 61, 61, 61, 61, 61, 61, 61, 61, 61, 61, 61, 61, 61, 61, 61, 61, 61, 61, 61]) x8856 x9320 h9318) ⟨rfl, trivial, by decide, rfl, trivial⟩ rfl trivial (.ren rfl rfl (.ren rfl rfl .nil)) rfl trivial rfl) rfl ?_
         refine WPL.q (q_pickT (v := .lit (.bool _)) (lb hb9317) rfl) rfl ?_
         refine WPL.q (q_as (v := .lit (.bool _)) rfl) rfl ?_
         refine WPL.nilW ?_
         have q0 := (Option.some.inj H)
         subst q0
         exact W.wk [] hnp ⟨rfl, rfl, rfl⟩ ⟨rfl, trivial, by decide, rfl, trivial⟩ (LeE.upd rfl rfl (LeE.upd rfl rfl (LeE.upd rfl rfl (LeE.none rfl rfl)))) rfl
       replace H := cnf hb9317 H
       refine WPL.skipg (b' := false) rfl rfl (lb hb9317) rfl rfl ?_
       refine WPL.skipg (b' := false) rfl rfl (lb hb9317) rfl rfl ?_
       refine WPL.q (q_pickF (v := .lit (.bool _)) (lb hb9317) rfl) rfl ?_
       refine WPL.q (q_as (v := .lit (.bool _)) rfl) rfl ?_
       refine WPL.nilW ?_
       have q0 := (Option.some.inj H)
       subst q0
       exact W.wk [] hnp ⟨rfl, rfl, rfl⟩ ⟨rfl, trivial, by decide, rfl, trivial⟩ (LeE.upd rfl rfl (LeE.upd rfl rfl (LeE.upd rfl rfl (LeE.none rfl rfl)))) rfl
     rintro _ _ _ ⟨rfl, rfl, rfl⟩
     refine W.now ?_
     refine Then.n ?_
     refine WP.cond (t := x9317) rfl (fun hb9321 => ?_) (fun hb9321 => ?_)
     · replace H := cnt hb9321 H
       refine WP.seq ?_
       refine WP.region ?_
       refine WPL.q (q_mv (v := .lit (.int _ _)) rfl) rfl ?_
       obtain ⟨h9322, H⟩ := grd H
       obtain ⟨x9324, h9324, H⟩ := bnd H
       refine WPL.q (q_nm (q_slice_str (i := 0) (j := x9196) Try.underlying9 rfl rfl ⟨_, rfl⟩ h9322) (nm_str h9324)) rfl ?_
       refine WPL.q (q_as (v := .lit (.string _)) rfl) rfl ?_
       refine WPL.nilW ?_
       refine W.now ?_
       refine Then.n ?_
       refine WP.retW ?_
       have q0 := Option.some.inj H
       subst q0
       exact W.wk [] hnp (InBlock.r (InBlock.r ⟨rfl, rfl, rfl⟩)) ⟨rfl, trivial, by decide, rfl, trivial⟩ (LeE.upd rfl rfl (LeE.none rfl rfl)) rfl
     replace H := cnf hb9321 H
     refine WP.seq ?_
     obtain ⟨x9328, H9331, H⟩ := bnd H
     refine WP.monoW (Q := fun x E M => x = .normal ∧ E = (((Env.none.upd 0 (.lit (.string x8856))).upd 7 (.lit (.int .i64 x9196))).upd 85 (.lit (.bool x9328))) ∧ M = Mem.nil) ?_ ?_
     · clear H
       have H := H9331
       clear H9331
       refine WP.region ?_
       refine WPL.q (q_mv (v := .lit (.int _ _)) rfl) rfl ?_
       refine WPL.q (q_leq rfl rfl) rfl ?_
       refine WPL.q (q_mv (v := .lit (.bool _)) rfl) rfl ?_
       refine WPL.split (t := 88) (b := (decide (x9196 ≤ 64))) rfl (fun hb9328 => ?_) (fun hb9328 => ?_)
       · replace H := cnt hb9328 H
         refine WPL.qg rfl rfl (lb hb9328) (q_mv (v := .lit (.string _)) rfl) rfl ?_
         obtain ⟨x9331, h9329, H⟩ := bnd H
         refine WPL.cg rfl rfl (lb hb9328) (runs_call (s := []) (t := []) (N := 0) (bor := []) fn71 rfl (s_strings_HasPrefix k (ByteArray.mk #[9, 9, 9, 9, 9, 9, 9, 9, 9, 9, 9, 9, 9, 9, 9, 9, 9, 9, 9, 9, 9, 9, 9, 9, 9, 9, 9, 9, 9, 9, 9, 9, 9, 9, 9, 9, 9, 9, 9, 9, 9, 9, 9, 9, 9, 9, 9, 9, 9, 9, 9, 9, 9, 9, 9, 9, 9, 9, 9, 9, 9, 9, 9, 9]) x8856 x9331 h9329) ⟨rfl, trivial, by decide, rfl, trivial⟩ rfl trivial (.ren rfl rfl (.ren rfl rfl .nil)) rfl trivial rfl) rfl ?_
         refine WPL.q (q_pickT (v := .lit (.bool _)) (lb hb9328) rfl) rfl ?_
         refine WPL.q (q_as (v := .lit (.bool _)) rfl) rfl ?_
         refine WPL.nilW ?_
         have q0 := (Option.some.inj H)
         subst q0
         exact W.wk [] hnp ⟨rfl, rfl, rfl⟩ ⟨rfl, trivial, by decide, rfl, trivial⟩ (LeE.upd rfl rfl (LeE.upd rfl rfl (LeE.upd rfl rfl (LeE.none rfl rfl)))) rfl
       replace H := cnf hb9328 H
       refine WPL.skipg (b' := false) rfl rfl (lb hb9328) rfl rfl ?_
       refine WPL.skipg (b' := false) rfl rfl (lb hb9328) rfl rfl ?_
       refine WPL.q (q_pickF (v := .lit (.bool _)) (lb hb9328) rfl) rfl ?_
       refine WPL.q (q_as (v := .lit (.bool _)) rfl) rfl ?_
       refine WPL.nilW ?_
       have q0 := (Option.some.inj H)
       subst q0
       exact W.wk [] hnp ⟨rfl, rfl, rfl⟩ ⟨rfl, trivial, by decide, rfl, trivial⟩ (LeE.upd rfl rfl (LeE.upd rfl rfl (LeE.upd rfl rfl (LeE.none rfl rfl)))) rfl
     rintro _ _ _ ⟨rfl, rfl, rfl⟩
     refine W.now ?_
     refine Then.n ?_
     refine WP.cond (t := x9328) rfl (fun hb9332 => ?_) (fun hb9332 => ?_)
     · replace H := cnt hb9332 H
       refine WP.seq ?_
       refine WP.region ?_
       refine WPL.q (q_mv (v := .lit (.int _ _)) rfl) rfl ?_
       obtain ⟨h9333, H⟩ := grd H
       obtain ⟨x9335, h9335, H⟩ := bnd H
       refine WPL.q (q_nm (q_slice_str (i := 0) (j := x9196) Try.underlying9 rfl rfl ⟨_, rfl⟩ h9333) (nm_str h9335)) rfl ?_
       refine WPL.q (q_as (v := .lit (.string _)) rfl) rfl ?_
       refine WPL.nilW ?_
       refine W.now ?_
       refine Then.n ?_
       refine WP.retW ?_
       have q0 := Option.some.inj H
       subst q0
       exact W.wk [] hnp (InBlock.r (InBlock.r ⟨rfl, rfl, rfl⟩)) ⟨rfl, trivial, by decide, rfl, trivial⟩ (LeE.upd rfl rfl (LeE.none rfl rfl)) rfl
     replace H := cnf hb9332 H
     refine WP.skipW ?_
     have q0 := Option.some.inj H
     subst q0
     exact W.wk [] hnp (InBlock.n (InBlock.n ⟨rfl, rfl, rfl⟩)) ⟨rfl, trivial, by decide, rfl, trivial⟩ (LeE.upd rfl rfl (LeE.upd rfl rfl (LeE.none rfl rfl))) rfl
   replace H := cnf hb9279 H
   refine WP.skipW ?_
   have q0 := Option.some.inj H
   subst q0
   exact W.wk [] hnp (InBlock.n ⟨rfl, rfl, rfl⟩) ⟨rfl, trivial, by decide, rfl, trivial⟩ (LeE.upd rfl rfl (LeE.upd rfl rfl (LeE.none rfl rfl))) rfl
 rcases y9337 with x9268 | _
 · rintro _ _ _ ⟨rfl, rfl, rfl⟩
   have q0 := (Option.some.inj H)
   subst q0
   exact W.now (Then.r (BodyR.mkR trivial rfl [] ⟨rfl, rfl⟩ ⟨rfl, trivial, by decide, rfl, trivial⟩ rfl rfl))
 rintro _ _ _ ⟨rfl, rfl, rfl⟩
 refine W.now ?_
 refine Then.n ?_
 refine WP.seq ?_
 refine WP.region ?_
 refine WPL.q (q_mv (v := .lit (.int _ _)) rfl) rfl ?_
 refine WPL.q (q_as (v := .lit (.int _ _)) rfl) rfl ?_
 refine WPL.nilW ?_
 refine W.now ?_
 refine Then.n ?_
 refine WP.seq ?_
 obtain ⟨x9343, H9348, H⟩ := bnd H
 refine WP.monoW (Q := fun x E M => x = .normal ∧ E = (((Env.none.upd 0 (.lit (.string x8856))).upd 7 (.lit (.int .i64 x9196))).upd 8 (.lit (.int .i64 x9343))) ∧ M = Mem.nil) ?_ ?_
 · clear H
   have H := H9348
   clear H9348
   refine WP.seq ?_
   refine WP.region ?_
   refine WPL.q (q_mv (v := .lit (.int _ _)) rfl) rfl ?_
   refine WPL.q (q_gtr rfl rfl) rfl ?_
   refine WPL.nilW ?_
   refine W.now ?_
   refine Then.n ?_
   refine WP.cond (t := (decide (8192 < x9196))) rfl (fun hb9343 => ?_) (fun hb9343 => ?_)
   · replace H := cnt hb9343 H
     refine WP.seq ?_
     refine WP.region ?_
     refine WPL.q (q_mv (v := .lit (.string _)) rfl) rfl ?_
     refine WPL.q (q_len_str Try.underlying9 rfl) rfl ?_
     obtain ⟨h9344, H⟩ := grd H
     obtain ⟨x9346, h9346, H⟩ := bnd H
     refine WPL.q (q_nm (q_quo rfl rfl (bnot h9344)) (nm_int h9346)) rfl ?_
     refine WPL.q (q_mv (v := .lit (.string _)) rfl) rfl ?_
     refine WPL.q (q_len_str Try.underlying9 rfl) rfl ?_
     obtain ⟨x9347, h9347, H⟩ := bnd H
     refine WPL.q (q_nm (q_mul rfl rfl) (nm_int h9347)) rfl ?_
     refine WPL.q (q_as (v := .lit (.int _ _)) rfl) rfl ?_
     refine WPL.nilW ?_
     refine W.now ?_
     refine Then.n ?_
     refine WP.seq ?_
     refine WP.region ?_
     refine WPL.q (q_mv (v := .lit (.int _ _)) rfl) rfl ?_
     refine WPL.q (q_eql rfl rfl) rfl ?_
     refine WPL.nilW ?_
     refine W.now ?_
     refine Then.n ?_
     refine WP.cond (t := (decide (x9347 = 0))) rfl (fun hb9347 => ?_) (fun hb9347 => ?_)
     · replace H := cnt hb9347 H
       refine WP.region ?_
       refine WPL.q (q_mv (v := .lit (.string _)) rfl) rfl ?_
       refine WPL.q (q_len_str Try.underlying9 rfl) rfl ?_
       refine WPL.q (q_as (v := .lit (.int _ _)) rfl) rfl ?_
       refine WPL.nilW ?_
       have q0 := (Option.some.inj H)
       subst q0
       exact W.wk [] hnp ⟨rfl, rfl, rfl⟩ ⟨rfl, trivial, by decide, rfl, trivial⟩ (LeE.upd rfl rfl (LeE.upd rfl rfl (LeE.upd rfl rfl (LeE.none rfl rfl)))) rfl
     replace H := cnf hb9347 H
     refine WP.skipW ?_
     have q0 := (Option.some.inj H)
     subst q0
     exact W.wk [] hnp ⟨rfl, rfl, rfl⟩ ⟨rfl, trivial, by decide, rfl, trivial⟩ (LeE.upd rfl rfl (LeE.upd rfl rfl (LeE.upd rfl rfl (LeE.none rfl rfl)))) rfl
   replace H := cnf hb9343 H
   refine WP.skipW ?_
   have q0 := (Option.some.inj H)
   subst q0
   exact W.wk [] hnp ⟨rfl, rfl, rfl⟩ ⟨rfl, trivial, by decide, rfl, trivial⟩ (LeE.upd rfl rfl (LeE.upd rfl rfl (LeE.upd rfl rfl (LeE.none rfl rfl)))) rfl
 rintro _ _ _ ⟨rfl, rfl, rfl⟩
 refine W.now ?_
 refine Then.n ?_
 refine WP.seq ?_
 refine WP.region ?_
 refine WPL.d (d_alloc ze101 rfl) rfl ?_
 refine WPL.nilW ?_
 refine W.now ?_
 refine Then.n ?_
 refine WP.seq ?_
 refine WP.region ?_
 refine WPL.q (q_mv (v := .lit (.int _ _)) rfl) rfl ?_
 obtain ⟨_, h9349, H⟩ := bnd H
 refine WPL.c (runs_call (s := [0]) (t := [0, 1]) (N := 2) (bor := []) fn72 rfl (s_strings_Builder_Grow k x9196 h9349) ⟨rfl, ⟨trivial, .inr ⟨rfl, rfl, rfl⟩⟩, by decide, rfl, trivial⟩ rfl trivial (.ren rfl rfl (.ren rfl rfl .nil)) rfl ⟨⟨trivial, rfl⟩, rfl⟩ rfl) rfl ?_
 refine WPL.nilW ?_
 refine W.now ?_
 refine Then.n ?_
 refine WP.seq ?_
 refine WP.region ?_
 refine WPL.q (q_mv (v := .lit (.string _)) rfl) rfl ?_
 obtain ⟨_, h9350, H⟩ := bnd H
 refine WPL.c (runs_call (s := [0, 1]) (t := [0, 2]) (N := 3) (bor := []) fn73 rfl (s_strings_Builder_WriteString k x8856 ([] : List Int) h9350) ⟨rfl, ⟨⟨trivial, .inr ⟨rfl, rfl, rfl⟩⟩, .inr ⟨rfl, rfl, rfl⟩⟩, by decide, rfl, trivial⟩ rfl trivial (.ren rfl rfl (.ren rfl rfl .nil)) rfl ⟨⟨trivial, rfl⟩, rfl⟩ rfl) rfl ?_
 refine WPL.nilW ?_
 refine W.now ?_
 refine Then.n ?_
 refine WP.seq ?_
 refine WP.block ?_
 refine WP.cv (Cv.weak (E' := (((Env.none.upd 7 (.lit (.int .i64 x9196))).upd 8 (.lit (.int .i64 x9343))).upd 9 (.ptr 0 0))) (M' := ((Mem.nil.push (.cells 101 [.ptr 0 0, .whole 1])).push (.row 5 (Rd.int .u8) (([] : List Int) ++ (strInts x8856))))) [0, 2] hnp ⟨rfl, ⟨⟨trivial, .inr ⟨rfl, rfl, rfl⟩⟩, .inr ⟨rfl, rfl, rfl⟩⟩, by decide, rfl, trivial⟩ (LeE.upd rfl rfl (LeE.upd rfl rfl (LeE.upd rfl rfl (LeE.none rfl rfl))))) ?_
 obtain ⟨x9388, H9405, H⟩ := bnd H
 refine WP.monoW (Q := fun x E M => x = .exit 3 ∧ E = (Env.none.upd 9 (.ptr 0 0)) ∧ M = ((Mem.nil.push (.cells 101 [.ptr 0 0, .whole 1])).push (.row 5 (Rd.int .u8) x9388))) ?_ ?_
 · refine WP.loop (β := (List Int)) (fun n b => g_strings_Repeat_l0 k x9196 x9343 n b = some x9388) (fun b => (((Env.none.upd 7 (.lit (.int .i64 x9196))).upd 8 (.lit (.int .i64 x9343))).upd 9 (.ptr 0 0))) (fun b => ((Mem.nil.push (.cells 101 [.ptr 0 0, .whole 1])).push (.row 5 (Rd.int .u8) b))) k (([] : List Int) ++ (strInts x8856)) H9405 rfl rfl ?_
   rintro n x9370 H
   obtain _ | n := n
   · exact nf rfl H
   rw [g_strings_Repeat_l0.eq_2] at H
   show WP _ _ _ _ (((Env.none.upd 7 (.lit (.int .i64 x9196))).upd 8 (.lit (.int .i64 x9343))).upd 9 (.ptr 0 0)) ((Mem.nil.push (.cells 101 [.ptr 0 0, .whole 1])).push (.row 5 (Rd.int .u8) x9370)) _
   refine WP.seq ?_
   refine WP.seq ?_
   refine WP.region ?_
   obtain ⟨_, h9391, H⟩ := bnd H
   refine WPL.c (runs_call (s := [0, 1]) (t := [0, 2]) (N := 3) (bor := []) fn74 rfl (s_strings_Builder_Len k x9370 h9391) ⟨rfl, ⟨⟨trivial, .inr ⟨rfl, rfl, rfl⟩⟩, .inr ⟨rfl, rfl, rfl⟩⟩, by decide, rfl, trivial⟩ rfl trivial (.ren rfl rfl .nil) rfl ⟨⟨trivial, rfl⟩, rfl⟩ rfl) rfl ?_
   refine WPL.q (q_mv (v := .lit (.int _ _)) rfl) rfl ?_
   obtain ⟨x9393, h9393, H⟩ := bnd H
   refine WPL.q (q_nm (q_lss rfl rfl) (nm_bool h9393)) rfl ?_
   refine WPL.nilW ?_
   refine W.now ?_
   refine Then.n ?_
   refine WP.cond (t := x9393) rfl (fun hb9393 => ?_) (fun hb9393 => ?_)
   · replace H := cnt hb9393 H
     refine WP.skipW ?_
     refine W.now ?_
     refine Then.n ?_
     refine WP.block ?_
     refine WP.seq ?_
     refine WP.region ?_
     refine WPL.q (q_mv (v := .lit (.int _ _)) rfl) rfl ?_
     obtain ⟨_, h9394, H⟩ := bnd H
     refine WPL.c (runs_call (s := [0, 2]) (t := [0, 3]) (N := 4) (bor := []) fn74 rfl (s_strings_Builder_Len k x9370 h9394) ⟨rfl, ⟨⟨trivial, .inr ⟨rfl, rfl, rfl⟩⟩, .inr ⟨rfl, rfl, rfl⟩⟩, by decide, rfl, trivial⟩ rfl trivial (.ren rfl rfl .nil) rfl ⟨⟨trivial, rfl⟩, rfl⟩ rfl) rfl ?_
     obtain ⟨x9396, h9396, H⟩ := bnd H
     refine WPL.q (q_nm (q_sub rfl rfl) (nm_int h9396)) rfl ?_
     obtain ⟨_, h9396, H⟩ := bnd H
     refine WPL.c (runs_call (s := [0, 3]) (t := [0, 4]) (N := 5) (bor := []) fn74 rfl (s_strings_Builder_Len k x9370 h9396) ⟨rfl, ⟨⟨trivial, .inr ⟨rfl, rfl, rfl⟩⟩, .inr ⟨rfl, rfl, rfl⟩⟩, by decide, rfl, trivial⟩ rfl trivial (.ren rfl rfl .nil) rfl ⟨⟨trivial, rfl⟩, rfl⟩ rfl) rfl ?_
     refine WPL.q (q_mv (v := .lit (.int _ _)) rfl) rfl ?_
     obtain ⟨x9398, h9398, H⟩ := bnd H
     obtain ⟨x9399, h9399, H⟩ := bnd H
     refine WPL.q (q_nm (q_min3 rfl rfl rfl (Option.some.inj h9398)) (nm_int h9399)) rfl ?_
     refine WPL.q (q_as (v := .lit (.int _ _)) rfl) rfl ?_
     refine WPL.nilW ?_
     refine W.now ?_
     refine Then.n ?_
     refine WP.region ?_
     obtain ⟨y9401, h9399, H⟩ := bnd H
     rcases y9401 with _ | _
     · refine WPL.c (runs_call (s := [0, 4]) (t := [0, 5]) (N := 6) (bor := []) fn75 rfl (s_strings_Builder_String k x9370 (Sum.inl ()) h9399) ⟨rfl, ⟨⟨trivial, .inr ⟨rfl, rfl, rfl⟩⟩, .inr ⟨rfl, rfl, rfl⟩⟩, by decide, rfl, trivial⟩ rfl trivial (.ren rfl rfl .nil) rfl ⟨⟨trivial, rfl⟩, rfl⟩ rfl) rfl ?_
       refine WPL.q (q_mv (v := .lit (.int _ _)) rfl) rfl ?_
       obtain ⟨h9401, H⟩ := grd H
       obtain ⟨x9403, h9403, H⟩ := bnd H
       refine WPL.q (q_nm (q_slice_str (i := 0) (j := x9399) Try.underlying9 rfl rfl ⟨_, rfl⟩ h9401) (nm_str h9403)) rfl ?_
       obtain ⟨_, h9403, H⟩ := bnd H
       refine WPL.c (runs_call (s := [0, 5]) (t := [0, 6]) (N := 7) (bor := []) fn73 rfl (s_strings_Builder_WriteString k x9403 x9370 h9403) ⟨rfl, ⟨⟨trivial, .inr ⟨rfl, rfl, rfl⟩⟩, .inr ⟨rfl, rfl, rfl⟩⟩, by decide, rfl, trivial⟩ rfl trivial (.ren rfl rfl (.ren rfl rfl .nil)) rfl ⟨⟨trivial, rfl⟩, rfl⟩ rfl) rfl ?_
       refine WPL.nilW ?_
       exact W.wk [0, 6] hnp (InBlock.n (Then.n ⟨n, (x9370 ++ (strInts x9403)), Nat.lt_succ_self n, H, rfl, rfl⟩)) ⟨rfl, ⟨⟨trivial, .inr ⟨rfl, rfl, rfl⟩⟩, .inr ⟨rfl, rfl, rfl⟩⟩, by decide, rfl, trivial⟩ (LeE.upd rfl rfl (LeE.upd rfl rfl (LeE.upd rfl rfl (LeE.none rfl rfl)))) rfl
     refine WPL.c (runs_call (s := [0, 4]) (t := [0, 5]) (N := 6) (bor := []) fn75 rfl (s_strings_Builder_String k x9370 (Sum.inr ()) h9399) ⟨rfl, ⟨⟨trivial, .inr ⟨rfl, rfl, rfl⟩⟩, .inr ⟨rfl, rfl, rfl⟩⟩, by decide, rfl, trivial⟩ rfl trivial (.ren rfl rfl .nil) rfl ⟨⟨trivial, rfl⟩, rfl⟩ rfl) rfl ?_
     refine WPL.q (q_mv (v := .lit (.int _ _)) rfl) rfl ?_
     obtain ⟨h9404, H⟩ := grd H
     refine WPL.q (q_slice_str (i := 0) (j := x9399) Try.underlying9 rfl rfl ⟨_, rfl⟩ h9404) rfl ?_
     exact nf rfl H
   replace H := cnf hb9393 H
   refine WP.exitW ?_
   have q0 := (Option.some.inj H)
   subst q0
   exact W.wk [0, 2] hnp (Then.x (Then.x ⟨rfl, rfl, rfl⟩)) ⟨rfl, ⟨⟨trivial, .inr ⟨rfl, rfl, rfl⟩⟩, .inr ⟨rfl, rfl, rfl⟩⟩, by decide, rfl, trivial⟩ (LeE.upd rfl rfl (LeE.none rfl rfl)) rfl
 rintro _ _ _ ⟨rfl, rfl, rfl⟩
 refine W.now ?_
 refine InBlock.x0 ?_
 refine Then.n ?_
 refine WP.seq ?_
 refine WP.region ?_
 obtain ⟨y9408, h9406, H⟩ := bnd H
 rcases y9408 with _ | _
 · refine WPL.c (runs_call (s := [0, 1]) (t := [0, 2]) (N := 3) (bor := []) fn75 rfl (s_strings_Builder_String k x9388 (Sum.inl ()) h9406) ⟨rfl, ⟨⟨trivial, .inr ⟨rfl, rfl, rfl⟩⟩, .inr ⟨rfl, rfl, rfl⟩⟩, by decide, rfl, trivial⟩ rfl trivial (.ren rfl rfl .nil) rfl ⟨⟨trivial, rfl⟩, rfl⟩ rfl) rfl ?_
   refine WPL.q (q_as (v := .lit (.string _)) rfl) rfl ?_
   refine WPL.nilW ?_
   refine W.now ?_
   refine Then.n ?_
   refine WP.retW ?_
   have q0 := (Option.some.inj H)
   subst q0
   exact W.now (BodyR.mkR trivial rfl [] ⟨rfl, rfl⟩ ⟨rfl, trivial, by decide, rfl, trivial⟩ rfl rfl)
 refine WPL.c (runs_call (s := [0, 1]) (t := [0, 2]) (N := 3) (bor := []) fn75 rfl (s_strings_Builder_String k x9388 (Sum.inr ()) h9406) ⟨rfl, ⟨⟨trivial, .inr ⟨rfl, rfl, rfl⟩⟩, .inr ⟨rfl, rfl, rfl⟩⟩, by decide, rfl, trivial⟩ rfl trivial (.ren rfl rfl .nil) rfl ⟨⟨trivial, rfl⟩, rfl⟩ rfl) rfl ?_
 refine WPL.q (q_as (v := .lit (.string _)) rfl) rfl ?_
 refine WPL.nilW ?_
 refine W.now ?_
 refine Then.n ?_
 refine WP.retW ?_
 have q0 := (Option.some.inj H)
 subst q0
 exact W.now (BodyR.mkR trivial rfl [] ⟨rfl, rfl⟩ ⟨rfl, trivial, by decide, rfl, trivial⟩ rfl rfl)
end Go.Proofs.Ytdbeblgfccjbgaa.W
namespace Go.Proofs.Ytdbeblgfccjbgaa.W
open Go Go.Q Go.Proofs
set_option linter.unusedVariables false
set_option linter.unusedSimpArgs false
set_option maxRecDepth 100000 in
set_option maxHeartbeats 4000000 in
theorem s_dec_Print (k : Nat) (x8826 : Int) (x8827 : Int) (x9473 : ByteArray) (H : g_dec_Print k x8826 x8827 = some x9473) : Go.Q.Spec Try.prog 45 0 [.agg [.lit (.int .i64 x8826), .lit (.int .i64 x8827)]] Mem.nil (fun o M => o = .ret (.lit (.string x9473)) ∧ M = Mem.nil) := by
 unfold g_dec_Print at H
 refine Go.Q.Spec.of_bodyR (az := []) (rs := [.tmp 2]) (nt := 72) Try.func45 rfl rfl (by intro t T h; simp at h) rfl rfl fun cx hnp => ?_
 refine WP.seq ?_
 refine WP.region ?_
 refine WPL.d (d_box rfl rfl) rfl ?_
 refine WPL.q (q_as (v := .lit (.string _)) rfl) rfl ?_
 refine WPL.nilW ?_
 refine W.now ?_
 refine Then.n ?_
 refine WP.seq ?_
 refine WP.seq ?_
 refine WP.region ?_
 refine WPL.d (d_buildCells li81 rfl rfl rfl rfl rfl) rfl ?_
 obtain ⟨⟨x9480, x9481, x9482⟩, h9478, H⟩ := bnd H
 refine WPL.c (runs_call (s := [1, 0]) (t := [1, 0]) (N := 2) (bor := []) fn27 rfl (s_dec_clean__b k x8826 x8827 x9480 x9481 x9482 h9478) ⟨rfl, ⟨⟨trivial, .inr ⟨rfl, rfl, rfl⟩⟩, .inr ⟨rfl, rfl, rfl⟩⟩, by decide, rfl, trivial⟩ rfl trivial (.ren rfl rfl .nil) rfl ⟨⟨trivial, rfl⟩, rfl⟩ rfl) rfl ?_
 refine WPL.q (q_not rfl) rfl ?_
 refine WPL.nilW ?_
 refine W.now ?_
 refine Then.n ?_
 refine WP.cond (t := (!x9480)) rfl (fun hb9482 => ?_) (fun hb9482 => ?_)
 · replace H := cnt hb9482 H
   refine WP.seq ?_
   refine WP.region ?_
   refine WPL.q (q_as (v := .lit (.string _)) rfl) rfl ?_
   refine WPL.nilW ?_
   refine W.now ?_
   refine Then.n ?_
   refine WP.retW ?_
   have q0 := (Option.some.inj H)
   subst q0
   exact W.now (Then.r (BodyR.mkR trivial rfl [] ⟨rfl, rfl⟩ ⟨rfl, trivial, by decide, rfl, trivial⟩ rfl rfl))
 replace H := cnf hb9482 H
 refine WP.skipW ?_
 refine W.now ?_
 refine Then.n ?_
 refine WP.seq ?_
 refine WP.region ?_
 refine WPL.q (q_as (v := .lit (.string _)) rfl) rfl ?_
 refine WPL.nilW ?_
 refine W.now ?_
 refine Then.n ?_
 refine WP.seq ?_
 refine WP.seq ?_
 refine WP.region ?_
 refine WPL.q (q_fieldAddr fi23_0 rfl rfl) rfl ?_
 refine WPL.q (q_load sc2 rfl rfl rfl) rfl ?_
 obtain ⟨x9485, h9483, H⟩ := bnd H
 refine WPL.c (runs_call (s := []) (t := []) (N := 2) (bor := []) fn28 rfl (s_dec_size k x9481 x9485 h9483) ⟨rfl, trivial, by decide, rfl, trivial⟩ rfl trivial (.ren rfl rfl .nil) rfl trivial rfl) rfl ?_
 refine WPL.q (q_as (v := .lit (.int _ _)) rfl) rfl ?_
 refine WPL.nilW ?_
 refine W.now ?_
 refine Then.n ?_
 refine WP.block ?_
 refine WP.cv (Cv.weak (E' := (((Env.none.upd 1 (.ptr 0 0)).upd 3 (.lit (.string (ByteArray.mk #[])))).upd 4 (.lit (.int .u64 x9485)))) (M' := (Mem.nil.push (.cells 23 [.lit (.int .i64 x9481), .lit (.int .i64 x9482)]))) [0] hnp ⟨rfl, ⟨trivial, .inr ⟨rfl, rfl, rfl⟩⟩, by decide, rfl, trivial⟩ (LeE.upd rfl rfl (LeE.upd rfl rfl (LeE.upd rfl rfl (LeE.none rfl rfl))))) ?_
 obtain ⟨x9497, H9501, H⟩ := bnd H
 refine WP.monoW (Q := fun x E M => x = .exit 0 ∧ E = ((Env.none.upd 1 (.ptr 0 0)).upd 3 (.lit (.string x9497))) ∧ M = (Mem.nil.push (.cells 23 [.lit (.int .i64 x9481), .lit (.int .i64 x9482)]))) ?_ ?_
 · refine WP.loop (β := ByteArray × Int) (fun n b => g_dec_Print_l0 k n b.1 b.2 = some x9497) (fun b => (((Env.none.upd 1 (.ptr 0 0)).upd 3 (.lit (.string b.1))).upd 4 (.lit (.int .u64 b.2)))) (fun b => (Mem.nil.push (.cells 23 [.lit (.int .i64 x9481), .lit (.int .i64 x9482)]))) k ((ByteArray.mk #[]), x9485) H9501 rfl rfl ?_
   rintro n ⟨x9491, x9492⟩ H
   obtain _ | n := n
   · exact nf rfl H
   rw [g_dec_Print_l0.eq_2] at H
   show WP _ _ _ _ (((Env.none.upd 1 (.ptr 0 0)).upd 3 (.lit (.string x9491))).upd 4 (.lit (.int .u64 x9492))) (Mem.nil.push (.cells 23 [.lit (.int .i64 x9481), .lit (.int .i64 x9482)])) _
   refine WP.seq ?_
   refine WP.seq ?_
   refine WP.region ?_
   refine WPL.q (q_mv (v := .lit (.int _ _)) rfl) rfl ?_
   refine WPL.q (q_gtr rfl rfl) rfl ?_
   refine WPL.nilW ?_
   refine W.now ?_
   refine Then.n ?_
   refine WP.cond (t := (decide (0 < x9492))) rfl (fun hb9498 => ?_) (fun hb9498 => ?_)
   · replace H := cnt hb9498 H
     refine WP.skipW ?_
     refine W.now ?_
     refine Then.n ?_
     refine WP.seq ?_
     refine WP.block ?_
     refine WP.region ?_
     refine WPL.q (q_mv (v := .lit (.int _ _)) rfl) rfl ?_
     refine WPL.q (q_rem rfl rfl rfl) rfl ?_
     obtain ⟨x9500, h9500, H⟩ := bnd H
     refine WPL.q (q_nm (q_add rfl rfl) (nm_int h9500)) rfl ?_
     refine WPL.q (q_conv Try.underlying38 Try.underlying5 rfl) rfl ?_
     refine WPL.d (d_buildSlice (ds := ([(IntKind.wrap .u8 x9500)] : List Int)) (R := (Rd.int .u8)) li89 rfl rfl rfl rfl rfl (JoinRows.cons1 Joins.sc rfl JoinRows.nil) rfl rfl) rfl ?_
     refine WPL.q (q_bytes_str_row Try.underlying89 Try.underlying5 Try.underlying9 rfl rfl) rfl ?_
     refine WPL.q (q_mv (v := .lit (.string _)) rfl) rfl ?_
     obtain ⟨h9500, H⟩ := grd H
     refine WPL.q (q_concat rfl rfl h9500) rfl ?_
     refine WPL.q (q_as (v := .lit (.string _)) rfl) rfl ?_
     refine WPL.nilW ?_
     refine W.now ?_
     refine InBlock.n ?_
     refine Then.n ?_
     refine WP.region ?_
     refine WPL.q (q_mv (v := .lit (.int _ _)) rfl) rfl ?_
     refine WPL.q (q_quo rfl rfl rfl) rfl ?_
     refine WPL.q (q_as (v := .lit (.int _ _)) rfl) rfl ?_
     refine WPL.nilW ?_
     exact W.wk [0] hnp (Then.n ⟨n, (((strOf ([(IntKind.wrap .u8 x9500)] : List Int)) ++ x9491), (IntKind.wrap .u64 (Int.tdiv x9492 10))), Nat.lt_succ_self n, H, rfl, rfl⟩) ⟨rfl, ⟨trivial, .inr ⟨rfl, rfl, rfl⟩⟩, by decide, rfl, trivial⟩ (LeE.upd rfl rfl (LeE.upd rfl rfl (LeE.upd rfl rfl (LeE.none rfl rfl)))) rfl
   replace H := cnf hb9498 H
   refine WP.exitW ?_
   have q0 := (Option.some.inj H)
   subst q0
   exact W.wk [0] hnp (Then.x (Then.x ⟨rfl, rfl, rfl⟩)) ⟨rfl, ⟨trivial, .inr ⟨rfl, rfl, rfl⟩⟩, by decide, rfl, trivial⟩ (LeE.upd rfl rfl (LeE.upd rfl rfl (LeE.none rfl rfl))) rfl
 rintro _ _ _ ⟨rfl, rfl, rfl⟩
 refine W.now ?_
 refine InBlock.x0 ?_
 refine Then.n ?_
 refine WP.seq ?_
 obtain ⟨x9532, H9561, H⟩ := bnd H
 refine WP.monoW (Q := fun x E M => x = .normal ∧ E = ((Env.none.upd 1 (.ptr 0 0)).upd 3 (.lit (.string x9532))) ∧ M = (Mem.nil.push (.cells 23 [.lit (.int .i64 x9481), .lit (.int .i64 x9482)]))) ?_ ?_
 · clear H
   have H := H9561
   clear H9561
   refine WP.block ?_
   refine WP.seq ?_
   refine WP.region ?_
   refine WPL.q (q_fieldAddr fi23_0 rfl rfl) rfl ?_
   refine WPL.q (q_load sc2 rfl rfl rfl) rfl ?_
   refine WPL.q (q_eql rfl rfl) rfl ?_
   refine WPL.q (q_as (v := .lit (.bool _)) rfl) rfl ?_
   refine WPL.nilW ?_
   refine W.now ?_
   refine Then.n ?_
   refine WP.cond (t := (decide (x9481 = 0))) rfl (fun hb9532 => ?_) (fun hb9532 => ?_)
   · replace H := cnt hb9532 H
     refine WP.region ?_
     refine WPL.q (q_as (v := .lit (.string _)) rfl) rfl ?_
     refine WPL.nilW ?_
     have q0 := (Option.some.inj H)
     subst q0
     exact W.wk [0] hnp (InBlock.n ⟨rfl, rfl, rfl⟩) ⟨rfl, ⟨trivial, .inr ⟨rfl, rfl, rfl⟩⟩, by decide, rfl, trivial⟩ (LeE.upd rfl rfl (LeE.upd rfl rfl (LeE.none rfl rfl))) rfl
   replace H := cnf hb9532 H
   refine WP.seq ?_
   refine WP.region ?_
   refine WPL.q (q_fieldAddr fi23_1 rfl rfl) rfl ?_
   refine WPL.q (q_load sc3 rfl rfl rfl) rfl ?_
   refine WPL.q (q_gtr rfl rfl) rfl ?_
   refine WPL.q (q_as (v := .lit (.bool _)) rfl) rfl ?_
   refine WPL.nilW ?_
   refine W.now ?_
   refine Then.n ?_
   refine WP.cond (t := (decide (0 < x9482))) rfl (fun hb9533 => ?_) (fun hb9533 => ?_)
   · replace H := cnt hb9533 H
     refine WP.region ?_
     refine WPL.q (q_mv (v := .lit (.string _)) rfl) rfl ?_
     refine WPL.q (q_fieldAddr fi23_1 rfl rfl) rfl ?_
     refine WPL.q (q_load sc3 rfl rfl rfl) rfl ?_
     obtain ⟨x9536, h9534, H⟩ := bnd H
     refine WPL.c (runs_call (s := []) (t := []) (N := 1) (bor := []) fn66 rfl (s_strings_Repeat k (ByteArray.mk #[48]) x9482 x9536 h9534) ⟨rfl, trivial, by decide, rfl, trivial⟩ rfl trivial (.ren rfl rfl (.ren rfl rfl .nil)) rfl trivial rfl) rfl ?_
     obtain ⟨h9536, H⟩ := grd H
     refine WPL.q (q_concat rfl rfl h9536) rfl ?_
     refine WPL.q (q_as (v := .lit (.string _)) rfl) rfl ?_
     refine WPL.nilW ?_
     have q0 := (Option.some.inj H)
     subst q0
     exact W.wk [0] hnp (InBlock.n ⟨rfl, rfl, rfl⟩) ⟨rfl, ⟨trivial, .inr ⟨rfl, rfl, rfl⟩⟩, by decide, rfl, trivial⟩ (LeE.upd rfl rfl (LeE.upd rfl rfl (LeE.none rfl rfl))) rfl
   replace H := cnf hb9533 H
   refine WP.seq ?_
   refine WP.region ?_
   refine WPL.q (q_fieldAddr fi23_1 rfl rfl) rfl ?_
   refine WPL.q (q_load sc3 rfl rfl rfl) rfl ?_
   refine WPL.q (q_lss rfl rfl) rfl ?_
   refine WPL.q (q_as (v := .lit (.bool _)) rfl) rfl ?_
   refine WPL.nilW ?_
   refine W.now ?_
   refine Then.n ?_
   refine WP.cond (t := (decide (x9482 < 0))) rfl (fun hb9537 => ?_) (fun hb9537 => ?_)
   · replace H := cnt hb9537 H
     refine WP.seq ?_
     refine WP.region ?_
     refine WPL.q (q_fieldAddr fi23_1 rfl rfl) rfl ?_
     refine WPL.q (q_load sc3 rfl rfl rfl) rfl ?_
     refine WPL.q (q_sub rfl rfl) rfl ?_
     refine WPL.q (q_mv (v := .lit (.string _)) rfl) rfl ?_
     refine WPL.q (q_len_str Try.underlying9 rfl) rfl ?_
     obtain ⟨x9539, h9539, H⟩ := bnd H
     refine WPL.q (q_nm (q_sub rfl rfl) (nm_int h9539)) rfl ?_
     obtain ⟨x9540, h9540, H⟩ := bnd H
     refine WPL.q (q_nm (q_max rfl rfl) (nm_int h9540)) rfl ?_
     obtain ⟨x9542, h9540, H⟩ := bnd H
     refine WPL.c (runs_call (s := []) (t := []) (N := 1) (bor := []) fn66 rfl (s_strings_Repeat k (ByteArray.mk #[48]) x9540 x9542 h9540) ⟨rfl, trivial, by decide, rfl, trivial⟩ rfl trivial (.ren rfl rfl (.ren rfl rfl .nil)) rfl trivial rfl) rfl ?_
     refine WPL.q (q_mv (v := .lit (.string _)) rfl) rfl ?_
     obtain ⟨h9542, H⟩ := grd H
     refine WPL.q (q_concat rfl rfl h9542) rfl ?_
     refine WPL.q (q_as (v := .lit (.string _)) rfl) rfl ?_
     refine WPL.nilW ?_
     refine W.now ?_
     refine Then.n ?_
     refine WP.regionD' 17 [0] [] mixed rfl ?_
     refine WPD.takeT 0 rfl (by kernel_rfl) (q_mv (v := .lit (.string _)) rfl) rfl ?_
     refine WPD.takeT 1 rfl (by kernel_rfl) (q_mv (v := .lit (.string _)) rfl) rfl ?_
     obtain ⟨x9554, h9554, H⟩ := bnd H
     refine WPD.takeT 2 rfl (by kernel_rfl) (q_nm (q_len_str Try.underlying9 rfl) (nm_int h9554)) rfl ?_
     refine WPD.takeT 3 rfl (by kernel_rfl) (q_fieldAddr fi23_1 rfl rfl) rfl ?_
     refine WPD.takeT 8 rfl (by kernel_rfl) (q_mv (v := .lit (.string _)) rfl) rfl ?_
     refine WPD.takeT 9 rfl (by kernel_rfl) (q_mv (v := .lit (.string _)) rfl) rfl ?_
     obtain ⟨x9555, h9555, H⟩ := bnd H
     refine WPD.takeT 10 rfl (by kernel_rfl) (q_nm (q_len_str Try.underlying9 rfl) (nm_int h9555)) rfl ?_
     refine WPD.takeT 11 rfl (by kernel_rfl) (q_fieldAddr fi23_1 rfl rfl) rfl ?_
     refine WPD.take 4 rfl (by kernel_rfl) (q_load sc3 rfl rfl rfl) rfl rfl ?_
     refine WPD.takeT 5 rfl (by kernel_rfl) (q_add rfl rfl) rfl ?_
     obtain ⟨h9555, H⟩ := grd H
     obtain ⟨x9557, h9557, H⟩ := bnd H
     refine WPD.takeT 6 rfl (by kernel_rfl) (q_nm (q_slice_str (i := 0) (j := (IntKind.wrap .i64 (x9554 + x9482))) Try.underlying9 rfl rfl ⟨_, rfl⟩ h9555) (nm_str h9557)) rfl ?_
     obtain ⟨h9557, H⟩ := grd H
     refine WPD.takeT 7 rfl (by kernel_rfl) (q_concat rfl rfl h9557) rfl ?_
     refine WPD.take 12 rfl (by kernel_rfl) (q_load sc3 rfl rfl rfl) rfl rfl ?_
     refine WPD.takeT 13 rfl (by kernel_rfl) (q_add rfl rfl) rfl ?_
     obtain ⟨h9558, H⟩ := grd H
     obtain ⟨x9560, h9560, H⟩ := bnd H
     refine WPD.takeT 14 rfl (by kernel_rfl) (q_nm (q_slice_str (i := (IntKind.wrap .i64 (x9555 + x9482))) (j := ((ByteArray.size (x9542 ++ x9497) : Nat) : Int)) Try.underlying9 rfl ⟨_, rfl⟩ rfl h9558) (nm_str h9560)) rfl ?_
     obtain ⟨h9560, H⟩ := grd H
     refine WPD.takeT 15 rfl (by kernel_rfl) (q_concat rfl rfl h9560) rfl ?_
     refine WPD.takeT 16 rfl (by kernel_rfl) (q_as (v := .lit (.string _)) rfl) rfl ?_
     refine WPD.doneW (by kernel_rfl) ?_
     have q0 := (Option.some.inj H)
     subst q0
     exact W.wk [0] hnp (InBlock.n ⟨rfl, rfl, rfl⟩) ⟨rfl, ⟨trivial, .inr ⟨rfl, rfl, rfl⟩⟩, by decide, rfl, trivial⟩ (LeE.upd rfl rfl (LeE.upd rfl rfl (LeE.none rfl rfl))) rfl
   replace H := cnf hb9537 H
   refine WP.skipW ?_
   have q0 := (Option.some.inj H)
   subst q0
   exact W.wk [0] hnp (InBlock.n ⟨rfl, rfl, rfl⟩) ⟨rfl, ⟨trivial, .inr ⟨rfl, rfl, rfl⟩⟩, by decide, rfl, trivial⟩ (LeE.upd rfl rfl (LeE.upd rfl rfl (LeE.none rfl rfl))) rfl
 rintro _ _ _ ⟨rfl, rfl, rfl⟩
 refine W.now ?_
 refine Then.n ?_
 refine WP.seq ?_
 obtain ⟨x9565, H9567, H⟩ := bnd H
 refine WP.monoW (Q := fun x E M => x = .normal ∧ E = (Env.none.upd 3 (.lit (.string x9565))) ∧ M = Mem.nil) ?_ ?_
 · clear H
   have H := H9567
   clear H9567
   refine WP.seq ?_
   refine WP.region ?_
   refine WPL.q (q_fieldAddr fi23_0 rfl rfl) rfl ?_
   refine WPL.q (q_load sc2 rfl rfl rfl) rfl ?_
   refine WPL.q (q_lss rfl rfl) rfl ?_
   refine WPL.nilW ?_
   refine W.now ?_
   refine Then.n ?_
   refine WP.cond (t := (decide (x9481 < 0))) rfl (fun hb9565 => ?_) (fun hb9565 => ?_)
   · replace H := cnt hb9565 H
     refine WP.region ?_
     refine WPL.q (q_mv (v := .lit (.string _)) rfl) rfl ?_
     obtain ⟨h9566, H⟩ := grd H
     refine WPL.q (q_concat rfl rfl h9566) rfl ?_
     refine WPL.q (q_as (v := .lit (.string _)) rfl) rfl ?_
     refine WPL.nilW ?_
     have q0 := (Option.some.inj H)
     subst q0
     exact W.wk [] hnp ⟨rfl, rfl, rfl⟩ ⟨rfl, trivial, by decide, rfl, trivial⟩ (LeE.upd rfl rfl (LeE.none rfl rfl)) rfl
   replace H := cnf hb9565 H
   refine WP.skipW ?_
   have q0 := (Option.some.inj H)
   subst q0
   exact W.wk [] hnp ⟨rfl, rfl, rfl⟩ ⟨rfl, trivial, by decide, rfl, trivial⟩ (LeE.upd rfl rfl (LeE.none rfl rfl)) rfl
 rintro _ _ _ ⟨rfl, rfl, rfl⟩
 refine W.now ?_
 refine Then.n ?_
 refine WP.seq ?_
 refine WP.region ?_
 refine WPL.q (q_mv (v := .lit (.string _)) rfl) rfl ?_
 refine WPL.q (q_as (v := .lit (.string _)) rfl) rfl ?_
 refine WPL.nilW ?_
 refine W.now ?_
 refine Then.n ?_
 refine WP.retW ?_
 have q0 := (Option.some.inj H)
 subst q0
 exact W.now (BodyR.mkR trivial rfl [] ⟨rfl, rfl⟩ ⟨rfl, trivial, by decide, rfl, trivial⟩ rfl rfl)
set_option maxRecDepth 100000 in
set_option maxHeartbeats 4000000 in
theorem s_quirelaw09_alive (k : Nat) (x9591 : Bool) (H : g_quirelaw09_alive k = some x9591) : Go.Q.Spec Try.prog 13 0 [] Mem.nil (fun o M => o = .ret (.lit (.bool x9591)) ∧ M = Mem.nil) := by
 unfold g_quirelaw09_alive at H
 refine Go.Q.Spec.of_bodyR (az := []) (rs := [.tmp 0]) (nt := 94) Try.func13 rfl rfl (by intro t T h; simp at h) rfl rfl fun cx hnp => ?_
 refine WP.seq ?_
 refine WP.region ?_
 refine WPL.q (q_as (v := .lit (.bool _)) rfl) rfl ?_
 refine WPL.nilW ?_
 refine W.now ?_
 refine Then.n ?_
 refine WP.seq ?_
 refine WP.region ?_
 obtain ⟨⟨x9593, x9594, x9595⟩, h9591, H⟩ := bnd H
 refine WPL.c (runs_call (s := []) (t := [0]) (N := 1) (bor := []) fn25 rfl (s_dec_Make k 120 0 x9593 x9594 x9595 h9591) ⟨rfl, trivial, by decide, rfl, trivial⟩ rfl trivial (.ren rfl rfl (.ren rfl rfl .nil)) rfl ⟨trivial, rfl⟩ rfl) rfl ?_
 refine WPL.q (q_mv (v := .tup _) rfl) rfl ?_
 refine WPL.q (q_extract rfl rfl) rfl ?_
 refine WPL.q (q_extract rfl rfl) rfl ?_
 refine WPL.d (d_alloc ze23 rfl) rfl ?_
 refine WPL.s (s_store sz23 rfl rfl rfl rfl rfl) ?_
 refine WPL.q (q_as (v := .lit (.int _ _)) rfl) rfl ?_
 refine WPL.nilW ?_
 refine W.now ?_
 refine Then.n ?_
 refine WP.seq ?_
 refine WP.region ?_
 refine WPL.q (q_build bu23 rfl) rfl ?_
 refine WPL.q (q_build bu23 rfl) rfl ?_
 obtain ⟨⟨x9597, x9598, x9599⟩, h9595, H⟩ := bnd H
 refine WPL.c (runs_call (s := []) (t := [2]) (N := 3) (bor := []) fn14 rfl (s_dec_Add k 1 (-1) 2 (-1) x9597 x9598 x9599 h9595) ⟨rfl, trivial, by decide, rfl, trivial⟩ rfl trivial (.ren rfl rfl (.ren rfl rfl .nil)) rfl ⟨trivial, rfl⟩ rfl) rfl ?_
 refine WPL.q (q_mv (v := .tup _) rfl) rfl ?_
 refine WPL.q (q_extract rfl rfl) rfl ?_
 refine WPL.q (q_extract rfl rfl) rfl ?_
 refine WPL.d (d_alloc ze23 rfl) rfl ?_
 refine WPL.s (s_store sz23 rfl rfl rfl rfl rfl) ?_
 refine WPL.q (q_as (v := .lit (.int _ _)) rfl) rfl ?_
 refine WPL.nilW ?_
 refine W.now ?_
 refine Then.n ?_
 refine WP.seq ?_
 refine WP.region ?_
 refine WPL.q (q_build bu23 rfl) rfl ?_
 refine WPL.q (q_build bu23 rfl) rfl ?_
 obtain ⟨⟨x9601, x9602, x9603⟩, h9599, H⟩ := bnd H
 refine WPL.c (runs_call (s := []) (t := [4]) (N := 5) (bor := []) fn7 rfl (s_dec_Div k 1 0 4 0 x9601 x9602 x9603 h9599) ⟨rfl, trivial, by decide, rfl, trivial⟩ rfl trivial (.ren rfl rfl (.ren rfl rfl .nil)) rfl ⟨trivial, rfl⟩ rfl) rfl ?_
 refine WPL.q (q_mv (v := .tup _) rfl) rfl ?_
 refine WPL.q (q_extract rfl rfl) rfl ?_
 refine WPL.q (q_extract rfl rfl) rfl ?_
 refine WPL.d (d_alloc ze23 rfl) rfl ?_
 refine WPL.s (s_store sz23 rfl rfl rfl rfl rfl) ?_
 refine WPL.q (q_as (v := .lit (.int _ _)) rfl) rfl ?_
 refine WPL.nilW ?_
 refine W.now ?_
 refine Then.n ?_
 refine WP.seq ?_
 refine WP.region ?_
 refine WPL.q (q_build bu23 rfl) rfl ?_
 refine WPL.q (q_build bu23 rfl) rfl ?_
 obtain ⟨⟨x9605, x9606, x9607⟩, h9603, H⟩ := bnd H
 refine WPL.c (runs_call (s := []) (t := [6]) (N := 7) (bor := []) fn7 rfl (s_dec_Div k 1 0 3 0 x9605 x9606 x9607 h9603) ⟨rfl, trivial, by decide, rfl, trivial⟩ rfl trivial (.ren rfl rfl (.ren rfl rfl .nil)) rfl ⟨trivial, rfl⟩ rfl) rfl ?_
 refine WPL.q (q_mv (v := .tup _) rfl) rfl ?_
 refine WPL.q (q_extract rfl rfl) rfl ?_
 refine WPL.q (q_extract rfl rfl) rfl ?_
 refine WPL.d (d_alloc ze23 rfl) rfl ?_
 refine WPL.s (s_store sz23 rfl rfl rfl rfl rfl) ?_
 refine WPL.q (q_as (v := .lit (.int _ _)) rfl) rfl ?_
 refine WPL.nilW ?_
 refine W.now ?_
 refine Then.n ?_
 refine WP.seq ?_
 refine WP.region ?_
 refine WPL.q (q_build bu23 rfl) rfl ?_
 refine WPL.q (q_build bu23 rfl) rfl ?_
 obtain ⟨⟨x9609, x9610, x9611⟩, h9607, H⟩ := bnd H
 refine WPL.c (runs_call (s := []) (t := [8]) (N := 9) (bor := []) fn7 rfl (s_dec_Div k 1 0 0 0 x9609 x9610 x9611 h9607) ⟨rfl, trivial, by decide, rfl, trivial⟩ rfl trivial (.ren rfl rfl (.ren rfl rfl .nil)) rfl ⟨trivial, rfl⟩ rfl) rfl ?_
 refine WPL.q (q_mv (v := .tup _) rfl) rfl ?_
 refine WPL.q (q_extract rfl rfl) rfl ?_
 refine WPL.q (q_extract rfl rfl) rfl ?_
 refine WPL.d (d_alloc ze23 rfl) rfl ?_
 refine WPL.s (s_store sz23 rfl rfl rfl rfl rfl) ?_
 refine WPL.q (q_as (v := .lit (.int _ _)) rfl) rfl ?_
 refine WPL.nilW ?_
 refine W.now ?_
 refine Then.n ?_
 refine WP.seq ?_
 refine WP.region ?_
 refine WPL.q (q_build bu23 rfl) rfl ?_
 refine WPL.q (q_build bu23 rfl) rfl ?_
 obtain ⟨⟨x9613, x9614, x9615⟩, h9611, H⟩ := bnd H
 refine WPL.c (runs_call (s := []) (t := [10]) (N := 11) (bor := []) fn9 rfl (s_dec_Mod k (-7) 0 3 0 x9613 x9614 x9615 h9611) ⟨rfl, trivial, by decide, rfl, trivial⟩ rfl trivial (.ren rfl rfl (.ren rfl rfl .nil)) rfl ⟨trivial, rfl⟩ rfl) rfl ?_
 refine WPL.q (q_mv (v := .tup _) rfl) rfl ?_
 refine WPL.q (q_extract rfl rfl) rfl ?_
 refine WPL.q (q_extract rfl rfl) rfl ?_
 refine WPL.d (d_alloc ze23 rfl) rfl ?_
 refine WPL.s (s_store sz23 rfl rfl rfl rfl rfl) ?_
 refine WPL.q (q_as (v := .lit (.int _ _)) rfl) rfl ?_
 refine WPL.nilW ?_
 refine W.now ?_
 refine Then.n ?_
 refine WP.seq ?_
 obtain ⟨x9633, H9650, H⟩ := bnd H
 refine WP.monoW (Q := fun x E M => x = .normal ∧ E = (Env.none.upd 0 (.lit (.bool x9633))) ∧ M = Mem.nil) ?_ ?_
 · clear H
   have H := H9650
   clear H9650
   refine WP.region ?_
   refine WPL.q (q_load_ag ag23 rfl rfl (Nat.le_of_ble_eq_true rfl)) rfl ?_
   refine WPL.q (q_build bu23 rfl) rfl ?_
   obtain ⟨x9634, h9634, H⟩ := bnd H
   refine WPL.q (q_nm (q_eqlAg (xs := [(.int .i64 x9594), (.int .i64 x9595)]) (ys := [(.int .i64 12), (.int .i64 1)]) (n := 9) rfl eg23 rfl rfl eq23) (nm_bool h9634)) rfl ?_
   refine WPL.q (q_mv (v := .lit (.bool _)) rfl) rfl ?_
   refine WPL.split (t := 50) (b := x9634) rfl (fun hb9634 => ?_) (fun hb9634 => ?_)
   · replace H := cnt hb9634 H
     refine WPL.qg rfl rfl (lb hb9634) (q_mv (v := .lit (.int _ _)) rfl) rfl ?_
     refine WPL.qg rfl rfl (lb hb9634) (q_eql rfl rfl) rfl ?_
     refine WPL.q (q_pickT (v := .lit (.bool _)) (lb hb9634) rfl) rfl ?_
     refine WPL.q (q_mv (v := .lit (.bool _)) rfl) rfl ?_
     refine WPL.split (t := 54) (b := (decide (x9593 = 0))) rfl (fun hb9635 => ?_) (fun hb9635 => ?_)
     · replace H := cnt hb9635 H
       refine WPL.qg rfl rfl (lb hb9635) (q_load_ag ag23 rfl rfl (Nat.le_of_ble_eq_true rfl)) rfl ?_
       refine WPL.qg rfl rfl (lb hb9635) (q_build bu23 rfl) rfl ?_
       obtain ⟨x9637, h9637, H⟩ := bnd H
       refine WPL.qg rfl rfl (lb hb9635) (q_nm (q_eqlAg (xs := [(.int .i64 x9598), (.int .i64 x9599)]) (ys := [(.int .i64 3), (.int .i64 (-1))]) (n := 9) rfl eg23 rfl rfl eq23) (nm_bool h9637)) rfl ?_
       refine WPL.q (q_pickT (v := .lit (.bool _)) (lb hb9635) rfl) rfl ?_
       refine WPL.q (q_mv (v := .lit (.bool _)) rfl) rfl ?_
       refine WPL.split (t := 59) (b := x9637) rfl (fun hb9637 => ?_) (fun hb9637 => ?_)
       · replace H := cnt hb9637 H
         refine WPL.qg rfl rfl (lb hb9637) (q_mv (v := .lit (.int _ _)) rfl) rfl ?_
         refine WPL.qg rfl rfl (lb hb9637) (q_eql rfl rfl) rfl ?_
         refine WPL.q (q_pickT (v := .lit (.bool _)) (lb hb9637) rfl) rfl ?_
         refine WPL.q (q_mv (v := .lit (.bool _)) rfl) rfl ?_
         refine WPL.split (t := 63) (b := (decide (x9597 = 0))) rfl (fun hb9638 => ?_) (fun hb9638 => ?_)
         · replace H := cnt hb9638 H
           refine WPL.qg rfl rfl (lb hb9638) (q_load_ag ag23 rfl rfl (Nat.le_of_ble_eq_true rfl)) rfl ?_
           refine WPL.qg rfl rfl (lb hb9638) (q_build bu23 rfl) rfl ?_
           obtain ⟨x9640, h9640, H⟩ := bnd H
           refine WPL.qg rfl rfl (lb hb9638) (q_nm (q_eqlAg (xs := [(.int .i64 x9602), (.int .i64 x9603)]) (ys := [(.int .i64 25), (.int .i64 (-2))]) (n := 9) rfl eg23 rfl rfl eq23) (nm_bool h9640)) rfl ?_
           refine WPL.q (q_pickT (v := .lit (.bool _)) (lb hb9638) rfl) rfl ?_
           refine WPL.q (q_mv (v := .lit (.bool _)) rfl) rfl ?_
           refine WPL.split (t := 68) (b := x9640) rfl (fun hb9640 => ?_) (fun hb9640 => ?_)
           · replace H := cnt hb9640 H
             refine WPL.qg rfl rfl (lb hb9640) (q_mv (v := .lit (.int _ _)) rfl) rfl ?_
             refine WPL.qg rfl rfl (lb hb9640) (q_eql rfl rfl) rfl ?_
             refine WPL.q (q_pickT (v := .lit (.bool _)) (lb hb9640) rfl) rfl ?_
             refine WPL.q (q_mv (v := .lit (.bool _)) rfl) rfl ?_
             refine WPL.split (t := 72) (b := (decide (x9601 = 0))) rfl (fun hb9641 => ?_) (fun hb9641 => ?_)
             · replace H := cnt hb9641 H
               refine WPL.qg rfl rfl (lb hb9641) (q_mv (v := .lit (.int _ _)) rfl) rfl ?_
               refine WPL.qg rfl rfl (lb hb9641) (q_eql rfl rfl) rfl ?_
               refine WPL.q (q_pickT (v := .lit (.bool _)) (lb hb9641) rfl) rfl ?_
               refine WPL.q (q_mv (v := .lit (.bool _)) rfl) rfl ?_
               refine WPL.split (t := 76) (b := (decide (x9605 = 30))) rfl (fun hb9642 => ?_) (fun hb9642 => ?_)
               · replace H := cnt hb9642 H
                 refine WPL.qg rfl rfl (lb hb9642) (q_mv (v := .lit (.int _ _)) rfl) rfl ?_
                 refine WPL.qg rfl rfl (lb hb9642) (q_eql rfl rfl) rfl ?_
                 refine WPL.q (q_pickT (v := .lit (.bool _)) (lb hb9642) rfl) rfl ?_
                 refine WPL.q (q_mv (v := .lit (.bool _)) rfl) rfl ?_
                 refine WPL.split (t := 80) (b := (decide (x9609 = 31))) rfl (fun hb9643 => ?_) (fun hb9643 => ?_)
                 · replace H := cnt hb9643 H
                   refine WPL.qg rfl rfl (lb hb9643) (q_load_ag ag23 rfl rfl (Nat.le_of_ble_eq_true rfl)) rfl ?_
                   refine WPL.qg rfl rfl (lb hb9643) (q_build bu23 rfl) rfl ?_
                   obtain ⟨x9645, h9645, H⟩ := bnd H
                   refine WPL.qg rfl rfl (lb hb9643) (q_nm (q_eqlAg (xs := [(.int .i64 x9614), (.int .i64 x9615)]) (ys := [(.int .i64 2), (.int .i64 0)]) (n := 9) rfl eg23 rfl rfl eq23) (nm_bool h9645)) rfl ?_
                   refine WPL.q (q_pickT (v := .lit (.bool _)) (lb hb9643) rfl) rfl ?_
                   refine WPL.q (q_mv (v := .lit (.bool _)) rfl) rfl ?_
                   refine WPL.split (t := 85) (b := x9645) rfl (fun hb9645 => ?_) (fun hb9645 => ?_)
                   · replace H := cnt hb9645 H
                     refine WPL.qg rfl rfl (lb hb9645) (q_mv (v := .lit (.int _ _)) rfl) rfl ?_
                     refine WPL.qg rfl rfl (lb hb9645) (q_eql rfl rfl) rfl ?_
                     refine WPL.q (q_pickT (v := .lit (.bool _)) (lb hb9645) rfl) rfl ?_
                     refine WPL.q (q_mv (v := .lit (.bool _)) rfl) rfl ?_
                     refine WPL.split (t := 89) (b := (decide (x9613 = 0))) rfl (fun hb9646 => ?_) (fun hb9646 => ?_)
                     · replace H := cnt hb9646 H
                       refine WPL.qg rfl rfl (lb hb9646) (q_build bu23 rfl) rfl ?_
                       obtain ⟨x9649, h9647, H⟩ := bnd H
                       refine WPL.cg rfl rfl (lb hb9646) (runs_call (s := []) (t := []) (N := 12) (bor := []) fn45 rfl (s_dec_Print k 5 (-3) x9649 h9647) ⟨rfl, trivial, by decide, rfl, trivial⟩ rfl trivial (.ren rfl rfl .nil) rfl trivial rfl) rfl ?_
                       obtain ⟨x9650, h9650, H⟩ := bnd H
                       refine WPL.qg rfl rfl (lb hb9646) (q_nm (q_eqls rfl rfl) (nm_bool h9650)) rfl ?_
                       refine WPL.q (q_pickT (v := .lit (.bool _)) (lb hb9646) rfl) rfl ?_
                       refine WPL.q (q_as (v := .lit (.bool _)) rfl) rfl ?_
                       refine WPL.nilW ?_
                       have q0 := (Option.some.inj H)
                       subst q0
                       exact W.wk [] hnp ⟨rfl, rfl, rfl⟩ ⟨rfl, trivial, by decide, rfl, trivial⟩ (LeE.upd rfl rfl (LeE.none rfl rfl)) rfl
                     replace H := cnf hb9646 H
                     refine WPL.skipg (b' := false) rfl rfl (lb hb9646) rfl rfl ?_
                     refine WPL.skipg (b' := false) rfl rfl (lb hb9646) rfl rfl ?_
                     refine WPL.skipg (b' := false) rfl rfl (lb hb9646) rfl rfl ?_
                     refine WPL.q (q_pickF (v := .lit (.bool _)) (lb hb9646) rfl) rfl ?_
                     refine WPL.q (q_as (v := .lit (.bool _)) rfl) rfl ?_
                     refine WPL.nilW ?_
                     have q0 := (Option.some.inj H)
                     subst q0
                     exact W.wk [] hnp ⟨rfl, rfl, rfl⟩ ⟨rfl, trivial, by decide, rfl, trivial⟩ (LeE.upd rfl rfl (LeE.none rfl rfl)) rfl
                   replace H := cnf hb9645 H
                   refine WPL.skipg (b' := false) rfl rfl (lb hb9645) rfl rfl ?_
                   refine WPL.skipg (b' := false) rfl rfl (lb hb9645) rfl rfl ?_
                   refine WPL.q (q_pickF (v := .lit (.bool _)) (lb hb9645) rfl) rfl ?_
                   refine WPL.q (q_mv (v := .lit (.bool _)) rfl) rfl ?_
                   refine WPL.skipg (b' := false) rfl rfl rfl rfl rfl ?_
                   refine WPL.skipg (b' := false) rfl rfl rfl rfl rfl ?_
                   refine WPL.skipg (b' := false) rfl rfl rfl rfl rfl ?_
                   refine WPL.q (q_pickF (v := .lit (.bool _)) rfl rfl) rfl ?_
                   refine WPL.q (q_as (v := .lit (.bool _)) rfl) rfl ?_
                   refine WPL.nilW ?_
                   have q0 := (Option.some.inj H)
                   subst q0
                   exact W.wk [] hnp ⟨rfl, rfl, rfl⟩ ⟨rfl, trivial, by decide, rfl, trivial⟩ (LeE.upd rfl rfl (LeE.none rfl rfl)) rfl
                 replace H := cnf hb9643 H
                 refine WPL.skipg (b' := false) rfl rfl (lb hb9643) rfl rfl ?_
                 refine WPL.skipg (b' := false) rfl rfl (lb hb9643) rfl rfl ?_
                 refine WPL.skipg (b' := false) rfl rfl (lb hb9643) rfl rfl ?_
                 refine WPL.q (q_pickF (v := .lit (.bool _)) (lb hb9643) rfl) rfl ?_
                 refine WPL.q (q_mv (v := .lit (.bool _)) rfl) rfl ?_
                 refine WPL.skipg (b' := false) rfl rfl rfl rfl rfl ?_
                 refine WPL.skipg (b' := false) rfl rfl rfl rfl rfl ?_
                 refine WPL.q (q_pickF (v := .lit (.bool _)) rfl rfl) rfl ?_
                 refine WPL.q (q_mv (v := .lit (.bool _)) rfl) rfl ?_
                 refine WPL.skipg (b' := false) rfl rfl rfl rfl rfl ?_
                 refine WPL.skipg (b' := false) rfl rfl rfl rfl rfl ?_
                 refine WPL.skipg (b' := false) rfl rfl rfl rfl rfl ?_
                 refine WPL.q (q_pickF (v := .lit (.bool _)) rfl rfl) rfl ?_
                 refine WPL.q (q_as (v := .lit (.bool _)) rfl) rfl ?_
                 refine WPL.nilW ?_
                 have q0 := (Option.some.inj H)
                 subst q0
                 exact W.wk [] hnp ⟨rfl, rfl, rfl⟩ ⟨rfl, trivial, by decide, rfl, trivial⟩ (LeE.upd rfl rfl (LeE.none rfl rfl)) rfl
               replace H := cnf hb9642 H
               refine WPL.skipg (b' := false) rfl rfl (lb hb9642) rfl rfl ?_
               refine WPL.skipg (b' := false) rfl rfl (lb hb9642) rfl rfl ?_
               refine WPL.q (q_pickF (v := .lit (.bool _)) (lb hb9642) rfl) rfl ?_
               refine WPL.q (q_mv (v := .lit (.bool _)) rfl) rfl ?_
               refine WPL.skipg (b' := false) rfl rfl rfl rfl rfl ?_
               refine WPL.skipg (b' := false) rfl rfl rfl rfl rfl ?_
               refine WPL.skipg (b' := false) rfl rfl rfl rfl rfl ?_
               refine WPL.q (q_pickF (v := .lit (.bool _)) rfl rfl) rfl ?_
               refine WPL.q (q_mv (v := .lit (.bool _)) rfl) rfl ?_
               refine WPL.skipg (b' := false) rfl rfl rfl rfl rfl ?_
               refine WPL.skipg (b' := false) rfl rfl rfl rfl rfl ?_
               refine WPL.q (q_pickF (v := .lit (.bool _)) rfl rfl) rfl ?_
               refine WPL.q (q_mv (v := .lit (.bool _)) rfl) rfl ?_
               refine WPL.skipg (b' := false) rfl rfl rfl rfl rfl ?_
               refine WPL.skipg (b' := false) rfl rfl rfl rfl rfl ?_
               refine WPL.skipg (b' := false) rfl rfl rfl rfl rfl ?_
               refine WPL.q (q_pickF (v := .lit (.bool _)) rfl rfl) rfl ?_
               refine WPL.q (q_as (v := .lit (.bool _)) rfl) rfl ?_
               refine WPL.nilW ?_
               have q0 := (Option.some.inj H)
               subst q0
               exact W.wk [] hnp ⟨rfl, rfl, rfl⟩ ⟨rfl, trivial, by decide, rfl, trivial⟩ (LeE.upd rfl rfl (LeE.none rfl rfl)) rfl
             replace H := cnf hb9641 H
             refine WPL.skipg (b' := false) rfl rfl (lb hb9641) rfl rfl ?_
             refine WPL.skipg (b' := false) rfl rfl (lb hb9641) rfl rfl ?_
             refine WPL.q (q_pickF (v := .lit (.bool _)) (lb hb9641) rfl) rfl ?_
             refine WPL.q (q_mv (v := .lit (.bool _)) rfl) rfl ?_
             refine WPL.skipg (b' := false) rfl rfl rfl rfl rfl ?_
             refine WPL.skipg (b' := false) rfl rfl rfl rfl rfl ?_
             refine WPL.q (q_pickF (v := .lit (.bool _)) rfl rfl) rfl ?_
             refine WPL.q (q_mv (v := .lit (.bool _)) rfl) rfl ?_
             refine WPL.skipg (b' := false) rfl rfl rfl rfl rfl ?_
             refine WPL.skipg (b' := false) rfl rfl rfl rfl rfl ?_
             refine WPL.skipg (b' := false) rfl rfl rfl rfl rfl ?_
             refine WPL.q (q_pickF (v := .lit (.bool _)) rfl rfl) rfl ?_
             refine WPL.q (q_mv (v := .lit (.bool _)) rfl) rfl ?_
             refine WPL.skipg (b' := false) rfl rfl rfl rfl rfl ?_
             refine WPL.skipg (b' := false) rfl rfl rfl rfl rfl ?_
             refine WPL.q (q_pickF (v := .lit (.bool _)) rfl rfl) rfl ?_
             refine WPL.q (q_mv (v := .lit (.bool _)) rfl) rfl ?_
             refine WPL.skipg (b' := false) rfl rfl rfl rfl rfl ?_
             refine WPL.skipg (b' := false) rfl rfl rfl rfl rfl ?_
             refine WPL.skipg (b' := false) rfl rfl rfl rfl rfl ?_
             refine WPL.q (q_pickF (v := .lit (.bool _)) rfl rfl) rfl ?_
             refine WPL.q (q_as (v := .lit (.bool _)) rfl) rfl ?_
             refine WPL.nilW ?_
             have q0 := (Option.some.inj H)
             subst q0
             exact W.wk [] hnp ⟨rfl, rfl, rfl⟩ ⟨rfl, trivial, by decide, rfl, trivial⟩ (LeE.upd rfl rfl (LeE.none rfl rfl)) rfl
           replace H := cnf hb9640 H
           refine WPL.skipg (b' := false) rfl rfl (lb hb9640) rfl rfl ?_
           refine WPL.skipg (b' := false) rfl rfl (lb hb9640) rfl rfl ?_
           refine WPL.q (q_pickF (v := .lit (.bool _)) (lb hb9640) rfl) rfl ?_
           refine WPL.q (q_mv (v := .lit (.bool _)) rfl) rfl ?_
           refine WPL.skipg (b' := false) rfl rfl rfl rfl rfl ?_
           refine WPL.skipg (b' := false) rfl rfl rfl rfl rfl ?_
           refine WPL.q (q_pickF (v := .lit (.bool _)) rfl rfl) rfl ?_
           refine WPL.q (q_mv (v := .lit (.bool _)) rfl) rfl ?_
           refine WPL.skipg (b' := false) rfl rfl rfl rfl rfl ?_
           refine WPL.skipg (b' := false) rfl rfl rfl rfl rfl ?_
           refine WPL.q (q_pickF (v := .lit (.bool _)) rfl rfl) rfl ?_
           refine WPL.q (q_mv (v := .lit (.bool _)) rfl) rfl ?_
           refine WPL.skipg (b' := false) rfl rfl rfl rfl rfl ?_
           refine WPL.skipg (b' := false) rfl rfl rfl rfl rfl ?_
           refine WPL.skipg (b' := false) rfl rfl rfl rfl rfl ?_
           refine WPL.q (q_pickF (v := .lit (.bool _)) rfl rfl) rfl ?_
           refine WPL.q (q_mv (v := .lit (.bool _)) rfl) rfl ?_
           refine WPL.skipg (b' := false) rfl rfl rfl rfl rfl ?_
           refine WPL.skipg (b' := false) rfl rfl rfl rfl rfl ?_
           refine WPL.q (q_pickF (v := .lit (.bool _)) rfl rfl) rfl ?_
           refine WPL.q (q_mv (v := .lit (.bool _)) rfl) rfl ?_
           refine WPL.skipg (b' := false) rfl rfl rfl rfl rfl ?_
           refine WPL.skipg (b' := false) rfl rfl rfl rfl rfl ?_
           refine WPL.skipg (b' := false) rfl rfl rfl rfl rfl ?_
           refine WPL.q (q_pickF (v := .lit (.bool _)) rfl rfl) rfl ?_
           refine WPL.q (q_as (v := .lit (.bool _)) rfl) rfl ?_
           refine WPL.nilW ?_
           have q0 := (Option.some.inj H)
           subst q0
           exact W.wk [] hnp ⟨rfl, rfl, rfl⟩ ⟨rfl, trivial, by decide, rfl, trivial⟩ (LeE.upd rfl rfl (LeE.none rfl rfl)) rfl
         replace H := cnf hb9638 H
         refine WPL.skipg (b' := false) rfl rfl (lb hb9638) rfl rfl ?_
         refine WPL.skipg (b' := false) rfl rfl (lb hb9638) rfl rfl ?_
         refine WPL.skipg (b' := false) rfl rfl (lb hb9638) rfl rfl ?_
         refine WPL.q (q_pickF (v := .lit (.bool _)) (lb hb9638) rfl) rfl ?_
         refine WPL.q (q_mv (v := .lit (.bool _)) rfl) rfl ?_
         refine WPL.skipg (b' := false) rfl rfl rfl rfl rfl ?_
         refine WPL.skipg (b' := false) rfl rfl rfl rfl rfl ?_
         refine WPL.q (q_pickF (v := .lit (.bool _)) rfl rfl) rfl ?_
         refine WPL.q (q_mv (v := .lit (.bool _)) rfl) rfl ?_
         refine WPL.skipg (b' := false) rfl rfl rfl rfl rfl ?_
         refine WPL.skipg (b' := false) rfl rfl rfl rfl rfl ?_
         refine WPL.q (q_pickF (v := .lit (.bool _)) rfl rfl) rfl ?_
         refine WPL.q (q_mv (v := .lit (.bool _)) rfl) rfl ?_
         refine WPL.skipg (b' := false) rfl rfl rfl rfl rfl ?_
         refine WPL.skipg (b' := false) rfl rfl rfl rfl rfl ?_
         refine WPL.q (q_pickF (v := .lit (.bool _)) rfl rfl) rfl ?_
         refine WPL.q (q_mv (v := .lit (.bool _)) rfl) rfl ?_
         refine WPL.skipg (b' := false) rfl rfl rfl rfl rfl ?_
         refine WPL.skipg (b' := false) rfl rfl rfl rfl rfl ?_
         refine WPL.skipg (b' := false) rfl rfl rfl rfl rfl ?_
         refine WPL.q (q_pickF (v := .lit (.bool _)) rfl rfl) rfl ?_
         refine WPL.q (q_mv (v := .lit (.bool _)) rfl) rfl ?_
         refine WPL.skipg (b' := false) rfl rfl rfl rfl rfl ?_
         refine WPL.skipg (b' := false) rfl rfl rfl rfl rfl ?_
         refine WPL.q (q_pickF (v := .lit (.bool _)) rfl rfl) rfl ?_
         refine WPL.q (q_mv (v := .lit (.bool _)) rfl) rfl ?_
         refine WPL.skipg (b' := false) rfl rfl rfl rfl rfl ?_
         refine WPL.skipg (b' := false) rfl rfl rfl rfl rfl ?_
         refine WPL.skipg (b' := false) rfl rfl rfl rfl rfl ?_
         refine WPL.q (q_pickF (v := .lit (.bool _)) rfl rfl) rfl ?_
         refine WPL.q (q_as (v := .lit (.bool _)) rfl) rfl ?_
         refine WPL.nilW ?_
         have q0 := (Option.some.inj H)
         subst q0
         exact W.wk [] hnp ⟨rfl, rfl, rfl⟩ ⟨rfl, trivial, by decide, rfl, trivial⟩ (LeE.upd rfl rfl (LeE.none rfl rfl)) rfl
       replace H := cnf hb9637 H
       refine WPL.skipg (b' := false) rfl rfl (lb hb9637) rfl rfl ?_
       refine WPL.skipg (b' := false) rfl rfl (lb hb9637) rfl rfl ?_
       refine WPL.q (q_pickF (v := .lit (.bool _)) (lb hb9637) rfl) rfl ?_
       refine WPL.q (q_mv (v := .lit (.bool _)) rfl) rfl ?_
       refine WPL.skipg (b' := false) rfl rfl rfl rfl rfl ?_
       refine WPL.skipg (b' := false) rfl rfl rfl rfl rfl ?_
       refine WPL.skipg (b' := false) rfl rfl rfl rfl rfl ?_
       refine WPL.q (q_pickF (v := .lit (.bool _)) rfl rfl) rfl ?_
       refine WPL.q (q_mv (v := .lit (.bool _)) rfl) rfl ?_
       refine WPL.skipg (b' := false) rfl rfl rfl rfl rfl ?_
       refine WPL.skipg (b' := false) rfl rfl rfl rfl rfl ?_
       refine WPL.q (q_pickF (v := .lit (.bool _)) rfl rfl) rfl ?_
       refine WPL.q (q_mv (v := .lit (.bool _)) rfl) rfl ?_
       refine WPL.skipg (b' := false) rfl rfl rfl rfl rfl ?_
       refine WPL.skipg (b' := false) rfl rfl rfl rfl rfl ?_
       refine WPL.q (q_pickF (v := .lit (.bool _)) rfl rfl) rfl ?_
       refine WPL.q (q_mv (v := .lit (.bool _)) rfl) rfl ?_
       refine WPL.skipg (b' := false) rfl rfl rfl rfl rfl ?_
       refine WPL.skipg (b' := false) rfl rfl rfl rfl rfl ?_
       refine WPL.q (q_pickF (v := .lit (.bool _)) rfl rfl) rfl ?_
       refine WPL.q (q_mv (v := .lit (.bool _)) rfl) rfl ?_
       refine WPL.skipg (b' := false) rfl rfl rfl rfl rfl ?_
       refine WPL.skipg (b' := false) rfl rfl rfl rfl rfl ?_
       refine WPL.skipg (b' := false) rfl rfl rfl rfl rfl ?_
       refine WPL.q (q_pickF (v := .lit (.bool _)) rfl rfl) rfl ?_
       refine WPL.q (q_mv (v := .lit (.bool _)) rfl) rfl ?_
       refine WPL.skipg (b' := false) rfl rfl rfl rfl rfl ?_
       refine WPL.skipg (b' := false) rfl rfl rfl rfl rfl ?_
       refine WPL.q (q_pickF (v := .lit (.bool _)) rfl rfl) rfl ?_
       refine WPL.q (q_mv (v := .lit (.bool _)) rfl) rfl ?_
       refine WPL.skipg (b' := false) rfl rfl rfl rfl rfl ?_
       refine WPL.skipg (b' := false) rfl rfl rfl rfl rfl ?_
       refine WPL.skipg (b' := false) rfl rfl rfl rfl rfl ?_
       refine WPL.q (q_pickF (v := .lit (.bool _)) rfl rfl) rfl ?_
       refine WPL.q (q_as (v := .lit (.bool _)) rfl) rfl ?_
       refine WPL.nilW ?_
       have q0 := (Option.some.inj H)
       subst q0
       exact W.wk [] hnp ⟨rfl, rfl, rfl⟩ ⟨rfl, trivial, by decide, rfl, trivial⟩ (LeE.upd rfl rfl (LeE.none rfl rfl)) rfl
     replace H := cnf hb9635 H
     refine WPL.skipg (b' := false) rfl rfl (lb hb9635) rfl rfl ?_
     refine WPL.skipg (b' := false) rfl rfl (lb hb9635) rfl rfl ?_
     refine WPL.skipg (b' := false) rfl rfl (lb hb9635) rfl rfl ?_
     refine WPL.q (q_pickF (v := .lit (.bool _)) (lb hb9635) rfl) rfl ?_
     refine WPL.q (q_mv (v := .lit (.bool _)) rfl) rfl ?_
     refine WPL.skipg (b' := false) rfl rfl rfl rfl rfl ?_
     refine WPL.skipg (b' := false) rfl rfl rfl rfl rfl ?_
     refine WPL.q (q_pickF (v := .lit (.bool _)) rfl rfl) rfl ?_
     refine WPL.q (q_mv (v := .lit (.bool _)) rfl) rfl ?_
     refine WPL.skipg (b' := false) rfl rfl rfl rfl rfl ?_
     refine WPL.skipg (b' := false) rfl rfl rfl rfl rfl ?_
     refine WPL.skipg (b' := false) rfl rfl rfl rfl rfl ?_
     refine WPL.q (q_pickF (v := .lit (.bool _)) rfl rfl) rfl ?_
     refine WPL.q (q_mv (v := .lit (.bool _)) rfl) rfl ?_
     refine WPL.skipg (b' := false) rfl rfl rfl rfl rfl ?_
     refine WPL.skipg (b' := false) rfl rfl rfl rfl rfl ?_
     refine WPL.q (q_pickF (v := .lit (.bool _)) rfl rfl) rfl ?_
     refine WPL.q (q_mv (v := .lit (.bool _)) rfl) rfl ?_
     refine WPL.skipg (b' := false) rfl rfl rfl rfl rfl ?_
     refine WPL.skipg (b' := false) rfl rfl rfl rfl rfl ?_
     refine WPL.q (q_pickF (v := .lit (.bool _)) rfl rfl) rfl ?_
     refine WPL.q (q_mv (v := .lit (.bool _)) rfl) rfl ?_
     refine WPL.skipg (b' := false) rfl rfl rfl rfl rfl ?_
     refine WPL.skipg (b' := false) rfl rfl rfl rfl rfl ?_
     refine WPL.q (q_pickF (v := .lit (.bool _)) rfl rfl) rfl ?_
     refine WPL.q (q_mv (v := .lit (.bool _)) rfl) rfl ?_
     refine WPL.skipg (b' := false) rfl rfl rfl rfl rfl ?_
     refine WPL.skipg (b' := false) rfl rfl rfl rfl rfl ?_
     refine WPL.skipg (b' := false) rfl rfl rfl rfl rfl ?_
     refine WPL.q (q_pickF (v := .lit (.bool _)) rfl rfl) rfl ?_
     refine WPL.q (q_mv (v := .lit (.bool _)) rfl) rfl ?_
     refine WPL.skipg (b' := false) rfl rfl rfl rfl rfl ?_
     refine WPL.skipg (b' := false) rfl rfl rfl rfl rfl ?_
     refine WPL.q (q_pickF (v := .lit (.bool _)) rfl rfl) rfl ?_
     refine WPL.q (q_mv (v := .lit (.bool _)) rfl) rfl ?_
     refine WPL.skipg (b' := false) rfl rfl rfl rfl rfl ?_
     refine WPL.skipg (b' := false) rfl rfl rfl rfl rfl ?_
     refine WPL.skipg (b' := false) rfl rfl rfl rfl rfl ?_
     refine WPL.q (q_pickF (v := .lit (.bool _)) rfl rfl) rfl ?_
     refine WPL.q (q_as (v := .lit (.bool _)) rfl) rfl ?_
     refine WPL.nilW ?_
     have q0 := (Option.some.inj H)
     subst q0
     exact W.wk [] hnp ⟨rfl, rfl, rfl⟩ ⟨rfl, trivial, by decide, rfl, trivial⟩ (LeE.upd rfl rfl (LeE.none rfl rfl)) rfl
   replace H := cnf hb9634 H
   refine WPL.skipg (b' := false) rfl rfl (lb hb9634) rfl rfl ?_
   refine WPL.skipg (b' := false) rfl rfl (lb hb9634) rfl rfl ?_
   refine WPL.q (q_pickF (v := .lit (.bool _)) (lb hb9634) rfl) rfl ?_
   refine WPL.q (q_mv (v := .lit (.bool _)) rfl) rfl ?_
   refine WPL.skipg (b' := false) rfl rfl rfl rfl rfl ?_
   refine WPL.skipg (b' := false) rfl rfl rfl rfl rfl ?_
   refine WPL.skipg (b' := false) rfl rfl rfl rfl rfl ?_
   refine WPL.q (q_pickF (v := .lit (.bool _)) rfl rfl) rfl ?_
   refine WPL.q (q_mv (v := .lit (.bool _)) rfl) rfl ?_
   refine WPL.skipg (b' := false) rfl rfl rfl rfl rfl ?_
   refine WPL.skipg (b' := false) rfl rfl rfl rfl rfl ?_
   refine WPL.q (q_pickF (v := .lit (.bool _)) rfl rfl) rfl ?_
   refine WPL.q (q_mv (v := .lit (.bool _)) rfl) rfl ?_
   refine WPL.skipg (b' := false) rfl rfl rfl rfl rfl ?_
   refine WPL.skipg (b' := false) rfl rfl rfl rfl rfl ?_
   refine WPL.skipg (b' := false) rfl rfl rfl rfl rfl ?_
   refine WPL.q (q_pickF (v := .lit (.bool _)) rfl rfl) rfl ?_
   refine WPL.q (q_mv (v := .lit (.bool _)) rfl) rfl ?_
   refine WPL.skipg (b' := false) rfl rfl rfl rfl rfl ?_
   refine WPL.skipg (b' := false) rfl rfl rfl rfl rfl ?_
   refine WPL.q (q_pickF (v := .lit (.bool _)) rfl rfl) rfl ?_
   refine WPL.q (q_mv (v := .lit (.bool _)) rfl) rfl ?_
   refine WPL.skipg (b' := false) rfl rfl rfl rfl rfl ?_
   refine WPL.skipg (b' := false) rfl rfl rfl rfl rfl ?_
   refine WPL.q (q_pickF (v := .lit (.bool _)) rfl rfl) rfl ?_
   refine WPL.q (q_mv (v := .lit (.bool _)) rfl) rfl ?_
   refine WPL.skipg (b' := false) rfl rfl rfl rfl rfl ?_
   refine WPL.skipg (b' := false) rfl rfl rfl rfl rfl ?_
   refine WPL.q (q_pickF (v := .lit (.bool _)) rfl rfl) rfl ?_
   refine WPL.q (q_mv (v := .lit (.bool _)) rfl) rfl ?_
   refine WPL.skipg (b' := false) rfl rfl rfl rfl rfl ?_
   refine WPL.skipg (b' := false) rfl rfl rfl rfl rfl ?_
   refine WPL.skipg (b' := false) rfl rfl rfl rfl rfl ?_
   refine WPL.q (q_pickF (v := .lit (.bool _)) rfl rfl) rfl ?_
   refine WPL.q (q_mv (v := .lit (.bool _)) rfl) rfl ?_
   refine WPL.skipg (b' := false) rfl rfl rfl rfl rfl ?_
   refine WPL.skipg (b' := false) rfl rfl rfl rfl rfl ?_
   refine WPL.q (q_pickF (v := .lit (.bool _)) rfl rfl) rfl ?_
   refine WPL.q (q_mv (v := .lit (.bool _)) rfl) rfl ?_
   refine WPL.skipg (b' := false) rfl rfl rfl rfl rfl ?_
   refine WPL.skipg (b' := false) rfl rfl rfl rfl rfl ?_
   refine WPL.skipg (b' := false) rfl rfl rfl rfl rfl ?_
   refine WPL.q (q_pickF (v := .lit (.bool _)) rfl rfl) rfl ?_
   refine WPL.q (q_as (v := .lit (.bool _)) rfl) rfl ?_
   refine WPL.nilW ?_
   have q0 := (Option.some.inj H)
   subst q0
   exact W.wk [] hnp ⟨rfl, rfl, rfl⟩ ⟨rfl, trivial, by decide, rfl, trivial⟩ (LeE.upd rfl rfl (LeE.none rfl rfl)) rfl
 rintro _ _ _ ⟨rfl, rfl, rfl⟩
 refine W.now ?_
 refine Then.n ?_
 refine WP.retW ?_
 have q0 := (Option.some.inj H)
 subst q0
 exact W.now (BodyR.mkR trivial rfl [] ⟨rfl, rfl⟩ ⟨rfl, trivial, by decide, rfl, trivial⟩ rfl rfl)
end Go.Proofs.Ytdbeblgfccjbgaa.W
namespace Go.Proofs.Ytdbeblgfccjbgaa.W
open Go Go.Q Go.Proofs
set_option linter.unusedVariables false
set_option linter.unusedSimpArgs false
end Go.Proofs.Ytdbeblgfccjbgaa.W
namespace Go.Proofs.Ytdbeblgfccjbgaa.W
open Go Go.Q Go.Proofs
set_option linter.unusedVariables false
set_option linter.unusedSimpArgs false
set_option maxRecDepth 100000 in
set_option maxHeartbeats 4000000 in
theorem s_dec_sign (k : Nat) (x10406 : Int) (x10407 : Int) (x10413 : Int) (H : g_dec_sign k x10406 x10407 = some x10413) : Go.Q.Spec Try.prog 54 0 [.agg [.lit (.int .i64 x10406), .lit (.int .i64 x10407)]] Mem.nil (fun o M => o = .ret (.lit (.int .i64 x10413)) ∧ M = Mem.nil) := by
 unfold g_dec_sign at H
 refine Go.Q.Spec.of_bodyR (az := []) (rs := [.tmp 2]) (nt := 11) Try.func54 rfl rfl (by intro t T h; simp at h) rfl rfl fun cx hnp => ?_
 refine WP.seq ?_
 refine WP.region ?_
 refine WPL.d (d_box rfl rfl) rfl ?_
 refine WPL.q (q_as (v := .lit (.int _ _)) rfl) rfl ?_
 refine WPL.nilW ?_
 refine W.now ?_
 refine Then.n ?_
 refine WP.seq ?_
 refine WP.block ?_
 refine WP.seq ?_
 refine WP.region ?_
 refine WPL.q (q_fieldAddr fi23_0 rfl rfl) rfl ?_
 refine WPL.q (q_load sc2 rfl rfl rfl) rfl ?_
 refine WPL.q (q_lss rfl rfl) rfl ?_
 refine WPL.q (q_as (v := .lit (.bool _)) rfl) rfl ?_
 refine WPL.nilW ?_
 refine W.now ?_
 refine Then.n ?_
 refine WP.cond (t := (decide (x10406 < 0))) rfl (fun hb10415 => ?_) (fun hb10415 => ?_)
 · replace H := cnt hb10415 H
   refine WP.seq ?_
   refine WP.region ?_
   refine WPL.q (q_as (v := .lit (.int _ _)) rfl) rfl ?_
   refine WPL.nilW ?_
   refine W.now ?_
   refine Then.n ?_
   refine WP.retW ?_
   have q0 := (Option.some.inj H)
   subst q0
   exact W.now (InBlock.r (Then.r (BodyR.mkR trivial rfl [] ⟨rfl, rfl⟩ ⟨rfl, trivial, by decide, rfl, trivial⟩ rfl rfl)))
 replace H := cnf hb10415 H
 refine WP.seq ?_
 refine WP.region ?_
 refine WPL.q (q_fieldAddr fi23_0 rfl rfl) rfl ?_
 refine WPL.q (q_load sc2 rfl rfl rfl) rfl ?_
 refine WPL.q (q_gtr rfl rfl) rfl ?_
 refine WPL.q (q_as (v := .lit (.bool _)) rfl) rfl ?_
 refine WPL.nilW ?_
 refine W.now ?_
 refine Then.n ?_
 refine WP.cond (t := (decide (0 < x10406))) rfl (fun hb10416 => ?_) (fun hb10416 => ?_)
 · replace H := cnt hb10416 H
   refine WP.seq ?_
   refine WP.region ?_
   refine WPL.q (q_as (v := .lit (.int _ _)) rfl) rfl ?_
   refine WPL.nilW ?_
   refine W.now ?_
   refine Then.n ?_
   refine WP.retW ?_
   have q0 := (Option.some.inj H)
   subst q0
   exact W.now (InBlock.r (Then.r (BodyR.mkR trivial rfl [] ⟨rfl, rfl⟩ ⟨rfl, trivial, by decide, rfl, trivial⟩ rfl rfl)))
 replace H := cnf hb10416 H
 refine WP.skipW ?_
 refine W.now ?_
 refine InBlock.n ?_
 refine Then.n ?_
 refine WP.seq ?_
 refine WP.region ?_
 refine WPL.q (q_as (v := .lit (.int _ _)) rfl) rfl ?_
 refine WPL.nilW ?_
 refine W.now ?_
 refine Then.n ?_
 refine WP.retW ?_
 have q0 := (Option.some.inj H)
 subst q0
 exact W.now (BodyR.mkR trivial rfl [] ⟨rfl, rfl⟩ ⟨rfl, trivial, by decide, rfl, trivial⟩ rfl rfl)
set_option maxRecDepth 100000 in
set_option maxHeartbeats 4000000 in
theorem s_dec_digits (k : Nat) (x10442 : Int) (x10452 : Int) (H : g_dec_digits k x10442 = some x10452) : Go.Q.Spec Try.prog 55 0 [.lit (.int .u64 x10442)] Mem.nil (fun o M => o = .ret (.lit (.int .i64 x10452)) ∧ M = Mem.nil) := by
 unfold g_dec_digits at H
 refine Go.Q.Spec.of_bodyR (az := []) (rs := [.tmp 2]) (nt := 11) Try.func55 rfl rfl (by intro t T h; simp at h) rfl rfl fun cx hnp => ?_
 refine WP.seq ?_
 refine WP.region ?_
 refine WPL.q (q_as (v := .lit (.int _ _)) rfl) rfl ?_
 refine WPL.nilW ?_
 refine W.now ?_
 refine Then.n ?_
 refine WP.seq ?_
 refine WP.region ?_
 refine WPL.q (q_as (v := .lit (.int _ _)) rfl) rfl ?_
 refine WPL.nilW ?_
 refine W.now ?_
 refine Then.n ?_
 refine WP.seq ?_
 refine WP.block ?_
 refine WP.cv (Cv.weak (E' := ((Env.none.upd 0 (.lit (.int .u64 x10442))).upd 3 (.lit (.int .i64 0)))) (M' := Mem.nil) [] hnp ⟨rfl, trivial, by decide, rfl, trivial⟩ (LeE.upd rfl rfl (LeE.upd rfl rfl (LeE.none rfl rfl)))) ?_
 obtain ⟨x10459, H10461, H⟩ := bnd H
 refine WP.monoW (Q := fun x E M => x = .exit 0 ∧ E = (Env.none.upd 3 (.lit (.int .i64 x10459))) ∧ M = Mem.nil) ?_ ?_
 · refine WP.loop (β := Int × Int) (fun n b => g_dec_digits_l0 k n b.1 b.2 = some x10459) (fun b => ((Env.none.upd 0 (.lit (.int .u64 b.1))).upd 3 (.lit (.int .i64 b.2)))) (fun b => Mem.nil) k (x10442, 0) H10461 rfl rfl ?_
   rintro n ⟨x10455, x10456⟩ H
   obtain _ | n := n
   · exact nf rfl H
   rw [g_dec_digits_l0.eq_2] at H
   show WP _ _ _ _ ((Env.none.upd 0 (.lit (.int .u64 x10455))).upd 3 (.lit (.int .i64 x10456))) Mem.nil _
   refine WP.seq ?_
   refine WP.seq ?_
   refine WP.region ?_
   refine WPL.q (q_mv (v := .lit (.int _ _)) rfl) rfl ?_
   refine WPL.q (q_gtr rfl rfl) rfl ?_
   refine WPL.nilW ?_
   refine W.now ?_
   refine Then.n ?_
   refine WP.cond (t := (decide (0 < x10455))) rfl (fun hb10460 => ?_) (fun hb10460 => ?_)
   · replace H := cnt hb10460 H
     refine WP.skipW ?_
     refine W.now ?_
     refine Then.n ?_
     refine WP.seq ?_
     refine WP.block ?_
     refine WP.region ?_
     refine WPL.q (q_mv (v := .lit (.int _ _)) rfl) rfl ?_
     refine WPL.q (q_add rfl rfl) rfl ?_
     refine WPL.q (q_as (v := .lit (.int _ _)) rfl) rfl ?_
     refine WPL.nilW ?_
     refine W.now ?_
     refine InBlock.n ?_
     refine Then.n ?_
     refine WP.region ?_
     refine WPL.q (q_mv (v := .lit (.int _ _)) rfl) rfl ?_
     refine WPL.q (q_quo rfl rfl rfl) rfl ?_
     refine WPL.q (q_as (v := .lit (.int _ _)) rfl) rfl ?_
     refine WPL.nilW ?_
     exact W.wk [] hnp (Then.n ⟨n, ((IntKind.wrap .u64 (Int.tdiv x10455 10)), (IntKind.wrap .i64 (x10456 + 1))), Nat.lt_succ_self n, H, rfl, rfl⟩) ⟨rfl, trivial, by decide, rfl, trivial⟩ (LeE.upd rfl rfl (LeE.upd rfl rfl (LeE.none rfl rfl))) rfl
   replace H := cnf hb10460 H
   refine WP.exitW ?_
   have q0 := (Option.some.inj H)
   subst q0
   exact W.wk [] hnp (Then.x (Then.x ⟨rfl, rfl, rfl⟩)) ⟨rfl, trivial, by decide, rfl, trivial⟩ (LeE.upd rfl rfl (LeE.none rfl rfl)) rfl
 rintro _ _ _ ⟨rfl, rfl, rfl⟩
 refine W.now ?_
 refine InBlock.x0 ?_
 refine Then.n ?_
 refine WP.seq ?_
 refine WP.region ?_
 refine WPL.q (q_mv (v := .lit (.int _ _)) rfl) rfl ?_
 refine WPL.q (q_as (v := .lit (.int _ _)) rfl) rfl ?_
 refine WPL.nilW ?_
 refine W.now ?_
 refine Then.n ?_
 refine WP.retW ?_
 have q0 := (Option.some.inj H)
 subst q0
 exact W.now (BodyR.mkR trivial rfl [] ⟨rfl, rfl⟩ ⟨rfl, trivial, by decide, rfl, trivial⟩ rfl rfl)
set_option maxRecDepth 100000 in
set_option maxHeartbeats 4000000 in
theorem s_dec_Cmp (k : Nat) (x10387 : Int) (x10388 : Int) (x10389 : Int) (x10390 : Int) (x10497 : Int) (H : g_dec_Cmp k x10387 x10388 x10389 x10390 = some x10497) : Go.Q.Spec Try.prog 22 0 [.agg [.lit (.int .i64 x10387), .lit (.int .i64 x10388)], .agg [.lit (.int .i64 x10389), .lit (.int .i64 x10390)]] Mem.nil (fun o M => o = .ret (.lit (.int .i64 x10497)) ∧ M = Mem.nil) := by
 unfold g_dec_Cmp at H
 refine Go.Q.Spec.of_bodyR (az := []) (rs := [.tmp 4]) (nt := 69) Try.func22 rfl rfl (by intro t T h; simp at h) rfl rfl fun cx hnp => ?_
 refine WP.seq ?_
 refine WP.region ?_
 refine WPL.d (d_box rfl rfl) rfl ?_
 refine WPL.d (d_box rfl rfl) rfl ?_
 refine WPL.q (q_as (v := .lit (.int _ _)) rfl) rfl ?_
 refine WPL.nilW ?_
 refine W.now ?_
 refine Then.n ?_
 refine WP.seq ?_
 refine WP.seq ?_
 refine WP.region ?_
 refine WPL.d (d_buildCells li81 rfl rfl rfl rfl rfl) rfl ?_
 obtain ⟨⟨x10506, x10507, x10508, x10509, x10510⟩, h10504, H⟩ := bnd H
 refine WPL.c (runs_call (s := [2, 0, 1]) (t := [2, 0, 1]) (N := 3) (bor := []) fn27 rfl (s_dec_clean k x10387 x10388 x10389 x10390 x10506 x10507 x10508 x10509 x10510 h10504) ⟨rfl, ⟨⟨⟨trivial, .inr ⟨rfl, rfl, rfl⟩⟩, .inr ⟨rfl, rfl, rfl⟩⟩, .inr ⟨rfl, rfl, rfl⟩⟩, by decide, rfl, trivial⟩ rfl trivial (.ren rfl rfl .nil) rfl ⟨⟨⟨trivial, rfl⟩, rfl⟩, rfl⟩ rfl) rfl ?_
 refine WPL.q (q_not rfl) rfl ?_
 refine WPL.nilW ?_
 refine W.now ?_
 refine Then.n ?_
 refine WP.cond (t := (!x10506)) rfl (fun hb10510 => ?_) (fun hb10510 => ?_)
 · replace H := cnt hb10510 H
   refine WP.seq ?_
   refine WP.region ?_
   refine WPL.q (q_as (v := .lit (.int _ _)) rfl) rfl ?_
   refine WPL.nilW ?_
   refine W.now ?_
   refine Then.n ?_
   refine WP.retW ?_
   have q0 := (Option.some.inj H)
   subst q0
   exact W.now (Then.r (BodyR.mkR trivial rfl [] ⟨rfl, rfl⟩ ⟨rfl, trivial, by decide, rfl, trivial⟩ rfl rfl))
 replace H := cnf hb10510 H
 refine WP.skipW ?_
 refine W.now ?_
 refine Then.n ?_
 refine WP.seq ?_
 refine WP.regionD' 6 [0, 1] [] mixed rfl ?_
 refine WPD.take 0 rfl (by kernel_rfl) (q_load_ag ag23 rfl rfl (Nat.le_of_ble_eq_true rfl)) rfl rfl ?_
 refine WPD.take 2 rfl (by kernel_rfl) (q_load_ag ag23 rfl rfl (Nat.le_of_ble_eq_true rfl)) rfl rfl ?_
 obtain ⟨x10517, h10515, H⟩ := bnd H
 refine WPD.eff 1 [0, 1] [] rfl (by kernel_rfl) (runs_call (s := []) (t := []) (N := 3) (bor := []) fn54 rfl (s_dec_sign k x10507 x10508 x10517 h10515) ⟨rfl, trivial, by decide, rfl, trivial⟩ rfl trivial (.ren rfl rfl .nil) rfl trivial rfl) rfl rfl ?_
 obtain ⟨x10519, h10517, H⟩ := bnd H
 refine WPD.eff 3 [0, 1] [] rfl (by kernel_rfl) (runs_call (s := []) (t := []) (N := 3) (bor := []) fn54 rfl (s_dec_sign k x10509 x10510 x10519 h10517) ⟨rfl, trivial, by decide, rfl, trivial⟩ rfl trivial (.ren rfl rfl .nil) rfl trivial rfl) rfl rfl ?_
 refine WPD.takeT 4 rfl (by kernel_rfl) (q_as (v := .lit (.int _ _)) rfl) rfl ?_
 refine WPD.takeT 5 rfl (by kernel_rfl) (q_as (v := .lit (.int _ _)) rfl) rfl ?_
 refine WPD.doneW (by kernel_rfl) ?_
 refine W.now ?_
 refine Then.n ?_
 refine WP.seq ?_
 refine WP.seq ?_
 obtain ⟨x10528, H10529, H⟩ := bnd H
 refine WP.monoW (Q := fun x E M => x = .normal ∧ E = (((((Env.none.upd 2 (.ptr 0 0)).upd 3 (.ptr 1 0)).upd 5 (.lit (.int .i64 x10517))).upd 6 (.lit (.int .i64 x10519))).upd 25 (.lit (.bool x10528))) ∧ M = ((Mem.nil.push (.cells 23 [.lit (.int .i64 x10507), .lit (.int .i64 x10508)])).push (.cells 23 [.lit (.int .i64 x10509), .lit (.int .i64 x10510)]))) ?_ ?_
 · clear H
   have H := H10529
   clear H10529
   refine WP.region ?_
   refine WPL.q (q_mv (v := .lit (.int _ _)) rfl) rfl ?_
   refine WPL.q (q_mv (v := .lit (.int _ _)) rfl) rfl ?_
   refine WPL.q (q_neq rfl rfl) rfl ?_
   refine WPL.q (q_mv (v := .lit (.bool _)) rfl) rfl ?_
   refine WPL.split (t := 22) (b := (!decide (x10517 = x10519))) rfl (fun hb10528 => ?_) (fun hb10528 => ?_)
   · replace H := cnt hb10528 H
     refine WPL.skipg (b' := true) rfl rfl (lb hb10528) rfl rfl ?_
     refine WPL.skipg (b' := true) rfl rfl (lb hb10528) rfl rfl ?_
     refine WPL.q (q_pickT (v := .lit (.bool _)) (lb hb10528) rfl) rfl ?_
     refine WPL.nilW ?_
     have q0 := (Option.some.inj H)
     subst q0
     exact W.wk [0, 1] hnp ⟨rfl, rfl, rfl⟩ ⟨rfl, ⟨⟨trivial, .inr ⟨rfl, rfl, rfl⟩⟩, .inr ⟨rfl, rfl, rfl⟩⟩, by decide, rfl, trivial⟩ (LeE.upd rfl rfl (LeE.upd rfl rfl (LeE.upd rfl rfl (LeE.upd rfl rfl (LeE.upd rfl rfl (LeE.none rfl rfl)))))) rfl
   replace H := cnf hb10528 H
   refine WPL.qg rfl rfl (lb hb10528) (q_mv (v := .lit (.int _ _)) rfl) rfl ?_
   refine WPL.qg rfl rfl (lb hb10528) (q_eql rfl rfl) rfl ?_
   refine WPL.q (q_pickF (v := .lit (.bool _)) (lb hb10528) rfl) rfl ?_
   refine WPL.nilW ?_
   have q0 := (Option.some.inj H)
   subst q0
   exact W.wk [0, 1] hnp ⟨rfl, rfl, rfl⟩ ⟨rfl, ⟨⟨trivial, .inr ⟨rfl, rfl, rfl⟩⟩, .inr ⟨rfl, rfl, rfl⟩⟩, by decide, rfl, trivial⟩ (LeE.upd rfl rfl (LeE.upd rfl rfl (LeE.upd rfl rfl (LeE.upd rfl rfl (LeE.upd rfl rfl (LeE.none rfl rfl)))))) rfl
 rintro _ _ _ ⟨rfl, rfl, rfl⟩
 refine W.now ?_
 refine Then.n ?_
 refine WP.cond (t := x10528) rfl (fun hb10530 => ?_) (fun hb10530 => ?_)
 · replace H := cnt hb10530 H
   refine WP.seq ?_
   refine WP.region ?_
   refine WPL.q (q_mv (v := .lit (.int _ _)) rfl) rfl ?_
   refine WPL.q (q_mv (v := .lit (.int _ _)) rfl) rfl ?_
   refine WPL.q (q_sub rfl rfl) rfl ?_
   obtain ⟨x10532, h10532, H⟩ := bnd H
   refine WPL.q (q_nm (q_max rfl rfl) (nm_int h10532)) rfl ?_
   obtain ⟨x10533, h10533, H⟩ := bnd H
   refine WPL.q (q_nm (q_min rfl rfl) (nm_int h10533)) rfl ?_
   refine WPL.q (q_as (v := .lit (.int _ _)) rfl) rfl ?_
   refine WPL.nilW ?_
   refine W.now ?_
   refine Then.n ?_
   refine WP.retW ?_
   have q0 := (Option.some.inj H)
   subst q0
   exact W.now (Then.r (BodyR.mkR trivial rfl [] ⟨rfl, rfl⟩ ⟨rfl, trivial, by decide, rfl, trivial⟩ rfl rfl))
 replace H := cnf hb10530 H
 refine WP.skipW ?_
 refine W.now ?_
 refine Then.n ?_
 refine WP.seq ?_
 refine WP.regionD' 16 [0, 1] [] mixed rfl ?_
 refine WPD.takeT 0 rfl (by kernel_rfl) (q_fieldAddr fi23_0 rfl rfl) rfl ?_
 refine WPD.takeT 4 rfl (by kernel_rfl) (q_fieldAddr fi23_1 rfl rfl) rfl ?_
 refine WPD.takeT 7 rfl (by kernel_rfl) (q_fieldAddr fi23_0 rfl rfl) rfl ?_
 refine WPD.takeT 11 rfl (by kernel_rfl) (q_fieldAddr fi23_1 rfl rfl) rfl ?_
 refine WPD.take 1 rfl (by kernel_rfl) (q_load sc2 rfl rfl rfl) rfl rfl ?_
 refine WPD.take 5 rfl (by kernel_rfl) (q_load sc3 rfl rfl rfl) rfl rfl ?_
 refine WPD.take 8 rfl (by kernel_rfl) (q_load sc2 rfl rfl rfl) rfl rfl ?_
 refine WPD.take 12 rfl (by kernel_rfl) (q_load sc3 rfl rfl rfl) rfl rfl ?_
 obtain ⟨x10543, h10541, H⟩ := bnd H
 refine WPD.eff 2 [0, 1] [] rfl (by kernel_rfl) (runs_call (s := []) (t := []) (N := 2) (bor := []) fn28 rfl (s_dec_size k x10507 x10543 h10541) ⟨rfl, trivial, by decide, rfl, trivial⟩ rfl trivial (.ren rfl rfl .nil) rfl trivial rfl) rfl rfl ?_
 obtain ⟨x10545, h10543, H⟩ := bnd H
 refine WPD.eff 3 [0, 1] [] rfl (by kernel_rfl) (runs_call (s := []) (t := []) (N := 2) (bor := []) fn55 rfl (s_dec_digits k x10543 x10545 h10543) ⟨rfl, trivial, by decide, rfl, trivial⟩ rfl trivial (.ren rfl rfl .nil) rfl trivial rfl) rfl rfl ?_
 refine WPD.takeT 6 rfl (by kernel_rfl) (q_add rfl rfl) rfl ?_
 obtain ⟨x10547, h10545, H⟩ := bnd H
 refine WPD.eff 9 [0, 1] [] rfl (by kernel_rfl) (runs_call (s := []) (t := []) (N := 2) (bor := []) fn28 rfl (s_dec_size k x10509 x10547 h10545) ⟨rfl, trivial, by decide, rfl, trivial⟩ rfl trivial (.ren rfl rfl .nil) rfl trivial rfl) rfl rfl ?_
 obtain ⟨x10549, h10547, H⟩ := bnd H
 refine WPD.eff 10 [0, 1] [] rfl (by kernel_rfl) (runs_call (s := []) (t := []) (N := 2) (bor := []) fn55 rfl (s_dec_digits k x10547 x10549 h10547) ⟨rfl, trivial, by decide, rfl, trivial⟩ rfl trivial (.ren rfl rfl .nil) rfl trivial rfl) rfl rfl ?_
 refine WPD.takeT 13 rfl (by kernel_rfl) (q_add rfl rfl) rfl ?_
 refine WPD.takeT 14 rfl (by kernel_rfl) (q_as (v := .lit (.int _ _)) rfl) rfl ?_
 refine WPD.takeT 15 rfl (by kernel_rfl) (q_as (v := .lit (.int _ _)) rfl) rfl ?_
 refine WPD.doneW (by kernel_rfl) ?_
 refine W.now ?_
 refine Then.n ?_
 refine WP.seq ?_
 refine WP.seq ?_
 refine WP.region ?_
 refine WPL.q (q_mv (v := .lit (.int _ _)) rfl) rfl ?_
 refine WPL.q (q_mv (v := .lit (.int _ _)) rfl) rfl ?_
 obtain ⟨x10555, h10555, H⟩ := bnd H
 refine WPL.q (q_nm (q_neq rfl rfl) (nm_bool h10555)) rfl ?_
 refine WPL.nilW ?_
 refine W.now ?_
 refine Then.n ?_
 refine WP.cond (t := x10555) rfl (fun hb10555 => ?_) (fun hb10555 => ?_)
 · replace H := cnt hb10555 H
   refine WP.seq ?_
   refine WP.region ?_
   refine WPL.q (q_mv (v := .lit (.int _ _)) rfl) rfl ?_
   refine WPL.q (q_mv (v := .lit (.int _ _)) rfl) rfl ?_
   refine WPL.q (q_mv (v := .lit (.int _ _)) rfl) rfl ?_
   obtain ⟨x10557, h10557, H⟩ := bnd H
   refine WPL.q (q_nm (q_sub rfl rfl) (nm_int h10557)) rfl ?_
   obtain ⟨x10558, h10558, H⟩ := bnd H
   refine WPL.q (q_nm (q_max rfl rfl) (nm_int h10558)) rfl ?_
   obtain ⟨x10559, h10559, H⟩ := bnd H
   refine WPL.q (q_nm (q_min rfl rfl) (nm_int h10559)) rfl ?_
   refine WPL.q (q_mul rfl rfl) rfl ?_
   refine WPL.q (q_as (v := .lit (.int _ _)) rfl) rfl ?_
   refine WPL.nilW ?_
   refine W.now ?_
   refine Then.n ?_
   refine WP.retW ?_
   have q0 := (Option.some.inj H)
   subst q0
   exact W.now (Then.r (BodyR.mkR trivial rfl [] ⟨rfl, rfl⟩ ⟨rfl, trivial, by decide, rfl, trivial⟩ rfl rfl))
 replace H := cnf hb10555 H
 refine WP.skipW ?_
 refine W.now ?_
 refine Then.n ?_
 refine WP.seq ?_
 refine WP.region ?_
 refine WPL.q (q_load_ag ag23 rfl rfl (Nat.le_of_ble_eq_true rfl)) rfl ?_
 refine WPL.q (q_load_ag ag23 rfl rfl (Nat.le_of_ble_eq_true rfl)) rfl ?_
 obtain ⟨⟨x10561, x10562, x10563, x10564, x10565, x10566, x10567⟩, h10559, H⟩ := bnd H
 refine WPL.c (runs_call (s := []) (t := [2, 3]) (N := 4) (bor := []) fn46 rfl (s_dec_even k x10507 x10508 x10509 x10510 x10561 x10562 x10563 x10564 x10565 x10566 x10567 h10559) ⟨rfl, trivial, by decide, rfl, trivial⟩ rfl trivial (.ren rfl rfl (.ren rfl rfl .nil)) rfl ⟨⟨trivial, rfl⟩, rfl⟩ rfl) rfl ?_
 refine WPL.q (q_mv (v := .tup _) rfl) rfl ?_
 refine WPL.q (q_extract rfl rfl) rfl ?_
 refine WPL.q (q_extract rfl rfl) rfl ?_
 refine WPL.q (q_extract rfl rfl) rfl ?_
 refine WPL.d (d_alloc ze47 rfl) rfl ?_
 refine WPL.d (d_alloc ze47 rfl) rfl ?_
 refine WPL.s (s_store sz47 rfl rfl rfl rfl rfl) ?_
 refine WPL.s (s_store sz47 rfl rfl rfl rfl rfl) ?_
 refine WPL.q (q_as (v := .lit (.bool _)) rfl) rfl ?_
 refine WPL.nilW ?_
 refine W.now ?_
 refine Then.n ?_
 refine WP.seq ?_
 refine WP.region ?_
 refine WPL.q (q_mv (v := .lit (.int _ _)) rfl) rfl ?_
 refine WPL.q (q_fieldAddr fi47_1 rfl rfl) rfl ?_
 refine WPL.q (q_load_ag ag43 rfl rfl (Nat.le_of_ble_eq_true rfl)) rfl ?_
 refine WPL.q (q_fieldAddr fi47_1 rfl rfl) rfl ?_
 refine WPL.q (q_load_ag ag43 rfl rfl (Nat.le_of_ble_eq_true rfl)) rfl ?_
 obtain ⟨x10569, h10567, H⟩ := bnd H
 refine WPL.c (runs_call (s := []) (t := []) (N := 6) (bor := []) fn48 rfl (s_dec_wide_cmp k x10562 x10563 x10565 x10566 x10569 h10567) ⟨rfl, trivial, by decide, rfl, trivial⟩ rfl trivial (.ren rfl rfl (.ren rfl rfl .nil)) rfl trivial rfl) rfl ?_
 refine WPL.q (q_mul rfl rfl) rfl ?_
 refine WPL.q (q_as (v := .lit (.int _ _)) rfl) rfl ?_
 refine WPL.nilW ?_
 refine W.now ?_
 refine Then.n ?_
 refine WP.retW ?_
 have q0 := (Option.some.inj H)
 subst q0
 exact W.now (BodyR.mkR trivial rfl [] ⟨rfl, rfl⟩ ⟨rfl, trivial, by decide, rfl, trivial⟩ rfl rfl)
set_option maxRecDepth 100000 in
set_option maxHeartbeats 4000000 in
theorem s_dec_cut (k : Nat) (x10693 : Int) (x10694 : Int) (x10726 : Int) (x10727 : Int) (x10728 : Int) (H : g_dec_cut k x10693 x10694 = some (x10726, x10727, x10728)) : Go.Q.Spec Try.prog 56 0 [.lit (.int .i64 x10693), .lit (.int .i64 x10694)] Mem.nil (fun o M => o = .ret (.tup [.lit (.int .u64 x10726), .lit (.int .u64 x10727), .lit (.int .u64 x10728)]) ∧ M = Mem.nil) := by
 unfold g_dec_cut at H
 refine Go.Q.Spec.of_bodyR (az := []) (rs := [.tmp 4, .tmp 5, .tmp 6]) (nt := 36) Try.func56 rfl rfl (by intro t T h; simp at h) rfl rfl fun cx hnp => ?_
 refine WP.seq ?_
 refine WP.region ?_
 refine WPL.q (q_as (v := .lit (.int _ _)) rfl) rfl ?_
 refine WPL.q (q_as (v := .lit (.int _ _)) rfl) rfl ?_
 refine WPL.q (q_as (v := .lit (.int _ _)) rfl) rfl ?_
 refine WPL.nilW ?_
 refine W.now ?_
 refine Then.n ?_
 refine WP.seq ?_
 refine WP.region ?_
 refine WPL.q (q_build bu43 rfl) rfl ?_
 refine WPL.q (q_mv (v := .lit (.int _ _)) rfl) rfl ?_
 obtain ⟨⟨x10730, x10731, x10732⟩, h10728, H⟩ := bnd H
 refine WPL.c (runs_call (s := []) (t := [0]) (N := 1) (bor := []) fn60 rfl (s_dec_wide_tens k 0 1 x10694 x10730 x10731 x10732 h10728) ⟨rfl, trivial, by decide, rfl, trivial⟩ rfl trivial (.ren rfl rfl (.ren rfl rfl .nil)) rfl ⟨trivial, rfl⟩ rfl) rfl ?_
 refine WPL.q (q_mv (v := .tup _) rfl) rfl ?_
 refine WPL.q (q_extract rfl rfl) rfl ?_
 refine WPL.q (q_extract rfl rfl) rfl ?_
 refine WPL.d (d_alloc ze43 rfl) rfl ?_
 refine WPL.s (s_store sz43 rfl rfl rfl rfl rfl) ?_
 refine WPL.q (q_as (v := .lit (.bool _)) rfl) rfl ?_
 refine WPL.nilW ?_
 refine W.now ?_
 refine Then.n ?_
 refine WP.seq ?_
 refine WP.seq ?_
 obtain ⟨x10741, H10742, H⟩ := bnd H
 refine WP.monoW (Q := fun x E M => x = .normal ∧ E = (((Env.none.upd 0 (.lit (.int .i64 x10693))).upd 7 (.ptr 0 0)).upd 21 (.lit (.bool x10741))) ∧ M = (Mem.nil.push (.cells 43 [.lit (.int .u64 x10731), .lit (.int .u64 x10732)]))) ?_ ?_
 · clear H
   have H := H10742
   clear H10742
   refine WP.region ?_
   refine WPL.q (q_mv (v := .lit (.bool _)) rfl) rfl ?_
   refine WPL.q (q_not rfl) rfl ?_
   refine WPL.q (q_mv (v := .lit (.bool _)) rfl) rfl ?_
   refine WPL.split (t := 17) (b := (!x10730)) rfl (fun hb10741 => ?_) (fun hb10741 => ?_)
   · replace H := cnt hb10741 H
     refine WPL.skipg (b' := true) rfl rfl (lb hb10741) rfl rfl ?_
     refine WPL.skipg (b' := true) rfl rfl (lb hb10741) rfl rfl ?_
     refine WPL.skipg (b' := true) rfl rfl (lb hb10741) rfl rfl ?_
     refine WPL.q (q_pickT (v := .lit (.bool _)) (lb hb10741) rfl) rfl ?_
     refine WPL.nilW ?_
     have q0 := (Option.some.inj H)
     subst q0
     exact W.wk [1] hnp ⟨rfl, rfl, rfl⟩ ⟨rfl, ⟨trivial, .inr ⟨rfl, rfl, rfl⟩⟩, by decide, rfl, trivial⟩ (LeE.upd rfl rfl (LeE.upd rfl rfl (LeE.upd rfl rfl (LeE.none rfl rfl)))) rfl
   replace H := cnf hb10741 H
   refine WPL.qg rfl rfl (lb hb10741) (q_fieldAddr fi43_0 rfl rfl) rfl ?_
   refine WPL.qg rfl rfl (lb hb10741) (q_load sc38 rfl rfl rfl) rfl ?_
   refine WPL.qg rfl rfl (lb hb10741) (q_gtr rfl rfl) rfl ?_
   refine WPL.q (q_pickF (v := .lit (.bool _)) (lb hb10741) rfl) rfl ?_
   refine WPL.nilW ?_
   have q0 := (Option.some.inj H)
   subst q0
   exact W.wk [1] hnp ⟨rfl, rfl, rfl⟩ ⟨rfl, ⟨trivial, .inr ⟨rfl, rfl, rfl⟩⟩, by decide, rfl, trivial⟩ (LeE.upd rfl rfl (LeE.upd rfl rfl (LeE.upd rfl rfl (LeE.none rfl rfl)))) rfl
 rintro _ _ _ ⟨rfl, rfl, rfl⟩
 refine W.now ?_
 refine Then.n ?_
 refine WP.cond (t := x10741) rfl (fun hb10743 => ?_) (fun hb10743 => ?_)
 · replace H := cnt hb10743 H
   refine WP.seq ?_
   refine WP.region ?_
   refine WPL.q (q_mv (v := .lit (.int _ _)) rfl) rfl ?_
   obtain ⟨x10746, h10744, H⟩ := bnd H
   refine WPL.c (runs_call (s := []) (t := []) (N := 1) (bor := []) fn28 rfl (s_dec_size k x10693 x10746 h10744) ⟨rfl, trivial, by decide, rfl, trivial⟩ rfl trivial (.ren rfl rfl .nil) rfl trivial rfl) rfl ?_
   refine WPL.q (q_as (v := .lit (.int _ _)) rfl) rfl ?_
   refine WPL.q (q_as (v := .lit (.int _ _)) rfl) rfl ?_
   refine WPL.q (q_as (v := .lit (.int _ _)) rfl) rfl ?_
   refine WPL.nilW ?_
   refine W.now ?_
   refine Then.n ?_
   refine WP.retW ?_
   have q0 := (Prod.mk.inj (Option.some.inj H)).1
   have q1 := (Prod.mk.inj (Prod.mk.inj (Option.some.inj H)).2).1
   have q2 := (Prod.mk.inj (Prod.mk.inj (Option.some.inj H)).2).2
   subst q0
   subst q1
   subst q2
   exact W.now (Then.r (BodyR.mkR trivial rfl [] ⟨rfl, rfl⟩ ⟨rfl, trivial, by decide, rfl, trivial⟩ rfl rfl))
 replace H := cnf hb10743 H
 refine WP.skipW ?_
 refine W.now ?_
 refine Then.n ?_
 refine WP.seq ?_
 refine WP.regionD' 15 [0] [] mixed rfl ?_
 refine WPD.takeT 0 rfl (by kernel_rfl) (q_mv (v := .lit (.int _ _)) rfl) rfl ?_
 refine WPD.takeT 2 rfl (by kernel_rfl) (q_fieldAddr fi43_1 rfl rfl) rfl ?_
 refine WPD.takeT 5 rfl (by kernel_rfl) (q_mv (v := .lit (.int _ _)) rfl) rfl ?_
 refine WPD.takeT 7 rfl (by kernel_rfl) (q_fieldAddr fi43_1 rfl rfl) rfl ?_
 refine WPD.takeT 10 rfl (by kernel_rfl) (q_fieldAddr fi43_1 rfl rfl) rfl ?_
 refine WPD.take 3 rfl (by kernel_rfl) (q_load sc38 rfl rfl rfl) rfl rfl ?_
 refine WPD.take 8 rfl (by kernel_rfl) (q_load sc38 rfl rfl rfl) rfl rfl ?_
 refine WPD.take 11 rfl (by kernel_rfl) (q_load sc38 rfl rfl rfl) rfl rfl ?_
 obtain ⟨x10754, h10752, H⟩ := bnd H
 refine WPD.eff 1 [0] [] rfl (by kernel_rfl) (runs_call (s := []) (t := []) (N := 1) (bor := []) fn28 rfl (s_dec_size k x10693 x10754 h10752) ⟨rfl, trivial, by decide, rfl, trivial⟩ rfl trivial (.ren rfl rfl .nil) rfl trivial rfl) rfl rfl ?_
 obtain ⟨h10754, H⟩ := grd H
 refine WPD.takeT 4 rfl (by kernel_rfl) (q_quo rfl rfl (bnot h10754)) rfl ?_
 obtain ⟨x10757, h10755, H⟩ := bnd H
 refine WPD.eff 6 [0] [] rfl (by kernel_rfl) (runs_call (s := []) (t := []) (N := 1) (bor := []) fn28 rfl (s_dec_size k x10693 x10757 h10755) ⟨rfl, trivial, by decide, rfl, trivial⟩ rfl trivial (.ren rfl rfl .nil) rfl trivial rfl) rfl rfl ?_
 obtain ⟨h10757, H⟩ := grd H
 refine WPD.takeT 9 rfl (by kernel_rfl) (q_rem rfl rfl (bnot h10757)) rfl ?_
 refine WPD.takeT 12 rfl (by kernel_rfl) (q_as (v := .lit (.int _ _)) rfl) rfl ?_
 refine WPD.takeT 13 rfl (by kernel_rfl) (q_as (v := .lit (.int _ _)) rfl) rfl ?_
 refine WPD.takeT 14 rfl (by kernel_rfl) (q_as (v := .lit (.int _ _)) rfl) rfl ?_
 refine WPD.doneW (by kernel_rfl) ?_
 refine W.now ?_
 refine Then.n ?_
 refine WP.retW ?_
 have q0 := (Prod.mk.inj (Option.some.inj H)).1
 have q1 := (Prod.mk.inj (Prod.mk.inj (Option.some.inj H)).2).1
 have q2 := (Prod.mk.inj (Prod.mk.inj (Option.some.inj H)).2).2
 subst q0
 subst q1
 subst q2
 exact W.now (BodyR.mkR trivial rfl [] ⟨rfl, rfl⟩ ⟨rfl, trivial, by decide, rfl, trivial⟩ rfl rfl)
set_option maxRecDepth 100000 in
set_option maxHeartbeats 4000000 in
theorem s_dec_Round (k : Nat) (x10652 : Int) (x10653 : Int) (x10654 : Int) (x10783 : Int) (x10784 : Int) (x10785 : Int) (H : g_dec_Round k x10652 x10653 x10654 = some (x10783, x10784, x10785)) : Go.Q.Spec Try.prog 23 0 [.agg [.lit (.int .i64 x10652), .lit (.int .i64 x10653)], .lit (.int .i64 x10654)] Mem.nil (fun o M => o = .ret (.tup [.agg [.lit (.int .i64 x10784), .lit (.int .i64 x10785)], .lit (.int .i64 x10783)]) ∧ M = (Mem.nil.push (.cells 23 [.lit (.int .i64 x10784), .lit (.int .i64 x10785)]))) := by
 unfold g_dec_Round at H
 refine Go.Q.Spec.of_bodyR (az := [(23, 2)]) (rs := [.cell 4 23, .tmp 5]) (nt := 60) Try.func23 rfl rfl (by intro t T h; simp at h; rcases h with ⟨rfl, rfl⟩ <;> first | exact ag23) rfl rfl fun cx hnp => ?_
 refine WP.seq ?_
 refine WP.region ?_
 refine WPL.d (d_box rfl rfl) rfl ?_
 refine WPL.d (d_alloc ze23 rfl) rfl ?_
 refine WPL.q (q_as (v := .lit (.int _ _)) rfl) rfl ?_
 refine WPL.nilW ?_
 refine W.now ?_
 refine Then.n ?_
 refine WP.seq ?_
 refine WP.seq ?_
 obtain ⟨⟨x10809, x10810, x10811⟩, H10817, H⟩ := bnd H
 refine WP.monoW (Q := fun x E M => x = .normal ∧ E = ((((Env.none.upd 1 (.lit (.int .i64 x10654))).upd 2 (.ptr 0 0)).upd 4 (.ptr 1 0)).upd 20 (.lit (.bool x10809))) ∧ M = ((Mem.nil.push (.cells 23 [.lit (.int .i64 x10810), .lit (.int .i64 x10811)])).push (.cells 23 [.lit (.int .i64 0), .lit (.int .i64 0)]))) ?_ ?_
 · clear H
   have H := H10817
   clear H10817
   refine WP.region ?_
   refine WPL.d (d_buildCells li81 rfl rfl rfl rfl rfl) rfl ?_
   obtain ⟨⟨x10813, x10814, x10815⟩, h10811, H⟩ := bnd H
   refine WPL.c (runs_call (s := [2, 0]) (t := [2, 0]) (N := 3) (bor := []) fn27 rfl (s_dec_clean__b k x10652 x10653 x10813 x10814 x10815 h10811) ⟨rfl, ⟨⟨trivial, .inr ⟨rfl, rfl, rfl⟩⟩, .inr ⟨rfl, rfl, rfl⟩⟩, by decide, rfl, trivial⟩ rfl trivial (.ren rfl rfl .nil) rfl ⟨⟨trivial, rfl⟩, rfl⟩ rfl) rfl ?_
   refine WPL.q (q_not rfl) rfl ?_
   refine WPL.q (q_mv (v := .lit (.bool _)) rfl) rfl ?_
   refine WPL.split (t := 13) (b := (!x10813)) rfl (fun hb10815 => ?_) (fun hb10815 => ?_)
   · replace H := cnt hb10815 H
     refine WPL.skipg (b' := true) rfl rfl (lb hb10815) rfl rfl ?_
     refine WPL.skipg (b' := true) rfl rfl (lb hb10815) rfl rfl ?_
     refine WPL.q (q_pickT (v := .lit (.bool _)) (lb hb10815) rfl) rfl ?_
     refine WPL.q (q_mv (v := .lit (.bool _)) rfl) rfl ?_
     refine WPL.skipg (b' := true) rfl rfl rfl rfl rfl ?_
     refine WPL.skipg (b' := true) rfl rfl rfl rfl rfl ?_
     refine WPL.q (q_pickT (v := .lit (.bool _)) rfl rfl) rfl ?_
     refine WPL.nilW ?_
     have q0 := (Prod.mk.inj (Option.some.inj H)).1
     have q1 := (Prod.mk.inj (Prod.mk.inj (Option.some.inj H)).2).1
     have q2 := (Prod.mk.inj (Prod.mk.inj (Option.some.inj H)).2).2
     subst q0
     subst q1
     subst q2
     exact W.wk [0, 1] hnp ⟨rfl, rfl, rfl⟩ ⟨rfl, ⟨⟨trivial, .inr ⟨rfl, rfl, rfl⟩⟩, .inr ⟨rfl, rfl, rfl⟩⟩, by decide, rfl, trivial⟩ (LeE.upd rfl rfl (LeE.upd rfl rfl (LeE.upd rfl rfl (LeE.upd rfl rfl (LeE.none rfl rfl))))) rfl
   replace H := cnf hb10815 H
   refine WPL.qg rfl rfl (lb hb10815) (q_mv (v := .lit (.int _ _)) rfl) rfl ?_
   refine WPL.qg rfl rfl (lb hb10815) (q_lss rfl rfl) rfl ?_
   refine WPL.q (q_pickF (v := .lit (.bool _)) (lb hb10815) rfl) rfl ?_
   refine WPL.q (q_mv (v := .lit (.bool _)) rfl) rfl ?_
   refine WPL.split (t := 17) (b := (decide (x10654 < (-18)))) rfl (fun hb10816 => ?_) (fun hb10816 => ?_)
   · replace H := cnt hb10816 H
     refine WPL.skipg (b' := true) rfl rfl (lb hb10816) rfl rfl ?_
     refine WPL.skipg (b' := true) rfl rfl (lb hb10816) rfl rfl ?_
     refine WPL.q (q_pickT (v := .lit (.bool _)) (lb hb10816) rfl) rfl ?_
     refine WPL.nilW ?_
     have q0 := (Prod.mk.inj (Option.some.inj H)).1
     have q1 := (Prod.mk.inj (Prod.mk.inj (Option.some.inj H)).2).1
     have q2 := (Prod.mk.inj (Prod.mk.inj (Option.some.inj H)).2).2
     subst q0
     subst q1
     subst q2
     exact W.wk [0, 1] hnp ⟨rfl, rfl, rfl⟩ ⟨rfl, ⟨⟨trivial, .inr ⟨rfl, rfl, rfl⟩⟩, .inr ⟨rfl, rfl, rfl⟩⟩, by decide, rfl, trivial⟩ (LeE.upd rfl rfl (LeE.upd rfl rfl (LeE.upd rfl rfl (LeE.upd rfl rfl (LeE.none rfl rfl))))) rfl
   replace H := cnf hb10816 H
   refine WPL.qg rfl rfl (lb hb10816) (q_mv (v := .lit (.int _ _)) rfl) rfl ?_
   refine WPL.qg rfl rfl (lb hb10816) (q_gtr rfl rfl) rfl ?_
   refine WPL.q (q_pickF (v := .lit (.bool _)) (lb hb10816) rfl) rfl ?_
   refine WPL.nilW ?_
   have q0 := (Prod.mk.inj (Option.some.inj H)).1
   have q1 := (Prod.mk.inj (Prod.mk.inj (Option.some.inj H)).2).1
   have q2 := (Prod.mk.inj (Prod.mk.inj (Option.some.inj H)).2).2
   subst q0
   subst q1
   subst q2
   exact W.wk [0, 1] hnp ⟨rfl, rfl, rfl⟩ ⟨rfl, ⟨⟨trivial, .inr ⟨rfl, rfl, rfl⟩⟩, .inr ⟨rfl, rfl, rfl⟩⟩, by decide, rfl, trivial⟩ (LeE.upd rfl rfl (LeE.upd rfl rfl (LeE.upd rfl rfl (LeE.upd rfl rfl (LeE.none rfl rfl))))) rfl
 rintro _ _ _ ⟨rfl, rfl, rfl⟩
 refine W.now ?_
 refine Then.n ?_
 refine WP.cond (t := x10809) rfl (fun hb10818 => ?_) (fun hb10818 => ?_)
 · replace H := cnt hb10818 H
   refine WP.seq ?_
   refine WP.region ?_
   refine WPL.q (q_build bu23 rfl) rfl ?_
   refine WPL.s (s_store sz23 rfl rfl rfl rfl rfl) ?_
   refine WPL.q (q_as (v := .lit (.int _ _)) rfl) rfl ?_
   refine WPL.nilW ?_
   refine W.now ?_
   refine Then.n ?_
   refine WP.retW ?_
   have q0 := (Prod.mk.inj (Option.some.inj H)).1
   have q1 := (Prod.mk.inj (Prod.mk.inj (Option.some.inj H)).2).1
   have q2 := (Prod.mk.inj (Prod.mk.inj (Option.some.inj H)).2).2
   subst q0
   subst q1
   subst q2
   exact W.now (Then.r (BodyR.mkR trivial rfl [1] ⟨rfl, rfl⟩ ⟨rfl, ⟨trivial, .inr ⟨rfl, rfl, rfl⟩⟩, by decide, rfl, trivial⟩ rfl rfl))
 replace H := cnf hb10818 H
 refine WP.skipW ?_
 refine W.now ?_
 refine Then.n ?_
 refine WP.seq ?_
 refine WP.region ?_
 refine WPL.q (q_mv (v := .lit (.int _ _)) rfl) rfl ?_
 refine WPL.q (q_neg rfl) rfl ?_
 refine WPL.q (q_fieldAddr fi23_1 rfl rfl) rfl ?_
 refine WPL.q (q_load sc3 rfl rfl rfl) rfl ?_
 obtain ⟨x10820, h10820, H⟩ := bnd H
 refine WPL.q (q_nm (q_sub rfl rfl) (nm_int h10820)) rfl ?_
 refine WPL.q (q_as (v := .lit (.int _ _)) rfl) rfl ?_
 refine WPL.nilW ?_
 refine W.now ?_
 refine Then.n ?_
 refine WP.seq ?_
 refine WP.seq ?_
 refine WP.region ?_
 refine WPL.q (q_mv (v := .lit (.int _ _)) rfl) rfl ?_
 refine WPL.q (q_leq rfl rfl) rfl ?_
 refine WPL.nilW ?_
 refine W.now ?_
 refine Then.n ?_
 refine WP.cond (t := (decide (x10820 ≤ 0))) rfl (fun hb10821 => ?_) (fun hb10821 => ?_)
 · replace H := cnt hb10821 H
   refine WP.seq ?_
   refine WP.region ?_
   refine WPL.q (q_load_ag ag23 rfl rfl (Nat.le_of_ble_eq_true rfl)) rfl ?_
   refine WPL.s (s_store sz23 rfl rfl rfl rfl rfl) ?_
   refine WPL.q (q_as (v := .lit (.int _ _)) rfl) rfl ?_
   refine WPL.nilW ?_
   refine W.now ?_
   refine Then.n ?_
   refine WP.retW ?_
   have q0 := (Prod.mk.inj (Option.some.inj H)).1
   have q1 := (Prod.mk.inj (Prod.mk.inj (Option.some.inj H)).2).1
   have q2 := (Prod.mk.inj (Prod.mk.inj (Option.some.inj H)).2).2
   subst q0
   subst q1
   subst q2
   exact W.now (Then.r (BodyR.mkR trivial rfl [1] ⟨rfl, rfl⟩ ⟨rfl, ⟨trivial, .inr ⟨rfl, rfl, rfl⟩⟩, by decide, rfl, trivial⟩ rfl rfl))
 replace H := cnf hb10821 H
 refine WP.skipW ?_
 refine W.now ?_
 refine Then.n ?_
 refine WP.seq ?_
 refine WP.region ?_
 refine WPL.q (q_fieldAddr fi23_0 rfl rfl) rfl ?_
 refine WPL.q (q_load sc2 rfl rfl rfl) rfl ?_
 refine WPL.q (q_mv (v := .lit (.int _ _)) rfl) rfl ?_
 obtain ⟨⟨x10824, x10825, x10826⟩, h10822, H⟩ := bnd H
 refine WPL.c (runs_call (s := []) (t := []) (N := 2) (bor := []) fn56 rfl (s_dec_cut k x10810 x10820 x10824 x10825 x10826 h10822) ⟨rfl, trivial, by decide, rfl, trivial⟩ rfl trivial (.ren rfl rfl (.ren rfl rfl .nil)) rfl trivial rfl) rfl ?_
 refine WPL.q (q_mv (v := .tup _) rfl) rfl ?_
 refine WPL.q (q_extract rfl rfl) rfl ?_
 refine WPL.q (q_extract rfl rfl) rfl ?_
 refine WPL.q (q_extract rfl rfl) rfl ?_
 refine WPL.q (q_as (v := .lit (.int _ _)) rfl) rfl ?_
 refine WPL.q (q_as (v := .lit (.int _ _)) rfl) rfl ?_
 refine WPL.q (q_as (v := .lit (.int _ _)) rfl) rfl ?_
 refine WPL.nilW ?_
 refine W.now ?_
 refine Then.n ?_
 refine WP.seq ?_
 obtain ⟨x10834, H10841, H⟩ := bnd H
 refine WP.monoW (Q := fun x E M => x = .normal ∧ E = ((((Env.none.upd 1 (.lit (.int .i64 x10654))).upd 2 (.ptr 0 0)).upd 4 (.ptr 1 0)).upd 7 (.lit (.int .u64 x10834))) ∧ M = ((Mem.nil.push (.cells 23 [.lit (.int .i64 x10810), .lit (.int .i64 x10811)])).push (.cells 23 [.lit (.int .i64 0), .lit (.int .i64 0)]))) ?_ ?_
 · clear H
   have H := H10841
   clear H10841
   refine WP.seq ?_
   obtain ⟨x10837, H10839, H⟩ := bnd H
   refine WP.monoW (Q := fun x E M => x = .normal ∧ E = (((((Env.none.upd 1 (.lit (.int .i64 x10654))).upd 2 (.ptr 0 0)).upd 4 (.ptr 1 0)).upd 7 (.lit (.int .u64 x10824))).upd 46 (.lit (.bool x10837))) ∧ M = ((Mem.nil.push (.cells 23 [.lit (.int .i64 x10810), .lit (.int .i64 x10811)])).push (.cells 23 [.lit (.int .i64 0), .lit (.int .i64 0)]))) ?_ ?_
   · clear H
     have H := H10839
     clear H10839
     refine WP.region ?_
     refine WPL.q (q_mv (v := .lit (.int _ _)) rfl) rfl ?_
     refine WPL.q (q_gtr rfl rfl) rfl ?_
     refine WPL.q (q_mv (v := .lit (.bool _)) rfl) rfl ?_
     refine WPL.split (t := 40) (b := (decide (0 < x10826))) rfl (fun hb10837 => ?_) (fun hb10837 => ?_)
     · replace H := cnt hb10837 H
       refine WPL.qg rfl rfl (lb hb10837) (q_mv (v := .lit (.int _ _)) rfl) rfl ?_
       refine WPL.qg rfl rfl (lb hb10837) (q_mv (v := .lit (.int _ _)) rfl) rfl ?_
       refine WPL.qg rfl rfl (lb hb10837) (q_mv (v := .lit (.int _ _)) rfl) rfl ?_
       refine WPL.qg rfl rfl (lb hb10837) (q_sub rfl rfl) rfl ?_
       obtain ⟨x10839, h10839, H⟩ := bnd H
       refine WPL.qg rfl rfl (lb hb10837) (q_nm (q_geq rfl rfl) (nm_bool h10839)) rfl ?_
       refine WPL.q (q_pickT (v := .lit (.bool _)) (lb hb10837) rfl) rfl ?_
       refine WPL.nilW ?_
       have q0 := (Option.some.inj H)
       subst q0
       exact W.wk [0, 1] hnp ⟨rfl, rfl, rfl⟩ ⟨rfl, ⟨⟨trivial, .inr ⟨rfl, rfl, rfl⟩⟩, .inr ⟨rfl, rfl, rfl⟩⟩, by decide, rfl, trivial⟩ (LeE.upd rfl rfl (LeE.upd rfl rfl (LeE.upd rfl rfl (LeE.upd rfl rfl (LeE.upd rfl rfl (LeE.none rfl rfl)))))) rfl
     replace H := cnf hb10837 H
     refine WPL.skipg (b' := false) rfl rfl (lb hb10837) rfl rfl ?_
     refine WPL.skipg (b' := false) rfl rfl (lb hb10837) rfl rfl ?_
     refine WPL.skipg (b' := false) rfl rfl (lb hb10837) rfl rfl ?_
     refine WPL.skipg (b' := false) rfl rfl (lb hb10837) rfl rfl ?_
     refine WPL.skipg (b' := false) rfl rfl (lb hb10837) rfl rfl ?_
     refine WPL.q (q_pickF (v := .lit (.bool _)) (lb hb10837) rfl) rfl ?_
     refine WPL.nilW ?_
     have q0 := (Option.some.inj H)
     subst q0
     exact W.wk [0, 1] hnp ⟨rfl, rfl, rfl⟩ ⟨rfl, ⟨⟨trivial, .inr ⟨rfl, rfl, rfl⟩⟩, .inr ⟨rfl, rfl, rfl⟩⟩, by decide, rfl, trivial⟩ (LeE.upd rfl rfl (LeE.upd rfl rfl (LeE.upd rfl rfl (LeE.upd rfl rfl (LeE.upd rfl rfl (LeE.none rfl rfl)))))) rfl
   rintro _ _ _ ⟨rfl, rfl, rfl⟩
   refine W.now ?_
   refine Then.n ?_
   refine WP.cond (t := x10837) rfl (fun hb10840 => ?_) (fun hb10840 => ?_)
   · replace H := cnt hb10840 H
     refine WP.region ?_
     refine WPL.q (q_mv (v := .lit (.int _ _)) rfl) rfl ?_
     refine WPL.q (q_add rfl rfl) rfl ?_
     refine WPL.q (q_as (v := .lit (.int _ _)) rfl) rfl ?_
     refine WPL.nilW ?_
     have q0 := (Option.some.inj H)
     subst q0
     exact W.wk [0, 1] hnp ⟨rfl, rfl, rfl⟩ ⟨rfl, ⟨⟨trivial, .inr ⟨rfl, rfl, rfl⟩⟩, .inr ⟨rfl, rfl, rfl⟩⟩, by decide, rfl, trivial⟩ (LeE.upd rfl rfl (LeE.upd rfl rfl (LeE.upd rfl rfl (LeE.upd rfl rfl (LeE.none rfl rfl))))) rfl
   replace H := cnf hb10840 H
   refine WP.skipW ?_
   have q0 := (Option.some.inj H)
   subst q0
   exact W.wk [0, 1] hnp ⟨rfl, rfl, rfl⟩ ⟨rfl, ⟨⟨trivial, .inr ⟨rfl, rfl, rfl⟩⟩, .inr ⟨rfl, rfl, rfl⟩⟩, by decide, rfl, trivial⟩ (LeE.upd rfl rfl (LeE.upd rfl rfl (LeE.upd rfl rfl (LeE.upd rfl rfl (LeE.none rfl rfl))))) rfl
 rintro _ _ _ ⟨rfl, rfl, rfl⟩
 refine W.now ?_
 refine Then.n ?_
 refine WP.seq ?_
 refine WP.region ?_
 refine WPL.q (q_fieldAddr fi23_0 rfl rfl) rfl ?_
 refine WPL.q (q_load sc2 rfl rfl rfl) rfl ?_
 refine WPL.q (q_lss rfl rfl) rfl ?_
 refine WPL.q (q_mv (v := .lit (.int _ _)) rfl) rfl ?_
 refine WPL.q (q_build bu43 rfl) rfl ?_
 refine WPL.q (q_mv (v := .lit (.int _ _)) rfl) rfl ?_
 refine WPL.q (q_neg rfl) rfl ?_
 refine WPL.q (q_build bu47 rfl) rfl ?_
 obtain ⟨⟨x10844, x10845, x10846⟩, h10842, H⟩ := bnd H
 refine WPL.c (runs_call (s := []) (t := [2]) (N := 3) (bor := []) fn31 rfl (s_dec_num_tell k (decide (x10810 < 0)) 0 x10834 (IntKind.wrap .i64 (0 - x10654)) x10844 x10845 x10846 h10842) ⟨rfl, trivial, by decide, rfl, trivial⟩ rfl trivial (.ren rfl rfl .nil) rfl ⟨trivial, rfl⟩ rfl) rfl ?_
 refine WPL.q (q_extract rfl rfl) rfl ?_
 refine WPL.q (q_extract rfl rfl) rfl ?_
 refine WPL.s (s_store sz23 rfl rfl rfl rfl rfl) ?_
 refine WPL.q (q_as (v := .lit (.int _ _)) rfl) rfl ?_
 refine WPL.nilW ?_
 refine W.now ?_
 refine Then.n ?_
 refine WP.retW ?_
 have q0 := (Prod.mk.inj (Option.some.inj H)).1
 have q1 := (Prod.mk.inj (Prod.mk.inj (Option.some.inj H)).2).1
 have q2 := (Prod.mk.inj (Prod.mk.inj (Option.some.inj H)).2).2
 subst q0
 subst q1
 subst q2
 exact W.now (BodyR.mkR trivial rfl [1] ⟨rfl, rfl⟩ ⟨rfl, ⟨trivial, .inr ⟨rfl, rfl, rfl⟩⟩, by decide, rfl, trivial⟩ rfl rfl)
set_option maxRecDepth 100000 in
set_option maxHeartbeats 4000000 in
theorem s_quirelaw09_DecOrder (k : Nat) (x10349 : Int) (x10350 : Int) (x10351 : Int) (x10352 : Int) (x10353 : Int) (x10354 : Int) (x10355 : Int) (x10899 : Bool) (H : g_quirelaw09_DecOrder k x10349 x10350 x10351 x10352 x10353 x10354 x10355 = some x10899) : Go.Q.Spec Try.prog 5 0 [.agg [.lit (.int .i64 x10349), .lit (.int .i64 x10350)], .agg [.lit (.int .i64 x10351), .lit (.int .i64 x10352)], .agg [.lit (.int .i64 x10353), .lit (.int .i64 x10354)], .lit (.int .i64 x10355)] Mem.nil (fun o M => o = .ret (.lit (.bool x10899)) ∧ M = Mem.nil) := by
 unfold g_quirelaw09_DecOrder at H
 refine Go.Q.Spec.of_bodyR (az := []) (rs := [.tmp 8]) (nt := 137) Try.func5 rfl rfl (by intro t T h; simp at h) rfl rfl fun cx hnp => ?_
 refine WP.seq ?_
 refine WP.region ?_
 refine WPL.d (d_box rfl rfl) rfl ?_
 refine WPL.d (d_box rfl rfl) rfl ?_
 refine WPL.d (d_box rfl rfl) rfl ?_
 refine WPL.q (q_as (v := .lit (.bool _)) rfl) rfl ?_
 refine WPL.nilW ?_
 refine W.now ?_
 refine Then.n ?_
 refine WP.seq ?_
 refine WP.seq ?_
 obtain ⟨x10920, H10925, H⟩ := bnd H
 refine WP.monoW (Q := fun x E M => x = .normal ∧ E = (((((Env.none.upd 3 (.lit (.int .i64 x10355))).upd 4 (.ptr 0 0)).upd 5 (.ptr 1 0)).upd 6 (.ptr 2 0)).upd 47 (.lit (.bool x10920))) ∧ M = (((Mem.nil.push (.cells 23 [.lit (.int .i64 x10349), .lit (.int .i64 x10350)])).push (.cells 23 [.lit (.int .i64 x10351), .lit (.int .i64 x10352)])).push (.cells 23 [.lit (.int .i64 x10353), .lit (.int .i64 x10354)]))) ?_ ?_
 · clear H
   have H := H10925
   clear H10925
   refine WP.region ?_
   refine WPL.q (q_fieldAddr fi23_1 rfl rfl) rfl ?_
   refine WPL.q (q_load sc3 rfl rfl rfl) rfl ?_
   refine WPL.q (q_lss rfl rfl) rfl ?_
   refine WPL.q (q_mv (v := .lit (.bool _)) rfl) rfl ?_
   refine WPL.split (t := 23) (b := (decide (x10350 < (-18)))) rfl (fun hb10920 => ?_) (fun hb10920 => ?_)
   · replace H := cnt hb10920 H
     refine WPL.skipg (b' := true) rfl rfl (lb hb10920) rfl rfl ?_
     refine WPL.skipg (b' := true) rfl rfl (lb hb10920) rfl rfl ?_
     refine WPL.skipg (b' := true) rfl rfl (lb hb10920) rfl rfl ?_
     refine WPL.q (q_pickT (v := .lit (.bool _)) (lb hb10920) rfl) rfl ?_
     refine WPL.q (q_mv (v := .lit (.bool _)) rfl) rfl ?_
     refine WPL.skipg (b' := true) rfl rfl rfl rfl rfl ?_
     refine WPL.skipg (b' := true) rfl rfl rfl rfl rfl ?_
     refine WPL.skipg (b' := true) rfl rfl rfl rfl rfl ?_
     refine WPL.q (q_pickT (v := .lit (.bool _)) rfl rfl) rfl ?_
     refine WPL.q (q_mv (v := .lit (.bool _)) rfl) rfl ?_
     refine WPL.skipg (b' := true) rfl rfl rfl rfl rfl ?_
     refine WPL.skipg (b' := true) rfl rfl rfl rfl rfl ?_
     refine WPL.skipg (b' := true) rfl rfl rfl rfl rfl ?_
     refine WPL.q (q_pickT (v := .lit (.bool _)) rfl rfl) rfl ?_
     refine WPL.q (q_mv (v := .lit (.bool _)) rfl) rfl ?_
     refine WPL.skipg (b' := true) rfl rfl rfl rfl rfl ?_
     refine WPL.skipg (b' := true) rfl rfl rfl rfl rfl ?_
     refine WPL.skipg (b' := true) rfl rfl rfl rfl rfl ?_
     refine WPL.q (q_pickT (v := .lit (.bool _)) rfl rfl) rfl ?_
     refine WPL.q (q_mv (v := .lit (.bool _)) rfl) rfl ?_
     refine WPL.skipg (b' := true) rfl rfl rfl rfl rfl ?_
     refine WPL.skipg (b' := true) rfl rfl rfl rfl rfl ?_
     refine WPL.skipg (b' := true) rfl rfl rfl rfl rfl ?_
     refine WPL.q (q_pickT (v := .lit (.bool _)) rfl rfl) rfl ?_
     refine WPL.nilW ?_
     have q0 := (Option.some.inj H)
     subst q0
     exact W.wk [0, 1, 2] hnp ⟨rfl, rfl, rfl⟩ ⟨rfl, ⟨⟨⟨trivial, .inr ⟨rfl, rfl, rfl⟩⟩, .inr ⟨rfl, rfl, rfl⟩⟩, .inr ⟨rfl, rfl, rfl⟩⟩, by decide, rfl, trivial⟩ (LeE.upd rfl rfl (LeE.upd rfl rfl (LeE.upd rfl rfl (LeE.upd rfl rfl (LeE.upd rfl rfl (LeE.none rfl rfl)))))) rfl
   replace H := cnf hb10920 H
   refine WPL.qg rfl rfl (lb hb10920) (q_fieldAddr fi23_1 rfl rfl) rfl ?_
   refine WPL.qg rfl rfl (lb hb10920) (q_load sc3 rfl rfl rfl) rfl ?_
   refine WPL.qg rfl rfl (lb hb10920) (q_gtr rfl rfl) rfl ?_
   refine WPL.q (q_pickF (v := .lit (.bool _)) (lb hb10920) rfl) rfl ?_
   refine WPL.q (q_mv (v := .lit (.bool _)) rfl) rfl ?_
   refine WPL.split (t := 28) (b := (decide (18 < x10350))) rfl (fun hb10921 => ?_) (fun hb10921 => ?_)
   · replace H := cnt hb10921 H
     refine WPL.skipg (b' := true) rfl rfl (lb hb10921) rfl rfl ?_
     refine WPL.skipg (b' := true) rfl rfl (lb hb10921) rfl rfl ?_
     refine WPL.skipg (b' := true) rfl rfl (lb hb10921) rfl rfl ?_
     refine WPL.q (q_pickT (v := .lit (.bool _)) (lb hb10921) rfl) rfl ?_
     refine WPL.q (q_mv (v := .lit (.bool _)) rfl) rfl ?_
     refine WPL.skipg (b' := true) rfl rfl rfl rfl rfl ?_
     refine WPL.skipg (b' := true) rfl rfl rfl rfl rfl ?_
     refine WPL.skipg (b' := true) rfl rfl rfl rfl rfl ?_
     refine WPL.q (q_pickT (v := .lit (.bool _)) rfl rfl) rfl ?_
     refine WPL.q (q_mv (v := .lit (.bool _)) rfl) rfl ?_
     refine WPL.skipg (b' := true) rfl rfl rfl rfl rfl ?_
     refine WPL.skipg (b' := true) rfl rfl rfl rfl rfl ?_
     refine WPL.skipg (b' := true) rfl rfl rfl rfl rfl ?_
     refine WPL.q (q_pickT (v := .lit (.bool _)) rfl rfl) rfl ?_
     refine WPL.q (q_mv (v := .lit (.bool _)) rfl) rfl ?_
     refine WPL.skipg (b' := true) rfl rfl rfl rfl rfl ?_
     refine WPL.skipg (b' := true) rfl rfl rfl rfl rfl ?_
     refine WPL.skipg (b' := true) rfl rfl rfl rfl rfl ?_
     refine WPL.q (q_pickT (v := .lit (.bool _)) rfl rfl) rfl ?_
     refine WPL.nilW ?_
     have q0 := (Option.some.inj H)
     subst q0
     exact W.wk [0, 1, 2] hnp ⟨rfl, rfl, rfl⟩ ⟨rfl, ⟨⟨⟨trivial, .inr ⟨rfl, rfl, rfl⟩⟩, .inr ⟨rfl, rfl, rfl⟩⟩, .inr ⟨rfl, rfl, rfl⟩⟩, by decide, rfl, trivial⟩ (LeE.upd rfl rfl (LeE.upd rfl rfl (LeE.upd rfl rfl (LeE.upd rfl rfl (LeE.upd rfl rfl (LeE.none rfl rfl)))))) rfl
   replace H := cnf hb10921 H
   refine WPL.qg rfl rfl (lb hb10921) (q_fieldAddr fi23_1 rfl rfl) rfl ?_
   refine WPL.qg rfl rfl (lb hb10921) (q_load sc3 rfl rfl rfl) rfl ?_
   refine WPL.qg rfl rfl (lb hb10921) (q_lss rfl rfl) rfl ?_
   refine WPL.q (q_pickF (v := .lit (.bool _)) (lb hb10921) rfl) rfl ?_
   refine WPL.q (q_mv (v := .lit (.bool _)) rfl) rfl ?_
   refine WPL.split (t := 33) (b := (decide (x10352 < (-18)))) rfl (fun hb10922 => ?_) (fun hb10922 => ?_)
   · replace H := cnt hb10922 H
     refine WPL.skipg (b' := true) rfl rfl (lb hb10922) rfl rfl ?_
     refine WPL.skipg (b' := true) rfl rfl (lb hb10922) rfl rfl ?_
     refine WPL.skipg (b' := true) rfl rfl (lb hb10922) rfl rfl ?_
     refine WPL.q (q_pickT (v := .lit (.bool _)) (lb hb10922) rfl) rfl ?_
     refine WPL.q (q_mv (v := .lit (.bool _)) rfl) rfl ?_
     refine WPL.skipg (b' := true) rfl rfl rfl rfl rfl ?_
     refine WPL.skipg (b' := true) rfl rfl rfl rfl rfl ?_
     refine WPL.skipg (b' := true) rfl rfl rfl rfl rfl ?_
     refine WPL.q (q_pickT (v := .lit (.bool _)) rfl rfl) rfl ?_
     refine WPL.q (q_mv (v := .lit (.bool _)) rfl) rfl ?_
     refine WPL.skipg (b' := true) rfl rfl rfl rfl rfl ?_
     refine WPL.skipg (b' := true) rfl rfl rfl rfl rfl ?_
     refine WPL.skipg (b' := true) rfl rfl rfl rfl rfl ?_
     refine WPL.q (q_pickT (v := .lit (.bool _)) rfl rfl) rfl ?_
     refine WPL.nilW ?_
     have q0 := (Option.some.inj H)
     subst q0
     exact W.wk [0, 1, 2] hnp ⟨rfl, rfl, rfl⟩ ⟨rfl, ⟨⟨⟨trivial, .inr ⟨rfl, rfl, rfl⟩⟩, .inr ⟨rfl, rfl, rfl⟩⟩, .inr ⟨rfl, rfl, rfl⟩⟩, by decide, rfl, trivial⟩ (LeE.upd rfl rfl (LeE.upd rfl rfl (LeE.upd rfl rfl (LeE.upd rfl rfl (LeE.upd rfl rfl (LeE.none rfl rfl)))))) rfl
   replace H := cnf hb10922 H
   refine WPL.qg rfl rfl (lb hb10922) (q_fieldAddr fi23_1 rfl rfl) rfl ?_
   refine WPL.qg rfl rfl (lb hb10922) (q_load sc3 rfl rfl rfl) rfl ?_
   refine WPL.qg rfl rfl (lb hb10922) (q_gtr rfl rfl) rfl ?_
   refine WPL.q (q_pickF (v := .lit (.bool _)) (lb hb10922) rfl) rfl ?_
   refine WPL.q (q_mv (v := .lit (.bool _)) rfl) rfl ?_
   refine WPL.split (t := 38) (b := (decide (18 < x10352))) rfl (fun hb10923 => ?_) (fun hb10923 => ?_)
   · replace H := cnt hb10923 H
     refine WPL.skipg (b' := true) rfl rfl (lb hb10923) rfl rfl ?_
     refine WPL.skipg (b' := true) rfl rfl (lb hb10923) rfl rfl ?_
     refine WPL.skipg (b' := true) rfl rfl (lb hb10923) rfl rfl ?_
     refine WPL.q (q_pickT (v := .lit (.bool _)) (lb hb10923) rfl) rfl ?_
     refine WPL.q (q_mv (v := .lit (.bool _)) rfl) rfl ?_
     refine WPL.skipg (b' := true) rfl rfl rfl rfl rfl ?_
     refine WPL.skipg (b' := true) rfl rfl rfl rfl rfl ?_
     refine WPL.skipg (b' := true) rfl rfl rfl rfl rfl ?_
     refine WPL.q (q_pickT (v := .lit (.bool _)) rfl rfl) rfl ?_
     refine WPL.nilW ?_
     have q0 := (Option.some.inj H)
     subst q0
     exact W.wk [0, 1, 2] hnp ⟨rfl, rfl, rfl⟩ ⟨rfl, ⟨⟨⟨trivial, .inr ⟨rfl, rfl, rfl⟩⟩, .inr ⟨rfl, rfl, rfl⟩⟩, .inr ⟨rfl, rfl, rfl⟩⟩, by decide, rfl, trivial⟩ (LeE.upd rfl rfl (LeE.upd rfl rfl (LeE.upd rfl rfl (LeE.upd rfl rfl (LeE.upd rfl rfl (LeE.none rfl rfl)))))) rfl
   replace H := cnf hb10923 H
   refine WPL.qg rfl rfl (lb hb10923) (q_fieldAddr fi23_1 rfl rfl) rfl ?_
   refine WPL.qg rfl rfl (lb hb10923) (q_load sc3 rfl rfl rfl) rfl ?_
   refine WPL.qg rfl rfl (lb hb10923) (q_lss rfl rfl) rfl ?_
   refine WPL.q (q_pickF (v := .lit (.bool _)) (lb hb10923) rfl) rfl ?_
   refine WPL.q (q_mv (v := .lit (.bool _)) rfl) rfl ?_
   refine WPL.split (t := 43) (b := (decide (x10354 < (-18)))) rfl (fun hb10924 => ?_) (fun hb10924 => ?_)
   · replace H := cnt hb10924 H
     refine WPL.skipg (b' := true) rfl rfl (lb hb10924) rfl rfl ?_
     refine WPL.skipg (b' := true) rfl rfl (lb hb10924) rfl rfl ?_
     refine WPL.skipg (b' := true) rfl rfl (lb hb10924) rfl rfl ?_
     refine WPL.q (q_pickT (v := .lit (.bool _)) (lb hb10924) rfl) rfl ?_
     refine WPL.nilW ?_
     have q0 := (Option.some.inj H)
     subst q0
     exact W.wk [0, 1, 2] hnp ⟨rfl, rfl, rfl⟩ ⟨rfl, ⟨⟨⟨trivial, .inr ⟨rfl, rfl, rfl⟩⟩, .inr ⟨rfl, rfl, rfl⟩⟩, .inr ⟨rfl, rfl, rfl⟩⟩, by decide, rfl, trivial⟩ (LeE.upd rfl rfl (LeE.upd rfl rfl (LeE.upd rfl rfl (LeE.upd rfl rfl (LeE.upd rfl rfl (LeE.none rfl rfl)))))) rfl
   replace H := cnf hb10924 H
   refine WPL.qg rfl rfl (lb hb10924) (q_fieldAddr fi23_1 rfl rfl) rfl ?_
   refine WPL.qg rfl rfl (lb hb10924) (q_load sc3 rfl rfl rfl) rfl ?_
   refine WPL.qg rfl rfl (lb hb10924) (q_gtr rfl rfl) rfl ?_
   refine WPL.q (q_pickF (v := .lit (.bool _)) (lb hb10924) rfl) rfl ?_
   refine WPL.nilW ?_
   have q0 := (Option.some.inj H)
   subst q0
   exact W.wk [0, 1, 2] hnp ⟨rfl, rfl, rfl⟩ ⟨rfl, ⟨⟨⟨trivial, .inr ⟨rfl, rfl, rfl⟩⟩, .inr ⟨rfl, rfl, rfl⟩⟩, .inr ⟨rfl, rfl, rfl⟩⟩, by decide, rfl, trivial⟩ (LeE.upd rfl rfl (LeE.upd rfl rfl (LeE.upd rfl rfl (LeE.upd rfl rfl (LeE.upd rfl rfl (LeE.none rfl rfl)))))) rfl
 rintro _ _ _ ⟨rfl, rfl, rfl⟩
 refine W.now ?_
 refine Then.n ?_
 refine WP.cond (t := x10920) rfl (fun hb10926 => ?_) (fun hb10926 => ?_)
 · replace H := cnt hb10926 H
   refine WP.seq ?_
   refine WP.region ?_
   obtain ⟨x10929, h10927, H⟩ := bnd H
   refine WPL.c (runs_call (s := []) (t := []) (N := 3) (bor := []) fn13 rfl (s_quirelaw09_alive k x10929 h10927) ⟨rfl, trivial, by decide, rfl, trivial⟩ rfl trivial .nil rfl trivial rfl) rfl ?_
   refine WPL.q (q_as (v := .lit (.bool _)) rfl) rfl ?_
   refine WPL.nilW ?_
   refine W.now ?_
   refine Then.n ?_
   refine WP.retW ?_
   have q0 := (Option.some.inj H)
   subst q0
   exact W.now (Then.r (BodyR.mkR trivial rfl [] ⟨rfl, rfl⟩ ⟨rfl, trivial, by decide, rfl, trivial⟩ rfl rfl))
 replace H := cnf hb10926 H
 refine WP.skipW ?_
 refine W.now ?_
 refine Then.n ?_
 refine WP.seq ?_
 refine WP.regionD' 12 [0, 1, 2] [] mixed rfl ?_
 refine WPD.take 0 rfl (by kernel_rfl) (q_load_ag ag23 rfl rfl (Nat.le_of_ble_eq_true rfl)) rfl rfl ?_
 refine WPD.take 1 rfl (by kernel_rfl) (q_load_ag ag23 rfl rfl (Nat.le_of_ble_eq_true rfl)) rfl rfl ?_
 refine WPD.take 3 rfl (by kernel_rfl) (q_load_ag ag23 rfl rfl (Nat.le_of_ble_eq_true rfl)) rfl rfl ?_
 refine WPD.take 4 rfl (by kernel_rfl) (q_load_ag ag23 rfl rfl (Nat.le_of_ble_eq_true rfl)) rfl rfl ?_
 refine WPD.take 6 rfl (by kernel_rfl) (q_load_ag ag23 rfl rfl (Nat.le_of_ble_eq_true rfl)) rfl rfl ?_
 refine WPD.take 7 rfl (by kernel_rfl) (q_load_ag ag23 rfl rfl (Nat.le_of_ble_eq_true rfl)) rfl rfl ?_
 obtain ⟨x10937, h10935, H⟩ := bnd H
 refine WPD.eff 2 [0, 1, 2] [] rfl (by kernel_rfl) (runs_call (s := []) (t := []) (N := 3) (bor := []) fn22 rfl (s_dec_Cmp k x10349 x10350 x10351 x10352 x10937 h10935) ⟨rfl, trivial, by decide, rfl, trivial⟩ rfl trivial (.ren rfl rfl (.ren rfl rfl .nil)) rfl trivial rfl) rfl rfl ?_
 obtain ⟨x10939, h10937, H⟩ := bnd H
 refine WPD.eff 5 [0, 1, 2] [] rfl (by kernel_rfl) (runs_call (s := []) (t := []) (N := 3) (bor := []) fn22 rfl (s_dec_Cmp k x10351 x10352 x10353 x10354 x10939 h10937) ⟨rfl, trivial, by decide, rfl, trivial⟩ rfl trivial (.ren rfl rfl (.ren rfl rfl .nil)) rfl trivial rfl) rfl rfl ?_
 obtain ⟨x10941, h10939, H⟩ := bnd H
 refine WPD.eff 8 [0, 1, 2] [] rfl (by kernel_rfl) (runs_call (s := []) (t := []) (N := 3) (bor := []) fn22 rfl (s_dec_Cmp k x10349 x10350 x10353 x10354 x10941 h10939) ⟨rfl, trivial, by decide, rfl, trivial⟩ rfl trivial (.ren rfl rfl (.ren rfl rfl .nil)) rfl trivial rfl) rfl rfl ?_
 refine WPD.takeT 9 rfl (by kernel_rfl) (q_as (v := .lit (.int _ _)) rfl) rfl ?_
 refine WPD.takeT 10 rfl (by kernel_rfl) (q_as (v := .lit (.int _ _)) rfl) rfl ?_
 refine WPD.takeT 11 rfl (by kernel_rfl) (q_as (v := .lit (.int _ _)) rfl) rfl ?_
 refine WPD.doneW (by kernel_rfl) ?_
 refine W.now ?_
 refine Then.n ?_
 refine WP.seq ?_
 refine WP.seq ?_
 obtain ⟨x10993, H11009, H⟩ := bnd H
 refine WP.monoW (Q := fun x E M => x = .normal ∧ E = ((((((Env.none.upd 3 (.lit (.int .i64 x10355))).upd 4 (.ptr 0 0)).upd 5 (.ptr 1 0)).upd 6 (.ptr 2 0)).upd 9 (.lit (.int .i64 x10937))).upd 85 (.lit (.bool x10993))) ∧ M = (((Mem.nil.push (.cells 23 [.lit (.int .i64 x10349), .lit (.int .i64 x10350)])).push (.cells 23 [.lit (.int .i64 x10351), .lit (.int .i64 x10352)])).push (.cells 23 [.lit (.int .i64 x10353), .lit (.int .i64 x10354)]))) ?_ ?_
 · clear H
   have H := H11009
   clear H11009
   refine WP.region ?_
   refine WPL.q (q_load_ag ag23 rfl rfl (Nat.le_of_ble_eq_true rfl)) rfl ?_
   refine WPL.q (q_load_ag ag23 rfl rfl (Nat.le_of_ble_eq_true rfl)) rfl ?_
   obtain ⟨x10995, h10993, H⟩ := bnd H
   refine WPL.c (runs_call (s := []) (t := []) (N := 3) (bor := []) fn22 rfl (s_dec_Cmp k x10351 x10352 x10349 x10350 x10995 h10993) ⟨rfl, trivial, by decide, rfl, trivial⟩ rfl trivial (.ren rfl rfl (.ren rfl rfl .nil)) rfl trivial rfl) rfl ?_
   refine WPL.q (q_mv (v := .lit (.int _ _)) rfl) rfl ?_
   refine WPL.q (q_neg rfl) rfl ?_
   obtain ⟨x10996, h10996, H⟩ := bnd H
   refine WPL.q (q_nm (q_neq rfl rfl) (nm_bool h10996)) rfl ?_
   refine WPL.q (q_mv (v := .lit (.bool _)) rfl) rfl ?_
   refine WPL.split (t := 64) (b := x10996) rfl (fun hb10996 => ?_) (fun hb10996 => ?_)
   · replace H := cnt hb10996 H
     refine WPL.skipg (b' := true) rfl rfl (lb hb10996) rfl rfl ?_
     refine WPL.skipg (b' := true) rfl rfl (lb hb10996) rfl rfl ?_
     refine WPL.skipg (b' := true) rfl rfl (lb hb10996) rfl rfl ?_
     refine WPL.skipg (b' := true) rfl rfl (lb hb10996) rfl rfl ?_
     refine WPL.q (q_pickT (v := .lit (.bool _)) (lb hb10996) rfl) rfl ?_
     refine WPL.q (q_mv (v := .lit (.bool _)) rfl) rfl ?_
     refine WPL.skipg (b' := true) rfl rfl rfl rfl rfl ?_
     refine WPL.skipg (b' := true) rfl rfl rfl rfl rfl ?_
     refine WPL.skipg (b' := true) rfl rfl rfl rfl rfl ?_
     refine WPL.skipu rfl rfl rfl rfl ?_
     refine WPL.skipu rfl rfl rfl rfl ?_
     refine WPL.skipg (b' := true) rfl rfl rfl rfl rfl ?_
     refine WPL.skipg (b' := true) rfl rfl rfl rfl rfl ?_
     refine WPL.skipu rfl rfl rfl rfl ?_
     refine WPL.skipu rfl rfl rfl rfl ?_
     refine WPL.skipg (b' := true) rfl rfl rfl rfl rfl ?_
     refine WPL.q (q_pickT (v := .lit (.bool _)) rfl rfl) rfl ?_
     refine WPL.q (q_mv (v := .lit (.bool _)) rfl) rfl ?_
     refine WPL.skipg (b' := true) rfl rfl rfl rfl rfl ?_
     refine WPL.skipg (b' := true) rfl rfl rfl rfl rfl ?_
     refine WPL.q (q_pickT (v := .lit (.bool _)) rfl rfl) rfl ?_
     refine WPL.nilW ?_
     have q0 := (Option.some.inj H)
     subst q0
     exact W.wk [0, 1, 2] hnp ⟨rfl, rfl, rfl⟩ ⟨rfl, ⟨⟨⟨trivial, .inr ⟨rfl, rfl, rfl⟩⟩, .inr ⟨rfl, rfl, rfl⟩⟩, .inr ⟨rfl, rfl, rfl⟩⟩, by decide, rfl, trivial⟩ (LeE.upd rfl rfl (LeE.upd rfl rfl (LeE.upd rfl rfl (LeE.upd rfl rfl (LeE.upd rfl rfl (LeE.upd rfl rfl (LeE.none rfl rfl))))))) rfl
   replace H := cnf hb10996 H
   refine WPL.qg rfl rfl (lb hb10996) (q_load_ag ag23 rfl rfl (Nat.le_of_ble_eq_true rfl)) rfl ?_
   refine WPL.qg rfl rfl (lb hb10996) (q_load_ag ag23 rfl rfl (Nat.le_of_ble_eq_true rfl)) rfl ?_
   obtain ⟨x10999, h10997, H⟩ := bnd H
   refine WPL.cg rfl rfl (lb hb10996) (runs_call (s := []) (t := []) (N := 3) (bor := []) fn22 rfl (s_dec_Cmp k x10349 x10350 x10349 x10350 x10999 h10997) ⟨rfl, trivial, by decide, rfl, trivial⟩ rfl trivial (.ren rfl rfl (.ren rfl rfl .nil)) rfl trivial rfl) rfl ?_
   refine WPL.qg rfl rfl (lb hb10996) (q_neq rfl rfl) rfl ?_
   refine WPL.q (q_pickF (v := .lit (.bool _)) (lb hb10996) rfl) rfl ?_
   refine WPL.q (q_mv (v := .lit (.bool _)) rfl) rfl ?_
   refine WPL.split (t := 70) (b := (!decide (x10999 = 0))) rfl (fun hb10999 => ?_) (fun hb10999 => ?_)
   · replace H := cnt hb10999 H
     refine WPL.skipg (b' := true) rfl rfl (lb hb10999) rfl rfl ?_
     refine WPL.skipg (b' := true) rfl rfl (lb hb10999) rfl rfl ?_
     refine WPL.skipg (b' := true) rfl rfl (lb hb10999) rfl rfl ?_
     refine WPL.skipu rfl rfl rfl rfl ?_
     refine WPL.skipu rfl rfl rfl rfl ?_
     refine WPL.skipg (b' := true) rfl rfl (lb hb10999) rfl rfl ?_
     refine WPL.skipg (b' := true) rfl rfl (lb hb10999) rfl rfl ?_
     refine WPL.skipu rfl rfl rfl rfl ?_
     refine WPL.skipu rfl rfl rfl rfl ?_
     refine WPL.skipg (b' := true) rfl rfl (lb hb10999) rfl rfl ?_
     refine WPL.q (q_pickT (v := .lit (.bool _)) (lb hb10999) rfl) rfl ?_
     refine WPL.q (q_mv (v := .lit (.bool _)) rfl) rfl ?_
     refine WPL.skipg (b' := true) rfl rfl rfl rfl rfl ?_
     refine WPL.skipg (b' := true) rfl rfl rfl rfl rfl ?_
     refine WPL.q (q_pickT (v := .lit (.bool _)) rfl rfl) rfl ?_
     refine WPL.nilW ?_
     have q0 := (Option.some.inj H)
     subst q0
     exact W.wk [0, 1, 2] hnp ⟨rfl, rfl, rfl⟩ ⟨rfl, ⟨⟨⟨trivial, .inr ⟨rfl, rfl, rfl⟩⟩, .inr ⟨rfl, rfl, rfl⟩⟩, .inr ⟨rfl, rfl, rfl⟩⟩, by decide, rfl, trivial⟩ (LeE.upd rfl rfl (LeE.upd rfl rfl (LeE.upd rfl rfl (LeE.upd rfl rfl (LeE.upd rfl rfl (LeE.upd rfl rfl (LeE.none rfl rfl))))))) rfl
   replace H := cnf hb10999 H
   refine WPL.qg rfl rfl (lb hb10999) (q_mv (v := .lit (.int _ _)) rfl) rfl ?_
   refine WPL.qg rfl rfl (lb hb10999) (q_leq rfl rfl) rfl ?_
   refine WPL.qg rfl rfl (lb hb10999) (q_mv (v := .lit (.bool _)) rfl) rfl ?_
   refine WPL.split (t := 73) (b := (decide (x10937 ≤ 0))) rfl (fun hb11000 => ?_) (fun hb11000 => ?_)
   · replace H := cnt hb11000 H
     refine WPL.qg rfl rfl (lb hb11000) (q_mv (v := .lit (.int _ _)) rfl) rfl ?_
     refine WPL.qg rfl rfl (lb hb11000) (q_leq rfl rfl) rfl ?_
     refine WPL.qg rfl rfl (lb hb10999) (q_pickT (v := .lit (.bool _)) (lb hb11000) rfl) rfl ?_
     refine WPL.qg rfl rfl (lb hb10999) (q_mv (v := .lit (.bool _)) rfl) rfl ?_
     refine WPL.split (t := 77) (b := (decide (x10939 ≤ 0))) rfl (fun hb11001 => ?_) (fun hb11001 => ?_)
     · replace H := cnt hb11001 H
       refine WPL.qg rfl rfl (lb hb11001) (q_mv (v := .lit (.int _ _)) rfl) rfl ?_
       refine WPL.qg rfl rfl (lb hb11001) (q_gtr rfl rfl) rfl ?_
       refine WPL.qg rfl rfl (lb hb10999) (q_pickT (v := .lit (.bool _)) (lb hb11001) rfl) rfl ?_
       refine WPL.q (q_pickF (v := .lit (.bool _)) (lb hb10999) rfl) rfl ?_
       refine WPL.q (q_mv (v := .lit (.bool _)) rfl) rfl ?_
       refine WPL.split (t := 82) (b := (decide (0 < x10941))) rfl (fun hb11002 => ?_) (fun hb11002 => ?_)
       · replace H := cnt hb11002 H
         refine WPL.skipg (b' := true) rfl rfl (lb hb11002) rfl rfl ?_
         refine WPL.skipg (b' := true) rfl rfl (lb hb11002) rfl rfl ?_
         refine WPL.q (q_pickT (v := .lit (.bool _)) (lb hb11002) rfl) rfl ?_
         refine WPL.nilW ?_
         have q0 := (Option.some.inj H)
         subst q0
         exact W.wk [0, 1, 2] hnp ⟨rfl, rfl, rfl⟩ ⟨rfl, ⟨⟨⟨trivial, .inr ⟨rfl, rfl, rfl⟩⟩, .inr ⟨rfl, rfl, rfl⟩⟩, .inr ⟨rfl, rfl, rfl⟩⟩, by decide, rfl, trivial⟩ (LeE.upd rfl rfl (LeE.upd rfl rfl (LeE.upd rfl rfl (LeE.upd rfl rfl (LeE.upd rfl rfl (LeE.upd rfl rfl (LeE.none rfl rfl))))))) rfl
       replace H := cnf hb11002 H
       obtain ⟨x11005, h11003, H⟩ := bnd H
       refine WPL.cg rfl rfl (lb hb11002) (runs_call (s := []) (t := []) (N := 3) (bor := []) fn13 rfl (s_quirelaw09_alive k x11005 h11003) ⟨rfl, trivial, by decide, rfl, trivial⟩ rfl trivial .nil rfl trivial rfl) rfl ?_
       refine WPL.qg rfl rfl (lb hb11002) (q_not rfl) rfl ?_
       refine WPL.q (q_pickF (v := .lit (.bool _)) (lb hb11002) rfl) rfl ?_
       refine WPL.nilW ?_
       have q0 := (Option.some.inj H)
       subst q0
       exact W.wk [0, 1, 2] hnp ⟨rfl, rfl, rfl⟩ ⟨rfl, ⟨⟨⟨trivial, .inr ⟨rfl, rfl, rfl⟩⟩, .inr ⟨rfl, rfl, rfl⟩⟩, .inr ⟨rfl, rfl, rfl⟩⟩, by decide, rfl, trivial⟩ (LeE.upd rfl rfl (LeE.upd rfl rfl (LeE.upd rfl rfl (LeE.upd rfl rfl (LeE.upd rfl rfl (LeE.upd rfl rfl (LeE.none rfl rfl))))))) rfl
     replace H := cnf hb11001 H
     refine WPL.skipg (b' := false) rfl rfl (lb hb11001) rfl rfl ?_
     refine WPL.skipg (b' := false) rfl rfl (lb hb11001) rfl rfl ?_
     refine WPL.qg rfl rfl (lb hb10999) (q_pickF (v := .lit (.bool _)) (lb hb11001) rfl) rfl ?_
     refine WPL.q (q_pickF (v := .lit (.bool _)) (lb hb10999) rfl) rfl ?_
     refine WPL.q (q_mv (v := .lit (.bool _)) rfl) rfl ?_
     obtain ⟨x11007, h11005, H⟩ := bnd H
     refine WPL.cg rfl rfl rfl (runs_call (s := []) (t := []) (N := 3) (bor := []) fn13 rfl (s_quirelaw09_alive k x11007 h11005) ⟨rfl, trivial, by decide, rfl, trivial⟩ rfl trivial .nil rfl trivial rfl) rfl ?_
     refine WPL.qg rfl rfl rfl (q_not rfl) rfl ?_
     refine WPL.q (q_pickF (v := .lit (.bool _)) rfl rfl) rfl ?_
     refine WPL.nilW ?_
     have q0 := (Option.some.inj H)
     subst q0
     exact W.wk [0, 1, 2] hnp ⟨rfl, rfl, rfl⟩ ⟨rfl, ⟨⟨⟨trivial, .inr ⟨rfl, rfl, rfl⟩⟩, .inr ⟨rfl, rfl, rfl⟩⟩, .inr ⟨rfl, rfl, rfl⟩⟩, by decide, rfl, trivial⟩ (LeE.upd rfl rfl (LeE.upd rfl rfl (LeE.upd rfl rfl (LeE.upd rfl rfl (LeE.upd rfl rfl (LeE.upd rfl rfl (LeE.none rfl rfl))))))) rfl
   replace H := cnf hb11000 H
   refine WPL.skipg (b' := false) rfl rfl (lb hb11000) rfl rfl ?_
   refine WPL.skipg (b' := false) rfl rfl (lb hb11000) rfl rfl ?_
   refine WPL.qg rfl rfl (lb hb10999) (q_pickF (v := .lit (.bool _)) (lb hb11000) rfl) rfl ?_
   refine WPL.qg rfl rfl (lb hb10999) (q_mv (v := .lit (.bool _)) rfl) rfl ?_
   refine WPL.skipg (b' := false) rfl rfl rfl rfl rfl ?_
   refine WPL.skipg (b' := false) rfl rfl rfl rfl rfl ?_
   refine WPL.qg rfl rfl (lb hb10999) (q_pickF (v := .lit (.bool _)) rfl rfl) rfl ?_
   refine WPL.q (q_pickF (v := .lit (.bool _)) (lb hb10999) rfl) rfl ?_
   refine WPL.q (q_mv (v := .lit (.bool _)) rfl) rfl ?_
   obtain ⟨x11009, h11007, H⟩ := bnd H
   refine WPL.cg rfl rfl rfl (runs_call (s := []) (t := []) (N := 3) (bor := []) fn13 rfl (s_quirelaw09_alive k x11009 h11007) ⟨rfl, trivial, by decide, rfl, trivial⟩ rfl trivial .nil rfl trivial rfl) rfl ?_
   refine WPL.qg rfl rfl rfl (q_not rfl) rfl ?_
   refine WPL.q (q_pickF (v := .lit (.bool _)) rfl rfl) rfl ?_
   refine WPL.nilW ?_
   have q0 := (Option.some.inj H)
   subst q0
   exact W.wk [0, 1, 2] hnp ⟨rfl, rfl, rfl⟩ ⟨rfl, ⟨⟨⟨trivial, .inr ⟨rfl, rfl, rfl⟩⟩, .inr ⟨rfl, rfl, rfl⟩⟩, .inr ⟨rfl, rfl, rfl⟩⟩, by decide, rfl, trivial⟩ (LeE.upd rfl rfl (LeE.upd rfl rfl (LeE.upd rfl rfl (LeE.upd rfl rfl (LeE.upd rfl rfl (LeE.upd rfl rfl (LeE.none rfl rfl))))))) rfl
 rintro _ _ _ ⟨rfl, rfl, rfl⟩
 refine W.now ?_
 refine Then.n ?_
 refine WP.cond (t := x10993) rfl (fun hb11010 => ?_) (fun hb11010 => ?_)
 · replace H := cnt hb11010 H
   refine WP.seq ?_
   refine WP.region ?_
   refine WPL.q (q_as (v := .lit (.bool _)) rfl) rfl ?_
   refine WPL.nilW ?_
   refine W.now ?_
   refine Then.n ?_
   refine WP.retW ?_
   have q0 := (Option.some.inj H)
   subst q0
   exact W.now (Then.r (BodyR.mkR trivial rfl [] ⟨rfl, rfl⟩ ⟨rfl, trivial, by decide, rfl, trivial⟩ rfl rfl))
 replace H := cnf hb11010 H
 refine WP.skipW ?_
 refine W.now ?_
 refine Then.n ?_
 refine WP.seq ?_
 refine WP.region ?_
 refine WPL.q (q_load_ag ag23 rfl rfl (Nat.le_of_ble_eq_true rfl)) rfl ?_
 refine WPL.q (q_mv (v := .lit (.int _ _)) rfl) rfl ?_
 obtain ⟨⟨x11013, x11014, x11015⟩, h11011, H⟩ := bnd H
 refine WPL.c (runs_call (s := []) (t := [3]) (N := 4) (bor := []) fn23 rfl (s_dec_Round k x10349 x10350 x10355 x11013 x11014 x11015 h11011) ⟨rfl, trivial, by decide, rfl, trivial⟩ rfl trivial (.ren rfl rfl (.ren rfl rfl .nil)) rfl ⟨trivial, rfl⟩ rfl) rfl ?_
 refine WPL.q (q_mv (v := .tup _) rfl) rfl ?_
 refine WPL.q (q_extract rfl rfl) rfl ?_
 refine WPL.q (q_extract rfl rfl) rfl ?_
 refine WPL.d (d_alloc ze23 rfl) rfl ?_
 refine WPL.s (s_store sz23 rfl rfl rfl rfl rfl) ?_
 refine WPL.q (q_as (v := .lit (.int _ _)) rfl) rfl ?_
 refine WPL.nilW ?_
 refine W.now ?_
 refine Then.n ?_
 refine WP.seq ?_
 refine WP.region ?_
 refine WPL.q (q_load_ag ag23 rfl rfl (Nat.le_of_ble_eq_true rfl)) rfl ?_
 refine WPL.q (q_mv (v := .lit (.int _ _)) rfl) rfl ?_
 obtain ⟨⟨x11017, x11018, x11019⟩, h11015, H⟩ := bnd H
 refine WPL.c (runs_call (s := []) (t := [5]) (N := 6) (bor := []) fn23 rfl (s_dec_Round k x10351 x10352 x10355 x11017 x11018 x11019 h11015) ⟨rfl, trivial, by decide, rfl, trivial⟩ rfl trivial (.ren rfl rfl (.ren rfl rfl .nil)) rfl ⟨trivial, rfl⟩ rfl) rfl ?_
 refine WPL.q (q_mv (v := .tup _) rfl) rfl ?_
 refine WPL.q (q_extract rfl rfl) rfl ?_
 refine WPL.q (q_extract rfl rfl) rfl ?_
 refine WPL.d (d_alloc ze23 rfl) rfl ?_
 refine WPL.s (s_store sz23 rfl rfl rfl rfl rfl) ?_
 refine WPL.q (q_as (v := .lit (.int _ _)) rfl) rfl ?_
 refine WPL.nilW ?_
 refine W.now ?_
 refine Then.n ?_
 refine WP.seq ?_
 refine WP.region ?_
 refine WPL.q (q_load_ag ag23 rfl rfl (Nat.le_of_ble_eq_true rfl)) rfl ?_
 refine WPL.q (q_load_ag ag23 rfl rfl (Nat.le_of_ble_eq_true rfl)) rfl ?_
 obtain ⟨⟨x11021, x11022, x11023⟩, h11019, H⟩ := bnd H
 refine WPL.c (runs_call (s := []) (t := [7]) (N := 8) (bor := []) fn14 rfl (s_dec_Add k x10349 x10350 x10353 x10354 x11021 x11022 x11023 h11019) ⟨rfl, trivial, by decide, rfl, trivial⟩ rfl trivial (.ren rfl rfl (.ren rfl rfl .nil)) rfl ⟨trivial, rfl⟩ rfl) rfl ?_
 refine WPL.q (q_mv (v := .tup _) rfl) rfl ?_
 refine WPL.q (q_extract rfl rfl) rfl ?_
 refine WPL.q (q_extract rfl rfl) rfl ?_
 refine WPL.d (d_alloc ze23 rfl) rfl ?_
 refine WPL.s (s_store sz23 rfl rfl rfl rfl rfl) ?_
 refine WPL.q (q_as (v := .lit (.int _ _)) rfl) rfl ?_
 refine WPL.nilW ?_
 refine W.now ?_
 refine Then.n ?_
 refine WP.seq ?_
 refine WP.region ?_
 refine WPL.q (q_load_ag ag23 rfl rfl (Nat.le_of_ble_eq_true rfl)) rfl ?_
 refine WPL.q (q_load_ag ag23 rfl rfl (Nat.le_of_ble_eq_true rfl)) rfl ?_
 obtain ⟨⟨x11025, x11026, x11027⟩, h11023, H⟩ := bnd H
 refine WPL.c (runs_call (s := []) (t := [9]) (N := 10) (bor := []) fn14 rfl (s_dec_Add k x10351 x10352 x10353 x10354 x11025 x11026 x11027 h11023) ⟨rfl, trivial, by decide, rfl, trivial⟩ rfl trivial (.ren rfl rfl (.ren rfl rfl .nil)) rfl ⟨trivial, rfl⟩ rfl) rfl ?_
 refine WPL.q (q_mv (v := .tup _) rfl) rfl ?_
 refine WPL.q (q_extract rfl rfl) rfl ?_
 refine WPL.q (q_extract rfl rfl) rfl ?_
 refine WPL.d (d_alloc ze23 rfl) rfl ?_
 refine WPL.s (s_store sz23 rfl rfl rfl rfl rfl) ?_
 refine WPL.q (q_as (v := .lit (.int _ _)) rfl) rfl ?_
 refine WPL.nilW ?_
 refine W.now ?_
 refine Then.n ?_
 refine WP.seq ?_
 refine WP.seq ?_
 obtain ⟨x11046, H11051, H⟩ := bnd H
 refine WP.monoW (Q := fun x E M => x = .normal ∧ E = ((((((Env.none.upd 9 (.lit (.int .i64 x10937))).upd 16 (.ptr 0 0)).upd 17 (.lit (.int .i64 x11021))).upd 18 (.ptr 1 0)).upd 19 (.lit (.int .i64 x11025))).upd 123 (.lit (.bool x11046))) ∧ M = ((Mem.nil.push (.cells 23 [.lit (.int .i64 x11022), .lit (.int .i64 x11023)])).push (.cells 23 [.lit (.int .i64 x11026), .lit (.int .i64 x11027)]))) ?_ ?_
 · clear H
   have H := H11051
   clear H11051
   refine WP.region ?_
   refine WPL.q (q_mv (v := .lit (.int _ _)) rfl) rfl ?_
   refine WPL.q (q_eql rfl rfl) rfl ?_
   refine WPL.q (q_mv (v := .lit (.bool _)) rfl) rfl ?_
   refine WPL.split (t := 112) (b := (decide (x11013 = 0))) rfl (fun hb11046 => ?_) (fun hb11046 => ?_)
   · replace H := cnt hb11046 H
     refine WPL.qg rfl rfl (lb hb11046) (q_mv (v := .lit (.int _ _)) rfl) rfl ?_
     refine WPL.qg rfl rfl (lb hb11046) (q_eql rfl rfl) rfl ?_
     refine WPL.q (q_pickT (v := .lit (.bool _)) (lb hb11046) rfl) rfl ?_
     refine WPL.q (q_mv (v := .lit (.bool _)) rfl) rfl ?_
     refine WPL.split (t := 116) (b := (decide (x11017 = 0))) rfl (fun hb11047 => ?_) (fun hb11047 => ?_)
     · replace H := cnt hb11047 H
       refine WPL.qg rfl rfl (lb hb11047) (q_mv (v := .lit (.int _ _)) rfl) rfl ?_
       refine WPL.qg rfl rfl (lb hb11047) (q_load_ag ag23 rfl rfl (Nat.le_of_ble_eq_true rfl)) rfl ?_
       refine WPL.qg rfl rfl (lb hb11047) (q_load_ag ag23 rfl rfl (Nat.le_of_ble_eq_true rfl)) rfl ?_
       obtain ⟨x11050, h11048, H⟩ := bnd H
       refine WPL.cg rfl rfl (lb hb11047) (runs_call (s := []) (t := []) (N := 11) (bor := []) fn22 rfl (s_dec_Cmp k x11014 x11015 x11018 x11019 x11050 h11048) ⟨rfl, trivial, by decide, rfl, trivial⟩ rfl trivial (.ren rfl rfl (.ren rfl rfl .nil)) rfl trivial rfl) rfl ?_
       refine WPL.qg rfl rfl (lb hb11047) (q_mul rfl rfl) rfl ?_
       obtain ⟨x11051, h11051, H⟩ := bnd H
       refine WPL.qg rfl rfl (lb hb11047) (q_nm (q_lss rfl rfl) (nm_bool h11051)) rfl ?_
       refine WPL.q (q_pickT (v := .lit (.bool _)) (lb hb11047) rfl) rfl ?_
       refine WPL.nilW ?_
       have q0 := (Option.some.inj H)
       subst q0
       exact W.wk [8, 10] hnp ⟨rfl, rfl, rfl⟩ ⟨rfl, ⟨⟨trivial, .inr ⟨rfl, rfl, rfl⟩⟩, .inr ⟨rfl, rfl, rfl⟩⟩, by decide, rfl, trivial⟩ (LeE.upd rfl rfl (LeE.upd rfl rfl (LeE.upd rfl rfl (LeE.upd rfl rfl (LeE.upd rfl rfl (LeE.upd rfl rfl (LeE.none rfl rfl))))))) rfl
     replace H := cnf hb11047 H
     refine WPL.skipg (b' := false) rfl rfl (lb hb11047) rfl rfl ?_
     refine WPL.skipg (b' := false) rfl rfl (lb hb11047) rfl rfl ?_
     refine WPL.skipg (b' := false) rfl rfl (lb hb11047) rfl rfl ?_
     refine WPL.skipg (b' := false) rfl rfl (lb hb11047) rfl rfl ?_
     refine WPL.skipg (b' := false) rfl rfl (lb hb11047) rfl rfl ?_
     refine WPL.skipg (b' := false) rfl rfl (lb hb11047) rfl rfl ?_
     refine WPL.q (q_pickF (v := .lit (.bool _)) (lb hb11047) rfl) rfl ?_
     refine WPL.nilW ?_
     have q0 := (Option.some.inj H)
     subst q0
     exact W.wk [8, 10] hnp ⟨rfl, rfl, rfl⟩ ⟨rfl, ⟨⟨trivial, .inr ⟨rfl, rfl, rfl⟩⟩, .inr ⟨rfl, rfl, rfl⟩⟩, by decide, rfl, trivial⟩ (LeE.upd rfl rfl (LeE.upd rfl rfl (LeE.upd rfl rfl (LeE.upd rfl rfl (LeE.upd rfl rfl (LeE.upd rfl rfl (LeE.none rfl rfl))))))) rfl
   replace H := cnf hb11046 H
   refine WPL.skipg (b' := false) rfl rfl (lb hb11046) rfl rfl ?_
   refine WPL.skipg (b' := false) rfl rfl (lb hb11046) rfl rfl ?_
   refine WPL.q (q_pickF (v := .lit (.bool _)) (lb hb11046) rfl) rfl ?_
   refine WPL.q (q_mv (v := .lit (.bool _)) rfl) rfl ?_
   refine WPL.skipg (b' := false) rfl rfl rfl rfl rfl ?_
   refine WPL.skipg (b' := false) rfl rfl rfl rfl rfl ?_
   refine WPL.skipg (b' := false) rfl rfl rfl rfl rfl ?_
   refine WPL.skipg (b' := false) rfl rfl rfl rfl rfl ?_
   refine WPL.skipg (b' := false) rfl rfl rfl rfl rfl ?_
   refine WPL.skipg (b' := false) rfl rfl rfl rfl rfl ?_
   refine WPL.q (q_pickF (v := .lit (.bool _)) rfl rfl) rfl ?_
   refine WPL.nilW ?_
   have q0 := (Option.some.inj H)
   subst q0
   exact W.wk [8, 10] hnp ⟨rfl, rfl, rfl⟩ ⟨rfl, ⟨⟨trivial, .inr ⟨rfl, rfl, rfl⟩⟩, .inr ⟨rfl, rfl, rfl⟩⟩, by decide, rfl, trivial⟩ (LeE.upd rfl rfl (LeE.upd rfl rfl (LeE.upd rfl rfl (LeE.upd rfl rfl (LeE.upd rfl rfl (LeE.upd rfl rfl (LeE.none rfl rfl))))))) rfl
 rintro _ _ _ ⟨rfl, rfl, rfl⟩
 refine W.now ?_
 refine Then.n ?_
 refine WP.cond (t := x11046) rfl (fun hb11052 => ?_) (fun hb11052 => ?_)
 · replace H := cnt hb11052 H
   refine WP.seq ?_
   refine WP.region ?_
   refine WPL.q (q_as (v := .lit (.bool _)) rfl) rfl ?_
   refine WPL.nilW ?_
   refine W.now ?_
   refine Then.n ?_
   refine WP.retW ?_
   have q0 := (Option.some.inj H)
   subst q0
   exact W.now (Then.r (BodyR.mkR trivial rfl [] ⟨rfl, rfl⟩ ⟨rfl, trivial, by decide, rfl, trivial⟩ rfl rfl))
 replace H := cnf hb11052 H
 refine WP.skipW ?_
 refine W.now ?_
 refine Then.n ?_
 refine WP.seq ?_
 obtain ⟨x11058, H11062, H⟩ := bnd H
 refine WP.monoW (Q := fun x E M => x = .normal ∧ E = (Env.none.upd 8 (.lit (.bool x11058))) ∧ M = Mem.nil) ?_ ?_
 · clear H
   have H := H11062
   clear H11062
   refine WP.region ?_
   refine WPL.q (q_mv (v := .lit (.int _ _)) rfl) rfl ?_
   refine WPL.q (q_neq rfl rfl) rfl ?_
   refine WPL.q (q_mv (v := .lit (.bool _)) rfl) rfl ?_
   refine WPL.split (t := 126) (b := (!decide (x11021 = 0))) rfl (fun hb11058 => ?_) (fun hb11058 => ?_)
   · replace H := cnt hb11058 H
     refine WPL.skipg (b' := true) rfl rfl (lb hb11058) rfl rfl ?_
     refine WPL.skipg (b' := true) rfl rfl (lb hb11058) rfl rfl ?_
     refine WPL.q (q_pickT (v := .lit (.bool _)) (lb hb11058) rfl) rfl ?_
     refine WPL.q (q_mv (v := .lit (.bool _)) rfl) rfl ?_
     refine WPL.skipg (b' := true) rfl rfl rfl rfl rfl ?_
     refine WPL.skipg (b' := true) rfl rfl rfl rfl rfl ?_
     refine WPL.skipg (b' := true) rfl rfl rfl rfl rfl ?_
     refine WPL.skipg (b' := true) rfl rfl rfl rfl rfl ?_
     refine WPL.skipg (b' := true) rfl rfl rfl rfl rfl ?_
     refine WPL.q (q_pickT (v := .lit (.bool _)) rfl rfl) rfl ?_
     refine WPL.q (q_as (v := .lit (.bool _)) rfl) rfl ?_
     refine WPL.nilW ?_
     have q0 := (Option.some.inj H)
     subst q0
     exact W.wk [] hnp ⟨rfl, rfl, rfl⟩ ⟨rfl, trivial, by decide, rfl, trivial⟩ (LeE.upd rfl rfl (LeE.none rfl rfl)) rfl
   replace H := cnf hb11058 H
   refine WPL.qg rfl rfl (lb hb11058) (q_mv (v := .lit (.int _ _)) rfl) rfl ?_
   refine WPL.qg rfl rfl (lb hb11058) (q_neq rfl rfl) rfl ?_
   refine WPL.q (q_pickF (v := .lit (.bool _)) (lb hb11058) rfl) rfl ?_
   refine WPL.q (q_mv (v := .lit (.bool _)) rfl) rfl ?_
   refine WPL.split (t := 130) (b := (!decide (x11025 = 0))) rfl (fun hb11059 => ?_) (fun hb11059 => ?_)
   · replace H := cnt hb11059 H
     refine WPL.skipg (b' := true) rfl rfl (lb hb11059) rfl rfl ?_
     refine WPL.skipg (b' := true) rfl rfl (lb hb11059) rfl rfl ?_
     refine WPL.skipg (b' := true) rfl rfl (lb hb11059) rfl rfl ?_
     refine WPL.skipg (b' := true) rfl rfl (lb hb11059) rfl rfl ?_
     refine WPL.skipg (b' := true) rfl rfl (lb hb11059) rfl rfl ?_
     refine WPL.q (q_pickT (v := .lit (.bool _)) (lb hb11059) rfl) rfl ?_
     refine WPL.q (q_as (v := .lit (.bool _)) rfl) rfl ?_
     refine WPL.nilW ?_
     have q0 := (Option.some.inj H)
     subst q0
     exact W.wk [] hnp ⟨rfl, rfl, rfl⟩ ⟨rfl, trivial, by decide, rfl, trivial⟩ (LeE.upd rfl rfl (LeE.none rfl rfl)) rfl
   replace H := cnf hb11059 H
   refine WPL.qg rfl rfl (lb hb11059) (q_load_ag ag23 rfl rfl (Nat.le_of_ble_eq_true rfl)) rfl ?_
   refine WPL.qg rfl rfl (lb hb11059) (q_load_ag ag23 rfl rfl (Nat.le_of_ble_eq_true rfl)) rfl ?_
   obtain ⟨x11062, h11060, H⟩ := bnd H
   refine WPL.cg rfl rfl (lb hb11059) (runs_call (s := []) (t := []) (N := 2) (bor := []) fn22 rfl (s_dec_Cmp k x11022 x11023 x11026 x11027 x11062 h11060) ⟨rfl, trivial, by decide, rfl, trivial⟩ rfl trivial (.ren rfl rfl (.ren rfl rfl .nil)) rfl trivial rfl) rfl ?_
   refine WPL.qg rfl rfl (lb hb11059) (q_mv (v := .lit (.int _ _)) rfl) rfl ?_
   refine WPL.qg rfl rfl (lb hb11059) (q_eql rfl rfl) rfl ?_
   refine WPL.q (q_pickF (v := .lit (.bool _)) (lb hb11059) rfl) rfl ?_
   refine WPL.q (q_as (v := .lit (.bool _)) rfl) rfl ?_
   refine WPL.nilW ?_
   have q0 := (Option.some.inj H)
   subst q0
   exact W.wk [] hnp ⟨rfl, rfl, rfl⟩ ⟨rfl, trivial, by decide, rfl, trivial⟩ (LeE.upd rfl rfl (LeE.none rfl rfl)) rfl
 rintro _ _ _ ⟨rfl, rfl, rfl⟩
 refine W.now ?_
 refine Then.n ?_
 refine WP.retW ?_
 have q0 := (Option.some.inj H)
 subst q0
 exact W.now (BodyR.mkR trivial rfl [] ⟨rfl, rfl⟩ ⟨rfl, trivial, by decide, rfl, trivial⟩ rfl rfl)
end Go.Proofs.Ytdbeblgfccjbgaa.W
