/- Walks: Fc3 -/
import Derived.Test.YtnbjdgamindikaaDoorFb
import Derived.Test.YtnbjdgamindikaaDoorFc2
namespace Go.Proofs.YtnbjdgamindikaaDoor.W
open Go Go.Q Go.Proofs
set_option linter.unusedVariables false
set_option linter.unusedSimpArgs false
set_option maxRecDepth 100000 in
set_option maxHeartbeats 4000000 in
theorem s_unicode_utf8_AppendRune (k : Nat) (x10788 : Int) (x10875 : (List Int)) (H : g_unicode_utf8_AppendRune k x10788 = some x10875) : Go.Q.Spec Tryd.prog 50 0 [.lit (.slice none 0 0), .lit (.int .i32 x10788)] Mem.nil (fun o M => o = .ret (.whole 0) ∧ M = (Mem.nil.push (.row 5 (Rd.int .u8) x10875))) := by
  unfold g_unicode_utf8_AppendRune at H
  refine Go.Q.Spec.of_bodyR (rs := [.tmp 4]) (nt := 16) Tryd.func50 rfl rfl (by intro t T h; simp at h) rfl rfl fun cx hnp => ?_
  refine WP.seq ?_
  refine WP.region ?_
  refine WPL.q (q_as (v := .lit _) rfl) rfl ?_
  refine WPL.nilW ?_
  refine W.now ?_
  refine Then.n ?_
  refine WP.seq ?_
  refine WP.seq ?_
  refine WP.region ?_
  refine WPL.q (q_mv (v := .lit (.int _ _)) rfl) rfl ?_
  refine WPL.q (q_conv Tryd.underlying21 Tryd.underlying78 rfl) rfl ?_
  obtain ⟨x10879, h10879, H⟩ := bnd H
  refine WPL.q (q_nm (q_leq rfl rfl) (nm_bool h10879)) rfl ?_
  refine WPL.nilW ?_
  refine W.now ?_
  refine Then.n ?_
  refine WP.cond (t := x10879) rfl (fun hb10879 => ?_) (fun hb10879 => ?_)
  · replace H := cnt hb10879 H
    refine WP.seq ?_
    refine WP.region ?_
    refine WPL.q (q_mv (v := .lit _) rfl) rfl ?_
    refine WPL.q (q_mv (v := .lit (.int _ _)) rfl) rfl ?_
    refine WPL.q (q_conv Tryd.underlying21 Tryd.underlying5 rfl) rfl ?_
    refine WPL.d (d_buildSlice (ds := ([(IntKind.wrap .u8 x10788)] : List Int)) (R := (Rd.int .u8)) li47 rfl rfl rfl rfl rfl (JoinRows.cons1 Joins.sc rfl JoinRows.nil) rfl rfl) rfl ?_
    obtain ⟨h10880, H⟩ := grd H
    refine WPL.cv (Cv.vir 5 (Rd.int .u8) (N := 1) rfl 8 rfl) ?_
    refine WPL.d (d_append ap47 rfl rfl rfl rfl (src_row sl47 rfl rfl) h10880 rfl) rfl ?_
    refine WPL.q (q_as (v := .whole _) rfl) rfl ?_
    refine WPL.nilW ?_
    refine W.now ?_
    refine Then.n ?_
    refine WP.retW ?_
    refine W.now ?_
    refine Then.r ?_
    have q0 := (Option.some.inj H)
    subst q0
    exact ⟨trivial, _, rfl, [2], (.whole 0), (Mem.nil.push (.row 5 (Rd.int .u8) (([] : List Int) ++ ([(IntKind.wrap .u8 x10788)] : List Int)))), ⟨rfl, ⟨trivial, .inr ⟨rfl, rfl, rfl⟩⟩, by decide, rfl, trivial⟩, rfl, rfl, rfl, rfl⟩
  · replace H := cnf hb10879 H
    refine WP.skipW ?_
    refine W.now ?_
    refine Then.n ?_
    refine WP.seq ?_
    refine WP.region ?_
    refine WPL.q (q_mv (v := .lit _) rfl) rfl ?_
    refine WPL.q (q_mv (v := .lit (.int _ _)) rfl) rfl ?_
    obtain ⟨x10883, h10881, H⟩ := bnd H
    refine WPL.c (runs_call (s := []) (t := [0]) (N := 1) (bor := []) fn56 rfl (s_unicode_utf8_appendRuneNonASCII k x10788 x10883 h10881) ⟨rfl, trivial, by decide, rfl, trivial⟩ rfl trivial (.ren rfl rfl (.ren rfl rfl .nil)) rfl ⟨trivial, rfl⟩ rfl) rfl ?_
    refine WPL.q (q_as (v := .whole _) rfl) rfl ?_
    refine WPL.nilW ?_
    refine W.now ?_
    refine Then.n ?_
    refine WP.retW ?_
    refine W.now ?_
    have q0 := (Option.some.inj H)
    subst q0
    exact ⟨trivial, _, rfl, [0], (.whole 0), (Mem.nil.push (.row 5 (Rd.int .u8) x10883)), ⟨rfl, ⟨trivial, .inr ⟨rfl, rfl, rfl⟩⟩, by decide, rfl, trivial⟩, rfl, rfl, rfl, rfl⟩
set_option maxRecDepth 100000 in
set_option maxHeartbeats 4000000 in
theorem s_strings_Builder_WriteRune (k : Nat) (x10784 : Int) (x10887 : Int) (x10888 : (List Int)) (H : g_strings_Builder_WriteRune k x10784 = some (x10887, x10888)) : Go.Q.Spec Tryd.prog 38 1 [.ptr 0 0, .lit (.int .i32 x10784)] (Mem.nil.push (.cells 50 [.lit (.pointer none), .lit (.slice none 0 0)])) (fun o M => o = .ret (.tup [.lit (.int .i64 x10887), .lit .nilIface]) ∧ M = ((Mem.nil.push (.cells 50 [.ptr 0 0, .whole 1])).push (.row 5 (Rd.int .u8) x10888))) := by
  unfold g_strings_Builder_WriteRune at H
  refine Go.Q.Spec.of_bodyR (rs := [.tmp 4, .tmp 5]) (nt := 30) Tryd.func38 rfl rfl (by intro t T h; simp at h) rfl rfl fun cx hnp => ?_
  refine WP.seq ?_
  refine WP.region ?_
  refine WPL.q (q_as (v := .lit (.int _ _)) rfl) rfl ?_
  refine WPL.q (q_as (v := .lit _) rfl) rfl ?_
  refine WPL.nilW ?_
  refine W.now ?_
  refine Then.n ?_
  refine WP.seq ?_
  refine WP.region ?_
  refine WPL.q (q_mv (v := .ptr _ _) rfl) rfl ?_
  obtain ⟨_, h10888, H⟩ := bnd H
  refine WPL.c (runs_call (s := [0]) (t := [0]) (N := 1) (bor := []) fn49 rfl (s_strings_Builder_copyCheck k h10888) ⟨rfl, ⟨trivial, .inr ⟨rfl, rfl, rfl⟩⟩, by decide, rfl, trivial⟩ rfl trivial (.ren rfl rfl .nil) rfl ⟨trivial, rfl⟩ rfl) rfl ?_
  refine WPL.nilW ?_
  refine W.now ?_
  refine Then.n ?_
  refine WP.seq ?_
  refine WP.region ?_
  refine WPL.q (q_mv (v := .ptr _ _) rfl) rfl ?_
  refine WPL.q (q_nilCheck rfl) rfl ?_
  refine WPL.q (q_fieldAddr fi50_1 rfl rfl) rfl ?_
  refine WPL.q (q_load sc47 rfl rfl rfl) rfl ?_
  refine WPL.q (q_len_nil sl47 rfl) rfl ?_
  refine WPL.q (q_as (v := .lit (.int _ _)) rfl) rfl ?_
  refine WPL.nilW ?_
  refine W.now ?_
  refine Then.n ?_
  refine WP.seq ?_
  refine WP.region ?_
  refine WPL.q (q_mv (v := .ptr _ _) rfl) rfl ?_
  refine WPL.q (q_mv (v := .ptr _ _) rfl) rfl ?_
  refine WPL.q (q_nilCheck rfl) rfl ?_
  refine WPL.q (q_fieldAddr fi50_1 rfl rfl) rfl ?_
  refine WPL.q (q_load sc47 rfl rfl rfl) rfl ?_
  refine WPL.q (q_mv (v := .lit (.int _ _)) rfl) rfl ?_
  obtain ⟨x10891, h10889, H⟩ := bnd H
  refine WPL.c (runs_call (s := []) (t := [1]) (N := 2) (bor := []) fn50 rfl (s_unicode_utf8_AppendRune k x10784 x10891 h10889) ⟨rfl, trivial, by decide, rfl, trivial⟩ rfl trivial (.ren rfl rfl (.ren rfl rfl .nil)) rfl ⟨trivial, rfl⟩ rfl) rfl ?_
  refine WPL.q (q_nilCheck rfl) rfl ?_
  refine WPL.q (q_fieldAddr fi50_1 rfl rfl) rfl ?_
  refine WPL.s (s_store sz47 rfl rfl rfl rfl rfl) ?_
  refine WPL.nilW ?_
  refine W.now ?_
  refine Then.n ?_
  refine WP.seq ?_
  refine WP.region ?_
  refine WPL.q (q_mv (v := .ptr _ _) rfl) rfl ?_
  refine WPL.q (q_nilCheck rfl) rfl ?_
  refine WPL.q (q_fieldAddr fi50_1 rfl rfl) rfl ?_
  refine WPL.q (q_load sc47 rfl rfl rfl) rfl ?_
  refine WPL.q (q_len_row sl47 rfl rfl) rfl ?_
  refine WPL.q (q_mv (v := .lit (.int _ _)) rfl) rfl ?_
  obtain ⟨x10892, h10892, H⟩ := bnd H
  refine WPL.q (q_nm (q_sub rfl rfl) (nm_int h10892)) rfl ?_
  refine WPL.q (q_as (v := .lit (.int _ _)) rfl) rfl ?_
  refine WPL.q (q_as (v := .lit _) rfl) rfl ?_
  refine WPL.nilW ?_
  refine W.now ?_
  refine Then.n ?_
  refine WP.retW ?_
  refine W.now ?_
  have q0 := (Prod.mk.inj (Option.some.inj H)).1
  have q1 := (Prod.mk.inj (Option.some.inj H)).2
  subst q0
  subst q1
  exact ⟨trivial, _, rfl, [0, 1], (.tup [.lit (.int .i64 x10892), .lit .nilIface]), ((Mem.nil.push (.cells 50 [.ptr 0 0, .whole 1])).push (.row 5 (Rd.int .u8) x10891)), ⟨rfl, ⟨⟨trivial, .inr ⟨rfl, rfl, rfl⟩⟩, .inr ⟨rfl, rfl, rfl⟩⟩, by decide, rfl, ⟨trivial, rfl⟩⟩, rfl, rfl, rfl, rfl⟩
set_option maxRecDepth 100000 in
set_option maxHeartbeats 4000000 in
theorem s_strings_Builder_copyCheck__b (k : Nat) (x10921 : Bool) (x10922 : (List Int)) (x10925 : Bool) (H : g_strings_Builder_copyCheck__b k x10921 x10922 = some x10925) : Go.Q.Spec Tryd.prog 49 1 [.ptr 0 0] ((Mem.nil.push (.cells 50 [.opt x10921 0 0, .whole 1])).push (.row 5 (Rd.int .u8) x10922)) (fun o M => o = .ret (.tup []) ∧ M = ((Mem.nil.push (.cells 50 [.opt x10925 0 0, .whole 1])).push (.row 5 (Rd.int .u8) x10922))) := by
  unfold g_strings_Builder_copyCheck__b at H
  refine Go.Q.Spec.of_bodyR (rs := []) (nt := 20) Tryd.func49 rfl rfl (by intro t T h; simp at h) rfl rfl fun cx hnp => ?_
  refine WP.seq ?_
  refine WP.region ?_
  refine WPL.q (q_mv (v := .ptr _ _) rfl) rfl ?_
  refine WPL.q (q_nilCheck rfl) rfl ?_
  refine WPL.q (q_fieldAddr fi50_0 rfl rfl) rfl ?_
  refine WPL.q (q_load sc48 rfl rfl rfl) rfl ?_
  refine WPL.q (q_eqlpOpt Tryd.underlying48 rfl) rfl ?_
  refine WPL.nilW ?_
  refine W.now ?_
  refine Then.n ?_
  refine WP.cond (t := (!x10921)) rfl (fun hb10925 => ?_) (fun hb10925 => ?_)
  · replace H := cnt hb10925 H
    refine WP.region ?_
    refine WPL.q (q_mv (v := .ptr _ _) rfl) rfl ?_
    refine WPL.q (q_mv (v := .ptr _ _) rfl) rfl ?_
    refine WPL.q (q_toUnsafe Tryd.underlying48 Tryd.underlying76 in50 rfl rfl rfl) rfl ?_
    refine WPL.q (q_noEscape ex55 rfl (v := .ptr _ _) rfl) rfl ?_
    refine WPL.q (q_fromUnsafe Tryd.underlying76 Tryd.underlying48 te50 rfl rfl (by kernel_rfl)) rfl ?_
    refine WPL.q (q_nilCheck rfl) rfl ?_
    refine WPL.q (q_fieldAddr fi50_0 rfl rfl) rfl ?_
    refine WPL.s (s_store sz48 rfl rfl rfl rfl rfl) ?_
    refine WPL.nilW ?_
    refine W.cv (Cv.optC1 (i := 0) (off := 0) (j := 0) (o := 0) rfl rfl rfl) rfl ?_
    refine W.now ?_
    have q0 := (Option.some.inj H)
    subst q0
    exact ⟨trivial, _, rfl, [0, 1], (.tup []), ((Mem.nil.push (.cells 50 [.opt true 0 0, .whole 1])).push (.row 5 (Rd.int .u8) x10922)), ⟨rfl, ⟨⟨trivial, .inr ⟨rfl, rfl, rfl⟩⟩, .inr ⟨rfl, rfl, rfl⟩⟩, by decide, rfl, ⟨trivial, rfl⟩⟩, rfl, rfl, rfl, rfl⟩
  · replace H := cnf hb10925 H
    refine WP.seq ?_
    refine WP.region ?_
    refine WPL.q (q_mv (v := .ptr _ _) rfl) rfl ?_
    refine WPL.q (q_nilCheck rfl) rfl ?_
    refine WPL.q (q_fieldAddr fi50_0 rfl rfl) rfl ?_
    refine WPL.q (q_load sc48 rfl rfl rfl) rfl ?_
    refine WPL.q (q_mv (v := .ptr _ _) rfl) rfl ?_
    refine WPL.q (q_neqpOptSelf Tryd.underlying48 te50 ((notF hb10925)) rfl rfl) rfl ?_
    refine WPL.nilW ?_
    refine W.now ?_
    refine Then.n ?_
    refine WP.condF rfl ?_
    refine WP.skipW ?_
    refine W.now ?_
    have q0 := (Option.some.inj H)
    subst q0
    exact ⟨trivial, _, rfl, [0, 1], (.tup []), ((Mem.nil.push (.cells 50 [.opt x10921 0 0, .whole 1])).push (.row 5 (Rd.int .u8) x10922)), ⟨rfl, ⟨⟨trivial, .inr ⟨rfl, rfl, rfl⟩⟩, .inr ⟨rfl, rfl, rfl⟩⟩, by decide, rfl, ⟨trivial, rfl⟩⟩, rfl, rfl, rfl, rfl⟩
set_option maxRecDepth 100000 in
set_option maxHeartbeats 4000000 in
theorem s_unicode_utf8_appendRuneNonASCII__b (k : Nat) (x10938 : Int) (x10939 : (List Int)) (x10978 : (List Int)) (H : g_unicode_utf8_appendRuneNonASCII__b k x10938 x10939 = some x10978) : Go.Q.Spec Tryd.prog 56 0 [.whole 0, .lit (.int .i32 x10938)] (Mem.nil.push (.row 5 (Rd.int .u8) x10939)) (fun o M => o = .ret (.whole 0) ∧ M = (Mem.nil.push (.row 5 (Rd.int .u8) x10978))) := by
  unfold g_unicode_utf8_appendRuneNonASCII__b at H
  refine Go.Q.Spec.of_bodyR (rs := [.tmp 4]) (nt := 78) Tryd.func56 rfl rfl (by intro t T h; simp at h) rfl rfl fun cx hnp => ?_
  refine WP.seq ?_
  refine WP.region ?_
  refine WPL.q (q_as (v := .lit _) rfl) rfl ?_
  refine WPL.nilW ?_
  refine W.now ?_
  refine Then.n ?_
  refine WP.seq ?_
  refine WP.region ?_
  refine WPL.q (q_mv (v := .lit (.int _ _)) rfl) rfl ?_
  refine WPL.q (q_conv Tryd.underlying21 Tryd.underlying78 rfl) rfl ?_
  refine WPL.q (q_as (v := .lit (.int _ _)) rfl) rfl ?_
  refine WPL.nilW ?_
  refine W.now ?_
  refine Then.n ?_
  refine WP.block ?_
  refine WP.seq ?_
  refine WP.region ?_
  refine WPL.q (q_mv (v := .lit (.int _ _)) rfl) rfl ?_
  obtain ⟨x10979, h10979, H⟩ := bnd H
  refine WPL.q (q_nm (q_leq rfl rfl) (nm_bool h10979)) rfl ?_
  refine WPL.q (q_as (v := .lit (.bool _)) rfl) rfl ?_
  refine WPL.nilW ?_
  refine W.now ?_
  refine Then.n ?_
  refine WP.cond (t := x10979) rfl (fun hb10979 => ?_) (fun hb10979 => ?_)
  · replace H := cnt hb10979 H
    refine WP.seq ?_
    refine WP.region ?_
    refine WPL.q (q_mv (v := .whole _) rfl) rfl ?_
    refine WPL.q (q_mv (v := .lit (.int _ _)) rfl) rfl ?_
    refine WPL.q (q_shr rfl rfl rfl) rfl ?_
    refine WPL.q (q_conv Tryd.underlying21 Tryd.underlying5 rfl) rfl ?_
    obtain ⟨x10981, h10981, H⟩ := bnd H
    refine WPL.q (q_nm (q_or rfl rfl) (nm_int h10981)) rfl ?_
    refine WPL.q (q_mv (v := .lit (.int _ _)) rfl) rfl ?_
    refine WPL.q (q_conv Tryd.underlying21 Tryd.underlying5 rfl) rfl ?_
    obtain ⟨x10982, h10982, H⟩ := bnd H
    refine WPL.q (q_nm (q_and rfl rfl) (nm_int h10982)) rfl ?_
    refine WPL.q (q_or rfl rfl) rfl ?_
    refine WPL.d (d_buildSlice (ds := ([x10981, (bits .or .u8 128 x10982)] : List Int)) (R := (Rd.int .u8)) li47 rfl rfl rfl rfl rfl (JoinRows.cons1 Joins.sc rfl (JoinRows.cons1 Joins.sc rfl JoinRows.nil)) rfl rfl) rfl ?_
    obtain ⟨h10982, H⟩ := grd H
    refine WPL.d (d_append ap47 rfl rfl rfl rfl (src_row sl47 rfl rfl) h10982 rfl) rfl ?_
    refine WPL.q (q_as (v := .whole _) rfl) rfl ?_
    refine WPL.nilW ?_
    refine W.now ?_
    refine Then.n ?_
    refine WP.retW ?_
    refine W.now ?_
    refine InBlock.r ?_
    have q0 := (Option.some.inj H)
    subst q0
    exact ⟨trivial, _, rfl, [2], (.whole 0), (Mem.nil.push (.row 5 (Rd.int .u8) (x10939 ++ ([x10981, (bits .or .u8 128 x10982)] : List Int)))), ⟨rfl, ⟨trivial, .inr ⟨rfl, rfl, rfl⟩⟩, by decide, rfl, trivial⟩, rfl, rfl, rfl, rfl⟩
  · replace H := cnf hb10979 H
    refine WP.seq ?_
    obtain ⟨x10989, H10994, H⟩ := bnd H
    refine WP.monoW (Q := fun x E M => x = .normal ∧ E = ((((Env.none.upd 0 (.whole 0)).upd 1 (.lit (.int .i32 x10938))).upd 5 (.lit (.int .u32 (IntKind.wrap .u32 x10938)))).upd 25 (.lit (.bool x10989))) ∧ M = (Mem.nil.push (.row 5 (Rd.int .u8) x10939))) ?_ ?_
    · clear H
      have H := H10994
      clear H10994
      refine WP.seq ?_
      refine WP.region ?_
      refine WPL.q (q_mv (v := .lit (.int _ _)) rfl) rfl ?_
      obtain ⟨x10990, h10990, H⟩ := bnd H
      refine WPL.q (q_nm (q_lss rfl rfl) (nm_bool h10990)) rfl ?_
      refine WPL.q (q_as (v := .lit (.bool _)) rfl) rfl ?_
      refine WPL.nilW ?_
      refine W.now ?_
      refine Then.n ?_
      refine WP.cond (t := x10990) rfl (fun hb10990 => ?_) (fun hb10990 => ?_)
      · replace H := cnt hb10990 H
        refine WP.skipW ?_
        refine W.cv (Cv.weak (E' := ((((Env.none.upd 0 (.whole 0)).upd 1 (.lit (.int .i32 x10938))).upd 5 (.lit (.int .u32 (IntKind.wrap .u32 x10938)))).upd 25 (.lit (.bool x10990)))) (M' := (Mem.nil.push (.row 5 (Rd.int .u8) x10939))) [0] hnp ⟨rfl, ⟨trivial, .inr ⟨rfl, rfl, rfl⟩⟩, by decide, rfl, trivial⟩ (LeE.upd rfl rfl (LeE.upd rfl rfl (LeE.upd rfl rfl (LeE.upd rfl rfl (LeE.none rfl rfl)))))) rfl ?_
        refine W.now ?_
        have q0 := (Option.some.inj H)
        subst q0
        exact ⟨rfl, rfl, rfl⟩
      · replace H := cnf hb10990 H
        refine WP.region ?_
        refine WPL.q (q_mv (v := .lit (.int _ _)) rfl) rfl ?_
        obtain ⟨x10992, h10992, H⟩ := bnd H
        refine WPL.q (q_nm (q_lss rfl rfl) (nm_bool h10992)) rfl ?_
        refine WPL.q (q_mv (v := .lit (.bool _)) rfl) rfl ?_
        refine WPL.split (t := 30) (b := x10992) rfl (fun hb10992 => ?_) (fun hb10992 => ?_)
        · replace H := cnt hb10992 H
          refine WPL.qg rfl rfl (lb hb10992) (q_mv (v := .lit (.int _ _)) rfl) rfl ?_
          obtain ⟨x10994, h10994, H⟩ := bnd H
          refine WPL.qg rfl rfl (lb hb10992) (q_nm (q_leq rfl rfl) (nm_bool h10994)) rfl ?_
          refine WPL.q (q_pickT (v := .lit (.bool _)) (lb hb10992) rfl) rfl ?_
          refine WPL.q (q_as (v := .lit (.bool _)) rfl) rfl ?_
          refine WPL.nilW ?_
          refine W.cv (Cv.weak (E' := ((((Env.none.upd 0 (.whole 0)).upd 1 (.lit (.int .i32 x10938))).upd 5 (.lit (.int .u32 (IntKind.wrap .u32 x10938)))).upd 25 (.lit (.bool x10994)))) (M' := (Mem.nil.push (.row 5 (Rd.int .u8) x10939))) [0] hnp ⟨rfl, ⟨trivial, .inr ⟨rfl, rfl, rfl⟩⟩, by decide, rfl, trivial⟩ (LeE.upd rfl rfl (LeE.upd rfl rfl (LeE.upd rfl rfl (LeE.upd rfl rfl (LeE.none rfl rfl)))))) rfl ?_
          refine W.now ?_
          have q0 := (Option.some.inj H)
          subst q0
          exact ⟨rfl, rfl, rfl⟩
        · replace H := cnf hb10992 H
          refine WPL.skipg (b' := false) rfl rfl (lb hb10992) rfl rfl ?_
          refine WPL.skipg (b' := false) rfl rfl (lb hb10992) rfl rfl ?_
          refine WPL.q (q_pickF (v := .lit (.bool _)) (lb hb10992) rfl) rfl ?_
          refine WPL.q (q_as (v := .lit (.bool _)) rfl) rfl ?_
          refine WPL.nilW ?_
          refine W.cv (Cv.weak (E' := ((((Env.none.upd 0 (.whole 0)).upd 1 (.lit (.int .i32 x10938))).upd 5 (.lit (.int .u32 (IntKind.wrap .u32 x10938)))).upd 25 (.lit (.bool false)))) (M' := (Mem.nil.push (.row 5 (Rd.int .u8) x10939))) [0] hnp ⟨rfl, ⟨trivial, .inr ⟨rfl, rfl, rfl⟩⟩, by decide, rfl, trivial⟩ (LeE.upd rfl rfl (LeE.upd rfl rfl (LeE.upd rfl rfl (LeE.upd rfl rfl (LeE.none rfl rfl)))))) rfl ?_
          refine W.now ?_
          have q0 := (Option.some.inj H)
          subst q0
          exact ⟨rfl, rfl, rfl⟩
    · rintro _ _ _ ⟨rfl, rfl, rfl⟩
      refine W.now ?_
      refine Then.n ?_
      refine WP.cond (t := x10989) rfl (fun hb10995 => ?_) (fun hb10995 => ?_)
      · replace H := cnt hb10995 H
        refine WP.seq ?_
        refine WP.region ?_
        refine WPL.q (q_mv (v := .whole _) rfl) rfl ?_
        refine WPL.q (q_mv (v := .lit (.int _ _)) rfl) rfl ?_
        refine WPL.q (q_shr rfl rfl rfl) rfl ?_
        refine WPL.q (q_conv Tryd.underlying21 Tryd.underlying5 rfl) rfl ?_
        obtain ⟨x10997, h10997, H⟩ := bnd H
        refine WPL.q (q_nm (q_or rfl rfl) (nm_int h10997)) rfl ?_
        refine WPL.q (q_mv (v := .lit (.int _ _)) rfl) rfl ?_
        refine WPL.q (q_shr rfl rfl rfl) rfl ?_
        refine WPL.q (q_conv Tryd.underlying21 Tryd.underlying5 rfl) rfl ?_
        obtain ⟨x10998, h10998, H⟩ := bnd H
        refine WPL.q (q_nm (q_and rfl rfl) (nm_int h10998)) rfl ?_
        refine WPL.q (q_or rfl rfl) rfl ?_
        refine WPL.q (q_mv (v := .lit (.int _ _)) rfl) rfl ?_
        refine WPL.q (q_conv Tryd.underlying21 Tryd.underlying5 rfl) rfl ?_
        obtain ⟨x10999, h10999, H⟩ := bnd H
        refine WPL.q (q_nm (q_and rfl rfl) (nm_int h10999)) rfl ?_
        refine WPL.q (q_or rfl rfl) rfl ?_
        refine WPL.d (d_buildSlice (ds := ([x10997, (bits .or .u8 128 x10998), (bits .or .u8 128 x10999)] : List Int)) (R := (Rd.int .u8)) li47 rfl rfl rfl rfl rfl (JoinRows.cons1 Joins.sc rfl (JoinRows.cons1 Joins.sc rfl (JoinRows.cons1 Joins.sc rfl JoinRows.nil))) rfl rfl) rfl ?_
        obtain ⟨h10999, H⟩ := grd H
        refine WPL.d (d_append ap47 rfl rfl rfl rfl (src_row sl47 rfl rfl) h10999 rfl) rfl ?_
        refine WPL.q (q_as (v := .whole _) rfl) rfl ?_
        refine WPL.nilW ?_
        refine W.now ?_
        refine Then.n ?_
        refine WP.retW ?_
        refine W.now ?_
        refine InBlock.r ?_
        have q0 := (Option.some.inj H)
        subst q0
        exact ⟨trivial, _, rfl, [2], (.whole 0), (Mem.nil.push (.row 5 (Rd.int .u8) (x10939 ++ ([x10997, (bits .or .u8 128 x10998), (bits .or .u8 128 x10999)] : List Int)))), ⟨rfl, ⟨trivial, .inr ⟨rfl, rfl, rfl⟩⟩, by decide, rfl, trivial⟩, rfl, rfl, rfl, rfl⟩
      · replace H := cnf hb10995 H
        refine WP.seq ?_
        obtain ⟨x11004, H11007, H⟩ := bnd H
        refine WP.monoW (Q := fun x E M => x = .normal ∧ E = (((Env.none.upd 0 (.whole 0)).upd 1 (.lit (.int .i32 x10938))).upd 50 (.lit (.bool x11004))) ∧ M = (Mem.nil.push (.row 5 (Rd.int .u8) x10939))) ?_ ?_
        · clear H
          have H := H11007
          clear H11007
          refine WP.region ?_
          refine WPL.q (q_mv (v := .lit (.int _ _)) rfl) rfl ?_
          obtain ⟨x11005, h11005, H⟩ := bnd H
          refine WPL.q (q_nm (q_gtr rfl rfl) (nm_bool h11005)) rfl ?_
          refine WPL.q (q_mv (v := .lit (.bool _)) rfl) rfl ?_
          refine WPL.split (t := 53) (b := x11005) rfl (fun hb11005 => ?_) (fun hb11005 => ?_)
          · replace H := cnt hb11005 H
            refine WPL.qg rfl rfl (lb hb11005) (q_mv (v := .lit (.int _ _)) rfl) rfl ?_
            obtain ⟨x11007, h11007, H⟩ := bnd H
            refine WPL.qg rfl rfl (lb hb11005) (q_nm (q_leq rfl rfl) (nm_bool h11007)) rfl ?_
            refine WPL.q (q_pickT (v := .lit (.bool _)) (lb hb11005) rfl) rfl ?_
            refine WPL.q (q_as (v := .lit (.bool _)) rfl) rfl ?_
            refine WPL.nilW ?_
            refine W.cv (Cv.weak (E' := (((Env.none.upd 0 (.whole 0)).upd 1 (.lit (.int .i32 x10938))).upd 50 (.lit (.bool x11007)))) (M' := (Mem.nil.push (.row 5 (Rd.int .u8) x10939))) [0] hnp ⟨rfl, ⟨trivial, .inr ⟨rfl, rfl, rfl⟩⟩, by decide, rfl, trivial⟩ (LeE.upd rfl rfl (LeE.upd rfl rfl (LeE.upd rfl rfl (LeE.none rfl rfl))))) rfl ?_
            refine W.now ?_
            have q0 := (Option.some.inj H)
            subst q0
            exact ⟨rfl, rfl, rfl⟩
          · replace H := cnf hb11005 H
            refine WPL.skipg (b' := false) rfl rfl (lb hb11005) rfl rfl ?_
            refine WPL.skipg (b' := false) rfl rfl (lb hb11005) rfl rfl ?_
            refine WPL.q (q_pickF (v := .lit (.bool _)) (lb hb11005) rfl) rfl ?_
            refine WPL.q (q_as (v := .lit (.bool _)) rfl) rfl ?_
            refine WPL.nilW ?_
            refine W.cv (Cv.weak (E' := (((Env.none.upd 0 (.whole 0)).upd 1 (.lit (.int .i32 x10938))).upd 50 (.lit (.bool false)))) (M' := (Mem.nil.push (.row 5 (Rd.int .u8) x10939))) [0] hnp ⟨rfl, ⟨trivial, .inr ⟨rfl, rfl, rfl⟩⟩, by decide, rfl, trivial⟩ (LeE.upd rfl rfl (LeE.upd rfl rfl (LeE.upd rfl rfl (LeE.none rfl rfl))))) rfl ?_
            refine W.now ?_
            have q0 := (Option.some.inj H)
            subst q0
            exact ⟨rfl, rfl, rfl⟩
        · rintro _ _ _ ⟨rfl, rfl, rfl⟩
          refine W.now ?_
          refine Then.n ?_
          refine WP.cond (t := x11004) rfl (fun hb11008 => ?_) (fun hb11008 => ?_)
          · replace H := cnt hb11008 H
            refine WP.seq ?_
            refine WP.region ?_
            refine WPL.q (q_mv (v := .whole _) rfl) rfl ?_
            refine WPL.q (q_mv (v := .lit (.int _ _)) rfl) rfl ?_
            refine WPL.q (q_shr rfl rfl rfl) rfl ?_
            refine WPL.q (q_conv Tryd.underlying21 Tryd.underlying5 rfl) rfl ?_
            obtain ⟨x11010, h11010, H⟩ := bnd H
            refine WPL.q (q_nm (q_or rfl rfl) (nm_int h11010)) rfl ?_
            refine WPL.q (q_mv (v := .lit (.int _ _)) rfl) rfl ?_
            refine WPL.q (q_shr rfl rfl rfl) rfl ?_
            refine WPL.q (q_conv Tryd.underlying21 Tryd.underlying5 rfl) rfl ?_
            obtain ⟨x11011, h11011, H⟩ := bnd H
            refine WPL.q (q_nm (q_and rfl rfl) (nm_int h11011)) rfl ?_
            refine WPL.q (q_or rfl rfl) rfl ?_
            refine WPL.q (q_mv (v := .lit (.int _ _)) rfl) rfl ?_
            refine WPL.q (q_shr rfl rfl rfl) rfl ?_
            refine WPL.q (q_conv Tryd.underlying21 Tryd.underlying5 rfl) rfl ?_
            obtain ⟨x11012, h11012, H⟩ := bnd H
            refine WPL.q (q_nm (q_and rfl rfl) (nm_int h11012)) rfl ?_
            refine WPL.q (q_or rfl rfl) rfl ?_
            refine WPL.q (q_mv (v := .lit (.int _ _)) rfl) rfl ?_
            refine WPL.q (q_conv Tryd.underlying21 Tryd.underlying5 rfl) rfl ?_
            obtain ⟨x11013, h11013, H⟩ := bnd H
            refine WPL.q (q_nm (q_and rfl rfl) (nm_int h11013)) rfl ?_
            refine WPL.q (q_or rfl rfl) rfl ?_
            refine WPL.d (d_buildSlice (ds := ([x11010, (bits .or .u8 128 x11011), (bits .or .u8 128 x11012), (bits .or .u8 128 x11013)] : List Int)) (R := (Rd.int .u8)) li47 rfl rfl rfl rfl rfl (JoinRows.cons1 Joins.sc rfl (JoinRows.cons1 Joins.sc rfl (JoinRows.cons1 Joins.sc rfl (JoinRows.cons1 Joins.sc rfl JoinRows.nil)))) rfl rfl) rfl ?_
            obtain ⟨h11013, H⟩ := grd H
            refine WPL.d (d_append ap47 rfl rfl rfl rfl (src_row sl47 rfl rfl) h11013 rfl) rfl ?_
            refine WPL.q (q_as (v := .whole _) rfl) rfl ?_
            refine WPL.nilW ?_
            refine W.now ?_
            refine Then.n ?_
            refine WP.retW ?_
            refine W.now ?_
            refine InBlock.r ?_
            have q0 := (Option.some.inj H)
            subst q0
            exact ⟨trivial, _, rfl, [2], (.whole 0), (Mem.nil.push (.row 5 (Rd.int .u8) (x10939 ++ ([x11010, (bits .or .u8 128 x11011), (bits .or .u8 128 x11012), (bits .or .u8 128 x11013)] : List Int)))), ⟨rfl, ⟨trivial, .inr ⟨rfl, rfl, rfl⟩⟩, by decide, rfl, trivial⟩, rfl, rfl, rfl, rfl⟩
          · replace H := cnf hb11008 H
            refine WP.seq ?_
            refine WP.region ?_
            refine WPL.q (q_mv (v := .whole _) rfl) rfl ?_
            refine WPL.d (d_buildSlice (ds := ([239, 191, 189] : List Int)) (R := (Rd.int .u8)) li47 rfl rfl rfl rfl rfl (JoinRows.cons1 Joins.sc rfl (JoinRows.cons1 Joins.sc rfl (JoinRows.cons1 Joins.sc rfl JoinRows.nil))) rfl rfl) rfl ?_
            obtain ⟨h11014, H⟩ := grd H
            refine WPL.d (d_append ap47 rfl rfl rfl rfl (src_row sl47 rfl rfl) h11014 rfl) rfl ?_
            refine WPL.q (q_as (v := .whole _) rfl) rfl ?_
            refine WPL.nilW ?_
            refine W.now ?_
            refine Then.n ?_
            refine WP.retW ?_
            refine W.now ?_
            refine InBlock.r ?_
            have q0 := (Option.some.inj H)
            subst q0
            exact ⟨trivial, _, rfl, [2], (.whole 0), (Mem.nil.push (.row 5 (Rd.int .u8) (x10939 ++ ([239, 191, 189] : List Int)))), ⟨rfl, ⟨trivial, .inr ⟨rfl, rfl, rfl⟩⟩, by decide, rfl, trivial⟩, rfl, rfl, rfl, rfl⟩
set_option maxRecDepth 100000 in
set_option maxHeartbeats 4000000 in
theorem s_unicode_utf8_AppendRune__b (k : Nat) (x10929 : Int) (x10930 : (List Int)) (x11018 : (List Int)) (H : g_unicode_utf8_AppendRune__b k x10929 x10930 = some x11018) : Go.Q.Spec Tryd.prog 50 0 [.whole 0, .lit (.int .i32 x10929)] (Mem.nil.push (.row 5 (Rd.int .u8) x10930)) (fun o M => o = .ret (.whole 0) ∧ M = (Mem.nil.push (.row 5 (Rd.int .u8) x11018))) := by
  unfold g_unicode_utf8_AppendRune__b at H
  refine Go.Q.Spec.of_bodyR (rs := [.tmp 4]) (nt := 16) Tryd.func50 rfl rfl (by intro t T h; simp at h) rfl rfl fun cx hnp => ?_
  refine WP.seq ?_
  refine WP.region ?_
  refine WPL.q (q_as (v := .lit _) rfl) rfl ?_
  refine WPL.nilW ?_
  refine W.now ?_
  refine Then.n ?_
  refine WP.seq ?_
  refine WP.seq ?_
  refine WP.region ?_
  refine WPL.q (q_mv (v := .lit (.int _ _)) rfl) rfl ?_
  refine WPL.q (q_conv Tryd.underlying21 Tryd.underlying78 rfl) rfl ?_
  obtain ⟨x11022, h11022, H⟩ := bnd H
  refine WPL.q (q_nm (q_leq rfl rfl) (nm_bool h11022)) rfl ?_
  refine WPL.nilW ?_
  refine W.now ?_
  refine Then.n ?_
  refine WP.cond (t := x11022) rfl (fun hb11022 => ?_) (fun hb11022 => ?_)
  · replace H := cnt hb11022 H
    refine WP.seq ?_
    refine WP.region ?_
    refine WPL.q (q_mv (v := .whole _) rfl) rfl ?_
    refine WPL.q (q_mv (v := .lit (.int _ _)) rfl) rfl ?_
    refine WPL.q (q_conv Tryd.underlying21 Tryd.underlying5 rfl) rfl ?_
    refine WPL.d (d_buildSlice (ds := ([(IntKind.wrap .u8 x10929)] : List Int)) (R := (Rd.int .u8)) li47 rfl rfl rfl rfl rfl (JoinRows.cons1 Joins.sc rfl JoinRows.nil) rfl rfl) rfl ?_
    obtain ⟨h11023, H⟩ := grd H
    refine WPL.d (d_append ap47 rfl rfl rfl rfl (src_row sl47 rfl rfl) h11023 rfl) rfl ?_
    refine WPL.q (q_as (v := .whole _) rfl) rfl ?_
    refine WPL.nilW ?_
    refine W.now ?_
    refine Then.n ?_
    refine WP.retW ?_
    refine W.now ?_
    refine Then.r ?_
    have q0 := (Option.some.inj H)
    subst q0
    exact ⟨trivial, _, rfl, [2], (.whole 0), (Mem.nil.push (.row 5 (Rd.int .u8) (x10930 ++ ([(IntKind.wrap .u8 x10929)] : List Int)))), ⟨rfl, ⟨trivial, .inr ⟨rfl, rfl, rfl⟩⟩, by decide, rfl, trivial⟩, rfl, rfl, rfl, rfl⟩
  · replace H := cnf hb11022 H
    refine WP.skipW ?_
    refine W.now ?_
    refine Then.n ?_
    refine WP.seq ?_
    refine WP.region ?_
    refine WPL.q (q_mv (v := .whole _) rfl) rfl ?_
    refine WPL.q (q_mv (v := .lit (.int _ _)) rfl) rfl ?_
    obtain ⟨x11026, h11024, H⟩ := bnd H
    refine WPL.c (runs_call (s := [0]) (t := [1]) (N := 2) (bor := []) fn56 rfl (s_unicode_utf8_appendRuneNonASCII__b k x10929 x10930 x11026 h11024) ⟨rfl, ⟨trivial, .inr ⟨rfl, rfl, rfl⟩⟩, by decide, rfl, trivial⟩ rfl trivial (.ren rfl rfl (.ren rfl rfl .nil)) rfl ⟨trivial, rfl⟩ rfl) rfl ?_
    refine WPL.q (q_as (v := .whole _) rfl) rfl ?_
    refine WPL.nilW ?_
    refine W.now ?_
    refine Then.n ?_
    refine WP.retW ?_
    refine W.now ?_
    have q0 := (Option.some.inj H)
    subst q0
    exact ⟨trivial, _, rfl, [1], (.whole 0), (Mem.nil.push (.row 5 (Rd.int .u8) x11026)), ⟨rfl, ⟨trivial, .inr ⟨rfl, rfl, rfl⟩⟩, by decide, rfl, trivial⟩, rfl, rfl, rfl, rfl⟩
set_option maxRecDepth 100000 in
set_option maxHeartbeats 4000000 in
theorem s_strings_Builder_WriteRune__b (k : Nat) (x10917 : Int) (x10918 : Bool) (x10919 : (List Int)) (x11030 : Int) (x11031 : Bool) (x11032 : (List Int)) (H : g_strings_Builder_WriteRune__b k x10917 x10918 x10919 = some (x11030, x11031, x11032)) : Go.Q.Spec Tryd.prog 38 1 [.ptr 0 0, .lit (.int .i32 x10917)] ((Mem.nil.push (.cells 50 [.opt x10918 0 0, .whole 1])).push (.row 5 (Rd.int .u8) x10919)) (fun o M => o = .ret (.tup [.lit (.int .i64 x11030), .lit .nilIface]) ∧ M = ((Mem.nil.push (.cells 50 [.opt x11031 0 0, .whole 1])).push (.row 5 (Rd.int .u8) x11032))) := by
  unfold g_strings_Builder_WriteRune__b at H
  refine Go.Q.Spec.of_bodyR (rs := [.tmp 4, .tmp 5]) (nt := 30) Tryd.func38 rfl rfl (by intro t T h; simp at h) rfl rfl fun cx hnp => ?_
  refine WP.seq ?_
  refine WP.region ?_
  refine WPL.q (q_as (v := .lit (.int _ _)) rfl) rfl ?_
  refine WPL.q (q_as (v := .lit _) rfl) rfl ?_
  refine WPL.nilW ?_
  refine W.now ?_
  refine Then.n ?_
  refine WP.seq ?_
  refine WP.region ?_
  refine WPL.q (q_mv (v := .ptr _ _) rfl) rfl ?_
  obtain ⟨x11034, h11032, H⟩ := bnd H
  refine WPL.c (runs_call (s := [0, 1]) (t := [0, 2]) (N := 3) (bor := []) fn49 rfl (s_strings_Builder_copyCheck__b k x10918 x10919 x11034 h11032) ⟨rfl, ⟨⟨trivial, .inr ⟨rfl, rfl, rfl⟩⟩, .inr ⟨rfl, rfl, rfl⟩⟩, by decide, rfl, trivial⟩ rfl trivial (.ren rfl rfl .nil) rfl ⟨⟨trivial, rfl⟩, rfl⟩ rfl) rfl ?_
  refine WPL.nilW ?_
  refine W.now ?_
  refine Then.n ?_
  refine WP.seq ?_
  refine WP.region ?_
  refine WPL.q (q_mv (v := .ptr _ _) rfl) rfl ?_
  refine WPL.q (q_nilCheck rfl) rfl ?_
  refine WPL.q (q_fieldAddr fi50_1 rfl rfl) rfl ?_
  refine WPL.q (q_load sc47 rfl rfl rfl) rfl ?_
  refine WPL.q (q_len_row sl47 rfl rfl) rfl ?_
  refine WPL.q (q_as (v := .lit (.int _ _)) rfl) rfl ?_
  refine WPL.nilW ?_
  refine W.now ?_
  refine Then.n ?_
  refine WP.seq ?_
  refine WP.region ?_
  refine WPL.q (q_mv (v := .ptr _ _) rfl) rfl ?_
  refine WPL.q (q_mv (v := .ptr _ _) rfl) rfl ?_
  refine WPL.q (q_nilCheck rfl) rfl ?_
  refine WPL.q (q_fieldAddr fi50_1 rfl rfl) rfl ?_
  refine WPL.q (q_load sc47 rfl rfl rfl) rfl ?_
  refine WPL.q (q_mv (v := .lit (.int _ _)) rfl) rfl ?_
  obtain ⟨x11036, h11034, H⟩ := bnd H
  refine WPL.c (runs_call (s := [2]) (t := [3]) (N := 4) (bor := []) fn50 rfl (s_unicode_utf8_AppendRune__b k x10917 x10919 x11036 h11034) ⟨rfl, ⟨trivial, .inr ⟨rfl, rfl, rfl⟩⟩, by decide, rfl, trivial⟩ rfl trivial (.ren rfl rfl (.ren rfl rfl .nil)) rfl ⟨trivial, rfl⟩ rfl) rfl ?_
  refine WPL.q (q_nilCheck rfl) rfl ?_
  refine WPL.q (q_fieldAddr fi50_1 rfl rfl) rfl ?_
  refine WPL.s (s_store sz47 rfl rfl rfl rfl rfl) ?_
  refine WPL.nilW ?_
  refine W.now ?_
  refine Then.n ?_
  refine WP.seq ?_
  refine WP.region ?_
  refine WPL.q (q_mv (v := .ptr _ _) rfl) rfl ?_
  refine WPL.q (q_nilCheck rfl) rfl ?_
  refine WPL.q (q_fieldAddr fi50_1 rfl rfl) rfl ?_
  refine WPL.q (q_load sc47 rfl rfl rfl) rfl ?_
  refine WPL.q (q_len_row sl47 rfl rfl) rfl ?_
  refine WPL.q (q_mv (v := .lit (.int _ _)) rfl) rfl ?_
  obtain ⟨x11037, h11037, H⟩ := bnd H
  refine WPL.q (q_nm (q_sub rfl rfl) (nm_int h11037)) rfl ?_
  refine WPL.q (q_as (v := .lit (.int _ _)) rfl) rfl ?_
  refine WPL.q (q_as (v := .lit _) rfl) rfl ?_
  refine WPL.nilW ?_
  refine W.now ?_
  refine Then.n ?_
  refine WP.retW ?_
  refine W.now ?_
  have q0 := (Prod.mk.inj (Option.some.inj H)).1
  have q1 := (Prod.mk.inj (Prod.mk.inj (Option.some.inj H)).2).1
  have q2 := (Prod.mk.inj (Prod.mk.inj (Option.some.inj H)).2).2
  subst q0
  subst q1
  subst q2
  exact ⟨trivial, _, rfl, [0, 3], (.tup [.lit (.int .i64 x11037), .lit .nilIface]), ((Mem.nil.push (.cells 50 [.opt x11034 0 0, .whole 1])).push (.row 5 (Rd.int .u8) x11036)), ⟨rfl, ⟨⟨trivial, .inr ⟨rfl, rfl, rfl⟩⟩, .inr ⟨rfl, rfl, rfl⟩⟩, by decide, rfl, ⟨trivial, rfl⟩⟩, rfl, rfl, rfl, rfl⟩
set_option maxRecDepth 100000 in
set_option maxHeartbeats 4000000 in
theorem s_strings_Builder_String (k : Nat) (x11089 : Bool) (x11090 : (List Int)) (r : (Unit ⊕ Unit)) (H : g_strings_Builder_String k x11089 x11090 = some r) : Go.Q.Spec Tryd.prog 39 1 [.ptr 0 0] ((Mem.nil.push (.cells 50 [.opt x11089 0 0, .whole 1])).push (.row 5 (Rd.int .u8) x11090)) (fun o M => match (generalizing := false) r with | (Sum.inl _) => o = .ret (.lit (.string ByteArray.empty)) ∧ M = ((Mem.nil.push (.cells 50 [.opt x11089 0 0, .whole 1])).push (.row 5 (Rd.int .u8) x11090)) | (Sum.inr _) => o = .ret (.lit (.string (strOf x11090))) ∧ M = ((Mem.nil.push (.cells 50 [.opt x11089 0 0, .whole 1])).push (.gone))) := by
  unfold g_strings_Builder_String at H
  refine Go.Q.Spec.of_bodyR (rs := [.tmp 2]) (nt := 14) Tryd.func39 rfl rfl (by intro t T h; simp at h) rfl rfl fun cx hnp => ?_
  refine WP.seq ?_
  refine WP.region ?_
  refine WPL.q (q_as (v := .lit (.string _)) rfl) rfl ?_
  refine WPL.nilW ?_
  refine W.now ?_
  refine Then.n ?_
  refine WP.seq ?_
  refine WP.regionD' 12 [0] [] mixed rfl ?_
  refine WPD.takeT 0 rfl (by kernel_rfl) (q_mv (v := .ptr _ _) rfl) rfl ?_
  refine WPD.takeT 1 rfl (by kernel_rfl) (q_nilCheck rfl) rfl ?_
  refine WPD.takeT 2 rfl (by kernel_rfl) (q_fieldAddr fi50_1 rfl rfl) rfl ?_
  refine WPD.takeT 5 rfl (by kernel_rfl) (q_mv (v := .ptr _ _) rfl) rfl ?_
  refine WPD.takeT 6 rfl (by kernel_rfl) (q_nilCheck rfl) rfl ?_
  refine WPD.takeT 7 rfl (by kernel_rfl) (q_fieldAddr fi50_1 rfl rfl) rfl ?_
  refine WPD.take 3 rfl (by kernel_rfl) (q_load sc47 rfl rfl rfl) rfl rfl ?_
  refine WPD.take 8 rfl (by kernel_rfl) (q_load sc47 rfl rfl rfl) rfl rfl ?_
  refine WPD.takeT 9 rfl (by kernel_rfl) (q_len_row sl47 rfl rfl) rfl ?_
  refine WPD.splitB (decide (List.length x11090 = 0)) (fun hb11094 => ?_) (fun hb11094 => ?_)
  · replace H := cnt hb11094 H
    refine WPD.eff 4 [0] [] rfl (by kernel_rfl) (Does.runs (d_sliceData0 Tryd.underlying71 rfl rfl hb11094)) rfl rfl ?_
    refine WPD.eff 10 [0] [] rfl (by kernel_rfl) (Does.runs (Quiet.does (q_unsafeStr0 rfl rfl (len0 hb11094)))) rfl rfl ?_
    refine WPD.takeT 11 rfl (by kernel_rfl) (q_as (v := .lit (.string _)) rfl) rfl ?_
    refine WPD.doneW (by kernel_rfl) ?_
    refine W.now ?_
    refine Then.n ?_
    refine WP.retW ?_
    refine W.now ?_
    have q0 := Option.some.inj H
    subst q0
    exact ⟨trivial, _, rfl, [0, 1], (.lit (.string ByteArray.empty)), ((Mem.nil.push (.cells 50 [.opt x11089 0 0, .whole 1])).push (.row 5 (Rd.int .u8) x11090)), ⟨rfl, ⟨⟨trivial, .inr ⟨rfl, rfl, rfl⟩⟩, .inr ⟨rfl, rfl, rfl⟩⟩, by decide, rfl, ⟨trivial, rfl⟩⟩, rfl, rfl, rfl, rfl⟩
  · replace H := cnf hb11094 H
    refine WPD.eff 4 [0] [] rfl (by kernel_rfl) (Does.runs (Quiet.does (q_sliceData rfl rfl hb11094))) rfl rfl ?_
    refine WPD.eff 10 [0] [] rfl (by kernel_rfl) (Does.runs (d_unsafeStr Tryd.underlying71 (by kernel_rfl) rfl rfl rfl hb11094 rfl)) rfl rfl ?_
    refine WPD.takeT 11 rfl (by kernel_rfl) (q_as (v := .lit (.string _)) rfl) rfl ?_
    refine WPD.doneW (by kernel_rfl) ?_
    refine W.now ?_
    refine Then.n ?_
    refine WP.retW ?_
    refine W.now ?_
    have q0 := Option.some.inj H
    subst q0
    exact ⟨trivial, _, rfl, [0, 1], (.lit (.string (strOf x11090))), ((Mem.nil.push (.cells 50 [.opt x11089 0 0, .whole 1])).push (.gone)), ⟨rfl, ⟨⟨trivial, .inr ⟨rfl, rfl, rfl⟩⟩, .inl rfl⟩, by decide, rfl, ⟨trivial, rfl⟩⟩, rfl, rfl, rfl, rfl⟩
set_option maxRecDepth 100000 in
set_option maxHeartbeats 4000000 in
theorem s_utf_Cut (k : Nat) (x10771 : ByteArray) (x10772 : Int) (x10773 : Int) (x11098 : ByteArray) (H : g_utf_Cut k x10771 x10772 x10773 = some x11098) : Go.Q.Spec Tryd.prog 24 0 [.lit (.string x10771), .lit (.int .i64 x10772), .lit (.int .i64 x10773)] Mem.nil (fun o M => o = .ret (.lit (.string x11098)) ∧ M = Mem.nil) := by
  unfold g_utf_Cut at H
  refine Go.Q.Spec.of_bodyR (rs := [.tmp 6]) (nt := 33) Tryd.func24 rfl rfl (by intro t T h; simp at h) rfl rfl fun cx hnp => ?_
  refine WP.seq ?_
  refine WP.region ?_
  refine WPL.q (q_as (v := .lit (.string _)) rfl) rfl ?_
  refine WPL.nilW ?_
  refine W.now ?_
  refine Then.n ?_
  refine WP.seq ?_
  refine WP.region ?_
  refine WPL.d (d_alloc ze50 rfl) rfl ?_
  refine WPL.nilW ?_
  refine W.now ?_
  refine Then.n ?_
  refine WP.seq ?_
  refine WP.region ?_
  refine WPL.q (q_as (v := .lit (.int _ _)) rfl) rfl ?_
  refine WPL.nilW ?_
  refine W.now ?_
  refine Then.n ?_
  refine WP.seq ?_
  refine WP.region ?_
  refine WPL.q (q_mv (v := .lit (.int _ _)) rfl) rfl ?_
  obtain ⟨x11099, h11099, H⟩ := bnd H
  refine WPL.q (q_nm (q_max rfl rfl) (nm_int h11099)) rfl ?_
  refine WPL.q (q_as (v := .lit (.int _ _)) rfl) rfl ?_
  refine WPL.nilW ?_
  refine W.now ?_
  refine Then.n ?_
  refine WP.seq ?_
  refine WP.seq ?_
  refine WP.region ?_
  refine WPL.q (q_mv (v := .lit (.string _)) rfl) rfl ?_
  refine WPL.d (d_range Tryd.underlying9 rfl rfl) rfl ?_
  refine WPL.nilW ?_
  refine W.now ?_
  refine Then.n ?_
  refine WP.block ?_
  refine WP.cv (Cv.optC0 (i := 0) (off := 0) (j := 0) (o := 0) rfl rfl rfl rfl rfl) ?_
  refine WP.cv (Cv.virC 5 (Rd.int .u8) (N := 2) rfl rfl (i := 0) (off := 1) rfl rfl) ?_
  refine WP.cv (Cv.weak (E' := (((((Env.none.upd 1 (.lit (.int .i64 x11099))).upd 2 (.lit (.int .i64 x10773))).upd 7 (.ptr 0 0)).upd 8 (.lit (.int .i64 0))).upd 14 (.ptr 2 0))) (M' := (((Mem.nil.push (.cells 50 [.opt false 0 0, .whole 1])).push (.row 5 (Rd.int .u8) ([] : List Int))).push (.obj (.stringIter x10771 0)))) [0, 2, 1] hnp ⟨rfl, ⟨⟨⟨trivial, .inr ⟨rfl, rfl, rfl⟩⟩, .inr ⟨rfl, rfl, rfl⟩⟩, .inr ⟨rfl, rfl, rfl⟩⟩, by decide, rfl, trivial⟩ (LeE.upd rfl rfl (LeE.upd rfl rfl (LeE.upd rfl rfl (LeE.upd rfl rfl (LeE.upd rfl rfl (LeE.none rfl rfl))))))) ?_
  obtain ⟨⟨x11180, x11181⟩, H11207, H⟩ := bnd H
  refine WP.monoW (Q := fun x E M => x = .exit 0 ∧ E = (Env.none.upd 7 (.ptr 0 0)) ∧ M = ((Mem.nil.push (.cells 50 [.opt x11180 0 0, .whole 1])).push (.row 5 (Rd.int .u8) x11181))) ?_ ?_
  · refine WP.loop (β := Int × Bool × (List Int) × Nat) (fun n b => g_utf_Cut_l0 k x10771 x10773 x11099 n b.1 b.2.1 b.2.2.1 b.2.2.2 = some (x11180, x11181)) (fun b => (((((Env.none.upd 1 (.lit (.int .i64 x11099))).upd 2 (.lit (.int .i64 x10773))).upd 7 (.ptr 0 0)).upd 8 (.lit (.int .i64 b.1))).upd 14 (.ptr 2 0))) (fun b => (((Mem.nil.push (.cells 50 [.opt b.2.1 0 0, .whole 1])).push (.row 5 (Rd.int .u8) b.2.2.1)).push (.obj (.stringIter x10771 b.2.2.2)))) k (0, false, ([] : List Int), 0) H11207 rfl rfl ?_
    rintro n ⟨x11150, x11151, x11152, x11153⟩ H
    obtain _ | n := n
    · exact nf rfl H
    rw [g_utf_Cut_l0.eq_2] at H
    show WP _ _ _ _ (((((Env.none.upd 1 (.lit (.int .i64 x11099))).upd 2 (.lit (.int .i64 x10773))).upd 7 (.ptr 0 0)).upd 8 (.lit (.int .i64 x11150))).upd 14 (.ptr 2 0)) (((Mem.nil.push (.cells 50 [.opt x11151 0 0, .whole 1])).push (.row 5 (Rd.int .u8) x11152)).push (.obj (.stringIter x10771 x11153))) _
    refine WP.seq ?_
    refine WP.region ?_
    refine WPL.splitB (decide (x11153 < ByteArray.size x10771)) (fun hb11181 => ?_) (fun hb11181 => ?_)
    · replace H := cnt hb11181 H
      refine WPL.d (d_next rfl rfl hb11181) rfl ?_
      refine WPL.q (q_extract rfl rfl) rfl ?_
      refine WPL.nilW ?_
      refine W.now ?_
      refine Then.n ?_
      refine WP.seq ?_
      refine WP.condT rfl ?_
      refine WP.skipW ?_
      refine W.now ?_
      refine Then.n ?_
      refine WP.block ?_
      refine WP.seq ?_
      refine WP.region ?_
      refine WPL.q (q_extract rfl rfl) rfl ?_
      refine WPL.q (q_as (v := .lit (.int _ _)) rfl) rfl ?_
      refine WPL.nilW ?_
      refine W.now ?_
      refine Then.n ?_
      refine WP.seq ?_
      obtain ⟨⟨x11194, x11195⟩, H11206, H⟩ := bnd H
      refine WP.monoW (Q := fun x E M => x = .normal ∧ E = (((((Env.none.upd 1 (.lit (.int .i64 x11099))).upd 2 (.lit (.int .i64 x10773))).upd 7 (.ptr 0 0)).upd 8 (.lit (.int .i64 x11150))).upd 14 (.ptr 2 0)) ∧ M = (((Mem.nil.push (.cells 50 [.opt x11194 0 0, .whole 1])).push (.row 5 (Rd.int .u8) x11195)).push (.obj (.stringIter x10771 (x11153 + (Utf8.decode x10771 x11153).2))))) ?_ ?_
      · clear H
        have H := H11206
        clear H11206
        refine WP.seq ?_
        obtain ⟨x11198, H11200, H⟩ := bnd H
        refine WP.monoW (Q := fun x E M => x = .normal ∧ E = (((((((Env.none.upd 1 (.lit (.int .i64 x11099))).upd 2 (.lit (.int .i64 x10773))).upd 7 (.ptr 0 0)).upd 8 (.lit (.int .i64 x11150))).upd 10 (.lit (.int .i32 (((Utf8.decode x10771 x11153).1 : Nat) : Int)))).upd 14 (.ptr 2 0)).upd 27 (.lit (.bool x11198))) ∧ M = (((Mem.nil.push (.cells 50 [.opt x11151 0 0, .whole 1])).push (.row 5 (Rd.int .u8) x11152)).push (.obj (.stringIter x10771 (x11153 + (Utf8.decode x10771 x11153).2))))) ?_ ?_
        · clear H
          have H := H11200
          clear H11200
          refine WP.region ?_
          refine WPL.q (q_mv (v := .lit (.int _ _)) rfl) rfl ?_
          refine WPL.q (q_mv (v := .lit (.int _ _)) rfl) rfl ?_
          refine WPL.q (q_geq rfl rfl) rfl ?_
          refine WPL.q (q_mv (v := .lit (.bool _)) rfl) rfl ?_
          refine WPL.split (t := 21) (b := (decide (x11099 ≤ x11150))) rfl (fun hb11198 => ?_) (fun hb11198 => ?_)
          · replace H := cnt hb11198 H
            refine WPL.qg rfl rfl (lb hb11198) (q_mv (v := .lit (.int _ _)) rfl) rfl ?_
            refine WPL.qg rfl rfl (lb hb11198) (q_mv (v := .lit (.int _ _)) rfl) rfl ?_
            refine WPL.qg rfl rfl (lb hb11198) (q_sub rfl rfl) rfl ?_
            refine WPL.qg rfl rfl (lb hb11198) (q_mv (v := .lit (.int _ _)) rfl) rfl ?_
            obtain ⟨x11200, h11200, H⟩ := bnd H
            refine WPL.qg rfl rfl (lb hb11198) (q_nm (q_lss rfl rfl) (nm_bool h11200)) rfl ?_
            refine WPL.q (q_pickT (v := .lit (.bool _)) (lb hb11198) rfl) rfl ?_
            refine WPL.nilW ?_
            refine W.cv (Cv.weak (E' := (((((((Env.none.upd 1 (.lit (.int .i64 x11099))).upd 2 (.lit (.int .i64 x10773))).upd 7 (.ptr 0 0)).upd 8 (.lit (.int .i64 x11150))).upd 10 (.lit (.int .i32 (((Utf8.decode x10771 x11153).1 : Nat) : Int)))).upd 14 (.ptr 2 0)).upd 27 (.lit (.bool x11200)))) (M' := (((Mem.nil.push (.cells 50 [.opt x11151 0 0, .whole 1])).push (.row 5 (Rd.int .u8) x11152)).push (.obj (.stringIter x10771 (x11153 + (Utf8.decode x10771 x11153).2))))) [0, 1, 2] hnp ⟨rfl, ⟨⟨⟨trivial, .inr ⟨rfl, rfl, rfl⟩⟩, .inr ⟨rfl, rfl, rfl⟩⟩, .inr ⟨rfl, rfl, rfl⟩⟩, by decide, rfl, trivial⟩ (LeE.upd rfl rfl (LeE.upd rfl rfl (LeE.upd rfl rfl (LeE.upd rfl rfl (LeE.upd rfl rfl (LeE.upd rfl rfl (LeE.upd rfl rfl (LeE.none rfl rfl))))))))) rfl ?_
            refine W.now ?_
            have q0 := (Option.some.inj H)
            subst q0
            exact ⟨rfl, rfl, rfl⟩
          · replace H := cnf hb11198 H
            refine WPL.skipg (b' := false) rfl rfl (lb hb11198) rfl rfl ?_
            refine WPL.skipg (b' := false) rfl rfl (lb hb11198) rfl rfl ?_
            refine WPL.skipg (b' := false) rfl rfl (lb hb11198) rfl rfl ?_
            refine WPL.skipg (b' := false) rfl rfl (lb hb11198) rfl rfl ?_
            refine WPL.skipg (b' := false) rfl rfl (lb hb11198) rfl rfl ?_
            refine WPL.q (q_pickF (v := .lit (.bool _)) (lb hb11198) rfl) rfl ?_
            refine WPL.nilW ?_
            refine W.cv (Cv.weak (E' := (((((((Env.none.upd 1 (.lit (.int .i64 x11099))).upd 2 (.lit (.int .i64 x10773))).upd 7 (.ptr 0 0)).upd 8 (.lit (.int .i64 x11150))).upd 10 (.lit (.int .i32 (((Utf8.decode x10771 x11153).1 : Nat) : Int)))).upd 14 (.ptr 2 0)).upd 27 (.lit (.bool false)))) (M' := (((Mem.nil.push (.cells 50 [.opt x11151 0 0, .whole 1])).push (.row 5 (Rd.int .u8) x11152)).push (.obj (.stringIter x10771 (x11153 + (Utf8.decode x10771 x11153).2))))) [0, 1, 2] hnp ⟨rfl, ⟨⟨⟨trivial, .inr ⟨rfl, rfl, rfl⟩⟩, .inr ⟨rfl, rfl, rfl⟩⟩, .inr ⟨rfl, rfl, rfl⟩⟩, by decide, rfl, trivial⟩ (LeE.upd rfl rfl (LeE.upd rfl rfl (LeE.upd rfl rfl (LeE.upd rfl rfl (LeE.upd rfl rfl (LeE.upd rfl rfl (LeE.upd rfl rfl (LeE.none rfl rfl))))))))) rfl ?_
            refine W.now ?_
            have q0 := (Option.some.inj H)
            subst q0
            exact ⟨rfl, rfl, rfl⟩
        · rintro _ _ _ ⟨rfl, rfl, rfl⟩
          refine W.now ?_
          refine Then.n ?_
          refine WP.cond (t := x11198) rfl (fun hb11201 => ?_) (fun hb11201 => ?_)
          · replace H := cnt hb11201 H
            refine WP.region ?_
            refine WPL.q (q_mv (v := .lit (.int _ _)) rfl) rfl ?_
            obtain ⟨⟨x11204, x11205, x11206⟩, h11202, H⟩ := bnd H
            refine WPL.c (runs_call (s := [0, 1]) (t := [0, 3]) (N := 4) (bor := []) fn38 rfl (s_strings_Builder_WriteRune__b k (((Utf8.decode x10771 x11153).1 : Nat) : Int) x11151 x11152 x11204 x11205 x11206 h11202) ⟨rfl, ⟨⟨trivial, .inr ⟨rfl, rfl, rfl⟩⟩, .inr ⟨rfl, rfl, rfl⟩⟩, by decide, rfl, trivial⟩ rfl trivial (.ren rfl rfl (.ren rfl rfl .nil)) rfl ⟨⟨trivial, rfl⟩, rfl⟩ rfl) rfl ?_
            refine WPL.nilW ?_
            refine W.cv (Cv.weak (E' := (((((Env.none.upd 1 (.lit (.int .i64 x11099))).upd 2 (.lit (.int .i64 x10773))).upd 7 (.ptr 0 0)).upd 8 (.lit (.int .i64 x11150))).upd 14 (.ptr 2 0))) (M' := (((Mem.nil.push (.cells 50 [.opt x11205 0 0, .whole 1])).push (.row 5 (Rd.int .u8) x11206)).push (.obj (.stringIter x10771 (x11153 + (Utf8.decode x10771 x11153).2))))) [0, 3, 2] hnp ⟨rfl, ⟨⟨⟨trivial, .inr ⟨rfl, rfl, rfl⟩⟩, .inr ⟨rfl, rfl, rfl⟩⟩, .inr ⟨rfl, rfl, rfl⟩⟩, by decide, rfl, trivial⟩ (LeE.upd rfl rfl (LeE.upd rfl rfl (LeE.upd rfl rfl (LeE.upd rfl rfl (LeE.upd rfl rfl (LeE.none rfl rfl))))))) rfl ?_
            refine W.now ?_
            have q0 := (Prod.mk.inj (Option.some.inj H)).1
            have q1 := (Prod.mk.inj (Option.some.inj H)).2
            subst q0
            subst q1
            exact ⟨rfl, rfl, rfl⟩
          · replace H := cnf hb11201 H
            refine WP.skipW ?_
            refine W.cv (Cv.weak (E' := (((((Env.none.upd 1 (.lit (.int .i64 x11099))).upd 2 (.lit (.int .i64 x10773))).upd 7 (.ptr 0 0)).upd 8 (.lit (.int .i64 x11150))).upd 14 (.ptr 2 0))) (M' := (((Mem.nil.push (.cells 50 [.opt x11151 0 0, .whole 1])).push (.row 5 (Rd.int .u8) x11152)).push (.obj (.stringIter x10771 (x11153 + (Utf8.decode x10771 x11153).2))))) [0, 1, 2] hnp ⟨rfl, ⟨⟨⟨trivial, .inr ⟨rfl, rfl, rfl⟩⟩, .inr ⟨rfl, rfl, rfl⟩⟩, .inr ⟨rfl, rfl, rfl⟩⟩, by decide, rfl, trivial⟩ (LeE.upd rfl rfl (LeE.upd rfl rfl (LeE.upd rfl rfl (LeE.upd rfl rfl (LeE.upd rfl rfl (LeE.none rfl rfl))))))) rfl ?_
            refine W.now ?_
            have q0 := (Prod.mk.inj (Option.some.inj H)).1
            have q1 := (Prod.mk.inj (Option.some.inj H)).2
            subst q0
            subst q1
            exact ⟨rfl, rfl, rfl⟩
      · rintro _ _ _ ⟨rfl, rfl, rfl⟩
        refine W.now ?_
        refine Then.n ?_
        refine WP.region ?_
        refine WPL.q (q_mv (v := .lit (.int _ _)) rfl) rfl ?_
        refine WPL.q (q_add rfl rfl) rfl ?_
        refine WPL.q (q_as (v := .lit (.int _ _)) rfl) rfl ?_
        refine WPL.nilW ?_
        refine W.cv (Cv.weak (E' := (((((Env.none.upd 1 (.lit (.int .i64 x11099))).upd 2 (.lit (.int .i64 x10773))).upd 7 (.ptr 0 0)).upd 8 (.lit (.int .i64 (IntKind.wrap .i64 (x11150 + 1))))).upd 14 (.ptr 2 0))) (M' := (((Mem.nil.push (.cells 50 [.opt x11194 0 0, .whole 1])).push (.row 5 (Rd.int .u8) x11195)).push (.obj (.stringIter x10771 (x11153 + (Utf8.decode x10771 x11153).2))))) [0, 1, 2] hnp ⟨rfl, ⟨⟨⟨trivial, .inr ⟨rfl, rfl, rfl⟩⟩, .inr ⟨rfl, rfl, rfl⟩⟩, .inr ⟨rfl, rfl, rfl⟩⟩, by decide, rfl, trivial⟩ (LeE.upd rfl rfl (LeE.upd rfl rfl (LeE.upd rfl rfl (LeE.upd rfl rfl (LeE.upd rfl rfl (LeE.none rfl rfl))))))) rfl ?_
        refine W.now ?_
        refine InBlock.n ?_
        exact Then.n ⟨n, ((IntKind.wrap .i64 (x11150 + 1)), x11194, x11195, (x11153 + (Utf8.decode x10771 x11153).2)), Nat.lt_succ_self n, H, rfl, rfl⟩
    · replace H := cnf hb11181 H
      refine WPL.q (q_nextEnd rfl rfl hb11181) rfl ?_
      refine WPL.q (q_extract rfl rfl) rfl ?_
      refine WPL.nilW ?_
      refine W.now ?_
      refine Then.n ?_
      refine WP.seq ?_
      refine WP.condF rfl ?_
      refine WP.exitW ?_
      refine W.cv (Cv.weak (E' := (Env.none.upd 7 (.ptr 0 0))) (M' := ((Mem.nil.push (.cells 50 [.opt x11151 0 0, .whole 1])).push (.row 5 (Rd.int .u8) x11152))) [0, 1] hnp ⟨rfl, ⟨⟨trivial, .inr ⟨rfl, rfl, rfl⟩⟩, .inr ⟨rfl, rfl, rfl⟩⟩, by decide, rfl, trivial⟩ (LeE.upd rfl rfl (LeE.none rfl rfl))) rfl ?_
      refine W.now ?_
      refine Then.x ?_
      refine Then.x ?_
      have q0 := (Prod.mk.inj (Option.some.inj H)).1
      have q1 := (Prod.mk.inj (Option.some.inj H)).2
      subst q0
      subst q1
      exact ⟨rfl, rfl, rfl⟩
  · rintro _ _ _ ⟨rfl, rfl, rfl⟩
    refine W.now ?_
    refine InBlock.x0 ?_
    refine Then.n ?_
    refine WP.seq ?_
    refine WP.region ?_
    obtain ⟨y11210, h11208, H⟩ := bnd H
    rcases y11210 with _ | _
    · refine WPL.c (runs_call (s := [0, 1]) (t := [0, 2]) (N := 3) (bor := []) fn39 rfl (s_strings_Builder_String k x11180 x11181 (Sum.inl ()) h11208) ⟨rfl, ⟨⟨trivial, .inr ⟨rfl, rfl, rfl⟩⟩, .inr ⟨rfl, rfl, rfl⟩⟩, by decide, rfl, trivial⟩ rfl trivial (.ren rfl rfl .nil) rfl ⟨⟨trivial, rfl⟩, rfl⟩ rfl) rfl ?_
      refine WPL.q (q_as (v := .lit (.string _)) rfl) rfl ?_
      refine WPL.nilW ?_
      refine W.now ?_
      refine Then.n ?_
      refine WP.retW ?_
      refine W.now ?_
      have q0 := (Option.some.inj H)
      subst q0
      exact ⟨trivial, _, rfl, [], (.lit (.string ByteArray.empty)), Mem.nil, ⟨rfl, trivial, by decide, rfl, trivial⟩, rfl, rfl, rfl, rfl⟩
    · refine WPL.c (runs_call (s := [0, 1]) (t := [0, 2]) (N := 3) (bor := []) fn39 rfl (s_strings_Builder_String k x11180 x11181 (Sum.inr ()) h11208) ⟨rfl, ⟨⟨trivial, .inr ⟨rfl, rfl, rfl⟩⟩, .inr ⟨rfl, rfl, rfl⟩⟩, by decide, rfl, trivial⟩ rfl trivial (.ren rfl rfl .nil) rfl ⟨⟨trivial, rfl⟩, rfl⟩ rfl) rfl ?_
      refine WPL.q (q_as (v := .lit (.string _)) rfl) rfl ?_
      refine WPL.nilW ?_
      refine W.now ?_
      refine Then.n ?_
      refine WP.retW ?_
      refine W.now ?_
      have q0 := (Option.some.inj H)
      subst q0
      exact ⟨trivial, _, rfl, [], (.lit (.string (strOf x11181))), Mem.nil, ⟨rfl, trivial, by decide, rfl, trivial⟩, rfl, rfl, rfl, rfl⟩
set_option maxRecDepth 100000 in
set_option maxHeartbeats 4000000 in
theorem s_strings_splitSeq (k : Nat) (x11220 : ByteArray) (x11221 : ByteArray) (x11222 : Int) (H : g_strings_splitSeq k x11220 x11221 x11222 = some ()) : Go.Q.Spec Tryd.prog 45 0 [.lit (.string x11220), .lit (.string x11221), .lit (.int .i64 x11222)] Mem.nil (fun o M => o = .ret (.fn 51 [.ptr 0 0, .ptr 1 0, .ptr 2 0]) ∧ M = (((Mem.nil.push (.cells 9 [.lit (.string x11221)])).push (.cells 9 [.lit (.string x11220)])).push (.cells 3 [.lit (.int .i64 x11222)]))) := by
  unfold g_strings_splitSeq at H
  refine Go.Q.Spec.of_bodyR (rs := [.tmp 6]) (nt := 8) Tryd.func45 rfl rfl (by intro t T h; simp at h) rfl rfl fun cx hnp => ?_
  refine WP.seq ?_
  refine WP.region ?_
  refine WPL.d (d_box rfl rfl) rfl ?_
  refine WPL.d (d_box rfl rfl) rfl ?_
  refine WPL.d (d_box rfl rfl) rfl ?_
  refine WPL.q (q_as (v := .lit _) rfl) rfl ?_
  refine WPL.nilW ?_
  refine W.now ?_
  refine Then.n ?_
  refine WP.seq ?_
  refine WP.region ?_
  refine WPL.q (q_makeFunc) rfl ?_
  refine WPL.q (q_as (v := .fn _ _) rfl) rfl ?_
  refine WPL.nilW ?_
  refine W.now ?_
  refine Then.n ?_
  refine WP.retW ?_
  refine W.now ?_
  exact ⟨trivial, _, rfl, [1, 0, 2], (.fn 51 [.ptr 0 0, .ptr 1 0, .ptr 2 0]), (((Mem.nil.push (.cells 9 [.lit (.string x11221)])).push (.cells 9 [.lit (.string x11220)])).push (.cells 3 [.lit (.int .i64 x11222)])), ⟨rfl, ⟨⟨⟨trivial, .inr ⟨rfl, rfl, rfl⟩⟩, .inr ⟨rfl, rfl, rfl⟩⟩, .inr ⟨rfl, rfl, rfl⟩⟩, by decide, rfl, trivial⟩, rfl, rfl, rfl, rfl⟩
set_option maxRecDepth 100000 in
set_option maxHeartbeats 4000000 in
theorem s_strings_SplitSeq (k : Nat) (x11217 : ByteArray) (x11218 : ByteArray) (H : g_strings_SplitSeq k x11217 x11218 = some ()) : Go.Q.Spec Tryd.prog 32 0 [.lit (.string x11217), .lit (.string x11218)] Mem.nil (fun o M => o = .ret (.fn 51 [.ptr 0 0, .ptr 1 0, .ptr 2 0]) ∧ M = (((Mem.nil.push (.cells 9 [.lit (.string x11218)])).push (.cells 9 [.lit (.string x11217)])).push (.cells 3 [.lit (.int .i64 0)]))) := by
  unfold g_strings_SplitSeq at H
  refine Go.Q.Spec.of_bodyR (rs := [.tmp 4]) (nt := 8) Tryd.func32 rfl rfl (by intro t T h; simp at h) rfl rfl fun cx hnp => ?_
  refine WP.seq ?_
  refine WP.region ?_
  refine WPL.q (q_as (v := .lit _) rfl) rfl ?_
  refine WPL.nilW ?_
  refine W.now ?_
  refine Then.n ?_
  refine WP.seq ?_
  refine WP.region ?_
  refine WPL.q (q_mv (v := .lit (.string _)) rfl) rfl ?_
  refine WPL.q (q_mv (v := .lit (.string _)) rfl) rfl ?_
  obtain ⟨_, h11224, H⟩ := bnd H
  refine WPL.c (runs_call (s := []) (t := [0, 1, 2]) (N := 3) (bor := []) fn45 rfl (s_strings_splitSeq k x11217 x11218 0 h11224) ⟨rfl, trivial, by decide, rfl, trivial⟩ rfl trivial (.ren rfl rfl (.ren rfl rfl (.ren rfl rfl .nil))) rfl ⟨⟨⟨trivial, rfl⟩, rfl⟩, rfl⟩ rfl) rfl ?_
  refine WPL.q (q_as (v := .fn _ _) rfl) rfl ?_
  refine WPL.nilW ?_
  refine W.now ?_
  refine Then.n ?_
  refine WP.retW ?_
  refine W.now ?_
  exact ⟨trivial, _, rfl, [0, 1, 2], (.fn 51 [.ptr 0 0, .ptr 1 0, .ptr 2 0]), (((Mem.nil.push (.cells 9 [.lit (.string x11218)])).push (.cells 9 [.lit (.string x11217)])).push (.cells 3 [.lit (.int .i64 0)])), ⟨rfl, ⟨⟨⟨trivial, .inr ⟨rfl, rfl, rfl⟩⟩, .inr ⟨rfl, rfl, rfl⟩⟩, .inr ⟨rfl, rfl, rfl⟩⟩, by decide, rfl, trivial⟩, rfl, rfl, rfl, rfl⟩
set_option maxRecDepth 100000 in
set_option maxHeartbeats 4000000 in
theorem s_unicode_utf8_decodeRuneInStringSlow (k : Nat) (x11254 : ByteArray) (x11348 : Int) (x11349 : Int) (H : g_unicode_utf8_decodeRuneInStringSlow k x11254 = some (x11348, x11349)) : Go.Q.Spec Tryd.prog 57 0 [.lit (.string x11254)] Mem.nil (fun o M => o = .ret (.tup [.lit (.int .i32 x11348), .lit (.int .i64 x11349)]) ∧ M = Mem.nil) := by
  unfold g_unicode_utf8_decodeRuneInStringSlow at H
  refine Go.Q.Spec.of_bodyR (rs := [.tmp 2, .tmp 3]) (nt := 117) Tryd.func57 rfl rfl (by intro t T h; simp at h) rfl rfl fun cx hnp => ?_
  refine WP.seq ?_
  refine WP.region ?_
  refine WPL.q (q_as (v := .lit (.int _ _)) rfl) rfl ?_
  refine WPL.q (q_as (v := .lit (.int _ _)) rfl) rfl ?_
  refine WPL.nilW ?_
  refine W.now ?_
  refine Then.n ?_
  refine WP.seq ?_
  refine WP.region ?_
  refine WPL.q (q_mv (v := .lit (.string _)) rfl) rfl ?_
  refine WPL.q (q_len_str Tryd.underlying9 rfl) rfl ?_
  refine WPL.q (q_as (v := .lit (.int _ _)) rfl) rfl ?_
  refine WPL.nilW ?_
  refine W.now ?_
  refine Then.n ?_
  refine WP.seq ?_
  refine WP.seq ?_
  refine WP.region ?_
  refine WPL.q (q_mv (v := .lit (.int _ _)) rfl) rfl ?_
  obtain ⟨x11352, h11352, H⟩ := bnd H
  refine WPL.q (q_nm (q_lss rfl rfl) (nm_bool h11352)) rfl ?_
  refine WPL.nilW ?_
  refine W.now ?_
  refine Then.n ?_
  refine WP.cond (t := x11352) rfl (fun hb11352 => ?_) (fun hb11352 => ?_)
  · replace H := cnt hb11352 H
    refine WP.seq ?_
    refine WP.region ?_
    refine WPL.q (q_as (v := .lit (.int _ _)) rfl) rfl ?_
    refine WPL.q (q_as (v := .lit (.int _ _)) rfl) rfl ?_
    refine WPL.nilW ?_
    refine W.now ?_
    refine Then.n ?_
    refine WP.retW ?_
    refine W.now ?_
    refine Then.r ?_
    have q0 := (Prod.mk.inj (Option.some.inj H)).1
    have q1 := (Prod.mk.inj (Option.some.inj H)).2
    subst q0
    subst q1
    exact ⟨trivial, _, rfl, [], (.tup [.lit (.int .i32 65533), .lit (.int .i64 0)]), Mem.nil, ⟨rfl, trivial, by decide, rfl, trivial⟩, rfl, rfl, rfl, rfl⟩
  · replace H := cnf hb11352 H
    refine WP.skipW ?_
    refine W.now ?_
    refine Then.n ?_
    refine WP.seq ?_
    refine WP.region ?_
    refine WPL.q (q_mv (v := .lit (.string _)) rfl) rfl ?_
    obtain ⟨x11354, h11354, H⟩ := bnd H
    refine WPL.q (q_index_str Tryd.underlying9 rfl rfl h11354) rfl ?_
    refine WPL.q (q_as (v := .lit (.int _ _)) rfl) rfl ?_
    refine WPL.nilW ?_
    refine W.now ?_
    refine Then.n ?_
    refine WP.seq ?_
    refine WP.region ?_
    refine WPL.q (q_mv (v := .lit (.int _ _)) rfl) rfl ?_
    obtain ⟨h11354, H⟩ := grd H
    refine WPL.q (q_indexTab ar59 rfl rfl tb0 rfl h11354) rfl ?_
    refine WPL.q (q_load_sc sc5 rfl) rfl ?_
    refine WPL.q (q_as (v := .lit (.int _ _)) rfl) rfl ?_
    refine WPL.nilW ?_
    refine W.now ?_
    refine Then.n ?_
    refine WP.seq ?_
    refine WP.seq ?_
    refine WP.region ?_
    refine WPL.q (q_mv (v := .lit (.int _ _)) rfl) rfl ?_
    obtain ⟨x11362, h11362, H⟩ := bnd H
    refine WPL.q (q_nm (q_geq rfl rfl) (nm_bool h11362)) rfl ?_
    refine WPL.nilW ?_
    refine W.now ?_
    refine Then.n ?_
    refine WP.cond (t := x11362) rfl (fun hb11362 => ?_) (fun hb11362 => ?_)
    · replace H := cnt hb11362 H
      refine WP.seq ?_
      refine WP.region ?_
      refine WPL.q (q_mv (v := .lit (.int _ _)) rfl) rfl ?_
      obtain ⟨x11364, h11364, H⟩ := bnd H
      refine WPL.q (q_nm (q_conv Tryd.underlying5 Tryd.underlying21 rfl) (nm_int h11364)) rfl ?_
      refine WPL.q (q_shl rfl rfl rfl) rfl ?_
      refine WPL.q (q_shr rfl rfl rfl) rfl ?_
      refine WPL.q (q_as (v := .lit (.int _ _)) rfl) rfl ?_
      refine WPL.nilW ?_
      refine W.now ?_
      refine Then.n ?_
      refine WP.seq ?_
      refine WP.region ?_
      refine WPL.q (q_mv (v := .lit (.string _)) rfl) rfl ?_
      obtain ⟨x11365, h11365, H⟩ := bnd H
      refine WPL.q (q_index_str Tryd.underlying9 rfl rfl h11365) rfl ?_
      refine WPL.q (q_conv Tryd.underlying5 Tryd.underlying21 rfl) rfl ?_
      refine WPL.q (q_mv (v := .lit (.int _ _)) rfl) rfl ?_
      obtain ⟨x11366, h11366, H⟩ := bnd H
      refine WPL.q (q_nm (q_andNot rfl rfl) (nm_int h11366)) rfl ?_
      refine WPL.q (q_mv (v := .lit (.int _ _)) rfl) rfl ?_
      obtain ⟨x11367, h11367, H⟩ := bnd H
      refine WPL.q (q_nm (q_and rfl rfl) (nm_int h11367)) rfl ?_
      refine WPL.q (q_or rfl rfl) rfl ?_
      refine WPL.q (q_as (v := .lit (.int _ _)) rfl) rfl ?_
      refine WPL.q (q_as (v := .lit (.int _ _)) rfl) rfl ?_
      refine WPL.nilW ?_
      refine W.now ?_
      refine Then.n ?_
      refine WP.retW ?_
      refine W.now ?_
      refine Then.r ?_
      have q0 := (Prod.mk.inj (Option.some.inj H)).1
      have q1 := (Prod.mk.inj (Option.some.inj H)).2
      subst q0
      subst q1
      exact ⟨trivial, _, rfl, [], (.tup [.lit (.int .i32 (bits .or .i32 x11366 x11367)), .lit (.int .i64 1)]), Mem.nil, ⟨rfl, trivial, by decide, rfl, trivial⟩, rfl, rfl, rfl, rfl⟩
    · replace H := cnf hb11362 H
      refine WP.skipW ?_
      refine W.now ?_
      refine Then.n ?_
      refine WP.seq ?_
      refine WP.region ?_
      refine WPL.q (q_mv (v := .lit (.int _ _)) rfl) rfl ?_
      obtain ⟨x11368, h11368, H⟩ := bnd H
      refine WPL.q (q_nm (q_and rfl rfl) (nm_int h11368)) rfl ?_
      refine WPL.q (q_conv Tryd.underlying5 Tryd.underlying3 rfl) rfl ?_
      refine WPL.q (q_as (v := .lit (.int _ _)) rfl) rfl ?_
      refine WPL.nilW ?_
      refine W.now ?_
      refine Then.n ?_
      refine WP.seq ?_
      refine WP.region ?_
      refine WPL.q (q_mv (v := .lit (.int _ _)) rfl) rfl ?_
      obtain ⟨x11369, h11369, H⟩ := bnd H
      refine WPL.q (q_nm (q_shr rfl rfl rfl) (nm_int h11369)) rfl ?_
      obtain ⟨h11369, H⟩ := grd H
      refine WPL.q (q_indexTab ar62 rfl rfl tb1 rfl h11369) rfl ?_
      refine WPL.q (q_load_roag ag61 rfl rfl S_unicode_utf8_acceptRange.sp) rfl ?_
      refine WPL.d (d_alloc ze61 rfl) rfl ?_
      refine WPL.s (s_store sz61 rfl rfl rfl rfl rfl) ?_
      refine WPL.nilW ?_
      refine W.now ?_
      refine Then.n ?_
      refine WP.seq ?_
      refine WP.seq ?_
      refine WP.region ?_
      refine WPL.q (q_mv (v := .lit (.int _ _)) rfl) rfl ?_
      refine WPL.q (q_mv (v := .lit (.int _ _)) rfl) rfl ?_
      obtain ⟨x11373, h11373, H⟩ := bnd H
      refine WPL.q (q_nm (q_lss rfl rfl) (nm_bool h11373)) rfl ?_
      refine WPL.nilW ?_
      refine W.now ?_
      refine Then.n ?_
      refine WP.cond (t := x11373) rfl (fun hb11373 => ?_) (fun hb11373 => ?_)
      · replace H := cnt hb11373 H
        refine WP.seq ?_
        refine WP.region ?_
        refine WPL.q (q_as (v := .lit (.int _ _)) rfl) rfl ?_
        refine WPL.q (q_as (v := .lit (.int _ _)) rfl) rfl ?_
        refine WPL.nilW ?_
        refine W.now ?_
        refine Then.n ?_
        refine WP.retW ?_
        refine W.now ?_
        refine Then.r ?_
        have q0 := (Prod.mk.inj (Option.some.inj H)).1
        have q1 := (Prod.mk.inj (Option.some.inj H)).2
        subst q0
        subst q1
        exact ⟨trivial, _, rfl, [], (.tup [.lit (.int .i32 65533), .lit (.int .i64 1)]), Mem.nil, ⟨rfl, trivial, by decide, rfl, trivial⟩, rfl, rfl, rfl, rfl⟩
      · replace H := cnf hb11373 H
        refine WP.skipW ?_
        refine W.now ?_
        refine Then.n ?_
        refine WP.seq ?_
        refine WP.region ?_
        refine WPL.q (q_mv (v := .lit (.string _)) rfl) rfl ?_
        obtain ⟨x11375, h11375, H⟩ := bnd H
        refine WPL.q (q_index_str Tryd.underlying9 rfl rfl h11375) rfl ?_
        refine WPL.q (q_as (v := .lit (.int _ _)) rfl) rfl ?_
        refine WPL.nilW ?_
        refine W.now ?_
        refine Then.n ?_
        refine WP.seq ?_
        refine WP.seq ?_
        obtain ⟨x11388, H11391, H⟩ := bnd H
        refine WP.monoW (Q := fun x E M => x = .normal ∧ E = (((((Env.none.upd 0 (.lit (.string x11254))).upd 5 (.lit (.int .u8 x11354))).upd 8 (.lit (.int .i64 (IntKind.wrap .i64 x11368)))).upd 10 (.lit (.int .u8 x11375))).upd 57 (.lit (.bool x11388))) ∧ M = Mem.nil) ?_ ?_
        · clear H
          have H := H11391
          clear H11391
          refine WP.region ?_
          refine WPL.q (q_mv (v := .lit (.int _ _)) rfl) rfl ?_
          refine WPL.q (q_fieldAddr fi61_0 rfl rfl) rfl ?_
          refine WPL.q (q_load sc5 rfl rfl rfl) rfl ?_
          obtain ⟨x11389, h11389, H⟩ := bnd H
          refine WPL.q (q_nm (q_lss rfl rfl) (nm_bool h11389)) rfl ?_
          refine WPL.q (q_mv (v := .lit (.bool _)) rfl) rfl ?_
          refine WPL.split (t := 52) (b := x11389) rfl (fun hb11389 => ?_) (fun hb11389 => ?_)
          · replace H := cnt hb11389 H
            refine WPL.skipg (b' := true) rfl rfl (lb hb11389) rfl rfl ?_
            refine WPL.skipg (b' := true) rfl rfl (lb hb11389) rfl rfl ?_
            refine WPL.skipg (b' := true) rfl rfl (lb hb11389) rfl rfl ?_
            refine WPL.skipg (b' := true) rfl rfl (lb hb11389) rfl rfl ?_
            refine WPL.q (q_pickT (v := .lit (.bool _)) (lb hb11389) rfl) rfl ?_
            refine WPL.nilW ?_
            refine W.cv (Cv.weak (E' := (((((Env.none.upd 0 (.lit (.string x11254))).upd 5 (.lit (.int .u8 x11354))).upd 8 (.lit (.int .i64 (IntKind.wrap .i64 x11368)))).upd 10 (.lit (.int .u8 x11375))).upd 57 (.lit (.bool true)))) (M' := Mem.nil) [] hnp ⟨rfl, trivial, by decide, rfl, trivial⟩ (LeE.upd rfl rfl (LeE.upd rfl rfl (LeE.upd rfl rfl (LeE.upd rfl rfl (LeE.upd rfl rfl (LeE.none rfl rfl))))))) rfl ?_
            refine W.now ?_
            have q0 := (Option.some.inj H)
            subst q0
            exact ⟨rfl, rfl, rfl⟩
          · replace H := cnf hb11389 H
            refine WPL.qg rfl rfl (lb hb11389) (q_fieldAddr fi61_1 rfl rfl) rfl ?_
            refine WPL.qg rfl rfl (lb hb11389) (q_load sc5 rfl rfl rfl) rfl ?_
            refine WPL.qg rfl rfl (lb hb11389) (q_mv (v := .lit (.int _ _)) rfl) rfl ?_
            obtain ⟨x11391, h11391, H⟩ := bnd H
            refine WPL.qg rfl rfl (lb hb11389) (q_nm (q_lss rfl rfl) (nm_bool h11391)) rfl ?_
            refine WPL.q (q_pickF (v := .lit (.bool _)) (lb hb11389) rfl) rfl ?_
            refine WPL.nilW ?_
            refine W.cv (Cv.weak (E' := (((((Env.none.upd 0 (.lit (.string x11254))).upd 5 (.lit (.int .u8 x11354))).upd 8 (.lit (.int .i64 (IntKind.wrap .i64 x11368)))).upd 10 (.lit (.int .u8 x11375))).upd 57 (.lit (.bool x11391)))) (M' := Mem.nil) [] hnp ⟨rfl, trivial, by decide, rfl, trivial⟩ (LeE.upd rfl rfl (LeE.upd rfl rfl (LeE.upd rfl rfl (LeE.upd rfl rfl (LeE.upd rfl rfl (LeE.none rfl rfl))))))) rfl ?_
            refine W.now ?_
            have q0 := (Option.some.inj H)
            subst q0
            exact ⟨rfl, rfl, rfl⟩
        · rintro _ _ _ ⟨rfl, rfl, rfl⟩
          refine W.now ?_
          refine Then.n ?_
          refine WP.cond (t := x11388) rfl (fun hb11392 => ?_) (fun hb11392 => ?_)
          · replace H := cnt hb11392 H
            refine WP.seq ?_
            refine WP.region ?_
            refine WPL.q (q_as (v := .lit (.int _ _)) rfl) rfl ?_
            refine WPL.q (q_as (v := .lit (.int _ _)) rfl) rfl ?_
            refine WPL.nilW ?_
            refine W.now ?_
            refine Then.n ?_
            refine WP.retW ?_
            refine W.now ?_
            refine Then.r ?_
            have q0 := (Prod.mk.inj (Option.some.inj H)).1
            have q1 := (Prod.mk.inj (Option.some.inj H)).2
            subst q0
            subst q1
            exact ⟨trivial, _, rfl, [], (.tup [.lit (.int .i32 65533), .lit (.int .i64 1)]), Mem.nil, ⟨rfl, trivial, by decide, rfl, trivial⟩, rfl, rfl, rfl, rfl⟩
          · replace H := cnf hb11392 H
            refine WP.skipW ?_
            refine W.now ?_
            refine Then.n ?_
            refine WP.seq ?_
            refine WP.seq ?_
            refine WP.region ?_
            refine WPL.q (q_mv (v := .lit (.int _ _)) rfl) rfl ?_
            obtain ⟨x11398, h11398, H⟩ := bnd H
            refine WPL.q (q_nm (q_leq rfl rfl) (nm_bool h11398)) rfl ?_
            refine WPL.nilW ?_
            refine W.now ?_
            refine Then.n ?_
            refine WP.cond (t := x11398) rfl (fun hb11398 => ?_) (fun hb11398 => ?_)
            · replace H := cnt hb11398 H
              refine WP.seq ?_
              refine WP.region ?_
              refine WPL.q (q_mv (v := .lit (.int _ _)) rfl) rfl ?_
              refine WPL.q (q_and rfl rfl) rfl ?_
              obtain ⟨x11400, h11400, H⟩ := bnd H
              refine WPL.q (q_nm (q_conv Tryd.underlying5 Tryd.underlying21 rfl) (nm_int h11400)) rfl ?_
              refine WPL.q (q_shl rfl rfl rfl) rfl ?_
              refine WPL.q (q_mv (v := .lit (.int _ _)) rfl) rfl ?_
              refine WPL.q (q_and rfl rfl) rfl ?_
              obtain ⟨x11401, h11401, H⟩ := bnd H
              refine WPL.q (q_nm (q_conv Tryd.underlying5 Tryd.underlying21 rfl) (nm_int h11401)) rfl ?_
              refine WPL.q (q_or rfl rfl) rfl ?_
              refine WPL.q (q_as (v := .lit (.int _ _)) rfl) rfl ?_
              refine WPL.q (q_as (v := .lit (.int _ _)) rfl) rfl ?_
              refine WPL.nilW ?_
              refine W.now ?_
              refine Then.n ?_
              refine WP.retW ?_
              refine W.now ?_
              refine Then.r ?_
              have q0 := (Prod.mk.inj (Option.some.inj H)).1
              have q1 := (Prod.mk.inj (Option.some.inj H)).2
              subst q0
              subst q1
              exact ⟨trivial, _, rfl, [], (.tup [.lit (.int .i32 (bits .or .i32 (shlI .i32 x11400 6) x11401)), .lit (.int .i64 2)]), Mem.nil, ⟨rfl, trivial, by decide, rfl, trivial⟩, rfl, rfl, rfl, rfl⟩
            · replace H := cnf hb11398 H
              refine WP.skipW ?_
              refine W.now ?_
              refine Then.n ?_
              refine WP.seq ?_
              refine WP.region ?_
              refine WPL.q (q_mv (v := .lit (.string _)) rfl) rfl ?_
              obtain ⟨x11402, h11402, H⟩ := bnd H
              refine WPL.q (q_index_str Tryd.underlying9 rfl rfl h11402) rfl ?_
              refine WPL.q (q_as (v := .lit (.int _ _)) rfl) rfl ?_
              refine WPL.nilW ?_
              refine W.now ?_
              refine Then.n ?_
              refine WP.seq ?_
              refine WP.seq ?_
              obtain ⟨x11409, H11410, H⟩ := bnd H
              refine WP.monoW (Q := fun x E M => x = .normal ∧ E = ((((((Env.none.upd 0 (.lit (.string x11254))).upd 5 (.lit (.int .u8 x11354))).upd 8 (.lit (.int .i64 (IntKind.wrap .i64 x11368)))).upd 10 (.lit (.int .u8 x11375))).upd 11 (.lit (.int .u8 x11402))).upd 75 (.lit (.bool x11409))) ∧ M = Mem.nil) ?_ ?_
              · clear H
                have H := H11410
                clear H11410
                refine WP.region ?_
                refine WPL.q (q_mv (v := .lit (.int _ _)) rfl) rfl ?_
                refine WPL.q (q_lss rfl rfl) rfl ?_
                refine WPL.q (q_mv (v := .lit (.bool _)) rfl) rfl ?_
                refine WPL.split (t := 72) (b := (decide (x11402 < 128))) rfl (fun hb11409 => ?_) (fun hb11409 => ?_)
                · replace H := cnt hb11409 H
                  refine WPL.skipg (b' := true) rfl rfl (lb hb11409) rfl rfl ?_
                  refine WPL.skipg (b' := true) rfl rfl (lb hb11409) rfl rfl ?_
                  refine WPL.q (q_pickT (v := .lit (.bool _)) (lb hb11409) rfl) rfl ?_
                  refine WPL.nilW ?_
                  refine W.cv (Cv.weak (E' := ((((((Env.none.upd 0 (.lit (.string x11254))).upd 5 (.lit (.int .u8 x11354))).upd 8 (.lit (.int .i64 (IntKind.wrap .i64 x11368)))).upd 10 (.lit (.int .u8 x11375))).upd 11 (.lit (.int .u8 x11402))).upd 75 (.lit (.bool true)))) (M' := Mem.nil) [] hnp ⟨rfl, trivial, by decide, rfl, trivial⟩ (LeE.upd rfl rfl (LeE.upd rfl rfl (LeE.upd rfl rfl (LeE.upd rfl rfl (LeE.upd rfl rfl (LeE.upd rfl rfl (LeE.none rfl rfl)))))))) rfl ?_
                  refine W.now ?_
                  have q0 := (Option.some.inj H)
                  subst q0
                  exact ⟨rfl, rfl, rfl⟩
                · replace H := cnf hb11409 H
                  refine WPL.qg rfl rfl (lb hb11409) (q_mv (v := .lit (.int _ _)) rfl) rfl ?_
                  refine WPL.qg rfl rfl (lb hb11409) (q_lss rfl rfl) rfl ?_
                  refine WPL.q (q_pickF (v := .lit (.bool _)) (lb hb11409) rfl) rfl ?_
                  refine WPL.nilW ?_
                  refine W.cv (Cv.weak (E' := ((((((Env.none.upd 0 (.lit (.string x11254))).upd 5 (.lit (.int .u8 x11354))).upd 8 (.lit (.int .i64 (IntKind.wrap .i64 x11368)))).upd 10 (.lit (.int .u8 x11375))).upd 11 (.lit (.int .u8 x11402))).upd 75 (.lit (.bool (decide (191 < x11402)))))) (M' := Mem.nil) [] hnp ⟨rfl, trivial, by decide, rfl, trivial⟩ (LeE.upd rfl rfl (LeE.upd rfl rfl (LeE.upd rfl rfl (LeE.upd rfl rfl (LeE.upd rfl rfl (LeE.upd rfl rfl (LeE.none rfl rfl)))))))) rfl ?_
                  refine W.now ?_
                  have q0 := (Option.some.inj H)
                  subst q0
                  exact ⟨rfl, rfl, rfl⟩
              · rintro _ _ _ ⟨rfl, rfl, rfl⟩
                refine W.now ?_
                refine Then.n ?_
                refine WP.cond (t := x11409) rfl (fun hb11411 => ?_) (fun hb11411 => ?_)
                · replace H := cnt hb11411 H
                  refine WP.seq ?_
                  refine WP.region ?_
                  refine WPL.q (q_as (v := .lit (.int _ _)) rfl) rfl ?_
                  refine WPL.q (q_as (v := .lit (.int _ _)) rfl) rfl ?_
                  refine WPL.nilW ?_
                  refine W.now ?_
                  refine Then.n ?_
                  refine WP.retW ?_
                  refine W.now ?_
                  refine Then.r ?_
                  have q0 := (Prod.mk.inj (Option.some.inj H)).1
                  have q1 := (Prod.mk.inj (Option.some.inj H)).2
                  subst q0
                  subst q1
                  exact ⟨trivial, _, rfl, [], (.tup [.lit (.int .i32 65533), .lit (.int .i64 1)]), Mem.nil, ⟨rfl, trivial, by decide, rfl, trivial⟩, rfl, rfl, rfl, rfl⟩
                · replace H := cnf hb11411 H
                  refine WP.skipW ?_
                  refine W.now ?_
                  refine Then.n ?_
                  refine WP.seq ?_
                  refine WP.seq ?_
                  refine WP.region ?_
                  refine WPL.q (q_mv (v := .lit (.int _ _)) rfl) rfl ?_
                  obtain ⟨x11419, h11419, H⟩ := bnd H
                  refine WPL.q (q_nm (q_leq rfl rfl) (nm_bool h11419)) rfl ?_
                  refine WPL.nilW ?_
                  refine W.now ?_
                  refine Then.n ?_
                  refine WP.cond (t := x11419) rfl (fun hb11419 => ?_) (fun hb11419 => ?_)
                  · replace H := cnt hb11419 H
                    refine WP.seq ?_
                    refine WP.region ?_
                    refine WPL.q (q_mv (v := .lit (.int _ _)) rfl) rfl ?_
                    refine WPL.q (q_and rfl rfl) rfl ?_
                    obtain ⟨x11421, h11421, H⟩ := bnd H
                    refine WPL.q (q_nm (q_conv Tryd.underlying5 Tryd.underlying21 rfl) (nm_int h11421)) rfl ?_
                    refine WPL.q (q_shl rfl rfl rfl) rfl ?_
                    refine WPL.q (q_mv (v := .lit (.int _ _)) rfl) rfl ?_
                    refine WPL.q (q_and rfl rfl) rfl ?_
                    obtain ⟨x11422, h11422, H⟩ := bnd H
                    refine WPL.q (q_nm (q_conv Tryd.underlying5 Tryd.underlying21 rfl) (nm_int h11422)) rfl ?_
                    refine WPL.q (q_shl rfl rfl rfl) rfl ?_
                    obtain ⟨x11423, h11423, H⟩ := bnd H
                    refine WPL.q (q_nm (q_or rfl rfl) (nm_int h11423)) rfl ?_
                    refine WPL.q (q_mv (v := .lit (.int _ _)) rfl) rfl ?_
                    refine WPL.q (q_and rfl rfl) rfl ?_
                    obtain ⟨x11424, h11424, H⟩ := bnd H
                    refine WPL.q (q_nm (q_conv Tryd.underlying5 Tryd.underlying21 rfl) (nm_int h11424)) rfl ?_
                    refine WPL.q (q_or rfl rfl) rfl ?_
                    refine WPL.q (q_as (v := .lit (.int _ _)) rfl) rfl ?_
                    refine WPL.q (q_as (v := .lit (.int _ _)) rfl) rfl ?_
                    refine WPL.nilW ?_
                    refine W.now ?_
                    refine Then.n ?_
                    refine WP.retW ?_
                    refine W.now ?_
                    refine Then.r ?_
                    have q0 := (Prod.mk.inj (Option.some.inj H)).1
                    have q1 := (Prod.mk.inj (Option.some.inj H)).2
                    subst q0
                    subst q1
                    exact ⟨trivial, _, rfl, [], (.tup [.lit (.int .i32 (bits .or .i32 x11423 x11424)), .lit (.int .i64 3)]), Mem.nil, ⟨rfl, trivial, by decide, rfl, trivial⟩, rfl, rfl, rfl, rfl⟩
                  · replace H := cnf hb11419 H
                    refine WP.skipW ?_
                    refine W.now ?_
                    refine Then.n ?_
                    refine WP.seq ?_
                    refine WP.region ?_
                    refine WPL.q (q_mv (v := .lit (.string _)) rfl) rfl ?_
                    obtain ⟨x11425, h11425, H⟩ := bnd H
                    refine WPL.q (q_index_str Tryd.underlying9 rfl rfl h11425) rfl ?_
                    refine WPL.q (q_as (v := .lit (.int _ _)) rfl) rfl ?_
                    refine WPL.nilW ?_
                    refine W.now ?_
                    refine Then.n ?_
                    refine WP.seq ?_
                    refine WP.seq ?_
                    obtain ⟨x11432, H11433, H⟩ := bnd H
                    refine WP.monoW (Q := fun x E M => x = .normal ∧ E = (((((Env.none.upd 5 (.lit (.int .u8 x11354))).upd 10 (.lit (.int .u8 x11375))).upd 11 (.lit (.int .u8 x11402))).upd 12 (.lit (.int .u8 x11425))).upd 98 (.lit (.bool x11432))) ∧ M = Mem.nil) ?_ ?_
                    · clear H
                      have H := H11433
                      clear H11433
                      refine WP.region ?_
                      refine WPL.q (q_mv (v := .lit (.int _ _)) rfl) rfl ?_
                      refine WPL.q (q_lss rfl rfl) rfl ?_
                      refine WPL.q (q_mv (v := .lit (.bool _)) rfl) rfl ?_
                      refine WPL.split (t := 95) (b := (decide (x11425 < 128))) rfl (fun hb11432 => ?_) (fun hb11432 => ?_)
                      · replace H := cnt hb11432 H
                        refine WPL.skipg (b' := true) rfl rfl (lb hb11432) rfl rfl ?_
                        refine WPL.skipg (b' := true) rfl rfl (lb hb11432) rfl rfl ?_
                        refine WPL.q (q_pickT (v := .lit (.bool _)) (lb hb11432) rfl) rfl ?_
                        refine WPL.nilW ?_
                        refine W.cv (Cv.weak (E' := (((((Env.none.upd 5 (.lit (.int .u8 x11354))).upd 10 (.lit (.int .u8 x11375))).upd 11 (.lit (.int .u8 x11402))).upd 12 (.lit (.int .u8 x11425))).upd 98 (.lit (.bool true)))) (M' := Mem.nil) [] hnp ⟨rfl, trivial, by decide, rfl, trivial⟩ (LeE.upd rfl rfl (LeE.upd rfl rfl (LeE.upd rfl rfl (LeE.upd rfl rfl (LeE.upd rfl rfl (LeE.none rfl rfl))))))) rfl ?_
                        refine W.now ?_
                        have q0 := (Option.some.inj H)
                        subst q0
                        exact ⟨rfl, rfl, rfl⟩
                      · replace H := cnf hb11432 H
                        refine WPL.qg rfl rfl (lb hb11432) (q_mv (v := .lit (.int _ _)) rfl) rfl ?_
                        refine WPL.qg rfl rfl (lb hb11432) (q_lss rfl rfl) rfl ?_
                        refine WPL.q (q_pickF (v := .lit (.bool _)) (lb hb11432) rfl) rfl ?_
                        refine WPL.nilW ?_
                        refine W.cv (Cv.weak (E' := (((((Env.none.upd 5 (.lit (.int .u8 x11354))).upd 10 (.lit (.int .u8 x11375))).upd 11 (.lit (.int .u8 x11402))).upd 12 (.lit (.int .u8 x11425))).upd 98 (.lit (.bool (decide (191 < x11425)))))) (M' := Mem.nil) [] hnp ⟨rfl, trivial, by decide, rfl, trivial⟩ (LeE.upd rfl rfl (LeE.upd rfl rfl (LeE.upd rfl rfl (LeE.upd rfl rfl (LeE.upd rfl rfl (LeE.none rfl rfl))))))) rfl ?_
                        refine W.now ?_
                        have q0 := (Option.some.inj H)
                        subst q0
                        exact ⟨rfl, rfl, rfl⟩
                    · rintro _ _ _ ⟨rfl, rfl, rfl⟩
                      refine W.now ?_
                      refine Then.n ?_
                      refine WP.cond (t := x11432) rfl (fun hb11434 => ?_) (fun hb11434 => ?_)
                      · replace H := cnt hb11434 H
                        refine WP.seq ?_
                        refine WP.region ?_
                        refine WPL.q (q_as (v := .lit (.int _ _)) rfl) rfl ?_
                        refine WPL.q (q_as (v := .lit (.int _ _)) rfl) rfl ?_
                        refine WPL.nilW ?_
                        refine W.now ?_
                        refine Then.n ?_
                        refine WP.retW ?_
                        refine W.now ?_
                        refine Then.r ?_
                        have q0 := (Prod.mk.inj (Option.some.inj H)).1
                        have q1 := (Prod.mk.inj (Option.some.inj H)).2
                        subst q0
                        subst q1
                        exact ⟨trivial, _, rfl, [], (.tup [.lit (.int .i32 65533), .lit (.int .i64 1)]), Mem.nil, ⟨rfl, trivial, by decide, rfl, trivial⟩, rfl, rfl, rfl, rfl⟩
                      · replace H := cnf hb11434 H
                        refine WP.skipW ?_
                        refine W.now ?_
                        refine Then.n ?_
                        refine WP.seq ?_
                        refine WP.region ?_
                        refine WPL.q (q_mv (v := .lit (.int _ _)) rfl) rfl ?_
                        refine WPL.q (q_and rfl rfl) rfl ?_
                        obtain ⟨x11436, h11436, H⟩ := bnd H
                        refine WPL.q (q_nm (q_conv Tryd.underlying5 Tryd.underlying21 rfl) (nm_int h11436)) rfl ?_
                        refine WPL.q (q_shl rfl rfl rfl) rfl ?_
                        refine WPL.q (q_mv (v := .lit (.int _ _)) rfl) rfl ?_
                        refine WPL.q (q_and rfl rfl) rfl ?_
                        obtain ⟨x11437, h11437, H⟩ := bnd H
                        refine WPL.q (q_nm (q_conv Tryd.underlying5 Tryd.underlying21 rfl) (nm_int h11437)) rfl ?_
                        refine WPL.q (q_shl rfl rfl rfl) rfl ?_
                        obtain ⟨x11438, h11438, H⟩ := bnd H
                        refine WPL.q (q_nm (q_or rfl rfl) (nm_int h11438)) rfl ?_
                        refine WPL.q (q_mv (v := .lit (.int _ _)) rfl) rfl ?_
                        refine WPL.q (q_and rfl rfl) rfl ?_
                        obtain ⟨x11439, h11439, H⟩ := bnd H
                        refine WPL.q (q_nm (q_conv Tryd.underlying5 Tryd.underlying21 rfl) (nm_int h11439)) rfl ?_
                        refine WPL.q (q_shl rfl rfl rfl) rfl ?_
                        refine WPL.q (q_or rfl rfl) rfl ?_
                        refine WPL.q (q_mv (v := .lit (.int _ _)) rfl) rfl ?_
                        refine WPL.q (q_and rfl rfl) rfl ?_
                        obtain ⟨x11440, h11440, H⟩ := bnd H
                        refine WPL.q (q_nm (q_conv Tryd.underlying5 Tryd.underlying21 rfl) (nm_int h11440)) rfl ?_
                        obtain ⟨x11441, h11441, H⟩ := bnd H
                        refine WPL.q (q_nm (q_or rfl rfl) (nm_int h11441)) rfl ?_
                        refine WPL.q (q_as (v := .lit (.int _ _)) rfl) rfl ?_
                        refine WPL.q (q_as (v := .lit (.int _ _)) rfl) rfl ?_
                        refine WPL.nilW ?_
                        refine W.now ?_
                        refine Then.n ?_
                        refine WP.retW ?_
                        refine W.now ?_
                        have q0 := (Prod.mk.inj (Option.some.inj H)).1
                        have q1 := (Prod.mk.inj (Option.some.inj H)).2
                        subst q0
                        subst q1
                        exact ⟨trivial, _, rfl, [], (.tup [.lit (.int .i32 x11441), .lit (.int .i64 4)]), Mem.nil, ⟨rfl, trivial, by decide, rfl, trivial⟩, rfl, rfl, rfl, rfl⟩
end Go.Proofs.YtnbjdgamindikaaDoor.W
