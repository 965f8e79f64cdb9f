/- Walks: Fc3 -/
import Derived.Test.YtbknkbenbccabaaFb
import Derived.Test.YtbknkbenbccabaaFc0
import Derived.Test.YtbknkbenbccabaaFc1
import Derived.Test.YtbknkbenbccabaaFc2
namespace Go.Proofs.Ytbknkbenbccabaa.W
open Go Go.Q Go.Proofs
set_option linter.unusedVariables false
set_option linter.unusedSimpArgs false
set_option maxRecDepth 100000 in
set_option maxHeartbeats 4000000 in
theorem s_slices_Clone_byte_byte (k : Nat) (x3757 : List Int) (x3758 : List Int) (H : g_slices_Clone_byte_byte k x3757 = some x3758) : Go.Q.Spec Try.prog 58 0 [.ro (Rd.slice (Rd.int .u8)) true x3757] Mem.nil (fun o M => o = .ret (.ro (Rd.slice (Rd.int .u8)) false x3758) ∧ M = Mem.nil) := by
  unfold g_slices_Clone_byte_byte at H
  obtain ⟨h, H⟩ := grd H
  have q0 := Option.some.inj H
  subst q0
  refine Go.Q.Spec.of_bodyR (rs := [.tmp 2]) (nt := 8) Try.func58 rfl rfl (by intro t T h; simp at h) rfl rfl fun cx hnp => ?_
  refine WP.seq ?_
  refine WP.region ?_
  refine WPL.q (q_as (v := .lit _) rfl) rfl ?_
  refine WPL.nilW ?_
  refine W.now ?_
  refine Then.n ?_
  refine WP.seq ?_
  refine WP.seq ?_
  refine WP.region ?_
  refine WPL.q (q_mv (v := .ro _ _ _) rfl) rfl ?_
  refine WPL.eqlNil Try.underlying22 rfl rfl fun nb hnb => ?_
  refine WPL.nilW ?_
  refine W.now ?_
  refine Then.n ?_
  refine WP.cond (t := nb) rfl (fun hb => ?_) (fun hb => ?_)
  · have h0 := hnb hb
    subst h0
    refine WP.seq ?_
    refine WP.region ?_
    refine WPL.q (q_as (v := .lit _) rfl) rfl ?_
    refine WPL.nilW ?_
    refine W.now ?_
    refine Then.n ?_
    refine WP.retW ?_
    refine W.cv (Cv.nilRo (Rd.int .u8) false 2 rfl) rfl ?_
    refine W.now ?_
    refine Then.r ?_
    exact ⟨trivial, _, rfl, [], (.ro (Rd.slice (Rd.int .u8)) false ([] : List Int)), Mem.nil, ⟨rfl, trivial, by decide, rfl, trivial⟩, rfl, rfl, rfl, rfl⟩
  · refine WP.skipW ?_
    refine W.now ?_
    refine Then.n ?_
    refine WP.seq ?_
    refine WP.region ?_
    refine WPL.d (d_buildSlice (ds := ([] : List Int)) (R := (Rd.int .u8)) li22 rfl rfl rfl rfl rfl JoinRows.nil rfl rfl) rfl ?_
    refine WPL.q (q_mv (v := .ro _ _ _) rfl) rfl ?_
    refine WPL.d (d_append ap22 rfl rfl rfl rfl (src_bor sl22 Rd.flat_sc rfl) h rfl) rfl ?_
    refine WPL.q (q_as (v := .whole _) rfl) rfl ?_
    refine WPL.nilW ?_
    refine W.now ?_
    refine Then.n ?_
    refine WP.retW ?_
    refine W.cv (Cv.frzRow (i := 1) rfl rfl hnp rfl rfl) rfl ?_
    refine W.now ?_
    exact ⟨trivial, _, rfl, [], (.ro (Rd.slice (Rd.int .u8)) false x3757), Mem.nil, ⟨rfl, trivial, by decide, rfl, trivial⟩, rfl, rfl, rfl, rfl⟩
set_option maxRecDepth 100000 in
set_option maxHeartbeats 4000000 in
theorem s_bits_Writer_Done (k : Nat) (x3754 : Int) (x3755 : (List Int)) (x3761 : (List Int)) (H : g_bits_Writer_Done k x3754 x3755 = some x3761) : Go.Q.Spec Try.prog 33 1 [.ptr 0 0] ((Mem.nil.push (.cells 105 [.whole 1, .lit (.int .i64 x3754)])).push (.row 5 (Rd.int .u8) x3755)) (fun o M => o = .ret (.ro (Rd.slice (Rd.int .u8)) false x3761) ∧ M = ((Mem.nil.push (.cells 105 [.whole 1, .lit (.int .i64 x3754)])).push (.row 5 (Rd.int .u8) x3755))) := by
  unfold g_bits_Writer_Done at H
  refine Go.Q.Spec.of_bodyR (rs := [.tmp 2]) (nt := 10) Try.func33 rfl rfl (by intro t T h; simp at h) rfl rfl fun cx hnp => ?_
  refine WP.seq ?_
  refine WP.region ?_
  refine WPL.q (q_as (v := .lit _) rfl) rfl ?_
  refine WPL.nilW ?_
  refine W.now ?_
  refine Then.n ?_
  refine WP.seq ?_
  refine WP.seq ?_
  refine WP.region ?_
  refine WPL.q (q_mv (v := .ptr _ _) rfl) rfl ?_
  refine WPL.q (q_eqlp Try.underlying67 rfl) rfl ?_
  refine WPL.nilW ?_
  refine W.now ?_
  refine Then.n ?_
  refine WP.condF rfl ?_
  refine WP.skipW ?_
  refine W.now ?_
  refine Then.n ?_
  refine WP.seq ?_
  refine WP.region ?_
  refine WPL.q (q_mv (v := .ptr _ _) rfl) rfl ?_
  refine WPL.q (q_nilCheck rfl) rfl ?_
  refine WPL.q (q_fieldAddr fi105_0 rfl rfl) rfl ?_
  refine WPL.q (q_load sc22 rfl rfl rfl) rfl ?_
  obtain ⟨x3763, h3761, H⟩ := bnd H
  refine WPL.c (runs_call (s := []) (t := []) (N := 2) (bor := [1]) fn58 rfl (s_slices_Clone_byte_byte k x3755 x3763 h3761) ⟨rfl, trivial, by decide, rfl, trivial⟩ rfl ⟨trivial, rfl, rfl, trivial⟩ (.row rfl rfl .nil) rfl trivial rfl) rfl ?_
  refine WPL.q (q_as (v := .ro _ _ _) rfl) rfl ?_
  refine WPL.nilW ?_
  refine W.now ?_
  refine Then.n ?_
  refine WP.retW ?_
  refine W.now ?_
  have q0 := (Option.some.inj H)
  subst q0
  exact ⟨trivial, _, rfl, [0, 1], (.ro (Rd.slice (Rd.int .u8)) false x3763), ((Mem.nil.push (.cells 105 [.whole 1, .lit (.int .i64 x3754)])).push (.row 5 (Rd.int .u8) x3755)), ⟨rfl, ⟨⟨trivial, .inr ⟨rfl, rfl, rfl⟩⟩, .inr ⟨rfl, rfl, rfl⟩⟩, by decide, rfl, ⟨trivial, rfl⟩⟩, rfl, rfl, rfl, rfl⟩
set_option maxRecDepth 100000 in
set_option maxHeartbeats 4000000 in
theorem s_deflate_stored (k : Nat) (x2818 : (List Int)) (x3766 : (List Int)) (H : g_deflate_stored k x2818 = some x3766) : Go.Q.Spec Try.prog 20 0 [.ro (Rd.slice (Rd.int .u8)) false x2818] Mem.nil (fun o M => o = .ret (.ro (Rd.slice (Rd.int .u8)) false x3766) ∧ M = Mem.nil) := by
  unfold g_deflate_stored at H
  refine Go.Q.Spec.of_bodyR (rs := [.tmp 2]) (nt := 45) Try.func20 rfl rfl (by intro t T h; simp at h) rfl rfl fun cx hnp => ?_
  refine WP.seq ?_
  refine WP.region ?_
  refine WPL.q (q_as (v := .lit _) rfl) rfl ?_
  refine WPL.nilW ?_
  refine W.now ?_
  refine Then.n ?_
  refine WP.seq ?_
  refine WP.region ?_
  obtain ⟨_, h3766, H⟩ := bnd H
  refine WPL.c (runs_call (s := []) (t := [0]) (N := 1) (bor := []) fn29 rfl (s_bits_NewWriter k h3766) ⟨rfl, trivial, by decide, rfl, trivial⟩ rfl trivial .nil rfl ⟨trivial, rfl⟩ rfl) rfl ?_
  refine WPL.q (q_as (v := .ptr _ _) rfl) rfl ?_
  refine WPL.nilW ?_
  refine W.now ?_
  refine Then.n ?_
  refine WP.seq ?_
  refine WP.seq ?_
  refine WP.region ?_
  refine WPL.q (q_as (v := .lit (.bool _)) rfl) rfl ?_
  refine WPL.nilW ?_
  refine W.now ?_
  refine Then.n ?_
  refine WP.block ?_
  refine WP.cv (Cv.virC 5 (Rd.int .u8) (N := 1) rfl rfl (i := 0) (off := 0) rfl rfl) ?_
  refine WP.cv (Cv.weak (E' := (((Env.none.upd 0 (.ro (Rd.slice (Rd.int .u8)) false x2818)).upd 3 (.ptr 0 0)).upd 4 (.lit (.bool true)))) (M' := ((Mem.nil.push (.cells 105 [.whole 1, .lit (.int .i64 0)])).push (.row 5 (Rd.int .u8) ([] : List Int)))) [0, 1] hnp ⟨rfl, ⟨⟨trivial, .inr ⟨rfl, rfl, rfl⟩⟩, .inr ⟨rfl, rfl, rfl⟩⟩, by decide, rfl, trivial⟩ (LeE.upd rfl rfl (LeE.upd rfl rfl (LeE.upd rfl rfl (LeE.none rfl rfl))))) ?_
  obtain ⟨⟨x3928, x3929⟩, H3989, H⟩ := bnd H
  refine WP.monoW (Q := fun x E M => x = .exit 0 ∧ E = (Env.none.upd 3 (.ptr 0 0)) ∧ M = ((Mem.nil.push (.cells 105 [.whole 1, .lit (.int .i64 x3928)])).push (.row 5 (Rd.int .u8) x3929))) ?_ ?_
  · refine WP.loop (β := (List Int) × Bool × Int × (List Int)) (fun n b => g_deflate_stored_l0 k n b.1 b.2.1 b.2.2.1 b.2.2.2 = some (x3928, x3929)) (fun b => (((Env.none.upd 0 (.ro (Rd.slice (Rd.int .u8)) false b.1)).upd 3 (.ptr 0 0)).upd 4 (.lit (.bool b.2.1)))) (fun b => ((Mem.nil.push (.cells 105 [.whole 1, .lit (.int .i64 b.2.2.1)])).push (.row 5 (Rd.int .u8) b.2.2.2))) k (x2818, true, 0, ([] : List Int)) H3989 rfl rfl ?_
    rintro n ⟨x3864, x3865, x3866, x3867⟩ H
    obtain _ | n := n
    · exact nf rfl H
    rw [g_deflate_stored_l0.eq_2] at H
    show WP _ _ _ _ (((Env.none.upd 0 (.ro (Rd.slice (Rd.int .u8)) false x3864)).upd 3 (.ptr 0 0)).upd 4 (.lit (.bool x3865))) ((Mem.nil.push (.cells 105 [.whole 1, .lit (.int .i64 x3866)])).push (.row 5 (Rd.int .u8) x3867)) _
    refine WP.seq ?_
    refine WP.seq ?_
    obtain ⟨x3938, H3940, H⟩ := bnd H
    refine WP.monoW (Q := fun x E M => x = .normal ∧ E = (((Env.none.upd 0 (.ro (Rd.slice (Rd.int .u8)) false x3864)).upd 3 (.ptr 0 0)).upd 13 (.lit (.bool x3938))) ∧ M = ((Mem.nil.push (.cells 105 [.whole 1, .lit (.int .i64 x3866)])).push (.row 5 (Rd.int .u8) x3867))) ?_ ?_
    · clear H
      have H := H3940
      clear H3940
      refine WP.region ?_
      refine WPL.q (q_mv (v := .lit (.bool _)) rfl) rfl ?_
      refine WPL.q (q_mv (v := .lit (.bool _)) rfl) rfl ?_
      refine WPL.split (t := 9) (b := x3865) rfl (fun hb3938 => ?_) (fun hb3938 => ?_)
      · replace H := cnt hb3938 H
        refine WPL.skipg (b' := true) rfl rfl (lb hb3938) rfl rfl ?_
        refine WPL.skipg (b' := true) rfl rfl (lb hb3938) rfl rfl ?_
        refine WPL.skipg (b' := true) rfl rfl (lb hb3938) rfl rfl ?_
        refine WPL.q (q_pickT (v := .lit (.bool _)) (lb hb3938) rfl) rfl ?_
        refine WPL.nilW ?_
        refine W.cv (Cv.weak (E' := (((Env.none.upd 0 (.ro (Rd.slice (Rd.int .u8)) false x3864)).upd 3 (.ptr 0 0)).upd 13 (.lit (.bool true)))) (M' := ((Mem.nil.push (.cells 105 [.whole 1, .lit (.int .i64 x3866)])).push (.row 5 (Rd.int .u8) x3867))) [0, 1] hnp ⟨rfl, ⟨⟨trivial, .inr ⟨rfl, rfl, rfl⟩⟩, .inr ⟨rfl, rfl, rfl⟩⟩, by decide, rfl, trivial⟩ (LeE.upd rfl rfl (LeE.upd rfl rfl (LeE.upd rfl rfl (LeE.none rfl rfl))))) rfl ?_
        refine W.now ?_
        have q0 := (Option.some.inj H)
        subst q0
        exact ⟨rfl, rfl, rfl⟩
      · replace H := cnf hb3938 H
        refine WPL.qg rfl rfl (lb hb3938) (q_mv (v := .ro _ _ _) rfl) rfl ?_
        refine WPL.qg rfl rfl (lb hb3938) (q_len_ro sl22 rfl) rfl ?_
        obtain ⟨x3940, h3940, H⟩ := bnd H
        refine WPL.qg rfl rfl (lb hb3938) (q_nm (q_gtr rfl rfl) (nm_bool h3940)) rfl ?_
        refine WPL.q (q_pickF (v := .lit (.bool _)) (lb hb3938) rfl) rfl ?_
        refine WPL.nilW ?_
        refine W.cv (Cv.weak (E' := (((Env.none.upd 0 (.ro (Rd.slice (Rd.int .u8)) false x3864)).upd 3 (.ptr 0 0)).upd 13 (.lit (.bool x3940)))) (M' := ((Mem.nil.push (.cells 105 [.whole 1, .lit (.int .i64 x3866)])).push (.row 5 (Rd.int .u8) x3867))) [0, 1] hnp ⟨rfl, ⟨⟨trivial, .inr ⟨rfl, rfl, rfl⟩⟩, .inr ⟨rfl, rfl, rfl⟩⟩, by decide, rfl, trivial⟩ (LeE.upd rfl rfl (LeE.upd rfl rfl (LeE.upd rfl rfl (LeE.none rfl rfl))))) rfl ?_
        refine W.now ?_
        have q0 := (Option.some.inj H)
        subst q0
        exact ⟨rfl, rfl, rfl⟩
    · rintro _ _ _ ⟨rfl, rfl, rfl⟩
      refine W.now ?_
      refine Then.n ?_
      refine WP.cond (t := x3938) rfl (fun hb => ?_) (fun hb => ?_)
      · replace H := cnt hb H
        refine WP.skipW ?_
        refine W.now ?_
        refine Then.n ?_
        refine WP.seq ?_
        refine WP.block ?_
        refine WP.seq ?_
        refine WP.region ?_
        refine WPL.q (q_mv (v := .ro _ _ _) rfl) rfl ?_
        refine WPL.q (q_len_ro sl22 rfl) rfl ?_
        obtain ⟨x3966, h3966, H⟩ := bnd H
        refine WPL.q (q_nm (q_min rfl rfl) (nm_int h3966)) rfl ?_
        refine WPL.q (q_as (v := .lit (.int _ _)) rfl) rfl ?_
        refine WPL.nilW ?_
        refine W.now ?_
        refine Then.n ?_
        refine WP.seq ?_
        refine WP.region ?_
        refine WPL.q (q_as (v := .lit (.int _ _)) rfl) rfl ?_
        refine WPL.nilW ?_
        refine W.now ?_
        refine Then.n ?_
        refine WP.seq ?_
        obtain ⟨x3968, H3969, H⟩ := bnd H
        refine WP.monoW (Q := fun x E M => x = .normal ∧ E = ((((Env.none.upd 0 (.ro (Rd.slice (Rd.int .u8)) false x3864)).upd 3 (.ptr 0 0)).upd 5 (.lit (.int .i64 x3966))).upd 6 (.lit (.int .u32 x3968))) ∧ M = ((Mem.nil.push (.cells 105 [.whole 1, .lit (.int .i64 x3866)])).push (.row 5 (Rd.int .u8) x3867))) ?_ ?_
        · clear H
          have H := H3969
          clear H3969
          refine WP.seq ?_
          refine WP.region ?_
          refine WPL.q (q_mv (v := .lit (.int _ _)) rfl) rfl ?_
          refine WPL.q (q_mv (v := .ro _ _ _) rfl) rfl ?_
          refine WPL.q (q_len_ro sl22 rfl) rfl ?_
          obtain ⟨x3969, h3969, H⟩ := bnd H
          refine WPL.q (q_nm (q_eql rfl rfl) (nm_bool h3969)) rfl ?_
          refine WPL.nilW ?_
          refine W.now ?_
          refine Then.n ?_
          refine WP.cond (t := x3969) rfl (fun hb => ?_) (fun hb => ?_)
          · replace H := cnt hb H
            refine WP.region ?_
            refine WPL.q (q_as (v := .lit (.int _ _)) rfl) rfl ?_
            refine WPL.nilW ?_
            refine W.cv (Cv.weak (E' := ((((Env.none.upd 0 (.ro (Rd.slice (Rd.int .u8)) false x3864)).upd 3 (.ptr 0 0)).upd 5 (.lit (.int .i64 x3966))).upd 6 (.lit (.int .u32 1)))) (M' := ((Mem.nil.push (.cells 105 [.whole 1, .lit (.int .i64 x3866)])).push (.row 5 (Rd.int .u8) x3867))) [0, 1] hnp ⟨rfl, ⟨⟨trivial, .inr ⟨rfl, rfl, rfl⟩⟩, .inr ⟨rfl, rfl, rfl⟩⟩, by decide, rfl, trivial⟩ (LeE.upd rfl rfl (LeE.upd rfl rfl (LeE.upd rfl rfl (LeE.upd rfl rfl (LeE.none rfl rfl)))))) rfl ?_
            refine W.now ?_
            have q0 := (Option.some.inj H)
            subst q0
            exact ⟨rfl, rfl, rfl⟩
          · replace H := cnf hb H
            refine WP.skipW ?_
            refine W.cv (Cv.weak (E' := ((((Env.none.upd 0 (.ro (Rd.slice (Rd.int .u8)) false x3864)).upd 3 (.ptr 0 0)).upd 5 (.lit (.int .i64 x3966))).upd 6 (.lit (.int .u32 0)))) (M' := ((Mem.nil.push (.cells 105 [.whole 1, .lit (.int .i64 x3866)])).push (.row 5 (Rd.int .u8) x3867))) [0, 1] hnp ⟨rfl, ⟨⟨trivial, .inr ⟨rfl, rfl, rfl⟩⟩, .inr ⟨rfl, rfl, rfl⟩⟩, by decide, rfl, trivial⟩ (LeE.upd rfl rfl (LeE.upd rfl rfl (LeE.upd rfl rfl (LeE.upd rfl rfl (LeE.none rfl rfl)))))) rfl ?_
            refine W.now ?_
            have q0 := (Option.some.inj H)
            subst q0
            exact ⟨rfl, rfl, rfl⟩
        · rintro _ _ _ ⟨rfl, rfl, rfl⟩
          refine W.now ?_
          refine Then.n ?_
          refine WP.seq ?_
          refine WP.region ?_
          refine WPL.q (q_mv (v := .ptr _ _) rfl) rfl ?_
          refine WPL.q (q_mv (v := .lit (.int _ _)) rfl) rfl ?_
          obtain ⟨⟨x3972, x3973, x3974⟩, h3970, H⟩ := bnd H
          refine WPL.c (runs_call (s := [0, 1]) (t := [0, 2]) (N := 3) (bor := []) fn30 rfl (s_bits_Writer_Put__b k x3968 3 x3866 x3867 x3972 x3973 x3974 h3970) ⟨rfl, ⟨⟨trivial, .inr ⟨rfl, rfl, rfl⟩⟩, .inr ⟨rfl, rfl, rfl⟩⟩, by decide, rfl, trivial⟩ rfl trivial (.ren rfl rfl (.ren rfl rfl (.ren rfl rfl .nil))) rfl ⟨⟨trivial, rfl⟩, rfl⟩ rfl) rfl ?_
          refine WPL.nilW ?_
          refine W.now ?_
          refine Then.n ?_
          refine WP.seq ?_
          refine WP.region ?_
          refine WPL.q (q_mv (v := .ptr _ _) rfl) rfl ?_
          obtain ⟨x3976, h3974, H⟩ := bnd H
          refine WPL.c (runs_call (s := [0, 2]) (t := [0, 3]) (N := 4) (bor := []) fn31 rfl (s_bits_Writer_Align k x3973 x3974 x3976 h3974) ⟨rfl, ⟨⟨trivial, .inr ⟨rfl, rfl, rfl⟩⟩, .inr ⟨rfl, rfl, rfl⟩⟩, by decide, rfl, trivial⟩ rfl trivial (.ren rfl rfl .nil) rfl ⟨⟨trivial, rfl⟩, rfl⟩ rfl) rfl ?_
          refine WPL.nilW ?_
          refine W.now ?_
          refine Then.n ?_
          refine WP.seq ?_
          refine WP.region ?_
          refine WPL.q (q_mv (v := .ptr _ _) rfl) rfl ?_
          refine WPL.q (q_mv (v := .lit (.int _ _)) rfl) rfl ?_
          refine WPL.q (q_conv Try.underlying3 Try.underlying57 rfl) rfl ?_
          obtain ⟨⟨x3978, x3979, x3980⟩, h3976, H⟩ := bnd H
          refine WPL.c (runs_call (s := [0, 3]) (t := [0, 4]) (N := 5) (bor := []) fn30 rfl (s_bits_Writer_Put__b k (IntKind.wrap .u32 x3966) 16 x3976 x3974 x3978 x3979 x3980 h3976) ⟨rfl, ⟨⟨trivial, .inr ⟨rfl, rfl, rfl⟩⟩, .inr ⟨rfl, rfl, rfl⟩⟩, by decide, rfl, trivial⟩ rfl trivial (.ren rfl rfl (.ren rfl rfl (.ren rfl rfl .nil))) rfl ⟨⟨trivial, rfl⟩, rfl⟩ rfl) rfl ?_
          refine WPL.nilW ?_
          refine W.now ?_
          refine Then.n ?_
          refine WP.seq ?_
          refine WP.region ?_
          refine WPL.q (q_mv (v := .ptr _ _) rfl) rfl ?_
          refine WPL.q (q_mv (v := .lit (.int _ _)) rfl) rfl ?_
          refine WPL.q (q_conv Try.underlying3 Try.underlying57 rfl) rfl ?_
          obtain ⟨x3981, h3981, H⟩ := bnd H
          refine WPL.q (q_nm (q_com rfl) (nm_int h3981)) rfl ?_
          obtain ⟨⟨x3983, x3984, x3985⟩, h3981, H⟩ := bnd H
          refine WPL.c (runs_call (s := [0, 4]) (t := [0, 5]) (N := 6) (bor := []) fn30 rfl (s_bits_Writer_Put__b k x3981 16 x3979 x3980 x3983 x3984 x3985 h3981) ⟨rfl, ⟨⟨trivial, .inr ⟨rfl, rfl, rfl⟩⟩, .inr ⟨rfl, rfl, rfl⟩⟩, by decide, rfl, trivial⟩ rfl trivial (.ren rfl rfl (.ren rfl rfl (.ren rfl rfl .nil))) rfl ⟨⟨trivial, rfl⟩, rfl⟩ rfl) rfl ?_
          refine WPL.nilW ?_
          refine W.now ?_
          refine Then.n ?_
          refine WP.seq ?_
          refine WP.region ?_
          refine WPL.q (q_mv (v := .ptr _ _) rfl) rfl ?_
          refine WPL.q (q_mv (v := .ro _ _ _) rfl) rfl ?_
          refine WPL.q (q_mv (v := .lit (.int _ _)) rfl) rfl ?_
          obtain ⟨h3985, H⟩ := grd H
          refine WPL.q (q_slice_ro (i := 0) (j := x3966) sl22 rfl rfl rfl ⟨_, rfl⟩ h3985) rfl ?_
          obtain ⟨x3988, h3986, H⟩ := bnd H
          refine WPL.c (runs_call (s := [0, 5]) (t := [0, 6]) (N := 7) (bor := []) fn32 rfl (s_bits_Writer_Bytes k (List.drop (Int.toNat 0) (List.take (Int.toNat x3966) x3864)) x3984 x3985 x3988 h3986) ⟨rfl, ⟨⟨trivial, .inr ⟨rfl, rfl, rfl⟩⟩, .inr ⟨rfl, rfl, rfl⟩⟩, by decide, rfl, trivial⟩ rfl trivial (.ren rfl rfl (.ren rfl rfl .nil)) rfl ⟨⟨trivial, rfl⟩, rfl⟩ rfl) rfl ?_
          refine WPL.nilW ?_
          refine W.now ?_
          refine Then.n ?_
          refine WP.region ?_
          refine WPL.q (q_mv (v := .ro _ _ _) rfl) rfl ?_
          refine WPL.q (q_mv (v := .lit (.int _ _)) rfl) rfl ?_
          obtain ⟨h3988, H⟩ := grd H
          refine WPL.q (q_slice_ro (i := x3966) (j := ((List.length x3864 : Nat) : Int)) sl22 rfl rfl ⟨_, rfl⟩ rfl h3988) rfl ?_
          refine WPL.q (q_as (v := .ro _ _ _) rfl) rfl ?_
          refine WPL.nilW ?_
          refine W.now ?_
          refine InBlock.n ?_
          refine Then.n ?_
          refine WP.region ?_
          refine WPL.q (q_as (v := .lit (.bool _)) rfl) rfl ?_
          refine WPL.nilW ?_
          refine W.cv (Cv.weak (E' := (((Env.none.upd 0 (.ro (Rd.slice (Rd.int .u8)) false (List.drop (Int.toNat x3966) (List.take (Int.toNat ((List.length x3864 : Nat) : Int)) x3864)))).upd 3 (.ptr 0 0)).upd 4 (.lit (.bool false)))) (M' := ((Mem.nil.push (.cells 105 [.whole 1, .lit (.int .i64 x3988)])).push (.row 5 (Rd.int .u8) (x3985 ++ (List.drop (Int.toNat 0) (List.take (Int.toNat x3966) x3864)))))) [0, 6] hnp ⟨rfl, ⟨⟨trivial, .inr ⟨rfl, rfl, rfl⟩⟩, .inr ⟨rfl, rfl, rfl⟩⟩, by decide, rfl, trivial⟩ (LeE.upd rfl rfl (LeE.upd rfl rfl (LeE.upd rfl rfl (LeE.none rfl rfl))))) rfl ?_
          refine W.now ?_
          exact Then.n ⟨n, ((List.drop (Int.toNat x3966) (List.take (Int.toNat ((List.length x3864 : Nat) : Int)) x3864)), false, x3988, (x3985 ++ (List.drop (Int.toNat 0) (List.take (Int.toNat x3966) x3864)))), Nat.lt_succ_self n, H, rfl, rfl⟩
      · replace H := cnf hb H
        refine WP.exitW ?_
        refine W.cv (Cv.weak (E' := (Env.none.upd 3 (.ptr 0 0))) (M' := ((Mem.nil.push (.cells 105 [.whole 1, .lit (.int .i64 x3866)])).push (.row 5 (Rd.int .u8) x3867))) [0, 1] hnp ⟨rfl, ⟨⟨trivial, .inr ⟨rfl, rfl, rfl⟩⟩, .inr ⟨rfl, rfl, rfl⟩⟩, by decide, rfl, trivial⟩ (LeE.upd rfl rfl (LeE.none rfl rfl))) rfl ?_
        refine W.now ?_
        refine Then.x ?_
        refine Then.x ?_
        have q0 := (Prod.mk.inj (Option.some.inj H)).1
        have q1 := (Prod.mk.inj (Option.some.inj H)).2
        subst q0
        subst q1
        exact ⟨rfl, rfl, rfl⟩
  · rintro _ _ _ ⟨rfl, rfl, rfl⟩
    refine W.now ?_
    refine InBlock.x0 ?_
    refine Then.n ?_
    refine WP.seq ?_
    refine WP.region ?_
    refine WPL.q (q_mv (v := .ptr _ _) rfl) rfl ?_
    obtain ⟨x3992, h3990, H⟩ := bnd H
    refine WPL.c (runs_call (s := [0, 1]) (t := [0, 2]) (N := 3) (bor := []) fn33 rfl (s_bits_Writer_Done k x3928 x3929 x3992 h3990) ⟨rfl, ⟨⟨trivial, .inr ⟨rfl, rfl, rfl⟩⟩, .inr ⟨rfl, rfl, rfl⟩⟩, by decide, rfl, trivial⟩ rfl trivial (.ren rfl rfl .nil) rfl ⟨⟨trivial, rfl⟩, rfl⟩ rfl) rfl ?_
    refine WPL.q (q_as (v := .ro _ _ _) rfl) rfl ?_
    refine WPL.nilW ?_
    refine W.now ?_
    refine Then.n ?_
    refine WP.retW ?_
    refine W.now ?_
    have q0 := (Option.some.inj H)
    subst q0
    exact ⟨trivial, _, rfl, [], (.ro (Rd.slice (Rd.int .u8)) false x3992), Mem.nil, ⟨rfl, trivial, by decide, rfl, trivial⟩, rfl, rfl, rfl, rfl⟩
set_option maxRecDepth 100000 in
set_option maxHeartbeats 4000000 in
theorem s_deflate_Deflate (k : Nat) (x2805 : (List Int)) (x2806 : Int) (x3995 : (List Int)) (x3996 : Int) (H : g_deflate_Deflate k x2805 x2806 = some (x3995, x3996)) : Go.Q.Spec Try.prog 9 0 [.ro (Rd.slice (Rd.int .u8)) false x2805, .lit (.int .i64 x2806)] Mem.nil (fun o M => o = .ret (.tup [.ro (Rd.slice (Rd.int .u8)) false x3995, .lit (.int .i64 x3996)]) ∧ M = Mem.nil) := by
  unfold g_deflate_Deflate at H
  refine Go.Q.Spec.of_bodyR (rs := [.tmp 4, .tmp 5]) (nt := 49) Try.func9 rfl rfl (by intro t T h; simp at h) rfl rfl fun cx hnp => ?_
  refine WP.seq ?_
  refine WP.region ?_
  refine WPL.q (q_as (v := .lit _) rfl) rfl ?_
  refine WPL.q (q_as (v := .lit (.int _ _)) rfl) rfl ?_
  refine WPL.nilW ?_
  refine W.now ?_
  refine Then.n ?_
  refine WP.seq ?_
  refine WP.seq ?_
  obtain ⟨x4002, H4003, H⟩ := bnd H
  refine WP.monoW (Q := fun x E M => x = .normal ∧ E = (((Env.none.upd 0 (.ro (Rd.slice (Rd.int .u8)) false x2805)).upd 1 (.lit (.int .i64 x2806))).upd 15 (.lit (.bool x4002))) ∧ M = Mem.nil) ?_ ?_
  · clear H
    have H := H4003
    clear H4003
    refine WP.region ?_
    refine WPL.q (q_mv (v := .lit (.int _ _)) rfl) rfl ?_
    refine WPL.q (q_lss rfl rfl) rfl ?_
    refine WPL.q (q_mv (v := .lit (.bool _)) rfl) rfl ?_
    refine WPL.split (t := 12) (b := (decide (x2806 < 0))) rfl (fun hb4002 => ?_) (fun hb4002 => ?_)
    · replace H := cnt hb4002 H
      refine WPL.skipg (b' := true) rfl rfl (lb hb4002) rfl rfl ?_
      refine WPL.skipg (b' := true) rfl rfl (lb hb4002) rfl rfl ?_
      refine WPL.q (q_pickT (v := .lit (.bool _)) (lb hb4002) rfl) rfl ?_
      refine WPL.nilW ?_
      refine W.cv (Cv.weak (E' := (((Env.none.upd 0 (.ro (Rd.slice (Rd.int .u8)) false x2805)).upd 1 (.lit (.int .i64 x2806))).upd 15 (.lit (.bool true)))) (M' := Mem.nil) [] hnp ⟨rfl, trivial, by decide, rfl, trivial⟩ (LeE.upd rfl rfl (LeE.upd rfl rfl (LeE.upd rfl rfl (LeE.none rfl rfl))))) rfl ?_
      refine W.now ?_
      have q0 := (Option.some.inj H)
      subst q0
      exact ⟨rfl, rfl, rfl⟩
    · replace H := cnf hb4002 H
      refine WPL.qg rfl rfl (lb hb4002) (q_mv (v := .lit (.int _ _)) rfl) rfl ?_
      refine WPL.qg rfl rfl (lb hb4002) (q_gtr rfl rfl) rfl ?_
      refine WPL.q (q_pickF (v := .lit (.bool _)) (lb hb4002) rfl) rfl ?_
      refine WPL.nilW ?_
      refine W.cv (Cv.weak (E' := (((Env.none.upd 0 (.ro (Rd.slice (Rd.int .u8)) false x2805)).upd 1 (.lit (.int .i64 x2806))).upd 15 (.lit (.bool (decide (2 < x2806)))))) (M' := Mem.nil) [] hnp ⟨rfl, trivial, by decide, rfl, trivial⟩ (LeE.upd rfl rfl (LeE.upd rfl rfl (LeE.upd rfl rfl (LeE.none rfl rfl))))) rfl ?_
      refine W.now ?_
      have q0 := (Option.some.inj H)
      subst q0
      exact ⟨rfl, rfl, rfl⟩
  · rintro _ _ _ ⟨rfl, rfl, rfl⟩
    refine W.now ?_
    refine Then.n ?_
    refine WP.cond (t := x4002) rfl (fun hb => ?_) (fun hb => ?_)
    · replace H := cnt hb H
      refine WP.seq ?_
      refine WP.region ?_
      refine WPL.q (q_as (v := .lit _) rfl) rfl ?_
      refine WPL.q (q_as (v := .lit (.int _ _)) rfl) rfl ?_
      refine WPL.nilW ?_
      refine W.now ?_
      refine Then.n ?_
      refine WP.retW ?_
      refine W.cv (Cv.nilRo (Rd.int .u8) false 4 rfl) rfl ?_
      refine W.now ?_
      refine Then.r ?_
      have q0 := (Prod.mk.inj (Option.some.inj H)).1
      have q1 := (Prod.mk.inj (Option.some.inj H)).2
      subst q0
      subst q1
      exact ⟨trivial, _, rfl, [], (.tup [.ro (Rd.slice (Rd.int .u8)) false ([] : List Int), .lit (.int .i64 1)]), Mem.nil, ⟨rfl, trivial, by decide, rfl, trivial⟩, rfl, rfl, rfl, rfl⟩
    · replace H := cnf hb H
      refine WP.skipW ?_
      refine W.now ?_
      refine Then.n ?_
      refine WP.seq ?_
      refine WP.seq ?_
      refine WP.region ?_
      refine WPL.q (q_mv (v := .ro _ _ _) rfl) rfl ?_
      refine WPL.q (q_len_ro sl22 rfl) rfl ?_
      obtain ⟨x4006, h4006, H⟩ := bnd H
      refine WPL.q (q_nm (q_gtr rfl rfl) (nm_bool h4006)) rfl ?_
      refine WPL.nilW ?_
      refine W.now ?_
      refine Then.n ?_
      refine WP.cond (t := x4006) rfl (fun hb => ?_) (fun hb => ?_)
      · replace H := cnt hb H
        refine WP.seq ?_
        refine WP.region ?_
        refine WPL.q (q_as (v := .lit _) rfl) rfl ?_
        refine WPL.q (q_as (v := .lit (.int _ _)) rfl) rfl ?_
        refine WPL.nilW ?_
        refine W.now ?_
        refine Then.n ?_
        refine WP.retW ?_
        refine W.cv (Cv.nilRo (Rd.int .u8) false 4 rfl) rfl ?_
        refine W.now ?_
        refine Then.r ?_
        have q0 := (Prod.mk.inj (Option.some.inj H)).1
        have q1 := (Prod.mk.inj (Option.some.inj H)).2
        subst q0
        subst q1
        exact ⟨trivial, _, rfl, [], (.tup [.ro (Rd.slice (Rd.int .u8)) false ([] : List Int), .lit (.int .i64 3)]), Mem.nil, ⟨rfl, trivial, by decide, rfl, trivial⟩, rfl, rfl, rfl, rfl⟩
      · replace H := cnf hb H
        refine WP.skipW ?_
        refine W.now ?_
        refine Then.n ?_
        refine WP.seq ?_
        refine WP.region ?_
        refine WPL.q (q_mv (v := .ro _ _ _) rfl) rfl ?_
        obtain ⟨x4008, h4006, H⟩ := bnd H
        refine WPL.c (runs_call (s := []) (t := []) (N := 0) (bor := []) fn20 rfl (s_deflate_stored k x2805 x4008 h4006) ⟨rfl, trivial, by decide, rfl, trivial⟩ rfl trivial (.ren rfl rfl .nil) rfl trivial rfl) rfl ?_
        refine WPL.q (q_as (v := .ro _ _ _) rfl) rfl ?_
        refine WPL.nilW ?_
        refine W.now ?_
        refine Then.n ?_
        refine WP.seq ?_
        refine WP.seq ?_
        refine WP.region ?_
        refine WPL.q (q_mv (v := .lit (.int _ _)) rfl) rfl ?_
        refine WPL.q (q_eql rfl rfl) rfl ?_
        refine WPL.nilW ?_
        refine W.now ?_
        refine Then.n ?_
        refine WP.cond (t := (decide (x2806 = 0))) rfl (fun hb => ?_) (fun hb => ?_)
        · replace H := cnt hb H
          refine WP.seq ?_
          refine WP.region ?_
          refine WPL.q (q_mv (v := .ro _ _ _) rfl) rfl ?_
          refine WPL.q (q_as (v := .ro _ _ _) rfl) rfl ?_
          refine WPL.q (q_as (v := .lit (.int _ _)) rfl) rfl ?_
          refine WPL.nilW ?_
          refine W.now ?_
          refine Then.n ?_
          refine WP.retW ?_
          refine W.now ?_
          refine Then.r ?_
          have q0 := (Prod.mk.inj (Option.some.inj H)).1
          have q1 := (Prod.mk.inj (Option.some.inj H)).2
          subst q0
          subst q1
          exact ⟨trivial, _, rfl, [], (.tup [.ro (Rd.slice (Rd.int .u8)) false x4008, .lit (.int .i64 0)]), Mem.nil, ⟨rfl, trivial, by decide, rfl, trivial⟩, rfl, rfl, rfl, rfl⟩
        · replace H := cnf hb H
          refine WP.skipW ?_
          refine W.now ?_
          refine Then.n ?_
          refine WP.seq ?_
          refine WP.region ?_
          refine WPL.q (q_mv (v := .ro _ _ _) rfl) rfl ?_
          exact nf rfl H
set_option maxRecDepth 100000 in
set_option maxHeartbeats 4000000 in
theorem s_quirelaw01_Same (k : Nat) (x4013 : (List Int)) (x4014 : (List Int)) (x4017 : Bool) (H : g_quirelaw01_Same k x4013 x4014 = some x4017) : Go.Q.Spec Try.prog 12 0 [.ro (Rd.slice (Rd.int .u8)) false x4013, .ro (Rd.slice (Rd.int .u8)) true x4014] Mem.nil (fun o M => o = .ret (.lit (.bool x4017)) ∧ M = Mem.nil) := by
  unfold g_quirelaw01_Same at H
  refine Go.Q.Spec.of_bodyR (rs := [.tmp 4]) (nt := 10) Try.func12 rfl rfl (by intro t T h; simp at h) rfl rfl fun cx hnp => ?_
  refine WP.seq ?_
  refine WP.region ?_
  refine WPL.q (q_as (v := .lit (.bool _)) rfl) rfl ?_
  refine WPL.nilW ?_
  refine W.now ?_
  refine Then.n ?_
  refine WP.seq ?_
  refine WP.region ?_
  refine WPL.q (q_mv (v := .ro _ _ _) rfl) rfl ?_
  refine WPL.q (q_bytes_str Try.underlying22 Try.underlying5 Try.underlying9 rfl) rfl ?_
  refine WPL.q (q_mv (v := .ro _ _ _) rfl) rfl ?_
  refine WPL.q (q_bytes_str Try.underlying22 Try.underlying5 Try.underlying9 rfl) rfl ?_
  obtain ⟨x4018, h4018, H⟩ := bnd H
  refine WPL.q (q_nm (q_eqls rfl rfl) (nm_bool h4018)) rfl ?_
  refine WPL.q (q_as (v := .lit (.bool _)) rfl) rfl ?_
  refine WPL.nilW ?_
  refine W.now ?_
  refine Then.n ?_
  refine WP.retW ?_
  refine W.now ?_
  have q0 := (Option.some.inj H)
  subst q0
  exact ⟨trivial, _, rfl, [], (.lit (.bool x4018)), Mem.nil, ⟨rfl, trivial, by decide, rfl, trivial⟩, rfl, rfl, rfl, rfl⟩
set_option maxRecDepth 100000 in
set_option maxHeartbeats 4000000 in
theorem s_quirelaw04_alive (k : Nat) (x4026 : Bool) (H : g_quirelaw04_alive k = some x4026) : Go.Q.Spec Try.prog 10 0 [] Mem.nil (fun o M => o = .ret (.lit (.bool x4026)) ∧ M = Mem.nil) := by
  unfold g_quirelaw04_alive at H
  refine Go.Q.Spec.of_bodyR (rs := [.tmp 0]) (nt := 16) Try.func10 rfl rfl (by intro t T h; simp at h) rfl rfl fun cx hnp => ?_
  refine WP.seq ?_
  refine WP.region ?_
  refine WPL.q (q_as (v := .lit (.bool _)) rfl) rfl ?_
  refine WPL.nilW ?_
  refine W.now ?_
  refine Then.n ?_
  refine WP.seq ?_
  refine WP.region ?_
  refine WPL.d (d_buildSlice (ds := ([97] : List Int)) (R := (Rd.int .u8)) li22 rfl rfl rfl rfl rfl (JoinRows.cons1 Joins.sc rfl JoinRows.nil) rfl rfl) rfl ?_
  refine WPL.bytesConst Try.underlying22 Try.underlying5 rfl rfl rfl (fun _ _ _ => rfl) hnp rfl rfl rfl ?_
  obtain ⟨⟨x4028, x4029⟩, h4026, H⟩ := bnd H
  refine WPL.c (runs_call (s := []) (t := []) (N := 1) (bor := []) fn9 rfl (s_deflate_Deflate k ([97] : List Int) 0 x4028 x4029 h4026) ⟨rfl, trivial, by decide, rfl, trivial⟩ rfl trivial (.ren rfl rfl (.ren rfl rfl .nil)) rfl trivial rfl) rfl ?_
  refine WPL.q (q_mv (v := .tup _) rfl) rfl ?_
  refine WPL.q (q_extract rfl rfl) rfl ?_
  refine WPL.q (q_extract rfl rfl) rfl ?_
  refine WPL.q (q_as (v := .ro _ _ _) rfl) rfl ?_
  refine WPL.q (q_as (v := .lit (.int _ _)) rfl) rfl ?_
  refine WPL.nilW ?_
  refine W.now ?_
  refine Then.n ?_
  refine WP.seq ?_
  obtain ⟨x4033, H4036, H⟩ := bnd H
  refine WP.monoW (Q := fun x E M => x = .normal ∧ E = (Env.none.upd 0 (.lit (.bool x4033))) ∧ M = Mem.nil) ?_ ?_
  · clear H
    have H := H4036
    clear H4036
    refine WP.region ?_
    refine WPL.q (q_mv (v := .lit (.int _ _)) rfl) rfl ?_
    refine WPL.q (q_eql rfl rfl) rfl ?_
    refine WPL.q (q_mv (v := .lit (.bool _)) rfl) rfl ?_
    refine WPL.split (t := 11) (b := (decide (x4029 = 0))) rfl (fun hb4033 => ?_) (fun hb4033 => ?_)
    · replace H := cnt hb4033 H
      refine WPL.qg rfl rfl (lb hb4033) (q_mv (v := .ro _ _ _) rfl) rfl ?_
      refine WPL.dg rfl rfl (lb hb4033) (d_buildSlice (ds := ([1, 1, 0, 254, 255, 97] : List Int)) (R := (Rd.int .u8)) li22 rfl rfl rfl rfl rfl (JoinRows.cons1 Joins.sc rfl (JoinRows.cons1 Joins.sc rfl (JoinRows.cons1 Joins.sc rfl (JoinRows.cons1 Joins.sc rfl (JoinRows.cons1 Joins.sc rfl (JoinRows.cons1 Joins.sc rfl JoinRows.nil)))))) rfl rfl) rfl ?_
      obtain ⟨x4036, h4034, H⟩ := bnd H
      refine WPL.cg rfl rfl (lb hb4033) (runs_call (s := []) (t := []) (N := 2) (bor := [1]) fn12 rfl (s_quirelaw01_Same k x4028 ([1, 1, 0, 254, 255, 97] : List Int) x4036 h4034) ⟨rfl, trivial, by decide, rfl, trivial⟩ rfl ⟨trivial, rfl, rfl, trivial⟩ (.ren rfl rfl (.row rfl rfl .nil)) rfl trivial rfl) rfl ?_
      refine WPL.q (q_pickT (v := .lit (.bool _)) (lb hb4033) rfl) rfl ?_
      refine WPL.q (q_as (v := .lit (.bool _)) rfl) rfl ?_
      refine WPL.nilW ?_
      refine W.cv (Cv.weak (E' := (Env.none.upd 0 (.lit (.bool x4036)))) (M' := Mem.nil) [] hnp ⟨rfl, trivial, by decide, rfl, trivial⟩ (LeE.upd rfl rfl (LeE.none rfl rfl))) rfl ?_
      refine W.now ?_
      have q0 := (Option.some.inj H)
      subst q0
      exact ⟨rfl, rfl, rfl⟩
    · replace H := cnf hb4033 H
      refine WPL.skipg (b' := false) rfl rfl (lb hb4033) rfl rfl ?_
      refine WPL.skipg (b' := false) rfl rfl (lb hb4033) rfl rfl ?_
      refine WPL.skipg (b' := false) rfl rfl (lb hb4033) rfl rfl ?_
      refine WPL.q (q_pickF (v := .lit (.bool _)) (lb hb4033) rfl) rfl ?_
      refine WPL.q (q_as (v := .lit (.bool _)) rfl) rfl ?_
      refine WPL.nilW ?_
      refine W.cv (Cv.weak (E' := (Env.none.upd 0 (.lit (.bool false)))) (M' := Mem.nil) [] hnp ⟨rfl, trivial, by decide, rfl, trivial⟩ (LeE.upd rfl rfl (LeE.none rfl rfl))) rfl ?_
      refine W.now ?_
      have q0 := (Option.some.inj H)
      subst q0
      exact ⟨rfl, rfl, rfl⟩
  · rintro _ _ _ ⟨rfl, rfl, rfl⟩
    refine W.now ?_
    refine Then.n ?_
    refine WP.retW ?_
    refine W.now ?_
    have q0 := (Option.some.inj H)
    subst q0
    exact ⟨trivial, _, rfl, [], (.lit (.bool x4033)), Mem.nil, ⟨rfl, trivial, by decide, rfl, trivial⟩, rfl, rfl, rfl, rfl⟩
set_option maxRecDepth 100000 in
set_option maxHeartbeats 4000000 in
theorem s_quirelaw04_DeflateRow (k : Nat) (x2 : (List Int)) (x4114 : Bool) (H : g_quirelaw04_DeflateRow k x2 = some x4114) : Go.Q.Spec Try.prog 6 0 [.ro (Rd.slice (Rd.int .i64)) false x2] Mem.nil (fun o M => o = .ret (.lit (.bool x4114)) ∧ M = Mem.nil) := by
  unfold g_quirelaw04_DeflateRow at H
  refine Go.Q.Spec.of_bodyR (rs := [.tmp 2]) (nt := 55) Try.func6 rfl rfl (by intro t T h; simp at h) rfl rfl fun cx hnp => ?_
  refine WP.seq ?_
  refine WP.region ?_
  refine WPL.q (q_as (v := .lit (.bool _)) rfl) rfl ?_
  refine WPL.nilW ?_
  refine W.now ?_
  refine Then.n ?_
  refine WP.seq ?_
  refine WP.region ?_
  refine WPL.q (q_mv (v := .ro _ _ _) rfl) rfl ?_
  obtain ⟨⟨x4116, x4117⟩, h4114, H⟩ := bnd H
  refine WPL.c (runs_call (s := []) (t := []) (N := 0) (bor := []) fn15 rfl (s_deflate_Lengths k x2 x4116 x4117 h4114) ⟨rfl, trivial, by decide, rfl, trivial⟩ rfl trivial (.ren rfl rfl .nil) rfl trivial rfl) rfl ?_
  refine WPL.q (q_mv (v := .tup _) rfl) rfl ?_
  refine WPL.q (q_extract rfl rfl) rfl ?_
  refine WPL.q (q_extract rfl rfl) rfl ?_
  refine WPL.q (q_as (v := .ro _ _ _) rfl) rfl ?_
  refine WPL.q (q_as (v := .ro _ _ _) rfl) rfl ?_
  refine WPL.nilW ?_
  refine W.now ?_
  refine Then.n ?_
  refine WP.seq ?_
  refine WP.region ?_
  refine WPL.q (q_mv (v := .ro _ _ _) rfl) rfl ?_
  refine WPL.q (q_mv (v := .ro _ _ _) rfl) rfl ?_
  obtain ⟨⟨x4119, x4120⟩, h4117, H⟩ := bnd H
  refine WPL.c (runs_call (s := []) (t := []) (N := 0) (bor := []) fn16 rfl (s_quireref04_Row k x4116 x4117 x4119 x4120 h4117) ⟨rfl, trivial, by decide, rfl, trivial⟩ rfl trivial (.ren rfl rfl (.ren rfl rfl .nil)) rfl trivial rfl) rfl ?_
  refine WPL.q (q_mv (v := .tup _) rfl) rfl ?_
  refine WPL.q (q_extract rfl rfl) rfl ?_
  refine WPL.q (q_extract rfl rfl) rfl ?_
  refine WPL.q (q_as (v := .ro _ _ _) rfl) rfl ?_
  refine WPL.q (q_as (v := .lit (.bool _)) rfl) rfl ?_
  refine WPL.nilW ?_
  refine W.now ?_
  refine Then.n ?_
  refine WP.seq ?_
  refine WP.seq ?_
  obtain ⟨x4138, H4143, H⟩ := bnd H
  refine WP.monoW (Q := fun x E M => x = .normal ∧ E = (((Env.none.upd 0 (.ro (Rd.slice (Rd.int .i64)) false x2)).upd 5 (.ro (Rd.slice (Rd.int .i64)) false x4119)).upd 32 (.lit (.bool x4138))) ∧ M = Mem.nil) ?_ ?_
  · clear H
    have H := H4143
    clear H4143
    refine WP.region ?_
    refine WPL.q (q_mv (v := .lit (.bool _)) rfl) rfl ?_
    refine WPL.q (q_not rfl) rfl ?_
    refine WPL.q (q_mv (v := .lit (.bool _)) rfl) rfl ?_
    refine WPL.split (t := 22) (b := (!x4120)) rfl (fun hb4138 => ?_) (fun hb4138 => ?_)
    · replace H := cnt hb4138 H
      refine WPL.skipg (b' := true) rfl rfl (lb hb4138) rfl rfl ?_
      refine WPL.skipg (b' := true) rfl rfl (lb hb4138) rfl rfl ?_
      refine WPL.skipg (b' := true) rfl rfl (lb hb4138) rfl rfl ?_
      refine WPL.skipg (b' := true) rfl rfl (lb hb4138) rfl rfl ?_
      refine WPL.skipg (b' := true) rfl rfl (lb hb4138) rfl rfl ?_
      refine WPL.q (q_pickT (v := .lit (.bool _)) (lb hb4138) rfl) rfl ?_
      refine WPL.q (q_mv (v := .lit (.bool _)) rfl) rfl ?_
      refine WPL.skipg (b' := true) rfl rfl rfl rfl rfl ?_
      refine WPL.skipg (b' := true) rfl rfl rfl rfl rfl ?_
      refine WPL.q (q_pickT (v := .lit (.bool _)) rfl rfl) rfl ?_
      refine WPL.nilW ?_
      refine W.cv (Cv.weak (E' := (((Env.none.upd 0 (.ro (Rd.slice (Rd.int .i64)) false x2)).upd 5 (.ro (Rd.slice (Rd.int .i64)) false x4119)).upd 32 (.lit (.bool true)))) (M' := Mem.nil) [] hnp ⟨rfl, trivial, by decide, rfl, trivial⟩ (LeE.upd rfl rfl (LeE.upd rfl rfl (LeE.upd rfl rfl (LeE.none rfl rfl))))) rfl ?_
      refine W.now ?_
      have q0 := (Option.some.inj H)
      subst q0
      exact ⟨rfl, rfl, rfl⟩
    · replace H := cnf hb4138 H
      refine WPL.qg rfl rfl (lb hb4138) (q_mv (v := .ro _ _ _) rfl) rfl ?_
      refine WPL.qg rfl rfl (lb hb4138) (q_len_ro sl32 rfl) rfl ?_
      refine WPL.qg rfl rfl (lb hb4138) (q_mv (v := .ro _ _ _) rfl) rfl ?_
      refine WPL.qg rfl rfl (lb hb4138) (q_len_ro sl32 rfl) rfl ?_
      obtain ⟨x4140, h4140, H⟩ := bnd H
      refine WPL.qg rfl rfl (lb hb4138) (q_nm (q_neq rfl rfl) (nm_bool h4140)) rfl ?_
      refine WPL.q (q_pickF (v := .lit (.bool _)) (lb hb4138) rfl) rfl ?_
      refine WPL.q (q_mv (v := .lit (.bool _)) rfl) rfl ?_
      refine WPL.split (t := 29) (b := x4140) rfl (fun hb4140 => ?_) (fun hb4140 => ?_)
      · replace H := cnt hb4140 H
        refine WPL.skipg (b' := true) rfl rfl (lb hb4140) rfl rfl ?_
        refine WPL.skipg (b' := true) rfl rfl (lb hb4140) rfl rfl ?_
        refine WPL.q (q_pickT (v := .lit (.bool _)) (lb hb4140) rfl) rfl ?_
        refine WPL.nilW ?_
        refine W.cv (Cv.weak (E' := (((Env.none.upd 0 (.ro (Rd.slice (Rd.int .i64)) false x2)).upd 5 (.ro (Rd.slice (Rd.int .i64)) false x4119)).upd 32 (.lit (.bool true)))) (M' := Mem.nil) [] hnp ⟨rfl, trivial, by decide, rfl, trivial⟩ (LeE.upd rfl rfl (LeE.upd rfl rfl (LeE.upd rfl rfl (LeE.none rfl rfl))))) rfl ?_
        refine W.now ?_
        have q0 := (Option.some.inj H)
        subst q0
        exact ⟨rfl, rfl, rfl⟩
      · replace H := cnf hb4140 H
        obtain ⟨x4143, h4141, H⟩ := bnd H
        refine WPL.cg rfl rfl (lb hb4140) (runs_call (s := []) (t := []) (N := 0) (bor := []) fn10 rfl (s_quirelaw04_alive k x4143 h4141) ⟨rfl, trivial, by decide, rfl, trivial⟩ rfl trivial .nil rfl trivial rfl) rfl ?_
        refine WPL.qg rfl rfl (lb hb4140) (q_not rfl) rfl ?_
        refine WPL.q (q_pickF (v := .lit (.bool _)) (lb hb4140) rfl) rfl ?_
        refine WPL.nilW ?_
        refine W.cv (Cv.weak (E' := (((Env.none.upd 0 (.ro (Rd.slice (Rd.int .i64)) false x2)).upd 5 (.ro (Rd.slice (Rd.int .i64)) false x4119)).upd 32 (.lit (.bool (!x4143))))) (M' := Mem.nil) [] hnp ⟨rfl, trivial, by decide, rfl, trivial⟩ (LeE.upd rfl rfl (LeE.upd rfl rfl (LeE.upd rfl rfl (LeE.none rfl rfl))))) rfl ?_
        refine W.now ?_
        have q0 := (Option.some.inj H)
        subst q0
        exact ⟨rfl, rfl, rfl⟩
  · rintro _ _ _ ⟨rfl, rfl, rfl⟩
    refine W.now ?_
    refine Then.n ?_
    refine WP.cond (t := x4138) rfl (fun hb => ?_) (fun hb => ?_)
    · replace H := cnt hb H
      refine WP.seq ?_
      refine WP.region ?_
      refine WPL.q (q_as (v := .lit (.bool _)) rfl) rfl ?_
      refine WPL.nilW ?_
      refine W.now ?_
      refine Then.n ?_
      refine WP.retW ?_
      refine W.now ?_
      refine Then.r ?_
      have q0 := (Option.some.inj H)
      subst q0
      exact ⟨trivial, _, rfl, [], (.lit (.bool false)), Mem.nil, ⟨rfl, trivial, by decide, rfl, trivial⟩, rfl, rfl, rfl, rfl⟩
    · replace H := cnf hb H
      refine WP.skipW ?_
      refine W.now ?_
      refine Then.n ?_
      refine WP.seq ?_
      refine WP.seq ?_
      refine WP.region ?_
      refine WPL.q (q_as (v := .lit (.int _ _)) rfl) rfl ?_
      refine WPL.nilW ?_
      refine W.now ?_
      refine Then.n ?_
      refine WP.block ?_
      refine WP.cv (Cv.weak (E' := (((Env.none.upd 0 (.ro (Rd.slice (Rd.int .i64)) false x2)).upd 5 (.ro (Rd.slice (Rd.int .i64)) false x4119)).upd 7 (.lit (.int .i64 0)))) (M' := Mem.nil) [] hnp ⟨rfl, trivial, by decide, rfl, trivial⟩ (LeE.upd rfl rfl (LeE.upd rfl rfl (LeE.upd rfl rfl (LeE.none rfl rfl))))) ?_
      obtain ⟨y4225, H4223, H⟩ := bnd H
      refine WP.monoW (Q := fun x E M => match (generalizing := false) y4225 with | (Sum.inl _) => x = .ret ∧ E = (Env.none.upd 2 (.lit (.bool false))) ∧ M = Mem.nil | (Sum.inr _) => x = .exit 0 ∧ E = Env.none ∧ M = Mem.nil) ?_ ?_
      · refine WP.loop (β := Int) (fun n b => g_quirelaw04_DeflateRow_l0 k x2 x4119 n b = some y4225) (fun b => (((Env.none.upd 0 (.ro (Rd.slice (Rd.int .i64)) false x2)).upd 5 (.ro (Rd.slice (Rd.int .i64)) false x4119)).upd 7 (.lit (.int .i64 b)))) (fun b => Mem.nil) k 0 H4223 rfl rfl ?_
        rintro n x4171 H
        obtain _ | n := n
        · exact nf rfl H
        rw [g_quirelaw04_DeflateRow_l0.eq_2] at H
        show WP _ _ _ _ (((Env.none.upd 0 (.ro (Rd.slice (Rd.int .i64)) false x2)).upd 5 (.ro (Rd.slice (Rd.int .i64)) false x4119)).upd 7 (.lit (.int .i64 x4171))) Mem.nil _
        refine WP.seq ?_
        refine WP.seq ?_
        refine WP.region ?_
        refine WPL.q (q_mv (v := .lit (.int _ _)) rfl) rfl ?_
        refine WPL.q (q_mv (v := .ro _ _ _) rfl) rfl ?_
        refine WPL.q (q_len_ro sl32 rfl) rfl ?_
        obtain ⟨x4199, h4199, H⟩ := bnd H
        refine WPL.q (q_nm (q_lss rfl rfl) (nm_bool h4199)) rfl ?_
        refine WPL.nilW ?_
        refine W.now ?_
        refine Then.n ?_
        refine WP.cond (t := x4199) rfl (fun hb => ?_) (fun hb => ?_)
        · replace H := cnt hb H
          refine WP.skipW ?_
          refine W.now ?_
          refine Then.n ?_
          refine WP.seq ?_
          refine WP.block ?_
          refine WP.seq ?_
          refine WP.region ?_
          refine WPL.q (q_mv (v := .ro _ _ _) rfl) rfl ?_
          refine WPL.q (q_mv (v := .lit (.int _ _)) rfl) rfl ?_
          obtain ⟨x4212, h4212, H⟩ := bnd H
          refine WPL.q (q_index_ro sl32 rfl rfl rfl h4212) rfl ?_
          refine WPL.q (q_load_sc sc3 rfl) rfl ?_
          refine WPL.q (q_as (v := .lit (.int _ _)) rfl) rfl ?_
          refine WPL.nilW ?_
          refine W.now ?_
          refine Then.n ?_
          refine WP.seq ?_
          obtain ⟨x4217, H4221, H⟩ := bnd H
          refine WP.monoW (Q := fun x E M => x = .normal ∧ E = ((((Env.none.upd 0 (.ro (Rd.slice (Rd.int .i64)) false x2)).upd 5 (.ro (Rd.slice (Rd.int .i64)) false x4119)).upd 7 (.lit (.int .i64 x4171))).upd 8 (.lit (.int .i64 x4217))) ∧ M = Mem.nil) ?_ ?_
          · clear H
            have H := H4221
            clear H4221
            refine WP.seq ?_
            obtain ⟨x4219, H4220, H⟩ := bnd H
            refine WP.monoW (Q := fun x E M => x = .normal ∧ E = (((((Env.none.upd 0 (.ro (Rd.slice (Rd.int .i64)) false x2)).upd 5 (.ro (Rd.slice (Rd.int .i64)) false x4119)).upd 7 (.lit (.int .i64 x4171))).upd 8 (.lit (.int .i64 x4212))).upd 48 (.lit (.bool x4219))) ∧ M = Mem.nil) ?_ ?_
            · clear H
              have H := H4220
              clear H4220
              refine WP.region ?_
              refine WPL.q (q_mv (v := .lit (.int _ _)) rfl) rfl ?_
              refine WPL.q (q_lss rfl rfl) rfl ?_
              refine WPL.q (q_mv (v := .lit (.bool _)) rfl) rfl ?_
              refine WPL.split (t := 45) (b := (decide (x4212 < 0))) rfl (fun hb4219 => ?_) (fun hb4219 => ?_)
              · replace H := cnt hb4219 H
                refine WPL.skipg (b' := true) rfl rfl (lb hb4219) rfl rfl ?_
                refine WPL.skipg (b' := true) rfl rfl (lb hb4219) rfl rfl ?_
                refine WPL.q (q_pickT (v := .lit (.bool _)) (lb hb4219) rfl) rfl ?_
                refine WPL.nilW ?_
                refine W.cv (Cv.weak (E' := (((((Env.none.upd 0 (.ro (Rd.slice (Rd.int .i64)) false x2)).upd 5 (.ro (Rd.slice (Rd.int .i64)) false x4119)).upd 7 (.lit (.int .i64 x4171))).upd 8 (.lit (.int .i64 x4212))).upd 48 (.lit (.bool true)))) (M' := Mem.nil) [] hnp ⟨rfl, trivial, by decide, rfl, trivial⟩ (LeE.upd rfl rfl (LeE.upd rfl rfl (LeE.upd rfl rfl (LeE.upd rfl rfl (LeE.upd rfl rfl (LeE.none rfl rfl))))))) rfl ?_
                refine W.now ?_
                have q0 := (Option.some.inj H)
                subst q0
                exact ⟨rfl, rfl, rfl⟩
              · replace H := cnf hb4219 H
                refine WPL.qg rfl rfl (lb hb4219) (q_mv (v := .lit (.int _ _)) rfl) rfl ?_
                refine WPL.qg rfl rfl (lb hb4219) (q_gtr rfl rfl) rfl ?_
                refine WPL.q (q_pickF (v := .lit (.bool _)) (lb hb4219) rfl) rfl ?_
                refine WPL.nilW ?_
                refine W.cv (Cv.weak (E' := (((((Env.none.upd 0 (.ro (Rd.slice (Rd.int .i64)) false x2)).upd 5 (.ro (Rd.slice (Rd.int .i64)) false x4119)).upd 7 (.lit (.int .i64 x4171))).upd 8 (.lit (.int .i64 x4212))).upd 48 (.lit (.bool (decide (15 < x4212)))))) (M' := Mem.nil) [] hnp ⟨rfl, trivial, by decide, rfl, trivial⟩ (LeE.upd rfl rfl (LeE.upd rfl rfl (LeE.upd rfl rfl (LeE.upd rfl rfl (LeE.upd rfl rfl (LeE.none rfl rfl))))))) rfl ?_
                refine W.now ?_
                have q0 := (Option.some.inj H)
                subst q0
                exact ⟨rfl, rfl, rfl⟩
            · rintro _ _ _ ⟨rfl, rfl, rfl⟩
              refine W.now ?_
              refine Then.n ?_
              refine WP.cond (t := x4219) rfl (fun hb => ?_) (fun hb => ?_)
              · replace H := cnt hb H
                refine WP.region ?_
                refine WPL.q (q_as (v := .lit (.int _ _)) rfl) rfl ?_
                refine WPL.nilW ?_
                refine W.cv (Cv.weak (E' := ((((Env.none.upd 0 (.ro (Rd.slice (Rd.int .i64)) false x2)).upd 5 (.ro (Rd.slice (Rd.int .i64)) false x4119)).upd 7 (.lit (.int .i64 x4171))).upd 8 (.lit (.int .i64 0)))) (M' := Mem.nil) [] hnp ⟨rfl, trivial, by decide, rfl, trivial⟩ (LeE.upd rfl rfl (LeE.upd rfl rfl (LeE.upd rfl rfl (LeE.upd rfl rfl (LeE.none rfl rfl)))))) rfl ?_
                refine W.now ?_
                have q0 := (Option.some.inj H)
                subst q0
                exact ⟨rfl, rfl, rfl⟩
              · replace H := cnf hb H
                refine WP.skipW ?_
                refine W.cv (Cv.weak (E' := ((((Env.none.upd 0 (.ro (Rd.slice (Rd.int .i64)) false x2)).upd 5 (.ro (Rd.slice (Rd.int .i64)) false x4119)).upd 7 (.lit (.int .i64 x4171))).upd 8 (.lit (.int .i64 x4212)))) (M' := Mem.nil) [] hnp ⟨rfl, trivial, by decide, rfl, trivial⟩ (LeE.upd rfl rfl (LeE.upd rfl rfl (LeE.upd rfl rfl (LeE.upd rfl rfl (LeE.none rfl rfl)))))) rfl ?_
                refine W.now ?_
                have q0 := (Option.some.inj H)
                subst q0
                exact ⟨rfl, rfl, rfl⟩
          · rintro _ _ _ ⟨rfl, rfl, rfl⟩
            refine W.now ?_
            refine Then.n ?_
            refine WP.seq ?_
            refine WP.region ?_
            refine WPL.q (q_mv (v := .ro _ _ _) rfl) rfl ?_
            refine WPL.q (q_mv (v := .lit (.int _ _)) rfl) rfl ?_
            obtain ⟨x4223, h4223, H⟩ := bnd H
            refine WPL.q (q_index_ro sl32 rfl rfl rfl h4223) rfl ?_
            refine WPL.q (q_load_sc sc3 rfl) rfl ?_
            refine WPL.q (q_mv (v := .lit (.int _ _)) rfl) rfl ?_
            refine WPL.q (q_neq rfl rfl) rfl ?_
            refine WPL.nilW ?_
            refine W.now ?_
            refine Then.n ?_
            refine WP.cond (t := (!decide (x4223 = x4217))) rfl (fun hb => ?_) (fun hb => ?_)
            · replace H := cnt hb H
              refine WP.seq ?_
              refine WP.region ?_
              refine WPL.q (q_as (v := .lit (.bool _)) rfl) rfl ?_
              refine WPL.nilW ?_
              refine W.now ?_
              refine Then.n ?_
              refine WP.retW ?_
              refine W.cv (Cv.weak (E' := (Env.none.upd 2 (.lit (.bool false)))) (M' := Mem.nil) [] hnp ⟨rfl, trivial, by decide, rfl, trivial⟩ (LeE.upd rfl rfl (LeE.none rfl rfl))) rfl ?_
              refine W.now ?_
              refine InBlock.r ?_
              refine Then.r ?_
              refine Then.r ?_
              have q0 := Option.some.inj H
              subst q0
              exact ⟨rfl, rfl, rfl⟩
            · replace H := cnf hb H
              refine WP.skipW ?_
              refine W.now ?_
              refine InBlock.n ?_
              refine Then.n ?_
              refine WP.region ?_
              refine WPL.q (q_mv (v := .lit (.int _ _)) rfl) rfl ?_
              refine WPL.q (q_add rfl rfl) rfl ?_
              refine WPL.q (q_as (v := .lit (.int _ _)) rfl) rfl ?_
              refine WPL.nilW ?_
              refine W.cv (Cv.weak (E' := (((Env.none.upd 0 (.ro (Rd.slice (Rd.int .i64)) false x2)).upd 5 (.ro (Rd.slice (Rd.int .i64)) false x4119)).upd 7 (.lit (.int .i64 (IntKind.wrap .i64 (x4171 + 1)))))) (M' := Mem.nil) [] hnp ⟨rfl, trivial, by decide, rfl, trivial⟩ (LeE.upd rfl rfl (LeE.upd rfl rfl (LeE.upd rfl rfl (LeE.none rfl rfl))))) rfl ?_
              refine W.now ?_
              exact Then.n ⟨n, (IntKind.wrap .i64 (x4171 + 1)), Nat.lt_succ_self n, H, rfl, rfl⟩
        · replace H := cnf hb H
          refine WP.exitW ?_
          refine W.cv (Cv.weak (E' := Env.none) (M' := Mem.nil) [] hnp ⟨rfl, trivial, by decide, rfl, trivial⟩ (LeE.none rfl rfl)) rfl ?_
          refine W.now ?_
          refine Then.x ?_
          refine Then.x ?_
          have q0 := Option.some.inj H
          subst q0
          exact ⟨rfl, rfl, rfl⟩
      · rcases y4225 with _ | _
        · rintro _ _ _ ⟨rfl, rfl, rfl⟩
          refine W.now ?_
          refine InBlock.r ?_
          refine Then.r ?_
          have q0 := (Option.some.inj H)
          subst q0
          exact ⟨trivial, _, rfl, [], (.lit (.bool false)), Mem.nil, ⟨rfl, trivial, by decide, rfl, trivial⟩, rfl, rfl, rfl, rfl⟩
        · rintro _ _ _ ⟨rfl, rfl, rfl⟩
          refine W.now ?_
          refine InBlock.x0 ?_
          refine Then.n ?_
          refine WP.seq ?_
          refine WP.region ?_
          refine WPL.q (q_as (v := .lit (.bool _)) rfl) rfl ?_
          refine WPL.nilW ?_
          refine W.now ?_
          refine Then.n ?_
          refine WP.retW ?_
          refine W.now ?_
          have q0 := (Option.some.inj H)
          subst q0
          exact ⟨trivial, _, rfl, [], (.lit (.bool true)), Mem.nil, ⟨rfl, trivial, by decide, rfl, trivial⟩, rfl, rfl, rfl, rfl⟩
end Go.Proofs.Ytbknkbenbccabaa.W
