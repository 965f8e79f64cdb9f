/- Walks: Fc3 -/
import Derived.Test.YticbhcccdfcogaaFb
import Derived.Test.YticbhcccdfcogaaFc2
namespace Go.Proofs.Yticbhcccdfcogaa.W
open Go Go.Q Go.Proofs
set_option linter.unusedVariables false
set_option linter.unusedSimpArgs false
set_option maxRecDepth 100000 in
set_option maxHeartbeats 4000000 in
theorem s31 (k : Nat) (x2958 : (List Int)) (x2959 : Int) (x2962 : Int) (H : f31 k x2958 x2959 = some x2962) : Go.Q.Spec Try.prog 31 1 [.ptr 0 0] (Mem.nil.push (.cells 50 [.ro (Rd.slice (Rd.int .u8)) false x2958, .lit (.int .i64 x2959)])) (fun o M => o = .ret (.lit (.int .i64 x2962)) ∧ M = (Mem.nil.push (.cells 50 [.ro (Rd.slice (Rd.int .u8)) false x2958, .lit (.int .i64 x2959)]))) := by
  unfold f31 at H
  refine Go.Q.Spec.of_bodyR (rs := [.tmp 2]) (nt := 14) Try.func31 rfl rfl (by intro t T h; simp at h) rfl rfl fun cx hnp => ?_
  refine WP.seq ?_
  refine WP.region ?_
  refine WPL.q (q_as (v := .lit (.int _ _)) rfl) rfl ?_
  refine WPL.nilW ?_
  refine W.now ?_
  refine Then.n ?_
  refine WP.seq ?_
  refine WP.regionD' 12 [0] [] mixed rfl ?_
  refine WPD.take 0 rfl (by kernel_rfl) (q_mv (v := .ptr _ _) rfl) rfl rfl ?_
  refine WPD.take 1 rfl (by kernel_rfl) (q_nilCheck rfl) rfl rfl ?_
  refine WPD.take 2 rfl (by kernel_rfl) (q_fieldAddr fi50_0 rfl rfl) rfl rfl ?_
  refine WPD.take 3 rfl (by kernel_rfl) (q_load sc23 rfl rfl rfl) rfl rfl ?_
  refine WPD.take 4 rfl (by kernel_rfl) (q_len_ro sl23 rfl) rfl rfl ?_
  obtain ⟨x2964, h2964, H⟩ := bnd H
  refine WPD.take 5 rfl (by kernel_rfl) (q_nm (q_mul rfl rfl) (nm_int h2964)) rfl rfl ?_
  refine WPD.take 6 rfl (by kernel_rfl) (q_mv (v := .ptr _ _) rfl) rfl rfl ?_
  refine WPD.take 7 rfl (by kernel_rfl) (q_nilCheck rfl) rfl rfl ?_
  refine WPD.take 8 rfl (by kernel_rfl) (q_fieldAddr fi50_1 rfl rfl) rfl rfl ?_
  refine WPD.take 9 rfl (by kernel_rfl) (q_load sc3 rfl rfl rfl) rfl rfl ?_
  refine WPD.take 10 rfl (by kernel_rfl) (q_sub rfl rfl) rfl rfl ?_
  refine WPD.take 11 rfl (by kernel_rfl) (q_as (v := .lit (.int _ _)) rfl) rfl rfl ?_
  refine WPD.doneW (by kernel_rfl) ?_
  refine W.now ?_
  refine Then.n ?_
  refine WP.retW ?_
  refine W.now ?_
  have q0 := (Option.some.inj H)
  subst q0
  exact ⟨trivial, _, rfl, [0], (.lit (.int .i64 (IntKind.wrap .i64 (x2964 - x2959)))), (Mem.nil.push (.cells 50 [.ro (Rd.slice (Rd.int .u8)) false x2958, .lit (.int .i64 x2959)])), ⟨rfl, ⟨trivial, .inr ⟨rfl, rfl, rfl⟩⟩, by decide, rfl, ⟨trivial, rfl⟩⟩, rfl, rfl, rfl, rfl⟩
set_option maxRecDepth 100000 in
set_option maxHeartbeats 4000000 in
theorem s35 (k : Nat) (x2969 : Int) (x2970 : (List Int)) (x2971 : Int) (x2975 : Int) (H : f35 k x2969 x2970 x2971 = some x2975) : Go.Q.Spec Try.prog 35 1 [.ptr 0 0, .lit (.int .i64 x2969)] (Mem.nil.push (.cells 50 [.ro (Rd.slice (Rd.int .u8)) false x2970, .lit (.int .i64 x2971)])) (fun o M => o = .ret (.lit (.int .u32 x2975)) ∧ M = (Mem.nil.push (.cells 50 [.ro (Rd.slice (Rd.int .u8)) false x2970, .lit (.int .i64 x2971)]))) := by
  unfold f35 at H
  refine Go.Q.Spec.of_bodyR (rs := [.tmp 4]) (nt := 19) Try.func35 rfl rfl (by intro t T h; simp at h) rfl rfl fun cx hnp => ?_
  refine WP.seq ?_
  refine WP.region ?_
  refine WPL.q (q_as (v := .lit (.int _ _)) rfl) rfl ?_
  refine WPL.nilW ?_
  refine W.now ?_
  refine Then.n ?_
  refine WP.seq ?_
  refine WP.region ?_
  refine WPL.q (q_mv (v := .ptr _ _) rfl) rfl ?_
  refine WPL.q (q_nilCheck rfl) rfl ?_
  refine WPL.q (q_fieldAddr fi50_0 rfl rfl) rfl ?_
  refine WPL.q (q_load sc23 rfl rfl rfl) rfl ?_
  refine WPL.q (q_mv (v := .lit (.int _ _)) rfl) rfl ?_
  refine WPL.q (q_quo rfl rfl rfl) rfl ?_
  obtain ⟨x2976, h2976, H⟩ := bnd H
  refine WPL.q (q_index_ro sl23 rfl rfl rfl h2976) rfl ?_
  refine WPL.q (q_load_sc sc5 rfl) rfl ?_
  refine WPL.q (q_mv (v := .lit (.int _ _)) rfl) rfl ?_
  refine WPL.q (q_rem rfl rfl rfl) rfl ?_
  refine WPL.q (q_conv Try.underlying3 Try.underlying40 rfl) rfl ?_
  obtain ⟨h2976, H⟩ := grd H
  obtain ⟨x2978, h2978, H⟩ := bnd H
  refine WPL.q (q_nm (q_shr rfl rfl h2976) (nm_int h2978)) rfl ?_
  refine WPL.q (q_conv Try.underlying5 Try.underlying22 rfl) rfl ?_
  refine WPL.q (q_and rfl rfl) rfl ?_
  refine WPL.q (q_as (v := .lit (.int _ _)) rfl) rfl ?_
  refine WPL.nilW ?_
  refine W.now ?_
  refine Then.n ?_
  refine WP.retW ?_
  refine W.now ?_
  have q0 := (Option.some.inj H)
  subst q0
  exact ⟨trivial, _, rfl, [0], (.lit (.int .u32 (bits .and .u32 (IntKind.wrap .u32 x2978) 1))), (Mem.nil.push (.cells 50 [.ro (Rd.slice (Rd.int .u8)) false x2970, .lit (.int .i64 x2971)])), ⟨rfl, ⟨trivial, .inr ⟨rfl, rfl, rfl⟩⟩, by decide, rfl, ⟨trivial, rfl⟩⟩, rfl, rfl, rfl, rfl⟩
set_option maxRecDepth 100000 in
set_option maxHeartbeats 4000000 in
theorem s26 (k : Nat) (x2947 : Int) (x2948 : (List Int)) (x2949 : Int) (x2991 : Int) (x2992 : Int) (x2993 : Int) (H : f26 k x2947 x2948 x2949 = some (x2991, x2992, x2993)) : Go.Q.Spec Try.prog 26 1 [.ptr 0 0, .lit (.int .i64 x2947)] (Mem.nil.push (.cells 50 [.ro (Rd.slice (Rd.int .u8)) false x2948, .lit (.int .i64 x2949)])) (fun o M => o = .ret (.tup [.lit (.int .u32 x2991), .lit (.int .i64 x2992)]) ∧ M = (Mem.nil.push (.cells 50 [.ro (Rd.slice (Rd.int .u8)) false x2948, .lit (.int .i64 x2993)]))) := by
  unfold f26 at H
  refine Go.Q.Spec.of_bodyR (rs := [.tmp 4, .tmp 5]) (nt := 46) Try.func26 rfl rfl (by intro t T h; simp at h) rfl rfl fun cx hnp => ?_
  refine WP.seq ?_
  refine WP.region ?_
  refine WPL.q (q_as (v := .lit (.int _ _)) rfl) rfl ?_
  refine WPL.q (q_as (v := .lit (.int _ _)) rfl) rfl ?_
  refine WPL.nilW ?_
  refine W.now ?_
  refine Then.n ?_
  refine WP.seq ?_
  refine WP.seq ?_
  obtain ⟨x2999, H3000, H⟩ := bnd H
  refine WP.monoW (Q := fun x E M => x = .normal ∧ E = (((Env.none.upd 0 (.ptr 0 0)).upd 1 (.lit (.int .i64 x2947))).upd 13 (.lit (.bool x2999))) ∧ M = (Mem.nil.push (.cells 50 [.ro (Rd.slice (Rd.int .u8)) false x2948, .lit (.int .i64 x2949)]))) ?_ ?_
  · clear H
    have H := H3000
    clear H3000
    refine WP.region ?_
    refine WPL.q (q_mv (v := .lit (.int _ _)) rfl) rfl ?_
    refine WPL.q (q_lss rfl rfl) rfl ?_
    refine WPL.q (q_mv (v := .lit (.bool _)) rfl) rfl ?_
    refine WPL.split (t := 10) (b := (decide (x2947 < 0))) rfl (fun hb2999 => ?_) (fun hb2999 => ?_)
    · replace H := cnt hb2999 H
      refine WPL.skipg (b' := true) rfl rfl (lb hb2999) rfl rfl ?_
      refine WPL.skipg (b' := true) rfl rfl (lb hb2999) rfl rfl ?_
      refine WPL.q (q_pickT (v := .lit (.bool _)) (lb hb2999) rfl) rfl ?_
      refine WPL.nilW ?_
      refine W.cv (Cv.weak (E' := (((Env.none.upd 0 (.ptr 0 0)).upd 1 (.lit (.int .i64 x2947))).upd 13 (.lit (.bool true)))) (M' := (Mem.nil.push (.cells 50 [.ro (Rd.slice (Rd.int .u8)) false x2948, .lit (.int .i64 x2949)]))) [0] hnp ⟨rfl, ⟨trivial, .inr ⟨rfl, rfl, rfl⟩⟩, by decide, rfl, ⟨trivial, rfl⟩⟩ (LeE.upd rfl rfl (LeE.upd rfl rfl (LeE.upd rfl rfl (LeE.none rfl rfl))))) rfl ?_
      refine W.now ?_
      have q0 := (Option.some.inj H)
      subst q0
      exact ⟨rfl, rfl, rfl⟩
    · replace H := cnf hb2999 H
      refine WPL.qg rfl rfl (lb hb2999) (q_mv (v := .lit (.int _ _)) rfl) rfl ?_
      refine WPL.qg rfl rfl (lb hb2999) (q_gtr rfl rfl) rfl ?_
      refine WPL.q (q_pickF (v := .lit (.bool _)) (lb hb2999) rfl) rfl ?_
      refine WPL.nilW ?_
      refine W.cv (Cv.weak (E' := (((Env.none.upd 0 (.ptr 0 0)).upd 1 (.lit (.int .i64 x2947))).upd 13 (.lit (.bool (decide (32 < x2947)))))) (M' := (Mem.nil.push (.cells 50 [.ro (Rd.slice (Rd.int .u8)) false x2948, .lit (.int .i64 x2949)]))) [0] hnp ⟨rfl, ⟨trivial, .inr ⟨rfl, rfl, rfl⟩⟩, by decide, rfl, ⟨trivial, rfl⟩⟩ (LeE.upd rfl rfl (LeE.upd rfl rfl (LeE.upd rfl rfl (LeE.none rfl rfl))))) rfl ?_
      refine W.now ?_
      have q0 := (Option.some.inj H)
      subst q0
      exact ⟨rfl, rfl, rfl⟩
  · rintro _ _ _ ⟨rfl, rfl, rfl⟩
    refine W.now ?_
    refine Then.n ?_
    refine WP.cond (t := x2999) rfl (fun hb => ?_) (fun hb => ?_)
    · replace H := cnt hb H
      refine WP.seq ?_
      refine WP.region ?_
      refine WPL.q (q_as (v := .lit (.int _ _)) rfl) rfl ?_
      refine WPL.q (q_as (v := .lit (.int _ _)) rfl) rfl ?_
      refine WPL.nilW ?_
      refine W.now ?_
      refine Then.n ?_
      refine WP.retW ?_
      refine W.now ?_
      refine Then.r ?_
      have q0 := (Prod.mk.inj (Option.some.inj H)).1
      have q1 := (Prod.mk.inj (Prod.mk.inj (Option.some.inj H)).2).1
      have q2 := (Prod.mk.inj (Prod.mk.inj (Option.some.inj H)).2).2
      subst q0
      subst q1
      subst q2
      exact ⟨trivial, _, rfl, [0], (.tup [.lit (.int .u32 0), .lit (.int .i64 1)]), (Mem.nil.push (.cells 50 [.ro (Rd.slice (Rd.int .u8)) false x2948, .lit (.int .i64 x2949)])), ⟨rfl, ⟨trivial, .inr ⟨rfl, rfl, rfl⟩⟩, by decide, rfl, ⟨trivial, rfl⟩⟩, rfl, rfl, rfl, rfl⟩
    · replace H := cnf hb H
      refine WP.skipW ?_
      refine W.now ?_
      refine Then.n ?_
      refine WP.seq ?_
      refine WP.seq ?_
      refine WP.region ?_
      refine WPL.q (q_mv (v := .lit (.int _ _)) rfl) rfl ?_
      refine WPL.q (q_mv (v := .ptr _ _) rfl) rfl ?_
      obtain ⟨x3005, h3003, H⟩ := bnd H
      refine WPL.c (runs_call (s := [0]) (t := [0]) (N := 1) (bor := []) fn31 rfl (s31 k x2948 x2949 x3005 h3003) ⟨rfl, ⟨trivial, .inr ⟨rfl, rfl, rfl⟩⟩, by decide, rfl, trivial⟩ rfl trivial (.ren rfl rfl .nil) rfl ⟨trivial, rfl⟩ rfl) rfl ?_
      refine WPL.q (q_gtr rfl rfl) rfl ?_
      refine WPL.nilW ?_
      refine W.now ?_
      refine Then.n ?_
      refine WP.cond (t := (decide (x3005 < x2947))) rfl (fun hb => ?_) (fun hb => ?_)
      · replace H := cnt hb H
        refine WP.seq ?_
        refine WP.region ?_
        refine WPL.q (q_as (v := .lit (.int _ _)) rfl) rfl ?_
        refine WPL.q (q_as (v := .lit (.int _ _)) rfl) rfl ?_
        refine WPL.nilW ?_
        refine W.now ?_
        refine Then.n ?_
        refine WP.retW ?_
        refine W.now ?_
        refine Then.r ?_
        have q0 := (Prod.mk.inj (Option.some.inj H)).1
        have q1 := (Prod.mk.inj (Prod.mk.inj (Option.some.inj H)).2).1
        have q2 := (Prod.mk.inj (Prod.mk.inj (Option.some.inj H)).2).2
        subst q0
        subst q1
        subst q2
        exact ⟨trivial, _, rfl, [0], (.tup [.lit (.int .u32 0), .lit (.int .i64 10)]), (Mem.nil.push (.cells 50 [.ro (Rd.slice (Rd.int .u8)) false x2948, .lit (.int .i64 x2949)])), ⟨rfl, ⟨trivial, .inr ⟨rfl, rfl, rfl⟩⟩, by decide, rfl, ⟨trivial, rfl⟩⟩, rfl, rfl, rfl, rfl⟩
      · replace H := cnf hb H
        refine WP.skipW ?_
        refine W.now ?_
        refine Then.n ?_
        refine WP.seq ?_
        refine WP.region ?_
        refine WPL.q (q_as (v := .lit (.int _ _)) rfl) rfl ?_
        refine WPL.nilW ?_
        refine W.now ?_
        refine Then.n ?_
        refine WP.seq ?_
        refine WP.seq ?_
        refine WP.region ?_
        refine WPL.q (q_as (v := .lit (.int _ _)) rfl) rfl ?_
        refine WPL.nilW ?_
        refine W.now ?_
        refine Then.n ?_
        refine WP.block ?_
        refine WP.cv (Cv.weak (E' := ((((Env.none.upd 0 (.ptr 0 0)).upd 1 (.lit (.int .i64 x2947))).upd 6 (.lit (.int .u32 0))).upd 7 (.lit (.int .i64 0)))) (M' := (Mem.nil.push (.cells 50 [.ro (Rd.slice (Rd.int .u8)) false x2948, .lit (.int .i64 x2949)]))) [0] hnp ⟨rfl, ⟨trivial, .inr ⟨rfl, rfl, rfl⟩⟩, by decide, rfl, ⟨trivial, rfl⟩⟩ (LeE.upd rfl rfl (LeE.upd rfl rfl (LeE.upd rfl rfl (LeE.upd rfl rfl (LeE.none rfl rfl)))))) ?_
        obtain ⟨x3016, H3020, H⟩ := bnd H
        refine WP.monoW (Q := fun x E M => x = .exit 0 ∧ E = (((Env.none.upd 0 (.ptr 0 0)).upd 1 (.lit (.int .i64 x2947))).upd 6 (.lit (.int .u32 x3016))) ∧ M = (Mem.nil.push (.cells 50 [.ro (Rd.slice (Rd.int .u8)) false x2948, .lit (.int .i64 x2949)]))) ?_ ?_
        · refine WP.loop (β := Int × Int) (fun n b => f26_l0 k x2947 x2948 x2949 n b.1 b.2 = some x3016) (fun b => ((((Env.none.upd 0 (.ptr 0 0)).upd 1 (.lit (.int .i64 x2947))).upd 6 (.lit (.int .u32 b.1))).upd 7 (.lit (.int .i64 b.2)))) (fun b => (Mem.nil.push (.cells 50 [.ro (Rd.slice (Rd.int .u8)) false x2948, .lit (.int .i64 x2949)]))) k (0, 0) H3020 rfl rfl ?_
          rintro n ⟨x3010, x3011⟩ H
          obtain _ | n := n
          · exact nf rfl H
          rw [f26_l0.eq_2] at H
          show WP _ _ _ _ ((((Env.none.upd 0 (.ptr 0 0)).upd 1 (.lit (.int .i64 x2947))).upd 6 (.lit (.int .u32 x3010))).upd 7 (.lit (.int .i64 x3011))) (Mem.nil.push (.cells 50 [.ro (Rd.slice (Rd.int .u8)) false x2948, .lit (.int .i64 x2949)])) _
          refine WP.seq ?_
          refine WP.seq ?_
          refine WP.region ?_
          refine WPL.q (q_mv (v := .lit (.int _ _)) rfl) rfl ?_
          refine WPL.q (q_mv (v := .lit (.int _ _)) rfl) rfl ?_
          refine WPL.q (q_lss rfl rfl) rfl ?_
          refine WPL.nilW ?_
          refine W.now ?_
          refine Then.n ?_
          refine WP.cond (t := (decide (x3011 < x2947))) rfl (fun hb => ?_) (fun hb => ?_)
          · replace H := cnt hb H
            refine WP.skipW ?_
            refine W.now ?_
            refine Then.n ?_
            refine WP.seq ?_
            refine WP.block ?_
            refine WP.region ?_
            refine WPL.q (q_mv (v := .lit (.int _ _)) rfl) rfl ?_
            refine WPL.q (q_mv (v := .ptr _ _) rfl) rfl ?_
            refine WPL.q (q_mv (v := .ptr _ _) rfl) rfl ?_
            refine WPL.q (q_nilCheck rfl) rfl ?_
            refine WPL.q (q_fieldAddr fi50_1 rfl rfl) rfl ?_
            refine WPL.q (q_load sc3 rfl rfl rfl) rfl ?_
            refine WPL.q (q_mv (v := .lit (.int _ _)) rfl) rfl ?_
            refine WPL.q (q_add rfl rfl) rfl ?_
            obtain ⟨x3018, h3016, H⟩ := bnd H
            refine WPL.c (runs_call (s := [0]) (t := [0]) (N := 1) (bor := []) fn35 rfl (s35 k (IntKind.wrap .i64 (x2949 + x3011)) x2948 x2949 x3018 h3016) ⟨rfl, ⟨trivial, .inr ⟨rfl, rfl, rfl⟩⟩, by decide, rfl, trivial⟩ rfl trivial (.ren rfl rfl (.ren rfl rfl .nil)) rfl ⟨trivial, rfl⟩ rfl) rfl ?_
            refine WPL.q (q_mv (v := .lit (.int _ _)) rfl) rfl ?_
            refine WPL.q (q_conv Try.underlying3 Try.underlying40 rfl) rfl ?_
            obtain ⟨h3018, H⟩ := grd H
            refine WPL.q (q_shl rfl rfl h3018) rfl ?_
            obtain ⟨x3020, h3020, H⟩ := bnd H
            refine WPL.q (q_nm (q_or rfl rfl) (nm_int h3020)) rfl ?_
            refine WPL.q (q_as (v := .lit (.int _ _)) rfl) rfl ?_
            refine WPL.nilW ?_
            refine W.now ?_
            refine InBlock.n ?_
            refine Then.n ?_
            refine WP.region ?_
            refine WPL.q (q_mv (v := .lit (.int _ _)) rfl) rfl ?_
            refine WPL.q (q_add rfl rfl) rfl ?_
            refine WPL.q (q_as (v := .lit (.int _ _)) rfl) rfl ?_
            refine WPL.nilW ?_
            refine W.cv (Cv.weak (E' := ((((Env.none.upd 0 (.ptr 0 0)).upd 1 (.lit (.int .i64 x2947))).upd 6 (.lit (.int .u32 x3020))).upd 7 (.lit (.int .i64 (IntKind.wrap .i64 (x3011 + 1)))))) (M' := (Mem.nil.push (.cells 50 [.ro (Rd.slice (Rd.int .u8)) false x2948, .lit (.int .i64 x2949)]))) [0] hnp ⟨rfl, ⟨trivial, .inr ⟨rfl, rfl, rfl⟩⟩, by decide, rfl, ⟨trivial, rfl⟩⟩ (LeE.upd rfl rfl (LeE.upd rfl rfl (LeE.upd rfl rfl (LeE.upd rfl rfl (LeE.none rfl rfl)))))) rfl ?_
            refine W.now ?_
            exact Then.n ⟨n, (x3020, (IntKind.wrap .i64 (x3011 + 1))), Nat.lt_succ_self n, H, rfl, rfl⟩
          · replace H := cnf hb H
            refine WP.exitW ?_
            refine W.cv (Cv.weak (E' := (((Env.none.upd 0 (.ptr 0 0)).upd 1 (.lit (.int .i64 x2947))).upd 6 (.lit (.int .u32 x3010)))) (M' := (Mem.nil.push (.cells 50 [.ro (Rd.slice (Rd.int .u8)) false x2948, .lit (.int .i64 x2949)]))) [0] hnp ⟨rfl, ⟨trivial, .inr ⟨rfl, rfl, rfl⟩⟩, by decide, rfl, ⟨trivial, rfl⟩⟩ (LeE.upd rfl rfl (LeE.upd rfl rfl (LeE.upd rfl rfl (LeE.none rfl rfl))))) rfl ?_
            refine W.now ?_
            refine Then.x ?_
            refine Then.x ?_
            have q0 := (Option.some.inj H)
            subst q0
            exact ⟨rfl, rfl, rfl⟩
        · rintro _ _ _ ⟨rfl, rfl, rfl⟩
          refine W.now ?_
          refine InBlock.x0 ?_
          refine Then.n ?_
          refine WP.seq ?_
          refine WP.region ?_
          refine WPL.q (q_mv (v := .ptr _ _) rfl) rfl ?_
          refine WPL.q (q_mv (v := .ptr _ _) rfl) rfl ?_
          refine WPL.q (q_nilCheck rfl) rfl ?_
          refine WPL.q (q_fieldAddr fi50_1 rfl rfl) rfl ?_
          refine WPL.q (q_load sc3 rfl rfl rfl) rfl ?_
          refine WPL.q (q_mv (v := .lit (.int _ _)) rfl) rfl ?_
          refine WPL.q (q_add rfl rfl) rfl ?_
          refine WPL.q (q_nilCheck rfl) rfl ?_
          refine WPL.q (q_fieldAddr fi50_1 rfl rfl) rfl ?_
          refine WPL.s (s_store sz3 rfl rfl rfl rfl rfl) ?_
          refine WPL.nilW ?_
          refine W.now ?_
          refine Then.n ?_
          refine WP.seq ?_
          refine WP.region ?_
          refine WPL.q (q_mv (v := .lit (.int _ _)) rfl) rfl ?_
          refine WPL.q (q_as (v := .lit (.int _ _)) rfl) rfl ?_
          refine WPL.q (q_as (v := .lit (.int _ _)) rfl) rfl ?_
          refine WPL.nilW ?_
          refine W.now ?_
          refine Then.n ?_
          refine WP.retW ?_
          refine W.now ?_
          have q0 := (Prod.mk.inj (Option.some.inj H)).1
          have q1 := (Prod.mk.inj (Prod.mk.inj (Option.some.inj H)).2).1
          have q2 := (Prod.mk.inj (Prod.mk.inj (Option.some.inj H)).2).2
          subst q0
          subst q1
          subst q2
          exact ⟨trivial, _, rfl, [0], (.tup [.lit (.int .u32 x3016), .lit (.int .i64 0)]), (Mem.nil.push (.cells 50 [.ro (Rd.slice (Rd.int .u8)) false x2948, .lit (.int .i64 (IntKind.wrap .i64 (x2949 + x2947)))])), ⟨rfl, ⟨trivial, .inr ⟨rfl, rfl, rfl⟩⟩, by decide, rfl, ⟨trivial, rfl⟩⟩, rfl, rfl, rfl, rfl⟩
set_option maxRecDepth 100000 in
set_option maxHeartbeats 4000000 in
theorem s27 (k : Nat) (x3030 : (List Int)) (x3031 : Int) (x3033 : (List Int)) (x3034 : Int) (H : f27 k x3030 x3031 = some (x3033, x3034)) : Go.Q.Spec Try.prog 27 1 [.ptr 0 0] (Mem.nil.push (.cells 63 [.ro (Rd.slice (Rd.int .u8)) false x3030, .lit (.int .i64 x3031)])) (fun o M => o = .ret (.tup []) ∧ M = (Mem.nil.push (.cells 63 [.ro (Rd.slice (Rd.int .u8)) false x3033, .lit (.int .i64 x3034)]))) := by
  unfold f27 at H
  refine Go.Q.Spec.of_bodyR (rs := []) (nt := 22) Try.func27 rfl rfl (by intro t T h; simp at h) rfl rfl fun cx hnp => ?_
  refine WP.seq ?_
  refine WP.region ?_
  refine WPL.q (q_mv (v := .ptr _ _) rfl) rfl ?_
  refine WPL.q (q_neqp Try.underlying35 rfl) rfl ?_
  refine WPL.q (q_mv (v := .lit (.bool _)) rfl) rfl ?_
  refine WPL.qg rfl rfl rfl (q_mv (v := .ptr _ _) rfl) rfl ?_
  refine WPL.qg rfl rfl rfl (q_nilCheck rfl) rfl ?_
  refine WPL.qg rfl rfl rfl (q_fieldAddr fi63_1 rfl rfl) rfl ?_
  refine WPL.qg rfl rfl rfl (q_load sc3 rfl rfl rfl) rfl ?_
  refine WPL.qg rfl rfl rfl (q_gtr rfl rfl) rfl ?_
  refine WPL.q (q_pickT (v := .lit (.bool _)) rfl rfl) rfl ?_
  refine WPL.nilW ?_
  refine W.now ?_
  refine Then.n ?_
  refine WP.cond (t := (decide (0 < x3031))) rfl (fun hb => ?_) (fun hb => ?_)
  · replace H := cnt hb H
    refine WP.region ?_
    refine WPL.q (q_mv (v := .ptr _ _) rfl) rfl ?_
    refine WPL.q (q_mv (v := .ptr _ _) rfl) rfl ?_
    refine WPL.q (q_mv (v := .ptr _ _) rfl) rfl ?_
    refine WPL.q (q_nilCheck rfl) rfl ?_
    refine WPL.q (q_fieldAddr fi63_0 rfl rfl) rfl ?_
    refine WPL.q (q_load sc23 rfl rfl rfl) rfl ?_
    obtain ⟨h3034, H⟩ := grd H
    refine WPL.q (q_slice_ro (i := 1) (j := ((List.length x3030 : Nat) : Int)) sl23 rfl rfl ⟨_, rfl⟩ rfl h3034) rfl ?_
    refine WPL.q (q_nilCheck rfl) rfl ?_
    refine WPL.q (q_fieldAddr fi63_0 rfl rfl) rfl ?_
    refine WPL.s (s_store sz23 rfl rfl rfl rfl rfl) ?_
    refine WPL.q (q_nilCheck rfl) rfl ?_
    refine WPL.q (q_fieldAddr fi63_1 rfl rfl) rfl ?_
    refine WPL.s (s_store sz3 rfl rfl rfl rfl rfl) ?_
    refine WPL.nilW ?_
    refine W.now ?_
    have q0 := (Prod.mk.inj (Option.some.inj H)).1
    have q1 := (Prod.mk.inj (Option.some.inj H)).2
    subst q0
    subst q1
    exact ⟨trivial, _, rfl, [0], (.tup []), (Mem.nil.push (.cells 63 [.ro (Rd.slice (Rd.int .u8)) false (List.drop (Int.toNat 1) (List.take (Int.toNat ((List.length x3030 : Nat) : Int)) x3030)), .lit (.int .i64 0)])), ⟨rfl, ⟨trivial, .inr ⟨rfl, rfl, rfl⟩⟩, by decide, rfl, ⟨trivial, rfl⟩⟩, rfl, rfl, rfl, rfl⟩
  · replace H := cnf hb H
    refine WP.skipW ?_
    refine W.now ?_
    have q0 := (Prod.mk.inj (Option.some.inj H)).1
    have q1 := (Prod.mk.inj (Option.some.inj H)).2
    subst q0
    subst q1
    exact ⟨trivial, _, rfl, [0], (.tup []), (Mem.nil.push (.cells 63 [.ro (Rd.slice (Rd.int .u8)) false x3030, .lit (.int .i64 x3031)])), ⟨rfl, ⟨trivial, .inr ⟨rfl, rfl, rfl⟩⟩, by decide, rfl, ⟨trivial, rfl⟩⟩, rfl, rfl, rfl, rfl⟩
set_option maxRecDepth 100000 in
set_option maxHeartbeats 4000000 in
theorem s28 (k : Nat) (x3039 : (List Int)) (x3040 : Int) (x3042 : Int) (H : f28 k x3039 x3040 = some x3042) : Go.Q.Spec Try.prog 28 1 [.ptr 0 0] (Mem.nil.push (.cells 50 [.ro (Rd.slice (Rd.int .u8)) false x3039, .lit (.int .i64 x3040)])) (fun o M => o = .ret (.tup []) ∧ M = (Mem.nil.push (.cells 50 [.ro (Rd.slice (Rd.int .u8)) false x3039, .lit (.int .i64 x3042)]))) := by
  unfold f28 at H
  refine Go.Q.Spec.of_bodyR (rs := []) (nt := 12) Try.func28 rfl rfl (by intro t T h; simp at h) rfl rfl fun cx hnp => ?_
  refine WP.region ?_
  refine WPL.q (q_mv (v := .ptr _ _) rfl) rfl ?_
  refine WPL.q (q_mv (v := .ptr _ _) rfl) rfl ?_
  refine WPL.q (q_nilCheck rfl) rfl ?_
  refine WPL.q (q_fieldAddr fi50_1 rfl rfl) rfl ?_
  refine WPL.q (q_load sc3 rfl rfl rfl) rfl ?_
  refine WPL.q (q_add rfl rfl) rfl ?_
  obtain ⟨x3043, h3043, H⟩ := bnd H
  refine WPL.q (q_nm (q_quo rfl rfl rfl) (nm_int h3043)) rfl ?_
  refine WPL.q (q_mul rfl rfl) rfl ?_
  refine WPL.q (q_nilCheck rfl) rfl ?_
  refine WPL.q (q_fieldAddr fi50_1 rfl rfl) rfl ?_
  refine WPL.s (s_store sz3 rfl rfl rfl rfl rfl) ?_
  refine WPL.nilW ?_
  refine W.now ?_
  have q0 := (Option.some.inj H)
  subst q0
  exact ⟨trivial, _, rfl, [0], (.tup []), (Mem.nil.push (.cells 50 [.ro (Rd.slice (Rd.int .u8)) false x3039, .lit (.int .i64 (IntKind.wrap .i64 (x3043 * 8)))])), ⟨rfl, ⟨trivial, .inr ⟨rfl, rfl, rfl⟩⟩, by decide, rfl, ⟨trivial, rfl⟩⟩, rfl, rfl, rfl, rfl⟩
set_option maxRecDepth 100000 in
set_option maxHeartbeats 4000000 in
theorem s29 (k : Nat) (x3046 : Int) (x3047 : (List Int)) (x3048 : Int) (x3058 : (List Int)) (x3059 : Int) (x3060 : (List Int)) (x3061 : Int) (H : f29 k x3046 x3047 x3048 = some (x3058, x3059, x3060, x3061)) : Go.Q.Spec Try.prog 29 1 [.ptr 0 0, .lit (.int .i64 x3046)] (Mem.nil.push (.cells 63 [.ro (Rd.slice (Rd.int .u8)) false x3047, .lit (.int .i64 x3048)])) (fun o M => o = .ret (.tup [.ro (Rd.slice (Rd.int .u8)) false x3058, .lit (.int .i64 x3059)]) ∧ M = (Mem.nil.push (.cells 63 [.ro (Rd.slice (Rd.int .u8)) false x3060, .lit (.int .i64 x3061)]))) := by
  unfold f29 at H
  refine Go.Q.Spec.of_bodyR (rs := [.tmp 4, .tmp 5]) (nt := 37) Try.func29 rfl rfl (by intro t T h; simp at h) rfl rfl fun cx hnp => ?_
  refine WP.seq ?_
  refine WP.region ?_
  refine WPL.q (q_as (v := .lit _) rfl) rfl ?_
  refine WPL.q (q_as (v := .lit (.int _ _)) rfl) rfl ?_
  refine WPL.nilW ?_
  refine W.now ?_
  refine Then.n ?_
  refine WP.seq ?_
  refine WP.seq ?_
  refine WP.region ?_
  refine WPL.q (q_mv (v := .ptr _ _) rfl) rfl ?_
  refine WPL.q (q_eqlp Try.underlying35 rfl) rfl ?_
  refine WPL.nilW ?_
  refine W.now ?_
  refine Then.n ?_
  refine WP.condF rfl ?_
  refine WP.skipW ?_
  refine W.now ?_
  refine Then.n ?_
  refine WP.seq ?_
  refine WP.seq ?_
  refine WP.region ?_
  refine WPL.q (q_mv (v := .lit (.int _ _)) rfl) rfl ?_
  refine WPL.q (q_lss rfl rfl) rfl ?_
  refine WPL.nilW ?_
  refine W.now ?_
  refine Then.n ?_
  refine WP.cond (t := (decide (x3046 < 0))) rfl (fun hb => ?_) (fun hb => ?_)
  · replace H := cnt hb H
    refine WP.seq ?_
    refine WP.region ?_
    refine WPL.q (q_as (v := .lit _) rfl) rfl ?_
    refine WPL.q (q_as (v := .lit (.int _ _)) rfl) rfl ?_
    refine WPL.nilW ?_
    refine W.now ?_
    refine Then.n ?_
    refine WP.retW ?_
    refine W.cv (Cv.nilRo (Rd.int .u8) false 4 rfl) rfl ?_
    refine W.now ?_
    refine Then.r ?_
    have q0 := (Prod.mk.inj (Option.some.inj H)).1
    have q1 := (Prod.mk.inj (Prod.mk.inj (Option.some.inj H)).2).1
    have q2 := (Prod.mk.inj (Prod.mk.inj (Prod.mk.inj (Option.some.inj H)).2).2).1
    have q3 := (Prod.mk.inj (Prod.mk.inj (Prod.mk.inj (Option.some.inj H)).2).2).2
    subst q0
    subst q1
    subst q2
    subst q3
    exact ⟨trivial, _, rfl, [0], (.tup [.ro (Rd.slice (Rd.int .u8)) false ([] : List Int), .lit (.int .i64 1)]), (Mem.nil.push (.cells 63 [.ro (Rd.slice (Rd.int .u8)) false x3047, .lit (.int .i64 x3048)])), ⟨rfl, ⟨trivial, .inr ⟨rfl, rfl, rfl⟩⟩, by decide, rfl, ⟨trivial, rfl⟩⟩, rfl, rfl, rfl, rfl⟩
  · replace H := cnf hb H
    refine WP.skipW ?_
    refine W.now ?_
    refine Then.n ?_
    refine WP.seq ?_
    refine WP.region ?_
    refine WPL.q (q_mv (v := .ptr _ _) rfl) rfl ?_
    obtain ⟨⟨x3063, x3064⟩, h3061, H⟩ := bnd H
    refine WPL.c (runs_call (s := [0]) (t := [0]) (N := 1) (bor := []) fn27 rfl (s27 k x3047 x3048 x3063 x3064 h3061) ⟨rfl, ⟨trivial, .inr ⟨rfl, rfl, rfl⟩⟩, by decide, rfl, trivial⟩ rfl trivial (.ren rfl rfl .nil) rfl ⟨trivial, rfl⟩ rfl) rfl ?_
    refine WPL.nilW ?_
    refine W.now ?_
    refine Then.n ?_
    refine WP.seq ?_
    refine WP.seq ?_
    refine WP.region ?_
    refine WPL.q (q_mv (v := .lit (.int _ _)) rfl) rfl ?_
    refine WPL.q (q_mv (v := .ptr _ _) rfl) rfl ?_
    refine WPL.q (q_nilCheck rfl) rfl ?_
    refine WPL.q (q_fieldAddr fi63_0 rfl rfl) rfl ?_
    refine WPL.q (q_load sc23 rfl rfl rfl) rfl ?_
    refine WPL.q (q_len_ro sl23 rfl) rfl ?_
    obtain ⟨x3066, h3066, H⟩ := bnd H
    refine WPL.q (q_nm (q_gtr rfl rfl) (nm_bool h3066)) rfl ?_
    refine WPL.nilW ?_
    refine W.now ?_
    refine Then.n ?_
    refine WP.cond (t := x3066) rfl (fun hb => ?_) (fun hb => ?_)
    · replace H := cnt hb H
      refine WP.seq ?_
      refine WP.region ?_
      refine WPL.q (q_as (v := .lit _) rfl) rfl ?_
      refine WPL.q (q_as (v := .lit (.int _ _)) rfl) rfl ?_
      refine WPL.nilW ?_
      refine W.now ?_
      refine Then.n ?_
      refine WP.retW ?_
      refine W.cv (Cv.nilRo (Rd.int .u8) false 4 rfl) rfl ?_
      refine W.now ?_
      refine Then.r ?_
      have q0 := (Prod.mk.inj (Option.some.inj H)).1
      have q1 := (Prod.mk.inj (Prod.mk.inj (Option.some.inj H)).2).1
      have q2 := (Prod.mk.inj (Prod.mk.inj (Prod.mk.inj (Option.some.inj H)).2).2).1
      have q3 := (Prod.mk.inj (Prod.mk.inj (Prod.mk.inj (Option.some.inj H)).2).2).2
      subst q0
      subst q1
      subst q2
      subst q3
      exact ⟨trivial, _, rfl, [0], (.tup [.ro (Rd.slice (Rd.int .u8)) false ([] : List Int), .lit (.int .i64 10)]), (Mem.nil.push (.cells 63 [.ro (Rd.slice (Rd.int .u8)) false x3063, .lit (.int .i64 x3064)])), ⟨rfl, ⟨trivial, .inr ⟨rfl, rfl, rfl⟩⟩, by decide, rfl, ⟨trivial, rfl⟩⟩, rfl, rfl, rfl, rfl⟩
    · replace H := cnf hb H
      refine WP.skipW ?_
      refine W.now ?_
      refine Then.n ?_
      refine WP.seq ?_
      refine WP.region ?_
      refine WPL.q (q_mv (v := .ptr _ _) rfl) rfl ?_
      refine WPL.q (q_nilCheck rfl) rfl ?_
      refine WPL.q (q_fieldAddr fi63_0 rfl rfl) rfl ?_
      refine WPL.q (q_load sc23 rfl rfl rfl) rfl ?_
      refine WPL.q (q_mv (v := .lit (.int _ _)) rfl) rfl ?_
      obtain ⟨h3066, H⟩ := grd H
      refine WPL.q (q_slice_ro (i := 0) (j := x3046) sl23 rfl rfl rfl ⟨_, rfl⟩ h3066) rfl ?_
      obtain ⟨x3069, h3067, H⟩ := bnd H
      refine WPL.c (runs_call (s := []) (t := []) (N := 1) (bor := []) fn34 rfl (s34b k (List.drop (Int.toNat 0) (List.take (Int.toNat x3046) x3063)) x3069 h3067) ⟨rfl, trivial, by decide, rfl, trivial⟩ rfl trivial (.ren rfl rfl .nil) rfl trivial rfl) rfl ?_
      refine WPL.q (q_as (v := .ro _ _ _) rfl) rfl ?_
      refine WPL.nilW ?_
      refine W.now ?_
      refine Then.n ?_
      refine WP.seq ?_
      refine WP.region ?_
      refine WPL.q (q_mv (v := .ptr _ _) rfl) rfl ?_
      refine WPL.q (q_mv (v := .ptr _ _) rfl) rfl ?_
      refine WPL.q (q_nilCheck rfl) rfl ?_
      refine WPL.q (q_fieldAddr fi63_0 rfl rfl) rfl ?_
      refine WPL.q (q_load sc23 rfl rfl rfl) rfl ?_
      refine WPL.q (q_mv (v := .lit (.int _ _)) rfl) rfl ?_
      obtain ⟨h3069, H⟩ := grd H
      refine WPL.q (q_slice_ro (i := x3046) (j := ((List.length x3063 : Nat) : Int)) sl23 rfl rfl ⟨_, rfl⟩ rfl h3069) rfl ?_
      refine WPL.q (q_nilCheck rfl) rfl ?_
      refine WPL.q (q_fieldAddr fi63_0 rfl rfl) rfl ?_
      refine WPL.s (s_store sz23 rfl rfl rfl rfl rfl) ?_
      refine WPL.nilW ?_
      refine W.now ?_
      refine Then.n ?_
      refine WP.seq ?_
      refine WP.region ?_
      refine WPL.q (q_mv (v := .ro _ _ _) rfl) rfl ?_
      refine WPL.q (q_as (v := .ro _ _ _) rfl) rfl ?_
      refine WPL.q (q_as (v := .lit (.int _ _)) rfl) rfl ?_
      refine WPL.nilW ?_
      refine W.now ?_
      refine Then.n ?_
      refine WP.retW ?_
      refine W.now ?_
      have q0 := (Prod.mk.inj (Option.some.inj H)).1
      have q1 := (Prod.mk.inj (Prod.mk.inj (Option.some.inj H)).2).1
      have q2 := (Prod.mk.inj (Prod.mk.inj (Prod.mk.inj (Option.some.inj H)).2).2).1
      have q3 := (Prod.mk.inj (Prod.mk.inj (Prod.mk.inj (Option.some.inj H)).2).2).2
      subst q0
      subst q1
      subst q2
      subst q3
      exact ⟨trivial, _, rfl, [0], (.tup [.ro (Rd.slice (Rd.int .u8)) false x3069, .lit (.int .i64 0)]), (Mem.nil.push (.cells 63 [.ro (Rd.slice (Rd.int .u8)) false (List.drop (Int.toNat x3046) (List.take (Int.toNat ((List.length x3063 : Nat) : Int)) x3063)), .lit (.int .i64 x3064)])), ⟨rfl, ⟨trivial, .inr ⟨rfl, rfl, rfl⟩⟩, by decide, rfl, ⟨trivial, rfl⟩⟩, rfl, rfl, rfl, rfl⟩
set_option maxRecDepth 100000 in
set_option maxHeartbeats 4000000 in
theorem s30 (k : Nat) (x3076 : Int) (x3077 : (List Int)) (x3078 : Int) (x3094 : (List Int)) (x3095 : Int) (x3096 : Int) (H : f30 k x3076 x3077 x3078 = some (x3094, x3095, x3096)) : Go.Q.Spec Try.prog 30 1 [.ptr 0 0, .lit (.int .i64 x3076)] (Mem.nil.push (.cells 50 [.ro (Rd.slice (Rd.int .u8)) false x3077, .lit (.int .i64 x3078)])) (fun o M => o = .ret (.tup [.ro (Rd.slice (Rd.int .u8)) false x3094, .lit (.int .i64 x3095)]) ∧ M = (Mem.nil.push (.cells 50 [.ro (Rd.slice (Rd.int .u8)) false x3077, .lit (.int .i64 x3096)]))) := by
  unfold f30 at H
  refine Go.Q.Spec.of_bodyR (rs := [.tmp 4, .tmp 5]) (nt := 46) Try.func30 rfl rfl (by intro t T h; simp at h) rfl rfl fun cx hnp => ?_
  refine WP.seq ?_
  refine WP.region ?_
  refine WPL.q (q_as (v := .lit _) rfl) rfl ?_
  refine WPL.q (q_as (v := .lit (.int _ _)) rfl) rfl ?_
  refine WPL.nilW ?_
  refine W.now ?_
  refine Then.n ?_
  refine WP.seq ?_
  refine WP.seq ?_
  refine WP.region ?_
  refine WPL.q (q_mv (v := .lit (.int _ _)) rfl) rfl ?_
  refine WPL.q (q_lss rfl rfl) rfl ?_
  refine WPL.nilW ?_
  refine W.now ?_
  refine Then.n ?_
  refine WP.cond (t := (decide (x3076 < 0))) rfl (fun hb => ?_) (fun hb => ?_)
  · replace H := cnt hb H
    refine WP.seq ?_
    refine WP.region ?_
    refine WPL.q (q_as (v := .lit _) rfl) rfl ?_
    refine WPL.q (q_as (v := .lit (.int _ _)) rfl) rfl ?_
    refine WPL.nilW ?_
    refine W.now ?_
    refine Then.n ?_
    refine WP.retW ?_
    refine W.cv (Cv.nilRo (Rd.int .u8) false 4 rfl) rfl ?_
    refine W.now ?_
    refine Then.r ?_
    have q0 := (Prod.mk.inj (Option.some.inj H)).1
    have q1 := (Prod.mk.inj (Prod.mk.inj (Option.some.inj H)).2).1
    have q2 := (Prod.mk.inj (Prod.mk.inj (Option.some.inj H)).2).2
    subst q0
    subst q1
    subst q2
    exact ⟨trivial, _, rfl, [0], (.tup [.ro (Rd.slice (Rd.int .u8)) false ([] : List Int), .lit (.int .i64 1)]), (Mem.nil.push (.cells 50 [.ro (Rd.slice (Rd.int .u8)) false x3077, .lit (.int .i64 x3078)])), ⟨rfl, ⟨trivial, .inr ⟨rfl, rfl, rfl⟩⟩, by decide, rfl, ⟨trivial, rfl⟩⟩, rfl, rfl, rfl, rfl⟩
  · replace H := cnf hb H
    refine WP.skipW ?_
    refine W.now ?_
    refine Then.n ?_
    refine WP.seq ?_
    refine WP.region ?_
    refine WPL.q (q_mv (v := .ptr _ _) rfl) rfl ?_
    obtain ⟨x3098, h3096, H⟩ := bnd H
    refine WPL.c (runs_call (s := [0]) (t := [0]) (N := 1) (bor := []) fn28 rfl (s28 k x3077 x3078 x3098 h3096) ⟨rfl, ⟨trivial, .inr ⟨rfl, rfl, rfl⟩⟩, by decide, rfl, trivial⟩ rfl trivial (.ren rfl rfl .nil) rfl ⟨trivial, rfl⟩ rfl) rfl ?_
    refine WPL.nilW ?_
    refine W.now ?_
    refine Then.n ?_
    refine WP.seq ?_
    refine WP.seq ?_
    refine WP.region ?_
    refine WPL.q (q_mv (v := .lit (.int _ _)) rfl) rfl ?_
    refine WPL.q (q_mv (v := .ptr _ _) rfl) rfl ?_
    obtain ⟨x3103, h3101, H⟩ := bnd H
    refine WPL.c (runs_call (s := [0]) (t := [0]) (N := 1) (bor := []) fn31 rfl (s31 k x3077 x3098 x3103 h3101) ⟨rfl, ⟨trivial, .inr ⟨rfl, rfl, rfl⟩⟩, by decide, rfl, trivial⟩ rfl trivial (.ren rfl rfl .nil) rfl ⟨trivial, rfl⟩ rfl) rfl ?_
    refine WPL.q (q_quo rfl rfl rfl) rfl ?_
    obtain ⟨x3104, h3104, H⟩ := bnd H
    refine WPL.q (q_nm (q_gtr rfl rfl) (nm_bool h3104)) rfl ?_
    refine WPL.nilW ?_
    refine W.now ?_
    refine Then.n ?_
    refine WP.cond (t := x3104) rfl (fun hb => ?_) (fun hb => ?_)
    · replace H := cnt hb H
      refine WP.seq ?_
      refine WP.region ?_
      refine WPL.q (q_as (v := .lit _) rfl) rfl ?_
      refine WPL.q (q_as (v := .lit (.int _ _)) rfl) rfl ?_
      refine WPL.nilW ?_
      refine W.now ?_
      refine Then.n ?_
      refine WP.retW ?_
      refine W.cv (Cv.nilRo (Rd.int .u8) false 4 rfl) rfl ?_
      refine W.now ?_
      refine Then.r ?_
      have q0 := (Prod.mk.inj (Option.some.inj H)).1
      have q1 := (Prod.mk.inj (Prod.mk.inj (Option.some.inj H)).2).1
      have q2 := (Prod.mk.inj (Prod.mk.inj (Option.some.inj H)).2).2
      subst q0
      subst q1
      subst q2
      exact ⟨trivial, _, rfl, [0], (.tup [.ro (Rd.slice (Rd.int .u8)) false ([] : List Int), .lit (.int .i64 10)]), (Mem.nil.push (.cells 50 [.ro (Rd.slice (Rd.int .u8)) false x3077, .lit (.int .i64 x3098)])), ⟨rfl, ⟨trivial, .inr ⟨rfl, rfl, rfl⟩⟩, by decide, rfl, ⟨trivial, rfl⟩⟩, rfl, rfl, rfl, rfl⟩
    · replace H := cnf hb H
      refine WP.skipW ?_
      refine W.now ?_
      refine Then.n ?_
      refine WP.seq ?_
      refine WP.regionD' 20 [0] [] mixed rfl ?_
      refine WPD.take 1 rfl (by kernel_rfl) (q_mv (v := .ptr _ _) rfl) rfl rfl ?_
      refine WPD.take 2 rfl (by kernel_rfl) (q_nilCheck rfl) rfl rfl ?_
      refine WPD.take 3 rfl (by kernel_rfl) (q_fieldAddr fi50_0 rfl rfl) rfl rfl ?_
      refine WPD.take 4 rfl (by kernel_rfl) (q_load sc23 rfl rfl rfl) rfl rfl ?_
      refine WPD.take 5 rfl (by kernel_rfl) (q_mv (v := .ptr _ _) rfl) rfl rfl ?_
      refine WPD.take 6 rfl (by kernel_rfl) (q_nilCheck rfl) rfl rfl ?_
      refine WPD.take 7 rfl (by kernel_rfl) (q_fieldAddr fi50_1 rfl rfl) rfl rfl ?_
      refine WPD.take 8 rfl (by kernel_rfl) (q_load sc3 rfl rfl rfl) rfl rfl ?_
      refine WPD.take 9 rfl (by kernel_rfl) (q_quo rfl rfl rfl) rfl rfl ?_
      refine WPD.take 10 rfl (by kernel_rfl) (q_mv (v := .ptr _ _) rfl) rfl rfl ?_
      refine WPD.take 11 rfl (by kernel_rfl) (q_nilCheck rfl) rfl rfl ?_
      refine WPD.take 12 rfl (by kernel_rfl) (q_fieldAddr fi50_1 rfl rfl) rfl rfl ?_
      refine WPD.take 13 rfl (by kernel_rfl) (q_load sc3 rfl rfl rfl) rfl rfl ?_
      refine WPD.take 14 rfl (by kernel_rfl) (q_quo rfl rfl rfl) rfl rfl ?_
      refine WPD.take 15 rfl (by kernel_rfl) (q_mv (v := .lit (.int _ _)) rfl) rfl rfl ?_
      obtain ⟨x3108, h3108, H⟩ := bnd H
      refine WPD.take 16 rfl (by kernel_rfl) (q_nm (q_add rfl rfl) (nm_int h3108)) rfl rfl ?_
      obtain ⟨h3108, H⟩ := grd H
      refine WPD.take 17 rfl (by kernel_rfl) (q_slice_ro (i := (IntKind.wrap .i64 (Int.tdiv x3098 8))) (j := x3108) sl23 rfl rfl ⟨_, rfl⟩ ⟨_, rfl⟩ h3108) rfl rfl ?_
      refine WPD.eff 0 [0] [] rfl (by kernel_rfl) (Does.runs (d_buildSlice (ds := ([] : List Int)) (R := (Rd.int .u8)) li23 rfl rfl rfl rfl rfl JoinRows.nil rfl rfl)) rfl rfl ?_
      obtain ⟨h3109, H⟩ := grd H
      refine WPD.eff 18 [0] [] rfl (by kernel_rfl) (Does.runs (d_append ap23 rfl rfl rfl rfl (src_ro sl23 rfl) h3109 rfl)) rfl rfl ?_
      refine WPD.take 19 rfl (by kernel_rfl) (q_as (v := .whole _) rfl) rfl rfl ?_
      refine WPD.doneW (by kernel_rfl) ?_
      refine W.now ?_
      refine Then.n ?_
      refine WP.seq ?_
      refine WP.region ?_
      refine WPL.q (q_mv (v := .ptr _ _) rfl) rfl ?_
      refine WPL.q (q_mv (v := .ptr _ _) rfl) rfl ?_
      refine WPL.q (q_nilCheck rfl) rfl ?_
      refine WPL.q (q_fieldAddr fi50_1 rfl rfl) rfl ?_
      refine WPL.q (q_load sc3 rfl rfl rfl) rfl ?_
      refine WPL.q (q_mv (v := .lit (.int _ _)) rfl) rfl ?_
      refine WPL.q (q_mul rfl rfl) rfl ?_
      obtain ⟨x3111, h3111, H⟩ := bnd H
      refine WPL.q (q_nm (q_add rfl rfl) (nm_int h3111)) rfl ?_
      refine WPL.q (q_nilCheck rfl) rfl ?_
      refine WPL.q (q_fieldAddr fi50_1 rfl rfl) rfl ?_
      refine WPL.s (s_store sz3 rfl rfl rfl rfl rfl) ?_
      refine WPL.nilW ?_
      refine W.now ?_
      refine Then.n ?_
      refine WP.seq ?_
      refine WP.region ?_
      refine WPL.q (q_mv (v := .whole _) rfl) rfl ?_
      refine WPL.q (q_as (v := .whole _) rfl) rfl ?_
      refine WPL.q (q_as (v := .lit (.int _ _)) rfl) rfl ?_
      refine WPL.nilW ?_
      refine W.now ?_
      refine Then.n ?_
      refine WP.retW ?_
      refine W.cv (Cv.frzRow (i := 2) rfl rfl hnp rfl rfl) rfl ?_
      refine W.now ?_
      have q0 := (Prod.mk.inj (Option.some.inj H)).1
      have q1 := (Prod.mk.inj (Prod.mk.inj (Option.some.inj H)).2).1
      have q2 := (Prod.mk.inj (Prod.mk.inj (Option.some.inj H)).2).2
      subst q0
      subst q1
      subst q2
      exact ⟨trivial, _, rfl, [0], (.tup [.ro (Rd.slice (Rd.int .u8)) false (([] : List Int) ++ (List.drop (Int.toNat (IntKind.wrap .i64 (Int.tdiv x3098 8))) (List.take (Int.toNat x3108) x3077))), .lit (.int .i64 0)]), (Mem.nil.push (.cells 50 [.ro (Rd.slice (Rd.int .u8)) false x3077, .lit (.int .i64 x3111)])), ⟨rfl, ⟨trivial, .inr ⟨rfl, rfl, rfl⟩⟩, by decide, rfl, ⟨trivial, rfl⟩⟩, rfl, rfl, rfl, rfl⟩
set_option maxRecDepth 100000 in
set_option maxHeartbeats 4000000 in
theorem s6 (k : Nat) (x2927 : (List Int)) (x2928 : (List S34Op)) (x3416 : Bool) (H : f6 k x2927 x2928 = some x3416) : Go.Q.Spec Try.prog 6 0 [.ro (Rd.slice (Rd.int .u8)) false x2927, .ro (Rd.slice rdS34Op) false x2928] Mem.nil (fun o M => o = .ret (.lit (.bool x3416)) ∧ M = Mem.nil) := by
  unfold f6 at H
  refine Go.Q.Spec.of_bodyR (rs := [.tmp 4]) (nt := 100) Try.func6 rfl rfl (by intro t T h; simp at h) rfl rfl fun cx hnp => ?_
  refine WP.seq ?_
  refine WP.region ?_
  refine WPL.q (q_as (v := .lit (.bool _)) rfl) rfl ?_
  refine WPL.nilW ?_
  refine W.now ?_
  refine Then.n ?_
  refine WP.seq ?_
  refine WP.region ?_
  refine WPL.q (q_mv (v := .ro _ _ _) rfl) rfl ?_
  obtain ⟨x3418, h3416, H⟩ := bnd H
  refine WPL.c (runs_call (s := []) (t := [0]) (N := 1) (bor := []) fn14 rfl (s14b k x2927 x3418 h3416) ⟨rfl, trivial, by decide, rfl, trivial⟩ rfl trivial (.ren rfl rfl .nil) rfl ⟨trivial, rfl⟩ rfl) rfl ?_
  refine WPL.q (q_as (v := .ptr _ _) rfl) rfl ?_
  refine WPL.nilW ?_
  refine W.now ?_
  refine Then.n ?_
  refine WP.seq ?_
  refine WP.region ?_
  refine WPL.q (q_mv (v := .ro _ _ _) rfl) rfl ?_
  refine WPL.q (q_build bu50 rfl) rfl ?_
  refine WPL.d (d_box rfl rfl) rfl ?_
  refine WPL.q (q_as (v := .ptr _ _) rfl) rfl ?_
  refine WPL.nilW ?_
  refine W.now ?_
  refine Then.n ?_
  refine WP.seq ?_
  refine WP.seq ?_
  refine WP.region ?_
  refine WPL.q (q_mv (v := .ptr _ _) rfl) rfl ?_
  refine WPL.q (q_eqlp Try.underlying35 rfl) rfl ?_
  refine WPL.q (q_mv (v := .lit (.bool _)) rfl) rfl ?_
  obtain ⟨x3426, h3424, H⟩ := bnd H
  refine WPL.cg rfl rfl rfl (runs_call (s := []) (t := []) (N := 2) (bor := []) fn11 rfl (s11 k x3426 h3424) ⟨rfl, trivial, by decide, rfl, trivial⟩ rfl trivial .nil rfl trivial rfl) rfl ?_
  refine WPL.qg rfl rfl rfl (q_not rfl) rfl ?_
  refine WPL.q (q_pickF (v := .lit (.bool _)) rfl rfl) rfl ?_
  refine WPL.nilW ?_
  refine W.now ?_
  refine Then.n ?_
  refine WP.cond (t := (!x3426)) rfl (fun hb => ?_) (fun hb => ?_)
  · replace H := cnt hb H
    refine WP.seq ?_
    refine WP.region ?_
    refine WPL.q (q_as (v := .lit (.bool _)) rfl) rfl ?_
    refine WPL.nilW ?_
    refine W.now ?_
    refine Then.n ?_
    refine WP.retW ?_
    refine W.now ?_
    refine Then.r ?_
    have q0 := (Option.some.inj H)
    subst q0
    exact ⟨trivial, _, rfl, [], (.lit (.bool false)), Mem.nil, ⟨rfl, trivial, by decide, rfl, trivial⟩, rfl, rfl, rfl, rfl⟩
  · replace H := cnf hb H
    refine WP.skipW ?_
    refine W.now ?_
    refine Then.n ?_
    refine WP.seq ?_
    refine WP.seq ?_
    refine WP.region ?_
    refine WPL.q (q_as (v := .lit (.int _ _)) rfl) rfl ?_
    refine WPL.nilW ?_
    refine W.now ?_
    refine Then.n ?_
    refine WP.block ?_
    refine WP.cv (Cv.weak (E' := ((((Env.none.upd 1 (.ro (Rd.slice rdS34Op) false x2928)).upd 5 (.ptr 0 0)).upd 6 (.ptr 1 0)).upd 7 (.lit (.int .i64 0)))) (M' := ((Mem.nil.push (.cells 63 [.ro (Rd.slice (Rd.int .u8)) false x3418, .lit (.int .i64 0)])).push (.cells 50 [.ro (Rd.slice (Rd.int .u8)) false x2927, .lit (.int .i64 0)]))) [0, 1] hnp ⟨rfl, ⟨⟨trivial, .inr ⟨rfl, rfl, rfl⟩⟩, .inr ⟨rfl, rfl, rfl⟩⟩, by decide, rfl, trivial⟩ (LeE.upd rfl rfl (LeE.upd rfl rfl (LeE.upd rfl rfl (LeE.upd rfl rfl (LeE.none rfl rfl)))))) ?_
    obtain ⟨y3918, H3916, H⟩ := bnd H
    refine WP.monoW (Q := fun x E M => match (generalizing := false) y3918 with | (Sum.inl _) => x = .ret ∧ E = (Env.none.upd 4 (.lit (.bool false))) ∧ M = Mem.nil | (Sum.inr _) => x = .exit 0 ∧ E = Env.none ∧ M = Mem.nil) ?_ ?_
    · refine WP.loop (β := Int × (List Int) × Int × Int) (fun n b => f6_l0 k x2927 x2928 n b.1 b.2.1 b.2.2.1 b.2.2.2 = some y3918) (fun b => ((((Env.none.upd 1 (.ro (Rd.slice rdS34Op) false x2928)).upd 5 (.ptr 0 0)).upd 6 (.ptr 1 0)).upd 7 (.lit (.int .i64 b.1)))) (fun b => ((Mem.nil.push (.cells 63 [.ro (Rd.slice (Rd.int .u8)) false b.2.1, .lit (.int .i64 b.2.2.1)])).push (.cells 50 [.ro (Rd.slice (Rd.int .u8)) false x2927, .lit (.int .i64 b.2.2.2)]))) k (0, x3418, 0, 0) H3916 rfl rfl ?_
      rintro n ⟨x3589, x3590, x3591, x3592⟩ H
      obtain _ | n := n
      · exact nf rfl H
      rw [f6_l0.eq_2] at H
      show WP _ _ _ _ ((((Env.none.upd 1 (.ro (Rd.slice rdS34Op) false x2928)).upd 5 (.ptr 0 0)).upd 6 (.ptr 1 0)).upd 7 (.lit (.int .i64 x3589))) ((Mem.nil.push (.cells 63 [.ro (Rd.slice (Rd.int .u8)) false x3590, .lit (.int .i64 x3591)])).push (.cells 50 [.ro (Rd.slice (Rd.int .u8)) false x2927, .lit (.int .i64 x3592)])) _
      refine WP.seq ?_
      refine WP.seq ?_
      refine WP.region ?_
      refine WPL.q (q_mv (v := .lit (.int _ _)) rfl) rfl ?_
      refine WPL.q (q_mv (v := .ro _ _ _) rfl) rfl ?_
      refine WPL.q (q_len_ro sl28 rfl) rfl ?_
      obtain ⟨x3756, h3756, H⟩ := bnd H
      refine WPL.q (q_nm (q_lss rfl rfl) (nm_bool h3756)) rfl ?_
      refine WPL.nilW ?_
      refine W.now ?_
      refine Then.n ?_
      refine WP.cond (t := x3756) rfl (fun hb => ?_) (fun hb => ?_)
      · replace H := cnt hb H
        refine WP.skipW ?_
        refine W.now ?_
        refine Then.n ?_
        refine WP.seq ?_
        refine WP.block ?_
        refine WP.seq ?_
        refine WP.region ?_
        refine WPL.q (q_mv (v := .ro _ _ _) rfl) rfl ?_
        refine WPL.q (q_mv (v := .lit (.int _ _)) rfl) rfl ?_
        obtain ⟨x3837, h3837, H⟩ := bnd H
        refine WPL.q (q_index_ro sl28 rfl rfl rfl h3837) rfl ?_
        refine WPL.q (q_load_roag ag34 rfl rfl S34Op.sp) rfl ?_
        refine WPL.d (d_alloc ze34 rfl) rfl ?_
        refine WPL.s (s_store sz34 rfl rfl rfl rfl rfl) ?_
        refine WPL.nilW ?_
        refine W.now ?_
        refine Then.n ?_
        refine WP.seq ?_
        obtain ⟨y3912, H3910, H⟩ := bnd H
        refine WP.monoW (Q := fun x E M => match (generalizing := false) y3912 with | (Sum.inl _) => x = .ret ∧ E = (Env.none.upd 4 (.lit (.bool false))) ∧ M = Mem.nil | (Sum.inr (x3873, x3874, x3875)) => x = .normal ∧ E = ((((Env.none.upd 1 (.ro (Rd.slice rdS34Op) false x2928)).upd 5 (.ptr 0 0)).upd 6 (.ptr 1 0)).upd 7 (.lit (.int .i64 x3589))) ∧ M = ((Mem.nil.push (.cells 63 [.ro (Rd.slice (Rd.int .u8)) false x3873, .lit (.int .i64 x3874)])).push (.cells 50 [.ro (Rd.slice (Rd.int .u8)) false x2927, .lit (.int .i64 x3875)]))) ?_ ?_
        · clear H
          have H := H3910
          clear H3910
          refine WP.seq ?_
          refine WP.region ?_
          refine WPL.q (q_fieldAddr fi34_0 rfl rfl) rfl ?_
          refine WPL.q (q_load sc3 rfl rfl rfl) rfl ?_
          refine WPL.nilW ?_
          refine W.now ?_
          refine Then.n ?_
          refine WP.block ?_
          refine WP.seq ?_
          refine WP.region ?_
          refine WPL.q (q_eql rfl rfl) rfl ?_
          refine WPL.q (q_as (v := .lit (.bool _)) rfl) rfl ?_
          refine WPL.nilW ?_
          refine W.now ?_
          refine Then.n ?_
          refine WP.cond (t := (decide (x3837.fKind = 1))) rfl (fun hb => ?_) (fun hb => ?_)
          · replace H := cnt hb H
            refine WP.seq ?_
            refine WP.region ?_
            refine WPL.q (q_mv (v := .ptr _ _) rfl) rfl ?_
            refine WPL.q (q_fieldAddr fi34_1 rfl rfl) rfl ?_
            refine WPL.q (q_load sc3 rfl rfl rfl) rfl ?_
            obtain ⟨⟨x3877, x3878, x3879, x3880⟩, h3875, H⟩ := bnd H
            refine WPL.c (runs_call (s := [0]) (t := [0]) (N := 3) (bor := []) fn16 rfl (s16 k x3837.fN x3590 x3591 x3877 x3878 x3879 x3880 h3875) ⟨rfl, ⟨trivial, .inr ⟨rfl, rfl, rfl⟩⟩, by decide, rfl, trivial⟩ rfl trivial (.ren rfl rfl (.ren rfl rfl .nil)) rfl ⟨trivial, rfl⟩ rfl) rfl ?_
            refine WPL.q (q_mv (v := .tup _) rfl) rfl ?_
            refine WPL.q (q_extract rfl rfl) rfl ?_
            refine WPL.q (q_extract rfl rfl) rfl ?_
            refine WPL.q (q_as (v := .lit (.int _ _)) rfl) rfl ?_
            refine WPL.q (q_as (v := .lit (.int _ _)) rfl) rfl ?_
            refine WPL.nilW ?_
            refine W.now ?_
            refine Then.n ?_
            refine WP.seq ?_
            refine WP.region ?_
            refine WPL.q (q_mv (v := .ptr _ _) rfl) rfl ?_
            refine WPL.q (q_fieldAddr fi34_1 rfl rfl) rfl ?_
            refine WPL.q (q_load sc3 rfl rfl rfl) rfl ?_
            obtain ⟨⟨x3882, x3883, x3884⟩, h3880, H⟩ := bnd H
            refine WPL.c (runs_call (s := [1]) (t := [1]) (N := 3) (bor := []) fn26 rfl (s26 k x3837.fN x2927 x3592 x3882 x3883 x3884 h3880) ⟨rfl, ⟨trivial, .inr ⟨rfl, rfl, rfl⟩⟩, by decide, rfl, trivial⟩ rfl trivial (.ren rfl rfl (.ren rfl rfl .nil)) rfl ⟨trivial, rfl⟩ rfl) rfl ?_
            refine WPL.q (q_mv (v := .tup _) rfl) rfl ?_
            refine WPL.q (q_extract rfl rfl) rfl ?_
            refine WPL.q (q_extract rfl rfl) rfl ?_
            refine WPL.q (q_as (v := .lit (.int _ _)) rfl) rfl ?_
            refine WPL.q (q_as (v := .lit (.int _ _)) rfl) rfl ?_
            refine WPL.nilW ?_
            refine W.now ?_
            refine Then.n ?_
            refine WP.seq ?_
            obtain ⟨x3886, H3887, H⟩ := bnd H
            refine WP.monoW (Q := fun x E M => x = .normal ∧ E = (((((Env.none.upd 1 (.ro (Rd.slice rdS34Op) false x2928)).upd 5 (.ptr 0 0)).upd 6 (.ptr 1 0)).upd 7 (.lit (.int .i64 x3589))).upd 63 (.lit (.bool x3886))) ∧ M = ((Mem.nil.push (.cells 63 [.ro (Rd.slice (Rd.int .u8)) false x3879, .lit (.int .i64 x3880)])).push (.cells 50 [.ro (Rd.slice (Rd.int .u8)) false x2927, .lit (.int .i64 x3884)]))) ?_ ?_
            · clear H
              have H := H3887
              clear H3887
              refine WP.region ?_
              refine WPL.q (q_mv (v := .lit (.int _ _)) rfl) rfl ?_
              refine WPL.q (q_mv (v := .lit (.int _ _)) rfl) rfl ?_
              refine WPL.q (q_neq rfl rfl) rfl ?_
              refine WPL.q (q_mv (v := .lit (.bool _)) rfl) rfl ?_
              refine WPL.split (t := 59) (b := (!decide (x3877 = x3882))) rfl (fun hb3886 => ?_) (fun hb3886 => ?_)
              · replace H := cnt hb3886 H
                refine WPL.skipg (b' := true) rfl rfl (lb hb3886) rfl rfl ?_
                refine WPL.skipg (b' := true) rfl rfl (lb hb3886) rfl rfl ?_
                refine WPL.skipg (b' := true) rfl rfl (lb hb3886) rfl rfl ?_
                refine WPL.q (q_pickT (v := .lit (.bool _)) (lb hb3886) rfl) rfl ?_
                refine WPL.nilW ?_
                refine W.cv (Cv.weak (E' := (((((Env.none.upd 1 (.ro (Rd.slice rdS34Op) false x2928)).upd 5 (.ptr 0 0)).upd 6 (.ptr 1 0)).upd 7 (.lit (.int .i64 x3589))).upd 63 (.lit (.bool true)))) (M' := ((Mem.nil.push (.cells 63 [.ro (Rd.slice (Rd.int .u8)) false x3879, .lit (.int .i64 x3880)])).push (.cells 50 [.ro (Rd.slice (Rd.int .u8)) false x2927, .lit (.int .i64 x3884)]))) [0, 1] hnp ⟨rfl, ⟨⟨trivial, .inr ⟨rfl, rfl, rfl⟩⟩, .inr ⟨rfl, rfl, rfl⟩⟩, by decide, rfl, trivial⟩ (LeE.upd rfl rfl (LeE.upd rfl rfl (LeE.upd rfl rfl (LeE.upd rfl rfl (LeE.upd rfl rfl (LeE.none rfl rfl))))))) rfl ?_
                refine W.now ?_
                have q0 := (Option.some.inj H)
                subst q0
                exact ⟨rfl, rfl, rfl⟩
              · replace H := cnf hb3886 H
                refine WPL.qg rfl rfl (lb hb3886) (q_mv (v := .lit (.int _ _)) rfl) rfl ?_
                refine WPL.qg rfl rfl (lb hb3886) (q_mv (v := .lit (.int _ _)) rfl) rfl ?_
                refine WPL.qg rfl rfl (lb hb3886) (q_neq rfl rfl) rfl ?_
                refine WPL.q (q_pickF (v := .lit (.bool _)) (lb hb3886) rfl) rfl ?_
                refine WPL.nilW ?_
                refine W.cv (Cv.weak (E' := (((((Env.none.upd 1 (.ro (Rd.slice rdS34Op) false x2928)).upd 5 (.ptr 0 0)).upd 6 (.ptr 1 0)).upd 7 (.lit (.int .i64 x3589))).upd 63 (.lit (.bool (!decide (x3878 = x3883)))))) (M' := ((Mem.nil.push (.cells 63 [.ro (Rd.slice (Rd.int .u8)) false x3879, .lit (.int .i64 x3880)])).push (.cells 50 [.ro (Rd.slice (Rd.int .u8)) false x2927, .lit (.int .i64 x3884)]))) [0, 1] hnp ⟨rfl, ⟨⟨trivial, .inr ⟨rfl, rfl, rfl⟩⟩, .inr ⟨rfl, rfl, rfl⟩⟩, by decide, rfl, trivial⟩ (LeE.upd rfl rfl (LeE.upd rfl rfl (LeE.upd rfl rfl (LeE.upd rfl rfl (LeE.upd rfl rfl (LeE.none rfl rfl))))))) rfl ?_
                refine W.now ?_
                have q0 := (Option.some.inj H)
                subst q0
                exact ⟨rfl, rfl, rfl⟩
            · rintro _ _ _ ⟨rfl, rfl, rfl⟩
              refine W.now ?_
              refine Then.n ?_
              refine WP.cond (t := x3886) rfl (fun hb => ?_) (fun hb => ?_)
              · replace H := cnt hb H
                refine WP.seq ?_
                refine WP.region ?_
                refine WPL.q (q_as (v := .lit (.bool _)) rfl) rfl ?_
                refine WPL.nilW ?_
                refine W.now ?_
                refine Then.n ?_
                refine WP.retW ?_
                refine W.cv (Cv.weak (E' := (Env.none.upd 4 (.lit (.bool false)))) (M' := Mem.nil) [] hnp ⟨rfl, trivial, by decide, rfl, trivial⟩ (LeE.upd rfl rfl (LeE.none rfl rfl))) rfl ?_
                refine W.now ?_
                refine InBlock.r ?_
                have q0 := Option.some.inj H
                subst q0
                exact ⟨rfl, rfl, rfl⟩
              · replace H := cnf hb H
                refine WP.skipW ?_
                refine W.cv (Cv.weak (E' := ((((Env.none.upd 1 (.ro (Rd.slice rdS34Op) false x2928)).upd 5 (.ptr 0 0)).upd 6 (.ptr 1 0)).upd 7 (.lit (.int .i64 x3589)))) (M' := ((Mem.nil.push (.cells 63 [.ro (Rd.slice (Rd.int .u8)) false x3879, .lit (.int .i64 x3880)])).push (.cells 50 [.ro (Rd.slice (Rd.int .u8)) false x2927, .lit (.int .i64 x3884)]))) [0, 1] hnp ⟨rfl, ⟨⟨trivial, .inr ⟨rfl, rfl, rfl⟩⟩, .inr ⟨rfl, rfl, rfl⟩⟩, by decide, rfl, trivial⟩ (LeE.upd rfl rfl (LeE.upd rfl rfl (LeE.upd rfl rfl (LeE.upd rfl rfl (LeE.none rfl rfl)))))) rfl ?_
                refine W.now ?_
                refine InBlock.n ?_
                have q0 := Option.some.inj H
                subst q0
                exact ⟨rfl, rfl, rfl⟩
          · replace H := cnf hb H
            refine WP.seq ?_
            refine WP.region ?_
            refine WPL.q (q_eql rfl rfl) rfl ?_
            refine WPL.q (q_as (v := .lit (.bool _)) rfl) rfl ?_
            refine WPL.nilW ?_
            refine W.now ?_
            refine Then.n ?_
            refine WP.cond (t := (decide (x3837.fKind = 2))) rfl (fun hb => ?_) (fun hb => ?_)
            · replace H := cnt hb H
              refine WP.seq ?_
              refine WP.region ?_
              refine WPL.q (q_mv (v := .ptr _ _) rfl) rfl ?_
              obtain ⟨⟨x3890, x3891⟩, h3888, H⟩ := bnd H
              refine WPL.c (runs_call (s := [0]) (t := [0]) (N := 3) (bor := []) fn27 rfl (s27 k x3590 x3591 x3890 x3891 h3888) ⟨rfl, ⟨trivial, .inr ⟨rfl, rfl, rfl⟩⟩, by decide, rfl, trivial⟩ rfl trivial (.ren rfl rfl .nil) rfl ⟨trivial, rfl⟩ rfl) rfl ?_
              refine WPL.nilW ?_
              refine W.now ?_
              refine Then.n ?_
              refine WP.region ?_
              refine WPL.q (q_mv (v := .ptr _ _) rfl) rfl ?_
              obtain ⟨x3893, h3891, H⟩ := bnd H
              refine WPL.c (runs_call (s := [1]) (t := [1]) (N := 3) (bor := []) fn28 rfl (s28 k x2927 x3592 x3893 h3891) ⟨rfl, ⟨trivial, .inr ⟨rfl, rfl, rfl⟩⟩, by decide, rfl, trivial⟩ rfl trivial (.ren rfl rfl .nil) rfl ⟨trivial, rfl⟩ rfl) rfl ?_
              refine WPL.nilW ?_
              refine W.cv (Cv.weak (E' := ((((Env.none.upd 1 (.ro (Rd.slice rdS34Op) false x2928)).upd 5 (.ptr 0 0)).upd 6 (.ptr 1 0)).upd 7 (.lit (.int .i64 x3589)))) (M' := ((Mem.nil.push (.cells 63 [.ro (Rd.slice (Rd.int .u8)) false x3890, .lit (.int .i64 x3891)])).push (.cells 50 [.ro (Rd.slice (Rd.int .u8)) false x2927, .lit (.int .i64 x3893)]))) [0, 1] hnp ⟨rfl, ⟨⟨trivial, .inr ⟨rfl, rfl, rfl⟩⟩, .inr ⟨rfl, rfl, rfl⟩⟩, by decide, rfl, trivial⟩ (LeE.upd rfl rfl (LeE.upd rfl rfl (LeE.upd rfl rfl (LeE.upd rfl rfl (LeE.none rfl rfl)))))) rfl ?_
              refine W.now ?_
              refine InBlock.n ?_
              have q0 := Option.some.inj H
              subst q0
              exact ⟨rfl, rfl, rfl⟩
            · replace H := cnf hb H
              refine WP.seq ?_
              refine WP.region ?_
              refine WPL.q (q_eql rfl rfl) rfl ?_
              refine WPL.q (q_as (v := .lit (.bool _)) rfl) rfl ?_
              refine WPL.nilW ?_
              refine W.now ?_
              refine Then.n ?_
              refine WP.cond (t := (decide (x3837.fKind = 3))) rfl (fun hb => ?_) (fun hb => ?_)
              · replace H := cnt hb H
                refine WP.seq ?_
                refine WP.region ?_
                refine WPL.q (q_mv (v := .ptr _ _) rfl) rfl ?_
                refine WPL.q (q_fieldAddr fi34_1 rfl rfl) rfl ?_
                refine WPL.q (q_load sc3 rfl rfl rfl) rfl ?_
                obtain ⟨⟨x3895, x3896, x3897, x3898⟩, h3893, H⟩ := bnd H
                refine WPL.c (runs_call (s := [0]) (t := [0]) (N := 3) (bor := []) fn29 rfl (s29 k x3837.fN x3590 x3591 x3895 x3896 x3897 x3898 h3893) ⟨rfl, ⟨trivial, .inr ⟨rfl, rfl, rfl⟩⟩, by decide, rfl, trivial⟩ rfl trivial (.ren rfl rfl (.ren rfl rfl .nil)) rfl ⟨trivial, rfl⟩ rfl) rfl ?_
                refine WPL.q (q_mv (v := .tup _) rfl) rfl ?_
                refine WPL.q (q_extract rfl rfl) rfl ?_
                refine WPL.q (q_extract rfl rfl) rfl ?_
                refine WPL.q (q_as (v := .ro _ _ _) rfl) rfl ?_
                refine WPL.q (q_as (v := .lit (.int _ _)) rfl) rfl ?_
                refine WPL.nilW ?_
                refine W.now ?_
                refine Then.n ?_
                refine WP.seq ?_
                refine WP.region ?_
                refine WPL.q (q_mv (v := .ptr _ _) rfl) rfl ?_
                refine WPL.q (q_fieldAddr fi34_1 rfl rfl) rfl ?_
                refine WPL.q (q_load sc3 rfl rfl rfl) rfl ?_
                obtain ⟨⟨x3900, x3901, x3902⟩, h3898, H⟩ := bnd H
                refine WPL.c (runs_call (s := [1]) (t := [1]) (N := 3) (bor := []) fn30 rfl (s30 k x3837.fN x2927 x3592 x3900 x3901 x3902 h3898) ⟨rfl, ⟨trivial, .inr ⟨rfl, rfl, rfl⟩⟩, by decide, rfl, trivial⟩ rfl trivial (.ren rfl rfl (.ren rfl rfl .nil)) rfl ⟨trivial, rfl⟩ rfl) rfl ?_
                refine WPL.q (q_mv (v := .tup _) rfl) rfl ?_
                refine WPL.q (q_extract rfl rfl) rfl ?_
                refine WPL.q (q_extract rfl rfl) rfl ?_
                refine WPL.q (q_as (v := .ro _ _ _) rfl) rfl ?_
                refine WPL.q (q_as (v := .lit (.int _ _)) rfl) rfl ?_
                refine WPL.nilW ?_
                refine W.now ?_
                refine Then.n ?_
                refine WP.seq ?_
                obtain ⟨x3906, H3909, H⟩ := bnd H
                refine WP.monoW (Q := fun x E M => x = .normal ∧ E = (((((Env.none.upd 1 (.ro (Rd.slice rdS34Op) false x2928)).upd 5 (.ptr 0 0)).upd 6 (.ptr 1 0)).upd 7 (.lit (.int .i64 x3589))).upd 94 (.lit (.bool x3906))) ∧ M = ((Mem.nil.push (.cells 63 [.ro (Rd.slice (Rd.int .u8)) false x3897, .lit (.int .i64 x3898)])).push (.cells 50 [.ro (Rd.slice (Rd.int .u8)) false x2927, .lit (.int .i64 x3902)]))) ?_ ?_
                · clear H
                  have H := H3909
                  clear H3909
                  refine WP.region ?_
                  refine WPL.q (q_mv (v := .lit (.int _ _)) rfl) rfl ?_
                  refine WPL.q (q_mv (v := .lit (.int _ _)) rfl) rfl ?_
                  refine WPL.q (q_neq rfl rfl) rfl ?_
                  refine WPL.q (q_mv (v := .lit (.bool _)) rfl) rfl ?_
                  refine WPL.split (t := 89) (b := (!decide (x3896 = x3901))) rfl (fun hb3906 => ?_) (fun hb3906 => ?_)
                  · replace H := cnt hb3906 H
                    refine WPL.skipg (b' := true) rfl rfl (lb hb3906) rfl rfl ?_
                    refine WPL.skipg (b' := true) rfl rfl (lb hb3906) rfl rfl ?_
                    refine WPL.skipg (b' := true) rfl rfl (lb hb3906) rfl rfl ?_
                    refine WPL.skipg (b' := true) rfl rfl (lb hb3906) rfl rfl ?_
                    refine WPL.q (q_pickT (v := .lit (.bool _)) (lb hb3906) rfl) rfl ?_
                    refine WPL.nilW ?_
                    refine W.cv (Cv.weak (E' := (((((Env.none.upd 1 (.ro (Rd.slice rdS34Op) false x2928)).upd 5 (.ptr 0 0)).upd 6 (.ptr 1 0)).upd 7 (.lit (.int .i64 x3589))).upd 94 (.lit (.bool true)))) (M' := ((Mem.nil.push (.cells 63 [.ro (Rd.slice (Rd.int .u8)) false x3897, .lit (.int .i64 x3898)])).push (.cells 50 [.ro (Rd.slice (Rd.int .u8)) false x2927, .lit (.int .i64 x3902)]))) [0, 1] hnp ⟨rfl, ⟨⟨trivial, .inr ⟨rfl, rfl, rfl⟩⟩, .inr ⟨rfl, rfl, rfl⟩⟩, by decide, rfl, trivial⟩ (LeE.upd rfl rfl (LeE.upd rfl rfl (LeE.upd rfl rfl (LeE.upd rfl rfl (LeE.upd rfl rfl (LeE.none rfl rfl))))))) rfl ?_
                    refine W.now ?_
                    have q0 := (Option.some.inj H)
                    subst q0
                    exact ⟨rfl, rfl, rfl⟩
                  · replace H := cnf hb3906 H
                    refine WPL.qg rfl rfl (lb hb3906) (q_mv (v := .ro _ _ _) rfl) rfl ?_
                    refine WPL.qg rfl rfl (lb hb3906) (q_mv (v := .ro _ _ _) rfl) rfl ?_
                    obtain ⟨x3909, h3907, H⟩ := bnd H
                    refine WPL.cg rfl rfl (lb hb3906) (runs_call (s := []) (t := []) (N := 3) (bor := []) fn24 rfl (s24 k x3895 x3900 x3909 h3907) ⟨rfl, trivial, by decide, rfl, trivial⟩ rfl trivial (.ren rfl rfl (.ren rfl rfl .nil)) rfl trivial rfl) rfl ?_
                    refine WPL.qg rfl rfl (lb hb3906) (q_not rfl) rfl ?_
                    refine WPL.q (q_pickF (v := .lit (.bool _)) (lb hb3906) rfl) rfl ?_
                    refine WPL.nilW ?_
                    refine W.cv (Cv.weak (E' := (((((Env.none.upd 1 (.ro (Rd.slice rdS34Op) false x2928)).upd 5 (.ptr 0 0)).upd 6 (.ptr 1 0)).upd 7 (.lit (.int .i64 x3589))).upd 94 (.lit (.bool (!x3909))))) (M' := ((Mem.nil.push (.cells 63 [.ro (Rd.slice (Rd.int .u8)) false x3897, .lit (.int .i64 x3898)])).push (.cells 50 [.ro (Rd.slice (Rd.int .u8)) false x2927, .lit (.int .i64 x3902)]))) [0, 1] hnp ⟨rfl, ⟨⟨trivial, .inr ⟨rfl, rfl, rfl⟩⟩, .inr ⟨rfl, rfl, rfl⟩⟩, by decide, rfl, trivial⟩ (LeE.upd rfl rfl (LeE.upd rfl rfl (LeE.upd rfl rfl (LeE.upd rfl rfl (LeE.upd rfl rfl (LeE.none rfl rfl))))))) rfl ?_
                    refine W.now ?_
                    have q0 := (Option.some.inj H)
                    subst q0
                    exact ⟨rfl, rfl, rfl⟩
                · rintro _ _ _ ⟨rfl, rfl, rfl⟩
                  refine W.now ?_
                  refine Then.n ?_
                  refine WP.cond (t := x3906) rfl (fun hb => ?_) (fun hb => ?_)
                  · replace H := cnt hb H
                    refine WP.seq ?_
                    refine WP.region ?_
                    refine WPL.q (q_as (v := .lit (.bool _)) rfl) rfl ?_
                    refine WPL.nilW ?_
                    refine W.now ?_
                    refine Then.n ?_
                    refine WP.retW ?_
                    refine W.cv (Cv.weak (E' := (Env.none.upd 4 (.lit (.bool false)))) (M' := Mem.nil) [] hnp ⟨rfl, trivial, by decide, rfl, trivial⟩ (LeE.upd rfl rfl (LeE.none rfl rfl))) rfl ?_
                    refine W.now ?_
                    refine InBlock.r ?_
                    have q0 := Option.some.inj H
                    subst q0
                    exact ⟨rfl, rfl, rfl⟩
                  · replace H := cnf hb H
                    refine WP.skipW ?_
                    refine W.cv (Cv.weak (E' := ((((Env.none.upd 1 (.ro (Rd.slice rdS34Op) false x2928)).upd 5 (.ptr 0 0)).upd 6 (.ptr 1 0)).upd 7 (.lit (.int .i64 x3589)))) (M' := ((Mem.nil.push (.cells 63 [.ro (Rd.slice (Rd.int .u8)) false x3897, .lit (.int .i64 x3898)])).push (.cells 50 [.ro (Rd.slice (Rd.int .u8)) false x2927, .lit (.int .i64 x3902)]))) [0, 1] hnp ⟨rfl, ⟨⟨trivial, .inr ⟨rfl, rfl, rfl⟩⟩, .inr ⟨rfl, rfl, rfl⟩⟩, by decide, rfl, trivial⟩ (LeE.upd rfl rfl (LeE.upd rfl rfl (LeE.upd rfl rfl (LeE.upd rfl rfl (LeE.none rfl rfl)))))) rfl ?_
                    refine W.now ?_
                    refine InBlock.n ?_
                    have q0 := Option.some.inj H
                    subst q0
                    exact ⟨rfl, rfl, rfl⟩
              · replace H := cnf hb H
                refine WP.skipW ?_
                refine W.cv (Cv.weak (E' := ((((Env.none.upd 1 (.ro (Rd.slice rdS34Op) false x2928)).upd 5 (.ptr 0 0)).upd 6 (.ptr 1 0)).upd 7 (.lit (.int .i64 x3589)))) (M' := ((Mem.nil.push (.cells 63 [.ro (Rd.slice (Rd.int .u8)) false x3590, .lit (.int .i64 x3591)])).push (.cells 50 [.ro (Rd.slice (Rd.int .u8)) false x2927, .lit (.int .i64 x3592)]))) [0, 1] hnp ⟨rfl, ⟨⟨trivial, .inr ⟨rfl, rfl, rfl⟩⟩, .inr ⟨rfl, rfl, rfl⟩⟩, by decide, rfl, trivial⟩ (LeE.upd rfl rfl (LeE.upd rfl rfl (LeE.upd rfl rfl (LeE.upd rfl rfl (LeE.none rfl rfl)))))) rfl ?_
                refine W.now ?_
                refine InBlock.n ?_
                have q0 := Option.some.inj H
                subst q0
                exact ⟨rfl, rfl, rfl⟩
        · rcases y3912 with _ | ⟨x3873, x3874, x3875⟩
          · rintro _ _ _ ⟨rfl, rfl, rfl⟩
            refine W.cv (Cv.weak (E' := (Env.none.upd 4 (.lit (.bool false)))) (M' := Mem.nil) [] hnp ⟨rfl, trivial, by decide, rfl, trivial⟩ (LeE.upd rfl rfl (LeE.none rfl rfl))) rfl ?_
            refine W.now ?_
            refine Then.r ?_
            refine InBlock.r ?_
            refine Then.r ?_
            refine Then.r ?_
            have q0 := Option.some.inj H
            subst q0
            exact ⟨rfl, rfl, rfl⟩
          · rintro _ _ _ ⟨rfl, rfl, rfl⟩
            refine W.now ?_
            refine Then.n ?_
            refine WP.seq ?_
            refine WP.region ?_
            refine WPL.q (q_mv (v := .ptr _ _) rfl) rfl ?_
            obtain ⟨x3914, h3912, H⟩ := bnd H
            refine WPL.c (runs_call (s := [0]) (t := [0]) (N := 2) (bor := []) fn17 rfl (s17 k x3873 x3874 x3914 h3912) ⟨rfl, ⟨trivial, .inr ⟨rfl, rfl, rfl⟩⟩, by decide, rfl, trivial⟩ rfl trivial (.ren rfl rfl .nil) rfl ⟨trivial, rfl⟩ rfl) rfl ?_
            refine WPL.q (q_mv (v := .ptr _ _) rfl) rfl ?_
            obtain ⟨x3916, h3914, H⟩ := bnd H
            refine WPL.c (runs_call (s := [1]) (t := [1]) (N := 2) (bor := []) fn31 rfl (s31 k x2927 x3875 x3916 h3914) ⟨rfl, ⟨trivial, .inr ⟨rfl, rfl, rfl⟩⟩, by decide, rfl, trivial⟩ rfl trivial (.ren rfl rfl .nil) rfl ⟨trivial, rfl⟩ rfl) rfl ?_
            refine WPL.q (q_neq rfl rfl) rfl ?_
            refine WPL.nilW ?_
            refine W.now ?_
            refine Then.n ?_
            refine WP.cond (t := (!decide (x3914 = x3916))) rfl (fun hb => ?_) (fun hb => ?_)
            · replace H := cnt hb H
              refine WP.seq ?_
              refine WP.region ?_
              refine WPL.q (q_as (v := .lit (.bool _)) rfl) rfl ?_
              refine WPL.nilW ?_
              refine W.now ?_
              refine Then.n ?_
              refine WP.retW ?_
              refine W.cv (Cv.weak (E' := (Env.none.upd 4 (.lit (.bool false)))) (M' := Mem.nil) [] hnp ⟨rfl, trivial, by decide, rfl, trivial⟩ (LeE.upd rfl rfl (LeE.none rfl rfl))) rfl ?_
              refine W.now ?_
              refine InBlock.r ?_
              refine Then.r ?_
              refine Then.r ?_
              have q0 := Option.some.inj H
              subst q0
              exact ⟨rfl, rfl, rfl⟩
            · replace H := cnf hb H
              refine WP.skipW ?_
              refine W.now ?_
              refine InBlock.n ?_
              refine Then.n ?_
              refine WP.region ?_
              refine WPL.q (q_mv (v := .lit (.int _ _)) rfl) rfl ?_
              refine WPL.q (q_add rfl rfl) rfl ?_
              refine WPL.q (q_as (v := .lit (.int _ _)) rfl) rfl ?_
              refine WPL.nilW ?_
              refine W.cv (Cv.weak (E' := ((((Env.none.upd 1 (.ro (Rd.slice rdS34Op) false x2928)).upd 5 (.ptr 0 0)).upd 6 (.ptr 1 0)).upd 7 (.lit (.int .i64 (IntKind.wrap .i64 (x3589 + 1)))))) (M' := ((Mem.nil.push (.cells 63 [.ro (Rd.slice (Rd.int .u8)) false x3873, .lit (.int .i64 x3874)])).push (.cells 50 [.ro (Rd.slice (Rd.int .u8)) false x2927, .lit (.int .i64 x3875)]))) [0, 1] hnp ⟨rfl, ⟨⟨trivial, .inr ⟨rfl, rfl, rfl⟩⟩, .inr ⟨rfl, rfl, rfl⟩⟩, by decide, rfl, trivial⟩ (LeE.upd rfl rfl (LeE.upd rfl rfl (LeE.upd rfl rfl (LeE.upd rfl rfl (LeE.none rfl rfl)))))) rfl ?_
              refine W.now ?_
              exact Then.n ⟨n, ((IntKind.wrap .i64 (x3589 + 1)), x3873, x3874, x3875), Nat.lt_succ_self n, H, rfl, rfl⟩
      · replace H := cnf hb H
        refine WP.exitW ?_
        refine W.cv (Cv.weak (E' := Env.none) (M' := Mem.nil) [] hnp ⟨rfl, trivial, by decide, rfl, trivial⟩ (LeE.none rfl rfl)) rfl ?_
        refine W.now ?_
        refine Then.x ?_
        refine Then.x ?_
        have q0 := Option.some.inj H
        subst q0
        exact ⟨rfl, rfl, rfl⟩
    · rcases y3918 with _ | _
      · rintro _ _ _ ⟨rfl, rfl, rfl⟩
        refine W.now ?_
        refine InBlock.r ?_
        refine Then.r ?_
        have q0 := (Option.some.inj H)
        subst q0
        exact ⟨trivial, _, rfl, [], (.lit (.bool false)), Mem.nil, ⟨rfl, trivial, by decide, rfl, trivial⟩, rfl, rfl, rfl, rfl⟩
      · rintro _ _ _ ⟨rfl, rfl, rfl⟩
        refine W.now ?_
        refine InBlock.x0 ?_
        refine Then.n ?_
        refine WP.seq ?_
        refine WP.region ?_
        refine WPL.q (q_as (v := .lit (.bool _)) rfl) rfl ?_
        refine WPL.nilW ?_
        refine W.now ?_
        refine Then.n ?_
        refine WP.retW ?_
        refine W.now ?_
        have q0 := (Option.some.inj H)
        subst q0
        exact ⟨trivial, _, rfl, [], (.lit (.bool true)), Mem.nil, ⟨rfl, trivial, by decide, rfl, trivial⟩, rfl, rfl, rfl, rfl⟩
end Go.Proofs.Yticbhcccdfcogaa.W
