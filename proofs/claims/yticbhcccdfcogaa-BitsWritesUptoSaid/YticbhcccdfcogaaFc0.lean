/- Walks: Fc0 -/
import Derived.Test.YticbhcccdfcogaaFb
namespace Go.Proofs.Yticbhcccdfcogaa.W
open Go Go.Q Go.Proofs
set_option linter.unusedVariables false
set_option linter.unusedSimpArgs false
set_option maxRecDepth 100000 in
set_option maxHeartbeats 4000000 in
theorem s36 (k : Nat) (x18 : Int) (x21 : Int) (H : f36 k x18 = some x21) : Go.Q.Spec Try.prog 36 0 [.lit (.int .u32 x18)] Mem.nil (fun o M => o = .ret (.lit (.int .u32 x21)) ∧ M = Mem.nil) := by
  unfold f36 at H
  refine Go.Q.Spec.of_bodyR (rs := [.tmp 2]) (nt := 15) Try.func36 rfl rfl (by intro t T h; simp at h) rfl rfl fun cx hnp => ?_
  refine WP.seq ?_
  refine WP.region ?_
  refine WPL.q (q_as (v := .lit (.int _ _)) rfl) rfl ?_
  refine WPL.nilW ?_
  refine W.now ?_
  refine Then.n ?_
  refine WP.seq ?_
  refine WP.region ?_
  refine WPL.q (q_mv (v := .lit (.int _ _)) rfl) rfl ?_
  refine WPL.q (q_shr rfl rfl rfl) rfl ?_
  refine WPL.q (q_and rfl rfl) rfl ?_
  refine WPL.q (q_mv (v := .lit (.int _ _)) rfl) rfl ?_
  refine WPL.q (q_and rfl rfl) rfl ?_
  refine WPL.q (q_shl rfl rfl rfl) rfl ?_
  obtain ⟨x22, h22, H⟩ := bnd H
  refine WPL.q (q_nm (q_or rfl rfl) (nm_int h22)) rfl ?_
  refine WPL.q (q_as (v := .lit (.int _ _)) rfl) rfl ?_
  refine WPL.nilW ?_
  refine W.now ?_
  refine Then.n ?_
  refine WP.seq ?_
  refine WP.region ?_
  refine WPL.q (q_mv (v := .lit (.int _ _)) rfl) rfl ?_
  refine WPL.q (q_shr rfl rfl rfl) rfl ?_
  refine WPL.q (q_mv (v := .lit (.int _ _)) rfl) rfl ?_
  refine WPL.q (q_shl rfl rfl rfl) rfl ?_
  obtain ⟨x23, h23, H⟩ := bnd H
  refine WPL.q (q_nm (q_or rfl rfl) (nm_int h23)) rfl ?_
  refine WPL.q (q_as (v := .lit (.int _ _)) rfl) rfl ?_
  refine WPL.nilW ?_
  refine W.now ?_
  refine Then.n ?_
  refine WP.retW ?_
  refine W.now ?_
  have q0 := (Option.some.inj H)
  subst q0
  exact ⟨trivial, _, rfl, [], (.lit (.int .u32 x23)), Mem.nil, ⟨rfl, trivial, by decide, rfl, trivial⟩, rfl, rfl, rfl, rfl⟩
set_option maxRecDepth 100000 in
set_option maxHeartbeats 4000000 in
theorem s32 (k : Nat) (x10 : Int) (x26 : Int) (H : f32 k x10 = some x26) : Go.Q.Spec Try.prog 32 0 [.lit (.int .u32 x10)] Mem.nil (fun o M => o = .ret (.lit (.int .u32 x26)) ∧ M = Mem.nil) := by
  unfold f32 at H
  refine Go.Q.Spec.of_bodyR (rs := [.tmp 2]) (nt := 26) Try.func32 rfl rfl (by intro t T h; simp at h) rfl rfl fun cx hnp => ?_
  refine WP.seq ?_
  refine WP.region ?_
  refine WPL.q (q_as (v := .lit (.int _ _)) rfl) rfl ?_
  refine WPL.nilW ?_
  refine W.now ?_
  refine Then.n ?_
  refine WP.seq ?_
  refine WP.region ?_
  refine WPL.q (q_mv (v := .lit (.int _ _)) rfl) rfl ?_
  refine WPL.q (q_shr rfl rfl rfl) rfl ?_
  obtain ⟨x27, h27, H⟩ := bnd H
  refine WPL.q (q_nm (q_and rfl rfl) (nm_int h27)) rfl ?_
  refine WPL.q (q_mv (v := .lit (.int _ _)) rfl) rfl ?_
  refine WPL.q (q_and rfl rfl) rfl ?_
  obtain ⟨x28, h28, H⟩ := bnd H
  refine WPL.q (q_nm (q_shl rfl rfl rfl) (nm_int h28)) rfl ?_
  refine WPL.q (q_or rfl rfl) rfl ?_
  refine WPL.q (q_as (v := .lit (.int _ _)) rfl) rfl ?_
  refine WPL.nilW ?_
  refine W.now ?_
  refine Then.n ?_
  refine WP.seq ?_
  refine WP.region ?_
  refine WPL.q (q_mv (v := .lit (.int _ _)) rfl) rfl ?_
  refine WPL.q (q_shr rfl rfl rfl) rfl ?_
  obtain ⟨x29, h29, H⟩ := bnd H
  refine WPL.q (q_nm (q_and rfl rfl) (nm_int h29)) rfl ?_
  refine WPL.q (q_mv (v := .lit (.int _ _)) rfl) rfl ?_
  obtain ⟨x30, h30, H⟩ := bnd H
  refine WPL.q (q_nm (q_and rfl rfl) (nm_int h30)) rfl ?_
  refine WPL.q (q_shl rfl rfl rfl) rfl ?_
  refine WPL.q (q_or rfl rfl) rfl ?_
  refine WPL.q (q_as (v := .lit (.int _ _)) rfl) rfl ?_
  refine WPL.nilW ?_
  refine W.now ?_
  refine Then.n ?_
  refine WP.seq ?_
  refine WP.region ?_
  refine WPL.q (q_mv (v := .lit (.int _ _)) rfl) rfl ?_
  obtain ⟨x31, h31, H⟩ := bnd H
  refine WPL.q (q_nm (q_shr rfl rfl rfl) (nm_int h31)) rfl ?_
  refine WPL.q (q_and rfl rfl) rfl ?_
  refine WPL.q (q_mv (v := .lit (.int _ _)) rfl) rfl ?_
  obtain ⟨x32, h32, H⟩ := bnd H
  refine WPL.q (q_nm (q_and rfl rfl) (nm_int h32)) rfl ?_
  refine WPL.q (q_shl rfl rfl rfl) rfl ?_
  obtain ⟨x33, h33, H⟩ := bnd H
  refine WPL.q (q_nm (q_or rfl rfl) (nm_int h33)) rfl ?_
  refine WPL.q (q_as (v := .lit (.int _ _)) rfl) rfl ?_
  refine WPL.nilW ?_
  refine W.now ?_
  refine Then.n ?_
  refine WP.seq ?_
  refine WP.region ?_
  refine WPL.q (q_mv (v := .lit (.int _ _)) rfl) rfl ?_
  obtain ⟨x35, h33, H⟩ := bnd H
  refine WPL.c (runs_call (s := []) (t := []) (N := 0) (bor := []) fn36 rfl (s36 k x33 x35 h33) ⟨rfl, trivial, by decide, rfl, trivial⟩ rfl trivial (.ren rfl rfl .nil) rfl trivial rfl) rfl ?_
  refine WPL.q (q_as (v := .lit (.int _ _)) rfl) rfl ?_
  refine WPL.nilW ?_
  refine W.now ?_
  refine Then.n ?_
  refine WP.retW ?_
  refine W.now ?_
  have q0 := (Option.some.inj H)
  subst q0
  exact ⟨trivial, _, rfl, [], (.lit (.int .u32 x35)), Mem.nil, ⟨rfl, trivial, by decide, rfl, trivial⟩, rfl, rfl, rfl, rfl⟩
set_option maxRecDepth 100000 in
set_option maxHeartbeats 4000000 in
theorem s7 (k : Nat) (x7 : Int) (x8 : Int) (x41 : Int) (H : f7 k x7 x8 = some x41) : Go.Q.Spec Try.prog 7 0 [.lit (.int .u32 x7), .lit (.int .i64 x8)] Mem.nil (fun o M => o = .ret (.lit (.int .u32 x41)) ∧ M = Mem.nil) := by
  unfold f7 at H
  refine Go.Q.Spec.of_bodyR (rs := [.tmp 4]) (nt := 16) Try.func7 rfl rfl (by intro t T h; simp at h) rfl rfl fun cx hnp => ?_
  refine WP.seq ?_
  refine WP.region ?_
  refine WPL.q (q_as (v := .lit (.int _ _)) rfl) rfl ?_
  refine WPL.nilW ?_
  refine W.now ?_
  refine Then.n ?_
  refine WP.seq ?_
  refine WP.region ?_
  refine WPL.q (q_mv (v := .lit (.int _ _)) rfl) rfl ?_
  refine WPL.q (q_max rfl rfl) rfl ?_
  obtain ⟨x42, h42, H⟩ := bnd H
  refine WPL.q (q_nm (q_min rfl rfl) (nm_int h42)) rfl ?_
  refine WPL.q (q_as (v := .lit (.int _ _)) rfl) rfl ?_
  refine WPL.nilW ?_
  refine W.now ?_
  refine Then.n ?_
  refine WP.seq ?_
  refine WP.region ?_
  refine WPL.q (q_mv (v := .lit (.int _ _)) rfl) rfl ?_
  obtain ⟨x44, h42, H⟩ := bnd H
  refine WPL.c (runs_call (s := []) (t := []) (N := 0) (bor := []) fn32 rfl (s32 k x7 x44 h42) ⟨rfl, trivial, by decide, rfl, trivial⟩ rfl trivial (.ren rfl rfl .nil) rfl trivial rfl) rfl ?_
  refine WPL.q (q_conv Try.underlying22 Try.underlying54 rfl) rfl ?_
  refine WPL.q (q_mv (v := .lit (.int _ _)) rfl) rfl ?_
  refine WPL.q (q_sub rfl rfl) rfl ?_
  obtain ⟨x45, h45, H⟩ := bnd H
  refine WPL.q (q_nm (q_conv Try.underlying3 Try.underlying40 rfl) (nm_int h45)) rfl ?_
  obtain ⟨h45, H⟩ := grd H
  refine WPL.q (q_shr rfl rfl h45) rfl ?_
  obtain ⟨x47, h47, H⟩ := bnd H
  refine WPL.q (q_nm (q_conv Try.underlying54 Try.underlying22 rfl) (nm_int h47)) rfl ?_
  refine WPL.q (q_as (v := .lit (.int _ _)) rfl) rfl ?_
  refine WPL.nilW ?_
  refine W.now ?_
  refine Then.n ?_
  refine WP.retW ?_
  refine W.now ?_
  have q0 := (Option.some.inj H)
  subst q0
  exact ⟨trivial, _, rfl, [], (.lit (.int .u32 x47)), Mem.nil, ⟨rfl, trivial, by decide, rfl, trivial⟩, rfl, rfl, rfl, rfl⟩
set_option maxRecDepth 100000 in
set_option maxHeartbeats 4000000 in
theorem s8 (k : Nat) (x50 : Int) (x51 : Int) (x76 : Int) (H : f8 k x50 x51 = some x76) : Go.Q.Spec Try.prog 8 0 [.lit (.int .u32 x50), .lit (.int .i64 x51)] Mem.nil (fun o M => o = .ret (.lit (.int .u32 x76)) ∧ M = Mem.nil) := by
  unfold f8 at H
  refine Go.Q.Spec.of_bodyR (rs := [.tmp 4]) (nt := 25) Try.func8 rfl rfl (by intro t T h; simp at h) rfl rfl fun cx hnp => ?_
  refine WP.seq ?_
  refine WP.region ?_
  refine WPL.q (q_as (v := .lit (.int _ _)) rfl) rfl ?_
  refine WPL.nilW ?_
  refine W.now ?_
  refine Then.n ?_
  refine WP.seq ?_
  refine WP.region ?_
  refine WPL.q (q_as (v := .lit (.int _ _)) rfl) rfl ?_
  refine WPL.nilW ?_
  refine W.now ?_
  refine Then.n ?_
  refine WP.seq ?_
  refine WP.seq ?_
  refine WP.region ?_
  refine WPL.q (q_as (v := .lit (.int _ _)) rfl) rfl ?_
  refine WPL.nilW ?_
  refine W.now ?_
  refine Then.n ?_
  refine WP.block ?_
  refine WP.cv (Cv.weak (E' := ((((Env.none.upd 0 (.lit (.int .u32 x50))).upd 1 (.lit (.int .i64 x51))).upd 5 (.lit (.int .u32 0))).upd 6 (.lit (.int .i64 0)))) (M' := Mem.nil) [] hnp ⟨rfl, trivial, by decide, rfl, trivial⟩ (LeE.upd rfl rfl (LeE.upd rfl rfl (LeE.upd rfl rfl (LeE.upd rfl rfl (LeE.none rfl rfl)))))) ?_
  obtain ⟨x99, H109, H⟩ := bnd H
  refine WP.monoW (Q := fun x E M => x = .exit 0 ∧ E = (Env.none.upd 5 (.lit (.int .u32 x99))) ∧ M = Mem.nil) ?_ ?_
  · refine WP.loop (β := Int × Int) (fun n b => f8_l0 k x50 x51 n b.1 b.2 = some x99) (fun b => ((((Env.none.upd 0 (.lit (.int .u32 x50))).upd 1 (.lit (.int .i64 x51))).upd 5 (.lit (.int .u32 b.1))).upd 6 (.lit (.int .i64 b.2)))) (fun b => Mem.nil) k (0, 0) H109 rfl rfl ?_
    rintro n ⟨x87, x88⟩ H
    obtain _ | n := n
    · exact nf rfl H
    rw [f8_l0.eq_2] at H
    show WP _ _ _ _ ((((Env.none.upd 0 (.lit (.int .u32 x50))).upd 1 (.lit (.int .i64 x51))).upd 5 (.lit (.int .u32 x87))).upd 6 (.lit (.int .i64 x88))) Mem.nil _
    refine WP.seq ?_
    refine WP.seq ?_
    obtain ⟨x105, H106, H⟩ := bnd H
    refine WP.monoW (Q := fun x E M => x = .normal ∧ E = (((((Env.none.upd 0 (.lit (.int .u32 x50))).upd 1 (.lit (.int .i64 x51))).upd 5 (.lit (.int .u32 x87))).upd 6 (.lit (.int .i64 x88))).upd 13 (.lit (.bool x105))) ∧ M = Mem.nil) ?_ ?_
    · clear H
      have H := H106
      clear H106
      refine WP.region ?_
      refine WPL.q (q_mv (v := .lit (.int _ _)) rfl) rfl ?_
      refine WPL.q (q_mv (v := .lit (.int _ _)) rfl) rfl ?_
      refine WPL.q (q_lss rfl rfl) rfl ?_
      refine WPL.q (q_mv (v := .lit (.bool _)) rfl) rfl ?_
      refine WPL.split (t := 10) (b := (decide (x88 < x51))) rfl (fun hb105 => ?_) (fun hb105 => ?_)
      · replace H := cnt hb105 H
        refine WPL.qg rfl rfl (lb hb105) (q_mv (v := .lit (.int _ _)) rfl) rfl ?_
        refine WPL.qg rfl rfl (lb hb105) (q_lss rfl rfl) rfl ?_
        refine WPL.q (q_pickT (v := .lit (.bool _)) (lb hb105) rfl) rfl ?_
        refine WPL.nilW ?_
        refine W.cv (Cv.weak (E' := (((((Env.none.upd 0 (.lit (.int .u32 x50))).upd 1 (.lit (.int .i64 x51))).upd 5 (.lit (.int .u32 x87))).upd 6 (.lit (.int .i64 x88))).upd 13 (.lit (.bool (decide (x88 < 32)))))) (M' := Mem.nil) [] hnp ⟨rfl, trivial, by decide, rfl, trivial⟩ (LeE.upd rfl rfl (LeE.upd rfl rfl (LeE.upd rfl rfl (LeE.upd rfl rfl (LeE.upd rfl rfl (LeE.none rfl rfl))))))) rfl ?_
        refine W.now ?_
        have q0 := (Option.some.inj H)
        subst q0
        exact ⟨rfl, rfl, rfl⟩
      · replace H := cnf hb105 H
        refine WPL.skipg (b' := false) rfl rfl (lb hb105) rfl rfl ?_
        refine WPL.skipg (b' := false) rfl rfl (lb hb105) rfl rfl ?_
        refine WPL.q (q_pickF (v := .lit (.bool _)) (lb hb105) rfl) rfl ?_
        refine WPL.nilW ?_
        refine W.cv (Cv.weak (E' := (((((Env.none.upd 0 (.lit (.int .u32 x50))).upd 1 (.lit (.int .i64 x51))).upd 5 (.lit (.int .u32 x87))).upd 6 (.lit (.int .i64 x88))).upd 13 (.lit (.bool false)))) (M' := Mem.nil) [] hnp ⟨rfl, trivial, by decide, rfl, trivial⟩ (LeE.upd rfl rfl (LeE.upd rfl rfl (LeE.upd rfl rfl (LeE.upd rfl rfl (LeE.upd rfl rfl (LeE.none rfl rfl))))))) rfl ?_
        refine W.now ?_
        have q0 := (Option.some.inj H)
        subst q0
        exact ⟨rfl, rfl, rfl⟩
    · rintro _ _ _ ⟨rfl, rfl, rfl⟩
      refine W.now ?_
      refine Then.n ?_
      refine WP.cond (t := x105) rfl (fun hb => ?_) (fun hb => ?_)
      · replace H := cnt hb H
        refine WP.skipW ?_
        refine W.now ?_
        refine Then.n ?_
        refine WP.seq ?_
        refine WP.block ?_
        refine WP.region ?_
        refine WPL.q (q_mv (v := .lit (.int _ _)) rfl) rfl ?_
        refine WPL.q (q_shl rfl rfl rfl) rfl ?_
        refine WPL.q (q_mv (v := .lit (.int _ _)) rfl) rfl ?_
        refine WPL.q (q_mv (v := .lit (.int _ _)) rfl) rfl ?_
        refine WPL.q (q_conv Try.underlying3 Try.underlying40 rfl) rfl ?_
        obtain ⟨h107, H⟩ := grd H
        refine WPL.q (q_shr rfl rfl h107) rfl ?_
        obtain ⟨x109, h109, H⟩ := bnd H
        refine WPL.q (q_nm (q_and rfl rfl) (nm_int h109)) rfl ?_
        refine WPL.q (q_or rfl rfl) rfl ?_
        refine WPL.q (q_as (v := .lit (.int _ _)) rfl) rfl ?_
        refine WPL.nilW ?_
        refine W.now ?_
        refine InBlock.n ?_
        refine Then.n ?_
        refine WP.region ?_
        refine WPL.q (q_mv (v := .lit (.int _ _)) rfl) rfl ?_
        refine WPL.q (q_add rfl rfl) rfl ?_
        refine WPL.q (q_as (v := .lit (.int _ _)) rfl) rfl ?_
        refine WPL.nilW ?_
        refine W.cv (Cv.weak (E' := ((((Env.none.upd 0 (.lit (.int .u32 x50))).upd 1 (.lit (.int .i64 x51))).upd 5 (.lit (.int .u32 (bits .or .u32 (shlI .u32 x87 1) x109)))).upd 6 (.lit (.int .i64 (IntKind.wrap .i64 (x88 + 1)))))) (M' := Mem.nil) [] hnp ⟨rfl, trivial, by decide, rfl, trivial⟩ (LeE.upd rfl rfl (LeE.upd rfl rfl (LeE.upd rfl rfl (LeE.upd rfl rfl (LeE.none rfl rfl)))))) rfl ?_
        refine W.now ?_
        exact Then.n ⟨n, ((bits .or .u32 (shlI .u32 x87 1) x109), (IntKind.wrap .i64 (x88 + 1))), Nat.lt_succ_self n, H, rfl, rfl⟩
      · replace H := cnf hb H
        refine WP.exitW ?_
        refine W.cv (Cv.weak (E' := (Env.none.upd 5 (.lit (.int .u32 x87)))) (M' := Mem.nil) [] hnp ⟨rfl, trivial, by decide, rfl, trivial⟩ (LeE.upd rfl rfl (LeE.none rfl rfl))) rfl ?_
        refine W.now ?_
        refine Then.x ?_
        refine Then.x ?_
        have q0 := (Option.some.inj H)
        subst q0
        exact ⟨rfl, rfl, rfl⟩
  · rintro _ _ _ ⟨rfl, rfl, rfl⟩
    refine W.now ?_
    refine InBlock.x0 ?_
    refine Then.n ?_
    refine WP.seq ?_
    refine WP.region ?_
    refine WPL.q (q_mv (v := .lit (.int _ _)) rfl) rfl ?_
    refine WPL.q (q_as (v := .lit (.int _ _)) rfl) rfl ?_
    refine WPL.nilW ?_
    refine W.now ?_
    refine Then.n ?_
    refine WP.retW ?_
    refine W.now ?_
    have q0 := (Option.some.inj H)
    subst q0
    exact ⟨trivial, _, rfl, [], (.lit (.int .u32 x99)), Mem.nil, ⟨rfl, trivial, by decide, rfl, trivial⟩, rfl, rfl, rfl, rfl⟩
set_option maxRecDepth 100000 in
set_option maxHeartbeats 4000000 in
theorem s9 (k : Nat) (x114 : (List Int)) (x142 : Int) (H : f9 k x114 = some x142) : Go.Q.Spec Try.prog 9 0 [.ro (Rd.slice (Rd.int .u8)) false x114] Mem.nil (fun o M => o = .ret (.lit (.int .u32 x142)) ∧ M = Mem.nil) := by
  unfold f9 at H
  refine Go.Q.Spec.of_bodyR (rs := [.tmp 2]) (nt := 29) Try.func9 rfl rfl (by intro t T h; simp at h) rfl rfl fun cx hnp => ?_
  refine WP.seq ?_
  refine WP.region ?_
  refine WPL.q (q_as (v := .lit (.int _ _)) rfl) rfl ?_
  refine WPL.nilW ?_
  refine W.now ?_
  refine Then.n ?_
  refine WP.seq ?_
  refine WP.region ?_
  refine WPL.q (q_as (v := .lit (.int _ _)) rfl) rfl ?_
  refine WPL.nilW ?_
  refine W.now ?_
  refine Then.n ?_
  refine WP.seq ?_
  refine WP.seq ?_
  refine WP.region ?_
  refine WPL.q (q_mv (v := .ro _ _ _) rfl) rfl ?_
  refine WPL.q (q_len_ro sl23 rfl) rfl ?_
  refine WPL.q (q_mv (v := .lit (.int _ _)) rfl) rfl ?_
  refine WPL.nilW ?_
  refine W.now ?_
  refine Then.n ?_
  refine WP.block ?_
  refine WP.cv (Cv.weak (E' := ((((Env.none.upd 3 (.lit (.int .u32 4294967295))).upd 6 (.ro (Rd.slice (Rd.int .u8)) false x114)).upd 7 (.lit (.int .i64 ((List.length x114 : Nat) : Int)))).upd 8 (.lit (.int .i64 0)))) (M' := Mem.nil) [] hnp ⟨rfl, trivial, by decide, rfl, trivial⟩ (LeE.upd rfl rfl (LeE.upd rfl rfl (LeE.upd rfl rfl (LeE.upd rfl rfl (LeE.none rfl rfl)))))) ?_
  obtain ⟨x167, H180, H⟩ := bnd H
  refine WP.monoW (Q := fun x E M => x = .exit 0 ∧ E = (Env.none.upd 3 (.lit (.int .u32 x167))) ∧ M = Mem.nil) ?_ ?_
  · refine WP.loop (β := Int × Int) (fun n b => f9_l0 k x114 n b.1 b.2 = some x167) (fun b => ((((Env.none.upd 3 (.lit (.int .u32 b.1))).upd 6 (.ro (Rd.slice (Rd.int .u8)) false x114)).upd 7 (.lit (.int .i64 ((List.length x114 : Nat) : Int)))).upd 8 (.lit (.int .i64 b.2)))) (fun b => Mem.nil) k (4294967295, 0) H180 rfl rfl ?_
    rintro n ⟨x154, x155⟩ H
    obtain _ | n := n
    · exact nf rfl H
    rw [f9_l0.eq_2] at H
    show WP _ _ _ _ ((((Env.none.upd 3 (.lit (.int .u32 x154))).upd 6 (.ro (Rd.slice (Rd.int .u8)) false x114)).upd 7 (.lit (.int .i64 ((List.length x114 : Nat) : Int)))).upd 8 (.lit (.int .i64 x155))) Mem.nil _
    refine WP.seq ?_
    refine WP.region ?_
    obtain ⟨x168, h168, H⟩ := bnd H
    refine WPL.q (q_nm (q_lss rfl rfl) (nm_bool h168)) rfl ?_
    refine WPL.nilW ?_
    refine W.now ?_
    refine Then.n ?_
    refine WP.seq ?_
    refine WP.cond (t := x168) rfl (fun hb => ?_) (fun hb => ?_)
    · replace H := cnt hb H
      refine WP.skipW ?_
      refine W.now ?_
      refine Then.n ?_
      refine WP.seq ?_
      refine WP.block ?_
      refine WP.seq ?_
      refine WP.region ?_
      obtain ⟨x169, h169, H⟩ := bnd H
      refine WPL.q (q_index_ro sl23 rfl rfl rfl h169) rfl ?_
      refine WPL.q (q_load_sc sc5 rfl) rfl ?_
      refine WPL.q (q_as (v := .lit (.int _ _)) rfl) rfl ?_
      refine WPL.nilW ?_
      refine W.now ?_
      refine Then.n ?_
      refine WP.seq ?_
      refine WP.region ?_
      refine WPL.q (q_mv (v := .lit (.int _ _)) rfl) rfl ?_
      refine WPL.q (q_mv (v := .lit (.int _ _)) rfl) rfl ?_
      refine WPL.q (q_conv Try.underlying5 Try.underlying22 rfl) rfl ?_
      obtain ⟨x170, h170, H⟩ := bnd H
      refine WPL.q (q_nm (q_xor rfl rfl) (nm_int h170)) rfl ?_
      refine WPL.q (q_as (v := .lit (.int _ _)) rfl) rfl ?_
      refine WPL.nilW ?_
      refine W.now ?_
      refine Then.n ?_
      refine WP.seq ?_
      refine WP.region ?_
      refine WPL.q (q_mv (v := .lit (.int _ _)) rfl) rfl ?_
      refine WPL.nilW ?_
      refine W.now ?_
      refine Then.n ?_
      refine WP.block ?_
      refine WP.cv (Cv.weak (E' := (((((Env.none.upd 3 (.lit (.int .u32 x170))).upd 6 (.ro (Rd.slice (Rd.int .u8)) false x114)).upd 7 (.lit (.int .i64 ((List.length x114 : Nat) : Int)))).upd 8 (.lit (.int .i64 x155))).upd 16 (.lit (.int .i64 0)))) (M' := Mem.nil) [] hnp ⟨rfl, trivial, by decide, rfl, trivial⟩ (LeE.upd rfl rfl (LeE.upd rfl rfl (LeE.upd rfl rfl (LeE.upd rfl rfl (LeE.upd rfl rfl (LeE.none rfl rfl))))))) ?_
      obtain ⟨x177, H179, H⟩ := bnd H
      refine WP.monoW (Q := fun x E M => x = .exit 2 ∧ E = ((((Env.none.upd 3 (.lit (.int .u32 x177))).upd 6 (.ro (Rd.slice (Rd.int .u8)) false x114)).upd 7 (.lit (.int .i64 ((List.length x114 : Nat) : Int)))).upd 8 (.lit (.int .i64 x155))) ∧ M = Mem.nil) ?_ ?_
      · refine WP.loop (β := Int × Int) (fun n b => f9_l1 k n b.1 b.2 = some x177) (fun b => (((((Env.none.upd 3 (.lit (.int .u32 b.1))).upd 6 (.ro (Rd.slice (Rd.int .u8)) false x114)).upd 7 (.lit (.int .i64 ((List.length x114 : Nat) : Int)))).upd 8 (.lit (.int .i64 x155))).upd 16 (.lit (.int .i64 b.2)))) (fun b => Mem.nil) k (x170, 0) H179 rfl rfl ?_
        rintro n ⟨x173, x174⟩ H
        obtain _ | n := n
        · exact nf rfl H
        rw [f9_l1.eq_2] at H
        show WP _ _ _ _ (((((Env.none.upd 3 (.lit (.int .u32 x173))).upd 6 (.ro (Rd.slice (Rd.int .u8)) false x114)).upd 7 (.lit (.int .i64 ((List.length x114 : Nat) : Int)))).upd 8 (.lit (.int .i64 x155))).upd 16 (.lit (.int .i64 x174))) Mem.nil _
        refine WP.seq ?_
        refine WP.region ?_
        refine WPL.q (q_lss rfl rfl) rfl ?_
        refine WPL.nilW ?_
        refine W.now ?_
        refine Then.n ?_
        refine WP.seq ?_
        refine WP.cond (t := (decide (x174 < 8))) rfl (fun hb => ?_) (fun hb => ?_)
        · replace H := cnt hb H
          refine WP.skipW ?_
          refine W.now ?_
          refine Then.n ?_
          refine WP.seq ?_
          refine WP.block ?_
          refine WP.region ?_
          refine WPL.q (q_mv (v := .lit (.int _ _)) rfl) rfl ?_
          refine WPL.q (q_shr rfl rfl rfl) rfl ?_
          refine WPL.q (q_mv (v := .lit (.int _ _)) rfl) rfl ?_
          refine WPL.q (q_and rfl rfl) rfl ?_
          obtain ⟨x178, h178, H⟩ := bnd H
          refine WPL.q (q_nm (q_neg rfl) (nm_int h178)) rfl ?_
          refine WPL.q (q_and rfl rfl) rfl ?_
          obtain ⟨x179, h179, H⟩ := bnd H
          refine WPL.q (q_nm (q_xor rfl rfl) (nm_int h179)) rfl ?_
          refine WPL.q (q_as (v := .lit (.int _ _)) rfl) rfl ?_
          refine WPL.nilW ?_
          refine W.now ?_
          refine InBlock.n ?_
          refine Then.n ?_
          refine WP.region ?_
          refine WPL.q (q_add rfl rfl) rfl ?_
          refine WPL.q (q_mv (v := .lit (.int _ _)) rfl) rfl ?_
          refine WPL.nilW ?_
          refine W.cv (Cv.weak (E' := (((((Env.none.upd 3 (.lit (.int .u32 x179))).upd 6 (.ro (Rd.slice (Rd.int .u8)) false x114)).upd 7 (.lit (.int .i64 ((List.length x114 : Nat) : Int)))).upd 8 (.lit (.int .i64 x155))).upd 16 (.lit (.int .i64 (IntKind.wrap .i64 (x174 + 1)))))) (M' := Mem.nil) [] hnp ⟨rfl, trivial, by decide, rfl, trivial⟩ (LeE.upd rfl rfl (LeE.upd rfl rfl (LeE.upd rfl rfl (LeE.upd rfl rfl (LeE.upd rfl rfl (LeE.none rfl rfl))))))) rfl ?_
          refine W.now ?_
          exact Then.n ⟨n, (x179, (IntKind.wrap .i64 (x174 + 1))), Nat.lt_succ_self n, H, rfl, rfl⟩
        · replace H := cnf hb H
          refine WP.exitW ?_
          refine W.cv (Cv.weak (E' := ((((Env.none.upd 3 (.lit (.int .u32 x173))).upd 6 (.ro (Rd.slice (Rd.int .u8)) false x114)).upd 7 (.lit (.int .i64 ((List.length x114 : Nat) : Int)))).upd 8 (.lit (.int .i64 x155)))) (M' := Mem.nil) [] hnp ⟨rfl, trivial, by decide, rfl, trivial⟩ (LeE.upd rfl rfl (LeE.upd rfl rfl (LeE.upd rfl rfl (LeE.upd rfl rfl (LeE.none rfl rfl)))))) rfl ?_
          refine W.now ?_
          refine Then.x ?_
          refine Then.x ?_
          have q0 := (Option.some.inj H)
          subst q0
          exact ⟨rfl, rfl, rfl⟩
      · rintro _ _ _ ⟨rfl, rfl, rfl⟩
        refine W.now ?_
        refine InBlock.x0 ?_
        refine InBlock.n ?_
        refine Then.n ?_
        refine WP.region ?_
        refine WPL.q (q_add rfl rfl) rfl ?_
        refine WPL.q (q_mv (v := .lit (.int _ _)) rfl) rfl ?_
        refine WPL.nilW ?_
        refine W.cv (Cv.weak (E' := ((((Env.none.upd 3 (.lit (.int .u32 x177))).upd 6 (.ro (Rd.slice (Rd.int .u8)) false x114)).upd 7 (.lit (.int .i64 ((List.length x114 : Nat) : Int)))).upd 8 (.lit (.int .i64 (IntKind.wrap .i64 (x155 + 1)))))) (M' := Mem.nil) [] hnp ⟨rfl, trivial, by decide, rfl, trivial⟩ (LeE.upd rfl rfl (LeE.upd rfl rfl (LeE.upd rfl rfl (LeE.upd rfl rfl (LeE.none rfl rfl)))))) rfl ?_
        refine W.now ?_
        exact Then.n ⟨n, (x177, (IntKind.wrap .i64 (x155 + 1))), Nat.lt_succ_self n, H, rfl, rfl⟩
    · replace H := cnf hb H
      refine WP.exitW ?_
      refine W.cv (Cv.weak (E' := (Env.none.upd 3 (.lit (.int .u32 x154)))) (M' := Mem.nil) [] hnp ⟨rfl, trivial, by decide, rfl, trivial⟩ (LeE.upd rfl rfl (LeE.none rfl rfl))) rfl ?_
      refine W.now ?_
      refine Then.x ?_
      refine Then.x ?_
      have q0 := (Option.some.inj H)
      subst q0
      exact ⟨rfl, rfl, rfl⟩
  · rintro _ _ _ ⟨rfl, rfl, rfl⟩
    refine W.now ?_
    refine InBlock.x0 ?_
    refine Then.n ?_
    refine WP.seq ?_
    refine WP.region ?_
    refine WPL.q (q_mv (v := .lit (.int _ _)) rfl) rfl ?_
    obtain ⟨x182, h182, H⟩ := bnd H
    refine WPL.q (q_nm (q_com rfl) (nm_int h182)) rfl ?_
    refine WPL.q (q_as (v := .lit (.int _ _)) rfl) rfl ?_
    refine WPL.nilW ?_
    refine W.now ?_
    refine Then.n ?_
    refine WP.retW ?_
    refine W.now ?_
    have q0 := (Option.some.inj H)
    subst q0
    exact ⟨trivial, _, rfl, [], (.lit (.int .u32 x182)), Mem.nil, ⟨rfl, trivial, by decide, rfl, trivial⟩, rfl, rfl, rfl, rfl⟩
set_option maxRecDepth 100000 in
set_option maxHeartbeats 4000000 in
theorem s10 (k : Nat) (x185 : (List Int)) (x223 : Int) (H : f10 k x185 = some x223) : Go.Q.Spec Try.prog 10 0 [.ro (Rd.slice (Rd.int .u8)) false x185] Mem.nil (fun o M => o = .ret (.lit (.int .u32 x223)) ∧ M = Mem.nil) := by
  unfold f10 at H
  refine Go.Q.Spec.of_bodyR (rs := [.tmp 2]) (nt := 33) Try.func10 rfl rfl (by intro t T h; simp at h) rfl rfl fun cx hnp => ?_
  refine WP.seq ?_
  refine WP.region ?_
  refine WPL.q (q_as (v := .lit (.int _ _)) rfl) rfl ?_
  refine WPL.nilW ?_
  refine W.now ?_
  refine Then.n ?_
  refine WP.seq ?_
  refine WP.region ?_
  refine WPL.q (q_as (v := .lit (.int _ _)) rfl) rfl ?_
  refine WPL.nilW ?_
  refine W.now ?_
  refine Then.n ?_
  refine WP.seq ?_
  refine WP.seq ?_
  refine WP.region ?_
  refine WPL.q (q_as (v := .lit (.int _ _)) rfl) rfl ?_
  refine WPL.nilW ?_
  refine W.now ?_
  refine Then.n ?_
  refine WP.block ?_
  refine WP.cv (Cv.weak (E' := (((Env.none.upd 0 (.ro (Rd.slice (Rd.int .u8)) false x185)).upd 3 (.lit (.int .u32 4294967295))).upd 4 (.lit (.int .i64 0)))) (M' := Mem.nil) [] hnp ⟨rfl, trivial, by decide, rfl, trivial⟩ (LeE.upd rfl rfl (LeE.upd rfl rfl (LeE.upd rfl rfl (LeE.none rfl rfl))))) ?_
  obtain ⟨x258, H278, H⟩ := bnd H
  refine WP.monoW (Q := fun x E M => x = .exit 0 ∧ E = (Env.none.upd 3 (.lit (.int .u32 x258))) ∧ M = Mem.nil) ?_ ?_
  · refine WP.loop (β := Int × Int) (fun n b => f10_l0 k x185 n b.1 b.2 = some x258) (fun b => (((Env.none.upd 0 (.ro (Rd.slice (Rd.int .u8)) false x185)).upd 3 (.lit (.int .u32 b.1))).upd 4 (.lit (.int .i64 b.2)))) (fun b => Mem.nil) k (4294967295, 0) H278 rfl rfl ?_
    rintro n ⟨x240, x241⟩ H
    obtain _ | n := n
    · exact nf rfl H
    rw [f10_l0.eq_2] at H
    show WP _ _ _ _ (((Env.none.upd 0 (.ro (Rd.slice (Rd.int .u8)) false x185)).upd 3 (.lit (.int .u32 x240))).upd 4 (.lit (.int .i64 x241))) Mem.nil _
    refine WP.seq ?_
    refine WP.seq ?_
    refine WP.region ?_
    refine WPL.q (q_mv (v := .lit (.int _ _)) rfl) rfl ?_
    refine WPL.q (q_mv (v := .ro _ _ _) rfl) rfl ?_
    refine WPL.q (q_len_ro sl23 rfl) rfl ?_
    obtain ⟨x260, h260, H⟩ := bnd H
    refine WPL.q (q_nm (q_lss rfl rfl) (nm_bool h260)) rfl ?_
    refine WPL.nilW ?_
    refine W.now ?_
    refine Then.n ?_
    refine WP.cond (t := x260) rfl (fun hb => ?_) (fun hb => ?_)
    · replace H := cnt hb H
      refine WP.skipW ?_
      refine W.now ?_
      refine Then.n ?_
      refine WP.seq ?_
      refine WP.block ?_
      refine WP.seq ?_
      refine WP.region ?_
      refine WPL.q (q_mv (v := .lit (.int _ _)) rfl) rfl ?_
      refine WPL.q (q_mv (v := .ro _ _ _) rfl) rfl ?_
      refine WPL.q (q_mv (v := .lit (.int _ _)) rfl) rfl ?_
      obtain ⟨x261, h261, H⟩ := bnd H
      refine WPL.q (q_index_ro sl23 rfl rfl rfl h261) rfl ?_
      refine WPL.q (q_load_sc sc5 rfl) rfl ?_
      refine WPL.q (q_conv Try.underlying5 Try.underlying22 rfl) rfl ?_
      obtain ⟨x262, h262, H⟩ := bnd H
      refine WPL.q (q_nm (q_xor rfl rfl) (nm_int h262)) rfl ?_
      refine WPL.q (q_as (v := .lit (.int _ _)) rfl) rfl ?_
      refine WPL.nilW ?_
      refine W.now ?_
      refine Then.n ?_
      refine WP.seq ?_
      refine WP.region ?_
      refine WPL.q (q_as (v := .lit (.int _ _)) rfl) rfl ?_
      refine WPL.nilW ?_
      refine W.now ?_
      refine Then.n ?_
      refine WP.block ?_
      refine WP.cv (Cv.weak (E' := ((((Env.none.upd 0 (.ro (Rd.slice (Rd.int .u8)) false x185)).upd 3 (.lit (.int .u32 x262))).upd 4 (.lit (.int .i64 x241))).upd 5 (.lit (.int .i64 0)))) (M' := Mem.nil) [] hnp ⟨rfl, trivial, by decide, rfl, trivial⟩ (LeE.upd rfl rfl (LeE.upd rfl rfl (LeE.upd rfl rfl (LeE.upd rfl rfl (LeE.none rfl rfl)))))) ?_
      obtain ⟨x273, H277, H⟩ := bnd H
      refine WP.monoW (Q := fun x E M => x = .exit 2 ∧ E = (((Env.none.upd 0 (.ro (Rd.slice (Rd.int .u8)) false x185)).upd 3 (.lit (.int .u32 x273))).upd 4 (.lit (.int .i64 x241))) ∧ M = Mem.nil) ?_ ?_
      · refine WP.loop (β := Int × Int) (fun n b => f10_l1 k n b.1 b.2 = some x273) (fun b => ((((Env.none.upd 0 (.ro (Rd.slice (Rd.int .u8)) false x185)).upd 3 (.lit (.int .u32 b.1))).upd 4 (.lit (.int .i64 x241))).upd 5 (.lit (.int .i64 b.2)))) (fun b => Mem.nil) k (x262, 0) H277 rfl rfl ?_
        rintro n ⟨x267, x268⟩ H
        obtain _ | n := n
        · exact nf rfl H
        rw [f10_l1.eq_2] at H
        show WP _ _ _ _ ((((Env.none.upd 0 (.ro (Rd.slice (Rd.int .u8)) false x185)).upd 3 (.lit (.int .u32 x267))).upd 4 (.lit (.int .i64 x241))).upd 5 (.lit (.int .i64 x268))) Mem.nil _
        refine WP.seq ?_
        refine WP.seq ?_
        refine WP.region ?_
        refine WPL.q (q_mv (v := .lit (.int _ _)) rfl) rfl ?_
        refine WPL.q (q_lss rfl rfl) rfl ?_
        refine WPL.nilW ?_
        refine W.now ?_
        refine Then.n ?_
        refine WP.cond (t := (decide (x268 < 8))) rfl (fun hb => ?_) (fun hb => ?_)
        · replace H := cnt hb H
          refine WP.skipW ?_
          refine W.now ?_
          refine Then.n ?_
          refine WP.seq ?_
          obtain ⟨x275, H276, H⟩ := bnd H
          refine WP.monoW (Q := fun x E M => x = .normal ∧ E = ((((Env.none.upd 0 (.ro (Rd.slice (Rd.int .u8)) false x185)).upd 3 (.lit (.int .u32 x275))).upd 4 (.lit (.int .i64 x241))).upd 5 (.lit (.int .i64 x268))) ∧ M = Mem.nil) ?_ ?_
          · clear H
            have H := H276
            clear H276
            refine WP.block ?_
            refine WP.seq ?_
            refine WP.region ?_
            refine WPL.q (q_mv (v := .lit (.int _ _)) rfl) rfl ?_
            refine WPL.q (q_and rfl rfl) rfl ?_
            refine WPL.q (q_eql rfl rfl) rfl ?_
            refine WPL.nilW ?_
            refine W.now ?_
            refine Then.n ?_
            refine WP.cond (t := (decide ((bits .and .u32 x267 1) = 1))) rfl (fun hb => ?_) (fun hb => ?_)
            · replace H := cnt hb H
              refine WP.region ?_
              refine WPL.q (q_mv (v := .lit (.int _ _)) rfl) rfl ?_
              refine WPL.q (q_shr rfl rfl rfl) rfl ?_
              obtain ⟨x276, h276, H⟩ := bnd H
              refine WPL.q (q_nm (q_xor rfl rfl) (nm_int h276)) rfl ?_
              refine WPL.q (q_as (v := .lit (.int _ _)) rfl) rfl ?_
              refine WPL.nilW ?_
              refine W.cv (Cv.weak (E' := ((((Env.none.upd 0 (.ro (Rd.slice (Rd.int .u8)) false x185)).upd 3 (.lit (.int .u32 x276))).upd 4 (.lit (.int .i64 x241))).upd 5 (.lit (.int .i64 x268)))) (M' := Mem.nil) [] hnp ⟨rfl, trivial, by decide, rfl, trivial⟩ (LeE.upd rfl rfl (LeE.upd rfl rfl (LeE.upd rfl rfl (LeE.upd rfl rfl (LeE.none rfl rfl)))))) rfl ?_
              refine W.now ?_
              refine InBlock.n ?_
              have q0 := (Option.some.inj H)
              subst q0
              exact ⟨rfl, rfl, rfl⟩
            · replace H := cnf hb H
              refine WP.region ?_
              refine WPL.q (q_mv (v := .lit (.int _ _)) rfl) rfl ?_
              refine WPL.q (q_shr rfl rfl rfl) rfl ?_
              refine WPL.q (q_as (v := .lit (.int _ _)) rfl) rfl ?_
              refine WPL.nilW ?_
              refine W.cv (Cv.weak (E' := ((((Env.none.upd 0 (.ro (Rd.slice (Rd.int .u8)) false x185)).upd 3 (.lit (.int .u32 (shrI .u32 x267 1)))).upd 4 (.lit (.int .i64 x241))).upd 5 (.lit (.int .i64 x268)))) (M' := Mem.nil) [] hnp ⟨rfl, trivial, by decide, rfl, trivial⟩ (LeE.upd rfl rfl (LeE.upd rfl rfl (LeE.upd rfl rfl (LeE.upd rfl rfl (LeE.none rfl rfl)))))) rfl ?_
              refine W.now ?_
              refine InBlock.n ?_
              have q0 := (Option.some.inj H)
              subst q0
              exact ⟨rfl, rfl, rfl⟩
          · rintro _ _ _ ⟨rfl, rfl, rfl⟩
            refine W.now ?_
            refine Then.n ?_
            refine WP.region ?_
            refine WPL.q (q_mv (v := .lit (.int _ _)) rfl) rfl ?_
            refine WPL.q (q_add rfl rfl) rfl ?_
            refine WPL.q (q_as (v := .lit (.int _ _)) rfl) rfl ?_
            refine WPL.nilW ?_
            refine W.cv (Cv.weak (E' := ((((Env.none.upd 0 (.ro (Rd.slice (Rd.int .u8)) false x185)).upd 3 (.lit (.int .u32 x275))).upd 4 (.lit (.int .i64 x241))).upd 5 (.lit (.int .i64 (IntKind.wrap .i64 (x268 + 1)))))) (M' := Mem.nil) [] hnp ⟨rfl, trivial, by decide, rfl, trivial⟩ (LeE.upd rfl rfl (LeE.upd rfl rfl (LeE.upd rfl rfl (LeE.upd rfl rfl (LeE.none rfl rfl)))))) rfl ?_
            refine W.now ?_
            exact Then.n ⟨n, (x275, (IntKind.wrap .i64 (x268 + 1))), Nat.lt_succ_self n, H, rfl, rfl⟩
        · replace H := cnf hb H
          refine WP.exitW ?_
          refine W.cv (Cv.weak (E' := (((Env.none.upd 0 (.ro (Rd.slice (Rd.int .u8)) false x185)).upd 3 (.lit (.int .u32 x267))).upd 4 (.lit (.int .i64 x241)))) (M' := Mem.nil) [] hnp ⟨rfl, trivial, by decide, rfl, trivial⟩ (LeE.upd rfl rfl (LeE.upd rfl rfl (LeE.upd rfl rfl (LeE.none rfl rfl))))) rfl ?_
          refine W.now ?_
          refine Then.x ?_
          refine Then.x ?_
          have q0 := (Option.some.inj H)
          subst q0
          exact ⟨rfl, rfl, rfl⟩
      · rintro _ _ _ ⟨rfl, rfl, rfl⟩
        refine W.now ?_
        refine InBlock.x0 ?_
        refine InBlock.n ?_
        refine Then.n ?_
        refine WP.region ?_
        refine WPL.q (q_mv (v := .lit (.int _ _)) rfl) rfl ?_
        refine WPL.q (q_add rfl rfl) rfl ?_
        refine WPL.q (q_as (v := .lit (.int _ _)) rfl) rfl ?_
        refine WPL.nilW ?_
        refine W.cv (Cv.weak (E' := (((Env.none.upd 0 (.ro (Rd.slice (Rd.int .u8)) false x185)).upd 3 (.lit (.int .u32 x273))).upd 4 (.lit (.int .i64 (IntKind.wrap .i64 (x241 + 1)))))) (M' := Mem.nil) [] hnp ⟨rfl, trivial, by decide, rfl, trivial⟩ (LeE.upd rfl rfl (LeE.upd rfl rfl (LeE.upd rfl rfl (LeE.none rfl rfl))))) rfl ?_
        refine W.now ?_
        exact Then.n ⟨n, (x273, (IntKind.wrap .i64 (x241 + 1))), Nat.lt_succ_self n, H, rfl, rfl⟩
    · replace H := cnf hb H
      refine WP.exitW ?_
      refine W.cv (Cv.weak (E' := (Env.none.upd 3 (.lit (.int .u32 x240)))) (M' := Mem.nil) [] hnp ⟨rfl, trivial, by decide, rfl, trivial⟩ (LeE.upd rfl rfl (LeE.none rfl rfl))) rfl ?_
      refine W.now ?_
      refine Then.x ?_
      refine Then.x ?_
      have q0 := (Option.some.inj H)
      subst q0
      exact ⟨rfl, rfl, rfl⟩
  · rintro _ _ _ ⟨rfl, rfl, rfl⟩
    refine W.now ?_
    refine InBlock.x0 ?_
    refine Then.n ?_
    refine WP.seq ?_
    refine WP.region ?_
    refine WPL.q (q_mv (v := .lit (.int _ _)) rfl) rfl ?_
    obtain ⟨x280, h280, H⟩ := bnd H
    refine WPL.q (q_nm (q_com rfl) (nm_int h280)) rfl ?_
    refine WPL.q (q_as (v := .lit (.int _ _)) rfl) rfl ?_
    refine WPL.nilW ?_
    refine W.now ?_
    refine Then.n ?_
    refine WP.retW ?_
    refine W.now ?_
    have q0 := (Option.some.inj H)
    subst q0
    exact ⟨trivial, _, rfl, [], (.lit (.int .u32 x280)), Mem.nil, ⟨rfl, trivial, by decide, rfl, trivial⟩, rfl, rfl, rfl, rfl⟩
set_option maxRecDepth 100000 in
set_option maxHeartbeats 4000000 in
theorem s12 (k : Nat) (H : f12 k = some ()) : Go.Q.Spec Try.prog 12 0 [] Mem.nil (fun o M => o = .ret (.ptr 0 0) ∧ M = ((Mem.nil.push (.cells 57 [.whole 1, .lit (.int .i64 0)])).push (.row 5 (Rd.int .u8) ([] : List Int)))) := by
  unfold f12 at H
  refine Go.Q.Spec.of_bodyR (rs := [.tmp 0]) (nt := 3) Try.func12 rfl rfl (by intro t T h; simp at h) rfl rfl fun cx hnp => ?_
  refine WP.seq ?_
  refine WP.region ?_
  refine WPL.q (q_as (v := .lit _) rfl) rfl ?_
  refine WPL.nilW ?_
  refine W.now ?_
  refine Then.n ?_
  refine WP.seq ?_
  refine WP.region ?_
  refine WPL.q (q_build bu57 rfl) rfl ?_
  refine WPL.d (d_box rfl rfl) rfl ?_
  refine WPL.cv (Cv.virC 5 (Rd.int .u8) (N := 1) rfl (i := 0) rfl (off := 0) rfl rfl) ?_
  refine WPL.q (q_as (v := .ptr _ _) rfl) rfl ?_
  refine WPL.nilW ?_
  refine W.now ?_
  refine Then.n ?_
  refine WP.retW ?_
  refine W.now ?_
  exact ⟨trivial, _, rfl, [0, 1], (.ptr 0 0), ((Mem.nil.push (.cells 57 [.whole 1, .lit (.int .i64 0)])).push (.row 5 (Rd.int .u8) ([] : List Int))), ⟨rfl, ⟨⟨trivial, .inr ⟨rfl, rfl, rfl⟩⟩, .inr ⟨rfl, rfl, rfl⟩⟩, by decide, rfl, trivial⟩, rfl, rfl, rfl, rfl⟩
set_option maxRecDepth 100000 in
set_option maxHeartbeats 4000000 in
theorem s33 (k : Nat) (x297 : Int) (x298 : Int) (H : f33 k x297 x298 = some ()) : Go.Q.Spec Try.prog 33 0 [.lit (.int .u32 x297), .lit (.int .i64 x298)] Mem.nil (fun o M => o = .ret (.fn 37 [.ptr 0 0, .ptr 1 0]) ∧ M = ((Mem.nil.push (.cells 3 [.lit (.int .i64 x298)])).push (.cells 22 [.lit (.int .u32 x297)]))) := by
  unfold f33 at H
  refine Go.Q.Spec.of_bodyR (rs := [.tmp 4]) (nt := 6) Try.func33 rfl rfl (by intro t T h; simp at h) rfl rfl fun cx hnp => ?_
  refine WP.seq ?_
  refine WP.region ?_
  refine WPL.d (d_box rfl rfl) rfl ?_
  refine WPL.d (d_box rfl rfl) rfl ?_
  refine WPL.q (q_as (v := .lit _) rfl) rfl ?_
  refine WPL.nilW ?_
  refine W.now ?_
  refine Then.n ?_
  refine WP.seq ?_
  refine WP.region ?_
  refine WPL.q (q_makeFunc) rfl ?_
  refine WPL.q (q_as (v := .fn _ _) rfl) rfl ?_
  refine WPL.nilW ?_
  refine W.now ?_
  refine Then.n ?_
  refine WP.retW ?_
  refine W.now ?_
  exact ⟨trivial, _, rfl, [1, 0], (.fn 37 [.ptr 0 0, .ptr 1 0]), ((Mem.nil.push (.cells 3 [.lit (.int .i64 x298)])).push (.cells 22 [.lit (.int .u32 x297)])), ⟨rfl, ⟨⟨trivial, .inr ⟨rfl, rfl, rfl⟩⟩, .inr ⟨rfl, rfl, rfl⟩⟩, by decide, rfl, trivial⟩, rfl, rfl, rfl, rfl⟩
set_option maxRecDepth 100000 in
set_option maxHeartbeats 4000000 in
theorem s13 (k : Nat) (x285 : Int) (x286 : Int) (x287 : Int) (x288 : (List Int)) (x420 : Int) (x421 : Int) (x422 : (List Int)) (H : f13 k x285 x286 x287 x288 = some (x420, x421, x422)) : Go.Q.Spec Try.prog 13 1 [.ptr 0 0, .lit (.int .u32 x285), .lit (.int .i64 x286)] ((Mem.nil.push (.cells 57 [.whole 1, .lit (.int .i64 x287)])).push (.row 5 (Rd.int .u8) x288)) (fun o M => o = .ret (.lit (.int .i64 x420)) ∧ M = ((Mem.nil.push (.cells 57 [.whole 1, .lit (.int .i64 x421)])).push (.row 5 (Rd.int .u8) x422))) := by
  unfold f13 at H
  refine Go.Q.Spec.of_bodyR (rs := [.tmp 6]) (nt := 65) Try.func13 rfl rfl (by intro t T h; simp at h) rfl rfl fun cx hnp => ?_
  refine WP.seq ?_
  refine WP.region ?_
  refine WPL.d (d_box rfl rfl) rfl ?_
  refine WPL.q (q_as (v := .lit (.int _ _)) rfl) rfl ?_
  refine WPL.nilW ?_
  refine W.now ?_
  refine Then.n ?_
  refine WP.seq ?_
  refine WP.seq ?_
  refine WP.region ?_
  refine WPL.q (q_load sc29 rfl rfl rfl) rfl ?_
  refine WPL.q (q_eqlp Try.underlying29 rfl) rfl ?_
  refine WPL.nilW ?_
  refine W.now ?_
  refine Then.n ?_
  refine WP.condF rfl ?_
  refine WP.skipW ?_
  refine W.now ?_
  refine Then.n ?_
  refine WP.seq ?_
  refine WP.seq ?_
  obtain ⟨x428, H429, H⟩ := bnd H
  refine WP.monoW (Q := fun x E M => x = .normal ∧ E = ((((Env.none.upd 1 (.lit (.int .u32 x285))).upd 2 (.lit (.int .i64 x286))).upd 3 (.ptr 2 0)).upd 16 (.lit (.bool x428))) ∧ M = (((Mem.nil.push (.cells 57 [.whole 1, .lit (.int .i64 x287)])).push (.row 5 (Rd.int .u8) x288)).push (.cells 29 [.ptr 0 0]))) ?_ ?_
  · clear H
    have H := H429
    clear H429
    refine WP.region ?_
    refine WPL.q (q_mv (v := .lit (.int _ _)) rfl) rfl ?_
    refine WPL.q (q_lss rfl rfl) rfl ?_
    refine WPL.q (q_mv (v := .lit (.bool _)) rfl) rfl ?_
    refine WPL.split (t := 13) (b := (decide (x286 < 0))) rfl (fun hb428 => ?_) (fun hb428 => ?_)
    · replace H := cnt hb428 H
      refine WPL.skipg (b' := true) rfl rfl (lb hb428) rfl rfl ?_
      refine WPL.skipg (b' := true) rfl rfl (lb hb428) rfl rfl ?_
      refine WPL.q (q_pickT (v := .lit (.bool _)) (lb hb428) rfl) rfl ?_
      refine WPL.nilW ?_
      refine W.cv (Cv.weak (E' := ((((Env.none.upd 1 (.lit (.int .u32 x285))).upd 2 (.lit (.int .i64 x286))).upd 3 (.ptr 2 0)).upd 16 (.lit (.bool true)))) (M' := (((Mem.nil.push (.cells 57 [.whole 1, .lit (.int .i64 x287)])).push (.row 5 (Rd.int .u8) x288)).push (.cells 29 [.ptr 0 0]))) [0, 1, 2] hnp ⟨rfl, ⟨⟨⟨trivial, .inr ⟨rfl, rfl, rfl⟩⟩, .inr ⟨rfl, rfl, rfl⟩⟩, .inr ⟨rfl, rfl, rfl⟩⟩, by decide, rfl, ⟨trivial, rfl⟩⟩ (LeE.upd rfl rfl (LeE.upd rfl rfl (LeE.upd rfl rfl (LeE.upd rfl rfl (LeE.none rfl rfl)))))) rfl ?_
      refine W.now ?_
      have q0 := (Option.some.inj H)
      subst q0
      exact ⟨rfl, rfl, rfl⟩
    · replace H := cnf hb428 H
      refine WPL.qg rfl rfl (lb hb428) (q_mv (v := .lit (.int _ _)) rfl) rfl ?_
      refine WPL.qg rfl rfl (lb hb428) (q_gtr rfl rfl) rfl ?_
      refine WPL.q (q_pickF (v := .lit (.bool _)) (lb hb428) rfl) rfl ?_
      refine WPL.nilW ?_
      refine W.cv (Cv.weak (E' := ((((Env.none.upd 1 (.lit (.int .u32 x285))).upd 2 (.lit (.int .i64 x286))).upd 3 (.ptr 2 0)).upd 16 (.lit (.bool (decide (32 < x286)))))) (M' := (((Mem.nil.push (.cells 57 [.whole 1, .lit (.int .i64 x287)])).push (.row 5 (Rd.int .u8) x288)).push (.cells 29 [.ptr 0 0]))) [0, 1, 2] hnp ⟨rfl, ⟨⟨⟨trivial, .inr ⟨rfl, rfl, rfl⟩⟩, .inr ⟨rfl, rfl, rfl⟩⟩, .inr ⟨rfl, rfl, rfl⟩⟩, by decide, rfl, ⟨trivial, rfl⟩⟩ (LeE.upd rfl rfl (LeE.upd rfl rfl (LeE.upd rfl rfl (LeE.upd rfl rfl (LeE.none rfl rfl)))))) rfl ?_
      refine W.now ?_
      have q0 := (Option.some.inj H)
      subst q0
      exact ⟨rfl, rfl, rfl⟩
  · rintro _ _ _ ⟨rfl, rfl, rfl⟩
    refine W.now ?_
    refine Then.n ?_
    refine WP.cond (t := x428) rfl (fun hb => ?_) (fun hb => ?_)
    · replace H := cnt hb H
      refine WP.seq ?_
      refine WP.region ?_
      refine WPL.q (q_as (v := .lit (.int _ _)) rfl) rfl ?_
      refine WPL.nilW ?_
      refine W.now ?_
      refine Then.n ?_
      refine WP.retW ?_
      refine W.now ?_
      refine Then.r ?_
      have q0 := (Prod.mk.inj (Option.some.inj H)).1
      have q1 := (Prod.mk.inj (Prod.mk.inj (Option.some.inj H)).2).1
      have q2 := (Prod.mk.inj (Prod.mk.inj (Option.some.inj H)).2).2
      subst q0
      subst q1
      subst q2
      exact ⟨trivial, _, rfl, [0, 1], (.lit (.int .i64 1)), ((Mem.nil.push (.cells 57 [.whole 1, .lit (.int .i64 x287)])).push (.row 5 (Rd.int .u8) x288)), ⟨rfl, ⟨⟨trivial, .inr ⟨rfl, rfl, rfl⟩⟩, .inr ⟨rfl, rfl, rfl⟩⟩, by decide, rfl, ⟨trivial, rfl⟩⟩, rfl, rfl, rfl, rfl⟩
    · replace H := cnf hb H
      refine WP.skipW ?_
      refine W.now ?_
      refine Then.n ?_
      refine WP.seq ?_
      refine WP.seq ?_
      refine WP.region ?_
      refine WPL.q (q_mv (v := .lit (.int _ _)) rfl) rfl ?_
      refine WPL.q (q_mv (v := .lit (.int _ _)) rfl) rfl ?_
      obtain ⟨_, h430, H⟩ := bnd H
      refine WPL.c (runs_call (s := []) (t := [3, 4]) (N := 5) (bor := []) fn33 rfl (s33 k x285 x286 h430) ⟨rfl, trivial, by decide, rfl, trivial⟩ rfl trivial (.ren rfl rfl (.ren rfl rfl .nil)) rfl ⟨⟨trivial, rfl⟩, rfl⟩ rfl) rfl ?_
      refine WPL.nilW ?_
      refine W.now ?_
      refine Then.n ?_
      refine WP.block ?_
      refine WP.range (nti := 19) (n := 5) rfl rfl Try.func37 rfl (by kernel_rfl) rfl rfl rfl rfl fun l_431 r_431 aC431 hp431 ha431 hb431 ht431 hs431 => ?_
      refine WP.seq ?_
      refine WP.region ?_
      refine WPL.q (q_load sc3 rfl rfl rfl) rfl ?_
      refine WPL.q (q_mv (v := .lit (.int _ _)) rfl) rfl ?_
      refine WPL.nilW ?_
      refine W.now ?_
      refine Then.n ?_
      refine WP.block ?_
      refine WP.cv (Cv.weak (E' := (((((⟨fun _ => .any, [], [⟨aC431, (((Env.none.upd 3 (.ptr 3 0)).upd 19 (.fn 37 [.ptr 4 0, .ptr 2 0]))).v, [5], some (6, l_431)⟩]⟩ : Env).upd 0 (.lit (.func (.yield l_431) #[] #[]))).upd 2 (.ptr 2 0)).upd 5 (.lit (.int .i64 x286))).upd 6 (.lit (.int .i64 0)))) (M' := (((((((Mem.nil.push (.cells 57 [.whole 1, .lit (.int .i64 x287)])).push (.row 5 (Rd.int .u8) x288)).push (.cells 22 [.lit (.int .u32 x285)])).push (.cells 29 [.ptr 0 0])).push (.cells 3 [.lit (.int .i64 x286)])).push (.obj (Obj.deferred (some [])))).push (.obj (lp r_431 .ready none)))) [0, 1, 4, 2, 3, 5, 6] hnp ⟨rfl, ⟨⟨⟨⟨⟨⟨⟨trivial, .inr ⟨rfl, rfl, rfl⟩⟩, .inr ⟨rfl, rfl, rfl⟩⟩, .inr ⟨rfl, rfl, rfl⟩⟩, .inr ⟨rfl, rfl, rfl⟩⟩, .inr ⟨rfl, rfl, rfl⟩⟩, .inr ⟨rfl, rfl, rfl⟩⟩, .inr ⟨rfl, rfl, rfl⟩⟩, by decide, rfl, ⟨trivial, rfl⟩⟩ (LeE.upd rfl rfl (LeE.upd rfl rfl (LeE.upd rfl rfl (LeE.upd rfl rfl (LeE.noneD rfl rfl (.cons ⟨rfl, (LeV.upd rfl rfl (LeV.upd rfl rfl LeV.none)), rfl, rfl, rfl, rfl⟩ .nil))))))) ?_
      obtain ⟨y607, H605, H⟩ := bnd H
      refine WP.monoW (Q := fun x E M => match (generalizing := false) y607 with | (Sum.inl (x546, x547)) => x = .ret ∧ E = (⟨fun _ => .any, [], [⟨aC431, (((Env.none.upd 3 (.ptr 2 0)).upd 19 (.fn 37 [.ptr 3 0, .ptr 4 0]))).v, [5], some (6, l_431)⟩]⟩ : Env) ∧ M = (((((((Mem.nil.push (.cells 57 [.whole 1, .lit (.int .i64 x546)])).push (.row 5 (Rd.int .u8) x547)).push (.cells 29 [.ptr 0 0])).push (.cells 3 [.lit (.int .i64 x286)])).push (.cells 22 [.lit (.int .u32 x285)])).push (.obj (Obj.deferred (some [])))).push (.obj (lp r_431 .ready none))) | (Sum.inr (x548, x549)) => x = .exit 0 ∧ E = (⟨fun _ => .any, [], [⟨aC431, (((Env.none.upd 3 (.ptr 2 0)).upd 19 (.fn 37 [.ptr 3 0, .ptr 4 0]))).v, [5], some (6, l_431)⟩]⟩ : Env) ∧ M = (((((((Mem.nil.push (.cells 57 [.whole 1, .lit (.int .i64 x548)])).push (.row 5 (Rd.int .u8) x549)).push (.cells 29 [.ptr 0 0])).push (.cells 3 [.lit (.int .i64 x286)])).push (.cells 22 [.lit (.int .u32 x285)])).push (.obj (Obj.deferred (some [])))).push (.obj (lp r_431 .ready none)))) ?_ ?_
      · refine WP.loop (β := Int × Int × (List Int)) (fun n b => f13_l0 k x285 x286 n b.1 b.2.1 b.2.2 = some y607) (fun b => (((((⟨fun _ => .any, [], [⟨aC431, (((Env.none.upd 3 (.ptr 3 0)).upd 19 (.fn 37 [.ptr 4 0, .ptr 2 0]))).v, [5], some (6, l_431)⟩]⟩ : Env).upd 0 (.lit (.func (.yield l_431) #[] #[]))).upd 2 (.ptr 2 0)).upd 5 (.lit (.int .i64 x286))).upd 6 (.lit (.int .i64 b.1)))) (fun b => (((((((Mem.nil.push (.cells 57 [.whole 1, .lit (.int .i64 b.2.1)])).push (.row 5 (Rd.int .u8) b.2.2)).push (.cells 22 [.lit (.int .u32 x285)])).push (.cells 29 [.ptr 0 0])).push (.cells 3 [.lit (.int .i64 x286)])).push (.obj (Obj.deferred (some [])))).push (.obj (lp r_431 .ready none)))) k (0, x287, x288) H605 rfl rfl ?_
        rintro n ⟨x487, x488, x489⟩ H
        obtain _ | n := n
        · exact nf rfl H
        rw [f13_l0.eq_2] at H
        show WP _ _ _ _ (((((⟨fun _ => .any, [], [⟨aC431, (((Env.none.upd 3 (.ptr 3 0)).upd 19 (.fn 37 [.ptr 4 0, .ptr 2 0]))).v, [5], some (6, l_431)⟩]⟩ : Env).upd 0 (.lit (.func (.yield l_431) #[] #[]))).upd 2 (.ptr 2 0)).upd 5 (.lit (.int .i64 x286))).upd 6 (.lit (.int .i64 x487))) (((((((Mem.nil.push (.cells 57 [.whole 1, .lit (.int .i64 x488)])).push (.row 5 (Rd.int .u8) x489)).push (.cells 22 [.lit (.int .u32 x285)])).push (.cells 29 [.ptr 0 0])).push (.cells 3 [.lit (.int .i64 x286)])).push (.obj (Obj.deferred (some [])))).push (.obj (lp r_431 .ready none))) _
        refine WP.seq ?_
        refine WP.region ?_
        refine WPL.q (q_lss rfl rfl) rfl ?_
        refine WPL.nilW ?_
        refine W.now ?_
        refine Then.n ?_
        refine WP.seq ?_
        refine WP.cond (t := (decide (x487 < x286))) rfl (fun hb => ?_) (fun hb => ?_)
        · replace H := cnt hb H
          refine WP.skipW ?_
          refine W.now ?_
          refine Then.n ?_
          refine WP.seq ?_
          refine WP.block ?_
          refine WP.seq ?_
          refine WP.region ?_
          refine WPL.q (q_mv (v := .lit (.int _ _)) rfl) rfl ?_
          refine WPL.q (q_as (v := .lit (.int _ _)) rfl) rfl ?_
          refine WPL.nilW ?_
          refine W.now ?_
          refine Then.n ?_
          refine WP.seq ?_
          refine WP.region ?_
          refine WPL.q (q_mv (v := .lit _) rfl) rfl ?_
          refine WPL.q (q_mv (v := .lit (.int _ _)) rfl) rfl ?_
          refine WPL.q (q_load sc22 rfl rfl rfl) rfl ?_
          refine WPL.q (q_mv (v := .lit (.int _ _)) rfl) rfl ?_
          obtain ⟨h577, H⟩ := grd H
          refine WPL.q (q_shr rfl rfl h577) rfl ?_
          refine WPL.q (q_conv Try.underlying22 Try.underlying5 rfl) rfl ?_
          obtain ⟨x579, h579, H⟩ := bnd H
          refine WPL.q (q_nm (q_and rfl rfl) (nm_int h579)) rfl ?_
          refine WPL.y rfl rfl rfl rfl hp431 ha431 hb431 ht431 hs431 rfl rfl rfl fun aI579 => ?_
          refine WP.region ?_
          refine WPL.q (q_as (v := .lit (.int _ _)) rfl) rfl ?_
          refine WPL.nilW ?_
          refine W.now ?_
          refine ⟨rfl, rfl, _, _, _, _, _, _, rfl, rfl, ?_⟩
          refine WP.block ?_
          refine WP.seq ?_
          obtain ⟨x584, H587, H⟩ := bnd H
          refine WP.monoW (Q := fun x E M => x = .normal ∧ E = ((((⟨fun _ => .any, [], [⟨aI579, (((((Env.none.upd 0 (.lit (.func (.yield l_431) #[] #[]))).upd 2 (.ptr 4 0)).upd 5 (.lit (.int .i64 x286))).upd 6 (.lit (.int .i64 x487)))).v, [], none⟩, ⟨aC431, (((Env.none.upd 3 (.ptr 2 0)).upd 19 (.fn 37 [.ptr 3 0, .ptr 4 0]))).v, [5], some (6, l_431)⟩]⟩ : Env).upd 3 (.ptr 2 0)).upd 8 (.lit (.int .u8 x579))).upd 19 (.fn 37 [.ptr 3 0, .ptr 4 0])) ∧ M = (((((((Mem.nil.push (.cells 57 [.whole 1, .lit (.int .i64 x488)])).push (.row 5 (Rd.int .u8) x584)).push (.cells 29 [.ptr 0 0])).push (.cells 3 [.lit (.int .i64 x286)])).push (.cells 22 [.lit (.int .u32 x285)])).push (.obj (Obj.deferred (some [])))).push (.obj (lp r_431 .busy none)))) ?_ ?_
          · clear H
            have H := H587
            clear H587
            refine WP.seq ?_
            refine WP.region ?_
            refine WPL.q (q_load sc29 rfl rfl rfl) rfl ?_
            refine WPL.q (q_nilCheck rfl) rfl ?_
            refine WPL.q (q_fieldAddr fi57_1 rfl rfl) rfl ?_
            refine WPL.q (q_load sc3 rfl rfl rfl) rfl ?_
            refine WPL.q (q_rem rfl rfl rfl) rfl ?_
            refine WPL.q (q_eql rfl rfl) rfl ?_
            refine WPL.nilW ?_
            refine W.now ?_
            refine Then.n ?_
            refine WP.cond (t := (decide ((Int.tmod x488 8) = 0))) rfl (fun hb => ?_) (fun hb => ?_)
            · replace H := cnt hb H
              refine WP.regionD' 10 [0, 3] [9] mixed rfl ?_
              refine WPD.take 0 rfl (by kernel_rfl) (q_load sc29 rfl rfl rfl) rfl rfl ?_
              refine WPD.take 1 rfl (by kernel_rfl) (q_load sc29 rfl rfl rfl) rfl rfl ?_
              refine WPD.take 2 rfl (by kernel_rfl) (q_nilCheck rfl) rfl rfl ?_
              refine WPD.take 3 rfl (by kernel_rfl) (q_fieldAddr fi57_0 rfl rfl) rfl rfl ?_
              refine WPD.take 4 rfl (by kernel_rfl) (q_load sc23 rfl rfl rfl) rfl rfl ?_
              refine WPD.eff 5 [0, 3] [9] rfl (by kernel_rfl) (Does.runs (d_buildSlice (ds := ([0] : List Int)) (R := (Rd.int .u8)) li23 rfl rfl rfl rfl rfl (JoinRows.cons1 Joins.sc rfl JoinRows.nil) rfl rfl)) rfl rfl ?_
              obtain ⟨h586, H⟩ := grd H
              refine WPD.eff 6 [0, 3] [9] rfl (by kernel_rfl) (Does.runs (d_append ap23 rfl rfl rfl rfl (src_row sl23 rfl rfl) h586 rfl)) rfl rfl ?_
              refine WPD.take 7 rfl (by kernel_rfl) (q_nilCheck rfl) rfl rfl ?_
              refine WPD.take 8 rfl (by kernel_rfl) (q_fieldAddr fi57_0 rfl rfl) rfl rfl ?_
              refine WPD.effS 9 [] [] rfl (by kernel_rfl) (s_store sz23 rfl rfl rfl rfl rfl) rfl ?_
              refine WPD.doneW (by kernel_rfl) ?_
              refine W.cv (Cv.weak (E' := ((((⟨fun _ => .any, [], [⟨aI579, (((((Env.none.upd 0 (.lit (.func (.yield l_431) #[] #[]))).upd 2 (.ptr 4 0)).upd 5 (.lit (.int .i64 x286))).upd 6 (.lit (.int .i64 x487)))).v, [], none⟩, ⟨aC431, (((Env.none.upd 3 (.ptr 2 0)).upd 19 (.fn 37 [.ptr 3 0, .ptr 4 0]))).v, [5], some (6, l_431)⟩]⟩ : Env).upd 3 (.ptr 2 0)).upd 8 (.lit (.int .u8 x579))).upd 19 (.fn 37 [.ptr 3 0, .ptr 4 0]))) (M' := (((((((Mem.nil.push (.cells 57 [.whole 1, .lit (.int .i64 x488)])).push (.row 5 (Rd.int .u8) (x489 ++ ([0] : List Int)))).push (.cells 29 [.ptr 0 0])).push (.cells 3 [.lit (.int .i64 x286)])).push (.cells 22 [.lit (.int .u32 x285)])).push (.obj (Obj.deferred (some [])))).push (.obj (lp r_431 .busy none)))) [0, 8, 3, 4, 2, 5, 6] hnp ⟨rfl, ⟨⟨⟨⟨⟨⟨⟨trivial, .inr ⟨rfl, rfl, rfl⟩⟩, .inr ⟨rfl, rfl, rfl⟩⟩, .inr ⟨rfl, rfl, rfl⟩⟩, .inr ⟨rfl, rfl, rfl⟩⟩, .inr ⟨rfl, rfl, rfl⟩⟩, .inr ⟨rfl, rfl, rfl⟩⟩, .inr ⟨rfl, rfl, rfl⟩⟩, by decide, rfl, ⟨trivial, rfl⟩⟩ (LeE.upd rfl rfl (LeE.upd rfl rfl (LeE.upd rfl rfl (LeE.noneD rfl rfl (.cons ⟨rfl, (LeV.upd rfl rfl (LeV.upd rfl rfl (LeV.upd rfl rfl (LeV.upd rfl rfl LeV.none)))), rfl, rfl, rfl, rfl⟩ (.cons ⟨rfl, (LeV.upd rfl rfl (LeV.upd rfl rfl LeV.none)), rfl, rfl, rfl, rfl⟩ .nil))))))) rfl ?_
              refine W.now ?_
              have q0 := (Option.some.inj H)
              subst q0
              exact ⟨rfl, rfl, rfl⟩
            · replace H := cnf hb H
              refine WP.skipW ?_
              refine W.cv (Cv.weak (E' := ((((⟨fun _ => .any, [], [⟨aI579, (((((Env.none.upd 0 (.lit (.func (.yield l_431) #[] #[]))).upd 2 (.ptr 4 0)).upd 5 (.lit (.int .i64 x286))).upd 6 (.lit (.int .i64 x487)))).v, [], none⟩, ⟨aC431, (((Env.none.upd 3 (.ptr 2 0)).upd 19 (.fn 37 [.ptr 3 0, .ptr 4 0]))).v, [5], some (6, l_431)⟩]⟩ : Env).upd 3 (.ptr 2 0)).upd 8 (.lit (.int .u8 x579))).upd 19 (.fn 37 [.ptr 3 0, .ptr 4 0]))) (M' := (((((((Mem.nil.push (.cells 57 [.whole 1, .lit (.int .i64 x488)])).push (.row 5 (Rd.int .u8) x489)).push (.cells 29 [.ptr 0 0])).push (.cells 3 [.lit (.int .i64 x286)])).push (.cells 22 [.lit (.int .u32 x285)])).push (.obj (Obj.deferred (some [])))).push (.obj (lp r_431 .busy none)))) [0, 1, 3, 4, 2, 5, 6] hnp ⟨rfl, ⟨⟨⟨⟨⟨⟨⟨trivial, .inr ⟨rfl, rfl, rfl⟩⟩, .inr ⟨rfl, rfl, rfl⟩⟩, .inr ⟨rfl, rfl, rfl⟩⟩, .inr ⟨rfl, rfl, rfl⟩⟩, .inr ⟨rfl, rfl, rfl⟩⟩, .inr ⟨rfl, rfl, rfl⟩⟩, .inr ⟨rfl, rfl, rfl⟩⟩, by decide, rfl, ⟨trivial, rfl⟩⟩ (LeE.upd rfl rfl (LeE.upd rfl rfl (LeE.upd rfl rfl (LeE.noneD rfl rfl (.cons ⟨rfl, (LeV.upd rfl rfl (LeV.upd rfl rfl (LeV.upd rfl rfl (LeV.upd rfl rfl LeV.none)))), rfl, rfl, rfl, rfl⟩ (.cons ⟨rfl, (LeV.upd rfl rfl (LeV.upd rfl rfl LeV.none)), rfl, rfl, rfl, rfl⟩ .nil))))))) rfl ?_
              refine W.now ?_
              have q0 := (Option.some.inj H)
              subst q0
              exact ⟨rfl, rfl, rfl⟩
          · rintro _ _ _ ⟨rfl, rfl, rfl⟩
            refine W.now ?_
            refine Then.n ?_
            refine WP.seq ?_
            refine WP.regionD' 22 [0, 1, 2] [21] mixed rfl ?_
            refine WPD.take 0 rfl (by kernel_rfl) (q_load sc29 rfl rfl rfl) rfl rfl ?_
            refine WPD.take 1 rfl (by kernel_rfl) (q_nilCheck rfl) rfl rfl ?_
            refine WPD.take 2 rfl (by kernel_rfl) (q_fieldAddr fi57_0 rfl rfl) rfl rfl ?_
            refine WPD.take 3 rfl (by kernel_rfl) (q_load sc23 rfl rfl rfl) rfl rfl ?_
            refine WPD.take 4 rfl (by kernel_rfl) (q_load sc29 rfl rfl rfl) rfl rfl ?_
            refine WPD.take 5 rfl (by kernel_rfl) (q_nilCheck rfl) rfl rfl ?_
            refine WPD.take 6 rfl (by kernel_rfl) (q_fieldAddr fi57_0 rfl rfl) rfl rfl ?_
            refine WPD.take 7 rfl (by kernel_rfl) (q_load sc23 rfl rfl rfl) rfl rfl ?_
            refine WPD.take 8 rfl (by kernel_rfl) (q_len_row sl23 rfl rfl) rfl rfl ?_
            obtain ⟨x601, h601, H⟩ := bnd H
            refine WPD.take 9 rfl (by kernel_rfl) (q_nm (q_sub rfl rfl) (nm_int h601)) rfl rfl ?_
            obtain ⟨x602, h602, H⟩ := bnd H
            refine WPD.take 10 rfl (by kernel_rfl) (q_index_row sl23 rfl rfl rfl (ixs h602)) rfl rfl ?_
            refine WPD.take 11 rfl (by kernel_rfl) (q_load_row (j := (Int.toNat x601)) sc5 rfl rfl (ixj h602)) rfl rfl ?_
            refine WPD.take 12 rfl (by kernel_rfl) (q_mv (v := .lit (.int _ _)) rfl) rfl rfl ?_
            refine WPD.take 13 rfl (by kernel_rfl) (q_load sc29 rfl rfl rfl) rfl rfl ?_
            refine WPD.take 14 rfl (by kernel_rfl) (q_nilCheck rfl) rfl rfl ?_
            refine WPD.take 15 rfl (by kernel_rfl) (q_fieldAddr fi57_1 rfl rfl) rfl rfl ?_
            refine WPD.take 16 rfl (by kernel_rfl) (q_load sc3 rfl rfl rfl) rfl rfl ?_
            refine WPD.take 17 rfl (by kernel_rfl) (q_rem rfl rfl rfl) rfl rfl ?_
            obtain ⟨h602, H⟩ := grd H
            refine WPD.take 18 rfl (by kernel_rfl) (q_shl rfl rfl h602) rfl rfl ?_
            obtain ⟨x604, h604, H⟩ := bnd H
            refine WPD.take 19 rfl (by kernel_rfl) (q_nm (q_or rfl rfl) (nm_int h604)) rfl rfl ?_
            obtain ⟨x605, h605, H⟩ := bnd H
            refine WPD.take 20 rfl (by kernel_rfl) (q_index_row sl23 rfl rfl rfl (ixs h605)) rfl rfl ?_
            refine WPD.effS 21 [] [] rfl (by kernel_rfl) (s_store_row (j := (Int.toNat x601)) (d := x604) sz5 rfl rfl rfl rfl Joins.sc (ixl h605)) rfl ?_
            refine WPD.doneW (by kernel_rfl) ?_
            refine W.now ?_
            refine Then.n ?_
            refine WP.region ?_
            refine WPL.q (q_load sc29 rfl rfl rfl) rfl ?_
            refine WPL.q (q_nilCheck rfl) rfl ?_
            refine WPL.q (q_fieldAddr fi57_1 rfl rfl) rfl ?_
            refine WPL.q (q_load sc3 rfl rfl rfl) rfl ?_
            refine WPL.q (q_add rfl rfl) rfl ?_
            refine WPL.q (q_nilCheck rfl) rfl ?_
            refine WPL.q (q_fieldAddr fi57_1 rfl rfl) rfl ?_
            refine WPL.s (s_store sz3 rfl rfl rfl rfl rfl) ?_
            refine WPL.nilW ?_
            refine W.now ?_
            refine InBlock.n ?_
            refine ⟨rfl, _, _, _, _, _, _, rfl, rfl, _, rfl, ?_⟩
            refine WPL.q (q_not rfl) rfl ?_
            refine WPL.nilW ?_
            refine W.now ?_
            refine Then.n ?_
            refine WP.cond (t := (!true)) rfl (fun hb => ?_) (fun hb => ?_)
            · replace H := cnt hb H
              refine WP.retW ?_
              refine W.cv (Cv.weak (E' := (⟨fun _ => .any, [], [⟨aC431, (((Env.none.upd 3 (.ptr 2 0)).upd 19 (.fn 37 [.ptr 3 0, .ptr 4 0]))).v, [5], some (6, l_431)⟩]⟩ : Env)) (M' := (((((((Mem.nil.push (.cells 57 [.whole 1, .lit (.int .i64 (IntKind.wrap .i64 (x488 + 1)))])).push (.row 5 (Rd.int .u8) (List.set x584 (Int.toNat x601) x604))).push (.cells 29 [.ptr 0 0])).push (.cells 3 [.lit (.int .i64 x286)])).push (.cells 22 [.lit (.int .u32 x285)])).push (.obj (Obj.deferred (some [])))).push (.obj (lp r_431 .ready none)))) [0, 1, 2, 3, 4, 5, 6] hnp ⟨rfl, ⟨⟨⟨⟨⟨⟨⟨trivial, .inr ⟨rfl, rfl, rfl⟩⟩, .inr ⟨rfl, rfl, rfl⟩⟩, .inr ⟨rfl, rfl, rfl⟩⟩, .inr ⟨rfl, rfl, rfl⟩⟩, .inr ⟨rfl, rfl, rfl⟩⟩, .inr ⟨rfl, rfl, rfl⟩⟩, .inr ⟨rfl, rfl, rfl⟩⟩, by decide, rfl, ⟨trivial, rfl⟩⟩ (LeE.noneD rfl rfl (.cons ⟨rfl, (LeV.upd rfl rfl (LeV.upd rfl rfl LeV.none)), rfl, rfl, rfl, rfl⟩ .nil))) rfl ?_
              refine W.now ?_
              refine InBlock.r ?_
              refine Then.r ?_
              refine Then.r ?_
              have q0 := Option.some.inj H
              subst q0
              exact ⟨rfl, rfl, rfl⟩
            · replace H := cnf hb H
              refine WP.skipW ?_
              refine W.now ?_
              refine InBlock.n ?_
              refine Then.n ?_
              refine WP.region ?_
              refine WPL.q (q_add rfl rfl) rfl ?_
              refine WPL.q (q_mv (v := .lit (.int _ _)) rfl) rfl ?_
              refine WPL.nilW ?_
              refine W.cv (Cv.weak (E' := (((((⟨fun _ => .any, [], [⟨aC431, (((Env.none.upd 3 (.ptr 3 0)).upd 19 (.fn 37 [.ptr 4 0, .ptr 2 0]))).v, [5], some (6, l_431)⟩]⟩ : Env).upd 0 (.lit (.func (.yield l_431) #[] #[]))).upd 2 (.ptr 2 0)).upd 5 (.lit (.int .i64 x286))).upd 6 (.lit (.int .i64 (IntKind.wrap .i64 (x487 + 1)))))) (M' := (((((((Mem.nil.push (.cells 57 [.whole 1, .lit (.int .i64 (IntKind.wrap .i64 (x488 + 1)))])).push (.row 5 (Rd.int .u8) (List.set x584 (Int.toNat x601) x604))).push (.cells 22 [.lit (.int .u32 x285)])).push (.cells 29 [.ptr 0 0])).push (.cells 3 [.lit (.int .i64 x286)])).push (.obj (Obj.deferred (some [])))).push (.obj (lp r_431 .ready none)))) [0, 1, 4, 2, 3, 5, 6] hnp ⟨rfl, ⟨⟨⟨⟨⟨⟨⟨trivial, .inr ⟨rfl, rfl, rfl⟩⟩, .inr ⟨rfl, rfl, rfl⟩⟩, .inr ⟨rfl, rfl, rfl⟩⟩, .inr ⟨rfl, rfl, rfl⟩⟩, .inr ⟨rfl, rfl, rfl⟩⟩, .inr ⟨rfl, rfl, rfl⟩⟩, .inr ⟨rfl, rfl, rfl⟩⟩, by decide, rfl, ⟨trivial, rfl⟩⟩ (LeE.upd rfl rfl (LeE.upd rfl rfl (LeE.upd rfl rfl (LeE.upd rfl rfl (LeE.noneD rfl rfl (.cons ⟨rfl, (LeV.upd rfl rfl (LeV.upd rfl rfl LeV.none)), rfl, rfl, rfl, rfl⟩ .nil))))))) rfl ?_
              refine W.now ?_
              exact Then.n ⟨n, ((IntKind.wrap .i64 (x487 + 1)), (IntKind.wrap .i64 (x488 + 1)), (List.set x584 (Int.toNat x601) x604)), Nat.lt_succ_self n, H, rfl, rfl⟩
        · replace H := cnf hb H
          refine WP.exitW ?_
          refine W.cv (Cv.weak (E' := (⟨fun _ => .any, [], [⟨aC431, (((Env.none.upd 3 (.ptr 2 0)).upd 19 (.fn 37 [.ptr 3 0, .ptr 4 0]))).v, [5], some (6, l_431)⟩]⟩ : Env)) (M' := (((((((Mem.nil.push (.cells 57 [.whole 1, .lit (.int .i64 x488)])).push (.row 5 (Rd.int .u8) x489)).push (.cells 29 [.ptr 0 0])).push (.cells 3 [.lit (.int .i64 x286)])).push (.cells 22 [.lit (.int .u32 x285)])).push (.obj (Obj.deferred (some [])))).push (.obj (lp r_431 .ready none)))) [0, 1, 3, 4, 2, 5, 6] hnp ⟨rfl, ⟨⟨⟨⟨⟨⟨⟨trivial, .inr ⟨rfl, rfl, rfl⟩⟩, .inr ⟨rfl, rfl, rfl⟩⟩, .inr ⟨rfl, rfl, rfl⟩⟩, .inr ⟨rfl, rfl, rfl⟩⟩, .inr ⟨rfl, rfl, rfl⟩⟩, .inr ⟨rfl, rfl, rfl⟩⟩, .inr ⟨rfl, rfl, rfl⟩⟩, by decide, rfl, ⟨trivial, rfl⟩⟩ (LeE.noneD rfl rfl (.cons ⟨rfl, (LeV.upd rfl rfl (LeV.upd rfl rfl LeV.none)), rfl, rfl, rfl, rfl⟩ .nil))) rfl ?_
          refine W.now ?_
          refine Then.x ?_
          refine Then.x ?_
          have q0 := Option.some.inj H
          subst q0
          exact ⟨rfl, rfl, rfl⟩
      · rcases y607 with ⟨x546, x547⟩ | ⟨x548, x549⟩
        · rintro _ _ _ ⟨rfl, rfl, rfl⟩
          refine W.now ?_
          refine InBlock.r ?_
          refine ⟨trivial, _, _, _, _, rfl, _, _, rfl, (fun h => by cases h), ?_⟩
          refine W.now ?_
          refine InBlock.n ?_
          refine Then.n ?_
          refine WP.seq ?_
          refine WP.region ?_
          refine WPL.q (q_as (v := .lit (.int _ _)) rfl) rfl ?_
          refine WPL.nilW ?_
          refine W.now ?_
          refine Then.n ?_
          refine WP.retW ?_
          refine W.now ?_
          have q0 := (Prod.mk.inj (Option.some.inj H)).1
          have q1 := (Prod.mk.inj (Prod.mk.inj (Option.some.inj H)).2).1
          have q2 := (Prod.mk.inj (Prod.mk.inj (Option.some.inj H)).2).2
          subst q0
          subst q1
          subst q2
          exact ⟨⟨rfl, trivial⟩, _, rfl, [0, 1], (.lit (.int .i64 0)), ((Mem.nil.push (.cells 57 [.whole 1, .lit (.int .i64 x546)])).push (.row 5 (Rd.int .u8) x547)), ⟨rfl, ⟨⟨trivial, .inr ⟨rfl, rfl, rfl⟩⟩, .inr ⟨rfl, rfl, rfl⟩⟩, by decide, rfl, ⟨trivial, rfl⟩⟩, rfl, rfl, rfl, rfl⟩
        · rintro _ _ _ ⟨rfl, rfl, rfl⟩
          refine W.now ?_
          refine InBlock.x0 ?_
          refine ⟨trivial, _, _, _, _, rfl, _, _, rfl, (fun h => by cases h), ?_⟩
          refine W.now ?_
          refine InBlock.n ?_
          refine Then.n ?_
          refine WP.seq ?_
          refine WP.region ?_
          refine WPL.q (q_as (v := .lit (.int _ _)) rfl) rfl ?_
          refine WPL.nilW ?_
          refine W.now ?_
          refine Then.n ?_
          refine WP.retW ?_
          refine W.now ?_
          have q0 := (Prod.mk.inj (Option.some.inj H)).1
          have q1 := (Prod.mk.inj (Prod.mk.inj (Option.some.inj H)).2).1
          have q2 := (Prod.mk.inj (Prod.mk.inj (Option.some.inj H)).2).2
          subst q0
          subst q1
          subst q2
          exact ⟨⟨rfl, trivial⟩, _, rfl, [0, 1], (.lit (.int .i64 0)), ((Mem.nil.push (.cells 57 [.whole 1, .lit (.int .i64 x548)])).push (.row 5 (Rd.int .u8) x549)), ⟨rfl, ⟨⟨trivial, .inr ⟨rfl, rfl, rfl⟩⟩, .inr ⟨rfl, rfl, rfl⟩⟩, by decide, rfl, ⟨trivial, rfl⟩⟩, rfl, rfl, rfl, rfl⟩
end Go.Proofs.Yticbhcccdfcogaa.W
