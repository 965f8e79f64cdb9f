/- Walks: Fc9 -/
import Derived.Test.YthgbompoldmhmaaFb
import Derived.Test.YthgbompoldmhmaaFc8
namespace Go.Proofs.Ythgbompoldmhmaa.W
open Go Go.Q Go.Proofs
set_option linter.unusedVariables false
set_option linter.unusedSimpArgs false
set_option maxRecDepth 100000 in
set_option maxHeartbeats 4000000 in
theorem s22 (k : Nat) (x8905 : (List Int)) (x8906 : (List Int)) (x8907 : (List Int)) (x8908 : Int) (x9493 : Int) (x9494 : Int) (x9495 : Int) (H : f22 k x8905 x8906 x8907 x8908 = some (x9493, x9494, x9495)) : Go.Q.Spec Try.prog 22 1 [.ro (Rd.slice (Rd.int .i64)) false x8905, .ro (Rd.slice (Rd.int .u32)) false x8906, .ptr 0 0] (Mem.nil.push (.cells 46 [.ro (Rd.slice (Rd.int .u8)) false x8907, .lit (.int .i64 x8908)])) (fun o M => o = .ret (.tup [.lit (.int .i64 x9493), .lit (.int .i64 x9494)]) ∧ M = (Mem.nil.push (.cells 46 [.ro (Rd.slice (Rd.int .u8)) false x8907, .lit (.int .i64 x9495)]))) := by
  unfold f22 at H
  refine Go.Q.Spec.of_bodyR (rs := [.tmp 6, .tmp 7]) (nt := 103) Try.func22 rfl rfl (by intro t T h; simp at h) rfl rfl fun cx hnp => ?_
  refine WP.seq ?_
  refine WP.region ?_
  refine WPL.q (q_as (v := .lit (.int _ _)) rfl) rfl ?_
  refine WPL.q (q_as (v := .lit (.int _ _)) rfl) rfl ?_
  refine WPL.nilW ?_
  refine W.now ?_
  refine Then.n ?_
  refine WP.seq ?_
  refine WP.region ?_
  refine WPL.q (q_as (v := .lit (.int _ _)) rfl) rfl ?_
  refine WPL.nilW ?_
  refine W.now ?_
  refine Then.n ?_
  refine WP.seq ?_
  refine WP.region ?_
  refine WPL.q (q_mv (v := .ptr _ _) rfl) rfl ?_
  refine WPL.q (q_nilCheck rfl) rfl ?_
  refine WPL.q (q_fieldAddr fi46_1 rfl rfl) rfl ?_
  refine WPL.q (q_load sc3 rfl rfl rfl) rfl ?_
  refine WPL.q (q_as (v := .lit (.int _ _)) rfl) rfl ?_
  refine WPL.nilW ?_
  refine W.now ?_
  refine Then.n ?_
  refine WP.seq ?_
  refine WP.seq ?_
  refine WP.region ?_
  refine WPL.q (q_as (v := .lit (.int _ _)) rfl) rfl ?_
  refine WPL.nilW ?_
  refine W.now ?_
  refine Then.n ?_
  refine WP.block ?_
  refine WP.cv (Cv.weak (E' := ((((((Env.none.upd 0 (.ro (Rd.slice (Rd.int .i64)) false x8905)).upd 1 (.ro (Rd.slice (Rd.int .u32)) false x8906)).upd 2 (.ptr 0 0)).upd 8 (.lit (.int .u32 0))).upd 9 (.lit (.int .i64 x8908))).upd 10 (.lit (.int .i64 1)))) (M' := (Mem.nil.push (.cells 46 [.ro (Rd.slice (Rd.int .u8)) false x8907, .lit (.int .i64 x8908)]))) [0] hnp ⟨rfl, ⟨trivial, .inr ⟨rfl, rfl, rfl⟩⟩, by decide, rfl, ⟨trivial, rfl⟩⟩ (LeE.upd rfl rfl (LeE.upd rfl rfl (LeE.upd rfl rfl (LeE.upd rfl rfl (LeE.upd rfl rfl (LeE.upd rfl rfl (LeE.none rfl rfl)))))))) ?_
  obtain ⟨y10306, H10304, H⟩ := bnd H
  refine WP.monoW (Q := fun x E M => match (generalizing := false) y10306 with | (Sum.inl (x9995, x9996, x9997)) => x = .ret ∧ E = ((Env.none.upd 6 (.lit (.int .i64 x9995))).upd 7 (.lit (.int .i64 x9996))) ∧ M = (Mem.nil.push (.cells 46 [.ro (Rd.slice (Rd.int .u8)) false x8907, .lit (.int .i64 x9997)])) | (Sum.inr x9998) => x = .exit 0 ∧ E = ((Env.none.upd 2 (.ptr 0 0)).upd 9 (.lit (.int .i64 x8908))) ∧ M = (Mem.nil.push (.cells 46 [.ro (Rd.slice (Rd.int .u8)) false x8907, .lit (.int .i64 x9998)]))) ?_ ?_
  · refine WP.loop (β := Int × Int × Int) (fun n b => f22_l0 k x8905 x8906 x8907 x8908 n b.1 b.2.1 b.2.2 = some y10306) (fun b => ((((((Env.none.upd 0 (.ro (Rd.slice (Rd.int .i64)) false x8905)).upd 1 (.ro (Rd.slice (Rd.int .u32)) false x8906)).upd 2 (.ptr 0 0)).upd 8 (.lit (.int .u32 b.1))).upd 9 (.lit (.int .i64 x8908))).upd 10 (.lit (.int .i64 b.2.1)))) (fun b => (Mem.nil.push (.cells 46 [.ro (Rd.slice (Rd.int .u8)) false x8907, .lit (.int .i64 b.2.2)]))) k (0, 1, x8908) H10304 rfl rfl ?_
    rintro n ⟨x9744, x9745, x9746⟩ H
    obtain _ | n := n
    · exact nf rfl H
    rw [f22_l0.eq_2] at H
    show WP _ _ _ _ ((((((Env.none.upd 0 (.ro (Rd.slice (Rd.int .i64)) false x8905)).upd 1 (.ro (Rd.slice (Rd.int .u32)) false x8906)).upd 2 (.ptr 0 0)).upd 8 (.lit (.int .u32 x9744))).upd 9 (.lit (.int .i64 x8908))).upd 10 (.lit (.int .i64 x9745))) (Mem.nil.push (.cells 46 [.ro (Rd.slice (Rd.int .u8)) false x8907, .lit (.int .i64 x9746)])) _
    refine WP.seq ?_
    refine WP.seq ?_
    refine WP.region ?_
    refine WPL.q (q_mv (v := .lit (.int _ _)) rfl) rfl ?_
    refine WPL.q (q_leq rfl rfl) rfl ?_
    refine WPL.nilW ?_
    refine W.now ?_
    refine Then.n ?_
    refine WP.cond (t := (decide (x9745 ≤ 15))) rfl (fun hb => ?_) (fun hb => ?_)
    · replace H := cnt hb H
      refine WP.skipW ?_
      refine W.now ?_
      refine Then.n ?_
      refine WP.seq ?_
      refine WP.block ?_
      refine WP.seq ?_
      refine WP.region ?_
      refine WPL.q (q_as (v := .lit (.bool _)) rfl) rfl ?_
      refine WPL.nilW ?_
      refine W.now ?_
      refine Then.n ?_
      refine WP.seq ?_
      refine WP.seq ?_
      refine WP.region ?_
      refine WPL.q (q_as (v := .lit (.int _ _)) rfl) rfl ?_
      refine WPL.nilW ?_
      refine W.now ?_
      refine Then.n ?_
      refine WP.block ?_
      refine WP.cv (Cv.weak (E' := ((((((((Env.none.upd 0 (.ro (Rd.slice (Rd.int .i64)) false x8905)).upd 1 (.ro (Rd.slice (Rd.int .u32)) false x8906)).upd 2 (.ptr 0 0)).upd 8 (.lit (.int .u32 x9744))).upd 9 (.lit (.int .i64 x8908))).upd 10 (.lit (.int .i64 x9745))).upd 11 (.lit (.bool false))).upd 12 (.lit (.int .i64 0)))) (M' := (Mem.nil.push (.cells 46 [.ro (Rd.slice (Rd.int .u8)) false x8907, .lit (.int .i64 x9746)]))) [0] hnp ⟨rfl, ⟨trivial, .inr ⟨rfl, rfl, rfl⟩⟩, by decide, rfl, ⟨trivial, rfl⟩⟩ (LeE.upd rfl rfl (LeE.upd rfl rfl (LeE.upd rfl rfl (LeE.upd rfl rfl (LeE.upd rfl rfl (LeE.upd rfl rfl (LeE.upd rfl rfl (LeE.upd rfl rfl (LeE.none rfl rfl)))))))))) ?_
      obtain ⟨x10193, H10229, H⟩ := bnd H
      refine WP.monoW (Q := fun x E M => x = .exit 2 ∧ E = (((((((Env.none.upd 0 (.ro (Rd.slice (Rd.int .i64)) false x8905)).upd 1 (.ro (Rd.slice (Rd.int .u32)) false x8906)).upd 2 (.ptr 0 0)).upd 8 (.lit (.int .u32 x9744))).upd 9 (.lit (.int .i64 x8908))).upd 10 (.lit (.int .i64 x9745))).upd 11 (.lit (.bool x10193))) ∧ M = (Mem.nil.push (.cells 46 [.ro (Rd.slice (Rd.int .u8)) false x8907, .lit (.int .i64 x9746)]))) ?_ ?_
      · refine WP.loop (β := Bool × Int) (fun n b => f22_l1 k x8905 x8906 x9744 x9745 n b.1 b.2 = some x10193) (fun b => ((((((((Env.none.upd 0 (.ro (Rd.slice (Rd.int .i64)) false x8905)).upd 1 (.ro (Rd.slice (Rd.int .u32)) false x8906)).upd 2 (.ptr 0 0)).upd 8 (.lit (.int .u32 x9744))).upd 9 (.lit (.int .i64 x8908))).upd 10 (.lit (.int .i64 x9745))).upd 11 (.lit (.bool b.1))).upd 12 (.lit (.int .i64 b.2)))) (fun b => (Mem.nil.push (.cells 46 [.ro (Rd.slice (Rd.int .u8)) false x8907, .lit (.int .i64 x9746)]))) k (false, 0) H10229 rfl rfl ?_
        rintro n ⟨x10155, x10156⟩ H
        obtain _ | n := n
        · exact nf rfl H
        rw [f22_l1.eq_2] at H
        show WP _ _ _ _ ((((((((Env.none.upd 0 (.ro (Rd.slice (Rd.int .i64)) false x8905)).upd 1 (.ro (Rd.slice (Rd.int .u32)) false x8906)).upd 2 (.ptr 0 0)).upd 8 (.lit (.int .u32 x9744))).upd 9 (.lit (.int .i64 x8908))).upd 10 (.lit (.int .i64 x9745))).upd 11 (.lit (.bool x10155))).upd 12 (.lit (.int .i64 x10156))) (Mem.nil.push (.cells 46 [.ro (Rd.slice (Rd.int .u8)) false x8907, .lit (.int .i64 x9746)])) _
        refine WP.seq ?_
        refine WP.seq ?_
        refine WP.region ?_
        refine WPL.q (q_mv (v := .lit (.int _ _)) rfl) rfl ?_
        refine WPL.q (q_mv (v := .ro _ _ _) rfl) rfl ?_
        refine WPL.q (q_len_ro sl22 rfl) rfl ?_
        obtain ⟨x10195, h10195, H⟩ := bnd H
        refine WPL.q (q_nm (q_lss rfl rfl) (nm_bool h10195)) rfl ?_
        refine WPL.nilW ?_
        refine W.now ?_
        refine Then.n ?_
        refine WP.cond (t := x10195) rfl (fun hb => ?_) (fun hb => ?_)
        · replace H := cnt hb H
          refine WP.skipW ?_
          refine W.now ?_
          refine Then.n ?_
          refine WP.seq ?_
          obtain ⟨x10212, H10228, H⟩ := bnd H
          refine WP.monoW (Q := fun x E M => x = .normal ∧ E = ((((((((Env.none.upd 0 (.ro (Rd.slice (Rd.int .i64)) false x8905)).upd 1 (.ro (Rd.slice (Rd.int .u32)) false x8906)).upd 2 (.ptr 0 0)).upd 8 (.lit (.int .u32 x9744))).upd 9 (.lit (.int .i64 x8908))).upd 10 (.lit (.int .i64 x9745))).upd 11 (.lit (.bool x10212))).upd 12 (.lit (.int .i64 x10156))) ∧ M = (Mem.nil.push (.cells 46 [.ro (Rd.slice (Rd.int .u8)) false x8907, .lit (.int .i64 x9746)]))) ?_ ?_
          · clear H
            have H := H10228
            clear H10228
            refine WP.block ?_
            refine WP.regionD' 27 [] [] mixed rfl ?_
            refine WPD.takeT 0 rfl (by kernel_rfl) (q_mv (v := .lit (.bool _)) rfl) rfl ?_
            refine WPD.takeT 1 rfl (by kernel_rfl) (q_mv (v := .lit (.bool _)) rfl) rfl ?_
            refine WPD.split (t := 31) (b := x10155) rfl (fun hb10220 => ?_) (fun hb10220 => ?_)
            · replace H := cnt hb10220 H
              refine WPD.pass (b' := true) 2 rfl (by kernel_rfl) rfl rfl (lb hb10220) rfl rfl ?_
              refine WPD.pass (b' := true) 3 rfl (by kernel_rfl) rfl rfl (lb hb10220) rfl rfl ?_
              refine WPD.pass (b' := true) 4 rfl (by kernel_rfl) rfl rfl (lb hb10220) rfl rfl ?_
              refine WPD.pass (b' := true) 5 rfl (by kernel_rfl) rfl rfl (lb hb10220) rfl rfl ?_
              refine WPD.pass (b' := true) 6 rfl (by kernel_rfl) rfl rfl (lb hb10220) rfl rfl ?_
              refine WPD.pass (b' := true) 7 rfl (by kernel_rfl) rfl rfl (lb hb10220) rfl rfl ?_
              refine WPD.pass (b' := true) 8 rfl (by kernel_rfl) rfl rfl (lb hb10220) rfl rfl ?_
              refine WPD.passu 9 rfl (by kernel_rfl) rfl rfl rfl rfl ?_
              refine WPD.passu 10 rfl (by kernel_rfl) rfl rfl rfl rfl ?_
              refine WPD.passu 11 rfl (by kernel_rfl) rfl rfl rfl rfl ?_
              refine WPD.passu 12 rfl (by kernel_rfl) rfl rfl rfl rfl ?_
              refine WPD.passu 13 rfl (by kernel_rfl) rfl rfl rfl rfl ?_
              refine WPD.passu 14 rfl (by kernel_rfl) rfl rfl rfl rfl ?_
              refine WPD.passu 15 rfl (by kernel_rfl) rfl rfl rfl rfl ?_
              refine WPD.passu 16 rfl (by kernel_rfl) rfl rfl rfl rfl ?_
              refine WPD.passu 17 rfl (by kernel_rfl) rfl rfl rfl rfl ?_
              refine WPD.passu 18 rfl (by kernel_rfl) rfl rfl rfl rfl ?_
              refine WPD.passu 19 rfl (by kernel_rfl) rfl rfl rfl rfl ?_
              refine WPD.passu 20 rfl (by kernel_rfl) rfl rfl rfl rfl ?_
              refine WPD.passu 21 rfl (by kernel_rfl) rfl rfl rfl rfl ?_
              refine WPD.passu 22 rfl (by kernel_rfl) rfl rfl rfl rfl ?_
              refine WPD.passu 23 rfl (by kernel_rfl) rfl rfl rfl rfl ?_
              refine WPD.pass (b' := true) 24 rfl (by kernel_rfl) rfl rfl (lb hb10220) rfl rfl ?_
              refine WPD.takeT 25 rfl (by kernel_rfl) (q_pickT (v := .lit (.bool _)) (lb hb10220) rfl) rfl ?_
              refine WPD.takeT 26 rfl (by kernel_rfl) (q_as (v := .lit (.bool _)) rfl) rfl ?_
              refine WPD.doneW (by kernel_rfl) ?_
              refine W.cv (Cv.weak (E' := ((((((((Env.none.upd 0 (.ro (Rd.slice (Rd.int .i64)) false x8905)).upd 1 (.ro (Rd.slice (Rd.int .u32)) false x8906)).upd 2 (.ptr 0 0)).upd 8 (.lit (.int .u32 x9744))).upd 9 (.lit (.int .i64 x8908))).upd 10 (.lit (.int .i64 x9745))).upd 11 (.lit (.bool true))).upd 12 (.lit (.int .i64 x10156)))) (M' := (Mem.nil.push (.cells 46 [.ro (Rd.slice (Rd.int .u8)) false x8907, .lit (.int .i64 x9746)]))) [0] hnp ⟨rfl, ⟨trivial, .inr ⟨rfl, rfl, rfl⟩⟩, by decide, rfl, ⟨trivial, rfl⟩⟩ (LeE.upd rfl rfl (LeE.upd rfl rfl (LeE.upd rfl rfl (LeE.upd rfl rfl (LeE.upd rfl rfl (LeE.upd rfl rfl (LeE.upd rfl rfl (LeE.upd rfl rfl (LeE.none rfl rfl)))))))))) rfl ?_
              refine W.now ?_
              refine InBlock.n ?_
              have q0 := (Option.some.inj H)
              subst q0
              exact ⟨rfl, rfl, rfl⟩
            · replace H := cnf hb10220 H
              refine WPD.takegT 2 rfl (by kernel_rfl) rfl rfl (lb hb10220) (q_mv (v := .ro _ _ _) rfl) rfl ?_
              refine WPD.takegT 3 rfl (by kernel_rfl) rfl rfl (lb hb10220) (q_mv (v := .lit (.int _ _)) rfl) rfl ?_
              obtain ⟨x10222, h10222, H⟩ := bnd H
              refine WPD.takegT 4 rfl (by kernel_rfl) rfl rfl (lb hb10220) (q_index_ro sl22 rfl rfl rfl h10222) rfl ?_
              refine WPD.takegT 5 rfl (by kernel_rfl) rfl rfl (lb hb10220) (q_load_sc sc3 rfl) rfl ?_
              refine WPD.takegT 6 rfl (by kernel_rfl) rfl rfl (lb hb10220) (q_mv (v := .lit (.int _ _)) rfl) rfl ?_
              refine WPD.takegT 7 rfl (by kernel_rfl) rfl rfl (lb hb10220) (q_geq rfl rfl) rfl ?_
              refine WPD.takegT 8 rfl (by kernel_rfl) rfl rfl (lb hb10220) (q_mv (v := .lit (.bool _)) rfl) rfl ?_
              refine WPD.split (t := 38) (b := (decide (x9745 ≤ x10222))) rfl (fun hb10222 => ?_) (fun hb10222 => ?_)
              · replace H := cnt hb10222 H
                refine WPD.takegT 9 rfl (by kernel_rfl) rfl rfl (lb hb10222) (q_mv (v := .ro _ _ _) rfl) rfl ?_
                refine WPD.takegT 10 rfl (by kernel_rfl) rfl rfl (lb hb10222) (q_mv (v := .lit (.int _ _)) rfl) rfl ?_
                obtain ⟨x10224, h10224, H⟩ := bnd H
                refine WPD.takegT 11 rfl (by kernel_rfl) rfl rfl (lb hb10222) (q_index_ro sl32 rfl rfl rfl h10224) rfl ?_
                refine WPD.takegT 12 rfl (by kernel_rfl) rfl rfl (lb hb10222) (q_load_sc sc35 rfl) rfl ?_
                refine WPD.takegT 13 rfl (by kernel_rfl) rfl rfl (lb hb10222) (q_mv (v := .ro _ _ _) rfl) rfl ?_
                refine WPD.takegT 14 rfl (by kernel_rfl) rfl rfl (lb hb10222) (q_mv (v := .lit (.int _ _)) rfl) rfl ?_
                obtain ⟨x10225, h10225, H⟩ := bnd H
                refine WPD.takegT 15 rfl (by kernel_rfl) rfl rfl (lb hb10222) (q_index_ro sl22 rfl rfl rfl h10225) rfl ?_
                refine WPD.takegT 16 rfl (by kernel_rfl) rfl rfl (lb hb10222) (q_load_sc sc3 rfl) rfl ?_
                refine WPD.takegT 17 rfl (by kernel_rfl) rfl rfl (lb hb10222) (q_mv (v := .lit (.int _ _)) rfl) rfl ?_
                refine WPD.takegT 18 rfl (by kernel_rfl) rfl rfl (lb hb10222) (q_sub rfl rfl) rfl ?_
                obtain ⟨x10226, h10226, H⟩ := bnd H
                refine WPD.takegT 19 rfl (by kernel_rfl) rfl rfl (lb hb10222) (q_nm (q_add rfl rfl) (nm_int h10226)) rfl ?_
                refine WPD.takegT 20 rfl (by kernel_rfl) rfl rfl (lb hb10222) (q_conv Try.underlying3 Try.underlying27 rfl) rfl ?_
                obtain ⟨h10226, H⟩ := grd H
                obtain ⟨x10228, h10228, H⟩ := bnd H
                refine WPD.takegT 21 rfl (by kernel_rfl) rfl rfl (lb hb10222) (q_nm (q_shr rfl rfl h10226) (nm_int h10228)) rfl ?_
                refine WPD.takegT 22 rfl (by kernel_rfl) rfl rfl (lb hb10222) (q_mv (v := .lit (.int _ _)) rfl) rfl ?_
                refine WPD.takegT 23 rfl (by kernel_rfl) rfl rfl (lb hb10222) (q_eql rfl rfl) rfl ?_
                refine WPD.takegT 24 rfl (by kernel_rfl) rfl rfl (lb hb10220) (q_pickT (v := .lit (.bool _)) (lb hb10222) rfl) rfl ?_
                refine WPD.takeT 25 rfl (by kernel_rfl) (q_pickF (v := .lit (.bool _)) (lb hb10220) rfl) rfl ?_
                refine WPD.takeT 26 rfl (by kernel_rfl) (q_as (v := .lit (.bool _)) rfl) rfl ?_
                refine WPD.doneW (by kernel_rfl) ?_
                refine W.cv (Cv.weak (E' := ((((((((Env.none.upd 0 (.ro (Rd.slice (Rd.int .i64)) false x8905)).upd 1 (.ro (Rd.slice (Rd.int .u32)) false x8906)).upd 2 (.ptr 0 0)).upd 8 (.lit (.int .u32 x9744))).upd 9 (.lit (.int .i64 x8908))).upd 10 (.lit (.int .i64 x9745))).upd 11 (.lit (.bool (decide (x10228 = x9744))))).upd 12 (.lit (.int .i64 x10156)))) (M' := (Mem.nil.push (.cells 46 [.ro (Rd.slice (Rd.int .u8)) false x8907, .lit (.int .i64 x9746)]))) [0] hnp ⟨rfl, ⟨trivial, .inr ⟨rfl, rfl, rfl⟩⟩, by decide, rfl, ⟨trivial, rfl⟩⟩ (LeE.upd rfl rfl (LeE.upd rfl rfl (LeE.upd rfl rfl (LeE.upd rfl rfl (LeE.upd rfl rfl (LeE.upd rfl rfl (LeE.upd rfl rfl (LeE.upd rfl rfl (LeE.none rfl rfl)))))))))) rfl ?_
                refine W.now ?_
                refine InBlock.n ?_
                have q0 := (Option.some.inj H)
                subst q0
                exact ⟨rfl, rfl, rfl⟩
              · replace H := cnf hb10222 H
                refine WPD.pass (b' := false) 9 rfl (by kernel_rfl) rfl rfl (lb hb10222) rfl rfl ?_
                refine WPD.pass (b' := false) 10 rfl (by kernel_rfl) rfl rfl (lb hb10222) rfl rfl ?_
                refine WPD.pass (b' := false) 11 rfl (by kernel_rfl) rfl rfl (lb hb10222) rfl rfl ?_
                refine WPD.pass (b' := false) 12 rfl (by kernel_rfl) rfl rfl (lb hb10222) rfl rfl ?_
                refine WPD.pass (b' := false) 13 rfl (by kernel_rfl) rfl rfl (lb hb10222) rfl rfl ?_
                refine WPD.pass (b' := false) 14 rfl (by kernel_rfl) rfl rfl (lb hb10222) rfl rfl ?_
                refine WPD.pass (b' := false) 15 rfl (by kernel_rfl) rfl rfl (lb hb10222) rfl rfl ?_
                refine WPD.pass (b' := false) 16 rfl (by kernel_rfl) rfl rfl (lb hb10222) rfl rfl ?_
                refine WPD.pass (b' := false) 17 rfl (by kernel_rfl) rfl rfl (lb hb10222) rfl rfl ?_
                refine WPD.pass (b' := false) 18 rfl (by kernel_rfl) rfl rfl (lb hb10222) rfl rfl ?_
                refine WPD.pass (b' := false) 19 rfl (by kernel_rfl) rfl rfl (lb hb10222) rfl rfl ?_
                refine WPD.pass (b' := false) 20 rfl (by kernel_rfl) rfl rfl (lb hb10222) rfl rfl ?_
                refine WPD.pass (b' := false) 21 rfl (by kernel_rfl) rfl rfl (lb hb10222) rfl rfl ?_
                refine WPD.pass (b' := false) 22 rfl (by kernel_rfl) rfl rfl (lb hb10222) rfl rfl ?_
                refine WPD.pass (b' := false) 23 rfl (by kernel_rfl) rfl rfl (lb hb10222) rfl rfl ?_
                refine WPD.takegT 24 rfl (by kernel_rfl) rfl rfl (lb hb10220) (q_pickF (v := .lit (.bool _)) (lb hb10222) rfl) rfl ?_
                refine WPD.takeT 25 rfl (by kernel_rfl) (q_pickF (v := .lit (.bool _)) (lb hb10220) rfl) rfl ?_
                refine WPD.takeT 26 rfl (by kernel_rfl) (q_as (v := .lit (.bool _)) rfl) rfl ?_
                refine WPD.doneW (by kernel_rfl) ?_
                refine W.cv (Cv.weak (E' := ((((((((Env.none.upd 0 (.ro (Rd.slice (Rd.int .i64)) false x8905)).upd 1 (.ro (Rd.slice (Rd.int .u32)) false x8906)).upd 2 (.ptr 0 0)).upd 8 (.lit (.int .u32 x9744))).upd 9 (.lit (.int .i64 x8908))).upd 10 (.lit (.int .i64 x9745))).upd 11 (.lit (.bool false))).upd 12 (.lit (.int .i64 x10156)))) (M' := (Mem.nil.push (.cells 46 [.ro (Rd.slice (Rd.int .u8)) false x8907, .lit (.int .i64 x9746)]))) [0] hnp ⟨rfl, ⟨trivial, .inr ⟨rfl, rfl, rfl⟩⟩, by decide, rfl, ⟨trivial, rfl⟩⟩ (LeE.upd rfl rfl (LeE.upd rfl rfl (LeE.upd rfl rfl (LeE.upd rfl rfl (LeE.upd rfl rfl (LeE.upd rfl rfl (LeE.upd rfl rfl (LeE.upd rfl rfl (LeE.none rfl rfl)))))))))) rfl ?_
                refine W.now ?_
                refine InBlock.n ?_
                have q0 := (Option.some.inj H)
                subst q0
                exact ⟨rfl, rfl, rfl⟩
          · rintro _ _ _ ⟨rfl, rfl, rfl⟩
            refine W.now ?_
            refine Then.n ?_
            refine WP.region ?_
            refine WPL.q (q_mv (v := .lit (.int _ _)) rfl) rfl ?_
            refine WPL.q (q_add rfl rfl) rfl ?_
            refine WPL.q (q_as (v := .lit (.int _ _)) rfl) rfl ?_
            refine WPL.nilW ?_
            refine W.cv (Cv.weak (E' := ((((((((Env.none.upd 0 (.ro (Rd.slice (Rd.int .i64)) false x8905)).upd 1 (.ro (Rd.slice (Rd.int .u32)) false x8906)).upd 2 (.ptr 0 0)).upd 8 (.lit (.int .u32 x9744))).upd 9 (.lit (.int .i64 x8908))).upd 10 (.lit (.int .i64 x9745))).upd 11 (.lit (.bool x10212))).upd 12 (.lit (.int .i64 (IntKind.wrap .i64 (x10156 + 1)))))) (M' := (Mem.nil.push (.cells 46 [.ro (Rd.slice (Rd.int .u8)) false x8907, .lit (.int .i64 x9746)]))) [0] hnp ⟨rfl, ⟨trivial, .inr ⟨rfl, rfl, rfl⟩⟩, by decide, rfl, ⟨trivial, rfl⟩⟩ (LeE.upd rfl rfl (LeE.upd rfl rfl (LeE.upd rfl rfl (LeE.upd rfl rfl (LeE.upd rfl rfl (LeE.upd rfl rfl (LeE.upd rfl rfl (LeE.upd rfl rfl (LeE.none rfl rfl)))))))))) rfl ?_
            refine W.now ?_
            exact Then.n ⟨n, (x10212, (IntKind.wrap .i64 (x10156 + 1))), Nat.lt_succ_self n, H, rfl, rfl⟩
        · replace H := cnf hb H
          refine WP.exitW ?_
          refine W.cv (Cv.weak (E' := (((((((Env.none.upd 0 (.ro (Rd.slice (Rd.int .i64)) false x8905)).upd 1 (.ro (Rd.slice (Rd.int .u32)) false x8906)).upd 2 (.ptr 0 0)).upd 8 (.lit (.int .u32 x9744))).upd 9 (.lit (.int .i64 x8908))).upd 10 (.lit (.int .i64 x9745))).upd 11 (.lit (.bool x10155)))) (M' := (Mem.nil.push (.cells 46 [.ro (Rd.slice (Rd.int .u8)) false x8907, .lit (.int .i64 x9746)]))) [0] hnp ⟨rfl, ⟨trivial, .inr ⟨rfl, rfl, rfl⟩⟩, by decide, rfl, ⟨trivial, rfl⟩⟩ (LeE.upd rfl rfl (LeE.upd rfl rfl (LeE.upd rfl rfl (LeE.upd rfl rfl (LeE.upd rfl rfl (LeE.upd rfl rfl (LeE.upd rfl rfl (LeE.none rfl rfl))))))))) rfl ?_
          refine W.now ?_
          refine Then.x ?_
          refine Then.x ?_
          have q0 := (Option.some.inj H)
          subst q0
          exact ⟨rfl, rfl, rfl⟩
      · rintro _ _ _ ⟨rfl, rfl, rfl⟩
        refine W.now ?_
        refine InBlock.x0 ?_
        refine Then.n ?_
        refine WP.seq ?_
        refine WP.seq ?_
        refine WP.region ?_
        refine WPL.q (q_mv (v := .lit (.bool _)) rfl) rfl ?_
        refine WPL.q (q_not rfl) rfl ?_
        refine WPL.nilW ?_
        refine W.now ?_
        refine Then.n ?_
        refine WP.cond (t := (!x10193)) rfl (fun hb => ?_) (fun hb => ?_)
        · replace H := cnt hb H
          refine WP.seq ?_
          refine WP.region ?_
          refine WPL.q (q_mv (v := .ptr _ _) rfl) rfl ?_
          refine WPL.q (q_mv (v := .lit (.int _ _)) rfl) rfl ?_
          refine WPL.q (q_nilCheck rfl) rfl ?_
          refine WPL.q (q_fieldAddr fi46_1 rfl rfl) rfl ?_
          refine WPL.s (s_store sz3 rfl rfl rfl rfl rfl) ?_
          refine WPL.nilW ?_
          refine W.now ?_
          refine Then.n ?_
          refine WP.seq ?_
          refine WP.region ?_
          refine WPL.q (q_as (v := .lit (.int _ _)) rfl) rfl ?_
          refine WPL.q (q_as (v := .lit (.int _ _)) rfl) rfl ?_
          refine WPL.nilW ?_
          refine W.now ?_
          refine Then.n ?_
          refine WP.retW ?_
          refine W.cv (Cv.weak (E' := ((Env.none.upd 6 (.lit (.int .i64 0))).upd 7 (.lit (.int .i64 11)))) (M' := (Mem.nil.push (.cells 46 [.ro (Rd.slice (Rd.int .u8)) false x8907, .lit (.int .i64 x8908)]))) [0] hnp ⟨rfl, ⟨trivial, .inr ⟨rfl, rfl, rfl⟩⟩, by decide, rfl, ⟨trivial, rfl⟩⟩ (LeE.upd rfl rfl (LeE.upd rfl rfl (LeE.none rfl rfl)))) rfl ?_
          refine W.now ?_
          refine Then.r ?_
          refine InBlock.r ?_
          refine Then.r ?_
          refine Then.r ?_
          have q0 := Option.some.inj H
          subst q0
          exact ⟨rfl, rfl, rfl⟩
        · replace H := cnf hb H
          refine WP.skipW ?_
          refine W.now ?_
          refine Then.n ?_
          refine WP.seq ?_
          refine WP.region ?_
          refine WPL.q (q_mv (v := .ptr _ _) rfl) rfl ?_
          obtain ⟨⟨x10232, x10233, x10234⟩, h10230, H⟩ := bnd H
          refine WPL.c (runs_call (s := [0]) (t := [0]) (N := 1) (bor := []) fn37 rfl (s37 k 1 x8907 x9746 x10232 x10233 x10234 h10230) ⟨rfl, ⟨trivial, .inr ⟨rfl, rfl, rfl⟩⟩, by decide, rfl, trivial⟩ rfl trivial (.ren rfl rfl (.ren rfl rfl .nil)) rfl ⟨trivial, rfl⟩ rfl) rfl ?_
          refine WPL.q (q_mv (v := .tup _) rfl) rfl ?_
          refine WPL.q (q_extract rfl rfl) rfl ?_
          refine WPL.q (q_extract rfl rfl) rfl ?_
          refine WPL.q (q_as (v := .lit (.int _ _)) rfl) rfl ?_
          refine WPL.q (q_as (v := .lit (.int _ _)) rfl) rfl ?_
          refine WPL.nilW ?_
          refine W.now ?_
          refine Then.n ?_
          refine WP.seq ?_
          refine WP.seq ?_
          refine WP.region ?_
          refine WPL.q (q_mv (v := .lit (.int _ _)) rfl) rfl ?_
          refine WPL.q (q_neq rfl rfl) rfl ?_
          refine WPL.nilW ?_
          refine W.now ?_
          refine Then.n ?_
          refine WP.cond (t := (!decide (x10233 = 0))) rfl (fun hb => ?_) (fun hb => ?_)
          · replace H := cnt hb H
            refine WP.seq ?_
            refine WP.region ?_
            refine WPL.q (q_mv (v := .ptr _ _) rfl) rfl ?_
            refine WPL.q (q_mv (v := .lit (.int _ _)) rfl) rfl ?_
            refine WPL.q (q_nilCheck rfl) rfl ?_
            refine WPL.q (q_fieldAddr fi46_1 rfl rfl) rfl ?_
            refine WPL.s (s_store sz3 rfl rfl rfl rfl rfl) ?_
            refine WPL.nilW ?_
            refine W.now ?_
            refine Then.n ?_
            refine WP.seq ?_
            refine WP.region ?_
            refine WPL.q (q_mv (v := .lit (.int _ _)) rfl) rfl ?_
            refine WPL.q (q_as (v := .lit (.int _ _)) rfl) rfl ?_
            refine WPL.q (q_as (v := .lit (.int _ _)) rfl) rfl ?_
            refine WPL.nilW ?_
            refine W.now ?_
            refine Then.n ?_
            refine WP.retW ?_
            refine W.cv (Cv.weak (E' := ((Env.none.upd 6 (.lit (.int .i64 0))).upd 7 (.lit (.int .i64 x10233)))) (M' := (Mem.nil.push (.cells 46 [.ro (Rd.slice (Rd.int .u8)) false x8907, .lit (.int .i64 x8908)]))) [0] hnp ⟨rfl, ⟨trivial, .inr ⟨rfl, rfl, rfl⟩⟩, by decide, rfl, ⟨trivial, rfl⟩⟩ (LeE.upd rfl rfl (LeE.upd rfl rfl (LeE.none rfl rfl)))) rfl ?_
            refine W.now ?_
            refine Then.r ?_
            refine InBlock.r ?_
            refine Then.r ?_
            refine Then.r ?_
            have q0 := Option.some.inj H
            subst q0
            exact ⟨rfl, rfl, rfl⟩
          · replace H := cnf hb H
            refine WP.skipW ?_
            refine W.now ?_
            refine Then.n ?_
            refine WP.seq ?_
            refine WP.region ?_
            refine WPL.q (q_mv (v := .lit (.int _ _)) rfl) rfl ?_
            refine WPL.q (q_shl rfl rfl rfl) rfl ?_
            refine WPL.q (q_mv (v := .lit (.int _ _)) rfl) rfl ?_
            refine WPL.q (q_or rfl rfl) rfl ?_
            refine WPL.q (q_as (v := .lit (.int _ _)) rfl) rfl ?_
            refine WPL.nilW ?_
            refine W.now ?_
            refine Then.n ?_
            refine WP.seq ?_
            refine WP.region ?_
            refine WPL.q (q_as (v := .lit (.int _ _)) rfl) rfl ?_
            refine WPL.nilW ?_
            refine W.now ?_
            refine Then.n ?_
            refine WP.block ?_
            refine WP.cv (Cv.weak (E' := (((((((Env.none.upd 0 (.ro (Rd.slice (Rd.int .i64)) false x8905)).upd 1 (.ro (Rd.slice (Rd.int .u32)) false x8906)).upd 2 (.ptr 0 0)).upd 8 (.lit (.int .u32 (bits .or .u32 (shlI .u32 x9744 1) x10232)))).upd 9 (.lit (.int .i64 x8908))).upd 10 (.lit (.int .i64 x9745))).upd 15 (.lit (.int .i64 0)))) (M' := (Mem.nil.push (.cells 46 [.ro (Rd.slice (Rd.int .u8)) false x8907, .lit (.int .i64 x10234)]))) [0] hnp ⟨rfl, ⟨trivial, .inr ⟨rfl, rfl, rfl⟩⟩, by decide, rfl, ⟨trivial, rfl⟩⟩ (LeE.upd rfl rfl (LeE.upd rfl rfl (LeE.upd rfl rfl (LeE.upd rfl rfl (LeE.upd rfl rfl (LeE.upd rfl rfl (LeE.upd rfl rfl (LeE.none rfl rfl))))))))) ?_
            obtain ⟨y10304, H10302, H⟩ := bnd H
            refine WP.monoW (Q := fun x E M => match (generalizing := false) y10304 with | (Sum.inl x10280) => x = .ret ∧ E = ((Env.none.upd 6 (.lit (.int .i64 x10280))).upd 7 (.lit (.int .i64 0))) ∧ M = (Mem.nil.push (.cells 46 [.ro (Rd.slice (Rd.int .u8)) false x8907, .lit (.int .i64 x10234)])) | (Sum.inr _) => x = .exit 4 ∧ E = ((((((Env.none.upd 0 (.ro (Rd.slice (Rd.int .i64)) false x8905)).upd 1 (.ro (Rd.slice (Rd.int .u32)) false x8906)).upd 2 (.ptr 0 0)).upd 8 (.lit (.int .u32 (bits .or .u32 (shlI .u32 x9744 1) x10232)))).upd 9 (.lit (.int .i64 x8908))).upd 10 (.lit (.int .i64 x9745))) ∧ M = (Mem.nil.push (.cells 46 [.ro (Rd.slice (Rd.int .u8)) false x8907, .lit (.int .i64 x10234)]))) ?_ ?_
            · refine WP.loop (β := Int) (fun n b => f22_l2 k x8905 x8906 x9744 x9745 x10232 n b = some y10304) (fun b => (((((((Env.none.upd 0 (.ro (Rd.slice (Rd.int .i64)) false x8905)).upd 1 (.ro (Rd.slice (Rd.int .u32)) false x8906)).upd 2 (.ptr 0 0)).upd 8 (.lit (.int .u32 (bits .or .u32 (shlI .u32 x9744 1) x10232)))).upd 9 (.lit (.int .i64 x8908))).upd 10 (.lit (.int .i64 x9745))).upd 15 (.lit (.int .i64 b)))) (fun b => (Mem.nil.push (.cells 46 [.ro (Rd.slice (Rd.int .u8)) false x8907, .lit (.int .i64 x10234)]))) k 0 H10302 rfl rfl ?_
              rintro n x10257 H
              obtain _ | n := n
              · exact nf rfl H
              rw [f22_l2.eq_2] at H
              show WP _ _ _ _ (((((((Env.none.upd 0 (.ro (Rd.slice (Rd.int .i64)) false x8905)).upd 1 (.ro (Rd.slice (Rd.int .u32)) false x8906)).upd 2 (.ptr 0 0)).upd 8 (.lit (.int .u32 (bits .or .u32 (shlI .u32 x9744 1) x10232)))).upd 9 (.lit (.int .i64 x8908))).upd 10 (.lit (.int .i64 x9745))).upd 15 (.lit (.int .i64 x10257))) (Mem.nil.push (.cells 46 [.ro (Rd.slice (Rd.int .u8)) false x8907, .lit (.int .i64 x10234)])) _
              refine WP.seq ?_
              refine WP.seq ?_
              refine WP.region ?_
              refine WPL.q (q_mv (v := .lit (.int _ _)) rfl) rfl ?_
              refine WPL.q (q_mv (v := .ro _ _ _) rfl) rfl ?_
              refine WPL.q (q_len_ro sl22 rfl) rfl ?_
              obtain ⟨x10282, h10282, H⟩ := bnd H
              refine WPL.q (q_nm (q_lss rfl rfl) (nm_bool h10282)) rfl ?_
              refine WPL.nilW ?_
              refine W.now ?_
              refine Then.n ?_
              refine WP.cond (t := x10282) rfl (fun hb => ?_) (fun hb => ?_)
              · replace H := cnt hb H
                refine WP.skipW ?_
                refine W.now ?_
                refine Then.n ?_
                refine WP.seq ?_
                refine WP.block ?_
                refine WP.seq ?_
                obtain ⟨x10297, H10301, H⟩ := bnd H
                refine WP.monoW (Q := fun x E M => x = .normal ∧ E = ((((((((Env.none.upd 0 (.ro (Rd.slice (Rd.int .i64)) false x8905)).upd 1 (.ro (Rd.slice (Rd.int .u32)) false x8906)).upd 2 (.ptr 0 0)).upd 8 (.lit (.int .u32 (bits .or .u32 (shlI .u32 x9744 1) x10232)))).upd 9 (.lit (.int .i64 x8908))).upd 10 (.lit (.int .i64 x9745))).upd 15 (.lit (.int .i64 x10257))).upd 97 (.lit (.bool x10297))) ∧ M = (Mem.nil.push (.cells 46 [.ro (Rd.slice (Rd.int .u8)) false x8907, .lit (.int .i64 x10234)]))) ?_ ?_
                · clear H
                  have H := H10301
                  clear H10301
                  refine WP.region ?_
                  refine WPL.q (q_mv (v := .ro _ _ _) rfl) rfl ?_
                  refine WPL.q (q_mv (v := .lit (.int _ _)) rfl) rfl ?_
                  obtain ⟨x10298, h10298, H⟩ := bnd H
                  refine WPL.q (q_index_ro sl22 rfl rfl rfl h10298) rfl ?_
                  refine WPL.q (q_load_sc sc3 rfl) rfl ?_
                  refine WPL.q (q_mv (v := .lit (.int _ _)) rfl) rfl ?_
                  refine WPL.q (q_eql rfl rfl) rfl ?_
                  refine WPL.q (q_mv (v := .lit (.bool _)) rfl) rfl ?_
                  refine WPL.split (t := 90) (b := (decide (x10298 = x9745))) rfl (fun hb10298 => ?_) (fun hb10298 => ?_)
                  · replace H := cnt hb10298 H
                    refine WPL.qg rfl rfl (lb hb10298) (q_mv (v := .ro _ _ _) rfl) rfl ?_
                    refine WPL.qg rfl rfl (lb hb10298) (q_mv (v := .lit (.int _ _)) rfl) rfl ?_
                    obtain ⟨x10300, h10300, H⟩ := bnd H
                    refine WPL.qg rfl rfl (lb hb10298) (q_index_ro sl32 rfl rfl rfl h10300) rfl ?_
                    refine WPL.qg rfl rfl (lb hb10298) (q_load_sc sc35 rfl) rfl ?_
                    refine WPL.qg rfl rfl (lb hb10298) (q_mv (v := .lit (.int _ _)) rfl) rfl ?_
                    obtain ⟨x10301, h10301, H⟩ := bnd H
                    refine WPL.qg rfl rfl (lb hb10298) (q_nm (q_eql rfl rfl) (nm_bool h10301)) rfl ?_
                    refine WPL.q (q_pickT (v := .lit (.bool _)) (lb hb10298) rfl) rfl ?_
                    refine WPL.nilW ?_
                    refine W.cv (Cv.weak (E' := ((((((((Env.none.upd 0 (.ro (Rd.slice (Rd.int .i64)) false x8905)).upd 1 (.ro (Rd.slice (Rd.int .u32)) false x8906)).upd 2 (.ptr 0 0)).upd 8 (.lit (.int .u32 (bits .or .u32 (shlI .u32 x9744 1) x10232)))).upd 9 (.lit (.int .i64 x8908))).upd 10 (.lit (.int .i64 x9745))).upd 15 (.lit (.int .i64 x10257))).upd 97 (.lit (.bool x10301)))) (M' := (Mem.nil.push (.cells 46 [.ro (Rd.slice (Rd.int .u8)) false x8907, .lit (.int .i64 x10234)]))) [0] hnp ⟨rfl, ⟨trivial, .inr ⟨rfl, rfl, rfl⟩⟩, by decide, rfl, ⟨trivial, rfl⟩⟩ (LeE.upd rfl rfl (LeE.upd rfl rfl (LeE.upd rfl rfl (LeE.upd rfl rfl (LeE.upd rfl rfl (LeE.upd rfl rfl (LeE.upd rfl rfl (LeE.upd rfl rfl (LeE.none rfl rfl)))))))))) rfl ?_
                    refine W.now ?_
                    have q0 := (Option.some.inj H)
                    subst q0
                    exact ⟨rfl, rfl, rfl⟩
                  · replace H := cnf hb10298 H
                    refine WPL.skipg (b' := false) rfl rfl (lb hb10298) rfl rfl ?_
                    refine WPL.skipg (b' := false) rfl rfl (lb hb10298) rfl rfl ?_
                    refine WPL.skipg (b' := false) rfl rfl (lb hb10298) rfl rfl ?_
                    refine WPL.skipg (b' := false) rfl rfl (lb hb10298) rfl rfl ?_
                    refine WPL.skipg (b' := false) rfl rfl (lb hb10298) rfl rfl ?_
                    refine WPL.skipg (b' := false) rfl rfl (lb hb10298) rfl rfl ?_
                    refine WPL.q (q_pickF (v := .lit (.bool _)) (lb hb10298) rfl) rfl ?_
                    refine WPL.nilW ?_
                    refine W.cv (Cv.weak (E' := ((((((((Env.none.upd 0 (.ro (Rd.slice (Rd.int .i64)) false x8905)).upd 1 (.ro (Rd.slice (Rd.int .u32)) false x8906)).upd 2 (.ptr 0 0)).upd 8 (.lit (.int .u32 (bits .or .u32 (shlI .u32 x9744 1) x10232)))).upd 9 (.lit (.int .i64 x8908))).upd 10 (.lit (.int .i64 x9745))).upd 15 (.lit (.int .i64 x10257))).upd 97 (.lit (.bool false)))) (M' := (Mem.nil.push (.cells 46 [.ro (Rd.slice (Rd.int .u8)) false x8907, .lit (.int .i64 x10234)]))) [0] hnp ⟨rfl, ⟨trivial, .inr ⟨rfl, rfl, rfl⟩⟩, by decide, rfl, ⟨trivial, rfl⟩⟩ (LeE.upd rfl rfl (LeE.upd rfl rfl (LeE.upd rfl rfl (LeE.upd rfl rfl (LeE.upd rfl rfl (LeE.upd rfl rfl (LeE.upd rfl rfl (LeE.upd rfl rfl (LeE.none rfl rfl)))))))))) rfl ?_
                    refine W.now ?_
                    have q0 := (Option.some.inj H)
                    subst q0
                    exact ⟨rfl, rfl, rfl⟩
                · rintro _ _ _ ⟨rfl, rfl, rfl⟩
                  refine W.now ?_
                  refine Then.n ?_
                  refine WP.cond (t := x10297) rfl (fun hb => ?_) (fun hb => ?_)
                  · replace H := cnt hb H
                    refine WP.seq ?_
                    refine WP.region ?_
                    refine WPL.q (q_mv (v := .lit (.int _ _)) rfl) rfl ?_
                    refine WPL.q (q_as (v := .lit (.int _ _)) rfl) rfl ?_
                    refine WPL.q (q_as (v := .lit (.int _ _)) rfl) rfl ?_
                    refine WPL.nilW ?_
                    refine W.now ?_
                    refine Then.n ?_
                    refine WP.retW ?_
                    refine W.cv (Cv.weak (E' := ((Env.none.upd 6 (.lit (.int .i64 x10257))).upd 7 (.lit (.int .i64 0)))) (M' := (Mem.nil.push (.cells 46 [.ro (Rd.slice (Rd.int .u8)) false x8907, .lit (.int .i64 x10234)]))) [0] hnp ⟨rfl, ⟨trivial, .inr ⟨rfl, rfl, rfl⟩⟩, by decide, rfl, ⟨trivial, rfl⟩⟩ (LeE.upd rfl rfl (LeE.upd rfl rfl (LeE.none rfl rfl)))) rfl ?_
                    refine W.now ?_
                    refine InBlock.r ?_
                    refine Then.r ?_
                    refine Then.r ?_
                    have q0 := Option.some.inj H
                    subst q0
                    exact ⟨rfl, rfl, rfl⟩
                  · replace H := cnf hb H
                    refine WP.skipW ?_
                    refine W.now ?_
                    refine InBlock.n ?_
                    refine Then.n ?_
                    refine WP.region ?_
                    refine WPL.q (q_mv (v := .lit (.int _ _)) rfl) rfl ?_
                    refine WPL.q (q_add rfl rfl) rfl ?_
                    refine WPL.q (q_as (v := .lit (.int _ _)) rfl) rfl ?_
                    refine WPL.nilW ?_
                    refine W.cv (Cv.weak (E' := (((((((Env.none.upd 0 (.ro (Rd.slice (Rd.int .i64)) false x8905)).upd 1 (.ro (Rd.slice (Rd.int .u32)) false x8906)).upd 2 (.ptr 0 0)).upd 8 (.lit (.int .u32 (bits .or .u32 (shlI .u32 x9744 1) x10232)))).upd 9 (.lit (.int .i64 x8908))).upd 10 (.lit (.int .i64 x9745))).upd 15 (.lit (.int .i64 (IntKind.wrap .i64 (x10257 + 1)))))) (M' := (Mem.nil.push (.cells 46 [.ro (Rd.slice (Rd.int .u8)) false x8907, .lit (.int .i64 x10234)]))) [0] hnp ⟨rfl, ⟨trivial, .inr ⟨rfl, rfl, rfl⟩⟩, by decide, rfl, ⟨trivial, rfl⟩⟩ (LeE.upd rfl rfl (LeE.upd rfl rfl (LeE.upd rfl rfl (LeE.upd rfl rfl (LeE.upd rfl rfl (LeE.upd rfl rfl (LeE.upd rfl rfl (LeE.none rfl rfl))))))))) rfl ?_
                    refine W.now ?_
                    exact Then.n ⟨n, (IntKind.wrap .i64 (x10257 + 1)), Nat.lt_succ_self n, H, rfl, rfl⟩
              · replace H := cnf hb H
                refine WP.exitW ?_
                refine W.cv (Cv.weak (E' := ((((((Env.none.upd 0 (.ro (Rd.slice (Rd.int .i64)) false x8905)).upd 1 (.ro (Rd.slice (Rd.int .u32)) false x8906)).upd 2 (.ptr 0 0)).upd 8 (.lit (.int .u32 (bits .or .u32 (shlI .u32 x9744 1) x10232)))).upd 9 (.lit (.int .i64 x8908))).upd 10 (.lit (.int .i64 x9745)))) (M' := (Mem.nil.push (.cells 46 [.ro (Rd.slice (Rd.int .u8)) false x8907, .lit (.int .i64 x10234)]))) [0] hnp ⟨rfl, ⟨trivial, .inr ⟨rfl, rfl, rfl⟩⟩, by decide, rfl, ⟨trivial, rfl⟩⟩ (LeE.upd rfl rfl (LeE.upd rfl rfl (LeE.upd rfl rfl (LeE.upd rfl rfl (LeE.upd rfl rfl (LeE.upd rfl rfl (LeE.none rfl rfl)))))))) rfl ?_
                refine W.now ?_
                refine Then.x ?_
                refine Then.x ?_
                have q0 := Option.some.inj H
                subst q0
                exact ⟨rfl, rfl, rfl⟩
            · rcases y10304 with x10280 | _
              · rintro _ _ _ ⟨rfl, rfl, rfl⟩
                refine W.cv (Cv.weak (E' := ((Env.none.upd 6 (.lit (.int .i64 x10280))).upd 7 (.lit (.int .i64 0)))) (M' := (Mem.nil.push (.cells 46 [.ro (Rd.slice (Rd.int .u8)) false x8907, .lit (.int .i64 x10234)]))) [0] hnp ⟨rfl, ⟨trivial, .inr ⟨rfl, rfl, rfl⟩⟩, by decide, rfl, ⟨trivial, rfl⟩⟩ (LeE.upd rfl rfl (LeE.upd rfl rfl (LeE.none rfl rfl)))) rfl ?_
                refine W.now ?_
                refine InBlock.r ?_
                refine InBlock.r ?_
                refine Then.r ?_
                refine Then.r ?_
                have q0 := Option.some.inj H
                subst q0
                exact ⟨rfl, rfl, rfl⟩
              · rintro _ _ _ ⟨rfl, rfl, rfl⟩
                refine W.now ?_
                refine InBlock.x0 ?_
                refine InBlock.n ?_
                refine Then.n ?_
                refine WP.region ?_
                refine WPL.q (q_mv (v := .lit (.int _ _)) rfl) rfl ?_
                refine WPL.q (q_add rfl rfl) rfl ?_
                refine WPL.q (q_as (v := .lit (.int _ _)) rfl) rfl ?_
                refine WPL.nilW ?_
                refine W.cv (Cv.weak (E' := ((((((Env.none.upd 0 (.ro (Rd.slice (Rd.int .i64)) false x8905)).upd 1 (.ro (Rd.slice (Rd.int .u32)) false x8906)).upd 2 (.ptr 0 0)).upd 8 (.lit (.int .u32 (bits .or .u32 (shlI .u32 x9744 1) x10232)))).upd 9 (.lit (.int .i64 x8908))).upd 10 (.lit (.int .i64 (IntKind.wrap .i64 (x9745 + 1)))))) (M' := (Mem.nil.push (.cells 46 [.ro (Rd.slice (Rd.int .u8)) false x8907, .lit (.int .i64 x10234)]))) [0] hnp ⟨rfl, ⟨trivial, .inr ⟨rfl, rfl, rfl⟩⟩, by decide, rfl, ⟨trivial, rfl⟩⟩ (LeE.upd rfl rfl (LeE.upd rfl rfl (LeE.upd rfl rfl (LeE.upd rfl rfl (LeE.upd rfl rfl (LeE.upd rfl rfl (LeE.none rfl rfl)))))))) rfl ?_
                refine W.now ?_
                exact Then.n ⟨n, ((bits .or .u32 (shlI .u32 x9744 1) x10232), (IntKind.wrap .i64 (x9745 + 1)), x10234), Nat.lt_succ_self n, H, rfl, rfl⟩
    · replace H := cnf hb H
      refine WP.exitW ?_
      refine W.cv (Cv.weak (E' := ((Env.none.upd 2 (.ptr 0 0)).upd 9 (.lit (.int .i64 x8908)))) (M' := (Mem.nil.push (.cells 46 [.ro (Rd.slice (Rd.int .u8)) false x8907, .lit (.int .i64 x9746)]))) [0] hnp ⟨rfl, ⟨trivial, .inr ⟨rfl, rfl, rfl⟩⟩, by decide, rfl, ⟨trivial, rfl⟩⟩ (LeE.upd rfl rfl (LeE.upd rfl rfl (LeE.none rfl rfl)))) rfl ?_
      refine W.now ?_
      refine Then.x ?_
      refine Then.x ?_
      have q0 := Option.some.inj H
      subst q0
      exact ⟨rfl, rfl, rfl⟩
  · rcases y10306 with ⟨x9995, x9996, x9997⟩ | x9998
    · rintro _ _ _ ⟨rfl, rfl, rfl⟩
      refine W.now ?_
      refine InBlock.r ?_
      refine Then.r ?_
      have q0 := (Prod.mk.inj (Option.some.inj H)).1
      have q1 := (Prod.mk.inj (Prod.mk.inj (Option.some.inj H)).2).1
      have q2 := (Prod.mk.inj (Prod.mk.inj (Option.some.inj H)).2).2
      subst q0
      subst q1
      subst q2
      exact ⟨trivial, _, rfl, [0], (.tup [.lit (.int .i64 x9995), .lit (.int .i64 x9996)]), (Mem.nil.push (.cells 46 [.ro (Rd.slice (Rd.int .u8)) false x8907, .lit (.int .i64 x9997)])), ⟨rfl, ⟨trivial, .inr ⟨rfl, rfl, rfl⟩⟩, by decide, rfl, ⟨trivial, rfl⟩⟩, rfl, rfl, rfl, rfl⟩
    · rintro _ _ _ ⟨rfl, rfl, rfl⟩
      refine W.now ?_
      refine InBlock.x0 ?_
      refine Then.n ?_
      refine WP.seq ?_
      refine WP.region ?_
      refine WPL.q (q_mv (v := .ptr _ _) rfl) rfl ?_
      refine WPL.q (q_mv (v := .lit (.int _ _)) rfl) rfl ?_
      refine WPL.q (q_nilCheck rfl) rfl ?_
      refine WPL.q (q_fieldAddr fi46_1 rfl rfl) rfl ?_
      refine WPL.s (s_store sz3 rfl rfl rfl rfl rfl) ?_
      refine WPL.nilW ?_
      refine W.now ?_
      refine Then.n ?_
      refine WP.seq ?_
      refine WP.region ?_
      refine WPL.q (q_as (v := .lit (.int _ _)) rfl) rfl ?_
      refine WPL.q (q_as (v := .lit (.int _ _)) rfl) rfl ?_
      refine WPL.nilW ?_
      refine W.now ?_
      refine Then.n ?_
      refine WP.retW ?_
      refine W.now ?_
      have q0 := (Prod.mk.inj (Option.some.inj H)).1
      have q1 := (Prod.mk.inj (Prod.mk.inj (Option.some.inj H)).2).1
      have q2 := (Prod.mk.inj (Prod.mk.inj (Option.some.inj H)).2).2
      subst q0
      subst q1
      subst q2
      exact ⟨trivial, _, rfl, [0], (.tup [.lit (.int .i64 0), .lit (.int .i64 11)]), (Mem.nil.push (.cells 46 [.ro (Rd.slice (Rd.int .u8)) false x8907, .lit (.int .i64 x8908)])), ⟨rfl, ⟨trivial, .inr ⟨rfl, rfl, rfl⟩⟩, by decide, rfl, ⟨trivial, rfl⟩⟩, rfl, rfl, rfl, rfl⟩
set_option maxRecDepth 100000 in
set_option maxHeartbeats 4000000 in
theorem s23 (k : Nat) (x10313 : (List Int)) (x10314 : Int) (x10318 : Int) (H : f23 k x10313 x10314 = some x10318) : Go.Q.Spec Try.prog 23 1 [.ptr 0 0] (Mem.nil.push (.cells 77 [.ro (Rd.slice (Rd.int .u8)) false x10313, .lit (.int .i64 x10314)])) (fun o M => o = .ret (.lit (.int .i64 x10318)) ∧ M = (Mem.nil.push (.cells 77 [.ro (Rd.slice (Rd.int .u8)) false x10313, .lit (.int .i64 x10314)]))) := by
  unfold f23 at H
  refine Go.Q.Spec.of_bodyR (rs := [.tmp 2]) (nt := 16) Try.func23 rfl rfl (by intro t T h; simp at h) rfl rfl fun cx hnp => ?_
  refine WP.seq ?_
  refine WP.region ?_
  refine WPL.q (q_as (v := .lit (.int _ _)) rfl) rfl ?_
  refine WPL.nilW ?_
  refine W.now ?_
  refine Then.n ?_
  refine WP.seq ?_
  refine WP.seq ?_
  refine WP.region ?_
  refine WPL.q (q_mv (v := .ptr _ _) rfl) rfl ?_
  refine WPL.q (q_eqlp Try.underlying42 rfl) rfl ?_
  refine WPL.nilW ?_
  refine W.now ?_
  refine Then.n ?_
  refine WP.condF rfl ?_
  refine WP.skipW ?_
  refine W.now ?_
  refine Then.n ?_
  refine WP.seq ?_
  refine WP.regionD' 12 [0] [] mixed rfl ?_
  refine WPD.takeT 0 rfl (by kernel_rfl) (q_mv (v := .ptr _ _) rfl) rfl ?_
  refine WPD.takeT 1 rfl (by kernel_rfl) (q_nilCheck rfl) rfl ?_
  refine WPD.takeT 2 rfl (by kernel_rfl) (q_fieldAddr fi77_0 rfl rfl) rfl ?_
  refine WPD.takeT 6 rfl (by kernel_rfl) (q_mv (v := .ptr _ _) rfl) rfl ?_
  refine WPD.takeT 7 rfl (by kernel_rfl) (q_nilCheck rfl) rfl ?_
  refine WPD.takeT 8 rfl (by kernel_rfl) (q_fieldAddr fi77_1 rfl rfl) rfl ?_
  refine WPD.take 3 rfl (by kernel_rfl) (q_load sc38 rfl rfl rfl) rfl rfl ?_
  refine WPD.takeT 4 rfl (by kernel_rfl) (q_len_ro sl38 rfl) rfl ?_
  obtain ⟨x10320, h10320, H⟩ := bnd H
  refine WPD.takeT 5 rfl (by kernel_rfl) (q_nm (q_mul rfl rfl) (nm_int h10320)) rfl ?_
  refine WPD.take 9 rfl (by kernel_rfl) (q_load sc3 rfl rfl rfl) rfl rfl ?_
  refine WPD.takeT 10 rfl (by kernel_rfl) (q_sub rfl rfl) rfl ?_
  refine WPD.takeT 11 rfl (by kernel_rfl) (q_as (v := .lit (.int _ _)) rfl) rfl ?_
  refine WPD.doneW (by kernel_rfl) ?_
  refine W.now ?_
  refine Then.n ?_
  refine WP.retW ?_
  refine W.now ?_
  have q0 := (Option.some.inj H)
  subst q0
  exact ⟨trivial, _, rfl, [0], (.lit (.int .i64 (IntKind.wrap .i64 (x10320 - x10314)))), (Mem.nil.push (.cells 77 [.ro (Rd.slice (Rd.int .u8)) false x10313, .lit (.int .i64 x10314)])), ⟨rfl, ⟨trivial, .inr ⟨rfl, rfl, rfl⟩⟩, by decide, rfl, ⟨trivial, rfl⟩⟩, rfl, rfl, rfl, rfl⟩
set_option maxRecDepth 100000 in
set_option maxHeartbeats 4000000 in
theorem s35 (k : Nat) (x10483 : Int) (x10484 : (List Int)) (x10485 : Int) (x10530 : Int) (x10531 : Int) (x10532 : (List Int)) (x10533 : Int) (H : f35 k x10483 x10484 x10485 = some (x10530, x10531, x10532, x10533)) : Go.Q.Spec Try.prog 35 1 [.ptr 0 0, .lit (.int .i64 x10483)] (Mem.nil.push (.cells 77 [.ro (Rd.slice (Rd.int .u8)) false x10484, .lit (.int .i64 x10485)])) (fun o M => o = .ret (.tup [.lit (.int .u32 x10530), .lit (.int .i64 x10531)]) ∧ M = (Mem.nil.push (.cells 77 [.ro (Rd.slice (Rd.int .u8)) false x10532, .lit (.int .i64 x10533)]))) := by
  unfold f35 at H
  refine Go.Q.Spec.of_bodyR (rs := [.tmp 4, .tmp 5]) (nt := 85) Try.func35 rfl rfl (by intro t T h; simp at h) rfl rfl fun cx hnp => ?_
  refine WP.seq ?_
  refine WP.region ?_
  refine WPL.q (q_as (v := .lit (.int _ _)) rfl) rfl ?_
  refine WPL.q (q_as (v := .lit (.int _ _)) rfl) rfl ?_
  refine WPL.nilW ?_
  refine W.now ?_
  refine Then.n ?_
  refine WP.seq ?_
  refine WP.block ?_
  refine WP.seq ?_
  refine WP.region ?_
  refine WPL.q (q_mv (v := .ptr _ _) rfl) rfl ?_
  refine WPL.q (q_eqlp Try.underlying42 rfl) rfl ?_
  refine WPL.q (q_as (v := .lit (.bool _)) rfl) rfl ?_
  refine WPL.nilW ?_
  refine W.now ?_
  refine Then.n ?_
  refine WP.condF rfl ?_
  refine WP.seq ?_
  obtain ⟨x10541, H10542, H⟩ := bnd H
  refine WP.monoW (Q := fun x E M => x = .normal ∧ E = (((Env.none.upd 0 (.ptr 0 0)).upd 1 (.lit (.int .i64 x10483))).upd 12 (.lit (.bool x10541))) ∧ M = (Mem.nil.push (.cells 77 [.ro (Rd.slice (Rd.int .u8)) false x10484, .lit (.int .i64 x10485)]))) ?_ ?_
  · clear H
    have H := H10542
    clear H10542
    refine WP.region ?_
    refine WPL.q (q_mv (v := .lit (.int _ _)) rfl) rfl ?_
    refine WPL.q (q_lss rfl rfl) rfl ?_
    refine WPL.q (q_mv (v := .lit (.bool _)) rfl) rfl ?_
    refine WPL.split (t := 15) (b := (decide (x10483 < 0))) rfl (fun hb10541 => ?_) (fun hb10541 => ?_)
    · replace H := cnt hb10541 H
      refine WPL.skipg (b' := true) rfl rfl (lb hb10541) rfl rfl ?_
      refine WPL.skipg (b' := true) rfl rfl (lb hb10541) rfl rfl ?_
      refine WPL.q (q_pickT (v := .lit (.bool _)) (lb hb10541) rfl) rfl ?_
      refine WPL.q (q_as (v := .lit (.bool _)) rfl) rfl ?_
      refine WPL.nilW ?_
      refine W.cv (Cv.weak (E' := (((Env.none.upd 0 (.ptr 0 0)).upd 1 (.lit (.int .i64 x10483))).upd 12 (.lit (.bool true)))) (M' := (Mem.nil.push (.cells 77 [.ro (Rd.slice (Rd.int .u8)) false x10484, .lit (.int .i64 x10485)]))) [0] hnp ⟨rfl, ⟨trivial, .inr ⟨rfl, rfl, rfl⟩⟩, by decide, rfl, ⟨trivial, rfl⟩⟩ (LeE.upd rfl rfl (LeE.upd rfl rfl (LeE.upd rfl rfl (LeE.none rfl rfl))))) rfl ?_
      refine W.now ?_
      have q0 := (Option.some.inj H)
      subst q0
      exact ⟨rfl, rfl, rfl⟩
    · replace H := cnf hb10541 H
      refine WPL.qg rfl rfl (lb hb10541) (q_mv (v := .lit (.int _ _)) rfl) rfl ?_
      refine WPL.qg rfl rfl (lb hb10541) (q_gtr rfl rfl) rfl ?_
      refine WPL.q (q_pickF (v := .lit (.bool _)) (lb hb10541) rfl) rfl ?_
      refine WPL.q (q_as (v := .lit (.bool _)) rfl) rfl ?_
      refine WPL.nilW ?_
      refine W.cv (Cv.weak (E' := (((Env.none.upd 0 (.ptr 0 0)).upd 1 (.lit (.int .i64 x10483))).upd 12 (.lit (.bool (decide (32 < x10483)))))) (M' := (Mem.nil.push (.cells 77 [.ro (Rd.slice (Rd.int .u8)) false x10484, .lit (.int .i64 x10485)]))) [0] hnp ⟨rfl, ⟨trivial, .inr ⟨rfl, rfl, rfl⟩⟩, by decide, rfl, ⟨trivial, rfl⟩⟩ (LeE.upd rfl rfl (LeE.upd rfl rfl (LeE.upd rfl rfl (LeE.none rfl rfl))))) rfl ?_
      refine W.now ?_
      have q0 := (Option.some.inj H)
      subst q0
      exact ⟨rfl, rfl, rfl⟩
  · rintro _ _ _ ⟨rfl, rfl, rfl⟩
    refine W.now ?_
    refine Then.n ?_
    refine WP.cond (t := x10541) rfl (fun hb => ?_) (fun hb => ?_)
    · replace H := cnt hb H
      refine WP.seq ?_
      refine WP.region ?_
      refine WPL.q (q_as (v := .lit (.int _ _)) rfl) rfl ?_
      refine WPL.q (q_as (v := .lit (.int _ _)) rfl) rfl ?_
      refine WPL.nilW ?_
      refine W.now ?_
      refine Then.n ?_
      refine WP.retW ?_
      refine W.now ?_
      refine InBlock.r ?_
      refine Then.r ?_
      have q0 := (Prod.mk.inj (Option.some.inj H)).1
      have q1 := (Prod.mk.inj (Prod.mk.inj (Option.some.inj H)).2).1
      have q2 := (Prod.mk.inj (Prod.mk.inj (Prod.mk.inj (Option.some.inj H)).2).2).1
      have q3 := (Prod.mk.inj (Prod.mk.inj (Prod.mk.inj (Option.some.inj H)).2).2).2
      subst q0
      subst q1
      subst q2
      subst q3
      exact ⟨trivial, _, rfl, [0], (.tup [.lit (.int .u32 0), .lit (.int .i64 1)]), (Mem.nil.push (.cells 77 [.ro (Rd.slice (Rd.int .u8)) false x10484, .lit (.int .i64 x10485)])), ⟨rfl, ⟨trivial, .inr ⟨rfl, rfl, rfl⟩⟩, by decide, rfl, ⟨trivial, rfl⟩⟩, rfl, rfl, rfl, rfl⟩
    · replace H := cnf hb H
      refine WP.seq ?_
      refine WP.region ?_
      refine WPL.q (q_mv (v := .lit (.int _ _)) rfl) rfl ?_
      refine WPL.q (q_mv (v := .ptr _ _) rfl) rfl ?_
      obtain ⟨x10545, h10543, H⟩ := bnd H
      refine WPL.c (runs_call (s := [0]) (t := [0]) (N := 1) (bor := []) fn23 rfl (s23 k x10484 x10485 x10545 h10543) ⟨rfl, ⟨trivial, .inr ⟨rfl, rfl, rfl⟩⟩, by decide, rfl, trivial⟩ rfl trivial (.ren rfl rfl .nil) rfl ⟨trivial, rfl⟩ rfl) rfl ?_
      refine WPL.q (q_gtr rfl rfl) rfl ?_
      refine WPL.q (q_as (v := .lit (.bool _)) rfl) rfl ?_
      refine WPL.nilW ?_
      refine W.now ?_
      refine Then.n ?_
      refine WP.cond (t := (decide (x10545 < x10483))) rfl (fun hb => ?_) (fun hb => ?_)
      · replace H := cnt hb H
        refine WP.seq ?_
        refine WP.region ?_
        refine WPL.q (q_as (v := .lit (.int _ _)) rfl) rfl ?_
        refine WPL.q (q_as (v := .lit (.int _ _)) rfl) rfl ?_
        refine WPL.nilW ?_
        refine W.now ?_
        refine Then.n ?_
        refine WP.retW ?_
        refine W.now ?_
        refine InBlock.r ?_
        refine Then.r ?_
        have q0 := (Prod.mk.inj (Option.some.inj H)).1
        have q1 := (Prod.mk.inj (Prod.mk.inj (Option.some.inj H)).2).1
        have q2 := (Prod.mk.inj (Prod.mk.inj (Prod.mk.inj (Option.some.inj H)).2).2).1
        have q3 := (Prod.mk.inj (Prod.mk.inj (Prod.mk.inj (Option.some.inj H)).2).2).2
        subst q0
        subst q1
        subst q2
        subst q3
        exact ⟨trivial, _, rfl, [0], (.tup [.lit (.int .u32 0), .lit (.int .i64 10)]), (Mem.nil.push (.cells 77 [.ro (Rd.slice (Rd.int .u8)) false x10484, .lit (.int .i64 x10485)])), ⟨rfl, ⟨trivial, .inr ⟨rfl, rfl, rfl⟩⟩, by decide, rfl, ⟨trivial, rfl⟩⟩, rfl, rfl, rfl, rfl⟩
      · replace H := cnf hb H
        refine WP.skipW ?_
        refine W.now ?_
        refine InBlock.n ?_
        refine Then.n ?_
        refine WP.seq ?_
        refine WP.region ?_
        refine WPL.q (q_as (v := .lit (.int _ _)) rfl) rfl ?_
        refine WPL.q (q_as (v := .lit (.int _ _)) rfl) rfl ?_
        refine WPL.nilW ?_
        refine W.now ?_
        refine Then.n ?_
        refine WP.seq ?_
        refine WP.block ?_
        refine WP.cv (Cv.weak (E' := ((((Env.none.upd 0 (.ptr 0 0)).upd 1 (.lit (.int .i64 x10483))).upd 6 (.lit (.int .u64 0))).upd 7 (.lit (.int .i64 0)))) (M' := (Mem.nil.push (.cells 77 [.ro (Rd.slice (Rd.int .u8)) false x10484, .lit (.int .i64 x10485)]))) [0] hnp ⟨rfl, ⟨trivial, .inr ⟨rfl, rfl, rfl⟩⟩, by decide, rfl, ⟨trivial, rfl⟩⟩ (LeE.upd rfl rfl (LeE.upd rfl rfl (LeE.upd rfl rfl (LeE.upd rfl rfl (LeE.none rfl rfl)))))) ?_
        obtain ⟨⟨x10570, x10571, x10572⟩, H10583, H⟩ := bnd H
        refine WP.monoW (Q := fun x E M => x = .exit 1 ∧ E = ((Env.none.upd 1 (.lit (.int .i64 x10483))).upd 6 (.lit (.int .u64 x10570))) ∧ M = (Mem.nil.push (.cells 77 [.ro (Rd.slice (Rd.int .u8)) false x10571, .lit (.int .i64 x10572)]))) ?_ ?_
        · refine WP.loop (β := Int × Int × (List Int) × Int) (fun n b => f35_l0 k x10483 n b.1 b.2.1 b.2.2.1 b.2.2.2 = some (x10570, x10571, x10572)) (fun b => ((((Env.none.upd 0 (.ptr 0 0)).upd 1 (.lit (.int .i64 x10483))).upd 6 (.lit (.int .u64 b.1))).upd 7 (.lit (.int .i64 b.2.1)))) (fun b => (Mem.nil.push (.cells 77 [.ro (Rd.slice (Rd.int .u8)) false b.2.2.1, .lit (.int .i64 b.2.2.2)]))) k (0, 0, x10484, x10485) H10583 rfl rfl ?_
          rintro n ⟨x10555, x10556, x10557, x10558⟩ H
          obtain _ | n := n
          · exact nf rfl H
          rw [f35_l0.eq_2] at H
          show WP _ _ _ _ ((((Env.none.upd 0 (.ptr 0 0)).upd 1 (.lit (.int .i64 x10483))).upd 6 (.lit (.int .u64 x10555))).upd 7 (.lit (.int .i64 x10556))) (Mem.nil.push (.cells 77 [.ro (Rd.slice (Rd.int .u8)) false x10557, .lit (.int .i64 x10558)])) _
          refine WP.seq ?_
          refine WP.seq ?_
          refine WP.region ?_
          refine WPL.q (q_mv (v := .lit (.int _ _)) rfl) rfl ?_
          refine WPL.q (q_mv (v := .lit (.int _ _)) rfl) rfl ?_
          refine WPL.q (q_lss rfl rfl) rfl ?_
          refine WPL.nilW ?_
          refine W.now ?_
          refine Then.n ?_
          refine WP.cond (t := (decide (x10556 < x10483))) rfl (fun hb => ?_) (fun hb => ?_)
          · replace H := cnt hb H
            refine WP.skipW ?_
            refine W.now ?_
            refine Then.n ?_
            refine WP.block ?_
            refine WP.seq ?_
            refine WP.regionD' 17 [0] [] mixed rfl ?_
            refine WPD.takeT 0 rfl (by kernel_rfl) (q_mv (v := .lit (.int _ _)) rfl) rfl ?_
            refine WPD.takeT 1 rfl (by kernel_rfl) (q_mv (v := .ptr _ _) rfl) rfl ?_
            refine WPD.takeT 2 rfl (by kernel_rfl) (q_nilCheck rfl) rfl ?_
            refine WPD.takeT 3 rfl (by kernel_rfl) (q_fieldAddr fi77_0 rfl rfl) rfl ?_
            refine WPD.takeT 7 rfl (by kernel_rfl) (q_mv (v := .ptr _ _) rfl) rfl ?_
            refine WPD.takeT 8 rfl (by kernel_rfl) (q_nilCheck rfl) rfl ?_
            refine WPD.takeT 9 rfl (by kernel_rfl) (q_fieldAddr fi77_1 rfl rfl) rfl ?_
            refine WPD.takeT 13 rfl (by kernel_rfl) (q_mv (v := .lit (.int _ _)) rfl) rfl ?_
            refine WPD.take 4 rfl (by kernel_rfl) (q_load sc38 rfl rfl rfl) rfl rfl ?_
            obtain ⟨x10577, h10577, H⟩ := bnd H
            refine WPD.takeT 5 rfl (by kernel_rfl) (q_index_ro sl38 rfl rfl rfl h10577) rfl ?_
            refine WPD.takeT 6 rfl (by kernel_rfl) (q_load_sc sc5 rfl) rfl ?_
            refine WPD.take 10 rfl (by kernel_rfl) (q_load sc3 rfl rfl rfl) rfl rfl ?_
            obtain ⟨h10577, H⟩ := grd H
            refine WPD.takeT 11 rfl (by kernel_rfl) (q_shr rfl rfl h10577) rfl ?_
            refine WPD.takeT 12 rfl (by kernel_rfl) (q_conv Try.underlying5 Try.underlying85 rfl) rfl ?_
            obtain ⟨h10578, H⟩ := grd H
            obtain ⟨x10580, h10580, H⟩ := bnd H
            refine WPD.takeT 14 rfl (by kernel_rfl) (q_nm (q_shl rfl rfl h10578) (nm_int h10580)) rfl ?_
            refine WPD.takeT 15 rfl (by kernel_rfl) (q_or rfl rfl) rfl ?_
            refine WPD.takeT 16 rfl (by kernel_rfl) (q_as (v := .lit (.int _ _)) rfl) rfl ?_
            refine WPD.doneW (by kernel_rfl) ?_
            refine W.now ?_
            refine Then.n ?_
            refine WP.seq ?_
            refine WP.region ?_
            refine WPL.q (q_mv (v := .ptr _ _) rfl) rfl ?_
            refine WPL.q (q_nilCheck rfl) rfl ?_
            refine WPL.q (q_fieldAddr fi77_1 rfl rfl) rfl ?_
            refine WPL.q (q_load sc3 rfl rfl rfl) rfl ?_
            refine WPL.q (q_sub rfl rfl) rfl ?_
            refine WPL.q (q_mv (v := .lit (.int _ _)) rfl) rfl ?_
            refine WPL.q (q_mv (v := .lit (.int _ _)) rfl) rfl ?_
            refine WPL.q (q_sub rfl rfl) rfl ?_
            obtain ⟨x10581, h10581, H⟩ := bnd H
            refine WPL.q (q_nm (q_min rfl rfl) (nm_int h10581)) rfl ?_
            refine WPL.q (q_as (v := .lit (.int _ _)) rfl) rfl ?_
            refine WPL.nilW ?_
            refine W.now ?_
            refine Then.n ?_
            refine WP.seq ?_
            refine WP.region ?_
            refine WPL.q (q_mv (v := .lit (.int _ _)) rfl) rfl ?_
            refine WPL.q (q_mv (v := .lit (.int _ _)) rfl) rfl ?_
            refine WPL.q (q_add rfl rfl) rfl ?_
            refine WPL.q (q_as (v := .lit (.int _ _)) rfl) rfl ?_
            refine WPL.nilW ?_
            refine W.now ?_
            refine Then.n ?_
            refine WP.seq ?_
            refine WP.region ?_
            refine WPL.q (q_mv (v := .ptr _ _) rfl) rfl ?_
            refine WPL.q (q_nilCheck rfl) rfl ?_
            refine WPL.q (q_fieldAddr fi77_1 rfl rfl) rfl ?_
            refine WPL.q (q_load sc3 rfl rfl rfl) rfl ?_
            refine WPL.q (q_mv (v := .lit (.int _ _)) rfl) rfl ?_
            refine WPL.q (q_add rfl rfl) rfl ?_
            refine WPL.q (q_nilCheck rfl) rfl ?_
            refine WPL.q (q_fieldAddr fi77_1 rfl rfl) rfl ?_
            refine WPL.s (s_store sz3 rfl rfl rfl rfl rfl) ?_
            refine WPL.nilW ?_
            refine W.now ?_
            refine Then.n ?_
            refine WP.seq ?_
            refine WP.region ?_
            refine WPL.q (q_mv (v := .ptr _ _) rfl) rfl ?_
            refine WPL.q (q_nilCheck rfl) rfl ?_
            refine WPL.q (q_fieldAddr fi77_1 rfl rfl) rfl ?_
            refine WPL.q (q_load sc3 rfl rfl rfl) rfl ?_
            obtain ⟨x10582, h10582, H⟩ := bnd H
            refine WPL.q (q_nm (q_eql rfl rfl) (nm_bool h10582)) rfl ?_
            refine WPL.nilW ?_
            refine W.now ?_
            refine Then.n ?_
            refine WP.cond (t := x10582) rfl (fun hb => ?_) (fun hb => ?_)
            · replace H := cnt hb H
              refine WP.region ?_
              refine WPL.q (q_mv (v := .ptr _ _) rfl) rfl ?_
              refine WPL.q (q_mv (v := .ptr _ _) rfl) rfl ?_
              refine WPL.q (q_mv (v := .ptr _ _) rfl) rfl ?_
              refine WPL.q (q_nilCheck rfl) rfl ?_
              refine WPL.q (q_fieldAddr fi77_0 rfl rfl) rfl ?_
              refine WPL.q (q_load sc38 rfl rfl rfl) rfl ?_
              obtain ⟨h10582, H⟩ := grd H
              refine WPL.q (q_slice_ro (i := 1) (j := ((List.length x10557 : Nat) : Int)) sl38 rfl rfl ⟨_, rfl⟩ rfl h10582) rfl ?_
              refine WPL.q (q_nilCheck rfl) rfl ?_
              refine WPL.q (q_fieldAddr fi77_0 rfl rfl) rfl ?_
              refine WPL.s (s_store sz38 rfl rfl rfl rfl rfl) ?_
              refine WPL.q (q_nilCheck rfl) rfl ?_
              refine WPL.q (q_fieldAddr fi77_1 rfl rfl) rfl ?_
              refine WPL.s (s_store sz3 rfl rfl rfl rfl rfl) ?_
              refine WPL.nilW ?_
              refine W.cv (Cv.weak (E' := ((((Env.none.upd 0 (.ptr 0 0)).upd 1 (.lit (.int .i64 x10483))).upd 6 (.lit (.int .u64 (bits .or .u64 x10555 x10580)))).upd 7 (.lit (.int .i64 (IntKind.wrap .i64 (x10556 + x10581)))))) (M' := (Mem.nil.push (.cells 77 [.ro (Rd.slice (Rd.int .u8)) false (List.drop (Int.toNat 1) (List.take (Int.toNat ((List.length x10557 : Nat) : Int)) x10557)), .lit (.int .i64 0)]))) [0] hnp ⟨rfl, ⟨trivial, .inr ⟨rfl, rfl, rfl⟩⟩, by decide, rfl, ⟨trivial, rfl⟩⟩ (LeE.upd rfl rfl (LeE.upd rfl rfl (LeE.upd rfl rfl (LeE.upd rfl rfl (LeE.none rfl rfl)))))) rfl ?_
              refine W.now ?_
              refine InBlock.n ?_
              exact Then.n ⟨n, ((bits .or .u64 x10555 x10580), (IntKind.wrap .i64 (x10556 + x10581)), (List.drop (Int.toNat 1) (List.take (Int.toNat ((List.length x10557 : Nat) : Int)) x10557)), 0), Nat.lt_succ_self n, H, rfl, rfl⟩
            · replace H := cnf hb H
              refine WP.skipW ?_
              refine W.cv (Cv.weak (E' := ((((Env.none.upd 0 (.ptr 0 0)).upd 1 (.lit (.int .i64 x10483))).upd 6 (.lit (.int .u64 (bits .or .u64 x10555 x10580)))).upd 7 (.lit (.int .i64 (IntKind.wrap .i64 (x10556 + x10581)))))) (M' := (Mem.nil.push (.cells 77 [.ro (Rd.slice (Rd.int .u8)) false x10557, .lit (.int .i64 (IntKind.wrap .i64 (x10558 + x10581)))]))) [0] hnp ⟨rfl, ⟨trivial, .inr ⟨rfl, rfl, rfl⟩⟩, by decide, rfl, ⟨trivial, rfl⟩⟩ (LeE.upd rfl rfl (LeE.upd rfl rfl (LeE.upd rfl rfl (LeE.upd rfl rfl (LeE.none rfl rfl)))))) rfl ?_
              refine W.now ?_
              refine InBlock.n ?_
              exact Then.n ⟨n, ((bits .or .u64 x10555 x10580), (IntKind.wrap .i64 (x10556 + x10581)), x10557, (IntKind.wrap .i64 (x10558 + x10581))), Nat.lt_succ_self n, H, rfl, rfl⟩
          · replace H := cnf hb H
            refine WP.exitW ?_
            refine W.cv (Cv.weak (E' := ((Env.none.upd 1 (.lit (.int .i64 x10483))).upd 6 (.lit (.int .u64 x10555)))) (M' := (Mem.nil.push (.cells 77 [.ro (Rd.slice (Rd.int .u8)) false x10557, .lit (.int .i64 x10558)]))) [0] hnp ⟨rfl, ⟨trivial, .inr ⟨rfl, rfl, rfl⟩⟩, by decide, rfl, ⟨trivial, rfl⟩⟩ (LeE.upd rfl rfl (LeE.upd rfl rfl (LeE.none rfl rfl)))) rfl ?_
            refine W.now ?_
            refine Then.x ?_
            refine Then.x ?_
            have q0 := (Prod.mk.inj (Option.some.inj H)).1
            have q1 := (Prod.mk.inj (Prod.mk.inj (Option.some.inj H)).2).1
            have q2 := (Prod.mk.inj (Prod.mk.inj (Option.some.inj H)).2).2
            subst q0
            subst q1
            subst q2
            exact ⟨rfl, rfl, rfl⟩
        · rintro _ _ _ ⟨rfl, rfl, rfl⟩
          refine W.now ?_
          refine InBlock.x0 ?_
          refine Then.n ?_
          refine WP.seq ?_
          refine WP.region ?_
          refine WPL.q (q_mv (v := .lit (.int _ _)) rfl) rfl ?_
          refine WPL.q (q_mv (v := .lit (.int _ _)) rfl) rfl ?_
          obtain ⟨h10584, H⟩ := grd H
          refine WPL.q (q_shl rfl rfl h10584) rfl ?_
          obtain ⟨x10586, h10586, H⟩ := bnd H
          refine WPL.q (q_nm (q_sub rfl rfl) (nm_int h10586)) rfl ?_
          refine WPL.q (q_and rfl rfl) rfl ?_
          obtain ⟨x10587, h10587, H⟩ := bnd H
          refine WPL.q (q_nm (q_conv Try.underlying85 Try.underlying35 rfl) (nm_int h10587)) rfl ?_
          refine WPL.q (q_as (v := .lit (.int _ _)) rfl) rfl ?_
          refine WPL.q (q_as (v := .lit (.int _ _)) rfl) rfl ?_
          refine WPL.nilW ?_
          refine W.now ?_
          refine Then.n ?_
          refine WP.retW ?_
          refine W.now ?_
          have q0 := (Prod.mk.inj (Option.some.inj H)).1
          have q1 := (Prod.mk.inj (Prod.mk.inj (Option.some.inj H)).2).1
          have q2 := (Prod.mk.inj (Prod.mk.inj (Prod.mk.inj (Option.some.inj H)).2).2).1
          have q3 := (Prod.mk.inj (Prod.mk.inj (Prod.mk.inj (Option.some.inj H)).2).2).2
          subst q0
          subst q1
          subst q2
          subst q3
          exact ⟨trivial, _, rfl, [0], (.tup [.lit (.int .u32 x10587), .lit (.int .i64 0)]), (Mem.nil.push (.cells 77 [.ro (Rd.slice (Rd.int .u8)) false x10571, .lit (.int .i64 x10572)])), ⟨rfl, ⟨trivial, .inr ⟨rfl, rfl, rfl⟩⟩, by decide, rfl, ⟨trivial, rfl⟩⟩, rfl, rfl, rfl, rfl⟩
end Go.Proofs.Ythgbompoldmhmaa.W
