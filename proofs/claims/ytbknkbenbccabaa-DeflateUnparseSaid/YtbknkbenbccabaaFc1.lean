/- Walks: Fc1 -/
import Derived.Test.YtbknkbenbccabaaFb
namespace Go.Proofs.Ytbknkbenbccabaa.W
open Go Go.Q Go.Proofs
set_option linter.unusedVariables false
set_option linter.unusedSimpArgs false
set_option maxRecDepth 100000 in
set_option maxHeartbeats 4000000 in
theorem s_quireref04_Row (k : Nat) (x978 : (List Int)) (x979 : (List Int)) (x1744 : (List Int)) (x1745 : Bool) (H : g_quireref04_Row k x978 x979 = some (x1744, x1745)) : Go.Q.Spec Try.prog 16 0 [.ro (Rd.slice (Rd.int .i64)) false x978, .ro (Rd.slice (Rd.int .i64)) false x979] Mem.nil (fun o M => o = .ret (.tup [.ro (Rd.slice (Rd.int .i64)) false x1744, .lit (.bool x1745)]) ∧ M = Mem.nil) := by
  unfold g_quireref04_Row at H
  refine Go.Q.Spec.of_bodyR (rs := [.tmp 4, .tmp 5]) (nt := 108) Try.func16 rfl rfl (by intro t T h; simp at h) rfl rfl fun cx hnp => ?_
  refine WP.seq ?_
  refine WP.region ?_
  refine WPL.q (q_as (v := .lit _) rfl) rfl ?_
  refine WPL.q (q_as (v := .lit (.bool _)) rfl) rfl ?_
  refine WPL.nilW ?_
  refine W.now ?_
  refine Then.n ?_
  refine WP.seq ?_
  refine WP.region ?_
  refine WPL.q (q_as (v := .lit _) rfl) rfl ?_
  refine WPL.nilW ?_
  refine W.now ?_
  refine Then.n ?_
  refine WP.seq ?_
  refine WP.seq ?_
  refine WP.region ?_
  refine WPL.q (q_mv (v := .ro _ _ _) rfl) rfl ?_
  refine WPL.q (q_len_ro sl32 rfl) rfl ?_
  refine WPL.q (q_mv (v := .ro _ _ _) rfl) rfl ?_
  refine WPL.q (q_len_ro sl32 rfl) rfl ?_
  obtain ⟨x1747, h1747, H⟩ := bnd H
  refine WPL.q (q_nm (q_neq rfl rfl) (nm_bool h1747)) rfl ?_
  refine WPL.nilW ?_
  refine W.now ?_
  refine Then.n ?_
  refine WP.cond (t := x1747) rfl (fun hb => ?_) (fun hb => ?_)
  · replace H := cnt hb H
    refine WP.seq ?_
    refine WP.region ?_
    refine WPL.q (q_as (v := .lit _) rfl) rfl ?_
    refine WPL.q (q_as (v := .lit (.bool _)) rfl) rfl ?_
    refine WPL.nilW ?_
    refine W.now ?_
    refine Then.n ?_
    refine WP.retW ?_
    refine W.cv (Cv.nilRo (Rd.int .i64) false 4 rfl) rfl ?_
    refine W.now ?_
    refine Then.r ?_
    have q0 := (Prod.mk.inj (Option.some.inj H)).1
    have q1 := (Prod.mk.inj (Option.some.inj H)).2
    subst q0
    subst q1
    exact ⟨trivial, _, rfl, [], (.tup [.ro (Rd.slice (Rd.int .i64)) false ([] : List Int), .lit (.bool false)]), Mem.nil, ⟨rfl, trivial, by decide, rfl, trivial⟩, rfl, rfl, rfl, rfl⟩
  · replace H := cnf hb H
    refine WP.skipW ?_
    refine W.now ?_
    refine Then.n ?_
    refine WP.seq ?_
    refine WP.seq ?_
    refine WP.region ?_
    refine WPL.q (q_as (v := .lit (.int _ _)) rfl) rfl ?_
    refine WPL.nilW ?_
    refine W.now ?_
    refine Then.n ?_
    refine WP.block ?_
    refine WP.cv (Cv.vir 3 (Rd.int .i64) (N := 0) rfl 6 rfl) ?_
    refine WP.cv (Cv.weak (E' := ((((Env.none.upd 0 (.ro (Rd.slice (Rd.int .i64)) false x978)).upd 1 (.ro (Rd.slice (Rd.int .i64)) false x979)).upd 6 (.whole 0)).upd 7 (.lit (.int .i64 0)))) (M' := (Mem.nil.push (.row 3 (Rd.int .i64) ([] : List Int)))) [0] hnp ⟨rfl, ⟨trivial, .inr ⟨rfl, rfl, rfl⟩⟩, by decide, rfl, trivial⟩ (LeE.upd rfl rfl (LeE.upd rfl rfl (LeE.upd rfl rfl (LeE.upd rfl rfl (LeE.none rfl rfl)))))) ?_
    obtain ⟨y2797, H2795, H⟩ := bnd H
    refine WP.monoW (Q := fun x E M => match (generalizing := false) y2797 with | (Sum.inl _) => x = .ret ∧ E = ((Env.none.upd 4 (.lit (.slice none 0 0))).upd 5 (.lit (.bool false))) ∧ M = Mem.nil | (Sum.inr x2506) => x = .exit 0 ∧ E = (Env.none.upd 6 (.whole 0)) ∧ M = (Mem.nil.push (.row 3 (Rd.int .i64) x2506))) ?_ ?_
    · refine WP.loop (β := Int × (List Int)) (fun n b => g_quireref04_Row_l0 k x978 x979 n b.1 b.2 = some y2797) (fun b => ((((Env.none.upd 0 (.ro (Rd.slice (Rd.int .i64)) false x978)).upd 1 (.ro (Rd.slice (Rd.int .i64)) false x979)).upd 6 (.whole 0)).upd 7 (.lit (.int .i64 b.1)))) (fun b => (Mem.nil.push (.row 3 (Rd.int .i64) b.2))) k (0, ([] : List Int)) H2795 rfl rfl ?_
      rintro n ⟨x2216, x2217⟩ H
      obtain _ | n := n
      · exact nf rfl H
      rw [g_quireref04_Row_l0.eq_2] at H
      show WP _ _ _ _ ((((Env.none.upd 0 (.ro (Rd.slice (Rd.int .i64)) false x978)).upd 1 (.ro (Rd.slice (Rd.int .i64)) false x979)).upd 6 (.whole 0)).upd 7 (.lit (.int .i64 x2216))) (Mem.nil.push (.row 3 (Rd.int .i64) x2217)) _
      refine WP.seq ?_
      refine WP.seq ?_
      refine WP.region ?_
      refine WPL.q (q_mv (v := .lit (.int _ _)) rfl) rfl ?_
      refine WPL.q (q_mv (v := .ro _ _ _) rfl) rfl ?_
      refine WPL.q (q_len_ro sl32 rfl) rfl ?_
      obtain ⟨x2508, h2508, H⟩ := bnd H
      refine WPL.q (q_nm (q_lss rfl rfl) (nm_bool h2508)) rfl ?_
      refine WPL.nilW ?_
      refine W.now ?_
      refine Then.n ?_
      refine WP.cond (t := x2508) rfl (fun hb => ?_) (fun hb => ?_)
      · replace H := cnt hb H
        refine WP.skipW ?_
        refine W.now ?_
        refine Then.n ?_
        refine WP.seq ?_
        refine WP.block ?_
        refine WP.seq ?_
        refine WP.regionD' 10 [] [] mixed rfl ?_
        refine WPD.takeT 0 rfl (by kernel_rfl) (q_mv (v := .ro _ _ _) rfl) rfl ?_
        refine WPD.takeT 1 rfl (by kernel_rfl) (q_mv (v := .lit (.int _ _)) rfl) rfl ?_
        obtain ⟨x2654, h2654, H⟩ := bnd H
        refine WPD.takeT 2 rfl (by kernel_rfl) (q_index_ro sl32 rfl rfl rfl h2654) rfl ?_
        refine WPD.takeT 3 rfl (by kernel_rfl) (q_load_sc sc3 rfl) rfl ?_
        refine WPD.takeT 4 rfl (by kernel_rfl) (q_mv (v := .ro _ _ _) rfl) rfl ?_
        refine WPD.takeT 5 rfl (by kernel_rfl) (q_mv (v := .lit (.int _ _)) rfl) rfl ?_
        obtain ⟨x2655, h2655, H⟩ := bnd H
        refine WPD.takeT 6 rfl (by kernel_rfl) (q_index_ro sl32 rfl rfl rfl h2655) rfl ?_
        refine WPD.takeT 7 rfl (by kernel_rfl) (q_load_sc sc3 rfl) rfl ?_
        refine WPD.takeT 8 rfl (by kernel_rfl) (q_as (v := .lit (.int _ _)) rfl) rfl ?_
        refine WPD.takeT 9 rfl (by kernel_rfl) (q_as (v := .lit (.int _ _)) rfl) rfl ?_
        refine WPD.doneW (by kernel_rfl) ?_
        refine W.now ?_
        refine Then.n ?_
        refine WP.seq ?_
        refine WP.region ?_
        refine WPL.q (q_mv (v := .lit (.int _ _)) rfl) rfl ?_
        refine WPL.q (q_as (v := .lit (.int _ _)) rfl) rfl ?_
        refine WPL.q (q_as (v := .lit (.int _ _)) rfl) rfl ?_
        refine WPL.nilW ?_
        refine W.now ?_
        refine Then.n ?_
        refine WP.seq ?_
        refine WP.seq ?_
        obtain ⟨x2745, H2774, H⟩ := bnd H
        refine WP.monoW (Q := fun x E M => x = .normal ∧ E = (((((((((Env.none.upd 0 (.ro (Rd.slice (Rd.int .i64)) false x978)).upd 1 (.ro (Rd.slice (Rd.int .i64)) false x979)).upd 6 (.whole 0)).upd 7 (.lit (.int .i64 x2216))).upd 8 (.lit (.int .i64 x2654))).upd 9 (.lit (.int .i64 x2655))).upd 10 (.lit (.int .i64 1))).upd 11 (.lit (.int .i64 x2654))).upd 79 (.lit (.bool x2745))) ∧ M = (Mem.nil.push (.row 3 (Rd.int .i64) x2217))) ?_ ?_
        · clear H
          have H := H2774
          clear H2774
          refine WP.region ?_
          refine WPL.q (q_mv (v := .lit (.int _ _)) rfl) rfl ?_
          refine WPL.q (q_lss rfl rfl) rfl ?_
          refine WPL.q (q_mv (v := .lit (.bool _)) rfl) rfl ?_
          refine WPL.split (t := 35) (b := (decide (x2654 < 0))) rfl (fun hb2745 => ?_) (fun hb2745 => ?_)
          · replace H := cnt hb2745 H
            refine WPL.skipg (b' := true) rfl rfl (lb hb2745) rfl rfl ?_
            refine WPL.skipg (b' := true) rfl rfl (lb hb2745) rfl rfl ?_
            refine WPL.q (q_pickT (v := .lit (.bool _)) (lb hb2745) rfl) rfl ?_
            refine WPL.q (q_mv (v := .lit (.bool _)) rfl) rfl ?_
            refine WPL.skipg (b' := true) rfl rfl rfl rfl rfl ?_
            refine WPL.skipg (b' := true) rfl rfl rfl rfl rfl ?_
            refine WPL.q (q_pickT (v := .lit (.bool _)) rfl rfl) rfl ?_
            refine WPL.q (q_mv (v := .lit (.bool _)) rfl) rfl ?_
            refine WPL.skipg (b' := true) rfl rfl rfl rfl rfl ?_
            refine WPL.skipg (b' := true) rfl rfl rfl rfl rfl ?_
            refine WPL.skipg (b' := true) rfl rfl rfl rfl rfl ?_
            refine WPL.skipu rfl rfl rfl rfl ?_
            refine WPL.skipu rfl rfl rfl rfl ?_
            refine WPL.skipg (b' := true) rfl rfl rfl rfl rfl ?_
            refine WPL.q (q_pickT (v := .lit (.bool _)) rfl rfl) rfl ?_
            refine WPL.q (q_mv (v := .lit (.bool _)) rfl) rfl ?_
            refine WPL.skipg (b' := true) rfl rfl rfl rfl rfl ?_
            refine WPL.skipg (b' := true) rfl rfl rfl rfl rfl ?_
            refine WPL.skipg (b' := true) rfl rfl rfl rfl rfl ?_
            refine WPL.skipu rfl rfl rfl rfl ?_
            refine WPL.skipu rfl rfl rfl rfl ?_
            refine WPL.skipu rfl rfl rfl rfl ?_
            refine WPL.skipu rfl rfl rfl rfl ?_
            refine WPL.skipu rfl rfl rfl rfl ?_
            refine WPL.skipu rfl rfl rfl rfl ?_
            refine WPL.skipu rfl rfl rfl rfl ?_
            refine WPL.skipg (b' := true) rfl rfl rfl rfl rfl ?_
            refine WPL.q (q_pickT (v := .lit (.bool _)) rfl rfl) rfl ?_
            refine WPL.q (q_mv (v := .lit (.bool _)) rfl) rfl ?_
            refine WPL.skipg (b' := true) rfl rfl rfl rfl rfl ?_
            refine WPL.skipg (b' := true) rfl rfl rfl rfl rfl ?_
            refine WPL.skipg (b' := true) rfl rfl rfl rfl rfl ?_
            refine WPL.skipu rfl rfl rfl rfl ?_
            refine WPL.skipu rfl rfl rfl rfl ?_
            refine WPL.skipg (b' := true) rfl rfl rfl rfl rfl ?_
            refine WPL.q (q_pickT (v := .lit (.bool _)) rfl rfl) rfl ?_
            refine WPL.q (q_mv (v := .lit (.bool _)) rfl) rfl ?_
            refine WPL.skipg (b' := true) rfl rfl rfl rfl rfl ?_
            refine WPL.skipg (b' := true) rfl rfl rfl rfl rfl ?_
            refine WPL.skipg (b' := true) rfl rfl rfl rfl rfl ?_
            refine WPL.skipu rfl rfl rfl rfl ?_
            refine WPL.skipu rfl rfl rfl rfl ?_
            refine WPL.skipg (b' := true) rfl rfl rfl rfl rfl ?_
            refine WPL.q (q_pickT (v := .lit (.bool _)) rfl rfl) rfl ?_
            refine WPL.nilW ?_
            refine W.cv (Cv.weak (E' := (((((((((Env.none.upd 0 (.ro (Rd.slice (Rd.int .i64)) false x978)).upd 1 (.ro (Rd.slice (Rd.int .i64)) false x979)).upd 6 (.whole 0)).upd 7 (.lit (.int .i64 x2216))).upd 8 (.lit (.int .i64 x2654))).upd 9 (.lit (.int .i64 x2655))).upd 10 (.lit (.int .i64 1))).upd 11 (.lit (.int .i64 x2654))).upd 79 (.lit (.bool true)))) (M' := (Mem.nil.push (.row 3 (Rd.int .i64) x2217))) [0] hnp ⟨rfl, ⟨trivial, .inr ⟨rfl, rfl, rfl⟩⟩, by decide, rfl, trivial⟩ (LeE.upd rfl rfl (LeE.upd rfl rfl (LeE.upd rfl rfl (LeE.upd rfl rfl (LeE.upd rfl rfl (LeE.upd rfl rfl (LeE.upd rfl rfl (LeE.upd rfl rfl (LeE.upd rfl rfl (LeE.none rfl rfl))))))))))) rfl ?_
            refine W.now ?_
            have q0 := (Option.some.inj H)
            subst q0
            exact ⟨rfl, rfl, rfl⟩
          · replace H := cnf hb2745 H
            refine WPL.qg rfl rfl (lb hb2745) (q_mv (v := .lit (.int _ _)) rfl) rfl ?_
            refine WPL.qg rfl rfl (lb hb2745) (q_gtr rfl rfl) rfl ?_
            refine WPL.q (q_pickF (v := .lit (.bool _)) (lb hb2745) rfl) rfl ?_
            refine WPL.q (q_mv (v := .lit (.bool _)) rfl) rfl ?_
            refine WPL.split (t := 39) (b := (decide (18 < x2654))) rfl (fun hb2746 => ?_) (fun hb2746 => ?_)
            · replace H := cnt hb2746 H
              refine WPL.skipg (b' := true) rfl rfl (lb hb2746) rfl rfl ?_
              refine WPL.skipg (b' := true) rfl rfl (lb hb2746) rfl rfl ?_
              refine WPL.q (q_pickT (v := .lit (.bool _)) (lb hb2746) rfl) rfl ?_
              refine WPL.q (q_mv (v := .lit (.bool _)) rfl) rfl ?_
              refine WPL.skipg (b' := true) rfl rfl rfl rfl rfl ?_
              refine WPL.skipg (b' := true) rfl rfl rfl rfl rfl ?_
              refine WPL.skipg (b' := true) rfl rfl rfl rfl rfl ?_
              refine WPL.skipu rfl rfl rfl rfl ?_
              refine WPL.skipu rfl rfl rfl rfl ?_
              refine WPL.skipg (b' := true) rfl rfl rfl rfl rfl ?_
              refine WPL.q (q_pickT (v := .lit (.bool _)) rfl rfl) rfl ?_
              refine WPL.q (q_mv (v := .lit (.bool _)) rfl) rfl ?_
              refine WPL.skipg (b' := true) rfl rfl rfl rfl rfl ?_
              refine WPL.skipg (b' := true) rfl rfl rfl rfl rfl ?_
              refine WPL.skipg (b' := true) rfl rfl rfl rfl rfl ?_
              refine WPL.skipu rfl rfl rfl rfl ?_
              refine WPL.skipu rfl rfl rfl rfl ?_
              refine WPL.skipu rfl rfl rfl rfl ?_
              refine WPL.skipu rfl rfl rfl rfl ?_
              refine WPL.skipu rfl rfl rfl rfl ?_
              refine WPL.skipu rfl rfl rfl rfl ?_
              refine WPL.skipu rfl rfl rfl rfl ?_
              refine WPL.skipg (b' := true) rfl rfl rfl rfl rfl ?_
              refine WPL.q (q_pickT (v := .lit (.bool _)) rfl rfl) rfl ?_
              refine WPL.q (q_mv (v := .lit (.bool _)) rfl) rfl ?_
              refine WPL.skipg (b' := true) rfl rfl rfl rfl rfl ?_
              refine WPL.skipg (b' := true) rfl rfl rfl rfl rfl ?_
              refine WPL.skipg (b' := true) rfl rfl rfl rfl rfl ?_
              refine WPL.skipu rfl rfl rfl rfl ?_
              refine WPL.skipu rfl rfl rfl rfl ?_
              refine WPL.skipg (b' := true) rfl rfl rfl rfl rfl ?_
              refine WPL.q (q_pickT (v := .lit (.bool _)) rfl rfl) rfl ?_
              refine WPL.q (q_mv (v := .lit (.bool _)) rfl) rfl ?_
              refine WPL.skipg (b' := true) rfl rfl rfl rfl rfl ?_
              refine WPL.skipg (b' := true) rfl rfl rfl rfl rfl ?_
              refine WPL.skipg (b' := true) rfl rfl rfl rfl rfl ?_
              refine WPL.skipu rfl rfl rfl rfl ?_
              refine WPL.skipu rfl rfl rfl rfl ?_
              refine WPL.skipg (b' := true) rfl rfl rfl rfl rfl ?_
              refine WPL.q (q_pickT (v := .lit (.bool _)) rfl rfl) rfl ?_
              refine WPL.nilW ?_
              refine W.cv (Cv.weak (E' := (((((((((Env.none.upd 0 (.ro (Rd.slice (Rd.int .i64)) false x978)).upd 1 (.ro (Rd.slice (Rd.int .i64)) false x979)).upd 6 (.whole 0)).upd 7 (.lit (.int .i64 x2216))).upd 8 (.lit (.int .i64 x2654))).upd 9 (.lit (.int .i64 x2655))).upd 10 (.lit (.int .i64 1))).upd 11 (.lit (.int .i64 x2654))).upd 79 (.lit (.bool true)))) (M' := (Mem.nil.push (.row 3 (Rd.int .i64) x2217))) [0] hnp ⟨rfl, ⟨trivial, .inr ⟨rfl, rfl, rfl⟩⟩, by decide, rfl, trivial⟩ (LeE.upd rfl rfl (LeE.upd rfl rfl (LeE.upd rfl rfl (LeE.upd rfl rfl (LeE.upd rfl rfl (LeE.upd rfl rfl (LeE.upd rfl rfl (LeE.upd rfl rfl (LeE.upd rfl rfl (LeE.none rfl rfl))))))))))) rfl ?_
              refine W.now ?_
              have q0 := (Option.some.inj H)
              subst q0
              exact ⟨rfl, rfl, rfl⟩
            · replace H := cnf hb2746 H
              refine WPL.qg rfl rfl (lb hb2746) (q_mv (v := .lit (.int _ _)) rfl) rfl ?_
              refine WPL.qg rfl rfl (lb hb2746) (q_lss rfl rfl) rfl ?_
              refine WPL.q (q_pickF (v := .lit (.bool _)) (lb hb2746) rfl) rfl ?_
              refine WPL.q (q_mv (v := .lit (.bool _)) rfl) rfl ?_
              refine WPL.split (t := 43) (b := (decide (x2655 < 0))) rfl (fun hb2747 => ?_) (fun hb2747 => ?_)
              · replace H := cnt hb2747 H
                refine WPL.skipg (b' := true) rfl rfl (lb hb2747) rfl rfl ?_
                refine WPL.skipg (b' := true) rfl rfl (lb hb2747) rfl rfl ?_
                refine WPL.skipg (b' := true) rfl rfl (lb hb2747) rfl rfl ?_
                refine WPL.skipu rfl rfl rfl rfl ?_
                refine WPL.skipu rfl rfl rfl rfl ?_
                refine WPL.skipg (b' := true) rfl rfl (lb hb2747) rfl rfl ?_
                refine WPL.q (q_pickT (v := .lit (.bool _)) (lb hb2747) rfl) rfl ?_
                refine WPL.q (q_mv (v := .lit (.bool _)) rfl) rfl ?_
                refine WPL.skipg (b' := true) rfl rfl rfl rfl rfl ?_
                refine WPL.skipg (b' := true) rfl rfl rfl rfl rfl ?_
                refine WPL.skipg (b' := true) rfl rfl rfl rfl rfl ?_
                refine WPL.skipu rfl rfl rfl rfl ?_
                refine WPL.skipu rfl rfl rfl rfl ?_
                refine WPL.skipu rfl rfl rfl rfl ?_
                refine WPL.skipu rfl rfl rfl rfl ?_
                refine WPL.skipu rfl rfl rfl rfl ?_
                refine WPL.skipu rfl rfl rfl rfl ?_
                refine WPL.skipu rfl rfl rfl rfl ?_
                refine WPL.skipg (b' := true) rfl rfl rfl rfl rfl ?_
                refine WPL.q (q_pickT (v := .lit (.bool _)) rfl rfl) rfl ?_
                refine WPL.q (q_mv (v := .lit (.bool _)) rfl) rfl ?_
                refine WPL.skipg (b' := true) rfl rfl rfl rfl rfl ?_
                refine WPL.skipg (b' := true) rfl rfl rfl rfl rfl ?_
                refine WPL.skipg (b' := true) rfl rfl rfl rfl rfl ?_
                refine WPL.skipu rfl rfl rfl rfl ?_
                refine WPL.skipu rfl rfl rfl rfl ?_
                refine WPL.skipg (b' := true) rfl rfl rfl rfl rfl ?_
                refine WPL.q (q_pickT (v := .lit (.bool _)) rfl rfl) rfl ?_
                refine WPL.q (q_mv (v := .lit (.bool _)) rfl) rfl ?_
                refine WPL.skipg (b' := true) rfl rfl rfl rfl rfl ?_
                refine WPL.skipg (b' := true) rfl rfl rfl rfl rfl ?_
                refine WPL.skipg (b' := true) rfl rfl rfl rfl rfl ?_
                refine WPL.skipu rfl rfl rfl rfl ?_
                refine WPL.skipu rfl rfl rfl rfl ?_
                refine WPL.skipg (b' := true) rfl rfl rfl rfl rfl ?_
                refine WPL.q (q_pickT (v := .lit (.bool _)) rfl rfl) rfl ?_
                refine WPL.nilW ?_
                refine W.cv (Cv.weak (E' := (((((((((Env.none.upd 0 (.ro (Rd.slice (Rd.int .i64)) false x978)).upd 1 (.ro (Rd.slice (Rd.int .i64)) false x979)).upd 6 (.whole 0)).upd 7 (.lit (.int .i64 x2216))).upd 8 (.lit (.int .i64 x2654))).upd 9 (.lit (.int .i64 x2655))).upd 10 (.lit (.int .i64 1))).upd 11 (.lit (.int .i64 x2654))).upd 79 (.lit (.bool true)))) (M' := (Mem.nil.push (.row 3 (Rd.int .i64) x2217))) [0] hnp ⟨rfl, ⟨trivial, .inr ⟨rfl, rfl, rfl⟩⟩, by decide, rfl, trivial⟩ (LeE.upd rfl rfl (LeE.upd rfl rfl (LeE.upd rfl rfl (LeE.upd rfl rfl (LeE.upd rfl rfl (LeE.upd rfl rfl (LeE.upd rfl rfl (LeE.upd rfl rfl (LeE.upd rfl rfl (LeE.none rfl rfl))))))))))) rfl ?_
                refine W.now ?_
                have q0 := (Option.some.inj H)
                subst q0
                exact ⟨rfl, rfl, rfl⟩
              · replace H := cnf hb2747 H
                refine WPL.qg rfl rfl (lb hb2747) (q_mv (v := .lit (.int _ _)) rfl) rfl ?_
                refine WPL.qg rfl rfl (lb hb2747) (q_lss rfl rfl) rfl ?_
                refine WPL.qg rfl rfl (lb hb2747) (q_mv (v := .lit (.bool _)) rfl) rfl ?_
                refine WPL.split (t := 46) (b := (decide (x2654 < 16))) rfl (fun hb2748 => ?_) (fun hb2748 => ?_)
                · replace H := cnt hb2748 H
                  refine WPL.qg rfl rfl (lb hb2748) (q_mv (v := .lit (.int _ _)) rfl) rfl ?_
                  refine WPL.qg rfl rfl (lb hb2748) (q_neq rfl rfl) rfl ?_
                  refine WPL.qg rfl rfl (lb hb2747) (q_pickT (v := .lit (.bool _)) (lb hb2748) rfl) rfl ?_
                  refine WPL.q (q_pickF (v := .lit (.bool _)) (lb hb2747) rfl) rfl ?_
                  refine WPL.q (q_mv (v := .lit (.bool _)) rfl) rfl ?_
                  refine WPL.split (t := 51) (b := (!decide (x2655 = 0))) rfl (fun hb2749 => ?_) (fun hb2749 => ?_)
                  · replace H := cnt hb2749 H
                    refine WPL.skipg (b' := true) rfl rfl (lb hb2749) rfl rfl ?_
                    refine WPL.skipg (b' := true) rfl rfl (lb hb2749) rfl rfl ?_
                    refine WPL.skipg (b' := true) rfl rfl (lb hb2749) rfl rfl ?_
                    refine WPL.skipu rfl rfl rfl rfl ?_
                    refine WPL.skipu rfl rfl rfl rfl ?_
                    refine WPL.skipu rfl rfl rfl rfl ?_
                    refine WPL.skipu rfl rfl rfl rfl ?_
                    refine WPL.skipu rfl rfl rfl rfl ?_
                    refine WPL.skipu rfl rfl rfl rfl ?_
                    refine WPL.skipu rfl rfl rfl rfl ?_
                    refine WPL.skipg (b' := true) rfl rfl (lb hb2749) rfl rfl ?_
                    refine WPL.q (q_pickT (v := .lit (.bool _)) (lb hb2749) rfl) rfl ?_
                    refine WPL.q (q_mv (v := .lit (.bool _)) rfl) rfl ?_
                    refine WPL.skipg (b' := true) rfl rfl rfl rfl rfl ?_
                    refine WPL.skipg (b' := true) rfl rfl rfl rfl rfl ?_
                    refine WPL.skipg (b' := true) rfl rfl rfl rfl rfl ?_
                    refine WPL.skipu rfl rfl rfl rfl ?_
                    refine WPL.skipu rfl rfl rfl rfl ?_
                    refine WPL.skipg (b' := true) rfl rfl rfl rfl rfl ?_
                    refine WPL.q (q_pickT (v := .lit (.bool _)) rfl rfl) rfl ?_
                    refine WPL.q (q_mv (v := .lit (.bool _)) rfl) rfl ?_
                    refine WPL.skipg (b' := true) rfl rfl rfl rfl rfl ?_
                    refine WPL.skipg (b' := true) rfl rfl rfl rfl rfl ?_
                    refine WPL.skipg (b' := true) rfl rfl rfl rfl rfl ?_
                    refine WPL.skipu rfl rfl rfl rfl ?_
                    refine WPL.skipu rfl rfl rfl rfl ?_
                    refine WPL.skipg (b' := true) rfl rfl rfl rfl rfl ?_
                    refine WPL.q (q_pickT (v := .lit (.bool _)) rfl rfl) rfl ?_
                    refine WPL.nilW ?_
                    refine W.cv (Cv.weak (E' := (((((((((Env.none.upd 0 (.ro (Rd.slice (Rd.int .i64)) false x978)).upd 1 (.ro (Rd.slice (Rd.int .i64)) false x979)).upd 6 (.whole 0)).upd 7 (.lit (.int .i64 x2216))).upd 8 (.lit (.int .i64 x2654))).upd 9 (.lit (.int .i64 x2655))).upd 10 (.lit (.int .i64 1))).upd 11 (.lit (.int .i64 x2654))).upd 79 (.lit (.bool true)))) (M' := (Mem.nil.push (.row 3 (Rd.int .i64) x2217))) [0] hnp ⟨rfl, ⟨trivial, .inr ⟨rfl, rfl, rfl⟩⟩, by decide, rfl, trivial⟩ (LeE.upd rfl rfl (LeE.upd rfl rfl (LeE.upd rfl rfl (LeE.upd rfl rfl (LeE.upd rfl rfl (LeE.upd rfl rfl (LeE.upd rfl rfl (LeE.upd rfl rfl (LeE.upd rfl rfl (LeE.none rfl rfl))))))))))) rfl ?_
                    refine W.now ?_
                    have q0 := (Option.some.inj H)
                    subst q0
                    exact ⟨rfl, rfl, rfl⟩
                  · replace H := cnf hb2749 H
                    refine WPL.qg rfl rfl (lb hb2749) (q_mv (v := .lit (.int _ _)) rfl) rfl ?_
                    refine WPL.qg rfl rfl (lb hb2749) (q_eql rfl rfl) rfl ?_
                    refine WPL.qg rfl rfl (lb hb2749) (q_mv (v := .lit (.bool _)) rfl) rfl ?_
                    refine WPL.split (t := 54) (b := (decide (x2654 = 16))) rfl (fun hb2750 => ?_) (fun hb2750 => ?_)
                    · replace H := cnt hb2750 H
                      refine WPL.qg rfl rfl (lb hb2750) (q_mv (v := .lit (.int _ _)) rfl) rfl ?_
                      refine WPL.qg rfl rfl (lb hb2750) (q_gtr rfl rfl) rfl ?_
                      refine WPL.qg rfl rfl (lb hb2750) (q_mv (v := .lit (.bool _)) rfl) rfl ?_
                      refine WPL.split (t := 57) (b := (decide (3 < x2655))) rfl (fun hb2751 => ?_) (fun hb2751 => ?_)
                      · replace H := cnt hb2751 H
                        refine WPL.skipg (b' := true) rfl rfl (lb hb2751) rfl rfl ?_
                        refine WPL.skipg (b' := true) rfl rfl (lb hb2751) rfl rfl ?_
                        refine WPL.skipg (b' := true) rfl rfl (lb hb2751) rfl rfl ?_
                        refine WPL.qg rfl rfl (lb hb2750) (q_pickT (v := .lit (.bool _)) (lb hb2751) rfl) rfl ?_
                        refine WPL.qg rfl rfl (lb hb2749) (q_pickT (v := .lit (.bool _)) (lb hb2750) rfl) rfl ?_
                        refine WPL.q (q_pickF (v := .lit (.bool _)) (lb hb2749) rfl) rfl ?_
                        refine WPL.q (q_mv (v := .lit (.bool _)) rfl) rfl ?_
                        refine WPL.skipg (b' := true) rfl rfl rfl rfl rfl ?_
                        refine WPL.skipg (b' := true) rfl rfl rfl rfl rfl ?_
                        refine WPL.skipg (b' := true) rfl rfl rfl rfl rfl ?_
                        refine WPL.skipu rfl rfl rfl rfl ?_
                        refine WPL.skipu rfl rfl rfl rfl ?_
                        refine WPL.skipg (b' := true) rfl rfl rfl rfl rfl ?_
                        refine WPL.q (q_pickT (v := .lit (.bool _)) rfl rfl) rfl ?_
                        refine WPL.q (q_mv (v := .lit (.bool _)) rfl) rfl ?_
                        refine WPL.skipg (b' := true) rfl rfl rfl rfl rfl ?_
                        refine WPL.skipg (b' := true) rfl rfl rfl rfl rfl ?_
                        refine WPL.skipg (b' := true) rfl rfl rfl rfl rfl ?_
                        refine WPL.skipu rfl rfl rfl rfl ?_
                        refine WPL.skipu rfl rfl rfl rfl ?_
                        refine WPL.skipg (b' := true) rfl rfl rfl rfl rfl ?_
                        refine WPL.q (q_pickT (v := .lit (.bool _)) rfl rfl) rfl ?_
                        refine WPL.nilW ?_
                        refine W.cv (Cv.weak (E' := (((((((((Env.none.upd 0 (.ro (Rd.slice (Rd.int .i64)) false x978)).upd 1 (.ro (Rd.slice (Rd.int .i64)) false x979)).upd 6 (.whole 0)).upd 7 (.lit (.int .i64 x2216))).upd 8 (.lit (.int .i64 x2654))).upd 9 (.lit (.int .i64 x2655))).upd 10 (.lit (.int .i64 1))).upd 11 (.lit (.int .i64 x2654))).upd 79 (.lit (.bool true)))) (M' := (Mem.nil.push (.row 3 (Rd.int .i64) x2217))) [0] hnp ⟨rfl, ⟨trivial, .inr ⟨rfl, rfl, rfl⟩⟩, by decide, rfl, trivial⟩ (LeE.upd rfl rfl (LeE.upd rfl rfl (LeE.upd rfl rfl (LeE.upd rfl rfl (LeE.upd rfl rfl (LeE.upd rfl rfl (LeE.upd rfl rfl (LeE.upd rfl rfl (LeE.upd rfl rfl (LeE.none rfl rfl))))))))))) rfl ?_
                        refine W.now ?_
                        have q0 := (Option.some.inj H)
                        subst q0
                        exact ⟨rfl, rfl, rfl⟩
                      · replace H := cnf hb2751 H
                        refine WPL.qg rfl rfl (lb hb2751) (q_mv (v := .whole _) rfl) rfl ?_
                        refine WPL.qg rfl rfl (lb hb2751) (q_len_row sl32 rfl rfl) rfl ?_
                        obtain ⟨x2753, h2753, H⟩ := bnd H
                        refine WPL.qg rfl rfl (lb hb2751) (q_nm (q_eql rfl rfl) (nm_bool h2753)) rfl ?_
                        refine WPL.qg rfl rfl (lb hb2750) (q_pickF (v := .lit (.bool _)) (lb hb2751) rfl) rfl ?_
                        refine WPL.qg rfl rfl (lb hb2749) (q_pickT (v := .lit (.bool _)) (lb hb2750) rfl) rfl ?_
                        refine WPL.q (q_pickF (v := .lit (.bool _)) (lb hb2749) rfl) rfl ?_
                        refine WPL.q (q_mv (v := .lit (.bool _)) rfl) rfl ?_
                        refine WPL.split (t := 64) (b := x2753) rfl (fun hb2753 => ?_) (fun hb2753 => ?_)
                        · replace H := cnt hb2753 H
                          refine WPL.skipg (b' := true) rfl rfl (lb hb2753) rfl rfl ?_
                          refine WPL.skipg (b' := true) rfl rfl (lb hb2753) rfl rfl ?_
                          refine WPL.skipg (b' := true) rfl rfl (lb hb2753) rfl rfl ?_
                          refine WPL.skipu rfl rfl rfl rfl ?_
                          refine WPL.skipu rfl rfl rfl rfl ?_
                          refine WPL.skipg (b' := true) rfl rfl (lb hb2753) rfl rfl ?_
                          refine WPL.q (q_pickT (v := .lit (.bool _)) (lb hb2753) rfl) rfl ?_
                          refine WPL.q (q_mv (v := .lit (.bool _)) rfl) rfl ?_
                          refine WPL.skipg (b' := true) rfl rfl rfl rfl rfl ?_
                          refine WPL.skipg (b' := true) rfl rfl rfl rfl rfl ?_
                          refine WPL.skipg (b' := true) rfl rfl rfl rfl rfl ?_
                          refine WPL.skipu rfl rfl rfl rfl ?_
                          refine WPL.skipu rfl rfl rfl rfl ?_
                          refine WPL.skipg (b' := true) rfl rfl rfl rfl rfl ?_
                          refine WPL.q (q_pickT (v := .lit (.bool _)) rfl rfl) rfl ?_
                          refine WPL.nilW ?_
                          refine W.cv (Cv.weak (E' := (((((((((Env.none.upd 0 (.ro (Rd.slice (Rd.int .i64)) false x978)).upd 1 (.ro (Rd.slice (Rd.int .i64)) false x979)).upd 6 (.whole 0)).upd 7 (.lit (.int .i64 x2216))).upd 8 (.lit (.int .i64 x2654))).upd 9 (.lit (.int .i64 x2655))).upd 10 (.lit (.int .i64 1))).upd 11 (.lit (.int .i64 x2654))).upd 79 (.lit (.bool true)))) (M' := (Mem.nil.push (.row 3 (Rd.int .i64) x2217))) [0] hnp ⟨rfl, ⟨trivial, .inr ⟨rfl, rfl, rfl⟩⟩, by decide, rfl, trivial⟩ (LeE.upd rfl rfl (LeE.upd rfl rfl (LeE.upd rfl rfl (LeE.upd rfl rfl (LeE.upd rfl rfl (LeE.upd rfl rfl (LeE.upd rfl rfl (LeE.upd rfl rfl (LeE.upd rfl rfl (LeE.none rfl rfl))))))))))) rfl ?_
                          refine W.now ?_
                          have q0 := (Option.some.inj H)
                          subst q0
                          exact ⟨rfl, rfl, rfl⟩
                        · replace H := cnf hb2753 H
                          refine WPL.qg rfl rfl (lb hb2753) (q_mv (v := .lit (.int _ _)) rfl) rfl ?_
                          refine WPL.qg rfl rfl (lb hb2753) (q_eql rfl rfl) rfl ?_
                          refine WPL.qg rfl rfl (lb hb2753) (q_mv (v := .lit (.bool _)) rfl) rfl ?_
                          refine WPL.split (t := 67) (b := (decide (x2654 = 17))) rfl (fun hb2754 => ?_) (fun hb2754 => ?_)
                          · replace H := cnt hb2754 H
                            refine WPL.qg rfl rfl (lb hb2754) (q_mv (v := .lit (.int _ _)) rfl) rfl ?_
                            refine WPL.qg rfl rfl (lb hb2754) (q_gtr rfl rfl) rfl ?_
                            refine WPL.qg rfl rfl (lb hb2753) (q_pickT (v := .lit (.bool _)) (lb hb2754) rfl) rfl ?_
                            refine WPL.q (q_pickF (v := .lit (.bool _)) (lb hb2753) rfl) rfl ?_
                            refine WPL.q (q_mv (v := .lit (.bool _)) rfl) rfl ?_
                            refine WPL.split (t := 72) (b := (decide (7 < x2655))) rfl (fun hb2755 => ?_) (fun hb2755 => ?_)
                            · replace H := cnt hb2755 H
                              refine WPL.skipg (b' := true) rfl rfl (lb hb2755) rfl rfl ?_
                              refine WPL.skipg (b' := true) rfl rfl (lb hb2755) rfl rfl ?_
                              refine WPL.skipg (b' := true) rfl rfl (lb hb2755) rfl rfl ?_
                              refine WPL.skipu rfl rfl rfl rfl ?_
                              refine WPL.skipu rfl rfl rfl rfl ?_
                              refine WPL.skipg (b' := true) rfl rfl (lb hb2755) rfl rfl ?_
                              refine WPL.q (q_pickT (v := .lit (.bool _)) (lb hb2755) rfl) rfl ?_
                              refine WPL.nilW ?_
                              refine W.cv (Cv.weak (E' := (((((((((Env.none.upd 0 (.ro (Rd.slice (Rd.int .i64)) false x978)).upd 1 (.ro (Rd.slice (Rd.int .i64)) false x979)).upd 6 (.whole 0)).upd 7 (.lit (.int .i64 x2216))).upd 8 (.lit (.int .i64 x2654))).upd 9 (.lit (.int .i64 x2655))).upd 10 (.lit (.int .i64 1))).upd 11 (.lit (.int .i64 x2654))).upd 79 (.lit (.bool true)))) (M' := (Mem.nil.push (.row 3 (Rd.int .i64) x2217))) [0] hnp ⟨rfl, ⟨trivial, .inr ⟨rfl, rfl, rfl⟩⟩, by decide, rfl, trivial⟩ (LeE.upd rfl rfl (LeE.upd rfl rfl (LeE.upd rfl rfl (LeE.upd rfl rfl (LeE.upd rfl rfl (LeE.upd rfl rfl (LeE.upd rfl rfl (LeE.upd rfl rfl (LeE.upd rfl rfl (LeE.none rfl rfl))))))))))) rfl ?_
                              refine W.now ?_
                              have q0 := (Option.some.inj H)
                              subst q0
                              exact ⟨rfl, rfl, rfl⟩
                            · replace H := cnf hb2755 H
                              refine WPL.qg rfl rfl (lb hb2755) (q_mv (v := .lit (.int _ _)) rfl) rfl ?_
                              refine WPL.qg rfl rfl (lb hb2755) (q_eql rfl rfl) rfl ?_
                              refine WPL.qg rfl rfl (lb hb2755) (q_mv (v := .lit (.bool _)) rfl) rfl ?_
                              refine WPL.split (t := 75) (b := (decide (x2654 = 18))) rfl (fun hb2756 => ?_) (fun hb2756 => ?_)
                              · replace H := cnt hb2756 H
                                refine WPL.qg rfl rfl (lb hb2756) (q_mv (v := .lit (.int _ _)) rfl) rfl ?_
                                refine WPL.qg rfl rfl (lb hb2756) (q_gtr rfl rfl) rfl ?_
                                refine WPL.qg rfl rfl (lb hb2755) (q_pickT (v := .lit (.bool _)) (lb hb2756) rfl) rfl ?_
                                refine WPL.q (q_pickF (v := .lit (.bool _)) (lb hb2755) rfl) rfl ?_
                                refine WPL.nilW ?_
                                refine W.cv (Cv.weak (E' := (((((((((Env.none.upd 0 (.ro (Rd.slice (Rd.int .i64)) false x978)).upd 1 (.ro (Rd.slice (Rd.int .i64)) false x979)).upd 6 (.whole 0)).upd 7 (.lit (.int .i64 x2216))).upd 8 (.lit (.int .i64 x2654))).upd 9 (.lit (.int .i64 x2655))).upd 10 (.lit (.int .i64 1))).upd 11 (.lit (.int .i64 x2654))).upd 79 (.lit (.bool (decide (127 < x2655)))))) (M' := (Mem.nil.push (.row 3 (Rd.int .i64) x2217))) [0] hnp ⟨rfl, ⟨trivial, .inr ⟨rfl, rfl, rfl⟩⟩, by decide, rfl, trivial⟩ (LeE.upd rfl rfl (LeE.upd rfl rfl (LeE.upd rfl rfl (LeE.upd rfl rfl (LeE.upd rfl rfl (LeE.upd rfl rfl (LeE.upd rfl rfl (LeE.upd rfl rfl (LeE.upd rfl rfl (LeE.none rfl rfl))))))))))) rfl ?_
                                refine W.now ?_
                                have q0 := (Option.some.inj H)
                                subst q0
                                exact ⟨rfl, rfl, rfl⟩
                              · replace H := cnf hb2756 H
                                refine WPL.skipg (b' := false) rfl rfl (lb hb2756) rfl rfl ?_
                                refine WPL.skipg (b' := false) rfl rfl (lb hb2756) rfl rfl ?_
                                refine WPL.qg rfl rfl (lb hb2755) (q_pickF (v := .lit (.bool _)) (lb hb2756) rfl) rfl ?_
                                refine WPL.q (q_pickF (v := .lit (.bool _)) (lb hb2755) rfl) rfl ?_
                                refine WPL.nilW ?_
                                refine W.cv (Cv.weak (E' := (((((((((Env.none.upd 0 (.ro (Rd.slice (Rd.int .i64)) false x978)).upd 1 (.ro (Rd.slice (Rd.int .i64)) false x979)).upd 6 (.whole 0)).upd 7 (.lit (.int .i64 x2216))).upd 8 (.lit (.int .i64 x2654))).upd 9 (.lit (.int .i64 x2655))).upd 10 (.lit (.int .i64 1))).upd 11 (.lit (.int .i64 x2654))).upd 79 (.lit (.bool false)))) (M' := (Mem.nil.push (.row 3 (Rd.int .i64) x2217))) [0] hnp ⟨rfl, ⟨trivial, .inr ⟨rfl, rfl, rfl⟩⟩, by decide, rfl, trivial⟩ (LeE.upd rfl rfl (LeE.upd rfl rfl (LeE.upd rfl rfl (LeE.upd rfl rfl (LeE.upd rfl rfl (LeE.upd rfl rfl (LeE.upd rfl rfl (LeE.upd rfl rfl (LeE.upd rfl rfl (LeE.none rfl rfl))))))))))) rfl ?_
                                refine W.now ?_
                                have q0 := (Option.some.inj H)
                                subst q0
                                exact ⟨rfl, rfl, rfl⟩
                          · replace H := cnf hb2754 H
                            refine WPL.skipg (b' := false) rfl rfl (lb hb2754) rfl rfl ?_
                            refine WPL.skipg (b' := false) rfl rfl (lb hb2754) rfl rfl ?_
                            refine WPL.qg rfl rfl (lb hb2753) (q_pickF (v := .lit (.bool _)) (lb hb2754) rfl) rfl ?_
                            refine WPL.q (q_pickF (v := .lit (.bool _)) (lb hb2753) rfl) rfl ?_
                            refine WPL.q (q_mv (v := .lit (.bool _)) rfl) rfl ?_
                            refine WPL.qg rfl rfl rfl (q_mv (v := .lit (.int _ _)) rfl) rfl ?_
                            refine WPL.qg rfl rfl rfl (q_eql rfl rfl) rfl ?_
                            refine WPL.qg rfl rfl rfl (q_mv (v := .lit (.bool _)) rfl) rfl ?_
                            refine WPL.split (t := 75) (b := (decide (x2654 = 18))) rfl (fun hb2757 => ?_) (fun hb2757 => ?_)
                            · replace H := cnt hb2757 H
                              refine WPL.qg rfl rfl (lb hb2757) (q_mv (v := .lit (.int _ _)) rfl) rfl ?_
                              refine WPL.qg rfl rfl (lb hb2757) (q_gtr rfl rfl) rfl ?_
                              refine WPL.qg rfl rfl rfl (q_pickT (v := .lit (.bool _)) (lb hb2757) rfl) rfl ?_
                              refine WPL.q (q_pickF (v := .lit (.bool _)) rfl rfl) rfl ?_
                              refine WPL.nilW ?_
                              refine W.cv (Cv.weak (E' := (((((((((Env.none.upd 0 (.ro (Rd.slice (Rd.int .i64)) false x978)).upd 1 (.ro (Rd.slice (Rd.int .i64)) false x979)).upd 6 (.whole 0)).upd 7 (.lit (.int .i64 x2216))).upd 8 (.lit (.int .i64 x2654))).upd 9 (.lit (.int .i64 x2655))).upd 10 (.lit (.int .i64 1))).upd 11 (.lit (.int .i64 x2654))).upd 79 (.lit (.bool (decide (127 < x2655)))))) (M' := (Mem.nil.push (.row 3 (Rd.int .i64) x2217))) [0] hnp ⟨rfl, ⟨trivial, .inr ⟨rfl, rfl, rfl⟩⟩, by decide, rfl, trivial⟩ (LeE.upd rfl rfl (LeE.upd rfl rfl (LeE.upd rfl rfl (LeE.upd rfl rfl (LeE.upd rfl rfl (LeE.upd rfl rfl (LeE.upd rfl rfl (LeE.upd rfl rfl (LeE.upd rfl rfl (LeE.none rfl rfl))))))))))) rfl ?_
                              refine W.now ?_
                              have q0 := (Option.some.inj H)
                              subst q0
                              exact ⟨rfl, rfl, rfl⟩
                            · replace H := cnf hb2757 H
                              refine WPL.skipg (b' := false) rfl rfl (lb hb2757) rfl rfl ?_
                              refine WPL.skipg (b' := false) rfl rfl (lb hb2757) rfl rfl ?_
                              refine WPL.qg rfl rfl rfl (q_pickF (v := .lit (.bool _)) (lb hb2757) rfl) rfl ?_
                              refine WPL.q (q_pickF (v := .lit (.bool _)) rfl rfl) rfl ?_
                              refine WPL.nilW ?_
                              refine W.cv (Cv.weak (E' := (((((((((Env.none.upd 0 (.ro (Rd.slice (Rd.int .i64)) false x978)).upd 1 (.ro (Rd.slice (Rd.int .i64)) false x979)).upd 6 (.whole 0)).upd 7 (.lit (.int .i64 x2216))).upd 8 (.lit (.int .i64 x2654))).upd 9 (.lit (.int .i64 x2655))).upd 10 (.lit (.int .i64 1))).upd 11 (.lit (.int .i64 x2654))).upd 79 (.lit (.bool false)))) (M' := (Mem.nil.push (.row 3 (Rd.int .i64) x2217))) [0] hnp ⟨rfl, ⟨trivial, .inr ⟨rfl, rfl, rfl⟩⟩, by decide, rfl, trivial⟩ (LeE.upd rfl rfl (LeE.upd rfl rfl (LeE.upd rfl rfl (LeE.upd rfl rfl (LeE.upd rfl rfl (LeE.upd rfl rfl (LeE.upd rfl rfl (LeE.upd rfl rfl (LeE.upd rfl rfl (LeE.none rfl rfl))))))))))) rfl ?_
                              refine W.now ?_
                              have q0 := (Option.some.inj H)
                              subst q0
                              exact ⟨rfl, rfl, rfl⟩
                    · replace H := cnf hb2750 H
                      refine WPL.skipg (b' := false) rfl rfl (lb hb2750) rfl rfl ?_
                      refine WPL.skipg (b' := false) rfl rfl (lb hb2750) rfl rfl ?_
                      refine WPL.skipg (b' := false) rfl rfl (lb hb2750) rfl rfl ?_
                      refine WPL.skipu rfl rfl rfl rfl ?_
                      refine WPL.skipu rfl rfl rfl rfl ?_
                      refine WPL.skipu rfl rfl rfl rfl ?_
                      refine WPL.skipg (b' := false) rfl rfl (lb hb2750) rfl rfl ?_
                      refine WPL.qg rfl rfl (lb hb2749) (q_pickF (v := .lit (.bool _)) (lb hb2750) rfl) rfl ?_
                      refine WPL.q (q_pickF (v := .lit (.bool _)) (lb hb2749) rfl) rfl ?_
                      refine WPL.q (q_mv (v := .lit (.bool _)) rfl) rfl ?_
                      refine WPL.qg rfl rfl rfl (q_mv (v := .lit (.int _ _)) rfl) rfl ?_
                      refine WPL.qg rfl rfl rfl (q_eql rfl rfl) rfl ?_
                      refine WPL.qg rfl rfl rfl (q_mv (v := .lit (.bool _)) rfl) rfl ?_
                      refine WPL.split (t := 67) (b := (decide (x2654 = 17))) rfl (fun hb2758 => ?_) (fun hb2758 => ?_)
                      · replace H := cnt hb2758 H
                        refine WPL.qg rfl rfl (lb hb2758) (q_mv (v := .lit (.int _ _)) rfl) rfl ?_
                        refine WPL.qg rfl rfl (lb hb2758) (q_gtr rfl rfl) rfl ?_
                        refine WPL.qg rfl rfl rfl (q_pickT (v := .lit (.bool _)) (lb hb2758) rfl) rfl ?_
                        refine WPL.q (q_pickF (v := .lit (.bool _)) rfl rfl) rfl ?_
                        refine WPL.q (q_mv (v := .lit (.bool _)) rfl) rfl ?_
                        refine WPL.split (t := 72) (b := (decide (7 < x2655))) rfl (fun hb2759 => ?_) (fun hb2759 => ?_)
                        · replace H := cnt hb2759 H
                          refine WPL.skipg (b' := true) rfl rfl (lb hb2759) rfl rfl ?_
                          refine WPL.skipg (b' := true) rfl rfl (lb hb2759) rfl rfl ?_
                          refine WPL.skipg (b' := true) rfl rfl (lb hb2759) rfl rfl ?_
                          refine WPL.skipu rfl rfl rfl rfl ?_
                          refine WPL.skipu rfl rfl rfl rfl ?_
                          refine WPL.skipg (b' := true) rfl rfl (lb hb2759) rfl rfl ?_
                          refine WPL.q (q_pickT (v := .lit (.bool _)) (lb hb2759) rfl) rfl ?_
                          refine WPL.nilW ?_
                          refine W.cv (Cv.weak (E' := (((((((((Env.none.upd 0 (.ro (Rd.slice (Rd.int .i64)) false x978)).upd 1 (.ro (Rd.slice (Rd.int .i64)) false x979)).upd 6 (.whole 0)).upd 7 (.lit (.int .i64 x2216))).upd 8 (.lit (.int .i64 x2654))).upd 9 (.lit (.int .i64 x2655))).upd 10 (.lit (.int .i64 1))).upd 11 (.lit (.int .i64 x2654))).upd 79 (.lit (.bool true)))) (M' := (Mem.nil.push (.row 3 (Rd.int .i64) x2217))) [0] hnp ⟨rfl, ⟨trivial, .inr ⟨rfl, rfl, rfl⟩⟩, by decide, rfl, trivial⟩ (LeE.upd rfl rfl (LeE.upd rfl rfl (LeE.upd rfl rfl (LeE.upd rfl rfl (LeE.upd rfl rfl (LeE.upd rfl rfl (LeE.upd rfl rfl (LeE.upd rfl rfl (LeE.upd rfl rfl (LeE.none rfl rfl))))))))))) rfl ?_
                          refine W.now ?_
                          have q0 := (Option.some.inj H)
                          subst q0
                          exact ⟨rfl, rfl, rfl⟩
                        · replace H := cnf hb2759 H
                          refine WPL.qg rfl rfl (lb hb2759) (q_mv (v := .lit (.int _ _)) rfl) rfl ?_
                          refine WPL.qg rfl rfl (lb hb2759) (q_eql rfl rfl) rfl ?_
                          refine WPL.qg rfl rfl (lb hb2759) (q_mv (v := .lit (.bool _)) rfl) rfl ?_
                          refine WPL.split (t := 75) (b := (decide (x2654 = 18))) rfl (fun hb2760 => ?_) (fun hb2760 => ?_)
                          · replace H := cnt hb2760 H
                            refine WPL.qg rfl rfl (lb hb2760) (q_mv (v := .lit (.int _ _)) rfl) rfl ?_
                            refine WPL.qg rfl rfl (lb hb2760) (q_gtr rfl rfl) rfl ?_
                            refine WPL.qg rfl rfl (lb hb2759) (q_pickT (v := .lit (.bool _)) (lb hb2760) rfl) rfl ?_
                            refine WPL.q (q_pickF (v := .lit (.bool _)) (lb hb2759) rfl) rfl ?_
                            refine WPL.nilW ?_
                            refine W.cv (Cv.weak (E' := (((((((((Env.none.upd 0 (.ro (Rd.slice (Rd.int .i64)) false x978)).upd 1 (.ro (Rd.slice (Rd.int .i64)) false x979)).upd 6 (.whole 0)).upd 7 (.lit (.int .i64 x2216))).upd 8 (.lit (.int .i64 x2654))).upd 9 (.lit (.int .i64 x2655))).upd 10 (.lit (.int .i64 1))).upd 11 (.lit (.int .i64 x2654))).upd 79 (.lit (.bool (decide (127 < x2655)))))) (M' := (Mem.nil.push (.row 3 (Rd.int .i64) x2217))) [0] hnp ⟨rfl, ⟨trivial, .inr ⟨rfl, rfl, rfl⟩⟩, by decide, rfl, trivial⟩ (LeE.upd rfl rfl (LeE.upd rfl rfl (LeE.upd rfl rfl (LeE.upd rfl rfl (LeE.upd rfl rfl (LeE.upd rfl rfl (LeE.upd rfl rfl (LeE.upd rfl rfl (LeE.upd rfl rfl (LeE.none rfl rfl))))))))))) rfl ?_
                            refine W.now ?_
                            have q0 := (Option.some.inj H)
                            subst q0
                            exact ⟨rfl, rfl, rfl⟩
                          · replace H := cnf hb2760 H
                            refine WPL.skipg (b' := false) rfl rfl (lb hb2760) rfl rfl ?_
                            refine WPL.skipg (b' := false) rfl rfl (lb hb2760) rfl rfl ?_
                            refine WPL.qg rfl rfl (lb hb2759) (q_pickF (v := .lit (.bool _)) (lb hb2760) rfl) rfl ?_
                            refine WPL.q (q_pickF (v := .lit (.bool _)) (lb hb2759) rfl) rfl ?_
                            refine WPL.nilW ?_
                            refine W.cv (Cv.weak (E' := (((((((((Env.none.upd 0 (.ro (Rd.slice (Rd.int .i64)) false x978)).upd 1 (.ro (Rd.slice (Rd.int .i64)) false x979)).upd 6 (.whole 0)).upd 7 (.lit (.int .i64 x2216))).upd 8 (.lit (.int .i64 x2654))).upd 9 (.lit (.int .i64 x2655))).upd 10 (.lit (.int .i64 1))).upd 11 (.lit (.int .i64 x2654))).upd 79 (.lit (.bool false)))) (M' := (Mem.nil.push (.row 3 (Rd.int .i64) x2217))) [0] hnp ⟨rfl, ⟨trivial, .inr ⟨rfl, rfl, rfl⟩⟩, by decide, rfl, trivial⟩ (LeE.upd rfl rfl (LeE.upd rfl rfl (LeE.upd rfl rfl (LeE.upd rfl rfl (LeE.upd rfl rfl (LeE.upd rfl rfl (LeE.upd rfl rfl (LeE.upd rfl rfl (LeE.upd rfl rfl (LeE.none rfl rfl))))))))))) rfl ?_
                            refine W.now ?_
                            have q0 := (Option.some.inj H)
                            subst q0
                            exact ⟨rfl, rfl, rfl⟩
                      · replace H := cnf hb2758 H
                        refine WPL.skipg (b' := false) rfl rfl (lb hb2758) rfl rfl ?_
                        refine WPL.skipg (b' := false) rfl rfl (lb hb2758) rfl rfl ?_
                        refine WPL.qg rfl rfl rfl (q_pickF (v := .lit (.bool _)) (lb hb2758) rfl) rfl ?_
                        refine WPL.q (q_pickF (v := .lit (.bool _)) rfl rfl) rfl ?_
                        refine WPL.q (q_mv (v := .lit (.bool _)) rfl) rfl ?_
                        refine WPL.qg rfl rfl rfl (q_mv (v := .lit (.int _ _)) rfl) rfl ?_
                        refine WPL.qg rfl rfl rfl (q_eql rfl rfl) rfl ?_
                        refine WPL.qg rfl rfl rfl (q_mv (v := .lit (.bool _)) rfl) rfl ?_
                        refine WPL.split (t := 75) (b := (decide (x2654 = 18))) rfl (fun hb2761 => ?_) (fun hb2761 => ?_)
                        · replace H := cnt hb2761 H
                          refine WPL.qg rfl rfl (lb hb2761) (q_mv (v := .lit (.int _ _)) rfl) rfl ?_
                          refine WPL.qg rfl rfl (lb hb2761) (q_gtr rfl rfl) rfl ?_
                          refine WPL.qg rfl rfl rfl (q_pickT (v := .lit (.bool _)) (lb hb2761) rfl) rfl ?_
                          refine WPL.q (q_pickF (v := .lit (.bool _)) rfl rfl) rfl ?_
                          refine WPL.nilW ?_
                          refine W.cv (Cv.weak (E' := (((((((((Env.none.upd 0 (.ro (Rd.slice (Rd.int .i64)) false x978)).upd 1 (.ro (Rd.slice (Rd.int .i64)) false x979)).upd 6 (.whole 0)).upd 7 (.lit (.int .i64 x2216))).upd 8 (.lit (.int .i64 x2654))).upd 9 (.lit (.int .i64 x2655))).upd 10 (.lit (.int .i64 1))).upd 11 (.lit (.int .i64 x2654))).upd 79 (.lit (.bool (decide (127 < x2655)))))) (M' := (Mem.nil.push (.row 3 (Rd.int .i64) x2217))) [0] hnp ⟨rfl, ⟨trivial, .inr ⟨rfl, rfl, rfl⟩⟩, by decide, rfl, trivial⟩ (LeE.upd rfl rfl (LeE.upd rfl rfl (LeE.upd rfl rfl (LeE.upd rfl rfl (LeE.upd rfl rfl (LeE.upd rfl rfl (LeE.upd rfl rfl (LeE.upd rfl rfl (LeE.upd rfl rfl (LeE.none rfl rfl))))))))))) rfl ?_
                          refine W.now ?_
                          have q0 := (Option.some.inj H)
                          subst q0
                          exact ⟨rfl, rfl, rfl⟩
                        · replace H := cnf hb2761 H
                          refine WPL.skipg (b' := false) rfl rfl (lb hb2761) rfl rfl ?_
                          refine WPL.skipg (b' := false) rfl rfl (lb hb2761) rfl rfl ?_
                          refine WPL.qg rfl rfl rfl (q_pickF (v := .lit (.bool _)) (lb hb2761) rfl) rfl ?_
                          refine WPL.q (q_pickF (v := .lit (.bool _)) rfl rfl) rfl ?_
                          refine WPL.nilW ?_
                          refine W.cv (Cv.weak (E' := (((((((((Env.none.upd 0 (.ro (Rd.slice (Rd.int .i64)) false x978)).upd 1 (.ro (Rd.slice (Rd.int .i64)) false x979)).upd 6 (.whole 0)).upd 7 (.lit (.int .i64 x2216))).upd 8 (.lit (.int .i64 x2654))).upd 9 (.lit (.int .i64 x2655))).upd 10 (.lit (.int .i64 1))).upd 11 (.lit (.int .i64 x2654))).upd 79 (.lit (.bool false)))) (M' := (Mem.nil.push (.row 3 (Rd.int .i64) x2217))) [0] hnp ⟨rfl, ⟨trivial, .inr ⟨rfl, rfl, rfl⟩⟩, by decide, rfl, trivial⟩ (LeE.upd rfl rfl (LeE.upd rfl rfl (LeE.upd rfl rfl (LeE.upd rfl rfl (LeE.upd rfl rfl (LeE.upd rfl rfl (LeE.upd rfl rfl (LeE.upd rfl rfl (LeE.upd rfl rfl (LeE.none rfl rfl))))))))))) rfl ?_
                          refine W.now ?_
                          have q0 := (Option.some.inj H)
                          subst q0
                          exact ⟨rfl, rfl, rfl⟩
                · replace H := cnf hb2748 H
                  refine WPL.skipg (b' := false) rfl rfl (lb hb2748) rfl rfl ?_
                  refine WPL.skipg (b' := false) rfl rfl (lb hb2748) rfl rfl ?_
                  refine WPL.qg rfl rfl (lb hb2747) (q_pickF (v := .lit (.bool _)) (lb hb2748) rfl) rfl ?_
                  refine WPL.q (q_pickF (v := .lit (.bool _)) (lb hb2747) rfl) rfl ?_
                  refine WPL.q (q_mv (v := .lit (.bool _)) rfl) rfl ?_
                  refine WPL.qg rfl rfl rfl (q_mv (v := .lit (.int _ _)) rfl) rfl ?_
                  refine WPL.qg rfl rfl rfl (q_eql rfl rfl) rfl ?_
                  refine WPL.qg rfl rfl rfl (q_mv (v := .lit (.bool _)) rfl) rfl ?_
                  refine WPL.split (t := 54) (b := (decide (x2654 = 16))) rfl (fun hb2762 => ?_) (fun hb2762 => ?_)
                  · replace H := cnt hb2762 H
                    refine WPL.qg rfl rfl (lb hb2762) (q_mv (v := .lit (.int _ _)) rfl) rfl ?_
                    refine WPL.qg rfl rfl (lb hb2762) (q_gtr rfl rfl) rfl ?_
                    refine WPL.qg rfl rfl (lb hb2762) (q_mv (v := .lit (.bool _)) rfl) rfl ?_
                    refine WPL.split (t := 57) (b := (decide (3 < x2655))) rfl (fun hb2763 => ?_) (fun hb2763 => ?_)
                    · replace H := cnt hb2763 H
                      refine WPL.skipg (b' := true) rfl rfl (lb hb2763) rfl rfl ?_
                      refine WPL.skipg (b' := true) rfl rfl (lb hb2763) rfl rfl ?_
                      refine WPL.skipg (b' := true) rfl rfl (lb hb2763) rfl rfl ?_
                      refine WPL.qg rfl rfl (lb hb2762) (q_pickT (v := .lit (.bool _)) (lb hb2763) rfl) rfl ?_
                      refine WPL.qg rfl rfl rfl (q_pickT (v := .lit (.bool _)) (lb hb2762) rfl) rfl ?_
                      refine WPL.q (q_pickF (v := .lit (.bool _)) rfl rfl) rfl ?_
                      refine WPL.q (q_mv (v := .lit (.bool _)) rfl) rfl ?_
                      refine WPL.skipg (b' := true) rfl rfl rfl rfl rfl ?_
                      refine WPL.skipg (b' := true) rfl rfl rfl rfl rfl ?_
                      refine WPL.skipg (b' := true) rfl rfl rfl rfl rfl ?_
                      refine WPL.skipu rfl rfl rfl rfl ?_
                      refine WPL.skipu rfl rfl rfl rfl ?_
                      refine WPL.skipg (b' := true) rfl rfl rfl rfl rfl ?_
                      refine WPL.q (q_pickT (v := .lit (.bool _)) rfl rfl) rfl ?_
                      refine WPL.q (q_mv (v := .lit (.bool _)) rfl) rfl ?_
                      refine WPL.skipg (b' := true) rfl rfl rfl rfl rfl ?_
                      refine WPL.skipg (b' := true) rfl rfl rfl rfl rfl ?_
                      refine WPL.skipg (b' := true) rfl rfl rfl rfl rfl ?_
                      refine WPL.skipu rfl rfl rfl rfl ?_
                      refine WPL.skipu rfl rfl rfl rfl ?_
                      refine WPL.skipg (b' := true) rfl rfl rfl rfl rfl ?_
                      refine WPL.q (q_pickT (v := .lit (.bool _)) rfl rfl) rfl ?_
                      refine WPL.nilW ?_
                      refine W.cv (Cv.weak (E' := (((((((((Env.none.upd 0 (.ro (Rd.slice (Rd.int .i64)) false x978)).upd 1 (.ro (Rd.slice (Rd.int .i64)) false x979)).upd 6 (.whole 0)).upd 7 (.lit (.int .i64 x2216))).upd 8 (.lit (.int .i64 x2654))).upd 9 (.lit (.int .i64 x2655))).upd 10 (.lit (.int .i64 1))).upd 11 (.lit (.int .i64 x2654))).upd 79 (.lit (.bool true)))) (M' := (Mem.nil.push (.row 3 (Rd.int .i64) x2217))) [0] hnp ⟨rfl, ⟨trivial, .inr ⟨rfl, rfl, rfl⟩⟩, by decide, rfl, trivial⟩ (LeE.upd rfl rfl (LeE.upd rfl rfl (LeE.upd rfl rfl (LeE.upd rfl rfl (LeE.upd rfl rfl (LeE.upd rfl rfl (LeE.upd rfl rfl (LeE.upd rfl rfl (LeE.upd rfl rfl (LeE.none rfl rfl))))))))))) rfl ?_
                      refine W.now ?_
                      have q0 := (Option.some.inj H)
                      subst q0
                      exact ⟨rfl, rfl, rfl⟩
                    · replace H := cnf hb2763 H
                      refine WPL.qg rfl rfl (lb hb2763) (q_mv (v := .whole _) rfl) rfl ?_
                      refine WPL.qg rfl rfl (lb hb2763) (q_len_row sl32 rfl rfl) rfl ?_
                      obtain ⟨x2765, h2765, H⟩ := bnd H
                      refine WPL.qg rfl rfl (lb hb2763) (q_nm (q_eql rfl rfl) (nm_bool h2765)) rfl ?_
                      refine WPL.qg rfl rfl (lb hb2762) (q_pickF (v := .lit (.bool _)) (lb hb2763) rfl) rfl ?_
                      refine WPL.qg rfl rfl rfl (q_pickT (v := .lit (.bool _)) (lb hb2762) rfl) rfl ?_
                      refine WPL.q (q_pickF (v := .lit (.bool _)) rfl rfl) rfl ?_
                      refine WPL.q (q_mv (v := .lit (.bool _)) rfl) rfl ?_
                      refine WPL.split (t := 64) (b := x2765) rfl (fun hb2765 => ?_) (fun hb2765 => ?_)
                      · replace H := cnt hb2765 H
                        refine WPL.skipg (b' := true) rfl rfl (lb hb2765) rfl rfl ?_
                        refine WPL.skipg (b' := true) rfl rfl (lb hb2765) rfl rfl ?_
                        refine WPL.skipg (b' := true) rfl rfl (lb hb2765) rfl rfl ?_
                        refine WPL.skipu rfl rfl rfl rfl ?_
                        refine WPL.skipu rfl rfl rfl rfl ?_
                        refine WPL.skipg (b' := true) rfl rfl (lb hb2765) rfl rfl ?_
                        refine WPL.q (q_pickT (v := .lit (.bool _)) (lb hb2765) rfl) rfl ?_
                        refine WPL.q (q_mv (v := .lit (.bool _)) rfl) rfl ?_
                        refine WPL.skipg (b' := true) rfl rfl rfl rfl rfl ?_
                        refine WPL.skipg (b' := true) rfl rfl rfl rfl rfl ?_
                        refine WPL.skipg (b' := true) rfl rfl rfl rfl rfl ?_
                        refine WPL.skipu rfl rfl rfl rfl ?_
                        refine WPL.skipu rfl rfl rfl rfl ?_
                        refine WPL.skipg (b' := true) rfl rfl rfl rfl rfl ?_
                        refine WPL.q (q_pickT (v := .lit (.bool _)) rfl rfl) rfl ?_
                        refine WPL.nilW ?_
                        refine W.cv (Cv.weak (E' := (((((((((Env.none.upd 0 (.ro (Rd.slice (Rd.int .i64)) false x978)).upd 1 (.ro (Rd.slice (Rd.int .i64)) false x979)).upd 6 (.whole 0)).upd 7 (.lit (.int .i64 x2216))).upd 8 (.lit (.int .i64 x2654))).upd 9 (.lit (.int .i64 x2655))).upd 10 (.lit (.int .i64 1))).upd 11 (.lit (.int .i64 x2654))).upd 79 (.lit (.bool true)))) (M' := (Mem.nil.push (.row 3 (Rd.int .i64) x2217))) [0] hnp ⟨rfl, ⟨trivial, .inr ⟨rfl, rfl, rfl⟩⟩, by decide, rfl, trivial⟩ (LeE.upd rfl rfl (LeE.upd rfl rfl (LeE.upd rfl rfl (LeE.upd rfl rfl (LeE.upd rfl rfl (LeE.upd rfl rfl (LeE.upd rfl rfl (LeE.upd rfl rfl (LeE.upd rfl rfl (LeE.none rfl rfl))))))))))) rfl ?_
                        refine W.now ?_
                        have q0 := (Option.some.inj H)
                        subst q0
                        exact ⟨rfl, rfl, rfl⟩
                      · replace H := cnf hb2765 H
                        refine WPL.qg rfl rfl (lb hb2765) (q_mv (v := .lit (.int _ _)) rfl) rfl ?_
                        refine WPL.qg rfl rfl (lb hb2765) (q_eql rfl rfl) rfl ?_
                        refine WPL.qg rfl rfl (lb hb2765) (q_mv (v := .lit (.bool _)) rfl) rfl ?_
                        refine WPL.split (t := 67) (b := (decide (x2654 = 17))) rfl (fun hb2766 => ?_) (fun hb2766 => ?_)
                        · replace H := cnt hb2766 H
                          refine WPL.qg rfl rfl (lb hb2766) (q_mv (v := .lit (.int _ _)) rfl) rfl ?_
                          refine WPL.qg rfl rfl (lb hb2766) (q_gtr rfl rfl) rfl ?_
                          refine WPL.qg rfl rfl (lb hb2765) (q_pickT (v := .lit (.bool _)) (lb hb2766) rfl) rfl ?_
                          refine WPL.q (q_pickF (v := .lit (.bool _)) (lb hb2765) rfl) rfl ?_
                          refine WPL.q (q_mv (v := .lit (.bool _)) rfl) rfl ?_
                          refine WPL.split (t := 72) (b := (decide (7 < x2655))) rfl (fun hb2767 => ?_) (fun hb2767 => ?_)
                          · replace H := cnt hb2767 H
                            refine WPL.skipg (b' := true) rfl rfl (lb hb2767) rfl rfl ?_
                            refine WPL.skipg (b' := true) rfl rfl (lb hb2767) rfl rfl ?_
                            refine WPL.skipg (b' := true) rfl rfl (lb hb2767) rfl rfl ?_
                            refine WPL.skipu rfl rfl rfl rfl ?_
                            refine WPL.skipu rfl rfl rfl rfl ?_
                            refine WPL.skipg (b' := true) rfl rfl (lb hb2767) rfl rfl ?_
                            refine WPL.q (q_pickT (v := .lit (.bool _)) (lb hb2767) rfl) rfl ?_
                            refine WPL.nilW ?_
                            refine W.cv (Cv.weak (E' := (((((((((Env.none.upd 0 (.ro (Rd.slice (Rd.int .i64)) false x978)).upd 1 (.ro (Rd.slice (Rd.int .i64)) false x979)).upd 6 (.whole 0)).upd 7 (.lit (.int .i64 x2216))).upd 8 (.lit (.int .i64 x2654))).upd 9 (.lit (.int .i64 x2655))).upd 10 (.lit (.int .i64 1))).upd 11 (.lit (.int .i64 x2654))).upd 79 (.lit (.bool true)))) (M' := (Mem.nil.push (.row 3 (Rd.int .i64) x2217))) [0] hnp ⟨rfl, ⟨trivial, .inr ⟨rfl, rfl, rfl⟩⟩, by decide, rfl, trivial⟩ (LeE.upd rfl rfl (LeE.upd rfl rfl (LeE.upd rfl rfl (LeE.upd rfl rfl (LeE.upd rfl rfl (LeE.upd rfl rfl (LeE.upd rfl rfl (LeE.upd rfl rfl (LeE.upd rfl rfl (LeE.none rfl rfl))))))))))) rfl ?_
                            refine W.now ?_
                            have q0 := (Option.some.inj H)
                            subst q0
                            exact ⟨rfl, rfl, rfl⟩
                          · replace H := cnf hb2767 H
                            refine WPL.qg rfl rfl (lb hb2767) (q_mv (v := .lit (.int _ _)) rfl) rfl ?_
                            refine WPL.qg rfl rfl (lb hb2767) (q_eql rfl rfl) rfl ?_
                            refine WPL.qg rfl rfl (lb hb2767) (q_mv (v := .lit (.bool _)) rfl) rfl ?_
                            refine WPL.split (t := 75) (b := (decide (x2654 = 18))) rfl (fun hb2768 => ?_) (fun hb2768 => ?_)
                            · replace H := cnt hb2768 H
                              refine WPL.qg rfl rfl (lb hb2768) (q_mv (v := .lit (.int _ _)) rfl) rfl ?_
                              refine WPL.qg rfl rfl (lb hb2768) (q_gtr rfl rfl) rfl ?_
                              refine WPL.qg rfl rfl (lb hb2767) (q_pickT (v := .lit (.bool _)) (lb hb2768) rfl) rfl ?_
                              refine WPL.q (q_pickF (v := .lit (.bool _)) (lb hb2767) rfl) rfl ?_
                              refine WPL.nilW ?_
                              refine W.cv (Cv.weak (E' := (((((((((Env.none.upd 0 (.ro (Rd.slice (Rd.int .i64)) false x978)).upd 1 (.ro (Rd.slice (Rd.int .i64)) false x979)).upd 6 (.whole 0)).upd 7 (.lit (.int .i64 x2216))).upd 8 (.lit (.int .i64 x2654))).upd 9 (.lit (.int .i64 x2655))).upd 10 (.lit (.int .i64 1))).upd 11 (.lit (.int .i64 x2654))).upd 79 (.lit (.bool (decide (127 < x2655)))))) (M' := (Mem.nil.push (.row 3 (Rd.int .i64) x2217))) [0] hnp ⟨rfl, ⟨trivial, .inr ⟨rfl, rfl, rfl⟩⟩, by decide, rfl, trivial⟩ (LeE.upd rfl rfl (LeE.upd rfl rfl (LeE.upd rfl rfl (LeE.upd rfl rfl (LeE.upd rfl rfl (LeE.upd rfl rfl (LeE.upd rfl rfl (LeE.upd rfl rfl (LeE.upd rfl rfl (LeE.none rfl rfl))))))))))) rfl ?_
                              refine W.now ?_
                              have q0 := (Option.some.inj H)
                              subst q0
                              exact ⟨rfl, rfl, rfl⟩
                            · replace H := cnf hb2768 H
                              refine WPL.skipg (b' := false) rfl rfl (lb hb2768) rfl rfl ?_
                              refine WPL.skipg (b' := false) rfl rfl (lb hb2768) rfl rfl ?_
                              refine WPL.qg rfl rfl (lb hb2767) (q_pickF (v := .lit (.bool _)) (lb hb2768) rfl) rfl ?_
                              refine WPL.q (q_pickF (v := .lit (.bool _)) (lb hb2767) rfl) rfl ?_
                              refine WPL.nilW ?_
                              refine W.cv (Cv.weak (E' := (((((((((Env.none.upd 0 (.ro (Rd.slice (Rd.int .i64)) false x978)).upd 1 (.ro (Rd.slice (Rd.int .i64)) false x979)).upd 6 (.whole 0)).upd 7 (.lit (.int .i64 x2216))).upd 8 (.lit (.int .i64 x2654))).upd 9 (.lit (.int .i64 x2655))).upd 10 (.lit (.int .i64 1))).upd 11 (.lit (.int .i64 x2654))).upd 79 (.lit (.bool false)))) (M' := (Mem.nil.push (.row 3 (Rd.int .i64) x2217))) [0] hnp ⟨rfl, ⟨trivial, .inr ⟨rfl, rfl, rfl⟩⟩, by decide, rfl, trivial⟩ (LeE.upd rfl rfl (LeE.upd rfl rfl (LeE.upd rfl rfl (LeE.upd rfl rfl (LeE.upd rfl rfl (LeE.upd rfl rfl (LeE.upd rfl rfl (LeE.upd rfl rfl (LeE.upd rfl rfl (LeE.none rfl rfl))))))))))) rfl ?_
                              refine W.now ?_
                              have q0 := (Option.some.inj H)
                              subst q0
                              exact ⟨rfl, rfl, rfl⟩
                        · replace H := cnf hb2766 H
                          refine WPL.skipg (b' := false) rfl rfl (lb hb2766) rfl rfl ?_
                          refine WPL.skipg (b' := false) rfl rfl (lb hb2766) rfl rfl ?_
                          refine WPL.qg rfl rfl (lb hb2765) (q_pickF (v := .lit (.bool _)) (lb hb2766) rfl) rfl ?_
                          refine WPL.q (q_pickF (v := .lit (.bool _)) (lb hb2765) rfl) rfl ?_
                          refine WPL.q (q_mv (v := .lit (.bool _)) rfl) rfl ?_
                          refine WPL.qg rfl rfl rfl (q_mv (v := .lit (.int _ _)) rfl) rfl ?_
                          refine WPL.qg rfl rfl rfl (q_eql rfl rfl) rfl ?_
                          refine WPL.qg rfl rfl rfl (q_mv (v := .lit (.bool _)) rfl) rfl ?_
                          refine WPL.split (t := 75) (b := (decide (x2654 = 18))) rfl (fun hb2769 => ?_) (fun hb2769 => ?_)
                          · replace H := cnt hb2769 H
                            refine WPL.qg rfl rfl (lb hb2769) (q_mv (v := .lit (.int _ _)) rfl) rfl ?_
                            refine WPL.qg rfl rfl (lb hb2769) (q_gtr rfl rfl) rfl ?_
                            refine WPL.qg rfl rfl rfl (q_pickT (v := .lit (.bool _)) (lb hb2769) rfl) rfl ?_
                            refine WPL.q (q_pickF (v := .lit (.bool _)) rfl rfl) rfl ?_
                            refine WPL.nilW ?_
                            refine W.cv (Cv.weak (E' := (((((((((Env.none.upd 0 (.ro (Rd.slice (Rd.int .i64)) false x978)).upd 1 (.ro (Rd.slice (Rd.int .i64)) false x979)).upd 6 (.whole 0)).upd 7 (.lit (.int .i64 x2216))).upd 8 (.lit (.int .i64 x2654))).upd 9 (.lit (.int .i64 x2655))).upd 10 (.lit (.int .i64 1))).upd 11 (.lit (.int .i64 x2654))).upd 79 (.lit (.bool (decide (127 < x2655)))))) (M' := (Mem.nil.push (.row 3 (Rd.int .i64) x2217))) [0] hnp ⟨rfl, ⟨trivial, .inr ⟨rfl, rfl, rfl⟩⟩, by decide, rfl, trivial⟩ (LeE.upd rfl rfl (LeE.upd rfl rfl (LeE.upd rfl rfl (LeE.upd rfl rfl (LeE.upd rfl rfl (LeE.upd rfl rfl (LeE.upd rfl rfl (LeE.upd rfl rfl (LeE.upd rfl rfl (LeE.none rfl rfl))))))))))) rfl ?_
                            refine W.now ?_
                            have q0 := (Option.some.inj H)
                            subst q0
                            exact ⟨rfl, rfl, rfl⟩
                          · replace H := cnf hb2769 H
                            refine WPL.skipg (b' := false) rfl rfl (lb hb2769) rfl rfl ?_
                            refine WPL.skipg (b' := false) rfl rfl (lb hb2769) rfl rfl ?_
                            refine WPL.qg rfl rfl rfl (q_pickF (v := .lit (.bool _)) (lb hb2769) rfl) rfl ?_
                            refine WPL.q (q_pickF (v := .lit (.bool _)) rfl rfl) rfl ?_
                            refine WPL.nilW ?_
                            refine W.cv (Cv.weak (E' := (((((((((Env.none.upd 0 (.ro (Rd.slice (Rd.int .i64)) false x978)).upd 1 (.ro (Rd.slice (Rd.int .i64)) false x979)).upd 6 (.whole 0)).upd 7 (.lit (.int .i64 x2216))).upd 8 (.lit (.int .i64 x2654))).upd 9 (.lit (.int .i64 x2655))).upd 10 (.lit (.int .i64 1))).upd 11 (.lit (.int .i64 x2654))).upd 79 (.lit (.bool false)))) (M' := (Mem.nil.push (.row 3 (Rd.int .i64) x2217))) [0] hnp ⟨rfl, ⟨trivial, .inr ⟨rfl, rfl, rfl⟩⟩, by decide, rfl, trivial⟩ (LeE.upd rfl rfl (LeE.upd rfl rfl (LeE.upd rfl rfl (LeE.upd rfl rfl (LeE.upd rfl rfl (LeE.upd rfl rfl (LeE.upd rfl rfl (LeE.upd rfl rfl (LeE.upd rfl rfl (LeE.none rfl rfl))))))))))) rfl ?_
                            refine W.now ?_
                            have q0 := (Option.some.inj H)
                            subst q0
                            exact ⟨rfl, rfl, rfl⟩
                  · replace H := cnf hb2762 H
                    refine WPL.skipg (b' := false) rfl rfl (lb hb2762) rfl rfl ?_
                    refine WPL.skipg (b' := false) rfl rfl (lb hb2762) rfl rfl ?_
                    refine WPL.skipg (b' := false) rfl rfl (lb hb2762) rfl rfl ?_
                    refine WPL.skipu rfl rfl rfl rfl ?_
                    refine WPL.skipu rfl rfl rfl rfl ?_
                    refine WPL.skipu rfl rfl rfl rfl ?_
                    refine WPL.skipg (b' := false) rfl rfl (lb hb2762) rfl rfl ?_
                    refine WPL.qg rfl rfl rfl (q_pickF (v := .lit (.bool _)) (lb hb2762) rfl) rfl ?_
                    refine WPL.q (q_pickF (v := .lit (.bool _)) rfl rfl) rfl ?_
                    refine WPL.q (q_mv (v := .lit (.bool _)) rfl) rfl ?_
                    refine WPL.qg rfl rfl rfl (q_mv (v := .lit (.int _ _)) rfl) rfl ?_
                    refine WPL.qg rfl rfl rfl (q_eql rfl rfl) rfl ?_
                    refine WPL.qg rfl rfl rfl (q_mv (v := .lit (.bool _)) rfl) rfl ?_
                    refine WPL.split (t := 67) (b := (decide (x2654 = 17))) rfl (fun hb2770 => ?_) (fun hb2770 => ?_)
                    · replace H := cnt hb2770 H
                      refine WPL.qg rfl rfl (lb hb2770) (q_mv (v := .lit (.int _ _)) rfl) rfl ?_
                      refine WPL.qg rfl rfl (lb hb2770) (q_gtr rfl rfl) rfl ?_
                      refine WPL.qg rfl rfl rfl (q_pickT (v := .lit (.bool _)) (lb hb2770) rfl) rfl ?_
                      refine WPL.q (q_pickF (v := .lit (.bool _)) rfl rfl) rfl ?_
                      refine WPL.q (q_mv (v := .lit (.bool _)) rfl) rfl ?_
                      refine WPL.split (t := 72) (b := (decide (7 < x2655))) rfl (fun hb2771 => ?_) (fun hb2771 => ?_)
                      · replace H := cnt hb2771 H
                        refine WPL.skipg (b' := true) rfl rfl (lb hb2771) rfl rfl ?_
                        refine WPL.skipg (b' := true) rfl rfl (lb hb2771) rfl rfl ?_
                        refine WPL.skipg (b' := true) rfl rfl (lb hb2771) rfl rfl ?_
                        refine WPL.skipu rfl rfl rfl rfl ?_
                        refine WPL.skipu rfl rfl rfl rfl ?_
                        refine WPL.skipg (b' := true) rfl rfl (lb hb2771) rfl rfl ?_
                        refine WPL.q (q_pickT (v := .lit (.bool _)) (lb hb2771) rfl) rfl ?_
                        refine WPL.nilW ?_
                        refine W.cv (Cv.weak (E' := (((((((((Env.none.upd 0 (.ro (Rd.slice (Rd.int .i64)) false x978)).upd 1 (.ro (Rd.slice (Rd.int .i64)) false x979)).upd 6 (.whole 0)).upd 7 (.lit (.int .i64 x2216))).upd 8 (.lit (.int .i64 x2654))).upd 9 (.lit (.int .i64 x2655))).upd 10 (.lit (.int .i64 1))).upd 11 (.lit (.int .i64 x2654))).upd 79 (.lit (.bool true)))) (M' := (Mem.nil.push (.row 3 (Rd.int .i64) x2217))) [0] hnp ⟨rfl, ⟨trivial, .inr ⟨rfl, rfl, rfl⟩⟩, by decide, rfl, trivial⟩ (LeE.upd rfl rfl (LeE.upd rfl rfl (LeE.upd rfl rfl (LeE.upd rfl rfl (LeE.upd rfl rfl (LeE.upd rfl rfl (LeE.upd rfl rfl (LeE.upd rfl rfl (LeE.upd rfl rfl (LeE.none rfl rfl))))))))))) rfl ?_
                        refine W.now ?_
                        have q0 := (Option.some.inj H)
                        subst q0
                        exact ⟨rfl, rfl, rfl⟩
                      · replace H := cnf hb2771 H
                        refine WPL.qg rfl rfl (lb hb2771) (q_mv (v := .lit (.int _ _)) rfl) rfl ?_
                        refine WPL.qg rfl rfl (lb hb2771) (q_eql rfl rfl) rfl ?_
                        refine WPL.qg rfl rfl (lb hb2771) (q_mv (v := .lit (.bool _)) rfl) rfl ?_
                        refine WPL.split (t := 75) (b := (decide (x2654 = 18))) rfl (fun hb2772 => ?_) (fun hb2772 => ?_)
                        · replace H := cnt hb2772 H
                          refine WPL.qg rfl rfl (lb hb2772) (q_mv (v := .lit (.int _ _)) rfl) rfl ?_
                          refine WPL.qg rfl rfl (lb hb2772) (q_gtr rfl rfl) rfl ?_
                          refine WPL.qg rfl rfl (lb hb2771) (q_pickT (v := .lit (.bool _)) (lb hb2772) rfl) rfl ?_
                          refine WPL.q (q_pickF (v := .lit (.bool _)) (lb hb2771) rfl) rfl ?_
                          refine WPL.nilW ?_
                          refine W.cv (Cv.weak (E' := (((((((((Env.none.upd 0 (.ro (Rd.slice (Rd.int .i64)) false x978)).upd 1 (.ro (Rd.slice (Rd.int .i64)) false x979)).upd 6 (.whole 0)).upd 7 (.lit (.int .i64 x2216))).upd 8 (.lit (.int .i64 x2654))).upd 9 (.lit (.int .i64 x2655))).upd 10 (.lit (.int .i64 1))).upd 11 (.lit (.int .i64 x2654))).upd 79 (.lit (.bool (decide (127 < x2655)))))) (M' := (Mem.nil.push (.row 3 (Rd.int .i64) x2217))) [0] hnp ⟨rfl, ⟨trivial, .inr ⟨rfl, rfl, rfl⟩⟩, by decide, rfl, trivial⟩ (LeE.upd rfl rfl (LeE.upd rfl rfl (LeE.upd rfl rfl (LeE.upd rfl rfl (LeE.upd rfl rfl (LeE.upd rfl rfl (LeE.upd rfl rfl (LeE.upd rfl rfl (LeE.upd rfl rfl (LeE.none rfl rfl))))))))))) rfl ?_
                          refine W.now ?_
                          have q0 := (Option.some.inj H)
                          subst q0
                          exact ⟨rfl, rfl, rfl⟩
                        · replace H := cnf hb2772 H
                          refine WPL.skipg (b' := false) rfl rfl (lb hb2772) rfl rfl ?_
                          refine WPL.skipg (b' := false) rfl rfl (lb hb2772) rfl rfl ?_
                          refine WPL.qg rfl rfl (lb hb2771) (q_pickF (v := .lit (.bool _)) (lb hb2772) rfl) rfl ?_
                          refine WPL.q (q_pickF (v := .lit (.bool _)) (lb hb2771) rfl) rfl ?_
                          refine WPL.nilW ?_
                          refine W.cv (Cv.weak (E' := (((((((((Env.none.upd 0 (.ro (Rd.slice (Rd.int .i64)) false x978)).upd 1 (.ro (Rd.slice (Rd.int .i64)) false x979)).upd 6 (.whole 0)).upd 7 (.lit (.int .i64 x2216))).upd 8 (.lit (.int .i64 x2654))).upd 9 (.lit (.int .i64 x2655))).upd 10 (.lit (.int .i64 1))).upd 11 (.lit (.int .i64 x2654))).upd 79 (.lit (.bool false)))) (M' := (Mem.nil.push (.row 3 (Rd.int .i64) x2217))) [0] hnp ⟨rfl, ⟨trivial, .inr ⟨rfl, rfl, rfl⟩⟩, by decide, rfl, trivial⟩ (LeE.upd rfl rfl (LeE.upd rfl rfl (LeE.upd rfl rfl (LeE.upd rfl rfl (LeE.upd rfl rfl (LeE.upd rfl rfl (LeE.upd rfl rfl (LeE.upd rfl rfl (LeE.upd rfl rfl (LeE.none rfl rfl))))))))))) rfl ?_
                          refine W.now ?_
                          have q0 := (Option.some.inj H)
                          subst q0
                          exact ⟨rfl, rfl, rfl⟩
                    · replace H := cnf hb2770 H
                      refine WPL.skipg (b' := false) rfl rfl (lb hb2770) rfl rfl ?_
                      refine WPL.skipg (b' := false) rfl rfl (lb hb2770) rfl rfl ?_
                      refine WPL.qg rfl rfl rfl (q_pickF (v := .lit (.bool _)) (lb hb2770) rfl) rfl ?_
                      refine WPL.q (q_pickF (v := .lit (.bool _)) rfl rfl) rfl ?_
                      refine WPL.q (q_mv (v := .lit (.bool _)) rfl) rfl ?_
                      refine WPL.qg rfl rfl rfl (q_mv (v := .lit (.int _ _)) rfl) rfl ?_
                      refine WPL.qg rfl rfl rfl (q_eql rfl rfl) rfl ?_
                      refine WPL.qg rfl rfl rfl (q_mv (v := .lit (.bool _)) rfl) rfl ?_
                      refine WPL.split (t := 75) (b := (decide (x2654 = 18))) rfl (fun hb2773 => ?_) (fun hb2773 => ?_)
                      · replace H := cnt hb2773 H
                        refine WPL.qg rfl rfl (lb hb2773) (q_mv (v := .lit (.int _ _)) rfl) rfl ?_
                        refine WPL.qg rfl rfl (lb hb2773) (q_gtr rfl rfl) rfl ?_
                        refine WPL.qg rfl rfl rfl (q_pickT (v := .lit (.bool _)) (lb hb2773) rfl) rfl ?_
                        refine WPL.q (q_pickF (v := .lit (.bool _)) rfl rfl) rfl ?_
                        refine WPL.nilW ?_
                        refine W.cv (Cv.weak (E' := (((((((((Env.none.upd 0 (.ro (Rd.slice (Rd.int .i64)) false x978)).upd 1 (.ro (Rd.slice (Rd.int .i64)) false x979)).upd 6 (.whole 0)).upd 7 (.lit (.int .i64 x2216))).upd 8 (.lit (.int .i64 x2654))).upd 9 (.lit (.int .i64 x2655))).upd 10 (.lit (.int .i64 1))).upd 11 (.lit (.int .i64 x2654))).upd 79 (.lit (.bool (decide (127 < x2655)))))) (M' := (Mem.nil.push (.row 3 (Rd.int .i64) x2217))) [0] hnp ⟨rfl, ⟨trivial, .inr ⟨rfl, rfl, rfl⟩⟩, by decide, rfl, trivial⟩ (LeE.upd rfl rfl (LeE.upd rfl rfl (LeE.upd rfl rfl (LeE.upd rfl rfl (LeE.upd rfl rfl (LeE.upd rfl rfl (LeE.upd rfl rfl (LeE.upd rfl rfl (LeE.upd rfl rfl (LeE.none rfl rfl))))))))))) rfl ?_
                        refine W.now ?_
                        have q0 := (Option.some.inj H)
                        subst q0
                        exact ⟨rfl, rfl, rfl⟩
                      · replace H := cnf hb2773 H
                        refine WPL.skipg (b' := false) rfl rfl (lb hb2773) rfl rfl ?_
                        refine WPL.skipg (b' := false) rfl rfl (lb hb2773) rfl rfl ?_
                        refine WPL.qg rfl rfl rfl (q_pickF (v := .lit (.bool _)) (lb hb2773) rfl) rfl ?_
                        refine WPL.q (q_pickF (v := .lit (.bool _)) rfl rfl) rfl ?_
                        refine WPL.nilW ?_
                        refine W.cv (Cv.weak (E' := (((((((((Env.none.upd 0 (.ro (Rd.slice (Rd.int .i64)) false x978)).upd 1 (.ro (Rd.slice (Rd.int .i64)) false x979)).upd 6 (.whole 0)).upd 7 (.lit (.int .i64 x2216))).upd 8 (.lit (.int .i64 x2654))).upd 9 (.lit (.int .i64 x2655))).upd 10 (.lit (.int .i64 1))).upd 11 (.lit (.int .i64 x2654))).upd 79 (.lit (.bool false)))) (M' := (Mem.nil.push (.row 3 (Rd.int .i64) x2217))) [0] hnp ⟨rfl, ⟨trivial, .inr ⟨rfl, rfl, rfl⟩⟩, by decide, rfl, trivial⟩ (LeE.upd rfl rfl (LeE.upd rfl rfl (LeE.upd rfl rfl (LeE.upd rfl rfl (LeE.upd rfl rfl (LeE.upd rfl rfl (LeE.upd rfl rfl (LeE.upd rfl rfl (LeE.upd rfl rfl (LeE.none rfl rfl))))))))))) rfl ?_
                        refine W.now ?_
                        have q0 := (Option.some.inj H)
                        subst q0
                        exact ⟨rfl, rfl, rfl⟩
        · rintro _ _ _ ⟨rfl, rfl, rfl⟩
          refine W.now ?_
          refine Then.n ?_
          refine WP.cond (t := x2745) rfl (fun hb => ?_) (fun hb => ?_)
          · replace H := cnt hb H
            refine WP.seq ?_
            refine WP.region ?_
            refine WPL.q (q_as (v := .lit _) rfl) rfl ?_
            refine WPL.q (q_as (v := .lit (.bool _)) rfl) rfl ?_
            refine WPL.nilW ?_
            refine W.now ?_
            refine Then.n ?_
            refine WP.retW ?_
            refine W.cv (Cv.weak (E' := ((Env.none.upd 4 (.lit (.slice none 0 0))).upd 5 (.lit (.bool false)))) (M' := Mem.nil) [] hnp ⟨rfl, trivial, by decide, rfl, trivial⟩ (LeE.upd rfl rfl (LeE.upd rfl rfl (LeE.none rfl rfl)))) rfl ?_
            refine W.now ?_
            refine Then.r ?_
            refine InBlock.r ?_
            refine Then.r ?_
            refine Then.r ?_
            have q0 := Option.some.inj H
            subst q0
            exact ⟨rfl, rfl, rfl⟩
          · replace H := cnf hb H
            refine WP.skipW ?_
            refine W.now ?_
            refine Then.n ?_
            refine WP.seq ?_
            obtain ⟨⟨x2778, x2779⟩, H2781, H⟩ := bnd H
            refine WP.monoW (Q := fun x E M => x = .normal ∧ E = ((((((((Env.none.upd 0 (.ro (Rd.slice (Rd.int .i64)) false x978)).upd 1 (.ro (Rd.slice (Rd.int .i64)) false x979)).upd 6 (.whole 0)).upd 7 (.lit (.int .i64 x2216))).upd 8 (.lit (.int .i64 x2654))).upd 9 (.lit (.int .i64 x2655))).upd 10 (.lit (.int .i64 x2778))).upd 11 (.lit (.int .i64 x2779))) ∧ M = (Mem.nil.push (.row 3 (Rd.int .i64) x2217))) ?_ ?_
            · clear H
              have H := H2781
              clear H2781
              refine WP.seq ?_
              refine WP.region ?_
              refine WPL.q (q_mv (v := .lit (.int _ _)) rfl) rfl ?_
              refine WPL.q (q_eql rfl rfl) rfl ?_
              refine WPL.nilW ?_
              refine W.now ?_
              refine Then.n ?_
              refine WP.cond (t := (decide (x2654 = 16))) rfl (fun hb => ?_) (fun hb => ?_)
              · replace H := cnt hb H
                refine WP.seq ?_
                refine WP.region ?_
                refine WPL.q (q_mv (v := .lit (.int _ _)) rfl) rfl ?_
                refine WPL.q (q_add rfl rfl) rfl ?_
                refine WPL.q (q_as (v := .lit (.int _ _)) rfl) rfl ?_
                refine WPL.nilW ?_
                refine W.now ?_
                refine Then.n ?_
                refine WP.region ?_
                refine WPL.q (q_mv (v := .whole _) rfl) rfl ?_
                refine WPL.q (q_mv (v := .whole _) rfl) rfl ?_
                refine WPL.q (q_len_row sl32 rfl rfl) rfl ?_
                obtain ⟨x2780, h2780, H⟩ := bnd H
                refine WPL.q (q_nm (q_sub rfl rfl) (nm_int h2780)) rfl ?_
                obtain ⟨x2781, h2781, H⟩ := bnd H
                refine WPL.q (q_index_row sl32 rfl rfl rfl (ixs h2781)) rfl ?_
                refine WPL.q (q_load_row (j := (Int.toNat x2780)) sc3 rfl rfl (ixj h2781)) rfl ?_
                refine WPL.q (q_as (v := .lit (.int _ _)) rfl) rfl ?_
                refine WPL.nilW ?_
                refine W.cv (Cv.weak (E' := ((((((((Env.none.upd 0 (.ro (Rd.slice (Rd.int .i64)) false x978)).upd 1 (.ro (Rd.slice (Rd.int .i64)) false x979)).upd 6 (.whole 0)).upd 7 (.lit (.int .i64 x2216))).upd 8 (.lit (.int .i64 x2654))).upd 9 (.lit (.int .i64 x2655))).upd 10 (.lit (.int .i64 (IntKind.wrap .i64 (3 + x2655))))).upd 11 (.lit (.int .i64 x2781)))) (M' := (Mem.nil.push (.row 3 (Rd.int .i64) x2217))) [0] hnp ⟨rfl, ⟨trivial, .inr ⟨rfl, rfl, rfl⟩⟩, by decide, rfl, trivial⟩ (LeE.upd rfl rfl (LeE.upd rfl rfl (LeE.upd rfl rfl (LeE.upd rfl rfl (LeE.upd rfl rfl (LeE.upd rfl rfl (LeE.upd rfl rfl (LeE.upd rfl rfl (LeE.none rfl rfl)))))))))) rfl ?_
                refine W.now ?_
                have q0 := (Prod.mk.inj (Option.some.inj H)).1
                have q1 := (Prod.mk.inj (Option.some.inj H)).2
                subst q0
                subst q1
                exact ⟨rfl, rfl, rfl⟩
              · replace H := cnf hb H
                refine WP.skipW ?_
                refine W.cv (Cv.weak (E' := ((((((((Env.none.upd 0 (.ro (Rd.slice (Rd.int .i64)) false x978)).upd 1 (.ro (Rd.slice (Rd.int .i64)) false x979)).upd 6 (.whole 0)).upd 7 (.lit (.int .i64 x2216))).upd 8 (.lit (.int .i64 x2654))).upd 9 (.lit (.int .i64 x2655))).upd 10 (.lit (.int .i64 1))).upd 11 (.lit (.int .i64 x2654)))) (M' := (Mem.nil.push (.row 3 (Rd.int .i64) x2217))) [0] hnp ⟨rfl, ⟨trivial, .inr ⟨rfl, rfl, rfl⟩⟩, by decide, rfl, trivial⟩ (LeE.upd rfl rfl (LeE.upd rfl rfl (LeE.upd rfl rfl (LeE.upd rfl rfl (LeE.upd rfl rfl (LeE.upd rfl rfl (LeE.upd rfl rfl (LeE.upd rfl rfl (LeE.none rfl rfl)))))))))) rfl ?_
                refine W.now ?_
                have q0 := (Prod.mk.inj (Option.some.inj H)).1
                have q1 := (Prod.mk.inj (Option.some.inj H)).2
                subst q0
                subst q1
                exact ⟨rfl, rfl, rfl⟩
            · rintro _ _ _ ⟨rfl, rfl, rfl⟩
              refine W.now ?_
              refine Then.n ?_
              refine WP.seq ?_
              obtain ⟨⟨x2783, x2784⟩, H2784, H⟩ := bnd H
              refine WP.monoW (Q := fun x E M => x = .normal ∧ E = ((((((((Env.none.upd 0 (.ro (Rd.slice (Rd.int .i64)) false x978)).upd 1 (.ro (Rd.slice (Rd.int .i64)) false x979)).upd 6 (.whole 0)).upd 7 (.lit (.int .i64 x2216))).upd 8 (.lit (.int .i64 x2654))).upd 9 (.lit (.int .i64 x2655))).upd 10 (.lit (.int .i64 x2783))).upd 11 (.lit (.int .i64 x2784))) ∧ M = (Mem.nil.push (.row 3 (Rd.int .i64) x2217))) ?_ ?_
              · clear H
                have H := H2784
                clear H2784
                refine WP.seq ?_
                refine WP.region ?_
                refine WPL.q (q_mv (v := .lit (.int _ _)) rfl) rfl ?_
                refine WPL.q (q_eql rfl rfl) rfl ?_
                refine WPL.nilW ?_
                refine W.now ?_
                refine Then.n ?_
                refine WP.cond (t := (decide (x2654 = 17))) rfl (fun hb => ?_) (fun hb => ?_)
                · replace H := cnt hb H
                  refine WP.seq ?_
                  refine WP.region ?_
                  refine WPL.q (q_mv (v := .lit (.int _ _)) rfl) rfl ?_
                  refine WPL.q (q_add rfl rfl) rfl ?_
                  refine WPL.q (q_as (v := .lit (.int _ _)) rfl) rfl ?_
                  refine WPL.nilW ?_
                  refine W.now ?_
                  refine Then.n ?_
                  refine WP.region ?_
                  refine WPL.q (q_as (v := .lit (.int _ _)) rfl) rfl ?_
                  refine WPL.nilW ?_
                  refine W.cv (Cv.weak (E' := ((((((((Env.none.upd 0 (.ro (Rd.slice (Rd.int .i64)) false x978)).upd 1 (.ro (Rd.slice (Rd.int .i64)) false x979)).upd 6 (.whole 0)).upd 7 (.lit (.int .i64 x2216))).upd 8 (.lit (.int .i64 x2654))).upd 9 (.lit (.int .i64 x2655))).upd 10 (.lit (.int .i64 (IntKind.wrap .i64 (3 + x2655))))).upd 11 (.lit (.int .i64 0)))) (M' := (Mem.nil.push (.row 3 (Rd.int .i64) x2217))) [0] hnp ⟨rfl, ⟨trivial, .inr ⟨rfl, rfl, rfl⟩⟩, by decide, rfl, trivial⟩ (LeE.upd rfl rfl (LeE.upd rfl rfl (LeE.upd rfl rfl (LeE.upd rfl rfl (LeE.upd rfl rfl (LeE.upd rfl rfl (LeE.upd rfl rfl (LeE.upd rfl rfl (LeE.none rfl rfl)))))))))) rfl ?_
                  refine W.now ?_
                  have q0 := (Prod.mk.inj (Option.some.inj H)).1
                  have q1 := (Prod.mk.inj (Option.some.inj H)).2
                  subst q0
                  subst q1
                  exact ⟨rfl, rfl, rfl⟩
                · replace H := cnf hb H
                  refine WP.skipW ?_
                  refine W.cv (Cv.weak (E' := ((((((((Env.none.upd 0 (.ro (Rd.slice (Rd.int .i64)) false x978)).upd 1 (.ro (Rd.slice (Rd.int .i64)) false x979)).upd 6 (.whole 0)).upd 7 (.lit (.int .i64 x2216))).upd 8 (.lit (.int .i64 x2654))).upd 9 (.lit (.int .i64 x2655))).upd 10 (.lit (.int .i64 x2778))).upd 11 (.lit (.int .i64 x2779)))) (M' := (Mem.nil.push (.row 3 (Rd.int .i64) x2217))) [0] hnp ⟨rfl, ⟨trivial, .inr ⟨rfl, rfl, rfl⟩⟩, by decide, rfl, trivial⟩ (LeE.upd rfl rfl (LeE.upd rfl rfl (LeE.upd rfl rfl (LeE.upd rfl rfl (LeE.upd rfl rfl (LeE.upd rfl rfl (LeE.upd rfl rfl (LeE.upd rfl rfl (LeE.none rfl rfl)))))))))) rfl ?_
                  refine W.now ?_
                  have q0 := (Prod.mk.inj (Option.some.inj H)).1
                  have q1 := (Prod.mk.inj (Option.some.inj H)).2
                  subst q0
                  subst q1
                  exact ⟨rfl, rfl, rfl⟩
              · rintro _ _ _ ⟨rfl, rfl, rfl⟩
                refine W.now ?_
                refine Then.n ?_
                refine WP.seq ?_
                obtain ⟨⟨x2786, x2787⟩, H2787, H⟩ := bnd H
                refine WP.monoW (Q := fun x E M => x = .normal ∧ E = ((((((Env.none.upd 0 (.ro (Rd.slice (Rd.int .i64)) false x978)).upd 1 (.ro (Rd.slice (Rd.int .i64)) false x979)).upd 6 (.whole 0)).upd 7 (.lit (.int .i64 x2216))).upd 10 (.lit (.int .i64 x2786))).upd 11 (.lit (.int .i64 x2787))) ∧ M = (Mem.nil.push (.row 3 (Rd.int .i64) x2217))) ?_ ?_
                · clear H
                  have H := H2787
                  clear H2787
                  refine WP.seq ?_
                  refine WP.region ?_
                  refine WPL.q (q_mv (v := .lit (.int _ _)) rfl) rfl ?_
                  refine WPL.q (q_eql rfl rfl) rfl ?_
                  refine WPL.nilW ?_
                  refine W.now ?_
                  refine Then.n ?_
                  refine WP.cond (t := (decide (x2654 = 18))) rfl (fun hb => ?_) (fun hb => ?_)
                  · replace H := cnt hb H
                    refine WP.seq ?_
                    refine WP.region ?_
                    refine WPL.q (q_mv (v := .lit (.int _ _)) rfl) rfl ?_
                    refine WPL.q (q_add rfl rfl) rfl ?_
                    refine WPL.q (q_as (v := .lit (.int _ _)) rfl) rfl ?_
                    refine WPL.nilW ?_
                    refine W.now ?_
                    refine Then.n ?_
                    refine WP.region ?_
                    refine WPL.q (q_as (v := .lit (.int _ _)) rfl) rfl ?_
                    refine WPL.nilW ?_
                    refine W.cv (Cv.weak (E' := ((((((Env.none.upd 0 (.ro (Rd.slice (Rd.int .i64)) false x978)).upd 1 (.ro (Rd.slice (Rd.int .i64)) false x979)).upd 6 (.whole 0)).upd 7 (.lit (.int .i64 x2216))).upd 10 (.lit (.int .i64 (IntKind.wrap .i64 (11 + x2655))))).upd 11 (.lit (.int .i64 0)))) (M' := (Mem.nil.push (.row 3 (Rd.int .i64) x2217))) [0] hnp ⟨rfl, ⟨trivial, .inr ⟨rfl, rfl, rfl⟩⟩, by decide, rfl, trivial⟩ (LeE.upd rfl rfl (LeE.upd rfl rfl (LeE.upd rfl rfl (LeE.upd rfl rfl (LeE.upd rfl rfl (LeE.upd rfl rfl (LeE.none rfl rfl)))))))) rfl ?_
                    refine W.now ?_
                    have q0 := (Prod.mk.inj (Option.some.inj H)).1
                    have q1 := (Prod.mk.inj (Option.some.inj H)).2
                    subst q0
                    subst q1
                    exact ⟨rfl, rfl, rfl⟩
                  · replace H := cnf hb H
                    refine WP.skipW ?_
                    refine W.cv (Cv.weak (E' := ((((((Env.none.upd 0 (.ro (Rd.slice (Rd.int .i64)) false x978)).upd 1 (.ro (Rd.slice (Rd.int .i64)) false x979)).upd 6 (.whole 0)).upd 7 (.lit (.int .i64 x2216))).upd 10 (.lit (.int .i64 x2783))).upd 11 (.lit (.int .i64 x2784)))) (M' := (Mem.nil.push (.row 3 (Rd.int .i64) x2217))) [0] hnp ⟨rfl, ⟨trivial, .inr ⟨rfl, rfl, rfl⟩⟩, by decide, rfl, trivial⟩ (LeE.upd rfl rfl (LeE.upd rfl rfl (LeE.upd rfl rfl (LeE.upd rfl rfl (LeE.upd rfl rfl (LeE.upd rfl rfl (LeE.none rfl rfl)))))))) rfl ?_
                    refine W.now ?_
                    have q0 := (Prod.mk.inj (Option.some.inj H)).1
                    have q1 := (Prod.mk.inj (Option.some.inj H)).2
                    subst q0
                    subst q1
                    exact ⟨rfl, rfl, rfl⟩
                · rintro _ _ _ ⟨rfl, rfl, rfl⟩
                  refine W.now ?_
                  refine Then.n ?_
                  refine WP.seq ?_
                  refine WP.region ?_
                  refine WPL.q (q_as (v := .lit (.int _ _)) rfl) rfl ?_
                  refine WPL.nilW ?_
                  refine W.now ?_
                  refine Then.n ?_
                  refine WP.block ?_
                  refine WP.cv (Cv.weak (E' := (((((((Env.none.upd 0 (.ro (Rd.slice (Rd.int .i64)) false x978)).upd 1 (.ro (Rd.slice (Rd.int .i64)) false x979)).upd 6 (.whole 0)).upd 7 (.lit (.int .i64 x2216))).upd 10 (.lit (.int .i64 x2786))).upd 11 (.lit (.int .i64 x2787))).upd 12 (.lit (.int .i64 0)))) (M' := (Mem.nil.push (.row 3 (Rd.int .i64) x2217))) [0] hnp ⟨rfl, ⟨trivial, .inr ⟨rfl, rfl, rfl⟩⟩, by decide, rfl, trivial⟩ (LeE.upd rfl rfl (LeE.upd rfl rfl (LeE.upd rfl rfl (LeE.upd rfl rfl (LeE.upd rfl rfl (LeE.upd rfl rfl (LeE.upd rfl rfl (LeE.none rfl rfl))))))))) ?_
                  obtain ⟨x2793, H2794, H⟩ := bnd H
                  refine WP.monoW (Q := fun x E M => x = .exit 2 ∧ E = ((((Env.none.upd 0 (.ro (Rd.slice (Rd.int .i64)) false x978)).upd 1 (.ro (Rd.slice (Rd.int .i64)) false x979)).upd 6 (.whole 0)).upd 7 (.lit (.int .i64 x2216))) ∧ M = (Mem.nil.push (.row 3 (Rd.int .i64) x2793))) ?_ ?_
                  · refine WP.loop (β := Int × (List Int)) (fun n b => g_quireref04_Row_l1 k x2786 x2787 n b.1 b.2 = some x2793) (fun b => (((((((Env.none.upd 0 (.ro (Rd.slice (Rd.int .i64)) false x978)).upd 1 (.ro (Rd.slice (Rd.int .i64)) false x979)).upd 6 (.whole 0)).upd 7 (.lit (.int .i64 x2216))).upd 10 (.lit (.int .i64 x2786))).upd 11 (.lit (.int .i64 x2787))).upd 12 (.lit (.int .i64 b.1)))) (fun b => (Mem.nil.push (.row 3 (Rd.int .i64) b.2))) k (0, x2217) H2794 rfl rfl ?_
                    rintro n ⟨x2790, x2791⟩ H
                    obtain _ | n := n
                    · exact nf rfl H
                    rw [g_quireref04_Row_l1.eq_2] at H
                    show WP _ _ _ _ (((((((Env.none.upd 0 (.ro (Rd.slice (Rd.int .i64)) false x978)).upd 1 (.ro (Rd.slice (Rd.int .i64)) false x979)).upd 6 (.whole 0)).upd 7 (.lit (.int .i64 x2216))).upd 10 (.lit (.int .i64 x2786))).upd 11 (.lit (.int .i64 x2787))).upd 12 (.lit (.int .i64 x2790))) (Mem.nil.push (.row 3 (Rd.int .i64) x2791)) _
                    refine WP.seq ?_
                    refine WP.seq ?_
                    refine WP.region ?_
                    refine WPL.q (q_mv (v := .lit (.int _ _)) rfl) rfl ?_
                    refine WPL.q (q_mv (v := .lit (.int _ _)) rfl) rfl ?_
                    refine WPL.q (q_lss rfl rfl) rfl ?_
                    refine WPL.nilW ?_
                    refine W.now ?_
                    refine Then.n ?_
                    refine WP.cond (t := (decide (x2790 < x2786))) rfl (fun hb => ?_) (fun hb => ?_)
                    · replace H := cnt hb H
                      refine WP.skipW ?_
                      refine W.now ?_
                      refine Then.n ?_
                      refine WP.seq ?_
                      refine WP.block ?_
                      refine WP.region ?_
                      refine WPL.q (q_mv (v := .whole _) rfl) rfl ?_
                      refine WPL.q (q_mv (v := .lit (.int _ _)) rfl) rfl ?_
                      refine WPL.d (d_buildSlice (ds := ([x2787] : List Int)) (R := (Rd.int .i64)) li32 rfl rfl rfl rfl rfl (JoinRows.cons1 Joins.sc rfl JoinRows.nil) rfl rfl) rfl ?_
                      obtain ⟨h2793, H⟩ := grd H
                      refine WPL.d (d_append ap32 rfl rfl rfl rfl (src_row sl32 rfl rfl) h2793 rfl) rfl ?_
                      refine WPL.q (q_as (v := .whole _) rfl) rfl ?_
                      refine WPL.nilW ?_
                      refine W.now ?_
                      refine InBlock.n ?_
                      refine Then.n ?_
                      refine WP.region ?_
                      refine WPL.q (q_mv (v := .lit (.int _ _)) rfl) rfl ?_
                      refine WPL.q (q_add rfl rfl) rfl ?_
                      refine WPL.q (q_as (v := .lit (.int _ _)) rfl) rfl ?_
                      refine WPL.nilW ?_
                      refine W.cv (Cv.weak (E' := (((((((Env.none.upd 0 (.ro (Rd.slice (Rd.int .i64)) false x978)).upd 1 (.ro (Rd.slice (Rd.int .i64)) false x979)).upd 6 (.whole 0)).upd 7 (.lit (.int .i64 x2216))).upd 10 (.lit (.int .i64 x2786))).upd 11 (.lit (.int .i64 x2787))).upd 12 (.lit (.int .i64 (IntKind.wrap .i64 (x2790 + 1)))))) (M' := (Mem.nil.push (.row 3 (Rd.int .i64) (x2791 ++ ([x2787] : List Int))))) [2] hnp ⟨rfl, ⟨trivial, .inr ⟨rfl, rfl, rfl⟩⟩, by decide, rfl, trivial⟩ (LeE.upd rfl rfl (LeE.upd rfl rfl (LeE.upd rfl rfl (LeE.upd rfl rfl (LeE.upd rfl rfl (LeE.upd rfl rfl (LeE.upd rfl rfl (LeE.none rfl rfl))))))))) rfl ?_
                      refine W.now ?_
                      exact Then.n ⟨n, ((IntKind.wrap .i64 (x2790 + 1)), (x2791 ++ ([x2787] : List Int))), Nat.lt_succ_self n, H, rfl, rfl⟩
                    · replace H := cnf hb H
                      refine WP.exitW ?_
                      refine W.cv (Cv.weak (E' := ((((Env.none.upd 0 (.ro (Rd.slice (Rd.int .i64)) false x978)).upd 1 (.ro (Rd.slice (Rd.int .i64)) false x979)).upd 6 (.whole 0)).upd 7 (.lit (.int .i64 x2216)))) (M' := (Mem.nil.push (.row 3 (Rd.int .i64) x2791))) [0] hnp ⟨rfl, ⟨trivial, .inr ⟨rfl, rfl, rfl⟩⟩, by decide, rfl, trivial⟩ (LeE.upd rfl rfl (LeE.upd rfl rfl (LeE.upd rfl rfl (LeE.upd rfl rfl (LeE.none rfl rfl)))))) rfl ?_
                      refine W.now ?_
                      refine Then.x ?_
                      refine Then.x ?_
                      have q0 := (Option.some.inj H)
                      subst q0
                      exact ⟨rfl, rfl, rfl⟩
                  · rintro _ _ _ ⟨rfl, rfl, rfl⟩
                    refine W.now ?_
                    refine InBlock.x0 ?_
                    refine InBlock.n ?_
                    refine Then.n ?_
                    refine WP.region ?_
                    refine WPL.q (q_mv (v := .lit (.int _ _)) rfl) rfl ?_
                    refine WPL.q (q_add rfl rfl) rfl ?_
                    refine WPL.q (q_as (v := .lit (.int _ _)) rfl) rfl ?_
                    refine WPL.nilW ?_
                    refine W.cv (Cv.weak (E' := ((((Env.none.upd 0 (.ro (Rd.slice (Rd.int .i64)) false x978)).upd 1 (.ro (Rd.slice (Rd.int .i64)) false x979)).upd 6 (.whole 0)).upd 7 (.lit (.int .i64 (IntKind.wrap .i64 (x2216 + 1)))))) (M' := (Mem.nil.push (.row 3 (Rd.int .i64) x2793))) [0] hnp ⟨rfl, ⟨trivial, .inr ⟨rfl, rfl, rfl⟩⟩, by decide, rfl, trivial⟩ (LeE.upd rfl rfl (LeE.upd rfl rfl (LeE.upd rfl rfl (LeE.upd rfl rfl (LeE.none rfl rfl)))))) rfl ?_
                    refine W.now ?_
                    exact Then.n ⟨n, ((IntKind.wrap .i64 (x2216 + 1)), x2793), Nat.lt_succ_self n, H, rfl, rfl⟩
      · replace H := cnf hb H
        refine WP.exitW ?_
        refine W.cv (Cv.weak (E' := (Env.none.upd 6 (.whole 0))) (M' := (Mem.nil.push (.row 3 (Rd.int .i64) x2217))) [0] hnp ⟨rfl, ⟨trivial, .inr ⟨rfl, rfl, rfl⟩⟩, by decide, rfl, trivial⟩ (LeE.upd rfl rfl (LeE.none rfl rfl))) rfl ?_
        refine W.now ?_
        refine Then.x ?_
        refine Then.x ?_
        have q0 := Option.some.inj H
        subst q0
        exact ⟨rfl, rfl, rfl⟩
    · rcases y2797 with _ | x2506
      · rintro _ _ _ ⟨rfl, rfl, rfl⟩
        refine W.cv (Cv.nilRo (Rd.int .i64) false 4 rfl) rfl ?_
        refine W.now ?_
        refine InBlock.r ?_
        refine Then.r ?_
        have q0 := (Prod.mk.inj (Option.some.inj H)).1
        have q1 := (Prod.mk.inj (Option.some.inj H)).2
        subst q0
        subst q1
        exact ⟨trivial, _, rfl, [], (.tup [.ro (Rd.slice (Rd.int .i64)) false ([] : List Int), .lit (.bool false)]), Mem.nil, ⟨rfl, trivial, by decide, rfl, trivial⟩, rfl, rfl, rfl, rfl⟩
      · rintro _ _ _ ⟨rfl, rfl, rfl⟩
        refine W.now ?_
        refine InBlock.x0 ?_
        refine Then.n ?_
        refine WP.seq ?_
        refine WP.region ?_
        refine WPL.q (q_mv (v := .whole _) rfl) rfl ?_
        refine WPL.q (q_as (v := .whole _) rfl) rfl ?_
        refine WPL.q (q_as (v := .lit (.bool _)) rfl) rfl ?_
        refine WPL.nilW ?_
        refine W.now ?_
        refine Then.n ?_
        refine WP.retW ?_
        refine W.cv (Cv.frzRow (i := 0) rfl rfl hnp rfl rfl) rfl ?_
        refine W.now ?_
        have q0 := (Prod.mk.inj (Option.some.inj H)).1
        have q1 := (Prod.mk.inj (Option.some.inj H)).2
        subst q0
        subst q1
        exact ⟨trivial, _, rfl, [], (.tup [.ro (Rd.slice (Rd.int .i64)) false x2506, .lit (.bool true)]), Mem.nil, ⟨rfl, trivial, by decide, rfl, trivial⟩, rfl, rfl, rfl, rfl⟩
end Go.Proofs.Ytbknkbenbccabaa.W
