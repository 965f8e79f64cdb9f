/- Walks: Fc0 -/
import Derived.Test.YthgbompoldmhmabFb
namespace Go.Proofs.Ythgbompoldmhmab.W
open Go Go.Q Go.Proofs
set_option linter.unusedVariables false
set_option linter.unusedSimpArgs false
set_option maxRecDepth 100000 in
set_option maxHeartbeats 4000000 in
theorem s_huff_judged (k : Nat) (x8 : (List Int)) (x81 : Bool) (x82 : Int) (H : g_huff_judged k x8 = some (x81, x82)) : Go.Q.Spec Try.prog 14 0 [.ro (Rd.slice (Rd.int .i64)) false x8] Mem.nil (fun o M => o = .ret (.tup [.lit (.bool x81), .lit (.int .i64 x82)]) ∧ M = Mem.nil) := by
  unfold g_huff_judged at H
  refine Go.Q.Spec.of_bodyR (rs := [.tmp 2, .tmp 3]) (nt := 45) Try.func14 rfl rfl (by intro t T h; simp at h) rfl rfl fun cx hnp => ?_
  refine WP.seq ?_
  refine WP.region ?_
  refine WPL.q (q_as (v := .lit (.bool _)) rfl) rfl ?_
  refine WPL.q (q_as (v := .lit (.int _ _)) rfl) rfl ?_
  refine WPL.nilW ?_
  refine W.now ?_
  refine Then.n ?_
  refine WP.seq ?_
  refine WP.seq ?_
  refine WP.region ?_
  refine WPL.q (q_mv (v := .ro _ _ _) rfl) rfl ?_
  refine WPL.q (q_len_ro sl22 rfl) rfl ?_
  obtain ⟨x84, h84, H⟩ := bnd H
  refine WPL.q (q_nm (q_gtr rfl rfl) (nm_bool h84)) rfl ?_
  refine WPL.nilW ?_
  refine W.now ?_
  refine Then.n ?_
  refine WP.cond (t := x84) rfl (fun hb => ?_) (fun hb => ?_)
  · replace H := cnt hb H
    refine WP.seq ?_
    refine WP.region ?_
    refine WPL.q (q_as (v := .lit (.bool _)) rfl) rfl ?_
    refine WPL.q (q_as (v := .lit (.int _ _)) rfl) rfl ?_
    refine WPL.nilW ?_
    refine W.now ?_
    refine Then.n ?_
    refine WP.retW ?_
    refine W.now ?_
    refine Then.r ?_
    have q0 := (Prod.mk.inj (Option.some.inj H)).1
    have q1 := (Prod.mk.inj (Option.some.inj H)).2
    subst q0
    subst q1
    exact ⟨trivial, _, rfl, [], (.tup [.lit (.bool false), .lit (.int .i64 1)]), Mem.nil, ⟨rfl, trivial, by decide, rfl, trivial⟩, rfl, rfl, rfl, rfl⟩
  · replace H := cnf hb H
    refine WP.skipW ?_
    refine W.now ?_
    refine Then.n ?_
    refine WP.seq ?_
    refine WP.region ?_
    refine WPL.q (q_as (v := .lit (.int _ _)) rfl) rfl ?_
    refine WPL.q (q_as (v := .lit (.int _ _)) rfl) rfl ?_
    refine WPL.nilW ?_
    refine W.now ?_
    refine Then.n ?_
    refine WP.seq ?_
    refine WP.seq ?_
    refine WP.region ?_
    refine WPL.q (q_mv (v := .ro _ _ _) rfl) rfl ?_
    refine WPL.q (q_len_ro sl22 rfl) rfl ?_
    refine WPL.q (q_mv (v := .lit (.int _ _)) rfl) rfl ?_
    refine WPL.nilW ?_
    refine W.now ?_
    refine Then.n ?_
    refine WP.block ?_
    refine WP.cv (Cv.weak (E' := (((((Env.none.upd 4 (.lit (.int .i64 32768))).upd 5 (.lit (.int .i64 0))).upd 11 (.ro (Rd.slice (Rd.int .i64)) false x8)).upd 12 (.lit (.int .i64 ((List.length x8 : Nat) : Int)))).upd 13 (.lit (.int .i64 0)))) (M' := Mem.nil) [] hnp ⟨rfl, trivial, by decide, rfl, trivial⟩ (LeE.upd rfl rfl (LeE.upd rfl rfl (LeE.upd rfl rfl (LeE.upd rfl rfl (LeE.upd rfl rfl (LeE.none rfl rfl))))))) ?_
    obtain ⟨y172, H170, H⟩ := bnd H
    refine WP.monoW (Q := fun x E M => match (generalizing := false) y172 with | (Sum.inl _) => x = .ret ∧ E = ((Env.none.upd 2 (.lit (.bool false))).upd 3 (.lit (.int .i64 1))) ∧ M = Mem.nil | (Sum.inr (x142, x143)) => x = .exit 0 ∧ E = ((Env.none.upd 4 (.lit (.int .i64 x142))).upd 5 (.lit (.int .i64 x143))) ∧ M = Mem.nil) ?_ ?_
    · refine WP.loop (β := Int × Int × Int) (fun n b => g_huff_judged_l0 k x8 n b.1 b.2.1 b.2.2 = some y172) (fun b => (((((Env.none.upd 4 (.lit (.int .i64 b.1))).upd 5 (.lit (.int .i64 b.2.1))).upd 11 (.ro (Rd.slice (Rd.int .i64)) false x8)).upd 12 (.lit (.int .i64 ((List.length x8 : Nat) : Int)))).upd 13 (.lit (.int .i64 b.2.2)))) (fun b => Mem.nil) k (32768, 0, 0) H170 rfl rfl ?_
      rintro n ⟨x112, x113, x114⟩ H
      obtain _ | n := n
      · exact nf rfl H
      rw [g_huff_judged_l0.eq_2] at H
      show WP _ _ _ _ (((((Env.none.upd 4 (.lit (.int .i64 x112))).upd 5 (.lit (.int .i64 x113))).upd 11 (.ro (Rd.slice (Rd.int .i64)) false x8)).upd 12 (.lit (.int .i64 ((List.length x8 : Nat) : Int)))).upd 13 (.lit (.int .i64 x114))) Mem.nil _
      refine WP.seq ?_
      refine WP.region ?_
      obtain ⟨x144, h144, H⟩ := bnd H
      refine WPL.q (q_nm (q_lss rfl rfl) (nm_bool h144)) rfl ?_
      refine WPL.nilW ?_
      refine W.now ?_
      refine Then.n ?_
      refine WP.seq ?_
      refine WP.cond (t := x144) rfl (fun hb => ?_) (fun hb => ?_)
      · replace H := cnt hb H
        refine WP.skipW ?_
        refine W.now ?_
        refine Then.n ?_
        refine WP.seq ?_
        obtain ⟨y170, H168, H⟩ := bnd H
        refine WP.monoW (Q := fun x E M => match (generalizing := false) y170 with | (Sum.inl _) => x = .ret ∧ E = ((Env.none.upd 2 (.lit (.bool false))).upd 3 (.lit (.int .i64 1))) ∧ M = Mem.nil | (Sum.inr (x156, x157)) => x = .normal ∧ E = (((((Env.none.upd 4 (.lit (.int .i64 x156))).upd 5 (.lit (.int .i64 x157))).upd 11 (.ro (Rd.slice (Rd.int .i64)) false x8)).upd 12 (.lit (.int .i64 ((List.length x8 : Nat) : Int)))).upd 13 (.lit (.int .i64 x114))) ∧ M = Mem.nil) ?_ ?_
        · clear H
          have H := H168
          clear H168
          refine WP.block ?_
          refine WP.seq ?_
          refine WP.region ?_
          obtain ⟨x158, h158, H⟩ := bnd H
          refine WPL.q (q_index_ro sl22 rfl rfl rfl h158) rfl ?_
          refine WPL.q (q_load_sc sc3 rfl) rfl ?_
          refine WPL.q (q_as (v := .lit (.int _ _)) rfl) rfl ?_
          refine WPL.nilW ?_
          refine W.now ?_
          refine Then.n ?_
          refine WP.seq ?_
          refine WP.seq ?_
          obtain ⟨x164, H165, H⟩ := bnd H
          refine WP.monoW (Q := fun x E M => x = .normal ∧ E = (((((((Env.none.upd 4 (.lit (.int .i64 x112))).upd 5 (.lit (.int .i64 x113))).upd 7 (.lit (.int .i64 x158))).upd 11 (.ro (Rd.slice (Rd.int .i64)) false x8)).upd 12 (.lit (.int .i64 ((List.length x8 : Nat) : Int)))).upd 13 (.lit (.int .i64 x114))).upd 22 (.lit (.bool x164))) ∧ M = Mem.nil) ?_ ?_
          · clear H
            have H := H165
            clear H165
            refine WP.region ?_
            refine WPL.q (q_mv (v := .lit (.int _ _)) rfl) rfl ?_
            refine WPL.q (q_lss rfl rfl) rfl ?_
            refine WPL.q (q_mv (v := .lit (.bool _)) rfl) rfl ?_
            refine WPL.split (t := 19) (b := (decide (x158 < 0))) rfl (fun hb164 => ?_) (fun hb164 => ?_)
            · replace H := cnt hb164 H
              refine WPL.skipg (b' := true) rfl rfl (lb hb164) rfl rfl ?_
              refine WPL.skipg (b' := true) rfl rfl (lb hb164) rfl rfl ?_
              refine WPL.q (q_pickT (v := .lit (.bool _)) (lb hb164) rfl) rfl ?_
              refine WPL.nilW ?_
              refine W.cv (Cv.weak (E' := (((((((Env.none.upd 4 (.lit (.int .i64 x112))).upd 5 (.lit (.int .i64 x113))).upd 7 (.lit (.int .i64 x158))).upd 11 (.ro (Rd.slice (Rd.int .i64)) false x8)).upd 12 (.lit (.int .i64 ((List.length x8 : Nat) : Int)))).upd 13 (.lit (.int .i64 x114))).upd 22 (.lit (.bool true)))) (M' := Mem.nil) [] hnp ⟨rfl, trivial, by decide, rfl, trivial⟩ (LeE.upd rfl rfl (LeE.upd rfl rfl (LeE.upd rfl rfl (LeE.upd rfl rfl (LeE.upd rfl rfl (LeE.upd rfl rfl (LeE.upd rfl rfl (LeE.none rfl rfl))))))))) rfl ?_
              refine W.now ?_
              have q0 := (Option.some.inj H)
              subst q0
              exact ⟨rfl, rfl, rfl⟩
            · replace H := cnf hb164 H
              refine WPL.qg rfl rfl (lb hb164) (q_mv (v := .lit (.int _ _)) rfl) rfl ?_
              refine WPL.qg rfl rfl (lb hb164) (q_gtr rfl rfl) rfl ?_
              refine WPL.q (q_pickF (v := .lit (.bool _)) (lb hb164) rfl) rfl ?_
              refine WPL.nilW ?_
              refine W.cv (Cv.weak (E' := (((((((Env.none.upd 4 (.lit (.int .i64 x112))).upd 5 (.lit (.int .i64 x113))).upd 7 (.lit (.int .i64 x158))).upd 11 (.ro (Rd.slice (Rd.int .i64)) false x8)).upd 12 (.lit (.int .i64 ((List.length x8 : Nat) : Int)))).upd 13 (.lit (.int .i64 x114))).upd 22 (.lit (.bool (decide (15 < x158)))))) (M' := Mem.nil) [] hnp ⟨rfl, trivial, by decide, rfl, trivial⟩ (LeE.upd rfl rfl (LeE.upd rfl rfl (LeE.upd rfl rfl (LeE.upd rfl rfl (LeE.upd rfl rfl (LeE.upd rfl rfl (LeE.upd rfl rfl (LeE.none rfl rfl))))))))) rfl ?_
              refine W.now ?_
              have q0 := (Option.some.inj H)
              subst q0
              exact ⟨rfl, rfl, rfl⟩
          · rintro _ _ _ ⟨rfl, rfl, rfl⟩
            refine W.now ?_
            refine Then.n ?_
            refine WP.cond (t := x164) rfl (fun hb => ?_) (fun hb => ?_)
            · replace H := cnt hb H
              refine WP.seq ?_
              refine WP.region ?_
              refine WPL.q (q_as (v := .lit (.bool _)) rfl) rfl ?_
              refine WPL.q (q_as (v := .lit (.int _ _)) rfl) rfl ?_
              refine WPL.nilW ?_
              refine W.now ?_
              refine Then.n ?_
              refine WP.retW ?_
              refine W.cv (Cv.weak (E' := ((Env.none.upd 2 (.lit (.bool false))).upd 3 (.lit (.int .i64 1)))) (M' := Mem.nil) [] hnp ⟨rfl, trivial, by decide, rfl, trivial⟩ (LeE.upd rfl rfl (LeE.upd rfl rfl (LeE.none rfl rfl)))) rfl ?_
              refine W.now ?_
              refine Then.r ?_
              refine InBlock.r ?_
              have q0 := Option.some.inj H
              subst q0
              exact ⟨rfl, rfl, rfl⟩
            · replace H := cnf hb H
              refine WP.skipW ?_
              refine W.now ?_
              refine Then.n ?_
              refine WP.seq ?_
              refine WP.region ?_
              refine WPL.q (q_mv (v := .lit (.int _ _)) rfl) rfl ?_
              refine WPL.q (q_gtr rfl rfl) rfl ?_
              refine WPL.nilW ?_
              refine W.now ?_
              refine Then.n ?_
              refine WP.cond (t := (decide (0 < x158))) rfl (fun hb => ?_) (fun hb => ?_)
              · replace H := cnt hb H
                refine WP.seq ?_
                refine WP.region ?_
                refine WPL.q (q_mv (v := .lit (.int _ _)) rfl) rfl ?_
                refine WPL.q (q_mv (v := .lit (.int _ _)) rfl) rfl ?_
                refine WPL.q (q_sub rfl rfl) rfl ?_
                obtain ⟨h166, H⟩ := grd H
                obtain ⟨x168, h168, H⟩ := bnd H
                refine WPL.q (q_nm (q_shl rfl rfl h166) (nm_int h168)) rfl ?_
                refine WPL.q (q_sub rfl rfl) rfl ?_
                refine WPL.q (q_as (v := .lit (.int _ _)) rfl) rfl ?_
                refine WPL.nilW ?_
                refine W.now ?_
                refine Then.n ?_
                refine WP.region ?_
                refine WPL.q (q_mv (v := .lit (.int _ _)) rfl) rfl ?_
                refine WPL.q (q_add rfl rfl) rfl ?_
                refine WPL.q (q_as (v := .lit (.int _ _)) rfl) rfl ?_
                refine WPL.nilW ?_
                refine W.cv (Cv.weak (E' := (((((Env.none.upd 4 (.lit (.int .i64 (IntKind.wrap .i64 (x112 - x168))))).upd 5 (.lit (.int .i64 (IntKind.wrap .i64 (x113 + 1))))).upd 11 (.ro (Rd.slice (Rd.int .i64)) false x8)).upd 12 (.lit (.int .i64 ((List.length x8 : Nat) : Int)))).upd 13 (.lit (.int .i64 x114)))) (M' := Mem.nil) [] hnp ⟨rfl, trivial, by decide, rfl, trivial⟩ (LeE.upd rfl rfl (LeE.upd rfl rfl (LeE.upd rfl rfl (LeE.upd rfl rfl (LeE.upd rfl rfl (LeE.none rfl rfl))))))) rfl ?_
                refine W.now ?_
                refine InBlock.n ?_
                have q0 := Option.some.inj H
                subst q0
                exact ⟨rfl, rfl, rfl⟩
              · replace H := cnf hb H
                refine WP.skipW ?_
                refine W.cv (Cv.weak (E' := (((((Env.none.upd 4 (.lit (.int .i64 x112))).upd 5 (.lit (.int .i64 x113))).upd 11 (.ro (Rd.slice (Rd.int .i64)) false x8)).upd 12 (.lit (.int .i64 ((List.length x8 : Nat) : Int)))).upd 13 (.lit (.int .i64 x114)))) (M' := Mem.nil) [] hnp ⟨rfl, trivial, by decide, rfl, trivial⟩ (LeE.upd rfl rfl (LeE.upd rfl rfl (LeE.upd rfl rfl (LeE.upd rfl rfl (LeE.upd rfl rfl (LeE.none rfl rfl))))))) rfl ?_
                refine W.now ?_
                refine InBlock.n ?_
                have q0 := Option.some.inj H
                subst q0
                exact ⟨rfl, rfl, rfl⟩
        · rcases y170 with _ | ⟨x156, x157⟩
          · rintro _ _ _ ⟨rfl, rfl, rfl⟩
            refine W.cv (Cv.weak (E' := ((Env.none.upd 2 (.lit (.bool false))).upd 3 (.lit (.int .i64 1)))) (M' := Mem.nil) [] hnp ⟨rfl, trivial, by decide, rfl, trivial⟩ (LeE.upd rfl rfl (LeE.upd rfl rfl (LeE.none rfl rfl)))) rfl ?_
            refine W.now ?_
            refine Then.r ?_
            refine Then.r ?_
            have q0 := Option.some.inj H
            subst q0
            exact ⟨rfl, rfl, rfl⟩
          · rintro _ _ _ ⟨rfl, rfl, rfl⟩
            refine W.now ?_
            refine Then.n ?_
            refine WP.region ?_
            refine WPL.q (q_add rfl rfl) rfl ?_
            refine WPL.q (q_mv (v := .lit (.int _ _)) rfl) rfl ?_
            refine WPL.nilW ?_
            refine W.cv (Cv.weak (E' := (((((Env.none.upd 4 (.lit (.int .i64 x156))).upd 5 (.lit (.int .i64 x157))).upd 11 (.ro (Rd.slice (Rd.int .i64)) false x8)).upd 12 (.lit (.int .i64 ((List.length x8 : Nat) : Int)))).upd 13 (.lit (.int .i64 (IntKind.wrap .i64 (x114 + 1)))))) (M' := Mem.nil) [] hnp ⟨rfl, trivial, by decide, rfl, trivial⟩ (LeE.upd rfl rfl (LeE.upd rfl rfl (LeE.upd rfl rfl (LeE.upd rfl rfl (LeE.upd rfl rfl (LeE.none rfl rfl))))))) rfl ?_
            refine W.now ?_
            exact Then.n ⟨n, (x156, x157, (IntKind.wrap .i64 (x114 + 1))), Nat.lt_succ_self n, H, rfl, rfl⟩
      · replace H := cnf hb H
        refine WP.exitW ?_
        refine W.cv (Cv.weak (E' := ((Env.none.upd 4 (.lit (.int .i64 x112))).upd 5 (.lit (.int .i64 x113)))) (M' := Mem.nil) [] hnp ⟨rfl, trivial, by decide, rfl, trivial⟩ (LeE.upd rfl rfl (LeE.upd rfl rfl (LeE.none rfl rfl)))) rfl ?_
        refine W.now ?_
        refine Then.x ?_
        refine Then.x ?_
        have q0 := Option.some.inj H
        subst q0
        exact ⟨rfl, rfl, rfl⟩
    · rcases y172 with _ | ⟨x142, x143⟩
      · rintro _ _ _ ⟨rfl, rfl, rfl⟩
        refine W.now ?_
        refine InBlock.r ?_
        refine Then.r ?_
        have q0 := (Prod.mk.inj (Option.some.inj H)).1
        have q1 := (Prod.mk.inj (Option.some.inj H)).2
        subst q0
        subst q1
        exact ⟨trivial, _, rfl, [], (.tup [.lit (.bool false), .lit (.int .i64 1)]), Mem.nil, ⟨rfl, trivial, by decide, rfl, trivial⟩, rfl, rfl, rfl, rfl⟩
      · rintro _ _ _ ⟨rfl, rfl, rfl⟩
        refine W.now ?_
        refine InBlock.x0 ?_
        refine Then.n ?_
        refine WP.seq ?_
        refine WP.block ?_
        refine WP.seq ?_
        refine WP.region ?_
        refine WPL.q (q_mv (v := .lit (.int _ _)) rfl) rfl ?_
        refine WPL.q (q_eql rfl rfl) rfl ?_
        refine WPL.q (q_as (v := .lit (.bool _)) rfl) rfl ?_
        refine WPL.nilW ?_
        refine W.now ?_
        refine Then.n ?_
        refine WP.cond (t := (decide (x142 = 0))) rfl (fun hb => ?_) (fun hb => ?_)
        · replace H := cnt hb H
          refine WP.seq ?_
          refine WP.region ?_
          refine WPL.q (q_as (v := .lit (.bool _)) rfl) rfl ?_
          refine WPL.q (q_as (v := .lit (.int _ _)) rfl) rfl ?_
          refine WPL.nilW ?_
          refine W.now ?_
          refine Then.n ?_
          refine WP.retW ?_
          refine W.now ?_
          refine InBlock.r ?_
          refine Then.r ?_
          have q0 := (Prod.mk.inj (Option.some.inj H)).1
          have q1 := (Prod.mk.inj (Option.some.inj H)).2
          subst q0
          subst q1
          exact ⟨trivial, _, rfl, [], (.tup [.lit (.bool true), .lit (.int .i64 0)]), Mem.nil, ⟨rfl, trivial, by decide, rfl, trivial⟩, rfl, rfl, rfl, rfl⟩
        · replace H := cnf hb H
          refine WP.seq ?_
          obtain ⟨x178, H179, H⟩ := bnd H
          refine WP.monoW (Q := fun x E M => x = .normal ∧ E = (Env.none.upd 36 (.lit (.bool x178))) ∧ M = Mem.nil) ?_ ?_
          · clear H
            have H := H179
            clear H179
            refine WP.seq ?_
            refine WP.region ?_
            refine WPL.q (q_mv (v := .lit (.int _ _)) rfl) rfl ?_
            refine WPL.q (q_eql rfl rfl) rfl ?_
            refine WPL.q (q_as (v := .lit (.bool _)) rfl) rfl ?_
            refine WPL.nilW ?_
            refine W.now ?_
            refine Then.n ?_
            refine WP.cond (t := (decide (x143 = 0))) rfl (fun hb => ?_) (fun hb => ?_)
            · replace H := cnt hb H
              refine WP.skipW ?_
              refine W.cv (Cv.weak (E' := (Env.none.upd 36 (.lit (.bool (decide (x143 = 0)))))) (M' := Mem.nil) [] hnp ⟨rfl, trivial, by decide, rfl, trivial⟩ (LeE.upd rfl rfl (LeE.none rfl rfl))) rfl ?_
              refine W.now ?_
              have q0 := (Option.some.inj H)
              subst q0
              exact ⟨rfl, rfl, rfl⟩
            · replace H := cnf hb H
              refine WP.region ?_
              refine WPL.q (q_mv (v := .lit (.int _ _)) rfl) rfl ?_
              refine WPL.q (q_eql rfl rfl) rfl ?_
              refine WPL.q (q_mv (v := .lit (.bool _)) rfl) rfl ?_
              refine WPL.split (t := 41) (b := (decide (x143 = 1))) rfl (fun hb178 => ?_) (fun hb178 => ?_)
              · replace H := cnt hb178 H
                refine WPL.qg rfl rfl (lb hb178) (q_mv (v := .lit (.int _ _)) rfl) rfl ?_
                refine WPL.qg rfl rfl (lb hb178) (q_eql rfl rfl) rfl ?_
                refine WPL.q (q_pickT (v := .lit (.bool _)) (lb hb178) rfl) rfl ?_
                refine WPL.q (q_as (v := .lit (.bool _)) rfl) rfl ?_
                refine WPL.nilW ?_
                refine W.cv (Cv.weak (E' := (Env.none.upd 36 (.lit (.bool (decide (x142 = 16384)))))) (M' := Mem.nil) [] hnp ⟨rfl, trivial, by decide, rfl, trivial⟩ (LeE.upd rfl rfl (LeE.none rfl rfl))) rfl ?_
                refine W.now ?_
                have q0 := (Option.some.inj H)
                subst q0
                exact ⟨rfl, rfl, rfl⟩
              · replace H := cnf hb178 H
                refine WPL.skipg (b' := false) rfl rfl (lb hb178) rfl rfl ?_
                refine WPL.skipg (b' := false) rfl rfl (lb hb178) rfl rfl ?_
                refine WPL.q (q_pickF (v := .lit (.bool _)) (lb hb178) rfl) rfl ?_
                refine WPL.q (q_as (v := .lit (.bool _)) rfl) rfl ?_
                refine WPL.nilW ?_
                refine W.cv (Cv.weak (E' := (Env.none.upd 36 (.lit (.bool false)))) (M' := Mem.nil) [] hnp ⟨rfl, trivial, by decide, rfl, trivial⟩ (LeE.upd rfl rfl (LeE.none rfl rfl))) rfl ?_
                refine W.now ?_
                have q0 := (Option.some.inj H)
                subst q0
                exact ⟨rfl, rfl, rfl⟩
          · rintro _ _ _ ⟨rfl, rfl, rfl⟩
            refine W.now ?_
            refine Then.n ?_
            refine WP.cond (t := x178) rfl (fun hb => ?_) (fun hb => ?_)
            · replace H := cnt hb H
              refine WP.seq ?_
              refine WP.region ?_
              refine WPL.q (q_as (v := .lit (.bool _)) rfl) rfl ?_
              refine WPL.q (q_as (v := .lit (.int _ _)) rfl) rfl ?_
              refine WPL.nilW ?_
              refine W.now ?_
              refine Then.n ?_
              refine WP.retW ?_
              refine W.now ?_
              refine InBlock.r ?_
              refine Then.r ?_
              have q0 := (Prod.mk.inj (Option.some.inj H)).1
              have q1 := (Prod.mk.inj (Option.some.inj H)).2
              subst q0
              subst q1
              exact ⟨trivial, _, rfl, [], (.tup [.lit (.bool false), .lit (.int .i64 0)]), Mem.nil, ⟨rfl, trivial, by decide, rfl, trivial⟩, rfl, rfl, rfl, rfl⟩
            · replace H := cnf hb H
              refine WP.skipW ?_
              refine W.now ?_
              refine InBlock.n ?_
              refine Then.n ?_
              refine WP.seq ?_
              refine WP.region ?_
              refine WPL.q (q_as (v := .lit (.bool _)) rfl) rfl ?_
              refine WPL.q (q_as (v := .lit (.int _ _)) rfl) rfl ?_
              refine WPL.nilW ?_
              refine W.now ?_
              refine Then.n ?_
              refine WP.retW ?_
              refine W.now ?_
              have q0 := (Prod.mk.inj (Option.some.inj H)).1
              have q1 := (Prod.mk.inj (Option.some.inj H)).2
              subst q0
              subst q1
              exact ⟨trivial, _, rfl, [], (.tup [.lit (.bool false), .lit (.int .i64 11)]), Mem.nil, ⟨rfl, trivial, by decide, rfl, trivial⟩, rfl, rfl, rfl, rfl⟩
set_option maxRecDepth 100000 in
set_option maxHeartbeats 4000000 in
theorem s_huff_of (k : Nat) (x188 : (List Int)) (x189 : Int) (H : g_huff_of k x188 x189 = some ()) : Go.Q.Spec Try.prog 15 0 [.ro (Rd.slice (Rd.int .i64)) false x188, .lit (.int .i64 x189)] Mem.nil (fun o M => o = .ret (.fn 22 [.ptr 0 0, .ptr 1 0]) ∧ M = ((Mem.nil.push (.cells 22 [.ro (Rd.slice (Rd.int .i64)) false x188])).push (.cells 3 [.lit (.int .i64 x189)]))) := by
  unfold g_huff_of at H
  refine Go.Q.Spec.of_bodyR (rs := [.tmp 4]) (nt := 6) Try.func15 rfl rfl (by intro t T h; simp at h) rfl rfl fun cx hnp => ?_
  refine WP.seq ?_
  refine WP.region ?_
  refine WPL.d (d_box rfl rfl) rfl ?_
  refine WPL.d (d_box rfl rfl) rfl ?_
  refine WPL.q (q_as (v := .lit _) rfl) rfl ?_
  refine WPL.nilW ?_
  refine W.now ?_
  refine Then.n ?_
  refine WP.seq ?_
  refine WP.region ?_
  refine WPL.q (q_makeFunc) rfl ?_
  refine WPL.q (q_as (v := .fn _ _) rfl) rfl ?_
  refine WPL.nilW ?_
  refine W.now ?_
  refine Then.n ?_
  refine WP.retW ?_
  refine W.now ?_
  exact ⟨trivial, _, rfl, [0, 1], (.fn 22 [.ptr 0 0, .ptr 1 0]), ((Mem.nil.push (.cells 22 [.ro (Rd.slice (Rd.int .i64)) false x188])).push (.cells 3 [.lit (.int .i64 x189)])), ⟨rfl, ⟨⟨trivial, .inr ⟨rfl, rfl, rfl⟩⟩, .inr ⟨rfl, rfl, rfl⟩⟩, by decide, rfl, trivial⟩, rfl, rfl, rfl, rfl⟩
set_option maxRecDepth 100000 in
set_option maxHeartbeats 4000000 in
theorem s_huff_Codes (k : Nat) (x6 : (List Int)) (x379 : (List Int)) (x380 : Int) (H : g_huff_Codes k x6 = some (x379, x380)) : Go.Q.Spec Try.prog 4 0 [.ro (Rd.slice (Rd.int .i64)) false x6] Mem.nil (fun o M => o = .ret (.tup [.ro (Rd.slice (Rd.int .u32)) false x379, .lit (.int .i64 x380)]) ∧ M = Mem.nil) := by
  unfold g_huff_Codes at H
  refine Go.Q.Spec.of_bodyR (rs := [.tmp 2, .tmp 3]) (nt := 38) Try.func4 rfl rfl (by intro t T h; simp at h) rfl rfl fun cx hnp => ?_
  refine WP.seq ?_
  refine WP.region ?_
  refine WPL.q (q_as (v := .lit _) rfl) rfl ?_
  refine WPL.q (q_as (v := .lit (.int _ _)) rfl) rfl ?_
  refine WPL.nilW ?_
  refine W.now ?_
  refine Then.n ?_
  refine WP.seq ?_
  refine WP.seq ?_
  refine WP.region ?_
  refine WPL.q (q_mv (v := .ro _ _ _) rfl) rfl ?_
  obtain ⟨⟨x385, x386⟩, h383, H⟩ := bnd H
  refine WPL.c (runs_call (s := []) (t := []) (N := 0) (bor := []) fn14 rfl (s_huff_judged k x6 x385 x386 h383) ⟨rfl, trivial, by decide, rfl, trivial⟩ rfl trivial (.ren rfl rfl .nil) rfl trivial rfl) rfl ?_
  refine WPL.q (q_mv (v := .tup _) rfl) rfl ?_
  refine WPL.q (q_extract rfl rfl) rfl ?_
  refine WPL.q (q_extract rfl rfl) rfl ?_
  refine WPL.q (q_as (v := .lit (.bool _)) rfl) rfl ?_
  refine WPL.q (q_as (v := .lit (.int _ _)) rfl) rfl ?_
  refine WPL.nilW ?_
  refine W.now ?_
  refine Then.n ?_
  refine WP.seq ?_
  refine WP.region ?_
  refine WPL.q (q_mv (v := .lit (.int _ _)) rfl) rfl ?_
  refine WPL.q (q_neq rfl rfl) rfl ?_
  refine WPL.nilW ?_
  refine W.now ?_
  refine Then.n ?_
  refine WP.cond (t := (!decide (x386 = 0))) rfl (fun hb => ?_) (fun hb => ?_)
  · replace H := cnt hb H
    refine WP.seq ?_
    refine WP.region ?_
    refine WPL.q (q_mv (v := .lit (.int _ _)) rfl) rfl ?_
    refine WPL.q (q_as (v := .lit _) rfl) rfl ?_
    refine WPL.q (q_as (v := .lit (.int _ _)) rfl) rfl ?_
    refine WPL.nilW ?_
    refine W.now ?_
    refine Then.n ?_
    refine WP.retW ?_
    refine W.cv (Cv.nilRo (Rd.int .u32) false 2 rfl) rfl ?_
    refine W.now ?_
    refine Then.r ?_
    have q0 := (Prod.mk.inj (Option.some.inj H)).1
    have q1 := (Prod.mk.inj (Option.some.inj H)).2
    subst q0
    subst q1
    exact ⟨trivial, _, rfl, [], (.tup [.ro (Rd.slice (Rd.int .u32)) false ([] : List Int), .lit (.int .i64 x386)]), Mem.nil, ⟨rfl, trivial, by decide, rfl, trivial⟩, rfl, rfl, rfl, rfl⟩
  · replace H := cnf hb H
    refine WP.skipW ?_
    refine W.now ?_
    refine Then.n ?_
    refine WP.seq ?_
    refine WP.region ?_
    refine WPL.q (q_mv (v := .ro _ _ _) rfl) rfl ?_
    refine WPL.q (q_len_ro sl22 rfl) rfl ?_
    obtain ⟨h386, H⟩ := grd H
    refine WPL.d (d_make (d := (0 : Int)) (R := (Rd.int .u32)) li23 by34 rfl rfl rfl Joins.sc rfl rfl h386 rfl) rfl ?_
    refine WPL.d (d_alloc ze23 rfl) rfl ?_
    refine WPL.s (s_store sz23 rfl rfl rfl rfl rfl) ?_
    refine WPL.nilW ?_
    refine W.now ?_
    refine Then.n ?_
    refine WP.seq ?_
    refine WP.region ?_
    refine WPL.d (d_alloc ze34 rfl) rfl ?_
    refine WPL.s (s_store sz34 rfl rfl rfl rfl rfl) ?_
    refine WPL.nilW ?_
    refine W.now ?_
    refine Then.n ?_
    refine WP.seq ?_
    refine WP.seq ?_
    refine WP.region ?_
    refine WPL.q (q_as (v := .lit (.int _ _)) rfl) rfl ?_
    refine WPL.nilW ?_
    refine W.now ?_
    refine Then.n ?_
    refine WP.block ?_
    refine WP.cv (Cv.nullMark (N := 3) rfl rfl) ?_
    refine WP.cv (Cv.weak (E' := (((((⟨fun _ => .any, [3], []⟩ : Env).upd 0 (.ro (Rd.slice (Rd.int .i64)) false x6)).upd 6 (.ptr 0 0)).upd 7 (.ptr 2 0)).upd 8 (.lit (.int .i64 1)))) (M' := ((((Mem.nil.push (.cells 23 [.whole 1])).push (.row 34 (Rd.int .u32) (List.replicate (Int.toNat ((List.length x6 : Nat) : Int)) (0 : Int)))).push (.cells 34 [.lit (.int .u32 0)])).push (.bag))) [1, 0, 2, 3] hnp ⟨rfl, ⟨⟨⟨⟨trivial, .inr ⟨rfl, rfl, rfl⟩⟩, .inr ⟨rfl, rfl, rfl⟩⟩, .inr ⟨rfl, rfl, rfl⟩⟩, .inr ⟨rfl, rfl, rfl⟩⟩, by decide, rfl, trivial⟩ (LeE.upd rfl rfl (LeE.upd rfl rfl (LeE.upd rfl rfl (LeE.upd rfl rfl (LeE.noneD rfl rfl .nil)))))) ?_
    obtain ⟨x574, H658, H⟩ := bnd H
    refine WP.monoW (Q := fun x E M => x = .exit 0 ∧ E = ((⟨fun _ => .any, [2], []⟩ : Env).upd 6 (.ptr 0 0)) ∧ M = (((Mem.nil.push (.cells 23 [.whole 1])).push (.row 34 (Rd.int .u32) x574)).push (.bag))) ?_ ?_
    · refine WP.loop (β := Int × (List Int) × Int) (fun n b => g_huff_Codes_l0 k x6 n b.1 b.2.1 b.2.2 = some x574) (fun b => (((((⟨fun _ => .any, [3], []⟩ : Env).upd 0 (.ro (Rd.slice (Rd.int .i64)) false x6)).upd 6 (.ptr 0 0)).upd 7 (.ptr 2 0)).upd 8 (.lit (.int .i64 b.1)))) (fun b => ((((Mem.nil.push (.cells 23 [.whole 1])).push (.row 34 (Rd.int .u32) b.2.1)).push (.cells 34 [.lit (.int .u32 b.2.2)])).push (.bag))) k (1, (List.replicate (Int.toNat ((List.length x6 : Nat) : Int)) (0 : Int)), 0) H658 rfl rfl ?_
      rintro n ⟨x510, x511, x512⟩ H
      obtain _ | n := n
      · exact nf rfl H
      rw [g_huff_Codes_l0.eq_2] at H
      show WP _ _ _ _ (((((⟨fun _ => .any, [3], []⟩ : Env).upd 0 (.ro (Rd.slice (Rd.int .i64)) false x6)).upd 6 (.ptr 0 0)).upd 7 (.ptr 2 0)).upd 8 (.lit (.int .i64 x510))) ((((Mem.nil.push (.cells 23 [.whole 1])).push (.row 34 (Rd.int .u32) x511)).push (.cells 34 [.lit (.int .u32 x512)])).push (.bag)) _
      refine WP.seq ?_
      refine WP.seq ?_
      refine WP.region ?_
      refine WPL.q (q_mv (v := .lit (.int _ _)) rfl) rfl ?_
      refine WPL.q (q_leq rfl rfl) rfl ?_
      refine WPL.nilW ?_
      refine W.now ?_
      refine Then.n ?_
      refine WP.cond (t := (decide (x510 ≤ 15))) rfl (fun hb => ?_) (fun hb => ?_)
      · replace H := cnt hb H
        refine WP.skipW ?_
        refine W.now ?_
        refine Then.n ?_
        refine WP.seq ?_
        refine WP.block ?_
        refine WP.seq ?_
        refine WP.region ?_
        refine WPL.q (q_load sc34 rfl rfl rfl) rfl ?_
        refine WPL.q (q_shl rfl rfl rfl) rfl ?_
        refine WPL.s (s_store sz34 rfl rfl rfl rfl rfl) ?_
        refine WPL.nilW ?_
        refine W.now ?_
        refine Then.n ?_
        refine WP.seq ?_
        refine WP.region ?_
        refine WPL.q (q_mv (v := .ro _ _ _) rfl) rfl ?_
        refine WPL.q (q_mv (v := .lit (.int _ _)) rfl) rfl ?_
        obtain ⟨_, h574, H⟩ := bnd H
        refine WPL.c (runs_call (s := []) (t := [4, 5]) (N := 6) (bor := []) fn15 rfl (s_huff_of k x6 x510 h574) ⟨rfl, trivial, by decide, rfl, trivial⟩ rfl trivial (.ren rfl rfl (.ren rfl rfl .nil)) rfl ⟨⟨trivial, rfl⟩, rfl⟩ rfl) rfl ?_
        refine WPL.nilW ?_
        refine W.now ?_
        refine Then.n ?_
        refine WP.block ?_
        refine WP.range (nti := 23) (n := 6) rfl rfl Try.func22 rfl (by kernel_rfl) rfl rfl rfl rfl fun l_575 r_575 aC575 hp575 ha575 hb575 ht575 hs575 => ?_
        refine WP.seq ?_
        refine WP.region ?_
        refine WPL.q (q_load sc22 rfl rfl rfl) rfl ?_
        refine WPL.q (q_len_ro sl22 rfl) rfl ?_
        refine WPL.q (q_mv (v := .lit (.int _ _)) rfl) rfl ?_
        refine WPL.nilW ?_
        refine W.now ?_
        refine Then.n ?_
        refine WP.block ?_
        refine WP.cv (Cv.weak (E' := ((((((⟨fun _ => .any, [], [⟨aC575, ((((((Env.none.upd 0 (.ro (Rd.slice (Rd.int .i64)) false x6)).upd 6 (.ptr 1 0)).upd 7 (.ptr 3 0)).upd 8 (.lit (.int .i64 x510))).upd 29 (.fn 22 [.ptr 4 0, .ptr 0 0]))).v, [5, 6], some (7, l_575)⟩]⟩ : Env).upd 0 (.lit (.func (.yield l_575) #[] #[]))).upd 2 (.ptr 0 0)).upd 6 (.ro (Rd.slice (Rd.int .i64)) false x6)).upd 7 (.lit (.int .i64 ((List.length x6 : Nat) : Int)))).upd 8 (.lit (.int .i64 0)))) (M' := ((((((((Mem.nil.push (.cells 3 [.lit (.int .i64 x510)])).push (.cells 23 [.whole 2])).push (.row 34 (Rd.int .u32) x511)).push (.cells 34 [.lit (.int .u32 (shlI .u32 x512 1))])).push (.cells 22 [.ro (Rd.slice (Rd.int .i64)) false x6])).push (.obj (Obj.deferred (some [])))).push (.bag)).push (.obj (lp r_575 .ready none)))) [5, 0, 1, 2, 4, 6, 3, 7] hnp ⟨rfl, ⟨⟨⟨⟨⟨⟨⟨⟨trivial, .inr ⟨rfl, rfl, rfl⟩⟩, .inr ⟨rfl, rfl, rfl⟩⟩, .inr ⟨rfl, rfl, rfl⟩⟩, .inr ⟨rfl, rfl, rfl⟩⟩, .inr ⟨rfl, rfl, rfl⟩⟩, .inr ⟨rfl, rfl, rfl⟩⟩, .inr ⟨rfl, rfl, rfl⟩⟩, .inr ⟨rfl, rfl, rfl⟩⟩, by decide, rfl, trivial⟩ (LeE.upd rfl rfl (LeE.upd rfl rfl (LeE.upd rfl rfl (LeE.upd rfl rfl (LeE.upd rfl rfl (LeE.noneD rfl rfl (.cons ⟨rfl, (LeV.upd rfl rfl (LeV.upd rfl rfl (LeV.upd rfl rfl (LeV.upd rfl rfl (LeV.upd rfl rfl LeV.none))))), rfl, rfl, rfl, rfl⟩ .nil)))))))) ?_
        obtain ⟨y658, H656, H⟩ := bnd H
        refine WP.monoW (Q := fun x E M => match (generalizing := false) y658 with | (Sum.inl (x630, x631)) => x = .ret ∧ E = (⟨fun _ => .any, [], [⟨aC575, ((((((Env.none.upd 0 (.ro (Rd.slice (Rd.int .i64)) false x6)).upd 6 (.ptr 0 0)).upd 7 (.ptr 2 0)).upd 8 (.lit (.int .i64 x510))).upd 29 (.fn 22 [.ptr 3 0, .ptr 4 0]))).v, [5, 6], some (7, l_575)⟩]⟩ : Env) ∧ M = ((((((((Mem.nil.push (.cells 23 [.whole 1])).push (.row 34 (Rd.int .u32) x630)).push (.cells 34 [.lit (.int .u32 x631)])).push (.cells 22 [.ro (Rd.slice (Rd.int .i64)) false x6])).push (.cells 3 [.lit (.int .i64 x510)])).push (.obj (Obj.deferred (some [])))).push (.bag)).push (.obj (lp r_575 .ready none))) | (Sum.inr (x632, x633)) => x = .exit 0 ∧ E = (⟨fun _ => .any, [], [⟨aC575, ((((((Env.none.upd 0 (.ro (Rd.slice (Rd.int .i64)) false x6)).upd 6 (.ptr 0 0)).upd 7 (.ptr 2 0)).upd 8 (.lit (.int .i64 x510))).upd 29 (.fn 22 [.ptr 3 0, .ptr 4 0]))).v, [5, 6], some (7, l_575)⟩]⟩ : Env) ∧ M = ((((((((Mem.nil.push (.cells 23 [.whole 1])).push (.row 34 (Rd.int .u32) x632)).push (.cells 34 [.lit (.int .u32 x633)])).push (.cells 22 [.ro (Rd.slice (Rd.int .i64)) false x6])).push (.cells 3 [.lit (.int .i64 x510)])).push (.obj (Obj.deferred (some [])))).push (.bag)).push (.obj (lp r_575 .ready none)))) ?_ ?_
        · refine WP.loop (β := Int × (List Int) × Int) (fun n b => g_huff_Codes_l1 k x6 x510 n b.1 b.2.1 b.2.2 = some y658) (fun b => ((((((⟨fun _ => .any, [], [⟨aC575, ((((((Env.none.upd 0 (.ro (Rd.slice (Rd.int .i64)) false x6)).upd 6 (.ptr 1 0)).upd 7 (.ptr 3 0)).upd 8 (.lit (.int .i64 x510))).upd 29 (.fn 22 [.ptr 4 0, .ptr 0 0]))).v, [5, 6], some (7, l_575)⟩]⟩ : Env).upd 0 (.lit (.func (.yield l_575) #[] #[]))).upd 2 (.ptr 0 0)).upd 6 (.ro (Rd.slice (Rd.int .i64)) false x6)).upd 7 (.lit (.int .i64 ((List.length x6 : Nat) : Int)))).upd 8 (.lit (.int .i64 b.1)))) (fun b => ((((((((Mem.nil.push (.cells 3 [.lit (.int .i64 x510)])).push (.cells 23 [.whole 2])).push (.row 34 (Rd.int .u32) b.2.1)).push (.cells 34 [.lit (.int .u32 b.2.2)])).push (.cells 22 [.ro (Rd.slice (Rd.int .i64)) false x6])).push (.obj (Obj.deferred (some [])))).push (.bag)).push (.obj (lp r_575 .ready none)))) k (0, x511, (shlI .u32 x512 1)) H656 rfl rfl ?_
          rintro n ⟨x604, x605, x606⟩ H
          obtain _ | n := n
          · exact nf rfl H
          rw [g_huff_Codes_l1.eq_2] at H
          show WP _ _ _ _ ((((((⟨fun _ => .any, [], [⟨aC575, ((((((Env.none.upd 0 (.ro (Rd.slice (Rd.int .i64)) false x6)).upd 6 (.ptr 1 0)).upd 7 (.ptr 3 0)).upd 8 (.lit (.int .i64 x510))).upd 29 (.fn 22 [.ptr 4 0, .ptr 0 0]))).v, [5, 6], some (7, l_575)⟩]⟩ : Env).upd 0 (.lit (.func (.yield l_575) #[] #[]))).upd 2 (.ptr 0 0)).upd 6 (.ro (Rd.slice (Rd.int .i64)) false x6)).upd 7 (.lit (.int .i64 ((List.length x6 : Nat) : Int)))).upd 8 (.lit (.int .i64 x604))) ((((((((Mem.nil.push (.cells 3 [.lit (.int .i64 x510)])).push (.cells 23 [.whole 2])).push (.row 34 (Rd.int .u32) x605)).push (.cells 34 [.lit (.int .u32 x606)])).push (.cells 22 [.ro (Rd.slice (Rd.int .i64)) false x6])).push (.obj (Obj.deferred (some [])))).push (.bag)).push (.obj (lp r_575 .ready none))) _
          refine WP.seq ?_
          refine WP.region ?_
          obtain ⟨x634, h634, H⟩ := bnd H
          refine WPL.q (q_nm (q_lss rfl rfl) (nm_bool h634)) rfl ?_
          refine WPL.nilW ?_
          refine W.now ?_
          refine Then.n ?_
          refine WP.seq ?_
          refine WP.cond (t := x634) rfl (fun hb => ?_) (fun hb => ?_)
          · replace H := cnt hb H
            refine WP.skipW ?_
            refine W.now ?_
            refine Then.n ?_
            refine WP.seq ?_
            refine WP.block ?_
            refine WP.seq ?_
            refine WP.region ?_
            refine WPL.q (q_mv (v := .lit (.int _ _)) rfl) rfl ?_
            obtain ⟨x646, h646, H⟩ := bnd H
            refine WPL.q (q_index_ro sl22 rfl rfl rfl h646) rfl ?_
            refine WPL.q (q_load_sc sc3 rfl) rfl ?_
            refine WPL.q (q_as (v := .lit (.int _ _)) rfl) rfl ?_
            refine WPL.q (q_as (v := .lit (.int _ _)) rfl) rfl ?_
            refine WPL.nilW ?_
            refine W.now ?_
            refine Then.n ?_
            refine WP.seq ?_
            obtain ⟨⟨x650, x651, x652⟩, H655, H⟩ := bnd H
            refine WP.monoW (Q := fun x E M => x = .normal ∧ E = (((((((⟨fun _ => .any, [], [⟨aC575, ((((((Env.none.upd 0 (.ro (Rd.slice (Rd.int .i64)) false x6)).upd 6 (.ptr 1 0)).upd 7 (.ptr 3 0)).upd 8 (.lit (.int .i64 x510))).upd 29 (.fn 22 [.ptr 4 0, .ptr 0 0]))).v, [5, 6], some (7, l_575)⟩]⟩ : Env).upd 0 (.lit (.func (.yield l_575) #[] #[]))).upd 2 (.ptr 0 0)).upd 6 (.ro (Rd.slice (Rd.int .i64)) false x6)).upd 7 (.lit (.int .i64 ((List.length x6 : Nat) : Int)))).upd 8 (.lit (.int .i64 x604))).upd 21 (.lit (.bool x650))) ∧ M = ((((((((Mem.nil.push (.cells 3 [.lit (.int .i64 x510)])).push (.cells 23 [.whole 2])).push (.row 34 (Rd.int .u32) x651)).push (.cells 34 [.lit (.int .u32 x652)])).push (.cells 22 [.ro (Rd.slice (Rd.int .i64)) false x6])).push (.obj (Obj.deferred (some [])))).push (.bag)).push (.obj (lp r_575 .ready none)))) ?_ ?_
            · clear H
              have H := H655
              clear H655
              refine WP.region ?_
              refine WPL.q (q_mv (v := .lit (.int _ _)) rfl) rfl ?_
              refine WPL.q (q_load sc3 rfl rfl rfl) rfl ?_
              refine WPL.q (q_eql rfl rfl) rfl ?_
              refine WPL.q (q_mv (v := .lit (.bool _)) rfl) rfl ?_
              refine WPL.split (t := 16) (b := (decide (x646 = x510))) rfl (fun hb652 => ?_) (fun hb652 => ?_)
              · replace H := cnt hb652 H
                refine WPL.qg rfl rfl (lb hb652) (q_mv (v := .lit _) rfl) rfl ?_
                refine WPL.qg rfl rfl (lb hb652) (q_mv (v := .lit (.int _ _)) rfl) rfl ?_
                refine WPL.yg rfl rfl rfl rfl hp575 ha575 hb575 ht575 hs575 rfl rfl rfl rfl rfl (lb hb652) fun aI653 => ?_
                refine WP.region ?_
                refine WPL.q (q_as (v := .lit (.int _ _)) rfl) rfl ?_
                refine WPL.nilW ?_
                refine W.now ?_
                refine ⟨rfl, rfl, _, _, _, _, _, _, rfl, rfl, ?_⟩
                refine WP.block ?_
                refine WP.seq ?_
                refine WP.region ?_
                refine WPL.q (q_load sc23 rfl rfl rfl) rfl ?_
                refine WPL.q (q_mv (v := .lit (.int _ _)) rfl) rfl ?_
                refine WPL.q (q_load sc34 rfl rfl rfl) rfl ?_
                obtain ⟨x655, h655, H⟩ := bnd H
                refine WPL.q (q_index_row sl23 rfl rfl rfl (ixs h655)) rfl ?_
                refine WPL.s (s_store_row (j := (Int.toNat x604)) (d := x606) sz34 rfl rfl rfl rfl Joins.sc (ixl h655)) ?_
                refine WPL.nilW ?_
                refine W.now ?_
                refine Then.n ?_
                refine WP.region ?_
                refine WPL.q (q_load sc34 rfl rfl rfl) rfl ?_
                refine WPL.q (q_add rfl rfl) rfl ?_
                refine WPL.s (s_store sz34 rfl rfl rfl rfl rfl) ?_
                refine WPL.nilW ?_
                refine W.now ?_
                refine InBlock.n ?_
                refine ⟨rfl, _, _, _, _, _, _, rfl, rfl, _, rfl, ?_⟩
                refine WPL.qg rfl rfl (lb hb652) (q_not rfl) rfl ?_
                refine WPL.q (q_pickT (v := .lit (.bool _)) (lb hb652) rfl) rfl ?_
                refine WPL.nilW ?_
                refine W.cv (Cv.weak (E' := (((((((⟨fun _ => .any, [], [⟨aC575, ((((((Env.none.upd 0 (.ro (Rd.slice (Rd.int .i64)) false x6)).upd 6 (.ptr 1 0)).upd 7 (.ptr 3 0)).upd 8 (.lit (.int .i64 x510))).upd 29 (.fn 22 [.ptr 4 0, .ptr 0 0]))).v, [5, 6], some (7, l_575)⟩]⟩ : Env).upd 0 (.lit (.func (.yield l_575) #[] #[]))).upd 2 (.ptr 0 0)).upd 6 (.ro (Rd.slice (Rd.int .i64)) false x6)).upd 7 (.lit (.int .i64 ((List.length x6 : Nat) : Int)))).upd 8 (.lit (.int .i64 x604))).upd 21 (.lit (.bool (!true))))) (M' := ((((((((Mem.nil.push (.cells 3 [.lit (.int .i64 x510)])).push (.cells 23 [.whole 2])).push (.row 34 (Rd.int .u32) (List.set x605 (Int.toNat x604) x606))).push (.cells 34 [.lit (.int .u32 (IntKind.wrap .u32 (x606 + 1)))])).push (.cells 22 [.ro (Rd.slice (Rd.int .i64)) false x6])).push (.obj (Obj.deferred (some [])))).push (.bag)).push (.obj (lp r_575 .ready none)))) [0, 1, 2, 3, 4, 5, 6, 7] hnp ⟨rfl, ⟨⟨⟨⟨⟨⟨⟨⟨trivial, .inr ⟨rfl, rfl, rfl⟩⟩, .inr ⟨rfl, rfl, rfl⟩⟩, .inr ⟨rfl, rfl, rfl⟩⟩, .inr ⟨rfl, rfl, rfl⟩⟩, .inr ⟨rfl, rfl, rfl⟩⟩, .inr ⟨rfl, rfl, rfl⟩⟩, .inr ⟨rfl, rfl, rfl⟩⟩, .inr ⟨rfl, rfl, rfl⟩⟩, by decide, rfl, trivial⟩ (LeE.upd rfl rfl (LeE.upd rfl rfl (LeE.upd rfl rfl (LeE.upd rfl rfl (LeE.upd rfl rfl (LeE.upd rfl rfl (LeE.noneD rfl rfl (.cons ⟨rfl, (LeV.upd rfl rfl (LeV.upd rfl rfl (LeV.upd rfl rfl (LeV.upd rfl rfl (LeV.upd rfl rfl LeV.none))))), rfl, rfl, rfl, rfl⟩ .nil))))))))) rfl ?_
                refine W.now ?_
                have q0 := (Prod.mk.inj (Option.some.inj H)).1
                have q1 := (Prod.mk.inj (Prod.mk.inj (Option.some.inj H)).2).1
                have q2 := (Prod.mk.inj (Prod.mk.inj (Option.some.inj H)).2).2
                subst q0
                subst q1
                subst q2
                exact ⟨rfl, rfl, rfl⟩
              · replace H := cnf hb652 H
                refine WPL.skipg (b' := false) rfl rfl (lb hb652) rfl rfl ?_
                refine WPL.skipg (b' := false) rfl rfl (lb hb652) rfl rfl ?_
                refine WPL.skipg (b' := false) rfl rfl (lb hb652) rfl rfl ?_
                refine WPL.skipg (b' := false) rfl rfl (lb hb652) rfl rfl ?_
                refine WPL.q (q_pickF (v := .lit (.bool _)) (lb hb652) rfl) rfl ?_
                refine WPL.nilW ?_
                refine W.cv (Cv.weak (E' := (((((((⟨fun _ => .any, [], [⟨aC575, ((((((Env.none.upd 0 (.ro (Rd.slice (Rd.int .i64)) false x6)).upd 6 (.ptr 1 0)).upd 7 (.ptr 3 0)).upd 8 (.lit (.int .i64 x510))).upd 29 (.fn 22 [.ptr 4 0, .ptr 0 0]))).v, [5, 6], some (7, l_575)⟩]⟩ : Env).upd 0 (.lit (.func (.yield l_575) #[] #[]))).upd 2 (.ptr 0 0)).upd 6 (.ro (Rd.slice (Rd.int .i64)) false x6)).upd 7 (.lit (.int .i64 ((List.length x6 : Nat) : Int)))).upd 8 (.lit (.int .i64 x604))).upd 21 (.lit (.bool false)))) (M' := ((((((((Mem.nil.push (.cells 3 [.lit (.int .i64 x510)])).push (.cells 23 [.whole 2])).push (.row 34 (Rd.int .u32) x605)).push (.cells 34 [.lit (.int .u32 x606)])).push (.cells 22 [.ro (Rd.slice (Rd.int .i64)) false x6])).push (.obj (Obj.deferred (some [])))).push (.bag)).push (.obj (lp r_575 .ready none)))) [0, 1, 2, 3, 4, 5, 6, 7] hnp ⟨rfl, ⟨⟨⟨⟨⟨⟨⟨⟨trivial, .inr ⟨rfl, rfl, rfl⟩⟩, .inr ⟨rfl, rfl, rfl⟩⟩, .inr ⟨rfl, rfl, rfl⟩⟩, .inr ⟨rfl, rfl, rfl⟩⟩, .inr ⟨rfl, rfl, rfl⟩⟩, .inr ⟨rfl, rfl, rfl⟩⟩, .inr ⟨rfl, rfl, rfl⟩⟩, .inr ⟨rfl, rfl, rfl⟩⟩, by decide, rfl, trivial⟩ (LeE.upd rfl rfl (LeE.upd rfl rfl (LeE.upd rfl rfl (LeE.upd rfl rfl (LeE.upd rfl rfl (LeE.upd rfl rfl (LeE.noneD rfl rfl (.cons ⟨rfl, (LeV.upd rfl rfl (LeV.upd rfl rfl (LeV.upd rfl rfl (LeV.upd rfl rfl (LeV.upd rfl rfl LeV.none))))), rfl, rfl, rfl, rfl⟩ .nil))))))))) rfl ?_
                refine W.now ?_
                have q0 := (Prod.mk.inj (Option.some.inj H)).1
                have q1 := (Prod.mk.inj (Prod.mk.inj (Option.some.inj H)).2).1
                have q2 := (Prod.mk.inj (Prod.mk.inj (Option.some.inj H)).2).2
                subst q0
                subst q1
                subst q2
                exact ⟨rfl, rfl, rfl⟩
            · rintro _ _ _ ⟨rfl, rfl, rfl⟩
              refine W.now ?_
              refine Then.n ?_
              refine WP.cond (t := x650) rfl (fun hb => ?_) (fun hb => ?_)
              · replace H := cnt hb H
                refine WP.retW ?_
                refine W.cv (Cv.weak (E' := (⟨fun _ => .any, [], [⟨aC575, ((((((Env.none.upd 0 (.ro (Rd.slice (Rd.int .i64)) false x6)).upd 6 (.ptr 0 0)).upd 7 (.ptr 2 0)).upd 8 (.lit (.int .i64 x510))).upd 29 (.fn 22 [.ptr 3 0, .ptr 4 0]))).v, [5, 6], some (7, l_575)⟩]⟩ : Env)) (M' := ((((((((Mem.nil.push (.cells 23 [.whole 1])).push (.row 34 (Rd.int .u32) x651)).push (.cells 34 [.lit (.int .u32 x652)])).push (.cells 22 [.ro (Rd.slice (Rd.int .i64)) false x6])).push (.cells 3 [.lit (.int .i64 x510)])).push (.obj (Obj.deferred (some [])))).push (.bag)).push (.obj (lp r_575 .ready none)))) [1, 2, 3, 4, 0, 5, 6, 7] hnp ⟨rfl, ⟨⟨⟨⟨⟨⟨⟨⟨trivial, .inr ⟨rfl, rfl, rfl⟩⟩, .inr ⟨rfl, rfl, rfl⟩⟩, .inr ⟨rfl, rfl, rfl⟩⟩, .inr ⟨rfl, rfl, rfl⟩⟩, .inr ⟨rfl, rfl, rfl⟩⟩, .inr ⟨rfl, rfl, rfl⟩⟩, .inr ⟨rfl, rfl, rfl⟩⟩, .inr ⟨rfl, rfl, rfl⟩⟩, by decide, rfl, trivial⟩ (LeE.noneD rfl rfl (.cons ⟨rfl, (LeV.upd rfl rfl (LeV.upd rfl rfl (LeV.upd rfl rfl (LeV.upd rfl rfl (LeV.upd rfl rfl LeV.none))))), rfl, rfl, rfl, rfl⟩ .nil))) rfl ?_
                refine W.now ?_
                refine InBlock.r ?_
                refine Then.r ?_
                refine Then.r ?_
                have q0 := Option.some.inj H
                subst q0
                exact ⟨rfl, rfl, rfl⟩
              · replace H := cnf hb H
                refine WP.skipW ?_
                refine W.now ?_
                refine InBlock.n ?_
                refine Then.n ?_
                refine WP.region ?_
                refine WPL.q (q_add rfl rfl) rfl ?_
                refine WPL.q (q_mv (v := .lit (.int _ _)) rfl) rfl ?_
                refine WPL.nilW ?_
                refine W.cv (Cv.weak (E' := ((((((⟨fun _ => .any, [], [⟨aC575, ((((((Env.none.upd 0 (.ro (Rd.slice (Rd.int .i64)) false x6)).upd 6 (.ptr 1 0)).upd 7 (.ptr 3 0)).upd 8 (.lit (.int .i64 x510))).upd 29 (.fn 22 [.ptr 4 0, .ptr 0 0]))).v, [5, 6], some (7, l_575)⟩]⟩ : Env).upd 0 (.lit (.func (.yield l_575) #[] #[]))).upd 2 (.ptr 0 0)).upd 6 (.ro (Rd.slice (Rd.int .i64)) false x6)).upd 7 (.lit (.int .i64 ((List.length x6 : Nat) : Int)))).upd 8 (.lit (.int .i64 (IntKind.wrap .i64 (x604 + 1)))))) (M' := ((((((((Mem.nil.push (.cells 3 [.lit (.int .i64 x510)])).push (.cells 23 [.whole 2])).push (.row 34 (Rd.int .u32) x651)).push (.cells 34 [.lit (.int .u32 x652)])).push (.cells 22 [.ro (Rd.slice (Rd.int .i64)) false x6])).push (.obj (Obj.deferred (some [])))).push (.bag)).push (.obj (lp r_575 .ready none)))) [0, 1, 2, 3, 4, 5, 6, 7] hnp ⟨rfl, ⟨⟨⟨⟨⟨⟨⟨⟨trivial, .inr ⟨rfl, rfl, rfl⟩⟩, .inr ⟨rfl, rfl, rfl⟩⟩, .inr ⟨rfl, rfl, rfl⟩⟩, .inr ⟨rfl, rfl, rfl⟩⟩, .inr ⟨rfl, rfl, rfl⟩⟩, .inr ⟨rfl, rfl, rfl⟩⟩, .inr ⟨rfl, rfl, rfl⟩⟩, .inr ⟨rfl, rfl, rfl⟩⟩, by decide, rfl, trivial⟩ (LeE.upd rfl rfl (LeE.upd rfl rfl (LeE.upd rfl rfl (LeE.upd rfl rfl (LeE.upd rfl rfl (LeE.noneD rfl rfl (.cons ⟨rfl, (LeV.upd rfl rfl (LeV.upd rfl rfl (LeV.upd rfl rfl (LeV.upd rfl rfl (LeV.upd rfl rfl LeV.none))))), rfl, rfl, rfl, rfl⟩ .nil)))))))) rfl ?_
                refine W.now ?_
                exact Then.n ⟨n, ((IntKind.wrap .i64 (x604 + 1)), x651, x652), Nat.lt_succ_self n, H, rfl, rfl⟩
          · replace H := cnf hb H
            refine WP.exitW ?_
            refine W.cv (Cv.weak (E' := (⟨fun _ => .any, [], [⟨aC575, ((((((Env.none.upd 0 (.ro (Rd.slice (Rd.int .i64)) false x6)).upd 6 (.ptr 0 0)).upd 7 (.ptr 2 0)).upd 8 (.lit (.int .i64 x510))).upd 29 (.fn 22 [.ptr 3 0, .ptr 4 0]))).v, [5, 6], some (7, l_575)⟩]⟩ : Env)) (M' := ((((((((Mem.nil.push (.cells 23 [.whole 1])).push (.row 34 (Rd.int .u32) x605)).push (.cells 34 [.lit (.int .u32 x606)])).push (.cells 22 [.ro (Rd.slice (Rd.int .i64)) false x6])).push (.cells 3 [.lit (.int .i64 x510)])).push (.obj (Obj.deferred (some [])))).push (.bag)).push (.obj (lp r_575 .ready none)))) [1, 2, 3, 4, 0, 5, 6, 7] hnp ⟨rfl, ⟨⟨⟨⟨⟨⟨⟨⟨trivial, .inr ⟨rfl, rfl, rfl⟩⟩, .inr ⟨rfl, rfl, rfl⟩⟩, .inr ⟨rfl, rfl, rfl⟩⟩, .inr ⟨rfl, rfl, rfl⟩⟩, .inr ⟨rfl, rfl, rfl⟩⟩, .inr ⟨rfl, rfl, rfl⟩⟩, .inr ⟨rfl, rfl, rfl⟩⟩, .inr ⟨rfl, rfl, rfl⟩⟩, by decide, rfl, trivial⟩ (LeE.noneD rfl rfl (.cons ⟨rfl, (LeV.upd rfl rfl (LeV.upd rfl rfl (LeV.upd rfl rfl (LeV.upd rfl rfl (LeV.upd rfl rfl LeV.none))))), rfl, rfl, rfl, rfl⟩ .nil))) rfl ?_
            refine W.now ?_
            refine Then.x ?_
            refine Then.x ?_
            have q0 := Option.some.inj H
            subst q0
            exact ⟨rfl, rfl, rfl⟩
        · rcases y658 with ⟨x630, x631⟩ | ⟨x632, x633⟩
          · rintro _ _ _ ⟨rfl, rfl, rfl⟩
            refine W.now ?_
            refine InBlock.r ?_
            refine ⟨trivial, _, _, _, _, rfl, _, _, rfl, (fun h => by cases h), ?_⟩
            refine W.cv (Cv.absorb (N := 8) (j := 5) (i := 6) rfl rfl rfl rfl) rfl ?_
            refine W.now ?_
            refine InBlock.n ?_
            refine InBlock.n ?_
            refine Then.n ?_
            refine WP.region ?_
            refine WPL.q (q_mv (v := .lit (.int _ _)) rfl) rfl ?_
            refine WPL.q (q_add rfl rfl) rfl ?_
            refine WPL.q (q_as (v := .lit (.int _ _)) rfl) rfl ?_
            refine WPL.nilW ?_
            refine W.cv (Cv.weak (E' := (((((⟨fun _ => .any, [3], []⟩ : Env).upd 0 (.ro (Rd.slice (Rd.int .i64)) false x6)).upd 6 (.ptr 0 0)).upd 7 (.ptr 2 0)).upd 8 (.lit (.int .i64 (IntKind.wrap .i64 (x510 + 1)))))) (M' := ((((Mem.nil.push (.cells 23 [.whole 1])).push (.row 34 (Rd.int .u32) x630)).push (.cells 34 [.lit (.int .u32 x631)])).push (.bag))) [0, 1, 2, 8] hnp ⟨rfl, ⟨⟨⟨⟨trivial, .inr ⟨rfl, rfl, rfl⟩⟩, .inr ⟨rfl, rfl, rfl⟩⟩, .inr ⟨rfl, rfl, rfl⟩⟩, .inr ⟨rfl, rfl, rfl⟩⟩, by decide, rfl, trivial⟩ (LeE.upd rfl rfl (LeE.upd rfl rfl (LeE.upd rfl rfl (LeE.upd rfl rfl (LeE.noneD rfl rfl .nil)))))) rfl ?_
            refine W.now ?_
            exact Then.n ⟨n, ((IntKind.wrap .i64 (x510 + 1)), x630, x631), Nat.lt_succ_self n, H, rfl, rfl⟩
          · rintro _ _ _ ⟨rfl, rfl, rfl⟩
            refine W.now ?_
            refine InBlock.x0 ?_
            refine ⟨trivial, _, _, _, _, rfl, _, _, rfl, (fun h => by cases h), ?_⟩
            refine W.cv (Cv.absorb (N := 8) (j := 5) (i := 6) rfl rfl rfl rfl) rfl ?_
            refine W.now ?_
            refine InBlock.n ?_
            refine InBlock.n ?_
            refine Then.n ?_
            refine WP.region ?_
            refine WPL.q (q_mv (v := .lit (.int _ _)) rfl) rfl ?_
            refine WPL.q (q_add rfl rfl) rfl ?_
            refine WPL.q (q_as (v := .lit (.int _ _)) rfl) rfl ?_
            refine WPL.nilW ?_
            refine W.cv (Cv.weak (E' := (((((⟨fun _ => .any, [3], []⟩ : Env).upd 0 (.ro (Rd.slice (Rd.int .i64)) false x6)).upd 6 (.ptr 0 0)).upd 7 (.ptr 2 0)).upd 8 (.lit (.int .i64 (IntKind.wrap .i64 (x510 + 1)))))) (M' := ((((Mem.nil.push (.cells 23 [.whole 1])).push (.row 34 (Rd.int .u32) x632)).push (.cells 34 [.lit (.int .u32 x633)])).push (.bag))) [0, 1, 2, 8] hnp ⟨rfl, ⟨⟨⟨⟨trivial, .inr ⟨rfl, rfl, rfl⟩⟩, .inr ⟨rfl, rfl, rfl⟩⟩, .inr ⟨rfl, rfl, rfl⟩⟩, .inr ⟨rfl, rfl, rfl⟩⟩, by decide, rfl, trivial⟩ (LeE.upd rfl rfl (LeE.upd rfl rfl (LeE.upd rfl rfl (LeE.upd rfl rfl (LeE.noneD rfl rfl .nil)))))) rfl ?_
            refine W.now ?_
            exact Then.n ⟨n, ((IntKind.wrap .i64 (x510 + 1)), x632, x633), Nat.lt_succ_self n, H, rfl, rfl⟩
      · replace H := cnf hb H
        refine WP.exitW ?_
        refine W.cv (Cv.weak (E' := ((⟨fun _ => .any, [2], []⟩ : Env).upd 6 (.ptr 0 0))) (M' := (((Mem.nil.push (.cells 23 [.whole 1])).push (.row 34 (Rd.int .u32) x511)).push (.bag))) [0, 1, 3] hnp ⟨rfl, ⟨⟨⟨trivial, .inr ⟨rfl, rfl, rfl⟩⟩, .inr ⟨rfl, rfl, rfl⟩⟩, .inr ⟨rfl, rfl, rfl⟩⟩, by decide, rfl, trivial⟩ (LeE.upd rfl rfl (LeE.noneD rfl rfl .nil))) rfl ?_
        refine W.now ?_
        refine Then.x ?_
        refine Then.x ?_
        have q0 := (Option.some.inj H)
        subst q0
        exact ⟨rfl, rfl, rfl⟩
    · rintro _ _ _ ⟨rfl, rfl, rfl⟩
      refine W.now ?_
      refine InBlock.x0 ?_
      refine Then.n ?_
      refine WP.seq ?_
      refine WP.region ?_
      refine WPL.q (q_load sc23 rfl rfl rfl) rfl ?_
      refine WPL.q (q_as (v := .whole _) rfl) rfl ?_
      refine WPL.q (q_as (v := .lit (.int _ _)) rfl) rfl ?_
      refine WPL.nilW ?_
      refine W.now ?_
      refine Then.n ?_
      refine WP.retW ?_
      refine W.cv (Cv.frzRow (i := 1) rfl rfl hnp rfl rfl) rfl ?_
      refine W.now ?_
      have q0 := (Prod.mk.inj (Option.some.inj H)).1
      have q1 := (Prod.mk.inj (Option.some.inj H)).2
      subst q0
      subst q1
      exact ⟨⟨.inr rfl, trivial⟩, _, rfl, [], (.tup [.ro (Rd.slice (Rd.int .u32)) false x574, .lit (.int .i64 0)]), Mem.nil, ⟨rfl, trivial, by decide, rfl, trivial⟩, rfl, rfl, rfl, rfl⟩
set_option maxRecDepth 100000 in
set_option maxHeartbeats 4000000 in
theorem s_huff_New (k : Nat) (x663 : (List Int)) (r : (Int ⊕ ((List Int) × (List Int)))) (H : g_huff_New k x663 = some r) : Go.Q.Spec Try.prog 5 0 [.ro (Rd.slice (Rd.int .i64)) false x663] Mem.nil (fun o M => match (generalizing := false) r with | (Sum.inl x1067) => o = .ret (.tup [.lit (.pointer none), .lit (.int .i64 x1067)]) ∧ M = Mem.nil | (Sum.inr (x1068, x1069)) => o = .ret (.tup [.ptr 0 0, .lit (.int .i64 0)]) ∧ M = ((Mem.nil.push (.cells 52 [.lit (.int .i64 (List.getD x1068 0 (0 : Int))), .lit (.int .i64 (List.getD x1068 1 (0 : Int))), .lit (.int .i64 (List.getD x1068 2 (0 : Int))), .lit (.int .i64 (List.getD x1068 3 (0 : Int))), .lit (.int .i64 (List.getD x1068 4 (0 : Int))), .lit (.int .i64 (List.getD x1068 5 (0 : Int))), .lit (.int .i64 (List.getD x1068 6 (0 : Int))), .lit (.int .i64 (List.getD x1068 7 (0 : Int))), .lit (.int .i64 (List.getD x1068 8 (0 : Int))), .lit (.int .i64 (List.getD x1068 9 (0 : Int))), .lit (.int .i64 (List.getD x1068 10 (0 : Int))), .lit (.int .i64 (List.getD x1068 11 (0 : Int))), .lit (.int .i64 (List.getD x1068 12 (0 : Int))), .lit (.int .i64 (List.getD x1068 13 (0 : Int))), .lit (.int .i64 (List.getD x1068 14 (0 : Int))), .lit (.int .i64 (List.getD x1068 15 (0 : Int))), .whole 1])).push (.row 3 (Rd.int .i64) x1069))) := by
  unfold g_huff_New at H
  refine Go.Q.Spec.of_bodyR (rs := [.tmp 2, .tmp 3]) (nt := 49) Try.func5 rfl rfl (by intro t T h; simp at h) rfl rfl fun cx hnp => ?_
  refine WP.seq ?_
  refine WP.region ?_
  refine WPL.q (q_as (v := .lit _) rfl) rfl ?_
  refine WPL.q (q_as (v := .lit (.int _ _)) rfl) rfl ?_
  refine WPL.nilW ?_
  refine W.now ?_
  refine Then.n ?_
  refine WP.seq ?_
  refine WP.seq ?_
  refine WP.region ?_
  refine WPL.q (q_mv (v := .ro _ _ _) rfl) rfl ?_
  obtain ⟨⟨x1074, x1075⟩, h1072, H⟩ := bnd H
  refine WPL.c (runs_call (s := []) (t := []) (N := 0) (bor := []) fn14 rfl (s_huff_judged k x663 x1074 x1075 h1072) ⟨rfl, trivial, by decide, rfl, trivial⟩ rfl trivial (.ren rfl rfl .nil) rfl trivial rfl) rfl ?_
  refine WPL.q (q_mv (v := .tup _) rfl) rfl ?_
  refine WPL.q (q_extract rfl rfl) rfl ?_
  refine WPL.q (q_extract rfl rfl) rfl ?_
  refine WPL.q (q_as (v := .lit (.bool _)) rfl) rfl ?_
  refine WPL.q (q_as (v := .lit (.int _ _)) rfl) rfl ?_
  refine WPL.nilW ?_
  refine W.now ?_
  refine Then.n ?_
  refine WP.seq ?_
  refine WP.region ?_
  refine WPL.q (q_mv (v := .lit (.int _ _)) rfl) rfl ?_
  refine WPL.q (q_neq rfl rfl) rfl ?_
  refine WPL.nilW ?_
  refine W.now ?_
  refine Then.n ?_
  refine WP.cond (t := (!decide (x1075 = 0))) rfl (fun hb => ?_) (fun hb => ?_)
  · replace H := cnt hb H
    refine WP.seq ?_
    refine WP.region ?_
    refine WPL.q (q_mv (v := .lit (.int _ _)) rfl) rfl ?_
    refine WPL.q (q_as (v := .lit _) rfl) rfl ?_
    refine WPL.q (q_as (v := .lit (.int _ _)) rfl) rfl ?_
    refine WPL.nilW ?_
    refine W.now ?_
    refine Then.n ?_
    refine WP.retW ?_
    refine W.now ?_
    refine Then.r ?_
    have q0 := Option.some.inj H
    subst q0
    exact ⟨trivial, _, rfl, [], (.tup [.lit (.pointer none), .lit (.int .i64 x1075)]), Mem.nil, ⟨rfl, trivial, by decide, rfl, trivial⟩, rfl, rfl, rfl, rfl⟩
  · replace H := cnf hb H
    refine WP.skipW ?_
    refine W.now ?_
    refine Then.n ?_
    refine WP.seq ?_
    refine WP.region ?_
    refine WPL.q (q_build bu52 rfl) rfl ?_
    refine WPL.d (d_box rfl rfl) rfl ?_
    refine WPL.d (d_alloc ze27 rfl) rfl ?_
    refine WPL.s (s_store sz27 rfl rfl rfl rfl rfl) ?_
    refine WPL.nilW ?_
    refine W.now ?_
    refine Then.n ?_
    refine WP.seq ?_
    refine WP.seq ?_
    refine WP.region ?_
    refine WPL.d (d_alloc ze3 rfl) rfl ?_
    refine WPL.s (s_store sz3 rfl rfl rfl rfl rfl) ?_
    refine WPL.nilW ?_
    refine W.now ?_
    refine Then.n ?_
    refine WP.block ?_
    refine WP.cv (Cv.nullMark (N := 3) rfl rfl) ?_
    refine WP.cv (Cv.virC 3 (Rd.int .i64) (N := 4) rfl rfl (i := 0) (off := 16) rfl rfl) ?_
    refine WP.cv (Cv.weak (E' := ((((⟨fun _ => .any, [4], []⟩ : Env).upd 0 (.ro (Rd.slice (Rd.int .i64)) false x663)).upd 6 (.ptr 0 0)).upd 7 (.ptr 3 0))) (M' := (((((Mem.nil.push (.cells 27 [.ptr 1 0])).push (.cells 52 [.lit (.int .i64 (List.getD (List.replicate 16 (0 : Int)) 0 (0 : Int))), .lit (.int .i64 (List.getD (List.replicate 16 (0 : Int)) 1 (0 : Int))), .lit (.int .i64 (List.getD (List.replicate 16 (0 : Int)) 2 (0 : Int))), .lit (.int .i64 (List.getD (List.replicate 16 (0 : Int)) 3 (0 : Int))), .lit (.int .i64 (List.getD (List.replicate 16 (0 : Int)) 4 (0 : Int))), .lit (.int .i64 (List.getD (List.replicate 16 (0 : Int)) 5 (0 : Int))), .lit (.int .i64 (List.getD (List.replicate 16 (0 : Int)) 6 (0 : Int))), .lit (.int .i64 (List.getD (List.replicate 16 (0 : Int)) 7 (0 : Int))), .lit (.int .i64 (List.getD (List.replicate 16 (0 : Int)) 8 (0 : Int))), .lit (.int .i64 (List.getD (List.replicate 16 (0 : Int)) 9 (0 : Int))), .lit (.int .i64 (List.getD (List.replicate 16 (0 : Int)) 10 (0 : Int))), .lit (.int .i64 (List.getD (List.replicate 16 (0 : Int)) 11 (0 : Int))), .lit (.int .i64 (List.getD (List.replicate 16 (0 : Int)) 12 (0 : Int))), .lit (.int .i64 (List.getD (List.replicate 16 (0 : Int)) 13 (0 : Int))), .lit (.int .i64 (List.getD (List.replicate 16 (0 : Int)) 14 (0 : Int))), .lit (.int .i64 (List.getD (List.replicate 16 (0 : Int)) 15 (0 : Int))), .whole 2])).push (.row 3 (Rd.int .i64) ([] : List Int))).push (.cells 3 [.lit (.int .i64 1)])).push (.bag))) [1, 0, 4, 2, 3] hnp ⟨rfl, ⟨⟨⟨⟨⟨trivial, .inr ⟨rfl, rfl, rfl⟩⟩, .inr ⟨rfl, rfl, rfl⟩⟩, .inr ⟨rfl, rfl, rfl⟩⟩, .inr ⟨rfl, rfl, rfl⟩⟩, .inr ⟨rfl, rfl, rfl⟩⟩, by decide, rfl, trivial⟩ (LeE.upd rfl rfl (LeE.upd rfl rfl (LeE.upd rfl rfl (LeE.noneD rfl rfl .nil))))) ?_
    obtain ⟨⟨x1469, x1470⟩, H1694, H⟩ := bnd H
    refine WP.monoW (Q := fun x E M => x = .exit 0 ∧ E = ((⟨fun _ => .any, [3], []⟩ : Env).upd 6 (.ptr 0 0)) ∧ M = ((((Mem.nil.push (.cells 27 [.ptr 1 0])).push (.cells 52 [.lit (.int .i64 (List.getD x1469 0 (0 : Int))), .lit (.int .i64 (List.getD x1469 1 (0 : Int))), .lit (.int .i64 (List.getD x1469 2 (0 : Int))), .lit (.int .i64 (List.getD x1469 3 (0 : Int))), .lit (.int .i64 (List.getD x1469 4 (0 : Int))), .lit (.int .i64 (List.getD x1469 5 (0 : Int))), .lit (.int .i64 (List.getD x1469 6 (0 : Int))), .lit (.int .i64 (List.getD x1469 7 (0 : Int))), .lit (.int .i64 (List.getD x1469 8 (0 : Int))), .lit (.int .i64 (List.getD x1469 9 (0 : Int))), .lit (.int .i64 (List.getD x1469 10 (0 : Int))), .lit (.int .i64 (List.getD x1469 11 (0 : Int))), .lit (.int .i64 (List.getD x1469 12 (0 : Int))), .lit (.int .i64 (List.getD x1469 13 (0 : Int))), .lit (.int .i64 (List.getD x1469 14 (0 : Int))), .lit (.int .i64 (List.getD x1469 15 (0 : Int))), .whole 2])).push (.row 3 (Rd.int .i64) x1470)).push (.bag))) ?_ ?_
    · refine WP.loop (β := (List Int) × (List Int) × Int) (fun n b => g_huff_New_l0 k x663 n b.1 b.2.1 b.2.2 = some (x1469, x1470)) (fun b => ((((⟨fun _ => .any, [4], []⟩ : Env).upd 0 (.ro (Rd.slice (Rd.int .i64)) false x663)).upd 6 (.ptr 0 0)).upd 7 (.ptr 3 0))) (fun b => (((((Mem.nil.push (.cells 27 [.ptr 1 0])).push (.cells 52 [.lit (.int .i64 (List.getD b.1 0 (0 : Int))), .lit (.int .i64 (List.getD b.1 1 (0 : Int))), .lit (.int .i64 (List.getD b.1 2 (0 : Int))), .lit (.int .i64 (List.getD b.1 3 (0 : Int))), .lit (.int .i64 (List.getD b.1 4 (0 : Int))), .lit (.int .i64 (List.getD b.1 5 (0 : Int))), .lit (.int .i64 (List.getD b.1 6 (0 : Int))), .lit (.int .i64 (List.getD b.1 7 (0 : Int))), .lit (.int .i64 (List.getD b.1 8 (0 : Int))), .lit (.int .i64 (List.getD b.1 9 (0 : Int))), .lit (.int .i64 (List.getD b.1 10 (0 : Int))), .lit (.int .i64 (List.getD b.1 11 (0 : Int))), .lit (.int .i64 (List.getD b.1 12 (0 : Int))), .lit (.int .i64 (List.getD b.1 13 (0 : Int))), .lit (.int .i64 (List.getD b.1 14 (0 : Int))), .lit (.int .i64 (List.getD b.1 15 (0 : Int))), .whole 2])).push (.row 3 (Rd.int .i64) b.2.1)).push (.cells 3 [.lit (.int .i64 b.2.2)])).push (.bag))) k ((List.replicate 16 (0 : Int)), ([] : List Int), 1) H1694 rfl rfl ?_
      rintro n ⟨x1313, x1314, x1315⟩ H
      obtain _ | n := n
      · exact nf rfl H
      rw [g_huff_New_l0.eq_2] at H
      show WP _ _ _ _ ((((⟨fun _ => .any, [4], []⟩ : Env).upd 0 (.ro (Rd.slice (Rd.int .i64)) false x663)).upd 6 (.ptr 0 0)).upd 7 (.ptr 3 0)) (((((Mem.nil.push (.cells 27 [.ptr 1 0])).push (.cells 52 [.lit (.int .i64 (List.getD x1313 0 (0 : Int))), .lit (.int .i64 (List.getD x1313 1 (0 : Int))), .lit (.int .i64 (List.getD x1313 2 (0 : Int))), .lit (.int .i64 (List.getD x1313 3 (0 : Int))), .lit (.int .i64 (List.getD x1313 4 (0 : Int))), .lit (.int .i64 (List.getD x1313 5 (0 : Int))), .lit (.int .i64 (List.getD x1313 6 (0 : Int))), .lit (.int .i64 (List.getD x1313 7 (0 : Int))), .lit (.int .i64 (List.getD x1313 8 (0 : Int))), .lit (.int .i64 (List.getD x1313 9 (0 : Int))), .lit (.int .i64 (List.getD x1313 10 (0 : Int))), .lit (.int .i64 (List.getD x1313 11 (0 : Int))), .lit (.int .i64 (List.getD x1313 12 (0 : Int))), .lit (.int .i64 (List.getD x1313 13 (0 : Int))), .lit (.int .i64 (List.getD x1313 14 (0 : Int))), .lit (.int .i64 (List.getD x1313 15 (0 : Int))), .whole 2])).push (.row 3 (Rd.int .i64) x1314)).push (.cells 3 [.lit (.int .i64 x1315)])).push (.bag)) _
      refine WP.seq ?_
      refine WP.seq ?_
      refine WP.region ?_
      refine WPL.q (q_load sc3 rfl rfl rfl) rfl ?_
      refine WPL.q (q_leq rfl rfl) rfl ?_
      refine WPL.nilW ?_
      refine W.now ?_
      refine Then.n ?_
      refine WP.cond (t := (decide (x1315 ≤ 15))) rfl (fun hb => ?_) (fun hb => ?_)
      · replace H := cnt hb H
        refine WP.skipW ?_
        refine W.now ?_
        refine Then.n ?_
        refine WP.seq ?_
        refine WP.block ?_
        refine WP.seq ?_
        refine WP.region ?_
        refine WPL.q (q_mv (v := .ro _ _ _) rfl) rfl ?_
        refine WPL.q (q_load sc3 rfl rfl rfl) rfl ?_
        obtain ⟨_, h1470, H⟩ := bnd H
        refine WPL.c (runs_call (s := []) (t := [5, 6]) (N := 7) (bor := []) fn15 rfl (s_huff_of k x663 x1315 h1470) ⟨rfl, trivial, by decide, rfl, trivial⟩ rfl trivial (.ren rfl rfl (.ren rfl rfl .nil)) rfl ⟨⟨trivial, rfl⟩, rfl⟩ rfl) rfl ?_
        refine WPL.nilW ?_
        refine W.now ?_
        refine Then.n ?_
        refine WP.block ?_
        refine WP.range (nti := 23) (n := 7) rfl rfl Try.func22 rfl (by kernel_rfl) rfl rfl rfl rfl fun l_1471 r_1471 aC1471 hp1471 ha1471 hb1471 ht1471 hs1471 => ?_
        refine WP.seq ?_
        refine WP.region ?_
        refine WPL.q (q_load sc22 rfl rfl rfl) rfl ?_
        refine WPL.q (q_len_ro sl22 rfl) rfl ?_
        refine WPL.q (q_mv (v := .lit (.int _ _)) rfl) rfl ?_
        refine WPL.nilW ?_
        refine W.now ?_
        refine Then.n ?_
        refine WP.block ?_
        refine WP.cv (Cv.weak (E' := ((((((⟨fun _ => .any, [], [⟨aC1471, (((((Env.none.upd 0 (.ro (Rd.slice (Rd.int .i64)) false x663)).upd 6 (.ptr 1 0)).upd 7 (.ptr 4 0)).upd 25 (.fn 22 [.ptr 5 0, .ptr 0 0]))).v, [6, 7], some (8, l_1471)⟩]⟩ : Env).upd 0 (.lit (.func (.yield l_1471) #[] #[]))).upd 2 (.ptr 0 0)).upd 6 (.ro (Rd.slice (Rd.int .i64)) false x663)).upd 7 (.lit (.int .i64 ((List.length x663 : Nat) : Int)))).upd 8 (.lit (.int .i64 0)))) (M' := (((((((((Mem.nil.push (.cells 3 [.lit (.int .i64 x1315)])).push (.cells 27 [.ptr 2 0])).push (.cells 52 [.lit (.int .i64 (List.getD x1313 0 (0 : Int))), .lit (.int .i64 (List.getD x1313 1 (0 : Int))), .lit (.int .i64 (List.getD x1313 2 (0 : Int))), .lit (.int .i64 (List.getD x1313 3 (0 : Int))), .lit (.int .i64 (List.getD x1313 4 (0 : Int))), .lit (.int .i64 (List.getD x1313 5 (0 : Int))), .lit (.int .i64 (List.getD x1313 6 (0 : Int))), .lit (.int .i64 (List.getD x1313 7 (0 : Int))), .lit (.int .i64 (List.getD x1313 8 (0 : Int))), .lit (.int .i64 (List.getD x1313 9 (0 : Int))), .lit (.int .i64 (List.getD x1313 10 (0 : Int))), .lit (.int .i64 (List.getD x1313 11 (0 : Int))), .lit (.int .i64 (List.getD x1313 12 (0 : Int))), .lit (.int .i64 (List.getD x1313 13 (0 : Int))), .lit (.int .i64 (List.getD x1313 14 (0 : Int))), .lit (.int .i64 (List.getD x1313 15 (0 : Int))), .whole 3])).push (.row 3 (Rd.int .i64) x1314)).push (.cells 3 [.lit (.int .i64 x1315)])).push (.cells 22 [.ro (Rd.slice (Rd.int .i64)) false x663])).push (.obj (Obj.deferred (some [])))).push (.bag)).push (.obj (lp r_1471 .ready none)))) [6, 0, 1, 2, 3, 5, 7, 4, 8] hnp ⟨rfl, ⟨⟨⟨⟨⟨⟨⟨⟨⟨trivial, .inr ⟨rfl, rfl, rfl⟩⟩, .inr ⟨rfl, rfl, rfl⟩⟩, .inr ⟨rfl, rfl, rfl⟩⟩, .inr ⟨rfl, rfl, rfl⟩⟩, .inr ⟨rfl, rfl, rfl⟩⟩, .inr ⟨rfl, rfl, rfl⟩⟩, .inr ⟨rfl, rfl, rfl⟩⟩, .inr ⟨rfl, rfl, rfl⟩⟩, .inr ⟨rfl, rfl, rfl⟩⟩, by decide, rfl, trivial⟩ (LeE.upd rfl rfl (LeE.upd rfl rfl (LeE.upd rfl rfl (LeE.upd rfl rfl (LeE.upd rfl rfl (LeE.noneD rfl rfl (.cons ⟨rfl, (LeV.upd rfl rfl (LeV.upd rfl rfl (LeV.upd rfl rfl (LeV.upd rfl rfl LeV.none)))), rfl, rfl, rfl, rfl⟩ .nil)))))))) ?_
        obtain ⟨y1694, H1692, H⟩ := bnd H
        refine WP.monoW (Q := fun x E M => match (generalizing := false) y1694 with | (Sum.inl (x1618, x1619)) => x = .ret ∧ E = (⟨fun _ => .any, [], [⟨aC1471, (((((Env.none.upd 0 (.ro (Rd.slice (Rd.int .i64)) false x663)).upd 6 (.ptr 0 0)).upd 7 (.ptr 3 0)).upd 25 (.fn 22 [.ptr 4 0, .ptr 5 0]))).v, [6, 7], some (8, l_1471)⟩]⟩ : Env) ∧ M = (((((((((Mem.nil.push (.cells 27 [.ptr 1 0])).push (.cells 52 [.lit (.int .i64 (List.getD x1618 0 (0 : Int))), .lit (.int .i64 (List.getD x1618 1 (0 : Int))), .lit (.int .i64 (List.getD x1618 2 (0 : Int))), .lit (.int .i64 (List.getD x1618 3 (0 : Int))), .lit (.int .i64 (List.getD x1618 4 (0 : Int))), .lit (.int .i64 (List.getD x1618 5 (0 : Int))), .lit (.int .i64 (List.getD x1618 6 (0 : Int))), .lit (.int .i64 (List.getD x1618 7 (0 : Int))), .lit (.int .i64 (List.getD x1618 8 (0 : Int))), .lit (.int .i64 (List.getD x1618 9 (0 : Int))), .lit (.int .i64 (List.getD x1618 10 (0 : Int))), .lit (.int .i64 (List.getD x1618 11 (0 : Int))), .lit (.int .i64 (List.getD x1618 12 (0 : Int))), .lit (.int .i64 (List.getD x1618 13 (0 : Int))), .lit (.int .i64 (List.getD x1618 14 (0 : Int))), .lit (.int .i64 (List.getD x1618 15 (0 : Int))), .whole 2])).push (.row 3 (Rd.int .i64) x1619)).push (.cells 3 [.lit (.int .i64 x1315)])).push (.cells 22 [.ro (Rd.slice (Rd.int .i64)) false x663])).push (.cells 3 [.lit (.int .i64 x1315)])).push (.obj (Obj.deferred (some [])))).push (.bag)).push (.obj (lp r_1471 .ready none))) | (Sum.inr (x1620, x1621)) => x = .exit 0 ∧ E = (⟨fun _ => .any, [], [⟨aC1471, (((((Env.none.upd 0 (.ro (Rd.slice (Rd.int .i64)) false x663)).upd 6 (.ptr 0 0)).upd 7 (.ptr 3 0)).upd 25 (.fn 22 [.ptr 4 0, .ptr 5 0]))).v, [6, 7], some (8, l_1471)⟩]⟩ : Env) ∧ M = (((((((((Mem.nil.push (.cells 27 [.ptr 1 0])).push (.cells 52 [.lit (.int .i64 (List.getD x1620 0 (0 : Int))), .lit (.int .i64 (List.getD x1620 1 (0 : Int))), .lit (.int .i64 (List.getD x1620 2 (0 : Int))), .lit (.int .i64 (List.getD x1620 3 (0 : Int))), .lit (.int .i64 (List.getD x1620 4 (0 : Int))), .lit (.int .i64 (List.getD x1620 5 (0 : Int))), .lit (.int .i64 (List.getD x1620 6 (0 : Int))), .lit (.int .i64 (List.getD x1620 7 (0 : Int))), .lit (.int .i64 (List.getD x1620 8 (0 : Int))), .lit (.int .i64 (List.getD x1620 9 (0 : Int))), .lit (.int .i64 (List.getD x1620 10 (0 : Int))), .lit (.int .i64 (List.getD x1620 11 (0 : Int))), .lit (.int .i64 (List.getD x1620 12 (0 : Int))), .lit (.int .i64 (List.getD x1620 13 (0 : Int))), .lit (.int .i64 (List.getD x1620 14 (0 : Int))), .lit (.int .i64 (List.getD x1620 15 (0 : Int))), .whole 2])).push (.row 3 (Rd.int .i64) x1621)).push (.cells 3 [.lit (.int .i64 x1315)])).push (.cells 22 [.ro (Rd.slice (Rd.int .i64)) false x663])).push (.cells 3 [.lit (.int .i64 x1315)])).push (.obj (Obj.deferred (some [])))).push (.bag)).push (.obj (lp r_1471 .ready none)))) ?_ ?_
        · refine WP.loop (β := Int × (List Int) × (List Int)) (fun n b => g_huff_New_l1 k x663 x1315 n b.1 b.2.1 b.2.2 = some y1694) (fun b => ((((((⟨fun _ => .any, [], [⟨aC1471, (((((Env.none.upd 0 (.ro (Rd.slice (Rd.int .i64)) false x663)).upd 6 (.ptr 1 0)).upd 7 (.ptr 4 0)).upd 25 (.fn 22 [.ptr 5 0, .ptr 0 0]))).v, [6, 7], some (8, l_1471)⟩]⟩ : Env).upd 0 (.lit (.func (.yield l_1471) #[] #[]))).upd 2 (.ptr 0 0)).upd 6 (.ro (Rd.slice (Rd.int .i64)) false x663)).upd 7 (.lit (.int .i64 ((List.length x663 : Nat) : Int)))).upd 8 (.lit (.int .i64 b.1)))) (fun b => (((((((((Mem.nil.push (.cells 3 [.lit (.int .i64 x1315)])).push (.cells 27 [.ptr 2 0])).push (.cells 52 [.lit (.int .i64 (List.getD b.2.1 0 (0 : Int))), .lit (.int .i64 (List.getD b.2.1 1 (0 : Int))), .lit (.int .i64 (List.getD b.2.1 2 (0 : Int))), .lit (.int .i64 (List.getD b.2.1 3 (0 : Int))), .lit (.int .i64 (List.getD b.2.1 4 (0 : Int))), .lit (.int .i64 (List.getD b.2.1 5 (0 : Int))), .lit (.int .i64 (List.getD b.2.1 6 (0 : Int))), .lit (.int .i64 (List.getD b.2.1 7 (0 : Int))), .lit (.int .i64 (List.getD b.2.1 8 (0 : Int))), .lit (.int .i64 (List.getD b.2.1 9 (0 : Int))), .lit (.int .i64 (List.getD b.2.1 10 (0 : Int))), .lit (.int .i64 (List.getD b.2.1 11 (0 : Int))), .lit (.int .i64 (List.getD b.2.1 12 (0 : Int))), .lit (.int .i64 (List.getD b.2.1 13 (0 : Int))), .lit (.int .i64 (List.getD b.2.1 14 (0 : Int))), .lit (.int .i64 (List.getD b.2.1 15 (0 : Int))), .whole 3])).push (.row 3 (Rd.int .i64) b.2.2)).push (.cells 3 [.lit (.int .i64 x1315)])).push (.cells 22 [.ro (Rd.slice (Rd.int .i64)) false x663])).push (.obj (Obj.deferred (some [])))).push (.bag)).push (.obj (lp r_1471 .ready none)))) k (0, x1313, x1314) H1692 rfl rfl ?_
          rintro n ⟨x1544, x1545, x1546⟩ H
          obtain _ | n := n
          · exact nf rfl H
          rw [g_huff_New_l1.eq_2] at H
          show WP _ _ _ _ ((((((⟨fun _ => .any, [], [⟨aC1471, (((((Env.none.upd 0 (.ro (Rd.slice (Rd.int .i64)) false x663)).upd 6 (.ptr 1 0)).upd 7 (.ptr 4 0)).upd 25 (.fn 22 [.ptr 5 0, .ptr 0 0]))).v, [6, 7], some (8, l_1471)⟩]⟩ : Env).upd 0 (.lit (.func (.yield l_1471) #[] #[]))).upd 2 (.ptr 0 0)).upd 6 (.ro (Rd.slice (Rd.int .i64)) false x663)).upd 7 (.lit (.int .i64 ((List.length x663 : Nat) : Int)))).upd 8 (.lit (.int .i64 x1544))) (((((((((Mem.nil.push (.cells 3 [.lit (.int .i64 x1315)])).push (.cells 27 [.ptr 2 0])).push (.cells 52 [.lit (.int .i64 (List.getD x1545 0 (0 : Int))), .lit (.int .i64 (List.getD x1545 1 (0 : Int))), .lit (.int .i64 (List.getD x1545 2 (0 : Int))), .lit (.int .i64 (List.getD x1545 3 (0 : Int))), .lit (.int .i64 (List.getD x1545 4 (0 : Int))), .lit (.int .i64 (List.getD x1545 5 (0 : Int))), .lit (.int .i64 (List.getD x1545 6 (0 : Int))), .lit (.int .i64 (List.getD x1545 7 (0 : Int))), .lit (.int .i64 (List.getD x1545 8 (0 : Int))), .lit (.int .i64 (List.getD x1545 9 (0 : Int))), .lit (.int .i64 (List.getD x1545 10 (0 : Int))), .lit (.int .i64 (List.getD x1545 11 (0 : Int))), .lit (.int .i64 (List.getD x1545 12 (0 : Int))), .lit (.int .i64 (List.getD x1545 13 (0 : Int))), .lit (.int .i64 (List.getD x1545 14 (0 : Int))), .lit (.int .i64 (List.getD x1545 15 (0 : Int))), .whole 3])).push (.row 3 (Rd.int .i64) x1546)).push (.cells 3 [.lit (.int .i64 x1315)])).push (.cells 22 [.ro (Rd.slice (Rd.int .i64)) false x663])).push (.obj (Obj.deferred (some [])))).push (.bag)).push (.obj (lp r_1471 .ready none))) _
          refine WP.seq ?_
          refine WP.region ?_
          obtain ⟨x1622, h1622, H⟩ := bnd H
          refine WPL.q (q_nm (q_lss rfl rfl) (nm_bool h1622)) rfl ?_
          refine WPL.nilW ?_
          refine W.now ?_
          refine Then.n ?_
          refine WP.seq ?_
          refine WP.cond (t := x1622) rfl (fun hb => ?_) (fun hb => ?_)
          · replace H := cnt hb H
            refine WP.skipW ?_
            refine W.now ?_
            refine Then.n ?_
            refine WP.seq ?_
            refine WP.block ?_
            refine WP.seq ?_
            refine WP.region ?_
            refine WPL.q (q_mv (v := .lit (.int _ _)) rfl) rfl ?_
            obtain ⟨x1658, h1658, H⟩ := bnd H
            refine WPL.q (q_index_ro sl22 rfl rfl rfl h1658) rfl ?_
            refine WPL.q (q_load_sc sc3 rfl) rfl ?_
            refine WPL.q (q_as (v := .lit (.int _ _)) rfl) rfl ?_
            refine WPL.q (q_as (v := .lit (.int _ _)) rfl) rfl ?_
            refine WPL.nilW ?_
            refine W.now ?_
            refine Then.n ?_
            refine WP.seq ?_
            obtain ⟨⟨x1674, x1675, x1676⟩, H1691, H⟩ := bnd H
            refine WP.monoW (Q := fun x E M => x = .normal ∧ E = (((((((⟨fun _ => .any, [], [⟨aC1471, (((((Env.none.upd 0 (.ro (Rd.slice (Rd.int .i64)) false x663)).upd 6 (.ptr 1 0)).upd 7 (.ptr 4 0)).upd 25 (.fn 22 [.ptr 5 0, .ptr 0 0]))).v, [6, 7], some (8, l_1471)⟩]⟩ : Env).upd 0 (.lit (.func (.yield l_1471) #[] #[]))).upd 2 (.ptr 0 0)).upd 6 (.ro (Rd.slice (Rd.int .i64)) false x663)).upd 7 (.lit (.int .i64 ((List.length x663 : Nat) : Int)))).upd 8 (.lit (.int .i64 x1544))).upd 21 (.lit (.bool x1674))) ∧ M = (((((((((Mem.nil.push (.cells 3 [.lit (.int .i64 x1315)])).push (.cells 27 [.ptr 2 0])).push (.cells 52 [.lit (.int .i64 (List.getD x1675 0 (0 : Int))), .lit (.int .i64 (List.getD x1675 1 (0 : Int))), .lit (.int .i64 (List.getD x1675 2 (0 : Int))), .lit (.int .i64 (List.getD x1675 3 (0 : Int))), .lit (.int .i64 (List.getD x1675 4 (0 : Int))), .lit (.int .i64 (List.getD x1675 5 (0 : Int))), .lit (.int .i64 (List.getD x1675 6 (0 : Int))), .lit (.int .i64 (List.getD x1675 7 (0 : Int))), .lit (.int .i64 (List.getD x1675 8 (0 : Int))), .lit (.int .i64 (List.getD x1675 9 (0 : Int))), .lit (.int .i64 (List.getD x1675 10 (0 : Int))), .lit (.int .i64 (List.getD x1675 11 (0 : Int))), .lit (.int .i64 (List.getD x1675 12 (0 : Int))), .lit (.int .i64 (List.getD x1675 13 (0 : Int))), .lit (.int .i64 (List.getD x1675 14 (0 : Int))), .lit (.int .i64 (List.getD x1675 15 (0 : Int))), .whole 3])).push (.row 3 (Rd.int .i64) x1676)).push (.cells 3 [.lit (.int .i64 x1315)])).push (.cells 22 [.ro (Rd.slice (Rd.int .i64)) false x663])).push (.obj (Obj.deferred (some [])))).push (.bag)).push (.obj (lp r_1471 .ready none)))) ?_ ?_
            · clear H
              have H := H1691
              clear H1691
              refine WP.region ?_
              refine WPL.q (q_mv (v := .lit (.int _ _)) rfl) rfl ?_
              refine WPL.q (q_load sc3 rfl rfl rfl) rfl ?_
              refine WPL.q (q_eql rfl rfl) rfl ?_
              refine WPL.q (q_mv (v := .lit (.bool _)) rfl) rfl ?_
              refine WPL.split (t := 16) (b := (decide (x1658 = x1315))) rfl (fun hb1676 => ?_) (fun hb1676 => ?_)
              · replace H := cnt hb1676 H
                refine WPL.qg rfl rfl (lb hb1676) (q_mv (v := .lit _) rfl) rfl ?_
                refine WPL.qg rfl rfl (lb hb1676) (q_mv (v := .lit (.int _ _)) rfl) rfl ?_
                refine WPL.yg rfl rfl rfl rfl hp1471 ha1471 hb1471 ht1471 hs1471 rfl rfl rfl rfl rfl (lb hb1676) fun aI1677 => ?_
                refine WP.region ?_
                refine WPL.q (q_as (v := .lit (.int _ _)) rfl) rfl ?_
                refine WPL.nilW ?_
                refine W.now ?_
                refine ⟨rfl, rfl, _, _, _, _, _, _, rfl, rfl, ?_⟩
                refine WP.block ?_
                refine WP.seq ?_
                refine WP.regionD' 11 [1, 2, 4] [10] mixed rfl ?_
                refine WPD.take 0 rfl (by kernel_rfl) (q_load sc27 rfl rfl rfl) rfl rfl ?_
                refine WPD.takeT 2 rfl (by kernel_rfl) (q_nilCheck rfl) rfl ?_
                refine WPD.takeT 3 rfl (by kernel_rfl) (q_fieldAddr fi52_0 rfl rfl) rfl ?_
                refine WPD.takeT 7 rfl (by kernel_rfl) (q_nilCheck rfl) rfl ?_
                refine WPD.takeT 8 rfl (by kernel_rfl) (q_fieldAddr fi52_0 rfl rfl) rfl ?_
                refine WPD.take 1 rfl (by kernel_rfl) (q_load sc3 rfl rfl rfl) rfl rfl ?_
                obtain ⟨h1685, H⟩ := grd H
                refine WPD.takeT 4 rfl (by kernel_rfl) (q_indexArr ar50 rfl rfl h1685 rfl) rfl ?_
                refine WPD.take 5 rfl (by kernel_rfl) (q_load_arr (f := (fun z : Int => AVal.lit (.int .i64 z))) (d0 := (0 : Int)) (xs := x1545) (n := 16) (off := 0) (j := (Int.toNat x1315)) sc3 rfl rfl rfl (natlt h1685) (addone _ _)) rfl rfl ?_
                obtain ⟨x1687, h1687, H⟩ := bnd H
                refine WPD.takeT 6 rfl (by kernel_rfl) (q_nm (q_add rfl rfl) (nm_int h1687)) rfl ?_
                obtain ⟨h1687, H⟩ := grd H
                refine WPD.takeT 9 rfl (by kernel_rfl) (q_indexArr ar50 rfl rfl h1687 rfl) rfl ?_
                refine WPD.effS 10 [] [] rfl (by kernel_rfl) (s_store_arr (f := (fun z : Int => AVal.lit (.int .i64 z))) (d0 := (0 : Int)) (xs := x1545) (n := 16) (off := 0) (j := (Int.toNat x1315)) (v := x1687) sz3 rfl rfl rfl rfl rfl (natlt h1687) (addone _ _)) rfl ?_
                refine WPD.doneW (by kernel_rfl) ?_
                refine W.now ?_
                refine Then.n ?_
                refine WP.regionD' 11 [1, 2] [10] mixed rfl ?_
                refine WPD.takeT 5 rfl (by kernel_rfl) (q_mv (v := .lit (.int _ _)) rfl) rfl ?_
                refine WPD.take 0 rfl (by kernel_rfl) (q_load sc27 rfl rfl rfl) rfl rfl ?_
                refine WPD.take 1 rfl (by kernel_rfl) (q_load sc27 rfl rfl rfl) rfl rfl ?_
                refine WPD.takeT 2 rfl (by kernel_rfl) (q_nilCheck rfl) rfl ?_
                refine WPD.takeT 3 rfl (by kernel_rfl) (q_fieldAddr fi52_1 rfl rfl) rfl ?_
                refine WPD.take 4 rfl (by kernel_rfl) (q_load sc22 rfl rfl rfl) rfl rfl ?_
                refine WPD.eff 6 [1, 2] [10] rfl (by kernel_rfl) (Does.runs (d_buildSlice (ds := ([x1544] : List Int)) (R := (Rd.int .i64)) li22 rfl rfl rfl rfl rfl (JoinRows.cons1 Joins.sc rfl JoinRows.nil) rfl rfl)) rfl rfl ?_
                obtain ⟨h1690, H⟩ := grd H
                refine WPD.eff 7 [1, 2] [10] rfl (by kernel_rfl) (Does.runs (d_append ap22 rfl rfl rfl rfl (src_row sl22 rfl rfl) h1690 rfl)) rfl rfl ?_
                refine WPD.takeT 8 rfl (by kernel_rfl) (q_nilCheck rfl) rfl ?_
                refine WPD.takeT 9 rfl (by kernel_rfl) (q_fieldAddr fi52_1 rfl rfl) rfl ?_
                refine WPD.effS 10 [] [] rfl (by kernel_rfl) (s_store sz22 rfl rfl rfl rfl rfl) rfl ?_
                refine WPD.doneW (by kernel_rfl) ?_
                refine W.now ?_
                refine InBlock.n ?_
                refine ⟨rfl, _, _, _, _, _, _, rfl, rfl, _, rfl, ?_⟩
                refine WPL.qg rfl rfl (lb hb1676) (q_not rfl) rfl ?_
                refine WPL.q (q_pickT (v := .lit (.bool _)) (lb hb1676) rfl) rfl ?_
                refine WPL.nilW ?_
                refine W.cv (Cv.weak (E' := (((((((⟨fun _ => .any, [], [⟨aC1471, (((((Env.none.upd 0 (.ro (Rd.slice (Rd.int .i64)) false x663)).upd 6 (.ptr 1 0)).upd 7 (.ptr 4 0)).upd 25 (.fn 22 [.ptr 5 0, .ptr 0 0]))).v, [6, 7], some (8, l_1471)⟩]⟩ : Env).upd 0 (.lit (.func (.yield l_1471) #[] #[]))).upd 2 (.ptr 0 0)).upd 6 (.ro (Rd.slice (Rd.int .i64)) false x663)).upd 7 (.lit (.int .i64 ((List.length x663 : Nat) : Int)))).upd 8 (.lit (.int .i64 x1544))).upd 21 (.lit (.bool (!true))))) (M' := (((((((((Mem.nil.push (.cells 3 [.lit (.int .i64 x1315)])).push (.cells 27 [.ptr 2 0])).push (.cells 52 [.lit (.int .i64 (List.getD (setD (0 : Int) x1545 16 (Int.toNat x1315) x1687) 0 (0 : Int))), .lit (.int .i64 (List.getD (setD (0 : Int) x1545 16 (Int.toNat x1315) x1687) 1 (0 : Int))), .lit (.int .i64 (List.getD (setD (0 : Int) x1545 16 (Int.toNat x1315) x1687) 2 (0 : Int))), .lit (.int .i64 (List.getD (setD (0 : Int) x1545 16 (Int.toNat x1315) x1687) 3 (0 : Int))), .lit (.int .i64 (List.getD (setD (0 : Int) x1545 16 (Int.toNat x1315) x1687) 4 (0 : Int))), .lit (.int .i64 (List.getD (setD (0 : Int) x1545 16 (Int.toNat x1315) x1687) 5 (0 : Int))), .lit (.int .i64 (List.getD (setD (0 : Int) x1545 16 (Int.toNat x1315) x1687) 6 (0 : Int))), .lit (.int .i64 (List.getD (setD (0 : Int) x1545 16 (Int.toNat x1315) x1687) 7 (0 : Int))), .lit (.int .i64 (List.getD (setD (0 : Int) x1545 16 (Int.toNat x1315) x1687) 8 (0 : Int))), .lit (.int .i64 (List.getD (setD (0 : Int) x1545 16 (Int.toNat x1315) x1687) 9 (0 : Int))), .lit (.int .i64 (List.getD (setD (0 : Int) x1545 16 (Int.toNat x1315) x1687) 10 (0 : Int))), .lit (.int .i64 (List.getD (setD (0 : Int) x1545 16 (Int.toNat x1315) x1687) 11 (0 : Int))), .lit (.int .i64 (List.getD (setD (0 : Int) x1545 16 (Int.toNat x1315) x1687) 12 (0 : Int))), .lit (.int .i64 (List.getD (setD (0 : Int) x1545 16 (Int.toNat x1315) x1687) 13 (0 : Int))), .lit (.int .i64 (List.getD (setD (0 : Int) x1545 16 (Int.toNat x1315) x1687) 14 (0 : Int))), .lit (.int .i64 (List.getD (setD (0 : Int) x1545 16 (Int.toNat x1315) x1687) 15 (0 : Int))), .whole 3])).push (.row 3 (Rd.int .i64) (x1546 ++ ([x1544] : List Int)))).push (.cells 3 [.lit (.int .i64 x1315)])).push (.cells 22 [.ro (Rd.slice (Rd.int .i64)) false x663])).push (.obj (Obj.deferred (some [])))).push (.bag)).push (.obj (lp r_1471 .ready none)))) [0, 1, 2, 10, 4, 5, 6, 7, 8] hnp ⟨rfl, ⟨⟨⟨⟨⟨⟨⟨⟨⟨trivial, .inr ⟨rfl, rfl, rfl⟩⟩, .inr ⟨rfl, rfl, rfl⟩⟩, .inr ⟨rfl, rfl, rfl⟩⟩, .inr ⟨rfl, rfl, rfl⟩⟩, .inr ⟨rfl, rfl, rfl⟩⟩, .inr ⟨rfl, rfl, rfl⟩⟩, .inr ⟨rfl, rfl, rfl⟩⟩, .inr ⟨rfl, rfl, rfl⟩⟩, .inr ⟨rfl, rfl, rfl⟩⟩, by decide, rfl, trivial⟩ (LeE.upd rfl rfl (LeE.upd rfl rfl (LeE.upd rfl rfl (LeE.upd rfl rfl (LeE.upd rfl rfl (LeE.upd rfl rfl (LeE.noneD rfl rfl (.cons ⟨rfl, (LeV.upd rfl rfl (LeV.upd rfl rfl (LeV.upd rfl rfl (LeV.upd rfl rfl LeV.none)))), rfl, rfl, rfl, rfl⟩ .nil))))))))) rfl ?_
                refine W.now ?_
                have q0 := (Prod.mk.inj (Option.some.inj H)).1
                have q1 := (Prod.mk.inj (Prod.mk.inj (Option.some.inj H)).2).1
                have q2 := (Prod.mk.inj (Prod.mk.inj (Option.some.inj H)).2).2
                subst q0
                subst q1
                subst q2
                exact ⟨rfl, rfl, rfl⟩
              · replace H := cnf hb1676 H
                refine WPL.skipg (b' := false) rfl rfl (lb hb1676) rfl rfl ?_
                refine WPL.skipg (b' := false) rfl rfl (lb hb1676) rfl rfl ?_
                refine WPL.skipg (b' := false) rfl rfl (lb hb1676) rfl rfl ?_
                refine WPL.skipg (b' := false) rfl rfl (lb hb1676) rfl rfl ?_
                refine WPL.q (q_pickF (v := .lit (.bool _)) (lb hb1676) rfl) rfl ?_
                refine WPL.nilW ?_
                refine W.cv (Cv.weak (E' := (((((((⟨fun _ => .any, [], [⟨aC1471, (((((Env.none.upd 0 (.ro (Rd.slice (Rd.int .i64)) false x663)).upd 6 (.ptr 1 0)).upd 7 (.ptr 4 0)).upd 25 (.fn 22 [.ptr 5 0, .ptr 0 0]))).v, [6, 7], some (8, l_1471)⟩]⟩ : Env).upd 0 (.lit (.func (.yield l_1471) #[] #[]))).upd 2 (.ptr 0 0)).upd 6 (.ro (Rd.slice (Rd.int .i64)) false x663)).upd 7 (.lit (.int .i64 ((List.length x663 : Nat) : Int)))).upd 8 (.lit (.int .i64 x1544))).upd 21 (.lit (.bool false)))) (M' := (((((((((Mem.nil.push (.cells 3 [.lit (.int .i64 x1315)])).push (.cells 27 [.ptr 2 0])).push (.cells 52 [.lit (.int .i64 (List.getD x1545 0 (0 : Int))), .lit (.int .i64 (List.getD x1545 1 (0 : Int))), .lit (.int .i64 (List.getD x1545 2 (0 : Int))), .lit (.int .i64 (List.getD x1545 3 (0 : Int))), .lit (.int .i64 (List.getD x1545 4 (0 : Int))), .lit (.int .i64 (List.getD x1545 5 (0 : Int))), .lit (.int .i64 (List.getD x1545 6 (0 : Int))), .lit (.int .i64 (List.getD x1545 7 (0 : Int))), .lit (.int .i64 (List.getD x1545 8 (0 : Int))), .lit (.int .i64 (List.getD x1545 9 (0 : Int))), .lit (.int .i64 (List.getD x1545 10 (0 : Int))), .lit (.int .i64 (List.getD x1545 11 (0 : Int))), .lit (.int .i64 (List.getD x1545 12 (0 : Int))), .lit (.int .i64 (List.getD x1545 13 (0 : Int))), .lit (.int .i64 (List.getD x1545 14 (0 : Int))), .lit (.int .i64 (List.getD x1545 15 (0 : Int))), .whole 3])).push (.row 3 (Rd.int .i64) x1546)).push (.cells 3 [.lit (.int .i64 x1315)])).push (.cells 22 [.ro (Rd.slice (Rd.int .i64)) false x663])).push (.obj (Obj.deferred (some [])))).push (.bag)).push (.obj (lp r_1471 .ready none)))) [0, 1, 2, 3, 4, 5, 6, 7, 8] hnp ⟨rfl, ⟨⟨⟨⟨⟨⟨⟨⟨⟨trivial, .inr ⟨rfl, rfl, rfl⟩⟩, .inr ⟨rfl, rfl, rfl⟩⟩, .inr ⟨rfl, rfl, rfl⟩⟩, .inr ⟨rfl, rfl, rfl⟩⟩, .inr ⟨rfl, rfl, rfl⟩⟩, .inr ⟨rfl, rfl, rfl⟩⟩, .inr ⟨rfl, rfl, rfl⟩⟩, .inr ⟨rfl, rfl, rfl⟩⟩, .inr ⟨rfl, rfl, rfl⟩⟩, by decide, rfl, trivial⟩ (LeE.upd rfl rfl (LeE.upd rfl rfl (LeE.upd rfl rfl (LeE.upd rfl rfl (LeE.upd rfl rfl (LeE.upd rfl rfl (LeE.noneD rfl rfl (.cons ⟨rfl, (LeV.upd rfl rfl (LeV.upd rfl rfl (LeV.upd rfl rfl (LeV.upd rfl rfl LeV.none)))), rfl, rfl, rfl, rfl⟩ .nil))))))))) rfl ?_
                refine W.now ?_
                have q0 := (Prod.mk.inj (Option.some.inj H)).1
                have q1 := (Prod.mk.inj (Prod.mk.inj (Option.some.inj H)).2).1
                have q2 := (Prod.mk.inj (Prod.mk.inj (Option.some.inj H)).2).2
                subst q0
                subst q1
                subst q2
                exact ⟨rfl, rfl, rfl⟩
            · rintro _ _ _ ⟨rfl, rfl, rfl⟩
              refine W.now ?_
              refine Then.n ?_
              refine WP.cond (t := x1674) rfl (fun hb => ?_) (fun hb => ?_)
              · replace H := cnt hb H
                refine WP.retW ?_
                refine W.cv (Cv.weak (E' := (⟨fun _ => .any, [], [⟨aC1471, (((((Env.none.upd 0 (.ro (Rd.slice (Rd.int .i64)) false x663)).upd 6 (.ptr 0 0)).upd 7 (.ptr 3 0)).upd 25 (.fn 22 [.ptr 4 0, .ptr 5 0]))).v, [6, 7], some (8, l_1471)⟩]⟩ : Env)) (M' := (((((((((Mem.nil.push (.cells 27 [.ptr 1 0])).push (.cells 52 [.lit (.int .i64 (List.getD x1675 0 (0 : Int))), .lit (.int .i64 (List.getD x1675 1 (0 : Int))), .lit (.int .i64 (List.getD x1675 2 (0 : Int))), .lit (.int .i64 (List.getD x1675 3 (0 : Int))), .lit (.int .i64 (List.getD x1675 4 (0 : Int))), .lit (.int .i64 (List.getD x1675 5 (0 : Int))), .lit (.int .i64 (List.getD x1675 6 (0 : Int))), .lit (.int .i64 (List.getD x1675 7 (0 : Int))), .lit (.int .i64 (List.getD x1675 8 (0 : Int))), .lit (.int .i64 (List.getD x1675 9 (0 : Int))), .lit (.int .i64 (List.getD x1675 10 (0 : Int))), .lit (.int .i64 (List.getD x1675 11 (0 : Int))), .lit (.int .i64 (List.getD x1675 12 (0 : Int))), .lit (.int .i64 (List.getD x1675 13 (0 : Int))), .lit (.int .i64 (List.getD x1675 14 (0 : Int))), .lit (.int .i64 (List.getD x1675 15 (0 : Int))), .whole 2])).push (.row 3 (Rd.int .i64) x1676)).push (.cells 3 [.lit (.int .i64 x1315)])).push (.cells 22 [.ro (Rd.slice (Rd.int .i64)) false x663])).push (.cells 3 [.lit (.int .i64 x1315)])).push (.obj (Obj.deferred (some [])))).push (.bag)).push (.obj (lp r_1471 .ready none)))) [1, 2, 3, 4, 5, 0, 6, 7, 8] hnp ⟨rfl, ⟨⟨⟨⟨⟨⟨⟨⟨⟨trivial, .inr ⟨rfl, rfl, rfl⟩⟩, .inr ⟨rfl, rfl, rfl⟩⟩, .inr ⟨rfl, rfl, rfl⟩⟩, .inr ⟨rfl, rfl, rfl⟩⟩, .inr ⟨rfl, rfl, rfl⟩⟩, .inr ⟨rfl, rfl, rfl⟩⟩, .inr ⟨rfl, rfl, rfl⟩⟩, .inr ⟨rfl, rfl, rfl⟩⟩, .inr ⟨rfl, rfl, rfl⟩⟩, by decide, rfl, trivial⟩ (LeE.noneD rfl rfl (.cons ⟨rfl, (LeV.upd rfl rfl (LeV.upd rfl rfl (LeV.upd rfl rfl (LeV.upd rfl rfl LeV.none)))), rfl, rfl, rfl, rfl⟩ .nil))) rfl ?_
                refine W.now ?_
                refine InBlock.r ?_
                refine Then.r ?_
                refine Then.r ?_
                have q0 := Option.some.inj H
                subst q0
                exact ⟨rfl, rfl, rfl⟩
              · replace H := cnf hb H
                refine WP.skipW ?_
                refine W.now ?_
                refine InBlock.n ?_
                refine Then.n ?_
                refine WP.region ?_
                refine WPL.q (q_add rfl rfl) rfl ?_
                refine WPL.q (q_mv (v := .lit (.int _ _)) rfl) rfl ?_
                refine WPL.nilW ?_
                refine W.cv (Cv.weak (E' := ((((((⟨fun _ => .any, [], [⟨aC1471, (((((Env.none.upd 0 (.ro (Rd.slice (Rd.int .i64)) false x663)).upd 6 (.ptr 1 0)).upd 7 (.ptr 4 0)).upd 25 (.fn 22 [.ptr 5 0, .ptr 0 0]))).v, [6, 7], some (8, l_1471)⟩]⟩ : Env).upd 0 (.lit (.func (.yield l_1471) #[] #[]))).upd 2 (.ptr 0 0)).upd 6 (.ro (Rd.slice (Rd.int .i64)) false x663)).upd 7 (.lit (.int .i64 ((List.length x663 : Nat) : Int)))).upd 8 (.lit (.int .i64 (IntKind.wrap .i64 (x1544 + 1)))))) (M' := (((((((((Mem.nil.push (.cells 3 [.lit (.int .i64 x1315)])).push (.cells 27 [.ptr 2 0])).push (.cells 52 [.lit (.int .i64 (List.getD x1675 0 (0 : Int))), .lit (.int .i64 (List.getD x1675 1 (0 : Int))), .lit (.int .i64 (List.getD x1675 2 (0 : Int))), .lit (.int .i64 (List.getD x1675 3 (0 : Int))), .lit (.int .i64 (List.getD x1675 4 (0 : Int))), .lit (.int .i64 (List.getD x1675 5 (0 : Int))), .lit (.int .i64 (List.getD x1675 6 (0 : Int))), .lit (.int .i64 (List.getD x1675 7 (0 : Int))), .lit (.int .i64 (List.getD x1675 8 (0 : Int))), .lit (.int .i64 (List.getD x1675 9 (0 : Int))), .lit (.int .i64 (List.getD x1675 10 (0 : Int))), .lit (.int .i64 (List.getD x1675 11 (0 : Int))), .lit (.int .i64 (List.getD x1675 12 (0 : Int))), .lit (.int .i64 (List.getD x1675 13 (0 : Int))), .lit (.int .i64 (List.getD x1675 14 (0 : Int))), .lit (.int .i64 (List.getD x1675 15 (0 : Int))), .whole 3])).push (.row 3 (Rd.int .i64) x1676)).push (.cells 3 [.lit (.int .i64 x1315)])).push (.cells 22 [.ro (Rd.slice (Rd.int .i64)) false x663])).push (.obj (Obj.deferred (some [])))).push (.bag)).push (.obj (lp r_1471 .ready none)))) [0, 1, 2, 3, 4, 5, 6, 7, 8] hnp ⟨rfl, ⟨⟨⟨⟨⟨⟨⟨⟨⟨trivial, .inr ⟨rfl, rfl, rfl⟩⟩, .inr ⟨rfl, rfl, rfl⟩⟩, .inr ⟨rfl, rfl, rfl⟩⟩, .inr ⟨rfl, rfl, rfl⟩⟩, .inr ⟨rfl, rfl, rfl⟩⟩, .inr ⟨rfl, rfl, rfl⟩⟩, .inr ⟨rfl, rfl, rfl⟩⟩, .inr ⟨rfl, rfl, rfl⟩⟩, .inr ⟨rfl, rfl, rfl⟩⟩, by decide, rfl, trivial⟩ (LeE.upd rfl rfl (LeE.upd rfl rfl (LeE.upd rfl rfl (LeE.upd rfl rfl (LeE.upd rfl rfl (LeE.noneD rfl rfl (.cons ⟨rfl, (LeV.upd rfl rfl (LeV.upd rfl rfl (LeV.upd rfl rfl (LeV.upd rfl rfl LeV.none)))), rfl, rfl, rfl, rfl⟩ .nil)))))))) rfl ?_
                refine W.now ?_
                exact Then.n ⟨n, ((IntKind.wrap .i64 (x1544 + 1)), x1675, x1676), Nat.lt_succ_self n, H, rfl, rfl⟩
          · replace H := cnf hb H
            refine WP.exitW ?_
            refine W.cv (Cv.weak (E' := (⟨fun _ => .any, [], [⟨aC1471, (((((Env.none.upd 0 (.ro (Rd.slice (Rd.int .i64)) false x663)).upd 6 (.ptr 0 0)).upd 7 (.ptr 3 0)).upd 25 (.fn 22 [.ptr 4 0, .ptr 5 0]))).v, [6, 7], some (8, l_1471)⟩]⟩ : Env)) (M' := (((((((((Mem.nil.push (.cells 27 [.ptr 1 0])).push (.cells 52 [.lit (.int .i64 (List.getD x1545 0 (0 : Int))), .lit (.int .i64 (List.getD x1545 1 (0 : Int))), .lit (.int .i64 (List.getD x1545 2 (0 : Int))), .lit (.int .i64 (List.getD x1545 3 (0 : Int))), .lit (.int .i64 (List.getD x1545 4 (0 : Int))), .lit (.int .i64 (List.getD x1545 5 (0 : Int))), .lit (.int .i64 (List.getD x1545 6 (0 : Int))), .lit (.int .i64 (List.getD x1545 7 (0 : Int))), .lit (.int .i64 (List.getD x1545 8 (0 : Int))), .lit (.int .i64 (List.getD x1545 9 (0 : Int))), .lit (.int .i64 (List.getD x1545 10 (0 : Int))), .lit (.int .i64 (List.getD x1545 11 (0 : Int))), .lit (.int .i64 (List.getD x1545 12 (0 : Int))), .lit (.int .i64 (List.getD x1545 13 (0 : Int))), .lit (.int .i64 (List.getD x1545 14 (0 : Int))), .lit (.int .i64 (List.getD x1545 15 (0 : Int))), .whole 2])).push (.row 3 (Rd.int .i64) x1546)).push (.cells 3 [.lit (.int .i64 x1315)])).push (.cells 22 [.ro (Rd.slice (Rd.int .i64)) false x663])).push (.cells 3 [.lit (.int .i64 x1315)])).push (.obj (Obj.deferred (some [])))).push (.bag)).push (.obj (lp r_1471 .ready none)))) [1, 2, 3, 4, 5, 0, 6, 7, 8] hnp ⟨rfl, ⟨⟨⟨⟨⟨⟨⟨⟨⟨trivial, .inr ⟨rfl, rfl, rfl⟩⟩, .inr ⟨rfl, rfl, rfl⟩⟩, .inr ⟨rfl, rfl, rfl⟩⟩, .inr ⟨rfl, rfl, rfl⟩⟩, .inr ⟨rfl, rfl, rfl⟩⟩, .inr ⟨rfl, rfl, rfl⟩⟩, .inr ⟨rfl, rfl, rfl⟩⟩, .inr ⟨rfl, rfl, rfl⟩⟩, .inr ⟨rfl, rfl, rfl⟩⟩, by decide, rfl, trivial⟩ (LeE.noneD rfl rfl (.cons ⟨rfl, (LeV.upd rfl rfl (LeV.upd rfl rfl (LeV.upd rfl rfl (LeV.upd rfl rfl LeV.none)))), rfl, rfl, rfl, rfl⟩ .nil))) rfl ?_
            refine W.now ?_
            refine Then.x ?_
            refine Then.x ?_
            have q0 := Option.some.inj H
            subst q0
            exact ⟨rfl, rfl, rfl⟩
        · rcases y1694 with ⟨x1618, x1619⟩ | ⟨x1620, x1621⟩
          · rintro _ _ _ ⟨rfl, rfl, rfl⟩
            refine W.now ?_
            refine InBlock.r ?_
            refine ⟨trivial, _, _, _, _, rfl, _, _, rfl, (fun h => by cases h), ?_⟩
            refine W.cv (Cv.absorb (N := 9) (j := 6) (i := 7) rfl rfl rfl rfl) rfl ?_
            refine W.now ?_
            refine InBlock.n ?_
            refine InBlock.n ?_
            refine Then.n ?_
            refine WP.seq ?_
            refine WP.seq ?_
            refine WP.region ?_
            refine WPL.q (q_load sc3 rfl rfl rfl) rfl ?_
            refine WPL.nilW ?_
            refine W.now ?_
            refine Then.n ?_
            refine WP.region ?_
            refine WPL.d (d_alloc ze3 rfl) rfl ?_
            refine WPL.s (s_store sz3 rfl rfl rfl rfl rfl) ?_
            refine WPL.nilW ?_
            refine W.now ?_
            refine Then.n ?_
            refine WP.region ?_
            refine WPL.q (q_load sc3 rfl rfl rfl) rfl ?_
            refine WPL.q (q_add rfl rfl) rfl ?_
            refine WPL.s (s_store sz3 rfl rfl rfl rfl rfl) ?_
            refine WPL.nilW ?_
            refine W.cv (Cv.weak (E' := ((((⟨fun _ => .any, [4], []⟩ : Env).upd 0 (.ro (Rd.slice (Rd.int .i64)) false x663)).upd 6 (.ptr 0 0)).upd 7 (.ptr 3 0))) (M' := (((((Mem.nil.push (.cells 27 [.ptr 1 0])).push (.cells 52 [.lit (.int .i64 (List.getD x1618 0 (0 : Int))), .lit (.int .i64 (List.getD x1618 1 (0 : Int))), .lit (.int .i64 (List.getD x1618 2 (0 : Int))), .lit (.int .i64 (List.getD x1618 3 (0 : Int))), .lit (.int .i64 (List.getD x1618 4 (0 : Int))), .lit (.int .i64 (List.getD x1618 5 (0 : Int))), .lit (.int .i64 (List.getD x1618 6 (0 : Int))), .lit (.int .i64 (List.getD x1618 7 (0 : Int))), .lit (.int .i64 (List.getD x1618 8 (0 : Int))), .lit (.int .i64 (List.getD x1618 9 (0 : Int))), .lit (.int .i64 (List.getD x1618 10 (0 : Int))), .lit (.int .i64 (List.getD x1618 11 (0 : Int))), .lit (.int .i64 (List.getD x1618 12 (0 : Int))), .lit (.int .i64 (List.getD x1618 13 (0 : Int))), .lit (.int .i64 (List.getD x1618 14 (0 : Int))), .lit (.int .i64 (List.getD x1618 15 (0 : Int))), .whole 2])).push (.row 3 (Rd.int .i64) x1619)).push (.cells 3 [.lit (.int .i64 (IntKind.wrap .i64 (x1315 + 1)))])).push (.bag))) [0, 1, 2, 10, 9] hnp ⟨rfl, ⟨⟨⟨⟨⟨trivial, .inr ⟨rfl, rfl, rfl⟩⟩, .inr ⟨rfl, rfl, rfl⟩⟩, .inr ⟨rfl, rfl, rfl⟩⟩, .inr ⟨rfl, rfl, rfl⟩⟩, .inr ⟨rfl, rfl, rfl⟩⟩, by decide, rfl, trivial⟩ (LeE.upd rfl rfl (LeE.upd rfl rfl (LeE.upd rfl rfl (LeE.noneD rfl rfl .nil))))) rfl ?_
            refine W.now ?_
            exact Then.n ⟨n, (x1618, x1619, (IntKind.wrap .i64 (x1315 + 1))), Nat.lt_succ_self n, H, rfl, rfl⟩
          · rintro _ _ _ ⟨rfl, rfl, rfl⟩
            refine W.now ?_
            refine InBlock.x0 ?_
            refine ⟨trivial, _, _, _, _, rfl, _, _, rfl, (fun h => by cases h), ?_⟩
            refine W.cv (Cv.absorb (N := 9) (j := 6) (i := 7) rfl rfl rfl rfl) rfl ?_
            refine W.now ?_
            refine InBlock.n ?_
            refine InBlock.n ?_
            refine Then.n ?_
            refine WP.seq ?_
            refine WP.seq ?_
            refine WP.region ?_
            refine WPL.q (q_load sc3 rfl rfl rfl) rfl ?_
            refine WPL.nilW ?_
            refine W.now ?_
            refine Then.n ?_
            refine WP.region ?_
            refine WPL.d (d_alloc ze3 rfl) rfl ?_
            refine WPL.s (s_store sz3 rfl rfl rfl rfl rfl) ?_
            refine WPL.nilW ?_
            refine W.now ?_
            refine Then.n ?_
            refine WP.region ?_
            refine WPL.q (q_load sc3 rfl rfl rfl) rfl ?_
            refine WPL.q (q_add rfl rfl) rfl ?_
            refine WPL.s (s_store sz3 rfl rfl rfl rfl rfl) ?_
            refine WPL.nilW ?_
            refine W.cv (Cv.weak (E' := ((((⟨fun _ => .any, [4], []⟩ : Env).upd 0 (.ro (Rd.slice (Rd.int .i64)) false x663)).upd 6 (.ptr 0 0)).upd 7 (.ptr 3 0))) (M' := (((((Mem.nil.push (.cells 27 [.ptr 1 0])).push (.cells 52 [.lit (.int .i64 (List.getD x1620 0 (0 : Int))), .lit (.int .i64 (List.getD x1620 1 (0 : Int))), .lit (.int .i64 (List.getD x1620 2 (0 : Int))), .lit (.int .i64 (List.getD x1620 3 (0 : Int))), .lit (.int .i64 (List.getD x1620 4 (0 : Int))), .lit (.int .i64 (List.getD x1620 5 (0 : Int))), .lit (.int .i64 (List.getD x1620 6 (0 : Int))), .lit (.int .i64 (List.getD x1620 7 (0 : Int))), .lit (.int .i64 (List.getD x1620 8 (0 : Int))), .lit (.int .i64 (List.getD x1620 9 (0 : Int))), .lit (.int .i64 (List.getD x1620 10 (0 : Int))), .lit (.int .i64 (List.getD x1620 11 (0 : Int))), .lit (.int .i64 (List.getD x1620 12 (0 : Int))), .lit (.int .i64 (List.getD x1620 13 (0 : Int))), .lit (.int .i64 (List.getD x1620 14 (0 : Int))), .lit (.int .i64 (List.getD x1620 15 (0 : Int))), .whole 2])).push (.row 3 (Rd.int .i64) x1621)).push (.cells 3 [.lit (.int .i64 (IntKind.wrap .i64 (x1315 + 1)))])).push (.bag))) [0, 1, 2, 10, 9] hnp ⟨rfl, ⟨⟨⟨⟨⟨trivial, .inr ⟨rfl, rfl, rfl⟩⟩, .inr ⟨rfl, rfl, rfl⟩⟩, .inr ⟨rfl, rfl, rfl⟩⟩, .inr ⟨rfl, rfl, rfl⟩⟩, .inr ⟨rfl, rfl, rfl⟩⟩, by decide, rfl, trivial⟩ (LeE.upd rfl rfl (LeE.upd rfl rfl (LeE.upd rfl rfl (LeE.noneD rfl rfl .nil))))) rfl ?_
            refine W.now ?_
            exact Then.n ⟨n, (x1620, x1621, (IntKind.wrap .i64 (x1315 + 1))), Nat.lt_succ_self n, H, rfl, rfl⟩
      · replace H := cnf hb H
        refine WP.exitW ?_
        refine W.cv (Cv.weak (E' := ((⟨fun _ => .any, [3], []⟩ : Env).upd 6 (.ptr 0 0))) (M' := ((((Mem.nil.push (.cells 27 [.ptr 1 0])).push (.cells 52 [.lit (.int .i64 (List.getD x1313 0 (0 : Int))), .lit (.int .i64 (List.getD x1313 1 (0 : Int))), .lit (.int .i64 (List.getD x1313 2 (0 : Int))), .lit (.int .i64 (List.getD x1313 3 (0 : Int))), .lit (.int .i64 (List.getD x1313 4 (0 : Int))), .lit (.int .i64 (List.getD x1313 5 (0 : Int))), .lit (.int .i64 (List.getD x1313 6 (0 : Int))), .lit (.int .i64 (List.getD x1313 7 (0 : Int))), .lit (.int .i64 (List.getD x1313 8 (0 : Int))), .lit (.int .i64 (List.getD x1313 9 (0 : Int))), .lit (.int .i64 (List.getD x1313 10 (0 : Int))), .lit (.int .i64 (List.getD x1313 11 (0 : Int))), .lit (.int .i64 (List.getD x1313 12 (0 : Int))), .lit (.int .i64 (List.getD x1313 13 (0 : Int))), .lit (.int .i64 (List.getD x1313 14 (0 : Int))), .lit (.int .i64 (List.getD x1313 15 (0 : Int))), .whole 2])).push (.row 3 (Rd.int .i64) x1314)).push (.bag))) [0, 1, 2, 4] hnp ⟨rfl, ⟨⟨⟨⟨trivial, .inr ⟨rfl, rfl, rfl⟩⟩, .inr ⟨rfl, rfl, rfl⟩⟩, .inr ⟨rfl, rfl, rfl⟩⟩, .inr ⟨rfl, rfl, rfl⟩⟩, by decide, rfl, trivial⟩ (LeE.upd rfl rfl (LeE.noneD rfl rfl .nil))) rfl ?_
        refine W.now ?_
        refine Then.x ?_
        refine Then.x ?_
        have q0 := (Prod.mk.inj (Option.some.inj H)).1
        have q1 := (Prod.mk.inj (Option.some.inj H)).2
        subst q0
        subst q1
        exact ⟨rfl, rfl, rfl⟩
    · rintro _ _ _ ⟨rfl, rfl, rfl⟩
      refine W.now ?_
      refine InBlock.x0 ?_
      refine Then.n ?_
      refine WP.seq ?_
      refine WP.region ?_
      refine WPL.q (q_load sc27 rfl rfl rfl) rfl ?_
      refine WPL.q (q_as (v := .ptr _ _) rfl) rfl ?_
      refine WPL.q (q_as (v := .lit (.int _ _)) rfl) rfl ?_
      refine WPL.nilW ?_
      refine W.now ?_
      refine Then.n ?_
      refine WP.retW ?_
      refine W.now ?_
      have q0 := Option.some.inj H
      subst q0
      exact ⟨⟨.inr rfl, trivial⟩, _, rfl, [1, 2], (.tup [.ptr 0 0, .lit (.int .i64 0)]), ((Mem.nil.push (.cells 52 [.lit (.int .i64 (List.getD x1469 0 (0 : Int))), .lit (.int .i64 (List.getD x1469 1 (0 : Int))), .lit (.int .i64 (List.getD x1469 2 (0 : Int))), .lit (.int .i64 (List.getD x1469 3 (0 : Int))), .lit (.int .i64 (List.getD x1469 4 (0 : Int))), .lit (.int .i64 (List.getD x1469 5 (0 : Int))), .lit (.int .i64 (List.getD x1469 6 (0 : Int))), .lit (.int .i64 (List.getD x1469 7 (0 : Int))), .lit (.int .i64 (List.getD x1469 8 (0 : Int))), .lit (.int .i64 (List.getD x1469 9 (0 : Int))), .lit (.int .i64 (List.getD x1469 10 (0 : Int))), .lit (.int .i64 (List.getD x1469 11 (0 : Int))), .lit (.int .i64 (List.getD x1469 12 (0 : Int))), .lit (.int .i64 (List.getD x1469 13 (0 : Int))), .lit (.int .i64 (List.getD x1469 14 (0 : Int))), .lit (.int .i64 (List.getD x1469 15 (0 : Int))), .whole 1])).push (.row 3 (Rd.int .i64) x1470)), ⟨rfl, ⟨⟨trivial, .inr ⟨rfl, rfl, rfl⟩⟩, .inr ⟨rfl, rfl, rfl⟩⟩, by decide, rfl, trivial⟩, rfl, rfl, rfl, rfl⟩
end Go.Proofs.Ythgbompoldmhmab.W
