/- Walks: Fc0 -/
import Derived.Test.YthgbompoldmhmaaFb
namespace Go.Proofs.Ythgbompoldmhmaa.W
open Go Go.Q Go.Proofs
set_option linter.unusedVariables false
set_option linter.unusedSimpArgs false
set_option maxRecDepth 100000 in
set_option maxHeartbeats 4000000 in
theorem s32 (k : Nat) (x6 : (List Int)) (x79 : Bool) (x80 : Int) (H : f32 k x6 = some (x79, x80)) : Go.Q.Spec Try.prog 32 0 [.ro (Rd.slice (Rd.int .i64)) false x6] Mem.nil (fun o M => o = .ret (.tup [.lit (.bool x79), .lit (.int .i64 x80)]) ∧ M = Mem.nil) := by
  unfold f32 at H
  refine Go.Q.Spec.of_bodyR (rs := [.tmp 2, .tmp 3]) (nt := 45) Try.func32 rfl rfl (by intro t T h; simp at h) rfl rfl fun cx hnp => ?_
  refine WP.seq ?_
  refine WP.region ?_
  refine WPL.q (q_as (v := .lit (.bool _)) rfl) rfl ?_
  refine WPL.q (q_as (v := .lit (.int _ _)) rfl) rfl ?_
  refine WPL.nilW ?_
  refine W.now ?_
  refine Then.n ?_
  refine WP.seq ?_
  refine WP.seq ?_
  refine WP.region ?_
  refine WPL.q (q_mv (v := .ro _ _ _) rfl) rfl ?_
  refine WPL.q (q_len_ro sl22 rfl) rfl ?_
  obtain ⟨x82, h82, H⟩ := bnd H
  refine WPL.q (q_nm (q_gtr rfl rfl) (nm_bool h82)) rfl ?_
  refine WPL.nilW ?_
  refine W.now ?_
  refine Then.n ?_
  refine WP.cond (t := x82) rfl (fun hb => ?_) (fun hb => ?_)
  · replace H := cnt hb H
    refine WP.seq ?_
    refine WP.region ?_
    refine WPL.q (q_as (v := .lit (.bool _)) rfl) rfl ?_
    refine WPL.q (q_as (v := .lit (.int _ _)) rfl) rfl ?_
    refine WPL.nilW ?_
    refine W.now ?_
    refine Then.n ?_
    refine WP.retW ?_
    refine W.now ?_
    refine Then.r ?_
    have q0 := (Prod.mk.inj (Option.some.inj H)).1
    have q1 := (Prod.mk.inj (Option.some.inj H)).2
    subst q0
    subst q1
    exact ⟨trivial, _, rfl, [], (.tup [.lit (.bool false), .lit (.int .i64 1)]), Mem.nil, ⟨rfl, trivial, by decide, rfl, trivial⟩, rfl, rfl, rfl, rfl⟩
  · replace H := cnf hb H
    refine WP.skipW ?_
    refine W.now ?_
    refine Then.n ?_
    refine WP.seq ?_
    refine WP.region ?_
    refine WPL.q (q_as (v := .lit (.int _ _)) rfl) rfl ?_
    refine WPL.q (q_as (v := .lit (.int _ _)) rfl) rfl ?_
    refine WPL.nilW ?_
    refine W.now ?_
    refine Then.n ?_
    refine WP.seq ?_
    refine WP.seq ?_
    refine WP.region ?_
    refine WPL.q (q_mv (v := .ro _ _ _) rfl) rfl ?_
    refine WPL.q (q_len_ro sl22 rfl) rfl ?_
    refine WPL.q (q_mv (v := .lit (.int _ _)) rfl) rfl ?_
    refine WPL.nilW ?_
    refine W.now ?_
    refine Then.n ?_
    refine WP.block ?_
    refine WP.cv (Cv.weak (E' := (((((Env.none.upd 4 (.lit (.int .i64 32768))).upd 5 (.lit (.int .i64 0))).upd 11 (.ro (Rd.slice (Rd.int .i64)) false x6)).upd 12 (.lit (.int .i64 ((List.length x6 : Nat) : Int)))).upd 13 (.lit (.int .i64 0)))) (M' := Mem.nil) [] hnp ⟨rfl, trivial, by decide, rfl, trivial⟩ (LeE.upd rfl rfl (LeE.upd rfl rfl (LeE.upd rfl rfl (LeE.upd rfl rfl (LeE.upd rfl rfl (LeE.none rfl rfl))))))) ?_
    obtain ⟨y170, H168, H⟩ := bnd H
    refine WP.monoW (Q := fun x E M => match (generalizing := false) y170 with | (Sum.inl _) => x = .ret ∧ E = ((Env.none.upd 2 (.lit (.bool false))).upd 3 (.lit (.int .i64 1))) ∧ M = Mem.nil | (Sum.inr (x140, x141)) => x = .exit 0 ∧ E = ((Env.none.upd 4 (.lit (.int .i64 x140))).upd 5 (.lit (.int .i64 x141))) ∧ M = Mem.nil) ?_ ?_
    · refine WP.loop (β := Int × Int × Int) (fun n b => f32_l0 k x6 n b.1 b.2.1 b.2.2 = some y170) (fun b => (((((Env.none.upd 4 (.lit (.int .i64 b.1))).upd 5 (.lit (.int .i64 b.2.1))).upd 11 (.ro (Rd.slice (Rd.int .i64)) false x6)).upd 12 (.lit (.int .i64 ((List.length x6 : Nat) : Int)))).upd 13 (.lit (.int .i64 b.2.2)))) (fun b => Mem.nil) k (32768, 0, 0) H168 rfl rfl ?_
      rintro n ⟨x110, x111, x112⟩ H
      obtain _ | n := n
      · exact nf rfl H
      rw [f32_l0.eq_2] at H
      show WP _ _ _ _ (((((Env.none.upd 4 (.lit (.int .i64 x110))).upd 5 (.lit (.int .i64 x111))).upd 11 (.ro (Rd.slice (Rd.int .i64)) false x6)).upd 12 (.lit (.int .i64 ((List.length x6 : Nat) : Int)))).upd 13 (.lit (.int .i64 x112))) Mem.nil _
      refine WP.seq ?_
      refine WP.region ?_
      obtain ⟨x142, h142, H⟩ := bnd H
      refine WPL.q (q_nm (q_lss rfl rfl) (nm_bool h142)) rfl ?_
      refine WPL.nilW ?_
      refine W.now ?_
      refine Then.n ?_
      refine WP.seq ?_
      refine WP.cond (t := x142) rfl (fun hb => ?_) (fun hb => ?_)
      · replace H := cnt hb H
        refine WP.skipW ?_
        refine W.now ?_
        refine Then.n ?_
        refine WP.seq ?_
        obtain ⟨y168, H166, H⟩ := bnd H
        refine WP.monoW (Q := fun x E M => match (generalizing := false) y168 with | (Sum.inl _) => x = .ret ∧ E = ((Env.none.upd 2 (.lit (.bool false))).upd 3 (.lit (.int .i64 1))) ∧ M = Mem.nil | (Sum.inr (x154, x155)) => x = .normal ∧ E = (((((Env.none.upd 4 (.lit (.int .i64 x154))).upd 5 (.lit (.int .i64 x155))).upd 11 (.ro (Rd.slice (Rd.int .i64)) false x6)).upd 12 (.lit (.int .i64 ((List.length x6 : Nat) : Int)))).upd 13 (.lit (.int .i64 x112))) ∧ M = Mem.nil) ?_ ?_
        · clear H
          have H := H166
          clear H166
          refine WP.block ?_
          refine WP.seq ?_
          refine WP.region ?_
          obtain ⟨x156, h156, H⟩ := bnd H
          refine WPL.q (q_index_ro sl22 rfl rfl rfl h156) rfl ?_
          refine WPL.q (q_load_sc sc3 rfl) rfl ?_
          refine WPL.q (q_as (v := .lit (.int _ _)) rfl) rfl ?_
          refine WPL.nilW ?_
          refine W.now ?_
          refine Then.n ?_
          refine WP.seq ?_
          refine WP.seq ?_
          obtain ⟨x162, H163, H⟩ := bnd H
          refine WP.monoW (Q := fun x E M => x = .normal ∧ E = (((((((Env.none.upd 4 (.lit (.int .i64 x110))).upd 5 (.lit (.int .i64 x111))).upd 7 (.lit (.int .i64 x156))).upd 11 (.ro (Rd.slice (Rd.int .i64)) false x6)).upd 12 (.lit (.int .i64 ((List.length x6 : Nat) : Int)))).upd 13 (.lit (.int .i64 x112))).upd 22 (.lit (.bool x162))) ∧ M = Mem.nil) ?_ ?_
          · clear H
            have H := H163
            clear H163
            refine WP.region ?_
            refine WPL.q (q_mv (v := .lit (.int _ _)) rfl) rfl ?_
            refine WPL.q (q_lss rfl rfl) rfl ?_
            refine WPL.q (q_mv (v := .lit (.bool _)) rfl) rfl ?_
            refine WPL.split (t := 19) (b := (decide (x156 < 0))) rfl (fun hb162 => ?_) (fun hb162 => ?_)
            · replace H := cnt hb162 H
              refine WPL.skipg (b' := true) rfl rfl (lb hb162) rfl rfl ?_
              refine WPL.skipg (b' := true) rfl rfl (lb hb162) rfl rfl ?_
              refine WPL.q (q_pickT (v := .lit (.bool _)) (lb hb162) rfl) rfl ?_
              refine WPL.nilW ?_
              refine W.cv (Cv.weak (E' := (((((((Env.none.upd 4 (.lit (.int .i64 x110))).upd 5 (.lit (.int .i64 x111))).upd 7 (.lit (.int .i64 x156))).upd 11 (.ro (Rd.slice (Rd.int .i64)) false x6)).upd 12 (.lit (.int .i64 ((List.length x6 : Nat) : Int)))).upd 13 (.lit (.int .i64 x112))).upd 22 (.lit (.bool true)))) (M' := Mem.nil) [] hnp ⟨rfl, trivial, by decide, rfl, trivial⟩ (LeE.upd rfl rfl (LeE.upd rfl rfl (LeE.upd rfl rfl (LeE.upd rfl rfl (LeE.upd rfl rfl (LeE.upd rfl rfl (LeE.upd rfl rfl (LeE.none rfl rfl))))))))) rfl ?_
              refine W.now ?_
              have q0 := (Option.some.inj H)
              subst q0
              exact ⟨rfl, rfl, rfl⟩
            · replace H := cnf hb162 H
              refine WPL.qg rfl rfl (lb hb162) (q_mv (v := .lit (.int _ _)) rfl) rfl ?_
              refine WPL.qg rfl rfl (lb hb162) (q_gtr rfl rfl) rfl ?_
              refine WPL.q (q_pickF (v := .lit (.bool _)) (lb hb162) rfl) rfl ?_
              refine WPL.nilW ?_
              refine W.cv (Cv.weak (E' := (((((((Env.none.upd 4 (.lit (.int .i64 x110))).upd 5 (.lit (.int .i64 x111))).upd 7 (.lit (.int .i64 x156))).upd 11 (.ro (Rd.slice (Rd.int .i64)) false x6)).upd 12 (.lit (.int .i64 ((List.length x6 : Nat) : Int)))).upd 13 (.lit (.int .i64 x112))).upd 22 (.lit (.bool (decide (15 < x156)))))) (M' := Mem.nil) [] hnp ⟨rfl, trivial, by decide, rfl, trivial⟩ (LeE.upd rfl rfl (LeE.upd rfl rfl (LeE.upd rfl rfl (LeE.upd rfl rfl (LeE.upd rfl rfl (LeE.upd rfl rfl (LeE.upd rfl rfl (LeE.none rfl rfl))))))))) rfl ?_
              refine W.now ?_
              have q0 := (Option.some.inj H)
              subst q0
              exact ⟨rfl, rfl, rfl⟩
          · rintro _ _ _ ⟨rfl, rfl, rfl⟩
            refine W.now ?_
            refine Then.n ?_
            refine WP.cond (t := x162) rfl (fun hb => ?_) (fun hb => ?_)
            · replace H := cnt hb H
              refine WP.seq ?_
              refine WP.region ?_
              refine WPL.q (q_as (v := .lit (.bool _)) rfl) rfl ?_
              refine WPL.q (q_as (v := .lit (.int _ _)) rfl) rfl ?_
              refine WPL.nilW ?_
              refine W.now ?_
              refine Then.n ?_
              refine WP.retW ?_
              refine W.cv (Cv.weak (E' := ((Env.none.upd 2 (.lit (.bool false))).upd 3 (.lit (.int .i64 1)))) (M' := Mem.nil) [] hnp ⟨rfl, trivial, by decide, rfl, trivial⟩ (LeE.upd rfl rfl (LeE.upd rfl rfl (LeE.none rfl rfl)))) rfl ?_
              refine W.now ?_
              refine Then.r ?_
              refine InBlock.r ?_
              have q0 := Option.some.inj H
              subst q0
              exact ⟨rfl, rfl, rfl⟩
            · replace H := cnf hb H
              refine WP.skipW ?_
              refine W.now ?_
              refine Then.n ?_
              refine WP.seq ?_
              refine WP.region ?_
              refine WPL.q (q_mv (v := .lit (.int _ _)) rfl) rfl ?_
              refine WPL.q (q_gtr rfl rfl) rfl ?_
              refine WPL.nilW ?_
              refine W.now ?_
              refine Then.n ?_
              refine WP.cond (t := (decide (0 < x156))) rfl (fun hb => ?_) (fun hb => ?_)
              · replace H := cnt hb H
                refine WP.seq ?_
                refine WP.region ?_
                refine WPL.q (q_mv (v := .lit (.int _ _)) rfl) rfl ?_
                refine WPL.q (q_mv (v := .lit (.int _ _)) rfl) rfl ?_
                refine WPL.q (q_sub rfl rfl) rfl ?_
                obtain ⟨h164, H⟩ := grd H
                obtain ⟨x166, h166, H⟩ := bnd H
                refine WPL.q (q_nm (q_shl rfl rfl h164) (nm_int h166)) rfl ?_
                refine WPL.q (q_sub rfl rfl) rfl ?_
                refine WPL.q (q_as (v := .lit (.int _ _)) rfl) rfl ?_
                refine WPL.nilW ?_
                refine W.now ?_
                refine Then.n ?_
                refine WP.region ?_
                refine WPL.q (q_mv (v := .lit (.int _ _)) rfl) rfl ?_
                refine WPL.q (q_add rfl rfl) rfl ?_
                refine WPL.q (q_as (v := .lit (.int _ _)) rfl) rfl ?_
                refine WPL.nilW ?_
                refine W.cv (Cv.weak (E' := (((((Env.none.upd 4 (.lit (.int .i64 (IntKind.wrap .i64 (x110 - x166))))).upd 5 (.lit (.int .i64 (IntKind.wrap .i64 (x111 + 1))))).upd 11 (.ro (Rd.slice (Rd.int .i64)) false x6)).upd 12 (.lit (.int .i64 ((List.length x6 : Nat) : Int)))).upd 13 (.lit (.int .i64 x112)))) (M' := Mem.nil) [] hnp ⟨rfl, trivial, by decide, rfl, trivial⟩ (LeE.upd rfl rfl (LeE.upd rfl rfl (LeE.upd rfl rfl (LeE.upd rfl rfl (LeE.upd rfl rfl (LeE.none rfl rfl))))))) rfl ?_
                refine W.now ?_
                refine InBlock.n ?_
                have q0 := Option.some.inj H
                subst q0
                exact ⟨rfl, rfl, rfl⟩
              · replace H := cnf hb H
                refine WP.skipW ?_
                refine W.cv (Cv.weak (E' := (((((Env.none.upd 4 (.lit (.int .i64 x110))).upd 5 (.lit (.int .i64 x111))).upd 11 (.ro (Rd.slice (Rd.int .i64)) false x6)).upd 12 (.lit (.int .i64 ((List.length x6 : Nat) : Int)))).upd 13 (.lit (.int .i64 x112)))) (M' := Mem.nil) [] hnp ⟨rfl, trivial, by decide, rfl, trivial⟩ (LeE.upd rfl rfl (LeE.upd rfl rfl (LeE.upd rfl rfl (LeE.upd rfl rfl (LeE.upd rfl rfl (LeE.none rfl rfl))))))) rfl ?_
                refine W.now ?_
                refine InBlock.n ?_
                have q0 := Option.some.inj H
                subst q0
                exact ⟨rfl, rfl, rfl⟩
        · rcases y168 with _ | ⟨x154, x155⟩
          · rintro _ _ _ ⟨rfl, rfl, rfl⟩
            refine W.cv (Cv.weak (E' := ((Env.none.upd 2 (.lit (.bool false))).upd 3 (.lit (.int .i64 1)))) (M' := Mem.nil) [] hnp ⟨rfl, trivial, by decide, rfl, trivial⟩ (LeE.upd rfl rfl (LeE.upd rfl rfl (LeE.none rfl rfl)))) rfl ?_
            refine W.now ?_
            refine Then.r ?_
            refine Then.r ?_
            have q0 := Option.some.inj H
            subst q0
            exact ⟨rfl, rfl, rfl⟩
          · rintro _ _ _ ⟨rfl, rfl, rfl⟩
            refine W.now ?_
            refine Then.n ?_
            refine WP.region ?_
            refine WPL.q (q_add rfl rfl) rfl ?_
            refine WPL.q (q_mv (v := .lit (.int _ _)) rfl) rfl ?_
            refine WPL.nilW ?_
            refine W.cv (Cv.weak (E' := (((((Env.none.upd 4 (.lit (.int .i64 x154))).upd 5 (.lit (.int .i64 x155))).upd 11 (.ro (Rd.slice (Rd.int .i64)) false x6)).upd 12 (.lit (.int .i64 ((List.length x6 : Nat) : Int)))).upd 13 (.lit (.int .i64 (IntKind.wrap .i64 (x112 + 1)))))) (M' := Mem.nil) [] hnp ⟨rfl, trivial, by decide, rfl, trivial⟩ (LeE.upd rfl rfl (LeE.upd rfl rfl (LeE.upd rfl rfl (LeE.upd rfl rfl (LeE.upd rfl rfl (LeE.none rfl rfl))))))) rfl ?_
            refine W.now ?_
            exact Then.n ⟨n, (x154, x155, (IntKind.wrap .i64 (x112 + 1))), Nat.lt_succ_self n, H, rfl, rfl⟩
      · replace H := cnf hb H
        refine WP.exitW ?_
        refine W.cv (Cv.weak (E' := ((Env.none.upd 4 (.lit (.int .i64 x110))).upd 5 (.lit (.int .i64 x111)))) (M' := Mem.nil) [] hnp ⟨rfl, trivial, by decide, rfl, trivial⟩ (LeE.upd rfl rfl (LeE.upd rfl rfl (LeE.none rfl rfl)))) rfl ?_
        refine W.now ?_
        refine Then.x ?_
        refine Then.x ?_
        have q0 := Option.some.inj H
        subst q0
        exact ⟨rfl, rfl, rfl⟩
    · rcases y170 with _ | ⟨x140, x141⟩
      · rintro _ _ _ ⟨rfl, rfl, rfl⟩
        refine W.now ?_
        refine InBlock.r ?_
        refine Then.r ?_
        have q0 := (Prod.mk.inj (Option.some.inj H)).1
        have q1 := (Prod.mk.inj (Option.some.inj H)).2
        subst q0
        subst q1
        exact ⟨trivial, _, rfl, [], (.tup [.lit (.bool false), .lit (.int .i64 1)]), Mem.nil, ⟨rfl, trivial, by decide, rfl, trivial⟩, rfl, rfl, rfl, rfl⟩
      · rintro _ _ _ ⟨rfl, rfl, rfl⟩
        refine W.now ?_
        refine InBlock.x0 ?_
        refine Then.n ?_
        refine WP.seq ?_
        refine WP.block ?_
        refine WP.seq ?_
        refine WP.region ?_
        refine WPL.q (q_mv (v := .lit (.int _ _)) rfl) rfl ?_
        refine WPL.q (q_eql rfl rfl) rfl ?_
        refine WPL.q (q_as (v := .lit (.bool _)) rfl) rfl ?_
        refine WPL.nilW ?_
        refine W.now ?_
        refine Then.n ?_
        refine WP.cond (t := (decide (x140 = 0))) rfl (fun hb => ?_) (fun hb => ?_)
        · replace H := cnt hb H
          refine WP.seq ?_
          refine WP.region ?_
          refine WPL.q (q_as (v := .lit (.bool _)) rfl) rfl ?_
          refine WPL.q (q_as (v := .lit (.int _ _)) rfl) rfl ?_
          refine WPL.nilW ?_
          refine W.now ?_
          refine Then.n ?_
          refine WP.retW ?_
          refine W.now ?_
          refine InBlock.r ?_
          refine Then.r ?_
          have q0 := (Prod.mk.inj (Option.some.inj H)).1
          have q1 := (Prod.mk.inj (Option.some.inj H)).2
          subst q0
          subst q1
          exact ⟨trivial, _, rfl, [], (.tup [.lit (.bool true), .lit (.int .i64 0)]), Mem.nil, ⟨rfl, trivial, by decide, rfl, trivial⟩, rfl, rfl, rfl, rfl⟩
        · replace H := cnf hb H
          refine WP.seq ?_
          obtain ⟨x176, H177, H⟩ := bnd H
          refine WP.monoW (Q := fun x E M => x = .normal ∧ E = (Env.none.upd 36 (.lit (.bool x176))) ∧ M = Mem.nil) ?_ ?_
          · clear H
            have H := H177
            clear H177
            refine WP.seq ?_
            refine WP.region ?_
            refine WPL.q (q_mv (v := .lit (.int _ _)) rfl) rfl ?_
            refine WPL.q (q_eql rfl rfl) rfl ?_
            refine WPL.q (q_as (v := .lit (.bool _)) rfl) rfl ?_
            refine WPL.nilW ?_
            refine W.now ?_
            refine Then.n ?_
            refine WP.cond (t := (decide (x141 = 0))) rfl (fun hb => ?_) (fun hb => ?_)
            · replace H := cnt hb H
              refine WP.skipW ?_
              refine W.cv (Cv.weak (E' := (Env.none.upd 36 (.lit (.bool (decide (x141 = 0)))))) (M' := Mem.nil) [] hnp ⟨rfl, trivial, by decide, rfl, trivial⟩ (LeE.upd rfl rfl (LeE.none rfl rfl))) rfl ?_
              refine W.now ?_
              have q0 := (Option.some.inj H)
              subst q0
              exact ⟨rfl, rfl, rfl⟩
            · replace H := cnf hb H
              refine WP.region ?_
              refine WPL.q (q_mv (v := .lit (.int _ _)) rfl) rfl ?_
              refine WPL.q (q_eql rfl rfl) rfl ?_
              refine WPL.q (q_mv (v := .lit (.bool _)) rfl) rfl ?_
              refine WPL.split (t := 41) (b := (decide (x141 = 1))) rfl (fun hb176 => ?_) (fun hb176 => ?_)
              · replace H := cnt hb176 H
                refine WPL.qg rfl rfl (lb hb176) (q_mv (v := .lit (.int _ _)) rfl) rfl ?_
                refine WPL.qg rfl rfl (lb hb176) (q_eql rfl rfl) rfl ?_
                refine WPL.q (q_pickT (v := .lit (.bool _)) (lb hb176) rfl) rfl ?_
                refine WPL.q (q_as (v := .lit (.bool _)) rfl) rfl ?_
                refine WPL.nilW ?_
                refine W.cv (Cv.weak (E' := (Env.none.upd 36 (.lit (.bool (decide (x140 = 16384)))))) (M' := Mem.nil) [] hnp ⟨rfl, trivial, by decide, rfl, trivial⟩ (LeE.upd rfl rfl (LeE.none rfl rfl))) rfl ?_
                refine W.now ?_
                have q0 := (Option.some.inj H)
                subst q0
                exact ⟨rfl, rfl, rfl⟩
              · replace H := cnf hb176 H
                refine WPL.skipg (b' := false) rfl rfl (lb hb176) rfl rfl ?_
                refine WPL.skipg (b' := false) rfl rfl (lb hb176) rfl rfl ?_
                refine WPL.q (q_pickF (v := .lit (.bool _)) (lb hb176) rfl) rfl ?_
                refine WPL.q (q_as (v := .lit (.bool _)) rfl) rfl ?_
                refine WPL.nilW ?_
                refine W.cv (Cv.weak (E' := (Env.none.upd 36 (.lit (.bool false)))) (M' := Mem.nil) [] hnp ⟨rfl, trivial, by decide, rfl, trivial⟩ (LeE.upd rfl rfl (LeE.none rfl rfl))) rfl ?_
                refine W.now ?_
                have q0 := (Option.some.inj H)
                subst q0
                exact ⟨rfl, rfl, rfl⟩
          · rintro _ _ _ ⟨rfl, rfl, rfl⟩
            refine W.now ?_
            refine Then.n ?_
            refine WP.cond (t := x176) rfl (fun hb => ?_) (fun hb => ?_)
            · replace H := cnt hb H
              refine WP.seq ?_
              refine WP.region ?_
              refine WPL.q (q_as (v := .lit (.bool _)) rfl) rfl ?_
              refine WPL.q (q_as (v := .lit (.int _ _)) rfl) rfl ?_
              refine WPL.nilW ?_
              refine W.now ?_
              refine Then.n ?_
              refine WP.retW ?_
              refine W.now ?_
              refine InBlock.r ?_
              refine Then.r ?_
              have q0 := (Prod.mk.inj (Option.some.inj H)).1
              have q1 := (Prod.mk.inj (Option.some.inj H)).2
              subst q0
              subst q1
              exact ⟨trivial, _, rfl, [], (.tup [.lit (.bool false), .lit (.int .i64 0)]), Mem.nil, ⟨rfl, trivial, by decide, rfl, trivial⟩, rfl, rfl, rfl, rfl⟩
            · replace H := cnf hb H
              refine WP.skipW ?_
              refine W.now ?_
              refine InBlock.n ?_
              refine Then.n ?_
              refine WP.seq ?_
              refine WP.region ?_
              refine WPL.q (q_as (v := .lit (.bool _)) rfl) rfl ?_
              refine WPL.q (q_as (v := .lit (.int _ _)) rfl) rfl ?_
              refine WPL.nilW ?_
              refine W.now ?_
              refine Then.n ?_
              refine WP.retW ?_
              refine W.now ?_
              have q0 := (Prod.mk.inj (Option.some.inj H)).1
              have q1 := (Prod.mk.inj (Option.some.inj H)).2
              subst q0
              subst q1
              exact ⟨trivial, _, rfl, [], (.tup [.lit (.bool false), .lit (.int .i64 11)]), Mem.nil, ⟨rfl, trivial, by decide, rfl, trivial⟩, rfl, rfl, rfl, rfl⟩
set_option maxRecDepth 100000 in
set_option maxHeartbeats 4000000 in
theorem s33 (k : Nat) (x186 : (List Int)) (x187 : Int) (H : f33 k x186 x187 = some ()) : Go.Q.Spec Try.prog 33 0 [.ro (Rd.slice (Rd.int .i64)) false x186, .lit (.int .i64 x187)] Mem.nil (fun o M => o = .ret (.fn 41 [.ptr 0 0, .ptr 1 0]) ∧ M = ((Mem.nil.push (.cells 22 [.ro (Rd.slice (Rd.int .i64)) false x186])).push (.cells 3 [.lit (.int .i64 x187)]))) := by
  unfold f33 at H
  refine Go.Q.Spec.of_bodyR (rs := [.tmp 4]) (nt := 6) Try.func33 rfl rfl (by intro t T h; simp at h) rfl rfl fun cx hnp => ?_
  refine WP.seq ?_
  refine WP.region ?_
  refine WPL.d (d_box rfl rfl) rfl ?_
  refine WPL.d (d_box rfl rfl) rfl ?_
  refine WPL.q (q_as (v := .lit _) rfl) rfl ?_
  refine WPL.nilW ?_
  refine W.now ?_
  refine Then.n ?_
  refine WP.seq ?_
  refine WP.region ?_
  refine WPL.q (q_makeFunc) rfl ?_
  refine WPL.q (q_as (v := .fn _ _) rfl) rfl ?_
  refine WPL.nilW ?_
  refine W.now ?_
  refine Then.n ?_
  refine WP.retW ?_
  refine W.now ?_
  exact ⟨trivial, _, rfl, [0, 1], (.fn 41 [.ptr 0 0, .ptr 1 0]), ((Mem.nil.push (.cells 22 [.ro (Rd.slice (Rd.int .i64)) false x186])).push (.cells 3 [.lit (.int .i64 x187)])), ⟨rfl, ⟨⟨trivial, .inr ⟨rfl, rfl, rfl⟩⟩, .inr ⟨rfl, rfl, rfl⟩⟩, by decide, rfl, trivial⟩, rfl, rfl, rfl, rfl⟩
set_option maxRecDepth 100000 in
set_option maxHeartbeats 4000000 in
theorem s14 (k : Nat) (x4 : (List Int)) (x365 : (List Int)) (x366 : Int) (H : f14 k x4 = some (x365, x366)) : Go.Q.Spec Try.prog 14 0 [.ro (Rd.slice (Rd.int .i64)) false x4] Mem.nil (fun o M => o = .ret (.tup [.ro (Rd.slice (Rd.int .u32)) false x365, .lit (.int .i64 x366)]) ∧ M = Mem.nil) := by
  unfold f14 at H
  refine Go.Q.Spec.of_bodyR (rs := [.tmp 2, .tmp 3]) (nt := 38) Try.func14 rfl rfl (by intro t T h; simp at h) rfl rfl fun cx hnp => ?_
  refine WP.seq ?_
  refine WP.region ?_
  refine WPL.q (q_as (v := .lit _) rfl) rfl ?_
  refine WPL.q (q_as (v := .lit (.int _ _)) rfl) rfl ?_
  refine WPL.nilW ?_
  refine W.now ?_
  refine Then.n ?_
  refine WP.seq ?_
  refine WP.seq ?_
  refine WP.region ?_
  refine WPL.q (q_mv (v := .ro _ _ _) rfl) rfl ?_
  obtain ⟨⟨x371, x372⟩, h369, H⟩ := bnd H
  refine WPL.c (runs_call (s := []) (t := []) (N := 0) (bor := []) fn32 rfl (s32 k x4 x371 x372 h369) ⟨rfl, trivial, by decide, rfl, trivial⟩ rfl trivial (.ren rfl rfl .nil) rfl trivial rfl) rfl ?_
  refine WPL.q (q_mv (v := .tup _) rfl) rfl ?_
  refine WPL.q (q_extract rfl rfl) rfl ?_
  refine WPL.q (q_extract rfl rfl) rfl ?_
  refine WPL.q (q_as (v := .lit (.bool _)) rfl) rfl ?_
  refine WPL.q (q_as (v := .lit (.int _ _)) rfl) rfl ?_
  refine WPL.nilW ?_
  refine W.now ?_
  refine Then.n ?_
  refine WP.seq ?_
  refine WP.region ?_
  refine WPL.q (q_mv (v := .lit (.int _ _)) rfl) rfl ?_
  refine WPL.q (q_neq rfl rfl) rfl ?_
  refine WPL.nilW ?_
  refine W.now ?_
  refine Then.n ?_
  refine WP.cond (t := (!decide (x372 = 0))) rfl (fun hb => ?_) (fun hb => ?_)
  · replace H := cnt hb H
    refine WP.seq ?_
    refine WP.region ?_
    refine WPL.q (q_mv (v := .lit (.int _ _)) rfl) rfl ?_
    refine WPL.q (q_as (v := .lit _) rfl) rfl ?_
    refine WPL.q (q_as (v := .lit (.int _ _)) rfl) rfl ?_
    refine WPL.nilW ?_
    refine W.now ?_
    refine Then.n ?_
    refine WP.retW ?_
    refine W.cv (Cv.nilRo (Rd.int .u32) false 2 rfl) rfl ?_
    refine W.now ?_
    refine Then.r ?_
    have q0 := (Prod.mk.inj (Option.some.inj H)).1
    have q1 := (Prod.mk.inj (Option.some.inj H)).2
    subst q0
    subst q1
    exact ⟨trivial, _, rfl, [], (.tup [.ro (Rd.slice (Rd.int .u32)) false ([] : List Int), .lit (.int .i64 x372)]), Mem.nil, ⟨rfl, trivial, by decide, rfl, trivial⟩, rfl, rfl, rfl, rfl⟩
  · replace H := cnf hb H
    refine WP.skipW ?_
    refine W.now ?_
    refine Then.n ?_
    refine WP.seq ?_
    refine WP.region ?_
    refine WPL.q (q_mv (v := .ro _ _ _) rfl) rfl ?_
    refine WPL.q (q_len_ro sl22 rfl) rfl ?_
    obtain ⟨h372, H⟩ := grd H
    refine WPL.d (d_make (d := (0 : Int)) (R := (Rd.int .u32)) li32 by35 rfl rfl rfl Joins.sc rfl rfl h372 rfl) rfl ?_
    refine WPL.d (d_alloc ze32 rfl) rfl ?_
    refine WPL.s (s_store sz32 rfl rfl rfl rfl rfl) ?_
    refine WPL.nilW ?_
    refine W.now ?_
    refine Then.n ?_
    refine WP.seq ?_
    refine WP.region ?_
    refine WPL.d (d_alloc ze35 rfl) rfl ?_
    refine WPL.s (s_store sz35 rfl rfl rfl rfl rfl) ?_
    refine WPL.nilW ?_
    refine W.now ?_
    refine Then.n ?_
    refine WP.seq ?_
    refine WP.seq ?_
    refine WP.region ?_
    refine WPL.q (q_as (v := .lit (.int _ _)) rfl) rfl ?_
    refine WPL.nilW ?_
    refine W.now ?_
    refine Then.n ?_
    refine WP.block ?_
    refine WP.cv (Cv.nullMark (N := 3) rfl rfl) ?_
    refine WP.cv (Cv.weak (E' := (((((⟨fun _ => .any, [3], []⟩ : Env).upd 0 (.ro (Rd.slice (Rd.int .i64)) false x4)).upd 6 (.ptr 0 0)).upd 7 (.ptr 2 0)).upd 8 (.lit (.int .i64 1)))) (M' := ((((Mem.nil.push (.cells 32 [.whole 1])).push (.row 35 (Rd.int .u32) (List.replicate (Int.toNat ((List.length x4 : Nat) : Int)) (0 : Int)))).push (.cells 35 [.lit (.int .u32 0)])).push (.bag))) [1, 0, 2, 3] hnp ⟨rfl, ⟨⟨⟨⟨trivial, .inr ⟨rfl, rfl, rfl⟩⟩, .inr ⟨rfl, rfl, rfl⟩⟩, .inr ⟨rfl, rfl, rfl⟩⟩, .inr ⟨rfl, rfl, rfl⟩⟩, by decide, rfl, trivial⟩ (LeE.upd rfl rfl (LeE.upd rfl rfl (LeE.upd rfl rfl (LeE.upd rfl rfl (LeE.noneD rfl rfl .nil)))))) ?_
    obtain ⟨x548, H628, H⟩ := bnd H
    refine WP.monoW (Q := fun x E M => x = .exit 0 ∧ E = ((⟨fun _ => .any, [2], []⟩ : Env).upd 6 (.ptr 0 0)) ∧ M = (((Mem.nil.push (.cells 32 [.whole 1])).push (.row 35 (Rd.int .u32) x548)).push (.bag))) ?_ ?_
    · refine WP.loop (β := Int × (List Int) × Int) (fun n b => f14_l0 k x4 n b.1 b.2.1 b.2.2 = some x548) (fun b => (((((⟨fun _ => .any, [3], []⟩ : Env).upd 0 (.ro (Rd.slice (Rd.int .i64)) false x4)).upd 6 (.ptr 0 0)).upd 7 (.ptr 2 0)).upd 8 (.lit (.int .i64 b.1)))) (fun b => ((((Mem.nil.push (.cells 32 [.whole 1])).push (.row 35 (Rd.int .u32) b.2.1)).push (.cells 35 [.lit (.int .u32 b.2.2)])).push (.bag))) k (1, (List.replicate (Int.toNat ((List.length x4 : Nat) : Int)) (0 : Int)), 0) H628 rfl rfl ?_
      rintro n ⟨x488, x489, x490⟩ H
      obtain _ | n := n
      · exact nf rfl H
      rw [f14_l0.eq_2] at H
      show WP _ _ _ _ (((((⟨fun _ => .any, [3], []⟩ : Env).upd 0 (.ro (Rd.slice (Rd.int .i64)) false x4)).upd 6 (.ptr 0 0)).upd 7 (.ptr 2 0)).upd 8 (.lit (.int .i64 x488))) ((((Mem.nil.push (.cells 32 [.whole 1])).push (.row 35 (Rd.int .u32) x489)).push (.cells 35 [.lit (.int .u32 x490)])).push (.bag)) _
      refine WP.seq ?_
      refine WP.seq ?_
      refine WP.region ?_
      refine WPL.q (q_mv (v := .lit (.int _ _)) rfl) rfl ?_
      refine WPL.q (q_leq rfl rfl) rfl ?_
      refine WPL.nilW ?_
      refine W.now ?_
      refine Then.n ?_
      refine WP.cond (t := (decide (x488 ≤ 15))) rfl (fun hb => ?_) (fun hb => ?_)
      · replace H := cnt hb H
        refine WP.skipW ?_
        refine W.now ?_
        refine Then.n ?_
        refine WP.seq ?_
        refine WP.block ?_
        refine WP.seq ?_
        refine WP.region ?_
        refine WPL.q (q_load sc35 rfl rfl rfl) rfl ?_
        refine WPL.q (q_shl rfl rfl rfl) rfl ?_
        refine WPL.s (s_store sz35 rfl rfl rfl rfl rfl) ?_
        refine WPL.nilW ?_
        refine W.now ?_
        refine Then.n ?_
        refine WP.seq ?_
        refine WP.region ?_
        refine WPL.q (q_mv (v := .ro _ _ _) rfl) rfl ?_
        refine WPL.q (q_mv (v := .lit (.int _ _)) rfl) rfl ?_
        obtain ⟨_, h548, H⟩ := bnd H
        refine WPL.c (runs_call (s := []) (t := [4, 5]) (N := 6) (bor := []) fn33 rfl (s33 k x4 x488 h548) ⟨rfl, trivial, by decide, rfl, trivial⟩ rfl trivial (.ren rfl rfl (.ren rfl rfl .nil)) rfl ⟨⟨trivial, rfl⟩, rfl⟩ rfl) rfl ?_
        refine WPL.nilW ?_
        refine W.now ?_
        refine Then.n ?_
        refine WP.block ?_
        refine WP.range (nti := 23) (n := 6) rfl rfl Try.func41 rfl (by kernel_rfl) rfl rfl rfl rfl fun l_549 r_549 aC549 hp549 ha549 hb549 ht549 hs549 => ?_
        refine WP.seq ?_
        refine WP.region ?_
        refine WPL.q (q_load sc22 rfl rfl rfl) rfl ?_
        refine WPL.q (q_len_ro sl22 rfl) rfl ?_
        refine WPL.q (q_mv (v := .lit (.int _ _)) rfl) rfl ?_
        refine WPL.nilW ?_
        refine W.now ?_
        refine Then.n ?_
        refine WP.block ?_
        refine WP.cv (Cv.weak (E' := ((((((⟨fun _ => .any, [], [⟨aC549, ((((((Env.none.upd 0 (.ro (Rd.slice (Rd.int .i64)) false x4)).upd 6 (.ptr 1 0)).upd 7 (.ptr 3 0)).upd 8 (.lit (.int .i64 x488))).upd 29 (.fn 41 [.ptr 4 0, .ptr 0 0]))).v, [5, 6], some (7, l_549)⟩]⟩ : Env).upd 0 (.lit (.func (.yield l_549) #[] #[]))).upd 2 (.ptr 0 0)).upd 6 (.ro (Rd.slice (Rd.int .i64)) false x4)).upd 7 (.lit (.int .i64 ((List.length x4 : Nat) : Int)))).upd 8 (.lit (.int .i64 0)))) (M' := ((((((((Mem.nil.push (.cells 3 [.lit (.int .i64 x488)])).push (.cells 32 [.whole 2])).push (.row 35 (Rd.int .u32) x489)).push (.cells 35 [.lit (.int .u32 (shlI .u32 x490 1))])).push (.cells 22 [.ro (Rd.slice (Rd.int .i64)) false x4])).push (.obj (Obj.deferred (some [])))).push (.bag)).push (.obj (lp r_549 .ready none)))) [5, 0, 1, 2, 4, 6, 3, 7] hnp ⟨rfl, ⟨⟨⟨⟨⟨⟨⟨⟨trivial, .inr ⟨rfl, rfl, rfl⟩⟩, .inr ⟨rfl, rfl, rfl⟩⟩, .inr ⟨rfl, rfl, rfl⟩⟩, .inr ⟨rfl, rfl, rfl⟩⟩, .inr ⟨rfl, rfl, rfl⟩⟩, .inr ⟨rfl, rfl, rfl⟩⟩, .inr ⟨rfl, rfl, rfl⟩⟩, .inr ⟨rfl, rfl, rfl⟩⟩, by decide, rfl, trivial⟩ (LeE.upd rfl rfl (LeE.upd rfl rfl (LeE.upd rfl rfl (LeE.upd rfl rfl (LeE.upd rfl rfl (LeE.noneD rfl rfl (.cons ⟨rfl, (LeV.upd rfl rfl (LeV.upd rfl rfl (LeV.upd rfl rfl (LeV.upd rfl rfl (LeV.upd rfl rfl LeV.none))))), rfl, rfl, rfl, rfl⟩ .nil)))))))) ?_
        obtain ⟨y628, H626, H⟩ := bnd H
        refine WP.monoW (Q := fun x E M => match (generalizing := false) y628 with | (Sum.inl (x600, x601)) => x = .ret ∧ E = (⟨fun _ => .any, [], [⟨aC549, ((((((Env.none.upd 0 (.ro (Rd.slice (Rd.int .i64)) false x4)).upd 6 (.ptr 0 0)).upd 7 (.ptr 2 0)).upd 8 (.lit (.int .i64 x488))).upd 29 (.fn 41 [.ptr 3 0, .ptr 4 0]))).v, [5, 6], some (7, l_549)⟩]⟩ : Env) ∧ M = ((((((((Mem.nil.push (.cells 32 [.whole 1])).push (.row 35 (Rd.int .u32) x600)).push (.cells 35 [.lit (.int .u32 x601)])).push (.cells 22 [.ro (Rd.slice (Rd.int .i64)) false x4])).push (.cells 3 [.lit (.int .i64 x488)])).push (.obj (Obj.deferred (some [])))).push (.bag)).push (.obj (lp r_549 .ready none))) | (Sum.inr (x602, x603)) => x = .exit 0 ∧ E = (⟨fun _ => .any, [], [⟨aC549, ((((((Env.none.upd 0 (.ro (Rd.slice (Rd.int .i64)) false x4)).upd 6 (.ptr 0 0)).upd 7 (.ptr 2 0)).upd 8 (.lit (.int .i64 x488))).upd 29 (.fn 41 [.ptr 3 0, .ptr 4 0]))).v, [5, 6], some (7, l_549)⟩]⟩ : Env) ∧ M = ((((((((Mem.nil.push (.cells 32 [.whole 1])).push (.row 35 (Rd.int .u32) x602)).push (.cells 35 [.lit (.int .u32 x603)])).push (.cells 22 [.ro (Rd.slice (Rd.int .i64)) false x4])).push (.cells 3 [.lit (.int .i64 x488)])).push (.obj (Obj.deferred (some [])))).push (.bag)).push (.obj (lp r_549 .ready none)))) ?_ ?_
        · refine WP.loop (β := Int × (List Int) × Int) (fun n b => f14_l1 k x4 x488 n b.1 b.2.1 b.2.2 = some y628) (fun b => ((((((⟨fun _ => .any, [], [⟨aC549, ((((((Env.none.upd 0 (.ro (Rd.slice (Rd.int .i64)) false x4)).upd 6 (.ptr 1 0)).upd 7 (.ptr 3 0)).upd 8 (.lit (.int .i64 x488))).upd 29 (.fn 41 [.ptr 4 0, .ptr 0 0]))).v, [5, 6], some (7, l_549)⟩]⟩ : Env).upd 0 (.lit (.func (.yield l_549) #[] #[]))).upd 2 (.ptr 0 0)).upd 6 (.ro (Rd.slice (Rd.int .i64)) false x4)).upd 7 (.lit (.int .i64 ((List.length x4 : Nat) : Int)))).upd 8 (.lit (.int .i64 b.1)))) (fun b => ((((((((Mem.nil.push (.cells 3 [.lit (.int .i64 x488)])).push (.cells 32 [.whole 2])).push (.row 35 (Rd.int .u32) b.2.1)).push (.cells 35 [.lit (.int .u32 b.2.2)])).push (.cells 22 [.ro (Rd.slice (Rd.int .i64)) false x4])).push (.obj (Obj.deferred (some [])))).push (.bag)).push (.obj (lp r_549 .ready none)))) k (0, x489, (shlI .u32 x490 1)) H626 rfl rfl ?_
          rintro n ⟨x574, x575, x576⟩ H
          obtain _ | n := n
          · exact nf rfl H
          rw [f14_l1.eq_2] at H
          show WP _ _ _ _ ((((((⟨fun _ => .any, [], [⟨aC549, ((((((Env.none.upd 0 (.ro (Rd.slice (Rd.int .i64)) false x4)).upd 6 (.ptr 1 0)).upd 7 (.ptr 3 0)).upd 8 (.lit (.int .i64 x488))).upd 29 (.fn 41 [.ptr 4 0, .ptr 0 0]))).v, [5, 6], some (7, l_549)⟩]⟩ : Env).upd 0 (.lit (.func (.yield l_549) #[] #[]))).upd 2 (.ptr 0 0)).upd 6 (.ro (Rd.slice (Rd.int .i64)) false x4)).upd 7 (.lit (.int .i64 ((List.length x4 : Nat) : Int)))).upd 8 (.lit (.int .i64 x574))) ((((((((Mem.nil.push (.cells 3 [.lit (.int .i64 x488)])).push (.cells 32 [.whole 2])).push (.row 35 (Rd.int .u32) x575)).push (.cells 35 [.lit (.int .u32 x576)])).push (.cells 22 [.ro (Rd.slice (Rd.int .i64)) false x4])).push (.obj (Obj.deferred (some [])))).push (.bag)).push (.obj (lp r_549 .ready none))) _
          refine WP.seq ?_
          refine WP.region ?_
          obtain ⟨x604, h604, H⟩ := bnd H
          refine WPL.q (q_nm (q_lss rfl rfl) (nm_bool h604)) rfl ?_
          refine WPL.nilW ?_
          refine W.now ?_
          refine Then.n ?_
          refine WP.seq ?_
          refine WP.cond (t := x604) rfl (fun hb => ?_) (fun hb => ?_)
          · replace H := cnt hb H
            refine WP.skipW ?_
            refine W.now ?_
            refine Then.n ?_
            refine WP.seq ?_
            refine WP.block ?_
            refine WP.seq ?_
            refine WP.region ?_
            refine WPL.q (q_mv (v := .lit (.int _ _)) rfl) rfl ?_
            obtain ⟨x616, h616, H⟩ := bnd H
            refine WPL.q (q_index_ro sl22 rfl rfl rfl h616) rfl ?_
            refine WPL.q (q_load_sc sc3 rfl) rfl ?_
            refine WPL.q (q_as (v := .lit (.int _ _)) rfl) rfl ?_
            refine WPL.q (q_as (v := .lit (.int _ _)) rfl) rfl ?_
            refine WPL.nilW ?_
            refine W.now ?_
            refine Then.n ?_
            refine WP.seq ?_
            obtain ⟨⟨x620, x621, x622⟩, H625, H⟩ := bnd H
            refine WP.monoW (Q := fun x E M => x = .normal ∧ E = (((((((⟨fun _ => .any, [], [⟨aC549, ((((((Env.none.upd 0 (.ro (Rd.slice (Rd.int .i64)) false x4)).upd 6 (.ptr 1 0)).upd 7 (.ptr 3 0)).upd 8 (.lit (.int .i64 x488))).upd 29 (.fn 41 [.ptr 4 0, .ptr 0 0]))).v, [5, 6], some (7, l_549)⟩]⟩ : Env).upd 0 (.lit (.func (.yield l_549) #[] #[]))).upd 2 (.ptr 0 0)).upd 6 (.ro (Rd.slice (Rd.int .i64)) false x4)).upd 7 (.lit (.int .i64 ((List.length x4 : Nat) : Int)))).upd 8 (.lit (.int .i64 x574))).upd 21 (.lit (.bool x620))) ∧ M = ((((((((Mem.nil.push (.cells 3 [.lit (.int .i64 x488)])).push (.cells 32 [.whole 2])).push (.row 35 (Rd.int .u32) x621)).push (.cells 35 [.lit (.int .u32 x622)])).push (.cells 22 [.ro (Rd.slice (Rd.int .i64)) false x4])).push (.obj (Obj.deferred (some [])))).push (.bag)).push (.obj (lp r_549 .ready none)))) ?_ ?_
            · clear H
              have H := H625
              clear H625
              refine WP.region ?_
              refine WPL.q (q_mv (v := .lit (.int _ _)) rfl) rfl ?_
              refine WPL.q (q_load sc3 rfl rfl rfl) rfl ?_
              refine WPL.q (q_eql rfl rfl) rfl ?_
              refine WPL.q (q_mv (v := .lit (.bool _)) rfl) rfl ?_
              refine WPL.split (t := 16) (b := (decide (x616 = x488))) rfl (fun hb622 => ?_) (fun hb622 => ?_)
              · replace H := cnt hb622 H
                refine WPL.qg rfl rfl (lb hb622) (q_mv (v := .lit _) rfl) rfl ?_
                refine WPL.qg rfl rfl (lb hb622) (q_mv (v := .lit (.int _ _)) rfl) rfl ?_
                refine WPL.yg rfl rfl rfl rfl hp549 ha549 hb549 ht549 hs549 rfl rfl rfl rfl rfl (lb hb622) fun aI623 => ?_
                refine WP.region ?_
                refine WPL.q (q_as (v := .lit (.int _ _)) rfl) rfl ?_
                refine WPL.nilW ?_
                refine W.now ?_
                refine ⟨rfl, rfl, _, _, _, _, _, _, rfl, rfl, ?_⟩
                refine WP.block ?_
                refine WP.seq ?_
                refine WP.region ?_
                refine WPL.q (q_load sc32 rfl rfl rfl) rfl ?_
                refine WPL.q (q_mv (v := .lit (.int _ _)) rfl) rfl ?_
                refine WPL.q (q_load sc35 rfl rfl rfl) rfl ?_
                obtain ⟨x625, h625, H⟩ := bnd H
                refine WPL.q (q_index_row sl32 rfl rfl rfl (ixs h625)) rfl ?_
                refine WPL.s (s_store_row (j := (Int.toNat x574)) (d := x576) sz35 rfl rfl rfl rfl Joins.sc (ixl h625)) ?_
                refine WPL.nilW ?_
                refine W.now ?_
                refine Then.n ?_
                refine WP.region ?_
                refine WPL.q (q_load sc35 rfl rfl rfl) rfl ?_
                refine WPL.q (q_add rfl rfl) rfl ?_
                refine WPL.s (s_store sz35 rfl rfl rfl rfl rfl) ?_
                refine WPL.nilW ?_
                refine W.now ?_
                refine InBlock.n ?_
                refine ⟨rfl, _, _, _, _, _, _, rfl, rfl, _, rfl, ?_⟩
                refine WPL.qg rfl rfl (lb hb622) (q_not rfl) rfl ?_
                refine WPL.q (q_pickT (v := .lit (.bool _)) (lb hb622) rfl) rfl ?_
                refine WPL.nilW ?_
                refine W.cv (Cv.weak (E' := (((((((⟨fun _ => .any, [], [⟨aC549, ((((((Env.none.upd 0 (.ro (Rd.slice (Rd.int .i64)) false x4)).upd 6 (.ptr 1 0)).upd 7 (.ptr 3 0)).upd 8 (.lit (.int .i64 x488))).upd 29 (.fn 41 [.ptr 4 0, .ptr 0 0]))).v, [5, 6], some (7, l_549)⟩]⟩ : Env).upd 0 (.lit (.func (.yield l_549) #[] #[]))).upd 2 (.ptr 0 0)).upd 6 (.ro (Rd.slice (Rd.int .i64)) false x4)).upd 7 (.lit (.int .i64 ((List.length x4 : Nat) : Int)))).upd 8 (.lit (.int .i64 x574))).upd 21 (.lit (.bool (!true))))) (M' := ((((((((Mem.nil.push (.cells 3 [.lit (.int .i64 x488)])).push (.cells 32 [.whole 2])).push (.row 35 (Rd.int .u32) (List.set x575 (Int.toNat x574) x576))).push (.cells 35 [.lit (.int .u32 (IntKind.wrap .u32 (x576 + 1)))])).push (.cells 22 [.ro (Rd.slice (Rd.int .i64)) false x4])).push (.obj (Obj.deferred (some [])))).push (.bag)).push (.obj (lp r_549 .ready none)))) [0, 1, 2, 3, 4, 5, 6, 7] hnp ⟨rfl, ⟨⟨⟨⟨⟨⟨⟨⟨trivial, .inr ⟨rfl, rfl, rfl⟩⟩, .inr ⟨rfl, rfl, rfl⟩⟩, .inr ⟨rfl, rfl, rfl⟩⟩, .inr ⟨rfl, rfl, rfl⟩⟩, .inr ⟨rfl, rfl, rfl⟩⟩, .inr ⟨rfl, rfl, rfl⟩⟩, .inr ⟨rfl, rfl, rfl⟩⟩, .inr ⟨rfl, rfl, rfl⟩⟩, by decide, rfl, trivial⟩ (LeE.upd rfl rfl (LeE.upd rfl rfl (LeE.upd rfl rfl (LeE.upd rfl rfl (LeE.upd rfl rfl (LeE.upd rfl rfl (LeE.noneD rfl rfl (.cons ⟨rfl, (LeV.upd rfl rfl (LeV.upd rfl rfl (LeV.upd rfl rfl (LeV.upd rfl rfl (LeV.upd rfl rfl LeV.none))))), rfl, rfl, rfl, rfl⟩ .nil))))))))) rfl ?_
                refine W.now ?_
                have q0 := (Prod.mk.inj (Option.some.inj H)).1
                have q1 := (Prod.mk.inj (Prod.mk.inj (Option.some.inj H)).2).1
                have q2 := (Prod.mk.inj (Prod.mk.inj (Option.some.inj H)).2).2
                subst q0
                subst q1
                subst q2
                exact ⟨rfl, rfl, rfl⟩
              · replace H := cnf hb622 H
                refine WPL.skipg (b' := false) rfl rfl (lb hb622) rfl rfl ?_
                refine WPL.skipg (b' := false) rfl rfl (lb hb622) rfl rfl ?_
                refine WPL.skipg (b' := false) rfl rfl (lb hb622) rfl rfl ?_
                refine WPL.skipg (b' := false) rfl rfl (lb hb622) rfl rfl ?_
                refine WPL.q (q_pickF (v := .lit (.bool _)) (lb hb622) rfl) rfl ?_
                refine WPL.nilW ?_
                refine W.cv (Cv.weak (E' := (((((((⟨fun _ => .any, [], [⟨aC549, ((((((Env.none.upd 0 (.ro (Rd.slice (Rd.int .i64)) false x4)).upd 6 (.ptr 1 0)).upd 7 (.ptr 3 0)).upd 8 (.lit (.int .i64 x488))).upd 29 (.fn 41 [.ptr 4 0, .ptr 0 0]))).v, [5, 6], some (7, l_549)⟩]⟩ : Env).upd 0 (.lit (.func (.yield l_549) #[] #[]))).upd 2 (.ptr 0 0)).upd 6 (.ro (Rd.slice (Rd.int .i64)) false x4)).upd 7 (.lit (.int .i64 ((List.length x4 : Nat) : Int)))).upd 8 (.lit (.int .i64 x574))).upd 21 (.lit (.bool false)))) (M' := ((((((((Mem.nil.push (.cells 3 [.lit (.int .i64 x488)])).push (.cells 32 [.whole 2])).push (.row 35 (Rd.int .u32) x575)).push (.cells 35 [.lit (.int .u32 x576)])).push (.cells 22 [.ro (Rd.slice (Rd.int .i64)) false x4])).push (.obj (Obj.deferred (some [])))).push (.bag)).push (.obj (lp r_549 .ready none)))) [0, 1, 2, 3, 4, 5, 6, 7] hnp ⟨rfl, ⟨⟨⟨⟨⟨⟨⟨⟨trivial, .inr ⟨rfl, rfl, rfl⟩⟩, .inr ⟨rfl, rfl, rfl⟩⟩, .inr ⟨rfl, rfl, rfl⟩⟩, .inr ⟨rfl, rfl, rfl⟩⟩, .inr ⟨rfl, rfl, rfl⟩⟩, .inr ⟨rfl, rfl, rfl⟩⟩, .inr ⟨rfl, rfl, rfl⟩⟩, .inr ⟨rfl, rfl, rfl⟩⟩, by decide, rfl, trivial⟩ (LeE.upd rfl rfl (LeE.upd rfl rfl (LeE.upd rfl rfl (LeE.upd rfl rfl (LeE.upd rfl rfl (LeE.upd rfl rfl (LeE.noneD rfl rfl (.cons ⟨rfl, (LeV.upd rfl rfl (LeV.upd rfl rfl (LeV.upd rfl rfl (LeV.upd rfl rfl (LeV.upd rfl rfl LeV.none))))), rfl, rfl, rfl, rfl⟩ .nil))))))))) rfl ?_
                refine W.now ?_
                have q0 := (Prod.mk.inj (Option.some.inj H)).1
                have q1 := (Prod.mk.inj (Prod.mk.inj (Option.some.inj H)).2).1
                have q2 := (Prod.mk.inj (Prod.mk.inj (Option.some.inj H)).2).2
                subst q0
                subst q1
                subst q2
                exact ⟨rfl, rfl, rfl⟩
            · rintro _ _ _ ⟨rfl, rfl, rfl⟩
              refine W.now ?_
              refine Then.n ?_
              refine WP.cond (t := x620) rfl (fun hb => ?_) (fun hb => ?_)
              · replace H := cnt hb H
                refine WP.retW ?_
                refine W.cv (Cv.weak (E' := (⟨fun _ => .any, [], [⟨aC549, ((((((Env.none.upd 0 (.ro (Rd.slice (Rd.int .i64)) false x4)).upd 6 (.ptr 0 0)).upd 7 (.ptr 2 0)).upd 8 (.lit (.int .i64 x488))).upd 29 (.fn 41 [.ptr 3 0, .ptr 4 0]))).v, [5, 6], some (7, l_549)⟩]⟩ : Env)) (M' := ((((((((Mem.nil.push (.cells 32 [.whole 1])).push (.row 35 (Rd.int .u32) x621)).push (.cells 35 [.lit (.int .u32 x622)])).push (.cells 22 [.ro (Rd.slice (Rd.int .i64)) false x4])).push (.cells 3 [.lit (.int .i64 x488)])).push (.obj (Obj.deferred (some [])))).push (.bag)).push (.obj (lp r_549 .ready none)))) [1, 2, 3, 4, 0, 5, 6, 7] hnp ⟨rfl, ⟨⟨⟨⟨⟨⟨⟨⟨trivial, .inr ⟨rfl, rfl, rfl⟩⟩, .inr ⟨rfl, rfl, rfl⟩⟩, .inr ⟨rfl, rfl, rfl⟩⟩, .inr ⟨rfl, rfl, rfl⟩⟩, .inr ⟨rfl, rfl, rfl⟩⟩, .inr ⟨rfl, rfl, rfl⟩⟩, .inr ⟨rfl, rfl, rfl⟩⟩, .inr ⟨rfl, rfl, rfl⟩⟩, by decide, rfl, trivial⟩ (LeE.noneD rfl rfl (.cons ⟨rfl, (LeV.upd rfl rfl (LeV.upd rfl rfl (LeV.upd rfl rfl (LeV.upd rfl rfl (LeV.upd rfl rfl LeV.none))))), rfl, rfl, rfl, rfl⟩ .nil))) rfl ?_
                refine W.now ?_
                refine InBlock.r ?_
                refine Then.r ?_
                refine Then.r ?_
                have q0 := Option.some.inj H
                subst q0
                exact ⟨rfl, rfl, rfl⟩
              · replace H := cnf hb H
                refine WP.skipW ?_
                refine W.now ?_
                refine InBlock.n ?_
                refine Then.n ?_
                refine WP.region ?_
                refine WPL.q (q_add rfl rfl) rfl ?_
                refine WPL.q (q_mv (v := .lit (.int _ _)) rfl) rfl ?_
                refine WPL.nilW ?_
                refine W.cv (Cv.weak (E' := ((((((⟨fun _ => .any, [], [⟨aC549, ((((((Env.none.upd 0 (.ro (Rd.slice (Rd.int .i64)) false x4)).upd 6 (.ptr 1 0)).upd 7 (.ptr 3 0)).upd 8 (.lit (.int .i64 x488))).upd 29 (.fn 41 [.ptr 4 0, .ptr 0 0]))).v, [5, 6], some (7, l_549)⟩]⟩ : Env).upd 0 (.lit (.func (.yield l_549) #[] #[]))).upd 2 (.ptr 0 0)).upd 6 (.ro (Rd.slice (Rd.int .i64)) false x4)).upd 7 (.lit (.int .i64 ((List.length x4 : Nat) : Int)))).upd 8 (.lit (.int .i64 (IntKind.wrap .i64 (x574 + 1)))))) (M' := ((((((((Mem.nil.push (.cells 3 [.lit (.int .i64 x488)])).push (.cells 32 [.whole 2])).push (.row 35 (Rd.int .u32) x621)).push (.cells 35 [.lit (.int .u32 x622)])).push (.cells 22 [.ro (Rd.slice (Rd.int .i64)) false x4])).push (.obj (Obj.deferred (some [])))).push (.bag)).push (.obj (lp r_549 .ready none)))) [0, 1, 2, 3, 4, 5, 6, 7] hnp ⟨rfl, ⟨⟨⟨⟨⟨⟨⟨⟨trivial, .inr ⟨rfl, rfl, rfl⟩⟩, .inr ⟨rfl, rfl, rfl⟩⟩, .inr ⟨rfl, rfl, rfl⟩⟩, .inr ⟨rfl, rfl, rfl⟩⟩, .inr ⟨rfl, rfl, rfl⟩⟩, .inr ⟨rfl, rfl, rfl⟩⟩, .inr ⟨rfl, rfl, rfl⟩⟩, .inr ⟨rfl, rfl, rfl⟩⟩, by decide, rfl, trivial⟩ (LeE.upd rfl rfl (LeE.upd rfl rfl (LeE.upd rfl rfl (LeE.upd rfl rfl (LeE.upd rfl rfl (LeE.noneD rfl rfl (.cons ⟨rfl, (LeV.upd rfl rfl (LeV.upd rfl rfl (LeV.upd rfl rfl (LeV.upd rfl rfl (LeV.upd rfl rfl LeV.none))))), rfl, rfl, rfl, rfl⟩ .nil)))))))) rfl ?_
                refine W.now ?_
                exact Then.n ⟨n, ((IntKind.wrap .i64 (x574 + 1)), x621, x622), Nat.lt_succ_self n, H, rfl, rfl⟩
          · replace H := cnf hb H
            refine WP.exitW ?_
            refine W.cv (Cv.weak (E' := (⟨fun _ => .any, [], [⟨aC549, ((((((Env.none.upd 0 (.ro (Rd.slice (Rd.int .i64)) false x4)).upd 6 (.ptr 0 0)).upd 7 (.ptr 2 0)).upd 8 (.lit (.int .i64 x488))).upd 29 (.fn 41 [.ptr 3 0, .ptr 4 0]))).v, [5, 6], some (7, l_549)⟩]⟩ : Env)) (M' := ((((((((Mem.nil.push (.cells 32 [.whole 1])).push (.row 35 (Rd.int .u32) x575)).push (.cells 35 [.lit (.int .u32 x576)])).push (.cells 22 [.ro (Rd.slice (Rd.int .i64)) false x4])).push (.cells 3 [.lit (.int .i64 x488)])).push (.obj (Obj.deferred (some [])))).push (.bag)).push (.obj (lp r_549 .ready none)))) [1, 2, 3, 4, 0, 5, 6, 7] hnp ⟨rfl, ⟨⟨⟨⟨⟨⟨⟨⟨trivial, .inr ⟨rfl, rfl, rfl⟩⟩, .inr ⟨rfl, rfl, rfl⟩⟩, .inr ⟨rfl, rfl, rfl⟩⟩, .inr ⟨rfl, rfl, rfl⟩⟩, .inr ⟨rfl, rfl, rfl⟩⟩, .inr ⟨rfl, rfl, rfl⟩⟩, .inr ⟨rfl, rfl, rfl⟩⟩, .inr ⟨rfl, rfl, rfl⟩⟩, by decide, rfl, trivial⟩ (LeE.noneD rfl rfl (.cons ⟨rfl, (LeV.upd rfl rfl (LeV.upd rfl rfl (LeV.upd rfl rfl (LeV.upd rfl rfl (LeV.upd rfl rfl LeV.none))))), rfl, rfl, rfl, rfl⟩ .nil))) rfl ?_
            refine W.now ?_
            refine Then.x ?_
            refine Then.x ?_
            have q0 := Option.some.inj H
            subst q0
            exact ⟨rfl, rfl, rfl⟩
        · rcases y628 with ⟨x600, x601⟩ | ⟨x602, x603⟩
          · rintro _ _ _ ⟨rfl, rfl, rfl⟩
            refine W.now ?_
            refine InBlock.r ?_
            refine ⟨trivial, _, _, _, _, rfl, _, _, rfl, (fun h => by cases h), ?_⟩
            refine W.cv (Cv.absorb (N := 8) (j := 5) (i := 6) rfl rfl rfl rfl) rfl ?_
            refine W.now ?_
            refine InBlock.n ?_
            refine InBlock.n ?_
            refine Then.n ?_
            refine WP.region ?_
            refine WPL.q (q_mv (v := .lit (.int _ _)) rfl) rfl ?_
            refine WPL.q (q_add rfl rfl) rfl ?_
            refine WPL.q (q_as (v := .lit (.int _ _)) rfl) rfl ?_
            refine WPL.nilW ?_
            refine W.cv (Cv.weak (E' := (((((⟨fun _ => .any, [3], []⟩ : Env).upd 0 (.ro (Rd.slice (Rd.int .i64)) false x4)).upd 6 (.ptr 0 0)).upd 7 (.ptr 2 0)).upd 8 (.lit (.int .i64 (IntKind.wrap .i64 (x488 + 1)))))) (M' := ((((Mem.nil.push (.cells 32 [.whole 1])).push (.row 35 (Rd.int .u32) x600)).push (.cells 35 [.lit (.int .u32 x601)])).push (.bag))) [0, 1, 2, 8] hnp ⟨rfl, ⟨⟨⟨⟨trivial, .inr ⟨rfl, rfl, rfl⟩⟩, .inr ⟨rfl, rfl, rfl⟩⟩, .inr ⟨rfl, rfl, rfl⟩⟩, .inr ⟨rfl, rfl, rfl⟩⟩, by decide, rfl, trivial⟩ (LeE.upd rfl rfl (LeE.upd rfl rfl (LeE.upd rfl rfl (LeE.upd rfl rfl (LeE.noneD rfl rfl .nil)))))) rfl ?_
            refine W.now ?_
            exact Then.n ⟨n, ((IntKind.wrap .i64 (x488 + 1)), x600, x601), Nat.lt_succ_self n, H, rfl, rfl⟩
          · rintro _ _ _ ⟨rfl, rfl, rfl⟩
            refine W.now ?_
            refine InBlock.x0 ?_
            refine ⟨trivial, _, _, _, _, rfl, _, _, rfl, (fun h => by cases h), ?_⟩
            refine W.cv (Cv.absorb (N := 8) (j := 5) (i := 6) rfl rfl rfl rfl) rfl ?_
            refine W.now ?_
            refine InBlock.n ?_
            refine InBlock.n ?_
            refine Then.n ?_
            refine WP.region ?_
            refine WPL.q (q_mv (v := .lit (.int _ _)) rfl) rfl ?_
            refine WPL.q (q_add rfl rfl) rfl ?_
            refine WPL.q (q_as (v := .lit (.int _ _)) rfl) rfl ?_
            refine WPL.nilW ?_
            refine W.cv (Cv.weak (E' := (((((⟨fun _ => .any, [3], []⟩ : Env).upd 0 (.ro (Rd.slice (Rd.int .i64)) false x4)).upd 6 (.ptr 0 0)).upd 7 (.ptr 2 0)).upd 8 (.lit (.int .i64 (IntKind.wrap .i64 (x488 + 1)))))) (M' := ((((Mem.nil.push (.cells 32 [.whole 1])).push (.row 35 (Rd.int .u32) x602)).push (.cells 35 [.lit (.int .u32 x603)])).push (.bag))) [0, 1, 2, 8] hnp ⟨rfl, ⟨⟨⟨⟨trivial, .inr ⟨rfl, rfl, rfl⟩⟩, .inr ⟨rfl, rfl, rfl⟩⟩, .inr ⟨rfl, rfl, rfl⟩⟩, .inr ⟨rfl, rfl, rfl⟩⟩, by decide, rfl, trivial⟩ (LeE.upd rfl rfl (LeE.upd rfl rfl (LeE.upd rfl rfl (LeE.upd rfl rfl (LeE.noneD rfl rfl .nil)))))) rfl ?_
            refine W.now ?_
            exact Then.n ⟨n, ((IntKind.wrap .i64 (x488 + 1)), x602, x603), Nat.lt_succ_self n, H, rfl, rfl⟩
      · replace H := cnf hb H
        refine WP.exitW ?_
        refine W.cv (Cv.weak (E' := ((⟨fun _ => .any, [2], []⟩ : Env).upd 6 (.ptr 0 0))) (M' := (((Mem.nil.push (.cells 32 [.whole 1])).push (.row 35 (Rd.int .u32) x489)).push (.bag))) [0, 1, 3] hnp ⟨rfl, ⟨⟨⟨trivial, .inr ⟨rfl, rfl, rfl⟩⟩, .inr ⟨rfl, rfl, rfl⟩⟩, .inr ⟨rfl, rfl, rfl⟩⟩, by decide, rfl, trivial⟩ (LeE.upd rfl rfl (LeE.noneD rfl rfl .nil))) rfl ?_
        refine W.now ?_
        refine Then.x ?_
        refine Then.x ?_
        have q0 := (Option.some.inj H)
        subst q0
        exact ⟨rfl, rfl, rfl⟩
    · rintro _ _ _ ⟨rfl, rfl, rfl⟩
      refine W.now ?_
      refine InBlock.x0 ?_
      refine Then.n ?_
      refine WP.seq ?_
      refine WP.region ?_
      refine WPL.q (q_load sc32 rfl rfl rfl) rfl ?_
      refine WPL.q (q_as (v := .whole _) rfl) rfl ?_
      refine WPL.q (q_as (v := .lit (.int _ _)) rfl) rfl ?_
      refine WPL.nilW ?_
      refine W.now ?_
      refine Then.n ?_
      refine WP.retW ?_
      refine W.cv (Cv.frzRow (i := 1) rfl rfl hnp rfl rfl) rfl ?_
      refine W.now ?_
      have q0 := (Prod.mk.inj (Option.some.inj H)).1
      have q1 := (Prod.mk.inj (Option.some.inj H)).2
      subst q0
      subst q1
      exact ⟨⟨.inr rfl, trivial⟩, _, rfl, [], (.tup [.ro (Rd.slice (Rd.int .u32)) false x548, .lit (.int .i64 0)]), Mem.nil, ⟨rfl, trivial, by decide, rfl, trivial⟩, rfl, rfl, rfl, rfl⟩
set_option maxRecDepth 100000 in
set_option maxHeartbeats 4000000 in
theorem s32b (k : Nat) (x638 : (List Int)) (x711 : Bool) (x712 : Int) (H : f32 k x638 = some (x711, x712)) : Go.Q.Spec Try.prog 32 0 [.ro (Rd.slice (Rd.int .i64)) true x638] Mem.nil (fun o M => o = .ret (.tup [.lit (.bool x711), .lit (.int .i64 x712)]) ∧ M = Mem.nil) := by
  unfold f32 at H
  refine Go.Q.Spec.of_bodyR (rs := [.tmp 2, .tmp 3]) (nt := 45) Try.func32 rfl rfl (by intro t T h; simp at h) rfl rfl fun cx hnp => ?_
  refine WP.seq ?_
  refine WP.region ?_
  refine WPL.q (q_as (v := .lit (.bool _)) rfl) rfl ?_
  refine WPL.q (q_as (v := .lit (.int _ _)) rfl) rfl ?_
  refine WPL.nilW ?_
  refine W.now ?_
  refine Then.n ?_
  refine WP.seq ?_
  refine WP.seq ?_
  refine WP.region ?_
  refine WPL.q (q_mv (v := .ro _ _ _) rfl) rfl ?_
  refine WPL.q (q_len_ro sl22 rfl) rfl ?_
  obtain ⟨x714, h714, H⟩ := bnd H
  refine WPL.q (q_nm (q_gtr rfl rfl) (nm_bool h714)) rfl ?_
  refine WPL.nilW ?_
  refine W.now ?_
  refine Then.n ?_
  refine WP.cond (t := x714) rfl (fun hb => ?_) (fun hb => ?_)
  · replace H := cnt hb H
    refine WP.seq ?_
    refine WP.region ?_
    refine WPL.q (q_as (v := .lit (.bool _)) rfl) rfl ?_
    refine WPL.q (q_as (v := .lit (.int _ _)) rfl) rfl ?_
    refine WPL.nilW ?_
    refine W.now ?_
    refine Then.n ?_
    refine WP.retW ?_
    refine W.now ?_
    refine Then.r ?_
    have q0 := (Prod.mk.inj (Option.some.inj H)).1
    have q1 := (Prod.mk.inj (Option.some.inj H)).2
    subst q0
    subst q1
    exact ⟨trivial, _, rfl, [], (.tup [.lit (.bool false), .lit (.int .i64 1)]), Mem.nil, ⟨rfl, trivial, by decide, rfl, trivial⟩, rfl, rfl, rfl, rfl⟩
  · replace H := cnf hb H
    refine WP.skipW ?_
    refine W.now ?_
    refine Then.n ?_
    refine WP.seq ?_
    refine WP.region ?_
    refine WPL.q (q_as (v := .lit (.int _ _)) rfl) rfl ?_
    refine WPL.q (q_as (v := .lit (.int _ _)) rfl) rfl ?_
    refine WPL.nilW ?_
    refine W.now ?_
    refine Then.n ?_
    refine WP.seq ?_
    refine WP.seq ?_
    refine WP.region ?_
    refine WPL.q (q_mv (v := .ro _ _ _) rfl) rfl ?_
    refine WPL.q (q_len_ro sl22 rfl) rfl ?_
    refine WPL.q (q_mv (v := .lit (.int _ _)) rfl) rfl ?_
    refine WPL.nilW ?_
    refine W.now ?_
    refine Then.n ?_
    refine WP.block ?_
    refine WP.cv (Cv.weak (E' := (((((Env.none.upd 4 (.lit (.int .i64 32768))).upd 5 (.lit (.int .i64 0))).upd 11 (.ro (Rd.slice (Rd.int .i64)) true x638)).upd 12 (.lit (.int .i64 ((List.length x638 : Nat) : Int)))).upd 13 (.lit (.int .i64 0)))) (M' := Mem.nil) [] hnp ⟨rfl, trivial, by decide, rfl, trivial⟩ (LeE.upd rfl rfl (LeE.upd rfl rfl (LeE.upd rfl rfl (LeE.upd rfl rfl (LeE.upd rfl rfl (LeE.none rfl rfl))))))) ?_
    obtain ⟨y802, H800, H⟩ := bnd H
    refine WP.monoW (Q := fun x E M => match (generalizing := false) y802 with | (Sum.inl _) => x = .ret ∧ E = ((Env.none.upd 2 (.lit (.bool false))).upd 3 (.lit (.int .i64 1))) ∧ M = Mem.nil | (Sum.inr (x772, x773)) => x = .exit 0 ∧ E = ((Env.none.upd 4 (.lit (.int .i64 x772))).upd 5 (.lit (.int .i64 x773))) ∧ M = Mem.nil) ?_ ?_
    · refine WP.loop (β := Int × Int × Int) (fun n b => f32_l0 k x638 n b.1 b.2.1 b.2.2 = some y802) (fun b => (((((Env.none.upd 4 (.lit (.int .i64 b.1))).upd 5 (.lit (.int .i64 b.2.1))).upd 11 (.ro (Rd.slice (Rd.int .i64)) true x638)).upd 12 (.lit (.int .i64 ((List.length x638 : Nat) : Int)))).upd 13 (.lit (.int .i64 b.2.2)))) (fun b => Mem.nil) k (32768, 0, 0) H800 rfl rfl ?_
      rintro n ⟨x742, x743, x744⟩ H
      obtain _ | n := n
      · exact nf rfl H
      rw [f32_l0.eq_2] at H
      show WP _ _ _ _ (((((Env.none.upd 4 (.lit (.int .i64 x742))).upd 5 (.lit (.int .i64 x743))).upd 11 (.ro (Rd.slice (Rd.int .i64)) true x638)).upd 12 (.lit (.int .i64 ((List.length x638 : Nat) : Int)))).upd 13 (.lit (.int .i64 x744))) Mem.nil _
      refine WP.seq ?_
      refine WP.region ?_
      obtain ⟨x774, h774, H⟩ := bnd H
      refine WPL.q (q_nm (q_lss rfl rfl) (nm_bool h774)) rfl ?_
      refine WPL.nilW ?_
      refine W.now ?_
      refine Then.n ?_
      refine WP.seq ?_
      refine WP.cond (t := x774) rfl (fun hb => ?_) (fun hb => ?_)
      · replace H := cnt hb H
        refine WP.skipW ?_
        refine W.now ?_
        refine Then.n ?_
        refine WP.seq ?_
        obtain ⟨y800, H798, H⟩ := bnd H
        refine WP.monoW (Q := fun x E M => match (generalizing := false) y800 with | (Sum.inl _) => x = .ret ∧ E = ((Env.none.upd 2 (.lit (.bool false))).upd 3 (.lit (.int .i64 1))) ∧ M = Mem.nil | (Sum.inr (x786, x787)) => x = .normal ∧ E = (((((Env.none.upd 4 (.lit (.int .i64 x786))).upd 5 (.lit (.int .i64 x787))).upd 11 (.ro (Rd.slice (Rd.int .i64)) true x638)).upd 12 (.lit (.int .i64 ((List.length x638 : Nat) : Int)))).upd 13 (.lit (.int .i64 x744))) ∧ M = Mem.nil) ?_ ?_
        · clear H
          have H := H798
          clear H798
          refine WP.block ?_
          refine WP.seq ?_
          refine WP.region ?_
          obtain ⟨x788, h788, H⟩ := bnd H
          refine WPL.q (q_index_ro sl22 rfl rfl rfl h788) rfl ?_
          refine WPL.q (q_load_sc sc3 rfl) rfl ?_
          refine WPL.q (q_as (v := .lit (.int _ _)) rfl) rfl ?_
          refine WPL.nilW ?_
          refine W.now ?_
          refine Then.n ?_
          refine WP.seq ?_
          refine WP.seq ?_
          obtain ⟨x794, H795, H⟩ := bnd H
          refine WP.monoW (Q := fun x E M => x = .normal ∧ E = (((((((Env.none.upd 4 (.lit (.int .i64 x742))).upd 5 (.lit (.int .i64 x743))).upd 7 (.lit (.int .i64 x788))).upd 11 (.ro (Rd.slice (Rd.int .i64)) true x638)).upd 12 (.lit (.int .i64 ((List.length x638 : Nat) : Int)))).upd 13 (.lit (.int .i64 x744))).upd 22 (.lit (.bool x794))) ∧ M = Mem.nil) ?_ ?_
          · clear H
            have H := H795
            clear H795
            refine WP.region ?_
            refine WPL.q (q_mv (v := .lit (.int _ _)) rfl) rfl ?_
            refine WPL.q (q_lss rfl rfl) rfl ?_
            refine WPL.q (q_mv (v := .lit (.bool _)) rfl) rfl ?_
            refine WPL.split (t := 19) (b := (decide (x788 < 0))) rfl (fun hb794 => ?_) (fun hb794 => ?_)
            · replace H := cnt hb794 H
              refine WPL.skipg (b' := true) rfl rfl (lb hb794) rfl rfl ?_
              refine WPL.skipg (b' := true) rfl rfl (lb hb794) rfl rfl ?_
              refine WPL.q (q_pickT (v := .lit (.bool _)) (lb hb794) rfl) rfl ?_
              refine WPL.nilW ?_
              refine W.cv (Cv.weak (E' := (((((((Env.none.upd 4 (.lit (.int .i64 x742))).upd 5 (.lit (.int .i64 x743))).upd 7 (.lit (.int .i64 x788))).upd 11 (.ro (Rd.slice (Rd.int .i64)) true x638)).upd 12 (.lit (.int .i64 ((List.length x638 : Nat) : Int)))).upd 13 (.lit (.int .i64 x744))).upd 22 (.lit (.bool true)))) (M' := Mem.nil) [] hnp ⟨rfl, trivial, by decide, rfl, trivial⟩ (LeE.upd rfl rfl (LeE.upd rfl rfl (LeE.upd rfl rfl (LeE.upd rfl rfl (LeE.upd rfl rfl (LeE.upd rfl rfl (LeE.upd rfl rfl (LeE.none rfl rfl))))))))) rfl ?_
              refine W.now ?_
              have q0 := (Option.some.inj H)
              subst q0
              exact ⟨rfl, rfl, rfl⟩
            · replace H := cnf hb794 H
              refine WPL.qg rfl rfl (lb hb794) (q_mv (v := .lit (.int _ _)) rfl) rfl ?_
              refine WPL.qg rfl rfl (lb hb794) (q_gtr rfl rfl) rfl ?_
              refine WPL.q (q_pickF (v := .lit (.bool _)) (lb hb794) rfl) rfl ?_
              refine WPL.nilW ?_
              refine W.cv (Cv.weak (E' := (((((((Env.none.upd 4 (.lit (.int .i64 x742))).upd 5 (.lit (.int .i64 x743))).upd 7 (.lit (.int .i64 x788))).upd 11 (.ro (Rd.slice (Rd.int .i64)) true x638)).upd 12 (.lit (.int .i64 ((List.length x638 : Nat) : Int)))).upd 13 (.lit (.int .i64 x744))).upd 22 (.lit (.bool (decide (15 < x788)))))) (M' := Mem.nil) [] hnp ⟨rfl, trivial, by decide, rfl, trivial⟩ (LeE.upd rfl rfl (LeE.upd rfl rfl (LeE.upd rfl rfl (LeE.upd rfl rfl (LeE.upd rfl rfl (LeE.upd rfl rfl (LeE.upd rfl rfl (LeE.none rfl rfl))))))))) rfl ?_
              refine W.now ?_
              have q0 := (Option.some.inj H)
              subst q0
              exact ⟨rfl, rfl, rfl⟩
          · rintro _ _ _ ⟨rfl, rfl, rfl⟩
            refine W.now ?_
            refine Then.n ?_
            refine WP.cond (t := x794) rfl (fun hb => ?_) (fun hb => ?_)
            · replace H := cnt hb H
              refine WP.seq ?_
              refine WP.region ?_
              refine WPL.q (q_as (v := .lit (.bool _)) rfl) rfl ?_
              refine WPL.q (q_as (v := .lit (.int _ _)) rfl) rfl ?_
              refine WPL.nilW ?_
              refine W.now ?_
              refine Then.n ?_
              refine WP.retW ?_
              refine W.cv (Cv.weak (E' := ((Env.none.upd 2 (.lit (.bool false))).upd 3 (.lit (.int .i64 1)))) (M' := Mem.nil) [] hnp ⟨rfl, trivial, by decide, rfl, trivial⟩ (LeE.upd rfl rfl (LeE.upd rfl rfl (LeE.none rfl rfl)))) rfl ?_
              refine W.now ?_
              refine Then.r ?_
              refine InBlock.r ?_
              have q0 := Option.some.inj H
              subst q0
              exact ⟨rfl, rfl, rfl⟩
            · replace H := cnf hb H
              refine WP.skipW ?_
              refine W.now ?_
              refine Then.n ?_
              refine WP.seq ?_
              refine WP.region ?_
              refine WPL.q (q_mv (v := .lit (.int _ _)) rfl) rfl ?_
              refine WPL.q (q_gtr rfl rfl) rfl ?_
              refine WPL.nilW ?_
              refine W.now ?_
              refine Then.n ?_
              refine WP.cond (t := (decide (0 < x788))) rfl (fun hb => ?_) (fun hb => ?_)
              · replace H := cnt hb H
                refine WP.seq ?_
                refine WP.region ?_
                refine WPL.q (q_mv (v := .lit (.int _ _)) rfl) rfl ?_
                refine WPL.q (q_mv (v := .lit (.int _ _)) rfl) rfl ?_
                refine WPL.q (q_sub rfl rfl) rfl ?_
                obtain ⟨h796, H⟩ := grd H
                obtain ⟨x798, h798, H⟩ := bnd H
                refine WPL.q (q_nm (q_shl rfl rfl h796) (nm_int h798)) rfl ?_
                refine WPL.q (q_sub rfl rfl) rfl ?_
                refine WPL.q (q_as (v := .lit (.int _ _)) rfl) rfl ?_
                refine WPL.nilW ?_
                refine W.now ?_
                refine Then.n ?_
                refine WP.region ?_
                refine WPL.q (q_mv (v := .lit (.int _ _)) rfl) rfl ?_
                refine WPL.q (q_add rfl rfl) rfl ?_
                refine WPL.q (q_as (v := .lit (.int _ _)) rfl) rfl ?_
                refine WPL.nilW ?_
                refine W.cv (Cv.weak (E' := (((((Env.none.upd 4 (.lit (.int .i64 (IntKind.wrap .i64 (x742 - x798))))).upd 5 (.lit (.int .i64 (IntKind.wrap .i64 (x743 + 1))))).upd 11 (.ro (Rd.slice (Rd.int .i64)) true x638)).upd 12 (.lit (.int .i64 ((List.length x638 : Nat) : Int)))).upd 13 (.lit (.int .i64 x744)))) (M' := Mem.nil) [] hnp ⟨rfl, trivial, by decide, rfl, trivial⟩ (LeE.upd rfl rfl (LeE.upd rfl rfl (LeE.upd rfl rfl (LeE.upd rfl rfl (LeE.upd rfl rfl (LeE.none rfl rfl))))))) rfl ?_
                refine W.now ?_
                refine InBlock.n ?_
                have q0 := Option.some.inj H
                subst q0
                exact ⟨rfl, rfl, rfl⟩
              · replace H := cnf hb H
                refine WP.skipW ?_
                refine W.cv (Cv.weak (E' := (((((Env.none.upd 4 (.lit (.int .i64 x742))).upd 5 (.lit (.int .i64 x743))).upd 11 (.ro (Rd.slice (Rd.int .i64)) true x638)).upd 12 (.lit (.int .i64 ((List.length x638 : Nat) : Int)))).upd 13 (.lit (.int .i64 x744)))) (M' := Mem.nil) [] hnp ⟨rfl, trivial, by decide, rfl, trivial⟩ (LeE.upd rfl rfl (LeE.upd rfl rfl (LeE.upd rfl rfl (LeE.upd rfl rfl (LeE.upd rfl rfl (LeE.none rfl rfl))))))) rfl ?_
                refine W.now ?_
                refine InBlock.n ?_
                have q0 := Option.some.inj H
                subst q0
                exact ⟨rfl, rfl, rfl⟩
        · rcases y800 with _ | ⟨x786, x787⟩
          · rintro _ _ _ ⟨rfl, rfl, rfl⟩
            refine W.cv (Cv.weak (E' := ((Env.none.upd 2 (.lit (.bool false))).upd 3 (.lit (.int .i64 1)))) (M' := Mem.nil) [] hnp ⟨rfl, trivial, by decide, rfl, trivial⟩ (LeE.upd rfl rfl (LeE.upd rfl rfl (LeE.none rfl rfl)))) rfl ?_
            refine W.now ?_
            refine Then.r ?_
            refine Then.r ?_
            have q0 := Option.some.inj H
            subst q0
            exact ⟨rfl, rfl, rfl⟩
          · rintro _ _ _ ⟨rfl, rfl, rfl⟩
            refine W.now ?_
            refine Then.n ?_
            refine WP.region ?_
            refine WPL.q (q_add rfl rfl) rfl ?_
            refine WPL.q (q_mv (v := .lit (.int _ _)) rfl) rfl ?_
            refine WPL.nilW ?_
            refine W.cv (Cv.weak (E' := (((((Env.none.upd 4 (.lit (.int .i64 x786))).upd 5 (.lit (.int .i64 x787))).upd 11 (.ro (Rd.slice (Rd.int .i64)) true x638)).upd 12 (.lit (.int .i64 ((List.length x638 : Nat) : Int)))).upd 13 (.lit (.int .i64 (IntKind.wrap .i64 (x744 + 1)))))) (M' := Mem.nil) [] hnp ⟨rfl, trivial, by decide, rfl, trivial⟩ (LeE.upd rfl rfl (LeE.upd rfl rfl (LeE.upd rfl rfl (LeE.upd rfl rfl (LeE.upd rfl rfl (LeE.none rfl rfl))))))) rfl ?_
            refine W.now ?_
            exact Then.n ⟨n, (x786, x787, (IntKind.wrap .i64 (x744 + 1))), Nat.lt_succ_self n, H, rfl, rfl⟩
      · replace H := cnf hb H
        refine WP.exitW ?_
        refine W.cv (Cv.weak (E' := ((Env.none.upd 4 (.lit (.int .i64 x742))).upd 5 (.lit (.int .i64 x743)))) (M' := Mem.nil) [] hnp ⟨rfl, trivial, by decide, rfl, trivial⟩ (LeE.upd rfl rfl (LeE.upd rfl rfl (LeE.none rfl rfl)))) rfl ?_
        refine W.now ?_
        refine Then.x ?_
        refine Then.x ?_
        have q0 := Option.some.inj H
        subst q0
        exact ⟨rfl, rfl, rfl⟩
    · rcases y802 with _ | ⟨x772, x773⟩
      · rintro _ _ _ ⟨rfl, rfl, rfl⟩
        refine W.now ?_
        refine InBlock.r ?_
        refine Then.r ?_
        have q0 := (Prod.mk.inj (Option.some.inj H)).1
        have q1 := (Prod.mk.inj (Option.some.inj H)).2
        subst q0
        subst q1
        exact ⟨trivial, _, rfl, [], (.tup [.lit (.bool false), .lit (.int .i64 1)]), Mem.nil, ⟨rfl, trivial, by decide, rfl, trivial⟩, rfl, rfl, rfl, rfl⟩
      · rintro _ _ _ ⟨rfl, rfl, rfl⟩
        refine W.now ?_
        refine InBlock.x0 ?_
        refine Then.n ?_
        refine WP.seq ?_
        refine WP.block ?_
        refine WP.seq ?_
        refine WP.region ?_
        refine WPL.q (q_mv (v := .lit (.int _ _)) rfl) rfl ?_
        refine WPL.q (q_eql rfl rfl) rfl ?_
        refine WPL.q (q_as (v := .lit (.bool _)) rfl) rfl ?_
        refine WPL.nilW ?_
        refine W.now ?_
        refine Then.n ?_
        refine WP.cond (t := (decide (x772 = 0))) rfl (fun hb => ?_) (fun hb => ?_)
        · replace H := cnt hb H
          refine WP.seq ?_
          refine WP.region ?_
          refine WPL.q (q_as (v := .lit (.bool _)) rfl) rfl ?_
          refine WPL.q (q_as (v := .lit (.int _ _)) rfl) rfl ?_
          refine WPL.nilW ?_
          refine W.now ?_
          refine Then.n ?_
          refine WP.retW ?_
          refine W.now ?_
          refine InBlock.r ?_
          refine Then.r ?_
          have q0 := (Prod.mk.inj (Option.some.inj H)).1
          have q1 := (Prod.mk.inj (Option.some.inj H)).2
          subst q0
          subst q1
          exact ⟨trivial, _, rfl, [], (.tup [.lit (.bool true), .lit (.int .i64 0)]), Mem.nil, ⟨rfl, trivial, by decide, rfl, trivial⟩, rfl, rfl, rfl, rfl⟩
        · replace H := cnf hb H
          refine WP.seq ?_
          obtain ⟨x808, H809, H⟩ := bnd H
          refine WP.monoW (Q := fun x E M => x = .normal ∧ E = (Env.none.upd 36 (.lit (.bool x808))) ∧ M = Mem.nil) ?_ ?_
          · clear H
            have H := H809
            clear H809
            refine WP.seq ?_
            refine WP.region ?_
            refine WPL.q (q_mv (v := .lit (.int _ _)) rfl) rfl ?_
            refine WPL.q (q_eql rfl rfl) rfl ?_
            refine WPL.q (q_as (v := .lit (.bool _)) rfl) rfl ?_
            refine WPL.nilW ?_
            refine W.now ?_
            refine Then.n ?_
            refine WP.cond (t := (decide (x773 = 0))) rfl (fun hb => ?_) (fun hb => ?_)
            · replace H := cnt hb H
              refine WP.skipW ?_
              refine W.cv (Cv.weak (E' := (Env.none.upd 36 (.lit (.bool (decide (x773 = 0)))))) (M' := Mem.nil) [] hnp ⟨rfl, trivial, by decide, rfl, trivial⟩ (LeE.upd rfl rfl (LeE.none rfl rfl))) rfl ?_
              refine W.now ?_
              have q0 := (Option.some.inj H)
              subst q0
              exact ⟨rfl, rfl, rfl⟩
            · replace H := cnf hb H
              refine WP.region ?_
              refine WPL.q (q_mv (v := .lit (.int _ _)) rfl) rfl ?_
              refine WPL.q (q_eql rfl rfl) rfl ?_
              refine WPL.q (q_mv (v := .lit (.bool _)) rfl) rfl ?_
              refine WPL.split (t := 41) (b := (decide (x773 = 1))) rfl (fun hb808 => ?_) (fun hb808 => ?_)
              · replace H := cnt hb808 H
                refine WPL.qg rfl rfl (lb hb808) (q_mv (v := .lit (.int _ _)) rfl) rfl ?_
                refine WPL.qg rfl rfl (lb hb808) (q_eql rfl rfl) rfl ?_
                refine WPL.q (q_pickT (v := .lit (.bool _)) (lb hb808) rfl) rfl ?_
                refine WPL.q (q_as (v := .lit (.bool _)) rfl) rfl ?_
                refine WPL.nilW ?_
                refine W.cv (Cv.weak (E' := (Env.none.upd 36 (.lit (.bool (decide (x772 = 16384)))))) (M' := Mem.nil) [] hnp ⟨rfl, trivial, by decide, rfl, trivial⟩ (LeE.upd rfl rfl (LeE.none rfl rfl))) rfl ?_
                refine W.now ?_
                have q0 := (Option.some.inj H)
                subst q0
                exact ⟨rfl, rfl, rfl⟩
              · replace H := cnf hb808 H
                refine WPL.skipg (b' := false) rfl rfl (lb hb808) rfl rfl ?_
                refine WPL.skipg (b' := false) rfl rfl (lb hb808) rfl rfl ?_
                refine WPL.q (q_pickF (v := .lit (.bool _)) (lb hb808) rfl) rfl ?_
                refine WPL.q (q_as (v := .lit (.bool _)) rfl) rfl ?_
                refine WPL.nilW ?_
                refine W.cv (Cv.weak (E' := (Env.none.upd 36 (.lit (.bool false)))) (M' := Mem.nil) [] hnp ⟨rfl, trivial, by decide, rfl, trivial⟩ (LeE.upd rfl rfl (LeE.none rfl rfl))) rfl ?_
                refine W.now ?_
                have q0 := (Option.some.inj H)
                subst q0
                exact ⟨rfl, rfl, rfl⟩
          · rintro _ _ _ ⟨rfl, rfl, rfl⟩
            refine W.now ?_
            refine Then.n ?_
            refine WP.cond (t := x808) rfl (fun hb => ?_) (fun hb => ?_)
            · replace H := cnt hb H
              refine WP.seq ?_
              refine WP.region ?_
              refine WPL.q (q_as (v := .lit (.bool _)) rfl) rfl ?_
              refine WPL.q (q_as (v := .lit (.int _ _)) rfl) rfl ?_
              refine WPL.nilW ?_
              refine W.now ?_
              refine Then.n ?_
              refine WP.retW ?_
              refine W.now ?_
              refine InBlock.r ?_
              refine Then.r ?_
              have q0 := (Prod.mk.inj (Option.some.inj H)).1
              have q1 := (Prod.mk.inj (Option.some.inj H)).2
              subst q0
              subst q1
              exact ⟨trivial, _, rfl, [], (.tup [.lit (.bool false), .lit (.int .i64 0)]), Mem.nil, ⟨rfl, trivial, by decide, rfl, trivial⟩, rfl, rfl, rfl, rfl⟩
            · replace H := cnf hb H
              refine WP.skipW ?_
              refine W.now ?_
              refine InBlock.n ?_
              refine Then.n ?_
              refine WP.seq ?_
              refine WP.region ?_
              refine WPL.q (q_as (v := .lit (.bool _)) rfl) rfl ?_
              refine WPL.q (q_as (v := .lit (.int _ _)) rfl) rfl ?_
              refine WPL.nilW ?_
              refine W.now ?_
              refine Then.n ?_
              refine WP.retW ?_
              refine W.now ?_
              have q0 := (Prod.mk.inj (Option.some.inj H)).1
              have q1 := (Prod.mk.inj (Option.some.inj H)).2
              subst q0
              subst q1
              exact ⟨trivial, _, rfl, [], (.tup [.lit (.bool false), .lit (.int .i64 11)]), Mem.nil, ⟨rfl, trivial, by decide, rfl, trivial⟩, rfl, rfl, rfl, rfl⟩
end Go.Proofs.Ythgbompoldmhmaa.W
