/- Walks: Fc1 -/
import Derived.Test.YthgbompoldmhmabFb
namespace Go.Proofs.Ythgbompoldmhmab.W
open Go Go.Q Go.Proofs
set_option linter.unusedVariables false
set_option linter.unusedSimpArgs false
set_option maxRecDepth 100000 in
set_option maxHeartbeats 4000000 in
theorem s_huff_judged__b (k : Nat) (x1705 : (List Int)) (x1778 : Bool) (x1779 : Int) (H : g_huff_judged k x1705 = some (x1778, x1779)) : Go.Q.Spec Try.prog 14 0 [.ro (Rd.slice (Rd.int .i64)) true x1705] Mem.nil (fun o M => o = .ret (.tup [.lit (.bool x1778), .lit (.int .i64 x1779)]) ∧ M = Mem.nil) := by
  unfold g_huff_judged at H
  refine Go.Q.Spec.of_bodyR (rs := [.tmp 2, .tmp 3]) (nt := 45) Try.func14 rfl rfl (by intro t T h; simp at h) rfl rfl fun cx hnp => ?_
  refine WP.seq ?_
  refine WP.region ?_
  refine WPL.q (q_as (v := .lit (.bool _)) rfl) rfl ?_
  refine WPL.q (q_as (v := .lit (.int _ _)) rfl) rfl ?_
  refine WPL.nilW ?_
  refine W.now ?_
  refine Then.n ?_
  refine WP.seq ?_
  refine WP.seq ?_
  refine WP.region ?_
  refine WPL.q (q_mv (v := .ro _ _ _) rfl) rfl ?_
  refine WPL.q (q_len_ro sl22 rfl) rfl ?_
  obtain ⟨x1781, h1781, H⟩ := bnd H
  refine WPL.q (q_nm (q_gtr rfl rfl) (nm_bool h1781)) rfl ?_
  refine WPL.nilW ?_
  refine W.now ?_
  refine Then.n ?_
  refine WP.cond (t := x1781) rfl (fun hb => ?_) (fun hb => ?_)
  · replace H := cnt hb H
    refine WP.seq ?_
    refine WP.region ?_
    refine WPL.q (q_as (v := .lit (.bool _)) rfl) rfl ?_
    refine WPL.q (q_as (v := .lit (.int _ _)) rfl) rfl ?_
    refine WPL.nilW ?_
    refine W.now ?_
    refine Then.n ?_
    refine WP.retW ?_
    refine W.now ?_
    refine Then.r ?_
    have q0 := (Prod.mk.inj (Option.some.inj H)).1
    have q1 := (Prod.mk.inj (Option.some.inj H)).2
    subst q0
    subst q1
    exact ⟨trivial, _, rfl, [], (.tup [.lit (.bool false), .lit (.int .i64 1)]), Mem.nil, ⟨rfl, trivial, by decide, rfl, trivial⟩, rfl, rfl, rfl, rfl⟩
  · replace H := cnf hb H
    refine WP.skipW ?_
    refine W.now ?_
    refine Then.n ?_
    refine WP.seq ?_
    refine WP.region ?_
    refine WPL.q (q_as (v := .lit (.int _ _)) rfl) rfl ?_
    refine WPL.q (q_as (v := .lit (.int _ _)) rfl) rfl ?_
    refine WPL.nilW ?_
    refine W.now ?_
    refine Then.n ?_
    refine WP.seq ?_
    refine WP.seq ?_
    refine WP.region ?_
    refine WPL.q (q_mv (v := .ro _ _ _) rfl) rfl ?_
    refine WPL.q (q_len_ro sl22 rfl) rfl ?_
    refine WPL.q (q_mv (v := .lit (.int _ _)) rfl) rfl ?_
    refine WPL.nilW ?_
    refine W.now ?_
    refine Then.n ?_
    refine WP.block ?_
    refine WP.cv (Cv.weak (E' := (((((Env.none.upd 4 (.lit (.int .i64 32768))).upd 5 (.lit (.int .i64 0))).upd 11 (.ro (Rd.slice (Rd.int .i64)) true x1705)).upd 12 (.lit (.int .i64 ((List.length x1705 : Nat) : Int)))).upd 13 (.lit (.int .i64 0)))) (M' := Mem.nil) [] hnp ⟨rfl, trivial, by decide, rfl, trivial⟩ (LeE.upd rfl rfl (LeE.upd rfl rfl (LeE.upd rfl rfl (LeE.upd rfl rfl (LeE.upd rfl rfl (LeE.none rfl rfl))))))) ?_
    obtain ⟨y1869, H1867, H⟩ := bnd H
    refine WP.monoW (Q := fun x E M => match (generalizing := false) y1869 with | (Sum.inl _) => x = .ret ∧ E = ((Env.none.upd 2 (.lit (.bool false))).upd 3 (.lit (.int .i64 1))) ∧ M = Mem.nil | (Sum.inr (x1839, x1840)) => x = .exit 0 ∧ E = ((Env.none.upd 4 (.lit (.int .i64 x1839))).upd 5 (.lit (.int .i64 x1840))) ∧ M = Mem.nil) ?_ ?_
    · refine WP.loop (β := Int × Int × Int) (fun n b => g_huff_judged_l0 k x1705 n b.1 b.2.1 b.2.2 = some y1869) (fun b => (((((Env.none.upd 4 (.lit (.int .i64 b.1))).upd 5 (.lit (.int .i64 b.2.1))).upd 11 (.ro (Rd.slice (Rd.int .i64)) true x1705)).upd 12 (.lit (.int .i64 ((List.length x1705 : Nat) : Int)))).upd 13 (.lit (.int .i64 b.2.2)))) (fun b => Mem.nil) k (32768, 0, 0) H1867 rfl rfl ?_
      rintro n ⟨x1809, x1810, x1811⟩ H
      obtain _ | n := n
      · exact nf rfl H
      rw [g_huff_judged_l0.eq_2] at H
      show WP _ _ _ _ (((((Env.none.upd 4 (.lit (.int .i64 x1809))).upd 5 (.lit (.int .i64 x1810))).upd 11 (.ro (Rd.slice (Rd.int .i64)) true x1705)).upd 12 (.lit (.int .i64 ((List.length x1705 : Nat) : Int)))).upd 13 (.lit (.int .i64 x1811))) Mem.nil _
      refine WP.seq ?_
      refine WP.region ?_
      obtain ⟨x1841, h1841, H⟩ := bnd H
      refine WPL.q (q_nm (q_lss rfl rfl) (nm_bool h1841)) rfl ?_
      refine WPL.nilW ?_
      refine W.now ?_
      refine Then.n ?_
      refine WP.seq ?_
      refine WP.cond (t := x1841) rfl (fun hb => ?_) (fun hb => ?_)
      · replace H := cnt hb H
        refine WP.skipW ?_
        refine W.now ?_
        refine Then.n ?_
        refine WP.seq ?_
        obtain ⟨y1867, H1865, H⟩ := bnd H
        refine WP.monoW (Q := fun x E M => match (generalizing := false) y1867 with | (Sum.inl _) => x = .ret ∧ E = ((Env.none.upd 2 (.lit (.bool false))).upd 3 (.lit (.int .i64 1))) ∧ M = Mem.nil | (Sum.inr (x1853, x1854)) => x = .normal ∧ E = (((((Env.none.upd 4 (.lit (.int .i64 x1853))).upd 5 (.lit (.int .i64 x1854))).upd 11 (.ro (Rd.slice (Rd.int .i64)) true x1705)).upd 12 (.lit (.int .i64 ((List.length x1705 : Nat) : Int)))).upd 13 (.lit (.int .i64 x1811))) ∧ M = Mem.nil) ?_ ?_
        · clear H
          have H := H1865
          clear H1865
          refine WP.block ?_
          refine WP.seq ?_
          refine WP.region ?_
          obtain ⟨x1855, h1855, H⟩ := bnd H
          refine WPL.q (q_index_ro sl22 rfl rfl rfl h1855) rfl ?_
          refine WPL.q (q_load_sc sc3 rfl) rfl ?_
          refine WPL.q (q_as (v := .lit (.int _ _)) rfl) rfl ?_
          refine WPL.nilW ?_
          refine W.now ?_
          refine Then.n ?_
          refine WP.seq ?_
          refine WP.seq ?_
          obtain ⟨x1861, H1862, H⟩ := bnd H
          refine WP.monoW (Q := fun x E M => x = .normal ∧ E = (((((((Env.none.upd 4 (.lit (.int .i64 x1809))).upd 5 (.lit (.int .i64 x1810))).upd 7 (.lit (.int .i64 x1855))).upd 11 (.ro (Rd.slice (Rd.int .i64)) true x1705)).upd 12 (.lit (.int .i64 ((List.length x1705 : Nat) : Int)))).upd 13 (.lit (.int .i64 x1811))).upd 22 (.lit (.bool x1861))) ∧ M = Mem.nil) ?_ ?_
          · clear H
            have H := H1862
            clear H1862
            refine WP.region ?_
            refine WPL.q (q_mv (v := .lit (.int _ _)) rfl) rfl ?_
            refine WPL.q (q_lss rfl rfl) rfl ?_
            refine WPL.q (q_mv (v := .lit (.bool _)) rfl) rfl ?_
            refine WPL.split (t := 19) (b := (decide (x1855 < 0))) rfl (fun hb1861 => ?_) (fun hb1861 => ?_)
            · replace H := cnt hb1861 H
              refine WPL.skipg (b' := true) rfl rfl (lb hb1861) rfl rfl ?_
              refine WPL.skipg (b' := true) rfl rfl (lb hb1861) rfl rfl ?_
              refine WPL.q (q_pickT (v := .lit (.bool _)) (lb hb1861) rfl) rfl ?_
              refine WPL.nilW ?_
              refine W.cv (Cv.weak (E' := (((((((Env.none.upd 4 (.lit (.int .i64 x1809))).upd 5 (.lit (.int .i64 x1810))).upd 7 (.lit (.int .i64 x1855))).upd 11 (.ro (Rd.slice (Rd.int .i64)) true x1705)).upd 12 (.lit (.int .i64 ((List.length x1705 : Nat) : Int)))).upd 13 (.lit (.int .i64 x1811))).upd 22 (.lit (.bool true)))) (M' := Mem.nil) [] hnp ⟨rfl, trivial, by decide, rfl, trivial⟩ (LeE.upd rfl rfl (LeE.upd rfl rfl (LeE.upd rfl rfl (LeE.upd rfl rfl (LeE.upd rfl rfl (LeE.upd rfl rfl (LeE.upd rfl rfl (LeE.none rfl rfl))))))))) rfl ?_
              refine W.now ?_
              have q0 := (Option.some.inj H)
              subst q0
              exact ⟨rfl, rfl, rfl⟩
            · replace H := cnf hb1861 H
              refine WPL.qg rfl rfl (lb hb1861) (q_mv (v := .lit (.int _ _)) rfl) rfl ?_
              refine WPL.qg rfl rfl (lb hb1861) (q_gtr rfl rfl) rfl ?_
              refine WPL.q (q_pickF (v := .lit (.bool _)) (lb hb1861) rfl) rfl ?_
              refine WPL.nilW ?_
              refine W.cv (Cv.weak (E' := (((((((Env.none.upd 4 (.lit (.int .i64 x1809))).upd 5 (.lit (.int .i64 x1810))).upd 7 (.lit (.int .i64 x1855))).upd 11 (.ro (Rd.slice (Rd.int .i64)) true x1705)).upd 12 (.lit (.int .i64 ((List.length x1705 : Nat) : Int)))).upd 13 (.lit (.int .i64 x1811))).upd 22 (.lit (.bool (decide (15 < x1855)))))) (M' := Mem.nil) [] hnp ⟨rfl, trivial, by decide, rfl, trivial⟩ (LeE.upd rfl rfl (LeE.upd rfl rfl (LeE.upd rfl rfl (LeE.upd rfl rfl (LeE.upd rfl rfl (LeE.upd rfl rfl (LeE.upd rfl rfl (LeE.none rfl rfl))))))))) rfl ?_
              refine W.now ?_
              have q0 := (Option.some.inj H)
              subst q0
              exact ⟨rfl, rfl, rfl⟩
          · rintro _ _ _ ⟨rfl, rfl, rfl⟩
            refine W.now ?_
            refine Then.n ?_
            refine WP.cond (t := x1861) rfl (fun hb => ?_) (fun hb => ?_)
            · replace H := cnt hb H
              refine WP.seq ?_
              refine WP.region ?_
              refine WPL.q (q_as (v := .lit (.bool _)) rfl) rfl ?_
              refine WPL.q (q_as (v := .lit (.int _ _)) rfl) rfl ?_
              refine WPL.nilW ?_
              refine W.now ?_
              refine Then.n ?_
              refine WP.retW ?_
              refine W.cv (Cv.weak (E' := ((Env.none.upd 2 (.lit (.bool false))).upd 3 (.lit (.int .i64 1)))) (M' := Mem.nil) [] hnp ⟨rfl, trivial, by decide, rfl, trivial⟩ (LeE.upd rfl rfl (LeE.upd rfl rfl (LeE.none rfl rfl)))) rfl ?_
              refine W.now ?_
              refine Then.r ?_
              refine InBlock.r ?_
              have q0 := Option.some.inj H
              subst q0
              exact ⟨rfl, rfl, rfl⟩
            · replace H := cnf hb H
              refine WP.skipW ?_
              refine W.now ?_
              refine Then.n ?_
              refine WP.seq ?_
              refine WP.region ?_
              refine WPL.q (q_mv (v := .lit (.int _ _)) rfl) rfl ?_
              refine WPL.q (q_gtr rfl rfl) rfl ?_
              refine WPL.nilW ?_
              refine W.now ?_
              refine Then.n ?_
              refine WP.cond (t := (decide (0 < x1855))) rfl (fun hb => ?_) (fun hb => ?_)
              · replace H := cnt hb H
                refine WP.seq ?_
                refine WP.region ?_
                refine WPL.q (q_mv (v := .lit (.int _ _)) rfl) rfl ?_
                refine WPL.q (q_mv (v := .lit (.int _ _)) rfl) rfl ?_
                refine WPL.q (q_sub rfl rfl) rfl ?_
                obtain ⟨h1863, H⟩ := grd H
                obtain ⟨x1865, h1865, H⟩ := bnd H
                refine WPL.q (q_nm (q_shl rfl rfl h1863) (nm_int h1865)) rfl ?_
                refine WPL.q (q_sub rfl rfl) rfl ?_
                refine WPL.q (q_as (v := .lit (.int _ _)) rfl) rfl ?_
                refine WPL.nilW ?_
                refine W.now ?_
                refine Then.n ?_
                refine WP.region ?_
                refine WPL.q (q_mv (v := .lit (.int _ _)) rfl) rfl ?_
                refine WPL.q (q_add rfl rfl) rfl ?_
                refine WPL.q (q_as (v := .lit (.int _ _)) rfl) rfl ?_
                refine WPL.nilW ?_
                refine W.cv (Cv.weak (E' := (((((Env.none.upd 4 (.lit (.int .i64 (IntKind.wrap .i64 (x1809 - x1865))))).upd 5 (.lit (.int .i64 (IntKind.wrap .i64 (x1810 + 1))))).upd 11 (.ro (Rd.slice (Rd.int .i64)) true x1705)).upd 12 (.lit (.int .i64 ((List.length x1705 : Nat) : Int)))).upd 13 (.lit (.int .i64 x1811)))) (M' := Mem.nil) [] hnp ⟨rfl, trivial, by decide, rfl, trivial⟩ (LeE.upd rfl rfl (LeE.upd rfl rfl (LeE.upd rfl rfl (LeE.upd rfl rfl (LeE.upd rfl rfl (LeE.none rfl rfl))))))) rfl ?_
                refine W.now ?_
                refine InBlock.n ?_
                have q0 := Option.some.inj H
                subst q0
                exact ⟨rfl, rfl, rfl⟩
              · replace H := cnf hb H
                refine WP.skipW ?_
                refine W.cv (Cv.weak (E' := (((((Env.none.upd 4 (.lit (.int .i64 x1809))).upd 5 (.lit (.int .i64 x1810))).upd 11 (.ro (Rd.slice (Rd.int .i64)) true x1705)).upd 12 (.lit (.int .i64 ((List.length x1705 : Nat) : Int)))).upd 13 (.lit (.int .i64 x1811)))) (M' := Mem.nil) [] hnp ⟨rfl, trivial, by decide, rfl, trivial⟩ (LeE.upd rfl rfl (LeE.upd rfl rfl (LeE.upd rfl rfl (LeE.upd rfl rfl (LeE.upd rfl rfl (LeE.none rfl rfl))))))) rfl ?_
                refine W.now ?_
                refine InBlock.n ?_
                have q0 := Option.some.inj H
                subst q0
                exact ⟨rfl, rfl, rfl⟩
        · rcases y1867 with _ | ⟨x1853, x1854⟩
          · rintro _ _ _ ⟨rfl, rfl, rfl⟩
            refine W.cv (Cv.weak (E' := ((Env.none.upd 2 (.lit (.bool false))).upd 3 (.lit (.int .i64 1)))) (M' := Mem.nil) [] hnp ⟨rfl, trivial, by decide, rfl, trivial⟩ (LeE.upd rfl rfl (LeE.upd rfl rfl (LeE.none rfl rfl)))) rfl ?_
            refine W.now ?_
            refine Then.r ?_
            refine Then.r ?_
            have q0 := Option.some.inj H
            subst q0
            exact ⟨rfl, rfl, rfl⟩
          · rintro _ _ _ ⟨rfl, rfl, rfl⟩
            refine W.now ?_
            refine Then.n ?_
            refine WP.region ?_
            refine WPL.q (q_add rfl rfl) rfl ?_
            refine WPL.q (q_mv (v := .lit (.int _ _)) rfl) rfl ?_
            refine WPL.nilW ?_
            refine W.cv (Cv.weak (E' := (((((Env.none.upd 4 (.lit (.int .i64 x1853))).upd 5 (.lit (.int .i64 x1854))).upd 11 (.ro (Rd.slice (Rd.int .i64)) true x1705)).upd 12 (.lit (.int .i64 ((List.length x1705 : Nat) : Int)))).upd 13 (.lit (.int .i64 (IntKind.wrap .i64 (x1811 + 1)))))) (M' := Mem.nil) [] hnp ⟨rfl, trivial, by decide, rfl, trivial⟩ (LeE.upd rfl rfl (LeE.upd rfl rfl (LeE.upd rfl rfl (LeE.upd rfl rfl (LeE.upd rfl rfl (LeE.none rfl rfl))))))) rfl ?_
            refine W.now ?_
            exact Then.n ⟨n, (x1853, x1854, (IntKind.wrap .i64 (x1811 + 1))), Nat.lt_succ_self n, H, rfl, rfl⟩
      · replace H := cnf hb H
        refine WP.exitW ?_
        refine W.cv (Cv.weak (E' := ((Env.none.upd 4 (.lit (.int .i64 x1809))).upd 5 (.lit (.int .i64 x1810)))) (M' := Mem.nil) [] hnp ⟨rfl, trivial, by decide, rfl, trivial⟩ (LeE.upd rfl rfl (LeE.upd rfl rfl (LeE.none rfl rfl)))) rfl ?_
        refine W.now ?_
        refine Then.x ?_
        refine Then.x ?_
        have q0 := Option.some.inj H
        subst q0
        exact ⟨rfl, rfl, rfl⟩
    · rcases y1869 with _ | ⟨x1839, x1840⟩
      · rintro _ _ _ ⟨rfl, rfl, rfl⟩
        refine W.now ?_
        refine InBlock.r ?_
        refine Then.r ?_
        have q0 := (Prod.mk.inj (Option.some.inj H)).1
        have q1 := (Prod.mk.inj (Option.some.inj H)).2
        subst q0
        subst q1
        exact ⟨trivial, _, rfl, [], (.tup [.lit (.bool false), .lit (.int .i64 1)]), Mem.nil, ⟨rfl, trivial, by decide, rfl, trivial⟩, rfl, rfl, rfl, rfl⟩
      · rintro _ _ _ ⟨rfl, rfl, rfl⟩
        refine W.now ?_
        refine InBlock.x0 ?_
        refine Then.n ?_
        refine WP.seq ?_
        refine WP.block ?_
        refine WP.seq ?_
        refine WP.region ?_
        refine WPL.q (q_mv (v := .lit (.int _ _)) rfl) rfl ?_
        refine WPL.q (q_eql rfl rfl) rfl ?_
        refine WPL.q (q_as (v := .lit (.bool _)) rfl) rfl ?_
        refine WPL.nilW ?_
        refine W.now ?_
        refine Then.n ?_
        refine WP.cond (t := (decide (x1839 = 0))) rfl (fun hb => ?_) (fun hb => ?_)
        · replace H := cnt hb H
          refine WP.seq ?_
          refine WP.region ?_
          refine WPL.q (q_as (v := .lit (.bool _)) rfl) rfl ?_
          refine WPL.q (q_as (v := .lit (.int _ _)) rfl) rfl ?_
          refine WPL.nilW ?_
          refine W.now ?_
          refine Then.n ?_
          refine WP.retW ?_
          refine W.now ?_
          refine InBlock.r ?_
          refine Then.r ?_
          have q0 := (Prod.mk.inj (Option.some.inj H)).1
          have q1 := (Prod.mk.inj (Option.some.inj H)).2
          subst q0
          subst q1
          exact ⟨trivial, _, rfl, [], (.tup [.lit (.bool true), .lit (.int .i64 0)]), Mem.nil, ⟨rfl, trivial, by decide, rfl, trivial⟩, rfl, rfl, rfl, rfl⟩
        · replace H := cnf hb H
          refine WP.seq ?_
          obtain ⟨x1875, H1876, H⟩ := bnd H
          refine WP.monoW (Q := fun x E M => x = .normal ∧ E = (Env.none.upd 36 (.lit (.bool x1875))) ∧ M = Mem.nil) ?_ ?_
          · clear H
            have H := H1876
            clear H1876
            refine WP.seq ?_
            refine WP.region ?_
            refine WPL.q (q_mv (v := .lit (.int _ _)) rfl) rfl ?_
            refine WPL.q (q_eql rfl rfl) rfl ?_
            refine WPL.q (q_as (v := .lit (.bool _)) rfl) rfl ?_
            refine WPL.nilW ?_
            refine W.now ?_
            refine Then.n ?_
            refine WP.cond (t := (decide (x1840 = 0))) rfl (fun hb => ?_) (fun hb => ?_)
            · replace H := cnt hb H
              refine WP.skipW ?_
              refine W.cv (Cv.weak (E' := (Env.none.upd 36 (.lit (.bool (decide (x1840 = 0)))))) (M' := Mem.nil) [] hnp ⟨rfl, trivial, by decide, rfl, trivial⟩ (LeE.upd rfl rfl (LeE.none rfl rfl))) rfl ?_
              refine W.now ?_
              have q0 := (Option.some.inj H)
              subst q0
              exact ⟨rfl, rfl, rfl⟩
            · replace H := cnf hb H
              refine WP.region ?_
              refine WPL.q (q_mv (v := .lit (.int _ _)) rfl) rfl ?_
              refine WPL.q (q_eql rfl rfl) rfl ?_
              refine WPL.q (q_mv (v := .lit (.bool _)) rfl) rfl ?_
              refine WPL.split (t := 41) (b := (decide (x1840 = 1))) rfl (fun hb1875 => ?_) (fun hb1875 => ?_)
              · replace H := cnt hb1875 H
                refine WPL.qg rfl rfl (lb hb1875) (q_mv (v := .lit (.int _ _)) rfl) rfl ?_
                refine WPL.qg rfl rfl (lb hb1875) (q_eql rfl rfl) rfl ?_
                refine WPL.q (q_pickT (v := .lit (.bool _)) (lb hb1875) rfl) rfl ?_
                refine WPL.q (q_as (v := .lit (.bool _)) rfl) rfl ?_
                refine WPL.nilW ?_
                refine W.cv (Cv.weak (E' := (Env.none.upd 36 (.lit (.bool (decide (x1839 = 16384)))))) (M' := Mem.nil) [] hnp ⟨rfl, trivial, by decide, rfl, trivial⟩ (LeE.upd rfl rfl (LeE.none rfl rfl))) rfl ?_
                refine W.now ?_
                have q0 := (Option.some.inj H)
                subst q0
                exact ⟨rfl, rfl, rfl⟩
              · replace H := cnf hb1875 H
                refine WPL.skipg (b' := false) rfl rfl (lb hb1875) rfl rfl ?_
                refine WPL.skipg (b' := false) rfl rfl (lb hb1875) rfl rfl ?_
                refine WPL.q (q_pickF (v := .lit (.bool _)) (lb hb1875) rfl) rfl ?_
                refine WPL.q (q_as (v := .lit (.bool _)) rfl) rfl ?_
                refine WPL.nilW ?_
                refine W.cv (Cv.weak (E' := (Env.none.upd 36 (.lit (.bool false)))) (M' := Mem.nil) [] hnp ⟨rfl, trivial, by decide, rfl, trivial⟩ (LeE.upd rfl rfl (LeE.none rfl rfl))) rfl ?_
                refine W.now ?_
                have q0 := (Option.some.inj H)
                subst q0
                exact ⟨rfl, rfl, rfl⟩
          · rintro _ _ _ ⟨rfl, rfl, rfl⟩
            refine W.now ?_
            refine Then.n ?_
            refine WP.cond (t := x1875) rfl (fun hb => ?_) (fun hb => ?_)
            · replace H := cnt hb H
              refine WP.seq ?_
              refine WP.region ?_
              refine WPL.q (q_as (v := .lit (.bool _)) rfl) rfl ?_
              refine WPL.q (q_as (v := .lit (.int _ _)) rfl) rfl ?_
              refine WPL.nilW ?_
              refine W.now ?_
              refine Then.n ?_
              refine WP.retW ?_
              refine W.now ?_
              refine InBlock.r ?_
              refine Then.r ?_
              have q0 := (Prod.mk.inj (Option.some.inj H)).1
              have q1 := (Prod.mk.inj (Option.some.inj H)).2
              subst q0
              subst q1
              exact ⟨trivial, _, rfl, [], (.tup [.lit (.bool false), .lit (.int .i64 0)]), Mem.nil, ⟨rfl, trivial, by decide, rfl, trivial⟩, rfl, rfl, rfl, rfl⟩
            · replace H := cnf hb H
              refine WP.skipW ?_
              refine W.now ?_
              refine InBlock.n ?_
              refine Then.n ?_
              refine WP.seq ?_
              refine WP.region ?_
              refine WPL.q (q_as (v := .lit (.bool _)) rfl) rfl ?_
              refine WPL.q (q_as (v := .lit (.int _ _)) rfl) rfl ?_
              refine WPL.nilW ?_
              refine W.now ?_
              refine Then.n ?_
              refine WP.retW ?_
              refine W.now ?_
              have q0 := (Prod.mk.inj (Option.some.inj H)).1
              have q1 := (Prod.mk.inj (Option.some.inj H)).2
              subst q0
              subst q1
              exact ⟨trivial, _, rfl, [], (.tup [.lit (.bool false), .lit (.int .i64 11)]), Mem.nil, ⟨rfl, trivial, by decide, rfl, trivial⟩, rfl, rfl, rfl, rfl⟩
set_option maxRecDepth 100000 in
set_option maxHeartbeats 4000000 in
theorem s_huff_of__b (k : Nat) (x1885 : (List Int)) (x1886 : Int) (H : g_huff_of k x1885 x1886 = some ()) : Go.Q.Spec Try.prog 15 0 [.ro (Rd.slice (Rd.int .i64)) true x1885, .lit (.int .i64 x1886)] Mem.nil (fun o M => o = .ret (.fn 22 [.ptr 0 0, .ptr 1 0]) ∧ M = ((Mem.nil.push (.cells 22 [.ro (Rd.slice (Rd.int .i64)) true x1885])).push (.cells 3 [.lit (.int .i64 x1886)]))) := by
  unfold g_huff_of at H
  refine Go.Q.Spec.of_bodyR (rs := [.tmp 4]) (nt := 6) Try.func15 rfl rfl (by intro t T h; simp at h) rfl rfl fun cx hnp => ?_
  refine WP.seq ?_
  refine WP.region ?_
  refine WPL.d (d_box rfl rfl) rfl ?_
  refine WPL.d (d_box rfl rfl) rfl ?_
  refine WPL.q (q_as (v := .lit _) rfl) rfl ?_
  refine WPL.nilW ?_
  refine W.now ?_
  refine Then.n ?_
  refine WP.seq ?_
  refine WP.region ?_
  refine WPL.q (q_makeFunc) rfl ?_
  refine WPL.q (q_as (v := .fn _ _) rfl) rfl ?_
  refine WPL.nilW ?_
  refine W.now ?_
  refine Then.n ?_
  refine WP.retW ?_
  refine W.now ?_
  exact ⟨trivial, _, rfl, [0, 1], (.fn 22 [.ptr 0 0, .ptr 1 0]), ((Mem.nil.push (.cells 22 [.ro (Rd.slice (Rd.int .i64)) true x1885])).push (.cells 3 [.lit (.int .i64 x1886)])), ⟨rfl, ⟨⟨trivial, .inr ⟨rfl, rfl, rfl⟩⟩, .inr ⟨rfl, rfl, rfl⟩⟩, by decide, rfl, trivial⟩, rfl, rfl, rfl, rfl⟩
set_option maxRecDepth 100000 in
set_option maxHeartbeats 4000000 in
theorem s_huff_Codes__b (k : Nat) (x1703 : (List Int)) (x2076 : (List Int)) (x2077 : Int) (H : g_huff_Codes k x1703 = some (x2076, x2077)) : Go.Q.Spec Try.prog 4 0 [.ro (Rd.slice (Rd.int .i64)) true x1703] Mem.nil (fun o M => o = .ret (.tup [.ro (Rd.slice (Rd.int .u32)) false x2076, .lit (.int .i64 x2077)]) ∧ M = Mem.nil) := by
  unfold g_huff_Codes at H
  refine Go.Q.Spec.of_bodyR (rs := [.tmp 2, .tmp 3]) (nt := 38) Try.func4 rfl rfl (by intro t T h; simp at h) rfl rfl fun cx hnp => ?_
  refine WP.seq ?_
  refine WP.region ?_
  refine WPL.q (q_as (v := .lit _) rfl) rfl ?_
  refine WPL.q (q_as (v := .lit (.int _ _)) rfl) rfl ?_
  refine WPL.nilW ?_
  refine W.now ?_
  refine Then.n ?_
  refine WP.seq ?_
  refine WP.seq ?_
  refine WP.region ?_
  refine WPL.q (q_mv (v := .ro _ _ _) rfl) rfl ?_
  obtain ⟨⟨x2082, x2083⟩, h2080, H⟩ := bnd H
  refine WPL.c (runs_call (s := []) (t := []) (N := 0) (bor := []) fn14 rfl (s_huff_judged__b k x1703 x2082 x2083 h2080) ⟨rfl, trivial, by decide, rfl, trivial⟩ rfl trivial (.ren rfl rfl .nil) rfl trivial rfl) rfl ?_
  refine WPL.q (q_mv (v := .tup _) rfl) rfl ?_
  refine WPL.q (q_extract rfl rfl) rfl ?_
  refine WPL.q (q_extract rfl rfl) rfl ?_
  refine WPL.q (q_as (v := .lit (.bool _)) rfl) rfl ?_
  refine WPL.q (q_as (v := .lit (.int _ _)) rfl) rfl ?_
  refine WPL.nilW ?_
  refine W.now ?_
  refine Then.n ?_
  refine WP.seq ?_
  refine WP.region ?_
  refine WPL.q (q_mv (v := .lit (.int _ _)) rfl) rfl ?_
  refine WPL.q (q_neq rfl rfl) rfl ?_
  refine WPL.nilW ?_
  refine W.now ?_
  refine Then.n ?_
  refine WP.cond (t := (!decide (x2083 = 0))) rfl (fun hb => ?_) (fun hb => ?_)
  · replace H := cnt hb H
    refine WP.seq ?_
    refine WP.region ?_
    refine WPL.q (q_mv (v := .lit (.int _ _)) rfl) rfl ?_
    refine WPL.q (q_as (v := .lit _) rfl) rfl ?_
    refine WPL.q (q_as (v := .lit (.int _ _)) rfl) rfl ?_
    refine WPL.nilW ?_
    refine W.now ?_
    refine Then.n ?_
    refine WP.retW ?_
    refine W.cv (Cv.nilRo (Rd.int .u32) false 2 rfl) rfl ?_
    refine W.now ?_
    refine Then.r ?_
    have q0 := (Prod.mk.inj (Option.some.inj H)).1
    have q1 := (Prod.mk.inj (Option.some.inj H)).2
    subst q0
    subst q1
    exact ⟨trivial, _, rfl, [], (.tup [.ro (Rd.slice (Rd.int .u32)) false ([] : List Int), .lit (.int .i64 x2083)]), Mem.nil, ⟨rfl, trivial, by decide, rfl, trivial⟩, rfl, rfl, rfl, rfl⟩
  · replace H := cnf hb H
    refine WP.skipW ?_
    refine W.now ?_
    refine Then.n ?_
    refine WP.seq ?_
    refine WP.region ?_
    refine WPL.q (q_mv (v := .ro _ _ _) rfl) rfl ?_
    refine WPL.q (q_len_ro sl22 rfl) rfl ?_
    obtain ⟨h2083, H⟩ := grd H
    refine WPL.d (d_make (d := (0 : Int)) (R := (Rd.int .u32)) li23 by34 rfl rfl rfl Joins.sc rfl rfl h2083 rfl) rfl ?_
    refine WPL.d (d_alloc ze23 rfl) rfl ?_
    refine WPL.s (s_store sz23 rfl rfl rfl rfl rfl) ?_
    refine WPL.nilW ?_
    refine W.now ?_
    refine Then.n ?_
    refine WP.seq ?_
    refine WP.region ?_
    refine WPL.d (d_alloc ze34 rfl) rfl ?_
    refine WPL.s (s_store sz34 rfl rfl rfl rfl rfl) ?_
    refine WPL.nilW ?_
    refine W.now ?_
    refine Then.n ?_
    refine WP.seq ?_
    refine WP.seq ?_
    refine WP.region ?_
    refine WPL.q (q_as (v := .lit (.int _ _)) rfl) rfl ?_
    refine WPL.nilW ?_
    refine W.now ?_
    refine Then.n ?_
    refine WP.block ?_
    refine WP.cv (Cv.nullMark (N := 3) rfl rfl) ?_
    refine WP.cv (Cv.weak (E' := (((((⟨fun _ => .any, [3], []⟩ : Env).upd 0 (.ro (Rd.slice (Rd.int .i64)) true x1703)).upd 6 (.ptr 0 0)).upd 7 (.ptr 2 0)).upd 8 (.lit (.int .i64 1)))) (M' := ((((Mem.nil.push (.cells 23 [.whole 1])).push (.row 34 (Rd.int .u32) (List.replicate (Int.toNat ((List.length x1703 : Nat) : Int)) (0 : Int)))).push (.cells 34 [.lit (.int .u32 0)])).push (.bag))) [1, 0, 2, 3] hnp ⟨rfl, ⟨⟨⟨⟨trivial, .inr ⟨rfl, rfl, rfl⟩⟩, .inr ⟨rfl, rfl, rfl⟩⟩, .inr ⟨rfl, rfl, rfl⟩⟩, .inr ⟨rfl, rfl, rfl⟩⟩, by decide, rfl, trivial⟩ (LeE.upd rfl rfl (LeE.upd rfl rfl (LeE.upd rfl rfl (LeE.upd rfl rfl (LeE.noneD rfl rfl .nil)))))) ?_
    obtain ⟨x2271, H2355, H⟩ := bnd H
    refine WP.monoW (Q := fun x E M => x = .exit 0 ∧ E = ((⟨fun _ => .any, [2], []⟩ : Env).upd 6 (.ptr 0 0)) ∧ M = (((Mem.nil.push (.cells 23 [.whole 1])).push (.row 34 (Rd.int .u32) x2271)).push (.bag))) ?_ ?_
    · refine WP.loop (β := Int × (List Int) × Int) (fun n b => g_huff_Codes_l0 k x1703 n b.1 b.2.1 b.2.2 = some x2271) (fun b => (((((⟨fun _ => .any, [3], []⟩ : Env).upd 0 (.ro (Rd.slice (Rd.int .i64)) true x1703)).upd 6 (.ptr 0 0)).upd 7 (.ptr 2 0)).upd 8 (.lit (.int .i64 b.1)))) (fun b => ((((Mem.nil.push (.cells 23 [.whole 1])).push (.row 34 (Rd.int .u32) b.2.1)).push (.cells 34 [.lit (.int .u32 b.2.2)])).push (.bag))) k (1, (List.replicate (Int.toNat ((List.length x1703 : Nat) : Int)) (0 : Int)), 0) H2355 rfl rfl ?_
      rintro n ⟨x2207, x2208, x2209⟩ H
      obtain _ | n := n
      · exact nf rfl H
      rw [g_huff_Codes_l0.eq_2] at H
      show WP _ _ _ _ (((((⟨fun _ => .any, [3], []⟩ : Env).upd 0 (.ro (Rd.slice (Rd.int .i64)) true x1703)).upd 6 (.ptr 0 0)).upd 7 (.ptr 2 0)).upd 8 (.lit (.int .i64 x2207))) ((((Mem.nil.push (.cells 23 [.whole 1])).push (.row 34 (Rd.int .u32) x2208)).push (.cells 34 [.lit (.int .u32 x2209)])).push (.bag)) _
      refine WP.seq ?_
      refine WP.seq ?_
      refine WP.region ?_
      refine WPL.q (q_mv (v := .lit (.int _ _)) rfl) rfl ?_
      refine WPL.q (q_leq rfl rfl) rfl ?_
      refine WPL.nilW ?_
      refine W.now ?_
      refine Then.n ?_
      refine WP.cond (t := (decide (x2207 ≤ 15))) rfl (fun hb => ?_) (fun hb => ?_)
      · replace H := cnt hb H
        refine WP.skipW ?_
        refine W.now ?_
        refine Then.n ?_
        refine WP.seq ?_
        refine WP.block ?_
        refine WP.seq ?_
        refine WP.region ?_
        refine WPL.q (q_load sc34 rfl rfl rfl) rfl ?_
        refine WPL.q (q_shl rfl rfl rfl) rfl ?_
        refine WPL.s (s_store sz34 rfl rfl rfl rfl rfl) ?_
        refine WPL.nilW ?_
        refine W.now ?_
        refine Then.n ?_
        refine WP.seq ?_
        refine WP.region ?_
        refine WPL.q (q_mv (v := .ro _ _ _) rfl) rfl ?_
        refine WPL.q (q_mv (v := .lit (.int _ _)) rfl) rfl ?_
        obtain ⟨_, h2271, H⟩ := bnd H
        refine WPL.c (runs_call (s := []) (t := [4, 5]) (N := 6) (bor := []) fn15 rfl (s_huff_of__b k x1703 x2207 h2271) ⟨rfl, trivial, by decide, rfl, trivial⟩ rfl trivial (.ren rfl rfl (.ren rfl rfl .nil)) rfl ⟨⟨trivial, rfl⟩, rfl⟩ rfl) rfl ?_
        refine WPL.nilW ?_
        refine W.now ?_
        refine Then.n ?_
        refine WP.block ?_
        refine WP.range (nti := 23) (n := 6) rfl rfl Try.func22 rfl (by kernel_rfl) rfl rfl rfl rfl fun l_2272 r_2272 aC2272 hp2272 ha2272 hb2272 ht2272 hs2272 => ?_
        refine WP.seq ?_
        refine WP.region ?_
        refine WPL.q (q_load sc22 rfl rfl rfl) rfl ?_
        refine WPL.q (q_len_ro sl22 rfl) rfl ?_
        refine WPL.q (q_mv (v := .lit (.int _ _)) rfl) rfl ?_
        refine WPL.nilW ?_
        refine W.now ?_
        refine Then.n ?_
        refine WP.block ?_
        refine WP.cv (Cv.weak (E' := ((((((⟨fun _ => .any, [], [⟨aC2272, ((((((Env.none.upd 0 (.ro (Rd.slice (Rd.int .i64)) true x1703)).upd 6 (.ptr 1 0)).upd 7 (.ptr 3 0)).upd 8 (.lit (.int .i64 x2207))).upd 29 (.fn 22 [.ptr 4 0, .ptr 0 0]))).v, [5, 6], some (7, l_2272)⟩]⟩ : Env).upd 0 (.lit (.func (.yield l_2272) #[] #[]))).upd 2 (.ptr 0 0)).upd 6 (.ro (Rd.slice (Rd.int .i64)) true x1703)).upd 7 (.lit (.int .i64 ((List.length x1703 : Nat) : Int)))).upd 8 (.lit (.int .i64 0)))) (M' := ((((((((Mem.nil.push (.cells 3 [.lit (.int .i64 x2207)])).push (.cells 23 [.whole 2])).push (.row 34 (Rd.int .u32) x2208)).push (.cells 34 [.lit (.int .u32 (shlI .u32 x2209 1))])).push (.cells 22 [.ro (Rd.slice (Rd.int .i64)) true x1703])).push (.obj (Obj.deferred (some [])))).push (.bag)).push (.obj (lp r_2272 .ready none)))) [5, 0, 1, 2, 4, 6, 3, 7] hnp ⟨rfl, ⟨⟨⟨⟨⟨⟨⟨⟨trivial, .inr ⟨rfl, rfl, rfl⟩⟩, .inr ⟨rfl, rfl, rfl⟩⟩, .inr ⟨rfl, rfl, rfl⟩⟩, .inr ⟨rfl, rfl, rfl⟩⟩, .inr ⟨rfl, rfl, rfl⟩⟩, .inr ⟨rfl, rfl, rfl⟩⟩, .inr ⟨rfl, rfl, rfl⟩⟩, .inr ⟨rfl, rfl, rfl⟩⟩, by decide, rfl, trivial⟩ (LeE.upd rfl rfl (LeE.upd rfl rfl (LeE.upd rfl rfl (LeE.upd rfl rfl (LeE.upd rfl rfl (LeE.noneD rfl rfl (.cons ⟨rfl, (LeV.upd rfl rfl (LeV.upd rfl rfl (LeV.upd rfl rfl (LeV.upd rfl rfl (LeV.upd rfl rfl LeV.none))))), rfl, rfl, rfl, rfl⟩ .nil)))))))) ?_
        obtain ⟨y2355, H2353, H⟩ := bnd H
        refine WP.monoW (Q := fun x E M => match (generalizing := false) y2355 with | (Sum.inl (x2327, x2328)) => x = .ret ∧ E = (⟨fun _ => .any, [], [⟨aC2272, ((((((Env.none.upd 0 (.ro (Rd.slice (Rd.int .i64)) true x1703)).upd 6 (.ptr 0 0)).upd 7 (.ptr 2 0)).upd 8 (.lit (.int .i64 x2207))).upd 29 (.fn 22 [.ptr 3 0, .ptr 4 0]))).v, [5, 6], some (7, l_2272)⟩]⟩ : Env) ∧ M = ((((((((Mem.nil.push (.cells 23 [.whole 1])).push (.row 34 (Rd.int .u32) x2327)).push (.cells 34 [.lit (.int .u32 x2328)])).push (.cells 22 [.ro (Rd.slice (Rd.int .i64)) true x1703])).push (.cells 3 [.lit (.int .i64 x2207)])).push (.obj (Obj.deferred (some [])))).push (.bag)).push (.obj (lp r_2272 .ready none))) | (Sum.inr (x2329, x2330)) => x = .exit 0 ∧ E = (⟨fun _ => .any, [], [⟨aC2272, ((((((Env.none.upd 0 (.ro (Rd.slice (Rd.int .i64)) true x1703)).upd 6 (.ptr 0 0)).upd 7 (.ptr 2 0)).upd 8 (.lit (.int .i64 x2207))).upd 29 (.fn 22 [.ptr 3 0, .ptr 4 0]))).v, [5, 6], some (7, l_2272)⟩]⟩ : Env) ∧ M = ((((((((Mem.nil.push (.cells 23 [.whole 1])).push (.row 34 (Rd.int .u32) x2329)).push (.cells 34 [.lit (.int .u32 x2330)])).push (.cells 22 [.ro (Rd.slice (Rd.int .i64)) true x1703])).push (.cells 3 [.lit (.int .i64 x2207)])).push (.obj (Obj.deferred (some [])))).push (.bag)).push (.obj (lp r_2272 .ready none)))) ?_ ?_
        · refine WP.loop (β := Int × (List Int) × Int) (fun n b => g_huff_Codes_l1 k x1703 x2207 n b.1 b.2.1 b.2.2 = some y2355) (fun b => ((((((⟨fun _ => .any, [], [⟨aC2272, ((((((Env.none.upd 0 (.ro (Rd.slice (Rd.int .i64)) true x1703)).upd 6 (.ptr 1 0)).upd 7 (.ptr 3 0)).upd 8 (.lit (.int .i64 x2207))).upd 29 (.fn 22 [.ptr 4 0, .ptr 0 0]))).v, [5, 6], some (7, l_2272)⟩]⟩ : Env).upd 0 (.lit (.func (.yield l_2272) #[] #[]))).upd 2 (.ptr 0 0)).upd 6 (.ro (Rd.slice (Rd.int .i64)) true x1703)).upd 7 (.lit (.int .i64 ((List.length x1703 : Nat) : Int)))).upd 8 (.lit (.int .i64 b.1)))) (fun b => ((((((((Mem.nil.push (.cells 3 [.lit (.int .i64 x2207)])).push (.cells 23 [.whole 2])).push (.row 34 (Rd.int .u32) b.2.1)).push (.cells 34 [.lit (.int .u32 b.2.2)])).push (.cells 22 [.ro (Rd.slice (Rd.int .i64)) true x1703])).push (.obj (Obj.deferred (some [])))).push (.bag)).push (.obj (lp r_2272 .ready none)))) k (0, x2208, (shlI .u32 x2209 1)) H2353 rfl rfl ?_
          rintro n ⟨x2301, x2302, x2303⟩ H
          obtain _ | n := n
          · exact nf rfl H
          rw [g_huff_Codes_l1.eq_2] at H
          show WP _ _ _ _ ((((((⟨fun _ => .any, [], [⟨aC2272, ((((((Env.none.upd 0 (.ro (Rd.slice (Rd.int .i64)) true x1703)).upd 6 (.ptr 1 0)).upd 7 (.ptr 3 0)).upd 8 (.lit (.int .i64 x2207))).upd 29 (.fn 22 [.ptr 4 0, .ptr 0 0]))).v, [5, 6], some (7, l_2272)⟩]⟩ : Env).upd 0 (.lit (.func (.yield l_2272) #[] #[]))).upd 2 (.ptr 0 0)).upd 6 (.ro (Rd.slice (Rd.int .i64)) true x1703)).upd 7 (.lit (.int .i64 ((List.length x1703 : Nat) : Int)))).upd 8 (.lit (.int .i64 x2301))) ((((((((Mem.nil.push (.cells 3 [.lit (.int .i64 x2207)])).push (.cells 23 [.whole 2])).push (.row 34 (Rd.int .u32) x2302)).push (.cells 34 [.lit (.int .u32 x2303)])).push (.cells 22 [.ro (Rd.slice (Rd.int .i64)) true x1703])).push (.obj (Obj.deferred (some [])))).push (.bag)).push (.obj (lp r_2272 .ready none))) _
          refine WP.seq ?_
          refine WP.region ?_
          obtain ⟨x2331, h2331, H⟩ := bnd H
          refine WPL.q (q_nm (q_lss rfl rfl) (nm_bool h2331)) rfl ?_
          refine WPL.nilW ?_
          refine W.now ?_
          refine Then.n ?_
          refine WP.seq ?_
          refine WP.cond (t := x2331) rfl (fun hb => ?_) (fun hb => ?_)
          · replace H := cnt hb H
            refine WP.skipW ?_
            refine W.now ?_
            refine Then.n ?_
            refine WP.seq ?_
            refine WP.block ?_
            refine WP.seq ?_
            refine WP.region ?_
            refine WPL.q (q_mv (v := .lit (.int _ _)) rfl) rfl ?_
            obtain ⟨x2343, h2343, H⟩ := bnd H
            refine WPL.q (q_index_ro sl22 rfl rfl rfl h2343) rfl ?_
            refine WPL.q (q_load_sc sc3 rfl) rfl ?_
            refine WPL.q (q_as (v := .lit (.int _ _)) rfl) rfl ?_
            refine WPL.q (q_as (v := .lit (.int _ _)) rfl) rfl ?_
            refine WPL.nilW ?_
            refine W.now ?_
            refine Then.n ?_
            refine WP.seq ?_
            obtain ⟨⟨x2347, x2348, x2349⟩, H2352, H⟩ := bnd H
            refine WP.monoW (Q := fun x E M => x = .normal ∧ E = (((((((⟨fun _ => .any, [], [⟨aC2272, ((((((Env.none.upd 0 (.ro (Rd.slice (Rd.int .i64)) true x1703)).upd 6 (.ptr 1 0)).upd 7 (.ptr 3 0)).upd 8 (.lit (.int .i64 x2207))).upd 29 (.fn 22 [.ptr 4 0, .ptr 0 0]))).v, [5, 6], some (7, l_2272)⟩]⟩ : Env).upd 0 (.lit (.func (.yield l_2272) #[] #[]))).upd 2 (.ptr 0 0)).upd 6 (.ro (Rd.slice (Rd.int .i64)) true x1703)).upd 7 (.lit (.int .i64 ((List.length x1703 : Nat) : Int)))).upd 8 (.lit (.int .i64 x2301))).upd 21 (.lit (.bool x2347))) ∧ M = ((((((((Mem.nil.push (.cells 3 [.lit (.int .i64 x2207)])).push (.cells 23 [.whole 2])).push (.row 34 (Rd.int .u32) x2348)).push (.cells 34 [.lit (.int .u32 x2349)])).push (.cells 22 [.ro (Rd.slice (Rd.int .i64)) true x1703])).push (.obj (Obj.deferred (some [])))).push (.bag)).push (.obj (lp r_2272 .ready none)))) ?_ ?_
            · clear H
              have H := H2352
              clear H2352
              refine WP.region ?_
              refine WPL.q (q_mv (v := .lit (.int _ _)) rfl) rfl ?_
              refine WPL.q (q_load sc3 rfl rfl rfl) rfl ?_
              refine WPL.q (q_eql rfl rfl) rfl ?_
              refine WPL.q (q_mv (v := .lit (.bool _)) rfl) rfl ?_
              refine WPL.split (t := 16) (b := (decide (x2343 = x2207))) rfl (fun hb2349 => ?_) (fun hb2349 => ?_)
              · replace H := cnt hb2349 H
                refine WPL.qg rfl rfl (lb hb2349) (q_mv (v := .lit _) rfl) rfl ?_
                refine WPL.qg rfl rfl (lb hb2349) (q_mv (v := .lit (.int _ _)) rfl) rfl ?_
                refine WPL.yg rfl rfl rfl rfl hp2272 ha2272 hb2272 ht2272 hs2272 rfl rfl rfl rfl rfl (lb hb2349) fun aI2350 => ?_
                refine WP.region ?_
                refine WPL.q (q_as (v := .lit (.int _ _)) rfl) rfl ?_
                refine WPL.nilW ?_
                refine W.now ?_
                refine ⟨rfl, rfl, _, _, _, _, _, _, rfl, rfl, ?_⟩
                refine WP.block ?_
                refine WP.seq ?_
                refine WP.region ?_
                refine WPL.q (q_load sc23 rfl rfl rfl) rfl ?_
                refine WPL.q (q_mv (v := .lit (.int _ _)) rfl) rfl ?_
                refine WPL.q (q_load sc34 rfl rfl rfl) rfl ?_
                obtain ⟨x2352, h2352, H⟩ := bnd H
                refine WPL.q (q_index_row sl23 rfl rfl rfl (ixs h2352)) rfl ?_
                refine WPL.s (s_store_row (j := (Int.toNat x2301)) (d := x2303) sz34 rfl rfl rfl rfl Joins.sc (ixl h2352)) ?_
                refine WPL.nilW ?_
                refine W.now ?_
                refine Then.n ?_
                refine WP.region ?_
                refine WPL.q (q_load sc34 rfl rfl rfl) rfl ?_
                refine WPL.q (q_add rfl rfl) rfl ?_
                refine WPL.s (s_store sz34 rfl rfl rfl rfl rfl) ?_
                refine WPL.nilW ?_
                refine W.now ?_
                refine InBlock.n ?_
                refine ⟨rfl, _, _, _, _, _, _, rfl, rfl, _, rfl, ?_⟩
                refine WPL.qg rfl rfl (lb hb2349) (q_not rfl) rfl ?_
                refine WPL.q (q_pickT (v := .lit (.bool _)) (lb hb2349) rfl) rfl ?_
                refine WPL.nilW ?_
                refine W.cv (Cv.weak (E' := (((((((⟨fun _ => .any, [], [⟨aC2272, ((((((Env.none.upd 0 (.ro (Rd.slice (Rd.int .i64)) true x1703)).upd 6 (.ptr 1 0)).upd 7 (.ptr 3 0)).upd 8 (.lit (.int .i64 x2207))).upd 29 (.fn 22 [.ptr 4 0, .ptr 0 0]))).v, [5, 6], some (7, l_2272)⟩]⟩ : Env).upd 0 (.lit (.func (.yield l_2272) #[] #[]))).upd 2 (.ptr 0 0)).upd 6 (.ro (Rd.slice (Rd.int .i64)) true x1703)).upd 7 (.lit (.int .i64 ((List.length x1703 : Nat) : Int)))).upd 8 (.lit (.int .i64 x2301))).upd 21 (.lit (.bool (!true))))) (M' := ((((((((Mem.nil.push (.cells 3 [.lit (.int .i64 x2207)])).push (.cells 23 [.whole 2])).push (.row 34 (Rd.int .u32) (List.set x2302 (Int.toNat x2301) x2303))).push (.cells 34 [.lit (.int .u32 (IntKind.wrap .u32 (x2303 + 1)))])).push (.cells 22 [.ro (Rd.slice (Rd.int .i64)) true x1703])).push (.obj (Obj.deferred (some [])))).push (.bag)).push (.obj (lp r_2272 .ready none)))) [0, 1, 2, 3, 4, 5, 6, 7] hnp ⟨rfl, ⟨⟨⟨⟨⟨⟨⟨⟨trivial, .inr ⟨rfl, rfl, rfl⟩⟩, .inr ⟨rfl, rfl, rfl⟩⟩, .inr ⟨rfl, rfl, rfl⟩⟩, .inr ⟨rfl, rfl, rfl⟩⟩, .inr ⟨rfl, rfl, rfl⟩⟩, .inr ⟨rfl, rfl, rfl⟩⟩, .inr ⟨rfl, rfl, rfl⟩⟩, .inr ⟨rfl, rfl, rfl⟩⟩, by decide, rfl, trivial⟩ (LeE.upd rfl rfl (LeE.upd rfl rfl (LeE.upd rfl rfl (LeE.upd rfl rfl (LeE.upd rfl rfl (LeE.upd rfl rfl (LeE.noneD rfl rfl (.cons ⟨rfl, (LeV.upd rfl rfl (LeV.upd rfl rfl (LeV.upd rfl rfl (LeV.upd rfl rfl (LeV.upd rfl rfl LeV.none))))), rfl, rfl, rfl, rfl⟩ .nil))))))))) rfl ?_
                refine W.now ?_
                have q0 := (Prod.mk.inj (Option.some.inj H)).1
                have q1 := (Prod.mk.inj (Prod.mk.inj (Option.some.inj H)).2).1
                have q2 := (Prod.mk.inj (Prod.mk.inj (Option.some.inj H)).2).2
                subst q0
                subst q1
                subst q2
                exact ⟨rfl, rfl, rfl⟩
              · replace H := cnf hb2349 H
                refine WPL.skipg (b' := false) rfl rfl (lb hb2349) rfl rfl ?_
                refine WPL.skipg (b' := false) rfl rfl (lb hb2349) rfl rfl ?_
                refine WPL.skipg (b' := false) rfl rfl (lb hb2349) rfl rfl ?_
                refine WPL.skipg (b' := false) rfl rfl (lb hb2349) rfl rfl ?_
                refine WPL.q (q_pickF (v := .lit (.bool _)) (lb hb2349) rfl) rfl ?_
                refine WPL.nilW ?_
                refine W.cv (Cv.weak (E' := (((((((⟨fun _ => .any, [], [⟨aC2272, ((((((Env.none.upd 0 (.ro (Rd.slice (Rd.int .i64)) true x1703)).upd 6 (.ptr 1 0)).upd 7 (.ptr 3 0)).upd 8 (.lit (.int .i64 x2207))).upd 29 (.fn 22 [.ptr 4 0, .ptr 0 0]))).v, [5, 6], some (7, l_2272)⟩]⟩ : Env).upd 0 (.lit (.func (.yield l_2272) #[] #[]))).upd 2 (.ptr 0 0)).upd 6 (.ro (Rd.slice (Rd.int .i64)) true x1703)).upd 7 (.lit (.int .i64 ((List.length x1703 : Nat) : Int)))).upd 8 (.lit (.int .i64 x2301))).upd 21 (.lit (.bool false)))) (M' := ((((((((Mem.nil.push (.cells 3 [.lit (.int .i64 x2207)])).push (.cells 23 [.whole 2])).push (.row 34 (Rd.int .u32) x2302)).push (.cells 34 [.lit (.int .u32 x2303)])).push (.cells 22 [.ro (Rd.slice (Rd.int .i64)) true x1703])).push (.obj (Obj.deferred (some [])))).push (.bag)).push (.obj (lp r_2272 .ready none)))) [0, 1, 2, 3, 4, 5, 6, 7] hnp ⟨rfl, ⟨⟨⟨⟨⟨⟨⟨⟨trivial, .inr ⟨rfl, rfl, rfl⟩⟩, .inr ⟨rfl, rfl, rfl⟩⟩, .inr ⟨rfl, rfl, rfl⟩⟩, .inr ⟨rfl, rfl, rfl⟩⟩, .inr ⟨rfl, rfl, rfl⟩⟩, .inr ⟨rfl, rfl, rfl⟩⟩, .inr ⟨rfl, rfl, rfl⟩⟩, .inr ⟨rfl, rfl, rfl⟩⟩, by decide, rfl, trivial⟩ (LeE.upd rfl rfl (LeE.upd rfl rfl (LeE.upd rfl rfl (LeE.upd rfl rfl (LeE.upd rfl rfl (LeE.upd rfl rfl (LeE.noneD rfl rfl (.cons ⟨rfl, (LeV.upd rfl rfl (LeV.upd rfl rfl (LeV.upd rfl rfl (LeV.upd rfl rfl (LeV.upd rfl rfl LeV.none))))), rfl, rfl, rfl, rfl⟩ .nil))))))))) rfl ?_
                refine W.now ?_
                have q0 := (Prod.mk.inj (Option.some.inj H)).1
                have q1 := (Prod.mk.inj (Prod.mk.inj (Option.some.inj H)).2).1
                have q2 := (Prod.mk.inj (Prod.mk.inj (Option.some.inj H)).2).2
                subst q0
                subst q1
                subst q2
                exact ⟨rfl, rfl, rfl⟩
            · rintro _ _ _ ⟨rfl, rfl, rfl⟩
              refine W.now ?_
              refine Then.n ?_
              refine WP.cond (t := x2347) rfl (fun hb => ?_) (fun hb => ?_)
              · replace H := cnt hb H
                refine WP.retW ?_
                refine W.cv (Cv.weak (E' := (⟨fun _ => .any, [], [⟨aC2272, ((((((Env.none.upd 0 (.ro (Rd.slice (Rd.int .i64)) true x1703)).upd 6 (.ptr 0 0)).upd 7 (.ptr 2 0)).upd 8 (.lit (.int .i64 x2207))).upd 29 (.fn 22 [.ptr 3 0, .ptr 4 0]))).v, [5, 6], some (7, l_2272)⟩]⟩ : Env)) (M' := ((((((((Mem.nil.push (.cells 23 [.whole 1])).push (.row 34 (Rd.int .u32) x2348)).push (.cells 34 [.lit (.int .u32 x2349)])).push (.cells 22 [.ro (Rd.slice (Rd.int .i64)) true x1703])).push (.cells 3 [.lit (.int .i64 x2207)])).push (.obj (Obj.deferred (some [])))).push (.bag)).push (.obj (lp r_2272 .ready none)))) [1, 2, 3, 4, 0, 5, 6, 7] hnp ⟨rfl, ⟨⟨⟨⟨⟨⟨⟨⟨trivial, .inr ⟨rfl, rfl, rfl⟩⟩, .inr ⟨rfl, rfl, rfl⟩⟩, .inr ⟨rfl, rfl, rfl⟩⟩, .inr ⟨rfl, rfl, rfl⟩⟩, .inr ⟨rfl, rfl, rfl⟩⟩, .inr ⟨rfl, rfl, rfl⟩⟩, .inr ⟨rfl, rfl, rfl⟩⟩, .inr ⟨rfl, rfl, rfl⟩⟩, by decide, rfl, trivial⟩ (LeE.noneD rfl rfl (.cons ⟨rfl, (LeV.upd rfl rfl (LeV.upd rfl rfl (LeV.upd rfl rfl (LeV.upd rfl rfl (LeV.upd rfl rfl LeV.none))))), rfl, rfl, rfl, rfl⟩ .nil))) rfl ?_
                refine W.now ?_
                refine InBlock.r ?_
                refine Then.r ?_
                refine Then.r ?_
                have q0 := Option.some.inj H
                subst q0
                exact ⟨rfl, rfl, rfl⟩
              · replace H := cnf hb H
                refine WP.skipW ?_
                refine W.now ?_
                refine InBlock.n ?_
                refine Then.n ?_
                refine WP.region ?_
                refine WPL.q (q_add rfl rfl) rfl ?_
                refine WPL.q (q_mv (v := .lit (.int _ _)) rfl) rfl ?_
                refine WPL.nilW ?_
                refine W.cv (Cv.weak (E' := ((((((⟨fun _ => .any, [], [⟨aC2272, ((((((Env.none.upd 0 (.ro (Rd.slice (Rd.int .i64)) true x1703)).upd 6 (.ptr 1 0)).upd 7 (.ptr 3 0)).upd 8 (.lit (.int .i64 x2207))).upd 29 (.fn 22 [.ptr 4 0, .ptr 0 0]))).v, [5, 6], some (7, l_2272)⟩]⟩ : Env).upd 0 (.lit (.func (.yield l_2272) #[] #[]))).upd 2 (.ptr 0 0)).upd 6 (.ro (Rd.slice (Rd.int .i64)) true x1703)).upd 7 (.lit (.int .i64 ((List.length x1703 : Nat) : Int)))).upd 8 (.lit (.int .i64 (IntKind.wrap .i64 (x2301 + 1)))))) (M' := ((((((((Mem.nil.push (.cells 3 [.lit (.int .i64 x2207)])).push (.cells 23 [.whole 2])).push (.row 34 (Rd.int .u32) x2348)).push (.cells 34 [.lit (.int .u32 x2349)])).push (.cells 22 [.ro (Rd.slice (Rd.int .i64)) true x1703])).push (.obj (Obj.deferred (some [])))).push (.bag)).push (.obj (lp r_2272 .ready none)))) [0, 1, 2, 3, 4, 5, 6, 7] hnp ⟨rfl, ⟨⟨⟨⟨⟨⟨⟨⟨trivial, .inr ⟨rfl, rfl, rfl⟩⟩, .inr ⟨rfl, rfl, rfl⟩⟩, .inr ⟨rfl, rfl, rfl⟩⟩, .inr ⟨rfl, rfl, rfl⟩⟩, .inr ⟨rfl, rfl, rfl⟩⟩, .inr ⟨rfl, rfl, rfl⟩⟩, .inr ⟨rfl, rfl, rfl⟩⟩, .inr ⟨rfl, rfl, rfl⟩⟩, by decide, rfl, trivial⟩ (LeE.upd rfl rfl (LeE.upd rfl rfl (LeE.upd rfl rfl (LeE.upd rfl rfl (LeE.upd rfl rfl (LeE.noneD rfl rfl (.cons ⟨rfl, (LeV.upd rfl rfl (LeV.upd rfl rfl (LeV.upd rfl rfl (LeV.upd rfl rfl (LeV.upd rfl rfl LeV.none))))), rfl, rfl, rfl, rfl⟩ .nil)))))))) rfl ?_
                refine W.now ?_
                exact Then.n ⟨n, ((IntKind.wrap .i64 (x2301 + 1)), x2348, x2349), Nat.lt_succ_self n, H, rfl, rfl⟩
          · replace H := cnf hb H
            refine WP.exitW ?_
            refine W.cv (Cv.weak (E' := (⟨fun _ => .any, [], [⟨aC2272, ((((((Env.none.upd 0 (.ro (Rd.slice (Rd.int .i64)) true x1703)).upd 6 (.ptr 0 0)).upd 7 (.ptr 2 0)).upd 8 (.lit (.int .i64 x2207))).upd 29 (.fn 22 [.ptr 3 0, .ptr 4 0]))).v, [5, 6], some (7, l_2272)⟩]⟩ : Env)) (M' := ((((((((Mem.nil.push (.cells 23 [.whole 1])).push (.row 34 (Rd.int .u32) x2302)).push (.cells 34 [.lit (.int .u32 x2303)])).push (.cells 22 [.ro (Rd.slice (Rd.int .i64)) true x1703])).push (.cells 3 [.lit (.int .i64 x2207)])).push (.obj (Obj.deferred (some [])))).push (.bag)).push (.obj (lp r_2272 .ready none)))) [1, 2, 3, 4, 0, 5, 6, 7] hnp ⟨rfl, ⟨⟨⟨⟨⟨⟨⟨⟨trivial, .inr ⟨rfl, rfl, rfl⟩⟩, .inr ⟨rfl, rfl, rfl⟩⟩, .inr ⟨rfl, rfl, rfl⟩⟩, .inr ⟨rfl, rfl, rfl⟩⟩, .inr ⟨rfl, rfl, rfl⟩⟩, .inr ⟨rfl, rfl, rfl⟩⟩, .inr ⟨rfl, rfl, rfl⟩⟩, .inr ⟨rfl, rfl, rfl⟩⟩, by decide, rfl, trivial⟩ (LeE.noneD rfl rfl (.cons ⟨rfl, (LeV.upd rfl rfl (LeV.upd rfl rfl (LeV.upd rfl rfl (LeV.upd rfl rfl (LeV.upd rfl rfl LeV.none))))), rfl, rfl, rfl, rfl⟩ .nil))) rfl ?_
            refine W.now ?_
            refine Then.x ?_
            refine Then.x ?_
            have q0 := Option.some.inj H
            subst q0
            exact ⟨rfl, rfl, rfl⟩
        · rcases y2355 with ⟨x2327, x2328⟩ | ⟨x2329, x2330⟩
          · rintro _ _ _ ⟨rfl, rfl, rfl⟩
            refine W.now ?_
            refine InBlock.r ?_
            refine ⟨trivial, _, _, _, _, rfl, _, _, rfl, (fun h => by cases h), ?_⟩
            refine W.cv (Cv.absorb (N := 8) (j := 5) (i := 6) rfl rfl rfl rfl) rfl ?_
            refine W.now ?_
            refine InBlock.n ?_
            refine InBlock.n ?_
            refine Then.n ?_
            refine WP.region ?_
            refine WPL.q (q_mv (v := .lit (.int _ _)) rfl) rfl ?_
            refine WPL.q (q_add rfl rfl) rfl ?_
            refine WPL.q (q_as (v := .lit (.int _ _)) rfl) rfl ?_
            refine WPL.nilW ?_
            refine W.cv (Cv.weak (E' := (((((⟨fun _ => .any, [3], []⟩ : Env).upd 0 (.ro (Rd.slice (Rd.int .i64)) true x1703)).upd 6 (.ptr 0 0)).upd 7 (.ptr 2 0)).upd 8 (.lit (.int .i64 (IntKind.wrap .i64 (x2207 + 1)))))) (M' := ((((Mem.nil.push (.cells 23 [.whole 1])).push (.row 34 (Rd.int .u32) x2327)).push (.cells 34 [.lit (.int .u32 x2328)])).push (.bag))) [0, 1, 2, 8] hnp ⟨rfl, ⟨⟨⟨⟨trivial, .inr ⟨rfl, rfl, rfl⟩⟩, .inr ⟨rfl, rfl, rfl⟩⟩, .inr ⟨rfl, rfl, rfl⟩⟩, .inr ⟨rfl, rfl, rfl⟩⟩, by decide, rfl, trivial⟩ (LeE.upd rfl rfl (LeE.upd rfl rfl (LeE.upd rfl rfl (LeE.upd rfl rfl (LeE.noneD rfl rfl .nil)))))) rfl ?_
            refine W.now ?_
            exact Then.n ⟨n, ((IntKind.wrap .i64 (x2207 + 1)), x2327, x2328), Nat.lt_succ_self n, H, rfl, rfl⟩
          · rintro _ _ _ ⟨rfl, rfl, rfl⟩
            refine W.now ?_
            refine InBlock.x0 ?_
            refine ⟨trivial, _, _, _, _, rfl, _, _, rfl, (fun h => by cases h), ?_⟩
            refine W.cv (Cv.absorb (N := 8) (j := 5) (i := 6) rfl rfl rfl rfl) rfl ?_
            refine W.now ?_
            refine InBlock.n ?_
            refine InBlock.n ?_
            refine Then.n ?_
            refine WP.region ?_
            refine WPL.q (q_mv (v := .lit (.int _ _)) rfl) rfl ?_
            refine WPL.q (q_add rfl rfl) rfl ?_
            refine WPL.q (q_as (v := .lit (.int _ _)) rfl) rfl ?_
            refine WPL.nilW ?_
            refine W.cv (Cv.weak (E' := (((((⟨fun _ => .any, [3], []⟩ : Env).upd 0 (.ro (Rd.slice (Rd.int .i64)) true x1703)).upd 6 (.ptr 0 0)).upd 7 (.ptr 2 0)).upd 8 (.lit (.int .i64 (IntKind.wrap .i64 (x2207 + 1)))))) (M' := ((((Mem.nil.push (.cells 23 [.whole 1])).push (.row 34 (Rd.int .u32) x2329)).push (.cells 34 [.lit (.int .u32 x2330)])).push (.bag))) [0, 1, 2, 8] hnp ⟨rfl, ⟨⟨⟨⟨trivial, .inr ⟨rfl, rfl, rfl⟩⟩, .inr ⟨rfl, rfl, rfl⟩⟩, .inr ⟨rfl, rfl, rfl⟩⟩, .inr ⟨rfl, rfl, rfl⟩⟩, by decide, rfl, trivial⟩ (LeE.upd rfl rfl (LeE.upd rfl rfl (LeE.upd rfl rfl (LeE.upd rfl rfl (LeE.noneD rfl rfl .nil)))))) rfl ?_
            refine W.now ?_
            exact Then.n ⟨n, ((IntKind.wrap .i64 (x2207 + 1)), x2329, x2330), Nat.lt_succ_self n, H, rfl, rfl⟩
      · replace H := cnf hb H
        refine WP.exitW ?_
        refine W.cv (Cv.weak (E' := ((⟨fun _ => .any, [2], []⟩ : Env).upd 6 (.ptr 0 0))) (M' := (((Mem.nil.push (.cells 23 [.whole 1])).push (.row 34 (Rd.int .u32) x2208)).push (.bag))) [0, 1, 3] hnp ⟨rfl, ⟨⟨⟨trivial, .inr ⟨rfl, rfl, rfl⟩⟩, .inr ⟨rfl, rfl, rfl⟩⟩, .inr ⟨rfl, rfl, rfl⟩⟩, by decide, rfl, trivial⟩ (LeE.upd rfl rfl (LeE.noneD rfl rfl .nil))) rfl ?_
        refine W.now ?_
        refine Then.x ?_
        refine Then.x ?_
        have q0 := (Option.some.inj H)
        subst q0
        exact ⟨rfl, rfl, rfl⟩
    · rintro _ _ _ ⟨rfl, rfl, rfl⟩
      refine W.now ?_
      refine InBlock.x0 ?_
      refine Then.n ?_
      refine WP.seq ?_
      refine WP.region ?_
      refine WPL.q (q_load sc23 rfl rfl rfl) rfl ?_
      refine WPL.q (q_as (v := .whole _) rfl) rfl ?_
      refine WPL.q (q_as (v := .lit (.int _ _)) rfl) rfl ?_
      refine WPL.nilW ?_
      refine W.now ?_
      refine Then.n ?_
      refine WP.retW ?_
      refine W.cv (Cv.frzRow (i := 1) rfl rfl hnp rfl rfl) rfl ?_
      refine W.now ?_
      have q0 := (Prod.mk.inj (Option.some.inj H)).1
      have q1 := (Prod.mk.inj (Option.some.inj H)).2
      subst q0
      subst q1
      exact ⟨⟨.inr rfl, trivial⟩, _, rfl, [], (.tup [.ro (Rd.slice (Rd.int .u32)) false x2271, .lit (.int .i64 0)]), Mem.nil, ⟨rfl, trivial, by decide, rfl, trivial⟩, rfl, rfl, rfl, rfl⟩
set_option maxRecDepth 100000 in
set_option maxHeartbeats 4000000 in
theorem s_cmp_isNaN_int (k : Nat) (x2501 : Int) (H : g_cmp_isNaN_int k x2501 = some ()) : Go.Q.Spec Try.prog 30 0 [.lit (.int .i64 x2501)] Mem.nil (fun o M => o = .ret (.lit (.bool (!decide (x2501 = x2501)))) ∧ M = Mem.nil) := by
  unfold g_cmp_isNaN_int at H
  refine Go.Q.Spec.of_bodyR (rs := [.tmp 2]) (nt := 6) Try.func30 rfl rfl (by intro t T h; simp at h) rfl rfl fun cx hnp => ?_
  refine WP.seq ?_
  refine WP.region ?_
  refine WPL.q (q_as (v := .lit (.bool _)) rfl) rfl ?_
  refine WPL.nilW ?_
  refine W.now ?_
  refine Then.n ?_
  refine WP.seq ?_
  refine WP.region ?_
  refine WPL.q (q_mv (v := .lit (.int _ _)) rfl) rfl ?_
  refine WPL.q (q_mv (v := .lit (.int _ _)) rfl) rfl ?_
  refine WPL.q (q_neq rfl rfl) rfl ?_
  refine WPL.q (q_as (v := .lit (.bool _)) rfl) rfl ?_
  refine WPL.nilW ?_
  refine W.now ?_
  refine Then.n ?_
  refine WP.retW ?_
  refine W.now ?_
  exact ⟨trivial, _, rfl, [], (.lit (.bool (!decide (x2501 = x2501)))), Mem.nil, ⟨rfl, trivial, by decide, rfl, trivial⟩, rfl, rfl, rfl, rfl⟩
set_option maxRecDepth 100000 in
set_option maxHeartbeats 4000000 in
theorem s_cmp_Compare_int (k : Nat) (x2498 : Int) (x2499 : Int) (x2505 : Int) (H : g_cmp_Compare_int k x2498 x2499 = some x2505) : Go.Q.Spec Try.prog 24 0 [.lit (.int .i64 x2498), .lit (.int .i64 x2499)] Mem.nil (fun o M => o = .ret (.lit (.int .i64 x2505)) ∧ M = Mem.nil) := by
  unfold g_cmp_Compare_int at H
  refine Go.Q.Spec.of_bodyR (rs := [.tmp 4]) (nt := 20) Try.func24 rfl rfl (by intro t T h; simp at h) rfl rfl fun cx hnp => ?_
  refine WP.seq ?_
  refine WP.region ?_
  refine WPL.q (q_as (v := .lit (.int _ _)) rfl) rfl ?_
  refine WPL.nilW ?_
  refine W.now ?_
  refine Then.n ?_
  refine WP.seq ?_
  refine WP.region ?_
  refine WPL.q (q_mv (v := .lit (.int _ _)) rfl) rfl ?_
  obtain ⟨_, h2505, H⟩ := bnd H
  refine WPL.c (runs_call (s := []) (t := []) (N := 0) (bor := []) fn30 rfl (s_cmp_isNaN_int k x2498 h2505) ⟨rfl, trivial, by decide, rfl, trivial⟩ rfl trivial (.ren rfl rfl .nil) rfl trivial rfl) rfl ?_
  refine WPL.q (q_as (v := .lit (.bool _)) rfl) rfl ?_
  refine WPL.nilW ?_
  refine W.now ?_
  refine Then.n ?_
  refine WP.seq ?_
  refine WP.region ?_
  refine WPL.q (q_mv (v := .lit (.int _ _)) rfl) rfl ?_
  obtain ⟨_, h2506, H⟩ := bnd H
  refine WPL.c (runs_call (s := []) (t := []) (N := 0) (bor := []) fn30 rfl (s_cmp_isNaN_int k x2499 h2506) ⟨rfl, trivial, by decide, rfl, trivial⟩ rfl trivial (.ren rfl rfl .nil) rfl trivial rfl) rfl ?_
  refine WPL.q (q_as (v := .lit (.bool _)) rfl) rfl ?_
  refine WPL.nilW ?_
  refine W.now ?_
  refine Then.n ?_
  refine WP.seq ?_
  refine WP.seq ?_
  refine WP.region ?_
  refine WPL.q (q_mv (v := .lit (.bool _)) rfl) rfl ?_
  refine WPL.nilW ?_
  refine W.now ?_
  refine Then.n ?_
  refine WP.cond (t := (!decide (x2498 = x2498))) rfl (fun hb => ?_) (fun hb => ?_)
  · replace H := cnt hb H
    refine WP.seq ?_
    refine WP.seq ?_
    refine WP.region ?_
    refine WPL.q (q_mv (v := .lit (.bool _)) rfl) rfl ?_
    refine WPL.nilW ?_
    refine W.now ?_
    refine Then.n ?_
    refine WP.cond (t := (!decide (x2499 = x2499))) rfl (fun hb => ?_) (fun hb => ?_)
    · replace H := cnt hb H
      refine WP.seq ?_
      refine WP.region ?_
      refine WPL.q (q_as (v := .lit (.int _ _)) rfl) rfl ?_
      refine WPL.nilW ?_
      refine W.now ?_
      refine Then.n ?_
      refine WP.retW ?_
      refine W.now ?_
      refine Then.r ?_
      refine Then.r ?_
      have q0 := (Option.some.inj H)
      subst q0
      exact ⟨trivial, _, rfl, [], (.lit (.int .i64 0)), Mem.nil, ⟨rfl, trivial, by decide, rfl, trivial⟩, rfl, rfl, rfl, rfl⟩
    · replace H := cnf hb H
      refine WP.skipW ?_
      refine W.now ?_
      refine Then.n ?_
      refine WP.seq ?_
      refine WP.region ?_
      refine WPL.q (q_as (v := .lit (.int _ _)) rfl) rfl ?_
      refine WPL.nilW ?_
      refine W.now ?_
      refine Then.n ?_
      refine WP.retW ?_
      refine W.now ?_
      refine Then.r ?_
      have q0 := (Option.some.inj H)
      subst q0
      exact ⟨trivial, _, rfl, [], (.lit (.int .i64 (-1))), Mem.nil, ⟨rfl, trivial, by decide, rfl, trivial⟩, rfl, rfl, rfl, rfl⟩
  · replace H := cnf hb H
    refine WP.skipW ?_
    refine W.now ?_
    refine Then.n ?_
    refine WP.seq ?_
    refine WP.seq ?_
    refine WP.region ?_
    refine WPL.q (q_mv (v := .lit (.bool _)) rfl) rfl ?_
    refine WPL.nilW ?_
    refine W.now ?_
    refine Then.n ?_
    refine WP.cond (t := (!decide (x2499 = x2499))) rfl (fun hb => ?_) (fun hb => ?_)
    · replace H := cnt hb H
      refine WP.seq ?_
      refine WP.region ?_
      refine WPL.q (q_as (v := .lit (.int _ _)) rfl) rfl ?_
      refine WPL.nilW ?_
      refine W.now ?_
      refine Then.n ?_
      refine WP.retW ?_
      refine W.now ?_
      refine Then.r ?_
      have q0 := (Option.some.inj H)
      subst q0
      exact ⟨trivial, _, rfl, [], (.lit (.int .i64 1)), Mem.nil, ⟨rfl, trivial, by decide, rfl, trivial⟩, rfl, rfl, rfl, rfl⟩
    · replace H := cnf hb H
      refine WP.skipW ?_
      refine W.now ?_
      refine Then.n ?_
      refine WP.seq ?_
      refine WP.seq ?_
      refine WP.region ?_
      refine WPL.q (q_mv (v := .lit (.int _ _)) rfl) rfl ?_
      refine WPL.q (q_mv (v := .lit (.int _ _)) rfl) rfl ?_
      refine WPL.q (q_lss rfl rfl) rfl ?_
      refine WPL.nilW ?_
      refine W.now ?_
      refine Then.n ?_
      refine WP.cond (t := (decide (x2498 < x2499))) rfl (fun hb => ?_) (fun hb => ?_)
      · replace H := cnt hb H
        refine WP.seq ?_
        refine WP.region ?_
        refine WPL.q (q_as (v := .lit (.int _ _)) rfl) rfl ?_
        refine WPL.nilW ?_
        refine W.now ?_
        refine Then.n ?_
        refine WP.retW ?_
        refine W.now ?_
        refine Then.r ?_
        have q0 := (Option.some.inj H)
        subst q0
        exact ⟨trivial, _, rfl, [], (.lit (.int .i64 (-1))), Mem.nil, ⟨rfl, trivial, by decide, rfl, trivial⟩, rfl, rfl, rfl, rfl⟩
      · replace H := cnf hb H
        refine WP.skipW ?_
        refine W.now ?_
        refine Then.n ?_
        refine WP.seq ?_
        refine WP.seq ?_
        refine WP.region ?_
        refine WPL.q (q_mv (v := .lit (.int _ _)) rfl) rfl ?_
        refine WPL.q (q_mv (v := .lit (.int _ _)) rfl) rfl ?_
        refine WPL.q (q_gtr rfl rfl) rfl ?_
        refine WPL.nilW ?_
        refine W.now ?_
        refine Then.n ?_
        refine WP.cond (t := (decide (x2499 < x2498))) rfl (fun hb => ?_) (fun hb => ?_)
        · replace H := cnt hb H
          refine WP.seq ?_
          refine WP.region ?_
          refine WPL.q (q_as (v := .lit (.int _ _)) rfl) rfl ?_
          refine WPL.nilW ?_
          refine W.now ?_
          refine Then.n ?_
          refine WP.retW ?_
          refine W.now ?_
          refine Then.r ?_
          have q0 := (Option.some.inj H)
          subst q0
          exact ⟨trivial, _, rfl, [], (.lit (.int .i64 1)), Mem.nil, ⟨rfl, trivial, by decide, rfl, trivial⟩, rfl, rfl, rfl, rfl⟩
        · replace H := cnf hb H
          refine WP.skipW ?_
          refine W.now ?_
          refine Then.n ?_
          refine WP.seq ?_
          refine WP.region ?_
          refine WPL.q (q_as (v := .lit (.int _ _)) rfl) rfl ?_
          refine WPL.nilW ?_
          refine W.now ?_
          refine Then.n ?_
          refine WP.retW ?_
          refine W.now ?_
          have q0 := (Option.some.inj H)
          subst q0
          exact ⟨trivial, _, rfl, [], (.lit (.int .i64 0)), Mem.nil, ⟨rfl, trivial, by decide, rfl, trivial⟩, rfl, rfl, rfl, rfl⟩
set_option maxRecDepth 100000 in
set_option maxHeartbeats 4000000 in
theorem s_huff_Lengths_1 (k : Nat) (x2493 : Int) (x2494 : (List Int)) (x2495 : Int) (x2496 : (List Int)) (x2510 : Int) (H : g_huff_Lengths_1 k x2493 x2494 x2495 x2496 = some x2510) : Go.Q.Spec Try.prog 23 0 [.agg [.lit (.int .i64 x2493), .ro (Rd.slice (Rd.int .i64)) false x2494], .agg [.lit (.int .i64 x2495), .ro (Rd.slice (Rd.int .i64)) false x2496]] Mem.nil (fun o M => o = .ret (.lit (.int .i64 x2510)) ∧ M = Mem.nil) := by
  unfold g_huff_Lengths_1 at H
  refine Go.Q.Spec.of_bodyR (rs := [.tmp 4]) (nt := 10) Try.func23 rfl rfl (by intro t T h; simp at h) rfl rfl fun cx hnp => ?_
  refine WP.seq ?_
  refine WP.region ?_
  refine WPL.d (d_box rfl rfl) rfl ?_
  refine WPL.d (d_box rfl rfl) rfl ?_
  refine WPL.q (q_as (v := .lit (.int _ _)) rfl) rfl ?_
  refine WPL.nilW ?_
  refine W.now ?_
  refine Then.n ?_
  refine WP.seq ?_
  refine WP.region ?_
  refine WPL.q (q_fieldAddr fi71_0 rfl rfl) rfl ?_
  refine WPL.q (q_load sc3 rfl rfl rfl) rfl ?_
  refine WPL.q (q_fieldAddr fi71_0 rfl rfl) rfl ?_
  refine WPL.q (q_load sc3 rfl rfl rfl) rfl ?_
  obtain ⟨x2512, h2510, H⟩ := bnd H
  refine WPL.c (runs_call (s := []) (t := []) (N := 2) (bor := []) fn24 rfl (s_cmp_Compare_int k x2493 x2495 x2512 h2510) ⟨rfl, trivial, by decide, rfl, trivial⟩ rfl trivial (.ren rfl rfl (.ren rfl rfl .nil)) rfl trivial rfl) rfl ?_
  refine WPL.q (q_as (v := .lit (.int _ _)) rfl) rfl ?_
  refine WPL.nilW ?_
  refine W.now ?_
  refine Then.n ?_
  refine WP.retW ?_
  refine W.now ?_
  have q0 := (Option.some.inj H)
  subst q0
  exact ⟨trivial, _, rfl, [], (.lit (.int .i64 x2512)), Mem.nil, ⟨rfl, trivial, by decide, rfl, trivial⟩, rfl, rfl, rfl, rfl⟩
set_option maxRecDepth 100000 in
set_option maxHeartbeats 4000000 in
theorem s_slices_insertionSortCmpFunc_huff_coin (k : Nat) (x2477 : Int) (x2478 : Int) (x2479 : (List S_huff_coin)) (x2825 : (List S_huff_coin)) (H : g_slices_insertionSortCmpFunc_huff_coin k x2477 x2478 x2479 = some x2825) : Go.Q.Spec Try.prog 33 1 [.whole 0, .lit (.int .i64 x2477), .lit (.int .i64 x2478), .fn 23 []] (Mem.nil.push (.row 71 rdS_huff_coin x2479)) (fun o M => o = .ret (.tup []) ∧ M = (Mem.nil.push (.row 71 rdS_huff_coin x2825))) := by
  unfold g_slices_insertionSortCmpFunc_huff_coin at H
  refine Go.Q.Spec.of_bodyR (rs := []) (nt := 53) Try.func33 rfl rfl (by intro t T h; simp at h) rfl rfl fun cx hnp => ?_
  refine WP.seq ?_
  refine WP.region ?_
  refine WPL.q (q_mv (v := .lit (.int _ _)) rfl) rfl ?_
  refine WPL.q (q_add rfl rfl) rfl ?_
  refine WPL.q (q_as (v := .lit (.int _ _)) rfl) rfl ?_
  refine WPL.nilW ?_
  refine W.now ?_
  refine Then.n ?_
  refine WP.block ?_
  refine WP.cv (Cv.weak (E' := (((((Env.none.upd 0 (.whole 0)).upd 1 (.lit (.int .i64 x2477))).upd 2 (.lit (.int .i64 x2478))).upd 3 (.fn 23 [])).upd 8 (.lit (.int .i64 (IntKind.wrap .i64 (x2477 + 1)))))) (M' := (Mem.nil.push (.row 71 rdS_huff_coin x2479))) [0] hnp ⟨rfl, ⟨trivial, .inr ⟨rfl, rfl, rfl⟩⟩, by decide, rfl, ⟨trivial, rfl⟩⟩ (LeE.upd rfl rfl (LeE.upd rfl rfl (LeE.upd rfl rfl (LeE.upd rfl rfl (LeE.upd rfl rfl (LeE.none rfl rfl))))))) ?_
  obtain ⟨x3148, H3359, H⟩ := bnd H
  refine WP.monoW (Q := fun x E M => x = .exit 0 ∧ E = Env.none ∧ M = (Mem.nil.push (.row 71 rdS_huff_coin x3148))) ?_ ?_
  · refine WP.loop (β := Int × (List S_huff_coin)) (fun n b => g_slices_insertionSortCmpFunc_huff_coin_l0 k x2477 x2478 n b.1 b.2 = some x3148) (fun b => (((((Env.none.upd 0 (.whole 0)).upd 1 (.lit (.int .i64 x2477))).upd 2 (.lit (.int .i64 x2478))).upd 3 (.fn 23 [])).upd 8 (.lit (.int .i64 b.1)))) (fun b => (Mem.nil.push (.row 71 rdS_huff_coin b.2))) k ((IntKind.wrap .i64 (x2477 + 1)), x2479) H3359 rfl rfl ?_
    rintro n ⟨x3004, x3005⟩ H
    obtain _ | n := n
    · exact nf rfl H
    rw [g_slices_insertionSortCmpFunc_huff_coin_l0.eq_2] at H
    show WP _ _ _ _ (((((Env.none.upd 0 (.whole 0)).upd 1 (.lit (.int .i64 x2477))).upd 2 (.lit (.int .i64 x2478))).upd 3 (.fn 23 [])).upd 8 (.lit (.int .i64 x3004))) (Mem.nil.push (.row 71 rdS_huff_coin x3005)) _
    refine WP.seq ?_
    refine WP.seq ?_
    refine WP.region ?_
    refine WPL.q (q_mv (v := .lit (.int _ _)) rfl) rfl ?_
    refine WPL.q (q_mv (v := .lit (.int _ _)) rfl) rfl ?_
    refine WPL.q (q_lss rfl rfl) rfl ?_
    refine WPL.nilW ?_
    refine W.now ?_
    refine Then.n ?_
    refine WP.cond (t := (decide (x3004 < x2478))) rfl (fun hb => ?_) (fun hb => ?_)
    · replace H := cnt hb H
      refine WP.skipW ?_
      refine W.now ?_
      refine Then.n ?_
      refine WP.seq ?_
      refine WP.block ?_
      refine WP.seq ?_
      refine WP.region ?_
      refine WPL.q (q_mv (v := .lit (.int _ _)) rfl) rfl ?_
      refine WPL.q (q_as (v := .lit (.int _ _)) rfl) rfl ?_
      refine WPL.nilW ?_
      refine W.now ?_
      refine Then.n ?_
      refine WP.block ?_
      refine WP.cv (Cv.weak (E' := ((((((Env.none.upd 0 (.whole 0)).upd 1 (.lit (.int .i64 x2477))).upd 2 (.lit (.int .i64 x2478))).upd 3 (.fn 23 [])).upd 8 (.lit (.int .i64 x3004))).upd 9 (.lit (.int .i64 x3004)))) (M' := (Mem.nil.push (.row 71 rdS_huff_coin x3005))) [0] hnp ⟨rfl, ⟨trivial, .inr ⟨rfl, rfl, rfl⟩⟩, by decide, rfl, ⟨trivial, rfl⟩⟩ (LeE.upd rfl rfl (LeE.upd rfl rfl (LeE.upd rfl rfl (LeE.upd rfl rfl (LeE.upd rfl rfl (LeE.upd rfl rfl (LeE.none rfl rfl)))))))) ?_
      obtain ⟨x3289, H3358, H⟩ := bnd H
      refine WP.monoW (Q := fun x E M => x = .exit 2 ∧ E = (((((Env.none.upd 0 (.whole 0)).upd 1 (.lit (.int .i64 x2477))).upd 2 (.lit (.int .i64 x2478))).upd 3 (.fn 23 [])).upd 8 (.lit (.int .i64 x3004))) ∧ M = (Mem.nil.push (.row 71 rdS_huff_coin x3289))) ?_ ?_
      · refine WP.loop (β := Int × (List S_huff_coin)) (fun n b => g_slices_insertionSortCmpFunc_huff_coin_l1 k x2477 n b.1 b.2 = some x3289) (fun b => ((((((Env.none.upd 0 (.whole 0)).upd 1 (.lit (.int .i64 x2477))).upd 2 (.lit (.int .i64 x2478))).upd 3 (.fn 23 [])).upd 8 (.lit (.int .i64 x3004))).upd 9 (.lit (.int .i64 b.1)))) (fun b => (Mem.nil.push (.row 71 rdS_huff_coin b.2))) k (x3004, x3005) H3358 rfl rfl ?_
        rintro n ⟨x3218, x3219⟩ H
        obtain _ | n := n
        · exact nf rfl H
        rw [g_slices_insertionSortCmpFunc_huff_coin_l1.eq_2] at H
        show WP _ _ _ _ ((((((Env.none.upd 0 (.whole 0)).upd 1 (.lit (.int .i64 x2477))).upd 2 (.lit (.int .i64 x2478))).upd 3 (.fn 23 [])).upd 8 (.lit (.int .i64 x3004))).upd 9 (.lit (.int .i64 x3218))) (Mem.nil.push (.row 71 rdS_huff_coin x3219)) _
        refine WP.seq ?_
        refine WP.seq ?_
        obtain ⟨x3331, H3344, H⟩ := bnd H
        refine WP.monoW (Q := fun x E M => x = .normal ∧ E = (((((((Env.none.upd 0 (.whole 0)).upd 1 (.lit (.int .i64 x2477))).upd 2 (.lit (.int .i64 x2478))).upd 3 (.fn 23 [])).upd 8 (.lit (.int .i64 x3004))).upd 9 (.lit (.int .i64 x3218))).upd 34 (.lit (.bool x3331))) ∧ M = (Mem.nil.push (.row 71 rdS_huff_coin x3219))) ?_ ?_
        · clear H
          have H := H3344
          clear H3344
          refine WP.regionD' 17 [0] [] mixed rfl ?_
          refine WPD.takeT 0 rfl (by kernel_rfl) (q_mv (v := .lit (.int _ _)) rfl) rfl ?_
          refine WPD.takeT 1 rfl (by kernel_rfl) (q_mv (v := .lit (.int _ _)) rfl) rfl ?_
          refine WPD.takeT 2 rfl (by kernel_rfl) (q_gtr rfl rfl) rfl ?_
          refine WPD.takeT 3 rfl (by kernel_rfl) (q_mv (v := .lit (.bool _)) rfl) rfl ?_
          refine WPD.split (t := 21) (b := (decide (x2477 < x3218))) rfl (fun hb3339 => ?_) (fun hb3339 => ?_)
          · replace H := cnt hb3339 H
            refine WPD.takegT 4 rfl (by kernel_rfl) rfl rfl (lb hb3339) (q_mv (v := .fn _ _) rfl) rfl ?_
            refine WPD.takegT 5 rfl (by kernel_rfl) rfl rfl (lb hb3339) (q_mv (v := .whole _) rfl) rfl ?_
            refine WPD.takegT 6 rfl (by kernel_rfl) rfl rfl (lb hb3339) (q_mv (v := .lit (.int _ _)) rfl) rfl ?_
            obtain ⟨x3341, h3341, H⟩ := bnd H
            refine WPD.takegT 7 rfl (by kernel_rfl) rfl rfl (lb hb3339) (q_index_row sl69 rfl rfl rfl (ixs h3341)) rfl ?_
            refine WPD.takegT 9 rfl (by kernel_rfl) rfl rfl (lb hb3339) (q_mv (v := .whole _) rfl) rfl ?_
            refine WPD.takegT 10 rfl (by kernel_rfl) rfl rfl (lb hb3339) (q_mv (v := .lit (.int _ _)) rfl) rfl ?_
            refine WPD.takegT 11 rfl (by kernel_rfl) rfl rfl (lb hb3339) (q_sub rfl rfl) rfl ?_
            obtain ⟨x3342, h3342, H⟩ := bnd H
            refine WPD.takegT 12 rfl (by kernel_rfl) rfl rfl (lb hb3339) (q_index_row sl69 rfl rfl rfl (ixs h3342)) rfl ?_
            refine WPD.takeg 8 rfl (by kernel_rfl) rfl rfl (lb hb3339) (q_load_rowag (j := (Int.toNat x3218)) ag71 rfl rfl (ixj h3341) rfl S_huff_coin.sp) rfl rfl ?_
            refine WPD.takeg 13 rfl (by kernel_rfl) rfl rfl (lb hb3339) (q_load_rowag (j := (Int.toNat (IntKind.wrap .i64 (x3218 - 1)))) ag71 rfl rfl (ixj h3342) rfl S_huff_coin.sp) rfl rfl ?_
            obtain ⟨x3344, h3342, H⟩ := bnd H
            refine WPD.effg 14 [0] [] rfl (by kernel_rfl) rfl rfl (lb hb3339) (runs_call (s := []) (t := []) (N := 1) (bor := []) fn23 rfl (s_huff_Lengths_1 k x3341.ffreq x3341.fsyms x3342.ffreq x3342.fsyms x3344 h3342) ⟨rfl, trivial, by decide, rfl, trivial⟩ rfl trivial (.ren rfl rfl (.ren rfl rfl .nil)) rfl trivial rfl) rfl rfl ?_
            refine WPD.takegT 15 rfl (by kernel_rfl) rfl rfl (lb hb3339) (q_lss rfl rfl) rfl ?_
            refine WPD.takeT 16 rfl (by kernel_rfl) (q_pickT (v := .lit (.bool _)) (lb hb3339) rfl) rfl ?_
            refine WPD.doneW (by kernel_rfl) ?_
            refine W.cv (Cv.weak (E' := (((((((Env.none.upd 0 (.whole 0)).upd 1 (.lit (.int .i64 x2477))).upd 2 (.lit (.int .i64 x2478))).upd 3 (.fn 23 [])).upd 8 (.lit (.int .i64 x3004))).upd 9 (.lit (.int .i64 x3218))).upd 34 (.lit (.bool (decide (x3344 < 0)))))) (M' := (Mem.nil.push (.row 71 rdS_huff_coin x3219))) [0] hnp ⟨rfl, ⟨trivial, .inr ⟨rfl, rfl, rfl⟩⟩, by decide, rfl, ⟨trivial, rfl⟩⟩ (LeE.upd rfl rfl (LeE.upd rfl rfl (LeE.upd rfl rfl (LeE.upd rfl rfl (LeE.upd rfl rfl (LeE.upd rfl rfl (LeE.upd rfl rfl (LeE.none rfl rfl))))))))) rfl ?_
            refine W.now ?_
            have q0 := (Option.some.inj H)
            subst q0
            exact ⟨rfl, rfl, rfl⟩
          · replace H := cnf hb3339 H
            refine WPD.pass (b' := false) 4 rfl (by kernel_rfl) rfl rfl (lb hb3339) rfl rfl ?_
            refine WPD.pass (b' := false) 5 rfl (by kernel_rfl) rfl rfl (lb hb3339) rfl rfl ?_
            refine WPD.pass (b' := false) 6 rfl (by kernel_rfl) rfl rfl (lb hb3339) rfl rfl ?_
            refine WPD.pass (b' := false) 7 rfl (by kernel_rfl) rfl rfl (lb hb3339) rfl rfl ?_
            refine WPD.pass (b' := false) 8 rfl (by kernel_rfl) rfl rfl (lb hb3339) rfl rfl ?_
            refine WPD.pass (b' := false) 9 rfl (by kernel_rfl) rfl rfl (lb hb3339) rfl rfl ?_
            refine WPD.pass (b' := false) 10 rfl (by kernel_rfl) rfl rfl (lb hb3339) rfl rfl ?_
            refine WPD.pass (b' := false) 11 rfl (by kernel_rfl) rfl rfl (lb hb3339) rfl rfl ?_
            refine WPD.pass (b' := false) 12 rfl (by kernel_rfl) rfl rfl (lb hb3339) rfl rfl ?_
            refine WPD.pass (b' := false) 13 rfl (by kernel_rfl) rfl rfl (lb hb3339) rfl rfl ?_
            refine WPD.pass (b' := false) 14 rfl (by kernel_rfl) rfl rfl (lb hb3339) rfl rfl ?_
            refine WPD.pass (b' := false) 15 rfl (by kernel_rfl) rfl rfl (lb hb3339) rfl rfl ?_
            refine WPD.takeT 16 rfl (by kernel_rfl) (q_pickF (v := .lit (.bool _)) (lb hb3339) rfl) rfl ?_
            refine WPD.doneW (by kernel_rfl) ?_
            refine W.cv (Cv.weak (E' := (((((((Env.none.upd 0 (.whole 0)).upd 1 (.lit (.int .i64 x2477))).upd 2 (.lit (.int .i64 x2478))).upd 3 (.fn 23 [])).upd 8 (.lit (.int .i64 x3004))).upd 9 (.lit (.int .i64 x3218))).upd 34 (.lit (.bool false)))) (M' := (Mem.nil.push (.row 71 rdS_huff_coin x3219))) [0] hnp ⟨rfl, ⟨trivial, .inr ⟨rfl, rfl, rfl⟩⟩, by decide, rfl, ⟨trivial, rfl⟩⟩ (LeE.upd rfl rfl (LeE.upd rfl rfl (LeE.upd rfl rfl (LeE.upd rfl rfl (LeE.upd rfl rfl (LeE.upd rfl rfl (LeE.upd rfl rfl (LeE.none rfl rfl))))))))) rfl ?_
            refine W.now ?_
            have q0 := (Option.some.inj H)
            subst q0
            exact ⟨rfl, rfl, rfl⟩
        · rintro _ _ _ ⟨rfl, rfl, rfl⟩
          refine W.now ?_
          refine Then.n ?_
          refine WP.cond (t := x3331) rfl (fun hb => ?_) (fun hb => ?_)
          · replace H := cnt hb H
            refine WP.skipW ?_
            refine W.now ?_
            refine Then.n ?_
            refine WP.seq ?_
            refine WP.block ?_
            refine WP.regionD' 18 [0] [15] mixed rfl ?_
            refine WPD.takeT 0 rfl (by kernel_rfl) (q_mv (v := .whole _) rfl) rfl ?_
            refine WPD.takeT 1 rfl (by kernel_rfl) (q_mv (v := .lit (.int _ _)) rfl) rfl ?_
            refine WPD.takeT 2 rfl (by kernel_rfl) (q_mv (v := .whole _) rfl) rfl ?_
            refine WPD.takeT 3 rfl (by kernel_rfl) (q_mv (v := .lit (.int _ _)) rfl) rfl ?_
            refine WPD.takeT 4 rfl (by kernel_rfl) (q_sub rfl rfl) rfl ?_
            refine WPD.takeT 5 rfl (by kernel_rfl) (q_mv (v := .whole _) rfl) rfl ?_
            refine WPD.takeT 6 rfl (by kernel_rfl) (q_mv (v := .lit (.int _ _)) rfl) rfl ?_
            refine WPD.takeT 7 rfl (by kernel_rfl) (q_sub rfl rfl) rfl ?_
            obtain ⟨x3355, h3355, H⟩ := bnd H
            refine WPD.takeT 8 rfl (by kernel_rfl) (q_index_row sl69 rfl rfl rfl (ixs h3355)) rfl ?_
            refine WPD.takeT 10 rfl (by kernel_rfl) (q_mv (v := .whole _) rfl) rfl ?_
            refine WPD.takeT 11 rfl (by kernel_rfl) (q_mv (v := .lit (.int _ _)) rfl) rfl ?_
            obtain ⟨x3356, h3356, H⟩ := bnd H
            refine WPD.takeT 12 rfl (by kernel_rfl) (q_index_row sl69 rfl rfl rfl (ixs h3356)) rfl ?_
            refine WPD.take 9 rfl (by kernel_rfl) (q_load_rowag (j := (Int.toNat (IntKind.wrap .i64 (x3218 - 1)))) ag71 rfl rfl (ixj h3355) rfl S_huff_coin.sp) rfl rfl ?_
            refine WPD.take 13 rfl (by kernel_rfl) (q_load_rowag (j := (Int.toNat x3218)) ag71 rfl rfl (ixj h3356) rfl S_huff_coin.sp) rfl rfl ?_
            obtain ⟨x3357, h3357, H⟩ := bnd H
            refine WPD.takeT 14 rfl (by kernel_rfl) (q_index_row sl69 rfl rfl rfl (ixs h3357)) rfl ?_
            refine WPD.effS 15 [] [] rfl (by kernel_rfl) (s_store_row (j := (Int.toNat x3218)) (d := (⟨x3355.ffreq, x3355.fsyms⟩ : S_huff_coin)) sz71 rfl rfl rfl rfl (Joins.via (Joins.cons Joins.sc (Joins.cons Joins.one Joins.unit))) (ixl h3357)) rfl ?_
            obtain ⟨x3358, h3358, H⟩ := bnd H
            refine WPD.takeT 16 rfl (by kernel_rfl) (q_index_row sl69 rfl rfl rfl (ixs h3358)) rfl ?_
            refine WPD.effS 17 [] [] rfl (by kernel_rfl) (s_store_row (j := (Int.toNat (IntKind.wrap .i64 (x3218 - 1)))) (d := (⟨x3356.ffreq, x3356.fsyms⟩ : S_huff_coin)) sz71 rfl rfl rfl rfl (Joins.via (Joins.cons Joins.sc (Joins.cons Joins.one Joins.unit))) (ixl h3358)) rfl ?_
            refine WPD.doneW (by kernel_rfl) ?_
            refine W.now ?_
            refine InBlock.n ?_
            refine Then.n ?_
            refine WP.region ?_
            refine WPL.q (q_mv (v := .lit (.int _ _)) rfl) rfl ?_
            refine WPL.q (q_sub rfl rfl) rfl ?_
            refine WPL.q (q_as (v := .lit (.int _ _)) rfl) rfl ?_
            refine WPL.nilW ?_
            refine W.cv (Cv.weak (E' := ((((((Env.none.upd 0 (.whole 0)).upd 1 (.lit (.int .i64 x2477))).upd 2 (.lit (.int .i64 x2478))).upd 3 (.fn 23 [])).upd 8 (.lit (.int .i64 x3004))).upd 9 (.lit (.int .i64 (IntKind.wrap .i64 (x3218 - 1)))))) (M' := (Mem.nil.push (.row 71 rdS_huff_coin (List.set (List.set x3219 (Int.toNat x3218) (⟨x3355.ffreq, x3355.fsyms⟩ : S_huff_coin)) (Int.toNat (IntKind.wrap .i64 (x3218 - 1))) (⟨x3356.ffreq, x3356.fsyms⟩ : S_huff_coin))))) [0] hnp ⟨rfl, ⟨trivial, .inr ⟨rfl, rfl, rfl⟩⟩, by decide, rfl, ⟨trivial, rfl⟩⟩ (LeE.upd rfl rfl (LeE.upd rfl rfl (LeE.upd rfl rfl (LeE.upd rfl rfl (LeE.upd rfl rfl (LeE.upd rfl rfl (LeE.none rfl rfl)))))))) rfl ?_
            refine W.now ?_
            exact Then.n ⟨n, ((IntKind.wrap .i64 (x3218 - 1)), (List.set (List.set x3219 (Int.toNat x3218) (⟨x3355.ffreq, x3355.fsyms⟩ : S_huff_coin)) (Int.toNat (IntKind.wrap .i64 (x3218 - 1))) (⟨x3356.ffreq, x3356.fsyms⟩ : S_huff_coin))), Nat.lt_succ_self n, H, rfl, rfl⟩
          · replace H := cnf hb H
            refine WP.exitW ?_
            refine W.cv (Cv.weak (E' := (((((Env.none.upd 0 (.whole 0)).upd 1 (.lit (.int .i64 x2477))).upd 2 (.lit (.int .i64 x2478))).upd 3 (.fn 23 [])).upd 8 (.lit (.int .i64 x3004)))) (M' := (Mem.nil.push (.row 71 rdS_huff_coin x3219))) [0] hnp ⟨rfl, ⟨trivial, .inr ⟨rfl, rfl, rfl⟩⟩, by decide, rfl, ⟨trivial, rfl⟩⟩ (LeE.upd rfl rfl (LeE.upd rfl rfl (LeE.upd rfl rfl (LeE.upd rfl rfl (LeE.upd rfl rfl (LeE.none rfl rfl))))))) rfl ?_
            refine W.now ?_
            refine Then.x ?_
            refine Then.x ?_
            have q0 := (Option.some.inj H)
            subst q0
            exact ⟨rfl, rfl, rfl⟩
      · rintro _ _ _ ⟨rfl, rfl, rfl⟩
        refine W.now ?_
        refine InBlock.x0 ?_
        refine InBlock.n ?_
        refine Then.n ?_
        refine WP.region ?_
        refine WPL.q (q_mv (v := .lit (.int _ _)) rfl) rfl ?_
        refine WPL.q (q_add rfl rfl) rfl ?_
        refine WPL.q (q_as (v := .lit (.int _ _)) rfl) rfl ?_
        refine WPL.nilW ?_
        refine W.cv (Cv.weak (E' := (((((Env.none.upd 0 (.whole 0)).upd 1 (.lit (.int .i64 x2477))).upd 2 (.lit (.int .i64 x2478))).upd 3 (.fn 23 [])).upd 8 (.lit (.int .i64 (IntKind.wrap .i64 (x3004 + 1)))))) (M' := (Mem.nil.push (.row 71 rdS_huff_coin x3289))) [0] hnp ⟨rfl, ⟨trivial, .inr ⟨rfl, rfl, rfl⟩⟩, by decide, rfl, ⟨trivial, rfl⟩⟩ (LeE.upd rfl rfl (LeE.upd rfl rfl (LeE.upd rfl rfl (LeE.upd rfl rfl (LeE.upd rfl rfl (LeE.none rfl rfl))))))) rfl ?_
        refine W.now ?_
        exact Then.n ⟨n, ((IntKind.wrap .i64 (x3004 + 1)), x3289), Nat.lt_succ_self n, H, rfl, rfl⟩
    · replace H := cnf hb H
      refine WP.exitW ?_
      refine W.cv (Cv.weak (E' := Env.none) (M' := (Mem.nil.push (.row 71 rdS_huff_coin x3005))) [0] hnp ⟨rfl, ⟨trivial, .inr ⟨rfl, rfl, rfl⟩⟩, by decide, rfl, ⟨trivial, rfl⟩⟩ (LeE.none rfl rfl)) rfl ?_
      refine W.now ?_
      refine Then.x ?_
      refine Then.x ?_
      have q0 := (Option.some.inj H)
      subst q0
      exact ⟨rfl, rfl, rfl⟩
  · rintro _ _ _ ⟨rfl, rfl, rfl⟩
    refine W.now ?_
    refine InBlock.x0 ?_
    have q0 := (Option.some.inj H)
    subst q0
    exact ⟨trivial, _, rfl, [0], (.tup []), (Mem.nil.push (.row 71 rdS_huff_coin x3148)), ⟨rfl, ⟨trivial, .inr ⟨rfl, rfl, rfl⟩⟩, by decide, rfl, ⟨trivial, rfl⟩⟩, rfl, rfl, rfl, rfl⟩
end Go.Proofs.Ythgbompoldmhmab.W
