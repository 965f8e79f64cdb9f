/- Walks: Fc10 -/
import Derived.Test.YthgbompoldmhmaaFb
import Derived.Test.YthgbompoldmhmaaFc4
import Derived.Test.YthgbompoldmhmaaFc5
import Derived.Test.YthgbompoldmhmaaFc7
import Derived.Test.YthgbompoldmhmaaFc8
import Derived.Test.YthgbompoldmhmaaFc9
namespace Go.Proofs.Ythgbompoldmhmaa.W
open Go Go.Q Go.Proofs
set_option linter.unusedVariables false
set_option linter.unusedSimpArgs false
set_option maxRecDepth 100000 in
set_option maxHeartbeats 4000000 in
theorem s36 (k : Nat) (x10602 : Int) (x10603 : Int) (x10604 : (List Int)) (x10605 : (List Int)) (x10616 : Bool) (H : f36 k x10602 x10603 x10604 x10605 = some x10616) : Go.Q.Spec Try.prog 36 1 [.ptr 0 0, .lit (.int .i64 x10602), .lit (.int .i64 x10603)] ((Mem.nil.push (.cells 74 [.lit (.int .i64 (List.getD x10604 0 (0 : Int))), .lit (.int .i64 (List.getD x10604 1 (0 : Int))), .lit (.int .i64 (List.getD x10604 2 (0 : Int))), .lit (.int .i64 (List.getD x10604 3 (0 : Int))), .lit (.int .i64 (List.getD x10604 4 (0 : Int))), .lit (.int .i64 (List.getD x10604 5 (0 : Int))), .lit (.int .i64 (List.getD x10604 6 (0 : Int))), .lit (.int .i64 (List.getD x10604 7 (0 : Int))), .lit (.int .i64 (List.getD x10604 8 (0 : Int))), .lit (.int .i64 (List.getD x10604 9 (0 : Int))), .lit (.int .i64 (List.getD x10604 10 (0 : Int))), .lit (.int .i64 (List.getD x10604 11 (0 : Int))), .lit (.int .i64 (List.getD x10604 12 (0 : Int))), .lit (.int .i64 (List.getD x10604 13 (0 : Int))), .lit (.int .i64 (List.getD x10604 14 (0 : Int))), .lit (.int .i64 (List.getD x10604 15 (0 : Int))), .whole 1])).push (.row 3 (Rd.int .i64) x10605)) (fun o M => o = .ret (.lit (.bool x10616)) ∧ M = ((Mem.nil.push (.cells 74 [.lit (.int .i64 (List.getD x10604 0 (0 : Int))), .lit (.int .i64 (List.getD x10604 1 (0 : Int))), .lit (.int .i64 (List.getD x10604 2 (0 : Int))), .lit (.int .i64 (List.getD x10604 3 (0 : Int))), .lit (.int .i64 (List.getD x10604 4 (0 : Int))), .lit (.int .i64 (List.getD x10604 5 (0 : Int))), .lit (.int .i64 (List.getD x10604 6 (0 : Int))), .lit (.int .i64 (List.getD x10604 7 (0 : Int))), .lit (.int .i64 (List.getD x10604 8 (0 : Int))), .lit (.int .i64 (List.getD x10604 9 (0 : Int))), .lit (.int .i64 (List.getD x10604 10 (0 : Int))), .lit (.int .i64 (List.getD x10604 11 (0 : Int))), .lit (.int .i64 (List.getD x10604 12 (0 : Int))), .lit (.int .i64 (List.getD x10604 13 (0 : Int))), .lit (.int .i64 (List.getD x10604 14 (0 : Int))), .lit (.int .i64 (List.getD x10604 15 (0 : Int))), .whole 1])).push (.row 3 (Rd.int .i64) x10605))) := by
  unfold f36 at H
  refine Go.Q.Spec.of_bodyR (rs := [.tmp 6]) (nt := 27) Try.func36 rfl rfl (by intro t T h; simp at h) rfl rfl fun cx hnp => ?_
  refine WP.seq ?_
  refine WP.region ?_
  refine WPL.q (q_as (v := .lit (.bool _)) rfl) rfl ?_
  refine WPL.nilW ?_
  refine W.now ?_
  refine Then.n ?_
  refine WP.seq ?_
  refine WP.region ?_
  refine WPL.q (q_as (v := .lit (.int _ _)) rfl) rfl ?_
  refine WPL.nilW ?_
  refine W.now ?_
  refine Then.n ?_
  refine WP.seq ?_
  refine WP.seq ?_
  refine WP.region ?_
  refine WPL.q (q_as (v := .lit (.int _ _)) rfl) rfl ?_
  refine WPL.nilW ?_
  refine W.now ?_
  refine Then.n ?_
  refine WP.block ?_
  refine WP.cv (Cv.weak (E' := (((((Env.none.upd 0 (.ptr 0 0)).upd 1 (.lit (.int .i64 x10602))).upd 2 (.lit (.int .i64 x10603))).upd 7 (.lit (.int .i64 0))).upd 8 (.lit (.int .i64 15)))) (M' := ((Mem.nil.push (.cells 74 [.lit (.int .i64 (List.getD x10604 0 (0 : Int))), .lit (.int .i64 (List.getD x10604 1 (0 : Int))), .lit (.int .i64 (List.getD x10604 2 (0 : Int))), .lit (.int .i64 (List.getD x10604 3 (0 : Int))), .lit (.int .i64 (List.getD x10604 4 (0 : Int))), .lit (.int .i64 (List.getD x10604 5 (0 : Int))), .lit (.int .i64 (List.getD x10604 6 (0 : Int))), .lit (.int .i64 (List.getD x10604 7 (0 : Int))), .lit (.int .i64 (List.getD x10604 8 (0 : Int))), .lit (.int .i64 (List.getD x10604 9 (0 : Int))), .lit (.int .i64 (List.getD x10604 10 (0 : Int))), .lit (.int .i64 (List.getD x10604 11 (0 : Int))), .lit (.int .i64 (List.getD x10604 12 (0 : Int))), .lit (.int .i64 (List.getD x10604 13 (0 : Int))), .lit (.int .i64 (List.getD x10604 14 (0 : Int))), .lit (.int .i64 (List.getD x10604 15 (0 : Int))), .whole 1])).push (.row 3 (Rd.int .i64) x10605))) [0, 1] hnp ⟨rfl, ⟨⟨trivial, .inr ⟨rfl, rfl, rfl⟩⟩, .inr ⟨rfl, rfl, rfl⟩⟩, by decide, rfl, ⟨trivial, rfl⟩⟩ (LeE.upd rfl rfl (LeE.upd rfl rfl (LeE.upd rfl rfl (LeE.upd rfl rfl (LeE.upd rfl rfl (LeE.none rfl rfl))))))) ?_
  obtain ⟨x10624, H10627, H⟩ := bnd H
  refine WP.monoW (Q := fun x E M => x = .exit 0 ∧ E = ((Env.none.upd 1 (.lit (.int .i64 x10602))).upd 7 (.lit (.int .i64 x10624))) ∧ M = ((Mem.nil.push (.cells 74 [.lit (.int .i64 (List.getD x10604 0 (0 : Int))), .lit (.int .i64 (List.getD x10604 1 (0 : Int))), .lit (.int .i64 (List.getD x10604 2 (0 : Int))), .lit (.int .i64 (List.getD x10604 3 (0 : Int))), .lit (.int .i64 (List.getD x10604 4 (0 : Int))), .lit (.int .i64 (List.getD x10604 5 (0 : Int))), .lit (.int .i64 (List.getD x10604 6 (0 : Int))), .lit (.int .i64 (List.getD x10604 7 (0 : Int))), .lit (.int .i64 (List.getD x10604 8 (0 : Int))), .lit (.int .i64 (List.getD x10604 9 (0 : Int))), .lit (.int .i64 (List.getD x10604 10 (0 : Int))), .lit (.int .i64 (List.getD x10604 11 (0 : Int))), .lit (.int .i64 (List.getD x10604 12 (0 : Int))), .lit (.int .i64 (List.getD x10604 13 (0 : Int))), .lit (.int .i64 (List.getD x10604 14 (0 : Int))), .lit (.int .i64 (List.getD x10604 15 (0 : Int))), .whole 1])).push (.row 3 (Rd.int .i64) x10605))) ?_ ?_
  · refine WP.loop (β := Int × Int) (fun n b => f36_l0 k x10603 x10604 n b.1 b.2 = some x10624) (fun b => (((((Env.none.upd 0 (.ptr 0 0)).upd 1 (.lit (.int .i64 x10602))).upd 2 (.lit (.int .i64 x10603))).upd 7 (.lit (.int .i64 b.1))).upd 8 (.lit (.int .i64 b.2)))) (fun b => ((Mem.nil.push (.cells 74 [.lit (.int .i64 (List.getD x10604 0 (0 : Int))), .lit (.int .i64 (List.getD x10604 1 (0 : Int))), .lit (.int .i64 (List.getD x10604 2 (0 : Int))), .lit (.int .i64 (List.getD x10604 3 (0 : Int))), .lit (.int .i64 (List.getD x10604 4 (0 : Int))), .lit (.int .i64 (List.getD x10604 5 (0 : Int))), .lit (.int .i64 (List.getD x10604 6 (0 : Int))), .lit (.int .i64 (List.getD x10604 7 (0 : Int))), .lit (.int .i64 (List.getD x10604 8 (0 : Int))), .lit (.int .i64 (List.getD x10604 9 (0 : Int))), .lit (.int .i64 (List.getD x10604 10 (0 : Int))), .lit (.int .i64 (List.getD x10604 11 (0 : Int))), .lit (.int .i64 (List.getD x10604 12 (0 : Int))), .lit (.int .i64 (List.getD x10604 13 (0 : Int))), .lit (.int .i64 (List.getD x10604 14 (0 : Int))), .lit (.int .i64 (List.getD x10604 15 (0 : Int))), .whole 1])).push (.row 3 (Rd.int .i64) x10605))) k (0, 15) H10627 rfl rfl ?_
    rintro n ⟨x10619, x10620⟩ H
    obtain _ | n := n
    · exact nf rfl H
    rw [f36_l0.eq_2] at H
    show WP _ _ _ _ (((((Env.none.upd 0 (.ptr 0 0)).upd 1 (.lit (.int .i64 x10602))).upd 2 (.lit (.int .i64 x10603))).upd 7 (.lit (.int .i64 x10619))).upd 8 (.lit (.int .i64 x10620))) ((Mem.nil.push (.cells 74 [.lit (.int .i64 (List.getD x10604 0 (0 : Int))), .lit (.int .i64 (List.getD x10604 1 (0 : Int))), .lit (.int .i64 (List.getD x10604 2 (0 : Int))), .lit (.int .i64 (List.getD x10604 3 (0 : Int))), .lit (.int .i64 (List.getD x10604 4 (0 : Int))), .lit (.int .i64 (List.getD x10604 5 (0 : Int))), .lit (.int .i64 (List.getD x10604 6 (0 : Int))), .lit (.int .i64 (List.getD x10604 7 (0 : Int))), .lit (.int .i64 (List.getD x10604 8 (0 : Int))), .lit (.int .i64 (List.getD x10604 9 (0 : Int))), .lit (.int .i64 (List.getD x10604 10 (0 : Int))), .lit (.int .i64 (List.getD x10604 11 (0 : Int))), .lit (.int .i64 (List.getD x10604 12 (0 : Int))), .lit (.int .i64 (List.getD x10604 13 (0 : Int))), .lit (.int .i64 (List.getD x10604 14 (0 : Int))), .lit (.int .i64 (List.getD x10604 15 (0 : Int))), .whole 1])).push (.row 3 (Rd.int .i64) x10605)) _
    refine WP.seq ?_
    refine WP.seq ?_
    refine WP.region ?_
    refine WPL.q (q_mv (v := .lit (.int _ _)) rfl) rfl ?_
    refine WPL.q (q_mv (v := .lit (.int _ _)) rfl) rfl ?_
    refine WPL.q (q_geq rfl rfl) rfl ?_
    refine WPL.nilW ?_
    refine W.now ?_
    refine Then.n ?_
    refine WP.cond (t := (decide (x10603 ≤ x10620))) rfl (fun hb => ?_) (fun hb => ?_)
    · replace H := cnt hb H
      refine WP.skipW ?_
      refine W.now ?_
      refine Then.n ?_
      refine WP.seq ?_
      refine WP.block ?_
      refine WP.region ?_
      refine WPL.q (q_mv (v := .lit (.int _ _)) rfl) rfl ?_
      refine WPL.q (q_mv (v := .ptr _ _) rfl) rfl ?_
      refine WPL.q (q_mv (v := .lit (.int _ _)) rfl) rfl ?_
      refine WPL.q (q_nilCheck rfl) rfl ?_
      refine WPL.q (q_fieldAddr fi74_0 rfl rfl) rfl ?_
      obtain ⟨h10624, H⟩ := grd H
      refine WPL.q (q_indexArr ar72 rfl rfl h10624 rfl) rfl ?_
      refine WPL.q (q_load_arr (f := (fun z : Int => AVal.lit (.int .i64 z))) (d0 := (0 : Int)) (xs := x10604) (n := 16) (off := 0) (j := (Int.toNat x10620)) sc3 rfl rfl rfl (natlt h10624) (addone _ _)) rfl ?_
      obtain ⟨x10626, h10626, H⟩ := bnd H
      refine WPL.q (q_nm (q_add rfl rfl) (nm_int h10626)) rfl ?_
      refine WPL.q (q_add rfl rfl) rfl ?_
      obtain ⟨x10627, h10627, H⟩ := bnd H
      refine WPL.q (q_nm (q_quo rfl rfl rfl) (nm_int h10627)) rfl ?_
      refine WPL.q (q_as (v := .lit (.int _ _)) rfl) rfl ?_
      refine WPL.nilW ?_
      refine W.now ?_
      refine InBlock.n ?_
      refine Then.n ?_
      refine WP.region ?_
      refine WPL.q (q_mv (v := .lit (.int _ _)) rfl) rfl ?_
      refine WPL.q (q_sub rfl rfl) rfl ?_
      refine WPL.q (q_as (v := .lit (.int _ _)) rfl) rfl ?_
      refine WPL.nilW ?_
      refine W.cv (Cv.weak (E' := (((((Env.none.upd 0 (.ptr 0 0)).upd 1 (.lit (.int .i64 x10602))).upd 2 (.lit (.int .i64 x10603))).upd 7 (.lit (.int .i64 x10627))).upd 8 (.lit (.int .i64 (IntKind.wrap .i64 (x10620 - 1)))))) (M' := ((Mem.nil.push (.cells 74 [.lit (.int .i64 (List.getD x10604 0 (0 : Int))), .lit (.int .i64 (List.getD x10604 1 (0 : Int))), .lit (.int .i64 (List.getD x10604 2 (0 : Int))), .lit (.int .i64 (List.getD x10604 3 (0 : Int))), .lit (.int .i64 (List.getD x10604 4 (0 : Int))), .lit (.int .i64 (List.getD x10604 5 (0 : Int))), .lit (.int .i64 (List.getD x10604 6 (0 : Int))), .lit (.int .i64 (List.getD x10604 7 (0 : Int))), .lit (.int .i64 (List.getD x10604 8 (0 : Int))), .lit (.int .i64 (List.getD x10604 9 (0 : Int))), .lit (.int .i64 (List.getD x10604 10 (0 : Int))), .lit (.int .i64 (List.getD x10604 11 (0 : Int))), .lit (.int .i64 (List.getD x10604 12 (0 : Int))), .lit (.int .i64 (List.getD x10604 13 (0 : Int))), .lit (.int .i64 (List.getD x10604 14 (0 : Int))), .lit (.int .i64 (List.getD x10604 15 (0 : Int))), .whole 1])).push (.row 3 (Rd.int .i64) x10605))) [0, 1] hnp ⟨rfl, ⟨⟨trivial, .inr ⟨rfl, rfl, rfl⟩⟩, .inr ⟨rfl, rfl, rfl⟩⟩, by decide, rfl, ⟨trivial, rfl⟩⟩ (LeE.upd rfl rfl (LeE.upd rfl rfl (LeE.upd rfl rfl (LeE.upd rfl rfl (LeE.upd rfl rfl (LeE.none rfl rfl))))))) rfl ?_
      refine W.now ?_
      exact Then.n ⟨n, (x10627, (IntKind.wrap .i64 (x10620 - 1))), Nat.lt_succ_self n, H, rfl, rfl⟩
    · replace H := cnf hb H
      refine WP.exitW ?_
      refine W.cv (Cv.weak (E' := ((Env.none.upd 1 (.lit (.int .i64 x10602))).upd 7 (.lit (.int .i64 x10619)))) (M' := ((Mem.nil.push (.cells 74 [.lit (.int .i64 (List.getD x10604 0 (0 : Int))), .lit (.int .i64 (List.getD x10604 1 (0 : Int))), .lit (.int .i64 (List.getD x10604 2 (0 : Int))), .lit (.int .i64 (List.getD x10604 3 (0 : Int))), .lit (.int .i64 (List.getD x10604 4 (0 : Int))), .lit (.int .i64 (List.getD x10604 5 (0 : Int))), .lit (.int .i64 (List.getD x10604 6 (0 : Int))), .lit (.int .i64 (List.getD x10604 7 (0 : Int))), .lit (.int .i64 (List.getD x10604 8 (0 : Int))), .lit (.int .i64 (List.getD x10604 9 (0 : Int))), .lit (.int .i64 (List.getD x10604 10 (0 : Int))), .lit (.int .i64 (List.getD x10604 11 (0 : Int))), .lit (.int .i64 (List.getD x10604 12 (0 : Int))), .lit (.int .i64 (List.getD x10604 13 (0 : Int))), .lit (.int .i64 (List.getD x10604 14 (0 : Int))), .lit (.int .i64 (List.getD x10604 15 (0 : Int))), .whole 1])).push (.row 3 (Rd.int .i64) x10605))) [0, 1] hnp ⟨rfl, ⟨⟨trivial, .inr ⟨rfl, rfl, rfl⟩⟩, .inr ⟨rfl, rfl, rfl⟩⟩, by decide, rfl, ⟨trivial, rfl⟩⟩ (LeE.upd rfl rfl (LeE.upd rfl rfl (LeE.none rfl rfl)))) rfl ?_
      refine W.now ?_
      refine Then.x ?_
      refine Then.x ?_
      have q0 := (Option.some.inj H)
      subst q0
      exact ⟨rfl, rfl, rfl⟩
  · rintro _ _ _ ⟨rfl, rfl, rfl⟩
    refine W.now ?_
    refine InBlock.x0 ?_
    refine Then.n ?_
    refine WP.seq ?_
    refine WP.region ?_
    refine WPL.q (q_mv (v := .lit (.int _ _)) rfl) rfl ?_
    refine WPL.q (q_mv (v := .lit (.int _ _)) rfl) rfl ?_
    refine WPL.q (q_lss rfl rfl) rfl ?_
    refine WPL.q (q_as (v := .lit (.bool _)) rfl) rfl ?_
    refine WPL.nilW ?_
    refine W.now ?_
    refine Then.n ?_
    refine WP.retW ?_
    refine W.now ?_
    have q0 := (Option.some.inj H)
    subst q0
    exact ⟨trivial, _, rfl, [0, 1], (.lit (.bool (decide (x10602 < x10624)))), ((Mem.nil.push (.cells 74 [.lit (.int .i64 (List.getD x10604 0 (0 : Int))), .lit (.int .i64 (List.getD x10604 1 (0 : Int))), .lit (.int .i64 (List.getD x10604 2 (0 : Int))), .lit (.int .i64 (List.getD x10604 3 (0 : Int))), .lit (.int .i64 (List.getD x10604 4 (0 : Int))), .lit (.int .i64 (List.getD x10604 5 (0 : Int))), .lit (.int .i64 (List.getD x10604 6 (0 : Int))), .lit (.int .i64 (List.getD x10604 7 (0 : Int))), .lit (.int .i64 (List.getD x10604 8 (0 : Int))), .lit (.int .i64 (List.getD x10604 9 (0 : Int))), .lit (.int .i64 (List.getD x10604 10 (0 : Int))), .lit (.int .i64 (List.getD x10604 11 (0 : Int))), .lit (.int .i64 (List.getD x10604 12 (0 : Int))), .lit (.int .i64 (List.getD x10604 13 (0 : Int))), .lit (.int .i64 (List.getD x10604 14 (0 : Int))), .lit (.int .i64 (List.getD x10604 15 (0 : Int))), .whole 1])).push (.row 3 (Rd.int .i64) x10605)), ⟨rfl, ⟨⟨trivial, .inr ⟨rfl, rfl, rfl⟩⟩, .inr ⟨rfl, rfl, rfl⟩⟩, by decide, rfl, ⟨trivial, rfl⟩⟩, rfl, rfl, rfl, rfl⟩
set_option maxRecDepth 100000 in
set_option maxHeartbeats 4000000 in
theorem s21d (k : Nat) (x10476 : (List Int)) (x10477 : (List Int)) (x10478 : Int) (x10479 : (List Int)) (x10707 : Int) (x10708 : Int) (x10709 : (List Int)) (x10710 : Int) (H : f21d k x10476 x10477 x10478 x10479 = some (x10707, x10708, x10709, x10710)) : Go.Q.Spec Try.prog 21 2 [.ptr 0 0, .ptr 1 0] (((Mem.nil.push (.cells 74 [.lit (.int .i64 (List.getD x10476 0 (0 : Int))), .lit (.int .i64 (List.getD x10476 1 (0 : Int))), .lit (.int .i64 (List.getD x10476 2 (0 : Int))), .lit (.int .i64 (List.getD x10476 3 (0 : Int))), .lit (.int .i64 (List.getD x10476 4 (0 : Int))), .lit (.int .i64 (List.getD x10476 5 (0 : Int))), .lit (.int .i64 (List.getD x10476 6 (0 : Int))), .lit (.int .i64 (List.getD x10476 7 (0 : Int))), .lit (.int .i64 (List.getD x10476 8 (0 : Int))), .lit (.int .i64 (List.getD x10476 9 (0 : Int))), .lit (.int .i64 (List.getD x10476 10 (0 : Int))), .lit (.int .i64 (List.getD x10476 11 (0 : Int))), .lit (.int .i64 (List.getD x10476 12 (0 : Int))), .lit (.int .i64 (List.getD x10476 13 (0 : Int))), .lit (.int .i64 (List.getD x10476 14 (0 : Int))), .lit (.int .i64 (List.getD x10476 15 (0 : Int))), .whole 2])).push (.cells 77 [.ro (Rd.slice (Rd.int .u8)) false x10477, .lit (.int .i64 x10478)])).push (.row 3 (Rd.int .i64) x10479)) (fun o M => o = .ret (.tup [.lit (.int .i64 x10707), .lit (.int .i64 x10708)]) ∧ M = (((Mem.nil.push (.cells 74 [.lit (.int .i64 (List.getD x10476 0 (0 : Int))), .lit (.int .i64 (List.getD x10476 1 (0 : Int))), .lit (.int .i64 (List.getD x10476 2 (0 : Int))), .lit (.int .i64 (List.getD x10476 3 (0 : Int))), .lit (.int .i64 (List.getD x10476 4 (0 : Int))), .lit (.int .i64 (List.getD x10476 5 (0 : Int))), .lit (.int .i64 (List.getD x10476 6 (0 : Int))), .lit (.int .i64 (List.getD x10476 7 (0 : Int))), .lit (.int .i64 (List.getD x10476 8 (0 : Int))), .lit (.int .i64 (List.getD x10476 9 (0 : Int))), .lit (.int .i64 (List.getD x10476 10 (0 : Int))), .lit (.int .i64 (List.getD x10476 11 (0 : Int))), .lit (.int .i64 (List.getD x10476 12 (0 : Int))), .lit (.int .i64 (List.getD x10476 13 (0 : Int))), .lit (.int .i64 (List.getD x10476 14 (0 : Int))), .lit (.int .i64 (List.getD x10476 15 (0 : Int))), .whole 2])).push (.cells 77 [.ro (Rd.slice (Rd.int .u8)) false x10709, .lit (.int .i64 x10710)])).push (.row 3 (Rd.int .i64) x10479))) := by
  unfold f21d at H
  refine Go.Q.Spec.of_bodyR (rs := [.tmp 4, .tmp 5]) (nt := 98) Try.func21 rfl rfl (by intro t T h; simp at h) rfl rfl fun cx hnp => ?_
  refine WP.seq ?_
  refine WP.region ?_
  refine WPL.q (q_as (v := .lit (.int _ _)) rfl) rfl ?_
  refine WPL.q (q_as (v := .lit (.int _ _)) rfl) rfl ?_
  refine WPL.nilW ?_
  refine W.now ?_
  refine Then.n ?_
  refine WP.scope ?_
  refine WP.seq ?_
  refine WP.seq ?_
  refine WP.region ?_
  refine WPL.q (q_mv (v := .ptr _ _) rfl) rfl ?_
  refine WPL.q (q_eqlp Try.underlying39 rfl) rfl ?_
  refine WPL.q (q_mv (v := .lit (.bool _)) rfl) rfl ?_
  refine WPL.qg rfl rfl rfl (q_mv (v := .ptr _ _) rfl) rfl ?_
  refine WPL.qg rfl rfl rfl (q_eqlp Try.underlying42 rfl) rfl ?_
  refine WPL.q (q_pickF (v := .lit (.bool _)) rfl rfl) rfl ?_
  refine WPL.nilW ?_
  refine W.now ?_
  refine Then.n ?_
  refine WP.condF rfl ?_
  refine WP.skipW ?_
  refine W.now ?_
  refine Then.n ?_
  refine WP.seq ?_
  refine WP.region ?_
  refine WPL.q (q_mv (v := .ptr _ _) rfl) rfl ?_
  refine WPL.q (q_nilCheck rfl) rfl ?_
  refine WPL.q (q_load_ag ag77 rfl rfl (Nat.le_of_ble_eq_true rfl)) rfl ?_
  refine WPL.d (d_alloc ze77 rfl) rfl ?_
  refine WPL.s (s_store sz77 rfl rfl rfl rfl rfl) ?_
  refine WPL.nilW ?_
  refine W.now ?_
  refine Then.n ?_
  refine WP.seq ?_
  refine WP.region ?_
  refine WPL.q (q_as (v := .lit (.int _ _)) rfl) rfl ?_
  refine WPL.q (q_as (v := .lit (.int _ _)) rfl) rfl ?_
  refine WPL.q (q_as (v := .lit (.int _ _)) rfl) rfl ?_
  refine WPL.nilW ?_
  refine W.now ?_
  refine Then.n ?_
  refine WP.seq ?_
  refine WP.region ?_
  refine WPL.q (q_as (v := .lit (.int _ _)) rfl) rfl ?_
  refine WPL.nilW ?_
  refine W.now ?_
  refine Then.n ?_
  refine WP.seq ?_
  refine WP.labelW ?_
  refine W.now ?_
  refine Then.n ?_
  refine WP.seq ?_
  refine WP.seq ?_
  refine WP.region ?_
  refine WPL.q (q_as (v := .lit (.int _ _)) rfl) rfl ?_
  refine WPL.nilW ?_
  refine W.now ?_
  refine Then.n ?_
  refine WP.block ?_
  refine WP.cv (Cv.weak (E' := ((((((((Env.none.upd 0 (.ptr 0 0)).upd 1 (.ptr 1 0)).upd 6 (.ptr 3 0)).upd 7 (.lit (.int .i64 0))).upd 8 (.lit (.int .i64 0))).upd 9 (.lit (.int .i64 0))).upd 10 (.lit (.int .i64 11))).upd 11 (.lit (.int .i64 1)))) (M' := ((((Mem.nil.push (.cells 74 [.lit (.int .i64 (List.getD x10476 0 (0 : Int))), .lit (.int .i64 (List.getD x10476 1 (0 : Int))), .lit (.int .i64 (List.getD x10476 2 (0 : Int))), .lit (.int .i64 (List.getD x10476 3 (0 : Int))), .lit (.int .i64 (List.getD x10476 4 (0 : Int))), .lit (.int .i64 (List.getD x10476 5 (0 : Int))), .lit (.int .i64 (List.getD x10476 6 (0 : Int))), .lit (.int .i64 (List.getD x10476 7 (0 : Int))), .lit (.int .i64 (List.getD x10476 8 (0 : Int))), .lit (.int .i64 (List.getD x10476 9 (0 : Int))), .lit (.int .i64 (List.getD x10476 10 (0 : Int))), .lit (.int .i64 (List.getD x10476 11 (0 : Int))), .lit (.int .i64 (List.getD x10476 12 (0 : Int))), .lit (.int .i64 (List.getD x10476 13 (0 : Int))), .lit (.int .i64 (List.getD x10476 14 (0 : Int))), .lit (.int .i64 (List.getD x10476 15 (0 : Int))), .whole 2])).push (.cells 77 [.ro (Rd.slice (Rd.int .u8)) false x10477, .lit (.int .i64 x10478)])).push (.row 3 (Rd.int .i64) x10479)).push (.cells 77 [.ro (Rd.slice (Rd.int .u8)) false x10477, .lit (.int .i64 x10478)]))) [0, 1, 2, 3] hnp ⟨rfl, ⟨⟨⟨⟨trivial, .inr ⟨rfl, rfl, rfl⟩⟩, .inr ⟨rfl, rfl, rfl⟩⟩, .inr ⟨rfl, rfl, rfl⟩⟩, .inr ⟨rfl, rfl, rfl⟩⟩, by decide, rfl, ⟨⟨trivial, rfl⟩, rfl⟩⟩ (LeE.upd rfl rfl (LeE.upd rfl rfl (LeE.upd rfl rfl (LeE.upd rfl rfl (LeE.upd rfl rfl (LeE.upd rfl rfl (LeE.upd rfl rfl (LeE.upd rfl rfl (LeE.none rfl rfl)))))))))) ?_
  obtain ⟨y10848, H10846, H⟩ := bnd H
  refine WP.monoW (Q := fun x E M => match (generalizing := false) y10848 with | (Sum.inl (x10797, x10798, x10799)) => x = .exit 0 ∧ E = (((Env.none.upd 1 (.ptr 1 0)).upd 6 (.ptr 3 0)).upd 10 (.lit (.int .i64 x10797))) ∧ M = ((((Mem.nil.push (.cells 74 [.lit (.int .i64 (List.getD x10476 0 (0 : Int))), .lit (.int .i64 (List.getD x10476 1 (0 : Int))), .lit (.int .i64 (List.getD x10476 2 (0 : Int))), .lit (.int .i64 (List.getD x10476 3 (0 : Int))), .lit (.int .i64 (List.getD x10476 4 (0 : Int))), .lit (.int .i64 (List.getD x10476 5 (0 : Int))), .lit (.int .i64 (List.getD x10476 6 (0 : Int))), .lit (.int .i64 (List.getD x10476 7 (0 : Int))), .lit (.int .i64 (List.getD x10476 8 (0 : Int))), .lit (.int .i64 (List.getD x10476 9 (0 : Int))), .lit (.int .i64 (List.getD x10476 10 (0 : Int))), .lit (.int .i64 (List.getD x10476 11 (0 : Int))), .lit (.int .i64 (List.getD x10476 12 (0 : Int))), .lit (.int .i64 (List.getD x10476 13 (0 : Int))), .lit (.int .i64 (List.getD x10476 14 (0 : Int))), .lit (.int .i64 (List.getD x10476 15 (0 : Int))), .whole 2])).push (.cells 77 [.ro (Rd.slice (Rd.int .u8)) false x10798, .lit (.int .i64 x10799)])).push (.row 3 (Rd.int .i64) x10479)).push (.cells 77 [.ro (Rd.slice (Rd.int .u8)) false x10477, .lit (.int .i64 x10478)])) | (Sum.inr (x10800, x10801, x10802)) => x = .ret ∧ E = ((Env.none.upd 4 (.lit (.int .i64 x10800))).upd 5 (.lit (.int .i64 0))) ∧ M = (((Mem.nil.push (.cells 74 [.lit (.int .i64 (List.getD x10476 0 (0 : Int))), .lit (.int .i64 (List.getD x10476 1 (0 : Int))), .lit (.int .i64 (List.getD x10476 2 (0 : Int))), .lit (.int .i64 (List.getD x10476 3 (0 : Int))), .lit (.int .i64 (List.getD x10476 4 (0 : Int))), .lit (.int .i64 (List.getD x10476 5 (0 : Int))), .lit (.int .i64 (List.getD x10476 6 (0 : Int))), .lit (.int .i64 (List.getD x10476 7 (0 : Int))), .lit (.int .i64 (List.getD x10476 8 (0 : Int))), .lit (.int .i64 (List.getD x10476 9 (0 : Int))), .lit (.int .i64 (List.getD x10476 10 (0 : Int))), .lit (.int .i64 (List.getD x10476 11 (0 : Int))), .lit (.int .i64 (List.getD x10476 12 (0 : Int))), .lit (.int .i64 (List.getD x10476 13 (0 : Int))), .lit (.int .i64 (List.getD x10476 14 (0 : Int))), .lit (.int .i64 (List.getD x10476 15 (0 : Int))), .whole 2])).push (.cells 77 [.ro (Rd.slice (Rd.int .u8)) false x10801, .lit (.int .i64 x10802)])).push (.row 3 (Rd.int .i64) x10479))) ?_ ?_
  · refine WP.loop (β := Int × Int × Int × Int × (List Int) × Int) (fun n b => f21d_l0 k x10476 x10479 n b.1 b.2.1 b.2.2.1 b.2.2.2.1 b.2.2.2.2.1 b.2.2.2.2.2 = some y10848) (fun b => ((((((((Env.none.upd 0 (.ptr 0 0)).upd 1 (.ptr 1 0)).upd 6 (.ptr 3 0)).upd 7 (.lit (.int .i64 b.1))).upd 8 (.lit (.int .i64 b.2.1))).upd 9 (.lit (.int .i64 b.2.2.1))).upd 10 (.lit (.int .i64 11))).upd 11 (.lit (.int .i64 b.2.2.2.1)))) (fun b => ((((Mem.nil.push (.cells 74 [.lit (.int .i64 (List.getD x10476 0 (0 : Int))), .lit (.int .i64 (List.getD x10476 1 (0 : Int))), .lit (.int .i64 (List.getD x10476 2 (0 : Int))), .lit (.int .i64 (List.getD x10476 3 (0 : Int))), .lit (.int .i64 (List.getD x10476 4 (0 : Int))), .lit (.int .i64 (List.getD x10476 5 (0 : Int))), .lit (.int .i64 (List.getD x10476 6 (0 : Int))), .lit (.int .i64 (List.getD x10476 7 (0 : Int))), .lit (.int .i64 (List.getD x10476 8 (0 : Int))), .lit (.int .i64 (List.getD x10476 9 (0 : Int))), .lit (.int .i64 (List.getD x10476 10 (0 : Int))), .lit (.int .i64 (List.getD x10476 11 (0 : Int))), .lit (.int .i64 (List.getD x10476 12 (0 : Int))), .lit (.int .i64 (List.getD x10476 13 (0 : Int))), .lit (.int .i64 (List.getD x10476 14 (0 : Int))), .lit (.int .i64 (List.getD x10476 15 (0 : Int))), .whole 2])).push (.cells 77 [.ro (Rd.slice (Rd.int .u8)) false b.2.2.2.2.1, .lit (.int .i64 b.2.2.2.2.2)])).push (.row 3 (Rd.int .i64) x10479)).push (.cells 77 [.ro (Rd.slice (Rd.int .u8)) false x10477, .lit (.int .i64 x10478)]))) k (0, 0, 0, 1, x10477, x10478) H10846 rfl rfl ?_
    rintro n ⟨x10747, x10748, x10749, x10750, x10751, x10752⟩ H
    obtain _ | n := n
    · exact nf rfl H
    rw [f21d_l0.eq_2] at H
    show WP _ _ _ _ ((((((((Env.none.upd 0 (.ptr 0 0)).upd 1 (.ptr 1 0)).upd 6 (.ptr 3 0)).upd 7 (.lit (.int .i64 x10747))).upd 8 (.lit (.int .i64 x10748))).upd 9 (.lit (.int .i64 x10749))).upd 10 (.lit (.int .i64 11))).upd 11 (.lit (.int .i64 x10750))) ((((Mem.nil.push (.cells 74 [.lit (.int .i64 (List.getD x10476 0 (0 : Int))), .lit (.int .i64 (List.getD x10476 1 (0 : Int))), .lit (.int .i64 (List.getD x10476 2 (0 : Int))), .lit (.int .i64 (List.getD x10476 3 (0 : Int))), .lit (.int .i64 (List.getD x10476 4 (0 : Int))), .lit (.int .i64 (List.getD x10476 5 (0 : Int))), .lit (.int .i64 (List.getD x10476 6 (0 : Int))), .lit (.int .i64 (List.getD x10476 7 (0 : Int))), .lit (.int .i64 (List.getD x10476 8 (0 : Int))), .lit (.int .i64 (List.getD x10476 9 (0 : Int))), .lit (.int .i64 (List.getD x10476 10 (0 : Int))), .lit (.int .i64 (List.getD x10476 11 (0 : Int))), .lit (.int .i64 (List.getD x10476 12 (0 : Int))), .lit (.int .i64 (List.getD x10476 13 (0 : Int))), .lit (.int .i64 (List.getD x10476 14 (0 : Int))), .lit (.int .i64 (List.getD x10476 15 (0 : Int))), .whole 2])).push (.cells 77 [.ro (Rd.slice (Rd.int .u8)) false x10751, .lit (.int .i64 x10752)])).push (.row 3 (Rd.int .i64) x10479)).push (.cells 77 [.ro (Rd.slice (Rd.int .u8)) false x10477, .lit (.int .i64 x10478)])) _
    refine WP.seq ?_
    refine WP.seq ?_
    refine WP.region ?_
    refine WPL.q (q_mv (v := .lit (.int _ _)) rfl) rfl ?_
    refine WPL.q (q_leq rfl rfl) rfl ?_
    refine WPL.nilW ?_
    refine W.now ?_
    refine Then.n ?_
    refine WP.cond (t := (decide (x10750 ≤ 15))) rfl (fun hb => ?_) (fun hb => ?_)
    · replace H := cnt hb H
      refine WP.skipW ?_
      refine W.now ?_
      refine Then.n ?_
      refine WP.seq ?_
      refine WP.block ?_
      refine WP.seq ?_
      refine WP.seq ?_
      refine WP.region ?_
      refine WPL.q (q_mv (v := .lit (.int _ _)) rfl) rfl ?_
      refine WPL.q (q_mv (v := .ptr _ _) rfl) rfl ?_
      refine WPL.q (q_nilCheck rfl) rfl ?_
      refine WPL.q (q_fieldAddr fi74_1 rfl rfl) rfl ?_
      refine WPL.q (q_load sc22 rfl rfl rfl) rfl ?_
      refine WPL.q (q_len_row sl22 rfl rfl) rfl ?_
      obtain ⟨x10826, h10826, H⟩ := bnd H
      refine WPL.q (q_nm (q_eql rfl rfl) (nm_bool h10826)) rfl ?_
      refine WPL.nilW ?_
      refine W.now ?_
      refine Then.n ?_
      refine WP.cond (t := x10826) rfl (fun hb => ?_) (fun hb => ?_)
      · replace H := cnt hb H
        refine WP.exitW ?_
        refine W.cv (Cv.weak (E' := (((Env.none.upd 1 (.ptr 1 0)).upd 6 (.ptr 3 0)).upd 10 (.lit (.int .i64 11)))) (M' := ((((Mem.nil.push (.cells 74 [.lit (.int .i64 (List.getD x10476 0 (0 : Int))), .lit (.int .i64 (List.getD x10476 1 (0 : Int))), .lit (.int .i64 (List.getD x10476 2 (0 : Int))), .lit (.int .i64 (List.getD x10476 3 (0 : Int))), .lit (.int .i64 (List.getD x10476 4 (0 : Int))), .lit (.int .i64 (List.getD x10476 5 (0 : Int))), .lit (.int .i64 (List.getD x10476 6 (0 : Int))), .lit (.int .i64 (List.getD x10476 7 (0 : Int))), .lit (.int .i64 (List.getD x10476 8 (0 : Int))), .lit (.int .i64 (List.getD x10476 9 (0 : Int))), .lit (.int .i64 (List.getD x10476 10 (0 : Int))), .lit (.int .i64 (List.getD x10476 11 (0 : Int))), .lit (.int .i64 (List.getD x10476 12 (0 : Int))), .lit (.int .i64 (List.getD x10476 13 (0 : Int))), .lit (.int .i64 (List.getD x10476 14 (0 : Int))), .lit (.int .i64 (List.getD x10476 15 (0 : Int))), .whole 2])).push (.cells 77 [.ro (Rd.slice (Rd.int .u8)) false x10751, .lit (.int .i64 x10752)])).push (.row 3 (Rd.int .i64) x10479)).push (.cells 77 [.ro (Rd.slice (Rd.int .u8)) false x10477, .lit (.int .i64 x10478)]))) [0, 1, 2, 3] hnp ⟨rfl, ⟨⟨⟨⟨trivial, .inr ⟨rfl, rfl, rfl⟩⟩, .inr ⟨rfl, rfl, rfl⟩⟩, .inr ⟨rfl, rfl, rfl⟩⟩, .inr ⟨rfl, rfl, rfl⟩⟩, by decide, rfl, ⟨⟨trivial, rfl⟩, rfl⟩⟩ (LeE.upd rfl rfl (LeE.upd rfl rfl (LeE.upd rfl rfl (LeE.none rfl rfl))))) rfl ?_
        refine W.now ?_
        refine Then.x ?_
        refine InBlock.x rfl ?_
        refine Then.x ?_
        refine Then.x ?_
        have q0 := Option.some.inj H
        subst q0
        exact ⟨rfl, rfl, rfl⟩
      · replace H := cnf hb H
        refine WP.skipW ?_
        refine W.now ?_
        refine Then.n ?_
        refine WP.seq ?_
        refine WP.region ?_
        refine WPL.q (q_mv (v := .ptr _ _) rfl) rfl ?_
        obtain ⟨⟨x10828, x10829, x10830, x10831⟩, h10826, H⟩ := bnd H
        refine WPL.c (runs_call (s := [1]) (t := [1]) (N := 4) (bor := []) fn35 rfl (s35 k 1 x10751 x10752 x10828 x10829 x10830 x10831 h10826) ⟨rfl, ⟨trivial, .inr ⟨rfl, rfl, rfl⟩⟩, by decide, rfl, trivial⟩ rfl trivial (.ren rfl rfl (.ren rfl rfl .nil)) rfl ⟨trivial, rfl⟩ rfl) rfl ?_
        refine WPL.q (q_mv (v := .tup _) rfl) rfl ?_
        refine WPL.q (q_extract rfl rfl) rfl ?_
        refine WPL.q (q_extract rfl rfl) rfl ?_
        refine WPL.q (q_as (v := .lit (.int _ _)) rfl) rfl ?_
        refine WPL.q (q_as (v := .lit (.int _ _)) rfl) rfl ?_
        refine WPL.nilW ?_
        refine W.now ?_
        refine Then.n ?_
        refine WP.seq ?_
        refine WP.seq ?_
        refine WP.region ?_
        refine WPL.q (q_mv (v := .lit (.int _ _)) rfl) rfl ?_
        refine WPL.q (q_neq rfl rfl) rfl ?_
        refine WPL.nilW ?_
        refine W.now ?_
        refine Then.n ?_
        refine WP.cond (t := (!decide (x10829 = 0))) rfl (fun hb => ?_) (fun hb => ?_)
        · replace H := cnt hb H
          refine WP.seq ?_
          refine WP.region ?_
          refine WPL.q (q_mv (v := .lit (.int _ _)) rfl) rfl ?_
          refine WPL.q (q_as (v := .lit (.int _ _)) rfl) rfl ?_
          refine WPL.nilW ?_
          refine W.now ?_
          refine Then.n ?_
          refine WP.exitW ?_
          refine W.cv (Cv.weak (E' := (((Env.none.upd 1 (.ptr 1 0)).upd 6 (.ptr 3 0)).upd 10 (.lit (.int .i64 x10829)))) (M' := ((((Mem.nil.push (.cells 74 [.lit (.int .i64 (List.getD x10476 0 (0 : Int))), .lit (.int .i64 (List.getD x10476 1 (0 : Int))), .lit (.int .i64 (List.getD x10476 2 (0 : Int))), .lit (.int .i64 (List.getD x10476 3 (0 : Int))), .lit (.int .i64 (List.getD x10476 4 (0 : Int))), .lit (.int .i64 (List.getD x10476 5 (0 : Int))), .lit (.int .i64 (List.getD x10476 6 (0 : Int))), .lit (.int .i64 (List.getD x10476 7 (0 : Int))), .lit (.int .i64 (List.getD x10476 8 (0 : Int))), .lit (.int .i64 (List.getD x10476 9 (0 : Int))), .lit (.int .i64 (List.getD x10476 10 (0 : Int))), .lit (.int .i64 (List.getD x10476 11 (0 : Int))), .lit (.int .i64 (List.getD x10476 12 (0 : Int))), .lit (.int .i64 (List.getD x10476 13 (0 : Int))), .lit (.int .i64 (List.getD x10476 14 (0 : Int))), .lit (.int .i64 (List.getD x10476 15 (0 : Int))), .whole 2])).push (.cells 77 [.ro (Rd.slice (Rd.int .u8)) false x10830, .lit (.int .i64 x10831)])).push (.row 3 (Rd.int .i64) x10479)).push (.cells 77 [.ro (Rd.slice (Rd.int .u8)) false x10477, .lit (.int .i64 x10478)]))) [0, 1, 2, 3] hnp ⟨rfl, ⟨⟨⟨⟨trivial, .inr ⟨rfl, rfl, rfl⟩⟩, .inr ⟨rfl, rfl, rfl⟩⟩, .inr ⟨rfl, rfl, rfl⟩⟩, .inr ⟨rfl, rfl, rfl⟩⟩, by decide, rfl, ⟨⟨trivial, rfl⟩, rfl⟩⟩ (LeE.upd rfl rfl (LeE.upd rfl rfl (LeE.upd rfl rfl (LeE.none rfl rfl))))) rfl ?_
          refine W.now ?_
          refine Then.x ?_
          refine InBlock.x rfl ?_
          refine Then.x ?_
          refine Then.x ?_
          have q0 := Option.some.inj H
          subst q0
          exact ⟨rfl, rfl, rfl⟩
        · replace H := cnf hb H
          refine WP.skipW ?_
          refine W.now ?_
          refine Then.n ?_
          refine WP.seq ?_
          refine WP.region ?_
          refine WPL.q (q_mv (v := .lit (.int _ _)) rfl) rfl ?_
          refine WPL.q (q_shl rfl rfl rfl) rfl ?_
          refine WPL.q (q_mv (v := .lit (.int _ _)) rfl) rfl ?_
          refine WPL.q (q_conv Try.underlying35 Try.underlying3 rfl) rfl ?_
          obtain ⟨x10832, h10832, H⟩ := bnd H
          refine WPL.q (q_nm (q_or rfl rfl) (nm_int h10832)) rfl ?_
          refine WPL.q (q_as (v := .lit (.int _ _)) rfl) rfl ?_
          refine WPL.nilW ?_
          refine W.now ?_
          refine Then.n ?_
          refine WP.seq ?_
          refine WP.region ?_
          refine WPL.q (q_mv (v := .lit (.int _ _)) rfl) rfl ?_
          refine WPL.q (q_shl rfl rfl rfl) rfl ?_
          refine WPL.q (q_as (v := .lit (.int _ _)) rfl) rfl ?_
          refine WPL.nilW ?_
          refine W.now ?_
          refine Then.n ?_
          refine WP.seq ?_
          refine WP.seq ?_
          refine WP.region ?_
          refine WPL.q (q_mv (v := .lit (.int _ _)) rfl) rfl ?_
          refine WPL.q (q_mv (v := .lit (.int _ _)) rfl) rfl ?_
          obtain ⟨x10837, h10837, H⟩ := bnd H
          refine WPL.q (q_nm (q_sub rfl rfl) (nm_int h10837)) rfl ?_
          refine WPL.q (q_as (v := .lit (.int _ _)) rfl) rfl ?_
          refine WPL.nilW ?_
          refine W.now ?_
          refine Then.n ?_
          refine WP.seq ?_
          refine WP.region ?_
          refine WPL.q (q_mv (v := .lit (.int _ _)) rfl) rfl ?_
          refine WPL.q (q_mv (v := .ptr _ _) rfl) rfl ?_
          refine WPL.q (q_mv (v := .lit (.int _ _)) rfl) rfl ?_
          refine WPL.q (q_nilCheck rfl) rfl ?_
          refine WPL.q (q_fieldAddr fi74_0 rfl rfl) rfl ?_
          obtain ⟨h10837, H⟩ := grd H
          refine WPL.q (q_indexArr ar72 rfl rfl h10837 rfl) rfl ?_
          refine WPL.q (q_load_arr (f := (fun z : Int => AVal.lit (.int .i64 z))) (d0 := (0 : Int)) (xs := x10476) (n := 16) (off := 0) (j := (Int.toNat x10750)) sc3 rfl rfl rfl (natlt h10837) (addone _ _)) rfl ?_
          obtain ⟨x10839, h10839, H⟩ := bnd H
          refine WPL.q (q_nm (q_lss rfl rfl) (nm_bool h10839)) rfl ?_
          refine WPL.nilW ?_
          refine W.now ?_
          refine Then.n ?_
          refine WP.cond (t := x10839) rfl (fun hb => ?_) (fun hb => ?_)
          · replace H := cnt hb H
            refine WP.seq ?_
            refine WP.region ?_
            refine WPL.q (q_mv (v := .ptr _ _) rfl) rfl ?_
            refine WPL.q (q_nilCheck rfl) rfl ?_
            refine WPL.q (q_fieldAddr fi74_1 rfl rfl) rfl ?_
            refine WPL.q (q_load sc22 rfl rfl rfl) rfl ?_
            refine WPL.q (q_mv (v := .lit (.int _ _)) rfl) rfl ?_
            refine WPL.q (q_mv (v := .lit (.int _ _)) rfl) rfl ?_
            refine WPL.q (q_add rfl rfl) rfl ?_
            obtain ⟨x10840, h10840, H⟩ := bnd H
            refine WPL.q (q_index_row sl22 rfl rfl rfl (ixs h10840)) rfl ?_
            refine WPL.q (q_load_row (j := (Int.toNat (IntKind.wrap .i64 (x10749 + x10837)))) sc3 rfl rfl (ixj h10840)) rfl ?_
            refine WPL.q (q_as (v := .lit (.int _ _)) rfl) rfl ?_
            refine WPL.q (q_as (v := .lit (.int _ _)) rfl) rfl ?_
            refine WPL.nilW ?_
            refine W.now ?_
            refine Then.n ?_
            refine WP.retW ?_
            refine W.cv (Cv.weak (E' := ((Env.none.upd 4 (.lit (.int .i64 x10840))).upd 5 (.lit (.int .i64 0)))) (M' := (((Mem.nil.push (.cells 74 [.lit (.int .i64 (List.getD x10476 0 (0 : Int))), .lit (.int .i64 (List.getD x10476 1 (0 : Int))), .lit (.int .i64 (List.getD x10476 2 (0 : Int))), .lit (.int .i64 (List.getD x10476 3 (0 : Int))), .lit (.int .i64 (List.getD x10476 4 (0 : Int))), .lit (.int .i64 (List.getD x10476 5 (0 : Int))), .lit (.int .i64 (List.getD x10476 6 (0 : Int))), .lit (.int .i64 (List.getD x10476 7 (0 : Int))), .lit (.int .i64 (List.getD x10476 8 (0 : Int))), .lit (.int .i64 (List.getD x10476 9 (0 : Int))), .lit (.int .i64 (List.getD x10476 10 (0 : Int))), .lit (.int .i64 (List.getD x10476 11 (0 : Int))), .lit (.int .i64 (List.getD x10476 12 (0 : Int))), .lit (.int .i64 (List.getD x10476 13 (0 : Int))), .lit (.int .i64 (List.getD x10476 14 (0 : Int))), .lit (.int .i64 (List.getD x10476 15 (0 : Int))), .whole 2])).push (.cells 77 [.ro (Rd.slice (Rd.int .u8)) false x10830, .lit (.int .i64 x10831)])).push (.row 3 (Rd.int .i64) x10479))) [0, 1, 2] hnp ⟨rfl, ⟨⟨⟨trivial, .inr ⟨rfl, rfl, rfl⟩⟩, .inr ⟨rfl, rfl, rfl⟩⟩, .inr ⟨rfl, rfl, rfl⟩⟩, by decide, rfl, ⟨⟨trivial, rfl⟩, rfl⟩⟩ (LeE.upd rfl rfl (LeE.upd rfl rfl (LeE.none rfl rfl)))) rfl ?_
            refine W.now ?_
            refine Then.r ?_
            refine InBlock.r ?_
            refine Then.r ?_
            refine Then.r ?_
            have q0 := Option.some.inj H
            subst q0
            exact ⟨rfl, rfl, rfl⟩
          · replace H := cnf hb H
            refine WP.skipW ?_
            refine W.now ?_
            refine Then.n ?_
            refine WP.seq ?_
            refine WP.region ?_
            refine WPL.q (q_mv (v := .lit (.int _ _)) rfl) rfl ?_
            refine WPL.q (q_mv (v := .ptr _ _) rfl) rfl ?_
            refine WPL.q (q_mv (v := .lit (.int _ _)) rfl) rfl ?_
            refine WPL.q (q_nilCheck rfl) rfl ?_
            refine WPL.q (q_fieldAddr fi74_0 rfl rfl) rfl ?_
            obtain ⟨h10840, H⟩ := grd H
            refine WPL.q (q_indexArr ar72 rfl rfl h10840 rfl) rfl ?_
            refine WPL.q (q_load_arr (f := (fun z : Int => AVal.lit (.int .i64 z))) (d0 := (0 : Int)) (xs := x10476) (n := 16) (off := 0) (j := (Int.toNat x10750)) sc3 rfl rfl rfl (natlt h10840) (addone _ _)) rfl ?_
            obtain ⟨x10842, h10842, H⟩ := bnd H
            refine WPL.q (q_nm (q_add rfl rfl) (nm_int h10842)) rfl ?_
            refine WPL.q (q_as (v := .lit (.int _ _)) rfl) rfl ?_
            refine WPL.nilW ?_
            refine W.now ?_
            refine Then.n ?_
            refine WP.seq ?_
            refine WP.region ?_
            refine WPL.q (q_mv (v := .lit (.int _ _)) rfl) rfl ?_
            refine WPL.q (q_mv (v := .ptr _ _) rfl) rfl ?_
            refine WPL.q (q_mv (v := .lit (.int _ _)) rfl) rfl ?_
            refine WPL.q (q_nilCheck rfl) rfl ?_
            refine WPL.q (q_fieldAddr fi74_0 rfl rfl) rfl ?_
            obtain ⟨h10842, H⟩ := grd H
            refine WPL.q (q_indexArr ar72 rfl rfl h10842 rfl) rfl ?_
            refine WPL.q (q_load_arr (f := (fun z : Int => AVal.lit (.int .i64 z))) (d0 := (0 : Int)) (xs := x10476) (n := 16) (off := 0) (j := (Int.toNat x10750)) sc3 rfl rfl rfl (natlt h10842) (addone _ _)) rfl ?_
            obtain ⟨x10844, h10844, H⟩ := bnd H
            refine WPL.q (q_nm (q_add rfl rfl) (nm_int h10844)) rfl ?_
            refine WPL.q (q_as (v := .lit (.int _ _)) rfl) rfl ?_
            refine WPL.nilW ?_
            refine W.now ?_
            refine Then.n ?_
            refine WP.seq ?_
            refine WP.region ?_
            refine WPL.q (q_mv (v := .ptr _ _) rfl) rfl ?_
            refine WPL.q (q_mv (v := .lit (.int _ _)) rfl) rfl ?_
            refine WPL.q (q_mv (v := .lit (.int _ _)) rfl) rfl ?_
            refine WPL.q (q_sub rfl rfl) rfl ?_
            refine WPL.q (q_mv (v := .lit (.int _ _)) rfl) rfl ?_
            refine WPL.q (q_add rfl rfl) rfl ?_
            obtain ⟨x10846, h10844, H⟩ := bnd H
            refine WPL.c (runs_call (s := [0, 2]) (t := [0, 4]) (N := 5) (bor := []) fn36 rfl (s36 k (IntKind.wrap .i64 (x10832 - x10842)) (IntKind.wrap .i64 (x10750 + 1)) x10476 x10479 x10846 h10844) ⟨rfl, ⟨⟨trivial, .inr ⟨rfl, rfl, rfl⟩⟩, .inr ⟨rfl, rfl, rfl⟩⟩, by decide, rfl, trivial⟩ rfl trivial (.ren rfl rfl (.ren rfl rfl (.ren rfl rfl .nil))) rfl ⟨⟨trivial, rfl⟩, rfl⟩ rfl) rfl ?_
            refine WPL.q (q_not rfl) rfl ?_
            refine WPL.nilW ?_
            refine W.now ?_
            refine Then.n ?_
            refine WP.cond (t := (!x10846)) rfl (fun hb => ?_) (fun hb => ?_)
            · replace H := cnt hb H
              refine WP.exitW ?_
              refine W.cv (Cv.weak (E' := (((Env.none.upd 1 (.ptr 1 0)).upd 6 (.ptr 3 0)).upd 10 (.lit (.int .i64 11)))) (M' := ((((Mem.nil.push (.cells 74 [.lit (.int .i64 (List.getD x10476 0 (0 : Int))), .lit (.int .i64 (List.getD x10476 1 (0 : Int))), .lit (.int .i64 (List.getD x10476 2 (0 : Int))), .lit (.int .i64 (List.getD x10476 3 (0 : Int))), .lit (.int .i64 (List.getD x10476 4 (0 : Int))), .lit (.int .i64 (List.getD x10476 5 (0 : Int))), .lit (.int .i64 (List.getD x10476 6 (0 : Int))), .lit (.int .i64 (List.getD x10476 7 (0 : Int))), .lit (.int .i64 (List.getD x10476 8 (0 : Int))), .lit (.int .i64 (List.getD x10476 9 (0 : Int))), .lit (.int .i64 (List.getD x10476 10 (0 : Int))), .lit (.int .i64 (List.getD x10476 11 (0 : Int))), .lit (.int .i64 (List.getD x10476 12 (0 : Int))), .lit (.int .i64 (List.getD x10476 13 (0 : Int))), .lit (.int .i64 (List.getD x10476 14 (0 : Int))), .lit (.int .i64 (List.getD x10476 15 (0 : Int))), .whole 2])).push (.cells 77 [.ro (Rd.slice (Rd.int .u8)) false x10830, .lit (.int .i64 x10831)])).push (.row 3 (Rd.int .i64) x10479)).push (.cells 77 [.ro (Rd.slice (Rd.int .u8)) false x10477, .lit (.int .i64 x10478)]))) [0, 1, 4, 3] hnp ⟨rfl, ⟨⟨⟨⟨trivial, .inr ⟨rfl, rfl, rfl⟩⟩, .inr ⟨rfl, rfl, rfl⟩⟩, .inr ⟨rfl, rfl, rfl⟩⟩, .inr ⟨rfl, rfl, rfl⟩⟩, by decide, rfl, ⟨⟨trivial, rfl⟩, rfl⟩⟩ (LeE.upd rfl rfl (LeE.upd rfl rfl (LeE.upd rfl rfl (LeE.none rfl rfl))))) rfl ?_
              refine W.now ?_
              refine InBlock.x rfl ?_
              refine Then.x ?_
              refine Then.x ?_
              have q0 := Option.some.inj H
              subst q0
              exact ⟨rfl, rfl, rfl⟩
            · replace H := cnf hb H
              refine WP.skipW ?_
              refine W.now ?_
              refine InBlock.n ?_
              refine Then.n ?_
              refine WP.region ?_
              refine WPL.q (q_mv (v := .lit (.int _ _)) rfl) rfl ?_
              refine WPL.q (q_add rfl rfl) rfl ?_
              refine WPL.q (q_as (v := .lit (.int _ _)) rfl) rfl ?_
              refine WPL.nilW ?_
              refine W.cv (Cv.weak (E' := ((((((((Env.none.upd 0 (.ptr 0 0)).upd 1 (.ptr 1 0)).upd 6 (.ptr 3 0)).upd 7 (.lit (.int .i64 x10832))).upd 8 (.lit (.int .i64 x10842))).upd 9 (.lit (.int .i64 x10844))).upd 10 (.lit (.int .i64 11))).upd 11 (.lit (.int .i64 (IntKind.wrap .i64 (x10750 + 1)))))) (M' := ((((Mem.nil.push (.cells 74 [.lit (.int .i64 (List.getD x10476 0 (0 : Int))), .lit (.int .i64 (List.getD x10476 1 (0 : Int))), .lit (.int .i64 (List.getD x10476 2 (0 : Int))), .lit (.int .i64 (List.getD x10476 3 (0 : Int))), .lit (.int .i64 (List.getD x10476 4 (0 : Int))), .lit (.int .i64 (List.getD x10476 5 (0 : Int))), .lit (.int .i64 (List.getD x10476 6 (0 : Int))), .lit (.int .i64 (List.getD x10476 7 (0 : Int))), .lit (.int .i64 (List.getD x10476 8 (0 : Int))), .lit (.int .i64 (List.getD x10476 9 (0 : Int))), .lit (.int .i64 (List.getD x10476 10 (0 : Int))), .lit (.int .i64 (List.getD x10476 11 (0 : Int))), .lit (.int .i64 (List.getD x10476 12 (0 : Int))), .lit (.int .i64 (List.getD x10476 13 (0 : Int))), .lit (.int .i64 (List.getD x10476 14 (0 : Int))), .lit (.int .i64 (List.getD x10476 15 (0 : Int))), .whole 2])).push (.cells 77 [.ro (Rd.slice (Rd.int .u8)) false x10830, .lit (.int .i64 x10831)])).push (.row 3 (Rd.int .i64) x10479)).push (.cells 77 [.ro (Rd.slice (Rd.int .u8)) false x10477, .lit (.int .i64 x10478)]))) [0, 1, 4, 3] hnp ⟨rfl, ⟨⟨⟨⟨trivial, .inr ⟨rfl, rfl, rfl⟩⟩, .inr ⟨rfl, rfl, rfl⟩⟩, .inr ⟨rfl, rfl, rfl⟩⟩, .inr ⟨rfl, rfl, rfl⟩⟩, by decide, rfl, ⟨⟨trivial, rfl⟩, rfl⟩⟩ (LeE.upd rfl rfl (LeE.upd rfl rfl (LeE.upd rfl rfl (LeE.upd rfl rfl (LeE.upd rfl rfl (LeE.upd rfl rfl (LeE.upd rfl rfl (LeE.upd rfl rfl (LeE.none rfl rfl)))))))))) rfl ?_
              refine W.now ?_
              exact Then.n ⟨n, (x10832, x10842, x10844, (IntKind.wrap .i64 (x10750 + 1)), x10830, x10831), Nat.lt_succ_self n, H, rfl, rfl⟩
    · replace H := cnf hb H
      refine WP.exitW ?_
      refine W.cv (Cv.weak (E' := (((Env.none.upd 1 (.ptr 1 0)).upd 6 (.ptr 3 0)).upd 10 (.lit (.int .i64 11)))) (M' := ((((Mem.nil.push (.cells 74 [.lit (.int .i64 (List.getD x10476 0 (0 : Int))), .lit (.int .i64 (List.getD x10476 1 (0 : Int))), .lit (.int .i64 (List.getD x10476 2 (0 : Int))), .lit (.int .i64 (List.getD x10476 3 (0 : Int))), .lit (.int .i64 (List.getD x10476 4 (0 : Int))), .lit (.int .i64 (List.getD x10476 5 (0 : Int))), .lit (.int .i64 (List.getD x10476 6 (0 : Int))), .lit (.int .i64 (List.getD x10476 7 (0 : Int))), .lit (.int .i64 (List.getD x10476 8 (0 : Int))), .lit (.int .i64 (List.getD x10476 9 (0 : Int))), .lit (.int .i64 (List.getD x10476 10 (0 : Int))), .lit (.int .i64 (List.getD x10476 11 (0 : Int))), .lit (.int .i64 (List.getD x10476 12 (0 : Int))), .lit (.int .i64 (List.getD x10476 13 (0 : Int))), .lit (.int .i64 (List.getD x10476 14 (0 : Int))), .lit (.int .i64 (List.getD x10476 15 (0 : Int))), .whole 2])).push (.cells 77 [.ro (Rd.slice (Rd.int .u8)) false x10751, .lit (.int .i64 x10752)])).push (.row 3 (Rd.int .i64) x10479)).push (.cells 77 [.ro (Rd.slice (Rd.int .u8)) false x10477, .lit (.int .i64 x10478)]))) [0, 1, 2, 3] hnp ⟨rfl, ⟨⟨⟨⟨trivial, .inr ⟨rfl, rfl, rfl⟩⟩, .inr ⟨rfl, rfl, rfl⟩⟩, .inr ⟨rfl, rfl, rfl⟩⟩, .inr ⟨rfl, rfl, rfl⟩⟩, by decide, rfl, ⟨⟨trivial, rfl⟩, rfl⟩⟩ (LeE.upd rfl rfl (LeE.upd rfl rfl (LeE.upd rfl rfl (LeE.none rfl rfl))))) rfl ?_
      refine W.now ?_
      refine Then.x ?_
      refine Then.x ?_
      have q0 := Option.some.inj H
      subst q0
      exact ⟨rfl, rfl, rfl⟩
  · rcases y10848 with ⟨x10797, x10798, x10799⟩ | ⟨x10800, x10801, x10802⟩
    · rintro _ _ _ ⟨rfl, rfl, rfl⟩
      refine W.now ?_
      refine InBlock.x0 ?_
      refine Then.n ?_
      refine WP.seq ?_
      refine WP.region ?_
      refine WPL.q (q_mv (v := .ptr _ _) rfl) rfl ?_
      refine WPL.q (q_load_ag ag77 rfl rfl (Nat.le_of_ble_eq_true rfl)) rfl ?_
      refine WPL.q (q_nilCheck rfl) rfl ?_
      refine WPL.s (s_store sz77 rfl rfl rfl rfl rfl) ?_
      refine WPL.nilW ?_
      refine W.now ?_
      refine Then.n ?_
      refine WP.seq ?_
      refine WP.region ?_
      refine WPL.q (q_mv (v := .lit (.int _ _)) rfl) rfl ?_
      refine WPL.q (q_as (v := .lit (.int _ _)) rfl) rfl ?_
      refine WPL.q (q_as (v := .lit (.int _ _)) rfl) rfl ?_
      refine WPL.nilW ?_
      refine W.now ?_
      refine Then.n ?_
      refine WP.retW ?_
      refine W.now ?_
      refine Scope.r ?_
      have q0 := (Prod.mk.inj (Option.some.inj H)).1
      have q1 := (Prod.mk.inj (Prod.mk.inj (Option.some.inj H)).2).1
      have q2 := (Prod.mk.inj (Prod.mk.inj (Prod.mk.inj (Option.some.inj H)).2).2).1
      have q3 := (Prod.mk.inj (Prod.mk.inj (Prod.mk.inj (Option.some.inj H)).2).2).2
      subst q0
      subst q1
      subst q2
      subst q3
      exact ⟨trivial, _, rfl, [0, 1, 2], (.tup [.lit (.int .i64 0), .lit (.int .i64 x10797)]), (((Mem.nil.push (.cells 74 [.lit (.int .i64 (List.getD x10476 0 (0 : Int))), .lit (.int .i64 (List.getD x10476 1 (0 : Int))), .lit (.int .i64 (List.getD x10476 2 (0 : Int))), .lit (.int .i64 (List.getD x10476 3 (0 : Int))), .lit (.int .i64 (List.getD x10476 4 (0 : Int))), .lit (.int .i64 (List.getD x10476 5 (0 : Int))), .lit (.int .i64 (List.getD x10476 6 (0 : Int))), .lit (.int .i64 (List.getD x10476 7 (0 : Int))), .lit (.int .i64 (List.getD x10476 8 (0 : Int))), .lit (.int .i64 (List.getD x10476 9 (0 : Int))), .lit (.int .i64 (List.getD x10476 10 (0 : Int))), .lit (.int .i64 (List.getD x10476 11 (0 : Int))), .lit (.int .i64 (List.getD x10476 12 (0 : Int))), .lit (.int .i64 (List.getD x10476 13 (0 : Int))), .lit (.int .i64 (List.getD x10476 14 (0 : Int))), .lit (.int .i64 (List.getD x10476 15 (0 : Int))), .whole 2])).push (.cells 77 [.ro (Rd.slice (Rd.int .u8)) false x10477, .lit (.int .i64 x10478)])).push (.row 3 (Rd.int .i64) x10479)), ⟨rfl, ⟨⟨⟨trivial, .inr ⟨rfl, rfl, rfl⟩⟩, .inr ⟨rfl, rfl, rfl⟩⟩, .inr ⟨rfl, rfl, rfl⟩⟩, by decide, rfl, ⟨⟨trivial, rfl⟩, rfl⟩⟩, rfl, rfl, rfl, rfl⟩
    · rintro _ _ _ ⟨rfl, rfl, rfl⟩
      refine W.now ?_
      refine InBlock.r ?_
      refine Then.r ?_
      refine Scope.r ?_
      have q0 := (Prod.mk.inj (Option.some.inj H)).1
      have q1 := (Prod.mk.inj (Prod.mk.inj (Option.some.inj H)).2).1
      have q2 := (Prod.mk.inj (Prod.mk.inj (Prod.mk.inj (Option.some.inj H)).2).2).1
      have q3 := (Prod.mk.inj (Prod.mk.inj (Prod.mk.inj (Option.some.inj H)).2).2).2
      subst q0
      subst q1
      subst q2
      subst q3
      exact ⟨trivial, _, rfl, [0, 1, 2], (.tup [.lit (.int .i64 x10800), .lit (.int .i64 0)]), (((Mem.nil.push (.cells 74 [.lit (.int .i64 (List.getD x10476 0 (0 : Int))), .lit (.int .i64 (List.getD x10476 1 (0 : Int))), .lit (.int .i64 (List.getD x10476 2 (0 : Int))), .lit (.int .i64 (List.getD x10476 3 (0 : Int))), .lit (.int .i64 (List.getD x10476 4 (0 : Int))), .lit (.int .i64 (List.getD x10476 5 (0 : Int))), .lit (.int .i64 (List.getD x10476 6 (0 : Int))), .lit (.int .i64 (List.getD x10476 7 (0 : Int))), .lit (.int .i64 (List.getD x10476 8 (0 : Int))), .lit (.int .i64 (List.getD x10476 9 (0 : Int))), .lit (.int .i64 (List.getD x10476 10 (0 : Int))), .lit (.int .i64 (List.getD x10476 11 (0 : Int))), .lit (.int .i64 (List.getD x10476 12 (0 : Int))), .lit (.int .i64 (List.getD x10476 13 (0 : Int))), .lit (.int .i64 (List.getD x10476 14 (0 : Int))), .lit (.int .i64 (List.getD x10476 15 (0 : Int))), .whole 2])).push (.cells 77 [.ro (Rd.slice (Rd.int .u8)) false x10801, .lit (.int .i64 x10802)])).push (.row 3 (Rd.int .i64) x10479)), ⟨rfl, ⟨⟨⟨trivial, .inr ⟨rfl, rfl, rfl⟩⟩, .inr ⟨rfl, rfl, rfl⟩⟩, .inr ⟨rfl, rfl, rfl⟩⟩, by decide, rfl, ⟨⟨trivial, rfl⟩, rfl⟩⟩, rfl, rfl, rfl, rfl⟩
set_option maxRecDepth 100000 in
set_option maxHeartbeats 4000000 in
theorem s7 (k : Nat) (x7838 : (List Int)) (x7839 : (List Int)) (x11004 : Bool) (H : f7 k x7838 x7839 = some x11004) : Go.Q.Spec Try.prog 7 0 [.ro (Rd.slice (Rd.int .i64)) false x7838, .ro (Rd.slice (Rd.int .u8)) false x7839] Mem.nil (fun o M => o = .ret (.lit (.bool x11004)) ∧ M = Mem.nil) := by
  unfold f7 at H
  refine Go.Q.Spec.of_bodyR (rs := [.tmp 4]) (nt := 81) Try.func7 rfl rfl (by intro t T h; simp at h) rfl rfl fun cx hnp => ?_
  refine WP.seq ?_
  refine WP.region ?_
  refine WPL.q (q_as (v := .lit (.bool _)) rfl) rfl ?_
  refine WPL.nilW ?_
  refine W.now ?_
  refine Then.n ?_
  refine WP.seq ?_
  refine WP.region ?_
  refine WPL.q (q_mv (v := .ro _ _ _) rfl) rfl ?_
  obtain ⟨y11009, h11004, H⟩ := bnd H
  rcases y11009 with x11006 | ⟨x11007, x11008⟩
  · refine WPL.c (runs_call (s := []) (t := []) (N := 0) (bor := []) fn19 rfl (s19b k x7838 (Sum.inl x11006) h11004) ⟨rfl, trivial, by decide, rfl, trivial⟩ rfl trivial (.ren rfl rfl .nil) rfl trivial rfl) rfl ?_
    refine WPL.q (q_mv (v := .tup _) rfl) rfl ?_
    refine WPL.q (q_extract rfl rfl) rfl ?_
    refine WPL.q (q_extract rfl rfl) rfl ?_
    refine WPL.q (q_as (v := .lit _) rfl) rfl ?_
    refine WPL.q (q_as (v := .lit (.int _ _)) rfl) rfl ?_
    refine WPL.nilW ?_
    refine W.now ?_
    refine Then.n ?_
    refine WP.seq ?_
    refine WP.region ?_
    refine WPL.q (q_mv (v := .ro _ _ _) rfl) rfl ?_
    obtain ⟨⟨x11011, x11012⟩, h11009, H⟩ := bnd H
    refine WPL.c (runs_call (s := []) (t := []) (N := 0) (bor := []) fn15 rfl (s15 k x7838 x11011 x11012 h11009) ⟨rfl, trivial, by decide, rfl, trivial⟩ rfl trivial (.ren rfl rfl .nil) rfl trivial rfl) rfl ?_
    refine WPL.q (q_mv (v := .tup _) rfl) rfl ?_
    refine WPL.q (q_extract rfl rfl) rfl ?_
    refine WPL.q (q_extract rfl rfl) rfl ?_
    refine WPL.q (q_as (v := .ro _ _ _) rfl) rfl ?_
    refine WPL.q (q_as (v := .lit (.int _ _)) rfl) rfl ?_
    refine WPL.nilW ?_
    refine W.now ?_
    refine Then.n ?_
    refine WP.seq ?_
    refine WP.seq ?_
    obtain ⟨x11027, H11031, H⟩ := bnd H
    refine WP.monoW (Q := fun x E M => x = .normal ∧ E = ((((((Env.none.upd 0 (.ro (Rd.slice (Rd.int .i64)) false x7838)).upd 1 (.ro (Rd.slice (Rd.int .u8)) false x7839)).upd 5 (.lit (.pointer none))).upd 7 (.ro (Rd.slice (Rd.int .u32)) false x11011)).upd 8 (.lit (.int .i64 x11012))).upd 39 (.lit (.bool x11027))) ∧ M = Mem.nil) ?_ ?_
    · clear H
      have H := H11031
      clear H11031
      refine WP.region ?_
      refine WPL.q (q_mv (v := .lit (.int _ _)) rfl) rfl ?_
      refine WPL.q (q_mv (v := .lit (.int _ _)) rfl) rfl ?_
      refine WPL.q (q_neq rfl rfl) rfl ?_
      refine WPL.q (q_mv (v := .lit (.bool _)) rfl) rfl ?_
      refine WPL.split (t := 29) (b := (!decide (x11006 = x11012))) rfl (fun hb11027 => ?_) (fun hb11027 => ?_)
      · replace H := cnt hb11027 H
        refine WPL.skipg (b' := true) rfl rfl (lb hb11027) rfl rfl ?_
        refine WPL.skipg (b' := true) rfl rfl (lb hb11027) rfl rfl ?_
        refine WPL.skipg (b' := true) rfl rfl (lb hb11027) rfl rfl ?_
        refine WPL.skipg (b' := true) rfl rfl (lb hb11027) rfl rfl ?_
        refine WPL.skipg (b' := true) rfl rfl (lb hb11027) rfl rfl ?_
        refine WPL.q (q_pickT (v := .lit (.bool _)) (lb hb11027) rfl) rfl ?_
        refine WPL.q (q_mv (v := .lit (.bool _)) rfl) rfl ?_
        refine WPL.skipg (b' := true) rfl rfl rfl rfl rfl ?_
        refine WPL.skipg (b' := true) rfl rfl rfl rfl rfl ?_
        refine WPL.q (q_pickT (v := .lit (.bool _)) rfl rfl) rfl ?_
        refine WPL.nilW ?_
        refine W.cv (Cv.weak (E' := ((((((Env.none.upd 0 (.ro (Rd.slice (Rd.int .i64)) false x7838)).upd 1 (.ro (Rd.slice (Rd.int .u8)) false x7839)).upd 5 (.lit (.pointer none))).upd 7 (.ro (Rd.slice (Rd.int .u32)) false x11011)).upd 8 (.lit (.int .i64 x11012))).upd 39 (.lit (.bool true)))) (M' := Mem.nil) [] hnp ⟨rfl, trivial, by decide, rfl, trivial⟩ (LeE.upd rfl rfl (LeE.upd rfl rfl (LeE.upd rfl rfl (LeE.upd rfl rfl (LeE.upd rfl rfl (LeE.upd rfl rfl (LeE.none rfl rfl)))))))) rfl ?_
        refine W.now ?_
        have q0 := (Option.some.inj H)
        subst q0
        exact ⟨rfl, rfl, rfl⟩
      · replace H := cnf hb11027 H
        refine WPL.qg rfl rfl (lb hb11027) (q_mv (v := .lit _) rfl) rfl ?_
        refine WPL.qg rfl rfl (lb hb11027) (q_eqlp_nil Try.underlying39 rfl) rfl ?_
        refine WPL.qg rfl rfl (lb hb11027) (q_mv (v := .lit (.int _ _)) rfl) rfl ?_
        refine WPL.qg rfl rfl (lb hb11027) (q_neq rfl rfl) rfl ?_
        refine WPL.qg rfl rfl (lb hb11027) (q_neqb Try.underlying4 rfl rfl) rfl ?_
        refine WPL.q (q_pickF (v := .lit (.bool _)) (lb hb11027) rfl) rfl ?_
        refine WPL.q (q_mv (v := .lit (.bool _)) rfl) rfl ?_
        refine WPL.split (t := 36) (b := (!(true == (!decide (x11012 = 0))))) rfl (fun hb11028 => ?_) (fun hb11028 => ?_)
        · replace H := cnt hb11028 H
          refine WPL.skipg (b' := true) rfl rfl (lb hb11028) rfl rfl ?_
          refine WPL.skipg (b' := true) rfl rfl (lb hb11028) rfl rfl ?_
          refine WPL.q (q_pickT (v := .lit (.bool _)) (lb hb11028) rfl) rfl ?_
          refine WPL.nilW ?_
          refine W.cv (Cv.weak (E' := ((((((Env.none.upd 0 (.ro (Rd.slice (Rd.int .i64)) false x7838)).upd 1 (.ro (Rd.slice (Rd.int .u8)) false x7839)).upd 5 (.lit (.pointer none))).upd 7 (.ro (Rd.slice (Rd.int .u32)) false x11011)).upd 8 (.lit (.int .i64 x11012))).upd 39 (.lit (.bool true)))) (M' := Mem.nil) [] hnp ⟨rfl, trivial, by decide, rfl, trivial⟩ (LeE.upd rfl rfl (LeE.upd rfl rfl (LeE.upd rfl rfl (LeE.upd rfl rfl (LeE.upd rfl rfl (LeE.upd rfl rfl (LeE.none rfl rfl)))))))) rfl ?_
          refine W.now ?_
          have q0 := (Option.some.inj H)
          subst q0
          exact ⟨rfl, rfl, rfl⟩
        · replace H := cnf hb11028 H
          obtain ⟨x11031, h11029, H⟩ := bnd H
          refine WPL.cg rfl rfl (lb hb11028) (runs_call (s := []) (t := []) (N := 0) (bor := []) fn10 rfl (s10 k x11031 h11029) ⟨rfl, trivial, by decide, rfl, trivial⟩ rfl trivial .nil rfl trivial rfl) rfl ?_
          refine WPL.qg rfl rfl (lb hb11028) (q_not rfl) rfl ?_
          refine WPL.q (q_pickF (v := .lit (.bool _)) (lb hb11028) rfl) rfl ?_
          refine WPL.nilW ?_
          refine W.cv (Cv.weak (E' := ((((((Env.none.upd 0 (.ro (Rd.slice (Rd.int .i64)) false x7838)).upd 1 (.ro (Rd.slice (Rd.int .u8)) false x7839)).upd 5 (.lit (.pointer none))).upd 7 (.ro (Rd.slice (Rd.int .u32)) false x11011)).upd 8 (.lit (.int .i64 x11012))).upd 39 (.lit (.bool (!x11031))))) (M' := Mem.nil) [] hnp ⟨rfl, trivial, by decide, rfl, trivial⟩ (LeE.upd rfl rfl (LeE.upd rfl rfl (LeE.upd rfl rfl (LeE.upd rfl rfl (LeE.upd rfl rfl (LeE.upd rfl rfl (LeE.none rfl rfl)))))))) rfl ?_
          refine W.now ?_
          have q0 := (Option.some.inj H)
          subst q0
          exact ⟨rfl, rfl, rfl⟩
    · rintro _ _ _ ⟨rfl, rfl, rfl⟩
      refine W.now ?_
      refine Then.n ?_
      refine WP.cond (t := x11027) rfl (fun hb => ?_) (fun hb => ?_)
      · replace H := cnt hb H
        refine WP.seq ?_
        refine WP.region ?_
        refine WPL.q (q_as (v := .lit (.bool _)) rfl) rfl ?_
        refine WPL.nilW ?_
        refine W.now ?_
        refine Then.n ?_
        refine WP.retW ?_
        refine W.now ?_
        refine Then.r ?_
        have q0 := (Option.some.inj H)
        subst q0
        exact ⟨trivial, _, rfl, [], (.lit (.bool false)), Mem.nil, ⟨rfl, trivial, by decide, rfl, trivial⟩, rfl, rfl, rfl, rfl⟩
      · replace H := cnf hb H
        refine WP.skipW ?_
        refine W.now ?_
        refine Then.n ?_
        refine WP.seq ?_
        refine WP.seq ?_
        refine WP.region ?_
        refine WPL.q (q_mv (v := .lit (.int _ _)) rfl) rfl ?_
        refine WPL.q (q_neq rfl rfl) rfl ?_
        refine WPL.nilW ?_
        refine W.now ?_
        refine Then.n ?_
        refine WP.cond (t := (!decide (x11012 = 0))) rfl (fun hb => ?_) (fun hb => ?_)
        · replace H := cnt hb H
          refine WP.seq ?_
          refine WP.region ?_
          refine WPL.q (q_as (v := .lit (.bool _)) rfl) rfl ?_
          refine WPL.nilW ?_
          refine W.now ?_
          refine Then.n ?_
          refine WP.retW ?_
          refine W.now ?_
          refine Then.r ?_
          have q0 := (Option.some.inj H)
          subst q0
          exact ⟨trivial, _, rfl, [], (.lit (.bool true)), Mem.nil, ⟨rfl, trivial, by decide, rfl, trivial⟩, rfl, rfl, rfl, rfl⟩
        · replace H := cnf hb H
          refine WP.skipW ?_
          refine W.now ?_
          refine Then.n ?_
          refine WP.seq ?_
          refine WP.region ?_
          refine WPL.q (q_mv (v := .ro _ _ _) rfl) rfl ?_
          obtain ⟨x11034, h11032, H⟩ := bnd H
          refine WPL.c (runs_call (s := []) (t := [0]) (N := 1) (bor := []) fn20 rfl (s20 k x7839 x11034 h11032) ⟨rfl, trivial, by decide, rfl, trivial⟩ rfl trivial (.ren rfl rfl .nil) rfl ⟨trivial, rfl⟩ rfl) rfl ?_
          refine WPL.q (q_as (v := .ptr _ _) rfl) rfl ?_
          refine WPL.nilW ?_
          refine W.now ?_
          refine Then.n ?_
          refine WP.seq ?_
          refine WP.region ?_
          refine WPL.q (q_mv (v := .ro _ _ _) rfl) rfl ?_
          refine WPL.q (q_build bu46 rfl) rfl ?_
          refine WPL.d (d_box rfl rfl) rfl ?_
          refine WPL.q (q_as (v := .ptr _ _) rfl) rfl ?_
          refine WPL.nilW ?_
          refine W.now ?_
          refine Then.n ?_
          refine WP.seq ?_
          refine WP.seq ?_
          refine WP.region ?_
          refine WPL.q (q_as (v := .lit (.int _ _)) rfl) rfl ?_
          refine WPL.nilW ?_
          refine W.now ?_
          refine Then.n ?_
          refine WP.block ?_
          refine WP.cv (Cv.weak (E' := ((((((Env.none.upd 0 (.ro (Rd.slice (Rd.int .i64)) false x7838)).upd 5 (.lit (.pointer none))).upd 7 (.ro (Rd.slice (Rd.int .u32)) false x11011)).upd 9 (.ptr 0 0)).upd 10 (.ptr 1 0)).upd 11 (.lit (.int .i64 0)))) (M' := ((Mem.nil.push (.cells 77 [.ro (Rd.slice (Rd.int .u8)) false x11034, .lit (.int .i64 0)])).push (.cells 46 [.ro (Rd.slice (Rd.int .u8)) false x7839, .lit (.int .i64 0)]))) [0, 1] hnp ⟨rfl, ⟨⟨trivial, .inr ⟨rfl, rfl, rfl⟩⟩, .inr ⟨rfl, rfl, rfl⟩⟩, by decide, rfl, trivial⟩ (LeE.upd rfl rfl (LeE.upd rfl rfl (LeE.upd rfl rfl (LeE.upd rfl rfl (LeE.upd rfl rfl (LeE.upd rfl rfl (LeE.none rfl rfl)))))))) ?_
          obtain ⟨y11237, H11235, H⟩ := bnd H
          refine WP.monoW (Q := fun x E M => match (generalizing := false) y11237 with | (Sum.inl x11169) => x = .ret ∧ E = (Env.none.upd 4 (.lit (.bool x11169))) ∧ M = Mem.nil | (Sum.inr _) => x = .exit 0 ∧ E = Env.none ∧ M = Mem.nil) ?_ ?_
          · refine WP.loop (β := Int × Int) (fun n b => f7_l0 k x7838 x7839 x11011 x11034 n b.1 b.2 = some y11237) (fun b => ((((((Env.none.upd 0 (.ro (Rd.slice (Rd.int .i64)) false x7838)).upd 5 (.lit (.pointer none))).upd 7 (.ro (Rd.slice (Rd.int .u32)) false x11011)).upd 9 (.ptr 0 0)).upd 10 (.ptr 1 0)).upd 11 (.lit (.int .i64 b.1)))) (fun b => ((Mem.nil.push (.cells 77 [.ro (Rd.slice (Rd.int .u8)) false x11034, .lit (.int .i64 0)])).push (.cells 46 [.ro (Rd.slice (Rd.int .u8)) false x7839, .lit (.int .i64 b.2)]))) k (0, 0) H11235 rfl rfl ?_
            rintro n ⟨x11101, x11102⟩ H
            obtain _ | n := n
            · exact nf rfl H
            rw [f7_l0.eq_2] at H
            show WP _ _ _ _ ((((((Env.none.upd 0 (.ro (Rd.slice (Rd.int .i64)) false x7838)).upd 5 (.lit (.pointer none))).upd 7 (.ro (Rd.slice (Rd.int .u32)) false x11011)).upd 9 (.ptr 0 0)).upd 10 (.ptr 1 0)).upd 11 (.lit (.int .i64 x11101))) ((Mem.nil.push (.cells 77 [.ro (Rd.slice (Rd.int .u8)) false x11034, .lit (.int .i64 0)])).push (.cells 46 [.ro (Rd.slice (Rd.int .u8)) false x7839, .lit (.int .i64 x11102)])) _
            refine WP.seq ?_
            refine WP.seq ?_
            refine WP.region ?_
            refine WPL.q (q_mv (v := .lit (.int _ _)) rfl) rfl ?_
            refine WPL.q (q_lss rfl rfl) rfl ?_
            refine WPL.nilW ?_
            refine W.now ?_
            refine Then.n ?_
            refine WP.cond (t := (decide (x11101 < 4000))) rfl (fun hb => ?_) (fun hb => ?_)
            · replace H := cnt hb H
              refine WP.skipW ?_
              refine W.now ?_
              refine Then.n ?_
              refine WP.seq ?_
              refine WP.block ?_
              refine WP.seq ?_
              refine WP.region ?_
              refine WPL.q (q_mv (v := .lit _) rfl) rfl ?_
              refine WPL.q (q_mv (v := .ptr _ _) rfl) rfl ?_
              obtain ⟨_, h11202, H⟩ := bnd H
              refine WPL.c (runs_call (s := [0]) (t := [0]) (N := 2) (bor := []) fn21 rfl (s21 k x11034 0 h11202) ⟨rfl, ⟨trivial, .inr ⟨rfl, rfl, rfl⟩⟩, by decide, rfl, trivial⟩ rfl trivial (.ren rfl rfl (.ren rfl rfl .nil)) rfl ⟨trivial, rfl⟩ rfl) rfl ?_
              refine WPL.q (q_mv (v := .tup _) rfl) rfl ?_
              refine WPL.q (q_extract rfl rfl) rfl ?_
              refine WPL.q (q_extract rfl rfl) rfl ?_
              refine WPL.q (q_as (v := .lit (.int _ _)) rfl) rfl ?_
              refine WPL.q (q_as (v := .lit (.int _ _)) rfl) rfl ?_
              refine WPL.nilW ?_
              refine W.now ?_
              refine Then.n ?_
              refine WP.seq ?_
              refine WP.region ?_
              refine WPL.q (q_mv (v := .ro _ _ _) rfl) rfl ?_
              refine WPL.q (q_mv (v := .ro _ _ _) rfl) rfl ?_
              refine WPL.q (q_mv (v := .ptr _ _) rfl) rfl ?_
              obtain ⟨⟨x11205, x11206, x11207⟩, h11203, H⟩ := bnd H
              refine WPL.c (runs_call (s := [1]) (t := [1]) (N := 2) (bor := []) fn22 rfl (s22 k x7838 x11011 x7839 x11102 x11205 x11206 x11207 h11203) ⟨rfl, ⟨trivial, .inr ⟨rfl, rfl, rfl⟩⟩, by decide, rfl, trivial⟩ rfl trivial (.ren rfl rfl (.ren rfl rfl (.ren rfl rfl .nil))) rfl ⟨trivial, rfl⟩ rfl) rfl ?_
              refine WPL.q (q_mv (v := .tup _) rfl) rfl ?_
              refine WPL.q (q_extract rfl rfl) rfl ?_
              refine WPL.q (q_extract rfl rfl) rfl ?_
              refine WPL.q (q_as (v := .lit (.int _ _)) rfl) rfl ?_
              refine WPL.q (q_as (v := .lit (.int _ _)) rfl) rfl ?_
              refine WPL.nilW ?_
              refine W.now ?_
              refine Then.n ?_
              refine WP.seq ?_
              refine WP.seq ?_
              obtain ⟨x11228, H11234, H⟩ := bnd H
              refine WP.monoW (Q := fun x E M => x = .normal ∧ E = ((((((((Env.none.upd 0 (.ro (Rd.slice (Rd.int .i64)) false x7838)).upd 5 (.lit (.pointer none))).upd 7 (.ro (Rd.slice (Rd.int .u32)) false x11011)).upd 9 (.ptr 0 0)).upd 10 (.ptr 1 0)).upd 11 (.lit (.int .i64 x11101))).upd 15 (.lit (.int .i64 x11206))).upd 78 (.lit (.bool x11228))) ∧ M = ((Mem.nil.push (.cells 77 [.ro (Rd.slice (Rd.int .u8)) false x11034, .lit (.int .i64 0)])).push (.cells 46 [.ro (Rd.slice (Rd.int .u8)) false x7839, .lit (.int .i64 x11207)]))) ?_ ?_
              · clear H
                have H := H11234
                clear H11234
                refine WP.region ?_
                refine WPL.q (q_mv (v := .lit (.int _ _)) rfl) rfl ?_
                refine WPL.q (q_mv (v := .lit (.int _ _)) rfl) rfl ?_
                refine WPL.q (q_neq rfl rfl) rfl ?_
                refine WPL.q (q_mv (v := .lit (.bool _)) rfl) rfl ?_
                refine WPL.split (t := 67) (b := (!decide (0 = x11205))) rfl (fun hb11228 => ?_) (fun hb11228 => ?_)
                · replace H := cnt hb11228 H
                  refine WPL.skipg (b' := true) rfl rfl (lb hb11228) rfl rfl ?_
                  refine WPL.skipg (b' := true) rfl rfl (lb hb11228) rfl rfl ?_
                  refine WPL.skipg (b' := true) rfl rfl (lb hb11228) rfl rfl ?_
                  refine WPL.q (q_pickT (v := .lit (.bool _)) (lb hb11228) rfl) rfl ?_
                  refine WPL.q (q_mv (v := .lit (.bool _)) rfl) rfl ?_
                  refine WPL.skipg (b' := true) rfl rfl rfl rfl rfl ?_
                  refine WPL.skipg (b' := true) rfl rfl rfl rfl rfl ?_
                  refine WPL.skipg (b' := true) rfl rfl rfl rfl rfl ?_
                  refine WPL.skipg (b' := true) rfl rfl rfl rfl rfl ?_
                  refine WPL.skipg (b' := true) rfl rfl rfl rfl rfl ?_
                  refine WPL.q (q_pickT (v := .lit (.bool _)) rfl rfl) rfl ?_
                  refine WPL.nilW ?_
                  refine W.cv (Cv.weak (E' := ((((((((Env.none.upd 0 (.ro (Rd.slice (Rd.int .i64)) false x7838)).upd 5 (.lit (.pointer none))).upd 7 (.ro (Rd.slice (Rd.int .u32)) false x11011)).upd 9 (.ptr 0 0)).upd 10 (.ptr 1 0)).upd 11 (.lit (.int .i64 x11101))).upd 15 (.lit (.int .i64 x11206))).upd 78 (.lit (.bool true)))) (M' := ((Mem.nil.push (.cells 77 [.ro (Rd.slice (Rd.int .u8)) false x11034, .lit (.int .i64 0)])).push (.cells 46 [.ro (Rd.slice (Rd.int .u8)) false x7839, .lit (.int .i64 x11207)]))) [0, 1] hnp ⟨rfl, ⟨⟨trivial, .inr ⟨rfl, rfl, rfl⟩⟩, .inr ⟨rfl, rfl, rfl⟩⟩, by decide, rfl, trivial⟩ (LeE.upd rfl rfl (LeE.upd rfl rfl (LeE.upd rfl rfl (LeE.upd rfl rfl (LeE.upd rfl rfl (LeE.upd rfl rfl (LeE.upd rfl rfl (LeE.upd rfl rfl (LeE.none rfl rfl)))))))))) rfl ?_
                  refine W.now ?_
                  have q0 := (Option.some.inj H)
                  subst q0
                  exact ⟨rfl, rfl, rfl⟩
                · replace H := cnf hb11228 H
                  refine WPL.qg rfl rfl (lb hb11228) (q_mv (v := .lit (.int _ _)) rfl) rfl ?_
                  refine WPL.qg rfl rfl (lb hb11228) (q_mv (v := .lit (.int _ _)) rfl) rfl ?_
                  refine WPL.qg rfl rfl (lb hb11228) (q_neq rfl rfl) rfl ?_
                  refine WPL.q (q_pickF (v := .lit (.bool _)) (lb hb11228) rfl) rfl ?_
                  refine WPL.q (q_mv (v := .lit (.bool _)) rfl) rfl ?_
                  refine WPL.split (t := 72) (b := (!decide (2 = x11206))) rfl (fun hb11229 => ?_) (fun hb11229 => ?_)
                  · replace H := cnt hb11229 H
                    refine WPL.skipg (b' := true) rfl rfl (lb hb11229) rfl rfl ?_
                    refine WPL.skipg (b' := true) rfl rfl (lb hb11229) rfl rfl ?_
                    refine WPL.skipg (b' := true) rfl rfl (lb hb11229) rfl rfl ?_
                    refine WPL.skipg (b' := true) rfl rfl (lb hb11229) rfl rfl ?_
                    refine WPL.skipg (b' := true) rfl rfl (lb hb11229) rfl rfl ?_
                    refine WPL.q (q_pickT (v := .lit (.bool _)) (lb hb11229) rfl) rfl ?_
                    refine WPL.nilW ?_
                    refine W.cv (Cv.weak (E' := ((((((((Env.none.upd 0 (.ro (Rd.slice (Rd.int .i64)) false x7838)).upd 5 (.lit (.pointer none))).upd 7 (.ro (Rd.slice (Rd.int .u32)) false x11011)).upd 9 (.ptr 0 0)).upd 10 (.ptr 1 0)).upd 11 (.lit (.int .i64 x11101))).upd 15 (.lit (.int .i64 x11206))).upd 78 (.lit (.bool true)))) (M' := ((Mem.nil.push (.cells 77 [.ro (Rd.slice (Rd.int .u8)) false x11034, .lit (.int .i64 0)])).push (.cells 46 [.ro (Rd.slice (Rd.int .u8)) false x7839, .lit (.int .i64 x11207)]))) [0, 1] hnp ⟨rfl, ⟨⟨trivial, .inr ⟨rfl, rfl, rfl⟩⟩, .inr ⟨rfl, rfl, rfl⟩⟩, by decide, rfl, trivial⟩ (LeE.upd rfl rfl (LeE.upd rfl rfl (LeE.upd rfl rfl (LeE.upd rfl rfl (LeE.upd rfl rfl (LeE.upd rfl rfl (LeE.upd rfl rfl (LeE.upd rfl rfl (LeE.none rfl rfl)))))))))) rfl ?_
                    refine W.now ?_
                    have q0 := (Option.some.inj H)
                    subst q0
                    exact ⟨rfl, rfl, rfl⟩
                  · replace H := cnf hb11229 H
                    refine WPL.qg rfl rfl (lb hb11229) (q_mv (v := .ptr _ _) rfl) rfl ?_
                    obtain ⟨x11232, h11230, H⟩ := bnd H
                    refine WPL.cg rfl rfl (lb hb11229) (runs_call (s := [0]) (t := [0]) (N := 2) (bor := []) fn23 rfl (s23 k x11034 0 x11232 h11230) ⟨rfl, ⟨trivial, .inr ⟨rfl, rfl, rfl⟩⟩, by decide, rfl, trivial⟩ rfl trivial (.ren rfl rfl .nil) rfl ⟨trivial, rfl⟩ rfl) rfl ?_
                    refine WPL.qg rfl rfl (lb hb11229) (q_mv (v := .ptr _ _) rfl) rfl ?_
                    obtain ⟨x11234, h11232, H⟩ := bnd H
                    refine WPL.cg rfl rfl (lb hb11229) (runs_call (s := [1]) (t := [1]) (N := 2) (bor := []) fn24 rfl (s24 k x7839 x11207 x11234 h11232) ⟨rfl, ⟨trivial, .inr ⟨rfl, rfl, rfl⟩⟩, by decide, rfl, trivial⟩ rfl trivial (.ren rfl rfl .nil) rfl ⟨trivial, rfl⟩ rfl) rfl ?_
                    refine WPL.qg rfl rfl (lb hb11229) (q_neq rfl rfl) rfl ?_
                    refine WPL.q (q_pickF (v := .lit (.bool _)) (lb hb11229) rfl) rfl ?_
                    refine WPL.nilW ?_
                    refine W.cv (Cv.weak (E' := ((((((((Env.none.upd 0 (.ro (Rd.slice (Rd.int .i64)) false x7838)).upd 5 (.lit (.pointer none))).upd 7 (.ro (Rd.slice (Rd.int .u32)) false x11011)).upd 9 (.ptr 0 0)).upd 10 (.ptr 1 0)).upd 11 (.lit (.int .i64 x11101))).upd 15 (.lit (.int .i64 x11206))).upd 78 (.lit (.bool (!decide (x11232 = x11234)))))) (M' := ((Mem.nil.push (.cells 77 [.ro (Rd.slice (Rd.int .u8)) false x11034, .lit (.int .i64 0)])).push (.cells 46 [.ro (Rd.slice (Rd.int .u8)) false x7839, .lit (.int .i64 x11207)]))) [0, 1] hnp ⟨rfl, ⟨⟨trivial, .inr ⟨rfl, rfl, rfl⟩⟩, .inr ⟨rfl, rfl, rfl⟩⟩, by decide, rfl, trivial⟩ (LeE.upd rfl rfl (LeE.upd rfl rfl (LeE.upd rfl rfl (LeE.upd rfl rfl (LeE.upd rfl rfl (LeE.upd rfl rfl (LeE.upd rfl rfl (LeE.upd rfl rfl (LeE.none rfl rfl)))))))))) rfl ?_
                    refine W.now ?_
                    have q0 := (Option.some.inj H)
                    subst q0
                    exact ⟨rfl, rfl, rfl⟩
              · rintro _ _ _ ⟨rfl, rfl, rfl⟩
                refine W.now ?_
                refine Then.n ?_
                refine WP.cond (t := x11228) rfl (fun hb => ?_) (fun hb => ?_)
                · replace H := cnt hb H
                  refine WP.seq ?_
                  refine WP.region ?_
                  refine WPL.q (q_as (v := .lit (.bool _)) rfl) rfl ?_
                  refine WPL.nilW ?_
                  refine W.now ?_
                  refine Then.n ?_
                  refine WP.retW ?_
                  refine W.cv (Cv.weak (E' := (Env.none.upd 4 (.lit (.bool false)))) (M' := Mem.nil) [] hnp ⟨rfl, trivial, by decide, rfl, trivial⟩ (LeE.upd rfl rfl (LeE.none rfl rfl))) rfl ?_
                  refine W.now ?_
                  refine Then.r ?_
                  refine InBlock.r ?_
                  refine Then.r ?_
                  refine Then.r ?_
                  have q0 := Option.some.inj H
                  subst q0
                  exact ⟨rfl, rfl, rfl⟩
                · replace H := cnf hb H
                  refine WP.skipW ?_
                  refine W.now ?_
                  refine Then.n ?_
                  refine WP.seq ?_
                  refine WP.region ?_
                  refine WPL.q (q_mv (v := .lit (.int _ _)) rfl) rfl ?_
                  refine WPL.q (q_neq rfl rfl) rfl ?_
                  refine WPL.nilW ?_
                  refine W.now ?_
                  refine Then.n ?_
                  refine WP.cond (t := (!decide (x11206 = 0))) rfl (fun hb => ?_) (fun hb => ?_)
                  · replace H := cnt hb H
                    refine WP.seq ?_
                    refine WP.region ?_
                    refine WPL.q (q_as (v := .lit (.bool _)) rfl) rfl ?_
                    refine WPL.nilW ?_
                    refine W.now ?_
                    refine Then.n ?_
                    refine WP.retW ?_
                    refine W.cv (Cv.weak (E' := (Env.none.upd 4 (.lit (.bool true)))) (M' := Mem.nil) [] hnp ⟨rfl, trivial, by decide, rfl, trivial⟩ (LeE.upd rfl rfl (LeE.none rfl rfl))) rfl ?_
                    refine W.now ?_
                    refine InBlock.r ?_
                    refine Then.r ?_
                    refine Then.r ?_
                    have q0 := Option.some.inj H
                    subst q0
                    exact ⟨rfl, rfl, rfl⟩
                  · replace H := cnf hb H
                    refine WP.skipW ?_
                    refine W.now ?_
                    refine InBlock.n ?_
                    refine Then.n ?_
                    refine WP.region ?_
                    refine WPL.q (q_mv (v := .lit (.int _ _)) rfl) rfl ?_
                    refine WPL.q (q_add rfl rfl) rfl ?_
                    refine WPL.q (q_as (v := .lit (.int _ _)) rfl) rfl ?_
                    refine WPL.nilW ?_
                    refine W.cv (Cv.weak (E' := ((((((Env.none.upd 0 (.ro (Rd.slice (Rd.int .i64)) false x7838)).upd 5 (.lit (.pointer none))).upd 7 (.ro (Rd.slice (Rd.int .u32)) false x11011)).upd 9 (.ptr 0 0)).upd 10 (.ptr 1 0)).upd 11 (.lit (.int .i64 (IntKind.wrap .i64 (x11101 + 1)))))) (M' := ((Mem.nil.push (.cells 77 [.ro (Rd.slice (Rd.int .u8)) false x11034, .lit (.int .i64 0)])).push (.cells 46 [.ro (Rd.slice (Rd.int .u8)) false x7839, .lit (.int .i64 x11207)]))) [0, 1] hnp ⟨rfl, ⟨⟨trivial, .inr ⟨rfl, rfl, rfl⟩⟩, .inr ⟨rfl, rfl, rfl⟩⟩, by decide, rfl, trivial⟩ (LeE.upd rfl rfl (LeE.upd rfl rfl (LeE.upd rfl rfl (LeE.upd rfl rfl (LeE.upd rfl rfl (LeE.upd rfl rfl (LeE.none rfl rfl)))))))) rfl ?_
                    refine W.now ?_
                    exact Then.n ⟨n, ((IntKind.wrap .i64 (x11101 + 1)), x11207), Nat.lt_succ_self n, H, rfl, rfl⟩
            · replace H := cnf hb H
              refine WP.exitW ?_
              refine W.cv (Cv.weak (E' := Env.none) (M' := Mem.nil) [] hnp ⟨rfl, trivial, by decide, rfl, trivial⟩ (LeE.none rfl rfl)) rfl ?_
              refine W.now ?_
              refine Then.x ?_
              refine Then.x ?_
              have q0 := Option.some.inj H
              subst q0
              exact ⟨rfl, rfl, rfl⟩
          · rcases y11237 with x11169 | _
            · rintro _ _ _ ⟨rfl, rfl, rfl⟩
              refine W.now ?_
              refine InBlock.r ?_
              refine Then.r ?_
              have q0 := (Option.some.inj H)
              subst q0
              exact ⟨trivial, _, rfl, [], (.lit (.bool x11169)), Mem.nil, ⟨rfl, trivial, by decide, rfl, trivial⟩, rfl, rfl, rfl, rfl⟩
            · rintro _ _ _ ⟨rfl, rfl, rfl⟩
              refine W.now ?_
              refine InBlock.x0 ?_
              refine Then.n ?_
              refine WP.seq ?_
              refine WP.region ?_
              refine WPL.q (q_as (v := .lit (.bool _)) rfl) rfl ?_
              refine WPL.nilW ?_
              refine W.now ?_
              refine Then.n ?_
              refine WP.retW ?_
              refine W.now ?_
              have q0 := (Option.some.inj H)
              subst q0
              exact ⟨trivial, _, rfl, [], (.lit (.bool true)), Mem.nil, ⟨rfl, trivial, by decide, rfl, trivial⟩, rfl, rfl, rfl, rfl⟩
  · refine WPL.c (runs_call (s := []) (t := [0, 1]) (N := 2) (bor := []) fn19 rfl (s19b k x7838 (Sum.inr (x11007, x11008)) h11004) ⟨rfl, trivial, by decide, rfl, trivial⟩ rfl trivial (.ren rfl rfl .nil) rfl ⟨⟨trivial, rfl⟩, rfl⟩ rfl) rfl ?_
    refine WPL.q (q_mv (v := .tup _) rfl) rfl ?_
    refine WPL.q (q_extract rfl rfl) rfl ?_
    refine WPL.q (q_extract rfl rfl) rfl ?_
    refine WPL.q (q_as (v := .ptr _ _) rfl) rfl ?_
    refine WPL.q (q_as (v := .lit (.int _ _)) rfl) rfl ?_
    refine WPL.nilW ?_
    refine W.now ?_
    refine Then.n ?_
    refine WP.seq ?_
    refine WP.region ?_
    refine WPL.q (q_mv (v := .ro _ _ _) rfl) rfl ?_
    obtain ⟨⟨x11239, x11240⟩, h11237, H⟩ := bnd H
    refine WPL.c (runs_call (s := []) (t := []) (N := 2) (bor := []) fn15 rfl (s15 k x7838 x11239 x11240 h11237) ⟨rfl, trivial, by decide, rfl, trivial⟩ rfl trivial (.ren rfl rfl .nil) rfl trivial rfl) rfl ?_
    refine WPL.q (q_mv (v := .tup _) rfl) rfl ?_
    refine WPL.q (q_extract rfl rfl) rfl ?_
    refine WPL.q (q_extract rfl rfl) rfl ?_
    refine WPL.q (q_as (v := .ro _ _ _) rfl) rfl ?_
    refine WPL.q (q_as (v := .lit (.int _ _)) rfl) rfl ?_
    refine WPL.nilW ?_
    refine W.now ?_
    refine Then.n ?_
    refine WP.seq ?_
    refine WP.seq ?_
    obtain ⟨x11255, H11259, H⟩ := bnd H
    refine WP.monoW (Q := fun x E M => x = .normal ∧ E = ((((((Env.none.upd 0 (.ro (Rd.slice (Rd.int .i64)) false x7838)).upd 1 (.ro (Rd.slice (Rd.int .u8)) false x7839)).upd 5 (.ptr 0 0)).upd 7 (.ro (Rd.slice (Rd.int .u32)) false x11239)).upd 8 (.lit (.int .i64 x11240))).upd 39 (.lit (.bool x11255))) ∧ M = ((Mem.nil.push (.cells 74 [.lit (.int .i64 (List.getD x11007 0 (0 : Int))), .lit (.int .i64 (List.getD x11007 1 (0 : Int))), .lit (.int .i64 (List.getD x11007 2 (0 : Int))), .lit (.int .i64 (List.getD x11007 3 (0 : Int))), .lit (.int .i64 (List.getD x11007 4 (0 : Int))), .lit (.int .i64 (List.getD x11007 5 (0 : Int))), .lit (.int .i64 (List.getD x11007 6 (0 : Int))), .lit (.int .i64 (List.getD x11007 7 (0 : Int))), .lit (.int .i64 (List.getD x11007 8 (0 : Int))), .lit (.int .i64 (List.getD x11007 9 (0 : Int))), .lit (.int .i64 (List.getD x11007 10 (0 : Int))), .lit (.int .i64 (List.getD x11007 11 (0 : Int))), .lit (.int .i64 (List.getD x11007 12 (0 : Int))), .lit (.int .i64 (List.getD x11007 13 (0 : Int))), .lit (.int .i64 (List.getD x11007 14 (0 : Int))), .lit (.int .i64 (List.getD x11007 15 (0 : Int))), .whole 1])).push (.row 3 (Rd.int .i64) x11008))) ?_ ?_
    · clear H
      have H := H11259
      clear H11259
      refine WP.region ?_
      refine WPL.q (q_mv (v := .lit (.int _ _)) rfl) rfl ?_
      refine WPL.q (q_mv (v := .lit (.int _ _)) rfl) rfl ?_
      refine WPL.q (q_neq rfl rfl) rfl ?_
      refine WPL.q (q_mv (v := .lit (.bool _)) rfl) rfl ?_
      refine WPL.split (t := 29) (b := (!decide (0 = x11240))) rfl (fun hb11255 => ?_) (fun hb11255 => ?_)
      · replace H := cnt hb11255 H
        refine WPL.skipg (b' := true) rfl rfl (lb hb11255) rfl rfl ?_
        refine WPL.skipg (b' := true) rfl rfl (lb hb11255) rfl rfl ?_
        refine WPL.skipg (b' := true) rfl rfl (lb hb11255) rfl rfl ?_
        refine WPL.skipg (b' := true) rfl rfl (lb hb11255) rfl rfl ?_
        refine WPL.skipg (b' := true) rfl rfl (lb hb11255) rfl rfl ?_
        refine WPL.q (q_pickT (v := .lit (.bool _)) (lb hb11255) rfl) rfl ?_
        refine WPL.q (q_mv (v := .lit (.bool _)) rfl) rfl ?_
        refine WPL.skipg (b' := true) rfl rfl rfl rfl rfl ?_
        refine WPL.skipg (b' := true) rfl rfl rfl rfl rfl ?_
        refine WPL.q (q_pickT (v := .lit (.bool _)) rfl rfl) rfl ?_
        refine WPL.nilW ?_
        refine W.cv (Cv.weak (E' := ((((((Env.none.upd 0 (.ro (Rd.slice (Rd.int .i64)) false x7838)).upd 1 (.ro (Rd.slice (Rd.int .u8)) false x7839)).upd 5 (.ptr 0 0)).upd 7 (.ro (Rd.slice (Rd.int .u32)) false x11239)).upd 8 (.lit (.int .i64 x11240))).upd 39 (.lit (.bool true)))) (M' := ((Mem.nil.push (.cells 74 [.lit (.int .i64 (List.getD x11007 0 (0 : Int))), .lit (.int .i64 (List.getD x11007 1 (0 : Int))), .lit (.int .i64 (List.getD x11007 2 (0 : Int))), .lit (.int .i64 (List.getD x11007 3 (0 : Int))), .lit (.int .i64 (List.getD x11007 4 (0 : Int))), .lit (.int .i64 (List.getD x11007 5 (0 : Int))), .lit (.int .i64 (List.getD x11007 6 (0 : Int))), .lit (.int .i64 (List.getD x11007 7 (0 : Int))), .lit (.int .i64 (List.getD x11007 8 (0 : Int))), .lit (.int .i64 (List.getD x11007 9 (0 : Int))), .lit (.int .i64 (List.getD x11007 10 (0 : Int))), .lit (.int .i64 (List.getD x11007 11 (0 : Int))), .lit (.int .i64 (List.getD x11007 12 (0 : Int))), .lit (.int .i64 (List.getD x11007 13 (0 : Int))), .lit (.int .i64 (List.getD x11007 14 (0 : Int))), .lit (.int .i64 (List.getD x11007 15 (0 : Int))), .whole 1])).push (.row 3 (Rd.int .i64) x11008))) [0, 1] hnp ⟨rfl, ⟨⟨trivial, .inr ⟨rfl, rfl, rfl⟩⟩, .inr ⟨rfl, rfl, rfl⟩⟩, by decide, rfl, trivial⟩ (LeE.upd rfl rfl (LeE.upd rfl rfl (LeE.upd rfl rfl (LeE.upd rfl rfl (LeE.upd rfl rfl (LeE.upd rfl rfl (LeE.none rfl rfl)))))))) rfl ?_
        refine W.now ?_
        have q0 := (Option.some.inj H)
        subst q0
        exact ⟨rfl, rfl, rfl⟩
      · replace H := cnf hb11255 H
        refine WPL.qg rfl rfl (lb hb11255) (q_mv (v := .ptr _ _) rfl) rfl ?_
        refine WPL.qg rfl rfl (lb hb11255) (q_eqlp Try.underlying39 rfl) rfl ?_
        refine WPL.qg rfl rfl (lb hb11255) (q_mv (v := .lit (.int _ _)) rfl) rfl ?_
        refine WPL.qg rfl rfl (lb hb11255) (q_neq rfl rfl) rfl ?_
        refine WPL.qg rfl rfl (lb hb11255) (q_neqb Try.underlying4 rfl rfl) rfl ?_
        refine WPL.q (q_pickF (v := .lit (.bool _)) (lb hb11255) rfl) rfl ?_
        refine WPL.q (q_mv (v := .lit (.bool _)) rfl) rfl ?_
        refine WPL.split (t := 36) (b := (!(false == (!decide (x11240 = 0))))) rfl (fun hb11256 => ?_) (fun hb11256 => ?_)
        · replace H := cnt hb11256 H
          refine WPL.skipg (b' := true) rfl rfl (lb hb11256) rfl rfl ?_
          refine WPL.skipg (b' := true) rfl rfl (lb hb11256) rfl rfl ?_
          refine WPL.q (q_pickT (v := .lit (.bool _)) (lb hb11256) rfl) rfl ?_
          refine WPL.nilW ?_
          refine W.cv (Cv.weak (E' := ((((((Env.none.upd 0 (.ro (Rd.slice (Rd.int .i64)) false x7838)).upd 1 (.ro (Rd.slice (Rd.int .u8)) false x7839)).upd 5 (.ptr 0 0)).upd 7 (.ro (Rd.slice (Rd.int .u32)) false x11239)).upd 8 (.lit (.int .i64 x11240))).upd 39 (.lit (.bool true)))) (M' := ((Mem.nil.push (.cells 74 [.lit (.int .i64 (List.getD x11007 0 (0 : Int))), .lit (.int .i64 (List.getD x11007 1 (0 : Int))), .lit (.int .i64 (List.getD x11007 2 (0 : Int))), .lit (.int .i64 (List.getD x11007 3 (0 : Int))), .lit (.int .i64 (List.getD x11007 4 (0 : Int))), .lit (.int .i64 (List.getD x11007 5 (0 : Int))), .lit (.int .i64 (List.getD x11007 6 (0 : Int))), .lit (.int .i64 (List.getD x11007 7 (0 : Int))), .lit (.int .i64 (List.getD x11007 8 (0 : Int))), .lit (.int .i64 (List.getD x11007 9 (0 : Int))), .lit (.int .i64 (List.getD x11007 10 (0 : Int))), .lit (.int .i64 (List.getD x11007 11 (0 : Int))), .lit (.int .i64 (List.getD x11007 12 (0 : Int))), .lit (.int .i64 (List.getD x11007 13 (0 : Int))), .lit (.int .i64 (List.getD x11007 14 (0 : Int))), .lit (.int .i64 (List.getD x11007 15 (0 : Int))), .whole 1])).push (.row 3 (Rd.int .i64) x11008))) [0, 1] hnp ⟨rfl, ⟨⟨trivial, .inr ⟨rfl, rfl, rfl⟩⟩, .inr ⟨rfl, rfl, rfl⟩⟩, by decide, rfl, trivial⟩ (LeE.upd rfl rfl (LeE.upd rfl rfl (LeE.upd rfl rfl (LeE.upd rfl rfl (LeE.upd rfl rfl (LeE.upd rfl rfl (LeE.none rfl rfl)))))))) rfl ?_
          refine W.now ?_
          have q0 := (Option.some.inj H)
          subst q0
          exact ⟨rfl, rfl, rfl⟩
        · replace H := cnf hb11256 H
          obtain ⟨x11259, h11257, H⟩ := bnd H
          refine WPL.cg rfl rfl (lb hb11256) (runs_call (s := []) (t := []) (N := 2) (bor := []) fn10 rfl (s10 k x11259 h11257) ⟨rfl, trivial, by decide, rfl, trivial⟩ rfl trivial .nil rfl trivial rfl) rfl ?_
          refine WPL.qg rfl rfl (lb hb11256) (q_not rfl) rfl ?_
          refine WPL.q (q_pickF (v := .lit (.bool _)) (lb hb11256) rfl) rfl ?_
          refine WPL.nilW ?_
          refine W.cv (Cv.weak (E' := ((((((Env.none.upd 0 (.ro (Rd.slice (Rd.int .i64)) false x7838)).upd 1 (.ro (Rd.slice (Rd.int .u8)) false x7839)).upd 5 (.ptr 0 0)).upd 7 (.ro (Rd.slice (Rd.int .u32)) false x11239)).upd 8 (.lit (.int .i64 x11240))).upd 39 (.lit (.bool (!x11259))))) (M' := ((Mem.nil.push (.cells 74 [.lit (.int .i64 (List.getD x11007 0 (0 : Int))), .lit (.int .i64 (List.getD x11007 1 (0 : Int))), .lit (.int .i64 (List.getD x11007 2 (0 : Int))), .lit (.int .i64 (List.getD x11007 3 (0 : Int))), .lit (.int .i64 (List.getD x11007 4 (0 : Int))), .lit (.int .i64 (List.getD x11007 5 (0 : Int))), .lit (.int .i64 (List.getD x11007 6 (0 : Int))), .lit (.int .i64 (List.getD x11007 7 (0 : Int))), .lit (.int .i64 (List.getD x11007 8 (0 : Int))), .lit (.int .i64 (List.getD x11007 9 (0 : Int))), .lit (.int .i64 (List.getD x11007 10 (0 : Int))), .lit (.int .i64 (List.getD x11007 11 (0 : Int))), .lit (.int .i64 (List.getD x11007 12 (0 : Int))), .lit (.int .i64 (List.getD x11007 13 (0 : Int))), .lit (.int .i64 (List.getD x11007 14 (0 : Int))), .lit (.int .i64 (List.getD x11007 15 (0 : Int))), .whole 1])).push (.row 3 (Rd.int .i64) x11008))) [0, 1] hnp ⟨rfl, ⟨⟨trivial, .inr ⟨rfl, rfl, rfl⟩⟩, .inr ⟨rfl, rfl, rfl⟩⟩, by decide, rfl, trivial⟩ (LeE.upd rfl rfl (LeE.upd rfl rfl (LeE.upd rfl rfl (LeE.upd rfl rfl (LeE.upd rfl rfl (LeE.upd rfl rfl (LeE.none rfl rfl)))))))) rfl ?_
          refine W.now ?_
          have q0 := (Option.some.inj H)
          subst q0
          exact ⟨rfl, rfl, rfl⟩
    · rintro _ _ _ ⟨rfl, rfl, rfl⟩
      refine W.now ?_
      refine Then.n ?_
      refine WP.cond (t := x11255) rfl (fun hb => ?_) (fun hb => ?_)
      · replace H := cnt hb H
        refine WP.seq ?_
        refine WP.region ?_
        refine WPL.q (q_as (v := .lit (.bool _)) rfl) rfl ?_
        refine WPL.nilW ?_
        refine W.now ?_
        refine Then.n ?_
        refine WP.retW ?_
        refine W.now ?_
        refine Then.r ?_
        have q0 := (Option.some.inj H)
        subst q0
        exact ⟨trivial, _, rfl, [], (.lit (.bool false)), Mem.nil, ⟨rfl, trivial, by decide, rfl, trivial⟩, rfl, rfl, rfl, rfl⟩
      · replace H := cnf hb H
        refine WP.skipW ?_
        refine W.now ?_
        refine Then.n ?_
        refine WP.seq ?_
        refine WP.seq ?_
        refine WP.region ?_
        refine WPL.q (q_mv (v := .lit (.int _ _)) rfl) rfl ?_
        refine WPL.q (q_neq rfl rfl) rfl ?_
        refine WPL.nilW ?_
        refine W.now ?_
        refine Then.n ?_
        refine WP.cond (t := (!decide (x11240 = 0))) rfl (fun hb => ?_) (fun hb => ?_)
        · replace H := cnt hb H
          refine WP.seq ?_
          refine WP.region ?_
          refine WPL.q (q_as (v := .lit (.bool _)) rfl) rfl ?_
          refine WPL.nilW ?_
          refine W.now ?_
          refine Then.n ?_
          refine WP.retW ?_
          refine W.now ?_
          refine Then.r ?_
          have q0 := (Option.some.inj H)
          subst q0
          exact ⟨trivial, _, rfl, [], (.lit (.bool true)), Mem.nil, ⟨rfl, trivial, by decide, rfl, trivial⟩, rfl, rfl, rfl, rfl⟩
        · replace H := cnf hb H
          refine WP.skipW ?_
          refine W.now ?_
          refine Then.n ?_
          refine WP.seq ?_
          refine WP.region ?_
          refine WPL.q (q_mv (v := .ro _ _ _) rfl) rfl ?_
          obtain ⟨x11262, h11260, H⟩ := bnd H
          refine WPL.c (runs_call (s := []) (t := [2]) (N := 3) (bor := []) fn20 rfl (s20 k x7839 x11262 h11260) ⟨rfl, trivial, by decide, rfl, trivial⟩ rfl trivial (.ren rfl rfl .nil) rfl ⟨trivial, rfl⟩ rfl) rfl ?_
          refine WPL.q (q_as (v := .ptr _ _) rfl) rfl ?_
          refine WPL.nilW ?_
          refine W.now ?_
          refine Then.n ?_
          refine WP.seq ?_
          refine WP.region ?_
          refine WPL.q (q_mv (v := .ro _ _ _) rfl) rfl ?_
          refine WPL.q (q_build bu46 rfl) rfl ?_
          refine WPL.d (d_box rfl rfl) rfl ?_
          refine WPL.q (q_as (v := .ptr _ _) rfl) rfl ?_
          refine WPL.nilW ?_
          refine W.now ?_
          refine Then.n ?_
          refine WP.seq ?_
          refine WP.seq ?_
          refine WP.region ?_
          refine WPL.q (q_as (v := .lit (.int _ _)) rfl) rfl ?_
          refine WPL.nilW ?_
          refine W.now ?_
          refine Then.n ?_
          refine WP.block ?_
          refine WP.cv (Cv.weak (E' := ((((((Env.none.upd 0 (.ro (Rd.slice (Rd.int .i64)) false x7838)).upd 5 (.ptr 0 0)).upd 7 (.ro (Rd.slice (Rd.int .u32)) false x11239)).upd 9 (.ptr 2 0)).upd 10 (.ptr 3 0)).upd 11 (.lit (.int .i64 0)))) (M' := ((((Mem.nil.push (.cells 74 [.lit (.int .i64 (List.getD x11007 0 (0 : Int))), .lit (.int .i64 (List.getD x11007 1 (0 : Int))), .lit (.int .i64 (List.getD x11007 2 (0 : Int))), .lit (.int .i64 (List.getD x11007 3 (0 : Int))), .lit (.int .i64 (List.getD x11007 4 (0 : Int))), .lit (.int .i64 (List.getD x11007 5 (0 : Int))), .lit (.int .i64 (List.getD x11007 6 (0 : Int))), .lit (.int .i64 (List.getD x11007 7 (0 : Int))), .lit (.int .i64 (List.getD x11007 8 (0 : Int))), .lit (.int .i64 (List.getD x11007 9 (0 : Int))), .lit (.int .i64 (List.getD x11007 10 (0 : Int))), .lit (.int .i64 (List.getD x11007 11 (0 : Int))), .lit (.int .i64 (List.getD x11007 12 (0 : Int))), .lit (.int .i64 (List.getD x11007 13 (0 : Int))), .lit (.int .i64 (List.getD x11007 14 (0 : Int))), .lit (.int .i64 (List.getD x11007 15 (0 : Int))), .whole 1])).push (.row 3 (Rd.int .i64) x11008)).push (.cells 77 [.ro (Rd.slice (Rd.int .u8)) false x11262, .lit (.int .i64 0)])).push (.cells 46 [.ro (Rd.slice (Rd.int .u8)) false x7839, .lit (.int .i64 0)]))) [0, 1, 2, 3] hnp ⟨rfl, ⟨⟨⟨⟨trivial, .inr ⟨rfl, rfl, rfl⟩⟩, .inr ⟨rfl, rfl, rfl⟩⟩, .inr ⟨rfl, rfl, rfl⟩⟩, .inr ⟨rfl, rfl, rfl⟩⟩, by decide, rfl, trivial⟩ (LeE.upd rfl rfl (LeE.upd rfl rfl (LeE.upd rfl rfl (LeE.upd rfl rfl (LeE.upd rfl rfl (LeE.upd rfl rfl (LeE.none rfl rfl)))))))) ?_
          obtain ⟨y11491, H11489, H⟩ := bnd H
          refine WP.monoW (Q := fun x E M => match (generalizing := false) y11491 with | (Sum.inl x11415) => x = .ret ∧ E = (Env.none.upd 4 (.lit (.bool x11415))) ∧ M = Mem.nil | (Sum.inr _) => x = .exit 0 ∧ E = Env.none ∧ M = Mem.nil) ?_ ?_
          · refine WP.loop (β := Int × (List Int) × Int × Int) (fun n b => f7_l1 k x7838 x7839 x11007 x11008 x11239 n b.1 b.2.1 b.2.2.1 b.2.2.2 = some y11491) (fun b => ((((((Env.none.upd 0 (.ro (Rd.slice (Rd.int .i64)) false x7838)).upd 5 (.ptr 0 0)).upd 7 (.ro (Rd.slice (Rd.int .u32)) false x11239)).upd 9 (.ptr 2 0)).upd 10 (.ptr 3 0)).upd 11 (.lit (.int .i64 b.1)))) (fun b => ((((Mem.nil.push (.cells 74 [.lit (.int .i64 (List.getD x11007 0 (0 : Int))), .lit (.int .i64 (List.getD x11007 1 (0 : Int))), .lit (.int .i64 (List.getD x11007 2 (0 : Int))), .lit (.int .i64 (List.getD x11007 3 (0 : Int))), .lit (.int .i64 (List.getD x11007 4 (0 : Int))), .lit (.int .i64 (List.getD x11007 5 (0 : Int))), .lit (.int .i64 (List.getD x11007 6 (0 : Int))), .lit (.int .i64 (List.getD x11007 7 (0 : Int))), .lit (.int .i64 (List.getD x11007 8 (0 : Int))), .lit (.int .i64 (List.getD x11007 9 (0 : Int))), .lit (.int .i64 (List.getD x11007 10 (0 : Int))), .lit (.int .i64 (List.getD x11007 11 (0 : Int))), .lit (.int .i64 (List.getD x11007 12 (0 : Int))), .lit (.int .i64 (List.getD x11007 13 (0 : Int))), .lit (.int .i64 (List.getD x11007 14 (0 : Int))), .lit (.int .i64 (List.getD x11007 15 (0 : Int))), .whole 1])).push (.row 3 (Rd.int .i64) x11008)).push (.cells 77 [.ro (Rd.slice (Rd.int .u8)) false b.2.1, .lit (.int .i64 b.2.2.1)])).push (.cells 46 [.ro (Rd.slice (Rd.int .u8)) false x7839, .lit (.int .i64 b.2.2.2)]))) k (0, x11262, 0, 0) H11489 rfl rfl ?_
            rintro n ⟨x11337, x11338, x11339, x11340⟩ H
            obtain _ | n := n
            · exact nf rfl H
            rw [f7_l1.eq_2] at H
            show WP _ _ _ _ ((((((Env.none.upd 0 (.ro (Rd.slice (Rd.int .i64)) false x7838)).upd 5 (.ptr 0 0)).upd 7 (.ro (Rd.slice (Rd.int .u32)) false x11239)).upd 9 (.ptr 2 0)).upd 10 (.ptr 3 0)).upd 11 (.lit (.int .i64 x11337))) ((((Mem.nil.push (.cells 74 [.lit (.int .i64 (List.getD x11007 0 (0 : Int))), .lit (.int .i64 (List.getD x11007 1 (0 : Int))), .lit (.int .i64 (List.getD x11007 2 (0 : Int))), .lit (.int .i64 (List.getD x11007 3 (0 : Int))), .lit (.int .i64 (List.getD x11007 4 (0 : Int))), .lit (.int .i64 (List.getD x11007 5 (0 : Int))), .lit (.int .i64 (List.getD x11007 6 (0 : Int))), .lit (.int .i64 (List.getD x11007 7 (0 : Int))), .lit (.int .i64 (List.getD x11007 8 (0 : Int))), .lit (.int .i64 (List.getD x11007 9 (0 : Int))), .lit (.int .i64 (List.getD x11007 10 (0 : Int))), .lit (.int .i64 (List.getD x11007 11 (0 : Int))), .lit (.int .i64 (List.getD x11007 12 (0 : Int))), .lit (.int .i64 (List.getD x11007 13 (0 : Int))), .lit (.int .i64 (List.getD x11007 14 (0 : Int))), .lit (.int .i64 (List.getD x11007 15 (0 : Int))), .whole 1])).push (.row 3 (Rd.int .i64) x11008)).push (.cells 77 [.ro (Rd.slice (Rd.int .u8)) false x11338, .lit (.int .i64 x11339)])).push (.cells 46 [.ro (Rd.slice (Rd.int .u8)) false x7839, .lit (.int .i64 x11340)])) _
            refine WP.seq ?_
            refine WP.seq ?_
            refine WP.region ?_
            refine WPL.q (q_mv (v := .lit (.int _ _)) rfl) rfl ?_
            refine WPL.q (q_lss rfl rfl) rfl ?_
            refine WPL.nilW ?_
            refine W.now ?_
            refine Then.n ?_
            refine WP.cond (t := (decide (x11337 < 4000))) rfl (fun hb => ?_) (fun hb => ?_)
            · replace H := cnt hb H
              refine WP.skipW ?_
              refine W.now ?_
              refine Then.n ?_
              refine WP.seq ?_
              refine WP.block ?_
              refine WP.seq ?_
              refine WP.region ?_
              refine WPL.q (q_mv (v := .ptr _ _) rfl) rfl ?_
              refine WPL.q (q_mv (v := .ptr _ _) rfl) rfl ?_
              obtain ⟨⟨x11454, x11455, x11456, x11457⟩, h11452, H⟩ := bnd H
              refine WPL.c (runs_call (s := [0, 2, 1]) (t := [0, 2, 4]) (N := 5) (bor := []) fn21 rfl (s21d k x11007 x11338 x11339 x11008 x11454 x11455 x11456 x11457 h11452) ⟨rfl, ⟨⟨⟨trivial, .inr ⟨rfl, rfl, rfl⟩⟩, .inr ⟨rfl, rfl, rfl⟩⟩, .inr ⟨rfl, rfl, rfl⟩⟩, by decide, rfl, trivial⟩ rfl trivial (.ren rfl rfl (.ren rfl rfl .nil)) rfl ⟨⟨⟨trivial, rfl⟩, rfl⟩, rfl⟩ rfl) rfl ?_
              refine WPL.q (q_mv (v := .tup _) rfl) rfl ?_
              refine WPL.q (q_extract rfl rfl) rfl ?_
              refine WPL.q (q_extract rfl rfl) rfl ?_
              refine WPL.q (q_as (v := .lit (.int _ _)) rfl) rfl ?_
              refine WPL.q (q_as (v := .lit (.int _ _)) rfl) rfl ?_
              refine WPL.nilW ?_
              refine W.now ?_
              refine Then.n ?_
              refine WP.seq ?_
              refine WP.region ?_
              refine WPL.q (q_mv (v := .ro _ _ _) rfl) rfl ?_
              refine WPL.q (q_mv (v := .ro _ _ _) rfl) rfl ?_
              refine WPL.q (q_mv (v := .ptr _ _) rfl) rfl ?_
              obtain ⟨⟨x11459, x11460, x11461⟩, h11457, H⟩ := bnd H
              refine WPL.c (runs_call (s := [3]) (t := [3]) (N := 5) (bor := []) fn22 rfl (s22 k x7838 x11239 x7839 x11340 x11459 x11460 x11461 h11457) ⟨rfl, ⟨trivial, .inr ⟨rfl, rfl, rfl⟩⟩, by decide, rfl, trivial⟩ rfl trivial (.ren rfl rfl (.ren rfl rfl (.ren rfl rfl .nil))) rfl ⟨trivial, rfl⟩ rfl) rfl ?_
              refine WPL.q (q_mv (v := .tup _) rfl) rfl ?_
              refine WPL.q (q_extract rfl rfl) rfl ?_
              refine WPL.q (q_extract rfl rfl) rfl ?_
              refine WPL.q (q_as (v := .lit (.int _ _)) rfl) rfl ?_
              refine WPL.q (q_as (v := .lit (.int _ _)) rfl) rfl ?_
              refine WPL.nilW ?_
              refine W.now ?_
              refine Then.n ?_
              refine WP.seq ?_
              refine WP.seq ?_
              obtain ⟨x11482, H11488, H⟩ := bnd H
              refine WP.monoW (Q := fun x E M => x = .normal ∧ E = ((((((((Env.none.upd 0 (.ro (Rd.slice (Rd.int .i64)) false x7838)).upd 5 (.ptr 0 0)).upd 7 (.ro (Rd.slice (Rd.int .u32)) false x11239)).upd 9 (.ptr 2 0)).upd 10 (.ptr 3 0)).upd 11 (.lit (.int .i64 x11337))).upd 15 (.lit (.int .i64 x11460))).upd 78 (.lit (.bool x11482))) ∧ M = ((((Mem.nil.push (.cells 74 [.lit (.int .i64 (List.getD x11007 0 (0 : Int))), .lit (.int .i64 (List.getD x11007 1 (0 : Int))), .lit (.int .i64 (List.getD x11007 2 (0 : Int))), .lit (.int .i64 (List.getD x11007 3 (0 : Int))), .lit (.int .i64 (List.getD x11007 4 (0 : Int))), .lit (.int .i64 (List.getD x11007 5 (0 : Int))), .lit (.int .i64 (List.getD x11007 6 (0 : Int))), .lit (.int .i64 (List.getD x11007 7 (0 : Int))), .lit (.int .i64 (List.getD x11007 8 (0 : Int))), .lit (.int .i64 (List.getD x11007 9 (0 : Int))), .lit (.int .i64 (List.getD x11007 10 (0 : Int))), .lit (.int .i64 (List.getD x11007 11 (0 : Int))), .lit (.int .i64 (List.getD x11007 12 (0 : Int))), .lit (.int .i64 (List.getD x11007 13 (0 : Int))), .lit (.int .i64 (List.getD x11007 14 (0 : Int))), .lit (.int .i64 (List.getD x11007 15 (0 : Int))), .whole 1])).push (.row 3 (Rd.int .i64) x11008)).push (.cells 77 [.ro (Rd.slice (Rd.int .u8)) false x11456, .lit (.int .i64 x11457)])).push (.cells 46 [.ro (Rd.slice (Rd.int .u8)) false x7839, .lit (.int .i64 x11461)]))) ?_ ?_
              · clear H
                have H := H11488
                clear H11488
                refine WP.region ?_
                refine WPL.q (q_mv (v := .lit (.int _ _)) rfl) rfl ?_
                refine WPL.q (q_mv (v := .lit (.int _ _)) rfl) rfl ?_
                refine WPL.q (q_neq rfl rfl) rfl ?_
                refine WPL.q (q_mv (v := .lit (.bool _)) rfl) rfl ?_
                refine WPL.split (t := 67) (b := (!decide (x11454 = x11459))) rfl (fun hb11482 => ?_) (fun hb11482 => ?_)
                · replace H := cnt hb11482 H
                  refine WPL.skipg (b' := true) rfl rfl (lb hb11482) rfl rfl ?_
                  refine WPL.skipg (b' := true) rfl rfl (lb hb11482) rfl rfl ?_
                  refine WPL.skipg (b' := true) rfl rfl (lb hb11482) rfl rfl ?_
                  refine WPL.q (q_pickT (v := .lit (.bool _)) (lb hb11482) rfl) rfl ?_
                  refine WPL.q (q_mv (v := .lit (.bool _)) rfl) rfl ?_
                  refine WPL.skipg (b' := true) rfl rfl rfl rfl rfl ?_
                  refine WPL.skipg (b' := true) rfl rfl rfl rfl rfl ?_
                  refine WPL.skipg (b' := true) rfl rfl rfl rfl rfl ?_
                  refine WPL.skipg (b' := true) rfl rfl rfl rfl rfl ?_
                  refine WPL.skipg (b' := true) rfl rfl rfl rfl rfl ?_
                  refine WPL.q (q_pickT (v := .lit (.bool _)) rfl rfl) rfl ?_
                  refine WPL.nilW ?_
                  refine W.cv (Cv.weak (E' := ((((((((Env.none.upd 0 (.ro (Rd.slice (Rd.int .i64)) false x7838)).upd 5 (.ptr 0 0)).upd 7 (.ro (Rd.slice (Rd.int .u32)) false x11239)).upd 9 (.ptr 2 0)).upd 10 (.ptr 3 0)).upd 11 (.lit (.int .i64 x11337))).upd 15 (.lit (.int .i64 x11460))).upd 78 (.lit (.bool true)))) (M' := ((((Mem.nil.push (.cells 74 [.lit (.int .i64 (List.getD x11007 0 (0 : Int))), .lit (.int .i64 (List.getD x11007 1 (0 : Int))), .lit (.int .i64 (List.getD x11007 2 (0 : Int))), .lit (.int .i64 (List.getD x11007 3 (0 : Int))), .lit (.int .i64 (List.getD x11007 4 (0 : Int))), .lit (.int .i64 (List.getD x11007 5 (0 : Int))), .lit (.int .i64 (List.getD x11007 6 (0 : Int))), .lit (.int .i64 (List.getD x11007 7 (0 : Int))), .lit (.int .i64 (List.getD x11007 8 (0 : Int))), .lit (.int .i64 (List.getD x11007 9 (0 : Int))), .lit (.int .i64 (List.getD x11007 10 (0 : Int))), .lit (.int .i64 (List.getD x11007 11 (0 : Int))), .lit (.int .i64 (List.getD x11007 12 (0 : Int))), .lit (.int .i64 (List.getD x11007 13 (0 : Int))), .lit (.int .i64 (List.getD x11007 14 (0 : Int))), .lit (.int .i64 (List.getD x11007 15 (0 : Int))), .whole 1])).push (.row 3 (Rd.int .i64) x11008)).push (.cells 77 [.ro (Rd.slice (Rd.int .u8)) false x11456, .lit (.int .i64 x11457)])).push (.cells 46 [.ro (Rd.slice (Rd.int .u8)) false x7839, .lit (.int .i64 x11461)]))) [0, 4, 2, 3] hnp ⟨rfl, ⟨⟨⟨⟨trivial, .inr ⟨rfl, rfl, rfl⟩⟩, .inr ⟨rfl, rfl, rfl⟩⟩, .inr ⟨rfl, rfl, rfl⟩⟩, .inr ⟨rfl, rfl, rfl⟩⟩, by decide, rfl, trivial⟩ (LeE.upd rfl rfl (LeE.upd rfl rfl (LeE.upd rfl rfl (LeE.upd rfl rfl (LeE.upd rfl rfl (LeE.upd rfl rfl (LeE.upd rfl rfl (LeE.upd rfl rfl (LeE.none rfl rfl)))))))))) rfl ?_
                  refine W.now ?_
                  have q0 := (Option.some.inj H)
                  subst q0
                  exact ⟨rfl, rfl, rfl⟩
                · replace H := cnf hb11482 H
                  refine WPL.qg rfl rfl (lb hb11482) (q_mv (v := .lit (.int _ _)) rfl) rfl ?_
                  refine WPL.qg rfl rfl (lb hb11482) (q_mv (v := .lit (.int _ _)) rfl) rfl ?_
                  refine WPL.qg rfl rfl (lb hb11482) (q_neq rfl rfl) rfl ?_
                  refine WPL.q (q_pickF (v := .lit (.bool _)) (lb hb11482) rfl) rfl ?_
                  refine WPL.q (q_mv (v := .lit (.bool _)) rfl) rfl ?_
                  refine WPL.split (t := 72) (b := (!decide (x11455 = x11460))) rfl (fun hb11483 => ?_) (fun hb11483 => ?_)
                  · replace H := cnt hb11483 H
                    refine WPL.skipg (b' := true) rfl rfl (lb hb11483) rfl rfl ?_
                    refine WPL.skipg (b' := true) rfl rfl (lb hb11483) rfl rfl ?_
                    refine WPL.skipg (b' := true) rfl rfl (lb hb11483) rfl rfl ?_
                    refine WPL.skipg (b' := true) rfl rfl (lb hb11483) rfl rfl ?_
                    refine WPL.skipg (b' := true) rfl rfl (lb hb11483) rfl rfl ?_
                    refine WPL.q (q_pickT (v := .lit (.bool _)) (lb hb11483) rfl) rfl ?_
                    refine WPL.nilW ?_
                    refine W.cv (Cv.weak (E' := ((((((((Env.none.upd 0 (.ro (Rd.slice (Rd.int .i64)) false x7838)).upd 5 (.ptr 0 0)).upd 7 (.ro (Rd.slice (Rd.int .u32)) false x11239)).upd 9 (.ptr 2 0)).upd 10 (.ptr 3 0)).upd 11 (.lit (.int .i64 x11337))).upd 15 (.lit (.int .i64 x11460))).upd 78 (.lit (.bool true)))) (M' := ((((Mem.nil.push (.cells 74 [.lit (.int .i64 (List.getD x11007 0 (0 : Int))), .lit (.int .i64 (List.getD x11007 1 (0 : Int))), .lit (.int .i64 (List.getD x11007 2 (0 : Int))), .lit (.int .i64 (List.getD x11007 3 (0 : Int))), .lit (.int .i64 (List.getD x11007 4 (0 : Int))), .lit (.int .i64 (List.getD x11007 5 (0 : Int))), .lit (.int .i64 (List.getD x11007 6 (0 : Int))), .lit (.int .i64 (List.getD x11007 7 (0 : Int))), .lit (.int .i64 (List.getD x11007 8 (0 : Int))), .lit (.int .i64 (List.getD x11007 9 (0 : Int))), .lit (.int .i64 (List.getD x11007 10 (0 : Int))), .lit (.int .i64 (List.getD x11007 11 (0 : Int))), .lit (.int .i64 (List.getD x11007 12 (0 : Int))), .lit (.int .i64 (List.getD x11007 13 (0 : Int))), .lit (.int .i64 (List.getD x11007 14 (0 : Int))), .lit (.int .i64 (List.getD x11007 15 (0 : Int))), .whole 1])).push (.row 3 (Rd.int .i64) x11008)).push (.cells 77 [.ro (Rd.slice (Rd.int .u8)) false x11456, .lit (.int .i64 x11457)])).push (.cells 46 [.ro (Rd.slice (Rd.int .u8)) false x7839, .lit (.int .i64 x11461)]))) [0, 4, 2, 3] hnp ⟨rfl, ⟨⟨⟨⟨trivial, .inr ⟨rfl, rfl, rfl⟩⟩, .inr ⟨rfl, rfl, rfl⟩⟩, .inr ⟨rfl, rfl, rfl⟩⟩, .inr ⟨rfl, rfl, rfl⟩⟩, by decide, rfl, trivial⟩ (LeE.upd rfl rfl (LeE.upd rfl rfl (LeE.upd rfl rfl (LeE.upd rfl rfl (LeE.upd rfl rfl (LeE.upd rfl rfl (LeE.upd rfl rfl (LeE.upd rfl rfl (LeE.none rfl rfl)))))))))) rfl ?_
                    refine W.now ?_
                    have q0 := (Option.some.inj H)
                    subst q0
                    exact ⟨rfl, rfl, rfl⟩
                  · replace H := cnf hb11483 H
                    refine WPL.qg rfl rfl (lb hb11483) (q_mv (v := .ptr _ _) rfl) rfl ?_
                    obtain ⟨x11486, h11484, H⟩ := bnd H
                    refine WPL.cg rfl rfl (lb hb11483) (runs_call (s := [2]) (t := [2]) (N := 5) (bor := []) fn23 rfl (s23 k x11456 x11457 x11486 h11484) ⟨rfl, ⟨trivial, .inr ⟨rfl, rfl, rfl⟩⟩, by decide, rfl, trivial⟩ rfl trivial (.ren rfl rfl .nil) rfl ⟨trivial, rfl⟩ rfl) rfl ?_
                    refine WPL.qg rfl rfl (lb hb11483) (q_mv (v := .ptr _ _) rfl) rfl ?_
                    obtain ⟨x11488, h11486, H⟩ := bnd H
                    refine WPL.cg rfl rfl (lb hb11483) (runs_call (s := [3]) (t := [3]) (N := 5) (bor := []) fn24 rfl (s24 k x7839 x11461 x11488 h11486) ⟨rfl, ⟨trivial, .inr ⟨rfl, rfl, rfl⟩⟩, by decide, rfl, trivial⟩ rfl trivial (.ren rfl rfl .nil) rfl ⟨trivial, rfl⟩ rfl) rfl ?_
                    refine WPL.qg rfl rfl (lb hb11483) (q_neq rfl rfl) rfl ?_
                    refine WPL.q (q_pickF (v := .lit (.bool _)) (lb hb11483) rfl) rfl ?_
                    refine WPL.nilW ?_
                    refine W.cv (Cv.weak (E' := ((((((((Env.none.upd 0 (.ro (Rd.slice (Rd.int .i64)) false x7838)).upd 5 (.ptr 0 0)).upd 7 (.ro (Rd.slice (Rd.int .u32)) false x11239)).upd 9 (.ptr 2 0)).upd 10 (.ptr 3 0)).upd 11 (.lit (.int .i64 x11337))).upd 15 (.lit (.int .i64 x11460))).upd 78 (.lit (.bool (!decide (x11486 = x11488)))))) (M' := ((((Mem.nil.push (.cells 74 [.lit (.int .i64 (List.getD x11007 0 (0 : Int))), .lit (.int .i64 (List.getD x11007 1 (0 : Int))), .lit (.int .i64 (List.getD x11007 2 (0 : Int))), .lit (.int .i64 (List.getD x11007 3 (0 : Int))), .lit (.int .i64 (List.getD x11007 4 (0 : Int))), .lit (.int .i64 (List.getD x11007 5 (0 : Int))), .lit (.int .i64 (List.getD x11007 6 (0 : Int))), .lit (.int .i64 (List.getD x11007 7 (0 : Int))), .lit (.int .i64 (List.getD x11007 8 (0 : Int))), .lit (.int .i64 (List.getD x11007 9 (0 : Int))), .lit (.int .i64 (List.getD x11007 10 (0 : Int))), .lit (.int .i64 (List.getD x11007 11 (0 : Int))), .lit (.int .i64 (List.getD x11007 12 (0 : Int))), .lit (.int .i64 (List.getD x11007 13 (0 : Int))), .lit (.int .i64 (List.getD x11007 14 (0 : Int))), .lit (.int .i64 (List.getD x11007 15 (0 : Int))), .whole 1])).push (.row 3 (Rd.int .i64) x11008)).push (.cells 77 [.ro (Rd.slice (Rd.int .u8)) false x11456, .lit (.int .i64 x11457)])).push (.cells 46 [.ro (Rd.slice (Rd.int .u8)) false x7839, .lit (.int .i64 x11461)]))) [0, 4, 2, 3] hnp ⟨rfl, ⟨⟨⟨⟨trivial, .inr ⟨rfl, rfl, rfl⟩⟩, .inr ⟨rfl, rfl, rfl⟩⟩, .inr ⟨rfl, rfl, rfl⟩⟩, .inr ⟨rfl, rfl, rfl⟩⟩, by decide, rfl, trivial⟩ (LeE.upd rfl rfl (LeE.upd rfl rfl (LeE.upd rfl rfl (LeE.upd rfl rfl (LeE.upd rfl rfl (LeE.upd rfl rfl (LeE.upd rfl rfl (LeE.upd rfl rfl (LeE.none rfl rfl)))))))))) rfl ?_
                    refine W.now ?_
                    have q0 := (Option.some.inj H)
                    subst q0
                    exact ⟨rfl, rfl, rfl⟩
              · rintro _ _ _ ⟨rfl, rfl, rfl⟩
                refine W.now ?_
                refine Then.n ?_
                refine WP.cond (t := x11482) rfl (fun hb => ?_) (fun hb => ?_)
                · replace H := cnt hb H
                  refine WP.seq ?_
                  refine WP.region ?_
                  refine WPL.q (q_as (v := .lit (.bool _)) rfl) rfl ?_
                  refine WPL.nilW ?_
                  refine W.now ?_
                  refine Then.n ?_
                  refine WP.retW ?_
                  refine W.cv (Cv.weak (E' := (Env.none.upd 4 (.lit (.bool false)))) (M' := Mem.nil) [] hnp ⟨rfl, trivial, by decide, rfl, trivial⟩ (LeE.upd rfl rfl (LeE.none rfl rfl))) rfl ?_
                  refine W.now ?_
                  refine Then.r ?_
                  refine InBlock.r ?_
                  refine Then.r ?_
                  refine Then.r ?_
                  have q0 := Option.some.inj H
                  subst q0
                  exact ⟨rfl, rfl, rfl⟩
                · replace H := cnf hb H
                  refine WP.skipW ?_
                  refine W.now ?_
                  refine Then.n ?_
                  refine WP.seq ?_
                  refine WP.region ?_
                  refine WPL.q (q_mv (v := .lit (.int _ _)) rfl) rfl ?_
                  refine WPL.q (q_neq rfl rfl) rfl ?_
                  refine WPL.nilW ?_
                  refine W.now ?_
                  refine Then.n ?_
                  refine WP.cond (t := (!decide (x11460 = 0))) rfl (fun hb => ?_) (fun hb => ?_)
                  · replace H := cnt hb H
                    refine WP.seq ?_
                    refine WP.region ?_
                    refine WPL.q (q_as (v := .lit (.bool _)) rfl) rfl ?_
                    refine WPL.nilW ?_
                    refine W.now ?_
                    refine Then.n ?_
                    refine WP.retW ?_
                    refine W.cv (Cv.weak (E' := (Env.none.upd 4 (.lit (.bool true)))) (M' := Mem.nil) [] hnp ⟨rfl, trivial, by decide, rfl, trivial⟩ (LeE.upd rfl rfl (LeE.none rfl rfl))) rfl ?_
                    refine W.now ?_
                    refine InBlock.r ?_
                    refine Then.r ?_
                    refine Then.r ?_
                    have q0 := Option.some.inj H
                    subst q0
                    exact ⟨rfl, rfl, rfl⟩
                  · replace H := cnf hb H
                    refine WP.skipW ?_
                    refine W.now ?_
                    refine InBlock.n ?_
                    refine Then.n ?_
                    refine WP.region ?_
                    refine WPL.q (q_mv (v := .lit (.int _ _)) rfl) rfl ?_
                    refine WPL.q (q_add rfl rfl) rfl ?_
                    refine WPL.q (q_as (v := .lit (.int _ _)) rfl) rfl ?_
                    refine WPL.nilW ?_
                    refine W.cv (Cv.weak (E' := ((((((Env.none.upd 0 (.ro (Rd.slice (Rd.int .i64)) false x7838)).upd 5 (.ptr 0 0)).upd 7 (.ro (Rd.slice (Rd.int .u32)) false x11239)).upd 9 (.ptr 2 0)).upd 10 (.ptr 3 0)).upd 11 (.lit (.int .i64 (IntKind.wrap .i64 (x11337 + 1)))))) (M' := ((((Mem.nil.push (.cells 74 [.lit (.int .i64 (List.getD x11007 0 (0 : Int))), .lit (.int .i64 (List.getD x11007 1 (0 : Int))), .lit (.int .i64 (List.getD x11007 2 (0 : Int))), .lit (.int .i64 (List.getD x11007 3 (0 : Int))), .lit (.int .i64 (List.getD x11007 4 (0 : Int))), .lit (.int .i64 (List.getD x11007 5 (0 : Int))), .lit (.int .i64 (List.getD x11007 6 (0 : Int))), .lit (.int .i64 (List.getD x11007 7 (0 : Int))), .lit (.int .i64 (List.getD x11007 8 (0 : Int))), .lit (.int .i64 (List.getD x11007 9 (0 : Int))), .lit (.int .i64 (List.getD x11007 10 (0 : Int))), .lit (.int .i64 (List.getD x11007 11 (0 : Int))), .lit (.int .i64 (List.getD x11007 12 (0 : Int))), .lit (.int .i64 (List.getD x11007 13 (0 : Int))), .lit (.int .i64 (List.getD x11007 14 (0 : Int))), .lit (.int .i64 (List.getD x11007 15 (0 : Int))), .whole 1])).push (.row 3 (Rd.int .i64) x11008)).push (.cells 77 [.ro (Rd.slice (Rd.int .u8)) false x11456, .lit (.int .i64 x11457)])).push (.cells 46 [.ro (Rd.slice (Rd.int .u8)) false x7839, .lit (.int .i64 x11461)]))) [0, 1, 2, 3] hnp ⟨rfl, ⟨⟨⟨⟨trivial, .inr ⟨rfl, rfl, rfl⟩⟩, .inr ⟨rfl, rfl, rfl⟩⟩, .inr ⟨rfl, rfl, rfl⟩⟩, .inr ⟨rfl, rfl, rfl⟩⟩, by decide, rfl, trivial⟩ (LeE.upd rfl rfl (LeE.upd rfl rfl (LeE.upd rfl rfl (LeE.upd rfl rfl (LeE.upd rfl rfl (LeE.upd rfl rfl (LeE.none rfl rfl)))))))) rfl ?_
                    refine W.now ?_
                    exact Then.n ⟨n, ((IntKind.wrap .i64 (x11337 + 1)), x11456, x11457, x11461), Nat.lt_succ_self n, H, rfl, rfl⟩
            · replace H := cnf hb H
              refine WP.exitW ?_
              refine W.cv (Cv.weak (E' := Env.none) (M' := Mem.nil) [] hnp ⟨rfl, trivial, by decide, rfl, trivial⟩ (LeE.none rfl rfl)) rfl ?_
              refine W.now ?_
              refine Then.x ?_
              refine Then.x ?_
              have q0 := Option.some.inj H
              subst q0
              exact ⟨rfl, rfl, rfl⟩
          · rcases y11491 with x11415 | _
            · rintro _ _ _ ⟨rfl, rfl, rfl⟩
              refine W.now ?_
              refine InBlock.r ?_
              refine Then.r ?_
              have q0 := (Option.some.inj H)
              subst q0
              exact ⟨trivial, _, rfl, [], (.lit (.bool x11415)), Mem.nil, ⟨rfl, trivial, by decide, rfl, trivial⟩, rfl, rfl, rfl, rfl⟩
            · rintro _ _ _ ⟨rfl, rfl, rfl⟩
              refine W.now ?_
              refine InBlock.x0 ?_
              refine Then.n ?_
              refine WP.seq ?_
              refine WP.region ?_
              refine WPL.q (q_as (v := .lit (.bool _)) rfl) rfl ?_
              refine WPL.nilW ?_
              refine W.now ?_
              refine Then.n ?_
              refine WP.retW ?_
              refine W.now ?_
              have q0 := (Option.some.inj H)
              subst q0
              exact ⟨trivial, _, rfl, [], (.lit (.bool true)), Mem.nil, ⟨rfl, trivial, by decide, rfl, trivial⟩, rfl, rfl, rfl, rfl⟩
end Go.Proofs.Ythgbompoldmhmaa.W
