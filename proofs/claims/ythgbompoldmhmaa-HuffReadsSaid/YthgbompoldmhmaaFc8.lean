/- Walks: Fc8 -/
import Derived.Test.YthgbompoldmhmaaFb
import Derived.Test.YthgbompoldmhmaaFc0
namespace Go.Proofs.Ythgbompoldmhmaa.W
open Go Go.Q Go.Proofs
set_option linter.unusedVariables false
set_option linter.unusedSimpArgs false
set_option maxRecDepth 100000 in
set_option maxHeartbeats 4000000 in
theorem s19b (k : Nat) (x7841 : (List Int)) (r : (Int ⊕ ((List Int) × (List Int)))) (H : f19 k x7841 = some r) : Go.Q.Spec Try.prog 19 0 [.ro (Rd.slice (Rd.int .i64)) false x7841] Mem.nil (fun o M => match (generalizing := false) r with | (Sum.inl x8245) => o = .ret (.tup [.lit (.pointer none), .lit (.int .i64 x8245)]) ∧ M = Mem.nil | (Sum.inr (x8246, x8247)) => o = .ret (.tup [.ptr 0 0, .lit (.int .i64 0)]) ∧ M = ((Mem.nil.push (.cells 74 [.lit (.int .i64 (List.getD x8246 0 (0 : Int))), .lit (.int .i64 (List.getD x8246 1 (0 : Int))), .lit (.int .i64 (List.getD x8246 2 (0 : Int))), .lit (.int .i64 (List.getD x8246 3 (0 : Int))), .lit (.int .i64 (List.getD x8246 4 (0 : Int))), .lit (.int .i64 (List.getD x8246 5 (0 : Int))), .lit (.int .i64 (List.getD x8246 6 (0 : Int))), .lit (.int .i64 (List.getD x8246 7 (0 : Int))), .lit (.int .i64 (List.getD x8246 8 (0 : Int))), .lit (.int .i64 (List.getD x8246 9 (0 : Int))), .lit (.int .i64 (List.getD x8246 10 (0 : Int))), .lit (.int .i64 (List.getD x8246 11 (0 : Int))), .lit (.int .i64 (List.getD x8246 12 (0 : Int))), .lit (.int .i64 (List.getD x8246 13 (0 : Int))), .lit (.int .i64 (List.getD x8246 14 (0 : Int))), .lit (.int .i64 (List.getD x8246 15 (0 : Int))), .whole 1])).push (.row 3 (Rd.int .i64) x8247))) := by
  unfold f19 at H
  refine Go.Q.Spec.of_bodyR (rs := [.tmp 2, .tmp 3]) (nt := 49) Try.func19 rfl rfl (by intro t T h; simp at h) rfl rfl fun cx hnp => ?_
  refine WP.seq ?_
  refine WP.region ?_
  refine WPL.q (q_as (v := .lit _) rfl) rfl ?_
  refine WPL.q (q_as (v := .lit (.int _ _)) rfl) rfl ?_
  refine WPL.nilW ?_
  refine W.now ?_
  refine Then.n ?_
  refine WP.seq ?_
  refine WP.seq ?_
  refine WP.region ?_
  refine WPL.q (q_mv (v := .ro _ _ _) rfl) rfl ?_
  obtain ⟨⟨x8252, x8253⟩, h8250, H⟩ := bnd H
  refine WPL.c (runs_call (s := []) (t := []) (N := 0) (bor := []) fn32 rfl (s32 k x7841 x8252 x8253 h8250) ⟨rfl, trivial, by decide, rfl, trivial⟩ rfl trivial (.ren rfl rfl .nil) rfl trivial rfl) rfl ?_
  refine WPL.q (q_mv (v := .tup _) rfl) rfl ?_
  refine WPL.q (q_extract rfl rfl) rfl ?_
  refine WPL.q (q_extract rfl rfl) rfl ?_
  refine WPL.q (q_as (v := .lit (.bool _)) rfl) rfl ?_
  refine WPL.q (q_as (v := .lit (.int _ _)) rfl) rfl ?_
  refine WPL.nilW ?_
  refine W.now ?_
  refine Then.n ?_
  refine WP.seq ?_
  refine WP.region ?_
  refine WPL.q (q_mv (v := .lit (.int _ _)) rfl) rfl ?_
  refine WPL.q (q_neq rfl rfl) rfl ?_
  refine WPL.nilW ?_
  refine W.now ?_
  refine Then.n ?_
  refine WP.cond (t := (!decide (x8253 = 0))) rfl (fun hb => ?_) (fun hb => ?_)
  · replace H := cnt hb H
    refine WP.seq ?_
    refine WP.region ?_
    refine WPL.q (q_mv (v := .lit (.int _ _)) rfl) rfl ?_
    refine WPL.q (q_as (v := .lit _) rfl) rfl ?_
    refine WPL.q (q_as (v := .lit (.int _ _)) rfl) rfl ?_
    refine WPL.nilW ?_
    refine W.now ?_
    refine Then.n ?_
    refine WP.retW ?_
    refine W.now ?_
    refine Then.r ?_
    have q0 := Option.some.inj H
    subst q0
    exact ⟨trivial, _, rfl, [], (.tup [.lit (.pointer none), .lit (.int .i64 x8253)]), Mem.nil, ⟨rfl, trivial, by decide, rfl, trivial⟩, rfl, rfl, rfl, rfl⟩
  · replace H := cnf hb H
    refine WP.skipW ?_
    refine W.now ?_
    refine Then.n ?_
    refine WP.seq ?_
    refine WP.region ?_
    refine WPL.q (q_build bu74 rfl) rfl ?_
    refine WPL.d (d_box rfl rfl) rfl ?_
    refine WPL.d (d_alloc ze39 rfl) rfl ?_
    refine WPL.s (s_store sz39 rfl rfl rfl rfl rfl) ?_
    refine WPL.nilW ?_
    refine W.now ?_
    refine Then.n ?_
    refine WP.seq ?_
    refine WP.seq ?_
    refine WP.region ?_
    refine WPL.d (d_alloc ze3 rfl) rfl ?_
    refine WPL.s (s_store sz3 rfl rfl rfl rfl rfl) ?_
    refine WPL.nilW ?_
    refine W.now ?_
    refine Then.n ?_
    refine WP.block ?_
    refine WP.cv (Cv.nullMark (N := 3) rfl rfl) ?_
    refine WP.cv (Cv.virC 3 (Rd.int .i64) (N := 4) rfl rfl (i := 0) (off := 16) rfl rfl) ?_
    refine WP.cv (Cv.weak (E' := ((((⟨fun _ => .any, [4], []⟩ : Env).upd 0 (.ro (Rd.slice (Rd.int .i64)) false x7841)).upd 6 (.ptr 0 0)).upd 7 (.ptr 3 0))) (M' := (((((Mem.nil.push (.cells 39 [.ptr 1 0])).push (.cells 74 [.lit (.int .i64 (List.getD (List.replicate 16 (0 : Int)) 0 (0 : Int))), .lit (.int .i64 (List.getD (List.replicate 16 (0 : Int)) 1 (0 : Int))), .lit (.int .i64 (List.getD (List.replicate 16 (0 : Int)) 2 (0 : Int))), .lit (.int .i64 (List.getD (List.replicate 16 (0 : Int)) 3 (0 : Int))), .lit (.int .i64 (List.getD (List.replicate 16 (0 : Int)) 4 (0 : Int))), .lit (.int .i64 (List.getD (List.replicate 16 (0 : Int)) 5 (0 : Int))), .lit (.int .i64 (List.getD (List.replicate 16 (0 : Int)) 6 (0 : Int))), .lit (.int .i64 (List.getD (List.replicate 16 (0 : Int)) 7 (0 : Int))), .lit (.int .i64 (List.getD (List.replicate 16 (0 : Int)) 8 (0 : Int))), .lit (.int .i64 (List.getD (List.replicate 16 (0 : Int)) 9 (0 : Int))), .lit (.int .i64 (List.getD (List.replicate 16 (0 : Int)) 10 (0 : Int))), .lit (.int .i64 (List.getD (List.replicate 16 (0 : Int)) 11 (0 : Int))), .lit (.int .i64 (List.getD (List.replicate 16 (0 : Int)) 12 (0 : Int))), .lit (.int .i64 (List.getD (List.replicate 16 (0 : Int)) 13 (0 : Int))), .lit (.int .i64 (List.getD (List.replicate 16 (0 : Int)) 14 (0 : Int))), .lit (.int .i64 (List.getD (List.replicate 16 (0 : Int)) 15 (0 : Int))), .whole 2])).push (.row 3 (Rd.int .i64) ([] : List Int))).push (.cells 3 [.lit (.int .i64 1)])).push (.bag))) [1, 0, 4, 2, 3] hnp ⟨rfl, ⟨⟨⟨⟨⟨trivial, .inr ⟨rfl, rfl, rfl⟩⟩, .inr ⟨rfl, rfl, rfl⟩⟩, .inr ⟨rfl, rfl, rfl⟩⟩, .inr ⟨rfl, rfl, rfl⟩⟩, .inr ⟨rfl, rfl, rfl⟩⟩, by decide, rfl, trivial⟩ (LeE.upd rfl rfl (LeE.upd rfl rfl (LeE.upd rfl rfl (LeE.noneD rfl rfl .nil))))) ?_
    obtain ⟨⟨x8647, x8648⟩, H8872, H⟩ := bnd H
    refine WP.monoW (Q := fun x E M => x = .exit 0 ∧ E = ((⟨fun _ => .any, [3], []⟩ : Env).upd 6 (.ptr 0 0)) ∧ M = ((((Mem.nil.push (.cells 39 [.ptr 1 0])).push (.cells 74 [.lit (.int .i64 (List.getD x8647 0 (0 : Int))), .lit (.int .i64 (List.getD x8647 1 (0 : Int))), .lit (.int .i64 (List.getD x8647 2 (0 : Int))), .lit (.int .i64 (List.getD x8647 3 (0 : Int))), .lit (.int .i64 (List.getD x8647 4 (0 : Int))), .lit (.int .i64 (List.getD x8647 5 (0 : Int))), .lit (.int .i64 (List.getD x8647 6 (0 : Int))), .lit (.int .i64 (List.getD x8647 7 (0 : Int))), .lit (.int .i64 (List.getD x8647 8 (0 : Int))), .lit (.int .i64 (List.getD x8647 9 (0 : Int))), .lit (.int .i64 (List.getD x8647 10 (0 : Int))), .lit (.int .i64 (List.getD x8647 11 (0 : Int))), .lit (.int .i64 (List.getD x8647 12 (0 : Int))), .lit (.int .i64 (List.getD x8647 13 (0 : Int))), .lit (.int .i64 (List.getD x8647 14 (0 : Int))), .lit (.int .i64 (List.getD x8647 15 (0 : Int))), .whole 2])).push (.row 3 (Rd.int .i64) x8648)).push (.bag))) ?_ ?_
    · refine WP.loop (β := (List Int) × (List Int) × Int) (fun n b => f19_l0 k x7841 n b.1 b.2.1 b.2.2 = some (x8647, x8648)) (fun b => ((((⟨fun _ => .any, [4], []⟩ : Env).upd 0 (.ro (Rd.slice (Rd.int .i64)) false x7841)).upd 6 (.ptr 0 0)).upd 7 (.ptr 3 0))) (fun b => (((((Mem.nil.push (.cells 39 [.ptr 1 0])).push (.cells 74 [.lit (.int .i64 (List.getD b.1 0 (0 : Int))), .lit (.int .i64 (List.getD b.1 1 (0 : Int))), .lit (.int .i64 (List.getD b.1 2 (0 : Int))), .lit (.int .i64 (List.getD b.1 3 (0 : Int))), .lit (.int .i64 (List.getD b.1 4 (0 : Int))), .lit (.int .i64 (List.getD b.1 5 (0 : Int))), .lit (.int .i64 (List.getD b.1 6 (0 : Int))), .lit (.int .i64 (List.getD b.1 7 (0 : Int))), .lit (.int .i64 (List.getD b.1 8 (0 : Int))), .lit (.int .i64 (List.getD b.1 9 (0 : Int))), .lit (.int .i64 (List.getD b.1 10 (0 : Int))), .lit (.int .i64 (List.getD b.1 11 (0 : Int))), .lit (.int .i64 (List.getD b.1 12 (0 : Int))), .lit (.int .i64 (List.getD b.1 13 (0 : Int))), .lit (.int .i64 (List.getD b.1 14 (0 : Int))), .lit (.int .i64 (List.getD b.1 15 (0 : Int))), .whole 2])).push (.row 3 (Rd.int .i64) b.2.1)).push (.cells 3 [.lit (.int .i64 b.2.2)])).push (.bag))) k ((List.replicate 16 (0 : Int)), ([] : List Int), 1) H8872 rfl rfl ?_
      rintro n ⟨x8491, x8492, x8493⟩ H
      obtain _ | n := n
      · exact nf rfl H
      rw [f19_l0.eq_2] at H
      show WP _ _ _ _ ((((⟨fun _ => .any, [4], []⟩ : Env).upd 0 (.ro (Rd.slice (Rd.int .i64)) false x7841)).upd 6 (.ptr 0 0)).upd 7 (.ptr 3 0)) (((((Mem.nil.push (.cells 39 [.ptr 1 0])).push (.cells 74 [.lit (.int .i64 (List.getD x8491 0 (0 : Int))), .lit (.int .i64 (List.getD x8491 1 (0 : Int))), .lit (.int .i64 (List.getD x8491 2 (0 : Int))), .lit (.int .i64 (List.getD x8491 3 (0 : Int))), .lit (.int .i64 (List.getD x8491 4 (0 : Int))), .lit (.int .i64 (List.getD x8491 5 (0 : Int))), .lit (.int .i64 (List.getD x8491 6 (0 : Int))), .lit (.int .i64 (List.getD x8491 7 (0 : Int))), .lit (.int .i64 (List.getD x8491 8 (0 : Int))), .lit (.int .i64 (List.getD x8491 9 (0 : Int))), .lit (.int .i64 (List.getD x8491 10 (0 : Int))), .lit (.int .i64 (List.getD x8491 11 (0 : Int))), .lit (.int .i64 (List.getD x8491 12 (0 : Int))), .lit (.int .i64 (List.getD x8491 13 (0 : Int))), .lit (.int .i64 (List.getD x8491 14 (0 : Int))), .lit (.int .i64 (List.getD x8491 15 (0 : Int))), .whole 2])).push (.row 3 (Rd.int .i64) x8492)).push (.cells 3 [.lit (.int .i64 x8493)])).push (.bag)) _
      refine WP.seq ?_
      refine WP.seq ?_
      refine WP.region ?_
      refine WPL.q (q_load sc3 rfl rfl rfl) rfl ?_
      refine WPL.q (q_leq rfl rfl) rfl ?_
      refine WPL.nilW ?_
      refine W.now ?_
      refine Then.n ?_
      refine WP.cond (t := (decide (x8493 ≤ 15))) rfl (fun hb => ?_) (fun hb => ?_)
      · replace H := cnt hb H
        refine WP.skipW ?_
        refine W.now ?_
        refine Then.n ?_
        refine WP.seq ?_
        refine WP.block ?_
        refine WP.seq ?_
        refine WP.region ?_
        refine WPL.q (q_mv (v := .ro _ _ _) rfl) rfl ?_
        refine WPL.q (q_load sc3 rfl rfl rfl) rfl ?_
        obtain ⟨_, h8648, H⟩ := bnd H
        refine WPL.c (runs_call (s := []) (t := [5, 6]) (N := 7) (bor := []) fn33 rfl (s33 k x7841 x8493 h8648) ⟨rfl, trivial, by decide, rfl, trivial⟩ rfl trivial (.ren rfl rfl (.ren rfl rfl .nil)) rfl ⟨⟨trivial, rfl⟩, rfl⟩ rfl) rfl ?_
        refine WPL.nilW ?_
        refine W.now ?_
        refine Then.n ?_
        refine WP.block ?_
        refine WP.range (nti := 23) (n := 7) rfl rfl Try.func41 rfl (by kernel_rfl) rfl rfl rfl rfl fun l_8649 r_8649 aC8649 hp8649 ha8649 hb8649 ht8649 hs8649 => ?_
        refine WP.seq ?_
        refine WP.region ?_
        refine WPL.q (q_load sc22 rfl rfl rfl) rfl ?_
        refine WPL.q (q_len_ro sl22 rfl) rfl ?_
        refine WPL.q (q_mv (v := .lit (.int _ _)) rfl) rfl ?_
        refine WPL.nilW ?_
        refine W.now ?_
        refine Then.n ?_
        refine WP.block ?_
        refine WP.cv (Cv.weak (E' := ((((((⟨fun _ => .any, [], [⟨aC8649, (((((Env.none.upd 0 (.ro (Rd.slice (Rd.int .i64)) false x7841)).upd 6 (.ptr 1 0)).upd 7 (.ptr 4 0)).upd 25 (.fn 41 [.ptr 5 0, .ptr 0 0]))).v, [6, 7], some (8, l_8649)⟩]⟩ : Env).upd 0 (.lit (.func (.yield l_8649) #[] #[]))).upd 2 (.ptr 0 0)).upd 6 (.ro (Rd.slice (Rd.int .i64)) false x7841)).upd 7 (.lit (.int .i64 ((List.length x7841 : Nat) : Int)))).upd 8 (.lit (.int .i64 0)))) (M' := (((((((((Mem.nil.push (.cells 3 [.lit (.int .i64 x8493)])).push (.cells 39 [.ptr 2 0])).push (.cells 74 [.lit (.int .i64 (List.getD x8491 0 (0 : Int))), .lit (.int .i64 (List.getD x8491 1 (0 : Int))), .lit (.int .i64 (List.getD x8491 2 (0 : Int))), .lit (.int .i64 (List.getD x8491 3 (0 : Int))), .lit (.int .i64 (List.getD x8491 4 (0 : Int))), .lit (.int .i64 (List.getD x8491 5 (0 : Int))), .lit (.int .i64 (List.getD x8491 6 (0 : Int))), .lit (.int .i64 (List.getD x8491 7 (0 : Int))), .lit (.int .i64 (List.getD x8491 8 (0 : Int))), .lit (.int .i64 (List.getD x8491 9 (0 : Int))), .lit (.int .i64 (List.getD x8491 10 (0 : Int))), .lit (.int .i64 (List.getD x8491 11 (0 : Int))), .lit (.int .i64 (List.getD x8491 12 (0 : Int))), .lit (.int .i64 (List.getD x8491 13 (0 : Int))), .lit (.int .i64 (List.getD x8491 14 (0 : Int))), .lit (.int .i64 (List.getD x8491 15 (0 : Int))), .whole 3])).push (.row 3 (Rd.int .i64) x8492)).push (.cells 3 [.lit (.int .i64 x8493)])).push (.cells 22 [.ro (Rd.slice (Rd.int .i64)) false x7841])).push (.obj (Obj.deferred (some [])))).push (.bag)).push (.obj (lp r_8649 .ready none)))) [6, 0, 1, 2, 3, 5, 7, 4, 8] hnp ⟨rfl, ⟨⟨⟨⟨⟨⟨⟨⟨⟨trivial, .inr ⟨rfl, rfl, rfl⟩⟩, .inr ⟨rfl, rfl, rfl⟩⟩, .inr ⟨rfl, rfl, rfl⟩⟩, .inr ⟨rfl, rfl, rfl⟩⟩, .inr ⟨rfl, rfl, rfl⟩⟩, .inr ⟨rfl, rfl, rfl⟩⟩, .inr ⟨rfl, rfl, rfl⟩⟩, .inr ⟨rfl, rfl, rfl⟩⟩, .inr ⟨rfl, rfl, rfl⟩⟩, by decide, rfl, trivial⟩ (LeE.upd rfl rfl (LeE.upd rfl rfl (LeE.upd rfl rfl (LeE.upd rfl rfl (LeE.upd rfl rfl (LeE.noneD rfl rfl (.cons ⟨rfl, (LeV.upd rfl rfl (LeV.upd rfl rfl (LeV.upd rfl rfl (LeV.upd rfl rfl LeV.none)))), rfl, rfl, rfl, rfl⟩ .nil)))))))) ?_
        obtain ⟨y8872, H8870, H⟩ := bnd H
        refine WP.monoW (Q := fun x E M => match (generalizing := false) y8872 with | (Sum.inl (x8796, x8797)) => x = .ret ∧ E = (⟨fun _ => .any, [], [⟨aC8649, (((((Env.none.upd 0 (.ro (Rd.slice (Rd.int .i64)) false x7841)).upd 6 (.ptr 0 0)).upd 7 (.ptr 3 0)).upd 25 (.fn 41 [.ptr 4 0, .ptr 5 0]))).v, [6, 7], some (8, l_8649)⟩]⟩ : Env) ∧ M = (((((((((Mem.nil.push (.cells 39 [.ptr 1 0])).push (.cells 74 [.lit (.int .i64 (List.getD x8796 0 (0 : Int))), .lit (.int .i64 (List.getD x8796 1 (0 : Int))), .lit (.int .i64 (List.getD x8796 2 (0 : Int))), .lit (.int .i64 (List.getD x8796 3 (0 : Int))), .lit (.int .i64 (List.getD x8796 4 (0 : Int))), .lit (.int .i64 (List.getD x8796 5 (0 : Int))), .lit (.int .i64 (List.getD x8796 6 (0 : Int))), .lit (.int .i64 (List.getD x8796 7 (0 : Int))), .lit (.int .i64 (List.getD x8796 8 (0 : Int))), .lit (.int .i64 (List.getD x8796 9 (0 : Int))), .lit (.int .i64 (List.getD x8796 10 (0 : Int))), .lit (.int .i64 (List.getD x8796 11 (0 : Int))), .lit (.int .i64 (List.getD x8796 12 (0 : Int))), .lit (.int .i64 (List.getD x8796 13 (0 : Int))), .lit (.int .i64 (List.getD x8796 14 (0 : Int))), .lit (.int .i64 (List.getD x8796 15 (0 : Int))), .whole 2])).push (.row 3 (Rd.int .i64) x8797)).push (.cells 3 [.lit (.int .i64 x8493)])).push (.cells 22 [.ro (Rd.slice (Rd.int .i64)) false x7841])).push (.cells 3 [.lit (.int .i64 x8493)])).push (.obj (Obj.deferred (some [])))).push (.bag)).push (.obj (lp r_8649 .ready none))) | (Sum.inr (x8798, x8799)) => x = .exit 0 ∧ E = (⟨fun _ => .any, [], [⟨aC8649, (((((Env.none.upd 0 (.ro (Rd.slice (Rd.int .i64)) false x7841)).upd 6 (.ptr 0 0)).upd 7 (.ptr 3 0)).upd 25 (.fn 41 [.ptr 4 0, .ptr 5 0]))).v, [6, 7], some (8, l_8649)⟩]⟩ : Env) ∧ M = (((((((((Mem.nil.push (.cells 39 [.ptr 1 0])).push (.cells 74 [.lit (.int .i64 (List.getD x8798 0 (0 : Int))), .lit (.int .i64 (List.getD x8798 1 (0 : Int))), .lit (.int .i64 (List.getD x8798 2 (0 : Int))), .lit (.int .i64 (List.getD x8798 3 (0 : Int))), .lit (.int .i64 (List.getD x8798 4 (0 : Int))), .lit (.int .i64 (List.getD x8798 5 (0 : Int))), .lit (.int .i64 (List.getD x8798 6 (0 : Int))), .lit (.int .i64 (List.getD x8798 7 (0 : Int))), .lit (.int .i64 (List.getD x8798 8 (0 : Int))), .lit (.int .i64 (List.getD x8798 9 (0 : Int))), .lit (.int .i64 (List.getD x8798 10 (0 : Int))), .lit (.int .i64 (List.getD x8798 11 (0 : Int))), .lit (.int .i64 (List.getD x8798 12 (0 : Int))), .lit (.int .i64 (List.getD x8798 13 (0 : Int))), .lit (.int .i64 (List.getD x8798 14 (0 : Int))), .lit (.int .i64 (List.getD x8798 15 (0 : Int))), .whole 2])).push (.row 3 (Rd.int .i64) x8799)).push (.cells 3 [.lit (.int .i64 x8493)])).push (.cells 22 [.ro (Rd.slice (Rd.int .i64)) false x7841])).push (.cells 3 [.lit (.int .i64 x8493)])).push (.obj (Obj.deferred (some [])))).push (.bag)).push (.obj (lp r_8649 .ready none)))) ?_ ?_
        · refine WP.loop (β := Int × (List Int) × (List Int)) (fun n b => f19_l1 k x7841 x8493 n b.1 b.2.1 b.2.2 = some y8872) (fun b => ((((((⟨fun _ => .any, [], [⟨aC8649, (((((Env.none.upd 0 (.ro (Rd.slice (Rd.int .i64)) false x7841)).upd 6 (.ptr 1 0)).upd 7 (.ptr 4 0)).upd 25 (.fn 41 [.ptr 5 0, .ptr 0 0]))).v, [6, 7], some (8, l_8649)⟩]⟩ : Env).upd 0 (.lit (.func (.yield l_8649) #[] #[]))).upd 2 (.ptr 0 0)).upd 6 (.ro (Rd.slice (Rd.int .i64)) false x7841)).upd 7 (.lit (.int .i64 ((List.length x7841 : Nat) : Int)))).upd 8 (.lit (.int .i64 b.1)))) (fun b => (((((((((Mem.nil.push (.cells 3 [.lit (.int .i64 x8493)])).push (.cells 39 [.ptr 2 0])).push (.cells 74 [.lit (.int .i64 (List.getD b.2.1 0 (0 : Int))), .lit (.int .i64 (List.getD b.2.1 1 (0 : Int))), .lit (.int .i64 (List.getD b.2.1 2 (0 : Int))), .lit (.int .i64 (List.getD b.2.1 3 (0 : Int))), .lit (.int .i64 (List.getD b.2.1 4 (0 : Int))), .lit (.int .i64 (List.getD b.2.1 5 (0 : Int))), .lit (.int .i64 (List.getD b.2.1 6 (0 : Int))), .lit (.int .i64 (List.getD b.2.1 7 (0 : Int))), .lit (.int .i64 (List.getD b.2.1 8 (0 : Int))), .lit (.int .i64 (List.getD b.2.1 9 (0 : Int))), .lit (.int .i64 (List.getD b.2.1 10 (0 : Int))), .lit (.int .i64 (List.getD b.2.1 11 (0 : Int))), .lit (.int .i64 (List.getD b.2.1 12 (0 : Int))), .lit (.int .i64 (List.getD b.2.1 13 (0 : Int))), .lit (.int .i64 (List.getD b.2.1 14 (0 : Int))), .lit (.int .i64 (List.getD b.2.1 15 (0 : Int))), .whole 3])).push (.row 3 (Rd.int .i64) b.2.2)).push (.cells 3 [.lit (.int .i64 x8493)])).push (.cells 22 [.ro (Rd.slice (Rd.int .i64)) false x7841])).push (.obj (Obj.deferred (some [])))).push (.bag)).push (.obj (lp r_8649 .ready none)))) k (0, x8491, x8492) H8870 rfl rfl ?_
          rintro n ⟨x8722, x8723, x8724⟩ H
          obtain _ | n := n
          · exact nf rfl H
          rw [f19_l1.eq_2] at H
          show WP _ _ _ _ ((((((⟨fun _ => .any, [], [⟨aC8649, (((((Env.none.upd 0 (.ro (Rd.slice (Rd.int .i64)) false x7841)).upd 6 (.ptr 1 0)).upd 7 (.ptr 4 0)).upd 25 (.fn 41 [.ptr 5 0, .ptr 0 0]))).v, [6, 7], some (8, l_8649)⟩]⟩ : Env).upd 0 (.lit (.func (.yield l_8649) #[] #[]))).upd 2 (.ptr 0 0)).upd 6 (.ro (Rd.slice (Rd.int .i64)) false x7841)).upd 7 (.lit (.int .i64 ((List.length x7841 : Nat) : Int)))).upd 8 (.lit (.int .i64 x8722))) (((((((((Mem.nil.push (.cells 3 [.lit (.int .i64 x8493)])).push (.cells 39 [.ptr 2 0])).push (.cells 74 [.lit (.int .i64 (List.getD x8723 0 (0 : Int))), .lit (.int .i64 (List.getD x8723 1 (0 : Int))), .lit (.int .i64 (List.getD x8723 2 (0 : Int))), .lit (.int .i64 (List.getD x8723 3 (0 : Int))), .lit (.int .i64 (List.getD x8723 4 (0 : Int))), .lit (.int .i64 (List.getD x8723 5 (0 : Int))), .lit (.int .i64 (List.getD x8723 6 (0 : Int))), .lit (.int .i64 (List.getD x8723 7 (0 : Int))), .lit (.int .i64 (List.getD x8723 8 (0 : Int))), .lit (.int .i64 (List.getD x8723 9 (0 : Int))), .lit (.int .i64 (List.getD x8723 10 (0 : Int))), .lit (.int .i64 (List.getD x8723 11 (0 : Int))), .lit (.int .i64 (List.getD x8723 12 (0 : Int))), .lit (.int .i64 (List.getD x8723 13 (0 : Int))), .lit (.int .i64 (List.getD x8723 14 (0 : Int))), .lit (.int .i64 (List.getD x8723 15 (0 : Int))), .whole 3])).push (.row 3 (Rd.int .i64) x8724)).push (.cells 3 [.lit (.int .i64 x8493)])).push (.cells 22 [.ro (Rd.slice (Rd.int .i64)) false x7841])).push (.obj (Obj.deferred (some [])))).push (.bag)).push (.obj (lp r_8649 .ready none))) _
          refine WP.seq ?_
          refine WP.region ?_
          obtain ⟨x8800, h8800, H⟩ := bnd H
          refine WPL.q (q_nm (q_lss rfl rfl) (nm_bool h8800)) rfl ?_
          refine WPL.nilW ?_
          refine W.now ?_
          refine Then.n ?_
          refine WP.seq ?_
          refine WP.cond (t := x8800) rfl (fun hb => ?_) (fun hb => ?_)
          · replace H := cnt hb H
            refine WP.skipW ?_
            refine W.now ?_
            refine Then.n ?_
            refine WP.seq ?_
            refine WP.block ?_
            refine WP.seq ?_
            refine WP.region ?_
            refine WPL.q (q_mv (v := .lit (.int _ _)) rfl) rfl ?_
            obtain ⟨x8836, h8836, H⟩ := bnd H
            refine WPL.q (q_index_ro sl22 rfl rfl rfl h8836) rfl ?_
            refine WPL.q (q_load_sc sc3 rfl) rfl ?_
            refine WPL.q (q_as (v := .lit (.int _ _)) rfl) rfl ?_
            refine WPL.q (q_as (v := .lit (.int _ _)) rfl) rfl ?_
            refine WPL.nilW ?_
            refine W.now ?_
            refine Then.n ?_
            refine WP.seq ?_
            obtain ⟨⟨x8852, x8853, x8854⟩, H8869, H⟩ := bnd H
            refine WP.monoW (Q := fun x E M => x = .normal ∧ E = (((((((⟨fun _ => .any, [], [⟨aC8649, (((((Env.none.upd 0 (.ro (Rd.slice (Rd.int .i64)) false x7841)).upd 6 (.ptr 1 0)).upd 7 (.ptr 4 0)).upd 25 (.fn 41 [.ptr 5 0, .ptr 0 0]))).v, [6, 7], some (8, l_8649)⟩]⟩ : Env).upd 0 (.lit (.func (.yield l_8649) #[] #[]))).upd 2 (.ptr 0 0)).upd 6 (.ro (Rd.slice (Rd.int .i64)) false x7841)).upd 7 (.lit (.int .i64 ((List.length x7841 : Nat) : Int)))).upd 8 (.lit (.int .i64 x8722))).upd 21 (.lit (.bool x8852))) ∧ M = (((((((((Mem.nil.push (.cells 3 [.lit (.int .i64 x8493)])).push (.cells 39 [.ptr 2 0])).push (.cells 74 [.lit (.int .i64 (List.getD x8853 0 (0 : Int))), .lit (.int .i64 (List.getD x8853 1 (0 : Int))), .lit (.int .i64 (List.getD x8853 2 (0 : Int))), .lit (.int .i64 (List.getD x8853 3 (0 : Int))), .lit (.int .i64 (List.getD x8853 4 (0 : Int))), .lit (.int .i64 (List.getD x8853 5 (0 : Int))), .lit (.int .i64 (List.getD x8853 6 (0 : Int))), .lit (.int .i64 (List.getD x8853 7 (0 : Int))), .lit (.int .i64 (List.getD x8853 8 (0 : Int))), .lit (.int .i64 (List.getD x8853 9 (0 : Int))), .lit (.int .i64 (List.getD x8853 10 (0 : Int))), .lit (.int .i64 (List.getD x8853 11 (0 : Int))), .lit (.int .i64 (List.getD x8853 12 (0 : Int))), .lit (.int .i64 (List.getD x8853 13 (0 : Int))), .lit (.int .i64 (List.getD x8853 14 (0 : Int))), .lit (.int .i64 (List.getD x8853 15 (0 : Int))), .whole 3])).push (.row 3 (Rd.int .i64) x8854)).push (.cells 3 [.lit (.int .i64 x8493)])).push (.cells 22 [.ro (Rd.slice (Rd.int .i64)) false x7841])).push (.obj (Obj.deferred (some [])))).push (.bag)).push (.obj (lp r_8649 .ready none)))) ?_ ?_
            · clear H
              have H := H8869
              clear H8869
              refine WP.region ?_
              refine WPL.q (q_mv (v := .lit (.int _ _)) rfl) rfl ?_
              refine WPL.q (q_load sc3 rfl rfl rfl) rfl ?_
              refine WPL.q (q_eql rfl rfl) rfl ?_
              refine WPL.q (q_mv (v := .lit (.bool _)) rfl) rfl ?_
              refine WPL.split (t := 16) (b := (decide (x8836 = x8493))) rfl (fun hb8854 => ?_) (fun hb8854 => ?_)
              · replace H := cnt hb8854 H
                refine WPL.qg rfl rfl (lb hb8854) (q_mv (v := .lit _) rfl) rfl ?_
                refine WPL.qg rfl rfl (lb hb8854) (q_mv (v := .lit (.int _ _)) rfl) rfl ?_
                refine WPL.yg rfl rfl rfl rfl hp8649 ha8649 hb8649 ht8649 hs8649 rfl rfl rfl rfl rfl (lb hb8854) fun aI8855 => ?_
                refine WP.region ?_
                refine WPL.q (q_as (v := .lit (.int _ _)) rfl) rfl ?_
                refine WPL.nilW ?_
                refine W.now ?_
                refine ⟨rfl, rfl, _, _, _, _, _, _, rfl, rfl, ?_⟩
                refine WP.block ?_
                refine WP.seq ?_
                refine WP.regionD' 11 [1, 2, 4] [10] mixed rfl ?_
                refine WPD.take 0 rfl (by kernel_rfl) (q_load sc39 rfl rfl rfl) rfl rfl ?_
                refine WPD.takeT 2 rfl (by kernel_rfl) (q_nilCheck rfl) rfl ?_
                refine WPD.takeT 3 rfl (by kernel_rfl) (q_fieldAddr fi74_0 rfl rfl) rfl ?_
                refine WPD.takeT 7 rfl (by kernel_rfl) (q_nilCheck rfl) rfl ?_
                refine WPD.takeT 8 rfl (by kernel_rfl) (q_fieldAddr fi74_0 rfl rfl) rfl ?_
                refine WPD.take 1 rfl (by kernel_rfl) (q_load sc3 rfl rfl rfl) rfl rfl ?_
                obtain ⟨h8863, H⟩ := grd H
                refine WPD.takeT 4 rfl (by kernel_rfl) (q_indexArr ar72 rfl rfl h8863 rfl) rfl ?_
                refine WPD.take 5 rfl (by kernel_rfl) (q_load_arr (f := (fun z : Int => AVal.lit (.int .i64 z))) (d0 := (0 : Int)) (xs := x8723) (n := 16) (off := 0) (j := (Int.toNat x8493)) sc3 rfl rfl rfl (natlt h8863) (addone _ _)) rfl rfl ?_
                obtain ⟨x8865, h8865, H⟩ := bnd H
                refine WPD.takeT 6 rfl (by kernel_rfl) (q_nm (q_add rfl rfl) (nm_int h8865)) rfl ?_
                obtain ⟨h8865, H⟩ := grd H
                refine WPD.takeT 9 rfl (by kernel_rfl) (q_indexArr ar72 rfl rfl h8865 rfl) rfl ?_
                refine WPD.effS 10 [] [] rfl (by kernel_rfl) (s_store_arr (f := (fun z : Int => AVal.lit (.int .i64 z))) (d0 := (0 : Int)) (xs := x8723) (n := 16) (off := 0) (j := (Int.toNat x8493)) (v := x8865) sz3 rfl rfl rfl rfl rfl (natlt h8865) (addone _ _)) rfl ?_
                refine WPD.doneW (by kernel_rfl) ?_
                refine W.now ?_
                refine Then.n ?_
                refine WP.regionD' 11 [1, 2] [10] mixed rfl ?_
                refine WPD.takeT 5 rfl (by kernel_rfl) (q_mv (v := .lit (.int _ _)) rfl) rfl ?_
                refine WPD.take 0 rfl (by kernel_rfl) (q_load sc39 rfl rfl rfl) rfl rfl ?_
                refine WPD.take 1 rfl (by kernel_rfl) (q_load sc39 rfl rfl rfl) rfl rfl ?_
                refine WPD.takeT 2 rfl (by kernel_rfl) (q_nilCheck rfl) rfl ?_
                refine WPD.takeT 3 rfl (by kernel_rfl) (q_fieldAddr fi74_1 rfl rfl) rfl ?_
                refine WPD.take 4 rfl (by kernel_rfl) (q_load sc22 rfl rfl rfl) rfl rfl ?_
                refine WPD.eff 6 [1, 2] [10] rfl (by kernel_rfl) (Does.runs (d_buildSlice (ds := ([x8722] : List Int)) (R := (Rd.int .i64)) li22 rfl rfl rfl rfl rfl (JoinRows.cons1 Joins.sc rfl JoinRows.nil) rfl rfl)) rfl rfl ?_
                obtain ⟨h8868, H⟩ := grd H
                refine WPD.eff 7 [1, 2] [10] rfl (by kernel_rfl) (Does.runs (d_append ap22 rfl rfl rfl rfl (src_row sl22 rfl rfl) h8868 rfl)) rfl rfl ?_
                refine WPD.takeT 8 rfl (by kernel_rfl) (q_nilCheck rfl) rfl ?_
                refine WPD.takeT 9 rfl (by kernel_rfl) (q_fieldAddr fi74_1 rfl rfl) rfl ?_
                refine WPD.effS 10 [] [] rfl (by kernel_rfl) (s_store sz22 rfl rfl rfl rfl rfl) rfl ?_
                refine WPD.doneW (by kernel_rfl) ?_
                refine W.now ?_
                refine InBlock.n ?_
                refine ⟨rfl, _, _, _, _, _, _, rfl, rfl, _, rfl, ?_⟩
                refine WPL.qg rfl rfl (lb hb8854) (q_not rfl) rfl ?_
                refine WPL.q (q_pickT (v := .lit (.bool _)) (lb hb8854) rfl) rfl ?_
                refine WPL.nilW ?_
                refine W.cv (Cv.weak (E' := (((((((⟨fun _ => .any, [], [⟨aC8649, (((((Env.none.upd 0 (.ro (Rd.slice (Rd.int .i64)) false x7841)).upd 6 (.ptr 1 0)).upd 7 (.ptr 4 0)).upd 25 (.fn 41 [.ptr 5 0, .ptr 0 0]))).v, [6, 7], some (8, l_8649)⟩]⟩ : Env).upd 0 (.lit (.func (.yield l_8649) #[] #[]))).upd 2 (.ptr 0 0)).upd 6 (.ro (Rd.slice (Rd.int .i64)) false x7841)).upd 7 (.lit (.int .i64 ((List.length x7841 : Nat) : Int)))).upd 8 (.lit (.int .i64 x8722))).upd 21 (.lit (.bool (!true))))) (M' := (((((((((Mem.nil.push (.cells 3 [.lit (.int .i64 x8493)])).push (.cells 39 [.ptr 2 0])).push (.cells 74 [.lit (.int .i64 (List.getD (setD (0 : Int) x8723 16 (Int.toNat x8493) x8865) 0 (0 : Int))), .lit (.int .i64 (List.getD (setD (0 : Int) x8723 16 (Int.toNat x8493) x8865) 1 (0 : Int))), .lit (.int .i64 (List.getD (setD (0 : Int) x8723 16 (Int.toNat x8493) x8865) 2 (0 : Int))), .lit (.int .i64 (List.getD (setD (0 : Int) x8723 16 (Int.toNat x8493) x8865) 3 (0 : Int))), .lit (.int .i64 (List.getD (setD (0 : Int) x8723 16 (Int.toNat x8493) x8865) 4 (0 : Int))), .lit (.int .i64 (List.getD (setD (0 : Int) x8723 16 (Int.toNat x8493) x8865) 5 (0 : Int))), .lit (.int .i64 (List.getD (setD (0 : Int) x8723 16 (Int.toNat x8493) x8865) 6 (0 : Int))), .lit (.int .i64 (List.getD (setD (0 : Int) x8723 16 (Int.toNat x8493) x8865) 7 (0 : Int))), .lit (.int .i64 (List.getD (setD (0 : Int) x8723 16 (Int.toNat x8493) x8865) 8 (0 : Int))), .lit (.int .i64 (List.getD (setD (0 : Int) x8723 16 (Int.toNat x8493) x8865) 9 (0 : Int))), .lit (.int .i64 (List.getD (setD (0 : Int) x8723 16 (Int.toNat x8493) x8865) 10 (0 : Int))), .lit (.int .i64 (List.getD (setD (0 : Int) x8723 16 (Int.toNat x8493) x8865) 11 (0 : Int))), .lit (.int .i64 (List.getD (setD (0 : Int) x8723 16 (Int.toNat x8493) x8865) 12 (0 : Int))), .lit (.int .i64 (List.getD (setD (0 : Int) x8723 16 (Int.toNat x8493) x8865) 13 (0 : Int))), .lit (.int .i64 (List.getD (setD (0 : Int) x8723 16 (Int.toNat x8493) x8865) 14 (0 : Int))), .lit (.int .i64 (List.getD (setD (0 : Int) x8723 16 (Int.toNat x8493) x8865) 15 (0 : Int))), .whole 3])).push (.row 3 (Rd.int .i64) (x8724 ++ ([x8722] : List Int)))).push (.cells 3 [.lit (.int .i64 x8493)])).push (.cells 22 [.ro (Rd.slice (Rd.int .i64)) false x7841])).push (.obj (Obj.deferred (some [])))).push (.bag)).push (.obj (lp r_8649 .ready none)))) [0, 1, 2, 10, 4, 5, 6, 7, 8] hnp ⟨rfl, ⟨⟨⟨⟨⟨⟨⟨⟨⟨trivial, .inr ⟨rfl, rfl, rfl⟩⟩, .inr ⟨rfl, rfl, rfl⟩⟩, .inr ⟨rfl, rfl, rfl⟩⟩, .inr ⟨rfl, rfl, rfl⟩⟩, .inr ⟨rfl, rfl, rfl⟩⟩, .inr ⟨rfl, rfl, rfl⟩⟩, .inr ⟨rfl, rfl, rfl⟩⟩, .inr ⟨rfl, rfl, rfl⟩⟩, .inr ⟨rfl, rfl, rfl⟩⟩, by decide, rfl, trivial⟩ (LeE.upd rfl rfl (LeE.upd rfl rfl (LeE.upd rfl rfl (LeE.upd rfl rfl (LeE.upd rfl rfl (LeE.upd rfl rfl (LeE.noneD rfl rfl (.cons ⟨rfl, (LeV.upd rfl rfl (LeV.upd rfl rfl (LeV.upd rfl rfl (LeV.upd rfl rfl LeV.none)))), rfl, rfl, rfl, rfl⟩ .nil))))))))) rfl ?_
                refine W.now ?_
                have q0 := (Prod.mk.inj (Option.some.inj H)).1
                have q1 := (Prod.mk.inj (Prod.mk.inj (Option.some.inj H)).2).1
                have q2 := (Prod.mk.inj (Prod.mk.inj (Option.some.inj H)).2).2
                subst q0
                subst q1
                subst q2
                exact ⟨rfl, rfl, rfl⟩
              · replace H := cnf hb8854 H
                refine WPL.skipg (b' := false) rfl rfl (lb hb8854) rfl rfl ?_
                refine WPL.skipg (b' := false) rfl rfl (lb hb8854) rfl rfl ?_
                refine WPL.skipg (b' := false) rfl rfl (lb hb8854) rfl rfl ?_
                refine WPL.skipg (b' := false) rfl rfl (lb hb8854) rfl rfl ?_
                refine WPL.q (q_pickF (v := .lit (.bool _)) (lb hb8854) rfl) rfl ?_
                refine WPL.nilW ?_
                refine W.cv (Cv.weak (E' := (((((((⟨fun _ => .any, [], [⟨aC8649, (((((Env.none.upd 0 (.ro (Rd.slice (Rd.int .i64)) false x7841)).upd 6 (.ptr 1 0)).upd 7 (.ptr 4 0)).upd 25 (.fn 41 [.ptr 5 0, .ptr 0 0]))).v, [6, 7], some (8, l_8649)⟩]⟩ : Env).upd 0 (.lit (.func (.yield l_8649) #[] #[]))).upd 2 (.ptr 0 0)).upd 6 (.ro (Rd.slice (Rd.int .i64)) false x7841)).upd 7 (.lit (.int .i64 ((List.length x7841 : Nat) : Int)))).upd 8 (.lit (.int .i64 x8722))).upd 21 (.lit (.bool false)))) (M' := (((((((((Mem.nil.push (.cells 3 [.lit (.int .i64 x8493)])).push (.cells 39 [.ptr 2 0])).push (.cells 74 [.lit (.int .i64 (List.getD x8723 0 (0 : Int))), .lit (.int .i64 (List.getD x8723 1 (0 : Int))), .lit (.int .i64 (List.getD x8723 2 (0 : Int))), .lit (.int .i64 (List.getD x8723 3 (0 : Int))), .lit (.int .i64 (List.getD x8723 4 (0 : Int))), .lit (.int .i64 (List.getD x8723 5 (0 : Int))), .lit (.int .i64 (List.getD x8723 6 (0 : Int))), .lit (.int .i64 (List.getD x8723 7 (0 : Int))), .lit (.int .i64 (List.getD x8723 8 (0 : Int))), .lit (.int .i64 (List.getD x8723 9 (0 : Int))), .lit (.int .i64 (List.getD x8723 10 (0 : Int))), .lit (.int .i64 (List.getD x8723 11 (0 : Int))), .lit (.int .i64 (List.getD x8723 12 (0 : Int))), .lit (.int .i64 (List.getD x8723 13 (0 : Int))), .lit (.int .i64 (List.getD x8723 14 (0 : Int))), .lit (.int .i64 (List.getD x8723 15 (0 : Int))), .whole 3])).push (.row 3 (Rd.int .i64) x8724)).push (.cells 3 [.lit (.int .i64 x8493)])).push (.cells 22 [.ro (Rd.slice (Rd.int .i64)) false x7841])).push (.obj (Obj.deferred (some [])))).push (.bag)).push (.obj (lp r_8649 .ready none)))) [0, 1, 2, 3, 4, 5, 6, 7, 8] hnp ⟨rfl, ⟨⟨⟨⟨⟨⟨⟨⟨⟨trivial, .inr ⟨rfl, rfl, rfl⟩⟩, .inr ⟨rfl, rfl, rfl⟩⟩, .inr ⟨rfl, rfl, rfl⟩⟩, .inr ⟨rfl, rfl, rfl⟩⟩, .inr ⟨rfl, rfl, rfl⟩⟩, .inr ⟨rfl, rfl, rfl⟩⟩, .inr ⟨rfl, rfl, rfl⟩⟩, .inr ⟨rfl, rfl, rfl⟩⟩, .inr ⟨rfl, rfl, rfl⟩⟩, by decide, rfl, trivial⟩ (LeE.upd rfl rfl (LeE.upd rfl rfl (LeE.upd rfl rfl (LeE.upd rfl rfl (LeE.upd rfl rfl (LeE.upd rfl rfl (LeE.noneD rfl rfl (.cons ⟨rfl, (LeV.upd rfl rfl (LeV.upd rfl rfl (LeV.upd rfl rfl (LeV.upd rfl rfl LeV.none)))), rfl, rfl, rfl, rfl⟩ .nil))))))))) rfl ?_
                refine W.now ?_
                have q0 := (Prod.mk.inj (Option.some.inj H)).1
                have q1 := (Prod.mk.inj (Prod.mk.inj (Option.some.inj H)).2).1
                have q2 := (Prod.mk.inj (Prod.mk.inj (Option.some.inj H)).2).2
                subst q0
                subst q1
                subst q2
                exact ⟨rfl, rfl, rfl⟩
            · rintro _ _ _ ⟨rfl, rfl, rfl⟩
              refine W.now ?_
              refine Then.n ?_
              refine WP.cond (t := x8852) rfl (fun hb => ?_) (fun hb => ?_)
              · replace H := cnt hb H
                refine WP.retW ?_
                refine W.cv (Cv.weak (E' := (⟨fun _ => .any, [], [⟨aC8649, (((((Env.none.upd 0 (.ro (Rd.slice (Rd.int .i64)) false x7841)).upd 6 (.ptr 0 0)).upd 7 (.ptr 3 0)).upd 25 (.fn 41 [.ptr 4 0, .ptr 5 0]))).v, [6, 7], some (8, l_8649)⟩]⟩ : Env)) (M' := (((((((((Mem.nil.push (.cells 39 [.ptr 1 0])).push (.cells 74 [.lit (.int .i64 (List.getD x8853 0 (0 : Int))), .lit (.int .i64 (List.getD x8853 1 (0 : Int))), .lit (.int .i64 (List.getD x8853 2 (0 : Int))), .lit (.int .i64 (List.getD x8853 3 (0 : Int))), .lit (.int .i64 (List.getD x8853 4 (0 : Int))), .lit (.int .i64 (List.getD x8853 5 (0 : Int))), .lit (.int .i64 (List.getD x8853 6 (0 : Int))), .lit (.int .i64 (List.getD x8853 7 (0 : Int))), .lit (.int .i64 (List.getD x8853 8 (0 : Int))), .lit (.int .i64 (List.getD x8853 9 (0 : Int))), .lit (.int .i64 (List.getD x8853 10 (0 : Int))), .lit (.int .i64 (List.getD x8853 11 (0 : Int))), .lit (.int .i64 (List.getD x8853 12 (0 : Int))), .lit (.int .i64 (List.getD x8853 13 (0 : Int))), .lit (.int .i64 (List.getD x8853 14 (0 : Int))), .lit (.int .i64 (List.getD x8853 15 (0 : Int))), .whole 2])).push (.row 3 (Rd.int .i64) x8854)).push (.cells 3 [.lit (.int .i64 x8493)])).push (.cells 22 [.ro (Rd.slice (Rd.int .i64)) false x7841])).push (.cells 3 [.lit (.int .i64 x8493)])).push (.obj (Obj.deferred (some [])))).push (.bag)).push (.obj (lp r_8649 .ready none)))) [1, 2, 3, 4, 5, 0, 6, 7, 8] hnp ⟨rfl, ⟨⟨⟨⟨⟨⟨⟨⟨⟨trivial, .inr ⟨rfl, rfl, rfl⟩⟩, .inr ⟨rfl, rfl, rfl⟩⟩, .inr ⟨rfl, rfl, rfl⟩⟩, .inr ⟨rfl, rfl, rfl⟩⟩, .inr ⟨rfl, rfl, rfl⟩⟩, .inr ⟨rfl, rfl, rfl⟩⟩, .inr ⟨rfl, rfl, rfl⟩⟩, .inr ⟨rfl, rfl, rfl⟩⟩, .inr ⟨rfl, rfl, rfl⟩⟩, by decide, rfl, trivial⟩ (LeE.noneD rfl rfl (.cons ⟨rfl, (LeV.upd rfl rfl (LeV.upd rfl rfl (LeV.upd rfl rfl (LeV.upd rfl rfl LeV.none)))), rfl, rfl, rfl, rfl⟩ .nil))) rfl ?_
                refine W.now ?_
                refine InBlock.r ?_
                refine Then.r ?_
                refine Then.r ?_
                have q0 := Option.some.inj H
                subst q0
                exact ⟨rfl, rfl, rfl⟩
              · replace H := cnf hb H
                refine WP.skipW ?_
                refine W.now ?_
                refine InBlock.n ?_
                refine Then.n ?_
                refine WP.region ?_
                refine WPL.q (q_add rfl rfl) rfl ?_
                refine WPL.q (q_mv (v := .lit (.int _ _)) rfl) rfl ?_
                refine WPL.nilW ?_
                refine W.cv (Cv.weak (E' := ((((((⟨fun _ => .any, [], [⟨aC8649, (((((Env.none.upd 0 (.ro (Rd.slice (Rd.int .i64)) false x7841)).upd 6 (.ptr 1 0)).upd 7 (.ptr 4 0)).upd 25 (.fn 41 [.ptr 5 0, .ptr 0 0]))).v, [6, 7], some (8, l_8649)⟩]⟩ : Env).upd 0 (.lit (.func (.yield l_8649) #[] #[]))).upd 2 (.ptr 0 0)).upd 6 (.ro (Rd.slice (Rd.int .i64)) false x7841)).upd 7 (.lit (.int .i64 ((List.length x7841 : Nat) : Int)))).upd 8 (.lit (.int .i64 (IntKind.wrap .i64 (x8722 + 1)))))) (M' := (((((((((Mem.nil.push (.cells 3 [.lit (.int .i64 x8493)])).push (.cells 39 [.ptr 2 0])).push (.cells 74 [.lit (.int .i64 (List.getD x8853 0 (0 : Int))), .lit (.int .i64 (List.getD x8853 1 (0 : Int))), .lit (.int .i64 (List.getD x8853 2 (0 : Int))), .lit (.int .i64 (List.getD x8853 3 (0 : Int))), .lit (.int .i64 (List.getD x8853 4 (0 : Int))), .lit (.int .i64 (List.getD x8853 5 (0 : Int))), .lit (.int .i64 (List.getD x8853 6 (0 : Int))), .lit (.int .i64 (List.getD x8853 7 (0 : Int))), .lit (.int .i64 (List.getD x8853 8 (0 : Int))), .lit (.int .i64 (List.getD x8853 9 (0 : Int))), .lit (.int .i64 (List.getD x8853 10 (0 : Int))), .lit (.int .i64 (List.getD x8853 11 (0 : Int))), .lit (.int .i64 (List.getD x8853 12 (0 : Int))), .lit (.int .i64 (List.getD x8853 13 (0 : Int))), .lit (.int .i64 (List.getD x8853 14 (0 : Int))), .lit (.int .i64 (List.getD x8853 15 (0 : Int))), .whole 3])).push (.row 3 (Rd.int .i64) x8854)).push (.cells 3 [.lit (.int .i64 x8493)])).push (.cells 22 [.ro (Rd.slice (Rd.int .i64)) false x7841])).push (.obj (Obj.deferred (some [])))).push (.bag)).push (.obj (lp r_8649 .ready none)))) [0, 1, 2, 3, 4, 5, 6, 7, 8] hnp ⟨rfl, ⟨⟨⟨⟨⟨⟨⟨⟨⟨trivial, .inr ⟨rfl, rfl, rfl⟩⟩, .inr ⟨rfl, rfl, rfl⟩⟩, .inr ⟨rfl, rfl, rfl⟩⟩, .inr ⟨rfl, rfl, rfl⟩⟩, .inr ⟨rfl, rfl, rfl⟩⟩, .inr ⟨rfl, rfl, rfl⟩⟩, .inr ⟨rfl, rfl, rfl⟩⟩, .inr ⟨rfl, rfl, rfl⟩⟩, .inr ⟨rfl, rfl, rfl⟩⟩, by decide, rfl, trivial⟩ (LeE.upd rfl rfl (LeE.upd rfl rfl (LeE.upd rfl rfl (LeE.upd rfl rfl (LeE.upd rfl rfl (LeE.noneD rfl rfl (.cons ⟨rfl, (LeV.upd rfl rfl (LeV.upd rfl rfl (LeV.upd rfl rfl (LeV.upd rfl rfl LeV.none)))), rfl, rfl, rfl, rfl⟩ .nil)))))))) rfl ?_
                refine W.now ?_
                exact Then.n ⟨n, ((IntKind.wrap .i64 (x8722 + 1)), x8853, x8854), Nat.lt_succ_self n, H, rfl, rfl⟩
          · replace H := cnf hb H
            refine WP.exitW ?_
            refine W.cv (Cv.weak (E' := (⟨fun _ => .any, [], [⟨aC8649, (((((Env.none.upd 0 (.ro (Rd.slice (Rd.int .i64)) false x7841)).upd 6 (.ptr 0 0)).upd 7 (.ptr 3 0)).upd 25 (.fn 41 [.ptr 4 0, .ptr 5 0]))).v, [6, 7], some (8, l_8649)⟩]⟩ : Env)) (M' := (((((((((Mem.nil.push (.cells 39 [.ptr 1 0])).push (.cells 74 [.lit (.int .i64 (List.getD x8723 0 (0 : Int))), .lit (.int .i64 (List.getD x8723 1 (0 : Int))), .lit (.int .i64 (List.getD x8723 2 (0 : Int))), .lit (.int .i64 (List.getD x8723 3 (0 : Int))), .lit (.int .i64 (List.getD x8723 4 (0 : Int))), .lit (.int .i64 (List.getD x8723 5 (0 : Int))), .lit (.int .i64 (List.getD x8723 6 (0 : Int))), .lit (.int .i64 (List.getD x8723 7 (0 : Int))), .lit (.int .i64 (List.getD x8723 8 (0 : Int))), .lit (.int .i64 (List.getD x8723 9 (0 : Int))), .lit (.int .i64 (List.getD x8723 10 (0 : Int))), .lit (.int .i64 (List.getD x8723 11 (0 : Int))), .lit (.int .i64 (List.getD x8723 12 (0 : Int))), .lit (.int .i64 (List.getD x8723 13 (0 : Int))), .lit (.int .i64 (List.getD x8723 14 (0 : Int))), .lit (.int .i64 (List.getD x8723 15 (0 : Int))), .whole 2])).push (.row 3 (Rd.int .i64) x8724)).push (.cells 3 [.lit (.int .i64 x8493)])).push (.cells 22 [.ro (Rd.slice (Rd.int .i64)) false x7841])).push (.cells 3 [.lit (.int .i64 x8493)])).push (.obj (Obj.deferred (some [])))).push (.bag)).push (.obj (lp r_8649 .ready none)))) [1, 2, 3, 4, 5, 0, 6, 7, 8] hnp ⟨rfl, ⟨⟨⟨⟨⟨⟨⟨⟨⟨trivial, .inr ⟨rfl, rfl, rfl⟩⟩, .inr ⟨rfl, rfl, rfl⟩⟩, .inr ⟨rfl, rfl, rfl⟩⟩, .inr ⟨rfl, rfl, rfl⟩⟩, .inr ⟨rfl, rfl, rfl⟩⟩, .inr ⟨rfl, rfl, rfl⟩⟩, .inr ⟨rfl, rfl, rfl⟩⟩, .inr ⟨rfl, rfl, rfl⟩⟩, .inr ⟨rfl, rfl, rfl⟩⟩, by decide, rfl, trivial⟩ (LeE.noneD rfl rfl (.cons ⟨rfl, (LeV.upd rfl rfl (LeV.upd rfl rfl (LeV.upd rfl rfl (LeV.upd rfl rfl LeV.none)))), rfl, rfl, rfl, rfl⟩ .nil))) rfl ?_
            refine W.now ?_
            refine Then.x ?_
            refine Then.x ?_
            have q0 := Option.some.inj H
            subst q0
            exact ⟨rfl, rfl, rfl⟩
        · rcases y8872 with ⟨x8796, x8797⟩ | ⟨x8798, x8799⟩
          · rintro _ _ _ ⟨rfl, rfl, rfl⟩
            refine W.now ?_
            refine InBlock.r ?_
            refine ⟨trivial, _, _, _, _, rfl, _, _, rfl, (fun h => by cases h), ?_⟩
            refine W.cv (Cv.absorb (N := 9) (j := 6) (i := 7) rfl rfl rfl rfl) rfl ?_
            refine W.now ?_
            refine InBlock.n ?_
            refine InBlock.n ?_
            refine Then.n ?_
            refine WP.seq ?_
            refine WP.seq ?_
            refine WP.region ?_
            refine WPL.q (q_load sc3 rfl rfl rfl) rfl ?_
            refine WPL.nilW ?_
            refine W.now ?_
            refine Then.n ?_
            refine WP.region ?_
            refine WPL.d (d_alloc ze3 rfl) rfl ?_
            refine WPL.s (s_store sz3 rfl rfl rfl rfl rfl) ?_
            refine WPL.nilW ?_
            refine W.now ?_
            refine Then.n ?_
            refine WP.region ?_
            refine WPL.q (q_load sc3 rfl rfl rfl) rfl ?_
            refine WPL.q (q_add rfl rfl) rfl ?_
            refine WPL.s (s_store sz3 rfl rfl rfl rfl rfl) ?_
            refine WPL.nilW ?_
            refine W.cv (Cv.weak (E' := ((((⟨fun _ => .any, [4], []⟩ : Env).upd 0 (.ro (Rd.slice (Rd.int .i64)) false x7841)).upd 6 (.ptr 0 0)).upd 7 (.ptr 3 0))) (M' := (((((Mem.nil.push (.cells 39 [.ptr 1 0])).push (.cells 74 [.lit (.int .i64 (List.getD x8796 0 (0 : Int))), .lit (.int .i64 (List.getD x8796 1 (0 : Int))), .lit (.int .i64 (List.getD x8796 2 (0 : Int))), .lit (.int .i64 (List.getD x8796 3 (0 : Int))), .lit (.int .i64 (List.getD x8796 4 (0 : Int))), .lit (.int .i64 (List.getD x8796 5 (0 : Int))), .lit (.int .i64 (List.getD x8796 6 (0 : Int))), .lit (.int .i64 (List.getD x8796 7 (0 : Int))), .lit (.int .i64 (List.getD x8796 8 (0 : Int))), .lit (.int .i64 (List.getD x8796 9 (0 : Int))), .lit (.int .i64 (List.getD x8796 10 (0 : Int))), .lit (.int .i64 (List.getD x8796 11 (0 : Int))), .lit (.int .i64 (List.getD x8796 12 (0 : Int))), .lit (.int .i64 (List.getD x8796 13 (0 : Int))), .lit (.int .i64 (List.getD x8796 14 (0 : Int))), .lit (.int .i64 (List.getD x8796 15 (0 : Int))), .whole 2])).push (.row 3 (Rd.int .i64) x8797)).push (.cells 3 [.lit (.int .i64 (IntKind.wrap .i64 (x8493 + 1)))])).push (.bag))) [0, 1, 2, 10, 9] hnp ⟨rfl, ⟨⟨⟨⟨⟨trivial, .inr ⟨rfl, rfl, rfl⟩⟩, .inr ⟨rfl, rfl, rfl⟩⟩, .inr ⟨rfl, rfl, rfl⟩⟩, .inr ⟨rfl, rfl, rfl⟩⟩, .inr ⟨rfl, rfl, rfl⟩⟩, by decide, rfl, trivial⟩ (LeE.upd rfl rfl (LeE.upd rfl rfl (LeE.upd rfl rfl (LeE.noneD rfl rfl .nil))))) rfl ?_
            refine W.now ?_
            exact Then.n ⟨n, (x8796, x8797, (IntKind.wrap .i64 (x8493 + 1))), Nat.lt_succ_self n, H, rfl, rfl⟩
          · rintro _ _ _ ⟨rfl, rfl, rfl⟩
            refine W.now ?_
            refine InBlock.x0 ?_
            refine ⟨trivial, _, _, _, _, rfl, _, _, rfl, (fun h => by cases h), ?_⟩
            refine W.cv (Cv.absorb (N := 9) (j := 6) (i := 7) rfl rfl rfl rfl) rfl ?_
            refine W.now ?_
            refine InBlock.n ?_
            refine InBlock.n ?_
            refine Then.n ?_
            refine WP.seq ?_
            refine WP.seq ?_
            refine WP.region ?_
            refine WPL.q (q_load sc3 rfl rfl rfl) rfl ?_
            refine WPL.nilW ?_
            refine W.now ?_
            refine Then.n ?_
            refine WP.region ?_
            refine WPL.d (d_alloc ze3 rfl) rfl ?_
            refine WPL.s (s_store sz3 rfl rfl rfl rfl rfl) ?_
            refine WPL.nilW ?_
            refine W.now ?_
            refine Then.n ?_
            refine WP.region ?_
            refine WPL.q (q_load sc3 rfl rfl rfl) rfl ?_
            refine WPL.q (q_add rfl rfl) rfl ?_
            refine WPL.s (s_store sz3 rfl rfl rfl rfl rfl) ?_
            refine WPL.nilW ?_
            refine W.cv (Cv.weak (E' := ((((⟨fun _ => .any, [4], []⟩ : Env).upd 0 (.ro (Rd.slice (Rd.int .i64)) false x7841)).upd 6 (.ptr 0 0)).upd 7 (.ptr 3 0))) (M' := (((((Mem.nil.push (.cells 39 [.ptr 1 0])).push (.cells 74 [.lit (.int .i64 (List.getD x8798 0 (0 : Int))), .lit (.int .i64 (List.getD x8798 1 (0 : Int))), .lit (.int .i64 (List.getD x8798 2 (0 : Int))), .lit (.int .i64 (List.getD x8798 3 (0 : Int))), .lit (.int .i64 (List.getD x8798 4 (0 : Int))), .lit (.int .i64 (List.getD x8798 5 (0 : Int))), .lit (.int .i64 (List.getD x8798 6 (0 : Int))), .lit (.int .i64 (List.getD x8798 7 (0 : Int))), .lit (.int .i64 (List.getD x8798 8 (0 : Int))), .lit (.int .i64 (List.getD x8798 9 (0 : Int))), .lit (.int .i64 (List.getD x8798 10 (0 : Int))), .lit (.int .i64 (List.getD x8798 11 (0 : Int))), .lit (.int .i64 (List.getD x8798 12 (0 : Int))), .lit (.int .i64 (List.getD x8798 13 (0 : Int))), .lit (.int .i64 (List.getD x8798 14 (0 : Int))), .lit (.int .i64 (List.getD x8798 15 (0 : Int))), .whole 2])).push (.row 3 (Rd.int .i64) x8799)).push (.cells 3 [.lit (.int .i64 (IntKind.wrap .i64 (x8493 + 1)))])).push (.bag))) [0, 1, 2, 10, 9] hnp ⟨rfl, ⟨⟨⟨⟨⟨trivial, .inr ⟨rfl, rfl, rfl⟩⟩, .inr ⟨rfl, rfl, rfl⟩⟩, .inr ⟨rfl, rfl, rfl⟩⟩, .inr ⟨rfl, rfl, rfl⟩⟩, .inr ⟨rfl, rfl, rfl⟩⟩, by decide, rfl, trivial⟩ (LeE.upd rfl rfl (LeE.upd rfl rfl (LeE.upd rfl rfl (LeE.noneD rfl rfl .nil))))) rfl ?_
            refine W.now ?_
            exact Then.n ⟨n, (x8798, x8799, (IntKind.wrap .i64 (x8493 + 1))), Nat.lt_succ_self n, H, rfl, rfl⟩
      · replace H := cnf hb H
        refine WP.exitW ?_
        refine W.cv (Cv.weak (E' := ((⟨fun _ => .any, [3], []⟩ : Env).upd 6 (.ptr 0 0))) (M' := ((((Mem.nil.push (.cells 39 [.ptr 1 0])).push (.cells 74 [.lit (.int .i64 (List.getD x8491 0 (0 : Int))), .lit (.int .i64 (List.getD x8491 1 (0 : Int))), .lit (.int .i64 (List.getD x8491 2 (0 : Int))), .lit (.int .i64 (List.getD x8491 3 (0 : Int))), .lit (.int .i64 (List.getD x8491 4 (0 : Int))), .lit (.int .i64 (List.getD x8491 5 (0 : Int))), .lit (.int .i64 (List.getD x8491 6 (0 : Int))), .lit (.int .i64 (List.getD x8491 7 (0 : Int))), .lit (.int .i64 (List.getD x8491 8 (0 : Int))), .lit (.int .i64 (List.getD x8491 9 (0 : Int))), .lit (.int .i64 (List.getD x8491 10 (0 : Int))), .lit (.int .i64 (List.getD x8491 11 (0 : Int))), .lit (.int .i64 (List.getD x8491 12 (0 : Int))), .lit (.int .i64 (List.getD x8491 13 (0 : Int))), .lit (.int .i64 (List.getD x8491 14 (0 : Int))), .lit (.int .i64 (List.getD x8491 15 (0 : Int))), .whole 2])).push (.row 3 (Rd.int .i64) x8492)).push (.bag))) [0, 1, 2, 4] hnp ⟨rfl, ⟨⟨⟨⟨trivial, .inr ⟨rfl, rfl, rfl⟩⟩, .inr ⟨rfl, rfl, rfl⟩⟩, .inr ⟨rfl, rfl, rfl⟩⟩, .inr ⟨rfl, rfl, rfl⟩⟩, by decide, rfl, trivial⟩ (LeE.upd rfl rfl (LeE.noneD rfl rfl .nil))) rfl ?_
        refine W.now ?_
        refine Then.x ?_
        refine Then.x ?_
        have q0 := (Prod.mk.inj (Option.some.inj H)).1
        have q1 := (Prod.mk.inj (Option.some.inj H)).2
        subst q0
        subst q1
        exact ⟨rfl, rfl, rfl⟩
    · rintro _ _ _ ⟨rfl, rfl, rfl⟩
      refine W.now ?_
      refine InBlock.x0 ?_
      refine Then.n ?_
      refine WP.seq ?_
      refine WP.region ?_
      refine WPL.q (q_load sc39 rfl rfl rfl) rfl ?_
      refine WPL.q (q_as (v := .ptr _ _) rfl) rfl ?_
      refine WPL.q (q_as (v := .lit (.int _ _)) rfl) rfl ?_
      refine WPL.nilW ?_
      refine W.now ?_
      refine Then.n ?_
      refine WP.retW ?_
      refine W.now ?_
      have q0 := Option.some.inj H
      subst q0
      exact ⟨⟨.inr rfl, trivial⟩, _, rfl, [1, 2], (.tup [.ptr 0 0, .lit (.int .i64 0)]), ((Mem.nil.push (.cells 74 [.lit (.int .i64 (List.getD x8647 0 (0 : Int))), .lit (.int .i64 (List.getD x8647 1 (0 : Int))), .lit (.int .i64 (List.getD x8647 2 (0 : Int))), .lit (.int .i64 (List.getD x8647 3 (0 : Int))), .lit (.int .i64 (List.getD x8647 4 (0 : Int))), .lit (.int .i64 (List.getD x8647 5 (0 : Int))), .lit (.int .i64 (List.getD x8647 6 (0 : Int))), .lit (.int .i64 (List.getD x8647 7 (0 : Int))), .lit (.int .i64 (List.getD x8647 8 (0 : Int))), .lit (.int .i64 (List.getD x8647 9 (0 : Int))), .lit (.int .i64 (List.getD x8647 10 (0 : Int))), .lit (.int .i64 (List.getD x8647 11 (0 : Int))), .lit (.int .i64 (List.getD x8647 12 (0 : Int))), .lit (.int .i64 (List.getD x8647 13 (0 : Int))), .lit (.int .i64 (List.getD x8647 14 (0 : Int))), .lit (.int .i64 (List.getD x8647 15 (0 : Int))), .whole 1])).push (.row 3 (Rd.int .i64) x8648)), ⟨rfl, ⟨⟨trivial, .inr ⟨rfl, rfl, rfl⟩⟩, .inr ⟨rfl, rfl, rfl⟩⟩, by decide, rfl, trivial⟩, rfl, rfl, rfl, rfl⟩
set_option maxRecDepth 100000 in
set_option maxHeartbeats 4000000 in
theorem s24 (k : Nat) (x8994 : (List Int)) (x8995 : Int) (x8999 : Int) (H : f24 k x8994 x8995 = some x8999) : Go.Q.Spec Try.prog 24 1 [.ptr 0 0] (Mem.nil.push (.cells 46 [.ro (Rd.slice (Rd.int .u8)) false x8994, .lit (.int .i64 x8995)])) (fun o M => o = .ret (.lit (.int .i64 x8999)) ∧ M = (Mem.nil.push (.cells 46 [.ro (Rd.slice (Rd.int .u8)) false x8994, .lit (.int .i64 x8995)]))) := by
  unfold f24 at H
  refine Go.Q.Spec.of_bodyR (rs := [.tmp 2]) (nt := 14) Try.func24 rfl rfl (by intro t T h; simp at h) rfl rfl fun cx hnp => ?_
  refine WP.seq ?_
  refine WP.region ?_
  refine WPL.q (q_as (v := .lit (.int _ _)) rfl) rfl ?_
  refine WPL.nilW ?_
  refine W.now ?_
  refine Then.n ?_
  refine WP.seq ?_
  refine WP.regionD' 12 [0] [] mixed rfl ?_
  refine WPD.takeT 0 rfl (by kernel_rfl) (q_mv (v := .ptr _ _) rfl) rfl ?_
  refine WPD.takeT 1 rfl (by kernel_rfl) (q_nilCheck rfl) rfl ?_
  refine WPD.takeT 2 rfl (by kernel_rfl) (q_fieldAddr fi46_0 rfl rfl) rfl ?_
  refine WPD.takeT 6 rfl (by kernel_rfl) (q_mv (v := .ptr _ _) rfl) rfl ?_
  refine WPD.takeT 7 rfl (by kernel_rfl) (q_nilCheck rfl) rfl ?_
  refine WPD.takeT 8 rfl (by kernel_rfl) (q_fieldAddr fi46_1 rfl rfl) rfl ?_
  refine WPD.take 3 rfl (by kernel_rfl) (q_load sc38 rfl rfl rfl) rfl rfl ?_
  refine WPD.takeT 4 rfl (by kernel_rfl) (q_len_ro sl38 rfl) rfl ?_
  obtain ⟨x9001, h9001, H⟩ := bnd H
  refine WPD.takeT 5 rfl (by kernel_rfl) (q_nm (q_mul rfl rfl) (nm_int h9001)) rfl ?_
  refine WPD.take 9 rfl (by kernel_rfl) (q_load sc3 rfl rfl rfl) rfl rfl ?_
  refine WPD.takeT 10 rfl (by kernel_rfl) (q_sub rfl rfl) rfl ?_
  refine WPD.takeT 11 rfl (by kernel_rfl) (q_as (v := .lit (.int _ _)) rfl) rfl ?_
  refine WPD.doneW (by kernel_rfl) ?_
  refine W.now ?_
  refine Then.n ?_
  refine WP.retW ?_
  refine W.now ?_
  have q0 := (Option.some.inj H)
  subst q0
  exact ⟨trivial, _, rfl, [0], (.lit (.int .i64 (IntKind.wrap .i64 (x9001 - x8995)))), (Mem.nil.push (.cells 46 [.ro (Rd.slice (Rd.int .u8)) false x8994, .lit (.int .i64 x8995)])), ⟨rfl, ⟨trivial, .inr ⟨rfl, rfl, rfl⟩⟩, by decide, rfl, ⟨trivial, rfl⟩⟩, rfl, rfl, rfl, rfl⟩
set_option maxRecDepth 100000 in
set_option maxHeartbeats 4000000 in
theorem s42 (k : Nat) (x9006 : Int) (x9007 : (List Int)) (x9008 : Int) (x9013 : Int) (H : f42 k x9006 x9007 x9008 = some x9013) : Go.Q.Spec Try.prog 42 1 [.ptr 0 0, .lit (.int .i64 x9006)] (Mem.nil.push (.cells 46 [.ro (Rd.slice (Rd.int .u8)) false x9007, .lit (.int .i64 x9008)])) (fun o M => o = .ret (.lit (.int .u32 x9013)) ∧ M = (Mem.nil.push (.cells 46 [.ro (Rd.slice (Rd.int .u8)) false x9007, .lit (.int .i64 x9008)]))) := by
  unfold f42 at H
  refine Go.Q.Spec.of_bodyR (rs := [.tmp 4]) (nt := 19) Try.func42 rfl rfl (by intro t T h; simp at h) rfl rfl fun cx hnp => ?_
  refine WP.seq ?_
  refine WP.region ?_
  refine WPL.q (q_as (v := .lit (.int _ _)) rfl) rfl ?_
  refine WPL.nilW ?_
  refine W.now ?_
  refine Then.n ?_
  refine WP.seq ?_
  refine WP.region ?_
  refine WPL.q (q_mv (v := .ptr _ _) rfl) rfl ?_
  refine WPL.q (q_nilCheck rfl) rfl ?_
  refine WPL.q (q_fieldAddr fi46_0 rfl rfl) rfl ?_
  refine WPL.q (q_load sc38 rfl rfl rfl) rfl ?_
  refine WPL.q (q_mv (v := .lit (.int _ _)) rfl) rfl ?_
  refine WPL.q (q_quo rfl rfl rfl) rfl ?_
  obtain ⟨x9014, h9014, H⟩ := bnd H
  refine WPL.q (q_index_ro sl38 rfl rfl rfl h9014) rfl ?_
  refine WPL.q (q_load_sc sc5 rfl) rfl ?_
  refine WPL.q (q_mv (v := .lit (.int _ _)) rfl) rfl ?_
  refine WPL.q (q_rem rfl rfl rfl) rfl ?_
  refine WPL.q (q_conv Try.underlying3 Try.underlying27 rfl) rfl ?_
  obtain ⟨h9014, H⟩ := grd H
  obtain ⟨x9016, h9016, H⟩ := bnd H
  refine WPL.q (q_nm (q_shr rfl rfl h9014) (nm_int h9016)) rfl ?_
  refine WPL.q (q_conv Try.underlying5 Try.underlying35 rfl) rfl ?_
  refine WPL.q (q_and rfl rfl) rfl ?_
  refine WPL.q (q_as (v := .lit (.int _ _)) rfl) rfl ?_
  refine WPL.nilW ?_
  refine W.now ?_
  refine Then.n ?_
  refine WP.retW ?_
  refine W.now ?_
  have q0 := (Option.some.inj H)
  subst q0
  exact ⟨trivial, _, rfl, [0], (.lit (.int .u32 (bits .and .u32 (IntKind.wrap .u32 x9016) 1))), (Mem.nil.push (.cells 46 [.ro (Rd.slice (Rd.int .u8)) false x9007, .lit (.int .i64 x9008)])), ⟨rfl, ⟨trivial, .inr ⟨rfl, rfl, rfl⟩⟩, by decide, rfl, ⟨trivial, rfl⟩⟩, rfl, rfl, rfl, rfl⟩
set_option maxRecDepth 100000 in
set_option maxHeartbeats 4000000 in
theorem s37 (k : Nat) (x8982 : Int) (x8983 : (List Int)) (x8984 : Int) (x9029 : Int) (x9030 : Int) (x9031 : Int) (H : f37 k x8982 x8983 x8984 = some (x9029, x9030, x9031)) : Go.Q.Spec Try.prog 37 1 [.ptr 0 0, .lit (.int .i64 x8982)] (Mem.nil.push (.cells 46 [.ro (Rd.slice (Rd.int .u8)) false x8983, .lit (.int .i64 x8984)])) (fun o M => o = .ret (.tup [.lit (.int .u32 x9029), .lit (.int .i64 x9030)]) ∧ M = (Mem.nil.push (.cells 46 [.ro (Rd.slice (Rd.int .u8)) false x8983, .lit (.int .i64 x9031)]))) := by
  unfold f37 at H
  refine Go.Q.Spec.of_bodyR (rs := [.tmp 4, .tmp 5]) (nt := 46) Try.func37 rfl rfl (by intro t T h; simp at h) rfl rfl fun cx hnp => ?_
  refine WP.seq ?_
  refine WP.region ?_
  refine WPL.q (q_as (v := .lit (.int _ _)) rfl) rfl ?_
  refine WPL.q (q_as (v := .lit (.int _ _)) rfl) rfl ?_
  refine WPL.nilW ?_
  refine W.now ?_
  refine Then.n ?_
  refine WP.seq ?_
  refine WP.seq ?_
  obtain ⟨x9037, H9038, H⟩ := bnd H
  refine WP.monoW (Q := fun x E M => x = .normal ∧ E = (((Env.none.upd 0 (.ptr 0 0)).upd 1 (.lit (.int .i64 x8982))).upd 13 (.lit (.bool x9037))) ∧ M = (Mem.nil.push (.cells 46 [.ro (Rd.slice (Rd.int .u8)) false x8983, .lit (.int .i64 x8984)]))) ?_ ?_
  · clear H
    have H := H9038
    clear H9038
    refine WP.region ?_
    refine WPL.q (q_mv (v := .lit (.int _ _)) rfl) rfl ?_
    refine WPL.q (q_lss rfl rfl) rfl ?_
    refine WPL.q (q_mv (v := .lit (.bool _)) rfl) rfl ?_
    refine WPL.split (t := 10) (b := (decide (x8982 < 0))) rfl (fun hb9037 => ?_) (fun hb9037 => ?_)
    · replace H := cnt hb9037 H
      refine WPL.skipg (b' := true) rfl rfl (lb hb9037) rfl rfl ?_
      refine WPL.skipg (b' := true) rfl rfl (lb hb9037) rfl rfl ?_
      refine WPL.q (q_pickT (v := .lit (.bool _)) (lb hb9037) rfl) rfl ?_
      refine WPL.nilW ?_
      refine W.cv (Cv.weak (E' := (((Env.none.upd 0 (.ptr 0 0)).upd 1 (.lit (.int .i64 x8982))).upd 13 (.lit (.bool true)))) (M' := (Mem.nil.push (.cells 46 [.ro (Rd.slice (Rd.int .u8)) false x8983, .lit (.int .i64 x8984)]))) [0] hnp ⟨rfl, ⟨trivial, .inr ⟨rfl, rfl, rfl⟩⟩, by decide, rfl, ⟨trivial, rfl⟩⟩ (LeE.upd rfl rfl (LeE.upd rfl rfl (LeE.upd rfl rfl (LeE.none rfl rfl))))) rfl ?_
      refine W.now ?_
      have q0 := (Option.some.inj H)
      subst q0
      exact ⟨rfl, rfl, rfl⟩
    · replace H := cnf hb9037 H
      refine WPL.qg rfl rfl (lb hb9037) (q_mv (v := .lit (.int _ _)) rfl) rfl ?_
      refine WPL.qg rfl rfl (lb hb9037) (q_gtr rfl rfl) rfl ?_
      refine WPL.q (q_pickF (v := .lit (.bool _)) (lb hb9037) rfl) rfl ?_
      refine WPL.nilW ?_
      refine W.cv (Cv.weak (E' := (((Env.none.upd 0 (.ptr 0 0)).upd 1 (.lit (.int .i64 x8982))).upd 13 (.lit (.bool (decide (32 < x8982)))))) (M' := (Mem.nil.push (.cells 46 [.ro (Rd.slice (Rd.int .u8)) false x8983, .lit (.int .i64 x8984)]))) [0] hnp ⟨rfl, ⟨trivial, .inr ⟨rfl, rfl, rfl⟩⟩, by decide, rfl, ⟨trivial, rfl⟩⟩ (LeE.upd rfl rfl (LeE.upd rfl rfl (LeE.upd rfl rfl (LeE.none rfl rfl))))) rfl ?_
      refine W.now ?_
      have q0 := (Option.some.inj H)
      subst q0
      exact ⟨rfl, rfl, rfl⟩
  · rintro _ _ _ ⟨rfl, rfl, rfl⟩
    refine W.now ?_
    refine Then.n ?_
    refine WP.cond (t := x9037) rfl (fun hb => ?_) (fun hb => ?_)
    · replace H := cnt hb H
      refine WP.seq ?_
      refine WP.region ?_
      refine WPL.q (q_as (v := .lit (.int _ _)) rfl) rfl ?_
      refine WPL.q (q_as (v := .lit (.int _ _)) rfl) rfl ?_
      refine WPL.nilW ?_
      refine W.now ?_
      refine Then.n ?_
      refine WP.retW ?_
      refine W.now ?_
      refine Then.r ?_
      have q0 := (Prod.mk.inj (Option.some.inj H)).1
      have q1 := (Prod.mk.inj (Prod.mk.inj (Option.some.inj H)).2).1
      have q2 := (Prod.mk.inj (Prod.mk.inj (Option.some.inj H)).2).2
      subst q0
      subst q1
      subst q2
      exact ⟨trivial, _, rfl, [0], (.tup [.lit (.int .u32 0), .lit (.int .i64 1)]), (Mem.nil.push (.cells 46 [.ro (Rd.slice (Rd.int .u8)) false x8983, .lit (.int .i64 x8984)])), ⟨rfl, ⟨trivial, .inr ⟨rfl, rfl, rfl⟩⟩, by decide, rfl, ⟨trivial, rfl⟩⟩, rfl, rfl, rfl, rfl⟩
    · replace H := cnf hb H
      refine WP.skipW ?_
      refine W.now ?_
      refine Then.n ?_
      refine WP.seq ?_
      refine WP.seq ?_
      refine WP.region ?_
      refine WPL.q (q_mv (v := .lit (.int _ _)) rfl) rfl ?_
      refine WPL.q (q_mv (v := .ptr _ _) rfl) rfl ?_
      obtain ⟨x9043, h9041, H⟩ := bnd H
      refine WPL.c (runs_call (s := [0]) (t := [0]) (N := 1) (bor := []) fn24 rfl (s24 k x8983 x8984 x9043 h9041) ⟨rfl, ⟨trivial, .inr ⟨rfl, rfl, rfl⟩⟩, by decide, rfl, trivial⟩ rfl trivial (.ren rfl rfl .nil) rfl ⟨trivial, rfl⟩ rfl) rfl ?_
      refine WPL.q (q_gtr rfl rfl) rfl ?_
      refine WPL.nilW ?_
      refine W.now ?_
      refine Then.n ?_
      refine WP.cond (t := (decide (x9043 < x8982))) rfl (fun hb => ?_) (fun hb => ?_)
      · replace H := cnt hb H
        refine WP.seq ?_
        refine WP.region ?_
        refine WPL.q (q_as (v := .lit (.int _ _)) rfl) rfl ?_
        refine WPL.q (q_as (v := .lit (.int _ _)) rfl) rfl ?_
        refine WPL.nilW ?_
        refine W.now ?_
        refine Then.n ?_
        refine WP.retW ?_
        refine W.now ?_
        refine Then.r ?_
        have q0 := (Prod.mk.inj (Option.some.inj H)).1
        have q1 := (Prod.mk.inj (Prod.mk.inj (Option.some.inj H)).2).1
        have q2 := (Prod.mk.inj (Prod.mk.inj (Option.some.inj H)).2).2
        subst q0
        subst q1
        subst q2
        exact ⟨trivial, _, rfl, [0], (.tup [.lit (.int .u32 0), .lit (.int .i64 10)]), (Mem.nil.push (.cells 46 [.ro (Rd.slice (Rd.int .u8)) false x8983, .lit (.int .i64 x8984)])), ⟨rfl, ⟨trivial, .inr ⟨rfl, rfl, rfl⟩⟩, by decide, rfl, ⟨trivial, rfl⟩⟩, rfl, rfl, rfl, rfl⟩
      · replace H := cnf hb H
        refine WP.skipW ?_
        refine W.now ?_
        refine Then.n ?_
        refine WP.seq ?_
        refine WP.region ?_
        refine WPL.q (q_as (v := .lit (.int _ _)) rfl) rfl ?_
        refine WPL.nilW ?_
        refine W.now ?_
        refine Then.n ?_
        refine WP.seq ?_
        refine WP.seq ?_
        refine WP.region ?_
        refine WPL.q (q_as (v := .lit (.int _ _)) rfl) rfl ?_
        refine WPL.nilW ?_
        refine W.now ?_
        refine Then.n ?_
        refine WP.block ?_
        refine WP.cv (Cv.weak (E' := ((((Env.none.upd 0 (.ptr 0 0)).upd 1 (.lit (.int .i64 x8982))).upd 6 (.lit (.int .u32 0))).upd 7 (.lit (.int .i64 0)))) (M' := (Mem.nil.push (.cells 46 [.ro (Rd.slice (Rd.int .u8)) false x8983, .lit (.int .i64 x8984)]))) [0] hnp ⟨rfl, ⟨trivial, .inr ⟨rfl, rfl, rfl⟩⟩, by decide, rfl, ⟨trivial, rfl⟩⟩ (LeE.upd rfl rfl (LeE.upd rfl rfl (LeE.upd rfl rfl (LeE.upd rfl rfl (LeE.none rfl rfl)))))) ?_
        obtain ⟨x9054, H9058, H⟩ := bnd H
        refine WP.monoW (Q := fun x E M => x = .exit 0 ∧ E = (((Env.none.upd 0 (.ptr 0 0)).upd 1 (.lit (.int .i64 x8982))).upd 6 (.lit (.int .u32 x9054))) ∧ M = (Mem.nil.push (.cells 46 [.ro (Rd.slice (Rd.int .u8)) false x8983, .lit (.int .i64 x8984)]))) ?_ ?_
        · refine WP.loop (β := Int × Int) (fun n b => f37_l0 k x8982 x8983 x8984 n b.1 b.2 = some x9054) (fun b => ((((Env.none.upd 0 (.ptr 0 0)).upd 1 (.lit (.int .i64 x8982))).upd 6 (.lit (.int .u32 b.1))).upd 7 (.lit (.int .i64 b.2)))) (fun b => (Mem.nil.push (.cells 46 [.ro (Rd.slice (Rd.int .u8)) false x8983, .lit (.int .i64 x8984)]))) k (0, 0) H9058 rfl rfl ?_
          rintro n ⟨x9048, x9049⟩ H
          obtain _ | n := n
          · exact nf rfl H
          rw [f37_l0.eq_2] at H
          show WP _ _ _ _ ((((Env.none.upd 0 (.ptr 0 0)).upd 1 (.lit (.int .i64 x8982))).upd 6 (.lit (.int .u32 x9048))).upd 7 (.lit (.int .i64 x9049))) (Mem.nil.push (.cells 46 [.ro (Rd.slice (Rd.int .u8)) false x8983, .lit (.int .i64 x8984)])) _
          refine WP.seq ?_
          refine WP.seq ?_
          refine WP.region ?_
          refine WPL.q (q_mv (v := .lit (.int _ _)) rfl) rfl ?_
          refine WPL.q (q_mv (v := .lit (.int _ _)) rfl) rfl ?_
          refine WPL.q (q_lss rfl rfl) rfl ?_
          refine WPL.nilW ?_
          refine W.now ?_
          refine Then.n ?_
          refine WP.cond (t := (decide (x9049 < x8982))) rfl (fun hb => ?_) (fun hb => ?_)
          · replace H := cnt hb H
            refine WP.skipW ?_
            refine W.now ?_
            refine Then.n ?_
            refine WP.seq ?_
            refine WP.block ?_
            refine WP.region ?_
            refine WPL.q (q_mv (v := .lit (.int _ _)) rfl) rfl ?_
            refine WPL.q (q_mv (v := .ptr _ _) rfl) rfl ?_
            refine WPL.q (q_mv (v := .ptr _ _) rfl) rfl ?_
            refine WPL.q (q_nilCheck rfl) rfl ?_
            refine WPL.q (q_fieldAddr fi46_1 rfl rfl) rfl ?_
            refine WPL.q (q_load sc3 rfl rfl rfl) rfl ?_
            refine WPL.q (q_mv (v := .lit (.int _ _)) rfl) rfl ?_
            refine WPL.q (q_add rfl rfl) rfl ?_
            obtain ⟨x9056, h9054, H⟩ := bnd H
            refine WPL.c (runs_call (s := [0]) (t := [0]) (N := 1) (bor := []) fn42 rfl (s42 k (IntKind.wrap .i64 (x8984 + x9049)) x8983 x8984 x9056 h9054) ⟨rfl, ⟨trivial, .inr ⟨rfl, rfl, rfl⟩⟩, by decide, rfl, trivial⟩ rfl trivial (.ren rfl rfl (.ren rfl rfl .nil)) rfl ⟨trivial, rfl⟩ rfl) rfl ?_
            refine WPL.q (q_mv (v := .lit (.int _ _)) rfl) rfl ?_
            refine WPL.q (q_conv Try.underlying3 Try.underlying27 rfl) rfl ?_
            obtain ⟨h9056, H⟩ := grd H
            refine WPL.q (q_shl rfl rfl h9056) rfl ?_
            obtain ⟨x9058, h9058, H⟩ := bnd H
            refine WPL.q (q_nm (q_or rfl rfl) (nm_int h9058)) rfl ?_
            refine WPL.q (q_as (v := .lit (.int _ _)) rfl) rfl ?_
            refine WPL.nilW ?_
            refine W.now ?_
            refine InBlock.n ?_
            refine Then.n ?_
            refine WP.region ?_
            refine WPL.q (q_mv (v := .lit (.int _ _)) rfl) rfl ?_
            refine WPL.q (q_add rfl rfl) rfl ?_
            refine WPL.q (q_as (v := .lit (.int _ _)) rfl) rfl ?_
            refine WPL.nilW ?_
            refine W.cv (Cv.weak (E' := ((((Env.none.upd 0 (.ptr 0 0)).upd 1 (.lit (.int .i64 x8982))).upd 6 (.lit (.int .u32 x9058))).upd 7 (.lit (.int .i64 (IntKind.wrap .i64 (x9049 + 1)))))) (M' := (Mem.nil.push (.cells 46 [.ro (Rd.slice (Rd.int .u8)) false x8983, .lit (.int .i64 x8984)]))) [0] hnp ⟨rfl, ⟨trivial, .inr ⟨rfl, rfl, rfl⟩⟩, by decide, rfl, ⟨trivial, rfl⟩⟩ (LeE.upd rfl rfl (LeE.upd rfl rfl (LeE.upd rfl rfl (LeE.upd rfl rfl (LeE.none rfl rfl)))))) rfl ?_
            refine W.now ?_
            exact Then.n ⟨n, (x9058, (IntKind.wrap .i64 (x9049 + 1))), Nat.lt_succ_self n, H, rfl, rfl⟩
          · replace H := cnf hb H
            refine WP.exitW ?_
            refine W.cv (Cv.weak (E' := (((Env.none.upd 0 (.ptr 0 0)).upd 1 (.lit (.int .i64 x8982))).upd 6 (.lit (.int .u32 x9048)))) (M' := (Mem.nil.push (.cells 46 [.ro (Rd.slice (Rd.int .u8)) false x8983, .lit (.int .i64 x8984)]))) [0] hnp ⟨rfl, ⟨trivial, .inr ⟨rfl, rfl, rfl⟩⟩, by decide, rfl, ⟨trivial, rfl⟩⟩ (LeE.upd rfl rfl (LeE.upd rfl rfl (LeE.upd rfl rfl (LeE.none rfl rfl))))) rfl ?_
            refine W.now ?_
            refine Then.x ?_
            refine Then.x ?_
            have q0 := (Option.some.inj H)
            subst q0
            exact ⟨rfl, rfl, rfl⟩
        · rintro _ _ _ ⟨rfl, rfl, rfl⟩
          refine W.now ?_
          refine InBlock.x0 ?_
          refine Then.n ?_
          refine WP.seq ?_
          refine WP.region ?_
          refine WPL.q (q_mv (v := .ptr _ _) rfl) rfl ?_
          refine WPL.q (q_mv (v := .ptr _ _) rfl) rfl ?_
          refine WPL.q (q_nilCheck rfl) rfl ?_
          refine WPL.q (q_fieldAddr fi46_1 rfl rfl) rfl ?_
          refine WPL.q (q_load sc3 rfl rfl rfl) rfl ?_
          refine WPL.q (q_mv (v := .lit (.int _ _)) rfl) rfl ?_
          refine WPL.q (q_add rfl rfl) rfl ?_
          refine WPL.q (q_nilCheck rfl) rfl ?_
          refine WPL.q (q_fieldAddr fi46_1 rfl rfl) rfl ?_
          refine WPL.s (s_store sz3 rfl rfl rfl rfl rfl) ?_
          refine WPL.nilW ?_
          refine W.now ?_
          refine Then.n ?_
          refine WP.seq ?_
          refine WP.region ?_
          refine WPL.q (q_mv (v := .lit (.int _ _)) rfl) rfl ?_
          refine WPL.q (q_as (v := .lit (.int _ _)) rfl) rfl ?_
          refine WPL.q (q_as (v := .lit (.int _ _)) rfl) rfl ?_
          refine WPL.nilW ?_
          refine W.now ?_
          refine Then.n ?_
          refine WP.retW ?_
          refine W.now ?_
          have q0 := (Prod.mk.inj (Option.some.inj H)).1
          have q1 := (Prod.mk.inj (Prod.mk.inj (Option.some.inj H)).2).1
          have q2 := (Prod.mk.inj (Prod.mk.inj (Option.some.inj H)).2).2
          subst q0
          subst q1
          subst q2
          exact ⟨trivial, _, rfl, [0], (.tup [.lit (.int .u32 x9054), .lit (.int .i64 0)]), (Mem.nil.push (.cells 46 [.ro (Rd.slice (Rd.int .u8)) false x8983, .lit (.int .i64 (IntKind.wrap .i64 (x8984 + x8982)))])), ⟨rfl, ⟨trivial, .inr ⟨rfl, rfl, rfl⟩⟩, by decide, rfl, ⟨trivial, rfl⟩⟩, rfl, rfl, rfl, rfl⟩
end Go.Proofs.Ythgbompoldmhmaa.W
