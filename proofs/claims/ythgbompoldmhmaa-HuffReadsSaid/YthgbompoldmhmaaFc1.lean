/- Walks: Fc1 -/
import Derived.Test.YthgbompoldmhmaaFb
import Derived.Test.YthgbompoldmhmaaFc0
namespace Go.Proofs.Ythgbompoldmhmaa.W
open Go Go.Q Go.Proofs
set_option linter.unusedVariables false
set_option linter.unusedSimpArgs false
set_option maxRecDepth 100000 in
set_option maxHeartbeats 4000000 in
theorem s33b (k : Nat) (x818 : (List Int)) (x819 : Int) (H : f33 k x818 x819 = some ()) : Go.Q.Spec Try.prog 33 0 [.ro (Rd.slice (Rd.int .i64)) true x818, .lit (.int .i64 x819)] Mem.nil (fun o M => o = .ret (.fn 41 [.ptr 0 0, .ptr 1 0]) ∧ M = ((Mem.nil.push (.cells 22 [.ro (Rd.slice (Rd.int .i64)) true x818])).push (.cells 3 [.lit (.int .i64 x819)]))) := by
  unfold f33 at H
  refine Go.Q.Spec.of_bodyR (rs := [.tmp 4]) (nt := 6) Try.func33 rfl rfl (by intro t T h; simp at h) rfl rfl fun cx hnp => ?_
  refine WP.seq ?_
  refine WP.region ?_
  refine WPL.d (d_box rfl rfl) rfl ?_
  refine WPL.d (d_box rfl rfl) rfl ?_
  refine WPL.q (q_as (v := .lit _) rfl) rfl ?_
  refine WPL.nilW ?_
  refine W.now ?_
  refine Then.n ?_
  refine WP.seq ?_
  refine WP.region ?_
  refine WPL.q (q_makeFunc) rfl ?_
  refine WPL.q (q_as (v := .fn _ _) rfl) rfl ?_
  refine WPL.nilW ?_
  refine W.now ?_
  refine Then.n ?_
  refine WP.retW ?_
  refine W.now ?_
  exact ⟨trivial, _, rfl, [0, 1], (.fn 41 [.ptr 0 0, .ptr 1 0]), ((Mem.nil.push (.cells 22 [.ro (Rd.slice (Rd.int .i64)) true x818])).push (.cells 3 [.lit (.int .i64 x819)])), ⟨rfl, ⟨⟨trivial, .inr ⟨rfl, rfl, rfl⟩⟩, .inr ⟨rfl, rfl, rfl⟩⟩, by decide, rfl, trivial⟩, rfl, rfl, rfl, rfl⟩
set_option maxRecDepth 100000 in
set_option maxHeartbeats 4000000 in
theorem s14b (k : Nat) (x636 : (List Int)) (x997 : (List Int)) (x998 : Int) (H : f14 k x636 = some (x997, x998)) : Go.Q.Spec Try.prog 14 0 [.ro (Rd.slice (Rd.int .i64)) true x636] Mem.nil (fun o M => o = .ret (.tup [.ro (Rd.slice (Rd.int .u32)) false x997, .lit (.int .i64 x998)]) ∧ M = Mem.nil) := by
  unfold f14 at H
  refine Go.Q.Spec.of_bodyR (rs := [.tmp 2, .tmp 3]) (nt := 38) Try.func14 rfl rfl (by intro t T h; simp at h) rfl rfl fun cx hnp => ?_
  refine WP.seq ?_
  refine WP.region ?_
  refine WPL.q (q_as (v := .lit _) rfl) rfl ?_
  refine WPL.q (q_as (v := .lit (.int _ _)) rfl) rfl ?_
  refine WPL.nilW ?_
  refine W.now ?_
  refine Then.n ?_
  refine WP.seq ?_
  refine WP.seq ?_
  refine WP.region ?_
  refine WPL.q (q_mv (v := .ro _ _ _) rfl) rfl ?_
  obtain ⟨⟨x1003, x1004⟩, h1001, H⟩ := bnd H
  refine WPL.c (runs_call (s := []) (t := []) (N := 0) (bor := []) fn32 rfl (s32b k x636 x1003 x1004 h1001) ⟨rfl, trivial, by decide, rfl, trivial⟩ rfl trivial (.ren rfl rfl .nil) rfl trivial rfl) rfl ?_
  refine WPL.q (q_mv (v := .tup _) rfl) rfl ?_
  refine WPL.q (q_extract rfl rfl) rfl ?_
  refine WPL.q (q_extract rfl rfl) rfl ?_
  refine WPL.q (q_as (v := .lit (.bool _)) rfl) rfl ?_
  refine WPL.q (q_as (v := .lit (.int _ _)) rfl) rfl ?_
  refine WPL.nilW ?_
  refine W.now ?_
  refine Then.n ?_
  refine WP.seq ?_
  refine WP.region ?_
  refine WPL.q (q_mv (v := .lit (.int _ _)) rfl) rfl ?_
  refine WPL.q (q_neq rfl rfl) rfl ?_
  refine WPL.nilW ?_
  refine W.now ?_
  refine Then.n ?_
  refine WP.cond (t := (!decide (x1004 = 0))) rfl (fun hb => ?_) (fun hb => ?_)
  · replace H := cnt hb H
    refine WP.seq ?_
    refine WP.region ?_
    refine WPL.q (q_mv (v := .lit (.int _ _)) rfl) rfl ?_
    refine WPL.q (q_as (v := .lit _) rfl) rfl ?_
    refine WPL.q (q_as (v := .lit (.int _ _)) rfl) rfl ?_
    refine WPL.nilW ?_
    refine W.now ?_
    refine Then.n ?_
    refine WP.retW ?_
    refine W.cv (Cv.nilRo (Rd.int .u32) false 2 rfl) rfl ?_
    refine W.now ?_
    refine Then.r ?_
    have q0 := (Prod.mk.inj (Option.some.inj H)).1
    have q1 := (Prod.mk.inj (Option.some.inj H)).2
    subst q0
    subst q1
    exact ⟨trivial, _, rfl, [], (.tup [.ro (Rd.slice (Rd.int .u32)) false ([] : List Int), .lit (.int .i64 x1004)]), Mem.nil, ⟨rfl, trivial, by decide, rfl, trivial⟩, rfl, rfl, rfl, rfl⟩
  · replace H := cnf hb H
    refine WP.skipW ?_
    refine W.now ?_
    refine Then.n ?_
    refine WP.seq ?_
    refine WP.region ?_
    refine WPL.q (q_mv (v := .ro _ _ _) rfl) rfl ?_
    refine WPL.q (q_len_ro sl22 rfl) rfl ?_
    obtain ⟨h1004, H⟩ := grd H
    refine WPL.d (d_make (d := (0 : Int)) (R := (Rd.int .u32)) li32 by35 rfl rfl rfl Joins.sc rfl rfl h1004 rfl) rfl ?_
    refine WPL.d (d_alloc ze32 rfl) rfl ?_
    refine WPL.s (s_store sz32 rfl rfl rfl rfl rfl) ?_
    refine WPL.nilW ?_
    refine W.now ?_
    refine Then.n ?_
    refine WP.seq ?_
    refine WP.region ?_
    refine WPL.d (d_alloc ze35 rfl) rfl ?_
    refine WPL.s (s_store sz35 rfl rfl rfl rfl rfl) ?_
    refine WPL.nilW ?_
    refine W.now ?_
    refine Then.n ?_
    refine WP.seq ?_
    refine WP.seq ?_
    refine WP.region ?_
    refine WPL.q (q_as (v := .lit (.int _ _)) rfl) rfl ?_
    refine WPL.nilW ?_
    refine W.now ?_
    refine Then.n ?_
    refine WP.block ?_
    refine WP.cv (Cv.nullMark (N := 3) rfl rfl) ?_
    refine WP.cv (Cv.weak (E' := (((((⟨fun _ => .any, [3], []⟩ : Env).upd 0 (.ro (Rd.slice (Rd.int .i64)) true x636)).upd 6 (.ptr 0 0)).upd 7 (.ptr 2 0)).upd 8 (.lit (.int .i64 1)))) (M' := ((((Mem.nil.push (.cells 32 [.whole 1])).push (.row 35 (Rd.int .u32) (List.replicate (Int.toNat ((List.length x636 : Nat) : Int)) (0 : Int)))).push (.cells 35 [.lit (.int .u32 0)])).push (.bag))) [1, 0, 2, 3] hnp ⟨rfl, ⟨⟨⟨⟨trivial, .inr ⟨rfl, rfl, rfl⟩⟩, .inr ⟨rfl, rfl, rfl⟩⟩, .inr ⟨rfl, rfl, rfl⟩⟩, .inr ⟨rfl, rfl, rfl⟩⟩, by decide, rfl, trivial⟩ (LeE.upd rfl rfl (LeE.upd rfl rfl (LeE.upd rfl rfl (LeE.upd rfl rfl (LeE.noneD rfl rfl .nil)))))) ?_
    obtain ⟨x1184, H1268, H⟩ := bnd H
    refine WP.monoW (Q := fun x E M => x = .exit 0 ∧ E = ((⟨fun _ => .any, [2], []⟩ : Env).upd 6 (.ptr 0 0)) ∧ M = (((Mem.nil.push (.cells 32 [.whole 1])).push (.row 35 (Rd.int .u32) x1184)).push (.bag))) ?_ ?_
    · refine WP.loop (β := Int × (List Int) × Int) (fun n b => f14_l0 k x636 n b.1 b.2.1 b.2.2 = some x1184) (fun b => (((((⟨fun _ => .any, [3], []⟩ : Env).upd 0 (.ro (Rd.slice (Rd.int .i64)) true x636)).upd 6 (.ptr 0 0)).upd 7 (.ptr 2 0)).upd 8 (.lit (.int .i64 b.1)))) (fun b => ((((Mem.nil.push (.cells 32 [.whole 1])).push (.row 35 (Rd.int .u32) b.2.1)).push (.cells 35 [.lit (.int .u32 b.2.2)])).push (.bag))) k (1, (List.replicate (Int.toNat ((List.length x636 : Nat) : Int)) (0 : Int)), 0) H1268 rfl rfl ?_
      rintro n ⟨x1120, x1121, x1122⟩ H
      obtain _ | n := n
      · exact nf rfl H
      rw [f14_l0.eq_2] at H
      show WP _ _ _ _ (((((⟨fun _ => .any, [3], []⟩ : Env).upd 0 (.ro (Rd.slice (Rd.int .i64)) true x636)).upd 6 (.ptr 0 0)).upd 7 (.ptr 2 0)).upd 8 (.lit (.int .i64 x1120))) ((((Mem.nil.push (.cells 32 [.whole 1])).push (.row 35 (Rd.int .u32) x1121)).push (.cells 35 [.lit (.int .u32 x1122)])).push (.bag)) _
      refine WP.seq ?_
      refine WP.seq ?_
      refine WP.region ?_
      refine WPL.q (q_mv (v := .lit (.int _ _)) rfl) rfl ?_
      refine WPL.q (q_leq rfl rfl) rfl ?_
      refine WPL.nilW ?_
      refine W.now ?_
      refine Then.n ?_
      refine WP.cond (t := (decide (x1120 ≤ 15))) rfl (fun hb => ?_) (fun hb => ?_)
      · replace H := cnt hb H
        refine WP.skipW ?_
        refine W.now ?_
        refine Then.n ?_
        refine WP.seq ?_
        refine WP.block ?_
        refine WP.seq ?_
        refine WP.region ?_
        refine WPL.q (q_load sc35 rfl rfl rfl) rfl ?_
        refine WPL.q (q_shl rfl rfl rfl) rfl ?_
        refine WPL.s (s_store sz35 rfl rfl rfl rfl rfl) ?_
        refine WPL.nilW ?_
        refine W.now ?_
        refine Then.n ?_
        refine WP.seq ?_
        refine WP.region ?_
        refine WPL.q (q_mv (v := .ro _ _ _) rfl) rfl ?_
        refine WPL.q (q_mv (v := .lit (.int _ _)) rfl) rfl ?_
        obtain ⟨_, h1184, H⟩ := bnd H
        refine WPL.c (runs_call (s := []) (t := [4, 5]) (N := 6) (bor := []) fn33 rfl (s33b k x636 x1120 h1184) ⟨rfl, trivial, by decide, rfl, trivial⟩ rfl trivial (.ren rfl rfl (.ren rfl rfl .nil)) rfl ⟨⟨trivial, rfl⟩, rfl⟩ rfl) rfl ?_
        refine WPL.nilW ?_
        refine W.now ?_
        refine Then.n ?_
        refine WP.block ?_
        refine WP.range (nti := 23) (n := 6) rfl rfl Try.func41 rfl (by kernel_rfl) rfl rfl rfl rfl fun l_1185 r_1185 aC1185 hp1185 ha1185 hb1185 ht1185 hs1185 => ?_
        refine WP.seq ?_
        refine WP.region ?_
        refine WPL.q (q_load sc22 rfl rfl rfl) rfl ?_
        refine WPL.q (q_len_ro sl22 rfl) rfl ?_
        refine WPL.q (q_mv (v := .lit (.int _ _)) rfl) rfl ?_
        refine WPL.nilW ?_
        refine W.now ?_
        refine Then.n ?_
        refine WP.block ?_
        refine WP.cv (Cv.weak (E' := ((((((⟨fun _ => .any, [], [⟨aC1185, ((((((Env.none.upd 0 (.ro (Rd.slice (Rd.int .i64)) true x636)).upd 6 (.ptr 1 0)).upd 7 (.ptr 3 0)).upd 8 (.lit (.int .i64 x1120))).upd 29 (.fn 41 [.ptr 4 0, .ptr 0 0]))).v, [5, 6], some (7, l_1185)⟩]⟩ : Env).upd 0 (.lit (.func (.yield l_1185) #[] #[]))).upd 2 (.ptr 0 0)).upd 6 (.ro (Rd.slice (Rd.int .i64)) true x636)).upd 7 (.lit (.int .i64 ((List.length x636 : Nat) : Int)))).upd 8 (.lit (.int .i64 0)))) (M' := ((((((((Mem.nil.push (.cells 3 [.lit (.int .i64 x1120)])).push (.cells 32 [.whole 2])).push (.row 35 (Rd.int .u32) x1121)).push (.cells 35 [.lit (.int .u32 (shlI .u32 x1122 1))])).push (.cells 22 [.ro (Rd.slice (Rd.int .i64)) true x636])).push (.obj (Obj.deferred (some [])))).push (.bag)).push (.obj (lp r_1185 .ready none)))) [5, 0, 1, 2, 4, 6, 3, 7] hnp ⟨rfl, ⟨⟨⟨⟨⟨⟨⟨⟨trivial, .inr ⟨rfl, rfl, rfl⟩⟩, .inr ⟨rfl, rfl, rfl⟩⟩, .inr ⟨rfl, rfl, rfl⟩⟩, .inr ⟨rfl, rfl, rfl⟩⟩, .inr ⟨rfl, rfl, rfl⟩⟩, .inr ⟨rfl, rfl, rfl⟩⟩, .inr ⟨rfl, rfl, rfl⟩⟩, .inr ⟨rfl, rfl, rfl⟩⟩, by decide, rfl, trivial⟩ (LeE.upd rfl rfl (LeE.upd rfl rfl (LeE.upd rfl rfl (LeE.upd rfl rfl (LeE.upd rfl rfl (LeE.noneD rfl rfl (.cons ⟨rfl, (LeV.upd rfl rfl (LeV.upd rfl rfl (LeV.upd rfl rfl (LeV.upd rfl rfl (LeV.upd rfl rfl LeV.none))))), rfl, rfl, rfl, rfl⟩ .nil)))))))) ?_
        obtain ⟨y1268, H1266, H⟩ := bnd H
        refine WP.monoW (Q := fun x E M => match (generalizing := false) y1268 with | (Sum.inl (x1240, x1241)) => x = .ret ∧ E = (⟨fun _ => .any, [], [⟨aC1185, ((((((Env.none.upd 0 (.ro (Rd.slice (Rd.int .i64)) true x636)).upd 6 (.ptr 0 0)).upd 7 (.ptr 2 0)).upd 8 (.lit (.int .i64 x1120))).upd 29 (.fn 41 [.ptr 3 0, .ptr 4 0]))).v, [5, 6], some (7, l_1185)⟩]⟩ : Env) ∧ M = ((((((((Mem.nil.push (.cells 32 [.whole 1])).push (.row 35 (Rd.int .u32) x1240)).push (.cells 35 [.lit (.int .u32 x1241)])).push (.cells 22 [.ro (Rd.slice (Rd.int .i64)) true x636])).push (.cells 3 [.lit (.int .i64 x1120)])).push (.obj (Obj.deferred (some [])))).push (.bag)).push (.obj (lp r_1185 .ready none))) | (Sum.inr (x1242, x1243)) => x = .exit 0 ∧ E = (⟨fun _ => .any, [], [⟨aC1185, ((((((Env.none.upd 0 (.ro (Rd.slice (Rd.int .i64)) true x636)).upd 6 (.ptr 0 0)).upd 7 (.ptr 2 0)).upd 8 (.lit (.int .i64 x1120))).upd 29 (.fn 41 [.ptr 3 0, .ptr 4 0]))).v, [5, 6], some (7, l_1185)⟩]⟩ : Env) ∧ M = ((((((((Mem.nil.push (.cells 32 [.whole 1])).push (.row 35 (Rd.int .u32) x1242)).push (.cells 35 [.lit (.int .u32 x1243)])).push (.cells 22 [.ro (Rd.slice (Rd.int .i64)) true x636])).push (.cells 3 [.lit (.int .i64 x1120)])).push (.obj (Obj.deferred (some [])))).push (.bag)).push (.obj (lp r_1185 .ready none)))) ?_ ?_
        · refine WP.loop (β := Int × (List Int) × Int) (fun n b => f14_l1 k x636 x1120 n b.1 b.2.1 b.2.2 = some y1268) (fun b => ((((((⟨fun _ => .any, [], [⟨aC1185, ((((((Env.none.upd 0 (.ro (Rd.slice (Rd.int .i64)) true x636)).upd 6 (.ptr 1 0)).upd 7 (.ptr 3 0)).upd 8 (.lit (.int .i64 x1120))).upd 29 (.fn 41 [.ptr 4 0, .ptr 0 0]))).v, [5, 6], some (7, l_1185)⟩]⟩ : Env).upd 0 (.lit (.func (.yield l_1185) #[] #[]))).upd 2 (.ptr 0 0)).upd 6 (.ro (Rd.slice (Rd.int .i64)) true x636)).upd 7 (.lit (.int .i64 ((List.length x636 : Nat) : Int)))).upd 8 (.lit (.int .i64 b.1)))) (fun b => ((((((((Mem.nil.push (.cells 3 [.lit (.int .i64 x1120)])).push (.cells 32 [.whole 2])).push (.row 35 (Rd.int .u32) b.2.1)).push (.cells 35 [.lit (.int .u32 b.2.2)])).push (.cells 22 [.ro (Rd.slice (Rd.int .i64)) true x636])).push (.obj (Obj.deferred (some [])))).push (.bag)).push (.obj (lp r_1185 .ready none)))) k (0, x1121, (shlI .u32 x1122 1)) H1266 rfl rfl ?_
          rintro n ⟨x1214, x1215, x1216⟩ H
          obtain _ | n := n
          · exact nf rfl H
          rw [f14_l1.eq_2] at H
          show WP _ _ _ _ ((((((⟨fun _ => .any, [], [⟨aC1185, ((((((Env.none.upd 0 (.ro (Rd.slice (Rd.int .i64)) true x636)).upd 6 (.ptr 1 0)).upd 7 (.ptr 3 0)).upd 8 (.lit (.int .i64 x1120))).upd 29 (.fn 41 [.ptr 4 0, .ptr 0 0]))).v, [5, 6], some (7, l_1185)⟩]⟩ : Env).upd 0 (.lit (.func (.yield l_1185) #[] #[]))).upd 2 (.ptr 0 0)).upd 6 (.ro (Rd.slice (Rd.int .i64)) true x636)).upd 7 (.lit (.int .i64 ((List.length x636 : Nat) : Int)))).upd 8 (.lit (.int .i64 x1214))) ((((((((Mem.nil.push (.cells 3 [.lit (.int .i64 x1120)])).push (.cells 32 [.whole 2])).push (.row 35 (Rd.int .u32) x1215)).push (.cells 35 [.lit (.int .u32 x1216)])).push (.cells 22 [.ro (Rd.slice (Rd.int .i64)) true x636])).push (.obj (Obj.deferred (some [])))).push (.bag)).push (.obj (lp r_1185 .ready none))) _
          refine WP.seq ?_
          refine WP.region ?_
          obtain ⟨x1244, h1244, H⟩ := bnd H
          refine WPL.q (q_nm (q_lss rfl rfl) (nm_bool h1244)) rfl ?_
          refine WPL.nilW ?_
          refine W.now ?_
          refine Then.n ?_
          refine WP.seq ?_
          refine WP.cond (t := x1244) rfl (fun hb => ?_) (fun hb => ?_)
          · replace H := cnt hb H
            refine WP.skipW ?_
            refine W.now ?_
            refine Then.n ?_
            refine WP.seq ?_
            refine WP.block ?_
            refine WP.seq ?_
            refine WP.region ?_
            refine WPL.q (q_mv (v := .lit (.int _ _)) rfl) rfl ?_
            obtain ⟨x1256, h1256, H⟩ := bnd H
            refine WPL.q (q_index_ro sl22 rfl rfl rfl h1256) rfl ?_
            refine WPL.q (q_load_sc sc3 rfl) rfl ?_
            refine WPL.q (q_as (v := .lit (.int _ _)) rfl) rfl ?_
            refine WPL.q (q_as (v := .lit (.int _ _)) rfl) rfl ?_
            refine WPL.nilW ?_
            refine W.now ?_
            refine Then.n ?_
            refine WP.seq ?_
            obtain ⟨⟨x1260, x1261, x1262⟩, H1265, H⟩ := bnd H
            refine WP.monoW (Q := fun x E M => x = .normal ∧ E = (((((((⟨fun _ => .any, [], [⟨aC1185, ((((((Env.none.upd 0 (.ro (Rd.slice (Rd.int .i64)) true x636)).upd 6 (.ptr 1 0)).upd 7 (.ptr 3 0)).upd 8 (.lit (.int .i64 x1120))).upd 29 (.fn 41 [.ptr 4 0, .ptr 0 0]))).v, [5, 6], some (7, l_1185)⟩]⟩ : Env).upd 0 (.lit (.func (.yield l_1185) #[] #[]))).upd 2 (.ptr 0 0)).upd 6 (.ro (Rd.slice (Rd.int .i64)) true x636)).upd 7 (.lit (.int .i64 ((List.length x636 : Nat) : Int)))).upd 8 (.lit (.int .i64 x1214))).upd 21 (.lit (.bool x1260))) ∧ M = ((((((((Mem.nil.push (.cells 3 [.lit (.int .i64 x1120)])).push (.cells 32 [.whole 2])).push (.row 35 (Rd.int .u32) x1261)).push (.cells 35 [.lit (.int .u32 x1262)])).push (.cells 22 [.ro (Rd.slice (Rd.int .i64)) true x636])).push (.obj (Obj.deferred (some [])))).push (.bag)).push (.obj (lp r_1185 .ready none)))) ?_ ?_
            · clear H
              have H := H1265
              clear H1265
              refine WP.region ?_
              refine WPL.q (q_mv (v := .lit (.int _ _)) rfl) rfl ?_
              refine WPL.q (q_load sc3 rfl rfl rfl) rfl ?_
              refine WPL.q (q_eql rfl rfl) rfl ?_
              refine WPL.q (q_mv (v := .lit (.bool _)) rfl) rfl ?_
              refine WPL.split (t := 16) (b := (decide (x1256 = x1120))) rfl (fun hb1262 => ?_) (fun hb1262 => ?_)
              · replace H := cnt hb1262 H
                refine WPL.qg rfl rfl (lb hb1262) (q_mv (v := .lit _) rfl) rfl ?_
                refine WPL.qg rfl rfl (lb hb1262) (q_mv (v := .lit (.int _ _)) rfl) rfl ?_
                refine WPL.yg rfl rfl rfl rfl hp1185 ha1185 hb1185 ht1185 hs1185 rfl rfl rfl rfl rfl (lb hb1262) fun aI1263 => ?_
                refine WP.region ?_
                refine WPL.q (q_as (v := .lit (.int _ _)) rfl) rfl ?_
                refine WPL.nilW ?_
                refine W.now ?_
                refine ⟨rfl, rfl, _, _, _, _, _, _, rfl, rfl, ?_⟩
                refine WP.block ?_
                refine WP.seq ?_
                refine WP.region ?_
                refine WPL.q (q_load sc32 rfl rfl rfl) rfl ?_
                refine WPL.q (q_mv (v := .lit (.int _ _)) rfl) rfl ?_
                refine WPL.q (q_load sc35 rfl rfl rfl) rfl ?_
                obtain ⟨x1265, h1265, H⟩ := bnd H
                refine WPL.q (q_index_row sl32 rfl rfl rfl (ixs h1265)) rfl ?_
                refine WPL.s (s_store_row (j := (Int.toNat x1214)) (d := x1216) sz35 rfl rfl rfl rfl Joins.sc (ixl h1265)) ?_
                refine WPL.nilW ?_
                refine W.now ?_
                refine Then.n ?_
                refine WP.region ?_
                refine WPL.q (q_load sc35 rfl rfl rfl) rfl ?_
                refine WPL.q (q_add rfl rfl) rfl ?_
                refine WPL.s (s_store sz35 rfl rfl rfl rfl rfl) ?_
                refine WPL.nilW ?_
                refine W.now ?_
                refine InBlock.n ?_
                refine ⟨rfl, _, _, _, _, _, _, rfl, rfl, _, rfl, ?_⟩
                refine WPL.qg rfl rfl (lb hb1262) (q_not rfl) rfl ?_
                refine WPL.q (q_pickT (v := .lit (.bool _)) (lb hb1262) rfl) rfl ?_
                refine WPL.nilW ?_
                refine W.cv (Cv.weak (E' := (((((((⟨fun _ => .any, [], [⟨aC1185, ((((((Env.none.upd 0 (.ro (Rd.slice (Rd.int .i64)) true x636)).upd 6 (.ptr 1 0)).upd 7 (.ptr 3 0)).upd 8 (.lit (.int .i64 x1120))).upd 29 (.fn 41 [.ptr 4 0, .ptr 0 0]))).v, [5, 6], some (7, l_1185)⟩]⟩ : Env).upd 0 (.lit (.func (.yield l_1185) #[] #[]))).upd 2 (.ptr 0 0)).upd 6 (.ro (Rd.slice (Rd.int .i64)) true x636)).upd 7 (.lit (.int .i64 ((List.length x636 : Nat) : Int)))).upd 8 (.lit (.int .i64 x1214))).upd 21 (.lit (.bool (!true))))) (M' := ((((((((Mem.nil.push (.cells 3 [.lit (.int .i64 x1120)])).push (.cells 32 [.whole 2])).push (.row 35 (Rd.int .u32) (List.set x1215 (Int.toNat x1214) x1216))).push (.cells 35 [.lit (.int .u32 (IntKind.wrap .u32 (x1216 + 1)))])).push (.cells 22 [.ro (Rd.slice (Rd.int .i64)) true x636])).push (.obj (Obj.deferred (some [])))).push (.bag)).push (.obj (lp r_1185 .ready none)))) [0, 1, 2, 3, 4, 5, 6, 7] hnp ⟨rfl, ⟨⟨⟨⟨⟨⟨⟨⟨trivial, .inr ⟨rfl, rfl, rfl⟩⟩, .inr ⟨rfl, rfl, rfl⟩⟩, .inr ⟨rfl, rfl, rfl⟩⟩, .inr ⟨rfl, rfl, rfl⟩⟩, .inr ⟨rfl, rfl, rfl⟩⟩, .inr ⟨rfl, rfl, rfl⟩⟩, .inr ⟨rfl, rfl, rfl⟩⟩, .inr ⟨rfl, rfl, rfl⟩⟩, by decide, rfl, trivial⟩ (LeE.upd rfl rfl (LeE.upd rfl rfl (LeE.upd rfl rfl (LeE.upd rfl rfl (LeE.upd rfl rfl (LeE.upd rfl rfl (LeE.noneD rfl rfl (.cons ⟨rfl, (LeV.upd rfl rfl (LeV.upd rfl rfl (LeV.upd rfl rfl (LeV.upd rfl rfl (LeV.upd rfl rfl LeV.none))))), rfl, rfl, rfl, rfl⟩ .nil))))))))) rfl ?_
                refine W.now ?_
                have q0 := (Prod.mk.inj (Option.some.inj H)).1
                have q1 := (Prod.mk.inj (Prod.mk.inj (Option.some.inj H)).2).1
                have q2 := (Prod.mk.inj (Prod.mk.inj (Option.some.inj H)).2).2
                subst q0
                subst q1
                subst q2
                exact ⟨rfl, rfl, rfl⟩
              · replace H := cnf hb1262 H
                refine WPL.skipg (b' := false) rfl rfl (lb hb1262) rfl rfl ?_
                refine WPL.skipg (b' := false) rfl rfl (lb hb1262) rfl rfl ?_
                refine WPL.skipg (b' := false) rfl rfl (lb hb1262) rfl rfl ?_
                refine WPL.skipg (b' := false) rfl rfl (lb hb1262) rfl rfl ?_
                refine WPL.q (q_pickF (v := .lit (.bool _)) (lb hb1262) rfl) rfl ?_
                refine WPL.nilW ?_
                refine W.cv (Cv.weak (E' := (((((((⟨fun _ => .any, [], [⟨aC1185, ((((((Env.none.upd 0 (.ro (Rd.slice (Rd.int .i64)) true x636)).upd 6 (.ptr 1 0)).upd 7 (.ptr 3 0)).upd 8 (.lit (.int .i64 x1120))).upd 29 (.fn 41 [.ptr 4 0, .ptr 0 0]))).v, [5, 6], some (7, l_1185)⟩]⟩ : Env).upd 0 (.lit (.func (.yield l_1185) #[] #[]))).upd 2 (.ptr 0 0)).upd 6 (.ro (Rd.slice (Rd.int .i64)) true x636)).upd 7 (.lit (.int .i64 ((List.length x636 : Nat) : Int)))).upd 8 (.lit (.int .i64 x1214))).upd 21 (.lit (.bool false)))) (M' := ((((((((Mem.nil.push (.cells 3 [.lit (.int .i64 x1120)])).push (.cells 32 [.whole 2])).push (.row 35 (Rd.int .u32) x1215)).push (.cells 35 [.lit (.int .u32 x1216)])).push (.cells 22 [.ro (Rd.slice (Rd.int .i64)) true x636])).push (.obj (Obj.deferred (some [])))).push (.bag)).push (.obj (lp r_1185 .ready none)))) [0, 1, 2, 3, 4, 5, 6, 7] hnp ⟨rfl, ⟨⟨⟨⟨⟨⟨⟨⟨trivial, .inr ⟨rfl, rfl, rfl⟩⟩, .inr ⟨rfl, rfl, rfl⟩⟩, .inr ⟨rfl, rfl, rfl⟩⟩, .inr ⟨rfl, rfl, rfl⟩⟩, .inr ⟨rfl, rfl, rfl⟩⟩, .inr ⟨rfl, rfl, rfl⟩⟩, .inr ⟨rfl, rfl, rfl⟩⟩, .inr ⟨rfl, rfl, rfl⟩⟩, by decide, rfl, trivial⟩ (LeE.upd rfl rfl (LeE.upd rfl rfl (LeE.upd rfl rfl (LeE.upd rfl rfl (LeE.upd rfl rfl (LeE.upd rfl rfl (LeE.noneD rfl rfl (.cons ⟨rfl, (LeV.upd rfl rfl (LeV.upd rfl rfl (LeV.upd rfl rfl (LeV.upd rfl rfl (LeV.upd rfl rfl LeV.none))))), rfl, rfl, rfl, rfl⟩ .nil))))))))) rfl ?_
                refine W.now ?_
                have q0 := (Prod.mk.inj (Option.some.inj H)).1
                have q1 := (Prod.mk.inj (Prod.mk.inj (Option.some.inj H)).2).1
                have q2 := (Prod.mk.inj (Prod.mk.inj (Option.some.inj H)).2).2
                subst q0
                subst q1
                subst q2
                exact ⟨rfl, rfl, rfl⟩
            · rintro _ _ _ ⟨rfl, rfl, rfl⟩
              refine W.now ?_
              refine Then.n ?_
              refine WP.cond (t := x1260) rfl (fun hb => ?_) (fun hb => ?_)
              · replace H := cnt hb H
                refine WP.retW ?_
                refine W.cv (Cv.weak (E' := (⟨fun _ => .any, [], [⟨aC1185, ((((((Env.none.upd 0 (.ro (Rd.slice (Rd.int .i64)) true x636)).upd 6 (.ptr 0 0)).upd 7 (.ptr 2 0)).upd 8 (.lit (.int .i64 x1120))).upd 29 (.fn 41 [.ptr 3 0, .ptr 4 0]))).v, [5, 6], some (7, l_1185)⟩]⟩ : Env)) (M' := ((((((((Mem.nil.push (.cells 32 [.whole 1])).push (.row 35 (Rd.int .u32) x1261)).push (.cells 35 [.lit (.int .u32 x1262)])).push (.cells 22 [.ro (Rd.slice (Rd.int .i64)) true x636])).push (.cells 3 [.lit (.int .i64 x1120)])).push (.obj (Obj.deferred (some [])))).push (.bag)).push (.obj (lp r_1185 .ready none)))) [1, 2, 3, 4, 0, 5, 6, 7] hnp ⟨rfl, ⟨⟨⟨⟨⟨⟨⟨⟨trivial, .inr ⟨rfl, rfl, rfl⟩⟩, .inr ⟨rfl, rfl, rfl⟩⟩, .inr ⟨rfl, rfl, rfl⟩⟩, .inr ⟨rfl, rfl, rfl⟩⟩, .inr ⟨rfl, rfl, rfl⟩⟩, .inr ⟨rfl, rfl, rfl⟩⟩, .inr ⟨rfl, rfl, rfl⟩⟩, .inr ⟨rfl, rfl, rfl⟩⟩, by decide, rfl, trivial⟩ (LeE.noneD rfl rfl (.cons ⟨rfl, (LeV.upd rfl rfl (LeV.upd rfl rfl (LeV.upd rfl rfl (LeV.upd rfl rfl (LeV.upd rfl rfl LeV.none))))), rfl, rfl, rfl, rfl⟩ .nil))) rfl ?_
                refine W.now ?_
                refine InBlock.r ?_
                refine Then.r ?_
                refine Then.r ?_
                have q0 := Option.some.inj H
                subst q0
                exact ⟨rfl, rfl, rfl⟩
              · replace H := cnf hb H
                refine WP.skipW ?_
                refine W.now ?_
                refine InBlock.n ?_
                refine Then.n ?_
                refine WP.region ?_
                refine WPL.q (q_add rfl rfl) rfl ?_
                refine WPL.q (q_mv (v := .lit (.int _ _)) rfl) rfl ?_
                refine WPL.nilW ?_
                refine W.cv (Cv.weak (E' := ((((((⟨fun _ => .any, [], [⟨aC1185, ((((((Env.none.upd 0 (.ro (Rd.slice (Rd.int .i64)) true x636)).upd 6 (.ptr 1 0)).upd 7 (.ptr 3 0)).upd 8 (.lit (.int .i64 x1120))).upd 29 (.fn 41 [.ptr 4 0, .ptr 0 0]))).v, [5, 6], some (7, l_1185)⟩]⟩ : Env).upd 0 (.lit (.func (.yield l_1185) #[] #[]))).upd 2 (.ptr 0 0)).upd 6 (.ro (Rd.slice (Rd.int .i64)) true x636)).upd 7 (.lit (.int .i64 ((List.length x636 : Nat) : Int)))).upd 8 (.lit (.int .i64 (IntKind.wrap .i64 (x1214 + 1)))))) (M' := ((((((((Mem.nil.push (.cells 3 [.lit (.int .i64 x1120)])).push (.cells 32 [.whole 2])).push (.row 35 (Rd.int .u32) x1261)).push (.cells 35 [.lit (.int .u32 x1262)])).push (.cells 22 [.ro (Rd.slice (Rd.int .i64)) true x636])).push (.obj (Obj.deferred (some [])))).push (.bag)).push (.obj (lp r_1185 .ready none)))) [0, 1, 2, 3, 4, 5, 6, 7] hnp ⟨rfl, ⟨⟨⟨⟨⟨⟨⟨⟨trivial, .inr ⟨rfl, rfl, rfl⟩⟩, .inr ⟨rfl, rfl, rfl⟩⟩, .inr ⟨rfl, rfl, rfl⟩⟩, .inr ⟨rfl, rfl, rfl⟩⟩, .inr ⟨rfl, rfl, rfl⟩⟩, .inr ⟨rfl, rfl, rfl⟩⟩, .inr ⟨rfl, rfl, rfl⟩⟩, .inr ⟨rfl, rfl, rfl⟩⟩, by decide, rfl, trivial⟩ (LeE.upd rfl rfl (LeE.upd rfl rfl (LeE.upd rfl rfl (LeE.upd rfl rfl (LeE.upd rfl rfl (LeE.noneD rfl rfl (.cons ⟨rfl, (LeV.upd rfl rfl (LeV.upd rfl rfl (LeV.upd rfl rfl (LeV.upd rfl rfl (LeV.upd rfl rfl LeV.none))))), rfl, rfl, rfl, rfl⟩ .nil)))))))) rfl ?_
                refine W.now ?_
                exact Then.n ⟨n, ((IntKind.wrap .i64 (x1214 + 1)), x1261, x1262), Nat.lt_succ_self n, H, rfl, rfl⟩
          · replace H := cnf hb H
            refine WP.exitW ?_
            refine W.cv (Cv.weak (E' := (⟨fun _ => .any, [], [⟨aC1185, ((((((Env.none.upd 0 (.ro (Rd.slice (Rd.int .i64)) true x636)).upd 6 (.ptr 0 0)).upd 7 (.ptr 2 0)).upd 8 (.lit (.int .i64 x1120))).upd 29 (.fn 41 [.ptr 3 0, .ptr 4 0]))).v, [5, 6], some (7, l_1185)⟩]⟩ : Env)) (M' := ((((((((Mem.nil.push (.cells 32 [.whole 1])).push (.row 35 (Rd.int .u32) x1215)).push (.cells 35 [.lit (.int .u32 x1216)])).push (.cells 22 [.ro (Rd.slice (Rd.int .i64)) true x636])).push (.cells 3 [.lit (.int .i64 x1120)])).push (.obj (Obj.deferred (some [])))).push (.bag)).push (.obj (lp r_1185 .ready none)))) [1, 2, 3, 4, 0, 5, 6, 7] hnp ⟨rfl, ⟨⟨⟨⟨⟨⟨⟨⟨trivial, .inr ⟨rfl, rfl, rfl⟩⟩, .inr ⟨rfl, rfl, rfl⟩⟩, .inr ⟨rfl, rfl, rfl⟩⟩, .inr ⟨rfl, rfl, rfl⟩⟩, .inr ⟨rfl, rfl, rfl⟩⟩, .inr ⟨rfl, rfl, rfl⟩⟩, .inr ⟨rfl, rfl, rfl⟩⟩, .inr ⟨rfl, rfl, rfl⟩⟩, by decide, rfl, trivial⟩ (LeE.noneD rfl rfl (.cons ⟨rfl, (LeV.upd rfl rfl (LeV.upd rfl rfl (LeV.upd rfl rfl (LeV.upd rfl rfl (LeV.upd rfl rfl LeV.none))))), rfl, rfl, rfl, rfl⟩ .nil))) rfl ?_
            refine W.now ?_
            refine Then.x ?_
            refine Then.x ?_
            have q0 := Option.some.inj H
            subst q0
            exact ⟨rfl, rfl, rfl⟩
        · rcases y1268 with ⟨x1240, x1241⟩ | ⟨x1242, x1243⟩
          · rintro _ _ _ ⟨rfl, rfl, rfl⟩
            refine W.now ?_
            refine InBlock.r ?_
            refine ⟨trivial, _, _, _, _, rfl, _, _, rfl, (fun h => by cases h), ?_⟩
            refine W.cv (Cv.absorb (N := 8) (j := 5) (i := 6) rfl rfl rfl rfl) rfl ?_
            refine W.now ?_
            refine InBlock.n ?_
            refine InBlock.n ?_
            refine Then.n ?_
            refine WP.region ?_
            refine WPL.q (q_mv (v := .lit (.int _ _)) rfl) rfl ?_
            refine WPL.q (q_add rfl rfl) rfl ?_
            refine WPL.q (q_as (v := .lit (.int _ _)) rfl) rfl ?_
            refine WPL.nilW ?_
            refine W.cv (Cv.weak (E' := (((((⟨fun _ => .any, [3], []⟩ : Env).upd 0 (.ro (Rd.slice (Rd.int .i64)) true x636)).upd 6 (.ptr 0 0)).upd 7 (.ptr 2 0)).upd 8 (.lit (.int .i64 (IntKind.wrap .i64 (x1120 + 1)))))) (M' := ((((Mem.nil.push (.cells 32 [.whole 1])).push (.row 35 (Rd.int .u32) x1240)).push (.cells 35 [.lit (.int .u32 x1241)])).push (.bag))) [0, 1, 2, 8] hnp ⟨rfl, ⟨⟨⟨⟨trivial, .inr ⟨rfl, rfl, rfl⟩⟩, .inr ⟨rfl, rfl, rfl⟩⟩, .inr ⟨rfl, rfl, rfl⟩⟩, .inr ⟨rfl, rfl, rfl⟩⟩, by decide, rfl, trivial⟩ (LeE.upd rfl rfl (LeE.upd rfl rfl (LeE.upd rfl rfl (LeE.upd rfl rfl (LeE.noneD rfl rfl .nil)))))) rfl ?_
            refine W.now ?_
            exact Then.n ⟨n, ((IntKind.wrap .i64 (x1120 + 1)), x1240, x1241), Nat.lt_succ_self n, H, rfl, rfl⟩
          · rintro _ _ _ ⟨rfl, rfl, rfl⟩
            refine W.now ?_
            refine InBlock.x0 ?_
            refine ⟨trivial, _, _, _, _, rfl, _, _, rfl, (fun h => by cases h), ?_⟩
            refine W.cv (Cv.absorb (N := 8) (j := 5) (i := 6) rfl rfl rfl rfl) rfl ?_
            refine W.now ?_
            refine InBlock.n ?_
            refine InBlock.n ?_
            refine Then.n ?_
            refine WP.region ?_
            refine WPL.q (q_mv (v := .lit (.int _ _)) rfl) rfl ?_
            refine WPL.q (q_add rfl rfl) rfl ?_
            refine WPL.q (q_as (v := .lit (.int _ _)) rfl) rfl ?_
            refine WPL.nilW ?_
            refine W.cv (Cv.weak (E' := (((((⟨fun _ => .any, [3], []⟩ : Env).upd 0 (.ro (Rd.slice (Rd.int .i64)) true x636)).upd 6 (.ptr 0 0)).upd 7 (.ptr 2 0)).upd 8 (.lit (.int .i64 (IntKind.wrap .i64 (x1120 + 1)))))) (M' := ((((Mem.nil.push (.cells 32 [.whole 1])).push (.row 35 (Rd.int .u32) x1242)).push (.cells 35 [.lit (.int .u32 x1243)])).push (.bag))) [0, 1, 2, 8] hnp ⟨rfl, ⟨⟨⟨⟨trivial, .inr ⟨rfl, rfl, rfl⟩⟩, .inr ⟨rfl, rfl, rfl⟩⟩, .inr ⟨rfl, rfl, rfl⟩⟩, .inr ⟨rfl, rfl, rfl⟩⟩, by decide, rfl, trivial⟩ (LeE.upd rfl rfl (LeE.upd rfl rfl (LeE.upd rfl rfl (LeE.upd rfl rfl (LeE.noneD rfl rfl .nil)))))) rfl ?_
            refine W.now ?_
            exact Then.n ⟨n, ((IntKind.wrap .i64 (x1120 + 1)), x1242, x1243), Nat.lt_succ_self n, H, rfl, rfl⟩
      · replace H := cnf hb H
        refine WP.exitW ?_
        refine W.cv (Cv.weak (E' := ((⟨fun _ => .any, [2], []⟩ : Env).upd 6 (.ptr 0 0))) (M' := (((Mem.nil.push (.cells 32 [.whole 1])).push (.row 35 (Rd.int .u32) x1121)).push (.bag))) [0, 1, 3] hnp ⟨rfl, ⟨⟨⟨trivial, .inr ⟨rfl, rfl, rfl⟩⟩, .inr ⟨rfl, rfl, rfl⟩⟩, .inr ⟨rfl, rfl, rfl⟩⟩, by decide, rfl, trivial⟩ (LeE.upd rfl rfl (LeE.noneD rfl rfl .nil))) rfl ?_
        refine W.now ?_
        refine Then.x ?_
        refine Then.x ?_
        have q0 := (Option.some.inj H)
        subst q0
        exact ⟨rfl, rfl, rfl⟩
    · rintro _ _ _ ⟨rfl, rfl, rfl⟩
      refine W.now ?_
      refine InBlock.x0 ?_
      refine Then.n ?_
      refine WP.seq ?_
      refine WP.region ?_
      refine WPL.q (q_load sc32 rfl rfl rfl) rfl ?_
      refine WPL.q (q_as (v := .whole _) rfl) rfl ?_
      refine WPL.q (q_as (v := .lit (.int _ _)) rfl) rfl ?_
      refine WPL.nilW ?_
      refine W.now ?_
      refine Then.n ?_
      refine WP.retW ?_
      refine W.cv (Cv.frzRow (i := 1) rfl rfl hnp rfl rfl) rfl ?_
      refine W.now ?_
      have q0 := (Prod.mk.inj (Option.some.inj H)).1
      have q1 := (Prod.mk.inj (Option.some.inj H)).2
      subst q0
      subst q1
      exact ⟨⟨.inr rfl, trivial⟩, _, rfl, [], (.tup [.ro (Rd.slice (Rd.int .u32)) false x1184, .lit (.int .i64 0)]), Mem.nil, ⟨rfl, trivial, by decide, rfl, trivial⟩, rfl, rfl, rfl, rfl⟩
set_option maxRecDepth 100000 in
set_option maxHeartbeats 4000000 in
theorem s38 (k : Nat) (x1414 : Int) (H : f38 k x1414 = some ()) : Go.Q.Spec Try.prog 38 0 [.lit (.int .i64 x1414)] Mem.nil (fun o M => o = .ret (.lit (.bool (!decide (x1414 = x1414)))) ∧ M = Mem.nil) := by
  unfold f38 at H
  refine Go.Q.Spec.of_bodyR (rs := [.tmp 2]) (nt := 6) Try.func38 rfl rfl (by intro t T h; simp at h) rfl rfl fun cx hnp => ?_
  refine WP.seq ?_
  refine WP.region ?_
  refine WPL.q (q_as (v := .lit (.bool _)) rfl) rfl ?_
  refine WPL.nilW ?_
  refine W.now ?_
  refine Then.n ?_
  refine WP.seq ?_
  refine WP.region ?_
  refine WPL.q (q_mv (v := .lit (.int _ _)) rfl) rfl ?_
  refine WPL.q (q_mv (v := .lit (.int _ _)) rfl) rfl ?_
  refine WPL.q (q_neq rfl rfl) rfl ?_
  refine WPL.q (q_as (v := .lit (.bool _)) rfl) rfl ?_
  refine WPL.nilW ?_
  refine W.now ?_
  refine Then.n ?_
  refine WP.retW ?_
  refine W.now ?_
  exact ⟨trivial, _, rfl, [], (.lit (.bool (!decide (x1414 = x1414)))), Mem.nil, ⟨rfl, trivial, by decide, rfl, trivial⟩, rfl, rfl, rfl, rfl⟩
set_option maxRecDepth 100000 in
set_option maxHeartbeats 4000000 in
theorem s26 (k : Nat) (x1411 : Int) (x1412 : Int) (x1418 : Int) (H : f26 k x1411 x1412 = some x1418) : Go.Q.Spec Try.prog 26 0 [.lit (.int .i64 x1411), .lit (.int .i64 x1412)] Mem.nil (fun o M => o = .ret (.lit (.int .i64 x1418)) ∧ M = Mem.nil) := by
  unfold f26 at H
  refine Go.Q.Spec.of_bodyR (rs := [.tmp 4]) (nt := 20) Try.func26 rfl rfl (by intro t T h; simp at h) rfl rfl fun cx hnp => ?_
  refine WP.seq ?_
  refine WP.region ?_
  refine WPL.q (q_as (v := .lit (.int _ _)) rfl) rfl ?_
  refine WPL.nilW ?_
  refine W.now ?_
  refine Then.n ?_
  refine WP.seq ?_
  refine WP.region ?_
  refine WPL.q (q_mv (v := .lit (.int _ _)) rfl) rfl ?_
  obtain ⟨_, h1418, H⟩ := bnd H
  refine WPL.c (runs_call (s := []) (t := []) (N := 0) (bor := []) fn38 rfl (s38 k x1411 h1418) ⟨rfl, trivial, by decide, rfl, trivial⟩ rfl trivial (.ren rfl rfl .nil) rfl trivial rfl) rfl ?_
  refine WPL.q (q_as (v := .lit (.bool _)) rfl) rfl ?_
  refine WPL.nilW ?_
  refine W.now ?_
  refine Then.n ?_
  refine WP.seq ?_
  refine WP.region ?_
  refine WPL.q (q_mv (v := .lit (.int _ _)) rfl) rfl ?_
  obtain ⟨_, h1419, H⟩ := bnd H
  refine WPL.c (runs_call (s := []) (t := []) (N := 0) (bor := []) fn38 rfl (s38 k x1412 h1419) ⟨rfl, trivial, by decide, rfl, trivial⟩ rfl trivial (.ren rfl rfl .nil) rfl trivial rfl) rfl ?_
  refine WPL.q (q_as (v := .lit (.bool _)) rfl) rfl ?_
  refine WPL.nilW ?_
  refine W.now ?_
  refine Then.n ?_
  refine WP.seq ?_
  refine WP.seq ?_
  refine WP.region ?_
  refine WPL.q (q_mv (v := .lit (.bool _)) rfl) rfl ?_
  refine WPL.nilW ?_
  refine W.now ?_
  refine Then.n ?_
  refine WP.cond (t := (!decide (x1411 = x1411))) rfl (fun hb => ?_) (fun hb => ?_)
  · replace H := cnt hb H
    refine WP.seq ?_
    refine WP.seq ?_
    refine WP.region ?_
    refine WPL.q (q_mv (v := .lit (.bool _)) rfl) rfl ?_
    refine WPL.nilW ?_
    refine W.now ?_
    refine Then.n ?_
    refine WP.cond (t := (!decide (x1412 = x1412))) rfl (fun hb => ?_) (fun hb => ?_)
    · replace H := cnt hb H
      refine WP.seq ?_
      refine WP.region ?_
      refine WPL.q (q_as (v := .lit (.int _ _)) rfl) rfl ?_
      refine WPL.nilW ?_
      refine W.now ?_
      refine Then.n ?_
      refine WP.retW ?_
      refine W.now ?_
      refine Then.r ?_
      refine Then.r ?_
      have q0 := (Option.some.inj H)
      subst q0
      exact ⟨trivial, _, rfl, [], (.lit (.int .i64 0)), Mem.nil, ⟨rfl, trivial, by decide, rfl, trivial⟩, rfl, rfl, rfl, rfl⟩
    · replace H := cnf hb H
      refine WP.skipW ?_
      refine W.now ?_
      refine Then.n ?_
      refine WP.seq ?_
      refine WP.region ?_
      refine WPL.q (q_as (v := .lit (.int _ _)) rfl) rfl ?_
      refine WPL.nilW ?_
      refine W.now ?_
      refine Then.n ?_
      refine WP.retW ?_
      refine W.now ?_
      refine Then.r ?_
      have q0 := (Option.some.inj H)
      subst q0
      exact ⟨trivial, _, rfl, [], (.lit (.int .i64 (-1))), Mem.nil, ⟨rfl, trivial, by decide, rfl, trivial⟩, rfl, rfl, rfl, rfl⟩
  · replace H := cnf hb H
    refine WP.skipW ?_
    refine W.now ?_
    refine Then.n ?_
    refine WP.seq ?_
    refine WP.seq ?_
    refine WP.region ?_
    refine WPL.q (q_mv (v := .lit (.bool _)) rfl) rfl ?_
    refine WPL.nilW ?_
    refine W.now ?_
    refine Then.n ?_
    refine WP.cond (t := (!decide (x1412 = x1412))) rfl (fun hb => ?_) (fun hb => ?_)
    · replace H := cnt hb H
      refine WP.seq ?_
      refine WP.region ?_
      refine WPL.q (q_as (v := .lit (.int _ _)) rfl) rfl ?_
      refine WPL.nilW ?_
      refine W.now ?_
      refine Then.n ?_
      refine WP.retW ?_
      refine W.now ?_
      refine Then.r ?_
      have q0 := (Option.some.inj H)
      subst q0
      exact ⟨trivial, _, rfl, [], (.lit (.int .i64 1)), Mem.nil, ⟨rfl, trivial, by decide, rfl, trivial⟩, rfl, rfl, rfl, rfl⟩
    · replace H := cnf hb H
      refine WP.skipW ?_
      refine W.now ?_
      refine Then.n ?_
      refine WP.seq ?_
      refine WP.seq ?_
      refine WP.region ?_
      refine WPL.q (q_mv (v := .lit (.int _ _)) rfl) rfl ?_
      refine WPL.q (q_mv (v := .lit (.int _ _)) rfl) rfl ?_
      refine WPL.q (q_lss rfl rfl) rfl ?_
      refine WPL.nilW ?_
      refine W.now ?_
      refine Then.n ?_
      refine WP.cond (t := (decide (x1411 < x1412))) rfl (fun hb => ?_) (fun hb => ?_)
      · replace H := cnt hb H
        refine WP.seq ?_
        refine WP.region ?_
        refine WPL.q (q_as (v := .lit (.int _ _)) rfl) rfl ?_
        refine WPL.nilW ?_
        refine W.now ?_
        refine Then.n ?_
        refine WP.retW ?_
        refine W.now ?_
        refine Then.r ?_
        have q0 := (Option.some.inj H)
        subst q0
        exact ⟨trivial, _, rfl, [], (.lit (.int .i64 (-1))), Mem.nil, ⟨rfl, trivial, by decide, rfl, trivial⟩, rfl, rfl, rfl, rfl⟩
      · replace H := cnf hb H
        refine WP.skipW ?_
        refine W.now ?_
        refine Then.n ?_
        refine WP.seq ?_
        refine WP.seq ?_
        refine WP.region ?_
        refine WPL.q (q_mv (v := .lit (.int _ _)) rfl) rfl ?_
        refine WPL.q (q_mv (v := .lit (.int _ _)) rfl) rfl ?_
        refine WPL.q (q_gtr rfl rfl) rfl ?_
        refine WPL.nilW ?_
        refine W.now ?_
        refine Then.n ?_
        refine WP.cond (t := (decide (x1412 < x1411))) rfl (fun hb => ?_) (fun hb => ?_)
        · replace H := cnt hb H
          refine WP.seq ?_
          refine WP.region ?_
          refine WPL.q (q_as (v := .lit (.int _ _)) rfl) rfl ?_
          refine WPL.nilW ?_
          refine W.now ?_
          refine Then.n ?_
          refine WP.retW ?_
          refine W.now ?_
          refine Then.r ?_
          have q0 := (Option.some.inj H)
          subst q0
          exact ⟨trivial, _, rfl, [], (.lit (.int .i64 1)), Mem.nil, ⟨rfl, trivial, by decide, rfl, trivial⟩, rfl, rfl, rfl, rfl⟩
        · replace H := cnf hb H
          refine WP.skipW ?_
          refine W.now ?_
          refine Then.n ?_
          refine WP.seq ?_
          refine WP.region ?_
          refine WPL.q (q_as (v := .lit (.int _ _)) rfl) rfl ?_
          refine WPL.nilW ?_
          refine W.now ?_
          refine Then.n ?_
          refine WP.retW ?_
          refine W.now ?_
          have q0 := (Option.some.inj H)
          subst q0
          exact ⟨trivial, _, rfl, [], (.lit (.int .i64 0)), Mem.nil, ⟨rfl, trivial, by decide, rfl, trivial⟩, rfl, rfl, rfl, rfl⟩
set_option maxRecDepth 100000 in
set_option maxHeartbeats 4000000 in
theorem s25 (k : Nat) (x1406 : Int) (x1407 : (List Int)) (x1408 : Int) (x1409 : (List Int)) (x1423 : Int) (H : f25 k x1406 x1407 x1408 x1409 = some x1423) : Go.Q.Spec Try.prog 25 0 [.agg [.lit (.int .i64 x1406), .ro (Rd.slice (Rd.int .i64)) false x1407], .agg [.lit (.int .i64 x1408), .ro (Rd.slice (Rd.int .i64)) false x1409]] Mem.nil (fun o M => o = .ret (.lit (.int .i64 x1423)) ∧ M = Mem.nil) := by
  unfold f25 at H
  refine Go.Q.Spec.of_bodyR (rs := [.tmp 4]) (nt := 10) Try.func25 rfl rfl (by intro t T h; simp at h) rfl rfl fun cx hnp => ?_
  refine WP.seq ?_
  refine WP.region ?_
  refine WPL.d (d_box rfl rfl) rfl ?_
  refine WPL.d (d_box rfl rfl) rfl ?_
  refine WPL.q (q_as (v := .lit (.int _ _)) rfl) rfl ?_
  refine WPL.nilW ?_
  refine W.now ?_
  refine Then.n ?_
  refine WP.seq ?_
  refine WP.region ?_
  refine WPL.q (q_fieldAddr fi55_0 rfl rfl) rfl ?_
  refine WPL.q (q_load sc3 rfl rfl rfl) rfl ?_
  refine WPL.q (q_fieldAddr fi55_0 rfl rfl) rfl ?_
  refine WPL.q (q_load sc3 rfl rfl rfl) rfl ?_
  obtain ⟨x1425, h1423, H⟩ := bnd H
  refine WPL.c (runs_call (s := []) (t := []) (N := 2) (bor := []) fn26 rfl (s26 k x1406 x1408 x1425 h1423) ⟨rfl, trivial, by decide, rfl, trivial⟩ rfl trivial (.ren rfl rfl (.ren rfl rfl .nil)) rfl trivial rfl) rfl ?_
  refine WPL.q (q_as (v := .lit (.int _ _)) rfl) rfl ?_
  refine WPL.nilW ?_
  refine W.now ?_
  refine Then.n ?_
  refine WP.retW ?_
  refine W.now ?_
  have q0 := (Option.some.inj H)
  subst q0
  exact ⟨trivial, _, rfl, [], (.lit (.int .i64 x1425)), Mem.nil, ⟨rfl, trivial, by decide, rfl, trivial⟩, rfl, rfl, rfl, rfl⟩
set_option maxRecDepth 100000 in
set_option maxHeartbeats 4000000 in
theorem s43 (k : Nat) (x1390 : Int) (x1391 : Int) (x1392 : (List S55coin)) (x1738 : (List S55coin)) (H : f43 k x1390 x1391 x1392 = some x1738) : Go.Q.Spec Try.prog 43 1 [.whole 0, .lit (.int .i64 x1390), .lit (.int .i64 x1391), .fn 25 []] (Mem.nil.push (.row 55 rdS55coin x1392)) (fun o M => o = .ret (.tup []) ∧ M = (Mem.nil.push (.row 55 rdS55coin x1738))) := by
  unfold f43 at H
  refine Go.Q.Spec.of_bodyR (rs := []) (nt := 53) Try.func43 rfl rfl (by intro t T h; simp at h) rfl rfl fun cx hnp => ?_
  refine WP.seq ?_
  refine WP.region ?_
  refine WPL.q (q_mv (v := .lit (.int _ _)) rfl) rfl ?_
  refine WPL.q (q_add rfl rfl) rfl ?_
  refine WPL.q (q_as (v := .lit (.int _ _)) rfl) rfl ?_
  refine WPL.nilW ?_
  refine W.now ?_
  refine Then.n ?_
  refine WP.block ?_
  refine WP.cv (Cv.weak (E' := (((((Env.none.upd 0 (.whole 0)).upd 1 (.lit (.int .i64 x1390))).upd 2 (.lit (.int .i64 x1391))).upd 3 (.fn 25 [])).upd 8 (.lit (.int .i64 (IntKind.wrap .i64 (x1390 + 1)))))) (M' := (Mem.nil.push (.row 55 rdS55coin x1392))) [0] hnp ⟨rfl, ⟨trivial, .inr ⟨rfl, rfl, rfl⟩⟩, by decide, rfl, ⟨trivial, rfl⟩⟩ (LeE.upd rfl rfl (LeE.upd rfl rfl (LeE.upd rfl rfl (LeE.upd rfl rfl (LeE.upd rfl rfl (LeE.none rfl rfl))))))) ?_
  obtain ⟨x2061, H2272, H⟩ := bnd H
  refine WP.monoW (Q := fun x E M => x = .exit 0 ∧ E = Env.none ∧ M = (Mem.nil.push (.row 55 rdS55coin x2061))) ?_ ?_
  · refine WP.loop (β := Int × (List S55coin)) (fun n b => f43_l0 k x1390 x1391 n b.1 b.2 = some x2061) (fun b => (((((Env.none.upd 0 (.whole 0)).upd 1 (.lit (.int .i64 x1390))).upd 2 (.lit (.int .i64 x1391))).upd 3 (.fn 25 [])).upd 8 (.lit (.int .i64 b.1)))) (fun b => (Mem.nil.push (.row 55 rdS55coin b.2))) k ((IntKind.wrap .i64 (x1390 + 1)), x1392) H2272 rfl rfl ?_
    rintro n ⟨x1917, x1918⟩ H
    obtain _ | n := n
    · exact nf rfl H
    rw [f43_l0.eq_2] at H
    show WP _ _ _ _ (((((Env.none.upd 0 (.whole 0)).upd 1 (.lit (.int .i64 x1390))).upd 2 (.lit (.int .i64 x1391))).upd 3 (.fn 25 [])).upd 8 (.lit (.int .i64 x1917))) (Mem.nil.push (.row 55 rdS55coin x1918)) _
    refine WP.seq ?_
    refine WP.seq ?_
    refine WP.region ?_
    refine WPL.q (q_mv (v := .lit (.int _ _)) rfl) rfl ?_
    refine WPL.q (q_mv (v := .lit (.int _ _)) rfl) rfl ?_
    refine WPL.q (q_lss rfl rfl) rfl ?_
    refine WPL.nilW ?_
    refine W.now ?_
    refine Then.n ?_
    refine WP.cond (t := (decide (x1917 < x1391))) rfl (fun hb => ?_) (fun hb => ?_)
    · replace H := cnt hb H
      refine WP.skipW ?_
      refine W.now ?_
      refine Then.n ?_
      refine WP.seq ?_
      refine WP.block ?_
      refine WP.seq ?_
      refine WP.region ?_
      refine WPL.q (q_mv (v := .lit (.int _ _)) rfl) rfl ?_
      refine WPL.q (q_as (v := .lit (.int _ _)) rfl) rfl ?_
      refine WPL.nilW ?_
      refine W.now ?_
      refine Then.n ?_
      refine WP.block ?_
      refine WP.cv (Cv.weak (E' := ((((((Env.none.upd 0 (.whole 0)).upd 1 (.lit (.int .i64 x1390))).upd 2 (.lit (.int .i64 x1391))).upd 3 (.fn 25 [])).upd 8 (.lit (.int .i64 x1917))).upd 9 (.lit (.int .i64 x1917)))) (M' := (Mem.nil.push (.row 55 rdS55coin x1918))) [0] hnp ⟨rfl, ⟨trivial, .inr ⟨rfl, rfl, rfl⟩⟩, by decide, rfl, ⟨trivial, rfl⟩⟩ (LeE.upd rfl rfl (LeE.upd rfl rfl (LeE.upd rfl rfl (LeE.upd rfl rfl (LeE.upd rfl rfl (LeE.upd rfl rfl (LeE.none rfl rfl)))))))) ?_
      obtain ⟨x2202, H2271, H⟩ := bnd H
      refine WP.monoW (Q := fun x E M => x = .exit 2 ∧ E = (((((Env.none.upd 0 (.whole 0)).upd 1 (.lit (.int .i64 x1390))).upd 2 (.lit (.int .i64 x1391))).upd 3 (.fn 25 [])).upd 8 (.lit (.int .i64 x1917))) ∧ M = (Mem.nil.push (.row 55 rdS55coin x2202))) ?_ ?_
      · refine WP.loop (β := Int × (List S55coin)) (fun n b => f43_l1 k x1390 n b.1 b.2 = some x2202) (fun b => ((((((Env.none.upd 0 (.whole 0)).upd 1 (.lit (.int .i64 x1390))).upd 2 (.lit (.int .i64 x1391))).upd 3 (.fn 25 [])).upd 8 (.lit (.int .i64 x1917))).upd 9 (.lit (.int .i64 b.1)))) (fun b => (Mem.nil.push (.row 55 rdS55coin b.2))) k (x1917, x1918) H2271 rfl rfl ?_
        rintro n ⟨x2131, x2132⟩ H
        obtain _ | n := n
        · exact nf rfl H
        rw [f43_l1.eq_2] at H
        show WP _ _ _ _ ((((((Env.none.upd 0 (.whole 0)).upd 1 (.lit (.int .i64 x1390))).upd 2 (.lit (.int .i64 x1391))).upd 3 (.fn 25 [])).upd 8 (.lit (.int .i64 x1917))).upd 9 (.lit (.int .i64 x2131))) (Mem.nil.push (.row 55 rdS55coin x2132)) _
        refine WP.seq ?_
        refine WP.seq ?_
        obtain ⟨x2244, H2257, H⟩ := bnd H
        refine WP.monoW (Q := fun x E M => x = .normal ∧ E = (((((((Env.none.upd 0 (.whole 0)).upd 1 (.lit (.int .i64 x1390))).upd 2 (.lit (.int .i64 x1391))).upd 3 (.fn 25 [])).upd 8 (.lit (.int .i64 x1917))).upd 9 (.lit (.int .i64 x2131))).upd 34 (.lit (.bool x2244))) ∧ M = (Mem.nil.push (.row 55 rdS55coin x2132))) ?_ ?_
        · clear H
          have H := H2257
          clear H2257
          refine WP.regionD' 17 [0] [] mixed rfl ?_
          refine WPD.takeT 0 rfl (by kernel_rfl) (q_mv (v := .lit (.int _ _)) rfl) rfl ?_
          refine WPD.takeT 1 rfl (by kernel_rfl) (q_mv (v := .lit (.int _ _)) rfl) rfl ?_
          refine WPD.takeT 2 rfl (by kernel_rfl) (q_gtr rfl rfl) rfl ?_
          refine WPD.takeT 3 rfl (by kernel_rfl) (q_mv (v := .lit (.bool _)) rfl) rfl ?_
          refine WPD.split (t := 21) (b := (decide (x1390 < x2131))) rfl (fun hb2252 => ?_) (fun hb2252 => ?_)
          · replace H := cnt hb2252 H
            refine WPD.takegT 4 rfl (by kernel_rfl) rfl rfl (lb hb2252) (q_mv (v := .fn _ _) rfl) rfl ?_
            refine WPD.takegT 5 rfl (by kernel_rfl) rfl rfl (lb hb2252) (q_mv (v := .whole _) rfl) rfl ?_
            refine WPD.takegT 6 rfl (by kernel_rfl) rfl rfl (lb hb2252) (q_mv (v := .lit (.int _ _)) rfl) rfl ?_
            obtain ⟨x2254, h2254, H⟩ := bnd H
            refine WPD.takegT 7 rfl (by kernel_rfl) rfl rfl (lb hb2252) (q_index_row sl53 rfl rfl rfl (ixs h2254)) rfl ?_
            refine WPD.takegT 9 rfl (by kernel_rfl) rfl rfl (lb hb2252) (q_mv (v := .whole _) rfl) rfl ?_
            refine WPD.takegT 10 rfl (by kernel_rfl) rfl rfl (lb hb2252) (q_mv (v := .lit (.int _ _)) rfl) rfl ?_
            refine WPD.takegT 11 rfl (by kernel_rfl) rfl rfl (lb hb2252) (q_sub rfl rfl) rfl ?_
            obtain ⟨x2255, h2255, H⟩ := bnd H
            refine WPD.takegT 12 rfl (by kernel_rfl) rfl rfl (lb hb2252) (q_index_row sl53 rfl rfl rfl (ixs h2255)) rfl ?_
            refine WPD.takeg 8 rfl (by kernel_rfl) rfl rfl (lb hb2252) (q_load_rowag (j := (Int.toNat x2131)) ag55 rfl rfl (ixj h2254) rfl S55coin.sp) rfl rfl ?_
            refine WPD.takeg 13 rfl (by kernel_rfl) rfl rfl (lb hb2252) (q_load_rowag (j := (Int.toNat (IntKind.wrap .i64 (x2131 - 1)))) ag55 rfl rfl (ixj h2255) rfl S55coin.sp) rfl rfl ?_
            obtain ⟨x2257, h2255, H⟩ := bnd H
            refine WPD.effg 14 [0] [] rfl (by kernel_rfl) rfl rfl (lb hb2252) (runs_call (s := []) (t := []) (N := 1) (bor := []) fn25 rfl (s25 k x2254.ffreq x2254.fsyms x2255.ffreq x2255.fsyms x2257 h2255) ⟨rfl, trivial, by decide, rfl, trivial⟩ rfl trivial (.ren rfl rfl (.ren rfl rfl .nil)) rfl trivial rfl) rfl rfl ?_
            refine WPD.takegT 15 rfl (by kernel_rfl) rfl rfl (lb hb2252) (q_lss rfl rfl) rfl ?_
            refine WPD.takeT 16 rfl (by kernel_rfl) (q_pickT (v := .lit (.bool _)) (lb hb2252) rfl) rfl ?_
            refine WPD.doneW (by kernel_rfl) ?_
            refine W.cv (Cv.weak (E' := (((((((Env.none.upd 0 (.whole 0)).upd 1 (.lit (.int .i64 x1390))).upd 2 (.lit (.int .i64 x1391))).upd 3 (.fn 25 [])).upd 8 (.lit (.int .i64 x1917))).upd 9 (.lit (.int .i64 x2131))).upd 34 (.lit (.bool (decide (x2257 < 0)))))) (M' := (Mem.nil.push (.row 55 rdS55coin x2132))) [0] hnp ⟨rfl, ⟨trivial, .inr ⟨rfl, rfl, rfl⟩⟩, by decide, rfl, ⟨trivial, rfl⟩⟩ (LeE.upd rfl rfl (LeE.upd rfl rfl (LeE.upd rfl rfl (LeE.upd rfl rfl (LeE.upd rfl rfl (LeE.upd rfl rfl (LeE.upd rfl rfl (LeE.none rfl rfl))))))))) rfl ?_
            refine W.now ?_
            have q0 := (Option.some.inj H)
            subst q0
            exact ⟨rfl, rfl, rfl⟩
          · replace H := cnf hb2252 H
            refine WPD.pass (b' := false) 4 rfl (by kernel_rfl) rfl rfl (lb hb2252) rfl rfl ?_
            refine WPD.pass (b' := false) 5 rfl (by kernel_rfl) rfl rfl (lb hb2252) rfl rfl ?_
            refine WPD.pass (b' := false) 6 rfl (by kernel_rfl) rfl rfl (lb hb2252) rfl rfl ?_
            refine WPD.pass (b' := false) 7 rfl (by kernel_rfl) rfl rfl (lb hb2252) rfl rfl ?_
            refine WPD.pass (b' := false) 8 rfl (by kernel_rfl) rfl rfl (lb hb2252) rfl rfl ?_
            refine WPD.pass (b' := false) 9 rfl (by kernel_rfl) rfl rfl (lb hb2252) rfl rfl ?_
            refine WPD.pass (b' := false) 10 rfl (by kernel_rfl) rfl rfl (lb hb2252) rfl rfl ?_
            refine WPD.pass (b' := false) 11 rfl (by kernel_rfl) rfl rfl (lb hb2252) rfl rfl ?_
            refine WPD.pass (b' := false) 12 rfl (by kernel_rfl) rfl rfl (lb hb2252) rfl rfl ?_
            refine WPD.pass (b' := false) 13 rfl (by kernel_rfl) rfl rfl (lb hb2252) rfl rfl ?_
            refine WPD.pass (b' := false) 14 rfl (by kernel_rfl) rfl rfl (lb hb2252) rfl rfl ?_
            refine WPD.pass (b' := false) 15 rfl (by kernel_rfl) rfl rfl (lb hb2252) rfl rfl ?_
            refine WPD.takeT 16 rfl (by kernel_rfl) (q_pickF (v := .lit (.bool _)) (lb hb2252) rfl) rfl ?_
            refine WPD.doneW (by kernel_rfl) ?_
            refine W.cv (Cv.weak (E' := (((((((Env.none.upd 0 (.whole 0)).upd 1 (.lit (.int .i64 x1390))).upd 2 (.lit (.int .i64 x1391))).upd 3 (.fn 25 [])).upd 8 (.lit (.int .i64 x1917))).upd 9 (.lit (.int .i64 x2131))).upd 34 (.lit (.bool false)))) (M' := (Mem.nil.push (.row 55 rdS55coin x2132))) [0] hnp ⟨rfl, ⟨trivial, .inr ⟨rfl, rfl, rfl⟩⟩, by decide, rfl, ⟨trivial, rfl⟩⟩ (LeE.upd rfl rfl (LeE.upd rfl rfl (LeE.upd rfl rfl (LeE.upd rfl rfl (LeE.upd rfl rfl (LeE.upd rfl rfl (LeE.upd rfl rfl (LeE.none rfl rfl))))))))) rfl ?_
            refine W.now ?_
            have q0 := (Option.some.inj H)
            subst q0
            exact ⟨rfl, rfl, rfl⟩
        · rintro _ _ _ ⟨rfl, rfl, rfl⟩
          refine W.now ?_
          refine Then.n ?_
          refine WP.cond (t := x2244) rfl (fun hb => ?_) (fun hb => ?_)
          · replace H := cnt hb H
            refine WP.skipW ?_
            refine W.now ?_
            refine Then.n ?_
            refine WP.seq ?_
            refine WP.block ?_
            refine WP.regionD' 18 [0] [15] mixed rfl ?_
            refine WPD.takeT 0 rfl (by kernel_rfl) (q_mv (v := .whole _) rfl) rfl ?_
            refine WPD.takeT 1 rfl (by kernel_rfl) (q_mv (v := .lit (.int _ _)) rfl) rfl ?_
            refine WPD.takeT 2 rfl (by kernel_rfl) (q_mv (v := .whole _) rfl) rfl ?_
            refine WPD.takeT 3 rfl (by kernel_rfl) (q_mv (v := .lit (.int _ _)) rfl) rfl ?_
            refine WPD.takeT 4 rfl (by kernel_rfl) (q_sub rfl rfl) rfl ?_
            refine WPD.takeT 5 rfl (by kernel_rfl) (q_mv (v := .whole _) rfl) rfl ?_
            refine WPD.takeT 6 rfl (by kernel_rfl) (q_mv (v := .lit (.int _ _)) rfl) rfl ?_
            refine WPD.takeT 7 rfl (by kernel_rfl) (q_sub rfl rfl) rfl ?_
            obtain ⟨x2268, h2268, H⟩ := bnd H
            refine WPD.takeT 8 rfl (by kernel_rfl) (q_index_row sl53 rfl rfl rfl (ixs h2268)) rfl ?_
            refine WPD.takeT 10 rfl (by kernel_rfl) (q_mv (v := .whole _) rfl) rfl ?_
            refine WPD.takeT 11 rfl (by kernel_rfl) (q_mv (v := .lit (.int _ _)) rfl) rfl ?_
            obtain ⟨x2269, h2269, H⟩ := bnd H
            refine WPD.takeT 12 rfl (by kernel_rfl) (q_index_row sl53 rfl rfl rfl (ixs h2269)) rfl ?_
            refine WPD.take 9 rfl (by kernel_rfl) (q_load_rowag (j := (Int.toNat (IntKind.wrap .i64 (x2131 - 1)))) ag55 rfl rfl (ixj h2268) rfl S55coin.sp) rfl rfl ?_
            refine WPD.take 13 rfl (by kernel_rfl) (q_load_rowag (j := (Int.toNat x2131)) ag55 rfl rfl (ixj h2269) rfl S55coin.sp) rfl rfl ?_
            obtain ⟨x2270, h2270, H⟩ := bnd H
            refine WPD.takeT 14 rfl (by kernel_rfl) (q_index_row sl53 rfl rfl rfl (ixs h2270)) rfl ?_
            refine WPD.effS 15 [] [] rfl (by kernel_rfl) (s_store_row (j := (Int.toNat x2131)) (d := (⟨x2268.ffreq, x2268.fsyms⟩ : S55coin)) sz55 rfl rfl rfl rfl (Joins.via (Joins.cons Joins.sc (Joins.cons Joins.one Joins.unit))) (ixl h2270)) rfl ?_
            obtain ⟨x2271, h2271, H⟩ := bnd H
            refine WPD.takeT 16 rfl (by kernel_rfl) (q_index_row sl53 rfl rfl rfl (ixs h2271)) rfl ?_
            refine WPD.effS 17 [] [] rfl (by kernel_rfl) (s_store_row (j := (Int.toNat (IntKind.wrap .i64 (x2131 - 1)))) (d := (⟨x2269.ffreq, x2269.fsyms⟩ : S55coin)) sz55 rfl rfl rfl rfl (Joins.via (Joins.cons Joins.sc (Joins.cons Joins.one Joins.unit))) (ixl h2271)) rfl ?_
            refine WPD.doneW (by kernel_rfl) ?_
            refine W.now ?_
            refine InBlock.n ?_
            refine Then.n ?_
            refine WP.region ?_
            refine WPL.q (q_mv (v := .lit (.int _ _)) rfl) rfl ?_
            refine WPL.q (q_sub rfl rfl) rfl ?_
            refine WPL.q (q_as (v := .lit (.int _ _)) rfl) rfl ?_
            refine WPL.nilW ?_
            refine W.cv (Cv.weak (E' := ((((((Env.none.upd 0 (.whole 0)).upd 1 (.lit (.int .i64 x1390))).upd 2 (.lit (.int .i64 x1391))).upd 3 (.fn 25 [])).upd 8 (.lit (.int .i64 x1917))).upd 9 (.lit (.int .i64 (IntKind.wrap .i64 (x2131 - 1)))))) (M' := (Mem.nil.push (.row 55 rdS55coin (List.set (List.set x2132 (Int.toNat x2131) (⟨x2268.ffreq, x2268.fsyms⟩ : S55coin)) (Int.toNat (IntKind.wrap .i64 (x2131 - 1))) (⟨x2269.ffreq, x2269.fsyms⟩ : S55coin))))) [0] hnp ⟨rfl, ⟨trivial, .inr ⟨rfl, rfl, rfl⟩⟩, by decide, rfl, ⟨trivial, rfl⟩⟩ (LeE.upd rfl rfl (LeE.upd rfl rfl (LeE.upd rfl rfl (LeE.upd rfl rfl (LeE.upd rfl rfl (LeE.upd rfl rfl (LeE.none rfl rfl)))))))) rfl ?_
            refine W.now ?_
            exact Then.n ⟨n, ((IntKind.wrap .i64 (x2131 - 1)), (List.set (List.set x2132 (Int.toNat x2131) (⟨x2268.ffreq, x2268.fsyms⟩ : S55coin)) (Int.toNat (IntKind.wrap .i64 (x2131 - 1))) (⟨x2269.ffreq, x2269.fsyms⟩ : S55coin))), Nat.lt_succ_self n, H, rfl, rfl⟩
          · replace H := cnf hb H
            refine WP.exitW ?_
            refine W.cv (Cv.weak (E' := (((((Env.none.upd 0 (.whole 0)).upd 1 (.lit (.int .i64 x1390))).upd 2 (.lit (.int .i64 x1391))).upd 3 (.fn 25 [])).upd 8 (.lit (.int .i64 x1917)))) (M' := (Mem.nil.push (.row 55 rdS55coin x2132))) [0] hnp ⟨rfl, ⟨trivial, .inr ⟨rfl, rfl, rfl⟩⟩, by decide, rfl, ⟨trivial, rfl⟩⟩ (LeE.upd rfl rfl (LeE.upd rfl rfl (LeE.upd rfl rfl (LeE.upd rfl rfl (LeE.upd rfl rfl (LeE.none rfl rfl))))))) rfl ?_
            refine W.now ?_
            refine Then.x ?_
            refine Then.x ?_
            have q0 := (Option.some.inj H)
            subst q0
            exact ⟨rfl, rfl, rfl⟩
      · rintro _ _ _ ⟨rfl, rfl, rfl⟩
        refine W.now ?_
        refine InBlock.x0 ?_
        refine InBlock.n ?_
        refine Then.n ?_
        refine WP.region ?_
        refine WPL.q (q_mv (v := .lit (.int _ _)) rfl) rfl ?_
        refine WPL.q (q_add rfl rfl) rfl ?_
        refine WPL.q (q_as (v := .lit (.int _ _)) rfl) rfl ?_
        refine WPL.nilW ?_
        refine W.cv (Cv.weak (E' := (((((Env.none.upd 0 (.whole 0)).upd 1 (.lit (.int .i64 x1390))).upd 2 (.lit (.int .i64 x1391))).upd 3 (.fn 25 [])).upd 8 (.lit (.int .i64 (IntKind.wrap .i64 (x1917 + 1)))))) (M' := (Mem.nil.push (.row 55 rdS55coin x2202))) [0] hnp ⟨rfl, ⟨trivial, .inr ⟨rfl, rfl, rfl⟩⟩, by decide, rfl, ⟨trivial, rfl⟩⟩ (LeE.upd rfl rfl (LeE.upd rfl rfl (LeE.upd rfl rfl (LeE.upd rfl rfl (LeE.upd rfl rfl (LeE.none rfl rfl))))))) rfl ?_
        refine W.now ?_
        exact Then.n ⟨n, ((IntKind.wrap .i64 (x1917 + 1)), x2202), Nat.lt_succ_self n, H, rfl, rfl⟩
    · replace H := cnf hb H
      refine WP.exitW ?_
      refine W.cv (Cv.weak (E' := Env.none) (M' := (Mem.nil.push (.row 55 rdS55coin x1918))) [0] hnp ⟨rfl, ⟨trivial, .inr ⟨rfl, rfl, rfl⟩⟩, by decide, rfl, ⟨trivial, rfl⟩⟩ (LeE.none rfl rfl)) rfl ?_
      refine W.now ?_
      refine Then.x ?_
      refine Then.x ?_
      have q0 := (Option.some.inj H)
      subst q0
      exact ⟨rfl, rfl, rfl⟩
  · rintro _ _ _ ⟨rfl, rfl, rfl⟩
    refine W.now ?_
    refine InBlock.x0 ?_
    have q0 := (Option.some.inj H)
    subst q0
    exact ⟨trivial, _, rfl, [0], (.tup []), (Mem.nil.push (.row 55 rdS55coin x2061)), ⟨rfl, ⟨trivial, .inr ⟨rfl, rfl, rfl⟩⟩, by decide, rfl, ⟨trivial, rfl⟩⟩, rfl, rfl, rfl, rfl⟩
set_option maxRecDepth 100000 in
set_option maxHeartbeats 4000000 in
theorem s46 (k : Nat) (x2593 : Int) (x2594 : Int) (x2595 : Int) (x2596 : (List S55coin)) (x2628 : (List S55coin)) (H : f46 k x2593 x2594 x2595 x2596 = some x2628) : Go.Q.Spec Try.prog 46 1 [.whole 0, .lit (.int .i64 x2593), .lit (.int .i64 x2594), .lit (.int .i64 x2595), .fn 25 []] (Mem.nil.push (.row 55 rdS55coin x2596)) (fun o M => o = .ret (.tup []) ∧ M = (Mem.nil.push (.row 55 rdS55coin x2628))) := by
  unfold f46 at H
  refine Go.Q.Spec.of_bodyR (rs := []) (nt := 38) Try.func46 rfl rfl (by intro t T h; simp at h) rfl rfl fun cx hnp => ?_
  refine WP.seq ?_
  refine WP.region ?_
  refine WPL.q (q_as (v := .lit (.int _ _)) rfl) rfl ?_
  refine WPL.nilW ?_
  refine W.now ?_
  refine Then.n ?_
  refine WP.block ?_
  refine WP.cv (Cv.weak (E' := (((((Env.none.upd 0 (.whole 0)).upd 1 (.lit (.int .i64 x2593))).upd 2 (.lit (.int .i64 x2594))).upd 3 (.lit (.int .i64 x2595))).upd 10 (.lit (.int .i64 0)))) (M' := (Mem.nil.push (.row 55 rdS55coin x2596))) [0] hnp ⟨rfl, ⟨trivial, .inr ⟨rfl, rfl, rfl⟩⟩, by decide, rfl, ⟨trivial, rfl⟩⟩ (LeE.upd rfl rfl (LeE.upd rfl rfl (LeE.upd rfl rfl (LeE.upd rfl rfl (LeE.upd rfl rfl (LeE.none rfl rfl))))))) ?_
  obtain ⟨x2657, H2670, H⟩ := bnd H
  refine WP.monoW (Q := fun x E M => x = .exit 0 ∧ E = Env.none ∧ M = (Mem.nil.push (.row 55 rdS55coin x2657))) ?_ ?_
  · refine WP.loop (β := Int × (List S55coin)) (fun n b => f46_l0 k x2593 x2594 x2595 n b.1 b.2 = some x2657) (fun b => (((((Env.none.upd 0 (.whole 0)).upd 1 (.lit (.int .i64 x2593))).upd 2 (.lit (.int .i64 x2594))).upd 3 (.lit (.int .i64 x2595))).upd 10 (.lit (.int .i64 b.1)))) (fun b => (Mem.nil.push (.row 55 rdS55coin b.2))) k (0, x2596) H2670 rfl rfl ?_
    rintro n ⟨x2642, x2643⟩ H
    obtain _ | n := n
    · exact nf rfl H
    rw [f46_l0.eq_2] at H
    show WP _ _ _ _ (((((Env.none.upd 0 (.whole 0)).upd 1 (.lit (.int .i64 x2593))).upd 2 (.lit (.int .i64 x2594))).upd 3 (.lit (.int .i64 x2595))).upd 10 (.lit (.int .i64 x2642))) (Mem.nil.push (.row 55 rdS55coin x2643)) _
    refine WP.seq ?_
    refine WP.seq ?_
    refine WP.region ?_
    refine WPL.q (q_mv (v := .lit (.int _ _)) rfl) rfl ?_
    refine WPL.q (q_mv (v := .lit (.int _ _)) rfl) rfl ?_
    refine WPL.q (q_lss rfl rfl) rfl ?_
    refine WPL.nilW ?_
    refine W.now ?_
    refine Then.n ?_
    refine WP.cond (t := (decide (x2642 < x2595))) rfl (fun hb => ?_) (fun hb => ?_)
    · replace H := cnt hb H
      refine WP.skipW ?_
      refine W.now ?_
      refine Then.n ?_
      refine WP.seq ?_
      refine WP.block ?_
      refine WP.regionD' 24 [0] [21] mixed rfl ?_
      refine WPD.takeT 0 rfl (by kernel_rfl) (q_mv (v := .whole _) rfl) rfl ?_
      refine WPD.takeT 1 rfl (by kernel_rfl) (q_mv (v := .lit (.int _ _)) rfl) rfl ?_
      refine WPD.takeT 2 rfl (by kernel_rfl) (q_mv (v := .lit (.int _ _)) rfl) rfl ?_
      refine WPD.takeT 3 rfl (by kernel_rfl) (q_add rfl rfl) rfl ?_
      refine WPD.takeT 4 rfl (by kernel_rfl) (q_mv (v := .whole _) rfl) rfl ?_
      refine WPD.takeT 5 rfl (by kernel_rfl) (q_mv (v := .lit (.int _ _)) rfl) rfl ?_
      refine WPD.takeT 6 rfl (by kernel_rfl) (q_mv (v := .lit (.int _ _)) rfl) rfl ?_
      refine WPD.takeT 7 rfl (by kernel_rfl) (q_add rfl rfl) rfl ?_
      refine WPD.takeT 8 rfl (by kernel_rfl) (q_mv (v := .whole _) rfl) rfl ?_
      refine WPD.takeT 9 rfl (by kernel_rfl) (q_mv (v := .lit (.int _ _)) rfl) rfl ?_
      refine WPD.takeT 10 rfl (by kernel_rfl) (q_mv (v := .lit (.int _ _)) rfl) rfl ?_
      refine WPD.takeT 11 rfl (by kernel_rfl) (q_add rfl rfl) rfl ?_
      obtain ⟨x2667, h2667, H⟩ := bnd H
      refine WPD.takeT 12 rfl (by kernel_rfl) (q_index_row sl53 rfl rfl rfl (ixs h2667)) rfl ?_
      refine WPD.takeT 14 rfl (by kernel_rfl) (q_mv (v := .whole _) rfl) rfl ?_
      refine WPD.takeT 15 rfl (by kernel_rfl) (q_mv (v := .lit (.int _ _)) rfl) rfl ?_
      refine WPD.takeT 16 rfl (by kernel_rfl) (q_mv (v := .lit (.int _ _)) rfl) rfl ?_
      refine WPD.takeT 17 rfl (by kernel_rfl) (q_add rfl rfl) rfl ?_
      obtain ⟨x2668, h2668, H⟩ := bnd H
      refine WPD.takeT 18 rfl (by kernel_rfl) (q_index_row sl53 rfl rfl rfl (ixs h2668)) rfl ?_
      refine WPD.take 13 rfl (by kernel_rfl) (q_load_rowag (j := (Int.toNat (IntKind.wrap .i64 (x2594 + x2642)))) ag55 rfl rfl (ixj h2667) rfl S55coin.sp) rfl rfl ?_
      refine WPD.take 19 rfl (by kernel_rfl) (q_load_rowag (j := (Int.toNat (IntKind.wrap .i64 (x2593 + x2642)))) ag55 rfl rfl (ixj h2668) rfl S55coin.sp) rfl rfl ?_
      obtain ⟨x2669, h2669, H⟩ := bnd H
      refine WPD.takeT 20 rfl (by kernel_rfl) (q_index_row sl53 rfl rfl rfl (ixs h2669)) rfl ?_
      refine WPD.effS 21 [] [] rfl (by kernel_rfl) (s_store_row (j := (Int.toNat (IntKind.wrap .i64 (x2593 + x2642)))) (d := (⟨x2667.ffreq, x2667.fsyms⟩ : S55coin)) sz55 rfl rfl rfl rfl (Joins.via (Joins.cons Joins.sc (Joins.cons Joins.one Joins.unit))) (ixl h2669)) rfl ?_
      obtain ⟨x2670, h2670, H⟩ := bnd H
      refine WPD.takeT 22 rfl (by kernel_rfl) (q_index_row sl53 rfl rfl rfl (ixs h2670)) rfl ?_
      refine WPD.effS 23 [] [] rfl (by kernel_rfl) (s_store_row (j := (Int.toNat (IntKind.wrap .i64 (x2594 + x2642)))) (d := (⟨x2668.ffreq, x2668.fsyms⟩ : S55coin)) sz55 rfl rfl rfl rfl (Joins.via (Joins.cons Joins.sc (Joins.cons Joins.one Joins.unit))) (ixl h2670)) rfl ?_
      refine WPD.doneW (by kernel_rfl) ?_
      refine W.now ?_
      refine InBlock.n ?_
      refine Then.n ?_
      refine WP.region ?_
      refine WPL.q (q_mv (v := .lit (.int _ _)) rfl) rfl ?_
      refine WPL.q (q_add rfl rfl) rfl ?_
      refine WPL.q (q_as (v := .lit (.int _ _)) rfl) rfl ?_
      refine WPL.nilW ?_
      refine W.cv (Cv.weak (E' := (((((Env.none.upd 0 (.whole 0)).upd 1 (.lit (.int .i64 x2593))).upd 2 (.lit (.int .i64 x2594))).upd 3 (.lit (.int .i64 x2595))).upd 10 (.lit (.int .i64 (IntKind.wrap .i64 (x2642 + 1)))))) (M' := (Mem.nil.push (.row 55 rdS55coin (List.set (List.set x2643 (Int.toNat (IntKind.wrap .i64 (x2593 + x2642))) (⟨x2667.ffreq, x2667.fsyms⟩ : S55coin)) (Int.toNat (IntKind.wrap .i64 (x2594 + x2642))) (⟨x2668.ffreq, x2668.fsyms⟩ : S55coin))))) [0] hnp ⟨rfl, ⟨trivial, .inr ⟨rfl, rfl, rfl⟩⟩, by decide, rfl, ⟨trivial, rfl⟩⟩ (LeE.upd rfl rfl (LeE.upd rfl rfl (LeE.upd rfl rfl (LeE.upd rfl rfl (LeE.upd rfl rfl (LeE.none rfl rfl))))))) rfl ?_
      refine W.now ?_
      exact Then.n ⟨n, ((IntKind.wrap .i64 (x2642 + 1)), (List.set (List.set x2643 (Int.toNat (IntKind.wrap .i64 (x2593 + x2642))) (⟨x2667.ffreq, x2667.fsyms⟩ : S55coin)) (Int.toNat (IntKind.wrap .i64 (x2594 + x2642))) (⟨x2668.ffreq, x2668.fsyms⟩ : S55coin))), Nat.lt_succ_self n, H, rfl, rfl⟩
    · replace H := cnf hb H
      refine WP.exitW ?_
      refine W.cv (Cv.weak (E' := Env.none) (M' := (Mem.nil.push (.row 55 rdS55coin x2643))) [0] hnp ⟨rfl, ⟨trivial, .inr ⟨rfl, rfl, rfl⟩⟩, by decide, rfl, ⟨trivial, rfl⟩⟩ (LeE.none rfl rfl)) rfl ?_
      refine W.now ?_
      refine Then.x ?_
      refine Then.x ?_
      have q0 := (Option.some.inj H)
      subst q0
      exact ⟨rfl, rfl, rfl⟩
  · rintro _ _ _ ⟨rfl, rfl, rfl⟩
    refine W.now ?_
    refine InBlock.x0 ?_
    have q0 := (Option.some.inj H)
    subst q0
    exact ⟨trivial, _, rfl, [0], (.tup []), (Mem.nil.push (.row 55 rdS55coin x2657)), ⟨rfl, ⟨trivial, .inr ⟨rfl, rfl, rfl⟩⟩, by decide, rfl, ⟨trivial, rfl⟩⟩, rfl, rfl, rfl, rfl⟩
end Go.Proofs.Ythgbompoldmhmaa.W
