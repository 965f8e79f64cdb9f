/- Walks: Fc5 -/
import Derived.Test.YthgbompoldmhmabFb
import Derived.Test.YthgbompoldmhmabFc4
namespace Go.Proofs.Ythgbompoldmhmab.W
open Go Go.Q Go.Proofs
set_option linter.unusedVariables false
set_option linter.unusedSimpArgs false
set_option maxRecDepth 100000 in
set_option maxHeartbeats 4000000 in
theorem s_bits_Writer_Put__b (k : Nat) (x6025 : Int) (x6026 : Int) (x6027 : Int) (x6028 : (List Int)) (x6159 : Int) (x6160 : Int) (x6161 : (List Int)) (H : g_bits_Writer_Put__b k x6025 x6026 x6027 x6028 = some (x6159, x6160, x6161)) : Go.Q.Spec Try.prog 8 1 [.ptr 0 0, .lit (.int .u32 x6025), .lit (.int .i64 x6026)] ((Mem.nil.push (.cells 56 [.whole 1, .lit (.int .i64 x6027)])).push (.row 5 (Rd.int .u8) x6028)) (fun o M => o = .ret (.lit (.int .i64 x6159)) ∧ M = ((Mem.nil.push (.cells 56 [.whole 1, .lit (.int .i64 x6160)])).push (.row 5 (Rd.int .u8) x6161))) := by
  unfold g_bits_Writer_Put__b at H
  refine Go.Q.Spec.of_bodyR (rs := [.tmp 6]) (nt := 65) Try.func8 rfl rfl (by intro t T h; simp at h) rfl rfl fun cx hnp => ?_
  refine WP.seq ?_
  refine WP.region ?_
  refine WPL.d (d_box rfl rfl) rfl ?_
  refine WPL.q (q_as (v := .lit (.int _ _)) rfl) rfl ?_
  refine WPL.nilW ?_
  refine W.now ?_
  refine Then.n ?_
  refine WP.seq ?_
  refine WP.seq ?_
  refine WP.region ?_
  refine WPL.q (q_load sc31 rfl rfl rfl) rfl ?_
  refine WPL.q (q_eqlp Try.underlying31 rfl) rfl ?_
  refine WPL.nilW ?_
  refine W.now ?_
  refine Then.n ?_
  refine WP.condF rfl ?_
  refine WP.skipW ?_
  refine W.now ?_
  refine Then.n ?_
  refine WP.seq ?_
  refine WP.seq ?_
  obtain ⟨x6167, H6168, H⟩ := bnd H
  refine WP.monoW (Q := fun x E M => x = .normal ∧ E = ((((Env.none.upd 1 (.lit (.int .u32 x6025))).upd 2 (.lit (.int .i64 x6026))).upd 3 (.ptr 2 0)).upd 16 (.lit (.bool x6167))) ∧ M = (((Mem.nil.push (.cells 56 [.whole 1, .lit (.int .i64 x6027)])).push (.row 5 (Rd.int .u8) x6028)).push (.cells 31 [.ptr 0 0]))) ?_ ?_
  · clear H
    have H := H6168
    clear H6168
    refine WP.region ?_
    refine WPL.q (q_mv (v := .lit (.int _ _)) rfl) rfl ?_
    refine WPL.q (q_lss rfl rfl) rfl ?_
    refine WPL.q (q_mv (v := .lit (.bool _)) rfl) rfl ?_
    refine WPL.split (t := 13) (b := (decide (x6026 < 0))) rfl (fun hb6167 => ?_) (fun hb6167 => ?_)
    · replace H := cnt hb6167 H
      refine WPL.skipg (b' := true) rfl rfl (lb hb6167) rfl rfl ?_
      refine WPL.skipg (b' := true) rfl rfl (lb hb6167) rfl rfl ?_
      refine WPL.q (q_pickT (v := .lit (.bool _)) (lb hb6167) rfl) rfl ?_
      refine WPL.nilW ?_
      refine W.cv (Cv.weak (E' := ((((Env.none.upd 1 (.lit (.int .u32 x6025))).upd 2 (.lit (.int .i64 x6026))).upd 3 (.ptr 2 0)).upd 16 (.lit (.bool true)))) (M' := (((Mem.nil.push (.cells 56 [.whole 1, .lit (.int .i64 x6027)])).push (.row 5 (Rd.int .u8) x6028)).push (.cells 31 [.ptr 0 0]))) [0, 1, 2] hnp ⟨rfl, ⟨⟨⟨trivial, .inr ⟨rfl, rfl, rfl⟩⟩, .inr ⟨rfl, rfl, rfl⟩⟩, .inr ⟨rfl, rfl, rfl⟩⟩, by decide, rfl, ⟨trivial, rfl⟩⟩ (LeE.upd rfl rfl (LeE.upd rfl rfl (LeE.upd rfl rfl (LeE.upd rfl rfl (LeE.none rfl rfl)))))) rfl ?_
      refine W.now ?_
      have q0 := (Option.some.inj H)
      subst q0
      exact ⟨rfl, rfl, rfl⟩
    · replace H := cnf hb6167 H
      refine WPL.qg rfl rfl (lb hb6167) (q_mv (v := .lit (.int _ _)) rfl) rfl ?_
      refine WPL.qg rfl rfl (lb hb6167) (q_gtr rfl rfl) rfl ?_
      refine WPL.q (q_pickF (v := .lit (.bool _)) (lb hb6167) rfl) rfl ?_
      refine WPL.nilW ?_
      refine W.cv (Cv.weak (E' := ((((Env.none.upd 1 (.lit (.int .u32 x6025))).upd 2 (.lit (.int .i64 x6026))).upd 3 (.ptr 2 0)).upd 16 (.lit (.bool (decide (32 < x6026)))))) (M' := (((Mem.nil.push (.cells 56 [.whole 1, .lit (.int .i64 x6027)])).push (.row 5 (Rd.int .u8) x6028)).push (.cells 31 [.ptr 0 0]))) [0, 1, 2] hnp ⟨rfl, ⟨⟨⟨trivial, .inr ⟨rfl, rfl, rfl⟩⟩, .inr ⟨rfl, rfl, rfl⟩⟩, .inr ⟨rfl, rfl, rfl⟩⟩, by decide, rfl, ⟨trivial, rfl⟩⟩ (LeE.upd rfl rfl (LeE.upd rfl rfl (LeE.upd rfl rfl (LeE.upd rfl rfl (LeE.none rfl rfl)))))) rfl ?_
      refine W.now ?_
      have q0 := (Option.some.inj H)
      subst q0
      exact ⟨rfl, rfl, rfl⟩
  · rintro _ _ _ ⟨rfl, rfl, rfl⟩
    refine W.now ?_
    refine Then.n ?_
    refine WP.cond (t := x6167) rfl (fun hb => ?_) (fun hb => ?_)
    · replace H := cnt hb H
      refine WP.seq ?_
      refine WP.region ?_
      refine WPL.q (q_as (v := .lit (.int _ _)) rfl) rfl ?_
      refine WPL.nilW ?_
      refine W.now ?_
      refine Then.n ?_
      refine WP.retW ?_
      refine W.now ?_
      refine Then.r ?_
      have q0 := (Prod.mk.inj (Option.some.inj H)).1
      have q1 := (Prod.mk.inj (Prod.mk.inj (Option.some.inj H)).2).1
      have q2 := (Prod.mk.inj (Prod.mk.inj (Option.some.inj H)).2).2
      subst q0
      subst q1
      subst q2
      exact ⟨trivial, _, rfl, [0, 1], (.lit (.int .i64 1)), ((Mem.nil.push (.cells 56 [.whole 1, .lit (.int .i64 x6027)])).push (.row 5 (Rd.int .u8) x6028)), ⟨rfl, ⟨⟨trivial, .inr ⟨rfl, rfl, rfl⟩⟩, .inr ⟨rfl, rfl, rfl⟩⟩, by decide, rfl, ⟨trivial, rfl⟩⟩, rfl, rfl, rfl, rfl⟩
    · replace H := cnf hb H
      refine WP.skipW ?_
      refine W.now ?_
      refine Then.n ?_
      refine WP.seq ?_
      refine WP.seq ?_
      refine WP.region ?_
      refine WPL.q (q_mv (v := .lit (.int _ _)) rfl) rfl ?_
      refine WPL.q (q_mv (v := .lit (.int _ _)) rfl) rfl ?_
      obtain ⟨_, h6169, H⟩ := bnd H
      refine WPL.c (runs_call (s := []) (t := [3, 4]) (N := 5) (bor := []) fn17 rfl (s_bits_each k x6025 x6026 h6169) ⟨rfl, trivial, by decide, rfl, trivial⟩ rfl trivial (.ren rfl rfl (.ren rfl rfl .nil)) rfl ⟨⟨trivial, rfl⟩, rfl⟩ rfl) rfl ?_
      refine WPL.nilW ?_
      refine W.now ?_
      refine Then.n ?_
      refine WP.block ?_
      refine WP.cv (Cv.nullMark (N := 5) rfl rfl) ?_
      refine WP.range (nti := 19) (n := 6) rfl rfl Try.func28 rfl (by kernel_rfl) rfl rfl rfl rfl fun l_6170 r_6170 aC6170 hp6170 ha6170 hb6170 ht6170 hs6170 => ?_
      refine WP.seq ?_
      refine WP.region ?_
      refine WPL.q (q_load sc3 rfl rfl rfl) rfl ?_
      refine WPL.q (q_mv (v := .lit (.int _ _)) rfl) rfl ?_
      refine WPL.nilW ?_
      refine W.now ?_
      refine Then.n ?_
      refine WP.block ?_
      refine WP.cv (Cv.weak (E' := (((((⟨fun _ => .any, [], [⟨aC6170, (((Env.none.upd 3 (.ptr 3 0)).upd 19 (.fn 28 [.ptr 4 0, .ptr 2 0]))).v, [5, 6], some (7, l_6170)⟩]⟩ : Env).upd 0 (.lit (.func (.yield l_6170) #[] #[]))).upd 2 (.ptr 2 0)).upd 5 (.lit (.int .i64 x6026))).upd 6 (.lit (.int .i64 0)))) (M' := ((((((((Mem.nil.push (.cells 56 [.whole 1, .lit (.int .i64 x6027)])).push (.row 5 (Rd.int .u8) x6028)).push (.cells 34 [.lit (.int .u32 x6025)])).push (.cells 31 [.ptr 0 0])).push (.cells 3 [.lit (.int .i64 x6026)])).push (.obj (Obj.deferred (some [])))).push (.bag)).push (.obj (lp r_6170 .ready none)))) [0, 1, 4, 2, 3, 6, 5, 7] hnp ⟨rfl, ⟨⟨⟨⟨⟨⟨⟨⟨trivial, .inr ⟨rfl, rfl, rfl⟩⟩, .inr ⟨rfl, rfl, rfl⟩⟩, .inr ⟨rfl, rfl, rfl⟩⟩, .inr ⟨rfl, rfl, rfl⟩⟩, .inr ⟨rfl, rfl, rfl⟩⟩, .inr ⟨rfl, rfl, rfl⟩⟩, .inr ⟨rfl, rfl, rfl⟩⟩, .inr ⟨rfl, rfl, rfl⟩⟩, by decide, rfl, ⟨trivial, rfl⟩⟩ (LeE.upd rfl rfl (LeE.upd rfl rfl (LeE.upd rfl rfl (LeE.upd rfl rfl (LeE.noneD rfl rfl (.cons ⟨rfl, (LeV.upd rfl rfl (LeV.upd rfl rfl LeV.none)), rfl, rfl, rfl, rfl⟩ .nil))))))) ?_
      obtain ⟨y6346, H6344, H⟩ := bnd H
      refine WP.monoW (Q := fun x E M => match (generalizing := false) y6346 with | (Sum.inl (x6285, x6286)) => x = .ret ∧ E = (⟨fun _ => .any, [], [⟨aC6170, (((Env.none.upd 3 (.ptr 2 0)).upd 19 (.fn 28 [.ptr 3 0, .ptr 4 0]))).v, [5, 6], some (7, l_6170)⟩]⟩ : Env) ∧ M = ((((((((Mem.nil.push (.cells 56 [.whole 1, .lit (.int .i64 x6285)])).push (.row 5 (Rd.int .u8) x6286)).push (.cells 31 [.ptr 0 0])).push (.cells 3 [.lit (.int .i64 x6026)])).push (.cells 34 [.lit (.int .u32 x6025)])).push (.obj (Obj.deferred (some [])))).push (.bag)).push (.obj (lp r_6170 .ready none))) | (Sum.inr (x6287, x6288)) => x = .exit 0 ∧ E = (⟨fun _ => .any, [], [⟨aC6170, (((Env.none.upd 3 (.ptr 2 0)).upd 19 (.fn 28 [.ptr 3 0, .ptr 4 0]))).v, [5, 6], some (7, l_6170)⟩]⟩ : Env) ∧ M = ((((((((Mem.nil.push (.cells 56 [.whole 1, .lit (.int .i64 x6287)])).push (.row 5 (Rd.int .u8) x6288)).push (.cells 31 [.ptr 0 0])).push (.cells 3 [.lit (.int .i64 x6026)])).push (.cells 34 [.lit (.int .u32 x6025)])).push (.obj (Obj.deferred (some [])))).push (.bag)).push (.obj (lp r_6170 .ready none)))) ?_ ?_
      · refine WP.loop (β := Int × Int × (List Int)) (fun n b => g_bits_Writer_Put__b_l0 k x6025 x6026 n b.1 b.2.1 b.2.2 = some y6346) (fun b => (((((⟨fun _ => .any, [], [⟨aC6170, (((Env.none.upd 3 (.ptr 3 0)).upd 19 (.fn 28 [.ptr 4 0, .ptr 2 0]))).v, [5, 6], some (7, l_6170)⟩]⟩ : Env).upd 0 (.lit (.func (.yield l_6170) #[] #[]))).upd 2 (.ptr 2 0)).upd 5 (.lit (.int .i64 x6026))).upd 6 (.lit (.int .i64 b.1)))) (fun b => ((((((((Mem.nil.push (.cells 56 [.whole 1, .lit (.int .i64 b.2.1)])).push (.row 5 (Rd.int .u8) b.2.2)).push (.cells 34 [.lit (.int .u32 x6025)])).push (.cells 31 [.ptr 0 0])).push (.cells 3 [.lit (.int .i64 x6026)])).push (.obj (Obj.deferred (some [])))).push (.bag)).push (.obj (lp r_6170 .ready none)))) k (0, x6027, x6028) H6344 rfl rfl ?_
        rintro n ⟨x6226, x6227, x6228⟩ H
        obtain _ | n := n
        · exact nf rfl H
        rw [g_bits_Writer_Put__b_l0.eq_2] at H
        show WP _ _ _ _ (((((⟨fun _ => .any, [], [⟨aC6170, (((Env.none.upd 3 (.ptr 3 0)).upd 19 (.fn 28 [.ptr 4 0, .ptr 2 0]))).v, [5, 6], some (7, l_6170)⟩]⟩ : Env).upd 0 (.lit (.func (.yield l_6170) #[] #[]))).upd 2 (.ptr 2 0)).upd 5 (.lit (.int .i64 x6026))).upd 6 (.lit (.int .i64 x6226))) ((((((((Mem.nil.push (.cells 56 [.whole 1, .lit (.int .i64 x6227)])).push (.row 5 (Rd.int .u8) x6228)).push (.cells 34 [.lit (.int .u32 x6025)])).push (.cells 31 [.ptr 0 0])).push (.cells 3 [.lit (.int .i64 x6026)])).push (.obj (Obj.deferred (some [])))).push (.bag)).push (.obj (lp r_6170 .ready none))) _
        refine WP.seq ?_
        refine WP.region ?_
        refine WPL.q (q_lss rfl rfl) rfl ?_
        refine WPL.nilW ?_
        refine W.now ?_
        refine Then.n ?_
        refine WP.seq ?_
        refine WP.cond (t := (decide (x6226 < x6026))) rfl (fun hb => ?_) (fun hb => ?_)
        · replace H := cnt hb H
          refine WP.skipW ?_
          refine W.now ?_
          refine Then.n ?_
          refine WP.seq ?_
          refine WP.block ?_
          refine WP.seq ?_
          refine WP.region ?_
          refine WPL.q (q_mv (v := .lit (.int _ _)) rfl) rfl ?_
          refine WPL.q (q_as (v := .lit (.int _ _)) rfl) rfl ?_
          refine WPL.nilW ?_
          refine W.now ?_
          refine Then.n ?_
          refine WP.seq ?_
          refine WP.region ?_
          refine WPL.q (q_mv (v := .lit _) rfl) rfl ?_
          refine WPL.q (q_mv (v := .lit (.int _ _)) rfl) rfl ?_
          refine WPL.q (q_load sc34 rfl rfl rfl) rfl ?_
          refine WPL.q (q_mv (v := .lit (.int _ _)) rfl) rfl ?_
          obtain ⟨h6316, H⟩ := grd H
          refine WPL.q (q_shr rfl rfl h6316) rfl ?_
          refine WPL.q (q_conv Try.underlying34 Try.underlying5 rfl) rfl ?_
          obtain ⟨x6318, h6318, H⟩ := bnd H
          refine WPL.q (q_nm (q_and rfl rfl) (nm_int h6318)) rfl ?_
          refine WPL.y rfl rfl rfl rfl hp6170 ha6170 hb6170 ht6170 hs6170 rfl rfl rfl fun aI6318 => ?_
          refine WP.region ?_
          refine WPL.q (q_as (v := .lit (.int _ _)) rfl) rfl ?_
          refine WPL.nilW ?_
          refine W.now ?_
          refine ⟨rfl, rfl, _, _, _, _, _, _, rfl, rfl, ?_⟩
          refine WP.block ?_
          refine WP.seq ?_
          obtain ⟨x6323, H6326, H⟩ := bnd H
          refine WP.monoW (Q := fun x E M => x = .normal ∧ E = ((((⟨fun _ => .any, [], [⟨aI6318, (((((Env.none.upd 0 (.lit (.func (.yield l_6170) #[] #[]))).upd 2 (.ptr 4 0)).upd 5 (.lit (.int .i64 x6026))).upd 6 (.lit (.int .i64 x6226)))).v, [], none⟩, ⟨aC6170, (((Env.none.upd 3 (.ptr 2 0)).upd 19 (.fn 28 [.ptr 3 0, .ptr 4 0]))).v, [5, 6], some (7, l_6170)⟩]⟩ : Env).upd 3 (.ptr 2 0)).upd 8 (.lit (.int .u8 x6318))).upd 19 (.fn 28 [.ptr 3 0, .ptr 4 0])) ∧ M = ((((((((Mem.nil.push (.cells 56 [.whole 1, .lit (.int .i64 x6227)])).push (.row 5 (Rd.int .u8) x6323)).push (.cells 31 [.ptr 0 0])).push (.cells 3 [.lit (.int .i64 x6026)])).push (.cells 34 [.lit (.int .u32 x6025)])).push (.obj (Obj.deferred (some [])))).push (.bag)).push (.obj (lp r_6170 .busy none)))) ?_ ?_
          · clear H
            have H := H6326
            clear H6326
            refine WP.seq ?_
            refine WP.region ?_
            refine WPL.q (q_load sc31 rfl rfl rfl) rfl ?_
            refine WPL.q (q_nilCheck rfl) rfl ?_
            refine WPL.q (q_fieldAddr fi56_1 rfl rfl) rfl ?_
            refine WPL.q (q_load sc3 rfl rfl rfl) rfl ?_
            refine WPL.q (q_rem rfl rfl rfl) rfl ?_
            refine WPL.q (q_eql rfl rfl) rfl ?_
            refine WPL.nilW ?_
            refine W.now ?_
            refine Then.n ?_
            refine WP.cond (t := (decide ((Int.tmod x6227 8) = 0))) rfl (fun hb => ?_) (fun hb => ?_)
            · replace H := cnt hb H
              refine WP.regionD' 10 [0, 3] [9] mixed rfl ?_
              refine WPD.take 0 rfl (by kernel_rfl) (q_load sc31 rfl rfl rfl) rfl rfl ?_
              refine WPD.take 1 rfl (by kernel_rfl) (q_load sc31 rfl rfl rfl) rfl rfl ?_
              refine WPD.takeT 2 rfl (by kernel_rfl) (q_nilCheck rfl) rfl ?_
              refine WPD.takeT 3 rfl (by kernel_rfl) (q_fieldAddr fi56_0 rfl rfl) rfl ?_
              refine WPD.take 4 rfl (by kernel_rfl) (q_load sc38 rfl rfl rfl) rfl rfl ?_
              refine WPD.eff 5 [0, 3] [9] rfl (by kernel_rfl) (Does.runs (d_buildSlice (ds := ([0] : List Int)) (R := (Rd.int .u8)) li38 rfl rfl rfl rfl rfl (JoinRows.cons1 Joins.sc rfl JoinRows.nil) rfl rfl)) rfl rfl ?_
              obtain ⟨h6325, H⟩ := grd H
              refine WPD.eff 6 [0, 3] [9] rfl (by kernel_rfl) (Does.runs (d_append ap38 rfl rfl rfl rfl (src_row sl38 rfl rfl) h6325 rfl)) rfl rfl ?_
              refine WPD.takeT 7 rfl (by kernel_rfl) (q_nilCheck rfl) rfl ?_
              refine WPD.takeT 8 rfl (by kernel_rfl) (q_fieldAddr fi56_0 rfl rfl) rfl ?_
              refine WPD.effS 9 [] [] rfl (by kernel_rfl) (s_store sz38 rfl rfl rfl rfl rfl) rfl ?_
              refine WPD.doneW (by kernel_rfl) ?_
              refine W.cv (Cv.weak (E' := ((((⟨fun _ => .any, [], [⟨aI6318, (((((Env.none.upd 0 (.lit (.func (.yield l_6170) #[] #[]))).upd 2 (.ptr 4 0)).upd 5 (.lit (.int .i64 x6026))).upd 6 (.lit (.int .i64 x6226)))).v, [], none⟩, ⟨aC6170, (((Env.none.upd 3 (.ptr 2 0)).upd 19 (.fn 28 [.ptr 3 0, .ptr 4 0]))).v, [5, 6], some (7, l_6170)⟩]⟩ : Env).upd 3 (.ptr 2 0)).upd 8 (.lit (.int .u8 x6318))).upd 19 (.fn 28 [.ptr 3 0, .ptr 4 0]))) (M' := ((((((((Mem.nil.push (.cells 56 [.whole 1, .lit (.int .i64 x6227)])).push (.row 5 (Rd.int .u8) (x6228 ++ ([0] : List Int)))).push (.cells 31 [.ptr 0 0])).push (.cells 3 [.lit (.int .i64 x6026)])).push (.cells 34 [.lit (.int .u32 x6025)])).push (.obj (Obj.deferred (some [])))).push (.bag)).push (.obj (lp r_6170 .busy none)))) [0, 9, 3, 4, 2, 5, 6, 7] hnp ⟨rfl, ⟨⟨⟨⟨⟨⟨⟨⟨trivial, .inr ⟨rfl, rfl, rfl⟩⟩, .inr ⟨rfl, rfl, rfl⟩⟩, .inr ⟨rfl, rfl, rfl⟩⟩, .inr ⟨rfl, rfl, rfl⟩⟩, .inr ⟨rfl, rfl, rfl⟩⟩, .inr ⟨rfl, rfl, rfl⟩⟩, .inr ⟨rfl, rfl, rfl⟩⟩, .inr ⟨rfl, rfl, rfl⟩⟩, by decide, rfl, ⟨trivial, rfl⟩⟩ (LeE.upd rfl rfl (LeE.upd rfl rfl (LeE.upd rfl rfl (LeE.noneD rfl rfl (.cons ⟨rfl, (LeV.upd rfl rfl (LeV.upd rfl rfl (LeV.upd rfl rfl (LeV.upd rfl rfl LeV.none)))), rfl, rfl, rfl, rfl⟩ (.cons ⟨rfl, (LeV.upd rfl rfl (LeV.upd rfl rfl LeV.none)), rfl, rfl, rfl, rfl⟩ .nil))))))) rfl ?_
              refine W.now ?_
              have q0 := (Option.some.inj H)
              subst q0
              exact ⟨rfl, rfl, rfl⟩
            · replace H := cnf hb H
              refine WP.skipW ?_
              refine W.cv (Cv.weak (E' := ((((⟨fun _ => .any, [], [⟨aI6318, (((((Env.none.upd 0 (.lit (.func (.yield l_6170) #[] #[]))).upd 2 (.ptr 4 0)).upd 5 (.lit (.int .i64 x6026))).upd 6 (.lit (.int .i64 x6226)))).v, [], none⟩, ⟨aC6170, (((Env.none.upd 3 (.ptr 2 0)).upd 19 (.fn 28 [.ptr 3 0, .ptr 4 0]))).v, [5, 6], some (7, l_6170)⟩]⟩ : Env).upd 3 (.ptr 2 0)).upd 8 (.lit (.int .u8 x6318))).upd 19 (.fn 28 [.ptr 3 0, .ptr 4 0]))) (M' := ((((((((Mem.nil.push (.cells 56 [.whole 1, .lit (.int .i64 x6227)])).push (.row 5 (Rd.int .u8) x6228)).push (.cells 31 [.ptr 0 0])).push (.cells 3 [.lit (.int .i64 x6026)])).push (.cells 34 [.lit (.int .u32 x6025)])).push (.obj (Obj.deferred (some [])))).push (.bag)).push (.obj (lp r_6170 .busy none)))) [0, 1, 3, 4, 2, 5, 6, 7] hnp ⟨rfl, ⟨⟨⟨⟨⟨⟨⟨⟨trivial, .inr ⟨rfl, rfl, rfl⟩⟩, .inr ⟨rfl, rfl, rfl⟩⟩, .inr ⟨rfl, rfl, rfl⟩⟩, .inr ⟨rfl, rfl, rfl⟩⟩, .inr ⟨rfl, rfl, rfl⟩⟩, .inr ⟨rfl, rfl, rfl⟩⟩, .inr ⟨rfl, rfl, rfl⟩⟩, .inr ⟨rfl, rfl, rfl⟩⟩, by decide, rfl, ⟨trivial, rfl⟩⟩ (LeE.upd rfl rfl (LeE.upd rfl rfl (LeE.upd rfl rfl (LeE.noneD rfl rfl (.cons ⟨rfl, (LeV.upd rfl rfl (LeV.upd rfl rfl (LeV.upd rfl rfl (LeV.upd rfl rfl LeV.none)))), rfl, rfl, rfl, rfl⟩ (.cons ⟨rfl, (LeV.upd rfl rfl (LeV.upd rfl rfl LeV.none)), rfl, rfl, rfl, rfl⟩ .nil))))))) rfl ?_
              refine W.now ?_
              have q0 := (Option.some.inj H)
              subst q0
              exact ⟨rfl, rfl, rfl⟩
          · rintro _ _ _ ⟨rfl, rfl, rfl⟩
            refine W.now ?_
            refine Then.n ?_
            refine WP.seq ?_
            refine WP.regionD' 22 [0, 1, 2] [21] mixed rfl ?_
            refine WPD.takeT 12 rfl (by kernel_rfl) (q_mv (v := .lit (.int _ _)) rfl) rfl ?_
            refine WPD.take 0 rfl (by kernel_rfl) (q_load sc31 rfl rfl rfl) rfl rfl ?_
            refine WPD.takeT 1 rfl (by kernel_rfl) (q_nilCheck rfl) rfl ?_
            refine WPD.takeT 2 rfl (by kernel_rfl) (q_fieldAddr fi56_0 rfl rfl) rfl ?_
            refine WPD.take 3 rfl (by kernel_rfl) (q_load sc38 rfl rfl rfl) rfl rfl ?_
            refine WPD.take 4 rfl (by kernel_rfl) (q_load sc31 rfl rfl rfl) rfl rfl ?_
            refine WPD.takeT 5 rfl (by kernel_rfl) (q_nilCheck rfl) rfl ?_
            refine WPD.takeT 6 rfl (by kernel_rfl) (q_fieldAddr fi56_0 rfl rfl) rfl ?_
            refine WPD.take 7 rfl (by kernel_rfl) (q_load sc38 rfl rfl rfl) rfl rfl ?_
            refine WPD.takeT 8 rfl (by kernel_rfl) (q_len_row sl38 rfl rfl) rfl ?_
            obtain ⟨x6340, h6340, H⟩ := bnd H
            refine WPD.takeT 9 rfl (by kernel_rfl) (q_nm (q_sub rfl rfl) (nm_int h6340)) rfl ?_
            obtain ⟨x6341, h6341, H⟩ := bnd H
            refine WPD.takeT 10 rfl (by kernel_rfl) (q_index_row sl38 rfl rfl rfl (ixs h6341)) rfl ?_
            refine WPD.take 11 rfl (by kernel_rfl) (q_load_row (j := (Int.toNat x6340)) sc5 rfl rfl (ixj h6341)) rfl rfl ?_
            refine WPD.take 13 rfl (by kernel_rfl) (q_load sc31 rfl rfl rfl) rfl rfl ?_
            refine WPD.takeT 14 rfl (by kernel_rfl) (q_nilCheck rfl) rfl ?_
            refine WPD.takeT 15 rfl (by kernel_rfl) (q_fieldAddr fi56_1 rfl rfl) rfl ?_
            refine WPD.take 16 rfl (by kernel_rfl) (q_load sc3 rfl rfl rfl) rfl rfl ?_
            refine WPD.takeT 17 rfl (by kernel_rfl) (q_rem rfl rfl rfl) rfl ?_
            obtain ⟨h6341, H⟩ := grd H
            refine WPD.takeT 18 rfl (by kernel_rfl) (q_shl rfl rfl h6341) rfl ?_
            obtain ⟨x6343, h6343, H⟩ := bnd H
            refine WPD.takeT 19 rfl (by kernel_rfl) (q_nm (q_or rfl rfl) (nm_int h6343)) rfl ?_
            obtain ⟨x6344, h6344, H⟩ := bnd H
            refine WPD.takeT 20 rfl (by kernel_rfl) (q_index_row sl38 rfl rfl rfl (ixs h6344)) rfl ?_
            refine WPD.effS 21 [] [] rfl (by kernel_rfl) (s_store_row (j := (Int.toNat x6340)) (d := x6343) sz5 rfl rfl rfl rfl Joins.sc (ixl h6344)) rfl ?_
            refine WPD.doneW (by kernel_rfl) ?_
            refine W.now ?_
            refine Then.n ?_
            refine WP.region ?_
            refine WPL.q (q_load sc31 rfl rfl rfl) rfl ?_
            refine WPL.q (q_nilCheck rfl) rfl ?_
            refine WPL.q (q_fieldAddr fi56_1 rfl rfl) rfl ?_
            refine WPL.q (q_load sc3 rfl rfl rfl) rfl ?_
            refine WPL.q (q_add rfl rfl) rfl ?_
            refine WPL.q (q_nilCheck rfl) rfl ?_
            refine WPL.q (q_fieldAddr fi56_1 rfl rfl) rfl ?_
            refine WPL.s (s_store sz3 rfl rfl rfl rfl rfl) ?_
            refine WPL.nilW ?_
            refine W.now ?_
            refine InBlock.n ?_
            refine ⟨rfl, _, _, _, _, _, _, rfl, rfl, _, rfl, ?_⟩
            refine WPL.q (q_not rfl) rfl ?_
            refine WPL.nilW ?_
            refine W.now ?_
            refine Then.n ?_
            refine WP.cond (t := (!true)) rfl (fun hb => ?_) (fun hb => ?_)
            · replace H := cnt hb H
              refine WP.retW ?_
              refine W.cv (Cv.weak (E' := (⟨fun _ => .any, [], [⟨aC6170, (((Env.none.upd 3 (.ptr 2 0)).upd 19 (.fn 28 [.ptr 3 0, .ptr 4 0]))).v, [5, 6], some (7, l_6170)⟩]⟩ : Env)) (M' := ((((((((Mem.nil.push (.cells 56 [.whole 1, .lit (.int .i64 (IntKind.wrap .i64 (x6227 + 1)))])).push (.row 5 (Rd.int .u8) (List.set x6323 (Int.toNat x6340) x6343))).push (.cells 31 [.ptr 0 0])).push (.cells 3 [.lit (.int .i64 x6026)])).push (.cells 34 [.lit (.int .u32 x6025)])).push (.obj (Obj.deferred (some [])))).push (.bag)).push (.obj (lp r_6170 .ready none)))) [0, 1, 2, 3, 4, 5, 6, 7] hnp ⟨rfl, ⟨⟨⟨⟨⟨⟨⟨⟨trivial, .inr ⟨rfl, rfl, rfl⟩⟩, .inr ⟨rfl, rfl, rfl⟩⟩, .inr ⟨rfl, rfl, rfl⟩⟩, .inr ⟨rfl, rfl, rfl⟩⟩, .inr ⟨rfl, rfl, rfl⟩⟩, .inr ⟨rfl, rfl, rfl⟩⟩, .inr ⟨rfl, rfl, rfl⟩⟩, .inr ⟨rfl, rfl, rfl⟩⟩, by decide, rfl, ⟨trivial, rfl⟩⟩ (LeE.noneD rfl rfl (.cons ⟨rfl, (LeV.upd rfl rfl (LeV.upd rfl rfl LeV.none)), rfl, rfl, rfl, rfl⟩ .nil))) rfl ?_
              refine W.now ?_
              refine InBlock.r ?_
              refine Then.r ?_
              refine Then.r ?_
              have q0 := Option.some.inj H
              subst q0
              exact ⟨rfl, rfl, rfl⟩
            · replace H := cnf hb H
              refine WP.skipW ?_
              refine W.now ?_
              refine InBlock.n ?_
              refine Then.n ?_
              refine WP.region ?_
              refine WPL.q (q_add rfl rfl) rfl ?_
              refine WPL.q (q_mv (v := .lit (.int _ _)) rfl) rfl ?_
              refine WPL.nilW ?_
              refine W.cv (Cv.weak (E' := (((((⟨fun _ => .any, [], [⟨aC6170, (((Env.none.upd 3 (.ptr 3 0)).upd 19 (.fn 28 [.ptr 4 0, .ptr 2 0]))).v, [5, 6], some (7, l_6170)⟩]⟩ : Env).upd 0 (.lit (.func (.yield l_6170) #[] #[]))).upd 2 (.ptr 2 0)).upd 5 (.lit (.int .i64 x6026))).upd 6 (.lit (.int .i64 (IntKind.wrap .i64 (x6226 + 1)))))) (M' := ((((((((Mem.nil.push (.cells 56 [.whole 1, .lit (.int .i64 (IntKind.wrap .i64 (x6227 + 1)))])).push (.row 5 (Rd.int .u8) (List.set x6323 (Int.toNat x6340) x6343))).push (.cells 34 [.lit (.int .u32 x6025)])).push (.cells 31 [.ptr 0 0])).push (.cells 3 [.lit (.int .i64 x6026)])).push (.obj (Obj.deferred (some [])))).push (.bag)).push (.obj (lp r_6170 .ready none)))) [0, 1, 4, 2, 3, 5, 6, 7] hnp ⟨rfl, ⟨⟨⟨⟨⟨⟨⟨⟨trivial, .inr ⟨rfl, rfl, rfl⟩⟩, .inr ⟨rfl, rfl, rfl⟩⟩, .inr ⟨rfl, rfl, rfl⟩⟩, .inr ⟨rfl, rfl, rfl⟩⟩, .inr ⟨rfl, rfl, rfl⟩⟩, .inr ⟨rfl, rfl, rfl⟩⟩, .inr ⟨rfl, rfl, rfl⟩⟩, .inr ⟨rfl, rfl, rfl⟩⟩, by decide, rfl, ⟨trivial, rfl⟩⟩ (LeE.upd rfl rfl (LeE.upd rfl rfl (LeE.upd rfl rfl (LeE.upd rfl rfl (LeE.noneD rfl rfl (.cons ⟨rfl, (LeV.upd rfl rfl (LeV.upd rfl rfl LeV.none)), rfl, rfl, rfl, rfl⟩ .nil))))))) rfl ?_
              refine W.now ?_
              exact Then.n ⟨n, ((IntKind.wrap .i64 (x6226 + 1)), (IntKind.wrap .i64 (x6227 + 1)), (List.set x6323 (Int.toNat x6340) x6343)), Nat.lt_succ_self n, H, rfl, rfl⟩
        · replace H := cnf hb H
          refine WP.exitW ?_
          refine W.cv (Cv.weak (E' := (⟨fun _ => .any, [], [⟨aC6170, (((Env.none.upd 3 (.ptr 2 0)).upd 19 (.fn 28 [.ptr 3 0, .ptr 4 0]))).v, [5, 6], some (7, l_6170)⟩]⟩ : Env)) (M' := ((((((((Mem.nil.push (.cells 56 [.whole 1, .lit (.int .i64 x6227)])).push (.row 5 (Rd.int .u8) x6228)).push (.cells 31 [.ptr 0 0])).push (.cells 3 [.lit (.int .i64 x6026)])).push (.cells 34 [.lit (.int .u32 x6025)])).push (.obj (Obj.deferred (some [])))).push (.bag)).push (.obj (lp r_6170 .ready none)))) [0, 1, 3, 4, 2, 5, 6, 7] hnp ⟨rfl, ⟨⟨⟨⟨⟨⟨⟨⟨trivial, .inr ⟨rfl, rfl, rfl⟩⟩, .inr ⟨rfl, rfl, rfl⟩⟩, .inr ⟨rfl, rfl, rfl⟩⟩, .inr ⟨rfl, rfl, rfl⟩⟩, .inr ⟨rfl, rfl, rfl⟩⟩, .inr ⟨rfl, rfl, rfl⟩⟩, .inr ⟨rfl, rfl, rfl⟩⟩, .inr ⟨rfl, rfl, rfl⟩⟩, by decide, rfl, ⟨trivial, rfl⟩⟩ (LeE.noneD rfl rfl (.cons ⟨rfl, (LeV.upd rfl rfl (LeV.upd rfl rfl LeV.none)), rfl, rfl, rfl, rfl⟩ .nil))) rfl ?_
          refine W.now ?_
          refine Then.x ?_
          refine Then.x ?_
          have q0 := Option.some.inj H
          subst q0
          exact ⟨rfl, rfl, rfl⟩
      · rcases y6346 with ⟨x6285, x6286⟩ | ⟨x6287, x6288⟩
        · rintro _ _ _ ⟨rfl, rfl, rfl⟩
          refine W.now ?_
          refine InBlock.r ?_
          refine ⟨trivial, _, _, _, _, rfl, _, _, rfl, (fun h => by cases h), ?_⟩
          refine W.cv (Cv.absorb (N := 8) (j := 5) (i := 6) rfl rfl rfl rfl) rfl ?_
          refine W.now ?_
          refine InBlock.n ?_
          refine Then.n ?_
          refine WP.seq ?_
          refine WP.region ?_
          refine WPL.q (q_as (v := .lit (.int _ _)) rfl) rfl ?_
          refine WPL.nilW ?_
          refine W.now ?_
          refine Then.n ?_
          refine WP.retW ?_
          refine W.now ?_
          have q0 := (Prod.mk.inj (Option.some.inj H)).1
          have q1 := (Prod.mk.inj (Prod.mk.inj (Option.some.inj H)).2).1
          have q2 := (Prod.mk.inj (Prod.mk.inj (Option.some.inj H)).2).2
          subst q0
          subst q1
          subst q2
          exact ⟨⟨.inr rfl, trivial⟩, _, rfl, [0, 1], (.lit (.int .i64 0)), ((Mem.nil.push (.cells 56 [.whole 1, .lit (.int .i64 x6285)])).push (.row 5 (Rd.int .u8) x6286)), ⟨rfl, ⟨⟨trivial, .inr ⟨rfl, rfl, rfl⟩⟩, .inr ⟨rfl, rfl, rfl⟩⟩, by decide, rfl, ⟨trivial, rfl⟩⟩, rfl, rfl, rfl, rfl⟩
        · rintro _ _ _ ⟨rfl, rfl, rfl⟩
          refine W.now ?_
          refine InBlock.x0 ?_
          refine ⟨trivial, _, _, _, _, rfl, _, _, rfl, (fun h => by cases h), ?_⟩
          refine W.cv (Cv.absorb (N := 8) (j := 5) (i := 6) rfl rfl rfl rfl) rfl ?_
          refine W.now ?_
          refine InBlock.n ?_
          refine Then.n ?_
          refine WP.seq ?_
          refine WP.region ?_
          refine WPL.q (q_as (v := .lit (.int _ _)) rfl) rfl ?_
          refine WPL.nilW ?_
          refine W.now ?_
          refine Then.n ?_
          refine WP.retW ?_
          refine W.now ?_
          have q0 := (Prod.mk.inj (Option.some.inj H)).1
          have q1 := (Prod.mk.inj (Prod.mk.inj (Option.some.inj H)).2).1
          have q2 := (Prod.mk.inj (Prod.mk.inj (Option.some.inj H)).2).2
          subst q0
          subst q1
          subst q2
          exact ⟨⟨.inr rfl, trivial⟩, _, rfl, [0, 1], (.lit (.int .i64 0)), ((Mem.nil.push (.cells 56 [.whole 1, .lit (.int .i64 x6287)])).push (.row 5 (Rd.int .u8) x6288)), ⟨rfl, ⟨⟨trivial, .inr ⟨rfl, rfl, rfl⟩⟩, .inr ⟨rfl, rfl, rfl⟩⟩, by decide, rfl, ⟨trivial, rfl⟩⟩, rfl, rfl, rfl, rfl⟩
set_option maxRecDepth 100000 in
set_option maxHeartbeats 4000000 in
theorem s_slices_Clone_byte_byte (k : Nat) (x6472 : List Int) (x6473 : List Int) (H : g_slices_Clone_byte_byte k x6472 = some x6473) : Go.Q.Spec Try.prog 19 0 [.ro (Rd.slice (Rd.int .u8)) true x6472] Mem.nil (fun o M => o = .ret (.ro (Rd.slice (Rd.int .u8)) false x6473) ∧ M = Mem.nil) := by
  unfold g_slices_Clone_byte_byte at H
  obtain ⟨h, H⟩ := grd H
  have q0 := Option.some.inj H
  subst q0
  refine Go.Q.Spec.of_bodyR (rs := [.tmp 2]) (nt := 8) Try.func19 rfl rfl (by intro t T h; simp at h) rfl rfl fun cx hnp => ?_
  refine WP.seq ?_
  refine WP.region ?_
  refine WPL.q (q_as (v := .lit _) rfl) rfl ?_
  refine WPL.nilW ?_
  refine W.now ?_
  refine Then.n ?_
  refine WP.seq ?_
  refine WP.seq ?_
  refine WP.region ?_
  refine WPL.q (q_mv (v := .ro _ _ _) rfl) rfl ?_
  refine WPL.eqlNil Try.underlying38 rfl rfl fun nb hnb => ?_
  refine WPL.nilW ?_
  refine W.now ?_
  refine Then.n ?_
  refine WP.cond (t := nb) rfl (fun hb => ?_) (fun hb => ?_)
  · have h0 := hnb hb
    subst h0
    refine WP.seq ?_
    refine WP.region ?_
    refine WPL.q (q_as (v := .lit _) rfl) rfl ?_
    refine WPL.nilW ?_
    refine W.now ?_
    refine Then.n ?_
    refine WP.retW ?_
    refine W.cv (Cv.nilRo (Rd.int .u8) false 2 rfl) rfl ?_
    refine W.now ?_
    refine Then.r ?_
    exact ⟨trivial, _, rfl, [], (.ro (Rd.slice (Rd.int .u8)) false ([] : List Int)), Mem.nil, ⟨rfl, trivial, by decide, rfl, trivial⟩, rfl, rfl, rfl, rfl⟩
  · refine WP.skipW ?_
    refine W.now ?_
    refine Then.n ?_
    refine WP.seq ?_
    refine WP.region ?_
    refine WPL.d (d_buildSlice (ds := ([] : List Int)) (R := (Rd.int .u8)) li38 rfl rfl rfl rfl rfl JoinRows.nil rfl rfl) rfl ?_
    refine WPL.q (q_mv (v := .ro _ _ _) rfl) rfl ?_
    refine WPL.d (d_append ap38 rfl rfl rfl rfl (src_bor sl38 Rd.flat_sc rfl) h rfl) rfl ?_
    refine WPL.q (q_as (v := .whole _) rfl) rfl ?_
    refine WPL.nilW ?_
    refine W.now ?_
    refine Then.n ?_
    refine WP.retW ?_
    refine W.cv (Cv.frzRow (i := 1) rfl rfl hnp rfl rfl) rfl ?_
    refine W.now ?_
    exact ⟨trivial, _, rfl, [], (.ro (Rd.slice (Rd.int .u8)) false x6472), Mem.nil, ⟨rfl, trivial, by decide, rfl, trivial⟩, rfl, rfl, rfl, rfl⟩
set_option maxRecDepth 100000 in
set_option maxHeartbeats 4000000 in
theorem s_bits_Writer_Done (k : Nat) (x6469 : Int) (x6470 : (List Int)) (x6476 : (List Int)) (H : g_bits_Writer_Done k x6469 x6470 = some x6476) : Go.Q.Spec Try.prog 11 1 [.ptr 0 0] ((Mem.nil.push (.cells 56 [.whole 1, .lit (.int .i64 x6469)])).push (.row 5 (Rd.int .u8) x6470)) (fun o M => o = .ret (.ro (Rd.slice (Rd.int .u8)) false x6476) ∧ M = ((Mem.nil.push (.cells 56 [.whole 1, .lit (.int .i64 x6469)])).push (.row 5 (Rd.int .u8) x6470))) := by
  unfold g_bits_Writer_Done at H
  refine Go.Q.Spec.of_bodyR (rs := [.tmp 2]) (nt := 10) Try.func11 rfl rfl (by intro t T h; simp at h) rfl rfl fun cx hnp => ?_
  refine WP.seq ?_
  refine WP.region ?_
  refine WPL.q (q_as (v := .lit _) rfl) rfl ?_
  refine WPL.nilW ?_
  refine W.now ?_
  refine Then.n ?_
  refine WP.seq ?_
  refine WP.seq ?_
  refine WP.region ?_
  refine WPL.q (q_mv (v := .ptr _ _) rfl) rfl ?_
  refine WPL.q (q_eqlp Try.underlying31 rfl) rfl ?_
  refine WPL.nilW ?_
  refine W.now ?_
  refine Then.n ?_
  refine WP.condF rfl ?_
  refine WP.skipW ?_
  refine W.now ?_
  refine Then.n ?_
  refine WP.seq ?_
  refine WP.region ?_
  refine WPL.q (q_mv (v := .ptr _ _) rfl) rfl ?_
  refine WPL.q (q_nilCheck rfl) rfl ?_
  refine WPL.q (q_fieldAddr fi56_0 rfl rfl) rfl ?_
  refine WPL.q (q_load sc38 rfl rfl rfl) rfl ?_
  obtain ⟨x6478, h6476, H⟩ := bnd H
  refine WPL.c (runs_call (s := []) (t := []) (N := 2) (bor := [1]) fn19 rfl (s_slices_Clone_byte_byte k x6470 x6478 h6476) ⟨rfl, trivial, by decide, rfl, trivial⟩ rfl ⟨trivial, rfl, rfl, trivial⟩ (.row rfl rfl .nil) rfl trivial rfl) rfl ?_
  refine WPL.q (q_as (v := .ro _ _ _) rfl) rfl ?_
  refine WPL.nilW ?_
  refine W.now ?_
  refine Then.n ?_
  refine WP.retW ?_
  refine W.now ?_
  have q0 := (Option.some.inj H)
  subst q0
  exact ⟨trivial, _, rfl, [0, 1], (.ro (Rd.slice (Rd.int .u8)) false x6478), ((Mem.nil.push (.cells 56 [.whole 1, .lit (.int .i64 x6469)])).push (.row 5 (Rd.int .u8) x6470)), ⟨rfl, ⟨⟨trivial, .inr ⟨rfl, rfl, rfl⟩⟩, .inr ⟨rfl, rfl, rfl⟩⟩, by decide, rfl, ⟨trivial, rfl⟩⟩, rfl, rfl, rfl, rfl⟩
set_option maxRecDepth 100000 in
set_option maxHeartbeats 4000000 in
theorem s_slices_Clone_byte_byte__b (k : Nat) (x6483 : List Int) (x6484 : List Int) (H : g_slices_Clone_byte_byte__b k x6483 = some x6484) : Go.Q.Spec Try.prog 19 0 [.ro (Rd.slice (Rd.int .u8)) false x6483] Mem.nil (fun o M => o = .ret (.ro (Rd.slice (Rd.int .u8)) false x6484) ∧ M = Mem.nil) := by
  unfold g_slices_Clone_byte_byte__b at H
  obtain ⟨h, H⟩ := grd H
  have q0 := Option.some.inj H
  subst q0
  refine Go.Q.Spec.of_bodyR (rs := [.tmp 2]) (nt := 8) Try.func19 rfl rfl (by intro t T h; simp at h) rfl rfl fun cx hnp => ?_
  refine WP.seq ?_
  refine WP.region ?_
  refine WPL.q (q_as (v := .lit _) rfl) rfl ?_
  refine WPL.nilW ?_
  refine W.now ?_
  refine Then.n ?_
  refine WP.seq ?_
  refine WP.seq ?_
  refine WP.region ?_
  refine WPL.q (q_mv (v := .ro _ _ _) rfl) rfl ?_
  refine WPL.eqlNil Try.underlying38 rfl rfl fun nb hnb => ?_
  refine WPL.nilW ?_
  refine W.now ?_
  refine Then.n ?_
  refine WP.cond (t := nb) rfl (fun hb => ?_) (fun hb => ?_)
  · have h0 := hnb hb
    subst h0
    refine WP.seq ?_
    refine WP.region ?_
    refine WPL.q (q_as (v := .lit _) rfl) rfl ?_
    refine WPL.nilW ?_
    refine W.now ?_
    refine Then.n ?_
    refine WP.retW ?_
    refine W.cv (Cv.nilRo (Rd.int .u8) false 2 rfl) rfl ?_
    refine W.now ?_
    refine Then.r ?_
    exact ⟨trivial, _, rfl, [], (.ro (Rd.slice (Rd.int .u8)) false ([] : List Int)), Mem.nil, ⟨rfl, trivial, by decide, rfl, trivial⟩, rfl, rfl, rfl, rfl⟩
  · refine WP.skipW ?_
    refine W.now ?_
    refine Then.n ?_
    refine WP.seq ?_
    refine WP.region ?_
    refine WPL.d (d_buildSlice (ds := ([] : List Int)) (R := (Rd.int .u8)) li38 rfl rfl rfl rfl rfl JoinRows.nil rfl rfl) rfl ?_
    refine WPL.q (q_mv (v := .ro _ _ _) rfl) rfl ?_
    refine WPL.d (d_append ap38 rfl rfl rfl rfl (src_ro sl38 rfl) h rfl) rfl ?_
    refine WPL.q (q_as (v := .whole _) rfl) rfl ?_
    refine WPL.nilW ?_
    refine W.now ?_
    refine Then.n ?_
    refine WP.retW ?_
    refine W.cv (Cv.frzRow (i := 1) rfl rfl hnp rfl rfl) rfl ?_
    refine W.now ?_
    exact ⟨trivial, _, rfl, [], (.ro (Rd.slice (Rd.int .u8)) false x6483), Mem.nil, ⟨rfl, trivial, by decide, rfl, trivial⟩, rfl, rfl, rfl, rfl⟩
set_option maxRecDepth 100000 in
set_option maxHeartbeats 4000000 in
theorem s_bits_NewReader (k : Nat) (x6481 : (List Int)) (x6487 : (List Int)) (H : g_bits_NewReader k x6481 = some x6487) : Go.Q.Spec Try.prog 10 0 [.ro (Rd.slice (Rd.int .u8)) false x6481] Mem.nil (fun o M => o = .ret (.ptr 0 0) ∧ M = (Mem.nil.push (.cells 64 [.ro (Rd.slice (Rd.int .u8)) false x6487, .lit (.int .i64 0)]))) := by
  unfold g_bits_NewReader at H
  refine Go.Q.Spec.of_bodyR (rs := [.tmp 2]) (nt := 7) Try.func10 rfl rfl (by intro t T h; simp at h) rfl rfl fun cx hnp => ?_
  refine WP.seq ?_
  refine WP.region ?_
  refine WPL.q (q_as (v := .lit _) rfl) rfl ?_
  refine WPL.nilW ?_
  refine W.now ?_
  refine Then.n ?_
  refine WP.seq ?_
  refine WP.region ?_
  refine WPL.q (q_mv (v := .ro _ _ _) rfl) rfl ?_
  obtain ⟨x6489, h6487, H⟩ := bnd H
  refine WPL.c (runs_call (s := []) (t := []) (N := 0) (bor := []) fn19 rfl (s_slices_Clone_byte_byte__b k x6481 x6489 h6487) ⟨rfl, trivial, by decide, rfl, trivial⟩ rfl trivial (.ren rfl rfl .nil) rfl trivial rfl) rfl ?_
  refine WPL.q (q_build bu64 rfl) rfl ?_
  refine WPL.d (d_box rfl rfl) rfl ?_
  refine WPL.q (q_as (v := .ptr _ _) rfl) rfl ?_
  refine WPL.nilW ?_
  refine W.now ?_
  refine Then.n ?_
  refine WP.retW ?_
  refine W.now ?_
  have q0 := (Option.some.inj H)
  subst q0
  exact ⟨trivial, _, rfl, [0], (.ptr 0 0), (Mem.nil.push (.cells 64 [.ro (Rd.slice (Rd.int .u8)) false x6489, .lit (.int .i64 0)])), ⟨rfl, ⟨trivial, .inr ⟨rfl, rfl, rfl⟩⟩, by decide, rfl, trivial⟩, rfl, rfl, rfl, rfl⟩
set_option maxRecDepth 100000 in
set_option maxHeartbeats 4000000 in
theorem s_huff_Decoder_Next (k : Nat) (x6494 : (List Int)) (x6495 : Int) (H : g_huff_Decoder_Next k x6494 x6495 = some ()) : Go.Q.Spec Try.prog 12 1 [.lit (.pointer none), .ptr 0 0] (Mem.nil.push (.cells 64 [.ro (Rd.slice (Rd.int .u8)) false x6494, .lit (.int .i64 x6495)])) (fun o M => o = .ret (.tup [.lit (.int .i64 0), .lit (.int .i64 2)]) ∧ M = (Mem.nil.push (.cells 64 [.ro (Rd.slice (Rd.int .u8)) false x6494, .lit (.int .i64 x6495)]))) := by
  unfold g_huff_Decoder_Next at H
  refine Go.Q.Spec.of_bodyR (rs := [.tmp 4, .tmp 5]) (nt := 98) Try.func12 rfl rfl (by intro t T h; simp at h) rfl rfl fun cx hnp => ?_
  refine WP.seq ?_
  refine WP.region ?_
  refine WPL.q (q_as (v := .lit (.int _ _)) rfl) rfl ?_
  refine WPL.q (q_as (v := .lit (.int _ _)) rfl) rfl ?_
  refine WPL.nilW ?_
  refine W.now ?_
  refine Then.n ?_
  refine WP.scope ?_
  refine WP.seq ?_
  refine WP.seq ?_
  refine WP.region ?_
  refine WPL.q (q_mv (v := .lit _) rfl) rfl ?_
  refine WPL.q (q_eqlp_nil Try.underlying27 rfl) rfl ?_
  refine WPL.q (q_mv (v := .lit (.bool _)) rfl) rfl ?_
  refine WPL.skipg (b' := true) rfl rfl rfl rfl rfl ?_
  refine WPL.skipg (b' := true) rfl rfl rfl rfl rfl ?_
  refine WPL.q (q_pickT (v := .lit (.bool _)) rfl rfl) rfl ?_
  refine WPL.nilW ?_
  refine W.now ?_
  refine Then.n ?_
  refine WP.condT rfl ?_
  refine WP.seq ?_
  refine WP.region ?_
  refine WPL.q (q_as (v := .lit (.int _ _)) rfl) rfl ?_
  refine WPL.q (q_as (v := .lit (.int _ _)) rfl) rfl ?_
  refine WPL.nilW ?_
  refine W.now ?_
  refine Then.n ?_
  refine WP.retW ?_
  refine W.now ?_
  refine Then.r ?_
  refine Scope.r ?_
  exact ⟨trivial, _, rfl, [0], (.tup [.lit (.int .i64 0), .lit (.int .i64 2)]), (Mem.nil.push (.cells 64 [.ro (Rd.slice (Rd.int .u8)) false x6494, .lit (.int .i64 x6495)])), ⟨rfl, ⟨trivial, .inr ⟨rfl, rfl, rfl⟩⟩, by decide, rfl, ⟨trivial, rfl⟩⟩, rfl, rfl, rfl, rfl⟩
set_option maxRecDepth 100000 in
set_option maxHeartbeats 4000000 in
theorem s_bits_Reader_Left (k : Nat) (x6501 : (List Int)) (x6502 : Int) (x6506 : Int) (H : g_bits_Reader_Left k x6501 x6502 = some x6506) : Go.Q.Spec Try.prog 13 1 [.ptr 0 0] (Mem.nil.push (.cells 64 [.ro (Rd.slice (Rd.int .u8)) false x6501, .lit (.int .i64 x6502)])) (fun o M => o = .ret (.lit (.int .i64 x6506)) ∧ M = (Mem.nil.push (.cells 64 [.ro (Rd.slice (Rd.int .u8)) false x6501, .lit (.int .i64 x6502)]))) := by
  unfold g_bits_Reader_Left at H
  refine Go.Q.Spec.of_bodyR (rs := [.tmp 2]) (nt := 16) Try.func13 rfl rfl (by intro t T h; simp at h) rfl rfl fun cx hnp => ?_
  refine WP.seq ?_
  refine WP.region ?_
  refine WPL.q (q_as (v := .lit (.int _ _)) rfl) rfl ?_
  refine WPL.nilW ?_
  refine W.now ?_
  refine Then.n ?_
  refine WP.seq ?_
  refine WP.seq ?_
  refine WP.region ?_
  refine WPL.q (q_mv (v := .ptr _ _) rfl) rfl ?_
  refine WPL.q (q_eqlp Try.underlying36 rfl) rfl ?_
  refine WPL.nilW ?_
  refine W.now ?_
  refine Then.n ?_
  refine WP.condF rfl ?_
  refine WP.skipW ?_
  refine W.now ?_
  refine Then.n ?_
  refine WP.seq ?_
  refine WP.regionD' 12 [0] [] mixed rfl ?_
  refine WPD.takeT 0 rfl (by kernel_rfl) (q_mv (v := .ptr _ _) rfl) rfl ?_
  refine WPD.takeT 1 rfl (by kernel_rfl) (q_nilCheck rfl) rfl ?_
  refine WPD.takeT 2 rfl (by kernel_rfl) (q_fieldAddr fi64_0 rfl rfl) rfl ?_
  refine WPD.takeT 6 rfl (by kernel_rfl) (q_mv (v := .ptr _ _) rfl) rfl ?_
  refine WPD.takeT 7 rfl (by kernel_rfl) (q_nilCheck rfl) rfl ?_
  refine WPD.takeT 8 rfl (by kernel_rfl) (q_fieldAddr fi64_1 rfl rfl) rfl ?_
  refine WPD.take 3 rfl (by kernel_rfl) (q_load sc38 rfl rfl rfl) rfl rfl ?_
  refine WPD.takeT 4 rfl (by kernel_rfl) (q_len_ro sl38 rfl) rfl ?_
  obtain ⟨x6508, h6508, H⟩ := bnd H
  refine WPD.takeT 5 rfl (by kernel_rfl) (q_nm (q_mul rfl rfl) (nm_int h6508)) rfl ?_
  refine WPD.take 9 rfl (by kernel_rfl) (q_load sc3 rfl rfl rfl) rfl rfl ?_
  refine WPD.takeT 10 rfl (by kernel_rfl) (q_sub rfl rfl) rfl ?_
  refine WPD.takeT 11 rfl (by kernel_rfl) (q_as (v := .lit (.int _ _)) rfl) rfl ?_
  refine WPD.doneW (by kernel_rfl) ?_
  refine W.now ?_
  refine Then.n ?_
  refine WP.retW ?_
  refine W.now ?_
  have q0 := (Option.some.inj H)
  subst q0
  exact ⟨trivial, _, rfl, [0], (.lit (.int .i64 (IntKind.wrap .i64 (x6508 - x6502)))), (Mem.nil.push (.cells 64 [.ro (Rd.slice (Rd.int .u8)) false x6501, .lit (.int .i64 x6502)])), ⟨rfl, ⟨trivial, .inr ⟨rfl, rfl, rfl⟩⟩, by decide, rfl, ⟨trivial, rfl⟩⟩, rfl, rfl, rfl, rfl⟩
set_option maxRecDepth 100000 in
set_option maxHeartbeats 4000000 in
theorem s_bits_Reader_Take (k : Nat) (x6747 : Int) (x6748 : (List Int)) (x6749 : Int) (x6794 : Int) (x6795 : Int) (x6796 : (List Int)) (x6797 : Int) (H : g_bits_Reader_Take k x6747 x6748 x6749 = some (x6794, x6795, x6796, x6797)) : Go.Q.Spec Try.prog 20 1 [.ptr 0 0, .lit (.int .i64 x6747)] (Mem.nil.push (.cells 64 [.ro (Rd.slice (Rd.int .u8)) false x6748, .lit (.int .i64 x6749)])) (fun o M => o = .ret (.tup [.lit (.int .u32 x6794), .lit (.int .i64 x6795)]) ∧ M = (Mem.nil.push (.cells 64 [.ro (Rd.slice (Rd.int .u8)) false x6796, .lit (.int .i64 x6797)]))) := by
  unfold g_bits_Reader_Take at H
  refine Go.Q.Spec.of_bodyR (rs := [.tmp 4, .tmp 5]) (nt := 85) Try.func20 rfl rfl (by intro t T h; simp at h) rfl rfl fun cx hnp => ?_
  refine WP.seq ?_
  refine WP.region ?_
  refine WPL.q (q_as (v := .lit (.int _ _)) rfl) rfl ?_
  refine WPL.q (q_as (v := .lit (.int _ _)) rfl) rfl ?_
  refine WPL.nilW ?_
  refine W.now ?_
  refine Then.n ?_
  refine WP.seq ?_
  refine WP.block ?_
  refine WP.seq ?_
  refine WP.region ?_
  refine WPL.q (q_mv (v := .ptr _ _) rfl) rfl ?_
  refine WPL.q (q_eqlp Try.underlying36 rfl) rfl ?_
  refine WPL.q (q_as (v := .lit (.bool _)) rfl) rfl ?_
  refine WPL.nilW ?_
  refine W.now ?_
  refine Then.n ?_
  refine WP.condF rfl ?_
  refine WP.seq ?_
  obtain ⟨x6805, H6806, H⟩ := bnd H
  refine WP.monoW (Q := fun x E M => x = .normal ∧ E = (((Env.none.upd 0 (.ptr 0 0)).upd 1 (.lit (.int .i64 x6747))).upd 12 (.lit (.bool x6805))) ∧ M = (Mem.nil.push (.cells 64 [.ro (Rd.slice (Rd.int .u8)) false x6748, .lit (.int .i64 x6749)]))) ?_ ?_
  · clear H
    have H := H6806
    clear H6806
    refine WP.region ?_
    refine WPL.q (q_mv (v := .lit (.int _ _)) rfl) rfl ?_
    refine WPL.q (q_lss rfl rfl) rfl ?_
    refine WPL.q (q_mv (v := .lit (.bool _)) rfl) rfl ?_
    refine WPL.split (t := 15) (b := (decide (x6747 < 0))) rfl (fun hb6805 => ?_) (fun hb6805 => ?_)
    · replace H := cnt hb6805 H
      refine WPL.skipg (b' := true) rfl rfl (lb hb6805) rfl rfl ?_
      refine WPL.skipg (b' := true) rfl rfl (lb hb6805) rfl rfl ?_
      refine WPL.q (q_pickT (v := .lit (.bool _)) (lb hb6805) rfl) rfl ?_
      refine WPL.q (q_as (v := .lit (.bool _)) rfl) rfl ?_
      refine WPL.nilW ?_
      refine W.cv (Cv.weak (E' := (((Env.none.upd 0 (.ptr 0 0)).upd 1 (.lit (.int .i64 x6747))).upd 12 (.lit (.bool true)))) (M' := (Mem.nil.push (.cells 64 [.ro (Rd.slice (Rd.int .u8)) false x6748, .lit (.int .i64 x6749)]))) [0] hnp ⟨rfl, ⟨trivial, .inr ⟨rfl, rfl, rfl⟩⟩, by decide, rfl, ⟨trivial, rfl⟩⟩ (LeE.upd rfl rfl (LeE.upd rfl rfl (LeE.upd rfl rfl (LeE.none rfl rfl))))) rfl ?_
      refine W.now ?_
      have q0 := (Option.some.inj H)
      subst q0
      exact ⟨rfl, rfl, rfl⟩
    · replace H := cnf hb6805 H
      refine WPL.qg rfl rfl (lb hb6805) (q_mv (v := .lit (.int _ _)) rfl) rfl ?_
      refine WPL.qg rfl rfl (lb hb6805) (q_gtr rfl rfl) rfl ?_
      refine WPL.q (q_pickF (v := .lit (.bool _)) (lb hb6805) rfl) rfl ?_
      refine WPL.q (q_as (v := .lit (.bool _)) rfl) rfl ?_
      refine WPL.nilW ?_
      refine W.cv (Cv.weak (E' := (((Env.none.upd 0 (.ptr 0 0)).upd 1 (.lit (.int .i64 x6747))).upd 12 (.lit (.bool (decide (32 < x6747)))))) (M' := (Mem.nil.push (.cells 64 [.ro (Rd.slice (Rd.int .u8)) false x6748, .lit (.int .i64 x6749)]))) [0] hnp ⟨rfl, ⟨trivial, .inr ⟨rfl, rfl, rfl⟩⟩, by decide, rfl, ⟨trivial, rfl⟩⟩ (LeE.upd rfl rfl (LeE.upd rfl rfl (LeE.upd rfl rfl (LeE.none rfl rfl))))) rfl ?_
      refine W.now ?_
      have q0 := (Option.some.inj H)
      subst q0
      exact ⟨rfl, rfl, rfl⟩
  · rintro _ _ _ ⟨rfl, rfl, rfl⟩
    refine W.now ?_
    refine Then.n ?_
    refine WP.cond (t := x6805) rfl (fun hb => ?_) (fun hb => ?_)
    · replace H := cnt hb H
      refine WP.seq ?_
      refine WP.region ?_
      refine WPL.q (q_as (v := .lit (.int _ _)) rfl) rfl ?_
      refine WPL.q (q_as (v := .lit (.int _ _)) rfl) rfl ?_
      refine WPL.nilW ?_
      refine W.now ?_
      refine Then.n ?_
      refine WP.retW ?_
      refine W.now ?_
      refine InBlock.r ?_
      refine Then.r ?_
      have q0 := (Prod.mk.inj (Option.some.inj H)).1
      have q1 := (Prod.mk.inj (Prod.mk.inj (Option.some.inj H)).2).1
      have q2 := (Prod.mk.inj (Prod.mk.inj (Prod.mk.inj (Option.some.inj H)).2).2).1
      have q3 := (Prod.mk.inj (Prod.mk.inj (Prod.mk.inj (Option.some.inj H)).2).2).2
      subst q0
      subst q1
      subst q2
      subst q3
      exact ⟨trivial, _, rfl, [0], (.tup [.lit (.int .u32 0), .lit (.int .i64 1)]), (Mem.nil.push (.cells 64 [.ro (Rd.slice (Rd.int .u8)) false x6748, .lit (.int .i64 x6749)])), ⟨rfl, ⟨trivial, .inr ⟨rfl, rfl, rfl⟩⟩, by decide, rfl, ⟨trivial, rfl⟩⟩, rfl, rfl, rfl, rfl⟩
    · replace H := cnf hb H
      refine WP.seq ?_
      refine WP.region ?_
      refine WPL.q (q_mv (v := .lit (.int _ _)) rfl) rfl ?_
      refine WPL.q (q_mv (v := .ptr _ _) rfl) rfl ?_
      obtain ⟨x6809, h6807, H⟩ := bnd H
      refine WPL.c (runs_call (s := [0]) (t := [0]) (N := 1) (bor := []) fn13 rfl (s_bits_Reader_Left k x6748 x6749 x6809 h6807) ⟨rfl, ⟨trivial, .inr ⟨rfl, rfl, rfl⟩⟩, by decide, rfl, trivial⟩ rfl trivial (.ren rfl rfl .nil) rfl ⟨trivial, rfl⟩ rfl) rfl ?_
      refine WPL.q (q_gtr rfl rfl) rfl ?_
      refine WPL.q (q_as (v := .lit (.bool _)) rfl) rfl ?_
      refine WPL.nilW ?_
      refine W.now ?_
      refine Then.n ?_
      refine WP.cond (t := (decide (x6809 < x6747))) rfl (fun hb => ?_) (fun hb => ?_)
      · replace H := cnt hb H
        refine WP.seq ?_
        refine WP.region ?_
        refine WPL.q (q_as (v := .lit (.int _ _)) rfl) rfl ?_
        refine WPL.q (q_as (v := .lit (.int _ _)) rfl) rfl ?_
        refine WPL.nilW ?_
        refine W.now ?_
        refine Then.n ?_
        refine WP.retW ?_
        refine W.now ?_
        refine InBlock.r ?_
        refine Then.r ?_
        have q0 := (Prod.mk.inj (Option.some.inj H)).1
        have q1 := (Prod.mk.inj (Prod.mk.inj (Option.some.inj H)).2).1
        have q2 := (Prod.mk.inj (Prod.mk.inj (Prod.mk.inj (Option.some.inj H)).2).2).1
        have q3 := (Prod.mk.inj (Prod.mk.inj (Prod.mk.inj (Option.some.inj H)).2).2).2
        subst q0
        subst q1
        subst q2
        subst q3
        exact ⟨trivial, _, rfl, [0], (.tup [.lit (.int .u32 0), .lit (.int .i64 10)]), (Mem.nil.push (.cells 64 [.ro (Rd.slice (Rd.int .u8)) false x6748, .lit (.int .i64 x6749)])), ⟨rfl, ⟨trivial, .inr ⟨rfl, rfl, rfl⟩⟩, by decide, rfl, ⟨trivial, rfl⟩⟩, rfl, rfl, rfl, rfl⟩
      · replace H := cnf hb H
        refine WP.skipW ?_
        refine W.now ?_
        refine InBlock.n ?_
        refine Then.n ?_
        refine WP.seq ?_
        refine WP.region ?_
        refine WPL.q (q_as (v := .lit (.int _ _)) rfl) rfl ?_
        refine WPL.q (q_as (v := .lit (.int _ _)) rfl) rfl ?_
        refine WPL.nilW ?_
        refine W.now ?_
        refine Then.n ?_
        refine WP.seq ?_
        refine WP.block ?_
        refine WP.cv (Cv.weak (E' := ((((Env.none.upd 0 (.ptr 0 0)).upd 1 (.lit (.int .i64 x6747))).upd 6 (.lit (.int .u64 0))).upd 7 (.lit (.int .i64 0)))) (M' := (Mem.nil.push (.cells 64 [.ro (Rd.slice (Rd.int .u8)) false x6748, .lit (.int .i64 x6749)]))) [0] hnp ⟨rfl, ⟨trivial, .inr ⟨rfl, rfl, rfl⟩⟩, by decide, rfl, ⟨trivial, rfl⟩⟩ (LeE.upd rfl rfl (LeE.upd rfl rfl (LeE.upd rfl rfl (LeE.upd rfl rfl (LeE.none rfl rfl)))))) ?_
        obtain ⟨⟨x6834, x6835, x6836⟩, H6847, H⟩ := bnd H
        refine WP.monoW (Q := fun x E M => x = .exit 1 ∧ E = ((Env.none.upd 1 (.lit (.int .i64 x6747))).upd 6 (.lit (.int .u64 x6834))) ∧ M = (Mem.nil.push (.cells 64 [.ro (Rd.slice (Rd.int .u8)) false x6835, .lit (.int .i64 x6836)]))) ?_ ?_
        · refine WP.loop (β := Int × Int × (List Int) × Int) (fun n b => g_bits_Reader_Take_l0 k x6747 n b.1 b.2.1 b.2.2.1 b.2.2.2 = some (x6834, x6835, x6836)) (fun b => ((((Env.none.upd 0 (.ptr 0 0)).upd 1 (.lit (.int .i64 x6747))).upd 6 (.lit (.int .u64 b.1))).upd 7 (.lit (.int .i64 b.2.1)))) (fun b => (Mem.nil.push (.cells 64 [.ro (Rd.slice (Rd.int .u8)) false b.2.2.1, .lit (.int .i64 b.2.2.2)]))) k (0, 0, x6748, x6749) H6847 rfl rfl ?_
          rintro n ⟨x6819, x6820, x6821, x6822⟩ H
          obtain _ | n := n
          · exact nf rfl H
          rw [g_bits_Reader_Take_l0.eq_2] at H
          show WP _ _ _ _ ((((Env.none.upd 0 (.ptr 0 0)).upd 1 (.lit (.int .i64 x6747))).upd 6 (.lit (.int .u64 x6819))).upd 7 (.lit (.int .i64 x6820))) (Mem.nil.push (.cells 64 [.ro (Rd.slice (Rd.int .u8)) false x6821, .lit (.int .i64 x6822)])) _
          refine WP.seq ?_
          refine WP.seq ?_
          refine WP.region ?_
          refine WPL.q (q_mv (v := .lit (.int _ _)) rfl) rfl ?_
          refine WPL.q (q_mv (v := .lit (.int _ _)) rfl) rfl ?_
          refine WPL.q (q_lss rfl rfl) rfl ?_
          refine WPL.nilW ?_
          refine W.now ?_
          refine Then.n ?_
          refine WP.cond (t := (decide (x6820 < x6747))) rfl (fun hb => ?_) (fun hb => ?_)
          · replace H := cnt hb H
            refine WP.skipW ?_
            refine W.now ?_
            refine Then.n ?_
            refine WP.block ?_
            refine WP.seq ?_
            refine WP.regionD' 17 [0] [] mixed rfl ?_
            refine WPD.takeT 0 rfl (by kernel_rfl) (q_mv (v := .lit (.int _ _)) rfl) rfl ?_
            refine WPD.takeT 1 rfl (by kernel_rfl) (q_mv (v := .ptr _ _) rfl) rfl ?_
            refine WPD.takeT 2 rfl (by kernel_rfl) (q_nilCheck rfl) rfl ?_
            refine WPD.takeT 3 rfl (by kernel_rfl) (q_fieldAddr fi64_0 rfl rfl) rfl ?_
            refine WPD.takeT 7 rfl (by kernel_rfl) (q_mv (v := .ptr _ _) rfl) rfl ?_
            refine WPD.takeT 8 rfl (by kernel_rfl) (q_nilCheck rfl) rfl ?_
            refine WPD.takeT 9 rfl (by kernel_rfl) (q_fieldAddr fi64_1 rfl rfl) rfl ?_
            refine WPD.takeT 13 rfl (by kernel_rfl) (q_mv (v := .lit (.int _ _)) rfl) rfl ?_
            refine WPD.take 4 rfl (by kernel_rfl) (q_load sc38 rfl rfl rfl) rfl rfl ?_
            obtain ⟨x6841, h6841, H⟩ := bnd H
            refine WPD.takeT 5 rfl (by kernel_rfl) (q_index_ro sl38 rfl rfl rfl h6841) rfl ?_
            refine WPD.takeT 6 rfl (by kernel_rfl) (q_load_sc sc5 rfl) rfl ?_
            refine WPD.take 10 rfl (by kernel_rfl) (q_load sc3 rfl rfl rfl) rfl rfl ?_
            obtain ⟨h6841, H⟩ := grd H
            refine WPD.takeT 11 rfl (by kernel_rfl) (q_shr rfl rfl h6841) rfl ?_
            refine WPD.takeT 12 rfl (by kernel_rfl) (q_conv Try.underlying5 Try.underlying60 rfl) rfl ?_
            obtain ⟨h6842, H⟩ := grd H
            obtain ⟨x6844, h6844, H⟩ := bnd H
            refine WPD.takeT 14 rfl (by kernel_rfl) (q_nm (q_shl rfl rfl h6842) (nm_int h6844)) rfl ?_
            refine WPD.takeT 15 rfl (by kernel_rfl) (q_or rfl rfl) rfl ?_
            refine WPD.takeT 16 rfl (by kernel_rfl) (q_as (v := .lit (.int _ _)) rfl) rfl ?_
            refine WPD.doneW (by kernel_rfl) ?_
            refine W.now ?_
            refine Then.n ?_
            refine WP.seq ?_
            refine WP.region ?_
            refine WPL.q (q_mv (v := .ptr _ _) rfl) rfl ?_
            refine WPL.q (q_nilCheck rfl) rfl ?_
            refine WPL.q (q_fieldAddr fi64_1 rfl rfl) rfl ?_
            refine WPL.q (q_load sc3 rfl rfl rfl) rfl ?_
            refine WPL.q (q_sub rfl rfl) rfl ?_
            refine WPL.q (q_mv (v := .lit (.int _ _)) rfl) rfl ?_
            refine WPL.q (q_mv (v := .lit (.int _ _)) rfl) rfl ?_
            refine WPL.q (q_sub rfl rfl) rfl ?_
            obtain ⟨x6845, h6845, H⟩ := bnd H
            refine WPL.q (q_nm (q_min rfl rfl) (nm_int h6845)) rfl ?_
            refine WPL.q (q_as (v := .lit (.int _ _)) rfl) rfl ?_
            refine WPL.nilW ?_
            refine W.now ?_
            refine Then.n ?_
            refine WP.seq ?_
            refine WP.region ?_
            refine WPL.q (q_mv (v := .lit (.int _ _)) rfl) rfl ?_
            refine WPL.q (q_mv (v := .lit (.int _ _)) rfl) rfl ?_
            refine WPL.q (q_add rfl rfl) rfl ?_
            refine WPL.q (q_as (v := .lit (.int _ _)) rfl) rfl ?_
            refine WPL.nilW ?_
            refine W.now ?_
            refine Then.n ?_
            refine WP.seq ?_
            refine WP.region ?_
            refine WPL.q (q_mv (v := .ptr _ _) rfl) rfl ?_
            refine WPL.q (q_nilCheck rfl) rfl ?_
            refine WPL.q (q_fieldAddr fi64_1 rfl rfl) rfl ?_
            refine WPL.q (q_load sc3 rfl rfl rfl) rfl ?_
            refine WPL.q (q_mv (v := .lit (.int _ _)) rfl) rfl ?_
            refine WPL.q (q_add rfl rfl) rfl ?_
            refine WPL.q (q_nilCheck rfl) rfl ?_
            refine WPL.q (q_fieldAddr fi64_1 rfl rfl) rfl ?_
            refine WPL.s (s_store sz3 rfl rfl rfl rfl rfl) ?_
            refine WPL.nilW ?_
            refine W.now ?_
            refine Then.n ?_
            refine WP.seq ?_
            refine WP.region ?_
            refine WPL.q (q_mv (v := .ptr _ _) rfl) rfl ?_
            refine WPL.q (q_nilCheck rfl) rfl ?_
            refine WPL.q (q_fieldAddr fi64_1 rfl rfl) rfl ?_
            refine WPL.q (q_load sc3 rfl rfl rfl) rfl ?_
            obtain ⟨x6846, h6846, H⟩ := bnd H
            refine WPL.q (q_nm (q_eql rfl rfl) (nm_bool h6846)) rfl ?_
            refine WPL.nilW ?_
            refine W.now ?_
            refine Then.n ?_
            refine WP.cond (t := x6846) rfl (fun hb => ?_) (fun hb => ?_)
            · replace H := cnt hb H
              refine WP.region ?_
              refine WPL.q (q_mv (v := .ptr _ _) rfl) rfl ?_
              refine WPL.q (q_mv (v := .ptr _ _) rfl) rfl ?_
              refine WPL.q (q_mv (v := .ptr _ _) rfl) rfl ?_
              refine WPL.q (q_nilCheck rfl) rfl ?_
              refine WPL.q (q_fieldAddr fi64_0 rfl rfl) rfl ?_
              refine WPL.q (q_load sc38 rfl rfl rfl) rfl ?_
              obtain ⟨h6846, H⟩ := grd H
              refine WPL.q (q_slice_ro (i := 1) (j := ((List.length x6821 : Nat) : Int)) sl38 rfl rfl ⟨_, rfl⟩ rfl h6846) rfl ?_
              refine WPL.q (q_nilCheck rfl) rfl ?_
              refine WPL.q (q_fieldAddr fi64_0 rfl rfl) rfl ?_
              refine WPL.s (s_store sz38 rfl rfl rfl rfl rfl) ?_
              refine WPL.q (q_nilCheck rfl) rfl ?_
              refine WPL.q (q_fieldAddr fi64_1 rfl rfl) rfl ?_
              refine WPL.s (s_store sz3 rfl rfl rfl rfl rfl) ?_
              refine WPL.nilW ?_
              refine W.cv (Cv.weak (E' := ((((Env.none.upd 0 (.ptr 0 0)).upd 1 (.lit (.int .i64 x6747))).upd 6 (.lit (.int .u64 (bits .or .u64 x6819 x6844)))).upd 7 (.lit (.int .i64 (IntKind.wrap .i64 (x6820 + x6845)))))) (M' := (Mem.nil.push (.cells 64 [.ro (Rd.slice (Rd.int .u8)) false (List.drop (Int.toNat 1) (List.take (Int.toNat ((List.length x6821 : Nat) : Int)) x6821)), .lit (.int .i64 0)]))) [0] hnp ⟨rfl, ⟨trivial, .inr ⟨rfl, rfl, rfl⟩⟩, by decide, rfl, ⟨trivial, rfl⟩⟩ (LeE.upd rfl rfl (LeE.upd rfl rfl (LeE.upd rfl rfl (LeE.upd rfl rfl (LeE.none rfl rfl)))))) rfl ?_
              refine W.now ?_
              refine InBlock.n ?_
              exact Then.n ⟨n, ((bits .or .u64 x6819 x6844), (IntKind.wrap .i64 (x6820 + x6845)), (List.drop (Int.toNat 1) (List.take (Int.toNat ((List.length x6821 : Nat) : Int)) x6821)), 0), Nat.lt_succ_self n, H, rfl, rfl⟩
            · replace H := cnf hb H
              refine WP.skipW ?_
              refine W.cv (Cv.weak (E' := ((((Env.none.upd 0 (.ptr 0 0)).upd 1 (.lit (.int .i64 x6747))).upd 6 (.lit (.int .u64 (bits .or .u64 x6819 x6844)))).upd 7 (.lit (.int .i64 (IntKind.wrap .i64 (x6820 + x6845)))))) (M' := (Mem.nil.push (.cells 64 [.ro (Rd.slice (Rd.int .u8)) false x6821, .lit (.int .i64 (IntKind.wrap .i64 (x6822 + x6845)))]))) [0] hnp ⟨rfl, ⟨trivial, .inr ⟨rfl, rfl, rfl⟩⟩, by decide, rfl, ⟨trivial, rfl⟩⟩ (LeE.upd rfl rfl (LeE.upd rfl rfl (LeE.upd rfl rfl (LeE.upd rfl rfl (LeE.none rfl rfl)))))) rfl ?_
              refine W.now ?_
              refine InBlock.n ?_
              exact Then.n ⟨n, ((bits .or .u64 x6819 x6844), (IntKind.wrap .i64 (x6820 + x6845)), x6821, (IntKind.wrap .i64 (x6822 + x6845))), Nat.lt_succ_self n, H, rfl, rfl⟩
          · replace H := cnf hb H
            refine WP.exitW ?_
            refine W.cv (Cv.weak (E' := ((Env.none.upd 1 (.lit (.int .i64 x6747))).upd 6 (.lit (.int .u64 x6819)))) (M' := (Mem.nil.push (.cells 64 [.ro (Rd.slice (Rd.int .u8)) false x6821, .lit (.int .i64 x6822)]))) [0] hnp ⟨rfl, ⟨trivial, .inr ⟨rfl, rfl, rfl⟩⟩, by decide, rfl, ⟨trivial, rfl⟩⟩ (LeE.upd rfl rfl (LeE.upd rfl rfl (LeE.none rfl rfl)))) rfl ?_
            refine W.now ?_
            refine Then.x ?_
            refine Then.x ?_
            have q0 := (Prod.mk.inj (Option.some.inj H)).1
            have q1 := (Prod.mk.inj (Prod.mk.inj (Option.some.inj H)).2).1
            have q2 := (Prod.mk.inj (Prod.mk.inj (Option.some.inj H)).2).2
            subst q0
            subst q1
            subst q2
            exact ⟨rfl, rfl, rfl⟩
        · rintro _ _ _ ⟨rfl, rfl, rfl⟩
          refine W.now ?_
          refine InBlock.x0 ?_
          refine Then.n ?_
          refine WP.seq ?_
          refine WP.region ?_
          refine WPL.q (q_mv (v := .lit (.int _ _)) rfl) rfl ?_
          refine WPL.q (q_mv (v := .lit (.int _ _)) rfl) rfl ?_
          obtain ⟨h6848, H⟩ := grd H
          refine WPL.q (q_shl rfl rfl h6848) rfl ?_
          obtain ⟨x6850, h6850, H⟩ := bnd H
          refine WPL.q (q_nm (q_sub rfl rfl) (nm_int h6850)) rfl ?_
          refine WPL.q (q_and rfl rfl) rfl ?_
          obtain ⟨x6851, h6851, H⟩ := bnd H
          refine WPL.q (q_nm (q_conv Try.underlying60 Try.underlying34 rfl) (nm_int h6851)) rfl ?_
          refine WPL.q (q_as (v := .lit (.int _ _)) rfl) rfl ?_
          refine WPL.q (q_as (v := .lit (.int _ _)) rfl) rfl ?_
          refine WPL.nilW ?_
          refine W.now ?_
          refine Then.n ?_
          refine WP.retW ?_
          refine W.now ?_
          have q0 := (Prod.mk.inj (Option.some.inj H)).1
          have q1 := (Prod.mk.inj (Prod.mk.inj (Option.some.inj H)).2).1
          have q2 := (Prod.mk.inj (Prod.mk.inj (Prod.mk.inj (Option.some.inj H)).2).2).1
          have q3 := (Prod.mk.inj (Prod.mk.inj (Prod.mk.inj (Option.some.inj H)).2).2).2
          subst q0
          subst q1
          subst q2
          subst q3
          exact ⟨trivial, _, rfl, [0], (.tup [.lit (.int .u32 x6851), .lit (.int .i64 0)]), (Mem.nil.push (.cells 64 [.ro (Rd.slice (Rd.int .u8)) false x6835, .lit (.int .i64 x6836)])), ⟨rfl, ⟨trivial, .inr ⟨rfl, rfl, rfl⟩⟩, by decide, rfl, ⟨trivial, rfl⟩⟩, rfl, rfl, rfl, rfl⟩
set_option maxRecDepth 100000 in
set_option maxHeartbeats 4000000 in
theorem s_huff_Decoder_begins (k : Nat) (x6866 : Int) (x6867 : Int) (x6868 : (List Int)) (x6869 : (List Int)) (x6880 : Bool) (H : g_huff_Decoder_begins k x6866 x6867 x6868 x6869 = some x6880) : Go.Q.Spec Try.prog 21 1 [.ptr 0 0, .lit (.int .i64 x6866), .lit (.int .i64 x6867)] ((Mem.nil.push (.cells 52 [.lit (.int .i64 (List.getD x6868 0 (0 : Int))), .lit (.int .i64 (List.getD x6868 1 (0 : Int))), .lit (.int .i64 (List.getD x6868 2 (0 : Int))), .lit (.int .i64 (List.getD x6868 3 (0 : Int))), .lit (.int .i64 (List.getD x6868 4 (0 : Int))), .lit (.int .i64 (List.getD x6868 5 (0 : Int))), .lit (.int .i64 (List.getD x6868 6 (0 : Int))), .lit (.int .i64 (List.getD x6868 7 (0 : Int))), .lit (.int .i64 (List.getD x6868 8 (0 : Int))), .lit (.int .i64 (List.getD x6868 9 (0 : Int))), .lit (.int .i64 (List.getD x6868 10 (0 : Int))), .lit (.int .i64 (List.getD x6868 11 (0 : Int))), .lit (.int .i64 (List.getD x6868 12 (0 : Int))), .lit (.int .i64 (List.getD x6868 13 (0 : Int))), .lit (.int .i64 (List.getD x6868 14 (0 : Int))), .lit (.int .i64 (List.getD x6868 15 (0 : Int))), .whole 1])).push (.row 3 (Rd.int .i64) x6869)) (fun o M => o = .ret (.lit (.bool x6880)) ∧ M = ((Mem.nil.push (.cells 52 [.lit (.int .i64 (List.getD x6868 0 (0 : Int))), .lit (.int .i64 (List.getD x6868 1 (0 : Int))), .lit (.int .i64 (List.getD x6868 2 (0 : Int))), .lit (.int .i64 (List.getD x6868 3 (0 : Int))), .lit (.int .i64 (List.getD x6868 4 (0 : Int))), .lit (.int .i64 (List.getD x6868 5 (0 : Int))), .lit (.int .i64 (List.getD x6868 6 (0 : Int))), .lit (.int .i64 (List.getD x6868 7 (0 : Int))), .lit (.int .i64 (List.getD x6868 8 (0 : Int))), .lit (.int .i64 (List.getD x6868 9 (0 : Int))), .lit (.int .i64 (List.getD x6868 10 (0 : Int))), .lit (.int .i64 (List.getD x6868 11 (0 : Int))), .lit (.int .i64 (List.getD x6868 12 (0 : Int))), .lit (.int .i64 (List.getD x6868 13 (0 : Int))), .lit (.int .i64 (List.getD x6868 14 (0 : Int))), .lit (.int .i64 (List.getD x6868 15 (0 : Int))), .whole 1])).push (.row 3 (Rd.int .i64) x6869))) := by
  unfold g_huff_Decoder_begins at H
  refine Go.Q.Spec.of_bodyR (rs := [.tmp 6]) (nt := 27) Try.func21 rfl rfl (by intro t T h; simp at h) rfl rfl fun cx hnp => ?_
  refine WP.seq ?_
  refine WP.region ?_
  refine WPL.q (q_as (v := .lit (.bool _)) rfl) rfl ?_
  refine WPL.nilW ?_
  refine W.now ?_
  refine Then.n ?_
  refine WP.seq ?_
  refine WP.region ?_
  refine WPL.q (q_as (v := .lit (.int _ _)) rfl) rfl ?_
  refine WPL.nilW ?_
  refine W.now ?_
  refine Then.n ?_
  refine WP.seq ?_
  refine WP.seq ?_
  refine WP.region ?_
  refine WPL.q (q_as (v := .lit (.int _ _)) rfl) rfl ?_
  refine WPL.nilW ?_
  refine W.now ?_
  refine Then.n ?_
  refine WP.block ?_
  refine WP.cv (Cv.weak (E' := (((((Env.none.upd 0 (.ptr 0 0)).upd 1 (.lit (.int .i64 x6866))).upd 2 (.lit (.int .i64 x6867))).upd 7 (.lit (.int .i64 0))).upd 8 (.lit (.int .i64 15)))) (M' := ((Mem.nil.push (.cells 52 [.lit (.int .i64 (List.getD x6868 0 (0 : Int))), .lit (.int .i64 (List.getD x6868 1 (0 : Int))), .lit (.int .i64 (List.getD x6868 2 (0 : Int))), .lit (.int .i64 (List.getD x6868 3 (0 : Int))), .lit (.int .i64 (List.getD x6868 4 (0 : Int))), .lit (.int .i64 (List.getD x6868 5 (0 : Int))), .lit (.int .i64 (List.getD x6868 6 (0 : Int))), .lit (.int .i64 (List.getD x6868 7 (0 : Int))), .lit (.int .i64 (List.getD x6868 8 (0 : Int))), .lit (.int .i64 (List.getD x6868 9 (0 : Int))), .lit (.int .i64 (List.getD x6868 10 (0 : Int))), .lit (.int .i64 (List.getD x6868 11 (0 : Int))), .lit (.int .i64 (List.getD x6868 12 (0 : Int))), .lit (.int .i64 (List.getD x6868 13 (0 : Int))), .lit (.int .i64 (List.getD x6868 14 (0 : Int))), .lit (.int .i64 (List.getD x6868 15 (0 : Int))), .whole 1])).push (.row 3 (Rd.int .i64) x6869))) [0, 1] hnp ⟨rfl, ⟨⟨trivial, .inr ⟨rfl, rfl, rfl⟩⟩, .inr ⟨rfl, rfl, rfl⟩⟩, by decide, rfl, ⟨trivial, rfl⟩⟩ (LeE.upd rfl rfl (LeE.upd rfl rfl (LeE.upd rfl rfl (LeE.upd rfl rfl (LeE.upd rfl rfl (LeE.none rfl rfl))))))) ?_
  obtain ⟨x6888, H6891, H⟩ := bnd H
  refine WP.monoW (Q := fun x E M => x = .exit 0 ∧ E = ((Env.none.upd 1 (.lit (.int .i64 x6866))).upd 7 (.lit (.int .i64 x6888))) ∧ M = ((Mem.nil.push (.cells 52 [.lit (.int .i64 (List.getD x6868 0 (0 : Int))), .lit (.int .i64 (List.getD x6868 1 (0 : Int))), .lit (.int .i64 (List.getD x6868 2 (0 : Int))), .lit (.int .i64 (List.getD x6868 3 (0 : Int))), .lit (.int .i64 (List.getD x6868 4 (0 : Int))), .lit (.int .i64 (List.getD x6868 5 (0 : Int))), .lit (.int .i64 (List.getD x6868 6 (0 : Int))), .lit (.int .i64 (List.getD x6868 7 (0 : Int))), .lit (.int .i64 (List.getD x6868 8 (0 : Int))), .lit (.int .i64 (List.getD x6868 9 (0 : Int))), .lit (.int .i64 (List.getD x6868 10 (0 : Int))), .lit (.int .i64 (List.getD x6868 11 (0 : Int))), .lit (.int .i64 (List.getD x6868 12 (0 : Int))), .lit (.int .i64 (List.getD x6868 13 (0 : Int))), .lit (.int .i64 (List.getD x6868 14 (0 : Int))), .lit (.int .i64 (List.getD x6868 15 (0 : Int))), .whole 1])).push (.row 3 (Rd.int .i64) x6869))) ?_ ?_
  · refine WP.loop (β := Int × Int) (fun n b => g_huff_Decoder_begins_l0 k x6867 x6868 n b.1 b.2 = some x6888) (fun b => (((((Env.none.upd 0 (.ptr 0 0)).upd 1 (.lit (.int .i64 x6866))).upd 2 (.lit (.int .i64 x6867))).upd 7 (.lit (.int .i64 b.1))).upd 8 (.lit (.int .i64 b.2)))) (fun b => ((Mem.nil.push (.cells 52 [.lit (.int .i64 (List.getD x6868 0 (0 : Int))), .lit (.int .i64 (List.getD x6868 1 (0 : Int))), .lit (.int .i64 (List.getD x6868 2 (0 : Int))), .lit (.int .i64 (List.getD x6868 3 (0 : Int))), .lit (.int .i64 (List.getD x6868 4 (0 : Int))), .lit (.int .i64 (List.getD x6868 5 (0 : Int))), .lit (.int .i64 (List.getD x6868 6 (0 : Int))), .lit (.int .i64 (List.getD x6868 7 (0 : Int))), .lit (.int .i64 (List.getD x6868 8 (0 : Int))), .lit (.int .i64 (List.getD x6868 9 (0 : Int))), .lit (.int .i64 (List.getD x6868 10 (0 : Int))), .lit (.int .i64 (List.getD x6868 11 (0 : Int))), .lit (.int .i64 (List.getD x6868 12 (0 : Int))), .lit (.int .i64 (List.getD x6868 13 (0 : Int))), .lit (.int .i64 (List.getD x6868 14 (0 : Int))), .lit (.int .i64 (List.getD x6868 15 (0 : Int))), .whole 1])).push (.row 3 (Rd.int .i64) x6869))) k (0, 15) H6891 rfl rfl ?_
    rintro n ⟨x6883, x6884⟩ H
    obtain _ | n := n
    · exact nf rfl H
    rw [g_huff_Decoder_begins_l0.eq_2] at H
    show WP _ _ _ _ (((((Env.none.upd 0 (.ptr 0 0)).upd 1 (.lit (.int .i64 x6866))).upd 2 (.lit (.int .i64 x6867))).upd 7 (.lit (.int .i64 x6883))).upd 8 (.lit (.int .i64 x6884))) ((Mem.nil.push (.cells 52 [.lit (.int .i64 (List.getD x6868 0 (0 : Int))), .lit (.int .i64 (List.getD x6868 1 (0 : Int))), .lit (.int .i64 (List.getD x6868 2 (0 : Int))), .lit (.int .i64 (List.getD x6868 3 (0 : Int))), .lit (.int .i64 (List.getD x6868 4 (0 : Int))), .lit (.int .i64 (List.getD x6868 5 (0 : Int))), .lit (.int .i64 (List.getD x6868 6 (0 : Int))), .lit (.int .i64 (List.getD x6868 7 (0 : Int))), .lit (.int .i64 (List.getD x6868 8 (0 : Int))), .lit (.int .i64 (List.getD x6868 9 (0 : Int))), .lit (.int .i64 (List.getD x6868 10 (0 : Int))), .lit (.int .i64 (List.getD x6868 11 (0 : Int))), .lit (.int .i64 (List.getD x6868 12 (0 : Int))), .lit (.int .i64 (List.getD x6868 13 (0 : Int))), .lit (.int .i64 (List.getD x6868 14 (0 : Int))), .lit (.int .i64 (List.getD x6868 15 (0 : Int))), .whole 1])).push (.row 3 (Rd.int .i64) x6869)) _
    refine WP.seq ?_
    refine WP.seq ?_
    refine WP.region ?_
    refine WPL.q (q_mv (v := .lit (.int _ _)) rfl) rfl ?_
    refine WPL.q (q_mv (v := .lit (.int _ _)) rfl) rfl ?_
    refine WPL.q (q_geq rfl rfl) rfl ?_
    refine WPL.nilW ?_
    refine W.now ?_
    refine Then.n ?_
    refine WP.cond (t := (decide (x6867 ≤ x6884))) rfl (fun hb => ?_) (fun hb => ?_)
    · replace H := cnt hb H
      refine WP.skipW ?_
      refine W.now ?_
      refine Then.n ?_
      refine WP.seq ?_
      refine WP.block ?_
      refine WP.region ?_
      refine WPL.q (q_mv (v := .lit (.int _ _)) rfl) rfl ?_
      refine WPL.q (q_mv (v := .ptr _ _) rfl) rfl ?_
      refine WPL.q (q_mv (v := .lit (.int _ _)) rfl) rfl ?_
      refine WPL.q (q_nilCheck rfl) rfl ?_
      refine WPL.q (q_fieldAddr fi52_0 rfl rfl) rfl ?_
      obtain ⟨h6888, H⟩ := grd H
      refine WPL.q (q_indexArr ar50 rfl rfl h6888 rfl) rfl ?_
      refine WPL.q (q_load_arr (f := (fun z : Int => AVal.lit (.int .i64 z))) (d0 := (0 : Int)) (xs := x6868) (n := 16) (off := 0) (j := (Int.toNat x6884)) sc3 rfl rfl rfl (natlt h6888) (addone _ _)) rfl ?_
      obtain ⟨x6890, h6890, H⟩ := bnd H
      refine WPL.q (q_nm (q_add rfl rfl) (nm_int h6890)) rfl ?_
      refine WPL.q (q_add rfl rfl) rfl ?_
      obtain ⟨x6891, h6891, H⟩ := bnd H
      refine WPL.q (q_nm (q_quo rfl rfl rfl) (nm_int h6891)) rfl ?_
      refine WPL.q (q_as (v := .lit (.int _ _)) rfl) rfl ?_
      refine WPL.nilW ?_
      refine W.now ?_
      refine InBlock.n ?_
      refine Then.n ?_
      refine WP.region ?_
      refine WPL.q (q_mv (v := .lit (.int _ _)) rfl) rfl ?_
      refine WPL.q (q_sub rfl rfl) rfl ?_
      refine WPL.q (q_as (v := .lit (.int _ _)) rfl) rfl ?_
      refine WPL.nilW ?_
      refine W.cv (Cv.weak (E' := (((((Env.none.upd 0 (.ptr 0 0)).upd 1 (.lit (.int .i64 x6866))).upd 2 (.lit (.int .i64 x6867))).upd 7 (.lit (.int .i64 x6891))).upd 8 (.lit (.int .i64 (IntKind.wrap .i64 (x6884 - 1)))))) (M' := ((Mem.nil.push (.cells 52 [.lit (.int .i64 (List.getD x6868 0 (0 : Int))), .lit (.int .i64 (List.getD x6868 1 (0 : Int))), .lit (.int .i64 (List.getD x6868 2 (0 : Int))), .lit (.int .i64 (List.getD x6868 3 (0 : Int))), .lit (.int .i64 (List.getD x6868 4 (0 : Int))), .lit (.int .i64 (List.getD x6868 5 (0 : Int))), .lit (.int .i64 (List.getD x6868 6 (0 : Int))), .lit (.int .i64 (List.getD x6868 7 (0 : Int))), .lit (.int .i64 (List.getD x6868 8 (0 : Int))), .lit (.int .i64 (List.getD x6868 9 (0 : Int))), .lit (.int .i64 (List.getD x6868 10 (0 : Int))), .lit (.int .i64 (List.getD x6868 11 (0 : Int))), .lit (.int .i64 (List.getD x6868 12 (0 : Int))), .lit (.int .i64 (List.getD x6868 13 (0 : Int))), .lit (.int .i64 (List.getD x6868 14 (0 : Int))), .lit (.int .i64 (List.getD x6868 15 (0 : Int))), .whole 1])).push (.row 3 (Rd.int .i64) x6869))) [0, 1] hnp ⟨rfl, ⟨⟨trivial, .inr ⟨rfl, rfl, rfl⟩⟩, .inr ⟨rfl, rfl, rfl⟩⟩, by decide, rfl, ⟨trivial, rfl⟩⟩ (LeE.upd rfl rfl (LeE.upd rfl rfl (LeE.upd rfl rfl (LeE.upd rfl rfl (LeE.upd rfl rfl (LeE.none rfl rfl))))))) rfl ?_
      refine W.now ?_
      exact Then.n ⟨n, (x6891, (IntKind.wrap .i64 (x6884 - 1))), Nat.lt_succ_self n, H, rfl, rfl⟩
    · replace H := cnf hb H
      refine WP.exitW ?_
      refine W.cv (Cv.weak (E' := ((Env.none.upd 1 (.lit (.int .i64 x6866))).upd 7 (.lit (.int .i64 x6883)))) (M' := ((Mem.nil.push (.cells 52 [.lit (.int .i64 (List.getD x6868 0 (0 : Int))), .lit (.int .i64 (List.getD x6868 1 (0 : Int))), .lit (.int .i64 (List.getD x6868 2 (0 : Int))), .lit (.int .i64 (List.getD x6868 3 (0 : Int))), .lit (.int .i64 (List.getD x6868 4 (0 : Int))), .lit (.int .i64 (List.getD x6868 5 (0 : Int))), .lit (.int .i64 (List.getD x6868 6 (0 : Int))), .lit (.int .i64 (List.getD x6868 7 (0 : Int))), .lit (.int .i64 (List.getD x6868 8 (0 : Int))), .lit (.int .i64 (List.getD x6868 9 (0 : Int))), .lit (.int .i64 (List.getD x6868 10 (0 : Int))), .lit (.int .i64 (List.getD x6868 11 (0 : Int))), .lit (.int .i64 (List.getD x6868 12 (0 : Int))), .lit (.int .i64 (List.getD x6868 13 (0 : Int))), .lit (.int .i64 (List.getD x6868 14 (0 : Int))), .lit (.int .i64 (List.getD x6868 15 (0 : Int))), .whole 1])).push (.row 3 (Rd.int .i64) x6869))) [0, 1] hnp ⟨rfl, ⟨⟨trivial, .inr ⟨rfl, rfl, rfl⟩⟩, .inr ⟨rfl, rfl, rfl⟩⟩, by decide, rfl, ⟨trivial, rfl⟩⟩ (LeE.upd rfl rfl (LeE.upd rfl rfl (LeE.none rfl rfl)))) rfl ?_
      refine W.now ?_
      refine Then.x ?_
      refine Then.x ?_
      have q0 := (Option.some.inj H)
      subst q0
      exact ⟨rfl, rfl, rfl⟩
  · rintro _ _ _ ⟨rfl, rfl, rfl⟩
    refine W.now ?_
    refine InBlock.x0 ?_
    refine Then.n ?_
    refine WP.seq ?_
    refine WP.region ?_
    refine WPL.q (q_mv (v := .lit (.int _ _)) rfl) rfl ?_
    refine WPL.q (q_mv (v := .lit (.int _ _)) rfl) rfl ?_
    refine WPL.q (q_lss rfl rfl) rfl ?_
    refine WPL.q (q_as (v := .lit (.bool _)) rfl) rfl ?_
    refine WPL.nilW ?_
    refine W.now ?_
    refine Then.n ?_
    refine WP.retW ?_
    refine W.now ?_
    have q0 := (Option.some.inj H)
    subst q0
    exact ⟨trivial, _, rfl, [0, 1], (.lit (.bool (decide (x6866 < x6888)))), ((Mem.nil.push (.cells 52 [.lit (.int .i64 (List.getD x6868 0 (0 : Int))), .lit (.int .i64 (List.getD x6868 1 (0 : Int))), .lit (.int .i64 (List.getD x6868 2 (0 : Int))), .lit (.int .i64 (List.getD x6868 3 (0 : Int))), .lit (.int .i64 (List.getD x6868 4 (0 : Int))), .lit (.int .i64 (List.getD x6868 5 (0 : Int))), .lit (.int .i64 (List.getD x6868 6 (0 : Int))), .lit (.int .i64 (List.getD x6868 7 (0 : Int))), .lit (.int .i64 (List.getD x6868 8 (0 : Int))), .lit (.int .i64 (List.getD x6868 9 (0 : Int))), .lit (.int .i64 (List.getD x6868 10 (0 : Int))), .lit (.int .i64 (List.getD x6868 11 (0 : Int))), .lit (.int .i64 (List.getD x6868 12 (0 : Int))), .lit (.int .i64 (List.getD x6868 13 (0 : Int))), .lit (.int .i64 (List.getD x6868 14 (0 : Int))), .lit (.int .i64 (List.getD x6868 15 (0 : Int))), .whole 1])).push (.row 3 (Rd.int .i64) x6869)), ⟨rfl, ⟨⟨trivial, .inr ⟨rfl, rfl, rfl⟩⟩, .inr ⟨rfl, rfl, rfl⟩⟩, by decide, rfl, ⟨trivial, rfl⟩⟩, rfl, rfl, rfl, rfl⟩
end Go.Proofs.Ythgbompoldmhmab.W
