/- Walks: Fc2 -/
import Derived.Test.YtbknkbenbccabaaFb
namespace Go.Proofs.Ytbknkbenbccabaa.W
open Go Go.Q Go.Proofs
set_option linter.unusedVariables false
set_option linter.unusedSimpArgs false
set_option maxRecDepth 100000 in
set_option maxHeartbeats 4000000 in
theorem s_bits_NewWriter (k : Nat) (H : g_bits_NewWriter k = some ()) : Go.Q.Spec Try.prog 29 0 [] Mem.nil (fun o M => o = .ret (.ptr 0 0) ∧ M = (Mem.nil.push (.cells 105 [.lit (.slice none 0 0), .lit (.int .i64 0)]))) := by
  unfold g_bits_NewWriter at H
  refine Go.Q.Spec.of_bodyR (rs := [.tmp 0]) (nt := 3) Try.func29 rfl rfl (by intro t T h; simp at h) rfl rfl fun cx hnp => ?_
  refine WP.seq ?_
  refine WP.region ?_
  refine WPL.q (q_as (v := .lit _) rfl) rfl ?_
  refine WPL.nilW ?_
  refine W.now ?_
  refine Then.n ?_
  refine WP.seq ?_
  refine WP.region ?_
  refine WPL.q (q_build bu105 rfl) rfl ?_
  refine WPL.d (d_box rfl rfl) rfl ?_
  refine WPL.q (q_as (v := .ptr _ _) rfl) rfl ?_
  refine WPL.nilW ?_
  refine W.now ?_
  refine Then.n ?_
  refine WP.retW ?_
  refine W.now ?_
  exact ⟨trivial, _, rfl, [0], (.ptr 0 0), (Mem.nil.push (.cells 105 [.lit (.slice none 0 0), .lit (.int .i64 0)])), ⟨rfl, ⟨trivial, .inr ⟨rfl, rfl, rfl⟩⟩, by decide, rfl, trivial⟩, rfl, rfl, rfl, rfl⟩
set_option maxRecDepth 100000 in
set_option maxHeartbeats 4000000 in
theorem s_bits_each (k : Nat) (x2839 : Int) (x2840 : Int) (H : g_bits_each k x2839 x2840 = some ()) : Go.Q.Spec Try.prog 57 0 [.lit (.int .u32 x2839), .lit (.int .i64 x2840)] Mem.nil (fun o M => o = .ret (.fn 81 [.ptr 0 0, .ptr 1 0]) ∧ M = ((Mem.nil.push (.cells 3 [.lit (.int .i64 x2840)])).push (.cells 57 [.lit (.int .u32 x2839)]))) := by
  unfold g_bits_each at H
  refine Go.Q.Spec.of_bodyR (rs := [.tmp 4]) (nt := 6) Try.func57 rfl rfl (by intro t T h; simp at h) rfl rfl fun cx hnp => ?_
  refine WP.seq ?_
  refine WP.region ?_
  refine WPL.d (d_box rfl rfl) rfl ?_
  refine WPL.d (d_box rfl rfl) rfl ?_
  refine WPL.q (q_as (v := .lit _) rfl) rfl ?_
  refine WPL.nilW ?_
  refine W.now ?_
  refine Then.n ?_
  refine WP.seq ?_
  refine WP.region ?_
  refine WPL.q (q_makeFunc) rfl ?_
  refine WPL.q (q_as (v := .fn _ _) rfl) rfl ?_
  refine WPL.nilW ?_
  refine W.now ?_
  refine Then.n ?_
  refine WP.retW ?_
  refine W.now ?_
  exact ⟨trivial, _, rfl, [1, 0], (.fn 81 [.ptr 0 0, .ptr 1 0]), ((Mem.nil.push (.cells 3 [.lit (.int .i64 x2840)])).push (.cells 57 [.lit (.int .u32 x2839)])), ⟨rfl, ⟨⟨trivial, .inr ⟨rfl, rfl, rfl⟩⟩, .inr ⟨rfl, rfl, rfl⟩⟩, by decide, rfl, trivial⟩, rfl, rfl, rfl, rfl⟩
set_option maxRecDepth 100000 in
set_option maxHeartbeats 4000000 in
theorem s_bits_Writer_Put (k : Nat) (x2827 : Int) (x2828 : Int) (x2829 : Int) (x3017 : Int) (x3018 : Int) (x3019 : (List Int)) (H : g_bits_Writer_Put k x2827 x2828 x2829 = some (x3017, x3018, x3019)) : Go.Q.Spec Try.prog 30 1 [.ptr 0 0, .lit (.int .u32 x2827), .lit (.int .i64 x2828)] (Mem.nil.push (.cells 105 [.lit (.slice none 0 0), .lit (.int .i64 x2829)])) (fun o M => o = .ret (.lit (.int .i64 x3017)) ∧ M = ((Mem.nil.push (.cells 105 [.whole 1, .lit (.int .i64 x3018)])).push (.row 5 (Rd.int .u8) x3019))) := by
  unfold g_bits_Writer_Put at H
  refine Go.Q.Spec.of_bodyR (rs := [.tmp 6]) (nt := 65) Try.func30 rfl rfl (by intro t T h; simp at h) rfl rfl fun cx hnp => ?_
  refine WP.seq ?_
  refine WP.region ?_
  refine WPL.d (d_box rfl rfl) rfl ?_
  refine WPL.q (q_as (v := .lit (.int _ _)) rfl) rfl ?_
  refine WPL.nilW ?_
  refine W.now ?_
  refine Then.n ?_
  refine WP.seq ?_
  refine WP.seq ?_
  refine WP.region ?_
  refine WPL.q (q_load sc67 rfl rfl rfl) rfl ?_
  refine WPL.q (q_eqlp Try.underlying67 rfl) rfl ?_
  refine WPL.nilW ?_
  refine W.now ?_
  refine Then.n ?_
  refine WP.condF rfl ?_
  refine WP.skipW ?_
  refine W.now ?_
  refine Then.n ?_
  refine WP.seq ?_
  refine WP.seq ?_
  obtain ⟨x3025, H3026, H⟩ := bnd H
  refine WP.monoW (Q := fun x E M => x = .normal ∧ E = ((((Env.none.upd 1 (.lit (.int .u32 x2827))).upd 2 (.lit (.int .i64 x2828))).upd 3 (.ptr 1 0)).upd 16 (.lit (.bool x3025))) ∧ M = ((Mem.nil.push (.cells 105 [.lit (.slice none 0 0), .lit (.int .i64 x2829)])).push (.cells 67 [.ptr 0 0]))) ?_ ?_
  · clear H
    have H := H3026
    clear H3026
    refine WP.region ?_
    refine WPL.q (q_mv (v := .lit (.int _ _)) rfl) rfl ?_
    refine WPL.q (q_lss rfl rfl) rfl ?_
    refine WPL.q (q_mv (v := .lit (.bool _)) rfl) rfl ?_
    refine WPL.split (t := 13) (b := (decide (x2828 < 0))) rfl (fun hb3025 => ?_) (fun hb3025 => ?_)
    · replace H := cnt hb3025 H
      refine WPL.skipg (b' := true) rfl rfl (lb hb3025) rfl rfl ?_
      refine WPL.skipg (b' := true) rfl rfl (lb hb3025) rfl rfl ?_
      refine WPL.q (q_pickT (v := .lit (.bool _)) (lb hb3025) rfl) rfl ?_
      refine WPL.nilW ?_
      refine W.cv (Cv.weak (E' := ((((Env.none.upd 1 (.lit (.int .u32 x2827))).upd 2 (.lit (.int .i64 x2828))).upd 3 (.ptr 1 0)).upd 16 (.lit (.bool true)))) (M' := ((Mem.nil.push (.cells 105 [.lit (.slice none 0 0), .lit (.int .i64 x2829)])).push (.cells 67 [.ptr 0 0]))) [0, 1] hnp ⟨rfl, ⟨⟨trivial, .inr ⟨rfl, rfl, rfl⟩⟩, .inr ⟨rfl, rfl, rfl⟩⟩, by decide, rfl, ⟨trivial, rfl⟩⟩ (LeE.upd rfl rfl (LeE.upd rfl rfl (LeE.upd rfl rfl (LeE.upd rfl rfl (LeE.none rfl rfl)))))) rfl ?_
      refine W.now ?_
      have q0 := (Option.some.inj H)
      subst q0
      exact ⟨rfl, rfl, rfl⟩
    · replace H := cnf hb3025 H
      refine WPL.qg rfl rfl (lb hb3025) (q_mv (v := .lit (.int _ _)) rfl) rfl ?_
      refine WPL.qg rfl rfl (lb hb3025) (q_gtr rfl rfl) rfl ?_
      refine WPL.q (q_pickF (v := .lit (.bool _)) (lb hb3025) rfl) rfl ?_
      refine WPL.nilW ?_
      refine W.cv (Cv.weak (E' := ((((Env.none.upd 1 (.lit (.int .u32 x2827))).upd 2 (.lit (.int .i64 x2828))).upd 3 (.ptr 1 0)).upd 16 (.lit (.bool (decide (32 < x2828)))))) (M' := ((Mem.nil.push (.cells 105 [.lit (.slice none 0 0), .lit (.int .i64 x2829)])).push (.cells 67 [.ptr 0 0]))) [0, 1] hnp ⟨rfl, ⟨⟨trivial, .inr ⟨rfl, rfl, rfl⟩⟩, .inr ⟨rfl, rfl, rfl⟩⟩, by decide, rfl, ⟨trivial, rfl⟩⟩ (LeE.upd rfl rfl (LeE.upd rfl rfl (LeE.upd rfl rfl (LeE.upd rfl rfl (LeE.none rfl rfl)))))) rfl ?_
      refine W.now ?_
      have q0 := (Option.some.inj H)
      subst q0
      exact ⟨rfl, rfl, rfl⟩
  · rintro _ _ _ ⟨rfl, rfl, rfl⟩
    refine W.now ?_
    refine Then.n ?_
    refine WP.cond (t := x3025) rfl (fun hb => ?_) (fun hb => ?_)
    · replace H := cnt hb H
      refine WP.seq ?_
      refine WP.region ?_
      refine WPL.q (q_as (v := .lit (.int _ _)) rfl) rfl ?_
      refine WPL.nilW ?_
      refine W.now ?_
      refine Then.n ?_
      refine WP.retW ?_
      refine W.cv (Cv.virC 5 (Rd.int .u8) (N := 2) rfl rfl (i := 0) (off := 0) rfl rfl) rfl ?_
      refine W.now ?_
      refine Then.r ?_
      have q0 := (Prod.mk.inj (Option.some.inj H)).1
      have q1 := (Prod.mk.inj (Prod.mk.inj (Option.some.inj H)).2).1
      have q2 := (Prod.mk.inj (Prod.mk.inj (Option.some.inj H)).2).2
      subst q0
      subst q1
      subst q2
      exact ⟨trivial, _, rfl, [0, 2], (.lit (.int .i64 1)), ((Mem.nil.push (.cells 105 [.whole 1, .lit (.int .i64 x2829)])).push (.row 5 (Rd.int .u8) ([] : List Int))), ⟨rfl, ⟨⟨trivial, .inr ⟨rfl, rfl, rfl⟩⟩, .inr ⟨rfl, rfl, rfl⟩⟩, by decide, rfl, ⟨trivial, rfl⟩⟩, rfl, rfl, rfl, rfl⟩
    · replace H := cnf hb H
      refine WP.skipW ?_
      refine W.now ?_
      refine Then.n ?_
      refine WP.seq ?_
      refine WP.seq ?_
      refine WP.region ?_
      refine WPL.q (q_mv (v := .lit (.int _ _)) rfl) rfl ?_
      refine WPL.q (q_mv (v := .lit (.int _ _)) rfl) rfl ?_
      obtain ⟨_, h3027, H⟩ := bnd H
      refine WPL.c (runs_call (s := []) (t := [2, 3]) (N := 4) (bor := []) fn57 rfl (s_bits_each k x2827 x2828 h3027) ⟨rfl, trivial, by decide, rfl, trivial⟩ rfl trivial (.ren rfl rfl (.ren rfl rfl .nil)) rfl ⟨⟨trivial, rfl⟩, rfl⟩ rfl) rfl ?_
      refine WPL.nilW ?_
      refine W.now ?_
      refine Then.n ?_
      refine WP.block ?_
      refine WP.cv (Cv.nullMark (N := 4) rfl rfl) ?_
      refine WP.range (nti := 19) (n := 5) rfl rfl Try.func81 rfl (by kernel_rfl) rfl rfl rfl rfl fun l_3028 r_3028 aC3028 hp3028 ha3028 hb3028 ht3028 hs3028 => ?_
      refine WP.seq ?_
      refine WP.region ?_
      refine WPL.q (q_load sc3 rfl rfl rfl) rfl ?_
      refine WPL.q (q_mv (v := .lit (.int _ _)) rfl) rfl ?_
      refine WPL.nilW ?_
      refine W.now ?_
      refine Then.n ?_
      refine WP.block ?_
      refine WP.cv (Cv.virC 5 (Rd.int .u8) (N := 7) rfl rfl (i := 0) (off := 0) rfl rfl) ?_
      refine WP.cv (Cv.weak (E' := (((((⟨fun _ => .any, [], [⟨aC3028, (((Env.none.upd 3 (.ptr 3 0)).upd 19 (.fn 81 [.ptr 4 0, .ptr 2 0]))).v, [5, 6], some (7, l_3028)⟩]⟩ : Env).upd 0 (.lit (.func (.yield l_3028) #[] #[]))).upd 2 (.ptr 2 0)).upd 5 (.lit (.int .i64 x2828))).upd 6 (.lit (.int .i64 0)))) (M' := ((((((((Mem.nil.push (.cells 105 [.whole 1, .lit (.int .i64 x2829)])).push (.row 5 (Rd.int .u8) ([] : List Int))).push (.cells 57 [.lit (.int .u32 x2827)])).push (.cells 67 [.ptr 0 0])).push (.cells 3 [.lit (.int .i64 x2828)])).push (.obj (Obj.deferred (some [])))).push (.bag)).push (.obj (lp r_3028 .ready none)))) [0, 7, 3, 1, 2, 5, 4, 6] hnp ⟨rfl, ⟨⟨⟨⟨⟨⟨⟨⟨trivial, .inr ⟨rfl, rfl, rfl⟩⟩, .inr ⟨rfl, rfl, rfl⟩⟩, .inr ⟨rfl, rfl, rfl⟩⟩, .inr ⟨rfl, rfl, rfl⟩⟩, .inr ⟨rfl, rfl, rfl⟩⟩, .inr ⟨rfl, rfl, rfl⟩⟩, .inr ⟨rfl, rfl, rfl⟩⟩, .inr ⟨rfl, rfl, rfl⟩⟩, by decide, rfl, ⟨trivial, rfl⟩⟩ (LeE.upd rfl rfl (LeE.upd rfl rfl (LeE.upd rfl rfl (LeE.upd rfl rfl (LeE.noneD rfl rfl (.cons ⟨rfl, (LeV.upd rfl rfl (LeV.upd rfl rfl LeV.none)), rfl, rfl, rfl, rfl⟩ .nil))))))) ?_
      obtain ⟨y3258, H3256, H⟩ := bnd H
      refine WP.monoW (Q := fun x E M => match (generalizing := false) y3258 with | (Sum.inl (x3197, x3198)) => x = .ret ∧ E = (⟨fun _ => .any, [], [⟨aC3028, (((Env.none.upd 3 (.ptr 2 0)).upd 19 (.fn 81 [.ptr 3 0, .ptr 4 0]))).v, [5, 6], some (7, l_3028)⟩]⟩ : Env) ∧ M = ((((((((Mem.nil.push (.cells 105 [.whole 1, .lit (.int .i64 x3197)])).push (.row 5 (Rd.int .u8) x3198)).push (.cells 67 [.ptr 0 0])).push (.cells 3 [.lit (.int .i64 x2828)])).push (.cells 57 [.lit (.int .u32 x2827)])).push (.obj (Obj.deferred (some [])))).push (.bag)).push (.obj (lp r_3028 .ready none))) | (Sum.inr (x3199, x3200)) => x = .exit 0 ∧ E = (⟨fun _ => .any, [], [⟨aC3028, (((Env.none.upd 3 (.ptr 2 0)).upd 19 (.fn 81 [.ptr 3 0, .ptr 4 0]))).v, [5, 6], some (7, l_3028)⟩]⟩ : Env) ∧ M = ((((((((Mem.nil.push (.cells 105 [.whole 1, .lit (.int .i64 x3199)])).push (.row 5 (Rd.int .u8) x3200)).push (.cells 67 [.ptr 0 0])).push (.cells 3 [.lit (.int .i64 x2828)])).push (.cells 57 [.lit (.int .u32 x2827)])).push (.obj (Obj.deferred (some [])))).push (.bag)).push (.obj (lp r_3028 .ready none)))) ?_ ?_
      · refine WP.loop (β := Int × Int × (List Int)) (fun n b => g_bits_Writer_Put_l0 k x2827 x2828 n b.1 b.2.1 b.2.2 = some y3258) (fun b => (((((⟨fun _ => .any, [], [⟨aC3028, (((Env.none.upd 3 (.ptr 3 0)).upd 19 (.fn 81 [.ptr 4 0, .ptr 2 0]))).v, [5, 6], some (7, l_3028)⟩]⟩ : Env).upd 0 (.lit (.func (.yield l_3028) #[] #[]))).upd 2 (.ptr 2 0)).upd 5 (.lit (.int .i64 x2828))).upd 6 (.lit (.int .i64 b.1)))) (fun b => ((((((((Mem.nil.push (.cells 105 [.whole 1, .lit (.int .i64 b.2.1)])).push (.row 5 (Rd.int .u8) b.2.2)).push (.cells 57 [.lit (.int .u32 x2827)])).push (.cells 67 [.ptr 0 0])).push (.cells 3 [.lit (.int .i64 x2828)])).push (.obj (Obj.deferred (some [])))).push (.bag)).push (.obj (lp r_3028 .ready none)))) k (0, x2829, ([] : List Int)) H3256 rfl rfl ?_
        rintro n ⟨x3138, x3139, x3140⟩ H
        obtain _ | n := n
        · exact nf rfl H
        rw [g_bits_Writer_Put_l0.eq_2] at H
        show WP _ _ _ _ (((((⟨fun _ => .any, [], [⟨aC3028, (((Env.none.upd 3 (.ptr 3 0)).upd 19 (.fn 81 [.ptr 4 0, .ptr 2 0]))).v, [5, 6], some (7, l_3028)⟩]⟩ : Env).upd 0 (.lit (.func (.yield l_3028) #[] #[]))).upd 2 (.ptr 2 0)).upd 5 (.lit (.int .i64 x2828))).upd 6 (.lit (.int .i64 x3138))) ((((((((Mem.nil.push (.cells 105 [.whole 1, .lit (.int .i64 x3139)])).push (.row 5 (Rd.int .u8) x3140)).push (.cells 57 [.lit (.int .u32 x2827)])).push (.cells 67 [.ptr 0 0])).push (.cells 3 [.lit (.int .i64 x2828)])).push (.obj (Obj.deferred (some [])))).push (.bag)).push (.obj (lp r_3028 .ready none))) _
        refine WP.seq ?_
        refine WP.region ?_
        refine WPL.q (q_lss rfl rfl) rfl ?_
        refine WPL.nilW ?_
        refine W.now ?_
        refine Then.n ?_
        refine WP.seq ?_
        refine WP.cond (t := (decide (x3138 < x2828))) rfl (fun hb => ?_) (fun hb => ?_)
        · replace H := cnt hb H
          refine WP.skipW ?_
          refine W.now ?_
          refine Then.n ?_
          refine WP.seq ?_
          refine WP.block ?_
          refine WP.seq ?_
          refine WP.region ?_
          refine WPL.q (q_mv (v := .lit (.int _ _)) rfl) rfl ?_
          refine WPL.q (q_as (v := .lit (.int _ _)) rfl) rfl ?_
          refine WPL.nilW ?_
          refine W.now ?_
          refine Then.n ?_
          refine WP.seq ?_
          refine WP.region ?_
          refine WPL.q (q_mv (v := .lit _) rfl) rfl ?_
          refine WPL.q (q_mv (v := .lit (.int _ _)) rfl) rfl ?_
          refine WPL.q (q_load sc57 rfl rfl rfl) rfl ?_
          refine WPL.q (q_mv (v := .lit (.int _ _)) rfl) rfl ?_
          obtain ⟨h3228, H⟩ := grd H
          refine WPL.q (q_shr rfl rfl h3228) rfl ?_
          refine WPL.q (q_conv Try.underlying57 Try.underlying5 rfl) rfl ?_
          obtain ⟨x3230, h3230, H⟩ := bnd H
          refine WPL.q (q_nm (q_and rfl rfl) (nm_int h3230)) rfl ?_
          refine WPL.y rfl rfl rfl rfl hp3028 ha3028 hb3028 ht3028 hs3028 rfl rfl rfl fun aI3230 => ?_
          refine WP.region ?_
          refine WPL.q (q_as (v := .lit (.int _ _)) rfl) rfl ?_
          refine WPL.nilW ?_
          refine W.now ?_
          refine ⟨rfl, rfl, _, _, _, _, _, _, rfl, rfl, ?_⟩
          refine WP.block ?_
          refine WP.seq ?_
          obtain ⟨x3235, H3238, H⟩ := bnd H
          refine WP.monoW (Q := fun x E M => x = .normal ∧ E = ((((⟨fun _ => .any, [], [⟨aI3230, (((((Env.none.upd 0 (.lit (.func (.yield l_3028) #[] #[]))).upd 2 (.ptr 4 0)).upd 5 (.lit (.int .i64 x2828))).upd 6 (.lit (.int .i64 x3138)))).v, [], none⟩, ⟨aC3028, (((Env.none.upd 3 (.ptr 2 0)).upd 19 (.fn 81 [.ptr 3 0, .ptr 4 0]))).v, [5, 6], some (7, l_3028)⟩]⟩ : Env).upd 3 (.ptr 2 0)).upd 8 (.lit (.int .u8 x3230))).upd 19 (.fn 81 [.ptr 3 0, .ptr 4 0])) ∧ M = ((((((((Mem.nil.push (.cells 105 [.whole 1, .lit (.int .i64 x3139)])).push (.row 5 (Rd.int .u8) x3235)).push (.cells 67 [.ptr 0 0])).push (.cells 3 [.lit (.int .i64 x2828)])).push (.cells 57 [.lit (.int .u32 x2827)])).push (.obj (Obj.deferred (some [])))).push (.bag)).push (.obj (lp r_3028 .busy none)))) ?_ ?_
          · clear H
            have H := H3238
            clear H3238
            refine WP.seq ?_
            refine WP.region ?_
            refine WPL.q (q_load sc67 rfl rfl rfl) rfl ?_
            refine WPL.q (q_nilCheck rfl) rfl ?_
            refine WPL.q (q_fieldAddr fi105_1 rfl rfl) rfl ?_
            refine WPL.q (q_load sc3 rfl rfl rfl) rfl ?_
            refine WPL.q (q_rem rfl rfl rfl) rfl ?_
            refine WPL.q (q_eql rfl rfl) rfl ?_
            refine WPL.nilW ?_
            refine W.now ?_
            refine Then.n ?_
            refine WP.cond (t := (decide ((Int.tmod x3139 8) = 0))) rfl (fun hb => ?_) (fun hb => ?_)
            · replace H := cnt hb H
              refine WP.regionD' 10 [0, 3] [9] mixed rfl ?_
              refine WPD.take 0 rfl (by kernel_rfl) (q_load sc67 rfl rfl rfl) rfl rfl ?_
              refine WPD.take 1 rfl (by kernel_rfl) (q_load sc67 rfl rfl rfl) rfl rfl ?_
              refine WPD.takeT 2 rfl (by kernel_rfl) (q_nilCheck rfl) rfl ?_
              refine WPD.takeT 3 rfl (by kernel_rfl) (q_fieldAddr fi105_0 rfl rfl) rfl ?_
              refine WPD.take 4 rfl (by kernel_rfl) (q_load sc22 rfl rfl rfl) rfl rfl ?_
              refine WPD.eff 5 [0, 3] [9] rfl (by kernel_rfl) (Does.runs (d_buildSlice (ds := ([0] : List Int)) (R := (Rd.int .u8)) li22 rfl rfl rfl rfl rfl (JoinRows.cons1 Joins.sc rfl JoinRows.nil) rfl rfl)) rfl rfl ?_
              obtain ⟨h3237, H⟩ := grd H
              refine WPD.eff 6 [0, 3] [9] rfl (by kernel_rfl) (Does.runs (d_append ap22 rfl rfl rfl rfl (src_row sl22 rfl rfl) h3237 rfl)) rfl rfl ?_
              refine WPD.takeT 7 rfl (by kernel_rfl) (q_nilCheck rfl) rfl ?_
              refine WPD.takeT 8 rfl (by kernel_rfl) (q_fieldAddr fi105_0 rfl rfl) rfl ?_
              refine WPD.effS 9 [] [] rfl (by kernel_rfl) (s_store sz22 rfl rfl rfl rfl rfl) rfl ?_
              refine WPD.doneW (by kernel_rfl) ?_
              refine W.cv (Cv.weak (E' := ((((⟨fun _ => .any, [], [⟨aI3230, (((((Env.none.upd 0 (.lit (.func (.yield l_3028) #[] #[]))).upd 2 (.ptr 4 0)).upd 5 (.lit (.int .i64 x2828))).upd 6 (.lit (.int .i64 x3138)))).v, [], none⟩, ⟨aC3028, (((Env.none.upd 3 (.ptr 2 0)).upd 19 (.fn 81 [.ptr 3 0, .ptr 4 0]))).v, [5, 6], some (7, l_3028)⟩]⟩ : Env).upd 3 (.ptr 2 0)).upd 8 (.lit (.int .u8 x3230))).upd 19 (.fn 81 [.ptr 3 0, .ptr 4 0]))) (M' := ((((((((Mem.nil.push (.cells 105 [.whole 1, .lit (.int .i64 x3139)])).push (.row 5 (Rd.int .u8) (x3140 ++ ([0] : List Int)))).push (.cells 67 [.ptr 0 0])).push (.cells 3 [.lit (.int .i64 x2828)])).push (.cells 57 [.lit (.int .u32 x2827)])).push (.obj (Obj.deferred (some [])))).push (.bag)).push (.obj (lp r_3028 .busy none)))) [0, 9, 3, 4, 2, 5, 6, 7] hnp ⟨rfl, ⟨⟨⟨⟨⟨⟨⟨⟨trivial, .inr ⟨rfl, rfl, rfl⟩⟩, .inr ⟨rfl, rfl, rfl⟩⟩, .inr ⟨rfl, rfl, rfl⟩⟩, .inr ⟨rfl, rfl, rfl⟩⟩, .inr ⟨rfl, rfl, rfl⟩⟩, .inr ⟨rfl, rfl, rfl⟩⟩, .inr ⟨rfl, rfl, rfl⟩⟩, .inr ⟨rfl, rfl, rfl⟩⟩, by decide, rfl, ⟨trivial, rfl⟩⟩ (LeE.upd rfl rfl (LeE.upd rfl rfl (LeE.upd rfl rfl (LeE.noneD rfl rfl (.cons ⟨rfl, (LeV.upd rfl rfl (LeV.upd rfl rfl (LeV.upd rfl rfl (LeV.upd rfl rfl LeV.none)))), rfl, rfl, rfl, rfl⟩ (.cons ⟨rfl, (LeV.upd rfl rfl (LeV.upd rfl rfl LeV.none)), rfl, rfl, rfl, rfl⟩ .nil))))))) rfl ?_
              refine W.now ?_
              have q0 := (Option.some.inj H)
              subst q0
              exact ⟨rfl, rfl, rfl⟩
            · replace H := cnf hb H
              refine WP.skipW ?_
              refine W.cv (Cv.weak (E' := ((((⟨fun _ => .any, [], [⟨aI3230, (((((Env.none.upd 0 (.lit (.func (.yield l_3028) #[] #[]))).upd 2 (.ptr 4 0)).upd 5 (.lit (.int .i64 x2828))).upd 6 (.lit (.int .i64 x3138)))).v, [], none⟩, ⟨aC3028, (((Env.none.upd 3 (.ptr 2 0)).upd 19 (.fn 81 [.ptr 3 0, .ptr 4 0]))).v, [5, 6], some (7, l_3028)⟩]⟩ : Env).upd 3 (.ptr 2 0)).upd 8 (.lit (.int .u8 x3230))).upd 19 (.fn 81 [.ptr 3 0, .ptr 4 0]))) (M' := ((((((((Mem.nil.push (.cells 105 [.whole 1, .lit (.int .i64 x3139)])).push (.row 5 (Rd.int .u8) x3140)).push (.cells 67 [.ptr 0 0])).push (.cells 3 [.lit (.int .i64 x2828)])).push (.cells 57 [.lit (.int .u32 x2827)])).push (.obj (Obj.deferred (some [])))).push (.bag)).push (.obj (lp r_3028 .busy none)))) [0, 1, 3, 4, 2, 5, 6, 7] hnp ⟨rfl, ⟨⟨⟨⟨⟨⟨⟨⟨trivial, .inr ⟨rfl, rfl, rfl⟩⟩, .inr ⟨rfl, rfl, rfl⟩⟩, .inr ⟨rfl, rfl, rfl⟩⟩, .inr ⟨rfl, rfl, rfl⟩⟩, .inr ⟨rfl, rfl, rfl⟩⟩, .inr ⟨rfl, rfl, rfl⟩⟩, .inr ⟨rfl, rfl, rfl⟩⟩, .inr ⟨rfl, rfl, rfl⟩⟩, by decide, rfl, ⟨trivial, rfl⟩⟩ (LeE.upd rfl rfl (LeE.upd rfl rfl (LeE.upd rfl rfl (LeE.noneD rfl rfl (.cons ⟨rfl, (LeV.upd rfl rfl (LeV.upd rfl rfl (LeV.upd rfl rfl (LeV.upd rfl rfl LeV.none)))), rfl, rfl, rfl, rfl⟩ (.cons ⟨rfl, (LeV.upd rfl rfl (LeV.upd rfl rfl LeV.none)), rfl, rfl, rfl, rfl⟩ .nil))))))) rfl ?_
              refine W.now ?_
              have q0 := (Option.some.inj H)
              subst q0
              exact ⟨rfl, rfl, rfl⟩
          · rintro _ _ _ ⟨rfl, rfl, rfl⟩
            refine W.now ?_
            refine Then.n ?_
            refine WP.seq ?_
            refine WP.regionD' 22 [0, 1, 2] [21] mixed rfl ?_
            refine WPD.takeT 12 rfl (by kernel_rfl) (q_mv (v := .lit (.int _ _)) rfl) rfl ?_
            refine WPD.take 0 rfl (by kernel_rfl) (q_load sc67 rfl rfl rfl) rfl rfl ?_
            refine WPD.takeT 1 rfl (by kernel_rfl) (q_nilCheck rfl) rfl ?_
            refine WPD.takeT 2 rfl (by kernel_rfl) (q_fieldAddr fi105_0 rfl rfl) rfl ?_
            refine WPD.take 3 rfl (by kernel_rfl) (q_load sc22 rfl rfl rfl) rfl rfl ?_
            refine WPD.take 4 rfl (by kernel_rfl) (q_load sc67 rfl rfl rfl) rfl rfl ?_
            refine WPD.takeT 5 rfl (by kernel_rfl) (q_nilCheck rfl) rfl ?_
            refine WPD.takeT 6 rfl (by kernel_rfl) (q_fieldAddr fi105_0 rfl rfl) rfl ?_
            refine WPD.take 7 rfl (by kernel_rfl) (q_load sc22 rfl rfl rfl) rfl rfl ?_
            refine WPD.takeT 8 rfl (by kernel_rfl) (q_len_row sl22 rfl rfl) rfl ?_
            obtain ⟨x3252, h3252, H⟩ := bnd H
            refine WPD.takeT 9 rfl (by kernel_rfl) (q_nm (q_sub rfl rfl) (nm_int h3252)) rfl ?_
            obtain ⟨x3253, h3253, H⟩ := bnd H
            refine WPD.takeT 10 rfl (by kernel_rfl) (q_index_row sl22 rfl rfl rfl (ixs h3253)) rfl ?_
            refine WPD.take 11 rfl (by kernel_rfl) (q_load_row (j := (Int.toNat x3252)) sc5 rfl rfl (ixj h3253)) rfl rfl ?_
            refine WPD.take 13 rfl (by kernel_rfl) (q_load sc67 rfl rfl rfl) rfl rfl ?_
            refine WPD.takeT 14 rfl (by kernel_rfl) (q_nilCheck rfl) rfl ?_
            refine WPD.takeT 15 rfl (by kernel_rfl) (q_fieldAddr fi105_1 rfl rfl) rfl ?_
            refine WPD.take 16 rfl (by kernel_rfl) (q_load sc3 rfl rfl rfl) rfl rfl ?_
            refine WPD.takeT 17 rfl (by kernel_rfl) (q_rem rfl rfl rfl) rfl ?_
            obtain ⟨h3253, H⟩ := grd H
            refine WPD.takeT 18 rfl (by kernel_rfl) (q_shl rfl rfl h3253) rfl ?_
            obtain ⟨x3255, h3255, H⟩ := bnd H
            refine WPD.takeT 19 rfl (by kernel_rfl) (q_nm (q_or rfl rfl) (nm_int h3255)) rfl ?_
            obtain ⟨x3256, h3256, H⟩ := bnd H
            refine WPD.takeT 20 rfl (by kernel_rfl) (q_index_row sl22 rfl rfl rfl (ixs h3256)) rfl ?_
            refine WPD.effS 21 [] [] rfl (by kernel_rfl) (s_store_row (j := (Int.toNat x3252)) (d := x3255) sz5 rfl rfl rfl rfl Joins.sc (ixl h3256)) rfl ?_
            refine WPD.doneW (by kernel_rfl) ?_
            refine W.now ?_
            refine Then.n ?_
            refine WP.region ?_
            refine WPL.q (q_load sc67 rfl rfl rfl) rfl ?_
            refine WPL.q (q_nilCheck rfl) rfl ?_
            refine WPL.q (q_fieldAddr fi105_1 rfl rfl) rfl ?_
            refine WPL.q (q_load sc3 rfl rfl rfl) rfl ?_
            refine WPL.q (q_add rfl rfl) rfl ?_
            refine WPL.q (q_nilCheck rfl) rfl ?_
            refine WPL.q (q_fieldAddr fi105_1 rfl rfl) rfl ?_
            refine WPL.s (s_store sz3 rfl rfl rfl rfl rfl) ?_
            refine WPL.nilW ?_
            refine W.now ?_
            refine InBlock.n ?_
            refine ⟨rfl, _, _, _, _, _, _, rfl, rfl, _, rfl, ?_⟩
            refine WPL.q (q_not rfl) rfl ?_
            refine WPL.nilW ?_
            refine W.now ?_
            refine Then.n ?_
            refine WP.cond (t := (!true)) rfl (fun hb => ?_) (fun hb => ?_)
            · replace H := cnt hb H
              refine WP.retW ?_
              refine W.cv (Cv.weak (E' := (⟨fun _ => .any, [], [⟨aC3028, (((Env.none.upd 3 (.ptr 2 0)).upd 19 (.fn 81 [.ptr 3 0, .ptr 4 0]))).v, [5, 6], some (7, l_3028)⟩]⟩ : Env)) (M' := ((((((((Mem.nil.push (.cells 105 [.whole 1, .lit (.int .i64 (IntKind.wrap .i64 (x3139 + 1)))])).push (.row 5 (Rd.int .u8) (List.set x3235 (Int.toNat x3252) x3255))).push (.cells 67 [.ptr 0 0])).push (.cells 3 [.lit (.int .i64 x2828)])).push (.cells 57 [.lit (.int .u32 x2827)])).push (.obj (Obj.deferred (some [])))).push (.bag)).push (.obj (lp r_3028 .ready none)))) [0, 1, 2, 3, 4, 5, 6, 7] hnp ⟨rfl, ⟨⟨⟨⟨⟨⟨⟨⟨trivial, .inr ⟨rfl, rfl, rfl⟩⟩, .inr ⟨rfl, rfl, rfl⟩⟩, .inr ⟨rfl, rfl, rfl⟩⟩, .inr ⟨rfl, rfl, rfl⟩⟩, .inr ⟨rfl, rfl, rfl⟩⟩, .inr ⟨rfl, rfl, rfl⟩⟩, .inr ⟨rfl, rfl, rfl⟩⟩, .inr ⟨rfl, rfl, rfl⟩⟩, by decide, rfl, ⟨trivial, rfl⟩⟩ (LeE.noneD rfl rfl (.cons ⟨rfl, (LeV.upd rfl rfl (LeV.upd rfl rfl LeV.none)), rfl, rfl, rfl, rfl⟩ .nil))) rfl ?_
              refine W.now ?_
              refine InBlock.r ?_
              refine Then.r ?_
              refine Then.r ?_
              have q0 := Option.some.inj H
              subst q0
              exact ⟨rfl, rfl, rfl⟩
            · replace H := cnf hb H
              refine WP.skipW ?_
              refine W.now ?_
              refine InBlock.n ?_
              refine Then.n ?_
              refine WP.region ?_
              refine WPL.q (q_add rfl rfl) rfl ?_
              refine WPL.q (q_mv (v := .lit (.int _ _)) rfl) rfl ?_
              refine WPL.nilW ?_
              refine W.cv (Cv.weak (E' := (((((⟨fun _ => .any, [], [⟨aC3028, (((Env.none.upd 3 (.ptr 3 0)).upd 19 (.fn 81 [.ptr 4 0, .ptr 2 0]))).v, [5, 6], some (7, l_3028)⟩]⟩ : Env).upd 0 (.lit (.func (.yield l_3028) #[] #[]))).upd 2 (.ptr 2 0)).upd 5 (.lit (.int .i64 x2828))).upd 6 (.lit (.int .i64 (IntKind.wrap .i64 (x3138 + 1)))))) (M' := ((((((((Mem.nil.push (.cells 105 [.whole 1, .lit (.int .i64 (IntKind.wrap .i64 (x3139 + 1)))])).push (.row 5 (Rd.int .u8) (List.set x3235 (Int.toNat x3252) x3255))).push (.cells 57 [.lit (.int .u32 x2827)])).push (.cells 67 [.ptr 0 0])).push (.cells 3 [.lit (.int .i64 x2828)])).push (.obj (Obj.deferred (some [])))).push (.bag)).push (.obj (lp r_3028 .ready none)))) [0, 1, 4, 2, 3, 5, 6, 7] hnp ⟨rfl, ⟨⟨⟨⟨⟨⟨⟨⟨trivial, .inr ⟨rfl, rfl, rfl⟩⟩, .inr ⟨rfl, rfl, rfl⟩⟩, .inr ⟨rfl, rfl, rfl⟩⟩, .inr ⟨rfl, rfl, rfl⟩⟩, .inr ⟨rfl, rfl, rfl⟩⟩, .inr ⟨rfl, rfl, rfl⟩⟩, .inr ⟨rfl, rfl, rfl⟩⟩, .inr ⟨rfl, rfl, rfl⟩⟩, by decide, rfl, ⟨trivial, rfl⟩⟩ (LeE.upd rfl rfl (LeE.upd rfl rfl (LeE.upd rfl rfl (LeE.upd rfl rfl (LeE.noneD rfl rfl (.cons ⟨rfl, (LeV.upd rfl rfl (LeV.upd rfl rfl LeV.none)), rfl, rfl, rfl, rfl⟩ .nil))))))) rfl ?_
              refine W.now ?_
              exact Then.n ⟨n, ((IntKind.wrap .i64 (x3138 + 1)), (IntKind.wrap .i64 (x3139 + 1)), (List.set x3235 (Int.toNat x3252) x3255)), Nat.lt_succ_self n, H, rfl, rfl⟩
        · replace H := cnf hb H
          refine WP.exitW ?_
          refine W.cv (Cv.weak (E' := (⟨fun _ => .any, [], [⟨aC3028, (((Env.none.upd 3 (.ptr 2 0)).upd 19 (.fn 81 [.ptr 3 0, .ptr 4 0]))).v, [5, 6], some (7, l_3028)⟩]⟩ : Env)) (M' := ((((((((Mem.nil.push (.cells 105 [.whole 1, .lit (.int .i64 x3139)])).push (.row 5 (Rd.int .u8) x3140)).push (.cells 67 [.ptr 0 0])).push (.cells 3 [.lit (.int .i64 x2828)])).push (.cells 57 [.lit (.int .u32 x2827)])).push (.obj (Obj.deferred (some [])))).push (.bag)).push (.obj (lp r_3028 .ready none)))) [0, 1, 3, 4, 2, 5, 6, 7] hnp ⟨rfl, ⟨⟨⟨⟨⟨⟨⟨⟨trivial, .inr ⟨rfl, rfl, rfl⟩⟩, .inr ⟨rfl, rfl, rfl⟩⟩, .inr ⟨rfl, rfl, rfl⟩⟩, .inr ⟨rfl, rfl, rfl⟩⟩, .inr ⟨rfl, rfl, rfl⟩⟩, .inr ⟨rfl, rfl, rfl⟩⟩, .inr ⟨rfl, rfl, rfl⟩⟩, .inr ⟨rfl, rfl, rfl⟩⟩, by decide, rfl, ⟨trivial, rfl⟩⟩ (LeE.noneD rfl rfl (.cons ⟨rfl, (LeV.upd rfl rfl (LeV.upd rfl rfl LeV.none)), rfl, rfl, rfl, rfl⟩ .nil))) rfl ?_
          refine W.now ?_
          refine Then.x ?_
          refine Then.x ?_
          have q0 := Option.some.inj H
          subst q0
          exact ⟨rfl, rfl, rfl⟩
      · rcases y3258 with ⟨x3197, x3198⟩ | ⟨x3199, x3200⟩
        · rintro _ _ _ ⟨rfl, rfl, rfl⟩
          refine W.now ?_
          refine InBlock.r ?_
          refine ⟨trivial, _, _, _, _, rfl, _, _, rfl, (fun h => by cases h), ?_⟩
          refine W.cv (Cv.absorb (N := 8) (j := 5) (i := 6) rfl rfl rfl rfl) rfl ?_
          refine W.now ?_
          refine InBlock.n ?_
          refine Then.n ?_
          refine WP.seq ?_
          refine WP.region ?_
          refine WPL.q (q_as (v := .lit (.int _ _)) rfl) rfl ?_
          refine WPL.nilW ?_
          refine W.now ?_
          refine Then.n ?_
          refine WP.retW ?_
          refine W.now ?_
          have q0 := (Prod.mk.inj (Option.some.inj H)).1
          have q1 := (Prod.mk.inj (Prod.mk.inj (Option.some.inj H)).2).1
          have q2 := (Prod.mk.inj (Prod.mk.inj (Option.some.inj H)).2).2
          subst q0
          subst q1
          subst q2
          exact ⟨⟨.inr rfl, trivial⟩, _, rfl, [0, 1], (.lit (.int .i64 0)), ((Mem.nil.push (.cells 105 [.whole 1, .lit (.int .i64 x3197)])).push (.row 5 (Rd.int .u8) x3198)), ⟨rfl, ⟨⟨trivial, .inr ⟨rfl, rfl, rfl⟩⟩, .inr ⟨rfl, rfl, rfl⟩⟩, by decide, rfl, ⟨trivial, rfl⟩⟩, rfl, rfl, rfl, rfl⟩
        · rintro _ _ _ ⟨rfl, rfl, rfl⟩
          refine W.now ?_
          refine InBlock.x0 ?_
          refine ⟨trivial, _, _, _, _, rfl, _, _, rfl, (fun h => by cases h), ?_⟩
          refine W.cv (Cv.absorb (N := 8) (j := 5) (i := 6) rfl rfl rfl rfl) rfl ?_
          refine W.now ?_
          refine InBlock.n ?_
          refine Then.n ?_
          refine WP.seq ?_
          refine WP.region ?_
          refine WPL.q (q_as (v := .lit (.int _ _)) rfl) rfl ?_
          refine WPL.nilW ?_
          refine W.now ?_
          refine Then.n ?_
          refine WP.retW ?_
          refine W.now ?_
          have q0 := (Prod.mk.inj (Option.some.inj H)).1
          have q1 := (Prod.mk.inj (Prod.mk.inj (Option.some.inj H)).2).1
          have q2 := (Prod.mk.inj (Prod.mk.inj (Option.some.inj H)).2).2
          subst q0
          subst q1
          subst q2
          exact ⟨⟨.inr rfl, trivial⟩, _, rfl, [0, 1], (.lit (.int .i64 0)), ((Mem.nil.push (.cells 105 [.whole 1, .lit (.int .i64 x3199)])).push (.row 5 (Rd.int .u8) x3200)), ⟨rfl, ⟨⟨trivial, .inr ⟨rfl, rfl, rfl⟩⟩, .inr ⟨rfl, rfl, rfl⟩⟩, by decide, rfl, ⟨trivial, rfl⟩⟩, rfl, rfl, rfl, rfl⟩
set_option maxRecDepth 100000 in
set_option maxHeartbeats 4000000 in
theorem s_bits_Writer_Align (k : Nat) (x3263 : Int) (x3264 : (List Int)) (x3267 : Int) (H : g_bits_Writer_Align k x3263 x3264 = some x3267) : Go.Q.Spec Try.prog 31 1 [.ptr 0 0] ((Mem.nil.push (.cells 105 [.whole 1, .lit (.int .i64 x3263)])).push (.row 5 (Rd.int .u8) x3264)) (fun o M => o = .ret (.tup []) ∧ M = ((Mem.nil.push (.cells 105 [.whole 1, .lit (.int .i64 x3267)])).push (.row 5 (Rd.int .u8) x3264))) := by
  unfold g_bits_Writer_Align at H
  refine Go.Q.Spec.of_bodyR (rs := []) (nt := 13) Try.func31 rfl rfl (by intro t T h; simp at h) rfl rfl fun cx hnp => ?_
  refine WP.seq ?_
  refine WP.region ?_
  refine WPL.q (q_mv (v := .ptr _ _) rfl) rfl ?_
  refine WPL.q (q_neqp Try.underlying67 rfl) rfl ?_
  refine WPL.nilW ?_
  refine W.now ?_
  refine Then.n ?_
  refine WP.condT rfl ?_
  refine WP.region ?_
  refine WPL.q (q_mv (v := .ptr _ _) rfl) rfl ?_
  refine WPL.q (q_mv (v := .ptr _ _) rfl) rfl ?_
  refine WPL.q (q_nilCheck rfl) rfl ?_
  refine WPL.q (q_fieldAddr fi105_0 rfl rfl) rfl ?_
  refine WPL.q (q_load sc22 rfl rfl rfl) rfl ?_
  refine WPL.q (q_len_row sl22 rfl rfl) rfl ?_
  obtain ⟨x3268, h3268, H⟩ := bnd H
  refine WPL.q (q_nm (q_mul rfl rfl) (nm_int h3268)) rfl ?_
  refine WPL.q (q_nilCheck rfl) rfl ?_
  refine WPL.q (q_fieldAddr fi105_1 rfl rfl) rfl ?_
  refine WPL.s (s_store sz3 rfl rfl rfl rfl rfl) ?_
  refine WPL.nilW ?_
  refine W.now ?_
  have q0 := (Option.some.inj H)
  subst q0
  exact ⟨trivial, _, rfl, [0, 1], (.tup []), ((Mem.nil.push (.cells 105 [.whole 1, .lit (.int .i64 x3268)])).push (.row 5 (Rd.int .u8) x3264)), ⟨rfl, ⟨⟨trivial, .inr ⟨rfl, rfl, rfl⟩⟩, .inr ⟨rfl, rfl, rfl⟩⟩, by decide, rfl, ⟨trivial, rfl⟩⟩, rfl, rfl, rfl, rfl⟩
set_option maxRecDepth 100000 in
set_option maxHeartbeats 4000000 in
theorem s_bits_Writer_Put__b (k : Nat) (x3271 : Int) (x3272 : Int) (x3273 : Int) (x3274 : (List Int)) (x3405 : Int) (x3406 : Int) (x3407 : (List Int)) (H : g_bits_Writer_Put__b k x3271 x3272 x3273 x3274 = some (x3405, x3406, x3407)) : Go.Q.Spec Try.prog 30 1 [.ptr 0 0, .lit (.int .u32 x3271), .lit (.int .i64 x3272)] ((Mem.nil.push (.cells 105 [.whole 1, .lit (.int .i64 x3273)])).push (.row 5 (Rd.int .u8) x3274)) (fun o M => o = .ret (.lit (.int .i64 x3405)) ∧ M = ((Mem.nil.push (.cells 105 [.whole 1, .lit (.int .i64 x3406)])).push (.row 5 (Rd.int .u8) x3407))) := by
  unfold g_bits_Writer_Put__b at H
  refine Go.Q.Spec.of_bodyR (rs := [.tmp 6]) (nt := 65) Try.func30 rfl rfl (by intro t T h; simp at h) rfl rfl fun cx hnp => ?_
  refine WP.seq ?_
  refine WP.region ?_
  refine WPL.d (d_box rfl rfl) rfl ?_
  refine WPL.q (q_as (v := .lit (.int _ _)) rfl) rfl ?_
  refine WPL.nilW ?_
  refine W.now ?_
  refine Then.n ?_
  refine WP.seq ?_
  refine WP.seq ?_
  refine WP.region ?_
  refine WPL.q (q_load sc67 rfl rfl rfl) rfl ?_
  refine WPL.q (q_eqlp Try.underlying67 rfl) rfl ?_
  refine WPL.nilW ?_
  refine W.now ?_
  refine Then.n ?_
  refine WP.condF rfl ?_
  refine WP.skipW ?_
  refine W.now ?_
  refine Then.n ?_
  refine WP.seq ?_
  refine WP.seq ?_
  obtain ⟨x3413, H3414, H⟩ := bnd H
  refine WP.monoW (Q := fun x E M => x = .normal ∧ E = ((((Env.none.upd 1 (.lit (.int .u32 x3271))).upd 2 (.lit (.int .i64 x3272))).upd 3 (.ptr 2 0)).upd 16 (.lit (.bool x3413))) ∧ M = (((Mem.nil.push (.cells 105 [.whole 1, .lit (.int .i64 x3273)])).push (.row 5 (Rd.int .u8) x3274)).push (.cells 67 [.ptr 0 0]))) ?_ ?_
  · clear H
    have H := H3414
    clear H3414
    refine WP.region ?_
    refine WPL.q (q_mv (v := .lit (.int _ _)) rfl) rfl ?_
    refine WPL.q (q_lss rfl rfl) rfl ?_
    refine WPL.q (q_mv (v := .lit (.bool _)) rfl) rfl ?_
    refine WPL.split (t := 13) (b := (decide (x3272 < 0))) rfl (fun hb3413 => ?_) (fun hb3413 => ?_)
    · replace H := cnt hb3413 H
      refine WPL.skipg (b' := true) rfl rfl (lb hb3413) rfl rfl ?_
      refine WPL.skipg (b' := true) rfl rfl (lb hb3413) rfl rfl ?_
      refine WPL.q (q_pickT (v := .lit (.bool _)) (lb hb3413) rfl) rfl ?_
      refine WPL.nilW ?_
      refine W.cv (Cv.weak (E' := ((((Env.none.upd 1 (.lit (.int .u32 x3271))).upd 2 (.lit (.int .i64 x3272))).upd 3 (.ptr 2 0)).upd 16 (.lit (.bool true)))) (M' := (((Mem.nil.push (.cells 105 [.whole 1, .lit (.int .i64 x3273)])).push (.row 5 (Rd.int .u8) x3274)).push (.cells 67 [.ptr 0 0]))) [0, 1, 2] hnp ⟨rfl, ⟨⟨⟨trivial, .inr ⟨rfl, rfl, rfl⟩⟩, .inr ⟨rfl, rfl, rfl⟩⟩, .inr ⟨rfl, rfl, rfl⟩⟩, by decide, rfl, ⟨trivial, rfl⟩⟩ (LeE.upd rfl rfl (LeE.upd rfl rfl (LeE.upd rfl rfl (LeE.upd rfl rfl (LeE.none rfl rfl)))))) rfl ?_
      refine W.now ?_
      have q0 := (Option.some.inj H)
      subst q0
      exact ⟨rfl, rfl, rfl⟩
    · replace H := cnf hb3413 H
      refine WPL.qg rfl rfl (lb hb3413) (q_mv (v := .lit (.int _ _)) rfl) rfl ?_
      refine WPL.qg rfl rfl (lb hb3413) (q_gtr rfl rfl) rfl ?_
      refine WPL.q (q_pickF (v := .lit (.bool _)) (lb hb3413) rfl) rfl ?_
      refine WPL.nilW ?_
      refine W.cv (Cv.weak (E' := ((((Env.none.upd 1 (.lit (.int .u32 x3271))).upd 2 (.lit (.int .i64 x3272))).upd 3 (.ptr 2 0)).upd 16 (.lit (.bool (decide (32 < x3272)))))) (M' := (((Mem.nil.push (.cells 105 [.whole 1, .lit (.int .i64 x3273)])).push (.row 5 (Rd.int .u8) x3274)).push (.cells 67 [.ptr 0 0]))) [0, 1, 2] hnp ⟨rfl, ⟨⟨⟨trivial, .inr ⟨rfl, rfl, rfl⟩⟩, .inr ⟨rfl, rfl, rfl⟩⟩, .inr ⟨rfl, rfl, rfl⟩⟩, by decide, rfl, ⟨trivial, rfl⟩⟩ (LeE.upd rfl rfl (LeE.upd rfl rfl (LeE.upd rfl rfl (LeE.upd rfl rfl (LeE.none rfl rfl)))))) rfl ?_
      refine W.now ?_
      have q0 := (Option.some.inj H)
      subst q0
      exact ⟨rfl, rfl, rfl⟩
  · rintro _ _ _ ⟨rfl, rfl, rfl⟩
    refine W.now ?_
    refine Then.n ?_
    refine WP.cond (t := x3413) rfl (fun hb => ?_) (fun hb => ?_)
    · replace H := cnt hb H
      refine WP.seq ?_
      refine WP.region ?_
      refine WPL.q (q_as (v := .lit (.int _ _)) rfl) rfl ?_
      refine WPL.nilW ?_
      refine W.now ?_
      refine Then.n ?_
      refine WP.retW ?_
      refine W.now ?_
      refine Then.r ?_
      have q0 := (Prod.mk.inj (Option.some.inj H)).1
      have q1 := (Prod.mk.inj (Prod.mk.inj (Option.some.inj H)).2).1
      have q2 := (Prod.mk.inj (Prod.mk.inj (Option.some.inj H)).2).2
      subst q0
      subst q1
      subst q2
      exact ⟨trivial, _, rfl, [0, 1], (.lit (.int .i64 1)), ((Mem.nil.push (.cells 105 [.whole 1, .lit (.int .i64 x3273)])).push (.row 5 (Rd.int .u8) x3274)), ⟨rfl, ⟨⟨trivial, .inr ⟨rfl, rfl, rfl⟩⟩, .inr ⟨rfl, rfl, rfl⟩⟩, by decide, rfl, ⟨trivial, rfl⟩⟩, rfl, rfl, rfl, rfl⟩
    · replace H := cnf hb H
      refine WP.skipW ?_
      refine W.now ?_
      refine Then.n ?_
      refine WP.seq ?_
      refine WP.seq ?_
      refine WP.region ?_
      refine WPL.q (q_mv (v := .lit (.int _ _)) rfl) rfl ?_
      refine WPL.q (q_mv (v := .lit (.int _ _)) rfl) rfl ?_
      obtain ⟨_, h3415, H⟩ := bnd H
      refine WPL.c (runs_call (s := []) (t := [3, 4]) (N := 5) (bor := []) fn57 rfl (s_bits_each k x3271 x3272 h3415) ⟨rfl, trivial, by decide, rfl, trivial⟩ rfl trivial (.ren rfl rfl (.ren rfl rfl .nil)) rfl ⟨⟨trivial, rfl⟩, rfl⟩ rfl) rfl ?_
      refine WPL.nilW ?_
      refine W.now ?_
      refine Then.n ?_
      refine WP.block ?_
      refine WP.cv (Cv.nullMark (N := 5) rfl rfl) ?_
      refine WP.range (nti := 19) (n := 6) rfl rfl Try.func81 rfl (by kernel_rfl) rfl rfl rfl rfl fun l_3416 r_3416 aC3416 hp3416 ha3416 hb3416 ht3416 hs3416 => ?_
      refine WP.seq ?_
      refine WP.region ?_
      refine WPL.q (q_load sc3 rfl rfl rfl) rfl ?_
      refine WPL.q (q_mv (v := .lit (.int _ _)) rfl) rfl ?_
      refine WPL.nilW ?_
      refine W.now ?_
      refine Then.n ?_
      refine WP.block ?_
      refine WP.cv (Cv.weak (E' := (((((⟨fun _ => .any, [], [⟨aC3416, (((Env.none.upd 3 (.ptr 3 0)).upd 19 (.fn 81 [.ptr 4 0, .ptr 2 0]))).v, [5, 6], some (7, l_3416)⟩]⟩ : Env).upd 0 (.lit (.func (.yield l_3416) #[] #[]))).upd 2 (.ptr 2 0)).upd 5 (.lit (.int .i64 x3272))).upd 6 (.lit (.int .i64 0)))) (M' := ((((((((Mem.nil.push (.cells 105 [.whole 1, .lit (.int .i64 x3273)])).push (.row 5 (Rd.int .u8) x3274)).push (.cells 57 [.lit (.int .u32 x3271)])).push (.cells 67 [.ptr 0 0])).push (.cells 3 [.lit (.int .i64 x3272)])).push (.obj (Obj.deferred (some [])))).push (.bag)).push (.obj (lp r_3416 .ready none)))) [0, 1, 4, 2, 3, 6, 5, 7] hnp ⟨rfl, ⟨⟨⟨⟨⟨⟨⟨⟨trivial, .inr ⟨rfl, rfl, rfl⟩⟩, .inr ⟨rfl, rfl, rfl⟩⟩, .inr ⟨rfl, rfl, rfl⟩⟩, .inr ⟨rfl, rfl, rfl⟩⟩, .inr ⟨rfl, rfl, rfl⟩⟩, .inr ⟨rfl, rfl, rfl⟩⟩, .inr ⟨rfl, rfl, rfl⟩⟩, .inr ⟨rfl, rfl, rfl⟩⟩, by decide, rfl, ⟨trivial, rfl⟩⟩ (LeE.upd rfl rfl (LeE.upd rfl rfl (LeE.upd rfl rfl (LeE.upd rfl rfl (LeE.noneD rfl rfl (.cons ⟨rfl, (LeV.upd rfl rfl (LeV.upd rfl rfl LeV.none)), rfl, rfl, rfl, rfl⟩ .nil))))))) ?_
      obtain ⟨y3592, H3590, H⟩ := bnd H
      refine WP.monoW (Q := fun x E M => match (generalizing := false) y3592 with | (Sum.inl (x3531, x3532)) => x = .ret ∧ E = (⟨fun _ => .any, [], [⟨aC3416, (((Env.none.upd 3 (.ptr 2 0)).upd 19 (.fn 81 [.ptr 3 0, .ptr 4 0]))).v, [5, 6], some (7, l_3416)⟩]⟩ : Env) ∧ M = ((((((((Mem.nil.push (.cells 105 [.whole 1, .lit (.int .i64 x3531)])).push (.row 5 (Rd.int .u8) x3532)).push (.cells 67 [.ptr 0 0])).push (.cells 3 [.lit (.int .i64 x3272)])).push (.cells 57 [.lit (.int .u32 x3271)])).push (.obj (Obj.deferred (some [])))).push (.bag)).push (.obj (lp r_3416 .ready none))) | (Sum.inr (x3533, x3534)) => x = .exit 0 ∧ E = (⟨fun _ => .any, [], [⟨aC3416, (((Env.none.upd 3 (.ptr 2 0)).upd 19 (.fn 81 [.ptr 3 0, .ptr 4 0]))).v, [5, 6], some (7, l_3416)⟩]⟩ : Env) ∧ M = ((((((((Mem.nil.push (.cells 105 [.whole 1, .lit (.int .i64 x3533)])).push (.row 5 (Rd.int .u8) x3534)).push (.cells 67 [.ptr 0 0])).push (.cells 3 [.lit (.int .i64 x3272)])).push (.cells 57 [.lit (.int .u32 x3271)])).push (.obj (Obj.deferred (some [])))).push (.bag)).push (.obj (lp r_3416 .ready none)))) ?_ ?_
      · refine WP.loop (β := Int × Int × (List Int)) (fun n b => g_bits_Writer_Put__b_l0 k x3271 x3272 n b.1 b.2.1 b.2.2 = some y3592) (fun b => (((((⟨fun _ => .any, [], [⟨aC3416, (((Env.none.upd 3 (.ptr 3 0)).upd 19 (.fn 81 [.ptr 4 0, .ptr 2 0]))).v, [5, 6], some (7, l_3416)⟩]⟩ : Env).upd 0 (.lit (.func (.yield l_3416) #[] #[]))).upd 2 (.ptr 2 0)).upd 5 (.lit (.int .i64 x3272))).upd 6 (.lit (.int .i64 b.1)))) (fun b => ((((((((Mem.nil.push (.cells 105 [.whole 1, .lit (.int .i64 b.2.1)])).push (.row 5 (Rd.int .u8) b.2.2)).push (.cells 57 [.lit (.int .u32 x3271)])).push (.cells 67 [.ptr 0 0])).push (.cells 3 [.lit (.int .i64 x3272)])).push (.obj (Obj.deferred (some [])))).push (.bag)).push (.obj (lp r_3416 .ready none)))) k (0, x3273, x3274) H3590 rfl rfl ?_
        rintro n ⟨x3472, x3473, x3474⟩ H
        obtain _ | n := n
        · exact nf rfl H
        rw [g_bits_Writer_Put__b_l0.eq_2] at H
        show WP _ _ _ _ (((((⟨fun _ => .any, [], [⟨aC3416, (((Env.none.upd 3 (.ptr 3 0)).upd 19 (.fn 81 [.ptr 4 0, .ptr 2 0]))).v, [5, 6], some (7, l_3416)⟩]⟩ : Env).upd 0 (.lit (.func (.yield l_3416) #[] #[]))).upd 2 (.ptr 2 0)).upd 5 (.lit (.int .i64 x3272))).upd 6 (.lit (.int .i64 x3472))) ((((((((Mem.nil.push (.cells 105 [.whole 1, .lit (.int .i64 x3473)])).push (.row 5 (Rd.int .u8) x3474)).push (.cells 57 [.lit (.int .u32 x3271)])).push (.cells 67 [.ptr 0 0])).push (.cells 3 [.lit (.int .i64 x3272)])).push (.obj (Obj.deferred (some [])))).push (.bag)).push (.obj (lp r_3416 .ready none))) _
        refine WP.seq ?_
        refine WP.region ?_
        refine WPL.q (q_lss rfl rfl) rfl ?_
        refine WPL.nilW ?_
        refine W.now ?_
        refine Then.n ?_
        refine WP.seq ?_
        refine WP.cond (t := (decide (x3472 < x3272))) rfl (fun hb => ?_) (fun hb => ?_)
        · replace H := cnt hb H
          refine WP.skipW ?_
          refine W.now ?_
          refine Then.n ?_
          refine WP.seq ?_
          refine WP.block ?_
          refine WP.seq ?_
          refine WP.region ?_
          refine WPL.q (q_mv (v := .lit (.int _ _)) rfl) rfl ?_
          refine WPL.q (q_as (v := .lit (.int _ _)) rfl) rfl ?_
          refine WPL.nilW ?_
          refine W.now ?_
          refine Then.n ?_
          refine WP.seq ?_
          refine WP.region ?_
          refine WPL.q (q_mv (v := .lit _) rfl) rfl ?_
          refine WPL.q (q_mv (v := .lit (.int _ _)) rfl) rfl ?_
          refine WPL.q (q_load sc57 rfl rfl rfl) rfl ?_
          refine WPL.q (q_mv (v := .lit (.int _ _)) rfl) rfl ?_
          obtain ⟨h3562, H⟩ := grd H
          refine WPL.q (q_shr rfl rfl h3562) rfl ?_
          refine WPL.q (q_conv Try.underlying57 Try.underlying5 rfl) rfl ?_
          obtain ⟨x3564, h3564, H⟩ := bnd H
          refine WPL.q (q_nm (q_and rfl rfl) (nm_int h3564)) rfl ?_
          refine WPL.y rfl rfl rfl rfl hp3416 ha3416 hb3416 ht3416 hs3416 rfl rfl rfl fun aI3564 => ?_
          refine WP.region ?_
          refine WPL.q (q_as (v := .lit (.int _ _)) rfl) rfl ?_
          refine WPL.nilW ?_
          refine W.now ?_
          refine ⟨rfl, rfl, _, _, _, _, _, _, rfl, rfl, ?_⟩
          refine WP.block ?_
          refine WP.seq ?_
          obtain ⟨x3569, H3572, H⟩ := bnd H
          refine WP.monoW (Q := fun x E M => x = .normal ∧ E = ((((⟨fun _ => .any, [], [⟨aI3564, (((((Env.none.upd 0 (.lit (.func (.yield l_3416) #[] #[]))).upd 2 (.ptr 4 0)).upd 5 (.lit (.int .i64 x3272))).upd 6 (.lit (.int .i64 x3472)))).v, [], none⟩, ⟨aC3416, (((Env.none.upd 3 (.ptr 2 0)).upd 19 (.fn 81 [.ptr 3 0, .ptr 4 0]))).v, [5, 6], some (7, l_3416)⟩]⟩ : Env).upd 3 (.ptr 2 0)).upd 8 (.lit (.int .u8 x3564))).upd 19 (.fn 81 [.ptr 3 0, .ptr 4 0])) ∧ M = ((((((((Mem.nil.push (.cells 105 [.whole 1, .lit (.int .i64 x3473)])).push (.row 5 (Rd.int .u8) x3569)).push (.cells 67 [.ptr 0 0])).push (.cells 3 [.lit (.int .i64 x3272)])).push (.cells 57 [.lit (.int .u32 x3271)])).push (.obj (Obj.deferred (some [])))).push (.bag)).push (.obj (lp r_3416 .busy none)))) ?_ ?_
          · clear H
            have H := H3572
            clear H3572
            refine WP.seq ?_
            refine WP.region ?_
            refine WPL.q (q_load sc67 rfl rfl rfl) rfl ?_
            refine WPL.q (q_nilCheck rfl) rfl ?_
            refine WPL.q (q_fieldAddr fi105_1 rfl rfl) rfl ?_
            refine WPL.q (q_load sc3 rfl rfl rfl) rfl ?_
            refine WPL.q (q_rem rfl rfl rfl) rfl ?_
            refine WPL.q (q_eql rfl rfl) rfl ?_
            refine WPL.nilW ?_
            refine W.now ?_
            refine Then.n ?_
            refine WP.cond (t := (decide ((Int.tmod x3473 8) = 0))) rfl (fun hb => ?_) (fun hb => ?_)
            · replace H := cnt hb H
              refine WP.regionD' 10 [0, 3] [9] mixed rfl ?_
              refine WPD.take 0 rfl (by kernel_rfl) (q_load sc67 rfl rfl rfl) rfl rfl ?_
              refine WPD.take 1 rfl (by kernel_rfl) (q_load sc67 rfl rfl rfl) rfl rfl ?_
              refine WPD.takeT 2 rfl (by kernel_rfl) (q_nilCheck rfl) rfl ?_
              refine WPD.takeT 3 rfl (by kernel_rfl) (q_fieldAddr fi105_0 rfl rfl) rfl ?_
              refine WPD.take 4 rfl (by kernel_rfl) (q_load sc22 rfl rfl rfl) rfl rfl ?_
              refine WPD.eff 5 [0, 3] [9] rfl (by kernel_rfl) (Does.runs (d_buildSlice (ds := ([0] : List Int)) (R := (Rd.int .u8)) li22 rfl rfl rfl rfl rfl (JoinRows.cons1 Joins.sc rfl JoinRows.nil) rfl rfl)) rfl rfl ?_
              obtain ⟨h3571, H⟩ := grd H
              refine WPD.eff 6 [0, 3] [9] rfl (by kernel_rfl) (Does.runs (d_append ap22 rfl rfl rfl rfl (src_row sl22 rfl rfl) h3571 rfl)) rfl rfl ?_
              refine WPD.takeT 7 rfl (by kernel_rfl) (q_nilCheck rfl) rfl ?_
              refine WPD.takeT 8 rfl (by kernel_rfl) (q_fieldAddr fi105_0 rfl rfl) rfl ?_
              refine WPD.effS 9 [] [] rfl (by kernel_rfl) (s_store sz22 rfl rfl rfl rfl rfl) rfl ?_
              refine WPD.doneW (by kernel_rfl) ?_
              refine W.cv (Cv.weak (E' := ((((⟨fun _ => .any, [], [⟨aI3564, (((((Env.none.upd 0 (.lit (.func (.yield l_3416) #[] #[]))).upd 2 (.ptr 4 0)).upd 5 (.lit (.int .i64 x3272))).upd 6 (.lit (.int .i64 x3472)))).v, [], none⟩, ⟨aC3416, (((Env.none.upd 3 (.ptr 2 0)).upd 19 (.fn 81 [.ptr 3 0, .ptr 4 0]))).v, [5, 6], some (7, l_3416)⟩]⟩ : Env).upd 3 (.ptr 2 0)).upd 8 (.lit (.int .u8 x3564))).upd 19 (.fn 81 [.ptr 3 0, .ptr 4 0]))) (M' := ((((((((Mem.nil.push (.cells 105 [.whole 1, .lit (.int .i64 x3473)])).push (.row 5 (Rd.int .u8) (x3474 ++ ([0] : List Int)))).push (.cells 67 [.ptr 0 0])).push (.cells 3 [.lit (.int .i64 x3272)])).push (.cells 57 [.lit (.int .u32 x3271)])).push (.obj (Obj.deferred (some [])))).push (.bag)).push (.obj (lp r_3416 .busy none)))) [0, 9, 3, 4, 2, 5, 6, 7] hnp ⟨rfl, ⟨⟨⟨⟨⟨⟨⟨⟨trivial, .inr ⟨rfl, rfl, rfl⟩⟩, .inr ⟨rfl, rfl, rfl⟩⟩, .inr ⟨rfl, rfl, rfl⟩⟩, .inr ⟨rfl, rfl, rfl⟩⟩, .inr ⟨rfl, rfl, rfl⟩⟩, .inr ⟨rfl, rfl, rfl⟩⟩, .inr ⟨rfl, rfl, rfl⟩⟩, .inr ⟨rfl, rfl, rfl⟩⟩, by decide, rfl, ⟨trivial, rfl⟩⟩ (LeE.upd rfl rfl (LeE.upd rfl rfl (LeE.upd rfl rfl (LeE.noneD rfl rfl (.cons ⟨rfl, (LeV.upd rfl rfl (LeV.upd rfl rfl (LeV.upd rfl rfl (LeV.upd rfl rfl LeV.none)))), rfl, rfl, rfl, rfl⟩ (.cons ⟨rfl, (LeV.upd rfl rfl (LeV.upd rfl rfl LeV.none)), rfl, rfl, rfl, rfl⟩ .nil))))))) rfl ?_
              refine W.now ?_
              have q0 := (Option.some.inj H)
              subst q0
              exact ⟨rfl, rfl, rfl⟩
            · replace H := cnf hb H
              refine WP.skipW ?_
              refine W.cv (Cv.weak (E' := ((((⟨fun _ => .any, [], [⟨aI3564, (((((Env.none.upd 0 (.lit (.func (.yield l_3416) #[] #[]))).upd 2 (.ptr 4 0)).upd 5 (.lit (.int .i64 x3272))).upd 6 (.lit (.int .i64 x3472)))).v, [], none⟩, ⟨aC3416, (((Env.none.upd 3 (.ptr 2 0)).upd 19 (.fn 81 [.ptr 3 0, .ptr 4 0]))).v, [5, 6], some (7, l_3416)⟩]⟩ : Env).upd 3 (.ptr 2 0)).upd 8 (.lit (.int .u8 x3564))).upd 19 (.fn 81 [.ptr 3 0, .ptr 4 0]))) (M' := ((((((((Mem.nil.push (.cells 105 [.whole 1, .lit (.int .i64 x3473)])).push (.row 5 (Rd.int .u8) x3474)).push (.cells 67 [.ptr 0 0])).push (.cells 3 [.lit (.int .i64 x3272)])).push (.cells 57 [.lit (.int .u32 x3271)])).push (.obj (Obj.deferred (some [])))).push (.bag)).push (.obj (lp r_3416 .busy none)))) [0, 1, 3, 4, 2, 5, 6, 7] hnp ⟨rfl, ⟨⟨⟨⟨⟨⟨⟨⟨trivial, .inr ⟨rfl, rfl, rfl⟩⟩, .inr ⟨rfl, rfl, rfl⟩⟩, .inr ⟨rfl, rfl, rfl⟩⟩, .inr ⟨rfl, rfl, rfl⟩⟩, .inr ⟨rfl, rfl, rfl⟩⟩, .inr ⟨rfl, rfl, rfl⟩⟩, .inr ⟨rfl, rfl, rfl⟩⟩, .inr ⟨rfl, rfl, rfl⟩⟩, by decide, rfl, ⟨trivial, rfl⟩⟩ (LeE.upd rfl rfl (LeE.upd rfl rfl (LeE.upd rfl rfl (LeE.noneD rfl rfl (.cons ⟨rfl, (LeV.upd rfl rfl (LeV.upd rfl rfl (LeV.upd rfl rfl (LeV.upd rfl rfl LeV.none)))), rfl, rfl, rfl, rfl⟩ (.cons ⟨rfl, (LeV.upd rfl rfl (LeV.upd rfl rfl LeV.none)), rfl, rfl, rfl, rfl⟩ .nil))))))) rfl ?_
              refine W.now ?_
              have q0 := (Option.some.inj H)
              subst q0
              exact ⟨rfl, rfl, rfl⟩
          · rintro _ _ _ ⟨rfl, rfl, rfl⟩
            refine W.now ?_
            refine Then.n ?_
            refine WP.seq ?_
            refine WP.regionD' 22 [0, 1, 2] [21] mixed rfl ?_
            refine WPD.takeT 12 rfl (by kernel_rfl) (q_mv (v := .lit (.int _ _)) rfl) rfl ?_
            refine WPD.take 0 rfl (by kernel_rfl) (q_load sc67 rfl rfl rfl) rfl rfl ?_
            refine WPD.takeT 1 rfl (by kernel_rfl) (q_nilCheck rfl) rfl ?_
            refine WPD.takeT 2 rfl (by kernel_rfl) (q_fieldAddr fi105_0 rfl rfl) rfl ?_
            refine WPD.take 3 rfl (by kernel_rfl) (q_load sc22 rfl rfl rfl) rfl rfl ?_
            refine WPD.take 4 rfl (by kernel_rfl) (q_load sc67 rfl rfl rfl) rfl rfl ?_
            refine WPD.takeT 5 rfl (by kernel_rfl) (q_nilCheck rfl) rfl ?_
            refine WPD.takeT 6 rfl (by kernel_rfl) (q_fieldAddr fi105_0 rfl rfl) rfl ?_
            refine WPD.take 7 rfl (by kernel_rfl) (q_load sc22 rfl rfl rfl) rfl rfl ?_
            refine WPD.takeT 8 rfl (by kernel_rfl) (q_len_row sl22 rfl rfl) rfl ?_
            obtain ⟨x3586, h3586, H⟩ := bnd H
            refine WPD.takeT 9 rfl (by kernel_rfl) (q_nm (q_sub rfl rfl) (nm_int h3586)) rfl ?_
            obtain ⟨x3587, h3587, H⟩ := bnd H
            refine WPD.takeT 10 rfl (by kernel_rfl) (q_index_row sl22 rfl rfl rfl (ixs h3587)) rfl ?_
            refine WPD.take 11 rfl (by kernel_rfl) (q_load_row (j := (Int.toNat x3586)) sc5 rfl rfl (ixj h3587)) rfl rfl ?_
            refine WPD.take 13 rfl (by kernel_rfl) (q_load sc67 rfl rfl rfl) rfl rfl ?_
            refine WPD.takeT 14 rfl (by kernel_rfl) (q_nilCheck rfl) rfl ?_
            refine WPD.takeT 15 rfl (by kernel_rfl) (q_fieldAddr fi105_1 rfl rfl) rfl ?_
            refine WPD.take 16 rfl (by kernel_rfl) (q_load sc3 rfl rfl rfl) rfl rfl ?_
            refine WPD.takeT 17 rfl (by kernel_rfl) (q_rem rfl rfl rfl) rfl ?_
            obtain ⟨h3587, H⟩ := grd H
            refine WPD.takeT 18 rfl (by kernel_rfl) (q_shl rfl rfl h3587) rfl ?_
            obtain ⟨x3589, h3589, H⟩ := bnd H
            refine WPD.takeT 19 rfl (by kernel_rfl) (q_nm (q_or rfl rfl) (nm_int h3589)) rfl ?_
            obtain ⟨x3590, h3590, H⟩ := bnd H
            refine WPD.takeT 20 rfl (by kernel_rfl) (q_index_row sl22 rfl rfl rfl (ixs h3590)) rfl ?_
            refine WPD.effS 21 [] [] rfl (by kernel_rfl) (s_store_row (j := (Int.toNat x3586)) (d := x3589) sz5 rfl rfl rfl rfl Joins.sc (ixl h3590)) rfl ?_
            refine WPD.doneW (by kernel_rfl) ?_
            refine W.now ?_
            refine Then.n ?_
            refine WP.region ?_
            refine WPL.q (q_load sc67 rfl rfl rfl) rfl ?_
            refine WPL.q (q_nilCheck rfl) rfl ?_
            refine WPL.q (q_fieldAddr fi105_1 rfl rfl) rfl ?_
            refine WPL.q (q_load sc3 rfl rfl rfl) rfl ?_
            refine WPL.q (q_add rfl rfl) rfl ?_
            refine WPL.q (q_nilCheck rfl) rfl ?_
            refine WPL.q (q_fieldAddr fi105_1 rfl rfl) rfl ?_
            refine WPL.s (s_store sz3 rfl rfl rfl rfl rfl) ?_
            refine WPL.nilW ?_
            refine W.now ?_
            refine InBlock.n ?_
            refine ⟨rfl, _, _, _, _, _, _, rfl, rfl, _, rfl, ?_⟩
            refine WPL.q (q_not rfl) rfl ?_
            refine WPL.nilW ?_
            refine W.now ?_
            refine Then.n ?_
            refine WP.cond (t := (!true)) rfl (fun hb => ?_) (fun hb => ?_)
            · replace H := cnt hb H
              refine WP.retW ?_
              refine W.cv (Cv.weak (E' := (⟨fun _ => .any, [], [⟨aC3416, (((Env.none.upd 3 (.ptr 2 0)).upd 19 (.fn 81 [.ptr 3 0, .ptr 4 0]))).v, [5, 6], some (7, l_3416)⟩]⟩ : Env)) (M' := ((((((((Mem.nil.push (.cells 105 [.whole 1, .lit (.int .i64 (IntKind.wrap .i64 (x3473 + 1)))])).push (.row 5 (Rd.int .u8) (List.set x3569 (Int.toNat x3586) x3589))).push (.cells 67 [.ptr 0 0])).push (.cells 3 [.lit (.int .i64 x3272)])).push (.cells 57 [.lit (.int .u32 x3271)])).push (.obj (Obj.deferred (some [])))).push (.bag)).push (.obj (lp r_3416 .ready none)))) [0, 1, 2, 3, 4, 5, 6, 7] hnp ⟨rfl, ⟨⟨⟨⟨⟨⟨⟨⟨trivial, .inr ⟨rfl, rfl, rfl⟩⟩, .inr ⟨rfl, rfl, rfl⟩⟩, .inr ⟨rfl, rfl, rfl⟩⟩, .inr ⟨rfl, rfl, rfl⟩⟩, .inr ⟨rfl, rfl, rfl⟩⟩, .inr ⟨rfl, rfl, rfl⟩⟩, .inr ⟨rfl, rfl, rfl⟩⟩, .inr ⟨rfl, rfl, rfl⟩⟩, by decide, rfl, ⟨trivial, rfl⟩⟩ (LeE.noneD rfl rfl (.cons ⟨rfl, (LeV.upd rfl rfl (LeV.upd rfl rfl LeV.none)), rfl, rfl, rfl, rfl⟩ .nil))) rfl ?_
              refine W.now ?_
              refine InBlock.r ?_
              refine Then.r ?_
              refine Then.r ?_
              have q0 := Option.some.inj H
              subst q0
              exact ⟨rfl, rfl, rfl⟩
            · replace H := cnf hb H
              refine WP.skipW ?_
              refine W.now ?_
              refine InBlock.n ?_
              refine Then.n ?_
              refine WP.region ?_
              refine WPL.q (q_add rfl rfl) rfl ?_
              refine WPL.q (q_mv (v := .lit (.int _ _)) rfl) rfl ?_
              refine WPL.nilW ?_
              refine W.cv (Cv.weak (E' := (((((⟨fun _ => .any, [], [⟨aC3416, (((Env.none.upd 3 (.ptr 3 0)).upd 19 (.fn 81 [.ptr 4 0, .ptr 2 0]))).v, [5, 6], some (7, l_3416)⟩]⟩ : Env).upd 0 (.lit (.func (.yield l_3416) #[] #[]))).upd 2 (.ptr 2 0)).upd 5 (.lit (.int .i64 x3272))).upd 6 (.lit (.int .i64 (IntKind.wrap .i64 (x3472 + 1)))))) (M' := ((((((((Mem.nil.push (.cells 105 [.whole 1, .lit (.int .i64 (IntKind.wrap .i64 (x3473 + 1)))])).push (.row 5 (Rd.int .u8) (List.set x3569 (Int.toNat x3586) x3589))).push (.cells 57 [.lit (.int .u32 x3271)])).push (.cells 67 [.ptr 0 0])).push (.cells 3 [.lit (.int .i64 x3272)])).push (.obj (Obj.deferred (some [])))).push (.bag)).push (.obj (lp r_3416 .ready none)))) [0, 1, 4, 2, 3, 5, 6, 7] hnp ⟨rfl, ⟨⟨⟨⟨⟨⟨⟨⟨trivial, .inr ⟨rfl, rfl, rfl⟩⟩, .inr ⟨rfl, rfl, rfl⟩⟩, .inr ⟨rfl, rfl, rfl⟩⟩, .inr ⟨rfl, rfl, rfl⟩⟩, .inr ⟨rfl, rfl, rfl⟩⟩, .inr ⟨rfl, rfl, rfl⟩⟩, .inr ⟨rfl, rfl, rfl⟩⟩, .inr ⟨rfl, rfl, rfl⟩⟩, by decide, rfl, ⟨trivial, rfl⟩⟩ (LeE.upd rfl rfl (LeE.upd rfl rfl (LeE.upd rfl rfl (LeE.upd rfl rfl (LeE.noneD rfl rfl (.cons ⟨rfl, (LeV.upd rfl rfl (LeV.upd rfl rfl LeV.none)), rfl, rfl, rfl, rfl⟩ .nil))))))) rfl ?_
              refine W.now ?_
              exact Then.n ⟨n, ((IntKind.wrap .i64 (x3472 + 1)), (IntKind.wrap .i64 (x3473 + 1)), (List.set x3569 (Int.toNat x3586) x3589)), Nat.lt_succ_self n, H, rfl, rfl⟩
        · replace H := cnf hb H
          refine WP.exitW ?_
          refine W.cv (Cv.weak (E' := (⟨fun _ => .any, [], [⟨aC3416, (((Env.none.upd 3 (.ptr 2 0)).upd 19 (.fn 81 [.ptr 3 0, .ptr 4 0]))).v, [5, 6], some (7, l_3416)⟩]⟩ : Env)) (M' := ((((((((Mem.nil.push (.cells 105 [.whole 1, .lit (.int .i64 x3473)])).push (.row 5 (Rd.int .u8) x3474)).push (.cells 67 [.ptr 0 0])).push (.cells 3 [.lit (.int .i64 x3272)])).push (.cells 57 [.lit (.int .u32 x3271)])).push (.obj (Obj.deferred (some [])))).push (.bag)).push (.obj (lp r_3416 .ready none)))) [0, 1, 3, 4, 2, 5, 6, 7] hnp ⟨rfl, ⟨⟨⟨⟨⟨⟨⟨⟨trivial, .inr ⟨rfl, rfl, rfl⟩⟩, .inr ⟨rfl, rfl, rfl⟩⟩, .inr ⟨rfl, rfl, rfl⟩⟩, .inr ⟨rfl, rfl, rfl⟩⟩, .inr ⟨rfl, rfl, rfl⟩⟩, .inr ⟨rfl, rfl, rfl⟩⟩, .inr ⟨rfl, rfl, rfl⟩⟩, .inr ⟨rfl, rfl, rfl⟩⟩, by decide, rfl, ⟨trivial, rfl⟩⟩ (LeE.noneD rfl rfl (.cons ⟨rfl, (LeV.upd rfl rfl (LeV.upd rfl rfl LeV.none)), rfl, rfl, rfl, rfl⟩ .nil))) rfl ?_
          refine W.now ?_
          refine Then.x ?_
          refine Then.x ?_
          have q0 := Option.some.inj H
          subst q0
          exact ⟨rfl, rfl, rfl⟩
      · rcases y3592 with ⟨x3531, x3532⟩ | ⟨x3533, x3534⟩
        · rintro _ _ _ ⟨rfl, rfl, rfl⟩
          refine W.now ?_
          refine InBlock.r ?_
          refine ⟨trivial, _, _, _, _, rfl, _, _, rfl, (fun h => by cases h), ?_⟩
          refine W.cv (Cv.absorb (N := 8) (j := 5) (i := 6) rfl rfl rfl rfl) rfl ?_
          refine W.now ?_
          refine InBlock.n ?_
          refine Then.n ?_
          refine WP.seq ?_
          refine WP.region ?_
          refine WPL.q (q_as (v := .lit (.int _ _)) rfl) rfl ?_
          refine WPL.nilW ?_
          refine W.now ?_
          refine Then.n ?_
          refine WP.retW ?_
          refine W.now ?_
          have q0 := (Prod.mk.inj (Option.some.inj H)).1
          have q1 := (Prod.mk.inj (Prod.mk.inj (Option.some.inj H)).2).1
          have q2 := (Prod.mk.inj (Prod.mk.inj (Option.some.inj H)).2).2
          subst q0
          subst q1
          subst q2
          exact ⟨⟨.inr rfl, trivial⟩, _, rfl, [0, 1], (.lit (.int .i64 0)), ((Mem.nil.push (.cells 105 [.whole 1, .lit (.int .i64 x3531)])).push (.row 5 (Rd.int .u8) x3532)), ⟨rfl, ⟨⟨trivial, .inr ⟨rfl, rfl, rfl⟩⟩, .inr ⟨rfl, rfl, rfl⟩⟩, by decide, rfl, ⟨trivial, rfl⟩⟩, rfl, rfl, rfl, rfl⟩
        · rintro _ _ _ ⟨rfl, rfl, rfl⟩
          refine W.now ?_
          refine InBlock.x0 ?_
          refine ⟨trivial, _, _, _, _, rfl, _, _, rfl, (fun h => by cases h), ?_⟩
          refine W.cv (Cv.absorb (N := 8) (j := 5) (i := 6) rfl rfl rfl rfl) rfl ?_
          refine W.now ?_
          refine InBlock.n ?_
          refine Then.n ?_
          refine WP.seq ?_
          refine WP.region ?_
          refine WPL.q (q_as (v := .lit (.int _ _)) rfl) rfl ?_
          refine WPL.nilW ?_
          refine W.now ?_
          refine Then.n ?_
          refine WP.retW ?_
          refine W.now ?_
          have q0 := (Prod.mk.inj (Option.some.inj H)).1
          have q1 := (Prod.mk.inj (Prod.mk.inj (Option.some.inj H)).2).1
          have q2 := (Prod.mk.inj (Prod.mk.inj (Option.some.inj H)).2).2
          subst q0
          subst q1
          subst q2
          exact ⟨⟨.inr rfl, trivial⟩, _, rfl, [0, 1], (.lit (.int .i64 0)), ((Mem.nil.push (.cells 105 [.whole 1, .lit (.int .i64 x3533)])).push (.row 5 (Rd.int .u8) x3534)), ⟨rfl, ⟨⟨trivial, .inr ⟨rfl, rfl, rfl⟩⟩, .inr ⟨rfl, rfl, rfl⟩⟩, by decide, rfl, ⟨trivial, rfl⟩⟩, rfl, rfl, rfl, rfl⟩
set_option maxRecDepth 100000 in
set_option maxHeartbeats 4000000 in
theorem s_bits_Writer_Bytes (k : Nat) (x3603 : (List Int)) (x3604 : Int) (x3605 : (List Int)) (x3609 : Int) (H : g_bits_Writer_Bytes k x3603 x3604 x3605 = some x3609) : Go.Q.Spec Try.prog 32 1 [.ptr 0 0, .ro (Rd.slice (Rd.int .u8)) false x3603] ((Mem.nil.push (.cells 105 [.whole 1, .lit (.int .i64 x3604)])).push (.row 5 (Rd.int .u8) x3605)) (fun o M => o = .ret (.tup []) ∧ M = ((Mem.nil.push (.cells 105 [.whole 1, .lit (.int .i64 x3609)])).push (.row 5 (Rd.int .u8) (x3605 ++ x3603)))) := by
  unfold g_bits_Writer_Bytes at H
  refine Go.Q.Spec.of_bodyR (rs := []) (nt := 24) Try.func32 rfl rfl (by intro t T h; simp at h) rfl rfl fun cx hnp => ?_
  refine WP.seq ?_
  refine WP.region ?_
  refine WPL.q (q_mv (v := .ptr _ _) rfl) rfl ?_
  refine WPL.q (q_neqp Try.underlying67 rfl) rfl ?_
  refine WPL.nilW ?_
  refine W.now ?_
  refine Then.n ?_
  refine WP.condT rfl ?_
  refine WP.seq ?_
  refine WP.region ?_
  refine WPL.q (q_mv (v := .ptr _ _) rfl) rfl ?_
  refine WPL.q (q_mv (v := .ptr _ _) rfl) rfl ?_
  refine WPL.q (q_nilCheck rfl) rfl ?_
  refine WPL.q (q_fieldAddr fi105_0 rfl rfl) rfl ?_
  refine WPL.q (q_load sc22 rfl rfl rfl) rfl ?_
  refine WPL.q (q_mv (v := .ro _ _ _) rfl) rfl ?_
  obtain ⟨h3609, H⟩ := grd H
  refine WPL.d (d_append ap22 rfl rfl rfl rfl (src_ro sl22 rfl) h3609 rfl) rfl ?_
  refine WPL.q (q_nilCheck rfl) rfl ?_
  refine WPL.q (q_fieldAddr fi105_0 rfl rfl) rfl ?_
  refine WPL.s (s_store sz22 rfl rfl rfl rfl rfl) ?_
  refine WPL.nilW ?_
  refine W.now ?_
  refine Then.n ?_
  refine WP.region ?_
  refine WPL.q (q_mv (v := .ptr _ _) rfl) rfl ?_
  refine WPL.q (q_mv (v := .ptr _ _) rfl) rfl ?_
  refine WPL.q (q_nilCheck rfl) rfl ?_
  refine WPL.q (q_fieldAddr fi105_0 rfl rfl) rfl ?_
  refine WPL.q (q_load sc22 rfl rfl rfl) rfl ?_
  refine WPL.q (q_len_row sl22 rfl rfl) rfl ?_
  obtain ⟨x3611, h3611, H⟩ := bnd H
  refine WPL.q (q_nm (q_mul rfl rfl) (nm_int h3611)) rfl ?_
  refine WPL.q (q_nilCheck rfl) rfl ?_
  refine WPL.q (q_fieldAddr fi105_1 rfl rfl) rfl ?_
  refine WPL.s (s_store sz3 rfl rfl rfl rfl rfl) ?_
  refine WPL.nilW ?_
  refine W.now ?_
  have q0 := (Option.some.inj H)
  subst q0
  exact ⟨trivial, _, rfl, [0, 2], (.tup []), ((Mem.nil.push (.cells 105 [.whole 1, .lit (.int .i64 x3611)])).push (.row 5 (Rd.int .u8) (x3605 ++ x3603))), ⟨rfl, ⟨⟨trivial, .inr ⟨rfl, rfl, rfl⟩⟩, .inr ⟨rfl, rfl, rfl⟩⟩, by decide, rfl, ⟨trivial, rfl⟩⟩, rfl, rfl, rfl, rfl⟩
end Go.Proofs.Ytbknkbenbccabaa.W
