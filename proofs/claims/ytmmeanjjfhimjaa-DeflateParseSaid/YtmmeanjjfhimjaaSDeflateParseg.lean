/- Texts joined: part 7 of what LDeflateParse stands on. -/
import Derived.Test.YtmmeanjjfhimjaaSDeflateParsef
namespace Go.Proofs.Ytmmeanjjfhimjaa.W
open Go Go.Q Go.Proofs
set_option linter.unusedVariables false
set_option linter.unusedSimpArgs false
set_option maxRecDepth 100000 in
set_option maxHeartbeats 4000000 in
theorem s_slices_AppendSeq_deflate_Item_deflate_Item__b (k : Nat) (x11114 : (List Int)) (x12842 : (List S_deflate_Item)) (H : g_slices_AppendSeq_deflate_Item_deflate_Item k x11114 = some x12842) : Go.Q.Spec Try.prog 49 1 [.lit (.slice none 0 0), .fn 50 [.ptr 0 0]] (Mem.nil.push (.cells 22 [.ro (Rd.slice (Rd.int .u8)) false x11114])) (fun o M => o = .ret (.whole 1) ∧ M = ((Mem.nil.push (.cells 22 [.ro (Rd.slice (Rd.int .u8)) false x11114])).push (.row 36 rdS_deflate_Item x12842))) := by
 unfold g_slices_AppendSeq_deflate_Item_deflate_Item at H
 refine Go.Q.Spec.of_bodyR (az := []) (rs := [.tmp 4]) (nt := 13) Try.func49 rfl rfl (by intro t T h; simp at h) rfl rfl fun cx hnp => ?_
 refine WP.seq ?_
 refine WP.region ?_
 refine WPL.d (d_box rfl rfl) rfl ?_
 refine WPL.q (q_as (v := .lit _) rfl) rfl ?_
 refine WPL.nilW ?_
 refine W.now ?_
 refine Then.n ?_
 refine WP.seq ?_
 refine WP.seq ?_
 refine WP.region ?_
 refine WPL.q (q_mv (v := .fn _ _) rfl) rfl ?_
 refine WPL.nilW ?_
 refine W.now ?_
 refine Then.n ?_
 refine WP.block ?_
 refine WP.cv (Cv.nullMark (N := 2) rfl rfl) ?_
 refine WP.range (nti := 45) (n := 3) rfl rfl Try.func50 rfl (by kernel_rfl) rfl rfl rfl rfl fun l_12842 r_12842 aC12842 hp12842 ha12842 hb12842 ht12842 hs12842 hf12842 => ?_
 refine WP.seq ?_
 obtain ⟨_, H12851, H⟩ := bnd H
 refine WP.monoW (Q := fun x E M => x = .normal ∧ E = ((((⟨fun _ => .any, [], [⟨aC12842, (((Env.none.upd 2 (.ptr 4 0)).upd 6 (.fn 50 [.ptr 0 0]))).v, [5, 6], some (7, l_12842)⟩], []⟩ : Env).upd 0 (.lit (.func (.yield l_12842) #[] #[]))).upd 1 (.ptr 0 0)).upd 3 (.ptr 1 0)) ∧ M = ((((((((Mem.nil.push (.cells 22 [.ro (Rd.slice (Rd.int .u8)) false x11114])).push (.cells 97 [.ro (Rd.slice (Rd.int .u8)) false x11114, .mp 2, .whole 3, .lit (.int .i64 0)])).push (.obj (mapO fk3 (Value.int .i64) ([] : List ((Int × Int × Int) × Int))))).push (.row 3 (Rd.int .i64) (List.replicate (Int.toNat ((List.length x11114 : Nat) : Int)) (0 : Int)))).push (.cells 32 [.lit (.slice none 0 0)])).push (.obj (Obj.deferred (some [])))).push (.bag)).push (.obj (lp r_12842 .ready none)))) ?_ ?_
 · clear H
   have H := H12851
   clear H12851
   refine WP.regionD' 8 [0] [] mixed rfl ?_
   refine WPD.take 0 rfl (by kernel_rfl) (q_load sc22 rfl rfl rfl) rfl rfl ?_
   refine WPD.take 2 rfl (by kernel_rfl) (q_load sc22 rfl rfl rfl) rfl rfl ?_
   refine WPD.takeT 3 rfl (by kernel_rfl) (q_len_ro sl22 rfl) rfl ?_
   refine WPD.of2 1 4 (by kernel_rfl) ?_ ?_
   · refine WPD1.eff 1 [0] [] rfl (Does.runs (d_makeMap (N := 5) fk3 (Value.int .i64) rfl)) rfl rfl ?_
     obtain ⟨h12849, H⟩ := grd H
     refine WPD.eff 4 [0] [] rfl (by kernel_rfl) (Does.runs (d_make (d := (0 : Int)) (R := (Rd.int .i64)) li66 by3 rfl rfl rfl Joins.sc rfl rfl h12849 rfl)) rfl rfl ?_
     refine WPD.takeT 5 rfl (by kernel_rfl) (q_build bu97 rfl) rfl ?_
     refine WPD.eff 6 [0] [] rfl (by kernel_rfl) (Does.runs (d_box rfl rfl)) rfl rfl ?_
     refine WPD.takeT 7 rfl (by kernel_rfl) (q_as (v := .ptr _ _) rfl) rfl ?_
     refine WPD.doneW (by kernel_rfl) ?_
     exact W.wk [0, 7, 5, 6, 1, 3, 2, 4] hnp ⟨rfl, rfl, rfl⟩ ⟨rfl, ⟨⟨⟨⟨⟨⟨⟨⟨trivial, .inr ⟨rfl, rfl, rfl⟩⟩, .inr ⟨rfl, rfl, rfl⟩⟩, .inr ⟨rfl, rfl, rfl⟩⟩, .inr ⟨rfl, rfl, rfl⟩⟩, .inr ⟨rfl, rfl, rfl⟩⟩, .inr ⟨rfl, rfl, rfl⟩⟩, .inr ⟨rfl, rfl, rfl⟩⟩, .inr ⟨rfl, rfl, rfl⟩⟩, by decide, rfl, ⟨trivial, rfl⟩⟩ (LeE.upd rfl rfl (LeE.upd rfl rfl (LeE.upd rfl rfl (LeE.noneD rfl rfl (.cons ⟨rfl, (LeV.upd rfl rfl (LeV.upd rfl rfl LeV.none)), rfl, rfl, rfl, rfl⟩ .nil))))) rfl
   obtain ⟨h12850, H⟩ := grd H
   refine WPD1.eff 4 [0] [] rfl (Does.runs (d_make (d := (0 : Int)) (R := (Rd.int .i64)) li66 by3 rfl rfl rfl Joins.sc rfl rfl h12850 rfl)) rfl rfl ?_
   refine WPD.eff 1 [0] [] rfl (by kernel_rfl) (Does.runs (d_makeMap (N := 6) fk3 (Value.int .i64) rfl)) rfl rfl ?_
   refine WPD.takeT 5 rfl (by kernel_rfl) (q_build bu97 rfl) rfl ?_
   refine WPD.eff 6 [0] [] rfl (by kernel_rfl) (Does.runs (d_box rfl rfl)) rfl rfl ?_
   refine WPD.takeT 7 rfl (by kernel_rfl) (q_as (v := .ptr _ _) rfl) rfl ?_
   refine WPD.doneW (by kernel_rfl) ?_
   exact W.wk [0, 7, 6, 5, 1, 3, 2, 4] hnp ⟨rfl, rfl, rfl⟩ ⟨rfl, ⟨⟨⟨⟨⟨⟨⟨⟨trivial, .inr ⟨rfl, rfl, rfl⟩⟩, .inr ⟨rfl, rfl, rfl⟩⟩, .inr ⟨rfl, rfl, rfl⟩⟩, .inr ⟨rfl, rfl, rfl⟩⟩, .inr ⟨rfl, rfl, rfl⟩⟩, .inr ⟨rfl, rfl, rfl⟩⟩, .inr ⟨rfl, rfl, rfl⟩⟩, .inr ⟨rfl, rfl, rfl⟩⟩, by decide, rfl, ⟨trivial, rfl⟩⟩ (LeE.upd rfl rfl (LeE.upd rfl rfl (LeE.upd rfl rfl (LeE.noneD rfl rfl (.cons ⟨rfl, (LeV.upd rfl rfl (LeV.upd rfl rfl LeV.none)), rfl, rfl, rfl, rfl⟩ .nil))))) rfl
 rintro _ _ _ ⟨rfl, rfl, rfl⟩
 refine W.now ?_
 refine Then.n ?_
 refine WP.seq ?_
 refine WP.region ?_
 refine WPL.q (q_as (v := .lit (.int _ _)) rfl) rfl ?_
 refine WPL.nilW ?_
 refine W.now ?_
 refine Then.n ?_
 refine WP.block ?_
 refine WP.cv (Cv.virC 36 rdS_deflate_Item (N := 8) rfl rfl (i := 4) (off := 0) rfl rfl) ?_
 refine WP.cv (Cv.weak (E' := (((((⟨fun _ => .any, [], [⟨aC12842, (((Env.none.upd 2 (.ptr 4 0)).upd 6 (.fn 50 [.ptr 0 0]))).v, [6, 7], some (8, l_12842)⟩], []⟩ : Env).upd 0 (.lit (.func (.yield l_12842) #[] #[]))).upd 1 (.ptr 0 0)).upd 3 (.ptr 1 0)).upd 4 (.lit (.int .i64 0)))) (M' := (((((((((Mem.nil.push (.cells 22 [.ro (Rd.slice (Rd.int .u8)) false x11114])).push (.cells 97 [.ro (Rd.slice (Rd.int .u8)) false x11114, .mp 2, .whole 3, .lit (.int .i64 0)])).push (.obj (mapO fk3 (Value.int .i64) ([] : List ((Int × Int × Int) × Int))))).push (.row 3 (Rd.int .i64) (List.replicate (Int.toNat ((List.length x11114 : Nat) : Int)) (0 : Int)))).push (.cells 32 [.whole 5])).push (.row 36 rdS_deflate_Item ([] : List S_deflate_Item))).push (.obj (Obj.deferred (some [])))).push (.bag)).push (.obj (lp r_12842 .ready none)))) [0, 1, 2, 3, 4, 8, 5, 6, 7] hnp ⟨rfl, ⟨⟨⟨⟨⟨⟨⟨⟨⟨trivial, .inr ⟨rfl, rfl, rfl⟩⟩, .inr ⟨rfl, rfl, rfl⟩⟩, .inr ⟨rfl, rfl, rfl⟩⟩, .inr ⟨rfl, rfl, rfl⟩⟩, .inr ⟨rfl, rfl, rfl⟩⟩, .inr ⟨rfl, rfl, rfl⟩⟩, .inr ⟨rfl, rfl, rfl⟩⟩, .inr ⟨rfl, rfl, rfl⟩⟩, .inr ⟨rfl, rfl, rfl⟩⟩, by decide, rfl, ⟨trivial, rfl⟩⟩ (LeE.upd rfl rfl (LeE.upd rfl rfl (LeE.upd rfl rfl (LeE.upd rfl rfl (LeE.noneD rfl rfl (.cons ⟨rfl, (LeV.upd rfl rfl (LeV.upd rfl rfl LeV.none)), rfl, rfl, rfl, rfl⟩ .nil))))))) ?_
 obtain ⟨x12951, H12982, H⟩ := bnd H
 refine WP.monoW (Q := fun x E M => x = .exit 0 ∧ E = (⟨fun _ => .any, [], [⟨aC12842, (((Env.none.upd 2 (.ptr 1 0)).upd 6 (.fn 50 [.ptr 0 0]))).v, [3, 4], some (5, l_12842)⟩], []⟩ : Env) ∧ M = ((((((Mem.nil.push (.cells 22 [.ro (Rd.slice (Rd.int .u8)) false x11114])).push (.cells 32 [.whole 2])).push (.row 36 rdS_deflate_Item x12951)).push (.obj (Obj.deferred (some [])))).push (.bag)).push (.obj (lp r_12842 .ready none)))) ?_ ?_
 · refine WP.loop (β := Int × Int × (List ((Int × Int × Int) × Int)) × (List Int) × (List S_deflate_Item)) (fun n b => g_slices_AppendSeq_deflate_Item_deflate_Item_l0 k x11114 n b.1 b.2.1 b.2.2.1 b.2.2.2.1 b.2.2.2.2 = some x12951) (fun b => (((((⟨fun _ => .any, [], [⟨aC12842, (((Env.none.upd 2 (.ptr 4 0)).upd 6 (.fn 50 [.ptr 0 0]))).v, [6, 7], some (8, l_12842)⟩], []⟩ : Env).upd 0 (.lit (.func (.yield l_12842) #[] #[]))).upd 1 (.ptr 0 0)).upd 3 (.ptr 1 0)).upd 4 (.lit (.int .i64 b.1)))) (fun b => (((((((((Mem.nil.push (.cells 22 [.ro (Rd.slice (Rd.int .u8)) false x11114])).push (.cells 97 [.ro (Rd.slice (Rd.int .u8)) false x11114, .mp 2, .whole 3, .lit (.int .i64 b.2.1)])).push (.obj (mapO fk3 (Value.int .i64) b.2.2.1))).push (.row 3 (Rd.int .i64) b.2.2.2.1)).push (.cells 32 [.whole 5])).push (.row 36 rdS_deflate_Item b.2.2.2.2)).push (.obj (Obj.deferred (some [])))).push (.bag)).push (.obj (lp r_12842 .ready none)))) k (0, 0, ([] : List ((Int × Int × Int) × Int)), (List.replicate (Int.toNat ((List.length x11114 : Nat) : Int)) (0 : Int)), ([] : List S_deflate_Item)) H12982 rfl rfl ?_
   rintro n ⟨x12915, x12916, x12917, x12918, x12919⟩ H
   obtain _ | n := n
   · exact nf rfl H
   rw [g_slices_AppendSeq_deflate_Item_deflate_Item_l0.eq_2] at H
   show WP _ _ _ _ (((((⟨fun _ => .any, [], [⟨aC12842, (((Env.none.upd 2 (.ptr 4 0)).upd 6 (.fn 50 [.ptr 0 0]))).v, [6, 7], some (8, l_12842)⟩], []⟩ : Env).upd 0 (.lit (.func (.yield l_12842) #[] #[]))).upd 1 (.ptr 0 0)).upd 3 (.ptr 1 0)).upd 4 (.lit (.int .i64 x12915))) (((((((((Mem.nil.push (.cells 22 [.ro (Rd.slice (Rd.int .u8)) false x11114])).push (.cells 97 [.ro (Rd.slice (Rd.int .u8)) false x11114, .mp 2, .whole 3, .lit (.int .i64 x12916)])).push (.obj (mapO fk3 (Value.int .i64) x12917))).push (.row 3 (Rd.int .i64) x12918)).push (.cells 32 [.whole 5])).push (.row 36 rdS_deflate_Item x12919)).push (.obj (Obj.deferred (some [])))).push (.bag)).push (.obj (lp r_12842 .ready none))) _
   refine WP.seq ?_
   refine WP.seq ?_
   refine WP.region ?_
   refine WPL.q (q_mv (v := .lit (.int _ _)) rfl) rfl ?_
   refine WPL.q (q_load sc22 rfl rfl rfl) rfl ?_
   refine WPL.q (q_len_ro sl22 rfl) rfl ?_
   obtain ⟨x12954, h12954, H⟩ := bnd H
   refine WPL.q (q_nm (q_lss rfl rfl) (nm_bool h12954)) rfl ?_
   refine WPL.nilW ?_
   refine W.now ?_
   refine Then.n ?_
   refine WP.cond (t := x12954) rfl (fun hb12954 => ?_) (fun hb12954 => ?_)
   · replace H := cnt hb12954 H
     refine WP.skipW ?_
     refine W.now ?_
     refine Then.n ?_
     refine WP.block ?_
     refine WP.seq ?_
     refine WP.region ?_
     refine WPL.q (q_load sc22 rfl rfl rfl) rfl ?_
     refine WPL.q (q_mv (v := .lit (.int _ _)) rfl) rfl ?_
     obtain ⟨x12956, h12956, H⟩ := bnd H
     refine WPL.q (q_index_ro sl22 rfl rfl rfl h12956) rfl ?_
     refine WPL.q (q_load_sc sc5 rfl) rfl ?_
     refine WPL.q (q_conv Try.underlying5 Try.underlying3 rfl) rfl ?_
     refine WPL.q (q_build bu36 rfl) rfl ?_
     refine WPL.d (d_alloc ze36 rfl) rfl ?_
     refine WPL.s (s_store sz36 rfl rfl rfl rfl rfl) ?_
     refine WPL.nilW ?_
     refine W.now ?_
     refine Then.n ?_
     refine WP.seq ?_
     refine WP.region ?_
     refine WPL.q (q_as (v := .lit (.int _ _)) rfl) rfl ?_
     refine WPL.nilW ?_
     refine W.now ?_
     refine Then.n ?_
     refine WP.seq ?_
     obtain ⟨⟨x12964, x12965, x12966, x12967, x12968, x12969, x12970⟩, H12977, H⟩ := bnd H
     refine WP.monoW (Q := fun x E M => x = .normal ∧ E = (((((((⟨fun _ => .any, [], [⟨aC12842, (((Env.none.upd 2 (.ptr 5 0)).upd 6 (.fn 50 [.ptr 0 0]))).v, [7, 8], some (9, l_12842)⟩], []⟩ : Env).upd 0 (.lit (.func (.yield l_12842) #[] #[]))).upd 1 (.ptr 0 0)).upd 3 (.ptr 1 0)).upd 4 (.lit (.int .i64 x12915))).upd 5 (.ptr 4 0)).upd 6 (.lit (.int .i64 x12964))) ∧ M = ((((((((((Mem.nil.push (.cells 22 [.ro (Rd.slice (Rd.int .u8)) false x11114])).push (.cells 97 [.ro (Rd.slice (Rd.int .u8)) false x11114, .mp 2, .whole 3, .lit (.int .i64 x12965)])).push (.obj (mapO fk3 (Value.int .i64) x12966))).push (.row 3 (Rd.int .i64) x12967)).push (.cells 36 [.lit (.int .i64 x12968), .lit (.int .i64 x12969), .lit (.int .i64 x12970)])).push (.cells 32 [.whole 6])).push (.row 36 rdS_deflate_Item x12919)).push (.obj (Obj.deferred (some [])))).push (.bag)).push (.obj (lp r_12842 .ready none)))) ?_ ?_
     · clear H
       have H := H12977
       clear H12977
       refine WP.seq ?_
       refine WP.region ?_
       refine WPL.q (q_mv (v := .ptr _ _) rfl) rfl ?_
       refine WPL.q (q_mv (v := .lit (.int _ _)) rfl) rfl ?_
       obtain ⟨⟨x12972, x12973, x12974, x12975, x12976⟩, h12970, H⟩ := bnd H
       refine WPL.c (runs_call (s := [1, 2, 3]) (t := [1, 2, 10]) (N := 11) (bor := []) fn51 rfl (s_deflate_matcher_longest__b k x12915 x11114 x12916 x12917 x12918 x12972 x12973 x12974 x12975 x12976 h12970) ⟨rfl, ⟨⟨⟨trivial, .inr ⟨rfl, rfl, rfl⟩⟩, .inr ⟨rfl, rfl, rfl⟩⟩, .inr ⟨rfl, rfl, rfl⟩⟩, by decide, rfl, trivial⟩ rfl trivial (.ren rfl rfl (.ren rfl rfl .nil)) rfl ⟨⟨⟨trivial, rfl⟩, rfl⟩, rfl⟩ rfl) rfl ?_
       refine WPL.q (q_mv (v := .tup _) rfl) rfl ?_
       refine WPL.q (q_extract rfl rfl) rfl ?_
       refine WPL.q (q_extract rfl rfl) rfl ?_
       refine WPL.q (q_as (v := .lit (.int _ _)) rfl) rfl ?_
       refine WPL.q (q_as (v := .lit (.int _ _)) rfl) rfl ?_
       refine WPL.nilW ?_
       refine W.now ?_
       refine Then.n ?_
       refine WP.seq ?_
       refine WP.region ?_
       refine WPL.q (q_mv (v := .lit (.int _ _)) rfl) rfl ?_
       refine WPL.q (q_geq rfl rfl) rfl ?_
       refine WPL.nilW ?_
       refine W.now ?_
       refine Then.n ?_
       refine WP.cond (t := (decide (3 ≤ x12972))) rfl (fun hb12976 => ?_) (fun hb12976 => ?_)
       · replace H := cnt hb12976 H
         refine WP.region ?_
         refine WPL.q (q_mv (v := .lit (.int _ _)) rfl) rfl ?_
         refine WPL.q (q_mv (v := .lit (.int _ _)) rfl) rfl ?_
         refine WPL.q (q_build bu36 rfl) rfl ?_
         refine WPL.q (q_mv (v := .lit (.int _ _)) rfl) rfl ?_
         refine WPL.s (s_store sz36 rfl rfl rfl rfl rfl) ?_
         refine WPL.q (q_as (v := .lit (.int _ _)) rfl) rfl ?_
         refine WPL.nilW ?_
         have q0 := (Prod.mk.inj (Option.some.inj H)).1
         have q1 := (Prod.mk.inj (Prod.mk.inj (Option.some.inj H)).2).1
         have q2 := (Prod.mk.inj (Prod.mk.inj (Prod.mk.inj (Option.some.inj H)).2).2).1
         have q3 := (Prod.mk.inj (Prod.mk.inj (Prod.mk.inj (Prod.mk.inj (Option.some.inj H)).2).2).2).1
         have q4 := (Prod.mk.inj (Prod.mk.inj (Prod.mk.inj (Prod.mk.inj (Prod.mk.inj (Option.some.inj H)).2).2).2).2).1
         have q5 := (Prod.mk.inj (Prod.mk.inj (Prod.mk.inj (Prod.mk.inj (Prod.mk.inj (Prod.mk.inj (Option.some.inj H)).2).2).2).2).2).1
         have q6 := (Prod.mk.inj (Prod.mk.inj (Prod.mk.inj (Prod.mk.inj (Prod.mk.inj (Prod.mk.inj (Option.some.inj H)).2).2).2).2).2).2
         subst q0
         subst q1
         subst q2
         subst q3
         subst q4
         subst q5
         subst q6
         exact W.wk [0, 1, 2, 10, 9, 4, 5, 6, 7, 8] hnp ⟨rfl, rfl, rfl⟩ ⟨rfl, ⟨⟨⟨⟨⟨⟨⟨⟨⟨⟨trivial, .inr ⟨rfl, rfl, rfl⟩⟩, .inr ⟨rfl, rfl, rfl⟩⟩, .inr ⟨rfl, rfl, rfl⟩⟩, .inr ⟨rfl, rfl, rfl⟩⟩, .inr ⟨rfl, rfl, rfl⟩⟩, .inr ⟨rfl, rfl, rfl⟩⟩, .inr ⟨rfl, rfl, rfl⟩⟩, .inr ⟨rfl, rfl, rfl⟩⟩, .inr ⟨rfl, rfl, rfl⟩⟩, .inr ⟨rfl, rfl, rfl⟩⟩, by decide, rfl, ⟨trivial, rfl⟩⟩ (LeE.upd rfl rfl (LeE.upd rfl rfl (LeE.upd rfl rfl (LeE.upd rfl rfl (LeE.upd rfl rfl (LeE.upd rfl rfl (LeE.noneD rfl rfl (.cons ⟨rfl, (LeV.upd rfl rfl (LeV.upd rfl rfl LeV.none)), rfl, rfl, rfl, rfl⟩ .nil)))))))) rfl
       replace H := cnf hb12976 H
       refine WP.skipW ?_
       have q0 := (Prod.mk.inj (Option.some.inj H)).1
       have q1 := (Prod.mk.inj (Prod.mk.inj (Option.some.inj H)).2).1
       have q2 := (Prod.mk.inj (Prod.mk.inj (Prod.mk.inj (Option.some.inj H)).2).2).1
       have q3 := (Prod.mk.inj (Prod.mk.inj (Prod.mk.inj (Prod.mk.inj (Option.some.inj H)).2).2).2).1
       have q4 := (Prod.mk.inj (Prod.mk.inj (Prod.mk.inj (Prod.mk.inj (Prod.mk.inj (Option.some.inj H)).2).2).2).2).1
       have q5 := (Prod.mk.inj (Prod.mk.inj (Prod.mk.inj (Prod.mk.inj (Prod.mk.inj (Prod.mk.inj (Option.some.inj H)).2).2).2).2).2).1
       have q6 := (Prod.mk.inj (Prod.mk.inj (Prod.mk.inj (Prod.mk.inj (Prod.mk.inj (Prod.mk.inj (Option.some.inj H)).2).2).2).2).2).2
       subst q0
       subst q1
       subst q2
       subst q3
       subst q4
       subst q5
       subst q6
       exact W.wk [0, 1, 2, 10, 9, 4, 5, 6, 7, 8] hnp ⟨rfl, rfl, rfl⟩ ⟨rfl, ⟨⟨⟨⟨⟨⟨⟨⟨⟨⟨trivial, .inr ⟨rfl, rfl, rfl⟩⟩, .inr ⟨rfl, rfl, rfl⟩⟩, .inr ⟨rfl, rfl, rfl⟩⟩, .inr ⟨rfl, rfl, rfl⟩⟩, .inr ⟨rfl, rfl, rfl⟩⟩, .inr ⟨rfl, rfl, rfl⟩⟩, .inr ⟨rfl, rfl, rfl⟩⟩, .inr ⟨rfl, rfl, rfl⟩⟩, .inr ⟨rfl, rfl, rfl⟩⟩, .inr ⟨rfl, rfl, rfl⟩⟩, by decide, rfl, ⟨trivial, rfl⟩⟩ (LeE.upd rfl rfl (LeE.upd rfl rfl (LeE.upd rfl rfl (LeE.upd rfl rfl (LeE.upd rfl rfl (LeE.upd rfl rfl (LeE.noneD rfl rfl (.cons ⟨rfl, (LeV.upd rfl rfl (LeV.upd rfl rfl LeV.none)), rfl, rfl, rfl, rfl⟩ .nil)))))))) rfl
     rintro _ _ _ ⟨rfl, rfl, rfl⟩
     refine W.now ?_
     refine Then.n ?_
     refine WP.seq ?_
     refine WP.seq ?_
     refine WP.region ?_
     refine WPL.q (q_mv (v := .lit _) rfl) rfl ?_
     refine WPL.q (q_load_ag ag36 rfl rfl (Nat.le_of_ble_eq_true rfl)) rfl ?_
     refine WPL.y rfl rfl rfl rfl hp12842 ha12842 hb12842 ht12842 hs12842 hf12842 rfl rfl rfl fun aI12980 => ?_
     refine WP.region ?_
     refine WPL.d (d_alloc ze36 rfl) rfl ?_
     refine WPL.s (s_store sz36 rfl rfl rfl rfl rfl) ?_
     refine WPL.nilW ?_
     refine W.now ?_
     refine ⟨rfl, rfl, _, _, _, _, _, _, rfl, rfl, ?_⟩
     refine WP.block ?_
     refine WP.region ?_
     refine WPL.q (q_load sc32 rfl rfl rfl) rfl ?_
     refine WPL.q (q_load_ag ag36 rfl rfl (Nat.le_of_ble_eq_true rfl)) rfl ?_
     refine WPL.d (d_buildSlice (ds := ([(⟨x12968, x12969, x12970⟩ : S_deflate_Item)] : List S_deflate_Item)) (R := rdS_deflate_Item) li32 rfl rfl rfl rfl rfl (JoinRows.cons (l := [.lit (.int .i64 x12968), .lit (.int .i64 x12969), .lit (.int .i64 x12970)]) (Joins.via (Joins.cons Joins.sc (Joins.cons Joins.sc (Joins.cons Joins.sc Joins.unit)))) rfl JoinRows.nil) rfl rfl) rfl ?_
     obtain ⟨h12981, H⟩ := grd H
     refine WPL.d (d_append ap32 rfl rfl rfl rfl (src_row sl32 rfl rfl) h12981 rfl) rfl ?_
     refine WPL.s (s_store sz32 rfl rfl rfl rfl rfl) ?_
     refine WPL.nilW ?_
     refine W.now ?_
     refine InBlock.n ?_
     refine ⟨rfl, _, _, _, _, _, _, rfl, rfl, _, rfl, ?_⟩
     refine WPL.q (q_not rfl) rfl ?_
     refine WPL.nilW ?_
     refine W.now ?_
     refine Then.n ?_
     refine WP.condFB (t := (!true)) rfl rfl ?_
     refine WP.skipW ?_
     refine W.now ?_
     refine Then.n ?_
     refine WP.region ?_
     refine WPL.q (q_mv (v := .lit (.int _ _)) rfl) rfl ?_
     refine WPL.q (q_mv (v := .lit (.int _ _)) rfl) rfl ?_
     refine WPL.q (q_add rfl rfl) rfl ?_
     refine WPL.q (q_as (v := .lit (.int _ _)) rfl) rfl ?_
     refine WPL.nilW ?_
     exact W.wk [0, 1, 2, 3, 5, 12, 7, 8, 9] hnp (InBlock.n (Then.n ⟨n, ((IntKind.wrap .i64 (x12915 + x12964)), x12965, x12966, x12967, (x12919 ++ ([(⟨x12968, x12969, x12970⟩ : S_deflate_Item)] : List S_deflate_Item))), Nat.lt_succ_self n, H, rfl, rfl⟩)) ⟨rfl, ⟨⟨⟨⟨⟨⟨⟨⟨⟨trivial, .inr ⟨rfl, rfl, rfl⟩⟩, .inr ⟨rfl, rfl, rfl⟩⟩, .inr ⟨rfl, rfl, rfl⟩⟩, .inr ⟨rfl, rfl, rfl⟩⟩, .inr ⟨rfl, rfl, rfl⟩⟩, .inr ⟨rfl, rfl, rfl⟩⟩, .inr ⟨rfl, rfl, rfl⟩⟩, .inr ⟨rfl, rfl, rfl⟩⟩, .inr ⟨rfl, rfl, rfl⟩⟩, by decide, rfl, ⟨trivial, rfl⟩⟩ (LeE.upd rfl rfl (LeE.upd rfl rfl (LeE.upd rfl rfl (LeE.upd rfl rfl (LeE.noneD rfl rfl (.cons ⟨rfl, (LeV.upd rfl rfl (LeV.upd rfl rfl LeV.none)), rfl, rfl, rfl, rfl⟩ .nil)))))) rfl
   replace H := cnf hb12954 H
   refine WP.exitW ?_
   have q0 := (Option.some.inj H)
   subst q0
   exact W.wk [0, 4, 5, 6, 7, 8] hnp (Then.x (Then.x ⟨rfl, rfl, rfl⟩)) ⟨rfl, ⟨⟨⟨⟨⟨⟨trivial, .inr ⟨rfl, rfl, rfl⟩⟩, .inr ⟨rfl, rfl, rfl⟩⟩, .inr ⟨rfl, rfl, rfl⟩⟩, .inr ⟨rfl, rfl, rfl⟩⟩, .inr ⟨rfl, rfl, rfl⟩⟩, .inr ⟨rfl, rfl, rfl⟩⟩, by decide, rfl, ⟨trivial, rfl⟩⟩ (LeE.noneD rfl rfl (.cons ⟨rfl, (LeV.upd rfl rfl (LeV.upd rfl rfl LeV.none)), rfl, rfl, rfl, rfl⟩ .nil)) rfl
 rintro _ _ _ ⟨rfl, rfl, rfl⟩
 refine W.now ?_
 refine InBlock.x0 ?_
 refine ⟨trivial, _, _, _, _, rfl, _, _, rfl, (fun h => by cases h), ?_⟩
 refine W.cv (Cv.absorb (N := 6) (j := 3) (i := 4) rfl rfl rfl rfl) rfl ?_
 refine W.now ?_
 refine InBlock.n ?_
 refine Then.n ?_
 refine WP.seq ?_
 refine WP.region ?_
 refine WPL.q (q_load sc32 rfl rfl rfl) rfl ?_
 refine WPL.q (q_as (v := .whole _) rfl) rfl ?_
 refine WPL.nilW ?_
 refine W.now ?_
 refine Then.n ?_
 refine WP.retW ?_
 have q0 := (Option.some.inj H)
 subst q0
 exact W.now (BodyR.mkR ⟨.inr rfl, trivial⟩ rfl [0, 2] ⟨rfl, rfl⟩ ⟨rfl, ⟨⟨trivial, .inr ⟨rfl, rfl, rfl⟩⟩, .inr ⟨rfl, rfl, rfl⟩⟩, by decide, rfl, ⟨trivial, rfl⟩⟩ rfl rfl)
set_option maxRecDepth 100000 in
set_option maxHeartbeats 4000000 in
theorem s_slices_Collect_deflate_Item__b (k : Nat) (x11112 : (List Int)) (x12986 : (List S_deflate_Item)) (H : g_slices_Collect_deflate_Item k x11112 = some x12986) : Go.Q.Spec Try.prog 21 1 [.fn 50 [.ptr 0 0]] (Mem.nil.push (.cells 22 [.ro (Rd.slice (Rd.int .u8)) false x11112])) (fun o M => o = .ret (.ro (Rd.slice rdS_deflate_Item) false x12986) ∧ M = (Mem.nil.push (.cells 22 [.ro (Rd.slice (Rd.int .u8)) false x11112]))) := by
 unfold g_slices_Collect_deflate_Item at H
 refine Go.Q.Spec.of_bodyR (az := []) (rs := [.tmp 2]) (nt := 5) Try.func21 rfl rfl (by intro t T h; simp at h) rfl rfl fun cx hnp => ?_
 refine WP.seq ?_
 refine WP.region ?_
 refine WPL.q (q_as (v := .lit _) rfl) rfl ?_
 refine WPL.nilW ?_
 refine W.now ?_
 refine Then.n ?_
 refine WP.seq ?_
 refine WP.region ?_
 refine WPL.q (q_mv (v := .fn _ _) rfl) rfl ?_
 obtain ⟨x12988, h12986, H⟩ := bnd H
 refine WPL.c (runs_call (s := [0]) (t := [0, 1]) (N := 2) (bor := []) fn49 rfl (s_slices_AppendSeq_deflate_Item_deflate_Item__b k x11112 x12988 h12986) ⟨rfl, ⟨trivial, .inr ⟨rfl, rfl, rfl⟩⟩, by decide, rfl, trivial⟩ rfl trivial (.ren rfl rfl (.ren rfl rfl .nil)) rfl ⟨⟨trivial, rfl⟩, rfl⟩ rfl) rfl ?_
 refine WPL.q (q_as (v := .whole _) rfl) rfl ?_
 refine WPL.nilW ?_
 refine W.now ?_
 refine Then.n ?_
 refine WP.retW ?_
 refine W.cv (Cv.frzRow (i := 1) rfl rfl hnp rfl rfl) rfl ?_
 have q0 := (Option.some.inj H)
 subst q0
 exact W.now (BodyR.mkR trivial rfl [0] ⟨rfl, rfl⟩ ⟨rfl, ⟨trivial, .inr ⟨rfl, rfl, rfl⟩⟩, by decide, rfl, ⟨trivial, rfl⟩⟩ rfl rfl)
set_option maxRecDepth 100000 in
set_option maxHeartbeats 4000000 in
theorem s_deflate_Parse__b (k : Nat) (x11107 : (List Int)) (x12991 : (List S_deflate_Item)) (H : g_deflate_Parse k x11107 = some x12991) : Go.Q.Spec Try.prog 13 0 [.ro (Rd.slice (Rd.int .u8)) false x11107] Mem.nil (fun o M => o = .ret (.ro (Rd.slice rdS_deflate_Item) false x12991) ∧ M = Mem.nil) := by
 unfold g_deflate_Parse at H
 refine Go.Q.Spec.of_bodyR (az := []) (rs := [.tmp 2]) (nt := 6) Try.func13 rfl rfl (by intro t T h; simp at h) rfl rfl fun cx hnp => ?_
 refine WP.seq ?_
 refine WP.region ?_
 refine WPL.q (q_as (v := .lit _) rfl) rfl ?_
 refine WPL.nilW ?_
 refine W.now ?_
 refine Then.n ?_
 refine WP.seq ?_
 refine WP.region ?_
 refine WPL.q (q_mv (v := .ro _ _ _) rfl) rfl ?_
 obtain ⟨_, h12991, H⟩ := bnd H
 refine WPL.c (runs_call (s := []) (t := [0]) (N := 1) (bor := []) fn22 rfl (s_deflate_items__b k x11107 h12991) ⟨rfl, trivial, by decide, rfl, trivial⟩ rfl trivial (.ren rfl rfl .nil) rfl ⟨trivial, rfl⟩ rfl) rfl ?_
 obtain ⟨x12994, h12992, H⟩ := bnd H
 refine WPL.c (runs_call (s := [0]) (t := [0]) (N := 1) (bor := []) fn21 rfl (s_slices_Collect_deflate_Item__b k x11107 x12994 h12992) ⟨rfl, ⟨trivial, .inr ⟨rfl, rfl, rfl⟩⟩, by decide, rfl, trivial⟩ rfl trivial (.ren rfl rfl .nil) rfl ⟨trivial, rfl⟩ rfl) rfl ?_
 refine WPL.q (q_as (v := .ro _ _ _) rfl) rfl ?_
 refine WPL.nilW ?_
 refine W.now ?_
 refine Then.n ?_
 refine WP.retW ?_
 have q0 := (Option.some.inj H)
 subst q0
 exact W.now (BodyR.mkR trivial rfl [] ⟨rfl, rfl⟩ ⟨rfl, trivial, by decide, rfl, trivial⟩ rfl rfl)
set_option maxRecDepth 100000 in
set_option maxHeartbeats 4000000 in
theorem s_quireref04_Unparse (k : Nat) (x13037 : (List S_quireref04_Item)) (x13625 : (List Int)) (x13626 : Bool) (H : g_quireref04_Unparse k x13037 = some (x13625, x13626)) : Go.Q.Spec Try.prog 14 0 [.ro (Rd.slice rdS_quireref04_Item) true x13037] Mem.nil (fun o M => o = .ret (.tup [.ro (Rd.slice (Rd.int .u8)) false x13625, .lit (.bool x13626)]) ∧ M = Mem.nil) := by
 unfold g_quireref04_Unparse at H
 refine Go.Q.Spec.of_bodyR (az := []) (rs := [.tmp 2, .tmp 3]) (nt := 101) Try.func14 rfl rfl (by intro t T h; simp at h) rfl rfl fun cx hnp => ?_
 refine WP.seq ?_
 refine WP.region ?_
 refine WPL.q (q_as (v := .lit _) rfl) rfl ?_
 refine WPL.q (q_as (v := .lit (.bool _)) rfl) rfl ?_
 refine WPL.nilW ?_
 refine W.now ?_
 refine Then.n ?_
 refine WP.seq ?_
 refine WP.region ?_
 refine WPL.q (q_as (v := .lit _) rfl) rfl ?_
 refine WPL.nilW ?_
 refine W.now ?_
 refine Then.n ?_
 refine WP.seq ?_
 refine WP.seq ?_
 refine WP.region ?_
 refine WPL.q (q_as (v := .lit (.int _ _)) rfl) rfl ?_
 refine WPL.nilW ?_
 refine W.now ?_
 refine Then.n ?_
 refine WP.block ?_
 refine WP.cv (Cv.vir 5 (Rd.int .u8) (N := 0) rfl 4 rfl) ?_
 refine WP.cv (Cv.weak (E' := (((Env.none.upd 0 (.ro (Rd.slice rdS_quireref04_Item) true x13037)).upd 4 (.whole 0)).upd 5 (.lit (.int .i64 0)))) (M' := (Mem.nil.push (.row 5 (Rd.int .u8) ([] : List Int)))) [0] hnp ⟨rfl, ⟨trivial, .inr ⟨rfl, rfl, rfl⟩⟩, by decide, rfl, trivial⟩ (LeE.upd rfl rfl (LeE.upd rfl rfl (LeE.upd rfl rfl (LeE.none rfl rfl))))) ?_
 obtain ⟨y14426, H14424, H⟩ := bnd H
 refine WP.monoW (Q := fun x E M => match (generalizing := false) y14426 with | (Sum.inl _) => x = .ret ∧ E = ((Env.none.upd 2 (.lit (.slice none 0 0))).upd 3 (.lit (.bool false))) ∧ M = Mem.nil | (Sum.inr x14210) => x = .exit 0 ∧ E = (Env.none.upd 4 (.whole 0)) ∧ M = (Mem.nil.push (.row 5 (Rd.int .u8) x14210))) ?_ ?_
 · refine WP.loop (β := Int × (List Int)) (fun n b => g_quireref04_Unparse_l0 k x13037 n b.1 b.2 = some y14426) (fun b => (((Env.none.upd 0 (.ro (Rd.slice rdS_quireref04_Item) true x13037)).upd 4 (.whole 0)).upd 5 (.lit (.int .i64 b.1)))) (fun b => (Mem.nil.push (.row 5 (Rd.int .u8) b.2))) k (0, ([] : List Int)) H14424 rfl rfl ?_
   rintro n ⟨x13999, x14000⟩ H
   obtain _ | n := n
   · exact nf rfl H
   rw [g_quireref04_Unparse_l0.eq_2] at H
   show WP _ _ _ _ (((Env.none.upd 0 (.ro (Rd.slice rdS_quireref04_Item) true x13037)).upd 4 (.whole 0)).upd 5 (.lit (.int .i64 x13999))) (Mem.nil.push (.row 5 (Rd.int .u8) x14000)) _
   refine WP.seq ?_
   refine WP.seq ?_
   refine WP.region ?_
   refine WPL.q (q_mv (v := .lit (.int _ _)) rfl) rfl ?_
   refine WPL.q (q_mv (v := .ro _ _ _) rfl) rfl ?_
   refine WPL.q (q_len_ro sl34 rfl) rfl ?_
   obtain ⟨x14213, h14213, H⟩ := bnd H
   refine WPL.q (q_nm (q_lss rfl rfl) (nm_bool h14213)) rfl ?_
   refine WPL.nilW ?_
   refine W.now ?_
   refine Then.n ?_
   refine WP.cond (t := x14213) rfl (fun hb14213 => ?_) (fun hb14213 => ?_)
   · replace H := cnt hb14213 H
     refine WP.skipW ?_
     refine W.now ?_
     refine Then.n ?_
     refine WP.seq ?_
     obtain ⟨y14424, H14422, H⟩ := bnd H
     refine WP.monoW (Q := fun x E M => match (generalizing := false) y14424 with | (Sum.inl _) => x = .ret ∧ E = ((Env.none.upd 2 (.lit (.slice none 0 0))).upd 3 (.lit (.bool false))) ∧ M = Mem.nil | (Sum.inr x14316) => x = .normal ∧ E = (((Env.none.upd 0 (.ro (Rd.slice rdS_quireref04_Item) true x13037)).upd 4 (.whole 0)).upd 5 (.lit (.int .i64 x13999))) ∧ M = (Mem.nil.push (.row 5 (Rd.int .u8) x14316))) ?_ ?_
     · clear H
       have H := H14422
       clear H14422
       refine WP.block ?_
       refine WP.seq ?_
       refine WP.region ?_
       refine WPL.q (q_mv (v := .ro _ _ _) rfl) rfl ?_
       refine WPL.q (q_mv (v := .lit (.int _ _)) rfl) rfl ?_
       obtain ⟨x14317, h14317, H⟩ := bnd H
       refine WPL.q (q_index_ro sl34 rfl rfl rfl h14317) rfl ?_
       refine WPL.q (q_load_roag ag37 rfl rfl S_quireref04_Item.sp) rfl ?_
       refine WPL.d (d_alloc ze37 rfl) rfl ?_
       refine WPL.s (s_store sz37 rfl rfl rfl rfl rfl) ?_
       refine WPL.nilW ?_
       refine W.now ?_
       refine Then.n ?_
       refine WP.seq ?_
       refine WP.seq ?_
       refine WP.region ?_
       refine WPL.q (q_fieldAddr fi37_1 rfl rfl) rfl ?_
       refine WPL.q (q_load sc3 rfl rfl rfl) rfl ?_
       refine WPL.q (q_eql rfl rfl) rfl ?_
       refine WPL.nilW ?_
       refine W.now ?_
       refine Then.n ?_
       refine WP.cond (t := (decide (x14317.fLen = 0))) rfl (fun hb14341 => ?_) (fun hb14341 => ?_)
       · replace H := cnt hb14341 H
         refine WP.seq ?_
         refine WP.seq ?_
         obtain ⟨x14358, H14362, H⟩ := bnd H
         refine WP.monoW (Q := fun x E M => x = .normal ∧ E = (((((Env.none.upd 0 (.ro (Rd.slice rdS_quireref04_Item) true x13037)).upd 4 (.whole 0)).upd 5 (.lit (.int .i64 x13999))).upd 6 (.ptr 1 0)).upd 38 (.lit (.bool x14358))) ∧ M = ((Mem.nil.push (.row 5 (Rd.int .u8) x14000)).push (.cells 37 [.lit (.int .i64 x14317.fByte), .lit (.int .i64 x14317.fLen), .lit (.int .i64 x14317.fDist)]))) ?_ ?_
         · clear H
           have H := H14362
           clear H14362
           refine WP.region ?_
           refine WPL.q (q_fieldAddr fi37_0 rfl rfl) rfl ?_
           refine WPL.q (q_load sc3 rfl rfl rfl) rfl ?_
           refine WPL.q (q_lss rfl rfl) rfl ?_
           refine WPL.q (q_mv (v := .lit (.bool _)) rfl) rfl ?_
           refine WPL.split (t := 24) (b := (decide (x14317.fByte < 0))) rfl (fun hb14358 => ?_) (fun hb14358 => ?_)
           · replace H := cnt hb14358 H
             refine WPL.skipg (b' := true) rfl rfl (lb hb14358) rfl rfl (.inl trivial) ?_
             refine WPL.skipg (b' := true) rfl rfl (lb hb14358) rfl rfl (.inl trivial) ?_
             refine WPL.skipg (b' := true) rfl rfl (lb hb14358) rfl rfl (.inl trivial) ?_
             refine WPL.q (q_pickT (v := .lit (.bool _)) (lb hb14358) rfl) rfl ?_
             refine WPL.q (q_mv (v := .lit (.bool _)) rfl) rfl ?_
             refine WPL.skipg (b' := true) rfl rfl rfl rfl rfl (.inl trivial) ?_
             refine WPL.skipg (b' := true) rfl rfl rfl rfl rfl (.inl trivial) ?_
             refine WPL.skipg (b' := true) rfl rfl rfl rfl rfl (.inl trivial) ?_
             refine WPL.q (q_pickT (v := .lit (.bool _)) rfl rfl) rfl ?_
             refine WPL.q (q_mv (v := .lit (.bool _)) rfl) rfl ?_
             refine WPL.skipg (b' := true) rfl rfl rfl rfl rfl (.inl trivial) ?_
             refine WPL.skipg (b' := true) rfl rfl rfl rfl rfl (.inl trivial) ?_
             refine WPL.skipg (b' := true) rfl rfl rfl rfl rfl (.inl trivial) ?_
             refine WPL.q (q_pickT (v := .lit (.bool _)) rfl rfl) rfl ?_
             refine WPL.nilW ?_
             have q0 := (Option.some.inj H)
             subst q0
             exact W.wk [0, 1] hnp ⟨rfl, rfl, rfl⟩ ⟨rfl, ⟨⟨trivial, .inr ⟨rfl, rfl, rfl⟩⟩, .inr ⟨rfl, rfl, rfl⟩⟩, by decide, rfl, trivial⟩ (LeE.upd rfl rfl (LeE.upd rfl rfl (LeE.upd rfl rfl (LeE.upd rfl rfl (LeE.upd rfl rfl (LeE.none rfl rfl)))))) rfl
           replace H := cnf hb14358 H
           refine WPL.qg rfl rfl (lb hb14358) (q_fieldAddr fi37_0 rfl rfl) rfl ?_
           refine WPL.qg rfl rfl (lb hb14358) (q_load sc3 rfl rfl rfl) rfl ?_
           refine WPL.qg rfl rfl (lb hb14358) (q_gtr rfl rfl) rfl ?_
           refine WPL.q (q_pickF (v := .lit (.bool _)) (lb hb14358) rfl) rfl ?_
           refine WPL.q (q_mv (v := .lit (.bool _)) rfl) rfl ?_
           refine WPL.split (t := 29) (b := (decide (255 < x14317.fByte))) rfl (fun hb14359 => ?_) (fun hb14359 => ?_)
           · replace H := cnt hb14359 H
             refine WPL.skipg (b' := true) rfl rfl (lb hb14359) rfl rfl (.inl trivial) ?_
             refine WPL.skipg (b' := true) rfl rfl (lb hb14359) rfl rfl (.inl trivial) ?_
             refine WPL.skipg (b' := true) rfl rfl (lb hb14359) rfl rfl (.inl trivial) ?_
             refine WPL.q (q_pickT (v := .lit (.bool _)) (lb hb14359) rfl) rfl ?_
             refine WPL.q (q_mv (v := .lit (.bool _)) rfl) rfl ?_
             refine WPL.skipg (b' := true) rfl rfl rfl rfl rfl (.inl trivial) ?_
             refine WPL.skipg (b' := true) rfl rfl rfl rfl rfl (.inl trivial) ?_
             refine WPL.skipg (b' := true) rfl rfl rfl rfl rfl (.inl trivial) ?_
             refine WPL.q (q_pickT (v := .lit (.bool _)) rfl rfl) rfl ?_
             refine WPL.nilW ?_
             have q0 := (Option.some.inj H)
             subst q0
             exact W.wk [0, 1] hnp ⟨rfl, rfl, rfl⟩ ⟨rfl, ⟨⟨trivial, .inr ⟨rfl, rfl, rfl⟩⟩, .inr ⟨rfl, rfl, rfl⟩⟩, by decide, rfl, trivial⟩ (LeE.upd rfl rfl (LeE.upd rfl rfl (LeE.upd rfl rfl (LeE.upd rfl rfl (LeE.upd rfl rfl (LeE.none rfl rfl)))))) rfl
           replace H := cnf hb14359 H
           refine WPL.qg rfl rfl (lb hb14359) (q_fieldAddr fi37_2 rfl rfl) rfl ?_
           refine WPL.qg rfl rfl (lb hb14359) (q_load sc3 rfl rfl rfl) rfl ?_
           refine WPL.qg rfl rfl (lb hb14359) (q_neq rfl rfl) rfl ?_
           refine WPL.q (q_pickF (v := .lit (.bool _)) (lb hb14359) rfl) rfl ?_
           refine WPL.q (q_mv (v := .lit (.bool _)) rfl) rfl ?_
           refine WPL.split (t := 34) (b := (!decide (x14317.fDist = 0))) rfl (fun hb14360 => ?_) (fun hb14360 => ?_)
           · replace H := cnt hb14360 H
             refine WPL.skipg (b' := true) rfl rfl (lb hb14360) rfl rfl (.inl trivial) ?_
             refine WPL.skipg (b' := true) rfl rfl (lb hb14360) rfl rfl (.inl trivial) ?_
             refine WPL.skipg (b' := true) rfl rfl (lb hb14360) rfl rfl (.inl trivial) ?_
             refine WPL.q (q_pickT (v := .lit (.bool _)) (lb hb14360) rfl) rfl ?_
             refine WPL.nilW ?_
             have q0 := (Option.some.inj H)
             subst q0
             exact W.wk [0, 1] hnp ⟨rfl, rfl, rfl⟩ ⟨rfl, ⟨⟨trivial, .inr ⟨rfl, rfl, rfl⟩⟩, .inr ⟨rfl, rfl, rfl⟩⟩, by decide, rfl, trivial⟩ (LeE.upd rfl rfl (LeE.upd rfl rfl (LeE.upd rfl rfl (LeE.upd rfl rfl (LeE.upd rfl rfl (LeE.none rfl rfl)))))) rfl
           replace H := cnf hb14360 H
           refine WPL.qg rfl rfl (lb hb14360) (q_mv (v := .whole _) rfl) rfl ?_
           refine WPL.qg rfl rfl (lb hb14360) (q_len_row sl22 rfl rfl) rfl ?_
           obtain ⟨x14362, h14362, H⟩ := bnd H
           refine WPL.qg rfl rfl (lb hb14360) (q_nm (q_geq rfl rfl) (nm_bool h14362)) rfl ?_
           refine WPL.q (q_pickF (v := .lit (.bool _)) (lb hb14360) rfl) rfl ?_
           refine WPL.nilW ?_
           have q0 := (Option.some.inj H)
           subst q0
           exact W.wk [0, 1] hnp ⟨rfl, rfl, rfl⟩ ⟨rfl, ⟨⟨trivial, .inr ⟨rfl, rfl, rfl⟩⟩, .inr ⟨rfl, rfl, rfl⟩⟩, by decide, rfl, trivial⟩ (LeE.upd rfl rfl (LeE.upd rfl rfl (LeE.upd rfl rfl (LeE.upd rfl rfl (LeE.upd rfl rfl (LeE.none rfl rfl)))))) rfl
         rintro _ _ _ ⟨rfl, rfl, rfl⟩
         refine W.now ?_
         refine Then.n ?_
         refine WP.cond (t := x14358) rfl (fun hb14363 => ?_) (fun hb14363 => ?_)
         · replace H := cnt hb14363 H
           refine WP.seq ?_
           refine WP.region ?_
           refine WPL.q (q_as (v := .lit _) rfl) rfl ?_
           refine WPL.q (q_as (v := .lit (.bool _)) rfl) rfl ?_
           refine WPL.nilW ?_
           refine W.now ?_
           refine Then.n ?_
           refine WP.retW ?_
           have q0 := Option.some.inj H
           subst q0
           exact W.wk [] hnp (Then.r (Then.r (InBlock.r ⟨rfl, rfl, rfl⟩))) ⟨rfl, trivial, by decide, rfl, trivial⟩ (LeE.upd rfl rfl (LeE.upd rfl rfl (LeE.none rfl rfl))) rfl
         replace H := cnf hb14363 H
         refine WP.skipW ?_
         refine W.now ?_
         refine Then.n ?_
         refine WP.seq ?_
         refine WP.region ?_
         refine WPL.q (q_mv (v := .whole _) rfl) rfl ?_
         refine WPL.q (q_fieldAddr fi37_0 rfl rfl) rfl ?_
         refine WPL.q (q_load sc3 rfl rfl rfl) rfl ?_
         refine WPL.q (q_conv Try.underlying3 Try.underlying5 rfl) rfl ?_
         refine WPL.d (d_buildSlice (ds := ([(IntKind.wrap .u8 x14317.fByte)] : List Int)) (R := (Rd.int .u8)) li22 rfl rfl rfl rfl rfl (JoinRows.cons1 Joins.sc rfl JoinRows.nil) rfl rfl) rfl ?_
         obtain ⟨h14364, H⟩ := grd H
         refine WPL.d (d_append ap22 rfl rfl rfl rfl (src_row sl22 rfl rfl) h14364 rfl) rfl ?_
         refine WPL.q (q_as (v := .whole _) rfl) rfl ?_
         refine WPL.nilW ?_
         refine W.now ?_
         refine Then.n ?_
         refine WP.exitW ?_
         have q0 := Option.some.inj H
         subst q0
         exact W.wk [3] hnp (Then.x (InBlock.x0 ⟨rfl, rfl, rfl⟩)) ⟨rfl, ⟨trivial, .inr ⟨rfl, rfl, rfl⟩⟩, by decide, rfl, trivial⟩ (LeE.upd rfl rfl (LeE.upd rfl rfl (LeE.upd rfl rfl (LeE.none rfl rfl)))) rfl
       replace H := cnf hb14341 H
       refine WP.skipW ?_
       refine W.now ?_
       refine Then.n ?_
       refine WP.seq ?_
       refine WP.seq ?_
       obtain ⟨x14393, H14401, H⟩ := bnd H
       refine WP.monoW (Q := fun x E M => x = .normal ∧ E = (((((Env.none.upd 0 (.ro (Rd.slice rdS_quireref04_Item) true x13037)).upd 4 (.whole 0)).upd 5 (.lit (.int .i64 x13999))).upd 6 (.ptr 1 0)).upd 82 (.lit (.bool x14393))) ∧ M = ((Mem.nil.push (.row 5 (Rd.int .u8) x14000)).push (.cells 37 [.lit (.int .i64 x14317.fByte), .lit (.int .i64 x14317.fLen), .lit (.int .i64 x14317.fDist)]))) ?_ ?_
       · clear H
         have H := H14401
         clear H14401
         refine WP.region ?_
         refine WPL.q (q_fieldAddr fi37_0 rfl rfl) rfl ?_
         refine WPL.q (q_load sc3 rfl rfl rfl) rfl ?_
         refine WPL.q (q_neq rfl rfl) rfl ?_
         refine WPL.q (q_mv (v := .lit (.bool _)) rfl) rfl ?_
         refine WPL.split (t := 48) (b := (!decide (x14317.fByte = 0))) rfl (fun hb14393 => ?_) (fun hb14393 => ?_)
         · replace H := cnt hb14393 H
           refine WPL.skipg (b' := true) rfl rfl (lb hb14393) rfl rfl (.inl trivial) ?_
           refine WPL.skipg (b' := true) rfl rfl (lb hb14393) rfl rfl (.inl trivial) ?_
           refine WPL.skipg (b' := true) rfl rfl (lb hb14393) rfl rfl (.inl trivial) ?_
           refine WPL.q (q_pickT (v := .lit (.bool _)) (lb hb14393) rfl) rfl ?_
           refine WPL.q (q_mv (v := .lit (.bool _)) rfl) rfl ?_
           refine WPL.skipg (b' := true) rfl rfl rfl rfl rfl (.inl trivial) ?_
           refine WPL.skipg (b' := true) rfl rfl rfl rfl rfl (.inl trivial) ?_
           refine WPL.skipg (b' := true) rfl rfl rfl rfl rfl (.inl trivial) ?_
           refine WPL.q (q_pickT (v := .lit (.bool _)) rfl rfl) rfl ?_
           refine WPL.q (q_mv (v := .lit (.bool _)) rfl) rfl ?_
           refine WPL.skipg (b' := true) rfl rfl rfl rfl rfl (.inl trivial) ?_
           refine WPL.skipg (b' := true) rfl rfl rfl rfl rfl (.inl trivial) ?_
           refine WPL.skipg (b' := true) rfl rfl rfl rfl rfl (.inl trivial) ?_
           refine WPL.q (q_pickT (v := .lit (.bool _)) rfl rfl) rfl ?_
           refine WPL.q (q_mv (v := .lit (.bool _)) rfl) rfl ?_
           refine WPL.skipg (b' := true) rfl rfl rfl rfl rfl (.inl trivial) ?_
           refine WPL.skipg (b' := true) rfl rfl rfl rfl rfl (.inl trivial) ?_
           refine WPL.skipg (b' := true) rfl rfl rfl rfl rfl (.inl trivial) ?_
           refine WPL.q (q_pickT (v := .lit (.bool _)) rfl rfl) rfl ?_
           refine WPL.q (q_mv (v := .lit (.bool _)) rfl) rfl ?_
           refine WPL.skipg (b' := true) rfl rfl rfl rfl rfl (.inl trivial) ?_
           refine WPL.skipg (b' := true) rfl rfl rfl rfl rfl (.inl trivial) ?_
           refine WPL.skipg (b' := true) rfl rfl rfl rfl rfl (.inl trivial) ?_
           refine WPL.skipg (b' := true) rfl rfl rfl rfl rfl (.inl trivial) ?_
           refine WPL.skipg (b' := true) rfl rfl rfl rfl rfl (.inl trivial) ?_
           refine WPL.q (q_pickT (v := .lit (.bool _)) rfl rfl) rfl ?_
           refine WPL.q (q_mv (v := .lit (.bool _)) rfl) rfl ?_
           refine WPL.skipg (b' := true) rfl rfl rfl rfl rfl (.inl trivial) ?_
           refine WPL.skipg (b' := true) rfl rfl rfl rfl rfl (.inl trivial) ?_
           refine WPL.skipg (b' := true) rfl rfl rfl rfl rfl (.inl trivial) ?_
           refine WPL.skipg (b' := true) rfl rfl rfl rfl rfl (.inl trivial) ?_
           refine WPL.skipg (b' := true) rfl rfl rfl rfl rfl (.inl trivial) ?_
           refine WPL.skipg (b' := true) rfl rfl rfl rfl rfl (.inl trivial) ?_
           refine WPL.q (q_pickT (v := .lit (.bool _)) rfl rfl) rfl ?_
           refine WPL.nilW ?_
           have q0 := (Option.some.inj H)
           subst q0
           exact W.wk [0, 1] hnp ⟨rfl, rfl, rfl⟩ ⟨rfl, ⟨⟨trivial, .inr ⟨rfl, rfl, rfl⟩⟩, .inr ⟨rfl, rfl, rfl⟩⟩, by decide, rfl, trivial⟩ (LeE.upd rfl rfl (LeE.upd rfl rfl (LeE.upd rfl rfl (LeE.upd rfl rfl (LeE.upd rfl rfl (LeE.none rfl rfl)))))) rfl
         replace H := cnf hb14393 H
         refine WPL.qg rfl rfl (lb hb14393) (q_fieldAddr fi37_1 rfl rfl) rfl ?_
         refine WPL.qg rfl rfl (lb hb14393) (q_load sc3 rfl rfl rfl) rfl ?_
         refine WPL.qg rfl rfl (lb hb14393) (q_lss rfl rfl) rfl ?_
         refine WPL.q (q_pickF (v := .lit (.bool _)) (lb hb14393) rfl) rfl ?_
         refine WPL.q (q_mv (v := .lit (.bool _)) rfl) rfl ?_
         refine WPL.split (t := 53) (b := (decide (x14317.fLen < 3))) rfl (fun hb14394 => ?_) (fun hb14394 => ?_)
         · replace H := cnt hb14394 H
           refine WPL.skipg (b' := true) rfl rfl (lb hb14394) rfl rfl (.inl trivial) ?_
           refine WPL.skipg (b' := true) rfl rfl (lb hb14394) rfl rfl (.inl trivial) ?_
           refine WPL.skipg (b' := true) rfl rfl (lb hb14394) rfl rfl (.inl trivial) ?_
           refine WPL.q (q_pickT (v := .lit (.bool _)) (lb hb14394) rfl) rfl ?_
           refine WPL.q (q_mv (v := .lit (.bool _)) rfl) rfl ?_
           refine WPL.skipg (b' := true) rfl rfl rfl rfl rfl (.inl trivial) ?_
           refine WPL.skipg (b' := true) rfl rfl rfl rfl rfl (.inl trivial) ?_
           refine WPL.skipg (b' := true) rfl rfl rfl rfl rfl (.inl trivial) ?_
           refine WPL.q (q_pickT (v := .lit (.bool _)) rfl rfl) rfl ?_
           refine WPL.q (q_mv (v := .lit (.bool _)) rfl) rfl ?_
           refine WPL.skipg (b' := true) rfl rfl rfl rfl rfl (.inl trivial) ?_
           refine WPL.skipg (b' := true) rfl rfl rfl rfl rfl (.inl trivial) ?_
           refine WPL.skipg (b' := true) rfl rfl rfl rfl rfl (.inl trivial) ?_
           refine WPL.q (q_pickT (v := .lit (.bool _)) rfl rfl) rfl ?_
           refine WPL.q (q_mv (v := .lit (.bool _)) rfl) rfl ?_
           refine WPL.skipg (b' := true) rfl rfl rfl rfl rfl (.inl trivial) ?_
           refine WPL.skipg (b' := true) rfl rfl rfl rfl rfl (.inl trivial) ?_
           refine WPL.skipg (b' := true) rfl rfl rfl rfl rfl (.inl trivial) ?_
           refine WPL.skipg (b' := true) rfl rfl rfl rfl rfl (.inl trivial) ?_
           refine WPL.skipg (b' := true) rfl rfl rfl rfl rfl (.inl trivial) ?_
           refine WPL.q (q_pickT (v := .lit (.bool _)) rfl rfl) rfl ?_
           refine WPL.q (q_mv (v := .lit (.bool _)) rfl) rfl ?_
           refine WPL.skipg (b' := true) rfl rfl rfl rfl rfl (.inl trivial) ?_
           refine WPL.skipg (b' := true) rfl rfl rfl rfl rfl (.inl trivial) ?_
           refine WPL.skipg (b' := true) rfl rfl rfl rfl rfl (.inl trivial) ?_
           refine WPL.skipg (b' := true) rfl rfl rfl rfl rfl (.inl trivial) ?_
           refine WPL.skipg (b' := true) rfl rfl rfl rfl rfl (.inl trivial) ?_
           refine WPL.skipg (b' := true) rfl rfl rfl rfl rfl (.inl trivial) ?_
           refine WPL.q (q_pickT (v := .lit (.bool _)) rfl rfl) rfl ?_
           refine WPL.nilW ?_
           have q0 := (Option.some.inj H)
           subst q0
           exact W.wk [0, 1] hnp ⟨rfl, rfl, rfl⟩ ⟨rfl, ⟨⟨trivial, .inr ⟨rfl, rfl, rfl⟩⟩, .inr ⟨rfl, rfl, rfl⟩⟩, by decide, rfl, trivial⟩ (LeE.upd rfl rfl (LeE.upd rfl rfl (LeE.upd rfl rfl (LeE.upd rfl rfl (LeE.upd rfl rfl (LeE.none rfl rfl)))))) rfl
         replace H := cnf hb14394 H
         refine WPL.qg rfl rfl (lb hb14394) (q_fieldAddr fi37_1 rfl rfl) rfl ?_
         refine WPL.qg rfl rfl (lb hb14394) (q_load sc3 rfl rfl rfl) rfl ?_
         refine WPL.qg rfl rfl (lb hb14394) (q_gtr rfl rfl) rfl ?_
         refine WPL.q (q_pickF (v := .lit (.bool _)) (lb hb14394) rfl) rfl ?_
         refine WPL.q (q_mv (v := .lit (.bool _)) rfl) rfl ?_
         refine WPL.split (t := 58) (b := (decide (258 < x14317.fLen))) rfl (fun hb14395 => ?_) (fun hb14395 => ?_)
         · replace H := cnt hb14395 H
           refine WPL.skipg (b' := true) rfl rfl (lb hb14395) rfl rfl (.inl trivial) ?_
           refine WPL.skipg (b' := true) rfl rfl (lb hb14395) rfl rfl (.inl trivial) ?_
           refine WPL.skipg (b' := true) rfl rfl (lb hb14395) rfl rfl (.inl trivial) ?_
           refine WPL.q (q_pickT (v := .lit (.bool _)) (lb hb14395) rfl) rfl ?_
           refine WPL.q (q_mv (v := .lit (.bool _)) rfl) rfl ?_
           refine WPL.skipg (b' := true) rfl rfl rfl rfl rfl (.inl trivial) ?_
           refine WPL.skipg (b' := true) rfl rfl rfl rfl rfl (.inl trivial) ?_
           refine WPL.skipg (b' := true) rfl rfl rfl rfl rfl (.inl trivial) ?_
           refine WPL.q (q_pickT (v := .lit (.bool _)) rfl rfl) rfl ?_
           refine WPL.q (q_mv (v := .lit (.bool _)) rfl) rfl ?_
           refine WPL.skipg (b' := true) rfl rfl rfl rfl rfl (.inl trivial) ?_
           refine WPL.skipg (b' := true) rfl rfl rfl rfl rfl (.inl trivial) ?_
           refine WPL.skipg (b' := true) rfl rfl rfl rfl rfl (.inl trivial) ?_
           refine WPL.skipg (b' := true) rfl rfl rfl rfl rfl (.inl trivial) ?_
           refine WPL.skipg (b' := true) rfl rfl rfl rfl rfl (.inl trivial) ?_
           refine WPL.q (q_pickT (v := .lit (.bool _)) rfl rfl) rfl ?_
           refine WPL.q (q_mv (v := .lit (.bool _)) rfl) rfl ?_
           refine WPL.skipg (b' := true) rfl rfl rfl rfl rfl (.inl trivial) ?_
           refine WPL.skipg (b' := true) rfl rfl rfl rfl rfl (.inl trivial) ?_
           refine WPL.skipg (b' := true) rfl rfl rfl rfl rfl (.inl trivial) ?_
           refine WPL.skipg (b' := true) rfl rfl rfl rfl rfl (.inl trivial) ?_
           refine WPL.skipg (b' := true) rfl rfl rfl rfl rfl (.inl trivial) ?_
           refine WPL.skipg (b' := true) rfl rfl rfl rfl rfl (.inl trivial) ?_
           refine WPL.q (q_pickT (v := .lit (.bool _)) rfl rfl) rfl ?_
           refine WPL.nilW ?_
           have q0 := (Option.some.inj H)
           subst q0
           exact W.wk [0, 1] hnp ⟨rfl, rfl, rfl⟩ ⟨rfl, ⟨⟨trivial, .inr ⟨rfl, rfl, rfl⟩⟩, .inr ⟨rfl, rfl, rfl⟩⟩, by decide, rfl, trivial⟩ (LeE.upd rfl rfl (LeE.upd rfl rfl (LeE.upd rfl rfl (LeE.upd rfl rfl (LeE.upd rfl rfl (LeE.none rfl rfl)))))) rfl
         replace H := cnf hb14395 H
         refine WPL.qg rfl rfl (lb hb14395) (q_fieldAddr fi37_2 rfl rfl) rfl ?_
         refine WPL.qg rfl rfl (lb hb14395) (q_load sc3 rfl rfl rfl) rfl ?_
         refine WPL.qg rfl rfl (lb hb14395) (q_lss rfl rfl) rfl ?_
         refine WPL.q (q_pickF (v := .lit (.bool _)) (lb hb14395) rfl) rfl ?_
         refine WPL.q (q_mv (v := .lit (.bool _)) rfl) rfl ?_
         refine WPL.split (t := 63) (b := (decide (x14317.fDist < 1))) rfl (fun hb14396 => ?_) (fun hb14396 => ?_)
         · replace H := cnt hb14396 H
           refine WPL.skipg (b' := true) rfl rfl (lb hb14396) rfl rfl (.inl trivial) ?_
           refine WPL.skipg (b' := true) rfl rfl (lb hb14396) rfl rfl (.inl trivial) ?_
           refine WPL.skipg (b' := true) rfl rfl (lb hb14396) rfl rfl (.inl trivial) ?_
           refine WPL.q (q_pickT (v := .lit (.bool _)) (lb hb14396) rfl) rfl ?_
           refine WPL.q (q_mv (v := .lit (.bool _)) rfl) rfl ?_
           refine WPL.skipg (b' := true) rfl rfl rfl rfl rfl (.inl trivial) ?_
           refine WPL.skipg (b' := true) rfl rfl rfl rfl rfl (.inl trivial) ?_
           refine WPL.skipg (b' := true) rfl rfl rfl rfl rfl (.inl trivial) ?_
           refine WPL.skipg (b' := true) rfl rfl rfl rfl rfl (.inl trivial) ?_
           refine WPL.skipg (b' := true) rfl rfl rfl rfl rfl (.inl trivial) ?_
           refine WPL.q (q_pickT (v := .lit (.bool _)) rfl rfl) rfl ?_
           refine WPL.q (q_mv (v := .lit (.bool _)) rfl) rfl ?_
           refine WPL.skipg (b' := true) rfl rfl rfl rfl rfl (.inl trivial) ?_
           refine WPL.skipg (b' := true) rfl rfl rfl rfl rfl (.inl trivial) ?_
           refine WPL.skipg (b' := true) rfl rfl rfl rfl rfl (.inl trivial) ?_
           refine WPL.skipg (b' := true) rfl rfl rfl rfl rfl (.inl trivial) ?_
           refine WPL.skipg (b' := true) rfl rfl rfl rfl rfl (.inl trivial) ?_
           refine WPL.skipg (b' := true) rfl rfl rfl rfl rfl (.inl trivial) ?_
           refine WPL.q (q_pickT (v := .lit (.bool _)) rfl rfl) rfl ?_
           refine WPL.nilW ?_
           have q0 := (Option.some.inj H)
           subst q0
           exact W.wk [0, 1] hnp ⟨rfl, rfl, rfl⟩ ⟨rfl, ⟨⟨trivial, .inr ⟨rfl, rfl, rfl⟩⟩, .inr ⟨rfl, rfl, rfl⟩⟩, by decide, rfl, trivial⟩ (LeE.upd rfl rfl (LeE.upd rfl rfl (LeE.upd rfl rfl (LeE.upd rfl rfl (LeE.upd rfl rfl (LeE.none rfl rfl)))))) rfl
         replace H := cnf hb14396 H
         refine WPL.qg rfl rfl (lb hb14396) (q_fieldAddr fi37_2 rfl rfl) rfl ?_
         refine WPL.qg rfl rfl (lb hb14396) (q_load sc3 rfl rfl rfl) rfl ?_
         refine WPL.qg rfl rfl (lb hb14396) (q_gtr rfl rfl) rfl ?_
         refine WPL.q (q_pickF (v := .lit (.bool _)) (lb hb14396) rfl) rfl ?_
         refine WPL.q (q_mv (v := .lit (.bool _)) rfl) rfl ?_
         refine WPL.split (t := 68) (b := (decide (32768 < x14317.fDist))) rfl (fun hb14397 => ?_) (fun hb14397 => ?_)
         · replace H := cnt hb14397 H
           refine WPL.skipg (b' := true) rfl rfl (lb hb14397) rfl rfl (.inl trivial) ?_
           refine WPL.skipg (b' := true) rfl rfl (lb hb14397) rfl rfl (.inl trivial) ?_
           refine WPL.skipg (b' := true) rfl rfl (lb hb14397) rfl rfl (.inl trivial) ?_
           refine WPL.skipg (b' := true) rfl rfl (lb hb14397) rfl rfl (.inl trivial) ?_
           refine WPL.skipg (b' := true) rfl rfl (lb hb14397) rfl rfl (.inl trivial) ?_
           refine WPL.q (q_pickT (v := .lit (.bool _)) (lb hb14397) rfl) rfl ?_
           refine WPL.q (q_mv (v := .lit (.bool _)) rfl) rfl ?_
           refine WPL.skipg (b' := true) rfl rfl rfl rfl rfl (.inl trivial) ?_
           refine WPL.skipg (b' := true) rfl rfl rfl rfl rfl (.inl trivial) ?_
           refine WPL.skipg (b' := true) rfl rfl rfl rfl rfl (.inl trivial) ?_
           refine WPL.skipg (b' := true) rfl rfl rfl rfl rfl (.inl trivial) ?_
           refine WPL.skipg (b' := true) rfl rfl rfl rfl rfl (.inl trivial) ?_
           refine WPL.skipg (b' := true) rfl rfl rfl rfl rfl (.inl trivial) ?_
           refine WPL.q (q_pickT (v := .lit (.bool _)) rfl rfl) rfl ?_
           refine WPL.nilW ?_
           have q0 := (Option.some.inj H)
           subst q0
           exact W.wk [0, 1] hnp ⟨rfl, rfl, rfl⟩ ⟨rfl, ⟨⟨trivial, .inr ⟨rfl, rfl, rfl⟩⟩, .inr ⟨rfl, rfl, rfl⟩⟩, by decide, rfl, trivial⟩ (LeE.upd rfl rfl (LeE.upd rfl rfl (LeE.upd rfl rfl (LeE.upd rfl rfl (LeE.upd rfl rfl (LeE.none rfl rfl)))))) rfl
         replace H := cnf hb14397 H
         refine WPL.qg rfl rfl (lb hb14397) (q_fieldAddr fi37_2 rfl rfl) rfl ?_
         refine WPL.qg rfl rfl (lb hb14397) (q_load sc3 rfl rfl rfl) rfl ?_
         refine WPL.qg rfl rfl (lb hb14397) (q_mv (v := .whole _) rfl) rfl ?_
         refine WPL.qg rfl rfl (lb hb14397) (q_len_row sl22 rfl rfl) rfl ?_
         obtain ⟨x14399, h14399, H⟩ := bnd H
         refine WPL.qg rfl rfl (lb hb14397) (q_nm (q_gtr rfl rfl) (nm_bool h14399)) rfl ?_
         refine WPL.q (q_pickF (v := .lit (.bool _)) (lb hb14397) rfl) rfl ?_
         refine WPL.q (q_mv (v := .lit (.bool _)) rfl) rfl ?_
         refine WPL.split (t := 75) (b := x14399) rfl (fun hb14399 => ?_) (fun hb14399 => ?_)
         · replace H := cnt hb14399 H
           refine WPL.skipg (b' := true) rfl rfl (lb hb14399) rfl rfl (.inl trivial) ?_
           refine WPL.skipg (b' := true) rfl rfl (lb hb14399) rfl rfl (.inl trivial) ?_
           refine WPL.skipg (b' := true) rfl rfl (lb hb14399) rfl rfl (.inl trivial) ?_
           refine WPL.skipg (b' := true) rfl rfl (lb hb14399) rfl rfl (.inl trivial) ?_
           refine WPL.skipg (b' := true) rfl rfl (lb hb14399) rfl rfl (.inl trivial) ?_
           refine WPL.skipg (b' := true) rfl rfl (lb hb14399) rfl rfl (.inl trivial) ?_
           refine WPL.q (q_pickT (v := .lit (.bool _)) (lb hb14399) rfl) rfl ?_
           refine WPL.nilW ?_
           have q0 := (Option.some.inj H)
           subst q0
           exact W.wk [0, 1] hnp ⟨rfl, rfl, rfl⟩ ⟨rfl, ⟨⟨trivial, .inr ⟨rfl, rfl, rfl⟩⟩, .inr ⟨rfl, rfl, rfl⟩⟩, by decide, rfl, trivial⟩ (LeE.upd rfl rfl (LeE.upd rfl rfl (LeE.upd rfl rfl (LeE.upd rfl rfl (LeE.upd rfl rfl (LeE.none rfl rfl)))))) rfl
         replace H := cnf hb14399 H
         refine WPL.qg rfl rfl (lb hb14399) (q_fieldAddr fi37_1 rfl rfl) rfl ?_
         refine WPL.qg rfl rfl (lb hb14399) (q_load sc3 rfl rfl rfl) rfl ?_
         refine WPL.qg rfl rfl (lb hb14399) (q_mv (v := .whole _) rfl) rfl ?_
         refine WPL.qg rfl rfl (lb hb14399) (q_len_row sl22 rfl rfl) rfl ?_
         obtain ⟨x14401, h14401, H⟩ := bnd H
         refine WPL.qg rfl rfl (lb hb14399) (q_nm (q_sub rfl rfl) (nm_int h14401)) rfl ?_
         refine WPL.qg rfl rfl (lb hb14399) (q_gtr rfl rfl) rfl ?_
         refine WPL.q (q_pickF (v := .lit (.bool _)) (lb hb14399) rfl) rfl ?_
         refine WPL.nilW ?_
         have q0 := (Option.some.inj H)
         subst q0
         exact W.wk [0, 1] hnp ⟨rfl, rfl, rfl⟩ ⟨rfl, ⟨⟨trivial, .inr ⟨rfl, rfl, rfl⟩⟩, .inr ⟨rfl, rfl, rfl⟩⟩, by decide, rfl, trivial⟩ (LeE.upd rfl rfl (LeE.upd rfl rfl (LeE.upd rfl rfl (LeE.upd rfl rfl (LeE.upd rfl rfl (LeE.none rfl rfl)))))) rfl
       rintro _ _ _ ⟨rfl, rfl, rfl⟩
       refine W.now ?_
       refine Then.n ?_
       refine WP.cond (t := x14393) rfl (fun hb14402 => ?_) (fun hb14402 => ?_)
       · replace H := cnt hb14402 H
         refine WP.seq ?_
         refine WP.region ?_
         refine WPL.q (q_as (v := .lit _) rfl) rfl ?_
         refine WPL.q (q_as (v := .lit (.bool _)) rfl) rfl ?_
         refine WPL.nilW ?_
         refine W.now ?_
         refine Then.n ?_
         refine WP.retW ?_
         have q0 := Option.some.inj H
         subst q0
         exact W.wk [] hnp (Then.r (InBlock.r ⟨rfl, rfl, rfl⟩)) ⟨rfl, trivial, by decide, rfl, trivial⟩ (LeE.upd rfl rfl (LeE.upd rfl rfl (LeE.none rfl rfl))) rfl
       replace H := cnf hb14402 H
       refine WP.skipW ?_
       refine W.now ?_
       refine Then.n ?_
       refine WP.seq ?_
       refine WP.region ?_
       refine WPL.q (q_as (v := .lit (.int _ _)) rfl) rfl ?_
       refine WPL.nilW ?_
       refine W.now ?_
       refine Then.n ?_
       refine WP.block ?_
       refine WP.cv (Cv.weak (E' := (((((Env.none.upd 0 (.ro (Rd.slice rdS_quireref04_Item) true x13037)).upd 4 (.whole 0)).upd 5 (.lit (.int .i64 x13999))).upd 6 (.ptr 1 0)).upd 7 (.lit (.int .i64 0)))) (M' := ((Mem.nil.push (.row 5 (Rd.int .u8) x14000)).push (.cells 37 [.lit (.int .i64 x14317.fByte), .lit (.int .i64 x14317.fLen), .lit (.int .i64 x14317.fDist)]))) [0, 1] hnp ⟨rfl, ⟨⟨trivial, .inr ⟨rfl, rfl, rfl⟩⟩, .inr ⟨rfl, rfl, rfl⟩⟩, by decide, rfl, trivial⟩ (LeE.upd rfl rfl (LeE.upd rfl rfl (LeE.upd rfl rfl (LeE.upd rfl rfl (LeE.upd rfl rfl (LeE.none rfl rfl))))))) ?_
       obtain ⟨x14416, H14421, H⟩ := bnd H
       refine WP.monoW (Q := fun x E M => x = .exit 2 ∧ E = (((Env.none.upd 0 (.ro (Rd.slice rdS_quireref04_Item) true x13037)).upd 4 (.whole 0)).upd 5 (.lit (.int .i64 x13999))) ∧ M = (Mem.nil.push (.row 5 (Rd.int .u8) x14416))) ?_ ?_
       · refine WP.loop (β := Int × (List Int)) (fun n b => g_quireref04_Unparse_l1 k x14317 n b.1 b.2 = some x14416) (fun b => (((((Env.none.upd 0 (.ro (Rd.slice rdS_quireref04_Item) true x13037)).upd 4 (.whole 0)).upd 5 (.lit (.int .i64 x13999))).upd 6 (.ptr 1 0)).upd 7 (.lit (.int .i64 b.1)))) (fun b => ((Mem.nil.push (.row 5 (Rd.int .u8) b.2)).push (.cells 37 [.lit (.int .i64 x14317.fByte), .lit (.int .i64 x14317.fLen), .lit (.int .i64 x14317.fDist)]))) k (0, x14000) H14421 rfl rfl ?_
         rintro n ⟨x14409, x14410⟩ H
         obtain _ | n := n
         · exact nf rfl H
         rw [g_quireref04_Unparse_l1.eq_2] at H
         show WP _ _ _ _ (((((Env.none.upd 0 (.ro (Rd.slice rdS_quireref04_Item) true x13037)).upd 4 (.whole 0)).upd 5 (.lit (.int .i64 x13999))).upd 6 (.ptr 1 0)).upd 7 (.lit (.int .i64 x14409))) ((Mem.nil.push (.row 5 (Rd.int .u8) x14410)).push (.cells 37 [.lit (.int .i64 x14317.fByte), .lit (.int .i64 x14317.fLen), .lit (.int .i64 x14317.fDist)])) _
         refine WP.seq ?_
         refine WP.seq ?_
         refine WP.region ?_
         refine WPL.q (q_mv (v := .lit (.int _ _)) rfl) rfl ?_
         refine WPL.q (q_fieldAddr fi37_1 rfl rfl) rfl ?_
         refine WPL.q (q_load sc3 rfl rfl rfl) rfl ?_
         refine WPL.q (q_lss rfl rfl) rfl ?_
         refine WPL.nilW ?_
         refine W.now ?_
         refine Then.n ?_
         refine WP.cond (t := (decide (x14409 < x14317.fLen))) rfl (fun hb14417 => ?_) (fun hb14417 => ?_)
         · replace H := cnt hb14417 H
           refine WP.skipW ?_
           refine W.now ?_
           refine Then.n ?_
           refine WP.seq ?_
           refine WP.block ?_
           refine WP.region ?_
           refine WPL.q (q_mv (v := .whole _) rfl) rfl ?_
           refine WPL.q (q_mv (v := .whole _) rfl) rfl ?_
           refine WPL.q (q_mv (v := .whole _) rfl) rfl ?_
           refine WPL.q (q_len_row sl22 rfl rfl) rfl ?_
           refine WPL.q (q_fieldAddr fi37_2 rfl rfl) rfl ?_
           refine WPL.q (q_load sc3 rfl rfl rfl) rfl ?_
           obtain ⟨x14419, h14419, H⟩ := bnd H
           refine WPL.q (q_nm (q_sub rfl rfl) (nm_int h14419)) rfl ?_
           obtain ⟨x14420, h14420, H⟩ := bnd H
           refine WPL.q (q_index_row sl22 rfl rfl rfl (ixs h14420)) rfl ?_
           refine WPL.q (q_load_row (j := (Int.toNat x14419)) sc5 rfl rfl (ixj h14420)) rfl ?_
           refine WPL.d (d_buildSlice (ds := ([x14420] : List Int)) (R := (Rd.int .u8)) li22 rfl rfl rfl rfl rfl (JoinRows.cons1 Joins.sc rfl JoinRows.nil) rfl rfl) rfl ?_
           obtain ⟨h14420, H⟩ := grd H
           refine WPL.d (d_append ap22 rfl rfl rfl rfl (src_row sl22 rfl rfl) h14420 rfl) rfl ?_
           refine WPL.q (q_as (v := .whole _) rfl) rfl ?_
           refine WPL.nilW ?_
           refine W.now ?_
           refine InBlock.n ?_
           refine Then.n ?_
           refine WP.region ?_
           refine WPL.q (q_mv (v := .lit (.int _ _)) rfl) rfl ?_
           refine WPL.q (q_add rfl rfl) rfl ?_
           refine WPL.q (q_as (v := .lit (.int _ _)) rfl) rfl ?_
           refine WPL.nilW ?_
           exact W.wk [3, 1] hnp (Then.n ⟨n, ((IntKind.wrap .i64 (x14409 + 1)), (x14410 ++ ([x14420] : List Int))), Nat.lt_succ_self n, H, rfl, rfl⟩) ⟨rfl, ⟨⟨trivial, .inr ⟨rfl, rfl, rfl⟩⟩, .inr ⟨rfl, rfl, rfl⟩⟩, by decide, rfl, trivial⟩ (LeE.upd rfl rfl (LeE.upd rfl rfl (LeE.upd rfl rfl (LeE.upd rfl rfl (LeE.upd rfl rfl (LeE.none rfl rfl)))))) rfl
         replace H := cnf hb14417 H
         refine WP.exitW ?_
         have q0 := (Option.some.inj H)
         subst q0
         exact W.wk [0] hnp (Then.x (Then.x ⟨rfl, rfl, rfl⟩)) ⟨rfl, ⟨trivial, .inr ⟨rfl, rfl, rfl⟩⟩, by decide, rfl, trivial⟩ (LeE.upd rfl rfl (LeE.upd rfl rfl (LeE.upd rfl rfl (LeE.none rfl rfl)))) rfl
       rintro _ _ _ ⟨rfl, rfl, rfl⟩
       have q0 := Option.some.inj H
       subst q0
       exact W.wk [0] hnp (InBlock.x0 (InBlock.n ⟨rfl, rfl, rfl⟩)) ⟨rfl, ⟨trivial, .inr ⟨rfl, rfl, rfl⟩⟩, by decide, rfl, trivial⟩ (LeE.upd rfl rfl (LeE.upd rfl rfl (LeE.upd rfl rfl (LeE.none rfl rfl)))) rfl
     rcases y14424 with _ | x14316
     · rintro _ _ _ ⟨rfl, rfl, rfl⟩
       have q0 := Option.some.inj H
       subst q0
       exact W.wk [] hnp (Then.r (Then.r ⟨rfl, rfl, rfl⟩)) ⟨rfl, trivial, by decide, rfl, trivial⟩ (LeE.upd rfl rfl (LeE.upd rfl rfl (LeE.none rfl rfl))) rfl
     rintro _ _ _ ⟨rfl, rfl, rfl⟩
     refine W.now ?_
     refine Then.n ?_
     refine WP.region ?_
     refine WPL.q (q_mv (v := .lit (.int _ _)) rfl) rfl ?_
     refine WPL.q (q_add rfl rfl) rfl ?_
     refine WPL.q (q_as (v := .lit (.int _ _)) rfl) rfl ?_
     refine WPL.nilW ?_
     exact W.wk [0] hnp (Then.n ⟨n, ((IntKind.wrap .i64 (x13999 + 1)), x14316), Nat.lt_succ_self n, H, rfl, rfl⟩) ⟨rfl, ⟨trivial, .inr ⟨rfl, rfl, rfl⟩⟩, by decide, rfl, trivial⟩ (LeE.upd rfl rfl (LeE.upd rfl rfl (LeE.upd rfl rfl (LeE.none rfl rfl)))) rfl
   replace H := cnf hb14213 H
   refine WP.exitW ?_
   have q0 := Option.some.inj H
   subst q0
   exact W.wk [0] hnp (Then.x (Then.x ⟨rfl, rfl, rfl⟩)) ⟨rfl, ⟨trivial, .inr ⟨rfl, rfl, rfl⟩⟩, by decide, rfl, trivial⟩ (LeE.upd rfl rfl (LeE.none rfl rfl)) rfl
 rcases y14426 with _ | x14210
 · rintro _ _ _ ⟨rfl, rfl, rfl⟩
   refine W.cv (Cv.nilRo (Rd.int .u8) false 2 rfl) rfl ?_
   have q0 := (Prod.mk.inj (Option.some.inj H)).1
   have q1 := (Prod.mk.inj (Option.some.inj H)).2
   subst q0
   subst q1
   exact W.now (InBlock.r (Then.r (BodyR.mkR trivial rfl [] ⟨rfl, rfl⟩ ⟨rfl, trivial, by decide, rfl, trivial⟩ rfl rfl)))
 rintro _ _ _ ⟨rfl, rfl, rfl⟩
 refine W.now ?_
 refine InBlock.x0 ?_
 refine Then.n ?_
 refine WP.seq ?_
 refine WP.region ?_
 refine WPL.q (q_mv (v := .whole _) rfl) rfl ?_
 refine WPL.q (q_as (v := .whole _) rfl) rfl ?_
 refine WPL.q (q_as (v := .lit (.bool _)) rfl) rfl ?_
 refine WPL.nilW ?_
 refine W.now ?_
 refine Then.n ?_
 refine WP.retW ?_
 refine W.cv (Cv.frzRow (i := 0) rfl rfl hnp rfl rfl) rfl ?_
 have q0 := (Prod.mk.inj (Option.some.inj H)).1
 have q1 := (Prod.mk.inj (Option.some.inj H)).2
 subst q0
 subst q1
 exact W.now (BodyR.mkR trivial rfl [] ⟨rfl, rfl⟩ ⟨rfl, trivial, by decide, rfl, trivial⟩ rfl rfl)
end Go.Proofs.Ytmmeanjjfhimjaa.W
namespace Go.Proofs.Ytmmeanjjfhimjaa.W
open Go Go.Q Go.Proofs
set_option linter.unusedVariables false
set_option linter.unusedSimpArgs false
set_option maxRecDepth 100000 in
set_option maxHeartbeats 4000000 in
theorem s_deflate_Unparse (k : Nat) (x14430 : (List S_deflate_Item)) (x14705 : (List Int)) (x14706 : Bool) (H : g_deflate_Unparse k x14430 = some (x14705, x14706)) : Go.Q.Spec Try.prog 15 0 [.ro (Rd.slice rdS_deflate_Item) false x14430] Mem.nil (fun o M => o = .ret (.tup [.ro (Rd.slice (Rd.int .u8)) false x14705, .lit (.bool x14706)]) ∧ M = Mem.nil) := by
 unfold g_deflate_Unparse at H
 refine Go.Q.Spec.of_bodyR (az := []) (rs := [.tmp 2, .tmp 3]) (nt := 96) Try.func15 rfl rfl (by intro t T h; simp at h) rfl rfl fun cx hnp => ?_
 refine WP.seq ?_
 refine WP.region ?_
 refine WPL.q (q_as (v := .lit _) rfl) rfl ?_
 refine WPL.q (q_as (v := .lit (.bool _)) rfl) rfl ?_
 refine WPL.nilW ?_
 refine W.now ?_
 refine Then.n ?_
 refine WP.seq ?_
 refine WP.region ?_
 refine WPL.q (q_as (v := .lit _) rfl) rfl ?_
 refine WPL.nilW ?_
 refine W.now ?_
 refine Then.n ?_
 refine WP.seq ?_
 refine WP.seq ?_
 refine WP.region ?_
 refine WPL.q (q_mv (v := .ro _ _ _) rfl) rfl ?_
 refine WPL.q (q_len_ro sl32 rfl) rfl ?_
 refine WPL.q (q_mv (v := .lit (.int _ _)) rfl) rfl ?_
 refine WPL.nilW ?_
 refine W.now ?_
 refine Then.n ?_
 refine WP.block ?_
 refine WP.cv (Cv.vir 5 (Rd.int .u8) (N := 0) rfl 4 rfl) ?_
 refine WP.cv (Cv.weak (E' := ((((Env.none.upd 4 (.whole 0)).upd 7 (.ro (Rd.slice rdS_deflate_Item) false x14430)).upd 8 (.lit (.int .i64 ((List.length x14430 : Nat) : Int)))).upd 9 (.lit (.int .i64 0)))) (M' := (Mem.nil.push (.row 5 (Rd.int .u8) ([] : List Int)))) [0] hnp ⟨rfl, ⟨trivial, .inr ⟨rfl, rfl, rfl⟩⟩, by decide, rfl, trivial⟩ (LeE.upd rfl rfl (LeE.upd rfl rfl (LeE.upd rfl rfl (LeE.upd rfl rfl (LeE.none rfl rfl)))))) ?_
 obtain ⟨y15082, H15080, H⟩ := bnd H
 refine WP.monoW (Q := fun x E M => match (generalizing := false) y15082 with | (Sum.inl _) => x = .ret ∧ E = ((Env.none.upd 2 (.lit (.slice none 0 0))).upd 3 (.lit (.bool false))) ∧ M = Mem.nil | (Sum.inr x14977) => x = .exit 0 ∧ E = (Env.none.upd 4 (.whole 0)) ∧ M = (Mem.nil.push (.row 5 (Rd.int .u8) x14977))) ?_ ?_
 · refine WP.loop (β := Int × (List Int)) (fun n b => g_deflate_Unparse_l0 k x14430 n b.1 b.2 = some y15082) (fun b => ((((Env.none.upd 4 (.whole 0)).upd 7 (.ro (Rd.slice rdS_deflate_Item) false x14430)).upd 8 (.lit (.int .i64 ((List.length x14430 : Nat) : Int)))).upd 9 (.lit (.int .i64 b.1)))) (fun b => (Mem.nil.push (.row 5 (Rd.int .u8) b.2))) k (0, ([] : List Int)) H15080 rfl rfl ?_
   rintro n ⟨x14877, x14878⟩ H
   obtain _ | n := n
   · exact nf rfl H
   rw [g_deflate_Unparse_l0.eq_2] at H
   show WP _ _ _ _ ((((Env.none.upd 4 (.whole 0)).upd 7 (.ro (Rd.slice rdS_deflate_Item) false x14430)).upd 8 (.lit (.int .i64 ((List.length x14430 : Nat) : Int)))).upd 9 (.lit (.int .i64 x14877))) (Mem.nil.push (.row 5 (Rd.int .u8) x14878)) _
   refine WP.seq ?_
   refine WP.region ?_
   obtain ⟨x14978, h14978, H⟩ := bnd H
   refine WPL.q (q_nm (q_lss rfl rfl) (nm_bool h14978)) rfl ?_
   refine WPL.nilW ?_
   refine W.now ?_
   refine Then.n ?_
   refine WP.seq ?_
   refine WP.cond (t := x14978) rfl (fun hb14979 => ?_) (fun hb14979 => ?_)
   · replace H := cnt hb14979 H
     refine WP.skipW ?_
     refine W.now ?_
     refine Then.n ?_
     refine WP.seq ?_
     obtain ⟨y15080, H15078, H⟩ := bnd H
     refine WP.monoW (Q := fun x E M => match (generalizing := false) y15080 with | (Sum.inl x15027) => x = .normal ∧ E = ((((Env.none.upd 4 (.whole 0)).upd 7 (.ro (Rd.slice rdS_deflate_Item) false x14430)).upd 8 (.lit (.int .i64 ((List.length x14430 : Nat) : Int)))).upd 9 (.lit (.int .i64 x14877))) ∧ M = (Mem.nil.push (.row 5 (Rd.int .u8) x15027)) | (Sum.inr _) => x = .ret ∧ E = ((Env.none.upd 2 (.lit (.slice none 0 0))).upd 3 (.lit (.bool false))) ∧ M = Mem.nil) ?_ ?_
     · clear H
       have H := H15078
       clear H15078
       refine WP.block ?_
       refine WP.seq ?_
       refine WP.region ?_
       obtain ⟨x15028, h15028, H⟩ := bnd H
       refine WPL.q (q_index_ro sl32 rfl rfl rfl h15028) rfl ?_
       refine WPL.q (q_load_roag ag36 rfl rfl S_deflate_Item.sp) rfl ?_
       refine WPL.d (d_alloc ze36 rfl) rfl ?_
       refine WPL.s (s_store sz36 rfl rfl rfl rfl rfl) ?_
       refine WPL.nilW ?_
       refine W.now ?_
       refine Then.n ?_
       refine WP.block ?_
       refine WP.seq ?_
       obtain ⟨x15034, H15039, H⟩ := bnd H
       refine WP.monoW (Q := fun x E M => x = .normal ∧ E = ((((((Env.none.upd 4 (.whole 0)).upd 6 (.ptr 1 0)).upd 7 (.ro (Rd.slice rdS_deflate_Item) false x14430)).upd 8 (.lit (.int .i64 ((List.length x14430 : Nat) : Int)))).upd 9 (.lit (.int .i64 x14877))).upd 13 (.lit (.bool x15034))) ∧ M = ((Mem.nil.push (.row 5 (Rd.int .u8) x14878)).push (.cells 36 [.lit (.int .i64 x15028.fByte), .lit (.int .i64 x15028.fLen), .lit (.int .i64 x15028.fDist)]))) ?_ ?_
       · clear H
         have H := H15039
         clear H15039
         refine WP.region ?_
         refine WPL.q (q_fieldAddr fi36_1 rfl rfl) rfl ?_
         refine WPL.q (q_load sc3 rfl rfl rfl) rfl ?_
         refine WPL.q (q_eql rfl rfl) rfl ?_
         refine WPL.q (q_mv (v := .lit (.bool _)) rfl) rfl ?_
         refine WPL.split (t := 17) (b := (decide (x15028.fLen = 0))) rfl (fun hb15034 => ?_) (fun hb15034 => ?_)
         · replace H := cnt hb15034 H
           refine WPL.qg rfl rfl (lb hb15034) (q_fieldAddr fi36_0 rfl rfl) rfl ?_
           refine WPL.qg rfl rfl (lb hb15034) (q_load sc3 rfl rfl rfl) rfl ?_
           refine WPL.qg rfl rfl (lb hb15034) (q_geq rfl rfl) rfl ?_
           refine WPL.q (q_pickT (v := .lit (.bool _)) (lb hb15034) rfl) rfl ?_
           refine WPL.q (q_mv (v := .lit (.bool _)) rfl) rfl ?_
           refine WPL.split (t := 22) (b := (decide (0 ≤ x15028.fByte))) rfl (fun hb15035 => ?_) (fun hb15035 => ?_)
           · replace H := cnt hb15035 H
             refine WPL.qg rfl rfl (lb hb15035) (q_fieldAddr fi36_0 rfl rfl) rfl ?_
             refine WPL.qg rfl rfl (lb hb15035) (q_load sc3 rfl rfl rfl) rfl ?_
             refine WPL.qg rfl rfl (lb hb15035) (q_lss rfl rfl) rfl ?_
             refine WPL.q (q_pickT (v := .lit (.bool _)) (lb hb15035) rfl) rfl ?_
             refine WPL.q (q_mv (v := .lit (.bool _)) rfl) rfl ?_
             refine WPL.split (t := 27) (b := (decide (x15028.fByte < 256))) rfl (fun hb15036 => ?_) (fun hb15036 => ?_)
             · replace H := cnt hb15036 H
               refine WPL.qg rfl rfl (lb hb15036) (q_fieldAddr fi36_2 rfl rfl) rfl ?_
               refine WPL.qg rfl rfl (lb hb15036) (q_load sc3 rfl rfl rfl) rfl ?_
               refine WPL.qg rfl rfl (lb hb15036) (q_eql rfl rfl) rfl ?_
               refine WPL.q (q_pickT (v := .lit (.bool _)) (lb hb15036) rfl) rfl ?_
               refine WPL.q (q_mv (v := .lit (.bool _)) rfl) rfl ?_
               refine WPL.split (t := 32) (b := (decide (x15028.fDist = 0))) rfl (fun hb15037 => ?_) (fun hb15037 => ?_)
               · replace H := cnt hb15037 H
                 refine WPL.qg rfl rfl (lb hb15037) (q_mv (v := .whole _) rfl) rfl ?_
                 refine WPL.qg rfl rfl (lb hb15037) (q_len_row sl22 rfl rfl) rfl ?_
                 obtain ⟨x15039, h15039, H⟩ := bnd H
                 refine WPL.qg rfl rfl (lb hb15037) (q_nm (q_lss rfl rfl) (nm_bool h15039)) rfl ?_
                 refine WPL.q (q_pickT (v := .lit (.bool _)) (lb hb15037) rfl) rfl ?_
                 refine WPL.q (q_as (v := .lit (.bool _)) rfl) rfl ?_
                 refine WPL.nilW ?_
                 have q0 := (Option.some.inj H)
                 subst q0
                 exact W.wk [0, 1] hnp ⟨rfl, rfl, rfl⟩ ⟨rfl, ⟨⟨trivial, .inr ⟨rfl, rfl, rfl⟩⟩, .inr ⟨rfl, rfl, rfl⟩⟩, by decide, rfl, trivial⟩ (LeE.upd rfl rfl (LeE.upd rfl rfl (LeE.upd rfl rfl (LeE.upd rfl rfl (LeE.upd rfl rfl (LeE.upd rfl rfl (LeE.none rfl rfl))))))) rfl
               replace H := cnf hb15037 H
               refine WPL.skipg (b' := false) rfl rfl (lb hb15037) rfl rfl (.inl trivial) ?_
               refine WPL.skipg (b' := false) rfl rfl (lb hb15037) rfl rfl (.inl trivial) ?_
               refine WPL.skipg (b' := false) rfl rfl (lb hb15037) rfl rfl (.inl trivial) ?_
               refine WPL.q (q_pickF (v := .lit (.bool _)) (lb hb15037) rfl) rfl ?_
               refine WPL.q (q_as (v := .lit (.bool _)) rfl) rfl ?_
               refine WPL.nilW ?_
               have q0 := (Option.some.inj H)
               subst q0
               exact W.wk [0, 1] hnp ⟨rfl, rfl, rfl⟩ ⟨rfl, ⟨⟨trivial, .inr ⟨rfl, rfl, rfl⟩⟩, .inr ⟨rfl, rfl, rfl⟩⟩, by decide, rfl, trivial⟩ (LeE.upd rfl rfl (LeE.upd rfl rfl (LeE.upd rfl rfl (LeE.upd rfl rfl (LeE.upd rfl rfl (LeE.upd rfl rfl (LeE.none rfl rfl))))))) rfl
             replace H := cnf hb15036 H
             refine WPL.skipg (b' := false) rfl rfl (lb hb15036) rfl rfl (.inl trivial) ?_
             refine WPL.skipg (b' := false) rfl rfl (lb hb15036) rfl rfl (.inl trivial) ?_
             refine WPL.skipg (b' := false) rfl rfl (lb hb15036) rfl rfl (.inl trivial) ?_
             refine WPL.q (q_pickF (v := .lit (.bool _)) (lb hb15036) rfl) rfl ?_
             refine WPL.q (q_mv (v := .lit (.bool _)) rfl) rfl ?_
             refine WPL.skipg (b' := false) rfl rfl rfl rfl rfl (.inl trivial) ?_
             refine WPL.skipg (b' := false) rfl rfl rfl rfl rfl (.inl trivial) ?_
             refine WPL.skipg (b' := false) rfl rfl rfl rfl rfl (.inl trivial) ?_
             refine WPL.q (q_pickF (v := .lit (.bool _)) rfl rfl) rfl ?_
             refine WPL.q (q_as (v := .lit (.bool _)) rfl) rfl ?_
             refine WPL.nilW ?_
             have q0 := (Option.some.inj H)
             subst q0
             exact W.wk [0, 1] hnp ⟨rfl, rfl, rfl⟩ ⟨rfl, ⟨⟨trivial, .inr ⟨rfl, rfl, rfl⟩⟩, .inr ⟨rfl, rfl, rfl⟩⟩, by decide, rfl, trivial⟩ (LeE.upd rfl rfl (LeE.upd rfl rfl (LeE.upd rfl rfl (LeE.upd rfl rfl (LeE.upd rfl rfl (LeE.upd rfl rfl (LeE.none rfl rfl))))))) rfl
           replace H := cnf hb15035 H
           refine WPL.skipg (b' := false) rfl rfl (lb hb15035) rfl rfl (.inl trivial) ?_
           refine WPL.skipg (b' := false) rfl rfl (lb hb15035) rfl rfl (.inl trivial) ?_
           refine WPL.skipg (b' := false) rfl rfl (lb hb15035) rfl rfl (.inl trivial) ?_
           refine WPL.q (q_pickF (v := .lit (.bool _)) (lb hb15035) rfl) rfl ?_
           refine WPL.q (q_mv (v := .lit (.bool _)) rfl) rfl ?_
           refine WPL.skipg (b' := false) rfl rfl rfl rfl rfl (.inl trivial) ?_
           refine WPL.skipg (b' := false) rfl rfl rfl rfl rfl (.inl trivial) ?_
           refine WPL.skipg (b' := false) rfl rfl rfl rfl rfl (.inl trivial) ?_
           refine WPL.q (q_pickF (v := .lit (.bool _)) rfl rfl) rfl ?_
           refine WPL.q (q_mv (v := .lit (.bool _)) rfl) rfl ?_
           refine WPL.skipg (b' := false) rfl rfl rfl rfl rfl (.inl trivial) ?_
           refine WPL.skipg (b' := false) rfl rfl rfl rfl rfl (.inl trivial) ?_
           refine WPL.skipg (b' := false) rfl rfl rfl rfl rfl (.inl trivial) ?_
           refine WPL.q (q_pickF (v := .lit (.bool _)) rfl rfl) rfl ?_
           refine WPL.q (q_as (v := .lit (.bool _)) rfl) rfl ?_
           refine WPL.nilW ?_
           have q0 := (Option.some.inj H)
           subst q0
           exact W.wk [0, 1] hnp ⟨rfl, rfl, rfl⟩ ⟨rfl, ⟨⟨trivial, .inr ⟨rfl, rfl, rfl⟩⟩, .inr ⟨rfl, rfl, rfl⟩⟩, by decide, rfl, trivial⟩ (LeE.upd rfl rfl (LeE.upd rfl rfl (LeE.upd rfl rfl (LeE.upd rfl rfl (LeE.upd rfl rfl (LeE.upd rfl rfl (LeE.none rfl rfl))))))) rfl
         replace H := cnf hb15034 H
         refine WPL.skipg (b' := false) rfl rfl (lb hb15034) rfl rfl (.inl trivial) ?_
         refine WPL.skipg (b' := false) rfl rfl (lb hb15034) rfl rfl (.inl trivial) ?_
         refine WPL.skipg (b' := false) rfl rfl (lb hb15034) rfl rfl (.inl trivial) ?_
         refine WPL.q (q_pickF (v := .lit (.bool _)) (lb hb15034) rfl) rfl ?_
         refine WPL.q (q_mv (v := .lit (.bool _)) rfl) rfl ?_
         refine WPL.skipg (b' := false) rfl rfl rfl rfl rfl (.inl trivial) ?_
         refine WPL.skipg (b' := false) rfl rfl rfl rfl rfl (.inl trivial) ?_
         refine WPL.skipg (b' := false) rfl rfl rfl rfl rfl (.inl trivial) ?_
         refine WPL.q (q_pickF (v := .lit (.bool _)) rfl rfl) rfl ?_
         refine WPL.q (q_mv (v := .lit (.bool _)) rfl) rfl ?_
         refine WPL.skipg (b' := false) rfl rfl rfl rfl rfl (.inl trivial) ?_
         refine WPL.skipg (b' := false) rfl rfl rfl rfl rfl (.inl trivial) ?_
         refine WPL.skipg (b' := false) rfl rfl rfl rfl rfl (.inl trivial) ?_
         refine WPL.q (q_pickF (v := .lit (.bool _)) rfl rfl) rfl ?_
         refine WPL.q (q_mv (v := .lit (.bool _)) rfl) rfl ?_
         refine WPL.skipg (b' := false) rfl rfl rfl rfl rfl (.inl trivial) ?_
         refine WPL.skipg (b' := false) rfl rfl rfl rfl rfl (.inl trivial) ?_
         refine WPL.skipg (b' := false) rfl rfl rfl rfl rfl (.inl trivial) ?_
         refine WPL.q (q_pickF (v := .lit (.bool _)) rfl rfl) rfl ?_
         refine WPL.q (q_as (v := .lit (.bool _)) rfl) rfl ?_
         refine WPL.nilW ?_
         have q0 := (Option.some.inj H)
         subst q0
         exact W.wk [0, 1] hnp ⟨rfl, rfl, rfl⟩ ⟨rfl, ⟨⟨trivial, .inr ⟨rfl, rfl, rfl⟩⟩, .inr ⟨rfl, rfl, rfl⟩⟩, by decide, rfl, trivial⟩ (LeE.upd rfl rfl (LeE.upd rfl rfl (LeE.upd rfl rfl (LeE.upd rfl rfl (LeE.upd rfl rfl (LeE.upd rfl rfl (LeE.none rfl rfl))))))) rfl
       rintro _ _ _ ⟨rfl, rfl, rfl⟩
       refine W.now ?_
       refine Then.n ?_
       refine WP.cond (t := x15034) rfl (fun hb15040 => ?_) (fun hb15040 => ?_)
       · replace H := cnt hb15040 H
         refine WP.region ?_
         refine WPL.q (q_mv (v := .whole _) rfl) rfl ?_
         refine WPL.q (q_fieldAddr fi36_0 rfl rfl) rfl ?_
         refine WPL.q (q_load sc3 rfl rfl rfl) rfl ?_
         refine WPL.q (q_conv Try.underlying3 Try.underlying5 rfl) rfl ?_
         refine WPL.d (d_buildSlice (ds := ([(IntKind.wrap .u8 x15028.fByte)] : List Int)) (R := (Rd.int .u8)) li22 rfl rfl rfl rfl rfl (JoinRows.cons1 Joins.sc rfl JoinRows.nil) rfl rfl) rfl ?_
         obtain ⟨h15041, H⟩ := grd H
         refine WPL.d (d_append ap22 rfl rfl rfl rfl (src_row sl22 rfl rfl) h15041 rfl) rfl ?_
         refine WPL.q (q_as (v := .whole _) rfl) rfl ?_
         refine WPL.nilW ?_
         have q0 := Option.some.inj H
         subst q0
         exact W.wk [3] hnp (InBlock.n (InBlock.n ⟨rfl, rfl, rfl⟩)) ⟨rfl, ⟨trivial, .inr ⟨rfl, rfl, rfl⟩⟩, by decide, rfl, trivial⟩ (LeE.upd rfl rfl (LeE.upd rfl rfl (LeE.upd rfl rfl (LeE.upd rfl rfl (LeE.none rfl rfl))))) rfl
       replace H := cnf hb15040 H
       refine WP.seq ?_
       obtain ⟨x15050, H15057, H⟩ := bnd H
       refine WP.monoW (Q := fun x E M => x = .normal ∧ E = ((((((Env.none.upd 4 (.whole 0)).upd 6 (.ptr 1 0)).upd 7 (.ro (Rd.slice rdS_deflate_Item) false x14430)).upd 8 (.lit (.int .i64 ((List.length x14430 : Nat) : Int)))).upd 9 (.lit (.int .i64 x14877))).upd 43 (.lit (.bool x15050))) ∧ M = ((Mem.nil.push (.row 5 (Rd.int .u8) x14878)).push (.cells 36 [.lit (.int .i64 x15028.fByte), .lit (.int .i64 x15028.fLen), .lit (.int .i64 x15028.fDist)]))) ?_ ?_
       · clear H
         have H := H15057
         clear H15057
         refine WP.region ?_
         refine WPL.q (q_fieldAddr fi36_0 rfl rfl) rfl ?_
         refine WPL.q (q_load sc3 rfl rfl rfl) rfl ?_
         refine WPL.q (q_eql rfl rfl) rfl ?_
         refine WPL.q (q_mv (v := .lit (.bool _)) rfl) rfl ?_
         refine WPL.split (t := 47) (b := (decide (x15028.fByte = 0))) rfl (fun hb15050 => ?_) (fun hb15050 => ?_)
         · replace H := cnt hb15050 H
           refine WPL.qg rfl rfl (lb hb15050) (q_fieldAddr fi36_1 rfl rfl) rfl ?_
           refine WPL.qg rfl rfl (lb hb15050) (q_load sc3 rfl rfl rfl) rfl ?_
           refine WPL.qg rfl rfl (lb hb15050) (q_geq rfl rfl) rfl ?_
           refine WPL.q (q_pickT (v := .lit (.bool _)) (lb hb15050) rfl) rfl ?_
           refine WPL.q (q_mv (v := .lit (.bool _)) rfl) rfl ?_
           refine WPL.split (t := 52) (b := (decide (3 ≤ x15028.fLen))) rfl (fun hb15051 => ?_) (fun hb15051 => ?_)
           · replace H := cnt hb15051 H
             refine WPL.qg rfl rfl (lb hb15051) (q_fieldAddr fi36_1 rfl rfl) rfl ?_
             refine WPL.qg rfl rfl (lb hb15051) (q_load sc3 rfl rfl rfl) rfl ?_
             refine WPL.qg rfl rfl (lb hb15051) (q_leq rfl rfl) rfl ?_
             refine WPL.q (q_pickT (v := .lit (.bool _)) (lb hb15051) rfl) rfl ?_
             refine WPL.q (q_mv (v := .lit (.bool _)) rfl) rfl ?_
             refine WPL.split (t := 57) (b := (decide (x15028.fLen ≤ 258))) rfl (fun hb15052 => ?_) (fun hb15052 => ?_)
             · replace H := cnt hb15052 H
               refine WPL.qg rfl rfl (lb hb15052) (q_fieldAddr fi36_2 rfl rfl) rfl ?_
               refine WPL.qg rfl rfl (lb hb15052) (q_load sc3 rfl rfl rfl) rfl ?_
               refine WPL.qg rfl rfl (lb hb15052) (q_geq rfl rfl) rfl ?_
               refine WPL.q (q_pickT (v := .lit (.bool _)) (lb hb15052) rfl) rfl ?_
               refine WPL.q (q_mv (v := .lit (.bool _)) rfl) rfl ?_
               refine WPL.split (t := 62) (b := (decide (1 ≤ x15028.fDist))) rfl (fun hb15053 => ?_) (fun hb15053 => ?_)
               · replace H := cnt hb15053 H
                 refine WPL.qg rfl rfl (lb hb15053) (q_fieldAddr fi36_2 rfl rfl) rfl ?_
                 refine WPL.qg rfl rfl (lb hb15053) (q_load sc3 rfl rfl rfl) rfl ?_
                 refine WPL.qg rfl rfl (lb hb15053) (q_mv (v := .whole _) rfl) rfl ?_
                 refine WPL.qg rfl rfl (lb hb15053) (q_len_row sl22 rfl rfl) rfl ?_
                 obtain ⟨x15055, h15055, H⟩ := bnd H
                 refine WPL.qg rfl rfl (lb hb15053) (q_nm (q_min rfl rfl) (nm_int h15055)) rfl ?_
                 refine WPL.qg rfl rfl (lb hb15053) (q_leq rfl rfl) rfl ?_
                 refine WPL.q (q_pickT (v := .lit (.bool _)) (lb hb15053) rfl) rfl ?_
                 refine WPL.q (q_mv (v := .lit (.bool _)) rfl) rfl ?_
                 refine WPL.split (t := 70) (b := (decide (x15028.fDist ≤ x15055))) rfl (fun hb15055 => ?_) (fun hb15055 => ?_)
                 · replace H := cnt hb15055 H
                   refine WPL.qg rfl rfl (lb hb15055) (q_fieldAddr fi36_1 rfl rfl) rfl ?_
                   refine WPL.qg rfl rfl (lb hb15055) (q_load sc3 rfl rfl rfl) rfl ?_
                   refine WPL.qg rfl rfl (lb hb15055) (q_mv (v := .whole _) rfl) rfl ?_
                   refine WPL.qg rfl rfl (lb hb15055) (q_len_row sl22 rfl rfl) rfl ?_
                   obtain ⟨x15057, h15057, H⟩ := bnd H
                   refine WPL.qg rfl rfl (lb hb15055) (q_nm (q_sub rfl rfl) (nm_int h15057)) rfl ?_
                   refine WPL.qg rfl rfl (lb hb15055) (q_leq rfl rfl) rfl ?_
                   refine WPL.q (q_pickT (v := .lit (.bool _)) (lb hb15055) rfl) rfl ?_
                   refine WPL.q (q_as (v := .lit (.bool _)) rfl) rfl ?_
                   refine WPL.nilW ?_
                   have q0 := (Option.some.inj H)
                   subst q0
                   exact W.wk [0, 1] hnp ⟨rfl, rfl, rfl⟩ ⟨rfl, ⟨⟨trivial, .inr ⟨rfl, rfl, rfl⟩⟩, .inr ⟨rfl, rfl, rfl⟩⟩, by decide, rfl, trivial⟩ (LeE.upd rfl rfl (LeE.upd rfl rfl (LeE.upd rfl rfl (LeE.upd rfl rfl (LeE.upd rfl rfl (LeE.upd rfl rfl (LeE.none rfl rfl))))))) rfl
                 replace H := cnf hb15055 H
                 refine WPL.skipg (b' := false) rfl rfl (lb hb15055) rfl rfl (.inl trivial) ?_
                 refine WPL.skipg (b' := false) rfl rfl (lb hb15055) rfl rfl (.inl trivial) ?_
                 refine WPL.skipg (b' := false) rfl rfl (lb hb15055) rfl rfl (.inl trivial) ?_
                 refine WPL.skipg (b' := false) rfl rfl (lb hb15055) rfl rfl (.inl trivial) ?_
                 refine WPL.skipg (b' := false) rfl rfl (lb hb15055) rfl rfl (.inl trivial) ?_
                 refine WPL.skipg (b' := false) rfl rfl (lb hb15055) rfl rfl (.inl trivial) ?_
                 refine WPL.q (q_pickF (v := .lit (.bool _)) (lb hb15055) rfl) rfl ?_
                 refine WPL.q (q_as (v := .lit (.bool _)) rfl) rfl ?_
                 refine WPL.nilW ?_
                 have q0 := (Option.some.inj H)
                 subst q0
                 exact W.wk [0, 1] hnp ⟨rfl, rfl, rfl⟩ ⟨rfl, ⟨⟨trivial, .inr ⟨rfl, rfl, rfl⟩⟩, .inr ⟨rfl, rfl, rfl⟩⟩, by decide, rfl, trivial⟩ (LeE.upd rfl rfl (LeE.upd rfl rfl (LeE.upd rfl rfl (LeE.upd rfl rfl (LeE.upd rfl rfl (LeE.upd rfl rfl (LeE.none rfl rfl))))))) rfl
               replace H := cnf hb15053 H
               refine WPL.skipg (b' := false) rfl rfl (lb hb15053) rfl rfl (.inl trivial) ?_
               refine WPL.skipg (b' := false) rfl rfl (lb hb15053) rfl rfl (.inl trivial) ?_
               refine WPL.skipg (b' := false) rfl rfl (lb hb15053) rfl rfl (.inl trivial) ?_
               refine WPL.skipg (b' := false) rfl rfl (lb hb15053) rfl rfl (.inl trivial) ?_
               refine WPL.skipg (b' := false) rfl rfl (lb hb15053) rfl rfl (.inl trivial) ?_
               refine WPL.skipg (b' := false) rfl rfl (lb hb15053) rfl rfl (.inl trivial) ?_
               refine WPL.q (q_pickF (v := .lit (.bool _)) (lb hb15053) rfl) rfl ?_
               refine WPL.q (q_mv (v := .lit (.bool _)) rfl) rfl ?_
               refine WPL.skipg (b' := false) rfl rfl rfl rfl rfl (.inl trivial) ?_
               refine WPL.skipg (b' := false) rfl rfl rfl rfl rfl (.inl trivial) ?_
               refine WPL.skipg (b' := false) rfl rfl rfl rfl rfl (.inl trivial) ?_
               refine WPL.skipg (b' := false) rfl rfl rfl rfl rfl (.inl trivial) ?_
               refine WPL.skipg (b' := false) rfl rfl rfl rfl rfl (.inl trivial) ?_
               refine WPL.skipg (b' := false) rfl rfl rfl rfl rfl (.inl trivial) ?_
               refine WPL.q (q_pickF (v := .lit (.bool _)) rfl rfl) rfl ?_
               refine WPL.q (q_as (v := .lit (.bool _)) rfl) rfl ?_
               refine WPL.nilW ?_
               have q0 := (Option.some.inj H)
               subst q0
               exact W.wk [0, 1] hnp ⟨rfl, rfl, rfl⟩ ⟨rfl, ⟨⟨trivial, .inr ⟨rfl, rfl, rfl⟩⟩, .inr ⟨rfl, rfl, rfl⟩⟩, by decide, rfl, trivial⟩ (LeE.upd rfl rfl (LeE.upd rfl rfl (LeE.upd rfl rfl (LeE.upd rfl rfl (LeE.upd rfl rfl (LeE.upd rfl rfl (LeE.none rfl rfl))))))) rfl
             replace H := cnf hb15052 H
             refine WPL.skipg (b' := false) rfl rfl (lb hb15052) rfl rfl (.inl trivial) ?_
             refine WPL.skipg (b' := false) rfl rfl (lb hb15052) rfl rfl (.inl trivial) ?_
             refine WPL.skipg (b' := false) rfl rfl (lb hb15052) rfl rfl (.inl trivial) ?_
             refine WPL.q (q_pickF (v := .lit (.bool _)) (lb hb15052) rfl) rfl ?_
             refine WPL.q (q_mv (v := .lit (.bool _)) rfl) rfl ?_
             refine WPL.skipg (b' := false) rfl rfl rfl rfl rfl (.inl trivial) ?_
             refine WPL.skipg (b' := false) rfl rfl rfl rfl rfl (.inl trivial) ?_
             refine WPL.skipg (b' := false) rfl rfl rfl rfl rfl (.inl trivial) ?_
             refine WPL.skipg (b' := false) rfl rfl rfl rfl rfl (.inl trivial) ?_
             refine WPL.skipg (b' := false) rfl rfl rfl rfl rfl (.inl trivial) ?_
             refine WPL.skipg (b' := false) rfl rfl rfl rfl rfl (.inl trivial) ?_
             refine WPL.q (q_pickF (v := .lit (.bool _)) rfl rfl) rfl ?_
             refine WPL.q (q_mv (v := .lit (.bool _)) rfl) rfl ?_
             refine WPL.skipg (b' := false) rfl rfl rfl rfl rfl (.inl trivial) ?_
             refine WPL.skipg (b' := false) rfl rfl rfl rfl rfl (.inl trivial) ?_
             refine WPL.skipg (b' := false) rfl rfl rfl rfl rfl (.inl trivial) ?_
             refine WPL.skipg (b' := false) rfl rfl rfl rfl rfl (.inl trivial) ?_
             refine WPL.skipg (b' := false) rfl rfl rfl rfl rfl (.inl trivial) ?_
             refine WPL.skipg (b' := false) rfl rfl rfl rfl rfl (.inl trivial) ?_
             refine WPL.q (q_pickF (v := .lit (.bool _)) rfl rfl) rfl ?_
             refine WPL.q (q_as (v := .lit (.bool _)) rfl) rfl ?_
             refine WPL.nilW ?_
             have q0 := (Option.some.inj H)
             subst q0
             exact W.wk [0, 1] hnp ⟨rfl, rfl, rfl⟩ ⟨rfl, ⟨⟨trivial, .inr ⟨rfl, rfl, rfl⟩⟩, .inr ⟨rfl, rfl, rfl⟩⟩, by decide, rfl, trivial⟩ (LeE.upd rfl rfl (LeE.upd rfl rfl (LeE.upd rfl rfl (LeE.upd rfl rfl (LeE.upd rfl rfl (LeE.upd rfl rfl (LeE.none rfl rfl))))))) rfl
           replace H := cnf hb15051 H
           refine WPL.skipg (b' := false) rfl rfl (lb hb15051) rfl rfl (.inl trivial) ?_
           refine WPL.skipg (b' := false) rfl rfl (lb hb15051) rfl rfl (.inl trivial) ?_
           refine WPL.skipg (b' := false) rfl rfl (lb hb15051) rfl rfl (.inl trivial) ?_
           refine WPL.q (q_pickF (v := .lit (.bool _)) (lb hb15051) rfl) rfl ?_
           refine WPL.q (q_mv (v := .lit (.bool _)) rfl) rfl ?_
           refine WPL.skipg (b' := false) rfl rfl rfl rfl rfl (.inl trivial) ?_
           refine WPL.skipg (b' := false) rfl rfl rfl rfl rfl (.inl trivial) ?_
           refine WPL.skipg (b' := false) rfl rfl rfl rfl rfl (.inl trivial) ?_
           refine WPL.q (q_pickF (v := .lit (.bool _)) rfl rfl) rfl ?_
           refine WPL.q (q_mv (v := .lit (.bool _)) rfl) rfl ?_
           refine WPL.skipg (b' := false) rfl rfl rfl rfl rfl (.inl trivial) ?_
           refine WPL.skipg (b' := false) rfl rfl rfl rfl rfl (.inl trivial) ?_
           refine WPL.skipg (b' := false) rfl rfl rfl rfl rfl (.inl trivial) ?_
           refine WPL.skipg (b' := false) rfl rfl rfl rfl rfl (.inl trivial) ?_
           refine WPL.skipg (b' := false) rfl rfl rfl rfl rfl (.inl trivial) ?_
           refine WPL.skipg (b' := false) rfl rfl rfl rfl rfl (.inl trivial) ?_
           refine WPL.q (q_pickF (v := .lit (.bool _)) rfl rfl) rfl ?_
           refine WPL.q (q_mv (v := .lit (.bool _)) rfl) rfl ?_
           refine WPL.skipg (b' := false) rfl rfl rfl rfl rfl (.inl trivial) ?_
           refine WPL.skipg (b' := false) rfl rfl rfl rfl rfl (.inl trivial) ?_
           refine WPL.skipg (b' := false) rfl rfl rfl rfl rfl (.inl trivial) ?_
           refine WPL.skipg (b' := false) rfl rfl rfl rfl rfl (.inl trivial) ?_
           refine WPL.skipg (b' := false) rfl rfl rfl rfl rfl (.inl trivial) ?_
           refine WPL.skipg (b' := false) rfl rfl rfl rfl rfl (.inl trivial) ?_
           refine WPL.q (q_pickF (v := .lit (.bool _)) rfl rfl) rfl ?_
           refine WPL.q (q_as (v := .lit (.bool _)) rfl) rfl ?_
           refine WPL.nilW ?_
           have q0 := (Option.some.inj H)
           subst q0
           exact W.wk [0, 1] hnp ⟨rfl, rfl, rfl⟩ ⟨rfl, ⟨⟨trivial, .inr ⟨rfl, rfl, rfl⟩⟩, .inr ⟨rfl, rfl, rfl⟩⟩, by decide, rfl, trivial⟩ (LeE.upd rfl rfl (LeE.upd rfl rfl (LeE.upd rfl rfl (LeE.upd rfl rfl (LeE.upd rfl rfl (LeE.upd rfl rfl (LeE.none rfl rfl))))))) rfl
         replace H := cnf hb15050 H
         refine WPL.skipg (b' := false) rfl rfl (lb hb15050) rfl rfl (.inl trivial) ?_
         refine WPL.skipg (b' := false) rfl rfl (lb hb15050) rfl rfl (.inl trivial) ?_
         refine WPL.skipg (b' := false) rfl rfl (lb hb15050) rfl rfl (.inl trivial) ?_
         refine WPL.q (q_pickF (v := .lit (.bool _)) (lb hb15050) rfl) rfl ?_
         refine WPL.q (q_mv (v := .lit (.bool _)) rfl) rfl ?_
         refine WPL.skipg (b' := false) rfl rfl rfl rfl rfl (.inl trivial) ?_
         refine WPL.skipg (b' := false) rfl rfl rfl rfl rfl (.inl trivial) ?_
         refine WPL.skipg (b' := false) rfl rfl rfl rfl rfl (.inl trivial) ?_
         refine WPL.q (q_pickF (v := .lit (.bool _)) rfl rfl) rfl ?_
         refine WPL.q (q_mv (v := .lit (.bool _)) rfl) rfl ?_
         refine WPL.skipg (b' := false) rfl rfl rfl rfl rfl (.inl trivial) ?_
         refine WPL.skipg (b' := false) rfl rfl rfl rfl rfl (.inl trivial) ?_
         refine WPL.skipg (b' := false) rfl rfl rfl rfl rfl (.inl trivial) ?_
         refine WPL.q (q_pickF (v := .lit (.bool _)) rfl rfl) rfl ?_
         refine WPL.q (q_mv (v := .lit (.bool _)) rfl) rfl ?_
         refine WPL.skipg (b' := false) rfl rfl rfl rfl rfl (.inl trivial) ?_
         refine WPL.skipg (b' := false) rfl rfl rfl rfl rfl (.inl trivial) ?_
         refine WPL.skipg (b' := false) rfl rfl rfl rfl rfl (.inl trivial) ?_
         refine WPL.skipg (b' := false) rfl rfl rfl rfl rfl (.inl trivial) ?_
         refine WPL.skipg (b' := false) rfl rfl rfl rfl rfl (.inl trivial) ?_
         refine WPL.skipg (b' := false) rfl rfl rfl rfl rfl (.inl trivial) ?_
         refine WPL.q (q_pickF (v := .lit (.bool _)) rfl rfl) rfl ?_
         refine WPL.q (q_mv (v := .lit (.bool _)) rfl) rfl ?_
         refine WPL.skipg (b' := false) rfl rfl rfl rfl rfl (.inl trivial) ?_
         refine WPL.skipg (b' := false) rfl rfl rfl rfl rfl (.inl trivial) ?_
         refine WPL.skipg (b' := false) rfl rfl rfl rfl rfl (.inl trivial) ?_
         refine WPL.skipg (b' := false) rfl rfl rfl rfl rfl (.inl trivial) ?_
         refine WPL.skipg (b' := false) rfl rfl rfl rfl rfl (.inl trivial) ?_
         refine WPL.skipg (b' := false) rfl rfl rfl rfl rfl (.inl trivial) ?_
         refine WPL.q (q_pickF (v := .lit (.bool _)) rfl rfl) rfl ?_
         refine WPL.q (q_as (v := .lit (.bool _)) rfl) rfl ?_
         refine WPL.nilW ?_
         have q0 := (Option.some.inj H)
         subst q0
         exact W.wk [0, 1] hnp ⟨rfl, rfl, rfl⟩ ⟨rfl, ⟨⟨trivial, .inr ⟨rfl, rfl, rfl⟩⟩, .inr ⟨rfl, rfl, rfl⟩⟩, by decide, rfl, trivial⟩ (LeE.upd rfl rfl (LeE.upd rfl rfl (LeE.upd rfl rfl (LeE.upd rfl rfl (LeE.upd rfl rfl (LeE.upd rfl rfl (LeE.none rfl rfl))))))) rfl
       rintro _ _ _ ⟨rfl, rfl, rfl⟩
       refine W.now ?_
       refine Then.n ?_
       refine WP.cond (t := x15050) rfl (fun hb15058 => ?_) (fun hb15058 => ?_)
       · replace H := cnt hb15058 H
         refine WP.seq ?_
         refine WP.region ?_
         refine WPL.q (q_fieldAddr fi36_1 rfl rfl) rfl ?_
         refine WPL.q (q_load sc3 rfl rfl rfl) rfl ?_
         refine WPL.q (q_mv (v := .lit (.int _ _)) rfl) rfl ?_
         refine WPL.nilW ?_
         refine W.now ?_
         refine Then.n ?_
         refine WP.block ?_
         refine WP.cv (Cv.weak (E' := (((((((Env.none.upd 4 (.whole 0)).upd 6 (.ptr 1 0)).upd 7 (.ro (Rd.slice rdS_deflate_Item) false x14430)).upd 8 (.lit (.int .i64 ((List.length x14430 : Nat) : Int)))).upd 9 (.lit (.int .i64 x14877))).upd 79 (.lit (.int .i64 x15028.fLen))).upd 80 (.lit (.int .i64 0)))) (M' := ((Mem.nil.push (.row 5 (Rd.int .u8) x14878)).push (.cells 36 [.lit (.int .i64 x15028.fByte), .lit (.int .i64 x15028.fLen), .lit (.int .i64 x15028.fDist)]))) [0, 1] hnp ⟨rfl, ⟨⟨trivial, .inr ⟨rfl, rfl, rfl⟩⟩, .inr ⟨rfl, rfl, rfl⟩⟩, by decide, rfl, trivial⟩ (LeE.upd rfl rfl (LeE.upd rfl rfl (LeE.upd rfl rfl (LeE.upd rfl rfl (LeE.upd rfl rfl (LeE.upd rfl rfl (LeE.upd rfl rfl (LeE.none rfl rfl))))))))) ?_
         obtain ⟨x15072, H15077, H⟩ := bnd H
         refine WP.monoW (Q := fun x E M => x = .exit 3 ∧ E = ((((Env.none.upd 4 (.whole 0)).upd 7 (.ro (Rd.slice rdS_deflate_Item) false x14430)).upd 8 (.lit (.int .i64 ((List.length x14430 : Nat) : Int)))).upd 9 (.lit (.int .i64 x14877))) ∧ M = (Mem.nil.push (.row 5 (Rd.int .u8) x15072))) ?_ ?_
         · refine WP.loop (β := Int × (List Int)) (fun n b => g_deflate_Unparse_l1 k x15028 n b.1 b.2 = some x15072) (fun b => (((((((Env.none.upd 4 (.whole 0)).upd 6 (.ptr 1 0)).upd 7 (.ro (Rd.slice rdS_deflate_Item) false x14430)).upd 8 (.lit (.int .i64 ((List.length x14430 : Nat) : Int)))).upd 9 (.lit (.int .i64 x14877))).upd 79 (.lit (.int .i64 x15028.fLen))).upd 80 (.lit (.int .i64 b.1)))) (fun b => ((Mem.nil.push (.row 5 (Rd.int .u8) b.2)).push (.cells 36 [.lit (.int .i64 x15028.fByte), .lit (.int .i64 x15028.fLen), .lit (.int .i64 x15028.fDist)]))) k (0, x14878) H15077 rfl rfl ?_
           rintro n ⟨x15065, x15066⟩ H
           obtain _ | n := n
           · exact nf rfl H
           rw [g_deflate_Unparse_l1.eq_2] at H
           show WP _ _ _ _ (((((((Env.none.upd 4 (.whole 0)).upd 6 (.ptr 1 0)).upd 7 (.ro (Rd.slice rdS_deflate_Item) false x14430)).upd 8 (.lit (.int .i64 ((List.length x14430 : Nat) : Int)))).upd 9 (.lit (.int .i64 x14877))).upd 79 (.lit (.int .i64 x15028.fLen))).upd 80 (.lit (.int .i64 x15065))) ((Mem.nil.push (.row 5 (Rd.int .u8) x15066)).push (.cells 36 [.lit (.int .i64 x15028.fByte), .lit (.int .i64 x15028.fLen), .lit (.int .i64 x15028.fDist)])) _
           refine WP.seq ?_
           refine WP.region ?_
           refine WPL.q (q_lss rfl rfl) rfl ?_
           refine WPL.nilW ?_
           refine W.now ?_
           refine Then.n ?_
           refine WP.seq ?_
           refine WP.cond (t := (decide (x15065 < x15028.fLen))) rfl (fun hb15073 => ?_) (fun hb15073 => ?_)
           · replace H := cnt hb15073 H
             refine WP.skipW ?_
             refine W.now ?_
             refine Then.n ?_
             refine WP.seq ?_
             refine WP.block ?_
             refine WP.region ?_
             refine WPL.q (q_mv (v := .whole _) rfl) rfl ?_
             refine WPL.q (q_mv (v := .whole _) rfl) rfl ?_
             refine WPL.q (q_mv (v := .whole _) rfl) rfl ?_
             refine WPL.q (q_len_row sl22 rfl rfl) rfl ?_
             refine WPL.q (q_fieldAddr fi36_2 rfl rfl) rfl ?_
             refine WPL.q (q_load sc3 rfl rfl rfl) rfl ?_
             obtain ⟨x15075, h15075, H⟩ := bnd H
             refine WPL.q (q_nm (q_sub rfl rfl) (nm_int h15075)) rfl ?_
             obtain ⟨x15076, h15076, H⟩ := bnd H
             refine WPL.q (q_index_row sl22 rfl rfl rfl (ixs h15076)) rfl ?_
             refine WPL.q (q_load_row (j := (Int.toNat x15075)) sc5 rfl rfl (ixj h15076)) rfl ?_
             refine WPL.d (d_buildSlice (ds := ([x15076] : List Int)) (R := (Rd.int .u8)) li22 rfl rfl rfl rfl rfl (JoinRows.cons1 Joins.sc rfl JoinRows.nil) rfl rfl) rfl ?_
             obtain ⟨h15076, H⟩ := grd H
             refine WPL.d (d_append ap22 rfl rfl rfl rfl (src_row sl22 rfl rfl) h15076 rfl) rfl ?_
             refine WPL.q (q_as (v := .whole _) rfl) rfl ?_
             refine WPL.nilW ?_
             refine W.now ?_
             refine InBlock.n ?_
             refine Then.n ?_
             refine WP.region ?_
             refine WPL.q (q_add rfl rfl) rfl ?_
             refine WPL.q (q_mv (v := .lit (.int _ _)) rfl) rfl ?_
             refine WPL.nilW ?_
             exact W.wk [3, 1] hnp (Then.n ⟨n, ((IntKind.wrap .i64 (x15065 + 1)), (x15066 ++ ([x15076] : List Int))), Nat.lt_succ_self n, H, rfl, rfl⟩) ⟨rfl, ⟨⟨trivial, .inr ⟨rfl, rfl, rfl⟩⟩, .inr ⟨rfl, rfl, rfl⟩⟩, by decide, rfl, trivial⟩ (LeE.upd rfl rfl (LeE.upd rfl rfl (LeE.upd rfl rfl (LeE.upd rfl rfl (LeE.upd rfl rfl (LeE.upd rfl rfl (LeE.upd rfl rfl (LeE.none rfl rfl)))))))) rfl
           replace H := cnf hb15073 H
           refine WP.exitW ?_
           have q0 := (Option.some.inj H)
           subst q0
           exact W.wk [0] hnp (Then.x (Then.x ⟨rfl, rfl, rfl⟩)) ⟨rfl, ⟨trivial, .inr ⟨rfl, rfl, rfl⟩⟩, by decide, rfl, trivial⟩ (LeE.upd rfl rfl (LeE.upd rfl rfl (LeE.upd rfl rfl (LeE.upd rfl rfl (LeE.none rfl rfl))))) rfl
         rintro _ _ _ ⟨rfl, rfl, rfl⟩
         have q0 := Option.some.inj H
         subst q0
         exact W.wk [0] hnp (InBlock.x0 (InBlock.n (InBlock.n ⟨rfl, rfl, rfl⟩))) ⟨rfl, ⟨trivial, .inr ⟨rfl, rfl, rfl⟩⟩, by decide, rfl, trivial⟩ (LeE.upd rfl rfl (LeE.upd rfl rfl (LeE.upd rfl rfl (LeE.upd rfl rfl (LeE.none rfl rfl))))) rfl
       replace H := cnf hb15058 H
       refine WP.seq ?_
       refine WP.region ?_
       refine WPL.q (q_as (v := .lit _) rfl) rfl ?_
       refine WPL.q (q_as (v := .lit (.bool _)) rfl) rfl ?_
       refine WPL.nilW ?_
       refine W.now ?_
       refine Then.n ?_
       refine WP.retW ?_
       have q0 := Option.some.inj H
       subst q0
       exact W.wk [] hnp (InBlock.r (InBlock.r ⟨rfl, rfl, rfl⟩)) ⟨rfl, trivial, by decide, rfl, trivial⟩ (LeE.upd rfl rfl (LeE.upd rfl rfl (LeE.none rfl rfl))) rfl
     rcases y15080 with x15027 | _
     · rintro _ _ _ ⟨rfl, rfl, rfl⟩
       refine W.now ?_
       refine Then.n ?_
       refine WP.region ?_
       refine WPL.q (q_add rfl rfl) rfl ?_
       refine WPL.q (q_mv (v := .lit (.int _ _)) rfl) rfl ?_
       refine WPL.nilW ?_
       exact W.wk [0] hnp (Then.n ⟨n, ((IntKind.wrap .i64 (x14877 + 1)), x15027), Nat.lt_succ_self n, H, rfl, rfl⟩) ⟨rfl, ⟨trivial, .inr ⟨rfl, rfl, rfl⟩⟩, by decide, rfl, trivial⟩ (LeE.upd rfl rfl (LeE.upd rfl rfl (LeE.upd rfl rfl (LeE.upd rfl rfl (LeE.none rfl rfl))))) rfl
     rintro _ _ _ ⟨rfl, rfl, rfl⟩
     have q0 := Option.some.inj H
     subst q0
     exact W.wk [] hnp (Then.r (Then.r ⟨rfl, rfl, rfl⟩)) ⟨rfl, trivial, by decide, rfl, trivial⟩ (LeE.upd rfl rfl (LeE.upd rfl rfl (LeE.none rfl rfl))) rfl
   replace H := cnf hb14979 H
   refine WP.exitW ?_
   have q0 := Option.some.inj H
   subst q0
   exact W.wk [0] hnp (Then.x (Then.x ⟨rfl, rfl, rfl⟩)) ⟨rfl, ⟨trivial, .inr ⟨rfl, rfl, rfl⟩⟩, by decide, rfl, trivial⟩ (LeE.upd rfl rfl (LeE.none rfl rfl)) rfl
 rcases y15082 with _ | x14977
 · rintro _ _ _ ⟨rfl, rfl, rfl⟩
   refine W.cv (Cv.nilRo (Rd.int .u8) false 2 rfl) rfl ?_
   have q0 := (Prod.mk.inj (Option.some.inj H)).1
   have q1 := (Prod.mk.inj (Option.some.inj H)).2
   subst q0
   subst q1
   exact W.now (InBlock.r (Then.r (BodyR.mkR trivial rfl [] ⟨rfl, rfl⟩ ⟨rfl, trivial, by decide, rfl, trivial⟩ rfl rfl)))
 rintro _ _ _ ⟨rfl, rfl, rfl⟩
 refine W.now ?_
 refine InBlock.x0 ?_
 refine Then.n ?_
 refine WP.seq ?_
 refine WP.region ?_
 refine WPL.q (q_mv (v := .whole _) rfl) rfl ?_
 refine WPL.q (q_as (v := .whole _) rfl) rfl ?_
 refine WPL.q (q_as (v := .lit (.bool _)) rfl) rfl ?_
 refine WPL.nilW ?_
 refine W.now ?_
 refine Then.n ?_
 refine WP.retW ?_
 refine W.cv (Cv.frzRow (i := 0) rfl rfl hnp rfl rfl) rfl ?_
 have q0 := (Prod.mk.inj (Option.some.inj H)).1
 have q1 := (Prod.mk.inj (Option.some.inj H)).2
 subst q0
 subst q1
 exact W.now (BodyR.mkR trivial rfl [] ⟨rfl, rfl⟩ ⟨rfl, trivial, by decide, rfl, trivial⟩ rfl rfl)
set_option maxRecDepth 100000 in
set_option maxHeartbeats 4000000 in
theorem s_quirelaw01_Same__b (k : Nat) (x15088 : (List Int)) (x15089 : (List Int)) (x15092 : Bool) (H : g_quirelaw01_Same k x15088 x15089 = some x15092) : Go.Q.Spec Try.prog 10 0 [.ro (Rd.slice (Rd.int .u8)) false x15088, .ro (Rd.slice (Rd.int .u8)) false x15089] Mem.nil (fun o M => o = .ret (.lit (.bool x15092)) ∧ M = Mem.nil) := by
 unfold g_quirelaw01_Same at H
 refine Go.Q.Spec.of_bodyR (az := []) (rs := [.tmp 4]) (nt := 10) Try.func10 rfl rfl (by intro t T h; simp at h) rfl rfl fun cx hnp => ?_
 refine WP.seq ?_
 refine WP.region ?_
 refine WPL.q (q_as (v := .lit (.bool _)) rfl) rfl ?_
 refine WPL.nilW ?_
 refine W.now ?_
 refine Then.n ?_
 refine WP.seq ?_
 refine WP.region ?_
 refine WPL.q (q_mv (v := .ro _ _ _) rfl) rfl ?_
 refine WPL.q (q_bytes_str Try.underlying22 Try.underlying5 Try.underlying9 rfl) rfl ?_
 refine WPL.q (q_mv (v := .ro _ _ _) rfl) rfl ?_
 refine WPL.q (q_bytes_str Try.underlying22 Try.underlying5 Try.underlying9 rfl) rfl ?_
 obtain ⟨x15093, h15093, H⟩ := bnd H
 refine WPL.q (q_nm (q_eqls rfl rfl) (nm_bool h15093)) rfl ?_
 refine WPL.q (q_as (v := .lit (.bool _)) rfl) rfl ?_
 refine WPL.nilW ?_
 refine W.now ?_
 refine Then.n ?_
 refine WP.retW ?_
 have q0 := (Option.some.inj H)
 subst q0
 exact W.now (BodyR.mkR trivial rfl [] ⟨rfl, rfl⟩ ⟨rfl, trivial, by decide, rfl, trivial⟩ rfl rfl)
set_option maxRecDepth 100000 in
set_option maxHeartbeats 4000000 in
theorem s_quirelaw04_DeflateParse (k : Nat) (x2 : (List Int)) (r : (Bool ⊕ ByteArray)) (H : g_quirelaw04_DeflateParse k x2 = some r) : Go.Q.Spec Try.prog 6 0 [.ro (Rd.slice (Rd.int .u8)) false x2] Mem.nil (fun o M => match (generalizing := false) r with | (Sum.inl x15398) => o = .ret (.lit (.bool x15398)) ∧ M = Mem.nil | (Sum.inr x15399) => o = .pan (.ifc 9 (.lit (.string x15399))) ∧ M = Mem.nil) := by
 unfold g_quirelaw04_DeflateParse at H
 refine Go.Q.Spec.of_bodyR (az := []) (rs := [.tmp 2]) (nt := 121) Try.func6 rfl rfl (by intro t T h; simp at h) rfl rfl fun cx hnp => ?_
 refine WP.seq ?_
 refine WP.region ?_
 refine WPL.q (q_as (v := .lit (.bool _)) rfl) rfl ?_
 refine WPL.nilW ?_
 refine W.now ?_
 refine Then.n ?_
 refine WP.seq ?_
 refine WP.seq ?_
 refine WP.region ?_
 refine WPL.q (q_mv (v := .ro _ _ _) rfl) rfl ?_
 refine WPL.q (q_len_ro sl22 rfl) rfl ?_
 obtain ⟨x15406, h15406, H⟩ := bnd H
 refine WPL.q (q_nm (q_gtr rfl rfl) (nm_bool h15406)) rfl ?_
 refine WPL.nilW ?_
 refine W.now ?_
 refine Then.n ?_
 refine WP.cond (t := x15406) rfl (fun hb15406 => ?_) (fun hb15406 => ?_)
 · replace H := cnt hb15406 H
   refine WP.seq ?_
   refine WP.region ?_
   obtain ⟨y15411, h15407, H⟩ := bnd H
   rcases y15411 with x15409 | x15410
   · refine WPL.c (runs_call (s := []) (t := []) (N := 0) (bor := []) fn8 rfl (s_quirelaw04_alive k (Sum.inl x15409) h15407) ⟨rfl, trivial, by decide, rfl, trivial⟩ rfl trivial .nil rfl trivial rfl) rfl ?_
     refine WPL.q (q_as (v := .lit (.bool _)) rfl) rfl ?_
     refine WPL.nilW ?_
     refine W.now ?_
     refine Then.n ?_
     refine WP.retW ?_
     have q0 := Option.some.inj H
     subst q0
     exact W.now (Then.r (BodyR.mkR trivial rfl [] ⟨rfl, rfl⟩ ⟨rfl, trivial, by decide, rfl, trivial⟩ rfl rfl))
   refine WPL.pW (runs_callP (s := []) (t := []) (N := 0) (bor := []) fn8 rfl (s_quirelaw04_alive k (Sum.inr x15410) h15407) ⟨rfl, trivial, by decide, rfl, trivial⟩ rfl trivial .nil rfl trivial rfl) ?_
   have q0 := Option.some.inj H
   subst q0
   exact W.now (Then.p (Then.p (BodyR.mkP trivial [] ⟨rfl, rfl⟩ ⟨rfl, trivial, by decide, rfl, trivial⟩ rfl rfl)))
 replace H := cnf hb15406 H
 refine WP.skipW ?_
 refine W.now ?_
 refine Then.n ?_
 refine WP.seq ?_
 refine WP.region ?_
 refine WPL.q (q_mv (v := .ro _ _ _) rfl) rfl ?_
 obtain ⟨x15413, h15411, H⟩ := bnd H
 refine WPL.c (runs_call (s := []) (t := []) (N := 0) (bor := []) fn13 rfl (s_deflate_Parse__b k x2 x15413 h15411) ⟨rfl, trivial, by decide, rfl, trivial⟩ rfl trivial (.ren rfl rfl .nil) rfl trivial rfl) rfl ?_
 refine WPL.q (q_as (v := .ro _ _ _) rfl) rfl ?_
 refine WPL.nilW ?_
 refine W.now ?_
 refine Then.n ?_
 refine WP.seq ?_
 refine WP.region ?_
 refine WPL.q (q_as (v := .lit _) rfl) rfl ?_
 refine WPL.nilW ?_
 refine W.now ?_
 refine Then.n ?_
 refine WP.seq ?_
 refine WP.seq ?_
 refine WP.region ?_
 refine WPL.q (q_as (v := .lit (.int _ _)) rfl) rfl ?_
 refine WPL.nilW ?_
 refine W.now ?_
 refine Then.n ?_
 refine WP.block ?_
 refine WP.cv (Cv.vir 37 rdS_quireref04_Item (N := 0) rfl 4 rfl) ?_
 refine WP.cv (Cv.weak (E' := ((((Env.none.upd 0 (.ro (Rd.slice (Rd.int .u8)) false x2)).upd 3 (.ro (Rd.slice rdS_deflate_Item) false x15413)).upd 4 (.whole 0)).upd 5 (.lit (.int .i64 0)))) (M' := (Mem.nil.push (.row 37 rdS_quireref04_Item ([] : List S_quireref04_Item)))) [0] hnp ⟨rfl, ⟨trivial, .inr ⟨rfl, rfl, rfl⟩⟩, by decide, rfl, trivial⟩ (LeE.upd rfl rfl (LeE.upd rfl rfl (LeE.upd rfl rfl (LeE.upd rfl rfl (LeE.none rfl rfl)))))) ?_
 obtain ⟨x15452, H15464, H⟩ := bnd H
 refine WP.monoW (Q := fun x E M => x = .exit 0 ∧ E = (((Env.none.upd 0 (.ro (Rd.slice (Rd.int .u8)) false x2)).upd 3 (.ro (Rd.slice rdS_deflate_Item) false x15413)).upd 4 (.whole 0)) ∧ M = (Mem.nil.push (.row 37 rdS_quireref04_Item x15452))) ?_ ?_
 · refine WP.loop (β := Int × (List S_quireref04_Item)) (fun n b => g_quirelaw04_DeflateParse_l0 k x15413 n b.1 b.2 = some x15452) (fun b => ((((Env.none.upd 0 (.ro (Rd.slice (Rd.int .u8)) false x2)).upd 3 (.ro (Rd.slice rdS_deflate_Item) false x15413)).upd 4 (.whole 0)).upd 5 (.lit (.int .i64 b.1)))) (fun b => (Mem.nil.push (.row 37 rdS_quireref04_Item b.2))) k (0, ([] : List S_quireref04_Item)) H15464 rfl rfl ?_
   rintro n ⟨x15438, x15439⟩ H
   obtain _ | n := n
   · exact nf rfl H
   rw [g_quirelaw04_DeflateParse_l0.eq_2] at H
   show WP _ _ _ _ ((((Env.none.upd 0 (.ro (Rd.slice (Rd.int .u8)) false x2)).upd 3 (.ro (Rd.slice rdS_deflate_Item) false x15413)).upd 4 (.whole 0)).upd 5 (.lit (.int .i64 x15438))) (Mem.nil.push (.row 37 rdS_quireref04_Item x15439)) _
   refine WP.seq ?_
   refine WP.seq ?_
   refine WP.region ?_
   refine WPL.q (q_mv (v := .lit (.int _ _)) rfl) rfl ?_
   refine WPL.q (q_mv (v := .ro _ _ _) rfl) rfl ?_
   refine WPL.q (q_len_ro sl32 rfl) rfl ?_
   obtain ⟨x15455, h15455, H⟩ := bnd H
   refine WPL.q (q_nm (q_lss rfl rfl) (nm_bool h15455)) rfl ?_
   refine WPL.nilW ?_
   refine W.now ?_
   refine Then.n ?_
   refine WP.cond (t := x15455) rfl (fun hb15455 => ?_) (fun hb15455 => ?_)
   · replace H := cnt hb15455 H
     refine WP.skipW ?_
     refine W.now ?_
     refine Then.n ?_
     refine WP.seq ?_
     refine WP.block ?_
     refine WP.regionD' 20 [] [] mixed rfl ?_
     refine WPD.takeT 0 rfl (by kernel_rfl) (q_mv (v := .whole _) rfl) rfl ?_
     refine WPD.takeT 1 rfl (by kernel_rfl) (q_mv (v := .ro _ _ _) rfl) rfl ?_
     refine WPD.takeT 2 rfl (by kernel_rfl) (q_mv (v := .lit (.int _ _)) rfl) rfl ?_
     obtain ⟨x15461, h15461, H⟩ := bnd H
     refine WPD.takeT 3 rfl (by kernel_rfl) (q_index_ro sl32 rfl rfl rfl h15461) rfl ?_
     refine WPD.takeT 4 rfl (by kernel_rfl) (q_fieldAddr_ro fi36_0 rfl rfl S_deflate_Item.p0 (Nat.le_of_ble_eq_true rfl)) rfl ?_
     refine WPD.takeT 5 rfl (by kernel_rfl) (q_load_sc sc3 rfl) rfl ?_
     refine WPD.takeT 6 rfl (by kernel_rfl) (q_mv (v := .ro _ _ _) rfl) rfl ?_
     refine WPD.takeT 7 rfl (by kernel_rfl) (q_mv (v := .lit (.int _ _)) rfl) rfl ?_
     obtain ⟨x15462, h15462, H⟩ := bnd H
     refine WPD.takeT 8 rfl (by kernel_rfl) (q_index_ro sl32 rfl rfl rfl h15462) rfl ?_
     refine WPD.takeT 9 rfl (by kernel_rfl) (q_fieldAddr_ro fi36_1 rfl rfl S_deflate_Item.p1 (Nat.le_of_ble_eq_true rfl)) rfl ?_
     refine WPD.takeT 10 rfl (by kernel_rfl) (q_load_sc sc3 rfl) rfl ?_
     refine WPD.takeT 11 rfl (by kernel_rfl) (q_mv (v := .ro _ _ _) rfl) rfl ?_
     refine WPD.takeT 12 rfl (by kernel_rfl) (q_mv (v := .lit (.int _ _)) rfl) rfl ?_
     obtain ⟨x15463, h15463, H⟩ := bnd H
     refine WPD.takeT 13 rfl (by kernel_rfl) (q_index_ro sl32 rfl rfl rfl h15463) rfl ?_
     refine WPD.takeT 14 rfl (by kernel_rfl) (q_fieldAddr_ro fi36_2 rfl rfl S_deflate_Item.p2 (Nat.le_of_ble_eq_true rfl)) rfl ?_
     refine WPD.takeT 15 rfl (by kernel_rfl) (q_load_sc sc3 rfl) rfl ?_
     refine WPD.takeT 16 rfl (by kernel_rfl) (q_build bu37 rfl) rfl ?_
     refine WPD.eff 17 [] [] rfl (by kernel_rfl) (Does.runs (d_buildSlice (ds := ([(⟨x15461.fByte, x15462.fLen, x15463.fDist⟩ : S_quireref04_Item)] : List S_quireref04_Item)) (R := rdS_quireref04_Item) li34 rfl rfl rfl rfl rfl (JoinRows.cons (l := [.lit (.int .i64 x15461.fByte), .lit (.int .i64 x15462.fLen), .lit (.int .i64 x15463.fDist)]) (Joins.via (Joins.cons Joins.sc (Joins.cons Joins.sc (Joins.cons Joins.sc Joins.unit)))) rfl JoinRows.nil) rfl rfl)) rfl rfl ?_
     obtain ⟨h15463, H⟩ := grd H
     refine WPD.eff 18 [] [] rfl (by kernel_rfl) (Does.runs (d_append ap34 rfl rfl rfl rfl (src_row sl34 rfl rfl) h15463 rfl)) rfl rfl ?_
     refine WPD.takeT 19 rfl (by kernel_rfl) (q_as (v := .whole _) rfl) rfl ?_
     refine WPD.doneW (by kernel_rfl) ?_
     refine W.now ?_
     refine InBlock.n ?_
     refine Then.n ?_
     refine WP.region ?_
     refine WPL.q (q_mv (v := .lit (.int _ _)) rfl) rfl ?_
     refine WPL.q (q_add rfl rfl) rfl ?_
     refine WPL.q (q_as (v := .lit (.int _ _)) rfl) rfl ?_
     refine WPL.nilW ?_
     exact W.wk [2] hnp (Then.n ⟨n, ((IntKind.wrap .i64 (x15438 + 1)), (x15439 ++ ([(⟨x15461.fByte, x15462.fLen, x15463.fDist⟩ : S_quireref04_Item)] : List S_quireref04_Item))), Nat.lt_succ_self n, H, rfl, rfl⟩) ⟨rfl, ⟨trivial, .inr ⟨rfl, rfl, rfl⟩⟩, by decide, rfl, trivial⟩ (LeE.upd rfl rfl (LeE.upd rfl rfl (LeE.upd rfl rfl (LeE.upd rfl rfl (LeE.none rfl rfl))))) rfl
   replace H := cnf hb15455 H
   refine WP.exitW ?_
   have q0 := (Option.some.inj H)
   subst q0
   exact W.wk [0] hnp (Then.x (Then.x ⟨rfl, rfl, rfl⟩)) ⟨rfl, ⟨trivial, .inr ⟨rfl, rfl, rfl⟩⟩, by decide, rfl, trivial⟩ (LeE.upd rfl rfl (LeE.upd rfl rfl (LeE.upd rfl rfl (LeE.none rfl rfl)))) rfl
 rintro _ _ _ ⟨rfl, rfl, rfl⟩
 refine W.now ?_
 refine InBlock.x0 ?_
 refine Then.n ?_
 refine WP.seq ?_
 refine WP.region ?_
 refine WPL.q (q_mv (v := .whole _) rfl) rfl ?_
 obtain ⟨⟨x15467, x15468⟩, h15465, H⟩ := bnd H
 refine WPL.c (runs_call (s := []) (t := []) (N := 1) (bor := [0]) fn14 rfl (s_quireref04_Unparse k x15452 x15467 x15468 h15465) ⟨rfl, trivial, by decide, rfl, trivial⟩ rfl ⟨trivial, rfl, rfl, trivial⟩ (.row rfl rfl .nil) rfl trivial rfl) rfl ?_
 refine WPL.q (q_mv (v := .tup _) rfl) rfl ?_
 refine WPL.q (q_extract rfl rfl) rfl ?_
 refine WPL.q (q_extract rfl rfl) rfl ?_
 refine WPL.q (q_as (v := .ro _ _ _) rfl) rfl ?_
 refine WPL.q (q_as (v := .lit (.bool _)) rfl) rfl ?_
 refine WPL.nilW ?_
 refine W.now ?_
 refine Then.n ?_
 refine WP.seq ?_
 refine WP.region ?_
 refine WPL.q (q_mv (v := .ro _ _ _) rfl) rfl ?_
 obtain ⟨⟨x15470, x15471⟩, h15468, H⟩ := bnd H
 refine WPL.c (runs_call (s := []) (t := []) (N := 1) (bor := []) fn15 rfl (s_deflate_Unparse k x15413 x15470 x15471 h15468) ⟨rfl, trivial, by decide, rfl, trivial⟩ rfl trivial (.ren rfl rfl .nil) rfl trivial rfl) rfl ?_
 refine WPL.q (q_mv (v := .tup _) rfl) rfl ?_
 refine WPL.q (q_extract rfl rfl) rfl ?_
 refine WPL.q (q_extract rfl rfl) rfl ?_
 refine WPL.q (q_as (v := .ro _ _ _) rfl) rfl ?_
 refine WPL.q (q_as (v := .lit (.bool _)) rfl) rfl ?_
 refine WPL.nilW ?_
 refine W.now ?_
 refine Then.n ?_
 refine WP.seq ?_
 refine WP.seq ?_
 obtain ⟨y15536, H15534, H⟩ := bnd H
 refine WP.monoW (Q := fun x E M => match (generalizing := false) y15536 with | (Sum.inl x15519) => x = .normal ∧ E = ((Env.none.upd 3 (.ro (Rd.slice rdS_deflate_Item) false x15413)).upd 81 (.lit (.bool x15519))) ∧ M = Mem.nil | (Sum.inr x15520) => x = .panic (.ifc 9 (.lit (.string x15520))) ∧ E = Env.none ∧ M = Mem.nil) ?_ ?_
 · clear H
   have H := H15534
   clear H15534
   refine WP.region ?_
   refine WPL.q (q_mv (v := .lit (.bool _)) rfl) rfl ?_
   refine WPL.q (q_not rfl) rfl ?_
   refine WPL.q (q_mv (v := .lit (.bool _)) rfl) rfl ?_
   refine WPL.split (t := 55) (b := (!x15468)) rfl (fun hb15520 => ?_) (fun hb15520 => ?_)
   · replace H := cnt hb15520 H
     refine WPL.skipg (b' := true) rfl rfl (lb hb15520) rfl rfl (.inl trivial) ?_
     refine WPL.skipg (b' := true) rfl rfl (lb hb15520) rfl rfl (.inl trivial) ?_
     refine WPL.q (q_pickT (v := .lit (.bool _)) (lb hb15520) rfl) rfl ?_
     refine WPL.q (q_mv (v := .lit (.bool _)) rfl) rfl ?_
     refine WPL.skipg (b' := true) rfl rfl rfl rfl rfl (.inl trivial) ?_
     refine WPL.skipg (b' := true) rfl rfl rfl rfl rfl (.inl trivial) ?_
     refine WPL.skipg (b' := true) rfl rfl rfl rfl rfl (.inl (by simp only [SkipOk]; kernel_rfl)) ?_
     refine WPL.skipg (b' := true) rfl rfl rfl rfl rfl (.inl trivial) ?_
     refine WPL.q (q_pickT (v := .lit (.bool _)) rfl rfl) rfl ?_
     refine WPL.q (q_mv (v := .lit (.bool _)) rfl) rfl ?_
     refine WPL.skipg (b' := true) rfl rfl rfl rfl rfl (.inl trivial) ?_
     refine WPL.skipg (b' := true) rfl rfl rfl rfl rfl (.inl trivial) ?_
     refine WPL.skipg (b' := true) rfl rfl rfl rfl rfl (.inl (by simp only [SkipOk]; kernel_rfl)) ?_
     refine WPL.skipg (b' := true) rfl rfl rfl rfl rfl (.inl trivial) ?_
     refine WPL.q (q_pickT (v := .lit (.bool _)) rfl rfl) rfl ?_
     refine WPL.q (q_mv (v := .lit (.bool _)) rfl) rfl ?_
     refine WPL.skipg (b' := true) rfl rfl rfl rfl rfl (.inl trivial) ?_
     refine WPL.skipg (b' := true) rfl rfl rfl rfl rfl (.inl trivial) ?_
     refine WPL.skipg (b' := true) rfl rfl rfl rfl rfl (.inl trivial) ?_
     refine WPL.skipg (b' := true) rfl rfl rfl rfl rfl (.inl trivial) ?_
     refine WPL.skipg (b' := true) rfl rfl rfl rfl rfl (.inl trivial) ?_
     refine WPL.q (q_pickT (v := .lit (.bool _)) rfl rfl) rfl ?_
     refine WPL.q (q_mv (v := .lit (.bool _)) rfl) rfl ?_
     refine WPL.skipg (b' := true) rfl rfl rfl rfl rfl (.inl (by simp only [SkipOk]; kernel_rfl)) ?_
     refine WPL.skipg (b' := true) rfl rfl rfl rfl rfl (.inl trivial) ?_
     refine WPL.q (q_pickT (v := .lit (.bool _)) rfl rfl) rfl ?_
     refine WPL.nilW ?_
     have q0 := Option.some.inj H
     subst q0
     exact W.wk [] hnp ⟨rfl, rfl, rfl⟩ ⟨rfl, trivial, by decide, rfl, trivial⟩ (LeE.upd rfl rfl (LeE.upd rfl rfl (LeE.none rfl rfl))) rfl
   replace H := cnf hb15520 H
   refine WPL.qg rfl rfl (lb hb15520) (q_mv (v := .lit (.bool _)) rfl) rfl ?_
   refine WPL.qg rfl rfl (lb hb15520) (q_not rfl) rfl ?_
   refine WPL.q (q_pickF (v := .lit (.bool _)) (lb hb15520) rfl) rfl ?_
   refine WPL.q (q_mv (v := .lit (.bool _)) rfl) rfl ?_
   refine WPL.split (t := 59) (b := (!x15471)) rfl (fun hb15521 => ?_) (fun hb15521 => ?_)
   · replace H := cnt hb15521 H
     refine WPL.skipg (b' := true) rfl rfl (lb hb15521) rfl rfl (.inl trivial) ?_
     refine WPL.skipg (b' := true) rfl rfl (lb hb15521) rfl rfl (.inl trivial) ?_
     refine WPL.skipg (b' := true) rfl rfl (lb hb15521) rfl rfl (.inl (by simp only [SkipOk]; kernel_rfl)) ?_
     refine WPL.skipg (b' := true) rfl rfl (lb hb15521) rfl rfl (.inl trivial) ?_
     refine WPL.q (q_pickT (v := .lit (.bool _)) (lb hb15521) rfl) rfl ?_
     refine WPL.q (q_mv (v := .lit (.bool _)) rfl) rfl ?_
     refine WPL.skipg (b' := true) rfl rfl rfl rfl rfl (.inl trivial) ?_
     refine WPL.skipg (b' := true) rfl rfl rfl rfl rfl (.inl trivial) ?_
     refine WPL.skipg (b' := true) rfl rfl rfl rfl rfl (.inl (by simp only [SkipOk]; kernel_rfl)) ?_
     refine WPL.skipg (b' := true) rfl rfl rfl rfl rfl (.inl trivial) ?_
     refine WPL.q (q_pickT (v := .lit (.bool _)) rfl rfl) rfl ?_
     refine WPL.q (q_mv (v := .lit (.bool _)) rfl) rfl ?_
     refine WPL.skipg (b' := true) rfl rfl rfl rfl rfl (.inl trivial) ?_
     refine WPL.skipg (b' := true) rfl rfl rfl rfl rfl (.inl trivial) ?_
     refine WPL.skipg (b' := true) rfl rfl rfl rfl rfl (.inl trivial) ?_
     refine WPL.skipg (b' := true) rfl rfl rfl rfl rfl (.inl trivial) ?_
     refine WPL.skipg (b' := true) rfl rfl rfl rfl rfl (.inl trivial) ?_
     refine WPL.q (q_pickT (v := .lit (.bool _)) rfl rfl) rfl ?_
     refine WPL.q (q_mv (v := .lit (.bool _)) rfl) rfl ?_
     refine WPL.skipg (b' := true) rfl rfl rfl rfl rfl (.inl (by simp only [SkipOk]; kernel_rfl)) ?_
     refine WPL.skipg (b' := true) rfl rfl rfl rfl rfl (.inl trivial) ?_
     refine WPL.q (q_pickT (v := .lit (.bool _)) rfl rfl) rfl ?_
     refine WPL.nilW ?_
     have q0 := Option.some.inj H
     subst q0
     exact W.wk [] hnp ⟨rfl, rfl, rfl⟩ ⟨rfl, trivial, by decide, rfl, trivial⟩ (LeE.upd rfl rfl (LeE.upd rfl rfl (LeE.none rfl rfl))) rfl
   replace H := cnf hb15521 H
   refine WPL.qg rfl rfl (lb hb15521) (q_mv (v := .ro _ _ _) rfl) rfl ?_
   refine WPL.qg rfl rfl (lb hb15521) (q_mv (v := .ro _ _ _) rfl) rfl ?_
   obtain ⟨x15524, h15522, H⟩ := bnd H
   refine WPL.cg rfl rfl (lb hb15521) (runs_call (s := []) (t := []) (N := 1) (bor := []) fn10 rfl (s_quirelaw01_Same__b k x15467 x2 x15524 h15522) ⟨rfl, trivial, by decide, rfl, trivial⟩ rfl trivial (.ren rfl rfl (.ren rfl rfl .nil)) rfl trivial rfl) rfl ?_
   refine WPL.qg rfl rfl (lb hb15521) (q_not rfl) rfl ?_
   refine WPL.q (q_pickF (v := .lit (.bool _)) (lb hb15521) rfl) rfl ?_
   refine WPL.q (q_mv (v := .lit (.bool _)) rfl) rfl ?_
   refine WPL.split (t := 65) (b := (!x15524)) rfl (fun hb15524 => ?_) (fun hb15524 => ?_)
   · replace H := cnt hb15524 H
     refine WPL.skipg (b' := true) rfl rfl (lb hb15524) rfl rfl (.inl trivial) ?_
     refine WPL.skipg (b' := true) rfl rfl (lb hb15524) rfl rfl (.inl trivial) ?_
     refine WPL.skipg (b' := true) rfl rfl (lb hb15524) rfl rfl (.inl (by simp only [SkipOk]; kernel_rfl)) ?_
     refine WPL.skipg (b' := true) rfl rfl (lb hb15524) rfl rfl (.inl trivial) ?_
     refine WPL.q (q_pickT (v := .lit (.bool _)) (lb hb15524) rfl) rfl ?_
     refine WPL.q (q_mv (v := .lit (.bool _)) rfl) rfl ?_
     refine WPL.skipg (b' := true) rfl rfl rfl rfl rfl (.inl trivial) ?_
     refine WPL.skipg (b' := true) rfl rfl rfl rfl rfl (.inl trivial) ?_
     refine WPL.skipg (b' := true) rfl rfl rfl rfl rfl (.inl trivial) ?_
     refine WPL.skipg (b' := true) rfl rfl rfl rfl rfl (.inl trivial) ?_
     refine WPL.skipg (b' := true) rfl rfl rfl rfl rfl (.inl trivial) ?_
     refine WPL.q (q_pickT (v := .lit (.bool _)) rfl rfl) rfl ?_
     refine WPL.q (q_mv (v := .lit (.bool _)) rfl) rfl ?_
     refine WPL.skipg (b' := true) rfl rfl rfl rfl rfl (.inl (by simp only [SkipOk]; kernel_rfl)) ?_
     refine WPL.skipg (b' := true) rfl rfl rfl rfl rfl (.inl trivial) ?_
     refine WPL.q (q_pickT (v := .lit (.bool _)) rfl rfl) rfl ?_
     refine WPL.nilW ?_
     have q0 := Option.some.inj H
     subst q0
     exact W.wk [] hnp ⟨rfl, rfl, rfl⟩ ⟨rfl, trivial, by decide, rfl, trivial⟩ (LeE.upd rfl rfl (LeE.upd rfl rfl (LeE.none rfl rfl))) rfl
   replace H := cnf hb15524 H
   refine WPL.qg rfl rfl (lb hb15524) (q_mv (v := .ro _ _ _) rfl) rfl ?_
   refine WPL.qg rfl rfl (lb hb15524) (q_mv (v := .ro _ _ _) rfl) rfl ?_
   obtain ⟨x15527, h15525, H⟩ := bnd H
   refine WPL.cg rfl rfl (lb hb15524) (runs_call (s := []) (t := []) (N := 1) (bor := []) fn10 rfl (s_quirelaw01_Same__b k x15470 x2 x15527 h15525) ⟨rfl, trivial, by decide, rfl, trivial⟩ rfl trivial (.ren rfl rfl (.ren rfl rfl .nil)) rfl trivial rfl) rfl ?_
   refine WPL.qg rfl rfl (lb hb15524) (q_not rfl) rfl ?_
   refine WPL.q (q_pickF (v := .lit (.bool _)) (lb hb15524) rfl) rfl ?_
   refine WPL.q (q_mv (v := .lit (.bool _)) rfl) rfl ?_
   refine WPL.split (t := 71) (b := (!x15527)) rfl (fun hb15527 => ?_) (fun hb15527 => ?_)
   · replace H := cnt hb15527 H
     refine WPL.skipg (b' := true) rfl rfl (lb hb15527) rfl rfl (.inl trivial) ?_
     refine WPL.skipg (b' := true) rfl rfl (lb hb15527) rfl rfl (.inl trivial) ?_
     refine WPL.skipg (b' := true) rfl rfl (lb hb15527) rfl rfl (.inl trivial) ?_
     refine WPL.skipg (b' := true) rfl rfl (lb hb15527) rfl rfl (.inl trivial) ?_
     refine WPL.skipg (b' := true) rfl rfl (lb hb15527) rfl rfl (.inl trivial) ?_
     refine WPL.q (q_pickT (v := .lit (.bool _)) (lb hb15527) rfl) rfl ?_
     refine WPL.q (q_mv (v := .lit (.bool _)) rfl) rfl ?_
     refine WPL.skipg (b' := true) rfl rfl rfl rfl rfl (.inl (by simp only [SkipOk]; kernel_rfl)) ?_
     refine WPL.skipg (b' := true) rfl rfl rfl rfl rfl (.inl trivial) ?_
     refine WPL.q (q_pickT (v := .lit (.bool _)) rfl rfl) rfl ?_
     refine WPL.nilW ?_
     have q0 := Option.some.inj H
     subst q0
     exact W.wk [] hnp ⟨rfl, rfl, rfl⟩ ⟨rfl, trivial, by decide, rfl, trivial⟩ (LeE.upd rfl rfl (LeE.upd rfl rfl (LeE.none rfl rfl))) rfl
   replace H := cnf hb15527 H
   refine WPL.qg rfl rfl (lb hb15527) (q_mv (v := .ro _ _ _) rfl) rfl ?_
   refine WPL.qg rfl rfl (lb hb15527) (q_len_ro sl32 rfl) rfl ?_
   refine WPL.qg rfl rfl (lb hb15527) (q_mv (v := .ro _ _ _) rfl) rfl ?_
   refine WPL.qg rfl rfl (lb hb15527) (q_len_ro sl22 rfl) rfl ?_
   obtain ⟨x15529, h15529, H⟩ := bnd H
   refine WPL.qg rfl rfl (lb hb15527) (q_nm (q_gtr rfl rfl) (nm_bool h15529)) rfl ?_
   refine WPL.q (q_pickF (v := .lit (.bool _)) (lb hb15527) rfl) rfl ?_
   refine WPL.q (q_mv (v := .lit (.bool _)) rfl) rfl ?_
   refine WPL.split (t := 78) (b := x15529) rfl (fun hb15529 => ?_) (fun hb15529 => ?_)
   · replace H := cnt hb15529 H
     refine WPL.skipg (b' := true) rfl rfl (lb hb15529) rfl rfl (.inl (by simp only [SkipOk]; kernel_rfl)) ?_
     refine WPL.skipg (b' := true) rfl rfl (lb hb15529) rfl rfl (.inl trivial) ?_
     refine WPL.q (q_pickT (v := .lit (.bool _)) (lb hb15529) rfl) rfl ?_
     refine WPL.nilW ?_
     have q0 := Option.some.inj H
     subst q0
     exact W.wk [] hnp ⟨rfl, rfl, rfl⟩ ⟨rfl, trivial, by decide, rfl, trivial⟩ (LeE.upd rfl rfl (LeE.upd rfl rfl (LeE.none rfl rfl))) rfl
   replace H := cnf hb15529 H
   obtain ⟨y15534, h15530, H⟩ := bnd H
   rcases y15534 with x15532 | x15533
   · refine WPL.cg rfl rfl (lb hb15529) (runs_call (s := []) (t := []) (N := 1) (bor := []) fn8 rfl (s_quirelaw04_alive k (Sum.inl x15532) h15530) ⟨rfl, trivial, by decide, rfl, trivial⟩ rfl trivial .nil rfl trivial rfl) rfl ?_
     refine WPL.qg rfl rfl (lb hb15529) (q_not rfl) rfl ?_
     refine WPL.q (q_pickF (v := .lit (.bool _)) (lb hb15529) rfl) rfl ?_
     refine WPL.nilW ?_
     have q0 := Option.some.inj H
     subst q0
     exact W.wk [] hnp ⟨rfl, rfl, rfl⟩ ⟨rfl, trivial, by decide, rfl, trivial⟩ (LeE.upd rfl rfl (LeE.upd rfl rfl (LeE.none rfl rfl))) rfl
   refine WPL.pgW rfl rfl (lb hb15529) (runs_callP (s := []) (t := []) (N := 1) (bor := []) fn8 rfl (s_quirelaw04_alive k (Sum.inr x15533) h15530) ⟨rfl, trivial, by decide, rfl, trivial⟩ rfl trivial .nil rfl trivial rfl) ?_
   have q0 := Option.some.inj H
   subst q0
   exact W.wkP [] hnp ⟨rfl, rfl, rfl⟩ ⟨rfl, trivial, by decide, rfl, trivial⟩ (LeE.none rfl rfl) rfl rfl
 rcases y15536 with x15519 | x15520
 · rintro _ _ _ ⟨rfl, rfl, rfl⟩
   refine W.now ?_
   refine Then.n ?_
   refine WP.cond (t := x15519) rfl (fun hb15536 => ?_) (fun hb15536 => ?_)
   · replace H := cnt hb15536 H
     refine WP.seq ?_
     refine WP.region ?_
     refine WPL.q (q_as (v := .lit (.bool _)) rfl) rfl ?_
     refine WPL.nilW ?_
     refine W.now ?_
     refine Then.n ?_
     refine WP.retW ?_
     have q0 := Option.some.inj H
     subst q0
     exact W.now (Then.r (BodyR.mkR trivial rfl [] ⟨rfl, rfl⟩ ⟨rfl, trivial, by decide, rfl, trivial⟩ rfl rfl))
   replace H := cnf hb15536 H
   refine WP.skipW ?_
   refine W.now ?_
   refine Then.n ?_
   refine WP.seq ?_
   refine WP.region ?_
   refine WPL.q (q_as (v := .lit (.int _ _)) rfl) rfl ?_
   refine WPL.nilW ?_
   refine W.now ?_
   refine Then.n ?_
   refine WP.seq ?_
   refine WP.seq ?_
   refine WP.region ?_
   refine WPL.q (q_as (v := .lit (.int _ _)) rfl) rfl ?_
   refine WPL.nilW ?_
   refine W.now ?_
   refine Then.n ?_
   refine WP.block ?_
   refine WP.cv (Cv.weak (E' := (((Env.none.upd 3 (.ro (Rd.slice rdS_deflate_Item) false x15413)).upd 10 (.lit (.int .i64 1))).upd 11 (.lit (.int .i64 1)))) (M' := Mem.nil) [] hnp ⟨rfl, trivial, by decide, rfl, trivial⟩ (LeE.upd rfl rfl (LeE.upd rfl rfl (LeE.upd rfl rfl (LeE.none rfl rfl))))) ?_
   obtain ⟨y15895, H15893, H⟩ := bnd H
   refine WP.monoW (Q := fun x E M => match (generalizing := false) y15895 with | (Sum.inl _) => x = .ret ∧ E = (Env.none.upd 2 (.lit (.bool false))) ∧ M = Mem.nil | (Sum.inr _) => x = .exit 2 ∧ E = Env.none ∧ M = Mem.nil) ?_ ?_
   · refine WP.loop (β := Int × Int) (fun n b => g_quirelaw04_DeflateParse_l1 k x15413 n b.1 b.2 = some y15895) (fun b => (((Env.none.upd 3 (.ro (Rd.slice rdS_deflate_Item) false x15413)).upd 10 (.lit (.int .i64 b.1))).upd 11 (.lit (.int .i64 b.2)))) (fun b => Mem.nil) k (1, 1) H15893 rfl rfl ?_
     rintro n ⟨x15656, x15657⟩ H
     obtain _ | n := n
     · exact nf rfl H
     rw [g_quirelaw04_DeflateParse_l1.eq_2] at H
     show WP _ _ _ _ (((Env.none.upd 3 (.ro (Rd.slice rdS_deflate_Item) false x15413)).upd 10 (.lit (.int .i64 x15656))).upd 11 (.lit (.int .i64 x15657))) Mem.nil _
     refine WP.seq ?_
     refine WP.seq ?_
     refine WP.region ?_
     refine WPL.q (q_mv (v := .lit (.int _ _)) rfl) rfl ?_
     refine WPL.q (q_mv (v := .ro _ _ _) rfl) rfl ?_
     refine WPL.q (q_len_ro sl32 rfl) rfl ?_
     obtain ⟨x15778, h15778, H⟩ := bnd H
     refine WPL.q (q_nm (q_lss rfl rfl) (nm_bool h15778)) rfl ?_
     refine WPL.nilW ?_
     refine W.now ?_
     refine Then.n ?_
     refine WP.cond (t := x15778) rfl (fun hb15778 => ?_) (fun hb15778 => ?_)
     · replace H := cnt hb15778 H
       refine WP.skipW ?_
       refine W.now ?_
       refine Then.n ?_
       refine WP.seq ?_
       refine WP.block ?_
       refine WP.seq ?_
       refine WP.region ?_
       refine WPL.q (q_mv (v := .lit (.int _ _)) rfl) rfl ?_
       refine WPL.q (q_add rfl rfl) rfl ?_
       refine WPL.q (q_as (v := .lit (.int _ _)) rfl) rfl ?_
       refine WPL.nilW ?_
       refine W.now ?_
       refine Then.n ?_
       refine WP.seq ?_
       obtain ⟨x15864, H15891, H⟩ := bnd H
       refine WP.monoW (Q := fun x E M => x = .normal ∧ E = (((Env.none.upd 3 (.ro (Rd.slice rdS_deflate_Item) false x15413)).upd 10 (.lit (.int .i64 x15864))).upd 11 (.lit (.int .i64 x15657))) ∧ M = Mem.nil) ?_ ?_
       · clear H
         have H := H15891
         clear H15891
         refine WP.seq ?_
         obtain ⟨x15877, H15889, H⟩ := bnd H
         refine WP.monoW (Q := fun x E M => x = .normal ∧ E = ((((Env.none.upd 3 (.ro (Rd.slice rdS_deflate_Item) false x15413)).upd 10 (.lit (.int .i64 (IntKind.wrap .i64 (x15656 + 1))))).upd 11 (.lit (.int .i64 x15657))).upd 118 (.lit (.bool x15877))) ∧ M = Mem.nil) ?_ ?_
         · clear H
           have H := H15889
           clear H15889
           refine WP.regionD' 29 [] [] mixed rfl ?_
           refine WPD.takeT 0 rfl (by kernel_rfl) (q_mv (v := .ro _ _ _) rfl) rfl ?_
           refine WPD.takeT 1 rfl (by kernel_rfl) (q_mv (v := .lit (.int _ _)) rfl) rfl ?_
           obtain ⟨x15884, h15884, H⟩ := bnd H
           refine WPD.takeT 2 rfl (by kernel_rfl) (q_index_ro sl32 rfl rfl rfl h15884) rfl ?_
           refine WPD.takeT 3 rfl (by kernel_rfl) (q_fieldAddr_ro fi36_1 rfl rfl S_deflate_Item.p1 (Nat.le_of_ble_eq_true rfl)) rfl ?_
           refine WPD.takeT 4 rfl (by kernel_rfl) (q_load_sc sc3 rfl) rfl ?_
           refine WPD.takeT 5 rfl (by kernel_rfl) (q_gtr rfl rfl) rfl ?_
           refine WPD.takeT 6 rfl (by kernel_rfl) (q_mv (v := .lit (.bool _)) rfl) rfl ?_
           refine WPD.split (t := 96) (b := (decide (0 < x15884.fLen))) rfl (fun hb15884 => ?_) (fun hb15884 => ?_)
           · replace H := cnt hb15884 H
             refine WPD.pass (b' := true) 7 rfl (by kernel_rfl) rfl rfl (lb hb15884) rfl rfl (.inl trivial) ?_
             refine WPD.pass (b' := true) 8 rfl (by kernel_rfl) rfl rfl (lb hb15884) rfl rfl (.inl trivial) ?_
             refine WPD.pass (b' := true) 9 rfl (by kernel_rfl) rfl rfl (lb hb15884) rfl rfl (.inl trivial) ?_
             refine WPD.pass (b' := true) 10 rfl (by kernel_rfl) rfl rfl (lb hb15884) rfl rfl (.inl trivial) ?_
             refine WPD.pass (b' := true) 11 rfl (by kernel_rfl) rfl rfl (lb hb15884) rfl rfl (.inl trivial) ?_
             refine WPD.pass (b' := true) 12 rfl (by kernel_rfl) rfl rfl (lb hb15884) rfl rfl (.inl trivial) ?_
             refine WPD.pass (b' := true) 13 rfl (by kernel_rfl) rfl rfl (lb hb15884) rfl rfl (.inl trivial) ?_
             refine WPD.takeT 14 rfl (by kernel_rfl) (q_pickT (v := .lit (.bool _)) (lb hb15884) rfl) rfl ?_
             refine WPD.takeT 15 rfl (by kernel_rfl) (q_mv (v := .lit (.bool _)) rfl) rfl ?_
             refine WPD.pass (b' := true) 16 rfl (by kernel_rfl) rfl rfl rfl rfl rfl (.inl trivial) ?_
             refine WPD.pass (b' := true) 17 rfl (by kernel_rfl) rfl rfl rfl rfl rfl (.inl trivial) ?_
             refine WPD.pass (b' := true) 18 rfl (by kernel_rfl) rfl rfl rfl rfl rfl (.inl trivial) ?_
             refine WPD.pass (b' := true) 19 rfl (by kernel_rfl) rfl rfl rfl rfl rfl (.inl trivial) ?_
             refine WPD.pass (b' := true) 20 rfl (by kernel_rfl) rfl rfl rfl rfl rfl (.inl trivial) ?_
             refine WPD.pass (b' := true) 21 rfl (by kernel_rfl) rfl rfl rfl rfl rfl (.inl trivial) ?_
             refine WPD.pass (b' := true) 22 rfl (by kernel_rfl) rfl rfl rfl rfl rfl (.inl trivial) ?_
             refine WPD.pass (b' := true) 23 rfl (by kernel_rfl) rfl rfl rfl rfl rfl (.inl trivial) ?_
             refine WPD.pass (b' := true) 24 rfl (by kernel_rfl) rfl rfl rfl rfl rfl (.inl trivial) ?_
             refine WPD.pass (b' := true) 25 rfl (by kernel_rfl) rfl rfl rfl rfl rfl (.inl trivial) ?_
             refine WPD.pass (b' := true) 26 rfl (by kernel_rfl) rfl rfl rfl rfl rfl (.inl trivial) ?_
             refine WPD.pass (b' := true) 27 rfl (by kernel_rfl) rfl rfl rfl rfl rfl (.inl trivial) ?_
             refine WPD.takeT 28 rfl (by kernel_rfl) (q_pickT (v := .lit (.bool _)) rfl rfl) rfl ?_
             refine WPD.doneW (by kernel_rfl) ?_
             have q0 := (Option.some.inj H)
             subst q0
             exact W.wk [] hnp ⟨rfl, rfl, rfl⟩ ⟨rfl, trivial, by decide, rfl, trivial⟩ (LeE.upd rfl rfl (LeE.upd rfl rfl (LeE.upd rfl rfl (LeE.upd rfl rfl (LeE.none rfl rfl))))) rfl
           replace H := cnf hb15884 H
           refine WPD.takegT 7 rfl (by kernel_rfl) rfl rfl (lb hb15884) (q_mv (v := .ro _ _ _) rfl) rfl ?_
           refine WPD.takegT 8 rfl (by kernel_rfl) rfl rfl (lb hb15884) (q_mv (v := .lit (.int _ _)) rfl) rfl ?_
           refine WPD.takegT 9 rfl (by kernel_rfl) rfl rfl (lb hb15884) (q_sub rfl rfl) rfl ?_
           obtain ⟨x15886, h15886, H⟩ := bnd H
           refine WPD.takegT 10 rfl (by kernel_rfl) rfl rfl (lb hb15884) (q_index_ro sl32 rfl rfl rfl h15886) rfl ?_
           refine WPD.takegT 11 rfl (by kernel_rfl) rfl rfl (lb hb15884) (q_fieldAddr_ro fi36_1 rfl rfl S_deflate_Item.p1 (Nat.le_of_ble_eq_true rfl)) rfl ?_
           refine WPD.takegT 12 rfl (by kernel_rfl) rfl rfl (lb hb15884) (q_load_sc sc3 rfl) rfl ?_
           refine WPD.takegT 13 rfl (by kernel_rfl) rfl rfl (lb hb15884) (q_gtr rfl rfl) rfl ?_
           refine WPD.takeT 14 rfl (by kernel_rfl) (q_pickF (v := .lit (.bool _)) (lb hb15884) rfl) rfl ?_
           refine WPD.takeT 15 rfl (by kernel_rfl) (q_mv (v := .lit (.bool _)) rfl) rfl ?_
           refine WPD.split (t := 105) (b := (decide (0 < x15886.fLen))) rfl (fun hb15886 => ?_) (fun hb15886 => ?_)
           · replace H := cnt hb15886 H
             refine WPD.pass (b' := true) 16 rfl (by kernel_rfl) rfl rfl (lb hb15886) rfl rfl (.inl trivial) ?_
             refine WPD.pass (b' := true) 17 rfl (by kernel_rfl) rfl rfl (lb hb15886) rfl rfl (.inl trivial) ?_
             refine WPD.pass (b' := true) 18 rfl (by kernel_rfl) rfl rfl (lb hb15886) rfl rfl (.inl trivial) ?_
             refine WPD.pass (b' := true) 19 rfl (by kernel_rfl) rfl rfl (lb hb15886) rfl rfl (.inl trivial) ?_
             refine WPD.pass (b' := true) 20 rfl (by kernel_rfl) rfl rfl (lb hb15886) rfl rfl (.inl trivial) ?_
             refine WPD.pass (b' := true) 21 rfl (by kernel_rfl) rfl rfl (lb hb15886) rfl rfl (.inl trivial) ?_
             refine WPD.pass (b' := true) 22 rfl (by kernel_rfl) rfl rfl (lb hb15886) rfl rfl (.inl trivial) ?_
             refine WPD.pass (b' := true) 23 rfl (by kernel_rfl) rfl rfl (lb hb15886) rfl rfl (.inl trivial) ?_
             refine WPD.pass (b' := true) 24 rfl (by kernel_rfl) rfl rfl (lb hb15886) rfl rfl (.inl trivial) ?_
             refine WPD.pass (b' := true) 25 rfl (by kernel_rfl) rfl rfl (lb hb15886) rfl rfl (.inl trivial) ?_
             refine WPD.pass (b' := true) 26 rfl (by kernel_rfl) rfl rfl (lb hb15886) rfl rfl (.inl trivial) ?_
             refine WPD.pass (b' := true) 27 rfl (by kernel_rfl) rfl rfl (lb hb15886) rfl rfl (.inl trivial) ?_
             refine WPD.takeT 28 rfl (by kernel_rfl) (q_pickT (v := .lit (.bool _)) (lb hb15886) rfl) rfl ?_
             refine WPD.doneW (by kernel_rfl) ?_
             have q0 := (Option.some.inj H)
             subst q0
             exact W.wk [] hnp ⟨rfl, rfl, rfl⟩ ⟨rfl, trivial, by decide, rfl, trivial⟩ (LeE.upd rfl rfl (LeE.upd rfl rfl (LeE.upd rfl rfl (LeE.upd rfl rfl (LeE.none rfl rfl))))) rfl
           replace H := cnf hb15886 H
           refine WPD.takegT 16 rfl (by kernel_rfl) rfl rfl (lb hb15886) (q_mv (v := .ro _ _ _) rfl) rfl ?_
           refine WPD.takegT 17 rfl (by kernel_rfl) rfl rfl (lb hb15886) (q_mv (v := .lit (.int _ _)) rfl) rfl ?_
           obtain ⟨x15888, h15888, H⟩ := bnd H
           refine WPD.takegT 18 rfl (by kernel_rfl) rfl rfl (lb hb15886) (q_index_ro sl32 rfl rfl rfl h15888) rfl ?_
           refine WPD.takegT 19 rfl (by kernel_rfl) rfl rfl (lb hb15886) (q_fieldAddr_ro fi36_0 rfl rfl S_deflate_Item.p0 (Nat.le_of_ble_eq_true rfl)) rfl ?_
           refine WPD.takegT 20 rfl (by kernel_rfl) rfl rfl (lb hb15886) (q_load_sc sc3 rfl) rfl ?_
           refine WPD.takegT 21 rfl (by kernel_rfl) rfl rfl (lb hb15886) (q_mv (v := .ro _ _ _) rfl) rfl ?_
           refine WPD.takegT 22 rfl (by kernel_rfl) rfl rfl (lb hb15886) (q_mv (v := .lit (.int _ _)) rfl) rfl ?_
           refine WPD.takegT 23 rfl (by kernel_rfl) rfl rfl (lb hb15886) (q_sub rfl rfl) rfl ?_
           obtain ⟨x15889, h15889, H⟩ := bnd H
           refine WPD.takegT 24 rfl (by kernel_rfl) rfl rfl (lb hb15886) (q_index_ro sl32 rfl rfl rfl h15889) rfl ?_
           refine WPD.takegT 25 rfl (by kernel_rfl) rfl rfl (lb hb15886) (q_fieldAddr_ro fi36_0 rfl rfl S_deflate_Item.p0 (Nat.le_of_ble_eq_true rfl)) rfl ?_
           refine WPD.takegT 26 rfl (by kernel_rfl) rfl rfl (lb hb15886) (q_load_sc sc3 rfl) rfl ?_
           refine WPD.takegT 27 rfl (by kernel_rfl) rfl rfl (lb hb15886) (q_neq rfl rfl) rfl ?_
           refine WPD.takeT 28 rfl (by kernel_rfl) (q_pickF (v := .lit (.bool _)) (lb hb15886) rfl) rfl ?_
           refine WPD.doneW (by kernel_rfl) ?_
           have q0 := (Option.some.inj H)
           subst q0
           exact W.wk [] hnp ⟨rfl, rfl, rfl⟩ ⟨rfl, trivial, by decide, rfl, trivial⟩ (LeE.upd rfl rfl (LeE.upd rfl rfl (LeE.upd rfl rfl (LeE.upd rfl rfl (LeE.none rfl rfl))))) rfl
         rintro _ _ _ ⟨rfl, rfl, rfl⟩
         refine W.now ?_
         refine Then.n ?_
         refine WP.cond (t := x15877) rfl (fun hb15890 => ?_) (fun hb15890 => ?_)
         · replace H := cnt hb15890 H
           refine WP.region ?_
           refine WPL.q (q_as (v := .lit (.int _ _)) rfl) rfl ?_
           refine WPL.nilW ?_
           have q0 := (Option.some.inj H)
           subst q0
           exact W.wk [] hnp ⟨rfl, rfl, rfl⟩ ⟨rfl, trivial, by decide, rfl, trivial⟩ (LeE.upd rfl rfl (LeE.upd rfl rfl (LeE.upd rfl rfl (LeE.none rfl rfl)))) rfl
         replace H := cnf hb15890 H
         refine WP.skipW ?_
         have q0 := (Option.some.inj H)
         subst q0
         exact W.wk [] hnp ⟨rfl, rfl, rfl⟩ ⟨rfl, trivial, by decide, rfl, trivial⟩ (LeE.upd rfl rfl (LeE.upd rfl rfl (LeE.upd rfl rfl (LeE.none rfl rfl)))) rfl
       rintro _ _ _ ⟨rfl, rfl, rfl⟩
       refine W.now ?_
       refine Then.n ?_
       refine WP.seq ?_
       refine WP.region ?_
       refine WPL.q (q_mv (v := .lit (.int _ _)) rfl) rfl ?_
       refine WPL.q (q_gtr rfl rfl) rfl ?_
       refine WPL.nilW ?_
       refine W.now ?_
       refine Then.n ?_
       refine WP.cond (t := (decide (4 < x15864))) rfl (fun hb15892 => ?_) (fun hb15892 => ?_)
       · replace H := cnt hb15892 H
         refine WP.seq ?_
         refine WP.region ?_
         refine WPL.q (q_as (v := .lit (.bool _)) rfl) rfl ?_
         refine WPL.nilW ?_
         refine W.now ?_
         refine Then.n ?_
         refine WP.retW ?_
         have q0 := Option.some.inj H
         subst q0
         exact W.wk [] hnp (InBlock.r (Then.r (Then.r ⟨rfl, rfl, rfl⟩))) ⟨rfl, trivial, by decide, rfl, trivial⟩ (LeE.upd rfl rfl (LeE.none rfl rfl)) rfl
       replace H := cnf hb15892 H
       refine WP.skipW ?_
       refine W.now ?_
       refine InBlock.n ?_
       refine Then.n ?_
       refine WP.region ?_
       refine WPL.q (q_mv (v := .lit (.int _ _)) rfl) rfl ?_
       refine WPL.q (q_add rfl rfl) rfl ?_
       refine WPL.q (q_as (v := .lit (.int _ _)) rfl) rfl ?_
       refine WPL.nilW ?_
       exact W.wk [] hnp (Then.n ⟨n, (x15864, (IntKind.wrap .i64 (x15657 + 1))), Nat.lt_succ_self n, H, rfl, rfl⟩) ⟨rfl, trivial, by decide, rfl, trivial⟩ (LeE.upd rfl rfl (LeE.upd rfl rfl (LeE.upd rfl rfl (LeE.none rfl rfl)))) rfl
     replace H := cnf hb15778 H
     refine WP.exitW ?_
     have q0 := Option.some.inj H
     subst q0
     exact W.wk [] hnp (Then.x (Then.x ⟨rfl, rfl, rfl⟩)) ⟨rfl, trivial, by decide, rfl, trivial⟩ (LeE.none rfl rfl) rfl
   rcases y15895 with _ | _
   · rintro _ _ _ ⟨rfl, rfl, rfl⟩
     have q0 := Option.some.inj H
     subst q0
     exact W.now (InBlock.r (Then.r (BodyR.mkR trivial rfl [] ⟨rfl, rfl⟩ ⟨rfl, trivial, by decide, rfl, trivial⟩ rfl rfl)))
   rintro _ _ _ ⟨rfl, rfl, rfl⟩
   refine W.now ?_
   refine InBlock.x0 ?_
   refine Then.n ?_
   refine WP.seq ?_
   refine WP.region ?_
   refine WPL.q (q_as (v := .lit (.bool _)) rfl) rfl ?_
   refine WPL.nilW ?_
   refine W.now ?_
   refine Then.n ?_
   refine WP.retW ?_
   have q0 := Option.some.inj H
   subst q0
   exact W.now (BodyR.mkR trivial rfl [] ⟨rfl, rfl⟩ ⟨rfl, trivial, by decide, rfl, trivial⟩ rfl rfl)
 rintro _ _ _ ⟨rfl, rfl, rfl⟩
 have q0 := Option.some.inj H
 subst q0
 exact W.now (Then.p (Then.p (BodyR.mkP trivial [] ⟨rfl, rfl⟩ ⟨rfl, trivial, by decide, rfl, trivial⟩ rfl rfl)))
end Go.Proofs.Ytmmeanjjfhimjaa.W
namespace Go.Proofs.Ytmmeanjjfhimjaa.W
open Go Go.Q Go.Proofs
set_option linter.unusedVariables false
set_option linter.unusedSimpArgs false
set_option linter.unusedSectionVars false
abbrev It := S_deflate_Item
/-- The byte at a place; the three bytes from there on. -/
def byA (b : List Int) (i : Nat) : Int := b.getD i 0
def tri (b : List Int) (i : Nat) : Int × Int × Int := (byA b i, byA b (i + 1), byA b (i + 2))
theorem ix_by {b : List Int} {i : Nat} (h : i < b.length) : ix b (i : Int) = some (byA b i) := by
  rw [ix_nat h]; simp [byA, List.getD_eq_getElem?_getD, List.getElem?_eq_getElem h]
theorem by_cut {b : List Int} {i n : Nat} (j : Nat) (hj : j < n) : (List.drop i (List.take (i + n) b)).getD j 0 = byA b (i + j) := by
  unfold byA
  rw [List.getD_eq_getElem?_getD, List.getD_eq_getElem?_getD, List.getElem?_drop, List.getElem?_take_of_lt (by omega)]
/-- What the matcher knows. -/
structure Mt (b : List Int) (nx : Nat) (h : List ((Int × Int × Int) × Int)) (p : List Int) : Prop where
  le : nx ≤ b.length
  len : p.length = b.length
  head : ∀ k v, mapGet h k = some v → 0 ≤ v ∧ v < nx ∧ v + 3 ≤ b.length ∧ tri b v.toNat = k
  all : ∀ i, i < nx → ∃ v, mapGet h (tri b i) = some v ∧ (i : Int) ≤ v
  prev : ∀ i (hi : i < p.length), i < nx → -1 ≤ p[i] ∧ p[i] < i
theorem mt_zero (b : List Int) : Mt b 0 [] (List.replicate b.length 0) := ⟨Nat.zero_le _, by simp, fun k v h => by simp [mapGet_nil] at h, fun i h => absurd h (Nat.not_lt_zero _), fun i _ h => absurd h (Nat.not_lt_zero _)⟩
theorem learn_l0 (k : Nat) (b : List Int) (hb : b.length ≤ 100000000) (to : Nat) (hto : to ≤ b.length) : ∀ (n nx : Nat) (h : List ((Int × Int × Int) × Int)) (p : List Int), Mt b nx h p → b.length - nx < n →
    ∃ (nx' : Nat) (h' : List ((Int × Int × Int) × Int)) (p' : List Int), g_deflate_matcher_learn_l0 k (to : Int) b n (nx : Int) h p = some ((nx' : Int), h', p') ∧ Mt b nx' h' p' ∧ nx ≤ nx' ∧ (nx ≤ to → nx' ≤ to) ∧ (to ≤ nx' ∨ b.length < nx' + 3) := by
  intro n
  induction n with
  | zero => intro nx h p _ hn; omega
  | succ n ih =>
    intro nx h p hm hn
    have hnx := hm.le
    rw [g_deflate_matcher_learn_l0.eq_2]
    simp only [bd, Option.bind_some]
    by_cases h1 : nx < to
    · rw [if_pos (by omega), wi (n := (nx : Int) + 3) (by omega) (by omega)]
      by_cases h2 : nx + 3 ≤ b.length
      · rw [dt (by omega)]
        simp only [Option.bind_some, bt]
        rw [if_pos (by omega), show (nx : Int) + 3 = ((nx + 3 : Nat) : Int) by omega, Int.toNat_natCast, Int.toNat_natCast]
        rw [by_cut 0 (by omega), by_cut 1 (by omega), by_cut 2 (by omega), if_pos (by rw [List.length_drop, List.length_take]; omega)]
        rw [show (byA b (nx + 0), byA b (nx + 1), byA b (nx + 2)) = tri b nx from rfl]
        have hat : ∃ q : Int, (bif !(mapGet h (tri b nx)).isSome then some (-1) else some ((mapGet h (tri b nx)).getD 0)) = some q ∧ -1 ≤ q ∧ q < nx := by
          cases hg : mapGet h (tri b nx) with
          | none => exact ⟨-1, rfl, by omega, by omega⟩
          | some v =>
            have := hm.head _ _ hg
            exact ⟨v, rfl, by omega, by omega⟩
        obtain ⟨q, q1, q2, q3⟩ := hat
        rw [q1]
        simp only [Option.bind_some]
        rw [ix_nat (l := p) (by rw [hm.len]; omega)]
        simp only [Option.bind_some]
        rw [wi (n := (nx : Int) + 1) (by omega) (by omega), show (nx : Int) + 1 = ((nx + 1 : Nat) : Int) by omega]
        have hm' : Mt b (nx + 1) (mapPut h (tri b nx) (nx : Int)) (p.set nx q) := by
          refine ⟨by omega, by rw [List.length_set, hm.len], fun key v hv => ?_, fun i hi => ?_, fun i hi hin => ?_⟩
          · rw [mapGet_put] at hv
            split at hv
            · rename_i e
              obtain rfl := Option.some.inj hv
              exact ⟨by omega, by omega, by omega, by rw [e, Int.toNat_natCast]⟩
            · have := hm.head _ _ hv
              exact ⟨this.1, by omega, this.2.2⟩
          · rw [mapGet_put]
            by_cases e : tri b i = tri b nx
            · rw [if_pos e]; exact ⟨_, rfl, by omega⟩
            · rw [if_neg e]
              exact hm.all i (by
                rcases Nat.lt_or_eq_of_le (Nat.le_of_lt_succ hi) with w | w
                · exact w
                · rw [w] at e; exact absurd rfl e)
          · rw [List.getElem_set]
            by_cases e : nx = i
            · rw [if_pos e]; omega
            · rw [if_neg e]; rw [List.length_set] at hi; exact hm.prev i hi (by omega)
        obtain ⟨nx', h', p', r1, r2, r3, r4, r5⟩ := ih (nx + 1) _ _ hm' (by omega)
        exact ⟨nx', h', p', r1, r2, by omega, fun _ => r4 (by omega), r5⟩
      · rw [df (by omega)]
        exact ⟨nx, h, p, rfl, hm, Nat.le_refl _, id, .inr (by omega)⟩
    · rw [if_neg (by omega)]
      exact ⟨nx, h, p, rfl, hm, Nat.le_refl _, id, .inl (by omega)⟩
theorem longest_l1 (k : Nat) (b : List Int) (hb : b.length ≤ 100000000) (at_ fr : Nat) (hf : fr < at_) (ha : at_ ≤ b.length) : ∀ (n m : Nat), m ≤ 258 → 258 - m < n → at_ + m ≤ b.length → (∀ j, j < m → byA b (fr + j) = byA b (at_ + j)) →
    ∃ m' : Nat, g_deflate_matcher_longest_l1 k (at_ : Int) b (fr : Int) n (m : Int) = some (m' : Int) ∧ m' ≤ 258 ∧ at_ + m' ≤ b.length ∧ (∀ j, j < m' → byA b (fr + j) = byA b (at_ + j)) ∧ (∀ l, l ≤ 258 → at_ + l ≤ b.length → (∀ j, j < l → byA b (fr + j) = byA b (at_ + j)) → l ≤ m') := by
  intro n
  induction n with
  | zero => intro m _ h; omega
  | succ n ih =>
    intro m hm hn hl hj
    rw [g_deflate_matcher_longest_l1.eq_2]
    simp only [bd, Option.bind_some]
    by_cases h1 : m < 258
    · rw [if_pos (by omega), wi (n := (at_ : Int) + m) (by omega) (by omega)]
      by_cases h2 : at_ + m < b.length
      · rw [if_pos (by omega), wi (n := (fr : Int) + m) (by omega) (by omega), show (fr : Int) + m = ((fr + m : Nat) : Int) by omega, show (at_ : Int) + m = ((at_ + m : Nat) : Int) by omega, ix_by (by omega), ix_by h2]
        simp only [Option.bind_some]
        by_cases h3 : byA b (fr + m) = byA b (at_ + m)
        · rw [dt h3, bt, wi (n := (m : Int) + 1) (by omega) (by omega), show (m : Int) + 1 = ((m + 1 : Nat) : Int) by omega]
          exact ih (m + 1) (by omega) (by omega) (by omega) (fun j hj' => by
            rcases Nat.lt_or_eq_of_le (Nat.le_of_lt_succ hj') with w | w
            · exact hj j w
            · rw [w]; exact h3)
        · rw [df h3]
          refine ⟨m, rfl, hm, hl, hj, fun l hl1 hl2 hl3 => Nat.le_of_not_lt fun w => h3 (hl3 m w)⟩
      · rw [if_neg (by omega)]
        exact ⟨m, rfl, hm, hl, hj, fun l _ hl2 _ => by omega⟩
    · rw [if_neg (by omega)]
      exact ⟨m, rfl, hm, hl, hj, fun l hl1 _ _ => by omega⟩
/-- A copy that may be told. -/
def Cp (b : List Int) (at_ n d : Nat) : Prop := n ≤ 258 ∧ at_ + n ≤ b.length ∧ 1 ≤ d ∧ d ≤ at_ ∧ d ≤ 32768 ∧ ∀ j, j < n → byA b (at_ - d + j) = byA b (at_ + j)
theorem longest_l0 (k : Nat) (hk : 300 ≤ k) (b : List Int) (hb : b.length ≤ 100000000) (at_ : Nat) (ha : at_ ≤ b.length) (p : List Int) (hp : p.length = b.length) (nx : Nat) (hnx : nx ≤ at_) (hpv : ∀ i (hi : i < p.length), i < nx → -1 ≤ p[i] ∧ p[i] < i) : ∀ (n c : Nat) (fr : Int) (bst dst : Nat), c ≤ 32 → 32 - c < n → -1 ≤ fr → fr < nx → (0 < bst → Cp b at_ bst dst) → (bst = 0 → dst = 0) →
    ∃ bst' dst' : Nat, g_deflate_matcher_longest_l0 k (at_ : Int) b p n fr (bst : Int) (dst : Int) (c : Int) = some ((bst' : Int), (dst' : Int)) ∧ (0 < bst' → Cp b at_ bst' dst') ∧ (bst' = 0 → dst' = 0) ∧ bst ≤ bst' ∧
      (c < 32 → 0 ≤ fr → (at_ : Int) - fr ≤ 32768 → ∀ l, l ≤ 258 → at_ + l ≤ b.length → (∀ j, j < l → byA b (fr.toNat + j) = byA b (at_ + j)) → l ≤ bst') := by
  intro n
  induction n with
  | zero => intro c fr bst dst _ h; omega
  | succ n ih =>
    intro c fr bst dst hc hn hf1 hf2 hcp hz
    rw [g_deflate_matcher_longest_l0.eq_2]
    simp only [bd, Option.bind_some]
    by_cases h1 : c < 32
    · rw [if_pos (by omega)]
      by_cases h2 : fr < 0
      · rw [if_pos h2]
        exact ⟨bst, dst, rfl, hcp, hz, Nat.le_refl _, fun _ h => by omega⟩
      · rw [if_neg h2, wi (n := (at_ : Int) - fr) (by omega) (by omega)]
        by_cases h3 : 32768 < (at_ : Int) - fr
        · rw [dt h3]
          exact ⟨bst, dst, rfl, hcp, hz, Nat.le_refl _, fun _ _ h => by omega⟩
        · rw [df h3]
          simp only [Option.bind_some, bf]
          obtain ⟨f, rfl⟩ : ∃ f : Nat, fr = (f : Int) := ⟨fr.toNat, by omega⟩
          obtain ⟨m, m1, m2, m3, m4, m5⟩ := longest_l1 k b hb at_ f (by omega) ha k 0 (by omega) (by omega) (by omega) (fun j h => by omega)
          rw [show ((0 : Nat) : Int) = 0 from rfl] at m1
          rw [m1]
          simp only [Option.bind_some]
          have hq : ∃ bq dq : Nat, (if (bst : Int) < m then some ((m : Int), (at_ : Int) - (f : Int)) else some ((bst : Int), (dst : Int))) = some ((bq : Int), (dq : Int)) ∧ (0 < bq → Cp b at_ bq dq) ∧ (bq = 0 → dq = 0) ∧ bst ≤ bq ∧ m ≤ bq := by
            by_cases h4 : bst < m
            · rw [if_pos (by omega)]
              refine ⟨m, at_ - f, by rw [show ((at_ - f : Nat) : Int) = (at_ : Int) - f by omega], fun _ => ⟨m2, m3, by omega, by omega, by omega, fun j hj => ?_⟩, fun h => by omega, by omega, Nat.le_refl _⟩
              rw [show at_ - (at_ - f) = f by omega]; exact m4 j hj
            · rw [if_neg (by omega)]
              exact ⟨bst, dst, rfl, hcp, hz, Nat.le_refl _, by omega⟩
          obtain ⟨bq, dq, q1, q2, q3, q4, q5⟩ := hq
          rw [q1]
          simp only [Option.bind_some]
          have hfp : f < p.length := by omega
          rw [ix_nat hfp]
          simp only [Option.bind_some]
          have hpf := hpv f hfp (by omega)
          rw [wi (n := (c : Int) + 1) (by omega) (by omega), show (c : Int) + 1 = ((c + 1 : Nat) : Int) by omega]
          obtain ⟨b', d', r1, r2, r3, r4, _⟩ := ih (c + 1) p[f] bq dq (by omega) (by omega) hpf.1 (by omega) q2 q3
          refine ⟨b', d', r1, r2, r3, by omega, fun _ _ _ l l1 l2 l3 => ?_⟩
          have := m5 l l1 l2 (by simpa using l3)
          omega
    · rw [if_neg (by omega)]
      exact ⟨bst, dst, rfl, hcp, hz, Nat.le_refl _, fun h => by omega⟩
/-- The longest copy at a place. -/
theorem longest (k : Nat) (b : List Int) (hb : b.length ≤ 100000000) (hk : b.length + 300 ≤ k) (at_ : Nat) (ha : at_ < b.length) (nx : Nat) (h : List ((Int × Int × Int) × Int)) (p : List Int) (hm : Mt b nx h p) (hnx : nx ≤ at_) :
    ∃ (bst dst nx' : Nat) (h' : List ((Int × Int × Int) × Int)) (p' : List Int), g_deflate_matcher_longest k (at_ : Int) b (nx : Int) h p = some ((bst : Int), (dst : Int), (nx' : Int), h', p') ∧ Mt b nx' h' p' ∧ nx' ≤ at_ ∧ (0 < bst → Cp b at_ bst dst) ∧
      (1 ≤ at_ → at_ + 3 ≤ b.length → byA b (at_ - 1) = byA b at_ → byA b at_ = byA b (at_ + 1) → byA b (at_ + 1) = byA b (at_ + 2) → 3 ≤ bst) := by
  unfold g_deflate_matcher_longest
  simp only [bd, Option.bind_some]
  rw [wi (n := (at_ : Int) + 3) (by omega) (by omega)]
  by_cases h1 : b.length < at_ + 3
  · rw [if_pos (by omega)]
    exact ⟨0, 0, nx, h, p, rfl, hm, hnx, fun h => by omega, fun _ h => by omega⟩
  · rw [if_neg (by omega)]
    unfold g_deflate_matcher_learn
    obtain ⟨nx', h', p', r1, r2, r3, r4, r5⟩ := learn_l0 k b hb at_ (by omega) k nx h p hm (by omega)
    rw [r1]
    simp only [Option.bind_some]
    rw [if_pos (by omega), show (at_ : Int) + 3 = ((at_ + 3 : Nat) : Int) by omega, Int.toNat_natCast, Int.toNat_natCast]
    rw [by_cut 0 (by omega), by_cut 1 (by omega), by_cut 2 (by omega), if_pos (by rw [List.length_drop, List.length_take]; omega)]
    rw [show (byA b (at_ + 0), byA b (at_ + 1), byA b (at_ + 2)) = tri b at_ from rfl]
    have hx := r4 hnx
    have hge : at_ ≤ nx' := by rcases r5 with q | q <;> omega
    obtain rfl : nx' = at_ := by omega
    have hrun : 1 ≤ nx' → nx' + 3 ≤ b.length → byA b (nx' - 1) = byA b nx' → byA b nx' = byA b (nx' + 1) → byA b (nx' + 1) = byA b (nx' + 2) → mapGet h' (tri b nx') = some (((nx' - 1 : Nat) : Int)) := by
      intro e0 _ e1 e2 e3
      obtain ⟨v, v1, v2⟩ := r2.all (nx' - 1) (by omega)
      have : tri b (nx' - 1) = tri b nx' := by
        unfold tri
        rw [show nx' - 1 + 1 = nx' by omega, show nx' - 1 + 2 = nx' + 1 by omega, e1, e2, e3]
      rw [this] at v1
      have := r2.head _ _ v1
      rw [v1]; congr 1; omega
    cases hg : mapGet h' (tri b nx') with
    | none =>
      refine ⟨0, 0, nx', h', p', rfl, r2, Nat.le_refl _, fun h => by omega, fun e0 e e1 e2 e3 => ?_⟩
      rw [hrun e0 e e1 e2 e3] at hg; cases hg
    | some v =>
      simp only [Option.isSome_some, Bool.not_true, bf, Option.getD_some]
      have hv := r2.head _ _ hg
      obtain ⟨b', d', s1, s2, s3, s4, s5⟩ := longest_l0 k (by omega) b hb nx' (by omega) p' r2.len nx' (Nat.le_refl _) r2.prev k 0 v 0 0 (by omega) (by omega) (by omega) (by omega) (fun h => by omega) (fun _ => rfl)
      rw [show ((0 : Nat) : Int) = 0 from rfl] at s1
      rw [s1]
      refine ⟨b', d', nx', h', p', rfl, r2, Nat.le_refl _, s2, fun e0 e e1 e2 e3 => ?_⟩
      have hvv := hrun e0 e e1 e2 e3
      rw [hg] at hvv
      have hvn : v = ((nx' - 1 : Nat) : Int) := Option.some.inj hvv
      refine s5 (by decide) hv.1 (by omega) 3 (by decide) (by omega) fun j hj => ?_
      rw [hvn, Int.toNat_natCast]
      obtain rfl | rfl | rfl : j = 0 ∨ j = 1 ∨ j = 2 := by omega
      · exact e1
      · rw [show nx' - 1 + 1 = nx' by omega]; exact e2
      · rw [show nx' - 1 + 2 = nx' + 1 by omega]; exact e3
/-- Items that tell the bytes from a place on. -/
def PI (b : List Int) : Nat → List It → Prop
  | at_, [] => at_ = b.length
  | at_, x :: l => (at_ < b.length ∧ x = ⟨byA b at_, 0, 0⟩ ∧ ¬ (1 ≤ at_ ∧ at_ + 3 ≤ b.length ∧ byA b (at_ - 1) = byA b at_ ∧ byA b at_ = byA b (at_ + 1) ∧ byA b (at_ + 1) = byA b (at_ + 2)) ∧ PI b (at_ + 1) l) ∨
      ∃ n d : Nat, 3 ≤ n ∧ x = ⟨0, n, d⟩ ∧ Cp b at_ n d ∧ PI b (at_ + n) l
def Bytes (b : List Int) : Prop := ∀ x ∈ b, 0 ≤ x ∧ x ≤ 255
theorem by_rng {b : List Int} (hb : Bytes b) (i : Nat) : 0 ≤ byA b i ∧ byA b i ≤ 255 := by
  unfold byA
  by_cases h : i < b.length
  · have e : b.getD i 0 = b[i] := by simp [List.getD_eq_getElem?_getD, List.getElem?_eq_getElem h]
    rw [e]; exact hb _ (List.getElem_mem h)
  · have e : b.getD i 0 = 0 := by simp [List.getD_eq_getElem?_getD, List.getElem?_eq_none (Nat.le_of_not_lt h)]
    rw [e]; omega
theorem collect_l0 (k : Nat) (b : List Int) (hb : b.length ≤ 100000000) (hB : Bytes b) (hk : b.length + 300 ≤ k) : ∀ (n at_ nx : Nat) (h : List ((Int × Int × Int) × Int)) (p : List Int) (acc : List It), at_ ≤ b.length → b.length - at_ < n → Mt b nx h p → nx ≤ at_ → acc.length ≤ at_ →
    ∃ l, g_slices_AppendSeq_deflate_Item_deflate_Item_l0 k b n (at_ : Int) (nx : Int) h p acc = some (acc ++ l) ∧ PI b at_ l := by
  intro n
  induction n with
  | zero => intro at_ nx h p acc _ hn; omega
  | succ n ih =>
    intro at_ nx h p acc ha hn hm hnx hacc
    rw [g_slices_AppendSeq_deflate_Item_deflate_Item_l0.eq_2]
    simp only [bd, Option.bind_some]
    by_cases h1 : at_ < b.length
    · rw [if_pos (by omega), ix_by h1]
      simp only [Option.bind_some]
      obtain ⟨bst, dst, nx', h', p', r1, r2, r3, r4, r5⟩ := longest k b hb hk at_ h1 nx h p hm hnx
      rw [r1]
      simp only [Option.bind_some]
      by_cases h2 : 3 ≤ bst
      · have hcp := r4 (by omega)
        have hcp' := hcp
        unfold Cp at hcp'
        rw [if_pos (by omega)]
        simp only [Option.bind_some]
        rw [if_pos (by simp; omega), wi (n := (at_ : Int) + bst) (by omega) (by omega), show (at_ : Int) + bst = ((at_ + bst : Nat) : Int) by omega]
        obtain ⟨l, l1, l2⟩ := ih (at_ + bst) nx' h' p' (acc ++ [⟨0, bst, dst⟩]) (by omega) (by omega) r2 (by omega) (by simp; omega)
        exact ⟨⟨0, bst, dst⟩ :: l, by rw [l1]; simp, .inr ⟨bst, dst, h2, rfl, hcp, l2⟩⟩
      · rw [if_neg (by omega)]
        simp only [Option.bind_some]
        have hby := by_rng hB at_
        rw [wi (n := byA b at_) (by omega) (by omega), if_pos (by simp; omega), wi (n := (at_ : Int) + 1) (by omega) (by omega), show (at_ : Int) + 1 = ((at_ + 1 : Nat) : Int) by omega]
        obtain ⟨l, l1, l2⟩ := ih (at_ + 1) nx' h' p' (acc ++ [⟨byA b at_, 0, 0⟩]) (by omega) (by omega) r2 (by omega) (by simp; omega)
        exact ⟨⟨byA b at_, 0, 0⟩ :: l, by rw [l1]; simp, .inl ⟨h1, rfl, fun ⟨e0, e, e1, e2, e3⟩ => h2 (r5 e0 e e1 e2 e3), l2⟩⟩
    · rw [if_neg (by omega)]
      exact ⟨[], by simp, by show at_ = b.length; omega⟩
/-- The items. -/
theorem parse_ok (k : Nat) (b : List Int) (hb : b.length ≤ 100000000) (hB : Bytes b) (hk : b.length + 300 ≤ k) : ∃ l, g_deflate_Parse k b = some l ∧ PI b 0 l := by
  unfold g_deflate_Parse g_deflate_items g_slices_Collect_deflate_Item g_slices_AppendSeq_deflate_Item_deflate_Item
  simp only [Option.bind_some, bd]
  rw [if_pos (by omega), Int.toNat_natCast]
  obtain ⟨l, l1, l2⟩ := collect_l0 k b hb hB hk k 0 0 [] (List.replicate b.length 0) [] (by omega) (by omega) (mt_zero b) (Nat.le_refl _) (Nat.le_refl _)
  rw [show ((0 : Nat) : Int) = 0 from rfl] at l1
  simp only [Option.bind_some]
  rw [l1]
  exact ⟨l, rfl, l2⟩
end Go.Proofs.Ytmmeanjjfhimjaa.W
namespace Go.Proofs.Ytmmeanjjfhimjaa.W
open Go Go.Q Go.Proofs
set_option linter.unusedVariables false
set_option linter.unusedSimpArgs false
theorem take_by {b : List Int} {i : Nat} (h : i < b.length) : b.take i ++ [byA b i] = b.take (i + 1) := by
  rw [List.take_add_one, List.getElem?_eq_getElem h]
  congr 1
  simp [byA, List.getD_eq_getElem?_getD, List.getElem?_eq_getElem h]
theorem by_take {b : List Int} {i n : Nat} (h : i < n) : byA (b.take n) i = byA b i := by
  unfold byA; rw [List.getD_eq_getElem?_getD, List.getD_eq_getElem?_getD, List.getElem?_take_of_lt h]
theorem wi8 {x : Int} (h : 0 ≤ x ∧ x ≤ 255) : IntKind.wrap .u8 x = x := by
  have : IntKind.wrap .u8 x = x % 256 := by simp [IntKind.wrap, IntKind.bits, IntKind.signed]
  rw [this]; omega
theorem un_l1 (k : Nat) (b : List Int) (hb : b.length ≤ 1048576) (at_ n d : Nat) (hc : Cp b at_ n d) : ∀ (m j : Nat), j ≤ n → n - j < m →
    g_deflate_Unparse_l1 k ⟨0, n, d⟩ m (j : Int) (b.take (at_ + j)) = some (b.take (at_ + n)) := by
  obtain ⟨c1, c2, c3, c4, c5, c6⟩ := hc
  intro m
  induction m with
  | zero => intro j _ h; omega
  | succ m ih =>
    intro j hj hm
    rw [g_deflate_Unparse_l1.eq_2]
    simp only [bd, Option.bind_some]
    by_cases h : j < n
    · have hl : (b.take (at_ + j)).length = at_ + j := by rw [List.length_take]; omega
      rw [if_pos (by omega), hl, wi (n := ((at_ + j : Nat) : Int) - d) (by omega) (by omega), show ((at_ + j : Nat) : Int) - d = ((at_ - d + j : Nat) : Int) by omega, ix_by (by omega), by_take (by omega), c6 j h]
      simp only [Option.bind_some]
      rw [if_pos (by simp; omega), take_by (by omega), wi (by omega) (by omega), show (j : Int) + 1 = ((j + 1 : Nat) : Int) by omega]
      exact ih (j + 1) (by omega) (by omega)
    · rw [if_neg (by omega)]
      obtain rfl : j = n := by omega
      rfl
theorem ref_un_l1 (k : Nat) (b : List Int) (hb : b.length ≤ 1048576) (at_ n d : Nat) (hc : Cp b at_ n d) : ∀ (m j : Nat), j ≤ n → n - j < m →
    g_quireref04_Unparse_l1 k ⟨0, n, d⟩ m (j : Int) (b.take (at_ + j)) = some (b.take (at_ + n)) := by
  obtain ⟨c1, c2, c3, c4, c5, c6⟩ := hc
  intro m
  induction m with
  | zero => intro j _ h; omega
  | succ m ih =>
    intro j hj hm
    rw [g_quireref04_Unparse_l1.eq_2]
    simp only [bd, Option.bind_some]
    by_cases h : j < n
    · have hl : (b.take (at_ + j)).length = at_ + j := by rw [List.length_take]; omega
      rw [if_pos (by omega), hl, wi (n := ((at_ + j : Nat) : Int) - d) (by omega) (by omega), show ((at_ + j : Nat) : Int) - d = ((at_ - d + j : Nat) : Int) by omega, ix_by (by omega), by_take (by omega), c6 j h]
      simp only [Option.bind_some]
      rw [if_pos (by simp; omega), take_by (by omega), wi (by omega) (by omega), show (j : Int) + 1 = ((j + 1 : Nat) : Int) by omega]
      exact ih (j + 1) (by omega) (by omega)
    · rw [if_neg (by omega)]
      obtain rfl : j = n := by omega
      rfl
theorem ix_mid {α : Type} {dn : List α} {x : α} {r : List α} : ix (dn ++ x :: r) (dn.length : Int) = some x := by rw [ix_nat (by simp)]; simp
set_option maxRecDepth 20000 in
theorem un_l0 (k : Nat) (hk : 300 ≤ k) (b : List Int) (hb : b.length ≤ 1048576) (hB : Bytes b) : ∀ (n : Nat) (dn l : List It) (at_ : Nat), l.length < n → PI b at_ l → at_ ≤ b.length → dn.length + l.length ≤ 100000000 →
    g_deflate_Unparse_l0 k (dn ++ l) n (dn.length : Int) (b.take at_) = some (Sum.inr b) := by
  intro n
  induction n with
  | zero => intro dn l at_ h; omega
  | succ n ih =>
    intro dn l at_ hn hp ha hl
    rw [g_deflate_Unparse_l0.eq_2]
    simp only [bd, Option.bind_some]
    have hlen : (b.take at_).length = at_ := by rw [List.length_take]; omega
    cases l with
    | nil =>
      have : at_ = b.length := hp
      rw [if_neg (by simp), this, List.take_of_length_le (Nat.le_refl _)]
    | cons x l =>
      simp only [List.length_cons] at hn hl
      rw [if_pos (by simp; omega), ix_mid]
      simp only [Option.bind_some]
      rcases hp with ⟨h1, rfl, _, h3⟩ | ⟨m, d, h1, rfl, h2, h3⟩
      · have hby := by_rng hB at_
        rw [if_pos rfl, if_pos hby.1, if_pos (show byA b at_ < 256 by omega), if_pos rfl, hlen, dt (by omega)]
        simp only [Option.bind_some, bt]
        rw [if_pos (by simp; omega), wi8 hby, take_by h1, wi (by omega) (by omega)]
        simp only [Option.bind_some]
        have := ih (dn ++ [⟨byA b at_, 0, 0⟩]) l (at_ + 1) (by omega) h3 (by omega) (by simp; omega)
        rw [show (dn.length : Int) + 1 = ((dn ++ [(⟨byA b at_, 0, 0⟩ : It)]).length : Int) by simp, show dn ++ ⟨byA b at_, 0, 0⟩ :: l = (dn ++ [⟨byA b at_, 0, 0⟩]) ++ l by simp, this]
      · have hc := h2
        obtain ⟨c1, c2, c3, c4, c5, c6⟩ := h2
        rw [if_neg (show ¬ ((m : Int) = 0) by omega)]
        simp only [Option.bind_some, bf]
        rw [if_pos trivial, if_pos (by omega), if_pos (by omega), if_pos (by omega), hlen]
        have hle : (d : Int) ≤ (if ((at_ : Int) : Int) < 32768 then ((at_ : Int) : Int) else 32768) := by split <;> omega
        rw [if_pos hle, wi (n := 1048576 - (at_ : Int)) (by omega) (by omega), dt (by omega)]
        simp only [Option.bind_some, bt]
        have := un_l1 k b hb at_ m d hc k 0 (by omega) (by omega)
        rw [Nat.add_zero, show ((0 : Nat) : Int) = 0 from rfl] at this
        rw [this]
        simp only [Option.bind_some]
        rw [wi (by omega) (by omega)]
        have := ih (dn ++ [⟨0, m, d⟩]) l (at_ + m) (by omega) h3 (by omega) (by simp; omega)
        rw [show (dn.length : Int) + 1 = ((dn ++ [(⟨0, m, d⟩ : It)]).length : Int) by simp, show dn ++ ⟨0, (m : Int), (d : Int)⟩ :: l = (dn ++ [⟨0, (m : Int), (d : Int)⟩]) ++ l by simp, this]
abbrev toR4 : It → S_quireref04_Item := fun x => ⟨x.fByte, x.fLen, x.fDist⟩
theorem ref_un_l0 (k : Nat) (hk : 300 ≤ k) (b : List Int) (hb : b.length < 1048576) (hB : Bytes b) : ∀ (n : Nat) (dn : List S_quireref04_Item) (l : List It) (at_ : Nat), l.length < n → PI b at_ l → at_ ≤ b.length → dn.length + l.length ≤ 100000000 →
    g_quireref04_Unparse_l0 k (dn ++ l.map toR4) n (dn.length : Int) (b.take at_) = some (Sum.inr b) := by
  intro n
  induction n with
  | zero => intro dn l at_ h; omega
  | succ n ih =>
    intro dn l at_ hn hp ha hl
    rw [g_quireref04_Unparse_l0.eq_2]
    simp only [bd, Option.bind_some]
    have hlen : (b.take at_).length = at_ := by rw [List.length_take]; omega
    cases l with
    | nil =>
      have : at_ = b.length := hp
      rw [if_neg (by simp), this, List.take_of_length_le (Nat.le_refl _)]
    | cons x l =>
      simp only [List.length_cons] at hn hl
      rw [List.map_cons, if_pos (by simp; omega), ix_mid]
      simp only [Option.bind_some]
      rcases hp with ⟨h1, rfl, _, h3⟩ | ⟨m, d, h1, rfl, h2, h3⟩
      · have hby := by_rng hB at_
        rw [if_pos rfl, if_neg (by show ¬ byA b at_ < 0; omega), if_neg (by show ¬ 255 < byA b at_; omega), bnd', if_pos rfl, hlen, df (by omega)]
        simp only [Option.bind_some, bf]
        rw [if_pos (by simp; omega), wi8 hby, take_by h1, wi (by omega) (by omega)]
        simp only [Option.bind_some]
        have := ih (dn ++ [toR4 ⟨byA b at_, 0, 0⟩]) l (at_ + 1) (by omega) h3 (by omega) (by simp; omega)
        rw [show (dn.length : Int) + 1 = ((dn ++ [toR4 ⟨byA b at_, 0, 0⟩]).length : Int) by simp, show dn ++ toR4 ⟨byA b at_, 0, 0⟩ :: l.map toR4 = (dn ++ [toR4 ⟨byA b at_, 0, 0⟩]) ++ l.map toR4 by simp, this]
      · have hc := h2
        obtain ⟨c1, c2, c3, c4, c5, c6⟩ := h2
        rw [if_neg (show ¬ ((m : Int) = 0) by omega), bnd', if_pos rfl, if_neg (by show ¬ (m : Int) < 3; omega), if_neg (by show ¬ 258 < (m : Int); omega), if_neg (by show ¬ (d : Int) < 1; omega), if_neg (by show ¬ 32768 < (d : Int); omega), hlen, if_neg (by show ¬ (at_ : Int) < d; omega)]
        rw [wi (n := 1048576 - (at_ : Int)) (by omega) (by omega), df (by show ¬ 1048576 - (at_ : Int) < (m : Int); omega)]
        simp only [Option.bind_some, bf]
        have := ref_un_l1 k b (by omega) at_ m d hc k 0 (by omega) (by omega)
        rw [Nat.add_zero, show ((0 : Nat) : Int) = 0 from rfl] at this
        rw [this]
        simp only [Option.bind_some]
        rw [wi (by omega) (by omega)]
        have := ih (dn ++ [toR4 ⟨0, m, d⟩]) l (at_ + m) (by omega) h3 (by omega) (by simp; omega)
        rw [show (dn.length : Int) + 1 = ((dn ++ [toR4 ⟨0, m, d⟩]).length : Int) by simp, show dn ++ toR4 ⟨0, (m : Int), (d : Int)⟩ :: l.map toR4 = (dn ++ [toR4 ⟨0, (m : Int), (d : Int)⟩]) ++ l.map toR4 by simp, this]
theorem pi_len {b : List Int} : ∀ {l : List It} {at_ : Nat}, PI b at_ l → at_ + l.length ≤ b.length
  | [], at_, h => by have : at_ = b.length := h; simp; omega
  | x :: l, at_, h => by
    rcases h with ⟨h1, _, _, h3⟩ | ⟨n, d, h1, _, h2, h3⟩
    · have := pi_len h3; simp only [List.length_cons]; omega
    · have := pi_len h3; simp only [List.length_cons]; omega
/-- Three alike at most. -/
theorem runs_l1 (k : Nat) (b : List Int) (hb : b.length ≤ 1048576) : ∀ (n : Nat) (dn : List It) (y : It) (l : List It) (at_ r : Nat), l.length < n → PI b at_ l → dn.length + l.length ≤ 100000000 → 1 ≤ r → r ≤ 3 → r ≤ at_ → 
    (0 < y.fLen ∨ y = ⟨byA b (at_ - 1), 0, 0⟩) → (2 ≤ r → y.fLen = 0) → (2 ≤ r → byA b (at_ - 2) = byA b (at_ - 1)) → (3 ≤ r → byA b (at_ - 3) = byA b (at_ - 2)) →
    (2 ≤ r → ¬ (1 ≤ at_ - 1 ∧ at_ - 1 + 3 ≤ b.length ∧ byA b (at_ - 1 - 1) = byA b (at_ - 1) ∧ byA b (at_ - 1) = byA b (at_ - 1 + 1) ∧ byA b (at_ - 1 + 1) = byA b (at_ - 1 + 2))) →
    (3 ≤ r → ¬ (1 ≤ at_ - 2 ∧ at_ - 2 + 3 ≤ b.length ∧ byA b (at_ - 2 - 1) = byA b (at_ - 2) ∧ byA b (at_ - 2) = byA b (at_ - 2 + 1) ∧ byA b (at_ - 2 + 1) = byA b (at_ - 2 + 2))) →
    g_quirelaw04_DeflateParse_l1 k (dn ++ y :: l) n (r : Int) ((dn.length + 1 : Nat) : Int) = some (Sum.inr ()) := by
  intro n
  induction n with
  | zero => intro dn y l at_ r h; omega
  | succ n ih =>
    intro dn y l at_ r hn hp hl hr1 hr3 hra hy hyl e2 e3 n2 n3
    rw [g_quirelaw04_DeflateParse_l1.eq_2]
    simp only [bd, Option.bind_some]
    cases l with
    | nil => rw [if_neg (by simp)]
    | cons x l =>
      simp only [List.length_cons] at hn hl
      have hx : ix (dn ++ y :: x :: l) ((dn.length + 1 : Nat) : Int) = some x := by
        have := ix_mid (dn := dn ++ [y]) (x := x) (r := l)
        simpa using this
      have hyx : ix (dn ++ y :: x :: l) (IntKind.wrap .i64 (((dn.length + 1 : Nat) : Int) - 1)) = some y := by
        rw [wi (by omega) (by omega), show ((dn.length + 1 : Nat) : Int) - 1 = (dn.length : Int) by omega]; exact ix_mid
      have hlen : (dn ++ y :: x :: l).length = dn.length + l.length + 2 := by simp; omega
      rw [if_pos (by rw [hlen]; omega), hx, hyx]
      simp only [Option.bind_some]
      rw [wi (n := (r : Int) + 1) (by omega) (by omega), wi (n := ((dn.length + 1 : Nat) : Int) + 1) (by omega) (by omega)]
      have next : ∀ (at' r' : Nat), PI b at' l → 1 ≤ r' → r' ≤ 3 → r' ≤ at' → (0 < x.fLen ∨ x = ⟨byA b (at' - 1), 0, 0⟩) → (2 ≤ r' → x.fLen = 0) → (2 ≤ r' → byA b (at' - 2) = byA b (at' - 1)) → (3 ≤ r' → byA b (at' - 3) = byA b (at' - 2)) →
          (2 ≤ r' → ¬ (1 ≤ at' - 1 ∧ at' - 1 + 3 ≤ b.length ∧ byA b (at' - 1 - 1) = byA b (at' - 1) ∧ byA b (at' - 1) = byA b (at' - 1 + 1) ∧ byA b (at' - 1 + 1) = byA b (at' - 1 + 2))) →
          (3 ≤ r' → ¬ (1 ≤ at' - 2 ∧ at' - 2 + 3 ≤ b.length ∧ byA b (at' - 2 - 1) = byA b (at' - 2) ∧ byA b (at' - 2) = byA b (at' - 2 + 1) ∧ byA b (at' - 2 + 1) = byA b (at' - 2 + 2))) →
          g_quirelaw04_DeflateParse_l1 k (dn ++ y :: x :: l) n (r' : Int) (((dn.length + 1 : Nat) : Int) + 1) = some (Sum.inr ()) := by
        intro at' r' q1 q2 q3 q4 q5 q6 q7 q8 q9 q10
        have := ih (dn ++ [y]) x l at' r' (by omega) q1 (by simp; omega) q2 q3 q4 q5 q6 q7 q8 q9 q10
        rw [show (((dn ++ [y]).length + 1 : Nat) : Int) = ((dn.length + 1 : Nat) : Int) + 1 by simp] at this
        rw [show dn ++ y :: x :: l = (dn ++ [y]) ++ x :: l by simp, this]
      rcases hp with ⟨h1, rfl, h2, h3⟩ | ⟨m, d, h1, rfl, h2, h3⟩
      · rw [if_neg (show ¬ (0 : Int) < 0 by decide)]
        by_cases hyL : 0 < y.fLen
        · rw [if_pos hyL]
          simp only [Option.bind_some, bt]
          rw [if_neg (by decide)]
          exact next (at_ + 1) 1 h3 (by decide) (by decide) (by omega) (.inr rfl) (fun h => by omega) (fun h => by omega) (fun h => by omega) (fun h => by omega) (fun h => by omega)
        · rw [if_neg hyL]
          have hy' : y = ⟨byA b (at_ - 1), 0, 0⟩ := hy.resolve_left hyL
          by_cases hby : byA b at_ = y.fByte
          · rw [dt hby]
            simp only [Bool.not_true, Option.bind_some, bf]
            have hb1 : byA b (at_ - 1) = byA b at_ := by rw [hby, hy']
            -- one more alike
            have hr : r ≤ 2 := by
              refine Nat.le_of_not_lt fun q => n3 (by omega) ⟨by omega, by omega, ?_, ?_, ?_⟩
              · rw [show at_ - 2 - 1 = at_ - 3 by omega]; exact e3 (by omega)
              · rw [show at_ - 2 + 1 = at_ - 1 by omega]; exact e2 (by omega)
              · rw [show at_ - 2 + 1 = at_ - 1 by omega, show at_ - 2 + 2 = at_ by omega]; exact hb1
            rw [if_neg (by omega), show (r : Int) + 1 = ((r + 1 : Nat) : Int) by omega]
            refine next (at_ + 1) (r + 1) h3 (by omega) (by omega) (by omega) (.inr rfl) (fun _ => rfl) (fun _ => ?_) (fun h => ?_) (fun _ => ?_) (fun h => ?_)
            · rw [show at_ + 1 - 2 = at_ - 1 by omega, show at_ + 1 - 1 = at_ by omega]; exact hb1
            · rw [show at_ + 1 - 3 = at_ - 2 by omega, show at_ + 1 - 2 = at_ - 1 by omega]; exact e2 (by omega)
            · rw [show at_ + 1 - 1 = at_ by omega]; exact h2
            · rw [show at_ + 1 - 2 = at_ - 1 by omega]; exact n2 (by omega)
          · rw [df hby]
            simp only [Bool.not_false, Option.bind_some, bt]
            rw [if_neg (by decide)]
            exact next (at_ + 1) 1 h3 (by decide) (by decide) (by omega) (.inr rfl) (fun h => by omega) (fun h => by omega) (fun h => by omega) (fun h => by omega) (fun h => by omega)
      · rw [if_pos (show (0 : Int) < (m : Int) by omega)]
        simp only [Option.bind_some, bt]
        rw [if_neg (by decide)]
        exact next (at_ + m) 1 h3 (by decide) (by decide) (by omega) (.inl (by show (0 : Int) < (m : Int); omega)) (fun h => by omega) (fun h => by omega) (fun h => by omega) (fun h => by omega) (fun h => by omega)
theorem copy_l0 (k : Nat) : ∀ (n : Nat) (dn l : List It), l.length < n → dn.length + l.length ≤ 100000000 → g_quirelaw04_DeflateParse_l0 k (dn ++ l) n (dn.length : Int) (dn.map toR4) = some ((dn ++ l).map toR4) := by
  intro n
  induction n with
  | zero => intro dn l h; omega
  | succ n ih =>
    intro dn l hn hl
    rw [g_quirelaw04_DeflateParse_l0.eq_2]
    simp only [bd, Option.bind_some]
    cases l with
    | nil => rw [if_neg (by simp)]; simp
    | cons x l =>
      simp only [List.length_cons] at hn hl
      rw [if_pos (by simp; omega), ix_mid]
      simp only [Option.bind_some]
      rw [if_pos (by simp; omega), wi (by omega) (by omega)]
      have := ih (dn ++ [x]) l (by omega) (by simp; omega)
      rw [show (dn.length : Int) + 1 = ((dn ++ [x]).length : Int) by simp, show dn ++ x :: l = (dn ++ [x]) ++ l by simp, show dn.map toR4 ++ [⟨x.fByte, x.fLen, x.fDist⟩] = (dn ++ [x]).map toR4 by simp, this]
end Go.Proofs.Ytmmeanjjfhimjaa.W
namespace Go.Proofs.Ytmmeanjjfhimjaa.W
open Go Go.Q Go.Proofs
set_option linter.unusedVariables false
set_option linter.unusedSimpArgs false
theorem alive4 (n : Nat) : g_quirelaw04_alive (n + 300) = some (Sum.inl true) := by kernel_rfl
theorem bytes_wf {b : List Int} (h : ∀ z ∈ b, (Lit.int .u8 z).wf = true) : Bytes b := fun x hx => by
  have := h x hx
  simp [Lit.wf, IntKind.min, IntKind.max, IntKind.signed, IntKind.bits] at this
  omega
theorem same_self (k : Nat) (b : List Int) : g_quirelaw01_Same k b b = some true := by
  unfold g_quirelaw01_Same; simp
theorem deflateParse (b : List Int) (wb : b.length ≤ maxLen ∧ ∀ z ∈ b, (Lit.int .u8 z).wf = true) : ∃ k, g_quirelaw04_DeflateParse k b = some (Sum.inl true) := by
  refine ⟨(b.length + 700) + 300, ?_⟩
  unfold g_quirelaw04_DeflateParse
  simp only [bd, Option.bind_some]
  by_cases h : 65536 < b.length
  · rw [if_pos (by omega), alive4]; rfl
  · rw [if_neg (by omega)]
    have hB := bytes_wf wb.2
    obtain ⟨l, l1, l2⟩ := parse_ok (b.length + 700 + 300) b (by omega) hB (by omega)
    have hlen := pi_len l2
    rw [l1]
    simp only [Option.bind_some]
    have c1 := copy_l0 (b.length + 700 + 300) (b.length + 700 + 300) [] l (by omega) (by simp; omega)
    rw [List.nil_append, show (([] : List It).length : Int) = 0 from rfl, List.map_nil] at c1
    rw [c1]
    simp only [Option.bind_some]
    unfold g_quireref04_Unparse g_deflate_Unparse
    have c2 := ref_un_l0 (b.length + 700 + 300) (by omega) b (by omega) hB (b.length + 700 + 300) [] l 0 (by omega) l2 (Nat.zero_le _) (by simp; omega)
    rw [List.nil_append, show (([] : List S_quireref04_Item).length : Int) = 0 from rfl, List.take_zero] at c2
    have c3 := un_l0 (b.length + 700 + 300) (by omega) b (by omega) hB (b.length + 700 + 300) [] l 0 (by omega) l2 (Nat.zero_le _) (by simp; omega)
    rw [List.nil_append, show (([] : List It).length : Int) = 0 from rfl, List.take_zero] at c3
    rw [c2, c3]
    simp only [Option.bind_some, Bool.not_true, bf, same_self]
    rw [if_neg (by omega), alive4]
    simp only [Option.bind_some, Bool.not_true, bf]
    have c4 : g_quirelaw04_DeflateParse_l1 (b.length + 700 + 300) l (b.length + 700 + 300) 1 1 = some (Sum.inr ()) := by
      cases l with
      | nil =>
        rw [g_quirelaw04_DeflateParse_l1.eq_2]
        simp only [bd, Option.bind_some]
        rw [if_neg (by simp)]
      | cons y l =>
        simp only [List.length_cons] at hlen
        rcases l2 with ⟨h1, h2, _, h3⟩ | ⟨n, d, h1, h2, h4, h3⟩
        · have := runs_l1 (b.length + 700 + 300) b (by omega) (b.length + 700 + 300) [] y l 1 1 (by omega) h3 (by simp; omega) (by decide) (by decide) (by decide) (.inr h2) (fun h => by omega) (fun h => by omega) (fun h => by omega) (fun h => by omega) (fun h => by omega)
          exact this
        · obtain ⟨_, _, q1, q2, _⟩ := h4
          omega
    rw [c4]; rfl
end Go.Proofs.Ytmmeanjjfhimjaa.W
