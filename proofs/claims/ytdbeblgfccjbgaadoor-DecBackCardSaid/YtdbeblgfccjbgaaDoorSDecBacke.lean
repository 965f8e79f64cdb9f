/- Texts joined: part 5 of what LDecBack stands on. -/
import Derived.Test.YtdbeblgfccjbgaaDoorSDecBackd
namespace Go.Proofs.YtdbeblgfccjbgaaDoor.W
open Go Go.Q Go.Proofs
set_option linter.unusedVariables false
set_option linter.unusedSimpArgs false
set_option maxRecDepth 100000 in
set_option maxHeartbeats 4000000 in
theorem s_dec_wide_cmp (k : Nat) (x6090 : Int) (x6091 : Int) (x6092 : Int) (x6093 : Int) (x6113 : Int) (H : g_dec_wide_cmp k x6090 x6091 x6092 x6093 = some x6113) : Go.Q.Spec Tryd.prog 57 0 [.agg [.lit (.int .u64 x6090), .lit (.int .u64 x6091)], .agg [.lit (.int .u64 x6092), .lit (.int .u64 x6093)]] Mem.nil (fun o M => o = .ret (.lit (.int .i64 x6113)) ∧ M = Mem.nil) := by
 unfold g_dec_wide_cmp at H
 refine Go.Q.Spec.of_bodyR (az := []) (rs := [.tmp 4]) (nt := 29) Tryd.func57 rfl rfl (by intro t T h; simp at h) rfl rfl fun cx hnp => ?_
 refine WP.seq ?_
 refine WP.region ?_
 refine WPL.d (d_box rfl rfl) rfl ?_
 refine WPL.d (d_box rfl rfl) rfl ?_
 refine WPL.q (q_as (v := .lit (.int _ _)) rfl) rfl ?_
 refine WPL.nilW ?_
 refine W.now ?_
 refine Then.n ?_
 refine WP.seq ?_
 refine WP.block ?_
 refine WP.seq ?_
 refine WP.region ?_
 refine WPL.q (q_load_ag ag43 rfl rfl (Nat.le_of_ble_eq_true rfl)) rfl ?_
 refine WPL.q (q_load_ag ag43 rfl rfl (Nat.le_of_ble_eq_true rfl)) rfl ?_
 obtain ⟨x6123, h6123, H⟩ := bnd H
 refine WPL.q (q_nm (q_eqlAg (xs := [(.int .u64 x6090), (.int .u64 x6091)]) (ys := [(.int .u64 x6092), (.int .u64 x6093)]) (n := 9) rfl eg43 rfl rfl eq43) (nm_bool h6123)) rfl ?_
 refine WPL.q (q_as (v := .lit (.bool _)) rfl) rfl ?_
 refine WPL.nilW ?_
 refine W.now ?_
 refine Then.n ?_
 refine WP.cond (t := x6123) rfl (fun hb6123 => ?_) (fun hb6123 => ?_)
 · replace H := cnt hb6123 H
   refine WP.seq ?_
   refine WP.region ?_
   refine WPL.q (q_as (v := .lit (.int _ _)) rfl) rfl ?_
   refine WPL.nilW ?_
   refine W.now ?_
   refine Then.n ?_
   refine WP.retW ?_
   have q0 := (Option.some.inj H)
   subst q0
   exact W.now (InBlock.r (Then.r (BodyR.mkR trivial rfl [] ⟨rfl, rfl⟩ ⟨rfl, trivial, by decide, rfl, trivial⟩ rfl rfl)))
 replace H := cnf hb6123 H
 refine WP.seq ?_
 obtain ⟨x6127, H6129, H⟩ := bnd H
 refine WP.monoW (Q := fun x E M => x = .normal ∧ E = (Env.none.upd 9 (.lit (.bool x6127))) ∧ M = Mem.nil) ?_ ?_
 · clear H
   have H := H6129
   clear H6129
   refine WP.region ?_
   refine WPL.q (q_fieldAddr fi43_0 rfl rfl) rfl ?_
   refine WPL.q (q_load sc41 rfl rfl rfl) rfl ?_
   refine WPL.q (q_fieldAddr fi43_0 rfl rfl) rfl ?_
   refine WPL.q (q_load sc41 rfl rfl rfl) rfl ?_
   refine WPL.q (q_lss rfl rfl) rfl ?_
   refine WPL.q (q_mv (v := .lit (.bool _)) rfl) rfl ?_
   refine WPL.split (t := 15) (b := (decide (x6090 < x6092))) rfl (fun hb6127 => ?_) (fun hb6127 => ?_)
   · replace H := cnt hb6127 H
     refine WPL.skipg (b' := true) rfl rfl (lb hb6127) rfl rfl ?_
     refine WPL.skipg (b' := true) rfl rfl (lb hb6127) rfl rfl ?_
     refine WPL.skipg (b' := true) rfl rfl (lb hb6127) rfl rfl ?_
     refine WPL.skipg (b' := true) rfl rfl (lb hb6127) rfl rfl ?_
     refine WPL.skipg (b' := true) rfl rfl (lb hb6127) rfl rfl ?_
     refine WPL.skipg (b' := true) rfl rfl (lb hb6127) rfl rfl ?_
     refine WPL.skipu rfl rfl rfl rfl ?_
     refine WPL.skipu rfl rfl rfl rfl ?_
     refine WPL.skipu rfl rfl rfl rfl ?_
     refine WPL.skipu rfl rfl rfl rfl ?_
     refine WPL.skipu rfl rfl rfl rfl ?_
     refine WPL.skipg (b' := true) rfl rfl (lb hb6127) rfl rfl ?_
     refine WPL.q (q_pickT (v := .lit (.bool _)) (lb hb6127) rfl) rfl ?_
     refine WPL.q (q_as (v := .lit (.bool _)) rfl) rfl ?_
     refine WPL.nilW ?_
     have q0 := (Option.some.inj H)
     subst q0
     exact W.wk [] hnp ⟨rfl, rfl, rfl⟩ ⟨rfl, trivial, by decide, rfl, trivial⟩ (LeE.upd rfl rfl (LeE.none rfl rfl)) rfl
   replace H := cnf hb6127 H
   refine WPL.qg rfl rfl (lb hb6127) (q_fieldAddr fi43_0 rfl rfl) rfl ?_
   refine WPL.qg rfl rfl (lb hb6127) (q_load sc41 rfl rfl rfl) rfl ?_
   refine WPL.qg rfl rfl (lb hb6127) (q_fieldAddr fi43_0 rfl rfl) rfl ?_
   refine WPL.qg rfl rfl (lb hb6127) (q_load sc41 rfl rfl rfl) rfl ?_
   refine WPL.qg rfl rfl (lb hb6127) (q_eql rfl rfl) rfl ?_
   refine WPL.qg rfl rfl (lb hb6127) (q_mv (v := .lit (.bool _)) rfl) rfl ?_
   refine WPL.split (t := 21) (b := (decide (x6090 = x6092))) rfl (fun hb6128 => ?_) (fun hb6128 => ?_)
   · replace H := cnt hb6128 H
     refine WPL.qg rfl rfl (lb hb6128) (q_fieldAddr fi43_1 rfl rfl) rfl ?_
     refine WPL.qg rfl rfl (lb hb6128) (q_load sc41 rfl rfl rfl) rfl ?_
     refine WPL.qg rfl rfl (lb hb6128) (q_fieldAddr fi43_1 rfl rfl) rfl ?_
     refine WPL.qg rfl rfl (lb hb6128) (q_load sc41 rfl rfl rfl) rfl ?_
     refine WPL.qg rfl rfl (lb hb6128) (q_lss rfl rfl) rfl ?_
     refine WPL.qg rfl rfl (lb hb6127) (q_pickT (v := .lit (.bool _)) (lb hb6128) rfl) rfl ?_
     refine WPL.q (q_pickF (v := .lit (.bool _)) (lb hb6127) rfl) rfl ?_
     refine WPL.q (q_as (v := .lit (.bool _)) rfl) rfl ?_
     refine WPL.nilW ?_
     have q0 := (Option.some.inj H)
     subst q0
     exact W.wk [] hnp ⟨rfl, rfl, rfl⟩ ⟨rfl, trivial, by decide, rfl, trivial⟩ (LeE.upd rfl rfl (LeE.none rfl rfl)) rfl
   replace H := cnf hb6128 H
   refine WPL.skipg (b' := false) rfl rfl (lb hb6128) rfl rfl ?_
   refine WPL.skipg (b' := false) rfl rfl (lb hb6128) rfl rfl ?_
   refine WPL.skipg (b' := false) rfl rfl (lb hb6128) rfl rfl ?_
   refine WPL.skipg (b' := false) rfl rfl (lb hb6128) rfl rfl ?_
   refine WPL.skipg (b' := false) rfl rfl (lb hb6128) rfl rfl ?_
   refine WPL.qg rfl rfl (lb hb6127) (q_pickF (v := .lit (.bool _)) (lb hb6128) rfl) rfl ?_
   refine WPL.q (q_pickF (v := .lit (.bool _)) (lb hb6127) rfl) rfl ?_
   refine WPL.q (q_as (v := .lit (.bool _)) rfl) rfl ?_
   refine WPL.nilW ?_
   have q0 := (Option.some.inj H)
   subst q0
   exact W.wk [] hnp ⟨rfl, rfl, rfl⟩ ⟨rfl, trivial, by decide, rfl, trivial⟩ (LeE.upd rfl rfl (LeE.none rfl rfl)) rfl
 rintro _ _ _ ⟨rfl, rfl, rfl⟩
 refine W.now ?_
 refine Then.n ?_
 refine WP.cond (t := x6127) rfl (fun hb6130 => ?_) (fun hb6130 => ?_)
 · replace H := cnt hb6130 H
   refine WP.seq ?_
   refine WP.region ?_
   refine WPL.q (q_as (v := .lit (.int _ _)) rfl) rfl ?_
   refine WPL.nilW ?_
   refine W.now ?_
   refine Then.n ?_
   refine WP.retW ?_
   have q0 := (Option.some.inj H)
   subst q0
   exact W.now (InBlock.r (Then.r (BodyR.mkR trivial rfl [] ⟨rfl, rfl⟩ ⟨rfl, trivial, by decide, rfl, trivial⟩ rfl rfl)))
 replace H := cnf hb6130 H
 refine WP.skipW ?_
 refine W.now ?_
 refine InBlock.n ?_
 refine Then.n ?_
 refine WP.seq ?_
 refine WP.region ?_
 refine WPL.q (q_as (v := .lit (.int _ _)) rfl) rfl ?_
 refine WPL.nilW ?_
 refine W.now ?_
 refine Then.n ?_
 refine WP.retW ?_
 have q0 := (Option.some.inj H)
 subst q0
 exact W.now (BodyR.mkR trivial rfl [] ⟨rfl, rfl⟩ ⟨rfl, trivial, by decide, rfl, trivial⟩ rfl rfl)
set_option maxRecDepth 100000 in
set_option maxHeartbeats 4000000 in
theorem s_dec_wide_less (k : Nat) (x6135 : Int) (x6136 : Int) (x6137 : Int) (x6138 : Int) (H : g_dec_wide_less k x6135 x6136 x6137 x6138 = some ()) : Go.Q.Spec Tryd.prog 58 0 [.agg [.lit (.int .u64 x6135), .lit (.int .u64 x6136)], .agg [.lit (.int .u64 x6137), .lit (.int .u64 x6138)]] Mem.nil (fun o M => o = .ret (.agg [.lit (.int .u64 ((sub64 x6135 x6137 ((sub64 x6136 x6138 0).2)).1)), .lit (.int .u64 ((sub64 x6136 x6138 0).1))]) ∧ M = (Mem.nil.push (.cells 43 [.lit (.int .u64 ((sub64 x6135 x6137 ((sub64 x6136 x6138 0).2)).1)), .lit (.int .u64 ((sub64 x6136 x6138 0).1))]))) := by
 unfold g_dec_wide_less at H
 refine Go.Q.Spec.of_bodyR (az := [(43, 2)]) (rs := [.cell 4 43]) (nt := 29) Tryd.func58 rfl rfl (by intro t T h; simp at h; rcases h with ⟨rfl, rfl⟩ <;> first | exact ag43) rfl rfl fun cx hnp => ?_
 refine WP.seq ?_
 refine WP.region ?_
 refine WPL.d (d_box rfl rfl) rfl ?_
 refine WPL.d (d_box rfl rfl) rfl ?_
 refine WPL.d (d_alloc ze43 rfl) rfl ?_
 refine WPL.nilW ?_
 refine W.now ?_
 refine Then.n ?_
 refine WP.seq ?_
 refine WP.region ?_
 refine WPL.q (q_fieldAddr fi43_1 rfl rfl) rfl ?_
 refine WPL.q (q_load sc41 rfl rfl rfl) rfl ?_
 refine WPL.q (q_fieldAddr fi43_1 rfl rfl) rfl ?_
 refine WPL.q (q_load sc41 rfl rfl rfl) rfl ?_
 refine WPL.q (q_sub64 ex72 rfl rfl rfl rfl rfl) rfl ?_
 refine WPL.q (q_mv (v := .tup _) rfl) rfl ?_
 refine WPL.q (q_extract rfl rfl) rfl ?_
 refine WPL.q (q_extract rfl rfl) rfl ?_
 refine WPL.q (q_as (v := .lit (.int _ _)) rfl) rfl ?_
 refine WPL.q (q_as (v := .lit (.int _ _)) rfl) rfl ?_
 refine WPL.nilW ?_
 refine W.now ?_
 refine Then.n ?_
 refine WP.seq ?_
 refine WP.region ?_
 refine WPL.q (q_fieldAddr fi43_0 rfl rfl) rfl ?_
 refine WPL.q (q_load sc41 rfl rfl rfl) rfl ?_
 refine WPL.q (q_fieldAddr fi43_0 rfl rfl) rfl ?_
 refine WPL.q (q_load sc41 rfl rfl rfl) rfl ?_
 refine WPL.q (q_mv (v := .lit (.int _ _)) rfl) rfl ?_
 obtain ⟨h6140, H⟩ := grd H
 refine WPL.q (q_sub64 ex72 rfl rfl rfl rfl h6140) rfl ?_
 refine WPL.q (q_mv (v := .tup _) rfl) rfl ?_
 refine WPL.q (q_extract rfl rfl) rfl ?_
 refine WPL.q (q_extract rfl rfl) rfl ?_
 refine WPL.q (q_as (v := .lit (.int _ _)) rfl) rfl ?_
 refine WPL.q (q_as (v := .lit (.int _ _)) rfl) rfl ?_
 refine WPL.nilW ?_
 refine W.now ?_
 refine Then.n ?_
 refine WP.seq ?_
 refine WP.region ?_
 refine WPL.q (q_mv (v := .lit (.int _ _)) rfl) rfl ?_
 refine WPL.q (q_mv (v := .lit (.int _ _)) rfl) rfl ?_
 refine WPL.q (q_build bu43 rfl) rfl ?_
 refine WPL.s (s_store sz43 rfl rfl rfl rfl rfl) ?_
 refine WPL.nilW ?_
 refine W.now ?_
 refine Then.n ?_
 refine WP.retW ?_
 exact W.now (BodyR.mkR trivial rfl [2] ⟨rfl, rfl⟩ ⟨rfl, ⟨trivial, .inr ⟨rfl, rfl, rfl⟩⟩, by decide, rfl, trivial⟩ rfl rfl)
set_option maxRecDepth 100000 in
set_option maxHeartbeats 4000000 in
theorem s_dec_Add (k : Nat) (x5606 : Int) (x5607 : Int) (x5608 : Int) (x5609 : Int) (x6170 : Int) (x6171 : Int) (x6172 : Int) (H : g_dec_Add k x5606 x5607 x5608 x5609 = some (x6170, x6171, x6172)) : Go.Q.Spec Tryd.prog 29 0 [.agg [.lit (.int .i64 x5606), .lit (.int .i64 x5607)], .agg [.lit (.int .i64 x5608), .lit (.int .i64 x5609)]] Mem.nil (fun o M => o = .ret (.tup [.agg [.lit (.int .i64 x6171), .lit (.int .i64 x6172)], .lit (.int .i64 x6170)]) ∧ M = (Mem.nil.push (.cells 23 [.lit (.int .i64 x6171), .lit (.int .i64 x6172)]))) := by
 unfold g_dec_Add at H
 refine Go.Q.Spec.of_bodyR (az := [(23, 2)]) (rs := [.cell 4 23, .tmp 5]) (nt := 68) Tryd.func29 rfl rfl (by intro t T h; simp at h; rcases h with ⟨rfl, rfl⟩ <;> first | exact ag23) rfl rfl fun cx hnp => ?_
 refine WP.seq ?_
 refine WP.region ?_
 refine WPL.d (d_box rfl rfl) rfl ?_
 refine WPL.d (d_box rfl rfl) rfl ?_
 refine WPL.d (d_alloc ze23 rfl) rfl ?_
 refine WPL.q (q_as (v := .lit (.int _ _)) rfl) rfl ?_
 refine WPL.nilW ?_
 refine W.now ?_
 refine Then.n ?_
 refine WP.seq ?_
 refine WP.seq ?_
 refine WP.region ?_
 refine WPL.d (d_buildCells li85 rfl rfl rfl rfl rfl) rfl ?_
 obtain ⟨⟨x6181, x6182, x6183, x6184, x6185⟩, h6179, H⟩ := bnd H
 refine WPL.c (runs_call (s := [3, 0, 1]) (t := [3, 0, 1]) (N := 4) (bor := []) fn22 rfl (s_dec_clean k x5606 x5607 x5608 x5609 x6181 x6182 x6183 x6184 x6185 h6179) ⟨rfl, ⟨⟨⟨trivial, .inr ⟨rfl, rfl, rfl⟩⟩, .inr ⟨rfl, rfl, rfl⟩⟩, .inr ⟨rfl, rfl, rfl⟩⟩, by decide, rfl, trivial⟩ rfl trivial (.ren rfl rfl .nil) rfl ⟨⟨⟨trivial, rfl⟩, rfl⟩, rfl⟩ rfl) rfl ?_
 refine WPL.q (q_not rfl) rfl ?_
 refine WPL.nilW ?_
 refine W.now ?_
 refine Then.n ?_
 refine WP.cond (t := (!x6181)) rfl (fun hb6185 => ?_) (fun hb6185 => ?_)
 · replace H := cnt hb6185 H
   refine WP.seq ?_
   refine WP.region ?_
   refine WPL.q (q_build bu23 rfl) rfl ?_
   refine WPL.s (s_store sz23 rfl rfl rfl rfl rfl) ?_
   refine WPL.q (q_as (v := .lit (.int _ _)) rfl) rfl ?_
   refine WPL.nilW ?_
   refine W.now ?_
   refine Then.n ?_
   refine WP.retW ?_
   have q0 := (Prod.mk.inj (Option.some.inj H)).1
   have q1 := (Prod.mk.inj (Prod.mk.inj (Option.some.inj H)).2).1
   have q2 := (Prod.mk.inj (Prod.mk.inj (Option.some.inj H)).2).2
   subst q0
   subst q1
   subst q2
   exact W.now (Then.r (BodyR.mkR trivial rfl [2] ⟨rfl, rfl⟩ ⟨rfl, ⟨trivial, .inr ⟨rfl, rfl, rfl⟩⟩, by decide, rfl, trivial⟩ rfl rfl))
 replace H := cnf hb6185 H
 refine WP.skipW ?_
 refine W.now ?_
 refine Then.n ?_
 refine WP.seq ?_
 refine WP.region ?_
 refine WPL.q (q_load_ag ag23 rfl rfl (Nat.le_of_ble_eq_true rfl)) rfl ?_
 refine WPL.q (q_load_ag ag23 rfl rfl (Nat.le_of_ble_eq_true rfl)) rfl ?_
 obtain ⟨⟨x6188, x6189, x6190, x6191, x6192, x6193, x6194⟩, h6186, H⟩ := bnd H
 refine WPL.c (runs_call (s := []) (t := [4, 5]) (N := 6) (bor := []) fn56 rfl (s_dec_even k x6182 x6183 x6184 x6185 x6188 x6189 x6190 x6191 x6192 x6193 x6194 h6186) ⟨rfl, trivial, by decide, rfl, trivial⟩ rfl trivial (.ren rfl rfl (.ren rfl rfl .nil)) rfl ⟨⟨trivial, rfl⟩, rfl⟩ rfl) rfl ?_
 refine WPL.q (q_mv (v := .tup _) rfl) rfl ?_
 refine WPL.q (q_extract rfl rfl) rfl ?_
 refine WPL.q (q_extract rfl rfl) rfl ?_
 refine WPL.q (q_extract rfl rfl) rfl ?_
 refine WPL.d (d_alloc ze48 rfl) rfl ?_
 refine WPL.d (d_alloc ze48 rfl) rfl ?_
 refine WPL.s (s_store sz48 rfl rfl rfl rfl rfl) ?_
 refine WPL.s (s_store sz48 rfl rfl rfl rfl rfl) ?_
 refine WPL.q (q_as (v := .lit (.bool _)) rfl) rfl ?_
 refine WPL.nilW ?_
 refine W.now ?_
 refine Then.n ?_
 refine WP.seq ?_
 obtain ⟨y6224, H6222, H⟩ := bnd H
 refine WP.monoW (Q := fun x E M => match (generalizing := false) y6224 with | (Sum.inl _) => x = .ret ∧ E = ((Env.none.upd 4 (.ptr 0 0)).upd 5 (.lit (.int .i64 30))) ∧ M = (Mem.nil.push (.cells 23 [.lit (.int .i64 0), .lit (.int .i64 0)])) | (Sum.inr (x6207, x6208, x6209, x6210)) => x = .normal ∧ E = (((Env.none.upd 4 (.ptr 0 0)).upd 6 (.ptr 1 0)).upd 8 (.lit (.bool x6207))) ∧ M = ((Mem.nil.push (.cells 23 [.lit (.int .i64 0), .lit (.int .i64 0)])).push (.cells 48 [.lit (.bool x6208), .lit (.int .u64 x6209), .lit (.int .u64 x6210), .lit (.int .i64 x6191)]))) ?_ ?_
 · clear H
   have H := H6222
   clear H6222
   refine WP.block ?_
   refine WP.seq ?_
   refine WP.region ?_
   refine WPL.q (q_mv (v := .lit (.bool _)) rfl) rfl ?_
   refine WPL.q (q_not rfl) rfl ?_
   refine WPL.q (q_as (v := .lit (.bool _)) rfl) rfl ?_
   refine WPL.nilW ?_
   refine W.now ?_
   refine Then.n ?_
   refine WP.cond (t := (!x6188)) rfl (fun hb6210 => ?_) (fun hb6210 => ?_)
   · replace H := cnt hb6210 H
     refine WP.seq ?_
     refine WP.region ?_
     refine WPL.q (q_build bu23 rfl) rfl ?_
     refine WPL.s (s_store sz23 rfl rfl rfl rfl rfl) ?_
     refine WPL.q (q_as (v := .lit (.int _ _)) rfl) rfl ?_
     refine WPL.nilW ?_
     refine W.now ?_
     refine Then.n ?_
     refine WP.retW ?_
     have q0 := Option.some.inj H
     subst q0
     exact W.wk [2] hnp (InBlock.r ⟨rfl, rfl, rfl⟩) ⟨rfl, ⟨trivial, .inr ⟨rfl, rfl, rfl⟩⟩, by decide, rfl, trivial⟩ (LeE.upd rfl rfl (LeE.upd rfl rfl (LeE.none rfl rfl))) rfl
   replace H := cnf hb6210 H
   refine WP.seq ?_
   refine WP.region ?_
   refine WPL.q (q_fieldAddr fi48_0 rfl rfl) rfl ?_
   refine WPL.q (q_load sc4 rfl rfl rfl) rfl ?_
   refine WPL.q (q_fieldAddr fi48_0 rfl rfl) rfl ?_
   refine WPL.q (q_load sc4 rfl rfl rfl) rfl ?_
   obtain ⟨x6212, h6212, H⟩ := bnd H
   refine WPL.q (q_nm (q_eqlb Tryd.underlying4 rfl rfl) (nm_bool h6212)) rfl ?_
   refine WPL.q (q_as (v := .lit (.bool _)) rfl) rfl ?_
   refine WPL.nilW ?_
   refine W.now ?_
   refine Then.n ?_
   refine WP.cond (t := x6212) rfl (fun hb6212 => ?_) (fun hb6212 => ?_)
   · replace H := cnt hb6212 H
     refine WP.region ?_
     refine WPL.q (q_fieldAddr fi48_1 rfl rfl) rfl ?_
     refine WPL.q (q_load_ag ag43 rfl rfl (Nat.le_of_ble_eq_true rfl)) rfl ?_
     refine WPL.q (q_fieldAddr fi48_1 rfl rfl) rfl ?_
     refine WPL.q (q_load_ag ag43 rfl rfl (Nat.le_of_ble_eq_true rfl)) rfl ?_
     obtain ⟨x6215, h6213, H⟩ := bnd H
     refine WPL.c (runs_call (s := []) (t := [8]) (N := 9) (bor := []) fn17 rfl (s_dec_wide_plus k x6189 x6190 x6192 x6193 x6215 h6213) ⟨rfl, trivial, by decide, rfl, trivial⟩ rfl trivial (.ren rfl rfl (.ren rfl rfl .nil)) rfl ⟨trivial, rfl⟩ rfl) rfl ?_
     refine WPL.q (q_mv (v := .tup _) rfl) rfl ?_
     refine WPL.q (q_extract rfl rfl) rfl ?_
     refine WPL.q (q_extract rfl rfl) rfl ?_
     refine WPL.q (q_fieldAddr fi48_1 rfl rfl) rfl ?_
     refine WPL.s (s_store sz43 rfl rfl rfl rfl rfl) ?_
     refine WPL.q (q_as (v := .lit (.bool _)) rfl) rfl ?_
     refine WPL.nilW ?_
     have q0 := Option.some.inj H
     subst q0
     exact W.wk [2, 6] hnp (InBlock.n ⟨rfl, rfl, rfl⟩) ⟨rfl, ⟨⟨trivial, .inr ⟨rfl, rfl, rfl⟩⟩, .inr ⟨rfl, rfl, rfl⟩⟩, by decide, rfl, trivial⟩ (LeE.upd rfl rfl (LeE.upd rfl rfl (LeE.upd rfl rfl (LeE.none rfl rfl)))) rfl
   replace H := cnf hb6212 H
   refine WP.seq ?_
   refine WP.region ?_
   refine WPL.q (q_fieldAddr fi48_1 rfl rfl) rfl ?_
   refine WPL.q (q_load_ag ag43 rfl rfl (Nat.le_of_ble_eq_true rfl)) rfl ?_
   refine WPL.q (q_fieldAddr fi48_1 rfl rfl) rfl ?_
   refine WPL.q (q_load_ag ag43 rfl rfl (Nat.le_of_ble_eq_true rfl)) rfl ?_
   obtain ⟨x6217, h6215, H⟩ := bnd H
   refine WPL.c (runs_call (s := []) (t := []) (N := 8) (bor := []) fn57 rfl (s_dec_wide_cmp k x6189 x6190 x6192 x6193 x6217 h6215) ⟨rfl, trivial, by decide, rfl, trivial⟩ rfl trivial (.ren rfl rfl (.ren rfl rfl .nil)) rfl trivial rfl) rfl ?_
   refine WPL.q (q_geq rfl rfl) rfl ?_
   refine WPL.q (q_as (v := .lit (.bool _)) rfl) rfl ?_
   refine WPL.nilW ?_
   refine W.now ?_
   refine Then.n ?_
   refine WP.cond (t := (decide (0 ≤ x6217))) rfl (fun hb6217 => ?_) (fun hb6217 => ?_)
   · replace H := cnt hb6217 H
     refine WP.region ?_
     refine WPL.q (q_fieldAddr fi48_1 rfl rfl) rfl ?_
     refine WPL.q (q_load_ag ag43 rfl rfl (Nat.le_of_ble_eq_true rfl)) rfl ?_
     refine WPL.q (q_fieldAddr fi48_1 rfl rfl) rfl ?_
     refine WPL.q (q_load_ag ag43 rfl rfl (Nat.le_of_ble_eq_true rfl)) rfl ?_
     obtain ⟨_, h6218, H⟩ := bnd H
     refine WPL.c (runs_call (s := []) (t := [8]) (N := 9) (bor := []) fn58 rfl (s_dec_wide_less k x6189 x6190 x6192 x6193 h6218) ⟨rfl, trivial, by decide, rfl, trivial⟩ rfl trivial (.ren rfl rfl (.ren rfl rfl .nil)) rfl ⟨trivial, rfl⟩ rfl) rfl ?_
     refine WPL.q (q_fieldAddr fi48_1 rfl rfl) rfl ?_
     refine WPL.s (s_store sz43 rfl rfl rfl rfl rfl) ?_
     refine WPL.nilW ?_
     have q0 := Option.some.inj H
     subst q0
     exact W.wk [2, 6] hnp (InBlock.n ⟨rfl, rfl, rfl⟩) ⟨rfl, ⟨⟨trivial, .inr ⟨rfl, rfl, rfl⟩⟩, .inr ⟨rfl, rfl, rfl⟩⟩, by decide, rfl, trivial⟩ (LeE.upd rfl rfl (LeE.upd rfl rfl (LeE.upd rfl rfl (LeE.none rfl rfl)))) rfl
   replace H := cnf hb6217 H
   refine WP.regionD' 11 [6, 7] [8] mixed rfl ?_
   refine WPD.takeT 0 rfl (by kernel_rfl) (q_fieldAddr fi48_0 rfl rfl) rfl ?_
   refine WPD.takeT 2 rfl (by kernel_rfl) (q_fieldAddr fi48_1 rfl rfl) rfl ?_
   refine WPD.takeT 4 rfl (by kernel_rfl) (q_fieldAddr fi48_1 rfl rfl) rfl ?_
   refine WPD.take 1 rfl (by kernel_rfl) (q_load sc4 rfl rfl rfl) rfl rfl ?_
   refine WPD.take 3 rfl (by kernel_rfl) (q_load_ag ag43 rfl rfl (Nat.le_of_ble_eq_true rfl)) rfl rfl ?_
   refine WPD.take 5 rfl (by kernel_rfl) (q_load_ag ag43 rfl rfl (Nat.le_of_ble_eq_true rfl)) rfl rfl ?_
   refine WPD.takeT 7 rfl (by kernel_rfl) (q_fieldAddr fi48_0 rfl rfl) rfl ?_
   obtain ⟨_, h6221, H⟩ := bnd H
   refine WPD.eff 6 [6, 7] [8] rfl (by kernel_rfl) (runs_call (s := []) (t := [8]) (N := 9) (bor := []) fn58 rfl (s_dec_wide_less k x6192 x6193 x6189 x6190 h6221) ⟨rfl, trivial, by decide, rfl, trivial⟩ rfl trivial (.ren rfl rfl (.ren rfl rfl .nil)) rfl ⟨trivial, rfl⟩ rfl) rfl rfl ?_
   refine WPD.effS 8 [] [] rfl (by kernel_rfl) (s_store sz4 rfl rfl rfl rfl rfl) rfl ?_
   refine WPD.takeT 9 rfl (by kernel_rfl) (q_fieldAddr fi48_1 rfl rfl) rfl ?_
   refine WPD.effS 10 [] [] rfl (by kernel_rfl) (s_store sz43 rfl rfl rfl rfl rfl) rfl ?_
   refine WPD.doneW (by kernel_rfl) ?_
   have q0 := Option.some.inj H
   subst q0
   exact W.wk [2, 6] hnp (InBlock.n ⟨rfl, rfl, rfl⟩) ⟨rfl, ⟨⟨trivial, .inr ⟨rfl, rfl, rfl⟩⟩, .inr ⟨rfl, rfl, rfl⟩⟩, by decide, rfl, trivial⟩ (LeE.upd rfl rfl (LeE.upd rfl rfl (LeE.upd rfl rfl (LeE.none rfl rfl)))) rfl
 rcases y6224 with _ | ⟨x6207, x6208, x6209, x6210⟩
 · rintro _ _ _ ⟨rfl, rfl, rfl⟩
   have q0 := (Prod.mk.inj (Option.some.inj H)).1
   have q1 := (Prod.mk.inj (Prod.mk.inj (Option.some.inj H)).2).1
   have q2 := (Prod.mk.inj (Prod.mk.inj (Option.some.inj H)).2).2
   subst q0
   subst q1
   subst q2
   exact W.now (Then.r (BodyR.mkR trivial rfl [0] ⟨rfl, rfl⟩ ⟨rfl, ⟨trivial, .inr ⟨rfl, rfl, rfl⟩⟩, by decide, rfl, trivial⟩ rfl rfl))
 rintro _ _ _ ⟨rfl, rfl, rfl⟩
 refine W.now ?_
 refine Then.n ?_
 refine WP.seq ?_
 refine WP.seq ?_
 refine WP.region ?_
 refine WPL.q (q_mv (v := .lit (.bool _)) rfl) rfl ?_
 refine WPL.q (q_not rfl) rfl ?_
 refine WPL.nilW ?_
 refine W.now ?_
 refine Then.n ?_
 refine WP.cond (t := (!x6207)) rfl (fun hb6225 => ?_) (fun hb6225 => ?_)
 · replace H := cnt hb6225 H
   refine WP.seq ?_
   refine WP.region ?_
   refine WPL.q (q_build bu23 rfl) rfl ?_
   refine WPL.s (s_store sz23 rfl rfl rfl rfl rfl) ?_
   refine WPL.q (q_as (v := .lit (.int _ _)) rfl) rfl ?_
   refine WPL.nilW ?_
   refine W.now ?_
   refine Then.n ?_
   refine WP.retW ?_
   have q0 := (Prod.mk.inj (Option.some.inj H)).1
   have q1 := (Prod.mk.inj (Prod.mk.inj (Option.some.inj H)).2).1
   have q2 := (Prod.mk.inj (Prod.mk.inj (Option.some.inj H)).2).2
   subst q0
   subst q1
   subst q2
   exact W.now (Then.r (BodyR.mkR trivial rfl [0] ⟨rfl, rfl⟩ ⟨rfl, ⟨trivial, .inr ⟨rfl, rfl, rfl⟩⟩, by decide, rfl, trivial⟩ rfl rfl))
 replace H := cnf hb6225 H
 refine WP.skipW ?_
 refine W.now ?_
 refine Then.n ?_
 refine WP.seq ?_
 refine WP.region ?_
 refine WPL.q (q_load_ag ag48 rfl rfl (Nat.le_of_ble_eq_true rfl)) rfl ?_
 obtain ⟨⟨x6228, x6229, x6230⟩, h6226, H⟩ := bnd H
 refine WPL.c (runs_call (s := []) (t := [2]) (N := 3) (bor := []) fn18 rfl (s_dec_num_tell k x6208 x6209 x6210 x6191 x6228 x6229 x6230 h6226) ⟨rfl, trivial, by decide, rfl, trivial⟩ rfl trivial (.ren rfl rfl .nil) rfl ⟨trivial, rfl⟩ rfl) rfl ?_
 refine WPL.q (q_extract rfl rfl) rfl ?_
 refine WPL.q (q_extract rfl rfl) rfl ?_
 refine WPL.s (s_store sz23 rfl rfl rfl rfl rfl) ?_
 refine WPL.q (q_as (v := .lit (.int _ _)) rfl) rfl ?_
 refine WPL.nilW ?_
 refine W.now ?_
 refine Then.n ?_
 refine WP.retW ?_
 have q0 := (Prod.mk.inj (Option.some.inj H)).1
 have q1 := (Prod.mk.inj (Prod.mk.inj (Option.some.inj H)).2).1
 have q2 := (Prod.mk.inj (Prod.mk.inj (Option.some.inj H)).2).2
 subst q0
 subst q1
 subst q2
 exact W.now (BodyR.mkR trivial rfl [0] ⟨rfl, rfl⟩ ⟨rfl, ⟨trivial, .inr ⟨rfl, rfl, rfl⟩⟩, by decide, rfl, trivial⟩ rfl rfl)
set_option maxRecDepth 100000 in
set_option maxHeartbeats 4000000 in
theorem s_dec_factors (k : Nat) (x6279 : Int) (x6280 : Int) (x6297 : Int) (x6298 : Int) (H : g_dec_factors k x6279 x6280 = some (x6297, x6298)) : Go.Q.Spec Tryd.prog 59 0 [.lit (.int .u64 x6279), .lit (.int .u64 x6280)] Mem.nil (fun o M => o = .ret (.tup [.lit (.int .i64 x6297), .lit (.int .u64 x6298)]) ∧ M = Mem.nil) := by
 unfold g_dec_factors at H
 refine Go.Q.Spec.of_bodyR (az := []) (rs := [.tmp 4, .tmp 5]) (nt := 18) Tryd.func59 rfl rfl (by intro t T h; simp at h) rfl rfl fun cx hnp => ?_
 refine WP.seq ?_
 refine WP.region ?_
 refine WPL.q (q_as (v := .lit (.int _ _)) rfl) rfl ?_
 refine WPL.q (q_as (v := .lit (.int _ _)) rfl) rfl ?_
 refine WPL.nilW ?_
 refine W.now ?_
 refine Then.n ?_
 refine WP.seq ?_
 refine WP.region ?_
 refine WPL.q (q_as (v := .lit (.int _ _)) rfl) rfl ?_
 refine WPL.nilW ?_
 refine W.now ?_
 refine Then.n ?_
 refine WP.seq ?_
 refine WP.block ?_
 refine WP.cv (Cv.weak (E' := (((Env.none.upd 0 (.lit (.int .u64 x6279))).upd 1 (.lit (.int .u64 x6280))).upd 6 (.lit (.int .i64 0)))) (M' := Mem.nil) [] hnp ⟨rfl, trivial, by decide, rfl, trivial⟩ (LeE.upd rfl rfl (LeE.upd rfl rfl (LeE.upd rfl rfl (LeE.none rfl rfl))))) ?_
 obtain ⟨⟨x6311, x6312⟩, H6317, H⟩ := bnd H
 refine WP.monoW (Q := fun x E M => x = .exit 0 ∧ E = ((Env.none.upd 0 (.lit (.int .u64 x6311))).upd 6 (.lit (.int .i64 x6312))) ∧ M = Mem.nil) ?_ ?_
 · refine WP.loop (β := Int × Int) (fun n b => g_dec_factors_l0 k x6280 n b.1 b.2 = some (x6311, x6312)) (fun b => (((Env.none.upd 0 (.lit (.int .u64 b.1))).upd 1 (.lit (.int .u64 x6280))).upd 6 (.lit (.int .i64 b.2)))) (fun b => Mem.nil) k (x6279, 0) H6317 rfl rfl ?_
   rintro n ⟨x6304, x6305⟩ H
   obtain _ | n := n
   · exact nf rfl H
   rw [g_dec_factors_l0.eq_2] at H
   show WP _ _ _ _ (((Env.none.upd 0 (.lit (.int .u64 x6304))).upd 1 (.lit (.int .u64 x6280))).upd 6 (.lit (.int .i64 x6305))) Mem.nil _
   refine WP.seq ?_
   refine WP.seq ?_
   refine WP.region ?_
   refine WPL.q (q_mv (v := .lit (.int _ _)) rfl) rfl ?_
   refine WPL.q (q_mv (v := .lit (.int _ _)) rfl) rfl ?_
   obtain ⟨h6314, H⟩ := grd H
   refine WPL.q (q_rem rfl rfl (bnot h6314)) rfl ?_
   refine WPL.q (q_eql rfl rfl) rfl ?_
   refine WPL.nilW ?_
   refine W.now ?_
   refine Then.n ?_
   refine WP.cond (t := (decide ((Int.tmod x6304 x6280) = 0))) rfl (fun hb6315 => ?_) (fun hb6315 => ?_)
   · replace H := cnt hb6315 H
     refine WP.skipW ?_
     refine W.now ?_
     refine Then.n ?_
     refine WP.block ?_
     refine WP.seq ?_
     refine WP.region ?_
     refine WPL.q (q_mv (v := .lit (.int _ _)) rfl) rfl ?_
     refine WPL.q (q_mv (v := .lit (.int _ _)) rfl) rfl ?_
     obtain ⟨h6316, H⟩ := grd H
     refine WPL.q (q_quo rfl rfl (bnot h6316)) rfl ?_
     refine WPL.q (q_as (v := .lit (.int _ _)) rfl) rfl ?_
     refine WPL.nilW ?_
     refine W.now ?_
     refine Then.n ?_
     refine WP.region ?_
     refine WPL.q (q_mv (v := .lit (.int _ _)) rfl) rfl ?_
     refine WPL.q (q_add rfl rfl) rfl ?_
     refine WPL.q (q_as (v := .lit (.int _ _)) rfl) rfl ?_
     refine WPL.nilW ?_
     exact W.wk [] hnp (InBlock.n (Then.n ⟨n, ((IntKind.wrap .u64 (Int.tdiv x6304 x6280)), (IntKind.wrap .i64 (x6305 + 1))), Nat.lt_succ_self n, H, rfl, rfl⟩)) ⟨rfl, trivial, by decide, rfl, trivial⟩ (LeE.upd rfl rfl (LeE.upd rfl rfl (LeE.upd rfl rfl (LeE.none rfl rfl)))) rfl
   replace H := cnf hb6315 H
   refine WP.exitW ?_
   have q0 := (Prod.mk.inj (Option.some.inj H)).1
   have q1 := (Prod.mk.inj (Option.some.inj H)).2
   subst q0
   subst q1
   exact W.wk [] hnp (Then.x (Then.x ⟨rfl, rfl, rfl⟩)) ⟨rfl, trivial, by decide, rfl, trivial⟩ (LeE.upd rfl rfl (LeE.upd rfl rfl (LeE.none rfl rfl))) rfl
 rintro _ _ _ ⟨rfl, rfl, rfl⟩
 refine W.now ?_
 refine InBlock.x0 ?_
 refine Then.n ?_
 refine WP.seq ?_
 refine WP.region ?_
 refine WPL.q (q_mv (v := .lit (.int _ _)) rfl) rfl ?_
 refine WPL.q (q_mv (v := .lit (.int _ _)) rfl) rfl ?_
 refine WPL.q (q_as (v := .lit (.int _ _)) rfl) rfl ?_
 refine WPL.q (q_as (v := .lit (.int _ _)) rfl) rfl ?_
 refine WPL.nilW ?_
 refine W.now ?_
 refine Then.n ?_
 refine WP.retW ?_
 have q0 := (Prod.mk.inj (Option.some.inj H)).1
 have q1 := (Prod.mk.inj (Option.some.inj H)).2
 subst q0
 subst q1
 exact W.now (BodyR.mkR trivial rfl [] ⟨rfl, rfl⟩ ⟨rfl, trivial, by decide, rfl, trivial⟩ rfl rfl)
set_option maxRecDepth 100000 in
set_option maxHeartbeats 4000000 in
theorem s_dec_Div (k : Nat) (x6235 : Int) (x6236 : Int) (x6237 : Int) (x6238 : Int) (x6421 : Int) (x6422 : Int) (x6423 : Int) (H : g_dec_Div k x6235 x6236 x6237 x6238 = some (x6421, x6422, x6423)) : Go.Q.Spec Tryd.prog 30 0 [.agg [.lit (.int .i64 x6235), .lit (.int .i64 x6236)], .agg [.lit (.int .i64 x6237), .lit (.int .i64 x6238)]] Mem.nil (fun o M => o = .ret (.tup [.agg [.lit (.int .i64 x6422), .lit (.int .i64 x6423)], .lit (.int .i64 x6421)]) ∧ M = (Mem.nil.push (.cells 23 [.lit (.int .i64 x6422), .lit (.int .i64 x6423)]))) := by
 unfold g_dec_Div at H
 refine Go.Q.Spec.of_bodyR (az := [(23, 2)]) (rs := [.cell 4 23, .tmp 5]) (nt := 118) Tryd.func30 rfl rfl (by intro t T h; simp at h; rcases h with ⟨rfl, rfl⟩ <;> first | exact ag23) rfl rfl fun cx hnp => ?_
 refine WP.seq ?_
 refine WP.region ?_
 refine WPL.d (d_box rfl rfl) rfl ?_
 refine WPL.d (d_box rfl rfl) rfl ?_
 refine WPL.d (d_alloc ze23 rfl) rfl ?_
 refine WPL.q (q_as (v := .lit (.int _ _)) rfl) rfl ?_
 refine WPL.nilW ?_
 refine W.now ?_
 refine Then.n ?_
 refine WP.seq ?_
 refine WP.seq ?_
 refine WP.region ?_
 refine WPL.d (d_buildCells li85 rfl rfl rfl rfl rfl) rfl ?_
 obtain ⟨⟨x6432, x6433, x6434, x6435, x6436⟩, h6430, H⟩ := bnd H
 refine WPL.c (runs_call (s := [3, 0, 1]) (t := [3, 0, 1]) (N := 4) (bor := []) fn22 rfl (s_dec_clean k x6235 x6236 x6237 x6238 x6432 x6433 x6434 x6435 x6436 h6430) ⟨rfl, ⟨⟨⟨trivial, .inr ⟨rfl, rfl, rfl⟩⟩, .inr ⟨rfl, rfl, rfl⟩⟩, .inr ⟨rfl, rfl, rfl⟩⟩, by decide, rfl, trivial⟩ rfl trivial (.ren rfl rfl .nil) rfl ⟨⟨⟨trivial, rfl⟩, rfl⟩, rfl⟩ rfl) rfl ?_
 refine WPL.q (q_not rfl) rfl ?_
 refine WPL.nilW ?_
 refine W.now ?_
 refine Then.n ?_
 refine WP.cond (t := (!x6432)) rfl (fun hb6436 => ?_) (fun hb6436 => ?_)
 · replace H := cnt hb6436 H
   refine WP.seq ?_
   refine WP.region ?_
   refine WPL.q (q_build bu23 rfl) rfl ?_
   refine WPL.s (s_store sz23 rfl rfl rfl rfl rfl) ?_
   refine WPL.q (q_as (v := .lit (.int _ _)) rfl) rfl ?_
   refine WPL.nilW ?_
   refine W.now ?_
   refine Then.n ?_
   refine WP.retW ?_
   have q0 := (Prod.mk.inj (Option.some.inj H)).1
   have q1 := (Prod.mk.inj (Prod.mk.inj (Option.some.inj H)).2).1
   have q2 := (Prod.mk.inj (Prod.mk.inj (Option.some.inj H)).2).2
   subst q0
   subst q1
   subst q2
   exact W.now (Then.r (BodyR.mkR trivial rfl [2] ⟨rfl, rfl⟩ ⟨rfl, ⟨trivial, .inr ⟨rfl, rfl, rfl⟩⟩, by decide, rfl, trivial⟩ rfl rfl))
 replace H := cnf hb6436 H
 refine WP.skipW ?_
 refine W.now ?_
 refine Then.n ?_
 refine WP.seq ?_
 refine WP.seq ?_
 refine WP.region ?_
 refine WPL.q (q_fieldAddr fi23_0 rfl rfl) rfl ?_
 refine WPL.q (q_load sc2 rfl rfl rfl) rfl ?_
 refine WPL.q (q_eql rfl rfl) rfl ?_
 refine WPL.nilW ?_
 refine W.now ?_
 refine Then.n ?_
 refine WP.cond (t := (decide (x6435 = 0))) rfl (fun hb6438 => ?_) (fun hb6438 => ?_)
 · replace H := cnt hb6438 H
   refine WP.seq ?_
   refine WP.region ?_
   refine WPL.q (q_build bu23 rfl) rfl ?_
   refine WPL.s (s_store sz23 rfl rfl rfl rfl rfl) ?_
   refine WPL.q (q_as (v := .lit (.int _ _)) rfl) rfl ?_
   refine WPL.nilW ?_
   refine W.now ?_
   refine Then.n ?_
   refine WP.retW ?_
   have q0 := (Prod.mk.inj (Option.some.inj H)).1
   have q1 := (Prod.mk.inj (Prod.mk.inj (Option.some.inj H)).2).1
   have q2 := (Prod.mk.inj (Prod.mk.inj (Option.some.inj H)).2).2
   subst q0
   subst q1
   subst q2
   exact W.now (Then.r (BodyR.mkR trivial rfl [2] ⟨rfl, rfl⟩ ⟨rfl, ⟨trivial, .inr ⟨rfl, rfl, rfl⟩⟩, by decide, rfl, trivial⟩ rfl rfl))
 replace H := cnf hb6438 H
 refine WP.skipW ?_
 refine W.now ?_
 refine Then.n ?_
 refine WP.seq ?_
 refine WP.seq ?_
 refine WP.region ?_
 refine WPL.q (q_fieldAddr fi23_0 rfl rfl) rfl ?_
 refine WPL.q (q_load sc2 rfl rfl rfl) rfl ?_
 refine WPL.q (q_eql rfl rfl) rfl ?_
 refine WPL.nilW ?_
 refine W.now ?_
 refine Then.n ?_
 refine WP.cond (t := (decide (x6433 = 0))) rfl (fun hb6440 => ?_) (fun hb6440 => ?_)
 · replace H := cnt hb6440 H
   refine WP.seq ?_
   refine WP.region ?_
   refine WPL.q (q_build bu23 rfl) rfl ?_
   refine WPL.s (s_store sz23 rfl rfl rfl rfl rfl) ?_
   refine WPL.q (q_as (v := .lit (.int _ _)) rfl) rfl ?_
   refine WPL.nilW ?_
   refine W.now ?_
   refine Then.n ?_
   refine WP.retW ?_
   have q0 := (Prod.mk.inj (Option.some.inj H)).1
   have q1 := (Prod.mk.inj (Prod.mk.inj (Option.some.inj H)).2).1
   have q2 := (Prod.mk.inj (Prod.mk.inj (Option.some.inj H)).2).2
   subst q0
   subst q1
   subst q2
   exact W.now (Then.r (BodyR.mkR trivial rfl [2] ⟨rfl, rfl⟩ ⟨rfl, ⟨trivial, .inr ⟨rfl, rfl, rfl⟩⟩, by decide, rfl, trivial⟩ rfl rfl))
 replace H := cnf hb6440 H
 refine WP.skipW ?_
 refine W.now ?_
 refine Then.n ?_
 refine WP.seq ?_
 refine WP.regionD' 8 [0, 1] [] mixed rfl ?_
 refine WPD.takeT 0 rfl (by kernel_rfl) (q_fieldAddr fi23_0 rfl rfl) rfl ?_
 refine WPD.takeT 3 rfl (by kernel_rfl) (q_fieldAddr fi23_0 rfl rfl) rfl ?_
 refine WPD.take 1 rfl (by kernel_rfl) (q_load sc2 rfl rfl rfl) rfl rfl ?_
 refine WPD.take 4 rfl (by kernel_rfl) (q_load sc2 rfl rfl rfl) rfl rfl ?_
 obtain ⟨x6447, h6445, H⟩ := bnd H
 refine WPD.eff 2 [0, 1] [] rfl (by kernel_rfl) (runs_call (s := []) (t := []) (N := 4) (bor := []) fn23 rfl (s_dec_size k x6433 x6447 h6445) ⟨rfl, trivial, by decide, rfl, trivial⟩ rfl trivial (.ren rfl rfl .nil) rfl trivial rfl) rfl rfl ?_
 obtain ⟨x6449, h6447, H⟩ := bnd H
 refine WPD.eff 5 [0, 1] [] rfl (by kernel_rfl) (runs_call (s := []) (t := []) (N := 4) (bor := []) fn23 rfl (s_dec_size k x6435 x6449 h6447) ⟨rfl, trivial, by decide, rfl, trivial⟩ rfl trivial (.ren rfl rfl .nil) rfl trivial rfl) rfl rfl ?_
 refine WPD.takeT 6 rfl (by kernel_rfl) (q_as (v := .lit (.int _ _)) rfl) rfl ?_
 refine WPD.takeT 7 rfl (by kernel_rfl) (q_as (v := .lit (.int _ _)) rfl) rfl ?_
 refine WPD.doneW (by kernel_rfl) ?_
 refine W.now ?_
 refine Then.n ?_
 refine WP.seq ?_
 refine WP.region ?_
 refine WPL.q (q_mv (v := .lit (.int _ _)) rfl) rfl ?_
 refine WPL.q (q_mv (v := .lit (.int _ _)) rfl) rfl ?_
 refine WPL.q (q_as (v := .lit (.int _ _)) rfl) rfl ?_
 refine WPL.q (q_as (v := .lit (.int _ _)) rfl) rfl ?_
 refine WPL.nilW ?_
 refine W.now ?_
 refine Then.n ?_
 refine WP.seq ?_
 refine WP.block ?_
 refine WP.cv (Cv.weak (E' := (((((((Env.none.upd 2 (.ptr 0 0)).upd 3 (.ptr 1 0)).upd 4 (.ptr 2 0)).upd 6 (.lit (.int .u64 x6447))).upd 7 (.lit (.int .u64 x6449))).upd 8 (.lit (.int .u64 x6447))).upd 9 (.lit (.int .u64 x6449)))) (M' := (((Mem.nil.push (.cells 23 [.lit (.int .i64 x6433), .lit (.int .i64 x6434)])).push (.cells 23 [.lit (.int .i64 x6435), .lit (.int .i64 x6436)])).push (.cells 23 [.lit (.int .i64 0), .lit (.int .i64 0)]))) [0, 1, 2] hnp ⟨rfl, ⟨⟨⟨trivial, .inr ⟨rfl, rfl, rfl⟩⟩, .inr ⟨rfl, rfl, rfl⟩⟩, .inr ⟨rfl, rfl, rfl⟩⟩, by decide, rfl, trivial⟩ (LeE.upd rfl rfl (LeE.upd rfl rfl (LeE.upd rfl rfl (LeE.upd rfl rfl (LeE.upd rfl rfl (LeE.upd rfl rfl (LeE.upd rfl rfl (LeE.none rfl rfl))))))))) ?_
 obtain ⟨x6460, H6464, H⟩ := bnd H
 refine WP.monoW (Q := fun x E M => x = .exit 0 ∧ E = ((((((Env.none.upd 2 (.ptr 0 0)).upd 3 (.ptr 1 0)).upd 4 (.ptr 2 0)).upd 6 (.lit (.int .u64 x6447))).upd 7 (.lit (.int .u64 x6449))).upd 8 (.lit (.int .u64 x6460))) ∧ M = (((Mem.nil.push (.cells 23 [.lit (.int .i64 x6433), .lit (.int .i64 x6434)])).push (.cells 23 [.lit (.int .i64 x6435), .lit (.int .i64 x6436)])).push (.cells 23 [.lit (.int .i64 0), .lit (.int .i64 0)]))) ?_ ?_
 · refine WP.loop (β := Int × Int) (fun n b => g_dec_Div_l0 k n b.1 b.2 = some x6460) (fun b => (((((((Env.none.upd 2 (.ptr 0 0)).upd 3 (.ptr 1 0)).upd 4 (.ptr 2 0)).upd 6 (.lit (.int .u64 x6447))).upd 7 (.lit (.int .u64 x6449))).upd 8 (.lit (.int .u64 b.1))).upd 9 (.lit (.int .u64 b.2)))) (fun b => (((Mem.nil.push (.cells 23 [.lit (.int .i64 x6433), .lit (.int .i64 x6434)])).push (.cells 23 [.lit (.int .i64 x6435), .lit (.int .i64 x6436)])).push (.cells 23 [.lit (.int .i64 0), .lit (.int .i64 0)]))) k (x6447, x6449) H6464 rfl rfl ?_
   rintro n ⟨x6454, x6455⟩ H
   obtain _ | n := n
   · exact nf rfl H
   rw [g_dec_Div_l0.eq_2] at H
   show WP _ _ _ _ (((((((Env.none.upd 2 (.ptr 0 0)).upd 3 (.ptr 1 0)).upd 4 (.ptr 2 0)).upd 6 (.lit (.int .u64 x6447))).upd 7 (.lit (.int .u64 x6449))).upd 8 (.lit (.int .u64 x6454))).upd 9 (.lit (.int .u64 x6455))) (((Mem.nil.push (.cells 23 [.lit (.int .i64 x6433), .lit (.int .i64 x6434)])).push (.cells 23 [.lit (.int .i64 x6435), .lit (.int .i64 x6436)])).push (.cells 23 [.lit (.int .i64 0), .lit (.int .i64 0)])) _
   refine WP.seq ?_
   refine WP.seq ?_
   refine WP.region ?_
   refine WPL.q (q_mv (v := .lit (.int _ _)) rfl) rfl ?_
   refine WPL.q (q_neq rfl rfl) rfl ?_
   refine WPL.nilW ?_
   refine W.now ?_
   refine Then.n ?_
   refine WP.cond (t := (!decide (x6455 = 0))) rfl (fun hb6461 => ?_) (fun hb6461 => ?_)
   · replace H := cnt hb6461 H
     refine WP.skipW ?_
     refine W.now ?_
     refine Then.n ?_
     refine WP.block ?_
     refine WP.regionD' 6 [] [] mixed rfl ?_
     refine WPD.takeT 0 rfl (by kernel_rfl) (q_mv (v := .lit (.int _ _)) rfl) rfl ?_
     refine WPD.takeT 1 rfl (by kernel_rfl) (q_mv (v := .lit (.int _ _)) rfl) rfl ?_
     refine WPD.takeT 2 rfl (by kernel_rfl) (q_mv (v := .lit (.int _ _)) rfl) rfl ?_
     obtain ⟨h6463, H⟩ := grd H
     refine WPD.takeT 3 rfl (by kernel_rfl) (q_rem rfl rfl (bnot h6463)) rfl ?_
     refine WPD.takeT 4 rfl (by kernel_rfl) (q_as (v := .lit (.int _ _)) rfl) rfl ?_
     refine WPD.takeT 5 rfl (by kernel_rfl) (q_as (v := .lit (.int _ _)) rfl) rfl ?_
     refine WPD.doneW (by kernel_rfl) ?_
     exact W.wk [0, 1, 2] hnp (InBlock.n (Then.n ⟨n, (x6455, (Int.tmod x6454 x6455)), Nat.lt_succ_self n, H, rfl, rfl⟩)) ⟨rfl, ⟨⟨⟨trivial, .inr ⟨rfl, rfl, rfl⟩⟩, .inr ⟨rfl, rfl, rfl⟩⟩, .inr ⟨rfl, rfl, rfl⟩⟩, by decide, rfl, trivial⟩ (LeE.upd rfl rfl (LeE.upd rfl rfl (LeE.upd rfl rfl (LeE.upd rfl rfl (LeE.upd rfl rfl (LeE.upd rfl rfl (LeE.upd rfl rfl (LeE.none rfl rfl)))))))) rfl
   replace H := cnf hb6461 H
   refine WP.exitW ?_
   have q0 := (Option.some.inj H)
   subst q0
   exact W.wk [0, 1, 2] hnp (Then.x (Then.x ⟨rfl, rfl, rfl⟩)) ⟨rfl, ⟨⟨⟨trivial, .inr ⟨rfl, rfl, rfl⟩⟩, .inr ⟨rfl, rfl, rfl⟩⟩, .inr ⟨rfl, rfl, rfl⟩⟩, by decide, rfl, trivial⟩ (LeE.upd rfl rfl (LeE.upd rfl rfl (LeE.upd rfl rfl (LeE.upd rfl rfl (LeE.upd rfl rfl (LeE.upd rfl rfl (LeE.none rfl rfl))))))) rfl
 rintro _ _ _ ⟨rfl, rfl, rfl⟩
 refine W.now ?_
 refine InBlock.x0 ?_
 refine Then.n ?_
 refine WP.seq ?_
 refine WP.region ?_
 refine WPL.q (q_mv (v := .lit (.int _ _)) rfl) rfl ?_
 refine WPL.q (q_mv (v := .lit (.int _ _)) rfl) rfl ?_
 obtain ⟨h6465, H⟩ := grd H
 refine WPL.q (q_quo rfl rfl (bnot h6465)) rfl ?_
 obtain ⟨⟨x6468, x6469⟩, h6466, H⟩ := bnd H
 refine WPL.c (runs_call (s := []) (t := []) (N := 3) (bor := []) fn59 rfl (s_dec_factors k (IntKind.wrap .u64 (Int.tdiv x6449 x6460)) 2 x6468 x6469 h6466) ⟨rfl, trivial, by decide, rfl, trivial⟩ rfl trivial (.ren rfl rfl (.ren rfl rfl .nil)) rfl trivial rfl) rfl ?_
 refine WPL.q (q_mv (v := .tup _) rfl) rfl ?_
 refine WPL.q (q_extract rfl rfl) rfl ?_
 refine WPL.q (q_extract rfl rfl) rfl ?_
 refine WPL.q (q_as (v := .lit (.int _ _)) rfl) rfl ?_
 refine WPL.q (q_as (v := .lit (.int _ _)) rfl) rfl ?_
 refine WPL.nilW ?_
 refine W.now ?_
 refine Then.n ?_
 refine WP.seq ?_
 refine WP.region ?_
 refine WPL.q (q_mv (v := .lit (.int _ _)) rfl) rfl ?_
 obtain ⟨⟨x6471, x6472⟩, h6469, H⟩ := bnd H
 refine WPL.c (runs_call (s := []) (t := []) (N := 3) (bor := []) fn59 rfl (s_dec_factors k x6469 5 x6471 x6472 h6469) ⟨rfl, trivial, by decide, rfl, trivial⟩ rfl trivial (.ren rfl rfl (.ren rfl rfl .nil)) rfl trivial rfl) rfl ?_
 refine WPL.q (q_mv (v := .tup _) rfl) rfl ?_
 refine WPL.q (q_extract rfl rfl) rfl ?_
 refine WPL.q (q_extract rfl rfl) rfl ?_
 refine WPL.q (q_as (v := .lit (.int _ _)) rfl) rfl ?_
 refine WPL.q (q_as (v := .lit (.int _ _)) rfl) rfl ?_
 refine WPL.nilW ?_
 refine W.now ?_
 refine Then.n ?_
 refine WP.seq ?_
 refine WP.seq ?_
 refine WP.region ?_
 refine WPL.q (q_mv (v := .lit (.int _ _)) rfl) rfl ?_
 refine WPL.q (q_neq rfl rfl) rfl ?_
 refine WPL.nilW ?_
 refine W.now ?_
 refine Then.n ?_
 refine WP.cond (t := (!decide (x6472 = 1))) rfl (fun hb6473 => ?_) (fun hb6473 => ?_)
 · replace H := cnt hb6473 H
   refine WP.seq ?_
   refine WP.region ?_
   refine WPL.q (q_build bu23 rfl) rfl ?_
   refine WPL.s (s_store sz23 rfl rfl rfl rfl rfl) ?_
   refine WPL.q (q_as (v := .lit (.int _ _)) rfl) rfl ?_
   refine WPL.nilW ?_
   refine W.now ?_
   refine Then.n ?_
   refine WP.retW ?_
   have q0 := (Prod.mk.inj (Option.some.inj H)).1
   have q1 := (Prod.mk.inj (Prod.mk.inj (Option.some.inj H)).2).1
   have q2 := (Prod.mk.inj (Prod.mk.inj (Option.some.inj H)).2).2
   subst q0
   subst q1
   subst q2
   exact W.now (Then.r (BodyR.mkR trivial rfl [2] ⟨rfl, rfl⟩ ⟨rfl, ⟨trivial, .inr ⟨rfl, rfl, rfl⟩⟩, by decide, rfl, trivial⟩ rfl rfl))
 replace H := cnf hb6473 H
 refine WP.skipW ?_
 refine W.now ?_
 refine Then.n ?_
 refine WP.seq ?_
 refine WP.region ?_
 refine WPL.q (q_mv (v := .lit (.int _ _)) rfl) rfl ?_
 refine WPL.q (q_mv (v := .lit (.int _ _)) rfl) rfl ?_
 obtain ⟨x6475, h6475, H⟩ := bnd H
 refine WPL.q (q_nm (q_max rfl rfl) (nm_int h6475)) rfl ?_
 refine WPL.q (q_as (v := .lit (.int _ _)) rfl) rfl ?_
 refine WPL.nilW ?_
 refine W.now ?_
 refine Then.n ?_
 refine WP.seq ?_
 refine WP.region ?_
 refine WPL.q (q_mv (v := .lit (.int _ _)) rfl) rfl ?_
 refine WPL.q (q_mv (v := .lit (.int _ _)) rfl) rfl ?_
 obtain ⟨h6475, H⟩ := grd H
 refine WPL.q (q_quo rfl rfl (bnot h6475)) rfl ?_
 refine WPL.q (q_build bu43 rfl) rfl ?_
 refine WPL.d (d_alloc ze43 rfl) rfl ?_
 refine WPL.s (s_store sz43 rfl rfl rfl rfl rfl) ?_
 refine WPL.q (q_as (v := .lit (.bool _)) rfl) rfl ?_
 refine WPL.nilW ?_
 refine W.now ?_
 refine Then.n ?_
 refine WP.seq ?_
 refine WP.seq ?_
 refine WP.region ?_
 refine WPL.q (q_as (v := .lit (.int _ _)) rfl) rfl ?_
 refine WPL.nilW ?_
 refine W.now ?_
 refine Then.n ?_
 refine WP.block ?_
 refine WP.cv (Cv.weak (E' := (((((((((Env.none.upd 2 (.ptr 0 0)).upd 3 (.ptr 1 0)).upd 4 (.ptr 2 0)).upd 10 (.lit (.int .i64 x6468))).upd 12 (.lit (.int .i64 x6471))).upd 13 (.lit (.int .i64 x6475))).upd 14 (.ptr 3 0)).upd 15 (.lit (.bool true))).upd 16 (.lit (.int .i64 0)))) (M' := ((((Mem.nil.push (.cells 23 [.lit (.int .i64 x6433), .lit (.int .i64 x6434)])).push (.cells 23 [.lit (.int .i64 x6435), .lit (.int .i64 x6436)])).push (.cells 23 [.lit (.int .i64 0), .lit (.int .i64 0)])).push (.cells 43 [.lit (.int .u64 0), .lit (.int .u64 (IntKind.wrap .u64 (Int.tdiv x6447 x6460)))]))) [0, 1, 2, 3] hnp ⟨rfl, ⟨⟨⟨⟨trivial, .inr ⟨rfl, rfl, rfl⟩⟩, .inr ⟨rfl, rfl, rfl⟩⟩, .inr ⟨rfl, rfl, rfl⟩⟩, .inr ⟨rfl, rfl, rfl⟩⟩, by decide, rfl, trivial⟩ (LeE.upd rfl rfl (LeE.upd rfl rfl (LeE.upd rfl rfl (LeE.upd rfl rfl (LeE.upd rfl rfl (LeE.upd rfl rfl (LeE.upd rfl rfl (LeE.upd rfl rfl (LeE.upd rfl rfl (LeE.none rfl rfl))))))))))) ?_
 obtain ⟨⟨x6515, x6516, x6517⟩, H6534, H⟩ := bnd H
 refine WP.monoW (Q := fun x E M => x = .exit 2 ∧ E = (((((((Env.none.upd 2 (.ptr 0 0)).upd 3 (.ptr 1 0)).upd 4 (.ptr 2 0)).upd 12 (.lit (.int .i64 x6471))).upd 13 (.lit (.int .i64 x6475))).upd 14 (.ptr 3 0)).upd 15 (.lit (.bool x6515))) ∧ M = ((((Mem.nil.push (.cells 23 [.lit (.int .i64 x6433), .lit (.int .i64 x6434)])).push (.cells 23 [.lit (.int .i64 x6435), .lit (.int .i64 x6436)])).push (.cells 23 [.lit (.int .i64 0), .lit (.int .i64 0)])).push (.cells 43 [.lit (.int .u64 x6516), .lit (.int .u64 x6517)]))) ?_ ?_
 · refine WP.loop (β := Bool × Int × Int × Int) (fun n b => g_dec_Div_l1 k x6468 x6475 n b.1 b.2.1 b.2.2.1 b.2.2.2 = some (x6515, x6516, x6517)) (fun b => (((((((((Env.none.upd 2 (.ptr 0 0)).upd 3 (.ptr 1 0)).upd 4 (.ptr 2 0)).upd 10 (.lit (.int .i64 x6468))).upd 12 (.lit (.int .i64 x6471))).upd 13 (.lit (.int .i64 x6475))).upd 14 (.ptr 3 0)).upd 15 (.lit (.bool b.1))).upd 16 (.lit (.int .i64 b.2.1)))) (fun b => ((((Mem.nil.push (.cells 23 [.lit (.int .i64 x6433), .lit (.int .i64 x6434)])).push (.cells 23 [.lit (.int .i64 x6435), .lit (.int .i64 x6436)])).push (.cells 23 [.lit (.int .i64 0), .lit (.int .i64 0)])).push (.cells 43 [.lit (.int .u64 b.2.2.1), .lit (.int .u64 b.2.2.2)]))) k (true, 0, 0, (IntKind.wrap .u64 (Int.tdiv x6447 x6460))) H6534 rfl rfl ?_
   rintro n ⟨x6494, x6495, x6496, x6497⟩ H
   obtain _ | n := n
   · exact nf rfl H
   rw [g_dec_Div_l1.eq_2] at H
   show WP _ _ _ _ (((((((((Env.none.upd 2 (.ptr 0 0)).upd 3 (.ptr 1 0)).upd 4 (.ptr 2 0)).upd 10 (.lit (.int .i64 x6468))).upd 12 (.lit (.int .i64 x6471))).upd 13 (.lit (.int .i64 x6475))).upd 14 (.ptr 3 0)).upd 15 (.lit (.bool x6494))).upd 16 (.lit (.int .i64 x6495))) ((((Mem.nil.push (.cells 23 [.lit (.int .i64 x6433), .lit (.int .i64 x6434)])).push (.cells 23 [.lit (.int .i64 x6435), .lit (.int .i64 x6436)])).push (.cells 23 [.lit (.int .i64 0), .lit (.int .i64 0)])).push (.cells 43 [.lit (.int .u64 x6496), .lit (.int .u64 x6497)])) _
   refine WP.seq ?_
   refine WP.seq ?_
   obtain ⟨x6527, H6529, H⟩ := bnd H
   refine WP.monoW (Q := fun x E M => x = .normal ∧ E = ((((((((((Env.none.upd 2 (.ptr 0 0)).upd 3 (.ptr 1 0)).upd 4 (.ptr 2 0)).upd 10 (.lit (.int .i64 x6468))).upd 12 (.lit (.int .i64 x6471))).upd 13 (.lit (.int .i64 x6475))).upd 14 (.ptr 3 0)).upd 15 (.lit (.bool x6494))).upd 16 (.lit (.int .i64 x6495))).upd 73 (.lit (.bool x6527))) ∧ M = ((((Mem.nil.push (.cells 23 [.lit (.int .i64 x6433), .lit (.int .i64 x6434)])).push (.cells 23 [.lit (.int .i64 x6435), .lit (.int .i64 x6436)])).push (.cells 23 [.lit (.int .i64 0), .lit (.int .i64 0)])).push (.cells 43 [.lit (.int .u64 x6496), .lit (.int .u64 x6497)]))) ?_ ?_
   · clear H
     have H := H6529
     clear H6529
     refine WP.region ?_
     refine WPL.q (q_mv (v := .lit (.int _ _)) rfl) rfl ?_
     refine WPL.q (q_mv (v := .lit (.int _ _)) rfl) rfl ?_
     refine WPL.q (q_mv (v := .lit (.int _ _)) rfl) rfl ?_
     refine WPL.q (q_sub rfl rfl) rfl ?_
     obtain ⟨x6528, h6528, H⟩ := bnd H
     refine WPL.q (q_nm (q_lss rfl rfl) (nm_bool h6528)) rfl ?_
     refine WPL.q (q_mv (v := .lit (.bool _)) rfl) rfl ?_
     refine WPL.split (t := 71) (b := x6528) rfl (fun hb6528 => ?_) (fun hb6528 => ?_)
     · replace H := cnt hb6528 H
       refine WPL.qg rfl rfl (lb hb6528) (q_mv (v := .lit (.bool _)) rfl) rfl ?_
       refine WPL.q (q_pickT (v := .lit (.bool _)) (lb hb6528) rfl) rfl ?_
       refine WPL.nilW ?_
       have q0 := (Option.some.inj H)
       subst q0
       exact W.wk [0, 1, 2, 3] hnp ⟨rfl, rfl, rfl⟩ ⟨rfl, ⟨⟨⟨⟨trivial, .inr ⟨rfl, rfl, rfl⟩⟩, .inr ⟨rfl, rfl, rfl⟩⟩, .inr ⟨rfl, rfl, rfl⟩⟩, .inr ⟨rfl, rfl, rfl⟩⟩, by decide, rfl, trivial⟩ (LeE.upd rfl rfl (LeE.upd rfl rfl (LeE.upd rfl rfl (LeE.upd rfl rfl (LeE.upd rfl rfl (LeE.upd rfl rfl (LeE.upd rfl rfl (LeE.upd rfl rfl (LeE.upd rfl rfl (LeE.upd rfl rfl (LeE.none rfl rfl))))))))))) rfl
     replace H := cnf hb6528 H
     refine WPL.skipg (b' := false) rfl rfl (lb hb6528) rfl rfl ?_
     refine WPL.q (q_pickF (v := .lit (.bool _)) (lb hb6528) rfl) rfl ?_
     refine WPL.nilW ?_
     have q0 := (Option.some.inj H)
     subst q0
     exact W.wk [0, 1, 2, 3] hnp ⟨rfl, rfl, rfl⟩ ⟨rfl, ⟨⟨⟨⟨trivial, .inr ⟨rfl, rfl, rfl⟩⟩, .inr ⟨rfl, rfl, rfl⟩⟩, .inr ⟨rfl, rfl, rfl⟩⟩, .inr ⟨rfl, rfl, rfl⟩⟩, by decide, rfl, trivial⟩ (LeE.upd rfl rfl (LeE.upd rfl rfl (LeE.upd rfl rfl (LeE.upd rfl rfl (LeE.upd rfl rfl (LeE.upd rfl rfl (LeE.upd rfl rfl (LeE.upd rfl rfl (LeE.upd rfl rfl (LeE.upd rfl rfl (LeE.none rfl rfl))))))))))) rfl
   rintro _ _ _ ⟨rfl, rfl, rfl⟩
   refine W.now ?_
   refine Then.n ?_
   refine WP.cond (t := x6527) rfl (fun hb6530 => ?_) (fun hb6530 => ?_)
   · replace H := cnt hb6530 H
     refine WP.skipW ?_
     refine W.now ?_
     refine Then.n ?_
     refine WP.seq ?_
     refine WP.block ?_
     refine WP.region ?_
     refine WPL.q (q_load_ag ag43 rfl rfl (Nat.le_of_ble_eq_true rfl)) rfl ?_
     obtain ⟨⟨x6533, x6534⟩, h6531, H⟩ := bnd H
     refine WPL.c (runs_call (s := []) (t := [4]) (N := 5) (bor := []) fn16 rfl (s_dec_wide_times k x6496 x6497 2 x6533 x6534 h6531) ⟨rfl, trivial, by decide, rfl, trivial⟩ rfl trivial (.ren rfl rfl (.ren rfl rfl .nil)) rfl ⟨trivial, rfl⟩ rfl) rfl ?_
     refine WPL.q (q_mv (v := .tup _) rfl) rfl ?_
     refine WPL.q (q_extract rfl rfl) rfl ?_
     refine WPL.q (q_extract rfl rfl) rfl ?_
     refine WPL.s (s_store sz43 rfl rfl rfl rfl rfl) ?_
     refine WPL.q (q_as (v := .lit (.bool _)) rfl) rfl ?_
     refine WPL.nilW ?_
     refine W.now ?_
     refine InBlock.n ?_
     refine Then.n ?_
     refine WP.region ?_
     refine WPL.q (q_mv (v := .lit (.int _ _)) rfl) rfl ?_
     refine WPL.q (q_add rfl rfl) rfl ?_
     refine WPL.q (q_as (v := .lit (.int _ _)) rfl) rfl ?_
     refine WPL.nilW ?_
     exact W.wk [0, 1, 2, 3] hnp (Then.n ⟨n, (x6533, (IntKind.wrap .i64 (x6495 + 1)), x6534, (IntKind.wrap .u64 (x6497 * 2))), Nat.lt_succ_self n, H, rfl, rfl⟩) ⟨rfl, ⟨⟨⟨⟨trivial, .inr ⟨rfl, rfl, rfl⟩⟩, .inr ⟨rfl, rfl, rfl⟩⟩, .inr ⟨rfl, rfl, rfl⟩⟩, .inr ⟨rfl, rfl, rfl⟩⟩, by decide, rfl, trivial⟩ (LeE.upd rfl rfl (LeE.upd rfl rfl (LeE.upd rfl rfl (LeE.upd rfl rfl (LeE.upd rfl rfl (LeE.upd rfl rfl (LeE.upd rfl rfl (LeE.upd rfl rfl (LeE.upd rfl rfl (LeE.none rfl rfl)))))))))) rfl
   replace H := cnf hb6530 H
   refine WP.exitW ?_
   have q0 := (Prod.mk.inj (Option.some.inj H)).1
   have q1 := (Prod.mk.inj (Prod.mk.inj (Option.some.inj H)).2).1
   have q2 := (Prod.mk.inj (Prod.mk.inj (Option.some.inj H)).2).2
   subst q0
   subst q1
   subst q2
   exact W.wk [0, 1, 2, 3] hnp (Then.x (Then.x ⟨rfl, rfl, rfl⟩)) ⟨rfl, ⟨⟨⟨⟨trivial, .inr ⟨rfl, rfl, rfl⟩⟩, .inr ⟨rfl, rfl, rfl⟩⟩, .inr ⟨rfl, rfl, rfl⟩⟩, .inr ⟨rfl, rfl, rfl⟩⟩, by decide, rfl, trivial⟩ (LeE.upd rfl rfl (LeE.upd rfl rfl (LeE.upd rfl rfl (LeE.upd rfl rfl (LeE.upd rfl rfl (LeE.upd rfl rfl (LeE.upd rfl rfl (LeE.none rfl rfl)))))))) rfl
 rintro _ _ _ ⟨rfl, rfl, rfl⟩
 refine W.now ?_
 refine InBlock.x0 ?_
 refine Then.n ?_
 refine WP.seq ?_
 refine WP.seq ?_
 refine WP.region ?_
 refine WPL.q (q_as (v := .lit (.int _ _)) rfl) rfl ?_
 refine WPL.nilW ?_
 refine W.now ?_
 refine Then.n ?_
 refine WP.block ?_
 refine WP.cv (Cv.weak (E' := ((((((((Env.none.upd 2 (.ptr 0 0)).upd 3 (.ptr 1 0)).upd 4 (.ptr 2 0)).upd 12 (.lit (.int .i64 x6471))).upd 13 (.lit (.int .i64 x6475))).upd 14 (.ptr 3 0)).upd 15 (.lit (.bool x6515))).upd 17 (.lit (.int .i64 0)))) (M' := ((((Mem.nil.push (.cells 23 [.lit (.int .i64 x6433), .lit (.int .i64 x6434)])).push (.cells 23 [.lit (.int .i64 x6435), .lit (.int .i64 x6436)])).push (.cells 23 [.lit (.int .i64 0), .lit (.int .i64 0)])).push (.cells 43 [.lit (.int .u64 x6516), .lit (.int .u64 x6517)]))) [0, 1, 2, 3] hnp ⟨rfl, ⟨⟨⟨⟨trivial, .inr ⟨rfl, rfl, rfl⟩⟩, .inr ⟨rfl, rfl, rfl⟩⟩, .inr ⟨rfl, rfl, rfl⟩⟩, .inr ⟨rfl, rfl, rfl⟩⟩, by decide, rfl, trivial⟩ (LeE.upd rfl rfl (LeE.upd rfl rfl (LeE.upd rfl rfl (LeE.upd rfl rfl (LeE.upd rfl rfl (LeE.upd rfl rfl (LeE.upd rfl rfl (LeE.upd rfl rfl (LeE.none rfl rfl)))))))))) ?_
 obtain ⟨⟨x6574, x6575, x6576⟩, H6593, H⟩ := bnd H
 refine WP.monoW (Q := fun x E M => x = .exit 4 ∧ E = ((((((Env.none.upd 2 (.ptr 0 0)).upd 3 (.ptr 1 0)).upd 4 (.ptr 2 0)).upd 13 (.lit (.int .i64 x6475))).upd 14 (.ptr 3 0)).upd 15 (.lit (.bool x6574))) ∧ M = ((((Mem.nil.push (.cells 23 [.lit (.int .i64 x6433), .lit (.int .i64 x6434)])).push (.cells 23 [.lit (.int .i64 x6435), .lit (.int .i64 x6436)])).push (.cells 23 [.lit (.int .i64 0), .lit (.int .i64 0)])).push (.cells 43 [.lit (.int .u64 x6575), .lit (.int .u64 x6576)]))) ?_ ?_
 · refine WP.loop (β := Bool × Int × Int × Int) (fun n b => g_dec_Div_l2 k x6471 x6475 n b.1 b.2.1 b.2.2.1 b.2.2.2 = some (x6574, x6575, x6576)) (fun b => ((((((((Env.none.upd 2 (.ptr 0 0)).upd 3 (.ptr 1 0)).upd 4 (.ptr 2 0)).upd 12 (.lit (.int .i64 x6471))).upd 13 (.lit (.int .i64 x6475))).upd 14 (.ptr 3 0)).upd 15 (.lit (.bool b.1))).upd 17 (.lit (.int .i64 b.2.1)))) (fun b => ((((Mem.nil.push (.cells 23 [.lit (.int .i64 x6433), .lit (.int .i64 x6434)])).push (.cells 23 [.lit (.int .i64 x6435), .lit (.int .i64 x6436)])).push (.cells 23 [.lit (.int .i64 0), .lit (.int .i64 0)])).push (.cells 43 [.lit (.int .u64 b.2.2.1), .lit (.int .u64 b.2.2.2)]))) k (x6515, 0, x6516, x6517) H6593 rfl rfl ?_
   rintro n ⟨x6553, x6554, x6555, x6556⟩ H
   obtain _ | n := n
   · exact nf rfl H
   rw [g_dec_Div_l2.eq_2] at H
   show WP _ _ _ _ ((((((((Env.none.upd 2 (.ptr 0 0)).upd 3 (.ptr 1 0)).upd 4 (.ptr 2 0)).upd 12 (.lit (.int .i64 x6471))).upd 13 (.lit (.int .i64 x6475))).upd 14 (.ptr 3 0)).upd 15 (.lit (.bool x6553))).upd 17 (.lit (.int .i64 x6554))) ((((Mem.nil.push (.cells 23 [.lit (.int .i64 x6433), .lit (.int .i64 x6434)])).push (.cells 23 [.lit (.int .i64 x6435), .lit (.int .i64 x6436)])).push (.cells 23 [.lit (.int .i64 0), .lit (.int .i64 0)])).push (.cells 43 [.lit (.int .u64 x6555), .lit (.int .u64 x6556)])) _
   refine WP.seq ?_
   refine WP.seq ?_
   obtain ⟨x6586, H6588, H⟩ := bnd H
   refine WP.monoW (Q := fun x E M => x = .normal ∧ E = (((((((((Env.none.upd 2 (.ptr 0 0)).upd 3 (.ptr 1 0)).upd 4 (.ptr 2 0)).upd 12 (.lit (.int .i64 x6471))).upd 13 (.lit (.int .i64 x6475))).upd 14 (.ptr 3 0)).upd 15 (.lit (.bool x6553))).upd 17 (.lit (.int .i64 x6554))).upd 88 (.lit (.bool x6586))) ∧ M = ((((Mem.nil.push (.cells 23 [.lit (.int .i64 x6433), .lit (.int .i64 x6434)])).push (.cells 23 [.lit (.int .i64 x6435), .lit (.int .i64 x6436)])).push (.cells 23 [.lit (.int .i64 0), .lit (.int .i64 0)])).push (.cells 43 [.lit (.int .u64 x6555), .lit (.int .u64 x6556)]))) ?_ ?_
   · clear H
     have H := H6588
     clear H6588
     refine WP.region ?_
     refine WPL.q (q_mv (v := .lit (.int _ _)) rfl) rfl ?_
     refine WPL.q (q_mv (v := .lit (.int _ _)) rfl) rfl ?_
     refine WPL.q (q_mv (v := .lit (.int _ _)) rfl) rfl ?_
     refine WPL.q (q_sub rfl rfl) rfl ?_
     obtain ⟨x6587, h6587, H⟩ := bnd H
     refine WPL.q (q_nm (q_lss rfl rfl) (nm_bool h6587)) rfl ?_
     refine WPL.q (q_mv (v := .lit (.bool _)) rfl) rfl ?_
     refine WPL.split (t := 86) (b := x6587) rfl (fun hb6587 => ?_) (fun hb6587 => ?_)
     · replace H := cnt hb6587 H
       refine WPL.qg rfl rfl (lb hb6587) (q_mv (v := .lit (.bool _)) rfl) rfl ?_
       refine WPL.q (q_pickT (v := .lit (.bool _)) (lb hb6587) rfl) rfl ?_
       refine WPL.nilW ?_
       have q0 := (Option.some.inj H)
       subst q0
       exact W.wk [0, 1, 2, 3] hnp ⟨rfl, rfl, rfl⟩ ⟨rfl, ⟨⟨⟨⟨trivial, .inr ⟨rfl, rfl, rfl⟩⟩, .inr ⟨rfl, rfl, rfl⟩⟩, .inr ⟨rfl, rfl, rfl⟩⟩, .inr ⟨rfl, rfl, rfl⟩⟩, by decide, rfl, trivial⟩ (LeE.upd rfl rfl (LeE.upd rfl rfl (LeE.upd rfl rfl (LeE.upd rfl rfl (LeE.upd rfl rfl (LeE.upd rfl rfl (LeE.upd rfl rfl (LeE.upd rfl rfl (LeE.upd rfl rfl (LeE.none rfl rfl)))))))))) rfl
     replace H := cnf hb6587 H
     refine WPL.skipg (b' := false) rfl rfl (lb hb6587) rfl rfl ?_
     refine WPL.q (q_pickF (v := .lit (.bool _)) (lb hb6587) rfl) rfl ?_
     refine WPL.nilW ?_
     have q0 := (Option.some.inj H)
     subst q0
     exact W.wk [0, 1, 2, 3] hnp ⟨rfl, rfl, rfl⟩ ⟨rfl, ⟨⟨⟨⟨trivial, .inr ⟨rfl, rfl, rfl⟩⟩, .inr ⟨rfl, rfl, rfl⟩⟩, .inr ⟨rfl, rfl, rfl⟩⟩, .inr ⟨rfl, rfl, rfl⟩⟩, by decide, rfl, trivial⟩ (LeE.upd rfl rfl (LeE.upd rfl rfl (LeE.upd rfl rfl (LeE.upd rfl rfl (LeE.upd rfl rfl (LeE.upd rfl rfl (LeE.upd rfl rfl (LeE.upd rfl rfl (LeE.upd rfl rfl (LeE.none rfl rfl)))))))))) rfl
   rintro _ _ _ ⟨rfl, rfl, rfl⟩
   refine W.now ?_
   refine Then.n ?_
   refine WP.cond (t := x6586) rfl (fun hb6589 => ?_) (fun hb6589 => ?_)
   · replace H := cnt hb6589 H
     refine WP.skipW ?_
     refine W.now ?_
     refine Then.n ?_
     refine WP.seq ?_
     refine WP.block ?_
     refine WP.region ?_
     refine WPL.q (q_load_ag ag43 rfl rfl (Nat.le_of_ble_eq_true rfl)) rfl ?_
     obtain ⟨⟨x6592, x6593⟩, h6590, H⟩ := bnd H
     refine WPL.c (runs_call (s := []) (t := [4]) (N := 5) (bor := []) fn16 rfl (s_dec_wide_times k x6555 x6556 5 x6592 x6593 h6590) ⟨rfl, trivial, by decide, rfl, trivial⟩ rfl trivial (.ren rfl rfl (.ren rfl rfl .nil)) rfl ⟨trivial, rfl⟩ rfl) rfl ?_
     refine WPL.q (q_mv (v := .tup _) rfl) rfl ?_
     refine WPL.q (q_extract rfl rfl) rfl ?_
     refine WPL.q (q_extract rfl rfl) rfl ?_
     refine WPL.s (s_store sz43 rfl rfl rfl rfl rfl) ?_
     refine WPL.q (q_as (v := .lit (.bool _)) rfl) rfl ?_
     refine WPL.nilW ?_
     refine W.now ?_
     refine InBlock.n ?_
     refine Then.n ?_
     refine WP.region ?_
     refine WPL.q (q_mv (v := .lit (.int _ _)) rfl) rfl ?_
     refine WPL.q (q_add rfl rfl) rfl ?_
     refine WPL.q (q_as (v := .lit (.int _ _)) rfl) rfl ?_
     refine WPL.nilW ?_
     exact W.wk [0, 1, 2, 3] hnp (Then.n ⟨n, (x6592, (IntKind.wrap .i64 (x6554 + 1)), x6593, (IntKind.wrap .u64 (x6556 * 5))), Nat.lt_succ_self n, H, rfl, rfl⟩) ⟨rfl, ⟨⟨⟨⟨trivial, .inr ⟨rfl, rfl, rfl⟩⟩, .inr ⟨rfl, rfl, rfl⟩⟩, .inr ⟨rfl, rfl, rfl⟩⟩, .inr ⟨rfl, rfl, rfl⟩⟩, by decide, rfl, trivial⟩ (LeE.upd rfl rfl (LeE.upd rfl rfl (LeE.upd rfl rfl (LeE.upd rfl rfl (LeE.upd rfl rfl (LeE.upd rfl rfl (LeE.upd rfl rfl (LeE.upd rfl rfl (LeE.none rfl rfl))))))))) rfl
   replace H := cnf hb6589 H
   refine WP.exitW ?_
   have q0 := (Prod.mk.inj (Option.some.inj H)).1
   have q1 := (Prod.mk.inj (Prod.mk.inj (Option.some.inj H)).2).1
   have q2 := (Prod.mk.inj (Prod.mk.inj (Option.some.inj H)).2).2
   subst q0
   subst q1
   subst q2
   exact W.wk [0, 1, 2, 3] hnp (Then.x (Then.x ⟨rfl, rfl, rfl⟩)) ⟨rfl, ⟨⟨⟨⟨trivial, .inr ⟨rfl, rfl, rfl⟩⟩, .inr ⟨rfl, rfl, rfl⟩⟩, .inr ⟨rfl, rfl, rfl⟩⟩, .inr ⟨rfl, rfl, rfl⟩⟩, by decide, rfl, trivial⟩ (LeE.upd rfl rfl (LeE.upd rfl rfl (LeE.upd rfl rfl (LeE.upd rfl rfl (LeE.upd rfl rfl (LeE.upd rfl rfl (LeE.none rfl rfl))))))) rfl
 rintro _ _ _ ⟨rfl, rfl, rfl⟩
 refine W.now ?_
 refine InBlock.x0 ?_
 refine Then.n ?_
 refine WP.seq ?_
 refine WP.seq ?_
 refine WP.region ?_
 refine WPL.q (q_mv (v := .lit (.bool _)) rfl) rfl ?_
 refine WPL.q (q_not rfl) rfl ?_
 refine WPL.nilW ?_
 refine W.now ?_
 refine Then.n ?_
 refine WP.cond (t := (!x6574)) rfl (fun hb6595 => ?_) (fun hb6595 => ?_)
 · replace H := cnt hb6595 H
   refine WP.seq ?_
   refine WP.region ?_
   refine WPL.q (q_build bu23 rfl) rfl ?_
   refine WPL.s (s_store sz23 rfl rfl rfl rfl rfl) ?_
   refine WPL.q (q_as (v := .lit (.int _ _)) rfl) rfl ?_
   refine WPL.nilW ?_
   refine W.now ?_
   refine Then.n ?_
   refine WP.retW ?_
   have q0 := (Prod.mk.inj (Option.some.inj H)).1
   have q1 := (Prod.mk.inj (Prod.mk.inj (Option.some.inj H)).2).1
   have q2 := (Prod.mk.inj (Prod.mk.inj (Option.some.inj H)).2).2
   subst q0
   subst q1
   subst q2
   exact W.now (Then.r (BodyR.mkR trivial rfl [2] ⟨rfl, rfl⟩ ⟨rfl, ⟨trivial, .inr ⟨rfl, rfl, rfl⟩⟩, by decide, rfl, trivial⟩ rfl rfl))
 replace H := cnf hb6595 H
 refine WP.skipW ?_
 refine W.now ?_
 refine Then.n ?_
 refine WP.seq ?_
 refine WP.region ?_
 refine WPL.q (q_fieldAddr fi23_0 rfl rfl) rfl ?_
 refine WPL.q (q_load sc2 rfl rfl rfl) rfl ?_
 refine WPL.q (q_lss rfl rfl) rfl ?_
 refine WPL.q (q_fieldAddr fi23_0 rfl rfl) rfl ?_
 refine WPL.q (q_load sc2 rfl rfl rfl) rfl ?_
 refine WPL.q (q_lss rfl rfl) rfl ?_
 obtain ⟨x6597, h6597, H⟩ := bnd H
 refine WPL.q (q_nm (q_neqb Tryd.underlying4 rfl rfl) (nm_bool h6597)) rfl ?_
 refine WPL.q (q_load_ag ag43 rfl rfl (Nat.le_of_ble_eq_true rfl)) rfl ?_
 refine WPL.q (q_fieldAddr fi23_1 rfl rfl) rfl ?_
 refine WPL.q (q_load sc3 rfl rfl rfl) rfl ?_
 refine WPL.q (q_fieldAddr fi23_1 rfl rfl) rfl ?_
 refine WPL.q (q_load sc3 rfl rfl rfl) rfl ?_
 refine WPL.q (q_sub rfl rfl) rfl ?_
 refine WPL.q (q_mv (v := .lit (.int _ _)) rfl) rfl ?_
 obtain ⟨x6598, h6598, H⟩ := bnd H
 refine WPL.q (q_nm (q_sub rfl rfl) (nm_int h6598)) rfl ?_
 refine WPL.q (q_build bu48 rfl) rfl ?_
 obtain ⟨⟨x6600, x6601, x6602⟩, h6598, H⟩ := bnd H
 refine WPL.c (runs_call (s := []) (t := [4]) (N := 5) (bor := []) fn18 rfl (s_dec_num_tell k x6597 x6575 x6576 x6598 x6600 x6601 x6602 h6598) ⟨rfl, trivial, by decide, rfl, trivial⟩ rfl trivial (.ren rfl rfl .nil) rfl ⟨trivial, rfl⟩ rfl) rfl ?_
 refine WPL.q (q_extract rfl rfl) rfl ?_
 refine WPL.q (q_extract rfl rfl) rfl ?_
 refine WPL.s (s_store sz23 rfl rfl rfl rfl rfl) ?_
 refine WPL.q (q_as (v := .lit (.int _ _)) rfl) rfl ?_
 refine WPL.nilW ?_
 refine W.now ?_
 refine Then.n ?_
 refine WP.retW ?_
 have q0 := (Prod.mk.inj (Option.some.inj H)).1
 have q1 := (Prod.mk.inj (Prod.mk.inj (Option.some.inj H)).2).1
 have q2 := (Prod.mk.inj (Prod.mk.inj (Option.some.inj H)).2).2
 subst q0
 subst q1
 subst q2
 exact W.now (BodyR.mkR trivial rfl [2] ⟨rfl, rfl⟩ ⟨rfl, ⟨trivial, .inr ⟨rfl, rfl, rfl⟩⟩, by decide, rfl, trivial⟩ rfl rfl)
set_option maxRecDepth 100000 in
set_option maxHeartbeats 4000000 in
theorem s_dec_left (k : Nat) (x6640 : Bool) (x6641 : Int) (x6642 : Int) (x6643 : Int) (x6644 : Bool) (x6645 : Int) (x6646 : Int) (x6647 : Int) (x6737 : Int) (x6738 : Int) (x6739 : Int) (H : g_dec_left k x6640 x6641 x6642 x6643 x6644 x6645 x6646 x6647 = some (x6737, x6738, x6739)) : Go.Q.Spec Tryd.prog 60 0 [.agg [.lit (.bool x6640), .lit (.int .u64 x6641), .lit (.int .u64 x6642), .lit (.int .i64 x6643)], .agg [.lit (.bool x6644), .lit (.int .u64 x6645), .lit (.int .u64 x6646), .lit (.int .i64 x6647)]] Mem.nil (fun o M => o = .ret (.agg [.lit (.bool x6640), .lit (.int .u64 x6737), .lit (.int .u64 x6738), .lit (.int .i64 x6739)]) ∧ M = (Mem.nil.push (.cells 48 [.lit (.bool x6640), .lit (.int .u64 x6737), .lit (.int .u64 x6738), .lit (.int .i64 x6739)]))) := by
 unfold g_dec_left at H
 refine Go.Q.Spec.of_bodyR (az := [(48, 4)]) (rs := [.cell 4 48]) (nt := 88) Tryd.func60 rfl rfl (by intro t T h; simp at h; rcases h with ⟨rfl, rfl⟩ <;> first | exact ag48) rfl rfl fun cx hnp => ?_
 refine WP.seq ?_
 refine WP.region ?_
 refine WPL.d (d_box rfl rfl) rfl ?_
 refine WPL.d (d_box rfl rfl) rfl ?_
 refine WPL.d (d_alloc ze48 rfl) rfl ?_
 refine WPL.nilW ?_
 refine W.now ?_
 refine Then.n ?_
 refine WP.seq ?_
 refine WP.seq ?_
 refine WP.region ?_
 refine WPL.q (q_fieldAddr fi48_2 rfl rfl) rfl ?_
 refine WPL.q (q_load sc3 rfl rfl rfl) rfl ?_
 refine WPL.q (q_fieldAddr fi48_2 rfl rfl) rfl ?_
 refine WPL.q (q_load sc3 rfl rfl rfl) rfl ?_
 refine WPL.q (q_geq rfl rfl) rfl ?_
 refine WPL.nilW ?_
 refine W.now ?_
 refine Then.n ?_
 refine WP.cond (t := (decide (x6647 ≤ x6643))) rfl (fun hb6771 => ?_) (fun hb6771 => ?_)
 · replace H := cnt hb6771 H
   refine WP.seq ?_
   refine WP.region ?_
   refine WPL.q (q_fieldAddr fi48_1 rfl rfl) rfl ?_
   refine WPL.q (q_fieldAddr fi43_1 rfl rfl) rfl ?_
   refine WPL.q (q_load sc41 rfl rfl rfl) rfl ?_
   refine WPL.q (q_fieldAddr fi48_1 rfl rfl) rfl ?_
   refine WPL.q (q_fieldAddr fi43_1 rfl rfl) rfl ?_
   refine WPL.q (q_load sc41 rfl rfl rfl) rfl ?_
   obtain ⟨h6772, H⟩ := grd H
   refine WPL.q (q_rem rfl rfl (bnot h6772)) rfl ?_
   refine WPL.q (q_as (v := .lit (.int _ _)) rfl) rfl ?_
   refine WPL.nilW ?_
   refine W.now ?_
   refine Then.n ?_
   refine WP.seq ?_
   refine WP.seq ?_
   refine WP.region ?_
   refine WPL.q (q_fieldAddr fi48_2 rfl rfl) rfl ?_
   refine WPL.q (q_load sc3 rfl rfl rfl) rfl ?_
   refine WPL.q (q_fieldAddr fi48_2 rfl rfl) rfl ?_
   refine WPL.q (q_load sc3 rfl rfl rfl) rfl ?_
   refine WPL.q (q_sub rfl rfl) rfl ?_
   refine WPL.q (q_mv (v := .lit (.int _ _)) rfl) rfl ?_
   refine WPL.nilW ?_
   refine W.now ?_
   refine Then.n ?_
   refine WP.block ?_
   refine WP.cv (Cv.weak (E' := ((((((Env.none.upd 2 (.ptr 0 0)).upd 3 (.ptr 1 0)).upd 4 (.ptr 2 0)).upd 5 (.lit (.int .u64 (Int.tmod x6642 x6646)))).upd 26 (.lit (.int .i64 (IntKind.wrap .i64 (x6643 - x6647))))).upd 27 (.lit (.int .i64 0)))) (M' := (((Mem.nil.push (.cells 48 [.lit (.bool x6640), .lit (.int .u64 x6641), .lit (.int .u64 x6642), .lit (.int .i64 x6643)])).push (.cells 48 [.lit (.bool x6644), .lit (.int .u64 x6645), .lit (.int .u64 x6646), .lit (.int .i64 x6647)])).push (.cells 48 [.lit (.bool false), .lit (.int .u64 0), .lit (.int .u64 0), .lit (.int .i64 0)]))) [0, 1, 2] hnp ⟨rfl, ⟨⟨⟨trivial, .inr ⟨rfl, rfl, rfl⟩⟩, .inr ⟨rfl, rfl, rfl⟩⟩, .inr ⟨rfl, rfl, rfl⟩⟩, by decide, rfl, trivial⟩ (LeE.upd rfl rfl (LeE.upd rfl rfl (LeE.upd rfl rfl (LeE.upd rfl rfl (LeE.upd rfl rfl (LeE.upd rfl rfl (LeE.none rfl rfl)))))))) ?_
   obtain ⟨x6802, H6815, H⟩ := bnd H
   refine WP.monoW (Q := fun x E M => x = .exit 0 ∧ E = ((((Env.none.upd 2 (.ptr 0 0)).upd 3 (.ptr 1 0)).upd 4 (.ptr 2 0)).upd 5 (.lit (.int .u64 x6802))) ∧ M = (((Mem.nil.push (.cells 48 [.lit (.bool x6640), .lit (.int .u64 x6641), .lit (.int .u64 x6642), .lit (.int .i64 x6643)])).push (.cells 48 [.lit (.bool x6644), .lit (.int .u64 x6645), .lit (.int .u64 x6646), .lit (.int .i64 x6647)])).push (.cells 48 [.lit (.bool false), .lit (.int .u64 0), .lit (.int .u64 0), .lit (.int .i64 0)]))) ?_ ?_
   · refine WP.loop (β := Int × Int) (fun n b => g_dec_left_l0 k x6643 x6646 x6647 n b.1 b.2 = some x6802) (fun b => ((((((Env.none.upd 2 (.ptr 0 0)).upd 3 (.ptr 1 0)).upd 4 (.ptr 2 0)).upd 5 (.lit (.int .u64 b.1))).upd 26 (.lit (.int .i64 (IntKind.wrap .i64 (x6643 - x6647))))).upd 27 (.lit (.int .i64 b.2)))) (fun b => (((Mem.nil.push (.cells 48 [.lit (.bool x6640), .lit (.int .u64 x6641), .lit (.int .u64 x6642), .lit (.int .i64 x6643)])).push (.cells 48 [.lit (.bool x6644), .lit (.int .u64 x6645), .lit (.int .u64 x6646), .lit (.int .i64 x6647)])).push (.cells 48 [.lit (.bool false), .lit (.int .u64 0), .lit (.int .u64 0), .lit (.int .i64 0)]))) k ((Int.tmod x6642 x6646), 0) H6815 rfl rfl ?_
     rintro n ⟨x6787, x6788⟩ H
     obtain _ | n := n
     · exact nf rfl H
     rw [g_dec_left_l0.eq_2] at H
     show WP _ _ _ _ ((((((Env.none.upd 2 (.ptr 0 0)).upd 3 (.ptr 1 0)).upd 4 (.ptr 2 0)).upd 5 (.lit (.int .u64 x6787))).upd 26 (.lit (.int .i64 (IntKind.wrap .i64 (x6643 - x6647))))).upd 27 (.lit (.int .i64 x6788))) (((Mem.nil.push (.cells 48 [.lit (.bool x6640), .lit (.int .u64 x6641), .lit (.int .u64 x6642), .lit (.int .i64 x6643)])).push (.cells 48 [.lit (.bool x6644), .lit (.int .u64 x6645), .lit (.int .u64 x6646), .lit (.int .i64 x6647)])).push (.cells 48 [.lit (.bool false), .lit (.int .u64 0), .lit (.int .u64 0), .lit (.int .i64 0)])) _
     refine WP.seq ?_
     refine WP.region ?_
     obtain ⟨x6803, h6803, H⟩ := bnd H
     refine WPL.q (q_nm (q_lss rfl rfl) (nm_bool h6803)) rfl ?_
     refine WPL.nilW ?_
     refine W.now ?_
     refine Then.n ?_
     refine WP.seq ?_
     refine WP.cond (t := x6803) rfl (fun hb6804 => ?_) (fun hb6804 => ?_)
     · replace H := cnt hb6804 H
       refine WP.skipW ?_
       refine W.now ?_
       refine Then.n ?_
       refine WP.seq ?_
       refine WP.block ?_
       refine WP.seq ?_
       refine WP.region ?_
       refine WPL.q (q_mv (v := .lit (.int _ _)) rfl) rfl ?_
       obtain ⟨x6807, h6805, H⟩ := bnd H
       refine WPL.c (runs_call (s := []) (t := []) (N := 3) (bor := []) fn41 rfl (s_math_bits_Mul64 k x6787 10 x6807 h6805) ⟨rfl, trivial, by decide, rfl, trivial⟩ rfl trivial (.ren rfl rfl (.ren rfl rfl .nil)) rfl trivial rfl) rfl ?_
       refine WPL.q (q_mv (v := .tup _) rfl) rfl ?_
       refine WPL.q (q_extract rfl rfl) rfl ?_
       refine WPL.q (q_extract rfl rfl) rfl ?_
       refine WPL.q (q_as (v := .lit (.int _ _)) rfl) rfl ?_
       refine WPL.q (q_as (v := .lit (.int _ _)) rfl) rfl ?_
       refine WPL.nilW ?_
       refine W.now ?_
       refine Then.n ?_
       refine WP.regionD' 14 [1] [] mixed rfl ?_
       refine WPD.takeT 0 rfl (by kernel_rfl) (q_mv (v := .lit (.int _ _)) rfl) rfl ?_
       refine WPD.takeT 1 rfl (by kernel_rfl) (q_fieldAddr fi48_1 rfl rfl) rfl ?_
       refine WPD.takeT 2 rfl (by kernel_rfl) (q_fieldAddr fi43_1 rfl rfl) rfl ?_
       refine WPD.takeT 5 rfl (by kernel_rfl) (q_mv (v := .lit (.int _ _)) rfl) rfl ?_
       refine WPD.takeT 6 rfl (by kernel_rfl) (q_fieldAddr fi48_1 rfl rfl) rfl ?_
       refine WPD.takeT 7 rfl (by kernel_rfl) (q_fieldAddr fi43_1 rfl rfl) rfl ?_
       refine WPD.take 3 rfl (by kernel_rfl) (q_load sc41 rfl rfl rfl) rfl rfl ?_
       obtain ⟨h6811, H⟩ := grd H
       refine WPD.takeT 4 rfl (by kernel_rfl) (q_rem rfl rfl (bnot h6811)) rfl ?_
       refine WPD.take 8 rfl (by kernel_rfl) (q_load sc41 rfl rfl rfl) rfl rfl ?_
       obtain ⟨⟨x6814, x6815⟩, h6812, H⟩ := bnd H
       refine WPD.eff 9 [1] [] rfl (by kernel_rfl) (runs_call (s := []) (t := []) (N := 3) (bor := []) fn66 rfl (s_math_bits_Div64 k (Int.tmod x6807 x6646) (IntKind.wrap .u64 (x6787 * 10)) x6646 x6814 x6815 h6812) ⟨rfl, trivial, by decide, rfl, trivial⟩ rfl trivial (.ren rfl rfl (.ren rfl rfl (.ren rfl rfl .nil))) rfl trivial rfl) rfl rfl ?_
       refine WPD.takeT 10 rfl (by kernel_rfl) (q_mv (v := .tup _) rfl) rfl ?_
       refine WPD.takeT 11 rfl (by kernel_rfl) (q_extract rfl rfl) rfl ?_
       refine WPD.takeT 12 rfl (by kernel_rfl) (q_extract rfl rfl) rfl ?_
       refine WPD.takeT 13 rfl (by kernel_rfl) (q_as (v := .lit (.int _ _)) rfl) rfl ?_
       refine WPD.doneW (by kernel_rfl) ?_
       refine W.now ?_
       refine InBlock.n ?_
       refine Then.n ?_
       refine WP.region ?_
       refine WPL.q (q_add rfl rfl) rfl ?_
       refine WPL.q (q_mv (v := .lit (.int _ _)) rfl) rfl ?_
       refine WPL.nilW ?_
       exact W.wk [0, 1, 2] hnp (Then.n ⟨n, (x6815, (IntKind.wrap .i64 (x6788 + 1))), Nat.lt_succ_self n, H, rfl, rfl⟩) ⟨rfl, ⟨⟨⟨trivial, .inr ⟨rfl, rfl, rfl⟩⟩, .inr ⟨rfl, rfl, rfl⟩⟩, .inr ⟨rfl, rfl, rfl⟩⟩, by decide, rfl, trivial⟩ (LeE.upd rfl rfl (LeE.upd rfl rfl (LeE.upd rfl rfl (LeE.upd rfl rfl (LeE.upd rfl rfl (LeE.upd rfl rfl (LeE.none rfl rfl))))))) rfl
     replace H := cnf hb6804 H
     refine WP.exitW ?_
     have q0 := (Option.some.inj H)
     subst q0
     exact W.wk [0, 1, 2] hnp (Then.x (Then.x ⟨rfl, rfl, rfl⟩)) ⟨rfl, ⟨⟨⟨trivial, .inr ⟨rfl, rfl, rfl⟩⟩, .inr ⟨rfl, rfl, rfl⟩⟩, .inr ⟨rfl, rfl, rfl⟩⟩, by decide, rfl, trivial⟩ (LeE.upd rfl rfl (LeE.upd rfl rfl (LeE.upd rfl rfl (LeE.upd rfl rfl (LeE.none rfl rfl))))) rfl
   rintro _ _ _ ⟨rfl, rfl, rfl⟩
   refine W.now ?_
   refine InBlock.x0 ?_
   refine Then.n ?_
   refine WP.seq ?_
   refine WP.region ?_
   refine WPL.q (q_fieldAddr fi48_0 rfl rfl) rfl ?_
   refine WPL.q (q_load sc4 rfl rfl rfl) rfl ?_
   refine WPL.q (q_mv (v := .lit (.int _ _)) rfl) rfl ?_
   refine WPL.q (q_build bu43 rfl) rfl ?_
   refine WPL.q (q_fieldAddr fi48_2 rfl rfl) rfl ?_
   refine WPL.q (q_load sc3 rfl rfl rfl) rfl ?_
   refine WPL.q (q_build bu48 rfl) rfl ?_
   refine WPL.s (s_store sz48 rfl rfl rfl rfl rfl) ?_
   refine WPL.nilW ?_
   refine W.now ?_
   refine Then.n ?_
   refine WP.retW ?_
   have q0 := (Prod.mk.inj (Option.some.inj H)).1
   have q1 := (Prod.mk.inj (Prod.mk.inj (Option.some.inj H)).2).1
   have q2 := (Prod.mk.inj (Prod.mk.inj (Option.some.inj H)).2).2
   subst q0
   subst q1
   subst q2
   exact W.now (Then.r (BodyR.mkR trivial rfl [2] ⟨rfl, rfl⟩ ⟨rfl, ⟨trivial, .inr ⟨rfl, rfl, rfl⟩⟩, by decide, rfl, trivial⟩ rfl rfl))
 replace H := cnf hb6771 H
 refine WP.skipW ?_
 refine W.now ?_
 refine Then.n ?_
 refine WP.seq ?_
 refine WP.region ?_
 refine WPL.q (q_fieldAddr fi48_1 rfl rfl) rfl ?_
 refine WPL.q (q_load_ag ag43 rfl rfl (Nat.le_of_ble_eq_true rfl)) rfl ?_
 refine WPL.q (q_fieldAddr fi48_2 rfl rfl) rfl ?_
 refine WPL.q (q_load sc3 rfl rfl rfl) rfl ?_
 refine WPL.q (q_fieldAddr fi48_2 rfl rfl) rfl ?_
 refine WPL.q (q_load sc3 rfl rfl rfl) rfl ?_
 refine WPL.q (q_sub rfl rfl) rfl ?_
 obtain ⟨⟨x6818, x6819, x6820⟩, h6816, H⟩ := bnd H
 refine WPL.c (runs_call (s := []) (t := [3]) (N := 4) (bor := []) fn45 rfl (s_dec_wide_tens k x6645 x6646 (IntKind.wrap .i64 (x6647 - x6643)) x6818 x6819 x6820 h6816) ⟨rfl, trivial, by decide, rfl, trivial⟩ rfl trivial (.ren rfl rfl (.ren rfl rfl .nil)) rfl ⟨trivial, rfl⟩ rfl) rfl ?_
 refine WPL.q (q_mv (v := .tup _) rfl) rfl ?_
 refine WPL.q (q_extract rfl rfl) rfl ?_
 refine WPL.q (q_extract rfl rfl) rfl ?_
 refine WPL.d (d_alloc ze43 rfl) rfl ?_
 refine WPL.s (s_store sz43 rfl rfl rfl rfl rfl) ?_
 refine WPL.q (q_as (v := .lit (.bool _)) rfl) rfl ?_
 refine WPL.nilW ?_
 refine W.now ?_
 refine Then.n ?_
 refine WP.seq ?_
 refine WP.seq ?_
 obtain ⟨x6833, H6836, H⟩ := bnd H
 refine WP.monoW (Q := fun x E M => x = .normal ∧ E = ((((Env.none.upd 2 (.ptr 0 0)).upd 4 (.ptr 1 0)).upd 8 (.ptr 2 0)).upd 74 (.lit (.bool x6833))) ∧ M = (((Mem.nil.push (.cells 48 [.lit (.bool x6640), .lit (.int .u64 x6641), .lit (.int .u64 x6642), .lit (.int .i64 x6643)])).push (.cells 48 [.lit (.bool false), .lit (.int .u64 0), .lit (.int .u64 0), .lit (.int .i64 0)])).push (.cells 43 [.lit (.int .u64 x6819), .lit (.int .u64 x6820)]))) ?_ ?_
 · clear H
   have H := H6836
   clear H6836
   refine WP.region ?_
   refine WPL.q (q_mv (v := .lit (.bool _)) rfl) rfl ?_
   refine WPL.q (q_not rfl) rfl ?_
   refine WPL.q (q_mv (v := .lit (.bool _)) rfl) rfl ?_
   refine WPL.split (t := 68) (b := (!x6818)) rfl (fun hb6833 => ?_) (fun hb6833 => ?_)
   · replace H := cnt hb6833 H
     refine WPL.skipg (b' := true) rfl rfl (lb hb6833) rfl rfl ?_
     refine WPL.skipg (b' := true) rfl rfl (lb hb6833) rfl rfl ?_
     refine WPL.skipg (b' := true) rfl rfl (lb hb6833) rfl rfl ?_
     refine WPL.skipg (b' := true) rfl rfl (lb hb6833) rfl rfl ?_
     refine WPL.skipg (b' := true) rfl rfl (lb hb6833) rfl rfl ?_
     refine WPL.q (q_pickT (v := .lit (.bool _)) (lb hb6833) rfl) rfl ?_
     refine WPL.nilW ?_
     have q0 := (Option.some.inj H)
     subst q0
     exact W.wk [0, 2, 4] hnp ⟨rfl, rfl, rfl⟩ ⟨rfl, ⟨⟨⟨trivial, .inr ⟨rfl, rfl, rfl⟩⟩, .inr ⟨rfl, rfl, rfl⟩⟩, .inr ⟨rfl, rfl, rfl⟩⟩, by decide, rfl, trivial⟩ (LeE.upd rfl rfl (LeE.upd rfl rfl (LeE.upd rfl rfl (LeE.upd rfl rfl (LeE.none rfl rfl))))) rfl
   replace H := cnf hb6833 H
   refine WPL.qg rfl rfl (lb hb6833) (q_load_ag ag43 rfl rfl (Nat.le_of_ble_eq_true rfl)) rfl ?_
   refine WPL.qg rfl rfl (lb hb6833) (q_fieldAddr fi48_1 rfl rfl) rfl ?_
   refine WPL.qg rfl rfl (lb hb6833) (q_load_ag ag43 rfl rfl (Nat.le_of_ble_eq_true rfl)) rfl ?_
   obtain ⟨x6836, h6834, H⟩ := bnd H
   refine WPL.cg rfl rfl (lb hb6833) (runs_call (s := []) (t := []) (N := 5) (bor := []) fn57 rfl (s_dec_wide_cmp k x6819 x6820 x6641 x6642 x6836 h6834) ⟨rfl, trivial, by decide, rfl, trivial⟩ rfl trivial (.ren rfl rfl (.ren rfl rfl .nil)) rfl trivial rfl) rfl ?_
   refine WPL.qg rfl rfl (lb hb6833) (q_gtr rfl rfl) rfl ?_
   refine WPL.q (q_pickF (v := .lit (.bool _)) (lb hb6833) rfl) rfl ?_
   refine WPL.nilW ?_
   have q0 := (Option.some.inj H)
   subst q0
   exact W.wk [0, 2, 4] hnp ⟨rfl, rfl, rfl⟩ ⟨rfl, ⟨⟨⟨trivial, .inr ⟨rfl, rfl, rfl⟩⟩, .inr ⟨rfl, rfl, rfl⟩⟩, .inr ⟨rfl, rfl, rfl⟩⟩, by decide, rfl, trivial⟩ (LeE.upd rfl rfl (LeE.upd rfl rfl (LeE.upd rfl rfl (LeE.upd rfl rfl (LeE.none rfl rfl))))) rfl
 rintro _ _ _ ⟨rfl, rfl, rfl⟩
 refine W.now ?_
 refine Then.n ?_
 refine WP.cond (t := x6833) rfl (fun hb6837 => ?_) (fun hb6837 => ?_)
 · replace H := cnt hb6837 H
   refine WP.seq ?_
   refine WP.region ?_
   refine WPL.q (q_load_ag ag48 rfl rfl (Nat.le_of_ble_eq_true rfl)) rfl ?_
   refine WPL.s (s_store sz48 rfl rfl rfl rfl rfl) ?_
   refine WPL.nilW ?_
   refine W.now ?_
   refine Then.n ?_
   refine WP.retW ?_
   have q0 := (Prod.mk.inj (Option.some.inj H)).1
   have q1 := (Prod.mk.inj (Prod.mk.inj (Option.some.inj H)).2).1
   have q2 := (Prod.mk.inj (Prod.mk.inj (Option.some.inj H)).2).2
   subst q0
   subst q1
   subst q2
   exact W.now (Then.r (BodyR.mkR trivial rfl [1] ⟨rfl, rfl⟩ ⟨rfl, ⟨trivial, .inr ⟨rfl, rfl, rfl⟩⟩, by decide, rfl, trivial⟩ rfl rfl))
 replace H := cnf hb6837 H
 refine WP.skipW ?_
 refine W.now ?_
 refine Then.n ?_
 refine WP.seq ?_
 refine WP.regionD' 13 [0, 2] [] mixed rfl ?_
 refine WPD.takeT 0 rfl (by kernel_rfl) (q_fieldAddr fi48_0 rfl rfl) rfl ?_
 refine WPD.takeT 2 rfl (by kernel_rfl) (q_fieldAddr fi48_1 rfl rfl) rfl ?_
 refine WPD.takeT 3 rfl (by kernel_rfl) (q_fieldAddr fi43_1 rfl rfl) rfl ?_
 refine WPD.takeT 5 rfl (by kernel_rfl) (q_fieldAddr fi43_1 rfl rfl) rfl ?_
 refine WPD.takeT 9 rfl (by kernel_rfl) (q_fieldAddr fi48_2 rfl rfl) rfl ?_
 refine WPD.take 1 rfl (by kernel_rfl) (q_load sc4 rfl rfl rfl) rfl rfl ?_
 refine WPD.take 4 rfl (by kernel_rfl) (q_load sc41 rfl rfl rfl) rfl rfl ?_
 refine WPD.take 6 rfl (by kernel_rfl) (q_load sc41 rfl rfl rfl) rfl rfl ?_
 obtain ⟨h6839, H⟩ := grd H
 refine WPD.takeT 7 rfl (by kernel_rfl) (q_rem rfl rfl (bnot h6839)) rfl ?_
 refine WPD.takeT 8 rfl (by kernel_rfl) (q_build bu43 rfl) rfl ?_
 refine WPD.take 10 rfl (by kernel_rfl) (q_load sc3 rfl rfl rfl) rfl rfl ?_
 refine WPD.takeT 11 rfl (by kernel_rfl) (q_build bu48 rfl) rfl ?_
 refine WPD.effS 12 [0, 2] [] rfl (by kernel_rfl) (s_store sz48 rfl rfl rfl rfl rfl) rfl ?_
 refine WPD.doneW (by kernel_rfl) ?_
 refine W.now ?_
 refine Then.n ?_
 refine WP.retW ?_
 have q0 := (Prod.mk.inj (Option.some.inj H)).1
 have q1 := (Prod.mk.inj (Prod.mk.inj (Option.some.inj H)).2).1
 have q2 := (Prod.mk.inj (Prod.mk.inj (Option.some.inj H)).2).2
 subst q0
 subst q1
 subst q2
 exact W.now (BodyR.mkR trivial rfl [1] ⟨rfl, rfl⟩ ⟨rfl, ⟨trivial, .inr ⟨rfl, rfl, rfl⟩⟩, by decide, rfl, trivial⟩ rfl rfl)
end Go.Proofs.YtdbeblgfccjbgaaDoor.W
namespace Go.Proofs.YtdbeblgfccjbgaaDoor.W
open Go Go.Q Go.Proofs
set_option linter.unusedVariables false
set_option linter.unusedSimpArgs false
set_option maxRecDepth 100000 in
set_option maxHeartbeats 4000000 in
theorem s_dec_Mod (k : Nat) (x6615 : Int) (x6616 : Int) (x6617 : Int) (x6618 : Int) (x6971 : Int) (x6972 : Int) (x6973 : Int) (H : g_dec_Mod k x6615 x6616 x6617 x6618 = some (x6971, x6972, x6973)) : Go.Q.Spec Tryd.prog 31 0 [.agg [.lit (.int .i64 x6615), .lit (.int .i64 x6616)], .agg [.lit (.int .i64 x6617), .lit (.int .i64 x6618)]] Mem.nil (fun o M => o = .ret (.tup [.agg [.lit (.int .i64 x6972), .lit (.int .i64 x6973)], .lit (.int .i64 x6971)]) ∧ M = (Mem.nil.push (.cells 23 [.lit (.int .i64 x6972), .lit (.int .i64 x6973)]))) := by
 unfold g_dec_Mod at H
 refine Go.Q.Spec.of_bodyR (az := [(23, 2)]) (rs := [.cell 4 23, .tmp 5]) (nt := 50) Tryd.func31 rfl rfl (by intro t T h; simp at h; rcases h with ⟨rfl, rfl⟩ <;> first | exact ag23) rfl rfl fun cx hnp => ?_
 refine WP.seq ?_
 refine WP.region ?_
 refine WPL.d (d_box rfl rfl) rfl ?_
 refine WPL.d (d_box rfl rfl) rfl ?_
 refine WPL.d (d_alloc ze23 rfl) rfl ?_
 refine WPL.q (q_as (v := .lit (.int _ _)) rfl) rfl ?_
 refine WPL.nilW ?_
 refine W.now ?_
 refine Then.n ?_
 refine WP.seq ?_
 refine WP.seq ?_
 refine WP.region ?_
 refine WPL.d (d_buildCells li85 rfl rfl rfl rfl rfl) rfl ?_
 obtain ⟨⟨x6982, x6983, x6984, x6985, x6986⟩, h6980, H⟩ := bnd H
 refine WPL.c (runs_call (s := [3, 0, 1]) (t := [3, 0, 1]) (N := 4) (bor := []) fn22 rfl (s_dec_clean k x6615 x6616 x6617 x6618 x6982 x6983 x6984 x6985 x6986 h6980) ⟨rfl, ⟨⟨⟨trivial, .inr ⟨rfl, rfl, rfl⟩⟩, .inr ⟨rfl, rfl, rfl⟩⟩, .inr ⟨rfl, rfl, rfl⟩⟩, by decide, rfl, trivial⟩ rfl trivial (.ren rfl rfl .nil) rfl ⟨⟨⟨trivial, rfl⟩, rfl⟩, rfl⟩ rfl) rfl ?_
 refine WPL.q (q_not rfl) rfl ?_
 refine WPL.nilW ?_
 refine W.now ?_
 refine Then.n ?_
 refine WP.cond (t := (!x6982)) rfl (fun hb6986 => ?_) (fun hb6986 => ?_)
 · replace H := cnt hb6986 H
   refine WP.seq ?_
   refine WP.region ?_
   refine WPL.q (q_build bu23 rfl) rfl ?_
   refine WPL.s (s_store sz23 rfl rfl rfl rfl rfl) ?_
   refine WPL.q (q_as (v := .lit (.int _ _)) rfl) rfl ?_
   refine WPL.nilW ?_
   refine W.now ?_
   refine Then.n ?_
   refine WP.retW ?_
   have q0 := (Prod.mk.inj (Option.some.inj H)).1
   have q1 := (Prod.mk.inj (Prod.mk.inj (Option.some.inj H)).2).1
   have q2 := (Prod.mk.inj (Prod.mk.inj (Option.some.inj H)).2).2
   subst q0
   subst q1
   subst q2
   exact W.now (Then.r (BodyR.mkR trivial rfl [2] ⟨rfl, rfl⟩ ⟨rfl, ⟨trivial, .inr ⟨rfl, rfl, rfl⟩⟩, by decide, rfl, trivial⟩ rfl rfl))
 replace H := cnf hb6986 H
 refine WP.skipW ?_
 refine W.now ?_
 refine Then.n ?_
 refine WP.seq ?_
 refine WP.seq ?_
 refine WP.region ?_
 refine WPL.q (q_fieldAddr fi23_0 rfl rfl) rfl ?_
 refine WPL.q (q_load sc2 rfl rfl rfl) rfl ?_
 refine WPL.q (q_eql rfl rfl) rfl ?_
 refine WPL.nilW ?_
 refine W.now ?_
 refine Then.n ?_
 refine WP.cond (t := (decide (x6985 = 0))) rfl (fun hb6988 => ?_) (fun hb6988 => ?_)
 · replace H := cnt hb6988 H
   refine WP.seq ?_
   refine WP.region ?_
   refine WPL.q (q_build bu23 rfl) rfl ?_
   refine WPL.s (s_store sz23 rfl rfl rfl rfl rfl) ?_
   refine WPL.q (q_as (v := .lit (.int _ _)) rfl) rfl ?_
   refine WPL.nilW ?_
   refine W.now ?_
   refine Then.n ?_
   refine WP.retW ?_
   have q0 := (Prod.mk.inj (Option.some.inj H)).1
   have q1 := (Prod.mk.inj (Prod.mk.inj (Option.some.inj H)).2).1
   have q2 := (Prod.mk.inj (Prod.mk.inj (Option.some.inj H)).2).2
   subst q0
   subst q1
   subst q2
   exact W.now (Then.r (BodyR.mkR trivial rfl [2] ⟨rfl, rfl⟩ ⟨rfl, ⟨trivial, .inr ⟨rfl, rfl, rfl⟩⟩, by decide, rfl, trivial⟩ rfl rfl))
 replace H := cnf hb6988 H
 refine WP.skipW ?_
 refine W.now ?_
 refine Then.n ?_
 refine WP.seq ?_
 obtain ⟨⟨x7042, x7043, x7044⟩, H7096, H⟩ := bnd H
 refine WP.monoW (Q := fun x E M => x = .normal ∧ E = ((((Env.none.upd 2 (.ptr 0 0)).upd 3 (.ptr 1 0)).upd 4 (.ptr 2 0)).upd 6 (.ptr 3 0)) ∧ M = ((((Mem.nil.push (.cells 23 [.lit (.int .i64 x6983), .lit (.int .i64 x6984)])).push (.cells 23 [.lit (.int .i64 x6985), .lit (.int .i64 x6986)])).push (.cells 23 [.lit (.int .i64 0), .lit (.int .i64 0)])).push (.cells 48 [.lit (.bool (decide (x6983 < 0))), .lit (.int .u64 x7042), .lit (.int .u64 x7043), .lit (.int .i64 x7044)]))) ?_ ?_
 · clear H
   have H := H7096
   clear H7096
   refine WP.regionD' 7 [0, 1] [] mixed rfl ?_
   refine WPD.take 0 rfl (by kernel_rfl) (q_load_ag ag23 rfl rfl (Nat.le_of_ble_eq_true rfl)) rfl rfl ?_
   refine WPD.take 2 rfl (by kernel_rfl) (q_load_ag ag23 rfl rfl (Nat.le_of_ble_eq_true rfl)) rfl rfl ?_
   refine WPD.of2 1 5 (by kernel_rfl) ?_ ?_
   · obtain ⟨x7072, h7070, H⟩ := bnd H
     refine WPD1.eff 1 [0, 1] [] rfl (runs_call (s := []) (t := [4]) (N := 5) (bor := []) fn48 rfl (s_dec_of k x6983 x6984 x7072 h7070) ⟨rfl, trivial, by decide, rfl, trivial⟩ rfl trivial (.ren rfl rfl .nil) rfl ⟨trivial, rfl⟩ rfl) rfl rfl ?_
     refine WPD.of2 3 5 (by kernel_rfl) ?_ ?_
     · obtain ⟨x7074, h7072, H⟩ := bnd H
       refine WPD1.eff 3 [0, 1] [] rfl (runs_call (s := []) (t := [5]) (N := 6) (bor := []) fn48 rfl (s_dec_of k x6985 x6986 x7074 h7072) ⟨rfl, trivial, by decide, rfl, trivial⟩ rfl trivial (.ren rfl rfl .nil) rfl ⟨trivial, rfl⟩ rfl) rfl rfl ?_
       refine WPD.of2 4 5 (by kernel_rfl) ?_ ?_
       · obtain ⟨⟨x7076, x7077, x7078⟩, h7074, H⟩ := bnd H
         refine WPD1.eff 4 [0, 1] [] rfl (runs_call (s := []) (t := [6]) (N := 7) (bor := []) fn60 rfl (s_dec_left k (decide (x6983 < 0)) 0 x7072 x6984 (decide (x6985 < 0)) 0 x7074 x6986 x7076 x7077 x7078 h7074) ⟨rfl, trivial, by decide, rfl, trivial⟩ rfl trivial (.ren rfl rfl (.ren rfl rfl .nil)) rfl ⟨trivial, rfl⟩ rfl) rfl rfl ?_
         refine WPD.eff 5 [0, 1] [] rfl (by kernel_rfl) (Does.runs (d_alloc ze48 rfl)) rfl rfl ?_
         refine WPD.effS 6 [0, 1] [] rfl (by kernel_rfl) (s_store sz48 rfl rfl rfl rfl rfl) rfl ?_
         refine WPD.doneW (by kernel_rfl) ?_
         have q0 := (Prod.mk.inj (Option.some.inj H)).1
         have q1 := (Prod.mk.inj (Prod.mk.inj (Option.some.inj H)).2).1
         have q2 := (Prod.mk.inj (Prod.mk.inj (Option.some.inj H)).2).2
         subst q0
         subst q1
         subst q2
         exact W.wk [0, 1, 2, 7] hnp ⟨rfl, rfl, rfl⟩ ⟨rfl, ⟨⟨⟨⟨trivial, .inr ⟨rfl, rfl, rfl⟩⟩, .inr ⟨rfl, rfl, rfl⟩⟩, .inr ⟨rfl, rfl, rfl⟩⟩, .inr ⟨rfl, rfl, rfl⟩⟩, by decide, rfl, trivial⟩ (LeE.upd rfl rfl (LeE.upd rfl rfl (LeE.upd rfl rfl (LeE.upd rfl rfl (LeE.none rfl rfl))))) rfl
       refine WPD1.eff 5 [0, 1] [] rfl (Does.runs (d_alloc ze48 rfl)) rfl rfl ?_
       obtain ⟨⟨x7080, x7081, x7082⟩, h7078, H⟩ := bnd H
       refine WPD.eff 4 [0, 1] [] rfl (by kernel_rfl) (runs_call (s := []) (t := [7]) (N := 8) (bor := []) fn60 rfl (s_dec_left k (decide (x6983 < 0)) 0 x7072 x6984 (decide (x6985 < 0)) 0 x7074 x6986 x7080 x7081 x7082 h7078) ⟨rfl, trivial, by decide, rfl, trivial⟩ rfl trivial (.ren rfl rfl (.ren rfl rfl .nil)) rfl ⟨trivial, rfl⟩ rfl) rfl rfl ?_
       refine WPD.effS 6 [0, 1] [] rfl (by kernel_rfl) (s_store sz48 rfl rfl rfl rfl rfl) rfl ?_
       refine WPD.doneW (by kernel_rfl) ?_
       have q0 := (Prod.mk.inj (Option.some.inj H)).1
       have q1 := (Prod.mk.inj (Prod.mk.inj (Option.some.inj H)).2).1
       have q2 := (Prod.mk.inj (Prod.mk.inj (Option.some.inj H)).2).2
       subst q0
       subst q1
       subst q2
       exact W.wk [0, 1, 2, 6] hnp ⟨rfl, rfl, rfl⟩ ⟨rfl, ⟨⟨⟨⟨trivial, .inr ⟨rfl, rfl, rfl⟩⟩, .inr ⟨rfl, rfl, rfl⟩⟩, .inr ⟨rfl, rfl, rfl⟩⟩, .inr ⟨rfl, rfl, rfl⟩⟩, by decide, rfl, trivial⟩ (LeE.upd rfl rfl (LeE.upd rfl rfl (LeE.upd rfl rfl (LeE.upd rfl rfl (LeE.none rfl rfl))))) rfl
     refine WPD1.eff 5 [0, 1] [] rfl (Does.runs (d_alloc ze48 rfl)) rfl rfl ?_
     obtain ⟨x7084, h7082, H⟩ := bnd H
     refine WPD.eff 3 [0, 1] [] rfl (by kernel_rfl) (runs_call (s := []) (t := [6]) (N := 7) (bor := []) fn48 rfl (s_dec_of k x6985 x6986 x7084 h7082) ⟨rfl, trivial, by decide, rfl, trivial⟩ rfl trivial (.ren rfl rfl .nil) rfl ⟨trivial, rfl⟩ rfl) rfl rfl ?_
     obtain ⟨⟨x7086, x7087, x7088⟩, h7084, H⟩ := bnd H
     refine WPD.eff 4 [0, 1] [] rfl (by kernel_rfl) (runs_call (s := []) (t := [7]) (N := 8) (bor := []) fn60 rfl (s_dec_left k (decide (x6983 < 0)) 0 x7072 x6984 (decide (x6985 < 0)) 0 x7084 x6986 x7086 x7087 x7088 h7084) ⟨rfl, trivial, by decide, rfl, trivial⟩ rfl trivial (.ren rfl rfl (.ren rfl rfl .nil)) rfl ⟨trivial, rfl⟩ rfl) rfl rfl ?_
     refine WPD.effS 6 [0, 1] [] rfl (by kernel_rfl) (s_store sz48 rfl rfl rfl rfl rfl) rfl ?_
     refine WPD.doneW (by kernel_rfl) ?_
     have q0 := (Prod.mk.inj (Option.some.inj H)).1
     have q1 := (Prod.mk.inj (Prod.mk.inj (Option.some.inj H)).2).1
     have q2 := (Prod.mk.inj (Prod.mk.inj (Option.some.inj H)).2).2
     subst q0
     subst q1
     subst q2
     exact W.wk [0, 1, 2, 5] hnp ⟨rfl, rfl, rfl⟩ ⟨rfl, ⟨⟨⟨⟨trivial, .inr ⟨rfl, rfl, rfl⟩⟩, .inr ⟨rfl, rfl, rfl⟩⟩, .inr ⟨rfl, rfl, rfl⟩⟩, .inr ⟨rfl, rfl, rfl⟩⟩, by decide, rfl, trivial⟩ (LeE.upd rfl rfl (LeE.upd rfl rfl (LeE.upd rfl rfl (LeE.upd rfl rfl (LeE.none rfl rfl))))) rfl
   refine WPD1.eff 5 [0, 1] [] rfl (Does.runs (d_alloc ze48 rfl)) rfl rfl ?_
   obtain ⟨x7090, h7088, H⟩ := bnd H
   refine WPD.eff 1 [0, 1] [] rfl (by kernel_rfl) (runs_call (s := []) (t := [5]) (N := 6) (bor := []) fn48 rfl (s_dec_of k x6983 x6984 x7090 h7088) ⟨rfl, trivial, by decide, rfl, trivial⟩ rfl trivial (.ren rfl rfl .nil) rfl ⟨trivial, rfl⟩ rfl) rfl rfl ?_
   obtain ⟨x7092, h7090, H⟩ := bnd H
   refine WPD.eff 3 [0, 1] [] rfl (by kernel_rfl) (runs_call (s := []) (t := [6]) (N := 7) (bor := []) fn48 rfl (s_dec_of k x6985 x6986 x7092 h7090) ⟨rfl, trivial, by decide, rfl, trivial⟩ rfl trivial (.ren rfl rfl .nil) rfl ⟨trivial, rfl⟩ rfl) rfl rfl ?_
   obtain ⟨⟨x7094, x7095, x7096⟩, h7092, H⟩ := bnd H
   refine WPD.eff 4 [0, 1] [] rfl (by kernel_rfl) (runs_call (s := []) (t := [7]) (N := 8) (bor := []) fn60 rfl (s_dec_left k (decide (x6983 < 0)) 0 x7090 x6984 (decide (x6985 < 0)) 0 x7092 x6986 x7094 x7095 x7096 h7092) ⟨rfl, trivial, by decide, rfl, trivial⟩ rfl trivial (.ren rfl rfl (.ren rfl rfl .nil)) rfl ⟨trivial, rfl⟩ rfl) rfl rfl ?_
   refine WPD.effS 6 [0, 1] [] rfl (by kernel_rfl) (s_store sz48 rfl rfl rfl rfl rfl) rfl ?_
   refine WPD.doneW (by kernel_rfl) ?_
   have q0 := (Prod.mk.inj (Option.some.inj H)).1
   have q1 := (Prod.mk.inj (Prod.mk.inj (Option.some.inj H)).2).1
   have q2 := (Prod.mk.inj (Prod.mk.inj (Option.some.inj H)).2).2
   subst q0
   subst q1
   subst q2
   exact W.wk [0, 1, 2, 4] hnp ⟨rfl, rfl, rfl⟩ ⟨rfl, ⟨⟨⟨⟨trivial, .inr ⟨rfl, rfl, rfl⟩⟩, .inr ⟨rfl, rfl, rfl⟩⟩, .inr ⟨rfl, rfl, rfl⟩⟩, .inr ⟨rfl, rfl, rfl⟩⟩, by decide, rfl, trivial⟩ (LeE.upd rfl rfl (LeE.upd rfl rfl (LeE.upd rfl rfl (LeE.upd rfl rfl (LeE.none rfl rfl))))) rfl
 rintro _ _ _ ⟨rfl, rfl, rfl⟩
 refine W.now ?_
 refine Then.n ?_
 refine WP.seq ?_
 refine WP.region ?_
 refine WPL.q (q_load_ag ag48 rfl rfl (Nat.le_of_ble_eq_true rfl)) rfl ?_
 obtain ⟨⟨x7099, x7100, x7101⟩, h7097, H⟩ := bnd H
 refine WPL.c (runs_call (s := []) (t := [4]) (N := 5) (bor := []) fn18 rfl (s_dec_num_tell k (decide (x6983 < 0)) x7042 x7043 x7044 x7099 x7100 x7101 h7097) ⟨rfl, trivial, by decide, rfl, trivial⟩ rfl trivial (.ren rfl rfl .nil) rfl ⟨trivial, rfl⟩ rfl) rfl ?_
 refine WPL.q (q_mv (v := .tup _) rfl) rfl ?_
 refine WPL.q (q_extract rfl rfl) rfl ?_
 refine WPL.q (q_extract rfl rfl) rfl ?_
 refine WPL.d (d_alloc ze23 rfl) rfl ?_
 refine WPL.s (s_store sz23 rfl rfl rfl rfl rfl) ?_
 refine WPL.q (q_as (v := .lit (.int _ _)) rfl) rfl ?_
 refine WPL.nilW ?_
 refine W.now ?_
 refine Then.n ?_
 refine WP.seq ?_
 refine WP.seq ?_
 obtain ⟨x7114, H7117, H⟩ := bnd H
 refine WP.monoW (Q := fun x E M => x = .normal ∧ E = (((((Env.none.upd 3 (.ptr 0 0)).upd 4 (.ptr 1 0)).upd 7 (.ptr 2 0)).upd 8 (.lit (.int .i64 x7099))).upd 42 (.lit (.bool x7114))) ∧ M = (((Mem.nil.push (.cells 23 [.lit (.int .i64 x6985), .lit (.int .i64 x6986)])).push (.cells 23 [.lit (.int .i64 0), .lit (.int .i64 0)])).push (.cells 23 [.lit (.int .i64 x7100), .lit (.int .i64 x7101)]))) ?_ ?_
 · clear H
   have H := H7117
   clear H7117
   refine WP.region ?_
   refine WPL.q (q_mv (v := .lit (.int _ _)) rfl) rfl ?_
   refine WPL.q (q_neq rfl rfl) rfl ?_
   refine WPL.q (q_mv (v := .lit (.bool _)) rfl) rfl ?_
   refine WPL.split (t := 29) (b := (!decide (x7099 = 0))) rfl (fun hb7114 => ?_) (fun hb7114 => ?_)
   · replace H := cnt hb7114 H
     refine WPL.skipg (b' := true) rfl rfl (lb hb7114) rfl rfl ?_
     refine WPL.skipg (b' := true) rfl rfl (lb hb7114) rfl rfl ?_
     refine WPL.skipg (b' := true) rfl rfl (lb hb7114) rfl rfl ?_
     refine WPL.q (q_pickT (v := .lit (.bool _)) (lb hb7114) rfl) rfl ?_
     refine WPL.q (q_mv (v := .lit (.bool _)) rfl) rfl ?_
     refine WPL.skipg (b' := true) rfl rfl rfl rfl rfl ?_
     refine WPL.skipg (b' := true) rfl rfl rfl rfl rfl ?_
     refine WPL.skipg (b' := true) rfl rfl rfl rfl rfl ?_
     refine WPL.skipg (b' := true) rfl rfl rfl rfl rfl ?_
     refine WPL.skipg (b' := true) rfl rfl rfl rfl rfl ?_
     refine WPL.skipg (b' := true) rfl rfl rfl rfl rfl ?_
     refine WPL.skipg (b' := true) rfl rfl rfl rfl rfl ?_
     refine WPL.q (q_pickT (v := .lit (.bool _)) rfl rfl) rfl ?_
     refine WPL.nilW ?_
     have q0 := (Option.some.inj H)
     subst q0
     exact W.wk [1, 2, 5] hnp ⟨rfl, rfl, rfl⟩ ⟨rfl, ⟨⟨⟨trivial, .inr ⟨rfl, rfl, rfl⟩⟩, .inr ⟨rfl, rfl, rfl⟩⟩, .inr ⟨rfl, rfl, rfl⟩⟩, by decide, rfl, trivial⟩ (LeE.upd rfl rfl (LeE.upd rfl rfl (LeE.upd rfl rfl (LeE.upd rfl rfl (LeE.upd rfl rfl (LeE.none rfl rfl)))))) rfl
   replace H := cnf hb7114 H
   refine WPL.qg rfl rfl (lb hb7114) (q_fieldAddr fi23_0 rfl rfl) rfl ?_
   refine WPL.qg rfl rfl (lb hb7114) (q_load sc2 rfl rfl rfl) rfl ?_
   refine WPL.qg rfl rfl (lb hb7114) (q_eql rfl rfl) rfl ?_
   refine WPL.q (q_pickF (v := .lit (.bool _)) (lb hb7114) rfl) rfl ?_
   refine WPL.q (q_mv (v := .lit (.bool _)) rfl) rfl ?_
   refine WPL.split (t := 34) (b := (decide (x7100 = 0))) rfl (fun hb7115 => ?_) (fun hb7115 => ?_)
   · replace H := cnt hb7115 H
     refine WPL.skipg (b' := true) rfl rfl (lb hb7115) rfl rfl ?_
     refine WPL.skipg (b' := true) rfl rfl (lb hb7115) rfl rfl ?_
     refine WPL.skipg (b' := true) rfl rfl (lb hb7115) rfl rfl ?_
     refine WPL.skipg (b' := true) rfl rfl (lb hb7115) rfl rfl ?_
     refine WPL.skipg (b' := true) rfl rfl (lb hb7115) rfl rfl ?_
     refine WPL.skipg (b' := true) rfl rfl (lb hb7115) rfl rfl ?_
     refine WPL.skipg (b' := true) rfl rfl (lb hb7115) rfl rfl ?_
     refine WPL.q (q_pickT (v := .lit (.bool _)) (lb hb7115) rfl) rfl ?_
     refine WPL.nilW ?_
     have q0 := (Option.some.inj H)
     subst q0
     exact W.wk [1, 2, 5] hnp ⟨rfl, rfl, rfl⟩ ⟨rfl, ⟨⟨⟨trivial, .inr ⟨rfl, rfl, rfl⟩⟩, .inr ⟨rfl, rfl, rfl⟩⟩, .inr ⟨rfl, rfl, rfl⟩⟩, by decide, rfl, trivial⟩ (LeE.upd rfl rfl (LeE.upd rfl rfl (LeE.upd rfl rfl (LeE.upd rfl rfl (LeE.upd rfl rfl (LeE.none rfl rfl)))))) rfl
   replace H := cnf hb7115 H
   refine WPL.qg rfl rfl (lb hb7115) (q_fieldAddr fi23_0 rfl rfl) rfl ?_
   refine WPL.qg rfl rfl (lb hb7115) (q_load sc2 rfl rfl rfl) rfl ?_
   refine WPL.qg rfl rfl (lb hb7115) (q_lss rfl rfl) rfl ?_
   refine WPL.qg rfl rfl (lb hb7115) (q_fieldAddr fi23_0 rfl rfl) rfl ?_
   refine WPL.qg rfl rfl (lb hb7115) (q_load sc2 rfl rfl rfl) rfl ?_
   refine WPL.qg rfl rfl (lb hb7115) (q_lss rfl rfl) rfl ?_
   obtain ⟨x7117, h7117, H⟩ := bnd H
   refine WPL.qg rfl rfl (lb hb7115) (q_nm (q_eqlb Tryd.underlying4 rfl rfl) (nm_bool h7117)) rfl ?_
   refine WPL.q (q_pickF (v := .lit (.bool _)) (lb hb7115) rfl) rfl ?_
   refine WPL.nilW ?_
   have q0 := (Option.some.inj H)
   subst q0
   exact W.wk [1, 2, 5] hnp ⟨rfl, rfl, rfl⟩ ⟨rfl, ⟨⟨⟨trivial, .inr ⟨rfl, rfl, rfl⟩⟩, .inr ⟨rfl, rfl, rfl⟩⟩, .inr ⟨rfl, rfl, rfl⟩⟩, by decide, rfl, trivial⟩ (LeE.upd rfl rfl (LeE.upd rfl rfl (LeE.upd rfl rfl (LeE.upd rfl rfl (LeE.upd rfl rfl (LeE.none rfl rfl)))))) rfl
 rintro _ _ _ ⟨rfl, rfl, rfl⟩
 refine W.now ?_
 refine Then.n ?_
 refine WP.cond (t := x7114) rfl (fun hb7118 => ?_) (fun hb7118 => ?_)
 · replace H := cnt hb7118 H
   refine WP.seq ?_
   refine WP.region ?_
   refine WPL.q (q_load_ag ag23 rfl rfl (Nat.le_of_ble_eq_true rfl)) rfl ?_
   refine WPL.q (q_mv (v := .lit (.int _ _)) rfl) rfl ?_
   refine WPL.s (s_store sz23 rfl rfl rfl rfl rfl) ?_
   refine WPL.q (q_as (v := .lit (.int _ _)) rfl) rfl ?_
   refine WPL.nilW ?_
   refine W.now ?_
   refine Then.n ?_
   refine WP.retW ?_
   have q0 := (Prod.mk.inj (Option.some.inj H)).1
   have q1 := (Prod.mk.inj (Prod.mk.inj (Option.some.inj H)).2).1
   have q2 := (Prod.mk.inj (Prod.mk.inj (Option.some.inj H)).2).2
   subst q0
   subst q1
   subst q2
   exact W.now (Then.r (BodyR.mkR trivial rfl [1] ⟨rfl, rfl⟩ ⟨rfl, ⟨trivial, .inr ⟨rfl, rfl, rfl⟩⟩, by decide, rfl, trivial⟩ rfl rfl))
 replace H := cnf hb7118 H
 refine WP.skipW ?_
 refine W.now ?_
 refine Then.n ?_
 refine WP.seq ?_
 refine WP.region ?_
 refine WPL.q (q_load_ag ag23 rfl rfl (Nat.le_of_ble_eq_true rfl)) rfl ?_
 refine WPL.q (q_load_ag ag23 rfl rfl (Nat.le_of_ble_eq_true rfl)) rfl ?_
 obtain ⟨⟨x7121, x7122, x7123⟩, h7119, H⟩ := bnd H
 refine WPL.c (runs_call (s := []) (t := [3]) (N := 4) (bor := []) fn29 rfl (s_dec_Add k x7100 x7101 x6985 x6986 x7121 x7122 x7123 h7119) ⟨rfl, trivial, by decide, rfl, trivial⟩ rfl trivial (.ren rfl rfl (.ren rfl rfl .nil)) rfl ⟨trivial, rfl⟩ rfl) rfl ?_
 refine WPL.q (q_extract rfl rfl) rfl ?_
 refine WPL.q (q_extract rfl rfl) rfl ?_
 refine WPL.s (s_store sz23 rfl rfl rfl rfl rfl) ?_
 refine WPL.q (q_as (v := .lit (.int _ _)) rfl) rfl ?_
 refine WPL.nilW ?_
 refine W.now ?_
 refine Then.n ?_
 refine WP.retW ?_
 have q0 := (Prod.mk.inj (Option.some.inj H)).1
 have q1 := (Prod.mk.inj (Prod.mk.inj (Option.some.inj H)).2).1
 have q2 := (Prod.mk.inj (Prod.mk.inj (Option.some.inj H)).2).2
 subst q0
 subst q1
 subst q2
 exact W.now (BodyR.mkR trivial rfl [1] ⟨rfl, rfl⟩ ⟨rfl, ⟨trivial, .inr ⟨rfl, rfl, rfl⟩⟩, by decide, rfl, trivial⟩ rfl rfl)
set_option maxRecDepth 100000 in
set_option maxHeartbeats 4000000 in
theorem s_quirelaw09_alive (k : Nat) (x7164 : Bool) (H : g_quirelaw09_alive k = some x7164) : Go.Q.Spec Tryd.prog 9 0 [] Mem.nil (fun o M => o = .ret (.lit (.bool x7164)) ∧ M = Mem.nil) := by
 unfold g_quirelaw09_alive at H
 refine Go.Q.Spec.of_bodyR (az := []) (rs := [.tmp 0]) (nt := 94) Tryd.func9 rfl rfl (by intro t T h; simp at h) rfl rfl fun cx hnp => ?_
 refine WP.seq ?_
 refine WP.region ?_
 refine WPL.q (q_as (v := .lit (.bool _)) rfl) rfl ?_
 refine WPL.nilW ?_
 refine W.now ?_
 refine Then.n ?_
 refine WP.seq ?_
 refine WP.region ?_
 obtain ⟨⟨x7166, x7167, x7168⟩, h7164, H⟩ := bnd H
 refine WPL.c (runs_call (s := []) (t := [0]) (N := 1) (bor := []) fn10 rfl (s_dec_Make k 120 0 x7166 x7167 x7168 h7164) ⟨rfl, trivial, by decide, rfl, trivial⟩ rfl trivial (.ren rfl rfl (.ren rfl rfl .nil)) rfl ⟨trivial, rfl⟩ rfl) rfl ?_
 refine WPL.q (q_mv (v := .tup _) rfl) rfl ?_
 refine WPL.q (q_extract rfl rfl) rfl ?_
 refine WPL.q (q_extract rfl rfl) rfl ?_
 refine WPL.d (d_alloc ze23 rfl) rfl ?_
 refine WPL.s (s_store sz23 rfl rfl rfl rfl rfl) ?_
 refine WPL.q (q_as (v := .lit (.int _ _)) rfl) rfl ?_
 refine WPL.nilW ?_
 refine W.now ?_
 refine Then.n ?_
 refine WP.seq ?_
 refine WP.region ?_
 refine WPL.q (q_build bu23 rfl) rfl ?_
 refine WPL.q (q_build bu23 rfl) rfl ?_
 obtain ⟨⟨x7170, x7171, x7172⟩, h7168, H⟩ := bnd H
 refine WPL.c (runs_call (s := []) (t := [2]) (N := 3) (bor := []) fn29 rfl (s_dec_Add k 1 (-1) 2 (-1) x7170 x7171 x7172 h7168) ⟨rfl, trivial, by decide, rfl, trivial⟩ rfl trivial (.ren rfl rfl (.ren rfl rfl .nil)) rfl ⟨trivial, rfl⟩ rfl) rfl ?_
 refine WPL.q (q_mv (v := .tup _) rfl) rfl ?_
 refine WPL.q (q_extract rfl rfl) rfl ?_
 refine WPL.q (q_extract rfl rfl) rfl ?_
 refine WPL.d (d_alloc ze23 rfl) rfl ?_
 refine WPL.s (s_store sz23 rfl rfl rfl rfl rfl) ?_
 refine WPL.q (q_as (v := .lit (.int _ _)) rfl) rfl ?_
 refine WPL.nilW ?_
 refine W.now ?_
 refine Then.n ?_
 refine WP.seq ?_
 refine WP.region ?_
 refine WPL.q (q_build bu23 rfl) rfl ?_
 refine WPL.q (q_build bu23 rfl) rfl ?_
 obtain ⟨⟨x7174, x7175, x7176⟩, h7172, H⟩ := bnd H
 refine WPL.c (runs_call (s := []) (t := [4]) (N := 5) (bor := []) fn30 rfl (s_dec_Div k 1 0 4 0 x7174 x7175 x7176 h7172) ⟨rfl, trivial, by decide, rfl, trivial⟩ rfl trivial (.ren rfl rfl (.ren rfl rfl .nil)) rfl ⟨trivial, rfl⟩ rfl) rfl ?_
 refine WPL.q (q_mv (v := .tup _) rfl) rfl ?_
 refine WPL.q (q_extract rfl rfl) rfl ?_
 refine WPL.q (q_extract rfl rfl) rfl ?_
 refine WPL.d (d_alloc ze23 rfl) rfl ?_
 refine WPL.s (s_store sz23 rfl rfl rfl rfl rfl) ?_
 refine WPL.q (q_as (v := .lit (.int _ _)) rfl) rfl ?_
 refine WPL.nilW ?_
 refine W.now ?_
 refine Then.n ?_
 refine WP.seq ?_
 refine WP.region ?_
 refine WPL.q (q_build bu23 rfl) rfl ?_
 refine WPL.q (q_build bu23 rfl) rfl ?_
 obtain ⟨⟨x7178, x7179, x7180⟩, h7176, H⟩ := bnd H
 refine WPL.c (runs_call (s := []) (t := [6]) (N := 7) (bor := []) fn30 rfl (s_dec_Div k 1 0 3 0 x7178 x7179 x7180 h7176) ⟨rfl, trivial, by decide, rfl, trivial⟩ rfl trivial (.ren rfl rfl (.ren rfl rfl .nil)) rfl ⟨trivial, rfl⟩ rfl) rfl ?_
 refine WPL.q (q_mv (v := .tup _) rfl) rfl ?_
 refine WPL.q (q_extract rfl rfl) rfl ?_
 refine WPL.q (q_extract rfl rfl) rfl ?_
 refine WPL.d (d_alloc ze23 rfl) rfl ?_
 refine WPL.s (s_store sz23 rfl rfl rfl rfl rfl) ?_
 refine WPL.q (q_as (v := .lit (.int _ _)) rfl) rfl ?_
 refine WPL.nilW ?_
 refine W.now ?_
 refine Then.n ?_
 refine WP.seq ?_
 refine WP.region ?_
 refine WPL.q (q_build bu23 rfl) rfl ?_
 refine WPL.q (q_build bu23 rfl) rfl ?_
 obtain ⟨⟨x7182, x7183, x7184⟩, h7180, H⟩ := bnd H
 refine WPL.c (runs_call (s := []) (t := [8]) (N := 9) (bor := []) fn30 rfl (s_dec_Div k 1 0 0 0 x7182 x7183 x7184 h7180) ⟨rfl, trivial, by decide, rfl, trivial⟩ rfl trivial (.ren rfl rfl (.ren rfl rfl .nil)) rfl ⟨trivial, rfl⟩ rfl) rfl ?_
 refine WPL.q (q_mv (v := .tup _) rfl) rfl ?_
 refine WPL.q (q_extract rfl rfl) rfl ?_
 refine WPL.q (q_extract rfl rfl) rfl ?_
 refine WPL.d (d_alloc ze23 rfl) rfl ?_
 refine WPL.s (s_store sz23 rfl rfl rfl rfl rfl) ?_
 refine WPL.q (q_as (v := .lit (.int _ _)) rfl) rfl ?_
 refine WPL.nilW ?_
 refine W.now ?_
 refine Then.n ?_
 refine WP.seq ?_
 refine WP.region ?_
 refine WPL.q (q_build bu23 rfl) rfl ?_
 refine WPL.q (q_build bu23 rfl) rfl ?_
 obtain ⟨⟨x7186, x7187, x7188⟩, h7184, H⟩ := bnd H
 refine WPL.c (runs_call (s := []) (t := [10]) (N := 11) (bor := []) fn31 rfl (s_dec_Mod k (-7) 0 3 0 x7186 x7187 x7188 h7184) ⟨rfl, trivial, by decide, rfl, trivial⟩ rfl trivial (.ren rfl rfl (.ren rfl rfl .nil)) rfl ⟨trivial, rfl⟩ rfl) rfl ?_
 refine WPL.q (q_mv (v := .tup _) rfl) rfl ?_
 refine WPL.q (q_extract rfl rfl) rfl ?_
 refine WPL.q (q_extract rfl rfl) rfl ?_
 refine WPL.d (d_alloc ze23 rfl) rfl ?_
 refine WPL.s (s_store sz23 rfl rfl rfl rfl rfl) ?_
 refine WPL.q (q_as (v := .lit (.int _ _)) rfl) rfl ?_
 refine WPL.nilW ?_
 refine W.now ?_
 refine Then.n ?_
 refine WP.seq ?_
 obtain ⟨x7206, H7223, H⟩ := bnd H
 refine WP.monoW (Q := fun x E M => x = .normal ∧ E = (Env.none.upd 0 (.lit (.bool x7206))) ∧ M = Mem.nil) ?_ ?_
 · clear H
   have H := H7223
   clear H7223
   refine WP.region ?_
   refine WPL.q (q_load_ag ag23 rfl rfl (Nat.le_of_ble_eq_true rfl)) rfl ?_
   refine WPL.q (q_build bu23 rfl) rfl ?_
   obtain ⟨x7207, h7207, H⟩ := bnd H
   refine WPL.q (q_nm (q_eqlAg (xs := [(.int .i64 x7167), (.int .i64 x7168)]) (ys := [(.int .i64 12), (.int .i64 1)]) (n := 9) rfl eg23 rfl rfl eq23) (nm_bool h7207)) rfl ?_
   refine WPL.q (q_mv (v := .lit (.bool _)) rfl) rfl ?_
   refine WPL.split (t := 50) (b := x7207) rfl (fun hb7207 => ?_) (fun hb7207 => ?_)
   · replace H := cnt hb7207 H
     refine WPL.qg rfl rfl (lb hb7207) (q_mv (v := .lit (.int _ _)) rfl) rfl ?_
     refine WPL.qg rfl rfl (lb hb7207) (q_eql rfl rfl) rfl ?_
     refine WPL.q (q_pickT (v := .lit (.bool _)) (lb hb7207) rfl) rfl ?_
     refine WPL.q (q_mv (v := .lit (.bool _)) rfl) rfl ?_
     refine WPL.split (t := 54) (b := (decide (x7166 = 0))) rfl (fun hb7208 => ?_) (fun hb7208 => ?_)
     · replace H := cnt hb7208 H
       refine WPL.qg rfl rfl (lb hb7208) (q_load_ag ag23 rfl rfl (Nat.le_of_ble_eq_true rfl)) rfl ?_
       refine WPL.qg rfl rfl (lb hb7208) (q_build bu23 rfl) rfl ?_
       obtain ⟨x7210, h7210, H⟩ := bnd H
       refine WPL.qg rfl rfl (lb hb7208) (q_nm (q_eqlAg (xs := [(.int .i64 x7171), (.int .i64 x7172)]) (ys := [(.int .i64 3), (.int .i64 (-1))]) (n := 9) rfl eg23 rfl rfl eq23) (nm_bool h7210)) rfl ?_
       refine WPL.q (q_pickT (v := .lit (.bool _)) (lb hb7208) rfl) rfl ?_
       refine WPL.q (q_mv (v := .lit (.bool _)) rfl) rfl ?_
       refine WPL.split (t := 59) (b := x7210) rfl (fun hb7210 => ?_) (fun hb7210 => ?_)
       · replace H := cnt hb7210 H
         refine WPL.qg rfl rfl (lb hb7210) (q_mv (v := .lit (.int _ _)) rfl) rfl ?_
         refine WPL.qg rfl rfl (lb hb7210) (q_eql rfl rfl) rfl ?_
         refine WPL.q (q_pickT (v := .lit (.bool _)) (lb hb7210) rfl) rfl ?_
         refine WPL.q (q_mv (v := .lit (.bool _)) rfl) rfl ?_
         refine WPL.split (t := 63) (b := (decide (x7170 = 0))) rfl (fun hb7211 => ?_) (fun hb7211 => ?_)
         · replace H := cnt hb7211 H
           refine WPL.qg rfl rfl (lb hb7211) (q_load_ag ag23 rfl rfl (Nat.le_of_ble_eq_true rfl)) rfl ?_
           refine WPL.qg rfl rfl (lb hb7211) (q_build bu23 rfl) rfl ?_
           obtain ⟨x7213, h7213, H⟩ := bnd H
           refine WPL.qg rfl rfl (lb hb7211) (q_nm (q_eqlAg (xs := [(.int .i64 x7175), (.int .i64 x7176)]) (ys := [(.int .i64 25), (.int .i64 (-2))]) (n := 9) rfl eg23 rfl rfl eq23) (nm_bool h7213)) rfl ?_
           refine WPL.q (q_pickT (v := .lit (.bool _)) (lb hb7211) rfl) rfl ?_
           refine WPL.q (q_mv (v := .lit (.bool _)) rfl) rfl ?_
           refine WPL.split (t := 68) (b := x7213) rfl (fun hb7213 => ?_) (fun hb7213 => ?_)
           · replace H := cnt hb7213 H
             refine WPL.qg rfl rfl (lb hb7213) (q_mv (v := .lit (.int _ _)) rfl) rfl ?_
             refine WPL.qg rfl rfl (lb hb7213) (q_eql rfl rfl) rfl ?_
             refine WPL.q (q_pickT (v := .lit (.bool _)) (lb hb7213) rfl) rfl ?_
             refine WPL.q (q_mv (v := .lit (.bool _)) rfl) rfl ?_
             refine WPL.split (t := 72) (b := (decide (x7174 = 0))) rfl (fun hb7214 => ?_) (fun hb7214 => ?_)
             · replace H := cnt hb7214 H
               refine WPL.qg rfl rfl (lb hb7214) (q_mv (v := .lit (.int _ _)) rfl) rfl ?_
               refine WPL.qg rfl rfl (lb hb7214) (q_eql rfl rfl) rfl ?_
               refine WPL.q (q_pickT (v := .lit (.bool _)) (lb hb7214) rfl) rfl ?_
               refine WPL.q (q_mv (v := .lit (.bool _)) rfl) rfl ?_
               refine WPL.split (t := 76) (b := (decide (x7178 = 30))) rfl (fun hb7215 => ?_) (fun hb7215 => ?_)
               · replace H := cnt hb7215 H
                 refine WPL.qg rfl rfl (lb hb7215) (q_mv (v := .lit (.int _ _)) rfl) rfl ?_
                 refine WPL.qg rfl rfl (lb hb7215) (q_eql rfl rfl) rfl ?_
                 refine WPL.q (q_pickT (v := .lit (.bool _)) (lb hb7215) rfl) rfl ?_
                 refine WPL.q (q_mv (v := .lit (.bool _)) rfl) rfl ?_
                 refine WPL.split (t := 80) (b := (decide (x7182 = 31))) rfl (fun hb7216 => ?_) (fun hb7216 => ?_)
                 · replace H := cnt hb7216 H
                   refine WPL.qg rfl rfl (lb hb7216) (q_load_ag ag23 rfl rfl (Nat.le_of_ble_eq_true rfl)) rfl ?_
                   refine WPL.qg rfl rfl (lb hb7216) (q_build bu23 rfl) rfl ?_
                   obtain ⟨x7218, h7218, H⟩ := bnd H
                   refine WPL.qg rfl rfl (lb hb7216) (q_nm (q_eqlAg (xs := [(.int .i64 x7187), (.int .i64 x7188)]) (ys := [(.int .i64 2), (.int .i64 0)]) (n := 9) rfl eg23 rfl rfl eq23) (nm_bool h7218)) rfl ?_
                   refine WPL.q (q_pickT (v := .lit (.bool _)) (lb hb7216) rfl) rfl ?_
                   refine WPL.q (q_mv (v := .lit (.bool _)) rfl) rfl ?_
                   refine WPL.split (t := 85) (b := x7218) rfl (fun hb7218 => ?_) (fun hb7218 => ?_)
                   · replace H := cnt hb7218 H
                     refine WPL.qg rfl rfl (lb hb7218) (q_mv (v := .lit (.int _ _)) rfl) rfl ?_
                     refine WPL.qg rfl rfl (lb hb7218) (q_eql rfl rfl) rfl ?_
                     refine WPL.q (q_pickT (v := .lit (.bool _)) (lb hb7218) rfl) rfl ?_
                     refine WPL.q (q_mv (v := .lit (.bool _)) rfl) rfl ?_
                     refine WPL.split (t := 89) (b := (decide (x7186 = 0))) rfl (fun hb7219 => ?_) (fun hb7219 => ?_)
                     · replace H := cnt hb7219 H
                       refine WPL.qg rfl rfl (lb hb7219) (q_build bu23 rfl) rfl ?_
                       obtain ⟨x7222, h7220, H⟩ := bnd H
                       refine WPL.cg rfl rfl (lb hb7219) (runs_call (s := []) (t := []) (N := 12) (bor := []) fn7 rfl (s_dec_Print k 5 (-3) x7222 h7220) ⟨rfl, trivial, by decide, rfl, trivial⟩ rfl trivial (.ren rfl rfl .nil) rfl trivial rfl) rfl ?_
                       obtain ⟨x7223, h7223, H⟩ := bnd H
                       refine WPL.qg rfl rfl (lb hb7219) (q_nm (q_eqls rfl rfl) (nm_bool h7223)) rfl ?_
                       refine WPL.q (q_pickT (v := .lit (.bool _)) (lb hb7219) rfl) rfl ?_
                       refine WPL.q (q_as (v := .lit (.bool _)) rfl) rfl ?_
                       refine WPL.nilW ?_
                       have q0 := (Option.some.inj H)
                       subst q0
                       exact W.wk [] hnp ⟨rfl, rfl, rfl⟩ ⟨rfl, trivial, by decide, rfl, trivial⟩ (LeE.upd rfl rfl (LeE.none rfl rfl)) rfl
                     replace H := cnf hb7219 H
                     refine WPL.skipg (b' := false) rfl rfl (lb hb7219) rfl rfl ?_
                     refine WPL.skipg (b' := false) rfl rfl (lb hb7219) rfl rfl ?_
                     refine WPL.skipg (b' := false) rfl rfl (lb hb7219) rfl rfl ?_
                     refine WPL.q (q_pickF (v := .lit (.bool _)) (lb hb7219) rfl) rfl ?_
                     refine WPL.q (q_as (v := .lit (.bool _)) rfl) rfl ?_
                     refine WPL.nilW ?_
                     have q0 := (Option.some.inj H)
                     subst q0
                     exact W.wk [] hnp ⟨rfl, rfl, rfl⟩ ⟨rfl, trivial, by decide, rfl, trivial⟩ (LeE.upd rfl rfl (LeE.none rfl rfl)) rfl
                   replace H := cnf hb7218 H
                   refine WPL.skipg (b' := false) rfl rfl (lb hb7218) rfl rfl ?_
                   refine WPL.skipg (b' := false) rfl rfl (lb hb7218) rfl rfl ?_
                   refine WPL.q (q_pickF (v := .lit (.bool _)) (lb hb7218) rfl) rfl ?_
                   refine WPL.q (q_mv (v := .lit (.bool _)) rfl) rfl ?_
                   refine WPL.skipg (b' := false) rfl rfl rfl rfl rfl ?_
                   refine WPL.skipg (b' := false) rfl rfl rfl rfl rfl ?_
                   refine WPL.skipg (b' := false) rfl rfl rfl rfl rfl ?_
                   refine WPL.q (q_pickF (v := .lit (.bool _)) rfl rfl) rfl ?_
                   refine WPL.q (q_as (v := .lit (.bool _)) rfl) rfl ?_
                   refine WPL.nilW ?_
                   have q0 := (Option.some.inj H)
                   subst q0
                   exact W.wk [] hnp ⟨rfl, rfl, rfl⟩ ⟨rfl, trivial, by decide, rfl, trivial⟩ (LeE.upd rfl rfl (LeE.none rfl rfl)) rfl
                 replace H := cnf hb7216 H
                 refine WPL.skipg (b' := false) rfl rfl (lb hb7216) rfl rfl ?_
                 refine WPL.skipg (b' := false) rfl rfl (lb hb7216) rfl rfl ?_
                 refine WPL.skipg (b' := false) rfl rfl (lb hb7216) rfl rfl ?_
                 refine WPL.q (q_pickF (v := .lit (.bool _)) (lb hb7216) rfl) rfl ?_
                 refine WPL.q (q_mv (v := .lit (.bool _)) rfl) rfl ?_
                 refine WPL.skipg (b' := false) rfl rfl rfl rfl rfl ?_
                 refine WPL.skipg (b' := false) rfl rfl rfl rfl rfl ?_
                 refine WPL.q (q_pickF (v := .lit (.bool _)) rfl rfl) rfl ?_
                 refine WPL.q (q_mv (v := .lit (.bool _)) rfl) rfl ?_
                 refine WPL.skipg (b' := false) rfl rfl rfl rfl rfl ?_
                 refine WPL.skipg (b' := false) rfl rfl rfl rfl rfl ?_
                 refine WPL.skipg (b' := false) rfl rfl rfl rfl rfl ?_
                 refine WPL.q (q_pickF (v := .lit (.bool _)) rfl rfl) rfl ?_
                 refine WPL.q (q_as (v := .lit (.bool _)) rfl) rfl ?_
                 refine WPL.nilW ?_
                 have q0 := (Option.some.inj H)
                 subst q0
                 exact W.wk [] hnp ⟨rfl, rfl, rfl⟩ ⟨rfl, trivial, by decide, rfl, trivial⟩ (LeE.upd rfl rfl (LeE.none rfl rfl)) rfl
               replace H := cnf hb7215 H
               refine WPL.skipg (b' := false) rfl rfl (lb hb7215) rfl rfl ?_
               refine WPL.skipg (b' := false) rfl rfl (lb hb7215) rfl rfl ?_
               refine WPL.q (q_pickF (v := .lit (.bool _)) (lb hb7215) rfl) rfl ?_
               refine WPL.q (q_mv (v := .lit (.bool _)) rfl) rfl ?_
               refine WPL.skipg (b' := false) rfl rfl rfl rfl rfl ?_
               refine WPL.skipg (b' := false) rfl rfl rfl rfl rfl ?_
               refine WPL.skipg (b' := false) rfl rfl rfl rfl rfl ?_
               refine WPL.q (q_pickF (v := .lit (.bool _)) rfl rfl) rfl ?_
               refine WPL.q (q_mv (v := .lit (.bool _)) rfl) rfl ?_
               refine WPL.skipg (b' := false) rfl rfl rfl rfl rfl ?_
               refine WPL.skipg (b' := false) rfl rfl rfl rfl rfl ?_
               refine WPL.q (q_pickF (v := .lit (.bool _)) rfl rfl) rfl ?_
               refine WPL.q (q_mv (v := .lit (.bool _)) rfl) rfl ?_
               refine WPL.skipg (b' := false) rfl rfl rfl rfl rfl ?_
               refine WPL.skipg (b' := false) rfl rfl rfl rfl rfl ?_
               refine WPL.skipg (b' := false) rfl rfl rfl rfl rfl ?_
               refine WPL.q (q_pickF (v := .lit (.bool _)) rfl rfl) rfl ?_
               refine WPL.q (q_as (v := .lit (.bool _)) rfl) rfl ?_
               refine WPL.nilW ?_
               have q0 := (Option.some.inj H)
               subst q0
               exact W.wk [] hnp ⟨rfl, rfl, rfl⟩ ⟨rfl, trivial, by decide, rfl, trivial⟩ (LeE.upd rfl rfl (LeE.none rfl rfl)) rfl
             replace H := cnf hb7214 H
             refine WPL.skipg (b' := false) rfl rfl (lb hb7214) rfl rfl ?_
             refine WPL.skipg (b' := false) rfl rfl (lb hb7214) rfl rfl ?_
             refine WPL.q (q_pickF (v := .lit (.bool _)) (lb hb7214) rfl) rfl ?_
             refine WPL.q (q_mv (v := .lit (.bool _)) rfl) rfl ?_
             refine WPL.skipg (b' := false) rfl rfl rfl rfl rfl ?_
             refine WPL.skipg (b' := false) rfl rfl rfl rfl rfl ?_
             refine WPL.q (q_pickF (v := .lit (.bool _)) rfl rfl) rfl ?_
             refine WPL.q (q_mv (v := .lit (.bool _)) rfl) rfl ?_
             refine WPL.skipg (b' := false) rfl rfl rfl rfl rfl ?_
             refine WPL.skipg (b' := false) rfl rfl rfl rfl rfl ?_
             refine WPL.skipg (b' := false) rfl rfl rfl rfl rfl ?_
             refine WPL.q (q_pickF (v := .lit (.bool _)) rfl rfl) rfl ?_
             refine WPL.q (q_mv (v := .lit (.bool _)) rfl) rfl ?_
             refine WPL.skipg (b' := false) rfl rfl rfl rfl rfl ?_
             refine WPL.skipg (b' := false) rfl rfl rfl rfl rfl ?_
             refine WPL.q (q_pickF (v := .lit (.bool _)) rfl rfl) rfl ?_
             refine WPL.q (q_mv (v := .lit (.bool _)) rfl) rfl ?_
             refine WPL.skipg (b' := false) rfl rfl rfl rfl rfl ?_
             refine WPL.skipg (b' := false) rfl rfl rfl rfl rfl ?_
             refine WPL.skipg (b' := false) rfl rfl rfl rfl rfl ?_
             refine WPL.q (q_pickF (v := .lit (.bool _)) rfl rfl) rfl ?_
             refine WPL.q (q_as (v := .lit (.bool _)) rfl) rfl ?_
             refine WPL.nilW ?_
             have q0 := (Option.some.inj H)
             subst q0
             exact W.wk [] hnp ⟨rfl, rfl, rfl⟩ ⟨rfl, trivial, by decide, rfl, trivial⟩ (LeE.upd rfl rfl (LeE.none rfl rfl)) rfl
           replace H := cnf hb7213 H
           refine WPL.skipg (b' := false) rfl rfl (lb hb7213) rfl rfl ?_
           refine WPL.skipg (b' := false) rfl rfl (lb hb7213) rfl rfl ?_
           refine WPL.q (q_pickF (v := .lit (.bool _)) (lb hb7213) rfl) rfl ?_
           refine WPL.q (q_mv (v := .lit (.bool _)) rfl) rfl ?_
           refine WPL.skipg (b' := false) rfl rfl rfl rfl rfl ?_
           refine WPL.skipg (b' := false) rfl rfl rfl rfl rfl ?_
           refine WPL.q (q_pickF (v := .lit (.bool _)) rfl rfl) rfl ?_
           refine WPL.q (q_mv (v := .lit (.bool _)) rfl) rfl ?_
           refine WPL.skipg (b' := false) rfl rfl rfl rfl rfl ?_
           refine WPL.skipg (b' := false) rfl rfl rfl rfl rfl ?_
           refine WPL.q (q_pickF (v := .lit (.bool _)) rfl rfl) rfl ?_
           refine WPL.q (q_mv (v := .lit (.bool _)) rfl) rfl ?_
           refine WPL.skipg (b' := false) rfl rfl rfl rfl rfl ?_
           refine WPL.skipg (b' := false) rfl rfl rfl rfl rfl ?_
           refine WPL.skipg (b' := false) rfl rfl rfl rfl rfl ?_
           refine WPL.q (q_pickF (v := .lit (.bool _)) rfl rfl) rfl ?_
           refine WPL.q (q_mv (v := .lit (.bool _)) rfl) rfl ?_
           refine WPL.skipg (b' := false) rfl rfl rfl rfl rfl ?_
           refine WPL.skipg (b' := false) rfl rfl rfl rfl rfl ?_
           refine WPL.q (q_pickF (v := .lit (.bool _)) rfl rfl) rfl ?_
           refine WPL.q (q_mv (v := .lit (.bool _)) rfl) rfl ?_
           refine WPL.skipg (b' := false) rfl rfl rfl rfl rfl ?_
           refine WPL.skipg (b' := false) rfl rfl rfl rfl rfl ?_
           refine WPL.skipg (b' := false) rfl rfl rfl rfl rfl ?_
           refine WPL.q (q_pickF (v := .lit (.bool _)) rfl rfl) rfl ?_
           refine WPL.q (q_as (v := .lit (.bool _)) rfl) rfl ?_
           refine WPL.nilW ?_
           have q0 := (Option.some.inj H)
           subst q0
           exact W.wk [] hnp ⟨rfl, rfl, rfl⟩ ⟨rfl, trivial, by decide, rfl, trivial⟩ (LeE.upd rfl rfl (LeE.none rfl rfl)) rfl
         replace H := cnf hb7211 H
         refine WPL.skipg (b' := false) rfl rfl (lb hb7211) rfl rfl ?_
         refine WPL.skipg (b' := false) rfl rfl (lb hb7211) rfl rfl ?_
         refine WPL.skipg (b' := false) rfl rfl (lb hb7211) rfl rfl ?_
         refine WPL.q (q_pickF (v := .lit (.bool _)) (lb hb7211) rfl) rfl ?_
         refine WPL.q (q_mv (v := .lit (.bool _)) rfl) rfl ?_
         refine WPL.skipg (b' := false) rfl rfl rfl rfl rfl ?_
         refine WPL.skipg (b' := false) rfl rfl rfl rfl rfl ?_
         refine WPL.q (q_pickF (v := .lit (.bool _)) rfl rfl) rfl ?_
         refine WPL.q (q_mv (v := .lit (.bool _)) rfl) rfl ?_
         refine WPL.skipg (b' := false) rfl rfl rfl rfl rfl ?_
         refine WPL.skipg (b' := false) rfl rfl rfl rfl rfl ?_
         refine WPL.q (q_pickF (v := .lit (.bool _)) rfl rfl) rfl ?_
         refine WPL.q (q_mv (v := .lit (.bool _)) rfl) rfl ?_
         refine WPL.skipg (b' := false) rfl rfl rfl rfl rfl ?_
         refine WPL.skipg (b' := false) rfl rfl rfl rfl rfl ?_
         refine WPL.q (q_pickF (v := .lit (.bool _)) rfl rfl) rfl ?_
         refine WPL.q (q_mv (v := .lit (.bool _)) rfl) rfl ?_
         refine WPL.skipg (b' := false) rfl rfl rfl rfl rfl ?_
         refine WPL.skipg (b' := false) rfl rfl rfl rfl rfl ?_
         refine WPL.skipg (b' := false) rfl rfl rfl rfl rfl ?_
         refine WPL.q (q_pickF (v := .lit (.bool _)) rfl rfl) rfl ?_
         refine WPL.q (q_mv (v := .lit (.bool _)) rfl) rfl ?_
         refine WPL.skipg (b' := false) rfl rfl rfl rfl rfl ?_
         refine WPL.skipg (b' := false) rfl rfl rfl rfl rfl ?_
         refine WPL.q (q_pickF (v := .lit (.bool _)) rfl rfl) rfl ?_
         refine WPL.q (q_mv (v := .lit (.bool _)) rfl) rfl ?_
         refine WPL.skipg (b' := false) rfl rfl rfl rfl rfl ?_
         refine WPL.skipg (b' := false) rfl rfl rfl rfl rfl ?_
         refine WPL.skipg (b' := false) rfl rfl rfl rfl rfl ?_
         refine WPL.q (q_pickF (v := .lit (.bool _)) rfl rfl) rfl ?_
         refine WPL.q (q_as (v := .lit (.bool _)) rfl) rfl ?_
         refine WPL.nilW ?_
         have q0 := (Option.some.inj H)
         subst q0
         exact W.wk [] hnp ⟨rfl, rfl, rfl⟩ ⟨rfl, trivial, by decide, rfl, trivial⟩ (LeE.upd rfl rfl (LeE.none rfl rfl)) rfl
       replace H := cnf hb7210 H
       refine WPL.skipg (b' := false) rfl rfl (lb hb7210) rfl rfl ?_
       refine WPL.skipg (b' := false) rfl rfl (lb hb7210) rfl rfl ?_
       refine WPL.q (q_pickF (v := .lit (.bool _)) (lb hb7210) rfl) rfl ?_
       refine WPL.q (q_mv (v := .lit (.bool _)) rfl) rfl ?_
       refine WPL.skipg (b' := false) rfl rfl rfl rfl rfl ?_
       refine WPL.skipg (b' := false) rfl rfl rfl rfl rfl ?_
       refine WPL.skipg (b' := false) rfl rfl rfl rfl rfl ?_
       refine WPL.q (q_pickF (v := .lit (.bool _)) rfl rfl) rfl ?_
       refine WPL.q (q_mv (v := .lit (.bool _)) rfl) rfl ?_
       refine WPL.skipg (b' := false) rfl rfl rfl rfl rfl ?_
       refine WPL.skipg (b' := false) rfl rfl rfl rfl rfl ?_
       refine WPL.q (q_pickF (v := .lit (.bool _)) rfl rfl) rfl ?_
       refine WPL.q (q_mv (v := .lit (.bool _)) rfl) rfl ?_
       refine WPL.skipg (b' := false) rfl rfl rfl rfl rfl ?_
       refine WPL.skipg (b' := false) rfl rfl rfl rfl rfl ?_
       refine WPL.q (q_pickF (v := .lit (.bool _)) rfl rfl) rfl ?_
       refine WPL.q (q_mv (v := .lit (.bool _)) rfl) rfl ?_
       refine WPL.skipg (b' := false) rfl rfl rfl rfl rfl ?_
       refine WPL.skipg (b' := false) rfl rfl rfl rfl rfl ?_
       refine WPL.q (q_pickF (v := .lit (.bool _)) rfl rfl) rfl ?_
       refine WPL.q (q_mv (v := .lit (.bool _)) rfl) rfl ?_
       refine WPL.skipg (b' := false) rfl rfl rfl rfl rfl ?_
       refine WPL.skipg (b' := false) rfl rfl rfl rfl rfl ?_
       refine WPL.skipg (b' := false) rfl rfl rfl rfl rfl ?_
       refine WPL.q (q_pickF (v := .lit (.bool _)) rfl rfl) rfl ?_
       refine WPL.q (q_mv (v := .lit (.bool _)) rfl) rfl ?_
       refine WPL.skipg (b' := false) rfl rfl rfl rfl rfl ?_
       refine WPL.skipg (b' := false) rfl rfl rfl rfl rfl ?_
       refine WPL.q (q_pickF (v := .lit (.bool _)) rfl rfl) rfl ?_
       refine WPL.q (q_mv (v := .lit (.bool _)) rfl) rfl ?_
       refine WPL.skipg (b' := false) rfl rfl rfl rfl rfl ?_
       refine WPL.skipg (b' := false) rfl rfl rfl rfl rfl ?_
       refine WPL.skipg (b' := false) rfl rfl rfl rfl rfl ?_
       refine WPL.q (q_pickF (v := .lit (.bool _)) rfl rfl) rfl ?_
       refine WPL.q (q_as (v := .lit (.bool _)) rfl) rfl ?_
       refine WPL.nilW ?_
       have q0 := (Option.some.inj H)
       subst q0
       exact W.wk [] hnp ⟨rfl, rfl, rfl⟩ ⟨rfl, trivial, by decide, rfl, trivial⟩ (LeE.upd rfl rfl (LeE.none rfl rfl)) rfl
     replace H := cnf hb7208 H
     refine WPL.skipg (b' := false) rfl rfl (lb hb7208) rfl rfl ?_
     refine WPL.skipg (b' := false) rfl rfl (lb hb7208) rfl rfl ?_
     refine WPL.skipg (b' := false) rfl rfl (lb hb7208) rfl rfl ?_
     refine WPL.q (q_pickF (v := .lit (.bool _)) (lb hb7208) rfl) rfl ?_
     refine WPL.q (q_mv (v := .lit (.bool _)) rfl) rfl ?_
     refine WPL.skipg (b' := false) rfl rfl rfl rfl rfl ?_
     refine WPL.skipg (b' := false) rfl rfl rfl rfl rfl ?_
     refine WPL.q (q_pickF (v := .lit (.bool _)) rfl rfl) rfl ?_
     refine WPL.q (q_mv (v := .lit (.bool _)) rfl) rfl ?_
     refine WPL.skipg (b' := false) rfl rfl rfl rfl rfl ?_
     refine WPL.skipg (b' := false) rfl rfl rfl rfl rfl ?_
     refine WPL.skipg (b' := false) rfl rfl rfl rfl rfl ?_
     refine WPL.q (q_pickF (v := .lit (.bool _)) rfl rfl) rfl ?_
     refine WPL.q (q_mv (v := .lit (.bool _)) rfl) rfl ?_
     refine WPL.skipg (b' := false) rfl rfl rfl rfl rfl ?_
     refine WPL.skipg (b' := false) rfl rfl rfl rfl rfl ?_
     refine WPL.q (q_pickF (v := .lit (.bool _)) rfl rfl) rfl ?_
     refine WPL.q (q_mv (v := .lit (.bool _)) rfl) rfl ?_
     refine WPL.skipg (b' := false) rfl rfl rfl rfl rfl ?_
     refine WPL.skipg (b' := false) rfl rfl rfl rfl rfl ?_
     refine WPL.q (q_pickF (v := .lit (.bool _)) rfl rfl) rfl ?_
     refine WPL.q (q_mv (v := .lit (.bool _)) rfl) rfl ?_
     refine WPL.skipg (b' := false) rfl rfl rfl rfl rfl ?_
     refine WPL.skipg (b' := false) rfl rfl rfl rfl rfl ?_
     refine WPL.q (q_pickF (v := .lit (.bool _)) rfl rfl) rfl ?_
     refine WPL.q (q_mv (v := .lit (.bool _)) rfl) rfl ?_
     refine WPL.skipg (b' := false) rfl rfl rfl rfl rfl ?_
     refine WPL.skipg (b' := false) rfl rfl rfl rfl rfl ?_
     refine WPL.skipg (b' := false) rfl rfl rfl rfl rfl ?_
     refine WPL.q (q_pickF (v := .lit (.bool _)) rfl rfl) rfl ?_
     refine WPL.q (q_mv (v := .lit (.bool _)) rfl) rfl ?_
     refine WPL.skipg (b' := false) rfl rfl rfl rfl rfl ?_
     refine WPL.skipg (b' := false) rfl rfl rfl rfl rfl ?_
     refine WPL.q (q_pickF (v := .lit (.bool _)) rfl rfl) rfl ?_
     refine WPL.q (q_mv (v := .lit (.bool _)) rfl) rfl ?_
     refine WPL.skipg (b' := false) rfl rfl rfl rfl rfl ?_
     refine WPL.skipg (b' := false) rfl rfl rfl rfl rfl ?_
     refine WPL.skipg (b' := false) rfl rfl rfl rfl rfl ?_
     refine WPL.q (q_pickF (v := .lit (.bool _)) rfl rfl) rfl ?_
     refine WPL.q (q_as (v := .lit (.bool _)) rfl) rfl ?_
     refine WPL.nilW ?_
     have q0 := (Option.some.inj H)
     subst q0
     exact W.wk [] hnp ⟨rfl, rfl, rfl⟩ ⟨rfl, trivial, by decide, rfl, trivial⟩ (LeE.upd rfl rfl (LeE.none rfl rfl)) rfl
   replace H := cnf hb7207 H
   refine WPL.skipg (b' := false) rfl rfl (lb hb7207) rfl rfl ?_
   refine WPL.skipg (b' := false) rfl rfl (lb hb7207) rfl rfl ?_
   refine WPL.q (q_pickF (v := .lit (.bool _)) (lb hb7207) rfl) rfl ?_
   refine WPL.q (q_mv (v := .lit (.bool _)) rfl) rfl ?_
   refine WPL.skipg (b' := false) rfl rfl rfl rfl rfl ?_
   refine WPL.skipg (b' := false) rfl rfl rfl rfl rfl ?_
   refine WPL.skipg (b' := false) rfl rfl rfl rfl rfl ?_
   refine WPL.q (q_pickF (v := .lit (.bool _)) rfl rfl) rfl ?_
   refine WPL.q (q_mv (v := .lit (.bool _)) rfl) rfl ?_
   refine WPL.skipg (b' := false) rfl rfl rfl rfl rfl ?_
   refine WPL.skipg (b' := false) rfl rfl rfl rfl rfl ?_
   refine WPL.q (q_pickF (v := .lit (.bool _)) rfl rfl) rfl ?_
   refine WPL.q (q_mv (v := .lit (.bool _)) rfl) rfl ?_
   refine WPL.skipg (b' := false) rfl rfl rfl rfl rfl ?_
   refine WPL.skipg (b' := false) rfl rfl rfl rfl rfl ?_
   refine WPL.skipg (b' := false) rfl rfl rfl rfl rfl ?_
   refine WPL.q (q_pickF (v := .lit (.bool _)) rfl rfl) rfl ?_
   refine WPL.q (q_mv (v := .lit (.bool _)) rfl) rfl ?_
   refine WPL.skipg (b' := false) rfl rfl rfl rfl rfl ?_
   refine WPL.skipg (b' := false) rfl rfl rfl rfl rfl ?_
   refine WPL.q (q_pickF (v := .lit (.bool _)) rfl rfl) rfl ?_
   refine WPL.q (q_mv (v := .lit (.bool _)) rfl) rfl ?_
   refine WPL.skipg (b' := false) rfl rfl rfl rfl rfl ?_
   refine WPL.skipg (b' := false) rfl rfl rfl rfl rfl ?_
   refine WPL.q (q_pickF (v := .lit (.bool _)) rfl rfl) rfl ?_
   refine WPL.q (q_mv (v := .lit (.bool _)) rfl) rfl ?_
   refine WPL.skipg (b' := false) rfl rfl rfl rfl rfl ?_
   refine WPL.skipg (b' := false) rfl rfl rfl rfl rfl ?_
   refine WPL.q (q_pickF (v := .lit (.bool _)) rfl rfl) rfl ?_
   refine WPL.q (q_mv (v := .lit (.bool _)) rfl) rfl ?_
   refine WPL.skipg (b' := false) rfl rfl rfl rfl rfl ?_
   refine WPL.skipg (b' := false) rfl rfl rfl rfl rfl ?_
   refine WPL.skipg (b' := false) rfl rfl rfl rfl rfl ?_
   refine WPL.q (q_pickF (v := .lit (.bool _)) rfl rfl) rfl ?_
   refine WPL.q (q_mv (v := .lit (.bool _)) rfl) rfl ?_
   refine WPL.skipg (b' := false) rfl rfl rfl rfl rfl ?_
   refine WPL.skipg (b' := false) rfl rfl rfl rfl rfl ?_
   refine WPL.q (q_pickF (v := .lit (.bool _)) rfl rfl) rfl ?_
   refine WPL.q (q_mv (v := .lit (.bool _)) rfl) rfl ?_
   refine WPL.skipg (b' := false) rfl rfl rfl rfl rfl ?_
   refine WPL.skipg (b' := false) rfl rfl rfl rfl rfl ?_
   refine WPL.skipg (b' := false) rfl rfl rfl rfl rfl ?_
   refine WPL.q (q_pickF (v := .lit (.bool _)) rfl rfl) rfl ?_
   refine WPL.q (q_as (v := .lit (.bool _)) rfl) rfl ?_
   refine WPL.nilW ?_
   have q0 := (Option.some.inj H)
   subst q0
   exact W.wk [] hnp ⟨rfl, rfl, rfl⟩ ⟨rfl, trivial, by decide, rfl, trivial⟩ (LeE.upd rfl rfl (LeE.none rfl rfl)) rfl
 rintro _ _ _ ⟨rfl, rfl, rfl⟩
 refine W.now ?_
 refine Then.n ?_
 refine WP.retW ?_
 have q0 := (Option.some.inj H)
 subst q0
 exact W.now (BodyR.mkR trivial rfl [] ⟨rfl, rfl⟩ ⟨rfl, trivial, by decide, rfl, trivial⟩ rfl rfl)
end Go.Proofs.YtdbeblgfccjbgaaDoor.W
namespace Go.Proofs.YtdbeblgfccjbgaaDoor.W
open Go Go.Q Go.Proofs
set_option linter.unusedVariables false
set_option linter.unusedSimpArgs false
set_option maxRecDepth 100000 in
set_option maxHeartbeats 4000000 in
theorem s_quirelaw09_DecBack (k : Nat) (x7320 : Int) (x7321 : Int) (x7488 : Bool) (H : g_quirelaw09_DecBack k x7320 x7321 = some x7488) : Go.Q.Spec Tryd.prog 4 0 [.agg [.lit (.int .i64 x7320), .lit (.int .i64 x7321)]] Mem.nil (fun o M => o = .ret (.lit (.bool x7488)) ∧ M = Mem.nil) := by
 unfold g_quirelaw09_DecBack at H
 refine Go.Q.Spec.of_bodyR (az := []) (rs := [.tmp 2]) (nt := 90) Tryd.func4 rfl rfl (by intro t T h; simp at h) rfl rfl fun cx hnp => ?_
 refine WP.seq ?_
 refine WP.region ?_
 refine WPL.d (d_box rfl rfl) rfl ?_
 refine WPL.q (q_as (v := .lit (.bool _)) rfl) rfl ?_
 refine WPL.nilW ?_
 refine W.now ?_
 refine Then.n ?_
 refine WP.seq ?_
 refine WP.region ?_
 refine WPL.q (q_load_ag ag23 rfl rfl (Nat.le_of_ble_eq_true rfl)) rfl ?_
 obtain ⟨x7490, h7488, H⟩ := bnd H
 refine WPL.c (runs_call (s := []) (t := []) (N := 1) (bor := []) fn7 rfl (s_dec_Print k x7320 x7321 x7490 h7488) ⟨rfl, trivial, by decide, rfl, trivial⟩ rfl trivial (.ren rfl rfl .nil) rfl trivial rfl) rfl ?_
 refine WPL.q (q_as (v := .lit (.string _)) rfl) rfl ?_
 refine WPL.nilW ?_
 refine W.now ?_
 refine Then.n ?_
 refine WP.seq ?_
 refine WP.region ?_
 refine WPL.q (q_fieldAddr fi23_0 rfl rfl) rfl ?_
 refine WPL.q (q_load sc2 rfl rfl rfl) rfl ?_
 refine WPL.q (q_fieldAddr fi23_1 rfl rfl) rfl ?_
 refine WPL.q (q_load sc3 rfl rfl rfl) rfl ?_
 obtain ⟨⟨x7492, x7493, x7494⟩, h7490, H⟩ := bnd H
 refine WPL.c (runs_call (s := []) (t := [1]) (N := 2) (bor := []) fn10 rfl (s_dec_Make k x7320 x7321 x7492 x7493 x7494 h7490) ⟨rfl, trivial, by decide, rfl, trivial⟩ rfl trivial (.ren rfl rfl (.ren rfl rfl .nil)) rfl ⟨trivial, rfl⟩ rfl) rfl ?_
 refine WPL.q (q_mv (v := .tup _) rfl) rfl ?_
 refine WPL.q (q_extract rfl rfl) rfl ?_
 refine WPL.q (q_extract rfl rfl) rfl ?_
 refine WPL.d (d_alloc ze23 rfl) rfl ?_
 refine WPL.s (s_store sz23 rfl rfl rfl rfl rfl) ?_
 refine WPL.q (q_as (v := .lit (.int _ _)) rfl) rfl ?_
 refine WPL.nilW ?_
 refine W.now ?_
 refine Then.n ?_
 refine WP.seq ?_
 refine WP.seq ?_
 obtain ⟨x7511, H7512, H⟩ := bnd H
 refine WP.monoW (Q := fun x E M => x = .normal ∧ E = ((((Env.none.upd 3 (.lit (.string x7490))).upd 4 (.ptr 0 0)).upd 5 (.lit (.int .i64 x7492))).upd 26 (.lit (.bool x7511))) ∧ M = (Mem.nil.push (.cells 23 [.lit (.int .i64 x7493), .lit (.int .i64 x7494)]))) ?_ ?_
 · clear H
   have H := H7512
   clear H7512
   refine WP.region ?_
   refine WPL.q (q_fieldAddr fi23_1 rfl rfl) rfl ?_
   refine WPL.q (q_load sc3 rfl rfl rfl) rfl ?_
   refine WPL.q (q_lss rfl rfl) rfl ?_
   refine WPL.q (q_mv (v := .lit (.bool _)) rfl) rfl ?_
   refine WPL.split (t := 22) (b := (decide (x7321 < (-18)))) rfl (fun hb7511 => ?_) (fun hb7511 => ?_)
   · replace H := cnt hb7511 H
     refine WPL.skipg (b' := true) rfl rfl (lb hb7511) rfl rfl ?_
     refine WPL.skipg (b' := true) rfl rfl (lb hb7511) rfl rfl ?_
     refine WPL.skipg (b' := true) rfl rfl (lb hb7511) rfl rfl ?_
     refine WPL.q (q_pickT (v := .lit (.bool _)) (lb hb7511) rfl) rfl ?_
     refine WPL.nilW ?_
     have q0 := (Option.some.inj H)
     subst q0
     exact W.wk [2] hnp ⟨rfl, rfl, rfl⟩ ⟨rfl, ⟨trivial, .inr ⟨rfl, rfl, rfl⟩⟩, by decide, rfl, trivial⟩ (LeE.upd rfl rfl (LeE.upd rfl rfl (LeE.upd rfl rfl (LeE.upd rfl rfl (LeE.none rfl rfl))))) rfl
   replace H := cnf hb7511 H
   refine WPL.qg rfl rfl (lb hb7511) (q_fieldAddr fi23_1 rfl rfl) rfl ?_
   refine WPL.qg rfl rfl (lb hb7511) (q_load sc3 rfl rfl rfl) rfl ?_
   refine WPL.qg rfl rfl (lb hb7511) (q_gtr rfl rfl) rfl ?_
   refine WPL.q (q_pickF (v := .lit (.bool _)) (lb hb7511) rfl) rfl ?_
   refine WPL.nilW ?_
   have q0 := (Option.some.inj H)
   subst q0
   exact W.wk [2] hnp ⟨rfl, rfl, rfl⟩ ⟨rfl, ⟨trivial, .inr ⟨rfl, rfl, rfl⟩⟩, by decide, rfl, trivial⟩ (LeE.upd rfl rfl (LeE.upd rfl rfl (LeE.upd rfl rfl (LeE.upd rfl rfl (LeE.none rfl rfl))))) rfl
 rintro _ _ _ ⟨rfl, rfl, rfl⟩
 refine W.now ?_
 refine Then.n ?_
 refine WP.cond (t := x7511) rfl (fun hb7513 => ?_) (fun hb7513 => ?_)
 · replace H := cnt hb7513 H
   refine WP.seq ?_
   obtain ⟨x7519, H7523, H⟩ := bnd H
   refine WP.monoW (Q := fun x E M => x = .normal ∧ E = (Env.none.upd 2 (.lit (.bool x7519))) ∧ M = Mem.nil) ?_ ?_
   · clear H
     have H := H7523
     clear H7523
     refine WP.region ?_
     refine WPL.q (q_mv (v := .lit (.string _)) rfl) rfl ?_
     obtain ⟨x7520, h7520, H⟩ := bnd H
     refine WPL.q (q_nm (q_eqls rfl rfl) (nm_bool h7520)) rfl ?_
     refine WPL.q (q_mv (v := .lit (.bool _)) rfl) rfl ?_
     refine WPL.split (t := 29) (b := x7520) rfl (fun hb7520 => ?_) (fun hb7520 => ?_)
     · replace H := cnt hb7520 H
       obtain ⟨x7523, h7521, H⟩ := bnd H
       refine WPL.cg rfl rfl (lb hb7520) (runs_call (s := []) (t := []) (N := 1) (bor := []) fn9 rfl (s_quirelaw09_alive k x7523 h7521) ⟨rfl, trivial, by decide, rfl, trivial⟩ rfl trivial .nil rfl trivial rfl) rfl ?_
       refine WPL.q (q_pickT (v := .lit (.bool _)) (lb hb7520) rfl) rfl ?_
       refine WPL.q (q_as (v := .lit (.bool _)) rfl) rfl ?_
       refine WPL.nilW ?_
       have q0 := (Option.some.inj H)
       subst q0
       exact W.wk [] hnp ⟨rfl, rfl, rfl⟩ ⟨rfl, trivial, by decide, rfl, trivial⟩ (LeE.upd rfl rfl (LeE.none rfl rfl)) rfl
     replace H := cnf hb7520 H
     refine WPL.skipg (b' := false) rfl rfl (lb hb7520) rfl rfl ?_
     refine WPL.q (q_pickF (v := .lit (.bool _)) (lb hb7520) rfl) rfl ?_
     refine WPL.q (q_as (v := .lit (.bool _)) rfl) rfl ?_
     refine WPL.nilW ?_
     have q0 := (Option.some.inj H)
     subst q0
     exact W.wk [] hnp ⟨rfl, rfl, rfl⟩ ⟨rfl, trivial, by decide, rfl, trivial⟩ (LeE.upd rfl rfl (LeE.none rfl rfl)) rfl
   rintro _ _ _ ⟨rfl, rfl, rfl⟩
   refine W.now ?_
   refine Then.n ?_
   refine WP.retW ?_
   have q0 := (Option.some.inj H)
   subst q0
   exact W.now (Then.r (BodyR.mkR trivial rfl [] ⟨rfl, rfl⟩ ⟨rfl, trivial, by decide, rfl, trivial⟩ rfl rfl))
 replace H := cnf hb7513 H
 refine WP.skipW ?_
 refine W.now ?_
 refine Then.n ?_
 refine WP.seq ?_
 refine WP.region ?_
 refine WPL.q (q_mv (v := .lit (.string _)) rfl) rfl ?_
 obtain ⟨⟨x7526, x7527, x7528⟩, h7524, H⟩ := bnd H
 refine WPL.c (runs_call (s := []) (t := [1]) (N := 2) (bor := []) fn5 rfl (s_dec_Parse k x7490 x7526 x7527 x7528 h7524) ⟨rfl, trivial, by decide, rfl, trivial⟩ rfl trivial (.ren rfl rfl .nil) rfl ⟨trivial, rfl⟩ rfl) rfl ?_
 refine WPL.q (q_mv (v := .tup _) rfl) rfl ?_
 refine WPL.q (q_extract rfl rfl) rfl ?_
 refine WPL.q (q_extract rfl rfl) rfl ?_
 refine WPL.d (d_alloc ze23 rfl) rfl ?_
 refine WPL.s (s_store sz23 rfl rfl rfl rfl rfl) ?_
 refine WPL.q (q_as (v := .lit (.int _ _)) rfl) rfl ?_
 refine WPL.nilW ?_
 refine W.now ?_
 refine Then.n ?_
 refine WP.seq ?_
 refine WP.seq ?_
 obtain ⟨x7562, H7572, H⟩ := bnd H
 refine WP.monoW (Q := fun x E M => x = .normal ∧ E = ((Env.none.upd 3 (.lit (.string x7490))).upd 61 (.lit (.bool x7562))) ∧ M = Mem.nil) ?_ ?_
 · clear H
   have H := H7572
   clear H7572
   refine WP.region ?_
   refine WPL.q (q_mv (v := .lit (.int _ _)) rfl) rfl ?_
   refine WPL.q (q_neq rfl rfl) rfl ?_
   refine WPL.q (q_mv (v := .lit (.bool _)) rfl) rfl ?_
   refine WPL.split (t := 39) (b := (!decide (x7492 = 0))) rfl (fun hb7562 => ?_) (fun hb7562 => ?_)
   · replace H := cnt hb7562 H
     refine WPL.skipg (b' := true) rfl rfl (lb hb7562) rfl rfl ?_
     refine WPL.skipg (b' := true) rfl rfl (lb hb7562) rfl rfl ?_
     refine WPL.q (q_pickT (v := .lit (.bool _)) (lb hb7562) rfl) rfl ?_
     refine WPL.q (q_mv (v := .lit (.bool _)) rfl) rfl ?_
     refine WPL.skipg (b' := true) rfl rfl rfl rfl rfl ?_
     refine WPL.skipg (b' := true) rfl rfl rfl rfl rfl ?_
     refine WPL.skipg (b' := true) rfl rfl rfl rfl rfl ?_
     refine WPL.q (q_pickT (v := .lit (.bool _)) rfl rfl) rfl ?_
     refine WPL.q (q_mv (v := .lit (.bool _)) rfl) rfl ?_
     refine WPL.skipg (b' := true) rfl rfl rfl rfl rfl ?_
     refine WPL.skipg (b' := true) rfl rfl rfl rfl rfl ?_
     refine WPL.skipg (b' := true) rfl rfl rfl rfl rfl ?_
     refine WPL.q (q_pickT (v := .lit (.bool _)) rfl rfl) rfl ?_
     refine WPL.q (q_mv (v := .lit (.bool _)) rfl) rfl ?_
     refine WPL.skipg (b' := true) rfl rfl rfl rfl rfl ?_
     refine WPL.skipg (b' := true) rfl rfl rfl rfl rfl ?_
     refine WPL.skipg (b' := true) rfl rfl rfl rfl rfl ?_
     refine WPL.q (q_pickT (v := .lit (.bool _)) rfl rfl) rfl ?_
     refine WPL.q (q_mv (v := .lit (.bool _)) rfl) rfl ?_
     refine WPL.skipg (b' := true) rfl rfl rfl rfl rfl ?_
     refine WPL.skipg (b' := true) rfl rfl rfl rfl rfl ?_
     refine WPL.q (q_pickT (v := .lit (.bool _)) rfl rfl) rfl ?_
     refine WPL.nilW ?_
     have q0 := (Option.some.inj H)
     subst q0
     exact W.wk [] hnp ⟨rfl, rfl, rfl⟩ ⟨rfl, trivial, by decide, rfl, trivial⟩ (LeE.upd rfl rfl (LeE.upd rfl rfl (LeE.none rfl rfl))) rfl
   replace H := cnf hb7562 H
   refine WPL.qg rfl rfl (lb hb7562) (q_mv (v := .lit (.int _ _)) rfl) rfl ?_
   refine WPL.qg rfl rfl (lb hb7562) (q_neq rfl rfl) rfl ?_
   refine WPL.q (q_pickF (v := .lit (.bool _)) (lb hb7562) rfl) rfl ?_
   refine WPL.q (q_mv (v := .lit (.bool _)) rfl) rfl ?_
   refine WPL.split (t := 43) (b := (!decide (x7526 = 0))) rfl (fun hb7563 => ?_) (fun hb7563 => ?_)
   · replace H := cnt hb7563 H
     refine WPL.skipg (b' := true) rfl rfl (lb hb7563) rfl rfl ?_
     refine WPL.skipg (b' := true) rfl rfl (lb hb7563) rfl rfl ?_
     refine WPL.skipg (b' := true) rfl rfl (lb hb7563) rfl rfl ?_
     refine WPL.q (q_pickT (v := .lit (.bool _)) (lb hb7563) rfl) rfl ?_
     refine WPL.q (q_mv (v := .lit (.bool _)) rfl) rfl ?_
     refine WPL.skipg (b' := true) rfl rfl rfl rfl rfl ?_
     refine WPL.skipg (b' := true) rfl rfl rfl rfl rfl ?_
     refine WPL.skipg (b' := true) rfl rfl rfl rfl rfl ?_
     refine WPL.q (q_pickT (v := .lit (.bool _)) rfl rfl) rfl ?_
     refine WPL.q (q_mv (v := .lit (.bool _)) rfl) rfl ?_
     refine WPL.skipg (b' := true) rfl rfl rfl rfl rfl ?_
     refine WPL.skipg (b' := true) rfl rfl rfl rfl rfl ?_
     refine WPL.skipg (b' := true) rfl rfl rfl rfl rfl ?_
     refine WPL.q (q_pickT (v := .lit (.bool _)) rfl rfl) rfl ?_
     refine WPL.q (q_mv (v := .lit (.bool _)) rfl) rfl ?_
     refine WPL.skipg (b' := true) rfl rfl rfl rfl rfl ?_
     refine WPL.skipg (b' := true) rfl rfl rfl rfl rfl ?_
     refine WPL.q (q_pickT (v := .lit (.bool _)) rfl rfl) rfl ?_
     refine WPL.nilW ?_
     have q0 := (Option.some.inj H)
     subst q0
     exact W.wk [] hnp ⟨rfl, rfl, rfl⟩ ⟨rfl, trivial, by decide, rfl, trivial⟩ (LeE.upd rfl rfl (LeE.upd rfl rfl (LeE.none rfl rfl))) rfl
   replace H := cnf hb7563 H
   refine WPL.qg rfl rfl (lb hb7563) (q_load_ag ag23 rfl rfl (Nat.le_of_ble_eq_true rfl)) rfl ?_
   refine WPL.qg rfl rfl (lb hb7563) (q_load_ag ag23 rfl rfl (Nat.le_of_ble_eq_true rfl)) rfl ?_
   obtain ⟨x7565, h7565, H⟩ := bnd H
   refine WPL.qg rfl rfl (lb hb7563) (q_nm (q_neqAg (xs := [(.int .i64 x7493), (.int .i64 x7494)]) (ys := [(.int .i64 x7527), (.int .i64 x7528)]) (n := 9) rfl eg23 rfl rfl eq23) (nm_bool h7565)) rfl ?_
   refine WPL.q (q_pickF (v := .lit (.bool _)) (lb hb7563) rfl) rfl ?_
   refine WPL.q (q_mv (v := .lit (.bool _)) rfl) rfl ?_
   refine WPL.split (t := 48) (b := x7565) rfl (fun hb7565 => ?_) (fun hb7565 => ?_)
   · replace H := cnt hb7565 H
     refine WPL.skipg (b' := true) rfl rfl (lb hb7565) rfl rfl ?_
     refine WPL.skipg (b' := true) rfl rfl (lb hb7565) rfl rfl ?_
     refine WPL.skipg (b' := true) rfl rfl (lb hb7565) rfl rfl ?_
     refine WPL.q (q_pickT (v := .lit (.bool _)) (lb hb7565) rfl) rfl ?_
     refine WPL.q (q_mv (v := .lit (.bool _)) rfl) rfl ?_
     refine WPL.skipg (b' := true) rfl rfl rfl rfl rfl ?_
     refine WPL.skipg (b' := true) rfl rfl rfl rfl rfl ?_
     refine WPL.skipg (b' := true) rfl rfl rfl rfl rfl ?_
     refine WPL.q (q_pickT (v := .lit (.bool _)) rfl rfl) rfl ?_
     refine WPL.q (q_mv (v := .lit (.bool _)) rfl) rfl ?_
     refine WPL.skipg (b' := true) rfl rfl rfl rfl rfl ?_
     refine WPL.skipg (b' := true) rfl rfl rfl rfl rfl ?_
     refine WPL.q (q_pickT (v := .lit (.bool _)) rfl rfl) rfl ?_
     refine WPL.nilW ?_
     have q0 := (Option.some.inj H)
     subst q0
     exact W.wk [] hnp ⟨rfl, rfl, rfl⟩ ⟨rfl, trivial, by decide, rfl, trivial⟩ (LeE.upd rfl rfl (LeE.upd rfl rfl (LeE.none rfl rfl))) rfl
   replace H := cnf hb7565 H
   refine WPL.qg rfl rfl (lb hb7565) (q_mv (v := .lit (.string _)) rfl) rfl ?_
   refine WPL.qg rfl rfl (lb hb7565) (q_len_str Tryd.underlying9 rfl) rfl ?_
   obtain ⟨x7567, h7567, H⟩ := bnd H
   refine WPL.qg rfl rfl (lb hb7565) (q_nm (q_eql rfl rfl) (nm_bool h7567)) rfl ?_
   refine WPL.q (q_pickF (v := .lit (.bool _)) (lb hb7565) rfl) rfl ?_
   refine WPL.q (q_mv (v := .lit (.bool _)) rfl) rfl ?_
   refine WPL.split (t := 53) (b := x7567) rfl (fun hb7567 => ?_) (fun hb7567 => ?_)
   · replace H := cnt hb7567 H
     refine WPL.skipg (b' := true) rfl rfl (lb hb7567) rfl rfl ?_
     refine WPL.skipg (b' := true) rfl rfl (lb hb7567) rfl rfl ?_
     refine WPL.skipg (b' := true) rfl rfl (lb hb7567) rfl rfl ?_
     refine WPL.q (q_pickT (v := .lit (.bool _)) (lb hb7567) rfl) rfl ?_
     refine WPL.q (q_mv (v := .lit (.bool _)) rfl) rfl ?_
     refine WPL.skipg (b' := true) rfl rfl rfl rfl rfl ?_
     refine WPL.skipg (b' := true) rfl rfl rfl rfl rfl ?_
     refine WPL.q (q_pickT (v := .lit (.bool _)) rfl rfl) rfl ?_
     refine WPL.nilW ?_
     have q0 := (Option.some.inj H)
     subst q0
     exact W.wk [] hnp ⟨rfl, rfl, rfl⟩ ⟨rfl, trivial, by decide, rfl, trivial⟩ (LeE.upd rfl rfl (LeE.upd rfl rfl (LeE.none rfl rfl))) rfl
   replace H := cnf hb7567 H
   refine WPL.qg rfl rfl (lb hb7567) (q_mv (v := .lit (.string _)) rfl) rfl ?_
   refine WPL.qg rfl rfl (lb hb7567) (q_len_str Tryd.underlying9 rfl) rfl ?_
   obtain ⟨x7569, h7569, H⟩ := bnd H
   refine WPL.qg rfl rfl (lb hb7567) (q_nm (q_gtr rfl rfl) (nm_bool h7569)) rfl ?_
   refine WPL.q (q_pickF (v := .lit (.bool _)) (lb hb7567) rfl) rfl ?_
   refine WPL.q (q_mv (v := .lit (.bool _)) rfl) rfl ?_
   refine WPL.split (t := 58) (b := x7569) rfl (fun hb7569 => ?_) (fun hb7569 => ?_)
   · replace H := cnt hb7569 H
     refine WPL.skipg (b' := true) rfl rfl (lb hb7569) rfl rfl ?_
     refine WPL.skipg (b' := true) rfl rfl (lb hb7569) rfl rfl ?_
     refine WPL.q (q_pickT (v := .lit (.bool _)) (lb hb7569) rfl) rfl ?_
     refine WPL.nilW ?_
     have q0 := (Option.some.inj H)
     subst q0
     exact W.wk [] hnp ⟨rfl, rfl, rfl⟩ ⟨rfl, trivial, by decide, rfl, trivial⟩ (LeE.upd rfl rfl (LeE.upd rfl rfl (LeE.none rfl rfl))) rfl
   replace H := cnf hb7569 H
   obtain ⟨x7572, h7570, H⟩ := bnd H
   refine WPL.cg rfl rfl (lb hb7569) (runs_call (s := []) (t := []) (N := 3) (bor := []) fn9 rfl (s_quirelaw09_alive k x7572 h7570) ⟨rfl, trivial, by decide, rfl, trivial⟩ rfl trivial .nil rfl trivial rfl) rfl ?_
   refine WPL.qg rfl rfl (lb hb7569) (q_not rfl) rfl ?_
   refine WPL.q (q_pickF (v := .lit (.bool _)) (lb hb7569) rfl) rfl ?_
   refine WPL.nilW ?_
   have q0 := (Option.some.inj H)
   subst q0
   exact W.wk [] hnp ⟨rfl, rfl, rfl⟩ ⟨rfl, trivial, by decide, rfl, trivial⟩ (LeE.upd rfl rfl (LeE.upd rfl rfl (LeE.none rfl rfl))) rfl
 rintro _ _ _ ⟨rfl, rfl, rfl⟩
 refine W.now ?_
 refine Then.n ?_
 refine WP.cond (t := x7562) rfl (fun hb7573 => ?_) (fun hb7573 => ?_)
 · replace H := cnt hb7573 H
   refine WP.seq ?_
   refine WP.region ?_
   refine WPL.q (q_as (v := .lit (.bool _)) rfl) rfl ?_
   refine WPL.nilW ?_
   refine W.now ?_
   refine Then.n ?_
   refine WP.retW ?_
   have q0 := (Option.some.inj H)
   subst q0
   exact W.now (Then.r (BodyR.mkR trivial rfl [] ⟨rfl, rfl⟩ ⟨rfl, trivial, by decide, rfl, trivial⟩ rfl rfl))
 replace H := cnf hb7573 H
 refine WP.skipW ?_
 refine W.now ?_
 refine Then.n ?_
 refine WP.seq ?_
 refine WP.seq ?_
 refine WP.region ?_
 refine WPL.q (q_as (v := .lit (.int _ _)) rfl) rfl ?_
 refine WPL.nilW ?_
 refine W.now ?_
 refine Then.n ?_
 refine WP.block ?_
 refine WP.cv (Cv.weak (E' := ((Env.none.upd 3 (.lit (.string x7490))).upd 8 (.lit (.int .i64 0)))) (M' := Mem.nil) [] hnp ⟨rfl, trivial, by decide, rfl, trivial⟩ (LeE.upd rfl rfl (LeE.upd rfl rfl (LeE.none rfl rfl)))) ?_
 obtain ⟨y7691, H7689, H⟩ := bnd H
 refine WP.monoW (Q := fun x E M => match (generalizing := false) y7691 with | (Sum.inl _) => x = .ret ∧ E = (Env.none.upd 2 (.lit (.bool false))) ∧ M = Mem.nil | (Sum.inr _) => x = .exit 0 ∧ E = Env.none ∧ M = Mem.nil) ?_ ?_
 · refine WP.loop (β := Int) (fun n b => g_quirelaw09_DecBack_l0 k x7490 n b = some y7691) (fun b => ((Env.none.upd 3 (.lit (.string x7490))).upd 8 (.lit (.int .i64 b)))) (fun b => Mem.nil) k 0 H7689 rfl rfl ?_
   rintro n x7613 H
   obtain _ | n := n
   · exact nf rfl H
   rw [g_quirelaw09_DecBack_l0.eq_2] at H
   show WP _ _ _ _ ((Env.none.upd 3 (.lit (.string x7490))).upd 8 (.lit (.int .i64 x7613))) Mem.nil _
   refine WP.seq ?_
   refine WP.seq ?_
   refine WP.region ?_
   refine WPL.q (q_mv (v := .lit (.int _ _)) rfl) rfl ?_
   refine WPL.q (q_mv (v := .lit (.string _)) rfl) rfl ?_
   refine WPL.q (q_len_str Tryd.underlying9 rfl) rfl ?_
   obtain ⟨x7654, h7654, H⟩ := bnd H
   refine WPL.q (q_nm (q_lss rfl rfl) (nm_bool h7654)) rfl ?_
   refine WPL.nilW ?_
   refine W.now ?_
   refine Then.n ?_
   refine WP.cond (t := x7654) rfl (fun hb7654 => ?_) (fun hb7654 => ?_)
   · replace H := cnt hb7654 H
     refine WP.skipW ?_
     refine W.now ?_
     refine Then.n ?_
     refine WP.seq ?_
     refine WP.block ?_
     refine WP.seq ?_
     obtain ⟨x7680, H7687, H⟩ := bnd H
     refine WP.monoW (Q := fun x E M => x = .normal ∧ E = (((Env.none.upd 3 (.lit (.string x7490))).upd 8 (.lit (.int .i64 x7613))).upd 89 (.lit (.bool x7680))) ∧ M = Mem.nil) ?_ ?_
     · clear H
       have H := H7687
       clear H7687
       refine WP.region ?_
       refine WPL.q (q_mv (v := .lit (.string _)) rfl) rfl ?_
       refine WPL.q (q_mv (v := .lit (.int _ _)) rfl) rfl ?_
       obtain ⟨x7681, h7681, H⟩ := bnd H
       refine WPL.q (q_index_str Tryd.underlying9 rfl rfl h7681) rfl ?_
       refine WPL.q (q_neq rfl rfl) rfl ?_
       refine WPL.q (q_mv (v := .lit (.bool _)) rfl) rfl ?_
       refine WPL.split (t := 72) (b := (!decide (x7681 = 45))) rfl (fun hb7681 => ?_) (fun hb7681 => ?_)
       · replace H := cnt hb7681 H
         refine WPL.qg rfl rfl (lb hb7681) (q_mv (v := .lit (.string _)) rfl) rfl ?_
         refine WPL.qg rfl rfl (lb hb7681) (q_mv (v := .lit (.int _ _)) rfl) rfl ?_
         obtain ⟨x7683, h7683, H⟩ := bnd H
         refine WPL.qg rfl rfl (lb hb7681) (q_index_str Tryd.underlying9 rfl rfl h7683) rfl ?_
         refine WPL.qg rfl rfl (lb hb7681) (q_neq rfl rfl) rfl ?_
         refine WPL.q (q_pickT (v := .lit (.bool _)) (lb hb7681) rfl) rfl ?_
         refine WPL.q (q_mv (v := .lit (.bool _)) rfl) rfl ?_
         refine WPL.split (t := 78) (b := (!decide (x7683 = 46))) rfl (fun hb7683 => ?_) (fun hb7683 => ?_)
         · replace H := cnt hb7683 H
           refine WPL.qg rfl rfl (lb hb7683) (q_mv (v := .lit (.string _)) rfl) rfl ?_
           refine WPL.qg rfl rfl (lb hb7683) (q_mv (v := .lit (.int _ _)) rfl) rfl ?_
           obtain ⟨x7685, h7685, H⟩ := bnd H
           refine WPL.qg rfl rfl (lb hb7683) (q_index_str Tryd.underlying9 rfl rfl h7685) rfl ?_
           refine WPL.qg rfl rfl (lb hb7683) (q_lss rfl rfl) rfl ?_
           refine WPL.qg rfl rfl (lb hb7683) (q_mv (v := .lit (.bool _)) rfl) rfl ?_
           refine WPL.split (t := 83) (b := (decide (x7685 < 48))) rfl (fun hb7685 => ?_) (fun hb7685 => ?_)
           · replace H := cnt hb7685 H
             refine WPL.skipg (b' := true) rfl rfl (lb hb7685) rfl rfl ?_
             refine WPL.skipg (b' := true) rfl rfl (lb hb7685) rfl rfl ?_
             refine WPL.skipg (b' := true) rfl rfl (lb hb7685) rfl rfl ?_
             refine WPL.skipg (b' := true) rfl rfl (lb hb7685) rfl rfl ?_
             refine WPL.qg rfl rfl (lb hb7683) (q_pickT (v := .lit (.bool _)) (lb hb7685) rfl) rfl ?_
             refine WPL.q (q_pickT (v := .lit (.bool _)) (lb hb7683) rfl) rfl ?_
             refine WPL.nilW ?_
             have q0 := (Option.some.inj H)
             subst q0
             exact W.wk [] hnp ⟨rfl, rfl, rfl⟩ ⟨rfl, trivial, by decide, rfl, trivial⟩ (LeE.upd rfl rfl (LeE.upd rfl rfl (LeE.upd rfl rfl (LeE.none rfl rfl)))) rfl
           replace H := cnf hb7685 H
           refine WPL.qg rfl rfl (lb hb7685) (q_mv (v := .lit (.string _)) rfl) rfl ?_
           refine WPL.qg rfl rfl (lb hb7685) (q_mv (v := .lit (.int _ _)) rfl) rfl ?_
           obtain ⟨x7687, h7687, H⟩ := bnd H
           refine WPL.qg rfl rfl (lb hb7685) (q_index_str Tryd.underlying9 rfl rfl h7687) rfl ?_
           refine WPL.qg rfl rfl (lb hb7685) (q_gtr rfl rfl) rfl ?_
           refine WPL.qg rfl rfl (lb hb7683) (q_pickF (v := .lit (.bool _)) (lb hb7685) rfl) rfl ?_
           refine WPL.q (q_pickT (v := .lit (.bool _)) (lb hb7683) rfl) rfl ?_
           refine WPL.nilW ?_
           have q0 := (Option.some.inj H)
           subst q0
           exact W.wk [] hnp ⟨rfl, rfl, rfl⟩ ⟨rfl, trivial, by decide, rfl, trivial⟩ (LeE.upd rfl rfl (LeE.upd rfl rfl (LeE.upd rfl rfl (LeE.none rfl rfl)))) rfl
         replace H := cnf hb7683 H
         refine WPL.skipg (b' := false) rfl rfl (lb hb7683) rfl rfl ?_
         refine WPL.skipg (b' := false) rfl rfl (lb hb7683) rfl rfl ?_
         refine WPL.skipg (b' := false) rfl rfl (lb hb7683) rfl rfl ?_
         refine WPL.skipg (b' := false) rfl rfl (lb hb7683) rfl rfl ?_
         refine WPL.skipg (b' := false) rfl rfl (lb hb7683) rfl rfl ?_
         refine WPL.skipu rfl rfl rfl rfl ?_
         refine WPL.skipu rfl rfl rfl rfl ?_
         refine WPL.skipu rfl rfl rfl rfl ?_
         refine WPL.skipu rfl rfl rfl rfl ?_
         refine WPL.skipg (b' := false) rfl rfl (lb hb7683) rfl rfl ?_
         refine WPL.q (q_pickF (v := .lit (.bool _)) (lb hb7683) rfl) rfl ?_
         refine WPL.nilW ?_
         have q0 := (Option.some.inj H)
         subst q0
         exact W.wk [] hnp ⟨rfl, rfl, rfl⟩ ⟨rfl, trivial, by decide, rfl, trivial⟩ (LeE.upd rfl rfl (LeE.upd rfl rfl (LeE.upd rfl rfl (LeE.none rfl rfl)))) rfl
       replace H := cnf hb7681 H
       refine WPL.skipg (b' := false) rfl rfl (lb hb7681) rfl rfl ?_
       refine WPL.skipg (b' := false) rfl rfl (lb hb7681) rfl rfl ?_
       refine WPL.skipg (b' := false) rfl rfl (lb hb7681) rfl rfl ?_
       refine WPL.skipg (b' := false) rfl rfl (lb hb7681) rfl rfl ?_
       refine WPL.q (q_pickF (v := .lit (.bool _)) (lb hb7681) rfl) rfl ?_
       refine WPL.q (q_mv (v := .lit (.bool _)) rfl) rfl ?_
       refine WPL.skipg (b' := false) rfl rfl rfl rfl rfl ?_
       refine WPL.skipg (b' := false) rfl rfl rfl rfl rfl ?_
       refine WPL.skipg (b' := false) rfl rfl rfl rfl rfl ?_
       refine WPL.skipg (b' := false) rfl rfl rfl rfl rfl ?_
       refine WPL.skipg (b' := false) rfl rfl rfl rfl rfl ?_
       refine WPL.skipu rfl rfl rfl rfl ?_
       refine WPL.skipu rfl rfl rfl rfl ?_
       refine WPL.skipu rfl rfl rfl rfl ?_
       refine WPL.skipu rfl rfl rfl rfl ?_
       refine WPL.skipg (b' := false) rfl rfl rfl rfl rfl ?_
       refine WPL.q (q_pickF (v := .lit (.bool _)) rfl rfl) rfl ?_
       refine WPL.nilW ?_
       have q0 := (Option.some.inj H)
       subst q0
       exact W.wk [] hnp ⟨rfl, rfl, rfl⟩ ⟨rfl, trivial, by decide, rfl, trivial⟩ (LeE.upd rfl rfl (LeE.upd rfl rfl (LeE.upd rfl rfl (LeE.none rfl rfl)))) rfl
     rintro _ _ _ ⟨rfl, rfl, rfl⟩
     refine W.now ?_
     refine Then.n ?_
     refine WP.cond (t := x7680) rfl (fun hb7688 => ?_) (fun hb7688 => ?_)
     · replace H := cnt hb7688 H
       refine WP.seq ?_
       refine WP.region ?_
       refine WPL.q (q_as (v := .lit (.bool _)) rfl) rfl ?_
       refine WPL.nilW ?_
       refine W.now ?_
       refine Then.n ?_
       refine WP.retW ?_
       have q0 := Option.some.inj H
       subst q0
       exact W.wk [] hnp (InBlock.r (Then.r (Then.r ⟨rfl, rfl, rfl⟩))) ⟨rfl, trivial, by decide, rfl, trivial⟩ (LeE.upd rfl rfl (LeE.none rfl rfl)) rfl
     replace H := cnf hb7688 H
     refine WP.skipW ?_
     refine W.now ?_
     refine InBlock.n ?_
     refine Then.n ?_
     refine WP.region ?_
     refine WPL.q (q_mv (v := .lit (.int _ _)) rfl) rfl ?_
     refine WPL.q (q_add rfl rfl) rfl ?_
     refine WPL.q (q_as (v := .lit (.int _ _)) rfl) rfl ?_
     refine WPL.nilW ?_
     exact W.wk [] hnp (Then.n ⟨n, (IntKind.wrap .i64 (x7613 + 1)), Nat.lt_succ_self n, H, rfl, rfl⟩) ⟨rfl, trivial, by decide, rfl, trivial⟩ (LeE.upd rfl rfl (LeE.upd rfl rfl (LeE.none rfl rfl))) rfl
   replace H := cnf hb7654 H
   refine WP.exitW ?_
   have q0 := Option.some.inj H
   subst q0
   exact W.wk [] hnp (Then.x (Then.x ⟨rfl, rfl, rfl⟩)) ⟨rfl, trivial, by decide, rfl, trivial⟩ (LeE.none rfl rfl) rfl
 rcases y7691 with _ | _
 · rintro _ _ _ ⟨rfl, rfl, rfl⟩
   have q0 := (Option.some.inj H)
   subst q0
   exact W.now (InBlock.r (Then.r (BodyR.mkR trivial rfl [] ⟨rfl, rfl⟩ ⟨rfl, trivial, by decide, rfl, trivial⟩ rfl rfl)))
 rintro _ _ _ ⟨rfl, rfl, rfl⟩
 refine W.now ?_
 refine InBlock.x0 ?_
 refine Then.n ?_
 refine WP.seq ?_
 refine WP.region ?_
 refine WPL.q (q_as (v := .lit (.bool _)) rfl) rfl ?_
 refine WPL.nilW ?_
 refine W.now ?_
 refine Then.n ?_
 refine WP.retW ?_
 have q0 := (Option.some.inj H)
 subst q0
 exact W.now (BodyR.mkR trivial rfl [] ⟨rfl, rfl⟩ ⟨rfl, trivial, by decide, rfl, trivial⟩ rfl rfl)
end Go.Proofs.YtdbeblgfccjbgaaDoor.W
