/- Texts joined: part 6 of what LValBack stands on. -/
import Derived.Test.YthpcgknknpjpdaaGreatDoorSValBacke
namespace Go.Proofs.YthpcgknknpjpdaaGreatDoor.W
open Go Go.Q Go.Proofs
set_option linter.unusedVariables false
set_option linter.unusedSimpArgs false
set_option maxRecDepth 100000
set_option maxHeartbeats 4000000
theorem s_val_Cmp (k : Nat) (x1 : Int) (x2 : Int) (x3 : Int) (x4 : ByteArray) (x5 : Bool) (x6 : Int) (x7 : Int) (x8 : Int) (x9 : Int) (x10 : ByteArray) (x11 : Bool) (x12 : Int) (x13 : Int) (H : g_val_Cmp k x1 x2 x3 x4 x5 x6 x7 x8 x9 x10 x11 x12 = some x13) : Go.Q.Spec Tryz.prog 26 0 [.agg [.lit (.int .i64 x1), .lit (.int .i64 x2), .lit (.int .i64 x3), .lit (.string x4), .lit (.bool x5), .lit (.int .i64 x6)], .agg [.lit (.int .i64 x7), .lit (.int .i64 x8), .lit (.int .i64 x9), .lit (.string x10), .lit (.bool x11), .lit (.int .i64 x12)]] Mem.nil (fun o M => o = .ret (.lit (.int .i64 x13)) ∧ M = Mem.nil) := by
 unfold g_val_Cmp at H
 refine Go.Q.Spec.of_bodyR (az := []) (rs := [.tmp 4]) (nt := 49) Tryz.func26 rfl rfl (by intro t T h; simp at h) rfl rfl fun cx hnp => ?_
 refine WP.sr ?_
 refine WPL.d (d_box rfl rfl) rfl ?_
 refine WPL.d (d_box rfl rfl) rfl ?_
 refine WPL.qq (q_as (v := .lit (.int _ _)) rfl) ?_
 refine WPL.nx ?_
 refine WP.seq ?_
 refine WP.regionD' 6 [0, 1] [4] mixed rfl ?_
 refine WPD.take 0 rfl (by kernel_rfl) (q_load_ag ag29 rfl rfl (Nat.le_of_ble_eq_true rfl)) rfl rfl ?_
 refine WPD.take 2 rfl (by kernel_rfl) (q_load_ag ag29 rfl rfl (Nat.le_of_ble_eq_true rfl)) rfl rfl ?_
 obtain ⟨⟨x14, x15, x16, x17, x18, x19⟩, h1, H⟩ := bnd H
 refine WPD.ef 1 [0, 1] [4] rfl (runs_call (s := []) (t := [2]) (N := 3) (bor := []) fn53 rfl (s_val_clean k x1 x2 x3 x4 x5 x6 x14 x15 x16 x17 x18 x19 h1) ⟨rfl, trivial, by decide, rfl, trivial⟩ rfl trivial (.ren rfl rfl .nil) rfl BB1 rfl) ?_
 obtain ⟨⟨x20, x21, x22, x23, x24, x25⟩, h2, H⟩ := bnd H
 refine WPD.ef 3 [0, 1] [4] rfl (runs_call (s := []) (t := [3]) (N := 4) (bor := []) fn53 rfl (s_val_clean k x7 x8 x9 x10 x11 x12 x20 x21 x22 x23 x24 x25 h2) ⟨rfl, trivial, by decide, rfl, trivial⟩ rfl trivial (.ren rfl rfl .nil) rfl BB1 rfl) ?_
 refine WPD.effS 4 [] [] rfl (by kernel_rfl) (s_store sz29 rfl rfl rfl rfl rfl) rfl ?_
 refine WPD.effS 5 [] [] rfl (by kernel_rfl) (s_store sz29 rfl rfl rfl rfl rfl) rfl ?_
 refine WPD.doneW (by kernel_rfl) ?_
 refine W.now ?_
 refine Then.n ?_
 refine WP.seq ?_
 refine WP.seq ?_
 obtain ⟨x26, H1, H⟩ := bnd H
 refine WP.monoW (Q := fun x E M => x = .normal ∧ E = (((Env.none.upd 2 (.ptr 0 0)).upd 3 (.ptr 1 0)).upd 16 (.lit (.bool x26))) ∧ M = ((Mem.nil.push (.cells 29 [.lit (.int .i64 x14), .lit (.int .i64 x15), .lit (.int .i64 x16), .lit (.string x17), .lit (.bool x18), .lit (.int .i64 x19)])).push (.cells 29 [.lit (.int .i64 x20), .lit (.int .i64 x21), .lit (.int .i64 x22), .lit (.string x23), .lit (.bool x24), .lit (.int .i64 x25)]))) ?_ ?_
 · clear H
   have H := H1
   clear H1
   refine WP.region ?_
   refine WPL.qq (q_fieldAddr fi29_0 rfl rfl) ?_
   refine WPL.qq (q_load sc3 rfl rfl rfl) ?_
   refine WPL.qq (q_eql rfl rfl) ?_
   refine WPL.qq (q_mv (v := .lit (.bool _)) rfl) ?_
   refine WPL.split (t := 12) (b := (decide (x14 = 4))) rfl (fun hb1 => ?_) (fun hb1 => ?_)
   · replace H := cnt hb1 H
     refine WPL.sg true rfl (lb hb1) ?_
     refine WPL.sg true rfl (lb hb1) ?_
     refine WPL.sg true rfl (lb hb1) ?_
     refine WPL.qq (q_pickT (v := .lit (.bool _)) (lb hb1) rfl) ?_
     refine WPL.nilW ?_
     have q0 := j1 H
     subst q0
     exact W.wk [0, 1] hnp r3 ⟨rfl, AA2, by decide, rfl, trivial⟩ (LeE.u (LeE.u (LeE.u (LeE.none rfl rfl)))) rfl
   replace H := cnf hb1 H
   refine WPL.gq rfl (lb hb1) (q_fieldAddr fi29_0 rfl rfl) ?_
   refine WPL.gq rfl (lb hb1) (q_load sc3 rfl rfl rfl) ?_
   refine WPL.gq rfl (lb hb1) (q_eql rfl rfl) ?_
   refine WPL.qq (q_pickF (v := .lit (.bool _)) (lb hb1) rfl) ?_
   refine WPL.nilW ?_
   have q0 := j1 H
   subst q0
   exact W.wk [0, 1] hnp r3 ⟨rfl, AA2, by decide, rfl, trivial⟩ (LeE.u (LeE.u (LeE.u (LeE.none rfl rfl)))) rfl
 rintro _ _ _ ⟨rfl, rfl, rfl⟩
 refine W.now ?_
 refine Then.n ?_
 refine WP.cond (t := x26) rfl (fun hb2 => ?_) (fun hb2 => ?_)
 · replace H := cnt hb2 H
   refine WP.sr ?_
   refine WPL.qq (q_as (v := .lit (.int _ _)) rfl) ?_
   refine WPL.nx ?_
   refine WP.retW ?_
   have q0 := j1 H
   subst q0
   exact W.now (Then.r (BodyR.mkR trivial rfl [] ⟨rfl, rfl⟩ ⟨rfl, trivial, by decide, rfl, trivial⟩ rfl rfl))
 replace H := cnf hb2 H
 refine WP.skipW ?_
 refine W.now ?_
 refine Then.n ?_
 refine WP.seq ?_
 refine WP.regionD' 8 [0, 1] [6] mixed rfl ?_
 refine WPD.take 0 rfl (by kernel_rfl) (q_load_ag ag29 rfl rfl (Nat.le_of_ble_eq_true rfl)) rfl rfl ?_
 refine WPD.take 1 rfl (by kernel_rfl) (q_load_ag ag29 rfl rfl (Nat.le_of_ble_eq_true rfl)) rfl rfl ?_
 refine WPD.take 3 rfl (by kernel_rfl) (q_load_ag ag29 rfl rfl (Nat.le_of_ble_eq_true rfl)) rfl rfl ?_
 refine WPD.take 4 rfl (by kernel_rfl) (q_load_ag ag29 rfl rfl (Nat.le_of_ble_eq_true rfl)) rfl rfl ?_
 obtain ⟨⟨x27, x28, x29, x30, x31, x32⟩, h3, H⟩ := bnd H
 refine WPD.ef 2 [0, 1] [6] rfl (runs_call (s := []) (t := [2]) (N := 3) (bor := []) fn54 rfl (s_val_beside k x14 x15 x16 x17 x18 x19 x20 x21 x22 x23 x24 x25 x27 x28 x29 x30 x31 x32 h3) ⟨rfl, trivial, by decide, rfl, trivial⟩ rfl trivial (.ren rfl rfl (.ren rfl rfl .nil)) rfl BB1 rfl) ?_
 obtain ⟨⟨x33, x34, x35, x36, x37, x38⟩, h4, H⟩ := bnd H
 refine WPD.ef 5 [0, 1] [6] rfl (runs_call (s := []) (t := [3]) (N := 4) (bor := []) fn54 rfl (s_val_beside k x20 x21 x22 x23 x24 x25 x14 x15 x16 x17 x18 x19 x33 x34 x35 x36 x37 x38 h4) ⟨rfl, trivial, by decide, rfl, trivial⟩ rfl trivial (.ren rfl rfl (.ren rfl rfl .nil)) rfl BB1 rfl) ?_
 refine WPD.effS 6 [] [] rfl (by kernel_rfl) (s_store sz29 rfl rfl rfl rfl rfl) rfl ?_
 refine WPD.effS 7 [] [] rfl (by kernel_rfl) (s_store sz29 rfl rfl rfl rfl rfl) rfl ?_
 refine WPD.doneW (by kernel_rfl) ?_
 refine W.now ?_
 refine Then.n ?_
 refine WP.seq ?_
 refine WP.regionD' 27 [0, 1] [] mixed rfl ?_
 refine WPD.tT 0 rfl (q_fieldAddr fi29_0 rfl rfl) ?_
 refine WPD.tT 2 rfl (q_fieldAddr fi29_0 rfl rfl) ?_
 refine WPD.tT 5 rfl (q_fieldAddr fi29_1 rfl rfl) ?_
 refine WPD.tT 7 rfl (q_fieldAddr fi29_1 rfl rfl) ?_
 refine WPD.tT 10 rfl (q_fieldAddr fi29_2 rfl rfl) ?_
 refine WPD.tT 13 rfl (q_fieldAddr fi29_2 rfl rfl) ?_
 refine WPD.tT 17 rfl (q_fieldAddr fi29_3 rfl rfl) ?_
 refine WPD.tT 20 rfl (q_fieldAddr fi29_3 rfl rfl) ?_
 refine WPD.take 1 rfl (by kernel_rfl) (q_load sc3 rfl rfl rfl) rfl rfl ?_
 refine WPD.take 3 rfl (by kernel_rfl) (q_load sc3 rfl rfl rfl) rfl rfl ?_
 refine WPD.take 6 rfl (by kernel_rfl) (q_load_ag ag23 rfl rfl (Nat.le_of_ble_eq_true rfl)) rfl rfl ?_
 refine WPD.take 8 rfl (by kernel_rfl) (q_load_ag ag23 rfl rfl (Nat.le_of_ble_eq_true rfl)) rfl rfl ?_
 refine WPD.take 11 rfl (by kernel_rfl) (q_load sc9 rfl rfl rfl) rfl rfl ?_
 refine WPD.take 14 rfl (by kernel_rfl) (q_load sc9 rfl rfl rfl) rfl rfl ?_
 refine WPD.take 18 rfl (by kernel_rfl) (q_load sc4 rfl rfl rfl) rfl rfl ?_
 refine WPD.take 21 rfl (by kernel_rfl) (q_load sc4 rfl rfl rfl) rfl rfl ?_
 obtain ⟨x39, h5, H⟩ := bnd H
 refine WPD.ef 4 [0, 1] [] rfl (runs_call (s := []) (t := []) (N := 4) (bor := []) fn56 rfl (s_cmp_Compare_int k x27 x33 x39 h5) ⟨rfl, trivial, by decide, rfl, trivial⟩ rfl trivial (.ren rfl rfl (.ren rfl rfl .nil)) rfl trivial rfl) ?_
 obtain ⟨x40, h6, H⟩ := bnd H
 refine WPD.ef 9 [0, 1] [] rfl (runs_call (s := []) (t := []) (N := 4) (bor := []) fn57 rfl (s_dec_Cmp k x28 x29 x34 x35 x40 h6) ⟨rfl, trivial, by decide, rfl, trivial⟩ rfl trivial (.ren rfl rfl (.ren rfl rfl .nil)) rfl trivial rfl) ?_
 obtain ⟨x41, h7, H⟩ := bnd H
 refine WPD.ef 12 [0, 1] [] rfl (runs_call (s := []) (t := []) (N := 4) (bor := []) fn59 rfl (s_utf_Lower k x30 x41 h7) ⟨rfl, trivial, by decide, rfl, trivial⟩ rfl trivial (.ren rfl rfl .nil) rfl trivial rfl) ?_
 obtain ⟨x42, h8, H⟩ := bnd H
 refine WPD.ef 15 [0, 1] [] rfl (runs_call (s := []) (t := []) (N := 4) (bor := []) fn59 rfl (s_utf_Lower k x36 x42 h8) ⟨rfl, trivial, by decide, rfl, trivial⟩ rfl trivial (.ren rfl rfl .nil) rfl trivial rfl) ?_
 obtain ⟨x43, h9, H⟩ := bnd H
 refine WPD.ef 16 [0, 1] [] rfl (runs_call (s := []) (t := []) (N := 4) (bor := []) fn58 rfl (s_cmp_Compare_string k x41 x42 x43 h9) ⟨rfl, trivial, by decide, rfl, trivial⟩ rfl trivial (.ren rfl rfl (.ren rfl rfl .nil)) rfl trivial rfl) ?_
 obtain ⟨x44, h10, H⟩ := bnd H
 refine WPD.ef 19 [0, 1] [] rfl (runs_call (s := []) (t := []) (N := 4) (bor := []) fn60 rfl (s_val_ones k x31 x44 h10) ⟨rfl, trivial, by decide, rfl, trivial⟩ rfl trivial (.ren rfl rfl .nil) rfl trivial rfl) ?_
 obtain ⟨x45, h11, H⟩ := bnd H
 refine WPD.ef 22 [0, 1] [] rfl (runs_call (s := []) (t := []) (N := 4) (bor := []) fn60 rfl (s_val_ones k x37 x45 h11) ⟨rfl, trivial, by decide, rfl, trivial⟩ rfl trivial (.ren rfl rfl .nil) rfl trivial rfl) ?_
 obtain ⟨x46, h12, H⟩ := bnd H
 refine WPD.ef 23 [0, 1] [] rfl (runs_call (s := []) (t := []) (N := 4) (bor := []) fn56 rfl (s_cmp_Compare_int k x44 x45 x46 h12) ⟨rfl, trivial, by decide, rfl, trivial⟩ rfl trivial (.ren rfl rfl (.ren rfl rfl .nil)) rfl trivial rfl) ?_
 refine WPD.ef 24 [0, 1] [] rfl (Does.runs (d_buildSlice (ds := ([x39, x40, x43, x46] : List Int)) (R := (Rd.int .i64)) li76 rfl rfl rfl rfl rfl (JoinRows.cons1 Joins.sc rfl (JoinRows.cons1 Joins.sc rfl (JoinRows.cons1 Joins.sc rfl (JoinRows.cons1 Joins.sc rfl JoinRows.nil)))) rfl rfl)) ?_
 obtain ⟨x47, h13, H⟩ := bnd H
 refine WPD.ef 25 [0, 1] [] rfl (runs_call (s := []) (t := []) (N := 5) (bor := [4]) fn55 rfl (s_cmp_Or_int k ([x39, x40, x43, x46] : List Int) x47 h13) ⟨rfl, trivial, by decide, rfl, trivial⟩ rfl ⟨trivial, rfl, rfl, trivial⟩ (.row rfl rfl .nil) rfl trivial rfl) ?_
 refine WPD.tT 26 rfl (q_as (v := .lit (.int _ _)) rfl) ?_
 refine WPD.doneW (by kernel_rfl) ?_
 refine W.now ?_
 refine Then.n ?_
 refine WP.retW ?_
 have q0 := j1 H
 subst q0
 exact W.now (BodyR.mkR trivial rfl [] ⟨rfl, rfl⟩ ⟨rfl, trivial, by decide, rfl, trivial⟩ rfl rfl)
theorem s_val_Bin (k : Nat) (x1 : Int) (x2 : Int) (x3 : Int) (x4 : Int) (x5 : ByteArray) (x6 : Bool) (x7 : Int) (x8 : Int) (x9 : Int) (x10 : Int) (x11 : ByteArray) (x12 : Bool) (x13 : Int) (x14 : Int) (x15 : Int) (x16 : Int) (x17 : ByteArray) (x18 : Bool) (x19 : Int) (H : g_val_Bin k x1 x2 x3 x4 x5 x6 x7 x8 x9 x10 x11 x12 x13 = some (x14, x15, x16, x17, x18, x19)) : Go.Q.Spec Tryz.prog 28 0 [.lit (.int .i64 x1), .agg [.lit (.int .i64 x2), .lit (.int .i64 x3), .lit (.int .i64 x4), .lit (.string x5), .lit (.bool x6), .lit (.int .i64 x7)], .agg [.lit (.int .i64 x8), .lit (.int .i64 x9), .lit (.int .i64 x10), .lit (.string x11), .lit (.bool x12), .lit (.int .i64 x13)]] Mem.nil (fun o M => o = .ret (.agg [.lit (.int .i64 x14), .lit (.int .i64 x15), .lit (.int .i64 x16), .lit (.string x17), .lit (.bool x18), .lit (.int .i64 x19)]) ∧ M = (Mem.nil.push (.cells 29 [.lit (.int .i64 x14), .lit (.int .i64 x15), .lit (.int .i64 x16), .lit (.string x17), .lit (.bool x18), .lit (.int .i64 x19)]))) := by
 unfold g_val_Bin at H
 refine Go.Q.Spec.of_bodyR (az := [(29, 6)]) (rs := [.cell 6 29]) (nt := 102) Tryz.func28 rfl rfl (by intro t T h; simp at h; rcases h with ⟨rfl, rfl⟩ <;> first | exact ag29) rfl rfl fun cx hnp => ?_
 refine WP.sr ?_
 refine WPL.d (d_box rfl rfl) rfl ?_
 refine WPL.d (d_box rfl rfl) rfl ?_
 refine WPL.d (d_alloc ze29 rfl) rfl ?_
 refine WPL.nx ?_
 refine WP.seq ?_
 refine WP.regionD' 6 [0, 1] [4] mixed rfl ?_
 refine WPD.take 0 rfl (by kernel_rfl) (q_load_ag ag29 rfl rfl (Nat.le_of_ble_eq_true rfl)) rfl rfl ?_
 refine WPD.take 2 rfl (by kernel_rfl) (q_load_ag ag29 rfl rfl (Nat.le_of_ble_eq_true rfl)) rfl rfl ?_
 obtain ⟨⟨x20, x21, x22, x23, x24, x25⟩, h1, H⟩ := bnd H
 refine WPD.ef 1 [0, 1] [4] rfl (runs_call (s := []) (t := [3]) (N := 4) (bor := []) fn53 rfl (s_val_clean k x2 x3 x4 x5 x6 x7 x20 x21 x22 x23 x24 x25 h1) ⟨rfl, trivial, by decide, rfl, trivial⟩ rfl trivial (.ren rfl rfl .nil) rfl BB1 rfl) ?_
 obtain ⟨⟨x26, x27, x28, x29, x30, x31⟩, h2, H⟩ := bnd H
 refine WPD.ef 3 [0, 1] [4] rfl (runs_call (s := []) (t := [4]) (N := 5) (bor := []) fn53 rfl (s_val_clean k x8 x9 x10 x11 x12 x13 x26 x27 x28 x29 x30 x31 h2) ⟨rfl, trivial, by decide, rfl, trivial⟩ rfl trivial (.ren rfl rfl .nil) rfl BB1 rfl) ?_
 refine WPD.effS 4 [] [] rfl (by kernel_rfl) (s_store sz29 rfl rfl rfl rfl rfl) rfl ?_
 refine WPD.effS 5 [] [] rfl (by kernel_rfl) (s_store sz29 rfl rfl rfl rfl rfl) rfl ?_
 refine WPD.doneW (by kernel_rfl) ?_
 refine W.now ?_
 refine Then.n ?_
 refine WP.seq ?_
 obtain ⟨⟨x32, x33, x34, x35, x36, x37, x38, x39, x40, x41, x42, x43⟩, H1, H⟩ := bnd H
 refine WP.monoW (Q := fun x E M => x = .normal ∧ E = ((((Env.none.upd 0 (.lit (.int .i64 x1))).upd 4 (.ptr 0 0)).upd 5 (.ptr 1 0)).upd 6 (.ptr 2 0)) ∧ M = (((Mem.nil.push (.cells 29 [.lit (.int .i64 x32), .lit (.int .i64 x33), .lit (.int .i64 x34), .lit (.string x35), .lit (.bool x36), .lit (.int .i64 x37)])).push (.cells 29 [.lit (.int .i64 x38), .lit (.int .i64 x39), .lit (.int .i64 x40), .lit (.string x41), .lit (.bool x42), .lit (.int .i64 x43)])).push (.cells 29 [.lit (.int .i64 0), .lit (.int .i64 0), .lit (.int .i64 0), .lit (.string (ByteArray.mk #[])), .lit (.bool false), .lit (.int .i64 0)]))) ?_ ?_
 · clear H
   have H := H1
   clear H1
   refine WP.seq ?_
   obtain ⟨x44, H2, H⟩ := bnd H
   refine WP.monoW (Q := fun x E M => x = .normal ∧ E = (((((Env.none.upd 0 (.lit (.int .i64 x1))).upd 4 (.ptr 0 0)).upd 5 (.ptr 1 0)).upd 6 (.ptr 2 0)).upd 27 (.lit (.bool x44))) ∧ M = (((Mem.nil.push (.cells 29 [.lit (.int .i64 x20), .lit (.int .i64 x21), .lit (.int .i64 x22), .lit (.string x23), .lit (.bool x24), .lit (.int .i64 x25)])).push (.cells 29 [.lit (.int .i64 x26), .lit (.int .i64 x27), .lit (.int .i64 x28), .lit (.string x29), .lit (.bool x30), .lit (.int .i64 x31)])).push (.cells 29 [.lit (.int .i64 0), .lit (.int .i64 0), .lit (.int .i64 0), .lit (.string (ByteArray.mk #[])), .lit (.bool false), .lit (.int .i64 0)]))) ?_ ?_
   · clear H
     have H := H2
     clear H2
     refine WP.region ?_
     refine WPL.qq (q_mv (v := .lit (.int _ _)) rfl) ?_
     refine WPL.qq (q_geq rfl rfl) ?_
     refine WPL.qq (q_mv (v := .lit (.bool _)) rfl) ?_
     refine WPL.split (t := 14) (b := (decide (1 ≤ x1))) rfl (fun hb1 => ?_) (fun hb1 => ?_)
     · replace H := cnt hb1 H
       refine WPL.gq rfl (lb hb1) (q_mv (v := .lit (.int _ _)) rfl) ?_
       refine WPL.gq rfl (lb hb1) (q_leq rfl rfl) ?_
       refine WPL.qq (q_pickT (v := .lit (.bool _)) (lb hb1) rfl) ?_
       refine WPL.qq (q_mv (v := .lit (.bool _)) rfl) ?_
       refine WPL.split (t := 18) (b := (decide (x1 ≤ 5))) rfl (fun hb2 => ?_) (fun hb2 => ?_)
       · replace H := cnt hb2 H
         refine WPL.gq rfl (lb hb2) (q_fieldAddr fi29_0 rfl rfl) ?_
         refine WPL.gq rfl (lb hb2) (q_load sc3 rfl rfl rfl) ?_
         refine WPL.gq rfl (lb hb2) (q_neq rfl rfl) ?_
         refine WPL.qq (q_pickT (v := .lit (.bool _)) (lb hb2) rfl) ?_
         refine WPL.qq (q_mv (v := .lit (.bool _)) rfl) ?_
         refine WPL.split (t := 23) (b := (!decide (x20 = 4))) rfl (fun hb3 => ?_) (fun hb3 => ?_)
         · replace H := cnt hb3 H
           refine WPL.gq rfl (lb hb3) (q_fieldAddr fi29_0 rfl rfl) ?_
           refine WPL.gq rfl (lb hb3) (q_load sc3 rfl rfl rfl) ?_
           refine WPL.gq rfl (lb hb3) (q_neq rfl rfl) ?_
           refine WPL.qq (q_pickT (v := .lit (.bool _)) (lb hb3) rfl) ?_
           refine WPL.nilW ?_
           have q0 := j1 H
           subst q0
           exact W.wk [0, 1, 2] hnp r3 ⟨rfl, AA3, by decide, rfl, trivial⟩ (LeE.u (LeE.u (LeE.u (LeE.u (LeE.u (LeE.none rfl rfl)))))) rfl
         replace H := cnf hb3 H
         refine WPL.sg false rfl (lb hb3) ?_
         refine WPL.sg false rfl (lb hb3) ?_
         refine WPL.sg false rfl (lb hb3) ?_
         refine WPL.qq (q_pickF (v := .lit (.bool _)) (lb hb3) rfl) ?_
         refine WPL.nilW ?_
         have q0 := j1 H
         subst q0
         exact W.wk [0, 1, 2] hnp r3 ⟨rfl, AA3, by decide, rfl, trivial⟩ (LeE.u (LeE.u (LeE.u (LeE.u (LeE.u (LeE.none rfl rfl)))))) rfl
       replace H := cnf hb2 H
       refine WPL.sg false rfl (lb hb2) ?_
       refine WPL.sg false rfl (lb hb2) ?_
       refine WPL.sg false rfl (lb hb2) ?_
       refine WPL.qq (q_pickF (v := .lit (.bool _)) (lb hb2) rfl) ?_
       refine WPL.qq (q_mv (v := .lit (.bool _)) rfl) ?_
       refine WPL.sg false rfl rfl ?_
       refine WPL.sg false rfl rfl ?_
       refine WPL.sg false rfl rfl ?_
       refine WPL.qq (q_pickF (v := .lit (.bool _)) rfl rfl) ?_
       refine WPL.nilW ?_
       have q0 := j1 H
       subst q0
       exact W.wk [0, 1, 2] hnp r3 ⟨rfl, AA3, by decide, rfl, trivial⟩ (LeE.u (LeE.u (LeE.u (LeE.u (LeE.u (LeE.none rfl rfl)))))) rfl
     replace H := cnf hb1 H
     refine WPL.sg false rfl (lb hb1) ?_
     refine WPL.sg false rfl (lb hb1) ?_
     refine WPL.qq (q_pickF (v := .lit (.bool _)) (lb hb1) rfl) ?_
     refine WPL.qq (q_mv (v := .lit (.bool _)) rfl) ?_
     refine WPL.sg false rfl rfl ?_
     refine WPL.sg false rfl rfl ?_
     refine WPL.sg false rfl rfl ?_
     refine WPL.qq (q_pickF (v := .lit (.bool _)) rfl rfl) ?_
     refine WPL.qq (q_mv (v := .lit (.bool _)) rfl) ?_
     refine WPL.sg false rfl rfl ?_
     refine WPL.sg false rfl rfl ?_
     refine WPL.sg false rfl rfl ?_
     refine WPL.qq (q_pickF (v := .lit (.bool _)) rfl rfl) ?_
     refine WPL.nilW ?_
     have q0 := j1 H
     subst q0
     exact W.wk [0, 1, 2] hnp r3 ⟨rfl, AA3, by decide, rfl, trivial⟩ (LeE.u (LeE.u (LeE.u (LeE.u (LeE.u (LeE.none rfl rfl)))))) rfl
   rintro _ _ _ ⟨rfl, rfl, rfl⟩
   refine W.now ?_
   refine Then.n ?_
   refine WP.cond (t := x44) rfl (fun hb4 => ?_) (fun hb4 => ?_)
   · replace H := cnt hb4 H
     refine WP.regionD' 6 [0, 1] [4] mixed rfl ?_
     refine WPD.take 0 rfl (by kernel_rfl) (q_load_ag ag29 rfl rfl (Nat.le_of_ble_eq_true rfl)) rfl rfl ?_
     refine WPD.take 2 rfl (by kernel_rfl) (q_load_ag ag29 rfl rfl (Nat.le_of_ble_eq_true rfl)) rfl rfl ?_
     obtain ⟨⟨x45, x46, x47, x48, x49, x50⟩, h3, H⟩ := bnd H
     refine WPD.ef 1 [0, 1] [4] rfl (runs_call (s := []) (t := [3]) (N := 4) (bor := []) fn36 rfl (s_val_Num k x20 x21 x22 x23 x24 x25 x45 x46 x47 x48 x49 x50 h3) ⟨rfl, trivial, by decide, rfl, trivial⟩ rfl trivial (.ren rfl rfl .nil) rfl BB1 rfl) ?_
     obtain ⟨⟨x51, x52, x53, x54, x55, x56⟩, h4, H⟩ := bnd H
     refine WPD.ef 3 [0, 1] [4] rfl (runs_call (s := []) (t := [4]) (N := 5) (bor := []) fn36 rfl (s_val_Num k x26 x27 x28 x29 x30 x31 x51 x52 x53 x54 x55 x56 h4) ⟨rfl, trivial, by decide, rfl, trivial⟩ rfl trivial (.ren rfl rfl .nil) rfl BB1 rfl) ?_
     refine WPD.effS 4 [] [] rfl (by kernel_rfl) (s_store sz29 rfl rfl rfl rfl rfl) rfl ?_
     refine WPD.effS 5 [] [] rfl (by kernel_rfl) (s_store sz29 rfl rfl rfl rfl rfl) rfl ?_
     refine WPD.doneW (by kernel_rfl) ?_
     obtain ⟨rfl, rfl, rfl, rfl, rfl, rfl, rfl, rfl, rfl, rfl, rfl, rfl⟩ := j12 H
     exact W.wk [0, 1, 2] hnp r3 ⟨rfl, AA3, by decide, rfl, trivial⟩ (LeE.u (LeE.u (LeE.u (LeE.u (LeE.none rfl rfl))))) rfl
   replace H := cnf hb4 H
   refine WP.skipW ?_
   obtain ⟨rfl, rfl, rfl, rfl, rfl, rfl, rfl, rfl, rfl, rfl, rfl, rfl⟩ := j12 H
   exact W.wk [0, 1, 2] hnp r3 ⟨rfl, AA3, by decide, rfl, trivial⟩ (LeE.u (LeE.u (LeE.u (LeE.u (LeE.none rfl rfl))))) rfl
 rintro _ _ _ ⟨rfl, rfl, rfl⟩
 refine W.now ?_
 refine Then.n ?_
 refine WP.seq ?_
 refine WP.block ?_
 refine WP.sr ?_
 refine WPL.qq (q_fieldAddr fi29_0 rfl rfl) ?_
 refine WPL.qq (q_load sc3 rfl rfl rfl) ?_
 refine WPL.qq (q_eql rfl rfl) ?_
 refine WPL.qq (q_as (v := .lit (.bool _)) rfl) ?_
 refine WPL.nx ?_
 refine WP.cond (t := (decide (x32 = 4))) rfl (fun hb5 => ?_) (fun hb5 => ?_)
 · replace H := cnt hb5 H
   refine WP.sr ?_
   refine WPL.qq (q_load_ag ag29 rfl rfl (Nat.le_of_ble_eq_true rfl)) ?_
   refine WPL.s (s_store sz29 rfl rfl rfl rfl rfl) ?_
   refine WPL.nx ?_
   refine WP.retW ?_
   obtain ⟨rfl, rfl, rfl, rfl, rfl, rfl⟩ := j6 H
   exact W.now (InBlock.r (Then.r (BodyR.mkR trivial rfl [2] ⟨rfl, rfl⟩ ⟨rfl, AA1, by decide, rfl, trivial⟩ rfl rfl)))
 replace H := cnf hb5 H
 refine WP.sr ?_
 refine WPL.qq (q_fieldAddr fi29_0 rfl rfl) ?_
 refine WPL.qq (q_load sc3 rfl rfl rfl) ?_
 refine WPL.qq (q_eql rfl rfl) ?_
 refine WPL.qq (q_as (v := .lit (.bool _)) rfl) ?_
 refine WPL.nx ?_
 refine WP.cond (t := (decide (x38 = 4))) rfl (fun hb6 => ?_) (fun hb6 => ?_)
 · replace H := cnt hb6 H
   refine WP.sr ?_
   refine WPL.qq (q_load_ag ag29 rfl rfl (Nat.le_of_ble_eq_true rfl)) ?_
   refine WPL.s (s_store sz29 rfl rfl rfl rfl rfl) ?_
   refine WPL.nx ?_
   refine WP.retW ?_
   obtain ⟨rfl, rfl, rfl, rfl, rfl, rfl⟩ := j6 H
   exact W.now (InBlock.r (Then.r (BodyR.mkR trivial rfl [2] ⟨rfl, rfl⟩ ⟨rfl, AA1, by decide, rfl, trivial⟩ rfl rfl)))
 replace H := cnf hb6 H
 refine WP.seq ?_
 obtain ⟨x57, H3, H⟩ := bnd H
 refine WP.monoW (Q := fun x E M => x = .normal ∧ E = (((((Env.none.upd 0 (.lit (.int .i64 x1))).upd 4 (.ptr 0 0)).upd 5 (.ptr 1 0)).upd 6 (.ptr 2 0)).upd 42 (.lit (.bool x57))) ∧ M = (((Mem.nil.push (.cells 29 [.lit (.int .i64 x32), .lit (.int .i64 x33), .lit (.int .i64 x34), .lit (.string x35), .lit (.bool x36), .lit (.int .i64 x37)])).push (.cells 29 [.lit (.int .i64 x38), .lit (.int .i64 x39), .lit (.int .i64 x40), .lit (.string x41), .lit (.bool x42), .lit (.int .i64 x43)])).push (.cells 29 [.lit (.int .i64 0), .lit (.int .i64 0), .lit (.int .i64 0), .lit (.string (ByteArray.mk #[])), .lit (.bool false), .lit (.int .i64 0)]))) ?_ ?_
 · clear H
   have H := H3
   clear H3
   refine WP.region ?_
   refine WPL.qq (q_mv (v := .lit (.int _ _)) rfl) ?_
   refine WPL.qq (q_geq rfl rfl) ?_
   refine WPL.qq (q_mv (v := .lit (.bool _)) rfl) ?_
   refine WPL.split (t := 45) (b := (decide (1 ≤ x1))) rfl (fun hb7 => ?_) (fun hb7 => ?_)
   · replace H := cnt hb7 H
     refine WPL.gq rfl (lb hb7) (q_mv (v := .lit (.int _ _)) rfl) ?_
     refine WPL.gq rfl (lb hb7) (q_leq rfl rfl) ?_
     refine WPL.qq (q_pickT (v := .lit (.bool _)) (lb hb7) rfl) ?_
     refine WPL.qq (q_as (v := .lit (.bool _)) rfl) ?_
     refine WPL.nilW ?_
     have q0 := j1 H
     subst q0
     exact W.wk [0, 1, 2] hnp r3 ⟨rfl, AA3, by decide, rfl, trivial⟩ (LeE.u (LeE.u (LeE.u (LeE.u (LeE.u (LeE.none rfl rfl)))))) rfl
   replace H := cnf hb7 H
   refine WPL.sg false rfl (lb hb7) ?_
   refine WPL.sg false rfl (lb hb7) ?_
   refine WPL.qq (q_pickF (v := .lit (.bool _)) (lb hb7) rfl) ?_
   refine WPL.qq (q_as (v := .lit (.bool _)) rfl) ?_
   refine WPL.nilW ?_
   have q0 := j1 H
   subst q0
   exact W.wk [0, 1, 2] hnp r3 ⟨rfl, AA3, by decide, rfl, trivial⟩ (LeE.u (LeE.u (LeE.u (LeE.u (LeE.u (LeE.none rfl rfl)))))) rfl
 rintro _ _ _ ⟨rfl, rfl, rfl⟩
 refine W.now ?_
 refine Then.n ?_
 refine WP.cond (t := x57) rfl (fun hb8 => ?_) (fun hb8 => ?_)
 · replace H := cnt hb8 H
   refine WP.sr ?_
   refine WPL.qq (q_mv (v := .lit (.int _ _)) rfl) ?_
   refine WPL.qq (q_fieldAddr fi29_1 rfl rfl) ?_
   refine WPL.qq (q_load_ag ag23 rfl rfl (Nat.le_of_ble_eq_true rfl)) ?_
   refine WPL.qq (q_fieldAddr fi29_1 rfl rfl) ?_
   refine WPL.qq (q_load_ag ag23 rfl rfl (Nat.le_of_ble_eq_true rfl)) ?_
   obtain ⟨⟨x58, x59, x60⟩, h5, H⟩ := bnd H
   refine WPL.c (runs_call (s := []) (t := [3]) (N := 4) (bor := []) fn62 rfl (s_val_sum k x1 x33 x34 x39 x40 x58 x59 x60 h5) ⟨rfl, trivial, by decide, rfl, trivial⟩ rfl trivial (.ren rfl rfl (.ren rfl rfl (.ren rfl rfl .nil))) rfl BB1 rfl) rfl ?_
   refine WPL.qq (q_extract rfl rfl) ?_
   refine WPL.qq (q_extract rfl rfl) ?_
   obtain ⟨⟨x61, x62, x63, x64⟩, h6, H⟩ := bnd H
   refine WPL.c (runs_call (s := []) (t := [4]) (N := 5) (bor := []) fn12 rfl (s_val_Of k x59 x60 x58 x61 x62 x63 x64 h6) ⟨rfl, trivial, by decide, rfl, trivial⟩ rfl trivial (.ren rfl rfl (.ren rfl rfl .nil)) rfl BB1 rfl) rfl ?_
   refine WPL.s (s_store sz29 rfl rfl rfl rfl rfl) ?_
   refine WPL.nx ?_
   refine WP.retW ?_
   obtain ⟨rfl, rfl, rfl, rfl, rfl, rfl⟩ := j6 H
   exact W.now (InBlock.r (Then.r (BodyR.mkR trivial rfl [2] ⟨rfl, rfl⟩ ⟨rfl, AA1, by decide, rfl, trivial⟩ rfl rfl)))
 replace H := cnf hb8 H
 refine WP.sr ?_
 refine WPL.qq (q_mv (v := .lit (.int _ _)) rfl) ?_
 refine WPL.qq (q_eql rfl rfl) ?_
 refine WPL.qq (q_as (v := .lit (.bool _)) rfl) ?_
 refine WPL.nx ?_
 refine WP.cond (t := (decide (x1 = 6))) rfl (fun hb9 => ?_) (fun hb9 => ?_)
 · replace H := cnt hb9 H
   refine WP.seq ?_
   refine WP.regionD' 7 [0, 1] [] mixed rfl ?_
   refine WPD.take 0 rfl (by kernel_rfl) (q_load_ag ag29 rfl rfl (Nat.le_of_ble_eq_true rfl)) rfl rfl ?_
   refine WPD.take 2 rfl (by kernel_rfl) (q_load_ag ag29 rfl rfl (Nat.le_of_ble_eq_true rfl)) rfl rfl ?_
   obtain ⟨x65, h7, H⟩ := bnd H
   refine WPD.ef 1 [0, 1] [] rfl (runs_call (s := []) (t := []) (N := 3) (bor := []) fn27 rfl (s_val_Show k x32 x33 x34 x35 x36 x37 x65 h7) ⟨rfl, trivial, by decide, rfl, trivial⟩ rfl trivial (.ren rfl rfl .nil) rfl trivial rfl) ?_
   obtain ⟨x66, h8, H⟩ := bnd H
   refine WPD.ef 3 [0, 1] [] rfl (runs_call (s := []) (t := []) (N := 3) (bor := []) fn27 rfl (s_val_Show k x38 x39 x40 x41 x42 x43 x66 h8) ⟨rfl, trivial, by decide, rfl, trivial⟩ rfl trivial (.ren rfl rfl .nil) rfl trivial rfl) ?_
   obtain ⟨h9, H⟩ := grd H
   refine WPD.tT 4 rfl (q_concat rfl rfl h9) ?_
   obtain ⟨⟨x67, x68, x69⟩, h10, H⟩ := bnd H
   refine WPD.ef 5 [0, 1] [] rfl (runs_call (s := []) (t := [3]) (N := 4) (bor := []) fn14 rfl (s_val_Str k (x65 ++ x66) x67 x68 x69 h10) ⟨rfl, trivial, by decide, rfl, trivial⟩ rfl trivial (.ren rfl rfl .nil) rfl BB1 rfl) ?_
   refine WPD.effS 6 [0, 1] [] rfl (by kernel_rfl) (s_store sz29 rfl rfl rfl rfl rfl) rfl ?_
   refine WPD.doneW (by kernel_rfl) ?_
   refine W.now ?_
   refine Then.n ?_
   refine WP.retW ?_
   obtain ⟨rfl, rfl, rfl, rfl, rfl, rfl⟩ := j6 H
   exact W.now (InBlock.r (Then.r (BodyR.mkR trivial rfl [2] ⟨rfl, rfl⟩ ⟨rfl, AA1, by decide, rfl, trivial⟩ rfl rfl)))
 replace H := cnf hb9 H
 refine WP.skipW ?_
 refine W.now ?_
 refine InBlock.n ?_
 refine Then.n ?_
 refine WP.sr ?_
 refine WPL.qq (q_load_ag ag29 rfl rfl (Nat.le_of_ble_eq_true rfl)) ?_
 refine WPL.qq (q_load_ag ag29 rfl rfl (Nat.le_of_ble_eq_true rfl)) ?_
 obtain ⟨x70, h11, H⟩ := bnd H
 refine WPL.c (runs_call (s := []) (t := []) (N := 3) (bor := []) fn26 rfl (s_val_Cmp k x32 x33 x34 x35 x36 x37 x38 x39 x40 x41 x42 x43 x70 h11) ⟨rfl, trivial, by decide, rfl, trivial⟩ rfl trivial (.ren rfl rfl (.ren rfl rfl .nil)) rfl trivial rfl) rfl ?_
 refine WPL.qq (q_as (v := .lit (.int _ _)) rfl) ?_
 refine WPL.nx ?_
 refine WP.seq ?_
 refine WP.sr ?_
 refine WPL.qq (q_mv (v := .lit (.int _ _)) rfl) ?_
 refine WPL.nx ?_
 refine WP.block ?_
 refine WP.sr ?_
 refine WPL.qq (q_eql rfl rfl) ?_
 refine WPL.qq (q_as (v := .lit (.bool _)) rfl) ?_
 refine WPL.nx ?_
 refine WP.cond (t := (decide (x1 = 7))) rfl (fun hb10 => ?_) (fun hb10 => ?_)
 · replace H := cnt hb10 H
   refine WP.sr ?_
   refine WPL.qq (q_mv (v := .lit (.int _ _)) rfl) ?_
   refine WPL.qq (q_eql rfl rfl) ?_
   obtain ⟨_, h12, H⟩ := bnd H
   refine WPL.c (runs_call (s := []) (t := [3]) (N := 4) (bor := []) fn21 rfl (s_val_Truth k (decide (x70 = 0)) h12) ⟨rfl, trivial, by decide, rfl, trivial⟩ rfl trivial (.ren rfl rfl .nil) rfl BB1 rfl) rfl ?_
   refine WPL.s (s_store sz29 rfl rfl rfl rfl rfl) ?_
   refine WPL.nx ?_
   refine WP.retW ?_
   obtain ⟨rfl, rfl, rfl, rfl, rfl, rfl⟩ := j6 H
   exact W.now (InBlock.r (Then.r (BodyR.mkR trivial rfl [2] ⟨rfl, rfl⟩ ⟨rfl, AA1, by decide, rfl, trivial⟩ rfl rfl)))
 replace H := cnf hb10 H
 refine WP.sr ?_
 refine WPL.qq (q_eql rfl rfl) ?_
 refine WPL.qq (q_as (v := .lit (.bool _)) rfl) ?_
 refine WPL.nx ?_
 refine WP.cond (t := (decide (x1 = 8))) rfl (fun hb11 => ?_) (fun hb11 => ?_)
 · replace H := cnt hb11 H
   refine WP.sr ?_
   refine WPL.qq (q_mv (v := .lit (.int _ _)) rfl) ?_
   refine WPL.qq (q_neq rfl rfl) ?_
   obtain ⟨_, h13, H⟩ := bnd H
   refine WPL.c (runs_call (s := []) (t := [3]) (N := 4) (bor := []) fn21 rfl (s_val_Truth k (!decide (x70 = 0)) h13) ⟨rfl, trivial, by decide, rfl, trivial⟩ rfl trivial (.ren rfl rfl .nil) rfl BB1 rfl) rfl ?_
   refine WPL.s (s_store sz29 rfl rfl rfl rfl rfl) ?_
   refine WPL.nx ?_
   refine WP.retW ?_
   obtain ⟨rfl, rfl, rfl, rfl, rfl, rfl⟩ := j6 H
   exact W.now (InBlock.r (Then.r (BodyR.mkR trivial rfl [2] ⟨rfl, rfl⟩ ⟨rfl, AA1, by decide, rfl, trivial⟩ rfl rfl)))
 replace H := cnf hb11 H
 refine WP.sr ?_
 refine WPL.qq (q_eql rfl rfl) ?_
 refine WPL.qq (q_as (v := .lit (.bool _)) rfl) ?_
 refine WPL.nx ?_
 refine WP.cond (t := (decide (x1 = 9))) rfl (fun hb12 => ?_) (fun hb12 => ?_)
 · replace H := cnt hb12 H
   refine WP.sr ?_
   refine WPL.qq (q_mv (v := .lit (.int _ _)) rfl) ?_
   refine WPL.qq (q_lss rfl rfl) ?_
   obtain ⟨_, h14, H⟩ := bnd H
   refine WPL.c (runs_call (s := []) (t := [3]) (N := 4) (bor := []) fn21 rfl (s_val_Truth k (decide (x70 < 0)) h14) ⟨rfl, trivial, by decide, rfl, trivial⟩ rfl trivial (.ren rfl rfl .nil) rfl BB1 rfl) rfl ?_
   refine WPL.s (s_store sz29 rfl rfl rfl rfl rfl) ?_
   refine WPL.nx ?_
   refine WP.retW ?_
   obtain ⟨rfl, rfl, rfl, rfl, rfl, rfl⟩ := j6 H
   exact W.now (InBlock.r (Then.r (BodyR.mkR trivial rfl [2] ⟨rfl, rfl⟩ ⟨rfl, AA1, by decide, rfl, trivial⟩ rfl rfl)))
 replace H := cnf hb12 H
 refine WP.sr ?_
 refine WPL.qq (q_eql rfl rfl) ?_
 refine WPL.qq (q_as (v := .lit (.bool _)) rfl) ?_
 refine WPL.nx ?_
 refine WP.cond (t := (decide (x1 = 10))) rfl (fun hb13 => ?_) (fun hb13 => ?_)
 · replace H := cnt hb13 H
   refine WP.sr ?_
   refine WPL.qq (q_mv (v := .lit (.int _ _)) rfl) ?_
   refine WPL.qq (q_leq rfl rfl) ?_
   obtain ⟨_, h15, H⟩ := bnd H
   refine WPL.c (runs_call (s := []) (t := [3]) (N := 4) (bor := []) fn21 rfl (s_val_Truth k (decide (x70 ≤ 0)) h15) ⟨rfl, trivial, by decide, rfl, trivial⟩ rfl trivial (.ren rfl rfl .nil) rfl BB1 rfl) rfl ?_
   refine WPL.s (s_store sz29 rfl rfl rfl rfl rfl) ?_
   refine WPL.nx ?_
   refine WP.retW ?_
   obtain ⟨rfl, rfl, rfl, rfl, rfl, rfl⟩ := j6 H
   exact W.now (InBlock.r (Then.r (BodyR.mkR trivial rfl [2] ⟨rfl, rfl⟩ ⟨rfl, AA1, by decide, rfl, trivial⟩ rfl rfl)))
 replace H := cnf hb13 H
 refine WP.sr ?_
 refine WPL.qq (q_eql rfl rfl) ?_
 refine WPL.qq (q_as (v := .lit (.bool _)) rfl) ?_
 refine WPL.nx ?_
 refine WP.cond (t := (decide (x1 = 11))) rfl (fun hb14 => ?_) (fun hb14 => ?_)
 · replace H := cnt hb14 H
   refine WP.sr ?_
   refine WPL.qq (q_mv (v := .lit (.int _ _)) rfl) ?_
   refine WPL.qq (q_gtr rfl rfl) ?_
   obtain ⟨_, h16, H⟩ := bnd H
   refine WPL.c (runs_call (s := []) (t := [3]) (N := 4) (bor := []) fn21 rfl (s_val_Truth k (decide (0 < x70)) h16) ⟨rfl, trivial, by decide, rfl, trivial⟩ rfl trivial (.ren rfl rfl .nil) rfl BB1 rfl) rfl ?_
   refine WPL.s (s_store sz29 rfl rfl rfl rfl rfl) ?_
   refine WPL.nx ?_
   refine WP.retW ?_
   obtain ⟨rfl, rfl, rfl, rfl, rfl, rfl⟩ := j6 H
   exact W.now (InBlock.r (Then.r (BodyR.mkR trivial rfl [2] ⟨rfl, rfl⟩ ⟨rfl, AA1, by decide, rfl, trivial⟩ rfl rfl)))
 replace H := cnf hb14 H
 refine WP.sr ?_
 refine WPL.qq (q_eql rfl rfl) ?_
 refine WPL.qq (q_as (v := .lit (.bool _)) rfl) ?_
 refine WPL.nx ?_
 refine WP.cond (t := (decide (x1 = 12))) rfl (fun hb15 => ?_) (fun hb15 => ?_)
 · replace H := cnt hb15 H
   refine WP.sr ?_
   refine WPL.qq (q_mv (v := .lit (.int _ _)) rfl) ?_
   refine WPL.qq (q_geq rfl rfl) ?_
   obtain ⟨_, h17, H⟩ := bnd H
   refine WPL.c (runs_call (s := []) (t := [3]) (N := 4) (bor := []) fn21 rfl (s_val_Truth k (decide (0 ≤ x70)) h17) ⟨rfl, trivial, by decide, rfl, trivial⟩ rfl trivial (.ren rfl rfl .nil) rfl BB1 rfl) rfl ?_
   refine WPL.s (s_store sz29 rfl rfl rfl rfl rfl) ?_
   refine WPL.nx ?_
   refine WP.retW ?_
   obtain ⟨rfl, rfl, rfl, rfl, rfl, rfl⟩ := j6 H
   exact W.now (InBlock.r (Then.r (BodyR.mkR trivial rfl [2] ⟨rfl, rfl⟩ ⟨rfl, AA1, by decide, rfl, trivial⟩ rfl rfl)))
 replace H := cnf hb15 H
 refine WP.skipW ?_
 refine W.now ?_
 refine InBlock.n ?_
 refine Then.n ?_
 refine WP.sr ?_
 obtain ⟨x71, h18, H⟩ := bnd H
 refine WPL.c (runs_call (s := []) (t := [3]) (N := 4) (bor := []) fn16 rfl (s_val_Err k 2 x71 h18) ⟨rfl, trivial, by decide, rfl, trivial⟩ rfl trivial (.ren rfl rfl .nil) rfl BB1 rfl) rfl ?_
 refine WPL.s (s_store sz29 rfl rfl rfl rfl rfl) ?_
 refine WPL.nx ?_
 refine WP.retW ?_
 obtain ⟨rfl, rfl, rfl, rfl, rfl, rfl⟩ := j6 H
 exact W.now (BodyR.mkR trivial rfl [2] ⟨rfl, rfl⟩ ⟨rfl, AA1, by decide, rfl, trivial⟩ rfl rfl)
theorem s_quirelaw13_num (k : Nat) (x1 : Int) (H : g_quirelaw13_num k x1 = some ()) : Go.Q.Spec Tryz.prog 52 0 [.lit (.int .i64 x1)] Mem.nil (fun o M => o = .ret (.agg [.lit (.int .i64 1), .lit (.int .i64 x1), .lit (.int .i64 0), .lit (.string (ByteArray.mk #[])), .lit (.bool false), .lit (.int .i64 0)]) ∧ M = (Mem.nil.push (.cells 29 [.lit (.int .i64 1), .lit (.int .i64 x1), .lit (.int .i64 0), .lit (.string (ByteArray.mk #[])), .lit (.bool false), .lit (.int .i64 0)]))) := by
 unfold g_quirelaw13_num at H
 refine Go.Q.Spec.of_bodyR (az := [(29, 6)]) (rs := [.cell 2 29]) (nt := 6) Tryz.func52 rfl rfl (by intro t T h; simp at h; rcases h with ⟨rfl, rfl⟩ <;> first | exact ag29) rfl rfl fun cx hnp => ?_
 refine WP.sr ?_
 refine WPL.d (d_alloc ze29 rfl) rfl ?_
 refine WPL.nx ?_
 refine WP.sr ?_
 refine WPL.qq (q_mv (v := .lit (.int _ _)) rfl) ?_
 refine WPL.qq (q_build bu23 rfl) ?_
 refine WPL.qq (q_build bu29 rfl) ?_
 refine WPL.s (s_store sz29 rfl rfl rfl rfl rfl) ?_
 refine WPL.nx ?_
 refine WP.retW ?_
 exact W.now (BodyR.mkR trivial rfl [0] ⟨rfl, rfl⟩ ⟨rfl, AA1, by decide, rfl, trivial⟩ rfl rfl)
theorem s_quirelaw13_alive (k : Nat) (x1 : Bool) (H : g_quirelaw13_alive k = some x1) : Go.Q.Spec Tryz.prog 23 0 [] Mem.nil (fun o M => o = .ret (.lit (.bool x1)) ∧ M = Mem.nil) := by
 unfold g_quirelaw13_alive at H
 refine Go.Q.Spec.of_bodyR (az := []) (rs := [.tmp 0]) (nt := 34) Tryz.func23 rfl rfl (by intro t T h; simp at h) rfl rfl fun cx hnp => ?_
 refine WP.sr ?_
 refine WPL.qq (q_as (v := .lit (.bool _)) rfl) ?_
 refine WPL.nx ?_
 refine WP.seq ?_
 obtain ⟨x2, H1, H⟩ := bnd H
 refine WP.monoW (Q := fun x E M => x = .normal ∧ E = (Env.none.upd 0 (.lit (.bool x2))) ∧ M = Mem.nil) ?_ ?_
 · clear H
   have H := H1
   clear H1
   refine WP.region ?_
   obtain ⟨⟨x3, x4, x5⟩, h1, H⟩ := bnd H
   refine WPL.c (runs_call (s := []) (t := [0]) (N := 1) (bor := []) fn14 rfl (s_val_Str k (ByteArray.mk #[50]) x3 x4 x5 h1) ⟨rfl, trivial, by decide, rfl, trivial⟩ rfl trivial (.ren rfl rfl .nil) rfl BB1 rfl) rfl ?_
   obtain ⟨_, h2, H⟩ := bnd H
   refine WPL.c (runs_call (s := []) (t := [1]) (N := 2) (bor := []) fn21 rfl (s_val_Truth k true h2) ⟨rfl, trivial, by decide, rfl, trivial⟩ rfl trivial (.ren rfl rfl .nil) rfl BB1 rfl) rfl ?_
   obtain ⟨⟨x6, x7, x8, x9, x10, x11⟩, h3, H⟩ := bnd H
   refine WPL.c (runs_call (s := []) (t := [2]) (N := 3) (bor := []) fn28 rfl (s_val_Bin k 1 x3 0 0 x4 false x5 3 0 0 (ByteArray.mk #[]) true 0 x6 x7 x8 x9 x10 x11 h3) ⟨rfl, trivial, by decide, rfl, trivial⟩ rfl trivial (.ren rfl rfl (.ren rfl rfl (.ren rfl rfl .nil))) rfl BB1 rfl) rfl ?_
   obtain ⟨_, h4, H⟩ := bnd H
   refine WPL.c (runs_call (s := []) (t := [3]) (N := 4) (bor := []) fn52 rfl (s_quirelaw13_num k 3 h4) ⟨rfl, trivial, by decide, rfl, trivial⟩ rfl trivial (.ren rfl rfl .nil) rfl BB1 rfl) rfl ?_
   obtain ⟨x12, h5, H⟩ := bnd H
   refine WPL.qq (q_nm (q_eqlAg (xs := [(.int .i64 x6), (.int .i64 x7), (.int .i64 x8), (.string x9), (.bool x10), (.int .i64 x11)]) (ys := [(.int .i64 1), (.int .i64 3), (.int .i64 0), (.string (ByteArray.mk #[])), (.bool false), (.int .i64 0)]) (n := 9) rfl eg29 rfl rfl eq29) (nm_bool h5)) ?_
   refine WPL.qq (q_mv (v := .lit (.bool _)) rfl) ?_
   refine WPL.split (t := 6) (b := x12) rfl (fun hb1 => ?_) (fun hb1 => ?_)
   · replace H := cnt hb1 H
     obtain ⟨_, h6, H⟩ := bnd H
     refine WPL.cg rfl rfl (lb hb1) (runs_call (s := []) (t := [4]) (N := 5) (bor := []) fn52 rfl (s_quirelaw13_num k 1 h6) ⟨rfl, trivial, by decide, rfl, trivial⟩ rfl trivial (.ren rfl rfl .nil) rfl BB1 rfl) rfl ?_
     obtain ⟨_, h7, H⟩ := bnd H
     refine WPL.cg rfl rfl (lb hb1) (runs_call (s := []) (t := [5]) (N := 6) (bor := []) fn52 rfl (s_quirelaw13_num k 0 h7) ⟨rfl, trivial, by decide, rfl, trivial⟩ rfl trivial (.ren rfl rfl .nil) rfl BB1 rfl) rfl ?_
     obtain ⟨⟨x13, x14, x15, x16, x17, x18⟩, h8, H⟩ := bnd H
     refine WPL.cg rfl rfl (lb hb1) (runs_call (s := []) (t := [6]) (N := 7) (bor := []) fn28 rfl (s_val_Bin k 4 1 1 0 (ByteArray.mk #[]) false 0 1 0 0 (ByteArray.mk #[]) false 0 x13 x14 x15 x16 x17 x18 h8) ⟨rfl, trivial, by decide, rfl, trivial⟩ rfl trivial (.ren rfl rfl (.ren rfl rfl (.ren rfl rfl .nil))) rfl BB1 rfl) rfl ?_
     obtain ⟨x19, h9, H⟩ := bnd H
     refine WPL.cg rfl rfl (lb hb1) (runs_call (s := []) (t := [7]) (N := 8) (bor := []) fn16 rfl (s_val_Err k 1 x19 h9) ⟨rfl, trivial, by decide, rfl, trivial⟩ rfl trivial (.ren rfl rfl .nil) rfl BB1 rfl) rfl ?_
     obtain ⟨x20, h10, H⟩ := bnd H
     refine WPL.gq rfl (lb hb1) (q_nm (q_eqlAg (xs := [(.int .i64 x13), (.int .i64 x14), (.int .i64 x15), (.string x16), (.bool x17), (.int .i64 x18)]) (ys := [(.int .i64 4), (.int .i64 0), (.int .i64 0), (.string (ByteArray.mk #[])), (.bool false), (.int .i64 x19)]) (n := 9) rfl eg29 rfl rfl eq29) (nm_bool h10)) ?_
     refine WPL.qq (q_pickT (v := .lit (.bool _)) (lb hb1) rfl) ?_
     refine WPL.qq (q_mv (v := .lit (.bool _)) rfl) ?_
     refine WPL.split (t := 13) (b := x20) rfl (fun hb2 => ?_) (fun hb2 => ?_)
     · replace H := cnt hb2 H
       obtain ⟨⟨x21, x22, x23⟩, h11, H⟩ := bnd H
       refine WPL.cg rfl rfl (lb hb2) (runs_call (s := []) (t := [8]) (N := 9) (bor := []) fn14 rfl (s_val_Str k (ByteArray.mk #[97]) x21 x22 x23 h11) ⟨rfl, trivial, by decide, rfl, trivial⟩ rfl trivial (.ren rfl rfl .nil) rfl BB1 rfl) rfl ?_
       obtain ⟨⟨x24, x25, x26⟩, h12, H⟩ := bnd H
       refine WPL.cg rfl rfl (lb hb2) (runs_call (s := []) (t := [9]) (N := 10) (bor := []) fn14 rfl (s_val_Str k (ByteArray.mk #[65]) x24 x25 x26 h12) ⟨rfl, trivial, by decide, rfl, trivial⟩ rfl trivial (.ren rfl rfl .nil) rfl BB1 rfl) rfl ?_
       obtain ⟨x27, h13, H⟩ := bnd H
       refine WPL.cg rfl rfl (lb hb2) (runs_call (s := []) (t := []) (N := 10) (bor := []) fn26 rfl (s_val_Cmp k x21 0 0 x22 false x23 x24 0 0 x25 false x26 x27 h13) ⟨rfl, trivial, by decide, rfl, trivial⟩ rfl trivial (.ren rfl rfl (.ren rfl rfl .nil)) rfl trivial rfl) rfl ?_
       refine WPL.gq rfl (lb hb2) (q_eql rfl rfl) ?_
       refine WPL.qq (q_pickT (v := .lit (.bool _)) (lb hb2) rfl) ?_
       refine WPL.qq (q_mv (v := .lit (.bool _)) rfl) ?_
       refine WPL.split (t := 19) (b := (decide (x27 = 0))) rfl (fun hb3 => ?_) (fun hb3 => ?_)
       · replace H := cnt hb3 H
         obtain ⟨⟨x28, x29, x30, x31, x32, x33⟩, h14, H⟩ := bnd H
         refine WPL.cg rfl rfl (lb hb3) (runs_call (s := []) (t := [10]) (N := 11) (bor := []) fn19 rfl (s_val_Typed k (ByteArray.mk #[39, 49, 50]) x28 x29 x30 x31 x32 x33 h14) ⟨rfl, trivial, by decide, rfl, trivial⟩ rfl trivial (.ren rfl rfl .nil) rfl BB1 rfl) rfl ?_
         obtain ⟨⟨x34, x35, x36⟩, h15, H⟩ := bnd H
         refine WPL.cg rfl rfl (lb hb3) (runs_call (s := []) (t := [11]) (N := 12) (bor := []) fn14 rfl (s_val_Str k (ByteArray.mk #[49, 50]) x34 x35 x36 h15) ⟨rfl, trivial, by decide, rfl, trivial⟩ rfl trivial (.ren rfl rfl .nil) rfl BB1 rfl) rfl ?_
         obtain ⟨x37, h16, H⟩ := bnd H
         refine WPL.gq rfl (lb hb3) (q_nm (q_eqlAg (xs := [(.int .i64 x28), (.int .i64 x29), (.int .i64 x30), (.string x31), (.bool x32), (.int .i64 x33)]) (ys := [(.int .i64 x34), (.int .i64 0), (.int .i64 0), (.string x35), (.bool false), (.int .i64 x36)]) (n := 9) rfl eg29 rfl rfl eq29) (nm_bool h16)) ?_
         refine WPL.qq (q_pickT (v := .lit (.bool _)) (lb hb3) rfl) ?_
         refine WPL.qq (q_mv (v := .lit (.bool _)) rfl) ?_
         refine WPL.split (t := 24) (b := x37) rfl (fun hb4 => ?_) (fun hb4 => ?_)
         · replace H := cnt hb4 H
           obtain ⟨⟨x38, x39, x40⟩, h17, H⟩ := bnd H
           refine WPL.cg rfl rfl (lb hb4) (runs_call (s := []) (t := [12]) (N := 13) (bor := []) fn14 rfl (s_val_Str k (ByteArray.mk #[120]) x38 x39 x40 h17) ⟨rfl, trivial, by decide, rfl, trivial⟩ rfl trivial (.ren rfl rfl .nil) rfl BB1 rfl) rfl ?_
           refine WPL.gq rfl (lb hb4) (q_field fi29_2 sc9 rfl rfl) ?_
           obtain ⟨x41, h18, H⟩ := bnd H
           refine WPL.gq rfl (lb hb4) (q_nm (q_eqls rfl rfl) (nm_bool h18)) ?_
           refine WPL.qq (q_pickT (v := .lit (.bool _)) (lb hb4) rfl) ?_
           refine WPL.qq (q_mv (v := .lit (.bool _)) rfl) ?_
           refine WPL.split (t := 29) (b := x41) rfl (fun hb5 => ?_) (fun hb5 => ?_)
           · replace H := cnt hb5 H
             obtain ⟨x42, h19, H⟩ := bnd H
             refine WPL.cg rfl rfl (lb hb5) (runs_call (s := []) (t := [13]) (N := 14) (bor := []) fn16 rfl (s_val_Err k 6 x42 h19) ⟨rfl, trivial, by decide, rfl, trivial⟩ rfl trivial (.ren rfl rfl .nil) rfl BB1 rfl) rfl ?_
             obtain ⟨x43, h20, H⟩ := bnd H
             refine WPL.cg rfl rfl (lb hb5) (runs_call (s := []) (t := []) (N := 14) (bor := []) fn27 rfl (s_val_Show k 4 0 0 (ByteArray.mk #[]) false x42 x43 h20) ⟨rfl, trivial, by decide, rfl, trivial⟩ rfl trivial (.ren rfl rfl .nil) rfl trivial rfl) rfl ?_
             obtain ⟨x44, h21, H⟩ := bnd H
             refine WPL.gq rfl (lb hb5) (q_nm (q_eqls rfl rfl) (nm_bool h21)) ?_
             refine WPL.qq (q_pickT (v := .lit (.bool _)) (lb hb5) rfl) ?_
             refine WPL.qq (q_as (v := .lit (.bool _)) rfl) ?_
             refine WPL.nilW ?_
             have q0 := j1 H
             subst q0
             exact W.wk [] hnp r3 ⟨rfl, trivial, by decide, rfl, trivial⟩ (LeE.u (LeE.none rfl rfl)) rfl
           replace H := cnf hb5 H
           refine WPL.sg false rfl (lb hb5) ?_
           refine WPL.sg false rfl (lb hb5) ?_
           refine WPL.sg false rfl (lb hb5) ?_
           refine WPL.qq (q_pickF (v := .lit (.bool _)) (lb hb5) rfl) ?_
           refine WPL.qq (q_as (v := .lit (.bool _)) rfl) ?_
           refine WPL.nilW ?_
           have q0 := j1 H
           subst q0
           exact W.wk [] hnp r3 ⟨rfl, trivial, by decide, rfl, trivial⟩ (LeE.u (LeE.none rfl rfl)) rfl
         replace H := cnf hb4 H
         refine WPL.sg false rfl (lb hb4) ?_
         refine WPL.sg false rfl (lb hb4) ?_
         refine WPL.sg false rfl (lb hb4) ?_
         refine WPL.qq (q_pickF (v := .lit (.bool _)) (lb hb4) rfl) ?_
         refine WPL.qq (q_mv (v := .lit (.bool _)) rfl) ?_
         refine WPL.sg false rfl rfl ?_
         refine WPL.sg false rfl rfl ?_
         refine WPL.sg false rfl rfl ?_
         refine WPL.qq (q_pickF (v := .lit (.bool _)) rfl rfl) ?_
         refine WPL.qq (q_as (v := .lit (.bool _)) rfl) ?_
         refine WPL.nilW ?_
         have q0 := j1 H
         subst q0
         exact W.wk [] hnp r3 ⟨rfl, trivial, by decide, rfl, trivial⟩ (LeE.u (LeE.none rfl rfl)) rfl
       replace H := cnf hb3 H
       refine WPL.sg false rfl (lb hb3) ?_
       refine WPL.sg false rfl (lb hb3) ?_
       refine WPL.sg false rfl (lb hb3) ?_
       refine WPL.qq (q_pickF (v := .lit (.bool _)) (lb hb3) rfl) ?_
       refine WPL.qq (q_mv (v := .lit (.bool _)) rfl) ?_
       refine WPL.sg false rfl rfl ?_
       refine WPL.sg false rfl rfl ?_
       refine WPL.sg false rfl rfl ?_
       refine WPL.qq (q_pickF (v := .lit (.bool _)) rfl rfl) ?_
       refine WPL.qq (q_mv (v := .lit (.bool _)) rfl) ?_
       refine WPL.sg false rfl rfl ?_
       refine WPL.sg false rfl rfl ?_
       refine WPL.sg false rfl rfl ?_
       refine WPL.qq (q_pickF (v := .lit (.bool _)) rfl rfl) ?_
       refine WPL.qq (q_as (v := .lit (.bool _)) rfl) ?_
       refine WPL.nilW ?_
       have q0 := j1 H
       subst q0
       exact W.wk [] hnp r3 ⟨rfl, trivial, by decide, rfl, trivial⟩ (LeE.u (LeE.none rfl rfl)) rfl
     replace H := cnf hb2 H
     refine WPL.sg false rfl (lb hb2) ?_
     refine WPL.sg false rfl (lb hb2) ?_
     refine WPL.sg false rfl (lb hb2) ?_
     refine WPL.sg false rfl (lb hb2) ?_
     refine WPL.qq (q_pickF (v := .lit (.bool _)) (lb hb2) rfl) ?_
     refine WPL.qq (q_mv (v := .lit (.bool _)) rfl) ?_
     refine WPL.sg false rfl rfl ?_
     refine WPL.sg false rfl rfl ?_
     refine WPL.sg false rfl rfl ?_
     refine WPL.qq (q_pickF (v := .lit (.bool _)) rfl rfl) ?_
     refine WPL.qq (q_mv (v := .lit (.bool _)) rfl) ?_
     refine WPL.sg false rfl rfl ?_
     refine WPL.sg false rfl rfl ?_
     refine WPL.sg false rfl rfl ?_
     refine WPL.qq (q_pickF (v := .lit (.bool _)) rfl rfl) ?_
     refine WPL.qq (q_mv (v := .lit (.bool _)) rfl) ?_
     refine WPL.sg false rfl rfl ?_
     refine WPL.sg false rfl rfl ?_
     refine WPL.sg false rfl rfl ?_
     refine WPL.qq (q_pickF (v := .lit (.bool _)) rfl rfl) ?_
     refine WPL.qq (q_as (v := .lit (.bool _)) rfl) ?_
     refine WPL.nilW ?_
     have q0 := j1 H
     subst q0
     exact W.wk [] hnp r3 ⟨rfl, trivial, by decide, rfl, trivial⟩ (LeE.u (LeE.none rfl rfl)) rfl
   replace H := cnf hb1 H
   refine WPL.sg false rfl (lb hb1) ?_
   refine WPL.sg false rfl (lb hb1) ?_
   refine WPL.sg false rfl (lb hb1) ?_
   refine WPL.sg false rfl (lb hb1) ?_
   refine WPL.sg false rfl (lb hb1) ?_
   refine WPL.qq (q_pickF (v := .lit (.bool _)) (lb hb1) rfl) ?_
   refine WPL.qq (q_mv (v := .lit (.bool _)) rfl) ?_
   refine WPL.sg false rfl rfl ?_
   refine WPL.sg false rfl rfl ?_
   refine WPL.sg false rfl rfl ?_
   refine WPL.sg false rfl rfl ?_
   refine WPL.qq (q_pickF (v := .lit (.bool _)) rfl rfl) ?_
   refine WPL.qq (q_mv (v := .lit (.bool _)) rfl) ?_
   refine WPL.sg false rfl rfl ?_
   refine WPL.sg false rfl rfl ?_
   refine WPL.sg false rfl rfl ?_
   refine WPL.qq (q_pickF (v := .lit (.bool _)) rfl rfl) ?_
   refine WPL.qq (q_mv (v := .lit (.bool _)) rfl) ?_
   refine WPL.sg false rfl rfl ?_
   refine WPL.sg false rfl rfl ?_
   refine WPL.sg false rfl rfl ?_
   refine WPL.qq (q_pickF (v := .lit (.bool _)) rfl rfl) ?_
   refine WPL.qq (q_mv (v := .lit (.bool _)) rfl) ?_
   refine WPL.sg false rfl rfl ?_
   refine WPL.sg false rfl rfl ?_
   refine WPL.sg false rfl rfl ?_
   refine WPL.qq (q_pickF (v := .lit (.bool _)) rfl rfl) ?_
   refine WPL.qq (q_as (v := .lit (.bool _)) rfl) ?_
   refine WPL.nilW ?_
   have q0 := j1 H
   subst q0
   exact W.wk [] hnp r3 ⟨rfl, trivial, by decide, rfl, trivial⟩ (LeE.u (LeE.none rfl rfl)) rfl
 rintro _ _ _ ⟨rfl, rfl, rfl⟩
 refine W.now ?_
 refine Then.n ?_
 refine WP.retW ?_
 have q0 := j1 H
 subst q0
 exact W.now (BodyR.mkR trivial rfl [] ⟨rfl, rfl⟩ ⟨rfl, trivial, by decide, rfl, trivial⟩ rfl rfl)
end Go.Proofs.YthpcgknknpjpdaaGreatDoor.W
namespace Go.Proofs.YthpcgknknpjpdaaGreatDoor.W
open Go Go.Q Go.Proofs
set_option linter.unusedVariables false
set_option linter.unusedSimpArgs false
set_option maxRecDepth 100000
set_option maxHeartbeats 4000000
theorem s_quirelaw13_ValBack (k : Nat) (x1 : Int) (x2 : Int) (x3 : Int) (x4 : ByteArray) (x5 : Bool) (x6 : Int) (x7 : Bool) (H : g_quirelaw13_ValBack k x1 x2 x3 x4 x5 x6 = some x7) : Go.Q.Spec Tryz.prog 5 0 [.agg [.lit (.int .i64 x1), .lit (.int .i64 x2), .lit (.int .i64 x3), .lit (.string x4), .lit (.bool x5), .lit (.int .i64 x6)]] Mem.nil (fun o M => o = .ret (.lit (.bool x7)) ∧ M = Mem.nil) := by
 unfold g_quirelaw13_ValBack at H
 refine Go.Q.Spec.of_bodyR (az := []) (rs := [.tmp 2]) (nt := 20) Tryz.func5 rfl rfl (by intro t T h; simp at h) rfl rfl fun cx hnp => ?_
 refine WP.sr ?_
 refine WPL.d (d_box rfl rfl) rfl ?_
 refine WPL.qq (q_as (v := .lit (.bool _)) rfl) ?_
 refine WPL.nx ?_
 refine WP.seq ?_
 refine WP.seq ?_
 obtain ⟨x8, H1, H⟩ := bnd H
 refine WP.monoW (Q := fun x E M => x = .normal ∧ E = ((Env.none.upd 1 (.ptr 0 0)).upd 10 (.lit (.bool x8))) ∧ M = (Mem.nil.push (.cells 29 [.lit (.int .i64 x1), .lit (.int .i64 x2), .lit (.int .i64 x3), .lit (.string x4), .lit (.bool x5), .lit (.int .i64 x6)]))) ?_ ?_
 · clear H
   have H := H1
   clear H1
   refine WP.region ?_
   refine WPL.qq (q_load_ag ag29 rfl rfl (Nat.le_of_ble_eq_true rfl)) ?_
   obtain ⟨x9, h1, H⟩ := bnd H
   refine WPL.c (runs_call (s := []) (t := []) (N := 1) (bor := []) fn25 rfl (s_val_Right k x1 x2 x3 x4 x5 x6 x9 h1) ⟨rfl, trivial, by decide, rfl, trivial⟩ rfl trivial (.ren rfl rfl .nil) rfl trivial rfl) rfl ?_
   refine WPL.qq (q_not rfl) ?_
   refine WPL.qq (q_mv (v := .lit (.bool _)) rfl) ?_
   refine WPL.split (t := 6) (b := (!x9)) rfl (fun hb1 => ?_) (fun hb1 => ?_)
   · replace H := cnt hb1 H
     refine WPL.sg true rfl (lb hb1) ?_
     refine WPL.sg true rfl (lb hb1) ?_
     refine WPL.sg true rfl (lb hb1) ?_
     refine WPL.qq (q_pickT (v := .lit (.bool _)) (lb hb1) rfl) ?_
     refine WPL.nilW ?_
     have q0 := j1 H
     subst q0
     exact W.wk [0] hnp r3 ⟨rfl, AA1, by decide, rfl, trivial⟩ (LeE.u (LeE.u (LeE.none rfl rfl))) rfl
   replace H := cnf hb1 H
   refine WPL.gq rfl (lb hb1) (q_fieldAddr fi29_0 rfl rfl) ?_
   refine WPL.gq rfl (lb hb1) (q_load sc3 rfl rfl rfl) ?_
   refine WPL.gq rfl (lb hb1) (q_eql rfl rfl) ?_
   refine WPL.qq (q_pickF (v := .lit (.bool _)) (lb hb1) rfl) ?_
   refine WPL.nilW ?_
   have q0 := j1 H
   subst q0
   exact W.wk [0] hnp r3 ⟨rfl, AA1, by decide, rfl, trivial⟩ (LeE.u (LeE.u (LeE.none rfl rfl))) rfl
 rintro _ _ _ ⟨rfl, rfl, rfl⟩
 refine W.now ?_
 refine Then.n ?_
 refine WP.cond (t := x8) rfl (fun hb2 => ?_) (fun hb2 => ?_)
 · replace H := cnt hb2 H
   refine WP.sr ?_
   obtain ⟨x10, h2, H⟩ := bnd H
   refine WPL.c (runs_call (s := []) (t := []) (N := 1) (bor := []) fn23 rfl (s_quirelaw13_alive k x10 h2) ⟨rfl, trivial, by decide, rfl, trivial⟩ rfl trivial .nil rfl trivial rfl) rfl ?_
   refine WPL.qq (q_as (v := .lit (.bool _)) rfl) ?_
   refine WPL.nx ?_
   refine WP.retW ?_
   have q0 := j1 H
   subst q0
   exact W.now (Then.r (BodyR.mkR trivial rfl [] ⟨rfl, rfl⟩ ⟨rfl, trivial, by decide, rfl, trivial⟩ rfl rfl))
 replace H := cnf hb2 H
 refine WP.skipW ?_
 refine W.now ?_
 refine Then.n ?_
 refine WP.seq ?_
 obtain ⟨x11, H2, H⟩ := bnd H
 refine WP.monoW (Q := fun x E M => x = .normal ∧ E = (Env.none.upd 2 (.lit (.bool x11))) ∧ M = Mem.nil) ?_ ?_
 · clear H
   have H := H2
   clear H2
   refine WP.regionD' 9 [0] [] mixed rfl ?_
   refine WPD.take 0 rfl (by kernel_rfl) (q_load_ag ag29 rfl rfl (Nat.le_of_ble_eq_true rfl)) rfl rfl ?_
   refine WPD.take 3 rfl (by kernel_rfl) (q_load_ag ag29 rfl rfl (Nat.le_of_ble_eq_true rfl)) rfl rfl ?_
   obtain ⟨x12, h3, H⟩ := bnd H
   refine WPD.ef 1 [0] [] rfl (runs_call (s := []) (t := []) (N := 1) (bor := []) fn27 rfl (s_val_Show k x1 x2 x3 x4 x5 x6 x12 h3) ⟨rfl, trivial, by decide, rfl, trivial⟩ rfl trivial (.ren rfl rfl .nil) rfl trivial rfl) ?_
   obtain ⟨⟨x13, x14, x15, x16, x17, x18⟩, h4, H⟩ := bnd H
   refine WPD.ef 2 [0] [] rfl (runs_call (s := []) (t := [1]) (N := 2) (bor := []) fn19 rfl (s_val_Typed k x12 x13 x14 x15 x16 x17 x18 h4) ⟨rfl, trivial, by decide, rfl, trivial⟩ rfl trivial (.ren rfl rfl .nil) rfl BB1 rfl) ?_
   obtain ⟨x19, h5, H⟩ := bnd H
   refine WPD.tT 4 rfl (q_nm (q_eqlAg (xs := [(.int .i64 x13), (.int .i64 x14), (.int .i64 x15), (.string x16), (.bool x17), (.int .i64 x18)]) (ys := [(.int .i64 x1), (.int .i64 x2), (.int .i64 x3), (.string x4), (.bool x5), (.int .i64 x6)]) (n := 9) rfl eg29 rfl rfl eq29) (nm_bool h5)) ?_
   refine WPD.tT 5 rfl (q_mv (v := .lit (.bool _)) rfl) ?_
   refine WPD.split (t := 17) (b := x19) rfl (fun hb3 => ?_) (fun hb3 => ?_)
   · replace H := cnt hb3 H
     obtain ⟨x20, h6, H⟩ := bnd H
     refine WPD.effg 6 [0] [] rfl (by kernel_rfl) rfl rfl (lb hb3) (runs_call (s := []) (t := []) (N := 2) (bor := []) fn23 rfl (s_quirelaw13_alive k x20 h6) ⟨rfl, trivial, by decide, rfl, trivial⟩ rfl trivial .nil rfl trivial rfl) rfl rfl ?_
     refine WPD.tT 7 rfl (q_pickT (v := .lit (.bool _)) (lb hb3) rfl) ?_
     refine WPD.tT 8 rfl (q_as (v := .lit (.bool _)) rfl) ?_
     refine WPD.doneW (by kernel_rfl) ?_
     have q0 := j1 H
     subst q0
     exact W.wk [] hnp r3 ⟨rfl, trivial, by decide, rfl, trivial⟩ (LeE.u (LeE.none rfl rfl)) rfl
   replace H := cnf hb3 H
   refine WPD.ps false 6 rfl rfl (lb hb3) ?_
   refine WPD.tT 7 rfl (q_pickF (v := .lit (.bool _)) (lb hb3) rfl) ?_
   refine WPD.tT 8 rfl (q_as (v := .lit (.bool _)) rfl) ?_
   refine WPD.doneW (by kernel_rfl) ?_
   have q0 := j1 H
   subst q0
   exact W.wk [] hnp r3 ⟨rfl, trivial, by decide, rfl, trivial⟩ (LeE.u (LeE.none rfl rfl)) rfl
 rintro _ _ _ ⟨rfl, rfl, rfl⟩
 refine W.now ?_
 refine Then.n ?_
 refine WP.retW ?_
 have q0 := j1 H
 subst q0
 exact W.now (BodyR.mkR trivial rfl [] ⟨rfl, rfl⟩ ⟨rfl, trivial, by decide, rfl, trivial⟩ rfl rfl)
end Go.Proofs.YthpcgknknpjpdaaGreatDoor.W
set_option linter.unusedVariables false
set_option linter.unusedSimpArgs false
namespace Go.Dz
/-- A number, 10 to the 500000 times it. -/
def val (m e : Int) : Int := m * 10 ^ (e + 500000).toNat
theorem p10 (n : Nat) : (0 : Int) < 10 ^ n := Int.pow_pos (by decide)
theorem val_shift {m e : Int} {j : Nat} (he : -500000 ≤ e) : val (m * 10 ^ j) e = val m (e + j) := by
  unfold val
  rw [Int.mul_assoc, ← Int.pow_add, show j + (e + 500000).toNat = (e + j + 500000).toNat by omega]
theorem val_inj {m m' e : Int} (h : val m e = val m' e) : m = m' := by
  unfold val at h
  exact Int.eq_of_mul_eq_mul_right (Int.ne_of_gt (p10 _)) h
theorem val_zero {e : Int} : val 0 e = 0 := by simp [val]
theorem val_eq_zero {m e : Int} (h : val m e = 0) : m = 0 := by
  unfold val at h
  rcases Int.mul_eq_zero.1 h with h | h
  · exact h
  · exact absurd h (Int.ne_of_gt (p10 _))
/-- Two numbers that are equal: one has noughts more. -/
theorem val_rep {m m' e e' : Int} (he : -500000 ≤ e) (hle : e ≤ e') (h : val m e = val m' e') : m = m' * 10 ^ (e' - e).toNat := by
  have h1 := val_shift (m := m') (e := e) (j := (e' - e).toNat) he
  rw [show e + ((e' - e).toNat : Int) = e' by omega, ← h] at h1
  exact (val_inj h1).symm
/-- What a Dec may be. -/
def Canon (c x : Int) : Prop := (c = 0 ∧ x = 0) ∨ (c ≠ 0 ∧ -18 ≤ x ∧ x ≤ 18 ∧ -9223372036854775808 ≤ c ∧ c ≤ 9223372036854775807 ∧ (x = 18 ∨ ¬ (10 : Int) ∣ c))
theorem Canon.rng {c x : Int} (h : Canon c x) : -18 ≤ x ∧ x ≤ 18 ∧ -9223372036854775808 ≤ c ∧ c ≤ 9223372036854775807 := by
  rcases h with ⟨rfl, rfl⟩ | ⟨_, h1, h2, h3, h4, _⟩ <;> omega
theorem dvd_pow10 {m : Int} {n : Nat} (h : n ≠ 0) : (10 : Int) ∣ m * 10 ^ n := by
  obtain ⟨k, rfl⟩ : ∃ k, n = k + 1 := ⟨n - 1, by omega⟩
  exact ⟨m * 10 ^ k, by rw [Int.pow_succ]; rw [← Int.mul_assoc, Int.mul_comm]⟩
theorem Canon.uniq' {c x c' x' : Int} (h : Canon c x) (h' : Canon c' x') (hle : x ≤ x') (e : val c x = val c' x') : c = c' ∧ x = x' := by
  have r := h.rng
  have e1 := val_rep (by omega) hle e
  by_cases hc : c = 0
  · subst hc
    rw [val_zero] at e
    have hc' := val_eq_zero e.symm
    subst hc'
    rcases h with ⟨_, hx⟩ | ⟨h0, _⟩
    · rcases h' with ⟨_, hx'⟩ | ⟨h0, _⟩
      · exact ⟨rfl, by omega⟩
      · exact absurd rfl h0
    · exact absurd rfl h0
  · have hc' : c' ≠ 0 := by rintro rfl; simp at e1; exact hc e1
    by_cases hx : x = x'
    · subst hx
      exact ⟨val_inj e, rfl⟩
    · have h10 : (10 : Int) ∣ c := by rw [e1]; exact dvd_pow10 (by omega)
      have r' := h'.rng
      rcases h with ⟨h0, _⟩ | ⟨_, _, _, _, _, h5 | h5⟩
      · exact absurd h0 hc
      · omega
      · exact absurd h10 h5
theorem Canon.uniq {c x c' x' : Int} (h : Canon c x) (h' : Canon c' x') (e : val c x = val c' x') : c = c' ∧ x = x' := by
  by_cases hle : x ≤ x'
  · exact h.uniq' h' hle e
  · obtain ⟨h1, h2⟩ := h'.uniq' h (by omega) e.symm
    exact ⟨h1.symm, h2.symm⟩
/-- The right Dec of a number, or that there is none. -/
def Tells (p : Int → Prop) (r : (Int × Int) × Int) : Prop :=
  (r.2 = 0 ∧ Canon r.1.1 r.1.2 ∧ p (val r.1.1 r.1.2)) ∨ (r = ((0, 0), 30) ∧ ∀ c x, Canon c x → ¬ p (val c x))
theorem Tells.uniq {p : Int → Prop} {r r' : (Int × Int) × Int} (hp : ∀ a b, p a → p b → a = b) (h : Tells p r) (h' : Tells p r') : r = r' := by
  obtain ⟨⟨c, x⟩, e⟩ := r
  obtain ⟨⟨c', x'⟩, e'⟩ := r'
  rcases h with ⟨h1, h2, h3⟩ | ⟨h1, h2⟩
  · rcases h' with ⟨k1, k2, k3⟩ | ⟨k1, k2⟩
    · have := h2.uniq k2 (hp _ _ h3 k3)
      simp only at h1 k1 this
      rw [h1, k1, this.1, this.2]
    · exact absurd h3 (k2 _ _ h2)
  · rcases h' with ⟨k1, k2, k3⟩ | ⟨k1, k2⟩
    · exact absurd k3 (h2 _ _ k2)
    · rw [h1, k1]
/-- The Decs of a number whose last digit is not nought. -/
theorem canon_iff {m e c x : Int} (hm : m ≠ 0) (hd : ¬ (10 : Int) ∣ m) (he : -500000 ≤ e) : (Canon c x ∧ val c x = val m e) ↔ (x = (if e > 18 then 18 else e) ∧ c = m * 10 ^ (e - x).toNat ∧ -18 ≤ x ∧ -9223372036854775808 ≤ c ∧ c ≤ 9223372036854775807) := by
  constructor
  · rintro ⟨h, e1⟩
    have r := h.rng
    have hc : c ≠ 0 := by
      rintro rfl
      rw [val_zero] at e1
      exact hm (val_eq_zero e1.symm)
    by_cases hle : x ≤ e
    · have e2 := val_rep (by omega) hle e1
      refine ⟨?_, e2, by omega, by omega, by omega⟩
      by_cases hxe : x = e
      · rw [if_neg (by omega), hxe]
      · have h10 : (10 : Int) ∣ c := by rw [e2]; exact dvd_pow10 (by omega)
        rcases h with ⟨h0, _⟩ | ⟨_, _, _, _, _, h5 | h5⟩
        · exact absurd h0 hc
        · rw [if_pos (by omega), h5]
        · exact absurd h10 h5
    · have e2 := val_rep he (by omega) e1.symm
      exact absurd (by rw [e2]; exact dvd_pow10 (by omega)) hd
  · rintro ⟨h1, h2, h3, h4, h5⟩
    have hx : x ≤ e := by split at h1 <;> omega
    have e1 : val c x = val m e := by
      rw [h2, val_shift (by omega), show x + ((e - x).toNat : Int) = e by omega]
    refine ⟨?_, e1⟩
    have hc : c ≠ 0 := by
      rintro rfl
      rw [val_zero] at e1
      exact hm (val_eq_zero e1.symm)
    refine .inr ⟨hc, h3, by split at h1 <;> omega, h4, h5, ?_⟩
    split at h1
    · exact .inl h1
    · refine .inr ?_
      subst h1
      rw [h2]
      simpa using hd
theorem tells_some {m e c x : Int} (hm : m ≠ 0) (hd : ¬ (10 : Int) ∣ m) (he : -500000 ≤ e) (h : x = (if e > 18 then 18 else e) ∧ c = m * 10 ^ (e - x).toNat ∧ -18 ≤ x ∧ -9223372036854775808 ≤ c ∧ c ≤ 9223372036854775807) : Tells (· = val m e) ((c, x), 0) :=
  .inl ⟨rfl, (canon_iff hm hd he).2 h⟩
theorem tells_none {m e : Int} (hm : m ≠ 0) (hd : ¬ (10 : Int) ∣ m) (he : -500000 ≤ e) (h : e < -18 ∨ ¬ (-9223372036854775808 ≤ m * 10 ^ (e - 18).toNat ∧ m * 10 ^ (e - 18).toNat ≤ 9223372036854775807)) : Tells (· = val m e) ((0, 0), 30) := by
  refine .inr ⟨rfl, fun c x hc e1 => ?_⟩
  obtain ⟨h1, h2, h3, h4, h5⟩ := (canon_iff hm hd he).1 ⟨hc, e1⟩
  split at h1
  · subst h1
    rw [h2] at h4 h5
    omega
  · subst h1
    have : (x - 18).toNat = 0 := by omega
    rw [this] at h
    simp at h h2
    omega
theorem tells_zero {e : Int} : Tells (· = val 0 e) ((0, 0), 0) := .inl ⟨rfl, .inl ⟨rfl, rfl⟩, by simp [val_zero]⟩
/-- A whole number of sixty-four bits. -/
def I64 (c : Int) : Prop := -9223372036854775808 ≤ c ∧ c ≤ 9223372036854775807
/-- The exponents that may be. -/
def Rng (e : Int) : Prop := -18 ≤ e ∧ e ≤ 18
instance (e : Int) : Decidable (Rng e) := by unfold Rng; infer_instance
theorem Canon.i64 {c x : Int} (h : Canon c x) : I64 c := ⟨h.rng.2.2.1, h.rng.2.2.2⟩
theorem Canon.rg {c x : Int} (h : Canon c x) : Rng x := ⟨h.rng.1, h.rng.2.1⟩
end Go.Dz
namespace Go.Dz
theorem est_le {B y u d q r : Nat} (hB : 0 < B) (hy : 0 < y) (hq : q * (y / B) + r = u) (h : q * (y % B) ≤ B * r + d) : q ≤ (u * B + d) / y := by
  rw [Nat.le_div_iff_mul_le hy]
  have e : y = y / B * B + y % B := (Nat.div_add_mod' y B).symm
  have : q * y = q * (y / B) * B + q * (y % B) := by
    conv => lhs; rw [e]
    rw [Nat.mul_add, Nat.mul_assoc]
  rw [this, ← hq, Nat.add_mul, Nat.mul_comm r B]
  omega
theorem est_gt {B y u d q r : Nat} (hB : 0 < B) (hu : u < y) (hd : d < B) (hq : q * (y / B) + r = u) (h : B ≤ q ∨ B * r + d < q * (y % B)) : (u * B + d) / y < q := by
  rw [Nat.div_lt_iff_lt_mul (by omega)]
  rcases h with h | h
  · have h1 : (u + 1) * B ≤ y * B := Nat.mul_le_mul_right B hu
    have h2 : B * y ≤ q * y := Nat.mul_le_mul_right y h
    rw [Nat.add_mul, Nat.mul_comm y B] at h1
    omega
  · have e : y = y / B * B + y % B := (Nat.div_add_mod' y B).symm
    have : q * y = q * (y / B) * B + q * (y % B) := by
      conv => lhs; rw [e]
      rw [Nat.mul_add, Nat.mul_assoc]
    rw [this, ← hq, Nat.add_mul, Nat.mul_comm r B]
    omega
theorem est_stop {B y u d q r : Nat} (hB : 0 < B) (hy : 0 < y) (hq : q * (y / B) + r = u) (hqB : q ≤ B) (hr : B ≤ r) : q ≤ (u * B + d) / y := by
  refine est_le hB hy hq ?_
  have h1 : q * (y % B) ≤ B * (y % B) := Nat.mul_le_mul_right _ hqB
  have h2 : B * (y % B) ≤ B * r := Nat.mul_le_mul_left _ (by have := Nat.mod_lt y hB; omega)
  omega
theorem est_first {B y u : Nat} (hu : u < y) (hB : 2 ≤ B) (hn : B ≤ 2 * (y / B)) : u / (y / B) ≤ B + 1 := by
  have hp : 0 < y / B := by omega
  have : u / (y / B) < B + 2 := by
    rw [Nat.div_lt_iff_lt_mul hp]
    have e : y = y / B * B + y % B := (Nat.div_add_mod' y B).symm
    have hm := Nat.mod_lt y (show 0 < B by omega)
    have : (B + 2) * (y / B) = y / B * B + 2 * (y / B) := by rw [Nat.add_mul, Nat.mul_comm B]
    omega
  omega
theorem est_ge {B y u d : Nat} (hB : 0 < B) (hy : B ≤ y) (hd : d < B) : (u * B + d) / y ≤ u / (y / B) := by
  have hp : 0 < y / B := Nat.div_pos hy hB
  rw [Nat.le_div_iff_mul_le hp]
  have h1 : (u * B + d) / y * y ≤ u * B + d := Nat.div_mul_le_self _ _
  have h2 : (u * B + d) / y * (y / B * B) ≤ (u * B + d) / y * y := Nat.mul_le_mul_left _ (Nat.div_mul_le_self _ _)
  rw [← Nat.mul_assoc] at h2
  generalize (u * B + d) / y * (y / B) = z at *
  have : z * B < (u + 1) * B := by rw [Nat.add_mul]; omega
  exact Nat.le_of_lt_succ (Nat.lt_of_mul_lt_mul_right this)
/-- Two digits, one behind the other. -/
theorem two_digits {B y u d1 d0 : Nat} (hy : 0 < y) : ((u * B + d1) * B + d0) / y = (u * B + d1) / y * B + ((u * B + d1) % y * B + d0) / y ∧ ((u * B + d1) * B + d0) % y = ((u * B + d1) % y * B + d0) % y := by
  have e : (u * B + d1) * B + d0 = y * ((u * B + d1) / y * B) + ((u * B + d1) % y * B + d0) := by
    conv => lhs; rw [← Nat.div_add_mod (u * B + d1) y]
    rw [Nat.add_mul, Nat.mul_assoc]
    omega
  rw [e, Nat.mul_add_div hy, Nat.mul_add_mod]
  exact ⟨rfl, rfl⟩
end Go.Dz
set_option linter.unusedVariables false
set_option linter.unusedSimpArgs false
namespace Go.Dz
def digs (n : Nat) : List Int := if h : n = 0 then [] else ((n % 10 : Nat) : Int) :: digs (n / 10)
termination_by n
decreasing_by omega
theorem digs_zero : digs 0 = [] := by rw [digs]; rfl
theorem digs_pos {n : Nat} (h : n ≠ 0) : digs n = ((n % 10 : Nat) : Int) :: digs (n / 10) := by rw [digs]; simp [h]
def nval : List Int → Nat
  | [] => 0
  | d :: l => d.toNat + 10 * nval l
def Dig (l : List Int) : Prop := ∀ d ∈ l, 0 ≤ d ∧ d ≤ 9
theorem Dig.nil : Dig [] := by intro d h; simp at h
theorem Dig.cons {d : Int} {l : List Int} (h0 : 0 ≤ d) (h9 : d ≤ 9) (h : Dig l) : Dig (d :: l) := by
  intro x hx
  rcases List.mem_cons.1 hx with rfl | hx
  · exact ⟨h0, h9⟩
  · exact h x hx
theorem Dig.head {d : Int} {l : List Int} (h : Dig (d :: l)) : 0 ≤ d ∧ d ≤ 9 := h d (by simp)
theorem Dig.tail {d : Int} {l : List Int} (h : Dig (d :: l)) : Dig l := fun x hx => h x (List.mem_cons_of_mem _ hx)
theorem Dig.app {l r : List Int} (h : Dig l) (k : Dig r) : Dig (l ++ r) := by
  intro x hx
  rcases List.mem_append.1 hx with hx | hx
  · exact h x hx
  · exact k x hx
theorem digs_dig : ∀ n, Dig (digs n) := by
  intro n
  induction n using Nat.strongRecOn with
  | _ n ih =>
    by_cases h : n = 0
    · subst h; rw [digs_zero]; exact Dig.nil
    · rw [digs_pos h]; exact Dig.cons (by omega) (by omega) (ih _ (by omega))
theorem nval_digs : ∀ n, nval (digs n) = n := by
  intro n
  induction n using Nat.strongRecOn with
  | _ n ih =>
    by_cases h : n = 0
    · subst h; rw [digs_zero]; rfl
    · rw [digs_pos h, nval, ih _ (by omega)]; omega
theorem digs_nil {n : Nat} : digs n = [] ↔ n = 0 := by
  constructor
  · intro h; rw [← nval_digs n, h]; rfl
  · rintro rfl; exact digs_zero
theorem digs_len0 {n : Nat} : (digs n).length = 0 ↔ n = 0 := by rw [List.length_eq_zero_iff, digs_nil]
theorem digs_cons {d : Int} {n : Nat} (h0 : 0 ≤ d) (h9 : d ≤ 9) (h : d.toNat + 10 * n ≠ 0) : digs (d.toNat + 10 * n) = d :: digs n := by
  rw [digs_pos h, show (d.toNat + 10 * n) / 10 = n by omega, show (((d.toNat + 10 * n) % 10 : Nat) : Int) = d by omega]
/-- Without noughts at the end. -/
theorem digs_nval : ∀ {l : List Int}, Dig l → ∀ {n : Nat}, n ≤ l.length → (∀ i, n ≤ i → i < l.length → l.getD i 0 = 0) → (n ≠ 0 → l.getD (n - 1) 0 ≠ 0) → digs (nval l) = l.take n
  | [], _, n, hn, _, _ => by simp [nval, digs_zero]
  | d :: l, hd, n, hn, h0, h1 => by
    cases n with
    | zero =>
      have hz : d = 0 := by simpa using h0 0 (by omega) (by simp)
      have := digs_nval hd.tail (n := 0) (Nat.zero_le _) (fun i hi hl => by simpa using h0 (i + 1) (by omega) (by simpa using hl)) (by omega)
      have hv : nval l = 0 := by
        have := congrArg nval this
        rw [nval_digs] at this
        simpa [nval] using this
      rw [nval, hv, hz]; simp [digs_zero]
    | succ n =>
      have ih := digs_nval hd.tail (n := n) (by simpa using hn) (fun i hi hl => by simpa using h0 (i + 1) (by omega) (by simpa using hl)) (fun hn0 => by
        have := h1 (by omega)
        obtain ⟨m, rfl⟩ : ∃ m, n = m + 1 := ⟨n - 1, by omega⟩
        simpa using this)
      have hne : d.toNat + 10 * nval l ≠ 0 := by
        intro he
        have hv : nval l = 0 := by omega
        rw [hv, digs_zero] at ih
        cases n with
        | zero =>
          have := h1 (by omega)
          simp at this
          have := hd.head
          omega
        | succ n =>
          have := congrArg List.length ih
          simp at this hn
          omega
      rw [nval, digs_cons hd.head.1 hd.head.2 hne, ih, List.take_succ_cons]
theorem nval_app : ∀ (l r : List Int), nval (l ++ r) = nval l + 10 ^ l.length * nval r
  | [], r => by simp [nval]
  | d :: l, r => by
    rw [List.cons_append, nval, nval, nval_app l r, List.length_cons, Nat.pow_succ, Nat.mul_add, Nat.add_assoc, ← Nat.mul_assoc, Nat.mul_comm 10 (10 ^ l.length)]
theorem nval_lt : ∀ {l : List Int}, Dig l → nval l < 10 ^ l.length
  | [], _ => by simp [nval]
  | d :: l, h => by
    have := nval_lt h.tail
    have := h.head
    rw [nval, List.length_cons, Nat.pow_succ]
    omega
theorem digs_lt {n : Nat} : n < 10 ^ (digs n).length := by
  have := nval_lt (digs_dig n)
  rwa [nval_digs] at this
theorem digs_ge {n : Nat} (h : n ≠ 0) : 10 ^ ((digs n).length - 1) ≤ n := by
  induction n using Nat.strongRecOn with
  | _ n ih =>
    rw [digs_pos h, List.length_cons, Nat.add_sub_cancel]
    by_cases h1 : n / 10 = 0
    · rw [h1, digs_zero]; simp; omega
    · have := ih _ (by omega) h1
      have h2 : (digs (n / 10)).length ≠ 0 := by rw [Ne, digs_len0]; exact h1
      obtain ⟨m, hm⟩ : ∃ m, (digs (n / 10)).length = m + 1 := ⟨_, (Nat.succ_pred h2).symm⟩
      rw [hm] at this ⊢
      rw [Nat.add_sub_cancel] at this
      rw [Nat.pow_succ]
      omega
theorem digs_len_le {n m : Nat} (h : n < 10 ^ m) : (digs n).length ≤ m := by
  by_cases h0 : n = 0
  · subst h0; rw [digs_zero]; simp
  · have := digs_ge h0
    have h1 : (digs n).length - 1 < m := (Nat.pow_lt_pow_iff_right (by decide : 1 < 10)).1 (Nat.lt_of_le_of_lt this h)
    omega
theorem digs_at {n : Nat} : ∀ {i : Nat}, (digs n).getD i 0 = ((n / 10 ^ i % 10 : Nat) : Int) := by
  intro i
  induction i generalizing n with
  | zero =>
    by_cases h : n = 0
    · subst h; rw [digs_zero]; simp
    · rw [digs_pos h]; simp
  | succ i ih =>
    by_cases h : n = 0
    · subst h; rw [digs_zero]; simp
    · rw [digs_pos h]
      have := @ih (n / 10)
      rw [Nat.div_div_eq_div_mul, Nat.mul_comm] at this
      simpa [Nat.pow_succ] using this
end Go.Dz
namespace Go.Proofs.YthpcgknknpjpdaaGreatDoor.W
open Go Go.Q Go.Proofs Go.Dz
set_option linter.unusedVariables false
set_option linter.unusedSimpArgs false
theorem wU (n : Nat) : IntKind.wrap .u64 (n : Int) = ((n % 18446744073709551616 : Nat) : Int) := by
  simp [IntKind.wrap, IntKind.bits, IntKind.signed]
theorem wUi (n : Int) : IntKind.wrap .u64 n = n % 18446744073709551616 := by
  simp [IntKind.wrap, IntKind.bits, IntKind.signed]
theorem wUl {n : Nat} (h : n < 18446744073709551616) : IntKind.wrap .u64 (n : Int) = (n : Int) := by rw [wU, Nat.mod_eq_of_lt h]
theorem bvU {n : Nat} (h : n < 18446744073709551616) : (n : Int) = ((BitVec.ofNat 64 n).toNat : Int) := by
  rw [BitVec.toNat_ofNat, Nat.mod_eq_of_lt (by simpa using h)]
theorem and32 {n : Nat} (h : n < 18446744073709551616) : bits .and .u64 (n : Int) 4294967295 = ((n % 4294967296 : Nat) : Int) := by
  rw [bvU h, show (4294967295 : Int) = ((4294967295#64).toNat : Int) from rfl, u64_and, BitVec.toNat_and, BitVec.toNat_ofNat, Nat.mod_eq_of_lt (by simpa using h)]
  rw [show (4294967295#64).toNat = 2 ^ 32 - 1 from rfl, Nat.and_two_pow_sub_one_eq_mod]
theorem shrN (n : Nat) {s : Nat} (hs : s ≤ 64) : shrI .u64 (n : Int) (s : Int) = ((n / 2 ^ s : Nat) : Int) := by
  unfold shrI
  rw [Int.fdiv_eq_ediv_of_nonneg _ (Int.pow_nonneg (by decide))]
  simp [IntKind.bits, Nat.min_eq_left hs]
theorem shr32 (n : Nat) : shrI .u64 (n : Int) 32 = ((n / 4294967296 : Nat) : Int) := shrN n (s := 32) (by decide)
theorem shlN (n : Nat) {s : Nat} (hs : s ≤ 64) : shlI .u64 (n : Int) (s : Int) = ((n * 2 ^ s % 18446744073709551616 : Nat) : Int) := by
  unfold shlI
  rw [← wU]
  simp [IntKind.bits, Nat.min_eq_left hs]
theorem orN {a b s : Nat} (ha : a * 2 ^ s < 18446744073709551616) (hb : b < 2 ^ s) (hb' : b < 18446744073709551616) : bits .or .u64 ((a * 2 ^ s : Nat) : Int) (b : Int) = ((a * 2 ^ s + b : Nat) : Int) := by
  rw [bvU ha, bvU hb', u64_or, BitVec.toNat_or, BitVec.toNat_ofNat, BitVec.toNat_ofNat, Nat.mod_eq_of_lt (by simpa using ha), Nat.mod_eq_of_lt (by simpa using hb'), Nat.mul_comm, ← Nat.two_pow_add_eq_or_of_lt hb]
theorem or0 {a b : Nat} (ha : a < 18446744073709551616) (hb : b < 18446744073709551616) : bits .or .u64 (a : Int) (b : Int) = 0 ↔ a = 0 ∧ b = 0 := by
  rw [bvU ha, bvU hb, u64_or, BitVec.toNat_or, BitVec.toNat_ofNat, BitVec.toNat_ofNat, Nat.mod_eq_of_lt (by simpa using ha), Nat.mod_eq_of_lt (by simpa using hb)]
  constructor
  · intro h
    have h' : a ||| b = 0 := by exact_mod_cast h
    exact ⟨(Nat.or_eq_zero_iff.1 h').1, (Nat.or_eq_zero_iff.1 h').2⟩
  · rintro ⟨rfl, rfl⟩; rfl
/-- The upper half of a product. -/
theorem mul64 (k : Nat) {x y : Nat} (hx : x < 18446744073709551616) (hy : y < 18446744073709551616) : g_mb_Mul64 k (x : Int) (y : Int) = some ((x * y / 18446744073709551616 : Nat) : Int) := by
  unfold g_mb_Mul64
  have b0 := Nat.mod_lt x (show 0 < 4294967296 by decide)
  have c0 := Nat.mod_lt y (show 0 < 4294967296 by decide)
  have b1 : x / 4294967296 < 4294967296 := by omega
  have c1 : y / 4294967296 < 4294967296 := by omega
  have ex : x = x / 4294967296 * 4294967296 + x % 4294967296 := by omega
  have ey : y = y / 4294967296 * 4294967296 + y % 4294967296 := by omega
  simp only [and32 hx, and32 hy, shr32]
  generalize x % 4294967296 = x0 at *
  generalize y % 4294967296 = y0 at *
  generalize x / 4294967296 = x1 at *
  generalize y / 4294967296 = y1 at *
  have hp : x0 * y0 ≤ 4294967295 * 4294967295 := Nat.mul_le_mul (by omega) (by omega)
  have hq : x1 * y0 ≤ 4294967295 * 4294967295 := Nat.mul_le_mul (by omega) (by omega)
  have hr : x0 * y1 ≤ 4294967295 * 4294967295 := Nat.mul_le_mul (by omega) (by omega)
  have hs : x1 * y1 ≤ 4294967295 * 4294967295 := Nat.mul_le_mul (by omega) (by omega)
  have e : x * y = x1 * y1 * 18446744073709551616 + (x1 * y0 + x0 * y1) * 4294967296 + x0 * y0 := by
    rw [ex, ey]
    simp only [Nat.add_mul, Nat.mul_add]
    have : x1 * 4294967296 * (y1 * 4294967296) = x1 * y1 * 18446744073709551616 := by
      rw [Nat.mul_mul_mul_comm]
    have h2 : x1 * 4294967296 * y0 = x1 * y0 * 4294967296 := by rw [Nat.mul_right_comm]
    have h3 : x0 * (y1 * 4294967296) = x0 * y1 * 4294967296 := by rw [Nat.mul_assoc]
    omega
  simp only [← Int.natCast_mul]
  generalize x0 * y0 = p at *
  generalize x1 * y0 = q at *
  generalize x0 * y1 = r at *
  generalize x1 * y1 = s at *
  rw [e]
  have e1 : p % 18446744073709551616 = p := Nat.mod_eq_of_lt (by omega)
  have e2 : q % 18446744073709551616 = q := Nat.mod_eq_of_lt (by omega)
  have e3 : r % 18446744073709551616 = r := Nat.mod_eq_of_lt (by omega)
  have e4 : s % 18446744073709551616 = s := Nat.mod_eq_of_lt (by omega)
  simp only [Option.bind_some, wU, e1, e2, e3, e4, shr32, ← Int.natCast_add]
  rw [and32 (by omega)]
  simp only [← Int.natCast_add, wU, shr32]
  congr 2
  omega
end Go.Proofs.YthpcgknknpjpdaaGreatDoor.W
namespace Go.Proofs.YthpcgknknpjpdaaGreatDoor.W
open Go Go.Q Go.Proofs Go.Dz
set_option linter.unusedVariables false
set_option linter.unusedSimpArgs false
def lenTab : List Int := strInts (ByteArray.mk #[0, 1, 2, 2, 3, 3, 3, 3, 4, 4, 4, 4, 4, 4, 4, 4, 5, 5, 5, 5, 5, 5, 5, 5, 5, 5, 5, 5, 5, 5, 5, 5, 6, 6, 6, 6, 6, 6, 6, 6, 6, 6, 6, 6, 6, 6, 6, 6, 6, 6, 6, 6, 6, 6, 6, 6, 6, 6, 6, 6, 6, 6, 6, 6, 7, 7, 7, 7, 7, 7, 7, 7, 7, 7, 7, 7, 7, 7, 7, 7, 7, 7, 7, 7, 7, 7, 7, 7, 7, 7, 7, 7, 7, 7, 7, 7, 7, 7, 7, 7, 7, 7, 7, 7, 7, 7, 7, 7, 7, 7, 7, 7, 7, 7, 7, 7, 7, 7, 7, 7, 7, 7, 7, 7, 7, 7, 7, 7, 8, 8, 8, 8, 8, 8, 8, 8, 8, 8, 8, 8, 8, 8, 8, 8, 8, 8, 8, 8, 8, 8, 8, 8, 8, 8, 8, 8, 8, 8, 8, 8, 8, 8, 8, 8, 8, 8, 8, 8, 8, 8, 8, 8, 8, 8, 8, 8, 8, 8, 8, 8, 8, 8, 8, 8, 8, 8, 8, 8, 8, 8, 8, 8, 8, 8, 8, 8, 8, 8, 8, 8, 8, 8, 8, 8, 8, 8, 8, 8, 8, 8, 8, 8, 8, 8, 8, 8, 8, 8, 8, 8, 8, 8, 8, 8, 8, 8, 8, 8, 8, 8, 8, 8, 8, 8, 8, 8, 8, 8, 8, 8, 8, 8, 8, 8, 8, 8, 8, 8, 8, 8, 8, 8, 8, 8, 8, 8])
theorem lenTab_all : ((List.range 256).all fun i => match ix lenTab (i : Int) with
    | some v => decide (0 ≤ v ∧ v ≤ 8 ∧ i < 2 ^ v.toNat ∧ (i ≠ 0 → 2 ^ v.toNat ≤ 2 * i))
    | none => false) = true := by kernel_rfl
theorem lenTab_at {i : Nat} (h : i < 256) : ∃ v : Nat, ix lenTab (i : Int) = some (v : Int) ∧ v ≤ 8 ∧ i < 2 ^ v ∧ (i ≠ 0 → 2 ^ v ≤ 2 * i) := by
  have := List.all_eq_true.1 lenTab_all i (List.mem_range.2 h)
  cases hv : ix lenTab (i : Int) with
  | none => rw [hv] at this; cases this
  | some v =>
    rw [hv] at this
    simp only [decide_eq_true_eq] at this
    exact ⟨v.toNat, by rw [Int.toNat_of_nonneg this.1], by omega, this.2.2.1, this.2.2.2⟩
set_option maxRecDepth 100000 in
/-- How many bits a number has. -/
theorem len64 (k : Nat) {x : Nat} (hx : x < 18446744073709551616) (h0 : x ≠ 0) : ∃ n : Nat, g_mb_Len64 k (x : Int) = some (n : Int) ∧ n ≤ 64 ∧ x < 2 ^ n ∧ 2 ^ n ≤ 2 * x := by
  unfold g_mb_Len64
  have hl : ∀ z, ix (strInts (ByteArray.mk #[0, 1, 2, 2, 3, 3, 3, 3, 4, 4, 4, 4, 4, 4, 4, 4, 5, 5, 5, 5, 5, 5, 5, 5, 5, 5, 5, 5, 5, 5, 5, 5, 6, 6, 6, 6, 6, 6, 6, 6, 6, 6, 6, 6, 6, 6, 6, 6, 6, 6, 6, 6, 6, 6, 6, 6, 6, 6, 6, 6, 6, 6, 6, 6, 7, 7, 7, 7, 7, 7, 7, 7, 7, 7, 7, 7, 7, 7, 7, 7, 7, 7, 7, 7, 7, 7, 7, 7, 7, 7, 7, 7, 7, 7, 7, 7, 7, 7, 7, 7, 7, 7, 7, 7, 7, 7, 7, 7, 7, 7, 7, 7, 7, 7, 7, 7, 7, 7, 7, 7, 7, 7, 7, 7, 7, 7, 7, 7, 8, 8, 8, 8, 8, 8, 8, 8, 8, 8, 8, 8, 8, 8, 8, 8, 8, 8, 8, 8, 8, 8, 8, 8, 8, 8, 8, 8, 8, 8, 8, 8, 8, 8, 8, 8, 8, 8, 8, 8, 8, 8, 8, 8, 8, 8, 8, 8, 8, 8, 8, 8, 8, 8, 8, 8, 8, 8, 8, 8, 8, 8, 8, 8, 8, 8, 8, 8, 8, 8, 8, 8, 8, 8, 8, 8, 8, 8, 8, 8, 8, 8, 8, 8, 8, 8, 8, 8, 8, 8, 8, 8, 8, 8, 8, 8, 8, 8, 8, 8, 8, 8, 8, 8, 8, 8, 8, 8, 8, 8, 8, 8, 8, 8, 8, 8, 8, 8, 8, 8, 8, 8, 8, 8, 8, 8, 8, 8])) z = ix lenTab z := fun _ => rfl
  simp only [hl, bd]
  -- the three halvings
  obtain ⟨y, s, hy, hys, h1⟩ : ∃ y s : Nat, (if (4294967296 : Int) ≤ (x : Int) then some (shrI .u64 (x : Int) 32, (32 : Int)) else some ((x : Int), 0)) = some ((y : Int), (s : Int)) ∧ (s ≤ 32) ∧ y ≠ 0 ∧ y < 4294967296 ∧ y * 2 ^ s ≤ x ∧ x < (y + 1) * 2 ^ s := by
    by_cases h : (4294967296 : Int) ≤ (x : Int)
    · refine ⟨x / 4294967296, 32, ?_, by decide, ?_⟩
      · rw [if_pos h, shr32]; rfl
      · simp only [show (2 : Nat) ^ 32 = 4294967296 from rfl]; omega
    · exact ⟨x, 0, by rw [if_neg h]; rfl, by decide, by simp; omega⟩
  obtain ⟨z, t, hz, hzt, h2⟩ : ∃ z t : Nat, (if (65536 : Int) ≤ (y : Int) then some (shrI .u64 (y : Int) 16, IntKind.wrap .i64 ((s : Int) + 16)) else some ((y : Int), (s : Int))) = some ((z : Int), (t : Int)) ∧ (t ≤ 48) ∧ z ≠ 0 ∧ z < 65536 ∧ z * 2 ^ t ≤ x ∧ x < (z + 1) * 2 ^ t := by
    by_cases h : (65536 : Int) ≤ (y : Int)
    · refine ⟨y / 65536, s + 16, ?_, by omega, by omega, by omega, ?_, ?_⟩
      · rw [if_pos h, wi (by omega) (by omega), show (16 : Int) = ((16 : Nat) : Int) from rfl, shrN y (s := 16) (by decide)]; rfl
      · refine Nat.le_trans ?_ h1.2.2.1
        rw [Nat.pow_add, Nat.mul_comm (2 ^ s), ← Nat.mul_assoc]
        exact Nat.mul_le_mul_right _ (by simp only [show (2 : Nat) ^ 16 = 65536 from rfl]; omega)
      · refine Nat.lt_of_lt_of_le h1.2.2.2 ?_
        rw [Nat.pow_add, Nat.mul_comm (2 ^ s), ← Nat.mul_assoc]
        exact Nat.mul_le_mul_right _ (by simp only [show (2 : Nat) ^ 16 = 65536 from rfl]; omega)
    · exact ⟨y, s, by rw [if_neg h], by omega, by omega, by omega, h1.2.2⟩
  obtain ⟨u, v, hu, huv, h3⟩ : ∃ u v : Nat, (if (256 : Int) ≤ (z : Int) then some (shrI .u64 (z : Int) 8, IntKind.wrap .i64 ((t : Int) + 8)) else some ((z : Int), (t : Int))) = some ((u : Int), (v : Int)) ∧ (v ≤ 56) ∧ u ≠ 0 ∧ u < 256 ∧ u * 2 ^ v ≤ x ∧ x < (u + 1) * 2 ^ v := by
    by_cases h : (256 : Int) ≤ (z : Int)
    · refine ⟨z / 256, t + 8, ?_, by omega, by omega, by omega, ?_, ?_⟩
      · rw [if_pos h, wi (by omega) (by omega), show (8 : Int) = ((8 : Nat) : Int) from rfl, shrN z (s := 8) (by decide)]; rfl
      · refine Nat.le_trans ?_ h2.2.2.1
        rw [Nat.pow_add, Nat.mul_comm (2 ^ t), ← Nat.mul_assoc]
        exact Nat.mul_le_mul_right _ (by simp only [show (2 : Nat) ^ 8 = 256 from rfl]; omega)
      · refine Nat.lt_of_lt_of_le h2.2.2.2 ?_
        rw [Nat.pow_add, Nat.mul_comm (2 ^ t), ← Nat.mul_assoc]
        exact Nat.mul_le_mul_right _ (by simp only [show (2 : Nat) ^ 8 = 256 from rfl]; omega)
    · exact ⟨z, t, by rw [if_neg h], by omega, by omega, by omega, h2.2.2⟩
  obtain ⟨w, hw, hw8, hw1, hw2⟩ := lenTab_at h3.2.1
  refine ⟨v + w, ?_, by omega, ?_, ?_⟩
  · rw [hy, Option.bind_some, hz, Option.bind_some, hu, Option.bind_some, wu8 (by omega) (by omega), hw]
    simp only [Option.bind_some]
    rw [wi (n := (w : Int)) (by omega) (by omega), wi (by omega) (by omega)]
    simp
  · refine Nat.lt_of_lt_of_le h3.2.2.2 ?_
    rw [Nat.pow_add, Nat.mul_comm]
    exact Nat.mul_le_mul_left _ (by omega)
  · rw [Nat.pow_add, Nat.mul_comm]
    have := Nat.mul_le_mul_right (2 ^ v) (hw2 h3.1)
    have h4 := h3.2.2.1
    rw [Nat.mul_assoc] at this
    omega
theorem lz64 (k : Nat) {y : Nat} (hy : y < 18446744073709551616) (h0 : y ≠ 0) : ∃ s : Nat, g_mb_LeadingZeros64 k (y : Int) = some (s : Int) ∧ s ≤ 63 ∧ y * 2 ^ s < 18446744073709551616 ∧ 9223372036854775808 ≤ y * 2 ^ s := by
  obtain ⟨n, h1, h2, h3, h4⟩ := len64 k hy h0
  have hn : 1 ≤ n := by
    rcases Nat.eq_zero_or_pos n with rfl | h
    · simp at h3; omega
    · exact h
  refine ⟨64 - n, ?_, by omega, ?_, ?_⟩
  · unfold g_mb_LeadingZeros64
    rw [h1, Option.bind_some, wi (by omega) (by omega)]
    congr 1
    omega
  · have : y * 2 ^ (64 - n) < 2 ^ n * 2 ^ (64 - n) := Nat.mul_lt_mul_of_pos_right h3 (Nat.two_pow_pos _)
    rw [← Nat.pow_add, show n + (64 - n) = 64 by omega] at this
    exact this
  · have : 2 ^ n * 2 ^ (64 - n) ≤ 2 * y * 2 ^ (64 - n) := Nat.mul_le_mul_right _ h4
    rw [← Nat.pow_add, show n + (64 - n) = 64 by omega, Nat.mul_assoc] at this
    simp only [show (2 : Nat) ^ 64 = 18446744073709551616 from rfl] at this
    omega
end Go.Proofs.YthpcgknknpjpdaaGreatDoor.W
namespace Go.Proofs.YthpcgknknpjpdaaGreatDoor.W
open Go Go.Q Go.Proofs Go.Dz
set_option linter.unusedVariables false
set_option linter.unusedSimpArgs false
theorem div_l0 (k : Nat) {y e u : Nat} (hy : y < 18446744073709551616) (hn : 9223372036854775808 ≤ y) (he : e < 18446744073709551616) (hu : u < y) : ∀ (n q r : Nat), 4294967296 ≤ r + n * 2147483648 → r < 4294967296 → q * (y / 4294967296) + r = u → q ≤ 4294967297 → (u * 4294967296 + e / 4294967296) / y ≤ q →
    g_mb_Div64_l0 k (y : Int) (e : Int) n (q : Int) (r : Int) = some (((u * 4294967296 + e / 4294967296) / y : Nat) : Int) := by
  intro n
  induction n with
  | zero => intro q r h1 h2; omega
  | succ n ih =>
    intro q r h1 h2 h3 h4 h5
    rw [g_mb_Div64_l0.eq_2]
    have hyB : y / 4294967296 < 4294967296 := by omega
    have hd : e / 4294967296 < 4294967296 := by omega
    have hm : q * (y % 4294967296) ≤ 4294967297 * 4294967295 := Nat.mul_le_mul h4 (by omega)
    simp only [bd, and32 hy, shr32, Option.bind_some, ← Int.natCast_mul, ← Int.natCast_add]
    rw [wUl (n := q * (y % 4294967296)) (by omega), show (4294967296 : Int) * (r : Int) = ((4294967296 * r : Nat) : Int) from rfl, wUl (n := 4294967296 * r) (by omega), ← Int.natCast_add, wUl (n := 4294967296 * r + e / 4294967296) (by omega), wUl (n := r + y / 4294967296) (by omega)]
    have go : ∀ b : Bool, (b = decide (4294967296 ≤ q ∨ 4294967296 * r + e / 4294967296 < q * (y % 4294967296))) → ((some b).bind fun x437 => (bif x437 then (if (4294967296 : Int) ≤ ((r + y / 4294967296 : Nat) : Int) then some (IntKind.wrap .u64 ((q : Int) - 1)) else (g_mb_Div64_l0 k (y : Int) (e : Int) n (IntKind.wrap .u64 ((q : Int) - 1)) ((r + y / 4294967296 : Nat) : Int))) else some (q : Int))) = some (((u * 4294967296 + e / 4294967296) / y : Nat) : Int) := by
      rintro b rfl
      rw [Option.bind_some]
      by_cases hc : 4294967296 ≤ q ∨ 4294967296 * r + e / 4294967296 < q * (y % 4294967296)
      · rw [dt hc, bt]
        have hlt := est_gt (B := 4294967296) (by decide) hu hd h3 hc
        have hq : 1 ≤ q := Nat.lt_of_le_of_lt (Nat.zero_le _) hlt
        obtain ⟨q', rfl⟩ : ∃ q', q = q' + 1 := ⟨q - 1, by omega⟩
        have e3 : q' * (y / 4294967296) + (r + y / 4294967296) = u := by
          rw [Nat.add_mul] at h3; omega
        rw [show (((q' + 1 : Nat) : Int) - 1) = ((q' : Nat) : Int) by omega, wUl (n := q') (by omega)]
        by_cases hb : 4294967296 ≤ r + y / 4294967296
        · rw [if_pos (by omega)]
          have := est_stop (B := 4294967296) (y := y) (d := e / 4294967296) (by decide) (by omega) e3 (by omega) hb
          congr 1
          omega
        · rw [if_neg (by omega)]
          exact ih q' (r + y / 4294967296) (by omega) (by omega) e3 (by omega) (by omega)
      · rw [df hc, bf]
        have := est_le (B := 4294967296) (y := y) (u := u) (d := e / 4294967296) (q := q) (r := r) (by decide) (by omega) h3 (by omega)
        congr 1
        omega
    by_cases hq : 4294967296 ≤ q
    · rw [if_pos (by omega)]
      exact go true (by rw [dt (.inl hq)])
    · rw [if_neg (by omega)]
      refine go _ ?_
      congr 1
      exact propext ⟨fun h => .inr (by omega), fun h => by omega⟩
theorem div_l1 (k : Nat) {y e u : Nat} (hy : y < 18446744073709551616) (hn : 9223372036854775808 ≤ y) (he : e < 18446744073709551616) (hu : u < y) : ∀ (n q r : Nat), 4294967296 ≤ r + n * 2147483648 → r < 4294967296 → q * (y / 4294967296) + r = u → q ≤ 4294967297 → (u * 4294967296 + e % 4294967296) / y ≤ q →
    g_mb_Div64_l1 k (y : Int) (e : Int) n (r : Int) (q : Int) = some (((u * 4294967296 + e % 4294967296) / y : Nat) : Int) := by
  intro n
  induction n with
  | zero => intro q r h1 h2; omega
  | succ n ih =>
    intro q r h1 h2 h3 h4 h5
    rw [g_mb_Div64_l1.eq_2]
    have hyB : y / 4294967296 < 4294967296 := by omega
    have hd : e % 4294967296 < 4294967296 := by omega
    have hm : q * (y % 4294967296) ≤ 4294967297 * 4294967295 := Nat.mul_le_mul h4 (by omega)
    simp only [bd, and32 hy, and32 he, shr32, Option.bind_some, ← Int.natCast_mul, ← Int.natCast_add]
    rw [wUl (n := q * (y % 4294967296)) (by omega), show (4294967296 : Int) * (r : Int) = ((4294967296 * r : Nat) : Int) from rfl, wUl (n := 4294967296 * r) (by omega), ← Int.natCast_add, wUl (n := 4294967296 * r + e % 4294967296) (by omega), wUl (n := r + y / 4294967296) (by omega)]
    have go : ∀ b : Bool, (b = decide (4294967296 ≤ q ∨ 4294967296 * r + e % 4294967296 < q * (y % 4294967296))) → ((some b).bind fun x437 => (bif x437 then (if (4294967296 : Int) ≤ ((r + y / 4294967296 : Nat) : Int) then some (IntKind.wrap .u64 ((q : Int) - 1)) else (g_mb_Div64_l1 k (y : Int) (e : Int) n ((r + y / 4294967296 : Nat) : Int) (IntKind.wrap .u64 ((q : Int) - 1)))) else some (q : Int))) = some (((u * 4294967296 + e % 4294967296) / y : Nat) : Int) := by
      rintro b rfl
      rw [Option.bind_some]
      by_cases hc : 4294967296 ≤ q ∨ 4294967296 * r + e % 4294967296 < q * (y % 4294967296)
      · rw [dt hc, bt]
        have hlt := est_gt (B := 4294967296) (by decide) hu hd h3 hc
        have hq : 1 ≤ q := Nat.lt_of_le_of_lt (Nat.zero_le _) hlt
        obtain ⟨q', rfl⟩ : ∃ q', q = q' + 1 := ⟨q - 1, by omega⟩
        have e3 : q' * (y / 4294967296) + (r + y / 4294967296) = u := by
          rw [Nat.add_mul] at h3; omega
        rw [show (((q' + 1 : Nat) : Int) - 1) = ((q' : Nat) : Int) by omega, wUl (n := q') (by omega)]
        by_cases hb : 4294967296 ≤ r + y / 4294967296
        · rw [if_pos (by omega)]
          have := est_stop (B := 4294967296) (y := y) (d := e % 4294967296) (by decide) (by omega) e3 (by omega) hb
          congr 1
          omega
        · rw [if_neg (by omega)]
          exact ih q' (r + y / 4294967296) (by omega) (by omega) e3 (by omega) (by omega)
      · rw [df hc, bf]
        have := est_le (B := 4294967296) (y := y) (u := u) (d := e % 4294967296) (q := q) (r := r) (by decide) (by omega) h3 (by omega)
        congr 1
        omega
    by_cases hq : 4294967296 ≤ q
    · rw [if_pos (by omega)]
      exact go true (by rw [dt (.inl hq)])
    · rw [if_neg (by omega)]
      refine go _ ?_
      congr 1
      exact propext ⟨fun h => .inr (by omega), fun h => by omega⟩
theorem digit_lt {y u d : Nat} (hu : u < y) (hd : d < 4294967296) : (u * 4294967296 + d) / y < 4294967296 := by
  rw [Nat.div_lt_iff_lt_mul (by omega)]
  have : (u + 1) * 4294967296 ≤ y * 4294967296 := Nat.mul_le_mul_right _ hu
  omega
/-- A quotient of twice as many bits. -/
theorem div64 (k : Nat) (hk : 3 ≤ k) {hi lo y : Nat} (hlo : lo < 18446744073709551616) (hy : y < 18446744073709551616) (h : hi < y) : g_mb_Div64 k (hi : Int) (lo : Int) (y : Int) =
    some ((((hi * 18446744073709551616 + lo) / y : Nat) : Int), (((hi * 18446744073709551616 + lo) % y : Nat) : Int)) := by
  unfold g_mb_Div64
  simp only [bd]
  rw [if_neg (show ¬ ((y : Int) = 0) by omega), if_neg (show ¬ ((y : Int) ≤ (hi : Int)) by omega)]
  by_cases h0 : hi = 0
  · subst h0
    have e0 : ((y : Int) == 0) = false := by rw [beq_eq_false_iff_ne]; omega
    rw [if_pos (show ((0 : Nat) : Int) = 0 from rfl), e0]
    simp only [Bool.not_false, cond_true, td, tm, Nat.zero_mul, Nat.zero_add]
    have : lo / y ≤ lo := Nat.div_le_self _ _
    rw [wUl (by omega)]
  · rw [if_neg (by omega)]
    obtain ⟨s, h1, h2, h3, h4⟩ := lz64 k hy (by omega)
    rw [h1, Option.bind_some, wUl (n := s) (by omega)]
    simp only [if_pos (show (0 : Int) ≤ (s : Int) by omega), Option.bind_some, shlN _ (show s ≤ 64 by omega)]
    have e64 : IntKind.wrap .u64 (64 - (s : Int)) = ((64 - s : Nat) : Int) := by
      rw [show (64 - (s : Int)) = ((64 - s : Nat) : Int) by omega, wUl (by omega)]
    rw [e64]
    simp only [if_pos (show (0 : Int) ≤ ((64 - s : Nat) : Int) by omega), shrN _ (show 64 - s ≤ 64 by omega)]
    rw [Nat.mod_eq_of_lt h3]
    have hp : 2 ^ s * 2 ^ (64 - s) = 18446744073709551616 := by rw [← Nat.pow_add, show s + (64 - s) = 64 by omega]
    have hps := Nat.two_pow_pos s
    have hhi : hi * 2 ^ s < y * 2 ^ s := Nat.mul_lt_mul_of_pos_right h hps
    -- the number, moved to the left
    have hlos : lo * 2 ^ s = lo / 2 ^ (64 - s) * 18446744073709551616 + lo * 2 ^ s % 18446744073709551616 := by
      have e1 : lo * 2 ^ s / 18446744073709551616 = lo / 2 ^ (64 - s) := by
        rw [← hp, Nat.mul_comm lo, Nat.mul_div_mul_left _ _ hps]
      rw [← e1]; omega
    have hloq : lo / 2 ^ (64 - s) < 2 ^ s := by
      rw [Nat.div_lt_iff_lt_mul (Nat.two_pow_pos _), hp]; exact hlo
    rw [Nat.mod_eq_of_lt (show hi * 2 ^ s < 18446744073709551616 by omega), orN (show hi * 2 ^ s < 18446744073709551616 by omega) hloq (by have : lo / 2 ^ (64 - s) ≤ lo := Nat.div_le_self _ _; omega)]
    have hN : (hi * 18446744073709551616 + lo) * 2 ^ s = (hi * 2 ^ s + lo / 2 ^ (64 - s)) * 18446744073709551616 + lo * 2 ^ s % 18446744073709551616 := by
      rw [Nat.add_mul, Nat.mul_right_comm, Nat.add_mul]; omega
    have hu : hi * 2 ^ s + lo / 2 ^ (64 - s) < y * 2 ^ s := by
      have : (hi + 1) * 2 ^ s ≤ y * 2 ^ s := Nat.mul_le_mul_right _ h
      rw [Nat.add_mul] at this
      omega
    have hq : (hi * 18446744073709551616 + lo) / y = (hi * 18446744073709551616 + lo) * 2 ^ s / (y * 2 ^ s) := (Nat.mul_div_mul_right _ _ hps).symm
    have hr : (hi * 18446744073709551616 + lo) % y * 2 ^ s = (hi * 18446744073709551616 + lo) * 2 ^ s % (y * 2 ^ s) := (Nat.mul_mod_mul_right _ _ _).symm
    rw [hN] at hq hr
    have he : lo * 2 ^ s % 18446744073709551616 < 18446744073709551616 := Nat.mod_lt _ (by decide)
    have hrs : (hi * 18446744073709551616 + lo) % y = ((hi * 2 ^ s + lo / 2 ^ (64 - s)) * 18446744073709551616 + lo * 2 ^ s % 18446744073709551616) % (y * 2 ^ s) / 2 ^ s := by
      rw [← hr, Nat.mul_div_cancel _ hps]
    rw [hq, hrs]
    clear hq hr hrs hN hhi hlos hloq
    generalize hi * 2 ^ s + lo / 2 ^ (64 - s) = u at *
    generalize lo * 2 ^ s % 18446744073709551616 = e at *
    generalize y * 2 ^ s = z at *
    have hzB : z / 4294967296 < 4294967296 := by omega
    have hz1 : 2147483648 ≤ z / 4294967296 := by omega
    have ez : (((z / 4294967296 : Nat) : Int) == 0) = false := by rw [beq_eq_false_iff_ne]; omega
    -- one digit
    have dig : ∀ (v d : Nat), v < z → d < 4294967296 → (v / (z / 4294967296) ≤ 4294967297) ∧ (v * 4294967296 + d) / z ≤ v / (z / 4294967296) ∧ v / (z / 4294967296) * (z / 4294967296) + (v - v / (z / 4294967296) * (z / 4294967296)) = v ∧ v - v / (z / 4294967296) * (z / 4294967296) < 4294967296 ∧ v / (z / 4294967296) * (z / 4294967296) ≤ v := by
      intro v d hv hd
      have a1 := est_first (B := 4294967296) hv (by decide) (by omega)
      have a2 := est_ge (B := 4294967296) (y := z) (u := v) (d := d) (by decide) (by omega) hd
      have a3 := Nat.div_mul_le_self v (z / 4294967296)
      have a4 : v % (z / 4294967296) < z / 4294967296 := Nat.mod_lt _ (by omega)
      have a5 := Nat.div_add_mod v (z / 4294967296)
      rw [Nat.mul_comm] at a5
      exact ⟨a1, a2, by omega, by omega, a3⟩
    have step : ∀ (v d : Nat), v < z → d < 4294967296 → (v * 4294967296 + d) / z * z + (v * 4294967296 + d) % z = v * 4294967296 + d ∧ (v * 4294967296 + d) % z < z := by
      intro v d hv hd
      have := Nat.div_add_mod (v * 4294967296 + d) z
      rw [Nat.mul_comm] at this
      exact ⟨this, Nat.mod_lt _ (by omega)⟩
    have modU : ∀ (v d q : Nat), v < z → d < 4294967296 → q = (v * 4294967296 + d) / z → IntKind.wrap .u64 (IntKind.wrap .u64 ((IntKind.wrap .u64 ((v : Int) * 4294967296)) + (d : Int)) - IntKind.wrap .u64 (((q : Nat) : Int) * ((z : Nat) : Int))) = (((v * 4294967296 + d) % z : Nat) : Int) := by
      intro v d q hv hd hq
      obtain ⟨s1, s2⟩ := step v d hv hd
      rw [← hq] at s1
      rw [← Int.natCast_mul]
      simp only [wUi]
      generalize q * z = m at *
      generalize (v * 4294967296 + d) % z = w at *
      omega
    obtain ⟨d1, d2, d3, d4, d5⟩ := dig u (e / 4294967296) hu (by omega)
    rw [shr32, ez]
    simp only [Bool.not_false, cond_true, td]
    rw [wUl (n := u / (z / 4294967296)) (by omega)]
    simp only [Option.bind_some, ← Int.natCast_mul]
    rw [wUl (n := u / (z / 4294967296) * (z / 4294967296)) (by omega), show ((u : Int) - ((u / (z / 4294967296) * (z / 4294967296) : Nat) : Int)) = ((u - u / (z / 4294967296) * (z / 4294967296) : Nat) : Int) by omega, wUl (n := u - _) (by omega)]
    rw [div_l0 k h3 h4 he hu k _ _ (by omega) d4 d3 d1 d2]
    simp only [Option.bind_some, shr32]
    have m1 := modU u (e / 4294967296) _ hu (by omega) rfl
    rw [m1]
    obtain ⟨s1, s2⟩ := step u (e / 4294967296) hu (by omega)
    have g1 := digit_lt hu (show e / 4294967296 < 4294967296 by omega)
    have t := two_digits (B := 4294967296) (y := z) (u := u) (d1 := e / 4294967296) (d0 := e % 4294967296) (by omega)
    have eN : (u * 4294967296 + e / 4294967296) * 4294967296 + e % 4294967296 = u * 18446744073709551616 + e := by omega
    rw [eN] at t
    rw [t.1, t.2]
    clear t eN m1 s1
    obtain ⟨v, hv⟩ : ∃ v, v = (u * 4294967296 + e / 4294967296) % z := ⟨_, rfl⟩
    obtain ⟨q1, hq1⟩ : ∃ v, v = (u * 4294967296 + e / 4294967296) / z := ⟨_, rfl⟩
    rw [← hv] at s2
    rw [← hq1] at g1
    rw [← hv, ← hq1]
    clear d1 d2 d3 d4 d5 hv hq1
    obtain ⟨c1, c2, c3, c4, c5⟩ := dig v (e % 4294967296) s2 (by omega)
    simp only [td]
    rw [wUl (n := v / (z / 4294967296)) (by omega)]
    simp only [Option.bind_some, ← Int.natCast_mul]
    rw [wUl (n := v / (z / 4294967296) * (z / 4294967296)) (by omega), show ((v : Int) - ((v / (z / 4294967296) * (z / 4294967296) : Nat) : Int)) = ((v - v / (z / 4294967296) * (z / 4294967296) : Nat) : Int) by omega, wUl (n := v - _) (by omega)]
    rw [div_l1 k h3 h4 he s2 k _ _ (by omega) c4 c3 c1 c2]
    simp only [Option.bind_some, and32 he]
    have m2 := modU v (e % 4294967296) _ s2 (by omega) rfl
    have g2 := digit_lt s2 (show e % 4294967296 < 4294967296 by omega)
    rw [m2, shrN _ (by omega)]
    obtain ⟨q0, hq0⟩ : ∃ w, w = (v * 4294967296 + e % 4294967296) / z := ⟨_, rfl⟩
    rw [← hq0] at g2
    rw [← hq0]
    clear c1 c2 c3 c4 c5 m2
    have f1 : (q1 : Int) * 4294967296 = ((q1 * 4294967296 : Nat) : Int) := by simp
    have f2 : IntKind.wrap .u64 ((q1 : Int) * 4294967296) = ((q1 * 4294967296 : Nat) : Int) := by rw [f1]; exact wUl (by omega)
    have f3 : IntKind.wrap .u64 (IntKind.wrap .u64 ((q1 : Int) * 4294967296) + (q0 : Int)) = ((q1 * 4294967296 + q0 : Nat) : Int) := by rw [f2, ← Int.natCast_add]; exact wUl (by omega)
    rw [f3]
end Go.Proofs.YthpcgknknpjpdaaGreatDoor.W
namespace Go.Proofs.YthpcgknknpjpdaaGreatDoor.W
open Go Go.Q Go.Proofs Go.Dz
set_option linter.unusedVariables false
set_option linter.unusedSimpArgs false
/-- The halves of a number. -/
def wh (v : Nat) : Int := ((v / 18446744073709551616 : Nat) : Int)
def wl (v : Nat) : Int := ((v % 18446744073709551616 : Nat) : Int)
/-- Two to the 128. -/
abbrev UU : Nat := 340282366920938463463374607431768211456
theorem wh_small {v : Nat} (h : v < 18446744073709551616) : wh v = 0 := by unfold wh; rw [Nat.div_eq_of_lt h]; rfl
theorem wl_small {v : Nat} (h : v < 18446744073709551616) : wl v = (v : Int) := by unfold wl; rw [Nat.mod_eq_of_lt h]
theorem wh_lt {v : Nat} (h : v < UU) : v / 18446744073709551616 < 18446744073709551616 := by unfold UU at h; omega
theorem wide_zero (k : Nat) (a b : Int) : g_dec_wide_zero k a b = some () := rfl
theorem wide_or {v : Nat} (h : v < UU) : (bits .or .u64 (wh v) (wl v) = 0) ↔ v = 0 := by
  unfold wh wl
  rw [or0 (wh_lt h) (Nat.mod_lt _ (by decide))]
  omega
theorem add64_eq (a b c : Nat) : add64 (a : Int) (b : Int) (c : Int) = (((((a + b + c) % 18446744073709551616 : Nat)) : Int), (((a + b + c) / 18446744073709551616 : Nat) : Int)) := by
  simp [add64, Extern.MathBitsCarry.m64]
theorem wide_times (k : Nat) {v n : Nat} (hv : v < UU) (hn : n < 4294967296) : ∃ x : Int, g_dec_wide_times k (wh v) (wl v) (n : Int) = some (decide (v * n < UU), x) ∧ (v * n < UU → x = wh (v * n)) := by
  unfold g_dec_wide_times
  have h1 := wh_lt hv
  have h2 := Nat.mod_lt v (show 0 < 18446744073709551616 by decide)
  have e : v = v / 18446744073709551616 * 18446744073709551616 + v % 18446744073709551616 := by omega
  unfold wh wl
  rw [mul64 k h2 (by omega), Option.bind_some, mul64 k h1 (by omega), Option.bind_some, ← Int.natCast_mul, wU, show (0 : Int) = ((0 : Nat) : Int) from rfl, add64_eq]
  generalize hA : v / 18446744073709551616 = a at *
  generalize hB : v % 18446744073709551616 = b at *
  have hp : a * n ≤ 18446744073709551615 * n := Nat.mul_le_mul_right _ (by omega)
  have hq : b * n ≤ 18446744073709551615 * n := Nat.mul_le_mul_right _ (by omega)
  have ev : v * n = a * n * 18446744073709551616 + b * n := by rw [e, Nat.add_mul, Nat.mul_right_comm]
  rw [ev]
  simp only [Option.bind_some]
  have hov : a * n / 18446744073709551616 ≤ 4294967295 := by omega
  generalize a * n = p at *
  generalize b * n = q at *
  rw [← Int.natCast_add, wUl (by omega)]
  refine ⟨(((q / 18446744073709551616 + p % 18446744073709551616 + 0) % 18446744073709551616 : Nat) : Int), ?_, fun hlt => ?_⟩
  · refine congrArg some (Prod.ext ?_ rfl)
    simp only [decide_eq_decide]
    unfold UU
    omega
  · unfold UU at hlt
    congr 1
    omega
theorem wide_times_lo {v n : Nat} : IntKind.wrap .u64 (wl v * (n : Int)) = wl (v * n) := by
  unfold wl
  rw [← Int.natCast_mul, wU]
  congr 1
  simp [Nat.mul_mod]
/-- One digit off. -/
theorem wide_by (k : Nat) (hk : 3 ≤ k) {v : Nat} (hv : v < UU) : g_dec_wide_by k (wh v) (wl v) 10 = some (((v % 10 : Nat) : Int), wh (v / 10), wl (v / 10)) := by
  unfold g_dec_wide_by
  have h1 := wh_lt hv
  have h2 := Nat.mod_lt v (show 0 < 18446744073709551616 by decide)
  unfold wh wl
  have d1 := div64 k hk (hi := 0) (lo := v / 18446744073709551616) (y := 10) h1 (by decide) (by decide)
  rw [show ((0 : Nat) : Int) = 0 from rfl, show ((10 : Nat) : Int) = 10 from rfl] at d1
  rw [d1, Option.bind_some]
  simp only [Nat.zero_mul, Nat.zero_add]
  have d2 := div64 k hk (hi := v / 18446744073709551616 % 10) (lo := v % 18446744073709551616) (y := 10) h2 (by decide) (Nat.mod_lt _ (by decide))
  rw [show ((10 : Nat) : Int) = 10 from rfl] at d2
  rw [d2, Option.bind_some]
  congr 2
  · congr 1; omega
  · congr 2
    · omega
    · omega
/-- Times ten, so often. -/
theorem wide_tens_l0 (k : Nat) {m : Nat} : ∀ (n i v : Nat), i ≤ m → m - i + 1 < n → m < 1000000 → v < UU → ∃ (b : Bool) (x y : Int), g_dec_wide_tens_l0 k (m : Int) n true (i : Int) (wh v) (wl v) = some (b, x, y) ∧
    (b = true → v * 10 ^ (m - i) < UU ∧ x = wh (v * 10 ^ (m - i)) ∧ y = wl (v * 10 ^ (m - i))) ∧ (b = false → UU ≤ v * 10 ^ (m - i)) := by
  intro n
  induction n with
  | zero => intro i v _ h; omega
  | succ n ih =>
    intro i v hi hn hm hv
    rw [g_dec_wide_tens_l0.eq_2]
    simp only [bd, wide_zero, Option.bind_some, cond_true]
    by_cases him : i < m
    · rw [if_pos (by omega), Option.bind_some]
      by_cases h0 : v = 0
      · rw [dt ((wide_or hv).2 h0)]
        refine ⟨true, wh v, wl v, rfl, fun _ => ?_, fun h => by cases h⟩
        rw [h0]; simp
      · rw [df (fun h => h0 ((wide_or hv).1 h))]
        obtain ⟨x, h1, h2⟩ := wide_times k hv (n := 10) (by decide)
        simp only [Bool.not_false, cond_true]
        rw [show (10 : Int) = ((10 : Nat) : Int) from rfl, h1, Option.bind_some, wi (by omega) (by omega), wide_times_lo]
        by_cases hlt : v * 10 < UU
        · rw [dt hlt, h2 hlt, show ((i : Int) + 1) = ((i + 1 : Nat) : Int) by omega]
          have e : v * 10 ^ (m - i) = v * 10 * 10 ^ (m - (i + 1)) := by
            rw [show m - i = (m - (i + 1)) + 1 by omega, Nat.pow_succ, Nat.mul_assoc, Nat.mul_comm 10]
          rw [e]
          exact ih (i + 1) (v * 10) (by omega) (by omega) hm hlt
        · rw [df hlt]
          have hbig : UU ≤ v * 10 ^ (m - i) := by
            obtain ⟨j, hj⟩ : ∃ j, m - i = j + 1 := ⟨m - i - 1, by omega⟩
            rw [hj, Nat.pow_succ, Nat.mul_comm (10 ^ j), ← Nat.mul_assoc]
            exact Nat.le_trans (Nat.le_of_not_lt hlt) (Nat.le_mul_of_pos_right _ (Nat.pow_pos (by decide)))
          obtain ⟨n', rfl⟩ : ∃ n', n = n' + 1 := ⟨n - 1, by omega⟩
          rw [g_dec_wide_tens_l0.eq_2]
          refine ⟨false, x, wl (v * 10), ?_, (fun h => by cases h), fun _ => hbig⟩
          simp only [cond_false, bd]
          split <;> rfl
    · rw [if_neg (by omega)]
      refine ⟨true, wh v, wl v, rfl, fun _ => ?_, fun h => by cases h⟩
      rw [show m - i = 0 by omega]; simp [hv]
theorem wide_tens (k : Nat) {v m : Nat} (hv : v < UU) (hm : m < 1000000) (hk : m + 2 ≤ k) : ∃ (b : Bool) (x y : Int), g_dec_wide_tens k (wh v) (wl v) (m : Int) = some (b, x, y) ∧
    (b = true → v * 10 ^ m < UU ∧ x = wh (v * 10 ^ m) ∧ y = wl (v * 10 ^ m)) ∧ (b = false → UU ≤ v * 10 ^ m) := by
  unfold g_dec_wide_tens
  obtain ⟨b, x, y, h1, h2, h3⟩ := wide_tens_l0 k (m := m) k 0 v (Nat.zero_le _) (by omega) hm hv
  rw [show ((0 : Nat) : Int) = 0 from rfl] at h1
  rw [h1]
  exact ⟨b, x, y, rfl, h2, h3⟩
/-- Which is more. -/
def cmpN (v w : Nat) : Int := if v = w then 0 else if v < w then -1 else 1
theorem wide_plus (k : Nat) {v w : Nat} (hv : v < UU) (hw : w < UU) : g_dec_wide_plus k (wh v) (wl v) (wh w) (wl w) = some (decide (v + w < UU)) := by
  unfold g_dec_wide_plus
  have h1 := wh_lt hv
  have h2 := wh_lt hw
  unfold wh wl
  rw [show (0 : Int) = ((0 : Nat) : Int) from rfl, add64_eq]
  simp only
  rw [add64_eq]
  simp only [Int.toNat_natCast, bd]
  rw [if_pos (by omega), Option.bind_some]
  congr 1
  rw [decide_eq_decide]
  unfold UU
  omega
theorem wide_plus_val {v w : Nat} (hv : v < UU) (hw : w < UU) (h : v + w < UU) : (add64 (wh v) (wh w) ((add64 (wl v) (wl w) 0).2)).1 = wh (v + w) ∧ (add64 (wl v) (wl w) 0).1 = wl (v + w) := by
  have h1 := wh_lt hv
  have h2 := wh_lt hw
  unfold wh wl
  rw [show (0 : Int) = ((0 : Nat) : Int) from rfl, add64_eq]
  simp only
  rw [add64_eq]
  simp only
  unfold UU at h
  constructor
  · congr 1; omega
  · congr 1; omega
end Go.Proofs.YthpcgknknpjpdaaGreatDoor.W
namespace Go.Proofs.YthpcgknknpjpdaaGreatDoor.W
open Go Go.Q Go.Proofs Go.Dz
set_option linter.unusedVariables false
set_option linter.unusedSimpArgs false
def sgn (neg : Bool) (v : Nat) : Int := if neg then -(v : Int) else (v : Int)
theorem sgn_mul {neg : Bool} {v w : Nat} : sgn neg (v * w) = sgn neg v * (w : Int) := by
  cases neg <;> simp [sgn, Int.neg_mul]
theorem sgn_zero {neg : Bool} : sgn neg 0 = 0 := by cases neg <;> simp [sgn]
theorem sgn_ne {neg : Bool} {v : Nat} (h : v ≠ 0) : sgn neg v ≠ 0 := by cases neg <;> simp [sgn] <;> omega
theorem sgn_dvd {neg : Bool} {v : Nat} : (10 : Int) ∣ sgn neg v ↔ v % 10 = 0 := by
  cases neg <;> simp [sgn] <;> omega
theorem sgn_abs {neg : Bool} {v : Nat} : (sgn neg v).natAbs = v := by cases neg <;> simp [sgn]
theorem tell_l0 (k : Nat) (hk : 3 ≤ k) : ∀ (d n v : Nat) (e : Int), d ≤ n → v ≠ 0 → v < UU → v < 10 ^ d → -4000 ≤ e → e + d ≤ 5000 → ∃ (w j : Nat), v = w * 10 ^ j ∧ w % 10 ≠ 0 ∧ j ≤ d ∧
    g_dec_num_tell_l0 k n ((v % 10 : Nat) : Int) (wh v) (wl v) e (wh (v / 10)) (wl (v / 10)) = some (wh w, wl w, e + j) := by
  intro d
  induction d with
  | zero => intro n v e _ h0 _ h; simp at h; omega
  | succ d ih =>
    intro n v e hdn h0 hU h he1 he2
    obtain ⟨n, rfl⟩ : ∃ n', n = n' + 1 := ⟨n - 1, by omega⟩
    rw [g_dec_num_tell_l0.eq_2]
    simp only [bd]
    by_cases hr : v % 10 = 0
    · rw [if_pos (by omega), wide_by k hk (v := v / 10) (by unfold UU at *; omega), Option.bind_some]
      rw [Nat.pow_succ] at h
      obtain ⟨w, j, h1, h2, h3, h4⟩ := ih n (v / 10) (e + 1) (by omega) (by omega) (by unfold UU at *; omega) (by omega) (by omega) (by omega)
      refine ⟨w, j + 1, ?_, h2, by omega, ?_⟩
      · rw [Nat.pow_succ, ← Nat.mul_assoc, ← h1]; omega
      · rw [wi (by omega) (by omega)]
        simp only
        rw [h4]
        congr 3
        omega
    · rw [if_neg (by omega)]
      exact ⟨v, 0, by simp, hr, by omega, by simp⟩
/-- The greatest size. -/
def topN (neg : Bool) : Nat := if neg then 9223372036854775808 else 9223372036854775807
theorem in_range {neg : Bool} {w : Nat} : (-9223372036854775808 ≤ sgn neg w ∧ sgn neg w ≤ 9223372036854775807) ↔ w ≤ topN neg := by
  cases neg <;> simp [sgn, topN] <;> omega
theorem neg_wrap {u : Nat} (h : u ≤ 9223372036854775808) : IntKind.wrap .i64 (0 - (IntKind.wrap .i64 (u : Int))) = -(u : Int) := by
  rw [IntKind.wrap_i64, IntKind.wrap_i64]; omega
theorem num_tell (k : Nat) (hk : 60 ≤ k) {neg : Bool} {v : Nat} {e : Int} (hv : v < UU) (he1 : -4000 ≤ e) (he2 : e ≤ 4000) : ∃ er c x : Int, g_dec_num_tell k neg (wh v) (wl v) e = some (er, c, x) ∧ Tells (· = val (sgn neg v) e) ((c, x), er) := by
  unfold g_dec_num_tell
  simp only [wide_zero, Option.bind_some, bd]
  by_cases h0 : v = 0
  · rw [if_pos ((wide_or hv).2 h0)]
    refine ⟨0, 0, 0, rfl, ?_⟩
    rw [h0, sgn_zero]
    exact tells_zero
  · rw [if_neg (fun h => h0 ((wide_or hv).1 h)), wide_by k (by omega) hv, Option.bind_some]
    obtain ⟨w, j, h1, h2, h3, h4⟩ := tell_l0 k (by omega) 39 k v e (by omega) h0 hv (Nat.lt_of_lt_of_le hv (by decide)) (by omega) (by omega)
    simp only
    rw [h4, Option.bind_some]
    have hwv : w ≤ v := by rw [h1]; exact Nat.le_mul_of_pos_right _ (Nat.pow_pos (by decide))
    have hw : w < UU := Nat.lt_of_le_of_lt hwv hv
    have hw0 : w ≠ 0 := by rintro rfl; simp at h2
    have hval : val (sgn neg v) e = val (sgn neg w) (e + j) := by
      rw [h1, sgn_mul]
      have : ((10 ^ j : Nat) : Int) = (10 : Int) ^ j := by simp
      rw [this, val_shift (by omega)]
    rw [hval]
    have hm : sgn neg w ≠ 0 := sgn_ne hw0
    have hd : ¬ (10 : Int) ∣ sgn neg w := fun h => h2 (sgn_dvd.1 h)
    clear hval h1 h4 h0 hv hwv
    generalize he' : e + (j : Int) = f at *
    have hf : -4000 ≤ f ∧ f ≤ 4039 := by omega
    clear he' he1 he2 h3
    -- what comes behind the size is known
    have top : ((bif neg then some (IntKind.wrap .u64 (9223372036854775807 + 1)) else some 9223372036854775807) : Option Int) = some ((topN neg : Nat) : Int) := by
      cases neg
      · rfl
      · simp only [cond_true]
        have : IntKind.wrap .u64 (9223372036854775807 + 1) = 9223372036854775808 := by decide
        rw [this]; rfl
    have fin : ∀ (u t : Nat) (x : Int), u = w * 10 ^ t → u < UU → x = (if f > 18 then 18 else f) → (t : Int) = f - x → ∃ er c x' : Int,
        (((bif (!true) then some true else if x < -18 then some true else if 0 < wh u then some true else some (decide (((topN neg : Nat) : Int) < wl u))) : Option Bool).bind fun x889 =>
          bif x889 then some (30, 0, 0) else (((bif neg then some (IntKind.wrap .i64 (0 - (IntKind.wrap .i64 (wl u)))) else some (IntKind.wrap .i64 (wl u))) : Option Int).bind fun x897 => some (0, x897, x))) = some (er, c, x') ∧ Tells (· = val (sgn neg w) f) ((c, x'), er) := by
      intro u t x hu huU hx ht
      have hsu : sgn neg u = sgn neg w * 10 ^ (f - x).toNat := by
        rw [hu, sgn_mul, show (f - x).toNat = t by omega]; simp
      rw [Bool.not_true, bf]
      by_cases hx18 : x < -18
      · rw [if_pos hx18, Option.bind_some, bt]
        refine ⟨30, 0, 0, rfl, tells_none hm hd (by omega) (.inl ?_)⟩
        split at hx <;> omega
      · rw [if_neg hx18]
        have hb : ((if 0 < wh u then some true else some (decide (((topN neg : Nat) : Int) < wl u))) : Option Bool) = some (decide (topN neg < u)) := by
          have htn : topN neg < 18446744073709551616 := by unfold topN; split <;> decide
          unfold wh wl
          by_cases hh : u / 18446744073709551616 = 0
          · rw [if_neg (by omega)]
            congr 1
            rw [decide_eq_decide]
            omega
          · rw [if_pos (by omega), dt (by omega)]
        rw [hb, Option.bind_some]
        by_cases hu2 : topN neg < u
        · rw [dt hu2, bt]
          refine ⟨30, 0, 0, rfl, ?_⟩
          have hnr : ¬ (-9223372036854775808 ≤ sgn neg u ∧ sgn neg u ≤ 9223372036854775807) := by rw [in_range]; omega
          by_cases hf18 : f > 18
          · rw [if_pos hf18] at hx
            subst hx
            rw [hsu] at hnr
            exact tells_none hm hd (by omega) (.inr hnr)
          · rw [if_neg hf18] at hx
            subst hx
            have ht0 : t = 0 := by omega
            subst ht0
            rw [hsu] at hnr
            refine tells_none hm hd (by omega) (.inr ?_)
            rw [show (x - 18).toNat = (x - x).toNat by omega]
            exact hnr
        · rw [df hu2, bf]
          have hr := in_range.2 (Nat.le_of_not_lt hu2)
          have ht2 : topN neg ≤ 9223372036854775808 := by unfold topN; split <;> decide
          rw [wl_small (show u < 18446744073709551616 by omega)]
          refine ⟨0, sgn neg u, x, ?_, tells_some hm hd (by omega) ⟨hx, hsu, by omega, hr.1, hr.2⟩⟩
          cases neg
          · simp only [sgn, Bool.false_eq_true, if_false] at hr ⊢
            rw [bf, wi (n := (u : Int)) (by omega) (by omega)]; rfl
          · simp only [sgn, if_true, cond_true, Option.bind_some] at hr ⊢
            rw [neg_wrap (Nat.le_trans (Nat.le_of_not_lt hu2) ht2)]
    by_cases hf18 : 18 < f
    · rw [if_pos hf18, wi (n := f - 18) (by omega) (by omega)]
      obtain ⟨m, hm40⟩ : ∃ m : Nat, (if (40 : Int) < f - 18 then (40 : Int) else f - 18) = (m : Int) := ⟨(if (40 : Int) < f - 18 then (40 : Int) else f - 18).toNat, by split <;> omega⟩
      have hm' : (f ≤ 58 ∧ (m : Int) = f - 18) ∨ (58 < f ∧ m = 40) := by split at hm40 <;> omega
      rw [hm40]
      simp only [Option.bind_some]
      obtain ⟨b, x, y, t1, t2, t3⟩ := wide_tens k (m := m) hw (by omega) (by omega)
      rw [t1]
      simp only [Option.bind_some]
      -- too great
      have big : UU ≤ w * 10 ^ (f - 18).toNat → Tells (· = val (sgn neg w) f) ((0, 0), 30) := by
        intro hb
        refine tells_none hm hd (by omega) (.inr ?_)
        have : sgn neg w * 10 ^ (f - 18).toNat = sgn neg (w * 10 ^ (f - 18).toNat) := by rw [sgn_mul]; simp
        rw [this, in_range]
        unfold UU at hb
        have ht2 : topN neg ≤ 9223372036854775808 := by unfold topN; split <;> decide
        omega
      by_cases hf58 : 58 < f
      · rw [if_pos hf58, Option.bind_some]
        simp only [top, Option.bind_some, Bool.not_false, cond_true]
        refine ⟨30, 0, 0, rfl, big ?_⟩
        have h41 : 10 ^ 41 ≤ 10 ^ (f - 18).toNat := Nat.pow_le_pow_right (by decide) (by omega)
        have : 1 * 10 ^ 41 ≤ w * 10 ^ (f - 18).toNat := Nat.mul_le_mul (by omega) h41
        exact Nat.le_trans (by decide) this
      · rw [if_neg hf58, Option.bind_some]
        have hmf : (f - 18).toNat = m := by omega
        cases b with
        | false =>
          simp only [top, Option.bind_some, Bool.not_false, cond_true]
          exact ⟨30, 0, 0, rfl, big (by rw [hmf]; exact t3 rfl)⟩
        | true =>
          obtain ⟨u1, u2, u3⟩ := t2 rfl
          simp only [top, Option.bind_some, u2, u3]
          exact fin _ m 18 rfl u1 (by rw [if_pos hf18]) (by omega)
    · rw [if_neg hf18, Option.bind_some]
      simp only [top, Option.bind_some]
      exact fin w 0 f (by simp) hw (by rw [if_neg (by omega)]) (by omega)
end Go.Proofs.YthpcgknknpjpdaaGreatDoor.W
namespace Go.Proofs.YthpcgknknpjpdaaGreatDoor.W
open Go Go.Q Go.Proofs Go.Dz
set_option linter.unusedVariables false
set_option linter.unusedSimpArgs false
theorem getD_ix {l : List Int} {i : Nat} (h : i < l.length) : ix l (i : Int) = some (l.getD i 0) := by
  rw [ix_nat h, List.getD_eq_getElem?_getD, List.getElem?_eq_getElem h]; rfl
theorem trim_l0 (k : Nat) {l : List Int} (hl : l.length ≤ 100000) : ∀ (n m : Nat), m < n → m ≤ l.length → (∀ i, m ≤ i → i < l.length → l.getD i 0 = 0) →
    ∃ r : Nat, g_r9_trim_l0 k l n (m : Int) = some (r : Int) ∧ r ≤ l.length ∧ (∀ i, r ≤ i → i < l.length → l.getD i 0 = 0) ∧ (r ≠ 0 → l.getD (r - 1) 0 ≠ 0) := by
  intro n
  induction n with
  | zero => intro m h; omega
  | succ n ih =>
    intro m h1 h2 h3
    rw [g_r9_trim_l0.eq_2]
    simp only [bd]
    by_cases hm : m = 0
    · subst hm
      exact ⟨0, by simp, by omega, h3, fun h => absurd rfl h⟩
    · obtain ⟨j, rfl⟩ : ∃ j, m = j + 1 := ⟨m - 1, by omega⟩
      rw [if_pos (by omega), show (((j + 1 : Nat) : Int) - 1) = (j : Int) by omega, wi (by omega) (by omega), getD_ix (by omega)]
      simp only [Option.bind_some]
      by_cases hz : l.getD j 0 = 0
      · rw [dt hz, bt]
        refine ih j (by omega) (by omega) fun i hi hl => ?_
        by_cases hij : i = j
        · subst hij; exact hz
        · exact h3 i (by omega) hl
      · rw [df hz, bf]
        exact ⟨j + 1, rfl, h2, h3, fun _ => hz⟩
theorem trim (k : Nat) {neg : Bool} {l : List Int} (hl : l.length ≤ 100000) (hd : Dig l) (hk : l.length < k) : g_r9_trim k neg l = some (neg && decide (nval l ≠ 0), digs (nval l)) := by
  unfold g_r9_trim
  obtain ⟨r, h1, h2, h3, h4⟩ := trim_l0 k hl k l.length (by omega) (Nat.le_refl _) (fun i hi hl => by omega)
  rw [h1, Option.bind_some]
  have hn := digs_nval hd h2 h3 h4
  simp only [bd]
  by_cases hr : r = 0
  · subst hr
    rw [if_pos (by simp)]
    have : nval l = 0 := by rw [← nval_digs (nval l), hn]; rfl
    rw [this, digs_zero]; simp
  · rw [if_neg (by omega), if_pos (by omega), if_pos (by simp; omega)]
    have hne : nval l ≠ 0 := by
      intro h0
      rw [h0, digs_zero] at hn
      have := congrArg List.length hn
      simp at this
      omega
    rw [hn]
    simp [hne]
theorem at_ (k : Nat) (neg : Bool) (l : List Int) (i : Nat) : g_r9_at k neg l (i : Int) = some (l.getD i 0) := by
  unfold g_r9_at
  simp only [bd]
  rw [if_pos (by omega)]
  simp only [Option.bind_some]
  by_cases h : i < l.length
  · rw [dt (by omega), bt, getD_ix h]; rfl
  · rw [df (by omega), bf, List.getD_eq_getElem?_getD, List.getElem?_eq_none (by omega)]; rfl
/-- A digit, in numbers. -/
theorem step10 (n i : Nat) : n / 10 ^ i = 10 * (n / 10 ^ (i + 1)) + n / 10 ^ i % 10 := by
  rw [Nat.pow_succ, ← Nat.div_div_eq_div_mul]; omega
theorem gone10 {n i : Nat} (h : (digs n).length ≤ i) : n / 10 ^ i = 0 := by
  rw [Nat.div_eq_of_lt]
  exact Nat.lt_of_lt_of_le digs_lt (Nat.pow_le_pow_right (by decide) h)
theorem more_l0 (k : Nat) (p q : Bool) {a b : Nat} (ha : (digs a).length ≤ 10000) (hb : (digs b).length ≤ 10000) : ∀ (n i : Nat), i < n → i ≤ 30000 → a / 10 ^ i = b / 10 ^ i →
    (cmpN a b = 0 → g_r9_more_l0 k p (digs a) q (digs b) n ((i : Int) - 1) = some (Sum.inr ())) ∧ (cmpN a b ≠ 0 → g_r9_more_l0 k p (digs a) q (digs b) n ((i : Int) - 1) = some (Sum.inl (cmpN a b))) := by
  intro n
  induction n with
  | zero => intro i h; omega
  | succ n ih =>
    intro i h1 h2 h3
    rw [g_r9_more_l0.eq_2]
    simp only [bd]
    by_cases h0 : i = 0
    · subst h0
      have : a = b := by simpa using h3
      subst this
      rw [if_neg (by omega)]
      simp [cmpN]
    · obtain ⟨j, rfl⟩ : ∃ j, i = j + 1 := ⟨i - 1, by omega⟩
      rw [show ((j + 1 : Nat) : Int) - 1 = (j : Int) by omega, if_pos (by omega)]
      simp only [at_, digs_at, Option.bind_some]
      have sa := step10 a j
      have sb := step10 b j
      have hgt : ∀ {x y : Nat}, y / 10 ^ j < x / 10 ^ j → y < x := fun h => by
        apply Nat.lt_of_not_le
        intro hle
        have := Nat.div_le_div_right (c := 10 ^ j) hle
        omega
      by_cases hlt : b / 10 ^ j % 10 < a / 10 ^ j % 10
      · rw [if_pos (by omega)]
        have := hgt (x := a) (y := b) (by omega)
        have hc : cmpN a b = 1 := by unfold cmpN; rw [if_neg (by omega), if_neg (by omega)]
        rw [hc]; simp
      · rw [if_neg (by omega)]
        by_cases hlt2 : a / 10 ^ j % 10 < b / 10 ^ j % 10
        · rw [if_pos (by omega)]
          have := hgt (x := b) (y := a) (by omega)
          have hc : cmpN a b = -1 := by unfold cmpN; rw [if_neg (by omega), if_pos (by omega)]
          rw [hc]; simp
        · rw [if_neg (by omega), wi (by omega) (by omega)]
          exact ih j (by omega) (by omega) (by omega)
theorem more (k : Nat) (p q : Bool) {a b : Nat} (ha : (digs a).length ≤ 10000) (hb : (digs b).length ≤ 10000) (hk : 30000 ≤ k) : g_r9_more k p (digs a) q (digs b) = some (cmpN a b) := by
  unfold g_r9_more
  rw [wi (by omega) (by omega), Option.bind_some]
  have z1 := gone10 (n := a) (i := (digs a).length + (digs b).length + 1) (by omega)
  have z2 := gone10 (n := b) (i := (digs a).length + (digs b).length + 1) (by omega)
  obtain ⟨h1, h2⟩ := more_l0 k p q ha hb k ((digs a).length + (digs b).length + 1) (by omega) (by omega) (by rw [z1, z2])
  rw [show (((digs a).length + (digs b).length + 1 : Nat) : Int) - 1 = (((digs a).length : Nat) : Int) + (((digs b).length : Nat) : Int) by omega] at h1 h2
  by_cases h : cmpN a b = 0
  · rw [h1 h, h]; rfl
  · rw [h2 h]; rfl
/-- How many digits a number has. -/
abbrev nd (x : Int) : Nat := (digs x.natAbs).length
theorem shift (k : Nat) {x : Int} {n : Nat} (hx : nd x ≤ 10000) (hn : n ≤ 10000) (hk : 30000 ≤ k) : g_r9_Shift k (decide (x < 0)) (digs x.natAbs) (n : Int) = some (decide (x * 10 ^ n < 0), digs (x * 10 ^ n).natAbs) := by
  unfold g_r9_Shift
  have hx' : (digs x.natAbs).length ≤ 10000 := hx
  simp only [bd]
  rw [if_pos (by omega), if_pos (by simp; omega)]
  have hd : Dig (List.replicate (Int.toNat (n : Int)) (0 : Int) ++ digs x.natAbs) := by
    refine Dig.app (fun d hd => ?_) (digs_dig _)
    rw [List.eq_of_mem_replicate hd]; omega
  have hv : nval (List.replicate (Int.toNat (n : Int)) (0 : Int) ++ digs x.natAbs) = (x * 10 ^ n).natAbs := by
    have h0 : ∀ m, nval (List.replicate m (0 : Int)) = 0 := by
      intro m
      induction m with
      | zero => rfl
      | succ m ih => rw [List.replicate_succ, nval, ih]; rfl
    rw [nval_app, h0, nval_digs, Int.natAbs_mul]
    simp [Int.natAbs_pow, Nat.mul_comm]
  rw [trim k (by simp; omega) hd (by simp; omega), hv]
  simp only [Option.bind_some]
  congr 2
  have hp := p10 n
  rw [Bool.eq_iff_iff]
  simp only [Bool.and_eq_true, decide_eq_true_eq]
  by_cases h0 : x < 0
  · have : x * 10 ^ n < 0 := Int.mul_neg_of_neg_of_pos h0 hp
    omega
  · have : 0 ≤ x * 10 ^ n := Int.mul_nonneg (show 0 ≤ x by omega) (Int.le_of_lt hp)
    omega
theorem of_l0 (k : Nat) : ∀ (d n : Nat) (c : Int) (acc : List Int), d ≤ n → c.natAbs < 10 ^ d → -9223372036854775808 ≤ c → c ≤ 9223372036854775807 → acc.length + d ≤ 1000 →
    g_r9_Of_l0 k (n + 1) c acc = some (acc ++ digs c.natAbs) := by
  intro d
  induction d with
  | zero =>
    intro n c acc h1 h2 _ _ _
    have : c = 0 := by simp at h2; omega
    subst this
    rw [g_r9_Of_l0.eq_2]
    simp [digs_zero]
  | succ d ih =>
    intro n c acc h1 h2 h3 h4 h5
    rw [g_r9_Of_l0.eq_2]
    by_cases h0 : c = 0
    · subst h0; simp [digs_zero]
    · rw [df h0]
      simp only [Bool.not_false, cond_true, bd]
      rw [Nat.pow_succ] at h2
      have hm : (if Int.tmod c 10 < 0 then ((some (IntKind.wrap .i64 (0 - Int.tmod c 10))).bind fun x1439 => some x1439) else some (Int.tmod c 10)) = some ((c.natAbs % 10 : Nat) : Int) := by
        have ht := Int.tmod_eq_emod (a := c) (b := 10)
        by_cases hneg : Int.tmod c 10 < 0
        · rw [if_pos hneg, Option.bind_some]
          rw [wi (by split at ht <;> omega) (by split at ht <;> omega)]
          congr 1
          split at ht <;> omega
        · rw [if_neg hneg]
          congr 1
          split at ht <;> omega
      rw [hm]
      simp only [Option.bind_some]
      have hq := Int.tdiv_eq_ediv (a := c) (b := 10)
      rw [show Int.sign 10 = 1 from rfl] at hq
      have hq2 : (Int.tdiv c 10).natAbs = c.natAbs / 10 ∧ -9223372036854775808 ≤ Int.tdiv c 10 ∧ Int.tdiv c 10 ≤ 9223372036854775807 := by split at hq <;> (rw [hq]; omega)
      rw [if_pos (by simp; omega), wi hq2.2.1 hq2.2.2]
      obtain ⟨n, rfl⟩ : ∃ n', n = n' + 1 := ⟨n - 1, by omega⟩
      rw [ih n _ _ (by omega) (by omega) hq2.2.1 hq2.2.2 (by simp; omega), hq2.1, digs_pos (n := c.natAbs) (by omega)]
      simp
theorem of_ (k : Nat) (hk : 30 ≤ k) {c : Int} (h1 : -9223372036854775808 ≤ c) (h2 : c ≤ 9223372036854775807) : g_r9_Of k c = some (digs c.natAbs) := by
  unfold g_r9_Of
  obtain ⟨k', rfl⟩ : ∃ k', k = k' + 1 := ⟨k - 1, by omega⟩
  rw [of_l0 (k' + 1) 20 k' c [] (by omega) (by omega) h1 h2 (by simp)]
  simp
theorem nd_i64 {c : Int} (h1 : -9223372036854775808 ≤ c) (h2 : c ≤ 9223372036854775807) : nd c ≤ 19 := digs_len_le (by omega)
end Go.Proofs.YthpcgknknpjpdaaGreatDoor.W
namespace Go.Proofs.YthpcgknknpjpdaaGreatDoor.W
open Go Go.Q Go.Proofs Go.Dz
set_option linter.unusedVariables false
set_option linter.unusedSimpArgs false
theorem cmpN_lt {a b : Nat} : cmpN a b < 0 ↔ a < b := by
  unfold cmpN
  by_cases h : a = b
  · rw [if_pos h]; omega
  · rw [if_neg h]
    by_cases h2 : a < b
    · rw [if_pos h2]; omega
    · rw [if_neg h2]; omega
theorem cmpN_zero {a b : Nat} : cmpN a b = 0 ↔ a = b := by
  unfold cmpN
  by_cases h : a = b
  · rw [if_pos h]; omega
  · rw [if_neg h]
    by_cases h2 : a < b
    · rw [if_pos h2]; omega
    · rw [if_neg h2]; omega
theorem fits (k : Nat) {neg : Bool} {n : Nat} (hn : (digs n).length ≤ 10000) (hk : 30000 ≤ k) : g_r9_fits k neg (digs n) = some (decide (n ≤ topN neg)) := by
  unfold g_r9_fits
  rw [of_ k (by omega) (by decide) (by decide), Option.bind_some, show (-9223372036854775808 : Int).natAbs = 9223372036854775808 from rfl, more k _ _ hn (by have := digs_len_le (n := 9223372036854775808) (m := 19) (by decide); omega) hk, Option.bind_some]
  simp only [bd]
  have h1 := @cmpN_lt n 9223372036854775808
  have h2 := @cmpN_zero n 9223372036854775808
  by_cases ha : n < 9223372036854775808
  · rw [if_pos (h1.2 ha), Option.bind_some]
    congr 1
    refine (dt ?_).symm
    unfold topN; split <;> omega
  · rw [if_neg (fun h => ha (h1.1 h))]
    by_cases hb : n = 9223372036854775808
    · rw [if_pos (h2.2 hb), Option.bind_some]
      congr 1
      unfold topN
      cases neg
      · refine (df ?_).symm; simp; omega
      · refine (dt ?_).symm; simp; omega
    · rw [if_neg (fun h => hb (h2.1 h)), Option.bind_some]
      congr 1
      refine (df ?_).symm
      unfold topN; split <;> omega
theorem trim_drop (k : Nat) {neg : Bool} {n : Nat} (h0 : n ≠ 0) (h10 : n % 10 = 0) (hn : (digs n).length ≤ 10000) (hk : 30000 ≤ k) :
    g_r9_trim k neg (List.drop (Int.toNat 1) (List.take (Int.toNat (((digs n).length : Nat) : Int)) (digs n))) = some (neg, digs (n / 10)) := by
  have e : List.drop (Int.toNat 1) (List.take (Int.toNat (((digs n).length : Nat) : Int)) (digs n)) = digs (n / 10) := by
    rw [Int.toNat_natCast, List.take_length]
    conv => lhs; rw [digs_pos h0]
    rfl
  have hl : (digs (n / 10)).length ≤ 10000 := by
    have := congrArg List.length (digs_pos h0)
    simp at this
    omega
  rw [e, trim k (by omega) (digs_dig _) (by omega), nval_digs]
  have : decide (n / 10 ≠ 0) = true := dt (by omega)
  rw [this, Bool.and_true]
theorem first_digit {n : Nat} (h : n ≠ 0) : ix (digs n) 0 = some ((n % 10 : Nat) : Int) := by
  rw [digs_pos h]; rfl
theorem len_pos {n : Nat} (h : n ≠ 0) : 0 < (digs n).length := by
  rw [digs_pos h]; simp
theorem Tell_l0 (k : Nat) {neg : Bool} (hk : 30000 ≤ k) : ∀ (d m n : Nat) (e : Int), d ≤ m → n ≠ 0 → (digs n).length ≤ d → d ≤ 10000 → -10000 ≤ e → e + d ≤ 20000 → ∃ w j : Nat, n = w * 10 ^ j ∧ w % 10 ≠ 0 ∧ j ≤ d ∧ (digs w).length ≤ d ∧
    g_r9_Tell_l0 k m e neg (digs n) = some (e + j, neg, digs w) := by
  intro d
  induction d with
  | zero => intro m n e _ h0 h; have := len_pos h0; omega
  | succ d ih =>
    intro m n e hm h0 hl hd he1 he2
    obtain ⟨m, rfl⟩ : ∃ m', m = m' + 1 := ⟨m - 1, by omega⟩
    rw [g_r9_Tell_l0.eq_2]
    simp only [Option.bind_some]
    have hp := len_pos h0
    rw [dt (by omega), bt, first_digit h0]
    simp only [Option.bind_some]
    by_cases h10 : n % 10 = 0
    · rw [dt (by omega), bt]
      simp only [bd]
      rw [if_pos (by omega), trim_drop k h0 h10 (by omega) hk, Option.bind_some, wi (by omega) (by omega)]
      have hl' : (digs (n / 10)).length + 1 = (digs n).length := by
        have := congrArg List.length (digs_pos h0)
        simp at this
        omega
      obtain ⟨w, j, h1, h2, h3, h4, h5⟩ := ih m (n / 10) (e + 1) (by omega) (by omega) (by omega) (by omega) (by omega) (by omega)
      refine ⟨w, j + 1, ?_, h2, by omega, by omega, ?_⟩
      · rw [Nat.pow_succ, ← Nat.mul_assoc, ← h1]; omega
      · simp only
        rw [h5]
        congr 2
        omega
    · rw [df (by omega), bf]
      exact ⟨n, 0, by simp, h10, by omega, hl, by simp⟩
theorem len10 {w : Nat} (h : w ≠ 0) : (digs (w * 10)).length = (digs w).length + 1 := by
  rw [digs_pos (by omega), List.length_cons, Nat.mul_div_cancel _ (by decide)]
theorem Tell_l1 (k : Nat) (hk : 30000 ≤ k) : ∀ (m : Nat) (x : Int) (f : Int), x ≠ 0 → 1 ≤ m → 30 < m + nd x → nd x ≤ 9000 → -10000 ≤ f → f ≤ 30000 → ∃ t : Nat, ((t : Int) ≤ f - 18 ∨ t = 0) ∧ (18 < f - t → 30 ≤ nd (x * 10 ^ t)) ∧ nd (x * 10 ^ t) ≤ 9030 ∧
    g_r9_Tell_l1 k m f (decide (x < 0)) (digs x.natAbs) = some (f - t, decide (x * 10 ^ t < 0), digs (x * 10 ^ t).natAbs) := by
  intro m
  induction m with
  | zero => intro x f h0 h; omega
  | succ m ih =>
    intro x f h0 _ h hl hf1 hf2
    rw [g_r9_Tell_l1.eq_2]
    simp only [bd, Option.bind_some]
    have stop : ∃ t : Nat, t = 0 := ⟨0, rfl⟩
    by_cases hf : 18 < f
    · rw [if_pos hf, Option.bind_some]
      by_cases h30 : (digs x.natAbs).length < 30
      · rw [dt (by omega), bt]
        have hs := shift k (x := x) (n := 1) (by omega) (by omega) hk
        rw [show ((1 : Nat) : Int) = 1 from rfl] at hs
        rw [hs, Option.bind_some, wi (by omega) (by omega)]
        have h10 : (x * 10 ^ 1).natAbs = x.natAbs * 10 := by rw [Int.natAbs_mul]; rfl
        have hnd : nd (x * 10 ^ 1) = nd x + 1 := by
          unfold nd
          rw [h10, len10 (by omega)]
        have hlt : nd x < 30 := h30
        obtain ⟨t, t1, t2, t3, t4⟩ := ih (x * 10 ^ 1) (f - 1) (by intro h; rw [Int.mul_eq_zero] at h; omega) (by omega) (by omega) (by omega) (by omega) (by omega)
        rw [Int.mul_assoc, ← Int.pow_add, Nat.add_comm 1 t] at t2 t3 t4
        refine ⟨t + 1, by omega, fun h => t2 (by omega), t3, ?_⟩
        simp only
        rw [t4]
        congr 2
        omega
      · rw [df (by omega), bf]
        have : nd x = (digs x.natAbs).length := rfl
        exact ⟨0, .inr rfl, fun _ => by simp; omega, by simp; omega, by simp⟩
    · rw [if_neg hf, Option.bind_some, bf]
      exact ⟨0, .inr rfl, fun h => by omega, by simp; omega, by simp⟩
/-- The digits told again. -/
theorem Tell_l2 (k : Nat) {x : Int} (h1 : -9223372036854775808 ≤ x) (h2 : x ≤ 9223372036854775807) : ∀ (m i : Nat) (c : Int), i < m → i ≤ (digs x.natAbs).length → c.natAbs = x.natAbs / 10 ^ i → (x < 0 → c ≤ 0) → (0 ≤ x → 0 ≤ c) →
    g_r9_Tell_l2 k (decide (x < 0)) (digs x.natAbs) m c ((i : Int) - 1) = some x := by
  intro m
  induction m with
  | zero => intro i c h; omega
  | succ m ih =>
    intro i c hm hi hc hn hp
    have hlen : (digs x.natAbs).length ≤ 19 := nd_i64 h1 h2
    rw [g_r9_Tell_l2.eq_2]
    simp only [bd, Option.bind_some]
    by_cases h0 : i = 0
    · subst h0
      rw [if_neg (by omega)]
      simp only [Nat.pow_zero, Nat.div_one] at hc
      congr 1
      omega
    · obtain ⟨j, rfl⟩ : ∃ j, i = j + 1 := ⟨i - 1, by omega⟩
      rw [show ((j + 1 : Nat) : Int) - 1 = (j : Int) by omega, if_pos (by omega)]
      have hx : ∀ z : Int, ((ix (digs x.natAbs) (j : Int)).bind fun x3917 => (some z : Option Int)) = (ix (digs x.natAbs) (j : Int)).bind fun _ => some z := fun _ => rfl
      have sa := step10 x.natAbs j
      have la : x.natAbs / 10 ^ j % 10 < 10 := Nat.mod_lt _ (by decide)
      have hle : x.natAbs / 10 ^ j ≤ x.natAbs := Nat.div_le_self _ _
      have hdg := @digs_at x.natAbs j
      rw [← hc] at sa
      generalize x.natAbs / 10 ^ j % 10 = y at *
      have hj : j < (digs x.natAbs).length := by omega
      · rw [getD_ix hj, hdg]
        simp only [Option.bind_some]
        by_cases hx0 : x < 0
        · rw [if_pos hx0, wi (n := c * 10) (by omega) (by omega), wi (by omega) (by omega), Option.bind_some, wi (by omega) (by omega)]
          have := ih j (c * 10 - y) (by omega) (by omega) (by omega) (by omega) (by omega)
          exact this
        · rw [if_neg hx0, wi (n := c * 10) (by omega) (by omega), wi (by omega) (by omega), Option.bind_some, wi (by omega) (by omega)]
          have := ih j (c * 10 + y) (by omega) (by omega) (by omega) (by omega) (by omega)
          exact this
/-- The right Dec of the document's number. -/
theorem Tell (k : Nat) {x e : Int} (hx : nd x ≤ 9000) (he1 : -4000 ≤ e) (he2 : e ≤ 4000) (hk : 30000 ≤ k) : ∃ er c y : Int, g_r9_Tell k (decide (x < 0)) (digs x.natAbs) e = some (er, c, y) ∧ Tells (· = val x e) ((c, y), er) := by
  unfold g_r9_Tell
  simp only [Option.bind_some, bd]
  have hx' : (digs x.natAbs).length ≤ 9000 := hx
  by_cases h0 : x = 0
  · subst h0
    refine ⟨0, 0, 0, ?_, tells_zero⟩
    rw [show (0 : Int).natAbs = 0 from rfl, digs_zero]; rfl
  · have hn0 : x.natAbs ≠ 0 := by omega
    have hp := len_pos hn0
    rw [if_neg (by omega)]
    obtain ⟨w, j, h1, h2, h3, h4, h5⟩ := Tell_l0 k (neg := decide (x < 0)) hk (digs x.natAbs).length k x.natAbs e (by omega) hn0 (Nat.le_refl _) (by omega) (by omega) (by omega)
    -- the number without noughts
    obtain ⟨y, hy⟩ : ∃ y : Int, y = sgn (decide (x < 0)) w := ⟨_, rfl⟩
    have hyw : y.natAbs = w := by rw [hy, sgn_abs]
    have hw0 : w ≠ 0 := by rintro rfl; simp at h2
    have hy0 : y ≠ 0 := by omega
    have hxy : x = y * 10 ^ j := by
      have : x = sgn (decide (x < 0)) x.natAbs := by unfold sgn; by_cases h : x < 0 <;> simp [h] <;> omega
      rw [this, h1, sgn_mul, ← hy]
      simp
    have hneg : decide (x < 0) = decide (y < 0) := by
      rw [hy]
      rw [decide_eq_decide]
      by_cases h : x < 0
      · simp [h, sgn]; omega
      · simp [h, sgn]
    have hd : ¬ (10 : Int) ∣ y := by rw [hy, sgn_dvd]; exact h2
    have hval : val x e = val y (e + j) := by
      conv => lhs; rw [hxy]
      exact val_shift (by omega)
    rw [hval]
    by_cases h60 : 60 < e
    · rw [if_pos h60]
      refine ⟨30, 0, 0, rfl, tells_none hy0 hd (by omega) (.inr ?_)⟩
      have : (10 : Nat) ^ 20 ≤ 10 ^ (e + j - 18).toNat := Nat.pow_le_pow_right (by decide) (by omega)
      have h6 : (y * 10 ^ (e + j - 18).toNat).natAbs = w * 10 ^ (e + j - 18).toNat := by rw [Int.natAbs_mul, hyw, Int.natAbs_pow]; rfl
      have h7 : 1 * 10 ^ 20 ≤ w * 10 ^ (e + j - 18).toNat := Nat.mul_le_mul (by omega) this
      rw [← h6] at h7
      omega
    · rw [if_neg h60, h5, Option.bind_some]
      simp only
      clear hy
      subst hyw
      rw [hneg]
      obtain ⟨t, t1, t2, t3, t4⟩ := Tell_l1 k hk k y (e + j) hy0 (by omega) (by omega) (by unfold nd; omega) (by omega) (by omega)
      rw [t4, Option.bind_some]
      simp only
      generalize hz : y * 10 ^ t = z at *
      have hz0 : z ≠ 0 := by rw [← hz]; intro h; rcases Int.mul_eq_zero.1 h with h | h; exact hy0 h; exact absurd h (Int.ne_of_gt (p10 _))
      have h18none : 18 < e + j - t → Tells (· = val y (e + j)) ((0, 0), 30) := by
        intro h18
        refine tells_none hy0 hd (by omega) (.inr ?_)
        have h30 := digs_ge (n := z.natAbs) (by omega)
        have hlen := t2 h18
        have h29 : (10 : Nat) ^ 29 ≤ z.natAbs := Nat.le_trans (Nat.pow_le_pow_right (by decide) (by unfold nd at hlen; omega)) h30
        have hsplit : y * 10 ^ (e + j - 18).toNat = z * 10 ^ (e + j - 18 - t).toNat := by
          rw [← hz, Int.mul_assoc, ← Int.pow_add]
          congr 2
          omega
        have h6 : (z * 10 ^ (e + j - 18 - t).toNat).natAbs = z.natAbs * 10 ^ (e + j - 18 - t).toNat := by rw [Int.natAbs_mul, Int.natAbs_pow]; rfl
        have h7 : 10 ^ 29 * 1 ≤ z.natAbs * 10 ^ (e + j - 18 - t).toNat := Nat.mul_le_mul h29 (Nat.pow_pos (by decide))
        rw [← h6] at h7
        rw [hsplit]
        omega
      by_cases h18 : 18 < e + j - t
      · rw [if_pos h18, Option.bind_some, bt]
        exact ⟨30, 0, 0, rfl, h18none h18⟩
      · rw [if_neg h18]
        by_cases hm18 : e + j - t < -18
        · rw [if_pos hm18, Option.bind_some, bt]
          exact ⟨30, 0, 0, rfl, tells_none hy0 hd (by omega) (.inl (by omega))⟩
        · rw [if_neg hm18]
          have hzl : (digs z.natAbs).length ≤ 9030 := t3
          rw [fits k (by omega) hk, Option.bind_some, Option.bind_some]
          have hzx : e + j - t = (if e + j > 18 then 18 else e + j) := by split <;> omega
          have hzt : z = y * 10 ^ (e + j - (e + j - t)).toNat := by rw [← hz]; congr 2; omega
          have hzs : z = sgn (decide (z < 0)) z.natAbs := by unfold sgn; by_cases h : z < 0 <;> simp [h] <;> omega
          by_cases hfit : z.natAbs ≤ topN (decide (z < 0))
          · rw [dt hfit, Bool.not_true, bf]
            have hr := in_range.2 hfit
            rw [← hzs] at hr
            have hzlen := nd_i64 hr.1 hr.2
            rw [wi (by omega) (by omega)]
            have := Tell_l2 k hr.1 hr.2 k (digs z.natAbs).length 0 (by omega) (Nat.le_refl _) (by rw [gone10 (Nat.le_refl _)]; rfl) (by omega) (by omega)
            rw [this, Option.bind_some]
            exact ⟨0, z, e + j - t, rfl, tells_some hy0 hd (by omega) ⟨hzx, hzt, by omega, hr.1, hr.2⟩⟩
          · rw [df hfit, Bool.not_false, bt]
            refine ⟨30, 0, 0, rfl, ?_⟩
            have hnr := fun h => hfit (in_range.1 h)
            rw [← hzs] at hnr
            refine tells_none hy0 hd (by omega) ?_
            by_cases he18 : e + j > 18
            · rw [if_pos he18] at hzx
              rw [hzx] at hzt
              rw [← hzt]
              exact .inr hnr
            · rw [if_neg he18] at hzx
              refine .inr ?_
              rw [hzx] at hzt
              rw [show (e + j - 18).toNat = (e + j - (e + j)).toNat by omega, ← hzt]
              exact hnr
end Go.Proofs.YthpcgknknpjpdaaGreatDoor.W
namespace Go.Proofs.YthpcgknknpjpdaaGreatDoor.W
open Go Go.Q Go.Proofs Go.Dz
set_option linter.unusedVariables false
set_option linter.unusedSimpArgs false
theorem canon_exists {c : Int} (hc : I64 c) : ∀ (n : Nat) (e : Int), (18 - e).toNat = n → Rng e → ∀ c, I64 c → ∃ c' x', Canon c' x' ∧ val c' x' = val c e := by
  intro n
  induction n with
  | zero =>
    intro e h he c hc
    unfold Rng at he
    unfold I64 at hc
    by_cases h0 : c = 0
    · exact ⟨0, 0, .inl ⟨rfl, rfl⟩, by rw [h0, val_zero, val_zero]⟩
    · exact ⟨c, e, .inr ⟨h0, he.1, he.2, hc.1, hc.2, .inl (by omega)⟩, rfl⟩
  | succ n ih =>
    intro e h he c hc
    unfold Rng at he
    unfold I64 at hc
    by_cases h0 : c = 0
    · exact ⟨0, 0, .inl ⟨rfl, rfl⟩, by rw [h0, val_zero, val_zero]⟩
    · by_cases hd : (10 : Int) ∣ c
      · obtain ⟨c1, rfl⟩ := hd
        obtain ⟨c', x', h1, h2⟩ := ih (e + 1) (by omega) (by unfold Rng; omega) c1 (by unfold I64; omega)
        refine ⟨c', x', h1, ?_⟩
        have := val_shift (m := c1) (e := e) (j := 1) (by omega)
        rw [h2, Int.mul_comm 10 c1]
        exact this.symm
      · exact ⟨c, e, .inr ⟨h0, he.1, he.2, hc.1, hc.2, .inr hd⟩, rfl⟩
theorem size_eq (k : Nat) {c : Int} (hc : I64 c) : g_dec_size k c = some ((c.natAbs : Nat) : Int) := by
  unfold g_dec_size
  unfold I64 at hc
  simp only [bd, Option.bind_some]
  by_cases h : c < 0
  · rw [if_pos h]
    have : IntKind.wrap .u64 (0 - IntKind.wrap .u64 c) = ((c.natAbs : Nat) : Int) := by rw [wUi, wUi]; omega
    rw [this]
  · rw [if_neg h]
    have : IntKind.wrap .u64 c = ((c.natAbs : Nat) : Int) := by rw [wUi]; omega
    rw [this]
theorem of_eq (k : Nat) {c e : Int} (hc : I64 c) : g_dec_of k c e = some ((c.natAbs : Nat) : Int) := by
  unfold g_dec_of; rw [size_eq k hc]; rfl
theorem ranged_eq (k : Nat) (hk : 3 ≤ k) {c e : Int} : g_dec_ranged k ([(⟨c, e⟩ : S_api_Dec)] : List S_api_Dec) = some (decide (Rng e)) := by
  unfold g_dec_ranged
  obtain ⟨k, rfl⟩ : ∃ k', k = k' + 2 := ⟨k - 2, by omega⟩
  rw [g_dec_ranged_l0.eq_2]
  have e1 : ix ([(⟨c, e⟩ : S_api_Dec)] : List S_api_Dec) 0 = some ⟨c, e⟩ := rfl
  have e2 : IntKind.wrap .i64 (0 + 1) = 1 := by decide
  have e3 : decide ((0 : Int) < (([(⟨c, e⟩ : S_api_Dec)].length : Nat) : Int)) = true := rfl
  have e4 : decide ((1 : Int) < (([(⟨c, e⟩ : S_api_Dec)].length : Nat) : Int)) = false := rfl
  rw [Option.bind_some, e3, bt, e1, Option.bind_some, e2]
  simp only [bd]
  by_cases h1 : e < -18
  · rw [if_pos h1, df (show ¬ Rng e by unfold Rng; omega)]; rfl
  · rw [if_neg h1]
    by_cases h2 : 18 < e
    · rw [dt h2, df (show ¬ Rng e by unfold Rng; omega)]; rfl
    · rw [df h2, dt (show Rng e by unfold Rng; omega), Option.bind_some, bf, g_dec_ranged_l0.eq_2, Option.bind_some, e4]; rfl
theorem sgn_self (c : Int) : sgn (decide (c < 0)) c.natAbs = c := by
  unfold sgn; by_cases h : c < 0 <;> simp [h] <;> omega
theorem abs_lt {c : Int} (hc : I64 c) : c.natAbs < 18446744073709551616 := by unfold I64 at hc; omega
/-- A number of the program, from its sign and size. -/
theorem tell_abs (k : Nat) (hk : 60 ≤ k) {neg : Bool} {n : Nat} {e : Int} (hn : n < 18446744073709551616) (he : -4000 ≤ e ∧ e ≤ 4000) : ∃ er c x : Int, g_dec_num_tell k neg 0 (n : Int) e = some (er, c, x) ∧ Tells (· = val (sgn neg n) e) ((c, x), er) := by
  have := num_tell k hk (neg := neg) (v := n) (e := e) (by unfold UU; omega) he.1 he.2
  rwa [wh_small hn, wl_small hn] at this
theorem tell_ok (k : Nat) (hk : 60 ≤ k) {c e : Int} (hc : I64 c) (he : Rng e) : ∃ c' e' : Int, g_dec_num_tell k (decide (c < 0)) 0 ((c.natAbs : Nat) : Int) e = some (0, c', e') ∧ Canon c' e' ∧ val c' e' = val c e := by
  obtain ⟨er, c', x', h1, h2⟩ := tell_abs k hk (neg := decide (c < 0)) (n := c.natAbs) (e := e) (abs_lt hc) (by unfold Rng at he; omega)
  rw [sgn_self] at h2
  rcases h2 with ⟨h3, h4, h5⟩ | ⟨h3, h4⟩
  · simp only at h3 h4 h5
    exact ⟨c', x', by rw [h1, h3], h4, h5⟩
  · obtain ⟨c2, x2, h5, h6⟩ := canon_exists hc _ e rfl he c hc
    exact absurd h6 (h4 _ _ h5)
theorem clean1 (k : Nat) (hk : 60 ≤ k) {c e : Int} (hc : I64 c) : if Rng e then ∃ c' e' : Int, g_dec_clean__b k c e = some (true, c', e') ∧ Canon c' e' ∧ val c' e' = val c e else ∃ r, g_dec_clean__b k c e = some (false, r) := by
  unfold g_dec_clean__b
  rw [ranged_eq k (by omega), Option.bind_some]
  by_cases he : Rng e
  · rw [if_pos he, dt he]
    obtain ⟨c', e', h1, h2, h3⟩ := tell_ok k hk hc he
    rw [of_eq k hc]
    simp only [Bool.not_true, cond_false, Option.bind_some]
    rw [h1]
    exact ⟨c', e', rfl, h2, h3⟩
  · rw [if_neg he, df he]
    exact ⟨_, rfl⟩
end Go.Proofs.YthpcgknknpjpdaaGreatDoor.W
namespace Go.Proofs.YthpcgknknpjpdaaGreatDoor.W
open Go Go.Q Go.Proofs Go.Dz
set_option linter.unusedVariables false
set_option linter.unusedSimpArgs false
theorem i64_I {c : Int} (h : (Lit.int .i64 c).wf = true) : I64 c := i64_wf h
end Go.Proofs.YthpcgknknpjpdaaGreatDoor.W
namespace Go.Proofs.YthpcgknknpjpdaaGreatDoor.W
open Go Go.Q Go.Proofs Go.Dz
set_option linter.unusedVariables false
set_option linter.unusedSimpArgs false
theorem dec_Right (k : Nat) (hk : 60 ≤ k) {c e : Int} (hc : Canon c e) : g_dec_Right k c e = some true := by
  unfold g_dec_Right
  obtain ⟨c', e', h1, h2, h3⟩ := tell_ok k hk hc.i64 hc.rg
  obtain ⟨rfl, rfl⟩ := h2.uniq hc h3
  rw [of_eq k hc.i64, Option.bind_some, h1, Option.bind_some]
  simp only
  rw [ranged_eq k (by omega), dt hc.rg, Option.bind_some, bt]
  simp
end Go.Proofs.YthpcgknknpjpdaaGreatDoor.W
namespace Go.Proofs.YthpcgknknpjpdaaGreatDoor.W
open Go Go.Q Go.Proofs
set_option linter.unusedVariables false
set_option linter.unusedSimpArgs false
def chru (c : Nat) : Prop := c ≤ 1114111 ∧ ¬ (55296 ≤ c ∧ c ≤ 57343)
instance (c : Nat) : Decidable (chru c) := by unfold chru; infer_instance
theorem wu8 {n : Int} (h0 : 0 ≤ n) (h1 : n < 256) : IntKind.wrap .u8 n = n := by
  unfold IntKind.wrap; simp [IntKind.signed, IntKind.bits]; omega
end Go.Proofs.YthpcgknknpjpdaaGreatDoor.W
namespace Go.Proofs.YthpcgknknpjpdaaGreatDoor.W
open Go Go.Q Go.Proofs
set_option linter.unusedVariables false
set_option linter.unusedSimpArgs false
instance (l : List UInt8) (c w : Nat) : Decidable (okL l c w) := by unfold okL; infer_instance
end Go.Proofs.YthpcgknknpjpdaaGreatDoor.W
namespace Go.Proofs.YthpcgknknpjpdaaGreatDoor.W
open Go Go.Q Go.Proofs
set_option linter.unusedVariables false
set_option linter.unusedSimpArgs false
/-- The places at which characters begin: what is left there. -/
def sufs (l : List UInt8) : List (List UInt8) := if h : 0 < l.length then l :: sufs (l.drop (decL l).2) else []
termination_by l.length
decreasing_by
  have := decL_w h
  rw [List.length_drop]
  omega
theorem sufs_nil : sufs [] = [] := by rw [sufs]; rfl
theorem sufs_cons {l : List UInt8} (h : 0 < l.length) : sufs l = l :: sufs (l.drop (decL l).2) := by rw [sufs, dif_pos h]
def validL (l : List UInt8) : Bool := (sufs l).all isL
theorem validL_nil : validL [] = true := by rw [validL, sufs_nil]; rfl
theorem validL_cons {l : List UInt8} (h : 0 < l.length) : validL l = (isL l && validL (l.drop (decL l).2)) := by rw [validL, sufs_cons h]; rfl
theorem nil_of_len {l : List UInt8} (h : ¬ 0 < l.length) : l = [] := by
  cases l with
  | nil => rfl
  | cons a t => simp at h
theorem dec1 {l : List UInt8} (h : 0 < l.length) (hb : byt l 0 < 128) : decL l = (byt l 0, 1) := decL_of (.inl ⟨rfl, h, rfl, hb⟩)
theorem isL_of {l : List UInt8} {c w : Nat} (h : okL l c w) : isL l = true := by
  have h0 : 0 < l.length := by have := okL_w h; omega
  rw [isL_iff h0, decL_of h]; exact h
theorem valid_skip {l : List UInt8} : ∀ (m : Nat), m ≤ l.length → (∀ i, i < m → byt l i < 128) → validL (l.drop m) = validL l := by
  intro m
  induction m with
  | zero => intro _ _; rfl
  | succ m ih =>
    intro h1 h2
    have hl : 0 < (l.drop m).length := by rw [List.length_drop]; omega
    have hb : byt (l.drop m) 0 < 128 := by rw [byt_drop]; exact h2 (m + 0) (by omega)
    rw [← ih (by omega) (fun i hi => h2 i (by omega)), validL_cons hl, dec1 hl hb, isL_of (.inl ⟨rfl, hl, rfl, hb⟩), Bool.true_and, List.drop_drop]
theorem L_drop {s : ByteArray} {i : Nat} : L (s.extract i (Int.toNat ((ByteArray.size s : Nat) : Int))) = (L s).drop i := by
  rw [L_extract, Int.toNat_natCast, L_size, ← List.length_drop, List.take_length]
theorem sizeL {s : ByteArray} : ((ByteArray.size s : Nat) : Int) = ((L s).length : Int) := by rw [L_size]
def bv (l : List UInt8) (i : Nat) : BitVec 8 := (l.getD i 0).toBitVec
theorem bv_byt (l : List UInt8) (i : Nat) : (byt l i : Int) = ((bv l i).toNat : Int) := rfl
/-- Eight bytes as one number. -/
def wd (l : List UInt8) : BitVec 64 :=
  (((((bv l 0).setWidth 64 ||| ((bv l 1).setWidth 64 <<< 8)) ||| ((bv l 2).setWidth 64 <<< 16)) ||| ((bv l 3).setWidth 64 <<< 24)) ||| ((bv l 4).setWidth 64 <<< 32) ||| ((bv l 5).setWidth 64 <<< 40)) ||| ((bv l 6).setWidth 64 <<< 48) ||| ((bv l 7).setWidth 64 <<< 56)
theorem word_eq {k : Nat} {s : ByteArray} (h : 8 ≤ (L s).length) : g_u8_word_string k s = some ((wd (L s)).toNat : Int) := by
  unfold g_u8_word_string wd
  have hi : ∀ i : Nat, i < 8 → ix (strInts s) (i : Int) = some ((bv (L s) i).toNat : Int) := fun i hi => by rw [strInts_L, ix_I (by omega), bv_byt]
  rw [show ix (strInts s) 0 = _ from hi 0 (by omega), show ix (strInts s) 1 = _ from hi 1 (by omega), show ix (strInts s) 2 = _ from hi 2 (by omega), show ix (strInts s) 3 = _ from hi 3 (by omega),
    show ix (strInts s) 4 = _ from hi 4 (by omega), show ix (strInts s) 5 = _ from hi 5 (by omega), show ix (strInts s) 6 = _ from hi 6 (by omega), show ix (strInts s) 7 = _ from hi 7 (by omega)]
  simp only [Option.bind_some, u64_of_u8, u64_shl, u64_or]
  rfl
theorem bit7 {b : BitVec 8} (h : b.getLsbD 7 = false) : b.toNat < 128 := by
  have h1 := b.isLt
  rw [BitVec.getLsbD, Nat.testBit_eq_decide_div_mod_eq] at h
  simp at h
  omega
theorem wd_asc {l : List UInt8} (h : wd l &&& 0x8080808080808080#64 = 0#64) : ∀ i, i < 8 → byt l i < 128 := by
  have key : ∀ i, i < 8 → (bv l i).getLsbD 7 = false := by
    intro i hi
    have g := congrArg (fun x : BitVec 64 => x.getLsbD (8 * i + 7)) h
    obtain rfl | rfl | rfl | rfl | rfl | rfl | rfl | rfl : i = 0 ∨ i = 1 ∨ i = 2 ∨ i = 3 ∨ i = 4 ∨ i = 5 ∨ i = 6 ∨ i = 7 := by omega
    all_goals (unfold wd at g; simp [BitVec.getLsbD_or, BitVec.getLsbD_and, BitVec.getLsbD_shiftLeft, BitVec.getLsbD_setWidth] at g; simpa using g)
  intro i hi
  exact bit7 (key i hi)
theorem and_mask (a : BitVec 64) : bits .and .u64 (a.toNat : Int) 9259542123273814144 = ((a &&& 0x8080808080808080#64).toNat : Int) := by
  have := u64_and a 0x8080808080808080#64
  exact this
theorem mask0 {a : BitVec 64} (h : ((a &&& 0x8080808080808080#64).toNat : Int) = 0) : a &&& 0x8080808080808080#64 = 0#64 := by
  apply BitVec.eq_of_toNat_eq
  rw [BitVec.toNat_zero]
  omega
theorem mask_or {a b : BitVec 64} (h : (a ||| b) &&& 0x8080808080808080#64 = 0#64) : a &&& 0x8080808080808080#64 = 0#64 ∧ b &&& 0x8080808080808080#64 = 0#64 := by
  have key : ∀ i, (hi : i < 64) → ((a &&& 0x8080808080808080#64)[i] = false ∧ (b &&& 0x8080808080808080#64)[i] = false) := by
    intro i hi
    have g := congrArg (fun x : BitVec 64 => x[i]) h
    simp only [BitVec.getElem_and, BitVec.getElem_or, BitVec.getElem_zero] at g ⊢
    revert g
    cases a[i] <;> cases b[i] <;> cases (0x8080808080808080#64)[i] <;> simp
  constructor
  · apply BitVec.eq_of_getElem_eq
    intro i hi
    rw [(key i hi).1, BitVec.getElem_zero]
  · apply BitVec.eq_of_getElem_eq
    intro i hi
    rw [(key i hi).2, BitVec.getElem_zero]
theorem asc_drop {l : List UInt8} {p m : Nat} (h : ∀ i, i < m → byt (l.drop p) i < 128) : ∀ i, p ≤ i → i < p + m → byt l i < 128 := by
  intro i h1 h2
  have := h (i - p) (by omega)
  rwa [byt_drop, show p + (i - p) = i by omega] at this
theorem l1_valid {k : Nat} : ∀ (n : Nat) (s : ByteArray), (L s).length < n → Ret (g_u8_ValidString_l1 k n s) fun r => validL (L r) = validL (L s) ∧ (L r).length ≤ (L s).length := by
  intro n
  induction n with
  | zero => intro s h; omega
  | succ n ih =>
    intro s hn
    rw [g_u8_ValidString_l1.eq_2]
    simp only [Option.bind_some, sizeL]
    by_cases h32 : 32 < (L s).length
    · rw [dt (show (32 : Int) < ((L s).length : Int) by omega), dt (show 0 ≤ (8 : Int) ∧ (8 : Int) ≤ ((L s).length : Int) ∧ ((L s).length : Int) ≤ ((L s).length : Int) by omega), dt (show 0 ≤ (16 : Int) ∧ (16 : Int) ≤ ((L s).length : Int) ∧ ((L s).length : Int) ≤ ((L s).length : Int) by omega),
        dt (show 0 ≤ (24 : Int) ∧ (24 : Int) ≤ ((L s).length : Int) ∧ ((L s).length : Int) ≤ ((L s).length : Int) by omega), dt (show 0 ≤ (32 : Int) ∧ (32 : Int) ≤ ((L s).length : Int) ∧ ((L s).length : Int) ≤ ((L s).length : Int) by omega)]
      have hd : ∀ p : Nat, L (s.extract p (Int.toNat ((L s).length : Int))) = (L s).drop p := fun p => by rw [← sizeL, L_drop]
      have hw : ∀ p : Nat, p + 8 ≤ (L s).length → g_u8_word_string k (s.extract p (Int.toNat ((L s).length : Int))) = some ((wd ((L s).drop p)).toNat : Int) := fun p hp => by
        rw [word_eq (by rw [hd, List.length_drop]; omega), hd]
      simp only [bt]
      rw [word_eq (by omega), show g_u8_word_string k (s.extract (Int.toNat 8) (Int.toNat ((L s).length : Int))) = _ from hw 8 (by omega), show g_u8_word_string k (s.extract (Int.toNat 16) (Int.toNat ((L s).length : Int))) = _ from hw 16 (by omega), show g_u8_word_string k (s.extract (Int.toNat 24) (Int.toNat ((L s).length : Int))) = _ from hw 24 (by omega)]
      simp only [Option.bind_some, u64_or, and_mask]
      by_cases hz : ((((wd (L s) ||| wd ((L s).drop 8)) ||| (wd ((L s).drop 16) ||| wd ((L s).drop 24))) &&& 0x8080808080808080#64).toNat : Int) = 0
      · rw [dt hz]
        simp only [bt]
        obtain ⟨m1, m2⟩ := mask_or (mask0 hz)
        obtain ⟨m3, m4⟩ := mask_or m1
        obtain ⟨m5, m6⟩ := mask_or m2
        have a0 := wd_asc m3; have a1 := asc_drop (wd_asc m4); have a2 := asc_drop (wd_asc m5); have a3 := asc_drop (wd_asc m6)
        have hall : ∀ i, i < 32 → byt (L s) i < 128 := by
          intro i hi
          by_cases i1 : i < 8
          · exact a0 i i1
          · by_cases i2 : i < 16
            · exact a1 i (by omega) (by omega)
            · by_cases i3 : i < 24
              · exact a2 i (by omega) (by omega)
              · exact a3 i (by omega) (by omega)
        have hsk := valid_skip 32 (by omega) hall
        have h3 := hd 32
        refine Ret.mono (ih (s.extract (Int.toNat 32) (Int.toNat ((L s).length : Int))) ?_) ?_
        · show (L (s.extract 32 (Int.toNat ((L s).length : Int)))).length < n
          rw [h3, List.length_drop]; omega
        · rintro r ⟨r1, r2⟩
          have r1' : validL (L r) = validL (L (s.extract 32 (Int.toNat ((L s).length : Int)))) := r1
          have r2' : (L r).length ≤ (L (s.extract 32 (Int.toNat ((L s).length : Int)))).length := r2
          rw [h3] at r1' r2'
          rw [List.length_drop] at r2'
          exact ⟨r1'.trans hsk, by omega⟩
      · rw [df hz]
        exact Ret.pure ⟨rfl, Nat.le_refl _⟩
    · rw [df (show ¬ (32 : Int) < ((L s).length : Int) by omega)]
      exact Ret.pure ⟨rfl, Nat.le_refl _⟩
def szOf (b : Nat) : Int := IntKind.wrap .i64 (bits .and .u8 (List.getD tab0 b (0 : Int)) 7)
def ixOf (b : Nat) : Int := shrI .u8 (List.getD tab0 b (0 : Int)) 4
def tck (b : Nat) : Bool :=
  if b < 194 ∨ 244 < b then szOf b == 1 && (decide (0 ≤ ixOf b ∧ ixOf b < 16)) else if b < 224 then szOf b == 2 && ixOf b == 0 else if b = 224 then szOf b == 3 && ixOf b == 1 else if b = 237 then szOf b == 3 && ixOf b == 2
  else if b < 240 then szOf b == 3 && ixOf b == 0 else if b = 240 then szOf b == 4 && ixOf b == 3 else if b = 244 then szOf b == 4 && ixOf b == 4 else szOf b == 4 && ixOf b == 0
theorem tck_all : ((List.range 128).all fun i => tck (i + 128)) = true := by kernel_rfl
theorem tck_at {b : Nat} (h1 : 128 ≤ b) (h2 : b < 256) : tck b = true := by
  have := List.all_eq_true.1 tck_all (b - 128) (by simp; omega)
  rwa [show b - 128 + 128 = b by omega] at this
end Go.Proofs.YthpcgknknpjpdaaGreatDoor.W
namespace Go.Proofs.YthpcgknknpjpdaaGreatDoor.W
open Go Go.Q Go.Proofs
set_option linter.unusedVariables false
set_option linter.unusedSimpArgs false
theorem cutOk {a n : Int} (h0 : 0 ≤ a) (h1 : a ≤ n) : decide (0 ≤ a ∧ a ≤ n ∧ n ≤ n) = true := dt ⟨h0, h1, Int.le_refl n⟩
theorem hdL (s : ByteArray) (p : Nat) : L (s.extract p (Int.toNat ((L s).length : Int))) = (L s).drop p := by rw [← sizeL, L_drop]
/-- Behind a byte below 128. -/
theorem mid {k : Nat} (s : ByteArray) (hk : (L s).length < k) : Ret (((some (decide (8 < ((ByteArray.size s : Nat) : Int)))).bind fun x8401 => (bif x8401 then ((g_u8_word_string k s).bind fun x8404 => ((some (bits .and .u64 x8404 9259542123273814144)).bind fun x8405 => some (decide (x8405 = 0)))) else some false)).bind fun x8400 =>
    (bif x8400 then (bif (decide (0 ≤ (8 : Int) ∧ (8 : Int) ≤ ((ByteArray.size s : Nat) : Int) ∧ ((ByteArray.size s : Nat) : Int) ≤ ((ByteArray.size s : Nat) : Int))) then ((some (ByteArray.extract s (Int.toNat 8) (Int.toNat ((ByteArray.size s : Nat) : Int)))).bind fun x8409 => (((some (decide (16 < ((ByteArray.size x8409 : Nat) : Int)))).bind fun x8438 => (bif x8438 then (bif (decide (0 ≤ (8 : Int) ∧ (8 : Int) ≤ ((ByteArray.size x8409 : Nat) : Int) ∧ ((ByteArray.size x8409 : Nat) : Int) ≤ ((ByteArray.size x8409 : Nat) : Int))) then ((some (ByteArray.extract x8409 (Int.toNat 8) (Int.toNat ((ByteArray.size x8409 : Nat) : Int)))).bind fun x8441 => ((g_u8_word_string k x8409).bind fun x8443 => ((g_u8_word_string k x8441).bind fun x8445 => ((some (bits .and .u64 (bits .or .u64 x8443 x8445) 9259542123273814144)).bind fun x8446 => some (decide (x8446 = 0)))))) else none) else some false)).bind fun x8428 => (bif x8428 then (bif (decide (0 ≤ (16 : Int) ∧ (16 : Int) ≤ ((ByteArray.size x8409 : Nat) : Int) ∧ ((ByteArray.size x8409 : Nat) : Int) ≤ ((ByteArray.size x8409 : Nat) : Int))) then ((some (ByteArray.extract x8409 (Int.toNat 16) (Int.toNat ((ByteArray.size x8409 : Nat) : Int)))).bind fun x8450 => ((g_u8_ValidString_l1 k k x8450).bind fun x8756 => some x8756)) else none) else some x8409))) else none) else some s))
    fun r => validL (L r) = validL (L s) ∧ (L r).length ≤ (L s).length := by
  simp only [Option.bind_some, sizeL]
  by_cases h8 : 8 < (L s).length
  · rw [dt (show (8 : Int) < ((L s).length : Int) by omega)]
    simp only [bt]
    rw [word_eq (by omega)]
    simp only [Option.bind_some, and_mask]
    by_cases hz : ((wd (L s) &&& 0x8080808080808080#64).toNat : Int) = 0
    · rw [dt hz]
      simp only [bt]
      rw [cutOk (by omega) (by omega)]
      simp only [bt]
      have e8 : L (s.extract (Int.toNat 8) (Int.toNat ((L s).length : Int))) = (L s).drop 8 := hdL s 8
      have hs8 := valid_skip 8 (by omega) (wd_asc (mask0 hz))
      generalize s.extract (Int.toNat 8) (Int.toNat ((L s).length : Int)) = u at *
      have hul : (L u).length = (L s).length - 8 := by rw [e8, List.length_drop]
      rw [← e8] at hs8
      by_cases h16 : 16 < (L u).length
      · rw [dt (show (16 : Int) < ((L u).length : Int) by omega), cutOk (a := 8) (by omega) (by omega), cutOk (a := 16) (by omega) (by omega)]
        simp only [bt]
        have e9 : L (u.extract (Int.toNat 8) (Int.toNat ((L u).length : Int))) = (L u).drop 8 := hdL u 8
        rw [word_eq (by omega), word_eq (by rw [e9, List.length_drop]; omega), e9]
        simp only [Option.bind_some, u64_or, and_mask]
        by_cases hz2 : (((wd (L u) ||| wd ((L u).drop 8)) &&& 0x8080808080808080#64).toNat : Int) = 0
        · rw [dt hz2]
          simp only [bt]
          obtain ⟨m1, m2⟩ := mask_or (mask0 hz2)
          have a0 := wd_asc m1; have a1 := asc_drop (wd_asc m2)
          have hsk := valid_skip (l := L u) 16 (by omega) (fun i hi => by
            by_cases i1 : i < 8
            · exact a0 i i1
            · exact a1 i (by omega) (by omega))
          have e16 : L (u.extract (Int.toNat 16) (Int.toNat ((L u).length : Int))) = (L u).drop 16 := hdL u 16
          obtain ⟨r, h1, h2, h3⟩ := l1_valid (k := k) k (u.extract (Int.toNat 16) (Int.toNat ((L u).length : Int))) (by rw [e16, List.length_drop]; omega)
          rw [h1]
          refine Ret.pure ⟨?_, ?_⟩
          · rw [h2, e16, hsk, hs8]
          · rw [e16, List.length_drop] at h3; omega
        · rw [df hz2]
          exact Ret.pure ⟨hs8, by omega⟩
      · rw [df (show ¬ (16 : Int) < ((L u).length : Int) by omega)]
        exact Ret.pure ⟨hs8, by omega⟩
    · rw [df hz]
      exact Ret.pure ⟨rfl, Nat.le_refl _⟩
  · rw [df (show ¬ (8 : Int) < ((L s).length : Int) by omega)]
    exact Ret.pure ⟨rfl, Nat.le_refl _⟩
theorem ixL {s : ByteArray} {i : Nat} (h : i < (L s).length) : ix (strInts s) (i : Int) = some (byt (L s) i : Int) := by rw [strInts_L, ix_I h]
/-- What the tables say of a first byte. -/
theorem tabs_at {b : Nat} (h1 : 128 ≤ b) (h2 : b < 256) : 0 ≤ ixOf b ∧ ixOf b < 16 ∧
    ((b < 194 ∨ 244 < b) ∧ szOf b = 1 ∨ (194 ≤ b ∧ b < 224 ∧ szOf b = 2 ∧ ixOf b = 0) ∨ (b = 224 ∧ szOf b = 3 ∧ ixOf b = 1) ∨ (b = 237 ∧ szOf b = 3 ∧ ixOf b = 2) ∨ (224 < b ∧ b < 240 ∧ b ≠ 237 ∧ szOf b = 3 ∧ ixOf b = 0) ∨ (b = 240 ∧ szOf b = 4 ∧ ixOf b = 3) ∨ (b = 244 ∧ szOf b = 4 ∧ ixOf b = 4) ∨ (240 < b ∧ b < 244 ∧ szOf b = 4 ∧ ixOf b = 0)) := by
  have h := tck_at h1 h2
  unfold tck at h
  revert h
  generalize szOf b = sz
  generalize ixOf b = i
  intro h
  split at h
  · simp only [Bool.and_eq_true, beq_iff_eq, decide_eq_true_eq] at h; exact ⟨by omega, by omega, .inl ⟨by omega, by omega⟩⟩
  · split at h
    · simp only [Bool.and_eq_true, beq_iff_eq, decide_eq_true_eq] at h; exact ⟨by omega, by omega, .inr (.inl ⟨by omega, by omega, by omega, by omega⟩)⟩
    · split at h
      · simp only [Bool.and_eq_true, beq_iff_eq, decide_eq_true_eq] at h; exact ⟨by omega, by omega, .inr (.inr (.inl ⟨by omega, by omega, by omega⟩))⟩
      · split at h
        · simp only [Bool.and_eq_true, beq_iff_eq, decide_eq_true_eq] at h; exact ⟨by omega, by omega, .inr (.inr (.inr (.inl ⟨by omega, by omega, by omega⟩)))⟩
        · split at h
          · simp only [Bool.and_eq_true, beq_iff_eq, decide_eq_true_eq] at h; exact ⟨by omega, by omega, .inr (.inr (.inr (.inr (.inl ⟨by omega, by omega, by omega, by omega, by omega⟩))))⟩
          · split at h
            · simp only [Bool.and_eq_true, beq_iff_eq, decide_eq_true_eq] at h; exact ⟨by omega, by omega, .inr (.inr (.inr (.inr (.inr (.inl ⟨by omega, by omega, by omega⟩)))))⟩
            · split at h
              · simp only [Bool.and_eq_true, beq_iff_eq, decide_eq_true_eq] at h; exact ⟨by omega, by omega, .inr (.inr (.inr (.inr (.inr (.inr (.inl ⟨by omega, by omega, by omega⟩))))))⟩
              · simp only [Bool.and_eq_true, beq_iff_eq, decide_eq_true_eq] at h; exact ⟨by omega, by omega, .inr (.inr (.inr (.inr (.inr (.inr (.inr ⟨by omega, by omega, by omega, by omega⟩))))))⟩
def lo (i : Int) : Int := if i = 1 then 160 else if i = 3 then 144 else 128
def hi (i : Int) : Int := if i = 2 then 159 else if i = 4 then 143 else 191
theorem tabA_at {i : Int} (h0 : 0 ≤ i) (h1 : i ≤ 4) : ((List.getD tabA (Int.toNat i) (default : S_unicode_utf8_acceptRange))).flo = lo i ∧ ((List.getD tabA (Int.toNat i) (default : S_unicode_utf8_acceptRange))).fhi = hi i := by
  obtain rfl | rfl | rfl | rfl | rfl : i = 0 ∨ i = 1 ∨ i = 2 ∨ i = 3 ∨ i = 4 := by omega
  all_goals exact ⟨rfl, rfl⟩
theorem bad_isL {l : List UInt8} (h0 : 0 < l.length) (h : ∀ c w, ¬ okL l c w) : validL l = false := by
  rw [validL_cons h0]
  have : isL l = false := by
    apply Bool.eq_false_iff.2
    intro h'
    exact h _ _ ((isL_iff h0).1 h')
  rw [this]; rfl
theorem good_isL {l : List UInt8} {c w : Nat} (h : okL l c w) : validL l = validL (l.drop w) := by
  have h0 : 0 < l.length := by have := okL_w h; omega
  rw [validL_cons h0, isL_of h, decL_of h]; rfl
theorem okL_inv {l : List UInt8} {c w : Nat} (h : okL l c w) : byt l 0 < 128 ∨ (194 ≤ byt l 0 ∧ byt l 0 < 224 ∧ 2 ≤ l.length ∧ 128 ≤ byt l 1 ∧ byt l 1 ≤ 191) ∨
    (224 ≤ byt l 0 ∧ byt l 0 < 240 ∧ 3 ≤ l.length ∧ 128 ≤ byt l 1 ∧ byt l 1 ≤ 191 ∧ 128 ≤ byt l 2 ∧ byt l 2 ≤ 191 ∧ (byt l 0 = 224 → 160 ≤ byt l 1) ∧ (byt l 0 = 237 → byt l 1 ≤ 159)) ∨
    (240 ≤ byt l 0 ∧ byt l 0 ≤ 244 ∧ 4 ≤ l.length ∧ 128 ≤ byt l 1 ∧ byt l 1 ≤ 191 ∧ 128 ≤ byt l 2 ∧ byt l 2 ≤ 191 ∧ 128 ≤ byt l 3 ∧ byt l 3 ≤ 191 ∧ (byt l 0 = 240 → 144 ≤ byt l 1) ∧ (byt l 0 = 244 → byt l 1 ≤ 143)) := by
  rcases h with ⟨rfl, h⟩ | ⟨rfl, h⟩ | ⟨rfl, h⟩ | ⟨rfl, h⟩
  · exact .inl (by omega)
  · exact .inr (.inl ⟨by omega, by omega, by omega, by omega, by omega⟩)
  · exact .inr (.inr (.inl ⟨by omega, by omega, by omega, by omega, by omega, by omega, by omega, by omega, by omega⟩))
  · exact .inr (.inr (.inr ⟨by omega, by omega, by omega, by omega, by omega, by omega, by omega, by omega, by omega, by omega, by omega⟩))
theorem ok2 {l : List UInt8} (h : 2 ≤ l.length) (a0 : 194 ≤ byt l 0 ∧ byt l 0 < 224) (a1 : 128 ≤ byt l 1 ∧ byt l 1 ≤ 191) : okL l ((byt l 0 - 192) * 64 + (byt l 1 - 128)) 2 :=
  .inr (.inl ⟨rfl, h, by omega, by omega, by omega, by omega⟩)
theorem ok3u {l : List UInt8} (h : 3 ≤ l.length) (a0 : 224 ≤ byt l 0 ∧ byt l 0 < 240) (a1 : 128 ≤ byt l 1 ∧ byt l 1 ≤ 191) (a2 : 128 ≤ byt l 2 ∧ byt l 2 ≤ 191) (l1 : byt l 0 = 224 → 160 ≤ byt l 1) (l2 : byt l 0 = 237 → byt l 1 ≤ 159) :
    okL l ((byt l 0 - 224) * 4096 + (byt l 1 - 128) * 64 + (byt l 2 - 128)) 3 :=
  .inr (.inr (.inl ⟨rfl, h, by omega, by omega, by omega, by omega, by omega, by omega⟩))
theorem ok4 {l : List UInt8} (h : 4 ≤ l.length) (a0 : 240 ≤ byt l 0 ∧ byt l 0 ≤ 244) (a1 : 128 ≤ byt l 1 ∧ byt l 1 ≤ 191) (a2 : 128 ≤ byt l 2 ∧ byt l 2 ≤ 191) (a3 : 128 ≤ byt l 3 ∧ byt l 3 ≤ 191) (l1 : byt l 0 = 240 → 144 ≤ byt l 1) (l2 : byt l 0 = 244 → byt l 1 ≤ 143) :
    okL l ((byt l 0 - 240) * 262144 + (byt l 1 - 128) * 4096 + (byt l 2 - 128) * 64 + (byt l 3 - 128)) 4 :=
  .inr (.inr (.inr ⟨rfl, h, by omega, by omega, by omega, by omega, by omega, by omega⟩))
theorem err2 {s : ByteArray} {i : Int} (i0 : 0 ≤ i) (i4 : i ≤ 4) :
    (((some (decide (((L s).length : Int) < 2))).bind fun x8982 => (bif x8982 then some true else ((ix (strInts s) 1).bind fun x8984 => ((some (decide (x8984 < ((List.getD tabA (Int.toNat i) (default : S_unicode_utf8_acceptRange))).flo))).bind fun x8985 => (bif x8985 then some true else ((ix (strInts s) 1).bind fun x8987 => ((some (decide (((List.getD tabA (Int.toNat i) (default : S_unicode_utf8_acceptRange))).fhi < x8987))).bind fun x8988 => some x8988))))))) : Option Bool) =
      some (decide ((L s).length < 2 ∨ (byt (L s) 1 : Int) < lo i ∨ hi i < (byt (L s) 1 : Int))) := by
  rw [(tabA_at i0 i4).1, (tabA_at i0 i4).2]
  by_cases h : (L s).length < 2
  · rw [Option.bind_some, dt (show ((L s).length : Int) < 2 by omega), dt (.inl h)]; rfl
  · rw [Option.bind_some, df (show ¬ ((L s).length : Int) < 2 by omega), show ix (strInts s) 1 = _ from ixL (i := 1) (by omega)]
    simp only [bf, Option.bind_some, oS]
    congr 1
    apply Bool.eq_iff_iff.2
    simp only [Bool.or_eq_true, decide_eq_true_eq]
    omega
theorem err3 {s : ByteArray} {i : Int} (i0 : 0 ≤ i) (i4 : i ≤ 4) :
    (((some (decide (((L s).length : Int) < 3))).bind fun x9088 => (bif x9088 then some true else ((ix (strInts s) 1).bind fun x9090 => ((some (decide (x9090 < ((List.getD tabA (Int.toNat i) (default : S_unicode_utf8_acceptRange))).flo))).bind fun x9091 => (bif x9091 then some true else ((ix (strInts s) 1).bind fun x9093 => ((some (decide (((List.getD tabA (Int.toNat i) (default : S_unicode_utf8_acceptRange))).fhi < x9093))).bind fun x9094 => (bif x9094 then some true else ((ix (strInts s) 2).bind fun x9096 => (bif (decide (x9096 < 128)) then some true else ((ix (strInts s) 2).bind fun x9098 => some (decide (191 < x9098))))))))))))) : Option Bool) =
      some (decide ((L s).length < 3 ∨ (byt (L s) 1 : Int) < lo i ∨ hi i < (byt (L s) 1 : Int) ∨ byt (L s) 2 < 128 ∨ 191 < byt (L s) 2)) := by
  rw [(tabA_at i0 i4).1, (tabA_at i0 i4).2]
  by_cases h : (L s).length < 3
  · rw [Option.bind_some, dt (show ((L s).length : Int) < 3 by omega), dt (.inl h)]; rfl
  · rw [Option.bind_some, df (show ¬ ((L s).length : Int) < 3 by omega), show ix (strInts s) 1 = _ from ixL (i := 1) (by omega), show ix (strInts s) 2 = _ from ixL (i := 2) (by omega)]
    simp only [bf, Option.bind_some, oS]
    congr 1
    apply Bool.eq_iff_iff.2
    simp only [Bool.or_eq_true, decide_eq_true_eq]
    omega
theorem err4 {s : ByteArray} {i : Int} (i0 : 0 ≤ i) (i4 : i ≤ 4) :
    (((some (decide (((L s).length : Int) < 4))).bind fun x9226 => (bif x9226 then some true else ((ix (strInts s) 1).bind fun x9228 => ((some (decide (x9228 < ((List.getD tabA (Int.toNat i) (default : S_unicode_utf8_acceptRange))).flo))).bind fun x9229 => (bif x9229 then some true else ((ix (strInts s) 1).bind fun x9231 => ((some (decide (((List.getD tabA (Int.toNat i) (default : S_unicode_utf8_acceptRange))).fhi < x9231))).bind fun x9232 => (bif x9232 then some true else ((ix (strInts s) 2).bind fun x9234 => (bif (decide (x9234 < 128)) then some true else ((ix (strInts s) 2).bind fun x9236 => (bif (decide (191 < x9236)) then some true else ((ix (strInts s) 3).bind fun x9238 => (bif (decide (x9238 < 128)) then some true else ((ix (strInts s) 3).bind fun x9240 => some (decide (191 < x9240))))))))))))))))) : Option Bool) =
      some (decide ((L s).length < 4 ∨ (byt (L s) 1 : Int) < lo i ∨ hi i < (byt (L s) 1 : Int) ∨ byt (L s) 2 < 128 ∨ 191 < byt (L s) 2 ∨ byt (L s) 3 < 128 ∨ 191 < byt (L s) 3)) := by
  rw [(tabA_at i0 i4).1, (tabA_at i0 i4).2]
  by_cases h : (L s).length < 4
  · rw [Option.bind_some, dt (show ((L s).length : Int) < 4 by omega), dt (.inl h)]; rfl
  · rw [Option.bind_some, df (show ¬ ((L s).length : Int) < 4 by omega), show ix (strInts s) 1 = _ from ixL (i := 1) (by omega), show ix (strInts s) 2 = _ from ixL (i := 2) (by omega), show ix (strInts s) 3 = _ from ixL (i := 3) (by omega)]
    simp only [bf, Option.bind_some, oS]
    congr 1
    apply Bool.eq_iff_iff.2
    simp only [Bool.or_eq_true, decide_eq_true_eq]
    omega
theorem lib_valid {k : Nat} : ∀ (n : Nat) (s : ByteArray), (L s).length < n → (L s).length < k → g_u8_ValidString_l0 k n s = some (if validL (L s) = true then Sum.inr () else Sum.inl ()) := by
  intro n
  induction n with
  | zero => intro s h; omega
  | succ n ih =>
    intro s hn hk
    rw [g_u8_ValidString_l0.eq_2]
    by_cases h0 : 0 < (L s).length
    · rw [Option.bind_some, dt (show (0 : Int) < ((ByteArray.size s : Nat) : Int) by rw [sizeL]; omega)]
      simp only [bt]
      rw [show ix (strInts s) 0 = _ from ixL (i := 0) h0, Option.bind_some]
      have b0 := byt_lt (L s) 0; have b1 := byt_lt (L s) 1; have b2 := byt_lt (L s) 2; have b3 := byt_lt (L s) 3
      have hgo : ∀ (w : Nat), w ≤ (L s).length → 1 ≤ w → g_u8_ValidString_l0 k n (s.extract w (Int.toNat ((ByteArray.size s : Nat) : Int))) = some (if validL ((L s).drop w) = true then Sum.inr () else Sum.inl ()) := by
        intro w hw h1
        have := ih (s.extract w (Int.toNat ((ByteArray.size s : Nat) : Int))) (by rw [L_drop, List.length_drop]; omega) (by rw [L_drop, List.length_drop]; omega)
        rwa [L_drop] at this
      by_cases ha : byt (L s) 0 < 128
      · rw [dt (show ((byt (L s) 0 : Nat) : Int) < 128 by omega)]
        simp only [bt]
        rw [show decide (0 ≤ (1 : Int) ∧ (1 : Int) ≤ ((ByteArray.size s : Nat) : Int) ∧ ((ByteArray.size s : Nat) : Int) ≤ ((ByteArray.size s : Nat) : Int)) = true from cutOk (by omega) (by rw [sizeL]; omega)]
        simp only [bt]
        have e1 : L (s.extract (Int.toNat 1) (Int.toNat ((ByteArray.size s : Nat) : Int))) = (L s).drop 1 := L_drop
        obtain ⟨r, h1, h2, h3⟩ := mid (k := k) (s.extract (Int.toNat 1) (Int.toNat ((ByteArray.size s : Nat) : Int))) (by rw [e1, List.length_drop]; omega)
        rw [Option.bind_some, h1, Option.bind_some]
        rw [e1, List.length_drop] at h3
        rw [ih r (by omega) (by omega), h2, e1, valid_skip 1 h0 (fun i hi => by
          have : i = 0 := by omega
          subst this; exact ha)]
      · rw [df (show ¬ ((byt (L s) 0 : Nat) : Int) < 128 by omega)]
        simp only [bf]
        rw [dt (show 0 ≤ ((byt (L s) 0 : Nat) : Int) ∧ ((byt (L s) 0 : Nat) : Int) < 256 by omega)]
        simp only [bt, Option.bind_some, Int.toNat_natCast]
        rw [show IntKind.wrap .i64 (bits .and .u8 (List.getD tab0 (byt (L s) 0) (0 : Int)) 7) = szOf (byt (L s) 0) from rfl, show shrI .u8 (List.getD tab0 (byt (L s) 0) (0 : Int)) 4 = ixOf (byt (L s) 0) from rfl]
        obtain ⟨i0, i1, hcase⟩ := tabs_at (b := byt (L s) 0) (by omega) b0
        revert i0 i1 hcase
        generalize szOf (byt (L s) 0) = sz
        generalize ixOf (byt (L s) 0) = i
        intro i0 i1 hcase
        rw [dt (show 0 ≤ i ∧ i < 16 from ⟨i0, i1⟩)]
        simp only [bt, sizeL] at hgo ⊢
        have hcut : ∀ w : Nat, w ≤ (L s).length → decide (0 ≤ (w : Int) ∧ (w : Int) ≤ ((L s).length : Int) ∧ ((L s).length : Int) ≤ ((L s).length : Int)) = true := fun w hw => cutOk (by omega) (by omega)
        by_cases s2 : sz = 2
        · have i4 : i ≤ 4 := by omega
          have hlo : lo i = 128 ∧ hi i = 191 := by have : i = 0 := by omega
                                                   subst this; exact ⟨rfl, rfl⟩
          rw [dt s2]
          simp only [bt]
          have e := err2 (s := s) i0 i4
          simp only [Option.bind_some] at e
          rw [e, Option.bind_some]
          by_cases hc : (L s).length < 2 ∨ (byt (L s) 1 : Int) < lo i ∨ hi i < (byt (L s) 1 : Int)
          · rw [dt hc, bad_isL h0 (fun c w h => by rcases okL_inv h with h | h | h | h <;> omega)]; rfl
          · rw [df hc, show decide (0 ≤ (2 : Int) ∧ (2 : Int) ≤ ((L s).length : Int) ∧ ((L s).length : Int) ≤ ((L s).length : Int)) = true from hcut 2 (by omega), good_isL (l := L s) (c := (byt (L s) 0 - 192) * 64 + (byt (L s) 1 - 128)) (w := 2) (ok2 (by omega) ⟨by omega, by omega⟩ ⟨by omega, by omega⟩)]
            exact hgo 2 (by omega) (by omega)
        · rw [df s2]
          simp only [bf]
          by_cases s3 : sz = 3
          · have i4 : i ≤ 4 := by omega
            rw [dt s3]
            simp only [bt]
            have e := err3 (s := s) i0 i4
            simp only [Option.bind_some] at e
            rw [e, Option.bind_some]
            have hlo : (byt (L s) 0 = 224 ∧ lo i = 160 ∧ hi i = 191) ∨ (byt (L s) 0 = 237 ∧ lo i = 128 ∧ hi i = 159) ∨ (224 < byt (L s) 0 ∧ byt (L s) 0 < 240 ∧ byt (L s) 0 ≠ 237 ∧ lo i = 128 ∧ hi i = 191) := by
              have : i = 1 ∧ byt (L s) 0 = 224 ∨ i = 2 ∧ byt (L s) 0 = 237 ∨ i = 0 ∧ (224 < byt (L s) 0 ∧ byt (L s) 0 < 240 ∧ byt (L s) 0 ≠ 237) := by omega
              rcases this with ⟨rfl, h⟩ | ⟨rfl, h⟩ | ⟨rfl, h⟩
              · exact .inl ⟨h, rfl, rfl⟩
              · exact .inr (.inl ⟨h, rfl, rfl⟩)
              · exact .inr (.inr ⟨h.1, h.2.1, h.2.2, rfl, rfl⟩)
            by_cases hc : (L s).length < 3 ∨ (byt (L s) 1 : Int) < lo i ∨ hi i < (byt (L s) 1 : Int) ∨ byt (L s) 2 < 128 ∨ 191 < byt (L s) 2
            · rw [dt hc, bad_isL h0 (fun c w h => by rcases okL_inv h with h | h | h | h <;> omega)]; rfl
            · rw [df hc, show decide (0 ≤ (3 : Int) ∧ (3 : Int) ≤ ((L s).length : Int) ∧ ((L s).length : Int) ≤ ((L s).length : Int)) = true from hcut 3 (by omega), good_isL (l := L s) (c := (byt (L s) 0 - 224) * 4096 + (byt (L s) 1 - 128) * 64 + (byt (L s) 2 - 128)) (w := 3) (ok3u (by omega) ⟨by omega, by omega⟩ ⟨by omega, by omega⟩ ⟨by omega, by omega⟩ (by omega) (by omega))]
              exact hgo 3 (by omega) (by omega)
          · rw [df s3]
            simp only [bf]
            by_cases s4 : sz = 4
            · have i4 : i ≤ 4 := by omega
              rw [dt s4]
              simp only [bt]
              have e := err4 (s := s) i0 i4
              simp only [Option.bind_some] at e
              rw [e, Option.bind_some]
              have hlo : (byt (L s) 0 = 240 ∧ lo i = 144 ∧ hi i = 191) ∨ (byt (L s) 0 = 244 ∧ lo i = 128 ∧ hi i = 143) ∨ (240 < byt (L s) 0 ∧ byt (L s) 0 < 244 ∧ lo i = 128 ∧ hi i = 191) := by
                have : i = 3 ∧ byt (L s) 0 = 240 ∨ i = 4 ∧ byt (L s) 0 = 244 ∨ i = 0 ∧ (240 < byt (L s) 0 ∧ byt (L s) 0 < 244) := by omega
                rcases this with ⟨rfl, h⟩ | ⟨rfl, h⟩ | ⟨rfl, h⟩
                · exact .inl ⟨h, rfl, rfl⟩
                · exact .inr (.inl ⟨h, rfl, rfl⟩)
                · exact .inr (.inr ⟨h.1, h.2, rfl, rfl⟩)
              by_cases hc : (L s).length < 4 ∨ (byt (L s) 1 : Int) < lo i ∨ hi i < (byt (L s) 1 : Int) ∨ byt (L s) 2 < 128 ∨ 191 < byt (L s) 2 ∨ byt (L s) 3 < 128 ∨ 191 < byt (L s) 3
              · rw [dt hc, bad_isL h0 (fun c w h => by rcases okL_inv h with h | h | h | h <;> omega)]; rfl
              · rw [df hc, show decide (0 ≤ (4 : Int) ∧ (4 : Int) ≤ ((L s).length : Int) ∧ ((L s).length : Int) ≤ ((L s).length : Int)) = true from hcut 4 (by omega), good_isL (l := L s) (c := (byt (L s) 0 - 240) * 262144 + (byt (L s) 1 - 128) * 4096 + (byt (L s) 2 - 128) * 64 + (byt (L s) 3 - 128)) (w := 4) (ok4 (by omega) ⟨by omega, by omega⟩ ⟨by omega, by omega⟩ ⟨by omega, by omega⟩ ⟨by omega, by omega⟩ (by omega) (by omega))]
                exact hgo 4 (by omega) (by omega)
            · rw [df s4, bad_isL h0 (fun c w h => by rcases okL_inv h with h | h | h | h <;> omega)]; rfl
    · rw [Option.bind_some, df (show ¬ (0 : Int) < ((ByteArray.size s : Nat) : Int) by rw [sizeL]; omega), nil_of_len h0, validL_nil]
      rfl
end Go.Proofs.YthpcgknknpjpdaaGreatDoor.W
namespace Go.Proofs.YthpcgknknpjpdaaGreatDoor.W
open Go Go.Q Go.Proofs
set_option linter.unusedVariables false
set_option linter.unusedSimpArgs false
/-- May XML not have it? -/
def badX (t : List UInt8) : Bool := decide ((decL t).1 < 32 ∧ (decL t).1 ≠ 9 ∧ (decL t).1 ≠ 10 ∧ (decL t).1 ≠ 13 ∨ (decL t).1 = 65534 ∨ (decL t).1 = 65535)
theorem utfValid {k : Nat} {s : ByteArray} (hk : (L s).length < k) : g_u8_ValidString k s = some (validL (L s)) := by
  unfold g_u8_ValidString
  rw [lib_valid k s hk hk]
  cases validL (L s) <;> rfl
theorem pos_step {s : ByteArray} {p : Nat} (h : p < (L s).length) : 0 < ((L s).drop p).length ∧ ((L s).drop p).drop (decL ((L s).drop p)).2 = (L s).drop (p + (decL ((L s).drop p)).2) ∧ 1 ≤ (decL ((L s).drop p)).2 ∧ p + (decL ((L s).drop p)).2 ≤ (L s).length := by
  have h0 : 0 < ((L s).drop p).length := by rw [List.length_drop]; omega
  have hw := decL_w h0
  rw [List.length_drop] at hw
  exact ⟨h0, List.drop_drop .., hw.1, by omega⟩
theorem xml_go {k : Nat} {s : ByteArray} : ∀ (n p : Nat), p ≤ (L s).length → (L s).length - p < n → g_utf_Xml_l0 k s n p = some (if (sufs ((L s).drop p)).any badX = true then Sum.inl () else Sum.inr ()) := by
  intro n
  induction n with
  | zero => intro p _ h; omega
  | succ n ih =>
    intro p hp hn
    rw [g_utf_Xml_l0.eq_2]
    by_cases h : p < (L s).length
    · obtain ⟨h0, h1, h2, h3⟩ := pos_step h
      rw [dt (show p < s.size by rw [L_size]; exact h), decode_L, sufs_cons h0, List.any_cons, h1]
      have hih := ih (p + (decL ((L s).drop p)).2) h3 (by omega)
      simp only [bt, Option.bind_some, sS]
      simp only [bP, Bool.or_eq_true, decide_eq_true_eq]
      rw [hih]
      generalize (sufs ((L s).drop (p + (decL ((L s).drop p)).2))).any badX = b
      unfold badX
      generalize (decL ((L s).drop p)).1 = c
      by_cases c1 : ((c : Nat) : Int) = 9 ∨ ((c : Nat) : Int) = 10 ∨ ((c : Nat) : Int) = 13
      · rw [if_pos (by omega), df (show ¬ (c < 32 ∧ c ≠ 9 ∧ c ≠ 10 ∧ c ≠ 13 ∨ c = 65534 ∨ c = 65535) by omega)]
        simp
      · rw [if_neg (by omega)]
        by_cases c2 : ((c : Nat) : Int) < 32 ∨ ((c : Nat) : Int) = 65534 ∨ ((c : Nat) : Int) = 65535
        · rw [if_pos (by omega), dt (show (c < 32 ∧ c ≠ 9 ∧ c ≠ 10 ∧ c ≠ 13 ∨ c = 65534 ∨ c = 65535) by omega)]
          simp
        · rw [if_neg (by omega), df (show ¬ (c < 32 ∧ c ≠ 9 ∧ c ≠ 10 ∧ c ≠ 13 ∨ c = 65534 ∨ c = 65535) by omega)]
          simp
    · rw [df (show ¬ p < s.size by rw [L_size]; exact h), nil_of_len (l := (L s).drop p) (by rw [List.length_drop]; omega), sufs_nil]
      rfl
def xmlL (l : List UInt8) : Int := if validL l && !((sufs l).any badX) then 0 else 20
theorem utfXml {k : Nat} {s : ByteArray} (hk : (L s).length < k) : g_utf_Xml k s = some (xmlL (L s)) := by
  unfold g_utf_Xml xmlL
  rw [utfValid hk, Option.bind_some]
  cases hv : validL (L s) with
  | false => rfl
  | true =>
    simp only [Bool.not_true, bf]
    have := xml_go (k := k) (s := s) k 0 (by omega) (by omega)
    rw [List.drop_zero] at this
    rw [this]
    cases (sufs (L s)).any badX <;> rfl
end Go.Proofs.YthpcgknknpjpdaaGreatDoor.W
namespace Go.Proofs.YthpcgknknpjpdaaGreatDoor.W
open Go Go.Q Go.Proofs Go.Dz
set_option linter.unusedVariables false
set_option linter.unusedSimpArgs false
/-- The string of a list of bytes. -/
def B (l : List UInt8) : ByteArray := ByteArray.mk l.toArray
theorem L_B (l : List UInt8) : L (B l) = l := L_mk l
theorem B_L (s : ByteArray) : B (L s) = s := L_ext (L_B _)
theorem B_size (l : List UInt8) : (B l).size = l.length := by rw [L_size, L_B]
theorem B_ints (l : List UInt8) : strInts (B l) = I l := by rw [strInts_L, L_B]
theorem B_list (l : List UInt8) : (B l).toList = l := by rw [L_toList, L_B]
theorem B_ext (l : List UInt8) (i j : Nat) : (B l).extract i j = B ((l.drop i).take (j - i)) := L_ext (by rw [L_extract, L_B, L_B])
theorem B_app (a b : List UInt8) : B a ++ B b = B (a ++ b) := L_ext (by rw [L_append, L_B, L_B, L_B])
theorem B_nil : ByteArray.mk #[] = B [] := rfl
theorem beq_nil (l : List UInt8) : (l == ([] : List UInt8)) = l.isEmpty := by cases l <;> rfl
/-- One given byte ahead. -/
def cut1 (c : UInt8) : List UInt8 → Bool × List UInt8
  | [] => (false, [])
  | b :: r => if b = c then (true, r) else (false, b :: r)
theorem take_eq (k : Nat) (c : UInt8) (l : List UInt8) (hl : l.length ≤ 9223372036854775807) : g_dec_parser_take k (B [c]) (B l) = some ((cut1 c l).1, B (cut1 c l).2) := by
  unfold g_dec_parser_take g_st_CutPrefix g_sl_CutPrefix g_sl_HasPrefix
  simp only [B_size, B_list, B_ext, Option.bind_some, List.length_cons, List.length_nil]
  cases l with
  | nil => simp [cut1]
  | cons b r =>
    have h1 : ((0 + 1 : Nat) : Int) ≤ ((r.length + 1 : Nat) : Int) := by omega
    have h2 : (0 : Int) ≤ 0 ∧ (0 : Int) ≤ ((0 + 1 : Nat) : Int) ∧ ((0 + 1 : Nat) : Int) ≤ ((r.length + 1 : Nat) : Int) := by omega
    have h3 : (0 : Int) ≤ ((0 + 1 : Nat) : Int) ∧ ((0 + 1 : Nat) : Int) ≤ ((r.length + 1 : Nat) : Int) ∧ ((r.length + 1 : Nat) : Int) ≤ ((r.length + 1 : Nat) : Int) := by omega
    simp only [List.length_cons, decide_eq_true h1, decide_eq_true h2, decide_eq_true h3, cond_true, Option.bind_some]
    unfold cut1
    by_cases hb : b = c
    · simp [hb]
    · have : (b == c) = false := by simp [hb]
      simp [hb, this]
def isd (b : UInt8) : Bool := decide (48 ≤ b.toNat) && decide (b.toNat ≤ 57)
def tw (l : List UInt8) : List UInt8 := l.takeWhile isd
def dw (l : List UInt8) : List UInt8 := l.dropWhile isd
theorem tw_dw (l : List UInt8) : tw l ++ dw l = l := List.takeWhile_append_dropWhile
theorem drop_tw (l : List UInt8) : l.drop (tw l).length = dw l := by
  conv => lhs; arg 2; rw [← tw_dw l]
  exact List.drop_left
theorem take_tw (l : List UInt8) : l.take (tw l).length = tw l := by
  conv => lhs; arg 2; rw [← tw_dw l]
  exact List.take_left
theorem tw_len (l : List UInt8) : (tw l).length + (dw l).length = l.length := by rw [← List.length_append, tw_dw]
theorem tw_all (l : List UInt8) : ∀ b ∈ tw l, isd b = true := by
  unfold tw
  induction l with
  | nil => intro b hb; cases hb
  | cons a r ih =>
    intro b hb
    rw [List.takeWhile_cons] at hb
    split at hb
    · rcases List.mem_cons.1 hb with rfl | h
      · assumption
      · exact ih b h
    · cases hb
theorem drop_cases (l : List UInt8) (i : Nat) (hi : i ≤ l.length) : (i = l.length ∧ l.drop i = []) ∨ (i < l.length ∧ ∃ b, l.drop i = b :: l.drop (i + 1) ∧ ix (I l) (i : Int) = some (b.toNat : Int)) := by
  rcases Nat.lt_or_ge i l.length with h | h
  · refine .inr ⟨h, l[i], List.drop_eq_getElem_cons h, ?_⟩
    rw [ix_I h]
    simp [byt, h]
  · exact .inl ⟨by omega, List.drop_eq_nil_of_le h⟩
theorem tw_cons (b : UInt8) (r : List UInt8) : tw (b :: r) = if isd b then b :: tw r else [] := by unfold tw; rw [List.takeWhile_cons]
theorem dw_cons (b : UInt8) (r : List UInt8) : dw (b :: r) = if isd b then dw r else b :: r := by unfold dw; rw [List.dropWhile_cons]
theorem isd_bif (b : UInt8) : (bif (decide ((48 : Int) ≤ (b.toNat : Int))) then some (decide ((b.toNat : Int) ≤ 57)) else some false) = some (isd b) := by
  unfold isd
  by_cases h : 48 ≤ b.toNat
  · have h' : (48 : Int) ≤ (b.toNat : Int) := by omega
    simp only [decide_eq_true h', decide_eq_true h, cond_true, Bool.true_and]
    congr 1
    rw [decide_eq_decide]
    omega
  · have h' : ¬ (48 : Int) ≤ (b.toNat : Int) := by omega
    simp [decide_eq_false h', decide_eq_false h]
theorem some_l0 (k : Nat) (l : List UInt8) (hl : l.length ≤ 140737488351232) : ∀ n i : Nat, i ≤ l.length → l.length < n + i → g_dec_parser_some_l0 k (B l) n (i : Int) = some ((i + (tw (l.drop i)).length : Nat) : Int)
  | 0, i, h, h' => by omega
  | n + 1, i, h, h' => by
    unfold g_dec_parser_some_l0
    simp only [B_size, B_ints, Option.bind_some]
    rcases drop_cases l i h with ⟨e, e'⟩ | ⟨e, b, e1, e2⟩
    · rw [decide_eq_false (by omega), e']
      simp [tw]
    · rw [decide_eq_true (by omega), cond_true, e2]
      simp only [Option.bind_some, isd_bif]
      rw [e1, tw_cons]
      cases isd b with
      | false => simp
      | true =>
        simp only [cond_true, if_true]
        rw [show IntKind.wrap .i64 ((i : Int) + 1) = ((i + 1 : Nat) : Int) from by rw [wi (by omega) (by omega)]; omega, some_l0 k l hl n (i + 1) (by omega) (by omega), List.length_cons]
        congr 2
        omega
theorem some_eq (k : Nat) (l : List UInt8) (hl : l.length ≤ 140737488351232) (hk : l.length < k) : g_dec_parser_some k (B l) = some (B (tw l), B (dw l)) := by
  have ht := tw_len l
  unfold g_dec_parser_some
  rw [show (0 : Int) = ((0 : Nat) : Int) from rfl, some_l0 k l hl k 0 (by omega) (by omega), List.drop_zero]
  simp only [Option.bind_some, B_size, Nat.zero_add, B_ext]
  rw [decide_eq_true (by omega), cond_true, decide_eq_true (by omega), cond_true, Int.toNat_natCast, Int.toNat_natCast, Int.toNat_natCast]
  simp only [List.drop_zero, Nat.sub_zero, take_tw, drop_tw]
  rw [List.take_of_length_le (by omega)]
end Go.Proofs.YthpcgknknpjpdaaGreatDoor.W
namespace Go.Proofs.YthpcgknknpjpdaaGreatDoor.W
open Go Go.Q Go.Proofs Go.Dz
set_option linter.unusedVariables false
set_option linter.unusedSimpArgs false
/-- Noughts ahead, cut off. -/
def lz : List UInt8 → List UInt8
  | [] => []
  | b :: r => if b = 48 then lz r else b :: r
/-- Noughts behind, cut off. -/
def rz (l : List UInt8) : List UInt8 := (lz l.reverse).reverse
theorem lz_len (l : List UInt8) : (lz l).length ≤ l.length := by
  induction l with
  | nil => exact Nat.le_refl _
  | cons b r ih => unfold lz; split <;> simp <;> omega
theorem rz_len (l : List UInt8) : (rz l).length ≤ l.length := by have := lz_len l.reverse; unfold rz; simpa using this
theorem rz_snoc (l : List UInt8) (b : UInt8) : rz (l ++ [b]) = if b = 48 then rz l else l ++ [b] := by
  unfold rz
  rw [List.reverse_append]
  show (lz (b :: l.reverse)).reverse = _
  rw [lz]
  split <;> simp
theorem u8_eq (b c : UInt8) : (decide ((b.toNat : Int) = (c.toNat : Int))) = decide (b = c) := by
  rw [decide_eq_decide]
  constructor
  · intro h; exact UInt8.toNat_inj.1 (by omega)
  · rintro rfl; rfl
theorem u8_48 (b : UInt8) : (decide ((b.toNat : Int) = 48)) = decide (b = 48) := u8_eq b 48
theorem bifd {α : Type} (p : Prop) [Decidable p] (x y : α) : (bif decide p then x else y) = if p then x else y := by by_cases h : p <;> simp [h]
theorem trimL_l0 (k : Nat) : ∀ (n : Nat) (l : List UInt8), l.length < n → l.length ≤ 140737488351232 → g_st_trimLeftByte_l0 k 48 n (B l) = some (B (lz l))
  | 0, l, h, _ => by omega
  | n + 1, [], h, _ => by unfold g_st_trimLeftByte_l0; simp [B_size, lz]
  | n + 1, b :: r, h, hl => by
    unfold g_st_trimLeftByte_l0
    simp only [B_size, B_ints, Option.bind_some]
    rw [decide_eq_true (by simp only [List.length_cons]; omega), cond_true, show ix (I (b :: r)) 0 = some (b.toNat : Int) from rfl]
    rw [lz]
    simp only [Option.bind_some, u8_48]
    rw [bifd]
    split
    · rw [bifd, if_pos (by simp only [List.length_cons]; omega), B_ext]
      rw [show (Int.toNat 1) = 1 from rfl, List.drop_one, List.tail_cons, Int.toNat_natCast, List.take_of_length_le (by simp only [List.length_cons]; omega), trimL_l0 k n r (by simp only [List.length_cons] at h; omega) (by simp only [List.length_cons] at hl; omega)]
    · rfl
theorem is48 : ix (strInts (B [48])) 0 = some 48 := rfl
theorem TrimLeft_eq (k : Nat) (l : List UInt8) (hl : l.length ≤ 140737488351232) (hk : l.length < k) : g_st_TrimLeft k (B l) (B [48]) = some (B (lz l)) := by
  unfold g_st_TrimLeft
  simp only [B_list, B_nil, beq_nil, Option.bind_some]
  cases l with
  | nil => rfl
  | cons b r =>
    simp only [List.isEmpty_cons, cond_false, Option.bind_some, is48, B_size]
    rw [decide_eq_true (by rfl), cond_true, decide_eq_true (by decide)]
    simp only [Option.bind_some, cond_true]
    unfold g_st_trimLeftByte
    rw [trimL_l0 k k _ hk hl]
    rfl
theorem trimR_l0 (k : Nat) : ∀ (n : Nat) (l : List UInt8), l.length < n → l.length ≤ 140737488351232 → g_st_trimRightByte_l0 k 48 n (B l) = some (B (rz l))
  | 0, l, h, _ => by omega
  | n + 1, l, h, hl => by
    rcases List.eq_nil_or_concat l with rfl | ⟨r, b, rfl⟩
    · unfold g_st_trimRightByte_l0; simp [B_size, rz, lz]
    · rw [List.concat_eq_append] at *
      simp only [List.length_append, List.length_cons, List.length_nil] at h hl
      unfold g_st_trimRightByte_l0
      simp only [B_size, B_ints, Option.bind_some, List.length_append, List.length_cons, List.length_nil]
      rw [decide_eq_true (by omega), cond_true, wi (by omega) (by omega), show ((r.length + (0 + 1) : Nat) : Int) - 1 = (r.length : Int) by omega, ix_I (by simp)]
      have hb : byt (r ++ [b]) r.length = b.toNat := by simp [byt]
      simp only [Option.bind_some, hb, u8_48, bifd, rz_snoc]
      split
      · rw [if_pos (by omega), B_ext]
        simp only [Int.toNat_natCast, Int.toNat_zero, List.drop_zero, Nat.sub_zero, List.take_left]
        exact trimR_l0 k n r (by omega) (by omega)
      · rfl
theorem TrimRight_eq (k : Nat) (l : List UInt8) (hl : l.length ≤ 140737488351232) (hk : l.length < k) : g_st_TrimRight k (B l) (B [48]) = some (B (rz l)) := by
  unfold g_st_TrimRight
  simp only [B_list, B_nil, beq_nil, Option.bind_some]
  cases l with
  | nil => rfl
  | cons b r =>
    simp only [List.isEmpty_cons, cond_false, Option.bind_some, is48, B_size]
    rw [decide_eq_true (by rfl), cond_true, decide_eq_true (by decide)]
    simp only [Option.bind_some, cond_true]
    unfold g_st_trimRightByte
    rw [trimR_l0 k k _ hk hl]
    rfl
/-- The value of digits behind a value. -/
def dg (b : UInt8) : Nat := b.toNat - 48
def dvf (a : Nat) (l : List UInt8) : Nat := l.foldl (fun a b => a * 10 + dg b) a
theorem dvf_nil (a : Nat) : dvf a [] = a := rfl
theorem dvf_cons (a : Nat) (b : UInt8) (r : List UInt8) : dvf a (b :: r) = dvf (a * 10 + dg b) r := by unfold dvf; exact List.foldl_cons ..
def dv (l : List UInt8) : Nat := dvf 0 l
theorem dvf_eq (a : Nat) (l : List UInt8) : dvf a l = a * 10 ^ l.length + dv l := by
  induction l generalizing a with
  | nil => simp [dvf_nil, dv]
  | cons b r ih =>
    unfold dv
    rw [dvf_cons, dvf_cons, ih, ih (0 * 10 + dg b), List.length_cons, Nat.pow_succ, Nat.add_mul, Nat.zero_mul, Nat.zero_add, Nat.mul_assoc, Nat.mul_comm 10]
    omega
theorem dv_cons (b : UInt8) (r : List UInt8) : dv (b :: r) = dg b * 10 ^ r.length + dv r := by
  conv => lhs; unfold dv
  rw [dvf_cons, dvf_eq, Nat.zero_mul, Nat.zero_add]
theorem dv_app (l r : List UInt8) : dv (l ++ r) = dv l * 10 ^ r.length + dv r := by
  induction l with
  | nil => simp [dvf_nil, dv]
  | cons b l ih => rw [List.cons_append, dv_cons, dv_cons, ih, List.length_append, Nat.pow_add, Nat.add_mul, Nat.mul_assoc]; omega
def Digs (l : List UInt8) : Prop := ∀ b ∈ l, isd b = true
theorem isd_le' {b : UInt8} (h : isd b = true) : 48 ≤ b.toNat ∧ b.toNat ≤ 57 := by
  unfold isd at h
  rw [Bool.and_eq_true, decide_eq_true_iff, decide_eq_true_iff] at h
  exact h
theorem isd_le {b : UInt8} (h : isd b = true) : 48 ≤ b.toNat ∧ b.toNat ≤ 57 ∧ dg b + 48 = b.toNat := by have := isd_le' h; unfold dg; omega
theorem dv_lt {l : List UInt8} (h : Digs l) : dv l < 10 ^ l.length := by
  induction l with
  | nil => simp [dvf_nil, dv]
  | cons b r ih =>
    have h1 := isd_le (h b (List.mem_cons_self ..))
    have h2 := ih fun c hc => h c (List.mem_cons_of_mem _ hc)
    rw [dv_cons, List.length_cons, Nat.pow_succ]
    have : dg b * 10 ^ r.length ≤ 9 * 10 ^ r.length := Nat.mul_le_mul_right _ (by omega)
    omega
theorem w8d {n : Nat} (h : n < 256) : IntKind.wrap .u8 (n : Int) = (n : Int) := by
  have : IntKind.wrap .u8 (n : Int) = (n : Int) % 256 := by simp [IntKind.wrap, IntKind.bits, IntKind.signed]
  rw [this]; omega
theorem w64d {n : Nat} (h : n < 18446744073709551616) : IntKind.wrap .u64 (n : Int) = (n : Int) := by
  rw [wU]; omega
theorem dig_wrap {b : UInt8} (h : isd b = true) : IntKind.wrap .i64 (IntKind.wrap .u8 ((b.toNat : Int) - 48)) = ((dg b : Nat) : Int) := by
  have := isd_le h
  rw [show (b.toNat : Int) - 48 = ((dg b : Nat) : Int) by omega, w8d (by omega), wi (by omega) (by omega)]
theorem dvf_le (a : Nat) (l : List UInt8) : a ≤ dvf a l := by
  rw [dvf_eq]
  have : a * 1 ≤ a * 10 ^ l.length := Nat.mul_le_mul_left _ (Nat.pow_pos (by decide))
  omega
theorem drop_digs {l : List UInt8} (h : Digs l) (i : Nat) : Digs (l.drop i) := fun b hb => h b (List.mem_of_mem_drop hb)
theorem exp_l0 (k : Nat) (l : List UInt8) (hd : Digs l) (hl : l.length ≤ 3) : ∀ n i a : Nat, i ≤ l.length → l.length < n + i → dvf a (l.drop i) < 1000 → g_dec_Parse_l0 k (B l) n (i : Int) (a : Int) = some ((dvf a (l.drop i) : Nat) : Int)
  | 0, i, a, h, h', _ => by omega
  | n + 1, i, a, h, h', hb => by
    unfold g_dec_Parse_l0
    simp only [B_size, B_ints, Option.bind_some]
    rcases drop_cases l i h with ⟨e, e'⟩ | ⟨e, b, e1, e2⟩
    · rw [decide_eq_false (by omega), e']
      rfl
    · have hi : isd b = true := drop_digs hd i b (by rw [e1]; exact List.mem_cons_self ..)
      rw [e1] at hb ⊢
      rw [dvf_cons] at hb ⊢
      have hle := dvf_le (a * 10 + dg b) (l.drop (i + 1))
      rw [decide_eq_true (by omega), cond_true, e2]
      simp only [Option.bind_some, dig_wrap hi]
      rw [wi (n := 10 * (a : Int)) (by omega) (by omega), wi (by omega) (by omega), wi (by omega) (by omega), show 10 * (a : Int) + ((dg b : Nat) : Int) = ((a * 10 + dg b : Nat) : Int) by omega, show (i : Int) + 1 = ((i + 1 : Nat) : Int) by omega]
      exact exp_l0 k l hd hl n (i + 1) _ (by omega) (by omega) hb
theorem wide_l1 (k : Nat) (l : List UInt8) (hd : Digs l) (hl : l.length ≤ 30) : ∀ n i v : Nat, i ≤ l.length → l.length < n + i → dvf v (l.drop i) < UU → g_dec_Parse_l1 k (B l) n (i : Int) (wh v) (wl v) = some (wh (dvf v (l.drop i)), wl (dvf v (l.drop i)))
  | 0, i, v, h, h', _ => by omega
  | n + 1, i, v, h, h', hb => by
    unfold g_dec_Parse_l1
    simp only [B_size, B_ints, Option.bind_some]
    rcases drop_cases l i h with ⟨e, e'⟩ | ⟨e, b, e1, e2⟩
    · rw [decide_eq_false (by omega), e']
      rfl
    · have hi : isd b = true := drop_digs hd i b (by rw [e1]; exact List.mem_cons_self ..)
      rw [e1] at hb ⊢
      rw [dvf_cons] at hb ⊢
      have hle := dvf_le (v * 10 + dg b) (l.drop (i + 1))
      have h1 : v * 10 + dg b < UU := by omega
      have hv : v < UU := by omega
      have hi9 := isd_le hi
      have hc : dg b < 18446744073709551616 := by omega
      have hcU : dg b < UU := by omega
      obtain ⟨x, hx, hx'⟩ := wide_times k (v := v) (n := 10) hv (by decide)
      obtain rfl := hx' (by omega)
      rw [decide_eq_true (by omega), cond_true, e2]
      simp only [Option.bind_some, dig_wrap hi]
      rw [show ((10 : Nat) : Int) = 10 from rfl] at hx
      rw [hx, show wl v * (10 : Int) = wl v * ((10 : Nat) : Int) from rfl, wide_times_lo]
      simp only [Option.bind_some]
      have hw : IntKind.wrap .u64 ((dg b : Nat) : Int) = wl (dg b) := by
        rw [wl_small hc]
        exact w64d hc
      have h0 : (0 : Int) = wh (dg b) := (wh_small hc).symm
      have hp := wide_plus k (v := v * 10) (w := dg b) (by omega) hcU
      obtain ⟨hq1, hq2⟩ := wide_plus_val (v := v * 10) (w := dg b) (by omega) hcU h1
      rw [← h0] at hp hq1
      rw [hw, hp]
      simp only [Option.bind_some, hq1, hq2]
      rw [wi (by omega) (by omega), show (i : Int) + 1 = ((i + 1 : Nat) : Int) by omega]
      exact wide_l1 k l hd hl n (i + 1) _ (by omega) (by omega) hb
end Go.Proofs.YthpcgknknpjpdaaGreatDoor.W
namespace Go.Proofs.YthpcgknknpjpdaaGreatDoor.W
open Go Go.Q Go.Proofs Go.Dz
set_option linter.unusedVariables false
set_option linter.unusedSimpArgs false
/-- The exponent. -/
def PX (ex ok : Bool) (l : List UInt8) : Bool × List UInt8 × Int :=
  if ex then
    let m := cut1 45 l
    let r := if m.1 then m.2 else (cut1 43 m.2).2
    let o := ok && (decide (1 ≤ (tw r).length) && decide ((tw r).length ≤ 3))
    (o, dw r, if o then (if m.1 then -((dv (tw r) : Nat) : Int) else ((dv (tw r) : Nat) : Int)) else 0)
  else (ok, l, 0)
/-- The part behind the point. -/
def PP (ok : Bool) (l : List UInt8) : List UInt8 × Bool × List UInt8 :=
  let p := cut1 46 l
  if p.1 then (tw p.2, ok && !(tw p.2).isEmpty, dw p.2) else ([], ok, p.2)
/-- e or E. -/
def PE (l : List UInt8) : Bool × List UInt8 :=
  let x := cut1 101 l
  if x.1 then x else cut1 69 x.2
/-- What stands in a text: the sign, the digits, the exponent of the last of them. -/
def PL (l : List UInt8) : Option (Bool × List UInt8 × Int) :=
  let a := cut1 45 l
  let p := PP (decide (l.length ≤ 255) && !(tw a.2).isEmpty) (dw a.2)
  let y := PE p.2.2
  let z := PX y.1 p.2.1 y.2
  if z.1 && z.2.1.isEmpty then some (a.1, tw a.2 ++ p.1, z.2.2 - (p.1.length : Int)) else none
theorem cut1_len (c : UInt8) (l : List UInt8) : (cut1 c l).2.length ≤ l.length := by
  cases l with
  | nil => exact Nat.le_refl _
  | cons b r => rw [cut1]; split <;> simp
theorem tw_le (l : List UInt8) : (tw l).length ≤ l.length := by have := tw_len l; omega
theorem dw_le (l : List UInt8) : (dw l).length ≤ l.length := by have := tw_len l; omega
theorem PP_len (ok : Bool) (l : List UInt8) : (PP ok l).1.length ≤ l.length ∧ (PP ok l).2.2.length ≤ l.length := by
  have h1 := cut1_len 46 l
  have h2 := tw_le (cut1 46 l).2
  have h3 := dw_le (cut1 46 l).2
  unfold PP
  dsimp only
  split
  · dsimp only; omega
  · dsimp only; rw [List.length_nil]; omega
theorem PE_len (l : List UInt8) : (PE l).2.length ≤ l.length := by
  have h1 := cut1_len 101 l
  have h2 := cut1_len 69 (cut1 101 l).2
  unfold PE
  dsimp only
  split <;> omega
theorem tw_digs (l : List UInt8) : Digs (tw l) := tw_all l
theorem PP_digs (ok : Bool) (l : List UInt8) : Digs (PP ok l).1 := by
  unfold PP
  dsimp only
  split
  · exact tw_digs _
  · intro b hb; cases hb
theorem lz_nz (l : List UInt8) : lz l = [] ∨ ∃ b r, lz l = b :: r ∧ b ≠ 48 := by
  induction l with
  | nil => exact .inl rfl
  | cons b r ih =>
    rw [lz]
    split
    · exact ih
    · exact .inr ⟨b, r, rfl, by assumption⟩
theorem lz_dv (l : List UInt8) : dv (lz l) = dv l := by
  induction l with
  | nil => rfl
  | cons b r ih =>
    rw [lz]
    split
    · subst_vars
      rw [ih, dv_cons, show dg 48 = 0 from rfl, Nat.zero_mul, Nat.zero_add]
    · rfl
theorem lz_digs {l : List UInt8} (h : Digs l) : Digs (lz l) := by
  induction l with
  | nil => exact h
  | cons b r ih =>
    rw [lz]
    split
    · exact ih fun c hc => h c (List.mem_cons_of_mem _ hc)
    · exact h
theorem rz_digs {l : List UInt8} (h : Digs l) : Digs (rz l) := fun b hb => by
  unfold rz at hb
  exact lz_digs (l := l.reverse) (fun c hc => h c (List.mem_reverse.1 hc)) b (List.mem_reverse.1 hb)
theorem snocI {P : List UInt8 → Prop} (h0 : P []) (h1 : ∀ l b, P l → P (l ++ [b])) : ∀ n (l : List UInt8), l.length = n → P l
  | 0, l, h => by cases l with
    | nil => exact h0
    | cons _ _ => cases h
  | n + 1, l, h => by
    rcases List.eq_nil_or_concat l with rfl | ⟨r, b, rfl⟩
    · cases h
    · rw [List.concat_eq_append] at *
      exact h1 r b (snocI h0 h1 n r (by simp at h; omega))
theorem rz_dv (l : List UInt8) : dv l = dv (rz l) * 10 ^ (l.length - (rz l).length) := by
  refine snocI (P := fun l => dv l = dv (rz l) * 10 ^ (l.length - (rz l).length)) (by rfl) (fun l b ih => ?_) _ l rfl
  rw [rz_snoc]
  split
  · subst_vars
    have := rz_len l
    rw [dv_app, dv_cons, show dg 48 = 0 from rfl, ih, List.length_append, List.length_cons, List.length_nil, show l.length + (0 + 1) - (rz l).length = l.length - (rz l).length + 1 by omega, Nat.pow_succ]
    rw [show dv [] = 0 from rfl, Nat.mul_assoc]
    simp
    rw [Nat.pow_succ]
  · simp
theorem rz_last (l : List UInt8) : rz l = [] ∨ ∃ r b, rz l = r ++ [b] ∧ b ≠ 48 := by
  refine snocI (P := fun l => rz l = [] ∨ ∃ r b, rz l = r ++ [b] ∧ b ≠ 48) (.inl rfl) (fun l b ih => ?_) _ l rfl
  rw [rz_snoc]
  split
  · exact ih
  · exact .inr ⟨l, b, rfl, by assumption⟩
theorem rz_head {b : UInt8} {r : List UInt8} (hb : b ≠ 48) : ∃ r', rz (b :: r) = b :: r' := by
  have h := rz_len (b :: r)
  suffices ∀ n (l : List UInt8), l.length = n → (∃ r, l = b :: r) → ∃ r', rz l = b :: r' from this _ _ rfl ⟨r, rfl⟩
  intro n l hn
  refine snocI (P := fun l => (∃ r, l = b :: r) → ∃ r', rz l = b :: r') (fun ⟨r, h⟩ => by cases h) (fun l c ih hr => ?_) n l hn
  rw [rz_snoc]
  obtain ⟨r, hr⟩ := hr
  cases l with
  | nil =>
    obtain ⟨rfl, rfl⟩ : c = b ∧ [] = r := by simpa using hr
    rw [if_neg hb]
    exact ⟨[], rfl⟩
  | cons d t =>
    obtain ⟨rfl, rfl⟩ : d = b ∧ t ++ [c] = r := by simpa using hr
    split
    · exact ih ⟨t, rfl⟩
    · exact ⟨t ++ [c], rfl⟩
theorem dg_ne {b : UInt8} (h : isd b = true) (hb : b ≠ 48) : 1 ≤ dg b ∧ dg b ≤ 9 := by
  have h1 := isd_le h
  have : b.toNat ≠ 48 := fun e => hb (UInt8.toNat_inj.1 e)
  omega
/-- The value of the digits that are left: not divided by ten, and as great as their number says. -/
theorem short_val {l : List UInt8} (h : Digs l) : rz (lz l) = [] ∨ (dv (rz (lz l)) % 10 ≠ 0 ∧ 10 ^ ((rz (lz l)).length - 1) ≤ dv (rz (lz l))) := by
  rcases lz_nz l with e | ⟨b, r, e, hb⟩
  · rw [e]; exact .inl rfl
  · right
    obtain ⟨r', hr'⟩ := rz_head (r := r) hb
    have hd : Digs (rz (lz l)) := rz_digs (lz_digs h)
    constructor
    · rcases rz_last (lz l) with e2 | ⟨q, c, e2, hc⟩
      · rw [e, hr'] at e2; cases e2
      · have := dg_ne (hd c (by rw [e2]; simp)) hc
        rw [e2, dv_app, dv_cons]
        simp only [List.length_cons, List.length_nil, Nat.zero_add, Nat.pow_one, Nat.pow_zero, Nat.mul_one]
        rw [show dv [] = 0 from rfl]
        omega
    · rw [e, hr'] at hd ⊢
      have := dg_ne (hd b (List.mem_cons_self ..)) hb
      rw [dv_cons, List.length_cons, Nat.add_sub_cancel]
      have h2 : 1 * 10 ^ r'.length ≤ dg b * 10 ^ r'.length := Nat.mul_le_mul_right _ this.1
      omega
end Go.Proofs.YthpcgknknpjpdaaGreatDoor.W
namespace Go.Proofs.YthpcgknknpjpdaaGreatDoor.W
open Go Go.Q Go.Proofs Go.Dz
set_option linter.unusedVariables false
set_option linter.unusedSimpArgs false
/-- What a reading of a text tells. -/
def Says (g : Option (Int × Int × Int)) : Option (Bool × List UInt8 × Int) → Prop
  | none => g = some (40, 0, 0)
  | some (neg, ds, e) => ∃ er c y : Int, g = some (er, c, y) ∧ Tells (· = val (sgn neg (dv ds)) e) ((c, y), er)
theorem Says.eq {g g' : Option (Int × Int × Int)} {p : Option (Bool × List UInt8 × Int)} (h : Says g p) (h' : Says g' p) : ∃ r, g = some r ∧ g' = some r := by
  match p, h, h' with
  | none, h, h' => exact ⟨_, h, h'⟩
  | some (neg, ds, e), ⟨er, c, y, h1, h2⟩, ⟨er', c', y', h1', h2'⟩ =>
    have := Tells.uniq (fun a b ha hb => ha.trans hb.symm) h2 h2'
    simp only [Prod.mk.injEq] at this
    obtain ⟨⟨rfl, rfl⟩, rfl⟩ := this
    exact ⟨_, h1, h1'⟩
theorem e45 : (ByteArray.mk #[45] : ByteArray) = B [45] := rfl
theorem e46 : (ByteArray.mk #[46] : ByteArray) = B [46] := rfl
theorem e101 : (ByteArray.mk #[101] : ByteArray) = B [101] := rfl
theorem e69 : (ByteArray.mk #[69] : ByteArray) = B [69] := rfl
theorem e43 : (ByteArray.mk #[43] : ByteArray) = B [43] := rfl
theorem e48 : (ByteArray.mk #[48] : ByteArray) = B [48] := rfl
theorem pow_UU : (10 : Nat) ^ 30 ≤ UU := by decide
/-- The digits, read. -/
theorem dec_value (k : Nat) (hk : 60 ≤ k) (neg : Bool) (ds : List UInt8) (e : Int) (hd : Digs ds) (hn : ds.length ≤ 300) (hk2 : 300 < k) (he : -3000 ≤ e ∧ e ≤ 3000) :
    ∃ er c y : Int, (if (30 : Int) < (((rz (lz ds)).length : Nat) : Int) then some ((30 : Int), (0 : Int), (0 : Int)) else ((g_dec_Parse_l1 k (B (rz (lz ds))) k 0 0 0).bind fun (x2719, x2720) => ((g_dec_num_tell k neg x2719 x2720 (e + (((lz ds).length : Nat) - ((rz (lz ds)).length : Nat) : Int))).bind fun (x2742, x2743, x2744) => some (x2742, x2743, x2744)))) = some (er, c, y) ∧ Tells (· = val (sgn neg (dv ds)) e) ((c, y), er) := by
  have hl1 := lz_len ds
  have hl2 := rz_len (lz ds)
  have hv : val (sgn neg (dv ds)) e = val (sgn neg (dv (rz (lz ds)))) (e + (((lz ds).length : Nat) - ((rz (lz ds)).length : Nat) : Int)) := by
    rw [← lz_dv ds, rz_dv (lz ds), sgn_mul]
    conv => lhs; rw [show ((10 ^ ((lz ds).length - (rz (lz ds)).length) : Nat) : Int) = (10 : Int) ^ ((lz ds).length - (rz (lz ds)).length) by simp]
    rw [val_shift (by omega)]
    congr 1
    omega
  rw [hv]
  have hdd : Digs (rz (lz ds)) := rz_digs (lz_digs hd)
  have hsv := short_val hd
  have hf : -4000 ≤ e + (((lz ds).length : Nat) - ((rz (lz ds)).length : Nat) : Int) ∧ e + (((lz ds).length : Nat) - ((rz (lz ds)).length : Nat) : Int) ≤ 4000 := by omega
  generalize e + (((lz ds).length : Nat) - ((rz (lz ds)).length : Nat) : Int) = f at *
  generalize hS : rz (lz ds) = S at *
  split
  · rename_i h30
    rcases hsv with rfl | ⟨h1, h2⟩
    · simp at h30
    · refine ⟨30, 0, 0, rfl, ?_⟩
      have h10 : 10 ^ 30 ≤ dv S := Nat.le_trans (Nat.pow_le_pow_right (by decide) (by omega)) h2
      refine tells_none (sgn_ne (by omega)) (fun h => h1 (sgn_dvd.1 h)) (by omega) (.inr fun h => ?_)
      have ha : (sgn neg (dv S) * 10 ^ (f - 18).toNat).natAbs ≤ 9223372036854775808 := by omega
      rw [Int.natAbs_mul, sgn_abs] at ha
      have hp : 1 ≤ ((10 : Int) ^ (f - 18).toNat).natAbs := by have := p10 (f - 18).toNat; omega
      have : dv S * 1 ≤ dv S * ((10 : Int) ^ (f - 18).toNat).natAbs := Nat.mul_le_mul_left _ hp
      omega
  · rename_i h30
    have hU : dv S < UU := Nat.lt_of_lt_of_le (dv_lt hdd) (Nat.le_trans (Nat.pow_le_pow_right (by decide) (by omega)) pow_UU)
    have hr := wide_l1 k S hdd (by omega) k 0 0 (by omega) (by omega) hU
    rw [show ((0 : Nat) : Int) = 0 from rfl, show wh 0 = 0 from wh_small (by decide), show wl 0 = 0 from wl_small (by decide)] at hr
    rw [hr]
    simp only [Option.bind_some]
    obtain ⟨er, c, y, h1, h2⟩ := num_tell k hk (neg := neg) (v := dv S) (e := f) hU hf.1 hf.2
    have : dvf 0 (List.drop 0 S) = dv S := rfl
    rw [this, h1]
    exact ⟨er, c, y, rfl, h2⟩
theorem exp_eq (k : Nat) {l : List UInt8} (hd : Digs l) (hl : l.length ≤ 3) (hk : 3 < k) : g_dec_Parse_l0 k (B l) k 0 0 = some ((dv l : Nat) : Int) := by
  have hlt := dv_lt hd
  have hp : 10 ^ l.length ≤ 10 ^ 3 := Nat.pow_le_pow_right (by decide) hl
  exact exp_l0 k l hd hl k 0 0 (by omega) (by omega) (by show dv l < 1000; omega)
theorem dv3 {l : List UInt8} (hd : Digs l) (hl : l.length ≤ 3) : dv l < 1000 := by
  have hlt := dv_lt hd
  have hp : 10 ^ l.length ≤ 10 ^ 3 := Nat.pow_le_pow_right (by decide) hl
  omega
theorem PX_e (ex ok : Bool) (l : List UInt8) : -1000 ≤ (PX ex ok l).2.2 ∧ (PX ex ok l).2.2 ≤ 1000 := by
  unfold PX
  dsimp only
  split
  · dsimp only
    generalize (if (cut1 45 l).1 = true then (cut1 45 l).2 else (cut1 43 (cut1 45 l).2).2) = r
    by_cases h : (ok && (decide (1 ≤ (tw r).length) && decide ((tw r).length ≤ 3))) = true
    · rw [if_pos h]
      rw [Bool.and_eq_true, Bool.and_eq_true, decide_eq_true_iff, decide_eq_true_iff] at h
      have := dv3 (tw_digs _) h.2.2
      split <;> omega
    · rw [if_neg h]; omega
  · dsimp only; omega
def dec_tail (k : Nat) (x2391 : Bool) (x2394 x2413 : ByteArray) (x2531 : Bool) (x2532 : ByteArray) (x2533 : Int) : Option (Int × Int × Int) := (((bif (!x2531) then some true else ((some (!(x2532.toList == (ByteArray.mk #[]).toList))).bind fun x2662 => some x2662)) : Option Bool).bind fun x2660 => (bif x2660 then some (40, 0, 0) else (bif (decide (ByteArray.size x2394 + ByteArray.size x2413 ≤ 9223372036854775807)) then ((g_st_TrimLeft k (x2394 ++ x2413) (ByteArray.mk #[48])).bind fun x2667 => ((some (IntKind.wrap .i64 (x2533 - ((ByteArray.size x2413 : Nat) : Int)))).bind fun x2668 => ((g_st_TrimRight k x2667 (ByteArray.mk #[48])).bind fun x2670 => ((some (IntKind.wrap .i64 (((ByteArray.size x2667 : Nat) : Int) - ((ByteArray.size x2670 : Nat) : Int)))).bind fun x2671 => ((some (decide (30 < ((ByteArray.size x2670 : Nat) : Int)))).bind fun x2674 => (bif x2674 then some (30, 0, 0) else ((g_dec_values k x2670).bind fun _ => ((g_dec_Parse_l1 k x2670 k 0 0 0).bind fun (x2719, x2720) => ((g_dec_num_tell k x2391 x2719 x2720 (IntKind.wrap .i64 (x2668 + x2671))).bind fun (x2742, x2743, x2744) => some (x2742, x2743, x2744)))))))))) else none)))
def dec_exp (k : Nat) (x2414 x2541 : Bool) (x2542 : ByteArray) : Option (Bool × ByteArray × Int) := (bif x2541 then ((g_dec_parser_take k (ByteArray.mk #[45]) x2542).bind fun (x2553, x2554) => (((bif (!x2553) then ((g_dec_parser_take k (ByteArray.mk #[43]) x2554).bind fun (x2562, x2563) => some x2563) else some x2554) : Option ByteArray).bind fun x2559 => ((g_dec_parser_some k x2559).bind fun (x2566, x2567) => (((bif x2414 then ((some (decide (1 ≤ ((ByteArray.size x2566 : Nat) : Int)))).bind fun x2574 => (bif x2574 then ((some (decide (((ByteArray.size x2566 : Nat) : Int) ≤ 3))).bind fun x2576 => some x2576) else some false)) else some false) : Option Bool).bind fun x2572 => (((bif x2572 then ((g_dec_values k x2566).bind fun _ => ((g_dec_Parse_l0 k x2566 k 0 0).bind fun x2635 => some x2635)) else some 0) : Option Int).bind fun x2607 => (bif x2553 then some (x2572, x2567, (IntKind.wrap .i64 (0 - x2607))) else some (x2572, x2567, x2607))))))) else some (x2414, x2542, 0))
def dec_pt (k : Nat) (x2399 x2417 : Bool) (x2418 : ByteArray) : Option (ByteArray × Bool × ByteArray) := (bif x2417 then ((g_dec_parser_some k x2418).bind fun (x2421, x2422) => (bif x2399 then ((some (!(x2421.toList == (ByteArray.mk #[]).toList))).bind fun x2424 => some (x2421, x2424, x2422)) else some (x2421, false, x2422))) else some ((ByteArray.mk #[]), x2399, x2418))
theorem dec_Parse_is (k : Nat) (x7 : ByteArray) : g_dec_Parse k x7 = ((g_dec_parser_take k (ByteArray.mk #[45]) x7).bind fun (x2391, x2392) => ((g_dec_parser_some k x2392).bind fun (x2394, x2395) => ((((some (decide (((ByteArray.size x7 : Nat) : Int) ≤ 255))).bind fun x2400 => (bif x2400 then ((some (!(x2394.toList == (ByteArray.mk #[]).toList))).bind fun x2402 => some x2402) else some false)) : Option Bool).bind fun x2399 => ((((g_dec_parser_take k (ByteArray.mk #[46]) x2395).bind fun (x2417, x2418) => (dec_pt k x2399 x2417 x2418)) : Option (ByteArray × Bool × ByteArray)).bind fun (x2413, x2414, x2415) => ((((((g_dec_parser_take k (ByteArray.mk #[101]) x2415).bind fun (x2544, x2545) => (bif x2544 then some (true, x2545) else ((g_dec_parser_take k (ByteArray.mk #[69]) x2545).bind fun (x2548, x2549) => some (x2548, x2549)))) : Option (Bool × ByteArray)).bind fun (x2541, x2542) => (dec_exp k x2414 x2541 x2542)) : Option (Bool × ByteArray × Int)).bind fun (x2531, x2532, x2533) => (dec_tail k x2391 x2394 x2413 x2531 x2532 x2533)))))) := rfl
theorem pt_eq (k : Nat) (ok : Bool) (l2 : List UInt8) (hl : l2.length ≤ 140737488351232) (hk : l2.length < k) : dec_pt k ok (cut1 46 l2).1 (B (cut1 46 l2).2) = some (B (PP ok l2).1, (PP ok l2).2.1, B (PP ok l2).2.2) := by
  have h := cut1_len 46 l2
  unfold dec_pt PP
  rw [some_eq k _ (by omega) (by omega)]
  rcases cut1 46 l2 with ⟨pb, l3⟩
  cases pb <;> cases ok <;> simp [B_list, beq_nil, B_nil]
theorem ok3 {o : Bool} {n : Nat} : (bif o then (bif (decide (1 ≤ ((n : Nat) : Int))) then some (decide (((n : Nat) : Int) ≤ 3)) else some false) else some false) = some (o && (decide (1 ≤ n) && decide (n ≤ 3))) := by
  have h1 : decide (1 ≤ ((n : Nat) : Int)) = decide (1 ≤ n) := by rw [decide_eq_decide]; omega
  have h2 : decide (((n : Nat) : Int) ≤ 3) = decide (n ≤ 3) := by rw [decide_eq_decide]; omega
  rw [h1, h2]
  cases o
  · rfl
  · cases decide (1 ≤ n) <;> rfl
theorem exp_part (k : Nat) (ok ex : Bool) (l : List UInt8) (hl : l.length ≤ 140737488351232) (hk : l.length < k) (hk2 : 1000 < k) : dec_exp k ok ex (B l) = some ((PX ex ok l).1, B (PX ex ok l).2.1, (PX ex ok l).2.2) := by
  unfold dec_exp PX
  cases ex with
  | false => rfl
  | true =>
    have h := cut1_len 45 l
    simp only [cond_true, e45, e43]
    rw [take_eq k 45 l (by omega)]
    simp only [Option.bind_some, if_true]
    rcases hc : cut1 45 l with ⟨mi, l6⟩
    rw [hc] at h
    simp only at h ⊢
    have h' := cut1_len 43 l6
    have hr : (bif (!mi) then ((g_dec_parser_take k (B [43]) (B l6)).bind fun (x2562, x2563) => some x2563) else some (B l6)) = some (B (if mi = true then l6 else (cut1 43 l6).2)) := by
      rw [take_eq k 43 l6 (by omega)]
      cases mi <;> rfl
    rw [hr]
    have hle : (if mi = true then l6 else (cut1 43 l6).2).length ≤ l.length := by split <;> omega
    generalize (if mi = true then l6 else (cut1 43 l6).2) = r at *
    simp only [Option.bind_some]
    rw [some_eq k r (by omega) (by omega)]
    simp only [Option.bind_some, B_size]
    rw [ok3]
    simp only [Option.bind_some]
    by_cases ho : (ok && (decide (1 ≤ (tw r).length) && decide ((tw r).length ≤ 3))) = true
    · rw [ho]
      rw [Bool.and_eq_true, Bool.and_eq_true, decide_eq_true_iff, decide_eq_true_iff] at ho
      have h3 := dv3 (tw_digs r) ho.2.2
      simp only [cond_true, if_true]
      rw [exp_eq k (tw_digs r) ho.2.2 (by omega)]
      simp only [g_dec_values, Option.bind_some]
      rw [wi (by omega) (by omega), Int.zero_sub]
      cases mi <;> rfl
    · rw [Bool.not_eq_true] at ho
      rw [ho]
      cases mi <;> rfl
theorem tail_part (k : Nat) (hk : 400 ≤ k) (neg : Bool) (W P : List UInt8) (o : Bool) (r : List UInt8) (e : Int) (hW : Digs W) (hP : Digs P) (hn : o = true → W.length + P.length ≤ 300) (he : -1000 ≤ e ∧ e ≤ 1000) :
    Says (dec_tail k neg (B W) (B P) o (B r) e) (if o && r.isEmpty then some (neg, W ++ P, e - (P.length : Int)) else none) := by
  unfold dec_tail
  simp only [B_list, e48, B_nil, beq_nil]
  cases o with
  | false => exact rfl
  | true =>
    cases hr : r.isEmpty with
    | false => exact rfl
    | true =>
      have hn := hn rfl
      have hd : Digs (W ++ P) := fun b hb => (List.mem_append.1 hb).elim (hW b) (hP b)
      have hl : (W ++ P).length ≤ 300 := by rw [List.length_append]; exact hn
      have hl1 := lz_len (W ++ P)
      have hl2 := rz_len (lz (W ++ P))
      simp only [Bool.not_true, cond_false, Option.bind_some, Bool.and_true, if_true, B_size]
      rw [decide_eq_true (by omega), cond_true, B_app, TrimLeft_eq k _ (by omega) (by omega)]
      simp only [Option.bind_some]
      rw [TrimRight_eq k _ (by omega) (by omega)]
      simp only [Option.bind_some, B_size, g_dec_values]
      rw [bifd, wi (n := e - (P.length : Int)) (by omega) (by omega), wi (n := ((lz (W ++ P)).length : Int) - _) (by omega) (by omega), wi (by omega) (by omega)]
      exact dec_value k (by omega) neg (W ++ P) (e - (P.length : Int)) hd (by omega) (by omega) (by omega)
theorem dec_Parse (k : Nat) (l : List UInt8) (hl : l.length ≤ 140737488351232) (hk : l.length < k) (hk2 : 1000 < k) : Says (g_dec_Parse k (B l)) (PL l) := by
  rw [dec_Parse_is]
  simp only [e45, e46, e101, e69]
  have a1 := cut1_len 45 l
  have a2 := tw_len (cut1 45 l).2
  rw [take_eq k 45 l (by omega)]
  simp only [Option.bind_some]
  rw [some_eq k _ (by omega) (by omega)]
  simp only [Option.bind_some, B_size, B_list, beq_nil, B_nil]
  rw [take_eq k 46 _ (by omega)]
  simp only [Option.bind_some]
  unfold PL
  dsimp only
  have hWd := tw_digs (cut1 45 l).2
  generalize tw (cut1 45 l).2 = W at *
  generalize dw (cut1 45 l).2 = l2 at *
  generalize (cut1 45 l).1 = neg at *
  have b0 : (bif decide ((l.length : Int) ≤ 255) then some (!W.isEmpty) else some false) = some (decide (l.length ≤ 255) && !W.isEmpty) := by
    by_cases h : l.length ≤ 255
    · rw [decide_eq_true (by omega : (l.length : Int) ≤ 255), decide_eq_true h]; rfl
    · rw [decide_eq_false (by omega : ¬ (l.length : Int) ≤ 255), decide_eq_false h]; rfl
  rw [b0]
  simp only [Option.bind_some]
  have hokl : (decide (l.length ≤ 255) && !W.isEmpty) = true → l.length ≤ 255 := fun h => of_decide_eq_true (Bool.and_eq_true _ _ ▸ h : _ ∧ _).1
  generalize (decide (l.length ≤ 255) && !W.isEmpty) = ok at *
  have hp := PP_len ok l2
  have hpd := PP_digs ok l2
  have hpo : (PP ok l2).2.1 = true → ok = true := by
    unfold PP; dsimp only
    split
    · dsimp only; intro h; exact (Bool.and_eq_true _ _ ▸ h : _ ∧ _).1
    · exact id
  rw [pt_eq k ok l2 (by omega) (by omega)]
  simp only [Option.bind_some]
  generalize (PP ok l2).1 = P at *
  generalize (PP ok l2).2.1 = ok2 at *
  generalize (PP ok l2).2.2 = l4 at *
  have hE := PE_len l4
  have b2 : ((g_dec_parser_take k (B [101]) (B l4)).bind fun (x2544, x2545) => (bif x2544 then some (true, x2545) else ((g_dec_parser_take k (B [69]) x2545).bind fun (x2548, x2549) => some (x2548, x2549)))) = some ((PE l4).1, B (PE l4).2) := by
    have h := cut1_len 101 l4
    rw [take_eq k 101 l4 (by omega)]
    simp only [Option.bind_some]
    rw [take_eq k 69 _ (by omega)]
    unfold PE
    rcases cut1 101 l4 with ⟨b, l5⟩
    cases b <;> rfl
  rw [b2]
  simp only [Option.bind_some]
  rw [exp_part k _ _ _ (by omega) (by omega) hk2]
  simp only [Option.bind_some]
  have hx : (PX (PE l4).1 ok2 (PE l4).2).1 = true → ok2 = true := by
    unfold PX; dsimp only
    split
    · dsimp only; intro h; exact (Bool.and_eq_true _ _ ▸ h : _ ∧ _).1
    · exact id
  refine tail_part k (by omega) neg W P _ _ _ hWd hpd (fun h => ?_) (PX_e _ _ _)
  have := hokl (hpo (hx h))
  omega
end Go.Proofs.YthpcgknknpjpdaaGreatDoor.W
namespace Go.Proofs.YthpcgknknpjpdaaGreatDoor.W
open Go Go.Q Go.Proofs Go.Dz
set_option linter.unusedVariables false
set_option linter.unusedSimpArgs false
theorem digit_eq (k : Nat) (b : UInt8) : g_r9_digit k (b.toNat : Int) = some (isd b) := by
  unfold g_r9_digit
  rw [isd_bif]
  rfl
/-- Values of digits. -/
def dgs (l : List UInt8) : List Int := l.map fun b => ((dg b : Nat) : Int)
theorem dgs_len (l : List UInt8) : (dgs l).length = l.length := by simp [dgs]
theorem dgs_app (a b : List UInt8) : dgs (a ++ b) = dgs a ++ dgs b := by simp [dgs]
theorem ref_l0 (k : Nat) (l : List UInt8) (hl : l.length ≤ 255) : ∀ (n i : Nat) (acc : List Int), i ≤ l.length → l.length < n + i → acc.length ≤ i → g_r9_Parse_l0 k (B l) n (i : Int) acc = some (((i + (tw (l.drop i)).length : Nat) : Int), acc ++ dgs (tw (l.drop i)))
  | 0, i, acc, h, h', _ => by omega
  | n + 1, i, acc, h, h', hb => by
    unfold g_r9_Parse_l0
    simp only [B_size, B_ints, Option.bind_some]
    rcases drop_cases l i h with ⟨e, e'⟩ | ⟨e, b, e1, e2⟩
    · rw [decide_eq_false (by omega), e']
      simp [tw, dgs]
    · rw [decide_eq_true (by omega), cond_true, e2]
      simp only [Option.bind_some, digit_eq]
      rw [e1, tw_cons]
      cases hi : isd b with
      | false => simp [dgs]
      | true =>
        simp only [cond_true, if_true, Option.bind_some, dig_wrap hi]
        rw [decide_eq_true (by simp only [List.length_cons, List.length_nil]; omega), cond_true, wi (by omega) (by omega), show (i : Int) + 1 = ((i + 1 : Nat) : Int) by omega, ref_l0 k l hl n (i + 1) _ (by omega) (by omega) (by simp; omega)]
        simp [dgs]
        omega
theorem ref_l1 (k : Nat) (l : List UInt8) (hl : l.length ≤ 255) : ∀ (n i : Nat) (e : Int) (acc : List Int), i ≤ l.length → l.length < n + i → acc.length ≤ i → -(i : Int) ≤ e → e ≤ 0 → g_r9_Parse_l1 k (B l) n (i : Int) e acc = some (((i + (tw (l.drop i)).length : Nat) : Int), e - ((tw (l.drop i)).length : Int), acc ++ dgs (tw (l.drop i)))
  | 0, i, e, acc, h, h', _, _, _ => by omega
  | n + 1, i, ee, acc, h, h', hb, he1, he2 => by
    unfold g_r9_Parse_l1
    simp only [B_size, B_ints, Option.bind_some]
    rcases drop_cases l i h with ⟨e, e'⟩ | ⟨e, b, e1, e2⟩
    · rw [decide_eq_false (by omega), e']
      simp [tw, dgs]
    · rw [decide_eq_true (by omega), cond_true, e2]
      simp only [Option.bind_some, digit_eq]
      rw [e1, tw_cons]
      cases hi : isd b with
      | false => simp [dgs]
      | true =>
        simp only [cond_true, if_true, Option.bind_some, dig_wrap hi]
        rw [decide_eq_true (by simp only [List.length_cons, List.length_nil]; omega), cond_true, wi (by omega) (by omega), wi (by omega) (by omega), show (i : Int) + 1 = ((i + 1 : Nat) : Int) by omega, ref_l1 k l hl n (i + 1) _ _ (by omega) (by omega) (by simp; omega) (by omega) (by omega)]
        simp [dgs]
        omega
theorem ref_l2 (k : Nat) (l : List UInt8) (hl : l.length ≤ 255) (f : Nat) : ∀ (n i a : Nat), i ≤ l.length → l.length < n + i → f ≤ i → i ≤ f + 3 → a < 10 ^ (i - f) →
    g_r9_Parse_l2 k (B l) (f : Int) n (i : Int) (a : Int) = some (if i + (tw (l.drop i)).length ≤ f + 3 then Sum.inr (((i + (tw (l.drop i)).length : Nat) : Int), ((dvf a (tw (l.drop i)) : Nat) : Int)) else Sum.inl ())
  | 0, i, a, h, h', _, _, _ => by omega
  | n + 1, i, a, h, h', hf, hf3, ha => by
    unfold g_r9_Parse_l2
    simp only [B_size, B_ints, Option.bind_some]
    rcases drop_cases l i h with ⟨e, e'⟩ | ⟨e, b, e1, e2⟩
    · rw [decide_eq_false (by omega), e']
      simp [tw, dvf_nil, hf3]
    · rw [decide_eq_true (by omega), cond_true, e2]
      simp only [Option.bind_some, digit_eq]
      rw [e1, tw_cons]
      cases hi : isd b with
      | false => simp [dvf_nil, hf3]
      | true =>
        have hi9 := isd_le hi
        have hp : 10 ^ (i - f) ≤ 10 ^ 3 := Nat.pow_le_pow_right (by decide) (by omega)
        simp only [cond_true, if_true, Option.bind_some, dig_wrap hi]
        rw [wi (n := (i : Int) + 1) (by omega) (by omega), wi (n := (i : Int) + 1 - f) (by omega) (by omega), wi (n := (a : Int) * 10) (by omega) (by omega), wi (by omega) (by omega)]
        have hlen : (b :: tw (l.drop (i + 1))).length = (tw (l.drop (i + 1))).length + 1 := rfl
        by_cases h3 : i + 1 - f ≤ 3
        · rw [decide_eq_false (by omega), cond_false, show (i : Int) + 1 = ((i + 1 : Nat) : Int) by omega, show (a : Int) * 10 + ((dg b : Nat) : Int) = ((a * 10 + dg b : Nat) : Int) by omega]
          have hpp : 10 ^ (i + 1 - f) = 10 ^ (i - f) * 10 := by rw [show i + 1 - f = i - f + 1 by omega, Nat.pow_succ]
          rw [ref_l2 k l hl f n (i + 1) _ (by omega) (by omega) (by omega) (by omega) (by omega), hlen, dvf_cons, show i + ((tw (l.drop (i + 1))).length + 1) = i + 1 + (tw (l.drop (i + 1))).length by omega]
        · rw [decide_eq_true (by omega), cond_true, if_neg (by omega)]
theorem rev_l3 (k : Nat) {d : List Int} (hd : d.length ≤ 1000) : ∀ (n i : Nat) (acc : List Int), i ≤ d.length → i < n → acc.length + i ≤ 1000 → g_r9_Parse_l3 k d n ((i : Int) - 1) acc = some (acc ++ (d.take i).reverse)
  | 0, i, acc, h, h', _ => by omega
  | n + 1, 0, acc, h, h', _ => by unfold g_r9_Parse_l3; simp
  | n + 1, i + 1, acc, h, h', hb => by
    unfold g_r9_Parse_l3
    rw [show ((i + 1 : Nat) : Int) - 1 = (i : Int) by omega, decide_eq_true (by omega), cond_true, getD_ix (by omega)]
    simp only [Option.bind_some]
    rw [decide_eq_true (by simp only [List.length_cons, List.length_nil]; omega), cond_true, wi (by omega) (by omega), rev_l3 k hd n i _ (by omega) (by omega) (by simp; omega)]
    have : (d.take (i + 1)).reverse = d.getD i 0 :: (d.take i).reverse := by
      rw [List.take_succ_eq_append_getElem (by omega)]
      simp [List.getD, List.getElem?_eq_getElem (show i < d.length by omega)]
    rw [this]
    simp
end Go.Proofs.YthpcgknknpjpdaaGreatDoor.W
