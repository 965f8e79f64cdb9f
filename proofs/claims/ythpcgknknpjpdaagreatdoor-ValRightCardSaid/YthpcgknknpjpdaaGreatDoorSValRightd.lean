/- Texts joined: part 4 of what LValRight stands on. -/
import Derived.Test.YthpcgknknpjpdaaGreatDoorSValRightc
namespace Go.Proofs.YthpcgknknpjpdaaGreatDoor.W
open Go Go.Q Go.Proofs
set_option linter.unusedVariables false
set_option linter.unusedSimpArgs false
set_option maxRecDepth 100000
set_option maxHeartbeats 4000000
theorem s_u8_word_string (k : Nat) (x1 : ByteArray) (x2 : Int) (H : g_u8_word_string k x1 = some x2) : Go.Q.Spec Tryz.prog 135 0 [.lit (.string x1)] Mem.nil (fun o M => o = .ret (.lit (.int .u64 x2)) ∧ M = Mem.nil) := by
 unfold g_u8_word_string at H
 refine Go.Q.Spec.of_bodyR (az := []) (rs := [.tmp 2]) (nt := 59) Tryz.func135 rfl rfl (by intro t T h; simp at h) rfl rfl fun cx hnp => ?_
 refine WP.sr ?_
 refine WPL.qq (q_as (v := .lit (.int _ _)) rfl) ?_
 refine WPL.nx ?_
 refine WP.seq ?_
 refine WP.condF rfl ?_
 refine WP.skipW ?_
 refine W.now ?_
 refine Then.n ?_
 refine WP.seq ?_
 refine WP.regionD' 39 [] [] mixed rfl ?_
 refine WPD.tT 0 rfl (q_mv (v := .lit (.string _)) rfl) ?_
 obtain ⟨x3, h1, H⟩ := bnd H
 refine WPD.tT 1 rfl (q_index_str Tryz.underlying9 rfl rfl h1) ?_
 refine WPD.tT 2 rfl (q_conv Tryz.underlying5 Tryz.underlying67 rfl) ?_
 refine WPD.tT 3 rfl (q_mv (v := .lit (.string _)) rfl) ?_
 obtain ⟨x4, h2, H⟩ := bnd H
 refine WPD.tT 4 rfl (q_index_str Tryz.underlying9 rfl rfl h2) ?_
 refine WPD.tT 5 rfl (q_conv Tryz.underlying5 Tryz.underlying67 rfl) ?_
 refine WPD.tT 6 rfl (q_shl rfl rfl rfl) ?_
 obtain ⟨x5, h3, H⟩ := bnd H
 refine WPD.tT 7 rfl (q_nm (q_or rfl rfl) (nm_int h3)) ?_
 refine WPD.tT 8 rfl (q_mv (v := .lit (.string _)) rfl) ?_
 obtain ⟨x6, h4, H⟩ := bnd H
 refine WPD.tT 9 rfl (q_index_str Tryz.underlying9 rfl rfl h4) ?_
 refine WPD.tT 10 rfl (q_conv Tryz.underlying5 Tryz.underlying67 rfl) ?_
 obtain ⟨x7, h5, H⟩ := bnd H
 refine WPD.tT 11 rfl (q_nm (q_shl rfl rfl rfl) (nm_int h5)) ?_
 refine WPD.tT 12 rfl (q_or rfl rfl) ?_
 refine WPD.tT 13 rfl (q_mv (v := .lit (.string _)) rfl) ?_
 obtain ⟨x8, h6, H⟩ := bnd H
 refine WPD.tT 14 rfl (q_index_str Tryz.underlying9 rfl rfl h6) ?_
 refine WPD.tT 15 rfl (q_conv Tryz.underlying5 Tryz.underlying67 rfl) ?_
 obtain ⟨x9, h7, H⟩ := bnd H
 refine WPD.tT 16 rfl (q_nm (q_shl rfl rfl rfl) (nm_int h7)) ?_
 obtain ⟨x10, h8, H⟩ := bnd H
 refine WPD.tT 17 rfl (q_nm (q_or rfl rfl) (nm_int h8)) ?_
 refine WPD.tT 18 rfl (q_mv (v := .lit (.string _)) rfl) ?_
 obtain ⟨x11, h9, H⟩ := bnd H
 refine WPD.tT 19 rfl (q_index_str Tryz.underlying9 rfl rfl h9) ?_
 refine WPD.tT 20 rfl (q_conv Tryz.underlying5 Tryz.underlying67 rfl) ?_
 obtain ⟨x12, h10, H⟩ := bnd H
 refine WPD.tT 21 rfl (q_nm (q_shl rfl rfl rfl) (nm_int h10)) ?_
 refine WPD.tT 22 rfl (q_or rfl rfl) ?_
 refine WPD.tT 23 rfl (q_mv (v := .lit (.string _)) rfl) ?_
 obtain ⟨x13, h11, H⟩ := bnd H
 refine WPD.tT 24 rfl (q_index_str Tryz.underlying9 rfl rfl h11) ?_
 refine WPD.tT 25 rfl (q_conv Tryz.underlying5 Tryz.underlying67 rfl) ?_
 obtain ⟨x14, h12, H⟩ := bnd H
 refine WPD.tT 26 rfl (q_nm (q_shl rfl rfl rfl) (nm_int h12)) ?_
 obtain ⟨x15, h13, H⟩ := bnd H
 refine WPD.tT 27 rfl (q_nm (q_or rfl rfl) (nm_int h13)) ?_
 refine WPD.tT 28 rfl (q_mv (v := .lit (.string _)) rfl) ?_
 obtain ⟨x16, h14, H⟩ := bnd H
 refine WPD.tT 29 rfl (q_index_str Tryz.underlying9 rfl rfl h14) ?_
 refine WPD.tT 30 rfl (q_conv Tryz.underlying5 Tryz.underlying67 rfl) ?_
 obtain ⟨x17, h15, H⟩ := bnd H
 refine WPD.tT 31 rfl (q_nm (q_shl rfl rfl rfl) (nm_int h15)) ?_
 refine WPD.tT 32 rfl (q_or rfl rfl) ?_
 refine WPD.tT 33 rfl (q_mv (v := .lit (.string _)) rfl) ?_
 obtain ⟨x18, h16, H⟩ := bnd H
 refine WPD.tT 34 rfl (q_index_str Tryz.underlying9 rfl rfl h16) ?_
 refine WPD.tT 35 rfl (q_conv Tryz.underlying5 Tryz.underlying67 rfl) ?_
 obtain ⟨x19, h17, H⟩ := bnd H
 refine WPD.tT 36 rfl (q_nm (q_shl rfl rfl rfl) (nm_int h17)) ?_
 obtain ⟨x20, h18, H⟩ := bnd H
 refine WPD.tT 37 rfl (q_nm (q_or rfl rfl) (nm_int h18)) ?_
 refine WPD.tT 38 rfl (q_as (v := .lit (.int _ _)) rfl) ?_
 refine WPD.doneW (by kernel_rfl) ?_
 refine W.now ?_
 refine Then.n ?_
 refine WP.retW ?_
 have q0 := j1 H
 subst q0
 exact W.now (BodyR.mkR trivial rfl [] ⟨rfl, rfl⟩ ⟨rfl, trivial, by decide, rfl, trivial⟩ rfl rfl)
theorem s_u8_ValidString (k : Nat) (x1 : ByteArray) (x2 : Bool) (H : g_u8_ValidString k x1 = some x2) : Go.Q.Spec Tryz.prog 86 0 [.lit (.string x1)] Mem.nil (fun o M => o = .ret (.lit (.bool x2)) ∧ M = Mem.nil) := by
 unfold g_u8_ValidString at H
 refine Go.Q.Spec.of_bodyR (az := []) (rs := [.tmp 2]) (nt := 169) Tryz.func86 rfl rfl (by intro t T h; simp at h) rfl rfl fun cx hnp => ?_
 refine WP.sr ?_
 refine WPL.qq (q_as (v := .lit (.bool _)) rfl) ?_
 refine WPL.nx ?_
 refine WP.seq ?_
 refine WP.block ?_
 refine WP.cv (Cv.weak (E' := (Env.none.upd 0 (.lit (.string x1)))) (M' := Mem.nil) [] hnp ⟨rfl, trivial, by decide, rfl, trivial⟩ (LeE.u (LeE.none rfl rfl))) ?_
 obtain ⟨y1, H1, H⟩ := bnd H
 refine WP.monoW (Q := fun x E M => match (generalizing := false) y1 with | (Sum.inl _) => x = .ret ∧ E = (Env.none.upd 2 (.lit (.bool false))) ∧ M = Mem.nil | (Sum.inr _) => x = .exit 0 ∧ E = Env.none ∧ M = Mem.nil) ?_ ?_
 · refine WP.loop (β := ByteArray) (fun n b => g_u8_ValidString_l0 k n b = some y1) (fun b => (Env.none.upd 0 (.lit (.string b)))) (fun b => Mem.nil) k x1 H1 rfl rfl ?_
   rintro n x3 H
   obtain _ | n := n
   · exact nf rfl H
   rw [g_u8_ValidString_l0.eq_2] at H
   show WP _ _ _ _ (Env.none.upd 0 (.lit (.string x3))) Mem.nil _
   refine WP.seq ?_
   refine WP.sr ?_
   refine WPL.qq (q_mv (v := .lit (.string _)) rfl) ?_
   refine WPL.qq (q_len_str Tryz.underlying9 rfl) ?_
   obtain ⟨x4, h1, H⟩ := bnd H
   refine WPL.qq (q_nm (q_gtr rfl rfl) (nm_bool h1)) ?_
   refine WPL.nx ?_
   refine WP.cond (t := x4) rfl (fun hb1 => ?_) (fun hb1 => ?_)
   · replace H := cnt hb1 H
     refine WP.skipW ?_
     refine W.now ?_
     refine Then.n ?_
     refine WP.block ?_
     refine WP.sr ?_
     refine WPL.qq (q_mv (v := .lit (.string _)) rfl) ?_
     obtain ⟨x5, h2, H⟩ := bnd H
     refine WPL.qq (q_index_str Tryz.underlying9 rfl rfl h2) ?_
     refine WPL.qq (q_as (v := .lit (.int _ _)) rfl) ?_
     refine WPL.nx ?_
     refine WP.seq ?_
     refine WP.sr ?_
     refine WPL.qq (q_mv (v := .lit (.int _ _)) rfl) ?_
     refine WPL.qq (q_lss rfl rfl) ?_
     refine WPL.nx ?_
     refine WP.cond (t := (decide (x5 < 128))) rfl (fun hb2 => ?_) (fun hb2 => ?_)
     · replace H := cnt hb2 H
       refine WP.sr ?_
       refine WPL.qq (q_mv (v := .lit (.string _)) rfl) ?_
       obtain ⟨h3, H⟩ := grd H
       obtain ⟨x6, h4, H⟩ := bnd H
       refine WPL.qq (q_nm (q_slice_str (i := 1) (j := ((ByteArray.size x3 : Nat) : Int)) Tryz.underlying9 rfl ⟨_, rfl⟩ rfl h3) (nm_str h4)) ?_
       refine WPL.qq (q_as (v := .lit (.string _)) rfl) ?_
       refine WPL.nx ?_
       refine WP.seq ?_
       obtain ⟨x7, H2, H⟩ := bnd H
       refine WP.monoW (Q := fun x E M => x = .normal ∧ E = (Env.none.upd 0 (.lit (.string x7))) ∧ M = Mem.nil) ?_ ?_
       · clear H
         have H := H2
         clear H2
         refine WP.seq ?_
         obtain ⟨x8, H3, H⟩ := bnd H
         refine WP.monoW (Q := fun x E M => x = .normal ∧ E = ((Env.none.upd 0 (.lit (.string x6))).upd 24 (.lit (.bool x8))) ∧ M = Mem.nil) ?_ ?_
         · clear H
           have H := H3
           clear H3
           refine WP.region ?_
           refine WPL.qq (q_mv (v := .lit (.string _)) rfl) ?_
           refine WPL.qq (q_len_str Tryz.underlying9 rfl) ?_
           obtain ⟨x9, h5, H⟩ := bnd H
           refine WPL.qq (q_nm (q_gtr rfl rfl) (nm_bool h5)) ?_
           refine WPL.qq (q_mv (v := .lit (.bool _)) rfl) ?_
           refine WPL.split (t := 19) (b := x9) rfl (fun hb3 => ?_) (fun hb3 => ?_)
           · replace H := cnt hb3 H
             refine WPL.gq rfl (lb hb3) (q_mv (v := .lit (.string _)) rfl) ?_
             obtain ⟨x10, h6, H⟩ := bnd H
             refine WPL.cg rfl rfl (lb hb3) (runs_call (s := []) (t := []) (N := 0) (bor := []) fn135 rfl (s_u8_word_string k x6 x10 h6) ⟨rfl, trivial, by decide, rfl, trivial⟩ rfl trivial (.ren rfl rfl .nil) rfl trivial rfl) rfl ?_
             obtain ⟨x11, h7, H⟩ := bnd H
             refine WPL.gq rfl (lb hb3) (q_nm (q_and rfl rfl) (nm_int h7)) ?_
             refine WPL.gq rfl (lb hb3) (q_eql rfl rfl) ?_
             refine WPL.qq (q_pickT (v := .lit (.bool _)) (lb hb3) rfl) ?_
             refine WPL.nilW ?_
             have q0 := j1 H
             subst q0
             exact W.wk [] hnp r3 ⟨rfl, trivial, by decide, rfl, trivial⟩ (LeE.u (LeE.u (LeE.none rfl rfl))) rfl
           replace H := cnf hb3 H
           refine WPL.sg false rfl (lb hb3) ?_
           refine WPL.sg false rfl (lb hb3) ?_
           refine WPL.sg false rfl (lb hb3) ?_
           refine WPL.sg false rfl (lb hb3) ?_
           refine WPL.qq (q_pickF (v := .lit (.bool _)) (lb hb3) rfl) ?_
           refine WPL.nilW ?_
           have q0 := j1 H
           subst q0
           exact W.wk [] hnp r3 ⟨rfl, trivial, by decide, rfl, trivial⟩ (LeE.u (LeE.u (LeE.none rfl rfl))) rfl
         rintro _ _ _ ⟨rfl, rfl, rfl⟩
         refine W.now ?_
         refine Then.n ?_
         refine WP.cond (t := x8) rfl (fun hb4 => ?_) (fun hb4 => ?_)
         · replace H := cnt hb4 H
           refine WP.sr ?_
           refine WPL.qq (q_mv (v := .lit (.string _)) rfl) ?_
           obtain ⟨h8, H⟩ := grd H
           obtain ⟨x12, h9, H⟩ := bnd H
           refine WPL.qq (q_nm (q_slice_str (i := 8) (j := ((ByteArray.size x6 : Nat) : Int)) Tryz.underlying9 rfl ⟨_, rfl⟩ rfl h8) (nm_str h9)) ?_
           refine WPL.qq (q_as (v := .lit (.string _)) rfl) ?_
           refine WPL.nx ?_
           refine WP.seq ?_
           obtain ⟨x13, H4, H⟩ := bnd H
           refine WP.monoW (Q := fun x E M => x = .normal ∧ E = ((Env.none.upd 0 (.lit (.string x12))).upd 39 (.lit (.bool x13))) ∧ M = Mem.nil) ?_ ?_
           · clear H
             have H := H4
             clear H4
             refine WP.regionD' 13 [] [] mixed rfl ?_
             refine WPD.tT 0 rfl (q_mv (v := .lit (.string _)) rfl) ?_
             refine WPD.tT 1 rfl (q_len_str Tryz.underlying9 rfl) ?_
             obtain ⟨x14, h10, H⟩ := bnd H
             refine WPD.tT 2 rfl (q_nm (q_gtr rfl rfl) (nm_bool h10)) ?_
             refine WPD.tT 3 rfl (q_mv (v := .lit (.bool _)) rfl) ?_
             refine WPD.split (t := 30) (b := x14) rfl (fun hb5 => ?_) (fun hb5 => ?_)
             · replace H := cnt hb5 H
               refine WPD.takegT 4 rfl (by kernel_rfl) rfl rfl (lb hb5) (q_mv (v := .lit (.string _)) rfl) rfl ?_
               refine WPD.takegT 6 rfl (by kernel_rfl) rfl rfl (lb hb5) (q_mv (v := .lit (.string _)) rfl) rfl ?_
               obtain ⟨h11, H⟩ := grd H
               obtain ⟨x15, h12, H⟩ := bnd H
               refine WPD.takegT 7 rfl (by kernel_rfl) rfl rfl (lb hb5) (q_nm (q_slice_str (i := 8) (j := ((ByteArray.size x12 : Nat) : Int)) Tryz.underlying9 rfl ⟨_, rfl⟩ rfl h11) (nm_str h12)) rfl ?_
               obtain ⟨x16, h12, H⟩ := bnd H
               refine WPD.effg 5 [] [] rfl (by kernel_rfl) rfl rfl (lb hb5) (runs_call (s := []) (t := []) (N := 0) (bor := []) fn135 rfl (s_u8_word_string k x12 x16 h12) ⟨rfl, trivial, by decide, rfl, trivial⟩ rfl trivial (.ren rfl rfl .nil) rfl trivial rfl) rfl rfl ?_
               obtain ⟨x17, h13, H⟩ := bnd H
               refine WPD.effg 8 [] [] rfl (by kernel_rfl) rfl rfl (lb hb5) (runs_call (s := []) (t := []) (N := 0) (bor := []) fn135 rfl (s_u8_word_string k x15 x17 h13) ⟨rfl, trivial, by decide, rfl, trivial⟩ rfl trivial (.ren rfl rfl .nil) rfl trivial rfl) rfl rfl ?_
               refine WPD.takegT 9 rfl (by kernel_rfl) rfl rfl (lb hb5) (q_or rfl rfl) rfl ?_
               obtain ⟨x18, h14, H⟩ := bnd H
               refine WPD.takegT 10 rfl (by kernel_rfl) rfl rfl (lb hb5) (q_nm (q_and rfl rfl) (nm_int h14)) rfl ?_
               refine WPD.takegT 11 rfl (by kernel_rfl) rfl rfl (lb hb5) (q_eql rfl rfl) rfl ?_
               refine WPD.tT 12 rfl (q_pickT (v := .lit (.bool _)) (lb hb5) rfl) ?_
               refine WPD.doneW (by kernel_rfl) ?_
               have q0 := j1 H
               subst q0
               exact W.wk [] hnp r3 ⟨rfl, trivial, by decide, rfl, trivial⟩ (LeE.u (LeE.u (LeE.none rfl rfl))) rfl
             replace H := cnf hb5 H
             refine WPD.ps false 4 rfl rfl (lb hb5) ?_
             refine WPD.ps false 5 rfl rfl (lb hb5) ?_
             refine WPD.ps false 6 rfl rfl (lb hb5) ?_
             refine WPD.ps false 7 rfl rfl (lb hb5) ?_
             refine WPD.ps false 8 rfl rfl (lb hb5) ?_
             refine WPD.ps false 9 rfl rfl (lb hb5) ?_
             refine WPD.ps false 10 rfl rfl (lb hb5) ?_
             refine WPD.ps false 11 rfl rfl (lb hb5) ?_
             refine WPD.tT 12 rfl (q_pickF (v := .lit (.bool _)) (lb hb5) rfl) ?_
             refine WPD.doneW (by kernel_rfl) ?_
             have q0 := j1 H
             subst q0
             exact W.wk [] hnp r3 ⟨rfl, trivial, by decide, rfl, trivial⟩ (LeE.u (LeE.u (LeE.none rfl rfl))) rfl
           rintro _ _ _ ⟨rfl, rfl, rfl⟩
           refine W.now ?_
           refine Then.n ?_
           refine WP.cond (t := x13) rfl (fun hb6 => ?_) (fun hb6 => ?_)
           · replace H := cnt hb6 H
             refine WP.sr ?_
             refine WPL.qq (q_mv (v := .lit (.string _)) rfl) ?_
             obtain ⟨h15, H⟩ := grd H
             obtain ⟨x19, h16, H⟩ := bnd H
             refine WPL.qq (q_nm (q_slice_str (i := 16) (j := ((ByteArray.size x12 : Nat) : Int)) Tryz.underlying9 rfl ⟨_, rfl⟩ rfl h15) (nm_str h16)) ?_
             refine WPL.qq (q_as (v := .lit (.string _)) rfl) ?_
             refine WPL.nx ?_
             refine WP.block ?_
             refine WP.cv (Cv.weak (E' := (Env.none.upd 0 (.lit (.string x19)))) (M' := Mem.nil) [] hnp ⟨rfl, trivial, by decide, rfl, trivial⟩ (LeE.u (LeE.none rfl rfl))) ?_
             obtain ⟨x20, H5, H⟩ := bnd H
             refine WP.monoW (Q := fun x E M => x = .exit 2 ∧ E = (Env.none.upd 0 (.lit (.string x20))) ∧ M = Mem.nil) ?_ ?_
             · refine WP.loop (β := ByteArray) (fun n b => g_u8_ValidString_l1 k n b = some x20) (fun b => (Env.none.upd 0 (.lit (.string b)))) (fun b => Mem.nil) k x19 H5 rfl rfl ?_
               rintro n x21 H
               obtain _ | n := n
               · exact nf rfl H
               rw [g_u8_ValidString_l1.eq_2] at H
               show WP _ _ _ _ (Env.none.upd 0 (.lit (.string x21))) Mem.nil _
               refine WP.seq ?_
               refine WP.seq ?_
               obtain ⟨x22, H6, H⟩ := bnd H
               refine WP.monoW (Q := fun x E M => x = .normal ∧ E = ((Env.none.upd 0 (.lit (.string x21))).upd 62 (.lit (.bool x22))) ∧ M = Mem.nil) ?_ ?_
               · clear H
                 have H := H6
                 clear H6
                 refine WP.regionD' 21 [] [] mixed rfl ?_
                 refine WPD.tT 0 rfl (q_mv (v := .lit (.string _)) rfl) ?_
                 refine WPD.tT 1 rfl (q_len_str Tryz.underlying9 rfl) ?_
                 obtain ⟨x23, h17, H⟩ := bnd H
                 refine WPD.tT 2 rfl (q_nm (q_gtr rfl rfl) (nm_bool h17)) ?_
                 refine WPD.tT 3 rfl (q_mv (v := .lit (.bool _)) rfl) ?_
                 refine WPD.split (t := 45) (b := x23) rfl (fun hb7 => ?_) (fun hb7 => ?_)
                 · replace H := cnt hb7 H
                   refine WPD.takegT 4 rfl (by kernel_rfl) rfl rfl (lb hb7) (q_mv (v := .lit (.string _)) rfl) rfl ?_
                   refine WPD.takegT 6 rfl (by kernel_rfl) rfl rfl (lb hb7) (q_mv (v := .lit (.string _)) rfl) rfl ?_
                   obtain ⟨h18, H⟩ := grd H
                   obtain ⟨x24, h19, H⟩ := bnd H
                   refine WPD.takegT 7 rfl (by kernel_rfl) rfl rfl (lb hb7) (q_nm (q_slice_str (i := 8) (j := ((ByteArray.size x21 : Nat) : Int)) Tryz.underlying9 rfl ⟨_, rfl⟩ rfl h18) (nm_str h19)) rfl ?_
                   refine WPD.takegT 10 rfl (by kernel_rfl) rfl rfl (lb hb7) (q_mv (v := .lit (.string _)) rfl) rfl ?_
                   obtain ⟨h19, H⟩ := grd H
                   obtain ⟨x25, h20, H⟩ := bnd H
                   refine WPD.takegT 11 rfl (by kernel_rfl) rfl rfl (lb hb7) (q_nm (q_slice_str (i := 16) (j := ((ByteArray.size x21 : Nat) : Int)) Tryz.underlying9 rfl ⟨_, rfl⟩ rfl h19) (nm_str h20)) rfl ?_
                   refine WPD.takegT 13 rfl (by kernel_rfl) rfl rfl (lb hb7) (q_mv (v := .lit (.string _)) rfl) rfl ?_
                   obtain ⟨h20, H⟩ := grd H
                   obtain ⟨x26, h21, H⟩ := bnd H
                   refine WPD.takegT 14 rfl (by kernel_rfl) rfl rfl (lb hb7) (q_nm (q_slice_str (i := 24) (j := ((ByteArray.size x21 : Nat) : Int)) Tryz.underlying9 rfl ⟨_, rfl⟩ rfl h20) (nm_str h21)) rfl ?_
                   obtain ⟨x27, h21, H⟩ := bnd H
                   refine WPD.effg 5 [] [] rfl (by kernel_rfl) rfl rfl (lb hb7) (runs_call (s := []) (t := []) (N := 0) (bor := []) fn135 rfl (s_u8_word_string k x21 x27 h21) ⟨rfl, trivial, by decide, rfl, trivial⟩ rfl trivial (.ren rfl rfl .nil) rfl trivial rfl) rfl rfl ?_
                   obtain ⟨x28, h22, H⟩ := bnd H
                   refine WPD.effg 8 [] [] rfl (by kernel_rfl) rfl rfl (lb hb7) (runs_call (s := []) (t := []) (N := 0) (bor := []) fn135 rfl (s_u8_word_string k x24 x28 h22) ⟨rfl, trivial, by decide, rfl, trivial⟩ rfl trivial (.ren rfl rfl .nil) rfl trivial rfl) rfl rfl ?_
                   refine WPD.takegT 9 rfl (by kernel_rfl) rfl rfl (lb hb7) (q_or rfl rfl) rfl ?_
                   obtain ⟨x29, h23, H⟩ := bnd H
                   refine WPD.effg 12 [] [] rfl (by kernel_rfl) rfl rfl (lb hb7) (runs_call (s := []) (t := []) (N := 0) (bor := []) fn135 rfl (s_u8_word_string k x25 x29 h23) ⟨rfl, trivial, by decide, rfl, trivial⟩ rfl trivial (.ren rfl rfl .nil) rfl trivial rfl) rfl rfl ?_
                   obtain ⟨x30, h24, H⟩ := bnd H
                   refine WPD.effg 15 [] [] rfl (by kernel_rfl) rfl rfl (lb hb7) (runs_call (s := []) (t := []) (N := 0) (bor := []) fn135 rfl (s_u8_word_string k x26 x30 h24) ⟨rfl, trivial, by decide, rfl, trivial⟩ rfl trivial (.ren rfl rfl .nil) rfl trivial rfl) rfl rfl ?_
                   refine WPD.takegT 16 rfl (by kernel_rfl) rfl rfl (lb hb7) (q_or rfl rfl) rfl ?_
                   obtain ⟨x31, h25, H⟩ := bnd H
                   refine WPD.takegT 17 rfl (by kernel_rfl) rfl rfl (lb hb7) (q_nm (q_or rfl rfl) (nm_int h25)) rfl ?_
                   obtain ⟨x32, h26, H⟩ := bnd H
                   refine WPD.takegT 18 rfl (by kernel_rfl) rfl rfl (lb hb7) (q_nm (q_and rfl rfl) (nm_int h26)) rfl ?_
                   refine WPD.takegT 19 rfl (by kernel_rfl) rfl rfl (lb hb7) (q_eql rfl rfl) rfl ?_
                   refine WPD.tT 20 rfl (q_pickT (v := .lit (.bool _)) (lb hb7) rfl) ?_
                   refine WPD.doneW (by kernel_rfl) ?_
                   have q0 := j1 H
                   subst q0
                   exact W.wk [] hnp r3 ⟨rfl, trivial, by decide, rfl, trivial⟩ (LeE.u (LeE.u (LeE.none rfl rfl))) rfl
                 replace H := cnf hb7 H
                 refine WPD.ps false 4 rfl rfl (lb hb7) ?_
                 refine WPD.ps false 5 rfl rfl (lb hb7) ?_
                 refine WPD.ps false 6 rfl rfl (lb hb7) ?_
                 refine WPD.ps false 7 rfl rfl (lb hb7) ?_
                 refine WPD.ps false 8 rfl rfl (lb hb7) ?_
                 refine WPD.ps false 9 rfl rfl (lb hb7) ?_
                 refine WPD.ps false 10 rfl rfl (lb hb7) ?_
                 refine WPD.ps false 11 rfl rfl (lb hb7) ?_
                 refine WPD.ps false 12 rfl rfl (lb hb7) ?_
                 refine WPD.ps false 13 rfl rfl (lb hb7) ?_
                 refine WPD.ps false 14 rfl rfl (lb hb7) ?_
                 refine WPD.ps false 15 rfl rfl (lb hb7) ?_
                 refine WPD.ps false 16 rfl rfl (lb hb7) ?_
                 refine WPD.ps false 17 rfl rfl (lb hb7) ?_
                 refine WPD.ps false 18 rfl rfl (lb hb7) ?_
                 refine WPD.ps false 19 rfl rfl (lb hb7) ?_
                 refine WPD.tT 20 rfl (q_pickF (v := .lit (.bool _)) (lb hb7) rfl) ?_
                 refine WPD.doneW (by kernel_rfl) ?_
                 have q0 := j1 H
                 subst q0
                 exact W.wk [] hnp r3 ⟨rfl, trivial, by decide, rfl, trivial⟩ (LeE.u (LeE.u (LeE.none rfl rfl))) rfl
               rintro _ _ _ ⟨rfl, rfl, rfl⟩
               refine W.now ?_
               refine Then.n ?_
               refine WP.cond (t := x22) rfl (fun hb8 => ?_) (fun hb8 => ?_)
               · replace H := cnt hb8 H
                 refine WP.skipW ?_
                 refine W.now ?_
                 refine Then.n ?_
                 refine WP.block ?_
                 refine WP.region ?_
                 refine WPL.qq (q_mv (v := .lit (.string _)) rfl) ?_
                 obtain ⟨h27, H⟩ := grd H
                 obtain ⟨x33, h28, H⟩ := bnd H
                 refine WPL.qq (q_nm (q_slice_str (i := 32) (j := ((ByteArray.size x21 : Nat) : Int)) Tryz.underlying9 rfl ⟨_, rfl⟩ rfl h27) (nm_str h28)) ?_
                 refine WPL.qq (q_as (v := .lit (.string _)) rfl) ?_
                 refine WPL.nilW ?_
                 exact W.wk [] hnp (InBlock.n (Then.n ⟨n, x33, Nat.lt_succ_self n, H, rfl, rfl⟩)) ⟨rfl, trivial, by decide, rfl, trivial⟩ (LeE.u (LeE.none rfl rfl)) rfl
               replace H := cnf hb8 H
               refine WP.exitW ?_
               have q0 := j1 H
               subst q0
               exact W.wk [] hnp (Then.x (Then.x r3)) ⟨rfl, trivial, by decide, rfl, trivial⟩ (LeE.u (LeE.none rfl rfl)) rfl
             rintro _ _ _ ⟨rfl, rfl, rfl⟩
             have q0 := j1 H
             subst q0
             exact W.wk [] hnp (InBlock.x0 r3) ⟨rfl, trivial, by decide, rfl, trivial⟩ (LeE.u (LeE.none rfl rfl)) rfl
           replace H := cnf hb6 H
           refine WP.skipW ?_
           have q0 := j1 H
           subst q0
           exact W.wk [] hnp r3 ⟨rfl, trivial, by decide, rfl, trivial⟩ (LeE.u (LeE.none rfl rfl)) rfl
         replace H := cnf hb4 H
         refine WP.skipW ?_
         have q0 := j1 H
         subst q0
         exact W.wk [] hnp r3 ⟨rfl, trivial, by decide, rfl, trivial⟩ (LeE.u (LeE.none rfl rfl)) rfl
       rintro _ _ _ ⟨rfl, rfl, rfl⟩
       refine W.now ?_
       refine Then.n ?_
       refine WP.exitW ?_
       exact W.wk [] hnp (Then.x (InBlock.x0 (Then.n ⟨n, x7, Nat.lt_succ_self n, H, rfl, rfl⟩))) ⟨rfl, trivial, by decide, rfl, trivial⟩ (LeE.u (LeE.none rfl rfl)) rfl
     replace H := cnf hb2 H
     refine WP.skipW ?_
     refine W.now ?_
     refine Then.n ?_
     refine WP.sr ?_
     refine WPL.qq (q_mv (v := .lit (.int _ _)) rfl) ?_
     obtain ⟨h29, H⟩ := grd H
     refine WPL.qq (q_indexTab ar133 rfl rfl tb0 rfl h29) ?_
     refine WPL.qq (q_load_sc sc5 rfl) ?_
     refine WPL.qq (q_as (v := .lit (.int _ _)) rfl) ?_
     refine WPL.nx ?_
     refine WP.sr ?_
     refine WPL.qq (q_mv (v := .lit (.int _ _)) rfl) ?_
     obtain ⟨x34, h30, H⟩ := bnd H
     refine WPL.qq (q_nm (q_and rfl rfl) (nm_int h30)) ?_
     refine WPL.qq (q_conv Tryz.underlying5 Tryz.underlying3 rfl) ?_
     refine WPL.qq (q_as (v := .lit (.int _ _)) rfl) ?_
     refine WPL.nx ?_
     refine WP.sr ?_
     refine WPL.qq (q_mv (v := .lit (.int _ _)) rfl) ?_
     obtain ⟨x35, h31, H⟩ := bnd H
     refine WPL.qq (q_nm (q_shr rfl rfl rfl) (nm_int h31)) ?_
     obtain ⟨h31, H⟩ := grd H
     refine WPL.qq (q_indexTab ar136 rfl rfl tb1 rfl h31) ?_
     refine WPL.qq (q_load_roag ag135 rfl rfl S_unicode_utf8_acceptRange.sp) ?_
     refine WPL.d (d_alloc ze135 rfl) rfl ?_
     refine WPL.s (s_store sz135 rfl rfl rfl rfl rfl) ?_
     refine WPL.nx ?_
     refine WP.sr ?_
     refine WPL.qq (q_mv (v := .lit (.int _ _)) rfl) ?_
     refine WPL.nx ?_
     refine WP.block ?_
     refine WP.sr ?_
     obtain ⟨x36, h32, H⟩ := bnd H
     refine WPL.qq (q_nm (q_eql rfl rfl) (nm_bool h32)) ?_
     refine WPL.qq (q_as (v := .lit (.bool _)) rfl) ?_
     refine WPL.nx ?_
     refine WP.cond (t := x36) rfl (fun hb9 => ?_) (fun hb9 => ?_)
     · replace H := cnt hb9 H
       refine WP.seq ?_
       refine WP.seq ?_
       obtain ⟨x37, H7, H⟩ := bnd H
       refine WP.monoW (Q := fun x E M => x = .normal ∧ E = ((Env.none.upd 0 (.lit (.string x3))).upd 94 (.lit (.bool x37))) ∧ M = Mem.nil) ?_ ?_
       · clear H
         have H := H7
         clear H7
         refine WP.regionD' 17 [0] [] mixed rfl ?_
         refine WPD.tT 0 rfl (q_mv (v := .lit (.string _)) rfl) ?_
         refine WPD.tT 1 rfl (q_len_str Tryz.underlying9 rfl) ?_
         obtain ⟨x38, h33, H⟩ := bnd H
         refine WPD.tT 2 rfl (q_nm (q_lss rfl rfl) (nm_bool h33)) ?_
         refine WPD.tT 3 rfl (q_mv (v := .lit (.bool _)) rfl) ?_
         refine WPD.split (t := 81) (b := x38) rfl (fun hb10 => ?_) (fun hb10 => ?_)
         · replace H := cnt hb10 H
           refine WPD.ps true 4 rfl rfl (lb hb10) ?_
           refine WPD.ps true 5 rfl rfl (lb hb10) ?_
           refine WPD.ps true 6 rfl rfl (lb hb10) ?_
           refine WPD.ps true 7 rfl rfl (lb hb10) ?_
           refine WPD.ps true 8 rfl rfl (lb hb10) ?_
           refine WPD.tT 9 rfl (q_pickT (v := .lit (.bool _)) (lb hb10) rfl) ?_
           refine WPD.tT 10 rfl (q_mv (v := .lit (.bool _)) rfl) ?_
           refine WPD.ps true 11 rfl rfl rfl ?_
           refine WPD.ps true 12 rfl rfl rfl ?_
           refine WPD.ps true 13 rfl rfl rfl ?_
           refine WPD.ps true 14 rfl rfl rfl ?_
           refine WPD.ps true 15 rfl rfl rfl ?_
           refine WPD.tT 16 rfl (q_pickT (v := .lit (.bool _)) rfl rfl) ?_
           refine WPD.doneW (by kernel_rfl) ?_
           have q0 := j1 H
           subst q0
           exact W.wk [] hnp r3 ⟨rfl, trivial, by decide, rfl, trivial⟩ (LeE.u (LeE.u (LeE.none rfl rfl))) rfl
         replace H := cnf hb10 H
         refine WPD.takegT 4 rfl (by kernel_rfl) rfl rfl (lb hb10) (q_mv (v := .lit (.string _)) rfl) rfl ?_
         obtain ⟨x39, h34, H⟩ := bnd H
         refine WPD.takegT 5 rfl (by kernel_rfl) rfl rfl (lb hb10) (q_index_str Tryz.underlying9 rfl rfl h34) rfl ?_
         refine WPD.takegT 6 rfl (by kernel_rfl) rfl rfl (lb hb10) (q_fieldAddr fi135_0 rfl rfl) rfl ?_
         refine WPD.takeg 7 rfl (by kernel_rfl) rfl rfl (lb hb10) (q_load sc5 rfl rfl rfl) rfl rfl ?_
         obtain ⟨x40, h35, H⟩ := bnd H
         refine WPD.takegT 8 rfl (by kernel_rfl) rfl rfl (lb hb10) (q_nm (q_lss rfl rfl) (nm_bool h35)) rfl ?_
         refine WPD.tT 9 rfl (q_pickF (v := .lit (.bool _)) (lb hb10) rfl) ?_
         refine WPD.tT 10 rfl (q_mv (v := .lit (.bool _)) rfl) ?_
         refine WPD.split (t := 88) (b := x40) rfl (fun hb11 => ?_) (fun hb11 => ?_)
         · replace H := cnt hb11 H
           refine WPD.ps true 11 rfl rfl (lb hb11) ?_
           refine WPD.ps true 12 rfl rfl (lb hb11) ?_
           refine WPD.ps true 13 rfl rfl (lb hb11) ?_
           refine WPD.ps true 14 rfl rfl (lb hb11) ?_
           refine WPD.ps true 15 rfl rfl (lb hb11) ?_
           refine WPD.tT 16 rfl (q_pickT (v := .lit (.bool _)) (lb hb11) rfl) ?_
           refine WPD.doneW (by kernel_rfl) ?_
           have q0 := j1 H
           subst q0
           exact W.wk [] hnp r3 ⟨rfl, trivial, by decide, rfl, trivial⟩ (LeE.u (LeE.u (LeE.none rfl rfl))) rfl
         replace H := cnf hb11 H
         refine WPD.takegT 11 rfl (by kernel_rfl) rfl rfl (lb hb11) (q_fieldAddr fi135_1 rfl rfl) rfl ?_
         refine WPD.takegT 13 rfl (by kernel_rfl) rfl rfl (lb hb11) (q_mv (v := .lit (.string _)) rfl) rfl ?_
         obtain ⟨x41, h36, H⟩ := bnd H
         refine WPD.takegT 14 rfl (by kernel_rfl) rfl rfl (lb hb11) (q_index_str Tryz.underlying9 rfl rfl h36) rfl ?_
         refine WPD.takeg 12 rfl (by kernel_rfl) rfl rfl (lb hb11) (q_load sc5 rfl rfl rfl) rfl rfl ?_
         obtain ⟨x42, h37, H⟩ := bnd H
         refine WPD.takegT 15 rfl (by kernel_rfl) rfl rfl (lb hb11) (q_nm (q_lss rfl rfl) (nm_bool h37)) rfl ?_
         refine WPD.tT 16 rfl (q_pickF (v := .lit (.bool _)) (lb hb11) rfl) ?_
         refine WPD.doneW (by kernel_rfl) ?_
         have q0 := j1 H
         subst q0
         exact W.wk [] hnp r3 ⟨rfl, trivial, by decide, rfl, trivial⟩ (LeE.u (LeE.u (LeE.none rfl rfl))) rfl
       rintro _ _ _ ⟨rfl, rfl, rfl⟩
       refine W.now ?_
       refine Then.n ?_
       refine WP.cond (t := x37) rfl (fun hb12 => ?_) (fun hb12 => ?_)
       · replace H := cnt hb12 H
         refine WP.sr ?_
         refine WPL.qq (q_as (v := .lit (.bool _)) rfl) ?_
         refine WPL.nx ?_
         refine WP.retW ?_
         have q0 := j1 H
         subst q0
         exact W.wk [] hnp (Then.r (InBlock.r (InBlock.r (Then.r r3)))) ⟨rfl, trivial, by decide, rfl, trivial⟩ (LeE.u (LeE.none rfl rfl)) rfl
       replace H := cnf hb12 H
       refine WP.skipW ?_
       refine W.now ?_
       refine Then.n ?_
       refine WP.region ?_
       refine WPL.qq (q_mv (v := .lit (.string _)) rfl) ?_
       obtain ⟨h38, H⟩ := grd H
       obtain ⟨x43, h39, H⟩ := bnd H
       refine WPL.qq (q_nm (q_slice_str (i := 2) (j := ((ByteArray.size x3 : Nat) : Int)) Tryz.underlying9 rfl ⟨_, rfl⟩ rfl h38) (nm_str h39)) ?_
       refine WPL.qq (q_as (v := .lit (.string _)) rfl) ?_
       refine WPL.nilW ?_
       exact W.wk [] hnp (InBlock.n (InBlock.n (Then.n ⟨n, x43, Nat.lt_succ_self n, H, rfl, rfl⟩))) ⟨rfl, trivial, by decide, rfl, trivial⟩ (LeE.u (LeE.none rfl rfl)) rfl
     replace H := cnf hb9 H
     refine WP.sr ?_
     obtain ⟨x44, h40, H⟩ := bnd H
     refine WPL.qq (q_nm (q_eql rfl rfl) (nm_bool h40)) ?_
     refine WPL.qq (q_as (v := .lit (.bool _)) rfl) ?_
     refine WPL.nx ?_
     refine WP.cond (t := x44) rfl (fun hb13 => ?_) (fun hb13 => ?_)
     · replace H := cnt hb13 H
       refine WP.seq ?_
       refine WP.seq ?_
       obtain ⟨x45, H8, H⟩ := bnd H
       refine WP.monoW (Q := fun x E M => x = .normal ∧ E = ((Env.none.upd 0 (.lit (.string x3))).upd 125 (.lit (.bool x45))) ∧ M = Mem.nil) ?_ ?_
       · clear H
         have H := H8
         clear H8
         refine WP.regionD' 27 [0] [] mixed rfl ?_
         refine WPD.tT 0 rfl (q_mv (v := .lit (.string _)) rfl) ?_
         refine WPD.tT 1 rfl (q_len_str Tryz.underlying9 rfl) ?_
         obtain ⟨x46, h41, H⟩ := bnd H
         refine WPD.tT 2 rfl (q_nm (q_lss rfl rfl) (nm_bool h41)) ?_
         refine WPD.tT 3 rfl (q_mv (v := .lit (.bool _)) rfl) ?_
         refine WPD.split (t := 102) (b := x46) rfl (fun hb14 => ?_) (fun hb14 => ?_)
         · replace H := cnt hb14 H
           refine WPD.ps true 4 rfl rfl (lb hb14) ?_
           refine WPD.ps true 5 rfl rfl (lb hb14) ?_
           refine WPD.ps true 6 rfl rfl (lb hb14) ?_
           refine WPD.ps true 7 rfl rfl (lb hb14) ?_
           refine WPD.ps true 8 rfl rfl (lb hb14) ?_
           refine WPD.tT 9 rfl (q_pickT (v := .lit (.bool _)) (lb hb14) rfl) ?_
           refine WPD.tT 10 rfl (q_mv (v := .lit (.bool _)) rfl) ?_
           refine WPD.ps true 11 rfl rfl rfl ?_
           refine WPD.ps true 12 rfl rfl rfl ?_
           refine WPD.ps true 13 rfl rfl rfl ?_
           refine WPD.ps true 14 rfl rfl rfl ?_
           refine WPD.ps true 15 rfl rfl rfl ?_
           refine WPD.tT 16 rfl (q_pickT (v := .lit (.bool _)) rfl rfl) ?_
           refine WPD.tT 17 rfl (q_mv (v := .lit (.bool _)) rfl) ?_
           refine WPD.ps true 18 rfl rfl rfl ?_
           refine WPD.ps true 19 rfl rfl rfl ?_
           refine WPD.ps true 20 rfl rfl rfl ?_
           refine WPD.tT 21 rfl (q_pickT (v := .lit (.bool _)) rfl rfl) ?_
           refine WPD.tT 22 rfl (q_mv (v := .lit (.bool _)) rfl) ?_
           refine WPD.ps true 23 rfl rfl rfl ?_
           refine WPD.ps true 24 rfl rfl rfl ?_
           refine WPD.ps true 25 rfl rfl rfl ?_
           refine WPD.tT 26 rfl (q_pickT (v := .lit (.bool _)) rfl rfl) ?_
           refine WPD.doneW (by kernel_rfl) ?_
           have q0 := j1 H
           subst q0
           exact W.wk [] hnp r3 ⟨rfl, trivial, by decide, rfl, trivial⟩ (LeE.u (LeE.u (LeE.none rfl rfl))) rfl
         replace H := cnf hb14 H
         refine WPD.takegT 4 rfl (by kernel_rfl) rfl rfl (lb hb14) (q_mv (v := .lit (.string _)) rfl) rfl ?_
         obtain ⟨x47, h42, H⟩ := bnd H
         refine WPD.takegT 5 rfl (by kernel_rfl) rfl rfl (lb hb14) (q_index_str Tryz.underlying9 rfl rfl h42) rfl ?_
         refine WPD.takegT 6 rfl (by kernel_rfl) rfl rfl (lb hb14) (q_fieldAddr fi135_0 rfl rfl) rfl ?_
         refine WPD.takeg 7 rfl (by kernel_rfl) rfl rfl (lb hb14) (q_load sc5 rfl rfl rfl) rfl rfl ?_
         obtain ⟨x48, h43, H⟩ := bnd H
         refine WPD.takegT 8 rfl (by kernel_rfl) rfl rfl (lb hb14) (q_nm (q_lss rfl rfl) (nm_bool h43)) rfl ?_
         refine WPD.tT 9 rfl (q_pickF (v := .lit (.bool _)) (lb hb14) rfl) ?_
         refine WPD.tT 10 rfl (q_mv (v := .lit (.bool _)) rfl) ?_
         refine WPD.split (t := 109) (b := x48) rfl (fun hb15 => ?_) (fun hb15 => ?_)
         · replace H := cnt hb15 H
           refine WPD.ps true 11 rfl rfl (lb hb15) ?_
           refine WPD.ps true 12 rfl rfl (lb hb15) ?_
           refine WPD.ps true 13 rfl rfl (lb hb15) ?_
           refine WPD.ps true 14 rfl rfl (lb hb15) ?_
           refine WPD.ps true 15 rfl rfl (lb hb15) ?_
           refine WPD.tT 16 rfl (q_pickT (v := .lit (.bool _)) (lb hb15) rfl) ?_
           refine WPD.tT 17 rfl (q_mv (v := .lit (.bool _)) rfl) ?_
           refine WPD.ps true 18 rfl rfl rfl ?_
           refine WPD.ps true 19 rfl rfl rfl ?_
           refine WPD.ps true 20 rfl rfl rfl ?_
           refine WPD.tT 21 rfl (q_pickT (v := .lit (.bool _)) rfl rfl) ?_
           refine WPD.tT 22 rfl (q_mv (v := .lit (.bool _)) rfl) ?_
           refine WPD.ps true 23 rfl rfl rfl ?_
           refine WPD.ps true 24 rfl rfl rfl ?_
           refine WPD.ps true 25 rfl rfl rfl ?_
           refine WPD.tT 26 rfl (q_pickT (v := .lit (.bool _)) rfl rfl) ?_
           refine WPD.doneW (by kernel_rfl) ?_
           have q0 := j1 H
           subst q0
           exact W.wk [] hnp r3 ⟨rfl, trivial, by decide, rfl, trivial⟩ (LeE.u (LeE.u (LeE.none rfl rfl))) rfl
         replace H := cnf hb15 H
         refine WPD.takegT 11 rfl (by kernel_rfl) rfl rfl (lb hb15) (q_fieldAddr fi135_1 rfl rfl) rfl ?_
         refine WPD.takegT 13 rfl (by kernel_rfl) rfl rfl (lb hb15) (q_mv (v := .lit (.string _)) rfl) rfl ?_
         obtain ⟨x49, h44, H⟩ := bnd H
         refine WPD.takegT 14 rfl (by kernel_rfl) rfl rfl (lb hb15) (q_index_str Tryz.underlying9 rfl rfl h44) rfl ?_
         refine WPD.takeg 12 rfl (by kernel_rfl) rfl rfl (lb hb15) (q_load sc5 rfl rfl rfl) rfl rfl ?_
         obtain ⟨x50, h45, H⟩ := bnd H
         refine WPD.takegT 15 rfl (by kernel_rfl) rfl rfl (lb hb15) (q_nm (q_lss rfl rfl) (nm_bool h45)) rfl ?_
         refine WPD.tT 16 rfl (q_pickF (v := .lit (.bool _)) (lb hb15) rfl) ?_
         refine WPD.tT 17 rfl (q_mv (v := .lit (.bool _)) rfl) ?_
         refine WPD.split (t := 116) (b := x50) rfl (fun hb16 => ?_) (fun hb16 => ?_)
         · replace H := cnt hb16 H
           refine WPD.ps true 18 rfl rfl (lb hb16) ?_
           refine WPD.ps true 19 rfl rfl (lb hb16) ?_
           refine WPD.ps true 20 rfl rfl (lb hb16) ?_
           refine WPD.tT 21 rfl (q_pickT (v := .lit (.bool _)) (lb hb16) rfl) ?_
           refine WPD.tT 22 rfl (q_mv (v := .lit (.bool _)) rfl) ?_
           refine WPD.ps true 23 rfl rfl rfl ?_
           refine WPD.ps true 24 rfl rfl rfl ?_
           refine WPD.ps true 25 rfl rfl rfl ?_
           refine WPD.tT 26 rfl (q_pickT (v := .lit (.bool _)) rfl rfl) ?_
           refine WPD.doneW (by kernel_rfl) ?_
           have q0 := j1 H
           subst q0
           exact W.wk [] hnp r3 ⟨rfl, trivial, by decide, rfl, trivial⟩ (LeE.u (LeE.u (LeE.none rfl rfl))) rfl
         replace H := cnf hb16 H
         refine WPD.takegT 18 rfl (by kernel_rfl) rfl rfl (lb hb16) (q_mv (v := .lit (.string _)) rfl) rfl ?_
         obtain ⟨x51, h46, H⟩ := bnd H
         refine WPD.takegT 19 rfl (by kernel_rfl) rfl rfl (lb hb16) (q_index_str Tryz.underlying9 rfl rfl h46) rfl ?_
         refine WPD.takegT 20 rfl (by kernel_rfl) rfl rfl (lb hb16) (q_lss rfl rfl) rfl ?_
         refine WPD.tT 21 rfl (q_pickF (v := .lit (.bool _)) (lb hb16) rfl) ?_
         refine WPD.tT 22 rfl (q_mv (v := .lit (.bool _)) rfl) ?_
         refine WPD.split (t := 121) (b := (decide (x51 < 128))) rfl (fun hb17 => ?_) (fun hb17 => ?_)
         · replace H := cnt hb17 H
           refine WPD.ps true 23 rfl rfl (lb hb17) ?_
           refine WPD.ps true 24 rfl rfl (lb hb17) ?_
           refine WPD.ps true 25 rfl rfl (lb hb17) ?_
           refine WPD.tT 26 rfl (q_pickT (v := .lit (.bool _)) (lb hb17) rfl) ?_
           refine WPD.doneW (by kernel_rfl) ?_
           have q0 := j1 H
           subst q0
           exact W.wk [] hnp r3 ⟨rfl, trivial, by decide, rfl, trivial⟩ (LeE.u (LeE.u (LeE.none rfl rfl))) rfl
         replace H := cnf hb17 H
         refine WPD.takegT 23 rfl (by kernel_rfl) rfl rfl (lb hb17) (q_mv (v := .lit (.string _)) rfl) rfl ?_
         obtain ⟨x52, h47, H⟩ := bnd H
         refine WPD.takegT 24 rfl (by kernel_rfl) rfl rfl (lb hb17) (q_index_str Tryz.underlying9 rfl rfl h47) rfl ?_
         refine WPD.takegT 25 rfl (by kernel_rfl) rfl rfl (lb hb17) (q_lss rfl rfl) rfl ?_
         refine WPD.tT 26 rfl (q_pickF (v := .lit (.bool _)) (lb hb17) rfl) ?_
         refine WPD.doneW (by kernel_rfl) ?_
         have q0 := j1 H
         subst q0
         exact W.wk [] hnp r3 ⟨rfl, trivial, by decide, rfl, trivial⟩ (LeE.u (LeE.u (LeE.none rfl rfl))) rfl
       rintro _ _ _ ⟨rfl, rfl, rfl⟩
       refine W.now ?_
       refine Then.n ?_
       refine WP.cond (t := x45) rfl (fun hb18 => ?_) (fun hb18 => ?_)
       · replace H := cnt hb18 H
         refine WP.sr ?_
         refine WPL.qq (q_as (v := .lit (.bool _)) rfl) ?_
         refine WPL.nx ?_
         refine WP.retW ?_
         have q0 := j1 H
         subst q0
         exact W.wk [] hnp (Then.r (InBlock.r (InBlock.r (Then.r r3)))) ⟨rfl, trivial, by decide, rfl, trivial⟩ (LeE.u (LeE.none rfl rfl)) rfl
       replace H := cnf hb18 H
       refine WP.skipW ?_
       refine W.now ?_
       refine Then.n ?_
       refine WP.region ?_
       refine WPL.qq (q_mv (v := .lit (.string _)) rfl) ?_
       obtain ⟨h48, H⟩ := grd H
       obtain ⟨x53, h49, H⟩ := bnd H
       refine WPL.qq (q_nm (q_slice_str (i := 3) (j := ((ByteArray.size x3 : Nat) : Int)) Tryz.underlying9 rfl ⟨_, rfl⟩ rfl h48) (nm_str h49)) ?_
       refine WPL.qq (q_as (v := .lit (.string _)) rfl) ?_
       refine WPL.nilW ?_
       exact W.wk [] hnp (InBlock.n (InBlock.n (Then.n ⟨n, x53, Nat.lt_succ_self n, H, rfl, rfl⟩))) ⟨rfl, trivial, by decide, rfl, trivial⟩ (LeE.u (LeE.none rfl rfl)) rfl
     replace H := cnf hb13 H
     refine WP.sr ?_
     obtain ⟨x54, h50, H⟩ := bnd H
     refine WPL.qq (q_nm (q_eql rfl rfl) (nm_bool h50)) ?_
     refine WPL.qq (q_as (v := .lit (.bool _)) rfl) ?_
     refine WPL.nx ?_
     refine WP.cond (t := x54) rfl (fun hb19 => ?_) (fun hb19 => ?_)
     · replace H := cnt hb19 H
       refine WP.seq ?_
       refine WP.seq ?_
       obtain ⟨x55, H9, H⟩ := bnd H
       refine WP.monoW (Q := fun x E M => x = .normal ∧ E = ((Env.none.upd 0 (.lit (.string x3))).upd 166 (.lit (.bool x55))) ∧ M = Mem.nil) ?_ ?_
       · clear H
         have H := H9
         clear H9
         refine WP.regionD' 37 [0] [] mixed rfl ?_
         refine WPD.tT 0 rfl (q_mv (v := .lit (.string _)) rfl) ?_
         refine WPD.tT 1 rfl (q_len_str Tryz.underlying9 rfl) ?_
         obtain ⟨x56, h51, H⟩ := bnd H
         refine WPD.tT 2 rfl (q_nm (q_lss rfl rfl) (nm_bool h51)) ?_
         refine WPD.tT 3 rfl (q_mv (v := .lit (.bool _)) rfl) ?_
         refine WPD.split (t := 133) (b := x56) rfl (fun hb20 => ?_) (fun hb20 => ?_)
         · replace H := cnt hb20 H
           refine WPD.ps true 4 rfl rfl (lb hb20) ?_
           refine WPD.ps true 5 rfl rfl (lb hb20) ?_
           refine WPD.ps true 6 rfl rfl (lb hb20) ?_
           refine WPD.ps true 7 rfl rfl (lb hb20) ?_
           refine WPD.ps true 8 rfl rfl (lb hb20) ?_
           refine WPD.tT 9 rfl (q_pickT (v := .lit (.bool _)) (lb hb20) rfl) ?_
           refine WPD.tT 10 rfl (q_mv (v := .lit (.bool _)) rfl) ?_
           refine WPD.ps true 11 rfl rfl rfl ?_
           refine WPD.ps true 12 rfl rfl rfl ?_
           refine WPD.ps true 13 rfl rfl rfl ?_
           refine WPD.ps true 14 rfl rfl rfl ?_
           refine WPD.ps true 15 rfl rfl rfl ?_
           refine WPD.tT 16 rfl (q_pickT (v := .lit (.bool _)) rfl rfl) ?_
           refine WPD.tT 17 rfl (q_mv (v := .lit (.bool _)) rfl) ?_
           refine WPD.ps true 18 rfl rfl rfl ?_
           refine WPD.ps true 19 rfl rfl rfl ?_
           refine WPD.ps true 20 rfl rfl rfl ?_
           refine WPD.tT 21 rfl (q_pickT (v := .lit (.bool _)) rfl rfl) ?_
           refine WPD.tT 22 rfl (q_mv (v := .lit (.bool _)) rfl) ?_
           refine WPD.ps true 23 rfl rfl rfl ?_
           refine WPD.ps true 24 rfl rfl rfl ?_
           refine WPD.ps true 25 rfl rfl rfl ?_
           refine WPD.tT 26 rfl (q_pickT (v := .lit (.bool _)) rfl rfl) ?_
           refine WPD.tT 27 rfl (q_mv (v := .lit (.bool _)) rfl) ?_
           refine WPD.ps true 28 rfl rfl rfl ?_
           refine WPD.ps true 29 rfl rfl rfl ?_
           refine WPD.ps true 30 rfl rfl rfl ?_
           refine WPD.tT 31 rfl (q_pickT (v := .lit (.bool _)) rfl rfl) ?_
           refine WPD.tT 32 rfl (q_mv (v := .lit (.bool _)) rfl) ?_
           refine WPD.ps true 33 rfl rfl rfl ?_
           refine WPD.ps true 34 rfl rfl rfl ?_
           refine WPD.ps true 35 rfl rfl rfl ?_
           refine WPD.tT 36 rfl (q_pickT (v := .lit (.bool _)) rfl rfl) ?_
           refine WPD.doneW (by kernel_rfl) ?_
           have q0 := j1 H
           subst q0
           exact W.wk [] hnp r3 ⟨rfl, trivial, by decide, rfl, trivial⟩ (LeE.u (LeE.u (LeE.none rfl rfl))) rfl
         replace H := cnf hb20 H
         refine WPD.takegT 4 rfl (by kernel_rfl) rfl rfl (lb hb20) (q_mv (v := .lit (.string _)) rfl) rfl ?_
         obtain ⟨x57, h52, H⟩ := bnd H
         refine WPD.takegT 5 rfl (by kernel_rfl) rfl rfl (lb hb20) (q_index_str Tryz.underlying9 rfl rfl h52) rfl ?_
         refine WPD.takegT 6 rfl (by kernel_rfl) rfl rfl (lb hb20) (q_fieldAddr fi135_0 rfl rfl) rfl ?_
         refine WPD.takeg 7 rfl (by kernel_rfl) rfl rfl (lb hb20) (q_load sc5 rfl rfl rfl) rfl rfl ?_
         obtain ⟨x58, h53, H⟩ := bnd H
         refine WPD.takegT 8 rfl (by kernel_rfl) rfl rfl (lb hb20) (q_nm (q_lss rfl rfl) (nm_bool h53)) rfl ?_
         refine WPD.tT 9 rfl (q_pickF (v := .lit (.bool _)) (lb hb20) rfl) ?_
         refine WPD.tT 10 rfl (q_mv (v := .lit (.bool _)) rfl) ?_
         refine WPD.split (t := 140) (b := x58) rfl (fun hb21 => ?_) (fun hb21 => ?_)
         · replace H := cnt hb21 H
           refine WPD.ps true 11 rfl rfl (lb hb21) ?_
           refine WPD.ps true 12 rfl rfl (lb hb21) ?_
           refine WPD.ps true 13 rfl rfl (lb hb21) ?_
           refine WPD.ps true 14 rfl rfl (lb hb21) ?_
           refine WPD.ps true 15 rfl rfl (lb hb21) ?_
           refine WPD.tT 16 rfl (q_pickT (v := .lit (.bool _)) (lb hb21) rfl) ?_
           refine WPD.tT 17 rfl (q_mv (v := .lit (.bool _)) rfl) ?_
           refine WPD.ps true 18 rfl rfl rfl ?_
           refine WPD.ps true 19 rfl rfl rfl ?_
           refine WPD.ps true 20 rfl rfl rfl ?_
           refine WPD.tT 21 rfl (q_pickT (v := .lit (.bool _)) rfl rfl) ?_
           refine WPD.tT 22 rfl (q_mv (v := .lit (.bool _)) rfl) ?_
           refine WPD.ps true 23 rfl rfl rfl ?_
           refine WPD.ps true 24 rfl rfl rfl ?_
           refine WPD.ps true 25 rfl rfl rfl ?_
           refine WPD.tT 26 rfl (q_pickT (v := .lit (.bool _)) rfl rfl) ?_
           refine WPD.tT 27 rfl (q_mv (v := .lit (.bool _)) rfl) ?_
           refine WPD.ps true 28 rfl rfl rfl ?_
           refine WPD.ps true 29 rfl rfl rfl ?_
           refine WPD.ps true 30 rfl rfl rfl ?_
           refine WPD.tT 31 rfl (q_pickT (v := .lit (.bool _)) rfl rfl) ?_
           refine WPD.tT 32 rfl (q_mv (v := .lit (.bool _)) rfl) ?_
           refine WPD.ps true 33 rfl rfl rfl ?_
           refine WPD.ps true 34 rfl rfl rfl ?_
           refine WPD.ps true 35 rfl rfl rfl ?_
           refine WPD.tT 36 rfl (q_pickT (v := .lit (.bool _)) rfl rfl) ?_
           refine WPD.doneW (by kernel_rfl) ?_
           have q0 := j1 H
           subst q0
           exact W.wk [] hnp r3 ⟨rfl, trivial, by decide, rfl, trivial⟩ (LeE.u (LeE.u (LeE.none rfl rfl))) rfl
         replace H := cnf hb21 H
         refine WPD.takegT 11 rfl (by kernel_rfl) rfl rfl (lb hb21) (q_fieldAddr fi135_1 rfl rfl) rfl ?_
         refine WPD.takegT 13 rfl (by kernel_rfl) rfl rfl (lb hb21) (q_mv (v := .lit (.string _)) rfl) rfl ?_
         obtain ⟨x59, h54, H⟩ := bnd H
         refine WPD.takegT 14 rfl (by kernel_rfl) rfl rfl (lb hb21) (q_index_str Tryz.underlying9 rfl rfl h54) rfl ?_
         refine WPD.takeg 12 rfl (by kernel_rfl) rfl rfl (lb hb21) (q_load sc5 rfl rfl rfl) rfl rfl ?_
         obtain ⟨x60, h55, H⟩ := bnd H
         refine WPD.takegT 15 rfl (by kernel_rfl) rfl rfl (lb hb21) (q_nm (q_lss rfl rfl) (nm_bool h55)) rfl ?_
         refine WPD.tT 16 rfl (q_pickF (v := .lit (.bool _)) (lb hb21) rfl) ?_
         refine WPD.tT 17 rfl (q_mv (v := .lit (.bool _)) rfl) ?_
         refine WPD.split (t := 147) (b := x60) rfl (fun hb22 => ?_) (fun hb22 => ?_)
         · replace H := cnt hb22 H
           refine WPD.ps true 18 rfl rfl (lb hb22) ?_
           refine WPD.ps true 19 rfl rfl (lb hb22) ?_
           refine WPD.ps true 20 rfl rfl (lb hb22) ?_
           refine WPD.tT 21 rfl (q_pickT (v := .lit (.bool _)) (lb hb22) rfl) ?_
           refine WPD.tT 22 rfl (q_mv (v := .lit (.bool _)) rfl) ?_
           refine WPD.ps true 23 rfl rfl rfl ?_
           refine WPD.ps true 24 rfl rfl rfl ?_
           refine WPD.ps true 25 rfl rfl rfl ?_
           refine WPD.tT 26 rfl (q_pickT (v := .lit (.bool _)) rfl rfl) ?_
           refine WPD.tT 27 rfl (q_mv (v := .lit (.bool _)) rfl) ?_
           refine WPD.ps true 28 rfl rfl rfl ?_
           refine WPD.ps true 29 rfl rfl rfl ?_
           refine WPD.ps true 30 rfl rfl rfl ?_
           refine WPD.tT 31 rfl (q_pickT (v := .lit (.bool _)) rfl rfl) ?_
           refine WPD.tT 32 rfl (q_mv (v := .lit (.bool _)) rfl) ?_
           refine WPD.ps true 33 rfl rfl rfl ?_
           refine WPD.ps true 34 rfl rfl rfl ?_
           refine WPD.ps true 35 rfl rfl rfl ?_
           refine WPD.tT 36 rfl (q_pickT (v := .lit (.bool _)) rfl rfl) ?_
           refine WPD.doneW (by kernel_rfl) ?_
           have q0 := j1 H
           subst q0
           exact W.wk [] hnp r3 ⟨rfl, trivial, by decide, rfl, trivial⟩ (LeE.u (LeE.u (LeE.none rfl rfl))) rfl
         replace H := cnf hb22 H
         refine WPD.takegT 18 rfl (by kernel_rfl) rfl rfl (lb hb22) (q_mv (v := .lit (.string _)) rfl) rfl ?_
         obtain ⟨x61, h56, H⟩ := bnd H
         refine WPD.takegT 19 rfl (by kernel_rfl) rfl rfl (lb hb22) (q_index_str Tryz.underlying9 rfl rfl h56) rfl ?_
         refine WPD.takegT 20 rfl (by kernel_rfl) rfl rfl (lb hb22) (q_lss rfl rfl) rfl ?_
         refine WPD.tT 21 rfl (q_pickF (v := .lit (.bool _)) (lb hb22) rfl) ?_
         refine WPD.tT 22 rfl (q_mv (v := .lit (.bool _)) rfl) ?_
         refine WPD.split (t := 152) (b := (decide (x61 < 128))) rfl (fun hb23 => ?_) (fun hb23 => ?_)
         · replace H := cnt hb23 H
           refine WPD.ps true 23 rfl rfl (lb hb23) ?_
           refine WPD.ps true 24 rfl rfl (lb hb23) ?_
           refine WPD.ps true 25 rfl rfl (lb hb23) ?_
           refine WPD.tT 26 rfl (q_pickT (v := .lit (.bool _)) (lb hb23) rfl) ?_
           refine WPD.tT 27 rfl (q_mv (v := .lit (.bool _)) rfl) ?_
           refine WPD.ps true 28 rfl rfl rfl ?_
           refine WPD.ps true 29 rfl rfl rfl ?_
           refine WPD.ps true 30 rfl rfl rfl ?_
           refine WPD.tT 31 rfl (q_pickT (v := .lit (.bool _)) rfl rfl) ?_
           refine WPD.tT 32 rfl (q_mv (v := .lit (.bool _)) rfl) ?_
           refine WPD.ps true 33 rfl rfl rfl ?_
           refine WPD.ps true 34 rfl rfl rfl ?_
           refine WPD.ps true 35 rfl rfl rfl ?_
           refine WPD.tT 36 rfl (q_pickT (v := .lit (.bool _)) rfl rfl) ?_
           refine WPD.doneW (by kernel_rfl) ?_
           have q0 := j1 H
           subst q0
           exact W.wk [] hnp r3 ⟨rfl, trivial, by decide, rfl, trivial⟩ (LeE.u (LeE.u (LeE.none rfl rfl))) rfl
         replace H := cnf hb23 H
         refine WPD.takegT 23 rfl (by kernel_rfl) rfl rfl (lb hb23) (q_mv (v := .lit (.string _)) rfl) rfl ?_
         obtain ⟨x62, h57, H⟩ := bnd H
         refine WPD.takegT 24 rfl (by kernel_rfl) rfl rfl (lb hb23) (q_index_str Tryz.underlying9 rfl rfl h57) rfl ?_
         refine WPD.takegT 25 rfl (by kernel_rfl) rfl rfl (lb hb23) (q_lss rfl rfl) rfl ?_
         refine WPD.tT 26 rfl (q_pickF (v := .lit (.bool _)) (lb hb23) rfl) ?_
         refine WPD.tT 27 rfl (q_mv (v := .lit (.bool _)) rfl) ?_
         refine WPD.split (t := 157) (b := (decide (191 < x62))) rfl (fun hb24 => ?_) (fun hb24 => ?_)
         · replace H := cnt hb24 H
           refine WPD.ps true 28 rfl rfl (lb hb24) ?_
           refine WPD.ps true 29 rfl rfl (lb hb24) ?_
           refine WPD.ps true 30 rfl rfl (lb hb24) ?_
           refine WPD.tT 31 rfl (q_pickT (v := .lit (.bool _)) (lb hb24) rfl) ?_
           refine WPD.tT 32 rfl (q_mv (v := .lit (.bool _)) rfl) ?_
           refine WPD.ps true 33 rfl rfl rfl ?_
           refine WPD.ps true 34 rfl rfl rfl ?_
           refine WPD.ps true 35 rfl rfl rfl ?_
           refine WPD.tT 36 rfl (q_pickT (v := .lit (.bool _)) rfl rfl) ?_
           refine WPD.doneW (by kernel_rfl) ?_
           have q0 := j1 H
           subst q0
           exact W.wk [] hnp r3 ⟨rfl, trivial, by decide, rfl, trivial⟩ (LeE.u (LeE.u (LeE.none rfl rfl))) rfl
         replace H := cnf hb24 H
         refine WPD.takegT 28 rfl (by kernel_rfl) rfl rfl (lb hb24) (q_mv (v := .lit (.string _)) rfl) rfl ?_
         obtain ⟨x63, h58, H⟩ := bnd H
         refine WPD.takegT 29 rfl (by kernel_rfl) rfl rfl (lb hb24) (q_index_str Tryz.underlying9 rfl rfl h58) rfl ?_
         refine WPD.takegT 30 rfl (by kernel_rfl) rfl rfl (lb hb24) (q_lss rfl rfl) rfl ?_
         refine WPD.tT 31 rfl (q_pickF (v := .lit (.bool _)) (lb hb24) rfl) ?_
         refine WPD.tT 32 rfl (q_mv (v := .lit (.bool _)) rfl) ?_
         refine WPD.split (t := 162) (b := (decide (x63 < 128))) rfl (fun hb25 => ?_) (fun hb25 => ?_)
         · replace H := cnt hb25 H
           refine WPD.ps true 33 rfl rfl (lb hb25) ?_
           refine WPD.ps true 34 rfl rfl (lb hb25) ?_
           refine WPD.ps true 35 rfl rfl (lb hb25) ?_
           refine WPD.tT 36 rfl (q_pickT (v := .lit (.bool _)) (lb hb25) rfl) ?_
           refine WPD.doneW (by kernel_rfl) ?_
           have q0 := j1 H
           subst q0
           exact W.wk [] hnp r3 ⟨rfl, trivial, by decide, rfl, trivial⟩ (LeE.u (LeE.u (LeE.none rfl rfl))) rfl
         replace H := cnf hb25 H
         refine WPD.takegT 33 rfl (by kernel_rfl) rfl rfl (lb hb25) (q_mv (v := .lit (.string _)) rfl) rfl ?_
         obtain ⟨x64, h59, H⟩ := bnd H
         refine WPD.takegT 34 rfl (by kernel_rfl) rfl rfl (lb hb25) (q_index_str Tryz.underlying9 rfl rfl h59) rfl ?_
         refine WPD.takegT 35 rfl (by kernel_rfl) rfl rfl (lb hb25) (q_lss rfl rfl) rfl ?_
         refine WPD.tT 36 rfl (q_pickF (v := .lit (.bool _)) (lb hb25) rfl) ?_
         refine WPD.doneW (by kernel_rfl) ?_
         have q0 := j1 H
         subst q0
         exact W.wk [] hnp r3 ⟨rfl, trivial, by decide, rfl, trivial⟩ (LeE.u (LeE.u (LeE.none rfl rfl))) rfl
       rintro _ _ _ ⟨rfl, rfl, rfl⟩
       refine W.now ?_
       refine Then.n ?_
       refine WP.cond (t := x55) rfl (fun hb26 => ?_) (fun hb26 => ?_)
       · replace H := cnt hb26 H
         refine WP.sr ?_
         refine WPL.qq (q_as (v := .lit (.bool _)) rfl) ?_
         refine WPL.nx ?_
         refine WP.retW ?_
         have q0 := j1 H
         subst q0
         exact W.wk [] hnp (Then.r (InBlock.r (InBlock.r (Then.r r3)))) ⟨rfl, trivial, by decide, rfl, trivial⟩ (LeE.u (LeE.none rfl rfl)) rfl
       replace H := cnf hb26 H
       refine WP.skipW ?_
       refine W.now ?_
       refine Then.n ?_
       refine WP.region ?_
       refine WPL.qq (q_mv (v := .lit (.string _)) rfl) ?_
       obtain ⟨h60, H⟩ := grd H
       obtain ⟨x65, h61, H⟩ := bnd H
       refine WPL.qq (q_nm (q_slice_str (i := 4) (j := ((ByteArray.size x3 : Nat) : Int)) Tryz.underlying9 rfl ⟨_, rfl⟩ rfl h60) (nm_str h61)) ?_
       refine WPL.qq (q_as (v := .lit (.string _)) rfl) ?_
       refine WPL.nilW ?_
       exact W.wk [] hnp (InBlock.n (InBlock.n (Then.n ⟨n, x65, Nat.lt_succ_self n, H, rfl, rfl⟩))) ⟨rfl, trivial, by decide, rfl, trivial⟩ (LeE.u (LeE.none rfl rfl)) rfl
     replace H := cnf hb19 H
     refine WP.sr ?_
     refine WPL.qq (q_as (v := .lit (.bool _)) rfl) ?_
     refine WPL.nx ?_
     refine WP.retW ?_
     have q0 := j1 H
     subst q0
     exact W.wk [] hnp (InBlock.r (InBlock.r (Then.r r3))) ⟨rfl, trivial, by decide, rfl, trivial⟩ (LeE.u (LeE.none rfl rfl)) rfl
   replace H := cnf hb1 H
   refine WP.exitW ?_
   have q0 := j1 H
   subst q0
   exact W.wk [] hnp (Then.x (Then.x r3)) ⟨rfl, trivial, by decide, rfl, trivial⟩ (LeE.none rfl rfl) rfl
 rcases y1 with _ | _
 · rintro _ _ _ ⟨rfl, rfl, rfl⟩
   have q0 := j1 H
   subst q0
   exact W.now (InBlock.r (Then.r (BodyR.mkR trivial rfl [] ⟨rfl, rfl⟩ ⟨rfl, trivial, by decide, rfl, trivial⟩ rfl rfl)))
 rintro _ _ _ ⟨rfl, rfl, rfl⟩
 refine W.now ?_
 refine InBlock.x0 ?_
 refine Then.n ?_
 refine WP.sr ?_
 refine WPL.qq (q_as (v := .lit (.bool _)) rfl) ?_
 refine WPL.nx ?_
 refine WP.retW ?_
 have q0 := j1 H
 subst q0
 exact W.now (BodyR.mkR trivial rfl [] ⟨rfl, rfl⟩ ⟨rfl, trivial, by decide, rfl, trivial⟩ rfl rfl)
end Go.Proofs.YthpcgknknpjpdaaGreatDoor.W
namespace Go.Proofs.YthpcgknknpjpdaaGreatDoor.W
open Go Go.Q Go.Proofs
set_option linter.unusedVariables false
set_option linter.unusedSimpArgs false
set_option maxRecDepth 100000
set_option maxHeartbeats 4000000
theorem s_utf_Xml (k : Nat) (x1 : ByteArray) (x2 : Int) (H : g_utf_Xml k x1 = some x2) : Go.Q.Spec Tryz.prog 47 0 [.lit (.string x1)] Mem.nil (fun o M => o = .ret (.lit (.int .i64 x2)) ∧ M = Mem.nil) := by
 unfold g_utf_Xml at H
 refine Go.Q.Spec.of_bodyR (az := []) (rs := [.tmp 2]) (nt := 27) Tryz.func47 rfl rfl (by intro t T h; simp at h) rfl rfl fun cx hnp => ?_
 refine WP.sr ?_
 refine WPL.qq (q_as (v := .lit (.int _ _)) rfl) ?_
 refine WPL.nx ?_
 refine WP.seq ?_
 refine WP.sr ?_
 refine WPL.qq (q_mv (v := .lit (.string _)) rfl) ?_
 obtain ⟨x3, h1, H⟩ := bnd H
 refine WPL.c (runs_call (s := []) (t := []) (N := 0) (bor := []) fn86 rfl (s_u8_ValidString k x1 x3 h1) ⟨rfl, trivial, by decide, rfl, trivial⟩ rfl trivial (.ren rfl rfl .nil) rfl trivial rfl) rfl ?_
 refine WPL.qq (q_not rfl) ?_
 refine WPL.nx ?_
 refine WP.cond (t := (!x3)) rfl (fun hb1 => ?_) (fun hb1 => ?_)
 · replace H := cnt hb1 H
   refine WP.sr ?_
   refine WPL.qq (q_as (v := .lit (.int _ _)) rfl) ?_
   refine WPL.nx ?_
   refine WP.retW ?_
   have q0 := j1 H
   subst q0
   exact W.now (Then.r (BodyR.mkR trivial rfl [] ⟨rfl, rfl⟩ ⟨rfl, trivial, by decide, rfl, trivial⟩ rfl rfl))
 replace H := cnf hb1 H
 refine WP.skipW ?_
 refine W.now ?_
 refine Then.n ?_
 refine WP.seq ?_
 refine WP.sr ?_
 refine WPL.qq (q_mv (v := .lit (.string _)) rfl) ?_
 refine WPL.d (d_range Tryz.underlying9 rfl rfl) rfl ?_
 refine WPL.nx ?_
 refine WP.block ?_
 refine WP.cv (Cv.weak (E' := (Env.none.upd 9 (.ptr 0 0))) (M' := (Mem.nil.push (.obj (.stringIter x1 0)))) [0] hnp ⟨rfl, AA1, by decide, rfl, trivial⟩ (LeE.u (LeE.none rfl rfl))) ?_
 obtain ⟨y1, H1, H⟩ := bnd H
 refine WP.monoW (Q := fun x E M => match (generalizing := false) y1 with | (Sum.inl _) => x = .ret ∧ E = (Env.none.upd 2 (.lit (.int .i64 20))) ∧ M = Mem.nil | (Sum.inr _) => x = .exit 0 ∧ E = Env.none ∧ M = Mem.nil) ?_ ?_
 · refine WP.loop (β := Nat) (fun n b => g_utf_Xml_l0 k x1 n b = some y1) (fun b => (Env.none.upd 9 (.ptr 0 0))) (fun b => (Mem.nil.push (.obj (.stringIter x1 b)))) k 0 H1 rfl rfl ?_
   rintro n x4 H
   obtain _ | n := n
   · exact nf rfl H
   rw [g_utf_Xml_l0.eq_2] at H
   show WP _ _ _ _ (Env.none.upd 9 (.ptr 0 0)) (Mem.nil.push (.obj (.stringIter x1 x4))) _
   refine WP.sr ?_
   refine WPL.splitB (decide (x4 < ByteArray.size x1)) (fun hb2 => ?_) (fun hb2 => ?_)
   · replace H := cnt hb2 H
     refine WPL.d (d_next rfl rfl hb2) rfl ?_
     refine WPL.qq (q_extract rfl rfl) ?_
     refine WPL.nx ?_
     refine WP.seq ?_
     refine WP.condT rfl ?_
     refine WP.skipW ?_
     refine W.now ?_
     refine Then.n ?_
     refine WP.block ?_
     refine WP.sr ?_
     refine WPL.qq (q_extract rfl rfl) ?_
     refine WPL.qq (q_as (v := .lit (.int _ _)) rfl) ?_
     refine WPL.nx ?_
     refine WP.block ?_
     refine WP.seq ?_
     obtain ⟨x5, H2, H⟩ := bnd H
     refine WP.monoW (Q := fun x E M => x = .normal ∧ E = (((Env.none.upd 4 (.lit (.int .i32 (((Utf8.decode x1 x4).1 : Nat) : Int)))).upd 9 (.ptr 0 0)).upd 13 (.lit (.bool x5))) ∧ M = (Mem.nil.push (.obj (.stringIter x1 (x4 + (Utf8.decode x1 x4).2))))) ?_ ?_
     · clear H
       have H := H2
       clear H2
       refine WP.sr ?_
       refine WPL.qq (q_mv (v := .lit (.int _ _)) rfl) ?_
       obtain ⟨x6, h2, H⟩ := bnd H
       refine WPL.qq (q_nm (q_eql rfl rfl) (nm_bool h2)) ?_
       refine WPL.qq (q_as (v := .lit (.bool _)) rfl) ?_
       refine WPL.nx ?_
       refine WP.cond (t := x6) rfl (fun hb3 => ?_) (fun hb3 => ?_)
       · replace H := cnt hb3 H
         refine WP.skipW ?_
         have q0 := j1 H
         subst q0
         exact W.wk [0] hnp r3 ⟨rfl, AA1, by decide, rfl, trivial⟩ (LeE.u (LeE.u (LeE.u (LeE.none rfl rfl)))) rfl
       replace H := cnf hb3 H
       refine WP.sr ?_
       refine WPL.qq (q_mv (v := .lit (.int _ _)) rfl) ?_
       obtain ⟨x7, h3, H⟩ := bnd H
       refine WPL.qq (q_nm (q_eql rfl rfl) (nm_bool h3)) ?_
       refine WPL.qq (q_as (v := .lit (.bool _)) rfl) ?_
       refine WPL.nx ?_
       refine WP.cond (t := x7) rfl (fun hb4 => ?_) (fun hb4 => ?_)
       · replace H := cnt hb4 H
         refine WP.skipW ?_
         have q0 := j1 H
         subst q0
         exact W.wk [0] hnp r3 ⟨rfl, AA1, by decide, rfl, trivial⟩ (LeE.u (LeE.u (LeE.u (LeE.none rfl rfl)))) rfl
       replace H := cnf hb4 H
       refine WP.region ?_
       refine WPL.qq (q_mv (v := .lit (.int _ _)) rfl) ?_
       obtain ⟨x8, h4, H⟩ := bnd H
       refine WPL.qq (q_nm (q_eql rfl rfl) (nm_bool h4)) ?_
       refine WPL.qq (q_as (v := .lit (.bool _)) rfl) ?_
       refine WPL.nilW ?_
       have q0 := j1 H
       subst q0
       exact W.wk [0] hnp r3 ⟨rfl, AA1, by decide, rfl, trivial⟩ (LeE.u (LeE.u (LeE.u (LeE.none rfl rfl)))) rfl
     rintro _ _ _ ⟨rfl, rfl, rfl⟩
     refine W.now ?_
     refine Then.n ?_
     refine WP.cond (t := x5) rfl (fun hb5 => ?_) (fun hb5 => ?_)
     · replace H := cnt hb5 H
       refine WP.skipW ?_
       exact W.wk [0] hnp (InBlock.n (InBlock.n (Then.n ⟨n, (x4 + (Utf8.decode x1 x4).2), Nat.lt_succ_self n, H, rfl, rfl⟩))) ⟨rfl, AA1, by decide, rfl, trivial⟩ (LeE.u (LeE.none rfl rfl)) rfl
     replace H := cnf hb5 H
     refine WP.seq ?_
     obtain ⟨x9, H3, H⟩ := bnd H
     refine WP.monoW (Q := fun x E M => x = .normal ∧ E = ((Env.none.upd 9 (.ptr 0 0)).upd 20 (.lit (.bool x9))) ∧ M = (Mem.nil.push (.obj (.stringIter x1 (x4 + (Utf8.decode x1 x4).2))))) ?_ ?_
     · clear H
       have H := H3
       clear H3
       refine WP.sr ?_
       refine WPL.qq (q_mv (v := .lit (.int _ _)) rfl) ?_
       obtain ⟨x10, h5, H⟩ := bnd H
       refine WPL.qq (q_nm (q_lss rfl rfl) (nm_bool h5)) ?_
       refine WPL.qq (q_as (v := .lit (.bool _)) rfl) ?_
       refine WPL.nx ?_
       refine WP.cond (t := x10) rfl (fun hb6 => ?_) (fun hb6 => ?_)
       · replace H := cnt hb6 H
         refine WP.skipW ?_
         have q0 := j1 H
         subst q0
         exact W.wk [0] hnp r3 ⟨rfl, AA1, by decide, rfl, trivial⟩ (LeE.u (LeE.u (LeE.none rfl rfl))) rfl
       replace H := cnf hb6 H
       refine WP.sr ?_
       refine WPL.qq (q_mv (v := .lit (.int _ _)) rfl) ?_
       obtain ⟨x11, h6, H⟩ := bnd H
       refine WPL.qq (q_nm (q_eql rfl rfl) (nm_bool h6)) ?_
       refine WPL.qq (q_as (v := .lit (.bool _)) rfl) ?_
       refine WPL.nx ?_
       refine WP.cond (t := x11) rfl (fun hb7 => ?_) (fun hb7 => ?_)
       · replace H := cnt hb7 H
         refine WP.skipW ?_
         have q0 := j1 H
         subst q0
         exact W.wk [0] hnp r3 ⟨rfl, AA1, by decide, rfl, trivial⟩ (LeE.u (LeE.u (LeE.none rfl rfl))) rfl
       replace H := cnf hb7 H
       refine WP.region ?_
       refine WPL.qq (q_mv (v := .lit (.int _ _)) rfl) ?_
       obtain ⟨x12, h7, H⟩ := bnd H
       refine WPL.qq (q_nm (q_eql rfl rfl) (nm_bool h7)) ?_
       refine WPL.qq (q_as (v := .lit (.bool _)) rfl) ?_
       refine WPL.nilW ?_
       have q0 := j1 H
       subst q0
       exact W.wk [0] hnp r3 ⟨rfl, AA1, by decide, rfl, trivial⟩ (LeE.u (LeE.u (LeE.none rfl rfl))) rfl
     rintro _ _ _ ⟨rfl, rfl, rfl⟩
     refine W.now ?_
     refine Then.n ?_
     refine WP.cond (t := x9) rfl (fun hb8 => ?_) (fun hb8 => ?_)
     · replace H := cnt hb8 H
       refine WP.sr ?_
       refine WPL.qq (q_as (v := .lit (.int _ _)) rfl) ?_
       refine WPL.nx ?_
       refine WP.retW ?_
       have q0 := j1 H
       subst q0
       exact W.wk [] hnp (InBlock.r (InBlock.r (Then.r r3))) ⟨rfl, trivial, by decide, rfl, trivial⟩ (LeE.u (LeE.none rfl rfl)) rfl
     replace H := cnf hb8 H
     refine WP.skipW ?_
     exact W.wk [0] hnp (InBlock.n (InBlock.n (Then.n ⟨n, (x4 + (Utf8.decode x1 x4).2), Nat.lt_succ_self n, H, rfl, rfl⟩))) ⟨rfl, AA1, by decide, rfl, trivial⟩ (LeE.u (LeE.none rfl rfl)) rfl
   replace H := cnf hb2 H
   refine WPL.qq (q_nextEnd rfl rfl hb2) ?_
   refine WPL.qq (q_extract rfl rfl) ?_
   refine WPL.nx ?_
   refine WP.seq ?_
   refine WP.condF rfl ?_
   refine WP.exitW ?_
   have q0 := j1 H
   subst q0
   exact W.wk [] hnp (Then.x (Then.x r3)) ⟨rfl, trivial, by decide, rfl, trivial⟩ (LeE.none rfl rfl) rfl
 rcases y1 with _ | _
 · rintro _ _ _ ⟨rfl, rfl, rfl⟩
   have q0 := j1 H
   subst q0
   exact W.now (InBlock.r (Then.r (BodyR.mkR trivial rfl [] ⟨rfl, rfl⟩ ⟨rfl, trivial, by decide, rfl, trivial⟩ rfl rfl)))
 rintro _ _ _ ⟨rfl, rfl, rfl⟩
 refine W.now ?_
 refine InBlock.x0 ?_
 refine Then.n ?_
 refine WP.sr ?_
 refine WPL.qq (q_as (v := .lit (.int _ _)) rfl) ?_
 refine WPL.nx ?_
 refine WP.retW ?_
 have q0 := j1 H
 subst q0
 exact W.now (BodyR.mkR trivial rfl [] ⟨rfl, rfl⟩ ⟨rfl, trivial, by decide, rfl, trivial⟩ rfl rfl)
theorem s_val_Str (k : Nat) (x1 : ByteArray) (x2 : Int) (x3 : ByteArray) (x4 : Int) (H : g_val_Str k x1 = some (x2, x3, x4)) : Go.Q.Spec Tryz.prog 14 0 [.lit (.string x1)] Mem.nil (fun o M => o = .ret (.agg [.lit (.int .i64 x2), .lit (.int .i64 0), .lit (.int .i64 0), .lit (.string x3), .lit (.bool false), .lit (.int .i64 x4)]) ∧ M = (Mem.nil.push (.cells 29 [.lit (.int .i64 x2), .lit (.int .i64 0), .lit (.int .i64 0), .lit (.string x3), .lit (.bool false), .lit (.int .i64 x4)]))) := by
 unfold g_val_Str at H
 refine Go.Q.Spec.of_bodyR (az := [(29, 6)]) (rs := [.cell 2 29]) (nt := 14) Tryz.func14 rfl rfl (by intro t T h; simp at h; rcases h with ⟨rfl, rfl⟩ <;> first | exact ag29) rfl rfl fun cx hnp => ?_
 refine WP.sr ?_
 refine WPL.d (d_alloc ze29 rfl) rfl ?_
 refine WPL.nx ?_
 refine WP.seq ?_
 refine WP.seq ?_
 obtain ⟨x5, H1, H⟩ := bnd H
 refine WP.monoW (Q := fun x E M => x = .normal ∧ E = (((Env.none.upd 0 (.lit (.string x1))).upd 2 (.ptr 0 0)).upd 10 (.lit (.bool x5))) ∧ M = (Mem.nil.push (.cells 29 [.lit (.int .i64 0), .lit (.int .i64 0), .lit (.int .i64 0), .lit (.string (ByteArray.mk #[])), .lit (.bool false), .lit (.int .i64 0)]))) ?_ ?_
 · clear H
   have H := H1
   clear H1
   refine WP.region ?_
   refine WPL.qq (q_mv (v := .lit (.string _)) rfl) ?_
   refine WPL.qq (q_len_str Tryz.underlying9 rfl) ?_
   obtain ⟨x6, h1, H⟩ := bnd H
   refine WPL.qq (q_nm (q_gtr rfl rfl) (nm_bool h1)) ?_
   refine WPL.qq (q_mv (v := .lit (.bool _)) rfl) ?_
   refine WPL.split (t := 6) (b := x6) rfl (fun hb1 => ?_) (fun hb1 => ?_)
   · replace H := cnt hb1 H
     refine WPL.sg true rfl (lb hb1) ?_
     refine WPL.sg true rfl (lb hb1) ?_
     refine WPL.sg true rfl (lb hb1) ?_
     refine WPL.qq (q_pickT (v := .lit (.bool _)) (lb hb1) rfl) ?_
     refine WPL.nilW ?_
     have q0 := j1 H
     subst q0
     exact W.wk [0] hnp r3 ⟨rfl, AA1, by decide, rfl, trivial⟩ (LeE.u (LeE.u (LeE.u (LeE.none rfl rfl)))) rfl
   replace H := cnf hb1 H
   refine WPL.gq rfl (lb hb1) (q_mv (v := .lit (.string _)) rfl) ?_
   obtain ⟨x7, h2, H⟩ := bnd H
   refine WPL.cg rfl rfl (lb hb1) (runs_call (s := []) (t := []) (N := 1) (bor := []) fn47 rfl (s_utf_Xml k x1 x7 h2) ⟨rfl, trivial, by decide, rfl, trivial⟩ rfl trivial (.ren rfl rfl .nil) rfl trivial rfl) rfl ?_
   refine WPL.gq rfl (lb hb1) (q_neq rfl rfl) ?_
   refine WPL.qq (q_pickF (v := .lit (.bool _)) (lb hb1) rfl) ?_
   refine WPL.nilW ?_
   have q0 := j1 H
   subst q0
   exact W.wk [0] hnp r3 ⟨rfl, AA1, by decide, rfl, trivial⟩ (LeE.u (LeE.u (LeE.u (LeE.none rfl rfl)))) rfl
 rintro _ _ _ ⟨rfl, rfl, rfl⟩
 refine W.now ?_
 refine Then.n ?_
 refine WP.cond (t := x5) rfl (fun hb2 => ?_) (fun hb2 => ?_)
 · replace H := cnt hb2 H
   refine WP.sr ?_
   obtain ⟨x8, h3, H⟩ := bnd H
   refine WPL.c (runs_call (s := []) (t := [1]) (N := 2) (bor := []) fn16 rfl (s_val_Err k 2 x8 h3) ⟨rfl, trivial, by decide, rfl, trivial⟩ rfl trivial (.ren rfl rfl .nil) rfl BB1 rfl) rfl ?_
   refine WPL.s (s_store sz29 rfl rfl rfl rfl rfl) ?_
   refine WPL.nx ?_
   refine WP.retW ?_
   obtain ⟨rfl, rfl, rfl⟩ := j3 H
   exact W.now (Then.r (BodyR.mkR trivial rfl [0] ⟨rfl, rfl⟩ ⟨rfl, AA1, by decide, rfl, trivial⟩ rfl rfl))
 replace H := cnf hb2 H
 refine WP.skipW ?_
 refine W.now ?_
 refine Then.n ?_
 refine WP.sr ?_
 refine WPL.qq (q_mv (v := .lit (.string _)) rfl) ?_
 refine WPL.qq (q_build bu29 rfl) ?_
 refine WPL.s (s_store sz29 rfl rfl rfl rfl rfl) ?_
 refine WPL.nx ?_
 refine WP.retW ?_
 obtain ⟨rfl, rfl, rfl⟩ := j3 H
 exact W.now (BodyR.mkR trivial rfl [0] ⟨rfl, rfl⟩ ⟨rfl, AA1, by decide, rfl, trivial⟩ rfl rfl)
end Go.Proofs.YthpcgknknpjpdaaGreatDoor.W
namespace Go.Proofs.YthpcgknknpjpdaaGreatDoor.W
open Go Go.Q Go.Proofs
set_option linter.unusedVariables false
set_option linter.unusedSimpArgs false
set_option maxRecDepth 100000
set_option maxHeartbeats 4000000
theorem s_sl_HasPrefix (k : Nat) (x1 : ByteArray) (x2 : ByteArray) (x3 : Bool) (H : g_sl_HasPrefix k x1 x2 = some x3) : Go.Q.Spec Tryz.prog 140 0 [.lit (.string x1), .lit (.string x2)] Mem.nil (fun o M => o = .ret (.lit (.bool x3)) ∧ M = Mem.nil) := by
 unfold g_sl_HasPrefix at H
 refine Go.Q.Spec.of_bodyR (az := []) (rs := [.tmp 4]) (nt := 18) Tryz.func140 rfl rfl (by intro t T h; simp at h) rfl rfl fun cx hnp => ?_
 refine WP.sr ?_
 refine WPL.qq (q_as (v := .lit (.bool _)) rfl) ?_
 refine WPL.nx ?_
 refine WP.seq ?_
 obtain ⟨x4, H1, H⟩ := bnd H
 refine WP.monoW (Q := fun x E M => x = .normal ∧ E = (Env.none.upd 4 (.lit (.bool x4))) ∧ M = Mem.nil) ?_ ?_
 · clear H
   have H := H1
   clear H1
   refine WP.region ?_
   refine WPL.qq (q_mv (v := .lit (.string _)) rfl) ?_
   refine WPL.qq (q_len_str Tryz.underlying9 rfl) ?_
   refine WPL.qq (q_mv (v := .lit (.string _)) rfl) ?_
   refine WPL.qq (q_len_str Tryz.underlying9 rfl) ?_
   obtain ⟨x5, h1, H⟩ := bnd H
   refine WPL.qq (q_nm (q_geq rfl rfl) (nm_bool h1)) ?_
   refine WPL.qq (q_mv (v := .lit (.bool _)) rfl) ?_
   refine WPL.split (t := 10) (b := x5) rfl (fun hb1 => ?_) (fun hb1 => ?_)
   · replace H := cnt hb1 H
     refine WPL.gq rfl (lb hb1) (q_mv (v := .lit (.string _)) rfl) ?_
     refine WPL.gq rfl (lb hb1) (q_mv (v := .lit (.string _)) rfl) ?_
     refine WPL.gq rfl (lb hb1) (q_len_str Tryz.underlying9 rfl) ?_
     obtain ⟨h2, H⟩ := grd H
     obtain ⟨x6, h3, H⟩ := bnd H
     refine WPL.gq rfl (lb hb1) (q_nm (q_slice_str (i := 0) (j := ((ByteArray.size x2 : Nat) : Int)) Tryz.underlying9 rfl rfl ⟨_, rfl⟩ h2) (nm_str h3)) ?_
     refine WPL.gq rfl (lb hb1) (q_mv (v := .lit (.string _)) rfl) ?_
     refine WPL.gq rfl (lb hb1) (q_eqls rfl rfl) ?_
     refine WPL.qq (q_pickT (v := .lit (.bool _)) (lb hb1) rfl) ?_
     refine WPL.qq (q_as (v := .lit (.bool _)) rfl) ?_
     refine WPL.nilW ?_
     have q0 := j1 H
     subst q0
     exact W.wk [] hnp r3 ⟨rfl, trivial, by decide, rfl, trivial⟩ (LeE.u (LeE.none rfl rfl)) rfl
   replace H := cnf hb1 H
   refine WPL.sg false rfl (lb hb1) ?_
   refine WPL.sg false rfl (lb hb1) ?_
   refine WPL.sg false rfl (lb hb1) ?_
   refine WPL.sg false rfl (lb hb1) ?_
   refine WPL.sg false rfl (lb hb1) ?_
   refine WPL.sg false rfl (lb hb1) ?_
   refine WPL.qq (q_pickF (v := .lit (.bool _)) (lb hb1) rfl) ?_
   refine WPL.qq (q_as (v := .lit (.bool _)) rfl) ?_
   refine WPL.nilW ?_
   have q0 := j1 H
   subst q0
   exact W.wk [] hnp r3 ⟨rfl, trivial, by decide, rfl, trivial⟩ (LeE.u (LeE.none rfl rfl)) rfl
 rintro _ _ _ ⟨rfl, rfl, rfl⟩
 refine W.now ?_
 refine Then.n ?_
 refine WP.retW ?_
 have q0 := j1 H
 subst q0
 exact W.now (BodyR.mkR trivial rfl [] ⟨rfl, rfl⟩ ⟨rfl, trivial, by decide, rfl, trivial⟩ rfl rfl)
theorem s_sl_CutPrefix (k : Nat) (x1 : ByteArray) (x2 : ByteArray) (x3 : ByteArray) (x4 : Bool) (H : g_sl_CutPrefix k x1 x2 = some (x3, x4)) : Go.Q.Spec Tryz.prog 161 0 [.lit (.string x1), .lit (.string x2)] Mem.nil (fun o M => o = .ret (.tup [.lit (.string x3), .lit (.bool x4)]) ∧ M = Mem.nil) := by
 unfold g_sl_CutPrefix at H
 refine Go.Q.Spec.of_bodyR (az := []) (rs := [.tmp 4, .tmp 5]) (nt := 15) Tryz.func161 rfl rfl (by intro t T h; simp at h) rfl rfl fun cx hnp => ?_
 refine WP.sr ?_
 refine WPL.qq (q_as (v := .lit (.string _)) rfl) ?_
 refine WPL.qq (q_as (v := .lit (.bool _)) rfl) ?_
 refine WPL.nx ?_
 refine WP.seq ?_
 refine WP.sr ?_
 refine WPL.qq (q_mv (v := .lit (.string _)) rfl) ?_
 refine WPL.qq (q_mv (v := .lit (.string _)) rfl) ?_
 obtain ⟨x5, h1, H⟩ := bnd H
 refine WPL.c (runs_call (s := []) (t := []) (N := 0) (bor := []) fn140 rfl (s_sl_HasPrefix k x1 x2 x5 h1) ⟨rfl, trivial, by decide, rfl, trivial⟩ rfl trivial (.ren rfl rfl (.ren rfl rfl .nil)) rfl trivial rfl) rfl ?_
 refine WPL.qq (q_not rfl) ?_
 refine WPL.nx ?_
 refine WP.cond (t := (!x5)) rfl (fun hb1 => ?_) (fun hb1 => ?_)
 · replace H := cnt hb1 H
   refine WP.sr ?_
   refine WPL.qq (q_mv (v := .lit (.string _)) rfl) ?_
   refine WPL.qq (q_as (v := .lit (.string _)) rfl) ?_
   refine WPL.qq (q_as (v := .lit (.bool _)) rfl) ?_
   refine WPL.nx ?_
   refine WP.retW ?_
   obtain ⟨rfl, rfl⟩ := j2 H
   exact W.now (Then.r (BodyR.mkR trivial rfl [] ⟨rfl, rfl⟩ ⟨rfl, trivial, by decide, rfl, trivial⟩ rfl rfl))
 replace H := cnf hb1 H
 refine WP.skipW ?_
 refine W.now ?_
 refine Then.n ?_
 refine WP.sr ?_
 refine WPL.qq (q_mv (v := .lit (.string _)) rfl) ?_
 refine WPL.qq (q_mv (v := .lit (.string _)) rfl) ?_
 refine WPL.qq (q_len_str Tryz.underlying9 rfl) ?_
 obtain ⟨h2, H⟩ := grd H
 obtain ⟨x6, h3, H⟩ := bnd H
 refine WPL.qq (q_nm (q_slice_str (i := ((ByteArray.size x2 : Nat) : Int)) (j := ((ByteArray.size x1 : Nat) : Int)) Tryz.underlying9 rfl ⟨_, rfl⟩ rfl h2) (nm_str h3)) ?_
 refine WPL.qq (q_as (v := .lit (.string _)) rfl) ?_
 refine WPL.qq (q_as (v := .lit (.bool _)) rfl) ?_
 refine WPL.nx ?_
 refine WP.retW ?_
 obtain ⟨rfl, rfl⟩ := j2 H
 exact W.now (BodyR.mkR trivial rfl [] ⟨rfl, rfl⟩ ⟨rfl, trivial, by decide, rfl, trivial⟩ rfl rfl)
theorem s_st_CutPrefix (k : Nat) (x1 : ByteArray) (x2 : ByteArray) (x3 : ByteArray) (x4 : Bool) (H : g_st_CutPrefix k x1 x2 = some (x3, x4)) : Go.Q.Spec Tryz.prog 137 0 [.lit (.string x1), .lit (.string x2)] Mem.nil (fun o M => o = .ret (.tup [.lit (.string x3), .lit (.bool x4)]) ∧ M = Mem.nil) := by
 unfold g_st_CutPrefix at H
 refine Go.Q.Spec.of_bodyR (az := []) (rs := [.tmp 4, .tmp 5]) (nt := 11) Tryz.func137 rfl rfl (by intro t T h; simp at h) rfl rfl fun cx hnp => ?_
 refine WP.sr ?_
 refine WPL.qq (q_as (v := .lit (.string _)) rfl) ?_
 refine WPL.qq (q_as (v := .lit (.bool _)) rfl) ?_
 refine WPL.nx ?_
 refine WP.sr ?_
 refine WPL.qq (q_mv (v := .lit (.string _)) rfl) ?_
 refine WPL.qq (q_mv (v := .lit (.string _)) rfl) ?_
 obtain ⟨⟨x5, x6⟩, h1, H⟩ := bnd H
 refine WPL.c (runs_call (s := []) (t := []) (N := 0) (bor := []) fn161 rfl (s_sl_CutPrefix k x1 x2 x5 x6 h1) ⟨rfl, trivial, by decide, rfl, trivial⟩ rfl trivial (.ren rfl rfl (.ren rfl rfl .nil)) rfl trivial rfl) rfl ?_
 refine WPL.qq (q_extract rfl rfl) ?_
 refine WPL.qq (q_extract rfl rfl) ?_
 refine WPL.qq (q_as (v := .lit (.string _)) rfl) ?_
 refine WPL.qq (q_as (v := .lit (.bool _)) rfl) ?_
 refine WPL.nx ?_
 refine WP.retW ?_
 obtain ⟨rfl, rfl⟩ := j2 H
 exact W.now (BodyR.mkR trivial rfl [] ⟨rfl, rfl⟩ ⟨rfl, trivial, by decide, rfl, trivial⟩ rfl rfl)
theorem s_dec_parser_take (k : Nat) (x1 : ByteArray) (x2 : ByteArray) (x3 : Bool) (x4 : ByteArray) (H : g_dec_parser_take k x1 x2 = some (x3, x4)) : Go.Q.Spec Tryz.prog 88 1 [.ptr 0 0, .lit (.string x1)] (Mem.nil.push (.cells 84 [.lit (.string x2)])) (fun o M => o = .ret (.lit (.bool x3)) ∧ M = (Mem.nil.push (.cells 84 [.lit (.string x4)]))) := by
 unfold g_dec_parser_take at H
 refine Go.Q.Spec.of_bodyR (az := []) (rs := [.tmp 4]) (nt := 21) Tryz.func88 rfl rfl (by intro t T h; simp at h) rfl rfl fun cx hnp => ?_
 refine WP.sr ?_
 refine WPL.qq (q_as (v := .lit (.bool _)) rfl) ?_
 refine WPL.nx ?_
 refine WP.sr ?_
 refine WPL.qq (q_mv (v := .ptr _ _) rfl) ?_
 refine WPL.qq (q_nilCheck rfl) ?_
 refine WPL.qq (q_fieldAddr fi84_0 rfl rfl) ?_
 refine WPL.qq (q_load sc9 rfl rfl rfl) ?_
 refine WPL.qq (q_mv (v := .lit (.string _)) rfl) ?_
 obtain ⟨⟨x5, x6⟩, h1, H⟩ := bnd H
 refine WPL.c (runs_call (s := []) (t := []) (N := 1) (bor := []) fn137 rfl (s_st_CutPrefix k x2 x1 x5 x6 h1) ⟨rfl, trivial, by decide, rfl, trivial⟩ rfl trivial (.ren rfl rfl (.ren rfl rfl .nil)) rfl trivial rfl) rfl ?_
 refine WPL.qq (q_mv (v := .tup _) rfl) ?_
 refine WPL.qq (q_extract rfl rfl) ?_
 refine WPL.qq (q_extract rfl rfl) ?_
 refine WPL.qq (q_as (v := .lit (.string _)) rfl) ?_
 refine WPL.qq (q_as (v := .lit (.bool _)) rfl) ?_
 refine WPL.nx ?_
 refine WP.sr ?_
 refine WPL.qq (q_mv (v := .ptr _ _) rfl) ?_
 refine WPL.qq (q_mv (v := .lit (.string _)) rfl) ?_
 refine WPL.qq (q_nilCheck rfl) ?_
 refine WPL.qq (q_fieldAddr fi84_0 rfl rfl) ?_
 refine WPL.s (s_store sz9 rfl rfl rfl rfl rfl) ?_
 refine WPL.nx ?_
 refine WP.sr ?_
 refine WPL.qq (q_mv (v := .lit (.bool _)) rfl) ?_
 refine WPL.qq (q_as (v := .lit (.bool _)) rfl) ?_
 refine WPL.nx ?_
 refine WP.retW ?_
 obtain ⟨rfl, rfl⟩ := j2 H
 exact W.now (BodyR.mkR trivial rfl [0] ⟨rfl, rfl⟩ ⟨rfl, AA1, by decide, rfl, BB1⟩ rfl rfl)
theorem s_dec_parser_some (k : Nat) (x1 : ByteArray) (x2 : ByteArray) (x3 : ByteArray) (H : g_dec_parser_some k x1 = some (x2, x3)) : Go.Q.Spec Tryz.prog 89 1 [.ptr 0 0] (Mem.nil.push (.cells 84 [.lit (.string x1)])) (fun o M => o = .ret (.lit (.string x2)) ∧ M = (Mem.nil.push (.cells 84 [.lit (.string x3)]))) := by
 unfold g_dec_parser_some at H
 refine Go.Q.Spec.of_bodyR (az := []) (rs := [.tmp 2]) (nt := 48) Tryz.func89 rfl rfl (by intro t T h; simp at h) rfl rfl fun cx hnp => ?_
 refine WP.sr ?_
 refine WPL.qq (q_as (v := .lit (.string _)) rfl) ?_
 refine WPL.nx ?_
 refine WP.sr ?_
 refine WPL.qq (q_as (v := .lit (.int _ _)) rfl) ?_
 refine WPL.nx ?_
 refine WP.seq ?_
 refine WP.block ?_
 refine WP.cv (Cv.weak (E' := ((Env.none.upd 0 (.ptr 0 0)).upd 3 (.lit (.int .i64 0)))) (M' := (Mem.nil.push (.cells 84 [.lit (.string x1)]))) [0] hnp ⟨rfl, AA1, by decide, rfl, BB1⟩ (LeE.u (LeE.u (LeE.none rfl rfl)))) ?_
 obtain ⟨x4, H1, H⟩ := bnd H
 refine WP.monoW (Q := fun x E M => x = .exit 0 ∧ E = ((Env.none.upd 0 (.ptr 0 0)).upd 3 (.lit (.int .i64 x4))) ∧ M = (Mem.nil.push (.cells 84 [.lit (.string x1)]))) ?_ ?_
 · refine WP.loop (β := Int) (fun n b => g_dec_parser_some_l0 k x1 n b = some x4) (fun b => ((Env.none.upd 0 (.ptr 0 0)).upd 3 (.lit (.int .i64 b)))) (fun b => (Mem.nil.push (.cells 84 [.lit (.string x1)]))) k 0 H1 rfl rfl ?_
   rintro n x5 H
   obtain _ | n := n
   · exact nf rfl H
   rw [g_dec_parser_some_l0.eq_2] at H
   show WP _ _ _ _ ((Env.none.upd 0 (.ptr 0 0)).upd 3 (.lit (.int .i64 x5))) (Mem.nil.push (.cells 84 [.lit (.string x1)])) _
   refine WP.seq ?_
   refine WP.seq ?_
   obtain ⟨x6, H2, H⟩ := bnd H
   refine WP.monoW (Q := fun x E M => x = .normal ∧ E = (((Env.none.upd 0 (.ptr 0 0)).upd 3 (.lit (.int .i64 x5))).upd 29 (.lit (.bool x6))) ∧ M = (Mem.nil.push (.cells 84 [.lit (.string x1)]))) ?_ ?_
   · clear H
     have H := H2
     clear H2
     refine WP.region ?_
     refine WPL.qq (q_mv (v := .lit (.int _ _)) rfl) ?_
     refine WPL.qq (q_mv (v := .ptr _ _) rfl) ?_
     refine WPL.qq (q_nilCheck rfl) ?_
     refine WPL.qq (q_fieldAddr fi84_0 rfl rfl) ?_
     refine WPL.qq (q_load sc9 rfl rfl rfl) ?_
     refine WPL.qq (q_len_str Tryz.underlying9 rfl) ?_
     obtain ⟨x7, h1, H⟩ := bnd H
     refine WPL.qq (q_nm (q_lss rfl rfl) (nm_bool h1)) ?_
     refine WPL.qq (q_mv (v := .lit (.bool _)) rfl) ?_
     refine WPL.split (t := 12) (b := x7) rfl (fun hb1 => ?_) (fun hb1 => ?_)
     · replace H := cnt hb1 H
       refine WPL.gq rfl (lb hb1) (q_mv (v := .ptr _ _) rfl) ?_
       refine WPL.gq rfl (lb hb1) (q_nilCheck rfl) ?_
       refine WPL.gq rfl (lb hb1) (q_fieldAddr fi84_0 rfl rfl) ?_
       refine WPL.gq rfl (lb hb1) (q_load sc9 rfl rfl rfl) ?_
       refine WPL.gq rfl (lb hb1) (q_mv (v := .lit (.int _ _)) rfl) ?_
       obtain ⟨x8, h2, H⟩ := bnd H
       refine WPL.gq rfl (lb hb1) (q_index_str Tryz.underlying9 rfl rfl h2) ?_
       refine WPL.gq rfl (lb hb1) (q_geq rfl rfl) ?_
       refine WPL.qq (q_pickT (v := .lit (.bool _)) (lb hb1) rfl) ?_
       refine WPL.qq (q_mv (v := .lit (.bool _)) rfl) ?_
       refine WPL.split (t := 21) (b := (decide (48 ≤ x8))) rfl (fun hb2 => ?_) (fun hb2 => ?_)
       · replace H := cnt hb2 H
         refine WPL.gq rfl (lb hb2) (q_mv (v := .ptr _ _) rfl) ?_
         refine WPL.gq rfl (lb hb2) (q_nilCheck rfl) ?_
         refine WPL.gq rfl (lb hb2) (q_fieldAddr fi84_0 rfl rfl) ?_
         refine WPL.gq rfl (lb hb2) (q_load sc9 rfl rfl rfl) ?_
         refine WPL.gq rfl (lb hb2) (q_mv (v := .lit (.int _ _)) rfl) ?_
         obtain ⟨x9, h3, H⟩ := bnd H
         refine WPL.gq rfl (lb hb2) (q_index_str Tryz.underlying9 rfl rfl h3) ?_
         refine WPL.gq rfl (lb hb2) (q_leq rfl rfl) ?_
         refine WPL.qq (q_pickT (v := .lit (.bool _)) (lb hb2) rfl) ?_
         refine WPL.nilW ?_
         have q0 := j1 H
         subst q0
         exact W.wk [0] hnp r3 ⟨rfl, AA1, by decide, rfl, BB1⟩ (LeE.u (LeE.u (LeE.u (LeE.none rfl rfl)))) rfl
       replace H := cnf hb2 H
       refine WPL.sg false rfl (lb hb2) ?_
       refine WPL.sg false rfl (lb hb2) ?_
       refine WPL.sg false rfl (lb hb2) ?_
       refine WPL.sg false rfl (lb hb2) ?_
       refine WPL.sg false rfl (lb hb2) ?_
       refine WPL.sg false rfl (lb hb2) ?_
       refine WPL.sg false rfl (lb hb2) ?_
       refine WPL.qq (q_pickF (v := .lit (.bool _)) (lb hb2) rfl) ?_
       refine WPL.nilW ?_
       have q0 := j1 H
       subst q0
       exact W.wk [0] hnp r3 ⟨rfl, AA1, by decide, rfl, BB1⟩ (LeE.u (LeE.u (LeE.u (LeE.none rfl rfl)))) rfl
     replace H := cnf hb1 H
     refine WPL.sg false rfl (lb hb1) ?_
     refine WPL.sg false rfl (lb hb1) ?_
     refine WPL.sg false rfl (lb hb1) ?_
     refine WPL.sg false rfl (lb hb1) ?_
     refine WPL.sg false rfl (lb hb1) ?_
     refine WPL.sg false rfl (lb hb1) ?_
     refine WPL.sg false rfl (lb hb1) ?_
     refine WPL.qq (q_pickF (v := .lit (.bool _)) (lb hb1) rfl) ?_
     refine WPL.qq (q_mv (v := .lit (.bool _)) rfl) ?_
     refine WPL.sg false rfl rfl ?_
     refine WPL.sg false rfl rfl ?_
     refine WPL.sg false rfl rfl ?_
     refine WPL.sg false rfl rfl ?_
     refine WPL.sg false rfl rfl ?_
     refine WPL.sg false rfl rfl ?_
     refine WPL.sg false rfl rfl ?_
     refine WPL.qq (q_pickF (v := .lit (.bool _)) rfl rfl) ?_
     refine WPL.nilW ?_
     have q0 := j1 H
     subst q0
     exact W.wk [0] hnp r3 ⟨rfl, AA1, by decide, rfl, BB1⟩ (LeE.u (LeE.u (LeE.u (LeE.none rfl rfl)))) rfl
   rintro _ _ _ ⟨rfl, rfl, rfl⟩
   refine W.now ?_
   refine Then.n ?_
   refine WP.cond (t := x6) rfl (fun hb3 => ?_) (fun hb3 => ?_)
   · replace H := cnt hb3 H
     refine WP.skipW ?_
     refine W.now ?_
     refine Then.n ?_
     refine WP.block ?_
     refine WP.region ?_
     refine WPL.qq (q_mv (v := .lit (.int _ _)) rfl) ?_
     refine WPL.qq (q_add rfl rfl) ?_
     refine WPL.qq (q_as (v := .lit (.int _ _)) rfl) ?_
     refine WPL.nilW ?_
     exact W.wk [0] hnp (InBlock.n (Then.n ⟨n, (IntKind.wrap .i64 (x5 + 1)), Nat.lt_succ_self n, H, rfl, rfl⟩)) ⟨rfl, AA1, by decide, rfl, BB1⟩ (LeE.u (LeE.u (LeE.none rfl rfl))) rfl
   replace H := cnf hb3 H
   refine WP.exitW ?_
   have q0 := j1 H
   subst q0
   exact W.wk [0] hnp (Then.x (Then.x r3)) ⟨rfl, AA1, by decide, rfl, BB1⟩ (LeE.u (LeE.u (LeE.none rfl rfl))) rfl
 rintro _ _ _ ⟨rfl, rfl, rfl⟩
 refine W.now ?_
 refine InBlock.x0 ?_
 refine Then.n ?_
 refine WP.sr ?_
 refine WPL.qq (q_mv (v := .ptr _ _) rfl) ?_
 refine WPL.qq (q_nilCheck rfl) ?_
 refine WPL.qq (q_fieldAddr fi84_0 rfl rfl) ?_
 refine WPL.qq (q_load sc9 rfl rfl rfl) ?_
 refine WPL.qq (q_mv (v := .lit (.int _ _)) rfl) ?_
 obtain ⟨h4, H⟩ := grd H
 refine WPL.qq (q_slice_str (i := 0) (j := x4) Tryz.underlying9 rfl rfl ⟨_, rfl⟩ h4) ?_
 refine WPL.qq (q_as (v := .lit (.string _)) rfl) ?_
 refine WPL.nx ?_
 refine WP.sr ?_
 refine WPL.qq (q_mv (v := .ptr _ _) rfl) ?_
 refine WPL.qq (q_mv (v := .ptr _ _) rfl) ?_
 refine WPL.qq (q_nilCheck rfl) ?_
 refine WPL.qq (q_fieldAddr fi84_0 rfl rfl) ?_
 refine WPL.qq (q_load sc9 rfl rfl rfl) ?_
 refine WPL.qq (q_mv (v := .lit (.int _ _)) rfl) ?_
 obtain ⟨h5, H⟩ := grd H
 obtain ⟨x10, h6, H⟩ := bnd H
 refine WPL.qq (q_nm (q_slice_str (i := x4) (j := ((ByteArray.size x1 : Nat) : Int)) Tryz.underlying9 rfl ⟨_, rfl⟩ rfl h5) (nm_str h6)) ?_
 refine WPL.qq (q_nilCheck rfl) ?_
 refine WPL.qq (q_fieldAddr fi84_0 rfl rfl) ?_
 refine WPL.s (s_store sz9 rfl rfl rfl rfl rfl) ?_
 refine WPL.nx ?_
 refine WP.sr ?_
 refine WPL.qq (q_mv (v := .lit (.string _)) rfl) ?_
 refine WPL.qq (q_as (v := .lit (.string _)) rfl) ?_
 refine WPL.nx ?_
 refine WP.retW ?_
 obtain ⟨rfl, rfl⟩ := j2 H
 exact W.now (BodyR.mkR trivial rfl [0] ⟨rfl, rfl⟩ ⟨rfl, AA1, by decide, rfl, BB1⟩ rfl rfl)
theorem s_dec_values (k : Nat) (x1 : ByteArray) (H : g_dec_values k x1 = some ()) : Go.Q.Spec Tryz.prog 90 0 [.lit (.string x1)] Mem.nil (fun o M => o = .ret (.fn 138 [.ptr 0 0]) ∧ M = (Mem.nil.push (.cells 9 [.lit (.string x1)]))) := by
 unfold g_dec_values at H
 refine Go.Q.Spec.of_bodyR (az := []) (rs := [.tmp 2]) (nt := 4) Tryz.func90 rfl rfl (by intro t T h; simp at h) rfl rfl fun cx hnp => ?_
 refine WP.sr ?_
 refine WPL.d (d_box rfl rfl) rfl ?_
 refine WPL.qq (q_as (v := .lit _) rfl) ?_
 refine WPL.nx ?_
 refine WP.sr ?_
 refine WPL.qq (q_makeFunc) ?_
 refine WPL.qq (q_as (v := .fn _ _) rfl) ?_
 refine WPL.nx ?_
 refine WP.retW ?_
 exact W.now (BodyR.mkR trivial rfl [0] ⟨rfl, rfl⟩ ⟨rfl, AA1, by decide, rfl, trivial⟩ rfl rfl)
theorem s_st_trimLeftByte (k : Nat) (x1 : ByteArray) (x2 : Int) (x3 : ByteArray) (H : g_st_trimLeftByte k x1 x2 = some x3) : Go.Q.Spec Tryz.prog 122 0 [.lit (.string x1), .lit (.int .u8 x2)] Mem.nil (fun o M => o = .ret (.lit (.string x3)) ∧ M = Mem.nil) := by
 unfold g_st_trimLeftByte at H
 refine Go.Q.Spec.of_bodyR (az := []) (rs := [.tmp 4]) (nt := 17) Tryz.func122 rfl rfl (by intro t T h; simp at h) rfl rfl fun cx hnp => ?_
 refine WP.sr ?_
 refine WPL.qq (q_as (v := .lit (.string _)) rfl) ?_
 refine WPL.nx ?_
 refine WP.seq ?_
 refine WP.block ?_
 refine WP.cv (Cv.weak (E' := ((Env.none.upd 0 (.lit (.string x1))).upd 1 (.lit (.int .u8 x2)))) (M' := Mem.nil) [] hnp ⟨rfl, trivial, by decide, rfl, trivial⟩ (LeE.u (LeE.u (LeE.none rfl rfl)))) ?_
 obtain ⟨x4, H1, H⟩ := bnd H
 refine WP.monoW (Q := fun x E M => x = .exit 0 ∧ E = (Env.none.upd 0 (.lit (.string x4))) ∧ M = Mem.nil) ?_ ?_
 · refine WP.loop (β := ByteArray) (fun n b => g_st_trimLeftByte_l0 k x2 n b = some x4) (fun b => ((Env.none.upd 0 (.lit (.string b))).upd 1 (.lit (.int .u8 x2)))) (fun b => Mem.nil) k x1 H1 rfl rfl ?_
   rintro n x5 H
   obtain _ | n := n
   · exact nf rfl H
   rw [g_st_trimLeftByte_l0.eq_2] at H
   show WP _ _ _ _ ((Env.none.upd 0 (.lit (.string x5))).upd 1 (.lit (.int .u8 x2))) Mem.nil _
   refine WP.seq ?_
   refine WP.seq ?_
   obtain ⟨x6, H2, H⟩ := bnd H
   refine WP.monoW (Q := fun x E M => x = .normal ∧ E = (((Env.none.upd 0 (.lit (.string x5))).upd 1 (.lit (.int .u8 x2))).upd 13 (.lit (.bool x6))) ∧ M = Mem.nil) ?_ ?_
   · clear H
     have H := H2
     clear H2
     refine WP.region ?_
     refine WPL.qq (q_mv (v := .lit (.string _)) rfl) ?_
     refine WPL.qq (q_len_str Tryz.underlying9 rfl) ?_
     obtain ⟨x7, h1, H⟩ := bnd H
     refine WPL.qq (q_nm (q_gtr rfl rfl) (nm_bool h1)) ?_
     refine WPL.qq (q_mv (v := .lit (.bool _)) rfl) ?_
     refine WPL.split (t := 8) (b := x7) rfl (fun hb1 => ?_) (fun hb1 => ?_)
     · replace H := cnt hb1 H
       refine WPL.gq rfl (lb hb1) (q_mv (v := .lit (.string _)) rfl) ?_
       obtain ⟨x8, h2, H⟩ := bnd H
       refine WPL.gq rfl (lb hb1) (q_index_str Tryz.underlying9 rfl rfl h2) ?_
       refine WPL.gq rfl (lb hb1) (q_mv (v := .lit (.int _ _)) rfl) ?_
       refine WPL.gq rfl (lb hb1) (q_eql rfl rfl) ?_
       refine WPL.qq (q_pickT (v := .lit (.bool _)) (lb hb1) rfl) ?_
       refine WPL.nilW ?_
       have q0 := j1 H
       subst q0
       exact W.wk [] hnp r3 ⟨rfl, trivial, by decide, rfl, trivial⟩ (LeE.u (LeE.u (LeE.u (LeE.none rfl rfl)))) rfl
     replace H := cnf hb1 H
     refine WPL.sg false rfl (lb hb1) ?_
     refine WPL.sg false rfl (lb hb1) ?_
     refine WPL.sg false rfl (lb hb1) ?_
     refine WPL.sg false rfl (lb hb1) ?_
     refine WPL.qq (q_pickF (v := .lit (.bool _)) (lb hb1) rfl) ?_
     refine WPL.nilW ?_
     have q0 := j1 H
     subst q0
     exact W.wk [] hnp r3 ⟨rfl, trivial, by decide, rfl, trivial⟩ (LeE.u (LeE.u (LeE.u (LeE.none rfl rfl)))) rfl
   rintro _ _ _ ⟨rfl, rfl, rfl⟩
   refine W.now ?_
   refine Then.n ?_
   refine WP.cond (t := x6) rfl (fun hb2 => ?_) (fun hb2 => ?_)
   · replace H := cnt hb2 H
     refine WP.skipW ?_
     refine W.now ?_
     refine Then.n ?_
     refine WP.block ?_
     refine WP.region ?_
     refine WPL.qq (q_mv (v := .lit (.string _)) rfl) ?_
     obtain ⟨h3, H⟩ := grd H
     obtain ⟨x9, h4, H⟩ := bnd H
     refine WPL.qq (q_nm (q_slice_str (i := 1) (j := ((ByteArray.size x5 : Nat) : Int)) Tryz.underlying9 rfl ⟨_, rfl⟩ rfl h3) (nm_str h4)) ?_
     refine WPL.qq (q_as (v := .lit (.string _)) rfl) ?_
     refine WPL.nilW ?_
     exact W.wk [] hnp (InBlock.n (Then.n ⟨n, x9, Nat.lt_succ_self n, H, rfl, rfl⟩)) ⟨rfl, trivial, by decide, rfl, trivial⟩ (LeE.u (LeE.u (LeE.none rfl rfl))) rfl
   replace H := cnf hb2 H
   refine WP.exitW ?_
   have q0 := j1 H
   subst q0
   exact W.wk [] hnp (Then.x (Then.x r3)) ⟨rfl, trivial, by decide, rfl, trivial⟩ (LeE.u (LeE.none rfl rfl)) rfl
 rintro _ _ _ ⟨rfl, rfl, rfl⟩
 refine W.now ?_
 refine InBlock.x0 ?_
 refine Then.n ?_
 refine WP.sr ?_
 refine WPL.qq (q_mv (v := .lit (.string _)) rfl) ?_
 refine WPL.qq (q_as (v := .lit (.string _)) rfl) ?_
 refine WPL.nx ?_
 refine WP.retW ?_
 have q0 := j1 H
 subst q0
 exact W.now (BodyR.mkR trivial rfl [] ⟨rfl, rfl⟩ ⟨rfl, trivial, by decide, rfl, trivial⟩ rfl rfl)
theorem s_st_TrimLeft (k : Nat) (x1 : ByteArray) (x2 : ByteArray) (x3 : ByteArray) (H : g_st_TrimLeft k x1 x2 = some x3) : Go.Q.Spec Tryz.prog 91 0 [.lit (.string x1), .lit (.string x2)] Mem.nil (fun o M => o = .ret (.lit (.string x3)) ∧ M = Mem.nil) := by
 unfold g_st_TrimLeft at H
 refine Go.Q.Spec.of_bodyR (az := []) (rs := [.tmp 4]) (nt := 37) Tryz.func91 rfl rfl (by intro t T h; simp at h) rfl rfl fun cx hnp => ?_
 refine WP.sr ?_
 refine WPL.qq (q_as (v := .lit (.string _)) rfl) ?_
 refine WPL.nx ?_
 refine WP.seq ?_
 refine WP.seq ?_
 obtain ⟨x4, H1, H⟩ := bnd H
 refine WP.monoW (Q := fun x E M => x = .normal ∧ E = (((Env.none.upd 0 (.lit (.string x1))).upd 1 (.lit (.string x2))).upd 12 (.lit (.bool x4))) ∧ M = Mem.nil) ?_ ?_
 · clear H
   have H := H1
   clear H1
   refine WP.region ?_
   refine WPL.qq (q_mv (v := .lit (.string _)) rfl) ?_
   obtain ⟨x5, h1, H⟩ := bnd H
   refine WPL.qq (q_nm (q_eqls rfl rfl) (nm_bool h1)) ?_
   refine WPL.qq (q_mv (v := .lit (.bool _)) rfl) ?_
   refine WPL.split (t := 9) (b := x5) rfl (fun hb1 => ?_) (fun hb1 => ?_)
   · replace H := cnt hb1 H
     refine WPL.sg true rfl (lb hb1) ?_
     refine WPL.sg true rfl (lb hb1) ?_
     refine WPL.qq (q_pickT (v := .lit (.bool _)) (lb hb1) rfl) ?_
     refine WPL.nilW ?_
     have q0 := j1 H
     subst q0
     exact W.wk [] hnp r3 ⟨rfl, trivial, by decide, rfl, trivial⟩ (LeE.u (LeE.u (LeE.u (LeE.none rfl rfl)))) rfl
   replace H := cnf hb1 H
   refine WPL.gq rfl (lb hb1) (q_mv (v := .lit (.string _)) rfl) ?_
   obtain ⟨x6, h2, H⟩ := bnd H
   refine WPL.gq rfl (lb hb1) (q_nm (q_eqls rfl rfl) (nm_bool h2)) ?_
   refine WPL.qq (q_pickF (v := .lit (.bool _)) (lb hb1) rfl) ?_
   refine WPL.nilW ?_
   have q0 := j1 H
   subst q0
   exact W.wk [] hnp r3 ⟨rfl, trivial, by decide, rfl, trivial⟩ (LeE.u (LeE.u (LeE.u (LeE.none rfl rfl)))) rfl
 rintro _ _ _ ⟨rfl, rfl, rfl⟩
 refine W.now ?_
 refine Then.n ?_
 refine WP.cond (t := x4) rfl (fun hb2 => ?_) (fun hb2 => ?_)
 · replace H := cnt hb2 H
   refine WP.sr ?_
   refine WPL.qq (q_mv (v := .lit (.string _)) rfl) ?_
   refine WPL.qq (q_as (v := .lit (.string _)) rfl) ?_
   refine WPL.nx ?_
   refine WP.retW ?_
   have q0 := j1 H
   subst q0
   exact W.now (Then.r (BodyR.mkR trivial rfl [] ⟨rfl, rfl⟩ ⟨rfl, trivial, by decide, rfl, trivial⟩ rfl rfl))
 replace H := cnf hb2 H
 refine WP.skipW ?_
 refine W.now ?_
 refine Then.n ?_
 refine WP.seq ?_
 refine WP.seq ?_
 obtain ⟨x7, H2, H⟩ := bnd H
 refine WP.monoW (Q := fun x E M => x = .normal ∧ E = (((Env.none.upd 0 (.lit (.string x1))).upd 1 (.lit (.string x2))).upd 21 (.lit (.bool x7))) ∧ M = Mem.nil) ?_ ?_
 · clear H
   have H := H2
   clear H2
   refine WP.region ?_
   refine WPL.qq (q_mv (v := .lit (.string _)) rfl) ?_
   refine WPL.qq (q_len_str Tryz.underlying9 rfl) ?_
   obtain ⟨x8, h3, H⟩ := bnd H
   refine WPL.qq (q_nm (q_eql rfl rfl) (nm_bool h3)) ?_
   refine WPL.qq (q_mv (v := .lit (.bool _)) rfl) ?_
   refine WPL.split (t := 17) (b := x8) rfl (fun hb3 => ?_) (fun hb3 => ?_)
   · replace H := cnt hb3 H
     refine WPL.gq rfl (lb hb3) (q_mv (v := .lit (.string _)) rfl) ?_
     obtain ⟨x9, h4, H⟩ := bnd H
     refine WPL.gq rfl (lb hb3) (q_index_str Tryz.underlying9 rfl rfl h4) ?_
     refine WPL.gq rfl (lb hb3) (q_lss rfl rfl) ?_
     refine WPL.qq (q_pickT (v := .lit (.bool _)) (lb hb3) rfl) ?_
     refine WPL.nilW ?_
     have q0 := j1 H
     subst q0
     exact W.wk [] hnp r3 ⟨rfl, trivial, by decide, rfl, trivial⟩ (LeE.u (LeE.u (LeE.u (LeE.none rfl rfl)))) rfl
   replace H := cnf hb3 H
   refine WPL.sg false rfl (lb hb3) ?_
   refine WPL.sg false rfl (lb hb3) ?_
   refine WPL.sg false rfl (lb hb3) ?_
   refine WPL.qq (q_pickF (v := .lit (.bool _)) (lb hb3) rfl) ?_
   refine WPL.nilW ?_
   have q0 := j1 H
   subst q0
   exact W.wk [] hnp r3 ⟨rfl, trivial, by decide, rfl, trivial⟩ (LeE.u (LeE.u (LeE.u (LeE.none rfl rfl)))) rfl
 rintro _ _ _ ⟨rfl, rfl, rfl⟩
 refine W.now ?_
 refine Then.n ?_
 refine WP.cond (t := x7) rfl (fun hb4 => ?_) (fun hb4 => ?_)
 · replace H := cnt hb4 H
   refine WP.sr ?_
   refine WPL.qq (q_mv (v := .lit (.string _)) rfl) ?_
   refine WPL.qq (q_mv (v := .lit (.string _)) rfl) ?_
   obtain ⟨x10, h5, H⟩ := bnd H
   refine WPL.qq (q_index_str Tryz.underlying9 rfl rfl h5) ?_
   obtain ⟨x11, h5, H⟩ := bnd H
   refine WPL.c (runs_call (s := []) (t := []) (N := 0) (bor := []) fn122 rfl (s_st_trimLeftByte k x1 x10 x11 h5) ⟨rfl, trivial, by decide, rfl, trivial⟩ rfl trivial (.ren rfl rfl (.ren rfl rfl .nil)) rfl trivial rfl) rfl ?_
   refine WPL.qq (q_as (v := .lit (.string _)) rfl) ?_
   refine WPL.nx ?_
   refine WP.retW ?_
   have q0 := j1 H
   subst q0
   exact W.now (Then.r (BodyR.mkR trivial rfl [] ⟨rfl, rfl⟩ ⟨rfl, trivial, by decide, rfl, trivial⟩ rfl rfl))
 replace H := cnf hb4 H
 refine WP.skipW ?_
 refine W.now ?_
 refine Then.n ?_
 refine WP.seq ?_
 refine WP.sr ?_
 refine WPL.qq (q_mv (v := .lit (.string _)) rfl) ?_
 exact nf rfl H
theorem s_st_trimRightByte (k : Nat) (x1 : ByteArray) (x2 : Int) (x3 : ByteArray) (H : g_st_trimRightByte k x1 x2 = some x3) : Go.Q.Spec Tryz.prog 123 0 [.lit (.string x1), .lit (.int .u8 x2)] Mem.nil (fun o M => o = .ret (.lit (.string x3)) ∧ M = Mem.nil) := by
 unfold g_st_trimRightByte at H
 refine Go.Q.Spec.of_bodyR (az := []) (rs := [.tmp 4]) (nt := 23) Tryz.func123 rfl rfl (by intro t T h; simp at h) rfl rfl fun cx hnp => ?_
 refine WP.sr ?_
 refine WPL.qq (q_as (v := .lit (.string _)) rfl) ?_
 refine WPL.nx ?_
 refine WP.seq ?_
 refine WP.block ?_
 refine WP.cv (Cv.weak (E' := ((Env.none.upd 0 (.lit (.string x1))).upd 1 (.lit (.int .u8 x2)))) (M' := Mem.nil) [] hnp ⟨rfl, trivial, by decide, rfl, trivial⟩ (LeE.u (LeE.u (LeE.none rfl rfl)))) ?_
 obtain ⟨x4, H1, H⟩ := bnd H
 refine WP.monoW (Q := fun x E M => x = .exit 0 ∧ E = (Env.none.upd 0 (.lit (.string x4))) ∧ M = Mem.nil) ?_ ?_
 · refine WP.loop (β := ByteArray) (fun n b => g_st_trimRightByte_l0 k x2 n b = some x4) (fun b => ((Env.none.upd 0 (.lit (.string b))).upd 1 (.lit (.int .u8 x2)))) (fun b => Mem.nil) k x1 H1 rfl rfl ?_
   rintro n x5 H
   obtain _ | n := n
   · exact nf rfl H
   rw [g_st_trimRightByte_l0.eq_2] at H
   show WP _ _ _ _ ((Env.none.upd 0 (.lit (.string x5))).upd 1 (.lit (.int .u8 x2))) Mem.nil _
   refine WP.seq ?_
   refine WP.seq ?_
   obtain ⟨x6, H2, H⟩ := bnd H
   refine WP.monoW (Q := fun x E M => x = .normal ∧ E = (((Env.none.upd 0 (.lit (.string x5))).upd 1 (.lit (.int .u8 x2))).upd 16 (.lit (.bool x6))) ∧ M = Mem.nil) ?_ ?_
   · clear H
     have H := H2
     clear H2
     refine WP.region ?_
     refine WPL.qq (q_mv (v := .lit (.string _)) rfl) ?_
     refine WPL.qq (q_len_str Tryz.underlying9 rfl) ?_
     obtain ⟨x7, h1, H⟩ := bnd H
     refine WPL.qq (q_nm (q_gtr rfl rfl) (nm_bool h1)) ?_
     refine WPL.qq (q_mv (v := .lit (.bool _)) rfl) ?_
     refine WPL.split (t := 8) (b := x7) rfl (fun hb1 => ?_) (fun hb1 => ?_)
     · replace H := cnt hb1 H
       refine WPL.gq rfl (lb hb1) (q_mv (v := .lit (.string _)) rfl) ?_
       refine WPL.gq rfl (lb hb1) (q_mv (v := .lit (.string _)) rfl) ?_
       refine WPL.gq rfl (lb hb1) (q_len_str Tryz.underlying9 rfl) ?_
       obtain ⟨x8, h2, H⟩ := bnd H
       refine WPL.gq rfl (lb hb1) (q_nm (q_sub rfl rfl) (nm_int h2)) ?_
       obtain ⟨x9, h3, H⟩ := bnd H
       refine WPL.gq rfl (lb hb1) (q_index_str Tryz.underlying9 rfl rfl h3) ?_
       refine WPL.gq rfl (lb hb1) (q_mv (v := .lit (.int _ _)) rfl) ?_
       refine WPL.gq rfl (lb hb1) (q_eql rfl rfl) ?_
       refine WPL.qq (q_pickT (v := .lit (.bool _)) (lb hb1) rfl) ?_
       refine WPL.nilW ?_
       have q0 := j1 H
       subst q0
       exact W.wk [] hnp r3 ⟨rfl, trivial, by decide, rfl, trivial⟩ (LeE.u (LeE.u (LeE.u (LeE.none rfl rfl)))) rfl
     replace H := cnf hb1 H
     refine WPL.sg false rfl (lb hb1) ?_
     refine WPL.sg false rfl (lb hb1) ?_
     refine WPL.sg false rfl (lb hb1) ?_
     refine WPL.sg false rfl (lb hb1) ?_
     refine WPL.sg false rfl (lb hb1) ?_
     refine WPL.sg false rfl (lb hb1) ?_
     refine WPL.sg false rfl (lb hb1) ?_
     refine WPL.qq (q_pickF (v := .lit (.bool _)) (lb hb1) rfl) ?_
     refine WPL.nilW ?_
     have q0 := j1 H
     subst q0
     exact W.wk [] hnp r3 ⟨rfl, trivial, by decide, rfl, trivial⟩ (LeE.u (LeE.u (LeE.u (LeE.none rfl rfl)))) rfl
   rintro _ _ _ ⟨rfl, rfl, rfl⟩
   refine W.now ?_
   refine Then.n ?_
   refine WP.cond (t := x6) rfl (fun hb2 => ?_) (fun hb2 => ?_)
   · replace H := cnt hb2 H
     refine WP.skipW ?_
     refine W.now ?_
     refine Then.n ?_
     refine WP.block ?_
     refine WP.region ?_
     refine WPL.qq (q_mv (v := .lit (.string _)) rfl) ?_
     refine WPL.qq (q_mv (v := .lit (.string _)) rfl) ?_
     refine WPL.qq (q_len_str Tryz.underlying9 rfl) ?_
     obtain ⟨x10, h4, H⟩ := bnd H
     refine WPL.qq (q_nm (q_sub rfl rfl) (nm_int h4)) ?_
     obtain ⟨h4, H⟩ := grd H
     refine WPL.qq (q_slice_str (i := 0) (j := x10) Tryz.underlying9 rfl rfl ⟨_, rfl⟩ h4) ?_
     refine WPL.qq (q_as (v := .lit (.string _)) rfl) ?_
     refine WPL.nilW ?_
     exact W.wk [] hnp (InBlock.n (Then.n ⟨n, (ByteArray.extract x5 (Int.toNat 0) (Int.toNat x10)), Nat.lt_succ_self n, H, rfl, rfl⟩)) ⟨rfl, trivial, by decide, rfl, trivial⟩ (LeE.u (LeE.u (LeE.none rfl rfl))) rfl
   replace H := cnf hb2 H
   refine WP.exitW ?_
   have q0 := j1 H
   subst q0
   exact W.wk [] hnp (Then.x (Then.x r3)) ⟨rfl, trivial, by decide, rfl, trivial⟩ (LeE.u (LeE.none rfl rfl)) rfl
 rintro _ _ _ ⟨rfl, rfl, rfl⟩
 refine W.now ?_
 refine InBlock.x0 ?_
 refine Then.n ?_
 refine WP.sr ?_
 refine WPL.qq (q_mv (v := .lit (.string _)) rfl) ?_
 refine WPL.qq (q_as (v := .lit (.string _)) rfl) ?_
 refine WPL.nx ?_
 refine WP.retW ?_
 have q0 := j1 H
 subst q0
 exact W.now (BodyR.mkR trivial rfl [] ⟨rfl, rfl⟩ ⟨rfl, trivial, by decide, rfl, trivial⟩ rfl rfl)
theorem s_st_TrimRight (k : Nat) (x1 : ByteArray) (x2 : ByteArray) (x3 : ByteArray) (H : g_st_TrimRight k x1 x2 = some x3) : Go.Q.Spec Tryz.prog 92 0 [.lit (.string x1), .lit (.string x2)] Mem.nil (fun o M => o = .ret (.lit (.string x3)) ∧ M = Mem.nil) := by
 unfold g_st_TrimRight at H
 refine Go.Q.Spec.of_bodyR (az := []) (rs := [.tmp 4]) (nt := 37) Tryz.func92 rfl rfl (by intro t T h; simp at h) rfl rfl fun cx hnp => ?_
 refine WP.sr ?_
 refine WPL.qq (q_as (v := .lit (.string _)) rfl) ?_
 refine WPL.nx ?_
 refine WP.seq ?_
 refine WP.seq ?_
 obtain ⟨x4, H1, H⟩ := bnd H
 refine WP.monoW (Q := fun x E M => x = .normal ∧ E = (((Env.none.upd 0 (.lit (.string x1))).upd 1 (.lit (.string x2))).upd 12 (.lit (.bool x4))) ∧ M = Mem.nil) ?_ ?_
 · clear H
   have H := H1
   clear H1
   refine WP.region ?_
   refine WPL.qq (q_mv (v := .lit (.string _)) rfl) ?_
   obtain ⟨x5, h1, H⟩ := bnd H
   refine WPL.qq (q_nm (q_eqls rfl rfl) (nm_bool h1)) ?_
   refine WPL.qq (q_mv (v := .lit (.bool _)) rfl) ?_
   refine WPL.split (t := 9) (b := x5) rfl (fun hb1 => ?_) (fun hb1 => ?_)
   · replace H := cnt hb1 H
     refine WPL.sg true rfl (lb hb1) ?_
     refine WPL.sg true rfl (lb hb1) ?_
     refine WPL.qq (q_pickT (v := .lit (.bool _)) (lb hb1) rfl) ?_
     refine WPL.nilW ?_
     have q0 := j1 H
     subst q0
     exact W.wk [] hnp r3 ⟨rfl, trivial, by decide, rfl, trivial⟩ (LeE.u (LeE.u (LeE.u (LeE.none rfl rfl)))) rfl
   replace H := cnf hb1 H
   refine WPL.gq rfl (lb hb1) (q_mv (v := .lit (.string _)) rfl) ?_
   obtain ⟨x6, h2, H⟩ := bnd H
   refine WPL.gq rfl (lb hb1) (q_nm (q_eqls rfl rfl) (nm_bool h2)) ?_
   refine WPL.qq (q_pickF (v := .lit (.bool _)) (lb hb1) rfl) ?_
   refine WPL.nilW ?_
   have q0 := j1 H
   subst q0
   exact W.wk [] hnp r3 ⟨rfl, trivial, by decide, rfl, trivial⟩ (LeE.u (LeE.u (LeE.u (LeE.none rfl rfl)))) rfl
 rintro _ _ _ ⟨rfl, rfl, rfl⟩
 refine W.now ?_
 refine Then.n ?_
 refine WP.cond (t := x4) rfl (fun hb2 => ?_) (fun hb2 => ?_)
 · replace H := cnt hb2 H
   refine WP.sr ?_
   refine WPL.qq (q_mv (v := .lit (.string _)) rfl) ?_
   refine WPL.qq (q_as (v := .lit (.string _)) rfl) ?_
   refine WPL.nx ?_
   refine WP.retW ?_
   have q0 := j1 H
   subst q0
   exact W.now (Then.r (BodyR.mkR trivial rfl [] ⟨rfl, rfl⟩ ⟨rfl, trivial, by decide, rfl, trivial⟩ rfl rfl))
 replace H := cnf hb2 H
 refine WP.skipW ?_
 refine W.now ?_
 refine Then.n ?_
 refine WP.seq ?_
 refine WP.seq ?_
 obtain ⟨x7, H2, H⟩ := bnd H
 refine WP.monoW (Q := fun x E M => x = .normal ∧ E = (((Env.none.upd 0 (.lit (.string x1))).upd 1 (.lit (.string x2))).upd 21 (.lit (.bool x7))) ∧ M = Mem.nil) ?_ ?_
 · clear H
   have H := H2
   clear H2
   refine WP.region ?_
   refine WPL.qq (q_mv (v := .lit (.string _)) rfl) ?_
   refine WPL.qq (q_len_str Tryz.underlying9 rfl) ?_
   obtain ⟨x8, h3, H⟩ := bnd H
   refine WPL.qq (q_nm (q_eql rfl rfl) (nm_bool h3)) ?_
   refine WPL.qq (q_mv (v := .lit (.bool _)) rfl) ?_
   refine WPL.split (t := 17) (b := x8) rfl (fun hb3 => ?_) (fun hb3 => ?_)
   · replace H := cnt hb3 H
     refine WPL.gq rfl (lb hb3) (q_mv (v := .lit (.string _)) rfl) ?_
     obtain ⟨x9, h4, H⟩ := bnd H
     refine WPL.gq rfl (lb hb3) (q_index_str Tryz.underlying9 rfl rfl h4) ?_
     refine WPL.gq rfl (lb hb3) (q_lss rfl rfl) ?_
     refine WPL.qq (q_pickT (v := .lit (.bool _)) (lb hb3) rfl) ?_
     refine WPL.nilW ?_
     have q0 := j1 H
     subst q0
     exact W.wk [] hnp r3 ⟨rfl, trivial, by decide, rfl, trivial⟩ (LeE.u (LeE.u (LeE.u (LeE.none rfl rfl)))) rfl
   replace H := cnf hb3 H
   refine WPL.sg false rfl (lb hb3) ?_
   refine WPL.sg false rfl (lb hb3) ?_
   refine WPL.sg false rfl (lb hb3) ?_
   refine WPL.qq (q_pickF (v := .lit (.bool _)) (lb hb3) rfl) ?_
   refine WPL.nilW ?_
   have q0 := j1 H
   subst q0
   exact W.wk [] hnp r3 ⟨rfl, trivial, by decide, rfl, trivial⟩ (LeE.u (LeE.u (LeE.u (LeE.none rfl rfl)))) rfl
 rintro _ _ _ ⟨rfl, rfl, rfl⟩
 refine W.now ?_
 refine Then.n ?_
 refine WP.cond (t := x7) rfl (fun hb4 => ?_) (fun hb4 => ?_)
 · replace H := cnt hb4 H
   refine WP.sr ?_
   refine WPL.qq (q_mv (v := .lit (.string _)) rfl) ?_
   refine WPL.qq (q_mv (v := .lit (.string _)) rfl) ?_
   obtain ⟨x10, h5, H⟩ := bnd H
   refine WPL.qq (q_index_str Tryz.underlying9 rfl rfl h5) ?_
   obtain ⟨x11, h5, H⟩ := bnd H
   refine WPL.c (runs_call (s := []) (t := []) (N := 0) (bor := []) fn123 rfl (s_st_trimRightByte k x1 x10 x11 h5) ⟨rfl, trivial, by decide, rfl, trivial⟩ rfl trivial (.ren rfl rfl (.ren rfl rfl .nil)) rfl trivial rfl) rfl ?_
   refine WPL.qq (q_as (v := .lit (.string _)) rfl) ?_
   refine WPL.nx ?_
   refine WP.retW ?_
   have q0 := j1 H
   subst q0
   exact W.now (Then.r (BodyR.mkR trivial rfl [] ⟨rfl, rfl⟩ ⟨rfl, trivial, by decide, rfl, trivial⟩ rfl rfl))
 replace H := cnf hb4 H
 refine WP.skipW ?_
 refine W.now ?_
 refine Then.n ?_
 refine WP.seq ?_
 refine WP.sr ?_
 refine WPL.qq (q_mv (v := .lit (.string _)) rfl) ?_
 exact nf rfl H
theorem s_dec_wide_plus (k : Nat) (x1 : Int) (x2 : Int) (x3 : Int) (x4 : Int) (x5 : Bool) (H : g_dec_wide_plus k x1 x2 x3 x4 = some x5) : Go.Q.Spec Tryz.prog 94 0 [.agg [.lit (.int .u64 x1), .lit (.int .u64 x2)], .agg [.lit (.int .u64 x3), .lit (.int .u64 x4)]] Mem.nil (fun o M => o = .ret (.tup [.agg [.lit (.int .u64 ((add64 x1 x3 ((add64 x2 x4 0).2)).1)), .lit (.int .u64 ((add64 x2 x4 0).1))], .lit (.bool x5)]) ∧ M = (Mem.nil.push (.cells 69 [.lit (.int .u64 ((add64 x1 x3 ((add64 x2 x4 0).2)).1)), .lit (.int .u64 ((add64 x2 x4 0).1))]))) := by
 unfold g_dec_wide_plus at H
 refine Go.Q.Spec.of_bodyR (az := [(69, 2)]) (rs := [.cell 4 69, .tmp 5]) (nt := 31) Tryz.func94 rfl rfl (by intro t T h; simp at h; rcases h with ⟨rfl, rfl⟩ <;> first | exact ag69) rfl rfl fun cx hnp => ?_
 refine WP.sr ?_
 refine WPL.d (d_box rfl rfl) rfl ?_
 refine WPL.d (d_box rfl rfl) rfl ?_
 refine WPL.d (d_alloc ze69 rfl) rfl ?_
 refine WPL.qq (q_as (v := .lit (.bool _)) rfl) ?_
 refine WPL.nx ?_
 refine WP.sr ?_
 refine WPL.qq (q_fieldAddr fi69_1 rfl rfl) ?_
 refine WPL.qq (q_load sc67 rfl rfl rfl) ?_
 refine WPL.qq (q_fieldAddr fi69_1 rfl rfl) ?_
 refine WPL.qq (q_load sc67 rfl rfl rfl) ?_
 refine WPL.qq (q_add64 ex139 rfl rfl rfl rfl rfl) ?_
 refine WPL.qq (q_mv (v := .tup _) rfl) ?_
 refine WPL.qq (q_extract rfl rfl) ?_
 refine WPL.qq (q_extract rfl rfl) ?_
 refine WPL.qq (q_as (v := .lit (.int _ _)) rfl) ?_
 refine WPL.qq (q_as (v := .lit (.int _ _)) rfl) ?_
 refine WPL.nx ?_
 refine WP.sr ?_
 refine WPL.qq (q_fieldAddr fi69_0 rfl rfl) ?_
 refine WPL.qq (q_load sc67 rfl rfl rfl) ?_
 refine WPL.qq (q_fieldAddr fi69_0 rfl rfl) ?_
 refine WPL.qq (q_load sc67 rfl rfl rfl) ?_
 refine WPL.qq (q_mv (v := .lit (.int _ _)) rfl) ?_
 obtain ⟨h1, H⟩ := grd H
 refine WPL.qq (q_add64 ex139 rfl rfl rfl rfl h1) ?_
 refine WPL.qq (q_mv (v := .tup _) rfl) ?_
 refine WPL.qq (q_extract rfl rfl) ?_
 refine WPL.qq (q_extract rfl rfl) ?_
 refine WPL.qq (q_as (v := .lit (.int _ _)) rfl) ?_
 refine WPL.qq (q_as (v := .lit (.int _ _)) rfl) ?_
 refine WPL.nx ?_
 refine WP.sr ?_
 refine WPL.qq (q_mv (v := .lit (.int _ _)) rfl) ?_
 refine WPL.qq (q_mv (v := .lit (.int _ _)) rfl) ?_
 refine WPL.qq (q_build bu69 rfl) ?_
 refine WPL.qq (q_mv (v := .lit (.int _ _)) rfl) ?_
 obtain ⟨x6, h2, H⟩ := bnd H
 refine WPL.qq (q_nm (q_eql rfl rfl) (nm_bool h2)) ?_
 refine WPL.s (s_store sz69 rfl rfl rfl rfl rfl) ?_
 refine WPL.qq (q_as (v := .lit (.bool _)) rfl) ?_
 refine WPL.nx ?_
 refine WP.retW ?_
 have q0 := j1 H
 subst q0
 exact W.now (BodyR.mkR trivial rfl [2] ⟨rfl, rfl⟩ ⟨rfl, AA1, by decide, rfl, trivial⟩ rfl rfl)
theorem s_dec_Parse (k : Nat) (x1 : ByteArray) (x2 : Int) (x3 : Int) (x4 : Int) (H : g_dec_Parse k x1 = some (x2, x3, x4)) : Go.Q.Spec Tryz.prog 49 0 [.lit (.string x1)] Mem.nil (fun o M => o = .ret (.tup [.agg [.lit (.int .i64 x3), .lit (.int .i64 x4)], .lit (.int .i64 x2)]) ∧ M = (Mem.nil.push (.cells 23 [.lit (.int .i64 x3), .lit (.int .i64 x4)]))) := by
 unfold g_dec_Parse at H
 refine Go.Q.Spec.of_bodyR (az := [(23, 2)]) (rs := [.cell 2 23, .tmp 3]) (nt := 131) Tryz.func49 rfl rfl (by intro t T h; simp at h; rcases h with ⟨rfl, rfl⟩ <;> first | exact ag23) rfl rfl fun cx hnp => ?_
 refine WP.sr ?_
 refine WPL.d (d_alloc ze23 rfl) rfl ?_
 refine WPL.qq (q_as (v := .lit (.int _ _)) rfl) ?_
 refine WPL.nx ?_
 refine WP.sr ?_
 refine WPL.qq (q_mv (v := .lit (.string _)) rfl) ?_
 refine WPL.qq (q_build bu84 rfl) ?_
 refine WPL.d (d_box rfl rfl) rfl ?_
 refine WPL.qq (q_as (v := .ptr _ _) rfl) ?_
 refine WPL.nx ?_
 refine WP.sr ?_
 refine WPL.qq (q_mv (v := .ptr _ _) rfl) ?_
 obtain ⟨⟨x5, x6⟩, h1, H⟩ := bnd H
 refine WPL.c (runs_call (s := [1]) (t := [1]) (N := 2) (bor := []) fn88 rfl (s_dec_parser_take k (ByteArray.mk #[45]) x1 x5 x6 h1) ⟨rfl, AA1, by decide, rfl, trivial⟩ rfl trivial (.ren rfl rfl (.ren rfl rfl .nil)) rfl BB1 rfl) rfl ?_
 refine WPL.qq (q_as (v := .lit (.bool _)) rfl) ?_
 refine WPL.nx ?_
 refine WP.sr ?_
 refine WPL.qq (q_mv (v := .ptr _ _) rfl) ?_
 obtain ⟨⟨x7, x8⟩, h2, H⟩ := bnd H
 refine WPL.c (runs_call (s := [1]) (t := [1]) (N := 2) (bor := []) fn89 rfl (s_dec_parser_some k x6 x7 x8 h2) ⟨rfl, AA1, by decide, rfl, trivial⟩ rfl trivial (.ren rfl rfl .nil) rfl BB1 rfl) rfl ?_
 refine WPL.qq (q_as (v := .lit (.string _)) rfl) ?_
 refine WPL.qq (q_as (v := .lit (.string _)) rfl) ?_
 refine WPL.nx ?_
 refine WP.seq ?_
 obtain ⟨x9, H1, H⟩ := bnd H
 refine WP.monoW (Q := fun x E M => x = .normal ∧ E = ((((((Env.none.upd 2 (.ptr 0 0)).upd 4 (.ptr 1 0)).upd 5 (.lit (.bool x5))).upd 6 (.lit (.string x7))).upd 7 (.lit (.string (ByteArray.mk #[])))).upd 8 (.lit (.bool x9))) ∧ M = ((Mem.nil.push (.cells 23 [.lit (.int .i64 0), .lit (.int .i64 0)])).push (.cells 84 [.lit (.string x8)]))) ?_ ?_
 · clear H
   have H := H1
   clear H1
   refine WP.region ?_
   refine WPL.qq (q_mv (v := .lit (.string _)) rfl) ?_
   refine WPL.qq (q_len_str Tryz.underlying9 rfl) ?_
   obtain ⟨x10, h3, H⟩ := bnd H
   refine WPL.qq (q_nm (q_leq rfl rfl) (nm_bool h3)) ?_
   refine WPL.qq (q_mv (v := .lit (.bool _)) rfl) ?_
   refine WPL.split (t := 27) (b := x10) rfl (fun hb1 => ?_) (fun hb1 => ?_)
   · replace H := cnt hb1 H
     refine WPL.gq rfl (lb hb1) (q_mv (v := .lit (.string _)) rfl) ?_
     obtain ⟨x11, h4, H⟩ := bnd H
     refine WPL.gq rfl (lb hb1) (q_nm (q_neqs rfl rfl) (nm_bool h4)) ?_
     refine WPL.qq (q_pickT (v := .lit (.bool _)) (lb hb1) rfl) ?_
     refine WPL.qq (q_as (v := .lit (.bool _)) rfl) ?_
     refine WPL.nilW ?_
     have q0 := j1 H
     subst q0
     exact W.wk [0, 1] hnp r3 ⟨rfl, AA2, by decide, rfl, trivial⟩ (LeE.u (LeE.u (LeE.u (LeE.u (LeE.u (LeE.u (LeE.none rfl rfl))))))) rfl
   replace H := cnf hb1 H
   refine WPL.sg false rfl (lb hb1) ?_
   refine WPL.sg false rfl (lb hb1) ?_
   refine WPL.qq (q_pickF (v := .lit (.bool _)) (lb hb1) rfl) ?_
   refine WPL.qq (q_as (v := .lit (.bool _)) rfl) ?_
   refine WPL.nilW ?_
   have q0 := j1 H
   subst q0
   exact W.wk [0, 1] hnp r3 ⟨rfl, AA2, by decide, rfl, trivial⟩ (LeE.u (LeE.u (LeE.u (LeE.u (LeE.u (LeE.u (LeE.none rfl rfl))))))) rfl
 rintro _ _ _ ⟨rfl, rfl, rfl⟩
 refine W.now ?_
 refine Then.n ?_
 refine WP.seq ?_
 obtain ⟨⟨x12, x13, x14⟩, H2, H⟩ := bnd H
 refine WP.monoW (Q := fun x E M => x = .normal ∧ E = ((((((Env.none.upd 2 (.ptr 0 0)).upd 4 (.ptr 1 0)).upd 5 (.lit (.bool x5))).upd 6 (.lit (.string x7))).upd 7 (.lit (.string x12))).upd 8 (.lit (.bool x13))) ∧ M = ((Mem.nil.push (.cells 23 [.lit (.int .i64 0), .lit (.int .i64 0)])).push (.cells 84 [.lit (.string x14)]))) ?_ ?_
 · clear H
   have H := H2
   clear H2
   refine WP.sr ?_
   refine WPL.qq (q_mv (v := .ptr _ _) rfl) ?_
   obtain ⟨⟨x15, x16⟩, h5, H⟩ := bnd H
   refine WPL.c (runs_call (s := [1]) (t := [1]) (N := 2) (bor := []) fn88 rfl (s_dec_parser_take k (ByteArray.mk #[46]) x8 x15 x16 h5) ⟨rfl, AA1, by decide, rfl, trivial⟩ rfl trivial (.ren rfl rfl (.ren rfl rfl .nil)) rfl BB1 rfl) rfl ?_
   refine WPL.nx ?_
   refine WP.cond (t := x15) rfl (fun hb2 => ?_) (fun hb2 => ?_)
   · replace H := cnt hb2 H
     refine WP.sr ?_
     refine WPL.qq (q_mv (v := .ptr _ _) rfl) ?_
     obtain ⟨⟨x17, x18⟩, h6, H⟩ := bnd H
     refine WPL.c (runs_call (s := [1]) (t := [1]) (N := 2) (bor := []) fn89 rfl (s_dec_parser_some k x16 x17 x18 h6) ⟨rfl, AA1, by decide, rfl, trivial⟩ rfl trivial (.ren rfl rfl .nil) rfl BB1 rfl) rfl ?_
     refine WPL.qq (q_as (v := .lit (.string _)) rfl) ?_
     refine WPL.nx ?_
     refine WP.region ?_
     refine WPL.qq (q_mv (v := .lit (.bool _)) rfl) ?_
     refine WPL.qq (q_mv (v := .lit (.bool _)) rfl) ?_
     refine WPL.split (t := 36) (b := x9) rfl (fun hb3 => ?_) (fun hb3 => ?_)
     · replace H := cnt hb3 H
       refine WPL.gq rfl (lb hb3) (q_mv (v := .lit (.string _)) rfl) ?_
       obtain ⟨x19, h7, H⟩ := bnd H
       refine WPL.gq rfl (lb hb3) (q_nm (q_neqs rfl rfl) (nm_bool h7)) ?_
       refine WPL.qq (q_pickT (v := .lit (.bool _)) (lb hb3) rfl) ?_
       refine WPL.qq (q_as (v := .lit (.bool _)) rfl) ?_
       refine WPL.nilW ?_
       obtain ⟨rfl, rfl, rfl⟩ := j3 H
       exact W.wk [0, 1] hnp r3 ⟨rfl, AA2, by decide, rfl, trivial⟩ (LeE.u (LeE.u (LeE.u (LeE.u (LeE.u (LeE.u (LeE.none rfl rfl))))))) rfl
     replace H := cnf hb3 H
     refine WPL.sg false rfl (lb hb3) ?_
     refine WPL.sg false rfl (lb hb3) ?_
     refine WPL.qq (q_pickF (v := .lit (.bool _)) (lb hb3) rfl) ?_
     refine WPL.qq (q_as (v := .lit (.bool _)) rfl) ?_
     refine WPL.nilW ?_
     obtain ⟨rfl, rfl, rfl⟩ := j3 H
     exact W.wk [0, 1] hnp r3 ⟨rfl, AA2, by decide, rfl, trivial⟩ (LeE.u (LeE.u (LeE.u (LeE.u (LeE.u (LeE.u (LeE.none rfl rfl))))))) rfl
   replace H := cnf hb2 H
   refine WP.skipW ?_
   obtain ⟨rfl, rfl, rfl⟩ := j3 H
   exact W.wk [0, 1] hnp r3 ⟨rfl, AA2, by decide, rfl, trivial⟩ (LeE.u (LeE.u (LeE.u (LeE.u (LeE.u (LeE.u (LeE.none rfl rfl))))))) rfl
 rintro _ _ _ ⟨rfl, rfl, rfl⟩
 refine W.now ?_
 refine Then.n ?_
 refine WP.sr ?_
 refine WPL.d (d_alloc ze3 rfl) rfl ?_
 refine WPL.s (s_store sz3 rfl rfl rfl rfl rfl) ?_
 refine WPL.nx ?_
 refine WP.seq ?_
 obtain ⟨⟨x20, x21, x22⟩, H3, H⟩ := bnd H
 refine WP.monoW (Q := fun x E M => x = .normal ∧ E = ((((((((⟨fun _ => .any, [3], [], []⟩ : Env).upd 2 (.ptr 0 0)).upd 4 (.ptr 1 0)).upd 5 (.lit (.bool x5))).upd 6 (.lit (.string x7))).upd 7 (.lit (.string x12))).upd 8 (.lit (.bool x20))).upd 9 (.ptr 2 0)) ∧ M = ((((Mem.nil.push (.cells 23 [.lit (.int .i64 0), .lit (.int .i64 0)])).push (.cells 84 [.lit (.string x21)])).push (.cells 3 [.lit (.int .i64 x22)])).push (.bag))) ?_ ?_
 · clear H
   have H := H3
   clear H3
   refine WP.seq ?_
   obtain ⟨⟨x23, x24⟩, H4, H⟩ := bnd H
   refine WP.monoW (Q := fun x E M => x = .normal ∧ E = ((((((((Env.none.upd 2 (.ptr 0 0)).upd 4 (.ptr 1 0)).upd 5 (.lit (.bool x5))).upd 6 (.lit (.string x7))).upd 7 (.lit (.string x12))).upd 8 (.lit (.bool x13))).upd 9 (.ptr 2 0)).upd 45 (.lit (.bool x23))) ∧ M = (((Mem.nil.push (.cells 23 [.lit (.int .i64 0), .lit (.int .i64 0)])).push (.cells 84 [.lit (.string x24)])).push (.cells 3 [.lit (.int .i64 0)]))) ?_ ?_
   · clear H
     have H := H4
     clear H4
     refine WP.region ?_
     refine WPL.qq (q_mv (v := .ptr _ _) rfl) ?_
     obtain ⟨⟨x25, x26⟩, h8, H⟩ := bnd H
     refine WPL.c (runs_call (s := [1]) (t := [1]) (N := 3) (bor := []) fn88 rfl (s_dec_parser_take k (ByteArray.mk #[101]) x14 x25 x26 h8) ⟨rfl, AA1, by decide, rfl, trivial⟩ rfl trivial (.ren rfl rfl (.ren rfl rfl .nil)) rfl BB1 rfl) rfl ?_
     refine WPL.qq (q_mv (v := .lit (.bool _)) rfl) ?_
     refine WPL.split (t := 42) (b := x25) rfl (fun hb4 => ?_) (fun hb4 => ?_)
     · replace H := cnt hb4 H
       refine WPL.sg true rfl (lb hb4) ?_
       refine WPL.sg true rfl (lb hb4) ?_
       refine WPL.qq (q_pickT (v := .lit (.bool _)) (lb hb4) rfl) ?_
       refine WPL.nilW ?_
       obtain ⟨rfl, rfl⟩ := j2 H
       exact W.wk [0, 1, 2] hnp r3 ⟨rfl, AA3, by decide, rfl, trivial⟩ (LeE.u (LeE.u (LeE.u (LeE.u (LeE.u (LeE.u (LeE.u (LeE.u (LeE.none rfl rfl))))))))) rfl
     replace H := cnf hb4 H
     refine WPL.gq rfl (lb hb4) (q_mv (v := .ptr _ _) rfl) ?_
     obtain ⟨⟨x27, x28⟩, h9, H⟩ := bnd H
     refine WPL.cg rfl rfl (lb hb4) (runs_call (s := [1]) (t := [1]) (N := 3) (bor := []) fn88 rfl (s_dec_parser_take k (ByteArray.mk #[69]) x26 x27 x28 h9) ⟨rfl, AA1, by decide, rfl, trivial⟩ rfl trivial (.ren rfl rfl (.ren rfl rfl .nil)) rfl BB1 rfl) rfl ?_
     refine WPL.qq (q_pickF (v := .lit (.bool _)) (lb hb4) rfl) ?_
     refine WPL.nilW ?_
     obtain ⟨rfl, rfl⟩ := j2 H
     exact W.wk [0, 1, 2] hnp r3 ⟨rfl, AA3, by decide, rfl, trivial⟩ (LeE.u (LeE.u (LeE.u (LeE.u (LeE.u (LeE.u (LeE.u (LeE.u (LeE.none rfl rfl))))))))) rfl
   rintro _ _ _ ⟨rfl, rfl, rfl⟩
   refine W.now ?_
   refine Then.n ?_
   refine WP.cond (t := x23) rfl (fun hb5 => ?_) (fun hb5 => ?_)
   · replace H := cnt hb5 H
     refine WP.sr ?_
     refine WPL.qq (q_mv (v := .ptr _ _) rfl) ?_
     obtain ⟨⟨x29, x30⟩, h10, H⟩ := bnd H
     refine WPL.c (runs_call (s := [1]) (t := [1]) (N := 3) (bor := []) fn88 rfl (s_dec_parser_take k (ByteArray.mk #[45]) x24 x29 x30 h10) ⟨rfl, AA1, by decide, rfl, trivial⟩ rfl trivial (.ren rfl rfl (.ren rfl rfl .nil)) rfl BB1 rfl) rfl ?_
     refine WPL.qq (q_as (v := .lit (.bool _)) rfl) ?_
     refine WPL.nx ?_
     refine WP.seq ?_
     obtain ⟨x31, H5, H⟩ := bnd H
     refine WP.monoW (Q := fun x E M => x = .normal ∧ E = ((((((((Env.none.upd 2 (.ptr 0 0)).upd 4 (.ptr 1 0)).upd 5 (.lit (.bool x5))).upd 6 (.lit (.string x7))).upd 7 (.lit (.string x12))).upd 8 (.lit (.bool x13))).upd 9 (.ptr 2 0)).upd 10 (.lit (.bool x29))) ∧ M = (((Mem.nil.push (.cells 23 [.lit (.int .i64 0), .lit (.int .i64 0)])).push (.cells 84 [.lit (.string x31)])).push (.cells 3 [.lit (.int .i64 0)]))) ?_ ?_
     · clear H
       have H := H5
       clear H5
       refine WP.sr ?_
       refine WPL.qq (q_mv (v := .lit (.bool _)) rfl) ?_
       refine WPL.qq (q_not rfl) ?_
       refine WPL.nx ?_
       refine WP.cond (t := (!x29)) rfl (fun hb6 => ?_) (fun hb6 => ?_)
       · replace H := cnt hb6 H
         refine WP.region ?_
         refine WPL.qq (q_mv (v := .ptr _ _) rfl) ?_
         obtain ⟨⟨x32, x33⟩, h11, H⟩ := bnd H
         refine WPL.c (runs_call (s := [1]) (t := [1]) (N := 3) (bor := []) fn88 rfl (s_dec_parser_take k (ByteArray.mk #[43]) x30 x32 x33 h11) ⟨rfl, AA1, by decide, rfl, trivial⟩ rfl trivial (.ren rfl rfl (.ren rfl rfl .nil)) rfl BB1 rfl) rfl ?_
         refine WPL.nilW ?_
         have q0 := j1 H
         subst q0
         exact W.wk [0, 1, 2] hnp r3 ⟨rfl, AA3, by decide, rfl, trivial⟩ (LeE.u (LeE.u (LeE.u (LeE.u (LeE.u (LeE.u (LeE.u (LeE.u (LeE.none rfl rfl))))))))) rfl
       replace H := cnf hb6 H
       refine WP.skipW ?_
       have q0 := j1 H
       subst q0
       exact W.wk [0, 1, 2] hnp r3 ⟨rfl, AA3, by decide, rfl, trivial⟩ (LeE.u (LeE.u (LeE.u (LeE.u (LeE.u (LeE.u (LeE.u (LeE.u (LeE.none rfl rfl))))))))) rfl
     rintro _ _ _ ⟨rfl, rfl, rfl⟩
     refine W.now ?_
     refine Then.n ?_
     refine WP.sr ?_
     refine WPL.qq (q_mv (v := .ptr _ _) rfl) ?_
     obtain ⟨⟨x34, x35⟩, h12, H⟩ := bnd H
     refine WPL.c (runs_call (s := [1]) (t := [1]) (N := 3) (bor := []) fn89 rfl (s_dec_parser_some k x31 x34 x35 h12) ⟨rfl, AA1, by decide, rfl, trivial⟩ rfl trivial (.ren rfl rfl .nil) rfl BB1 rfl) rfl ?_
     refine WPL.qq (q_as (v := .lit (.string _)) rfl) ?_
     refine WPL.nx ?_
     refine WP.seq ?_
     obtain ⟨x36, H6, H⟩ := bnd H
     refine WP.monoW (Q := fun x E M => x = .normal ∧ E = (((((((((Env.none.upd 2 (.ptr 0 0)).upd 4 (.ptr 1 0)).upd 5 (.lit (.bool x5))).upd 6 (.lit (.string x7))).upd 7 (.lit (.string x12))).upd 8 (.lit (.bool x36))).upd 9 (.ptr 2 0)).upd 10 (.lit (.bool x29))).upd 11 (.lit (.string x34))) ∧ M = (((Mem.nil.push (.cells 23 [.lit (.int .i64 0), .lit (.int .i64 0)])).push (.cells 84 [.lit (.string x35)])).push (.cells 3 [.lit (.int .i64 0)]))) ?_ ?_
     · clear H
       have H := H6
       clear H6
       refine WP.region ?_
       refine WPL.qq (q_mv (v := .lit (.bool _)) rfl) ?_
       refine WPL.qq (q_mv (v := .lit (.bool _)) rfl) ?_
       refine WPL.split (t := 55) (b := x13) rfl (fun hb7 => ?_) (fun hb7 => ?_)
       · replace H := cnt hb7 H
         refine WPL.gq rfl (lb hb7) (q_mv (v := .lit (.string _)) rfl) ?_
         refine WPL.gq rfl (lb hb7) (q_len_str Tryz.underlying9 rfl) ?_
         obtain ⟨x37, h13, H⟩ := bnd H
         refine WPL.gq rfl (lb hb7) (q_nm (q_geq rfl rfl) (nm_bool h13)) ?_
         refine WPL.qq (q_pickT (v := .lit (.bool _)) (lb hb7) rfl) ?_
         refine WPL.qq (q_mv (v := .lit (.bool _)) rfl) ?_
         refine WPL.split (t := 60) (b := x37) rfl (fun hb8 => ?_) (fun hb8 => ?_)
         · replace H := cnt hb8 H
           refine WPL.gq rfl (lb hb8) (q_mv (v := .lit (.string _)) rfl) ?_
           refine WPL.gq rfl (lb hb8) (q_len_str Tryz.underlying9 rfl) ?_
           obtain ⟨x38, h14, H⟩ := bnd H
           refine WPL.gq rfl (lb hb8) (q_nm (q_leq rfl rfl) (nm_bool h14)) ?_
           refine WPL.qq (q_pickT (v := .lit (.bool _)) (lb hb8) rfl) ?_
           refine WPL.qq (q_as (v := .lit (.bool _)) rfl) ?_
           refine WPL.nilW ?_
           have q0 := j1 H
           subst q0
           exact W.wk [0, 1, 2] hnp r3 ⟨rfl, AA3, by decide, rfl, trivial⟩ (LeE.u (LeE.u (LeE.u (LeE.u (LeE.u (LeE.u (LeE.u (LeE.u (LeE.u (LeE.none rfl rfl)))))))))) rfl
         replace H := cnf hb8 H
         refine WPL.sg false rfl (lb hb8) ?_
         refine WPL.sg false rfl (lb hb8) ?_
         refine WPL.sg false rfl (lb hb8) ?_
         refine WPL.qq (q_pickF (v := .lit (.bool _)) (lb hb8) rfl) ?_
         refine WPL.qq (q_as (v := .lit (.bool _)) rfl) ?_
         refine WPL.nilW ?_
         have q0 := j1 H
         subst q0
         exact W.wk [0, 1, 2] hnp r3 ⟨rfl, AA3, by decide, rfl, trivial⟩ (LeE.u (LeE.u (LeE.u (LeE.u (LeE.u (LeE.u (LeE.u (LeE.u (LeE.u (LeE.none rfl rfl)))))))))) rfl
       replace H := cnf hb7 H
       refine WPL.sg false rfl (lb hb7) ?_
       refine WPL.sg false rfl (lb hb7) ?_
       refine WPL.sg false rfl (lb hb7) ?_
       refine WPL.qq (q_pickF (v := .lit (.bool _)) (lb hb7) rfl) ?_
       refine WPL.qq (q_mv (v := .lit (.bool _)) rfl) ?_
       refine WPL.sg false rfl rfl ?_
       refine WPL.sg false rfl rfl ?_
       refine WPL.sg false rfl rfl ?_
       refine WPL.qq (q_pickF (v := .lit (.bool _)) rfl rfl) ?_
       refine WPL.qq (q_as (v := .lit (.bool _)) rfl) ?_
       refine WPL.nilW ?_
       have q0 := j1 H
       subst q0
       exact W.wk [0, 1, 2] hnp r3 ⟨rfl, AA3, by decide, rfl, trivial⟩ (LeE.u (LeE.u (LeE.u (LeE.u (LeE.u (LeE.u (LeE.u (LeE.u (LeE.u (LeE.none rfl rfl)))))))))) rfl
     rintro _ _ _ ⟨rfl, rfl, rfl⟩
     refine W.now ?_
     refine Then.n ?_
     refine WP.seq ?_
     obtain ⟨x39, H7, H⟩ := bnd H
     refine WP.monoW (Q := fun x E M => x = .normal ∧ E = (((((((((⟨fun _ => .any, [3], [], []⟩ : Env).upd 2 (.ptr 0 0)).upd 4 (.ptr 1 0)).upd 5 (.lit (.bool x5))).upd 6 (.lit (.string x7))).upd 7 (.lit (.string x12))).upd 8 (.lit (.bool x36))).upd 9 (.ptr 2 0)).upd 10 (.lit (.bool x29))) ∧ M = ((((Mem.nil.push (.cells 23 [.lit (.int .i64 0), .lit (.int .i64 0)])).push (.cells 84 [.lit (.string x35)])).push (.cells 3 [.lit (.int .i64 x39)])).push (.bag))) ?_ ?_
     · clear H
       have H := H7
       clear H7
       refine WP.sr ?_
       refine WPL.qq (q_mv (v := .lit (.bool _)) rfl) ?_
       refine WPL.nx ?_
       refine WP.cond (t := x36) rfl (fun hb9 => ?_) (fun hb9 => ?_)
       · replace H := cnt hb9 H
         refine WP.sr ?_
         refine WPL.qq (q_mv (v := .lit (.string _)) rfl) ?_
         obtain ⟨_, h15, H⟩ := bnd H
         refine WPL.c (runs_call (s := []) (t := [3]) (N := 4) (bor := []) fn90 rfl (s_dec_values k x34 h15) ⟨rfl, trivial, by decide, rfl, trivial⟩ rfl trivial (.ren rfl rfl .nil) rfl BB1 rfl) rfl ?_
         refine WPL.nx ?_
         refine WP.block ?_
         refine WP.cv (Cv.nullMark (N := 4) rfl rfl) ?_
         refine WP.range (nti := 18) (n := 5) rfl rfl Tryz.func138 rfl (by kernel_rfl) rfl rfl rfl rfl fun l_1 r_1 aC1 hp1 ha1 hb10 ht1 hs1 hf1 => ?_
         refine WP.sr ?_
         refine WPL.qq (q_load sc9 rfl rfl rfl) ?_
         refine WPL.qq (q_len_str Tryz.underlying9 rfl) ?_
         refine WPL.qq (q_mv (v := .lit (.int _ _)) rfl) ?_
         refine WPL.nx ?_
         refine WP.block ?_
         refine WP.cv (Cv.weak (E' := (((((⟨fun _ => .any, [], [⟨aC1, ((((((((((Env.none.upd 2 (.ptr 1 0)).upd 4 (.ptr 2 0)).upd 5 (.lit (.bool x5))).upd 6 (.lit (.string x7))).upd 7 (.lit (.string x12))).upd 8 (.lit (.bool x36))).upd 9 (.ptr 3 0)).upd 10 (.lit (.bool x29))).upd 67 (.fn 138 [.ptr 0 0]))).v, [4, 5], some (6, l_1)⟩], []⟩ : Env).upd 0 (.lit (.func (.yield l_1) #[] #[]))).upd 1 (.ptr 0 0)).upd 5 (.lit (.int .i64 ((ByteArray.size x34 : Nat) : Int)))).upd 6 (.lit (.int .i64 0)))) (M' := (((((((Mem.nil.push (.cells 9 [.lit (.string x34)])).push (.cells 23 [.lit (.int .i64 0), .lit (.int .i64 0)])).push (.cells 84 [.lit (.string x35)])).push (.cells 3 [.lit (.int .i64 0)])).push (.obj (Obj.deferred (some [])))).push (.bag)).push (.obj (lp r_1 .ready none)))) [3, 0, 1, 2, 5, 4, 6] hnp ⟨rfl, AA7, by decide, rfl, trivial⟩ (LeE.u (LeE.u (LeE.u (LeE.u (LeE.noneD rfl rfl (.cons ⟨rfl, (LeV.upd rfl rfl (LeV.upd rfl rfl (LeV.upd rfl rfl (LeV.upd rfl rfl (LeV.upd rfl rfl (LeV.upd rfl rfl (LeV.upd rfl rfl (LeV.upd rfl rfl (LeV.upd rfl rfl LeV.none))))))))), rfl, rfl, rfl, rfl⟩ .nil))))))) ?_
         obtain ⟨x40, H8, H⟩ := bnd H
         refine WP.monoW (Q := fun x E M => x = .exit 0 ∧ E = (⟨fun _ => .any, [], [⟨aC1, ((((((((((Env.none.upd 2 (.ptr 0 0)).upd 4 (.ptr 1 0)).upd 5 (.lit (.bool x5))).upd 6 (.lit (.string x7))).upd 7 (.lit (.string x12))).upd 8 (.lit (.bool x36))).upd 9 (.ptr 2 0)).upd 10 (.lit (.bool x29))).upd 67 (.fn 138 [.ptr 3 0]))).v, [4, 5], some (6, l_1)⟩], []⟩ : Env) ∧ M = (((((((Mem.nil.push (.cells 23 [.lit (.int .i64 0), .lit (.int .i64 0)])).push (.cells 84 [.lit (.string x35)])).push (.cells 3 [.lit (.int .i64 x40)])).push (.cells 9 [.lit (.string x34)])).push (.obj (Obj.deferred (some [])))).push (.bag)).push (.obj (lp r_1 .ready none)))) ?_ ?_
         · refine WP.loop (β := Int × Int) (fun n b => g_dec_Parse_l0 k x34 n b.1 b.2 = some x40) (fun b => (((((⟨fun _ => .any, [], [⟨aC1, ((((((((((Env.none.upd 2 (.ptr 1 0)).upd 4 (.ptr 2 0)).upd 5 (.lit (.bool x5))).upd 6 (.lit (.string x7))).upd 7 (.lit (.string x12))).upd 8 (.lit (.bool x36))).upd 9 (.ptr 3 0)).upd 10 (.lit (.bool x29))).upd 67 (.fn 138 [.ptr 0 0]))).v, [4, 5], some (6, l_1)⟩], []⟩ : Env).upd 0 (.lit (.func (.yield l_1) #[] #[]))).upd 1 (.ptr 0 0)).upd 5 (.lit (.int .i64 ((ByteArray.size x34 : Nat) : Int)))).upd 6 (.lit (.int .i64 b.1)))) (fun b => (((((((Mem.nil.push (.cells 9 [.lit (.string x34)])).push (.cells 23 [.lit (.int .i64 0), .lit (.int .i64 0)])).push (.cells 84 [.lit (.string x35)])).push (.cells 3 [.lit (.int .i64 b.2)])).push (.obj (Obj.deferred (some [])))).push (.bag)).push (.obj (lp r_1 .ready none)))) k (0, 0) H8 rfl rfl ?_
           rintro n ⟨x41, x42⟩ H
           obtain _ | n := n
           · exact nf rfl H
           rw [g_dec_Parse_l0.eq_2] at H
           show WP _ _ _ _ (((((⟨fun _ => .any, [], [⟨aC1, ((((((((((Env.none.upd 2 (.ptr 1 0)).upd 4 (.ptr 2 0)).upd 5 (.lit (.bool x5))).upd 6 (.lit (.string x7))).upd 7 (.lit (.string x12))).upd 8 (.lit (.bool x36))).upd 9 (.ptr 3 0)).upd 10 (.lit (.bool x29))).upd 67 (.fn 138 [.ptr 0 0]))).v, [4, 5], some (6, l_1)⟩], []⟩ : Env).upd 0 (.lit (.func (.yield l_1) #[] #[]))).upd 1 (.ptr 0 0)).upd 5 (.lit (.int .i64 ((ByteArray.size x34 : Nat) : Int)))).upd 6 (.lit (.int .i64 x41))) (((((((Mem.nil.push (.cells 9 [.lit (.string x34)])).push (.cells 23 [.lit (.int .i64 0), .lit (.int .i64 0)])).push (.cells 84 [.lit (.string x35)])).push (.cells 3 [.lit (.int .i64 x42)])).push (.obj (Obj.deferred (some [])))).push (.bag)).push (.obj (lp r_1 .ready none))) _
           refine WP.sr ?_
           obtain ⟨x43, h16, H⟩ := bnd H
           refine WPL.qq (q_nm (q_lss rfl rfl) (nm_bool h16)) ?_
           refine WPL.nx ?_
           refine WP.seq ?_
           refine WP.cond (t := x43) rfl (fun hb11 => ?_) (fun hb11 => ?_)
           · replace H := cnt hb11 H
             refine WP.skipW ?_
             refine W.now ?_
             refine Then.n ?_
             refine WP.seq ?_
             refine WP.block ?_
             refine WP.sr ?_
             refine WPL.qq (q_mv (v := .lit (.int _ _)) rfl) ?_
             refine WPL.qq (q_as (v := .lit (.int _ _)) rfl) ?_
             refine WPL.nx ?_
             refine WP.sr ?_
             refine WPL.qq (q_mv (v := .lit _) rfl) ?_
             refine WPL.qq (q_load sc9 rfl rfl rfl) ?_
             refine WPL.qq (q_mv (v := .lit (.int _ _)) rfl) ?_
             obtain ⟨x44, h17, H⟩ := bnd H
             refine WPL.qq (q_index_str Tryz.underlying9 rfl rfl h17) ?_
             refine WPL.qq (q_sub rfl rfl) ?_
             obtain ⟨x45, h18, H⟩ := bnd H
             refine WPL.qq (q_nm (q_conv Tryz.underlying5 Tryz.underlying3 rfl) (nm_int h18)) ?_
             refine WPL.y rfl rfl rfl rfl hp1 ha1 hb10 ht1 hs1 hf1 rfl rfl rfl fun aI1 => ?_
             refine WP.region ?_
             refine WPL.qq (q_as (v := .lit (.int _ _)) rfl) ?_
             refine WPL.nilW ?_
             refine W.now ?_
             refine ⟨rfl, rfl, _, _, _, _, _, _, rfl, rfl, ?_⟩
             refine WP.block ?_
             refine WP.region ?_
             refine WPL.qq (q_load sc3 rfl rfl rfl) ?_
             refine WPL.qq (q_mul rfl rfl) ?_
             refine WPL.qq (q_mv (v := .lit (.int _ _)) rfl) ?_
             obtain ⟨x46, h19, H⟩ := bnd H
             refine WPL.qq (q_nm (q_add rfl rfl) (nm_int h19)) ?_
             refine WPL.s (s_store sz3 rfl rfl rfl rfl rfl) ?_
             refine WPL.nilW ?_
             refine W.now ?_
             refine InBlock.n ?_
             refine ⟨rfl, _, _, _, _, _, _, rfl, rfl, _, rfl, ?_⟩
             refine WPL.qq (q_not rfl) ?_
             refine WPL.nx ?_
             refine WP.condFB (t := (!true)) rfl rfl ?_
             refine WP.skipW ?_
             refine W.now ?_
             refine InBlock.n ?_
             refine Then.n ?_
             refine WP.region ?_
             refine WPL.qq (q_add rfl rfl) ?_
             refine WPL.qq (q_mv (v := .lit (.int _ _)) rfl) ?_
             refine WPL.nilW ?_
             exact W.wk [0, 1, 2, 3, 4, 5, 6] hnp (Then.n ⟨n, ((IntKind.wrap .i64 (x41 + 1)), x46), Nat.lt_succ_self n, H, rfl, rfl⟩) ⟨rfl, AA7, by decide, rfl, trivial⟩ (LeE.u (LeE.u (LeE.u (LeE.u (LeE.noneD rfl rfl (.cons ⟨rfl, (LeV.upd rfl rfl (LeV.upd rfl rfl (LeV.upd rfl rfl (LeV.upd rfl rfl (LeV.upd rfl rfl (LeV.upd rfl rfl (LeV.upd rfl rfl (LeV.upd rfl rfl (LeV.upd rfl rfl LeV.none))))))))), rfl, rfl, rfl, rfl⟩ .nil)))))) rfl
           replace H := cnf hb11 H
           refine WP.exitW ?_
           have q0 := j1 H
           subst q0
           exact W.wk [1, 2, 3, 0, 4, 5, 6] hnp (Then.x (Then.x r3)) ⟨rfl, AA7, by decide, rfl, trivial⟩ (LeE.noneD rfl rfl (.cons ⟨rfl, (LeV.upd rfl rfl (LeV.upd rfl rfl (LeV.upd rfl rfl (LeV.upd rfl rfl (LeV.upd rfl rfl (LeV.upd rfl rfl (LeV.upd rfl rfl (LeV.upd rfl rfl (LeV.upd rfl rfl LeV.none))))))))), rfl, rfl, rfl, rfl⟩ .nil)) rfl
         rintro _ _ _ ⟨rfl, rfl, rfl⟩
         refine W.now ?_
         refine InBlock.x0 ?_
         refine ⟨trivial, _, _, _, _, rfl, _, _, rfl, (fun h => by cases h), ?_⟩
         refine W.cv (Cv.absorb (N := 7) (j := 4) (i := 5) rfl rfl rfl rfl) rfl ?_
         have q0 := j1 H
         subst q0
         exact W.wk [0, 1, 2, 7] hnp (InBlock.n r3) ⟨rfl, AA4, by decide, rfl, trivial⟩ (LeE.u (LeE.u (LeE.u (LeE.u (LeE.u (LeE.u (LeE.u (LeE.u (LeE.noneD rfl rfl .nil))))))))) rfl
       replace H := cnf hb9 H
       refine WP.skipW ?_
       refine W.cv (Cv.nullMark (N := 3) rfl rfl) rfl ?_
       have q0 := j1 H
       subst q0
       exact W.wk [0, 1, 2, 3] hnp r3 ⟨rfl, AA4, by decide, rfl, trivial⟩ (LeE.u (LeE.u (LeE.u (LeE.u (LeE.u (LeE.u (LeE.u (LeE.u (LeE.noneD rfl rfl .nil))))))))) rfl
     rintro _ _ _ ⟨rfl, rfl, rfl⟩
     refine W.now ?_
     refine Then.n ?_
     refine WP.sr ?_
     refine WPL.qq (q_mv (v := .lit (.bool _)) rfl) ?_
     refine WPL.nx ?_
     refine WP.cond (t := x29) rfl (fun hb12 => ?_) (fun hb12 => ?_)
     · replace H := cnt hb12 H
       refine WP.region ?_
       refine WPL.qq (q_load sc3 rfl rfl rfl) ?_
       refine WPL.qq (q_neg rfl) ?_
       refine WPL.s (s_store sz3 rfl rfl rfl rfl rfl) ?_
       refine WPL.nilW ?_
       obtain ⟨rfl, rfl, rfl⟩ := j3 H
       exact W.wk [0, 1, 2, 3] hnp r3 ⟨rfl, AA4, by decide, rfl, trivial⟩ (LeE.u (LeE.u (LeE.u (LeE.u (LeE.u (LeE.u (LeE.u (LeE.noneD rfl rfl .nil)))))))) rfl
     replace H := cnf hb12 H
     refine WP.skipW ?_
     obtain ⟨rfl, rfl, rfl⟩ := j3 H
     exact W.wk [0, 1, 2, 3] hnp r3 ⟨rfl, AA4, by decide, rfl, trivial⟩ (LeE.u (LeE.u (LeE.u (LeE.u (LeE.u (LeE.u (LeE.u (LeE.noneD rfl rfl .nil)))))))) rfl
   replace H := cnf hb5 H
   refine WP.skipW ?_
   refine W.cv (Cv.nullMark (N := 3) rfl rfl) rfl ?_
   obtain ⟨rfl, rfl, rfl⟩ := j3 H
   exact W.wk [0, 1, 2, 3] hnp r3 ⟨rfl, AA4, by decide, rfl, trivial⟩ (LeE.u (LeE.u (LeE.u (LeE.u (LeE.u (LeE.u (LeE.u (LeE.noneD rfl rfl .nil)))))))) rfl
 rintro _ _ _ ⟨rfl, rfl, rfl⟩
 refine W.now ?_
 refine Then.n ?_
 refine WP.seq ?_
 refine WP.seq ?_
 obtain ⟨x47, H9, H⟩ := bnd H
 refine WP.monoW (Q := fun x E M => x = .normal ∧ E = (((((((⟨fun _ => .any, [2], [], []⟩ : Env).upd 2 (.ptr 0 0)).upd 5 (.lit (.bool x5))).upd 6 (.lit (.string x7))).upd 7 (.lit (.string x12))).upd 9 (.ptr 1 0)).upd 84 (.lit (.bool x47))) ∧ M = (((Mem.nil.push (.cells 23 [.lit (.int .i64 0), .lit (.int .i64 0)])).push (.cells 3 [.lit (.int .i64 x22)])).push (.bag))) ?_ ?_
 · clear H
   have H := H9
   clear H9
   refine WP.region ?_
   refine WPL.qq (q_mv (v := .lit (.bool _)) rfl) ?_
   refine WPL.qq (q_not rfl) ?_
   refine WPL.qq (q_mv (v := .lit (.bool _)) rfl) ?_
   refine WPL.split (t := 78) (b := (!x20)) rfl (fun hb13 => ?_) (fun hb13 => ?_)
   · replace H := cnt hb13 H
     refine WPL.sg true rfl (lb hb13) ?_
     refine WPL.sg true rfl (lb hb13) ?_
     refine WPL.sg true rfl (lb hb13) ?_
     refine WPL.sg true rfl (lb hb13) ?_
     refine WPL.sg true rfl (lb hb13) ?_
     refine WPL.qq (q_pickT (v := .lit (.bool _)) (lb hb13) rfl) ?_
     refine WPL.nilW ?_
     have q0 := j1 H
     subst q0
     exact W.wk [0, 2, 3] hnp r3 ⟨rfl, AA3, by decide, rfl, trivial⟩ (LeE.u (LeE.u (LeE.u (LeE.u (LeE.u (LeE.u (LeE.noneD rfl rfl .nil))))))) rfl
   replace H := cnf hb13 H
   refine WPL.gq rfl (lb hb13) (q_mv (v := .ptr _ _) rfl) ?_
   refine WPL.gq rfl (lb hb13) (q_nilCheck rfl) ?_
   refine WPL.gq rfl (lb hb13) (q_fieldAddr fi84_0 rfl rfl) ?_
   refine WPL.gq rfl (lb hb13) (q_load sc9 rfl rfl rfl) ?_
   obtain ⟨x48, h20, H⟩ := bnd H
   refine WPL.gq rfl (lb hb13) (q_nm (q_neqs rfl rfl) (nm_bool h20)) ?_
   refine WPL.qq (q_pickF (v := .lit (.bool _)) (lb hb13) rfl) ?_
   refine WPL.nilW ?_
   have q0 := j1 H
   subst q0
   exact W.wk [0, 2, 3] hnp r3 ⟨rfl, AA3, by decide, rfl, trivial⟩ (LeE.u (LeE.u (LeE.u (LeE.u (LeE.u (LeE.u (LeE.noneD rfl rfl .nil))))))) rfl
 rintro _ _ _ ⟨rfl, rfl, rfl⟩
 refine W.now ?_
 refine Then.n ?_
 refine WP.cond (t := x47) rfl (fun hb14 => ?_) (fun hb14 => ?_)
 · replace H := cnt hb14 H
   refine WP.sr ?_
   refine WPL.qq (q_build bu23 rfl) ?_
   refine WPL.s (s_store sz23 rfl rfl rfl rfl rfl) ?_
   refine WPL.qq (q_as (v := .lit (.int _ _)) rfl) ?_
   refine WPL.nx ?_
   refine WP.retW ?_
   obtain ⟨rfl, rfl, rfl⟩ := j3 H
   exact W.now (Then.r (BodyR.mkR ⟨.inr rfl, trivial⟩ rfl [0] ⟨rfl, rfl⟩ ⟨rfl, AA1, by decide, rfl, trivial⟩ rfl rfl))
 replace H := cnf hb14 H
 refine WP.skipW ?_
 refine W.now ?_
 refine Then.n ?_
 refine WP.sr ?_
 refine WPL.qq (q_mv (v := .lit (.string _)) rfl) ?_
 refine WPL.qq (q_mv (v := .lit (.string _)) rfl) ?_
 obtain ⟨h21, H⟩ := grd H
 refine WPL.qq (q_concat rfl rfl h21) ?_
 obtain ⟨x49, h22, H⟩ := bnd H
 refine WPL.c (runs_call (s := []) (t := []) (N := 3) (bor := []) fn91 rfl (s_st_TrimLeft k (x7 ++ x12) (ByteArray.mk #[48]) x49 h22) ⟨rfl, trivial, by decide, rfl, trivial⟩ rfl trivial (.ren rfl rfl (.ren rfl rfl .nil)) rfl trivial rfl) rfl ?_
 refine WPL.qq (q_as (v := .lit (.string _)) rfl) ?_
 refine WPL.nx ?_
 refine WP.sr ?_
 refine WPL.qq (q_load sc3 rfl rfl rfl) ?_
 refine WPL.qq (q_mv (v := .lit (.string _)) rfl) ?_
 refine WPL.qq (q_len_str Tryz.underlying9 rfl) ?_
 obtain ⟨x50, h23, H⟩ := bnd H
 refine WPL.qq (q_nm (q_sub rfl rfl) (nm_int h23)) ?_
 refine WPL.s (s_store sz3 rfl rfl rfl rfl rfl) ?_
 refine WPL.nx ?_
 refine WP.sr ?_
 refine WPL.qq (q_mv (v := .lit (.string _)) rfl) ?_
 obtain ⟨x51, h23, H⟩ := bnd H
 refine WPL.c (runs_call (s := []) (t := []) (N := 3) (bor := []) fn92 rfl (s_st_TrimRight k x49 (ByteArray.mk #[48]) x51 h23) ⟨rfl, trivial, by decide, rfl, trivial⟩ rfl trivial (.ren rfl rfl (.ren rfl rfl .nil)) rfl trivial rfl) rfl ?_
 refine WPL.qq (q_as (v := .lit (.string _)) rfl) ?_
 refine WPL.nx ?_
 refine WP.sr ?_
 refine WPL.qq (q_load sc3 rfl rfl rfl) ?_
 refine WPL.qq (q_mv (v := .lit (.string _)) rfl) ?_
 refine WPL.qq (q_len_str Tryz.underlying9 rfl) ?_
 refine WPL.qq (q_mv (v := .lit (.string _)) rfl) ?_
 refine WPL.qq (q_len_str Tryz.underlying9 rfl) ?_
 obtain ⟨x52, h24, H⟩ := bnd H
 refine WPL.qq (q_nm (q_sub rfl rfl) (nm_int h24)) ?_
 refine WPL.qq (q_add rfl rfl) ?_
 refine WPL.s (s_store sz3 rfl rfl rfl rfl rfl) ?_
 refine WPL.nx ?_
 refine WP.seq ?_
 refine WP.sr ?_
 refine WPL.qq (q_mv (v := .lit (.string _)) rfl) ?_
 refine WPL.qq (q_len_str Tryz.underlying9 rfl) ?_
 obtain ⟨x53, h25, H⟩ := bnd H
 refine WPL.qq (q_nm (q_gtr rfl rfl) (nm_bool h25)) ?_
 refine WPL.nx ?_
 refine WP.cond (t := x53) rfl (fun hb15 => ?_) (fun hb15 => ?_)
 · replace H := cnt hb15 H
   refine WP.sr ?_
   refine WPL.qq (q_build bu23 rfl) ?_
   refine WPL.s (s_store sz23 rfl rfl rfl rfl rfl) ?_
   refine WPL.qq (q_as (v := .lit (.int _ _)) rfl) ?_
   refine WPL.nx ?_
   refine WP.retW ?_
   obtain ⟨rfl, rfl, rfl⟩ := j3 H
   exact W.now (Then.r (BodyR.mkR ⟨.inr rfl, trivial⟩ rfl [0] ⟨rfl, rfl⟩ ⟨rfl, AA1, by decide, rfl, trivial⟩ rfl rfl))
 replace H := cnf hb15 H
 refine WP.skipW ?_
 refine W.now ?_
 refine Then.n ?_
 refine WP.sr ?_
 refine WPL.qq (q_build bu69 rfl) ?_
 refine WPL.d (d_alloc ze69 rfl) rfl ?_
 refine WPL.s (s_store sz69 rfl rfl rfl rfl rfl) ?_
 refine WPL.nx ?_
 refine WP.seq ?_
 refine WP.sr ?_
 refine WPL.qq (q_mv (v := .lit (.string _)) rfl) ?_
 obtain ⟨_, h26, H⟩ := bnd H
 refine WPL.c (runs_call (s := []) (t := [4]) (N := 5) (bor := []) fn90 rfl (s_dec_values k x51 h26) ⟨rfl, trivial, by decide, rfl, trivial⟩ rfl trivial (.ren rfl rfl .nil) rfl BB1 rfl) rfl ?_
 refine WPL.nx ?_
 refine WP.block ?_
 refine WP.range (nti := 18) (n := 5) rfl rfl Tryz.func138 rfl (by kernel_rfl) rfl rfl rfl rfl fun l_2 r_2 aC2 hp2 ha2 hb16 ht2 hs2 hf2 => ?_
 refine WP.sr ?_
 refine WPL.qq (q_load sc9 rfl rfl rfl) ?_
 refine WPL.qq (q_len_str Tryz.underlying9 rfl) ?_
 refine WPL.qq (q_mv (v := .lit (.int _ _)) rfl) ?_
 refine WPL.nx ?_
 refine WP.block ?_
 refine WP.cv (Cv.weak (E' := (((((⟨fun _ => .any, [], [⟨aC2, ((((((Env.none.upd 2 (.ptr 1 0)).upd 5 (.lit (.bool x5))).upd 9 (.ptr 2 0)).upd 15 (.ptr 3 0)).upd 109 (.fn 138 [.ptr 0 0]))).v, [4, 5], some (6, l_2)⟩], []⟩ : Env).upd 0 (.lit (.func (.yield l_2) #[] #[]))).upd 1 (.ptr 0 0)).upd 5 (.lit (.int .i64 ((ByteArray.size x51 : Nat) : Int)))).upd 6 (.lit (.int .i64 0)))) (M' := (((((((Mem.nil.push (.cells 9 [.lit (.string x51)])).push (.cells 23 [.lit (.int .i64 0), .lit (.int .i64 0)])).push (.cells 3 [.lit (.int .i64 (IntKind.wrap .i64 (x50 + x52)))])).push (.cells 69 [.lit (.int .u64 0), .lit (.int .u64 0)])).push (.obj (Obj.deferred (some [])))).push (.bag)).push (.obj (lp r_2 .ready none)))) [4, 0, 1, 3, 5, 2, 6] hnp ⟨rfl, AA7, by decide, rfl, trivial⟩ (LeE.u (LeE.u (LeE.u (LeE.u (LeE.noneD rfl rfl (.cons ⟨rfl, (LeV.upd rfl rfl (LeV.upd rfl rfl (LeV.upd rfl rfl (LeV.upd rfl rfl (LeV.upd rfl rfl LeV.none))))), rfl, rfl, rfl, rfl⟩ .nil))))))) ?_
 obtain ⟨⟨x54, x55⟩, H10, H⟩ := bnd H
 refine WP.monoW (Q := fun x E M => x = .exit 0 ∧ E = (⟨fun _ => .any, [], [⟨aC2, ((((((Env.none.upd 2 (.ptr 0 0)).upd 5 (.lit (.bool x5))).upd 9 (.ptr 1 0)).upd 15 (.ptr 2 0)).upd 109 (.fn 138 [.ptr 3 0]))).v, [4, 5], some (6, l_2)⟩], []⟩ : Env) ∧ M = (((((((Mem.nil.push (.cells 23 [.lit (.int .i64 0), .lit (.int .i64 0)])).push (.cells 3 [.lit (.int .i64 (IntKind.wrap .i64 (x50 + x52)))])).push (.cells 69 [.lit (.int .u64 x54), .lit (.int .u64 x55)])).push (.cells 9 [.lit (.string x51)])).push (.obj (Obj.deferred (some [])))).push (.bag)).push (.obj (lp r_2 .ready none)))) ?_ ?_
 · refine WP.loop (β := Int × Int × Int) (fun n b => g_dec_Parse_l1 k x51 n b.1 b.2.1 b.2.2 = some (x54, x55)) (fun b => (((((⟨fun _ => .any, [], [⟨aC2, ((((((Env.none.upd 2 (.ptr 1 0)).upd 5 (.lit (.bool x5))).upd 9 (.ptr 2 0)).upd 15 (.ptr 3 0)).upd 109 (.fn 138 [.ptr 0 0]))).v, [4, 5], some (6, l_2)⟩], []⟩ : Env).upd 0 (.lit (.func (.yield l_2) #[] #[]))).upd 1 (.ptr 0 0)).upd 5 (.lit (.int .i64 ((ByteArray.size x51 : Nat) : Int)))).upd 6 (.lit (.int .i64 b.1)))) (fun b => (((((((Mem.nil.push (.cells 9 [.lit (.string x51)])).push (.cells 23 [.lit (.int .i64 0), .lit (.int .i64 0)])).push (.cells 3 [.lit (.int .i64 (IntKind.wrap .i64 (x50 + x52)))])).push (.cells 69 [.lit (.int .u64 b.2.1), .lit (.int .u64 b.2.2)])).push (.obj (Obj.deferred (some [])))).push (.bag)).push (.obj (lp r_2 .ready none)))) k (0, 0, 0) H10 rfl rfl ?_
   rintro n ⟨x56, x57, x58⟩ H
   obtain _ | n := n
   · exact nf rfl H
   rw [g_dec_Parse_l1.eq_2] at H
   show WP _ _ _ _ (((((⟨fun _ => .any, [], [⟨aC2, ((((((Env.none.upd 2 (.ptr 1 0)).upd 5 (.lit (.bool x5))).upd 9 (.ptr 2 0)).upd 15 (.ptr 3 0)).upd 109 (.fn 138 [.ptr 0 0]))).v, [4, 5], some (6, l_2)⟩], []⟩ : Env).upd 0 (.lit (.func (.yield l_2) #[] #[]))).upd 1 (.ptr 0 0)).upd 5 (.lit (.int .i64 ((ByteArray.size x51 : Nat) : Int)))).upd 6 (.lit (.int .i64 x56))) (((((((Mem.nil.push (.cells 9 [.lit (.string x51)])).push (.cells 23 [.lit (.int .i64 0), .lit (.int .i64 0)])).push (.cells 3 [.lit (.int .i64 (IntKind.wrap .i64 (x50 + x52)))])).push (.cells 69 [.lit (.int .u64 x57), .lit (.int .u64 x58)])).push (.obj (Obj.deferred (some [])))).push (.bag)).push (.obj (lp r_2 .ready none))) _
   refine WP.sr ?_
   obtain ⟨x59, h27, H⟩ := bnd H
   refine WPL.qq (q_nm (q_lss rfl rfl) (nm_bool h27)) ?_
   refine WPL.nx ?_
   refine WP.seq ?_
   refine WP.cond (t := x59) rfl (fun hb17 => ?_) (fun hb17 => ?_)
   · replace H := cnt hb17 H
     refine WP.skipW ?_
     refine W.now ?_
     refine Then.n ?_
     refine WP.seq ?_
     refine WP.block ?_
     refine WP.sr ?_
     refine WPL.qq (q_mv (v := .lit (.int _ _)) rfl) ?_
     refine WPL.qq (q_as (v := .lit (.int _ _)) rfl) ?_
     refine WPL.nx ?_
     refine WP.sr ?_
     refine WPL.qq (q_mv (v := .lit _) rfl) ?_
     refine WPL.qq (q_load sc9 rfl rfl rfl) ?_
     refine WPL.qq (q_mv (v := .lit (.int _ _)) rfl) ?_
     obtain ⟨x60, h28, H⟩ := bnd H
     refine WPL.qq (q_index_str Tryz.underlying9 rfl rfl h28) ?_
     refine WPL.qq (q_sub rfl rfl) ?_
     obtain ⟨x61, h29, H⟩ := bnd H
     refine WPL.qq (q_nm (q_conv Tryz.underlying5 Tryz.underlying3 rfl) (nm_int h29)) ?_
     refine WPL.y rfl rfl rfl rfl hp2 ha2 hb16 ht2 hs2 hf2 rfl rfl rfl fun aI2 => ?_
     refine WP.region ?_
     refine WPL.qq (q_as (v := .lit (.int _ _)) rfl) ?_
     refine WPL.nilW ?_
     refine W.now ?_
     refine ⟨rfl, rfl, _, _, _, _, _, _, rfl, rfl, ?_⟩
     refine WP.block ?_
     refine WP.sr ?_
     refine WPL.qq (q_load_ag ag69 rfl rfl (Nat.le_of_ble_eq_true rfl)) ?_
     obtain ⟨⟨x62, x63⟩, h30, H⟩ := bnd H
     refine WPL.c (runs_call (s := []) (t := [7]) (N := 8) (bor := []) fn93 rfl (s_dec_wide_times k x57 x58 10 x62 x63 h30) ⟨rfl, trivial, by decide, rfl, trivial⟩ rfl trivial (.ren rfl rfl (.ren rfl rfl .nil)) rfl BB1 rfl) rfl ?_
     refine WPL.qq (q_mv (v := .tup _) rfl) ?_
     refine WPL.qq (q_extract rfl rfl) ?_
     refine WPL.qq (q_extract rfl rfl) ?_
     refine WPL.s (s_store sz69 rfl rfl rfl rfl rfl) ?_
     refine WPL.nx ?_
     refine WP.region ?_
     refine WPL.qq (q_load_ag ag69 rfl rfl (Nat.le_of_ble_eq_true rfl)) ?_
     refine WPL.qq (q_mv (v := .lit (.int _ _)) rfl) ?_
     refine WPL.qq (q_conv Tryz.underlying3 Tryz.underlying67 rfl) ?_
     refine WPL.qq (q_build bu69 rfl) ?_
     obtain ⟨x64, h31, H⟩ := bnd H
     refine WPL.c (runs_call (s := []) (t := [8]) (N := 9) (bor := []) fn94 rfl (s_dec_wide_plus k x63 (IntKind.wrap .u64 (x58 * 10)) 0 (IntKind.wrap .u64 x61) x64 h31) ⟨rfl, trivial, by decide, rfl, trivial⟩ rfl trivial (.ren rfl rfl (.ren rfl rfl .nil)) rfl BB1 rfl) rfl ?_
     refine WPL.qq (q_mv (v := .tup _) rfl) ?_
     refine WPL.qq (q_extract rfl rfl) ?_
     refine WPL.qq (q_extract rfl rfl) ?_
     refine WPL.s (s_store sz69 rfl rfl rfl rfl rfl) ?_
     refine WPL.nilW ?_
     refine W.now ?_
     refine InBlock.n ?_
     refine ⟨rfl, _, _, _, _, _, _, rfl, rfl, _, rfl, ?_⟩
     refine WPL.qq (q_not rfl) ?_
     refine WPL.nx ?_
     refine WP.condFB (t := (!true)) rfl rfl ?_
     refine WP.skipW ?_
     refine W.now ?_
     refine InBlock.n ?_
     refine Then.n ?_
     refine WP.region ?_
     refine WPL.qq (q_add rfl rfl) ?_
     refine WPL.qq (q_mv (v := .lit (.int _ _)) rfl) ?_
     refine WPL.nilW ?_
     exact W.wk [0, 1, 2, 3, 4, 5, 6] hnp (Then.n ⟨n, ((IntKind.wrap .i64 (x56 + 1)), (add64 x63 0 ((add64 (IntKind.wrap .u64 (x58 * 10)) (IntKind.wrap .u64 x61) 0).2)).1, (add64 (IntKind.wrap .u64 (x58 * 10)) (IntKind.wrap .u64 x61) 0).1), Nat.lt_succ_self n, H, rfl, rfl⟩) ⟨rfl, AA7, by decide, rfl, trivial⟩ (LeE.u (LeE.u (LeE.u (LeE.u (LeE.noneD rfl rfl (.cons ⟨rfl, (LeV.upd rfl rfl (LeV.upd rfl rfl (LeV.upd rfl rfl (LeV.upd rfl rfl (LeV.upd rfl rfl LeV.none))))), rfl, rfl, rfl, rfl⟩ .nil)))))) rfl
   replace H := cnf hb17 H
   refine WP.exitW ?_
   obtain ⟨rfl, rfl⟩ := j2 H
   exact W.wk [1, 2, 3, 0, 4, 5, 6] hnp (Then.x (Then.x r3)) ⟨rfl, AA7, by decide, rfl, trivial⟩ (LeE.noneD rfl rfl (.cons ⟨rfl, (LeV.upd rfl rfl (LeV.upd rfl rfl (LeV.upd rfl rfl (LeV.upd rfl rfl (LeV.upd rfl rfl LeV.none))))), rfl, rfl, rfl, rfl⟩ .nil)) rfl
 rintro _ _ _ ⟨rfl, rfl, rfl⟩
 refine W.now ?_
 refine InBlock.x0 ?_
 refine ⟨trivial, _, _, _, _, rfl, _, _, rfl, (fun h => by cases h), ?_⟩
 refine W.cv (Cv.absorb (N := 7) (j := 4) (i := 5) rfl rfl rfl rfl) rfl ?_
 refine W.now ?_
 refine InBlock.n ?_
 refine Then.n ?_
 refine WP.sr ?_
 refine WPL.qq (q_mv (v := .lit (.bool _)) rfl) ?_
 refine WPL.qq (q_load_ag ag69 rfl rfl (Nat.le_of_ble_eq_true rfl)) ?_
 refine WPL.qq (q_load sc3 rfl rfl rfl) ?_
 refine WPL.qq (q_build bu71 rfl) ?_
 obtain ⟨⟨x65, x66, x67⟩, h32, H⟩ := bnd H
 refine WPL.c (runs_call (s := []) (t := [8]) (N := 9) (bor := []) fn82 rfl (s_dec_num_tell k x5 x54 x55 (IntKind.wrap .i64 (x50 + x52)) x65 x66 x67 h32) ⟨rfl, trivial, by decide, rfl, trivial⟩ rfl trivial (.ren rfl rfl .nil) rfl BB1 rfl) rfl ?_
 refine WPL.qq (q_extract rfl rfl) ?_
 refine WPL.qq (q_extract rfl rfl) ?_
 refine WPL.s (s_store sz23 rfl rfl rfl rfl rfl) ?_
 refine WPL.qq (q_as (v := .lit (.int _ _)) rfl) ?_
 refine WPL.nx ?_
 refine WP.retW ?_
 obtain ⟨rfl, rfl, rfl⟩ := j3 H
 exact W.now (BodyR.mkR ⟨.inr rfl, trivial⟩ rfl [0] ⟨rfl, rfl⟩ ⟨rfl, AA1, by decide, rfl, trivial⟩ rfl rfl)
end Go.Proofs.YthpcgknknpjpdaaGreatDoor.W
namespace Go.Proofs.YthpcgknknpjpdaaGreatDoor.W
open Go Go.Q Go.Proofs
set_option linter.unusedVariables false
set_option linter.unusedSimpArgs false
set_option maxRecDepth 100000
set_option maxHeartbeats 4000000
theorem s_val_Truth (k : Nat) (x1 : Bool) (H : g_val_Truth k x1 = some ()) : Go.Q.Spec Tryz.prog 21 0 [.lit (.bool x1)] Mem.nil (fun o M => o = .ret (.agg [.lit (.int .i64 3), .lit (.int .i64 0), .lit (.int .i64 0), .lit (.string (ByteArray.mk #[])), .lit (.bool x1), .lit (.int .i64 0)]) ∧ M = (Mem.nil.push (.cells 29 [.lit (.int .i64 3), .lit (.int .i64 0), .lit (.int .i64 0), .lit (.string (ByteArray.mk #[])), .lit (.bool x1), .lit (.int .i64 0)]))) := by
 unfold g_val_Truth at H
 refine Go.Q.Spec.of_bodyR (az := [(29, 6)]) (rs := [.cell 2 29]) (nt := 5) Tryz.func21 rfl rfl (by intro t T h; simp at h; rcases h with ⟨rfl, rfl⟩ <;> first | exact ag29) rfl rfl fun cx hnp => ?_
 refine WP.sr ?_
 refine WPL.d (d_alloc ze29 rfl) rfl ?_
 refine WPL.nx ?_
 refine WP.sr ?_
 refine WPL.qq (q_mv (v := .lit (.bool _)) rfl) ?_
 refine WPL.qq (q_build bu29 rfl) ?_
 refine WPL.s (s_store sz29 rfl rfl rfl rfl rfl) ?_
 refine WPL.nx ?_
 refine WP.retW ?_
 exact W.now (BodyR.mkR trivial rfl [0] ⟨rfl, rfl⟩ ⟨rfl, AA1, by decide, rfl, trivial⟩ rfl rfl)
theorem s_sl_TrimPrefix (k : Nat) (x1 : ByteArray) (x2 : ByteArray) (x3 : ByteArray) (H : g_sl_TrimPrefix k x1 x2 = some x3) : Go.Q.Spec Tryz.prog 95 0 [.lit (.string x1), .lit (.string x2)] Mem.nil (fun o M => o = .ret (.lit (.string x3)) ∧ M = Mem.nil) := by
 unfold g_sl_TrimPrefix at H
 refine Go.Q.Spec.of_bodyR (az := []) (rs := [.tmp 4]) (nt := 13) Tryz.func95 rfl rfl (by intro t T h; simp at h) rfl rfl fun cx hnp => ?_
 refine WP.sr ?_
 refine WPL.qq (q_as (v := .lit (.string _)) rfl) ?_
 refine WPL.nx ?_
 refine WP.seq ?_
 refine WP.sr ?_
 refine WPL.qq (q_mv (v := .lit (.string _)) rfl) ?_
 refine WPL.qq (q_mv (v := .lit (.string _)) rfl) ?_
 obtain ⟨x4, h1, H⟩ := bnd H
 refine WPL.c (runs_call (s := []) (t := []) (N := 0) (bor := []) fn140 rfl (s_sl_HasPrefix k x1 x2 x4 h1) ⟨rfl, trivial, by decide, rfl, trivial⟩ rfl trivial (.ren rfl rfl (.ren rfl rfl .nil)) rfl trivial rfl) rfl ?_
 refine WPL.nx ?_
 refine WP.cond (t := x4) rfl (fun hb1 => ?_) (fun hb1 => ?_)
 · replace H := cnt hb1 H
   refine WP.sr ?_
   refine WPL.qq (q_mv (v := .lit (.string _)) rfl) ?_
   refine WPL.qq (q_mv (v := .lit (.string _)) rfl) ?_
   refine WPL.qq (q_len_str Tryz.underlying9 rfl) ?_
   obtain ⟨h2, H⟩ := grd H
   obtain ⟨x5, h3, H⟩ := bnd H
   refine WPL.qq (q_nm (q_slice_str (i := ((ByteArray.size x2 : Nat) : Int)) (j := ((ByteArray.size x1 : Nat) : Int)) Tryz.underlying9 rfl ⟨_, rfl⟩ rfl h2) (nm_str h3)) ?_
   refine WPL.qq (q_as (v := .lit (.string _)) rfl) ?_
   refine WPL.nx ?_
   refine WP.retW ?_
   have q0 := j1 H
   subst q0
   exact W.now (Then.r (BodyR.mkR trivial rfl [] ⟨rfl, rfl⟩ ⟨rfl, trivial, by decide, rfl, trivial⟩ rfl rfl))
 replace H := cnf hb1 H
 refine WP.skipW ?_
 refine W.now ?_
 refine Then.n ?_
 refine WP.sr ?_
 refine WPL.qq (q_mv (v := .lit (.string _)) rfl) ?_
 refine WPL.qq (q_as (v := .lit (.string _)) rfl) ?_
 refine WPL.nx ?_
 refine WP.retW ?_
 have q0 := j1 H
 subst q0
 exact W.now (BodyR.mkR trivial rfl [] ⟨rfl, rfl⟩ ⟨rfl, trivial, by decide, rfl, trivial⟩ rfl rfl)
theorem s_st_TrimPrefix (k : Nat) (x1 : ByteArray) (x2 : ByteArray) (x3 : ByteArray) (H : g_st_TrimPrefix k x1 x2 = some x3) : Go.Q.Spec Tryz.prog 50 0 [.lit (.string x1), .lit (.string x2)] Mem.nil (fun o M => o = .ret (.lit (.string x3)) ∧ M = Mem.nil) := by
 unfold g_st_TrimPrefix at H
 refine Go.Q.Spec.of_bodyR (az := []) (rs := [.tmp 4]) (nt := 8) Tryz.func50 rfl rfl (by intro t T h; simp at h) rfl rfl fun cx hnp => ?_
 refine WP.sr ?_
 refine WPL.qq (q_as (v := .lit (.string _)) rfl) ?_
 refine WPL.nx ?_
 refine WP.sr ?_
 refine WPL.qq (q_mv (v := .lit (.string _)) rfl) ?_
 refine WPL.qq (q_mv (v := .lit (.string _)) rfl) ?_
 obtain ⟨x4, h1, H⟩ := bnd H
 refine WPL.c (runs_call (s := []) (t := []) (N := 0) (bor := []) fn95 rfl (s_sl_TrimPrefix k x1 x2 x4 h1) ⟨rfl, trivial, by decide, rfl, trivial⟩ rfl trivial (.ren rfl rfl (.ren rfl rfl .nil)) rfl trivial rfl) rfl ?_
 refine WPL.qq (q_as (v := .lit (.string _)) rfl) ?_
 refine WPL.nx ?_
 refine WP.retW ?_
 have q0 := j1 H
 subst q0
 exact W.now (BodyR.mkR trivial rfl [] ⟨rfl, rfl⟩ ⟨rfl, trivial, by decide, rfl, trivial⟩ rfl rfl)
theorem s_val_Typed (k : Nat) (x1 : ByteArray) (x2 : Int) (x3 : Int) (x4 : Int) (x5 : ByteArray) (x6 : Bool) (x7 : Int) (H : g_val_Typed k x1 = some (x2, x3, x4, x5, x6, x7)) : Go.Q.Spec Tryz.prog 19 0 [.lit (.string x1)] Mem.nil (fun o M => o = .ret (.agg [.lit (.int .i64 x2), .lit (.int .i64 x3), .lit (.int .i64 x4), .lit (.string x5), .lit (.bool x6), .lit (.int .i64 x7)]) ∧ M = (Mem.nil.push (.cells 29 [.lit (.int .i64 x2), .lit (.int .i64 x3), .lit (.int .i64 x4), .lit (.string x5), .lit (.bool x6), .lit (.int .i64 x7)]))) := by
 unfold g_val_Typed at H
 refine Go.Q.Spec.of_bodyR (az := [(29, 6)]) (rs := [.cell 2 29]) (nt := 44) Tryz.func19 rfl rfl (by intro t T h; simp at h; rcases h with ⟨rfl, rfl⟩ <;> first | exact ag29) rfl rfl fun cx hnp => ?_
 refine WP.sr ?_
 refine WPL.d (d_alloc ze29 rfl) rfl ?_
 refine WPL.nx ?_
 refine WP.sr ?_
 refine WPL.qq (q_mv (v := .lit (.string _)) rfl) ?_
 obtain ⟨⟨x8, x9⟩, h1, H⟩ := bnd H
 refine WPL.c (runs_call (s := []) (t := []) (N := 1) (bor := []) fn9 rfl (s_val_ErrCode k x1 x8 x9 h1) ⟨rfl, trivial, by decide, rfl, trivial⟩ rfl trivial (.ren rfl rfl .nil) rfl trivial rfl) rfl ?_
 refine WPL.qq (q_mv (v := .tup _) rfl) ?_
 refine WPL.qq (q_extract rfl rfl) ?_
 refine WPL.qq (q_extract rfl rfl) ?_
 refine WPL.qq (q_as (v := .lit (.int _ _)) rfl) ?_
 refine WPL.qq (q_as (v := .lit (.bool _)) rfl) ?_
 refine WPL.nx ?_
 refine WP.sr ?_
 refine WPL.qq (q_mv (v := .lit (.string _)) rfl) ?_
 obtain ⟨⟨x10, x11, x12⟩, h2, H⟩ := bnd H
 refine WPL.c (runs_call (s := []) (t := [1]) (N := 2) (bor := []) fn49 rfl (s_dec_Parse k x1 x10 x11 x12 h2) ⟨rfl, trivial, by decide, rfl, trivial⟩ rfl trivial (.ren rfl rfl .nil) rfl BB1 rfl) rfl ?_
 refine WPL.qq (q_mv (v := .tup _) rfl) ?_
 refine WPL.qq (q_extract rfl rfl) ?_
 refine WPL.qq (q_extract rfl rfl) ?_
 refine WPL.d (d_alloc ze23 rfl) rfl ?_
 refine WPL.s (s_store sz23 rfl rfl rfl rfl rfl) ?_
 refine WPL.qq (q_as (v := .lit (.int _ _)) rfl) ?_
 refine WPL.nx ?_
 refine WP.seq ?_
 refine WP.block ?_
 refine WP.sr ?_
 refine WPL.qq (q_mv (v := .lit (.string _)) rfl) ?_
 obtain ⟨x13, h3, H⟩ := bnd H
 refine WPL.qq (q_nm (q_eqls rfl rfl) (nm_bool h3)) ?_
 refine WPL.qq (q_as (v := .lit (.bool _)) rfl) ?_
 refine WPL.nx ?_
 refine WP.cond (t := x13) rfl (fun hb1 => ?_) (fun hb1 => ?_)
 · replace H := cnt hb1 H
   refine WP.sr ?_
   refine WPL.qq (q_build bu29 rfl) ?_
   refine WPL.s (s_store sz29 rfl rfl rfl rfl rfl) ?_
   refine WPL.nx ?_
   refine WP.retW ?_
   obtain ⟨rfl, rfl, rfl, rfl, rfl, rfl⟩ := j6 H
   exact W.now (InBlock.r (Then.r (BodyR.mkR trivial rfl [0] ⟨rfl, rfl⟩ ⟨rfl, AA1, by decide, rfl, trivial⟩ rfl rfl)))
 replace H := cnf hb1 H
 refine WP.seq ?_
 obtain ⟨x14, H1, H⟩ := bnd H
 refine WP.monoW (Q := fun x E M => x = .normal ∧ E = (((((((Env.none.upd 0 (.lit (.string x1))).upd 2 (.ptr 0 0)).upd 3 (.lit (.int .i64 x8))).upd 4 (.lit (.bool x9))).upd 5 (.ptr 1 0)).upd 6 (.lit (.int .i64 x10))).upd 21 (.lit (.bool x14))) ∧ M = ((Mem.nil.push (.cells 29 [.lit (.int .i64 0), .lit (.int .i64 0), .lit (.int .i64 0), .lit (.string (ByteArray.mk #[])), .lit (.bool false), .lit (.int .i64 0)])).push (.cells 23 [.lit (.int .i64 x11), .lit (.int .i64 x12)]))) ?_ ?_
 · clear H
   have H := H1
   clear H1
   refine WP.region ?_
   refine WPL.qq (q_mv (v := .lit (.string _)) rfl) ?_
   obtain ⟨x15, h4, H⟩ := bnd H
   refine WPL.qq (q_nm (q_eqls rfl rfl) (nm_bool h4)) ?_
   refine WPL.qq (q_mv (v := .lit (.bool _)) rfl) ?_
   refine WPL.split (t := 24) (b := x15) rfl (fun hb2 => ?_) (fun hb2 => ?_)
   · replace H := cnt hb2 H
     refine WPL.sg true rfl (lb hb2) ?_
     refine WPL.sg true rfl (lb hb2) ?_
     refine WPL.qq (q_pickT (v := .lit (.bool _)) (lb hb2) rfl) ?_
     refine WPL.qq (q_as (v := .lit (.bool _)) rfl) ?_
     refine WPL.nilW ?_
     have q0 := j1 H
     subst q0
     exact W.wk [0, 2] hnp r3 ⟨rfl, AA2, by decide, rfl, trivial⟩ (LeE.u (LeE.u (LeE.u (LeE.u (LeE.u (LeE.u (LeE.u (LeE.none rfl rfl)))))))) rfl
   replace H := cnf hb2 H
   refine WPL.gq rfl (lb hb2) (q_mv (v := .lit (.string _)) rfl) ?_
   obtain ⟨x16, h5, H⟩ := bnd H
   refine WPL.gq rfl (lb hb2) (q_nm (q_eqls rfl rfl) (nm_bool h5)) ?_
   refine WPL.qq (q_pickF (v := .lit (.bool _)) (lb hb2) rfl) ?_
   refine WPL.qq (q_as (v := .lit (.bool _)) rfl) ?_
   refine WPL.nilW ?_
   have q0 := j1 H
   subst q0
   exact W.wk [0, 2] hnp r3 ⟨rfl, AA2, by decide, rfl, trivial⟩ (LeE.u (LeE.u (LeE.u (LeE.u (LeE.u (LeE.u (LeE.u (LeE.none rfl rfl)))))))) rfl
 rintro _ _ _ ⟨rfl, rfl, rfl⟩
 refine W.now ?_
 refine Then.n ?_
 refine WP.cond (t := x14) rfl (fun hb3 => ?_) (fun hb3 => ?_)
 · replace H := cnt hb3 H
   refine WP.sr ?_
   refine WPL.qq (q_mv (v := .lit (.string _)) rfl) ?_
   obtain ⟨x17, h6, H⟩ := bnd H
   refine WPL.qq (q_nm (q_eqls rfl rfl) (nm_bool h6)) ?_
   obtain ⟨_, h6, H⟩ := bnd H
   refine WPL.c (runs_call (s := []) (t := [2]) (N := 3) (bor := []) fn21 rfl (s_val_Truth k x17 h6) ⟨rfl, trivial, by decide, rfl, trivial⟩ rfl trivial (.ren rfl rfl .nil) rfl BB1 rfl) rfl ?_
   refine WPL.s (s_store sz29 rfl rfl rfl rfl rfl) ?_
   refine WPL.nx ?_
   refine WP.retW ?_
   obtain ⟨rfl, rfl, rfl, rfl, rfl, rfl⟩ := j6 H
   exact W.now (InBlock.r (Then.r (BodyR.mkR trivial rfl [0] ⟨rfl, rfl⟩ ⟨rfl, AA1, by decide, rfl, trivial⟩ rfl rfl)))
 replace H := cnf hb3 H
 refine WP.sr ?_
 refine WPL.qq (q_mv (v := .lit (.bool _)) rfl) ?_
 refine WPL.qq (q_as (v := .lit (.bool _)) rfl) ?_
 refine WPL.nx ?_
 refine WP.cond (t := x9) rfl (fun hb4 => ?_) (fun hb4 => ?_)
 · replace H := cnt hb4 H
   refine WP.sr ?_
   refine WPL.qq (q_mv (v := .lit (.int _ _)) rfl) ?_
   obtain ⟨x18, h7, H⟩ := bnd H
   refine WPL.c (runs_call (s := []) (t := [2]) (N := 3) (bor := []) fn16 rfl (s_val_Err k x8 x18 h7) ⟨rfl, trivial, by decide, rfl, trivial⟩ rfl trivial (.ren rfl rfl .nil) rfl BB1 rfl) rfl ?_
   refine WPL.s (s_store sz29 rfl rfl rfl rfl rfl) ?_
   refine WPL.nx ?_
   refine WP.retW ?_
   obtain ⟨rfl, rfl, rfl, rfl, rfl, rfl⟩ := j6 H
   exact W.now (InBlock.r (Then.r (BodyR.mkR trivial rfl [0] ⟨rfl, rfl⟩ ⟨rfl, AA1, by decide, rfl, trivial⟩ rfl rfl)))
 replace H := cnf hb4 H
 refine WP.sr ?_
 refine WPL.qq (q_mv (v := .lit (.int _ _)) rfl) ?_
 refine WPL.qq (q_eql rfl rfl) ?_
 refine WPL.qq (q_as (v := .lit (.bool _)) rfl) ?_
 refine WPL.nx ?_
 refine WP.cond (t := (decide (x10 = 0))) rfl (fun hb5 => ?_) (fun hb5 => ?_)
 · replace H := cnt hb5 H
   refine WP.sr ?_
   refine WPL.qq (q_load_ag ag23 rfl rfl (Nat.le_of_ble_eq_true rfl)) ?_
   refine WPL.qq (q_mv (v := .lit (.int _ _)) rfl) ?_
   obtain ⟨⟨x19, x20, x21, x22⟩, h8, H⟩ := bnd H
   refine WPL.c (runs_call (s := []) (t := [2]) (N := 3) (bor := []) fn12 rfl (s_val_Of k x11 x12 x10 x19 x20 x21 x22 h8) ⟨rfl, trivial, by decide, rfl, trivial⟩ rfl trivial (.ren rfl rfl (.ren rfl rfl .nil)) rfl BB1 rfl) rfl ?_
   refine WPL.s (s_store sz29 rfl rfl rfl rfl rfl) ?_
   refine WPL.nx ?_
   refine WP.retW ?_
   obtain ⟨rfl, rfl, rfl, rfl, rfl, rfl⟩ := j6 H
   exact W.now (InBlock.r (Then.r (BodyR.mkR trivial rfl [0] ⟨rfl, rfl⟩ ⟨rfl, AA1, by decide, rfl, trivial⟩ rfl rfl)))
 replace H := cnf hb5 H
 refine WP.skipW ?_
 refine W.now ?_
 refine InBlock.n ?_
 refine Then.n ?_
 refine WP.sr ?_
 refine WPL.qq (q_mv (v := .lit (.string _)) rfl) ?_
 obtain ⟨x23, h9, H⟩ := bnd H
 refine WPL.c (runs_call (s := []) (t := []) (N := 2) (bor := []) fn50 rfl (s_st_TrimPrefix k x1 (ByteArray.mk #[39]) x23 h9) ⟨rfl, trivial, by decide, rfl, trivial⟩ rfl trivial (.ren rfl rfl (.ren rfl rfl .nil)) rfl trivial rfl) rfl ?_
 obtain ⟨⟨x24, x25, x26⟩, h10, H⟩ := bnd H
 refine WPL.c (runs_call (s := []) (t := [2]) (N := 3) (bor := []) fn14 rfl (s_val_Str k x23 x24 x25 x26 h10) ⟨rfl, trivial, by decide, rfl, trivial⟩ rfl trivial (.ren rfl rfl .nil) rfl BB1 rfl) rfl ?_
 refine WPL.s (s_store sz29 rfl rfl rfl rfl rfl) ?_
 refine WPL.nx ?_
 refine WP.retW ?_
 obtain ⟨rfl, rfl, rfl, rfl, rfl, rfl⟩ := j6 H
 exact W.now (BodyR.mkR trivial rfl [0] ⟨rfl, rfl⟩ ⟨rfl, AA1, by decide, rfl, trivial⟩ rfl rfl)
end Go.Proofs.YthpcgknknpjpdaaGreatDoor.W
namespace Go.Proofs.YthpcgknknpjpdaaGreatDoor.W
open Go Go.Q Go.Proofs
set_option linter.unusedVariables false
set_option linter.unusedSimpArgs false
set_option maxRecDepth 100000
set_option maxHeartbeats 4000000
theorem s_val_Right (k : Nat) (x1 : Int) (x2 : Int) (x3 : Int) (x4 : ByteArray) (x5 : Bool) (x6 : Int) (x7 : Bool) (H : g_val_Right k x1 x2 x3 x4 x5 x6 = some x7) : Go.Q.Spec Tryz.prog 25 0 [.agg [.lit (.int .i64 x1), .lit (.int .i64 x2), .lit (.int .i64 x3), .lit (.string x4), .lit (.bool x5), .lit (.int .i64 x6)]] Mem.nil (fun o M => o = .ret (.lit (.bool x7)) ∧ M = Mem.nil) := by
 unfold g_val_Right at H
 refine Go.Q.Spec.of_bodyR (az := []) (rs := [.tmp 2]) (nt := 46) Tryz.func25 rfl rfl (by intro t T h; simp at h) rfl rfl fun cx hnp => ?_
 refine WP.sr ?_
 refine WPL.d (d_box rfl rfl) rfl ?_
 refine WPL.qq (q_as (v := .lit (.bool _)) rfl) ?_
 refine WPL.nx ?_
 refine WP.seq ?_
 refine WP.sr ?_
 refine WPL.qq (q_fieldAddr fi29_0 rfl rfl) ?_
 refine WPL.qq (q_load sc3 rfl rfl rfl) ?_
 refine WPL.nx ?_
 refine WP.block ?_
 refine WP.seq ?_
 obtain ⟨x8, H1, H⟩ := bnd H
 refine WP.monoW (Q := fun x E M => x = .normal ∧ E = (((Env.none.upd 1 (.ptr 0 0)).upd 4 (.lit (.int .i64 x1))).upd 5 (.lit (.bool x8))) ∧ M = (Mem.nil.push (.cells 29 [.lit (.int .i64 x1), .lit (.int .i64 x2), .lit (.int .i64 x3), .lit (.string x4), .lit (.bool x5), .lit (.int .i64 x6)]))) ?_ ?_
 · clear H
   have H := H1
   clear H1
   refine WP.sr ?_
   refine WPL.qq (q_eql rfl rfl) ?_
   refine WPL.qq (q_as (v := .lit (.bool _)) rfl) ?_
   refine WPL.nx ?_
   refine WP.cond (t := (decide (x1 = 0))) rfl (fun hb1 => ?_) (fun hb1 => ?_)
   · replace H := cnt hb1 H
     refine WP.skipW ?_
     have q0 := j1 H
     subst q0
     exact W.wk [0] hnp r3 ⟨rfl, AA1, by decide, rfl, trivial⟩ (LeE.u (LeE.u (LeE.u (LeE.none rfl rfl)))) rfl
   replace H := cnf hb1 H
   refine WP.region ?_
   refine WPL.qq (q_eql rfl rfl) ?_
   refine WPL.qq (q_as (v := .lit (.bool _)) rfl) ?_
   refine WPL.nilW ?_
   have q0 := j1 H
   subst q0
   exact W.wk [0] hnp r3 ⟨rfl, AA1, by decide, rfl, trivial⟩ (LeE.u (LeE.u (LeE.u (LeE.none rfl rfl)))) rfl
 rintro _ _ _ ⟨rfl, rfl, rfl⟩
 refine W.now ?_
 refine Then.n ?_
 refine WP.cond (t := x8) rfl (fun hb2 => ?_) (fun hb2 => ?_)
 · replace H := cnt hb2 H
   refine WP.seq ?_
   obtain ⟨x9, H2, H⟩ := bnd H
   refine WP.monoW (Q := fun x E M => x = .normal ∧ E = (Env.none.upd 2 (.lit (.bool x9))) ∧ M = Mem.nil) ?_ ?_
   · clear H
     have H := H2
     clear H2
     refine WP.region ?_
     refine WPL.qq (q_load_ag ag29 rfl rfl (Nat.le_of_ble_eq_true rfl)) ?_
     refine WPL.qq (q_fieldAddr fi29_0 rfl rfl) ?_
     refine WPL.qq (q_load sc3 rfl rfl rfl) ?_
     refine WPL.qq (q_fieldAddr fi29_3 rfl rfl) ?_
     refine WPL.qq (q_load sc4 rfl rfl rfl) ?_
     refine WPL.qq (q_mv (v := .lit (.bool _)) rfl) ?_
     refine WPL.split (t := 13) (b := x5) rfl (fun hb3 => ?_) (fun hb3 => ?_)
     · replace H := cnt hb3 H
       refine WPL.gq rfl (lb hb3) (q_fieldAddr fi29_0 rfl rfl) ?_
       refine WPL.gq rfl (lb hb3) (q_load sc3 rfl rfl rfl) ?_
       refine WPL.gq rfl (lb hb3) (q_eql rfl rfl) ?_
       refine WPL.qq (q_pickT (v := .lit (.bool _)) (lb hb3) rfl) ?_
       refine WPL.qq (q_build bu29 rfl) ?_
       obtain ⟨x10, h1, H⟩ := bnd H
       refine WPL.qq (q_nm (q_eqlAg (xs := [(.int .i64 x1), (.int .i64 x2), (.int .i64 x3), (.string x4), (.bool x5), (.int .i64 x6)]) (ys := [(.int .i64 x1), (.int .i64 0), (.int .i64 0), (.string (ByteArray.mk #[])), (.bool (decide (x1 = 3))), (.int .i64 0)]) (n := 9) rfl eg29 rfl rfl eq29) (nm_bool h1)) ?_
       refine WPL.qq (q_as (v := .lit (.bool _)) rfl) ?_
       refine WPL.nilW ?_
       have q0 := j1 H
       subst q0
       exact W.wk [] hnp r3 ⟨rfl, trivial, by decide, rfl, trivial⟩ (LeE.u (LeE.none rfl rfl)) rfl
     replace H := cnf hb3 H
     refine WPL.sg false rfl (lb hb3) ?_
     refine WPL.sg false rfl (lb hb3) ?_
     refine WPL.sg false rfl (lb hb3) ?_
     refine WPL.qq (q_pickF (v := .lit (.bool _)) (lb hb3) rfl) ?_
     refine WPL.qq (q_build bu29 rfl) ?_
     obtain ⟨x11, h2, H⟩ := bnd H
     refine WPL.qq (q_nm (q_eqlAg (xs := [(.int .i64 x1), (.int .i64 x2), (.int .i64 x3), (.string x4), (.bool x5), (.int .i64 x6)]) (ys := [(.int .i64 x1), (.int .i64 0), (.int .i64 0), (.string (ByteArray.mk #[])), (.bool false), (.int .i64 0)]) (n := 9) rfl eg29 rfl rfl eq29) (nm_bool h2)) ?_
     refine WPL.qq (q_as (v := .lit (.bool _)) rfl) ?_
     refine WPL.nilW ?_
     have q0 := j1 H
     subst q0
     exact W.wk [] hnp r3 ⟨rfl, trivial, by decide, rfl, trivial⟩ (LeE.u (LeE.none rfl rfl)) rfl
   rintro _ _ _ ⟨rfl, rfl, rfl⟩
   refine W.now ?_
   refine Then.n ?_
   refine WP.retW ?_
   have q0 := j1 H
   subst q0
   exact W.now (InBlock.r (Then.r (BodyR.mkR trivial rfl [] ⟨rfl, rfl⟩ ⟨rfl, trivial, by decide, rfl, trivial⟩ rfl rfl)))
 replace H := cnf hb2 H
 refine WP.sr ?_
 refine WPL.qq (q_eql rfl rfl) ?_
 refine WPL.qq (q_as (v := .lit (.bool _)) rfl) ?_
 refine WPL.nx ?_
 refine WP.cond (t := (decide (x1 = 1))) rfl (fun hb4 => ?_) (fun hb4 => ?_)
 · replace H := cnt hb4 H
   refine WP.seq ?_
   obtain ⟨x12, H3, H⟩ := bnd H
   refine WP.monoW (Q := fun x E M => x = .normal ∧ E = (Env.none.upd 2 (.lit (.bool x12))) ∧ M = Mem.nil) ?_ ?_
   · clear H
     have H := H3
     clear H3
     refine WP.region ?_
     refine WPL.qq (q_fieldAddr fi29_1 rfl rfl) ?_
     refine WPL.qq (q_load_ag ag23 rfl rfl (Nat.le_of_ble_eq_true rfl)) ?_
     obtain ⟨x13, h3, H⟩ := bnd H
     refine WPL.c (runs_call (s := []) (t := []) (N := 1) (bor := []) fn45 rfl (s_dec_Right k x2 x3 x13 h3) ⟨rfl, trivial, by decide, rfl, trivial⟩ rfl trivial (.ren rfl rfl .nil) rfl trivial rfl) rfl ?_
     refine WPL.qq (q_mv (v := .lit (.bool _)) rfl) ?_
     refine WPL.split (t := 25) (b := x13) rfl (fun hb5 => ?_) (fun hb5 => ?_)
     · replace H := cnt hb5 H
       refine WPL.gq rfl (lb hb5) (q_load_ag ag29 rfl rfl (Nat.le_of_ble_eq_true rfl)) ?_
       refine WPL.gq rfl (lb hb5) (q_fieldAddr fi29_1 rfl rfl) ?_
       refine WPL.gq rfl (lb hb5) (q_load_ag ag23 rfl rfl (Nat.le_of_ble_eq_true rfl)) ?_
       refine WPL.gq rfl (lb hb5) (q_build bu29 rfl) ?_
       obtain ⟨x14, h4, H⟩ := bnd H
       refine WPL.gq rfl (lb hb5) (q_nm (q_eqlAg (xs := [(.int .i64 x1), (.int .i64 x2), (.int .i64 x3), (.string x4), (.bool x5), (.int .i64 x6)]) (ys := [(.int .i64 1), (.int .i64 x2), (.int .i64 x3), (.string (ByteArray.mk #[])), (.bool false), (.int .i64 0)]) (n := 9) rfl eg29 rfl rfl eq29) (nm_bool h4)) ?_
       refine WPL.qq (q_pickT (v := .lit (.bool _)) (lb hb5) rfl) ?_
       refine WPL.qq (q_as (v := .lit (.bool _)) rfl) ?_
       refine WPL.nilW ?_
       have q0 := j1 H
       subst q0
       exact W.wk [] hnp r3 ⟨rfl, trivial, by decide, rfl, trivial⟩ (LeE.u (LeE.none rfl rfl)) rfl
     replace H := cnf hb5 H
     refine WPL.sg false rfl (lb hb5) ?_
     refine WPL.sg false rfl (lb hb5) ?_
     refine WPL.sg false rfl (lb hb5) ?_
     refine WPL.sg false rfl (lb hb5) ?_
     refine WPL.sg false rfl (lb hb5) ?_
     refine WPL.qq (q_pickF (v := .lit (.bool _)) (lb hb5) rfl) ?_
     refine WPL.qq (q_as (v := .lit (.bool _)) rfl) ?_
     refine WPL.nilW ?_
     have q0 := j1 H
     subst q0
     exact W.wk [] hnp r3 ⟨rfl, trivial, by decide, rfl, trivial⟩ (LeE.u (LeE.none rfl rfl)) rfl
   rintro _ _ _ ⟨rfl, rfl, rfl⟩
   refine W.now ?_
   refine Then.n ?_
   refine WP.retW ?_
   have q0 := j1 H
   subst q0
   exact W.now (InBlock.r (Then.r (BodyR.mkR trivial rfl [] ⟨rfl, rfl⟩ ⟨rfl, trivial, by decide, rfl, trivial⟩ rfl rfl)))
 replace H := cnf hb4 H
 refine WP.sr ?_
 refine WPL.qq (q_eql rfl rfl) ?_
 refine WPL.qq (q_as (v := .lit (.bool _)) rfl) ?_
 refine WPL.nx ?_
 refine WP.cond (t := (decide (x1 = 2))) rfl (fun hb6 => ?_) (fun hb6 => ?_)
 · replace H := cnt hb6 H
   refine WP.seq ?_
   refine WP.regionD' 6 [0] [] mixed rfl ?_
   refine WPD.tT 1 rfl (q_fieldAddr fi29_2 rfl rfl) ?_
   refine WPD.take 0 rfl (by kernel_rfl) (q_load_ag ag29 rfl rfl (Nat.le_of_ble_eq_true rfl)) rfl rfl ?_
   refine WPD.take 2 rfl (by kernel_rfl) (q_load sc9 rfl rfl rfl) rfl rfl ?_
   obtain ⟨⟨x15, x16, x17⟩, h5, H⟩ := bnd H
   refine WPD.ef 3 [0] [] rfl (runs_call (s := []) (t := [1]) (N := 2) (bor := []) fn14 rfl (s_val_Str k x4 x15 x16 x17 h5) ⟨rfl, trivial, by decide, rfl, trivial⟩ rfl trivial (.ren rfl rfl .nil) rfl BB1 rfl) ?_
   obtain ⟨x18, h6, H⟩ := bnd H
   refine WPD.tT 4 rfl (q_nm (q_eqlAg (xs := [(.int .i64 x1), (.int .i64 x2), (.int .i64 x3), (.string x4), (.bool x5), (.int .i64 x6)]) (ys := [(.int .i64 x15), (.int .i64 0), (.int .i64 0), (.string x16), (.bool false), (.int .i64 x17)]) (n := 9) rfl eg29 rfl rfl eq29) (nm_bool h6)) ?_
   refine WPD.tT 5 rfl (q_as (v := .lit (.bool _)) rfl) ?_
   refine WPD.doneW (by kernel_rfl) ?_
   refine W.now ?_
   refine Then.n ?_
   refine WP.retW ?_
   have q0 := j1 H
   subst q0
   exact W.now (InBlock.r (Then.r (BodyR.mkR trivial rfl [] ⟨rfl, rfl⟩ ⟨rfl, trivial, by decide, rfl, trivial⟩ rfl rfl)))
 replace H := cnf hb6 H
 refine WP.sr ?_
 refine WPL.qq (q_eql rfl rfl) ?_
 refine WPL.qq (q_as (v := .lit (.bool _)) rfl) ?_
 refine WPL.nx ?_
 refine WP.cond (t := (decide (x1 = 4))) rfl (fun hb7 => ?_) (fun hb7 => ?_)
 · replace H := cnt hb7 H
   refine WP.seq ?_
   refine WP.regionD' 6 [0] [] mixed rfl ?_
   refine WPD.tT 1 rfl (q_fieldAddr fi29_4 rfl rfl) ?_
   refine WPD.take 0 rfl (by kernel_rfl) (q_load_ag ag29 rfl rfl (Nat.le_of_ble_eq_true rfl)) rfl rfl ?_
   refine WPD.take 2 rfl (by kernel_rfl) (q_load sc3 rfl rfl rfl) rfl rfl ?_
   obtain ⟨x19, h7, H⟩ := bnd H
   refine WPD.ef 3 [0] [] rfl (runs_call (s := []) (t := [1]) (N := 2) (bor := []) fn16 rfl (s_val_Err k x6 x19 h7) ⟨rfl, trivial, by decide, rfl, trivial⟩ rfl trivial (.ren rfl rfl .nil) rfl BB1 rfl) ?_
   obtain ⟨x20, h8, H⟩ := bnd H
   refine WPD.tT 4 rfl (q_nm (q_eqlAg (xs := [(.int .i64 x1), (.int .i64 x2), (.int .i64 x3), (.string x4), (.bool x5), (.int .i64 x6)]) (ys := [(.int .i64 4), (.int .i64 0), (.int .i64 0), (.string (ByteArray.mk #[])), (.bool false), (.int .i64 x19)]) (n := 9) rfl eg29 rfl rfl eq29) (nm_bool h8)) ?_
   refine WPD.tT 5 rfl (q_as (v := .lit (.bool _)) rfl) ?_
   refine WPD.doneW (by kernel_rfl) ?_
   refine W.now ?_
   refine Then.n ?_
   refine WP.retW ?_
   have q0 := j1 H
   subst q0
   exact W.now (InBlock.r (Then.r (BodyR.mkR trivial rfl [] ⟨rfl, rfl⟩ ⟨rfl, trivial, by decide, rfl, trivial⟩ rfl rfl)))
 replace H := cnf hb7 H
 refine WP.skipW ?_
 refine W.now ?_
 refine InBlock.n ?_
 refine Then.n ?_
 refine WP.sr ?_
 refine WPL.qq (q_as (v := .lit (.bool _)) rfl) ?_
 refine WPL.nx ?_
 refine WP.retW ?_
 have q0 := j1 H
 subst q0
 exact W.now (BodyR.mkR trivial rfl [] ⟨rfl, rfl⟩ ⟨rfl, trivial, by decide, rfl, trivial⟩ rfl rfl)
theorem s_val_clean (k : Nat) (x1 : Int) (x2 : Int) (x3 : Int) (x4 : ByteArray) (x5 : Bool) (x6 : Int) (x7 : Int) (x8 : Int) (x9 : Int) (x10 : ByteArray) (x11 : Bool) (x12 : Int) (H : g_val_clean k x1 x2 x3 x4 x5 x6 = some (x7, x8, x9, x10, x11, x12)) : Go.Q.Spec Tryz.prog 53 0 [.agg [.lit (.int .i64 x1), .lit (.int .i64 x2), .lit (.int .i64 x3), .lit (.string x4), .lit (.bool x5), .lit (.int .i64 x6)]] Mem.nil (fun o M => o = .ret (.agg [.lit (.int .i64 x7), .lit (.int .i64 x8), .lit (.int .i64 x9), .lit (.string x10), .lit (.bool x11), .lit (.int .i64 x12)]) ∧ M = (Mem.nil.push (.cells 29 [.lit (.int .i64 x7), .lit (.int .i64 x8), .lit (.int .i64 x9), .lit (.string x10), .lit (.bool x11), .lit (.int .i64 x12)]))) := by
 unfold g_val_clean at H
 refine Go.Q.Spec.of_bodyR (az := [(29, 6)]) (rs := [.cell 2 29]) (nt := 7) Tryz.func53 rfl rfl (by intro t T h; simp at h; rcases h with ⟨rfl, rfl⟩ <;> first | exact ag29) rfl rfl fun cx hnp => ?_
 refine WP.sr ?_
 refine WPL.d (d_box rfl rfl) rfl ?_
 refine WPL.d (d_alloc ze29 rfl) rfl ?_
 refine WPL.nx ?_
 refine WP.seq ?_
 refine WP.sr ?_
 refine WPL.qq (q_load_ag ag29 rfl rfl (Nat.le_of_ble_eq_true rfl)) ?_
 obtain ⟨x13, h1, H⟩ := bnd H
 refine WPL.c (runs_call (s := []) (t := []) (N := 2) (bor := []) fn25 rfl (s_val_Right k x1 x2 x3 x4 x5 x6 x13 h1) ⟨rfl, trivial, by decide, rfl, trivial⟩ rfl trivial (.ren rfl rfl .nil) rfl trivial rfl) rfl ?_
 refine WPL.nx ?_
 refine WP.cond (t := x13) rfl (fun hb1 => ?_) (fun hb1 => ?_)
 · replace H := cnt hb1 H
   refine WP.sr ?_
   refine WPL.qq (q_load_ag ag29 rfl rfl (Nat.le_of_ble_eq_true rfl)) ?_
   refine WPL.s (s_store sz29 rfl rfl rfl rfl rfl) ?_
   refine WPL.nx ?_
   refine WP.retW ?_
   obtain ⟨rfl, rfl, rfl, rfl, rfl, rfl⟩ := j6 H
   exact W.now (Then.r (BodyR.mkR trivial rfl [1] ⟨rfl, rfl⟩ ⟨rfl, AA1, by decide, rfl, trivial⟩ rfl rfl))
 replace H := cnf hb1 H
 refine WP.skipW ?_
 refine W.now ?_
 refine Then.n ?_
 refine WP.sr ?_
 obtain ⟨x14, h2, H⟩ := bnd H
 refine WPL.c (runs_call (s := []) (t := [2]) (N := 3) (bor := []) fn16 rfl (s_val_Err k 2 x14 h2) ⟨rfl, trivial, by decide, rfl, trivial⟩ rfl trivial (.ren rfl rfl .nil) rfl BB1 rfl) rfl ?_
 refine WPL.s (s_store sz29 rfl rfl rfl rfl rfl) ?_
 refine WPL.nx ?_
 refine WP.retW ?_
 obtain ⟨rfl, rfl, rfl, rfl, rfl, rfl⟩ := j6 H
 exact W.now (BodyR.mkR trivial rfl [1] ⟨rfl, rfl⟩ ⟨rfl, AA1, by decide, rfl, trivial⟩ rfl rfl)
theorem s_st_Trim (k : Nat) (x1 : ByteArray) (x2 : ByteArray) (x3 : ByteArray) (H : g_st_Trim k x1 x2 = some x3) : Go.Q.Spec Tryz.prog 76 0 [.lit (.string x1), .lit (.string x2)] Mem.nil (fun o M => o = .ret (.lit (.string x3)) ∧ M = Mem.nil) := by
 unfold g_st_Trim at H
 refine Go.Q.Spec.of_bodyR (az := []) (rs := [.tmp 4]) (nt := 43) Tryz.func76 rfl rfl (by intro t T h; simp at h) rfl rfl fun cx hnp => ?_
 refine WP.sr ?_
 refine WPL.qq (q_as (v := .lit (.string _)) rfl) ?_
 refine WPL.nx ?_
 refine WP.seq ?_
 refine WP.seq ?_
 obtain ⟨x4, H1, H⟩ := bnd H
 refine WP.monoW (Q := fun x E M => x = .normal ∧ E = (((Env.none.upd 0 (.lit (.string x1))).upd 1 (.lit (.string x2))).upd 12 (.lit (.bool x4))) ∧ M = Mem.nil) ?_ ?_
 · clear H
   have H := H1
   clear H1
   refine WP.region ?_
   refine WPL.qq (q_mv (v := .lit (.string _)) rfl) ?_
   obtain ⟨x5, h1, H⟩ := bnd H
   refine WPL.qq (q_nm (q_eqls rfl rfl) (nm_bool h1)) ?_
   refine WPL.qq (q_mv (v := .lit (.bool _)) rfl) ?_
   refine WPL.split (t := 9) (b := x5) rfl (fun hb1 => ?_) (fun hb1 => ?_)
   · replace H := cnt hb1 H
     refine WPL.sg true rfl (lb hb1) ?_
     refine WPL.sg true rfl (lb hb1) ?_
     refine WPL.qq (q_pickT (v := .lit (.bool _)) (lb hb1) rfl) ?_
     refine WPL.nilW ?_
     have q0 := j1 H
     subst q0
     exact W.wk [] hnp r3 ⟨rfl, trivial, by decide, rfl, trivial⟩ (LeE.u (LeE.u (LeE.u (LeE.none rfl rfl)))) rfl
   replace H := cnf hb1 H
   refine WPL.gq rfl (lb hb1) (q_mv (v := .lit (.string _)) rfl) ?_
   obtain ⟨x6, h2, H⟩ := bnd H
   refine WPL.gq rfl (lb hb1) (q_nm (q_eqls rfl rfl) (nm_bool h2)) ?_
   refine WPL.qq (q_pickF (v := .lit (.bool _)) (lb hb1) rfl) ?_
   refine WPL.nilW ?_
   have q0 := j1 H
   subst q0
   exact W.wk [] hnp r3 ⟨rfl, trivial, by decide, rfl, trivial⟩ (LeE.u (LeE.u (LeE.u (LeE.none rfl rfl)))) rfl
 rintro _ _ _ ⟨rfl, rfl, rfl⟩
 refine W.now ?_
 refine Then.n ?_
 refine WP.cond (t := x4) rfl (fun hb2 => ?_) (fun hb2 => ?_)
 · replace H := cnt hb2 H
   refine WP.sr ?_
   refine WPL.qq (q_mv (v := .lit (.string _)) rfl) ?_
   refine WPL.qq (q_as (v := .lit (.string _)) rfl) ?_
   refine WPL.nx ?_
   refine WP.retW ?_
   have q0 := j1 H
   subst q0
   exact W.now (Then.r (BodyR.mkR trivial rfl [] ⟨rfl, rfl⟩ ⟨rfl, trivial, by decide, rfl, trivial⟩ rfl rfl))
 replace H := cnf hb2 H
 refine WP.skipW ?_
 refine W.now ?_
 refine Then.n ?_
 refine WP.seq ?_
 refine WP.seq ?_
 obtain ⟨x7, H2, H⟩ := bnd H
 refine WP.monoW (Q := fun x E M => x = .normal ∧ E = (((Env.none.upd 0 (.lit (.string x1))).upd 1 (.lit (.string x2))).upd 21 (.lit (.bool x7))) ∧ M = Mem.nil) ?_ ?_
 · clear H
   have H := H2
   clear H2
   refine WP.region ?_
   refine WPL.qq (q_mv (v := .lit (.string _)) rfl) ?_
   refine WPL.qq (q_len_str Tryz.underlying9 rfl) ?_
   obtain ⟨x8, h3, H⟩ := bnd H
   refine WPL.qq (q_nm (q_eql rfl rfl) (nm_bool h3)) ?_
   refine WPL.qq (q_mv (v := .lit (.bool _)) rfl) ?_
   refine WPL.split (t := 17) (b := x8) rfl (fun hb3 => ?_) (fun hb3 => ?_)
   · replace H := cnt hb3 H
     refine WPL.gq rfl (lb hb3) (q_mv (v := .lit (.string _)) rfl) ?_
     obtain ⟨x9, h4, H⟩ := bnd H
     refine WPL.gq rfl (lb hb3) (q_index_str Tryz.underlying9 rfl rfl h4) ?_
     refine WPL.gq rfl (lb hb3) (q_lss rfl rfl) ?_
     refine WPL.qq (q_pickT (v := .lit (.bool _)) (lb hb3) rfl) ?_
     refine WPL.nilW ?_
     have q0 := j1 H
     subst q0
     exact W.wk [] hnp r3 ⟨rfl, trivial, by decide, rfl, trivial⟩ (LeE.u (LeE.u (LeE.u (LeE.none rfl rfl)))) rfl
   replace H := cnf hb3 H
   refine WPL.sg false rfl (lb hb3) ?_
   refine WPL.sg false rfl (lb hb3) ?_
   refine WPL.sg false rfl (lb hb3) ?_
   refine WPL.qq (q_pickF (v := .lit (.bool _)) (lb hb3) rfl) ?_
   refine WPL.nilW ?_
   have q0 := j1 H
   subst q0
   exact W.wk [] hnp r3 ⟨rfl, trivial, by decide, rfl, trivial⟩ (LeE.u (LeE.u (LeE.u (LeE.none rfl rfl)))) rfl
 rintro _ _ _ ⟨rfl, rfl, rfl⟩
 refine W.now ?_
 refine Then.n ?_
 refine WP.cond (t := x7) rfl (fun hb4 => ?_) (fun hb4 => ?_)
 · replace H := cnt hb4 H
   refine WP.seq ?_
   refine WP.regionD' 8 [] [] mixed rfl ?_
   refine WPD.tT 0 rfl (q_mv (v := .lit (.string _)) rfl) ?_
   refine WPD.tT 1 rfl (q_mv (v := .lit (.string _)) rfl) ?_
   obtain ⟨x10, h5, H⟩ := bnd H
   refine WPD.tT 2 rfl (q_index_str Tryz.underlying9 rfl rfl h5) ?_
   refine WPD.tT 4 rfl (q_mv (v := .lit (.string _)) rfl) ?_
   obtain ⟨x11, h6, H⟩ := bnd H
   refine WPD.tT 5 rfl (q_index_str Tryz.underlying9 rfl rfl h6) ?_
   obtain ⟨x12, h6, H⟩ := bnd H
   refine WPD.ef 3 [] [] rfl (runs_call (s := []) (t := []) (N := 0) (bor := []) fn123 rfl (s_st_trimRightByte k x1 x10 x12 h6) ⟨rfl, trivial, by decide, rfl, trivial⟩ rfl trivial (.ren rfl rfl (.ren rfl rfl .nil)) rfl trivial rfl) ?_
   obtain ⟨x13, h7, H⟩ := bnd H
   refine WPD.ef 6 [] [] rfl (runs_call (s := []) (t := []) (N := 0) (bor := []) fn122 rfl (s_st_trimLeftByte k x12 x11 x13 h7) ⟨rfl, trivial, by decide, rfl, trivial⟩ rfl trivial (.ren rfl rfl (.ren rfl rfl .nil)) rfl trivial rfl) ?_
   refine WPD.tT 7 rfl (q_as (v := .lit (.string _)) rfl) ?_
   refine WPD.doneW (by kernel_rfl) ?_
   refine W.now ?_
   refine Then.n ?_
   refine WP.retW ?_
   have q0 := j1 H
   subst q0
   exact W.now (Then.r (BodyR.mkR trivial rfl [] ⟨rfl, rfl⟩ ⟨rfl, trivial, by decide, rfl, trivial⟩ rfl rfl))
 replace H := cnf hb4 H
 refine WP.skipW ?_
 refine W.now ?_
 refine Then.n ?_
 refine WP.seq ?_
 refine WP.sr ?_
 refine WPL.qq (q_mv (v := .lit (.string _)) rfl) ?_
 exact nf rfl H
theorem s_val_Num (k : Nat) (x1 : Int) (x2 : Int) (x3 : Int) (x4 : ByteArray) (x5 : Bool) (x6 : Int) (x7 : Int) (x8 : Int) (x9 : Int) (x10 : ByteArray) (x11 : Bool) (x12 : Int) (H : g_val_Num k x1 x2 x3 x4 x5 x6 = some (x7, x8, x9, x10, x11, x12)) : Go.Q.Spec Tryz.prog 36 0 [.agg [.lit (.int .i64 x1), .lit (.int .i64 x2), .lit (.int .i64 x3), .lit (.string x4), .lit (.bool x5), .lit (.int .i64 x6)]] Mem.nil (fun o M => o = .ret (.agg [.lit (.int .i64 x7), .lit (.int .i64 x8), .lit (.int .i64 x9), .lit (.string x10), .lit (.bool x11), .lit (.int .i64 x12)]) ∧ M = (Mem.nil.push (.cells 29 [.lit (.int .i64 x7), .lit (.int .i64 x8), .lit (.int .i64 x9), .lit (.string x10), .lit (.bool x11), .lit (.int .i64 x12)]))) := by
 unfold g_val_Num at H
 refine Go.Q.Spec.of_bodyR (az := [(29, 6)]) (rs := [.cell 2 29]) (nt := 36) Tryz.func36 rfl rfl (by intro t T h; simp at h; rcases h with ⟨rfl, rfl⟩ <;> first | exact ag29) rfl rfl fun cx hnp => ?_
 refine WP.sr ?_
 refine WPL.d (d_box rfl rfl) rfl ?_
 refine WPL.d (d_alloc ze29 rfl) rfl ?_
 refine WPL.nx ?_
 refine WP.sr ?_
 refine WPL.qq (q_load_ag ag29 rfl rfl (Nat.le_of_ble_eq_true rfl)) ?_
 obtain ⟨⟨x13, x14, x15, x16, x17, x18⟩, h1, H⟩ := bnd H
 refine WPL.c (runs_call (s := []) (t := [2]) (N := 3) (bor := []) fn53 rfl (s_val_clean k x1 x2 x3 x4 x5 x6 x13 x14 x15 x16 x17 x18 h1) ⟨rfl, trivial, by decide, rfl, trivial⟩ rfl trivial (.ren rfl rfl .nil) rfl BB1 rfl) rfl ?_
 refine WPL.s (s_store sz29 rfl rfl rfl rfl rfl) ?_
 refine WPL.nx ?_
 refine WP.sr ?_
 refine WPL.qq (q_build bu23 rfl) ?_
 refine WPL.d (d_alloc ze23 rfl) rfl ?_
 refine WPL.s (s_store sz23 rfl rfl rfl rfl rfl) ?_
 refine WPL.nx ?_
 refine WP.seq ?_
 refine WP.sr ?_
 refine WPL.qq (q_fieldAddr fi29_0 rfl rfl) ?_
 refine WPL.qq (q_load sc3 rfl rfl rfl) ?_
 refine WPL.nx ?_
 refine WP.block ?_
 refine WP.seq ?_
 refine WP.block ?_
 refine WP.seq ?_
 obtain ⟨y1, H1, H⟩ := bnd H
 refine WP.monoW (Q := fun x E M => match (generalizing := false) y1 with | (Sum.inl x19) => x = .normal ∧ E = ((Env.none.upd 2 (.ptr 0 0)).upd 3 (.ptr 1 0)) ∧ M = ((Mem.nil.push (.cells 29 [.lit (.int .i64 0), .lit (.int .i64 0), .lit (.int .i64 0), .lit (.string (ByteArray.mk #[])), .lit (.bool false), .lit (.int .i64 0)])).push (.cells 23 [.lit (.int .i64 x19), .lit (.int .i64 0)])) | (Sum.inr (Sum.inl _)) => x = .exit 3 ∧ E = ((Env.none.upd 1 (.ptr 0 0)).upd 2 (.ptr 1 0)) ∧ M = ((Mem.nil.push (.cells 29 [.lit (.int .i64 x13), .lit (.int .i64 x14), .lit (.int .i64 x15), .lit (.string x16), .lit (.bool x17), .lit (.int .i64 x18)])).push (.cells 29 [.lit (.int .i64 0), .lit (.int .i64 0), .lit (.int .i64 0), .lit (.string (ByteArray.mk #[])), .lit (.bool false), .lit (.int .i64 0)])) | (Sum.inr (Sum.inr _)) => x = .exit 0 ∧ E = ((Env.none.upd 1 (.ptr 0 0)).upd 2 (.ptr 1 0)) ∧ M = ((Mem.nil.push (.cells 29 [.lit (.int .i64 x13), .lit (.int .i64 x14), .lit (.int .i64 x15), .lit (.string x16), .lit (.bool x17), .lit (.int .i64 x18)])).push (.cells 29 [.lit (.int .i64 0), .lit (.int .i64 0), .lit (.int .i64 0), .lit (.string (ByteArray.mk #[])), .lit (.bool false), .lit (.int .i64 0)]))) ?_ ?_
 · clear H
   have H := H1
   clear H1
   refine WP.block ?_
   refine WP.seq ?_
   refine WP.block ?_
   refine WP.seq ?_
   refine WP.seq ?_
   refine WP.sr ?_
   refine WPL.qq (q_eql rfl rfl) ?_
   refine WPL.qq (q_as (v := .lit (.bool _)) rfl) ?_
   refine WPL.nx ?_
   refine WP.cond (t := (decide (x13 = 3))) rfl (fun hb1 => ?_) (fun hb1 => ?_)
   · replace H := cnt hb1 H
     refine WP.exitW ?_
     refine W.now ?_
     refine Then.x ?_
     refine Then.x ?_
     refine InBlock.x0 ?_
     refine Then.n ?_
     refine WP.sr ?_
     refine WPL.qq (q_fieldAddr fi29_3 rfl rfl) ?_
     refine WPL.qq (q_load sc4 rfl rfl rfl) ?_
     refine WPL.nx ?_
     refine WP.cond (t := x17) rfl (fun hb2 => ?_) (fun hb2 => ?_)
     · replace H := cnt hb2 H
       refine WP.region ?_
       refine WPL.qq (q_fieldAddr fi23_0 rfl rfl) ?_
       refine WPL.s (s_store sz2 rfl rfl rfl rfl rfl) ?_
       refine WPL.nilW ?_
       have q0 := j1 H
       subst q0
       exact W.wk [1, 3] hnp (InBlock.n r3) ⟨rfl, AA2, by decide, rfl, trivial⟩ (LeE.u (LeE.u (LeE.none rfl rfl))) rfl
     replace H := cnf hb2 H
     refine WP.skipW ?_
     have q0 := j1 H
     subst q0
     exact W.wk [1, 3] hnp (InBlock.n r3) ⟨rfl, AA2, by decide, rfl, trivial⟩ (LeE.u (LeE.u (LeE.none rfl rfl))) rfl
   replace H := cnf hb1 H
   refine WP.skipW ?_
   refine W.now ?_
   refine Then.n ?_
   refine WP.seq ?_
   refine WP.sr ?_
   refine WPL.qq (q_eql rfl rfl) ?_
   refine WPL.qq (q_as (v := .lit (.bool _)) rfl) ?_
   refine WPL.nx ?_
   refine WP.cond (t := (decide (x13 = 0))) rfl (fun hb3 => ?_) (fun hb3 => ?_)
   · replace H := cnt hb3 H
     refine WP.exitW ?_
     have q0 := j1 H
     subst q0
     exact W.wk [1, 3] hnp (Then.x (Then.x (InBlock.x rfl (Then.x (InBlock.x0 r3))))) ⟨rfl, AA2, by decide, rfl, trivial⟩ (LeE.u (LeE.u (LeE.none rfl rfl))) rfl
   replace H := cnf hb3 H
   refine WP.skipW ?_
   refine W.now ?_
   refine Then.n ?_
   refine WP.sr ?_
   refine WPL.qq (q_eql rfl rfl) ?_
   refine WPL.qq (q_as (v := .lit (.bool _)) rfl) ?_
   refine WPL.nx ?_
   refine WP.cond (t := (decide (x13 = 2))) rfl (fun hb4 => ?_) (fun hb4 => ?_)
   · replace H := cnt hb4 H
     refine WP.exitW ?_
     have q0 := j1 H
     subst q0
     exact W.wk [0, 1] hnp (Then.x (InBlock.x rfl (Then.x (InBlock.x rfl r3)))) ⟨rfl, AA2, by decide, rfl, trivial⟩ (LeE.u (LeE.u (LeE.none rfl rfl))) rfl
   replace H := cnf hb4 H
   refine WP.skipW ?_
   refine W.now ?_
   refine Then.n ?_
   refine WP.exitW ?_
   have q0 := j1 H
   subst q0
   exact W.wk [0, 1] hnp (InBlock.x rfl (Then.x (InBlock.x rfl r3))) ⟨rfl, AA2, by decide, rfl, trivial⟩ (LeE.u (LeE.u (LeE.none rfl rfl))) rfl
 rcases y1 with x19 | _ | _
 · rintro _ _ _ ⟨rfl, rfl, rfl⟩
   refine W.now ?_
   refine Then.n ?_
   refine WP.seq ?_
   refine WP.sr ?_
   refine WPL.qq (q_load_ag ag23 rfl rfl (Nat.le_of_ble_eq_true rfl)) ?_
   obtain ⟨⟨x20, x21, x22, x23⟩, h2, H⟩ := bnd H
   refine WPL.c (runs_call (s := []) (t := [2]) (N := 3) (bor := []) fn12 rfl (s_val_Of k x19 0 0 x20 x21 x22 x23 h2) ⟨rfl, trivial, by decide, rfl, trivial⟩ rfl trivial (.ren rfl rfl (.ren rfl rfl .nil)) rfl BB1 rfl) rfl ?_
   refine WPL.s (s_store sz29 rfl rfl rfl rfl rfl) ?_
   refine WPL.nx ?_
   refine WP.retW ?_
   obtain ⟨rfl, rfl, rfl, rfl, rfl, rfl⟩ := j6 H
   exact W.now (Then.r (InBlock.r (Then.r (InBlock.r (Then.r (BodyR.mkR trivial rfl [0] ⟨rfl, rfl⟩ ⟨rfl, AA1, by decide, rfl, trivial⟩ rfl rfl))))))
 · rintro _ _ _ ⟨rfl, rfl, rfl⟩
   refine W.now ?_
   refine Then.x ?_
   refine InBlock.x0 ?_
   refine Then.n ?_
   refine WP.seq ?_
   refine WP.sr ?_
   refine WPL.qq (q_fieldAddr fi29_2 rfl rfl) ?_
   refine WPL.qq (q_load sc9 rfl rfl rfl) ?_
   obtain ⟨x24, h3, H⟩ := bnd H
   refine WPL.c (runs_call (s := []) (t := []) (N := 2) (bor := []) fn76 rfl (s_st_Trim k x16 (ByteArray.mk #[32]) x24 h3) ⟨rfl, trivial, by decide, rfl, trivial⟩ rfl trivial (.ren rfl rfl (.ren rfl rfl .nil)) rfl trivial rfl) rfl ?_
   obtain ⟨⟨x25, x26, x27⟩, h4, H⟩ := bnd H
   refine WPL.c (runs_call (s := []) (t := [2]) (N := 3) (bor := []) fn49 rfl (s_dec_Parse k x24 x25 x26 x27 h4) ⟨rfl, trivial, by decide, rfl, trivial⟩ rfl trivial (.ren rfl rfl .nil) rfl BB1 rfl) rfl ?_
   refine WPL.qq (q_mv (v := .tup _) rfl) ?_
   refine WPL.qq (q_extract rfl rfl) ?_
   refine WPL.qq (q_extract rfl rfl) ?_
   refine WPL.d (d_alloc ze23 rfl) rfl ?_
   refine WPL.s (s_store sz23 rfl rfl rfl rfl rfl) ?_
   refine WPL.qq (q_as (v := .lit (.int _ _)) rfl) ?_
   refine WPL.nx ?_
   refine WP.seq ?_
   refine WP.sr ?_
   refine WPL.qq (q_mv (v := .lit (.int _ _)) rfl) ?_
   refine WPL.qq (q_eql rfl rfl) ?_
   refine WPL.nx ?_
   refine WP.cond (t := (decide (x25 = 40))) rfl (fun hb5 => ?_) (fun hb5 => ?_)
   · replace H := cnt hb5 H
     refine WP.sr ?_
     obtain ⟨x28, h5, H⟩ := bnd H
     refine WPL.c (runs_call (s := []) (t := [4]) (N := 5) (bor := []) fn16 rfl (s_val_Err k 2 x28 h5) ⟨rfl, trivial, by decide, rfl, trivial⟩ rfl trivial (.ren rfl rfl .nil) rfl BB1 rfl) rfl ?_
     refine WPL.s (s_store sz29 rfl rfl rfl rfl rfl) ?_
     refine WPL.nx ?_
     refine WP.retW ?_
     obtain ⟨rfl, rfl, rfl, rfl, rfl, rfl⟩ := j6 H
     exact W.now (Then.r (Then.r (InBlock.r (Then.r (BodyR.mkR trivial rfl [1] ⟨rfl, rfl⟩ ⟨rfl, AA1, by decide, rfl, trivial⟩ rfl rfl)))))
   replace H := cnf hb5 H
   refine WP.skipW ?_
   refine W.now ?_
   refine Then.n ?_
   refine WP.sr ?_
   refine WPL.qq (q_load_ag ag23 rfl rfl (Nat.le_of_ble_eq_true rfl)) ?_
   refine WPL.qq (q_mv (v := .lit (.int _ _)) rfl) ?_
   obtain ⟨⟨x29, x30, x31, x32⟩, h6, H⟩ := bnd H
   refine WPL.c (runs_call (s := []) (t := [4]) (N := 5) (bor := []) fn12 rfl (s_val_Of k x26 x27 x25 x29 x30 x31 x32 h6) ⟨rfl, trivial, by decide, rfl, trivial⟩ rfl trivial (.ren rfl rfl (.ren rfl rfl .nil)) rfl BB1 rfl) rfl ?_
   refine WPL.s (s_store sz29 rfl rfl rfl rfl rfl) ?_
   refine WPL.nx ?_
   refine WP.retW ?_
   obtain ⟨rfl, rfl, rfl, rfl, rfl, rfl⟩ := j6 H
   exact W.now (Then.r (InBlock.r (Then.r (BodyR.mkR trivial rfl [1] ⟨rfl, rfl⟩ ⟨rfl, AA1, by decide, rfl, trivial⟩ rfl rfl))))
 rintro _ _ _ ⟨rfl, rfl, rfl⟩
 refine W.now ?_
 refine Then.x ?_
 refine InBlock.x rfl ?_
 refine Then.x ?_
 refine InBlock.x0 ?_
 refine Then.n ?_
 refine WP.sr ?_
 refine WPL.qq (q_load_ag ag29 rfl rfl (Nat.le_of_ble_eq_true rfl)) ?_
 refine WPL.s (s_store sz29 rfl rfl rfl rfl rfl) ?_
 refine WPL.nx ?_
 refine WP.retW ?_
 obtain ⟨rfl, rfl, rfl, rfl, rfl, rfl⟩ := j6 H
 exact W.now (BodyR.mkR trivial rfl [1] ⟨rfl, rfl⟩ ⟨rfl, AA1, by decide, rfl, trivial⟩ rfl rfl)
theorem s_dec_clean (k : Nat) (x1 : Int) (x2 : Int) (x3 : Int) (x4 : Int) (x5 : Bool) (x6 : Int) (x7 : Int) (x8 : Int) (x9 : Int) (H : g_dec_clean k x1 x2 x3 x4 = some (x5, x6, x7, x8, x9)) : Go.Q.Spec Tryz.prog 99 3 [.sl 0 1 0 2] (((Mem.nil.push (.cells 96 [.ptr 1 0, .ptr 2 0])).push (.cells 23 [.lit (.int .i64 x1), .lit (.int .i64 x2)])).push (.cells 23 [.lit (.int .i64 x3), .lit (.int .i64 x4)])) (fun o M => o = .ret (.lit (.bool x5)) ∧ M = (((Mem.nil.push (.cells 96 [.ptr 1 0, .ptr 2 0])).push (.cells 23 [.lit (.int .i64 x6), .lit (.int .i64 x7)])).push (.cells 23 [.lit (.int .i64 x8), .lit (.int .i64 x9)]))) := by
 unfold g_dec_clean at H
 refine Go.Q.Spec.of_bodyR (az := []) (rs := [.tmp 2]) (nt := 28) Tryz.func99 rfl rfl (by intro t T h; simp at h) rfl rfl fun cx hnp => ?_
 refine WP.sr ?_
 refine WPL.qq (q_as (v := .lit (.bool _)) rfl) ?_
 refine WPL.nx ?_
 refine WP.seq ?_
 refine WP.sr ?_
 refine WPL.qq (q_mv (v := .sl _ _ _ _) rfl) ?_
 refine WPL.qq (q_len_sl (k := 2) sl144 rfl rfl) ?_
 refine WPL.qq (q_mv (v := .lit (.int _ _)) rfl) ?_
 refine WPL.nx ?_
 refine WP.block ?_
 refine WP.loopU ?_
 refine WPI.round ?_
 refine WP.sr ?_
 refine WPL.qq (q_lss rfl rfl) ?_
 refine WPL.nx ?_
 refine WP.seq ?_
 refine WP.condT rfl ?_
 refine WP.skipW ?_
 refine W.now ?_
 refine Then.n ?_
 refine WP.seq ?_
 refine WP.block ?_
 refine WP.sr ?_
 refine WPL.qq (q_index_sl (o := 0) sl144 rfl rfl rfl rfl) ?_
 refine WPL.qq (q_load sc96 rfl rfl rfl) ?_
 refine WPL.qq (q_as (v := .ptr _ _) rfl) ?_
 refine WPL.nx ?_
 refine WP.seq ?_
 refine WP.sr ?_
 refine WPL.qq (q_mv (v := .ptr _ _) rfl) ?_
 refine WPL.qq (q_nilCheck rfl) ?_
 refine WPL.qq (q_load_ag ag23 rfl rfl (Nat.le_of_ble_eq_true rfl)) ?_
 refine WPL.d (d_buildSlice (ds := ([(⟨x1, x2⟩ : S_api_Dec)] : List S_api_Dec)) (R := rdS_api_Dec) li130 rfl rfl rfl rfl rfl (JoinRows.cons (l := [.lit (.int .i64 x1), .lit (.int .i64 x2)]) (Joins.via (Joins.cons Joins.sc (Joins.cons Joins.sc Joins.unit))) rfl JoinRows.nil) rfl rfl) rfl ?_
 obtain ⟨x10, h1, H⟩ := bnd H
 refine WPL.c (runs_call (s := []) (t := []) (N := 4) (bor := [3]) fn83 rfl (s_dec_ranged k ([(⟨x1, x2⟩ : S_api_Dec)] : List S_api_Dec) x10 h1) ⟨rfl, trivial, by decide, rfl, trivial⟩ rfl ⟨trivial, rfl, rfl, trivial⟩ (.row rfl rfl .nil) rfl trivial rfl) rfl ?_
 refine WPL.qq (q_not rfl) ?_
 refine WPL.nx ?_
 refine WP.cond (t := (!x10)) rfl (fun hb1 => ?_) (fun hb1 => ?_)
 · replace H := cnt hb1 H
   refine WP.sr ?_
   refine WPL.qq (q_as (v := .lit (.bool _)) rfl) ?_
   refine WPL.nx ?_
   refine WP.retW ?_
   obtain ⟨rfl, rfl, rfl, rfl, rfl⟩ := j5 H
   exact W.now (Then.r (InBlock.r (Then.r (Then.r (InBlock.r (Then.r (BodyR.mkR trivial rfl [0, 1, 2] ⟨rfl, rfl⟩ ⟨rfl, AA3, by decide, rfl, BB3⟩ rfl rfl)))))))
 replace H := cnf hb1 H
 refine WP.skipW ?_
 refine W.now ?_
 refine Then.n ?_
 refine WP.region ?_
 refine WPL.qq (q_mv (v := .ptr _ _) rfl) ?_
 refine WPL.qq (q_mv (v := .ptr _ _) rfl) ?_
 refine WPL.qq (q_nilCheck rfl) ?_
 refine WPL.qq (q_load_ag ag23 rfl rfl (Nat.le_of_ble_eq_true rfl)) ?_
 obtain ⟨x11, h2, H⟩ := bnd H
 refine WPL.c (runs_call (s := []) (t := [4]) (N := 5) (bor := []) fn81 rfl (s_dec_of k x1 x2 x11 h2) ⟨rfl, trivial, by decide, rfl, trivial⟩ rfl trivial (.ren rfl rfl .nil) rfl BB1 rfl) rfl ?_
 obtain ⟨⟨x12, x13, x14⟩, h3, H⟩ := bnd H
 refine WPL.c (runs_call (s := []) (t := [5]) (N := 6) (bor := []) fn82 rfl (s_dec_num_tell k (decide (x1 < 0)) 0 x11 x2 x12 x13 x14 h3) ⟨rfl, trivial, by decide, rfl, trivial⟩ rfl trivial (.ren rfl rfl .nil) rfl BB1 rfl) rfl ?_
 refine WPL.qq (q_mv (v := .tup _) rfl) ?_
 refine WPL.qq (q_extract rfl rfl) ?_
 refine WPL.qq (q_extract rfl rfl) ?_
 refine WPL.qq (q_nilCheck rfl) ?_
 refine WPL.s (s_store sz23 rfl rfl rfl rfl rfl) ?_
 refine WPL.nilW ?_
 refine W.now ?_
 refine InBlock.n ?_
 refine Then.n ?_
 refine WP.region ?_
 refine WPL.qq (q_nm (q_add rfl rfl) (fold_int (b := 1) (by decide))) ?_
 refine WPL.qq (q_mv (v := .lit (.int _ _)) rfl) ?_
 refine WPL.nx ?_
 refine WPI.round ?_
 refine WP.sr ?_
 refine WPL.qq (q_lss rfl rfl) ?_
 refine WPL.nx ?_
 refine WP.seq ?_
 refine WP.condT rfl ?_
 refine WP.skipW ?_
 refine W.now ?_
 refine Then.n ?_
 refine WP.seq ?_
 refine WP.block ?_
 refine WP.sr ?_
 refine WPL.qq (q_index_sl (o := 1) sl144 rfl rfl rfl rfl) ?_
 refine WPL.qq (q_load sc96 rfl rfl rfl) ?_
 refine WPL.qq (q_as (v := .ptr _ _) rfl) ?_
 refine WPL.nx ?_
 refine WP.seq ?_
 refine WP.sr ?_
 refine WPL.qq (q_mv (v := .ptr _ _) rfl) ?_
 refine WPL.qq (q_nilCheck rfl) ?_
 refine WPL.qq (q_load_ag ag23 rfl rfl (Nat.le_of_ble_eq_true rfl)) ?_
 refine WPL.d (d_buildSlice (ds := ([(⟨x3, x4⟩ : S_api_Dec)] : List S_api_Dec)) (R := rdS_api_Dec) li130 rfl rfl rfl rfl rfl (JoinRows.cons (l := [.lit (.int .i64 x3), .lit (.int .i64 x4)]) (Joins.via (Joins.cons Joins.sc (Joins.cons Joins.sc Joins.unit))) rfl JoinRows.nil) rfl rfl) rfl ?_
 obtain ⟨x15, h4, H⟩ := bnd H
 refine WPL.c (runs_call (s := []) (t := []) (N := 7) (bor := [6]) fn83 rfl (s_dec_ranged k ([(⟨x3, x4⟩ : S_api_Dec)] : List S_api_Dec) x15 h4) ⟨rfl, trivial, by decide, rfl, trivial⟩ rfl ⟨trivial, rfl, rfl, trivial⟩ (.row rfl rfl .nil) rfl trivial rfl) rfl ?_
 refine WPL.qq (q_not rfl) ?_
 refine WPL.nx ?_
 refine WP.cond (t := (!x15)) rfl (fun hb2 => ?_) (fun hb2 => ?_)
 · replace H := cnt hb2 H
   refine WP.sr ?_
   refine WPL.qq (q_as (v := .lit (.bool _)) rfl) ?_
   refine WPL.nx ?_
   refine WP.retW ?_
   obtain ⟨rfl, rfl, rfl, rfl, rfl⟩ := j5 H
   exact W.now (Then.r (InBlock.r (Then.r (Then.r (InBlock.r (Then.r (BodyR.mkR trivial rfl [0, 1, 2] ⟨rfl, rfl⟩ ⟨rfl, AA3, by decide, rfl, BB3⟩ rfl rfl)))))))
 replace H := cnf hb2 H
 refine WP.skipW ?_
 refine W.now ?_
 refine Then.n ?_
 refine WP.region ?_
 refine WPL.qq (q_mv (v := .ptr _ _) rfl) ?_
 refine WPL.qq (q_mv (v := .ptr _ _) rfl) ?_
 refine WPL.qq (q_nilCheck rfl) ?_
 refine WPL.qq (q_load_ag ag23 rfl rfl (Nat.le_of_ble_eq_true rfl)) ?_
 obtain ⟨x16, h5, H⟩ := bnd H
 refine WPL.c (runs_call (s := []) (t := [7]) (N := 8) (bor := []) fn81 rfl (s_dec_of k x3 x4 x16 h5) ⟨rfl, trivial, by decide, rfl, trivial⟩ rfl trivial (.ren rfl rfl .nil) rfl BB1 rfl) rfl ?_
 obtain ⟨⟨x17, x18, x19⟩, h6, H⟩ := bnd H
 refine WPL.c (runs_call (s := []) (t := [8]) (N := 9) (bor := []) fn82 rfl (s_dec_num_tell k (decide (x3 < 0)) 0 x16 x4 x17 x18 x19 h6) ⟨rfl, trivial, by decide, rfl, trivial⟩ rfl trivial (.ren rfl rfl .nil) rfl BB1 rfl) rfl ?_
 refine WPL.qq (q_mv (v := .tup _) rfl) ?_
 refine WPL.qq (q_extract rfl rfl) ?_
 refine WPL.qq (q_extract rfl rfl) ?_
 refine WPL.qq (q_nilCheck rfl) ?_
 refine WPL.s (s_store sz23 rfl rfl rfl rfl rfl) ?_
 refine WPL.nilW ?_
 refine W.now ?_
 refine InBlock.n ?_
 refine Then.n ?_
 refine WP.region ?_
 refine WPL.qq (q_nm (q_add rfl rfl) (fold_int (b := 2) (by decide))) ?_
 refine WPL.qq (q_mv (v := .lit (.int _ _)) rfl) ?_
 refine WPL.nx ?_
 refine WPI.round ?_
 refine WP.sr ?_
 refine WPL.qq (q_lss rfl rfl) ?_
 refine WPL.nx ?_
 refine WP.seq ?_
 refine WP.condF rfl ?_
 refine WP.exitW ?_
 refine W.now ?_
 refine Then.x ?_
 refine Then.x ?_
 refine InBlock.x0 ?_
 refine Then.n ?_
 refine WP.sr ?_
 refine WPL.qq (q_as (v := .lit (.bool _)) rfl) ?_
 refine WPL.nx ?_
 refine WP.retW ?_
 obtain ⟨rfl, rfl, rfl, rfl, rfl⟩ := j5 H
 exact W.now (BodyR.mkR trivial rfl [0, 1, 2] ⟨rfl, rfl⟩ ⟨rfl, AA3, by decide, rfl, BB3⟩ rfl rfl)
end Go.Proofs.YthpcgknknpjpdaaGreatDoor.W
