/- Texts joined: part 4 of what LStoreRoom stands on. -/
import Derived.Test.YtcaeafojgehamaaSStoreRoomc
namespace Go.Proofs.Ytcaeafojgehamaa.W
open Go Go.Q Go.Proofs
set_option linter.unusedVariables false
set_option linter.unusedSimpArgs false
set_option maxRecDepth 100000 in
set_option maxHeartbeats 4000000 in
theorem s_simfs_Disk_there (k : Nat) (x522 : (List ByteArray)) (x523 : Int) (x524 : (List (Int × Int))) (x525 : Int) (x526 : Bool) (x527 : (List (ByteArray × (Option Nat)))) (x528 : (List (ByteArray × (Option Nat)))) (x529 : (List (Option Nat))) (x530 : (List S_simfs_entry)) (r : ((Int × Int × Bool) ⊕ ((Option Nat) × Int × Bool))) (H : g_simfs_Disk_there k x522 x523 x524 x525 x526 x527 x528 x529 x530 = some r) : Go.Q.Spec Try.prog 26 3 [.ptr 0 0, .ro (Rd.slice Rd.str) true x522] (((((Mem.nil.push (.cells 41 [.lit (.int .i64 x523), .whole 3, .mp 1, .mp 2, .whole 4, .ro (Rd.map (Value.int .i64) (Rd.int .i64)) false x524, .lit (.int .i64 x525), .lit (.bool x526)])).push (.dict Value.string (Rd.pp 0) x527 none)).push (.dict Value.string (Rd.pp 0) x528 none)).push (.row 49 (Rd.pp 0) x529)).push (.row 51 rdS_simfs_entry x530)) (fun o M => match (generalizing := false) r with | (Sum.inl (x550, x551, x552)) => o = .ret (.tup [.lit (.pointer none), .lit (.int .i64 x550)]) ∧ M = (((((Mem.nil.push (.cells 41 [.lit (.int .i64 x523), .whole 3, .mp 1, .mp 2, .whole 4, .ro (Rd.map (Value.int .i64) (Rd.int .i64)) false x524, .lit (.int .i64 x551), .lit (.bool x552)])).push (.dict Value.string (Rd.pp 0) x527 none)).push (.dict Value.string (Rd.pp 0) x528 none)).push (.row 49 (Rd.pp 0) x529)).push (.row 51 rdS_simfs_entry x530)) | (Sum.inr (x553, x554, x555)) => o = .ret (.tup [.ro (Rd.pp 0) false x553, .lit (.int .i64 0)]) ∧ M = (((((Mem.nil.push (.cells 41 [.lit (.int .i64 x523), .whole 3, .mp 1, .mp 2, .whole 4, .ro (Rd.map (Value.int .i64) (Rd.int .i64)) false x524, .lit (.int .i64 x554), .lit (.bool x555)])).push (.dict Value.string (Rd.pp 0) x527 none)).push (.dict Value.string (Rd.pp 0) x528 none)).push (.row 49 (Rd.pp 0) x529)).push (.row 51 rdS_simfs_entry x530))) := by
 unfold g_simfs_Disk_there at H
 refine Go.Q.Spec.of_bodyR (az := []) (rs := [.tmp 4, .tmp 5]) (nt := 25) Try.func26 rfl rfl (by intro t T h; simp at h) rfl rfl fun cx hnp => ?_
 refine WP.seq ?_
 refine WP.region ?_
 refine WPL.q (q_as (v := .lit _) rfl) rfl ?_
 refine WPL.q (q_as (v := .lit (.int _ _)) rfl) rfl ?_
 refine WPL.nilW ?_
 refine W.now ?_
 refine Then.n ?_
 refine WP.seq ?_
 refine WP.seq ?_
 refine WP.region ?_
 refine WPL.q (q_mv (v := .ptr _ _) rfl) rfl ?_
 refine WPL.q (q_mv (v := .ro _ _ _) rfl) rfl ?_
 obtain ⟨⟨x562, x563, x564⟩, h560, H⟩ := bnd H
 refine WPL.c (runs_call (s := [0, 1, 2, 3, 4]) (t := [0, 1, 2, 5, 6]) (N := 7) (bor := []) fn33 rfl (s_simfs_Disk_step k x522 x523 x524 x525 x526 x527 x528 x529 x530 x562 x563 x564 h560) ⟨rfl, ⟨⟨⟨⟨⟨trivial, .inr ⟨rfl, rfl, rfl⟩⟩, .inr ⟨rfl, rfl, rfl⟩⟩, .inr ⟨rfl, rfl, rfl⟩⟩, .inr ⟨rfl, rfl, rfl⟩⟩, .inr ⟨rfl, rfl, rfl⟩⟩, by decide, rfl, trivial, rfl⟩ rfl trivial (.ren rfl rfl (.ren rfl rfl .nil)) rfl ⟨⟨⟨⟨⟨trivial, rfl⟩, rfl⟩, rfl⟩, rfl⟩, rfl⟩ rfl) rfl ?_
 refine WPL.q (q_as (v := .lit (.int _ _)) rfl) rfl ?_
 refine WPL.nilW ?_
 refine W.now ?_
 refine Then.n ?_
 refine WP.seq ?_
 refine WP.region ?_
 refine WPL.q (q_mv (v := .lit (.int _ _)) rfl) rfl ?_
 refine WPL.q (q_neq rfl rfl) rfl ?_
 refine WPL.nilW ?_
 refine W.now ?_
 refine Then.n ?_
 refine WP.cond (t := (!decide (x562 = 0))) rfl (fun hb564 => ?_) (fun hb564 => ?_)
 · replace H := cnt hb564 H
   refine WP.seq ?_
   refine WP.region ?_
   refine WPL.q (q_mv (v := .lit (.int _ _)) rfl) rfl ?_
   refine WPL.q (q_as (v := .lit _) rfl) rfl ?_
   refine WPL.q (q_as (v := .lit (.int _ _)) rfl) rfl ?_
   refine WPL.nilW ?_
   refine W.now ?_
   refine Then.n ?_
   refine WP.retW ?_
   have q0 := Option.some.inj H
   subst q0
   exact W.now (Then.r (BodyR.mkR trivial rfl [0, 1, 2, 5, 6] ⟨rfl, rfl⟩ ⟨rfl, ⟨⟨⟨⟨⟨trivial, .inr ⟨rfl, rfl, rfl⟩⟩, .inr ⟨rfl, rfl, rfl⟩⟩, .inr ⟨rfl, rfl, rfl⟩⟩, .inr ⟨rfl, rfl, rfl⟩⟩, .inr ⟨rfl, rfl, rfl⟩⟩, by decide, rfl, ⟨⟨⟨trivial, rfl⟩, rfl⟩, rfl⟩, rfl⟩ rfl rfl))
 replace H := cnf hb564 H
 refine WP.skipW ?_
 refine W.now ?_
 refine Then.n ?_
 refine WP.seq ?_
 refine WP.regionD' 9 [0, 1] [] mixed rfl ?_
 refine WPD.takeT 0 rfl (by kernel_rfl) (q_mv (v := .ptr _ _) rfl) rfl ?_
 refine WPD.takeT 1 rfl (by kernel_rfl) (q_nilCheck rfl) rfl ?_
 refine WPD.takeT 2 rfl (by kernel_rfl) (q_fieldAddr fi41_2 rfl rfl) rfl ?_
 refine WPD.takeT 4 rfl (by kernel_rfl) (q_mv (v := .ro _ _ _) rfl) rfl ?_
 obtain ⟨x569, h569, H⟩ := bnd H
 refine WPD.takeT 5 rfl (by kernel_rfl) (q_index_ro sl70 rfl rfl rfl h569) rfl ?_
 refine WPD.takeT 6 rfl (by kernel_rfl) (q_load_sc sc9 rfl) rfl ?_
 refine WPD.take 3 rfl (by kernel_rfl) (q_load sc36 rfl rfl rfl) rfl rfl ?_
 refine WPD.take 7 rfl (by kernel_rfl) (q_lookupD (k := x569) (z := none) dk9 Try.underlying36 iz49 (fun _ => rfl) rfl rfl rfl) rfl rfl ?_
 refine WPD.takeT 8 rfl (by kernel_rfl) (q_as (v := .ro _ _ _) rfl) rfl ?_
 refine WPD.doneW (by kernel_rfl) ?_
 refine W.now ?_
 refine Then.n ?_
 refine WP.seq ?_
 refine WP.seq ?_
 refine WP.region ?_
 refine WPL.q (q_mv (v := .ro _ _ _) rfl) rfl ?_
 obtain ⟨x572, h572, H⟩ := bnd H
 refine WPL.q (q_nm (q_eqlpP Try.underlying49 rfl) (nm_bool h572)) rfl ?_
 refine WPL.nilW ?_
 refine W.now ?_
 refine Then.n ?_
 refine WP.cond (t := x572) rfl (fun hb572 => ?_) (fun hb572 => ?_)
 · replace H := cnt hb572 H
   refine WP.seq ?_
   refine WP.region ?_
   refine WPL.q (q_as (v := .lit _) rfl) rfl ?_
   refine WPL.q (q_as (v := .lit (.int _ _)) rfl) rfl ?_
   refine WPL.nilW ?_
   refine W.now ?_
   refine Then.n ?_
   refine WP.retW ?_
   have q0 := Option.some.inj H
   subst q0
   exact W.now (Then.r (BodyR.mkR trivial rfl [0, 1, 2, 5, 6] ⟨rfl, rfl⟩ ⟨rfl, ⟨⟨⟨⟨⟨trivial, .inr ⟨rfl, rfl, rfl⟩⟩, .inr ⟨rfl, rfl, rfl⟩⟩, .inr ⟨rfl, rfl, rfl⟩⟩, .inr ⟨rfl, rfl, rfl⟩⟩, .inr ⟨rfl, rfl, rfl⟩⟩, by decide, rfl, ⟨⟨⟨trivial, rfl⟩, rfl⟩, rfl⟩, rfl⟩ rfl rfl))
 replace H := cnf hb572 H
 refine WP.skipW ?_
 refine W.now ?_
 refine Then.n ?_
 refine WP.seq ?_
 refine WP.region ?_
 refine WPL.q (q_mv (v := .ro _ _ _) rfl) rfl ?_
 refine WPL.q (q_as (v := .ro _ _ _) rfl) rfl ?_
 refine WPL.q (q_as (v := .lit (.int _ _)) rfl) rfl ?_
 refine WPL.nilW ?_
 refine W.now ?_
 refine Then.n ?_
 refine WP.retW ?_
 have q0 := Option.some.inj H
 subst q0
 exact W.now (BodyR.mkR trivial rfl [0, 1, 2, 5, 6] ⟨rfl, rfl⟩ ⟨rfl, ⟨⟨⟨⟨⟨trivial, .inr ⟨rfl, rfl, rfl⟩⟩, .inr ⟨rfl, rfl, rfl⟩⟩, .inr ⟨rfl, rfl, rfl⟩⟩, .inr ⟨rfl, rfl, rfl⟩⟩, .inr ⟨rfl, rfl, rfl⟩⟩, by decide, rfl, ⟨⟨⟨trivial, rfl⟩, rfl⟩, rfl⟩, rfl⟩ rfl rfl)
set_option maxRecDepth 100000 in
set_option maxHeartbeats 4000000 in
theorem s_slices_Grow_byte_byte (k : Nat) (x664 : Int) (x678 : (List Int)) (H : g_slices_Grow_byte_byte k x664 = some x678) : Go.Q.Spec Try.prog 38 0 [.lit (.slice none 0 0), .lit (.int .i64 x664)] Mem.nil (fun o M => o = .ret (.whole 0) ∧ M = (Mem.nil.push (.row 5 (Rd.int .u8) x678))) := by
 unfold g_slices_Grow_byte_byte at H
 refine Go.Q.Spec.of_bodyR (az := []) (rs := [.tmp 4]) (nt := 27) Try.func38 rfl rfl (by intro t T h; simp at h) rfl rfl fun cx hnp => ?_
 refine WP.seq ?_
 refine WP.region ?_
 refine WPL.q (q_as (v := .lit _) rfl) rfl ?_
 refine WPL.nilW ?_
 refine W.now ?_
 refine Then.n ?_
 refine WP.seq ?_
 refine WP.seq ?_
 refine WP.region ?_
 refine WPL.q (q_mv (v := .lit (.int _ _)) rfl) rfl ?_
 refine WPL.q (q_lss rfl rfl) rfl ?_
 refine WPL.nilW ?_
 refine W.now ?_
 refine Then.n ?_
 refine WP.cond (t := (decide (x664 < 0))) rfl (fun hb679 => ?_) (fun hb679 => ?_)
 · replace H := cnt hb679 H
   refine WP.region ?_
   refine WPL.q (q_mki cn9) rfl ?_
   exact nf rfl H
 replace H := cnf hb679 H
 refine WP.skipW ?_
 refine W.now ?_
 refine Then.n ?_
 refine WP.seq ?_
 obtain ⟨x685, H689, H⟩ := bnd H
 refine WP.monoW (Q := fun x E M => x = .normal ∧ E = (Env.none.upd 0 (.whole 0)) ∧ M = (Mem.nil.push (.row 5 (Rd.int .u8) x685))) ?_ ?_
 · clear H
   have H := H689
   clear H689
   refine WP.seq ?_
   refine WP.region ?_
   refine WPL.q (q_mv (v := .lit (.int _ _)) rfl) rfl ?_
   refine WPL.q (q_mv (v := .lit _) rfl) rfl ?_
   refine WPL.q (q_cap_nil Try.underlying22 rfl) rfl ?_
   refine WPL.q (q_mv (v := .lit _) rfl) rfl ?_
   refine WPL.q (q_len_nil sl22 rfl) rfl ?_
   refine WPL.q (q_sub rfl rfl) rfl ?_
   obtain ⟨x686, h686, H⟩ := bnd H
   refine WPL.q (q_nm (q_sub rfl rfl) (nm_int h686)) rfl ?_
   refine WPL.q (q_as (v := .lit (.int _ _)) rfl) rfl ?_
   refine WPL.nilW ?_
   refine W.now ?_
   refine Then.n ?_
   refine WP.seq ?_
   refine WP.region ?_
   refine WPL.q (q_mv (v := .lit (.int _ _)) rfl) rfl ?_
   refine WPL.q (q_gtr rfl rfl) rfl ?_
   refine WPL.nilW ?_
   refine W.now ?_
   refine Then.n ?_
   refine WP.cond (t := (decide (0 < x686))) rfl (fun hb686 => ?_) (fun hb686 => ?_)
   · replace H := cnt hb686 H
     refine WP.region ?_
     refine WPL.q (q_mv (v := .lit _) rfl) rfl ?_
     refine WPL.q (q_mv (v := .lit _) rfl) rfl ?_
     refine WPL.q (q_cap_nil Try.underlying22 rfl) rfl ?_
     refine WPL.q (q_slice_nil sl22 rfl rfl) rfl ?_
     refine WPL.q (q_mv (v := .lit (.int _ _)) rfl) rfl ?_
     obtain ⟨h687, H⟩ := grd H
     refine WPL.d (d_appendMakeNil (d := (0 : Int)) (R := (Rd.int .u8)) li22 by5 Try.underlying3 rfl rfl rfl rfl Joins.sc rfl rfl h687 rfl) rfl ?_
     refine WPL.q (q_mv (v := .lit _) rfl) rfl ?_
     refine WPL.q (q_len_nil sl22 rfl) rfl ?_
     obtain ⟨h688, H⟩ := grd H
     refine WPL.d (d_cut sl22 rfl rfl rfl h688 rfl) rfl ?_
     refine WPL.q (q_as (v := .whole _) rfl) rfl ?_
     refine WPL.nilW ?_
     have q0 := (Option.some.inj H)
     subst q0
     exact W.wk [1] hnp ⟨rfl, rfl, rfl⟩ ⟨rfl, ⟨trivial, .inr ⟨rfl, rfl, rfl⟩⟩, by decide, rfl, trivial, rfl⟩ (LeE.upd rfl rfl (LeE.none rfl rfl)) rfl
   replace H := cnf hb686 H
   refine WP.skipW ?_
   refine W.cv (Cv.vir 5 (Rd.int .u8) (N := 0) rfl 0 rfl) rfl ?_
   have q0 := (Option.some.inj H)
   subst q0
   exact W.wk [0] hnp ⟨rfl, rfl, rfl⟩ ⟨rfl, ⟨trivial, .inr ⟨rfl, rfl, rfl⟩⟩, by decide, rfl, trivial, rfl⟩ (LeE.upd rfl rfl (LeE.none rfl rfl)) rfl
 rintro _ _ _ ⟨rfl, rfl, rfl⟩
 refine W.now ?_
 refine Then.n ?_
 refine WP.seq ?_
 refine WP.region ?_
 refine WPL.q (q_mv (v := .whole _) rfl) rfl ?_
 refine WPL.q (q_as (v := .whole _) rfl) rfl ?_
 refine WPL.nilW ?_
 refine W.now ?_
 refine Then.n ?_
 refine WP.retW ?_
 have q0 := (Option.some.inj H)
 subst q0
 exact W.now (BodyR.mkR trivial rfl [0] ⟨rfl, rfl⟩ ⟨rfl, ⟨trivial, .inr ⟨rfl, rfl, rfl⟩⟩, by decide, rfl, trivial, rfl⟩ rfl rfl)
set_option maxRecDepth 100000 in
set_option maxHeartbeats 4000000 in
theorem s_slices_Concat_byte_byte (k : Nat) (x640 : (List (List Int))) (x707 : (List Int)) (H : g_slices_Concat_byte_byte k x640 = some x707) : Go.Q.Spec Try.prog 34 1 [.whole 0] (Mem.nil.push (.row 22 (Rd.slice (Rd.int .u8)) x640)) (fun o M => o = .ret (.ro (Rd.slice (Rd.int .u8)) false x707) ∧ M = (Mem.nil.push (.row 22 (Rd.slice (Rd.int .u8)) x640))) := by
 unfold g_slices_Concat_byte_byte at H
 refine Go.Q.Spec.of_bodyR (az := []) (rs := [.tmp 2]) (nt := 36) Try.func34 rfl rfl (by intro t T h; simp at h) rfl rfl fun cx hnp => ?_
 refine WP.seq ?_
 refine WP.region ?_
 refine WPL.q (q_as (v := .lit _) rfl) rfl ?_
 refine WPL.nilW ?_
 refine W.now ?_
 refine Then.n ?_
 refine WP.seq ?_
 refine WP.region ?_
 refine WPL.q (q_as (v := .lit (.int _ _)) rfl) rfl ?_
 refine WPL.nilW ?_
 refine W.now ?_
 refine Then.n ?_
 refine WP.seq ?_
 refine WP.seq ?_
 refine WP.region ?_
 refine WPL.q (q_mv (v := .whole _) rfl) rfl ?_
 refine WPL.q (q_len_row sl73 rfl rfl) rfl ?_
 refine WPL.q (q_mv (v := .lit (.int _ _)) rfl) rfl ?_
 refine WPL.nilW ?_
 refine W.now ?_
 refine Then.n ?_
 refine WP.block ?_
 refine WP.cv (Cv.weak (E' := (((((Env.none.upd 0 (.whole 0)).upd 3 (.lit (.int .i64 0))).upd 9 (.whole 0)).upd 10 (.lit (.int .i64 ((List.length x640 : Nat) : Int)))).upd 11 (.lit (.int .i64 0)))) (M' := (Mem.nil.push (.row 22 (Rd.slice (Rd.int .u8)) x640))) [0] hnp ⟨rfl, ⟨trivial, .inr ⟨rfl, rfl, rfl⟩⟩, by decide, rfl, ⟨trivial, rfl⟩, rfl⟩ (LeE.upd rfl rfl (LeE.upd rfl rfl (LeE.upd rfl rfl (LeE.upd rfl rfl (LeE.upd rfl rfl (LeE.none rfl rfl))))))) ?_
 obtain ⟨x728, H737, H⟩ := bnd H
 refine WP.monoW (Q := fun x E M => x = .exit 0 ∧ E = ((Env.none.upd 0 (.whole 0)).upd 3 (.lit (.int .i64 x728))) ∧ M = (Mem.nil.push (.row 22 (Rd.slice (Rd.int .u8)) x640))) ?_ ?_
 · refine WP.loop (β := Int × Int) (fun n b => g_slices_Concat_byte_byte_l0 k x640 n b.1 b.2 = some x728) (fun b => (((((Env.none.upd 0 (.whole 0)).upd 3 (.lit (.int .i64 b.1))).upd 9 (.whole 0)).upd 10 (.lit (.int .i64 ((List.length x640 : Nat) : Int)))).upd 11 (.lit (.int .i64 b.2)))) (fun b => (Mem.nil.push (.row 22 (Rd.slice (Rd.int .u8)) x640))) k (0, 0) H737 rfl rfl ?_
   rintro n ⟨x717, x718⟩ H
   obtain _ | n := n
   · exact nf rfl H
   rw [g_slices_Concat_byte_byte_l0.eq_2] at H
   show WP _ _ _ _ (((((Env.none.upd 0 (.whole 0)).upd 3 (.lit (.int .i64 x717))).upd 9 (.whole 0)).upd 10 (.lit (.int .i64 ((List.length x640 : Nat) : Int)))).upd 11 (.lit (.int .i64 x718))) (Mem.nil.push (.row 22 (Rd.slice (Rd.int .u8)) x640)) _
   refine WP.seq ?_
   refine WP.region ?_
   obtain ⟨x729, h729, H⟩ := bnd H
   refine WPL.q (q_nm (q_lss rfl rfl) (nm_bool h729)) rfl ?_
   refine WPL.nilW ?_
   refine W.now ?_
   refine Then.n ?_
   refine WP.seq ?_
   refine WP.cond (t := x729) rfl (fun hb730 => ?_) (fun hb730 => ?_)
   · replace H := cnt hb730 H
     refine WP.skipW ?_
     refine W.now ?_
     refine Then.n ?_
     refine WP.seq ?_
     refine WP.block ?_
     refine WP.seq ?_
     refine WP.region ?_
     obtain ⟨x735, h735, H⟩ := bnd H
     refine WPL.q (q_index_row sl73 rfl rfl rfl (ixs h735)) rfl ?_
     refine WPL.q (q_load_rowr (j := (Int.toNat x718)) (n := 1) (off := 0) (d := x735) sc22 rfl rfl (ixj h735) rfl PartIs.self rfl) rfl ?_
     refine WPL.q (q_as (v := .ro _ _ _) rfl) rfl ?_
     refine WPL.nilW ?_
     refine W.now ?_
     refine Then.n ?_
     refine WP.seq ?_
     refine WP.region ?_
     refine WPL.q (q_mv (v := .lit (.int _ _)) rfl) rfl ?_
     refine WPL.q (q_mv (v := .ro _ _ _) rfl) rfl ?_
     refine WPL.q (q_len_ro sl22 rfl) rfl ?_
     obtain ⟨x736, h736, H⟩ := bnd H
     refine WPL.q (q_nm (q_add rfl rfl) (nm_int h736)) rfl ?_
     refine WPL.q (q_as (v := .lit (.int _ _)) rfl) rfl ?_
     refine WPL.nilW ?_
     refine W.now ?_
     refine Then.n ?_
     refine WP.seq ?_
     refine WP.region ?_
     refine WPL.q (q_mv (v := .lit (.int _ _)) rfl) rfl ?_
     refine WPL.q (q_lss rfl rfl) rfl ?_
     refine WPL.nilW ?_
     refine W.now ?_
     refine Then.n ?_
     refine WP.cond (t := (decide (x736 < 0))) rfl (fun hb736 => ?_) (fun hb736 => ?_)
     · replace H := cnt hb736 H
       refine WP.region ?_
       refine WPL.q (q_mki cn9) rfl ?_
       exact nf rfl H
     replace H := cnf hb736 H
     refine WP.skipW ?_
     refine W.now ?_
     refine InBlock.n ?_
     refine Then.n ?_
     refine WP.region ?_
     refine WPL.q (q_add rfl rfl) rfl ?_
     refine WPL.q (q_mv (v := .lit (.int _ _)) rfl) rfl ?_
     refine WPL.nilW ?_
     exact W.wk [0] hnp (Then.n ⟨n, (x736, (IntKind.wrap .i64 (x718 + 1))), Nat.lt_succ_self n, H, rfl, rfl⟩) ⟨rfl, ⟨trivial, .inr ⟨rfl, rfl, rfl⟩⟩, by decide, rfl, ⟨trivial, rfl⟩, rfl⟩ (LeE.upd rfl rfl (LeE.upd rfl rfl (LeE.upd rfl rfl (LeE.upd rfl rfl (LeE.upd rfl rfl (LeE.none rfl rfl)))))) rfl
   replace H := cnf hb730 H
   refine WP.exitW ?_
   have q0 := (Option.some.inj H)
   subst q0
   exact W.wk [0] hnp (Then.x (Then.x ⟨rfl, rfl, rfl⟩)) ⟨rfl, ⟨trivial, .inr ⟨rfl, rfl, rfl⟩⟩, by decide, rfl, ⟨trivial, rfl⟩, rfl⟩ (LeE.upd rfl rfl (LeE.upd rfl rfl (LeE.none rfl rfl))) rfl
 rintro _ _ _ ⟨rfl, rfl, rfl⟩
 refine W.now ?_
 refine InBlock.x0 ?_
 refine Then.n ?_
 refine WP.seq ?_
 refine WP.region ?_
 refine WPL.q (q_mv (v := .lit (.int _ _)) rfl) rfl ?_
 obtain ⟨x740, h738, H⟩ := bnd H
 refine WPL.c (runs_call (s := []) (t := [1]) (N := 2) (bor := []) fn38 rfl (s_slices_Grow_byte_byte k x728 x740 h738) ⟨rfl, trivial, by decide, rfl, trivial, rfl⟩ rfl trivial (.ren rfl rfl (.ren rfl rfl .nil)) rfl ⟨trivial, rfl⟩ rfl) rfl ?_
 refine WPL.q (q_as (v := .whole _) rfl) rfl ?_
 refine WPL.nilW ?_
 refine W.now ?_
 refine Then.n ?_
 refine WP.seq ?_
 refine WP.seq ?_
 refine WP.region ?_
 refine WPL.q (q_mv (v := .whole _) rfl) rfl ?_
 refine WPL.q (q_len_row sl73 rfl rfl) rfl ?_
 refine WPL.q (q_mv (v := .lit (.int _ _)) rfl) rfl ?_
 refine WPL.nilW ?_
 refine W.now ?_
 refine Then.n ?_
 refine WP.block ?_
 refine WP.cv (Cv.weak (E' := ((((Env.none.upd 6 (.whole 1)).upd 25 (.whole 0)).upd 26 (.lit (.int .i64 ((List.length x640 : Nat) : Int)))).upd 27 (.lit (.int .i64 0)))) (M' := ((Mem.nil.push (.row 22 (Rd.slice (Rd.int .u8)) x640)).push (.row 5 (Rd.int .u8) x740))) [0, 1] hnp ⟨rfl, ⟨⟨trivial, .inr ⟨rfl, rfl, rfl⟩⟩, .inr ⟨rfl, rfl, rfl⟩⟩, by decide, rfl, ⟨trivial, rfl⟩, rfl⟩ (LeE.upd rfl rfl (LeE.upd rfl rfl (LeE.upd rfl rfl (LeE.upd rfl rfl (LeE.none rfl rfl)))))) ?_
 obtain ⟨x753, H758, H⟩ := bnd H
 refine WP.monoW (Q := fun x E M => x = .exit 2 ∧ E = (Env.none.upd 6 (.whole 1)) ∧ M = ((Mem.nil.push (.row 22 (Rd.slice (Rd.int .u8)) x640)).push (.row 5 (Rd.int .u8) x753))) ?_ ?_
 · refine WP.loop (β := Int × (List Int)) (fun n b => g_slices_Concat_byte_byte_l1 k x640 n b.1 b.2 = some x753) (fun b => ((((Env.none.upd 6 (.whole 1)).upd 25 (.whole 0)).upd 26 (.lit (.int .i64 ((List.length x640 : Nat) : Int)))).upd 27 (.lit (.int .i64 b.1)))) (fun b => ((Mem.nil.push (.row 22 (Rd.slice (Rd.int .u8)) x640)).push (.row 5 (Rd.int .u8) b.2))) k (0, x740) H758 rfl rfl ?_
   rintro n ⟨x746, x747⟩ H
   obtain _ | n := n
   · exact nf rfl H
   rw [g_slices_Concat_byte_byte_l1.eq_2] at H
   show WP _ _ _ _ ((((Env.none.upd 6 (.whole 1)).upd 25 (.whole 0)).upd 26 (.lit (.int .i64 ((List.length x640 : Nat) : Int)))).upd 27 (.lit (.int .i64 x746))) ((Mem.nil.push (.row 22 (Rd.slice (Rd.int .u8)) x640)).push (.row 5 (Rd.int .u8) x747)) _
   refine WP.seq ?_
   refine WP.region ?_
   obtain ⟨x754, h754, H⟩ := bnd H
   refine WPL.q (q_nm (q_lss rfl rfl) (nm_bool h754)) rfl ?_
   refine WPL.nilW ?_
   refine W.now ?_
   refine Then.n ?_
   refine WP.seq ?_
   refine WP.cond (t := x754) rfl (fun hb755 => ?_) (fun hb755 => ?_)
   · replace H := cnt hb755 H
     refine WP.skipW ?_
     refine W.now ?_
     refine Then.n ?_
     refine WP.seq ?_
     refine WP.block ?_
     refine WP.seq ?_
     refine WP.region ?_
     obtain ⟨x757, h757, H⟩ := bnd H
     refine WPL.q (q_index_row sl73 rfl rfl rfl (ixs h757)) rfl ?_
     refine WPL.q (q_load_rowr (j := (Int.toNat x746)) (n := 1) (off := 0) (d := x757) sc22 rfl rfl (ixj h757) rfl PartIs.self rfl) rfl ?_
     refine WPL.q (q_as (v := .ro _ _ _) rfl) rfl ?_
     refine WPL.nilW ?_
     refine W.now ?_
     refine Then.n ?_
     refine WP.region ?_
     refine WPL.q (q_mv (v := .whole _) rfl) rfl ?_
     refine WPL.q (q_mv (v := .ro _ _ _) rfl) rfl ?_
     obtain ⟨h757, H⟩ := grd H
     refine WPL.d (d_append ap22 rfl rfl rfl rfl (src_ro sl22 rfl) h757 rfl) rfl ?_
     refine WPL.q (q_as (v := .whole _) rfl) rfl ?_
     refine WPL.nilW ?_
     refine W.now ?_
     refine InBlock.n ?_
     refine Then.n ?_
     refine WP.region ?_
     refine WPL.q (q_add rfl rfl) rfl ?_
     refine WPL.q (q_mv (v := .lit (.int _ _)) rfl) rfl ?_
     refine WPL.nilW ?_
     exact W.wk [0, 2] hnp (Then.n ⟨n, ((IntKind.wrap .i64 (x746 + 1)), (x747 ++ x757)), Nat.lt_succ_self n, H, rfl, rfl⟩) ⟨rfl, ⟨⟨trivial, .inr ⟨rfl, rfl, rfl⟩⟩, .inr ⟨rfl, rfl, rfl⟩⟩, by decide, rfl, ⟨trivial, rfl⟩, rfl⟩ (LeE.upd rfl rfl (LeE.upd rfl rfl (LeE.upd rfl rfl (LeE.upd rfl rfl (LeE.none rfl rfl))))) rfl
   replace H := cnf hb755 H
   refine WP.exitW ?_
   have q0 := (Option.some.inj H)
   subst q0
   exact W.wk [0, 1] hnp (Then.x (Then.x ⟨rfl, rfl, rfl⟩)) ⟨rfl, ⟨⟨trivial, .inr ⟨rfl, rfl, rfl⟩⟩, .inr ⟨rfl, rfl, rfl⟩⟩, by decide, rfl, ⟨trivial, rfl⟩, rfl⟩ (LeE.upd rfl rfl (LeE.none rfl rfl)) rfl
 rintro _ _ _ ⟨rfl, rfl, rfl⟩
 refine W.now ?_
 refine InBlock.x0 ?_
 refine Then.n ?_
 refine WP.seq ?_
 refine WP.region ?_
 refine WPL.q (q_mv (v := .whole _) rfl) rfl ?_
 refine WPL.q (q_as (v := .whole _) rfl) rfl ?_
 refine WPL.nilW ?_
 refine W.now ?_
 refine Then.n ?_
 refine WP.retW ?_
 refine W.cv (Cv.frzRow (i := 1) rfl rfl hnp rfl rfl) rfl ?_
 have q0 := (Option.some.inj H)
 subst q0
 exact W.now (BodyR.mkR trivial rfl [0] ⟨rfl, rfl⟩ ⟨rfl, ⟨trivial, .inr ⟨rfl, rfl, rfl⟩⟩, by decide, rfl, ⟨trivial, rfl⟩, rfl⟩ rfl rfl)
set_option maxRecDepth 100000 in
set_option maxHeartbeats 4000000 in
theorem s_simfs_Disk_Write (k : Nat) (x510 : ByteArray) (x511 : (List Int)) (x512 : Int) (x513 : (List (Int × Int))) (x514 : Int) (x515 : Bool) (x516 : (List (ByteArray × (Option Nat)))) (x517 : (List (ByteArray × (Option Nat)))) (x518 : (List (Option Nat))) (x519 : (List S_simfs_entry)) (x520 : (List S_simfs_file)) (x766 : Int) (x767 : Int) (x768 : Bool) (x769 : (List S_simfs_file)) (H : g_simfs_Disk_Write k x510 x511 x512 x513 x514 x515 x516 x517 x518 x519 x520 = some (x766, x767, x768, x769)) : Go.Q.Spec Try.prog 22 3 [.ptr 0 0, .lit (.string x510), .ro (Rd.slice (Rd.int .u8)) false x511] ((((((Mem.nil.withP 54 rdS_simfs_file x520).push (.cells 41 [.lit (.int .i64 x512), .whole 3, .mp 1, .mp 2, .whole 4, .ro (Rd.map (Value.int .i64) (Rd.int .i64)) false x513, .lit (.int .i64 x514), .lit (.bool x515)])).push (.dict Value.string (Rd.pp 0) x516 none)).push (.dict Value.string (Rd.pp 0) x517 none)).push (.row 49 (Rd.pp 0) x518)).push (.row 51 rdS_simfs_entry x519)) (fun o M => o = .ret (.lit (.int .i64 x766)) ∧ M = ((((((Mem.nil.withP 54 rdS_simfs_file x769).push (.cells 41 [.lit (.int .i64 x512), .whole 3, .mp 1, .mp 2, .whole 4, .ro (Rd.map (Value.int .i64) (Rd.int .i64)) false x513, .lit (.int .i64 x767), .lit (.bool x768)])).push (.dict Value.string (Rd.pp 0) x516 none)).push (.dict Value.string (Rd.pp 0) x517 none)).push (.row 49 (Rd.pp 0) x518)).push (.row 51 rdS_simfs_entry x519))) := by
 unfold g_simfs_Disk_Write at H
 refine Go.Q.Spec.of_bodyR (az := []) (rs := [.tmp 6]) (nt := 56) Try.func22 rfl rfl (by intro t T h; simp at h) rfl rfl fun cx hnp => ?_
 refine WP.seq ?_
 refine WP.region ?_
 refine WPL.q (q_as (v := .lit (.int _ _)) rfl) rfl ?_
 refine WPL.nilW ?_
 refine W.now ?_
 refine Then.n ?_
 refine WP.seq ?_
 refine WP.region ?_
 refine WPL.q (q_mv (v := .ptr _ _) rfl) rfl ?_
 refine WPL.q (q_mv (v := .lit (.string _)) rfl) rfl ?_
 refine WPL.d (d_buildSlice (ds := ([x510] : List ByteArray)) (R := Rd.str) li70 rfl rfl rfl rfl rfl (JoinRows.cons1 Joins.sc rfl JoinRows.nil) rfl rfl) rfl ?_
 obtain ⟨y777, h769, H⟩ := bnd H
 rcases y777 with ⟨x771, x772, x773⟩ | ⟨x774, x775, x776⟩
 · refine WPL.c (runs_call (s := [0, 1, 2, 3, 4]) (t := [0, 1, 2, 6, 7]) (N := 8) (bor := [5]) fn26 rfl (s_simfs_Disk_there k ([x510] : List ByteArray) x512 x513 x514 x515 x516 x517 x518 x519 (Sum.inl (x771, x772, x773)) h769) ⟨rfl, ⟨⟨⟨⟨⟨trivial, .inr ⟨rfl, rfl, rfl⟩⟩, .inr ⟨rfl, rfl, rfl⟩⟩, .inr ⟨rfl, rfl, rfl⟩⟩, .inr ⟨rfl, rfl, rfl⟩⟩, .inr ⟨rfl, rfl, rfl⟩⟩, by decide, rfl, trivial, rfl⟩ rfl ⟨trivial, rfl, rfl, trivial⟩ (.ren rfl rfl (.row rfl rfl .nil)) rfl ⟨⟨⟨⟨⟨trivial, rfl⟩, rfl⟩, rfl⟩, rfl⟩, rfl⟩ rfl) rfl ?_
   refine WPL.q (q_mv (v := .tup _) rfl) rfl ?_
   refine WPL.q (q_extract rfl rfl) rfl ?_
   refine WPL.q (q_extract rfl rfl) rfl ?_
   refine WPL.q (q_as (v := .lit _) rfl) rfl ?_
   refine WPL.q (q_as (v := .lit (.int _ _)) rfl) rfl ?_
   refine WPL.nilW ?_
   refine W.now ?_
   refine Then.n ?_
   refine WP.seq ?_
   refine WP.seq ?_
   refine WP.region ?_
   refine WPL.q (q_mv (v := .lit (.int _ _)) rfl) rfl ?_
   refine WPL.q (q_neq rfl rfl) rfl ?_
   refine WPL.nilW ?_
   refine W.now ?_
   refine Then.n ?_
   refine WP.cond (t := (!decide (x771 = 0))) rfl (fun hb778 => ?_) (fun hb778 => ?_)
   · replace H := cnt hb778 H
     refine WP.seq ?_
     refine WP.region ?_
     refine WPL.q (q_mv (v := .lit (.int _ _)) rfl) rfl ?_
     refine WPL.q (q_as (v := .lit (.int _ _)) rfl) rfl ?_
     refine WPL.nilW ?_
     refine W.now ?_
     refine Then.n ?_
     refine WP.retW ?_
     have q0 := (Prod.mk.inj (Option.some.inj H)).1
     have q1 := (Prod.mk.inj (Prod.mk.inj (Option.some.inj H)).2).1
     have q2 := (Prod.mk.inj (Prod.mk.inj (Prod.mk.inj (Option.some.inj H)).2).2).1
     have q3 := (Prod.mk.inj (Prod.mk.inj (Prod.mk.inj (Option.some.inj H)).2).2).2
     subst q0
     subst q1
     subst q2
     subst q3
     exact W.now (Then.r (BodyR.mkR trivial rfl [0, 1, 2, 6, 7] ⟨rfl, rfl⟩ ⟨rfl, ⟨⟨⟨⟨⟨trivial, .inr ⟨rfl, rfl, rfl⟩⟩, .inr ⟨rfl, rfl, rfl⟩⟩, .inr ⟨rfl, rfl, rfl⟩⟩, .inr ⟨rfl, rfl, rfl⟩⟩, .inr ⟨rfl, rfl, rfl⟩⟩, by decide, rfl, ⟨⟨⟨trivial, rfl⟩, rfl⟩, rfl⟩, rfl⟩ rfl rfl))
   replace H := cnf hb778 H
   refine WP.skipW ?_
   refine W.now ?_
   refine Then.n ?_
   refine WP.seq ?_
   refine WP.region ?_
   refine WPL.q (q_mv (v := .ptr _ _) rfl) rfl ?_
   refine WPL.q (q_nilCheck rfl) rfl ?_
   refine WPL.q (q_fieldAddr fi41_0 rfl rfl) rfl ?_
   refine WPL.q (q_load sc3 rfl rfl rfl) rfl ?_
   refine WPL.q (q_as (v := .lit (.int _ _)) rfl) rfl ?_
   refine WPL.nilW ?_
   refine W.now ?_
   refine Then.n ?_
   refine WP.seq ?_
   refine WP.seq ?_
   refine WP.region ?_
   refine WPL.q (q_mv (v := .ptr _ _) rfl) rfl ?_
   refine WPL.q (q_nilCheck rfl) rfl ?_
   refine WPL.q (q_fieldAddr fi41_2 rfl rfl) rfl ?_
   refine WPL.q (q_load sc36 rfl rfl rfl) rfl ?_
   refine WPL.rangeD Try.underlying36 rfl rfl rfl rfl fun es30 ck30 => ?_
   refine WPL.nilW ?_
   refine W.now ?_
   refine Then.n ?_
   refine WP.block ?_
   refine WP.cv (Cv.weak (E' := ((((Env.none.upd 2 (.ro (Rd.slice (Rd.int .u8)) false x511)).upd 7 (.lit (.pointer none))).upd 9 (.lit (.int .i64 x512))).upd 30 (.ptr 5 0))) (M' := (((((((Mem.nil.withP 54 rdS_simfs_file x520).push (.cells 41 [.lit (.int .i64 x512), .whole 3, .mp 1, .mp 2, .whole 4, .ro (Rd.map (Value.int .i64) (Rd.int .i64)) false x513, .lit (.int .i64 x772), .lit (.bool x773)])).push (.dict Value.string (Rd.pp 0) x516 (some (es30, ck30)))).push (.dict Value.string (Rd.pp 0) x517 none)).push (.row 49 (Rd.pp 0) x518)).push (.row 51 rdS_simfs_entry x519)).push (.iter 1 ck30 es30 (none : Option (ByteArray × (Option Nat))) Value.string (Rd.pp 0) x516))) [0, 1, 2, 6, 7, 8] hnp ⟨rfl, ⟨⟨⟨⟨⟨⟨trivial, .inr ⟨rfl, rfl, rfl⟩⟩, .inr ⟨rfl, rfl, rfl⟩⟩, .inr ⟨rfl, rfl, rfl⟩⟩, .inr ⟨rfl, rfl, rfl⟩⟩, .inr ⟨rfl, rfl, rfl⟩⟩, .inr ⟨rfl, rfl, rfl⟩⟩, by decide, rfl, ⟨⟨⟨trivial, rfl⟩, rfl⟩, rfl⟩, rfl⟩ (LeE.upd rfl rfl (LeE.upd rfl rfl (LeE.upd rfl rfl (LeE.upd rfl rfl (LeE.none rfl rfl)))))) ?_
   obtain ⟨x800, H809, H⟩ := bnd H
   refine WP.monoW (Q := fun x E M => x = .exit 0 ∧ E = (((Env.none.upd 2 (.ro (Rd.slice (Rd.int .u8)) false x511)).upd 7 (.lit (.pointer none))).upd 9 (.lit (.int .i64 x800))) ∧ M = ((((((Mem.nil.withP 54 rdS_simfs_file x520).push (.cells 41 [.lit (.int .i64 x512), .whole 3, .mp 1, .mp 2, .whole 4, .ro (Rd.map (Value.int .i64) (Rd.int .i64)) false x513, .lit (.int .i64 x772), .lit (.bool x773)])).push (.dict Value.string (Rd.pp 0) x516 none)).push (.dict Value.string (Rd.pp 0) x517 none)).push (.row 49 (Rd.pp 0) x518)).push (.row 51 rdS_simfs_entry x519))) ?_ ?_
   · refine WP.loop (β := Int × (List (ByteArray × (Option Nat)))) (fun n b => g_simfs_Disk_Write_l0 k x520 n b.1 b.2 = some x800) (fun b => ((((Env.none.upd 2 (.ro (Rd.slice (Rd.int .u8)) false x511)).upd 7 (.lit (.pointer none))).upd 9 (.lit (.int .i64 b.1))).upd 30 (.ptr 5 0))) (fun b => (((((((Mem.nil.withP 54 rdS_simfs_file x520).push (.cells 41 [.lit (.int .i64 x512), .whole 3, .mp 1, .mp 2, .whole 4, .ro (Rd.map (Value.int .i64) (Rd.int .i64)) false x513, .lit (.int .i64 x772), .lit (.bool x773)])).push (.dict Value.string (Rd.pp 0) x516 (some (es30, ck30)))).push (.dict Value.string (Rd.pp 0) x517 none)).push (.row 49 (Rd.pp 0) x518)).push (.row 51 rdS_simfs_entry x519)).push (.iter 1 ck30 es30 (none : Option (ByteArray × (Option Nat))) Value.string (Rd.pp 0) b.2))) k (x512, x516) H809 rfl rfl ?_
     rintro n ⟨x789, x790⟩ H
     obtain _ | n := n
     · exact nf rfl H
     rw [g_simfs_Disk_Write_l0.eq_2] at H
     show WP _ _ _ _ ((((Env.none.upd 2 (.ro (Rd.slice (Rd.int .u8)) false x511)).upd 7 (.lit (.pointer none))).upd 9 (.lit (.int .i64 x789))).upd 30 (.ptr 5 0)) (((((((Mem.nil.withP 54 rdS_simfs_file x520).push (.cells 41 [.lit (.int .i64 x512), .whole 3, .mp 1, .mp 2, .whole 4, .ro (Rd.map (Value.int .i64) (Rd.int .i64)) false x513, .lit (.int .i64 x772), .lit (.bool x773)])).push (.dict Value.string (Rd.pp 0) x516 (some (es30, ck30)))).push (.dict Value.string (Rd.pp 0) x517 none)).push (.row 49 (Rd.pp 0) x518)).push (.row 51 rdS_simfs_entry x519)).push (.iter 1 ck30 es30 (none : Option (ByteArray × (Option Nat))) Value.string (Rd.pp 0) x790)) _
     refine WP.seq ?_
     refine WP.region ?_
     refine WPL.splitB (List.isEmpty x790) (fun hb800 => ?_) (fun hb800 => ?_)
     · replace H := cnt hb800 H
       refine WPL.d (q_nextEndD rfl rfl rfl hb800) rfl ?_
       refine WPL.q (q_extract rfl rfl) rfl ?_
       refine WPL.nilW ?_
       refine W.now ?_
       refine Then.n ?_
       refine WP.seq ?_
       refine WP.condF rfl ?_
       refine WP.exitW ?_
       refine W.cv (Cv.dictN (i := 1) rfl rfl) rfl ?_
       have q0 := (Option.some.inj H)
       subst q0
       exact W.wk [0, 1, 2, 3, 4] hnp (Then.x (Then.x ⟨rfl, rfl, rfl⟩)) ⟨rfl, ⟨⟨⟨⟨⟨trivial, .inr ⟨rfl, rfl, rfl⟩⟩, .inr ⟨rfl, rfl, rfl⟩⟩, .inr ⟨rfl, rfl, rfl⟩⟩, .inr ⟨rfl, rfl, rfl⟩⟩, .inr ⟨rfl, rfl, rfl⟩⟩, by decide, rfl, ⟨⟨⟨trivial, rfl⟩, rfl⟩, rfl⟩, rfl⟩ (LeE.upd rfl rfl (LeE.upd rfl rfl (LeE.upd rfl rfl (LeE.none rfl rfl)))) rfl
     replace H := cnf hb800 H
     refine WPL.nextD rfl rfl rfl hb800 rfl fun x802 x803 hm803 => ?_
     replace H := demonP1 H hm803
     refine WPL.q (q_extract rfl rfl) rfl ?_
     refine WPL.nilW ?_
     refine W.now ?_
     refine Then.n ?_
     refine WP.seq ?_
     refine WP.condT rfl ?_
     refine WP.skipW ?_
     refine W.now ?_
     refine Then.n ?_
     refine WP.block ?_
     refine WP.seq ?_
     refine WP.region ?_
     refine WPL.q (q_entryD rfl rfl rfl) rfl ?_
     refine WPL.q (q_extract rfl rfl) rfl ?_
     refine WPL.q (q_as (v := .ro _ _ _) rfl) rfl ?_
     refine WPL.nilW ?_
     refine W.now ?_
     refine Then.n ?_
     refine WP.region ?_
     refine WPL.q (q_mv (v := .lit (.int _ _)) rfl) rfl ?_
     refine WPL.q (q_mv (v := .ro _ _ _) rfl) rfl ?_
     obtain ⟨x805, h805, H⟩ := bnd H
     refine WPL.q (q_nilCheckP rfl h805) rfl ?_
     refine WPL.q (q_fieldAddrP fi54_0 rfl rfl) rfl ?_
     obtain ⟨x807, h807, H⟩ := bnd H
     refine WPL.q (q_loadP sc22 rfl rfl h807 S_simfs_file.p0 rfl rfl) rfl ?_
     refine WPL.q (q_len_ro sl22 rfl) rfl ?_
     obtain ⟨x809, h809, H⟩ := bnd H
     refine WPL.q (q_nm (q_sub rfl rfl) (nm_int h809)) rfl ?_
     refine WPL.q (q_as (v := .lit (.int _ _)) rfl) rfl ?_
     refine WPL.nilW ?_
     refine W.cv (Cv.iterN (i := 5) rfl rfl) rfl ?_
     exact W.wk [0, 1, 2, 3, 4, 5] hnp (InBlock.n (Then.n ⟨n, (x809, x803), Nat.lt_succ_self n, H, rfl, rfl⟩)) ⟨rfl, ⟨⟨⟨⟨⟨⟨trivial, .inr ⟨rfl, rfl, rfl⟩⟩, .inr ⟨rfl, rfl, rfl⟩⟩, .inr ⟨rfl, rfl, rfl⟩⟩, .inr ⟨rfl, rfl, rfl⟩⟩, .inr ⟨rfl, rfl, rfl⟩⟩, .inr ⟨rfl, rfl, rfl⟩⟩, by decide, rfl, ⟨⟨⟨trivial, rfl⟩, rfl⟩, rfl⟩, rfl⟩ (LeE.upd rfl rfl (LeE.upd rfl rfl (LeE.upd rfl rfl (LeE.upd rfl rfl (LeE.none rfl rfl))))) rfl
   rintro _ _ _ ⟨rfl, rfl, rfl⟩
   refine W.now ?_
   refine InBlock.x0 ?_
   refine Then.n ?_
   refine WP.seq ?_
   refine WP.seq ?_
   refine WP.region ?_
   refine WPL.q (q_mv (v := .ro _ _ _) rfl) rfl ?_
   refine WPL.q (q_len_ro sl22 rfl) rfl ?_
   refine WPL.q (q_mv (v := .lit (.int _ _)) rfl) rfl ?_
   obtain ⟨x813, h813, H⟩ := bnd H
   refine WPL.q (q_nm (q_gtr rfl rfl) (nm_bool h813)) rfl ?_
   refine WPL.nilW ?_
   refine W.now ?_
   refine Then.n ?_
   refine WP.cond (t := x813) rfl (fun hb813 => ?_) (fun hb813 => ?_)
   · replace H := cnt hb813 H
     refine WP.seq ?_
     refine WP.region ?_
     refine WPL.q (q_as (v := .lit (.int _ _)) rfl) rfl ?_
     refine WPL.nilW ?_
     refine W.now ?_
     refine Then.n ?_
     refine WP.retW ?_
     have q0 := (Prod.mk.inj (Option.some.inj H)).1
     have q1 := (Prod.mk.inj (Prod.mk.inj (Option.some.inj H)).2).1
     have q2 := (Prod.mk.inj (Prod.mk.inj (Prod.mk.inj (Option.some.inj H)).2).2).1
     have q3 := (Prod.mk.inj (Prod.mk.inj (Prod.mk.inj (Option.some.inj H)).2).2).2
     subst q0
     subst q1
     subst q2
     subst q3
     exact W.now (Then.r (BodyR.mkR trivial rfl [0, 1, 2, 3, 4] ⟨rfl, rfl⟩ ⟨rfl, ⟨⟨⟨⟨⟨trivial, .inr ⟨rfl, rfl, rfl⟩⟩, .inr ⟨rfl, rfl, rfl⟩⟩, .inr ⟨rfl, rfl, rfl⟩⟩, .inr ⟨rfl, rfl, rfl⟩⟩, .inr ⟨rfl, rfl, rfl⟩⟩, by decide, rfl, ⟨⟨⟨trivial, rfl⟩, rfl⟩, rfl⟩, rfl⟩ rfl rfl))
   replace H := cnf hb813 H
   refine WP.skipW ?_
   refine W.now ?_
   refine Then.n ?_
   refine WP.seq ?_
   refine WP.region ?_
   refine WPL.q (q_mv (v := .lit _) rfl) rfl ?_
   refine WPL.q (q_mv (v := .lit _) rfl) rfl ?_
   exact nf rfl H
 refine WPL.c (runs_call (s := [0, 1, 2, 3, 4]) (t := [0, 1, 2, 6, 7]) (N := 8) (bor := [5]) fn26 rfl (s_simfs_Disk_there k ([x510] : List ByteArray) x512 x513 x514 x515 x516 x517 x518 x519 (Sum.inr (x774, x775, x776)) h769) ⟨rfl, ⟨⟨⟨⟨⟨trivial, .inr ⟨rfl, rfl, rfl⟩⟩, .inr ⟨rfl, rfl, rfl⟩⟩, .inr ⟨rfl, rfl, rfl⟩⟩, .inr ⟨rfl, rfl, rfl⟩⟩, .inr ⟨rfl, rfl, rfl⟩⟩, by decide, rfl, trivial, rfl⟩ rfl ⟨trivial, rfl, rfl, trivial⟩ (.ren rfl rfl (.row rfl rfl .nil)) rfl ⟨⟨⟨⟨⟨trivial, rfl⟩, rfl⟩, rfl⟩, rfl⟩, rfl⟩ rfl) rfl ?_
 refine WPL.q (q_mv (v := .tup _) rfl) rfl ?_
 refine WPL.q (q_extract rfl rfl) rfl ?_
 refine WPL.q (q_extract rfl rfl) rfl ?_
 refine WPL.q (q_as (v := .ro _ _ _) rfl) rfl ?_
 refine WPL.q (q_as (v := .lit (.int _ _)) rfl) rfl ?_
 refine WPL.nilW ?_
 refine W.now ?_
 refine Then.n ?_
 refine WP.seq ?_
 refine WP.seq ?_
 refine WP.region ?_
 refine WPL.q (q_mv (v := .lit (.int _ _)) rfl) rfl ?_
 refine WPL.q (q_neq rfl rfl) rfl ?_
 refine WPL.nilW ?_
 refine W.now ?_
 refine Then.n ?_
 refine WP.condF rfl ?_
 refine WP.skipW ?_
 refine W.now ?_
 refine Then.n ?_
 refine WP.seq ?_
 refine WP.region ?_
 refine WPL.q (q_mv (v := .ptr _ _) rfl) rfl ?_
 refine WPL.q (q_nilCheck rfl) rfl ?_
 refine WPL.q (q_fieldAddr fi41_0 rfl rfl) rfl ?_
 refine WPL.q (q_load sc3 rfl rfl rfl) rfl ?_
 refine WPL.q (q_as (v := .lit (.int _ _)) rfl) rfl ?_
 refine WPL.nilW ?_
 refine W.now ?_
 refine Then.n ?_
 refine WP.seq ?_
 refine WP.seq ?_
 refine WP.region ?_
 refine WPL.q (q_mv (v := .ptr _ _) rfl) rfl ?_
 refine WPL.q (q_nilCheck rfl) rfl ?_
 refine WPL.q (q_fieldAddr fi41_2 rfl rfl) rfl ?_
 refine WPL.q (q_load sc36 rfl rfl rfl) rfl ?_
 refine WPL.rangeD Try.underlying36 rfl rfl rfl rfl fun es30 ck30 => ?_
 refine WPL.nilW ?_
 refine W.now ?_
 refine Then.n ?_
 refine WP.block ?_
 refine WP.cv (Cv.weak (E' := ((((Env.none.upd 2 (.ro (Rd.slice (Rd.int .u8)) false x511)).upd 7 (.ro (Rd.pp 0) false x774)).upd 9 (.lit (.int .i64 x512))).upd 30 (.ptr 5 0))) (M' := (((((((Mem.nil.withP 54 rdS_simfs_file x520).push (.cells 41 [.lit (.int .i64 x512), .whole 3, .mp 1, .mp 2, .whole 4, .ro (Rd.map (Value.int .i64) (Rd.int .i64)) false x513, .lit (.int .i64 x775), .lit (.bool x776)])).push (.dict Value.string (Rd.pp 0) x516 (some (es30, ck30)))).push (.dict Value.string (Rd.pp 0) x517 none)).push (.row 49 (Rd.pp 0) x518)).push (.row 51 rdS_simfs_entry x519)).push (.iter 1 ck30 es30 (none : Option (ByteArray × (Option Nat))) Value.string (Rd.pp 0) x516))) [0, 1, 2, 6, 7, 8] hnp ⟨rfl, ⟨⟨⟨⟨⟨⟨trivial, .inr ⟨rfl, rfl, rfl⟩⟩, .inr ⟨rfl, rfl, rfl⟩⟩, .inr ⟨rfl, rfl, rfl⟩⟩, .inr ⟨rfl, rfl, rfl⟩⟩, .inr ⟨rfl, rfl, rfl⟩⟩, .inr ⟨rfl, rfl, rfl⟩⟩, by decide, rfl, ⟨⟨⟨trivial, rfl⟩, rfl⟩, rfl⟩, rfl⟩ (LeE.upd rfl rfl (LeE.upd rfl rfl (LeE.upd rfl rfl (LeE.upd rfl rfl (LeE.none rfl rfl)))))) ?_
 obtain ⟨x835, H844, H⟩ := bnd H
 refine WP.monoW (Q := fun x E M => x = .exit 0 ∧ E = (((Env.none.upd 2 (.ro (Rd.slice (Rd.int .u8)) false x511)).upd 7 (.ro (Rd.pp 0) false x774)).upd 9 (.lit (.int .i64 x835))) ∧ M = ((((((Mem.nil.withP 54 rdS_simfs_file x520).push (.cells 41 [.lit (.int .i64 x512), .whole 3, .mp 1, .mp 2, .whole 4, .ro (Rd.map (Value.int .i64) (Rd.int .i64)) false x513, .lit (.int .i64 x775), .lit (.bool x776)])).push (.dict Value.string (Rd.pp 0) x516 none)).push (.dict Value.string (Rd.pp 0) x517 none)).push (.row 49 (Rd.pp 0) x518)).push (.row 51 rdS_simfs_entry x519))) ?_ ?_
 · refine WP.loop (β := Int × (List (ByteArray × (Option Nat)))) (fun n b => g_simfs_Disk_Write_l1 k x520 n b.1 b.2 = some x835) (fun b => ((((Env.none.upd 2 (.ro (Rd.slice (Rd.int .u8)) false x511)).upd 7 (.ro (Rd.pp 0) false x774)).upd 9 (.lit (.int .i64 b.1))).upd 30 (.ptr 5 0))) (fun b => (((((((Mem.nil.withP 54 rdS_simfs_file x520).push (.cells 41 [.lit (.int .i64 x512), .whole 3, .mp 1, .mp 2, .whole 4, .ro (Rd.map (Value.int .i64) (Rd.int .i64)) false x513, .lit (.int .i64 x775), .lit (.bool x776)])).push (.dict Value.string (Rd.pp 0) x516 (some (es30, ck30)))).push (.dict Value.string (Rd.pp 0) x517 none)).push (.row 49 (Rd.pp 0) x518)).push (.row 51 rdS_simfs_entry x519)).push (.iter 1 ck30 es30 (none : Option (ByteArray × (Option Nat))) Value.string (Rd.pp 0) b.2))) k (x512, x516) H844 rfl rfl ?_
   rintro n ⟨x824, x825⟩ H
   obtain _ | n := n
   · exact nf rfl H
   rw [g_simfs_Disk_Write_l1.eq_2] at H
   show WP _ _ _ _ ((((Env.none.upd 2 (.ro (Rd.slice (Rd.int .u8)) false x511)).upd 7 (.ro (Rd.pp 0) false x774)).upd 9 (.lit (.int .i64 x824))).upd 30 (.ptr 5 0)) (((((((Mem.nil.withP 54 rdS_simfs_file x520).push (.cells 41 [.lit (.int .i64 x512), .whole 3, .mp 1, .mp 2, .whole 4, .ro (Rd.map (Value.int .i64) (Rd.int .i64)) false x513, .lit (.int .i64 x775), .lit (.bool x776)])).push (.dict Value.string (Rd.pp 0) x516 (some (es30, ck30)))).push (.dict Value.string (Rd.pp 0) x517 none)).push (.row 49 (Rd.pp 0) x518)).push (.row 51 rdS_simfs_entry x519)).push (.iter 1 ck30 es30 (none : Option (ByteArray × (Option Nat))) Value.string (Rd.pp 0) x825)) _
   refine WP.seq ?_
   refine WP.region ?_
   refine WPL.splitB (List.isEmpty x825) (fun hb835 => ?_) (fun hb835 => ?_)
   · replace H := cnt hb835 H
     refine WPL.d (q_nextEndD rfl rfl rfl hb835) rfl ?_
     refine WPL.q (q_extract rfl rfl) rfl ?_
     refine WPL.nilW ?_
     refine W.now ?_
     refine Then.n ?_
     refine WP.seq ?_
     refine WP.condF rfl ?_
     refine WP.exitW ?_
     refine W.cv (Cv.dictN (i := 1) rfl rfl) rfl ?_
     have q0 := (Option.some.inj H)
     subst q0
     exact W.wk [0, 1, 2, 3, 4] hnp (Then.x (Then.x ⟨rfl, rfl, rfl⟩)) ⟨rfl, ⟨⟨⟨⟨⟨trivial, .inr ⟨rfl, rfl, rfl⟩⟩, .inr ⟨rfl, rfl, rfl⟩⟩, .inr ⟨rfl, rfl, rfl⟩⟩, .inr ⟨rfl, rfl, rfl⟩⟩, .inr ⟨rfl, rfl, rfl⟩⟩, by decide, rfl, ⟨⟨⟨trivial, rfl⟩, rfl⟩, rfl⟩, rfl⟩ (LeE.upd rfl rfl (LeE.upd rfl rfl (LeE.upd rfl rfl (LeE.none rfl rfl)))) rfl
   replace H := cnf hb835 H
   refine WPL.nextD rfl rfl rfl hb835 rfl fun x837 x838 hm838 => ?_
   replace H := demonP1 H hm838
   refine WPL.q (q_extract rfl rfl) rfl ?_
   refine WPL.nilW ?_
   refine W.now ?_
   refine Then.n ?_
   refine WP.seq ?_
   refine WP.condT rfl ?_
   refine WP.skipW ?_
   refine W.now ?_
   refine Then.n ?_
   refine WP.block ?_
   refine WP.seq ?_
   refine WP.region ?_
   refine WPL.q (q_entryD rfl rfl rfl) rfl ?_
   refine WPL.q (q_extract rfl rfl) rfl ?_
   refine WPL.q (q_as (v := .ro _ _ _) rfl) rfl ?_
   refine WPL.nilW ?_
   refine W.now ?_
   refine Then.n ?_
   refine WP.region ?_
   refine WPL.q (q_mv (v := .lit (.int _ _)) rfl) rfl ?_
   refine WPL.q (q_mv (v := .ro _ _ _) rfl) rfl ?_
   obtain ⟨x840, h840, H⟩ := bnd H
   refine WPL.q (q_nilCheckP rfl h840) rfl ?_
   refine WPL.q (q_fieldAddrP fi54_0 rfl rfl) rfl ?_
   obtain ⟨x842, h842, H⟩ := bnd H
   refine WPL.q (q_loadP sc22 rfl rfl h842 S_simfs_file.p0 rfl rfl) rfl ?_
   refine WPL.q (q_len_ro sl22 rfl) rfl ?_
   obtain ⟨x844, h844, H⟩ := bnd H
   refine WPL.q (q_nm (q_sub rfl rfl) (nm_int h844)) rfl ?_
   refine WPL.q (q_as (v := .lit (.int _ _)) rfl) rfl ?_
   refine WPL.nilW ?_
   refine W.cv (Cv.iterN (i := 5) rfl rfl) rfl ?_
   exact W.wk [0, 1, 2, 3, 4, 5] hnp (InBlock.n (Then.n ⟨n, (x844, x838), Nat.lt_succ_self n, H, rfl, rfl⟩)) ⟨rfl, ⟨⟨⟨⟨⟨⟨trivial, .inr ⟨rfl, rfl, rfl⟩⟩, .inr ⟨rfl, rfl, rfl⟩⟩, .inr ⟨rfl, rfl, rfl⟩⟩, .inr ⟨rfl, rfl, rfl⟩⟩, .inr ⟨rfl, rfl, rfl⟩⟩, .inr ⟨rfl, rfl, rfl⟩⟩, by decide, rfl, ⟨⟨⟨trivial, rfl⟩, rfl⟩, rfl⟩, rfl⟩ (LeE.upd rfl rfl (LeE.upd rfl rfl (LeE.upd rfl rfl (LeE.upd rfl rfl (LeE.none rfl rfl))))) rfl
 rintro _ _ _ ⟨rfl, rfl, rfl⟩
 refine W.now ?_
 refine InBlock.x0 ?_
 refine Then.n ?_
 refine WP.seq ?_
 refine WP.seq ?_
 refine WP.region ?_
 refine WPL.q (q_mv (v := .ro _ _ _) rfl) rfl ?_
 refine WPL.q (q_len_ro sl22 rfl) rfl ?_
 refine WPL.q (q_mv (v := .lit (.int _ _)) rfl) rfl ?_
 obtain ⟨x848, h848, H⟩ := bnd H
 refine WPL.q (q_nm (q_gtr rfl rfl) (nm_bool h848)) rfl ?_
 refine WPL.nilW ?_
 refine W.now ?_
 refine Then.n ?_
 refine WP.cond (t := x848) rfl (fun hb848 => ?_) (fun hb848 => ?_)
 · replace H := cnt hb848 H
   refine WP.seq ?_
   refine WP.region ?_
   refine WPL.q (q_as (v := .lit (.int _ _)) rfl) rfl ?_
   refine WPL.nilW ?_
   refine W.now ?_
   refine Then.n ?_
   refine WP.retW ?_
   have q0 := (Prod.mk.inj (Option.some.inj H)).1
   have q1 := (Prod.mk.inj (Prod.mk.inj (Option.some.inj H)).2).1
   have q2 := (Prod.mk.inj (Prod.mk.inj (Prod.mk.inj (Option.some.inj H)).2).2).1
   have q3 := (Prod.mk.inj (Prod.mk.inj (Prod.mk.inj (Option.some.inj H)).2).2).2
   subst q0
   subst q1
   subst q2
   subst q3
   exact W.now (Then.r (BodyR.mkR trivial rfl [0, 1, 2, 3, 4] ⟨rfl, rfl⟩ ⟨rfl, ⟨⟨⟨⟨⟨trivial, .inr ⟨rfl, rfl, rfl⟩⟩, .inr ⟨rfl, rfl, rfl⟩⟩, .inr ⟨rfl, rfl, rfl⟩⟩, .inr ⟨rfl, rfl, rfl⟩⟩, .inr ⟨rfl, rfl, rfl⟩⟩, by decide, rfl, ⟨⟨⟨trivial, rfl⟩, rfl⟩, rfl⟩, rfl⟩ rfl rfl))
 replace H := cnf hb848 H
 refine WP.skipW ?_
 refine W.now ?_
 refine Then.n ?_
 refine WP.seq ?_
 refine WP.region ?_
 refine WPL.q (q_mv (v := .ro _ _ _) rfl) rfl ?_
 refine WPL.q (q_mv (v := .ro _ _ _) rfl) rfl ?_
 obtain ⟨x850, h850, H⟩ := bnd H
 refine WPL.q (q_nilCheckP rfl h850) rfl ?_
 refine WPL.q (q_fieldAddrP fi54_0 rfl rfl) rfl ?_
 obtain ⟨x852, h852, H⟩ := bnd H
 refine WPL.q (q_loadP sc22 rfl rfl h852 S_simfs_file.p0 rfl rfl) rfl ?_
 refine WPL.q (q_mv (v := .ro _ _ _) rfl) rfl ?_
 refine WPL.d (d_buildSlice (ds := ([x852.fnow, x511] : List (List Int))) (R := (Rd.slice (Rd.int .u8))) li73 rfl rfl rfl rfl rfl (JoinRows.cons (l := [.ro (Rd.slice (Rd.int .u8)) false x852.fnow]) Joins.one rfl (JoinRows.cons (l := [.ro (Rd.slice (Rd.int .u8)) false x511]) Joins.one rfl JoinRows.nil)) rfl rfl) rfl ?_
 obtain ⟨x855, h853, H⟩ := bnd H
 refine WPL.c (runs_call (s := [5]) (t := [5]) (N := 6) (bor := []) fn34 rfl (s_slices_Concat_byte_byte k ([x852.fnow, x511] : List (List Int)) x855 h853) ⟨rfl, ⟨trivial, .inr ⟨rfl, rfl, rfl⟩⟩, by decide, rfl, trivial, rfl⟩ rfl trivial (.ren rfl rfl .nil) rfl ⟨trivial, rfl⟩ rfl) rfl ?_
 obtain ⟨x856, h856, H⟩ := bnd H
 refine WPL.q (q_nilCheckP rfl h856) rfl ?_
 refine WPL.q (q_fieldAddrP fi54_0 rfl rfl) rfl ?_
 obtain ⟨x858, h858, H⟩ := bnd H
 refine WPL.s (s_storeP (v := x855) sz22 rfl rfl h858 Joins.one rfl S_simfs_file.u0 rfl) ?_
 refine WPL.nilW ?_
 refine W.now ?_
 refine Then.n ?_
 refine WP.seq ?_
 refine WP.region ?_
 refine WPL.q (q_as (v := .lit (.int _ _)) rfl) rfl ?_
 refine WPL.nilW ?_
 refine W.now ?_
 refine Then.n ?_
 refine WP.retW ?_
 have q0 := (Prod.mk.inj (Option.some.inj H)).1
 have q1 := (Prod.mk.inj (Prod.mk.inj (Option.some.inj H)).2).1
 have q2 := (Prod.mk.inj (Prod.mk.inj (Prod.mk.inj (Option.some.inj H)).2).2).1
 have q3 := (Prod.mk.inj (Prod.mk.inj (Prod.mk.inj (Option.some.inj H)).2).2).2
 subst q0
 subst q1
 subst q2
 subst q3
 exact W.now (BodyR.mkR trivial rfl [0, 1, 2, 3, 4] ⟨rfl, rfl⟩ ⟨rfl, ⟨⟨⟨⟨⟨trivial, .inr ⟨rfl, rfl, rfl⟩⟩, .inr ⟨rfl, rfl, rfl⟩⟩, .inr ⟨rfl, rfl, rfl⟩⟩, .inr ⟨rfl, rfl, rfl⟩⟩, .inr ⟨rfl, rfl, rfl⟩⟩, by decide, rfl, ⟨⟨⟨trivial, rfl⟩, rfl⟩, rfl⟩, rfl⟩ rfl rfl)
set_option maxRecDepth 100000 in
set_option maxHeartbeats 4000000 in
theorem s_simfs_Disk_Fsync (k : Nat) (x868 : ByteArray) (x869 : Int) (x870 : (List (Int × Int))) (x871 : Int) (x872 : Bool) (x873 : (List (ByteArray × (Option Nat)))) (x874 : (List (ByteArray × (Option Nat)))) (x875 : (List (Option Nat))) (x876 : (List S_simfs_entry)) (x877 : (List S_simfs_file)) (x905 : Int) (x906 : Int) (x907 : Bool) (x908 : (List S_simfs_file)) (H : g_simfs_Disk_Fsync k x868 x869 x870 x871 x872 x873 x874 x875 x876 x877 = some (x905, x906, x907, x908)) : Go.Q.Spec Try.prog 23 3 [.ptr 0 0, .lit (.string x868)] ((((((Mem.nil.withP 54 rdS_simfs_file x877).push (.cells 41 [.lit (.int .i64 x869), .whole 3, .mp 1, .mp 2, .whole 4, .ro (Rd.map (Value.int .i64) (Rd.int .i64)) false x870, .lit (.int .i64 x871), .lit (.bool x872)])).push (.dict Value.string (Rd.pp 0) x873 none)).push (.dict Value.string (Rd.pp 0) x874 none)).push (.row 49 (Rd.pp 0) x875)).push (.row 51 rdS_simfs_entry x876)) (fun o M => o = .ret (.lit (.int .i64 x905)) ∧ M = ((((((Mem.nil.withP 54 rdS_simfs_file x908).push (.cells 41 [.lit (.int .i64 x869), .whole 3, .mp 1, .mp 2, .whole 4, .ro (Rd.map (Value.int .i64) (Rd.int .i64)) false x870, .lit (.int .i64 x906), .lit (.bool x907)])).push (.dict Value.string (Rd.pp 0) x873 none)).push (.dict Value.string (Rd.pp 0) x874 none)).push (.row 49 (Rd.pp 0) x875)).push (.row 51 rdS_simfs_entry x876))) := by
 unfold g_simfs_Disk_Fsync at H
 refine Go.Q.Spec.of_bodyR (az := []) (rs := [.tmp 4]) (nt := 24) Try.func23 rfl rfl (by intro t T h; simp at h) rfl rfl fun cx hnp => ?_
 refine WP.seq ?_
 refine WP.region ?_
 refine WPL.q (q_as (v := .lit (.int _ _)) rfl) rfl ?_
 refine WPL.nilW ?_
 refine W.now ?_
 refine Then.n ?_
 refine WP.seq ?_
 refine WP.region ?_
 refine WPL.q (q_mv (v := .ptr _ _) rfl) rfl ?_
 refine WPL.q (q_mv (v := .lit (.string _)) rfl) rfl ?_
 refine WPL.d (d_buildSlice (ds := ([x868] : List ByteArray)) (R := Rd.str) li70 rfl rfl rfl rfl rfl (JoinRows.cons1 Joins.sc rfl JoinRows.nil) rfl rfl) rfl ?_
 obtain ⟨y916, h908, H⟩ := bnd H
 rcases y916 with ⟨x910, x911, x912⟩ | ⟨x913, x914, x915⟩
 · refine WPL.c (runs_call (s := [0, 1, 2, 3, 4]) (t := [0, 1, 2, 6, 7]) (N := 8) (bor := [5]) fn26 rfl (s_simfs_Disk_there k ([x868] : List ByteArray) x869 x870 x871 x872 x873 x874 x875 x876 (Sum.inl (x910, x911, x912)) h908) ⟨rfl, ⟨⟨⟨⟨⟨trivial, .inr ⟨rfl, rfl, rfl⟩⟩, .inr ⟨rfl, rfl, rfl⟩⟩, .inr ⟨rfl, rfl, rfl⟩⟩, .inr ⟨rfl, rfl, rfl⟩⟩, .inr ⟨rfl, rfl, rfl⟩⟩, by decide, rfl, trivial, rfl⟩ rfl ⟨trivial, rfl, rfl, trivial⟩ (.ren rfl rfl (.row rfl rfl .nil)) rfl ⟨⟨⟨⟨⟨trivial, rfl⟩, rfl⟩, rfl⟩, rfl⟩, rfl⟩ rfl) rfl ?_
   refine WPL.q (q_mv (v := .tup _) rfl) rfl ?_
   refine WPL.q (q_extract rfl rfl) rfl ?_
   refine WPL.q (q_extract rfl rfl) rfl ?_
   refine WPL.q (q_as (v := .lit _) rfl) rfl ?_
   refine WPL.q (q_as (v := .lit (.int _ _)) rfl) rfl ?_
   refine WPL.nilW ?_
   refine W.now ?_
   refine Then.n ?_
   refine WP.seq ?_
   refine WP.seq ?_
   refine WP.region ?_
   refine WPL.q (q_mv (v := .lit (.int _ _)) rfl) rfl ?_
   refine WPL.q (q_eql rfl rfl) rfl ?_
   refine WPL.nilW ?_
   refine W.now ?_
   refine Then.n ?_
   refine WP.cond (t := (decide (x910 = 0))) rfl (fun hb917 => ?_) (fun hb917 => ?_)
   · replace H := cnt hb917 H
     refine WP.region ?_
     refine WPL.q (q_mv (v := .lit _) rfl) rfl ?_
     refine WPL.q (q_mv (v := .lit _) rfl) rfl ?_
     exact nf rfl H
   replace H := cnf hb917 H
   refine WP.skipW ?_
   refine W.now ?_
   refine Then.n ?_
   refine WP.seq ?_
   refine WP.region ?_
   refine WPL.q (q_mv (v := .lit (.int _ _)) rfl) rfl ?_
   refine WPL.q (q_as (v := .lit (.int _ _)) rfl) rfl ?_
   refine WPL.nilW ?_
   refine W.now ?_
   refine Then.n ?_
   refine WP.retW ?_
   have q0 := (Prod.mk.inj (Option.some.inj H)).1
   have q1 := (Prod.mk.inj (Prod.mk.inj (Option.some.inj H)).2).1
   have q2 := (Prod.mk.inj (Prod.mk.inj (Prod.mk.inj (Option.some.inj H)).2).2).1
   have q3 := (Prod.mk.inj (Prod.mk.inj (Prod.mk.inj (Option.some.inj H)).2).2).2
   subst q0
   subst q1
   subst q2
   subst q3
   exact W.now (BodyR.mkR trivial rfl [0, 1, 2, 6, 7] ⟨rfl, rfl⟩ ⟨rfl, ⟨⟨⟨⟨⟨trivial, .inr ⟨rfl, rfl, rfl⟩⟩, .inr ⟨rfl, rfl, rfl⟩⟩, .inr ⟨rfl, rfl, rfl⟩⟩, .inr ⟨rfl, rfl, rfl⟩⟩, .inr ⟨rfl, rfl, rfl⟩⟩, by decide, rfl, ⟨⟨⟨trivial, rfl⟩, rfl⟩, rfl⟩, rfl⟩ rfl rfl)
 refine WPL.c (runs_call (s := [0, 1, 2, 3, 4]) (t := [0, 1, 2, 6, 7]) (N := 8) (bor := [5]) fn26 rfl (s_simfs_Disk_there k ([x868] : List ByteArray) x869 x870 x871 x872 x873 x874 x875 x876 (Sum.inr (x913, x914, x915)) h908) ⟨rfl, ⟨⟨⟨⟨⟨trivial, .inr ⟨rfl, rfl, rfl⟩⟩, .inr ⟨rfl, rfl, rfl⟩⟩, .inr ⟨rfl, rfl, rfl⟩⟩, .inr ⟨rfl, rfl, rfl⟩⟩, .inr ⟨rfl, rfl, rfl⟩⟩, by decide, rfl, trivial, rfl⟩ rfl ⟨trivial, rfl, rfl, trivial⟩ (.ren rfl rfl (.row rfl rfl .nil)) rfl ⟨⟨⟨⟨⟨trivial, rfl⟩, rfl⟩, rfl⟩, rfl⟩, rfl⟩ rfl) rfl ?_
 refine WPL.q (q_mv (v := .tup _) rfl) rfl ?_
 refine WPL.q (q_extract rfl rfl) rfl ?_
 refine WPL.q (q_extract rfl rfl) rfl ?_
 refine WPL.q (q_as (v := .ro _ _ _) rfl) rfl ?_
 refine WPL.q (q_as (v := .lit (.int _ _)) rfl) rfl ?_
 refine WPL.nilW ?_
 refine W.now ?_
 refine Then.n ?_
 refine WP.seq ?_
 refine WP.seq ?_
 refine WP.region ?_
 refine WPL.q (q_mv (v := .lit (.int _ _)) rfl) rfl ?_
 refine WPL.q (q_eql rfl rfl) rfl ?_
 refine WPL.nilW ?_
 refine W.now ?_
 refine Then.n ?_
 refine WP.condT rfl ?_
 refine WP.region ?_
 refine WPL.q (q_mv (v := .ro _ _ _) rfl) rfl ?_
 refine WPL.q (q_mv (v := .ro _ _ _) rfl) rfl ?_
 obtain ⟨x927, h927, H⟩ := bnd H
 refine WPL.q (q_nilCheckP rfl h927) rfl ?_
 refine WPL.q (q_fieldAddrP fi54_0 rfl rfl) rfl ?_
 obtain ⟨x929, h929, H⟩ := bnd H
 refine WPL.q (q_loadP sc22 rfl rfl h929 S_simfs_file.p0 rfl rfl) rfl ?_
 obtain ⟨x931, h931, H⟩ := bnd H
 refine WPL.q (q_nilCheckP rfl h931) rfl ?_
 refine WPL.q (q_fieldAddrP fi54_1 rfl rfl) rfl ?_
 obtain ⟨x933, h933, H⟩ := bnd H
 refine WPL.s (s_storeP (v := x929.fnow) sz22 rfl rfl h933 Joins.one rfl S_simfs_file.u1 rfl) ?_
 refine WPL.nilW ?_
 refine W.now ?_
 refine Then.n ?_
 refine WP.seq ?_
 refine WP.region ?_
 refine WPL.q (q_mv (v := .lit (.int _ _)) rfl) rfl ?_
 refine WPL.q (q_as (v := .lit (.int _ _)) rfl) rfl ?_
 refine WPL.nilW ?_
 refine W.now ?_
 refine Then.n ?_
 refine WP.retW ?_
 have q0 := (Prod.mk.inj (Option.some.inj H)).1
 have q1 := (Prod.mk.inj (Prod.mk.inj (Option.some.inj H)).2).1
 have q2 := (Prod.mk.inj (Prod.mk.inj (Prod.mk.inj (Option.some.inj H)).2).2).1
 have q3 := (Prod.mk.inj (Prod.mk.inj (Prod.mk.inj (Option.some.inj H)).2).2).2
 subst q0
 subst q1
 subst q2
 subst q3
 exact W.now (BodyR.mkR trivial rfl [0, 1, 2, 6, 7] ⟨rfl, rfl⟩ ⟨rfl, ⟨⟨⟨⟨⟨trivial, .inr ⟨rfl, rfl, rfl⟩⟩, .inr ⟨rfl, rfl, rfl⟩⟩, .inr ⟨rfl, rfl, rfl⟩⟩, .inr ⟨rfl, rfl, rfl⟩⟩, .inr ⟨rfl, rfl, rfl⟩⟩, by decide, rfl, ⟨⟨⟨trivial, rfl⟩, rfl⟩, rfl⟩, rfl⟩ rfl rfl)
set_option maxRecDepth 100000 in
set_option maxHeartbeats 4000000 in
theorem s_simfs_entry_to__b (k : Nat) (x974 : ByteArray) (x975 : ByteArray) (x976 : (List (ByteArray × (Option Nat)))) (H : g_simfs_entry_to__b k x974 x975 x976 = some ()) : Go.Q.Spec Try.prog 16 1 [.agg [.lit (.string x974), .lit (.string x975), .lit (.pointer none)], .mp 0] (Mem.nil.push (.dict Value.string (Rd.pp 0) x976 none)) (fun o M => o = .ret (.tup []) ∧ M = (Mem.nil.push (.dict Value.string (Rd.pp 0) (dDel x976 x974) none))) := by
 unfold g_simfs_entry_to__b at H
 refine Go.Q.Spec.of_bodyR (az := []) (rs := []) (nt := 15) Try.func16 rfl rfl (by intro t T h; simp at h) rfl rfl fun cx hnp => ?_
 refine WP.seq ?_
 refine WP.region ?_
 refine WPL.d (d_box rfl rfl) rfl ?_
 refine WPL.nilW ?_
 refine W.now ?_
 refine Then.n ?_
 refine WP.seq ?_
 refine WP.region ?_
 refine WPL.q (q_mv (v := .mp _) rfl) rfl ?_
 refine WPL.q (q_fieldAddr fi51_0 rfl rfl) rfl ?_
 refine WPL.q (q_load sc9 rfl rfl rfl) rfl ?_
 refine WPL.dN (d_delete (k := x974) dk9 Try.underlying36 rfl rfl rfl) ?_
 refine WPL.nilW ?_
 refine W.now ?_
 refine Then.n ?_
 refine WP.seq ?_
 refine WP.region ?_
 refine WPL.q (q_fieldAddr fi51_2 rfl rfl) rfl ?_
 refine WPL.q (q_load sc49 rfl rfl rfl) rfl ?_
 refine WPL.q (q_neqp_nil Try.underlying49 rfl) rfl ?_
 refine WPL.nilW ?_
 refine W.now ?_
 refine Then.n ?_
 refine WP.condF rfl ?_
 refine WP.skipW ?_
 exact W.now (BodyR.mkN trivial rfl [0] ⟨rfl, rfl⟩ ⟨rfl, ⟨trivial, .inr ⟨rfl, rfl, rfl⟩⟩, by decide, rfl, ⟨trivial, rfl⟩, rfl⟩ rfl rfl)
set_option maxRecDepth 100000 in
set_option maxHeartbeats 4000000 in
theorem s_simfs_Disk_change__b (k : Nat) (x963 : ByteArray) (x964 : ByteArray) (x965 : Int) (x966 : (List (Int × Int))) (x967 : Int) (x968 : Bool) (x969 : (List (ByteArray × (Option Nat)))) (x970 : (List (ByteArray × (Option Nat)))) (x971 : (List (Option Nat))) (x972 : (List S_simfs_entry)) (H : g_simfs_Disk_change__b k x963 x964 x965 x966 x967 x968 x969 x970 x971 x972 = some ()) : Go.Q.Spec Try.prog 27 3 [.ptr 0 0, .agg [.lit (.string x963), .lit (.string x964), .lit (.pointer none)]] (((((Mem.nil.push (.cells 41 [.lit (.int .i64 x965), .whole 3, .mp 1, .mp 2, .whole 4, .ro (Rd.map (Value.int .i64) (Rd.int .i64)) false x966, .lit (.int .i64 x967), .lit (.bool x968)])).push (.dict Value.string (Rd.pp 0) x969 none)).push (.dict Value.string (Rd.pp 0) x970 none)).push (.row 49 (Rd.pp 0) x971)).push (.row 51 rdS_simfs_entry x972)) (fun o M => o = .ret (.tup []) ∧ M = (((((Mem.nil.push (.cells 41 [.lit (.int .i64 x965), .whole 3, .mp 1, .mp 2, .whole 4, .ro (Rd.map (Value.int .i64) (Rd.int .i64)) false x966, .lit (.int .i64 x967), .lit (.bool x968)])).push (.dict Value.string (Rd.pp 0) (dDel x969 x963) none)).push (.dict Value.string (Rd.pp 0) x970 none)).push (.row 49 (Rd.pp 0) x971)).push (.row 51 rdS_simfs_entry (x972 ++ ([(⟨x963, x964, none⟩ : S_simfs_entry)] : List S_simfs_entry))))) := by
 unfold g_simfs_Disk_change__b at H
 refine Go.Q.Spec.of_bodyR (az := []) (rs := []) (nt := 20) Try.func27 rfl rfl (by intro t T h; simp at h) rfl rfl fun cx hnp => ?_
 refine WP.seq ?_
 refine WP.region ?_
 refine WPL.d (d_box rfl rfl) rfl ?_
 refine WPL.nilW ?_
 refine W.now ?_
 refine Then.n ?_
 refine WP.seq ?_
 refine WP.regionD' 6 [0, 5] [] mixed rfl ?_
 refine WPD.takeT 1 rfl (by kernel_rfl) (q_mv (v := .ptr _ _) rfl) rfl ?_
 refine WPD.takeT 2 rfl (by kernel_rfl) (q_nilCheck rfl) rfl ?_
 refine WPD.takeT 3 rfl (by kernel_rfl) (q_fieldAddr fi41_2 rfl rfl) rfl ?_
 refine WPD.take 0 rfl (by kernel_rfl) (q_load_ag ag51 rfl rfl (Nat.le_of_ble_eq_true rfl)) rfl rfl ?_
 refine WPD.take 4 rfl (by kernel_rfl) (q_load sc36 rfl rfl rfl) rfl rfl ?_
 obtain ⟨_, h983, H⟩ := bnd H
 refine WPD.eff 5 [0, 5] [] rfl (by kernel_rfl) (runs_call (s := [1]) (t := [1]) (N := 6) (bor := []) fn16 rfl (s_simfs_entry_to__b k x963 x964 x969 h983) ⟨rfl, ⟨trivial, .inr ⟨rfl, rfl, rfl⟩⟩, by decide, rfl, trivial, rfl⟩ rfl trivial (.ren rfl rfl (.ren rfl rfl .nil)) rfl ⟨trivial, rfl⟩ rfl) rfl rfl ?_
 refine WPD.doneW (by kernel_rfl) ?_
 refine W.now ?_
 refine Then.n ?_
 refine WP.regionD' 11 [0, 5] [10] mixed rfl ?_
 refine WPD.takeT 0 rfl (by kernel_rfl) (q_mv (v := .ptr _ _) rfl) rfl ?_
 refine WPD.takeT 1 rfl (by kernel_rfl) (q_mv (v := .ptr _ _) rfl) rfl ?_
 refine WPD.takeT 2 rfl (by kernel_rfl) (q_nilCheck rfl) rfl ?_
 refine WPD.takeT 3 rfl (by kernel_rfl) (q_fieldAddr fi41_4 rfl rfl) rfl ?_
 refine WPD.take 4 rfl (by kernel_rfl) (q_load sc38 rfl rfl rfl) rfl rfl ?_
 refine WPD.take 5 rfl (by kernel_rfl) (q_load_ag ag51 rfl rfl (Nat.le_of_ble_eq_true rfl)) rfl rfl ?_
 refine WPD.eff 6 [0, 5] [10] rfl (by kernel_rfl) (Does.runs (d_buildSlice (ds := ([(⟨x963, x964, none⟩ : S_simfs_entry)] : List S_simfs_entry)) (R := rdS_simfs_entry) li38 rfl rfl rfl rfl rfl (JoinRows.cons (l := [.lit (.string x963), .lit (.string x964), .lit (.pointer none)]) (Joins.via (Joins.cons Joins.sc (Joins.cons Joins.sc (Joins.cons Joins.ppNil Joins.unit)))) rfl JoinRows.nil) rfl rfl)) rfl rfl ?_
 obtain ⟨h986, H⟩ := grd H
 refine WPD.eff 7 [0, 5] [10] rfl (by kernel_rfl) (Does.runs (d_append ap38 rfl rfl rfl rfl (src_row sl38 rfl rfl) h986 rfl)) rfl rfl ?_
 refine WPD.takeT 8 rfl (by kernel_rfl) (q_nilCheck rfl) rfl ?_
 refine WPD.takeT 9 rfl (by kernel_rfl) (q_fieldAddr fi41_4 rfl rfl) rfl ?_
 refine WPD.effS 10 [] [] rfl (by kernel_rfl) (s_store sz38 rfl rfl rfl rfl rfl) rfl ?_
 refine WPD.doneW (by kernel_rfl) ?_
 exact W.now (BodyR.mkN trivial rfl [0, 1, 2, 3, 7] ⟨rfl, rfl⟩ ⟨rfl, ⟨⟨⟨⟨⟨trivial, .inr ⟨rfl, rfl, rfl⟩⟩, .inr ⟨rfl, rfl, rfl⟩⟩, .inr ⟨rfl, rfl, rfl⟩⟩, .inr ⟨rfl, rfl, rfl⟩⟩, .inr ⟨rfl, rfl, rfl⟩⟩, by decide, rfl, ⟨⟨⟨trivial, rfl⟩, rfl⟩, rfl⟩, rfl⟩ rfl rfl)
set_option maxRecDepth 100000 in
set_option maxHeartbeats 4000000 in
theorem s_simfs_Disk_Rename (k : Nat) (x943 : ByteArray) (x944 : ByteArray) (x945 : Int) (x946 : (List (Int × Int))) (x947 : Int) (x948 : Bool) (x949 : (List (ByteArray × (Option Nat)))) (x950 : (List (ByteArray × (Option Nat)))) (x951 : (List (Option Nat))) (x952 : (List S_simfs_entry)) (x998 : Int) (x999 : Int) (x1000 : Bool) (x1001 : (List (ByteArray × (Option Nat)))) (x1002 : (List S_simfs_entry)) (H : g_simfs_Disk_Rename k x943 x944 x945 x946 x947 x948 x949 x950 x951 x952 = some (x998, x999, x1000, x1001, x1002)) : Go.Q.Spec Try.prog 24 3 [.ptr 0 0, .lit (.string x943), .lit (.string x944)] (((((Mem.nil.push (.cells 41 [.lit (.int .i64 x945), .whole 3, .mp 1, .mp 2, .whole 4, .ro (Rd.map (Value.int .i64) (Rd.int .i64)) false x946, .lit (.int .i64 x947), .lit (.bool x948)])).push (.dict Value.string (Rd.pp 0) x949 none)).push (.dict Value.string (Rd.pp 0) x950 none)).push (.row 49 (Rd.pp 0) x951)).push (.row 51 rdS_simfs_entry x952)) (fun o M => o = .ret (.lit (.int .i64 x998)) ∧ M = (((((Mem.nil.push (.cells 41 [.lit (.int .i64 x945), .whole 3, .mp 1, .mp 2, .whole 4, .ro (Rd.map (Value.int .i64) (Rd.int .i64)) false x946, .lit (.int .i64 x999), .lit (.bool x1000)])).push (.dict Value.string (Rd.pp 0) x1001 none)).push (.dict Value.string (Rd.pp 0) x950 none)).push (.row 49 (Rd.pp 0) x951)).push (.row 51 rdS_simfs_entry x1002))) := by
 unfold g_simfs_Disk_Rename at H
 refine Go.Q.Spec.of_bodyR (az := []) (rs := [.tmp 6]) (nt := 26) Try.func24 rfl rfl (by intro t T h; simp at h) rfl rfl fun cx hnp => ?_
 refine WP.seq ?_
 refine WP.region ?_
 refine WPL.q (q_as (v := .lit (.int _ _)) rfl) rfl ?_
 refine WPL.nilW ?_
 refine W.now ?_
 refine Then.n ?_
 refine WP.seq ?_
 refine WP.region ?_
 refine WPL.q (q_mv (v := .ptr _ _) rfl) rfl ?_
 refine WPL.q (q_mv (v := .lit (.string _)) rfl) rfl ?_
 refine WPL.q (q_mv (v := .lit (.string _)) rfl) rfl ?_
 refine WPL.d (d_buildSlice (ds := ([x943, x944] : List ByteArray)) (R := Rd.str) li70 rfl rfl rfl rfl rfl (JoinRows.cons1 Joins.sc rfl (JoinRows.cons1 Joins.sc rfl JoinRows.nil)) rfl rfl) rfl ?_
 obtain ⟨y1010, h1002, H⟩ := bnd H
 rcases y1010 with ⟨x1004, x1005, x1006⟩ | ⟨x1007, x1008, x1009⟩
 · refine WPL.c (runs_call (s := [0, 1, 2, 3, 4]) (t := [0, 1, 2, 6, 7]) (N := 8) (bor := [5]) fn26 rfl (s_simfs_Disk_there k ([x943, x944] : List ByteArray) x945 x946 x947 x948 x949 x950 x951 x952 (Sum.inl (x1004, x1005, x1006)) h1002) ⟨rfl, ⟨⟨⟨⟨⟨trivial, .inr ⟨rfl, rfl, rfl⟩⟩, .inr ⟨rfl, rfl, rfl⟩⟩, .inr ⟨rfl, rfl, rfl⟩⟩, .inr ⟨rfl, rfl, rfl⟩⟩, .inr ⟨rfl, rfl, rfl⟩⟩, by decide, rfl, trivial, rfl⟩ rfl ⟨trivial, rfl, rfl, trivial⟩ (.ren rfl rfl (.row rfl rfl .nil)) rfl ⟨⟨⟨⟨⟨trivial, rfl⟩, rfl⟩, rfl⟩, rfl⟩, rfl⟩ rfl) rfl ?_
   refine WPL.q (q_mv (v := .tup _) rfl) rfl ?_
   refine WPL.q (q_extract rfl rfl) rfl ?_
   refine WPL.q (q_extract rfl rfl) rfl ?_
   refine WPL.q (q_as (v := .lit _) rfl) rfl ?_
   refine WPL.q (q_as (v := .lit (.int _ _)) rfl) rfl ?_
   refine WPL.nilW ?_
   refine W.now ?_
   refine Then.n ?_
   refine WP.seq ?_
   obtain ⟨⟨x1013, x1014⟩, H1016, H⟩ := bnd H
   refine WP.monoW (Q := fun x E M => x = .normal ∧ E = (Env.none.upd 8 (.lit (.int .i64 x1004))) ∧ M = (((((Mem.nil.push (.cells 41 [.lit (.int .i64 x945), .whole 3, .mp 1, .mp 2, .whole 4, .ro (Rd.map (Value.int .i64) (Rd.int .i64)) false x946, .lit (.int .i64 x1005), .lit (.bool x1006)])).push (.dict Value.string (Rd.pp 0) x1013 none)).push (.dict Value.string (Rd.pp 0) x950 none)).push (.row 49 (Rd.pp 0) x951)).push (.row 51 rdS_simfs_entry x1014))) ?_ ?_
   · clear H
     have H := H1016
     clear H1016
     refine WP.seq ?_
     refine WP.region ?_
     refine WPL.q (q_mv (v := .lit (.int _ _)) rfl) rfl ?_
     refine WPL.q (q_eql rfl rfl) rfl ?_
     refine WPL.nilW ?_
     refine W.now ?_
     refine Then.n ?_
     refine WP.cond (t := (decide (x1004 = 0))) rfl (fun hb1014 => ?_) (fun hb1014 => ?_)
     · replace H := cnt hb1014 H
       refine WP.region ?_
       refine WPL.q (q_mv (v := .ptr _ _) rfl) rfl ?_
       refine WPL.q (q_mv (v := .lit (.string _)) rfl) rfl ?_
       refine WPL.q (q_mv (v := .lit (.string _)) rfl) rfl ?_
       refine WPL.q (q_mv (v := .lit _) rfl) rfl ?_
       refine WPL.q (q_build bu51 rfl) rfl ?_
       obtain ⟨_, h1015, H⟩ := bnd H
       refine WPL.c (runs_call (s := [0, 1, 2, 6, 7]) (t := [0, 1, 2, 8, 9]) (N := 10) (bor := []) fn27 rfl (s_simfs_Disk_change__b k x943 x944 x945 x946 x1005 x1006 x949 x950 x951 x952 h1015) ⟨rfl, ⟨⟨⟨⟨⟨trivial, .inr ⟨rfl, rfl, rfl⟩⟩, .inr ⟨rfl, rfl, rfl⟩⟩, .inr ⟨rfl, rfl, rfl⟩⟩, .inr ⟨rfl, rfl, rfl⟩⟩, .inr ⟨rfl, rfl, rfl⟩⟩, by decide, rfl, trivial, rfl⟩ rfl trivial (.ren rfl rfl (.ren rfl rfl .nil)) rfl ⟨⟨⟨⟨⟨trivial, rfl⟩, rfl⟩, rfl⟩, rfl⟩, rfl⟩ rfl) rfl ?_
       refine WPL.nilW ?_
       have q0 := (Prod.mk.inj (Option.some.inj H)).1
       have q1 := (Prod.mk.inj (Option.some.inj H)).2
       subst q0
       subst q1
       exact W.wk [0, 1, 2, 8, 9] hnp ⟨rfl, rfl, rfl⟩ ⟨rfl, ⟨⟨⟨⟨⟨trivial, .inr ⟨rfl, rfl, rfl⟩⟩, .inr ⟨rfl, rfl, rfl⟩⟩, .inr ⟨rfl, rfl, rfl⟩⟩, .inr ⟨rfl, rfl, rfl⟩⟩, .inr ⟨rfl, rfl, rfl⟩⟩, by decide, rfl, ⟨⟨⟨trivial, rfl⟩, rfl⟩, rfl⟩, rfl⟩ (LeE.upd rfl rfl (LeE.none rfl rfl)) rfl
     replace H := cnf hb1014 H
     refine WP.skipW ?_
     have q0 := (Prod.mk.inj (Option.some.inj H)).1
     have q1 := (Prod.mk.inj (Option.some.inj H)).2
     subst q0
     subst q1
     exact W.wk [0, 1, 2, 6, 7] hnp ⟨rfl, rfl, rfl⟩ ⟨rfl, ⟨⟨⟨⟨⟨trivial, .inr ⟨rfl, rfl, rfl⟩⟩, .inr ⟨rfl, rfl, rfl⟩⟩, .inr ⟨rfl, rfl, rfl⟩⟩, .inr ⟨rfl, rfl, rfl⟩⟩, .inr ⟨rfl, rfl, rfl⟩⟩, by decide, rfl, ⟨⟨⟨trivial, rfl⟩, rfl⟩, rfl⟩, rfl⟩ (LeE.upd rfl rfl (LeE.none rfl rfl)) rfl
   rintro _ _ _ ⟨rfl, rfl, rfl⟩
   refine W.now ?_
   refine Then.n ?_
   refine WP.seq ?_
   refine WP.region ?_
   refine WPL.q (q_mv (v := .lit (.int _ _)) rfl) rfl ?_
   refine WPL.q (q_as (v := .lit (.int _ _)) rfl) rfl ?_
   refine WPL.nilW ?_
   refine W.now ?_
   refine Then.n ?_
   refine WP.retW ?_
   have q0 := (Prod.mk.inj (Option.some.inj H)).1
   have q1 := (Prod.mk.inj (Prod.mk.inj (Option.some.inj H)).2).1
   have q2 := (Prod.mk.inj (Prod.mk.inj (Prod.mk.inj (Option.some.inj H)).2).2).1
   have q3 := (Prod.mk.inj (Prod.mk.inj (Prod.mk.inj (Prod.mk.inj (Option.some.inj H)).2).2).2).1
   have q4 := (Prod.mk.inj (Prod.mk.inj (Prod.mk.inj (Prod.mk.inj (Option.some.inj H)).2).2).2).2
   subst q0
   subst q1
   subst q2
   subst q3
   subst q4
   exact W.now (BodyR.mkR trivial rfl [0, 1, 2, 3, 4] ⟨rfl, rfl⟩ ⟨rfl, ⟨⟨⟨⟨⟨trivial, .inr ⟨rfl, rfl, rfl⟩⟩, .inr ⟨rfl, rfl, rfl⟩⟩, .inr ⟨rfl, rfl, rfl⟩⟩, .inr ⟨rfl, rfl, rfl⟩⟩, .inr ⟨rfl, rfl, rfl⟩⟩, by decide, rfl, ⟨⟨⟨trivial, rfl⟩, rfl⟩, rfl⟩, rfl⟩ rfl rfl)
 refine WPL.c (runs_call (s := [0, 1, 2, 3, 4]) (t := [0, 1, 2, 6, 7]) (N := 8) (bor := [5]) fn26 rfl (s_simfs_Disk_there k ([x943, x944] : List ByteArray) x945 x946 x947 x948 x949 x950 x951 x952 (Sum.inr (x1007, x1008, x1009)) h1002) ⟨rfl, ⟨⟨⟨⟨⟨trivial, .inr ⟨rfl, rfl, rfl⟩⟩, .inr ⟨rfl, rfl, rfl⟩⟩, .inr ⟨rfl, rfl, rfl⟩⟩, .inr ⟨rfl, rfl, rfl⟩⟩, .inr ⟨rfl, rfl, rfl⟩⟩, by decide, rfl, trivial, rfl⟩ rfl ⟨trivial, rfl, rfl, trivial⟩ (.ren rfl rfl (.row rfl rfl .nil)) rfl ⟨⟨⟨⟨⟨trivial, rfl⟩, rfl⟩, rfl⟩, rfl⟩, rfl⟩ rfl) rfl ?_
 refine WPL.q (q_mv (v := .tup _) rfl) rfl ?_
 refine WPL.q (q_extract rfl rfl) rfl ?_
 refine WPL.q (q_extract rfl rfl) rfl ?_
 refine WPL.q (q_as (v := .ro _ _ _) rfl) rfl ?_
 refine WPL.q (q_as (v := .lit (.int _ _)) rfl) rfl ?_
 refine WPL.nilW ?_
 refine W.now ?_
 refine Then.n ?_
 refine WP.seq ?_
 refine WP.seq ?_
 refine WP.region ?_
 refine WPL.q (q_mv (v := .lit (.int _ _)) rfl) rfl ?_
 refine WPL.q (q_eql rfl rfl) rfl ?_
 refine WPL.nilW ?_
 refine W.now ?_
 refine Then.n ?_
 refine WP.condT rfl ?_
 refine WP.region ?_
 refine WPL.q (q_mv (v := .ptr _ _) rfl) rfl ?_
 refine WPL.q (q_mv (v := .lit (.string _)) rfl) rfl ?_
 refine WPL.q (q_mv (v := .lit (.string _)) rfl) rfl ?_
 refine WPL.q (q_mv (v := .ro _ _ _) rfl) rfl ?_
 refine WPL.q (q_build bu51 rfl) rfl ?_
 obtain ⟨x1021, h1019, H⟩ := bnd H
 refine WPL.c (runs_call (s := [0, 1, 2, 6, 7]) (t := [0, 1, 2, 8, 9]) (N := 10) (bor := []) fn27 rfl (s_simfs_Disk_change k x943 x944 x1007 x945 x946 x1008 x1009 x949 x950 x951 x952 x1021 h1019) ⟨rfl, ⟨⟨⟨⟨⟨trivial, .inr ⟨rfl, rfl, rfl⟩⟩, .inr ⟨rfl, rfl, rfl⟩⟩, .inr ⟨rfl, rfl, rfl⟩⟩, .inr ⟨rfl, rfl, rfl⟩⟩, .inr ⟨rfl, rfl, rfl⟩⟩, by decide, rfl, trivial, rfl⟩ rfl trivial (.ren rfl rfl (.ren rfl rfl .nil)) rfl ⟨⟨⟨⟨⟨trivial, rfl⟩, rfl⟩, rfl⟩, rfl⟩, rfl⟩ rfl) rfl ?_
 refine WPL.nilW ?_
 refine W.now ?_
 refine Then.n ?_
 refine WP.seq ?_
 refine WP.region ?_
 refine WPL.q (q_mv (v := .lit (.int _ _)) rfl) rfl ?_
 refine WPL.q (q_as (v := .lit (.int _ _)) rfl) rfl ?_
 refine WPL.nilW ?_
 refine W.now ?_
 refine Then.n ?_
 refine WP.retW ?_
 have q0 := (Prod.mk.inj (Option.some.inj H)).1
 have q1 := (Prod.mk.inj (Prod.mk.inj (Option.some.inj H)).2).1
 have q2 := (Prod.mk.inj (Prod.mk.inj (Prod.mk.inj (Option.some.inj H)).2).2).1
 have q3 := (Prod.mk.inj (Prod.mk.inj (Prod.mk.inj (Prod.mk.inj (Option.some.inj H)).2).2).2).1
 have q4 := (Prod.mk.inj (Prod.mk.inj (Prod.mk.inj (Prod.mk.inj (Option.some.inj H)).2).2).2).2
 subst q0
 subst q1
 subst q2
 subst q3
 subst q4
 exact W.now (BodyR.mkR trivial rfl [0, 1, 2, 8, 9] ⟨rfl, rfl⟩ ⟨rfl, ⟨⟨⟨⟨⟨trivial, .inr ⟨rfl, rfl, rfl⟩⟩, .inr ⟨rfl, rfl, rfl⟩⟩, .inr ⟨rfl, rfl, rfl⟩⟩, .inr ⟨rfl, rfl, rfl⟩⟩, .inr ⟨rfl, rfl, rfl⟩⟩, by decide, rfl, ⟨⟨⟨trivial, rfl⟩, rfl⟩, rfl⟩, rfl⟩ rfl rfl)
end Go.Proofs.Ytcaeafojgehamaa.W
namespace Go.Proofs.Ytcaeafojgehamaa.W
open Go Go.Q Go.Proofs
set_option linter.unusedVariables false
set_option linter.unusedSimpArgs false
set_option maxRecDepth 100000 in
set_option maxHeartbeats 4000000 in
theorem s_slices_IndexFunc_string_string__b (k : Nat) (x1053 : (List ByteArray)) (x1081 : Int) (H : g_slices_IndexFunc_string_string k x1053 = some x1081) : Go.Q.Spec Try.prog 40 0 [.ro (Rd.slice Rd.str) false x1053, .fn 37 []] Mem.nil (fun o M => o = .ret (.lit (.int .i64 x1081)) ∧ M = Mem.nil) := by
 unfold g_slices_IndexFunc_string_string at H
 refine Go.Q.Spec.of_bodyR (az := []) (rs := [.tmp 4]) (nt := 19) Try.func40 rfl rfl (by intro t T h; simp at h) rfl rfl fun cx hnp => ?_
 refine WP.seq ?_
 refine WP.region ?_
 refine WPL.q (q_as (v := .lit (.int _ _)) rfl) rfl ?_
 refine WPL.nilW ?_
 refine W.now ?_
 refine Then.n ?_
 refine WP.seq ?_
 refine WP.seq ?_
 refine WP.region ?_
 refine WPL.q (q_mv (v := .ro _ _ _) rfl) rfl ?_
 refine WPL.q (q_len_ro sl70 rfl) rfl ?_
 refine WPL.q (q_mv (v := .lit (.int _ _)) rfl) rfl ?_
 refine WPL.nilW ?_
 refine W.now ?_
 refine Then.n ?_
 refine WP.block ?_
 refine WP.cv (Cv.weak (E' := ((((Env.none.upd 0 (.ro (Rd.slice Rd.str) false x1053)).upd 1 (.fn 37 [])).upd 7 (.lit (.int .i64 ((List.length x1053 : Nat) : Int)))).upd 8 (.lit (.int .i64 0)))) (M' := Mem.nil) [] hnp ⟨rfl, trivial, by decide, rfl, trivial, rfl⟩ (LeE.upd rfl rfl (LeE.upd rfl rfl (LeE.upd rfl rfl (LeE.upd rfl rfl (LeE.none rfl rfl)))))) ?_
 obtain ⟨y1118, H1116, H⟩ := bnd H
 refine WP.monoW (Q := fun x E M => match (generalizing := false) y1118 with | (Sum.inl x1105) => x = .ret ∧ E = (Env.none.upd 4 (.lit (.int .i64 x1105))) ∧ M = Mem.nil | (Sum.inr _) => x = .exit 0 ∧ E = Env.none ∧ M = Mem.nil) ?_ ?_
 · refine WP.loop (β := Int) (fun n b => g_slices_IndexFunc_string_string_l0 k x1053 n b = some y1118) (fun b => ((((Env.none.upd 0 (.ro (Rd.slice Rd.str) false x1053)).upd 1 (.fn 37 [])).upd 7 (.lit (.int .i64 ((List.length x1053 : Nat) : Int)))).upd 8 (.lit (.int .i64 b)))) (fun b => Mem.nil) k 0 H1116 rfl rfl ?_
   rintro n x1093 H
   obtain _ | n := n
   · exact nf rfl H
   rw [g_slices_IndexFunc_string_string_l0.eq_2] at H
   show WP _ _ _ _ ((((Env.none.upd 0 (.ro (Rd.slice Rd.str) false x1053)).upd 1 (.fn 37 [])).upd 7 (.lit (.int .i64 ((List.length x1053 : Nat) : Int)))).upd 8 (.lit (.int .i64 x1093))) Mem.nil _
   refine WP.seq ?_
   refine WP.region ?_
   obtain ⟨x1106, h1106, H⟩ := bnd H
   refine WPL.q (q_nm (q_lss rfl rfl) (nm_bool h1106)) rfl ?_
   refine WPL.nilW ?_
   refine W.now ?_
   refine Then.n ?_
   refine WP.seq ?_
   refine WP.cond (t := x1106) rfl (fun hb1107 => ?_) (fun hb1107 => ?_)
   · replace H := cnt hb1107 H
     refine WP.skipW ?_
     refine W.now ?_
     refine Then.n ?_
     refine WP.seq ?_
     refine WP.block ?_
     refine WP.seq ?_
     refine WP.region ?_
     refine WPL.q (q_mv (v := .lit (.int _ _)) rfl) rfl ?_
     refine WPL.q (q_as (v := .lit (.int _ _)) rfl) rfl ?_
     refine WPL.nilW ?_
     refine W.now ?_
     refine Then.n ?_
     refine WP.seq ?_
     refine WP.region ?_
     refine WPL.q (q_mv (v := .fn _ _) rfl) rfl ?_
     refine WPL.q (q_mv (v := .ro _ _ _) rfl) rfl ?_
     refine WPL.q (q_mv (v := .lit (.int _ _)) rfl) rfl ?_
     obtain ⟨x1113, h1113, H⟩ := bnd H
     refine WPL.q (q_index_ro sl70 rfl rfl rfl h1113) rfl ?_
     refine WPL.q (q_load_sc sc9 rfl) rfl ?_
     obtain ⟨x1115, h1113, H⟩ := bnd H
     refine WPL.c (runs_call (s := []) (t := []) (N := 0) (bor := []) fn37 rfl (s_simfs_Disk_step_1 k x1113 x1115 h1113) ⟨rfl, trivial, by decide, rfl, trivial, rfl⟩ rfl trivial (.ren rfl rfl .nil) rfl trivial rfl) rfl ?_
     refine WPL.nilW ?_
     refine W.now ?_
     refine Then.n ?_
     refine WP.cond (t := x1115) rfl (fun hb1115 => ?_) (fun hb1115 => ?_)
     · replace H := cnt hb1115 H
       refine WP.seq ?_
       refine WP.region ?_
       refine WPL.q (q_mv (v := .lit (.int _ _)) rfl) rfl ?_
       refine WPL.q (q_as (v := .lit (.int _ _)) rfl) rfl ?_
       refine WPL.nilW ?_
       refine W.now ?_
       refine Then.n ?_
       refine WP.retW ?_
       have q0 := Option.some.inj H
       subst q0
       exact W.wk [] hnp (InBlock.r (Then.r (Then.r ⟨rfl, rfl, rfl⟩))) ⟨rfl, trivial, by decide, rfl, trivial, rfl⟩ (LeE.upd rfl rfl (LeE.none rfl rfl)) rfl
     replace H := cnf hb1115 H
     refine WP.skipW ?_
     refine W.now ?_
     refine InBlock.n ?_
     refine Then.n ?_
     refine WP.region ?_
     refine WPL.q (q_add rfl rfl) rfl ?_
     refine WPL.q (q_mv (v := .lit (.int _ _)) rfl) rfl ?_
     refine WPL.nilW ?_
     exact W.wk [] hnp (Then.n ⟨n, (IntKind.wrap .i64 (x1093 + 1)), Nat.lt_succ_self n, H, rfl, rfl⟩) ⟨rfl, trivial, by decide, rfl, trivial, rfl⟩ (LeE.upd rfl rfl (LeE.upd rfl rfl (LeE.upd rfl rfl (LeE.upd rfl rfl (LeE.none rfl rfl))))) rfl
   replace H := cnf hb1107 H
   refine WP.exitW ?_
   have q0 := Option.some.inj H
   subst q0
   exact W.wk [] hnp (Then.x (Then.x ⟨rfl, rfl, rfl⟩)) ⟨rfl, trivial, by decide, rfl, trivial, rfl⟩ (LeE.none rfl rfl) rfl
 rcases y1118 with x1105 | _
 · rintro _ _ _ ⟨rfl, rfl, rfl⟩
   have q0 := (Option.some.inj H)
   subst q0
   exact W.now (InBlock.r (Then.r (BodyR.mkR trivial rfl [] ⟨rfl, rfl⟩ ⟨rfl, trivial, by decide, rfl, trivial, rfl⟩ rfl rfl)))
 rintro _ _ _ ⟨rfl, rfl, rfl⟩
 refine W.now ?_
 refine InBlock.x0 ?_
 refine Then.n ?_
 refine WP.seq ?_
 refine WP.region ?_
 refine WPL.q (q_as (v := .lit (.int _ _)) rfl) rfl ?_
 refine WPL.nilW ?_
 refine W.now ?_
 refine Then.n ?_
 refine WP.retW ?_
 have q0 := (Option.some.inj H)
 subst q0
 exact W.now (BodyR.mkR trivial rfl [] ⟨rfl, rfl⟩ ⟨rfl, trivial, by decide, rfl, trivial, rfl⟩ rfl rfl)
set_option maxRecDepth 100000 in
set_option maxHeartbeats 4000000 in
theorem s_slices_ContainsFunc_string_string__b (k : Nat) (x1051 : (List ByteArray)) (x1121 : Bool) (H : g_slices_ContainsFunc_string_string k x1051 = some x1121) : Go.Q.Spec Try.prog 36 0 [.ro (Rd.slice Rd.str) false x1051, .fn 37 []] Mem.nil (fun o M => o = .ret (.lit (.bool x1121)) ∧ M = Mem.nil) := by
 unfold g_slices_ContainsFunc_string_string at H
 refine Go.Q.Spec.of_bodyR (az := []) (rs := [.tmp 4]) (nt := 9) Try.func36 rfl rfl (by intro t T h; simp at h) rfl rfl fun cx hnp => ?_
 refine WP.seq ?_
 refine WP.region ?_
 refine WPL.q (q_as (v := .lit (.bool _)) rfl) rfl ?_
 refine WPL.nilW ?_
 refine W.now ?_
 refine Then.n ?_
 refine WP.seq ?_
 refine WP.region ?_
 refine WPL.q (q_mv (v := .ro _ _ _) rfl) rfl ?_
 refine WPL.q (q_mv (v := .fn _ _) rfl) rfl ?_
 obtain ⟨x1123, h1121, H⟩ := bnd H
 refine WPL.c (runs_call (s := []) (t := []) (N := 0) (bor := []) fn40 rfl (s_slices_IndexFunc_string_string__b k x1051 x1123 h1121) ⟨rfl, trivial, by decide, rfl, trivial, rfl⟩ rfl trivial (.ren rfl rfl (.ren rfl rfl .nil)) rfl trivial rfl) rfl ?_
 refine WPL.q (q_geq rfl rfl) rfl ?_
 refine WPL.q (q_as (v := .lit (.bool _)) rfl) rfl ?_
 refine WPL.nilW ?_
 refine W.now ?_
 refine Then.n ?_
 refine WP.retW ?_
 have q0 := (Option.some.inj H)
 subst q0
 exact W.now (BodyR.mkR trivial rfl [] ⟨rfl, rfl⟩ ⟨rfl, trivial, by decide, rfl, trivial, rfl⟩ rfl rfl)
set_option maxRecDepth 100000 in
set_option maxHeartbeats 4000000 in
theorem s_simfs_Disk_step__b (k : Nat) (x1040 : (List ByteArray)) (x1041 : Int) (x1042 : (List (Int × Int))) (x1043 : Int) (x1044 : Bool) (x1045 : (List (ByteArray × (Option Nat)))) (x1046 : (List (ByteArray × (Option Nat)))) (x1047 : (List (Option Nat))) (x1048 : (List S_simfs_entry)) (x1141 : Int) (x1142 : Int) (x1143 : Bool) (H : g_simfs_Disk_step k x1040 x1041 x1042 x1043 x1044 x1045 x1046 x1047 x1048 = some (x1141, x1142, x1143)) : Go.Q.Spec Try.prog 33 3 [.ptr 0 0, .ro (Rd.slice Rd.str) false x1040] (((((Mem.nil.push (.cells 41 [.lit (.int .i64 x1041), .whole 3, .mp 1, .mp 2, .whole 4, .ro (Rd.map (Value.int .i64) (Rd.int .i64)) false x1042, .lit (.int .i64 x1043), .lit (.bool x1044)])).push (.dict Value.string (Rd.pp 0) x1045 none)).push (.dict Value.string (Rd.pp 0) x1046 none)).push (.row 49 (Rd.pp 0) x1047)).push (.row 51 rdS_simfs_entry x1048)) (fun o M => o = .ret (.lit (.int .i64 x1141)) ∧ M = (((((Mem.nil.push (.cells 41 [.lit (.int .i64 x1041), .whole 3, .mp 1, .mp 2, .whole 4, .ro (Rd.map (Value.int .i64) (Rd.int .i64)) false x1042, .lit (.int .i64 x1142), .lit (.bool x1143)])).push (.dict Value.string (Rd.pp 0) x1045 none)).push (.dict Value.string (Rd.pp 0) x1046 none)).push (.row 49 (Rd.pp 0) x1047)).push (.row 51 rdS_simfs_entry x1048))) := by
 unfold g_simfs_Disk_step at H
 refine Go.Q.Spec.of_bodyR (az := []) (rs := [.tmp 4]) (nt := 41) Try.func33 rfl rfl (by intro t T h; simp at h) rfl rfl fun cx hnp => ?_
 refine WP.seq ?_
 refine WP.region ?_
 refine WPL.q (q_as (v := .lit (.int _ _)) rfl) rfl ?_
 refine WPL.nilW ?_
 refine W.now ?_
 refine Then.n ?_
 refine WP.seq ?_
 refine WP.block ?_
 refine WP.seq ?_
 refine WP.region ?_
 refine WPL.q (q_mv (v := .ptr _ _) rfl) rfl ?_
 refine WPL.q (q_eqlp Try.underlying24 rfl) rfl ?_
 refine WPL.q (q_as (v := .lit (.bool _)) rfl) rfl ?_
 refine WPL.nilW ?_
 refine W.now ?_
 refine Then.n ?_
 refine WP.condF rfl ?_
 refine WP.seq ?_
 refine WP.region ?_
 refine WPL.q (q_mv (v := .ptr _ _) rfl) rfl ?_
 refine WPL.q (q_nilCheck rfl) rfl ?_
 refine WPL.q (q_fieldAddr fi41_7 rfl rfl) rfl ?_
 refine WPL.q (q_load sc4 rfl rfl rfl) rfl ?_
 refine WPL.q (q_as (v := .lit (.bool _)) rfl) rfl ?_
 refine WPL.nilW ?_
 refine W.now ?_
 refine Then.n ?_
 refine WP.cond (t := x1044) rfl (fun hb1147 => ?_) (fun hb1147 => ?_)
 · replace H := cnt hb1147 H
   refine WP.seq ?_
   refine WP.region ?_
   refine WPL.q (q_as (v := .lit (.int _ _)) rfl) rfl ?_
   refine WPL.nilW ?_
   refine W.now ?_
   refine Then.n ?_
   refine WP.retW ?_
   have q0 := (Prod.mk.inj (Option.some.inj H)).1
   have q1 := (Prod.mk.inj (Prod.mk.inj (Option.some.inj H)).2).1
   have q2 := (Prod.mk.inj (Prod.mk.inj (Option.some.inj H)).2).2
   subst q0
   subst q1
   subst q2
   exact W.now (InBlock.r (Then.r (BodyR.mkR trivial rfl [0, 1, 2, 3, 4] ⟨rfl, rfl⟩ ⟨rfl, ⟨⟨⟨⟨⟨trivial, .inr ⟨rfl, rfl, rfl⟩⟩, .inr ⟨rfl, rfl, rfl⟩⟩, .inr ⟨rfl, rfl, rfl⟩⟩, .inr ⟨rfl, rfl, rfl⟩⟩, .inr ⟨rfl, rfl, rfl⟩⟩, by decide, rfl, ⟨⟨⟨trivial, rfl⟩, rfl⟩, rfl⟩, rfl⟩ rfl rfl)))
 replace H := cnf hb1147 H
 refine WP.seq ?_
 refine WP.region ?_
 refine WPL.q (q_mv (v := .ro _ _ _) rfl) rfl ?_
 obtain ⟨x1150, h1148, H⟩ := bnd H
 refine WPL.c (runs_call (s := []) (t := []) (N := 5) (bor := []) fn36 rfl (s_slices_ContainsFunc_string_string__b k x1040 x1150 h1148) ⟨rfl, trivial, by decide, rfl, trivial, rfl⟩ rfl trivial (.ren rfl rfl (.ren rfl rfl .nil)) rfl trivial rfl) rfl ?_
 refine WPL.q (q_as (v := .lit (.bool _)) rfl) rfl ?_
 refine WPL.nilW ?_
 refine W.now ?_
 refine Then.n ?_
 refine WP.cond (t := x1150) rfl (fun hb1150 => ?_) (fun hb1150 => ?_)
 · replace H := cnt hb1150 H
   refine WP.seq ?_
   refine WP.region ?_
   refine WPL.q (q_as (v := .lit (.int _ _)) rfl) rfl ?_
   refine WPL.nilW ?_
   refine W.now ?_
   refine Then.n ?_
   refine WP.retW ?_
   have q0 := (Prod.mk.inj (Option.some.inj H)).1
   have q1 := (Prod.mk.inj (Prod.mk.inj (Option.some.inj H)).2).1
   have q2 := (Prod.mk.inj (Prod.mk.inj (Option.some.inj H)).2).2
   subst q0
   subst q1
   subst q2
   exact W.now (InBlock.r (Then.r (BodyR.mkR trivial rfl [0, 1, 2, 3, 4] ⟨rfl, rfl⟩ ⟨rfl, ⟨⟨⟨⟨⟨trivial, .inr ⟨rfl, rfl, rfl⟩⟩, .inr ⟨rfl, rfl, rfl⟩⟩, .inr ⟨rfl, rfl, rfl⟩⟩, .inr ⟨rfl, rfl, rfl⟩⟩, .inr ⟨rfl, rfl, rfl⟩⟩, by decide, rfl, ⟨⟨⟨trivial, rfl⟩, rfl⟩, rfl⟩, rfl⟩ rfl rfl)))
 replace H := cnf hb1150 H
 refine WP.skipW ?_
 refine W.now ?_
 refine InBlock.n ?_
 refine Then.n ?_
 refine WP.seq ?_
 refine WP.region ?_
 refine WPL.q (q_mv (v := .ptr _ _) rfl) rfl ?_
 refine WPL.q (q_nilCheck rfl) rfl ?_
 refine WPL.q (q_fieldAddr fi41_6 rfl rfl) rfl ?_
 refine WPL.q (q_load sc3 rfl rfl rfl) rfl ?_
 refine WPL.q (q_add rfl rfl) rfl ?_
 refine WPL.q (q_nilCheck rfl) rfl ?_
 refine WPL.q (q_fieldAddr fi41_6 rfl rfl) rfl ?_
 refine WPL.s (s_store sz3 rfl rfl rfl rfl rfl) ?_
 refine WPL.nilW ?_
 refine W.now ?_
 refine Then.n ?_
 refine WP.seq ?_
 refine WP.seq ?_
 refine WP.regionD' 9 [0] [] mixed rfl ?_
 refine WPD.takeT 0 rfl (by kernel_rfl) (q_mv (v := .ptr _ _) rfl) rfl ?_
 refine WPD.takeT 1 rfl (by kernel_rfl) (q_nilCheck rfl) rfl ?_
 refine WPD.takeT 2 rfl (by kernel_rfl) (q_fieldAddr fi41_5 rfl rfl) rfl ?_
 refine WPD.takeT 4 rfl (by kernel_rfl) (q_mv (v := .ptr _ _) rfl) rfl ?_
 refine WPD.takeT 5 rfl (by kernel_rfl) (q_nilCheck rfl) rfl ?_
 refine WPD.takeT 6 rfl (by kernel_rfl) (q_fieldAddr fi41_6 rfl rfl) rfl ?_
 refine WPD.take 3 rfl (by kernel_rfl) (q_load sc39 rfl rfl rfl) rfl rfl ?_
 refine WPD.take 7 rfl (by kernel_rfl) (q_load sc3 rfl rfl rfl) rfl rfl ?_
 obtain ⟨x1158, h1158, H⟩ := bnd H
 refine WPD.takeT 8 rfl (by kernel_rfl) (q_nm (q_lookupR_sc (k := (IntKind.wrap .i64 (x1043 + 1))) (z := (0 : Int)) dk3 Try.underlying39 iz3 rfl rfl) (nm_int h1158)) rfl ?_
 refine WPD.doneW (by kernel_rfl) ?_
 refine W.now ?_
 refine Then.n ?_
 refine WP.block ?_
 refine WP.seq ?_
 refine WP.region ?_
 refine WPL.q (q_eql rfl rfl) rfl ?_
 refine WPL.q (q_as (v := .lit (.bool _)) rfl) rfl ?_
 refine WPL.nilW ?_
 refine W.now ?_
 refine Then.n ?_
 refine WP.cond (t := (decide (x1158 = 1))) rfl (fun hb1158 => ?_) (fun hb1158 => ?_)
 · replace H := cnt hb1158 H
   refine WP.seq ?_
   refine WP.region ?_
   refine WPL.q (q_as (v := .lit (.int _ _)) rfl) rfl ?_
   refine WPL.nilW ?_
   refine W.now ?_
   refine Then.n ?_
   refine WP.retW ?_
   have q0 := (Prod.mk.inj (Option.some.inj H)).1
   have q1 := (Prod.mk.inj (Prod.mk.inj (Option.some.inj H)).2).1
   have q2 := (Prod.mk.inj (Prod.mk.inj (Option.some.inj H)).2).2
   subst q0
   subst q1
   subst q2
   exact W.now (InBlock.r (Then.r (BodyR.mkR trivial rfl [0, 1, 2, 3, 4] ⟨rfl, rfl⟩ ⟨rfl, ⟨⟨⟨⟨⟨trivial, .inr ⟨rfl, rfl, rfl⟩⟩, .inr ⟨rfl, rfl, rfl⟩⟩, .inr ⟨rfl, rfl, rfl⟩⟩, .inr ⟨rfl, rfl, rfl⟩⟩, .inr ⟨rfl, rfl, rfl⟩⟩, by decide, rfl, ⟨⟨⟨trivial, rfl⟩, rfl⟩, rfl⟩, rfl⟩ rfl rfl)))
 replace H := cnf hb1158 H
 refine WP.seq ?_
 refine WP.region ?_
 refine WPL.q (q_eql rfl rfl) rfl ?_
 refine WPL.q (q_as (v := .lit (.bool _)) rfl) rfl ?_
 refine WPL.nilW ?_
 refine W.now ?_
 refine Then.n ?_
 refine WP.cond (t := (decide (x1158 = 2))) rfl (fun hb1159 => ?_) (fun hb1159 => ?_)
 · replace H := cnt hb1159 H
   refine WP.seq ?_
   refine WP.region ?_
   refine WPL.q (q_as (v := .lit (.int _ _)) rfl) rfl ?_
   refine WPL.nilW ?_
   refine W.now ?_
   refine Then.n ?_
   refine WP.retW ?_
   have q0 := (Prod.mk.inj (Option.some.inj H)).1
   have q1 := (Prod.mk.inj (Prod.mk.inj (Option.some.inj H)).2).1
   have q2 := (Prod.mk.inj (Prod.mk.inj (Option.some.inj H)).2).2
   subst q0
   subst q1
   subst q2
   exact W.now (InBlock.r (Then.r (BodyR.mkR trivial rfl [0, 1, 2, 3, 4] ⟨rfl, rfl⟩ ⟨rfl, ⟨⟨⟨⟨⟨trivial, .inr ⟨rfl, rfl, rfl⟩⟩, .inr ⟨rfl, rfl, rfl⟩⟩, .inr ⟨rfl, rfl, rfl⟩⟩, .inr ⟨rfl, rfl, rfl⟩⟩, .inr ⟨rfl, rfl, rfl⟩⟩, by decide, rfl, ⟨⟨⟨trivial, rfl⟩, rfl⟩, rfl⟩, rfl⟩ rfl rfl)))
 replace H := cnf hb1159 H
 refine WP.seq ?_
 refine WP.region ?_
 refine WPL.q (q_eql rfl rfl) rfl ?_
 refine WPL.q (q_as (v := .lit (.bool _)) rfl) rfl ?_
 refine WPL.nilW ?_
 refine W.now ?_
 refine Then.n ?_
 refine WP.cond (t := (decide (x1158 = 3))) rfl (fun hb1160 => ?_) (fun hb1160 => ?_)
 · replace H := cnt hb1160 H
   refine WP.seq ?_
   refine WP.region ?_
   refine WPL.q (q_mv (v := .ptr _ _) rfl) rfl ?_
   refine WPL.q (q_nilCheck rfl) rfl ?_
   refine WPL.q (q_fieldAddr fi41_7 rfl rfl) rfl ?_
   refine WPL.s (s_store sz4 rfl rfl rfl rfl rfl) ?_
   refine WPL.nilW ?_
   refine W.now ?_
   refine Then.n ?_
   refine WP.seq ?_
   refine WP.region ?_
   refine WPL.q (q_as (v := .lit (.int _ _)) rfl) rfl ?_
   refine WPL.nilW ?_
   refine W.now ?_
   refine Then.n ?_
   refine WP.retW ?_
   have q0 := (Prod.mk.inj (Option.some.inj H)).1
   have q1 := (Prod.mk.inj (Prod.mk.inj (Option.some.inj H)).2).1
   have q2 := (Prod.mk.inj (Prod.mk.inj (Option.some.inj H)).2).2
   subst q0
   subst q1
   subst q2
   exact W.now (InBlock.r (Then.r (BodyR.mkR trivial rfl [0, 1, 2, 3, 4] ⟨rfl, rfl⟩ ⟨rfl, ⟨⟨⟨⟨⟨trivial, .inr ⟨rfl, rfl, rfl⟩⟩, .inr ⟨rfl, rfl, rfl⟩⟩, .inr ⟨rfl, rfl, rfl⟩⟩, .inr ⟨rfl, rfl, rfl⟩⟩, .inr ⟨rfl, rfl, rfl⟩⟩, by decide, rfl, ⟨⟨⟨trivial, rfl⟩, rfl⟩, rfl⟩, rfl⟩ rfl rfl)))
 replace H := cnf hb1160 H
 refine WP.skipW ?_
 refine W.now ?_
 refine InBlock.n ?_
 refine Then.n ?_
 refine WP.seq ?_
 refine WP.region ?_
 refine WPL.q (q_as (v := .lit (.int _ _)) rfl) rfl ?_
 refine WPL.nilW ?_
 refine W.now ?_
 refine Then.n ?_
 refine WP.retW ?_
 have q0 := (Prod.mk.inj (Option.some.inj H)).1
 have q1 := (Prod.mk.inj (Prod.mk.inj (Option.some.inj H)).2).1
 have q2 := (Prod.mk.inj (Prod.mk.inj (Option.some.inj H)).2).2
 subst q0
 subst q1
 subst q2
 exact W.now (BodyR.mkR trivial rfl [0, 1, 2, 3, 4] ⟨rfl, rfl⟩ ⟨rfl, ⟨⟨⟨⟨⟨trivial, .inr ⟨rfl, rfl, rfl⟩⟩, .inr ⟨rfl, rfl, rfl⟩⟩, .inr ⟨rfl, rfl, rfl⟩⟩, .inr ⟨rfl, rfl, rfl⟩⟩, .inr ⟨rfl, rfl, rfl⟩⟩, by decide, rfl, ⟨⟨⟨trivial, rfl⟩, rfl⟩, rfl⟩, rfl⟩ rfl rfl)
set_option maxRecDepth 100000 in
set_option maxHeartbeats 4000000 in
theorem s_maps_Clone_map_string_simfs_file_string_simfs_file (k : Nat) (x1167 : (List (ByteArray × (Option Nat)))) (H : g_maps_Clone_map_string_simfs_file_string_simfs_file k x1167 = some ()) : Go.Q.Spec Try.prog 17 1 [.mp 0] (Mem.nil.push (.dict Value.string (Rd.pp 0) x1167 none)) (fun o M => o = .ret (.mp 1) ∧ M = ((Mem.nil.push (.dict Value.string (Rd.pp 0) x1167 none)).push (.dict Value.string (Rd.pp 0) x1167 none))) := by
 unfold g_maps_Clone_map_string_simfs_file_string_simfs_file at H
 refine Go.Q.Spec.of_bodyR (az := []) (rs := [.tmp 2]) (nt := 9) Try.func17 rfl rfl (by intro t T h; simp at h) rfl rfl fun cx hnp => ?_
 refine WP.seq ?_
 refine WP.region ?_
 refine WPL.q (q_as (v := .lit _) rfl) rfl ?_
 refine WPL.nilW ?_
 refine W.now ?_
 refine Then.n ?_
 refine WP.seq ?_
 refine WP.seq ?_
 refine WP.region ?_
 refine WPL.q (q_mv (v := .mp _) rfl) rfl ?_
 refine WPL.q (q_eqlMp Try.underlying36 rfl) rfl ?_
 refine WPL.nilW ?_
 refine W.now ?_
 refine Then.n ?_
 refine WP.condF rfl ?_
 refine WP.skipW ?_
 refine W.now ?_
 refine Then.n ?_
 refine WP.seq ?_
 refine WP.region ?_
 refine WPL.q (q_mv (v := .mp _) rfl) rfl ?_
 refine WPL.q (q_mki cn36) rfl ?_
 refine WPL.d (d_mapsClone ex29 rfl rfl rfl rfl) rfl ?_
 refine WPL.q (q_assertMp Try.underlying36 rfl) rfl ?_
 refine WPL.q (q_as (v := .mp _) rfl) rfl ?_
 refine WPL.nilW ?_
 refine W.now ?_
 refine Then.n ?_
 refine WP.retW ?_
 exact W.now (BodyR.mkR trivial rfl [0, 1] ⟨rfl, rfl⟩ ⟨rfl, ⟨⟨trivial, .inr ⟨rfl, rfl, rfl⟩⟩, .inr ⟨rfl, rfl, rfl⟩⟩, by decide, rfl, ⟨trivial, rfl⟩, rfl⟩ rfl rfl)
set_option maxRecDepth 100000 in
set_option maxHeartbeats 4000000 in
theorem s_simfs_Disk_Dirsync (k : Nat) (x1031 : Int) (x1032 : (List (Int × Int))) (x1033 : Int) (x1034 : Bool) (x1035 : (List (ByteArray × (Option Nat)))) (x1036 : (List (ByteArray × (Option Nat)))) (x1037 : (List (Option Nat))) (x1038 : (List S_simfs_entry)) (r : ((Int × Int × Bool) ⊕ (Int × Int × Bool))) (H : g_simfs_Disk_Dirsync k x1031 x1032 x1033 x1034 x1035 x1036 x1037 x1038 = some r) : Go.Q.Spec Try.prog 25 3 [.ptr 0 0] (((((Mem.nil.push (.cells 41 [.lit (.int .i64 x1031), .whole 3, .mp 1, .mp 2, .whole 4, .ro (Rd.map (Value.int .i64) (Rd.int .i64)) false x1032, .lit (.int .i64 x1033), .lit (.bool x1034)])).push (.dict Value.string (Rd.pp 0) x1035 none)).push (.dict Value.string (Rd.pp 0) x1036 none)).push (.row 49 (Rd.pp 0) x1037)).push (.row 51 rdS_simfs_entry x1038)) (fun o M => match (generalizing := false) r with | (Sum.inl (x1174, x1175, x1176)) => o = .ret (.lit (.int .i64 x1174)) ∧ M = ((((((Mem.nil.push (.cells 41 [.lit (.int .i64 x1031), .whole 3, .mp 1, .mp 4, .whole 5, .ro (Rd.map (Value.int .i64) (Rd.int .i64)) false x1032, .lit (.int .i64 x1175), .lit (.bool x1176)])).push (.dict Value.string (Rd.pp 0) x1035 none)).push (.dict Value.string (Rd.pp 0) x1036 none)).push (.row 49 (Rd.pp 0) x1037)).push (.dict Value.string (Rd.pp 0) x1035 none)).push (.row 51 rdS_simfs_entry ([] : List S_simfs_entry))) | (Sum.inr (x1177, x1178, x1179)) => o = .ret (.lit (.int .i64 x1177)) ∧ M = (((((Mem.nil.push (.cells 41 [.lit (.int .i64 x1031), .whole 3, .mp 1, .mp 2, .whole 4, .ro (Rd.map (Value.int .i64) (Rd.int .i64)) false x1032, .lit (.int .i64 x1178), .lit (.bool x1179)])).push (.dict Value.string (Rd.pp 0) x1035 none)).push (.dict Value.string (Rd.pp 0) x1036 none)).push (.row 49 (Rd.pp 0) x1037)).push (.row 51 rdS_simfs_entry x1038))) := by
 unfold g_simfs_Disk_Dirsync at H
 refine Go.Q.Spec.of_bodyR (az := []) (rs := [.tmp 2]) (nt := 20) Try.func25 rfl rfl (by intro t T h; simp at h) rfl rfl fun cx hnp => ?_
 refine WP.seq ?_
 refine WP.region ?_
 refine WPL.q (q_as (v := .lit (.int _ _)) rfl) rfl ?_
 refine WPL.nilW ?_
 refine W.now ?_
 refine Then.n ?_
 refine WP.seq ?_
 refine WP.region ?_
 refine WPL.q (q_mv (v := .ptr _ _) rfl) rfl ?_
 obtain ⟨⟨x1181, x1182, x1183⟩, h1179, H⟩ := bnd H
 refine WPL.c (runs_call (s := [0, 1, 2, 3, 4]) (t := [0, 1, 2, 5, 6]) (N := 7) (bor := []) fn33 rfl (s_simfs_Disk_step__b k ([] : List ByteArray) x1031 x1032 x1033 x1034 x1035 x1036 x1037 x1038 x1181 x1182 x1183 h1179) ⟨rfl, ⟨⟨⟨⟨⟨trivial, .inr ⟨rfl, rfl, rfl⟩⟩, .inr ⟨rfl, rfl, rfl⟩⟩, .inr ⟨rfl, rfl, rfl⟩⟩, .inr ⟨rfl, rfl, rfl⟩⟩, .inr ⟨rfl, rfl, rfl⟩⟩, by decide, rfl, trivial, rfl⟩ rfl trivial (.ren rfl rfl (.nilSlice .nil)) rfl ⟨⟨⟨⟨⟨trivial, rfl⟩, rfl⟩, rfl⟩, rfl⟩, rfl⟩ rfl) rfl ?_
 refine WPL.q (q_as (v := .lit (.int _ _)) rfl) rfl ?_
 refine WPL.nilW ?_
 refine W.now ?_
 refine Then.n ?_
 refine WP.seq ?_
 obtain ⟨y1189, H1187, H⟩ := bnd H
 refine WP.monoW (Q := fun x E M => match (generalizing := false) y1189 with | (Sum.inl _) => x = .normal ∧ E = (Env.none.upd 3 (.lit (.int .i64 x1181))) ∧ M = ((((((Mem.nil.push (.cells 41 [.lit (.int .i64 x1031), .whole 3, .mp 1, .mp 4, .whole 5, .ro (Rd.map (Value.int .i64) (Rd.int .i64)) false x1032, .lit (.int .i64 x1182), .lit (.bool x1183)])).push (.dict Value.string (Rd.pp 0) x1035 none)).push (.dict Value.string (Rd.pp 0) x1036 none)).push (.row 49 (Rd.pp 0) x1037)).push (.dict Value.string (Rd.pp 0) x1035 none)).push (.row 51 rdS_simfs_entry ([] : List S_simfs_entry))) | (Sum.inr _) => x = .normal ∧ E = (Env.none.upd 3 (.lit (.int .i64 x1181))) ∧ M = (((((Mem.nil.push (.cells 41 [.lit (.int .i64 x1031), .whole 3, .mp 1, .mp 2, .whole 4, .ro (Rd.map (Value.int .i64) (Rd.int .i64)) false x1032, .lit (.int .i64 x1182), .lit (.bool x1183)])).push (.dict Value.string (Rd.pp 0) x1035 none)).push (.dict Value.string (Rd.pp 0) x1036 none)).push (.row 49 (Rd.pp 0) x1037)).push (.row 51 rdS_simfs_entry x1038))) ?_ ?_
 · clear H
   have H := H1187
   clear H1187
   refine WP.seq ?_
   refine WP.region ?_
   refine WPL.q (q_mv (v := .lit (.int _ _)) rfl) rfl ?_
   refine WPL.q (q_eql rfl rfl) rfl ?_
   refine WPL.nilW ?_
   refine W.now ?_
   refine Then.n ?_
   refine WP.cond (t := (decide (x1181 = 0))) rfl (fun hb1185 => ?_) (fun hb1185 => ?_)
   · replace H := cnt hb1185 H
     refine WP.region ?_
     refine WPL.q (q_mv (v := .ptr _ _) rfl) rfl ?_
     refine WPL.q (q_mv (v := .ptr _ _) rfl) rfl ?_
     refine WPL.q (q_mv (v := .ptr _ _) rfl) rfl ?_
     refine WPL.q (q_nilCheck rfl) rfl ?_
     refine WPL.q (q_fieldAddr fi41_2 rfl rfl) rfl ?_
     refine WPL.q (q_load sc36 rfl rfl rfl) rfl ?_
     obtain ⟨_, h1186, H⟩ := bnd H
     refine WPL.c (runs_call (s := [1]) (t := [1, 7]) (N := 8) (bor := []) fn17 rfl (s_maps_Clone_map_string_simfs_file_string_simfs_file k x1035 h1186) ⟨rfl, ⟨trivial, .inr ⟨rfl, rfl, rfl⟩⟩, by decide, rfl, trivial, rfl⟩ rfl trivial (.ren rfl rfl .nil) rfl ⟨⟨trivial, rfl⟩, rfl⟩ rfl) rfl ?_
     refine WPL.q (q_nilCheck rfl) rfl ?_
     refine WPL.q (q_fieldAddr fi41_3 rfl rfl) rfl ?_
     refine WPL.s (s_store sz36 rfl rfl rfl rfl rfl) ?_
     refine WPL.q (q_nilCheck rfl) rfl ?_
     refine WPL.q (q_fieldAddr fi41_4 rfl rfl) rfl ?_
     refine WPL.s (s_store sz38 rfl rfl rfl rfl rfl) ?_
     refine WPL.cv (Cv.virC 51 rdS_simfs_entry (N := 8) rfl (i := 0) rfl (off := 4) rfl rfl) ?_
     refine WPL.nilW ?_
     have q0 := Option.some.inj H
     subst q0
     exact W.wk [0, 1, 2, 5, 7, 8] hnp ⟨rfl, rfl, rfl⟩ ⟨rfl, ⟨⟨⟨⟨⟨⟨trivial, .inr ⟨rfl, rfl, rfl⟩⟩, .inr ⟨rfl, rfl, rfl⟩⟩, .inr ⟨rfl, rfl, rfl⟩⟩, .inr ⟨rfl, rfl, rfl⟩⟩, .inr ⟨rfl, rfl, rfl⟩⟩, .inr ⟨rfl, rfl, rfl⟩⟩, by decide, rfl, ⟨⟨⟨trivial, rfl⟩, rfl⟩, rfl⟩, rfl⟩ (LeE.upd rfl rfl (LeE.none rfl rfl)) rfl
   replace H := cnf hb1185 H
   refine WP.skipW ?_
   have q0 := Option.some.inj H
   subst q0
   exact W.wk [0, 1, 2, 5, 6] hnp ⟨rfl, rfl, rfl⟩ ⟨rfl, ⟨⟨⟨⟨⟨trivial, .inr ⟨rfl, rfl, rfl⟩⟩, .inr ⟨rfl, rfl, rfl⟩⟩, .inr ⟨rfl, rfl, rfl⟩⟩, .inr ⟨rfl, rfl, rfl⟩⟩, .inr ⟨rfl, rfl, rfl⟩⟩, by decide, rfl, ⟨⟨⟨trivial, rfl⟩, rfl⟩, rfl⟩, rfl⟩ (LeE.upd rfl rfl (LeE.none rfl rfl)) rfl
 rcases y1189 with _ | _
 · rintro _ _ _ ⟨rfl, rfl, rfl⟩
   refine W.now ?_
   refine Then.n ?_
   refine WP.seq ?_
   refine WP.region ?_
   refine WPL.q (q_mv (v := .lit (.int _ _)) rfl) rfl ?_
   refine WPL.q (q_as (v := .lit (.int _ _)) rfl) rfl ?_
   refine WPL.nilW ?_
   refine W.now ?_
   refine Then.n ?_
   refine WP.retW ?_
   have q0 := Option.some.inj H
   subst q0
   exact W.now (BodyR.mkR trivial rfl [0, 1, 2, 3, 4, 5] ⟨rfl, rfl⟩ ⟨rfl, ⟨⟨⟨⟨⟨⟨trivial, .inr ⟨rfl, rfl, rfl⟩⟩, .inr ⟨rfl, rfl, rfl⟩⟩, .inr ⟨rfl, rfl, rfl⟩⟩, .inr ⟨rfl, rfl, rfl⟩⟩, .inr ⟨rfl, rfl, rfl⟩⟩, .inr ⟨rfl, rfl, rfl⟩⟩, by decide, rfl, ⟨⟨⟨trivial, rfl⟩, rfl⟩, rfl⟩, rfl⟩ rfl rfl)
 rintro _ _ _ ⟨rfl, rfl, rfl⟩
 refine W.now ?_
 refine Then.n ?_
 refine WP.seq ?_
 refine WP.region ?_
 refine WPL.q (q_mv (v := .lit (.int _ _)) rfl) rfl ?_
 refine WPL.q (q_as (v := .lit (.int _ _)) rfl) rfl ?_
 refine WPL.nilW ?_
 refine W.now ?_
 refine Then.n ?_
 refine WP.retW ?_
 have q0 := Option.some.inj H
 subst q0
 exact W.now (BodyR.mkR trivial rfl [0, 1, 2, 3, 4] ⟨rfl, rfl⟩ ⟨rfl, ⟨⟨⟨⟨⟨trivial, .inr ⟨rfl, rfl, rfl⟩⟩, .inr ⟨rfl, rfl, rfl⟩⟩, .inr ⟨rfl, rfl, rfl⟩⟩, .inr ⟨rfl, rfl, rfl⟩⟩, .inr ⟨rfl, rfl, rfl⟩⟩, by decide, rfl, ⟨⟨⟨trivial, rfl⟩, rfl⟩, rfl⟩, rfl⟩ rfl rfl)
set_option maxRecDepth 100000 in
set_option maxHeartbeats 4000000 in
theorem s_simfs_Disk_Remove (k : Nat) (x1205 : ByteArray) (x1206 : Int) (x1207 : (List (Int × Int))) (x1208 : Int) (x1209 : Bool) (x1210 : (List (ByteArray × (Option Nat)))) (x1211 : (List (ByteArray × (Option Nat)))) (x1212 : (List (Option Nat))) (x1213 : (List S_simfs_entry)) (x1232 : Int) (x1233 : Int) (x1234 : Bool) (x1235 : (List (ByteArray × (Option Nat)))) (x1236 : (List S_simfs_entry)) (H : g_simfs_Disk_Remove k x1205 x1206 x1207 x1208 x1209 x1210 x1211 x1212 x1213 = some (x1232, x1233, x1234, x1235, x1236)) : Go.Q.Spec Try.prog 14 3 [.ptr 0 0, .lit (.string x1205)] (((((Mem.nil.push (.cells 41 [.lit (.int .i64 x1206), .whole 3, .mp 1, .mp 2, .whole 4, .ro (Rd.map (Value.int .i64) (Rd.int .i64)) false x1207, .lit (.int .i64 x1208), .lit (.bool x1209)])).push (.dict Value.string (Rd.pp 0) x1210 none)).push (.dict Value.string (Rd.pp 0) x1211 none)).push (.row 49 (Rd.pp 0) x1212)).push (.row 51 rdS_simfs_entry x1213)) (fun o M => o = .ret (.lit (.int .i64 x1232)) ∧ M = (((((Mem.nil.push (.cells 41 [.lit (.int .i64 x1206), .whole 3, .mp 1, .mp 2, .whole 4, .ro (Rd.map (Value.int .i64) (Rd.int .i64)) false x1207, .lit (.int .i64 x1233), .lit (.bool x1234)])).push (.dict Value.string (Rd.pp 0) x1235 none)).push (.dict Value.string (Rd.pp 0) x1211 none)).push (.row 49 (Rd.pp 0) x1212)).push (.row 51 rdS_simfs_entry x1236))) := by
 unfold g_simfs_Disk_Remove at H
 refine Go.Q.Spec.of_bodyR (az := []) (rs := [.tmp 4]) (nt := 21) Try.func14 rfl rfl (by intro t T h; simp at h) rfl rfl fun cx hnp => ?_
 refine WP.seq ?_
 refine WP.region ?_
 refine WPL.q (q_as (v := .lit (.int _ _)) rfl) rfl ?_
 refine WPL.nilW ?_
 refine W.now ?_
 refine Then.n ?_
 refine WP.seq ?_
 refine WP.region ?_
 refine WPL.q (q_mv (v := .ptr _ _) rfl) rfl ?_
 refine WPL.q (q_mv (v := .lit (.string _)) rfl) rfl ?_
 refine WPL.d (d_buildSlice (ds := ([x1205] : List ByteArray)) (R := Rd.str) li70 rfl rfl rfl rfl rfl (JoinRows.cons1 Joins.sc rfl JoinRows.nil) rfl rfl) rfl ?_
 obtain ⟨y1244, h1236, H⟩ := bnd H
 rcases y1244 with ⟨x1238, x1239, x1240⟩ | ⟨x1241, x1242, x1243⟩
 · refine WPL.c (runs_call (s := [0, 1, 2, 3, 4]) (t := [0, 1, 2, 6, 7]) (N := 8) (bor := [5]) fn26 rfl (s_simfs_Disk_there k ([x1205] : List ByteArray) x1206 x1207 x1208 x1209 x1210 x1211 x1212 x1213 (Sum.inl (x1238, x1239, x1240)) h1236) ⟨rfl, ⟨⟨⟨⟨⟨trivial, .inr ⟨rfl, rfl, rfl⟩⟩, .inr ⟨rfl, rfl, rfl⟩⟩, .inr ⟨rfl, rfl, rfl⟩⟩, .inr ⟨rfl, rfl, rfl⟩⟩, .inr ⟨rfl, rfl, rfl⟩⟩, by decide, rfl, trivial, rfl⟩ rfl ⟨trivial, rfl, rfl, trivial⟩ (.ren rfl rfl (.row rfl rfl .nil)) rfl ⟨⟨⟨⟨⟨trivial, rfl⟩, rfl⟩, rfl⟩, rfl⟩, rfl⟩ rfl) rfl ?_
   refine WPL.q (q_mv (v := .tup _) rfl) rfl ?_
   refine WPL.q (q_extract rfl rfl) rfl ?_
   refine WPL.q (q_extract rfl rfl) rfl ?_
   refine WPL.q (q_as (v := .lit _) rfl) rfl ?_
   refine WPL.q (q_as (v := .lit (.int _ _)) rfl) rfl ?_
   refine WPL.nilW ?_
   refine W.now ?_
   refine Then.n ?_
   refine WP.seq ?_
   obtain ⟨⟨x1247, x1248⟩, H1250, H⟩ := bnd H
   refine WP.monoW (Q := fun x E M => x = .normal ∧ E = (Env.none.upd 6 (.lit (.int .i64 x1238))) ∧ M = (((((Mem.nil.push (.cells 41 [.lit (.int .i64 x1206), .whole 3, .mp 1, .mp 2, .whole 4, .ro (Rd.map (Value.int .i64) (Rd.int .i64)) false x1207, .lit (.int .i64 x1239), .lit (.bool x1240)])).push (.dict Value.string (Rd.pp 0) x1247 none)).push (.dict Value.string (Rd.pp 0) x1211 none)).push (.row 49 (Rd.pp 0) x1212)).push (.row 51 rdS_simfs_entry x1248))) ?_ ?_
   · clear H
     have H := H1250
     clear H1250
     refine WP.seq ?_
     refine WP.region ?_
     refine WPL.q (q_mv (v := .lit (.int _ _)) rfl) rfl ?_
     refine WPL.q (q_eql rfl rfl) rfl ?_
     refine WPL.nilW ?_
     refine W.now ?_
     refine Then.n ?_
     refine WP.cond (t := (decide (x1238 = 0))) rfl (fun hb1248 => ?_) (fun hb1248 => ?_)
     · replace H := cnt hb1248 H
       refine WP.region ?_
       refine WPL.q (q_mv (v := .ptr _ _) rfl) rfl ?_
       refine WPL.q (q_mv (v := .lit (.string _)) rfl) rfl ?_
       refine WPL.q (q_build bu51 rfl) rfl ?_
       obtain ⟨_, h1249, H⟩ := bnd H
       refine WPL.c (runs_call (s := [0, 1, 2, 6, 7]) (t := [0, 1, 2, 8, 9]) (N := 10) (bor := []) fn27 rfl (s_simfs_Disk_change__b k x1205 (ByteArray.mk #[]) x1206 x1207 x1239 x1240 x1210 x1211 x1212 x1213 h1249) ⟨rfl, ⟨⟨⟨⟨⟨trivial, .inr ⟨rfl, rfl, rfl⟩⟩, .inr ⟨rfl, rfl, rfl⟩⟩, .inr ⟨rfl, rfl, rfl⟩⟩, .inr ⟨rfl, rfl, rfl⟩⟩, .inr ⟨rfl, rfl, rfl⟩⟩, by decide, rfl, trivial, rfl⟩ rfl trivial (.ren rfl rfl (.ren rfl rfl .nil)) rfl ⟨⟨⟨⟨⟨trivial, rfl⟩, rfl⟩, rfl⟩, rfl⟩, rfl⟩ rfl) rfl ?_
       refine WPL.nilW ?_
       have q0 := (Prod.mk.inj (Option.some.inj H)).1
       have q1 := (Prod.mk.inj (Option.some.inj H)).2
       subst q0
       subst q1
       exact W.wk [0, 1, 2, 8, 9] hnp ⟨rfl, rfl, rfl⟩ ⟨rfl, ⟨⟨⟨⟨⟨trivial, .inr ⟨rfl, rfl, rfl⟩⟩, .inr ⟨rfl, rfl, rfl⟩⟩, .inr ⟨rfl, rfl, rfl⟩⟩, .inr ⟨rfl, rfl, rfl⟩⟩, .inr ⟨rfl, rfl, rfl⟩⟩, by decide, rfl, ⟨⟨⟨trivial, rfl⟩, rfl⟩, rfl⟩, rfl⟩ (LeE.upd rfl rfl (LeE.none rfl rfl)) rfl
     replace H := cnf hb1248 H
     refine WP.skipW ?_
     have q0 := (Prod.mk.inj (Option.some.inj H)).1
     have q1 := (Prod.mk.inj (Option.some.inj H)).2
     subst q0
     subst q1
     exact W.wk [0, 1, 2, 6, 7] hnp ⟨rfl, rfl, rfl⟩ ⟨rfl, ⟨⟨⟨⟨⟨trivial, .inr ⟨rfl, rfl, rfl⟩⟩, .inr ⟨rfl, rfl, rfl⟩⟩, .inr ⟨rfl, rfl, rfl⟩⟩, .inr ⟨rfl, rfl, rfl⟩⟩, .inr ⟨rfl, rfl, rfl⟩⟩, by decide, rfl, ⟨⟨⟨trivial, rfl⟩, rfl⟩, rfl⟩, rfl⟩ (LeE.upd rfl rfl (LeE.none rfl rfl)) rfl
   rintro _ _ _ ⟨rfl, rfl, rfl⟩
   refine W.now ?_
   refine Then.n ?_
   refine WP.seq ?_
   refine WP.region ?_
   refine WPL.q (q_mv (v := .lit (.int _ _)) rfl) rfl ?_
   refine WPL.q (q_as (v := .lit (.int _ _)) rfl) rfl ?_
   refine WPL.nilW ?_
   refine W.now ?_
   refine Then.n ?_
   refine WP.retW ?_
   have q0 := (Prod.mk.inj (Option.some.inj H)).1
   have q1 := (Prod.mk.inj (Prod.mk.inj (Option.some.inj H)).2).1
   have q2 := (Prod.mk.inj (Prod.mk.inj (Prod.mk.inj (Option.some.inj H)).2).2).1
   have q3 := (Prod.mk.inj (Prod.mk.inj (Prod.mk.inj (Prod.mk.inj (Option.some.inj H)).2).2).2).1
   have q4 := (Prod.mk.inj (Prod.mk.inj (Prod.mk.inj (Prod.mk.inj (Option.some.inj H)).2).2).2).2
   subst q0
   subst q1
   subst q2
   subst q3
   subst q4
   exact W.now (BodyR.mkR trivial rfl [0, 1, 2, 3, 4] ⟨rfl, rfl⟩ ⟨rfl, ⟨⟨⟨⟨⟨trivial, .inr ⟨rfl, rfl, rfl⟩⟩, .inr ⟨rfl, rfl, rfl⟩⟩, .inr ⟨rfl, rfl, rfl⟩⟩, .inr ⟨rfl, rfl, rfl⟩⟩, .inr ⟨rfl, rfl, rfl⟩⟩, by decide, rfl, ⟨⟨⟨trivial, rfl⟩, rfl⟩, rfl⟩, rfl⟩ rfl rfl)
 refine WPL.c (runs_call (s := [0, 1, 2, 3, 4]) (t := [0, 1, 2, 6, 7]) (N := 8) (bor := [5]) fn26 rfl (s_simfs_Disk_there k ([x1205] : List ByteArray) x1206 x1207 x1208 x1209 x1210 x1211 x1212 x1213 (Sum.inr (x1241, x1242, x1243)) h1236) ⟨rfl, ⟨⟨⟨⟨⟨trivial, .inr ⟨rfl, rfl, rfl⟩⟩, .inr ⟨rfl, rfl, rfl⟩⟩, .inr ⟨rfl, rfl, rfl⟩⟩, .inr ⟨rfl, rfl, rfl⟩⟩, .inr ⟨rfl, rfl, rfl⟩⟩, by decide, rfl, trivial, rfl⟩ rfl ⟨trivial, rfl, rfl, trivial⟩ (.ren rfl rfl (.row rfl rfl .nil)) rfl ⟨⟨⟨⟨⟨trivial, rfl⟩, rfl⟩, rfl⟩, rfl⟩, rfl⟩ rfl) rfl ?_
 refine WPL.q (q_mv (v := .tup _) rfl) rfl ?_
 refine WPL.q (q_extract rfl rfl) rfl ?_
 refine WPL.q (q_extract rfl rfl) rfl ?_
 refine WPL.q (q_as (v := .ro _ _ _) rfl) rfl ?_
 refine WPL.q (q_as (v := .lit (.int _ _)) rfl) rfl ?_
 refine WPL.nilW ?_
 refine W.now ?_
 refine Then.n ?_
 refine WP.seq ?_
 refine WP.seq ?_
 refine WP.region ?_
 refine WPL.q (q_mv (v := .lit (.int _ _)) rfl) rfl ?_
 refine WPL.q (q_eql rfl rfl) rfl ?_
 refine WPL.nilW ?_
 refine W.now ?_
 refine Then.n ?_
 refine WP.condT rfl ?_
 refine WP.region ?_
 refine WPL.q (q_mv (v := .ptr _ _) rfl) rfl ?_
 refine WPL.q (q_mv (v := .lit (.string _)) rfl) rfl ?_
 refine WPL.q (q_build bu51 rfl) rfl ?_
 obtain ⟨_, h1252, H⟩ := bnd H
 refine WPL.c (runs_call (s := [0, 1, 2, 6, 7]) (t := [0, 1, 2, 8, 9]) (N := 10) (bor := []) fn27 rfl (s_simfs_Disk_change__b k x1205 (ByteArray.mk #[]) x1206 x1207 x1242 x1243 x1210 x1211 x1212 x1213 h1252) ⟨rfl, ⟨⟨⟨⟨⟨trivial, .inr ⟨rfl, rfl, rfl⟩⟩, .inr ⟨rfl, rfl, rfl⟩⟩, .inr ⟨rfl, rfl, rfl⟩⟩, .inr ⟨rfl, rfl, rfl⟩⟩, .inr ⟨rfl, rfl, rfl⟩⟩, by decide, rfl, trivial, rfl⟩ rfl trivial (.ren rfl rfl (.ren rfl rfl .nil)) rfl ⟨⟨⟨⟨⟨trivial, rfl⟩, rfl⟩, rfl⟩, rfl⟩, rfl⟩ rfl) rfl ?_
 refine WPL.nilW ?_
 refine W.now ?_
 refine Then.n ?_
 refine WP.seq ?_
 refine WP.region ?_
 refine WPL.q (q_mv (v := .lit (.int _ _)) rfl) rfl ?_
 refine WPL.q (q_as (v := .lit (.int _ _)) rfl) rfl ?_
 refine WPL.nilW ?_
 refine W.now ?_
 refine Then.n ?_
 refine WP.retW ?_
 have q0 := (Prod.mk.inj (Option.some.inj H)).1
 have q1 := (Prod.mk.inj (Prod.mk.inj (Option.some.inj H)).2).1
 have q2 := (Prod.mk.inj (Prod.mk.inj (Prod.mk.inj (Option.some.inj H)).2).2).1
 have q3 := (Prod.mk.inj (Prod.mk.inj (Prod.mk.inj (Prod.mk.inj (Option.some.inj H)).2).2).2).1
 have q4 := (Prod.mk.inj (Prod.mk.inj (Prod.mk.inj (Prod.mk.inj (Option.some.inj H)).2).2).2).2
 subst q0
 subst q1
 subst q2
 subst q3
 subst q4
 exact W.now (BodyR.mkR trivial rfl [0, 1, 2, 8, 9] ⟨rfl, rfl⟩ ⟨rfl, ⟨⟨⟨⟨⟨trivial, .inr ⟨rfl, rfl, rfl⟩⟩, .inr ⟨rfl, rfl, rfl⟩⟩, .inr ⟨rfl, rfl, rfl⟩⟩, .inr ⟨rfl, rfl, rfl⟩⟩, .inr ⟨rfl, rfl, rfl⟩⟩, by decide, rfl, ⟨⟨⟨trivial, rfl⟩, rfl⟩, rfl⟩, rfl⟩ rfl rfl)
set_option maxRecDepth 100000 in
set_option maxHeartbeats 4000000 in
theorem s_store_Save (k : Nat) (x50 : ByteArray) (x51 : (List Int)) (x52 : Int) (x53 : (List (Int × Int))) (x54 : Int) (x55 : Bool) (x56 : (List (ByteArray × (Option Nat)))) (x57 : (List (ByteArray × (Option Nat)))) (x58 : (List (Option Nat))) (x59 : (List S_simfs_entry)) (x60 : (List S_simfs_file)) (r : ((Int × Int × Bool × (List (ByteArray × (Option Nat))) × (List (Option Nat)) × (List S_simfs_entry) × (List S_simfs_file)) ⊕ (Int × Int × Bool × (List (ByteArray × (Option Nat))) × (List (Option Nat)) × (List (ByteArray × (Option Nat))) × (List S_simfs_file)))) (H : g_store_Save k x50 x51 x52 x53 x54 x55 x56 x57 x58 x59 x60 = some r) : Go.Q.Spec Try.prog 6 3 [.ptr 0 0, .lit (.string x50), .ro (Rd.slice (Rd.int .u8)) false x51] ((((((Mem.nil.withP 54 rdS_simfs_file x60).push (.cells 41 [.lit (.int .i64 x52), .whole 3, .mp 1, .mp 2, .whole 4, .ro (Rd.map (Value.int .i64) (Rd.int .i64)) false x53, .lit (.int .i64 x54), .lit (.bool x55)])).push (.dict Value.string (Rd.pp 0) x56 none)).push (.dict Value.string (Rd.pp 0) x57 none)).push (.row 49 (Rd.pp 0) x58)).push (.row 51 rdS_simfs_entry x59)) (fun o M => match (generalizing := false) r with | (Sum.inl (x1365, x1366, x1367, x1368, x1369, x1370, x1371)) => o = .ret (.lit (.int .i64 x1365)) ∧ M = ((((((Mem.nil.withP 54 rdS_simfs_file x1371).push (.cells 41 [.lit (.int .i64 x52), .whole 3, .mp 1, .mp 2, .whole 4, .ro (Rd.map (Value.int .i64) (Rd.int .i64)) false x53, .lit (.int .i64 x1366), .lit (.bool x1367)])).push (.dict Value.string (Rd.pp 0) x1368 none)).push (.dict Value.string (Rd.pp 0) x57 none)).push (.row 49 (Rd.pp 0) x1369)).push (.row 51 rdS_simfs_entry x1370)) | (Sum.inr (x1372, x1373, x1374, x1375, x1376, x1377, x1378)) => o = .ret (.lit (.int .i64 x1372)) ∧ M = (((((((Mem.nil.withP 54 rdS_simfs_file x1378).push (.cells 41 [.lit (.int .i64 x52), .whole 3, .mp 1, .mp 4, .whole 5, .ro (Rd.map (Value.int .i64) (Rd.int .i64)) false x53, .lit (.int .i64 x1373), .lit (.bool x1374)])).push (.dict Value.string (Rd.pp 0) x1375 none)).push (.dict Value.string (Rd.pp 0) x57 none)).push (.row 49 (Rd.pp 0) x1376)).push (.dict Value.string (Rd.pp 0) x1377 none)).push (.row 51 rdS_simfs_entry ([] : List S_simfs_entry)))) := by
 unfold g_store_Save at H
 refine Go.Q.Spec.of_bodyR (az := []) (rs := [.tmp 6]) (nt := 32) Try.func6 rfl rfl (by intro t T h; simp at h) rfl rfl fun cx hnp => ?_
 refine WP.seq ?_
 refine WP.region ?_
 refine WPL.d (d_box rfl rfl) rfl ?_
 refine WPL.d (d_box rfl rfl) rfl ?_
 refine WPL.q (q_as (v := .lit (.int _ _)) rfl) rfl ?_
 refine WPL.nilW ?_
 refine W.now ?_
 refine Then.n ?_
 refine WP.scope ?_
 refine WP.seq ?_
 refine WP.seq ?_
 refine WP.region ?_
 refine WPL.q (q_load sc9 rfl rfl rfl) rfl ?_
 obtain ⟨x1383, h1381, H⟩ := bnd H
 refine WPL.c (runs_call (s := []) (t := []) (N := 7) (bor := []) fn12 rfl (s_store_Right k x50 x1383 h1381) ⟨rfl, trivial, by decide, rfl, trivial, rfl⟩ rfl trivial (.ren rfl rfl .nil) rfl trivial rfl) rfl ?_
 refine WPL.q (q_not rfl) rfl ?_
 refine WPL.nilW ?_
 refine W.now ?_
 refine Then.n ?_
 refine WP.cond (t := (!x1383)) rfl (fun hb1383 => ?_) (fun hb1383 => ?_)
 · replace H := cnt hb1383 H
   refine WP.seq ?_
   refine WP.region ?_
   refine WPL.q (q_as (v := .lit (.int _ _)) rfl) rfl ?_
   refine WPL.nilW ?_
   refine W.now ?_
   refine Then.n ?_
   refine WP.retW ?_
   have q0 := Option.some.inj H
   subst q0
   exact W.now (Then.r (Scope.r (BodyR.mkR trivial rfl [0, 1, 2, 3, 4] ⟨rfl, rfl⟩ ⟨rfl, ⟨⟨⟨⟨⟨trivial, .inr ⟨rfl, rfl, rfl⟩⟩, .inr ⟨rfl, rfl, rfl⟩⟩, .inr ⟨rfl, rfl, rfl⟩⟩, .inr ⟨rfl, rfl, rfl⟩⟩, .inr ⟨rfl, rfl, rfl⟩⟩, by decide, rfl, ⟨⟨⟨trivial, rfl⟩, rfl⟩, rfl⟩, rfl⟩ rfl rfl)))
 replace H := cnf hb1383 H
 refine WP.skipW ?_
 refine W.now ?_
 refine Then.n ?_
 refine WP.seq ?_
 refine WP.seq ?_
 refine WP.region ?_
 refine WPL.q (q_mv (v := .ro _ _ _) rfl) rfl ?_
 refine WPL.q (q_len_ro sl22 rfl) rfl ?_
 obtain ⟨x1387, h1387, H⟩ := bnd H
 refine WPL.q (q_nm (q_gtr rfl rfl) (nm_bool h1387)) rfl ?_
 refine WPL.nilW ?_
 refine W.now ?_
 refine Then.n ?_
 refine WP.cond (t := x1387) rfl (fun hb1387 => ?_) (fun hb1387 => ?_)
 · replace H := cnt hb1387 H
   refine WP.seq ?_
   refine WP.region ?_
   refine WPL.q (q_as (v := .lit (.int _ _)) rfl) rfl ?_
   refine WPL.nilW ?_
   refine W.now ?_
   refine Then.n ?_
   refine WP.retW ?_
   have q0 := Option.some.inj H
   subst q0
   exact W.now (Then.r (Scope.r (BodyR.mkR trivial rfl [0, 1, 2, 3, 4] ⟨rfl, rfl⟩ ⟨rfl, ⟨⟨⟨⟨⟨trivial, .inr ⟨rfl, rfl, rfl⟩⟩, .inr ⟨rfl, rfl, rfl⟩⟩, .inr ⟨rfl, rfl, rfl⟩⟩, .inr ⟨rfl, rfl, rfl⟩⟩, .inr ⟨rfl, rfl, rfl⟩⟩, by decide, rfl, ⟨⟨⟨trivial, rfl⟩, rfl⟩, rfl⟩, rfl⟩ rfl rfl)))
 replace H := cnf hb1387 H
 refine WP.skipW ?_
 refine W.now ?_
 refine Then.n ?_
 refine WP.seq ?_
 refine WP.region ?_
 refine WPL.d (d_alloc ze25 rfl) rfl ?_
 refine WPL.s (s_store sz25 rfl rfl rfl rfl rfl) ?_
 refine WPL.nilW ?_
 refine W.now ?_
 refine Then.n ?_
 refine WP.seq ?_
 refine WP.labelW ?_
 refine W.now ?_
 refine Then.n ?_
 refine WP.seq ?_
 refine WP.seq ?_
 refine WP.region ?_
 refine WPL.q (q_load sc24 rfl rfl rfl) rfl ?_
 refine WPL.q (q_load sc9 rfl rfl rfl) rfl ?_
 refine WPL.q (q_mv (v := .ro _ _ _) rfl) rfl ?_
 obtain ⟨_, h1388, H⟩ := bnd H
 refine WPL.c (runs_call (s := [0, 1, 2, 3, 4]) (t := [0, 1, 2, 8, 9, 10, 11, 12, 13]) (N := 14) (bor := []) fn13 rfl (s_store_steps k x50 x51 x52 x53 x54 x55 x56 x57 x58 x59 x60 h1388) ⟨rfl, ⟨⟨⟨⟨⟨trivial, .inr ⟨rfl, rfl, rfl⟩⟩, .inr ⟨rfl, rfl, rfl⟩⟩, .inr ⟨rfl, rfl, rfl⟩⟩, .inr ⟨rfl, rfl, rfl⟩⟩, .inr ⟨rfl, rfl, rfl⟩⟩, by decide, rfl, trivial, rfl⟩ rfl trivial (.ren rfl rfl (.ren rfl rfl (.ren rfl rfl .nil))) rfl ⟨⟨⟨⟨⟨⟨⟨⟨⟨trivial, rfl⟩, rfl⟩, rfl⟩, rfl⟩, rfl⟩, rfl⟩, rfl⟩, rfl⟩, rfl⟩ rfl) rfl ?_
 refine WPL.nilW ?_
 refine W.now ?_
 refine Then.n ?_
 refine WP.block ?_
 refine WP.cv (Cv.nullMark (N := 14) rfl rfl) ?_
 refine WP.range (nti := 40) (n := 15) rfl rfl Try.func20 rfl (by kernel_rfl) rfl rfl rfl rfl fun l_1389 r_1389 aC1389 hp1389 ha1389 hb1389 ht1389 hs1389 hf1389 => ?_
 refine WP.region ?_
 refine WPL.q (q_mv (v := .lit _) rfl) rfl ?_
 refine WPL.q (q_load sc24 rfl rfl rfl) rfl ?_
 refine WPL.q (q_load sc9 rfl rfl rfl) rfl ?_
 obtain ⟨⟨x1392, x1393, x1394, x1395, x1396, x1397, x1398⟩, h1390, H⟩ := bnd H
 refine WPL.c (runs_call (s := [0, 1, 2, 8, 9]) (t := [0, 1, 2, 17, 18]) (N := 19) (bor := []) fn21 rfl (s_simfs_Disk_Create k (x50 ++ (ByteArray.mk #[46, 116, 109, 112])) x52 x53 x54 x55 x56 x57 x58 x59 x60 x1392 x1393 x1394 x1395 x1396 x1397 x1398 h1390) ⟨rfl, ⟨⟨⟨⟨⟨trivial, .inr ⟨rfl, rfl, rfl⟩⟩, .inr ⟨rfl, rfl, rfl⟩⟩, .inr ⟨rfl, rfl, rfl⟩⟩, .inr ⟨rfl, rfl, rfl⟩⟩, .inr ⟨rfl, rfl, rfl⟩⟩, by decide, rfl, trivial, rfl⟩ rfl trivial (.ren rfl rfl (.ren rfl rfl .nil)) rfl ⟨⟨⟨⟨⟨trivial, rfl⟩, rfl⟩, rfl⟩, rfl⟩, rfl⟩ rfl) rfl ?_
 refine WPL.y rfl rfl rfl rfl hp1389 ha1389 hb1389 ht1389 hs1389 hf1389 rfl rfl rfl fun aI1398 => ?_
 refine WP.seq ?_
 refine WP.region ?_
 refine WPL.q (q_as (v := .lit (.int _ _)) rfl) rfl ?_
 refine WPL.nilW ?_
 refine W.now ?_
 refine Then.n ?_
 refine WP.region ?_
 refine WPL.q (q_as (v := .lit (.bool _)) rfl) rfl ?_
 refine WPL.nilW ?_
 refine W.now ?_
 refine ⟨rfl, rfl, _, _, _, _, _, _, rfl, rfl, ?_⟩
 refine WP.block ?_
 refine WP.seq ?_
 refine WP.seq ?_
 refine WP.region ?_
 refine WPL.q (q_mv (v := .lit (.int _ _)) rfl) rfl ?_
 refine WPL.q (q_eql rfl rfl) rfl ?_
 refine WPL.nilW ?_
 refine W.now ?_
 refine Then.n ?_
 refine WP.cond (t := (decide (x1392 = 0))) rfl (fun hb1400 => ?_) (fun hb1400 => ?_)
 · replace H := cnt hb1400 H
   refine WP.exitW ?_
   refine W.now ?_
   refine Then.x ?_
   refine InBlock.x0 ?_
   refine ⟨rfl, _, _, _, _, _, _, rfl, rfl, _, rfl, ?_⟩
   refine WPL.q (q_mv (v := .lit (.bool _)) rfl) rfl ?_
   refine WPL.qg rfl rfl rfl (q_mv (v := .lit _) rfl) rfl ?_
   refine WPL.qg rfl rfl rfl (q_load sc24 rfl rfl rfl) rfl ?_
   refine WPL.qg rfl rfl rfl (q_load sc9 rfl rfl rfl) rfl ?_
   refine WPL.qg rfl rfl rfl (q_load sc22 rfl rfl rfl) rfl ?_
   obtain ⟨⟨x1403, x1404, x1405, x1406⟩, h1401, H⟩ := bnd H
   refine WPL.cg rfl rfl rfl (runs_call (s := [0, 1, 2, 17, 18]) (t := [0, 1, 2, 19, 20]) (N := 21) (bor := []) fn22 rfl (s_simfs_Disk_Write k (x50 ++ (ByteArray.mk #[46, 116, 109, 112])) x51 x52 x53 x1393 x1394 x1395 x57 x1396 x1397 x1398 x1403 x1404 x1405 x1406 h1401) ⟨rfl, ⟨⟨⟨⟨⟨trivial, .inr ⟨rfl, rfl, rfl⟩⟩, .inr ⟨rfl, rfl, rfl⟩⟩, .inr ⟨rfl, rfl, rfl⟩⟩, .inr ⟨rfl, rfl, rfl⟩⟩, .inr ⟨rfl, rfl, rfl⟩⟩, by decide, rfl, trivial, rfl⟩ rfl trivial (.ren rfl rfl (.ren rfl rfl (.ren rfl rfl .nil))) rfl ⟨⟨⟨⟨⟨trivial, rfl⟩, rfl⟩, rfl⟩, rfl⟩, rfl⟩ rfl) rfl ?_
   refine WPL.yg rfl rfl rfl rfl hp1389 ha1389 hb1389 ht1389 hs1389 hf1389 rfl rfl rfl rfl rfl rfl fun aI1406 => ?_
   refine WP.seq ?_
   refine WP.region ?_
   refine WPL.q (q_as (v := .lit (.int _ _)) rfl) rfl ?_
   refine WPL.nilW ?_
   refine W.now ?_
   refine Then.n ?_
   refine WP.region ?_
   refine WPL.q (q_as (v := .lit (.bool _)) rfl) rfl ?_
   refine WPL.nilW ?_
   refine W.now ?_
   refine ⟨rfl, rfl, _, _, _, _, _, _, rfl, rfl, ?_⟩
   refine WP.block ?_
   refine WP.seq ?_
   refine WP.seq ?_
   refine WP.region ?_
   refine WPL.q (q_mv (v := .lit (.int _ _)) rfl) rfl ?_
   refine WPL.q (q_eql rfl rfl) rfl ?_
   refine WPL.nilW ?_
   refine W.now ?_
   refine Then.n ?_
   refine WP.cond (t := (decide (x1403 = 0))) rfl (fun hb1408 => ?_) (fun hb1408 => ?_)
   · replace H := cnt hb1408 H
     refine WP.exitW ?_
     refine W.now ?_
     refine Then.x ?_
     refine InBlock.x0 ?_
     refine ⟨rfl, _, _, _, _, _, _, rfl, rfl, _, rfl, ?_⟩
     refine WPL.q (q_pickT (v := .lit (.bool _)) rfl rfl) rfl ?_
     refine WPL.q (q_mv (v := .lit (.bool _)) rfl) rfl ?_
     refine WPL.qg rfl rfl rfl (q_mv (v := .lit _) rfl) rfl ?_
     refine WPL.qg rfl rfl rfl (q_load sc24 rfl rfl rfl) rfl ?_
     refine WPL.qg rfl rfl rfl (q_load sc9 rfl rfl rfl) rfl ?_
     obtain ⟨⟨x1411, x1412, x1413, x1414⟩, h1409, H⟩ := bnd H
     refine WPL.cg rfl rfl rfl (runs_call (s := [0, 1, 2, 19, 20]) (t := [0, 1, 2, 21, 22]) (N := 23) (bor := []) fn23 rfl (s_simfs_Disk_Fsync k (x50 ++ (ByteArray.mk #[46, 116, 109, 112])) x52 x53 x1404 x1405 x1395 x57 x1396 x1397 x1406 x1411 x1412 x1413 x1414 h1409) ⟨rfl, ⟨⟨⟨⟨⟨trivial, .inr ⟨rfl, rfl, rfl⟩⟩, .inr ⟨rfl, rfl, rfl⟩⟩, .inr ⟨rfl, rfl, rfl⟩⟩, .inr ⟨rfl, rfl, rfl⟩⟩, .inr ⟨rfl, rfl, rfl⟩⟩, by decide, rfl, trivial, rfl⟩ rfl trivial (.ren rfl rfl (.ren rfl rfl .nil)) rfl ⟨⟨⟨⟨⟨trivial, rfl⟩, rfl⟩, rfl⟩, rfl⟩, rfl⟩ rfl) rfl ?_
     refine WPL.yg rfl rfl rfl rfl hp1389 ha1389 hb1389 ht1389 hs1389 hf1389 rfl rfl rfl rfl rfl rfl fun aI1414 => ?_
     refine WP.seq ?_
     refine WP.region ?_
     refine WPL.q (q_as (v := .lit (.int _ _)) rfl) rfl ?_
     refine WPL.nilW ?_
     refine W.now ?_
     refine Then.n ?_
     refine WP.region ?_
     refine WPL.q (q_as (v := .lit (.bool _)) rfl) rfl ?_
     refine WPL.nilW ?_
     refine W.now ?_
     refine ⟨rfl, rfl, _, _, _, _, _, _, rfl, rfl, ?_⟩
     refine WP.block ?_
     refine WP.seq ?_
     refine WP.seq ?_
     refine WP.region ?_
     refine WPL.q (q_mv (v := .lit (.int _ _)) rfl) rfl ?_
     refine WPL.q (q_eql rfl rfl) rfl ?_
     refine WPL.nilW ?_
     refine W.now ?_
     refine Then.n ?_
     refine WP.cond (t := (decide (x1411 = 0))) rfl (fun hb1416 => ?_) (fun hb1416 => ?_)
     · replace H := cnt hb1416 H
       refine WP.exitW ?_
       refine W.now ?_
       refine Then.x ?_
       refine InBlock.x0 ?_
       refine ⟨rfl, _, _, _, _, _, _, rfl, rfl, _, rfl, ?_⟩
       refine WPL.q (q_pickT (v := .lit (.bool _)) rfl rfl) rfl ?_
       refine WPL.q (q_mv (v := .lit (.bool _)) rfl) rfl ?_
       refine WPL.qg rfl rfl rfl (q_mv (v := .lit _) rfl) rfl ?_
       refine WPL.qg rfl rfl rfl (q_load sc24 rfl rfl rfl) rfl ?_
       refine WPL.qg rfl rfl rfl (q_load sc9 rfl rfl rfl) rfl ?_
       refine WPL.qg rfl rfl rfl (q_load sc9 rfl rfl rfl) rfl ?_
       obtain ⟨⟨x1419, x1420, x1421, x1422, x1423⟩, h1417, H⟩ := bnd H
       refine WPL.cg rfl rfl rfl (runs_call (s := [0, 1, 2, 21, 22]) (t := [0, 1, 2, 23, 24]) (N := 25) (bor := []) fn24 rfl (s_simfs_Disk_Rename k (x50 ++ (ByteArray.mk #[46, 116, 109, 112])) x50 x52 x53 x1412 x1413 x1395 x57 x1396 x1397 x1419 x1420 x1421 x1422 x1423 h1417) ⟨rfl, ⟨⟨⟨⟨⟨trivial, .inr ⟨rfl, rfl, rfl⟩⟩, .inr ⟨rfl, rfl, rfl⟩⟩, .inr ⟨rfl, rfl, rfl⟩⟩, .inr ⟨rfl, rfl, rfl⟩⟩, .inr ⟨rfl, rfl, rfl⟩⟩, by decide, rfl, trivial, rfl⟩ rfl trivial (.ren rfl rfl (.ren rfl rfl (.ren rfl rfl .nil))) rfl ⟨⟨⟨⟨⟨trivial, rfl⟩, rfl⟩, rfl⟩, rfl⟩, rfl⟩ rfl) rfl ?_
       refine WPL.yg rfl rfl rfl rfl hp1389 ha1389 hb1389 ht1389 hs1389 hf1389 rfl rfl rfl rfl rfl rfl fun aI1423 => ?_
       refine WP.seq ?_
       refine WP.region ?_
       refine WPL.q (q_as (v := .lit (.int _ _)) rfl) rfl ?_
       refine WPL.nilW ?_
       refine W.now ?_
       refine Then.n ?_
       refine WP.region ?_
       refine WPL.q (q_as (v := .lit (.bool _)) rfl) rfl ?_
       refine WPL.nilW ?_
       refine W.now ?_
       refine ⟨rfl, rfl, _, _, _, _, _, _, rfl, rfl, ?_⟩
       refine WP.block ?_
       refine WP.seq ?_
       refine WP.seq ?_
       refine WP.region ?_
       refine WPL.q (q_mv (v := .lit (.int _ _)) rfl) rfl ?_
       refine WPL.q (q_eql rfl rfl) rfl ?_
       refine WPL.nilW ?_
       refine W.now ?_
       refine Then.n ?_
       refine WP.cond (t := (decide (x1419 = 0))) rfl (fun hb1425 => ?_) (fun hb1425 => ?_)
       · replace H := cnt hb1425 H
         refine WP.exitW ?_
         refine W.now ?_
         refine Then.x ?_
         refine InBlock.x0 ?_
         refine ⟨rfl, _, _, _, _, _, _, rfl, rfl, _, rfl, ?_⟩
         refine WPL.q (q_pickT (v := .lit (.bool _)) rfl rfl) rfl ?_
         refine WPL.q (q_mv (v := .lit (.bool _)) rfl) rfl ?_
         refine WPL.qg rfl rfl rfl (q_mv (v := .lit _) rfl) rfl ?_
         refine WPL.qg rfl rfl rfl (q_load sc24 rfl rfl rfl) rfl ?_
         obtain ⟨y1434, h1426, H⟩ := bnd H
         rcases y1434 with ⟨x1428, x1429, x1430⟩ | ⟨x1431, x1432, x1433⟩
         · refine WPL.cg rfl rfl rfl (runs_call (s := [0, 1, 2, 23, 24]) (t := [0, 1, 2, 25, 26, 27]) (N := 28) (bor := []) fn25 rfl (s_simfs_Disk_Dirsync k x52 x53 x1420 x1421 x1422 x57 x1396 x1423 (Sum.inl (x1428, x1429, x1430)) h1426) ⟨rfl, ⟨⟨⟨⟨⟨trivial, .inr ⟨rfl, rfl, rfl⟩⟩, .inr ⟨rfl, rfl, rfl⟩⟩, .inr ⟨rfl, rfl, rfl⟩⟩, .inr ⟨rfl, rfl, rfl⟩⟩, .inr ⟨rfl, rfl, rfl⟩⟩, by decide, rfl, trivial, rfl⟩ rfl trivial (.ren rfl rfl .nil) rfl ⟨⟨⟨⟨⟨⟨trivial, rfl⟩, rfl⟩, rfl⟩, rfl⟩, rfl⟩, rfl⟩ rfl) rfl ?_
           refine WPL.yg rfl rfl rfl rfl hp1389 ha1389 hb1389 ht1389 hs1389 hf1389 rfl rfl rfl rfl rfl rfl fun aI1434 => ?_
           refine WP.seq ?_
           refine WP.region ?_
           refine WPL.q (q_as (v := .lit (.int _ _)) rfl) rfl ?_
           refine WPL.nilW ?_
           refine W.now ?_
           refine Then.n ?_
           refine WP.region ?_
           refine WPL.q (q_as (v := .lit (.bool _)) rfl) rfl ?_
           refine WPL.nilW ?_
           refine W.now ?_
           refine ⟨rfl, rfl, _, _, _, _, _, _, rfl, rfl, ?_⟩
           refine WP.block ?_
           refine WP.seq ?_
           refine WP.seq ?_
           refine WP.region ?_
           refine WPL.q (q_mv (v := .lit (.int _ _)) rfl) rfl ?_
           refine WPL.q (q_eql rfl rfl) rfl ?_
           refine WPL.nilW ?_
           refine W.now ?_
           refine Then.n ?_
           refine WP.cond (t := (decide (x1428 = 0))) rfl (fun hb1436 => ?_) (fun hb1436 => ?_)
           · replace H := cnt hb1436 H
             refine WP.exitW ?_
             refine W.now ?_
             refine Then.x ?_
             refine InBlock.x0 ?_
             refine ⟨rfl, _, _, _, _, _, _, rfl, rfl, _, rfl, ?_⟩
             refine WPL.q (q_pickT (v := .lit (.bool _)) rfl rfl) rfl ?_
             refine WPL.nilW ?_
             refine W.now ?_
             refine ⟨trivial, _, _, _, _, rfl, _, _, rfl, (fun h => by cases h), ?_⟩
             refine W.cv (Cv.absorb (N := 28) (j := 15) (i := 14) rfl rfl rfl rfl) rfl ?_
             refine W.now ?_
             refine InBlock.n ?_
             refine Then.n ?_
             refine WP.seq ?_
             refine WP.region ?_
             refine WPL.q (q_load sc25 rfl rfl rfl) rfl ?_
             refine WPL.q (q_as (v := .lit (.int _ _)) rfl) rfl ?_
             refine WPL.nilW ?_
             refine W.now ?_
             refine Then.n ?_
             refine WP.retW ?_
             have q0 := Option.some.inj H
             subst q0
             exact W.now (Scope.r (BodyR.mkR ⟨.inr rfl, trivial⟩ rfl [0, 1, 2, 25, 26, 27] ⟨rfl, rfl⟩ ⟨rfl, ⟨⟨⟨⟨⟨⟨trivial, .inr ⟨rfl, rfl, rfl⟩⟩, .inr ⟨rfl, rfl, rfl⟩⟩, .inr ⟨rfl, rfl, rfl⟩⟩, .inr ⟨rfl, rfl, rfl⟩⟩, .inr ⟨rfl, rfl, rfl⟩⟩, .inr ⟨rfl, rfl, rfl⟩⟩, by decide, rfl, ⟨⟨⟨trivial, rfl⟩, rfl⟩, rfl⟩, rfl⟩ rfl rfl))
           replace H := cnf hb1436 H
           refine WP.skipW ?_
           refine W.now ?_
           refine Then.n ?_
           refine WP.seq ?_
           refine WP.region ?_
           refine WPL.q (q_mv (v := .lit (.int _ _)) rfl) rfl ?_
           refine WPL.s (s_store sz25 rfl rfl rfl rfl rfl) ?_
           refine WPL.nilW ?_
           refine W.now ?_
           refine Then.n ?_
           refine WP.seq ?_
           refine WP.seq ?_
           refine WP.region ?_
           refine WPL.q (q_mv (v := .lit (.bool _)) rfl) rfl ?_
           refine WPL.q (q_not rfl) rfl ?_
           refine WPL.nilW ?_
           refine W.now ?_
           refine Then.n ?_
           refine WP.condFB (t := (!true)) rfl rfl ?_
           refine WP.skipW ?_
           refine W.now ?_
           refine Then.n ?_
           refine WP.exitW ?_
           refine W.now ?_
           refine InBlock.x rfl ?_
           refine ⟨rfl, _, _, _, _, _, _, rfl, rfl, _, rfl, ?_⟩
           refine WPL.q (q_pickT (v := .lit (.bool _)) rfl rfl) rfl ?_
           refine WPL.nilW ?_
           refine W.now ?_
           refine ⟨trivial, _, _, _, _, rfl, _, _, rfl, (fun h => by cases h), ?_⟩
           refine WP.cv (Cv.absorb (N := 28) (j := 15) (i := 14) rfl rfl rfl rfl) ?_
           refine WP.exitW ?_
           refine W.now ?_
           refine InBlock.x0 ?_
           refine Then.n ?_
           refine WP.seq ?_
           refine WP.region ?_
           refine WPL.q (q_load sc25 rfl rfl rfl) rfl ?_
           refine WPL.q (q_as (v := .lit (.int _ _)) rfl) rfl ?_
           refine WPL.nilW ?_
           refine W.now ?_
           refine Then.n ?_
           refine WP.retW ?_
           have q0 := Option.some.inj H
           subst q0
           exact W.now (Scope.r (BodyR.mkR ⟨.inr rfl, trivial⟩ rfl [0, 1, 2, 25, 26, 27] ⟨rfl, rfl⟩ ⟨rfl, ⟨⟨⟨⟨⟨⟨trivial, .inr ⟨rfl, rfl, rfl⟩⟩, .inr ⟨rfl, rfl, rfl⟩⟩, .inr ⟨rfl, rfl, rfl⟩⟩, .inr ⟨rfl, rfl, rfl⟩⟩, .inr ⟨rfl, rfl, rfl⟩⟩, .inr ⟨rfl, rfl, rfl⟩⟩, by decide, rfl, ⟨⟨⟨trivial, rfl⟩, rfl⟩, rfl⟩, rfl⟩ rfl rfl))
         refine WPL.cg rfl rfl rfl (runs_call (s := [0, 1, 2, 23, 24]) (t := [0, 1, 2, 25, 26]) (N := 27) (bor := []) fn25 rfl (s_simfs_Disk_Dirsync k x52 x53 x1420 x1421 x1422 x57 x1396 x1423 (Sum.inr (x1431, x1432, x1433)) h1426) ⟨rfl, ⟨⟨⟨⟨⟨trivial, .inr ⟨rfl, rfl, rfl⟩⟩, .inr ⟨rfl, rfl, rfl⟩⟩, .inr ⟨rfl, rfl, rfl⟩⟩, .inr ⟨rfl, rfl, rfl⟩⟩, .inr ⟨rfl, rfl, rfl⟩⟩, by decide, rfl, trivial, rfl⟩ rfl trivial (.ren rfl rfl .nil) rfl ⟨⟨⟨⟨⟨trivial, rfl⟩, rfl⟩, rfl⟩, rfl⟩, rfl⟩ rfl) rfl ?_
         refine WPL.yg rfl rfl rfl rfl hp1389 ha1389 hb1389 ht1389 hs1389 hf1389 rfl rfl rfl rfl rfl rfl fun aI1437 => ?_
         refine WP.seq ?_
         refine WP.region ?_
         refine WPL.q (q_as (v := .lit (.int _ _)) rfl) rfl ?_
         refine WPL.nilW ?_
         refine W.now ?_
         refine Then.n ?_
         refine WP.region ?_
         refine WPL.q (q_as (v := .lit (.bool _)) rfl) rfl ?_
         refine WPL.nilW ?_
         refine W.now ?_
         refine ⟨rfl, rfl, _, _, _, _, _, _, rfl, rfl, ?_⟩
         refine WP.block ?_
         refine WP.seq ?_
         refine WP.seq ?_
         refine WP.region ?_
         refine WPL.q (q_mv (v := .lit (.int _ _)) rfl) rfl ?_
         refine WPL.q (q_eql rfl rfl) rfl ?_
         refine WPL.nilW ?_
         refine W.now ?_
         refine Then.n ?_
         refine WP.cond (t := (decide (x1431 = 0))) rfl (fun hb1439 => ?_) (fun hb1439 => ?_)
         · replace H := cnt hb1439 H
           refine WP.exitW ?_
           refine W.now ?_
           refine Then.x ?_
           refine InBlock.x0 ?_
           refine ⟨rfl, _, _, _, _, _, _, rfl, rfl, _, rfl, ?_⟩
           refine WPL.q (q_pickT (v := .lit (.bool _)) rfl rfl) rfl ?_
           refine WPL.nilW ?_
           refine W.now ?_
           refine ⟨trivial, _, _, _, _, rfl, _, _, rfl, (fun h => by cases h), ?_⟩
           refine W.cv (Cv.absorb (N := 27) (j := 15) (i := 14) rfl rfl rfl rfl) rfl ?_
           refine W.now ?_
           refine InBlock.n ?_
           refine Then.n ?_
           refine WP.seq ?_
           refine WP.region ?_
           refine WPL.q (q_load sc25 rfl rfl rfl) rfl ?_
           refine WPL.q (q_as (v := .lit (.int _ _)) rfl) rfl ?_
           refine WPL.nilW ?_
           refine W.now ?_
           refine Then.n ?_
           refine WP.retW ?_
           have q0 := Option.some.inj H
           subst q0
           exact W.now (Scope.r (BodyR.mkR ⟨.inr rfl, trivial⟩ rfl [0, 1, 2, 25, 26] ⟨rfl, rfl⟩ ⟨rfl, ⟨⟨⟨⟨⟨trivial, .inr ⟨rfl, rfl, rfl⟩⟩, .inr ⟨rfl, rfl, rfl⟩⟩, .inr ⟨rfl, rfl, rfl⟩⟩, .inr ⟨rfl, rfl, rfl⟩⟩, .inr ⟨rfl, rfl, rfl⟩⟩, by decide, rfl, ⟨⟨⟨trivial, rfl⟩, rfl⟩, rfl⟩, rfl⟩ rfl rfl))
         replace H := cnf hb1439 H
         refine WP.skipW ?_
         refine W.now ?_
         refine Then.n ?_
         refine WP.seq ?_
         refine WP.region ?_
         refine WPL.q (q_mv (v := .lit (.int _ _)) rfl) rfl ?_
         refine WPL.s (s_store sz25 rfl rfl rfl rfl rfl) ?_
         refine WPL.nilW ?_
         refine W.now ?_
         refine Then.n ?_
         refine WP.seq ?_
         refine WP.seq ?_
         refine WP.region ?_
         refine WPL.q (q_mv (v := .lit (.bool _)) rfl) rfl ?_
         refine WPL.q (q_not rfl) rfl ?_
         refine WPL.nilW ?_
         refine W.now ?_
         refine Then.n ?_
         refine WP.condFB (t := (!true)) rfl rfl ?_
         refine WP.skipW ?_
         refine W.now ?_
         refine Then.n ?_
         refine WP.exitW ?_
         refine W.now ?_
         refine InBlock.x rfl ?_
         refine ⟨rfl, _, _, _, _, _, _, rfl, rfl, _, rfl, ?_⟩
         refine WPL.q (q_pickT (v := .lit (.bool _)) rfl rfl) rfl ?_
         refine WPL.nilW ?_
         refine W.now ?_
         refine ⟨trivial, _, _, _, _, rfl, _, _, rfl, (fun h => by cases h), ?_⟩
         refine WP.cv (Cv.absorb (N := 27) (j := 15) (i := 14) rfl rfl rfl rfl) ?_
         refine WP.exitW ?_
         refine W.now ?_
         refine InBlock.x0 ?_
         refine Then.n ?_
         refine WP.seq ?_
         refine WP.region ?_
         refine WPL.q (q_load sc25 rfl rfl rfl) rfl ?_
         refine WPL.q (q_as (v := .lit (.int _ _)) rfl) rfl ?_
         refine WPL.nilW ?_
         refine W.now ?_
         refine Then.n ?_
         refine WP.retW ?_
         have q0 := Option.some.inj H
         subst q0
         exact W.now (Scope.r (BodyR.mkR ⟨.inr rfl, trivial⟩ rfl [0, 1, 2, 25, 26] ⟨rfl, rfl⟩ ⟨rfl, ⟨⟨⟨⟨⟨trivial, .inr ⟨rfl, rfl, rfl⟩⟩, .inr ⟨rfl, rfl, rfl⟩⟩, .inr ⟨rfl, rfl, rfl⟩⟩, .inr ⟨rfl, rfl, rfl⟩⟩, .inr ⟨rfl, rfl, rfl⟩⟩, by decide, rfl, ⟨⟨⟨trivial, rfl⟩, rfl⟩, rfl⟩, rfl⟩ rfl rfl))
       replace H := cnf hb1425 H
       refine WP.skipW ?_
       refine W.now ?_
       refine Then.n ?_
       refine WP.seq ?_
       refine WP.region ?_
       refine WPL.q (q_mv (v := .lit (.int _ _)) rfl) rfl ?_
       refine WPL.s (s_store sz25 rfl rfl rfl rfl rfl) ?_
       refine WPL.nilW ?_
       refine W.now ?_
       refine Then.n ?_
       refine WP.seq ?_
       refine WP.seq ?_
       refine WP.region ?_
       refine WPL.q (q_mv (v := .lit (.bool _)) rfl) rfl ?_
       refine WPL.q (q_not rfl) rfl ?_
       refine WPL.nilW ?_
       refine W.now ?_
       refine Then.n ?_
       refine WP.condTB (t := (!false)) rfl rfl ?_
       refine WP.regionD' 4 [5, 6] [] mixed rfl ?_
       refine WPD.take 0 rfl (by kernel_rfl) (q_load sc24 rfl rfl rfl) rfl rfl ?_
       refine WPD.take 1 rfl (by kernel_rfl) (q_load sc9 rfl rfl rfl) rfl rfl ?_
       obtain ⟨_, h1461, H⟩ := bnd H
       refine WPD.eff 2 [5, 6] [] rfl (by kernel_rfl) (runs_call (s := []) (t := []) (N := 25) (bor := []) fn11 rfl (s_store_Temp k x50 h1461) ⟨rfl, trivial, by decide, rfl, trivial, rfl⟩ rfl trivial (.ren rfl rfl .nil) rfl trivial rfl) rfl rfl ?_
       obtain ⟨⟨x1464, x1465, x1466, x1467, x1468⟩, h1462, H⟩ := bnd H
       refine WPD.eff 3 [5, 6] [] rfl (by kernel_rfl) (runs_call (s := [0, 1, 2, 23, 24]) (t := [0, 1, 2, 25, 26]) (N := 27) (bor := []) fn14 rfl (s_simfs_Disk_Remove k (x50 ++ (ByteArray.mk #[46, 116, 109, 112])) x52 x53 x1420 x1421 x1422 x57 x1396 x1423 x1464 x1465 x1466 x1467 x1468 h1462) ⟨rfl, ⟨⟨⟨⟨⟨trivial, .inr ⟨rfl, rfl, rfl⟩⟩, .inr ⟨rfl, rfl, rfl⟩⟩, .inr ⟨rfl, rfl, rfl⟩⟩, .inr ⟨rfl, rfl, rfl⟩⟩, .inr ⟨rfl, rfl, rfl⟩⟩, by decide, rfl, trivial, rfl⟩ rfl trivial (.ren rfl rfl (.ren rfl rfl .nil)) rfl ⟨⟨⟨⟨⟨trivial, rfl⟩, rfl⟩, rfl⟩, rfl⟩, rfl⟩ rfl) rfl rfl ?_
       refine WPD.doneW (by kernel_rfl) ?_
       refine W.now ?_
       refine Then.n ?_
       refine WP.exitW ?_
       refine W.now ?_
       refine InBlock.x rfl ?_
       refine ⟨rfl, _, _, _, _, _, _, rfl, rfl, _, rfl, ?_⟩
       refine WPL.q (q_pickT (v := .lit (.bool _)) rfl rfl) rfl ?_
       refine WPL.q (q_mv (v := .lit (.bool _)) rfl) rfl ?_
       refine WPL.skipg (b' := false) rfl rfl rfl rfl rfl (.inl trivial) ?_
       refine WPL.skipg (b' := false) rfl rfl rfl rfl rfl (.inl trivial) ?_
       refine WPL.skipg (b' := false) rfl rfl rfl rfl rfl (.inl (by simp only [SkipOk]; kernel_rfl)) ?_
       refine WPL.skipg (b' := false) rfl rfl rfl rfl rfl (SkipOkE.und rfl) ?_
       refine WPL.q (q_pickF (v := .lit (.bool _)) rfl rfl) rfl ?_
       refine WPL.nilW ?_
       refine W.now ?_
       refine ⟨trivial, _, _, _, _, rfl, _, _, rfl, (fun h => by cases h), ?_⟩
       refine WP.cv (Cv.absorb (N := 27) (j := 15) (i := 14) rfl rfl rfl rfl) ?_
       refine WP.exitW ?_
       refine W.now ?_
       refine InBlock.x0 ?_
       refine Then.n ?_
       refine WP.seq ?_
       refine WP.region ?_
       refine WPL.q (q_load sc25 rfl rfl rfl) rfl ?_
       refine WPL.q (q_as (v := .lit (.int _ _)) rfl) rfl ?_
       refine WPL.nilW ?_
       refine W.now ?_
       refine Then.n ?_
       refine WP.retW ?_
       have q0 := Option.some.inj H
       subst q0
       exact W.now (Scope.r (BodyR.mkR ⟨.inr rfl, trivial⟩ rfl [0, 1, 2, 25, 26] ⟨rfl, rfl⟩ ⟨rfl, ⟨⟨⟨⟨⟨trivial, .inr ⟨rfl, rfl, rfl⟩⟩, .inr ⟨rfl, rfl, rfl⟩⟩, .inr ⟨rfl, rfl, rfl⟩⟩, .inr ⟨rfl, rfl, rfl⟩⟩, .inr ⟨rfl, rfl, rfl⟩⟩, by decide, rfl, ⟨⟨⟨trivial, rfl⟩, rfl⟩, rfl⟩, rfl⟩ rfl rfl))
     replace H := cnf hb1416 H
     refine WP.skipW ?_
     refine W.now ?_
     refine Then.n ?_
     refine WP.seq ?_
     refine WP.region ?_
     refine WPL.q (q_mv (v := .lit (.int _ _)) rfl) rfl ?_
     refine WPL.s (s_store sz25 rfl rfl rfl rfl rfl) ?_
     refine WPL.nilW ?_
     refine W.now ?_
     refine Then.n ?_
     refine WP.seq ?_
     refine WP.seq ?_
     refine WP.region ?_
     refine WPL.q (q_mv (v := .lit (.bool _)) rfl) rfl ?_
     refine WPL.q (q_not rfl) rfl ?_
     refine WPL.nilW ?_
     refine W.now ?_
     refine Then.n ?_
     refine WP.condTB (t := (!false)) rfl rfl ?_
     refine WP.regionD' 4 [5, 6] [] mixed rfl ?_
     refine WPD.take 0 rfl (by kernel_rfl) (q_load sc24 rfl rfl rfl) rfl rfl ?_
     refine WPD.take 1 rfl (by kernel_rfl) (q_load sc9 rfl rfl rfl) rfl rfl ?_
     obtain ⟨_, h1489, H⟩ := bnd H
     refine WPD.eff 2 [5, 6] [] rfl (by kernel_rfl) (runs_call (s := []) (t := []) (N := 23) (bor := []) fn11 rfl (s_store_Temp k x50 h1489) ⟨rfl, trivial, by decide, rfl, trivial, rfl⟩ rfl trivial (.ren rfl rfl .nil) rfl trivial rfl) rfl rfl ?_
     obtain ⟨⟨x1492, x1493, x1494, x1495, x1496⟩, h1490, H⟩ := bnd H
     refine WPD.eff 3 [5, 6] [] rfl (by kernel_rfl) (runs_call (s := [0, 1, 2, 21, 22]) (t := [0, 1, 2, 23, 24]) (N := 25) (bor := []) fn14 rfl (s_simfs_Disk_Remove k (x50 ++ (ByteArray.mk #[46, 116, 109, 112])) x52 x53 x1412 x1413 x1395 x57 x1396 x1397 x1492 x1493 x1494 x1495 x1496 h1490) ⟨rfl, ⟨⟨⟨⟨⟨trivial, .inr ⟨rfl, rfl, rfl⟩⟩, .inr ⟨rfl, rfl, rfl⟩⟩, .inr ⟨rfl, rfl, rfl⟩⟩, .inr ⟨rfl, rfl, rfl⟩⟩, .inr ⟨rfl, rfl, rfl⟩⟩, by decide, rfl, trivial, rfl⟩ rfl trivial (.ren rfl rfl (.ren rfl rfl .nil)) rfl ⟨⟨⟨⟨⟨trivial, rfl⟩, rfl⟩, rfl⟩, rfl⟩, rfl⟩ rfl) rfl rfl ?_
     refine WPD.doneW (by kernel_rfl) ?_
     refine W.now ?_
     refine Then.n ?_
     refine WP.exitW ?_
     refine W.now ?_
     refine InBlock.x rfl ?_
     refine ⟨rfl, _, _, _, _, _, _, rfl, rfl, _, rfl, ?_⟩
     refine WPL.q (q_pickT (v := .lit (.bool _)) rfl rfl) rfl ?_
     refine WPL.q (q_mv (v := .lit (.bool _)) rfl) rfl ?_
     refine WPL.skipg (b' := false) rfl rfl rfl rfl rfl (.inl trivial) ?_
     refine WPL.skipg (b' := false) rfl rfl rfl rfl rfl (.inl trivial) ?_
     refine WPL.skipg (b' := false) rfl rfl rfl rfl rfl (.inl trivial) ?_
     refine WPL.skipg (b' := false) rfl rfl rfl rfl rfl (.inl trivial) ?_
     refine WPL.skipg (b' := false) rfl rfl rfl rfl rfl (.inl (by simp only [SkipOk]; kernel_rfl)) ?_
     refine WPL.skipg (b' := false) rfl rfl rfl rfl rfl (SkipOkE.und rfl) ?_
     refine WPL.q (q_pickF (v := .lit (.bool _)) rfl rfl) rfl ?_
     refine WPL.q (q_mv (v := .lit (.bool _)) rfl) rfl ?_
     refine WPL.skipg (b' := false) rfl rfl rfl rfl rfl (.inl trivial) ?_
     refine WPL.skipg (b' := false) rfl rfl rfl rfl rfl (.inl trivial) ?_
     refine WPL.skipg (b' := false) rfl rfl rfl rfl rfl (.inl (by simp only [SkipOk]; kernel_rfl)) ?_
     refine WPL.skipg (b' := false) rfl rfl rfl rfl rfl (SkipOkE.und rfl) ?_
     refine WPL.q (q_pickF (v := .lit (.bool _)) rfl rfl) rfl ?_
     refine WPL.nilW ?_
     refine W.now ?_
     refine ⟨trivial, _, _, _, _, rfl, _, _, rfl, (fun h => by cases h), ?_⟩
     refine WP.cv (Cv.absorb (N := 25) (j := 15) (i := 14) rfl rfl rfl rfl) ?_
     refine WP.exitW ?_
     refine W.now ?_
     refine InBlock.x0 ?_
     refine Then.n ?_
     refine WP.seq ?_
     refine WP.region ?_
     refine WPL.q (q_load sc25 rfl rfl rfl) rfl ?_
     refine WPL.q (q_as (v := .lit (.int _ _)) rfl) rfl ?_
     refine WPL.nilW ?_
     refine W.now ?_
     refine Then.n ?_
     refine WP.retW ?_
     have q0 := Option.some.inj H
     subst q0
     exact W.now (Scope.r (BodyR.mkR ⟨.inr rfl, trivial⟩ rfl [0, 1, 2, 23, 24] ⟨rfl, rfl⟩ ⟨rfl, ⟨⟨⟨⟨⟨trivial, .inr ⟨rfl, rfl, rfl⟩⟩, .inr ⟨rfl, rfl, rfl⟩⟩, .inr ⟨rfl, rfl, rfl⟩⟩, .inr ⟨rfl, rfl, rfl⟩⟩, .inr ⟨rfl, rfl, rfl⟩⟩, by decide, rfl, ⟨⟨⟨trivial, rfl⟩, rfl⟩, rfl⟩, rfl⟩ rfl rfl))
   replace H := cnf hb1408 H
   refine WP.skipW ?_
   refine W.now ?_
   refine Then.n ?_
   refine WP.seq ?_
   refine WP.region ?_
   refine WPL.q (q_mv (v := .lit (.int _ _)) rfl) rfl ?_
   refine WPL.s (s_store sz25 rfl rfl rfl rfl rfl) ?_
   refine WPL.nilW ?_
   refine W.now ?_
   refine Then.n ?_
   refine WP.seq ?_
   refine WP.seq ?_
   refine WP.region ?_
   refine WPL.q (q_mv (v := .lit (.bool _)) rfl) rfl ?_
   refine WPL.q (q_not rfl) rfl ?_
   refine WPL.nilW ?_
   refine W.now ?_
   refine Then.n ?_
   refine WP.condTB (t := (!false)) rfl rfl ?_
   refine WP.regionD' 4 [5, 6] [] mixed rfl ?_
   refine WPD.take 0 rfl (by kernel_rfl) (q_load sc24 rfl rfl rfl) rfl rfl ?_
   refine WPD.take 1 rfl (by kernel_rfl) (q_load sc9 rfl rfl rfl) rfl rfl ?_
   obtain ⟨_, h1517, H⟩ := bnd H
   refine WPD.eff 2 [5, 6] [] rfl (by kernel_rfl) (runs_call (s := []) (t := []) (N := 21) (bor := []) fn11 rfl (s_store_Temp k x50 h1517) ⟨rfl, trivial, by decide, rfl, trivial, rfl⟩ rfl trivial (.ren rfl rfl .nil) rfl trivial rfl) rfl rfl ?_
   obtain ⟨⟨x1520, x1521, x1522, x1523, x1524⟩, h1518, H⟩ := bnd H
   refine WPD.eff 3 [5, 6] [] rfl (by kernel_rfl) (runs_call (s := [0, 1, 2, 19, 20]) (t := [0, 1, 2, 21, 22]) (N := 23) (bor := []) fn14 rfl (s_simfs_Disk_Remove k (x50 ++ (ByteArray.mk #[46, 116, 109, 112])) x52 x53 x1404 x1405 x1395 x57 x1396 x1397 x1520 x1521 x1522 x1523 x1524 h1518) ⟨rfl, ⟨⟨⟨⟨⟨trivial, .inr ⟨rfl, rfl, rfl⟩⟩, .inr ⟨rfl, rfl, rfl⟩⟩, .inr ⟨rfl, rfl, rfl⟩⟩, .inr ⟨rfl, rfl, rfl⟩⟩, .inr ⟨rfl, rfl, rfl⟩⟩, by decide, rfl, trivial, rfl⟩ rfl trivial (.ren rfl rfl (.ren rfl rfl .nil)) rfl ⟨⟨⟨⟨⟨trivial, rfl⟩, rfl⟩, rfl⟩, rfl⟩, rfl⟩ rfl) rfl rfl ?_
   refine WPD.doneW (by kernel_rfl) ?_
   refine W.now ?_
   refine Then.n ?_
   refine WP.exitW ?_
   refine W.now ?_
   refine InBlock.x rfl ?_
   refine ⟨rfl, _, _, _, _, _, _, rfl, rfl, _, rfl, ?_⟩
   refine WPL.q (q_pickT (v := .lit (.bool _)) rfl rfl) rfl ?_
   refine WPL.q (q_mv (v := .lit (.bool _)) rfl) rfl ?_
   refine WPL.skipg (b' := false) rfl rfl rfl rfl rfl (.inl trivial) ?_
   refine WPL.skipg (b' := false) rfl rfl rfl rfl rfl (.inl trivial) ?_
   refine WPL.skipg (b' := false) rfl rfl rfl rfl rfl (.inl trivial) ?_
   refine WPL.skipg (b' := false) rfl rfl rfl rfl rfl (.inl (by simp only [SkipOk]; kernel_rfl)) ?_
   refine WPL.skipg (b' := false) rfl rfl rfl rfl rfl (SkipOkE.und rfl) ?_
   refine WPL.q (q_pickF (v := .lit (.bool _)) rfl rfl) rfl ?_
   refine WPL.q (q_mv (v := .lit (.bool _)) rfl) rfl ?_
   refine WPL.skipg (b' := false) rfl rfl rfl rfl rfl (.inl trivial) ?_
   refine WPL.skipg (b' := false) rfl rfl rfl rfl rfl (.inl trivial) ?_
   refine WPL.skipg (b' := false) rfl rfl rfl rfl rfl (.inl trivial) ?_
   refine WPL.skipg (b' := false) rfl rfl rfl rfl rfl (.inl trivial) ?_
   refine WPL.skipg (b' := false) rfl rfl rfl rfl rfl (.inl (by simp only [SkipOk]; kernel_rfl)) ?_
   refine WPL.skipg (b' := false) rfl rfl rfl rfl rfl (SkipOkE.und rfl) ?_
   refine WPL.q (q_pickF (v := .lit (.bool _)) rfl rfl) rfl ?_
   refine WPL.q (q_mv (v := .lit (.bool _)) rfl) rfl ?_
   refine WPL.skipg (b' := false) rfl rfl rfl rfl rfl (.inl trivial) ?_
   refine WPL.skipg (b' := false) rfl rfl rfl rfl rfl (.inl trivial) ?_
   refine WPL.skipg (b' := false) rfl rfl rfl rfl rfl (.inl (by simp only [SkipOk]; kernel_rfl)) ?_
   refine WPL.skipg (b' := false) rfl rfl rfl rfl rfl (SkipOkE.und rfl) ?_
   refine WPL.q (q_pickF (v := .lit (.bool _)) rfl rfl) rfl ?_
   refine WPL.nilW ?_
   refine W.now ?_
   refine ⟨trivial, _, _, _, _, rfl, _, _, rfl, (fun h => by cases h), ?_⟩
   refine WP.cv (Cv.absorb (N := 23) (j := 15) (i := 14) rfl rfl rfl rfl) ?_
   refine WP.exitW ?_
   refine W.now ?_
   refine InBlock.x0 ?_
   refine Then.n ?_
   refine WP.seq ?_
   refine WP.region ?_
   refine WPL.q (q_load sc25 rfl rfl rfl) rfl ?_
   refine WPL.q (q_as (v := .lit (.int _ _)) rfl) rfl ?_
   refine WPL.nilW ?_
   refine W.now ?_
   refine Then.n ?_
   refine WP.retW ?_
   have q0 := Option.some.inj H
   subst q0
   exact W.now (Scope.r (BodyR.mkR ⟨.inr rfl, trivial⟩ rfl [0, 1, 2, 21, 22] ⟨rfl, rfl⟩ ⟨rfl, ⟨⟨⟨⟨⟨trivial, .inr ⟨rfl, rfl, rfl⟩⟩, .inr ⟨rfl, rfl, rfl⟩⟩, .inr ⟨rfl, rfl, rfl⟩⟩, .inr ⟨rfl, rfl, rfl⟩⟩, .inr ⟨rfl, rfl, rfl⟩⟩, by decide, rfl, ⟨⟨⟨trivial, rfl⟩, rfl⟩, rfl⟩, rfl⟩ rfl rfl))
 replace H := cnf hb1400 H
 refine WP.skipW ?_
 refine W.now ?_
 refine Then.n ?_
 refine WP.seq ?_
 refine WP.region ?_
 refine WPL.q (q_mv (v := .lit (.int _ _)) rfl) rfl ?_
 refine WPL.s (s_store sz25 rfl rfl rfl rfl rfl) ?_
 refine WPL.nilW ?_
 refine W.now ?_
 refine Then.n ?_
 refine WP.seq ?_
 refine WP.seq ?_
 refine WP.region ?_
 refine WPL.q (q_mv (v := .lit (.bool _)) rfl) rfl ?_
 refine WPL.q (q_not rfl) rfl ?_
 refine WPL.nilW ?_
 refine W.now ?_
 refine Then.n ?_
 refine WP.condTB (t := (!false)) rfl rfl ?_
 refine WP.regionD' 4 [5, 6] [] mixed rfl ?_
 refine WPD.take 0 rfl (by kernel_rfl) (q_load sc24 rfl rfl rfl) rfl rfl ?_
 refine WPD.take 1 rfl (by kernel_rfl) (q_load sc9 rfl rfl rfl) rfl rfl ?_
 obtain ⟨_, h1545, H⟩ := bnd H
 refine WPD.eff 2 [5, 6] [] rfl (by kernel_rfl) (runs_call (s := []) (t := []) (N := 19) (bor := []) fn11 rfl (s_store_Temp k x50 h1545) ⟨rfl, trivial, by decide, rfl, trivial, rfl⟩ rfl trivial (.ren rfl rfl .nil) rfl trivial rfl) rfl rfl ?_
 obtain ⟨⟨x1548, x1549, x1550, x1551, x1552⟩, h1546, H⟩ := bnd H
 refine WPD.eff 3 [5, 6] [] rfl (by kernel_rfl) (runs_call (s := [0, 1, 2, 17, 18]) (t := [0, 1, 2, 19, 20]) (N := 21) (bor := []) fn14 rfl (s_simfs_Disk_Remove k (x50 ++ (ByteArray.mk #[46, 116, 109, 112])) x52 x53 x1393 x1394 x1395 x57 x1396 x1397 x1548 x1549 x1550 x1551 x1552 h1546) ⟨rfl, ⟨⟨⟨⟨⟨trivial, .inr ⟨rfl, rfl, rfl⟩⟩, .inr ⟨rfl, rfl, rfl⟩⟩, .inr ⟨rfl, rfl, rfl⟩⟩, .inr ⟨rfl, rfl, rfl⟩⟩, .inr ⟨rfl, rfl, rfl⟩⟩, by decide, rfl, trivial, rfl⟩ rfl trivial (.ren rfl rfl (.ren rfl rfl .nil)) rfl ⟨⟨⟨⟨⟨trivial, rfl⟩, rfl⟩, rfl⟩, rfl⟩, rfl⟩ rfl) rfl rfl ?_
 refine WPD.doneW (by kernel_rfl) ?_
 refine W.now ?_
 refine Then.n ?_
 refine WP.exitW ?_
 refine W.now ?_
 refine InBlock.x rfl ?_
 refine ⟨rfl, _, _, _, _, _, _, rfl, rfl, _, rfl, ?_⟩
 refine WPL.q (q_mv (v := .lit (.bool _)) rfl) rfl ?_
 refine WPL.skipg (b' := false) rfl rfl rfl rfl rfl (.inl trivial) ?_
 refine WPL.skipg (b' := false) rfl rfl rfl rfl rfl (.inl trivial) ?_
 refine WPL.skipg (b' := false) rfl rfl rfl rfl rfl (.inl trivial) ?_
 refine WPL.skipg (b' := false) rfl rfl rfl rfl rfl (.inl trivial) ?_
 refine WPL.skipg (b' := false) rfl rfl rfl rfl rfl (.inl (by simp only [SkipOk]; kernel_rfl)) ?_
 refine WPL.skipg (b' := false) rfl rfl rfl rfl rfl (SkipOkE.und rfl) ?_
 refine WPL.q (q_pickF (v := .lit (.bool _)) rfl rfl) rfl ?_
 refine WPL.q (q_mv (v := .lit (.bool _)) rfl) rfl ?_
 refine WPL.skipg (b' := false) rfl rfl rfl rfl rfl (.inl trivial) ?_
 refine WPL.skipg (b' := false) rfl rfl rfl rfl rfl (.inl trivial) ?_
 refine WPL.skipg (b' := false) rfl rfl rfl rfl rfl (.inl trivial) ?_
 refine WPL.skipg (b' := false) rfl rfl rfl rfl rfl (.inl (by simp only [SkipOk]; kernel_rfl)) ?_
 refine WPL.skipg (b' := false) rfl rfl rfl rfl rfl (SkipOkE.und rfl) ?_
 refine WPL.q (q_pickF (v := .lit (.bool _)) rfl rfl) rfl ?_
 refine WPL.q (q_mv (v := .lit (.bool _)) rfl) rfl ?_
 refine WPL.skipg (b' := false) rfl rfl rfl rfl rfl (.inl trivial) ?_
 refine WPL.skipg (b' := false) rfl rfl rfl rfl rfl (.inl trivial) ?_
 refine WPL.skipg (b' := false) rfl rfl rfl rfl rfl (.inl trivial) ?_
 refine WPL.skipg (b' := false) rfl rfl rfl rfl rfl (.inl trivial) ?_
 refine WPL.skipg (b' := false) rfl rfl rfl rfl rfl (.inl (by simp only [SkipOk]; kernel_rfl)) ?_
 refine WPL.skipg (b' := false) rfl rfl rfl rfl rfl (SkipOkE.und rfl) ?_
 refine WPL.q (q_pickF (v := .lit (.bool _)) rfl rfl) rfl ?_
 refine WPL.q (q_mv (v := .lit (.bool _)) rfl) rfl ?_
 refine WPL.skipg (b' := false) rfl rfl rfl rfl rfl (.inl trivial) ?_
 refine WPL.skipg (b' := false) rfl rfl rfl rfl rfl (.inl trivial) ?_
 refine WPL.skipg (b' := false) rfl rfl rfl rfl rfl (.inl (by simp only [SkipOk]; kernel_rfl)) ?_
 refine WPL.skipg (b' := false) rfl rfl rfl rfl rfl (SkipOkE.und rfl) ?_
 refine WPL.q (q_pickF (v := .lit (.bool _)) rfl rfl) rfl ?_
 refine WPL.nilW ?_
 refine W.now ?_
 refine ⟨trivial, _, _, _, _, rfl, _, _, rfl, (fun h => by cases h), ?_⟩
 refine WP.cv (Cv.absorb (N := 21) (j := 15) (i := 14) rfl rfl rfl rfl) ?_
 refine WP.exitW ?_
 refine W.now ?_
 refine InBlock.x0 ?_
 refine Then.n ?_
 refine WP.seq ?_
 refine WP.region ?_
 refine WPL.q (q_load sc25 rfl rfl rfl) rfl ?_
 refine WPL.q (q_as (v := .lit (.int _ _)) rfl) rfl ?_
 refine WPL.nilW ?_
 refine W.now ?_
 refine Then.n ?_
 refine WP.retW ?_
 have q0 := Option.some.inj H
 subst q0
 exact W.now (Scope.r (BodyR.mkR ⟨.inr rfl, trivial⟩ rfl [0, 1, 2, 19, 20] ⟨rfl, rfl⟩ ⟨rfl, ⟨⟨⟨⟨⟨trivial, .inr ⟨rfl, rfl, rfl⟩⟩, .inr ⟨rfl, rfl, rfl⟩⟩, .inr ⟨rfl, rfl, rfl⟩⟩, .inr ⟨rfl, rfl, rfl⟩⟩, .inr ⟨rfl, rfl, rfl⟩⟩, by decide, rfl, ⟨⟨⟨trivial, rfl⟩, rfl⟩, rfl⟩, rfl⟩ rfl rfl))
end Go.Proofs.Ytcaeafojgehamaa.W
namespace Go.Proofs.Ytcaeafojgehamaa.W
open Go Go.Q Go.Proofs
set_option linter.unusedVariables false
set_option linter.unusedSimpArgs false
set_option maxRecDepth 100000 in
set_option maxHeartbeats 4000000 in
theorem s_simfs_Disk_Steps (k : Nat) (x1569 : Int) (x1570 : (List (Int × Int))) (x1571 : Int) (x1572 : Bool) (x1573 : (List (ByteArray × (Option Nat)))) (x1574 : (List (ByteArray × (Option Nat)))) (x1575 : (List (Option Nat))) (x1576 : (List S_simfs_entry)) (H : g_simfs_Disk_Steps k x1569 x1570 x1571 x1572 x1573 x1574 x1575 x1576 = some ()) : Go.Q.Spec Try.prog 9 3 [.ptr 0 0] (((((Mem.nil.push (.cells 41 [.lit (.int .i64 x1569), .whole 3, .mp 1, .mp 2, .whole 4, .ro (Rd.map (Value.int .i64) (Rd.int .i64)) false x1570, .lit (.int .i64 x1571), .lit (.bool x1572)])).push (.dict Value.string (Rd.pp 0) x1573 none)).push (.dict Value.string (Rd.pp 0) x1574 none)).push (.row 49 (Rd.pp 0) x1575)).push (.row 51 rdS_simfs_entry x1576)) (fun o M => o = .ret (.lit (.int .i64 x1571)) ∧ M = (((((Mem.nil.push (.cells 41 [.lit (.int .i64 x1569), .whole 3, .mp 1, .mp 2, .whole 4, .ro (Rd.map (Value.int .i64) (Rd.int .i64)) false x1570, .lit (.int .i64 x1571), .lit (.bool x1572)])).push (.dict Value.string (Rd.pp 0) x1573 none)).push (.dict Value.string (Rd.pp 0) x1574 none)).push (.row 49 (Rd.pp 0) x1575)).push (.row 51 rdS_simfs_entry x1576))) := by
 unfold g_simfs_Disk_Steps at H
 refine Go.Q.Spec.of_bodyR (az := []) (rs := [.tmp 2]) (nt := 9) Try.func9 rfl rfl (by intro t T h; simp at h) rfl rfl fun cx hnp => ?_
 refine WP.seq ?_
 refine WP.region ?_
 refine WPL.q (q_as (v := .lit (.int _ _)) rfl) rfl ?_
 refine WPL.nilW ?_
 refine W.now ?_
 refine Then.n ?_
 refine WP.seq ?_
 refine WP.seq ?_
 refine WP.region ?_
 refine WPL.q (q_mv (v := .ptr _ _) rfl) rfl ?_
 refine WPL.q (q_eqlp Try.underlying24 rfl) rfl ?_
 refine WPL.nilW ?_
 refine W.now ?_
 refine Then.n ?_
 refine WP.condF rfl ?_
 refine WP.skipW ?_
 refine W.now ?_
 refine Then.n ?_
 refine WP.seq ?_
 refine WP.region ?_
 refine WPL.q (q_mv (v := .ptr _ _) rfl) rfl ?_
 refine WPL.q (q_nilCheck rfl) rfl ?_
 refine WPL.q (q_fieldAddr fi41_6 rfl rfl) rfl ?_
 refine WPL.q (q_load sc3 rfl rfl rfl) rfl ?_
 refine WPL.q (q_as (v := .lit (.int _ _)) rfl) rfl ?_
 refine WPL.nilW ?_
 refine W.now ?_
 refine Then.n ?_
 refine WP.retW ?_
 exact W.now (BodyR.mkR trivial rfl [0, 1, 2, 3, 4] ⟨rfl, rfl⟩ ⟨rfl, ⟨⟨⟨⟨⟨trivial, .inr ⟨rfl, rfl, rfl⟩⟩, .inr ⟨rfl, rfl, rfl⟩⟩, .inr ⟨rfl, rfl, rfl⟩⟩, .inr ⟨rfl, rfl, rfl⟩⟩, .inr ⟨rfl, rfl, rfl⟩⟩, by decide, rfl, ⟨⟨⟨trivial, rfl⟩, rfl⟩, rfl⟩, rfl⟩ rfl rfl)
set_option maxRecDepth 100000 in
set_option maxHeartbeats 4000000 in
theorem s_simfs_Disk_Boot (k : Nat) (x1579 : Int) (x1580 : (List Int)) (x1581 : Int) (x1582 : (List (Int × Int))) (x1583 : Int) (x1584 : Bool) (x1585 : (List (ByteArray × (Option Nat)))) (x1586 : (List (ByteArray × (Option Nat)))) (x1587 : (List (Option Nat))) (x1588 : (List S_simfs_entry)) (x1589 : (List S_simfs_file)) (x2993 : (List (ByteArray × (Option Nat)))) (x2994 : (List (ByteArray × (Option Nat)))) (x2995 : (List S_simfs_file)) (H : g_simfs_Disk_Boot k x1579 x1580 x1581 x1582 x1583 x1584 x1585 x1586 x1587 x1588 x1589 = some (x2993, x2994, x2995)) : Go.Q.Spec Try.prog 10 3 [.ptr 0 0, .lit (.int .i64 x1579), .ro (Rd.slice (Rd.int .i64)) false x1580] ((((((Mem.nil.withP 54 rdS_simfs_file x1589).push (.cells 41 [.lit (.int .i64 x1581), .whole 3, .mp 1, .mp 2, .whole 4, .ro (Rd.map (Value.int .i64) (Rd.int .i64)) false x1582, .lit (.int .i64 x1583), .lit (.bool x1584)])).push (.dict Value.string (Rd.pp 0) x1585 none)).push (.dict Value.string (Rd.pp 0) x1586 none)).push (.row 49 (Rd.pp 0) x1587)).push (.row 51 rdS_simfs_entry x1588)) (fun o M => o = .ret (.tup []) ∧ M = (((((((Mem.nil.withP 54 rdS_simfs_file x2995).push (.cells 41 [.lit (.int .i64 x1581), .whole 3, .mp 4, .mp 2, .whole 5, .ro (Rd.map (Value.int .i64) (Rd.int .i64)) false ([] : List (Int × Int)), .lit (.int .i64 x1583), .lit (.bool false)])).push (.dict Value.string (Rd.pp 0) x1585 none)).push (.dict Value.string (Rd.pp 0) x2993 none)).push (.row 49 (Rd.pp 0) x1587)).push (.dict Value.string (Rd.pp 0) x2994 none)).push (.row 51 rdS_simfs_entry ([] : List S_simfs_entry)))) := by
 unfold g_simfs_Disk_Boot at H
 refine Go.Q.Spec.of_bodyR (az := []) (rs := []) (nt := 106) Try.func10 rfl rfl (by intro t T h; simp at h) rfl rfl fun cx hnp => ?_
 refine WP.seq ?_
 refine WP.seq ?_
 refine WP.region ?_
 refine WPL.q (q_mv (v := .ptr _ _) rfl) rfl ?_
 refine WPL.q (q_eqlp Try.underlying24 rfl) rfl ?_
 refine WPL.nilW ?_
 refine W.now ?_
 refine Then.n ?_
 refine WP.condF rfl ?_
 refine WP.skipW ?_
 refine W.now ?_
 refine Then.n ?_
 refine WP.seq ?_
 refine WP.seq ?_
 refine WP.regionD' 15 [0] [] mixed rfl ?_
 refine WPD.takeT 0 rfl (by kernel_rfl) (q_mv (v := .ptr _ _) rfl) rfl ?_
 refine WPD.takeT 1 rfl (by kernel_rfl) (q_nilCheck rfl) rfl ?_
 refine WPD.takeT 2 rfl (by kernel_rfl) (q_fieldAddr fi41_4 rfl rfl) rfl ?_
 refine WPD.takeT 4 rfl (by kernel_rfl) (q_mv (v := .lit (.int _ _)) rfl) rfl ?_
 obtain ⟨x3001, h3001, H⟩ := bnd H
 refine WPD.takeT 5 rfl (by kernel_rfl) (q_nm (q_max rfl rfl) (nm_int h3001)) rfl ?_
 refine WPD.takeT 6 rfl (by kernel_rfl) (q_mv (v := .ptr _ _) rfl) rfl ?_
 refine WPD.takeT 7 rfl (by kernel_rfl) (q_nilCheck rfl) rfl ?_
 refine WPD.takeT 8 rfl (by kernel_rfl) (q_fieldAddr fi41_4 rfl rfl) rfl ?_
 refine WPD.takeT 14 rfl (by kernel_rfl) (q_mv (v := .lit (.int _ _)) rfl) rfl ?_
 refine WPD.take 3 rfl (by kernel_rfl) (q_load sc38 rfl rfl rfl) rfl rfl ?_
 refine WPD.take 9 rfl (by kernel_rfl) (q_load sc38 rfl rfl rfl) rfl rfl ?_
 refine WPD.takeT 10 rfl (by kernel_rfl) (q_len_row sl38 rfl rfl) rfl ?_
 obtain ⟨x3002, h3002, H⟩ := bnd H
 refine WPD.takeT 11 rfl (by kernel_rfl) (q_nm (q_min rfl rfl) (nm_int h3002)) rfl ?_
 obtain ⟨h3002, H⟩ := grd H
 refine WPD.cvL (CvL.frzRow (i := 4) rfl rfl hnp rfl rfl) rfl ?_
 refine WPD.takeT 12 rfl (by kernel_rfl) (q_slice_ro (i := 0) (j := x3002) sl38 rfl rfl rfl ⟨_, rfl⟩ h3002) rfl ?_
 obtain ⟨x3004, h3004, H⟩ := bnd H
 refine WPD.takeT 13 rfl (by kernel_rfl) (q_nm (q_len_ro sl38 rfl) (nm_int h3004)) rfl ?_
 refine WPD.doneW (by kernel_rfl) ?_
 refine W.now ?_
 refine Then.n ?_
 refine WP.block ?_
 refine WP.cv (Cv.weak (E' := (((((Env.none.upd 0 (.ptr 0 0)).upd 2 (.ro (Rd.slice (Rd.int .i64)) false x1580)).upd 24 (.ro (Rd.slice rdS_simfs_entry) false (List.drop (Int.toNat 0) (List.take (Int.toNat x3002) x1588)))).upd 25 (.lit (.int .i64 x3004))).upd 26 (.lit (.int .i64 0)))) (M' := (((((Mem.nil.withP 54 rdS_simfs_file x1589).push (.cells 41 [.lit (.int .i64 x1581), .whole 3, .mp 1, .mp 2, .ro (Rd.slice rdS_simfs_entry) false x1588, .ro (Rd.map (Value.int .i64) (Rd.int .i64)) false x1582, .lit (.int .i64 x1583), .lit (.bool x1584)])).push (.dict Value.string (Rd.pp 0) x1585 none)).push (.dict Value.string (Rd.pp 0) x1586 none)).push (.row 49 (Rd.pp 0) x1587))) [0, 1, 2, 3] hnp ⟨rfl, ⟨⟨⟨⟨trivial, .inr ⟨rfl, rfl, rfl⟩⟩, .inr ⟨rfl, rfl, rfl⟩⟩, .inr ⟨rfl, rfl, rfl⟩⟩, .inr ⟨rfl, rfl, rfl⟩⟩, by decide, rfl, ⟨⟨⟨trivial, rfl⟩, rfl⟩, rfl⟩, rfl⟩ (LeE.upd rfl rfl (LeE.upd rfl rfl (LeE.upd rfl rfl (LeE.upd rfl rfl (LeE.upd rfl rfl (LeE.none rfl rfl))))))) ?_
 obtain ⟨x3021, H3028, H⟩ := bnd H
 refine WP.monoW (Q := fun x E M => x = .exit 0 ∧ E = ((Env.none.upd 0 (.ptr 0 0)).upd 2 (.ro (Rd.slice (Rd.int .i64)) false x1580)) ∧ M = (((((Mem.nil.withP 54 rdS_simfs_file x1589).push (.cells 41 [.lit (.int .i64 x1581), .whole 3, .mp 1, .mp 2, .ro (Rd.slice rdS_simfs_entry) false x1588, .ro (Rd.map (Value.int .i64) (Rd.int .i64)) false x1582, .lit (.int .i64 x1583), .lit (.bool x1584)])).push (.dict Value.string (Rd.pp 0) x1585 none)).push (.dict Value.string (Rd.pp 0) x3021 none)).push (.row 49 (Rd.pp 0) x1587))) ?_ ?_
 · refine WP.loop (β := Int × (List (ByteArray × (Option Nat)))) (fun n b => g_simfs_Disk_Boot_l0 k x1588 x3002 x3004 n b.1 b.2 = some x3021) (fun b => (((((Env.none.upd 0 (.ptr 0 0)).upd 2 (.ro (Rd.slice (Rd.int .i64)) false x1580)).upd 24 (.ro (Rd.slice rdS_simfs_entry) false (List.drop (Int.toNat 0) (List.take (Int.toNat x3002) x1588)))).upd 25 (.lit (.int .i64 x3004))).upd 26 (.lit (.int .i64 b.1)))) (fun b => (((((Mem.nil.withP 54 rdS_simfs_file x1589).push (.cells 41 [.lit (.int .i64 x1581), .whole 3, .mp 1, .mp 2, .ro (Rd.slice rdS_simfs_entry) false x1588, .ro (Rd.map (Value.int .i64) (Rd.int .i64)) false x1582, .lit (.int .i64 x1583), .lit (.bool x1584)])).push (.dict Value.string (Rd.pp 0) x1585 none)).push (.dict Value.string (Rd.pp 0) b.2 none)).push (.row 49 (Rd.pp 0) x1587))) k (0, x1586) H3028 rfl rfl ?_
   rintro n ⟨x3012, x3013⟩ H
   obtain _ | n := n
   · exact nf rfl H
   rw [g_simfs_Disk_Boot_l0.eq_2] at H
   show WP _ _ _ _ (((((Env.none.upd 0 (.ptr 0 0)).upd 2 (.ro (Rd.slice (Rd.int .i64)) false x1580)).upd 24 (.ro (Rd.slice rdS_simfs_entry) false (List.drop (Int.toNat 0) (List.take (Int.toNat x3002) x1588)))).upd 25 (.lit (.int .i64 x3004))).upd 26 (.lit (.int .i64 x3012))) (((((Mem.nil.withP 54 rdS_simfs_file x1589).push (.cells 41 [.lit (.int .i64 x1581), .whole 3, .mp 1, .mp 2, .ro (Rd.slice rdS_simfs_entry) false x1588, .ro (Rd.map (Value.int .i64) (Rd.int .i64)) false x1582, .lit (.int .i64 x1583), .lit (.bool x1584)])).push (.dict Value.string (Rd.pp 0) x1585 none)).push (.dict Value.string (Rd.pp 0) x3013 none)).push (.row 49 (Rd.pp 0) x1587)) _
   refine WP.seq ?_
   refine WP.region ?_
   refine WPL.q (q_lss rfl rfl) rfl ?_
   refine WPL.nilW ?_
   refine W.now ?_
   refine Then.n ?_
   refine WP.seq ?_
   refine WP.cond (t := (decide (x3012 < x3004))) rfl (fun hb3022 => ?_) (fun hb3022 => ?_)
   · replace H := cnt hb3022 H
     refine WP.skipW ?_
     refine W.now ?_
     refine Then.n ?_
     refine WP.seq ?_
     refine WP.block ?_
     refine WP.seq ?_
     refine WP.region ?_
     obtain ⟨x3024, h3024, H⟩ := bnd H
     refine WPL.q (q_index_ro sl38 rfl rfl rfl h3024) rfl ?_
     refine WPL.q (q_load_roag ag51 rfl rfl S_simfs_entry.sp) rfl ?_
     refine WPL.d (d_alloc ze51 rfl) rfl ?_
     refine WPL.s (s_store sz51 rfl rfl rfl rfl rfl) ?_
     refine WPL.nilW ?_
     refine W.now ?_
     refine Then.n ?_
     refine WP.regionD' 6 [0, 4] [] mixed rfl ?_
     refine WPD.takeT 1 rfl (by kernel_rfl) (q_mv (v := .ptr _ _) rfl) rfl ?_
     refine WPD.takeT 2 rfl (by kernel_rfl) (q_nilCheck rfl) rfl ?_
     refine WPD.takeT 3 rfl (by kernel_rfl) (q_fieldAddr fi41_3 rfl rfl) rfl ?_
     refine WPD.take 0 rfl (by kernel_rfl) (q_load_ag ag51 rfl rfl (Nat.le_of_ble_eq_true rfl)) rfl rfl ?_
     refine WPD.take 4 rfl (by kernel_rfl) (q_load sc36 rfl rfl rfl) rfl rfl ?_
     obtain ⟨x3028, h3026, H⟩ := bnd H
     refine WPD.eff 5 [0, 4] [] rfl (by kernel_rfl) (runs_call (s := [2]) (t := [2]) (N := 5) (bor := []) fn16 rfl (s_simfs_entry_to k x3024.fgone x3024.fname x3024.ff x3013 x3028 h3026) ⟨rfl, ⟨trivial, .inr ⟨rfl, rfl, rfl⟩⟩, by decide, rfl, trivial, rfl⟩ rfl trivial (.ren rfl rfl (.ren rfl rfl .nil)) rfl ⟨trivial, rfl⟩ rfl) rfl rfl ?_
     refine WPD.doneW (by kernel_rfl) ?_
     refine W.now ?_
     refine InBlock.n ?_
     refine Then.n ?_
     refine WP.region ?_
     refine WPL.q (q_add rfl rfl) rfl ?_
     refine WPL.q (q_mv (v := .lit (.int _ _)) rfl) rfl ?_
     refine WPL.nilW ?_
     exact W.wk [0, 1, 2, 3] hnp (Then.n ⟨n, ((IntKind.wrap .i64 (x3012 + 1)), x3028), Nat.lt_succ_self n, H, rfl, rfl⟩) ⟨rfl, ⟨⟨⟨⟨trivial, .inr ⟨rfl, rfl, rfl⟩⟩, .inr ⟨rfl, rfl, rfl⟩⟩, .inr ⟨rfl, rfl, rfl⟩⟩, .inr ⟨rfl, rfl, rfl⟩⟩, by decide, rfl, ⟨⟨⟨trivial, rfl⟩, rfl⟩, rfl⟩, rfl⟩ (LeE.upd rfl rfl (LeE.upd rfl rfl (LeE.upd rfl rfl (LeE.upd rfl rfl (LeE.upd rfl rfl (LeE.none rfl rfl)))))) rfl
   replace H := cnf hb3022 H
   refine WP.exitW ?_
   have q0 := (Option.some.inj H)
   subst q0
   exact W.wk [0, 1, 2, 3] hnp (Then.x (Then.x ⟨rfl, rfl, rfl⟩)) ⟨rfl, ⟨⟨⟨⟨trivial, .inr ⟨rfl, rfl, rfl⟩⟩, .inr ⟨rfl, rfl, rfl⟩⟩, .inr ⟨rfl, rfl, rfl⟩⟩, .inr ⟨rfl, rfl, rfl⟩⟩, by decide, rfl, ⟨⟨⟨trivial, rfl⟩, rfl⟩, rfl⟩, rfl⟩ (LeE.upd rfl rfl (LeE.upd rfl rfl (LeE.none rfl rfl))) rfl
 rintro _ _ _ ⟨rfl, rfl, rfl⟩
 refine W.now ?_
 refine InBlock.x0 ?_
 refine Then.n ?_
 refine WP.seq ?_
 refine WP.seq ?_
 refine WP.region ?_
 refine WPL.q (q_mv (v := .ptr _ _) rfl) rfl ?_
 refine WPL.q (q_nilCheck rfl) rfl ?_
 refine WPL.q (q_fieldAddr fi41_1 rfl rfl) rfl ?_
 refine WPL.q (q_load sc37 rfl rfl rfl) rfl ?_
 refine WPL.q (q_len_row sl37 rfl rfl) rfl ?_
 refine WPL.q (q_mv (v := .lit (.int _ _)) rfl) rfl ?_
 refine WPL.nilW ?_
 refine W.now ?_
 refine Then.n ?_
 refine WP.block ?_
 refine WP.cv (Cv.weak (E' := (((((Env.none.upd 0 (.ptr 0 0)).upd 2 (.ro (Rd.slice (Rd.int .i64)) false x1580)).upd 40 (.whole 3)).upd 41 (.lit (.int .i64 ((List.length x1587 : Nat) : Int)))).upd 42 (.lit (.int .i64 0)))) (M' := (((((Mem.nil.withP 54 rdS_simfs_file x1589).push (.cells 41 [.lit (.int .i64 x1581), .whole 3, .mp 1, .mp 2, .ro (Rd.slice rdS_simfs_entry) false x1588, .ro (Rd.map (Value.int .i64) (Rd.int .i64)) false x1582, .lit (.int .i64 x1583), .lit (.bool x1584)])).push (.dict Value.string (Rd.pp 0) x1585 none)).push (.dict Value.string (Rd.pp 0) x3021 none)).push (.row 49 (Rd.pp 0) x1587))) [0, 1, 2, 3] hnp ⟨rfl, ⟨⟨⟨⟨trivial, .inr ⟨rfl, rfl, rfl⟩⟩, .inr ⟨rfl, rfl, rfl⟩⟩, .inr ⟨rfl, rfl, rfl⟩⟩, .inr ⟨rfl, rfl, rfl⟩⟩, by decide, rfl, ⟨⟨⟨trivial, rfl⟩, rfl⟩, rfl⟩, rfl⟩ (LeE.upd rfl rfl (LeE.upd rfl rfl (LeE.upd rfl rfl (LeE.upd rfl rfl (LeE.upd rfl rfl (LeE.none rfl rfl))))))) ?_
 obtain ⟨x4402, H5087, H⟩ := bnd H
 refine WP.monoW (Q := fun x E M => x = .exit 2 ∧ E = (Env.none.upd 0 (.ptr 0 0)) ∧ M = (((((Mem.nil.withP 54 rdS_simfs_file x4402).push (.cells 41 [.lit (.int .i64 x1581), .whole 3, .mp 1, .mp 2, .ro (Rd.slice rdS_simfs_entry) false x1588, .ro (Rd.map (Value.int .i64) (Rd.int .i64)) false x1582, .lit (.int .i64 x1583), .lit (.bool x1584)])).push (.dict Value.string (Rd.pp 0) x1585 none)).push (.dict Value.string (Rd.pp 0) x3021 none)).push (.row 49 (Rd.pp 0) x1587))) ?_ ?_
 · refine WP.loop (β := Int × (List S_simfs_file)) (fun n b => g_simfs_Disk_Boot_l1 k x1580 x1587 n b.1 b.2 = some x4402) (fun b => (((((Env.none.upd 0 (.ptr 0 0)).upd 2 (.ro (Rd.slice (Rd.int .i64)) false x1580)).upd 40 (.whole 3)).upd 41 (.lit (.int .i64 ((List.length x1587 : Nat) : Int)))).upd 42 (.lit (.int .i64 b.1)))) (fun b => (((((Mem.nil.withP 54 rdS_simfs_file b.2).push (.cells 41 [.lit (.int .i64 x1581), .whole 3, .mp 1, .mp 2, .ro (Rd.slice rdS_simfs_entry) false x1588, .ro (Rd.map (Value.int .i64) (Rd.int .i64)) false x1582, .lit (.int .i64 x1583), .lit (.bool x1584)])).push (.dict Value.string (Rd.pp 0) x1585 none)).push (.dict Value.string (Rd.pp 0) x3021 none)).push (.row 49 (Rd.pp 0) x1587))) k (0, x1589) H5087 rfl rfl ?_
   rintro n ⟨x3715, x3716⟩ H
   obtain _ | n := n
   · exact nf rfl H
   rw [g_simfs_Disk_Boot_l1.eq_2] at H
   show WP _ _ _ _ (((((Env.none.upd 0 (.ptr 0 0)).upd 2 (.ro (Rd.slice (Rd.int .i64)) false x1580)).upd 40 (.whole 3)).upd 41 (.lit (.int .i64 ((List.length x1587 : Nat) : Int)))).upd 42 (.lit (.int .i64 x3715))) (((((Mem.nil.withP 54 rdS_simfs_file x3716).push (.cells 41 [.lit (.int .i64 x1581), .whole 3, .mp 1, .mp 2, .ro (Rd.slice rdS_simfs_entry) false x1588, .ro (Rd.map (Value.int .i64) (Rd.int .i64)) false x1582, .lit (.int .i64 x1583), .lit (.bool x1584)])).push (.dict Value.string (Rd.pp 0) x1585 none)).push (.dict Value.string (Rd.pp 0) x3021 none)).push (.row 49 (Rd.pp 0) x1587)) _
   refine WP.seq ?_
   refine WP.region ?_
   obtain ⟨x4403, h4403, H⟩ := bnd H
   refine WPL.q (q_nm (q_lss rfl rfl) (nm_bool h4403)) rfl ?_
   refine WPL.nilW ?_
   refine W.now ?_
   refine Then.n ?_
   refine WP.seq ?_
   refine WP.cond (t := x4403) rfl (fun hb4404 => ?_) (fun hb4404 => ?_)
   · replace H := cnt hb4404 H
     refine WP.skipW ?_
     refine W.now ?_
     refine Then.n ?_
     refine WP.seq ?_
     refine WP.block ?_
     refine WP.seq ?_
     refine WP.region ?_
     refine WPL.q (q_mv (v := .lit (.int _ _)) rfl) rfl ?_
     obtain ⟨x4747, h4747, H⟩ := bnd H
     refine WPL.q (q_index_row sl37 rfl rfl rfl (ixs h4747)) rfl ?_
     refine WPL.q (q_load_rowr (j := (Int.toNat x3715)) (n := 1) (off := 0) (d := x4747) sc49 rfl rfl (ixj h4747) rfl PartIs.self rfl) rfl ?_
     refine WPL.q (q_as (v := .lit (.int _ _)) rfl) rfl ?_
     refine WPL.q (q_as (v := .ro _ _ _) rfl) rfl ?_
     refine WPL.nilW ?_
     refine W.now ?_
     refine Then.n ?_
     refine WP.seq ?_
     obtain ⟨x4913, H5078, H⟩ := bnd H
     refine WP.monoW (Q := fun x E M => x = .normal ∧ E = ((((((Env.none.upd 0 (.ptr 0 0)).upd 2 (.ro (Rd.slice (Rd.int .i64)) false x1580)).upd 9 (.ro (Rd.pp 0) false x4747)).upd 40 (.whole 3)).upd 41 (.lit (.int .i64 ((List.length x1587 : Nat) : Int)))).upd 42 (.lit (.int .i64 x3715))) ∧ M = (((((Mem.nil.withP 54 rdS_simfs_file x4913).push (.cells 41 [.lit (.int .i64 x1581), .whole 3, .mp 1, .mp 2, .ro (Rd.slice rdS_simfs_entry) false x1588, .ro (Rd.map (Value.int .i64) (Rd.int .i64)) false x1582, .lit (.int .i64 x1583), .lit (.bool x1584)])).push (.dict Value.string (Rd.pp 0) x1585 none)).push (.dict Value.string (Rd.pp 0) x3021 none)).push (.row 49 (Rd.pp 0) x1587))) ?_ ?_
     · clear H
       have H := H5078
       clear H5078
       refine WP.seq ?_
       obtain ⟨x4937, H4960, H⟩ := bnd H
       refine WP.monoW (Q := fun x E M => x = .normal ∧ E = ((((((((Env.none.upd 0 (.ptr 0 0)).upd 2 (.ro (Rd.slice (Rd.int .i64)) false x1580)).upd 8 (.lit (.int .i64 x3715))).upd 9 (.ro (Rd.pp 0) false x4747)).upd 40 (.whole 3)).upd 41 (.lit (.int .i64 ((List.length x1587 : Nat) : Int)))).upd 42 (.lit (.int .i64 x3715))).upd 62 (.lit (.bool x4937))) ∧ M = (((((Mem.nil.withP 54 rdS_simfs_file x3716).push (.cells 41 [.lit (.int .i64 x1581), .whole 3, .mp 1, .mp 2, .ro (Rd.slice rdS_simfs_entry) false x1588, .ro (Rd.map (Value.int .i64) (Rd.int .i64)) false x1582, .lit (.int .i64 x1583), .lit (.bool x1584)])).push (.dict Value.string (Rd.pp 0) x1585 none)).push (.dict Value.string (Rd.pp 0) x3021 none)).push (.row 49 (Rd.pp 0) x1587))) ?_ ?_
       · clear H
         have H := H4960
         clear H4960
         refine WP.regionD' 16 [1000000] [] mixed rfl ?_
         refine WPD.takeT 0 rfl (by kernel_rfl) (q_mv (v := .lit (.int _ _)) rfl) rfl ?_
         refine WPD.takeT 1 rfl (by kernel_rfl) (q_mv (v := .ro _ _ _) rfl) rfl ?_
         refine WPD.takeT 2 rfl (by kernel_rfl) (q_len_ro sl48 rfl) rfl ?_
         obtain ⟨x4953, h4953, H⟩ := bnd H
         refine WPD.takeT 3 rfl (by kernel_rfl) (q_nm (q_lss rfl rfl) (nm_bool h4953)) rfl ?_
         refine WPD.takeT 4 rfl (by kernel_rfl) (q_mv (v := .lit (.bool _)) rfl) rfl ?_
         refine WPD.split (t := 51) (b := x4953) rfl (fun hb4953 => ?_) (fun hb4953 => ?_)
         · replace H := cnt hb4953 H
           refine WPD.takegT 5 rfl (by kernel_rfl) rfl rfl (lb hb4953) (q_mv (v := .ro _ _ _) rfl) rfl ?_
           refine WPD.takegT 6 rfl (by kernel_rfl) rfl rfl (lb hb4953) (q_mv (v := .lit (.int _ _)) rfl) rfl ?_
           obtain ⟨x4955, h4955, H⟩ := bnd H
           refine WPD.takegT 7 rfl (by kernel_rfl) rfl rfl (lb hb4953) (q_index_ro sl48 rfl rfl rfl h4955) rfl ?_
           refine WPD.takegT 8 rfl (by kernel_rfl) rfl rfl (lb hb4953) (q_load_sc sc3 rfl) rfl ?_
           refine WPD.takegT 9 rfl (by kernel_rfl) rfl rfl (lb hb4953) (q_mv (v := .ro _ _ _) rfl) rfl ?_
           obtain ⟨x4956, h4956, H⟩ := bnd H
           refine WPD.takegT 10 rfl (by kernel_rfl) rfl rfl (lb hb4953) (q_nilCheckP rfl h4956) rfl ?_
           refine WPD.takegT 11 rfl (by kernel_rfl) rfl rfl (lb hb4953) (q_fieldAddrP fi54_1 rfl rfl) rfl ?_
           obtain ⟨x4958, h4958, H⟩ := bnd H
           refine WPD.takeg 12 rfl (by kernel_rfl) rfl rfl (lb hb4953) (q_loadP sc22 rfl rfl h4958 S_simfs_file.p1 rfl rfl) rfl rfl ?_
           refine WPD.takegT 13 rfl (by kernel_rfl) rfl rfl (lb hb4953) (q_len_ro sl22 rfl) rfl ?_
           obtain ⟨x4960, h4960, H⟩ := bnd H
           refine WPD.takegT 14 rfl (by kernel_rfl) rfl rfl (lb hb4953) (q_nm (q_gtr rfl rfl) (nm_bool h4960)) rfl ?_
           refine WPD.takeT 15 rfl (by kernel_rfl) (q_pickT (v := .lit (.bool _)) (lb hb4953) rfl) rfl ?_
           refine WPD.doneW (by kernel_rfl) ?_
           have q0 := (Option.some.inj H)
           subst q0
           exact W.wk [0, 1, 2, 3] hnp ⟨rfl, rfl, rfl⟩ ⟨rfl, ⟨⟨⟨⟨trivial, .inr ⟨rfl, rfl, rfl⟩⟩, .inr ⟨rfl, rfl, rfl⟩⟩, .inr ⟨rfl, rfl, rfl⟩⟩, .inr ⟨rfl, rfl, rfl⟩⟩, by decide, rfl, ⟨⟨⟨trivial, rfl⟩, rfl⟩, rfl⟩, rfl⟩ (LeE.upd rfl rfl (LeE.upd rfl rfl (LeE.upd rfl rfl (LeE.upd rfl rfl (LeE.upd rfl rfl (LeE.upd rfl rfl (LeE.upd rfl rfl (LeE.upd rfl rfl (LeE.none rfl rfl))))))))) rfl
         replace H := cnf hb4953 H
         refine WPD.pass (b' := false) 5 rfl (by kernel_rfl) rfl rfl (lb hb4953) rfl rfl (.inl trivial) ?_
         refine WPD.pass (b' := false) 6 rfl (by kernel_rfl) rfl rfl (lb hb4953) rfl rfl (.inl trivial) ?_
         refine WPD.pass (b' := false) 7 rfl (by kernel_rfl) rfl rfl (lb hb4953) rfl rfl (.inl trivial) ?_
         refine WPD.pass (b' := false) 8 rfl (by kernel_rfl) rfl rfl (lb hb4953) rfl rfl (.inl trivial) ?_
         refine WPD.pass (b' := false) 9 rfl (by kernel_rfl) rfl rfl (lb hb4953) rfl rfl (.inl trivial) ?_
         refine WPD.pass (b' := false) 10 rfl (by kernel_rfl) rfl rfl (lb hb4953) rfl rfl (.inl trivial) ?_
         refine WPD.pass (b' := false) 11 rfl (by kernel_rfl) rfl rfl (lb hb4953) rfl rfl (.inl trivial) ?_
         refine WPD.pass (b' := false) 12 rfl (by kernel_rfl) rfl rfl (lb hb4953) rfl rfl (.inl trivial) ?_
         refine WPD.pass (b' := false) 13 rfl (by kernel_rfl) rfl rfl (lb hb4953) rfl rfl (.inl trivial) ?_
         refine WPD.pass (b' := false) 14 rfl (by kernel_rfl) rfl rfl (lb hb4953) rfl rfl (.inl trivial) ?_
         refine WPD.takeT 15 rfl (by kernel_rfl) (q_pickF (v := .lit (.bool _)) (lb hb4953) rfl) rfl ?_
         refine WPD.doneW (by kernel_rfl) ?_
         have q0 := (Option.some.inj H)
         subst q0
         exact W.wk [0, 1, 2, 3] hnp ⟨rfl, rfl, rfl⟩ ⟨rfl, ⟨⟨⟨⟨trivial, .inr ⟨rfl, rfl, rfl⟩⟩, .inr ⟨rfl, rfl, rfl⟩⟩, .inr ⟨rfl, rfl, rfl⟩⟩, .inr ⟨rfl, rfl, rfl⟩⟩, by decide, rfl, ⟨⟨⟨trivial, rfl⟩, rfl⟩, rfl⟩, rfl⟩ (LeE.upd rfl rfl (LeE.upd rfl rfl (LeE.upd rfl rfl (LeE.upd rfl rfl (LeE.upd rfl rfl (LeE.upd rfl rfl (LeE.upd rfl rfl (LeE.upd rfl rfl (LeE.none rfl rfl))))))))) rfl
       rintro _ _ _ ⟨rfl, rfl, rfl⟩
       refine W.now ?_
       refine Then.n ?_
       refine WP.cond (t := x4937) rfl (fun hb4961 => ?_) (fun hb4961 => ?_)
       · replace H := cnt hb4961 H
         refine WP.regionD' 19 [1000000] [18] mixed rfl ?_
         refine WPD.takeT 0 rfl (by kernel_rfl) (q_mv (v := .ro _ _ _) rfl) rfl ?_
         refine WPD.takeT 1 rfl (by kernel_rfl) (q_mv (v := .ro _ _ _) rfl) rfl ?_
         obtain ⟨x5048, h5048, H⟩ := bnd H
         refine WPD.takeT 2 rfl (by kernel_rfl) (q_nilCheckP rfl h5048) rfl ?_
         refine WPD.takeT 3 rfl (by kernel_rfl) (q_fieldAddrP fi54_0 rfl rfl) rfl ?_
         refine WPD.takeT 5 rfl (by kernel_rfl) (q_mv (v := .ro _ _ _) rfl) rfl ?_
         refine WPD.takeT 6 rfl (by kernel_rfl) (q_mv (v := .lit (.int _ _)) rfl) rfl ?_
         obtain ⟨x5056, h5056, H⟩ := bnd H
         refine WPD.takeT 7 rfl (by kernel_rfl) (q_index_ro sl48 rfl rfl rfl h5056) rfl ?_
         refine WPD.takeT 8 rfl (by kernel_rfl) (q_load_sc sc3 rfl) rfl ?_
         refine WPD.takeT 9 rfl (by kernel_rfl) (q_mv (v := .ro _ _ _) rfl) rfl ?_
         obtain ⟨x5063, h5063, H⟩ := bnd H
         refine WPD.takeT 10 rfl (by kernel_rfl) (q_nilCheckP rfl h5063) rfl ?_
         refine WPD.takeT 11 rfl (by kernel_rfl) (q_fieldAddrP fi54_0 rfl rfl) rfl ?_
         obtain ⟨x5067, h5067, H⟩ := bnd H
         refine WPD.take 4 rfl (by kernel_rfl) (q_loadP sc22 rfl rfl h5067 S_simfs_file.p0 rfl rfl) rfl rfl ?_
         obtain ⟨x5071, h5071, H⟩ := bnd H
         refine WPD.take 12 rfl (by kernel_rfl) (q_loadP sc22 rfl rfl h5071 S_simfs_file.p0 rfl rfl) rfl rfl ?_
         refine WPD.takeT 13 rfl (by kernel_rfl) (q_len_ro sl22 rfl) rfl ?_
         obtain ⟨x5073, h5073, H⟩ := bnd H
         refine WPD.takeT 14 rfl (by kernel_rfl) (q_nm (q_min rfl rfl) (nm_int h5073)) rfl ?_
         obtain ⟨h5073, H⟩ := grd H
         refine WPD.takeT 15 rfl (by kernel_rfl) (q_slice_ro (i := 0) (j := x5073) sl22 rfl rfl rfl ⟨_, rfl⟩ h5073) rfl ?_
         obtain ⟨x5075, h5075, H⟩ := bnd H
         refine WPD.takeT 16 rfl (by kernel_rfl) (q_nilCheckP rfl h5075) rfl ?_
         refine WPD.takeT 17 rfl (by kernel_rfl) (q_fieldAddrP fi54_1 rfl rfl) rfl ?_
         obtain ⟨x5077, h5077, H⟩ := bnd H
         refine WPD.effS 18 [] [] rfl (by kernel_rfl) (s_storeP (v := (List.drop (Int.toNat 0) (List.take (Int.toNat x5073) x5067.fnow))) sz22 rfl rfl h5077 Joins.one rfl S_simfs_file.u1 rfl) rfl ?_
         refine WPD.doneW (by kernel_rfl) ?_
         have q0 := (Option.some.inj H)
         subst q0
         exact W.wk [0, 1, 2, 3] hnp ⟨rfl, rfl, rfl⟩ ⟨rfl, ⟨⟨⟨⟨trivial, .inr ⟨rfl, rfl, rfl⟩⟩, .inr ⟨rfl, rfl, rfl⟩⟩, .inr ⟨rfl, rfl, rfl⟩⟩, .inr ⟨rfl, rfl, rfl⟩⟩, by decide, rfl, ⟨⟨⟨trivial, rfl⟩, rfl⟩, rfl⟩, rfl⟩ (LeE.upd rfl rfl (LeE.upd rfl rfl (LeE.upd rfl rfl (LeE.upd rfl rfl (LeE.upd rfl rfl (LeE.upd rfl rfl (LeE.none rfl rfl))))))) rfl
       replace H := cnf hb4961 H
       refine WP.skipW ?_
       have q0 := (Option.some.inj H)
       subst q0
       exact W.wk [0, 1, 2, 3] hnp ⟨rfl, rfl, rfl⟩ ⟨rfl, ⟨⟨⟨⟨trivial, .inr ⟨rfl, rfl, rfl⟩⟩, .inr ⟨rfl, rfl, rfl⟩⟩, .inr ⟨rfl, rfl, rfl⟩⟩, .inr ⟨rfl, rfl, rfl⟩⟩, by decide, rfl, ⟨⟨⟨trivial, rfl⟩, rfl⟩, rfl⟩, rfl⟩ (LeE.upd rfl rfl (LeE.upd rfl rfl (LeE.upd rfl rfl (LeE.upd rfl rfl (LeE.upd rfl rfl (LeE.upd rfl rfl (LeE.none rfl rfl))))))) rfl
     rintro _ _ _ ⟨rfl, rfl, rfl⟩
     refine W.now ?_
     refine Then.n ?_
     refine WP.region ?_
     refine WPL.q (q_mv (v := .ro _ _ _) rfl) rfl ?_
     refine WPL.q (q_mv (v := .ro _ _ _) rfl) rfl ?_
     obtain ⟨x5080, h5080, H⟩ := bnd H
     refine WPL.q (q_nilCheckP rfl h5080) rfl ?_
     refine WPL.q (q_fieldAddrP fi54_1 rfl rfl) rfl ?_
     obtain ⟨x5082, h5082, H⟩ := bnd H
     refine WPL.q (q_loadP sc22 rfl rfl h5082 S_simfs_file.p1 rfl rfl) rfl ?_
     obtain ⟨x5084, h5084, H⟩ := bnd H
     refine WPL.q (q_nilCheckP rfl h5084) rfl ?_
     refine WPL.q (q_fieldAddrP fi54_0 rfl rfl) rfl ?_
     obtain ⟨x5086, h5086, H⟩ := bnd H
     refine WPL.s (s_storeP (v := x5082.fsafe) sz22 rfl rfl h5086 Joins.one rfl S_simfs_file.u0 rfl) ?_
     refine WPL.nilW ?_
     refine W.now ?_
     refine InBlock.n ?_
     refine Then.n ?_
     refine WP.region ?_
     refine WPL.q (q_add rfl rfl) rfl ?_
     refine WPL.q (q_mv (v := .lit (.int _ _)) rfl) rfl ?_
     refine WPL.nilW ?_
     exact W.wk [0, 1, 2, 3] hnp (Then.n ⟨n, ((IntKind.wrap .i64 (x3715 + 1)), (List.set x4913 x5084 (⟨x5082.fsafe, x5086.fsafe⟩ : S_simfs_file))), Nat.lt_succ_self n, H, rfl, rfl⟩) ⟨rfl, ⟨⟨⟨⟨trivial, .inr ⟨rfl, rfl, rfl⟩⟩, .inr ⟨rfl, rfl, rfl⟩⟩, .inr ⟨rfl, rfl, rfl⟩⟩, .inr ⟨rfl, rfl, rfl⟩⟩, by decide, rfl, ⟨⟨⟨trivial, rfl⟩, rfl⟩, rfl⟩, rfl⟩ (LeE.upd rfl rfl (LeE.upd rfl rfl (LeE.upd rfl rfl (LeE.upd rfl rfl (LeE.upd rfl rfl (LeE.none rfl rfl)))))) rfl
   replace H := cnf hb4404 H
   refine WP.exitW ?_
   have q0 := (Option.some.inj H)
   subst q0
   exact W.wk [0, 1, 2, 3] hnp (Then.x (Then.x ⟨rfl, rfl, rfl⟩)) ⟨rfl, ⟨⟨⟨⟨trivial, .inr ⟨rfl, rfl, rfl⟩⟩, .inr ⟨rfl, rfl, rfl⟩⟩, .inr ⟨rfl, rfl, rfl⟩⟩, .inr ⟨rfl, rfl, rfl⟩⟩, by decide, rfl, ⟨⟨⟨trivial, rfl⟩, rfl⟩, rfl⟩, rfl⟩ (LeE.upd rfl rfl (LeE.none rfl rfl)) rfl
 rintro _ _ _ ⟨rfl, rfl, rfl⟩
 refine W.now ?_
 refine InBlock.x0 ?_
 refine Then.n ?_
 refine WP.region ?_
 refine WPL.q (q_mv (v := .ptr _ _) rfl) rfl ?_
 refine WPL.q (q_mv (v := .ptr _ _) rfl) rfl ?_
 refine WPL.q (q_mv (v := .ptr _ _) rfl) rfl ?_
 refine WPL.q (q_mv (v := .ptr _ _) rfl) rfl ?_
 refine WPL.q (q_mv (v := .ptr _ _) rfl) rfl ?_
 refine WPL.q (q_nilCheck rfl) rfl ?_
 refine WPL.q (q_fieldAddr fi41_3 rfl rfl) rfl ?_
 refine WPL.q (q_load sc36 rfl rfl rfl) rfl ?_
 obtain ⟨_, h5088, H⟩ := bnd H
 refine WPL.c (runs_call (s := [2]) (t := [2, 4]) (N := 5) (bor := []) fn17 rfl (s_maps_Clone_map_string_simfs_file_string_simfs_file k x3021 h5088) ⟨rfl, ⟨trivial, .inr ⟨rfl, rfl, rfl⟩⟩, by decide, rfl, trivial, rfl⟩ rfl trivial (.ren rfl rfl .nil) rfl ⟨⟨trivial, rfl⟩, rfl⟩ rfl) rfl ?_
 refine WPL.q (q_nilCheck rfl) rfl ?_
 refine WPL.q (q_fieldAddr fi41_2 rfl rfl) rfl ?_
 refine WPL.s (s_store sz36 rfl rfl rfl rfl rfl) ?_
 refine WPL.q (q_nilCheck rfl) rfl ?_
 refine WPL.q (q_fieldAddr fi41_4 rfl rfl) rfl ?_
 refine WPL.s (s_store sz38 rfl rfl rfl rfl rfl) ?_
 refine WPL.cv (Cv.virC 51 rdS_simfs_entry (N := 5) rfl (i := 0) rfl (off := 4) rfl rfl) ?_
 refine WPL.q (q_nilCheck rfl) rfl ?_
 refine WPL.q (q_fieldAddr fi41_5 rfl rfl) rfl ?_
 refine WPL.s (s_store sz39 rfl rfl rfl rfl rfl) ?_
 refine WPL.cv (Cv.nilMapC (Value.int .i64) (Rd.int .i64) false (i := 0) (off := 5) rfl rfl rfl) ?_
 refine WPL.q (q_nilCheck rfl) rfl ?_
 refine WPL.q (q_fieldAddr fi41_7 rfl rfl) rfl ?_
 refine WPL.s (s_store sz4 rfl rfl rfl rfl rfl) ?_
 refine WPL.nilW ?_
 have q0 := (Prod.mk.inj (Option.some.inj H)).1
 have q1 := (Prod.mk.inj (Prod.mk.inj (Option.some.inj H)).2).1
 have q2 := (Prod.mk.inj (Prod.mk.inj (Option.some.inj H)).2).2
 subst q0
 subst q1
 subst q2
 exact W.now (BodyR.mkN trivial rfl [0, 1, 2, 3, 4, 5] ⟨rfl, rfl⟩ ⟨rfl, ⟨⟨⟨⟨⟨⟨trivial, .inr ⟨rfl, rfl, rfl⟩⟩, .inr ⟨rfl, rfl, rfl⟩⟩, .inr ⟨rfl, rfl, rfl⟩⟩, .inr ⟨rfl, rfl, rfl⟩⟩, .inr ⟨rfl, rfl, rfl⟩⟩, .inr ⟨rfl, rfl, rfl⟩⟩, by decide, rfl, ⟨⟨⟨trivial, rfl⟩, rfl⟩, rfl⟩, rfl⟩ rfl rfl)
set_option maxRecDepth 100000 in
set_option maxHeartbeats 4000000 in
theorem s_slices_Clone_byte_byte (k : Nat) (x5136 : List Int) (x5137 : List Int) (H : g_slices_Clone_byte_byte k x5136 = some x5137) : Go.Q.Spec Try.prog 28 0 [.ro (Rd.slice (Rd.int .u8)) false x5136] Mem.nil (fun o M => o = .ret (.ro (Rd.slice (Rd.int .u8)) false x5137) ∧ M = Mem.nil) := by
  unfold g_slices_Clone_byte_byte at H
  obtain ⟨h, H⟩ := grd H
  have q0 := Option.some.inj H
  subst q0
  refine Go.Q.Spec.of_bodyR (az := []) (rs := [.tmp 2]) (nt := 8) Try.func28 rfl rfl (by intro t T h; simp at h) rfl rfl fun cx hnp => ?_
  refine WP.seq ?_
  refine WP.region ?_
  refine WPL.q (q_as (v := .lit _) rfl) rfl ?_
  refine WPL.nilW ?_
  refine W.now ?_
  refine Then.n ?_
  refine WP.seq ?_
  refine WP.seq ?_
  refine WP.region ?_
  refine WPL.q (q_mv (v := .ro _ _ _) rfl) rfl ?_
  refine WPL.eqlNil Try.underlying22 rfl rfl fun nb hnb => ?_
  refine WPL.nilW ?_
  refine W.now ?_
  refine Then.n ?_
  refine WP.cond (t := nb) rfl (fun hb => ?_) (fun hb => ?_)
  · have h0 := hnb hb
    subst h0
    refine WP.seq ?_
    refine WP.region ?_
    refine WPL.q (q_as (v := .lit _) rfl) rfl ?_
    refine WPL.nilW ?_
    refine W.now ?_
    refine Then.n ?_
    refine WP.retW ?_
    refine W.cv (Cv.nilRo (Rd.int .u8) false 2 rfl) rfl ?_
    refine W.now ?_
    refine Then.r ?_
    exact ⟨trivial, _, rfl, [], (.ro (Rd.slice (Rd.int .u8)) false ([] : List Int)), Mem.nil, ⟨rfl, trivial, by decide, rfl, trivial, rfl⟩, rfl, rfl, rfl, rfl⟩
  · refine WP.skipW ?_
    refine W.now ?_
    refine Then.n ?_
    refine WP.seq ?_
    refine WP.region ?_
    refine WPL.d (d_buildSlice (ds := ([] : List Int)) (R := (Rd.int .u8)) li22 rfl rfl rfl rfl rfl JoinRows.nil rfl rfl) rfl ?_
    refine WPL.q (q_mv (v := .ro _ _ _) rfl) rfl ?_
    refine WPL.d (d_append ap22 rfl rfl rfl rfl (src_ro sl22 rfl) h rfl) rfl ?_
    refine WPL.q (q_as (v := .whole _) rfl) rfl ?_
    refine WPL.nilW ?_
    refine W.now ?_
    refine Then.n ?_
    refine WP.retW ?_
    refine W.cv (Cv.frzRow (i := 1) rfl rfl hnp rfl rfl) rfl ?_
    refine W.now ?_
    exact ⟨trivial, _, rfl, [], (.ro (Rd.slice (Rd.int .u8)) false x5136), Mem.nil, ⟨rfl, trivial, by decide, rfl, trivial, rfl⟩, rfl, rfl, rfl, rfl⟩
set_option maxRecDepth 100000 in
set_option maxHeartbeats 4000000 in
theorem s_simfs_Disk_Read (k : Nat) (x5111 : ByteArray) (x5112 : Int) (x5113 : (List (Int × Int))) (x5114 : Int) (x5115 : Bool) (x5116 : (List (ByteArray × (Option Nat)))) (x5117 : (List (ByteArray × (Option Nat)))) (x5118 : (List (Option Nat))) (x5119 : (List S_simfs_entry)) (x5120 : (List S_simfs_file)) (x5140 : (List Int)) (x5141 : Int) (x5142 : Int) (x5143 : Bool) (H : g_simfs_Disk_Read k x5111 x5112 x5113 x5114 x5115 x5116 x5117 x5118 x5119 x5120 = some (x5140, x5141, x5142, x5143)) : Go.Q.Spec Try.prog 15 3 [.ptr 0 0, .lit (.string x5111)] ((((((Mem.nil.withP 54 rdS_simfs_file x5120).push (.cells 41 [.lit (.int .i64 x5112), .whole 3, .mp 1, .mp 2, .whole 4, .ro (Rd.map (Value.int .i64) (Rd.int .i64)) false x5113, .lit (.int .i64 x5114), .lit (.bool x5115)])).push (.dict Value.string (Rd.pp 0) x5116 none)).push (.dict Value.string (Rd.pp 0) x5117 none)).push (.row 49 (Rd.pp 0) x5118)).push (.row 51 rdS_simfs_entry x5119)) (fun o M => o = .ret (.tup [.ro (Rd.slice (Rd.int .u8)) false x5140, .lit (.int .i64 x5141)]) ∧ M = ((((((Mem.nil.withP 54 rdS_simfs_file x5120).push (.cells 41 [.lit (.int .i64 x5112), .whole 3, .mp 1, .mp 2, .whole 4, .ro (Rd.map (Value.int .i64) (Rd.int .i64)) false x5113, .lit (.int .i64 x5142), .lit (.bool x5143)])).push (.dict Value.string (Rd.pp 0) x5116 none)).push (.dict Value.string (Rd.pp 0) x5117 none)).push (.row 49 (Rd.pp 0) x5118)).push (.row 51 rdS_simfs_entry x5119))) := by
 unfold g_simfs_Disk_Read at H
 refine Go.Q.Spec.of_bodyR (az := []) (rs := [.tmp 4, .tmp 5]) (nt := 23) Try.func15 rfl rfl (by intro t T h; simp at h) rfl rfl fun cx hnp => ?_
 refine WP.seq ?_
 refine WP.region ?_
 refine WPL.q (q_as (v := .lit _) rfl) rfl ?_
 refine WPL.q (q_as (v := .lit (.int _ _)) rfl) rfl ?_
 refine WPL.nilW ?_
 refine W.now ?_
 refine Then.n ?_
 refine WP.seq ?_
 refine WP.region ?_
 refine WPL.q (q_mv (v := .ptr _ _) rfl) rfl ?_
 refine WPL.q (q_mv (v := .lit (.string _)) rfl) rfl ?_
 refine WPL.d (d_buildSlice (ds := ([x5111] : List ByteArray)) (R := Rd.str) li70 rfl rfl rfl rfl rfl (JoinRows.cons1 Joins.sc rfl JoinRows.nil) rfl rfl) rfl ?_
 obtain ⟨y5151, h5143, H⟩ := bnd H
 rcases y5151 with ⟨x5145, x5146, x5147⟩ | ⟨x5148, x5149, x5150⟩
 · refine WPL.c (runs_call (s := [0, 1, 2, 3, 4]) (t := [0, 1, 2, 6, 7]) (N := 8) (bor := [5]) fn26 rfl (s_simfs_Disk_there k ([x5111] : List ByteArray) x5112 x5113 x5114 x5115 x5116 x5117 x5118 x5119 (Sum.inl (x5145, x5146, x5147)) h5143) ⟨rfl, ⟨⟨⟨⟨⟨trivial, .inr ⟨rfl, rfl, rfl⟩⟩, .inr ⟨rfl, rfl, rfl⟩⟩, .inr ⟨rfl, rfl, rfl⟩⟩, .inr ⟨rfl, rfl, rfl⟩⟩, .inr ⟨rfl, rfl, rfl⟩⟩, by decide, rfl, trivial, rfl⟩ rfl ⟨trivial, rfl, rfl, trivial⟩ (.ren rfl rfl (.row rfl rfl .nil)) rfl ⟨⟨⟨⟨⟨trivial, rfl⟩, rfl⟩, rfl⟩, rfl⟩, rfl⟩ rfl) rfl ?_
   refine WPL.q (q_mv (v := .tup _) rfl) rfl ?_
   refine WPL.q (q_extract rfl rfl) rfl ?_
   refine WPL.q (q_extract rfl rfl) rfl ?_
   refine WPL.q (q_as (v := .lit _) rfl) rfl ?_
   refine WPL.q (q_as (v := .lit (.int _ _)) rfl) rfl ?_
   refine WPL.nilW ?_
   refine W.now ?_
   refine Then.n ?_
   refine WP.seq ?_
   refine WP.seq ?_
   refine WP.region ?_
   refine WPL.q (q_mv (v := .lit (.int _ _)) rfl) rfl ?_
   refine WPL.q (q_neq rfl rfl) rfl ?_
   refine WPL.nilW ?_
   refine W.now ?_
   refine Then.n ?_
   refine WP.cond (t := (!decide (x5145 = 0))) rfl (fun hb5152 => ?_) (fun hb5152 => ?_)
   · replace H := cnt hb5152 H
     refine WP.seq ?_
     refine WP.region ?_
     refine WPL.q (q_mv (v := .lit (.int _ _)) rfl) rfl ?_
     refine WPL.q (q_as (v := .lit _) rfl) rfl ?_
     refine WPL.q (q_as (v := .lit (.int _ _)) rfl) rfl ?_
     refine WPL.nilW ?_
     refine W.now ?_
     refine Then.n ?_
     refine WP.retW ?_
     refine W.cv (Cv.nilRo (Rd.int .u8) false 4 rfl) rfl ?_
     have q0 := (Prod.mk.inj (Option.some.inj H)).1
     have q1 := (Prod.mk.inj (Prod.mk.inj (Option.some.inj H)).2).1
     have q2 := (Prod.mk.inj (Prod.mk.inj (Prod.mk.inj (Option.some.inj H)).2).2).1
     have q3 := (Prod.mk.inj (Prod.mk.inj (Prod.mk.inj (Option.some.inj H)).2).2).2
     subst q0
     subst q1
     subst q2
     subst q3
     exact W.now (Then.r (BodyR.mkR trivial rfl [0, 1, 2, 6, 7] ⟨rfl, rfl⟩ ⟨rfl, ⟨⟨⟨⟨⟨trivial, .inr ⟨rfl, rfl, rfl⟩⟩, .inr ⟨rfl, rfl, rfl⟩⟩, .inr ⟨rfl, rfl, rfl⟩⟩, .inr ⟨rfl, rfl, rfl⟩⟩, .inr ⟨rfl, rfl, rfl⟩⟩, by decide, rfl, ⟨⟨⟨trivial, rfl⟩, rfl⟩, rfl⟩, rfl⟩ rfl rfl))
   replace H := cnf hb5152 H
   refine WP.skipW ?_
   refine W.now ?_
   refine Then.n ?_
   refine WP.seq ?_
   refine WP.region ?_
   refine WPL.q (q_mv (v := .lit _) rfl) rfl ?_
   exact nf rfl H
 refine WPL.c (runs_call (s := [0, 1, 2, 3, 4]) (t := [0, 1, 2, 6, 7]) (N := 8) (bor := [5]) fn26 rfl (s_simfs_Disk_there k ([x5111] : List ByteArray) x5112 x5113 x5114 x5115 x5116 x5117 x5118 x5119 (Sum.inr (x5148, x5149, x5150)) h5143) ⟨rfl, ⟨⟨⟨⟨⟨trivial, .inr ⟨rfl, rfl, rfl⟩⟩, .inr ⟨rfl, rfl, rfl⟩⟩, .inr ⟨rfl, rfl, rfl⟩⟩, .inr ⟨rfl, rfl, rfl⟩⟩, .inr ⟨rfl, rfl, rfl⟩⟩, by decide, rfl, trivial, rfl⟩ rfl ⟨trivial, rfl, rfl, trivial⟩ (.ren rfl rfl (.row rfl rfl .nil)) rfl ⟨⟨⟨⟨⟨trivial, rfl⟩, rfl⟩, rfl⟩, rfl⟩, rfl⟩ rfl) rfl ?_
 refine WPL.q (q_mv (v := .tup _) rfl) rfl ?_
 refine WPL.q (q_extract rfl rfl) rfl ?_
 refine WPL.q (q_extract rfl rfl) rfl ?_
 refine WPL.q (q_as (v := .ro _ _ _) rfl) rfl ?_
 refine WPL.q (q_as (v := .lit (.int _ _)) rfl) rfl ?_
 refine WPL.nilW ?_
 refine W.now ?_
 refine Then.n ?_
 refine WP.seq ?_
 refine WP.seq ?_
 refine WP.region ?_
 refine WPL.q (q_mv (v := .lit (.int _ _)) rfl) rfl ?_
 refine WPL.q (q_neq rfl rfl) rfl ?_
 refine WPL.nilW ?_
 refine W.now ?_
 refine Then.n ?_
 refine WP.condF rfl ?_
 refine WP.skipW ?_
 refine W.now ?_
 refine Then.n ?_
 refine WP.seq ?_
 refine WP.region ?_
 refine WPL.q (q_mv (v := .ro _ _ _) rfl) rfl ?_
 obtain ⟨x5154, h5154, H⟩ := bnd H
 refine WPL.q (q_nilCheckP rfl h5154) rfl ?_
 refine WPL.q (q_fieldAddrP fi54_0 rfl rfl) rfl ?_
 obtain ⟨x5156, h5156, H⟩ := bnd H
 refine WPL.q (q_loadP sc22 rfl rfl h5156 S_simfs_file.p0 rfl rfl) rfl ?_
 obtain ⟨x5159, h5157, H⟩ := bnd H
 refine WPL.c (runs_call (s := []) (t := []) (N := 8) (bor := []) fn28 rfl (s_slices_Clone_byte_byte k x5156.fnow x5159 h5157) ⟨rfl, trivial, by decide, rfl, trivial, rfl⟩ rfl trivial (.ren rfl rfl .nil) rfl trivial rfl) rfl ?_
 refine WPL.q (q_as (v := .ro _ _ _) rfl) rfl ?_
 refine WPL.q (q_as (v := .lit (.int _ _)) rfl) rfl ?_
 refine WPL.nilW ?_
 refine W.now ?_
 refine Then.n ?_
 refine WP.retW ?_
 have q0 := (Prod.mk.inj (Option.some.inj H)).1
 have q1 := (Prod.mk.inj (Prod.mk.inj (Option.some.inj H)).2).1
 have q2 := (Prod.mk.inj (Prod.mk.inj (Prod.mk.inj (Option.some.inj H)).2).2).1
 have q3 := (Prod.mk.inj (Prod.mk.inj (Prod.mk.inj (Option.some.inj H)).2).2).2
 subst q0
 subst q1
 subst q2
 subst q3
 exact W.now (BodyR.mkR trivial rfl [0, 1, 2, 6, 7] ⟨rfl, rfl⟩ ⟨rfl, ⟨⟨⟨⟨⟨trivial, .inr ⟨rfl, rfl, rfl⟩⟩, .inr ⟨rfl, rfl, rfl⟩⟩, .inr ⟨rfl, rfl, rfl⟩⟩, .inr ⟨rfl, rfl, rfl⟩⟩, .inr ⟨rfl, rfl, rfl⟩⟩, by decide, rfl, ⟨⟨⟨trivial, rfl⟩, rfl⟩, rfl⟩, rfl⟩ rfl rfl)
set_option maxRecDepth 100000 in
set_option maxHeartbeats 4000000 in
theorem s_store_Load (k : Nat) (x5094 : ByteArray) (x5095 : Int) (x5096 : (List (Int × Int))) (x5097 : Int) (x5098 : Bool) (x5099 : (List (ByteArray × (Option Nat)))) (x5100 : (List (ByteArray × (Option Nat)))) (x5101 : (List (Option Nat))) (x5102 : (List S_simfs_entry)) (x5103 : (List S_simfs_file)) (x5165 : (List Int)) (x5166 : Int) (x5167 : Int) (x5168 : Bool) (H : g_store_Load k x5094 x5095 x5096 x5097 x5098 x5099 x5100 x5101 x5102 x5103 = some (x5165, x5166, x5167, x5168)) : Go.Q.Spec Try.prog 7 3 [.ptr 0 0, .lit (.string x5094)] ((((((Mem.nil.withP 54 rdS_simfs_file x5103).push (.cells 41 [.lit (.int .i64 x5095), .whole 3, .mp 1, .mp 2, .whole 4, .ro (Rd.map (Value.int .i64) (Rd.int .i64)) false x5096, .lit (.int .i64 x5097), .lit (.bool x5098)])).push (.dict Value.string (Rd.pp 0) x5099 none)).push (.dict Value.string (Rd.pp 0) x5100 none)).push (.row 49 (Rd.pp 0) x5101)).push (.row 51 rdS_simfs_entry x5102)) (fun o M => o = .ret (.tup [.ro (Rd.slice (Rd.int .u8)) false x5165, .lit (.int .i64 x5166)]) ∧ M = ((((((Mem.nil.withP 54 rdS_simfs_file x5103).push (.cells 41 [.lit (.int .i64 x5095), .whole 3, .mp 1, .mp 2, .whole 4, .ro (Rd.map (Value.int .i64) (Rd.int .i64)) false x5096, .lit (.int .i64 x5167), .lit (.bool x5168)])).push (.dict Value.string (Rd.pp 0) x5099 none)).push (.dict Value.string (Rd.pp 0) x5100 none)).push (.row 49 (Rd.pp 0) x5101)).push (.row 51 rdS_simfs_entry x5102))) := by
 unfold g_store_Load at H
 refine Go.Q.Spec.of_bodyR (az := []) (rs := [.tmp 4, .tmp 5]) (nt := 14) Try.func7 rfl rfl (by intro t T h; simp at h) rfl rfl fun cx hnp => ?_
 refine WP.seq ?_
 refine WP.region ?_
 refine WPL.q (q_as (v := .lit _) rfl) rfl ?_
 refine WPL.q (q_as (v := .lit (.int _ _)) rfl) rfl ?_
 refine WPL.nilW ?_
 refine W.now ?_
 refine Then.n ?_
 refine WP.seq ?_
 refine WP.seq ?_
 refine WP.region ?_
 refine WPL.q (q_mv (v := .lit (.string _)) rfl) rfl ?_
 obtain ⟨x5173, h5171, H⟩ := bnd H
 refine WPL.c (runs_call (s := []) (t := []) (N := 5) (bor := []) fn12 rfl (s_store_Right k x5094 x5173 h5171) ⟨rfl, trivial, by decide, rfl, trivial, rfl⟩ rfl trivial (.ren rfl rfl .nil) rfl trivial rfl) rfl ?_
 refine WPL.q (q_not rfl) rfl ?_
 refine WPL.nilW ?_
 refine W.now ?_
 refine Then.n ?_
 refine WP.cond (t := (!x5173)) rfl (fun hb5173 => ?_) (fun hb5173 => ?_)
 · replace H := cnt hb5173 H
   refine WP.seq ?_
   refine WP.region ?_
   refine WPL.q (q_as (v := .lit _) rfl) rfl ?_
   refine WPL.q (q_as (v := .lit (.int _ _)) rfl) rfl ?_
   refine WPL.nilW ?_
   refine W.now ?_
   refine Then.n ?_
   refine WP.retW ?_
   refine W.cv (Cv.nilRo (Rd.int .u8) false 4 rfl) rfl ?_
   have q0 := (Prod.mk.inj (Option.some.inj H)).1
   have q1 := (Prod.mk.inj (Prod.mk.inj (Option.some.inj H)).2).1
   have q2 := (Prod.mk.inj (Prod.mk.inj (Prod.mk.inj (Option.some.inj H)).2).2).1
   have q3 := (Prod.mk.inj (Prod.mk.inj (Prod.mk.inj (Option.some.inj H)).2).2).2
   subst q0
   subst q1
   subst q2
   subst q3
   exact W.now (Then.r (BodyR.mkR trivial rfl [0, 1, 2, 3, 4] ⟨rfl, rfl⟩ ⟨rfl, ⟨⟨⟨⟨⟨trivial, .inr ⟨rfl, rfl, rfl⟩⟩, .inr ⟨rfl, rfl, rfl⟩⟩, .inr ⟨rfl, rfl, rfl⟩⟩, .inr ⟨rfl, rfl, rfl⟩⟩, .inr ⟨rfl, rfl, rfl⟩⟩, by decide, rfl, ⟨⟨⟨trivial, rfl⟩, rfl⟩, rfl⟩, rfl⟩ rfl rfl))
 replace H := cnf hb5173 H
 refine WP.skipW ?_
 refine W.now ?_
 refine Then.n ?_
 refine WP.seq ?_
 refine WP.region ?_
 refine WPL.q (q_mv (v := .ptr _ _) rfl) rfl ?_
 refine WPL.q (q_mv (v := .lit (.string _)) rfl) rfl ?_
 obtain ⟨⟨x5176, x5177, x5178, x5179⟩, h5174, H⟩ := bnd H
 refine WPL.c (runs_call (s := [0, 1, 2, 3, 4]) (t := [0, 1, 2, 5, 6]) (N := 7) (bor := []) fn15 rfl (s_simfs_Disk_Read k x5094 x5095 x5096 x5097 x5098 x5099 x5100 x5101 x5102 x5103 x5176 x5177 x5178 x5179 h5174) ⟨rfl, ⟨⟨⟨⟨⟨trivial, .inr ⟨rfl, rfl, rfl⟩⟩, .inr ⟨rfl, rfl, rfl⟩⟩, .inr ⟨rfl, rfl, rfl⟩⟩, .inr ⟨rfl, rfl, rfl⟩⟩, .inr ⟨rfl, rfl, rfl⟩⟩, by decide, rfl, trivial, rfl⟩ rfl trivial (.ren rfl rfl (.ren rfl rfl .nil)) rfl ⟨⟨⟨⟨⟨trivial, rfl⟩, rfl⟩, rfl⟩, rfl⟩, rfl⟩ rfl) rfl ?_
 refine WPL.q (q_extract rfl rfl) rfl ?_
 refine WPL.q (q_extract rfl rfl) rfl ?_
 refine WPL.q (q_as (v := .ro _ _ _) rfl) rfl ?_
 refine WPL.q (q_as (v := .lit (.int _ _)) rfl) rfl ?_
 refine WPL.nilW ?_
 refine W.now ?_
 refine Then.n ?_
 refine WP.retW ?_
 have q0 := (Prod.mk.inj (Option.some.inj H)).1
 have q1 := (Prod.mk.inj (Prod.mk.inj (Option.some.inj H)).2).1
 have q2 := (Prod.mk.inj (Prod.mk.inj (Prod.mk.inj (Option.some.inj H)).2).2).1
 have q3 := (Prod.mk.inj (Prod.mk.inj (Prod.mk.inj (Option.some.inj H)).2).2).2
 subst q0
 subst q1
 subst q2
 subst q3
 exact W.now (BodyR.mkR trivial rfl [0, 1, 2, 5, 6] ⟨rfl, rfl⟩ ⟨rfl, ⟨⟨⟨⟨⟨trivial, .inr ⟨rfl, rfl, rfl⟩⟩, .inr ⟨rfl, rfl, rfl⟩⟩, .inr ⟨rfl, rfl, rfl⟩⟩, .inr ⟨rfl, rfl, rfl⟩⟩, .inr ⟨rfl, rfl, rfl⟩⟩, by decide, rfl, ⟨⟨⟨trivial, rfl⟩, rfl⟩, rfl⟩, rfl⟩ rfl rfl)
set_option maxRecDepth 100000 in
set_option maxHeartbeats 4000000 in
theorem s_quirelaw22_alive (k : Nat) (x24 : (List S_simfs_file)) (x5227 : Bool) (x5228 : (List S_simfs_file)) (H : g_quirelaw22_alive k x24 = some (x5227, x5228)) : Go.Q.Spec Try.prog 4 0 [] (Mem.nil.withP 54 rdS_simfs_file x24) (fun o M => o = .ret (.lit (.bool x5227)) ∧ M = (Mem.nil.withP 54 rdS_simfs_file x5228)) := by
 unfold g_quirelaw22_alive at H
 refine Go.Q.Spec.of_bodyR (az := []) (rs := [.tmp 0]) (nt := 49) Try.func4 rfl rfl (by intro t T h; simp at h) rfl rfl fun cx hnp => ?_
 refine WP.seq ?_
 refine WP.region ?_
 refine WPL.q (q_as (v := .lit (.bool _)) rfl) rfl ?_
 refine WPL.nilW ?_
 refine W.now ?_
 refine Then.n ?_
 refine WP.seq ?_
 refine WP.region ?_
 obtain ⟨y5230, h5228, H⟩ := bnd H
 rcases y5230 with _ | _
 · refine WPL.c (runs_call (s := []) (t := []) (N := 0) (bor := []) fn5 rfl (s_simfs_New k 100 (Sum.inl ()) h5228) ⟨rfl, trivial, by decide, rfl, trivial, rfl⟩ rfl trivial (.ren rfl rfl .nil) rfl trivial rfl) rfl ?_
   refine WPL.q (q_mv (v := .tup _) rfl) rfl ?_
   refine WPL.q (q_extract rfl rfl) rfl ?_
   refine WPL.q (q_extract rfl rfl) rfl ?_
   refine WPL.q (q_as (v := .lit _) rfl) rfl ?_
   refine WPL.q (q_as (v := .lit (.int _ _)) rfl) rfl ?_
   refine WPL.nilW ?_
   refine W.now ?_
   refine Then.n ?_
   refine WP.seq ?_
   refine WP.seq ?_
   refine WP.region ?_
   refine WPL.q (q_mv (v := .lit _) rfl) rfl ?_
   refine WPL.q (q_eqlp_nil Try.underlying24 rfl) rfl ?_
   refine WPL.q (q_mv (v := .lit (.bool _)) rfl) rfl ?_
   refine WPL.skipg (b' := true) rfl rfl rfl rfl rfl (.inl trivial) ?_
   refine WPL.skipg (b' := true) rfl rfl rfl rfl rfl (.inl trivial) ?_
   refine WPL.q (q_pickT (v := .lit (.bool _)) rfl rfl) rfl ?_
   refine WPL.nilW ?_
   refine W.now ?_
   refine Then.n ?_
   refine WP.condT rfl ?_
   refine WP.seq ?_
   refine WP.region ?_
   refine WPL.q (q_as (v := .lit (.bool _)) rfl) rfl ?_
   refine WPL.nilW ?_
   refine W.now ?_
   refine Then.n ?_
   refine WP.retW ?_
   have q0 := (Prod.mk.inj (Option.some.inj H)).1
   have q1 := (Prod.mk.inj (Option.some.inj H)).2
   subst q0
   subst q1
   exact W.now (Then.r (BodyR.mkR trivial rfl [] ⟨rfl, rfl⟩ ⟨rfl, trivial, by decide, rfl, trivial, rfl⟩ rfl rfl))
 refine WPL.c (runs_call (s := []) (t := [0, 1, 2, 3, 4]) (N := 5) (bor := []) fn5 rfl (s_simfs_New k 100 (Sum.inr ()) h5228) ⟨rfl, trivial, by decide, rfl, trivial, rfl⟩ rfl trivial (.ren rfl rfl .nil) rfl ⟨⟨⟨⟨⟨trivial, rfl⟩, rfl⟩, rfl⟩, rfl⟩, rfl⟩ rfl) rfl ?_
 refine WPL.q (q_mv (v := .tup _) rfl) rfl ?_
 refine WPL.q (q_extract rfl rfl) rfl ?_
 refine WPL.q (q_extract rfl rfl) rfl ?_
 refine WPL.q (q_as (v := .ptr _ _) rfl) rfl ?_
 refine WPL.q (q_as (v := .lit (.int _ _)) rfl) rfl ?_
 refine WPL.nilW ?_
 refine W.now ?_
 refine Then.n ?_
 refine WP.seq ?_
 refine WP.seq ?_
 refine WP.region ?_
 refine WPL.q (q_mv (v := .ptr _ _) rfl) rfl ?_
 refine WPL.q (q_eqlp Try.underlying24 rfl) rfl ?_
 refine WPL.q (q_mv (v := .lit (.bool _)) rfl) rfl ?_
 refine WPL.qg rfl rfl rfl (q_mv (v := .lit (.int _ _)) rfl) rfl ?_
 refine WPL.qg rfl rfl rfl (q_neq rfl rfl) rfl ?_
 refine WPL.q (q_pickF (v := .lit (.bool _)) rfl rfl) rfl ?_
 refine WPL.nilW ?_
 refine W.now ?_
 refine Then.n ?_
 refine WP.condF rfl ?_
 refine WP.skipW ?_
 refine W.now ?_
 refine Then.n ?_
 refine WP.seq ?_
 refine WP.region ?_
 refine WPL.q (q_mv (v := .ptr _ _) rfl) rfl ?_
 refine WPL.d (d_buildSlice (ds := ([120] : List Int)) (R := (Rd.int .u8)) li22 rfl rfl rfl rfl rfl (JoinRows.cons1 Joins.sc rfl JoinRows.nil) rfl rfl) rfl ?_
 refine WPL.d (d_bytesConst Try.underlying22 Try.underlying5 rfl rfl rfl) rfl ?_
 obtain ⟨y5246, h5230, H⟩ := bnd H
 rcases y5246 with ⟨x5232, x5233, x5234, x5235, x5236, x5237, x5238⟩ | ⟨x5239, x5240, x5241, x5242, x5243, x5244, x5245⟩
 · refine WPL.cv (Cv.frzRow (i := 5) rfl rfl hnp rfl rfl) ?_
   refine WPL.c (runs_call (s := [0, 2, 3, 1, 4]) (t := [0, 2, 3, 6, 7]) (N := 8) (bor := []) fn6 rfl (s_store_Save k (ByteArray.mk #[98]) ([120] : List Int) 100 ([] : List (Int × Int)) 0 false ([] : List (ByteArray × (Option Nat))) ([] : List (ByteArray × (Option Nat))) ([] : List (Option Nat)) ([] : List S_simfs_entry) x24 (Sum.inl (x5232, x5233, x5234, x5235, x5236, x5237, x5238)) h5230) ⟨rfl, ⟨⟨⟨⟨⟨trivial, .inr ⟨rfl, rfl, rfl⟩⟩, .inr ⟨rfl, rfl, rfl⟩⟩, .inr ⟨rfl, rfl, rfl⟩⟩, .inr ⟨rfl, rfl, rfl⟩⟩, .inr ⟨rfl, rfl, rfl⟩⟩, by decide, rfl, trivial, rfl⟩ rfl trivial (.ren rfl rfl (.ren rfl rfl (.ren rfl rfl .nil))) rfl ⟨⟨⟨⟨⟨trivial, rfl⟩, rfl⟩, rfl⟩, rfl⟩, rfl⟩ rfl) rfl ?_
   refine WPL.q (q_as (v := .lit (.int _ _)) rfl) rfl ?_
   refine WPL.nilW ?_
   refine W.now ?_
   refine Then.n ?_
   refine WP.seq ?_
   refine WP.region ?_
   refine WPL.q (q_mv (v := .ptr _ _) rfl) rfl ?_
   obtain ⟨_, h5246, H⟩ := bnd H
   refine WPL.c (runs_call (s := [0, 2, 3, 6, 7]) (t := [0, 2, 3, 8, 9]) (N := 10) (bor := []) fn9 rfl (s_simfs_Disk_Steps k 100 ([] : List (Int × Int)) x5233 x5234 x5235 ([] : List (ByteArray × (Option Nat))) x5236 x5237 h5246) ⟨rfl, ⟨⟨⟨⟨⟨trivial, .inr ⟨rfl, rfl, rfl⟩⟩, .inr ⟨rfl, rfl, rfl⟩⟩, .inr ⟨rfl, rfl, rfl⟩⟩, .inr ⟨rfl, rfl, rfl⟩⟩, .inr ⟨rfl, rfl, rfl⟩⟩, by decide, rfl, trivial, rfl⟩ rfl trivial (.ren rfl rfl .nil) rfl ⟨⟨⟨⟨⟨trivial, rfl⟩, rfl⟩, rfl⟩, rfl⟩, rfl⟩ rfl) rfl ?_
   refine WPL.q (q_as (v := .lit (.int _ _)) rfl) rfl ?_
   refine WPL.nilW ?_
   refine W.now ?_
   refine Then.n ?_
   refine WP.seq ?_
   refine WP.region ?_
   refine WPL.q (q_mv (v := .ptr _ _) rfl) rfl ?_
   obtain ⟨⟨x5249, x5250, x5251⟩, h5247, H⟩ := bnd H
   refine WPL.c (runs_call (s := [0, 2, 3, 8, 9]) (t := [0, 2, 3, 10, 11, 12]) (N := 13) (bor := []) fn10 rfl (s_simfs_Disk_Boot k 0 ([] : List Int) 100 ([] : List (Int × Int)) x5233 x5234 x5235 ([] : List (ByteArray × (Option Nat))) x5236 x5237 x5238 x5249 x5250 x5251 h5247) ⟨rfl, ⟨⟨⟨⟨⟨trivial, .inr ⟨rfl, rfl, rfl⟩⟩, .inr ⟨rfl, rfl, rfl⟩⟩, .inr ⟨rfl, rfl, rfl⟩⟩, .inr ⟨rfl, rfl, rfl⟩⟩, .inr ⟨rfl, rfl, rfl⟩⟩, by decide, rfl, trivial, rfl⟩ rfl trivial (.ren rfl rfl (.ren rfl rfl (.nilSlice .nil))) rfl ⟨⟨⟨⟨⟨⟨trivial, rfl⟩, rfl⟩, rfl⟩, rfl⟩, rfl⟩, rfl⟩ rfl) rfl ?_
   refine WPL.nilW ?_
   refine W.now ?_
   refine Then.n ?_
   refine WP.seq ?_
   refine WP.region ?_
   refine WPL.q (q_mv (v := .ptr _ _) rfl) rfl ?_
   obtain ⟨⟨x5253, x5254, x5255, x5256⟩, h5251, H⟩ := bnd H
   refine WPL.c (runs_call (s := [0, 11, 3, 10, 12]) (t := [0, 11, 3, 13, 14]) (N := 15) (bor := []) fn7 rfl (s_store_Load k (ByteArray.mk #[98]) 100 ([] : List (Int × Int)) x5233 false x5250 x5249 x5236 ([] : List S_simfs_entry) x5251 x5253 x5254 x5255 x5256 h5251) ⟨rfl, ⟨⟨⟨⟨⟨trivial, .inr ⟨rfl, rfl, rfl⟩⟩, .inr ⟨rfl, rfl, rfl⟩⟩, .inr ⟨rfl, rfl, rfl⟩⟩, .inr ⟨rfl, rfl, rfl⟩⟩, .inr ⟨rfl, rfl, rfl⟩⟩, by decide, rfl, trivial, rfl⟩ rfl trivial (.ren rfl rfl (.ren rfl rfl .nil)) rfl ⟨⟨⟨⟨⟨trivial, rfl⟩, rfl⟩, rfl⟩, rfl⟩, rfl⟩ rfl) rfl ?_
   refine WPL.q (q_mv (v := .tup _) rfl) rfl ?_
   refine WPL.q (q_extract rfl rfl) rfl ?_
   refine WPL.q (q_extract rfl rfl) rfl ?_
   refine WPL.q (q_as (v := .ro _ _ _) rfl) rfl ?_
   refine WPL.q (q_as (v := .lit (.int _ _)) rfl) rfl ?_
   refine WPL.nilW ?_
   refine W.now ?_
   refine Then.n ?_
   refine WP.seq ?_
   obtain ⟨x5264, H5271, H⟩ := bnd H
   refine WP.monoW (Q := fun x E M => x = .normal ∧ E = (Env.none.upd 0 (.lit (.bool x5264))) ∧ M = (Mem.nil.withP 54 rdS_simfs_file x5251)) ?_ ?_
   · clear H
     have H := H5271
     clear H5271
     refine WP.region ?_
     refine WPL.q (q_mv (v := .lit (.int _ _)) rfl) rfl ?_
     refine WPL.q (q_eql rfl rfl) rfl ?_
     refine WPL.q (q_mv (v := .lit (.bool _)) rfl) rfl ?_
     refine WPL.split (t := 32) (b := (decide (x5232 = 0))) rfl (fun hb5264 => ?_) (fun hb5264 => ?_)
     · replace H := cnt hb5264 H
       refine WPL.qg rfl rfl (lb hb5264) (q_mv (v := .lit (.int _ _)) rfl) rfl ?_
       refine WPL.qg rfl rfl (lb hb5264) (q_eql rfl rfl) rfl ?_
       refine WPL.q (q_pickT (v := .lit (.bool _)) (lb hb5264) rfl) rfl ?_
       refine WPL.q (q_mv (v := .lit (.bool _)) rfl) rfl ?_
       refine WPL.split (t := 36) (b := (decide (x5233 = 5))) rfl (fun hb5265 => ?_) (fun hb5265 => ?_)
       · replace H := cnt hb5265 H
         refine WPL.qg rfl rfl (lb hb5265) (q_mv (v := .lit (.int _ _)) rfl) rfl ?_
         refine WPL.qg rfl rfl (lb hb5265) (q_eql rfl rfl) rfl ?_
         refine WPL.q (q_pickT (v := .lit (.bool _)) (lb hb5265) rfl) rfl ?_
         refine WPL.q (q_mv (v := .lit (.bool _)) rfl) rfl ?_
         refine WPL.split (t := 40) (b := (decide (x5254 = 0))) rfl (fun hb5266 => ?_) (fun hb5266 => ?_)
         · replace H := cnt hb5266 H
           refine WPL.qg rfl rfl (lb hb5266) (q_mv (v := .ro _ _ _) rfl) rfl ?_
           refine WPL.qg rfl rfl (lb hb5266) (q_bytes_str Try.underlying22 Try.underlying5 Try.underlying9 rfl) rfl ?_
           obtain ⟨x5268, h5268, H⟩ := bnd H
           refine WPL.qg rfl rfl (lb hb5266) (q_nm (q_eqls rfl rfl) (nm_bool h5268)) rfl ?_
           refine WPL.q (q_pickT (v := .lit (.bool _)) (lb hb5266) rfl) rfl ?_
           refine WPL.q (q_mv (v := .lit (.bool _)) rfl) rfl ?_
           refine WPL.split (t := 45) (b := x5268) rfl (fun hb5268 => ?_) (fun hb5268 => ?_)
           · replace H := cnt hb5268 H
             obtain ⟨_, h5269, H⟩ := bnd H
             refine WPL.cg rfl rfl (lb hb5268) (runs_call (s := []) (t := []) (N := 15) (bor := []) fn11 rfl (s_store_Temp k (ByteArray.mk #[98]) h5269) ⟨rfl, trivial, by decide, rfl, trivial, rfl⟩ rfl trivial (.ren rfl rfl .nil) rfl trivial rfl) rfl ?_
             obtain ⟨x5271, h5271, H⟩ := bnd H
             refine WPL.qg rfl rfl (lb hb5268) (q_nm (q_eqls rfl rfl) (nm_bool h5271)) rfl ?_
             refine WPL.q (q_pickT (v := .lit (.bool _)) (lb hb5268) rfl) rfl ?_
             refine WPL.q (q_as (v := .lit (.bool _)) rfl) rfl ?_
             refine WPL.nilW ?_
             have q0 := (Option.some.inj H)
             subst q0
             exact W.wk [] hnp ⟨rfl, rfl, rfl⟩ ⟨rfl, trivial, by decide, rfl, trivial, rfl⟩ (LeE.upd rfl rfl (LeE.none rfl rfl)) rfl
           replace H := cnf hb5268 H
           refine WPL.skipg (b' := false) rfl rfl (lb hb5268) rfl rfl (.inl (by simp only [SkipOk]; kernel_rfl)) ?_
           refine WPL.skipg (b' := false) rfl rfl (lb hb5268) rfl rfl (.inl trivial) ?_
           refine WPL.q (q_pickF (v := .lit (.bool _)) (lb hb5268) rfl) rfl ?_
           refine WPL.q (q_as (v := .lit (.bool _)) rfl) rfl ?_
           refine WPL.nilW ?_
           have q0 := (Option.some.inj H)
           subst q0
           exact W.wk [] hnp ⟨rfl, rfl, rfl⟩ ⟨rfl, trivial, by decide, rfl, trivial, rfl⟩ (LeE.upd rfl rfl (LeE.none rfl rfl)) rfl
         replace H := cnf hb5266 H
         refine WPL.skipg (b' := false) rfl rfl (lb hb5266) rfl rfl (.inl trivial) ?_
         refine WPL.skipg (b' := false) rfl rfl (lb hb5266) rfl rfl (.inl trivial) ?_
         refine WPL.skipg (b' := false) rfl rfl (lb hb5266) rfl rfl (.inl trivial) ?_
         refine WPL.q (q_pickF (v := .lit (.bool _)) (lb hb5266) rfl) rfl ?_
         refine WPL.q (q_mv (v := .lit (.bool _)) rfl) rfl ?_
         refine WPL.skipg (b' := false) rfl rfl rfl rfl rfl (.inl (by simp only [SkipOk]; kernel_rfl)) ?_
         refine WPL.skipg (b' := false) rfl rfl rfl rfl rfl (.inl trivial) ?_
         refine WPL.q (q_pickF (v := .lit (.bool _)) rfl rfl) rfl ?_
         refine WPL.q (q_as (v := .lit (.bool _)) rfl) rfl ?_
         refine WPL.nilW ?_
         have q0 := (Option.some.inj H)
         subst q0
         exact W.wk [] hnp ⟨rfl, rfl, rfl⟩ ⟨rfl, trivial, by decide, rfl, trivial, rfl⟩ (LeE.upd rfl rfl (LeE.none rfl rfl)) rfl
       replace H := cnf hb5265 H
       refine WPL.skipg (b' := false) rfl rfl (lb hb5265) rfl rfl (.inl trivial) ?_
       refine WPL.skipg (b' := false) rfl rfl (lb hb5265) rfl rfl (.inl trivial) ?_
       refine WPL.q (q_pickF (v := .lit (.bool _)) (lb hb5265) rfl) rfl ?_
       refine WPL.q (q_mv (v := .lit (.bool _)) rfl) rfl ?_
       refine WPL.skipg (b' := false) rfl rfl rfl rfl rfl (.inl trivial) ?_
       refine WPL.skipg (b' := false) rfl rfl rfl rfl rfl (.inl trivial) ?_
       refine WPL.skipg (b' := false) rfl rfl rfl rfl rfl (.inl trivial) ?_
       refine WPL.q (q_pickF (v := .lit (.bool _)) rfl rfl) rfl ?_
       refine WPL.q (q_mv (v := .lit (.bool _)) rfl) rfl ?_
       refine WPL.skipg (b' := false) rfl rfl rfl rfl rfl (.inl (by simp only [SkipOk]; kernel_rfl)) ?_
       refine WPL.skipg (b' := false) rfl rfl rfl rfl rfl (.inl trivial) ?_
       refine WPL.q (q_pickF (v := .lit (.bool _)) rfl rfl) rfl ?_
       refine WPL.q (q_as (v := .lit (.bool _)) rfl) rfl ?_
       refine WPL.nilW ?_
       have q0 := (Option.some.inj H)
       subst q0
       exact W.wk [] hnp ⟨rfl, rfl, rfl⟩ ⟨rfl, trivial, by decide, rfl, trivial, rfl⟩ (LeE.upd rfl rfl (LeE.none rfl rfl)) rfl
     replace H := cnf hb5264 H
     refine WPL.skipg (b' := false) rfl rfl (lb hb5264) rfl rfl (.inl trivial) ?_
     refine WPL.skipg (b' := false) rfl rfl (lb hb5264) rfl rfl (.inl trivial) ?_
     refine WPL.q (q_pickF (v := .lit (.bool _)) (lb hb5264) rfl) rfl ?_
     refine WPL.q (q_mv (v := .lit (.bool _)) rfl) rfl ?_
     refine WPL.skipg (b' := false) rfl rfl rfl rfl rfl (.inl trivial) ?_
     refine WPL.skipg (b' := false) rfl rfl rfl rfl rfl (.inl trivial) ?_
     refine WPL.q (q_pickF (v := .lit (.bool _)) rfl rfl) rfl ?_
     refine WPL.q (q_mv (v := .lit (.bool _)) rfl) rfl ?_
     refine WPL.skipg (b' := false) rfl rfl rfl rfl rfl (.inl trivial) ?_
     refine WPL.skipg (b' := false) rfl rfl rfl rfl rfl (.inl trivial) ?_
     refine WPL.skipg (b' := false) rfl rfl rfl rfl rfl (.inl trivial) ?_
     refine WPL.q (q_pickF (v := .lit (.bool _)) rfl rfl) rfl ?_
     refine WPL.q (q_mv (v := .lit (.bool _)) rfl) rfl ?_
     refine WPL.skipg (b' := false) rfl rfl rfl rfl rfl (.inl (by simp only [SkipOk]; kernel_rfl)) ?_
     refine WPL.skipg (b' := false) rfl rfl rfl rfl rfl (.inl trivial) ?_
     refine WPL.q (q_pickF (v := .lit (.bool _)) rfl rfl) rfl ?_
     refine WPL.q (q_as (v := .lit (.bool _)) rfl) rfl ?_
     refine WPL.nilW ?_
     have q0 := (Option.some.inj H)
     subst q0
     exact W.wk [] hnp ⟨rfl, rfl, rfl⟩ ⟨rfl, trivial, by decide, rfl, trivial, rfl⟩ (LeE.upd rfl rfl (LeE.none rfl rfl)) rfl
   rintro _ _ _ ⟨rfl, rfl, rfl⟩
   refine W.now ?_
   refine Then.n ?_
   refine WP.retW ?_
   have q0 := (Prod.mk.inj (Option.some.inj H)).1
   have q1 := (Prod.mk.inj (Option.some.inj H)).2
   subst q0
   subst q1
   exact W.now (BodyR.mkR trivial rfl [] ⟨rfl, rfl⟩ ⟨rfl, trivial, by decide, rfl, trivial, rfl⟩ rfl rfl)
 refine WPL.cv (Cv.frzRow (i := 5) rfl rfl hnp rfl rfl) ?_
 refine WPL.c (runs_call (s := [0, 2, 3, 1, 4]) (t := [0, 2, 3, 6, 7, 8]) (N := 9) (bor := []) fn6 rfl (s_store_Save k (ByteArray.mk #[98]) ([120] : List Int) 100 ([] : List (Int × Int)) 0 false ([] : List (ByteArray × (Option Nat))) ([] : List (ByteArray × (Option Nat))) ([] : List (Option Nat)) ([] : List S_simfs_entry) x24 (Sum.inr (x5239, x5240, x5241, x5242, x5243, x5244, x5245)) h5230) ⟨rfl, ⟨⟨⟨⟨⟨trivial, .inr ⟨rfl, rfl, rfl⟩⟩, .inr ⟨rfl, rfl, rfl⟩⟩, .inr ⟨rfl, rfl, rfl⟩⟩, .inr ⟨rfl, rfl, rfl⟩⟩, .inr ⟨rfl, rfl, rfl⟩⟩, by decide, rfl, trivial, rfl⟩ rfl trivial (.ren rfl rfl (.ren rfl rfl (.ren rfl rfl .nil))) rfl ⟨⟨⟨⟨⟨⟨trivial, rfl⟩, rfl⟩, rfl⟩, rfl⟩, rfl⟩, rfl⟩ rfl) rfl ?_
 refine WPL.q (q_as (v := .lit (.int _ _)) rfl) rfl ?_
 refine WPL.nilW ?_
 refine W.now ?_
 refine Then.n ?_
 refine WP.seq ?_
 refine WP.region ?_
 refine WPL.q (q_mv (v := .ptr _ _) rfl) rfl ?_
 obtain ⟨_, h5272, H⟩ := bnd H
 refine WPL.c (runs_call (s := [0, 2, 7, 6, 8]) (t := [0, 2, 7, 9, 10]) (N := 11) (bor := []) fn9 rfl (s_simfs_Disk_Steps k 100 ([] : List (Int × Int)) x5240 x5241 x5242 x5244 x5243 ([] : List S_simfs_entry) h5272) ⟨rfl, ⟨⟨⟨⟨⟨trivial, .inr ⟨rfl, rfl, rfl⟩⟩, .inr ⟨rfl, rfl, rfl⟩⟩, .inr ⟨rfl, rfl, rfl⟩⟩, .inr ⟨rfl, rfl, rfl⟩⟩, .inr ⟨rfl, rfl, rfl⟩⟩, by decide, rfl, trivial, rfl⟩ rfl trivial (.ren rfl rfl .nil) rfl ⟨⟨⟨⟨⟨trivial, rfl⟩, rfl⟩, rfl⟩, rfl⟩, rfl⟩ rfl) rfl ?_
 refine WPL.q (q_as (v := .lit (.int _ _)) rfl) rfl ?_
 refine WPL.nilW ?_
 refine W.now ?_
 refine Then.n ?_
 refine WP.seq ?_
 refine WP.region ?_
 refine WPL.q (q_mv (v := .ptr _ _) rfl) rfl ?_
 obtain ⟨⟨x5275, x5276, x5277⟩, h5273, H⟩ := bnd H
 refine WPL.c (runs_call (s := [0, 2, 7, 9, 10]) (t := [0, 2, 7, 11, 12, 13]) (N := 14) (bor := []) fn10 rfl (s_simfs_Disk_Boot k 0 ([] : List Int) 100 ([] : List (Int × Int)) x5240 x5241 x5242 x5244 x5243 ([] : List S_simfs_entry) x5245 x5275 x5276 x5277 h5273) ⟨rfl, ⟨⟨⟨⟨⟨trivial, .inr ⟨rfl, rfl, rfl⟩⟩, .inr ⟨rfl, rfl, rfl⟩⟩, .inr ⟨rfl, rfl, rfl⟩⟩, .inr ⟨rfl, rfl, rfl⟩⟩, .inr ⟨rfl, rfl, rfl⟩⟩, by decide, rfl, trivial, rfl⟩ rfl trivial (.ren rfl rfl (.ren rfl rfl (.nilSlice .nil))) rfl ⟨⟨⟨⟨⟨⟨trivial, rfl⟩, rfl⟩, rfl⟩, rfl⟩, rfl⟩, rfl⟩ rfl) rfl ?_
 refine WPL.nilW ?_
 refine W.now ?_
 refine Then.n ?_
 refine WP.seq ?_
 refine WP.region ?_
 refine WPL.q (q_mv (v := .ptr _ _) rfl) rfl ?_
 obtain ⟨⟨x5279, x5280, x5281, x5282⟩, h5277, H⟩ := bnd H
 refine WPL.c (runs_call (s := [0, 12, 7, 11, 13]) (t := [0, 12, 7, 14, 15]) (N := 16) (bor := []) fn7 rfl (s_store_Load k (ByteArray.mk #[98]) 100 ([] : List (Int × Int)) x5240 false x5276 x5275 x5243 ([] : List S_simfs_entry) x5277 x5279 x5280 x5281 x5282 h5277) ⟨rfl, ⟨⟨⟨⟨⟨trivial, .inr ⟨rfl, rfl, rfl⟩⟩, .inr ⟨rfl, rfl, rfl⟩⟩, .inr ⟨rfl, rfl, rfl⟩⟩, .inr ⟨rfl, rfl, rfl⟩⟩, .inr ⟨rfl, rfl, rfl⟩⟩, by decide, rfl, trivial, rfl⟩ rfl trivial (.ren rfl rfl (.ren rfl rfl .nil)) rfl ⟨⟨⟨⟨⟨trivial, rfl⟩, rfl⟩, rfl⟩, rfl⟩, rfl⟩ rfl) rfl ?_
 refine WPL.q (q_mv (v := .tup _) rfl) rfl ?_
 refine WPL.q (q_extract rfl rfl) rfl ?_
 refine WPL.q (q_extract rfl rfl) rfl ?_
 refine WPL.q (q_as (v := .ro _ _ _) rfl) rfl ?_
 refine WPL.q (q_as (v := .lit (.int _ _)) rfl) rfl ?_
 refine WPL.nilW ?_
 refine W.now ?_
 refine Then.n ?_
 refine WP.seq ?_
 obtain ⟨x5290, H5297, H⟩ := bnd H
 refine WP.monoW (Q := fun x E M => x = .normal ∧ E = (Env.none.upd 0 (.lit (.bool x5290))) ∧ M = (Mem.nil.withP 54 rdS_simfs_file x5277)) ?_ ?_
 · clear H
   have H := H5297
   clear H5297
   refine WP.region ?_
   refine WPL.q (q_mv (v := .lit (.int _ _)) rfl) rfl ?_
   refine WPL.q (q_eql rfl rfl) rfl ?_
   refine WPL.q (q_mv (v := .lit (.bool _)) rfl) rfl ?_
   refine WPL.split (t := 32) (b := (decide (x5239 = 0))) rfl (fun hb5290 => ?_) (fun hb5290 => ?_)
   · replace H := cnt hb5290 H
     refine WPL.qg rfl rfl (lb hb5290) (q_mv (v := .lit (.int _ _)) rfl) rfl ?_
     refine WPL.qg rfl rfl (lb hb5290) (q_eql rfl rfl) rfl ?_
     refine WPL.q (q_pickT (v := .lit (.bool _)) (lb hb5290) rfl) rfl ?_
     refine WPL.q (q_mv (v := .lit (.bool _)) rfl) rfl ?_
     refine WPL.split (t := 36) (b := (decide (x5240 = 5))) rfl (fun hb5291 => ?_) (fun hb5291 => ?_)
     · replace H := cnt hb5291 H
       refine WPL.qg rfl rfl (lb hb5291) (q_mv (v := .lit (.int _ _)) rfl) rfl ?_
       refine WPL.qg rfl rfl (lb hb5291) (q_eql rfl rfl) rfl ?_
       refine WPL.q (q_pickT (v := .lit (.bool _)) (lb hb5291) rfl) rfl ?_
       refine WPL.q (q_mv (v := .lit (.bool _)) rfl) rfl ?_
       refine WPL.split (t := 40) (b := (decide (x5280 = 0))) rfl (fun hb5292 => ?_) (fun hb5292 => ?_)
       · replace H := cnt hb5292 H
         refine WPL.qg rfl rfl (lb hb5292) (q_mv (v := .ro _ _ _) rfl) rfl ?_
         refine WPL.qg rfl rfl (lb hb5292) (q_bytes_str Try.underlying22 Try.underlying5 Try.underlying9 rfl) rfl ?_
         obtain ⟨x5294, h5294, H⟩ := bnd H
         refine WPL.qg rfl rfl (lb hb5292) (q_nm (q_eqls rfl rfl) (nm_bool h5294)) rfl ?_
         refine WPL.q (q_pickT (v := .lit (.bool _)) (lb hb5292) rfl) rfl ?_
         refine WPL.q (q_mv (v := .lit (.bool _)) rfl) rfl ?_
         refine WPL.split (t := 45) (b := x5294) rfl (fun hb5294 => ?_) (fun hb5294 => ?_)
         · replace H := cnt hb5294 H
           obtain ⟨_, h5295, H⟩ := bnd H
           refine WPL.cg rfl rfl (lb hb5294) (runs_call (s := []) (t := []) (N := 16) (bor := []) fn11 rfl (s_store_Temp k (ByteArray.mk #[98]) h5295) ⟨rfl, trivial, by decide, rfl, trivial, rfl⟩ rfl trivial (.ren rfl rfl .nil) rfl trivial rfl) rfl ?_
           obtain ⟨x5297, h5297, H⟩ := bnd H
           refine WPL.qg rfl rfl (lb hb5294) (q_nm (q_eqls rfl rfl) (nm_bool h5297)) rfl ?_
           refine WPL.q (q_pickT (v := .lit (.bool _)) (lb hb5294) rfl) rfl ?_
           refine WPL.q (q_as (v := .lit (.bool _)) rfl) rfl ?_
           refine WPL.nilW ?_
           have q0 := (Option.some.inj H)
           subst q0
           exact W.wk [] hnp ⟨rfl, rfl, rfl⟩ ⟨rfl, trivial, by decide, rfl, trivial, rfl⟩ (LeE.upd rfl rfl (LeE.none rfl rfl)) rfl
         replace H := cnf hb5294 H
         refine WPL.skipg (b' := false) rfl rfl (lb hb5294) rfl rfl (.inl (by simp only [SkipOk]; kernel_rfl)) ?_
         refine WPL.skipg (b' := false) rfl rfl (lb hb5294) rfl rfl (.inl trivial) ?_
         refine WPL.q (q_pickF (v := .lit (.bool _)) (lb hb5294) rfl) rfl ?_
         refine WPL.q (q_as (v := .lit (.bool _)) rfl) rfl ?_
         refine WPL.nilW ?_
         have q0 := (Option.some.inj H)
         subst q0
         exact W.wk [] hnp ⟨rfl, rfl, rfl⟩ ⟨rfl, trivial, by decide, rfl, trivial, rfl⟩ (LeE.upd rfl rfl (LeE.none rfl rfl)) rfl
       replace H := cnf hb5292 H
       refine WPL.skipg (b' := false) rfl rfl (lb hb5292) rfl rfl (.inl trivial) ?_
       refine WPL.skipg (b' := false) rfl rfl (lb hb5292) rfl rfl (.inl trivial) ?_
       refine WPL.skipg (b' := false) rfl rfl (lb hb5292) rfl rfl (.inl trivial) ?_
       refine WPL.q (q_pickF (v := .lit (.bool _)) (lb hb5292) rfl) rfl ?_
       refine WPL.q (q_mv (v := .lit (.bool _)) rfl) rfl ?_
       refine WPL.skipg (b' := false) rfl rfl rfl rfl rfl (.inl (by simp only [SkipOk]; kernel_rfl)) ?_
       refine WPL.skipg (b' := false) rfl rfl rfl rfl rfl (.inl trivial) ?_
       refine WPL.q (q_pickF (v := .lit (.bool _)) rfl rfl) rfl ?_
       refine WPL.q (q_as (v := .lit (.bool _)) rfl) rfl ?_
       refine WPL.nilW ?_
       have q0 := (Option.some.inj H)
       subst q0
       exact W.wk [] hnp ⟨rfl, rfl, rfl⟩ ⟨rfl, trivial, by decide, rfl, trivial, rfl⟩ (LeE.upd rfl rfl (LeE.none rfl rfl)) rfl
     replace H := cnf hb5291 H
     refine WPL.skipg (b' := false) rfl rfl (lb hb5291) rfl rfl (.inl trivial) ?_
     refine WPL.skipg (b' := false) rfl rfl (lb hb5291) rfl rfl (.inl trivial) ?_
     refine WPL.q (q_pickF (v := .lit (.bool _)) (lb hb5291) rfl) rfl ?_
     refine WPL.q (q_mv (v := .lit (.bool _)) rfl) rfl ?_
     refine WPL.skipg (b' := false) rfl rfl rfl rfl rfl (.inl trivial) ?_
     refine WPL.skipg (b' := false) rfl rfl rfl rfl rfl (.inl trivial) ?_
     refine WPL.skipg (b' := false) rfl rfl rfl rfl rfl (.inl trivial) ?_
     refine WPL.q (q_pickF (v := .lit (.bool _)) rfl rfl) rfl ?_
     refine WPL.q (q_mv (v := .lit (.bool _)) rfl) rfl ?_
     refine WPL.skipg (b' := false) rfl rfl rfl rfl rfl (.inl (by simp only [SkipOk]; kernel_rfl)) ?_
     refine WPL.skipg (b' := false) rfl rfl rfl rfl rfl (.inl trivial) ?_
     refine WPL.q (q_pickF (v := .lit (.bool _)) rfl rfl) rfl ?_
     refine WPL.q (q_as (v := .lit (.bool _)) rfl) rfl ?_
     refine WPL.nilW ?_
     have q0 := (Option.some.inj H)
     subst q0
     exact W.wk [] hnp ⟨rfl, rfl, rfl⟩ ⟨rfl, trivial, by decide, rfl, trivial, rfl⟩ (LeE.upd rfl rfl (LeE.none rfl rfl)) rfl
   replace H := cnf hb5290 H
   refine WPL.skipg (b' := false) rfl rfl (lb hb5290) rfl rfl (.inl trivial) ?_
   refine WPL.skipg (b' := false) rfl rfl (lb hb5290) rfl rfl (.inl trivial) ?_
   refine WPL.q (q_pickF (v := .lit (.bool _)) (lb hb5290) rfl) rfl ?_
   refine WPL.q (q_mv (v := .lit (.bool _)) rfl) rfl ?_
   refine WPL.skipg (b' := false) rfl rfl rfl rfl rfl (.inl trivial) ?_
   refine WPL.skipg (b' := false) rfl rfl rfl rfl rfl (.inl trivial) ?_
   refine WPL.q (q_pickF (v := .lit (.bool _)) rfl rfl) rfl ?_
   refine WPL.q (q_mv (v := .lit (.bool _)) rfl) rfl ?_
   refine WPL.skipg (b' := false) rfl rfl rfl rfl rfl (.inl trivial) ?_
   refine WPL.skipg (b' := false) rfl rfl rfl rfl rfl (.inl trivial) ?_
   refine WPL.skipg (b' := false) rfl rfl rfl rfl rfl (.inl trivial) ?_
   refine WPL.q (q_pickF (v := .lit (.bool _)) rfl rfl) rfl ?_
   refine WPL.q (q_mv (v := .lit (.bool _)) rfl) rfl ?_
   refine WPL.skipg (b' := false) rfl rfl rfl rfl rfl (.inl (by simp only [SkipOk]; kernel_rfl)) ?_
   refine WPL.skipg (b' := false) rfl rfl rfl rfl rfl (.inl trivial) ?_
   refine WPL.q (q_pickF (v := .lit (.bool _)) rfl rfl) rfl ?_
   refine WPL.q (q_as (v := .lit (.bool _)) rfl) rfl ?_
   refine WPL.nilW ?_
   have q0 := (Option.some.inj H)
   subst q0
   exact W.wk [] hnp ⟨rfl, rfl, rfl⟩ ⟨rfl, trivial, by decide, rfl, trivial, rfl⟩ (LeE.upd rfl rfl (LeE.none rfl rfl)) rfl
 rintro _ _ _ ⟨rfl, rfl, rfl⟩
 refine W.now ?_
 refine Then.n ?_
 refine WP.retW ?_
 have q0 := (Prod.mk.inj (Option.some.inj H)).1
 have q1 := (Prod.mk.inj (Option.some.inj H)).2
 subst q0
 subst q1
 exact W.now (BodyR.mkR trivial rfl [] ⟨rfl, rfl⟩ ⟨rfl, trivial, by decide, rfl, trivial, rfl⟩ rfl rfl)
end Go.Proofs.Ytcaeafojgehamaa.W
