/- Texts joined: part 4 of what LDeflateParse stands on. -/
import Derived.Test.YtmmeanjjfhimjaaSDeflateParsec
namespace Go.Proofs.Ytmmeanjjfhimjaa.W
open Go Go.Q Go.Proofs
set_option linter.unusedVariables false
set_option linter.unusedSimpArgs false
set_option maxRecDepth 100000 in
set_option maxHeartbeats 4000000 in
theorem s_deflate_items (k : Nat) (x1307 : (List Int)) (H : g_deflate_items k x1307 = some ()) : Go.Q.Spec Try.prog 22 0 [.ro (Rd.slice (Rd.int .u8)) true x1307] Mem.nil (fun o M => o = .ret (.fn 50 [.ptr 0 0]) ∧ M = (Mem.nil.push (.cells 22 [.ro (Rd.slice (Rd.int .u8)) true x1307]))) := by
 unfold g_deflate_items at H
 refine Go.Q.Spec.of_bodyR (az := []) (rs := [.tmp 2]) (nt := 4) Try.func22 rfl rfl (by intro t T h; simp at h) rfl rfl fun cx hnp => ?_
 refine WP.seq ?_
 refine WP.region ?_
 refine WPL.d (d_box rfl rfl) rfl ?_
 refine WPL.q (q_as (v := .lit _) rfl) rfl ?_
 refine WPL.nilW ?_
 refine W.now ?_
 refine Then.n ?_
 refine WP.seq ?_
 refine WP.region ?_
 refine WPL.q (q_makeFunc) rfl ?_
 refine WPL.q (q_as (v := .fn _ _) rfl) rfl ?_
 refine WPL.nilW ?_
 refine W.now ?_
 refine Then.n ?_
 refine WP.retW ?_
 exact W.now (BodyR.mkR trivial rfl [0] ⟨rfl, rfl⟩ ⟨rfl, ⟨trivial, .inr ⟨rfl, rfl, rfl⟩⟩, by decide, rfl, trivial⟩ rfl rfl)
set_option maxRecDepth 100000 in
set_option maxHeartbeats 4000000 in
theorem s_deflate_matcher_learn (k : Nat) (x1339 : Int) (x1340 : (List Int)) (x1341 : Int) (x1342 : (List ((Int × Int × Int) × Int))) (x1343 : (List Int)) (x1460 : Int) (x1461 : (List ((Int × Int × Int) × Int))) (x1462 : (List Int)) (H : g_deflate_matcher_learn k x1339 x1340 x1341 x1342 x1343 = some (x1460, x1461, x1462)) : Go.Q.Spec Try.prog 77 2 [.ptr 0 0, .lit (.int .i64 x1339)] (((Mem.nil.push (.cells 97 [.ro (Rd.slice (Rd.int .u8)) true x1340, .mp 1, .whole 2, .lit (.int .i64 x1341)])).push (.obj (mapO fk3 (Value.int .i64) x1342))).push (.row 3 (Rd.int .i64) x1343)) (fun o M => o = .ret (.tup []) ∧ M = (((Mem.nil.push (.cells 97 [.ro (Rd.slice (Rd.int .u8)) true x1340, .mp 1, .whole 2, .lit (.int .i64 x1460)])).push (.obj (mapO fk3 (Value.int .i64) x1461))).push (.row 3 (Rd.int .i64) x1462))) := by
 unfold g_deflate_matcher_learn at H
 refine Go.Q.Spec.of_bodyR (az := []) (rs := []) (nt := 79) Try.func77 rfl rfl (by intro t T h; simp at h) rfl rfl fun cx hnp => ?_
 refine WP.block ?_
 refine WP.cv (Cv.weak (E' := ((Env.none.upd 0 (.ptr 0 0)).upd 1 (.lit (.int .i64 x1339)))) (M' := (((Mem.nil.push (.cells 97 [.ro (Rd.slice (Rd.int .u8)) true x1340, .mp 1, .whole 2, .lit (.int .i64 x1341)])).push (.obj (mapO fk3 (Value.int .i64) x1342))).push (.row 3 (Rd.int .i64) x1343))) [0, 1, 2] hnp ⟨rfl, ⟨⟨⟨trivial, .inr ⟨rfl, rfl, rfl⟩⟩, .inr ⟨rfl, rfl, rfl⟩⟩, .inr ⟨rfl, rfl, rfl⟩⟩, by decide, rfl, ⟨⟨trivial, rfl⟩, rfl⟩⟩ (LeE.upd rfl rfl (LeE.upd rfl rfl (LeE.none rfl rfl)))) ?_
 obtain ⟨⟨x1574, x1575, x1576⟩, H1630, H⟩ := bnd H
 refine WP.monoW (Q := fun x E M => x = .exit 0 ∧ E = Env.none ∧ M = (((Mem.nil.push (.cells 97 [.ro (Rd.slice (Rd.int .u8)) true x1340, .mp 1, .whole 2, .lit (.int .i64 x1574)])).push (.obj (mapO fk3 (Value.int .i64) x1575))).push (.row 3 (Rd.int .i64) x1576))) ?_ ?_
 · refine WP.loop (β := Int × (List ((Int × Int × Int) × Int)) × (List Int)) (fun n b => g_deflate_matcher_learn_l0 k x1339 x1340 n b.1 b.2.1 b.2.2 = some (x1574, x1575, x1576)) (fun b => ((Env.none.upd 0 (.ptr 0 0)).upd 1 (.lit (.int .i64 x1339)))) (fun b => (((Mem.nil.push (.cells 97 [.ro (Rd.slice (Rd.int .u8)) true x1340, .mp 1, .whole 2, .lit (.int .i64 b.1)])).push (.obj (mapO fk3 (Value.int .i64) b.2.1))).push (.row 3 (Rd.int .i64) b.2.2))) k (x1341, x1342, x1343) H1630 rfl rfl ?_
   rintro n ⟨x1517, x1518, x1519⟩ H
   obtain _ | n := n
   · exact nf rfl H
   rw [g_deflate_matcher_learn_l0.eq_2] at H
   show WP _ _ _ _ ((Env.none.upd 0 (.ptr 0 0)).upd 1 (.lit (.int .i64 x1339))) (((Mem.nil.push (.cells 97 [.ro (Rd.slice (Rd.int .u8)) true x1340, .mp 1, .whole 2, .lit (.int .i64 x1517)])).push (.obj (mapO fk3 (Value.int .i64) x1518))).push (.row 3 (Rd.int .i64) x1519)) _
   refine WP.seq ?_
   refine WP.seq ?_
   obtain ⟨x1592, H1596, H⟩ := bnd H
   refine WP.monoW (Q := fun x E M => x = .normal ∧ E = (((Env.none.upd 0 (.ptr 0 0)).upd 1 (.lit (.int .i64 x1339))).upd 25 (.lit (.bool x1592))) ∧ M = (((Mem.nil.push (.cells 97 [.ro (Rd.slice (Rd.int .u8)) true x1340, .mp 1, .whole 2, .lit (.int .i64 x1517)])).push (.obj (mapO fk3 (Value.int .i64) x1518))).push (.row 3 (Rd.int .i64) x1519))) ?_ ?_
   · clear H
     have H := H1596
     clear H1596
     refine WP.regionD' 19 [0] [] mixed rfl ?_
     refine WPD.takeT 0 rfl (by kernel_rfl) (q_mv (v := .ptr _ _) rfl) rfl ?_
     refine WPD.takeT 1 rfl (by kernel_rfl) (q_nilCheck rfl) rfl ?_
     refine WPD.takeT 2 rfl (by kernel_rfl) (q_fieldAddr fi97_3 rfl rfl) rfl ?_
     refine WPD.takeT 4 rfl (by kernel_rfl) (q_mv (v := .lit (.int _ _)) rfl) rfl ?_
     refine WPD.take 3 rfl (by kernel_rfl) (q_load sc3 rfl rfl rfl) rfl rfl ?_
     refine WPD.takeT 5 rfl (by kernel_rfl) (q_lss rfl rfl) rfl ?_
     refine WPD.takeT 6 rfl (by kernel_rfl) (q_mv (v := .lit (.bool _)) rfl) rfl ?_
     refine WPD.split (t := 13) (b := (decide (x1517 < x1339))) rfl (fun hb1594 => ?_) (fun hb1594 => ?_)
     · replace H := cnt hb1594 H
       refine WPD.takegT 7 rfl (by kernel_rfl) rfl rfl (lb hb1594) (q_mv (v := .ptr _ _) rfl) rfl ?_
       refine WPD.takegT 8 rfl (by kernel_rfl) rfl rfl (lb hb1594) (q_nilCheck rfl) rfl ?_
       refine WPD.takegT 9 rfl (by kernel_rfl) rfl rfl (lb hb1594) (q_fieldAddr fi97_3 rfl rfl) rfl ?_
       refine WPD.takegT 12 rfl (by kernel_rfl) rfl rfl (lb hb1594) (q_mv (v := .ptr _ _) rfl) rfl ?_
       refine WPD.takegT 13 rfl (by kernel_rfl) rfl rfl (lb hb1594) (q_nilCheck rfl) rfl ?_
       refine WPD.takegT 14 rfl (by kernel_rfl) rfl rfl (lb hb1594) (q_fieldAddr fi97_0 rfl rfl) rfl ?_
       refine WPD.takeg 10 rfl (by kernel_rfl) rfl rfl (lb hb1594) (q_load sc3 rfl rfl rfl) rfl rfl ?_
       refine WPD.takegT 11 rfl (by kernel_rfl) rfl rfl (lb hb1594) (q_add rfl rfl) rfl ?_
       refine WPD.takeg 15 rfl (by kernel_rfl) rfl rfl (lb hb1594) (q_load sc22 rfl rfl rfl) rfl rfl ?_
       refine WPD.takegT 16 rfl (by kernel_rfl) rfl rfl (lb hb1594) (q_len_ro sl22 rfl) rfl ?_
       obtain ⟨x1596, h1596, H⟩ := bnd H
       refine WPD.takegT 17 rfl (by kernel_rfl) rfl rfl (lb hb1594) (q_nm (q_leq rfl rfl) (nm_bool h1596)) rfl ?_
       refine WPD.takeT 18 rfl (by kernel_rfl) (q_pickT (v := .lit (.bool _)) (lb hb1594) rfl) rfl ?_
       refine WPD.doneW (by kernel_rfl) ?_
       have q0 := (Option.some.inj H)
       subst q0
       exact W.wk [0, 1, 2] hnp ⟨rfl, rfl, rfl⟩ ⟨rfl, ⟨⟨⟨trivial, .inr ⟨rfl, rfl, rfl⟩⟩, .inr ⟨rfl, rfl, rfl⟩⟩, .inr ⟨rfl, rfl, rfl⟩⟩, by decide, rfl, ⟨⟨trivial, rfl⟩, rfl⟩⟩ (LeE.upd rfl rfl (LeE.upd rfl rfl (LeE.upd rfl rfl (LeE.none rfl rfl)))) rfl
     replace H := cnf hb1594 H
     refine WPD.pass (b' := false) 7 rfl (by kernel_rfl) rfl rfl (lb hb1594) rfl rfl (.inl trivial) ?_
     refine WPD.pass (b' := false) 8 rfl (by kernel_rfl) rfl rfl (lb hb1594) rfl rfl (.inl trivial) ?_
     refine WPD.pass (b' := false) 9 rfl (by kernel_rfl) rfl rfl (lb hb1594) rfl rfl (.inl trivial) ?_
     refine WPD.pass (b' := false) 10 rfl (by kernel_rfl) rfl rfl (lb hb1594) rfl rfl (.inl trivial) ?_
     refine WPD.pass (b' := false) 11 rfl (by kernel_rfl) rfl rfl (lb hb1594) rfl rfl (.inl trivial) ?_
     refine WPD.pass (b' := false) 12 rfl (by kernel_rfl) rfl rfl (lb hb1594) rfl rfl (.inl trivial) ?_
     refine WPD.pass (b' := false) 13 rfl (by kernel_rfl) rfl rfl (lb hb1594) rfl rfl (.inl trivial) ?_
     refine WPD.pass (b' := false) 14 rfl (by kernel_rfl) rfl rfl (lb hb1594) rfl rfl (.inl trivial) ?_
     refine WPD.pass (b' := false) 15 rfl (by kernel_rfl) rfl rfl (lb hb1594) rfl rfl (.inl trivial) ?_
     refine WPD.pass (b' := false) 16 rfl (by kernel_rfl) rfl rfl (lb hb1594) rfl rfl (.inl trivial) ?_
     refine WPD.pass (b' := false) 17 rfl (by kernel_rfl) rfl rfl (lb hb1594) rfl rfl (.inl trivial) ?_
     refine WPD.takeT 18 rfl (by kernel_rfl) (q_pickF (v := .lit (.bool _)) (lb hb1594) rfl) rfl ?_
     refine WPD.doneW (by kernel_rfl) ?_
     have q0 := (Option.some.inj H)
     subst q0
     exact W.wk [0, 1, 2] hnp ⟨rfl, rfl, rfl⟩ ⟨rfl, ⟨⟨⟨trivial, .inr ⟨rfl, rfl, rfl⟩⟩, .inr ⟨rfl, rfl, rfl⟩⟩, .inr ⟨rfl, rfl, rfl⟩⟩, by decide, rfl, ⟨⟨trivial, rfl⟩, rfl⟩⟩ (LeE.upd rfl rfl (LeE.upd rfl rfl (LeE.upd rfl rfl (LeE.none rfl rfl)))) rfl
   rintro _ _ _ ⟨rfl, rfl, rfl⟩
   refine W.now ?_
   refine Then.n ?_
   refine WP.cond (t := x1592) rfl (fun hb1597 => ?_) (fun hb1597 => ?_)
   · replace H := cnt hb1597 H
     refine WP.skipW ?_
     refine W.now ?_
     refine Then.n ?_
     refine WP.seq ?_
     refine WP.block ?_
     refine WP.seq ?_
     refine WP.regionD' 18 [0] [] mixed rfl ?_
     refine WPD.takeT 0 rfl (by kernel_rfl) (q_mv (v := .ptr _ _) rfl) rfl ?_
     refine WPD.takeT 1 rfl (by kernel_rfl) (q_nilCheck rfl) rfl ?_
     refine WPD.takeT 2 rfl (by kernel_rfl) (q_fieldAddr fi97_0 rfl rfl) rfl ?_
     refine WPD.takeT 4 rfl (by kernel_rfl) (q_mv (v := .ptr _ _) rfl) rfl ?_
     refine WPD.takeT 5 rfl (by kernel_rfl) (q_nilCheck rfl) rfl ?_
     refine WPD.takeT 6 rfl (by kernel_rfl) (q_fieldAddr fi97_3 rfl rfl) rfl ?_
     refine WPD.takeT 8 rfl (by kernel_rfl) (q_mv (v := .ptr _ _) rfl) rfl ?_
     refine WPD.takeT 9 rfl (by kernel_rfl) (q_nilCheck rfl) rfl ?_
     refine WPD.takeT 10 rfl (by kernel_rfl) (q_fieldAddr fi97_3 rfl rfl) rfl ?_
     refine WPD.take 3 rfl (by kernel_rfl) (q_load sc22 rfl rfl rfl) rfl rfl ?_
     refine WPD.take 7 rfl (by kernel_rfl) (q_load sc3 rfl rfl rfl) rfl rfl ?_
     refine WPD.take 11 rfl (by kernel_rfl) (q_load sc3 rfl rfl rfl) rfl rfl ?_
     refine WPD.takeT 12 rfl (by kernel_rfl) (q_add rfl rfl) rfl ?_
     obtain ⟨h1616, H⟩ := grd H
     refine WPD.takeT 13 rfl (by kernel_rfl) (q_slice_ro (i := x1517) (j := (IntKind.wrap .i64 (x1517 + 3))) sl22 rfl rfl ⟨_, rfl⟩ ⟨_, rfl⟩ h1616) rfl ?_
     obtain ⟨h1617, H⟩ := grd H
     refine WPD.takeT 14 rfl (by kernel_rfl) (q_sliceToArr (n := 3) (0 : Int) ar136 rfl rfl h1617) rfl ?_
     refine WPD.takeT 15 rfl (by kernel_rfl) (q_load_roag ag136 rfl rfl Splits.arr) rfl ?_
     refine WPD.eff 16 [0] [] rfl (by kernel_rfl) (Does.runs (d_alloc ze136 rfl)) rfl rfl ?_
     refine WPD.effS 17 [0] [] rfl (by kernel_rfl) (s_store sz136 rfl rfl rfl rfl rfl) rfl ?_
     refine WPD.doneW (by kernel_rfl) ?_
     refine W.now ?_
     refine Then.n ?_
     refine WP.seq ?_
     refine WP.regionD' 11 [0, 1, 3] [] mixed rfl ?_
     refine WPD.takeT 0 rfl (by kernel_rfl) (q_mv (v := .ptr _ _) rfl) rfl ?_
     refine WPD.takeT 1 rfl (by kernel_rfl) (q_nilCheck rfl) rfl ?_
     refine WPD.takeT 2 rfl (by kernel_rfl) (q_fieldAddr fi97_1 rfl rfl) rfl ?_
     refine WPD.take 3 rfl (by kernel_rfl) (q_load sc95 rfl rfl rfl) rfl rfl ?_
     refine WPD.take 4 rfl (by kernel_rfl) (q_load_ag ag136 rfl rfl (Nat.le_of_ble_eq_true rfl)) rfl rfl ?_
     obtain ⟨x1623, h1623, H⟩ := bnd H
     refine WPD.take 5 rfl (by kernel_rfl) (q_lookupN (fk := fk3) (fv := (Value.int .i64)) (k := ((List.getD (List.drop (Int.toNat x1517) (List.take (Int.toNat (IntKind.wrap .i64 (x1517 + 3))) x1340)) 0 (0 : Int)), (List.getD (List.drop (Int.toNat x1517) (List.take (Int.toNat (IntKind.wrap .i64 (x1517 + 3))) x1340)) 1 (0 : Int)), (List.getD (List.drop (Int.toNat x1517) (List.take (Int.toNat (IntKind.wrap .i64 (x1517 + 3))) x1340)) 2 (0 : Int)))) (z := (0 : Int)) ko136 Try.underlying95 zv3 rfl rfl (key_agg [.int .u8 (List.getD (List.drop (Int.toNat x1517) (List.take (Int.toNat (IntKind.wrap .i64 (x1517 + 3))) x1340)) 0 (0 : Int)), .int .u8 (List.getD (List.drop (Int.toNat x1517) (List.take (Int.toNat (IntKind.wrap .i64 (x1517 + 3))) x1340)) 1 (0 : Int)), .int .u8 (List.getD (List.drop (Int.toNat x1517) (List.take (Int.toNat (IntKind.wrap .i64 (x1517 + 3))) x1340)) 2 (0 : Int))] rfl rfl) (some_inj h1623)) rfl rfl ?_
     refine WPD.takeT 6 rfl (by kernel_rfl) (q_mv (v := .tup _) rfl) rfl ?_
     refine WPD.takeT 7 rfl (by kernel_rfl) (q_extract rfl rfl) rfl ?_
     refine WPD.takeT 8 rfl (by kernel_rfl) (q_extract rfl rfl) rfl ?_
     refine WPD.takeT 9 rfl (by kernel_rfl) (q_as (v := .lit (.int _ _)) rfl) rfl ?_
     refine WPD.takeT 10 rfl (by kernel_rfl) (q_as (v := .lit (.bool _)) rfl) rfl ?_
     refine WPD.doneW (by kernel_rfl) ?_
     refine W.now ?_
     refine Then.n ?_
     refine WP.seq ?_
     obtain ⟨x1626, H1627, H⟩ := bnd H
     refine WP.monoW (Q := fun x E M => x = .normal ∧ E = ((((Env.none.upd 0 (.ptr 0 0)).upd 1 (.lit (.int .i64 x1339))).upd 4 (.ptr 3 0)).upd 5 (.lit (.int .i64 x1626))) ∧ M = ((((Mem.nil.push (.cells 97 [.ro (Rd.slice (Rd.int .u8)) true x1340, .mp 1, .whole 2, .lit (.int .i64 x1517)])).push (.obj (mapO fk3 (Value.int .i64) x1518))).push (.row 3 (Rd.int .i64) x1519)).push (.cells 136 [.lit (.int .u8 (List.getD (List.drop (Int.toNat x1517) (List.take (Int.toNat (IntKind.wrap .i64 (x1517 + 3))) x1340)) 0 (0 : Int))), .lit (.int .u8 (List.getD (List.drop (Int.toNat x1517) (List.take (Int.toNat (IntKind.wrap .i64 (x1517 + 3))) x1340)) 1 (0 : Int))), .lit (.int .u8 (List.getD (List.drop (Int.toNat x1517) (List.take (Int.toNat (IntKind.wrap .i64 (x1517 + 3))) x1340)) 2 (0 : Int)))]))) ?_ ?_
     · clear H
       have H := H1627
       clear H1627
       refine WP.seq ?_
       refine WP.region ?_
       refine WPL.q (q_mv (v := .lit (.bool _)) rfl) rfl ?_
       refine WPL.q (q_not rfl) rfl ?_
       refine WPL.nilW ?_
       refine W.now ?_
       refine Then.n ?_
       refine WP.cond (t := (!(Option.isSome x1623))) rfl (fun hb1626 => ?_) (fun hb1626 => ?_)
       · replace H := cnt hb1626 H
         refine WP.region ?_
         refine WPL.q (q_as (v := .lit (.int _ _)) rfl) rfl ?_
         refine WPL.nilW ?_
         have q0 := (Option.some.inj H)
         subst q0
         exact W.wk [0, 1, 2, 3] hnp ⟨rfl, rfl, rfl⟩ ⟨rfl, ⟨⟨⟨⟨trivial, .inr ⟨rfl, rfl, rfl⟩⟩, .inr ⟨rfl, rfl, rfl⟩⟩, .inr ⟨rfl, rfl, rfl⟩⟩, .inr ⟨rfl, rfl, rfl⟩⟩, by decide, rfl, ⟨⟨trivial, rfl⟩, rfl⟩⟩ (LeE.upd rfl rfl (LeE.upd rfl rfl (LeE.upd rfl rfl (LeE.upd rfl rfl (LeE.none rfl rfl))))) rfl
       replace H := cnf hb1626 H
       refine WP.skipW ?_
       have q0 := (Option.some.inj H)
       subst q0
       exact W.wk [0, 1, 2, 3] hnp ⟨rfl, rfl, rfl⟩ ⟨rfl, ⟨⟨⟨⟨trivial, .inr ⟨rfl, rfl, rfl⟩⟩, .inr ⟨rfl, rfl, rfl⟩⟩, .inr ⟨rfl, rfl, rfl⟩⟩, .inr ⟨rfl, rfl, rfl⟩⟩, by decide, rfl, ⟨⟨trivial, rfl⟩, rfl⟩⟩ (LeE.upd rfl rfl (LeE.upd rfl rfl (LeE.upd rfl rfl (LeE.upd rfl rfl (LeE.none rfl rfl))))) rfl
     rintro _ _ _ ⟨rfl, rfl, rfl⟩
     refine W.now ?_
     refine Then.n ?_
     refine WP.seq ?_
     refine WP.regionD' 11 [0] [] mixed rfl ?_
     refine WPD.takeT 0 rfl (by kernel_rfl) (q_mv (v := .ptr _ _) rfl) rfl ?_
     refine WPD.takeT 1 rfl (by kernel_rfl) (q_nilCheck rfl) rfl ?_
     refine WPD.takeT 2 rfl (by kernel_rfl) (q_fieldAddr fi97_2 rfl rfl) rfl ?_
     refine WPD.takeT 4 rfl (by kernel_rfl) (q_mv (v := .ptr _ _) rfl) rfl ?_
     refine WPD.takeT 5 rfl (by kernel_rfl) (q_nilCheck rfl) rfl ?_
     refine WPD.takeT 6 rfl (by kernel_rfl) (q_fieldAddr fi97_3 rfl rfl) rfl ?_
     refine WPD.takeT 8 rfl (by kernel_rfl) (q_mv (v := .lit (.int _ _)) rfl) rfl ?_
     refine WPD.take 3 rfl (by kernel_rfl) (q_load sc66 rfl rfl rfl) rfl rfl ?_
     refine WPD.take 7 rfl (by kernel_rfl) (q_load sc3 rfl rfl rfl) rfl rfl ?_
     obtain ⟨x1630, h1630, H⟩ := bnd H
     refine WPD.takeT 9 rfl (by kernel_rfl) (q_index_row sl66 rfl rfl rfl (ixs h1630)) rfl ?_
     refine WPD.effS 10 [0] [] rfl (by kernel_rfl) (s_store_row (j := (Int.toNat x1517)) (d := x1626) sz3 rfl rfl rfl rfl Joins.sc (ixl h1630)) rfl ?_
     refine WPD.doneW (by kernel_rfl) ?_
     refine W.now ?_
     refine Then.n ?_
     refine WP.regionD' 10 [0, 3] [] mixed rfl ?_
     refine WPD.takeT 0 rfl (by kernel_rfl) (q_mv (v := .ptr _ _) rfl) rfl ?_
     refine WPD.takeT 1 rfl (by kernel_rfl) (q_nilCheck rfl) rfl ?_
     refine WPD.takeT 2 rfl (by kernel_rfl) (q_fieldAddr fi97_1 rfl rfl) rfl ?_
     refine WPD.takeT 5 rfl (by kernel_rfl) (q_mv (v := .ptr _ _) rfl) rfl ?_
     refine WPD.takeT 6 rfl (by kernel_rfl) (q_nilCheck rfl) rfl ?_
     refine WPD.takeT 7 rfl (by kernel_rfl) (q_fieldAddr fi97_3 rfl rfl) rfl ?_
     refine WPD.take 3 rfl (by kernel_rfl) (q_load sc95 rfl rfl rfl) rfl rfl ?_
     refine WPD.take 4 rfl (by kernel_rfl) (q_load_ag ag136 rfl rfl (Nat.le_of_ble_eq_true rfl)) rfl rfl ?_
     refine WPD.take 8 rfl (by kernel_rfl) (q_load sc3 rfl rfl rfl) rfl rfl ?_
     refine WPD.effS 9 [0, 3] [] rfl (by kernel_rfl) (s_mapUpdate (fk := fk3) (fv := (Value.int .i64)) (k := ((List.getD (List.drop (Int.toNat x1517) (List.take (Int.toNat (IntKind.wrap .i64 (x1517 + 3))) x1340)) 0 (0 : Int)), (List.getD (List.drop (Int.toNat x1517) (List.take (Int.toNat (IntKind.wrap .i64 (x1517 + 3))) x1340)) 1 (0 : Int)), (List.getD (List.drop (Int.toNat x1517) (List.take (Int.toNat (IntKind.wrap .i64 (x1517 + 3))) x1340)) 2 (0 : Int)))) (v := x1517) ko136 Try.underlying95 rfl rfl (key_agg [.int .u8 (List.getD (List.drop (Int.toNat x1517) (List.take (Int.toNat (IntKind.wrap .i64 (x1517 + 3))) x1340)) 0 (0 : Int)), .int .u8 (List.getD (List.drop (Int.toNat x1517) (List.take (Int.toNat (IntKind.wrap .i64 (x1517 + 3))) x1340)) 1 (0 : Int)), .int .u8 (List.getD (List.drop (Int.toNat x1517) (List.take (Int.toNat (IntKind.wrap .i64 (x1517 + 3))) x1340)) 2 (0 : Int))] rfl rfl) rfl) rfl ?_
     refine WPD.doneW (by kernel_rfl) ?_
     refine W.now ?_
     refine InBlock.n ?_
     refine Then.n ?_
     refine WP.region ?_
     refine WPL.q (q_mv (v := .ptr _ _) rfl) rfl ?_
     refine WPL.q (q_nilCheck rfl) rfl ?_
     refine WPL.q (q_fieldAddr fi97_3 rfl rfl) rfl ?_
     refine WPL.q (q_load sc3 rfl rfl rfl) rfl ?_
     refine WPL.q (q_add rfl rfl) rfl ?_
     refine WPL.q (q_nilCheck rfl) rfl ?_
     refine WPL.q (q_fieldAddr fi97_3 rfl rfl) rfl ?_
     refine WPL.s (s_store sz3 rfl rfl rfl rfl rfl) ?_
     refine WPL.nilW ?_
     exact W.wk [0, 1, 2] hnp (Then.n ⟨n, ((IntKind.wrap .i64 (x1517 + 1)), (mapPut x1518 ((List.getD (List.drop (Int.toNat x1517) (List.take (Int.toNat (IntKind.wrap .i64 (x1517 + 3))) x1340)) 0 (0 : Int)), (List.getD (List.drop (Int.toNat x1517) (List.take (Int.toNat (IntKind.wrap .i64 (x1517 + 3))) x1340)) 1 (0 : Int)), (List.getD (List.drop (Int.toNat x1517) (List.take (Int.toNat (IntKind.wrap .i64 (x1517 + 3))) x1340)) 2 (0 : Int))) x1517), (List.set x1519 (Int.toNat x1517) x1626)), Nat.lt_succ_self n, H, rfl, rfl⟩) ⟨rfl, ⟨⟨⟨trivial, .inr ⟨rfl, rfl, rfl⟩⟩, .inr ⟨rfl, rfl, rfl⟩⟩, .inr ⟨rfl, rfl, rfl⟩⟩, by decide, rfl, ⟨⟨trivial, rfl⟩, rfl⟩⟩ (LeE.upd rfl rfl (LeE.upd rfl rfl (LeE.none rfl rfl))) rfl
   replace H := cnf hb1597 H
   refine WP.exitW ?_
   have q0 := (Prod.mk.inj (Option.some.inj H)).1
   have q1 := (Prod.mk.inj (Prod.mk.inj (Option.some.inj H)).2).1
   have q2 := (Prod.mk.inj (Prod.mk.inj (Option.some.inj H)).2).2
   subst q0
   subst q1
   subst q2
   exact W.wk [0, 1, 2] hnp (Then.x (Then.x ⟨rfl, rfl, rfl⟩)) ⟨rfl, ⟨⟨⟨trivial, .inr ⟨rfl, rfl, rfl⟩⟩, .inr ⟨rfl, rfl, rfl⟩⟩, .inr ⟨rfl, rfl, rfl⟩⟩, by decide, rfl, ⟨⟨trivial, rfl⟩, rfl⟩⟩ (LeE.none rfl rfl) rfl
 rintro _ _ _ ⟨rfl, rfl, rfl⟩
 have q0 := (Prod.mk.inj (Option.some.inj H)).1
 have q1 := (Prod.mk.inj (Prod.mk.inj (Option.some.inj H)).2).1
 have q2 := (Prod.mk.inj (Prod.mk.inj (Option.some.inj H)).2).2
 subst q0
 subst q1
 subst q2
 exact W.now (InBlock.x0 (BodyR.mkN trivial rfl [0, 1, 2] ⟨rfl, rfl⟩ ⟨rfl, ⟨⟨⟨trivial, .inr ⟨rfl, rfl, rfl⟩⟩, .inr ⟨rfl, rfl, rfl⟩⟩, .inr ⟨rfl, rfl, rfl⟩⟩, by decide, rfl, ⟨⟨trivial, rfl⟩, rfl⟩⟩ rfl rfl))
set_option maxRecDepth 100000 in
set_option maxHeartbeats 4000000 in
theorem s_deflate_matcher_longest (k : Nat) (x1329 : Int) (x1330 : (List Int)) (x1331 : Int) (x1332 : (List ((Int × Int × Int) × Int))) (x1333 : (List Int)) (x2147 : Int) (x2148 : Int) (x2149 : Int) (x2150 : (List ((Int × Int × Int) × Int))) (x2151 : (List Int)) (H : g_deflate_matcher_longest k x1329 x1330 x1331 x1332 x1333 = some (x2147, x2148, x2149, x2150, x2151)) : Go.Q.Spec Try.prog 51 2 [.ptr 0 0, .lit (.int .i64 x1329)] (((Mem.nil.push (.cells 97 [.ro (Rd.slice (Rd.int .u8)) true x1330, .mp 1, .whole 2, .lit (.int .i64 x1331)])).push (.obj (mapO fk3 (Value.int .i64) x1332))).push (.row 3 (Rd.int .i64) x1333)) (fun o M => o = .ret (.tup [.lit (.int .i64 x2147), .lit (.int .i64 x2148)]) ∧ M = (((Mem.nil.push (.cells 97 [.ro (Rd.slice (Rd.int .u8)) true x1330, .mp 1, .whole 2, .lit (.int .i64 x2149)])).push (.obj (mapO fk3 (Value.int .i64) x2150))).push (.row 3 (Rd.int .i64) x2151))) := by
 unfold g_deflate_matcher_longest at H
 refine Go.Q.Spec.of_bodyR (az := []) (rs := [.tmp 4, .tmp 5]) (nt := 105) Try.func51 rfl rfl (by intro t T h; simp at h) rfl rfl fun cx hnp => ?_
 refine WP.seq ?_
 refine WP.region ?_
 refine WPL.q (q_as (v := .lit (.int _ _)) rfl) rfl ?_
 refine WPL.q (q_as (v := .lit (.int _ _)) rfl) rfl ?_
 refine WPL.nilW ?_
 refine W.now ?_
 refine Then.n ?_
 refine WP.scope ?_
 refine WP.seq ?_
 refine WP.seq ?_
 refine WP.region ?_
 refine WPL.q (q_mv (v := .lit (.int _ _)) rfl) rfl ?_
 refine WPL.q (q_add rfl rfl) rfl ?_
 refine WPL.q (q_mv (v := .ptr _ _) rfl) rfl ?_
 refine WPL.q (q_nilCheck rfl) rfl ?_
 refine WPL.q (q_fieldAddr fi97_0 rfl rfl) rfl ?_
 refine WPL.q (q_load sc22 rfl rfl rfl) rfl ?_
 refine WPL.q (q_len_ro sl22 rfl) rfl ?_
 obtain ⟨x2154, h2154, H⟩ := bnd H
 refine WPL.q (q_nm (q_gtr rfl rfl) (nm_bool h2154)) rfl ?_
 refine WPL.nilW ?_
 refine W.now ?_
 refine Then.n ?_
 refine WP.cond (t := x2154) rfl (fun hb2154 => ?_) (fun hb2154 => ?_)
 · replace H := cnt hb2154 H
   refine WP.seq ?_
   refine WP.region ?_
   refine WPL.q (q_as (v := .lit (.int _ _)) rfl) rfl ?_
   refine WPL.q (q_as (v := .lit (.int _ _)) rfl) rfl ?_
   refine WPL.nilW ?_
   refine W.now ?_
   refine Then.n ?_
   refine WP.retW ?_
   have q0 := (Prod.mk.inj (Option.some.inj H)).1
   have q1 := (Prod.mk.inj (Prod.mk.inj (Option.some.inj H)).2).1
   have q2 := (Prod.mk.inj (Prod.mk.inj (Prod.mk.inj (Option.some.inj H)).2).2).1
   have q3 := (Prod.mk.inj (Prod.mk.inj (Prod.mk.inj (Prod.mk.inj (Option.some.inj H)).2).2).2).1
   have q4 := (Prod.mk.inj (Prod.mk.inj (Prod.mk.inj (Prod.mk.inj (Option.some.inj H)).2).2).2).2
   subst q0
   subst q1
   subst q2
   subst q3
   subst q4
   exact W.now (Then.r (Scope.r (BodyR.mkR trivial rfl [0, 1, 2] ⟨rfl, rfl⟩ ⟨rfl, ⟨⟨⟨trivial, .inr ⟨rfl, rfl, rfl⟩⟩, .inr ⟨rfl, rfl, rfl⟩⟩, .inr ⟨rfl, rfl, rfl⟩⟩, by decide, rfl, ⟨⟨trivial, rfl⟩, rfl⟩⟩ rfl rfl)))
 replace H := cnf hb2154 H
 refine WP.skipW ?_
 refine W.now ?_
 refine Then.n ?_
 refine WP.seq ?_
 refine WP.region ?_
 refine WPL.q (q_mv (v := .ptr _ _) rfl) rfl ?_
 refine WPL.q (q_mv (v := .lit (.int _ _)) rfl) rfl ?_
 obtain ⟨⟨x2157, x2158, x2159⟩, h2155, H⟩ := bnd H
 refine WPL.c (runs_call (s := [0, 1, 2]) (t := [0, 1, 3]) (N := 4) (bor := []) fn77 rfl (s_deflate_matcher_learn k x1329 x1330 x1331 x1332 x1333 x2157 x2158 x2159 h2155) ⟨rfl, ⟨⟨⟨trivial, .inr ⟨rfl, rfl, rfl⟩⟩, .inr ⟨rfl, rfl, rfl⟩⟩, .inr ⟨rfl, rfl, rfl⟩⟩, by decide, rfl, trivial⟩ rfl trivial (.ren rfl rfl (.ren rfl rfl .nil)) rfl ⟨⟨⟨trivial, rfl⟩, rfl⟩, rfl⟩ rfl) rfl ?_
 refine WPL.nilW ?_
 refine W.now ?_
 refine Then.n ?_
 refine WP.seq ?_
 refine WP.regionD' 20 [0, 1] [] mixed rfl ?_
 refine WPD.takeT 0 rfl (by kernel_rfl) (q_mv (v := .ptr _ _) rfl) rfl ?_
 refine WPD.takeT 1 rfl (by kernel_rfl) (q_nilCheck rfl) rfl ?_
 refine WPD.takeT 2 rfl (by kernel_rfl) (q_fieldAddr fi97_1 rfl rfl) rfl ?_
 refine WPD.takeT 4 rfl (by kernel_rfl) (q_mv (v := .ptr _ _) rfl) rfl ?_
 refine WPD.takeT 5 rfl (by kernel_rfl) (q_nilCheck rfl) rfl ?_
 refine WPD.takeT 6 rfl (by kernel_rfl) (q_fieldAddr fi97_0 rfl rfl) rfl ?_
 refine WPD.takeT 8 rfl (by kernel_rfl) (q_mv (v := .lit (.int _ _)) rfl) rfl ?_
 refine WPD.takeT 9 rfl (by kernel_rfl) (q_mv (v := .lit (.int _ _)) rfl) rfl ?_
 refine WPD.takeT 10 rfl (by kernel_rfl) (q_add rfl rfl) rfl ?_
 refine WPD.take 3 rfl (by kernel_rfl) (q_load sc95 rfl rfl rfl) rfl rfl ?_
 refine WPD.take 7 rfl (by kernel_rfl) (q_load sc22 rfl rfl rfl) rfl rfl ?_
 obtain ⟨h2167, H⟩ := grd H
 refine WPD.takeT 11 rfl (by kernel_rfl) (q_slice_ro (i := x1329) (j := (IntKind.wrap .i64 (x1329 + 3))) sl22 rfl rfl ⟨_, rfl⟩ ⟨_, rfl⟩ h2167) rfl ?_
 obtain ⟨h2168, H⟩ := grd H
 refine WPD.takeT 12 rfl (by kernel_rfl) (q_sliceToArr (n := 3) (0 : Int) ar136 rfl rfl h2168) rfl ?_
 refine WPD.takeT 13 rfl (by kernel_rfl) (q_load_roag ag136 rfl rfl Splits.arr) rfl ?_
 obtain ⟨x2170, h2170, H⟩ := bnd H
 refine WPD.take 14 rfl (by kernel_rfl) (q_lookupN (fk := fk3) (fv := (Value.int .i64)) (k := ((List.getD (List.drop (Int.toNat x1329) (List.take (Int.toNat (IntKind.wrap .i64 (x1329 + 3))) x1330)) 0 (0 : Int)), (List.getD (List.drop (Int.toNat x1329) (List.take (Int.toNat (IntKind.wrap .i64 (x1329 + 3))) x1330)) 1 (0 : Int)), (List.getD (List.drop (Int.toNat x1329) (List.take (Int.toNat (IntKind.wrap .i64 (x1329 + 3))) x1330)) 2 (0 : Int)))) (z := (0 : Int)) ko136 Try.underlying95 zv3 rfl rfl (key_agg [.int .u8 (List.getD (List.drop (Int.toNat x1329) (List.take (Int.toNat (IntKind.wrap .i64 (x1329 + 3))) x1330)) 0 (0 : Int)), .int .u8 (List.getD (List.drop (Int.toNat x1329) (List.take (Int.toNat (IntKind.wrap .i64 (x1329 + 3))) x1330)) 1 (0 : Int)), .int .u8 (List.getD (List.drop (Int.toNat x1329) (List.take (Int.toNat (IntKind.wrap .i64 (x1329 + 3))) x1330)) 2 (0 : Int))] rfl rfl) (some_inj h2170)) rfl rfl ?_
 refine WPD.takeT 15 rfl (by kernel_rfl) (q_mv (v := .tup _) rfl) rfl ?_
 refine WPD.takeT 16 rfl (by kernel_rfl) (q_extract rfl rfl) rfl ?_
 refine WPD.takeT 17 rfl (by kernel_rfl) (q_extract rfl rfl) rfl ?_
 refine WPD.takeT 18 rfl (by kernel_rfl) (q_as (v := .lit (.int _ _)) rfl) rfl ?_
 refine WPD.takeT 19 rfl (by kernel_rfl) (q_as (v := .lit (.bool _)) rfl) rfl ?_
 refine WPD.doneW (by kernel_rfl) ?_
 refine W.now ?_
 refine Then.n ?_
 refine WP.seq ?_
 refine WP.seq ?_
 refine WP.region ?_
 refine WPL.q (q_mv (v := .lit (.bool _)) rfl) rfl ?_
 refine WPL.q (q_not rfl) rfl ?_
 refine WPL.nilW ?_
 refine W.now ?_
 refine Then.n ?_
 refine WP.cond (t := (!(Option.isSome x2170))) rfl (fun hb2172 => ?_) (fun hb2172 => ?_)
 · replace H := cnt hb2172 H
   refine WP.seq ?_
   refine WP.region ?_
   refine WPL.q (q_as (v := .lit (.int _ _)) rfl) rfl ?_
   refine WPL.q (q_as (v := .lit (.int _ _)) rfl) rfl ?_
   refine WPL.nilW ?_
   refine W.now ?_
   refine Then.n ?_
   refine WP.retW ?_
   have q0 := (Prod.mk.inj (Option.some.inj H)).1
   have q1 := (Prod.mk.inj (Prod.mk.inj (Option.some.inj H)).2).1
   have q2 := (Prod.mk.inj (Prod.mk.inj (Prod.mk.inj (Option.some.inj H)).2).2).1
   have q3 := (Prod.mk.inj (Prod.mk.inj (Prod.mk.inj (Prod.mk.inj (Option.some.inj H)).2).2).2).1
   have q4 := (Prod.mk.inj (Prod.mk.inj (Prod.mk.inj (Prod.mk.inj (Option.some.inj H)).2).2).2).2
   subst q0
   subst q1
   subst q2
   subst q3
   subst q4
   exact W.now (Then.r (Scope.r (BodyR.mkR trivial rfl [0, 1, 3] ⟨rfl, rfl⟩ ⟨rfl, ⟨⟨⟨trivial, .inr ⟨rfl, rfl, rfl⟩⟩, .inr ⟨rfl, rfl, rfl⟩⟩, .inr ⟨rfl, rfl, rfl⟩⟩, by decide, rfl, ⟨⟨trivial, rfl⟩, rfl⟩⟩ rfl rfl)))
 replace H := cnf hb2172 H
 refine WP.skipW ?_
 refine W.now ?_
 refine Then.n ?_
 refine WP.seq ?_
 refine WP.region ?_
 refine WPL.q (q_as (v := .lit (.int _ _)) rfl) rfl ?_
 refine WPL.q (q_as (v := .lit (.int _ _)) rfl) rfl ?_
 refine WPL.nilW ?_
 refine W.now ?_
 refine Then.n ?_
 refine WP.seq ?_
 refine WP.labelW ?_
 refine W.now ?_
 refine Then.n ?_
 refine WP.seq ?_
 refine WP.seq ?_
 refine WP.region ?_
 refine WPL.q (q_mv (v := .lit (.int _ _)) rfl) rfl ?_
 refine WPL.nilW ?_
 refine W.now ?_
 refine Then.n ?_
 refine WP.block ?_
 refine WP.cv (Cv.weak (E' := ((((((Env.none.upd 0 (.ptr 0 0)).upd 1 (.lit (.int .i64 x1329))).upd 6 (.lit (.int .i64 (Option.getD x2170 (0 : Int))))).upd 8 (.lit (.int .i64 0))).upd 9 (.lit (.int .i64 0))).upd 42 (.lit (.int .i64 0)))) (M' := (((Mem.nil.push (.cells 97 [.ro (Rd.slice (Rd.int .u8)) true x1330, .mp 1, .whole 2, .lit (.int .i64 x2157)])).push (.obj (mapO fk3 (Value.int .i64) x2158))).push (.row 3 (Rd.int .i64) x2159))) [0, 1, 3] hnp ⟨rfl, ⟨⟨⟨trivial, .inr ⟨rfl, rfl, rfl⟩⟩, .inr ⟨rfl, rfl, rfl⟩⟩, .inr ⟨rfl, rfl, rfl⟩⟩, by decide, rfl, ⟨⟨trivial, rfl⟩, rfl⟩⟩ (LeE.upd rfl rfl (LeE.upd rfl rfl (LeE.upd rfl rfl (LeE.upd rfl rfl (LeE.upd rfl rfl (LeE.upd rfl rfl (LeE.none rfl rfl)))))))) ?_
 obtain ⟨⟨x2668, x2669⟩, H2943, H⟩ := bnd H
 refine WP.monoW (Q := fun x E M => x = .exit 0 ∧ E = ((Env.none.upd 8 (.lit (.int .i64 x2668))).upd 9 (.lit (.int .i64 x2669))) ∧ M = (((Mem.nil.push (.cells 97 [.ro (Rd.slice (Rd.int .u8)) true x1330, .mp 1, .whole 2, .lit (.int .i64 x2157)])).push (.obj (mapO fk3 (Value.int .i64) x2158))).push (.row 3 (Rd.int .i64) x2159))) ?_ ?_
 · refine WP.loop (β := Int × Int × Int × Int) (fun n b => g_deflate_matcher_longest_l0 k x1329 x1330 x2159 n b.1 b.2.1 b.2.2.1 b.2.2.2 = some (x2668, x2669)) (fun b => ((((((Env.none.upd 0 (.ptr 0 0)).upd 1 (.lit (.int .i64 x1329))).upd 6 (.lit (.int .i64 b.1))).upd 8 (.lit (.int .i64 b.2.1))).upd 9 (.lit (.int .i64 b.2.2.1))).upd 42 (.lit (.int .i64 b.2.2.2)))) (fun b => (((Mem.nil.push (.cells 97 [.ro (Rd.slice (Rd.int .u8)) true x1330, .mp 1, .whole 2, .lit (.int .i64 x2157)])).push (.obj (mapO fk3 (Value.int .i64) x2158))).push (.row 3 (Rd.int .i64) x2159))) k ((Option.getD x2170 (0 : Int)), 0, 0, 0) H2943 rfl rfl ?_
   rintro n ⟨x2440, x2441, x2442, x2443⟩ H
   obtain _ | n := n
   · exact nf rfl H
   rw [g_deflate_matcher_longest_l0.eq_2] at H
   show WP _ _ _ _ ((((((Env.none.upd 0 (.ptr 0 0)).upd 1 (.lit (.int .i64 x1329))).upd 6 (.lit (.int .i64 x2440))).upd 8 (.lit (.int .i64 x2441))).upd 9 (.lit (.int .i64 x2442))).upd 42 (.lit (.int .i64 x2443))) (((Mem.nil.push (.cells 97 [.ro (Rd.slice (Rd.int .u8)) true x1330, .mp 1, .whole 2, .lit (.int .i64 x2157)])).push (.obj (mapO fk3 (Value.int .i64) x2158))).push (.row 3 (Rd.int .i64) x2159)) _
   refine WP.seq ?_
   refine WP.region ?_
   refine WPL.q (q_lss rfl rfl) rfl ?_
   refine WPL.nilW ?_
   refine W.now ?_
   refine Then.n ?_
   refine WP.seq ?_
   refine WP.cond (t := (decide (x2443 < 32))) rfl (fun hb2670 => ?_) (fun hb2670 => ?_)
   · replace H := cnt hb2670 H
     refine WP.skipW ?_
     refine W.now ?_
     refine Then.n ?_
     refine WP.seq ?_
     refine WP.block ?_
     refine WP.seq ?_
     refine WP.seq ?_
     obtain ⟨x2792, H2794, H⟩ := bnd H
     refine WP.monoW (Q := fun x E M => x = .normal ∧ E = (((((((Env.none.upd 0 (.ptr 0 0)).upd 1 (.lit (.int .i64 x1329))).upd 6 (.lit (.int .i64 x2440))).upd 8 (.lit (.int .i64 x2441))).upd 9 (.lit (.int .i64 x2442))).upd 42 (.lit (.int .i64 x2443))).upd 51 (.lit (.bool x2792))) ∧ M = (((Mem.nil.push (.cells 97 [.ro (Rd.slice (Rd.int .u8)) true x1330, .mp 1, .whole 2, .lit (.int .i64 x2157)])).push (.obj (mapO fk3 (Value.int .i64) x2158))).push (.row 3 (Rd.int .i64) x2159))) ?_ ?_
     · clear H
       have H := H2794
       clear H2794
       refine WP.region ?_
       refine WPL.q (q_mv (v := .lit (.int _ _)) rfl) rfl ?_
       refine WPL.q (q_lss rfl rfl) rfl ?_
       refine WPL.q (q_mv (v := .lit (.bool _)) rfl) rfl ?_
       refine WPL.split (t := 46) (b := (decide (x2440 < 0))) rfl (fun hb2792 => ?_) (fun hb2792 => ?_)
       · replace H := cnt hb2792 H
         refine WPL.skipg (b' := true) rfl rfl (lb hb2792) rfl rfl (.inl trivial) ?_
         refine WPL.skipg (b' := true) rfl rfl (lb hb2792) rfl rfl (.inl trivial) ?_
         refine WPL.skipg (b' := true) rfl rfl (lb hb2792) rfl rfl (.inl trivial) ?_
         refine WPL.skipg (b' := true) rfl rfl (lb hb2792) rfl rfl (.inl trivial) ?_
         refine WPL.q (q_pickT (v := .lit (.bool _)) (lb hb2792) rfl) rfl ?_
         refine WPL.nilW ?_
         have q0 := (Option.some.inj H)
         subst q0
         exact W.wk [0, 1, 2] hnp ⟨rfl, rfl, rfl⟩ ⟨rfl, ⟨⟨⟨trivial, .inr ⟨rfl, rfl, rfl⟩⟩, .inr ⟨rfl, rfl, rfl⟩⟩, .inr ⟨rfl, rfl, rfl⟩⟩, by decide, rfl, ⟨⟨trivial, rfl⟩, rfl⟩⟩ (LeE.upd rfl rfl (LeE.upd rfl rfl (LeE.upd rfl rfl (LeE.upd rfl rfl (LeE.upd rfl rfl (LeE.upd rfl rfl (LeE.upd rfl rfl (LeE.none rfl rfl)))))))) rfl
       replace H := cnf hb2792 H
       refine WPL.qg rfl rfl (lb hb2792) (q_mv (v := .lit (.int _ _)) rfl) rfl ?_
       refine WPL.qg rfl rfl (lb hb2792) (q_mv (v := .lit (.int _ _)) rfl) rfl ?_
       refine WPL.qg rfl rfl (lb hb2792) (q_sub rfl rfl) rfl ?_
       obtain ⟨x2794, h2794, H⟩ := bnd H
       refine WPL.qg rfl rfl (lb hb2792) (q_nm (q_gtr rfl rfl) (nm_bool h2794)) rfl ?_
       refine WPL.q (q_pickF (v := .lit (.bool _)) (lb hb2792) rfl) rfl ?_
       refine WPL.nilW ?_
       have q0 := (Option.some.inj H)
       subst q0
       exact W.wk [0, 1, 2] hnp ⟨rfl, rfl, rfl⟩ ⟨rfl, ⟨⟨⟨trivial, .inr ⟨rfl, rfl, rfl⟩⟩, .inr ⟨rfl, rfl, rfl⟩⟩, .inr ⟨rfl, rfl, rfl⟩⟩, by decide, rfl, ⟨⟨trivial, rfl⟩, rfl⟩⟩ (LeE.upd rfl rfl (LeE.upd rfl rfl (LeE.upd rfl rfl (LeE.upd rfl rfl (LeE.upd rfl rfl (LeE.upd rfl rfl (LeE.upd rfl rfl (LeE.none rfl rfl)))))))) rfl
     rintro _ _ _ ⟨rfl, rfl, rfl⟩
     refine W.now ?_
     refine Then.n ?_
     refine WP.cond (t := x2792) rfl (fun hb2795 => ?_) (fun hb2795 => ?_)
     · replace H := cnt hb2795 H
       refine WP.exitW ?_
       have q0 := (Prod.mk.inj (Option.some.inj H)).1
       have q1 := (Prod.mk.inj (Option.some.inj H)).2
       subst q0
       subst q1
       exact W.wk [0, 1, 2] hnp (Then.x (InBlock.x rfl (Then.x (Then.x ⟨rfl, rfl, rfl⟩)))) ⟨rfl, ⟨⟨⟨trivial, .inr ⟨rfl, rfl, rfl⟩⟩, .inr ⟨rfl, rfl, rfl⟩⟩, .inr ⟨rfl, rfl, rfl⟩⟩, by decide, rfl, ⟨⟨trivial, rfl⟩, rfl⟩⟩ (LeE.upd rfl rfl (LeE.upd rfl rfl (LeE.none rfl rfl))) rfl
     replace H := cnf hb2795 H
     refine WP.skipW ?_
     refine W.now ?_
     refine Then.n ?_
     refine WP.seq ?_
     refine WP.region ?_
     refine WPL.q (q_as (v := .lit (.int _ _)) rfl) rfl ?_
     refine WPL.nilW ?_
     refine W.now ?_
     refine Then.n ?_
     refine WP.seq ?_
     refine WP.block ?_
     refine WP.cv (Cv.weak (E' := (((((((Env.none.upd 0 (.ptr 0 0)).upd 1 (.lit (.int .i64 x1329))).upd 6 (.lit (.int .i64 x2440))).upd 8 (.lit (.int .i64 x2441))).upd 9 (.lit (.int .i64 x2442))).upd 10 (.lit (.int .i64 0))).upd 42 (.lit (.int .i64 x2443)))) (M' := (((Mem.nil.push (.cells 97 [.ro (Rd.slice (Rd.int .u8)) true x1330, .mp 1, .whole 2, .lit (.int .i64 x2157)])).push (.obj (mapO fk3 (Value.int .i64) x2158))).push (.row 3 (Rd.int .i64) x2159))) [0, 1, 2] hnp ⟨rfl, ⟨⟨⟨trivial, .inr ⟨rfl, rfl, rfl⟩⟩, .inr ⟨rfl, rfl, rfl⟩⟩, .inr ⟨rfl, rfl, rfl⟩⟩, by decide, rfl, ⟨⟨trivial, rfl⟩, rfl⟩⟩ (LeE.upd rfl rfl (LeE.upd rfl rfl (LeE.upd rfl rfl (LeE.upd rfl rfl (LeE.upd rfl rfl (LeE.upd rfl rfl (LeE.upd rfl rfl (LeE.none rfl rfl))))))))) ?_
     obtain ⟨x2886, H2936, H⟩ := bnd H
     refine WP.monoW (Q := fun x E M => x = .exit 2 ∧ E = (((((((Env.none.upd 0 (.ptr 0 0)).upd 1 (.lit (.int .i64 x1329))).upd 6 (.lit (.int .i64 x2440))).upd 8 (.lit (.int .i64 x2441))).upd 9 (.lit (.int .i64 x2442))).upd 10 (.lit (.int .i64 x2886))).upd 42 (.lit (.int .i64 x2443))) ∧ M = (((Mem.nil.push (.cells 97 [.ro (Rd.slice (Rd.int .u8)) true x1330, .mp 1, .whole 2, .lit (.int .i64 x2157)])).push (.obj (mapO fk3 (Value.int .i64) x2158))).push (.row 3 (Rd.int .i64) x2159))) ?_ ?_
     · refine WP.loop (β := Int) (fun n b => g_deflate_matcher_longest_l1 k x1329 x1330 x2440 n b = some x2886) (fun b => (((((((Env.none.upd 0 (.ptr 0 0)).upd 1 (.lit (.int .i64 x1329))).upd 6 (.lit (.int .i64 x2440))).upd 8 (.lit (.int .i64 x2441))).upd 9 (.lit (.int .i64 x2442))).upd 10 (.lit (.int .i64 b))).upd 42 (.lit (.int .i64 x2443)))) (fun b => (((Mem.nil.push (.cells 97 [.ro (Rd.slice (Rd.int .u8)) true x1330, .mp 1, .whole 2, .lit (.int .i64 x2157)])).push (.obj (mapO fk3 (Value.int .i64) x2158))).push (.row 3 (Rd.int .i64) x2159))) k 0 H2936 rfl rfl ?_
       rintro n x2835 H
       obtain _ | n := n
       · exact nf rfl H
       rw [g_deflate_matcher_longest_l1.eq_2] at H
       show WP _ _ _ _ (((((((Env.none.upd 0 (.ptr 0 0)).upd 1 (.lit (.int .i64 x1329))).upd 6 (.lit (.int .i64 x2440))).upd 8 (.lit (.int .i64 x2441))).upd 9 (.lit (.int .i64 x2442))).upd 10 (.lit (.int .i64 x2835))).upd 42 (.lit (.int .i64 x2443))) (((Mem.nil.push (.cells 97 [.ro (Rd.slice (Rd.int .u8)) true x1330, .mp 1, .whole 2, .lit (.int .i64 x2157)])).push (.obj (mapO fk3 (Value.int .i64) x2158))).push (.row 3 (Rd.int .i64) x2159)) _
       refine WP.seq ?_
       refine WP.seq ?_
       obtain ⟨x2923, H2934, H⟩ := bnd H
       refine WP.monoW (Q := fun x E M => x = .normal ∧ E = ((((((((Env.none.upd 0 (.ptr 0 0)).upd 1 (.lit (.int .i64 x1329))).upd 6 (.lit (.int .i64 x2440))).upd 8 (.lit (.int .i64 x2441))).upd 9 (.lit (.int .i64 x2442))).upd 10 (.lit (.int .i64 x2835))).upd 42 (.lit (.int .i64 x2443))).upd 85 (.lit (.bool x2923))) ∧ M = (((Mem.nil.push (.cells 97 [.ro (Rd.slice (Rd.int .u8)) true x1330, .mp 1, .whole 2, .lit (.int .i64 x2157)])).push (.obj (mapO fk3 (Value.int .i64) x2158))).push (.row 3 (Rd.int .i64) x2159))) ?_ ?_
       · clear H
         have H := H2934
         clear H2934
         refine WP.regionD' 34 [0] [] mixed rfl ?_
         refine WPD.takeT 0 rfl (by kernel_rfl) (q_mv (v := .lit (.int _ _)) rfl) rfl ?_
         refine WPD.takeT 1 rfl (by kernel_rfl) (q_lss rfl rfl) rfl ?_
         refine WPD.takeT 2 rfl (by kernel_rfl) (q_mv (v := .lit (.bool _)) rfl) rfl ?_
         refine WPD.split (t := 54) (b := (decide (x2835 < 258))) rfl (fun hb2929 => ?_) (fun hb2929 => ?_)
         · replace H := cnt hb2929 H
           refine WPD.takegT 3 rfl (by kernel_rfl) rfl rfl (lb hb2929) (q_mv (v := .lit (.int _ _)) rfl) rfl ?_
           refine WPD.takegT 4 rfl (by kernel_rfl) rfl rfl (lb hb2929) (q_mv (v := .lit (.int _ _)) rfl) rfl ?_
           refine WPD.takegT 5 rfl (by kernel_rfl) rfl rfl (lb hb2929) (q_add rfl rfl) rfl ?_
           refine WPD.takegT 6 rfl (by kernel_rfl) rfl rfl (lb hb2929) (q_mv (v := .ptr _ _) rfl) rfl ?_
           refine WPD.takegT 7 rfl (by kernel_rfl) rfl rfl (lb hb2929) (q_nilCheck rfl) rfl ?_
           refine WPD.takegT 8 rfl (by kernel_rfl) rfl rfl (lb hb2929) (q_fieldAddr fi97_0 rfl rfl) rfl ?_
           refine WPD.takeg 9 rfl (by kernel_rfl) rfl rfl (lb hb2929) (q_load sc22 rfl rfl rfl) rfl rfl ?_
           refine WPD.takegT 10 rfl (by kernel_rfl) rfl rfl (lb hb2929) (q_len_ro sl22 rfl) rfl ?_
           obtain ⟨x2931, h2931, H⟩ := bnd H
           refine WPD.takegT 11 rfl (by kernel_rfl) rfl rfl (lb hb2929) (q_nm (q_lss rfl rfl) (nm_bool h2931)) rfl ?_
           refine WPD.takeT 12 rfl (by kernel_rfl) (q_pickT (v := .lit (.bool _)) (lb hb2929) rfl) rfl ?_
           refine WPD.takeT 13 rfl (by kernel_rfl) (q_mv (v := .lit (.bool _)) rfl) rfl ?_
           refine WPD.split (t := 65) (b := x2931) rfl (fun hb2931 => ?_) (fun hb2931 => ?_)
           · replace H := cnt hb2931 H
             refine WPD.takegT 14 rfl (by kernel_rfl) rfl rfl (lb hb2931) (q_mv (v := .ptr _ _) rfl) rfl ?_
             refine WPD.takegT 15 rfl (by kernel_rfl) rfl rfl (lb hb2931) (q_nilCheck rfl) rfl ?_
             refine WPD.takegT 16 rfl (by kernel_rfl) rfl rfl (lb hb2931) (q_fieldAddr fi97_0 rfl rfl) rfl ?_
             refine WPD.takegT 18 rfl (by kernel_rfl) rfl rfl (lb hb2931) (q_mv (v := .lit (.int _ _)) rfl) rfl ?_
             refine WPD.takegT 19 rfl (by kernel_rfl) rfl rfl (lb hb2931) (q_mv (v := .lit (.int _ _)) rfl) rfl ?_
             refine WPD.takegT 20 rfl (by kernel_rfl) rfl rfl (lb hb2931) (q_add rfl rfl) rfl ?_
             refine WPD.takegT 23 rfl (by kernel_rfl) rfl rfl (lb hb2931) (q_mv (v := .ptr _ _) rfl) rfl ?_
             refine WPD.takegT 24 rfl (by kernel_rfl) rfl rfl (lb hb2931) (q_nilCheck rfl) rfl ?_
             refine WPD.takegT 25 rfl (by kernel_rfl) rfl rfl (lb hb2931) (q_fieldAddr fi97_0 rfl rfl) rfl ?_
             refine WPD.takegT 27 rfl (by kernel_rfl) rfl rfl (lb hb2931) (q_mv (v := .lit (.int _ _)) rfl) rfl ?_
             refine WPD.takegT 28 rfl (by kernel_rfl) rfl rfl (lb hb2931) (q_mv (v := .lit (.int _ _)) rfl) rfl ?_
             refine WPD.takegT 29 rfl (by kernel_rfl) rfl rfl (lb hb2931) (q_add rfl rfl) rfl ?_
             refine WPD.takeg 17 rfl (by kernel_rfl) rfl rfl (lb hb2931) (q_load sc22 rfl rfl rfl) rfl rfl ?_
             obtain ⟨x2933, h2933, H⟩ := bnd H
             refine WPD.takegT 21 rfl (by kernel_rfl) rfl rfl (lb hb2931) (q_index_ro sl22 rfl rfl rfl h2933) rfl ?_
             refine WPD.takegT 22 rfl (by kernel_rfl) rfl rfl (lb hb2931) (q_load_sc sc5 rfl) rfl ?_
             refine WPD.takeg 26 rfl (by kernel_rfl) rfl rfl (lb hb2931) (q_load sc22 rfl rfl rfl) rfl rfl ?_
             obtain ⟨x2934, h2934, H⟩ := bnd H
             refine WPD.takegT 30 rfl (by kernel_rfl) rfl rfl (lb hb2931) (q_index_ro sl22 rfl rfl rfl h2934) rfl ?_
             refine WPD.takegT 31 rfl (by kernel_rfl) rfl rfl (lb hb2931) (q_load_sc sc5 rfl) rfl ?_
             refine WPD.takegT 32 rfl (by kernel_rfl) rfl rfl (lb hb2931) (q_eql rfl rfl) rfl ?_
             refine WPD.takeT 33 rfl (by kernel_rfl) (q_pickT (v := .lit (.bool _)) (lb hb2931) rfl) rfl ?_
             refine WPD.doneW (by kernel_rfl) ?_
             have q0 := (Option.some.inj H)
             subst q0
             exact W.wk [0, 1, 2] hnp ⟨rfl, rfl, rfl⟩ ⟨rfl, ⟨⟨⟨trivial, .inr ⟨rfl, rfl, rfl⟩⟩, .inr ⟨rfl, rfl, rfl⟩⟩, .inr ⟨rfl, rfl, rfl⟩⟩, by decide, rfl, ⟨⟨trivial, rfl⟩, rfl⟩⟩ (LeE.upd rfl rfl (LeE.upd rfl rfl (LeE.upd rfl rfl (LeE.upd rfl rfl (LeE.upd rfl rfl (LeE.upd rfl rfl (LeE.upd rfl rfl (LeE.upd rfl rfl (LeE.none rfl rfl))))))))) rfl
           replace H := cnf hb2931 H
           refine WPD.pass (b' := false) 14 rfl (by kernel_rfl) rfl rfl (lb hb2931) rfl rfl (.inl trivial) ?_
           refine WPD.pass (b' := false) 15 rfl (by kernel_rfl) rfl rfl (lb hb2931) rfl rfl (.inl trivial) ?_
           refine WPD.pass (b' := false) 16 rfl (by kernel_rfl) rfl rfl (lb hb2931) rfl rfl (.inl trivial) ?_
           refine WPD.pass (b' := false) 17 rfl (by kernel_rfl) rfl rfl (lb hb2931) rfl rfl (.inl trivial) ?_
           refine WPD.pass (b' := false) 18 rfl (by kernel_rfl) rfl rfl (lb hb2931) rfl rfl (.inl trivial) ?_
           refine WPD.pass (b' := false) 19 rfl (by kernel_rfl) rfl rfl (lb hb2931) rfl rfl (.inl trivial) ?_
           refine WPD.pass (b' := false) 20 rfl (by kernel_rfl) rfl rfl (lb hb2931) rfl rfl (.inl trivial) ?_
           refine WPD.pass (b' := false) 21 rfl (by kernel_rfl) rfl rfl (lb hb2931) rfl rfl (.inl trivial) ?_
           refine WPD.pass (b' := false) 22 rfl (by kernel_rfl) rfl rfl (lb hb2931) rfl rfl (.inl trivial) ?_
           refine WPD.pass (b' := false) 23 rfl (by kernel_rfl) rfl rfl (lb hb2931) rfl rfl (.inl trivial) ?_
           refine WPD.pass (b' := false) 24 rfl (by kernel_rfl) rfl rfl (lb hb2931) rfl rfl (.inl trivial) ?_
           refine WPD.pass (b' := false) 25 rfl (by kernel_rfl) rfl rfl (lb hb2931) rfl rfl (.inl trivial) ?_
           refine WPD.pass (b' := false) 26 rfl (by kernel_rfl) rfl rfl (lb hb2931) rfl rfl (.inl trivial) ?_
           refine WPD.pass (b' := false) 27 rfl (by kernel_rfl) rfl rfl (lb hb2931) rfl rfl (.inl trivial) ?_
           refine WPD.pass (b' := false) 28 rfl (by kernel_rfl) rfl rfl (lb hb2931) rfl rfl (.inl trivial) ?_
           refine WPD.pass (b' := false) 29 rfl (by kernel_rfl) rfl rfl (lb hb2931) rfl rfl (.inl trivial) ?_
           refine WPD.pass (b' := false) 30 rfl (by kernel_rfl) rfl rfl (lb hb2931) rfl rfl (.inl trivial) ?_
           refine WPD.pass (b' := false) 31 rfl (by kernel_rfl) rfl rfl (lb hb2931) rfl rfl (.inl trivial) ?_
           refine WPD.pass (b' := false) 32 rfl (by kernel_rfl) rfl rfl (lb hb2931) rfl rfl (.inl trivial) ?_
           refine WPD.takeT 33 rfl (by kernel_rfl) (q_pickF (v := .lit (.bool _)) (lb hb2931) rfl) rfl ?_
           refine WPD.doneW (by kernel_rfl) ?_
           have q0 := (Option.some.inj H)
           subst q0
           exact W.wk [0, 1, 2] hnp ⟨rfl, rfl, rfl⟩ ⟨rfl, ⟨⟨⟨trivial, .inr ⟨rfl, rfl, rfl⟩⟩, .inr ⟨rfl, rfl, rfl⟩⟩, .inr ⟨rfl, rfl, rfl⟩⟩, by decide, rfl, ⟨⟨trivial, rfl⟩, rfl⟩⟩ (LeE.upd rfl rfl (LeE.upd rfl rfl (LeE.upd rfl rfl (LeE.upd rfl rfl (LeE.upd rfl rfl (LeE.upd rfl rfl (LeE.upd rfl rfl (LeE.upd rfl rfl (LeE.none rfl rfl))))))))) rfl
         replace H := cnf hb2929 H
         refine WPD.pass (b' := false) 3 rfl (by kernel_rfl) rfl rfl (lb hb2929) rfl rfl (.inl trivial) ?_
         refine WPD.pass (b' := false) 4 rfl (by kernel_rfl) rfl rfl (lb hb2929) rfl rfl (.inl trivial) ?_
         refine WPD.pass (b' := false) 5 rfl (by kernel_rfl) rfl rfl (lb hb2929) rfl rfl (.inl trivial) ?_
         refine WPD.pass (b' := false) 6 rfl (by kernel_rfl) rfl rfl (lb hb2929) rfl rfl (.inl trivial) ?_
         refine WPD.pass (b' := false) 7 rfl (by kernel_rfl) rfl rfl (lb hb2929) rfl rfl (.inl trivial) ?_
         refine WPD.pass (b' := false) 8 rfl (by kernel_rfl) rfl rfl (lb hb2929) rfl rfl (.inl trivial) ?_
         refine WPD.pass (b' := false) 9 rfl (by kernel_rfl) rfl rfl (lb hb2929) rfl rfl (.inl trivial) ?_
         refine WPD.pass (b' := false) 10 rfl (by kernel_rfl) rfl rfl (lb hb2929) rfl rfl (.inl trivial) ?_
         refine WPD.pass (b' := false) 11 rfl (by kernel_rfl) rfl rfl (lb hb2929) rfl rfl (.inl trivial) ?_
         refine WPD.takeT 12 rfl (by kernel_rfl) (q_pickF (v := .lit (.bool _)) (lb hb2929) rfl) rfl ?_
         refine WPD.takeT 13 rfl (by kernel_rfl) (q_mv (v := .lit (.bool _)) rfl) rfl ?_
         refine WPD.pass (b' := false) 14 rfl (by kernel_rfl) rfl rfl rfl rfl rfl (.inl trivial) ?_
         refine WPD.pass (b' := false) 15 rfl (by kernel_rfl) rfl rfl rfl rfl rfl (.inl trivial) ?_
         refine WPD.pass (b' := false) 16 rfl (by kernel_rfl) rfl rfl rfl rfl rfl (.inl trivial) ?_
         refine WPD.pass (b' := false) 17 rfl (by kernel_rfl) rfl rfl rfl rfl rfl (.inl trivial) ?_
         refine WPD.pass (b' := false) 18 rfl (by kernel_rfl) rfl rfl rfl rfl rfl (.inl trivial) ?_
         refine WPD.pass (b' := false) 19 rfl (by kernel_rfl) rfl rfl rfl rfl rfl (.inl trivial) ?_
         refine WPD.pass (b' := false) 20 rfl (by kernel_rfl) rfl rfl rfl rfl rfl (.inl trivial) ?_
         refine WPD.pass (b' := false) 21 rfl (by kernel_rfl) rfl rfl rfl rfl rfl (.inl trivial) ?_
         refine WPD.pass (b' := false) 22 rfl (by kernel_rfl) rfl rfl rfl rfl rfl (.inl trivial) ?_
         refine WPD.pass (b' := false) 23 rfl (by kernel_rfl) rfl rfl rfl rfl rfl (.inl trivial) ?_
         refine WPD.pass (b' := false) 24 rfl (by kernel_rfl) rfl rfl rfl rfl rfl (.inl trivial) ?_
         refine WPD.pass (b' := false) 25 rfl (by kernel_rfl) rfl rfl rfl rfl rfl (.inl trivial) ?_
         refine WPD.pass (b' := false) 26 rfl (by kernel_rfl) rfl rfl rfl rfl rfl (.inl trivial) ?_
         refine WPD.pass (b' := false) 27 rfl (by kernel_rfl) rfl rfl rfl rfl rfl (.inl trivial) ?_
         refine WPD.pass (b' := false) 28 rfl (by kernel_rfl) rfl rfl rfl rfl rfl (.inl trivial) ?_
         refine WPD.pass (b' := false) 29 rfl (by kernel_rfl) rfl rfl rfl rfl rfl (.inl trivial) ?_
         refine WPD.pass (b' := false) 30 rfl (by kernel_rfl) rfl rfl rfl rfl rfl (.inl trivial) ?_
         refine WPD.pass (b' := false) 31 rfl (by kernel_rfl) rfl rfl rfl rfl rfl (.inl trivial) ?_
         refine WPD.pass (b' := false) 32 rfl (by kernel_rfl) rfl rfl rfl rfl rfl (.inl trivial) ?_
         refine WPD.takeT 33 rfl (by kernel_rfl) (q_pickF (v := .lit (.bool _)) rfl rfl) rfl ?_
         refine WPD.doneW (by kernel_rfl) ?_
         have q0 := (Option.some.inj H)
         subst q0
         exact W.wk [0, 1, 2] hnp ⟨rfl, rfl, rfl⟩ ⟨rfl, ⟨⟨⟨trivial, .inr ⟨rfl, rfl, rfl⟩⟩, .inr ⟨rfl, rfl, rfl⟩⟩, .inr ⟨rfl, rfl, rfl⟩⟩, by decide, rfl, ⟨⟨trivial, rfl⟩, rfl⟩⟩ (LeE.upd rfl rfl (LeE.upd rfl rfl (LeE.upd rfl rfl (LeE.upd rfl rfl (LeE.upd rfl rfl (LeE.upd rfl rfl (LeE.upd rfl rfl (LeE.upd rfl rfl (LeE.none rfl rfl))))))))) rfl
       rintro _ _ _ ⟨rfl, rfl, rfl⟩
       refine W.now ?_
       refine Then.n ?_
       refine WP.cond (t := x2923) rfl (fun hb2935 => ?_) (fun hb2935 => ?_)
       · replace H := cnt hb2935 H
         refine WP.skipW ?_
         refine W.now ?_
         refine Then.n ?_
         refine WP.block ?_
         refine WP.region ?_
         refine WPL.q (q_mv (v := .lit (.int _ _)) rfl) rfl ?_
         refine WPL.q (q_add rfl rfl) rfl ?_
         refine WPL.q (q_as (v := .lit (.int _ _)) rfl) rfl ?_
         refine WPL.nilW ?_
         exact W.wk [0, 1, 2] hnp (InBlock.n (Then.n ⟨n, (IntKind.wrap .i64 (x2835 + 1)), Nat.lt_succ_self n, H, rfl, rfl⟩)) ⟨rfl, ⟨⟨⟨trivial, .inr ⟨rfl, rfl, rfl⟩⟩, .inr ⟨rfl, rfl, rfl⟩⟩, .inr ⟨rfl, rfl, rfl⟩⟩, by decide, rfl, ⟨⟨trivial, rfl⟩, rfl⟩⟩ (LeE.upd rfl rfl (LeE.upd rfl rfl (LeE.upd rfl rfl (LeE.upd rfl rfl (LeE.upd rfl rfl (LeE.upd rfl rfl (LeE.upd rfl rfl (LeE.none rfl rfl)))))))) rfl
       replace H := cnf hb2935 H
       refine WP.exitW ?_
       have q0 := (Option.some.inj H)
       subst q0
       exact W.wk [0, 1, 2] hnp (Then.x (Then.x ⟨rfl, rfl, rfl⟩)) ⟨rfl, ⟨⟨⟨trivial, .inr ⟨rfl, rfl, rfl⟩⟩, .inr ⟨rfl, rfl, rfl⟩⟩, .inr ⟨rfl, rfl, rfl⟩⟩, by decide, rfl, ⟨⟨trivial, rfl⟩, rfl⟩⟩ (LeE.upd rfl rfl (LeE.upd rfl rfl (LeE.upd rfl rfl (LeE.upd rfl rfl (LeE.upd rfl rfl (LeE.upd rfl rfl (LeE.upd rfl rfl (LeE.none rfl rfl)))))))) rfl
     rintro _ _ _ ⟨rfl, rfl, rfl⟩
     refine W.now ?_
     refine InBlock.x0 ?_
     refine Then.n ?_
     refine WP.seq ?_
     obtain ⟨⟨x2939, x2940⟩, H2941, H⟩ := bnd H
     refine WP.monoW (Q := fun x E M => x = .normal ∧ E = ((((((Env.none.upd 0 (.ptr 0 0)).upd 1 (.lit (.int .i64 x1329))).upd 6 (.lit (.int .i64 x2440))).upd 8 (.lit (.int .i64 x2939))).upd 9 (.lit (.int .i64 x2940))).upd 42 (.lit (.int .i64 x2443))) ∧ M = (((Mem.nil.push (.cells 97 [.ro (Rd.slice (Rd.int .u8)) true x1330, .mp 1, .whole 2, .lit (.int .i64 x2157)])).push (.obj (mapO fk3 (Value.int .i64) x2158))).push (.row 3 (Rd.int .i64) x2159))) ?_ ?_
     · clear H
       have H := H2941
       clear H2941
       refine WP.seq ?_
       refine WP.region ?_
       refine WPL.q (q_mv (v := .lit (.int _ _)) rfl) rfl ?_
       refine WPL.q (q_mv (v := .lit (.int _ _)) rfl) rfl ?_
       refine WPL.q (q_gtr rfl rfl) rfl ?_
       refine WPL.nilW ?_
       refine W.now ?_
       refine Then.n ?_
       refine WP.cond (t := (decide (x2441 < x2886))) rfl (fun hb2940 => ?_) (fun hb2940 => ?_)
       · replace H := cnt hb2940 H
         refine WP.region ?_
         refine WPL.q (q_mv (v := .lit (.int _ _)) rfl) rfl ?_
         refine WPL.q (q_mv (v := .lit (.int _ _)) rfl) rfl ?_
         refine WPL.q (q_mv (v := .lit (.int _ _)) rfl) rfl ?_
         refine WPL.q (q_sub rfl rfl) rfl ?_
         refine WPL.q (q_as (v := .lit (.int _ _)) rfl) rfl ?_
         refine WPL.q (q_as (v := .lit (.int _ _)) rfl) rfl ?_
         refine WPL.nilW ?_
         have q0 := (Prod.mk.inj (Option.some.inj H)).1
         have q1 := (Prod.mk.inj (Option.some.inj H)).2
         subst q0
         subst q1
         exact W.wk [0, 1, 2] hnp ⟨rfl, rfl, rfl⟩ ⟨rfl, ⟨⟨⟨trivial, .inr ⟨rfl, rfl, rfl⟩⟩, .inr ⟨rfl, rfl, rfl⟩⟩, .inr ⟨rfl, rfl, rfl⟩⟩, by decide, rfl, ⟨⟨trivial, rfl⟩, rfl⟩⟩ (LeE.upd rfl rfl (LeE.upd rfl rfl (LeE.upd rfl rfl (LeE.upd rfl rfl (LeE.upd rfl rfl (LeE.upd rfl rfl (LeE.none rfl rfl))))))) rfl
       replace H := cnf hb2940 H
       refine WP.skipW ?_
       have q0 := (Prod.mk.inj (Option.some.inj H)).1
       have q1 := (Prod.mk.inj (Option.some.inj H)).2
       subst q0
       subst q1
       exact W.wk [0, 1, 2] hnp ⟨rfl, rfl, rfl⟩ ⟨rfl, ⟨⟨⟨trivial, .inr ⟨rfl, rfl, rfl⟩⟩, .inr ⟨rfl, rfl, rfl⟩⟩, .inr ⟨rfl, rfl, rfl⟩⟩, by decide, rfl, ⟨⟨trivial, rfl⟩, rfl⟩⟩ (LeE.upd rfl rfl (LeE.upd rfl rfl (LeE.upd rfl rfl (LeE.upd rfl rfl (LeE.upd rfl rfl (LeE.upd rfl rfl (LeE.none rfl rfl))))))) rfl
     rintro _ _ _ ⟨rfl, rfl, rfl⟩
     refine W.now ?_
     refine Then.n ?_
     refine WP.region ?_
     refine WPL.q (q_mv (v := .ptr _ _) rfl) rfl ?_
     refine WPL.q (q_nilCheck rfl) rfl ?_
     refine WPL.q (q_fieldAddr fi97_2 rfl rfl) rfl ?_
     refine WPL.q (q_load sc66 rfl rfl rfl) rfl ?_
     refine WPL.q (q_mv (v := .lit (.int _ _)) rfl) rfl ?_
     obtain ⟨x2943, h2943, H⟩ := bnd H
     refine WPL.q (q_index_row sl66 rfl rfl rfl (ixs h2943)) rfl ?_
     refine WPL.q (q_load_row (j := (Int.toNat x2440)) sc3 rfl rfl (ixj h2943)) rfl ?_
     refine WPL.q (q_as (v := .lit (.int _ _)) rfl) rfl ?_
     refine WPL.nilW ?_
     refine W.now ?_
     refine InBlock.n ?_
     refine Then.n ?_
     refine WP.region ?_
     refine WPL.q (q_add rfl rfl) rfl ?_
     refine WPL.q (q_mv (v := .lit (.int _ _)) rfl) rfl ?_
     refine WPL.nilW ?_
     exact W.wk [0, 1, 2] hnp (Then.n ⟨n, (x2943, x2939, x2940, (IntKind.wrap .i64 (x2443 + 1))), Nat.lt_succ_self n, H, rfl, rfl⟩) ⟨rfl, ⟨⟨⟨trivial, .inr ⟨rfl, rfl, rfl⟩⟩, .inr ⟨rfl, rfl, rfl⟩⟩, .inr ⟨rfl, rfl, rfl⟩⟩, by decide, rfl, ⟨⟨trivial, rfl⟩, rfl⟩⟩ (LeE.upd rfl rfl (LeE.upd rfl rfl (LeE.upd rfl rfl (LeE.upd rfl rfl (LeE.upd rfl rfl (LeE.upd rfl rfl (LeE.none rfl rfl))))))) rfl
   replace H := cnf hb2670 H
   refine WP.exitW ?_
   have q0 := (Prod.mk.inj (Option.some.inj H)).1
   have q1 := (Prod.mk.inj (Option.some.inj H)).2
   subst q0
   subst q1
   exact W.wk [0, 1, 2] hnp (Then.x (Then.x ⟨rfl, rfl, rfl⟩)) ⟨rfl, ⟨⟨⟨trivial, .inr ⟨rfl, rfl, rfl⟩⟩, .inr ⟨rfl, rfl, rfl⟩⟩, .inr ⟨rfl, rfl, rfl⟩⟩, by decide, rfl, ⟨⟨trivial, rfl⟩, rfl⟩⟩ (LeE.upd rfl rfl (LeE.upd rfl rfl (LeE.none rfl rfl))) rfl
 rintro _ _ _ ⟨rfl, rfl, rfl⟩
 refine W.now ?_
 refine InBlock.x0 ?_
 refine Then.n ?_
 refine WP.seq ?_
 refine WP.region ?_
 refine WPL.q (q_mv (v := .lit (.int _ _)) rfl) rfl ?_
 refine WPL.q (q_mv (v := .lit (.int _ _)) rfl) rfl ?_
 refine WPL.q (q_as (v := .lit (.int _ _)) rfl) rfl ?_
 refine WPL.q (q_as (v := .lit (.int _ _)) rfl) rfl ?_
 refine WPL.nilW ?_
 refine W.now ?_
 refine Then.n ?_
 refine WP.retW ?_
 have q0 := (Prod.mk.inj (Option.some.inj H)).1
 have q1 := (Prod.mk.inj (Prod.mk.inj (Option.some.inj H)).2).1
 have q2 := (Prod.mk.inj (Prod.mk.inj (Prod.mk.inj (Option.some.inj H)).2).2).1
 have q3 := (Prod.mk.inj (Prod.mk.inj (Prod.mk.inj (Prod.mk.inj (Option.some.inj H)).2).2).2).1
 have q4 := (Prod.mk.inj (Prod.mk.inj (Prod.mk.inj (Prod.mk.inj (Option.some.inj H)).2).2).2).2
 subst q0
 subst q1
 subst q2
 subst q3
 subst q4
 exact W.now (Scope.r (BodyR.mkR trivial rfl [0, 1, 2] ⟨rfl, rfl⟩ ⟨rfl, ⟨⟨⟨trivial, .inr ⟨rfl, rfl, rfl⟩⟩, .inr ⟨rfl, rfl, rfl⟩⟩, .inr ⟨rfl, rfl, rfl⟩⟩, by decide, rfl, ⟨⟨trivial, rfl⟩, rfl⟩⟩ rfl rfl))
set_option maxRecDepth 100000 in
set_option maxHeartbeats 4000000 in
theorem s_slices_AppendSeq_deflate_Item_deflate_Item (k : Nat) (x1312 : (List Int)) (x3040 : (List S_deflate_Item)) (H : g_slices_AppendSeq_deflate_Item_deflate_Item k x1312 = some x3040) : Go.Q.Spec Try.prog 49 1 [.lit (.slice none 0 0), .fn 50 [.ptr 0 0]] (Mem.nil.push (.cells 22 [.ro (Rd.slice (Rd.int .u8)) true x1312])) (fun o M => o = .ret (.whole 1) ∧ M = ((Mem.nil.push (.cells 22 [.ro (Rd.slice (Rd.int .u8)) true x1312])).push (.row 36 rdS_deflate_Item x3040))) := by
 unfold g_slices_AppendSeq_deflate_Item_deflate_Item at H
 refine Go.Q.Spec.of_bodyR (az := []) (rs := [.tmp 4]) (nt := 13) Try.func49 rfl rfl (by intro t T h; simp at h) rfl rfl fun cx hnp => ?_
 refine WP.seq ?_
 refine WP.region ?_
 refine WPL.d (d_box rfl rfl) rfl ?_
 refine WPL.q (q_as (v := .lit _) rfl) rfl ?_
 refine WPL.nilW ?_
 refine W.now ?_
 refine Then.n ?_
 refine WP.seq ?_
 refine WP.seq ?_
 refine WP.region ?_
 refine WPL.q (q_mv (v := .fn _ _) rfl) rfl ?_
 refine WPL.nilW ?_
 refine W.now ?_
 refine Then.n ?_
 refine WP.block ?_
 refine WP.cv (Cv.nullMark (N := 2) rfl rfl) ?_
 refine WP.range (nti := 45) (n := 3) rfl rfl Try.func50 rfl (by kernel_rfl) rfl rfl rfl rfl fun l_3040 r_3040 aC3040 hp3040 ha3040 hb3040 ht3040 hs3040 hf3040 => ?_
 refine WP.seq ?_
 obtain ⟨_, H3049, H⟩ := bnd H
 refine WP.monoW (Q := fun x E M => x = .normal ∧ E = ((((⟨fun _ => .any, [], [⟨aC3040, (((Env.none.upd 2 (.ptr 4 0)).upd 6 (.fn 50 [.ptr 0 0]))).v, [5, 6], some (7, l_3040)⟩], []⟩ : Env).upd 0 (.lit (.func (.yield l_3040) #[] #[]))).upd 1 (.ptr 0 0)).upd 3 (.ptr 1 0)) ∧ M = ((((((((Mem.nil.push (.cells 22 [.ro (Rd.slice (Rd.int .u8)) true x1312])).push (.cells 97 [.ro (Rd.slice (Rd.int .u8)) true x1312, .mp 2, .whole 3, .lit (.int .i64 0)])).push (.obj (mapO fk3 (Value.int .i64) ([] : List ((Int × Int × Int) × Int))))).push (.row 3 (Rd.int .i64) (List.replicate (Int.toNat ((List.length x1312 : Nat) : Int)) (0 : Int)))).push (.cells 32 [.lit (.slice none 0 0)])).push (.obj (Obj.deferred (some [])))).push (.bag)).push (.obj (lp r_3040 .ready none)))) ?_ ?_
 · clear H
   have H := H3049
   clear H3049
   refine WP.regionD' 8 [0] [] mixed rfl ?_
   refine WPD.take 0 rfl (by kernel_rfl) (q_load sc22 rfl rfl rfl) rfl rfl ?_
   refine WPD.take 2 rfl (by kernel_rfl) (q_load sc22 rfl rfl rfl) rfl rfl ?_
   refine WPD.takeT 3 rfl (by kernel_rfl) (q_len_ro sl22 rfl) rfl ?_
   refine WPD.of2 1 4 (by kernel_rfl) ?_ ?_
   · refine WPD1.eff 1 [0] [] rfl (Does.runs (d_makeMap (N := 5) fk3 (Value.int .i64) rfl)) rfl rfl ?_
     obtain ⟨h3047, H⟩ := grd H
     refine WPD.eff 4 [0] [] rfl (by kernel_rfl) (Does.runs (d_make (d := (0 : Int)) (R := (Rd.int .i64)) li66 by3 rfl rfl rfl Joins.sc rfl rfl h3047 rfl)) rfl rfl ?_
     refine WPD.takeT 5 rfl (by kernel_rfl) (q_build bu97 rfl) rfl ?_
     refine WPD.eff 6 [0] [] rfl (by kernel_rfl) (Does.runs (d_box rfl rfl)) rfl rfl ?_
     refine WPD.takeT 7 rfl (by kernel_rfl) (q_as (v := .ptr _ _) rfl) rfl ?_
     refine WPD.doneW (by kernel_rfl) ?_
     exact W.wk [0, 7, 5, 6, 1, 3, 2, 4] hnp ⟨rfl, rfl, rfl⟩ ⟨rfl, ⟨⟨⟨⟨⟨⟨⟨⟨trivial, .inr ⟨rfl, rfl, rfl⟩⟩, .inr ⟨rfl, rfl, rfl⟩⟩, .inr ⟨rfl, rfl, rfl⟩⟩, .inr ⟨rfl, rfl, rfl⟩⟩, .inr ⟨rfl, rfl, rfl⟩⟩, .inr ⟨rfl, rfl, rfl⟩⟩, .inr ⟨rfl, rfl, rfl⟩⟩, .inr ⟨rfl, rfl, rfl⟩⟩, by decide, rfl, ⟨trivial, rfl⟩⟩ (LeE.upd rfl rfl (LeE.upd rfl rfl (LeE.upd rfl rfl (LeE.noneD rfl rfl (.cons ⟨rfl, (LeV.upd rfl rfl (LeV.upd rfl rfl LeV.none)), rfl, rfl, rfl, rfl⟩ .nil))))) rfl
   obtain ⟨h3048, H⟩ := grd H
   refine WPD1.eff 4 [0] [] rfl (Does.runs (d_make (d := (0 : Int)) (R := (Rd.int .i64)) li66 by3 rfl rfl rfl Joins.sc rfl rfl h3048 rfl)) rfl rfl ?_
   refine WPD.eff 1 [0] [] rfl (by kernel_rfl) (Does.runs (d_makeMap (N := 6) fk3 (Value.int .i64) rfl)) rfl rfl ?_
   refine WPD.takeT 5 rfl (by kernel_rfl) (q_build bu97 rfl) rfl ?_
   refine WPD.eff 6 [0] [] rfl (by kernel_rfl) (Does.runs (d_box rfl rfl)) rfl rfl ?_
   refine WPD.takeT 7 rfl (by kernel_rfl) (q_as (v := .ptr _ _) rfl) rfl ?_
   refine WPD.doneW (by kernel_rfl) ?_
   exact W.wk [0, 7, 6, 5, 1, 3, 2, 4] hnp ⟨rfl, rfl, rfl⟩ ⟨rfl, ⟨⟨⟨⟨⟨⟨⟨⟨trivial, .inr ⟨rfl, rfl, rfl⟩⟩, .inr ⟨rfl, rfl, rfl⟩⟩, .inr ⟨rfl, rfl, rfl⟩⟩, .inr ⟨rfl, rfl, rfl⟩⟩, .inr ⟨rfl, rfl, rfl⟩⟩, .inr ⟨rfl, rfl, rfl⟩⟩, .inr ⟨rfl, rfl, rfl⟩⟩, .inr ⟨rfl, rfl, rfl⟩⟩, by decide, rfl, ⟨trivial, rfl⟩⟩ (LeE.upd rfl rfl (LeE.upd rfl rfl (LeE.upd rfl rfl (LeE.noneD rfl rfl (.cons ⟨rfl, (LeV.upd rfl rfl (LeV.upd rfl rfl LeV.none)), rfl, rfl, rfl, rfl⟩ .nil))))) rfl
 rintro _ _ _ ⟨rfl, rfl, rfl⟩
 refine W.now ?_
 refine Then.n ?_
 refine WP.seq ?_
 refine WP.region ?_
 refine WPL.q (q_as (v := .lit (.int _ _)) rfl) rfl ?_
 refine WPL.nilW ?_
 refine W.now ?_
 refine Then.n ?_
 refine WP.block ?_
 refine WP.cv (Cv.virC 36 rdS_deflate_Item (N := 8) rfl rfl (i := 4) (off := 0) rfl rfl) ?_
 refine WP.cv (Cv.weak (E' := (((((⟨fun _ => .any, [], [⟨aC3040, (((Env.none.upd 2 (.ptr 4 0)).upd 6 (.fn 50 [.ptr 0 0]))).v, [6, 7], some (8, l_3040)⟩], []⟩ : Env).upd 0 (.lit (.func (.yield l_3040) #[] #[]))).upd 1 (.ptr 0 0)).upd 3 (.ptr 1 0)).upd 4 (.lit (.int .i64 0)))) (M' := (((((((((Mem.nil.push (.cells 22 [.ro (Rd.slice (Rd.int .u8)) true x1312])).push (.cells 97 [.ro (Rd.slice (Rd.int .u8)) true x1312, .mp 2, .whole 3, .lit (.int .i64 0)])).push (.obj (mapO fk3 (Value.int .i64) ([] : List ((Int × Int × Int) × Int))))).push (.row 3 (Rd.int .i64) (List.replicate (Int.toNat ((List.length x1312 : Nat) : Int)) (0 : Int)))).push (.cells 32 [.whole 5])).push (.row 36 rdS_deflate_Item ([] : List S_deflate_Item))).push (.obj (Obj.deferred (some [])))).push (.bag)).push (.obj (lp r_3040 .ready none)))) [0, 1, 2, 3, 4, 8, 5, 6, 7] hnp ⟨rfl, ⟨⟨⟨⟨⟨⟨⟨⟨⟨trivial, .inr ⟨rfl, rfl, rfl⟩⟩, .inr ⟨rfl, rfl, rfl⟩⟩, .inr ⟨rfl, rfl, rfl⟩⟩, .inr ⟨rfl, rfl, rfl⟩⟩, .inr ⟨rfl, rfl, rfl⟩⟩, .inr ⟨rfl, rfl, rfl⟩⟩, .inr ⟨rfl, rfl, rfl⟩⟩, .inr ⟨rfl, rfl, rfl⟩⟩, .inr ⟨rfl, rfl, rfl⟩⟩, by decide, rfl, ⟨trivial, rfl⟩⟩ (LeE.upd rfl rfl (LeE.upd rfl rfl (LeE.upd rfl rfl (LeE.upd rfl rfl (LeE.noneD rfl rfl (.cons ⟨rfl, (LeV.upd rfl rfl (LeV.upd rfl rfl LeV.none)), rfl, rfl, rfl, rfl⟩ .nil))))))) ?_
 obtain ⟨x3149, H3180, H⟩ := bnd H
 refine WP.monoW (Q := fun x E M => x = .exit 0 ∧ E = (⟨fun _ => .any, [], [⟨aC3040, (((Env.none.upd 2 (.ptr 1 0)).upd 6 (.fn 50 [.ptr 0 0]))).v, [3, 4], some (5, l_3040)⟩], []⟩ : Env) ∧ M = ((((((Mem.nil.push (.cells 22 [.ro (Rd.slice (Rd.int .u8)) true x1312])).push (.cells 32 [.whole 2])).push (.row 36 rdS_deflate_Item x3149)).push (.obj (Obj.deferred (some [])))).push (.bag)).push (.obj (lp r_3040 .ready none)))) ?_ ?_
 · refine WP.loop (β := Int × Int × (List ((Int × Int × Int) × Int)) × (List Int) × (List S_deflate_Item)) (fun n b => g_slices_AppendSeq_deflate_Item_deflate_Item_l0 k x1312 n b.1 b.2.1 b.2.2.1 b.2.2.2.1 b.2.2.2.2 = some x3149) (fun b => (((((⟨fun _ => .any, [], [⟨aC3040, (((Env.none.upd 2 (.ptr 4 0)).upd 6 (.fn 50 [.ptr 0 0]))).v, [6, 7], some (8, l_3040)⟩], []⟩ : Env).upd 0 (.lit (.func (.yield l_3040) #[] #[]))).upd 1 (.ptr 0 0)).upd 3 (.ptr 1 0)).upd 4 (.lit (.int .i64 b.1)))) (fun b => (((((((((Mem.nil.push (.cells 22 [.ro (Rd.slice (Rd.int .u8)) true x1312])).push (.cells 97 [.ro (Rd.slice (Rd.int .u8)) true x1312, .mp 2, .whole 3, .lit (.int .i64 b.2.1)])).push (.obj (mapO fk3 (Value.int .i64) b.2.2.1))).push (.row 3 (Rd.int .i64) b.2.2.2.1)).push (.cells 32 [.whole 5])).push (.row 36 rdS_deflate_Item b.2.2.2.2)).push (.obj (Obj.deferred (some [])))).push (.bag)).push (.obj (lp r_3040 .ready none)))) k (0, 0, ([] : List ((Int × Int × Int) × Int)), (List.replicate (Int.toNat ((List.length x1312 : Nat) : Int)) (0 : Int)), ([] : List S_deflate_Item)) H3180 rfl rfl ?_
   rintro n ⟨x3113, x3114, x3115, x3116, x3117⟩ H
   obtain _ | n := n
   · exact nf rfl H
   rw [g_slices_AppendSeq_deflate_Item_deflate_Item_l0.eq_2] at H
   show WP _ _ _ _ (((((⟨fun _ => .any, [], [⟨aC3040, (((Env.none.upd 2 (.ptr 4 0)).upd 6 (.fn 50 [.ptr 0 0]))).v, [6, 7], some (8, l_3040)⟩], []⟩ : Env).upd 0 (.lit (.func (.yield l_3040) #[] #[]))).upd 1 (.ptr 0 0)).upd 3 (.ptr 1 0)).upd 4 (.lit (.int .i64 x3113))) (((((((((Mem.nil.push (.cells 22 [.ro (Rd.slice (Rd.int .u8)) true x1312])).push (.cells 97 [.ro (Rd.slice (Rd.int .u8)) true x1312, .mp 2, .whole 3, .lit (.int .i64 x3114)])).push (.obj (mapO fk3 (Value.int .i64) x3115))).push (.row 3 (Rd.int .i64) x3116)).push (.cells 32 [.whole 5])).push (.row 36 rdS_deflate_Item x3117)).push (.obj (Obj.deferred (some [])))).push (.bag)).push (.obj (lp r_3040 .ready none))) _
   refine WP.seq ?_
   refine WP.seq ?_
   refine WP.region ?_
   refine WPL.q (q_mv (v := .lit (.int _ _)) rfl) rfl ?_
   refine WPL.q (q_load sc22 rfl rfl rfl) rfl ?_
   refine WPL.q (q_len_ro sl22 rfl) rfl ?_
   obtain ⟨x3152, h3152, H⟩ := bnd H
   refine WPL.q (q_nm (q_lss rfl rfl) (nm_bool h3152)) rfl ?_
   refine WPL.nilW ?_
   refine W.now ?_
   refine Then.n ?_
   refine WP.cond (t := x3152) rfl (fun hb3152 => ?_) (fun hb3152 => ?_)
   · replace H := cnt hb3152 H
     refine WP.skipW ?_
     refine W.now ?_
     refine Then.n ?_
     refine WP.block ?_
     refine WP.seq ?_
     refine WP.region ?_
     refine WPL.q (q_load sc22 rfl rfl rfl) rfl ?_
     refine WPL.q (q_mv (v := .lit (.int _ _)) rfl) rfl ?_
     obtain ⟨x3154, h3154, H⟩ := bnd H
     refine WPL.q (q_index_ro sl22 rfl rfl rfl h3154) rfl ?_
     refine WPL.q (q_load_sc sc5 rfl) rfl ?_
     refine WPL.q (q_conv Try.underlying5 Try.underlying3 rfl) rfl ?_
     refine WPL.q (q_build bu36 rfl) rfl ?_
     refine WPL.d (d_alloc ze36 rfl) rfl ?_
     refine WPL.s (s_store sz36 rfl rfl rfl rfl rfl) ?_
     refine WPL.nilW ?_
     refine W.now ?_
     refine Then.n ?_
     refine WP.seq ?_
     refine WP.region ?_
     refine WPL.q (q_as (v := .lit (.int _ _)) rfl) rfl ?_
     refine WPL.nilW ?_
     refine W.now ?_
     refine Then.n ?_
     refine WP.seq ?_
     obtain ⟨⟨x3162, x3163, x3164, x3165, x3166, x3167, x3168⟩, H3175, H⟩ := bnd H
     refine WP.monoW (Q := fun x E M => x = .normal ∧ E = (((((((⟨fun _ => .any, [], [⟨aC3040, (((Env.none.upd 2 (.ptr 5 0)).upd 6 (.fn 50 [.ptr 0 0]))).v, [7, 8], some (9, l_3040)⟩], []⟩ : Env).upd 0 (.lit (.func (.yield l_3040) #[] #[]))).upd 1 (.ptr 0 0)).upd 3 (.ptr 1 0)).upd 4 (.lit (.int .i64 x3113))).upd 5 (.ptr 4 0)).upd 6 (.lit (.int .i64 x3162))) ∧ M = ((((((((((Mem.nil.push (.cells 22 [.ro (Rd.slice (Rd.int .u8)) true x1312])).push (.cells 97 [.ro (Rd.slice (Rd.int .u8)) true x1312, .mp 2, .whole 3, .lit (.int .i64 x3163)])).push (.obj (mapO fk3 (Value.int .i64) x3164))).push (.row 3 (Rd.int .i64) x3165)).push (.cells 36 [.lit (.int .i64 x3166), .lit (.int .i64 x3167), .lit (.int .i64 x3168)])).push (.cells 32 [.whole 6])).push (.row 36 rdS_deflate_Item x3117)).push (.obj (Obj.deferred (some [])))).push (.bag)).push (.obj (lp r_3040 .ready none)))) ?_ ?_
     · clear H
       have H := H3175
       clear H3175
       refine WP.seq ?_
       refine WP.region ?_
       refine WPL.q (q_mv (v := .ptr _ _) rfl) rfl ?_
       refine WPL.q (q_mv (v := .lit (.int _ _)) rfl) rfl ?_
       obtain ⟨⟨x3170, x3171, x3172, x3173, x3174⟩, h3168, H⟩ := bnd H
       refine WPL.c (runs_call (s := [1, 2, 3]) (t := [1, 2, 10]) (N := 11) (bor := []) fn51 rfl (s_deflate_matcher_longest k x3113 x1312 x3114 x3115 x3116 x3170 x3171 x3172 x3173 x3174 h3168) ⟨rfl, ⟨⟨⟨trivial, .inr ⟨rfl, rfl, rfl⟩⟩, .inr ⟨rfl, rfl, rfl⟩⟩, .inr ⟨rfl, rfl, rfl⟩⟩, by decide, rfl, trivial⟩ rfl trivial (.ren rfl rfl (.ren rfl rfl .nil)) rfl ⟨⟨⟨trivial, rfl⟩, rfl⟩, rfl⟩ rfl) rfl ?_
       refine WPL.q (q_mv (v := .tup _) rfl) rfl ?_
       refine WPL.q (q_extract rfl rfl) rfl ?_
       refine WPL.q (q_extract rfl rfl) rfl ?_
       refine WPL.q (q_as (v := .lit (.int _ _)) rfl) rfl ?_
       refine WPL.q (q_as (v := .lit (.int _ _)) rfl) rfl ?_
       refine WPL.nilW ?_
       refine W.now ?_
       refine Then.n ?_
       refine WP.seq ?_
       refine WP.region ?_
       refine WPL.q (q_mv (v := .lit (.int _ _)) rfl) rfl ?_
       refine WPL.q (q_geq rfl rfl) rfl ?_
       refine WPL.nilW ?_
       refine W.now ?_
       refine Then.n ?_
       refine WP.cond (t := (decide (3 ≤ x3170))) rfl (fun hb3174 => ?_) (fun hb3174 => ?_)
       · replace H := cnt hb3174 H
         refine WP.region ?_
         refine WPL.q (q_mv (v := .lit (.int _ _)) rfl) rfl ?_
         refine WPL.q (q_mv (v := .lit (.int _ _)) rfl) rfl ?_
         refine WPL.q (q_build bu36 rfl) rfl ?_
         refine WPL.q (q_mv (v := .lit (.int _ _)) rfl) rfl ?_
         refine WPL.s (s_store sz36 rfl rfl rfl rfl rfl) ?_
         refine WPL.q (q_as (v := .lit (.int _ _)) rfl) rfl ?_
         refine WPL.nilW ?_
         have q0 := (Prod.mk.inj (Option.some.inj H)).1
         have q1 := (Prod.mk.inj (Prod.mk.inj (Option.some.inj H)).2).1
         have q2 := (Prod.mk.inj (Prod.mk.inj (Prod.mk.inj (Option.some.inj H)).2).2).1
         have q3 := (Prod.mk.inj (Prod.mk.inj (Prod.mk.inj (Prod.mk.inj (Option.some.inj H)).2).2).2).1
         have q4 := (Prod.mk.inj (Prod.mk.inj (Prod.mk.inj (Prod.mk.inj (Prod.mk.inj (Option.some.inj H)).2).2).2).2).1
         have q5 := (Prod.mk.inj (Prod.mk.inj (Prod.mk.inj (Prod.mk.inj (Prod.mk.inj (Prod.mk.inj (Option.some.inj H)).2).2).2).2).2).1
         have q6 := (Prod.mk.inj (Prod.mk.inj (Prod.mk.inj (Prod.mk.inj (Prod.mk.inj (Prod.mk.inj (Option.some.inj H)).2).2).2).2).2).2
         subst q0
         subst q1
         subst q2
         subst q3
         subst q4
         subst q5
         subst q6
         exact W.wk [0, 1, 2, 10, 9, 4, 5, 6, 7, 8] hnp ⟨rfl, rfl, rfl⟩ ⟨rfl, ⟨⟨⟨⟨⟨⟨⟨⟨⟨⟨trivial, .inr ⟨rfl, rfl, rfl⟩⟩, .inr ⟨rfl, rfl, rfl⟩⟩, .inr ⟨rfl, rfl, rfl⟩⟩, .inr ⟨rfl, rfl, rfl⟩⟩, .inr ⟨rfl, rfl, rfl⟩⟩, .inr ⟨rfl, rfl, rfl⟩⟩, .inr ⟨rfl, rfl, rfl⟩⟩, .inr ⟨rfl, rfl, rfl⟩⟩, .inr ⟨rfl, rfl, rfl⟩⟩, .inr ⟨rfl, rfl, rfl⟩⟩, by decide, rfl, ⟨trivial, rfl⟩⟩ (LeE.upd rfl rfl (LeE.upd rfl rfl (LeE.upd rfl rfl (LeE.upd rfl rfl (LeE.upd rfl rfl (LeE.upd rfl rfl (LeE.noneD rfl rfl (.cons ⟨rfl, (LeV.upd rfl rfl (LeV.upd rfl rfl LeV.none)), rfl, rfl, rfl, rfl⟩ .nil)))))))) rfl
       replace H := cnf hb3174 H
       refine WP.skipW ?_
       have q0 := (Prod.mk.inj (Option.some.inj H)).1
       have q1 := (Prod.mk.inj (Prod.mk.inj (Option.some.inj H)).2).1
       have q2 := (Prod.mk.inj (Prod.mk.inj (Prod.mk.inj (Option.some.inj H)).2).2).1
       have q3 := (Prod.mk.inj (Prod.mk.inj (Prod.mk.inj (Prod.mk.inj (Option.some.inj H)).2).2).2).1
       have q4 := (Prod.mk.inj (Prod.mk.inj (Prod.mk.inj (Prod.mk.inj (Prod.mk.inj (Option.some.inj H)).2).2).2).2).1
       have q5 := (Prod.mk.inj (Prod.mk.inj (Prod.mk.inj (Prod.mk.inj (Prod.mk.inj (Prod.mk.inj (Option.some.inj H)).2).2).2).2).2).1
       have q6 := (Prod.mk.inj (Prod.mk.inj (Prod.mk.inj (Prod.mk.inj (Prod.mk.inj (Prod.mk.inj (Option.some.inj H)).2).2).2).2).2).2
       subst q0
       subst q1
       subst q2
       subst q3
       subst q4
       subst q5
       subst q6
       exact W.wk [0, 1, 2, 10, 9, 4, 5, 6, 7, 8] hnp ⟨rfl, rfl, rfl⟩ ⟨rfl, ⟨⟨⟨⟨⟨⟨⟨⟨⟨⟨trivial, .inr ⟨rfl, rfl, rfl⟩⟩, .inr ⟨rfl, rfl, rfl⟩⟩, .inr ⟨rfl, rfl, rfl⟩⟩, .inr ⟨rfl, rfl, rfl⟩⟩, .inr ⟨rfl, rfl, rfl⟩⟩, .inr ⟨rfl, rfl, rfl⟩⟩, .inr ⟨rfl, rfl, rfl⟩⟩, .inr ⟨rfl, rfl, rfl⟩⟩, .inr ⟨rfl, rfl, rfl⟩⟩, .inr ⟨rfl, rfl, rfl⟩⟩, by decide, rfl, ⟨trivial, rfl⟩⟩ (LeE.upd rfl rfl (LeE.upd rfl rfl (LeE.upd rfl rfl (LeE.upd rfl rfl (LeE.upd rfl rfl (LeE.upd rfl rfl (LeE.noneD rfl rfl (.cons ⟨rfl, (LeV.upd rfl rfl (LeV.upd rfl rfl LeV.none)), rfl, rfl, rfl, rfl⟩ .nil)))))))) rfl
     rintro _ _ _ ⟨rfl, rfl, rfl⟩
     refine W.now ?_
     refine Then.n ?_
     refine WP.seq ?_
     refine WP.seq ?_
     refine WP.region ?_
     refine WPL.q (q_mv (v := .lit _) rfl) rfl ?_
     refine WPL.q (q_load_ag ag36 rfl rfl (Nat.le_of_ble_eq_true rfl)) rfl ?_
     refine WPL.y rfl rfl rfl rfl hp3040 ha3040 hb3040 ht3040 hs3040 hf3040 rfl rfl rfl fun aI3178 => ?_
     refine WP.region ?_
     refine WPL.d (d_alloc ze36 rfl) rfl ?_
     refine WPL.s (s_store sz36 rfl rfl rfl rfl rfl) ?_
     refine WPL.nilW ?_
     refine W.now ?_
     refine ⟨rfl, rfl, _, _, _, _, _, _, rfl, rfl, ?_⟩
     refine WP.block ?_
     refine WP.region ?_
     refine WPL.q (q_load sc32 rfl rfl rfl) rfl ?_
     refine WPL.q (q_load_ag ag36 rfl rfl (Nat.le_of_ble_eq_true rfl)) rfl ?_
     refine WPL.d (d_buildSlice (ds := ([(⟨x3166, x3167, x3168⟩ : S_deflate_Item)] : List S_deflate_Item)) (R := rdS_deflate_Item) li32 rfl rfl rfl rfl rfl (JoinRows.cons (l := [.lit (.int .i64 x3166), .lit (.int .i64 x3167), .lit (.int .i64 x3168)]) (Joins.via (Joins.cons Joins.sc (Joins.cons Joins.sc (Joins.cons Joins.sc Joins.unit)))) rfl JoinRows.nil) rfl rfl) rfl ?_
     obtain ⟨h3179, H⟩ := grd H
     refine WPL.d (d_append ap32 rfl rfl rfl rfl (src_row sl32 rfl rfl) h3179 rfl) rfl ?_
     refine WPL.s (s_store sz32 rfl rfl rfl rfl rfl) ?_
     refine WPL.nilW ?_
     refine W.now ?_
     refine InBlock.n ?_
     refine ⟨rfl, _, _, _, _, _, _, rfl, rfl, _, rfl, ?_⟩
     refine WPL.q (q_not rfl) rfl ?_
     refine WPL.nilW ?_
     refine W.now ?_
     refine Then.n ?_
     refine WP.condFB (t := (!true)) rfl rfl ?_
     refine WP.skipW ?_
     refine W.now ?_
     refine Then.n ?_
     refine WP.region ?_
     refine WPL.q (q_mv (v := .lit (.int _ _)) rfl) rfl ?_
     refine WPL.q (q_mv (v := .lit (.int _ _)) rfl) rfl ?_
     refine WPL.q (q_add rfl rfl) rfl ?_
     refine WPL.q (q_as (v := .lit (.int _ _)) rfl) rfl ?_
     refine WPL.nilW ?_
     exact W.wk [0, 1, 2, 3, 5, 12, 7, 8, 9] hnp (InBlock.n (Then.n ⟨n, ((IntKind.wrap .i64 (x3113 + x3162)), x3163, x3164, x3165, (x3117 ++ ([(⟨x3166, x3167, x3168⟩ : S_deflate_Item)] : List S_deflate_Item))), Nat.lt_succ_self n, H, rfl, rfl⟩)) ⟨rfl, ⟨⟨⟨⟨⟨⟨⟨⟨⟨trivial, .inr ⟨rfl, rfl, rfl⟩⟩, .inr ⟨rfl, rfl, rfl⟩⟩, .inr ⟨rfl, rfl, rfl⟩⟩, .inr ⟨rfl, rfl, rfl⟩⟩, .inr ⟨rfl, rfl, rfl⟩⟩, .inr ⟨rfl, rfl, rfl⟩⟩, .inr ⟨rfl, rfl, rfl⟩⟩, .inr ⟨rfl, rfl, rfl⟩⟩, .inr ⟨rfl, rfl, rfl⟩⟩, by decide, rfl, ⟨trivial, rfl⟩⟩ (LeE.upd rfl rfl (LeE.upd rfl rfl (LeE.upd rfl rfl (LeE.upd rfl rfl (LeE.noneD rfl rfl (.cons ⟨rfl, (LeV.upd rfl rfl (LeV.upd rfl rfl LeV.none)), rfl, rfl, rfl, rfl⟩ .nil)))))) rfl
   replace H := cnf hb3152 H
   refine WP.exitW ?_
   have q0 := (Option.some.inj H)
   subst q0
   exact W.wk [0, 4, 5, 6, 7, 8] hnp (Then.x (Then.x ⟨rfl, rfl, rfl⟩)) ⟨rfl, ⟨⟨⟨⟨⟨⟨trivial, .inr ⟨rfl, rfl, rfl⟩⟩, .inr ⟨rfl, rfl, rfl⟩⟩, .inr ⟨rfl, rfl, rfl⟩⟩, .inr ⟨rfl, rfl, rfl⟩⟩, .inr ⟨rfl, rfl, rfl⟩⟩, .inr ⟨rfl, rfl, rfl⟩⟩, by decide, rfl, ⟨trivial, rfl⟩⟩ (LeE.noneD rfl rfl (.cons ⟨rfl, (LeV.upd rfl rfl (LeV.upd rfl rfl LeV.none)), rfl, rfl, rfl, rfl⟩ .nil)) rfl
 rintro _ _ _ ⟨rfl, rfl, rfl⟩
 refine W.now ?_
 refine InBlock.x0 ?_
 refine ⟨trivial, _, _, _, _, rfl, _, _, rfl, (fun h => by cases h), ?_⟩
 refine W.cv (Cv.absorb (N := 6) (j := 3) (i := 4) rfl rfl rfl rfl) rfl ?_
 refine W.now ?_
 refine InBlock.n ?_
 refine Then.n ?_
 refine WP.seq ?_
 refine WP.region ?_
 refine WPL.q (q_load sc32 rfl rfl rfl) rfl ?_
 refine WPL.q (q_as (v := .whole _) rfl) rfl ?_
 refine WPL.nilW ?_
 refine W.now ?_
 refine Then.n ?_
 refine WP.retW ?_
 have q0 := (Option.some.inj H)
 subst q0
 exact W.now (BodyR.mkR ⟨.inr rfl, trivial⟩ rfl [0, 2] ⟨rfl, rfl⟩ ⟨rfl, ⟨⟨trivial, .inr ⟨rfl, rfl, rfl⟩⟩, .inr ⟨rfl, rfl, rfl⟩⟩, by decide, rfl, ⟨trivial, rfl⟩⟩ rfl rfl)
end Go.Proofs.Ytmmeanjjfhimjaa.W
namespace Go.Proofs.Ytmmeanjjfhimjaa.W
open Go Go.Q Go.Proofs
set_option linter.unusedVariables false
set_option linter.unusedSimpArgs false
set_option maxRecDepth 100000 in
set_option maxHeartbeats 4000000 in
theorem s_slices_Collect_deflate_Item (k : Nat) (x1310 : (List Int)) (x3184 : (List S_deflate_Item)) (H : g_slices_Collect_deflate_Item k x1310 = some x3184) : Go.Q.Spec Try.prog 21 1 [.fn 50 [.ptr 0 0]] (Mem.nil.push (.cells 22 [.ro (Rd.slice (Rd.int .u8)) true x1310])) (fun o M => o = .ret (.ro (Rd.slice rdS_deflate_Item) false x3184) ∧ M = (Mem.nil.push (.cells 22 [.ro (Rd.slice (Rd.int .u8)) true x1310]))) := by
 unfold g_slices_Collect_deflate_Item at H
 refine Go.Q.Spec.of_bodyR (az := []) (rs := [.tmp 2]) (nt := 5) Try.func21 rfl rfl (by intro t T h; simp at h) rfl rfl fun cx hnp => ?_
 refine WP.seq ?_
 refine WP.region ?_
 refine WPL.q (q_as (v := .lit _) rfl) rfl ?_
 refine WPL.nilW ?_
 refine W.now ?_
 refine Then.n ?_
 refine WP.seq ?_
 refine WP.region ?_
 refine WPL.q (q_mv (v := .fn _ _) rfl) rfl ?_
 obtain ⟨x3186, h3184, H⟩ := bnd H
 refine WPL.c (runs_call (s := [0]) (t := [0, 1]) (N := 2) (bor := []) fn49 rfl (s_slices_AppendSeq_deflate_Item_deflate_Item k x1310 x3186 h3184) ⟨rfl, ⟨trivial, .inr ⟨rfl, rfl, rfl⟩⟩, by decide, rfl, trivial⟩ rfl trivial (.ren rfl rfl (.ren rfl rfl .nil)) rfl ⟨⟨trivial, rfl⟩, rfl⟩ rfl) rfl ?_
 refine WPL.q (q_as (v := .whole _) rfl) rfl ?_
 refine WPL.nilW ?_
 refine W.now ?_
 refine Then.n ?_
 refine WP.retW ?_
 refine W.cv (Cv.frzRow (i := 1) rfl rfl hnp rfl rfl) rfl ?_
 have q0 := (Option.some.inj H)
 subst q0
 exact W.now (BodyR.mkR trivial rfl [0] ⟨rfl, rfl⟩ ⟨rfl, ⟨trivial, .inr ⟨rfl, rfl, rfl⟩⟩, by decide, rfl, ⟨trivial, rfl⟩⟩ rfl rfl)
set_option maxRecDepth 100000 in
set_option maxHeartbeats 4000000 in
theorem s_deflate_Parse (k : Nat) (x1305 : (List Int)) (x3189 : (List S_deflate_Item)) (H : g_deflate_Parse k x1305 = some x3189) : Go.Q.Spec Try.prog 13 0 [.ro (Rd.slice (Rd.int .u8)) true x1305] Mem.nil (fun o M => o = .ret (.ro (Rd.slice rdS_deflate_Item) false x3189) ∧ M = Mem.nil) := by
 unfold g_deflate_Parse at H
 refine Go.Q.Spec.of_bodyR (az := []) (rs := [.tmp 2]) (nt := 6) Try.func13 rfl rfl (by intro t T h; simp at h) rfl rfl fun cx hnp => ?_
 refine WP.seq ?_
 refine WP.region ?_
 refine WPL.q (q_as (v := .lit _) rfl) rfl ?_
 refine WPL.nilW ?_
 refine W.now ?_
 refine Then.n ?_
 refine WP.seq ?_
 refine WP.region ?_
 refine WPL.q (q_mv (v := .ro _ _ _) rfl) rfl ?_
 obtain ⟨_, h3189, H⟩ := bnd H
 refine WPL.c (runs_call (s := []) (t := [0]) (N := 1) (bor := []) fn22 rfl (s_deflate_items k x1305 h3189) ⟨rfl, trivial, by decide, rfl, trivial⟩ rfl trivial (.ren rfl rfl .nil) rfl ⟨trivial, rfl⟩ rfl) rfl ?_
 obtain ⟨x3192, h3190, H⟩ := bnd H
 refine WPL.c (runs_call (s := [0]) (t := [0]) (N := 1) (bor := []) fn21 rfl (s_slices_Collect_deflate_Item k x1305 x3192 h3190) ⟨rfl, ⟨trivial, .inr ⟨rfl, rfl, rfl⟩⟩, by decide, rfl, trivial⟩ rfl trivial (.ren rfl rfl .nil) rfl ⟨trivial, rfl⟩ rfl) rfl ?_
 refine WPL.q (q_as (v := .ro _ _ _) rfl) rfl ?_
 refine WPL.nilW ?_
 refine W.now ?_
 refine Then.n ?_
 refine WP.retW ?_
 have q0 := (Option.some.inj H)
 subst q0
 exact W.now (BodyR.mkR trivial rfl [] ⟨rfl, rfl⟩ ⟨rfl, trivial, by decide, rfl, trivial⟩ rfl rfl)
set_option maxRecDepth 100000 in
set_option maxHeartbeats 4000000 in
theorem s_inflate_laid (k : Nat) (x3203 : (List S_inflate_run)) (x3254 : (List Int)) (H : g_inflate_laid k x3203 = some x3254) : Go.Q.Spec Try.prog 54 0 [.ro (Rd.slice rdS_inflate_run) true x3203] Mem.nil (fun o M => o = .ret (.ro (Rd.slice (Rd.int .i64)) false x3254) ∧ M = Mem.nil) := by
 unfold g_inflate_laid at H
 refine Go.Q.Spec.of_bodyR (az := []) (rs := [.tmp 2]) (nt := 24) Try.func54 rfl rfl (by intro t T h; simp at h) rfl rfl fun cx hnp => ?_
 refine WP.seq ?_
 refine WP.region ?_
 refine WPL.q (q_as (v := .lit _) rfl) rfl ?_
 refine WPL.nilW ?_
 refine W.now ?_
 refine Then.n ?_
 refine WP.seq ?_
 refine WP.region ?_
 refine WPL.q (q_as (v := .lit _) rfl) rfl ?_
 refine WPL.nilW ?_
 refine W.now ?_
 refine Then.n ?_
 refine WP.seq ?_
 refine WP.seq ?_
 refine WP.region ?_
 refine WPL.q (q_mv (v := .ro _ _ _) rfl) rfl ?_
 refine WPL.q (q_len_ro sl138 rfl) rfl ?_
 refine WPL.q (q_mv (v := .lit (.int _ _)) rfl) rfl ?_
 refine WPL.nilW ?_
 refine W.now ?_
 refine Then.n ?_
 refine WP.block ?_
 refine WP.cv (Cv.vir 3 (Rd.int .i64) (N := 0) rfl 3 rfl) ?_
 refine WP.cv (Cv.weak (E' := ((((Env.none.upd 3 (.whole 0)).upd 6 (.ro (Rd.slice rdS_inflate_run) true x3203)).upd 7 (.lit (.int .i64 ((List.length x3203 : Nat) : Int)))).upd 8 (.lit (.int .i64 0)))) (M' := (Mem.nil.push (.row 3 (Rd.int .i64) ([] : List Int)))) [0] hnp ⟨rfl, ⟨trivial, .inr ⟨rfl, rfl, rfl⟩⟩, by decide, rfl, trivial⟩ (LeE.upd rfl rfl (LeE.upd rfl rfl (LeE.upd rfl rfl (LeE.upd rfl rfl (LeE.none rfl rfl)))))) ?_
 obtain ⟨x3302, H3319, H⟩ := bnd H
 refine WP.monoW (Q := fun x E M => x = .exit 0 ∧ E = (Env.none.upd 3 (.whole 0)) ∧ M = (Mem.nil.push (.row 3 (Rd.int .i64) x3302))) ?_ ?_
 · refine WP.loop (β := Int × (List Int)) (fun n b => g_inflate_laid_l0 k x3203 n b.1 b.2 = some x3302) (fun b => ((((Env.none.upd 3 (.whole 0)).upd 6 (.ro (Rd.slice rdS_inflate_run) true x3203)).upd 7 (.lit (.int .i64 ((List.length x3203 : Nat) : Int)))).upd 8 (.lit (.int .i64 b.1)))) (fun b => (Mem.nil.push (.row 3 (Rd.int .i64) b.2))) k (0, ([] : List Int)) H3319 rfl rfl ?_
   rintro n ⟨x3286, x3287⟩ H
   obtain _ | n := n
   · exact nf rfl H
   rw [g_inflate_laid_l0.eq_2] at H
   show WP _ _ _ _ ((((Env.none.upd 3 (.whole 0)).upd 6 (.ro (Rd.slice rdS_inflate_run) true x3203)).upd 7 (.lit (.int .i64 ((List.length x3203 : Nat) : Int)))).upd 8 (.lit (.int .i64 x3286))) (Mem.nil.push (.row 3 (Rd.int .i64) x3287)) _
   refine WP.seq ?_
   refine WP.region ?_
   obtain ⟨x3303, h3303, H⟩ := bnd H
   refine WPL.q (q_nm (q_lss rfl rfl) (nm_bool h3303)) rfl ?_
   refine WPL.nilW ?_
   refine W.now ?_
   refine Then.n ?_
   refine WP.seq ?_
   refine WP.cond (t := x3303) rfl (fun hb3304 => ?_) (fun hb3304 => ?_)
   · replace H := cnt hb3304 H
     refine WP.skipW ?_
     refine W.now ?_
     refine Then.n ?_
     refine WP.seq ?_
     refine WP.block ?_
     refine WP.seq ?_
     refine WP.region ?_
     obtain ⟨x3306, h3306, H⟩ := bnd H
     refine WPL.q (q_index_ro sl138 rfl rfl rfl h3306) rfl ?_
     refine WPL.q (q_load_roag ag109 rfl rfl S_inflate_run.sp) rfl ?_
     refine WPL.d (d_alloc ze109 rfl) rfl ?_
     refine WPL.s (s_store sz109 rfl rfl rfl rfl rfl) ?_
     refine WPL.nilW ?_
     refine W.now ?_
     refine Then.n ?_
     refine WP.seq ?_
     refine WP.region ?_
     refine WPL.q (q_fieldAddr fi109_0 rfl rfl) rfl ?_
     refine WPL.q (q_load sc3 rfl rfl rfl) rfl ?_
     refine WPL.q (q_mv (v := .lit (.int _ _)) rfl) rfl ?_
     refine WPL.nilW ?_
     refine W.now ?_
     refine Then.n ?_
     refine WP.block ?_
     refine WP.cv (Cv.weak (E' := (((((((Env.none.upd 3 (.whole 0)).upd 5 (.ptr 1 0)).upd 6 (.ro (Rd.slice rdS_inflate_run) true x3203)).upd 7 (.lit (.int .i64 ((List.length x3203 : Nat) : Int)))).upd 8 (.lit (.int .i64 x3286))).upd 13 (.lit (.int .i64 x3306.fmany))).upd 14 (.lit (.int .i64 0)))) (M' := ((Mem.nil.push (.row 3 (Rd.int .i64) x3287)).push (.cells 109 [.lit (.int .i64 x3306.fmany), .lit (.int .i64 x3306.flength)]))) [0, 1] hnp ⟨rfl, ⟨⟨trivial, .inr ⟨rfl, rfl, rfl⟩⟩, .inr ⟨rfl, rfl, rfl⟩⟩, by decide, rfl, trivial⟩ (LeE.upd rfl rfl (LeE.upd rfl rfl (LeE.upd rfl rfl (LeE.upd rfl rfl (LeE.upd rfl rfl (LeE.upd rfl rfl (LeE.upd rfl rfl (LeE.none rfl rfl))))))))) ?_
     obtain ⟨x3315, H3318, H⟩ := bnd H
     refine WP.monoW (Q := fun x E M => x = .exit 2 ∧ E = ((((Env.none.upd 3 (.whole 0)).upd 6 (.ro (Rd.slice rdS_inflate_run) true x3203)).upd 7 (.lit (.int .i64 ((List.length x3203 : Nat) : Int)))).upd 8 (.lit (.int .i64 x3286))) ∧ M = (Mem.nil.push (.row 3 (Rd.int .i64) x3315))) ?_ ?_
     · refine WP.loop (β := Int × (List Int)) (fun n b => g_inflate_laid_l1 k x3306 n b.1 b.2 = some x3315) (fun b => (((((((Env.none.upd 3 (.whole 0)).upd 5 (.ptr 1 0)).upd 6 (.ro (Rd.slice rdS_inflate_run) true x3203)).upd 7 (.lit (.int .i64 ((List.length x3203 : Nat) : Int)))).upd 8 (.lit (.int .i64 x3286))).upd 13 (.lit (.int .i64 x3306.fmany))).upd 14 (.lit (.int .i64 b.1)))) (fun b => ((Mem.nil.push (.row 3 (Rd.int .i64) b.2)).push (.cells 109 [.lit (.int .i64 x3306.fmany), .lit (.int .i64 x3306.flength)]))) k (0, x3287) H3318 rfl rfl ?_
       rintro n ⟨x3310, x3311⟩ H
       obtain _ | n := n
       · exact nf rfl H
       rw [g_inflate_laid_l1.eq_2] at H
       show WP _ _ _ _ (((((((Env.none.upd 3 (.whole 0)).upd 5 (.ptr 1 0)).upd 6 (.ro (Rd.slice rdS_inflate_run) true x3203)).upd 7 (.lit (.int .i64 ((List.length x3203 : Nat) : Int)))).upd 8 (.lit (.int .i64 x3286))).upd 13 (.lit (.int .i64 x3306.fmany))).upd 14 (.lit (.int .i64 x3310))) ((Mem.nil.push (.row 3 (Rd.int .i64) x3311)).push (.cells 109 [.lit (.int .i64 x3306.fmany), .lit (.int .i64 x3306.flength)])) _
       refine WP.seq ?_
       refine WP.region ?_
       refine WPL.q (q_lss rfl rfl) rfl ?_
       refine WPL.nilW ?_
       refine W.now ?_
       refine Then.n ?_
       refine WP.seq ?_
       refine WP.cond (t := (decide (x3310 < x3306.fmany))) rfl (fun hb3316 => ?_) (fun hb3316 => ?_)
       · replace H := cnt hb3316 H
         refine WP.skipW ?_
         refine W.now ?_
         refine Then.n ?_
         refine WP.seq ?_
         refine WP.block ?_
         refine WP.region ?_
         refine WPL.q (q_mv (v := .whole _) rfl) rfl ?_
         refine WPL.q (q_fieldAddr fi109_1 rfl rfl) rfl ?_
         refine WPL.q (q_load sc3 rfl rfl rfl) rfl ?_
         refine WPL.d (d_buildSlice (ds := ([x3306.flength] : List Int)) (R := (Rd.int .i64)) li66 rfl rfl rfl rfl rfl (JoinRows.cons1 Joins.sc rfl JoinRows.nil) rfl rfl) rfl ?_
         obtain ⟨h3317, H⟩ := grd H
         refine WPL.d (d_append ap66 rfl rfl rfl rfl (src_row sl66 rfl rfl) h3317 rfl) rfl ?_
         refine WPL.q (q_as (v := .whole _) rfl) rfl ?_
         refine WPL.nilW ?_
         refine W.now ?_
         refine InBlock.n ?_
         refine Then.n ?_
         refine WP.region ?_
         refine WPL.q (q_add rfl rfl) rfl ?_
         refine WPL.q (q_mv (v := .lit (.int _ _)) rfl) rfl ?_
         refine WPL.nilW ?_
         exact W.wk [3, 1] hnp (Then.n ⟨n, ((IntKind.wrap .i64 (x3310 + 1)), (x3311 ++ ([x3306.flength] : List Int))), Nat.lt_succ_self n, H, rfl, rfl⟩) ⟨rfl, ⟨⟨trivial, .inr ⟨rfl, rfl, rfl⟩⟩, .inr ⟨rfl, rfl, rfl⟩⟩, by decide, rfl, trivial⟩ (LeE.upd rfl rfl (LeE.upd rfl rfl (LeE.upd rfl rfl (LeE.upd rfl rfl (LeE.upd rfl rfl (LeE.upd rfl rfl (LeE.upd rfl rfl (LeE.none rfl rfl)))))))) rfl
       replace H := cnf hb3316 H
       refine WP.exitW ?_
       have q0 := (Option.some.inj H)
       subst q0
       exact W.wk [0] hnp (Then.x (Then.x ⟨rfl, rfl, rfl⟩)) ⟨rfl, ⟨trivial, .inr ⟨rfl, rfl, rfl⟩⟩, by decide, rfl, trivial⟩ (LeE.upd rfl rfl (LeE.upd rfl rfl (LeE.upd rfl rfl (LeE.upd rfl rfl (LeE.none rfl rfl))))) rfl
     rintro _ _ _ ⟨rfl, rfl, rfl⟩
     refine W.now ?_
     refine InBlock.x0 ?_
     refine InBlock.n ?_
     refine Then.n ?_
     refine WP.region ?_
     refine WPL.q (q_add rfl rfl) rfl ?_
     refine WPL.q (q_mv (v := .lit (.int _ _)) rfl) rfl ?_
     refine WPL.nilW ?_
     exact W.wk [0] hnp (Then.n ⟨n, ((IntKind.wrap .i64 (x3286 + 1)), x3315), Nat.lt_succ_self n, H, rfl, rfl⟩) ⟨rfl, ⟨trivial, .inr ⟨rfl, rfl, rfl⟩⟩, by decide, rfl, trivial⟩ (LeE.upd rfl rfl (LeE.upd rfl rfl (LeE.upd rfl rfl (LeE.upd rfl rfl (LeE.none rfl rfl))))) rfl
   replace H := cnf hb3304 H
   refine WP.exitW ?_
   have q0 := (Option.some.inj H)
   subst q0
   exact W.wk [0] hnp (Then.x (Then.x ⟨rfl, rfl, rfl⟩)) ⟨rfl, ⟨trivial, .inr ⟨rfl, rfl, rfl⟩⟩, by decide, rfl, trivial⟩ (LeE.upd rfl rfl (LeE.none rfl rfl)) rfl
 rintro _ _ _ ⟨rfl, rfl, rfl⟩
 refine W.now ?_
 refine InBlock.x0 ?_
 refine Then.n ?_
 refine WP.seq ?_
 refine WP.region ?_
 refine WPL.q (q_mv (v := .whole _) rfl) rfl ?_
 refine WPL.q (q_as (v := .whole _) rfl) rfl ?_
 refine WPL.nilW ?_
 refine W.now ?_
 refine Then.n ?_
 refine WP.retW ?_
 refine W.cv (Cv.frzRow (i := 0) rfl rfl hnp rfl rfl) rfl ?_
 have q0 := (Option.some.inj H)
 subst q0
 exact W.now (BodyR.mkR trivial rfl [] ⟨rfl, rfl⟩ ⟨rfl, trivial, by decide, rfl, trivial⟩ rfl rfl)
set_option maxRecDepth 100000 in
set_option maxHeartbeats 4000000 in
theorem s_inflate_FixedLit (k : Nat) (x3323 : (List Int)) (H : g_inflate_FixedLit k = some x3323) : Go.Q.Spec Try.prog 29 0 [] Mem.nil (fun o M => o = .ret (.ro (Rd.slice (Rd.int .i64)) false x3323) ∧ M = Mem.nil) := by
 unfold g_inflate_FixedLit at H
 refine Go.Q.Spec.of_bodyR (az := []) (rs := [.tmp 0]) (nt := 7) Try.func29 rfl rfl (by intro t T h; simp at h) rfl rfl fun cx hnp => ?_
 refine WP.seq ?_
 refine WP.region ?_
 refine WPL.q (q_as (v := .lit _) rfl) rfl ?_
 refine WPL.nilW ?_
 refine W.now ?_
 refine Then.n ?_
 refine WP.seq ?_
 refine WP.region ?_
 refine WPL.q (q_build bu109 rfl) rfl ?_
 refine WPL.q (q_build bu109 rfl) rfl ?_
 refine WPL.q (q_build bu109 rfl) rfl ?_
 refine WPL.q (q_build bu109 rfl) rfl ?_
 refine WPL.d (d_buildSlice (ds := ([(⟨144, 8⟩ : S_inflate_run), (⟨112, 9⟩ : S_inflate_run), (⟨24, 7⟩ : S_inflate_run), (⟨8, 8⟩ : S_inflate_run)] : List S_inflate_run)) (R := rdS_inflate_run) li138 rfl rfl rfl rfl rfl (JoinRows.cons (l := [.lit (.int .i64 144), .lit (.int .i64 8)]) (Joins.via (Joins.cons Joins.sc (Joins.cons Joins.sc Joins.unit))) rfl (JoinRows.cons (l := [.lit (.int .i64 112), .lit (.int .i64 9)]) (Joins.via (Joins.cons Joins.sc (Joins.cons Joins.sc Joins.unit))) rfl (JoinRows.cons (l := [.lit (.int .i64 24), .lit (.int .i64 7)]) (Joins.via (Joins.cons Joins.sc (Joins.cons Joins.sc Joins.unit))) rfl (JoinRows.cons (l := [.lit (.int .i64 8), .lit (.int .i64 8)]) (Joins.via (Joins.cons Joins.sc (Joins.cons Joins.sc Joins.unit))) rfl JoinRows.nil)))) rfl rfl) rfl ?_
 obtain ⟨x3325, h3323, H⟩ := bnd H
 refine WPL.c (runs_call (s := []) (t := []) (N := 1) (bor := [0]) fn54 rfl (s_inflate_laid k ([(⟨144, 8⟩ : S_inflate_run), (⟨112, 9⟩ : S_inflate_run), (⟨24, 7⟩ : S_inflate_run), (⟨8, 8⟩ : S_inflate_run)] : List S_inflate_run) x3325 h3323) ⟨rfl, trivial, by decide, rfl, trivial⟩ rfl ⟨trivial, rfl, rfl, trivial⟩ (.row rfl rfl .nil) rfl trivial rfl) rfl ?_
 refine WPL.q (q_as (v := .ro _ _ _) rfl) rfl ?_
 refine WPL.nilW ?_
 refine W.now ?_
 refine Then.n ?_
 refine WP.retW ?_
 have q0 := (Option.some.inj H)
 subst q0
 exact W.now (BodyR.mkR trivial rfl [] ⟨rfl, rfl⟩ ⟨rfl, trivial, by decide, rfl, trivial⟩ rfl rfl)
set_option maxRecDepth 100000 in
set_option maxHeartbeats 4000000 in
theorem s_inflate_FixedDist (k : Nat) (x3331 : (List Int)) (H : g_inflate_FixedDist k = some x3331) : Go.Q.Spec Try.prog 30 0 [] Mem.nil (fun o M => o = .ret (.ro (Rd.slice (Rd.int .i64)) false x3331) ∧ M = Mem.nil) := by
 unfold g_inflate_FixedDist at H
 refine Go.Q.Spec.of_bodyR (az := []) (rs := [.tmp 0]) (nt := 4) Try.func30 rfl rfl (by intro t T h; simp at h) rfl rfl fun cx hnp => ?_
 refine WP.seq ?_
 refine WP.region ?_
 refine WPL.q (q_as (v := .lit _) rfl) rfl ?_
 refine WPL.nilW ?_
 refine W.now ?_
 refine Then.n ?_
 refine WP.seq ?_
 refine WP.region ?_
 refine WPL.q (q_build bu109 rfl) rfl ?_
 refine WPL.d (d_buildSlice (ds := ([(⟨32, 5⟩ : S_inflate_run)] : List S_inflate_run)) (R := rdS_inflate_run) li138 rfl rfl rfl rfl rfl (JoinRows.cons (l := [.lit (.int .i64 32), .lit (.int .i64 5)]) (Joins.via (Joins.cons Joins.sc (Joins.cons Joins.sc Joins.unit))) rfl JoinRows.nil) rfl rfl) rfl ?_
 obtain ⟨x3333, h3331, H⟩ := bnd H
 refine WPL.c (runs_call (s := []) (t := []) (N := 1) (bor := [0]) fn54 rfl (s_inflate_laid k ([(⟨32, 5⟩ : S_inflate_run)] : List S_inflate_run) x3333 h3331) ⟨rfl, trivial, by decide, rfl, trivial⟩ rfl ⟨trivial, rfl, rfl, trivial⟩ (.row rfl rfl .nil) rfl trivial rfl) rfl ?_
 refine WPL.q (q_as (v := .ro _ _ _) rfl) rfl ?_
 refine WPL.nilW ?_
 refine W.now ?_
 refine Then.n ?_
 refine WP.retW ?_
 have q0 := (Option.some.inj H)
 subst q0
 exact W.now (BodyR.mkR trivial rfl [] ⟨rfl, rfl⟩ ⟨rfl, trivial, by decide, rfl, trivial⟩ rfl rfl)
set_option maxRecDepth 100000 in
set_option maxHeartbeats 4000000 in
theorem s_huff_judged (k : Nat) (x3343 : (List Int)) (x3442 : Bool) (x3443 : Int) (H : g_huff_judged k x3343 = some (x3442, x3443)) : Go.Q.Spec Try.prog 66 0 [.ro (Rd.slice (Rd.int .i64)) false x3343] Mem.nil (fun o M => o = .ret (.tup [.lit (.bool x3442), .lit (.int .i64 x3443)]) ∧ M = Mem.nil) := by
 unfold g_huff_judged at H
 refine Go.Q.Spec.of_bodyR (az := []) (rs := [.tmp 2, .tmp 3]) (nt := 45) Try.func66 rfl rfl (by intro t T h; simp at h) rfl rfl fun cx hnp => ?_
 refine WP.seq ?_
 refine WP.region ?_
 refine WPL.q (q_as (v := .lit (.bool _)) rfl) rfl ?_
 refine WPL.q (q_as (v := .lit (.int _ _)) rfl) rfl ?_
 refine WPL.nilW ?_
 refine W.now ?_
 refine Then.n ?_
 refine WP.seq ?_
 refine WP.seq ?_
 refine WP.region ?_
 refine WPL.q (q_mv (v := .ro _ _ _) rfl) rfl ?_
 refine WPL.q (q_len_ro sl66 rfl) rfl ?_
 obtain ⟨x3446, h3446, H⟩ := bnd H
 refine WPL.q (q_nm (q_gtr rfl rfl) (nm_bool h3446)) rfl ?_
 refine WPL.nilW ?_
 refine W.now ?_
 refine Then.n ?_
 refine WP.cond (t := x3446) rfl (fun hb3446 => ?_) (fun hb3446 => ?_)
 · replace H := cnt hb3446 H
   refine WP.seq ?_
   refine WP.region ?_
   refine WPL.q (q_as (v := .lit (.bool _)) rfl) rfl ?_
   refine WPL.q (q_as (v := .lit (.int _ _)) rfl) rfl ?_
   refine WPL.nilW ?_
   refine W.now ?_
   refine Then.n ?_
   refine WP.retW ?_
   have q0 := (Prod.mk.inj (Option.some.inj H)).1
   have q1 := (Prod.mk.inj (Option.some.inj H)).2
   subst q0
   subst q1
   exact W.now (Then.r (BodyR.mkR trivial rfl [] ⟨rfl, rfl⟩ ⟨rfl, trivial, by decide, rfl, trivial⟩ rfl rfl))
 replace H := cnf hb3446 H
 refine WP.skipW ?_
 refine W.now ?_
 refine Then.n ?_
 refine WP.seq ?_
 refine WP.region ?_
 refine WPL.q (q_as (v := .lit (.int _ _)) rfl) rfl ?_
 refine WPL.q (q_as (v := .lit (.int _ _)) rfl) rfl ?_
 refine WPL.nilW ?_
 refine W.now ?_
 refine Then.n ?_
 refine WP.seq ?_
 refine WP.seq ?_
 refine WP.region ?_
 refine WPL.q (q_mv (v := .ro _ _ _) rfl) rfl ?_
 refine WPL.q (q_len_ro sl66 rfl) rfl ?_
 refine WPL.q (q_mv (v := .lit (.int _ _)) rfl) rfl ?_
 refine WPL.nilW ?_
 refine W.now ?_
 refine Then.n ?_
 refine WP.block ?_
 refine WP.cv (Cv.weak (E' := (((((Env.none.upd 4 (.lit (.int .i64 32768))).upd 5 (.lit (.int .i64 0))).upd 11 (.ro (Rd.slice (Rd.int .i64)) false x3343)).upd 12 (.lit (.int .i64 ((List.length x3343 : Nat) : Int)))).upd 13 (.lit (.int .i64 0)))) (M' := Mem.nil) [] hnp ⟨rfl, trivial, by decide, rfl, trivial⟩ (LeE.upd rfl rfl (LeE.upd rfl rfl (LeE.upd rfl rfl (LeE.upd rfl rfl (LeE.upd rfl rfl (LeE.none rfl rfl))))))) ?_
 obtain ⟨y3559, H3557, H⟩ := bnd H
 refine WP.monoW (Q := fun x E M => match (generalizing := false) y3559 with | (Sum.inl _) => x = .ret ∧ E = ((Env.none.upd 2 (.lit (.bool false))).upd 3 (.lit (.int .i64 1))) ∧ M = Mem.nil | (Sum.inr (x3521, x3522)) => x = .exit 0 ∧ E = ((Env.none.upd 4 (.lit (.int .i64 x3521))).upd 5 (.lit (.int .i64 x3522))) ∧ M = Mem.nil) ?_ ?_
 · refine WP.loop (β := Int × Int × Int) (fun n b => g_huff_judged_l0 k x3343 n b.1 b.2.1 b.2.2 = some y3559) (fun b => (((((Env.none.upd 4 (.lit (.int .i64 b.1))).upd 5 (.lit (.int .i64 b.2.1))).upd 11 (.ro (Rd.slice (Rd.int .i64)) false x3343)).upd 12 (.lit (.int .i64 ((List.length x3343 : Nat) : Int)))).upd 13 (.lit (.int .i64 b.2.2)))) (fun b => Mem.nil) k (32768, 0, 0) H3557 rfl rfl ?_
   rintro n ⟨x3483, x3484, x3485⟩ H
   obtain _ | n := n
   · exact nf rfl H
   rw [g_huff_judged_l0.eq_2] at H
   show WP _ _ _ _ (((((Env.none.upd 4 (.lit (.int .i64 x3483))).upd 5 (.lit (.int .i64 x3484))).upd 11 (.ro (Rd.slice (Rd.int .i64)) false x3343)).upd 12 (.lit (.int .i64 ((List.length x3343 : Nat) : Int)))).upd 13 (.lit (.int .i64 x3485))) Mem.nil _
   refine WP.seq ?_
   refine WP.region ?_
   obtain ⟨x3523, h3523, H⟩ := bnd H
   refine WPL.q (q_nm (q_lss rfl rfl) (nm_bool h3523)) rfl ?_
   refine WPL.nilW ?_
   refine W.now ?_
   refine Then.n ?_
   refine WP.seq ?_
   refine WP.cond (t := x3523) rfl (fun hb3524 => ?_) (fun hb3524 => ?_)
   · replace H := cnt hb3524 H
     refine WP.skipW ?_
     refine W.now ?_
     refine Then.n ?_
     refine WP.seq ?_
     obtain ⟨y3557, H3555, H⟩ := bnd H
     refine WP.monoW (Q := fun x E M => match (generalizing := false) y3557 with | (Sum.inl _) => x = .ret ∧ E = ((Env.none.upd 2 (.lit (.bool false))).upd 3 (.lit (.int .i64 1))) ∧ M = Mem.nil | (Sum.inr (x3540, x3541)) => x = .normal ∧ E = (((((Env.none.upd 4 (.lit (.int .i64 x3540))).upd 5 (.lit (.int .i64 x3541))).upd 11 (.ro (Rd.slice (Rd.int .i64)) false x3343)).upd 12 (.lit (.int .i64 ((List.length x3343 : Nat) : Int)))).upd 13 (.lit (.int .i64 x3485))) ∧ M = Mem.nil) ?_ ?_
     · clear H
       have H := H3555
       clear H3555
       refine WP.block ?_
       refine WP.seq ?_
       refine WP.region ?_
       obtain ⟨x3542, h3542, H⟩ := bnd H
       refine WPL.q (q_index_ro sl66 rfl rfl rfl h3542) rfl ?_
       refine WPL.q (q_load_sc sc3 rfl) rfl ?_
       refine WPL.q (q_as (v := .lit (.int _ _)) rfl) rfl ?_
       refine WPL.nilW ?_
       refine W.now ?_
       refine Then.n ?_
       refine WP.seq ?_
       refine WP.seq ?_
       obtain ⟨x3549, H3550, H⟩ := bnd H
       refine WP.monoW (Q := fun x E M => x = .normal ∧ E = (((((((Env.none.upd 4 (.lit (.int .i64 x3483))).upd 5 (.lit (.int .i64 x3484))).upd 7 (.lit (.int .i64 x3542))).upd 11 (.ro (Rd.slice (Rd.int .i64)) false x3343)).upd 12 (.lit (.int .i64 ((List.length x3343 : Nat) : Int)))).upd 13 (.lit (.int .i64 x3485))).upd 22 (.lit (.bool x3549))) ∧ M = Mem.nil) ?_ ?_
       · clear H
         have H := H3550
         clear H3550
         refine WP.region ?_
         refine WPL.q (q_mv (v := .lit (.int _ _)) rfl) rfl ?_
         refine WPL.q (q_lss rfl rfl) rfl ?_
         refine WPL.q (q_mv (v := .lit (.bool _)) rfl) rfl ?_
         refine WPL.split (t := 19) (b := (decide (x3542 < 0))) rfl (fun hb3549 => ?_) (fun hb3549 => ?_)
         · replace H := cnt hb3549 H
           refine WPL.skipg (b' := true) rfl rfl (lb hb3549) rfl rfl (.inl trivial) ?_
           refine WPL.skipg (b' := true) rfl rfl (lb hb3549) rfl rfl (.inl trivial) ?_
           refine WPL.q (q_pickT (v := .lit (.bool _)) (lb hb3549) rfl) rfl ?_
           refine WPL.nilW ?_
           have q0 := (Option.some.inj H)
           subst q0
           exact W.wk [] hnp ⟨rfl, rfl, rfl⟩ ⟨rfl, trivial, by decide, rfl, trivial⟩ (LeE.upd rfl rfl (LeE.upd rfl rfl (LeE.upd rfl rfl (LeE.upd rfl rfl (LeE.upd rfl rfl (LeE.upd rfl rfl (LeE.upd rfl rfl (LeE.none rfl rfl)))))))) rfl
         replace H := cnf hb3549 H
         refine WPL.qg rfl rfl (lb hb3549) (q_mv (v := .lit (.int _ _)) rfl) rfl ?_
         refine WPL.qg rfl rfl (lb hb3549) (q_gtr rfl rfl) rfl ?_
         refine WPL.q (q_pickF (v := .lit (.bool _)) (lb hb3549) rfl) rfl ?_
         refine WPL.nilW ?_
         have q0 := (Option.some.inj H)
         subst q0
         exact W.wk [] hnp ⟨rfl, rfl, rfl⟩ ⟨rfl, trivial, by decide, rfl, trivial⟩ (LeE.upd rfl rfl (LeE.upd rfl rfl (LeE.upd rfl rfl (LeE.upd rfl rfl (LeE.upd rfl rfl (LeE.upd rfl rfl (LeE.upd rfl rfl (LeE.none rfl rfl)))))))) rfl
       rintro _ _ _ ⟨rfl, rfl, rfl⟩
       refine W.now ?_
       refine Then.n ?_
       refine WP.cond (t := x3549) rfl (fun hb3551 => ?_) (fun hb3551 => ?_)
       · replace H := cnt hb3551 H
         refine WP.seq ?_
         refine WP.region ?_
         refine WPL.q (q_as (v := .lit (.bool _)) rfl) rfl ?_
         refine WPL.q (q_as (v := .lit (.int _ _)) rfl) rfl ?_
         refine WPL.nilW ?_
         refine W.now ?_
         refine Then.n ?_
         refine WP.retW ?_
         have q0 := Option.some.inj H
         subst q0
         exact W.wk [] hnp (Then.r (InBlock.r ⟨rfl, rfl, rfl⟩)) ⟨rfl, trivial, by decide, rfl, trivial⟩ (LeE.upd rfl rfl (LeE.upd rfl rfl (LeE.none rfl rfl))) rfl
       replace H := cnf hb3551 H
       refine WP.skipW ?_
       refine W.now ?_
       refine Then.n ?_
       refine WP.seq ?_
       refine WP.region ?_
       refine WPL.q (q_mv (v := .lit (.int _ _)) rfl) rfl ?_
       refine WPL.q (q_gtr rfl rfl) rfl ?_
       refine WPL.nilW ?_
       refine W.now ?_
       refine Then.n ?_
       refine WP.cond (t := (decide (0 < x3542))) rfl (fun hb3552 => ?_) (fun hb3552 => ?_)
       · replace H := cnt hb3552 H
         refine WP.seq ?_
         refine WP.region ?_
         refine WPL.q (q_mv (v := .lit (.int _ _)) rfl) rfl ?_
         refine WPL.q (q_mv (v := .lit (.int _ _)) rfl) rfl ?_
         refine WPL.q (q_sub rfl rfl) rfl ?_
         obtain ⟨h3553, H⟩ := grd H
         obtain ⟨x3555, h3555, H⟩ := bnd H
         refine WPL.q (q_nm (q_shl rfl rfl h3553) (nm_int h3555)) rfl ?_
         refine WPL.q (q_sub rfl rfl) rfl ?_
         refine WPL.q (q_as (v := .lit (.int _ _)) rfl) rfl ?_
         refine WPL.nilW ?_
         refine W.now ?_
         refine Then.n ?_
         refine WP.region ?_
         refine WPL.q (q_mv (v := .lit (.int _ _)) rfl) rfl ?_
         refine WPL.q (q_add rfl rfl) rfl ?_
         refine WPL.q (q_as (v := .lit (.int _ _)) rfl) rfl ?_
         refine WPL.nilW ?_
         have q0 := Option.some.inj H
         subst q0
         exact W.wk [] hnp (InBlock.n ⟨rfl, rfl, rfl⟩) ⟨rfl, trivial, by decide, rfl, trivial⟩ (LeE.upd rfl rfl (LeE.upd rfl rfl (LeE.upd rfl rfl (LeE.upd rfl rfl (LeE.upd rfl rfl (LeE.none rfl rfl)))))) rfl
       replace H := cnf hb3552 H
       refine WP.skipW ?_
       have q0 := Option.some.inj H
       subst q0
       exact W.wk [] hnp (InBlock.n ⟨rfl, rfl, rfl⟩) ⟨rfl, trivial, by decide, rfl, trivial⟩ (LeE.upd rfl rfl (LeE.upd rfl rfl (LeE.upd rfl rfl (LeE.upd rfl rfl (LeE.upd rfl rfl (LeE.none rfl rfl)))))) rfl
     rcases y3557 with _ | ⟨x3540, x3541⟩
     · rintro _ _ _ ⟨rfl, rfl, rfl⟩
       have q0 := Option.some.inj H
       subst q0
       exact W.wk [] hnp (Then.r (Then.r ⟨rfl, rfl, rfl⟩)) ⟨rfl, trivial, by decide, rfl, trivial⟩ (LeE.upd rfl rfl (LeE.upd rfl rfl (LeE.none rfl rfl))) rfl
     rintro _ _ _ ⟨rfl, rfl, rfl⟩
     refine W.now ?_
     refine Then.n ?_
     refine WP.region ?_
     refine WPL.q (q_add rfl rfl) rfl ?_
     refine WPL.q (q_mv (v := .lit (.int _ _)) rfl) rfl ?_
     refine WPL.nilW ?_
     exact W.wk [] hnp (Then.n ⟨n, (x3540, x3541, (IntKind.wrap .i64 (x3485 + 1))), Nat.lt_succ_self n, H, rfl, rfl⟩) ⟨rfl, trivial, by decide, rfl, trivial⟩ (LeE.upd rfl rfl (LeE.upd rfl rfl (LeE.upd rfl rfl (LeE.upd rfl rfl (LeE.upd rfl rfl (LeE.none rfl rfl)))))) rfl
   replace H := cnf hb3524 H
   refine WP.exitW ?_
   have q0 := Option.some.inj H
   subst q0
   exact W.wk [] hnp (Then.x (Then.x ⟨rfl, rfl, rfl⟩)) ⟨rfl, trivial, by decide, rfl, trivial⟩ (LeE.upd rfl rfl (LeE.upd rfl rfl (LeE.none rfl rfl))) rfl
 rcases y3559 with _ | ⟨x3521, x3522⟩
 · rintro _ _ _ ⟨rfl, rfl, rfl⟩
   have q0 := (Prod.mk.inj (Option.some.inj H)).1
   have q1 := (Prod.mk.inj (Option.some.inj H)).2
   subst q0
   subst q1
   exact W.now (InBlock.r (Then.r (BodyR.mkR trivial rfl [] ⟨rfl, rfl⟩ ⟨rfl, trivial, by decide, rfl, trivial⟩ rfl rfl)))
 rintro _ _ _ ⟨rfl, rfl, rfl⟩
 refine W.now ?_
 refine InBlock.x0 ?_
 refine Then.n ?_
 refine WP.seq ?_
 refine WP.block ?_
 refine WP.seq ?_
 refine WP.region ?_
 refine WPL.q (q_mv (v := .lit (.int _ _)) rfl) rfl ?_
 refine WPL.q (q_eql rfl rfl) rfl ?_
 refine WPL.q (q_as (v := .lit (.bool _)) rfl) rfl ?_
 refine WPL.nilW ?_
 refine W.now ?_
 refine Then.n ?_
 refine WP.cond (t := (decide (x3521 = 0))) rfl (fun hb3567 => ?_) (fun hb3567 => ?_)
 · replace H := cnt hb3567 H
   refine WP.seq ?_
   refine WP.region ?_
   refine WPL.q (q_as (v := .lit (.bool _)) rfl) rfl ?_
   refine WPL.q (q_as (v := .lit (.int _ _)) rfl) rfl ?_
   refine WPL.nilW ?_
   refine W.now ?_
   refine Then.n ?_
   refine WP.retW ?_
   have q0 := (Prod.mk.inj (Option.some.inj H)).1
   have q1 := (Prod.mk.inj (Option.some.inj H)).2
   subst q0
   subst q1
   exact W.now (InBlock.r (Then.r (BodyR.mkR trivial rfl [] ⟨rfl, rfl⟩ ⟨rfl, trivial, by decide, rfl, trivial⟩ rfl rfl)))
 replace H := cnf hb3567 H
 refine WP.seq ?_
 obtain ⟨x3571, H3573, H⟩ := bnd H
 refine WP.monoW (Q := fun x E M => x = .normal ∧ E = (Env.none.upd 36 (.lit (.bool x3571))) ∧ M = Mem.nil) ?_ ?_
 · clear H
   have H := H3573
   clear H3573
   refine WP.seq ?_
   refine WP.region ?_
   refine WPL.q (q_mv (v := .lit (.int _ _)) rfl) rfl ?_
   refine WPL.q (q_eql rfl rfl) rfl ?_
   refine WPL.q (q_as (v := .lit (.bool _)) rfl) rfl ?_
   refine WPL.nilW ?_
   refine W.now ?_
   refine Then.n ?_
   refine WP.cond (t := (decide (x3522 = 0))) rfl (fun hb3571 => ?_) (fun hb3571 => ?_)
   · replace H := cnt hb3571 H
     refine WP.skipW ?_
     have q0 := (Option.some.inj H)
     subst q0
     exact W.wk [] hnp ⟨rfl, rfl, rfl⟩ ⟨rfl, trivial, by decide, rfl, trivial⟩ (LeE.upd rfl rfl (LeE.none rfl rfl)) rfl
   replace H := cnf hb3571 H
   refine WP.region ?_
   refine WPL.q (q_mv (v := .lit (.int _ _)) rfl) rfl ?_
   refine WPL.q (q_eql rfl rfl) rfl ?_
   refine WPL.q (q_mv (v := .lit (.bool _)) rfl) rfl ?_
   refine WPL.split (t := 41) (b := (decide (x3522 = 1))) rfl (fun hb3572 => ?_) (fun hb3572 => ?_)
   · replace H := cnt hb3572 H
     refine WPL.qg rfl rfl (lb hb3572) (q_mv (v := .lit (.int _ _)) rfl) rfl ?_
     refine WPL.qg rfl rfl (lb hb3572) (q_eql rfl rfl) rfl ?_
     refine WPL.q (q_pickT (v := .lit (.bool _)) (lb hb3572) rfl) rfl ?_
     refine WPL.q (q_as (v := .lit (.bool _)) rfl) rfl ?_
     refine WPL.nilW ?_
     have q0 := (Option.some.inj H)
     subst q0
     exact W.wk [] hnp ⟨rfl, rfl, rfl⟩ ⟨rfl, trivial, by decide, rfl, trivial⟩ (LeE.upd rfl rfl (LeE.none rfl rfl)) rfl
   replace H := cnf hb3572 H
   refine WPL.skipg (b' := false) rfl rfl (lb hb3572) rfl rfl (.inl trivial) ?_
   refine WPL.skipg (b' := false) rfl rfl (lb hb3572) rfl rfl (.inl trivial) ?_
   refine WPL.q (q_pickF (v := .lit (.bool _)) (lb hb3572) rfl) rfl ?_
   refine WPL.q (q_as (v := .lit (.bool _)) rfl) rfl ?_
   refine WPL.nilW ?_
   have q0 := (Option.some.inj H)
   subst q0
   exact W.wk [] hnp ⟨rfl, rfl, rfl⟩ ⟨rfl, trivial, by decide, rfl, trivial⟩ (LeE.upd rfl rfl (LeE.none rfl rfl)) rfl
 rintro _ _ _ ⟨rfl, rfl, rfl⟩
 refine W.now ?_
 refine Then.n ?_
 refine WP.cond (t := x3571) rfl (fun hb3574 => ?_) (fun hb3574 => ?_)
 · replace H := cnt hb3574 H
   refine WP.seq ?_
   refine WP.region ?_
   refine WPL.q (q_as (v := .lit (.bool _)) rfl) rfl ?_
   refine WPL.q (q_as (v := .lit (.int _ _)) rfl) rfl ?_
   refine WPL.nilW ?_
   refine W.now ?_
   refine Then.n ?_
   refine WP.retW ?_
   have q0 := (Prod.mk.inj (Option.some.inj H)).1
   have q1 := (Prod.mk.inj (Option.some.inj H)).2
   subst q0
   subst q1
   exact W.now (InBlock.r (Then.r (BodyR.mkR trivial rfl [] ⟨rfl, rfl⟩ ⟨rfl, trivial, by decide, rfl, trivial⟩ rfl rfl)))
 replace H := cnf hb3574 H
 refine WP.skipW ?_
 refine W.now ?_
 refine InBlock.n ?_
 refine Then.n ?_
 refine WP.seq ?_
 refine WP.region ?_
 refine WPL.q (q_as (v := .lit (.bool _)) rfl) rfl ?_
 refine WPL.q (q_as (v := .lit (.int _ _)) rfl) rfl ?_
 refine WPL.nilW ?_
 refine W.now ?_
 refine Then.n ?_
 refine WP.retW ?_
 have q0 := (Prod.mk.inj (Option.some.inj H)).1
 have q1 := (Prod.mk.inj (Option.some.inj H)).2
 subst q0
 subst q1
 exact W.now (BodyR.mkR trivial rfl [] ⟨rfl, rfl⟩ ⟨rfl, trivial, by decide, rfl, trivial⟩ rfl rfl)
set_option maxRecDepth 100000 in
set_option maxHeartbeats 4000000 in
theorem s_huff_of (k : Nat) (x3585 : (List Int)) (x3586 : Int) (H : g_huff_of k x3585 x3586 = some ()) : Go.Q.Spec Try.prog 67 0 [.ro (Rd.slice (Rd.int .i64)) false x3585, .lit (.int .i64 x3586)] Mem.nil (fun o M => o = .ret (.fn 81 [.ptr 0 0, .ptr 1 0]) ∧ M = ((Mem.nil.push (.cells 66 [.ro (Rd.slice (Rd.int .i64)) false x3585])).push (.cells 3 [.lit (.int .i64 x3586)]))) := by
 unfold g_huff_of at H
 refine Go.Q.Spec.of_bodyR (az := []) (rs := [.tmp 4]) (nt := 6) Try.func67 rfl rfl (by intro t T h; simp at h) rfl rfl fun cx hnp => ?_
 refine WP.seq ?_
 refine WP.region ?_
 refine WPL.d (d_box rfl rfl) rfl ?_
 refine WPL.d (d_box rfl rfl) rfl ?_
 refine WPL.q (q_as (v := .lit _) rfl) rfl ?_
 refine WPL.nilW ?_
 refine W.now ?_
 refine Then.n ?_
 refine WP.seq ?_
 refine WP.region ?_
 refine WPL.q (q_makeFunc) rfl ?_
 refine WPL.q (q_as (v := .fn _ _) rfl) rfl ?_
 refine WPL.nilW ?_
 refine W.now ?_
 refine Then.n ?_
 refine WP.retW ?_
 exact W.now (BodyR.mkR trivial rfl [0, 1] ⟨rfl, rfl⟩ ⟨rfl, ⟨⟨trivial, .inr ⟨rfl, rfl, rfl⟩⟩, .inr ⟨rfl, rfl, rfl⟩⟩, by decide, rfl, trivial⟩ rfl rfl)
set_option maxRecDepth 100000 in
set_option maxHeartbeats 4000000 in
theorem s_huff_Codes (k : Nat) (x3341 : (List Int)) (x3802 : (List Int)) (x3803 : Int) (H : g_huff_Codes k x3341 = some (x3802, x3803)) : Go.Q.Spec Try.prog 39 0 [.ro (Rd.slice (Rd.int .i64)) false x3341] Mem.nil (fun o M => o = .ret (.tup [.ro (Rd.slice (Rd.int .u32)) false x3802, .lit (.int .i64 x3803)]) ∧ M = Mem.nil) := by
 unfold g_huff_Codes at H
 refine Go.Q.Spec.of_bodyR (az := []) (rs := [.tmp 2, .tmp 3]) (nt := 38) Try.func39 rfl rfl (by intro t T h; simp at h) rfl rfl fun cx hnp => ?_
 refine WP.seq ?_
 refine WP.region ?_
 refine WPL.q (q_as (v := .lit _) rfl) rfl ?_
 refine WPL.q (q_as (v := .lit (.int _ _)) rfl) rfl ?_
 refine WPL.nilW ?_
 refine W.now ?_
 refine Then.n ?_
 refine WP.seq ?_
 refine WP.seq ?_
 refine WP.region ?_
 refine WPL.q (q_mv (v := .ro _ _ _) rfl) rfl ?_
 obtain ⟨⟨x3809, x3810⟩, h3807, H⟩ := bnd H
 refine WPL.c (runs_call (s := []) (t := []) (N := 0) (bor := []) fn66 rfl (s_huff_judged k x3341 x3809 x3810 h3807) ⟨rfl, trivial, by decide, rfl, trivial⟩ rfl trivial (.ren rfl rfl .nil) rfl trivial rfl) rfl ?_
 refine WPL.q (q_mv (v := .tup _) rfl) rfl ?_
 refine WPL.q (q_extract rfl rfl) rfl ?_
 refine WPL.q (q_extract rfl rfl) rfl ?_
 refine WPL.q (q_as (v := .lit (.bool _)) rfl) rfl ?_
 refine WPL.q (q_as (v := .lit (.int _ _)) rfl) rfl ?_
 refine WPL.nilW ?_
 refine W.now ?_
 refine Then.n ?_
 refine WP.seq ?_
 refine WP.region ?_
 refine WPL.q (q_mv (v := .lit (.int _ _)) rfl) rfl ?_
 refine WPL.q (q_neq rfl rfl) rfl ?_
 refine WPL.nilW ?_
 refine W.now ?_
 refine Then.n ?_
 refine WP.cond (t := (!decide (x3810 = 0))) rfl (fun hb3810 => ?_) (fun hb3810 => ?_)
 · replace H := cnt hb3810 H
   refine WP.seq ?_
   refine WP.region ?_
   refine WPL.q (q_mv (v := .lit (.int _ _)) rfl) rfl ?_
   refine WPL.q (q_as (v := .lit _) rfl) rfl ?_
   refine WPL.q (q_as (v := .lit (.int _ _)) rfl) rfl ?_
   refine WPL.nilW ?_
   refine W.now ?_
   refine Then.n ?_
   refine WP.retW ?_
   refine W.cv (Cv.nilRo (Rd.int .u32) false 2 rfl) rfl ?_
   have q0 := (Prod.mk.inj (Option.some.inj H)).1
   have q1 := (Prod.mk.inj (Option.some.inj H)).2
   subst q0
   subst q1
   exact W.now (Then.r (BodyR.mkR trivial rfl [] ⟨rfl, rfl⟩ ⟨rfl, trivial, by decide, rfl, trivial⟩ rfl rfl))
 replace H := cnf hb3810 H
 refine WP.skipW ?_
 refine W.now ?_
 refine Then.n ?_
 refine WP.seq ?_
 refine WP.region ?_
 refine WPL.q (q_mv (v := .ro _ _ _) rfl) rfl ?_
 refine WPL.q (q_len_ro sl66 rfl) rfl ?_
 obtain ⟨h3811, H⟩ := grd H
 refine WPL.d (d_make (d := (0 : Int)) (R := (Rd.int .u32)) li80 by50 rfl rfl rfl Joins.sc rfl rfl h3811 rfl) rfl ?_
 refine WPL.d (d_alloc ze80 rfl) rfl ?_
 refine WPL.s (s_store sz80 rfl rfl rfl rfl rfl) ?_
 refine WPL.nilW ?_
 refine W.now ?_
 refine Then.n ?_
 refine WP.seq ?_
 refine WP.region ?_
 refine WPL.d (d_alloc ze50 rfl) rfl ?_
 refine WPL.s (s_store sz50 rfl rfl rfl rfl rfl) ?_
 refine WPL.nilW ?_
 refine W.now ?_
 refine Then.n ?_
 refine WP.seq ?_
 refine WP.seq ?_
 refine WP.region ?_
 refine WPL.q (q_as (v := .lit (.int _ _)) rfl) rfl ?_
 refine WPL.nilW ?_
 refine W.now ?_
 refine Then.n ?_
 refine WP.block ?_
 refine WP.cv (Cv.nullMark (N := 3) rfl rfl) ?_
 refine WP.cv (Cv.weak (E' := (((((⟨fun _ => .any, [3], [], []⟩ : Env).upd 0 (.ro (Rd.slice (Rd.int .i64)) false x3341)).upd 6 (.ptr 0 0)).upd 7 (.ptr 2 0)).upd 8 (.lit (.int .i64 1)))) (M' := ((((Mem.nil.push (.cells 80 [.whole 1])).push (.row 50 (Rd.int .u32) (List.replicate (Int.toNat ((List.length x3341 : Nat) : Int)) (0 : Int)))).push (.cells 50 [.lit (.int .u32 0)])).push (.bag))) [1, 0, 2, 3] hnp ⟨rfl, ⟨⟨⟨⟨trivial, .inr ⟨rfl, rfl, rfl⟩⟩, .inr ⟨rfl, rfl, rfl⟩⟩, .inr ⟨rfl, rfl, rfl⟩⟩, .inr ⟨rfl, rfl, rfl⟩⟩, by decide, rfl, trivial⟩ (LeE.upd rfl rfl (LeE.upd rfl rfl (LeE.upd rfl rfl (LeE.upd rfl rfl (LeE.noneD rfl rfl .nil)))))) ?_
 obtain ⟨x4025, H4123, H⟩ := bnd H
 refine WP.monoW (Q := fun x E M => x = .exit 0 ∧ E = ((⟨fun _ => .any, [2], [], []⟩ : Env).upd 6 (.ptr 0 0)) ∧ M = (((Mem.nil.push (.cells 80 [.whole 1])).push (.row 50 (Rd.int .u32) x4025)).push (.bag))) ?_ ?_
 · refine WP.loop (β := Int × (List Int) × Int) (fun n b => g_huff_Codes_l0 k x3341 n b.1 b.2.1 b.2.2 = some x4025) (fun b => (((((⟨fun _ => .any, [3], [], []⟩ : Env).upd 0 (.ro (Rd.slice (Rd.int .i64)) false x3341)).upd 6 (.ptr 0 0)).upd 7 (.ptr 2 0)).upd 8 (.lit (.int .i64 b.1)))) (fun b => ((((Mem.nil.push (.cells 80 [.whole 1])).push (.row 50 (Rd.int .u32) b.2.1)).push (.cells 50 [.lit (.int .u32 b.2.2)])).push (.bag))) k (1, (List.replicate (Int.toNat ((List.length x3341 : Nat) : Int)) (0 : Int)), 0) H4123 rfl rfl ?_
   rintro n ⟨x3951, x3952, x3953⟩ H
   obtain _ | n := n
   · exact nf rfl H
   rw [g_huff_Codes_l0.eq_2] at H
   show WP _ _ _ _ (((((⟨fun _ => .any, [3], [], []⟩ : Env).upd 0 (.ro (Rd.slice (Rd.int .i64)) false x3341)).upd 6 (.ptr 0 0)).upd 7 (.ptr 2 0)).upd 8 (.lit (.int .i64 x3951))) ((((Mem.nil.push (.cells 80 [.whole 1])).push (.row 50 (Rd.int .u32) x3952)).push (.cells 50 [.lit (.int .u32 x3953)])).push (.bag)) _
   refine WP.seq ?_
   refine WP.seq ?_
   refine WP.region ?_
   refine WPL.q (q_mv (v := .lit (.int _ _)) rfl) rfl ?_
   refine WPL.q (q_leq rfl rfl) rfl ?_
   refine WPL.nilW ?_
   refine W.now ?_
   refine Then.n ?_
   refine WP.cond (t := (decide (x3951 ≤ 15))) rfl (fun hb4026 => ?_) (fun hb4026 => ?_)
   · replace H := cnt hb4026 H
     refine WP.skipW ?_
     refine W.now ?_
     refine Then.n ?_
     refine WP.seq ?_
     refine WP.block ?_
     refine WP.seq ?_
     refine WP.region ?_
     refine WPL.q (q_load sc50 rfl rfl rfl) rfl ?_
     refine WPL.q (q_shl rfl rfl rfl) rfl ?_
     refine WPL.s (s_store sz50 rfl rfl rfl rfl rfl) ?_
     refine WPL.nilW ?_
     refine W.now ?_
     refine Then.n ?_
     refine WP.seq ?_
     refine WP.region ?_
     refine WPL.q (q_mv (v := .ro _ _ _) rfl) rfl ?_
     refine WPL.q (q_mv (v := .lit (.int _ _)) rfl) rfl ?_
     obtain ⟨_, h4027, H⟩ := bnd H
     refine WPL.c (runs_call (s := []) (t := [4, 5]) (N := 6) (bor := []) fn67 rfl (s_huff_of k x3341 x3951 h4027) ⟨rfl, trivial, by decide, rfl, trivial⟩ rfl trivial (.ren rfl rfl (.ren rfl rfl .nil)) rfl ⟨⟨trivial, rfl⟩, rfl⟩ rfl) rfl ?_
     refine WPL.nilW ?_
     refine W.now ?_
     refine Then.n ?_
     refine WP.block ?_
     refine WP.range (nti := 23) (n := 6) rfl rfl Try.func81 rfl (by kernel_rfl) rfl rfl rfl rfl fun l_4028 r_4028 aC4028 hp4028 ha4028 hb4028 ht4028 hs4028 hf4028 => ?_
     refine WP.seq ?_
     refine WP.region ?_
     refine WPL.q (q_load sc66 rfl rfl rfl) rfl ?_
     refine WPL.q (q_len_ro sl66 rfl) rfl ?_
     refine WPL.q (q_mv (v := .lit (.int _ _)) rfl) rfl ?_
     refine WPL.nilW ?_
     refine W.now ?_
     refine Then.n ?_
     refine WP.block ?_
     refine WP.cv (Cv.weak (E' := ((((((⟨fun _ => .any, [], [⟨aC4028, ((((((Env.none.upd 0 (.ro (Rd.slice (Rd.int .i64)) false x3341)).upd 6 (.ptr 1 0)).upd 7 (.ptr 3 0)).upd 8 (.lit (.int .i64 x3951))).upd 29 (.fn 81 [.ptr 4 0, .ptr 0 0]))).v, [5, 6], some (7, l_4028)⟩], []⟩ : Env).upd 0 (.lit (.func (.yield l_4028) #[] #[]))).upd 2 (.ptr 0 0)).upd 6 (.ro (Rd.slice (Rd.int .i64)) false x3341)).upd 7 (.lit (.int .i64 ((List.length x3341 : Nat) : Int)))).upd 8 (.lit (.int .i64 0)))) (M' := ((((((((Mem.nil.push (.cells 3 [.lit (.int .i64 x3951)])).push (.cells 80 [.whole 2])).push (.row 50 (Rd.int .u32) x3952)).push (.cells 50 [.lit (.int .u32 (shlI .u32 x3953 1))])).push (.cells 66 [.ro (Rd.slice (Rd.int .i64)) false x3341])).push (.obj (Obj.deferred (some [])))).push (.bag)).push (.obj (lp r_4028 .ready none)))) [5, 0, 1, 2, 4, 6, 3, 7] hnp ⟨rfl, ⟨⟨⟨⟨⟨⟨⟨⟨trivial, .inr ⟨rfl, rfl, rfl⟩⟩, .inr ⟨rfl, rfl, rfl⟩⟩, .inr ⟨rfl, rfl, rfl⟩⟩, .inr ⟨rfl, rfl, rfl⟩⟩, .inr ⟨rfl, rfl, rfl⟩⟩, .inr ⟨rfl, rfl, rfl⟩⟩, .inr ⟨rfl, rfl, rfl⟩⟩, .inr ⟨rfl, rfl, rfl⟩⟩, by decide, rfl, trivial⟩ (LeE.upd rfl rfl (LeE.upd rfl rfl (LeE.upd rfl rfl (LeE.upd rfl rfl (LeE.upd rfl rfl (LeE.noneD rfl rfl (.cons ⟨rfl, (LeV.upd rfl rfl (LeV.upd rfl rfl (LeV.upd rfl rfl (LeV.upd rfl rfl (LeV.upd rfl rfl LeV.none))))), rfl, rfl, rfl, rfl⟩ .nil)))))))) ?_
     obtain ⟨y4123, H4121, H⟩ := bnd H
     refine WP.monoW (Q := fun x E M => match (generalizing := false) y4123 with | (Sum.inl (x4091, x4092)) => x = .ret ∧ E = (⟨fun _ => .any, [], [⟨aC4028, ((((((Env.none.upd 0 (.ro (Rd.slice (Rd.int .i64)) false x3341)).upd 6 (.ptr 0 0)).upd 7 (.ptr 2 0)).upd 8 (.lit (.int .i64 x3951))).upd 29 (.fn 81 [.ptr 3 0, .ptr 4 0]))).v, [5, 6], some (7, l_4028)⟩], []⟩ : Env) ∧ M = ((((((((Mem.nil.push (.cells 80 [.whole 1])).push (.row 50 (Rd.int .u32) x4091)).push (.cells 50 [.lit (.int .u32 x4092)])).push (.cells 66 [.ro (Rd.slice (Rd.int .i64)) false x3341])).push (.cells 3 [.lit (.int .i64 x3951)])).push (.obj (Obj.deferred (some [])))).push (.bag)).push (.obj (lp r_4028 .ready none))) | (Sum.inr (x4093, x4094)) => x = .exit 0 ∧ E = (⟨fun _ => .any, [], [⟨aC4028, ((((((Env.none.upd 0 (.ro (Rd.slice (Rd.int .i64)) false x3341)).upd 6 (.ptr 0 0)).upd 7 (.ptr 2 0)).upd 8 (.lit (.int .i64 x3951))).upd 29 (.fn 81 [.ptr 3 0, .ptr 4 0]))).v, [5, 6], some (7, l_4028)⟩], []⟩ : Env) ∧ M = ((((((((Mem.nil.push (.cells 80 [.whole 1])).push (.row 50 (Rd.int .u32) x4093)).push (.cells 50 [.lit (.int .u32 x4094)])).push (.cells 66 [.ro (Rd.slice (Rd.int .i64)) false x3341])).push (.cells 3 [.lit (.int .i64 x3951)])).push (.obj (Obj.deferred (some [])))).push (.bag)).push (.obj (lp r_4028 .ready none)))) ?_ ?_
     · refine WP.loop (β := Int × (List Int) × Int) (fun n b => g_huff_Codes_l1 k x3341 x3951 n b.1 b.2.1 b.2.2 = some y4123) (fun b => ((((((⟨fun _ => .any, [], [⟨aC4028, ((((((Env.none.upd 0 (.ro (Rd.slice (Rd.int .i64)) false x3341)).upd 6 (.ptr 1 0)).upd 7 (.ptr 3 0)).upd 8 (.lit (.int .i64 x3951))).upd 29 (.fn 81 [.ptr 4 0, .ptr 0 0]))).v, [5, 6], some (7, l_4028)⟩], []⟩ : Env).upd 0 (.lit (.func (.yield l_4028) #[] #[]))).upd 2 (.ptr 0 0)).upd 6 (.ro (Rd.slice (Rd.int .i64)) false x3341)).upd 7 (.lit (.int .i64 ((List.length x3341 : Nat) : Int)))).upd 8 (.lit (.int .i64 b.1)))) (fun b => ((((((((Mem.nil.push (.cells 3 [.lit (.int .i64 x3951)])).push (.cells 80 [.whole 2])).push (.row 50 (Rd.int .u32) b.2.1)).push (.cells 50 [.lit (.int .u32 b.2.2)])).push (.cells 66 [.ro (Rd.slice (Rd.int .i64)) false x3341])).push (.obj (Obj.deferred (some [])))).push (.bag)).push (.obj (lp r_4028 .ready none)))) k (0, x3952, (shlI .u32 x3953 1)) H4121 rfl rfl ?_
       rintro n ⟨x4061, x4062, x4063⟩ H
       obtain _ | n := n
       · exact nf rfl H
       rw [g_huff_Codes_l1.eq_2] at H
       show WP _ _ _ _ ((((((⟨fun _ => .any, [], [⟨aC4028, ((((((Env.none.upd 0 (.ro (Rd.slice (Rd.int .i64)) false x3341)).upd 6 (.ptr 1 0)).upd 7 (.ptr 3 0)).upd 8 (.lit (.int .i64 x3951))).upd 29 (.fn 81 [.ptr 4 0, .ptr 0 0]))).v, [5, 6], some (7, l_4028)⟩], []⟩ : Env).upd 0 (.lit (.func (.yield l_4028) #[] #[]))).upd 2 (.ptr 0 0)).upd 6 (.ro (Rd.slice (Rd.int .i64)) false x3341)).upd 7 (.lit (.int .i64 ((List.length x3341 : Nat) : Int)))).upd 8 (.lit (.int .i64 x4061))) ((((((((Mem.nil.push (.cells 3 [.lit (.int .i64 x3951)])).push (.cells 80 [.whole 2])).push (.row 50 (Rd.int .u32) x4062)).push (.cells 50 [.lit (.int .u32 x4063)])).push (.cells 66 [.ro (Rd.slice (Rd.int .i64)) false x3341])).push (.obj (Obj.deferred (some [])))).push (.bag)).push (.obj (lp r_4028 .ready none))) _
       refine WP.seq ?_
       refine WP.region ?_
       obtain ⟨x4095, h4095, H⟩ := bnd H
       refine WPL.q (q_nm (q_lss rfl rfl) (nm_bool h4095)) rfl ?_
       refine WPL.nilW ?_
       refine W.now ?_
       refine Then.n ?_
       refine WP.seq ?_
       refine WP.cond (t := x4095) rfl (fun hb4096 => ?_) (fun hb4096 => ?_)
       · replace H := cnt hb4096 H
         refine WP.skipW ?_
         refine W.now ?_
         refine Then.n ?_
         refine WP.seq ?_
         refine WP.block ?_
         refine WP.seq ?_
         refine WP.region ?_
         refine WPL.q (q_mv (v := .lit (.int _ _)) rfl) rfl ?_
         obtain ⟨x4110, h4110, H⟩ := bnd H
         refine WPL.q (q_index_ro sl66 rfl rfl rfl h4110) rfl ?_
         refine WPL.q (q_load_sc sc3 rfl) rfl ?_
         refine WPL.q (q_as (v := .lit (.int _ _)) rfl) rfl ?_
         refine WPL.q (q_as (v := .lit (.int _ _)) rfl) rfl ?_
         refine WPL.nilW ?_
         refine W.now ?_
         refine Then.n ?_
         refine WP.seq ?_
         obtain ⟨⟨x4114, x4115, x4116⟩, H4119, H⟩ := bnd H
         refine WP.monoW (Q := fun x E M => x = .normal ∧ E = (((((((⟨fun _ => .any, [], [⟨aC4028, ((((((Env.none.upd 0 (.ro (Rd.slice (Rd.int .i64)) false x3341)).upd 6 (.ptr 1 0)).upd 7 (.ptr 3 0)).upd 8 (.lit (.int .i64 x3951))).upd 29 (.fn 81 [.ptr 4 0, .ptr 0 0]))).v, [5, 6], some (7, l_4028)⟩], []⟩ : Env).upd 0 (.lit (.func (.yield l_4028) #[] #[]))).upd 2 (.ptr 0 0)).upd 6 (.ro (Rd.slice (Rd.int .i64)) false x3341)).upd 7 (.lit (.int .i64 ((List.length x3341 : Nat) : Int)))).upd 8 (.lit (.int .i64 x4061))).upd 21 (.lit (.bool x4114))) ∧ M = ((((((((Mem.nil.push (.cells 3 [.lit (.int .i64 x3951)])).push (.cells 80 [.whole 2])).push (.row 50 (Rd.int .u32) x4115)).push (.cells 50 [.lit (.int .u32 x4116)])).push (.cells 66 [.ro (Rd.slice (Rd.int .i64)) false x3341])).push (.obj (Obj.deferred (some [])))).push (.bag)).push (.obj (lp r_4028 .ready none)))) ?_ ?_
         · clear H
           have H := H4119
           clear H4119
           refine WP.region ?_
           refine WPL.q (q_mv (v := .lit (.int _ _)) rfl) rfl ?_
           refine WPL.q (q_load sc3 rfl rfl rfl) rfl ?_
           refine WPL.q (q_eql rfl rfl) rfl ?_
           refine WPL.q (q_mv (v := .lit (.bool _)) rfl) rfl ?_
           refine WPL.split (t := 16) (b := (decide (x4110 = x3951))) rfl (fun hb4116 => ?_) (fun hb4116 => ?_)
           · replace H := cnt hb4116 H
             refine WPL.qg rfl rfl (lb hb4116) (q_mv (v := .lit _) rfl) rfl ?_
             refine WPL.qg rfl rfl (lb hb4116) (q_mv (v := .lit (.int _ _)) rfl) rfl ?_
             refine WPL.yg rfl rfl rfl rfl hp4028 ha4028 hb4028 ht4028 hs4028 hf4028 rfl rfl rfl rfl rfl (lb hb4116) fun aI4117 => ?_
             refine WP.region ?_
             refine WPL.q (q_as (v := .lit (.int _ _)) rfl) rfl ?_
             refine WPL.nilW ?_
             refine W.now ?_
             refine ⟨rfl, rfl, _, _, _, _, _, _, rfl, rfl, ?_⟩
             refine WP.block ?_
             refine WP.seq ?_
             refine WP.region ?_
             refine WPL.q (q_load sc80 rfl rfl rfl) rfl ?_
             refine WPL.q (q_mv (v := .lit (.int _ _)) rfl) rfl ?_
             refine WPL.q (q_load sc50 rfl rfl rfl) rfl ?_
             obtain ⟨x4119, h4119, H⟩ := bnd H
             refine WPL.q (q_index_row sl80 rfl rfl rfl (ixs h4119)) rfl ?_
             refine WPL.s (s_store_row (j := (Int.toNat x4061)) (d := x4063) sz50 rfl rfl rfl rfl Joins.sc (ixl h4119)) ?_
             refine WPL.nilW ?_
             refine W.now ?_
             refine Then.n ?_
             refine WP.region ?_
             refine WPL.q (q_load sc50 rfl rfl rfl) rfl ?_
             refine WPL.q (q_add rfl rfl) rfl ?_
             refine WPL.s (s_store sz50 rfl rfl rfl rfl rfl) ?_
             refine WPL.nilW ?_
             refine W.now ?_
             refine InBlock.n ?_
             refine ⟨rfl, _, _, _, _, _, _, rfl, rfl, _, rfl, ?_⟩
             refine WPL.qg rfl rfl (lb hb4116) (q_not rfl) rfl ?_
             refine WPL.q (q_pickT (v := .lit (.bool _)) (lb hb4116) rfl) rfl ?_
             refine WPL.nilW ?_
             have q0 := (Prod.mk.inj (Option.some.inj H)).1
             have q1 := (Prod.mk.inj (Prod.mk.inj (Option.some.inj H)).2).1
             have q2 := (Prod.mk.inj (Prod.mk.inj (Option.some.inj H)).2).2
             subst q0
             subst q1
             subst q2
             exact W.wk [0, 1, 2, 3, 4, 5, 6, 7] hnp ⟨rfl, rfl, rfl⟩ ⟨rfl, ⟨⟨⟨⟨⟨⟨⟨⟨trivial, .inr ⟨rfl, rfl, rfl⟩⟩, .inr ⟨rfl, rfl, rfl⟩⟩, .inr ⟨rfl, rfl, rfl⟩⟩, .inr ⟨rfl, rfl, rfl⟩⟩, .inr ⟨rfl, rfl, rfl⟩⟩, .inr ⟨rfl, rfl, rfl⟩⟩, .inr ⟨rfl, rfl, rfl⟩⟩, .inr ⟨rfl, rfl, rfl⟩⟩, by decide, rfl, trivial⟩ (LeE.upd rfl rfl (LeE.upd rfl rfl (LeE.upd rfl rfl (LeE.upd rfl rfl (LeE.upd rfl rfl (LeE.upd rfl rfl (LeE.noneD rfl rfl (.cons ⟨rfl, (LeV.upd rfl rfl (LeV.upd rfl rfl (LeV.upd rfl rfl (LeV.upd rfl rfl (LeV.upd rfl rfl LeV.none))))), rfl, rfl, rfl, rfl⟩ .nil)))))))) rfl
           replace H := cnf hb4116 H
           refine WPL.skipg (b' := false) rfl rfl (lb hb4116) rfl rfl (.inl trivial) ?_
           refine WPL.skipg (b' := false) rfl rfl (lb hb4116) rfl rfl (.inl trivial) ?_
           refine WPL.skipg (b' := false) rfl rfl (lb hb4116) rfl rfl (SkipOkE.und rfl) ?_
           refine WPL.skipg (b' := false) rfl rfl (lb hb4116) rfl rfl (.inl trivial) ?_
           refine WPL.q (q_pickF (v := .lit (.bool _)) (lb hb4116) rfl) rfl ?_
           refine WPL.nilW ?_
           have q0 := (Prod.mk.inj (Option.some.inj H)).1
           have q1 := (Prod.mk.inj (Prod.mk.inj (Option.some.inj H)).2).1
           have q2 := (Prod.mk.inj (Prod.mk.inj (Option.some.inj H)).2).2
           subst q0
           subst q1
           subst q2
           exact W.wk [0, 1, 2, 3, 4, 5, 6, 7] hnp ⟨rfl, rfl, rfl⟩ ⟨rfl, ⟨⟨⟨⟨⟨⟨⟨⟨trivial, .inr ⟨rfl, rfl, rfl⟩⟩, .inr ⟨rfl, rfl, rfl⟩⟩, .inr ⟨rfl, rfl, rfl⟩⟩, .inr ⟨rfl, rfl, rfl⟩⟩, .inr ⟨rfl, rfl, rfl⟩⟩, .inr ⟨rfl, rfl, rfl⟩⟩, .inr ⟨rfl, rfl, rfl⟩⟩, .inr ⟨rfl, rfl, rfl⟩⟩, by decide, rfl, trivial⟩ (LeE.upd rfl rfl (LeE.upd rfl rfl (LeE.upd rfl rfl (LeE.upd rfl rfl (LeE.upd rfl rfl (LeE.upd rfl rfl (LeE.noneD rfl rfl (.cons ⟨rfl, (LeV.upd rfl rfl (LeV.upd rfl rfl (LeV.upd rfl rfl (LeV.upd rfl rfl (LeV.upd rfl rfl LeV.none))))), rfl, rfl, rfl, rfl⟩ .nil)))))))) rfl
         rintro _ _ _ ⟨rfl, rfl, rfl⟩
         refine W.now ?_
         refine Then.n ?_
         refine WP.cond (t := x4114) rfl (fun hb4120 => ?_) (fun hb4120 => ?_)
         · replace H := cnt hb4120 H
           refine WP.retW ?_
           have q0 := Option.some.inj H
           subst q0
           exact W.wk [1, 2, 3, 4, 0, 5, 6, 7] hnp (InBlock.r (Then.r (Then.r ⟨rfl, rfl, rfl⟩))) ⟨rfl, ⟨⟨⟨⟨⟨⟨⟨⟨trivial, .inr ⟨rfl, rfl, rfl⟩⟩, .inr ⟨rfl, rfl, rfl⟩⟩, .inr ⟨rfl, rfl, rfl⟩⟩, .inr ⟨rfl, rfl, rfl⟩⟩, .inr ⟨rfl, rfl, rfl⟩⟩, .inr ⟨rfl, rfl, rfl⟩⟩, .inr ⟨rfl, rfl, rfl⟩⟩, .inr ⟨rfl, rfl, rfl⟩⟩, by decide, rfl, trivial⟩ (LeE.noneD rfl rfl (.cons ⟨rfl, (LeV.upd rfl rfl (LeV.upd rfl rfl (LeV.upd rfl rfl (LeV.upd rfl rfl (LeV.upd rfl rfl LeV.none))))), rfl, rfl, rfl, rfl⟩ .nil)) rfl
         replace H := cnf hb4120 H
         refine WP.skipW ?_
         refine W.now ?_
         refine InBlock.n ?_
         refine Then.n ?_
         refine WP.region ?_
         refine WPL.q (q_add rfl rfl) rfl ?_
         refine WPL.q (q_mv (v := .lit (.int _ _)) rfl) rfl ?_
         refine WPL.nilW ?_
         exact W.wk [0, 1, 2, 3, 4, 5, 6, 7] hnp (Then.n ⟨n, ((IntKind.wrap .i64 (x4061 + 1)), x4115, x4116), Nat.lt_succ_self n, H, rfl, rfl⟩) ⟨rfl, ⟨⟨⟨⟨⟨⟨⟨⟨trivial, .inr ⟨rfl, rfl, rfl⟩⟩, .inr ⟨rfl, rfl, rfl⟩⟩, .inr ⟨rfl, rfl, rfl⟩⟩, .inr ⟨rfl, rfl, rfl⟩⟩, .inr ⟨rfl, rfl, rfl⟩⟩, .inr ⟨rfl, rfl, rfl⟩⟩, .inr ⟨rfl, rfl, rfl⟩⟩, .inr ⟨rfl, rfl, rfl⟩⟩, by decide, rfl, trivial⟩ (LeE.upd rfl rfl (LeE.upd rfl rfl (LeE.upd rfl rfl (LeE.upd rfl rfl (LeE.upd rfl rfl (LeE.noneD rfl rfl (.cons ⟨rfl, (LeV.upd rfl rfl (LeV.upd rfl rfl (LeV.upd rfl rfl (LeV.upd rfl rfl (LeV.upd rfl rfl LeV.none))))), rfl, rfl, rfl, rfl⟩ .nil))))))) rfl
       replace H := cnf hb4096 H
       refine WP.exitW ?_
       have q0 := Option.some.inj H
       subst q0
       exact W.wk [1, 2, 3, 4, 0, 5, 6, 7] hnp (Then.x (Then.x ⟨rfl, rfl, rfl⟩)) ⟨rfl, ⟨⟨⟨⟨⟨⟨⟨⟨trivial, .inr ⟨rfl, rfl, rfl⟩⟩, .inr ⟨rfl, rfl, rfl⟩⟩, .inr ⟨rfl, rfl, rfl⟩⟩, .inr ⟨rfl, rfl, rfl⟩⟩, .inr ⟨rfl, rfl, rfl⟩⟩, .inr ⟨rfl, rfl, rfl⟩⟩, .inr ⟨rfl, rfl, rfl⟩⟩, .inr ⟨rfl, rfl, rfl⟩⟩, by decide, rfl, trivial⟩ (LeE.noneD rfl rfl (.cons ⟨rfl, (LeV.upd rfl rfl (LeV.upd rfl rfl (LeV.upd rfl rfl (LeV.upd rfl rfl (LeV.upd rfl rfl LeV.none))))), rfl, rfl, rfl, rfl⟩ .nil)) rfl
     rcases y4123 with ⟨x4091, x4092⟩ | ⟨x4093, x4094⟩
     · rintro _ _ _ ⟨rfl, rfl, rfl⟩
       refine W.now ?_
       refine InBlock.r ?_
       refine ⟨trivial, _, _, _, _, rfl, _, _, rfl, (fun h => by cases h), ?_⟩
       refine W.cv (Cv.absorb (N := 8) (j := 5) (i := 6) rfl rfl rfl rfl) rfl ?_
       refine W.now ?_
       refine InBlock.n ?_
       refine InBlock.n ?_
       refine Then.n ?_
       refine WP.region ?_
       refine WPL.q (q_mv (v := .lit (.int _ _)) rfl) rfl ?_
       refine WPL.q (q_add rfl rfl) rfl ?_
       refine WPL.q (q_as (v := .lit (.int _ _)) rfl) rfl ?_
       refine WPL.nilW ?_
       exact W.wk [0, 1, 2, 8] hnp (Then.n ⟨n, ((IntKind.wrap .i64 (x3951 + 1)), x4091, x4092), Nat.lt_succ_self n, H, rfl, rfl⟩) ⟨rfl, ⟨⟨⟨⟨trivial, .inr ⟨rfl, rfl, rfl⟩⟩, .inr ⟨rfl, rfl, rfl⟩⟩, .inr ⟨rfl, rfl, rfl⟩⟩, .inr ⟨rfl, rfl, rfl⟩⟩, by decide, rfl, trivial⟩ (LeE.upd rfl rfl (LeE.upd rfl rfl (LeE.upd rfl rfl (LeE.upd rfl rfl (LeE.noneD rfl rfl .nil))))) rfl
     rintro _ _ _ ⟨rfl, rfl, rfl⟩
     refine W.now ?_
     refine InBlock.x0 ?_
     refine ⟨trivial, _, _, _, _, rfl, _, _, rfl, (fun h => by cases h), ?_⟩
     refine W.cv (Cv.absorb (N := 8) (j := 5) (i := 6) rfl rfl rfl rfl) rfl ?_
     refine W.now ?_
     refine InBlock.n ?_
     refine InBlock.n ?_
     refine Then.n ?_
     refine WP.region ?_
     refine WPL.q (q_mv (v := .lit (.int _ _)) rfl) rfl ?_
     refine WPL.q (q_add rfl rfl) rfl ?_
     refine WPL.q (q_as (v := .lit (.int _ _)) rfl) rfl ?_
     refine WPL.nilW ?_
     exact W.wk [0, 1, 2, 8] hnp (Then.n ⟨n, ((IntKind.wrap .i64 (x3951 + 1)), x4093, x4094), Nat.lt_succ_self n, H, rfl, rfl⟩) ⟨rfl, ⟨⟨⟨⟨trivial, .inr ⟨rfl, rfl, rfl⟩⟩, .inr ⟨rfl, rfl, rfl⟩⟩, .inr ⟨rfl, rfl, rfl⟩⟩, .inr ⟨rfl, rfl, rfl⟩⟩, by decide, rfl, trivial⟩ (LeE.upd rfl rfl (LeE.upd rfl rfl (LeE.upd rfl rfl (LeE.upd rfl rfl (LeE.noneD rfl rfl .nil))))) rfl
   replace H := cnf hb4026 H
   refine WP.exitW ?_
   have q0 := (Option.some.inj H)
   subst q0
   exact W.wk [0, 1, 3] hnp (Then.x (Then.x ⟨rfl, rfl, rfl⟩)) ⟨rfl, ⟨⟨⟨trivial, .inr ⟨rfl, rfl, rfl⟩⟩, .inr ⟨rfl, rfl, rfl⟩⟩, .inr ⟨rfl, rfl, rfl⟩⟩, by decide, rfl, trivial⟩ (LeE.upd rfl rfl (LeE.noneD rfl rfl .nil)) rfl
 rintro _ _ _ ⟨rfl, rfl, rfl⟩
 refine W.now ?_
 refine InBlock.x0 ?_
 refine Then.n ?_
 refine WP.seq ?_
 refine WP.region ?_
 refine WPL.q (q_load sc80 rfl rfl rfl) rfl ?_
 refine WPL.q (q_as (v := .whole _) rfl) rfl ?_
 refine WPL.q (q_as (v := .lit (.int _ _)) rfl) rfl ?_
 refine WPL.nilW ?_
 refine W.now ?_
 refine Then.n ?_
 refine WP.retW ?_
 refine W.cv (Cv.frzRow (i := 1) rfl rfl hnp rfl rfl) rfl ?_
 have q0 := (Prod.mk.inj (Option.some.inj H)).1
 have q1 := (Prod.mk.inj (Option.some.inj H)).2
 subst q0
 subst q1
 exact W.now (BodyR.mkR ⟨.inr rfl, trivial⟩ rfl [] ⟨rfl, rfl⟩ ⟨rfl, trivial, by decide, rfl, trivial⟩ rfl rfl)
set_option maxRecDepth 100000 in
set_option maxHeartbeats 4000000 in
theorem s_deflate_coded (k : Nat) (x3336 : (List Int)) (x3337 : (List Int)) (x3338 : Int) (x3339 : (List Int)) (x4131 : (List Int)) (x4132 : (List Int)) (H : g_deflate_coded k x3336 x3337 x3338 x3339 = some (x4131, x4132)) : Go.Q.Spec Try.prog 28 1 [.ptr 0 0, .ro (Rd.slice (Rd.int .i64)) false x3336, .ro (Rd.slice (Rd.int .i64)) false x3337] ((Mem.nil.push (.cells 101 [.whole 1, .lit (.int .i64 x3338)])).push (.row 5 (Rd.int .u8) x3339)) (fun o M => o = .ret (.ptr 2 0) ∧ M = (((Mem.nil.push (.cells 101 [.whole 1, .lit (.int .i64 x3338)])).push (.row 5 (Rd.int .u8) x3339)).push (.cells 106 [.ptr 0 0, .ro (Rd.slice (Rd.int .i64)) false x3336, .ro (Rd.slice (Rd.int .i64)) false x3337, .ro (Rd.slice (Rd.int .u32)) false x4131, .ro (Rd.slice (Rd.int .u32)) false x4132]))) := by
 unfold g_deflate_coded at H
 refine Go.Q.Spec.of_bodyR (az := []) (rs := [.tmp 6]) (nt := 30) Try.func28 rfl rfl (by intro t T h; simp at h) rfl rfl fun cx hnp => ?_
 refine WP.seq ?_
 refine WP.region ?_
 refine WPL.q (q_as (v := .lit _) rfl) rfl ?_
 refine WPL.nilW ?_
 refine W.now ?_
 refine Then.n ?_
 refine WP.seq ?_
 refine WP.region ?_
 refine WPL.q (q_mv (v := .ptr _ _) rfl) rfl ?_
 refine WPL.q (q_mv (v := .ro _ _ _) rfl) rfl ?_
 refine WPL.q (q_mv (v := .ro _ _ _) rfl) rfl ?_
 refine WPL.q (q_build bu106 rfl) rfl ?_
 refine WPL.d (d_box rfl rfl) rfl ?_
 refine WPL.q (q_as (v := .ptr _ _) rfl) rfl ?_
 refine WPL.nilW ?_
 refine W.now ?_
 refine Then.n ?_
 refine WP.seq ?_
 refine WP.region ?_
 refine WPL.q (q_mv (v := .ptr _ _) rfl) rfl ?_
 refine WPL.q (q_mv (v := .ro _ _ _) rfl) rfl ?_
 obtain ⟨⟨x4134, x4135⟩, h4132, H⟩ := bnd H
 refine WPL.c (runs_call (s := []) (t := []) (N := 3) (bor := []) fn39 rfl (s_huff_Codes k x3336 x4134 x4135 h4132) ⟨rfl, trivial, by decide, rfl, trivial⟩ rfl trivial (.ren rfl rfl .nil) rfl trivial rfl) rfl ?_
 refine WPL.q (q_mv (v := .tup _) rfl) rfl ?_
 refine WPL.q (q_extract rfl rfl) rfl ?_
 refine WPL.q (q_extract rfl rfl) rfl ?_
 refine WPL.q (q_nilCheck rfl) rfl ?_
 refine WPL.q (q_fieldAddr fi106_3 rfl rfl) rfl ?_
 refine WPL.s (s_store sz80 rfl rfl rfl rfl rfl) ?_
 refine WPL.nilW ?_
 refine W.now ?_
 refine Then.n ?_
 refine WP.seq ?_
 refine WP.region ?_
 refine WPL.q (q_mv (v := .ptr _ _) rfl) rfl ?_
 refine WPL.q (q_mv (v := .ro _ _ _) rfl) rfl ?_
 obtain ⟨⟨x4137, x4138⟩, h4135, H⟩ := bnd H
 refine WPL.c (runs_call (s := []) (t := []) (N := 3) (bor := []) fn39 rfl (s_huff_Codes k x3337 x4137 x4138 h4135) ⟨rfl, trivial, by decide, rfl, trivial⟩ rfl trivial (.ren rfl rfl .nil) rfl trivial rfl) rfl ?_
 refine WPL.q (q_mv (v := .tup _) rfl) rfl ?_
 refine WPL.q (q_extract rfl rfl) rfl ?_
 refine WPL.q (q_extract rfl rfl) rfl ?_
 refine WPL.q (q_nilCheck rfl) rfl ?_
 refine WPL.q (q_fieldAddr fi106_4 rfl rfl) rfl ?_
 refine WPL.s (s_store sz80 rfl rfl rfl rfl rfl) ?_
 refine WPL.nilW ?_
 refine W.now ?_
 refine Then.n ?_
 refine WP.seq ?_
 refine WP.region ?_
 refine WPL.q (q_mv (v := .ptr _ _) rfl) rfl ?_
 refine WPL.q (q_as (v := .ptr _ _) rfl) rfl ?_
 refine WPL.nilW ?_
 refine W.now ?_
 refine Then.n ?_
 refine WP.retW ?_
 have q0 := (Prod.mk.inj (Option.some.inj H)).1
 have q1 := (Prod.mk.inj (Option.some.inj H)).2
 subst q0
 subst q1
 exact W.now (BodyR.mkR trivial rfl [0, 1, 2] ⟨rfl, rfl⟩ ⟨rfl, ⟨⟨⟨trivial, .inr ⟨rfl, rfl, rfl⟩⟩, .inr ⟨rfl, rfl, rfl⟩⟩, .inr ⟨rfl, rfl, rfl⟩⟩, by decide, rfl, ⟨trivial, rfl⟩⟩ rfl rfl)
set_option maxRecDepth 100000 in
set_option maxHeartbeats 4000000 in
theorem s_math_bits_ReverseBytes32 (k : Nat) (x4176 : Int) (x4181 : Int) (H : g_math_bits_ReverseBytes32 k x4176 = some x4181) : Go.Q.Spec Try.prog 90 0 [.lit (.int .u32 x4176)] Mem.nil (fun o M => o = .ret (.lit (.int .u32 x4181)) ∧ M = Mem.nil) := by
 unfold g_math_bits_ReverseBytes32 at H
 refine Go.Q.Spec.of_bodyR (az := []) (rs := [.tmp 2]) (nt := 15) Try.func90 rfl rfl (by intro t T h; simp at h) rfl rfl fun cx hnp => ?_
 refine WP.seq ?_
 refine WP.region ?_
 refine WPL.q (q_as (v := .lit (.int _ _)) rfl) rfl ?_
 refine WPL.nilW ?_
 refine W.now ?_
 refine Then.n ?_
 refine WP.seq ?_
 refine WP.region ?_
 refine WPL.q (q_mv (v := .lit (.int _ _)) rfl) rfl ?_
 refine WPL.q (q_shr rfl rfl rfl) rfl ?_
 obtain ⟨x4182, h4182, H⟩ := bnd H
 refine WPL.q (q_nm (q_and rfl rfl) (nm_int h4182)) rfl ?_
 refine WPL.q (q_mv (v := .lit (.int _ _)) rfl) rfl ?_
 refine WPL.q (q_and rfl rfl) rfl ?_
 obtain ⟨x4183, h4183, H⟩ := bnd H
 refine WPL.q (q_nm (q_shl rfl rfl rfl) (nm_int h4183)) rfl ?_
 refine WPL.q (q_or rfl rfl) rfl ?_
 refine WPL.q (q_as (v := .lit (.int _ _)) rfl) rfl ?_
 refine WPL.nilW ?_
 refine W.now ?_
 refine Then.n ?_
 refine WP.seq ?_
 refine WP.region ?_
 refine WPL.q (q_mv (v := .lit (.int _ _)) rfl) rfl ?_
 refine WPL.q (q_shr rfl rfl rfl) rfl ?_
 refine WPL.q (q_mv (v := .lit (.int _ _)) rfl) rfl ?_
 refine WPL.q (q_shl rfl rfl rfl) rfl ?_
 obtain ⟨x4184, h4184, H⟩ := bnd H
 refine WPL.q (q_nm (q_or rfl rfl) (nm_int h4184)) rfl ?_
 refine WPL.q (q_as (v := .lit (.int _ _)) rfl) rfl ?_
 refine WPL.nilW ?_
 refine W.now ?_
 refine Then.n ?_
 refine WP.retW ?_
 have q0 := (Option.some.inj H)
 subst q0
 exact W.now (BodyR.mkR trivial rfl [] ⟨rfl, rfl⟩ ⟨rfl, trivial, by decide, rfl, trivial⟩ rfl rfl)
end Go.Proofs.Ytmmeanjjfhimjaa.W
namespace Go.Proofs.Ytmmeanjjfhimjaa.W
open Go Go.Q Go.Proofs
set_option linter.unusedVariables false
set_option linter.unusedSimpArgs false
set_option maxRecDepth 100000 in
set_option maxHeartbeats 4000000 in
theorem s_math_bits_Reverse32 (k : Nat) (x4167 : Int) (x4187 : Int) (H : g_math_bits_Reverse32 k x4167 = some x4187) : Go.Q.Spec Try.prog 82 0 [.lit (.int .u32 x4167)] Mem.nil (fun o M => o = .ret (.lit (.int .u32 x4187)) ∧ M = Mem.nil) := by
 unfold g_math_bits_Reverse32 at H
 refine Go.Q.Spec.of_bodyR (az := []) (rs := [.tmp 2]) (nt := 26) Try.func82 rfl rfl (by intro t T h; simp at h) rfl rfl fun cx hnp => ?_
 refine WP.seq ?_
 refine WP.region ?_
 refine WPL.q (q_as (v := .lit (.int _ _)) rfl) rfl ?_
 refine WPL.nilW ?_
 refine W.now ?_
 refine Then.n ?_
 refine WP.seq ?_
 refine WP.region ?_
 refine WPL.q (q_mv (v := .lit (.int _ _)) rfl) rfl ?_
 refine WPL.q (q_shr rfl rfl rfl) rfl ?_
 obtain ⟨x4188, h4188, H⟩ := bnd H
 refine WPL.q (q_nm (q_and rfl rfl) (nm_int h4188)) rfl ?_
 refine WPL.q (q_mv (v := .lit (.int _ _)) rfl) rfl ?_
 refine WPL.q (q_and rfl rfl) rfl ?_
 obtain ⟨x4189, h4189, H⟩ := bnd H
 refine WPL.q (q_nm (q_shl rfl rfl rfl) (nm_int h4189)) rfl ?_
 refine WPL.q (q_or rfl rfl) rfl ?_
 refine WPL.q (q_as (v := .lit (.int _ _)) rfl) rfl ?_
 refine WPL.nilW ?_
 refine W.now ?_
 refine Then.n ?_
 refine WP.seq ?_
 refine WP.region ?_
 refine WPL.q (q_mv (v := .lit (.int _ _)) rfl) rfl ?_
 refine WPL.q (q_shr rfl rfl rfl) rfl ?_
 obtain ⟨x4190, h4190, H⟩ := bnd H
 refine WPL.q (q_nm (q_and rfl rfl) (nm_int h4190)) rfl ?_
 refine WPL.q (q_mv (v := .lit (.int _ _)) rfl) rfl ?_
 obtain ⟨x4191, h4191, H⟩ := bnd H
 refine WPL.q (q_nm (q_and rfl rfl) (nm_int h4191)) rfl ?_
 refine WPL.q (q_shl rfl rfl rfl) rfl ?_
 refine WPL.q (q_or rfl rfl) rfl ?_
 refine WPL.q (q_as (v := .lit (.int _ _)) rfl) rfl ?_
 refine WPL.nilW ?_
 refine W.now ?_
 refine Then.n ?_
 refine WP.seq ?_
 refine WP.region ?_
 refine WPL.q (q_mv (v := .lit (.int _ _)) rfl) rfl ?_
 obtain ⟨x4192, h4192, H⟩ := bnd H
 refine WPL.q (q_nm (q_shr rfl rfl rfl) (nm_int h4192)) rfl ?_
 refine WPL.q (q_and rfl rfl) rfl ?_
 refine WPL.q (q_mv (v := .lit (.int _ _)) rfl) rfl ?_
 obtain ⟨x4193, h4193, H⟩ := bnd H
 refine WPL.q (q_nm (q_and rfl rfl) (nm_int h4193)) rfl ?_
 refine WPL.q (q_shl rfl rfl rfl) rfl ?_
 obtain ⟨x4194, h4194, H⟩ := bnd H
 refine WPL.q (q_nm (q_or rfl rfl) (nm_int h4194)) rfl ?_
 refine WPL.q (q_as (v := .lit (.int _ _)) rfl) rfl ?_
 refine WPL.nilW ?_
 refine W.now ?_
 refine Then.n ?_
 refine WP.seq ?_
 refine WP.region ?_
 refine WPL.q (q_mv (v := .lit (.int _ _)) rfl) rfl ?_
 obtain ⟨x4196, h4194, H⟩ := bnd H
 refine WPL.c (runs_call (s := []) (t := []) (N := 0) (bor := []) fn90 rfl (s_math_bits_ReverseBytes32 k x4194 x4196 h4194) ⟨rfl, trivial, by decide, rfl, trivial⟩ rfl trivial (.ren rfl rfl .nil) rfl trivial rfl) rfl ?_
 refine WPL.q (q_as (v := .lit (.int _ _)) rfl) rfl ?_
 refine WPL.nilW ?_
 refine W.now ?_
 refine Then.n ?_
 refine WP.retW ?_
 have q0 := (Option.some.inj H)
 subst q0
 exact W.now (BodyR.mkR trivial rfl [] ⟨rfl, rfl⟩ ⟨rfl, trivial, by decide, rfl, trivial⟩ rfl rfl)
set_option maxRecDepth 100000 in
set_option maxHeartbeats 4000000 in
theorem s_bits_Reverse (k : Nat) (x4162 : Int) (x4163 : Int) (x4202 : Int) (H : g_bits_Reverse k x4162 x4163 = some x4202) : Go.Q.Spec Try.prog 68 0 [.lit (.int .u32 x4162), .lit (.int .i64 x4163)] Mem.nil (fun o M => o = .ret (.lit (.int .u32 x4202)) ∧ M = Mem.nil) := by
 unfold g_bits_Reverse at H
 refine Go.Q.Spec.of_bodyR (az := []) (rs := [.tmp 4]) (nt := 16) Try.func68 rfl rfl (by intro t T h; simp at h) rfl rfl fun cx hnp => ?_
 refine WP.seq ?_
 refine WP.region ?_
 refine WPL.q (q_as (v := .lit (.int _ _)) rfl) rfl ?_
 refine WPL.nilW ?_
 refine W.now ?_
 refine Then.n ?_
 refine WP.seq ?_
 refine WP.region ?_
 refine WPL.q (q_mv (v := .lit (.int _ _)) rfl) rfl ?_
 obtain ⟨x4203, h4203, H⟩ := bnd H
 refine WPL.q (q_nm (q_max rfl rfl) (nm_int h4203)) rfl ?_
 obtain ⟨x4204, h4204, H⟩ := bnd H
 refine WPL.q (q_nm (q_min rfl rfl) (nm_int h4204)) rfl ?_
 refine WPL.q (q_as (v := .lit (.int _ _)) rfl) rfl ?_
 refine WPL.nilW ?_
 refine W.now ?_
 refine Then.n ?_
 refine WP.seq ?_
 refine WP.region ?_
 refine WPL.q (q_mv (v := .lit (.int _ _)) rfl) rfl ?_
 obtain ⟨x4206, h4204, H⟩ := bnd H
 refine WPL.c (runs_call (s := []) (t := []) (N := 0) (bor := []) fn82 rfl (s_math_bits_Reverse32 k x4162 x4206 h4204) ⟨rfl, trivial, by decide, rfl, trivial⟩ rfl trivial (.ren rfl rfl .nil) rfl trivial rfl) rfl ?_
 refine WPL.q (q_conv Try.underlying50 Try.underlying142 rfl) rfl ?_
 refine WPL.q (q_mv (v := .lit (.int _ _)) rfl) rfl ?_
 refine WPL.q (q_sub rfl rfl) rfl ?_
 obtain ⟨x4207, h4207, H⟩ := bnd H
 refine WPL.q (q_nm (q_conv Try.underlying3 Try.underlying54 rfl) (nm_int h4207)) rfl ?_
 obtain ⟨h4207, H⟩ := grd H
 obtain ⟨x4209, h4209, H⟩ := bnd H
 refine WPL.q (q_nm (q_shr rfl rfl h4207) (nm_int h4209)) rfl ?_
 refine WPL.q (q_conv Try.underlying142 Try.underlying50 rfl) rfl ?_
 refine WPL.q (q_as (v := .lit (.int _ _)) rfl) rfl ?_
 refine WPL.nilW ?_
 refine W.now ?_
 refine Then.n ?_
 refine WP.retW ?_
 have q0 := (Option.some.inj H)
 subst q0
 exact W.now (BodyR.mkR trivial rfl [] ⟨rfl, rfl⟩ ⟨rfl, trivial, by decide, rfl, trivial⟩ rfl rfl)
set_option maxRecDepth 100000 in
set_option maxHeartbeats 4000000 in
theorem s_deflate_put (k : Nat) (x4157 : Int) (x4158 : Int) (x4159 : Int) (x4160 : (List Int)) (x4216 : Int) (x4217 : (List Int)) (H : g_deflate_put k x4157 x4158 x4159 x4160 = some (x4216, x4217)) : Go.Q.Spec Try.prog 40 1 [.ptr 0 0, .lit (.int .u32 x4157), .lit (.int .i64 x4158)] ((Mem.nil.push (.cells 101 [.whole 1, .lit (.int .i64 x4159)])).push (.row 5 (Rd.int .u8) x4160)) (fun o M => o = .ret (.tup []) ∧ M = ((Mem.nil.push (.cells 101 [.whole 1, .lit (.int .i64 x4216)])).push (.row 5 (Rd.int .u8) x4217))) := by
 unfold g_deflate_put at H
 refine Go.Q.Spec.of_bodyR (az := []) (rs := []) (nt := 12) Try.func40 rfl rfl (by intro t T h; simp at h) rfl rfl fun cx hnp => ?_
 refine WP.region ?_
 refine WPL.q (q_mv (v := .ptr _ _) rfl) rfl ?_
 refine WPL.q (q_mv (v := .lit (.int _ _)) rfl) rfl ?_
 refine WPL.q (q_mv (v := .lit (.int _ _)) rfl) rfl ?_
 obtain ⟨x4219, h4217, H⟩ := bnd H
 refine WPL.c (runs_call (s := []) (t := []) (N := 2) (bor := []) fn68 rfl (s_bits_Reverse k x4157 x4158 x4219 h4217) ⟨rfl, trivial, by decide, rfl, trivial⟩ rfl trivial (.ren rfl rfl (.ren rfl rfl .nil)) rfl trivial rfl) rfl ?_
 refine WPL.q (q_mv (v := .lit (.int _ _)) rfl) rfl ?_
 obtain ⟨⟨x4221, x4222, x4223⟩, h4219, H⟩ := bnd H
 refine WPL.c (runs_call (s := [0, 1]) (t := [0, 2]) (N := 3) (bor := []) fn24 rfl (s_bits_Writer_Put__b k x4219 x4158 x4159 x4160 x4221 x4222 x4223 h4219) ⟨rfl, ⟨⟨trivial, .inr ⟨rfl, rfl, rfl⟩⟩, .inr ⟨rfl, rfl, rfl⟩⟩, by decide, rfl, trivial⟩ rfl trivial (.ren rfl rfl (.ren rfl rfl (.ren rfl rfl .nil))) rfl ⟨⟨trivial, rfl⟩, rfl⟩ rfl) rfl ?_
 refine WPL.nilW ?_
 have q0 := (Prod.mk.inj (Option.some.inj H)).1
 have q1 := (Prod.mk.inj (Option.some.inj H)).2
 subst q0
 subst q1
 exact W.now (BodyR.mkN trivial rfl [0, 2] ⟨rfl, rfl⟩ ⟨rfl, ⟨⟨trivial, .inr ⟨rfl, rfl, rfl⟩⟩, .inr ⟨rfl, rfl, rfl⟩⟩, by decide, rfl, ⟨trivial, rfl⟩⟩ rfl rfl)
set_option maxRecDepth 100000 in
set_option maxHeartbeats 4000000 in
theorem s_inflate_Lit (k : Nat) (x4251 : Int) (x4271 : Int) (x4272 : Int) (x4273 : Bool) (H : g_inflate_Lit k x4251 = some (x4271, x4272, x4273)) : Go.Q.Spec Try.prog 56 0 [.lit (.int .i64 x4251)] Mem.nil (fun o M => o = .ret (.tup [.lit (.int .i64 x4271), .lit (.int .i64 x4272), .lit (.bool x4273)]) ∧ M = Mem.nil) := by
 unfold g_inflate_Lit at H
 refine Go.Q.Spec.of_bodyR (az := []) (rs := [.tmp 2, .tmp 3, .tmp 4]) (nt := 31) Try.func56 rfl rfl (by intro t T h; simp at h) rfl rfl fun cx hnp => ?_
 refine WP.seq ?_
 refine WP.region ?_
 refine WPL.q (q_as (v := .lit (.int _ _)) rfl) rfl ?_
 refine WPL.q (q_as (v := .lit (.int _ _)) rfl) rfl ?_
 refine WPL.q (q_as (v := .lit (.bool _)) rfl) rfl ?_
 refine WPL.nilW ?_
 refine W.now ?_
 refine Then.n ?_
 refine WP.seq ?_
 refine WP.block ?_
 refine WP.seq ?_
 obtain ⟨x4282, H4283, H⟩ := bnd H
 refine WP.monoW (Q := fun x E M => x = .normal ∧ E = ((Env.none.upd 0 (.lit (.int .i64 x4251))).upd 5 (.lit (.bool x4282))) ∧ M = Mem.nil) ?_ ?_
 · clear H
   have H := H4283
   clear H4283
   refine WP.region ?_
   refine WPL.q (q_mv (v := .lit (.int _ _)) rfl) rfl ?_
   refine WPL.q (q_lss rfl rfl) rfl ?_
   refine WPL.q (q_mv (v := .lit (.bool _)) rfl) rfl ?_
   refine WPL.split (t := 8) (b := (decide (x4251 < 257))) rfl (fun hb4282 => ?_) (fun hb4282 => ?_)
   · replace H := cnt hb4282 H
     refine WPL.skipg (b' := true) rfl rfl (lb hb4282) rfl rfl (.inl trivial) ?_
     refine WPL.skipg (b' := true) rfl rfl (lb hb4282) rfl rfl (.inl trivial) ?_
     refine WPL.q (q_pickT (v := .lit (.bool _)) (lb hb4282) rfl) rfl ?_
     refine WPL.q (q_as (v := .lit (.bool _)) rfl) rfl ?_
     refine WPL.nilW ?_
     have q0 := (Option.some.inj H)
     subst q0
     exact W.wk [] hnp ⟨rfl, rfl, rfl⟩ ⟨rfl, trivial, by decide, rfl, trivial⟩ (LeE.upd rfl rfl (LeE.upd rfl rfl (LeE.none rfl rfl))) rfl
   replace H := cnf hb4282 H
   refine WPL.qg rfl rfl (lb hb4282) (q_mv (v := .lit (.int _ _)) rfl) rfl ?_
   refine WPL.qg rfl rfl (lb hb4282) (q_gtr rfl rfl) rfl ?_
   refine WPL.q (q_pickF (v := .lit (.bool _)) (lb hb4282) rfl) rfl ?_
   refine WPL.q (q_as (v := .lit (.bool _)) rfl) rfl ?_
   refine WPL.nilW ?_
   have q0 := (Option.some.inj H)
   subst q0
   exact W.wk [] hnp ⟨rfl, rfl, rfl⟩ ⟨rfl, trivial, by decide, rfl, trivial⟩ (LeE.upd rfl rfl (LeE.upd rfl rfl (LeE.none rfl rfl))) rfl
 rintro _ _ _ ⟨rfl, rfl, rfl⟩
 refine W.now ?_
 refine Then.n ?_
 refine WP.cond (t := x4282) rfl (fun hb4284 => ?_) (fun hb4284 => ?_)
 · replace H := cnt hb4284 H
   refine WP.seq ?_
   refine WP.region ?_
   refine WPL.q (q_as (v := .lit (.int _ _)) rfl) rfl ?_
   refine WPL.q (q_as (v := .lit (.int _ _)) rfl) rfl ?_
   refine WPL.q (q_as (v := .lit (.bool _)) rfl) rfl ?_
   refine WPL.nilW ?_
   refine W.now ?_
   refine Then.n ?_
   refine WP.retW ?_
   have q0 := (Prod.mk.inj (Option.some.inj H)).1
   have q1 := (Prod.mk.inj (Prod.mk.inj (Option.some.inj H)).2).1
   have q2 := (Prod.mk.inj (Prod.mk.inj (Option.some.inj H)).2).2
   subst q0
   subst q1
   subst q2
   exact W.now (InBlock.r (Then.r (BodyR.mkR trivial rfl [] ⟨rfl, rfl⟩ ⟨rfl, trivial, by decide, rfl, trivial⟩ rfl rfl)))
 replace H := cnf hb4284 H
 refine WP.seq ?_
 refine WP.region ?_
 refine WPL.q (q_mv (v := .lit (.int _ _)) rfl) rfl ?_
 refine WPL.q (q_eql rfl rfl) rfl ?_
 refine WPL.q (q_as (v := .lit (.bool _)) rfl) rfl ?_
 refine WPL.nilW ?_
 refine W.now ?_
 refine Then.n ?_
 refine WP.cond (t := (decide (x4251 = 285))) rfl (fun hb4285 => ?_) (fun hb4285 => ?_)
 · replace H := cnt hb4285 H
   refine WP.seq ?_
   refine WP.region ?_
   refine WPL.q (q_as (v := .lit (.int _ _)) rfl) rfl ?_
   refine WPL.q (q_as (v := .lit (.int _ _)) rfl) rfl ?_
   refine WPL.q (q_as (v := .lit (.bool _)) rfl) rfl ?_
   refine WPL.nilW ?_
   refine W.now ?_
   refine Then.n ?_
   refine WP.retW ?_
   have q0 := (Prod.mk.inj (Option.some.inj H)).1
   have q1 := (Prod.mk.inj (Prod.mk.inj (Option.some.inj H)).2).1
   have q2 := (Prod.mk.inj (Prod.mk.inj (Option.some.inj H)).2).2
   subst q0
   subst q1
   subst q2
   exact W.now (InBlock.r (Then.r (BodyR.mkR trivial rfl [] ⟨rfl, rfl⟩ ⟨rfl, trivial, by decide, rfl, trivial⟩ rfl rfl)))
 replace H := cnf hb4285 H
 refine WP.seq ?_
 refine WP.region ?_
 refine WPL.q (q_mv (v := .lit (.int _ _)) rfl) rfl ?_
 refine WPL.q (q_lss rfl rfl) rfl ?_
 refine WPL.q (q_as (v := .lit (.bool _)) rfl) rfl ?_
 refine WPL.nilW ?_
 refine W.now ?_
 refine Then.n ?_
 refine WP.cond (t := (decide (x4251 < 265))) rfl (fun hb4286 => ?_) (fun hb4286 => ?_)
 · replace H := cnt hb4286 H
   refine WP.seq ?_
   refine WP.region ?_
   refine WPL.q (q_mv (v := .lit (.int _ _)) rfl) rfl ?_
   refine WPL.q (q_sub rfl rfl) rfl ?_
   refine WPL.q (q_as (v := .lit (.int _ _)) rfl) rfl ?_
   refine WPL.q (q_as (v := .lit (.int _ _)) rfl) rfl ?_
   refine WPL.q (q_as (v := .lit (.bool _)) rfl) rfl ?_
   refine WPL.nilW ?_
   refine W.now ?_
   refine Then.n ?_
   refine WP.retW ?_
   have q0 := (Prod.mk.inj (Option.some.inj H)).1
   have q1 := (Prod.mk.inj (Prod.mk.inj (Option.some.inj H)).2).1
   have q2 := (Prod.mk.inj (Prod.mk.inj (Option.some.inj H)).2).2
   subst q0
   subst q1
   subst q2
   exact W.now (InBlock.r (Then.r (BodyR.mkR trivial rfl [] ⟨rfl, rfl⟩ ⟨rfl, trivial, by decide, rfl, trivial⟩ rfl rfl)))
 replace H := cnf hb4286 H
 refine WP.skipW ?_
 refine W.now ?_
 refine InBlock.n ?_
 refine Then.n ?_
 refine WP.seq ?_
 refine WP.region ?_
 refine WPL.q (q_mv (v := .lit (.int _ _)) rfl) rfl ?_
 refine WPL.q (q_sub rfl rfl) rfl ?_
 obtain ⟨x4288, h4288, H⟩ := bnd H
 refine WPL.q (q_nm (q_quo rfl rfl rfl) (nm_int h4288)) rfl ?_
 refine WPL.q (q_as (v := .lit (.int _ _)) rfl) rfl ?_
 refine WPL.nilW ?_
 refine W.now ?_
 refine Then.n ?_
 refine WP.seq ?_
 refine WP.region ?_
 refine WPL.q (q_mv (v := .lit (.int _ _)) rfl) rfl ?_
 refine WPL.q (q_sub rfl rfl) rfl ?_
 obtain ⟨x4289, h4289, H⟩ := bnd H
 refine WPL.q (q_nm (q_rem rfl rfl rfl) (nm_int h4289)) rfl ?_
 refine WPL.q (q_add rfl rfl) rfl ?_
 refine WPL.q (q_mv (v := .lit (.int _ _)) rfl) rfl ?_
 obtain ⟨h4289, H⟩ := grd H
 obtain ⟨x4291, h4291, H⟩ := bnd H
 refine WPL.q (q_nm (q_shl rfl rfl h4289) (nm_int h4291)) rfl ?_
 refine WPL.q (q_add rfl rfl) rfl ?_
 refine WPL.q (q_mv (v := .lit (.int _ _)) rfl) rfl ?_
 refine WPL.q (q_as (v := .lit (.int _ _)) rfl) rfl ?_
 refine WPL.q (q_as (v := .lit (.int _ _)) rfl) rfl ?_
 refine WPL.q (q_as (v := .lit (.bool _)) rfl) rfl ?_
 refine WPL.nilW ?_
 refine W.now ?_
 refine Then.n ?_
 refine WP.retW ?_
 have q0 := (Prod.mk.inj (Option.some.inj H)).1
 have q1 := (Prod.mk.inj (Prod.mk.inj (Option.some.inj H)).2).1
 have q2 := (Prod.mk.inj (Prod.mk.inj (Option.some.inj H)).2).2
 subst q0
 subst q1
 subst q2
 exact W.now (BodyR.mkR trivial rfl [] ⟨rfl, rfl⟩ ⟨rfl, trivial, by decide, rfl, trivial⟩ rfl rfl)
set_option maxRecDepth 100000 in
set_option maxHeartbeats 4000000 in
theorem s_deflate_symbol (k : Nat) (x4245 : Int) (x4246 : Int) (x4247 : Int) (x4324 : Int) (x4325 : Int) (x4326 : Int) (H : g_deflate_symbol k x4245 x4246 x4247 = some (x4324, x4325, x4326)) : Go.Q.Spec Try.prog 55 0 [.lit (.int .i64 x4245), .lit (.int .i64 x4246), .lit (.int .i64 x4247), .fn 56 []] Mem.nil (fun o M => o = .ret (.tup [.lit (.int .i64 x4324), .lit (.int .i64 x4325), .lit (.int .i64 x4326)]) ∧ M = Mem.nil) := by
 unfold g_deflate_symbol at H
 refine Go.Q.Spec.of_bodyR (az := []) (rs := [.tmp 8, .tmp 9, .tmp 10]) (nt := 51) Try.func55 rfl rfl (by intro t T h; simp at h) rfl rfl fun cx hnp => ?_
 refine WP.seq ?_
 refine WP.region ?_
 refine WPL.q (q_as (v := .lit (.int _ _)) rfl) rfl ?_
 refine WPL.q (q_as (v := .lit (.int _ _)) rfl) rfl ?_
 refine WPL.q (q_as (v := .lit (.int _ _)) rfl) rfl ?_
 refine WPL.nilW ?_
 refine W.now ?_
 refine Then.n ?_
 refine WP.seq ?_
 refine WP.seq ?_
 refine WP.region ?_
 refine WPL.q (q_mv (v := .lit (.int _ _)) rfl) rfl ?_
 refine WPL.q (q_as (v := .lit (.int _ _)) rfl) rfl ?_
 refine WPL.nilW ?_
 refine W.now ?_
 refine Then.n ?_
 refine WP.block ?_
 refine WP.cv (Cv.weak (E' := ((((Env.none.upd 0 (.lit (.int .i64 x4245))).upd 2 (.lit (.int .i64 x4247))).upd 3 (.fn 56 [])).upd 11 (.lit (.int .i64 x4246)))) (M' := Mem.nil) [] hnp ⟨rfl, trivial, by decide, rfl, trivial⟩ (LeE.upd rfl rfl (LeE.upd rfl rfl (LeE.upd rfl rfl (LeE.upd rfl rfl (LeE.none rfl rfl)))))) ?_
 obtain ⟨y4368, H4366, H⟩ := bnd H
 refine WP.monoW (Q := fun x E M => match (generalizing := false) y4368 with | (Sum.inl (x4352, x4353, x4354)) => x = .ret ∧ E = (((Env.none.upd 8 (.lit (.int .i64 x4352))).upd 9 (.lit (.int .i64 x4353))).upd 10 (.lit (.int .i64 x4354))) ∧ M = Mem.nil | (Sum.inr _) => x = .exit 0 ∧ E = (((Env.none.upd 0 (.lit (.int .i64 x4245))).upd 2 (.lit (.int .i64 x4247))).upd 3 (.fn 56 [])) ∧ M = Mem.nil) ?_ ?_
 · refine WP.loop (β := Int) (fun n b => g_deflate_symbol_l0 k x4245 x4247 n b = some y4368) (fun b => ((((Env.none.upd 0 (.lit (.int .i64 x4245))).upd 2 (.lit (.int .i64 x4247))).upd 3 (.fn 56 [])).upd 11 (.lit (.int .i64 b)))) (fun b => Mem.nil) k x4246 H4366 rfl rfl ?_
   rintro n x4339 H
   obtain _ | n := n
   · exact nf rfl H
   rw [g_deflate_symbol_l0.eq_2] at H
   show WP _ _ _ _ ((((Env.none.upd 0 (.lit (.int .i64 x4245))).upd 2 (.lit (.int .i64 x4247))).upd 3 (.fn 56 [])).upd 11 (.lit (.int .i64 x4339))) Mem.nil _
   refine WP.seq ?_
   refine WP.seq ?_
   refine WP.region ?_
   refine WPL.q (q_mv (v := .lit (.int _ _)) rfl) rfl ?_
   refine WPL.q (q_mv (v := .lit (.int _ _)) rfl) rfl ?_
   refine WPL.q (q_gtr rfl rfl) rfl ?_
   refine WPL.nilW ?_
   refine W.now ?_
   refine Then.n ?_
   refine WP.cond (t := (decide (x4245 < x4339))) rfl (fun hb4355 => ?_) (fun hb4355 => ?_)
   · replace H := cnt hb4355 H
     refine WP.skipW ?_
     refine W.now ?_
     refine Then.n ?_
     refine WP.seq ?_
     refine WP.block ?_
     refine WP.seq ?_
     refine WP.region ?_
     refine WPL.q (q_mv (v := .fn _ _) rfl) rfl ?_
     refine WPL.q (q_mv (v := .lit (.int _ _)) rfl) rfl ?_
     obtain ⟨⟨x4363, x4364, x4365⟩, h4361, H⟩ := bnd H
     refine WPL.c (runs_call (s := []) (t := []) (N := 0) (bor := []) fn56 rfl (s_inflate_Lit k x4339 x4363 x4364 x4365 h4361) ⟨rfl, trivial, by decide, rfl, trivial⟩ rfl trivial (.ren rfl rfl .nil) rfl trivial rfl) rfl ?_
     refine WPL.q (q_mv (v := .tup _) rfl) rfl ?_
     refine WPL.q (q_extract rfl rfl) rfl ?_
     refine WPL.q (q_extract rfl rfl) rfl ?_
     refine WPL.q (q_extract rfl rfl) rfl ?_
     refine WPL.q (q_as (v := .lit (.int _ _)) rfl) rfl ?_
     refine WPL.q (q_as (v := .lit (.int _ _)) rfl) rfl ?_
     refine WPL.q (q_as (v := .lit (.bool _)) rfl) rfl ?_
     refine WPL.nilW ?_
     refine W.now ?_
     refine Then.n ?_
     refine WP.seq ?_
     refine WP.region ?_
     refine WPL.q (q_mv (v := .lit (.int _ _)) rfl) rfl ?_
     refine WPL.q (q_mv (v := .lit (.int _ _)) rfl) rfl ?_
     refine WPL.q (q_leq rfl rfl) rfl ?_
     refine WPL.nilW ?_
     refine W.now ?_
     refine Then.n ?_
     refine WP.cond (t := (decide (x4363 ≤ x4247))) rfl (fun hb4365 => ?_) (fun hb4365 => ?_)
     · replace H := cnt hb4365 H
       refine WP.seq ?_
       refine WP.region ?_
       refine WPL.q (q_mv (v := .lit (.int _ _)) rfl) rfl ?_
       refine WPL.q (q_mv (v := .lit (.int _ _)) rfl) rfl ?_
       refine WPL.q (q_mv (v := .lit (.int _ _)) rfl) rfl ?_
       refine WPL.q (q_sub rfl rfl) rfl ?_
       refine WPL.q (q_mv (v := .lit (.int _ _)) rfl) rfl ?_
       refine WPL.q (q_as (v := .lit (.int _ _)) rfl) rfl ?_
       refine WPL.q (q_as (v := .lit (.int _ _)) rfl) rfl ?_
       refine WPL.q (q_as (v := .lit (.int _ _)) rfl) rfl ?_
       refine WPL.nilW ?_
       refine W.now ?_
       refine Then.n ?_
       refine WP.retW ?_
       have q0 := Option.some.inj H
       subst q0
       exact W.wk [] hnp (InBlock.r (Then.r (Then.r ⟨rfl, rfl, rfl⟩))) ⟨rfl, trivial, by decide, rfl, trivial⟩ (LeE.upd rfl rfl (LeE.upd rfl rfl (LeE.upd rfl rfl (LeE.none rfl rfl)))) rfl
     replace H := cnf hb4365 H
     refine WP.skipW ?_
     refine W.now ?_
     refine InBlock.n ?_
     refine Then.n ?_
     refine WP.region ?_
     refine WPL.q (q_mv (v := .lit (.int _ _)) rfl) rfl ?_
     refine WPL.q (q_sub rfl rfl) rfl ?_
     refine WPL.q (q_as (v := .lit (.int _ _)) rfl) rfl ?_
     refine WPL.nilW ?_
     exact W.wk [] hnp (Then.n ⟨n, (IntKind.wrap .i64 (x4339 - 1)), Nat.lt_succ_self n, H, rfl, rfl⟩) ⟨rfl, trivial, by decide, rfl, trivial⟩ (LeE.upd rfl rfl (LeE.upd rfl rfl (LeE.upd rfl rfl (LeE.upd rfl rfl (LeE.none rfl rfl))))) rfl
   replace H := cnf hb4355 H
   refine WP.exitW ?_
   have q0 := Option.some.inj H
   subst q0
   exact W.wk [] hnp (Then.x (Then.x ⟨rfl, rfl, rfl⟩)) ⟨rfl, trivial, by decide, rfl, trivial⟩ (LeE.upd rfl rfl (LeE.upd rfl rfl (LeE.upd rfl rfl (LeE.none rfl rfl)))) rfl
 rcases y4368 with ⟨x4352, x4353, x4354⟩ | _
 · rintro _ _ _ ⟨rfl, rfl, rfl⟩
   have q0 := (Prod.mk.inj (Option.some.inj H)).1
   have q1 := (Prod.mk.inj (Prod.mk.inj (Option.some.inj H)).2).1
   have q2 := (Prod.mk.inj (Prod.mk.inj (Option.some.inj H)).2).2
   subst q0
   subst q1
   subst q2
   exact W.now (InBlock.r (Then.r (BodyR.mkR trivial rfl [] ⟨rfl, rfl⟩ ⟨rfl, trivial, by decide, rfl, trivial⟩ rfl rfl)))
 rintro _ _ _ ⟨rfl, rfl, rfl⟩
 refine W.now ?_
 refine InBlock.x0 ?_
 refine Then.n ?_
 refine WP.seq ?_
 refine WP.region ?_
 refine WPL.q (q_mv (v := .fn _ _) rfl) rfl ?_
 refine WPL.q (q_mv (v := .lit (.int _ _)) rfl) rfl ?_
 obtain ⟨⟨x4370, x4371, x4372⟩, h4368, H⟩ := bnd H
 refine WPL.c (runs_call (s := []) (t := []) (N := 0) (bor := []) fn56 rfl (s_inflate_Lit k x4245 x4370 x4371 x4372 h4368) ⟨rfl, trivial, by decide, rfl, trivial⟩ rfl trivial (.ren rfl rfl .nil) rfl trivial rfl) rfl ?_
 refine WPL.q (q_mv (v := .tup _) rfl) rfl ?_
 refine WPL.q (q_extract rfl rfl) rfl ?_
 refine WPL.q (q_extract rfl rfl) rfl ?_
 refine WPL.q (q_extract rfl rfl) rfl ?_
 refine WPL.q (q_as (v := .lit (.int _ _)) rfl) rfl ?_
 refine WPL.q (q_as (v := .lit (.int _ _)) rfl) rfl ?_
 refine WPL.q (q_as (v := .lit (.bool _)) rfl) rfl ?_
 refine WPL.nilW ?_
 refine W.now ?_
 refine Then.n ?_
 refine WP.seq ?_
 refine WP.region ?_
 refine WPL.q (q_mv (v := .lit (.int _ _)) rfl) rfl ?_
 refine WPL.q (q_mv (v := .lit (.int _ _)) rfl) rfl ?_
 refine WPL.q (q_mv (v := .lit (.int _ _)) rfl) rfl ?_
 refine WPL.q (q_sub rfl rfl) rfl ?_
 refine WPL.q (q_mv (v := .lit (.int _ _)) rfl) rfl ?_
 refine WPL.q (q_as (v := .lit (.int _ _)) rfl) rfl ?_
 refine WPL.q (q_as (v := .lit (.int _ _)) rfl) rfl ?_
 refine WPL.q (q_as (v := .lit (.int _ _)) rfl) rfl ?_
 refine WPL.nilW ?_
 refine W.now ?_
 refine Then.n ?_
 refine WP.retW ?_
 have q0 := (Prod.mk.inj (Option.some.inj H)).1
 have q1 := (Prod.mk.inj (Prod.mk.inj (Option.some.inj H)).2).1
 have q2 := (Prod.mk.inj (Prod.mk.inj (Option.some.inj H)).2).2
 subst q0
 subst q1
 subst q2
 exact W.now (BodyR.mkR trivial rfl [] ⟨rfl, rfl⟩ ⟨rfl, trivial, by decide, rfl, trivial⟩ rfl rfl)
set_option maxRecDepth 100000 in
set_option maxHeartbeats 4000000 in
theorem s_deflate_lit (k : Nat) (x4243 : Int) (x4377 : Int) (x4378 : Int) (x4379 : Int) (H : g_deflate_lit k x4243 = some (x4377, x4378, x4379)) : Go.Q.Spec Try.prog 32 0 [.lit (.int .i64 x4243)] Mem.nil (fun o M => o = .ret (.tup [.lit (.int .i64 x4377), .lit (.int .i64 x4378), .lit (.int .i64 x4379)]) ∧ M = Mem.nil) := by
 unfold g_deflate_lit at H
 refine Go.Q.Spec.of_bodyR (az := []) (rs := [.tmp 2, .tmp 3, .tmp 4]) (nt := 10) Try.func32 rfl rfl (by intro t T h; simp at h) rfl rfl fun cx hnp => ?_
 refine WP.seq ?_
 refine WP.region ?_
 refine WPL.q (q_as (v := .lit (.int _ _)) rfl) rfl ?_
 refine WPL.q (q_as (v := .lit (.int _ _)) rfl) rfl ?_
 refine WPL.q (q_as (v := .lit (.int _ _)) rfl) rfl ?_
 refine WPL.nilW ?_
 refine W.now ?_
 refine Then.n ?_
 refine WP.seq ?_
 refine WP.region ?_
 refine WPL.q (q_mv (v := .lit (.int _ _)) rfl) rfl ?_
 obtain ⟨⟨x4381, x4382, x4383⟩, h4379, H⟩ := bnd H
 refine WPL.c (runs_call (s := []) (t := []) (N := 0) (bor := []) fn55 rfl (s_deflate_symbol k 257 285 x4243 x4381 x4382 x4383 h4379) ⟨rfl, trivial, by decide, rfl, trivial⟩ rfl trivial (.ren rfl rfl (.ren rfl rfl (.ren rfl rfl (.ren rfl rfl .nil)))) rfl trivial rfl) rfl ?_
 refine WPL.q (q_extract rfl rfl) rfl ?_
 refine WPL.q (q_extract rfl rfl) rfl ?_
 refine WPL.q (q_extract rfl rfl) rfl ?_
 refine WPL.q (q_as (v := .lit (.int _ _)) rfl) rfl ?_
 refine WPL.q (q_as (v := .lit (.int _ _)) rfl) rfl ?_
 refine WPL.q (q_as (v := .lit (.int _ _)) rfl) rfl ?_
 refine WPL.nilW ?_
 refine W.now ?_
 refine Then.n ?_
 refine WP.retW ?_
 have q0 := (Prod.mk.inj (Option.some.inj H)).1
 have q1 := (Prod.mk.inj (Prod.mk.inj (Option.some.inj H)).2).1
 have q2 := (Prod.mk.inj (Prod.mk.inj (Option.some.inj H)).2).2
 subst q0
 subst q1
 subst q2
 exact W.now (BodyR.mkR trivial rfl [] ⟨rfl, rfl⟩ ⟨rfl, trivial, by decide, rfl, trivial⟩ rfl rfl)
set_option maxRecDepth 100000 in
set_option maxHeartbeats 4000000 in
theorem s_inflate_Dist (k : Nat) (x4410 : Int) (x4428 : Int) (x4429 : Int) (x4430 : Bool) (H : g_inflate_Dist k x4410 = some (x4428, x4429, x4430)) : Go.Q.Spec Try.prog 57 0 [.lit (.int .i64 x4410)] Mem.nil (fun o M => o = .ret (.tup [.lit (.int .i64 x4428), .lit (.int .i64 x4429), .lit (.bool x4430)]) ∧ M = Mem.nil) := by
 unfold g_inflate_Dist at H
 refine Go.Q.Spec.of_bodyR (az := []) (rs := [.tmp 2, .tmp 3, .tmp 4]) (nt := 27) Try.func57 rfl rfl (by intro t T h; simp at h) rfl rfl fun cx hnp => ?_
 refine WP.seq ?_
 refine WP.region ?_
 refine WPL.q (q_as (v := .lit (.int _ _)) rfl) rfl ?_
 refine WPL.q (q_as (v := .lit (.int _ _)) rfl) rfl ?_
 refine WPL.q (q_as (v := .lit (.bool _)) rfl) rfl ?_
 refine WPL.nilW ?_
 refine W.now ?_
 refine Then.n ?_
 refine WP.seq ?_
 refine WP.block ?_
 refine WP.seq ?_
 obtain ⟨x4438, H4439, H⟩ := bnd H
 refine WP.monoW (Q := fun x E M => x = .normal ∧ E = ((Env.none.upd 0 (.lit (.int .i64 x4410))).upd 5 (.lit (.bool x4438))) ∧ M = Mem.nil) ?_ ?_
 · clear H
   have H := H4439
   clear H4439
   refine WP.region ?_
   refine WPL.q (q_mv (v := .lit (.int _ _)) rfl) rfl ?_
   refine WPL.q (q_lss rfl rfl) rfl ?_
   refine WPL.q (q_mv (v := .lit (.bool _)) rfl) rfl ?_
   refine WPL.split (t := 8) (b := (decide (x4410 < 0))) rfl (fun hb4438 => ?_) (fun hb4438 => ?_)
   · replace H := cnt hb4438 H
     refine WPL.skipg (b' := true) rfl rfl (lb hb4438) rfl rfl (.inl trivial) ?_
     refine WPL.skipg (b' := true) rfl rfl (lb hb4438) rfl rfl (.inl trivial) ?_
     refine WPL.q (q_pickT (v := .lit (.bool _)) (lb hb4438) rfl) rfl ?_
     refine WPL.q (q_as (v := .lit (.bool _)) rfl) rfl ?_
     refine WPL.nilW ?_
     have q0 := (Option.some.inj H)
     subst q0
     exact W.wk [] hnp ⟨rfl, rfl, rfl⟩ ⟨rfl, trivial, by decide, rfl, trivial⟩ (LeE.upd rfl rfl (LeE.upd rfl rfl (LeE.none rfl rfl))) rfl
   replace H := cnf hb4438 H
   refine WPL.qg rfl rfl (lb hb4438) (q_mv (v := .lit (.int _ _)) rfl) rfl ?_
   refine WPL.qg rfl rfl (lb hb4438) (q_gtr rfl rfl) rfl ?_
   refine WPL.q (q_pickF (v := .lit (.bool _)) (lb hb4438) rfl) rfl ?_
   refine WPL.q (q_as (v := .lit (.bool _)) rfl) rfl ?_
   refine WPL.nilW ?_
   have q0 := (Option.some.inj H)
   subst q0
   exact W.wk [] hnp ⟨rfl, rfl, rfl⟩ ⟨rfl, trivial, by decide, rfl, trivial⟩ (LeE.upd rfl rfl (LeE.upd rfl rfl (LeE.none rfl rfl))) rfl
 rintro _ _ _ ⟨rfl, rfl, rfl⟩
 refine W.now ?_
 refine Then.n ?_
 refine WP.cond (t := x4438) rfl (fun hb4440 => ?_) (fun hb4440 => ?_)
 · replace H := cnt hb4440 H
   refine WP.seq ?_
   refine WP.region ?_
   refine WPL.q (q_as (v := .lit (.int _ _)) rfl) rfl ?_
   refine WPL.q (q_as (v := .lit (.int _ _)) rfl) rfl ?_
   refine WPL.q (q_as (v := .lit (.bool _)) rfl) rfl ?_
   refine WPL.nilW ?_
   refine W.now ?_
   refine Then.n ?_
   refine WP.retW ?_
   have q0 := (Prod.mk.inj (Option.some.inj H)).1
   have q1 := (Prod.mk.inj (Prod.mk.inj (Option.some.inj H)).2).1
   have q2 := (Prod.mk.inj (Prod.mk.inj (Option.some.inj H)).2).2
   subst q0
   subst q1
   subst q2
   exact W.now (InBlock.r (Then.r (BodyR.mkR trivial rfl [] ⟨rfl, rfl⟩ ⟨rfl, trivial, by decide, rfl, trivial⟩ rfl rfl)))
 replace H := cnf hb4440 H
 refine WP.seq ?_
 refine WP.region ?_
 refine WPL.q (q_mv (v := .lit (.int _ _)) rfl) rfl ?_
 refine WPL.q (q_lss rfl rfl) rfl ?_
 refine WPL.q (q_as (v := .lit (.bool _)) rfl) rfl ?_
 refine WPL.nilW ?_
 refine W.now ?_
 refine Then.n ?_
 refine WP.cond (t := (decide (x4410 < 4))) rfl (fun hb4441 => ?_) (fun hb4441 => ?_)
 · replace H := cnt hb4441 H
   refine WP.seq ?_
   refine WP.region ?_
   refine WPL.q (q_mv (v := .lit (.int _ _)) rfl) rfl ?_
   refine WPL.q (q_add rfl rfl) rfl ?_
   refine WPL.q (q_as (v := .lit (.int _ _)) rfl) rfl ?_
   refine WPL.q (q_as (v := .lit (.int _ _)) rfl) rfl ?_
   refine WPL.q (q_as (v := .lit (.bool _)) rfl) rfl ?_
   refine WPL.nilW ?_
   refine W.now ?_
   refine Then.n ?_
   refine WP.retW ?_
   have q0 := (Prod.mk.inj (Option.some.inj H)).1
   have q1 := (Prod.mk.inj (Prod.mk.inj (Option.some.inj H)).2).1
   have q2 := (Prod.mk.inj (Prod.mk.inj (Option.some.inj H)).2).2
   subst q0
   subst q1
   subst q2
   exact W.now (InBlock.r (Then.r (BodyR.mkR trivial rfl [] ⟨rfl, rfl⟩ ⟨rfl, trivial, by decide, rfl, trivial⟩ rfl rfl)))
 replace H := cnf hb4441 H
 refine WP.skipW ?_
 refine W.now ?_
 refine InBlock.n ?_
 refine Then.n ?_
 refine WP.seq ?_
 refine WP.region ?_
 refine WPL.q (q_mv (v := .lit (.int _ _)) rfl) rfl ?_
 refine WPL.q (q_quo rfl rfl rfl) rfl ?_
 obtain ⟨x4443, h4443, H⟩ := bnd H
 refine WPL.q (q_nm (q_sub rfl rfl) (nm_int h4443)) rfl ?_
 refine WPL.q (q_as (v := .lit (.int _ _)) rfl) rfl ?_
 refine WPL.nilW ?_
 refine W.now ?_
 refine Then.n ?_
 refine WP.seq ?_
 refine WP.region ?_
 refine WPL.q (q_mv (v := .lit (.int _ _)) rfl) rfl ?_
 refine WPL.q (q_rem rfl rfl rfl) rfl ?_
 obtain ⟨x4444, h4444, H⟩ := bnd H
 refine WPL.q (q_nm (q_add rfl rfl) (nm_int h4444)) rfl ?_
 refine WPL.q (q_mv (v := .lit (.int _ _)) rfl) rfl ?_
 obtain ⟨h4444, H⟩ := grd H
 refine WPL.q (q_shl rfl rfl h4444) rfl ?_
 obtain ⟨x4446, h4446, H⟩ := bnd H
 refine WPL.q (q_nm (q_add rfl rfl) (nm_int h4446)) rfl ?_
 refine WPL.q (q_mv (v := .lit (.int _ _)) rfl) rfl ?_
 refine WPL.q (q_as (v := .lit (.int _ _)) rfl) rfl ?_
 refine WPL.q (q_as (v := .lit (.int _ _)) rfl) rfl ?_
 refine WPL.q (q_as (v := .lit (.bool _)) rfl) rfl ?_
 refine WPL.nilW ?_
 refine W.now ?_
 refine Then.n ?_
 refine WP.retW ?_
 have q0 := (Prod.mk.inj (Option.some.inj H)).1
 have q1 := (Prod.mk.inj (Prod.mk.inj (Option.some.inj H)).2).1
 have q2 := (Prod.mk.inj (Prod.mk.inj (Option.some.inj H)).2).2
 subst q0
 subst q1
 subst q2
 exact W.now (BodyR.mkR trivial rfl [] ⟨rfl, rfl⟩ ⟨rfl, trivial, by decide, rfl, trivial⟩ rfl rfl)
set_option maxRecDepth 100000 in
set_option maxHeartbeats 4000000 in
theorem s_deflate_symbol__b (k : Nat) (x4404 : Int) (x4405 : Int) (x4406 : Int) (x4479 : Int) (x4480 : Int) (x4481 : Int) (H : g_deflate_symbol__b k x4404 x4405 x4406 = some (x4479, x4480, x4481)) : Go.Q.Spec Try.prog 55 0 [.lit (.int .i64 x4404), .lit (.int .i64 x4405), .lit (.int .i64 x4406), .fn 57 []] Mem.nil (fun o M => o = .ret (.tup [.lit (.int .i64 x4479), .lit (.int .i64 x4480), .lit (.int .i64 x4481)]) ∧ M = Mem.nil) := by
 unfold g_deflate_symbol__b at H
 refine Go.Q.Spec.of_bodyR (az := []) (rs := [.tmp 8, .tmp 9, .tmp 10]) (nt := 51) Try.func55 rfl rfl (by intro t T h; simp at h) rfl rfl fun cx hnp => ?_
 refine WP.seq ?_
 refine WP.region ?_
 refine WPL.q (q_as (v := .lit (.int _ _)) rfl) rfl ?_
 refine WPL.q (q_as (v := .lit (.int _ _)) rfl) rfl ?_
 refine WPL.q (q_as (v := .lit (.int _ _)) rfl) rfl ?_
 refine WPL.nilW ?_
 refine W.now ?_
 refine Then.n ?_
 refine WP.seq ?_
 refine WP.seq ?_
 refine WP.region ?_
 refine WPL.q (q_mv (v := .lit (.int _ _)) rfl) rfl ?_
 refine WPL.q (q_as (v := .lit (.int _ _)) rfl) rfl ?_
 refine WPL.nilW ?_
 refine W.now ?_
 refine Then.n ?_
 refine WP.block ?_
 refine WP.cv (Cv.weak (E' := ((((Env.none.upd 0 (.lit (.int .i64 x4404))).upd 2 (.lit (.int .i64 x4406))).upd 3 (.fn 57 [])).upd 11 (.lit (.int .i64 x4405)))) (M' := Mem.nil) [] hnp ⟨rfl, trivial, by decide, rfl, trivial⟩ (LeE.upd rfl rfl (LeE.upd rfl rfl (LeE.upd rfl rfl (LeE.upd rfl rfl (LeE.none rfl rfl)))))) ?_
 obtain ⟨y4523, H4521, H⟩ := bnd H
 refine WP.monoW (Q := fun x E M => match (generalizing := false) y4523 with | (Sum.inl (x4507, x4508, x4509)) => x = .ret ∧ E = (((Env.none.upd 8 (.lit (.int .i64 x4507))).upd 9 (.lit (.int .i64 x4508))).upd 10 (.lit (.int .i64 x4509))) ∧ M = Mem.nil | (Sum.inr _) => x = .exit 0 ∧ E = (((Env.none.upd 0 (.lit (.int .i64 x4404))).upd 2 (.lit (.int .i64 x4406))).upd 3 (.fn 57 [])) ∧ M = Mem.nil) ?_ ?_
 · refine WP.loop (β := Int) (fun n b => g_deflate_symbol__b_l0 k x4404 x4406 n b = some y4523) (fun b => ((((Env.none.upd 0 (.lit (.int .i64 x4404))).upd 2 (.lit (.int .i64 x4406))).upd 3 (.fn 57 [])).upd 11 (.lit (.int .i64 b)))) (fun b => Mem.nil) k x4405 H4521 rfl rfl ?_
   rintro n x4494 H
   obtain _ | n := n
   · exact nf rfl H
   rw [g_deflate_symbol__b_l0.eq_2] at H
   show WP _ _ _ _ ((((Env.none.upd 0 (.lit (.int .i64 x4404))).upd 2 (.lit (.int .i64 x4406))).upd 3 (.fn 57 [])).upd 11 (.lit (.int .i64 x4494))) Mem.nil _
   refine WP.seq ?_
   refine WP.seq ?_
   refine WP.region ?_
   refine WPL.q (q_mv (v := .lit (.int _ _)) rfl) rfl ?_
   refine WPL.q (q_mv (v := .lit (.int _ _)) rfl) rfl ?_
   refine WPL.q (q_gtr rfl rfl) rfl ?_
   refine WPL.nilW ?_
   refine W.now ?_
   refine Then.n ?_
   refine WP.cond (t := (decide (x4404 < x4494))) rfl (fun hb4510 => ?_) (fun hb4510 => ?_)
   · replace H := cnt hb4510 H
     refine WP.skipW ?_
     refine W.now ?_
     refine Then.n ?_
     refine WP.seq ?_
     refine WP.block ?_
     refine WP.seq ?_
     refine WP.region ?_
     refine WPL.q (q_mv (v := .fn _ _) rfl) rfl ?_
     refine WPL.q (q_mv (v := .lit (.int _ _)) rfl) rfl ?_
     obtain ⟨⟨x4518, x4519, x4520⟩, h4516, H⟩ := bnd H
     refine WPL.c (runs_call (s := []) (t := []) (N := 0) (bor := []) fn57 rfl (s_inflate_Dist k x4494 x4518 x4519 x4520 h4516) ⟨rfl, trivial, by decide, rfl, trivial⟩ rfl trivial (.ren rfl rfl .nil) rfl trivial rfl) rfl ?_
     refine WPL.q (q_mv (v := .tup _) rfl) rfl ?_
     refine WPL.q (q_extract rfl rfl) rfl ?_
     refine WPL.q (q_extract rfl rfl) rfl ?_
     refine WPL.q (q_extract rfl rfl) rfl ?_
     refine WPL.q (q_as (v := .lit (.int _ _)) rfl) rfl ?_
     refine WPL.q (q_as (v := .lit (.int _ _)) rfl) rfl ?_
     refine WPL.q (q_as (v := .lit (.bool _)) rfl) rfl ?_
     refine WPL.nilW ?_
     refine W.now ?_
     refine Then.n ?_
     refine WP.seq ?_
     refine WP.region ?_
     refine WPL.q (q_mv (v := .lit (.int _ _)) rfl) rfl ?_
     refine WPL.q (q_mv (v := .lit (.int _ _)) rfl) rfl ?_
     refine WPL.q (q_leq rfl rfl) rfl ?_
     refine WPL.nilW ?_
     refine W.now ?_
     refine Then.n ?_
     refine WP.cond (t := (decide (x4518 ≤ x4406))) rfl (fun hb4520 => ?_) (fun hb4520 => ?_)
     · replace H := cnt hb4520 H
       refine WP.seq ?_
       refine WP.region ?_
       refine WPL.q (q_mv (v := .lit (.int _ _)) rfl) rfl ?_
       refine WPL.q (q_mv (v := .lit (.int _ _)) rfl) rfl ?_
       refine WPL.q (q_mv (v := .lit (.int _ _)) rfl) rfl ?_
       refine WPL.q (q_sub rfl rfl) rfl ?_
       refine WPL.q (q_mv (v := .lit (.int _ _)) rfl) rfl ?_
       refine WPL.q (q_as (v := .lit (.int _ _)) rfl) rfl ?_
       refine WPL.q (q_as (v := .lit (.int _ _)) rfl) rfl ?_
       refine WPL.q (q_as (v := .lit (.int _ _)) rfl) rfl ?_
       refine WPL.nilW ?_
       refine W.now ?_
       refine Then.n ?_
       refine WP.retW ?_
       have q0 := Option.some.inj H
       subst q0
       exact W.wk [] hnp (InBlock.r (Then.r (Then.r ⟨rfl, rfl, rfl⟩))) ⟨rfl, trivial, by decide, rfl, trivial⟩ (LeE.upd rfl rfl (LeE.upd rfl rfl (LeE.upd rfl rfl (LeE.none rfl rfl)))) rfl
     replace H := cnf hb4520 H
     refine WP.skipW ?_
     refine W.now ?_
     refine InBlock.n ?_
     refine Then.n ?_
     refine WP.region ?_
     refine WPL.q (q_mv (v := .lit (.int _ _)) rfl) rfl ?_
     refine WPL.q (q_sub rfl rfl) rfl ?_
     refine WPL.q (q_as (v := .lit (.int _ _)) rfl) rfl ?_
     refine WPL.nilW ?_
     exact W.wk [] hnp (Then.n ⟨n, (IntKind.wrap .i64 (x4494 - 1)), Nat.lt_succ_self n, H, rfl, rfl⟩) ⟨rfl, trivial, by decide, rfl, trivial⟩ (LeE.upd rfl rfl (LeE.upd rfl rfl (LeE.upd rfl rfl (LeE.upd rfl rfl (LeE.none rfl rfl))))) rfl
   replace H := cnf hb4510 H
   refine WP.exitW ?_
   have q0 := Option.some.inj H
   subst q0
   exact W.wk [] hnp (Then.x (Then.x ⟨rfl, rfl, rfl⟩)) ⟨rfl, trivial, by decide, rfl, trivial⟩ (LeE.upd rfl rfl (LeE.upd rfl rfl (LeE.upd rfl rfl (LeE.none rfl rfl)))) rfl
 rcases y4523 with ⟨x4507, x4508, x4509⟩ | _
 · rintro _ _ _ ⟨rfl, rfl, rfl⟩
   have q0 := (Prod.mk.inj (Option.some.inj H)).1
   have q1 := (Prod.mk.inj (Prod.mk.inj (Option.some.inj H)).2).1
   have q2 := (Prod.mk.inj (Prod.mk.inj (Option.some.inj H)).2).2
   subst q0
   subst q1
   subst q2
   exact W.now (InBlock.r (Then.r (BodyR.mkR trivial rfl [] ⟨rfl, rfl⟩ ⟨rfl, trivial, by decide, rfl, trivial⟩ rfl rfl)))
 rintro _ _ _ ⟨rfl, rfl, rfl⟩
 refine W.now ?_
 refine InBlock.x0 ?_
 refine Then.n ?_
 refine WP.seq ?_
 refine WP.region ?_
 refine WPL.q (q_mv (v := .fn _ _) rfl) rfl ?_
 refine WPL.q (q_mv (v := .lit (.int _ _)) rfl) rfl ?_
 obtain ⟨⟨x4525, x4526, x4527⟩, h4523, H⟩ := bnd H
 refine WPL.c (runs_call (s := []) (t := []) (N := 0) (bor := []) fn57 rfl (s_inflate_Dist k x4404 x4525 x4526 x4527 h4523) ⟨rfl, trivial, by decide, rfl, trivial⟩ rfl trivial (.ren rfl rfl .nil) rfl trivial rfl) rfl ?_
 refine WPL.q (q_mv (v := .tup _) rfl) rfl ?_
 refine WPL.q (q_extract rfl rfl) rfl ?_
 refine WPL.q (q_extract rfl rfl) rfl ?_
 refine WPL.q (q_extract rfl rfl) rfl ?_
 refine WPL.q (q_as (v := .lit (.int _ _)) rfl) rfl ?_
 refine WPL.q (q_as (v := .lit (.int _ _)) rfl) rfl ?_
 refine WPL.q (q_as (v := .lit (.bool _)) rfl) rfl ?_
 refine WPL.nilW ?_
 refine W.now ?_
 refine Then.n ?_
 refine WP.seq ?_
 refine WP.region ?_
 refine WPL.q (q_mv (v := .lit (.int _ _)) rfl) rfl ?_
 refine WPL.q (q_mv (v := .lit (.int _ _)) rfl) rfl ?_
 refine WPL.q (q_mv (v := .lit (.int _ _)) rfl) rfl ?_
 refine WPL.q (q_sub rfl rfl) rfl ?_
 refine WPL.q (q_mv (v := .lit (.int _ _)) rfl) rfl ?_
 refine WPL.q (q_as (v := .lit (.int _ _)) rfl) rfl ?_
 refine WPL.q (q_as (v := .lit (.int _ _)) rfl) rfl ?_
 refine WPL.q (q_as (v := .lit (.int _ _)) rfl) rfl ?_
 refine WPL.nilW ?_
 refine W.now ?_
 refine Then.n ?_
 refine WP.retW ?_
 have q0 := (Prod.mk.inj (Option.some.inj H)).1
 have q1 := (Prod.mk.inj (Prod.mk.inj (Option.some.inj H)).2).1
 have q2 := (Prod.mk.inj (Prod.mk.inj (Option.some.inj H)).2).2
 subst q0
 subst q1
 subst q2
 exact W.now (BodyR.mkR trivial rfl [] ⟨rfl, rfl⟩ ⟨rfl, trivial, by decide, rfl, trivial⟩ rfl rfl)
set_option maxRecDepth 100000 in
set_option maxHeartbeats 4000000 in
theorem s_deflate_dist (k : Nat) (x4402 : Int) (x4532 : Int) (x4533 : Int) (x4534 : Int) (H : g_deflate_dist k x4402 = some (x4532, x4533, x4534)) : Go.Q.Spec Try.prog 33 0 [.lit (.int .i64 x4402)] Mem.nil (fun o M => o = .ret (.tup [.lit (.int .i64 x4532), .lit (.int .i64 x4533), .lit (.int .i64 x4534)]) ∧ M = Mem.nil) := by
 unfold g_deflate_dist at H
 refine Go.Q.Spec.of_bodyR (az := []) (rs := [.tmp 2, .tmp 3, .tmp 4]) (nt := 10) Try.func33 rfl rfl (by intro t T h; simp at h) rfl rfl fun cx hnp => ?_
 refine WP.seq ?_
 refine WP.region ?_
 refine WPL.q (q_as (v := .lit (.int _ _)) rfl) rfl ?_
 refine WPL.q (q_as (v := .lit (.int _ _)) rfl) rfl ?_
 refine WPL.q (q_as (v := .lit (.int _ _)) rfl) rfl ?_
 refine WPL.nilW ?_
 refine W.now ?_
 refine Then.n ?_
 refine WP.seq ?_
 refine WP.region ?_
 refine WPL.q (q_mv (v := .lit (.int _ _)) rfl) rfl ?_
 obtain ⟨⟨x4536, x4537, x4538⟩, h4534, H⟩ := bnd H
 refine WPL.c (runs_call (s := []) (t := []) (N := 0) (bor := []) fn55 rfl (s_deflate_symbol__b k 0 29 x4402 x4536 x4537 x4538 h4534) ⟨rfl, trivial, by decide, rfl, trivial⟩ rfl trivial (.ren rfl rfl (.ren rfl rfl (.ren rfl rfl (.ren rfl rfl .nil)))) rfl trivial rfl) rfl ?_
 refine WPL.q (q_extract rfl rfl) rfl ?_
 refine WPL.q (q_extract rfl rfl) rfl ?_
 refine WPL.q (q_extract rfl rfl) rfl ?_
 refine WPL.q (q_as (v := .lit (.int _ _)) rfl) rfl ?_
 refine WPL.q (q_as (v := .lit (.int _ _)) rfl) rfl ?_
 refine WPL.q (q_as (v := .lit (.int _ _)) rfl) rfl ?_
 refine WPL.nilW ?_
 refine W.now ?_
 refine Then.n ?_
 refine WP.retW ?_
 have q0 := (Prod.mk.inj (Option.some.inj H)).1
 have q1 := (Prod.mk.inj (Prod.mk.inj (Option.some.inj H)).2).1
 have q2 := (Prod.mk.inj (Prod.mk.inj (Option.some.inj H)).2).2
 subst q0
 subst q1
 subst q2
 exact W.now (BodyR.mkR trivial rfl [] ⟨rfl, rfl⟩ ⟨rfl, trivial, by decide, rfl, trivial⟩ rfl rfl)
set_option maxRecDepth 100000 in
set_option maxHeartbeats 4000000 in
theorem s_deflate_coder_all (k : Nat) (x4142 : (List S_deflate_Item)) (x4143 : (List Int)) (x4144 : (List Int)) (x4145 : (List Int)) (x4146 : (List Int)) (x4147 : Int) (x4148 : (List Int)) (x4759 : Int) (x4760 : (List Int)) (H : g_deflate_coder_all k x4142 x4143 x4144 x4145 x4146 x4147 x4148 = some (x4759, x4760)) : Go.Q.Spec Try.prog 31 2 [.ptr 0 0, .ro (Rd.slice rdS_deflate_Item) false x4142] (((Mem.nil.push (.cells 106 [.ptr 1 0, .ro (Rd.slice (Rd.int .i64)) false x4143, .ro (Rd.slice (Rd.int .i64)) false x4144, .ro (Rd.slice (Rd.int .u32)) false x4145, .ro (Rd.slice (Rd.int .u32)) false x4146])).push (.cells 101 [.whole 2, .lit (.int .i64 x4147)])).push (.row 5 (Rd.int .u8) x4148)) (fun o M => o = .ret (.tup []) ∧ M = (((Mem.nil.push (.cells 106 [.ptr 1 0, .ro (Rd.slice (Rd.int .i64)) false x4143, .ro (Rd.slice (Rd.int .i64)) false x4144, .ro (Rd.slice (Rd.int .u32)) false x4145, .ro (Rd.slice (Rd.int .u32)) false x4146])).push (.cells 101 [.whole 2, .lit (.int .i64 x4759)])).push (.row 5 (Rd.int .u8) x4760))) := by
 unfold g_deflate_coder_all at H
 refine Go.Q.Spec.of_bodyR (az := []) (rs := []) (nt := 125) Try.func31 rfl rfl (by intro t T h; simp at h) rfl rfl fun cx hnp => ?_
 refine WP.seq ?_
 refine WP.seq ?_
 refine WP.region ?_
 refine WPL.q (q_mv (v := .ro _ _ _) rfl) rfl ?_
 refine WPL.q (q_len_ro sl32 rfl) rfl ?_
 refine WPL.q (q_mv (v := .lit (.int _ _)) rfl) rfl ?_
 refine WPL.nilW ?_
 refine W.now ?_
 refine Then.n ?_
 refine WP.block ?_
 refine WP.cv (Cv.weak (E' := ((((Env.none.upd 0 (.ptr 0 0)).upd 9 (.ro (Rd.slice rdS_deflate_Item) false x4142)).upd 10 (.lit (.int .i64 ((List.length x4142 : Nat) : Int)))).upd 11 (.lit (.int .i64 0)))) (M' := (((Mem.nil.push (.cells 106 [.ptr 1 0, .ro (Rd.slice (Rd.int .i64)) false x4143, .ro (Rd.slice (Rd.int .i64)) false x4144, .ro (Rd.slice (Rd.int .u32)) false x4145, .ro (Rd.slice (Rd.int .u32)) false x4146])).push (.cells 101 [.whole 2, .lit (.int .i64 x4147)])).push (.row 5 (Rd.int .u8) x4148))) [0, 1, 2] hnp ⟨rfl, ⟨⟨⟨trivial, .inr ⟨rfl, rfl, rfl⟩⟩, .inr ⟨rfl, rfl, rfl⟩⟩, .inr ⟨rfl, rfl, rfl⟩⟩, by decide, rfl, ⟨⟨trivial, rfl⟩, rfl⟩⟩ (LeE.upd rfl rfl (LeE.upd rfl rfl (LeE.upd rfl rfl (LeE.upd rfl rfl (LeE.none rfl rfl)))))) ?_
 obtain ⟨⟨x5012, x5013⟩, H5137, H⟩ := bnd H
 refine WP.monoW (Q := fun x E M => x = .exit 0 ∧ E = (Env.none.upd 0 (.ptr 0 0)) ∧ M = (((Mem.nil.push (.cells 106 [.ptr 1 0, .ro (Rd.slice (Rd.int .i64)) false x4143, .ro (Rd.slice (Rd.int .i64)) false x4144, .ro (Rd.slice (Rd.int .u32)) false x4145, .ro (Rd.slice (Rd.int .u32)) false x4146])).push (.cells 101 [.whole 2, .lit (.int .i64 x5012)])).push (.row 5 (Rd.int .u8) x5013))) ?_ ?_
 · refine WP.loop (β := Int × Int × (List Int)) (fun n b => g_deflate_coder_all_l0 k x4142 x4143 x4144 x4145 x4146 n b.1 b.2.1 b.2.2 = some (x5012, x5013)) (fun b => ((((Env.none.upd 0 (.ptr 0 0)).upd 9 (.ro (Rd.slice rdS_deflate_Item) false x4142)).upd 10 (.lit (.int .i64 ((List.length x4142 : Nat) : Int)))).upd 11 (.lit (.int .i64 b.1)))) (fun b => (((Mem.nil.push (.cells 106 [.ptr 1 0, .ro (Rd.slice (Rd.int .i64)) false x4143, .ro (Rd.slice (Rd.int .i64)) false x4144, .ro (Rd.slice (Rd.int .u32)) false x4145, .ro (Rd.slice (Rd.int .u32)) false x4146])).push (.cells 101 [.whole 2, .lit (.int .i64 b.2.1)])).push (.row 5 (Rd.int .u8) b.2.2))) k (0, x4147, x4148) H5137 rfl rfl ?_
   rintro n ⟨x4885, x4886, x4887⟩ H
   obtain _ | n := n
   · exact nf rfl H
   rw [g_deflate_coder_all_l0.eq_2] at H
   show WP _ _ _ _ ((((Env.none.upd 0 (.ptr 0 0)).upd 9 (.ro (Rd.slice rdS_deflate_Item) false x4142)).upd 10 (.lit (.int .i64 ((List.length x4142 : Nat) : Int)))).upd 11 (.lit (.int .i64 x4885))) (((Mem.nil.push (.cells 106 [.ptr 1 0, .ro (Rd.slice (Rd.int .i64)) false x4143, .ro (Rd.slice (Rd.int .i64)) false x4144, .ro (Rd.slice (Rd.int .u32)) false x4145, .ro (Rd.slice (Rd.int .u32)) false x4146])).push (.cells 101 [.whole 2, .lit (.int .i64 x4886)])).push (.row 5 (Rd.int .u8) x4887)) _
   refine WP.seq ?_
   refine WP.region ?_
   obtain ⟨x5014, h5014, H⟩ := bnd H
   refine WPL.q (q_nm (q_lss rfl rfl) (nm_bool h5014)) rfl ?_
   refine WPL.nilW ?_
   refine W.now ?_
   refine Then.n ?_
   refine WP.seq ?_
   refine WP.cond (t := x5014) rfl (fun hb5015 => ?_) (fun hb5015 => ?_)
   · replace H := cnt hb5015 H
     refine WP.skipW ?_
     refine W.now ?_
     refine Then.n ?_
     refine WP.seq ?_
     obtain ⟨⟨x5076, x5077⟩, H5136, H⟩ := bnd H
     refine WP.monoW (Q := fun x E M => x = .normal ∧ E = ((((Env.none.upd 0 (.ptr 0 0)).upd 9 (.ro (Rd.slice rdS_deflate_Item) false x4142)).upd 10 (.lit (.int .i64 ((List.length x4142 : Nat) : Int)))).upd 11 (.lit (.int .i64 x4885))) ∧ M = (((Mem.nil.push (.cells 106 [.ptr 1 0, .ro (Rd.slice (Rd.int .i64)) false x4143, .ro (Rd.slice (Rd.int .i64)) false x4144, .ro (Rd.slice (Rd.int .u32)) false x4145, .ro (Rd.slice (Rd.int .u32)) false x4146])).push (.cells 101 [.whole 2, .lit (.int .i64 x5076)])).push (.row 5 (Rd.int .u8) x5077))) ?_ ?_
     · clear H
       have H := H5136
       clear H5136
       refine WP.block ?_
       refine WP.seq ?_
       refine WP.region ?_
       obtain ⟨x5078, h5078, H⟩ := bnd H
       refine WPL.q (q_index_ro sl32 rfl rfl rfl h5078) rfl ?_
       refine WPL.q (q_load_roag ag36 rfl rfl S_deflate_Item.sp) rfl ?_
       refine WPL.d (d_alloc ze36 rfl) rfl ?_
       refine WPL.s (s_store sz36 rfl rfl rfl rfl rfl) ?_
       refine WPL.nilW ?_
       refine W.now ?_
       refine Then.n ?_
       refine WP.seq ?_
       refine WP.seq ?_
       refine WP.region ?_
       refine WPL.q (q_fieldAddr fi36_1 rfl rfl) rfl ?_
       refine WPL.q (q_load sc3 rfl rfl rfl) rfl ?_
       refine WPL.q (q_eql rfl rfl) rfl ?_
       refine WPL.nilW ?_
       refine W.now ?_
       refine Then.n ?_
       refine WP.cond (t := (decide (x5078.fLen = 0))) rfl (fun hb5089 => ?_) (fun hb5089 => ?_)
       · replace H := cnt hb5089 H
         refine WP.seq ?_
         refine WP.regionD' 21 [0, 3] [] mixed rfl ?_
         refine WPD.takeT 0 rfl (by kernel_rfl) (q_mv (v := .ptr _ _) rfl) rfl ?_
         refine WPD.takeT 1 rfl (by kernel_rfl) (q_nilCheck rfl) rfl ?_
         refine WPD.takeT 2 rfl (by kernel_rfl) (q_fieldAddr fi106_0 rfl rfl) rfl ?_
         refine WPD.takeT 4 rfl (by kernel_rfl) (q_mv (v := .ptr _ _) rfl) rfl ?_
         refine WPD.takeT 5 rfl (by kernel_rfl) (q_nilCheck rfl) rfl ?_
         refine WPD.takeT 6 rfl (by kernel_rfl) (q_fieldAddr fi106_3 rfl rfl) rfl ?_
         refine WPD.takeT 8 rfl (by kernel_rfl) (q_fieldAddr fi36_0 rfl rfl) rfl ?_
         refine WPD.takeT 12 rfl (by kernel_rfl) (q_mv (v := .ptr _ _) rfl) rfl ?_
         refine WPD.takeT 13 rfl (by kernel_rfl) (q_nilCheck rfl) rfl ?_
         refine WPD.takeT 14 rfl (by kernel_rfl) (q_fieldAddr fi106_1 rfl rfl) rfl ?_
         refine WPD.takeT 16 rfl (by kernel_rfl) (q_fieldAddr fi36_0 rfl rfl) rfl ?_
         refine WPD.take 3 rfl (by kernel_rfl) (q_load sc59 rfl rfl rfl) rfl rfl ?_
         refine WPD.take 7 rfl (by kernel_rfl) (q_load sc80 rfl rfl rfl) rfl rfl ?_
         refine WPD.take 9 rfl (by kernel_rfl) (q_load sc3 rfl rfl rfl) rfl rfl ?_
         obtain ⟨x5096, h5096, H⟩ := bnd H
         refine WPD.takeT 10 rfl (by kernel_rfl) (q_index_ro sl80 rfl rfl rfl h5096) rfl ?_
         refine WPD.takeT 11 rfl (by kernel_rfl) (q_load_sc sc50 rfl) rfl ?_
         refine WPD.take 15 rfl (by kernel_rfl) (q_load sc66 rfl rfl rfl) rfl rfl ?_
         refine WPD.take 17 rfl (by kernel_rfl) (q_load sc3 rfl rfl rfl) rfl rfl ?_
         obtain ⟨x5097, h5097, H⟩ := bnd H
         refine WPD.takeT 18 rfl (by kernel_rfl) (q_index_ro sl66 rfl rfl rfl h5097) rfl ?_
         refine WPD.takeT 19 rfl (by kernel_rfl) (q_load_sc sc3 rfl) rfl ?_
         obtain ⟨⟨x5099, x5100⟩, h5097, H⟩ := bnd H
         refine WPD.eff 20 [0, 3] [] rfl (by kernel_rfl) (runs_call (s := [1, 2]) (t := [1, 4]) (N := 5) (bor := []) fn40 rfl (s_deflate_put k x5096 x5097 x4886 x4887 x5099 x5100 h5097) ⟨rfl, ⟨⟨trivial, .inr ⟨rfl, rfl, rfl⟩⟩, .inr ⟨rfl, rfl, rfl⟩⟩, by decide, rfl, trivial⟩ rfl trivial (.ren rfl rfl (.ren rfl rfl (.ren rfl rfl .nil))) rfl ⟨⟨trivial, rfl⟩, rfl⟩ rfl) rfl rfl ?_
         refine WPD.doneW (by kernel_rfl) ?_
         refine W.now ?_
         refine Then.n ?_
         refine WP.exitW ?_
         have q0 := (Prod.mk.inj (Option.some.inj H)).1
         have q1 := (Prod.mk.inj (Option.some.inj H)).2
         subst q0
         subst q1
         exact W.wk [0, 1, 4] hnp (Then.x (InBlock.x0 ⟨rfl, rfl, rfl⟩)) ⟨rfl, ⟨⟨⟨trivial, .inr ⟨rfl, rfl, rfl⟩⟩, .inr ⟨rfl, rfl, rfl⟩⟩, .inr ⟨rfl, rfl, rfl⟩⟩, by decide, rfl, ⟨⟨trivial, rfl⟩, rfl⟩⟩ (LeE.upd rfl rfl (LeE.upd rfl rfl (LeE.upd rfl rfl (LeE.upd rfl rfl (LeE.none rfl rfl))))) rfl
       replace H := cnf hb5089 H
       refine WP.skipW ?_
       refine W.now ?_
       refine Then.n ?_
       refine WP.seq ?_
       refine WP.region ?_
       refine WPL.q (q_fieldAddr fi36_1 rfl rfl) rfl ?_
       refine WPL.q (q_load sc3 rfl rfl rfl) rfl ?_
       obtain ⟨⟨x5102, x5103, x5104⟩, h5100, H⟩ := bnd H
       refine WPL.c (runs_call (s := []) (t := []) (N := 4) (bor := []) fn32 rfl (s_deflate_lit k x5078.fLen x5102 x5103 x5104 h5100) ⟨rfl, trivial, by decide, rfl, trivial⟩ rfl trivial (.ren rfl rfl .nil) rfl trivial rfl) rfl ?_
       refine WPL.q (q_mv (v := .tup _) rfl) rfl ?_
       refine WPL.q (q_extract rfl rfl) rfl ?_
       refine WPL.q (q_extract rfl rfl) rfl ?_
       refine WPL.q (q_extract rfl rfl) rfl ?_
       refine WPL.q (q_as (v := .lit (.int _ _)) rfl) rfl ?_
       refine WPL.q (q_as (v := .lit (.int _ _)) rfl) rfl ?_
       refine WPL.q (q_as (v := .lit (.int _ _)) rfl) rfl ?_
       refine WPL.nilW ?_
       refine W.now ?_
       refine Then.n ?_
       refine WP.seq ?_
       refine WP.regionD' 19 [0] [] mixed rfl ?_
       refine WPD.takeT 0 rfl (by kernel_rfl) (q_mv (v := .ptr _ _) rfl) rfl ?_
       refine WPD.takeT 1 rfl (by kernel_rfl) (q_nilCheck rfl) rfl ?_
       refine WPD.takeT 2 rfl (by kernel_rfl) (q_fieldAddr fi106_0 rfl rfl) rfl ?_
       refine WPD.takeT 4 rfl (by kernel_rfl) (q_mv (v := .ptr _ _) rfl) rfl ?_
       refine WPD.takeT 5 rfl (by kernel_rfl) (q_nilCheck rfl) rfl ?_
       refine WPD.takeT 6 rfl (by kernel_rfl) (q_fieldAddr fi106_3 rfl rfl) rfl ?_
       refine WPD.takeT 8 rfl (by kernel_rfl) (q_mv (v := .lit (.int _ _)) rfl) rfl ?_
       refine WPD.takeT 11 rfl (by kernel_rfl) (q_mv (v := .ptr _ _) rfl) rfl ?_
       refine WPD.takeT 12 rfl (by kernel_rfl) (q_nilCheck rfl) rfl ?_
       refine WPD.takeT 13 rfl (by kernel_rfl) (q_fieldAddr fi106_1 rfl rfl) rfl ?_
       refine WPD.takeT 15 rfl (by kernel_rfl) (q_mv (v := .lit (.int _ _)) rfl) rfl ?_
       refine WPD.take 3 rfl (by kernel_rfl) (q_load sc59 rfl rfl rfl) rfl rfl ?_
       refine WPD.take 7 rfl (by kernel_rfl) (q_load sc80 rfl rfl rfl) rfl rfl ?_
       obtain ⟨x5110, h5110, H⟩ := bnd H
       refine WPD.takeT 9 rfl (by kernel_rfl) (q_index_ro sl80 rfl rfl rfl h5110) rfl ?_
       refine WPD.takeT 10 rfl (by kernel_rfl) (q_load_sc sc50 rfl) rfl ?_
       refine WPD.take 14 rfl (by kernel_rfl) (q_load sc66 rfl rfl rfl) rfl rfl ?_
       obtain ⟨x5111, h5111, H⟩ := bnd H
       refine WPD.takeT 16 rfl (by kernel_rfl) (q_index_ro sl66 rfl rfl rfl h5111) rfl ?_
       refine WPD.takeT 17 rfl (by kernel_rfl) (q_load_sc sc3 rfl) rfl ?_
       obtain ⟨⟨x5113, x5114⟩, h5111, H⟩ := bnd H
       refine WPD.eff 18 [0] [] rfl (by kernel_rfl) (runs_call (s := [1, 2]) (t := [1, 4]) (N := 5) (bor := []) fn40 rfl (s_deflate_put k x5110 x5111 x4886 x4887 x5113 x5114 h5111) ⟨rfl, ⟨⟨trivial, .inr ⟨rfl, rfl, rfl⟩⟩, .inr ⟨rfl, rfl, rfl⟩⟩, by decide, rfl, trivial⟩ rfl trivial (.ren rfl rfl (.ren rfl rfl (.ren rfl rfl .nil))) rfl ⟨⟨trivial, rfl⟩, rfl⟩ rfl) rfl rfl ?_
       refine WPD.doneW (by kernel_rfl) ?_
       refine W.now ?_
       refine Then.n ?_
       refine WP.seq ?_
       refine WP.region ?_
       refine WPL.q (q_mv (v := .ptr _ _) rfl) rfl ?_
       refine WPL.q (q_nilCheck rfl) rfl ?_
       refine WPL.q (q_fieldAddr fi106_0 rfl rfl) rfl ?_
       refine WPL.q (q_load sc59 rfl rfl rfl) rfl ?_
       refine WPL.q (q_mv (v := .lit (.int _ _)) rfl) rfl ?_
       refine WPL.q (q_conv Try.underlying3 Try.underlying50 rfl) rfl ?_
       refine WPL.q (q_mv (v := .lit (.int _ _)) rfl) rfl ?_
       obtain ⟨⟨x5116, x5117, x5118⟩, h5114, H⟩ := bnd H
       refine WPL.c (runs_call (s := [1, 4]) (t := [1, 5]) (N := 6) (bor := []) fn24 rfl (s_bits_Writer_Put__b k (IntKind.wrap .u32 x5103) x5104 x5113 x5114 x5116 x5117 x5118 h5114) ⟨rfl, ⟨⟨trivial, .inr ⟨rfl, rfl, rfl⟩⟩, .inr ⟨rfl, rfl, rfl⟩⟩, by decide, rfl, trivial⟩ rfl trivial (.ren rfl rfl (.ren rfl rfl (.ren rfl rfl .nil))) rfl ⟨⟨trivial, rfl⟩, rfl⟩ rfl) rfl ?_
       refine WPL.nilW ?_
       refine W.now ?_
       refine Then.n ?_
       refine WP.seq ?_
       refine WP.region ?_
       refine WPL.q (q_fieldAddr fi36_2 rfl rfl) rfl ?_
       refine WPL.q (q_load sc3 rfl rfl rfl) rfl ?_
       obtain ⟨⟨x5120, x5121, x5122⟩, h5118, H⟩ := bnd H
       refine WPL.c (runs_call (s := []) (t := []) (N := 6) (bor := []) fn33 rfl (s_deflate_dist k x5078.fDist x5120 x5121 x5122 h5118) ⟨rfl, trivial, by decide, rfl, trivial⟩ rfl trivial (.ren rfl rfl .nil) rfl trivial rfl) rfl ?_
       refine WPL.q (q_mv (v := .tup _) rfl) rfl ?_
       refine WPL.q (q_extract rfl rfl) rfl ?_
       refine WPL.q (q_extract rfl rfl) rfl ?_
       refine WPL.q (q_extract rfl rfl) rfl ?_
       refine WPL.q (q_as (v := .lit (.int _ _)) rfl) rfl ?_
       refine WPL.q (q_as (v := .lit (.int _ _)) rfl) rfl ?_
       refine WPL.q (q_as (v := .lit (.int _ _)) rfl) rfl ?_
       refine WPL.nilW ?_
       refine W.now ?_
       refine Then.n ?_
       refine WP.seq ?_
       refine WP.regionD' 19 [0] [] mixed rfl ?_
       refine WPD.takeT 0 rfl (by kernel_rfl) (q_mv (v := .ptr _ _) rfl) rfl ?_
       refine WPD.takeT 1 rfl (by kernel_rfl) (q_nilCheck rfl) rfl ?_
       refine WPD.takeT 2 rfl (by kernel_rfl) (q_fieldAddr fi106_0 rfl rfl) rfl ?_
       refine WPD.takeT 4 rfl (by kernel_rfl) (q_mv (v := .ptr _ _) rfl) rfl ?_
       refine WPD.takeT 5 rfl (by kernel_rfl) (q_nilCheck rfl) rfl ?_
       refine WPD.takeT 6 rfl (by kernel_rfl) (q_fieldAddr fi106_4 rfl rfl) rfl ?_
       refine WPD.takeT 8 rfl (by kernel_rfl) (q_mv (v := .lit (.int _ _)) rfl) rfl ?_
       refine WPD.takeT 11 rfl (by kernel_rfl) (q_mv (v := .ptr _ _) rfl) rfl ?_
       refine WPD.takeT 12 rfl (by kernel_rfl) (q_nilCheck rfl) rfl ?_
       refine WPD.takeT 13 rfl (by kernel_rfl) (q_fieldAddr fi106_2 rfl rfl) rfl ?_
       refine WPD.takeT 15 rfl (by kernel_rfl) (q_mv (v := .lit (.int _ _)) rfl) rfl ?_
       refine WPD.take 3 rfl (by kernel_rfl) (q_load sc59 rfl rfl rfl) rfl rfl ?_
       refine WPD.take 7 rfl (by kernel_rfl) (q_load sc80 rfl rfl rfl) rfl rfl ?_
       obtain ⟨x5128, h5128, H⟩ := bnd H
       refine WPD.takeT 9 rfl (by kernel_rfl) (q_index_ro sl80 rfl rfl rfl h5128) rfl ?_
       refine WPD.takeT 10 rfl (by kernel_rfl) (q_load_sc sc50 rfl) rfl ?_
       refine WPD.take 14 rfl (by kernel_rfl) (q_load sc66 rfl rfl rfl) rfl rfl ?_
       obtain ⟨x5129, h5129, H⟩ := bnd H
       refine WPD.takeT 16 rfl (by kernel_rfl) (q_index_ro sl66 rfl rfl rfl h5129) rfl ?_
       refine WPD.takeT 17 rfl (by kernel_rfl) (q_load_sc sc3 rfl) rfl ?_
       obtain ⟨⟨x5131, x5132⟩, h5129, H⟩ := bnd H
       refine WPD.eff 18 [0] [] rfl (by kernel_rfl) (runs_call (s := [1, 5]) (t := [1, 6]) (N := 7) (bor := []) fn40 rfl (s_deflate_put k x5128 x5129 x5117 x5118 x5131 x5132 h5129) ⟨rfl, ⟨⟨trivial, .inr ⟨rfl, rfl, rfl⟩⟩, .inr ⟨rfl, rfl, rfl⟩⟩, by decide, rfl, trivial⟩ rfl trivial (.ren rfl rfl (.ren rfl rfl (.ren rfl rfl .nil))) rfl ⟨⟨trivial, rfl⟩, rfl⟩ rfl) rfl rfl ?_
       refine WPD.doneW (by kernel_rfl) ?_
       refine W.now ?_
       refine Then.n ?_
       refine WP.region ?_
       refine WPL.q (q_mv (v := .ptr _ _) rfl) rfl ?_
       refine WPL.q (q_nilCheck rfl) rfl ?_
       refine WPL.q (q_fieldAddr fi106_0 rfl rfl) rfl ?_
       refine WPL.q (q_load sc59 rfl rfl rfl) rfl ?_
       refine WPL.q (q_mv (v := .lit (.int _ _)) rfl) rfl ?_
       refine WPL.q (q_conv Try.underlying3 Try.underlying50 rfl) rfl ?_
       refine WPL.q (q_mv (v := .lit (.int _ _)) rfl) rfl ?_
       obtain ⟨⟨x5134, x5135, x5136⟩, h5132, H⟩ := bnd H
       refine WPL.c (runs_call (s := [1, 6]) (t := [1, 7]) (N := 8) (bor := []) fn24 rfl (s_bits_Writer_Put__b k (IntKind.wrap .u32 x5121) x5122 x5131 x5132 x5134 x5135 x5136 h5132) ⟨rfl, ⟨⟨trivial, .inr ⟨rfl, rfl, rfl⟩⟩, .inr ⟨rfl, rfl, rfl⟩⟩, by decide, rfl, trivial⟩ rfl trivial (.ren rfl rfl (.ren rfl rfl (.ren rfl rfl .nil))) rfl ⟨⟨trivial, rfl⟩, rfl⟩ rfl) rfl ?_
       refine WPL.nilW ?_
       have q0 := (Prod.mk.inj (Option.some.inj H)).1
       have q1 := (Prod.mk.inj (Option.some.inj H)).2
       subst q0
       subst q1
       exact W.wk [0, 1, 7] hnp (InBlock.n ⟨rfl, rfl, rfl⟩) ⟨rfl, ⟨⟨⟨trivial, .inr ⟨rfl, rfl, rfl⟩⟩, .inr ⟨rfl, rfl, rfl⟩⟩, .inr ⟨rfl, rfl, rfl⟩⟩, by decide, rfl, ⟨⟨trivial, rfl⟩, rfl⟩⟩ (LeE.upd rfl rfl (LeE.upd rfl rfl (LeE.upd rfl rfl (LeE.upd rfl rfl (LeE.none rfl rfl))))) rfl
     rintro _ _ _ ⟨rfl, rfl, rfl⟩
     refine W.now ?_
     refine Then.n ?_
     refine WP.region ?_
     refine WPL.q (q_add rfl rfl) rfl ?_
     refine WPL.q (q_mv (v := .lit (.int _ _)) rfl) rfl ?_
     refine WPL.nilW ?_
     exact W.wk [0, 1, 2] hnp (Then.n ⟨n, ((IntKind.wrap .i64 (x4885 + 1)), x5076, x5077), Nat.lt_succ_self n, H, rfl, rfl⟩) ⟨rfl, ⟨⟨⟨trivial, .inr ⟨rfl, rfl, rfl⟩⟩, .inr ⟨rfl, rfl, rfl⟩⟩, .inr ⟨rfl, rfl, rfl⟩⟩, by decide, rfl, ⟨⟨trivial, rfl⟩, rfl⟩⟩ (LeE.upd rfl rfl (LeE.upd rfl rfl (LeE.upd rfl rfl (LeE.upd rfl rfl (LeE.none rfl rfl))))) rfl
   replace H := cnf hb5015 H
   refine WP.exitW ?_
   have q0 := (Prod.mk.inj (Option.some.inj H)).1
   have q1 := (Prod.mk.inj (Option.some.inj H)).2
   subst q0
   subst q1
   exact W.wk [0, 1, 2] hnp (Then.x (Then.x ⟨rfl, rfl, rfl⟩)) ⟨rfl, ⟨⟨⟨trivial, .inr ⟨rfl, rfl, rfl⟩⟩, .inr ⟨rfl, rfl, rfl⟩⟩, .inr ⟨rfl, rfl, rfl⟩⟩, by decide, rfl, ⟨⟨trivial, rfl⟩, rfl⟩⟩ (LeE.upd rfl rfl (LeE.none rfl rfl)) rfl
 rintro _ _ _ ⟨rfl, rfl, rfl⟩
 refine W.now ?_
 refine InBlock.x0 ?_
 refine Then.n ?_
 refine WP.regionD' 17 [0] [] mixed rfl ?_
 refine WPD.takeT 0 rfl (by kernel_rfl) (q_mv (v := .ptr _ _) rfl) rfl ?_
 refine WPD.takeT 1 rfl (by kernel_rfl) (q_nilCheck rfl) rfl ?_
 refine WPD.takeT 2 rfl (by kernel_rfl) (q_fieldAddr fi106_0 rfl rfl) rfl ?_
 refine WPD.takeT 4 rfl (by kernel_rfl) (q_mv (v := .ptr _ _) rfl) rfl ?_
 refine WPD.takeT 5 rfl (by kernel_rfl) (q_nilCheck rfl) rfl ?_
 refine WPD.takeT 6 rfl (by kernel_rfl) (q_fieldAddr fi106_3 rfl rfl) rfl ?_
 refine WPD.takeT 10 rfl (by kernel_rfl) (q_mv (v := .ptr _ _) rfl) rfl ?_
 refine WPD.takeT 11 rfl (by kernel_rfl) (q_nilCheck rfl) rfl ?_
 refine WPD.takeT 12 rfl (by kernel_rfl) (q_fieldAddr fi106_1 rfl rfl) rfl ?_
 refine WPD.take 3 rfl (by kernel_rfl) (q_load sc59 rfl rfl rfl) rfl rfl ?_
 refine WPD.take 7 rfl (by kernel_rfl) (q_load sc80 rfl rfl rfl) rfl rfl ?_
 obtain ⟨x5144, h5144, H⟩ := bnd H
 refine WPD.takeT 8 rfl (by kernel_rfl) (q_index_ro sl80 rfl rfl rfl h5144) rfl ?_
 refine WPD.takeT 9 rfl (by kernel_rfl) (q_load_sc sc50 rfl) rfl ?_
 refine WPD.take 13 rfl (by kernel_rfl) (q_load sc66 rfl rfl rfl) rfl rfl ?_
 obtain ⟨x5145, h5145, H⟩ := bnd H
 refine WPD.takeT 14 rfl (by kernel_rfl) (q_index_ro sl66 rfl rfl rfl h5145) rfl ?_
 refine WPD.takeT 15 rfl (by kernel_rfl) (q_load_sc sc3 rfl) rfl ?_
 obtain ⟨⟨x5147, x5148⟩, h5145, H⟩ := bnd H
 refine WPD.eff 16 [0] [] rfl (by kernel_rfl) (runs_call (s := [1, 2]) (t := [1, 3]) (N := 4) (bor := []) fn40 rfl (s_deflate_put k x5144 x5145 x5012 x5013 x5147 x5148 h5145) ⟨rfl, ⟨⟨trivial, .inr ⟨rfl, rfl, rfl⟩⟩, .inr ⟨rfl, rfl, rfl⟩⟩, by decide, rfl, trivial⟩ rfl trivial (.ren rfl rfl (.ren rfl rfl (.ren rfl rfl .nil))) rfl ⟨⟨trivial, rfl⟩, rfl⟩ rfl) rfl rfl ?_
 refine WPD.doneW (by kernel_rfl) ?_
 have q0 := (Prod.mk.inj (Option.some.inj H)).1
 have q1 := (Prod.mk.inj (Option.some.inj H)).2
 subst q0
 subst q1
 exact W.now (BodyR.mkN trivial rfl [0, 1, 3] ⟨rfl, rfl⟩ ⟨rfl, ⟨⟨⟨trivial, .inr ⟨rfl, rfl, rfl⟩⟩, .inr ⟨rfl, rfl, rfl⟩⟩, .inr ⟨rfl, rfl, rfl⟩⟩, by decide, rfl, ⟨⟨trivial, rfl⟩, rfl⟩⟩ rfl rfl)
end Go.Proofs.Ytmmeanjjfhimjaa.W
