/- Texts joined: part 5 of what LStoreRoom stands on. -/
import Derived.Test.YtcaeafojgehamaaSStoreRoomd
namespace Go.Proofs.Ytcaeafojgehamaa.W
open Go Go.Q Go.Proofs
set_option linter.unusedVariables false
set_option linter.unusedSimpArgs false
set_option maxRecDepth 100000 in
set_option maxHeartbeats 4000000 in
theorem s_quirelaw01_Same (k : Nat) (x5454 : (List Int)) (x5455 : (List Int)) (x5458 : Bool) (H : g_quirelaw01_Same k x5454 x5455 = some x5458) : Go.Q.Spec Try.prog 8 0 [.ro (Rd.slice (Rd.int .u8)) false x5454, .ro (Rd.slice (Rd.int .u8)) false x5455] Mem.nil (fun o M => o = .ret (.lit (.bool x5458)) ∧ M = Mem.nil) := by
 unfold g_quirelaw01_Same at H
 refine Go.Q.Spec.of_bodyR (az := []) (rs := [.tmp 4]) (nt := 10) Try.func8 rfl rfl (by intro t T h; simp at h) rfl rfl fun cx hnp => ?_
 refine WP.seq ?_
 refine WP.region ?_
 refine WPL.q (q_as (v := .lit (.bool _)) rfl) rfl ?_
 refine WPL.nilW ?_
 refine W.now ?_
 refine Then.n ?_
 refine WP.seq ?_
 refine WP.region ?_
 refine WPL.q (q_mv (v := .ro _ _ _) rfl) rfl ?_
 refine WPL.q (q_bytes_str Try.underlying22 Try.underlying5 Try.underlying9 rfl) rfl ?_
 refine WPL.q (q_mv (v := .ro _ _ _) rfl) rfl ?_
 refine WPL.q (q_bytes_str Try.underlying22 Try.underlying5 Try.underlying9 rfl) rfl ?_
 obtain ⟨x5459, h5459, H⟩ := bnd H
 refine WPL.q (q_nm (q_eqls rfl rfl) (nm_bool h5459)) rfl ?_
 refine WPL.q (q_as (v := .lit (.bool _)) rfl) rfl ?_
 refine WPL.nilW ?_
 refine W.now ?_
 refine Then.n ?_
 refine WP.retW ?_
 have q0 := (Option.some.inj H)
 subst q0
 exact W.now (BodyR.mkR trivial rfl [] ⟨rfl, rfl⟩ ⟨rfl, trivial, by decide, rfl, trivial, rfl⟩ rfl rfl)
set_option maxRecDepth 100000 in
set_option maxHeartbeats 4000000 in
theorem s_quirelaw22_StoreRoom (k : Nat) (x4 : (List Int)) (x5 : (List Int)) (x6 : Int) (x7 : (List S_simfs_file)) (x5580 : Bool) (x5581 : (List S_simfs_file)) (H : g_quirelaw22_StoreRoom k x4 x5 x6 x7 = some (x5580, x5581)) : Go.Q.Spec Try.prog 3 0 [.ro (Rd.slice (Rd.int .u8)) false x4, .ro (Rd.slice (Rd.int .u8)) false x5, .lit (.int .i64 x6)] (Mem.nil.withP 54 rdS_simfs_file x7) (fun o M => o = .ret (.lit (.bool x5580)) ∧ M = (Mem.nil.withP 54 rdS_simfs_file x5581)) := by
 unfold g_quirelaw22_StoreRoom at H
 refine Go.Q.Spec.of_bodyR (az := []) (rs := [.tmp 6]) (nt := 103) Try.func3 rfl rfl (by intro t T h; simp at h) rfl rfl fun cx hnp => ?_
 refine WP.seq ?_
 refine WP.region ?_
 refine WPL.q (q_as (v := .lit (.bool _)) rfl) rfl ?_
 refine WPL.nilW ?_
 refine W.now ?_
 refine Then.n ?_
 refine WP.seq ?_
 refine WP.seq ?_
 obtain ⟨x5606, H5612, H⟩ := bnd H
 refine WP.monoW (Q := fun x E M => x = .normal ∧ E = ((((Env.none.upd 0 (.ro (Rd.slice (Rd.int .u8)) false x4)).upd 1 (.ro (Rd.slice (Rd.int .u8)) false x5)).upd 2 (.lit (.int .i64 x6))).upd 29 (.lit (.bool x5606))) ∧ M = (Mem.nil.withP 54 rdS_simfs_file x7)) ?_ ?_
 · clear H
   have H := H5612
   clear H5612
   refine WP.region ?_
   refine WPL.q (q_mv (v := .ro _ _ _) rfl) rfl ?_
   refine WPL.q (q_len_ro sl22 rfl) rfl ?_
   obtain ⟨x5607, h5607, H⟩ := bnd H
   refine WPL.q (q_nm (q_gtr rfl rfl) (nm_bool h5607)) rfl ?_
   refine WPL.q (q_mv (v := .lit (.bool _)) rfl) rfl ?_
   refine WPL.split (t := 15) (b := x5607) rfl (fun hb5607 => ?_) (fun hb5607 => ?_)
   · replace H := cnt hb5607 H
     refine WPL.skipg (b' := true) rfl rfl (lb hb5607) rfl rfl (.inl trivial) ?_
     refine WPL.skipg (b' := true) rfl rfl (lb hb5607) rfl rfl (.inl trivial) ?_
     refine WPL.skipg (b' := true) rfl rfl (lb hb5607) rfl rfl (.inl trivial) ?_
     refine WPL.q (q_pickT (v := .lit (.bool _)) (lb hb5607) rfl) rfl ?_
     refine WPL.q (q_mv (v := .lit (.bool _)) rfl) rfl ?_
     refine WPL.skipg (b' := true) rfl rfl rfl rfl rfl (.inl trivial) ?_
     refine WPL.skipg (b' := true) rfl rfl rfl rfl rfl (.inl trivial) ?_
     refine WPL.q (q_pickT (v := .lit (.bool _)) rfl rfl) rfl ?_
     refine WPL.q (q_mv (v := .lit (.bool _)) rfl) rfl ?_
     refine WPL.skipg (b' := true) rfl rfl rfl rfl rfl (.inl trivial) ?_
     refine WPL.skipg (b' := true) rfl rfl rfl rfl rfl (.inl trivial) ?_
     refine WPL.skipg (b' := true) rfl rfl rfl rfl rfl (.inl trivial) ?_
     refine WPL.skipg (b' := true) rfl rfl rfl rfl rfl (.inl trivial) ?_
     refine WPL.q (q_pickT (v := .lit (.bool _)) rfl rfl) rfl ?_
     refine WPL.nilW ?_
     have q0 := (Option.some.inj H)
     subst q0
     exact W.wk [] hnp ⟨rfl, rfl, rfl⟩ ⟨rfl, trivial, by decide, rfl, trivial, rfl⟩ (LeE.upd rfl rfl (LeE.upd rfl rfl (LeE.upd rfl rfl (LeE.upd rfl rfl (LeE.none rfl rfl))))) rfl
   replace H := cnf hb5607 H
   refine WPL.qg rfl rfl (lb hb5607) (q_mv (v := .ro _ _ _) rfl) rfl ?_
   refine WPL.qg rfl rfl (lb hb5607) (q_len_ro sl22 rfl) rfl ?_
   obtain ⟨x5609, h5609, H⟩ := bnd H
   refine WPL.qg rfl rfl (lb hb5607) (q_nm (q_gtr rfl rfl) (nm_bool h5609)) rfl ?_
   refine WPL.q (q_pickF (v := .lit (.bool _)) (lb hb5607) rfl) rfl ?_
   refine WPL.q (q_mv (v := .lit (.bool _)) rfl) rfl ?_
   refine WPL.split (t := 20) (b := x5609) rfl (fun hb5609 => ?_) (fun hb5609 => ?_)
   · replace H := cnt hb5609 H
     refine WPL.skipg (b' := true) rfl rfl (lb hb5609) rfl rfl (.inl trivial) ?_
     refine WPL.skipg (b' := true) rfl rfl (lb hb5609) rfl rfl (.inl trivial) ?_
     refine WPL.q (q_pickT (v := .lit (.bool _)) (lb hb5609) rfl) rfl ?_
     refine WPL.q (q_mv (v := .lit (.bool _)) rfl) rfl ?_
     refine WPL.skipg (b' := true) rfl rfl rfl rfl rfl (.inl trivial) ?_
     refine WPL.skipg (b' := true) rfl rfl rfl rfl rfl (.inl trivial) ?_
     refine WPL.skipg (b' := true) rfl rfl rfl rfl rfl (.inl trivial) ?_
     refine WPL.skipg (b' := true) rfl rfl rfl rfl rfl (.inl trivial) ?_
     refine WPL.q (q_pickT (v := .lit (.bool _)) rfl rfl) rfl ?_
     refine WPL.nilW ?_
     have q0 := (Option.some.inj H)
     subst q0
     exact W.wk [] hnp ⟨rfl, rfl, rfl⟩ ⟨rfl, trivial, by decide, rfl, trivial, rfl⟩ (LeE.upd rfl rfl (LeE.upd rfl rfl (LeE.upd rfl rfl (LeE.upd rfl rfl (LeE.none rfl rfl))))) rfl
   replace H := cnf hb5609 H
   refine WPL.qg rfl rfl (lb hb5609) (q_mv (v := .lit (.int _ _)) rfl) rfl ?_
   refine WPL.qg rfl rfl (lb hb5609) (q_lss rfl rfl) rfl ?_
   refine WPL.q (q_pickF (v := .lit (.bool _)) (lb hb5609) rfl) rfl ?_
   refine WPL.q (q_mv (v := .lit (.bool _)) rfl) rfl ?_
   refine WPL.split (t := 24) (b := (decide (x6 < 0))) rfl (fun hb5610 => ?_) (fun hb5610 => ?_)
   · replace H := cnt hb5610 H
     refine WPL.skipg (b' := true) rfl rfl (lb hb5610) rfl rfl (.inl trivial) ?_
     refine WPL.skipg (b' := true) rfl rfl (lb hb5610) rfl rfl (.inl trivial) ?_
     refine WPL.skipg (b' := true) rfl rfl (lb hb5610) rfl rfl (.inl trivial) ?_
     refine WPL.skipg (b' := true) rfl rfl (lb hb5610) rfl rfl (.inl trivial) ?_
     refine WPL.q (q_pickT (v := .lit (.bool _)) (lb hb5610) rfl) rfl ?_
     refine WPL.nilW ?_
     have q0 := (Option.some.inj H)
     subst q0
     exact W.wk [] hnp ⟨rfl, rfl, rfl⟩ ⟨rfl, trivial, by decide, rfl, trivial, rfl⟩ (LeE.upd rfl rfl (LeE.upd rfl rfl (LeE.upd rfl rfl (LeE.upd rfl rfl (LeE.none rfl rfl))))) rfl
   replace H := cnf hb5610 H
   refine WPL.qg rfl rfl (lb hb5610) (q_mv (v := .lit (.int _ _)) rfl) rfl ?_
   refine WPL.qg rfl rfl (lb hb5610) (q_mv (v := .ro _ _ _) rfl) rfl ?_
   refine WPL.qg rfl rfl (lb hb5610) (q_len_ro sl22 rfl) rfl ?_
   obtain ⟨x5612, h5612, H⟩ := bnd H
   refine WPL.qg rfl rfl (lb hb5610) (q_nm (q_gtr rfl rfl) (nm_bool h5612)) rfl ?_
   refine WPL.q (q_pickF (v := .lit (.bool _)) (lb hb5610) rfl) rfl ?_
   refine WPL.nilW ?_
   have q0 := (Option.some.inj H)
   subst q0
   exact W.wk [] hnp ⟨rfl, rfl, rfl⟩ ⟨rfl, trivial, by decide, rfl, trivial, rfl⟩ (LeE.upd rfl rfl (LeE.upd rfl rfl (LeE.upd rfl rfl (LeE.upd rfl rfl (LeE.none rfl rfl))))) rfl
 rintro _ _ _ ⟨rfl, rfl, rfl⟩
 refine W.now ?_
 refine Then.n ?_
 refine WP.cond (t := x5606) rfl (fun hb5613 => ?_) (fun hb5613 => ?_)
 · replace H := cnt hb5613 H
   refine WP.seq ?_
   refine WP.region ?_
   obtain ⟨⟨x5616, x5617⟩, h5614, H⟩ := bnd H
   refine WPL.c (runs_call (s := []) (t := []) (N := 0) (bor := []) fn4 rfl (s_quirelaw22_alive k x7 x5616 x5617 h5614) ⟨rfl, trivial, by decide, rfl, trivial, rfl⟩ rfl trivial .nil rfl trivial rfl) rfl ?_
   refine WPL.q (q_as (v := .lit (.bool _)) rfl) rfl ?_
   refine WPL.nilW ?_
   refine W.now ?_
   refine Then.n ?_
   refine WP.retW ?_
   have q0 := (Prod.mk.inj (Option.some.inj H)).1
   have q1 := (Prod.mk.inj (Option.some.inj H)).2
   subst q0
   subst q1
   exact W.now (Then.r (BodyR.mkR trivial rfl [] ⟨rfl, rfl⟩ ⟨rfl, trivial, by decide, rfl, trivial, rfl⟩ rfl rfl))
 replace H := cnf hb5613 H
 refine WP.skipW ?_
 refine W.now ?_
 refine Then.n ?_
 refine WP.seq ?_
 refine WP.region ?_
 refine WPL.q (q_mv (v := .ro _ _ _) rfl) rfl ?_
 refine WPL.q (q_len_ro sl22 rfl) rfl ?_
 refine WPL.q (q_mv (v := .ro _ _ _) rfl) rfl ?_
 refine WPL.q (q_len_ro sl22 rfl) rfl ?_
 obtain ⟨x5618, h5618, H⟩ := bnd H
 refine WPL.q (q_nm (q_add rfl rfl) (nm_int h5618)) rfl ?_
 refine WPL.q (q_mv (v := .lit (.int _ _)) rfl) rfl ?_
 refine WPL.q (q_sub rfl rfl) rfl ?_
 obtain ⟨y5620, h5618, H⟩ := bnd H
 rcases y5620 with _ | _
 · refine WPL.c (runs_call (s := []) (t := []) (N := 0) (bor := []) fn5 rfl (s_simfs_New k (IntKind.wrap .i64 (x5618 - x6)) (Sum.inl ()) h5618) ⟨rfl, trivial, by decide, rfl, trivial, rfl⟩ rfl trivial (.ren rfl rfl .nil) rfl trivial rfl) rfl ?_
   refine WPL.q (q_mv (v := .tup _) rfl) rfl ?_
   refine WPL.q (q_extract rfl rfl) rfl ?_
   refine WPL.q (q_extract rfl rfl) rfl ?_
   refine WPL.q (q_as (v := .lit _) rfl) rfl ?_
   refine WPL.q (q_as (v := .lit (.int _ _)) rfl) rfl ?_
   refine WPL.nilW ?_
   refine W.now ?_
   refine Then.n ?_
   refine WP.seq ?_
   refine WP.seq ?_
   refine WP.region ?_
   refine WPL.q (q_mv (v := .lit _) rfl) rfl ?_
   refine WPL.q (q_eqlp_nil Try.underlying24 rfl) rfl ?_
   refine WPL.q (q_mv (v := .lit (.bool _)) rfl) rfl ?_
   refine WPL.skipg (b' := true) rfl rfl rfl rfl rfl (.inl trivial) ?_
   refine WPL.skipg (b' := true) rfl rfl rfl rfl rfl (.inl trivial) ?_
   refine WPL.q (q_pickT (v := .lit (.bool _)) rfl rfl) rfl ?_
   refine WPL.nilW ?_
   refine W.now ?_
   refine Then.n ?_
   refine WP.condT rfl ?_
   refine WP.seq ?_
   refine WP.region ?_
   refine WPL.q (q_as (v := .lit (.bool _)) rfl) rfl ?_
   refine WPL.nilW ?_
   refine W.now ?_
   refine Then.n ?_
   refine WP.retW ?_
   have q0 := (Prod.mk.inj (Option.some.inj H)).1
   have q1 := (Prod.mk.inj (Option.some.inj H)).2
   subst q0
   subst q1
   exact W.now (Then.r (BodyR.mkR trivial rfl [] ⟨rfl, rfl⟩ ⟨rfl, trivial, by decide, rfl, trivial, rfl⟩ rfl rfl))
 refine WPL.c (runs_call (s := []) (t := [0, 1, 2, 3, 4]) (N := 5) (bor := []) fn5 rfl (s_simfs_New k (IntKind.wrap .i64 (x5618 - x6)) (Sum.inr ()) h5618) ⟨rfl, trivial, by decide, rfl, trivial, rfl⟩ rfl trivial (.ren rfl rfl .nil) rfl ⟨⟨⟨⟨⟨trivial, rfl⟩, rfl⟩, rfl⟩, rfl⟩, rfl⟩ rfl) rfl ?_
 refine WPL.q (q_mv (v := .tup _) rfl) rfl ?_
 refine WPL.q (q_extract rfl rfl) rfl ?_
 refine WPL.q (q_extract rfl rfl) rfl ?_
 refine WPL.q (q_as (v := .ptr _ _) rfl) rfl ?_
 refine WPL.q (q_as (v := .lit (.int _ _)) rfl) rfl ?_
 refine WPL.nilW ?_
 refine W.now ?_
 refine Then.n ?_
 refine WP.seq ?_
 refine WP.seq ?_
 refine WP.region ?_
 refine WPL.q (q_mv (v := .ptr _ _) rfl) rfl ?_
 refine WPL.q (q_eqlp Try.underlying24 rfl) rfl ?_
 refine WPL.q (q_mv (v := .lit (.bool _)) rfl) rfl ?_
 refine WPL.qg rfl rfl rfl (q_mv (v := .lit (.int _ _)) rfl) rfl ?_
 refine WPL.qg rfl rfl rfl (q_neq rfl rfl) rfl ?_
 refine WPL.q (q_pickF (v := .lit (.bool _)) rfl rfl) rfl ?_
 refine WPL.nilW ?_
 refine W.now ?_
 refine Then.n ?_
 refine WP.condF rfl ?_
 refine WP.skipW ?_
 refine W.now ?_
 refine Then.n ?_
 refine WP.seq ?_
 obtain ⟨y5727, H5725, H⟩ := bnd H
 refine WP.monoW (Q := fun x E M => match (generalizing := false) y5727 with | (Sum.inl (x5669, x5670)) => x = .ret ∧ E = (Env.none.upd 6 (.lit (.bool x5669))) ∧ M = (Mem.nil.withP 54 rdS_simfs_file x5670) | (Sum.inr (x5671, x5672, x5673, x5674, x5675, x5676, x5677)) => x = .normal ∧ E = ((((Env.none.upd 0 (.ro (Rd.slice (Rd.int .u8)) false x4)).upd 1 (.ro (Rd.slice (Rd.int .u8)) false x5)).upd 2 (.lit (.int .i64 x6))).upd 7 (.ptr 0 0)) ∧ M = ((((((Mem.nil.withP 54 rdS_simfs_file x5677).push (.cells 41 [.lit (.int .i64 (IntKind.wrap .i64 (x5618 - x6))), .whole 1, .mp 2, .mp 3, .whole 4, .ro (Rd.map (Value.int .i64) (Rd.int .i64)) false ([] : List (Int × Int)), .lit (.int .i64 x5671), .lit (.bool x5672)])).push (.row 49 (Rd.pp 0) x5673)).push (.dict Value.string (Rd.pp 0) x5674 none)).push (.dict Value.string (Rd.pp 0) x5675 none)).push (.row 51 rdS_simfs_entry x5676))) ?_ ?_
 · clear H
   have H := H5725
   clear H5725
   refine WP.seq ?_
   refine WP.region ?_
   refine WPL.q (q_mv (v := .ptr _ _) rfl) rfl ?_
   refine WPL.q (q_mv (v := .ro _ _ _) rfl) rfl ?_
   obtain ⟨y5693, h5677, H⟩ := bnd H
   rcases y5693 with ⟨x5679, x5680, x5681, x5682, x5683, x5684, x5685⟩ | ⟨x5686, x5687, x5688, x5689, x5690, x5691, x5692⟩
   · refine WPL.c (runs_call (s := [0, 2, 3, 1, 4]) (t := [0, 2, 3, 5, 6]) (N := 7) (bor := []) fn6 rfl (s_store_Save k (ByteArray.mk #[98]) x4 (IntKind.wrap .i64 (x5618 - x6)) ([] : List (Int × Int)) 0 false ([] : List (ByteArray × (Option Nat))) ([] : List (ByteArray × (Option Nat))) ([] : List (Option Nat)) ([] : List S_simfs_entry) x7 (Sum.inl (x5679, x5680, x5681, x5682, x5683, x5684, x5685)) h5677) ⟨rfl, ⟨⟨⟨⟨⟨trivial, .inr ⟨rfl, rfl, rfl⟩⟩, .inr ⟨rfl, rfl, rfl⟩⟩, .inr ⟨rfl, rfl, rfl⟩⟩, .inr ⟨rfl, rfl, rfl⟩⟩, .inr ⟨rfl, rfl, rfl⟩⟩, by decide, rfl, trivial, rfl⟩ rfl trivial (.ren rfl rfl (.ren rfl rfl (.ren rfl rfl .nil))) rfl ⟨⟨⟨⟨⟨trivial, rfl⟩, rfl⟩, rfl⟩, rfl⟩, rfl⟩ rfl) rfl ?_
     refine WPL.q (q_neq rfl rfl) rfl ?_
     refine WPL.nilW ?_
     refine W.now ?_
     refine Then.n ?_
     refine WP.cond (t := (!decide (x5679 = 0))) rfl (fun hb5693 => ?_) (fun hb5693 => ?_)
     · replace H := cnt hb5693 H
       refine WP.seq ?_
       obtain ⟨⟨x5701, x5702⟩, H5708, H⟩ := bnd H
       refine WP.monoW (Q := fun x E M => x = .normal ∧ E = (Env.none.upd 6 (.lit (.bool x5701))) ∧ M = (Mem.nil.withP 54 rdS_simfs_file x5702)) ?_ ?_
       · clear H
         have H := H5708
         clear H5708
         refine WP.region ?_
         refine WPL.q (q_mv (v := .ro _ _ _) rfl) rfl ?_
         refine WPL.q (q_len_ro sl22 rfl) rfl ?_
         refine WPL.q (q_mv (v := .ro _ _ _) rfl) rfl ?_
         refine WPL.q (q_len_ro sl22 rfl) rfl ?_
         refine WPL.q (q_mv (v := .ro _ _ _) rfl) rfl ?_
         refine WPL.q (q_len_ro sl22 rfl) rfl ?_
         obtain ⟨x5703, h5703, H⟩ := bnd H
         refine WPL.q (q_nm (q_add rfl rfl) (nm_int h5703)) rfl ?_
         refine WPL.q (q_mv (v := .lit (.int _ _)) rfl) rfl ?_
         refine WPL.q (q_sub rfl rfl) rfl ?_
         obtain ⟨x5704, h5704, H⟩ := bnd H
         refine WPL.q (q_nm (q_gtr rfl rfl) (nm_bool h5704)) rfl ?_
         refine WPL.q (q_mv (v := .lit (.bool _)) rfl) rfl ?_
         refine WPL.split (t := 62) (b := x5704) rfl (fun hb5704 => ?_) (fun hb5704 => ?_)
         · replace H := cnt hb5704 H
           obtain ⟨⟨x5707, x5708⟩, h5705, H⟩ := bnd H
           refine WPL.cg rfl rfl (lb hb5704) (runs_call (s := []) (t := []) (N := 7) (bor := []) fn4 rfl (s_quirelaw22_alive k x5685 x5707 x5708 h5705) ⟨rfl, trivial, by decide, rfl, trivial, rfl⟩ rfl trivial .nil rfl trivial rfl) rfl ?_
           refine WPL.q (q_pickT (v := .lit (.bool _)) (lb hb5704) rfl) rfl ?_
           refine WPL.q (q_as (v := .lit (.bool _)) rfl) rfl ?_
           refine WPL.nilW ?_
           have q0 := (Prod.mk.inj (Option.some.inj H)).1
           have q1 := (Prod.mk.inj (Option.some.inj H)).2
           subst q0
           subst q1
           exact W.wk [] hnp ⟨rfl, rfl, rfl⟩ ⟨rfl, trivial, by decide, rfl, trivial, rfl⟩ (LeE.upd rfl rfl (LeE.none rfl rfl)) rfl
         replace H := cnf hb5704 H
         refine WPL.skipg (b' := false) rfl rfl (lb hb5704) rfl rfl (.inl (by simp only [SkipOk]; kernel_rfl)) ?_
         refine WPL.q (q_pickF (v := .lit (.bool _)) (lb hb5704) rfl) rfl ?_
         refine WPL.q (q_as (v := .lit (.bool _)) rfl) rfl ?_
         refine WPL.nilW ?_
         have q0 := (Prod.mk.inj (Option.some.inj H)).1
         have q1 := (Prod.mk.inj (Option.some.inj H)).2
         subst q0
         subst q1
         exact W.wk [] hnp ⟨rfl, rfl, rfl⟩ ⟨rfl, trivial, by decide, rfl, trivial, rfl⟩ (LeE.upd rfl rfl (LeE.none rfl rfl)) rfl
       rintro _ _ _ ⟨rfl, rfl, rfl⟩
       refine W.now ?_
       refine Then.n ?_
       refine WP.retW ?_
       have q0 := Option.some.inj H
       subst q0
       exact W.wk [] hnp ⟨rfl, rfl, rfl⟩ ⟨rfl, trivial, by decide, rfl, trivial, rfl⟩ (LeE.upd rfl rfl (LeE.none rfl rfl)) rfl
     replace H := cnf hb5693 H
     refine WP.skipW ?_
     have q0 := Option.some.inj H
     subst q0
     exact W.wk [0, 5, 2, 3, 6] hnp ⟨rfl, rfl, rfl⟩ ⟨rfl, ⟨⟨⟨⟨⟨trivial, .inr ⟨rfl, rfl, rfl⟩⟩, .inr ⟨rfl, rfl, rfl⟩⟩, .inr ⟨rfl, rfl, rfl⟩⟩, .inr ⟨rfl, rfl, rfl⟩⟩, .inr ⟨rfl, rfl, rfl⟩⟩, by decide, rfl, trivial, rfl⟩ (LeE.upd rfl rfl (LeE.upd rfl rfl (LeE.upd rfl rfl (LeE.upd rfl rfl (LeE.none rfl rfl))))) rfl
   refine WPL.c (runs_call (s := [0, 2, 3, 1, 4]) (t := [0, 2, 3, 5, 6, 7]) (N := 8) (bor := []) fn6 rfl (s_store_Save k (ByteArray.mk #[98]) x4 (IntKind.wrap .i64 (x5618 - x6)) ([] : List (Int × Int)) 0 false ([] : List (ByteArray × (Option Nat))) ([] : List (ByteArray × (Option Nat))) ([] : List (Option Nat)) ([] : List S_simfs_entry) x7 (Sum.inr (x5686, x5687, x5688, x5689, x5690, x5691, x5692)) h5677) ⟨rfl, ⟨⟨⟨⟨⟨trivial, .inr ⟨rfl, rfl, rfl⟩⟩, .inr ⟨rfl, rfl, rfl⟩⟩, .inr ⟨rfl, rfl, rfl⟩⟩, .inr ⟨rfl, rfl, rfl⟩⟩, .inr ⟨rfl, rfl, rfl⟩⟩, by decide, rfl, trivial, rfl⟩ rfl trivial (.ren rfl rfl (.ren rfl rfl (.ren rfl rfl .nil))) rfl ⟨⟨⟨⟨⟨⟨trivial, rfl⟩, rfl⟩, rfl⟩, rfl⟩, rfl⟩, rfl⟩ rfl) rfl ?_
   refine WPL.q (q_neq rfl rfl) rfl ?_
   refine WPL.nilW ?_
   refine W.now ?_
   refine Then.n ?_
   refine WP.cond (t := (!decide (x5686 = 0))) rfl (fun hb5709 => ?_) (fun hb5709 => ?_)
   · replace H := cnt hb5709 H
     refine WP.seq ?_
     obtain ⟨⟨x5717, x5718⟩, H5724, H⟩ := bnd H
     refine WP.monoW (Q := fun x E M => x = .normal ∧ E = (Env.none.upd 6 (.lit (.bool x5717))) ∧ M = (Mem.nil.withP 54 rdS_simfs_file x5718)) ?_ ?_
     · clear H
       have H := H5724
       clear H5724
       refine WP.region ?_
       refine WPL.q (q_mv (v := .ro _ _ _) rfl) rfl ?_
       refine WPL.q (q_len_ro sl22 rfl) rfl ?_
       refine WPL.q (q_mv (v := .ro _ _ _) rfl) rfl ?_
       refine WPL.q (q_len_ro sl22 rfl) rfl ?_
       refine WPL.q (q_mv (v := .ro _ _ _) rfl) rfl ?_
       refine WPL.q (q_len_ro sl22 rfl) rfl ?_
       obtain ⟨x5719, h5719, H⟩ := bnd H
       refine WPL.q (q_nm (q_add rfl rfl) (nm_int h5719)) rfl ?_
       refine WPL.q (q_mv (v := .lit (.int _ _)) rfl) rfl ?_
       refine WPL.q (q_sub rfl rfl) rfl ?_
       obtain ⟨x5720, h5720, H⟩ := bnd H
       refine WPL.q (q_nm (q_gtr rfl rfl) (nm_bool h5720)) rfl ?_
       refine WPL.q (q_mv (v := .lit (.bool _)) rfl) rfl ?_
       refine WPL.split (t := 62) (b := x5720) rfl (fun hb5720 => ?_) (fun hb5720 => ?_)
       · replace H := cnt hb5720 H
         obtain ⟨⟨x5723, x5724⟩, h5721, H⟩ := bnd H
         refine WPL.cg rfl rfl (lb hb5720) (runs_call (s := []) (t := []) (N := 8) (bor := []) fn4 rfl (s_quirelaw22_alive k x5692 x5723 x5724 h5721) ⟨rfl, trivial, by decide, rfl, trivial, rfl⟩ rfl trivial .nil rfl trivial rfl) rfl ?_
         refine WPL.q (q_pickT (v := .lit (.bool _)) (lb hb5720) rfl) rfl ?_
         refine WPL.q (q_as (v := .lit (.bool _)) rfl) rfl ?_
         refine WPL.nilW ?_
         have q0 := (Prod.mk.inj (Option.some.inj H)).1
         have q1 := (Prod.mk.inj (Option.some.inj H)).2
         subst q0
         subst q1
         exact W.wk [] hnp ⟨rfl, rfl, rfl⟩ ⟨rfl, trivial, by decide, rfl, trivial, rfl⟩ (LeE.upd rfl rfl (LeE.none rfl rfl)) rfl
       replace H := cnf hb5720 H
       refine WPL.skipg (b' := false) rfl rfl (lb hb5720) rfl rfl (.inl (by simp only [SkipOk]; kernel_rfl)) ?_
       refine WPL.q (q_pickF (v := .lit (.bool _)) (lb hb5720) rfl) rfl ?_
       refine WPL.q (q_as (v := .lit (.bool _)) rfl) rfl ?_
       refine WPL.nilW ?_
       have q0 := (Prod.mk.inj (Option.some.inj H)).1
       have q1 := (Prod.mk.inj (Option.some.inj H)).2
       subst q0
       subst q1
       exact W.wk [] hnp ⟨rfl, rfl, rfl⟩ ⟨rfl, trivial, by decide, rfl, trivial, rfl⟩ (LeE.upd rfl rfl (LeE.none rfl rfl)) rfl
     rintro _ _ _ ⟨rfl, rfl, rfl⟩
     refine W.now ?_
     refine Then.n ?_
     refine WP.retW ?_
     have q0 := Option.some.inj H
     subst q0
     exact W.wk [] hnp ⟨rfl, rfl, rfl⟩ ⟨rfl, trivial, by decide, rfl, trivial, rfl⟩ (LeE.upd rfl rfl (LeE.none rfl rfl)) rfl
   replace H := cnf hb5709 H
   refine WP.skipW ?_
   have q0 := Option.some.inj H
   subst q0
   exact W.wk [0, 5, 2, 6, 7] hnp ⟨rfl, rfl, rfl⟩ ⟨rfl, ⟨⟨⟨⟨⟨trivial, .inr ⟨rfl, rfl, rfl⟩⟩, .inr ⟨rfl, rfl, rfl⟩⟩, .inr ⟨rfl, rfl, rfl⟩⟩, .inr ⟨rfl, rfl, rfl⟩⟩, .inr ⟨rfl, rfl, rfl⟩⟩, by decide, rfl, trivial, rfl⟩ (LeE.upd rfl rfl (LeE.upd rfl rfl (LeE.upd rfl rfl (LeE.upd rfl rfl (LeE.none rfl rfl))))) rfl
 rcases y5727 with ⟨x5669, x5670⟩ | ⟨x5671, x5672, x5673, x5674, x5675, x5676, x5677⟩
 · rintro _ _ _ ⟨rfl, rfl, rfl⟩
   have q0 := (Prod.mk.inj (Option.some.inj H)).1
   have q1 := (Prod.mk.inj (Option.some.inj H)).2
   subst q0
   subst q1
   exact W.now (Then.r (BodyR.mkR trivial rfl [] ⟨rfl, rfl⟩ ⟨rfl, trivial, by decide, rfl, trivial, rfl⟩ rfl rfl))
 rintro _ _ _ ⟨rfl, rfl, rfl⟩
 refine W.now ?_
 refine Then.n ?_
 refine WP.seq ?_
 refine WP.region ?_
 refine WPL.q (q_mv (v := .ptr _ _) rfl) rfl ?_
 refine WPL.q (q_mv (v := .ro _ _ _) rfl) rfl ?_
 obtain ⟨y5743, h5727, H⟩ := bnd H
 rcases y5743 with ⟨x5729, x5730, x5731, x5732, x5733, x5734, x5735⟩ | ⟨x5736, x5737, x5738, x5739, x5740, x5741, x5742⟩
 · refine WPL.c (runs_call (s := [0, 2, 3, 1, 4]) (t := [0, 2, 3, 5, 6]) (N := 7) (bor := []) fn6 rfl (s_store_Save k (ByteArray.mk #[98]) x5 (IntKind.wrap .i64 (x5618 - x6)) ([] : List (Int × Int)) x5671 x5672 x5674 x5675 x5673 x5676 x5677 (Sum.inl (x5729, x5730, x5731, x5732, x5733, x5734, x5735)) h5727) ⟨rfl, ⟨⟨⟨⟨⟨trivial, .inr ⟨rfl, rfl, rfl⟩⟩, .inr ⟨rfl, rfl, rfl⟩⟩, .inr ⟨rfl, rfl, rfl⟩⟩, .inr ⟨rfl, rfl, rfl⟩⟩, .inr ⟨rfl, rfl, rfl⟩⟩, by decide, rfl, trivial, rfl⟩ rfl trivial (.ren rfl rfl (.ren rfl rfl (.ren rfl rfl .nil))) rfl ⟨⟨⟨⟨⟨trivial, rfl⟩, rfl⟩, rfl⟩, rfl⟩, rfl⟩ rfl) rfl ?_
   refine WPL.q (q_as (v := .lit (.int _ _)) rfl) rfl ?_
   refine WPL.nilW ?_
   refine W.now ?_
   refine Then.n ?_
   refine WP.seq ?_
   refine WP.region ?_
   refine WPL.q (q_mv (v := .ptr _ _) rfl) rfl ?_
   obtain ⟨⟨x5745, x5746, x5747, x5748⟩, h5743, H⟩ := bnd H
   refine WPL.c (runs_call (s := [0, 2, 3, 5, 6]) (t := [0, 2, 3, 7, 8]) (N := 9) (bor := []) fn7 rfl (s_store_Load k (ByteArray.mk #[98]) (IntKind.wrap .i64 (x5618 - x6)) ([] : List (Int × Int)) x5730 x5731 x5732 x5675 x5733 x5734 x5735 x5745 x5746 x5747 x5748 h5743) ⟨rfl, ⟨⟨⟨⟨⟨trivial, .inr ⟨rfl, rfl, rfl⟩⟩, .inr ⟨rfl, rfl, rfl⟩⟩, .inr ⟨rfl, rfl, rfl⟩⟩, .inr ⟨rfl, rfl, rfl⟩⟩, .inr ⟨rfl, rfl, rfl⟩⟩, by decide, rfl, trivial, rfl⟩ rfl trivial (.ren rfl rfl (.ren rfl rfl .nil)) rfl ⟨⟨⟨⟨⟨trivial, rfl⟩, rfl⟩, rfl⟩, rfl⟩, rfl⟩ rfl) rfl ?_
   refine WPL.q (q_mv (v := .tup _) rfl) rfl ?_
   refine WPL.q (q_extract rfl rfl) rfl ?_
   refine WPL.q (q_extract rfl rfl) rfl ?_
   refine WPL.q (q_as (v := .ro _ _ _) rfl) rfl ?_
   refine WPL.q (q_as (v := .lit (.int _ _)) rfl) rfl ?_
   refine WPL.nilW ?_
   refine W.now ?_
   refine Then.n ?_
   refine WP.seq ?_
   refine WP.seq ?_
   refine WP.region ?_
   refine WPL.q (q_mv (v := .lit (.int _ _)) rfl) rfl ?_
   refine WPL.q (q_gtr rfl rfl) rfl ?_
   refine WPL.nilW ?_
   refine W.now ?_
   refine Then.n ?_
   refine WP.cond (t := (decide (0 < x6))) rfl (fun hb5768 => ?_) (fun hb5768 => ?_)
   · replace H := cnt hb5768 H
     refine WP.seq ?_
     obtain ⟨⟨x5778, x5779⟩, H5787, H⟩ := bnd H
     refine WP.monoW (Q := fun x E M => x = .normal ∧ E = (Env.none.upd 6 (.lit (.bool x5778))) ∧ M = (Mem.nil.withP 54 rdS_simfs_file x5779)) ?_ ?_
     · clear H
       have H := H5787
       clear H5787
       refine WP.region ?_
       refine WPL.q (q_mv (v := .lit (.int _ _)) rfl) rfl ?_
       refine WPL.q (q_eql rfl rfl) rfl ?_
       refine WPL.q (q_mv (v := .lit (.bool _)) rfl) rfl ?_
       refine WPL.split (t := 77) (b := (decide (x5729 = 60))) rfl (fun hb5779 => ?_) (fun hb5779 => ?_)
       · replace H := cnt hb5779 H
         refine WPL.qg rfl rfl (lb hb5779) (q_mv (v := .lit (.int _ _)) rfl) rfl ?_
         refine WPL.qg rfl rfl (lb hb5779) (q_eql rfl rfl) rfl ?_
         refine WPL.q (q_pickT (v := .lit (.bool _)) (lb hb5779) rfl) rfl ?_
         refine WPL.q (q_mv (v := .lit (.bool _)) rfl) rfl ?_
         refine WPL.split (t := 81) (b := (decide (x5746 = 0))) rfl (fun hb5780 => ?_) (fun hb5780 => ?_)
         · replace H := cnt hb5780 H
           refine WPL.qg rfl rfl (lb hb5780) (q_mv (v := .ro _ _ _) rfl) rfl ?_
           refine WPL.qg rfl rfl (lb hb5780) (q_mv (v := .ro _ _ _) rfl) rfl ?_
           obtain ⟨x5783, h5781, H⟩ := bnd H
           refine WPL.cg rfl rfl (lb hb5780) (runs_call (s := []) (t := []) (N := 9) (bor := []) fn8 rfl (s_quirelaw01_Same k x5745 x4 x5783 h5781) ⟨rfl, trivial, by decide, rfl, trivial, rfl⟩ rfl trivial (.ren rfl rfl (.ren rfl rfl .nil)) rfl trivial rfl) rfl ?_
           refine WPL.q (q_pickT (v := .lit (.bool _)) (lb hb5780) rfl) rfl ?_
           refine WPL.q (q_mv (v := .lit (.bool _)) rfl) rfl ?_
           refine WPL.split (t := 86) (b := x5783) rfl (fun hb5783 => ?_) (fun hb5783 => ?_)
           · replace H := cnt hb5783 H
             obtain ⟨⟨x5786, x5787⟩, h5784, H⟩ := bnd H
             refine WPL.cg rfl rfl (lb hb5783) (runs_call (s := []) (t := []) (N := 9) (bor := []) fn4 rfl (s_quirelaw22_alive k x5735 x5786 x5787 h5784) ⟨rfl, trivial, by decide, rfl, trivial, rfl⟩ rfl trivial .nil rfl trivial rfl) rfl ?_
             refine WPL.q (q_pickT (v := .lit (.bool _)) (lb hb5783) rfl) rfl ?_
             refine WPL.q (q_as (v := .lit (.bool _)) rfl) rfl ?_
             refine WPL.nilW ?_
             have q0 := (Prod.mk.inj (Option.some.inj H)).1
             have q1 := (Prod.mk.inj (Option.some.inj H)).2
             subst q0
             subst q1
             exact W.wk [] hnp ⟨rfl, rfl, rfl⟩ ⟨rfl, trivial, by decide, rfl, trivial, rfl⟩ (LeE.upd rfl rfl (LeE.none rfl rfl)) rfl
           replace H := cnf hb5783 H
           refine WPL.skipg (b' := false) rfl rfl (lb hb5783) rfl rfl (.inl (by simp only [SkipOk]; kernel_rfl)) ?_
           refine WPL.q (q_pickF (v := .lit (.bool _)) (lb hb5783) rfl) rfl ?_
           refine WPL.q (q_as (v := .lit (.bool _)) rfl) rfl ?_
           refine WPL.nilW ?_
           have q0 := (Prod.mk.inj (Option.some.inj H)).1
           have q1 := (Prod.mk.inj (Option.some.inj H)).2
           subst q0
           subst q1
           exact W.wk [] hnp ⟨rfl, rfl, rfl⟩ ⟨rfl, trivial, by decide, rfl, trivial, rfl⟩ (LeE.upd rfl rfl (LeE.none rfl rfl)) rfl
         replace H := cnf hb5780 H
         refine WPL.skipg (b' := false) rfl rfl (lb hb5780) rfl rfl (.inl trivial) ?_
         refine WPL.skipg (b' := false) rfl rfl (lb hb5780) rfl rfl (.inl trivial) ?_
         refine WPL.skipg (b' := false) rfl rfl (lb hb5780) rfl rfl (.inl (by simp only [SkipOk]; kernel_rfl)) ?_
         refine WPL.q (q_pickF (v := .lit (.bool _)) (lb hb5780) rfl) rfl ?_
         refine WPL.q (q_mv (v := .lit (.bool _)) rfl) rfl ?_
         refine WPL.skipg (b' := false) rfl rfl rfl rfl rfl (.inl (by simp only [SkipOk]; kernel_rfl)) ?_
         refine WPL.q (q_pickF (v := .lit (.bool _)) rfl rfl) rfl ?_
         refine WPL.q (q_as (v := .lit (.bool _)) rfl) rfl ?_
         refine WPL.nilW ?_
         have q0 := (Prod.mk.inj (Option.some.inj H)).1
         have q1 := (Prod.mk.inj (Option.some.inj H)).2
         subst q0
         subst q1
         exact W.wk [] hnp ⟨rfl, rfl, rfl⟩ ⟨rfl, trivial, by decide, rfl, trivial, rfl⟩ (LeE.upd rfl rfl (LeE.none rfl rfl)) rfl
       replace H := cnf hb5779 H
       refine WPL.skipg (b' := false) rfl rfl (lb hb5779) rfl rfl (.inl trivial) ?_
       refine WPL.skipg (b' := false) rfl rfl (lb hb5779) rfl rfl (.inl trivial) ?_
       refine WPL.q (q_pickF (v := .lit (.bool _)) (lb hb5779) rfl) rfl ?_
       refine WPL.q (q_mv (v := .lit (.bool _)) rfl) rfl ?_
       refine WPL.skipg (b' := false) rfl rfl rfl rfl rfl (.inl trivial) ?_
       refine WPL.skipg (b' := false) rfl rfl rfl rfl rfl (.inl trivial) ?_
       refine WPL.skipg (b' := false) rfl rfl rfl rfl rfl (.inl (by simp only [SkipOk]; kernel_rfl)) ?_
       refine WPL.q (q_pickF (v := .lit (.bool _)) rfl rfl) rfl ?_
       refine WPL.q (q_mv (v := .lit (.bool _)) rfl) rfl ?_
       refine WPL.skipg (b' := false) rfl rfl rfl rfl rfl (.inl (by simp only [SkipOk]; kernel_rfl)) ?_
       refine WPL.q (q_pickF (v := .lit (.bool _)) rfl rfl) rfl ?_
       refine WPL.q (q_as (v := .lit (.bool _)) rfl) rfl ?_
       refine WPL.nilW ?_
       have q0 := (Prod.mk.inj (Option.some.inj H)).1
       have q1 := (Prod.mk.inj (Option.some.inj H)).2
       subst q0
       subst q1
       exact W.wk [] hnp ⟨rfl, rfl, rfl⟩ ⟨rfl, trivial, by decide, rfl, trivial, rfl⟩ (LeE.upd rfl rfl (LeE.none rfl rfl)) rfl
     rintro _ _ _ ⟨rfl, rfl, rfl⟩
     refine W.now ?_
     refine Then.n ?_
     refine WP.retW ?_
     have q0 := (Prod.mk.inj (Option.some.inj H)).1
     have q1 := (Prod.mk.inj (Option.some.inj H)).2
     subst q0
     subst q1
     exact W.now (Then.r (BodyR.mkR trivial rfl [] ⟨rfl, rfl⟩ ⟨rfl, trivial, by decide, rfl, trivial, rfl⟩ rfl rfl))
   replace H := cnf hb5768 H
   refine WP.skipW ?_
   refine W.now ?_
   refine Then.n ?_
   refine WP.seq ?_
   obtain ⟨⟨x5797, x5798⟩, H5806, H⟩ := bnd H
   refine WP.monoW (Q := fun x E M => x = .normal ∧ E = (Env.none.upd 6 (.lit (.bool x5797))) ∧ M = (Mem.nil.withP 54 rdS_simfs_file x5798)) ?_ ?_
   · clear H
     have H := H5806
     clear H5806
     refine WP.region ?_
     refine WPL.q (q_mv (v := .lit (.int _ _)) rfl) rfl ?_
     refine WPL.q (q_eql rfl rfl) rfl ?_
     refine WPL.q (q_mv (v := .lit (.bool _)) rfl) rfl ?_
     refine WPL.split (t := 91) (b := (decide (x5729 = 0))) rfl (fun hb5798 => ?_) (fun hb5798 => ?_)
     · replace H := cnt hb5798 H
       refine WPL.qg rfl rfl (lb hb5798) (q_mv (v := .lit (.int _ _)) rfl) rfl ?_
       refine WPL.qg rfl rfl (lb hb5798) (q_eql rfl rfl) rfl ?_
       refine WPL.q (q_pickT (v := .lit (.bool _)) (lb hb5798) rfl) rfl ?_
       refine WPL.q (q_mv (v := .lit (.bool _)) rfl) rfl ?_
       refine WPL.split (t := 95) (b := (decide (x5746 = 0))) rfl (fun hb5799 => ?_) (fun hb5799 => ?_)
       · replace H := cnt hb5799 H
         refine WPL.qg rfl rfl (lb hb5799) (q_mv (v := .ro _ _ _) rfl) rfl ?_
         refine WPL.qg rfl rfl (lb hb5799) (q_mv (v := .ro _ _ _) rfl) rfl ?_
         obtain ⟨x5802, h5800, H⟩ := bnd H
         refine WPL.cg rfl rfl (lb hb5799) (runs_call (s := []) (t := []) (N := 9) (bor := []) fn8 rfl (s_quirelaw01_Same k x5745 x5 x5802 h5800) ⟨rfl, trivial, by decide, rfl, trivial, rfl⟩ rfl trivial (.ren rfl rfl (.ren rfl rfl .nil)) rfl trivial rfl) rfl ?_
         refine WPL.q (q_pickT (v := .lit (.bool _)) (lb hb5799) rfl) rfl ?_
         refine WPL.q (q_mv (v := .lit (.bool _)) rfl) rfl ?_
         refine WPL.split (t := 100) (b := x5802) rfl (fun hb5802 => ?_) (fun hb5802 => ?_)
         · replace H := cnt hb5802 H
           obtain ⟨⟨x5805, x5806⟩, h5803, H⟩ := bnd H
           refine WPL.cg rfl rfl (lb hb5802) (runs_call (s := []) (t := []) (N := 9) (bor := []) fn4 rfl (s_quirelaw22_alive k x5735 x5805 x5806 h5803) ⟨rfl, trivial, by decide, rfl, trivial, rfl⟩ rfl trivial .nil rfl trivial rfl) rfl ?_
           refine WPL.q (q_pickT (v := .lit (.bool _)) (lb hb5802) rfl) rfl ?_
           refine WPL.q (q_as (v := .lit (.bool _)) rfl) rfl ?_
           refine WPL.nilW ?_
           have q0 := (Prod.mk.inj (Option.some.inj H)).1
           have q1 := (Prod.mk.inj (Option.some.inj H)).2
           subst q0
           subst q1
           exact W.wk [] hnp ⟨rfl, rfl, rfl⟩ ⟨rfl, trivial, by decide, rfl, trivial, rfl⟩ (LeE.upd rfl rfl (LeE.none rfl rfl)) rfl
         replace H := cnf hb5802 H
         refine WPL.skipg (b' := false) rfl rfl (lb hb5802) rfl rfl (.inl (by simp only [SkipOk]; kernel_rfl)) ?_
         refine WPL.q (q_pickF (v := .lit (.bool _)) (lb hb5802) rfl) rfl ?_
         refine WPL.q (q_as (v := .lit (.bool _)) rfl) rfl ?_
         refine WPL.nilW ?_
         have q0 := (Prod.mk.inj (Option.some.inj H)).1
         have q1 := (Prod.mk.inj (Option.some.inj H)).2
         subst q0
         subst q1
         exact W.wk [] hnp ⟨rfl, rfl, rfl⟩ ⟨rfl, trivial, by decide, rfl, trivial, rfl⟩ (LeE.upd rfl rfl (LeE.none rfl rfl)) rfl
       replace H := cnf hb5799 H
       refine WPL.skipg (b' := false) rfl rfl (lb hb5799) rfl rfl (.inl trivial) ?_
       refine WPL.skipg (b' := false) rfl rfl (lb hb5799) rfl rfl (.inl trivial) ?_
       refine WPL.skipg (b' := false) rfl rfl (lb hb5799) rfl rfl (.inl (by simp only [SkipOk]; kernel_rfl)) ?_
       refine WPL.q (q_pickF (v := .lit (.bool _)) (lb hb5799) rfl) rfl ?_
       refine WPL.q (q_mv (v := .lit (.bool _)) rfl) rfl ?_
       refine WPL.skipg (b' := false) rfl rfl rfl rfl rfl (.inl (by simp only [SkipOk]; kernel_rfl)) ?_
       refine WPL.q (q_pickF (v := .lit (.bool _)) rfl rfl) rfl ?_
       refine WPL.q (q_as (v := .lit (.bool _)) rfl) rfl ?_
       refine WPL.nilW ?_
       have q0 := (Prod.mk.inj (Option.some.inj H)).1
       have q1 := (Prod.mk.inj (Option.some.inj H)).2
       subst q0
       subst q1
       exact W.wk [] hnp ⟨rfl, rfl, rfl⟩ ⟨rfl, trivial, by decide, rfl, trivial, rfl⟩ (LeE.upd rfl rfl (LeE.none rfl rfl)) rfl
     replace H := cnf hb5798 H
     refine WPL.skipg (b' := false) rfl rfl (lb hb5798) rfl rfl (.inl trivial) ?_
     refine WPL.skipg (b' := false) rfl rfl (lb hb5798) rfl rfl (.inl trivial) ?_
     refine WPL.q (q_pickF (v := .lit (.bool _)) (lb hb5798) rfl) rfl ?_
     refine WPL.q (q_mv (v := .lit (.bool _)) rfl) rfl ?_
     refine WPL.skipg (b' := false) rfl rfl rfl rfl rfl (.inl trivial) ?_
     refine WPL.skipg (b' := false) rfl rfl rfl rfl rfl (.inl trivial) ?_
     refine WPL.skipg (b' := false) rfl rfl rfl rfl rfl (.inl (by simp only [SkipOk]; kernel_rfl)) ?_
     refine WPL.q (q_pickF (v := .lit (.bool _)) rfl rfl) rfl ?_
     refine WPL.q (q_mv (v := .lit (.bool _)) rfl) rfl ?_
     refine WPL.skipg (b' := false) rfl rfl rfl rfl rfl (.inl (by simp only [SkipOk]; kernel_rfl)) ?_
     refine WPL.q (q_pickF (v := .lit (.bool _)) rfl rfl) rfl ?_
     refine WPL.q (q_as (v := .lit (.bool _)) rfl) rfl ?_
     refine WPL.nilW ?_
     have q0 := (Prod.mk.inj (Option.some.inj H)).1
     have q1 := (Prod.mk.inj (Option.some.inj H)).2
     subst q0
     subst q1
     exact W.wk [] hnp ⟨rfl, rfl, rfl⟩ ⟨rfl, trivial, by decide, rfl, trivial, rfl⟩ (LeE.upd rfl rfl (LeE.none rfl rfl)) rfl
   rintro _ _ _ ⟨rfl, rfl, rfl⟩
   refine W.now ?_
   refine Then.n ?_
   refine WP.retW ?_
   have q0 := (Prod.mk.inj (Option.some.inj H)).1
   have q1 := (Prod.mk.inj (Option.some.inj H)).2
   subst q0
   subst q1
   exact W.now (BodyR.mkR trivial rfl [] ⟨rfl, rfl⟩ ⟨rfl, trivial, by decide, rfl, trivial, rfl⟩ rfl rfl)
 refine WPL.c (runs_call (s := [0, 2, 3, 1, 4]) (t := [0, 2, 3, 5, 6, 7]) (N := 8) (bor := []) fn6 rfl (s_store_Save k (ByteArray.mk #[98]) x5 (IntKind.wrap .i64 (x5618 - x6)) ([] : List (Int × Int)) x5671 x5672 x5674 x5675 x5673 x5676 x5677 (Sum.inr (x5736, x5737, x5738, x5739, x5740, x5741, x5742)) h5727) ⟨rfl, ⟨⟨⟨⟨⟨trivial, .inr ⟨rfl, rfl, rfl⟩⟩, .inr ⟨rfl, rfl, rfl⟩⟩, .inr ⟨rfl, rfl, rfl⟩⟩, .inr ⟨rfl, rfl, rfl⟩⟩, .inr ⟨rfl, rfl, rfl⟩⟩, by decide, rfl, trivial, rfl⟩ rfl trivial (.ren rfl rfl (.ren rfl rfl (.ren rfl rfl .nil))) rfl ⟨⟨⟨⟨⟨⟨trivial, rfl⟩, rfl⟩, rfl⟩, rfl⟩, rfl⟩, rfl⟩ rfl) rfl ?_
 refine WPL.q (q_as (v := .lit (.int _ _)) rfl) rfl ?_
 refine WPL.nilW ?_
 refine W.now ?_
 refine Then.n ?_
 refine WP.seq ?_
 refine WP.region ?_
 refine WPL.q (q_mv (v := .ptr _ _) rfl) rfl ?_
 obtain ⟨⟨x5809, x5810, x5811, x5812⟩, h5807, H⟩ := bnd H
 refine WPL.c (runs_call (s := [0, 2, 6, 5, 7]) (t := [0, 2, 6, 8, 9]) (N := 10) (bor := []) fn7 rfl (s_store_Load k (ByteArray.mk #[98]) (IntKind.wrap .i64 (x5618 - x6)) ([] : List (Int × Int)) x5737 x5738 x5739 x5741 x5740 ([] : List S_simfs_entry) x5742 x5809 x5810 x5811 x5812 h5807) ⟨rfl, ⟨⟨⟨⟨⟨trivial, .inr ⟨rfl, rfl, rfl⟩⟩, .inr ⟨rfl, rfl, rfl⟩⟩, .inr ⟨rfl, rfl, rfl⟩⟩, .inr ⟨rfl, rfl, rfl⟩⟩, .inr ⟨rfl, rfl, rfl⟩⟩, by decide, rfl, trivial, rfl⟩ rfl trivial (.ren rfl rfl (.ren rfl rfl .nil)) rfl ⟨⟨⟨⟨⟨trivial, rfl⟩, rfl⟩, rfl⟩, rfl⟩, rfl⟩ rfl) rfl ?_
 refine WPL.q (q_mv (v := .tup _) rfl) rfl ?_
 refine WPL.q (q_extract rfl rfl) rfl ?_
 refine WPL.q (q_extract rfl rfl) rfl ?_
 refine WPL.q (q_as (v := .ro _ _ _) rfl) rfl ?_
 refine WPL.q (q_as (v := .lit (.int _ _)) rfl) rfl ?_
 refine WPL.nilW ?_
 refine W.now ?_
 refine Then.n ?_
 refine WP.seq ?_
 refine WP.seq ?_
 refine WP.region ?_
 refine WPL.q (q_mv (v := .lit (.int _ _)) rfl) rfl ?_
 refine WPL.q (q_gtr rfl rfl) rfl ?_
 refine WPL.nilW ?_
 refine W.now ?_
 refine Then.n ?_
 refine WP.cond (t := (decide (0 < x6))) rfl (fun hb5832 => ?_) (fun hb5832 => ?_)
 · replace H := cnt hb5832 H
   refine WP.seq ?_
   obtain ⟨⟨x5842, x5843⟩, H5851, H⟩ := bnd H
   refine WP.monoW (Q := fun x E M => x = .normal ∧ E = (Env.none.upd 6 (.lit (.bool x5842))) ∧ M = (Mem.nil.withP 54 rdS_simfs_file x5843)) ?_ ?_
   · clear H
     have H := H5851
     clear H5851
     refine WP.region ?_
     refine WPL.q (q_mv (v := .lit (.int _ _)) rfl) rfl ?_
     refine WPL.q (q_eql rfl rfl) rfl ?_
     refine WPL.q (q_mv (v := .lit (.bool _)) rfl) rfl ?_
     refine WPL.split (t := 77) (b := (decide (x5736 = 60))) rfl (fun hb5843 => ?_) (fun hb5843 => ?_)
     · replace H := cnt hb5843 H
       refine WPL.qg rfl rfl (lb hb5843) (q_mv (v := .lit (.int _ _)) rfl) rfl ?_
       refine WPL.qg rfl rfl (lb hb5843) (q_eql rfl rfl) rfl ?_
       refine WPL.q (q_pickT (v := .lit (.bool _)) (lb hb5843) rfl) rfl ?_
       refine WPL.q (q_mv (v := .lit (.bool _)) rfl) rfl ?_
       refine WPL.split (t := 81) (b := (decide (x5810 = 0))) rfl (fun hb5844 => ?_) (fun hb5844 => ?_)
       · replace H := cnt hb5844 H
         refine WPL.qg rfl rfl (lb hb5844) (q_mv (v := .ro _ _ _) rfl) rfl ?_
         refine WPL.qg rfl rfl (lb hb5844) (q_mv (v := .ro _ _ _) rfl) rfl ?_
         obtain ⟨x5847, h5845, H⟩ := bnd H
         refine WPL.cg rfl rfl (lb hb5844) (runs_call (s := []) (t := []) (N := 10) (bor := []) fn8 rfl (s_quirelaw01_Same k x5809 x4 x5847 h5845) ⟨rfl, trivial, by decide, rfl, trivial, rfl⟩ rfl trivial (.ren rfl rfl (.ren rfl rfl .nil)) rfl trivial rfl) rfl ?_
         refine WPL.q (q_pickT (v := .lit (.bool _)) (lb hb5844) rfl) rfl ?_
         refine WPL.q (q_mv (v := .lit (.bool _)) rfl) rfl ?_
         refine WPL.split (t := 86) (b := x5847) rfl (fun hb5847 => ?_) (fun hb5847 => ?_)
         · replace H := cnt hb5847 H
           obtain ⟨⟨x5850, x5851⟩, h5848, H⟩ := bnd H
           refine WPL.cg rfl rfl (lb hb5847) (runs_call (s := []) (t := []) (N := 10) (bor := []) fn4 rfl (s_quirelaw22_alive k x5742 x5850 x5851 h5848) ⟨rfl, trivial, by decide, rfl, trivial, rfl⟩ rfl trivial .nil rfl trivial rfl) rfl ?_
           refine WPL.q (q_pickT (v := .lit (.bool _)) (lb hb5847) rfl) rfl ?_
           refine WPL.q (q_as (v := .lit (.bool _)) rfl) rfl ?_
           refine WPL.nilW ?_
           have q0 := (Prod.mk.inj (Option.some.inj H)).1
           have q1 := (Prod.mk.inj (Option.some.inj H)).2
           subst q0
           subst q1
           exact W.wk [] hnp ⟨rfl, rfl, rfl⟩ ⟨rfl, trivial, by decide, rfl, trivial, rfl⟩ (LeE.upd rfl rfl (LeE.none rfl rfl)) rfl
         replace H := cnf hb5847 H
         refine WPL.skipg (b' := false) rfl rfl (lb hb5847) rfl rfl (.inl (by simp only [SkipOk]; kernel_rfl)) ?_
         refine WPL.q (q_pickF (v := .lit (.bool _)) (lb hb5847) rfl) rfl ?_
         refine WPL.q (q_as (v := .lit (.bool _)) rfl) rfl ?_
         refine WPL.nilW ?_
         have q0 := (Prod.mk.inj (Option.some.inj H)).1
         have q1 := (Prod.mk.inj (Option.some.inj H)).2
         subst q0
         subst q1
         exact W.wk [] hnp ⟨rfl, rfl, rfl⟩ ⟨rfl, trivial, by decide, rfl, trivial, rfl⟩ (LeE.upd rfl rfl (LeE.none rfl rfl)) rfl
       replace H := cnf hb5844 H
       refine WPL.skipg (b' := false) rfl rfl (lb hb5844) rfl rfl (.inl trivial) ?_
       refine WPL.skipg (b' := false) rfl rfl (lb hb5844) rfl rfl (.inl trivial) ?_
       refine WPL.skipg (b' := false) rfl rfl (lb hb5844) rfl rfl (.inl (by simp only [SkipOk]; kernel_rfl)) ?_
       refine WPL.q (q_pickF (v := .lit (.bool _)) (lb hb5844) rfl) rfl ?_
       refine WPL.q (q_mv (v := .lit (.bool _)) rfl) rfl ?_
       refine WPL.skipg (b' := false) rfl rfl rfl rfl rfl (.inl (by simp only [SkipOk]; kernel_rfl)) ?_
       refine WPL.q (q_pickF (v := .lit (.bool _)) rfl rfl) rfl ?_
       refine WPL.q (q_as (v := .lit (.bool _)) rfl) rfl ?_
       refine WPL.nilW ?_
       have q0 := (Prod.mk.inj (Option.some.inj H)).1
       have q1 := (Prod.mk.inj (Option.some.inj H)).2
       subst q0
       subst q1
       exact W.wk [] hnp ⟨rfl, rfl, rfl⟩ ⟨rfl, trivial, by decide, rfl, trivial, rfl⟩ (LeE.upd rfl rfl (LeE.none rfl rfl)) rfl
     replace H := cnf hb5843 H
     refine WPL.skipg (b' := false) rfl rfl (lb hb5843) rfl rfl (.inl trivial) ?_
     refine WPL.skipg (b' := false) rfl rfl (lb hb5843) rfl rfl (.inl trivial) ?_
     refine WPL.q (q_pickF (v := .lit (.bool _)) (lb hb5843) rfl) rfl ?_
     refine WPL.q (q_mv (v := .lit (.bool _)) rfl) rfl ?_
     refine WPL.skipg (b' := false) rfl rfl rfl rfl rfl (.inl trivial) ?_
     refine WPL.skipg (b' := false) rfl rfl rfl rfl rfl (.inl trivial) ?_
     refine WPL.skipg (b' := false) rfl rfl rfl rfl rfl (.inl (by simp only [SkipOk]; kernel_rfl)) ?_
     refine WPL.q (q_pickF (v := .lit (.bool _)) rfl rfl) rfl ?_
     refine WPL.q (q_mv (v := .lit (.bool _)) rfl) rfl ?_
     refine WPL.skipg (b' := false) rfl rfl rfl rfl rfl (.inl (by simp only [SkipOk]; kernel_rfl)) ?_
     refine WPL.q (q_pickF (v := .lit (.bool _)) rfl rfl) rfl ?_
     refine WPL.q (q_as (v := .lit (.bool _)) rfl) rfl ?_
     refine WPL.nilW ?_
     have q0 := (Prod.mk.inj (Option.some.inj H)).1
     have q1 := (Prod.mk.inj (Option.some.inj H)).2
     subst q0
     subst q1
     exact W.wk [] hnp ⟨rfl, rfl, rfl⟩ ⟨rfl, trivial, by decide, rfl, trivial, rfl⟩ (LeE.upd rfl rfl (LeE.none rfl rfl)) rfl
   rintro _ _ _ ⟨rfl, rfl, rfl⟩
   refine W.now ?_
   refine Then.n ?_
   refine WP.retW ?_
   have q0 := (Prod.mk.inj (Option.some.inj H)).1
   have q1 := (Prod.mk.inj (Option.some.inj H)).2
   subst q0
   subst q1
   exact W.now (Then.r (BodyR.mkR trivial rfl [] ⟨rfl, rfl⟩ ⟨rfl, trivial, by decide, rfl, trivial, rfl⟩ rfl rfl))
 replace H := cnf hb5832 H
 refine WP.skipW ?_
 refine W.now ?_
 refine Then.n ?_
 refine WP.seq ?_
 obtain ⟨⟨x5861, x5862⟩, H5870, H⟩ := bnd H
 refine WP.monoW (Q := fun x E M => x = .normal ∧ E = (Env.none.upd 6 (.lit (.bool x5861))) ∧ M = (Mem.nil.withP 54 rdS_simfs_file x5862)) ?_ ?_
 · clear H
   have H := H5870
   clear H5870
   refine WP.region ?_
   refine WPL.q (q_mv (v := .lit (.int _ _)) rfl) rfl ?_
   refine WPL.q (q_eql rfl rfl) rfl ?_
   refine WPL.q (q_mv (v := .lit (.bool _)) rfl) rfl ?_
   refine WPL.split (t := 91) (b := (decide (x5736 = 0))) rfl (fun hb5862 => ?_) (fun hb5862 => ?_)
   · replace H := cnt hb5862 H
     refine WPL.qg rfl rfl (lb hb5862) (q_mv (v := .lit (.int _ _)) rfl) rfl ?_
     refine WPL.qg rfl rfl (lb hb5862) (q_eql rfl rfl) rfl ?_
     refine WPL.q (q_pickT (v := .lit (.bool _)) (lb hb5862) rfl) rfl ?_
     refine WPL.q (q_mv (v := .lit (.bool _)) rfl) rfl ?_
     refine WPL.split (t := 95) (b := (decide (x5810 = 0))) rfl (fun hb5863 => ?_) (fun hb5863 => ?_)
     · replace H := cnt hb5863 H
       refine WPL.qg rfl rfl (lb hb5863) (q_mv (v := .ro _ _ _) rfl) rfl ?_
       refine WPL.qg rfl rfl (lb hb5863) (q_mv (v := .ro _ _ _) rfl) rfl ?_
       obtain ⟨x5866, h5864, H⟩ := bnd H
       refine WPL.cg rfl rfl (lb hb5863) (runs_call (s := []) (t := []) (N := 10) (bor := []) fn8 rfl (s_quirelaw01_Same k x5809 x5 x5866 h5864) ⟨rfl, trivial, by decide, rfl, trivial, rfl⟩ rfl trivial (.ren rfl rfl (.ren rfl rfl .nil)) rfl trivial rfl) rfl ?_
       refine WPL.q (q_pickT (v := .lit (.bool _)) (lb hb5863) rfl) rfl ?_
       refine WPL.q (q_mv (v := .lit (.bool _)) rfl) rfl ?_
       refine WPL.split (t := 100) (b := x5866) rfl (fun hb5866 => ?_) (fun hb5866 => ?_)
       · replace H := cnt hb5866 H
         obtain ⟨⟨x5869, x5870⟩, h5867, H⟩ := bnd H
         refine WPL.cg rfl rfl (lb hb5866) (runs_call (s := []) (t := []) (N := 10) (bor := []) fn4 rfl (s_quirelaw22_alive k x5742 x5869 x5870 h5867) ⟨rfl, trivial, by decide, rfl, trivial, rfl⟩ rfl trivial .nil rfl trivial rfl) rfl ?_
         refine WPL.q (q_pickT (v := .lit (.bool _)) (lb hb5866) rfl) rfl ?_
         refine WPL.q (q_as (v := .lit (.bool _)) rfl) rfl ?_
         refine WPL.nilW ?_
         have q0 := (Prod.mk.inj (Option.some.inj H)).1
         have q1 := (Prod.mk.inj (Option.some.inj H)).2
         subst q0
         subst q1
         exact W.wk [] hnp ⟨rfl, rfl, rfl⟩ ⟨rfl, trivial, by decide, rfl, trivial, rfl⟩ (LeE.upd rfl rfl (LeE.none rfl rfl)) rfl
       replace H := cnf hb5866 H
       refine WPL.skipg (b' := false) rfl rfl (lb hb5866) rfl rfl (.inl (by simp only [SkipOk]; kernel_rfl)) ?_
       refine WPL.q (q_pickF (v := .lit (.bool _)) (lb hb5866) rfl) rfl ?_
       refine WPL.q (q_as (v := .lit (.bool _)) rfl) rfl ?_
       refine WPL.nilW ?_
       have q0 := (Prod.mk.inj (Option.some.inj H)).1
       have q1 := (Prod.mk.inj (Option.some.inj H)).2
       subst q0
       subst q1
       exact W.wk [] hnp ⟨rfl, rfl, rfl⟩ ⟨rfl, trivial, by decide, rfl, trivial, rfl⟩ (LeE.upd rfl rfl (LeE.none rfl rfl)) rfl
     replace H := cnf hb5863 H
     refine WPL.skipg (b' := false) rfl rfl (lb hb5863) rfl rfl (.inl trivial) ?_
     refine WPL.skipg (b' := false) rfl rfl (lb hb5863) rfl rfl (.inl trivial) ?_
     refine WPL.skipg (b' := false) rfl rfl (lb hb5863) rfl rfl (.inl (by simp only [SkipOk]; kernel_rfl)) ?_
     refine WPL.q (q_pickF (v := .lit (.bool _)) (lb hb5863) rfl) rfl ?_
     refine WPL.q (q_mv (v := .lit (.bool _)) rfl) rfl ?_
     refine WPL.skipg (b' := false) rfl rfl rfl rfl rfl (.inl (by simp only [SkipOk]; kernel_rfl)) ?_
     refine WPL.q (q_pickF (v := .lit (.bool _)) rfl rfl) rfl ?_
     refine WPL.q (q_as (v := .lit (.bool _)) rfl) rfl ?_
     refine WPL.nilW ?_
     have q0 := (Prod.mk.inj (Option.some.inj H)).1
     have q1 := (Prod.mk.inj (Option.some.inj H)).2
     subst q0
     subst q1
     exact W.wk [] hnp ⟨rfl, rfl, rfl⟩ ⟨rfl, trivial, by decide, rfl, trivial, rfl⟩ (LeE.upd rfl rfl (LeE.none rfl rfl)) rfl
   replace H := cnf hb5862 H
   refine WPL.skipg (b' := false) rfl rfl (lb hb5862) rfl rfl (.inl trivial) ?_
   refine WPL.skipg (b' := false) rfl rfl (lb hb5862) rfl rfl (.inl trivial) ?_
   refine WPL.q (q_pickF (v := .lit (.bool _)) (lb hb5862) rfl) rfl ?_
   refine WPL.q (q_mv (v := .lit (.bool _)) rfl) rfl ?_
   refine WPL.skipg (b' := false) rfl rfl rfl rfl rfl (.inl trivial) ?_
   refine WPL.skipg (b' := false) rfl rfl rfl rfl rfl (.inl trivial) ?_
   refine WPL.skipg (b' := false) rfl rfl rfl rfl rfl (.inl (by simp only [SkipOk]; kernel_rfl)) ?_
   refine WPL.q (q_pickF (v := .lit (.bool _)) rfl rfl) rfl ?_
   refine WPL.q (q_mv (v := .lit (.bool _)) rfl) rfl ?_
   refine WPL.skipg (b' := false) rfl rfl rfl rfl rfl (.inl (by simp only [SkipOk]; kernel_rfl)) ?_
   refine WPL.q (q_pickF (v := .lit (.bool _)) rfl rfl) rfl ?_
   refine WPL.q (q_as (v := .lit (.bool _)) rfl) rfl ?_
   refine WPL.nilW ?_
   have q0 := (Prod.mk.inj (Option.some.inj H)).1
   have q1 := (Prod.mk.inj (Option.some.inj H)).2
   subst q0
   subst q1
   exact W.wk [] hnp ⟨rfl, rfl, rfl⟩ ⟨rfl, trivial, by decide, rfl, trivial, rfl⟩ (LeE.upd rfl rfl (LeE.none rfl rfl)) rfl
 rintro _ _ _ ⟨rfl, rfl, rfl⟩
 refine W.now ?_
 refine Then.n ?_
 refine WP.retW ?_
 have q0 := (Prod.mk.inj (Option.some.inj H)).1
 have q1 := (Prod.mk.inj (Option.some.inj H)).2
 subst q0
 subst q1
 exact W.now (BodyR.mkR trivial rfl [] ⟨rfl, rfl⟩ ⟨rfl, trivial, by decide, rfl, trivial, rfl⟩ rfl rfl)
end Go.Proofs.Ytcaeafojgehamaa.W
namespace Go.Proofs.Ytcaeafojgehamaa.W
open Go Go.Q Go.Proofs
set_option linter.unusedVariables false
set_option linter.unusedSimpArgs false
theorem tS {b x : Bool} : (bif b then some true else some x) = some (b || x) := by cases b <;> rfl
def badC (c : Nat) : Bool := decide (c < 33) || (decide (126 < c) || decide (c = 47))
theorem name1 (k c : Nat) : g_simfs_Name_1 k (c : Int) = some (badC c) := by
  unfold g_simfs_Name_1 badC
  rw [show decide ((c : Int) < 33) = decide (c < 33) by congr 1; exact propext (by omega), show decide ((126 : Int) < c) = decide (126 < c) by congr 1; exact propext (by omega), show decide ((c : Int) = 47) = decide (c = 47) by congr 1; exact propext (by omega)]
  simp only [tS, Option.bind_some]
theorem decL_bad {l : List UInt8} (h0 : 0 < l.length) : if byt l 0 < 128 then decL l = (byt l 0, 1) else 126 < (decL l).1 := by
  split
  · rename_i h
    exact decL_of (.inl ⟨rfl, by omega, rfl, h⟩)
  · rename_i h
    rcases decL_cases h0 with q | ⟨q, _⟩
    · unfold okL at q; omega
    · rw [q]; decide
theorem index_go (k : Nat) (x : ByteArray) : ∀ (n p : Nat), p ≤ (L x).length → (L x).length - p < n →
    (∃ j : Nat, g_strings_indexFunc_l0 k x true n p = some (Sum.inl (j : Int)) ∧ ∃ c ∈ (L x).drop p, badC c.toNat = true) ∨ (g_strings_indexFunc_l0 k x true n p = some (Sum.inr ()) ∧ ∀ c ∈ (L x).drop p, badC c.toNat = false) := by
  intro n
  induction n with
  | zero => intro p _ h; omega
  | succ n ih =>
    intro p hp hn
    rw [g_strings_indexFunc_l0.eq_2, decode_L, L_size]
    by_cases h : p < (L x).length
    · have hl : 0 < ((L x).drop p).length := by rw [List.length_drop]; omega
      have hb := decL_bad hl
      have e0 : byt ((L x).drop p) 0 = (L x)[p].toNat := by simp [byt_drop, byt, List.getD_eq_getElem?_getD, List.getElem?_eq_getElem h]
      have ed : (L x).drop p = (L x)[p] :: (L x).drop (p + 1) := List.drop_eq_getElem_cons h
      rw [dt h, name1]
      simp only [bt, Option.bind_some]
      by_cases hbd : badC (L x)[p].toNat = true
      · have : badC (decL ((L x).drop p)).1 = true := by
          split at hb
          · rw [hb, e0]; exact hbd
          · unfold badC; simp [hb]
        rw [this]
        simp only [beq_self_eq_true, bt]
        exact .inl ⟨p, rfl, _, by rw [ed]; exact List.mem_cons_self .., hbd⟩
      · have hlt : byt ((L x).drop p) 0 < 128 := by
          by_cases hc : byt ((L x).drop p) 0 < 128
          · exact hc
          · exfalso; apply hbd; unfold badC; rw [← e0]; simp; omega
        rw [if_pos hlt] at hb
        have hbf : badC (L x)[p].toNat = false := by simpa using hbd
        rw [hb, e0, hbf]
        simp only [show (false == true) = false from rfl, bf]
        rcases ih (p + 1) (by omega) (by omega) with ⟨j, q1, c, q2, q3⟩ | ⟨q1, q2⟩
        · exact .inl ⟨j, q1, c, by rw [ed]; exact List.mem_cons_of_mem _ q2, q3⟩
        · refine .inr ⟨q1, fun c hc => ?_⟩
          rw [ed] at hc
          rcases List.mem_cons.1 hc with rfl | hc
          · exact hbf
          · exact q2 c hc
    · rw [df h]
      exact .inr ⟨rfl, fun c hc => by rw [List.drop_of_length_le (by omega)] at hc; simp at hc⟩
def anyBad (l : List UInt8) : Bool := l.any fun c => badC c.toNat
theorem contains_eq (k : Nat) (x : ByteArray) (hk : (L x).length < k) : g_strings_ContainsFunc k x = some (anyBad (L x)) := by
  unfold g_strings_ContainsFunc g_strings_IndexFunc g_strings_indexFunc
  rcases index_go k x k 0 (Nat.zero_le _) (by omega) with ⟨j, q1, c, q2, q3⟩ | ⟨q1, q2⟩
  · rw [q1]
    simp only [Option.bind_some]
    rw [dt (by omega)]
    congr 1; symm
    exact List.any_eq_true.2 ⟨c, by simpa using q2, q3⟩
  · rw [q1]
    simp only [Option.bind_some]
    rw [df (by decide)]
    congr 1; symm
    rw [anyBad, List.any_eq_false]
    intro c hc
    rw [q2 c (by simpa using hc)]; decide
/-- Which texts are names of files. -/
def nameL (l : List UInt8) : Bool := !decide (l = []) && (decide (l.length ≤ 64) && !anyBad l)
theorem name_eq (k : Nat) (hk : 100 ≤ k) (x : ByteArray) : g_simfs_Name k x = some (nameL (L x)) := by
  unfold g_simfs_Name nameL
  rw [beq_toList, show L (ByteArray.mk #[]) = [] from rfl, L_size, show decide (((List.length (L x) : Nat) : Int) ≤ 64) = decide ((L x).length ≤ 64) by congr 1; exact propext (by omega)]
  simp only [Option.bind_some]
  cases h1 : (!decide (L x = [])) with
  | false => rfl
  | true =>
    simp only [bt, Option.bind_some]
    by_cases h2 : (L x).length ≤ 64
    · rw [dt h2, contains_eq k x (by omega)]
      simp
    · rw [df h2]; rfl
def badN (n : ByteArray) : Bool := !nameL (L n)
theorem step1 (k : Nat) (hk : 100 ≤ k) (x : ByteArray) : g_simfs_Disk_step_1 k x = some (badN x) := by
  unfold g_simfs_Disk_step_1; rw [name_eq k hk]; rfl
theorem any0 (k : Nat) (hk : 100 ≤ k) : g_slices_ContainsFunc_string_string k [] = some false := by
  obtain ⟨k, rfl⟩ : ∃ n, k = n + 3 := ⟨k - 3, by omega⟩
  rfl
theorem any1 (k : Nat) (hk : 100 ≤ k) (x : ByteArray) : g_slices_ContainsFunc_string_string k [x] = some (badN x) := by
  unfold g_slices_ContainsFunc_string_string g_slices_IndexFunc_string_string
  obtain ⟨n, hn⟩ : ∃ n, k = n + 3 := ⟨k - 3, by omega⟩
  have hl : g_slices_IndexFunc_string_string_l0 k [x] k 0 = if badN x = true then some (Sum.inl 0) else some (Sum.inr ()) := by
    conv => lhs; arg 3; rw [hn]
    rw [g_slices_IndexFunc_string_string_l0.eq_2]
    simp only [List.length_cons, List.length_nil, Option.bind_some]
    rw [dt (by decide), bt, show ix [x] 0 = some x from rfl, Option.bind_some, step1 k hk, Option.bind_some]
    cases badN x with
    | true => rfl
    | false =>
      rw [bf, if_neg (by decide), g_slices_IndexFunc_string_string_l0.eq_2]
      rfl
  rw [hl]
  cases badN x <;> rfl
theorem any2 (k : Nat) (hk : 100 ≤ k) (x y : ByteArray) : g_slices_ContainsFunc_string_string k [x, y] = some (badN x || badN y) := by
  unfold g_slices_ContainsFunc_string_string g_slices_IndexFunc_string_string
  obtain ⟨n, hn⟩ : ∃ n, k = n + 3 := ⟨k - 3, by omega⟩
  have hl : g_slices_IndexFunc_string_string_l0 k [x, y] k 0 = if badN x = true then some (Sum.inl 0) else if badN y = true then some (Sum.inl 1) else some (Sum.inr ()) := by
    conv => lhs; arg 3; rw [hn]
    rw [g_slices_IndexFunc_string_string_l0.eq_2]
    simp only [List.length_cons, List.length_nil, Option.bind_some]
    rw [dt (by decide), bt, show ix [x, y] 0 = some x from rfl, Option.bind_some, step1 k hk, Option.bind_some]
    cases badN x with
    | true => rfl
    | false =>
      rw [bf, if_neg (by decide), show IntKind.wrap .i64 (0 + 1) = 1 from rfl, g_slices_IndexFunc_string_string_l0.eq_2]
      simp only [List.length_cons, List.length_nil, Option.bind_some]
      rw [dt (by decide), bt, show ix [x, y] 1 = some y from rfl, Option.bind_some, step1 k hk, Option.bind_some]
      cases badN y with
      | true => rfl
      | false =>
        rw [bf, if_neg (by decide), g_slices_IndexFunc_string_string_l0.eq_2]
        rfl
  rw [hl]
  cases badN x <;> cases badN y <;> rfl
abbrev Dir := List (ByteArray × Option Nat)
/-- A disk, with all files that there are. -/
structure Dk where
  room : Int
  plan : List (Int × Int)
  steps : Int
  down : Bool
  dir : Dir
  safe : Dir
  files : List (Option Nat)
  pend : List S_simfs_entry
  pool : List S_simfs_file
/-- The errors ahead of a call: the error, the steps, whether it is down. -/
def stepF (bad : Bool) (plan : List (Int × Int)) (steps : Int) (down : Bool) : Int × Int × Bool :=
  if down = true then (62, steps, down) else if bad = true then (42, steps, down) else
  if (mapGet plan (steps + 1)).getD 0 = 1 then (61, steps + 1, down) else if (mapGet plan (steps + 1)).getD 0 = 2 then (60, steps + 1, down) else if (mapGet plan (steps + 1)).getD 0 = 3 then (62, steps + 1, true) else (0, steps + 1, down)
theorem step_eq (k : Nat) {names : List ByteArray} {bad : Bool} (hb : g_slices_ContainsFunc_string_string k names = some bad) (room : Int) (plan : List (Int × Int)) {steps : Int} (h0 : 0 ≤ steps) (h1 : steps < 4611686018427387904) (down : Bool) (dir safe : Dir) (files : List (Option Nat)) (pend : List S_simfs_entry) :
    g_simfs_Disk_step k names room plan steps down dir safe files pend = some (stepF bad plan steps down) := by
  unfold g_simfs_Disk_step stepF
  rw [hb, wi (by omega) (by omega)]
  cases down with
  | true => rfl
  | false =>
    cases bad with
    | true => rfl
    | false =>
      simp only [bf, Option.bind_some, bd, Bool.false_eq_true, if_false]
      split
      · rfl
      · split
        · rfl
        · split <;> rfl
theorem stepF_st (bad : Bool) (plan : List (Int × Int)) {steps : Int} (down : Bool) : steps ≤ (stepF bad plan steps down).2.1 ∧ (stepF bad plan steps down).2.1 ≤ steps + 1 := by
  unfold stepF
  repeat' split
  all_goals constructor <;> simp only <;> omega
/-- A step on a file that must be there. -/
def thereF (bad : Bool) (plan : List (Int × Int)) (steps : Int) (down : Bool) (dir : Dir) (n : ByteArray) : (Int × Int × Bool) ⊕ (Nat × Int × Bool) :=
  if (stepF bad plan steps down).1 = 0 then match (mapGet dir n).getD none with
    | none => .inl (63, (stepF bad plan steps down).2)
    | some p => .inr (p, (stepF bad plan steps down).2)
  else .inl (stepF bad plan steps down)
theorem there_eq (k : Nat) {n : ByteArray} {names : List ByteArray} {bad : Bool} (hb : g_slices_ContainsFunc_string_string k (n :: names) = some bad) (room : Int) (plan : List (Int × Int)) {steps : Int} (h0 : 0 ≤ steps) (h1 : steps < 4611686018427387904) (down : Bool) (dir safe : Dir) (files : List (Option Nat)) (pend : List S_simfs_entry) :
    g_simfs_Disk_there k (n :: names) room plan steps down dir safe files pend = some (match thereF bad plan steps down dir n with | .inl r => .inl r | .inr (p, s, d) => .inr (some p, s, d)) := by
  unfold g_simfs_Disk_there thereF
  rw [step_eq k hb room plan h0 h1, Option.bind_some, show ix (n :: names) 0 = some n from rfl]
  generalize stepF bad plan steps down = r
  obtain ⟨e, s, d⟩ := r
  simp only [bnd', Option.bind_some]
  by_cases h : e = 0
  · subst h
    rw [if_pos rfl, if_pos rfl]
    cases (mapGet dir n).getD none <;> rfl
  · rw [if_neg h, if_neg h]
end Go.Proofs.Ytcaeafojgehamaa.W
namespace Go.Proofs.Ytcaeafojgehamaa.W
open Go Go.Q Go.Proofs
set_option linter.unusedVariables false
set_option linter.unusedSimpArgs false
/-- How many bytes a file has now. -/
def lenP (pool : List S_simfs_file) (p : Nat) : Nat := match pool[p]? with
  | some f => f.fnow.length
  | none => 0
def lenE (pool : List S_simfs_file) (e : ByteArray × Option Nat) : Nat := match e.2 with
  | some p => lenP pool p
  | none => 0
def Dk.used (d : Dk) : Nat := (d.dir.map (lenE d.pool)).sum
def Dk.st (d : Dk) (r : Int × Bool) : Dk := { d with steps := r.1, down := r.2 }
/-- What is done to a directory. -/
def toF (gone name : ByteArray) (f : Option Nat) (dir : Dir) : Dir := if f.isSome = true then dIns ltStr (dDel dir gone) name f else dDel dir gone
def Dk.step1 (d : Dk) (n : ByteArray) : Int × Int × Bool := stepF (badN n) d.plan d.steps d.down
def Dk.change (d : Dk) (r : Int × Bool) (gone name : ByteArray) (f : Option Nat) : Dk := { d.st r with dir := toF gone name f d.dir, pend := d.pend ++ [⟨gone, name, f⟩] }
def Dk.create (d : Dk) (n : ByteArray) : Int × Dk :=
  if (d.step1 n).1 = 0 then
    if (mapGet d.dir n).getD none = none ∧ 8 ≤ d.dir.length then (3, d.st (d.step1 n).2)
    else (0, { d.change (d.step1 n).2 (ByteArray.mk #[]) n (some d.pool.length) with files := d.files ++ [some d.pool.length], pool := d.pool ++ [⟨[], []⟩] })
  else ((d.step1 n).1, d.st (d.step1 n).2)
def putNow (pool : List S_simfs_file) (p : Nat) (data : List Int) : List S_simfs_file := match pool[p]? with
  | some f => pool.set p ⟨f.fnow ++ data, f.fsafe⟩
  | none => pool
def putSafe (pool : List S_simfs_file) (p : Nat) : List S_simfs_file := match pool[p]? with
  | some f => pool.set p ⟨f.fnow, f.fnow⟩
  | none => pool
def Dk.there (d : Dk) (n : ByteArray) : (Int × Int × Bool) ⊕ (Nat × Int × Bool) := thereF (badN n) d.plan d.steps d.down d.dir n
def Dk.write (d : Dk) (n : ByteArray) (data : List Int) : Int × Dk := match d.there n with
  | .inl r => (r.1, d.st r.2)
  | .inr r => if d.room - (d.used : Int) < (data.length : Int) then (60, d.st r.2) else (0, { d.st r.2 with pool := putNow d.pool r.1 data })
def Dk.fsync (d : Dk) (n : ByteArray) : Int × Dk := match d.there n with
  | .inl r => (r.1, d.st r.2)
  | .inr r => (0, { d.st r.2 with pool := putSafe d.pool r.1 })
def Dk.rename (d : Dk) (n o : ByteArray) : Int × Dk := match thereF (badN n || badN o) d.plan d.steps d.down d.dir n with
  | .inl r => (r.1, d.st r.2)
  | .inr r => (0, d.change r.2 n o (some r.1))
def Dk.remove (d : Dk) (n : ByteArray) : Int × Dk := match d.there n with
  | .inl r => (r.1, d.st r.2)
  | .inr r => (0, d.change r.2 n (ByteArray.mk #[]) none)
def Dk.dirsync (d : Dk) : Int × Dk :=
  if (stepF false d.plan d.steps d.down).1 = 0 then (0, { d.st (stepF false d.plan d.steps d.down).2 with safe := d.dir, pend := [] }) else ((stepF false d.plan d.steps d.down).1, d.st (stepF false d.plan d.steps d.down).2)
def Dk.read (d : Dk) (n : ByteArray) : (Int × List Int) × Dk := match d.there n with
  | .inl r => ((r.1, []), d.st r.2)
  | .inr r => ((0, match d.pool[r.1]? with
    | some f => f.fnow
    | none => []), d.st r.2)
/-- What holds of numbers and lengths. -/
structure Bd (d : Dk) : Prop where
  s0 : 0 ≤ d.steps
  s1 : d.steps < 4611686018427387904
  fl : d.files.length < 2199023255552
  pe : d.pend.length < 2199023255552
  r0 : 0 ≤ d.room
  r1 : d.room ≤ 1073741824
  dl : d.dir.length ≤ 8
  dp : ∀ e ∈ d.dir, ∃ p, e.2 = some p ∧ p < d.pool.length
  pl : ∀ f ∈ d.pool, f.fnow.length ≤ 1073741824 ∧ f.fsafe.length ≤ 1073741824
theorem to_eq (k : Nat) (gone name : ByteArray) (f : Option Nat) (dir : Dir) : g_simfs_entry_to k gone name f dir = some (toF gone name f dir) := by
  unfold g_simfs_entry_to toF
  cases f <;> rfl
theorem change_eq (k : Nat) (gone name : ByteArray) (f : Option Nat) (room : Int) (plan : List (Int × Int)) (steps : Int) (down : Bool) (dir safe : Dir) (files : List (Option Nat)) {pend : List S_simfs_entry} (h : pend.length < 2199023255552) :
    g_simfs_Disk_change k gone name f room plan steps down dir safe files pend = some (toF gone name f dir) := by
  unfold g_simfs_Disk_change
  rw [to_eq, Option.bind_some, dt (by simp only [List.length_cons, List.length_nil]; omega), bt]
theorem changeb_eq (k : Nat) (gone name : ByteArray) (room : Int) (plan : List (Int × Int)) (steps : Int) (down : Bool) (dir safe : Dir) (files : List (Option Nat)) {pend : List S_simfs_entry} (h : pend.length < 2199023255552) :
    g_simfs_Disk_change__b k gone name room plan steps down dir safe files pend = some () := by
  unfold g_simfs_Disk_change__b g_simfs_entry_to__b
  rw [Option.bind_some, dt (by simp only [List.length_cons, List.length_nil]; omega), bt]
theorem create_eq (k : Nat) (hk : 100 ≤ k) {d : Dk} (h : Bd d) (n : ByteArray) : g_simfs_Disk_Create k n d.room d.plan d.steps d.down d.dir d.safe d.files d.pend d.pool =
    some ((d.create n).1, (d.create n).2.steps, (d.create n).2.down, (d.create n).2.dir, (d.create n).2.files, (d.create n).2.pend, (d.create n).2.pool) := by
  unfold g_simfs_Disk_Create Dk.create
  rw [step_eq k (any1 k hk n) d.room d.plan h.s0 h.s1, Option.bind_some]
  show _ = _
  have e1 : d.step1 n = stepF (badN n) d.plan d.steps d.down := rfl
  rw [e1]
  generalize stepF (badN n) d.plan d.steps d.down = r
  obtain ⟨e, s, dn⟩ := r
  simp only [bnd', Option.bind_some]
  by_cases he : e = 0
  · subst he
    simp only [if_true]
    have hf : (bif Option.isNone ((mapGet d.dir n).getD none) then some (decide (8 ≤ ((d.dir.length : Nat) : Int))) else some false) = some (decide ((mapGet d.dir n).getD none = none ∧ 8 ≤ d.dir.length)) := by
      cases hg : (mapGet d.dir n).getD none with
      | none =>
        simp only [Option.isNone_none, bt, true_and]
        congr 2
        exact propext (by omega)
      | some p => rfl
    rw [hf, Option.bind_some]
    by_cases hc : (mapGet d.dir n).getD none = none ∧ 8 ≤ d.dir.length
    · rw [dt hc, if_pos hc]; rfl
    · have hfl := h.fl
      rw [df hc, if_neg hc, bf, dt (by simp only [List.length_cons, List.length_nil]; omega), bt, change_eq k _ _ _ _ _ _ _ _ _ _ h.pe]
      rfl
  · rw [if_neg he, if_neg he]
    rfl
theorem lenE_le {d : Dk} (h : Bd d) (e : ByteArray × Option Nat) : lenE d.pool e ≤ 1073741824 := by
  unfold lenE lenP
  split
  · split
    · rename_i f hf; exact (h.pl f (List.mem_of_getElem? hf)).1
    · exact Nat.zero_le _
  · exact Nat.zero_le _
theorem sum_le {d : Dk} (h : Bd d) : ∀ (l : Dir), (l.map (lenE d.pool)).sum ≤ l.length * 1073741824
  | [] => by simp
  | e :: l => by
    have := sum_le h l
    have := lenE_le h e
    simp only [List.map_cons, List.sum_cons, List.length_cons]
    omega
theorem used_le {d : Dk} (h : Bd d) : d.used ≤ 8589934592 := by
  have h1 := sum_le h d.dir
  have h2 := h.dl
  unfold Dk.used
  omega
theorem sum_perm {f : ByteArray × Option Nat → Nat} {l l' : Dir} (h : l.Perm l') : (l.map f).sum = (l'.map f).sum := (h.map f).sum_nat
theorem write_l1 (k : Nat) (pool : List S_simfs_file) (hp : ∀ f ∈ pool, f.fnow.length ≤ 1073741824) : ∀ (n : Nat) (left : Int) (rem : Dir), rem.length < n → (∀ e ∈ rem, ∃ p, e.2 = some p ∧ p < pool.length) → rem.length ≤ 100 → -1000000000000 ≤ left - ((rem.map (lenE pool)).sum : Int) → left ≤ 1000000000000 →
    g_simfs_Disk_Write_l1 k pool n left rem = some (left - ((rem.map (lenE pool)).sum : Int))
  | 0, _, _, h, _, _, _, _ => by omega
  | n + 1, left, rem, hn, he, hl, h1, h2 => by
    rw [g_simfs_Disk_Write_l1.eq_2]
    cases rem with
    | nil => simp
    | cons x rem =>
      rw [show List.isEmpty (x :: rem) = false from rfl, bf]
      refine demonP_of (picks_ne (by simp)) fun a c hac => ?_
      have hP := picks_perm hac
      obtain ⟨p, hp1, hp2⟩ := he a (hP.mem_iff.1 (by simp))
      have hs := sum_perm (f := lenE pool) hP
      have hlen := hP.length_eq
      simp only [List.map_cons, List.sum_cons, List.length_cons] at hs hlen hn hl h1
      have hle : lenE pool a = (pool[p]'hp2).fnow.length := by
        unfold lenE lenP
        rw [hp1]
        simp only
        rw [List.getElem?_eq_getElem hp2]
      rw [hp1, Option.bind_some, List.getElem?_eq_getElem hp2, Option.bind_some, Option.bind_some]
      have hfl := hp _ (List.getElem_mem hp2)
      rw [wi (by omega) (by omega), write_l1 k pool hp n _ c (by omega) (fun e hec => he e (hP.mem_iff.1 (List.mem_cons_of_mem _ hec))) (by omega) (by omega) (by omega)]
      simp only [List.map_cons, List.sum_cons]
      congr 1
      omega
theorem grow_eq (k : Nat) (n : Int) (h0 : 0 ≤ n) (h1 : n ≤ 4294967296) : g_slices_Grow_byte_byte k n = some [] := by
  unfold g_slices_Grow_byte_byte
  rw [df (by omega), bf, show IntKind.wrap .i64 (0 - 0) = 0 from rfl, wi (by omega) (by omega), Int.sub_zero]
  simp only [Option.bind_some]
  by_cases h : 0 < n
  · rw [dt h, bt, dt (by omega), bt, dt ⟨Int.le_refl _, Int.natCast_nonneg _⟩, bt]
    rfl
  · rw [df h, bf]
    rfl
theorem concat_eq (k : Nat) (hk : 100 ≤ k) (a b : List Int) (ha : a.length ≤ 2147483648) (hb : b.length ≤ 2147483648) : g_slices_Concat_byte_byte k [a, b] = some (a ++ b) := by
  unfold g_slices_Concat_byte_byte
  obtain ⟨n, hn⟩ : ∃ n, k = n + 3 := ⟨k - 3, by omega⟩
  have l0 : g_slices_Concat_byte_byte_l0 k [a, b] k 0 0 = some ((a.length : Int) + b.length) := by
    conv => lhs; arg 3; rw [hn]
    rw [g_slices_Concat_byte_byte_l0.eq_2]
    simp only [List.length_cons, List.length_nil, Option.bind_some]
    rw [dt (by decide), bt, show ix [a, b] 0 = some a from rfl, Option.bind_some, Int.zero_add, wi (by omega) (by omega), df (by omega), bf, show IntKind.wrap .i64 (0 + 1) = 1 from rfl, g_slices_Concat_byte_byte_l0.eq_2]
    simp only [List.length_cons, List.length_nil, Option.bind_some]
    rw [dt (by decide), bt, show ix [a, b] 1 = some b from rfl, Option.bind_some, wi (n := (a.length : Int) + b.length) (by omega) (by omega), df (by omega), bf, show IntKind.wrap .i64 (1 + 1) = 2 from rfl, g_slices_Concat_byte_byte_l0.eq_2]
    rfl
  have l1 : g_slices_Concat_byte_byte_l1 k [a, b] k 0 [] = some (a ++ b) := by
    conv => lhs; arg 3; rw [hn]
    rw [g_slices_Concat_byte_byte_l1.eq_2]
    simp only [List.length_cons, List.length_nil, Option.bind_some]
    rw [dt (by decide), bt, show ix [a, b] 0 = some a from rfl, Option.bind_some, dt (by omega), bt, show IntKind.wrap .i64 (0 + 1) = 1 from rfl, g_slices_Concat_byte_byte_l1.eq_2]
    simp only [List.length_cons, List.length_nil, Option.bind_some, List.nil_append]
    rw [dt (by decide), bt, show ix [a, b] 1 = some b from rfl, Option.bind_some, dt (by omega), bt, show IntKind.wrap .i64 (1 + 1) = 2 from rfl, g_slices_Concat_byte_byte_l1.eq_2]
    rfl
  rw [l0, Option.bind_some, grow_eq k _ (by omega) (by omega), Option.bind_some, l1]
  rfl
theorem there_p {d : Dk} (h : Bd d) {n : ByteArray} {bad : Bool} {p : Nat} {r : Int × Bool} (ht : thereF bad d.plan d.steps d.down d.dir n = .inr (p, r)) : p < d.pool.length ∧ (n, some p) ∈ d.dir := by
  unfold thereF at ht
  split at ht
  · split at ht
    · cases ht
    · rename_i q hq
      cases ht
      cases hm : mapGet d.dir n with
      | none => rw [hm] at hq; cases hq
      | some v =>
        rw [hm] at hq
        simp at hq
        subst hq
        have : ∀ {l : Dir}, mapGet l n = some (some p) → (n, some p) ∈ l := by
          intro l
          induction l with
          | nil => intro h; cases h
          | cons e l ih =>
            intro h
            rw [mapGet_cons] at h
            split at h
            · rename_i he
              have h2 : e.2 = some p := Option.some.inj h
              have : e = (n, some p) := by rw [he, ← h2]
              rw [← this]; simp
            · exact List.mem_cons_of_mem _ (ih h)
        have hmem := this hm
        obtain ⟨q, h1, h2⟩ := h.dp _ hmem
        cases h1
        exact ⟨h2, hmem⟩
  · cases ht
end Go.Proofs.Ytcaeafojgehamaa.W
namespace Go.Proofs.Ytcaeafojgehamaa.W
open Go Go.Q Go.Proofs
set_option linter.unusedVariables false
set_option linter.unusedSimpArgs false
theorem thereF_ne {bad : Bool} {plan : List (Int × Int)} {steps : Int} {down : Bool} {dir : Dir} {n : ByteArray} {r : Int × Int × Bool} (ht : thereF bad plan steps down dir n = .inl r) : r.1 ≠ 0 := by
  unfold thereF at ht
  split at ht
  · split at ht
    · cases ht; simp
    · cases ht
  · rename_i h; cases ht; exact h
theorem write_eq (k : Nat) (hk : 100 ≤ k) {d : Dk} (h : Bd d) (n : ByteArray) (data : List Int) : g_simfs_Disk_Write k n data d.room d.plan d.steps d.down d.dir d.safe d.files d.pend d.pool =
    some ((d.write n data).1, (d.write n data).2.steps, (d.write n data).2.down, (d.write n data).2.pool) := by
  unfold g_simfs_Disk_Write Dk.write
  rw [there_eq k (any1 k hk n) d.room d.plan h.s0 h.s1, Option.bind_some]
  have e1 : d.there n = thereF (badN n) d.plan d.steps d.down d.dir n := rfl
  rw [e1]
  have hu := used_le h
  have hr0 := h.r0
  have hr1 := h.r1
  have hdl := h.dl
  cases ht : thereF (badN n) d.plan d.steps d.down d.dir n with
  | inl r =>
    obtain ⟨e, s, dn⟩ := r
    have he : e ≠ 0 := thereF_ne ht
    simp only [bnd', if_neg he]
    rfl
  | inr r =>
    obtain ⟨p, s, dn⟩ := r
    obtain ⟨hp, _⟩ := there_p h ht
    simp only
    rw [write_l1 k d.pool (fun f hf => (h.pl f hf).1) k d.room d.dir (by omega) h.dp (by omega) (by unfold Dk.used at hu; omega) (by omega)]
    simp only [Option.bind_some]
    rw [show ((d.dir.map (lenE d.pool)).sum : Int) = (d.used : Int) from rfl]
    by_cases hc : d.room - (d.used : Int) < (data.length : Int)
    · rw [dt hc, if_pos hc]; rfl
    · have hpl := (h.pl _ (List.getElem_mem hp)).1
      rw [df hc, if_neg hc, bf, List.getElem?_eq_getElem hp, Option.bind_some, concat_eq k hk _ _ (by omega) (by omega)]
      simp only [Option.bind_some, putNow, List.getElem?_eq_getElem hp]
      rfl
theorem fsync_eq (k : Nat) (hk : 100 ≤ k) {d : Dk} (h : Bd d) (n : ByteArray) : g_simfs_Disk_Fsync k n d.room d.plan d.steps d.down d.dir d.safe d.files d.pend d.pool =
    some ((d.fsync n).1, (d.fsync n).2.steps, (d.fsync n).2.down, (d.fsync n).2.pool) := by
  unfold g_simfs_Disk_Fsync Dk.fsync
  rw [there_eq k (any1 k hk n) d.room d.plan h.s0 h.s1, Option.bind_some]
  have e1 : d.there n = thereF (badN n) d.plan d.steps d.down d.dir n := rfl
  rw [e1]
  cases ht : thereF (badN n) d.plan d.steps d.down d.dir n with
  | inl r =>
    obtain ⟨e, s, dn⟩ := r
    have he : e ≠ 0 := thereF_ne ht
    simp only [bd, if_neg he]
    rfl
  | inr r =>
    obtain ⟨p, s, dn⟩ := r
    obtain ⟨hp, _⟩ := there_p h ht
    simp only [Option.bind_some, List.getElem?_eq_getElem hp, putSafe]
    rfl
theorem rename_eq (k : Nat) (hk : 100 ≤ k) {d : Dk} (h : Bd d) (n o : ByteArray) : g_simfs_Disk_Rename k n o d.room d.plan d.steps d.down d.dir d.safe d.files d.pend =
    some ((d.rename n o).1, (d.rename n o).2.steps, (d.rename n o).2.down, (d.rename n o).2.dir, (d.rename n o).2.pend) := by
  unfold g_simfs_Disk_Rename Dk.rename
  rw [there_eq k (any2 k hk n o) d.room d.plan h.s0 h.s1, Option.bind_some]
  cases ht : thereF (badN n || badN o) d.plan d.steps d.down d.dir n with
  | inl r =>
    obtain ⟨e, s, dn⟩ := r
    have he : e ≠ 0 := thereF_ne ht
    simp only [bd, if_neg he]
    rfl
  | inr r =>
    obtain ⟨p, s, dn⟩ := r
    simp only
    rw [change_eq k _ _ _ _ _ _ _ _ _ _ h.pe]
    rfl
theorem remove_eq (k : Nat) (hk : 100 ≤ k) {d : Dk} (h : Bd d) (n : ByteArray) : g_simfs_Disk_Remove k n d.room d.plan d.steps d.down d.dir d.safe d.files d.pend =
    some ((d.remove n).1, (d.remove n).2.steps, (d.remove n).2.down, (d.remove n).2.dir, (d.remove n).2.pend) := by
  unfold g_simfs_Disk_Remove Dk.remove
  rw [there_eq k (any1 k hk n) d.room d.plan h.s0 h.s1, Option.bind_some]
  have e1 : d.there n = thereF (badN n) d.plan d.steps d.down d.dir n := rfl
  rw [e1]
  cases ht : thereF (badN n) d.plan d.steps d.down d.dir n with
  | inl r =>
    obtain ⟨e, s, dn⟩ := r
    have he : e ≠ 0 := thereF_ne ht
    simp only [bd, if_neg he]
    rfl
  | inr r =>
    obtain ⟨p, s, dn⟩ := r
    simp only
    rw [changeb_eq k _ _ _ _ _ _ _ _ _ h.pe]
    rfl
theorem dirsync_eq (k : Nat) (hk : 100 ≤ k) {d : Dk} (h : Bd d) : g_simfs_Disk_Dirsync k d.room d.plan d.steps d.down d.dir d.safe d.files d.pend =
    some (if (d.dirsync).1 = 0 then .inl ((d.dirsync).1, (d.dirsync).2.steps, (d.dirsync).2.down) else .inr ((d.dirsync).1, (d.dirsync).2.steps, (d.dirsync).2.down)) := by
  unfold g_simfs_Disk_Dirsync Dk.dirsync
  rw [step_eq k (any0 k hk) d.room d.plan h.s0 h.s1, Option.bind_some]
  generalize stepF false d.plan d.steps d.down = r
  obtain ⟨e, s, dn⟩ := r
  simp only [bd, g_maps_Clone_map_string_simfs_file_string_simfs_file, Option.bind_some]
  by_cases he : e = 0
  · subst he; rfl
  · simp only [if_neg he]; rfl
theorem clone_eq (k : Nat) (a : List Int) (ha : a.length ≤ 2147483648) : g_slices_Clone_byte_byte k a = some a := by
  unfold g_slices_Clone_byte_byte
  rw [dt (by simp only [List.length_nil]; omega), bt]
theorem read_eq (k : Nat) (hk : 100 ≤ k) {d : Dk} (h : Bd d) (n : ByteArray) : g_simfs_Disk_Read k n d.room d.plan d.steps d.down d.dir d.safe d.files d.pend d.pool =
    some ((d.read n).1.2, (d.read n).1.1, (d.read n).2.steps, (d.read n).2.down) := by
  unfold g_simfs_Disk_Read Dk.read
  rw [there_eq k (any1 k hk n) d.room d.plan h.s0 h.s1, Option.bind_some]
  have e1 : d.there n = thereF (badN n) d.plan d.steps d.down d.dir n := rfl
  rw [e1]
  cases ht : thereF (badN n) d.plan d.steps d.down d.dir n with
  | inl r =>
    obtain ⟨e, s, dn⟩ := r
    have he : e ≠ 0 := thereF_ne ht
    simp only [bnd', if_neg he]
    rfl
  | inr r =>
    obtain ⟨p, s, dn⟩ := r
    obtain ⟨hp, _⟩ := there_p h ht
    have hpl := (h.pl _ (List.getElem_mem hp)).1
    simp only [Option.bind_some, List.getElem?_eq_getElem hp]
    rw [clone_eq k _ (by omega)]
    rfl
/-- What a boot leaves of a file. -/
def bootF (kept : List Int) (i : Nat) (f : S_simfs_file) : S_simfs_file := match kept[i]? with
  | some c => if (f.fsafe.length : Int) < c then ⟨f.fnow.take (min c.toNat f.fnow.length), f.fnow.take (min c.toNat f.fnow.length)⟩ else ⟨f.fsafe, f.fsafe⟩
  | none => ⟨f.fsafe, f.fsafe⟩
def bootP (kept : List Int) : Nat → List (Option Nat) → List S_simfs_file → List S_simfs_file
  | _, [], pool => pool
  | i, none :: l, pool => bootP kept (i + 1) l pool
  | i, some p :: l, pool => bootP kept (i + 1) l (match pool[p]? with
    | some f => pool.set p (bootF kept i f)
    | none => pool)
def applyP : List S_simfs_entry → Dir → Dir
  | [], dir => dir
  | x :: l, dir => applyP l (toF x.fgone x.fname x.ff dir)
def Dk.boot (d : Dk) (n : Int) (kept : List Int) : Dk :=
  { d with dir := applyP (d.pend.take n.toNat) d.safe, safe := applyP (d.pend.take n.toNat) d.safe, pend := [], plan := [], down := false, pool := bootP kept 0 d.files d.pool }
theorem boot_l0 (k : Nat) (pend : List S_simfs_entry) (m : Int) (c : Nat) (hm : 0 ≤ m) (hc : c = (pend.take m.toNat).length) (hb : pend.length < 2199023255552) : ∀ (n i : Nat) (dir : Dir), c - i < n → i ≤ c →
    g_simfs_Disk_Boot_l0 k pend m (c : Int) n (i : Int) dir = some (applyP ((pend.take m.toNat).drop i) dir)
  | 0, _, _, h, _ => by omega
  | n + 1, i, dir, h, hi => by
    rw [g_simfs_Disk_Boot_l0.eq_2]
    have hcl : c ≤ pend.length := by rw [hc, List.length_take]; omega
    by_cases hlt : i < c
    · have hlt' : i < (pend.take m.toNat).length := by omega
      rw [dt (by omega), bt, show Int.toNat 0 = 0 from rfl, List.drop_zero, ix_int (by omega) (by omega), Option.bind_some]
      simp only [Int.toNat_natCast]
      rw [to_eq, Option.bind_some, wi (by omega) (by omega), show ((i : Int) + 1) = ((i + 1 : Nat) : Int) by omega, boot_l0 k pend m c hm hc hb n (i + 1) _ (by omega) (by omega), List.drop_eq_getElem_cons hlt']
      rfl
    · rw [df (by omega), bf, List.drop_of_length_le (by omega)]
      rfl
theorem boot_l1 (k : Nat) (kept : List Int) (files : List (Option Nat)) (hf : files.length < 2199023255552) : ∀ (n i : Nat) (pool : List S_simfs_file), (∀ x ∈ files, ∃ p, x = some p ∧ p < pool.length) → (∀ f ∈ pool, f.fnow.length ≤ 1073741824 ∧ f.fsafe.length ≤ 1073741824) → files.length - i < n → i ≤ files.length →
    g_simfs_Disk_Boot_l1 k kept files n (i : Int) pool = some (bootP kept i (files.drop i) pool)
  | 0, _, _, _, _, h, _ => by omega
  | n + 1, i, pool, hp, hl, h, hi => by
    rw [g_simfs_Disk_Boot_l1.eq_2]
    by_cases hlt : i < files.length
    · obtain ⟨p, hp1, hp2⟩ := hp _ (List.getElem_mem hlt)
      rw [Option.bind_some, dt (by omega), bt, ix_int (by omega) (by omega), Option.bind_some]
      simp only [Int.toNat_natCast]
      rw [hp1]
      simp only [Option.bind_some, List.getElem?_eq_getElem hp2]
      rw [List.drop_eq_getElem_cons hlt, hp1]
      have hnow := hl _ (List.getElem_mem hp2)
      have key : ∀ pool2 : List S_simfs_file, pool2.length = pool.length → (∀ f ∈ pool2, f.fnow.length ≤ 1073741824 ∧ f.fsafe.length ≤ 1073741824) → g_simfs_Disk_Boot_l1 k kept files n (IntKind.wrap .i64 ((i : Int) + 1)) pool2 = some (bootP kept (i + 1) (files.drop (i + 1)) pool2) := by
        intro pool2 h2 h3
        rw [wi (by omega) (by omega), show ((i : Int) + 1) = ((i + 1 : Nat) : Int) by omega]
        exact boot_l1 k kept files hf n (i + 1) pool2 (fun x hx => by obtain ⟨q, q1, q2⟩ := hp x hx; exact ⟨q, q1, by omega⟩) h3 (by omega) (by omega)
      have hstep : bootP kept i (some p :: files.drop (i + 1)) pool = bootP kept (i + 1) (files.drop (i + 1)) (pool.set p (bootF kept i pool[p])) := by
        rw [bootP, List.getElem?_eq_getElem hp2]
      rw [hstep]
      have hmem : ∀ (g : S_simfs_file), g.fnow.length ≤ 1073741824 ∧ g.fsafe.length ≤ 1073741824 → ∀ f ∈ pool.set p g, f.fnow.length ≤ 1073741824 ∧ f.fsafe.length ≤ 1073741824 := fun g hg f hf' => by
        rcases List.mem_or_eq_of_mem_set hf' with q | q
        · exact hl f q
        · rw [q]; exact hg
      have hsafe : (bootF kept i pool[p]).fnow = (bootF kept i pool[p]).fsafe := by
        unfold bootF
        split
        · split <;> rfl
        · rfl
      have done : ∀ (g : S_simfs_file), g.fsafe = (bootF kept i pool[p]).fsafe → ∀ (pool1 : List S_simfs_file), pool1 = pool.set p g → (bootF kept i pool[p]).fnow.length ≤ 1073741824 →
          ((pool1[p]?).bind fun x => (pool1[p]?).bind fun y => g_simfs_Disk_Boot_l1 k kept files n (IntKind.wrap .i64 ((i : Int) + 1)) (List.set pool1 p ⟨x.fsafe, y.fsafe⟩)) = some (bootP kept (i + 1) (files.drop (i + 1)) (pool.set p (bootF kept i pool[p]))) := by
        intro g hg pool1 h1 hbl
        subst h1
        have hq : (pool.set p g)[p]? = some g := by rw [List.getElem?_set_self hp2]
        rw [hq, Option.bind_some, Option.bind_some, List.set_set, hg]
        have e : (⟨(bootF kept i pool[p]).fsafe, (bootF kept i pool[p]).fsafe⟩ : S_simfs_file) = bootF kept i pool[p] := by
          cases hb : bootF kept i pool[p] with
          | mk a b => rw [hb] at hsafe; simp only at hsafe; rw [hsafe]
        rw [e]
        exact key _ (by simp) (hmem _ ⟨hbl, by rw [← hsafe]; exact hbl⟩)
      by_cases hk : i < kept.length
      · rw [dt (by omega), bt, ix_int (by omega) (by omega)]
        simp only [Option.bind_some, Int.toNat_natCast]
        have hkk : kept[i]? = some kept[i] := List.getElem?_eq_getElem hk
        by_cases hc : (pool[p].fsafe.length : Int) < kept[i]
        · have hb : bootF kept i pool[p] = ⟨pool[p].fnow.take (min (kept[i]).toNat pool[p].fnow.length), pool[p].fnow.take (min (kept[i]).toNat pool[p].fnow.length)⟩ := by
            unfold bootF; rw [hkk]; simp only; rw [if_pos hc]
          have hm : (if (((List.length pool[p].fnow : Nat) : Int) : Int) < kept[i] then (((List.length pool[p].fnow : Nat) : Int) : Int) else kept[i]) = ((min (kept[i]).toNat pool[p].fnow.length : Nat) : Int) := by
            split <;> omega
          rw [dt hc]
          simp only [bt, hm]
          rw [dt (by refine ⟨Int.le_refl _, by omega, by omega⟩)]
          simp only [bt, Option.bind_some, Int.toNat_natCast, show Int.toNat 0 = 0 from rfl, List.drop_zero]
          exact done ⟨pool[p].fnow, pool[p].fnow.take (min (kept[i]).toNat pool[p].fnow.length)⟩ (by rw [hb]) _ rfl (by rw [hb]; simp only [List.length_take]; omega)
        · have hb : bootF kept i pool[p] = ⟨pool[p].fsafe, pool[p].fsafe⟩ := by
            unfold bootF; rw [hkk]; simp only; rw [if_neg hc]
          rw [df hc]
          simp only [bf, Option.bind_some]
          exact done pool[p] (by rw [hb]) pool (List.set_getElem_self hp2).symm (by rw [hb]; exact hnow.2)
      · have hb : bootF kept i pool[p] = ⟨pool[p].fsafe, pool[p].fsafe⟩ := by
          unfold bootF; rw [List.getElem?_eq_none (by omega)]
        rw [df (by omega)]
        simp only [bf, Option.bind_some]
        exact done pool[p] (by rw [hb]) pool (List.set_getElem_self hp2).symm (by rw [hb]; exact hnow.2)
    · rw [Option.bind_some, df (by omega), bf, List.drop_of_length_le (by omega)]
      rfl
theorem boot_eq (k : Nat) (hk : 3000000000000 ≤ k) {d : Dk} (h : Bd d) (hf : ∀ x ∈ d.files, ∃ p, x = some p ∧ p < d.pool.length) (m : Int) (kept : List Int) : g_simfs_Disk_Boot k m kept d.room d.plan d.steps d.down d.dir d.safe d.files d.pend d.pool =
    some ((d.boot m kept).dir, (d.boot m kept).dir, (d.boot m kept).pool) := by
  unfold g_simfs_Disk_Boot Dk.boot
  have hpe := h.pe
  have hfl := h.fl
  simp only [Option.bind_some, g_maps_Clone_map_string_simfs_file_string_simfs_file]
  obtain ⟨q, hq, hq2, hq3⟩ : ∃ q : Nat, (if ((d.pend.length : Nat) : Int) < (if (0 : Int) > m then 0 else m) then ((d.pend.length : Nat) : Int) else (if (0 : Int) > m then 0 else m)) = (q : Int) ∧ q ≤ d.pend.length ∧ d.pend.take q = d.pend.take m.toNat := by
    refine ⟨min d.pend.length m.toNat, ?_, by omega, ?_⟩
    · split <;> split <;> omega
    · by_cases hc : m.toNat ≤ d.pend.length
      · rw [Nat.min_eq_right hc]
      · rw [Nat.min_eq_left (by omega), List.take_length, List.take_of_length_le (by omega)]
  rw [hq, dt (by omega), bt]
  simp only [Int.toNat_natCast, show Int.toNat 0 = 0 from rfl, List.drop_zero]
  rw [show (0 : Int) = ((0 : Nat) : Int) from rfl, boot_l0 k d.pend (q : Int) (d.pend.take q).length (by omega) (by simp) h.pe k 0 d.safe (by rw [List.length_take]; omega) (by omega), Option.bind_some, boot_l1 k kept d.files h.fl k 0 d.pool hf h.pl (by omega) (by omega)]
  simp only [Option.bind_some, Int.toNat_natCast, List.drop_zero, hq3]
/-- Which paths may be saved. -/
def sfx : List UInt8 := [46, 116, 109, 112]
def rightL (l : List UInt8) : Bool := nameL l && (decide (l.length ≤ 60) && !(decide (4 ≤ l.length) && decide (l.drop (l.length - 4) = sfx)))
theorem right_eq (k : Nat) (hk : 100 ≤ k) (x : ByteArray) : g_store_Right k x = some (rightL (L x)) := by
  unfold g_store_Right rightL
  rw [name_eq k hk, Option.bind_some]
  cases nameL (L x) with
  | false => rfl
  | true =>
    simp only [bt, Option.bind_some]
    rw [L_size, show decide (((List.length (L x) : Nat) : Int) ≤ 60) = decide ((L x).length ≤ 60) by congr 1; exact propext (by omega)]
    by_cases hl : (L x).length ≤ 60
    · rw [dt hl]
      simp only [bt]
      unfold g_strings_HasSuffix g_internal_stringslite_HasSuffix
      rw [show ByteArray.size (ByteArray.mk #[46, 116, 109, 112]) = 4 from rfl, L_size]
      simp only [Option.bind_some]
      by_cases h4 : 4 ≤ (L x).length
      · rw [dt (show ((4 : Nat) : Int) ≤ ((List.length (L x) : Nat) : Int) by omega), bt, wi (by omega) (by omega), dt (by omega), bt, dt h4, beq_toList, L_extract]
        simp only [Option.bind_some, Int.toNat_natCast, Bool.true_and]
        rw [show (((List.length (L x) : Nat) : Int) - ((4 : Nat) : Int)).toNat = (L x).length - 4 by omega]
        have e : List.take ((L x).length - ((L x).length - 4)) (List.drop ((L x).length - 4) (L x)) = List.drop ((L x).length - 4) (L x) := by rw [List.take_of_length_le (by rw [List.length_drop]; omega)]
        refine congrArg some (congrArg not (decide_eq_decide.2 ?_))
        rw [e]
        exact Iff.rfl
      · rw [df (show ¬ ((4 : Nat) : Int) ≤ ((List.length (L x) : Nat) : Int) by omega), bf, df h4]
        rfl
    · rw [df hl]; rfl
def tmpF (p : ByteArray) : ByteArray := p ++ ByteArray.mk #[46, 116, 109, 112]
theorem temp_eq (k : Nat) (x : ByteArray) (h : rightL (L x) = true) : g_store_Temp k x = some () := by
  have : (L x).length ≤ 60 := by
    unfold rightL at h
    simp only [Bool.and_eq_true, decide_eq_true_eq] at h
    exact h.2.1
  unfold g_store_Temp
  rw [L_size, dt (by rw [show ByteArray.size (ByteArray.mk #[46, 116, 109, 112]) = 4 from rfl]; omega), bt]
def Dk.save (d : Dk) (p : ByteArray) (data : List Int) : Int × Dk :=
  if rightL (L p) = true then
    if (1048576 : Int) < (data.length : Int) then (3, d)
    else
      let a := d.create (tmpF p)
      if a.1 = 0 then
        let b := a.2.write (tmpF p) data
        if b.1 = 0 then
          let c := b.2.fsync (tmpF p)
          if c.1 = 0 then
            let r := c.2.rename (tmpF p) p
            if r.1 = 0 then r.2.dirsync
            else (r.1, (r.2.remove (tmpF p)).2)
          else (c.1, (c.2.remove (tmpF p)).2)
        else (b.1, (b.2.remove (tmpF p)).2)
      else (a.1, (a.2.remove (tmpF p)).2)
  else (1, d)
def Dk.load (d : Dk) (p : ByteArray) : (Int × List Int) × Dk := if rightL (L p) = true then d.read p else ((1, []), d)
end Go.Proofs.Ytcaeafojgehamaa.W
namespace Go.Proofs.Ytcaeafojgehamaa.W
open Go Go.Q Go.Proofs
set_option linter.unusedVariables false
set_option linter.unusedSimpArgs false
theorem dIns_len (l : Dir) (n : ByteArray) (v : Option Nat) : (dIns ltStr l n v).length = (dDel l n).length + 1 := by
  have := (dIns_perm ltStr l n v).length_eq
  unfold dPut at this
  rw [← this]; simp
theorem dDel_le (l : Dir) (n : ByteArray) : (dDel l n).length ≤ l.length := List.length_filter_le _ _
theorem dDel_lt {l : Dir} {e : ByteArray × Option Nat} (h : e ∈ l) : (dDel l e.1).length < l.length := by
  unfold dDel
  exact List.length_filter_lt_length_iff_exists.2 ⟨e, h, by simp⟩
theorem mem_dDel {l : Dir} {n : ByteArray} {e : ByteArray × Option Nat} : e ∈ dDel l n ↔ e ∈ l ∧ e.1 ≠ n := by
  unfold dDel
  rw [List.mem_filter]
  simp
theorem mem_dIns {l : Dir} {n : ByteArray} {v : Option Nat} {e : ByteArray × Option Nat} : e ∈ dIns ltStr l n v ↔ e = (n, v) ∨ e ∈ dDel l n := by
  rw [← (dIns_perm ltStr l n v).mem_iff]
  unfold dPut
  rw [List.mem_append, List.mem_singleton]
  exact Or.comm
theorem toF_some (gone name : ByteArray) (p : Nat) (dir : Dir) : toF gone name (some p) dir = dIns ltStr (dDel dir gone) name (some p) := rfl
theorem mem_toF {gone name : ByteArray} {f : Option Nat} {dir : Dir} {e : ByteArray × Option Nat} (h : e ∈ toF gone name f dir) : (f.isSome = true ∧ e = (name, f)) ∨ e ∈ dir := by
  unfold toF at h
  split at h
  · rename_i hf
    rcases mem_dIns.1 h with h | h
    · exact .inl ⟨hf, h⟩
    · exact .inr (mem_dDel.1 (mem_dDel.1 h).1).1
  · exact .inr (mem_dDel.1 h).1
theorem applyP_append : ∀ (a b : List S_simfs_entry) (dir : Dir), applyP (a ++ b) dir = applyP b (applyP a dir)
  | [], _, _ => rfl
  | x :: a, b, dir => by rw [List.cons_append, applyP, applyP, applyP_append a b]
theorem mem_applyP : ∀ {l : List S_simfs_entry} {dir : Dir} {e : ByteArray × Option Nat}, e ∈ applyP l dir → e ∈ dir ∨ ∃ x ∈ l, x.ff.isSome = true ∧ e.2 = x.ff
  | [], _, _, h => .inl h
  | x :: l, dir, e, h => by
    rcases mem_applyP (l := l) h with h | ⟨y, h1, h2⟩
    · rcases mem_toF h with ⟨h1, h2⟩ | h
      · exact .inr ⟨x, by simp, h1, by rw [h2]⟩
      · exact .inl h
    · exact .inr ⟨y, List.mem_cons_of_mem _ h1, h2⟩
/-- The disk is right; c: how much was done. -/
structure Ok (d : Dk) (c : Nat) : Prop where
  s0 : 0 ≤ d.steps
  s1 : d.steps ≤ (c : Int)
  fl : d.files.length ≤ c
  pe : d.pend.length ≤ c
  r0 : 0 ≤ d.room
  r1 : d.room ≤ 1073741824
  hist : ∀ i, (applyP (d.pend.take i) d.safe).length ≤ 8
  cur : d.dir = applyP d.pend d.safe
  sp : ∀ e ∈ d.safe, ∃ p, e.2 = some p ∧ p < d.pool.length
  pp : ∀ x ∈ d.pend, ∀ p, x.ff = some p → p < d.pool.length
  fp : ∀ x ∈ d.files, ∃ p, x = some p ∧ p < d.pool.length
  pl : ∀ f ∈ d.pool, f.fnow.length ≤ 1073741824 ∧ f.fsafe.length ≤ 1073741824
theorem Ok.ptr {d : Dk} {c : Nat} (h : Ok d c) {i : Nat} {e : ByteArray × Option Nat} (he : e ∈ applyP (d.pend.take i) d.safe) : ∃ p, e.2 = some p ∧ p < d.pool.length := by
  rcases mem_applyP he with he | ⟨x, h1, h2, h3⟩
  · exact h.sp e he
  · cases hf : x.ff with
    | none => rw [hf] at h2; cases h2
    | some p => exact ⟨p, by rw [h3, hf], h.pp x (List.mem_of_mem_take h1) p hf⟩
theorem Ok.dir {d : Dk} {c : Nat} (h : Ok d c) : d.dir = applyP (d.pend.take d.pend.length) d.safe := by rw [List.take_length]; exact h.cur
theorem Ok.bd {d : Dk} {c : Nat} (h : Ok d c) (hc : c < 2199023255552) : Bd d := by
  have := h.s1
  have := h.fl
  have := h.pe
  refine ⟨h.s0, by omega, by omega, by omega, h.r0, h.r1, ?_, fun e he => ?_, h.pl⟩
  · rw [h.dir]; exact h.hist _
  · rw [h.dir] at he; exact h.ptr he
/-- A step. -/
theorem Ok.step {d : Dk} {c : Nat} (h : Ok d c) (bad : Bool) : Ok (d.st (stepF bad d.plan d.steps d.down).2) (c + 1) := by
  have h1 := stepF_st bad d.plan (steps := d.steps) d.down
  have h2 := h.s0
  have h3 := h.s1
  have h4 := h.fl
  have h5 := h.pe
  exact ⟨by simp only [Dk.st]; omega, by simp only [Dk.st]; omega, by simp only [Dk.st]; omega, by simp only [Dk.st]; omega, h.r0, h.r1, h.hist, h.cur, h.sp, h.pp, h.fp, h.pl⟩
/-- Files that grow or change. -/
theorem Ok.files {d : Dk} {c : Nat} (h : Ok d c) {pool : List S_simfs_file} (hl : d.pool.length ≤ pool.length) (hp : ∀ f ∈ pool, f.fnow.length ≤ 1073741824 ∧ f.fsafe.length ≤ 1073741824) : Ok { d with pool := pool } c :=
  ⟨h.s0, h.s1, h.fl, h.pe, h.r0, h.r1, h.hist, h.cur, fun e he => by obtain ⟨p, h1, h2⟩ := h.sp e he; exact ⟨p, h1, Nat.lt_of_lt_of_le h2 hl⟩, fun x hx p hf => Nat.lt_of_lt_of_le (h.pp x hx p hf) hl,
   fun x hx => by obtain ⟨p, h1, h2⟩ := h.fp x hx; exact ⟨p, h1, Nat.lt_of_lt_of_le h2 hl⟩, hp⟩
/-- A change of the directory. -/
theorem Ok.change {d : Dk} {c : Nat} (h : Ok d c) {gone name : ByteArray} {f : Option Nat} (hl : (toF gone name f d.dir).length ≤ 8) (hf : ∀ p, f = some p → p < d.pool.length) (hc : d.pend.length < c) :
    Ok { d with dir := toF gone name f d.dir, pend := d.pend ++ [⟨gone, name, f⟩] } c := by
  refine ⟨h.s0, h.s1, h.fl, by simp; omega, h.r0, h.r1, fun i => ?_, ?_, h.sp, fun x hx p hxf => ?_, h.fp, h.pl⟩
  · by_cases hi : i ≤ d.pend.length
    · simp only [List.take_append_of_le_length hi]; exact h.hist i
    · simp only
      rw [List.take_of_length_le (by simp; omega), applyP_append, ← h.cur]
      exact hl
  · simp only
    rw [applyP_append, ← h.cur]
    rfl
  · rcases List.mem_append.1 hx with hx | hx
    · exact h.pp x hx p hxf
    · rw [List.mem_singleton] at hx; subst hx; exact hf p hxf
theorem stepF_bad {bad : Bool} {plan : List (Int × Int)} {steps : Int} {down : Bool} (h : (stepF bad plan steps down).1 = 0) : bad = false ∧ down = false := by
  unfold stepF at h
  cases down with
  | true => cases h
  | false =>
    cases bad with
    | true => cases h
    | false => exact ⟨rfl, rfl⟩
theorem badN_empty : badN (ByteArray.mk #[]) = true := rfl
theorem mapGet_in : ∀ {l : Dir} {n : ByteArray} {v : Option Nat}, mapGet l n = some v → (n, v) ∈ l
  | [], n, v, h => by cases h
  | e :: l, n, v, h => by
    rw [mapGet_cons] at h
    split at h
    · rename_i he
      have h2 : e.2 = v := Option.some.inj h
      have : e = (n, v) := by rw [he, ← h2]
      rw [← this]; simp
    · exact List.mem_cons_of_mem _ (mapGet_in h)
theorem Ok.create {d : Dk} {c : Nat} (h : Ok d c) (hc : c < 2199023255552) (n : ByteArray) : Ok (d.create n).2 (c + 1) := by
  unfold Dk.create
  have hs := h.step (badN n)
  split
  · rename_i h0
    obtain ⟨hb, _⟩ := stepF_bad h0
    split
    · exact hs
    · rename_i hn
      have hbd := h.bd hc
      have hlen : (toF (ByteArray.mk #[]) n (some d.pool.length) d.dir).length ≤ 8 := by
        rw [toF_some, dIns_len]
        have h1 := dDel_le d.dir (ByteArray.mk #[])
        have h2 := dDel_le (dDel d.dir (ByteArray.mk #[])) n
        have h8 := hbd.dl
        by_cases hm : d.dir.length < 8
        · omega
        · cases hg : mapGet d.dir n with
          | none => exact absurd ⟨by rw [hg]; rfl, by omega⟩ hn
          | some v =>
            have hin := mapGet_in hg
            have hne : n ≠ ByteArray.mk #[] := fun he => by rw [he, badN_empty] at hb; cases hb
            have := dDel_lt (mem_dDel.2 ⟨hin, hne⟩ : (n, v) ∈ dDel d.dir (ByteArray.mk #[]))
            simp only at this
            omega
      have hs2 := hs.files (pool := d.pool ++ [⟨[], []⟩]) (by simp [Dk.st]) (fun f hf => by
        rcases List.mem_append.1 hf with hf | hf
        · exact h.pl f hf
        · rw [List.mem_singleton] at hf; subst hf; simp)
      have hpe := h.pe
      have hfl := h.fl
      have hs3 := hs2.change (gone := ByteArray.mk #[]) (name := n) (f := some d.pool.length) hlen (fun p hp => by cases hp; simp) (by simp only [Dk.st]; omega)
      exact ⟨hs3.s0, hs3.s1, by simp [Dk.change, Dk.st]; omega, hs3.pe, hs3.r0, hs3.r1, hs3.hist, hs3.cur, hs3.sp, hs3.pp, fun x hx => by
        rcases List.mem_append.1 hx with hx | hx
        · exact hs3.fp x hx
        · rw [List.mem_singleton] at hx; exact ⟨_, hx, by simp⟩, hs3.pl⟩
  · exact hs
theorem Ok.write {d : Dk} {c : Nat} (h : Ok d c) (hc : c < 2199023255552) (n : ByteArray) (data : List Int) : Ok (d.write n data).2 (c + 1) := by
  unfold Dk.write
  have hs := h.step (badN n)
  cases ht : d.there n with
  | inl r =>
    simp only
    have : r.2 = (stepF (badN n) d.plan d.steps d.down).2 := by
      unfold Dk.there thereF at ht
      split at ht
      · split at ht
        · cases ht; rfl
        · cases ht
      · cases ht; rfl
    rw [this]; exact hs
  | inr r =>
    simp only
    have hr : r.2 = (stepF (badN n) d.plan d.steps d.down).2 := by
      unfold Dk.there thereF at ht
      split at ht
      · split at ht
        · cases ht
        · cases ht; rfl
      · cases ht
    split
    · rw [hr]; exact hs
    · rename_i hroom
      rw [hr]
      have hbd := h.bd hc
      obtain ⟨hp, hin⟩ := there_p hbd (p := r.1) (r := r.2) ht
      have hu : lenP d.pool r.1 ≤ d.used := by
        unfold Dk.used
        have : ∀ {l : Dir}, (n, some r.1) ∈ l → lenP d.pool r.1 ≤ (l.map (lenE d.pool)).sum := by
          intro l
          induction l with
          | nil => intro h; simp at h
          | cons e l ih =>
            intro h
            rw [List.map_cons, List.sum_cons]
            rcases List.mem_cons.1 h with h | h
            · rw [← h]; simp only [lenE]; omega
            · have := ih h; omega
        exact this hin
      have hg : d.pool[r.1]? = some d.pool[r.1] := List.getElem?_eq_getElem hp
      have hl : lenP d.pool r.1 = d.pool[r.1].fnow.length := by unfold lenP; rw [hg]
      have hr1 := h.r1
      refine hs.files (by simp only [Dk.st, putNow, hg]; simp) (fun f hf => ?_)
      simp only [putNow, hg] at hf
      rcases List.mem_or_eq_of_mem_set hf with q | q
      · exact h.pl f q
      · rw [q]
        refine ⟨?_, (h.pl _ (List.getElem_mem hp)).2⟩
        simp only [List.length_append]
        omega
theorem there_r {d : Dk} {bad : Bool} {n : ByteArray} : (∀ r, thereF bad d.plan d.steps d.down d.dir n = .inl r → r.2 = (stepF bad d.plan d.steps d.down).2) ∧ (∀ r, thereF bad d.plan d.steps d.down d.dir n = .inr r → r.2 = (stepF bad d.plan d.steps d.down).2 ∧ bad = false) := by
  unfold thereF
  constructor
  · intro r ht
    split at ht
    · split at ht
      · cases ht; rfl
      · cases ht
    · cases ht; rfl
  · intro r ht
    split at ht
    · rename_i h0
      split at ht
      · cases ht
      · cases ht; exact ⟨rfl, (stepF_bad h0).1⟩
    · cases ht
theorem Ok.fsync {d : Dk} {c : Nat} (h : Ok d c) (hc : c < 2199023255552) (n : ByteArray) : Ok (d.fsync n).2 (c + 1) := by
  unfold Dk.fsync
  have hs := h.step (badN n)
  cases ht : d.there n with
  | inl r => simp only; rw [(there_r (bad := badN n)).1 r ht]; exact hs
  | inr r =>
    simp only
    rw [((there_r (bad := badN n)).2 r ht).1]
    obtain ⟨hp, hin⟩ := there_p (h.bd hc) (p := r.1) (r := r.2) ht
    have hg : d.pool[r.1]? = some d.pool[r.1] := List.getElem?_eq_getElem hp
    refine hs.files (by simp only [Dk.st, putSafe, hg]; simp) (fun f hf => ?_)
    simp only [putSafe, hg] at hf
    rcases List.mem_or_eq_of_mem_set hf with q | q
    · exact h.pl f q
    · rw [q]; exact ⟨(h.pl _ (List.getElem_mem hp)).1, (h.pl _ (List.getElem_mem hp)).1⟩
theorem Ok.rename {d : Dk} {c : Nat} (h : Ok d c) (hc : c < 2199023255552) (n o : ByteArray) : Ok (d.rename n o).2 (c + 1) := by
  unfold Dk.rename
  have hs := h.step (badN n || badN o)
  cases ht : thereF (badN n || badN o) d.plan d.steps d.down d.dir n with
  | inl r => simp only; rw [there_r.1 r ht]; exact hs
  | inr r =>
    simp only
    rw [(there_r.2 r ht).1]
    have hbd := h.bd hc
    obtain ⟨hp, hin⟩ := there_p hbd (p := r.1) (r := r.2) ht
    have hpe := h.pe
    refine hs.change ?_ (fun p he => by cases he; exact hp) (by simp only [Dk.st]; omega)
    rw [toF_some, dIns_len]
    have h1 := dDel_lt hin
    have h2 := dDel_le (dDel d.dir n) o
    have h8 := hbd.dl
    simp only [Dk.st] at h1 h2 h8 ⊢
    omega
theorem Ok.remove {d : Dk} {c : Nat} (h : Ok d c) (hc : c < 2199023255552) (n : ByteArray) : Ok (d.remove n).2 (c + 1) := by
  unfold Dk.remove
  have hs := h.step (badN n)
  cases ht : d.there n with
  | inl r => simp only; rw [(there_r (bad := badN n)).1 r ht]; exact hs
  | inr r =>
    simp only
    rw [((there_r (bad := badN n)).2 r ht).1]
    have hbd := h.bd hc
    have hpe := h.pe
    refine hs.change ?_ (fun p he => by cases he) (by simp only [Dk.st]; omega)
    unfold toF
    rw [if_neg (by simp)]
    have h2 := dDel_le d.dir n
    have h8 := hbd.dl
    simp only [Dk.st]
    omega
theorem Ok.dirsync {d : Dk} {c : Nat} (h : Ok d c) (hc : c < 2199023255552) : Ok d.dirsync.2 (c + 1) := by
  unfold Dk.dirsync
  have hs := h.step false
  split
  · have hbd := h.bd hc
    exact ⟨hs.s0, hs.s1, hs.fl, Nat.zero_le _, hs.r0, hs.r1, fun i => by simp only [List.take_nil, applyP]; exact hbd.dl, rfl, hbd.dp, fun x hx => by simp at hx, hs.fp, hs.pl⟩
  · exact hs
theorem Ok.read {d : Dk} {c : Nat} (h : Ok d c) (n : ByteArray) : Ok (d.read n).2 (c + 1) := by
  unfold Dk.read
  have hs := h.step (badN n)
  cases ht : d.there n with
  | inl r => simp only; rw [(there_r (bad := badN n)).1 r ht]; exact hs
  | inr r => simp only; rw [((there_r (bad := badN n)).2 r ht).1]; exact hs
theorem bootP_len (kept : List Int) : ∀ (l : List (Option Nat)) (i : Nat) (pool : List S_simfs_file), (bootP kept i l pool).length = pool.length
  | [], _, _ => rfl
  | none :: l, i, pool => by rw [bootP, bootP_len kept l]
  | some p :: l, i, pool => by
    rw [bootP, bootP_len kept l]
    split <;> simp
theorem bootP_le (kept : List Int) : ∀ (l : List (Option Nat)) (i : Nat) (pool : List S_simfs_file), (∀ f ∈ pool, f.fnow.length ≤ 1073741824 ∧ f.fsafe.length ≤ 1073741824) → ∀ f ∈ bootP kept i l pool, f.fnow.length ≤ 1073741824 ∧ f.fsafe.length ≤ 1073741824
  | [], _, _, h => h
  | none :: l, i, pool, h => bootP_le kept l (i + 1) pool h
  | some p :: l, i, pool, h => by
    rw [bootP]
    refine bootP_le kept l (i + 1) _ ?_
    split
    · rename_i f hf
      intro g hg
      have hq := h f (List.mem_of_getElem? hf)
      rcases List.mem_or_eq_of_mem_set hg with q | q
      · exact h g q
      · rw [q]
        unfold bootF
        split
        · split
          · simp only [List.length_take]; omega
          · exact ⟨hq.2, hq.2⟩
        · exact ⟨hq.2, hq.2⟩
    · exact h
theorem Ok.boot {d : Dk} {c : Nat} (h : Ok d c) (n : Int) (kept : List Int) : Ok (d.boot n kept) c :=
  ⟨h.s0, h.s1, h.fl, Nat.zero_le _, h.r0, h.r1, fun i => by simp only [Dk.boot, List.take_nil, applyP]; exact h.hist _, rfl, fun e he => by obtain ⟨p, h1, h2⟩ := h.ptr he; exact ⟨p, h1, by simp only [Dk.boot]; rw [bootP_len]; exact h2⟩, fun x hx => by simp [Dk.boot] at hx,
   fun x hx => by obtain ⟨p, h1, h2⟩ := h.fp x hx; exact ⟨p, h1, by simp only [Dk.boot]; rw [bootP_len]; exact h2⟩, bootP_le kept _ _ _ h.pl⟩
end Go.Proofs.Ytcaeafojgehamaa.W
namespace Go.Proofs.Ytcaeafojgehamaa.W
open Go Go.Q Go.Proofs
set_option linter.unusedVariables false
set_option linter.unusedSimpArgs false
theorem create_keep (d : Dk) (n : ByteArray) : (d.create n).2.room = d.room ∧ (d.create n).2.plan = d.plan ∧ (d.create n).2.safe = d.safe := by
  unfold Dk.create
  split
  · split <;> exact ⟨rfl, rfl, rfl⟩
  · exact ⟨rfl, rfl, rfl⟩
theorem write_keep (d : Dk) (n : ByteArray) (data : List Int) : (d.write n data).2.room = d.room ∧ (d.write n data).2.plan = d.plan ∧ (d.write n data).2.safe = d.safe ∧ (d.write n data).2.dir = d.dir ∧ (d.write n data).2.files = d.files ∧ (d.write n data).2.pend = d.pend := by
  unfold Dk.write
  split
  · exact ⟨rfl, rfl, rfl, rfl, rfl, rfl⟩
  · split <;> exact ⟨rfl, rfl, rfl, rfl, rfl, rfl⟩
theorem fsync_keep (d : Dk) (n : ByteArray) : (d.fsync n).2.room = d.room ∧ (d.fsync n).2.plan = d.plan ∧ (d.fsync n).2.safe = d.safe ∧ (d.fsync n).2.dir = d.dir ∧ (d.fsync n).2.files = d.files ∧ (d.fsync n).2.pend = d.pend := by
  unfold Dk.fsync
  split <;> exact ⟨rfl, rfl, rfl, rfl, rfl, rfl⟩
theorem rename_keep (d : Dk) (n o : ByteArray) : (d.rename n o).2.room = d.room ∧ (d.rename n o).2.plan = d.plan ∧ (d.rename n o).2.safe = d.safe ∧ (d.rename n o).2.files = d.files ∧ (d.rename n o).2.pool = d.pool := by
  unfold Dk.rename
  split <;> exact ⟨rfl, rfl, rfl, rfl, rfl⟩
theorem remove_keep (d : Dk) (n : ByteArray) : (d.remove n).2.room = d.room ∧ (d.remove n).2.plan = d.plan ∧ (d.remove n).2.safe = d.safe ∧ (d.remove n).2.files = d.files ∧ (d.remove n).2.pool = d.pool := by
  unfold Dk.remove
  split <;> exact ⟨rfl, rfl, rfl, rfl, rfl⟩
theorem dirsync_keep (d : Dk) : d.dirsync.2.room = d.room ∧ d.dirsync.2.plan = d.plan ∧ d.dirsync.2.dir = d.dir ∧ d.dirsync.2.files = d.files ∧ d.dirsync.2.pool = d.pool ∧ (if d.dirsync.1 = 0 then d.dirsync.2.safe = d.dir ∧ d.dirsync.2.pend = [] else d.dirsync.2.safe = d.safe ∧ d.dirsync.2.pend = d.pend) := by
  unfold Dk.dirsync
  split
  · exact ⟨rfl, rfl, rfl, rfl, rfl, by rw [if_pos rfl]; exact ⟨rfl, rfl⟩⟩
  · rename_i h
    exact ⟨rfl, rfl, rfl, rfl, rfl, rfl, rfl⟩
abbrev SaveR := (Int × Int × Bool × Dir × List (Option Nat) × List S_simfs_entry × List S_simfs_file) ⊕ (Int × Int × Bool × Dir × List (Option Nat) × Dir × List S_simfs_file)
/-- What a save's answer tells. -/
def saysS (d : Dk) (r : Int × Dk) : SaveR → Prop
  | .inl (e, s, dn, di, fl, pe, po) => r = (e, ⟨d.room, d.plan, s, dn, di, d.safe, fl, pe, po⟩)
  | .inr (e, s, dn, di, fl, sa, po) => r = (e, ⟨d.room, d.plan, s, dn, di, sa, fl, [], po⟩)
theorem save_eq (k : Nat) (hk : 100 ≤ k) {d : Dk} {c : Nat} (h : Ok d c) (hc : c < 2199023255540) (p : ByteArray) (data : List Int) : ∃ y, g_store_Save k p data d.room d.plan d.steps d.down d.dir d.safe d.files d.pend d.pool = some y ∧ saysS d (d.save p data) y := by
  unfold g_store_Save Dk.save
  rw [right_eq k hk, Option.bind_some]
  cases hr : rightL (L p) with
  | false => exact ⟨_, rfl, rfl⟩
  | true =>
    simp only [Bool.not_true, bf, Option.bind_some, bd, if_true]
    by_cases hl : (1048576 : Int) < (data.length : Int)
    · rw [if_pos hl, if_pos hl]; exact ⟨_, rfl, rfl⟩
    · rw [if_neg hl, if_neg hl]
      unfold g_store_steps
      rw [temp_eq k p hr]
      simp only [Option.bind_some]
      rw [show (p ++ ByteArray.mk #[46, 116, 109, 112]) = tmpF p from rfl]
      generalize tmpF p = t
      have q1 := create_eq k hk (h.bd (by omega)) t
      have o1 := h.create (by omega) t
      obtain ⟨a1, a2, a3⟩ := create_keep d t
      rw [q1, Option.bind_some]
      generalize d.create t = r1 at *
      obtain ⟨e1, d1⟩ := r1
      obtain ⟨room, plan, s0, dn0, di0, sa0, fl0, pe0, po0⟩ := d
      obtain ⟨room', plan', s1, dn1, di1, sa1, fl1, pe1, po1⟩ := d1
      simp only at a1 a2 a3 o1 ⊢
      subst a1 a2 a3
      have rem : ∀ {e : Int} {c' : Nat} (s : Int) (dn : Bool) (di : Dir) (fl : List (Option Nat)) (pe : List S_simfs_entry) (po : List S_simfs_file), Ok ⟨room', plan', s, dn, di, sa1, fl, pe, po⟩ c' → c' < 2199023255550 → ∃ y : SaveR, ((g_simfs_Disk_Remove k t room' plan' s dn di sa1 fl pe).bind fun (x1341, x1342, x1343, x1344, x1345) => some (Sum.inl (e, x1342, x1343, x1344, fl, x1345, po))) = some y ∧ saysS ⟨room', plan', s0, dn0, di0, sa1, fl0, pe0, po0⟩ (e, (Dk.remove ⟨room', plan', s, dn, di, sa1, fl, pe, po⟩ t).2) y := by
        intro e c' s dn di fl pe po ho hc'
        have q := remove_eq k hk (ho.bd (by omega)) t
        obtain ⟨b1, b2, b3, b4, b5⟩ := remove_keep ⟨room', plan', s, dn, di, sa1, fl, pe, po⟩ t
        simp only at q b1 b2 b3 b4 b5
        rw [q, Option.bind_some]
        generalize Dk.remove ⟨room', plan', s, dn, di, sa1, fl, pe, po⟩ t = r at *
        obtain ⟨e', d'⟩ := r
        obtain ⟨f1, f2, f3, f4, f5, f6, f7, f8, f9⟩ := d'
        simp only at b1 b2 b3 b4 b5
        subst b1 b2 b3 b4 b5
        exact ⟨_, rfl, rfl⟩
      by_cases h1 : e1 = 0
      · rw [if_pos h1, if_pos h1]
        have q2 := write_eq k hk (o1.bd (by omega)) t data
        have o2 := o1.write (by omega) t data
        obtain ⟨a1, a2, a3, a4, a5, a6⟩ := write_keep ⟨room', plan', s1, dn1, di1, sa1, fl1, pe1, po1⟩ t data
        simp only at q2 a1 a2 a3 a4 a5 a6
        rw [q2, Option.bind_some]
        generalize Dk.write ⟨room', plan', s1, dn1, di1, sa1, fl1, pe1, po1⟩ t data = r2 at *
        obtain ⟨e2, ⟨room2, plan2, s2, dn2, di2, sa2, fl2, pe2, po2⟩⟩ := r2
        simp only at a1 a2 a3 a4 a5 a6 o2 ⊢
        subst a1 a2 a3 a4 a5 a6
        by_cases h2 : e2 = 0
        · rw [if_pos h2, if_pos h2]
          have q3 := fsync_eq k hk (o2.bd (by omega)) t
          have o3 := o2.fsync (by omega) t
          obtain ⟨a1, a2, a3, a4, a5, a6⟩ := fsync_keep ⟨room2, plan2, s2, dn2, di2, sa2, fl2, pe2, po2⟩ t
          simp only at q3 a1 a2 a3 a4 a5 a6
          rw [q3, Option.bind_some]
          generalize Dk.fsync ⟨room2, plan2, s2, dn2, di2, sa2, fl2, pe2, po2⟩ t = r3 at *
          obtain ⟨e3, ⟨room3, plan3, s3, dn3, di3, sa3, fl3, pe3, po3⟩⟩ := r3
          simp only at a1 a2 a3 a4 a5 a6 o3 ⊢
          subst a1 a2 a3 a4 a5 a6
          by_cases h3 : e3 = 0
          · rw [if_pos h3, if_pos h3]
            have q4 := rename_eq k hk (o3.bd (by omega)) t p
            have o4 := o3.rename (by omega) t p
            obtain ⟨a1, a2, a3, a4, a5⟩ := rename_keep ⟨room3, plan3, s3, dn3, di3, sa3, fl3, pe3, po3⟩ t p
            simp only at q4 a1 a2 a3 a4 a5
            rw [q4, Option.bind_some]
            generalize Dk.rename ⟨room3, plan3, s3, dn3, di3, sa3, fl3, pe3, po3⟩ t p = r4 at *
            obtain ⟨e4, ⟨room4, plan4, s4, dn4, di4, sa4, fl4, pe4, po4⟩⟩ := r4
            simp only at a1 a2 a3 a4 a5 o4 ⊢
            subst a1 a2 a3 a4 a5
            by_cases h4 : e4 = 0
            · rw [if_pos h4, if_pos h4]
              have q5 := dirsync_eq k hk (o4.bd (by omega))
              obtain ⟨a1, a2, a3, a4, a5, a6⟩ := dirsync_keep ⟨room4, plan4, s4, dn4, di4, sa4, fl4, pe4, po4⟩
              simp only at q5 a1 a2 a3 a4 a5 a6
              rw [q5, Option.bind_some]
              generalize Dk.dirsync ⟨room4, plan4, s4, dn4, di4, sa4, fl4, pe4, po4⟩ = r5 at *
              obtain ⟨e5, ⟨room5, plan5, s5, dn5, di5, sa5, fl5, pe5, po5⟩⟩ := r5
              simp only at a1 a2 a3 a4 a5 a6 ⊢
              subst a1 a2 a3 a4 a5
              by_cases h5 : e5 = 0
              · rw [if_pos h5] at a6 ⊢
                obtain ⟨a6, a7⟩ := a6
                subst a6 a7
                simp only
                rw [if_pos h5, h5]
                exact ⟨_, rfl, rfl⟩
              · rw [if_neg h5] at a6 ⊢
                obtain ⟨a6, a7⟩ := a6
                subst a6 a7
                simp only
                rw [if_neg h5]
                exact ⟨_, rfl, rfl⟩
            · rw [if_neg h4, if_neg h4]
              exact rem s4 dn4 di4 fl4 pe4 po4 o4 (by omega)
          · rw [if_neg h3, if_neg h3]
            exact rem s3 dn3 di3 fl3 pe3 po3 o3 (by omega)
        · rw [if_neg h2, if_neg h2]
          exact rem s2 dn2 di2 fl2 pe2 po2 o2 (by omega)
      · rw [if_neg h1, if_neg h1]
        exact rem s1 dn1 di1 fl1 pe1 po1 o1 (by omega)
theorem Ok.save {d : Dk} {c : Nat} (h : Ok d c) (hc : c < 2199023255540) (p : ByteArray) (data : List Int) : ∃ c', c' ≤ c + 6 ∧ Ok (d.save p data).2 c' := by
  unfold Dk.save
  split
  · split
    · exact ⟨c, by omega, h⟩
    · simp only
      have o1 := h.create (by omega) (tmpF p)
      split
      · have o2 := o1.write (by omega) (tmpF p) data
        split
        · have o3 := o2.fsync (by omega) (tmpF p)
          split
          · have o4 := o3.rename (by omega) (tmpF p) p
            split
            · exact ⟨_, by omega, o4.dirsync (by omega)⟩
            · exact ⟨_, by omega, o4.remove (by omega) _⟩
          · exact ⟨_, by omega, o3.remove (by omega) _⟩
        · exact ⟨_, by omega, o2.remove (by omega) _⟩
      · exact ⟨_, by omega, o1.remove (by omega) _⟩
  · exact ⟨c, by omega, h⟩
theorem load_eq (k : Nat) (hk : 100 ≤ k) {d : Dk} (h : Bd d) (p : ByteArray) : g_store_Load k p d.room d.plan d.steps d.down d.dir d.safe d.files d.pend d.pool =
    some ((d.load p).1.2, (d.load p).1.1, (d.load p).2.steps, (d.load p).2.down) := by
  unfold g_store_Load Dk.load
  rw [right_eq k hk, Option.bind_some]
  cases rightL (L p) with
  | false => rfl
  | true =>
    simp only [Bool.not_true, bf, if_true]
    rw [read_eq k hk h]
    rfl
end Go.Proofs.Ytcaeafojgehamaa.W
namespace Go.Proofs.Ytcaeafojgehamaa.W
open Go Go.Q Go.Proofs
set_option linter.unusedVariables false
set_option linter.unusedSimpArgs false
theorem mapGet_append {V : Type} : ∀ (a b : List (ByteArray × V)) (k : ByteArray), mapGet (a ++ b) k = (mapGet a k).or (mapGet b k)
  | [], b, k => rfl
  | e :: a, b, k => by
    rw [List.cons_append, mapGet_cons, mapGet_cons]
    split
    · rfl
    · exact mapGet_append a b k
theorem mapGet_filter {V : Type} (p : ByteArray → Bool) : ∀ (l : List (ByteArray × V)) (k : ByteArray), mapGet (l.filter fun e => p e.1) k = if p k = true then mapGet l k else none
  | [], k => by simp [mapGet_nil]
  | e :: l, k => by
    rw [List.filter_cons]
    split
    · rename_i h
      rw [mapGet_cons, mapGet_cons, mapGet_filter p l k]
      split
      · rename_i hk; rw [hk, if_pos h]
      · rfl
    · rename_i h
      rw [mapGet_filter p l k, mapGet_cons]
      split
      · rename_i hp
        rw [if_neg (fun hk => h (by rw [← hk]; exact hp))]
      · rfl
theorem mapGet_dDel (l : Dir) (g k : ByteArray) : mapGet (dDel l g) k = if k = g then none else mapGet l k := by
  unfold dDel
  rw [mapGet_filter (fun x => !decide (x = g))]
  by_cases h : k = g <;> simp [h]
theorem mapGet_dIns (l : Dir) (n : ByteArray) (v : Option Nat) (k : ByteArray) : mapGet (dIns ltStr l n v) k = if k = n then some v else mapGet l k := by
  unfold dIns
  rw [mapGet_append, mapGet_cons, mapGet_filter (fun x => ltStr x n), mapGet_filter (fun x => !ltStr x n), mapGet_dDel]
  by_cases h : k = n
  · simp [h]
  · simp only [if_neg h]
    cases ltStr k n <;> simp
theorem mapGet_toF (gone name : ByteArray) (p : Nat) (dir : Dir) (k : ByteArray) : mapGet (toF gone name (some p) dir) k = if k = name then some (some p) else if k = gone then none else mapGet dir k := by
  rw [toF_some, mapGet_dIns, mapGet_dDel]
theorem mapGet_none : ∀ {l : Dir} {n : ByteArray}, mapGet l n = none → ∀ e ∈ l, e.1 ≠ n
  | [], _, _, e, he => by simp at he
  | x :: l, n, h, e, he => by
    rw [mapGet_cons] at h
    split at h
    · cases h
    · rename_i hn
      rcases List.mem_cons.1 he with rfl | he
      · exact fun hc => hn hc.symm
      · exact mapGet_none h e he
theorem L_tmp (p : ByteArray) : L (tmpF p) = L p ++ sfx := by unfold tmpF; rw [L_append]; rfl
theorem right_facts {p : ByteArray} (h : rightL (L p) = true) : badN (tmpF p) = false ∧ badN p = false ∧ p ≠ tmpF p ∧ p ≠ ByteArray.mk #[] ∧ tmpF p ≠ ByteArray.mk #[] := by
  unfold rightL at h
  simp only [Bool.and_eq_true, decide_eq_true_eq] at h
  obtain ⟨h1, h2, h3⟩ := h
  have h1' := h1
  unfold nameL at h1
  simp only [Bool.and_eq_true, decide_eq_true_eq, Bool.not_eq_true', decide_eq_false_iff_not] at h1
  obtain ⟨g1, g2, g3⟩ := h1
  have hlen : (L (tmpF p)).length = (L p).length + 4 := by rw [L_tmp, List.length_append]; rfl
  refine ⟨?_, by unfold badN; rw [h1']; rfl, fun h => ?_, fun h => g1 (by rw [h]; rfl), fun h => ?_⟩
  · unfold badN nameL
    rw [L_tmp]
    have e1 : anyBad (L p ++ sfx) = false := by
      unfold anyBad at g3 ⊢
      rw [List.any_append, g3]
      rfl
    rw [e1]
    simp [sfx]
    omega
  · rw [← h] at hlen; omega
  · rw [h] at hlen
    have : (L (ByteArray.mk #[])).length = 0 := rfl
    omega
theorem step0 (s : Int) : stepF false [] s false = (0, s + 1, false) := by simp [stepF, mapGet_nil]
theorem lenE_app {pool : List S_simfs_file} {x : List S_simfs_file} {e : ByteArray × Option Nat} (h : ∃ p, e.2 = some p ∧ p < pool.length) : lenE (pool ++ x) e = lenE pool e := by
  obtain ⟨p, h1, h2⟩ := h
  unfold lenE lenP
  rw [h1]
  simp only
  rw [List.getElem?_append_left h2]
theorem used_new {D : Dir} {pool : List S_simfs_file} {t : ByteArray} {f : S_simfs_file} (hf : f.fnow = []) (ht : mapGet D t = none) (he : ∀ e ∈ D, e.1 ≠ ByteArray.mk #[]) (hp : ∀ e ∈ D, ∃ p, e.2 = some p ∧ p < pool.length) :
    ((toF (ByteArray.mk #[]) t (some pool.length) D).map (lenE (pool ++ [f]))).sum = (D.map (lenE pool)).sum := by
  rw [toF_some, sum_perm (dIns_perm ltStr (dDel D (ByteArray.mk #[])) t (some pool.length)).symm, dDel_no he]
  unfold dPut
  rw [dDel_no (mapGet_none ht), List.map_append, List.sum_append]
  have h1 : D.map (lenE (pool ++ [f])) = D.map (lenE pool) := List.map_congr_left fun e hx => lenE_app (hp e hx)
  rw [h1]
  simp [lenE, lenP, hf]
theorem lastP (pool : List S_simfs_file) (f : S_simfs_file) : (pool ++ [f])[pool.length]? = some f := by
  rw [List.getElem?_append_right (Nat.le_refl _), Nat.sub_self]; rfl
theorem setP (pool : List S_simfs_file) (f g : S_simfs_file) : (pool ++ [f]).set pool.length g = pool ++ [g] := by
  rw [List.set_append, if_neg (Nat.lt_irrefl _), Nat.sub_self]; rfl
/-- What a save leaves of a directory. -/
def savedDir (D : Dir) (p : ByteArray) (n : Nat) : Dir := toF (tmpF p) p (some n) (toF (ByteArray.mk #[]) (tmpF p) (some n) D)
section
variable {room s : Int} {D S : Dir} {F : List (Option Nat)} {P : List S_simfs_entry} {pool : List S_simfs_file} {p : ByteArray} {data : List Int}
theorem created (hr : rightL (L p) = true) (hd : D.length < 8) : Dk.create ⟨room, [], s, false, D, S, F, P, pool⟩ (tmpF p) =
    (0, ⟨room, [], s + 1, false, toF (ByteArray.mk #[]) (tmpF p) (some pool.length) D, S, F ++ [some pool.length], P ++ [⟨ByteArray.mk #[], tmpF p, some pool.length⟩], pool ++ [⟨[], []⟩]⟩) := by
  obtain ⟨h1, h2, h3, h4, h5⟩ := right_facts hr
  unfold Dk.create Dk.step1
  simp only [h1, step0, if_true]
  rw [if_neg (fun h => absurd h.2 (by omega))]
  rfl
theorem there0 {n : ByteArray} {i : Nat} (hb : badN n = false) (hm : mapGet D n = some (some i)) : Dk.there ⟨room, [], s, false, D, S, F, P, pool⟩ n = .inr (i, s + 1, false) := by
  unfold Dk.there thereF
  simp only [hb, step0, if_true, hm]
  rfl
theorem save_ok (hr : rightL (L p) = true) (hl : data.length ≤ 1048576) (hd : D.length < 8) (ht : mapGet D (tmpF p) = none) (he : ∀ e ∈ D, e.1 ≠ ByteArray.mk #[]) (hp : ∀ e ∈ D, ∃ q, e.2 = some q ∧ q < pool.length)
    (hroom : (data.length : Int) ≤ room - ((D.map (lenE pool)).sum : Int)) : Dk.save ⟨room, [], s, false, D, S, F, P, pool⟩ p data =
    (0, ⟨room, [], s + 5, false, savedDir D p pool.length, savedDir D p pool.length, F ++ [some pool.length], [], pool ++ [⟨data, data⟩]⟩) := by
  obtain ⟨h1, h2, h3, h4, h5⟩ := right_facts hr
  have hu := used_new (pool := pool) (f := ⟨[], []⟩) rfl ht he hp
  have hm : mapGet (toF (ByteArray.mk #[]) (tmpF p) (some pool.length) D) (tmpF p) = some (some pool.length) := by rw [mapGet_toF, if_pos rfl]
  unfold Dk.save
  rw [if_pos hr, if_neg (by omega), created hr hd]
  simp only [if_true]
  have hw : Dk.write ⟨room, [], s + 1, false, toF (ByteArray.mk #[]) (tmpF p) (some pool.length) D, S, F ++ [some pool.length], P ++ [⟨ByteArray.mk #[], tmpF p, some pool.length⟩], pool ++ [⟨[], []⟩]⟩ (tmpF p) data =
      (0, ⟨room, [], s + 1 + 1, false, toF (ByteArray.mk #[]) (tmpF p) (some pool.length) D, S, F ++ [some pool.length], P ++ [⟨ByteArray.mk #[], tmpF p, some pool.length⟩], pool ++ [⟨data, []⟩]⟩) := by
    unfold Dk.write
    rw [there0 h1 hm]
    simp only [Dk.used, hu]
    rw [if_neg (by omega)]
    simp only [Dk.st, putNow, lastP, setP, List.nil_append]
  rw [hw]
  simp only [if_true]
  have hf : Dk.fsync ⟨room, [], s + 1 + 1, false, toF (ByteArray.mk #[]) (tmpF p) (some pool.length) D, S, F ++ [some pool.length], P ++ [⟨ByteArray.mk #[], tmpF p, some pool.length⟩], pool ++ [⟨data, []⟩]⟩ (tmpF p) =
      (0, ⟨room, [], s + 1 + 1 + 1, false, toF (ByteArray.mk #[]) (tmpF p) (some pool.length) D, S, F ++ [some pool.length], P ++ [⟨ByteArray.mk #[], tmpF p, some pool.length⟩], pool ++ [⟨data, data⟩]⟩) := by
    unfold Dk.fsync
    rw [there0 h1 hm]
    simp only [Dk.st, putSafe, lastP, setP]
  rw [hf]
  simp only [if_true]
  have hre : (Dk.rename ⟨room, [], s + 1 + 1 + 1, false, toF (ByteArray.mk #[]) (tmpF p) (some pool.length) D, S, F ++ [some pool.length], P ++ [⟨ByteArray.mk #[], tmpF p, some pool.length⟩], pool ++ [⟨data, data⟩]⟩ (tmpF p) p) =
      (0, ⟨room, [], s + 1 + 1 + 1 + 1, false, savedDir D p pool.length, S, F ++ [some pool.length], P ++ [⟨ByteArray.mk #[], tmpF p, some pool.length⟩] ++ [⟨tmpF p, p, some pool.length⟩], pool ++ [⟨data, data⟩]⟩) := by
    unfold Dk.rename
    have := there0 (room := room) (s := s + 1 + 1 + 1) (S := S) (F := F ++ [some pool.length]) (P := P ++ [⟨ByteArray.mk #[], tmpF p, some pool.length⟩]) (pool := pool ++ [⟨data, data⟩]) h1 hm
    unfold Dk.there at this
    simp only [h1, h2, Bool.or_self] at this ⊢
    rw [this]
    rfl
  rw [hre]
  simp only [if_true]
  unfold Dk.dirsync
  simp only [step0, if_true, Dk.st]
  rw [show s + 1 + 1 + 1 + 1 + 1 = s + 5 by omega]
theorem save_full (hr : rightL (L p) = true) (hl : data.length ≤ 1048576) (hd : D.length < 8) (ht : mapGet D (tmpF p) = none) (he : ∀ e ∈ D, e.1 ≠ ByteArray.mk #[]) (hp : ∀ e ∈ D, ∃ q, e.2 = some q ∧ q < pool.length)
    (hroom : room - ((D.map (lenE pool)).sum : Int) < (data.length : Int)) : Dk.save ⟨room, [], s, false, D, S, F, P, pool⟩ p data =
    (60, ⟨room, [], s + 3, false, dDel (toF (ByteArray.mk #[]) (tmpF p) (some pool.length) D) (tmpF p), S, F ++ [some pool.length], P ++ [⟨ByteArray.mk #[], tmpF p, some pool.length⟩] ++ [⟨tmpF p, ByteArray.mk #[], none⟩], pool ++ [⟨[], []⟩]⟩) := by
  obtain ⟨h1, h2, h3, h4, h5⟩ := right_facts hr
  have hu := used_new (pool := pool) (f := ⟨[], []⟩) rfl ht he hp
  have hm : mapGet (toF (ByteArray.mk #[]) (tmpF p) (some pool.length) D) (tmpF p) = some (some pool.length) := by rw [mapGet_toF, if_pos rfl]
  unfold Dk.save
  rw [if_pos hr, if_neg (by omega), created hr hd]
  simp only [if_true]
  have hw : Dk.write ⟨room, [], s + 1, false, toF (ByteArray.mk #[]) (tmpF p) (some pool.length) D, S, F ++ [some pool.length], P ++ [⟨ByteArray.mk #[], tmpF p, some pool.length⟩], pool ++ [⟨[], []⟩]⟩ (tmpF p) data =
      (60, ⟨room, [], s + 1 + 1, false, toF (ByteArray.mk #[]) (tmpF p) (some pool.length) D, S, F ++ [some pool.length], P ++ [⟨ByteArray.mk #[], tmpF p, some pool.length⟩], pool ++ [⟨[], []⟩]⟩) := by
    unfold Dk.write
    rw [there0 h1 hm]
    simp only [Dk.used, hu]
    rw [if_pos (by omega)]
    rfl
  rw [hw]
  simp only
  rw [if_neg (by decide)]
  unfold Dk.remove
  rw [there0 h1 hm]
  simp only [Dk.change, Dk.st]
  rw [show s + 1 + 1 + 1 = s + 3 by omega]
  rfl
theorem load0 {i : Nat} {f : S_simfs_file} (hr : rightL (L p) = true) (hm : mapGet D p = some (some i)) (hf : pool[i]? = some f) : Dk.load ⟨room, [], s, false, D, S, F, P, pool⟩ p = ((0, f.fnow), ⟨room, [], s + 1, false, D, S, F, P, pool⟩) := by
  obtain ⟨h1, h2, h3, h4, h5⟩ := right_facts hr
  unfold Dk.load Dk.read
  rw [if_pos hr, there0 h2 hm]
  simp only [hf, Dk.st]
end
end Go.Proofs.Ytcaeafojgehamaa.W
namespace Go.Proofs.Ytcaeafojgehamaa.W
open Go Go.Q Go.Proofs
set_option linter.unusedVariables false
set_option linter.unusedSimpArgs false
theorem says_inr {d : Dk} {e s : Int} {dn : Bool} {di sa : Dir} {fl : List (Option Nat)} {po : List S_simfs_file} {y : SaveR} (hne : sa ≠ d.safe) (h : saysS d (e, ⟨d.room, d.plan, s, dn, di, sa, fl, [], po⟩) y) : y = .inr (e, s, dn, di, fl, sa, po) := by
  cases y with
  | inl r =>
    obtain ⟨e', s', dn', di', fl', pe', po'⟩ := r
    simp only [saysS, Prod.mk.injEq, Dk.mk.injEq] at h
    exact absurd h.2.2.2.2.2.2.1 hne
  | inr r =>
    obtain ⟨e', s', dn', di', fl', sa', po'⟩ := r
    simp only [saysS, Prod.mk.injEq, Dk.mk.injEq] at h
    obtain ⟨rfl, _, _, rfl, rfl, rfl, rfl, rfl, _, rfl⟩ := h
    rfl
theorem says_inl {d : Dk} {e s : Int} {dn : Bool} {di : Dir} {fl : List (Option Nat)} {pe : List S_simfs_entry} {po : List S_simfs_file} {y : SaveR} (hne : pe ≠ []) (h : saysS d (e, ⟨d.room, d.plan, s, dn, di, d.safe, fl, pe, po⟩) y) : y = .inl (e, s, dn, di, fl, pe, po) := by
  cases y with
  | inl r =>
    obtain ⟨e', s', dn', di', fl', pe', po'⟩ := r
    simp only [saysS, Prod.mk.injEq, Dk.mk.injEq] at h
    obtain ⟨rfl, _, _, rfl, rfl, rfl, _, rfl, rfl, rfl⟩ := h
    rfl
  | inr r =>
    obtain ⟨e', s', dn', di', fl', sa', po'⟩ := r
    simp only [saysS, Prod.mk.injEq, Dk.mk.injEq] at h
    exact absurd h.2.2.2.2.2.2.2.2.1 hne
abbrev nB : ByteArray := ByteArray.mk #[98]
theorem rightB : rightL (L nB) = true := by decide
theorem saved0 (n : Nat) : savedDir [] nB n = [(nB, some n)] := by kernel_rfl
theorem saved1 (m n : Nat) : savedDir [(nB, some m)] nB n = [(nB, some n)] := by kernel_rfl
theorem gone1 (m n : Nat) : dDel (toF (ByteArray.mk #[]) (tmpF nB) (some n) [(nB, some m)]) (tmpF nB) = [(nB, some m)] := by kernel_rfl
/-- A new disk. -/
theorem ok0 {room : Int} {pool : List S_simfs_file} (h0 : 0 ≤ room) (h1 : room ≤ 1073741824) (hp : ∀ f ∈ pool, f.fnow.length ≤ 1073741824 ∧ f.fsafe.length ≤ 1073741824) : Ok ⟨room, [], 0, false, [], [], [], [], pool⟩ 0 :=
  ⟨Int.le_refl _, Int.le_refl _, Nat.le_refl _, Nat.le_refl _, h0, h1, fun i => by simp [applyP], rfl, fun e he => by simp at he, fun e he => by simp at he, fun e he => by simp at he, hp⟩
theorem new_ok (k : Nat) {room : Int} (h0 : 0 ≤ room) (h1 : room ≤ 1073741824) : g_simfs_New k room = some (.inr ()) := by
  unfold g_simfs_New
  rw [df (by omega), bf, df (by omega)]
  rfl
theorem alive_ok (k : Nat) (hk : 3000000000000 ≤ k) (pool : List S_simfs_file) (hp : ∀ f ∈ pool, f.fnow.length ≤ 1073741824 ∧ f.fsafe.length ≤ 1073741824) : ∃ r, g_quirelaw22_alive k pool = some (true, r) ∧ ∀ f ∈ r, f.fnow.length ≤ 1073741824 ∧ f.fsafe.length ≤ 1073741824 := by
  unfold g_quirelaw22_alive
  rw [new_ok k (by decide) (by decide), Option.bind_some]
  simp only
  have o0 := ok0 (room := 100) (by decide) (by decide) hp
  obtain ⟨y, hy, hs⟩ := save_eq k (by omega) o0 (by decide) nB [120]
  obtain ⟨c, hc, o1⟩ := o0.save (by decide) nB [120]
  rw [save_ok rightB (by decide) (by decide) rfl (fun e he => by simp at he) (fun e he => by simp at he) (by simp)] at hs o1
  rw [saved0] at hs o1
  simp only at o1 hy
  have := says_inr (d := ⟨100, [], 0, false, [], [], [], [], pool⟩) (by simp) hs
  subst this
  rw [hy, Option.bind_some]
  simp only [g_simfs_Disk_Steps, Option.bind_some]
  have hb := boot_eq k hk (o1.bd (by omega)) o1.fp 0 []
  have o2 := o1.boot 0 []
  simp only [List.nil_append] at hb ⊢
  rw [show (0 : Int) + 5 = 5 from rfl] at *
  rw [hb, Option.bind_some]
  simp only
  have hl := load_eq k (by omega) (o2.bd (by omega)) nB
  have hd : Dk.boot ⟨100, [], 5, false, [(nB, some pool.length)], [(nB, some pool.length)], [] ++ [some pool.length], [], pool ++ [⟨[120], [120]⟩]⟩ 0 [] = ⟨100, [], 5, false, [(nB, some pool.length)], [(nB, some pool.length)], [some pool.length], [], pool ++ [⟨[120], [120]⟩]⟩ := by
    unfold Dk.boot
    simp only [List.nil_append, bootP, lastP, bootF, List.getElem?_nil, setP, List.take_nil, applyP]
  rw [hd] at hl o2
  simp only [List.nil_append] at hd
  rw [hd]
  rw [load0 (i := pool.length) (f := ⟨[120], [120]⟩) rightB rfl (lastP _ _)] at hl
  simp only at hl
  simp only
  rw [hl, Option.bind_some]
  refine ⟨pool ++ [⟨[120], [120]⟩], ?_, o2.pl⟩
  rw [show g_store_Temp k nB = some () from temp_eq k nB rightB]
  kernel_rfl
theorem same_eq (k : Nat) (a : List Int) : g_quirelaw01_Same k a a = some true := by
  unfold g_quirelaw01_Same
  rw [beq_toList, dt rfl]
  rfl
theorem storeRoom (a b : List Int) (less : Int) (hl : -9223372036854775808 ≤ less) (hl2 : less ≤ 9223372036854775807) (ha : (a.length : Int) ≤ 9223372036854775807) (hb : (b.length : Int) ≤ 9223372036854775807) : ∃ k r, g_quirelaw22_StoreRoom k a b less [] = some (true, r) := by
  obtain ⟨k, hk⟩ : ∃ k : Nat, 3000000000000 ≤ k := ⟨_, Nat.le_refl _⟩
  refine ⟨k, ?_⟩
  unfold g_quirelaw22_StoreRoom
  simp only [Option.bind_some]
  have hnil : ∀ f ∈ ([] : List S_simfs_file), f.fnow.length ≤ 1073741824 ∧ f.fsafe.length ≤ 1073741824 := fun f hf => by simp at hf
  by_cases hg : 4096 < (a.length : Int) ∨ 4096 < (b.length : Int) ∨ less < 0 ∨ (b.length : Int) < less
  · have e : (bif decide (4096 < ((List.length a : Nat) : Int)) then some true else bif decide (4096 < ((List.length b : Nat) : Int)) then some true else bif decide (less < 0) then some true else some (decide (((List.length b : Nat) : Int) < less))) = some true := by
      by_cases h1 : 4096 < (a.length : Int)
      · rw [dt h1, bt]
      · rw [df h1, bf]
        by_cases h2 : 4096 < (b.length : Int)
        · rw [dt h2, bt]
        · rw [df h2, bf]
          by_cases h3 : less < 0
          · rw [dt h3, bt]
          · rw [df h3, bf, dt (by omega)]
    rw [e, Option.bind_some, bt]
    obtain ⟨r, hr, _⟩ := alive_ok k hk [] hnil
    rw [hr]
    exact ⟨r, rfl⟩
  · have e : (bif decide (4096 < ((List.length a : Nat) : Int)) then some true else bif decide (4096 < ((List.length b : Nat) : Int)) then some true else bif decide (less < 0) then some true else some (decide (((List.length b : Nat) : Int) < less))) = some false := by
      rw [df (by omega), bf, df (by omega), bf, df (by omega), bf, df (by omega)]
    rw [e, Option.bind_some, bf, wi (n := (a.length : Int) + b.length) (by omega) (by omega), wi (by omega) (by omega), new_ok k (by omega) (by omega), Option.bind_some]
    simp only
    generalize hroom : (a.length : Int) + (b.length : Int) - less = room
    have o0 := ok0 (room := room) (pool := []) (by omega) (by omega) hnil
    obtain ⟨y, hy, hs⟩ := save_eq k (by omega) o0 (by decide) nB a
    obtain ⟨c, hc, o1⟩ := o0.save (by decide) nB a
    rw [save_ok rightB (by omega) (by decide) rfl (fun e he => by simp at he) (fun e he => by simp at he) (by simp; omega)] at hs o1
    rw [saved0] at hs o1
    simp only at o1 hy
    have := says_inr (d := ⟨room, [], 0, false, [], [], [], [], []⟩) (by simp) hs
    subst this
    rw [hy, Option.bind_some]
    dsimp only
    rw [show (!decide ((0 : Int) = 0)) = false from rfl, bf, Option.bind_some]
    simp only [List.nil_append, List.length_nil, show (0 : Int) + 5 = 5 from rfl] at o1 ⊢
    obtain ⟨y2, hy2, hs2⟩ := save_eq k (by omega) o1 (by omega) nB b
    obtain ⟨c2, hc2, o2⟩ := o1.save (by omega) nB b
    have hsum : ((List.map (lenE [(⟨a, a⟩ : S_simfs_file)]) [(nB, some 0)]).sum : Int) = (a.length : Int) := by simp [lenE, lenP]
    have hne : ∀ e ∈ [(nB, some 0)], e.1 ≠ ByteArray.mk #[] := fun e he => by rw [List.mem_singleton] at he; subst he; decide
    have hpp : ∀ e ∈ ([(nB, some 0)] : Dir), ∃ q, e.2 = some q ∧ q < [(⟨a, a⟩ : S_simfs_file)].length := fun e he => by rw [List.mem_singleton] at he; subst he; exact ⟨0, rfl, by simp⟩
    have htm : mapGet ([(nB, some 0)] : Dir) (tmpF nB) = none := by kernel_rfl
    by_cases h0 : 0 < less
    · rw [save_full rightB (by omega) (by decide) htm hne hpp (by rw [hsum]; omega)] at hs2 o2
      simp only [List.length_cons, List.length_nil, Nat.zero_add] at hs2 o2
      rw [gone1] at hs2 o2
      have := says_inl (d := ⟨room, [], 5, false, [(nB, some 0)], [(nB, some 0)], [some 0], [], [⟨a, a⟩]⟩) (by simp) hs2
      subst this
      simp only at hy2
      rw [hy2, Option.bind_some]
      dsimp only
      have hld := load_eq k (by omega) (o2.bd (by omega)) nB
      rw [load0 (i := 0) (f := ⟨a, a⟩) rightB (by kernel_rfl) rfl] at hld
      simp only at hld
      rw [hld, Option.bind_some]
      dsimp only
      rw [dt h0, bt, show decide ((60 : Int) = 60) = true from rfl, bt, show decide ((0 : Int) = 0) = true from rfl, bt, same_eq, Option.bind_some]
      obtain ⟨r, hr, _⟩ := alive_ok k hk ([⟨a, a⟩] ++ [⟨[], []⟩]) o2.pl
      rw [hr]
      exact ⟨r, rfl⟩
    · rw [save_ok rightB (by omega) (by decide) htm hne hpp (by rw [hsum]; omega)] at hs2 o2
      simp only [List.length_cons, List.length_nil, Nat.zero_add] at hs2 o2
      rw [saved1] at hs2 o2
      have := says_inr (d := ⟨room, [], 5, false, [(nB, some 0)], [(nB, some 0)], [some 0], [], [⟨a, a⟩]⟩) (by simp) hs2
      subst this
      simp only at hy2
      rw [hy2, Option.bind_some]
      dsimp only
      have hld := load_eq k (by omega) (o2.bd (by omega)) nB
      rw [load0 (i := 1) (f := ⟨b, b⟩) rightB (by kernel_rfl) rfl] at hld
      simp only at hld
      rw [hld, Option.bind_some]
      dsimp only
      rw [df h0, bf, show decide ((0 : Int) = 0) = true from rfl, bt, bt, same_eq, Option.bind_some]
      obtain ⟨r, hr, _⟩ := alive_ok k hk ([⟨a, a⟩] ++ [⟨b, b⟩]) o2.pl
      rw [hr]
      exact ⟨r, rfl⟩
theorem storeRoomW (a b : List Int) (less : Int) (wa : a.length ≤ maxLen ∧ ∀ x ∈ a, (Lit.int .u8 x).wf = true) (wb : b.length ≤ maxLen ∧ ∀ x ∈ b, (Lit.int .u8 x).wf = true) (wl : (Lit.int .i64 less).wf = true) : ∃ k r, g_quirelaw22_StoreRoom k a b less [] = some (true, r) := by
  have h1 := wa.1
  have h2 := wb.1
  have h3 := i64_wf wl
  have hm : maxLen = 9223372036854775807 := by decide
  exact storeRoom a b less h3.1 h3.2 (by omega) (by omega)
end Go.Proofs.Ytcaeafojgehamaa.W
