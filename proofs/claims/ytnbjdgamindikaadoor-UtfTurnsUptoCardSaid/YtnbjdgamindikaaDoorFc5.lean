/- Walks: Fc5 -/
import Derived.Test.YtnbjdgamindikaaDoorFb
import Derived.Test.YtnbjdgamindikaaDoorFc1
import Derived.Test.YtnbjdgamindikaaDoorFc2
import Derived.Test.YtnbjdgamindikaaDoorFc3
import Derived.Test.YtnbjdgamindikaaDoorFc4
namespace Go.Proofs.YtnbjdgamindikaaDoor.W
open Go Go.Q Go.Proofs
set_option linter.unusedVariables false
set_option linter.unusedSimpArgs false
set_option maxRecDepth 100000 in
set_option maxHeartbeats 4000000 in
theorem s_strings_Builder_Grow (k : Nat) (x12161 : Int) (H : g_strings_Builder_Grow k x12161 = some ()) : Go.Q.Spec Tryd.prog 47 1 [.ptr 0 0, .lit (.int .i64 x12161)] (Mem.nil.push (.cells 50 [.lit (.pointer none), .lit (.slice none 0 0)])) (fun o M => o = .ret (.tup []) ∧ M = ((Mem.nil.push (.cells 50 [.ptr 0 0, .whole 1])).push (.row 5 (Rd.int .u8) ([] : List Int)))) := by
  unfold g_strings_Builder_Grow at H
  refine Go.Q.Spec.of_bodyR (rs := []) (nt := 25) Tryd.func47 rfl rfl (by intro t T h; simp at h) rfl rfl fun cx hnp => ?_
  refine WP.seq ?_
  refine WP.region ?_
  refine WPL.q (q_mv (v := .ptr _ _) rfl) rfl ?_
  obtain ⟨_, h12189, H⟩ := bnd H
  refine WPL.c (runs_call (s := [0]) (t := [0]) (N := 1) (bor := []) fn49 rfl (s_strings_Builder_copyCheck k h12189) ⟨rfl, ⟨trivial, .inr ⟨rfl, rfl, rfl⟩⟩, by decide, rfl, trivial⟩ rfl trivial (.ren rfl rfl .nil) rfl ⟨trivial, rfl⟩ rfl) rfl ?_
  refine WPL.nilW ?_
  refine W.now ?_
  refine Then.n ?_
  refine WP.seq ?_
  refine WP.seq ?_
  refine WP.region ?_
  refine WPL.q (q_mv (v := .lit (.int _ _)) rfl) rfl ?_
  refine WPL.q (q_lss rfl rfl) rfl ?_
  refine WPL.nilW ?_
  refine W.now ?_
  refine Then.n ?_
  refine WP.cond (t := (decide (x12161 < 0))) rfl (fun hb12191 => ?_) (fun hb12191 => ?_)
  · replace H := cnt hb12191 H
    refine WP.region ?_
    refine WPL.q (q_mki cn9) rfl ?_
    exact nf rfl H
  · replace H := cnf hb12191 H
    refine WP.skipW ?_
    refine W.now ?_
    refine Then.n ?_
    refine WP.seq ?_
    refine WP.regionD' 13 [0] [] mixed rfl ?_
    refine WPD.takeT 0 rfl (by kernel_rfl) (q_mv (v := .ptr _ _) rfl) rfl ?_
    refine WPD.takeT 1 rfl (by kernel_rfl) (q_nilCheck rfl) rfl ?_
    refine WPD.takeT 2 rfl (by kernel_rfl) (q_fieldAddr fi50_1 rfl rfl) rfl ?_
    refine WPD.takeT 5 rfl (by kernel_rfl) (q_mv (v := .ptr _ _) rfl) rfl ?_
    refine WPD.takeT 6 rfl (by kernel_rfl) (q_nilCheck rfl) rfl ?_
    refine WPD.takeT 7 rfl (by kernel_rfl) (q_fieldAddr fi50_1 rfl rfl) rfl ?_
    refine WPD.takeT 11 rfl (by kernel_rfl) (q_mv (v := .lit (.int _ _)) rfl) rfl ?_
    refine WPD.take 3 rfl (by kernel_rfl) (q_load sc47 rfl rfl rfl) rfl rfl ?_
    refine WPD.takeT 4 rfl (by kernel_rfl) (q_cap_nil Tryd.underlying47 rfl) rfl ?_
    refine WPD.take 8 rfl (by kernel_rfl) (q_load sc47 rfl rfl rfl) rfl rfl ?_
    refine WPD.takeT 9 rfl (by kernel_rfl) (q_len_nil sl47 rfl) rfl ?_
    refine WPD.takeT 10 rfl (by kernel_rfl) (q_sub rfl rfl) rfl ?_
    obtain ⟨x12194, h12194, H⟩ := bnd H
    refine WPD.takeT 12 rfl (by kernel_rfl) (q_nm (q_lss rfl rfl) (nm_bool h12194)) rfl ?_
    refine WPD.doneW (by kernel_rfl) ?_
    refine W.now ?_
    refine Then.n ?_
    refine WP.cond (t := x12194) rfl (fun hb12194 => ?_) (fun hb12194 => ?_)
    · replace H := cnt hb12194 H
      refine WP.region ?_
      refine WPL.q (q_mv (v := .ptr _ _) rfl) rfl ?_
      refine WPL.q (q_mv (v := .lit (.int _ _)) rfl) rfl ?_
      obtain ⟨_, h12195, H⟩ := bnd H
      refine WPL.c (runs_call (s := [0]) (t := [0, 1]) (N := 2) (bor := []) fn54 rfl (s_strings_Builder_grow k x12161 h12195) ⟨rfl, ⟨trivial, .inr ⟨rfl, rfl, rfl⟩⟩, by decide, rfl, trivial⟩ rfl trivial (.ren rfl rfl (.ren rfl rfl .nil)) rfl ⟨⟨trivial, rfl⟩, rfl⟩ rfl) rfl ?_
      refine WPL.nilW ?_
      refine W.now ?_
      exact ⟨trivial, _, rfl, [0, 1], (.tup []), ((Mem.nil.push (.cells 50 [.ptr 0 0, .whole 1])).push (.row 5 (Rd.int .u8) ([] : List Int))), ⟨rfl, ⟨⟨trivial, .inr ⟨rfl, rfl, rfl⟩⟩, .inr ⟨rfl, rfl, rfl⟩⟩, by decide, rfl, ⟨trivial, rfl⟩⟩, rfl, rfl, rfl, rfl⟩
    · replace H := cnf hb12194 H
      refine WP.skipW ?_
      refine W.cv (Cv.virC 5 (Rd.int .u8) (N := 1) rfl rfl (i := 0) (off := 1) rfl rfl) rfl ?_
      refine W.now ?_
      exact ⟨trivial, _, rfl, [0, 1], (.tup []), ((Mem.nil.push (.cells 50 [.ptr 0 0, .whole 1])).push (.row 5 (Rd.int .u8) ([] : List Int))), ⟨rfl, ⟨⟨trivial, .inr ⟨rfl, rfl, rfl⟩⟩, .inr ⟨rfl, rfl, rfl⟩⟩, by decide, rfl, ⟨trivial, rfl⟩⟩, rfl, rfl, rfl, rfl⟩
set_option maxRecDepth 100000 in
set_option maxHeartbeats 4000000 in
theorem s_strings_Builder_copyCheck__c (k : Nat) (x12202 : (List Int)) (H : g_strings_Builder_copyCheck__c k x12202 = some ()) : Go.Q.Spec Tryd.prog 49 1 [.ptr 0 0] ((Mem.nil.push (.cells 50 [.ptr 0 0, .whole 1])).push (.row 5 (Rd.int .u8) x12202)) (fun o M => o = .ret (.tup []) ∧ M = ((Mem.nil.push (.cells 50 [.ptr 0 0, .whole 1])).push (.row 5 (Rd.int .u8) x12202))) := by
  unfold g_strings_Builder_copyCheck__c at H
  refine Go.Q.Spec.of_bodyR (rs := []) (nt := 20) Tryd.func49 rfl rfl (by intro t T h; simp at h) rfl rfl fun cx hnp => ?_
  refine WP.seq ?_
  refine WP.region ?_
  refine WPL.q (q_mv (v := .ptr _ _) rfl) rfl ?_
  refine WPL.q (q_nilCheck rfl) rfl ?_
  refine WPL.q (q_fieldAddr fi50_0 rfl rfl) rfl ?_
  refine WPL.q (q_load sc48 rfl rfl rfl) rfl ?_
  refine WPL.q (q_eqlp Tryd.underlying48 rfl) rfl ?_
  refine WPL.nilW ?_
  refine W.now ?_
  refine Then.n ?_
  refine WP.condF rfl ?_
  refine WP.seq ?_
  refine WP.region ?_
  refine WPL.q (q_mv (v := .ptr _ _) rfl) rfl ?_
  refine WPL.q (q_nilCheck rfl) rfl ?_
  refine WPL.q (q_fieldAddr fi50_0 rfl rfl) rfl ?_
  refine WPL.q (q_load sc48 rfl rfl rfl) rfl ?_
  refine WPL.q (q_mv (v := .ptr _ _) rfl) rfl ?_
  refine WPL.q (q_neqpSelf Tryd.underlying48 te50 rfl rfl) rfl ?_
  refine WPL.nilW ?_
  refine W.now ?_
  refine Then.n ?_
  refine WP.condF rfl ?_
  refine WP.skipW ?_
  refine W.now ?_
  exact ⟨trivial, _, rfl, [0, 1], (.tup []), ((Mem.nil.push (.cells 50 [.ptr 0 0, .whole 1])).push (.row 5 (Rd.int .u8) x12202)), ⟨rfl, ⟨⟨trivial, .inr ⟨rfl, rfl, rfl⟩⟩, .inr ⟨rfl, rfl, rfl⟩⟩, by decide, rfl, ⟨trivial, rfl⟩⟩, rfl, rfl, rfl, rfl⟩
set_option maxRecDepth 100000 in
set_option maxHeartbeats 4000000 in
theorem s_strings_Builder_WriteString (k : Nat) (x12199 : ByteArray) (x12200 : (List Int)) (H : g_strings_Builder_WriteString k x12199 x12200 = some ()) : Go.Q.Spec Tryd.prog 48 1 [.ptr 0 0, .lit (.string x12199)] ((Mem.nil.push (.cells 50 [.ptr 0 0, .whole 1])).push (.row 5 (Rd.int .u8) x12200)) (fun o M => o = .ret (.tup [.lit (.int .i64 ((ByteArray.size x12199 : Nat) : Int)), .lit .nilIface]) ∧ M = ((Mem.nil.push (.cells 50 [.ptr 0 0, .whole 1])).push (.row 5 (Rd.int .u8) (x12200 ++ (strInts x12199))))) := by
  unfold g_strings_Builder_WriteString at H
  refine Go.Q.Spec.of_bodyR (rs := [.tmp 4, .tmp 5]) (nt := 19) Tryd.func48 rfl rfl (by intro t T h; simp at h) rfl rfl fun cx hnp => ?_
  refine WP.seq ?_
  refine WP.region ?_
  refine WPL.q (q_as (v := .lit (.int _ _)) rfl) rfl ?_
  refine WPL.q (q_as (v := .lit _) rfl) rfl ?_
  refine WPL.nilW ?_
  refine W.now ?_
  refine Then.n ?_
  refine WP.seq ?_
  refine WP.region ?_
  refine WPL.q (q_mv (v := .ptr _ _) rfl) rfl ?_
  obtain ⟨_, h12205, H⟩ := bnd H
  refine WPL.c (runs_call (s := [0, 1]) (t := [0, 2]) (N := 3) (bor := []) fn49 rfl (s_strings_Builder_copyCheck__c k x12200 h12205) ⟨rfl, ⟨⟨trivial, .inr ⟨rfl, rfl, rfl⟩⟩, .inr ⟨rfl, rfl, rfl⟩⟩, by decide, rfl, trivial⟩ rfl trivial (.ren rfl rfl .nil) rfl ⟨⟨trivial, rfl⟩, rfl⟩ rfl) rfl ?_
  refine WPL.nilW ?_
  refine W.now ?_
  refine Then.n ?_
  refine WP.seq ?_
  refine WP.region ?_
  refine WPL.q (q_mv (v := .ptr _ _) rfl) rfl ?_
  refine WPL.q (q_mv (v := .ptr _ _) rfl) rfl ?_
  refine WPL.q (q_nilCheck rfl) rfl ?_
  refine WPL.q (q_fieldAddr fi50_1 rfl rfl) rfl ?_
  refine WPL.q (q_load sc47 rfl rfl rfl) rfl ?_
  refine WPL.q (q_mv (v := .lit (.string _)) rfl) rfl ?_
  obtain ⟨h12206, H⟩ := grd H
  refine WPL.d (d_append ap47 rfl rfl rfl rfl (src_str Tryd.underlying9 rfl) h12206 rfl) rfl ?_
  refine WPL.q (q_nilCheck rfl) rfl ?_
  refine WPL.q (q_fieldAddr fi50_1 rfl rfl) rfl ?_
  refine WPL.s (s_store sz47 rfl rfl rfl rfl rfl) ?_
  refine WPL.nilW ?_
  refine W.now ?_
  refine Then.n ?_
  refine WP.seq ?_
  refine WP.region ?_
  refine WPL.q (q_mv (v := .lit (.string _)) rfl) rfl ?_
  refine WPL.q (q_len_str Tryd.underlying9 rfl) rfl ?_
  refine WPL.q (q_as (v := .lit (.int _ _)) rfl) rfl ?_
  refine WPL.q (q_as (v := .lit _) rfl) rfl ?_
  refine WPL.nilW ?_
  refine W.now ?_
  refine Then.n ?_
  refine WP.retW ?_
  refine W.now ?_
  exact ⟨trivial, _, rfl, [0, 3], (.tup [.lit (.int .i64 ((ByteArray.size x12199 : Nat) : Int)), .lit .nilIface]), ((Mem.nil.push (.cells 50 [.ptr 0 0, .whole 1])).push (.row 5 (Rd.int .u8) (x12200 ++ (strInts x12199)))), ⟨rfl, ⟨⟨trivial, .inr ⟨rfl, rfl, rfl⟩⟩, .inr ⟨rfl, rfl, rfl⟩⟩, by decide, rfl, ⟨trivial, rfl⟩⟩, rfl, rfl, rfl, rfl⟩
set_option maxRecDepth 100000 in
set_option maxHeartbeats 4000000 in
theorem s_strings_Builder_String__b (k : Nat) (x12225 : (List Int)) (r : (Unit ⊕ Unit)) (H : g_strings_Builder_String__b k x12225 = some r) : Go.Q.Spec Tryd.prog 39 1 [.ptr 0 0] ((Mem.nil.push (.cells 50 [.ptr 0 0, .whole 1])).push (.row 5 (Rd.int .u8) x12225)) (fun o M => match (generalizing := false) r with | (Sum.inl _) => o = .ret (.lit (.string ByteArray.empty)) ∧ M = ((Mem.nil.push (.cells 50 [.ptr 0 0, .whole 1])).push (.row 5 (Rd.int .u8) x12225)) | (Sum.inr _) => o = .ret (.lit (.string (strOf x12225))) ∧ M = ((Mem.nil.push (.cells 50 [.ptr 0 0, .whole 1])).push (.gone))) := by
  unfold g_strings_Builder_String__b at H
  refine Go.Q.Spec.of_bodyR (rs := [.tmp 2]) (nt := 14) Tryd.func39 rfl rfl (by intro t T h; simp at h) rfl rfl fun cx hnp => ?_
  refine WP.seq ?_
  refine WP.region ?_
  refine WPL.q (q_as (v := .lit (.string _)) rfl) rfl ?_
  refine WPL.nilW ?_
  refine W.now ?_
  refine Then.n ?_
  refine WP.seq ?_
  refine WP.regionD' 12 [0] [] mixed rfl ?_
  refine WPD.takeT 0 rfl (by kernel_rfl) (q_mv (v := .ptr _ _) rfl) rfl ?_
  refine WPD.takeT 1 rfl (by kernel_rfl) (q_nilCheck rfl) rfl ?_
  refine WPD.takeT 2 rfl (by kernel_rfl) (q_fieldAddr fi50_1 rfl rfl) rfl ?_
  refine WPD.takeT 5 rfl (by kernel_rfl) (q_mv (v := .ptr _ _) rfl) rfl ?_
  refine WPD.takeT 6 rfl (by kernel_rfl) (q_nilCheck rfl) rfl ?_
  refine WPD.takeT 7 rfl (by kernel_rfl) (q_fieldAddr fi50_1 rfl rfl) rfl ?_
  refine WPD.take 3 rfl (by kernel_rfl) (q_load sc47 rfl rfl rfl) rfl rfl ?_
  refine WPD.take 8 rfl (by kernel_rfl) (q_load sc47 rfl rfl rfl) rfl rfl ?_
  refine WPD.takeT 9 rfl (by kernel_rfl) (q_len_row sl47 rfl rfl) rfl ?_
  refine WPD.splitB (decide (List.length x12225 = 0)) (fun hb12229 => ?_) (fun hb12229 => ?_)
  · replace H := cnt hb12229 H
    refine WPD.eff 4 [0] [] rfl (by kernel_rfl) (Does.runs (d_sliceData0 Tryd.underlying71 rfl rfl hb12229)) rfl rfl ?_
    refine WPD.eff 10 [0] [] rfl (by kernel_rfl) (Does.runs (Quiet.does (q_unsafeStr0 rfl rfl (len0 hb12229)))) rfl rfl ?_
    refine WPD.takeT 11 rfl (by kernel_rfl) (q_as (v := .lit (.string _)) rfl) rfl ?_
    refine WPD.doneW (by kernel_rfl) ?_
    refine W.now ?_
    refine Then.n ?_
    refine WP.retW ?_
    refine W.now ?_
    have q0 := Option.some.inj H
    subst q0
    exact ⟨trivial, _, rfl, [0, 1], (.lit (.string ByteArray.empty)), ((Mem.nil.push (.cells 50 [.ptr 0 0, .whole 1])).push (.row 5 (Rd.int .u8) x12225)), ⟨rfl, ⟨⟨trivial, .inr ⟨rfl, rfl, rfl⟩⟩, .inr ⟨rfl, rfl, rfl⟩⟩, by decide, rfl, ⟨trivial, rfl⟩⟩, rfl, rfl, rfl, rfl⟩
  · replace H := cnf hb12229 H
    refine WPD.eff 4 [0] [] rfl (by kernel_rfl) (Does.runs (Quiet.does (q_sliceData rfl rfl hb12229))) rfl rfl ?_
    refine WPD.eff 10 [0] [] rfl (by kernel_rfl) (Does.runs (d_unsafeStr Tryd.underlying71 (by kernel_rfl) rfl rfl rfl hb12229 rfl)) rfl rfl ?_
    refine WPD.takeT 11 rfl (by kernel_rfl) (q_as (v := .lit (.string _)) rfl) rfl ?_
    refine WPD.doneW (by kernel_rfl) ?_
    refine W.now ?_
    refine Then.n ?_
    refine WP.retW ?_
    refine W.now ?_
    have q0 := Option.some.inj H
    subst q0
    exact ⟨trivial, _, rfl, [0, 1], (.lit (.string (strOf x12225))), ((Mem.nil.push (.cells 50 [.ptr 0 0, .whole 1])).push (.gone)), ⟨rfl, ⟨⟨trivial, .inr ⟨rfl, rfl, rfl⟩⟩, .inl rfl⟩, by decide, rfl, ⟨trivial, rfl⟩⟩, rfl, rfl, rfl, rfl⟩
set_option maxRecDepth 100000 in
set_option maxHeartbeats 4000000 in
theorem s_strings_Join (k : Nat) (x12076 : (List ByteArray)) (x12077 : ByteArray) (x12233 : ByteArray) (H : g_strings_Join k x12076 x12077 = some x12233) : Go.Q.Spec Tryd.prog 35 0 [.ro (Rd.slice Rd.str) true x12076, .lit (.string x12077)] Mem.nil (fun o M => o = .ret (.lit (.string x12233)) ∧ M = Mem.nil) := by
  unfold g_strings_Join at H
  refine Go.Q.Spec.of_bodyR (rs := [.tmp 4]) (nt := 75) Tryd.func35 rfl rfl (by intro t T h; simp at h) rfl rfl fun cx hnp => ?_
  refine WP.seq ?_
  refine WP.region ?_
  refine WPL.q (q_as (v := .lit (.string _)) rfl) rfl ?_
  refine WPL.nilW ?_
  refine W.now ?_
  refine Then.n ?_
  refine WP.seq ?_
  refine WP.seq ?_
  refine WP.region ?_
  refine WPL.q (q_mv (v := .ro _ _ _) rfl) rfl ?_
  refine WPL.q (q_len_ro sl38 rfl) rfl ?_
  refine WPL.nilW ?_
  refine W.now ?_
  refine Then.n ?_
  refine WP.block ?_
  refine WP.seq ?_
  refine WP.region ?_
  obtain ⟨x12239, h12239, H⟩ := bnd H
  refine WPL.q (q_nm (q_eql rfl rfl) (nm_bool h12239)) rfl ?_
  refine WPL.q (q_as (v := .lit (.bool _)) rfl) rfl ?_
  refine WPL.nilW ?_
  refine W.now ?_
  refine Then.n ?_
  refine WP.cond (t := x12239) rfl (fun hb12239 => ?_) (fun hb12239 => ?_)
  · replace H := cnt hb12239 H
    refine WP.seq ?_
    refine WP.region ?_
    refine WPL.q (q_as (v := .lit (.string _)) rfl) rfl ?_
    refine WPL.nilW ?_
    refine W.now ?_
    refine Then.n ?_
    refine WP.retW ?_
    refine W.now ?_
    refine InBlock.r ?_
    refine Then.r ?_
    have q0 := (Option.some.inj H)
    subst q0
    exact ⟨trivial, _, rfl, [], (.lit (.string (ByteArray.mk #[]))), Mem.nil, ⟨rfl, trivial, by decide, rfl, trivial⟩, rfl, rfl, rfl, rfl⟩
  · replace H := cnf hb12239 H
    refine WP.seq ?_
    refine WP.region ?_
    obtain ⟨x12241, h12241, H⟩ := bnd H
    refine WPL.q (q_nm (q_eql rfl rfl) (nm_bool h12241)) rfl ?_
    refine WPL.q (q_as (v := .lit (.bool _)) rfl) rfl ?_
    refine WPL.nilW ?_
    refine W.now ?_
    refine Then.n ?_
    refine WP.cond (t := x12241) rfl (fun hb12241 => ?_) (fun hb12241 => ?_)
    · replace H := cnt hb12241 H
      refine WP.seq ?_
      refine WP.region ?_
      refine WPL.q (q_mv (v := .ro _ _ _) rfl) rfl ?_
      obtain ⟨x12243, h12243, H⟩ := bnd H
      refine WPL.q (q_index_ro sl38 rfl rfl rfl h12243) rfl ?_
      refine WPL.q (q_load_sc sc9 rfl) rfl ?_
      refine WPL.q (q_as (v := .lit (.string _)) rfl) rfl ?_
      refine WPL.nilW ?_
      refine W.now ?_
      refine Then.n ?_
      refine WP.retW ?_
      refine W.now ?_
      refine InBlock.r ?_
      refine Then.r ?_
      have q0 := (Option.some.inj H)
      subst q0
      exact ⟨trivial, _, rfl, [], (.lit (.string x12243)), Mem.nil, ⟨rfl, trivial, by decide, rfl, trivial⟩, rfl, rfl, rfl, rfl⟩
    · replace H := cnf hb12241 H
      refine WP.skipW ?_
      refine W.now ?_
      refine InBlock.n ?_
      refine Then.n ?_
      refine WP.seq ?_
      refine WP.region ?_
      refine WPL.q (q_as (v := .lit (.int _ _)) rfl) rfl ?_
      refine WPL.nilW ?_
      refine W.now ?_
      refine Then.n ?_
      refine WP.seq ?_
      obtain ⟨x12258, H12272, H⟩ := bnd H
      refine WP.monoW (Q := fun x E M => x = .normal ∧ E = (((Env.none.upd 0 (.ro (Rd.slice Rd.str) true x12076)).upd 1 (.lit (.string x12077))).upd 5 (.lit (.int .i64 x12258))) ∧ M = Mem.nil) ?_ ?_
      · clear H
        have H := H12272
        clear H12272
        refine WP.seq ?_
        refine WP.region ?_
        refine WPL.q (q_mv (v := .lit (.string _)) rfl) rfl ?_
        refine WPL.q (q_len_str Tryd.underlying9 rfl) rfl ?_
        obtain ⟨x12259, h12259, H⟩ := bnd H
        refine WPL.q (q_nm (q_gtr rfl rfl) (nm_bool h12259)) rfl ?_
        refine WPL.nilW ?_
        refine W.now ?_
        refine Then.n ?_
        refine WP.cond (t := x12259) rfl (fun hb12259 => ?_) (fun hb12259 => ?_)
        · replace H := cnt hb12259 H
          refine WP.seq ?_
          refine WP.seq ?_
          refine WP.region ?_
          refine WPL.q (q_mv (v := .lit (.string _)) rfl) rfl ?_
          refine WPL.q (q_len_str Tryd.underlying9 rfl) rfl ?_
          refine WPL.q (q_mv (v := .ro _ _ _) rfl) rfl ?_
          refine WPL.q (q_len_ro sl38 rfl) rfl ?_
          obtain ⟨x12266, h12266, H⟩ := bnd H
          refine WPL.q (q_nm (q_sub rfl rfl) (nm_int h12266)) rfl ?_
          obtain ⟨h12266, H⟩ := grd H
          obtain ⟨x12268, h12268, H⟩ := bnd H
          refine WPL.q (q_nm (q_quo rfl rfl (bnot h12266)) (nm_int h12268)) rfl ?_
          obtain ⟨x12269, h12269, H⟩ := bnd H
          refine WPL.q (q_nm (q_geq rfl rfl) (nm_bool h12269)) rfl ?_
          refine WPL.nilW ?_
          refine W.now ?_
          refine Then.n ?_
          refine WP.cond (t := x12269) rfl (fun hb12269 => ?_) (fun hb12269 => ?_)
          · replace H := cnt hb12269 H
            refine WP.region ?_
            refine WPL.q (q_mki cn9) rfl ?_
            exact nf rfl H
          · replace H := cnf hb12269 H
            refine WP.skipW ?_
            refine W.now ?_
            refine Then.n ?_
            refine WP.region ?_
            refine WPL.q (q_mv (v := .lit (.int _ _)) rfl) rfl ?_
            refine WPL.q (q_mv (v := .lit (.string _)) rfl) rfl ?_
            refine WPL.q (q_len_str Tryd.underlying9 rfl) rfl ?_
            refine WPL.q (q_mv (v := .ro _ _ _) rfl) rfl ?_
            refine WPL.q (q_len_ro sl38 rfl) rfl ?_
            obtain ⟨x12271, h12271, H⟩ := bnd H
            refine WPL.q (q_nm (q_sub rfl rfl) (nm_int h12271)) rfl ?_
            obtain ⟨x12272, h12272, H⟩ := bnd H
            refine WPL.q (q_nm (q_mul rfl rfl) (nm_int h12272)) rfl ?_
            refine WPL.q (q_add rfl rfl) rfl ?_
            refine WPL.q (q_as (v := .lit (.int _ _)) rfl) rfl ?_
            refine WPL.nilW ?_
            refine W.cv (Cv.weak (E' := (((Env.none.upd 0 (.ro (Rd.slice Rd.str) true x12076)).upd 1 (.lit (.string x12077))).upd 5 (.lit (.int .i64 (IntKind.wrap .i64 (0 + x12272)))))) (M' := Mem.nil) [] hnp ⟨rfl, trivial, by decide, rfl, trivial⟩ (LeE.upd rfl rfl (LeE.upd rfl rfl (LeE.upd rfl rfl (LeE.none rfl rfl))))) rfl ?_
            refine W.now ?_
            have q0 := (Option.some.inj H)
            subst q0
            exact ⟨rfl, rfl, rfl⟩
        · replace H := cnf hb12259 H
          refine WP.skipW ?_
          refine W.cv (Cv.weak (E' := (((Env.none.upd 0 (.ro (Rd.slice Rd.str) true x12076)).upd 1 (.lit (.string x12077))).upd 5 (.lit (.int .i64 0)))) (M' := Mem.nil) [] hnp ⟨rfl, trivial, by decide, rfl, trivial⟩ (LeE.upd rfl rfl (LeE.upd rfl rfl (LeE.upd rfl rfl (LeE.none rfl rfl))))) rfl ?_
          refine W.now ?_
          have q0 := (Option.some.inj H)
          subst q0
          exact ⟨rfl, rfl, rfl⟩
      · rintro _ _ _ ⟨rfl, rfl, rfl⟩
        refine W.now ?_
        refine Then.n ?_
        refine WP.seq ?_
        refine WP.seq ?_
        refine WP.region ?_
        refine WPL.q (q_mv (v := .ro _ _ _) rfl) rfl ?_
        refine WPL.q (q_len_ro sl38 rfl) rfl ?_
        refine WPL.q (q_mv (v := .lit (.int _ _)) rfl) rfl ?_
        refine WPL.nilW ?_
        refine W.now ?_
        refine Then.n ?_
        refine WP.block ?_
        refine WP.cv (Cv.weak (E' := ((((((Env.none.upd 0 (.ro (Rd.slice Rd.str) true x12076)).upd 1 (.lit (.string x12077))).upd 5 (.lit (.int .i64 x12258))).upd 39 (.ro (Rd.slice Rd.str) true x12076)).upd 40 (.lit (.int .i64 ((List.length x12076 : Nat) : Int)))).upd 41 (.lit (.int .i64 0)))) (M' := Mem.nil) [] hnp ⟨rfl, trivial, by decide, rfl, trivial⟩ (LeE.upd rfl rfl (LeE.upd rfl rfl (LeE.upd rfl rfl (LeE.upd rfl rfl (LeE.upd rfl rfl (LeE.upd rfl rfl (LeE.none rfl rfl)))))))) ?_
        obtain ⟨x12314, H12333, H⟩ := bnd H
        refine WP.monoW (Q := fun x E M => x = .exit 1 ∧ E = (((Env.none.upd 0 (.ro (Rd.slice Rd.str) true x12076)).upd 1 (.lit (.string x12077))).upd 5 (.lit (.int .i64 x12314))) ∧ M = Mem.nil) ?_ ?_
        · refine WP.loop (β := Int × Int) (fun n b => g_strings_Join_l0 k x12076 n b.1 b.2 = some x12314) (fun b => ((((((Env.none.upd 0 (.ro (Rd.slice Rd.str) true x12076)).upd 1 (.lit (.string x12077))).upd 5 (.lit (.int .i64 b.1))).upd 39 (.ro (Rd.slice Rd.str) true x12076)).upd 40 (.lit (.int .i64 ((List.length x12076 : Nat) : Int)))).upd 41 (.lit (.int .i64 b.2)))) (fun b => Mem.nil) k (x12258, 0) H12333 rfl rfl ?_
          rintro n ⟨x12293, x12294⟩ H
          obtain _ | n := n
          · exact nf rfl H
          rw [g_strings_Join_l0.eq_2] at H
          show WP _ _ _ _ ((((((Env.none.upd 0 (.ro (Rd.slice Rd.str) true x12076)).upd 1 (.lit (.string x12077))).upd 5 (.lit (.int .i64 x12293))).upd 39 (.ro (Rd.slice Rd.str) true x12076)).upd 40 (.lit (.int .i64 ((List.length x12076 : Nat) : Int)))).upd 41 (.lit (.int .i64 x12294))) Mem.nil _
          refine WP.seq ?_
          refine WP.region ?_
          obtain ⟨x12315, h12315, H⟩ := bnd H
          refine WPL.q (q_nm (q_lss rfl rfl) (nm_bool h12315)) rfl ?_
          refine WPL.nilW ?_
          refine W.now ?_
          refine Then.n ?_
          refine WP.seq ?_
          refine WP.cond (t := x12315) rfl (fun hb12316 => ?_) (fun hb12316 => ?_)
          · replace H := cnt hb12316 H
            refine WP.skipW ?_
            refine W.now ?_
            refine Then.n ?_
            refine WP.seq ?_
            refine WP.block ?_
            refine WP.seq ?_
            refine WP.region ?_
            obtain ⟨x12326, h12326, H⟩ := bnd H
            refine WPL.q (q_index_ro sl38 rfl rfl rfl h12326) rfl ?_
            refine WPL.q (q_load_sc sc9 rfl) rfl ?_
            refine WPL.q (q_as (v := .lit (.string _)) rfl) rfl ?_
            refine WPL.nilW ?_
            refine W.now ?_
            refine Then.n ?_
            refine WP.seq ?_
            refine WP.seq ?_
            refine WP.region ?_
            refine WPL.q (q_mv (v := .lit (.string _)) rfl) rfl ?_
            refine WPL.q (q_len_str Tryd.underlying9 rfl) rfl ?_
            refine WPL.q (q_mv (v := .lit (.int _ _)) rfl) rfl ?_
            obtain ⟨x12330, h12330, H⟩ := bnd H
            refine WPL.q (q_nm (q_sub rfl rfl) (nm_int h12330)) rfl ?_
            obtain ⟨x12331, h12331, H⟩ := bnd H
            refine WPL.q (q_nm (q_gtr rfl rfl) (nm_bool h12331)) rfl ?_
            refine WPL.nilW ?_
            refine W.now ?_
            refine Then.n ?_
            refine WP.cond (t := x12331) rfl (fun hb12331 => ?_) (fun hb12331 => ?_)
            · replace H := cnt hb12331 H
              refine WP.region ?_
              refine WPL.q (q_mki cn9) rfl ?_
              exact nf rfl H
            · replace H := cnf hb12331 H
              refine WP.skipW ?_
              refine W.now ?_
              refine Then.n ?_
              refine WP.region ?_
              refine WPL.q (q_mv (v := .lit (.int _ _)) rfl) rfl ?_
              refine WPL.q (q_mv (v := .lit (.string _)) rfl) rfl ?_
              refine WPL.q (q_len_str Tryd.underlying9 rfl) rfl ?_
              obtain ⟨x12333, h12333, H⟩ := bnd H
              refine WPL.q (q_nm (q_add rfl rfl) (nm_int h12333)) rfl ?_
              refine WPL.q (q_as (v := .lit (.int _ _)) rfl) rfl ?_
              refine WPL.nilW ?_
              refine W.now ?_
              refine InBlock.n ?_
              refine Then.n ?_
              refine WP.region ?_
              refine WPL.q (q_add rfl rfl) rfl ?_
              refine WPL.q (q_mv (v := .lit (.int _ _)) rfl) rfl ?_
              refine WPL.nilW ?_
              refine W.cv (Cv.weak (E' := ((((((Env.none.upd 0 (.ro (Rd.slice Rd.str) true x12076)).upd 1 (.lit (.string x12077))).upd 5 (.lit (.int .i64 x12333))).upd 39 (.ro (Rd.slice Rd.str) true x12076)).upd 40 (.lit (.int .i64 ((List.length x12076 : Nat) : Int)))).upd 41 (.lit (.int .i64 (IntKind.wrap .i64 (x12294 + 1)))))) (M' := Mem.nil) [] hnp ⟨rfl, trivial, by decide, rfl, trivial⟩ (LeE.upd rfl rfl (LeE.upd rfl rfl (LeE.upd rfl rfl (LeE.upd rfl rfl (LeE.upd rfl rfl (LeE.upd rfl rfl (LeE.none rfl rfl)))))))) rfl ?_
              refine W.now ?_
              exact Then.n ⟨n, (x12333, (IntKind.wrap .i64 (x12294 + 1))), Nat.lt_succ_self n, H, rfl, rfl⟩
          · replace H := cnf hb12316 H
            refine WP.exitW ?_
            refine W.cv (Cv.weak (E' := (((Env.none.upd 0 (.ro (Rd.slice Rd.str) true x12076)).upd 1 (.lit (.string x12077))).upd 5 (.lit (.int .i64 x12293)))) (M' := Mem.nil) [] hnp ⟨rfl, trivial, by decide, rfl, trivial⟩ (LeE.upd rfl rfl (LeE.upd rfl rfl (LeE.upd rfl rfl (LeE.none rfl rfl))))) rfl ?_
            refine W.now ?_
            refine Then.x ?_
            refine Then.x ?_
            have q0 := (Option.some.inj H)
            subst q0
            exact ⟨rfl, rfl, rfl⟩
        · rintro _ _ _ ⟨rfl, rfl, rfl⟩
          refine W.now ?_
          refine InBlock.x0 ?_
          refine Then.n ?_
          refine WP.seq ?_
          refine WP.region ?_
          refine WPL.d (d_alloc ze50 rfl) rfl ?_
          refine WPL.nilW ?_
          refine W.now ?_
          refine Then.n ?_
          refine WP.seq ?_
          refine WP.region ?_
          refine WPL.q (q_mv (v := .lit (.int _ _)) rfl) rfl ?_
          obtain ⟨_, h12334, H⟩ := bnd H
          refine WPL.c (runs_call (s := [0]) (t := [0, 1]) (N := 2) (bor := []) fn47 rfl (s_strings_Builder_Grow k x12314 h12334) ⟨rfl, ⟨trivial, .inr ⟨rfl, rfl, rfl⟩⟩, by decide, rfl, trivial⟩ rfl trivial (.ren rfl rfl (.ren rfl rfl .nil)) rfl ⟨⟨trivial, rfl⟩, rfl⟩ rfl) rfl ?_
          refine WPL.nilW ?_
          refine W.now ?_
          refine Then.n ?_
          refine WP.seq ?_
          refine WP.region ?_
          refine WPL.q (q_mv (v := .ro _ _ _) rfl) rfl ?_
          obtain ⟨x12336, h12336, H⟩ := bnd H
          refine WPL.q (q_index_ro sl38 rfl rfl rfl h12336) rfl ?_
          refine WPL.q (q_load_sc sc9 rfl) rfl ?_
          obtain ⟨_, h12336, H⟩ := bnd H
          refine WPL.c (runs_call (s := [0, 1]) (t := [0, 2]) (N := 3) (bor := []) fn48 rfl (s_strings_Builder_WriteString k x12336 ([] : List Int) h12336) ⟨rfl, ⟨⟨trivial, .inr ⟨rfl, rfl, rfl⟩⟩, .inr ⟨rfl, rfl, rfl⟩⟩, by decide, rfl, trivial⟩ rfl trivial (.ren rfl rfl (.ren rfl rfl .nil)) rfl ⟨⟨trivial, rfl⟩, rfl⟩ rfl) rfl ?_
          refine WPL.nilW ?_
          refine W.now ?_
          refine Then.n ?_
          refine WP.seq ?_
          refine WP.seq ?_
          refine WP.region ?_
          refine WPL.q (q_mv (v := .ro _ _ _) rfl) rfl ?_
          obtain ⟨h12337, H⟩ := grd H
          refine WPL.q (q_slice_ro (i := 1) (j := ((List.length x12076 : Nat) : Int)) sl38 rfl rfl ⟨_, rfl⟩ rfl h12337) rfl ?_
          obtain ⟨x12339, h12339, H⟩ := bnd H
          refine WPL.q (q_nm (q_len_ro sl38 rfl) (nm_int h12339)) rfl ?_
          refine WPL.q (q_mv (v := .lit (.int _ _)) rfl) rfl ?_
          refine WPL.nilW ?_
          refine W.now ?_
          refine Then.n ?_
          refine WP.block ?_
          refine WP.cv (Cv.weak (E' := (((((Env.none.upd 1 (.lit (.string x12077))).upd 8 (.ptr 0 0)).upd 63 (.ro (Rd.slice Rd.str) true (List.drop (Int.toNat 1) (List.take (Int.toNat ((List.length x12076 : Nat) : Int)) x12076)))).upd 64 (.lit (.int .i64 x12339))).upd 65 (.lit (.int .i64 0)))) (M' := ((Mem.nil.push (.cells 50 [.ptr 0 0, .whole 1])).push (.row 5 (Rd.int .u8) (([] : List Int) ++ (strInts x12336))))) [0, 2] hnp ⟨rfl, ⟨⟨trivial, .inr ⟨rfl, rfl, rfl⟩⟩, .inr ⟨rfl, rfl, rfl⟩⟩, by decide, rfl, trivial⟩ (LeE.upd rfl rfl (LeE.upd rfl rfl (LeE.upd rfl rfl (LeE.upd rfl rfl (LeE.upd rfl rfl (LeE.none rfl rfl))))))) ?_
          obtain ⟨x12352, H12357, H⟩ := bnd H
          refine WP.monoW (Q := fun x E M => x = .exit 3 ∧ E = (Env.none.upd 8 (.ptr 0 0)) ∧ M = ((Mem.nil.push (.cells 50 [.ptr 0 0, .whole 1])).push (.row 5 (Rd.int .u8) x12352))) ?_ ?_
          · refine WP.loop (β := Int × (List Int)) (fun n b => g_strings_Join_l1 k x12076 x12077 x12339 n b.1 b.2 = some x12352) (fun b => (((((Env.none.upd 1 (.lit (.string x12077))).upd 8 (.ptr 0 0)).upd 63 (.ro (Rd.slice Rd.str) true (List.drop (Int.toNat 1) (List.take (Int.toNat ((List.length x12076 : Nat) : Int)) x12076)))).upd 64 (.lit (.int .i64 x12339))).upd 65 (.lit (.int .i64 b.1)))) (fun b => ((Mem.nil.push (.cells 50 [.ptr 0 0, .whole 1])).push (.row 5 (Rd.int .u8) b.2))) k (0, (([] : List Int) ++ (strInts x12336))) H12357 rfl rfl ?_
            rintro n ⟨x12345, x12346⟩ H
            obtain _ | n := n
            · exact nf rfl H
            rw [g_strings_Join_l1.eq_2] at H
            show WP _ _ _ _ (((((Env.none.upd 1 (.lit (.string x12077))).upd 8 (.ptr 0 0)).upd 63 (.ro (Rd.slice Rd.str) true (List.drop (Int.toNat 1) (List.take (Int.toNat ((List.length x12076 : Nat) : Int)) x12076)))).upd 64 (.lit (.int .i64 x12339))).upd 65 (.lit (.int .i64 x12345))) ((Mem.nil.push (.cells 50 [.ptr 0 0, .whole 1])).push (.row 5 (Rd.int .u8) x12346)) _
            refine WP.seq ?_
            refine WP.region ?_
            refine WPL.q (q_lss rfl rfl) rfl ?_
            refine WPL.nilW ?_
            refine W.now ?_
            refine Then.n ?_
            refine WP.seq ?_
            refine WP.cond (t := (decide (x12345 < x12339))) rfl (fun hb12353 => ?_) (fun hb12353 => ?_)
            · replace H := cnt hb12353 H
              refine WP.skipW ?_
              refine W.now ?_
              refine Then.n ?_
              refine WP.seq ?_
              refine WP.block ?_
              refine WP.seq ?_
              refine WP.region ?_
              obtain ⟨x12355, h12355, H⟩ := bnd H
              refine WPL.q (q_index_ro sl38 rfl rfl rfl h12355) rfl ?_
              refine WPL.q (q_load_sc sc9 rfl) rfl ?_
              refine WPL.q (q_as (v := .lit (.string _)) rfl) rfl ?_
              refine WPL.nilW ?_
              refine W.now ?_
              refine Then.n ?_
              refine WP.seq ?_
              refine WP.region ?_
              refine WPL.q (q_mv (v := .lit (.string _)) rfl) rfl ?_
              obtain ⟨_, h12355, H⟩ := bnd H
              refine WPL.c (runs_call (s := [0, 1]) (t := [0, 2]) (N := 3) (bor := []) fn48 rfl (s_strings_Builder_WriteString k x12077 x12346 h12355) ⟨rfl, ⟨⟨trivial, .inr ⟨rfl, rfl, rfl⟩⟩, .inr ⟨rfl, rfl, rfl⟩⟩, by decide, rfl, trivial⟩ rfl trivial (.ren rfl rfl (.ren rfl rfl .nil)) rfl ⟨⟨trivial, rfl⟩, rfl⟩ rfl) rfl ?_
              refine WPL.nilW ?_
              refine W.now ?_
              refine Then.n ?_
              refine WP.region ?_
              refine WPL.q (q_mv (v := .lit (.string _)) rfl) rfl ?_
              obtain ⟨_, h12356, H⟩ := bnd H
              refine WPL.c (runs_call (s := [0, 2]) (t := [0, 3]) (N := 4) (bor := []) fn48 rfl (s_strings_Builder_WriteString k x12355 (x12346 ++ (strInts x12077)) h12356) ⟨rfl, ⟨⟨trivial, .inr ⟨rfl, rfl, rfl⟩⟩, .inr ⟨rfl, rfl, rfl⟩⟩, by decide, rfl, trivial⟩ rfl trivial (.ren rfl rfl (.ren rfl rfl .nil)) rfl ⟨⟨trivial, rfl⟩, rfl⟩ rfl) rfl ?_
              refine WPL.nilW ?_
              refine W.now ?_
              refine InBlock.n ?_
              refine Then.n ?_
              refine WP.region ?_
              refine WPL.q (q_add rfl rfl) rfl ?_
              refine WPL.q (q_mv (v := .lit (.int _ _)) rfl) rfl ?_
              refine WPL.nilW ?_
              refine W.cv (Cv.weak (E' := (((((Env.none.upd 1 (.lit (.string x12077))).upd 8 (.ptr 0 0)).upd 63 (.ro (Rd.slice Rd.str) true (List.drop (Int.toNat 1) (List.take (Int.toNat ((List.length x12076 : Nat) : Int)) x12076)))).upd 64 (.lit (.int .i64 x12339))).upd 65 (.lit (.int .i64 (IntKind.wrap .i64 (x12345 + 1)))))) (M' := ((Mem.nil.push (.cells 50 [.ptr 0 0, .whole 1])).push (.row 5 (Rd.int .u8) ((x12346 ++ (strInts x12077)) ++ (strInts x12355))))) [0, 3] hnp ⟨rfl, ⟨⟨trivial, .inr ⟨rfl, rfl, rfl⟩⟩, .inr ⟨rfl, rfl, rfl⟩⟩, by decide, rfl, trivial⟩ (LeE.upd rfl rfl (LeE.upd rfl rfl (LeE.upd rfl rfl (LeE.upd rfl rfl (LeE.upd rfl rfl (LeE.none rfl rfl))))))) rfl ?_
              refine W.now ?_
              exact Then.n ⟨n, ((IntKind.wrap .i64 (x12345 + 1)), ((x12346 ++ (strInts x12077)) ++ (strInts x12355))), Nat.lt_succ_self n, H, rfl, rfl⟩
            · replace H := cnf hb12353 H
              refine WP.exitW ?_
              refine W.cv (Cv.weak (E' := (Env.none.upd 8 (.ptr 0 0))) (M' := ((Mem.nil.push (.cells 50 [.ptr 0 0, .whole 1])).push (.row 5 (Rd.int .u8) x12346))) [0, 1] hnp ⟨rfl, ⟨⟨trivial, .inr ⟨rfl, rfl, rfl⟩⟩, .inr ⟨rfl, rfl, rfl⟩⟩, by decide, rfl, trivial⟩ (LeE.upd rfl rfl (LeE.none rfl rfl))) rfl ?_
              refine W.now ?_
              refine Then.x ?_
              refine Then.x ?_
              have q0 := (Option.some.inj H)
              subst q0
              exact ⟨rfl, rfl, rfl⟩
          · rintro _ _ _ ⟨rfl, rfl, rfl⟩
            refine W.now ?_
            refine InBlock.x0 ?_
            refine Then.n ?_
            refine WP.seq ?_
            refine WP.region ?_
            obtain ⟨y12360, h12358, H⟩ := bnd H
            rcases y12360 with _ | _
            · refine WPL.c (runs_call (s := [0, 1]) (t := [0, 2]) (N := 3) (bor := []) fn39 rfl (s_strings_Builder_String__b k x12352 (Sum.inl ()) h12358) ⟨rfl, ⟨⟨trivial, .inr ⟨rfl, rfl, rfl⟩⟩, .inr ⟨rfl, rfl, rfl⟩⟩, by decide, rfl, trivial⟩ rfl trivial (.ren rfl rfl .nil) rfl ⟨⟨trivial, rfl⟩, rfl⟩ rfl) rfl ?_
              refine WPL.q (q_as (v := .lit (.string _)) rfl) rfl ?_
              refine WPL.nilW ?_
              refine W.now ?_
              refine Then.n ?_
              refine WP.retW ?_
              refine W.now ?_
              have q0 := (Option.some.inj H)
              subst q0
              exact ⟨trivial, _, rfl, [], (.lit (.string ByteArray.empty)), Mem.nil, ⟨rfl, trivial, by decide, rfl, trivial⟩, rfl, rfl, rfl, rfl⟩
            · refine WPL.c (runs_call (s := [0, 1]) (t := [0, 2]) (N := 3) (bor := []) fn39 rfl (s_strings_Builder_String__b k x12352 (Sum.inr ()) h12358) ⟨rfl, ⟨⟨trivial, .inr ⟨rfl, rfl, rfl⟩⟩, .inr ⟨rfl, rfl, rfl⟩⟩, by decide, rfl, trivial⟩ rfl trivial (.ren rfl rfl .nil) rfl ⟨⟨trivial, rfl⟩, rfl⟩ rfl) rfl ?_
              refine WPL.q (q_as (v := .lit (.string _)) rfl) rfl ?_
              refine WPL.nilW ?_
              refine W.now ?_
              refine Then.n ?_
              refine WP.retW ?_
              refine W.now ?_
              have q0 := (Option.some.inj H)
              subst q0
              exact ⟨trivial, _, rfl, [], (.lit (.string (strOf x12352))), Mem.nil, ⟨rfl, trivial, by decide, rfl, trivial⟩, rfl, rfl, rfl, rfl⟩
set_option maxRecDepth 100000 in
set_option maxHeartbeats 4000000 in
theorem s_utf_Trim (k : Nat) (x11215 : ByteArray) (x12363 : ByteArray) (H : g_utf_Trim k x11215 = some x12363) : Go.Q.Spec Tryd.prog 17 0 [.lit (.string x11215)] Mem.nil (fun o M => o = .ret (.lit (.string x12363)) ∧ M = Mem.nil) := by
  unfold g_utf_Trim at H
  refine Go.Q.Spec.of_bodyR (rs := [.tmp 2]) (nt := 11) Tryd.func17 rfl rfl (by intro t T h; simp at h) rfl rfl fun cx hnp => ?_
  refine WP.seq ?_
  refine WP.region ?_
  refine WPL.q (q_as (v := .lit (.string _)) rfl) rfl ?_
  refine WPL.nilW ?_
  refine W.now ?_
  refine Then.n ?_
  refine WP.seq ?_
  refine WP.region ?_
  refine WPL.q (q_mv (v := .lit (.string _)) rfl) rfl ?_
  obtain ⟨_, h12363, H⟩ := bnd H
  refine WPL.c (runs_call (s := []) (t := [0, 1, 2]) (N := 3) (bor := []) fn32 rfl (s_strings_SplitSeq k x11215 (ByteArray.mk #[32]) h12363) ⟨rfl, trivial, by decide, rfl, trivial⟩ rfl trivial (.ren rfl rfl (.ren rfl rfl .nil)) rfl ⟨⟨⟨trivial, rfl⟩, rfl⟩, rfl⟩ rfl) rfl ?_
  obtain ⟨⟨x12366, x12367⟩, h12364, H⟩ := bnd H
  refine WPL.c (runs_call (s := [0, 1, 2]) (t := [0, 1, 2, 3]) (N := 4) (bor := []) fn31 rfl (s_slices_Collect_string k (ByteArray.mk #[32]) x11215 0 x12366 x12367 h12364) ⟨rfl, ⟨⟨⟨trivial, .inr ⟨rfl, rfl, rfl⟩⟩, .inr ⟨rfl, rfl, rfl⟩⟩, .inr ⟨rfl, rfl, rfl⟩⟩, by decide, rfl, trivial⟩ rfl trivial (.ren rfl rfl .nil) rfl ⟨⟨⟨⟨trivial, rfl⟩, rfl⟩, rfl⟩, rfl⟩ rfl) rfl ?_
  refine WPL.q (q_as (v := .whole _) rfl) rfl ?_
  refine WPL.nilW ?_
  refine W.now ?_
  refine Then.n ?_
  refine WP.seq ?_
  refine WP.region ?_
  refine WPL.q (q_mv (v := .whole _) rfl) rfl ?_
  obtain ⟨x12369, h12367, H⟩ := bnd H
  refine WPL.c (runs_call (s := [3]) (t := [4]) (N := 5) (bor := []) fn33 rfl (s_slices_DeleteFunc_string_string k x12367 x12369 h12367) ⟨rfl, ⟨trivial, .inr ⟨rfl, rfl, rfl⟩⟩, by decide, rfl, trivial⟩ rfl trivial (.ren rfl rfl (.ren rfl rfl .nil)) rfl ⟨trivial, rfl⟩ rfl) rfl ?_
  refine WPL.q (q_as (v := .whole _) rfl) rfl ?_
  refine WPL.nilW ?_
  refine W.now ?_
  refine Then.n ?_
  refine WP.seq ?_
  refine WP.region ?_
  refine WPL.q (q_mv (v := .whole _) rfl) rfl ?_
  obtain ⟨x12371, h12369, H⟩ := bnd H
  refine WPL.c (runs_call (s := []) (t := []) (N := 5) (bor := [4]) fn35 rfl (s_strings_Join k x12369 (ByteArray.mk #[32]) x12371 h12369) ⟨rfl, trivial, by decide, rfl, trivial⟩ rfl ⟨trivial, rfl, rfl, trivial⟩ (.row rfl rfl (.ren rfl rfl .nil)) rfl trivial rfl) rfl ?_
  refine WPL.q (q_as (v := .lit (.string _)) rfl) rfl ?_
  refine WPL.nilW ?_
  refine W.now ?_
  refine Then.n ?_
  refine WP.retW ?_
  refine W.now ?_
  have q0 := (Option.some.inj H)
  subst q0
  exact ⟨trivial, _, rfl, [], (.lit (.string x12371)), Mem.nil, ⟨rfl, trivial, by decide, rfl, trivial⟩, rfl, rfl, rfl, rfl⟩
set_option maxRecDepth 100000 in
set_option maxHeartbeats 4000000 in
theorem s_quirelaw06_alive (k : Nat) (x12405 : Bool) (H : g_quirelaw06_alive k = some x12405) : Go.Q.Spec Tryd.prog 16 0 [] Mem.nil (fun o M => o = .ret (.lit (.bool x12405)) ∧ M = Mem.nil) := by
  unfold g_quirelaw06_alive at H
  refine Go.Q.Spec.of_bodyR (rs := [.tmp 0]) (nt := 26) Tryd.func16 rfl rfl (by intro t T h; simp at h) rfl rfl fun cx hnp => ?_
  refine WP.seq ?_
  refine WP.region ?_
  refine WPL.q (q_as (v := .lit (.bool _)) rfl) rfl ?_
  refine WPL.nilW ?_
  refine W.now ?_
  refine Then.n ?_
  refine WP.seq ?_
  obtain ⟨x12428, H12450, H⟩ := bnd H
  refine WP.monoW (Q := fun x E M => x = .normal ∧ E = (Env.none.upd 0 (.lit (.bool x12428))) ∧ M = Mem.nil) ?_ ?_
  · clear H
    have H := H12450
    clear H12450
    refine WP.region ?_
    obtain ⟨x12430, h12428, H⟩ := bnd H
    refine WPL.c (runs_call (s := []) (t := []) (N := 0) (bor := []) fn8 rfl (s_utf_Valid k (ByteArray.mk #[228, 189, 160]) x12430 h12428) ⟨rfl, trivial, by decide, rfl, trivial⟩ rfl trivial (.ren rfl rfl .nil) rfl trivial rfl) rfl ?_
    refine WPL.q (q_mv (v := .lit (.bool _)) rfl) rfl ?_
    refine WPL.split (t := 2) (b := x12430) rfl (fun hb12430 => ?_) (fun hb12430 => ?_)
    · replace H := cnt hb12430 H
      obtain ⟨x12433, h12431, H⟩ := bnd H
      refine WPL.cg rfl rfl (lb hb12430) (runs_call (s := []) (t := []) (N := 0) (bor := []) fn8 rfl (s_utf_Valid k (ByteArray.mk #[192, 128]) x12433 h12431) ⟨rfl, trivial, by decide, rfl, trivial⟩ rfl trivial (.ren rfl rfl .nil) rfl trivial rfl) rfl ?_
      refine WPL.qg rfl rfl (lb hb12430) (q_not rfl) rfl ?_
      refine WPL.q (q_pickT (v := .lit (.bool _)) (lb hb12430) rfl) rfl ?_
      refine WPL.q (q_mv (v := .lit (.bool _)) rfl) rfl ?_
      refine WPL.split (t := 6) (b := (!x12433)) rfl (fun hb12433 => ?_) (fun hb12433 => ?_)
      · replace H := cnt hb12433 H
        obtain ⟨x12436, h12434, H⟩ := bnd H
        refine WPL.cg rfl rfl (lb hb12433) (runs_call (s := []) (t := []) (N := 0) (bor := []) fn8 rfl (s_utf_Valid k (ByteArray.mk #[237, 160, 128]) x12436 h12434) ⟨rfl, trivial, by decide, rfl, trivial⟩ rfl trivial (.ren rfl rfl .nil) rfl trivial rfl) rfl ?_
        refine WPL.qg rfl rfl (lb hb12433) (q_not rfl) rfl ?_
        refine WPL.q (q_pickT (v := .lit (.bool _)) (lb hb12433) rfl) rfl ?_
        refine WPL.q (q_mv (v := .lit (.bool _)) rfl) rfl ?_
        refine WPL.split (t := 10) (b := (!x12436)) rfl (fun hb12436 => ?_) (fun hb12436 => ?_)
        · replace H := cnt hb12436 H
          obtain ⟨x12439, h12437, H⟩ := bnd H
          refine WPL.cg rfl rfl (lb hb12436) (runs_call (s := []) (t := []) (N := 0) (bor := []) fn24 rfl (s_utf_Cut k (ByteArray.mk #[97, 195, 177, 98]) 1 1 x12439 h12437) ⟨rfl, trivial, by decide, rfl, trivial⟩ rfl trivial (.ren rfl rfl (.ren rfl rfl (.ren rfl rfl .nil))) rfl trivial rfl) rfl ?_
          obtain ⟨x12440, h12440, H⟩ := bnd H
          refine WPL.qg rfl rfl (lb hb12436) (q_nm (q_eqls rfl rfl) (nm_bool h12440)) rfl ?_
          refine WPL.q (q_pickT (v := .lit (.bool _)) (lb hb12436) rfl) rfl ?_
          refine WPL.q (q_mv (v := .lit (.bool _)) rfl) rfl ?_
          refine WPL.split (t := 14) (b := x12440) rfl (fun hb12440 => ?_) (fun hb12440 => ?_)
          · replace H := cnt hb12440 H
            obtain ⟨x12443, h12441, H⟩ := bnd H
            refine WPL.cg rfl rfl (lb hb12440) (runs_call (s := []) (t := []) (N := 0) (bor := []) fn17 rfl (s_utf_Trim k (ByteArray.mk #[32, 32, 97, 32, 32, 98, 32]) x12443 h12441) ⟨rfl, trivial, by decide, rfl, trivial⟩ rfl trivial (.ren rfl rfl .nil) rfl trivial rfl) rfl ?_
            obtain ⟨x12444, h12444, H⟩ := bnd H
            refine WPL.qg rfl rfl (lb hb12440) (q_nm (q_eqls rfl rfl) (nm_bool h12444)) rfl ?_
            refine WPL.q (q_pickT (v := .lit (.bool _)) (lb hb12440) rfl) rfl ?_
            refine WPL.q (q_mv (v := .lit (.bool _)) rfl) rfl ?_
            refine WPL.split (t := 18) (b := x12444) rfl (fun hb12444 => ?_) (fun hb12444 => ?_)
            · replace H := cnt hb12444 H
              obtain ⟨x12447, h12445, H⟩ := bnd H
              refine WPL.cg rfl rfl (lb hb12444) (runs_call (s := []) (t := []) (N := 0) (bor := []) fn15 rfl (s_utf_Count k (ByteArray.mk #[195, 177]) x12447 h12445) ⟨rfl, trivial, by decide, rfl, trivial⟩ rfl trivial (.ren rfl rfl .nil) rfl trivial rfl) rfl ?_
              refine WPL.qg rfl rfl (lb hb12444) (q_eql rfl rfl) rfl ?_
              refine WPL.q (q_pickT (v := .lit (.bool _)) (lb hb12444) rfl) rfl ?_
              refine WPL.q (q_mv (v := .lit (.bool _)) rfl) rfl ?_
              refine WPL.split (t := 22) (b := (decide (x12447 = 1))) rfl (fun hb12447 => ?_) (fun hb12447 => ?_)
              · replace H := cnt hb12447 H
                obtain ⟨x12450, h12448, H⟩ := bnd H
                refine WPL.cg rfl rfl (lb hb12447) (runs_call (s := []) (t := []) (N := 0) (bor := []) fn10 rfl (s_utf_Xml k (ByteArray.mk #[1]) x12450 h12448) ⟨rfl, trivial, by decide, rfl, trivial⟩ rfl trivial (.ren rfl rfl .nil) rfl trivial rfl) rfl ?_
                refine WPL.qg rfl rfl (lb hb12447) (q_eql rfl rfl) rfl ?_
                refine WPL.q (q_pickT (v := .lit (.bool _)) (lb hb12447) rfl) rfl ?_
                refine WPL.q (q_as (v := .lit (.bool _)) rfl) rfl ?_
                refine WPL.nilW ?_
                refine W.cv (Cv.weak (E' := (Env.none.upd 0 (.lit (.bool (decide (x12450 = 20)))))) (M' := Mem.nil) [] hnp ⟨rfl, trivial, by decide, rfl, trivial⟩ (LeE.upd rfl rfl (LeE.none rfl rfl))) rfl ?_
                refine W.now ?_
                have q0 := (Option.some.inj H)
                subst q0
                exact ⟨rfl, rfl, rfl⟩
              · replace H := cnf hb12447 H
                refine WPL.skipg (b' := false) rfl rfl (lb hb12447) rfl rfl ?_
                refine WPL.skipg (b' := false) rfl rfl (lb hb12447) rfl rfl ?_
                refine WPL.q (q_pickF (v := .lit (.bool _)) (lb hb12447) rfl) rfl ?_
                refine WPL.q (q_as (v := .lit (.bool _)) rfl) rfl ?_
                refine WPL.nilW ?_
                refine W.cv (Cv.weak (E' := (Env.none.upd 0 (.lit (.bool false)))) (M' := Mem.nil) [] hnp ⟨rfl, trivial, by decide, rfl, trivial⟩ (LeE.upd rfl rfl (LeE.none rfl rfl))) rfl ?_
                refine W.now ?_
                have q0 := (Option.some.inj H)
                subst q0
                exact ⟨rfl, rfl, rfl⟩
            · replace H := cnf hb12444 H
              refine WPL.skipg (b' := false) rfl rfl (lb hb12444) rfl rfl ?_
              refine WPL.skipg (b' := false) rfl rfl (lb hb12444) rfl rfl ?_
              refine WPL.q (q_pickF (v := .lit (.bool _)) (lb hb12444) rfl) rfl ?_
              refine WPL.q (q_mv (v := .lit (.bool _)) rfl) rfl ?_
              refine WPL.skipg (b' := false) rfl rfl rfl rfl rfl ?_
              refine WPL.skipg (b' := false) rfl rfl rfl rfl rfl ?_
              refine WPL.q (q_pickF (v := .lit (.bool _)) rfl rfl) rfl ?_
              refine WPL.q (q_as (v := .lit (.bool _)) rfl) rfl ?_
              refine WPL.nilW ?_
              refine W.cv (Cv.weak (E' := (Env.none.upd 0 (.lit (.bool false)))) (M' := Mem.nil) [] hnp ⟨rfl, trivial, by decide, rfl, trivial⟩ (LeE.upd rfl rfl (LeE.none rfl rfl))) rfl ?_
              refine W.now ?_
              have q0 := (Option.some.inj H)
              subst q0
              exact ⟨rfl, rfl, rfl⟩
          · replace H := cnf hb12440 H
            refine WPL.skipg (b' := false) rfl rfl (lb hb12440) rfl rfl ?_
            refine WPL.skipg (b' := false) rfl rfl (lb hb12440) rfl rfl ?_
            refine WPL.q (q_pickF (v := .lit (.bool _)) (lb hb12440) rfl) rfl ?_
            refine WPL.q (q_mv (v := .lit (.bool _)) rfl) rfl ?_
            refine WPL.skipg (b' := false) rfl rfl rfl rfl rfl ?_
            refine WPL.skipg (b' := false) rfl rfl rfl rfl rfl ?_
            refine WPL.q (q_pickF (v := .lit (.bool _)) rfl rfl) rfl ?_
            refine WPL.q (q_mv (v := .lit (.bool _)) rfl) rfl ?_
            refine WPL.skipg (b' := false) rfl rfl rfl rfl rfl ?_
            refine WPL.skipg (b' := false) rfl rfl rfl rfl rfl ?_
            refine WPL.q (q_pickF (v := .lit (.bool _)) rfl rfl) rfl ?_
            refine WPL.q (q_as (v := .lit (.bool _)) rfl) rfl ?_
            refine WPL.nilW ?_
            refine W.cv (Cv.weak (E' := (Env.none.upd 0 (.lit (.bool false)))) (M' := Mem.nil) [] hnp ⟨rfl, trivial, by decide, rfl, trivial⟩ (LeE.upd rfl rfl (LeE.none rfl rfl))) rfl ?_
            refine W.now ?_
            have q0 := (Option.some.inj H)
            subst q0
            exact ⟨rfl, rfl, rfl⟩
        · replace H := cnf hb12436 H
          refine WPL.skipg (b' := false) rfl rfl (lb hb12436) rfl rfl ?_
          refine WPL.skipg (b' := false) rfl rfl (lb hb12436) rfl rfl ?_
          refine WPL.q (q_pickF (v := .lit (.bool _)) (lb hb12436) rfl) rfl ?_
          refine WPL.q (q_mv (v := .lit (.bool _)) rfl) rfl ?_
          refine WPL.skipg (b' := false) rfl rfl rfl rfl rfl ?_
          refine WPL.skipg (b' := false) rfl rfl rfl rfl rfl ?_
          refine WPL.q (q_pickF (v := .lit (.bool _)) rfl rfl) rfl ?_
          refine WPL.q (q_mv (v := .lit (.bool _)) rfl) rfl ?_
          refine WPL.skipg (b' := false) rfl rfl rfl rfl rfl ?_
          refine WPL.skipg (b' := false) rfl rfl rfl rfl rfl ?_
          refine WPL.q (q_pickF (v := .lit (.bool _)) rfl rfl) rfl ?_
          refine WPL.q (q_mv (v := .lit (.bool _)) rfl) rfl ?_
          refine WPL.skipg (b' := false) rfl rfl rfl rfl rfl ?_
          refine WPL.skipg (b' := false) rfl rfl rfl rfl rfl ?_
          refine WPL.q (q_pickF (v := .lit (.bool _)) rfl rfl) rfl ?_
          refine WPL.q (q_as (v := .lit (.bool _)) rfl) rfl ?_
          refine WPL.nilW ?_
          refine W.cv (Cv.weak (E' := (Env.none.upd 0 (.lit (.bool false)))) (M' := Mem.nil) [] hnp ⟨rfl, trivial, by decide, rfl, trivial⟩ (LeE.upd rfl rfl (LeE.none rfl rfl))) rfl ?_
          refine W.now ?_
          have q0 := (Option.some.inj H)
          subst q0
          exact ⟨rfl, rfl, rfl⟩
      · replace H := cnf hb12433 H
        refine WPL.skipg (b' := false) rfl rfl (lb hb12433) rfl rfl ?_
        refine WPL.skipg (b' := false) rfl rfl (lb hb12433) rfl rfl ?_
        refine WPL.q (q_pickF (v := .lit (.bool _)) (lb hb12433) rfl) rfl ?_
        refine WPL.q (q_mv (v := .lit (.bool _)) rfl) rfl ?_
        refine WPL.skipg (b' := false) rfl rfl rfl rfl rfl ?_
        refine WPL.skipg (b' := false) rfl rfl rfl rfl rfl ?_
        refine WPL.q (q_pickF (v := .lit (.bool _)) rfl rfl) rfl ?_
        refine WPL.q (q_mv (v := .lit (.bool _)) rfl) rfl ?_
        refine WPL.skipg (b' := false) rfl rfl rfl rfl rfl ?_
        refine WPL.skipg (b' := false) rfl rfl rfl rfl rfl ?_
        refine WPL.q (q_pickF (v := .lit (.bool _)) rfl rfl) rfl ?_
        refine WPL.q (q_mv (v := .lit (.bool _)) rfl) rfl ?_
        refine WPL.skipg (b' := false) rfl rfl rfl rfl rfl ?_
        refine WPL.skipg (b' := false) rfl rfl rfl rfl rfl ?_
        refine WPL.q (q_pickF (v := .lit (.bool _)) rfl rfl) rfl ?_
        refine WPL.q (q_mv (v := .lit (.bool _)) rfl) rfl ?_
        refine WPL.skipg (b' := false) rfl rfl rfl rfl rfl ?_
        refine WPL.skipg (b' := false) rfl rfl rfl rfl rfl ?_
        refine WPL.q (q_pickF (v := .lit (.bool _)) rfl rfl) rfl ?_
        refine WPL.q (q_as (v := .lit (.bool _)) rfl) rfl ?_
        refine WPL.nilW ?_
        refine W.cv (Cv.weak (E' := (Env.none.upd 0 (.lit (.bool false)))) (M' := Mem.nil) [] hnp ⟨rfl, trivial, by decide, rfl, trivial⟩ (LeE.upd rfl rfl (LeE.none rfl rfl))) rfl ?_
        refine W.now ?_
        have q0 := (Option.some.inj H)
        subst q0
        exact ⟨rfl, rfl, rfl⟩
    · replace H := cnf hb12430 H
      refine WPL.skipg (b' := false) rfl rfl (lb hb12430) rfl rfl ?_
      refine WPL.skipg (b' := false) rfl rfl (lb hb12430) rfl rfl ?_
      refine WPL.q (q_pickF (v := .lit (.bool _)) (lb hb12430) rfl) rfl ?_
      refine WPL.q (q_mv (v := .lit (.bool _)) rfl) rfl ?_
      refine WPL.skipg (b' := false) rfl rfl rfl rfl rfl ?_
      refine WPL.skipg (b' := false) rfl rfl rfl rfl rfl ?_
      refine WPL.q (q_pickF (v := .lit (.bool _)) rfl rfl) rfl ?_
      refine WPL.q (q_mv (v := .lit (.bool _)) rfl) rfl ?_
      refine WPL.skipg (b' := false) rfl rfl rfl rfl rfl ?_
      refine WPL.skipg (b' := false) rfl rfl rfl rfl rfl ?_
      refine WPL.q (q_pickF (v := .lit (.bool _)) rfl rfl) rfl ?_
      refine WPL.q (q_mv (v := .lit (.bool _)) rfl) rfl ?_
      refine WPL.skipg (b' := false) rfl rfl rfl rfl rfl ?_
      refine WPL.skipg (b' := false) rfl rfl rfl rfl rfl ?_
      refine WPL.q (q_pickF (v := .lit (.bool _)) rfl rfl) rfl ?_
      refine WPL.q (q_mv (v := .lit (.bool _)) rfl) rfl ?_
      refine WPL.skipg (b' := false) rfl rfl rfl rfl rfl ?_
      refine WPL.skipg (b' := false) rfl rfl rfl rfl rfl ?_
      refine WPL.q (q_pickF (v := .lit (.bool _)) rfl rfl) rfl ?_
      refine WPL.q (q_mv (v := .lit (.bool _)) rfl) rfl ?_
      refine WPL.skipg (b' := false) rfl rfl rfl rfl rfl ?_
      refine WPL.skipg (b' := false) rfl rfl rfl rfl rfl ?_
      refine WPL.q (q_pickF (v := .lit (.bool _)) rfl rfl) rfl ?_
      refine WPL.q (q_as (v := .lit (.bool _)) rfl) rfl ?_
      refine WPL.nilW ?_
      refine W.cv (Cv.weak (E' := (Env.none.upd 0 (.lit (.bool false)))) (M' := Mem.nil) [] hnp ⟨rfl, trivial, by decide, rfl, trivial⟩ (LeE.upd rfl rfl (LeE.none rfl rfl))) rfl ?_
      refine W.now ?_
      have q0 := (Option.some.inj H)
      subst q0
      exact ⟨rfl, rfl, rfl⟩
  · rintro _ _ _ ⟨rfl, rfl, rfl⟩
    refine W.now ?_
    refine Then.n ?_
    refine WP.retW ?_
    refine W.now ?_
    have q0 := (Option.some.inj H)
    subst q0
    exact ⟨trivial, _, rfl, [], (.lit (.bool x12428)), Mem.nil, ⟨rfl, trivial, by decide, rfl, trivial⟩, rfl, rfl, rfl, rfl⟩
set_option maxRecDepth 100000 in
set_option maxHeartbeats 4000000 in
theorem s_quirelaw06_UtfTexts (k : Nat) (x2 : ByteArray) (x12481 : Bool) (H : g_quirelaw06_UtfTexts k x2 = some x12481) : Go.Q.Spec Tryd.prog 3 0 [.lit (.string x2)] Mem.nil (fun o M => o = .ret (.lit (.bool x12481)) ∧ M = Mem.nil) := by
  unfold g_quirelaw06_UtfTexts at H
  refine Go.Q.Spec.of_bodyR (rs := [.tmp 2]) (nt := 33) Tryd.func3 rfl rfl (by intro t T h; simp at h) rfl rfl fun cx hnp => ?_
  refine WP.seq ?_
  refine WP.region ?_
  refine WPL.q (q_as (v := .lit (.bool _)) rfl) rfl ?_
  refine WPL.nilW ?_
  refine W.now ?_
  refine Then.n ?_
  refine WP.seq ?_
  obtain ⟨x12507, H12532, H⟩ := bnd H
  refine WP.monoW (Q := fun x E M => x = .normal ∧ E = (Env.none.upd 2 (.lit (.bool x12507))) ∧ M = Mem.nil) ?_ ?_
  · clear H
    have H := H12532
    clear H12532
    refine WP.region ?_
    refine WPL.q (q_mv (v := .lit (.string _)) rfl) rfl ?_
    obtain ⟨x12509, h12507, H⟩ := bnd H
    refine WPL.c (runs_call (s := []) (t := []) (N := 0) (bor := []) fn8 rfl (s_utf_Valid k x2 x12509 h12507) ⟨rfl, trivial, by decide, rfl, trivial⟩ rfl trivial (.ren rfl rfl .nil) rfl trivial rfl) rfl ?_
    refine WPL.q (q_mv (v := .lit (.string _)) rfl) rfl ?_
    obtain ⟨x12511, h12509, H⟩ := bnd H
    refine WPL.c (runs_call (s := []) (t := []) (N := 0) (bor := []) fn9 rfl (s_quireref06_Valid k x2 x12511 h12509) ⟨rfl, trivial, by decide, rfl, trivial⟩ rfl trivial (.ren rfl rfl .nil) rfl trivial rfl) rfl ?_
    refine WPL.q (q_eqlb Tryd.underlying4 rfl rfl) rfl ?_
    refine WPL.q (q_mv (v := .lit (.bool _)) rfl) rfl ?_
    refine WPL.split (t := 8) (b := (x12509 == x12511)) rfl (fun hb12511 => ?_) (fun hb12511 => ?_)
    · replace H := cnt hb12511 H
      refine WPL.qg rfl rfl (lb hb12511) (q_mv (v := .lit (.string _)) rfl) rfl ?_
      obtain ⟨x12514, h12512, H⟩ := bnd H
      refine WPL.cg rfl rfl (lb hb12511) (runs_call (s := []) (t := []) (N := 0) (bor := []) fn10 rfl (s_utf_Xml k x2 x12514 h12512) ⟨rfl, trivial, by decide, rfl, trivial⟩ rfl trivial (.ren rfl rfl .nil) rfl trivial rfl) rfl ?_
      refine WPL.qg rfl rfl (lb hb12511) (q_mv (v := .lit (.string _)) rfl) rfl ?_
      obtain ⟨x12516, h12514, H⟩ := bnd H
      refine WPL.cg rfl rfl (lb hb12511) (runs_call (s := []) (t := []) (N := 0) (bor := []) fn11 rfl (s_quireref06_Xml k x2 x12516 h12514) ⟨rfl, trivial, by decide, rfl, trivial⟩ rfl trivial (.ren rfl rfl .nil) rfl trivial rfl) rfl ?_
      refine WPL.qg rfl rfl (lb hb12511) (q_eql rfl rfl) rfl ?_
      refine WPL.q (q_pickT (v := .lit (.bool _)) (lb hb12511) rfl) rfl ?_
      refine WPL.q (q_mv (v := .lit (.bool _)) rfl) rfl ?_
      refine WPL.split (t := 15) (b := (decide (x12514 = x12516))) rfl (fun hb12516 => ?_) (fun hb12516 => ?_)
      · replace H := cnt hb12516 H
        refine WPL.qg rfl rfl (lb hb12516) (q_mv (v := .lit (.string _)) rfl) rfl ?_
        obtain ⟨x12519, h12517, H⟩ := bnd H
        refine WPL.cg rfl rfl (lb hb12516) (runs_call (s := []) (t := []) (N := 0) (bor := []) fn13 rfl (s_utf_Runes k x2 x12519 h12517) ⟨rfl, trivial, by decide, rfl, trivial⟩ rfl trivial (.ren rfl rfl .nil) rfl trivial rfl) rfl ?_
        refine WPL.qg rfl rfl (lb hb12516) (q_mv (v := .lit (.string _)) rfl) rfl ?_
        obtain ⟨x12521, h12519, H⟩ := bnd H
        refine WPL.cg rfl rfl (lb hb12516) (runs_call (s := []) (t := []) (N := 0) (bor := []) fn14 rfl (s_quireref06_Runes k x2 x12521 h12519) ⟨rfl, trivial, by decide, rfl, trivial⟩ rfl trivial (.ren rfl rfl .nil) rfl trivial rfl) rfl ?_
        obtain ⟨x12523, h12521, H⟩ := bnd H
        refine WPL.cg rfl rfl (lb hb12516) (runs_call (s := []) (t := []) (N := 0) (bor := []) fn12 rfl (s_quirelaw06_ints k x12519 x12521 x12523 h12521) ⟨rfl, trivial, by decide, rfl, trivial⟩ rfl trivial (.ren rfl rfl (.ren rfl rfl .nil)) rfl trivial rfl) rfl ?_
        refine WPL.q (q_pickT (v := .lit (.bool _)) (lb hb12516) rfl) rfl ?_
        refine WPL.q (q_mv (v := .lit (.bool _)) rfl) rfl ?_
        refine WPL.split (t := 22) (b := x12523) rfl (fun hb12523 => ?_) (fun hb12523 => ?_)
        · replace H := cnt hb12523 H
          refine WPL.qg rfl rfl (lb hb12523) (q_mv (v := .lit (.string _)) rfl) rfl ?_
          obtain ⟨x12526, h12524, H⟩ := bnd H
          refine WPL.cg rfl rfl (lb hb12523) (runs_call (s := []) (t := []) (N := 0) (bor := []) fn15 rfl (s_utf_Count k x2 x12526 h12524) ⟨rfl, trivial, by decide, rfl, trivial⟩ rfl trivial (.ren rfl rfl .nil) rfl trivial rfl) rfl ?_
          refine WPL.qg rfl rfl (lb hb12523) (q_mv (v := .lit (.string _)) rfl) rfl ?_
          obtain ⟨x12528, h12526, H⟩ := bnd H
          refine WPL.cg rfl rfl (lb hb12523) (runs_call (s := []) (t := []) (N := 0) (bor := []) fn14 rfl (s_quireref06_Runes k x2 x12528 h12526) ⟨rfl, trivial, by decide, rfl, trivial⟩ rfl trivial (.ren rfl rfl .nil) rfl trivial rfl) rfl ?_
          refine WPL.qg rfl rfl (lb hb12523) (q_len_ro sl26 rfl) rfl ?_
          obtain ⟨x12529, h12529, H⟩ := bnd H
          refine WPL.qg rfl rfl (lb hb12523) (q_nm (q_eql rfl rfl) (nm_bool h12529)) rfl ?_
          refine WPL.q (q_pickT (v := .lit (.bool _)) (lb hb12523) rfl) rfl ?_
          refine WPL.q (q_mv (v := .lit (.bool _)) rfl) rfl ?_
          refine WPL.split (t := 30) (b := x12529) rfl (fun hb12529 => ?_) (fun hb12529 => ?_)
          · replace H := cnt hb12529 H
            obtain ⟨x12532, h12530, H⟩ := bnd H
            refine WPL.cg rfl rfl (lb hb12529) (runs_call (s := []) (t := []) (N := 0) (bor := []) fn16 rfl (s_quirelaw06_alive k x12532 h12530) ⟨rfl, trivial, by decide, rfl, trivial⟩ rfl trivial .nil rfl trivial rfl) rfl ?_
            refine WPL.q (q_pickT (v := .lit (.bool _)) (lb hb12529) rfl) rfl ?_
            refine WPL.q (q_as (v := .lit (.bool _)) rfl) rfl ?_
            refine WPL.nilW ?_
            refine W.cv (Cv.weak (E' := (Env.none.upd 2 (.lit (.bool x12532)))) (M' := Mem.nil) [] hnp ⟨rfl, trivial, by decide, rfl, trivial⟩ (LeE.upd rfl rfl (LeE.none rfl rfl))) rfl ?_
            refine W.now ?_
            have q0 := (Option.some.inj H)
            subst q0
            exact ⟨rfl, rfl, rfl⟩
          · replace H := cnf hb12529 H
            refine WPL.skipg (b' := false) rfl rfl (lb hb12529) rfl rfl ?_
            refine WPL.q (q_pickF (v := .lit (.bool _)) (lb hb12529) rfl) rfl ?_
            refine WPL.q (q_as (v := .lit (.bool _)) rfl) rfl ?_
            refine WPL.nilW ?_
            refine W.cv (Cv.weak (E' := (Env.none.upd 2 (.lit (.bool false)))) (M' := Mem.nil) [] hnp ⟨rfl, trivial, by decide, rfl, trivial⟩ (LeE.upd rfl rfl (LeE.none rfl rfl))) rfl ?_
            refine W.now ?_
            have q0 := (Option.some.inj H)
            subst q0
            exact ⟨rfl, rfl, rfl⟩
        · replace H := cnf hb12523 H
          refine WPL.skipg (b' := false) rfl rfl (lb hb12523) rfl rfl ?_
          refine WPL.skipg (b' := false) rfl rfl (lb hb12523) rfl rfl ?_
          refine WPL.skipg (b' := false) rfl rfl (lb hb12523) rfl rfl ?_
          refine WPL.skipg (b' := false) rfl rfl (lb hb12523) rfl rfl ?_
          refine WPL.skipg (b' := false) rfl rfl (lb hb12523) rfl rfl ?_
          refine WPL.skipg (b' := false) rfl rfl (lb hb12523) rfl rfl ?_
          refine WPL.q (q_pickF (v := .lit (.bool _)) (lb hb12523) rfl) rfl ?_
          refine WPL.q (q_mv (v := .lit (.bool _)) rfl) rfl ?_
          refine WPL.skipg (b' := false) rfl rfl rfl rfl rfl ?_
          refine WPL.q (q_pickF (v := .lit (.bool _)) rfl rfl) rfl ?_
          refine WPL.q (q_as (v := .lit (.bool _)) rfl) rfl ?_
          refine WPL.nilW ?_
          refine W.cv (Cv.weak (E' := (Env.none.upd 2 (.lit (.bool false)))) (M' := Mem.nil) [] hnp ⟨rfl, trivial, by decide, rfl, trivial⟩ (LeE.upd rfl rfl (LeE.none rfl rfl))) rfl ?_
          refine W.now ?_
          have q0 := (Option.some.inj H)
          subst q0
          exact ⟨rfl, rfl, rfl⟩
      · replace H := cnf hb12516 H
        refine WPL.skipg (b' := false) rfl rfl (lb hb12516) rfl rfl ?_
        refine WPL.skipg (b' := false) rfl rfl (lb hb12516) rfl rfl ?_
        refine WPL.skipg (b' := false) rfl rfl (lb hb12516) rfl rfl ?_
        refine WPL.skipg (b' := false) rfl rfl (lb hb12516) rfl rfl ?_
        refine WPL.skipg (b' := false) rfl rfl (lb hb12516) rfl rfl ?_
        refine WPL.q (q_pickF (v := .lit (.bool _)) (lb hb12516) rfl) rfl ?_
        refine WPL.q (q_mv (v := .lit (.bool _)) rfl) rfl ?_
        refine WPL.skipg (b' := false) rfl rfl rfl rfl rfl ?_
        refine WPL.skipg (b' := false) rfl rfl rfl rfl rfl ?_
        refine WPL.skipg (b' := false) rfl rfl rfl rfl rfl ?_
        refine WPL.skipg (b' := false) rfl rfl rfl rfl rfl ?_
        refine WPL.skipg (b' := false) rfl rfl rfl rfl rfl ?_
        refine WPL.skipg (b' := false) rfl rfl rfl rfl rfl ?_
        refine WPL.q (q_pickF (v := .lit (.bool _)) rfl rfl) rfl ?_
        refine WPL.q (q_mv (v := .lit (.bool _)) rfl) rfl ?_
        refine WPL.skipg (b' := false) rfl rfl rfl rfl rfl ?_
        refine WPL.q (q_pickF (v := .lit (.bool _)) rfl rfl) rfl ?_
        refine WPL.q (q_as (v := .lit (.bool _)) rfl) rfl ?_
        refine WPL.nilW ?_
        refine W.cv (Cv.weak (E' := (Env.none.upd 2 (.lit (.bool false)))) (M' := Mem.nil) [] hnp ⟨rfl, trivial, by decide, rfl, trivial⟩ (LeE.upd rfl rfl (LeE.none rfl rfl))) rfl ?_
        refine W.now ?_
        have q0 := (Option.some.inj H)
        subst q0
        exact ⟨rfl, rfl, rfl⟩
    · replace H := cnf hb12511 H
      refine WPL.skipg (b' := false) rfl rfl (lb hb12511) rfl rfl ?_
      refine WPL.skipg (b' := false) rfl rfl (lb hb12511) rfl rfl ?_
      refine WPL.skipg (b' := false) rfl rfl (lb hb12511) rfl rfl ?_
      refine WPL.skipg (b' := false) rfl rfl (lb hb12511) rfl rfl ?_
      refine WPL.skipg (b' := false) rfl rfl (lb hb12511) rfl rfl ?_
      refine WPL.q (q_pickF (v := .lit (.bool _)) (lb hb12511) rfl) rfl ?_
      refine WPL.q (q_mv (v := .lit (.bool _)) rfl) rfl ?_
      refine WPL.skipg (b' := false) rfl rfl rfl rfl rfl ?_
      refine WPL.skipg (b' := false) rfl rfl rfl rfl rfl ?_
      refine WPL.skipg (b' := false) rfl rfl rfl rfl rfl ?_
      refine WPL.skipg (b' := false) rfl rfl rfl rfl rfl ?_
      refine WPL.skipg (b' := false) rfl rfl rfl rfl rfl ?_
      refine WPL.q (q_pickF (v := .lit (.bool _)) rfl rfl) rfl ?_
      refine WPL.q (q_mv (v := .lit (.bool _)) rfl) rfl ?_
      refine WPL.skipg (b' := false) rfl rfl rfl rfl rfl ?_
      refine WPL.skipg (b' := false) rfl rfl rfl rfl rfl ?_
      refine WPL.skipg (b' := false) rfl rfl rfl rfl rfl ?_
      refine WPL.skipg (b' := false) rfl rfl rfl rfl rfl ?_
      refine WPL.skipg (b' := false) rfl rfl rfl rfl rfl ?_
      refine WPL.skipg (b' := false) rfl rfl rfl rfl rfl ?_
      refine WPL.q (q_pickF (v := .lit (.bool _)) rfl rfl) rfl ?_
      refine WPL.q (q_mv (v := .lit (.bool _)) rfl) rfl ?_
      refine WPL.skipg (b' := false) rfl rfl rfl rfl rfl ?_
      refine WPL.q (q_pickF (v := .lit (.bool _)) rfl rfl) rfl ?_
      refine WPL.q (q_as (v := .lit (.bool _)) rfl) rfl ?_
      refine WPL.nilW ?_
      refine W.cv (Cv.weak (E' := (Env.none.upd 2 (.lit (.bool false)))) (M' := Mem.nil) [] hnp ⟨rfl, trivial, by decide, rfl, trivial⟩ (LeE.upd rfl rfl (LeE.none rfl rfl))) rfl ?_
      refine W.now ?_
      have q0 := (Option.some.inj H)
      subst q0
      exact ⟨rfl, rfl, rfl⟩
  · rintro _ _ _ ⟨rfl, rfl, rfl⟩
    refine W.now ?_
    refine Then.n ?_
    refine WP.retW ?_
    refine W.now ?_
    have q0 := (Option.some.inj H)
    subst q0
    exact ⟨trivial, _, rfl, [], (.lit (.bool x12507)), Mem.nil, ⟨rfl, trivial, by decide, rfl, trivial⟩, rfl, rfl, rfl, rfl⟩
end Go.Proofs.YtnbjdgamindikaaDoor.W
