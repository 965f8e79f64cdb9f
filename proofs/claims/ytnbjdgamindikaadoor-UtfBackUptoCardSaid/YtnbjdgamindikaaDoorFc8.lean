/- Walks: Fc8 -/
import Derived.Test.YtnbjdgamindikaaDoorFb
import Derived.Test.YtnbjdgamindikaaDoorFc1
import Derived.Test.YtnbjdgamindikaaDoorFc2
import Derived.Test.YtnbjdgamindikaaDoorFc3
import Derived.Test.YtnbjdgamindikaaDoorFc5
namespace Go.Proofs.YtnbjdgamindikaaDoor.W
open Go Go.Q Go.Proofs
set_option linter.unusedVariables false
set_option linter.unusedSimpArgs false
set_option maxRecDepth 100000 in
set_option maxHeartbeats 4000000 in
theorem s_quireref06_Text (k : Nat) (x13706 : (List Int)) (x13736 : ByteArray) (H : g_quireref06_Text k x13706 = some x13736) : Go.Q.Spec Tryd.prog 27 0 [.ro (Rd.slice (Rd.int .i64)) false x13706] Mem.nil (fun o M => o = .ret (.lit (.string x13736)) ∧ M = Mem.nil) := by
  unfold g_quireref06_Text at H
  refine Go.Q.Spec.of_bodyR (rs := [.tmp 2]) (nt := 20) Tryd.func27 rfl rfl (by intro t T h; simp at h) rfl rfl fun cx hnp => ?_
  refine WP.seq ?_
  refine WP.region ?_
  refine WPL.q (q_as (v := .lit (.string _)) rfl) rfl ?_
  refine WPL.nilW ?_
  refine W.now ?_
  refine Then.n ?_
  refine WP.seq ?_
  refine WP.region ?_
  refine WPL.q (q_as (v := .lit _) rfl) rfl ?_
  refine WPL.nilW ?_
  refine W.now ?_
  refine Then.n ?_
  refine WP.seq ?_
  refine WP.seq ?_
  refine WP.region ?_
  refine WPL.q (q_as (v := .lit (.int _ _)) rfl) rfl ?_
  refine WPL.nilW ?_
  refine W.now ?_
  refine Then.n ?_
  refine WP.block ?_
  refine WP.cv (Cv.vir 5 (Rd.int .u8) (N := 0) rfl 3 rfl) ?_
  refine WP.cv (Cv.weak (E' := (((Env.none.upd 0 (.ro (Rd.slice (Rd.int .i64)) false x13706)).upd 3 (.whole 0)).upd 4 (.lit (.int .i64 0)))) (M' := (Mem.nil.push (.row 5 (Rd.int .u8) ([] : List Int)))) [0] hnp ⟨rfl, ⟨trivial, .inr ⟨rfl, rfl, rfl⟩⟩, by decide, rfl, trivial⟩ (LeE.upd rfl rfl (LeE.upd rfl rfl (LeE.upd rfl rfl (LeE.none rfl rfl))))) ?_
  obtain ⟨x13763, H13771, H⟩ := bnd H
  refine WP.monoW (Q := fun x E M => x = .exit 0 ∧ E = (Env.none.upd 3 (.whole 0)) ∧ M = (Mem.nil.push (.row 5 (Rd.int .u8) x13763))) ?_ ?_
  · refine WP.loop (β := Int × (List Int)) (fun n b => g_quireref06_Text_l0 k x13706 n b.1 b.2 = some x13763) (fun b => (((Env.none.upd 0 (.ro (Rd.slice (Rd.int .i64)) false x13706)).upd 3 (.whole 0)).upd 4 (.lit (.int .i64 b.1)))) (fun b => (Mem.nil.push (.row 5 (Rd.int .u8) b.2))) k (0, ([] : List Int)) H13771 rfl rfl ?_
    rintro n ⟨x13753, x13754⟩ H
    obtain _ | n := n
    · exact nf rfl H
    rw [g_quireref06_Text_l0.eq_2] at H
    show WP _ _ _ _ (((Env.none.upd 0 (.ro (Rd.slice (Rd.int .i64)) false x13706)).upd 3 (.whole 0)).upd 4 (.lit (.int .i64 x13753))) (Mem.nil.push (.row 5 (Rd.int .u8) x13754)) _
    refine WP.seq ?_
    refine WP.seq ?_
    refine WP.region ?_
    refine WPL.q (q_mv (v := .lit (.int _ _)) rfl) rfl ?_
    refine WPL.q (q_mv (v := .ro _ _ _) rfl) rfl ?_
    refine WPL.q (q_len_ro sl26 rfl) rfl ?_
    obtain ⟨x13766, h13766, H⟩ := bnd H
    refine WPL.q (q_nm (q_lss rfl rfl) (nm_bool h13766)) rfl ?_
    refine WPL.nilW ?_
    refine W.now ?_
    refine Then.n ?_
    refine WP.cond (t := x13766) rfl (fun hb13766 => ?_) (fun hb13766 => ?_)
    · replace H := cnt hb13766 H
      refine WP.skipW ?_
      refine W.now ?_
      refine Then.n ?_
      refine WP.seq ?_
      refine WP.block ?_
      refine WP.region ?_
      refine WPL.q (q_mv (v := .whole _) rfl) rfl ?_
      refine WPL.q (q_mv (v := .ro _ _ _) rfl) rfl ?_
      refine WPL.q (q_mv (v := .lit (.int _ _)) rfl) rfl ?_
      obtain ⟨x13768, h13768, H⟩ := bnd H
      refine WPL.q (q_index_ro sl26 rfl rfl rfl h13768) rfl ?_
      refine WPL.q (q_load_sc sc3 rfl) rfl ?_
      obtain ⟨x13770, h13768, H⟩ := bnd H
      refine WPL.c (runs_call (s := []) (t := []) (N := 1) (bor := []) fn41 rfl (s_quireref06_Write k x13768 x13770 h13768) ⟨rfl, trivial, by decide, rfl, trivial⟩ rfl trivial (.ren rfl rfl .nil) rfl trivial rfl) rfl ?_
      obtain ⟨h13770, H⟩ := grd H
      refine WPL.d (d_append ap47 rfl rfl rfl rfl (src_ro sl47 rfl) h13770 rfl) rfl ?_
      refine WPL.q (q_as (v := .whole _) rfl) rfl ?_
      refine WPL.nilW ?_
      refine W.now ?_
      refine InBlock.n ?_
      refine Then.n ?_
      refine WP.region ?_
      refine WPL.q (q_mv (v := .lit (.int _ _)) rfl) rfl ?_
      refine WPL.q (q_add rfl rfl) rfl ?_
      refine WPL.q (q_as (v := .lit (.int _ _)) rfl) rfl ?_
      refine WPL.nilW ?_
      refine W.cv (Cv.weak (E' := (((Env.none.upd 0 (.ro (Rd.slice (Rd.int .i64)) false x13706)).upd 3 (.whole 0)).upd 4 (.lit (.int .i64 (IntKind.wrap .i64 (x13753 + 1)))))) (M' := (Mem.nil.push (.row 5 (Rd.int .u8) (x13754 ++ x13770)))) [1] hnp ⟨rfl, ⟨trivial, .inr ⟨rfl, rfl, rfl⟩⟩, by decide, rfl, trivial⟩ (LeE.upd rfl rfl (LeE.upd rfl rfl (LeE.upd rfl rfl (LeE.none rfl rfl))))) rfl ?_
      refine W.now ?_
      exact Then.n ⟨n, ((IntKind.wrap .i64 (x13753 + 1)), (x13754 ++ x13770)), Nat.lt_succ_self n, H, rfl, rfl⟩
    · replace H := cnf hb13766 H
      refine WP.exitW ?_
      refine W.cv (Cv.weak (E' := (Env.none.upd 3 (.whole 0))) (M' := (Mem.nil.push (.row 5 (Rd.int .u8) x13754))) [0] hnp ⟨rfl, ⟨trivial, .inr ⟨rfl, rfl, rfl⟩⟩, by decide, rfl, trivial⟩ (LeE.upd rfl rfl (LeE.none rfl rfl))) rfl ?_
      refine W.now ?_
      refine Then.x ?_
      refine Then.x ?_
      have q0 := (Option.some.inj H)
      subst q0
      exact ⟨rfl, rfl, rfl⟩
  · rintro _ _ _ ⟨rfl, rfl, rfl⟩
    refine W.now ?_
    refine InBlock.x0 ?_
    refine Then.n ?_
    refine WP.seq ?_
    refine WP.region ?_
    refine WPL.q (q_mv (v := .whole _) rfl) rfl ?_
    refine WPL.q (q_bytes_str_row Tryd.underlying47 Tryd.underlying5 Tryd.underlying9 rfl rfl) rfl ?_
    refine WPL.q (q_as (v := .lit (.string _)) rfl) rfl ?_
    refine WPL.nilW ?_
    refine W.now ?_
    refine Then.n ?_
    refine WP.retW ?_
    refine W.now ?_
    have q0 := (Option.some.inj H)
    subst q0
    exact ⟨trivial, _, rfl, [], (.lit (.string (strOf x13763))), Mem.nil, ⟨rfl, trivial, by decide, rfl, trivial⟩, rfl, rfl, rfl, rfl⟩
set_option maxRecDepth 100000 in
set_option maxHeartbeats 4000000 in
theorem s_quireref06_Cut (k : Nat) (x13679 : ByteArray) (x13680 : Int) (x13681 : Int) (x13783 : ByteArray) (H : g_quireref06_Cut k x13679 x13680 x13681 = some x13783) : Go.Q.Spec Tryd.prog 25 0 [.lit (.string x13679), .lit (.int .i64 x13680), .lit (.int .i64 x13681)] Mem.nil (fun o M => o = .ret (.lit (.string x13783)) ∧ M = Mem.nil) := by
  unfold g_quireref06_Cut at H
  refine Go.Q.Spec.of_bodyR (rs := [.tmp 6]) (nt := 37) Tryd.func25 rfl rfl (by intro t T h; simp at h) rfl rfl fun cx hnp => ?_
  refine WP.seq ?_
  refine WP.region ?_
  refine WPL.q (q_as (v := .lit (.string _)) rfl) rfl ?_
  refine WPL.nilW ?_
  refine W.now ?_
  refine Then.n ?_
  refine WP.seq ?_
  refine WP.region ?_
  refine WPL.q (q_mv (v := .lit (.string _)) rfl) rfl ?_
  obtain ⟨x13785, h13783, H⟩ := bnd H
  refine WPL.c (runs_call (s := []) (t := []) (N := 0) (bor := []) fn14 rfl (s_quireref06_Runes k x13679 x13785 h13783) ⟨rfl, trivial, by decide, rfl, trivial⟩ rfl trivial (.ren rfl rfl .nil) rfl trivial rfl) rfl ?_
  refine WPL.q (q_as (v := .ro _ _ _) rfl) rfl ?_
  refine WPL.nilW ?_
  refine W.now ?_
  refine Then.n ?_
  refine WP.seq ?_
  obtain ⟨x13787, H13788, H⟩ := bnd H
  refine WP.monoW (Q := fun x E M => x = .normal ∧ E = (((Env.none.upd 1 (.lit (.int .i64 x13787))).upd 2 (.lit (.int .i64 x13681))).upd 7 (.ro (Rd.slice (Rd.int .i64)) false x13785)) ∧ M = Mem.nil) ?_ ?_
  · clear H
    have H := H13788
    clear H13788
    refine WP.seq ?_
    refine WP.region ?_
    refine WPL.q (q_mv (v := .lit (.int _ _)) rfl) rfl ?_
    refine WPL.q (q_lss rfl rfl) rfl ?_
    refine WPL.nilW ?_
    refine W.now ?_
    refine Then.n ?_
    refine WP.cond (t := (decide (x13680 < 0))) rfl (fun hb13787 => ?_) (fun hb13787 => ?_)
    · replace H := cnt hb13787 H
      refine WP.region ?_
      refine WPL.q (q_as (v := .lit (.int _ _)) rfl) rfl ?_
      refine WPL.nilW ?_
      refine W.cv (Cv.weak (E' := (((Env.none.upd 1 (.lit (.int .i64 0))).upd 2 (.lit (.int .i64 x13681))).upd 7 (.ro (Rd.slice (Rd.int .i64)) false x13785))) (M' := Mem.nil) [] hnp ⟨rfl, trivial, by decide, rfl, trivial⟩ (LeE.upd rfl rfl (LeE.upd rfl rfl (LeE.upd rfl rfl (LeE.none rfl rfl))))) rfl ?_
      refine W.now ?_
      have q0 := (Option.some.inj H)
      subst q0
      exact ⟨rfl, rfl, rfl⟩
    · replace H := cnf hb13787 H
      refine WP.skipW ?_
      refine W.cv (Cv.weak (E' := (((Env.none.upd 1 (.lit (.int .i64 x13680))).upd 2 (.lit (.int .i64 x13681))).upd 7 (.ro (Rd.slice (Rd.int .i64)) false x13785))) (M' := Mem.nil) [] hnp ⟨rfl, trivial, by decide, rfl, trivial⟩ (LeE.upd rfl rfl (LeE.upd rfl rfl (LeE.upd rfl rfl (LeE.none rfl rfl))))) rfl ?_
      refine W.now ?_
      have q0 := (Option.some.inj H)
      subst q0
      exact ⟨rfl, rfl, rfl⟩
  · rintro _ _ _ ⟨rfl, rfl, rfl⟩
    refine W.now ?_
    refine Then.n ?_
    refine WP.seq ?_
    refine WP.seq ?_
    obtain ⟨x13799, H13801, H⟩ := bnd H
    refine WP.monoW (Q := fun x E M => x = .normal ∧ E = ((((Env.none.upd 1 (.lit (.int .i64 x13787))).upd 2 (.lit (.int .i64 x13681))).upd 7 (.ro (Rd.slice (Rd.int .i64)) false x13785)).upd 19 (.lit (.bool x13799))) ∧ M = Mem.nil) ?_ ?_
    · clear H
      have H := H13801
      clear H13801
      refine WP.region ?_
      refine WPL.q (q_mv (v := .lit (.int _ _)) rfl) rfl ?_
      refine WPL.q (q_leq rfl rfl) rfl ?_
      refine WPL.q (q_mv (v := .lit (.bool _)) rfl) rfl ?_
      refine WPL.split (t := 14) (b := (decide (x13681 ≤ 0))) rfl (fun hb13799 => ?_) (fun hb13799 => ?_)
      · replace H := cnt hb13799 H
        refine WPL.skipg (b' := true) rfl rfl (lb hb13799) rfl rfl ?_
        refine WPL.skipg (b' := true) rfl rfl (lb hb13799) rfl rfl ?_
        refine WPL.skipg (b' := true) rfl rfl (lb hb13799) rfl rfl ?_
        refine WPL.skipg (b' := true) rfl rfl (lb hb13799) rfl rfl ?_
        refine WPL.q (q_pickT (v := .lit (.bool _)) (lb hb13799) rfl) rfl ?_
        refine WPL.nilW ?_
        refine W.cv (Cv.weak (E' := ((((Env.none.upd 1 (.lit (.int .i64 x13787))).upd 2 (.lit (.int .i64 x13681))).upd 7 (.ro (Rd.slice (Rd.int .i64)) false x13785)).upd 19 (.lit (.bool true)))) (M' := Mem.nil) [] hnp ⟨rfl, trivial, by decide, rfl, trivial⟩ (LeE.upd rfl rfl (LeE.upd rfl rfl (LeE.upd rfl rfl (LeE.upd rfl rfl (LeE.none rfl rfl)))))) rfl ?_
        refine W.now ?_
        have q0 := (Option.some.inj H)
        subst q0
        exact ⟨rfl, rfl, rfl⟩
      · replace H := cnf hb13799 H
        refine WPL.qg rfl rfl (lb hb13799) (q_mv (v := .lit (.int _ _)) rfl) rfl ?_
        refine WPL.qg rfl rfl (lb hb13799) (q_mv (v := .ro _ _ _) rfl) rfl ?_
        refine WPL.qg rfl rfl (lb hb13799) (q_len_ro sl26 rfl) rfl ?_
        obtain ⟨x13801, h13801, H⟩ := bnd H
        refine WPL.qg rfl rfl (lb hb13799) (q_nm (q_geq rfl rfl) (nm_bool h13801)) rfl ?_
        refine WPL.q (q_pickF (v := .lit (.bool _)) (lb hb13799) rfl) rfl ?_
        refine WPL.nilW ?_
        refine W.cv (Cv.weak (E' := ((((Env.none.upd 1 (.lit (.int .i64 x13787))).upd 2 (.lit (.int .i64 x13681))).upd 7 (.ro (Rd.slice (Rd.int .i64)) false x13785)).upd 19 (.lit (.bool x13801)))) (M' := Mem.nil) [] hnp ⟨rfl, trivial, by decide, rfl, trivial⟩ (LeE.upd rfl rfl (LeE.upd rfl rfl (LeE.upd rfl rfl (LeE.upd rfl rfl (LeE.none rfl rfl)))))) rfl ?_
        refine W.now ?_
        have q0 := (Option.some.inj H)
        subst q0
        exact ⟨rfl, rfl, rfl⟩
    · rintro _ _ _ ⟨rfl, rfl, rfl⟩
      refine W.now ?_
      refine Then.n ?_
      refine WP.cond (t := x13799) rfl (fun hb13802 => ?_) (fun hb13802 => ?_)
      · replace H := cnt hb13802 H
        refine WP.seq ?_
        refine WP.region ?_
        refine WPL.q (q_as (v := .lit (.string _)) rfl) rfl ?_
        refine WPL.nilW ?_
        refine W.now ?_
        refine Then.n ?_
        refine WP.retW ?_
        refine W.now ?_
        refine Then.r ?_
        have q0 := (Option.some.inj H)
        subst q0
        exact ⟨trivial, _, rfl, [], (.lit (.string (ByteArray.mk #[]))), Mem.nil, ⟨rfl, trivial, by decide, rfl, trivial⟩, rfl, rfl, rfl, rfl⟩
      · replace H := cnf hb13802 H
        refine WP.skipW ?_
        refine W.now ?_
        refine Then.n ?_
        refine WP.seq ?_
        refine WP.seq ?_
        refine WP.region ?_
        refine WPL.q (q_mv (v := .lit (.int _ _)) rfl) rfl ?_
        refine WPL.q (q_mv (v := .ro _ _ _) rfl) rfl ?_
        refine WPL.q (q_len_ro sl26 rfl) rfl ?_
        refine WPL.q (q_mv (v := .lit (.int _ _)) rfl) rfl ?_
        obtain ⟨x13809, h13809, H⟩ := bnd H
        refine WPL.q (q_nm (q_sub rfl rfl) (nm_int h13809)) rfl ?_
        refine WPL.q (q_lss rfl rfl) rfl ?_
        refine WPL.nilW ?_
        refine W.now ?_
        refine Then.n ?_
        refine WP.cond (t := (decide (x13681 < x13809))) rfl (fun hb13809 => ?_) (fun hb13809 => ?_)
        · replace H := cnt hb13809 H
          refine WP.seq ?_
          refine WP.region ?_
          refine WPL.q (q_mv (v := .ro _ _ _) rfl) rfl ?_
          refine WPL.q (q_mv (v := .lit (.int _ _)) rfl) rfl ?_
          refine WPL.q (q_mv (v := .lit (.int _ _)) rfl) rfl ?_
          refine WPL.q (q_mv (v := .lit (.int _ _)) rfl) rfl ?_
          refine WPL.q (q_add rfl rfl) rfl ?_
          obtain ⟨h13810, H⟩ := grd H
          refine WPL.q (q_slice_ro (i := x13787) (j := (IntKind.wrap .i64 (x13787 + x13681))) sl26 rfl rfl ⟨_, rfl⟩ ⟨_, rfl⟩ h13810) rfl ?_
          obtain ⟨x13813, h13811, H⟩ := bnd H
          refine WPL.c (runs_call (s := []) (t := []) (N := 0) (bor := []) fn27 rfl (s_quireref06_Text k (List.drop (Int.toNat x13787) (List.take (Int.toNat (IntKind.wrap .i64 (x13787 + x13681))) x13785)) x13813 h13811) ⟨rfl, trivial, by decide, rfl, trivial⟩ rfl trivial (.ren rfl rfl .nil) rfl trivial rfl) rfl ?_
          refine WPL.q (q_as (v := .lit (.string _)) rfl) rfl ?_
          refine WPL.nilW ?_
          refine W.now ?_
          refine Then.n ?_
          refine WP.retW ?_
          refine W.now ?_
          refine Then.r ?_
          have q0 := (Option.some.inj H)
          subst q0
          exact ⟨trivial, _, rfl, [], (.lit (.string x13813)), Mem.nil, ⟨rfl, trivial, by decide, rfl, trivial⟩, rfl, rfl, rfl, rfl⟩
        · replace H := cnf hb13809 H
          refine WP.skipW ?_
          refine W.now ?_
          refine Then.n ?_
          refine WP.seq ?_
          refine WP.region ?_
          refine WPL.q (q_mv (v := .ro _ _ _) rfl) rfl ?_
          refine WPL.q (q_mv (v := .lit (.int _ _)) rfl) rfl ?_
          obtain ⟨h13813, H⟩ := grd H
          refine WPL.q (q_slice_ro (i := x13787) (j := ((List.length x13785 : Nat) : Int)) sl26 rfl rfl ⟨_, rfl⟩ rfl h13813) rfl ?_
          obtain ⟨x13816, h13814, H⟩ := bnd H
          refine WPL.c (runs_call (s := []) (t := []) (N := 0) (bor := []) fn27 rfl (s_quireref06_Text k (List.drop (Int.toNat x13787) (List.take (Int.toNat ((List.length x13785 : Nat) : Int)) x13785)) x13816 h13814) ⟨rfl, trivial, by decide, rfl, trivial⟩ rfl trivial (.ren rfl rfl .nil) rfl trivial rfl) rfl ?_
          refine WPL.q (q_as (v := .lit (.string _)) rfl) rfl ?_
          refine WPL.nilW ?_
          refine W.now ?_
          refine Then.n ?_
          refine WP.retW ?_
          refine W.now ?_
          have q0 := (Option.some.inj H)
          subst q0
          exact ⟨trivial, _, rfl, [], (.lit (.string x13816)), Mem.nil, ⟨rfl, trivial, by decide, rfl, trivial⟩, rfl, rfl, rfl, rfl⟩
set_option maxRecDepth 100000 in
set_option maxHeartbeats 4000000 in
theorem s_unicode_utf8_ValidRune (k : Nat) (x13828 : Int) (x13850 : Bool) (H : g_unicode_utf8_ValidRune k x13828 = some x13850) : Go.Q.Spec Tryd.prog 40 0 [.lit (.int .i32 x13828)] Mem.nil (fun o M => o = .ret (.lit (.bool x13850)) ∧ M = Mem.nil) := by
  unfold g_unicode_utf8_ValidRune at H
  refine Go.Q.Spec.of_bodyR (rs := [.tmp 2]) (nt := 17) Tryd.func40 rfl rfl (by intro t T h; simp at h) rfl rfl fun cx hnp => ?_
  refine WP.seq ?_
  refine WP.region ?_
  refine WPL.q (q_as (v := .lit (.bool _)) rfl) rfl ?_
  refine WPL.nilW ?_
  refine W.now ?_
  refine Then.n ?_
  refine WP.seq ?_
  refine WP.block ?_
  refine WP.seq ?_
  obtain ⟨x13862, H13863, H⟩ := bnd H
  refine WP.monoW (Q := fun x E M => x = .normal ∧ E = ((Env.none.upd 0 (.lit (.int .i32 x13828))).upd 3 (.lit (.bool x13862))) ∧ M = Mem.nil) ?_ ?_
  · clear H
    have H := H13863
    clear H13863
    refine WP.region ?_
    refine WPL.q (q_mv (v := .lit (.int _ _)) rfl) rfl ?_
    refine WPL.q (q_leq rfl rfl) rfl ?_
    refine WPL.q (q_mv (v := .lit (.bool _)) rfl) rfl ?_
    refine WPL.split (t := 6) (b := (decide (0 ≤ x13828))) rfl (fun hb13862 => ?_) (fun hb13862 => ?_)
    · replace H := cnt hb13862 H
      refine WPL.qg rfl rfl (lb hb13862) (q_mv (v := .lit (.int _ _)) rfl) rfl ?_
      refine WPL.qg rfl rfl (lb hb13862) (q_lss rfl rfl) rfl ?_
      refine WPL.q (q_pickT (v := .lit (.bool _)) (lb hb13862) rfl) rfl ?_
      refine WPL.q (q_as (v := .lit (.bool _)) rfl) rfl ?_
      refine WPL.nilW ?_
      refine W.cv (Cv.weak (E' := ((Env.none.upd 0 (.lit (.int .i32 x13828))).upd 3 (.lit (.bool (decide (x13828 < 55296)))))) (M' := Mem.nil) [] hnp ⟨rfl, trivial, by decide, rfl, trivial⟩ (LeE.upd rfl rfl (LeE.upd rfl rfl (LeE.none rfl rfl)))) rfl ?_
      refine W.now ?_
      have q0 := (Option.some.inj H)
      subst q0
      exact ⟨rfl, rfl, rfl⟩
    · replace H := cnf hb13862 H
      refine WPL.skipg (b' := false) rfl rfl (lb hb13862) rfl rfl ?_
      refine WPL.skipg (b' := false) rfl rfl (lb hb13862) rfl rfl ?_
      refine WPL.q (q_pickF (v := .lit (.bool _)) (lb hb13862) rfl) rfl ?_
      refine WPL.q (q_as (v := .lit (.bool _)) rfl) rfl ?_
      refine WPL.nilW ?_
      refine W.cv (Cv.weak (E' := ((Env.none.upd 0 (.lit (.int .i32 x13828))).upd 3 (.lit (.bool false)))) (M' := Mem.nil) [] hnp ⟨rfl, trivial, by decide, rfl, trivial⟩ (LeE.upd rfl rfl (LeE.upd rfl rfl (LeE.none rfl rfl)))) rfl ?_
      refine W.now ?_
      have q0 := (Option.some.inj H)
      subst q0
      exact ⟨rfl, rfl, rfl⟩
  · rintro _ _ _ ⟨rfl, rfl, rfl⟩
    refine W.now ?_
    refine Then.n ?_
    refine WP.cond (t := x13862) rfl (fun hb13864 => ?_) (fun hb13864 => ?_)
    · replace H := cnt hb13864 H
      refine WP.seq ?_
      refine WP.region ?_
      refine WPL.q (q_as (v := .lit (.bool _)) rfl) rfl ?_
      refine WPL.nilW ?_
      refine W.now ?_
      refine Then.n ?_
      refine WP.retW ?_
      refine W.now ?_
      refine InBlock.r ?_
      refine Then.r ?_
      have q0 := (Option.some.inj H)
      subst q0
      exact ⟨trivial, _, rfl, [], (.lit (.bool true)), Mem.nil, ⟨rfl, trivial, by decide, rfl, trivial⟩, rfl, rfl, rfl, rfl⟩
    · replace H := cnf hb13864 H
      refine WP.seq ?_
      obtain ⟨x13867, H13868, H⟩ := bnd H
      refine WP.monoW (Q := fun x E M => x = .normal ∧ E = (Env.none.upd 10 (.lit (.bool x13867))) ∧ M = Mem.nil) ?_ ?_
      · clear H
        have H := H13868
        clear H13868
        refine WP.region ?_
        refine WPL.q (q_mv (v := .lit (.int _ _)) rfl) rfl ?_
        refine WPL.q (q_lss rfl rfl) rfl ?_
        refine WPL.q (q_mv (v := .lit (.bool _)) rfl) rfl ?_
        refine WPL.split (t := 13) (b := (decide (57343 < x13828))) rfl (fun hb13867 => ?_) (fun hb13867 => ?_)
        · replace H := cnt hb13867 H
          refine WPL.qg rfl rfl (lb hb13867) (q_mv (v := .lit (.int _ _)) rfl) rfl ?_
          refine WPL.qg rfl rfl (lb hb13867) (q_leq rfl rfl) rfl ?_
          refine WPL.q (q_pickT (v := .lit (.bool _)) (lb hb13867) rfl) rfl ?_
          refine WPL.q (q_as (v := .lit (.bool _)) rfl) rfl ?_
          refine WPL.nilW ?_
          refine W.cv (Cv.weak (E' := (Env.none.upd 10 (.lit (.bool (decide (x13828 ≤ 1114111)))))) (M' := Mem.nil) [] hnp ⟨rfl, trivial, by decide, rfl, trivial⟩ (LeE.upd rfl rfl (LeE.none rfl rfl))) rfl ?_
          refine W.now ?_
          have q0 := (Option.some.inj H)
          subst q0
          exact ⟨rfl, rfl, rfl⟩
        · replace H := cnf hb13867 H
          refine WPL.skipg (b' := false) rfl rfl (lb hb13867) rfl rfl ?_
          refine WPL.skipg (b' := false) rfl rfl (lb hb13867) rfl rfl ?_
          refine WPL.q (q_pickF (v := .lit (.bool _)) (lb hb13867) rfl) rfl ?_
          refine WPL.q (q_as (v := .lit (.bool _)) rfl) rfl ?_
          refine WPL.nilW ?_
          refine W.cv (Cv.weak (E' := (Env.none.upd 10 (.lit (.bool false)))) (M' := Mem.nil) [] hnp ⟨rfl, trivial, by decide, rfl, trivial⟩ (LeE.upd rfl rfl (LeE.none rfl rfl))) rfl ?_
          refine W.now ?_
          have q0 := (Option.some.inj H)
          subst q0
          exact ⟨rfl, rfl, rfl⟩
      · rintro _ _ _ ⟨rfl, rfl, rfl⟩
        refine W.now ?_
        refine Then.n ?_
        refine WP.cond (t := x13867) rfl (fun hb13869 => ?_) (fun hb13869 => ?_)
        · replace H := cnt hb13869 H
          refine WP.seq ?_
          refine WP.region ?_
          refine WPL.q (q_as (v := .lit (.bool _)) rfl) rfl ?_
          refine WPL.nilW ?_
          refine W.now ?_
          refine Then.n ?_
          refine WP.retW ?_
          refine W.now ?_
          refine InBlock.r ?_
          refine Then.r ?_
          have q0 := (Option.some.inj H)
          subst q0
          exact ⟨trivial, _, rfl, [], (.lit (.bool true)), Mem.nil, ⟨rfl, trivial, by decide, rfl, trivial⟩, rfl, rfl, rfl, rfl⟩
        · replace H := cnf hb13869 H
          refine WP.skipW ?_
          refine W.now ?_
          refine InBlock.n ?_
          refine Then.n ?_
          refine WP.seq ?_
          refine WP.region ?_
          refine WPL.q (q_as (v := .lit (.bool _)) rfl) rfl ?_
          refine WPL.nilW ?_
          refine W.now ?_
          refine Then.n ?_
          refine WP.retW ?_
          refine W.now ?_
          have q0 := (Option.some.inj H)
          subst q0
          exact ⟨trivial, _, rfl, [], (.lit (.bool false)), Mem.nil, ⟨rfl, trivial, by decide, rfl, trivial⟩, rfl, rfl, rfl, rfl⟩
set_option maxRecDepth 100000 in
set_option maxHeartbeats 4000000 in
theorem s_utf_Text (k : Nat) (x13820 : (List Int)) (x14054 : ByteArray) (H : g_utf_Text k x13820 = some x14054) : Go.Q.Spec Tryd.prog 26 0 [.ro (Rd.slice (Rd.int .i64)) false x13820] Mem.nil (fun o M => o = .ret (.lit (.string x14054)) ∧ M = Mem.nil) := by
  unfold g_utf_Text at H
  refine Go.Q.Spec.of_bodyR (rs := [.tmp 2]) (nt := 30) Tryd.func26 rfl rfl (by intro t T h; simp at h) rfl rfl fun cx hnp => ?_
  refine WP.seq ?_
  refine WP.region ?_
  refine WPL.q (q_as (v := .lit (.string _)) rfl) rfl ?_
  refine WPL.nilW ?_
  refine W.now ?_
  refine Then.n ?_
  refine WP.seq ?_
  refine WP.region ?_
  refine WPL.d (d_alloc ze50 rfl) rfl ?_
  refine WPL.nilW ?_
  refine W.now ?_
  refine Then.n ?_
  refine WP.seq ?_
  refine WP.seq ?_
  refine WP.region ?_
  refine WPL.q (q_mv (v := .ro _ _ _) rfl) rfl ?_
  refine WPL.q (q_len_ro sl26 rfl) rfl ?_
  refine WPL.q (q_mv (v := .lit (.int _ _)) rfl) rfl ?_
  refine WPL.nilW ?_
  refine W.now ?_
  refine Then.n ?_
  refine WP.block ?_
  refine WP.cv (Cv.optC0 (i := 0) (off := 0) (j := 0) (o := 0) rfl rfl rfl rfl rfl) ?_
  refine WP.cv (Cv.virC 5 (Rd.int .u8) (N := 1) rfl rfl (i := 0) (off := 1) rfl rfl) ?_
  refine WP.cv (Cv.weak (E' := ((((Env.none.upd 3 (.ptr 0 0)).upd 7 (.ro (Rd.slice (Rd.int .i64)) false x13820)).upd 8 (.lit (.int .i64 ((List.length x13820 : Nat) : Int)))).upd 9 (.lit (.int .i64 0)))) (M' := ((Mem.nil.push (.cells 50 [.opt false 0 0, .whole 1])).push (.row 5 (Rd.int .u8) ([] : List Int)))) [0, 1] hnp ⟨rfl, ⟨⟨trivial, .inr ⟨rfl, rfl, rfl⟩⟩, .inr ⟨rfl, rfl, rfl⟩⟩, by decide, rfl, trivial⟩ (LeE.upd rfl rfl (LeE.upd rfl rfl (LeE.upd rfl rfl (LeE.upd rfl rfl (LeE.none rfl rfl)))))) ?_
  obtain ⟨⟨x14239, x14240⟩, H14301, H⟩ := bnd H
  refine WP.monoW (Q := fun x E M => x = .exit 0 ∧ E = (Env.none.upd 3 (.ptr 0 0)) ∧ M = ((Mem.nil.push (.cells 50 [.opt x14239 0 0, .whole 1])).push (.row 5 (Rd.int .u8) x14240))) ?_ ?_
  · refine WP.loop (β := Int × Bool × (List Int)) (fun n b => g_utf_Text_l0 k x13820 n b.1 b.2.1 b.2.2 = some (x14239, x14240)) (fun b => ((((Env.none.upd 3 (.ptr 0 0)).upd 7 (.ro (Rd.slice (Rd.int .i64)) false x13820)).upd 8 (.lit (.int .i64 ((List.length x13820 : Nat) : Int)))).upd 9 (.lit (.int .i64 b.1)))) (fun b => ((Mem.nil.push (.cells 50 [.opt b.2.1 0 0, .whole 1])).push (.row 5 (Rd.int .u8) b.2.2))) k (0, false, ([] : List Int)) H14301 rfl rfl ?_
    rintro n ⟨x14175, x14176, x14177⟩ H
    obtain _ | n := n
    · exact nf rfl H
    rw [g_utf_Text_l0.eq_2] at H
    show WP _ _ _ _ ((((Env.none.upd 3 (.ptr 0 0)).upd 7 (.ro (Rd.slice (Rd.int .i64)) false x13820)).upd 8 (.lit (.int .i64 ((List.length x13820 : Nat) : Int)))).upd 9 (.lit (.int .i64 x14175))) ((Mem.nil.push (.cells 50 [.opt x14176 0 0, .whole 1])).push (.row 5 (Rd.int .u8) x14177)) _
    refine WP.seq ?_
    refine WP.region ?_
    obtain ⟨x14241, h14241, H⟩ := bnd H
    refine WPL.q (q_nm (q_lss rfl rfl) (nm_bool h14241)) rfl ?_
    refine WPL.nilW ?_
    refine W.now ?_
    refine Then.n ?_
    refine WP.seq ?_
    refine WP.cond (t := x14241) rfl (fun hb14242 => ?_) (fun hb14242 => ?_)
    · replace H := cnt hb14242 H
      refine WP.skipW ?_
      refine W.now ?_
      refine Then.n ?_
      refine WP.seq ?_
      refine WP.block ?_
      refine WP.seq ?_
      refine WP.region ?_
      obtain ⟨x14273, h14273, H⟩ := bnd H
      refine WPL.q (q_index_ro sl26 rfl rfl rfl h14273) rfl ?_
      refine WPL.q (q_load_sc sc3 rfl) rfl ?_
      refine WPL.q (q_as (v := .lit (.int _ _)) rfl) rfl ?_
      refine WPL.nilW ?_
      refine W.now ?_
      refine Then.n ?_
      refine WP.seq ?_
      refine WP.region ?_
      refine WPL.q (q_as (v := .lit (.int _ _)) rfl) rfl ?_
      refine WPL.nilW ?_
      refine W.now ?_
      refine Then.n ?_
      refine WP.seq ?_
      obtain ⟨x14285, H14296, H⟩ := bnd H
      refine WP.monoW (Q := fun x E M => x = .normal ∧ E = (((((Env.none.upd 3 (.ptr 0 0)).upd 6 (.lit (.int .i32 x14285))).upd 7 (.ro (Rd.slice (Rd.int .i64)) false x13820)).upd 8 (.lit (.int .i64 ((List.length x13820 : Nat) : Int)))).upd 9 (.lit (.int .i64 x14175))) ∧ M = ((Mem.nil.push (.cells 50 [.opt x14176 0 0, .whole 1])).push (.row 5 (Rd.int .u8) x14177))) ?_ ?_
      · clear H
        have H := H14296
        clear H14296
        refine WP.seq ?_
        obtain ⟨x14290, H14294, H⟩ := bnd H
        refine WP.monoW (Q := fun x E M => x = .normal ∧ E = (((((((Env.none.upd 3 (.ptr 0 0)).upd 5 (.lit (.int .i64 x14273))).upd 6 (.lit (.int .i32 65533))).upd 7 (.ro (Rd.slice (Rd.int .i64)) false x13820)).upd 8 (.lit (.int .i64 ((List.length x13820 : Nat) : Int)))).upd 9 (.lit (.int .i64 x14175))).upd 23 (.lit (.bool x14290))) ∧ M = ((Mem.nil.push (.cells 50 [.opt x14176 0 0, .whole 1])).push (.row 5 (Rd.int .u8) x14177))) ?_ ?_
        · clear H
          have H := H14294
          clear H14294
          refine WP.region ?_
          refine WPL.q (q_mv (v := .lit (.int _ _)) rfl) rfl ?_
          refine WPL.q (q_geq rfl rfl) rfl ?_
          refine WPL.q (q_mv (v := .lit (.bool _)) rfl) rfl ?_
          refine WPL.split (t := 15) (b := (decide (0 ≤ x14273))) rfl (fun hb14290 => ?_) (fun hb14290 => ?_)
          · replace H := cnt hb14290 H
            refine WPL.qg rfl rfl (lb hb14290) (q_mv (v := .lit (.int _ _)) rfl) rfl ?_
            refine WPL.qg rfl rfl (lb hb14290) (q_leq rfl rfl) rfl ?_
            refine WPL.q (q_pickT (v := .lit (.bool _)) (lb hb14290) rfl) rfl ?_
            refine WPL.q (q_mv (v := .lit (.bool _)) rfl) rfl ?_
            refine WPL.split (t := 19) (b := (decide (x14273 ≤ 1114111))) rfl (fun hb14291 => ?_) (fun hb14291 => ?_)
            · replace H := cnt hb14291 H
              refine WPL.qg rfl rfl (lb hb14291) (q_mv (v := .lit (.int _ _)) rfl) rfl ?_
              refine WPL.qg rfl rfl (lb hb14291) (q_conv Tryd.underlying3 Tryd.underlying21 rfl) rfl ?_
              obtain ⟨x14294, h14292, H⟩ := bnd H
              refine WPL.cg rfl rfl (lb hb14291) (runs_call (s := []) (t := []) (N := 2) (bor := []) fn40 rfl (s_unicode_utf8_ValidRune k (IntKind.wrap .i32 x14273) x14294 h14292) ⟨rfl, trivial, by decide, rfl, trivial⟩ rfl trivial (.ren rfl rfl .nil) rfl trivial rfl) rfl ?_
              refine WPL.q (q_pickT (v := .lit (.bool _)) (lb hb14291) rfl) rfl ?_
              refine WPL.nilW ?_
              refine W.cv (Cv.weak (E' := (((((((Env.none.upd 3 (.ptr 0 0)).upd 5 (.lit (.int .i64 x14273))).upd 6 (.lit (.int .i32 65533))).upd 7 (.ro (Rd.slice (Rd.int .i64)) false x13820)).upd 8 (.lit (.int .i64 ((List.length x13820 : Nat) : Int)))).upd 9 (.lit (.int .i64 x14175))).upd 23 (.lit (.bool x14294)))) (M' := ((Mem.nil.push (.cells 50 [.opt x14176 0 0, .whole 1])).push (.row 5 (Rd.int .u8) x14177))) [0, 1] hnp ⟨rfl, ⟨⟨trivial, .inr ⟨rfl, rfl, rfl⟩⟩, .inr ⟨rfl, rfl, rfl⟩⟩, by decide, rfl, trivial⟩ (LeE.upd rfl rfl (LeE.upd rfl rfl (LeE.upd rfl rfl (LeE.upd rfl rfl (LeE.upd rfl rfl (LeE.upd rfl rfl (LeE.upd rfl rfl (LeE.none rfl rfl))))))))) rfl ?_
              refine W.now ?_
              have q0 := (Option.some.inj H)
              subst q0
              exact ⟨rfl, rfl, rfl⟩
            · replace H := cnf hb14291 H
              refine WPL.skipg (b' := false) rfl rfl (lb hb14291) rfl rfl ?_
              refine WPL.skipg (b' := false) rfl rfl (lb hb14291) rfl rfl ?_
              refine WPL.skipg (b' := false) rfl rfl (lb hb14291) rfl rfl ?_
              refine WPL.q (q_pickF (v := .lit (.bool _)) (lb hb14291) rfl) rfl ?_
              refine WPL.nilW ?_
              refine W.cv (Cv.weak (E' := (((((((Env.none.upd 3 (.ptr 0 0)).upd 5 (.lit (.int .i64 x14273))).upd 6 (.lit (.int .i32 65533))).upd 7 (.ro (Rd.slice (Rd.int .i64)) false x13820)).upd 8 (.lit (.int .i64 ((List.length x13820 : Nat) : Int)))).upd 9 (.lit (.int .i64 x14175))).upd 23 (.lit (.bool false)))) (M' := ((Mem.nil.push (.cells 50 [.opt x14176 0 0, .whole 1])).push (.row 5 (Rd.int .u8) x14177))) [0, 1] hnp ⟨rfl, ⟨⟨trivial, .inr ⟨rfl, rfl, rfl⟩⟩, .inr ⟨rfl, rfl, rfl⟩⟩, by decide, rfl, trivial⟩ (LeE.upd rfl rfl (LeE.upd rfl rfl (LeE.upd rfl rfl (LeE.upd rfl rfl (LeE.upd rfl rfl (LeE.upd rfl rfl (LeE.upd rfl rfl (LeE.none rfl rfl))))))))) rfl ?_
              refine W.now ?_
              have q0 := (Option.some.inj H)
              subst q0
              exact ⟨rfl, rfl, rfl⟩
          · replace H := cnf hb14290 H
            refine WPL.skipg (b' := false) rfl rfl (lb hb14290) rfl rfl ?_
            refine WPL.skipg (b' := false) rfl rfl (lb hb14290) rfl rfl ?_
            refine WPL.q (q_pickF (v := .lit (.bool _)) (lb hb14290) rfl) rfl ?_
            refine WPL.q (q_mv (v := .lit (.bool _)) rfl) rfl ?_
            refine WPL.skipg (b' := false) rfl rfl rfl rfl rfl ?_
            refine WPL.skipg (b' := false) rfl rfl rfl rfl rfl ?_
            refine WPL.skipg (b' := false) rfl rfl rfl rfl rfl ?_
            refine WPL.q (q_pickF (v := .lit (.bool _)) rfl rfl) rfl ?_
            refine WPL.nilW ?_
            refine W.cv (Cv.weak (E' := (((((((Env.none.upd 3 (.ptr 0 0)).upd 5 (.lit (.int .i64 x14273))).upd 6 (.lit (.int .i32 65533))).upd 7 (.ro (Rd.slice (Rd.int .i64)) false x13820)).upd 8 (.lit (.int .i64 ((List.length x13820 : Nat) : Int)))).upd 9 (.lit (.int .i64 x14175))).upd 23 (.lit (.bool false)))) (M' := ((Mem.nil.push (.cells 50 [.opt x14176 0 0, .whole 1])).push (.row 5 (Rd.int .u8) x14177))) [0, 1] hnp ⟨rfl, ⟨⟨trivial, .inr ⟨rfl, rfl, rfl⟩⟩, .inr ⟨rfl, rfl, rfl⟩⟩, by decide, rfl, trivial⟩ (LeE.upd rfl rfl (LeE.upd rfl rfl (LeE.upd rfl rfl (LeE.upd rfl rfl (LeE.upd rfl rfl (LeE.upd rfl rfl (LeE.upd rfl rfl (LeE.none rfl rfl))))))))) rfl ?_
            refine W.now ?_
            have q0 := (Option.some.inj H)
            subst q0
            exact ⟨rfl, rfl, rfl⟩
        · rintro _ _ _ ⟨rfl, rfl, rfl⟩
          refine W.now ?_
          refine Then.n ?_
          refine WP.cond (t := x14290) rfl (fun hb14295 => ?_) (fun hb14295 => ?_)
          · replace H := cnt hb14295 H
            refine WP.region ?_
            refine WPL.q (q_mv (v := .lit (.int _ _)) rfl) rfl ?_
            refine WPL.q (q_conv Tryd.underlying3 Tryd.underlying21 rfl) rfl ?_
            refine WPL.q (q_as (v := .lit (.int _ _)) rfl) rfl ?_
            refine WPL.nilW ?_
            refine W.cv (Cv.weak (E' := (((((Env.none.upd 3 (.ptr 0 0)).upd 6 (.lit (.int .i32 (IntKind.wrap .i32 x14273)))).upd 7 (.ro (Rd.slice (Rd.int .i64)) false x13820)).upd 8 (.lit (.int .i64 ((List.length x13820 : Nat) : Int)))).upd 9 (.lit (.int .i64 x14175)))) (M' := ((Mem.nil.push (.cells 50 [.opt x14176 0 0, .whole 1])).push (.row 5 (Rd.int .u8) x14177))) [0, 1] hnp ⟨rfl, ⟨⟨trivial, .inr ⟨rfl, rfl, rfl⟩⟩, .inr ⟨rfl, rfl, rfl⟩⟩, by decide, rfl, trivial⟩ (LeE.upd rfl rfl (LeE.upd rfl rfl (LeE.upd rfl rfl (LeE.upd rfl rfl (LeE.upd rfl rfl (LeE.none rfl rfl))))))) rfl ?_
            refine W.now ?_
            have q0 := (Option.some.inj H)
            subst q0
            exact ⟨rfl, rfl, rfl⟩
          · replace H := cnf hb14295 H
            refine WP.skipW ?_
            refine W.cv (Cv.weak (E' := (((((Env.none.upd 3 (.ptr 0 0)).upd 6 (.lit (.int .i32 65533))).upd 7 (.ro (Rd.slice (Rd.int .i64)) false x13820)).upd 8 (.lit (.int .i64 ((List.length x13820 : Nat) : Int)))).upd 9 (.lit (.int .i64 x14175)))) (M' := ((Mem.nil.push (.cells 50 [.opt x14176 0 0, .whole 1])).push (.row 5 (Rd.int .u8) x14177))) [0, 1] hnp ⟨rfl, ⟨⟨trivial, .inr ⟨rfl, rfl, rfl⟩⟩, .inr ⟨rfl, rfl, rfl⟩⟩, by decide, rfl, trivial⟩ (LeE.upd rfl rfl (LeE.upd rfl rfl (LeE.upd rfl rfl (LeE.upd rfl rfl (LeE.upd rfl rfl (LeE.none rfl rfl))))))) rfl ?_
            refine W.now ?_
            have q0 := (Option.some.inj H)
            subst q0
            exact ⟨rfl, rfl, rfl⟩
      · rintro _ _ _ ⟨rfl, rfl, rfl⟩
        refine W.now ?_
        refine Then.n ?_
        refine WP.region ?_
        refine WPL.q (q_mv (v := .lit (.int _ _)) rfl) rfl ?_
        obtain ⟨⟨x14299, x14300, x14301⟩, h14297, H⟩ := bnd H
        refine WPL.c (runs_call (s := [0, 1]) (t := [0, 2]) (N := 3) (bor := []) fn38 rfl (s_strings_Builder_WriteRune__b k x14285 x14176 x14177 x14299 x14300 x14301 h14297) ⟨rfl, ⟨⟨trivial, .inr ⟨rfl, rfl, rfl⟩⟩, .inr ⟨rfl, rfl, rfl⟩⟩, by decide, rfl, trivial⟩ rfl trivial (.ren rfl rfl (.ren rfl rfl .nil)) rfl ⟨⟨trivial, rfl⟩, rfl⟩ rfl) rfl ?_
        refine WPL.nilW ?_
        refine W.now ?_
        refine InBlock.n ?_
        refine Then.n ?_
        refine WP.region ?_
        refine WPL.q (q_add rfl rfl) rfl ?_
        refine WPL.q (q_mv (v := .lit (.int _ _)) rfl) rfl ?_
        refine WPL.nilW ?_
        refine W.cv (Cv.weak (E' := ((((Env.none.upd 3 (.ptr 0 0)).upd 7 (.ro (Rd.slice (Rd.int .i64)) false x13820)).upd 8 (.lit (.int .i64 ((List.length x13820 : Nat) : Int)))).upd 9 (.lit (.int .i64 (IntKind.wrap .i64 (x14175 + 1)))))) (M' := ((Mem.nil.push (.cells 50 [.opt x14300 0 0, .whole 1])).push (.row 5 (Rd.int .u8) x14301))) [0, 2] hnp ⟨rfl, ⟨⟨trivial, .inr ⟨rfl, rfl, rfl⟩⟩, .inr ⟨rfl, rfl, rfl⟩⟩, by decide, rfl, trivial⟩ (LeE.upd rfl rfl (LeE.upd rfl rfl (LeE.upd rfl rfl (LeE.upd rfl rfl (LeE.none rfl rfl)))))) rfl ?_
        refine W.now ?_
        exact Then.n ⟨n, ((IntKind.wrap .i64 (x14175 + 1)), x14300, x14301), Nat.lt_succ_self n, H, rfl, rfl⟩
    · replace H := cnf hb14242 H
      refine WP.exitW ?_
      refine W.cv (Cv.weak (E' := (Env.none.upd 3 (.ptr 0 0))) (M' := ((Mem.nil.push (.cells 50 [.opt x14176 0 0, .whole 1])).push (.row 5 (Rd.int .u8) x14177))) [0, 1] hnp ⟨rfl, ⟨⟨trivial, .inr ⟨rfl, rfl, rfl⟩⟩, .inr ⟨rfl, rfl, rfl⟩⟩, by decide, rfl, trivial⟩ (LeE.upd rfl rfl (LeE.none rfl rfl))) rfl ?_
      refine W.now ?_
      refine Then.x ?_
      refine Then.x ?_
      have q0 := (Prod.mk.inj (Option.some.inj H)).1
      have q1 := (Prod.mk.inj (Option.some.inj H)).2
      subst q0
      subst q1
      exact ⟨rfl, rfl, rfl⟩
  · rintro _ _ _ ⟨rfl, rfl, rfl⟩
    refine W.now ?_
    refine InBlock.x0 ?_
    refine Then.n ?_
    refine WP.seq ?_
    refine WP.region ?_
    obtain ⟨y14304, h14302, H⟩ := bnd H
    rcases y14304 with _ | _
    · refine WPL.c (runs_call (s := [0, 1]) (t := [0, 2]) (N := 3) (bor := []) fn39 rfl (s_strings_Builder_String k x14239 x14240 (Sum.inl ()) h14302) ⟨rfl, ⟨⟨trivial, .inr ⟨rfl, rfl, rfl⟩⟩, .inr ⟨rfl, rfl, rfl⟩⟩, by decide, rfl, trivial⟩ rfl trivial (.ren rfl rfl .nil) rfl ⟨⟨trivial, rfl⟩, rfl⟩ rfl) rfl ?_
      refine WPL.q (q_as (v := .lit (.string _)) rfl) rfl ?_
      refine WPL.nilW ?_
      refine W.now ?_
      refine Then.n ?_
      refine WP.retW ?_
      refine W.now ?_
      have q0 := (Option.some.inj H)
      subst q0
      exact ⟨trivial, _, rfl, [], (.lit (.string ByteArray.empty)), Mem.nil, ⟨rfl, trivial, by decide, rfl, trivial⟩, rfl, rfl, rfl, rfl⟩
    · refine WPL.c (runs_call (s := [0, 1]) (t := [0, 2]) (N := 3) (bor := []) fn39 rfl (s_strings_Builder_String k x14239 x14240 (Sum.inr ()) h14302) ⟨rfl, ⟨⟨trivial, .inr ⟨rfl, rfl, rfl⟩⟩, .inr ⟨rfl, rfl, rfl⟩⟩, by decide, rfl, trivial⟩ rfl trivial (.ren rfl rfl .nil) rfl ⟨⟨trivial, rfl⟩, rfl⟩ rfl) rfl ?_
      refine WPL.q (q_as (v := .lit (.string _)) rfl) rfl ?_
      refine WPL.nilW ?_
      refine W.now ?_
      refine Then.n ?_
      refine WP.retW ?_
      refine W.now ?_
      have q0 := (Option.some.inj H)
      subst q0
      exact ⟨trivial, _, rfl, [], (.lit (.string (strOf x14240))), Mem.nil, ⟨rfl, trivial, by decide, rfl, trivial⟩, rfl, rfl, rfl, rfl⟩
set_option maxRecDepth 100000 in
set_option maxHeartbeats 4000000 in
theorem s_quirelaw06_UtfCuts (k : Nat) (x13672 : ByteArray) (x13673 : Int) (x13674 : Int) (x13675 : (List Int)) (x14326 : Bool) (H : g_quirelaw06_UtfCuts k x13672 x13673 x13674 x13675 = some x14326) : Go.Q.Spec Tryd.prog 6 0 [.lit (.string x13672), .lit (.int .i64 x13673), .lit (.int .i64 x13674), .ro (Rd.slice (Rd.int .i64)) false x13675] Mem.nil (fun o M => o = .ret (.lit (.bool x14326)) ∧ M = Mem.nil) := by
  unfold g_quirelaw06_UtfCuts at H
  refine Go.Q.Spec.of_bodyR (rs := [.tmp 8]) (nt := 28) Tryd.func6 rfl rfl (by intro t T h; simp at h) rfl rfl fun cx hnp => ?_
  refine WP.seq ?_
  refine WP.region ?_
  refine WPL.q (q_as (v := .lit (.bool _)) rfl) rfl ?_
  refine WPL.nilW ?_
  refine W.now ?_
  refine Then.n ?_
  refine WP.seq ?_
  obtain ⟨x14339, H14351, H⟩ := bnd H
  refine WP.monoW (Q := fun x E M => x = .normal ∧ E = (Env.none.upd 8 (.lit (.bool x14339))) ∧ M = Mem.nil) ?_ ?_
  · clear H
    have H := H14351
    clear H14351
    refine WP.region ?_
    refine WPL.q (q_mv (v := .lit (.string _)) rfl) rfl ?_
    refine WPL.q (q_mv (v := .lit (.int _ _)) rfl) rfl ?_
    refine WPL.q (q_mv (v := .lit (.int _ _)) rfl) rfl ?_
    obtain ⟨x14341, h14339, H⟩ := bnd H
    refine WPL.c (runs_call (s := []) (t := []) (N := 0) (bor := []) fn24 rfl (s_utf_Cut k x13672 x13673 x13674 x14341 h14339) ⟨rfl, trivial, by decide, rfl, trivial⟩ rfl trivial (.ren rfl rfl (.ren rfl rfl (.ren rfl rfl .nil))) rfl trivial rfl) rfl ?_
    refine WPL.q (q_mv (v := .lit (.string _)) rfl) rfl ?_
    refine WPL.q (q_mv (v := .lit (.int _ _)) rfl) rfl ?_
    refine WPL.q (q_mv (v := .lit (.int _ _)) rfl) rfl ?_
    obtain ⟨x14343, h14341, H⟩ := bnd H
    refine WPL.c (runs_call (s := []) (t := []) (N := 0) (bor := []) fn25 rfl (s_quireref06_Cut k x13672 x13673 x13674 x14343 h14341) ⟨rfl, trivial, by decide, rfl, trivial⟩ rfl trivial (.ren rfl rfl (.ren rfl rfl (.ren rfl rfl .nil))) rfl trivial rfl) rfl ?_
    refine WPL.q (q_eqls rfl rfl) rfl ?_
    refine WPL.q (q_mv (v := .lit (.bool _)) rfl) rfl ?_
    refine WPL.split (t := 18) (b := (x14341.toList == x14343.toList)) rfl (fun hb14343 => ?_) (fun hb14343 => ?_)
    · replace H := cnt hb14343 H
      refine WPL.qg rfl rfl (lb hb14343) (q_mv (v := .ro _ _ _) rfl) rfl ?_
      obtain ⟨x14346, h14344, H⟩ := bnd H
      refine WPL.cg rfl rfl (lb hb14343) (runs_call (s := []) (t := []) (N := 0) (bor := []) fn26 rfl (s_utf_Text k x13675 x14346 h14344) ⟨rfl, trivial, by decide, rfl, trivial⟩ rfl trivial (.ren rfl rfl .nil) rfl trivial rfl) rfl ?_
      refine WPL.qg rfl rfl (lb hb14343) (q_mv (v := .ro _ _ _) rfl) rfl ?_
      obtain ⟨x14348, h14346, H⟩ := bnd H
      refine WPL.cg rfl rfl (lb hb14343) (runs_call (s := []) (t := []) (N := 0) (bor := []) fn27 rfl (s_quireref06_Text k x13675 x14348 h14346) ⟨rfl, trivial, by decide, rfl, trivial⟩ rfl trivial (.ren rfl rfl .nil) rfl trivial rfl) rfl ?_
      refine WPL.qg rfl rfl (lb hb14343) (q_eqls rfl rfl) rfl ?_
      refine WPL.q (q_pickT (v := .lit (.bool _)) (lb hb14343) rfl) rfl ?_
      refine WPL.q (q_mv (v := .lit (.bool _)) rfl) rfl ?_
      refine WPL.split (t := 25) (b := (x14346.toList == x14348.toList)) rfl (fun hb14348 => ?_) (fun hb14348 => ?_)
      · replace H := cnt hb14348 H
        obtain ⟨x14351, h14349, H⟩ := bnd H
        refine WPL.cg rfl rfl (lb hb14348) (runs_call (s := []) (t := []) (N := 0) (bor := []) fn16 rfl (s_quirelaw06_alive k x14351 h14349) ⟨rfl, trivial, by decide, rfl, trivial⟩ rfl trivial .nil rfl trivial rfl) rfl ?_
        refine WPL.q (q_pickT (v := .lit (.bool _)) (lb hb14348) rfl) rfl ?_
        refine WPL.q (q_as (v := .lit (.bool _)) rfl) rfl ?_
        refine WPL.nilW ?_
        refine W.cv (Cv.weak (E' := (Env.none.upd 8 (.lit (.bool x14351)))) (M' := Mem.nil) [] hnp ⟨rfl, trivial, by decide, rfl, trivial⟩ (LeE.upd rfl rfl (LeE.none rfl rfl))) rfl ?_
        refine W.now ?_
        have q0 := (Option.some.inj H)
        subst q0
        exact ⟨rfl, rfl, rfl⟩
      · replace H := cnf hb14348 H
        refine WPL.skipg (b' := false) rfl rfl (lb hb14348) rfl rfl ?_
        refine WPL.q (q_pickF (v := .lit (.bool _)) (lb hb14348) rfl) rfl ?_
        refine WPL.q (q_as (v := .lit (.bool _)) rfl) rfl ?_
        refine WPL.nilW ?_
        refine W.cv (Cv.weak (E' := (Env.none.upd 8 (.lit (.bool false)))) (M' := Mem.nil) [] hnp ⟨rfl, trivial, by decide, rfl, trivial⟩ (LeE.upd rfl rfl (LeE.none rfl rfl))) rfl ?_
        refine W.now ?_
        have q0 := (Option.some.inj H)
        subst q0
        exact ⟨rfl, rfl, rfl⟩
    · replace H := cnf hb14343 H
      refine WPL.skipg (b' := false) rfl rfl (lb hb14343) rfl rfl ?_
      refine WPL.skipg (b' := false) rfl rfl (lb hb14343) rfl rfl ?_
      refine WPL.skipg (b' := false) rfl rfl (lb hb14343) rfl rfl ?_
      refine WPL.skipg (b' := false) rfl rfl (lb hb14343) rfl rfl ?_
      refine WPL.skipg (b' := false) rfl rfl (lb hb14343) rfl rfl ?_
      refine WPL.q (q_pickF (v := .lit (.bool _)) (lb hb14343) rfl) rfl ?_
      refine WPL.q (q_mv (v := .lit (.bool _)) rfl) rfl ?_
      refine WPL.skipg (b' := false) rfl rfl rfl rfl rfl ?_
      refine WPL.q (q_pickF (v := .lit (.bool _)) rfl rfl) rfl ?_
      refine WPL.q (q_as (v := .lit (.bool _)) rfl) rfl ?_
      refine WPL.nilW ?_
      refine W.cv (Cv.weak (E' := (Env.none.upd 8 (.lit (.bool false)))) (M' := Mem.nil) [] hnp ⟨rfl, trivial, by decide, rfl, trivial⟩ (LeE.upd rfl rfl (LeE.none rfl rfl))) rfl ?_
      refine W.now ?_
      have q0 := (Option.some.inj H)
      subst q0
      exact ⟨rfl, rfl, rfl⟩
  · rintro _ _ _ ⟨rfl, rfl, rfl⟩
    refine W.now ?_
    refine Then.n ?_
    refine WP.retW ?_
    refine W.now ?_
    have q0 := (Option.some.inj H)
    subst q0
    exact ⟨trivial, _, rfl, [], (.lit (.bool x14339)), Mem.nil, ⟨rfl, trivial, by decide, rfl, trivial⟩, rfl, rfl, rfl, rfl⟩
end Go.Proofs.YtnbjdgamindikaaDoor.W
