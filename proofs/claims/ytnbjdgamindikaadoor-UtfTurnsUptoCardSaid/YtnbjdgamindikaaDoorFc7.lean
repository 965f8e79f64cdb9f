/- Walks: Fc7 -/
import Derived.Test.YtnbjdgamindikaaDoorFb
import Derived.Test.YtnbjdgamindikaaDoorFc5
import Derived.Test.YtnbjdgamindikaaDoorFc6
namespace Go.Proofs.YtnbjdgamindikaaDoor.W
open Go Go.Q Go.Proofs
set_option linter.unusedVariables false
set_option linter.unusedSimpArgs false
set_option maxRecDepth 100000 in
set_option maxHeartbeats 4000000 in
theorem s_quireref06_turned (k : Nat) (x12782 : ByteArray) (x12783 : Int) (x12784 : Int) (x12910 : ByteArray) (H : g_quireref06_turned k x12782 x12783 x12784 = some x12910) : Go.Q.Spec Tryd.prog 37 0 [.lit (.string x12782), .lit (.int .u8 x12783), .lit (.int .u8 x12784)] Mem.nil (fun o M => o = .ret (.lit (.string x12910)) ∧ M = Mem.nil) := by
  unfold g_quireref06_turned at H
  refine Go.Q.Spec.of_bodyR (rs := [.tmp 6]) (nt := 37) Tryd.func37 rfl rfl (by intro t T h; simp at h) rfl rfl fun cx hnp => ?_
  refine WP.seq ?_
  refine WP.region ?_
  refine WPL.q (q_as (v := .lit (.string _)) rfl) rfl ?_
  refine WPL.nilW ?_
  refine W.now ?_
  refine Then.n ?_
  refine WP.seq ?_
  refine WP.region ?_
  refine WPL.q (q_as (v := .lit _) rfl) rfl ?_
  refine WPL.nilW ?_
  refine W.now ?_
  refine Then.n ?_
  refine WP.seq ?_
  refine WP.seq ?_
  refine WP.region ?_
  refine WPL.q (q_as (v := .lit (.int _ _)) rfl) rfl ?_
  refine WPL.nilW ?_
  refine W.now ?_
  refine Then.n ?_
  refine WP.block ?_
  refine WP.cv (Cv.vir 5 (Rd.int .u8) (N := 0) rfl 7 rfl) ?_
  refine WP.cv (Cv.weak (E' := (((((Env.none.upd 0 (.lit (.string x12782))).upd 1 (.lit (.int .u8 x12783))).upd 2 (.lit (.int .u8 x12784))).upd 7 (.whole 0)).upd 8 (.lit (.int .i64 0)))) (M' := (Mem.nil.push (.row 5 (Rd.int .u8) ([] : List Int)))) [0] hnp ⟨rfl, ⟨trivial, .inr ⟨rfl, rfl, rfl⟩⟩, by decide, rfl, trivial⟩ (LeE.upd rfl rfl (LeE.upd rfl rfl (LeE.upd rfl rfl (LeE.upd rfl rfl (LeE.upd rfl rfl (LeE.none rfl rfl))))))) ?_
  obtain ⟨x13033, H13073, H⟩ := bnd H
  refine WP.monoW (Q := fun x E M => x = .exit 0 ∧ E = (Env.none.upd 7 (.whole 0)) ∧ M = (Mem.nil.push (.row 5 (Rd.int .u8) x13033))) ?_ ?_
  · refine WP.loop (β := Int × (List Int)) (fun n b => g_quireref06_turned_l0 k x12782 x12783 x12784 n b.1 b.2 = some x13033) (fun b => (((((Env.none.upd 0 (.lit (.string x12782))).upd 1 (.lit (.int .u8 x12783))).upd 2 (.lit (.int .u8 x12784))).upd 7 (.whole 0)).upd 8 (.lit (.int .i64 b.1)))) (fun b => (Mem.nil.push (.row 5 (Rd.int .u8) b.2))) k (0, ([] : List Int)) H13073 rfl rfl ?_
    rintro n ⟨x12991, x12992⟩ H
    obtain _ | n := n
    · exact nf rfl H
    rw [g_quireref06_turned_l0.eq_2] at H
    show WP _ _ _ _ (((((Env.none.upd 0 (.lit (.string x12782))).upd 1 (.lit (.int .u8 x12783))).upd 2 (.lit (.int .u8 x12784))).upd 7 (.whole 0)).upd 8 (.lit (.int .i64 x12991))) (Mem.nil.push (.row 5 (Rd.int .u8) x12992)) _
    refine WP.seq ?_
    refine WP.seq ?_
    refine WP.region ?_
    refine WPL.q (q_mv (v := .lit (.int _ _)) rfl) rfl ?_
    refine WPL.q (q_mv (v := .lit (.string _)) rfl) rfl ?_
    refine WPL.q (q_len_str Tryd.underlying9 rfl) rfl ?_
    obtain ⟨x13036, h13036, H⟩ := bnd H
    refine WPL.q (q_nm (q_lss rfl rfl) (nm_bool h13036)) rfl ?_
    refine WPL.nilW ?_
    refine W.now ?_
    refine Then.n ?_
    refine WP.cond (t := x13036) rfl (fun hb13036 => ?_) (fun hb13036 => ?_)
    · replace H := cnt hb13036 H
      refine WP.skipW ?_
      refine W.now ?_
      refine Then.n ?_
      refine WP.seq ?_
      refine WP.block ?_
      refine WP.seq ?_
      refine WP.region ?_
      refine WPL.q (q_mv (v := .lit (.string _)) rfl) rfl ?_
      refine WPL.q (q_mv (v := .lit (.int _ _)) rfl) rfl ?_
      obtain ⟨x13056, h13056, H⟩ := bnd H
      refine WPL.q (q_index_str Tryd.underlying9 rfl rfl h13056) rfl ?_
      refine WPL.q (q_as (v := .lit (.int _ _)) rfl) rfl ?_
      refine WPL.nilW ?_
      refine W.now ?_
      refine Then.n ?_
      refine WP.seq ?_
      obtain ⟨x13064, H13071, H⟩ := bnd H
      refine WP.monoW (Q := fun x E M => x = .normal ∧ E = ((((((Env.none.upd 0 (.lit (.string x12782))).upd 1 (.lit (.int .u8 x12783))).upd 2 (.lit (.int .u8 x12784))).upd 7 (.whole 0)).upd 8 (.lit (.int .i64 x12991))).upd 9 (.lit (.int .u8 x13064))) ∧ M = (Mem.nil.push (.row 5 (Rd.int .u8) x12992))) ?_ ?_
      · clear H
        have H := H13071
        clear H13071
        refine WP.seq ?_
        obtain ⟨x13067, H13069, H⟩ := bnd H
        refine WP.monoW (Q := fun x E M => x = .normal ∧ E = (((((((Env.none.upd 0 (.lit (.string x12782))).upd 1 (.lit (.int .u8 x12783))).upd 2 (.lit (.int .u8 x12784))).upd 7 (.whole 0)).upd 8 (.lit (.int .i64 x12991))).upd 9 (.lit (.int .u8 x13056))).upd 27 (.lit (.bool x13067))) ∧ M = (Mem.nil.push (.row 5 (Rd.int .u8) x12992))) ?_ ?_
        · clear H
          have H := H13069
          clear H13069
          refine WP.region ?_
          refine WPL.q (q_mv (v := .lit (.int _ _)) rfl) rfl ?_
          refine WPL.q (q_mv (v := .lit (.int _ _)) rfl) rfl ?_
          refine WPL.q (q_geq rfl rfl) rfl ?_
          refine WPL.q (q_mv (v := .lit (.bool _)) rfl) rfl ?_
          refine WPL.split (t := 22) (b := (decide (x12783 ≤ x13056))) rfl (fun hb13067 => ?_) (fun hb13067 => ?_)
          · replace H := cnt hb13067 H
            refine WPL.qg rfl rfl (lb hb13067) (q_mv (v := .lit (.int _ _)) rfl) rfl ?_
            refine WPL.qg rfl rfl (lb hb13067) (q_mv (v := .lit (.int _ _)) rfl) rfl ?_
            refine WPL.qg rfl rfl (lb hb13067) (q_add rfl rfl) rfl ?_
            obtain ⟨x13069, h13069, H⟩ := bnd H
            refine WPL.qg rfl rfl (lb hb13067) (q_nm (q_lss rfl rfl) (nm_bool h13069)) rfl ?_
            refine WPL.q (q_pickT (v := .lit (.bool _)) (lb hb13067) rfl) rfl ?_
            refine WPL.nilW ?_
            refine W.cv (Cv.weak (E' := (((((((Env.none.upd 0 (.lit (.string x12782))).upd 1 (.lit (.int .u8 x12783))).upd 2 (.lit (.int .u8 x12784))).upd 7 (.whole 0)).upd 8 (.lit (.int .i64 x12991))).upd 9 (.lit (.int .u8 x13056))).upd 27 (.lit (.bool x13069)))) (M' := (Mem.nil.push (.row 5 (Rd.int .u8) x12992))) [0] hnp ⟨rfl, ⟨trivial, .inr ⟨rfl, rfl, rfl⟩⟩, by decide, rfl, trivial⟩ (LeE.upd rfl rfl (LeE.upd rfl rfl (LeE.upd rfl rfl (LeE.upd rfl rfl (LeE.upd rfl rfl (LeE.upd rfl rfl (LeE.upd rfl rfl (LeE.none rfl rfl))))))))) rfl ?_
            refine W.now ?_
            have q0 := (Option.some.inj H)
            subst q0
            exact ⟨rfl, rfl, rfl⟩
          · replace H := cnf hb13067 H
            refine WPL.skipg (b' := false) rfl rfl (lb hb13067) rfl rfl ?_
            refine WPL.skipg (b' := false) rfl rfl (lb hb13067) rfl rfl ?_
            refine WPL.skipg (b' := false) rfl rfl (lb hb13067) rfl rfl ?_
            refine WPL.skipg (b' := false) rfl rfl (lb hb13067) rfl rfl ?_
            refine WPL.q (q_pickF (v := .lit (.bool _)) (lb hb13067) rfl) rfl ?_
            refine WPL.nilW ?_
            refine W.cv (Cv.weak (E' := (((((((Env.none.upd 0 (.lit (.string x12782))).upd 1 (.lit (.int .u8 x12783))).upd 2 (.lit (.int .u8 x12784))).upd 7 (.whole 0)).upd 8 (.lit (.int .i64 x12991))).upd 9 (.lit (.int .u8 x13056))).upd 27 (.lit (.bool false)))) (M' := (Mem.nil.push (.row 5 (Rd.int .u8) x12992))) [0] hnp ⟨rfl, ⟨trivial, .inr ⟨rfl, rfl, rfl⟩⟩, by decide, rfl, trivial⟩ (LeE.upd rfl rfl (LeE.upd rfl rfl (LeE.upd rfl rfl (LeE.upd rfl rfl (LeE.upd rfl rfl (LeE.upd rfl rfl (LeE.upd rfl rfl (LeE.none rfl rfl))))))))) rfl ?_
            refine W.now ?_
            have q0 := (Option.some.inj H)
            subst q0
            exact ⟨rfl, rfl, rfl⟩
        · rintro _ _ _ ⟨rfl, rfl, rfl⟩
          refine W.now ?_
          refine Then.n ?_
          refine WP.cond (t := x13067) rfl (fun hb13070 => ?_) (fun hb13070 => ?_)
          · replace H := cnt hb13070 H
            refine WP.region ?_
            refine WPL.q (q_mv (v := .lit (.int _ _)) rfl) rfl ?_
            refine WPL.q (q_mv (v := .lit (.int _ _)) rfl) rfl ?_
            refine WPL.q (q_add rfl rfl) rfl ?_
            refine WPL.q (q_as (v := .lit (.int _ _)) rfl) rfl ?_
            refine WPL.nilW ?_
            refine W.cv (Cv.weak (E' := ((((((Env.none.upd 0 (.lit (.string x12782))).upd 1 (.lit (.int .u8 x12783))).upd 2 (.lit (.int .u8 x12784))).upd 7 (.whole 0)).upd 8 (.lit (.int .i64 x12991))).upd 9 (.lit (.int .u8 (IntKind.wrap .u8 (x13056 + x12784)))))) (M' := (Mem.nil.push (.row 5 (Rd.int .u8) x12992))) [0] hnp ⟨rfl, ⟨trivial, .inr ⟨rfl, rfl, rfl⟩⟩, by decide, rfl, trivial⟩ (LeE.upd rfl rfl (LeE.upd rfl rfl (LeE.upd rfl rfl (LeE.upd rfl rfl (LeE.upd rfl rfl (LeE.upd rfl rfl (LeE.none rfl rfl)))))))) rfl ?_
            refine W.now ?_
            have q0 := (Option.some.inj H)
            subst q0
            exact ⟨rfl, rfl, rfl⟩
          · replace H := cnf hb13070 H
            refine WP.skipW ?_
            refine W.cv (Cv.weak (E' := ((((((Env.none.upd 0 (.lit (.string x12782))).upd 1 (.lit (.int .u8 x12783))).upd 2 (.lit (.int .u8 x12784))).upd 7 (.whole 0)).upd 8 (.lit (.int .i64 x12991))).upd 9 (.lit (.int .u8 x13056)))) (M' := (Mem.nil.push (.row 5 (Rd.int .u8) x12992))) [0] hnp ⟨rfl, ⟨trivial, .inr ⟨rfl, rfl, rfl⟩⟩, by decide, rfl, trivial⟩ (LeE.upd rfl rfl (LeE.upd rfl rfl (LeE.upd rfl rfl (LeE.upd rfl rfl (LeE.upd rfl rfl (LeE.upd rfl rfl (LeE.none rfl rfl)))))))) rfl ?_
            refine W.now ?_
            have q0 := (Option.some.inj H)
            subst q0
            exact ⟨rfl, rfl, rfl⟩
      · rintro _ _ _ ⟨rfl, rfl, rfl⟩
        refine W.now ?_
        refine Then.n ?_
        refine WP.region ?_
        refine WPL.q (q_mv (v := .whole _) rfl) rfl ?_
        refine WPL.q (q_mv (v := .lit (.int _ _)) rfl) rfl ?_
        refine WPL.d (d_buildSlice (ds := ([x13064] : List Int)) (R := (Rd.int .u8)) li47 rfl rfl rfl rfl rfl (JoinRows.cons1 Joins.sc rfl JoinRows.nil) rfl rfl) rfl ?_
        obtain ⟨h13072, H⟩ := grd H
        refine WPL.d (d_append ap47 rfl rfl rfl rfl (src_row sl47 rfl rfl) h13072 rfl) rfl ?_
        refine WPL.q (q_as (v := .whole _) rfl) rfl ?_
        refine WPL.nilW ?_
        refine W.now ?_
        refine InBlock.n ?_
        refine Then.n ?_
        refine WP.region ?_
        refine WPL.q (q_mv (v := .lit (.int _ _)) rfl) rfl ?_
        refine WPL.q (q_add rfl rfl) rfl ?_
        refine WPL.q (q_as (v := .lit (.int _ _)) rfl) rfl ?_
        refine WPL.nilW ?_
        refine W.cv (Cv.weak (E' := (((((Env.none.upd 0 (.lit (.string x12782))).upd 1 (.lit (.int .u8 x12783))).upd 2 (.lit (.int .u8 x12784))).upd 7 (.whole 0)).upd 8 (.lit (.int .i64 (IntKind.wrap .i64 (x12991 + 1)))))) (M' := (Mem.nil.push (.row 5 (Rd.int .u8) (x12992 ++ ([x13064] : List Int))))) [2] hnp ⟨rfl, ⟨trivial, .inr ⟨rfl, rfl, rfl⟩⟩, by decide, rfl, trivial⟩ (LeE.upd rfl rfl (LeE.upd rfl rfl (LeE.upd rfl rfl (LeE.upd rfl rfl (LeE.upd rfl rfl (LeE.none rfl rfl))))))) rfl ?_
        refine W.now ?_
        exact Then.n ⟨n, ((IntKind.wrap .i64 (x12991 + 1)), (x12992 ++ ([x13064] : List Int))), Nat.lt_succ_self n, H, rfl, rfl⟩
    · replace H := cnf hb13036 H
      refine WP.exitW ?_
      refine W.cv (Cv.weak (E' := (Env.none.upd 7 (.whole 0))) (M' := (Mem.nil.push (.row 5 (Rd.int .u8) x12992))) [0] hnp ⟨rfl, ⟨trivial, .inr ⟨rfl, rfl, rfl⟩⟩, by decide, rfl, trivial⟩ (LeE.upd rfl rfl (LeE.none rfl rfl))) rfl ?_
      refine W.now ?_
      refine Then.x ?_
      refine Then.x ?_
      have q0 := (Option.some.inj H)
      subst q0
      exact ⟨rfl, rfl, rfl⟩
  · rintro _ _ _ ⟨rfl, rfl, rfl⟩
    refine W.now ?_
    refine InBlock.x0 ?_
    refine Then.n ?_
    refine WP.seq ?_
    refine WP.region ?_
    refine WPL.q (q_mv (v := .whole _) rfl) rfl ?_
    refine WPL.q (q_bytes_str_row Tryd.underlying47 Tryd.underlying5 Tryd.underlying9 rfl rfl) rfl ?_
    refine WPL.q (q_as (v := .lit (.string _)) rfl) rfl ?_
    refine WPL.nilW ?_
    refine W.now ?_
    refine Then.n ?_
    refine WP.retW ?_
    refine W.now ?_
    have q0 := (Option.some.inj H)
    subst q0
    exact ⟨trivial, _, rfl, [], (.lit (.string (strOf x13033))), Mem.nil, ⟨rfl, trivial, by decide, rfl, trivial⟩, rfl, rfl, rfl, rfl⟩
set_option maxRecDepth 100000 in
set_option maxHeartbeats 4000000 in
theorem s_quireref06_Upper (k : Nat) (x12780 : ByteArray) (x13077 : ByteArray) (H : g_quireref06_Upper k x12780 = some x13077) : Go.Q.Spec Tryd.prog 20 0 [.lit (.string x12780)] Mem.nil (fun o M => o = .ret (.lit (.string x13077)) ∧ M = Mem.nil) := by
  unfold g_quireref06_Upper at H
  refine Go.Q.Spec.of_bodyR (rs := [.tmp 2]) (nt := 5) Tryd.func20 rfl rfl (by intro t T h; simp at h) rfl rfl fun cx hnp => ?_
  refine WP.seq ?_
  refine WP.region ?_
  refine WPL.q (q_as (v := .lit (.string _)) rfl) rfl ?_
  refine WPL.nilW ?_
  refine W.now ?_
  refine Then.n ?_
  refine WP.seq ?_
  refine WP.region ?_
  refine WPL.q (q_mv (v := .lit (.string _)) rfl) rfl ?_
  obtain ⟨x13079, h13077, H⟩ := bnd H
  refine WPL.c (runs_call (s := []) (t := []) (N := 0) (bor := []) fn37 rfl (s_quireref06_turned k x12780 97 224 x13079 h13077) ⟨rfl, trivial, by decide, rfl, trivial⟩ rfl trivial (.ren rfl rfl (.ren rfl rfl (.ren rfl rfl .nil))) rfl trivial rfl) rfl ?_
  refine WPL.q (q_as (v := .lit (.string _)) rfl) rfl ?_
  refine WPL.nilW ?_
  refine W.now ?_
  refine Then.n ?_
  refine WP.retW ?_
  refine W.now ?_
  have q0 := (Option.some.inj H)
  subst q0
  exact ⟨trivial, _, rfl, [], (.lit (.string x13079)), Mem.nil, ⟨rfl, trivial, by decide, rfl, trivial⟩, rfl, rfl, rfl, rfl⟩
set_option maxRecDepth 100000 in
set_option maxHeartbeats 4000000 in
theorem s_quireref06_Lower (k : Nat) (x13085 : ByteArray) (x13089 : ByteArray) (H : g_quireref06_Lower k x13085 = some x13089) : Go.Q.Spec Tryd.prog 21 0 [.lit (.string x13085)] Mem.nil (fun o M => o = .ret (.lit (.string x13089)) ∧ M = Mem.nil) := by
  unfold g_quireref06_Lower at H
  refine Go.Q.Spec.of_bodyR (rs := [.tmp 2]) (nt := 5) Tryd.func21 rfl rfl (by intro t T h; simp at h) rfl rfl fun cx hnp => ?_
  refine WP.seq ?_
  refine WP.region ?_
  refine WPL.q (q_as (v := .lit (.string _)) rfl) rfl ?_
  refine WPL.nilW ?_
  refine W.now ?_
  refine Then.n ?_
  refine WP.seq ?_
  refine WP.region ?_
  refine WPL.q (q_mv (v := .lit (.string _)) rfl) rfl ?_
  obtain ⟨x13091, h13089, H⟩ := bnd H
  refine WPL.c (runs_call (s := []) (t := []) (N := 0) (bor := []) fn37 rfl (s_quireref06_turned k x13085 65 32 x13091 h13089) ⟨rfl, trivial, by decide, rfl, trivial⟩ rfl trivial (.ren rfl rfl (.ren rfl rfl (.ren rfl rfl .nil))) rfl trivial rfl) rfl ?_
  refine WPL.q (q_as (v := .lit (.string _)) rfl) rfl ?_
  refine WPL.nilW ?_
  refine W.now ?_
  refine Then.n ?_
  refine WP.retW ?_
  refine W.now ?_
  have q0 := (Option.some.inj H)
  subst q0
  exact ⟨trivial, _, rfl, [], (.lit (.string x13091)), Mem.nil, ⟨rfl, trivial, by decide, rfl, trivial⟩, rfl, rfl, rfl, rfl⟩
set_option maxRecDepth 100000 in
set_option maxHeartbeats 4000000 in
theorem s_quireref06_Trim (k : Nat) (x13097 : ByteArray) (x13310 : ByteArray) (H : g_quireref06_Trim k x13097 = some x13310) : Go.Q.Spec Tryd.prog 22 0 [.lit (.string x13097)] Mem.nil (fun o M => o = .ret (.lit (.string x13310)) ∧ M = Mem.nil) := by
  unfold g_quireref06_Trim at H
  refine Go.Q.Spec.of_bodyR (rs := [.tmp 2]) (nt := 54) Tryd.func22 rfl rfl (by intro t T h; simp at h) rfl rfl fun cx hnp => ?_
  refine WP.seq ?_
  refine WP.region ?_
  refine WPL.q (q_as (v := .lit (.string _)) rfl) rfl ?_
  refine WPL.nilW ?_
  refine W.now ?_
  refine Then.n ?_
  refine WP.seq ?_
  refine WP.region ?_
  refine WPL.q (q_as (v := .lit _) rfl) rfl ?_
  refine WPL.nilW ?_
  refine W.now ?_
  refine Then.n ?_
  refine WP.seq ?_
  refine WP.seq ?_
  refine WP.region ?_
  refine WPL.q (q_as (v := .lit (.int _ _)) rfl) rfl ?_
  refine WPL.nilW ?_
  refine W.now ?_
  refine Then.n ?_
  refine WP.block ?_
  refine WP.cv (Cv.vir 5 (Rd.int .u8) (N := 0) rfl 3 rfl) ?_
  refine WP.cv (Cv.weak (E' := (((Env.none.upd 0 (.lit (.string x13097))).upd 3 (.whole 0)).upd 4 (.lit (.int .i64 0)))) (M' := (Mem.nil.push (.row 5 (Rd.int .u8) ([] : List Int)))) [0] hnp ⟨rfl, ⟨trivial, .inr ⟨rfl, rfl, rfl⟩⟩, by decide, rfl, trivial⟩ (LeE.upd rfl rfl (LeE.upd rfl rfl (LeE.upd rfl rfl (LeE.none rfl rfl))))) ?_
  obtain ⟨x13491, H13561, H⟩ := bnd H
  refine WP.monoW (Q := fun x E M => x = .exit 0 ∧ E = (Env.none.upd 3 (.whole 0)) ∧ M = (Mem.nil.push (.row 5 (Rd.int .u8) x13491))) ?_ ?_
  · refine WP.loop (β := Int × (List Int)) (fun n b => g_quireref06_Trim_l0 k x13097 n b.1 b.2 = some x13491) (fun b => (((Env.none.upd 0 (.lit (.string x13097))).upd 3 (.whole 0)).upd 4 (.lit (.int .i64 b.1)))) (fun b => (Mem.nil.push (.row 5 (Rd.int .u8) b.2))) k (0, ([] : List Int)) H13561 rfl rfl ?_
    rintro n ⟨x13419, x13420⟩ H
    obtain _ | n := n
    · exact nf rfl H
    rw [g_quireref06_Trim_l0.eq_2] at H
    show WP _ _ _ _ (((Env.none.upd 0 (.lit (.string x13097))).upd 3 (.whole 0)).upd 4 (.lit (.int .i64 x13419))) (Mem.nil.push (.row 5 (Rd.int .u8) x13420)) _
    refine WP.seq ?_
    refine WP.seq ?_
    refine WP.region ?_
    refine WPL.q (q_mv (v := .lit (.int _ _)) rfl) rfl ?_
    refine WPL.q (q_mv (v := .lit (.string _)) rfl) rfl ?_
    refine WPL.q (q_len_str Tryd.underlying9 rfl) rfl ?_
    obtain ⟨x13494, h13494, H⟩ := bnd H
    refine WPL.q (q_nm (q_lss rfl rfl) (nm_bool h13494)) rfl ?_
    refine WPL.nilW ?_
    refine W.now ?_
    refine Then.n ?_
    refine WP.cond (t := x13494) rfl (fun hb13494 => ?_) (fun hb13494 => ?_)
    · replace H := cnt hb13494 H
      refine WP.skipW ?_
      refine W.now ?_
      refine Then.n ?_
      refine WP.seq ?_
      obtain ⟨x13528, H13560, H⟩ := bnd H
      refine WP.monoW (Q := fun x E M => x = .normal ∧ E = (((Env.none.upd 0 (.lit (.string x13097))).upd 3 (.whole 0)).upd 4 (.lit (.int .i64 x13419))) ∧ M = (Mem.nil.push (.row 5 (Rd.int .u8) x13528))) ?_ ?_
      · clear H
        have H := H13560
        clear H13560
        refine WP.block ?_
        refine WP.seq ?_
        refine WP.seq ?_
        obtain ⟨x13550, H13556, H⟩ := bnd H
        refine WP.monoW (Q := fun x E M => x = .normal ∧ E = ((((Env.none.upd 0 (.lit (.string x13097))).upd 3 (.whole 0)).upd 4 (.lit (.int .i64 x13419))).upd 28 (.lit (.bool x13550))) ∧ M = (Mem.nil.push (.row 5 (Rd.int .u8) x13420))) ?_ ?_
        · clear H
          have H := H13556
          clear H13556
          refine WP.region ?_
          refine WPL.q (q_mv (v := .lit (.string _)) rfl) rfl ?_
          refine WPL.q (q_mv (v := .lit (.int _ _)) rfl) rfl ?_
          obtain ⟨x13551, h13551, H⟩ := bnd H
          refine WPL.q (q_index_str Tryd.underlying9 rfl rfl h13551) rfl ?_
          refine WPL.q (q_eql rfl rfl) rfl ?_
          refine WPL.q (q_mv (v := .lit (.bool _)) rfl) rfl ?_
          refine WPL.split (t := 15) (b := (decide (x13551 = 32))) rfl (fun hb13551 => ?_) (fun hb13551 => ?_)
          · replace H := cnt hb13551 H
            refine WPL.qg rfl rfl (lb hb13551) (q_mv (v := .whole _) rfl) rfl ?_
            refine WPL.qg rfl rfl (lb hb13551) (q_len_row sl47 rfl rfl) rfl ?_
            obtain ⟨x13553, h13553, H⟩ := bnd H
            refine WPL.qg rfl rfl (lb hb13551) (q_nm (q_eql rfl rfl) (nm_bool h13553)) rfl ?_
            refine WPL.qg rfl rfl (lb hb13551) (q_mv (v := .lit (.bool _)) rfl) rfl ?_
            refine WPL.split (t := 19) (b := x13553) rfl (fun hb13553 => ?_) (fun hb13553 => ?_)
            · replace H := cnt hb13553 H
              refine WPL.skipg (b' := true) rfl rfl (lb hb13553) rfl rfl ?_
              refine WPL.skipg (b' := true) rfl rfl (lb hb13553) rfl rfl ?_
              refine WPL.skipg (b' := true) rfl rfl (lb hb13553) rfl rfl ?_
              refine WPL.skipg (b' := true) rfl rfl (lb hb13553) rfl rfl ?_
              refine WPL.skipg (b' := true) rfl rfl (lb hb13553) rfl rfl ?_
              refine WPL.skipg (b' := true) rfl rfl (lb hb13553) rfl rfl ?_
              refine WPL.skipg (b' := true) rfl rfl (lb hb13553) rfl rfl ?_
              refine WPL.qg rfl rfl (lb hb13551) (q_pickT (v := .lit (.bool _)) (lb hb13553) rfl) rfl ?_
              refine WPL.q (q_pickT (v := .lit (.bool _)) (lb hb13551) rfl) rfl ?_
              refine WPL.nilW ?_
              refine W.cv (Cv.weak (E' := ((((Env.none.upd 0 (.lit (.string x13097))).upd 3 (.whole 0)).upd 4 (.lit (.int .i64 x13419))).upd 28 (.lit (.bool true)))) (M' := (Mem.nil.push (.row 5 (Rd.int .u8) x13420))) [0] hnp ⟨rfl, ⟨trivial, .inr ⟨rfl, rfl, rfl⟩⟩, by decide, rfl, trivial⟩ (LeE.upd rfl rfl (LeE.upd rfl rfl (LeE.upd rfl rfl (LeE.upd rfl rfl (LeE.none rfl rfl)))))) rfl ?_
              refine W.now ?_
              have q0 := (Option.some.inj H)
              subst q0
              exact ⟨rfl, rfl, rfl⟩
            · replace H := cnf hb13553 H
              refine WPL.qg rfl rfl (lb hb13553) (q_mv (v := .whole _) rfl) rfl ?_
              refine WPL.qg rfl rfl (lb hb13553) (q_mv (v := .whole _) rfl) rfl ?_
              refine WPL.qg rfl rfl (lb hb13553) (q_len_row sl47 rfl rfl) rfl ?_
              obtain ⟨x13555, h13555, H⟩ := bnd H
              refine WPL.qg rfl rfl (lb hb13553) (q_nm (q_sub rfl rfl) (nm_int h13555)) rfl ?_
              obtain ⟨x13556, h13556, H⟩ := bnd H
              refine WPL.qg rfl rfl (lb hb13553) (q_index_row sl47 rfl rfl rfl (ixs h13556)) rfl ?_
              refine WPL.qg rfl rfl (lb hb13553) (q_load_row (j := (Int.toNat x13555)) sc5 rfl rfl (ixj h13556)) rfl ?_
              refine WPL.qg rfl rfl (lb hb13553) (q_eql rfl rfl) rfl ?_
              refine WPL.qg rfl rfl (lb hb13551) (q_pickF (v := .lit (.bool _)) (lb hb13553) rfl) rfl ?_
              refine WPL.q (q_pickT (v := .lit (.bool _)) (lb hb13551) rfl) rfl ?_
              refine WPL.nilW ?_
              refine W.cv (Cv.weak (E' := ((((Env.none.upd 0 (.lit (.string x13097))).upd 3 (.whole 0)).upd 4 (.lit (.int .i64 x13419))).upd 28 (.lit (.bool (decide (x13556 = 32)))))) (M' := (Mem.nil.push (.row 5 (Rd.int .u8) x13420))) [0] hnp ⟨rfl, ⟨trivial, .inr ⟨rfl, rfl, rfl⟩⟩, by decide, rfl, trivial⟩ (LeE.upd rfl rfl (LeE.upd rfl rfl (LeE.upd rfl rfl (LeE.upd rfl rfl (LeE.none rfl rfl)))))) rfl ?_
              refine W.now ?_
              have q0 := (Option.some.inj H)
              subst q0
              exact ⟨rfl, rfl, rfl⟩
          · replace H := cnf hb13551 H
            refine WPL.skipg (b' := false) rfl rfl (lb hb13551) rfl rfl ?_
            refine WPL.skipg (b' := false) rfl rfl (lb hb13551) rfl rfl ?_
            refine WPL.skipg (b' := false) rfl rfl (lb hb13551) rfl rfl ?_
            refine WPL.skipg (b' := false) rfl rfl (lb hb13551) rfl rfl ?_
            refine WPL.skipu rfl rfl rfl rfl ?_
            refine WPL.skipu rfl rfl rfl rfl ?_
            refine WPL.skipu rfl rfl rfl rfl ?_
            refine WPL.skipu rfl rfl rfl rfl ?_
            refine WPL.skipu rfl rfl rfl rfl ?_
            refine WPL.skipu rfl rfl rfl rfl ?_
            refine WPL.skipu rfl rfl rfl rfl ?_
            refine WPL.skipg (b' := false) rfl rfl (lb hb13551) rfl rfl ?_
            refine WPL.q (q_pickF (v := .lit (.bool _)) (lb hb13551) rfl) rfl ?_
            refine WPL.nilW ?_
            refine W.cv (Cv.weak (E' := ((((Env.none.upd 0 (.lit (.string x13097))).upd 3 (.whole 0)).upd 4 (.lit (.int .i64 x13419))).upd 28 (.lit (.bool false)))) (M' := (Mem.nil.push (.row 5 (Rd.int .u8) x13420))) [0] hnp ⟨rfl, ⟨trivial, .inr ⟨rfl, rfl, rfl⟩⟩, by decide, rfl, trivial⟩ (LeE.upd rfl rfl (LeE.upd rfl rfl (LeE.upd rfl rfl (LeE.upd rfl rfl (LeE.none rfl rfl)))))) rfl ?_
            refine W.now ?_
            have q0 := (Option.some.inj H)
            subst q0
            exact ⟨rfl, rfl, rfl⟩
        · rintro _ _ _ ⟨rfl, rfl, rfl⟩
          refine W.now ?_
          refine Then.n ?_
          refine WP.cond (t := x13550) rfl (fun hb13557 => ?_) (fun hb13557 => ?_)
          · replace H := cnt hb13557 H
            refine WP.exitW ?_
            refine W.cv (Cv.weak (E' := (((Env.none.upd 0 (.lit (.string x13097))).upd 3 (.whole 0)).upd 4 (.lit (.int .i64 x13419)))) (M' := (Mem.nil.push (.row 5 (Rd.int .u8) x13420))) [0] hnp ⟨rfl, ⟨trivial, .inr ⟨rfl, rfl, rfl⟩⟩, by decide, rfl, trivial⟩ (LeE.upd rfl rfl (LeE.upd rfl rfl (LeE.upd rfl rfl (LeE.none rfl rfl))))) rfl ?_
            refine W.now ?_
            refine Then.x ?_
            refine InBlock.x0 ?_
            have q0 := (Option.some.inj H)
            subst q0
            exact ⟨rfl, rfl, rfl⟩
          · replace H := cnf hb13557 H
            refine WP.skipW ?_
            refine W.now ?_
            refine Then.n ?_
            refine WP.region ?_
            refine WPL.q (q_mv (v := .whole _) rfl) rfl ?_
            refine WPL.q (q_mv (v := .lit (.string _)) rfl) rfl ?_
            refine WPL.q (q_mv (v := .lit (.int _ _)) rfl) rfl ?_
            obtain ⟨x13559, h13559, H⟩ := bnd H
            refine WPL.q (q_index_str Tryd.underlying9 rfl rfl h13559) rfl ?_
            refine WPL.d (d_buildSlice (ds := ([x13559] : List Int)) (R := (Rd.int .u8)) li47 rfl rfl rfl rfl rfl (JoinRows.cons1 Joins.sc rfl JoinRows.nil) rfl rfl) rfl ?_
            obtain ⟨h13559, H⟩ := grd H
            refine WPL.d (d_append ap47 rfl rfl rfl rfl (src_row sl47 rfl rfl) h13559 rfl) rfl ?_
            refine WPL.q (q_as (v := .whole _) rfl) rfl ?_
            refine WPL.nilW ?_
            refine W.cv (Cv.weak (E' := (((Env.none.upd 0 (.lit (.string x13097))).upd 3 (.whole 0)).upd 4 (.lit (.int .i64 x13419)))) (M' := (Mem.nil.push (.row 5 (Rd.int .u8) (x13420 ++ ([x13559] : List Int))))) [2] hnp ⟨rfl, ⟨trivial, .inr ⟨rfl, rfl, rfl⟩⟩, by decide, rfl, trivial⟩ (LeE.upd rfl rfl (LeE.upd rfl rfl (LeE.upd rfl rfl (LeE.none rfl rfl))))) rfl ?_
            refine W.now ?_
            refine InBlock.n ?_
            have q0 := (Option.some.inj H)
            subst q0
            exact ⟨rfl, rfl, rfl⟩
      · rintro _ _ _ ⟨rfl, rfl, rfl⟩
        refine W.now ?_
        refine Then.n ?_
        refine WP.region ?_
        refine WPL.q (q_mv (v := .lit (.int _ _)) rfl) rfl ?_
        refine WPL.q (q_add rfl rfl) rfl ?_
        refine WPL.q (q_as (v := .lit (.int _ _)) rfl) rfl ?_
        refine WPL.nilW ?_
        refine W.cv (Cv.weak (E' := (((Env.none.upd 0 (.lit (.string x13097))).upd 3 (.whole 0)).upd 4 (.lit (.int .i64 (IntKind.wrap .i64 (x13419 + 1)))))) (M' := (Mem.nil.push (.row 5 (Rd.int .u8) x13528))) [0] hnp ⟨rfl, ⟨trivial, .inr ⟨rfl, rfl, rfl⟩⟩, by decide, rfl, trivial⟩ (LeE.upd rfl rfl (LeE.upd rfl rfl (LeE.upd rfl rfl (LeE.none rfl rfl))))) rfl ?_
        refine W.now ?_
        exact Then.n ⟨n, ((IntKind.wrap .i64 (x13419 + 1)), x13528), Nat.lt_succ_self n, H, rfl, rfl⟩
    · replace H := cnf hb13494 H
      refine WP.exitW ?_
      refine W.cv (Cv.weak (E' := (Env.none.upd 3 (.whole 0))) (M' := (Mem.nil.push (.row 5 (Rd.int .u8) x13420))) [0] hnp ⟨rfl, ⟨trivial, .inr ⟨rfl, rfl, rfl⟩⟩, by decide, rfl, trivial⟩ (LeE.upd rfl rfl (LeE.none rfl rfl))) rfl ?_
      refine W.now ?_
      refine Then.x ?_
      refine Then.x ?_
      have q0 := (Option.some.inj H)
      subst q0
      exact ⟨rfl, rfl, rfl⟩
  · rintro _ _ _ ⟨rfl, rfl, rfl⟩
    refine W.now ?_
    refine InBlock.x0 ?_
    refine Then.n ?_
    refine WP.seq ?_
    obtain ⟨y13591, H13589, H⟩ := bnd H
    refine WP.monoW (Q := fun x E M => match (generalizing := false) y13591 with | (Sum.inl x13576) => x = .normal ∧ E = (Env.none.upd 3 (.ro (Rd.slice (Rd.int .u8)) false x13576)) ∧ M = Mem.nil | (Sum.inr _) => x = .normal ∧ E = (Env.none.upd 3 (.whole 0)) ∧ M = (Mem.nil.push (.row 5 (Rd.int .u8) x13491))) ?_ ?_
    · clear H
      have H := H13589
      clear H13589
      refine WP.seq ?_
      obtain ⟨x13581, H13585, H⟩ := bnd H
      refine WP.monoW (Q := fun x E M => x = .normal ∧ E = ((Env.none.upd 3 (.whole 0)).upd 46 (.lit (.bool x13581))) ∧ M = (Mem.nil.push (.row 5 (Rd.int .u8) x13491))) ?_ ?_
      · clear H
        have H := H13585
        clear H13585
        refine WP.region ?_
        refine WPL.q (q_mv (v := .whole _) rfl) rfl ?_
        refine WPL.q (q_len_row sl47 rfl rfl) rfl ?_
        obtain ⟨x13582, h13582, H⟩ := bnd H
        refine WPL.q (q_nm (q_gtr rfl rfl) (nm_bool h13582)) rfl ?_
        refine WPL.q (q_mv (v := .lit (.bool _)) rfl) rfl ?_
        refine WPL.split (t := 38) (b := x13582) rfl (fun hb13582 => ?_) (fun hb13582 => ?_)
        · replace H := cnt hb13582 H
          refine WPL.qg rfl rfl (lb hb13582) (q_mv (v := .whole _) rfl) rfl ?_
          refine WPL.qg rfl rfl (lb hb13582) (q_mv (v := .whole _) rfl) rfl ?_
          refine WPL.qg rfl rfl (lb hb13582) (q_len_row sl47 rfl rfl) rfl ?_
          obtain ⟨x13584, h13584, H⟩ := bnd H
          refine WPL.qg rfl rfl (lb hb13582) (q_nm (q_sub rfl rfl) (nm_int h13584)) rfl ?_
          obtain ⟨x13585, h13585, H⟩ := bnd H
          refine WPL.qg rfl rfl (lb hb13582) (q_index_row sl47 rfl rfl rfl (ixs h13585)) rfl ?_
          refine WPL.qg rfl rfl (lb hb13582) (q_load_row (j := (Int.toNat x13584)) sc5 rfl rfl (ixj h13585)) rfl ?_
          refine WPL.qg rfl rfl (lb hb13582) (q_eql rfl rfl) rfl ?_
          refine WPL.q (q_pickT (v := .lit (.bool _)) (lb hb13582) rfl) rfl ?_
          refine WPL.nilW ?_
          refine W.cv (Cv.weak (E' := ((Env.none.upd 3 (.whole 0)).upd 46 (.lit (.bool (decide (x13585 = 32)))))) (M' := (Mem.nil.push (.row 5 (Rd.int .u8) x13491))) [0] hnp ⟨rfl, ⟨trivial, .inr ⟨rfl, rfl, rfl⟩⟩, by decide, rfl, trivial⟩ (LeE.upd rfl rfl (LeE.upd rfl rfl (LeE.none rfl rfl)))) rfl ?_
          refine W.now ?_
          have q0 := (Option.some.inj H)
          subst q0
          exact ⟨rfl, rfl, rfl⟩
        · replace H := cnf hb13582 H
          refine WPL.skipg (b' := false) rfl rfl (lb hb13582) rfl rfl ?_
          refine WPL.skipg (b' := false) rfl rfl (lb hb13582) rfl rfl ?_
          refine WPL.skipg (b' := false) rfl rfl (lb hb13582) rfl rfl ?_
          refine WPL.skipg (b' := false) rfl rfl (lb hb13582) rfl rfl ?_
          refine WPL.skipg (b' := false) rfl rfl (lb hb13582) rfl rfl ?_
          refine WPL.skipg (b' := false) rfl rfl (lb hb13582) rfl rfl ?_
          refine WPL.skipg (b' := false) rfl rfl (lb hb13582) rfl rfl ?_
          refine WPL.q (q_pickF (v := .lit (.bool _)) (lb hb13582) rfl) rfl ?_
          refine WPL.nilW ?_
          refine W.cv (Cv.weak (E' := ((Env.none.upd 3 (.whole 0)).upd 46 (.lit (.bool false)))) (M' := (Mem.nil.push (.row 5 (Rd.int .u8) x13491))) [0] hnp ⟨rfl, ⟨trivial, .inr ⟨rfl, rfl, rfl⟩⟩, by decide, rfl, trivial⟩ (LeE.upd rfl rfl (LeE.upd rfl rfl (LeE.none rfl rfl)))) rfl ?_
          refine W.now ?_
          have q0 := (Option.some.inj H)
          subst q0
          exact ⟨rfl, rfl, rfl⟩
      · rintro _ _ _ ⟨rfl, rfl, rfl⟩
        refine W.now ?_
        refine Then.n ?_
        refine WP.cond (t := x13581) rfl (fun hb13586 => ?_) (fun hb13586 => ?_)
        · replace H := cnt hb13586 H
          refine WP.region ?_
          refine WPL.q (q_mv (v := .whole _) rfl) rfl ?_
          refine WPL.q (q_mv (v := .whole _) rfl) rfl ?_
          refine WPL.q (q_len_row sl47 rfl rfl) rfl ?_
          obtain ⟨x13588, h13588, H⟩ := bnd H
          refine WPL.q (q_nm (q_sub rfl rfl) (nm_int h13588)) rfl ?_
          obtain ⟨h13588, H⟩ := grd H
          refine WPL.cv (Cv.frzRow (i := 0) rfl rfl hnp rfl rfl) ?_
          refine WPL.q (q_slice_ro (i := 0) (j := x13588) sl47 rfl rfl rfl ⟨_, rfl⟩ h13588) rfl ?_
          refine WPL.q (q_as (v := .ro _ _ _) rfl) rfl ?_
          refine WPL.nilW ?_
          refine W.cv (Cv.weak (E' := (Env.none.upd 3 (.ro (Rd.slice (Rd.int .u8)) false (List.drop (Int.toNat 0) (List.take (Int.toNat x13588) x13491))))) (M' := Mem.nil) [] hnp ⟨rfl, trivial, by decide, rfl, trivial⟩ (LeE.upd rfl rfl (LeE.none rfl rfl))) rfl ?_
          refine W.now ?_
          have q0 := Option.some.inj H
          subst q0
          exact ⟨rfl, rfl, rfl⟩
        · replace H := cnf hb13586 H
          refine WP.skipW ?_
          refine W.cv (Cv.weak (E' := (Env.none.upd 3 (.whole 0))) (M' := (Mem.nil.push (.row 5 (Rd.int .u8) x13491))) [0] hnp ⟨rfl, ⟨trivial, .inr ⟨rfl, rfl, rfl⟩⟩, by decide, rfl, trivial⟩ (LeE.upd rfl rfl (LeE.none rfl rfl))) rfl ?_
          refine W.now ?_
          have q0 := Option.some.inj H
          subst q0
          exact ⟨rfl, rfl, rfl⟩
    · rcases y13591 with x13576 | _
      · rintro _ _ _ ⟨rfl, rfl, rfl⟩
        refine W.now ?_
        refine Then.n ?_
        refine WP.seq ?_
        refine WP.region ?_
        refine WPL.q (q_mv (v := .ro _ _ _) rfl) rfl ?_
        refine WPL.q (q_bytes_str Tryd.underlying47 Tryd.underlying5 Tryd.underlying9 rfl) rfl ?_
        refine WPL.q (q_as (v := .lit (.string _)) rfl) rfl ?_
        refine WPL.nilW ?_
        refine W.now ?_
        refine Then.n ?_
        refine WP.retW ?_
        refine W.now ?_
        have q0 := (Option.some.inj H)
        subst q0
        exact ⟨trivial, _, rfl, [], (.lit (.string (strOf x13576))), Mem.nil, ⟨rfl, trivial, by decide, rfl, trivial⟩, rfl, rfl, rfl, rfl⟩
      · rintro _ _ _ ⟨rfl, rfl, rfl⟩
        refine W.now ?_
        refine Then.n ?_
        refine WP.seq ?_
        refine WP.region ?_
        refine WPL.q (q_mv (v := .whole _) rfl) rfl ?_
        refine WPL.q (q_bytes_str_row Tryd.underlying47 Tryd.underlying5 Tryd.underlying9 rfl rfl) rfl ?_
        refine WPL.q (q_as (v := .lit (.string _)) rfl) rfl ?_
        refine WPL.nilW ?_
        refine W.now ?_
        refine Then.n ?_
        refine WP.retW ?_
        refine W.now ?_
        have q0 := (Option.some.inj H)
        subst q0
        exact ⟨trivial, _, rfl, [], (.lit (.string (strOf x13491))), Mem.nil, ⟨rfl, trivial, by decide, rfl, trivial⟩, rfl, rfl, rfl, rfl⟩
set_option maxRecDepth 100000 in
set_option maxHeartbeats 4000000 in
theorem s_utf_Less (k : Nat) (x13595 : ByteArray) (x13596 : ByteArray) (H : g_utf_Less k x13595 x13596 = some ()) : Go.Q.Spec Tryd.prog 23 0 [.lit (.string x13595), .lit (.string x13596)] Mem.nil (fun o M => o = .ret (.lit (.bool (Op.bytesLess x13595.toList x13596.toList))) ∧ M = Mem.nil) := by
  unfold g_utf_Less at H
  refine Go.Q.Spec.of_bodyR (rs := [.tmp 4]) (nt := 8) Tryd.func23 rfl rfl (by intro t T h; simp at h) rfl rfl fun cx hnp => ?_
  refine WP.seq ?_
  refine WP.region ?_
  refine WPL.q (q_as (v := .lit (.bool _)) rfl) rfl ?_
  refine WPL.nilW ?_
  refine W.now ?_
  refine Then.n ?_
  refine WP.seq ?_
  refine WP.region ?_
  refine WPL.q (q_mv (v := .lit (.string _)) rfl) rfl ?_
  refine WPL.q (q_mv (v := .lit (.string _)) rfl) rfl ?_
  refine WPL.q (q_lsss rfl rfl) rfl ?_
  refine WPL.q (q_as (v := .lit (.bool _)) rfl) rfl ?_
  refine WPL.nilW ?_
  refine W.now ?_
  refine Then.n ?_
  refine WP.retW ?_
  refine W.now ?_
  exact ⟨trivial, _, rfl, [], (.lit (.bool (Op.bytesLess x13595.toList x13596.toList))), Mem.nil, ⟨rfl, trivial, by decide, rfl, trivial⟩, rfl, rfl, rfl, rfl⟩
set_option maxRecDepth 100000 in
set_option maxHeartbeats 4000000 in
theorem s_quirelaw06_UtfTurns (k : Nat) (x12775 : ByteArray) (x12776 : ByteArray) (x13625 : Bool) (H : g_quirelaw06_UtfTurns k x12775 x12776 = some x13625) : Go.Q.Spec Tryd.prog 5 0 [.lit (.string x12775), .lit (.string x12776)] Mem.nil (fun o M => o = .ret (.lit (.bool x13625)) ∧ M = Mem.nil) := by
  unfold g_quirelaw06_UtfTurns at H
  refine Go.Q.Spec.of_bodyR (rs := [.tmp 4]) (nt := 36) Tryd.func5 rfl rfl (by intro t T h; simp at h) rfl rfl fun cx hnp => ?_
  refine WP.seq ?_
  refine WP.region ?_
  refine WPL.q (q_as (v := .lit (.bool _)) rfl) rfl ?_
  refine WPL.nilW ?_
  refine W.now ?_
  refine Then.n ?_
  refine WP.seq ?_
  obtain ⟨x13646, H13666, H⟩ := bnd H
  refine WP.monoW (Q := fun x E M => x = .normal ∧ E = (Env.none.upd 4 (.lit (.bool x13646))) ∧ M = Mem.nil) ?_ ?_
  · clear H
    have H := H13666
    clear H13666
    refine WP.region ?_
    refine WPL.q (q_mv (v := .lit (.string _)) rfl) rfl ?_
    obtain ⟨x13648, h13646, H⟩ := bnd H
    refine WPL.c (runs_call (s := []) (t := []) (N := 0) (bor := []) fn18 rfl (s_utf_Upper k x12775 x13648 h13646) ⟨rfl, trivial, by decide, rfl, trivial⟩ rfl trivial (.ren rfl rfl .nil) rfl trivial rfl) rfl ?_
    refine WPL.q (q_mv (v := .lit (.string _)) rfl) rfl ?_
    obtain ⟨x13650, h13648, H⟩ := bnd H
    refine WPL.c (runs_call (s := []) (t := []) (N := 0) (bor := []) fn20 rfl (s_quireref06_Upper k x12775 x13650 h13648) ⟨rfl, trivial, by decide, rfl, trivial⟩ rfl trivial (.ren rfl rfl .nil) rfl trivial rfl) rfl ?_
    refine WPL.q (q_eqls rfl rfl) rfl ?_
    refine WPL.q (q_mv (v := .lit (.bool _)) rfl) rfl ?_
    refine WPL.split (t := 10) (b := (x13648.toList == x13650.toList)) rfl (fun hb13650 => ?_) (fun hb13650 => ?_)
    · replace H := cnt hb13650 H
      refine WPL.qg rfl rfl (lb hb13650) (q_mv (v := .lit (.string _)) rfl) rfl ?_
      obtain ⟨x13653, h13651, H⟩ := bnd H
      refine WPL.cg rfl rfl (lb hb13650) (runs_call (s := []) (t := []) (N := 0) (bor := []) fn19 rfl (s_utf_Lower k x12775 x13653 h13651) ⟨rfl, trivial, by decide, rfl, trivial⟩ rfl trivial (.ren rfl rfl .nil) rfl trivial rfl) rfl ?_
      refine WPL.qg rfl rfl (lb hb13650) (q_mv (v := .lit (.string _)) rfl) rfl ?_
      obtain ⟨x13655, h13653, H⟩ := bnd H
      refine WPL.cg rfl rfl (lb hb13650) (runs_call (s := []) (t := []) (N := 0) (bor := []) fn21 rfl (s_quireref06_Lower k x12775 x13655 h13653) ⟨rfl, trivial, by decide, rfl, trivial⟩ rfl trivial (.ren rfl rfl .nil) rfl trivial rfl) rfl ?_
      refine WPL.qg rfl rfl (lb hb13650) (q_eqls rfl rfl) rfl ?_
      refine WPL.q (q_pickT (v := .lit (.bool _)) (lb hb13650) rfl) rfl ?_
      refine WPL.q (q_mv (v := .lit (.bool _)) rfl) rfl ?_
      refine WPL.split (t := 17) (b := (x13653.toList == x13655.toList)) rfl (fun hb13655 => ?_) (fun hb13655 => ?_)
      · replace H := cnt hb13655 H
        refine WPL.qg rfl rfl (lb hb13655) (q_mv (v := .lit (.string _)) rfl) rfl ?_
        obtain ⟨x13658, h13656, H⟩ := bnd H
        refine WPL.cg rfl rfl (lb hb13655) (runs_call (s := []) (t := []) (N := 0) (bor := []) fn17 rfl (s_utf_Trim k x12775 x13658 h13656) ⟨rfl, trivial, by decide, rfl, trivial⟩ rfl trivial (.ren rfl rfl .nil) rfl trivial rfl) rfl ?_
        refine WPL.qg rfl rfl (lb hb13655) (q_mv (v := .lit (.string _)) rfl) rfl ?_
        obtain ⟨x13660, h13658, H⟩ := bnd H
        refine WPL.cg rfl rfl (lb hb13655) (runs_call (s := []) (t := []) (N := 0) (bor := []) fn22 rfl (s_quireref06_Trim k x12775 x13660 h13658) ⟨rfl, trivial, by decide, rfl, trivial⟩ rfl trivial (.ren rfl rfl .nil) rfl trivial rfl) rfl ?_
        refine WPL.qg rfl rfl (lb hb13655) (q_eqls rfl rfl) rfl ?_
        refine WPL.q (q_pickT (v := .lit (.bool _)) (lb hb13655) rfl) rfl ?_
        refine WPL.q (q_mv (v := .lit (.bool _)) rfl) rfl ?_
        refine WPL.split (t := 24) (b := (x13658.toList == x13660.toList)) rfl (fun hb13660 => ?_) (fun hb13660 => ?_)
        · replace H := cnt hb13660 H
          refine WPL.qg rfl rfl (lb hb13660) (q_mv (v := .lit (.string _)) rfl) rfl ?_
          refine WPL.qg rfl rfl (lb hb13660) (q_mv (v := .lit (.string _)) rfl) rfl ?_
          obtain ⟨_, h13661, H⟩ := bnd H
          refine WPL.cg rfl rfl (lb hb13660) (runs_call (s := []) (t := []) (N := 0) (bor := []) fn23 rfl (s_utf_Less k x12775 x12776 h13661) ⟨rfl, trivial, by decide, rfl, trivial⟩ rfl trivial (.ren rfl rfl (.ren rfl rfl .nil)) rfl trivial rfl) rfl ?_
          refine WPL.qg rfl rfl (lb hb13660) (q_mv (v := .lit (.string _)) rfl) rfl ?_
          refine WPL.qg rfl rfl (lb hb13660) (q_mv (v := .lit (.string _)) rfl) rfl ?_
          refine WPL.qg rfl rfl (lb hb13660) (q_lsss rfl rfl) rfl ?_
          obtain ⟨x13663, h13663, H⟩ := bnd H
          refine WPL.qg rfl rfl (lb hb13660) (q_nm (q_eqlb Tryd.underlying4 rfl rfl) (nm_bool h13663)) rfl ?_
          refine WPL.q (q_pickT (v := .lit (.bool _)) (lb hb13660) rfl) rfl ?_
          refine WPL.q (q_mv (v := .lit (.bool _)) rfl) rfl ?_
          refine WPL.split (t := 33) (b := x13663) rfl (fun hb13663 => ?_) (fun hb13663 => ?_)
          · replace H := cnt hb13663 H
            obtain ⟨x13666, h13664, H⟩ := bnd H
            refine WPL.cg rfl rfl (lb hb13663) (runs_call (s := []) (t := []) (N := 0) (bor := []) fn16 rfl (s_quirelaw06_alive k x13666 h13664) ⟨rfl, trivial, by decide, rfl, trivial⟩ rfl trivial .nil rfl trivial rfl) rfl ?_
            refine WPL.q (q_pickT (v := .lit (.bool _)) (lb hb13663) rfl) rfl ?_
            refine WPL.q (q_as (v := .lit (.bool _)) rfl) rfl ?_
            refine WPL.nilW ?_
            refine W.cv (Cv.weak (E' := (Env.none.upd 4 (.lit (.bool x13666)))) (M' := Mem.nil) [] hnp ⟨rfl, trivial, by decide, rfl, trivial⟩ (LeE.upd rfl rfl (LeE.none rfl rfl))) rfl ?_
            refine W.now ?_
            have q0 := (Option.some.inj H)
            subst q0
            exact ⟨rfl, rfl, rfl⟩
          · replace H := cnf hb13663 H
            refine WPL.skipg (b' := false) rfl rfl (lb hb13663) rfl rfl ?_
            refine WPL.q (q_pickF (v := .lit (.bool _)) (lb hb13663) rfl) rfl ?_
            refine WPL.q (q_as (v := .lit (.bool _)) rfl) rfl ?_
            refine WPL.nilW ?_
            refine W.cv (Cv.weak (E' := (Env.none.upd 4 (.lit (.bool false)))) (M' := Mem.nil) [] hnp ⟨rfl, trivial, by decide, rfl, trivial⟩ (LeE.upd rfl rfl (LeE.none rfl rfl))) rfl ?_
            refine W.now ?_
            have q0 := (Option.some.inj H)
            subst q0
            exact ⟨rfl, rfl, rfl⟩
        · replace H := cnf hb13660 H
          refine WPL.skipg (b' := false) rfl rfl (lb hb13660) rfl rfl ?_
          refine WPL.skipg (b' := false) rfl rfl (lb hb13660) rfl rfl ?_
          refine WPL.skipg (b' := false) rfl rfl (lb hb13660) rfl rfl ?_
          refine WPL.skipg (b' := false) rfl rfl (lb hb13660) rfl rfl ?_
          refine WPL.skipg (b' := false) rfl rfl (lb hb13660) rfl rfl ?_
          refine WPL.skipg (b' := false) rfl rfl (lb hb13660) rfl rfl ?_
          refine WPL.skipg (b' := false) rfl rfl (lb hb13660) rfl rfl ?_
          refine WPL.q (q_pickF (v := .lit (.bool _)) (lb hb13660) rfl) rfl ?_
          refine WPL.q (q_mv (v := .lit (.bool _)) rfl) rfl ?_
          refine WPL.skipg (b' := false) rfl rfl rfl rfl rfl ?_
          refine WPL.q (q_pickF (v := .lit (.bool _)) rfl rfl) rfl ?_
          refine WPL.q (q_as (v := .lit (.bool _)) rfl) rfl ?_
          refine WPL.nilW ?_
          refine W.cv (Cv.weak (E' := (Env.none.upd 4 (.lit (.bool false)))) (M' := Mem.nil) [] hnp ⟨rfl, trivial, by decide, rfl, trivial⟩ (LeE.upd rfl rfl (LeE.none rfl rfl))) rfl ?_
          refine W.now ?_
          have q0 := (Option.some.inj H)
          subst q0
          exact ⟨rfl, rfl, rfl⟩
      · replace H := cnf hb13655 H
        refine WPL.skipg (b' := false) rfl rfl (lb hb13655) rfl rfl ?_
        refine WPL.skipg (b' := false) rfl rfl (lb hb13655) rfl rfl ?_
        refine WPL.skipg (b' := false) rfl rfl (lb hb13655) rfl rfl ?_
        refine WPL.skipg (b' := false) rfl rfl (lb hb13655) rfl rfl ?_
        refine WPL.skipg (b' := false) rfl rfl (lb hb13655) rfl rfl ?_
        refine WPL.q (q_pickF (v := .lit (.bool _)) (lb hb13655) rfl) rfl ?_
        refine WPL.q (q_mv (v := .lit (.bool _)) rfl) rfl ?_
        refine WPL.skipg (b' := false) rfl rfl rfl rfl rfl ?_
        refine WPL.skipg (b' := false) rfl rfl rfl rfl rfl ?_
        refine WPL.skipg (b' := false) rfl rfl rfl rfl rfl ?_
        refine WPL.skipg (b' := false) rfl rfl rfl rfl rfl ?_
        refine WPL.skipg (b' := false) rfl rfl rfl rfl rfl ?_
        refine WPL.skipg (b' := false) rfl rfl rfl rfl rfl ?_
        refine WPL.skipg (b' := false) rfl rfl rfl rfl rfl ?_
        refine WPL.q (q_pickF (v := .lit (.bool _)) rfl rfl) rfl ?_
        refine WPL.q (q_mv (v := .lit (.bool _)) rfl) rfl ?_
        refine WPL.skipg (b' := false) rfl rfl rfl rfl rfl ?_
        refine WPL.q (q_pickF (v := .lit (.bool _)) rfl rfl) rfl ?_
        refine WPL.q (q_as (v := .lit (.bool _)) rfl) rfl ?_
        refine WPL.nilW ?_
        refine W.cv (Cv.weak (E' := (Env.none.upd 4 (.lit (.bool false)))) (M' := Mem.nil) [] hnp ⟨rfl, trivial, by decide, rfl, trivial⟩ (LeE.upd rfl rfl (LeE.none rfl rfl))) rfl ?_
        refine W.now ?_
        have q0 := (Option.some.inj H)
        subst q0
        exact ⟨rfl, rfl, rfl⟩
    · replace H := cnf hb13650 H
      refine WPL.skipg (b' := false) rfl rfl (lb hb13650) rfl rfl ?_
      refine WPL.skipg (b' := false) rfl rfl (lb hb13650) rfl rfl ?_
      refine WPL.skipg (b' := false) rfl rfl (lb hb13650) rfl rfl ?_
      refine WPL.skipg (b' := false) rfl rfl (lb hb13650) rfl rfl ?_
      refine WPL.skipg (b' := false) rfl rfl (lb hb13650) rfl rfl ?_
      refine WPL.q (q_pickF (v := .lit (.bool _)) (lb hb13650) rfl) rfl ?_
      refine WPL.q (q_mv (v := .lit (.bool _)) rfl) rfl ?_
      refine WPL.skipg (b' := false) rfl rfl rfl rfl rfl ?_
      refine WPL.skipg (b' := false) rfl rfl rfl rfl rfl ?_
      refine WPL.skipg (b' := false) rfl rfl rfl rfl rfl ?_
      refine WPL.skipg (b' := false) rfl rfl rfl rfl rfl ?_
      refine WPL.skipg (b' := false) rfl rfl rfl rfl rfl ?_
      refine WPL.q (q_pickF (v := .lit (.bool _)) rfl rfl) rfl ?_
      refine WPL.q (q_mv (v := .lit (.bool _)) rfl) rfl ?_
      refine WPL.skipg (b' := false) rfl rfl rfl rfl rfl ?_
      refine WPL.skipg (b' := false) rfl rfl rfl rfl rfl ?_
      refine WPL.skipg (b' := false) rfl rfl rfl rfl rfl ?_
      refine WPL.skipg (b' := false) rfl rfl rfl rfl rfl ?_
      refine WPL.skipg (b' := false) rfl rfl rfl rfl rfl ?_
      refine WPL.skipg (b' := false) rfl rfl rfl rfl rfl ?_
      refine WPL.skipg (b' := false) rfl rfl rfl rfl rfl ?_
      refine WPL.q (q_pickF (v := .lit (.bool _)) rfl rfl) rfl ?_
      refine WPL.q (q_mv (v := .lit (.bool _)) rfl) rfl ?_
      refine WPL.skipg (b' := false) rfl rfl rfl rfl rfl ?_
      refine WPL.q (q_pickF (v := .lit (.bool _)) rfl rfl) rfl ?_
      refine WPL.q (q_as (v := .lit (.bool _)) rfl) rfl ?_
      refine WPL.nilW ?_
      refine W.cv (Cv.weak (E' := (Env.none.upd 4 (.lit (.bool false)))) (M' := Mem.nil) [] hnp ⟨rfl, trivial, by decide, rfl, trivial⟩ (LeE.upd rfl rfl (LeE.none rfl rfl))) rfl ?_
      refine W.now ?_
      have q0 := (Option.some.inj H)
      subst q0
      exact ⟨rfl, rfl, rfl⟩
  · rintro _ _ _ ⟨rfl, rfl, rfl⟩
    refine W.now ?_
    refine Then.n ?_
    refine WP.retW ?_
    refine W.now ?_
    have q0 := (Option.some.inj H)
    subst q0
    exact ⟨trivial, _, rfl, [], (.lit (.bool x13646)), Mem.nil, ⟨rfl, trivial, by decide, rfl, trivial⟩, rfl, rfl, rfl, rfl⟩
end Go.Proofs.YtnbjdgamindikaaDoor.W
