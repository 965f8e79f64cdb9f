/- Walks: Fc6 -/
import Derived.Test.YtnbjdgamindikaaDoorFb
import Derived.Test.YtnbjdgamindikaaDoorFc5
namespace Go.Proofs.YtnbjdgamindikaaDoor.W
open Go Go.Q Go.Proofs
set_option linter.unusedVariables false
set_option linter.unusedSimpArgs false
set_option maxRecDepth 100000 in
set_option maxHeartbeats 4000000 in
theorem s_utf_turned (k : Nat) (x12544 : ByteArray) (x12545 : Int) (x12546 : Int) (x12547 : Int) (x12596 : ByteArray) (H : g_utf_turned k x12544 x12545 x12546 x12547 = some x12596) : Go.Q.Spec Tryd.prog 36 0 [.lit (.string x12544), .lit (.int .u8 x12545), .lit (.int .u8 x12546), .lit (.int .i64 x12547)] Mem.nil (fun o M => o = .ret (.lit (.string x12596)) ∧ M = Mem.nil) := by
  unfold g_utf_turned at H
  refine Go.Q.Spec.of_bodyR (rs := [.tmp 8]) (nt := 40) Tryd.func36 rfl rfl (by intro t T h; simp at h) rfl rfl fun cx hnp => ?_
  refine WP.seq ?_
  refine WP.region ?_
  refine WPL.q (q_as (v := .lit (.string _)) rfl) rfl ?_
  refine WPL.nilW ?_
  refine W.now ?_
  refine Then.n ?_
  refine WP.seq ?_
  refine WP.region ?_
  refine WPL.q (q_mv (v := .lit (.string _)) rfl) rfl ?_
  obtain ⟨h12596, H⟩ := grd H
  refine WPL.d (d_strBytes Tryd.underlying9 Tryd.underlying47 Tryd.underlying5 rfl h12596 rfl) rfl ?_
  refine WPL.q (q_as (v := .whole _) rfl) rfl ?_
  refine WPL.nilW ?_
  refine W.now ?_
  refine Then.n ?_
  refine WP.seq ?_
  refine WP.seq ?_
  refine WP.region ?_
  refine WPL.q (q_mv (v := .whole _) rfl) rfl ?_
  refine WPL.q (q_len_row sl47 rfl rfl) rfl ?_
  refine WPL.q (q_mv (v := .lit (.int _ _)) rfl) rfl ?_
  refine WPL.nilW ?_
  refine W.now ?_
  refine Then.n ?_
  refine WP.block ?_
  refine WP.cv (Cv.weak (E' := (((((((Env.none.upd 1 (.lit (.int .u8 x12545))).upd 2 (.lit (.int .u8 x12546))).upd 3 (.lit (.int .i64 x12547))).upd 9 (.whole 0)).upd 14 (.whole 0)).upd 15 (.lit (.int .i64 ((List.length (strInts x12544) : Nat) : Int)))).upd 16 (.lit (.int .i64 0)))) (M' := (Mem.nil.push (.row 5 (Rd.int .u8) (strInts x12544)))) [0] hnp ⟨rfl, ⟨trivial, .inr ⟨rfl, rfl, rfl⟩⟩, by decide, rfl, trivial⟩ (LeE.upd rfl rfl (LeE.upd rfl rfl (LeE.upd rfl rfl (LeE.upd rfl rfl (LeE.upd rfl rfl (LeE.upd rfl rfl (LeE.upd rfl rfl (LeE.none rfl rfl))))))))) ?_
  obtain ⟨x12642, H12663, H⟩ := bnd H
  refine WP.monoW (Q := fun x E M => x = .exit 0 ∧ E = (Env.none.upd 9 (.whole 0)) ∧ M = (Mem.nil.push (.row 5 (Rd.int .u8) x12642))) ?_ ?_
  · refine WP.loop (β := Int × (List Int)) (fun n b => g_utf_turned_l0 k x12544 x12545 x12546 x12547 n b.1 b.2 = some x12642) (fun b => (((((((Env.none.upd 1 (.lit (.int .u8 x12545))).upd 2 (.lit (.int .u8 x12546))).upd 3 (.lit (.int .i64 x12547))).upd 9 (.whole 0)).upd 14 (.whole 0)).upd 15 (.lit (.int .i64 ((List.length (strInts x12544) : Nat) : Int)))).upd 16 (.lit (.int .i64 b.1)))) (fun b => (Mem.nil.push (.row 5 (Rd.int .u8) b.2))) k (0, (strInts x12544)) H12663 rfl rfl ?_
    rintro n ⟨x12619, x12620⟩ H
    obtain _ | n := n
    · exact nf rfl H
    rw [g_utf_turned_l0.eq_2] at H
    show WP _ _ _ _ (((((((Env.none.upd 1 (.lit (.int .u8 x12545))).upd 2 (.lit (.int .u8 x12546))).upd 3 (.lit (.int .i64 x12547))).upd 9 (.whole 0)).upd 14 (.whole 0)).upd 15 (.lit (.int .i64 ((List.length (strInts x12544) : Nat) : Int)))).upd 16 (.lit (.int .i64 x12619))) (Mem.nil.push (.row 5 (Rd.int .u8) x12620)) _
    refine WP.seq ?_
    refine WP.region ?_
    obtain ⟨x12643, h12643, H⟩ := bnd H
    refine WPL.q (q_nm (q_lss rfl rfl) (nm_bool h12643)) rfl ?_
    refine WPL.nilW ?_
    refine W.now ?_
    refine Then.n ?_
    refine WP.seq ?_
    refine WP.cond (t := x12643) rfl (fun hb12644 => ?_) (fun hb12644 => ?_)
    · replace H := cnt hb12644 H
      refine WP.skipW ?_
      refine W.now ?_
      refine Then.n ?_
      refine WP.seq ?_
      obtain ⟨x12654, H12662, H⟩ := bnd H
      refine WP.monoW (Q := fun x E M => x = .normal ∧ E = (((((((Env.none.upd 1 (.lit (.int .u8 x12545))).upd 2 (.lit (.int .u8 x12546))).upd 3 (.lit (.int .i64 x12547))).upd 9 (.whole 0)).upd 14 (.whole 0)).upd 15 (.lit (.int .i64 ((List.length (strInts x12544) : Nat) : Int)))).upd 16 (.lit (.int .i64 x12619))) ∧ M = (Mem.nil.push (.row 5 (Rd.int .u8) x12654))) ?_ ?_
      · clear H
        have H := H12662
        clear H12662
        refine WP.block ?_
        refine WP.seq ?_
        refine WP.region ?_
        refine WPL.q (q_mv (v := .lit (.int _ _)) rfl) rfl ?_
        obtain ⟨x12655, h12655, H⟩ := bnd H
        refine WPL.q (q_index_row sl47 rfl rfl rfl (ixs h12655)) rfl ?_
        refine WPL.q (q_load_row (j := (Int.toNat x12619)) sc5 rfl rfl (ixj h12655)) rfl ?_
        refine WPL.q (q_as (v := .lit (.int _ _)) rfl) rfl ?_
        refine WPL.q (q_as (v := .lit (.int _ _)) rfl) rfl ?_
        refine WPL.nilW ?_
        refine W.now ?_
        refine Then.n ?_
        refine WP.seq ?_
        obtain ⟨x12657, H12658, H⟩ := bnd H
        refine WP.monoW (Q := fun x E M => x = .normal ∧ E = ((((((((((Env.none.upd 1 (.lit (.int .u8 x12545))).upd 2 (.lit (.int .u8 x12546))).upd 3 (.lit (.int .i64 x12547))).upd 9 (.whole 0)).upd 10 (.lit (.int .i64 x12619))).upd 11 (.lit (.int .u8 x12655))).upd 14 (.whole 0)).upd 15 (.lit (.int .i64 ((List.length (strInts x12544) : Nat) : Int)))).upd 16 (.lit (.int .i64 x12619))).upd 28 (.lit (.bool x12657))) ∧ M = (Mem.nil.push (.row 5 (Rd.int .u8) x12620))) ?_ ?_
        · clear H
          have H := H12658
          clear H12658
          refine WP.region ?_
          refine WPL.q (q_mv (v := .lit (.int _ _)) rfl) rfl ?_
          refine WPL.q (q_mv (v := .lit (.int _ _)) rfl) rfl ?_
          refine WPL.q (q_geq rfl rfl) rfl ?_
          refine WPL.q (q_mv (v := .lit (.bool _)) rfl) rfl ?_
          refine WPL.split (t := 24) (b := (decide (x12545 ≤ x12655))) rfl (fun hb12657 => ?_) (fun hb12657 => ?_)
          · replace H := cnt hb12657 H
            refine WPL.qg rfl rfl (lb hb12657) (q_mv (v := .lit (.int _ _)) rfl) rfl ?_
            refine WPL.qg rfl rfl (lb hb12657) (q_mv (v := .lit (.int _ _)) rfl) rfl ?_
            refine WPL.qg rfl rfl (lb hb12657) (q_leq rfl rfl) rfl ?_
            refine WPL.q (q_pickT (v := .lit (.bool _)) (lb hb12657) rfl) rfl ?_
            refine WPL.nilW ?_
            refine W.cv (Cv.weak (E' := ((((((((((Env.none.upd 1 (.lit (.int .u8 x12545))).upd 2 (.lit (.int .u8 x12546))).upd 3 (.lit (.int .i64 x12547))).upd 9 (.whole 0)).upd 10 (.lit (.int .i64 x12619))).upd 11 (.lit (.int .u8 x12655))).upd 14 (.whole 0)).upd 15 (.lit (.int .i64 ((List.length (strInts x12544) : Nat) : Int)))).upd 16 (.lit (.int .i64 x12619))).upd 28 (.lit (.bool (decide (x12655 ≤ x12546)))))) (M' := (Mem.nil.push (.row 5 (Rd.int .u8) x12620))) [0] hnp ⟨rfl, ⟨trivial, .inr ⟨rfl, rfl, rfl⟩⟩, by decide, rfl, trivial⟩ (LeE.upd rfl rfl (LeE.upd rfl rfl (LeE.upd rfl rfl (LeE.upd rfl rfl (LeE.upd rfl rfl (LeE.upd rfl rfl (LeE.upd rfl rfl (LeE.upd rfl rfl (LeE.upd rfl rfl (LeE.upd rfl rfl (LeE.none rfl rfl)))))))))))) rfl ?_
            refine W.now ?_
            have q0 := (Option.some.inj H)
            subst q0
            exact ⟨rfl, rfl, rfl⟩
          · replace H := cnf hb12657 H
            refine WPL.skipg (b' := false) rfl rfl (lb hb12657) rfl rfl ?_
            refine WPL.skipg (b' := false) rfl rfl (lb hb12657) rfl rfl ?_
            refine WPL.skipg (b' := false) rfl rfl (lb hb12657) rfl rfl ?_
            refine WPL.q (q_pickF (v := .lit (.bool _)) (lb hb12657) rfl) rfl ?_
            refine WPL.nilW ?_
            refine W.cv (Cv.weak (E' := ((((((((((Env.none.upd 1 (.lit (.int .u8 x12545))).upd 2 (.lit (.int .u8 x12546))).upd 3 (.lit (.int .i64 x12547))).upd 9 (.whole 0)).upd 10 (.lit (.int .i64 x12619))).upd 11 (.lit (.int .u8 x12655))).upd 14 (.whole 0)).upd 15 (.lit (.int .i64 ((List.length (strInts x12544) : Nat) : Int)))).upd 16 (.lit (.int .i64 x12619))).upd 28 (.lit (.bool false)))) (M' := (Mem.nil.push (.row 5 (Rd.int .u8) x12620))) [0] hnp ⟨rfl, ⟨trivial, .inr ⟨rfl, rfl, rfl⟩⟩, by decide, rfl, trivial⟩ (LeE.upd rfl rfl (LeE.upd rfl rfl (LeE.upd rfl rfl (LeE.upd rfl rfl (LeE.upd rfl rfl (LeE.upd rfl rfl (LeE.upd rfl rfl (LeE.upd rfl rfl (LeE.upd rfl rfl (LeE.upd rfl rfl (LeE.none rfl rfl)))))))))))) rfl ?_
            refine W.now ?_
            have q0 := (Option.some.inj H)
            subst q0
            exact ⟨rfl, rfl, rfl⟩
        · rintro _ _ _ ⟨rfl, rfl, rfl⟩
          refine W.now ?_
          refine Then.n ?_
          refine WP.cond (t := x12657) rfl (fun hb12659 => ?_) (fun hb12659 => ?_)
          · replace H := cnt hb12659 H
            refine WP.region ?_
            refine WPL.q (q_mv (v := .whole _) rfl) rfl ?_
            refine WPL.q (q_mv (v := .lit (.int _ _)) rfl) rfl ?_
            refine WPL.q (q_mv (v := .lit (.int _ _)) rfl) rfl ?_
            refine WPL.q (q_conv Tryd.underlying5 Tryd.underlying3 rfl) rfl ?_
            refine WPL.q (q_mv (v := .lit (.int _ _)) rfl) rfl ?_
            obtain ⟨x12661, h12661, H⟩ := bnd H
            refine WPL.q (q_nm (q_add rfl rfl) (nm_int h12661)) rfl ?_
            refine WPL.q (q_conv Tryd.underlying3 Tryd.underlying5 rfl) rfl ?_
            obtain ⟨x12662, h12662, H⟩ := bnd H
            refine WPL.q (q_index_row sl47 rfl rfl rfl (ixs h12662)) rfl ?_
            refine WPL.s (s_store_row (j := (Int.toNat x12619)) (d := (IntKind.wrap .u8 x12661)) sz5 rfl rfl rfl rfl Joins.sc (ixl h12662)) ?_
            refine WPL.nilW ?_
            refine W.cv (Cv.weak (E' := (((((((Env.none.upd 1 (.lit (.int .u8 x12545))).upd 2 (.lit (.int .u8 x12546))).upd 3 (.lit (.int .i64 x12547))).upd 9 (.whole 0)).upd 14 (.whole 0)).upd 15 (.lit (.int .i64 ((List.length (strInts x12544) : Nat) : Int)))).upd 16 (.lit (.int .i64 x12619)))) (M' := (Mem.nil.push (.row 5 (Rd.int .u8) (List.set x12620 (Int.toNat x12619) (IntKind.wrap .u8 x12661))))) [0] hnp ⟨rfl, ⟨trivial, .inr ⟨rfl, rfl, rfl⟩⟩, by decide, rfl, trivial⟩ (LeE.upd rfl rfl (LeE.upd rfl rfl (LeE.upd rfl rfl (LeE.upd rfl rfl (LeE.upd rfl rfl (LeE.upd rfl rfl (LeE.upd rfl rfl (LeE.none rfl rfl))))))))) rfl ?_
            refine W.now ?_
            refine InBlock.n ?_
            have q0 := (Option.some.inj H)
            subst q0
            exact ⟨rfl, rfl, rfl⟩
          · replace H := cnf hb12659 H
            refine WP.skipW ?_
            refine W.cv (Cv.weak (E' := (((((((Env.none.upd 1 (.lit (.int .u8 x12545))).upd 2 (.lit (.int .u8 x12546))).upd 3 (.lit (.int .i64 x12547))).upd 9 (.whole 0)).upd 14 (.whole 0)).upd 15 (.lit (.int .i64 ((List.length (strInts x12544) : Nat) : Int)))).upd 16 (.lit (.int .i64 x12619)))) (M' := (Mem.nil.push (.row 5 (Rd.int .u8) x12620))) [0] hnp ⟨rfl, ⟨trivial, .inr ⟨rfl, rfl, rfl⟩⟩, by decide, rfl, trivial⟩ (LeE.upd rfl rfl (LeE.upd rfl rfl (LeE.upd rfl rfl (LeE.upd rfl rfl (LeE.upd rfl rfl (LeE.upd rfl rfl (LeE.upd rfl rfl (LeE.none rfl rfl))))))))) rfl ?_
            refine W.now ?_
            refine InBlock.n ?_
            have q0 := (Option.some.inj H)
            subst q0
            exact ⟨rfl, rfl, rfl⟩
      · rintro _ _ _ ⟨rfl, rfl, rfl⟩
        refine W.now ?_
        refine Then.n ?_
        refine WP.region ?_
        refine WPL.q (q_add rfl rfl) rfl ?_
        refine WPL.q (q_mv (v := .lit (.int _ _)) rfl) rfl ?_
        refine WPL.nilW ?_
        refine W.cv (Cv.weak (E' := (((((((Env.none.upd 1 (.lit (.int .u8 x12545))).upd 2 (.lit (.int .u8 x12546))).upd 3 (.lit (.int .i64 x12547))).upd 9 (.whole 0)).upd 14 (.whole 0)).upd 15 (.lit (.int .i64 ((List.length (strInts x12544) : Nat) : Int)))).upd 16 (.lit (.int .i64 (IntKind.wrap .i64 (x12619 + 1)))))) (M' := (Mem.nil.push (.row 5 (Rd.int .u8) x12654))) [0] hnp ⟨rfl, ⟨trivial, .inr ⟨rfl, rfl, rfl⟩⟩, by decide, rfl, trivial⟩ (LeE.upd rfl rfl (LeE.upd rfl rfl (LeE.upd rfl rfl (LeE.upd rfl rfl (LeE.upd rfl rfl (LeE.upd rfl rfl (LeE.upd rfl rfl (LeE.none rfl rfl))))))))) rfl ?_
        refine W.now ?_
        exact Then.n ⟨n, ((IntKind.wrap .i64 (x12619 + 1)), x12654), Nat.lt_succ_self n, H, rfl, rfl⟩
    · replace H := cnf hb12644 H
      refine WP.exitW ?_
      refine W.cv (Cv.weak (E' := (Env.none.upd 9 (.whole 0))) (M' := (Mem.nil.push (.row 5 (Rd.int .u8) x12620))) [0] hnp ⟨rfl, ⟨trivial, .inr ⟨rfl, rfl, rfl⟩⟩, by decide, rfl, trivial⟩ (LeE.upd rfl rfl (LeE.none rfl rfl))) rfl ?_
      refine W.now ?_
      refine Then.x ?_
      refine Then.x ?_
      have q0 := (Option.some.inj H)
      subst q0
      exact ⟨rfl, rfl, rfl⟩
  · rintro _ _ _ ⟨rfl, rfl, rfl⟩
    refine W.now ?_
    refine InBlock.x0 ?_
    refine Then.n ?_
    refine WP.seq ?_
    refine WP.region ?_
    refine WPL.q (q_mv (v := .whole _) rfl) rfl ?_
    refine WPL.q (q_bytes_str_row Tryd.underlying47 Tryd.underlying5 Tryd.underlying9 rfl rfl) rfl ?_
    refine WPL.q (q_as (v := .lit (.string _)) rfl) rfl ?_
    refine WPL.nilW ?_
    refine W.now ?_
    refine Then.n ?_
    refine WP.retW ?_
    refine W.now ?_
    have q0 := (Option.some.inj H)
    subst q0
    exact ⟨trivial, _, rfl, [], (.lit (.string (strOf x12642))), Mem.nil, ⟨rfl, trivial, by decide, rfl, trivial⟩, rfl, rfl, rfl, rfl⟩
set_option maxRecDepth 100000 in
set_option maxHeartbeats 4000000 in
theorem s_utf_Lower (k : Nat) (x12542 : ByteArray) (x12667 : ByteArray) (H : g_utf_Lower k x12542 = some x12667) : Go.Q.Spec Tryd.prog 19 0 [.lit (.string x12542)] Mem.nil (fun o M => o = .ret (.lit (.string x12667)) ∧ M = Mem.nil) := by
  unfold g_utf_Lower at H
  refine Go.Q.Spec.of_bodyR (rs := [.tmp 2]) (nt := 5) Tryd.func19 rfl rfl (by intro t T h; simp at h) rfl rfl fun cx hnp => ?_
  refine WP.seq ?_
  refine WP.region ?_
  refine WPL.q (q_as (v := .lit (.string _)) rfl) rfl ?_
  refine WPL.nilW ?_
  refine W.now ?_
  refine Then.n ?_
  refine WP.seq ?_
  refine WP.region ?_
  refine WPL.q (q_mv (v := .lit (.string _)) rfl) rfl ?_
  obtain ⟨x12669, h12667, H⟩ := bnd H
  refine WPL.c (runs_call (s := []) (t := []) (N := 0) (bor := []) fn36 rfl (s_utf_turned k x12542 65 90 32 x12669 h12667) ⟨rfl, trivial, by decide, rfl, trivial⟩ rfl trivial (.ren rfl rfl (.ren rfl rfl (.ren rfl rfl (.ren rfl rfl .nil)))) rfl trivial rfl) rfl ?_
  refine WPL.q (q_as (v := .lit (.string _)) rfl) rfl ?_
  refine WPL.nilW ?_
  refine W.now ?_
  refine Then.n ?_
  refine WP.retW ?_
  refine W.now ?_
  have q0 := (Option.some.inj H)
  subst q0
  exact ⟨trivial, _, rfl, [], (.lit (.string x12669)), Mem.nil, ⟨rfl, trivial, by decide, rfl, trivial⟩, rfl, rfl, rfl, rfl⟩
set_option maxRecDepth 100000 in
set_option maxHeartbeats 4000000 in
theorem s_utf_Upper (k : Nat) (x12672 : ByteArray) (x12676 : ByteArray) (H : g_utf_Upper k x12672 = some x12676) : Go.Q.Spec Tryd.prog 18 0 [.lit (.string x12672)] Mem.nil (fun o M => o = .ret (.lit (.string x12676)) ∧ M = Mem.nil) := by
  unfold g_utf_Upper at H
  refine Go.Q.Spec.of_bodyR (rs := [.tmp 2]) (nt := 5) Tryd.func18 rfl rfl (by intro t T h; simp at h) rfl rfl fun cx hnp => ?_
  refine WP.seq ?_
  refine WP.region ?_
  refine WPL.q (q_as (v := .lit (.string _)) rfl) rfl ?_
  refine WPL.nilW ?_
  refine W.now ?_
  refine Then.n ?_
  refine WP.seq ?_
  refine WP.region ?_
  refine WPL.q (q_mv (v := .lit (.string _)) rfl) rfl ?_
  obtain ⟨x12678, h12676, H⟩ := bnd H
  refine WPL.c (runs_call (s := []) (t := []) (N := 0) (bor := []) fn36 rfl (s_utf_turned k x12672 97 122 (-32) x12678 h12676) ⟨rfl, trivial, by decide, rfl, trivial⟩ rfl trivial (.ren rfl rfl (.ren rfl rfl (.ren rfl rfl (.ren rfl rfl .nil)))) rfl trivial rfl) rfl ?_
  refine WPL.q (q_as (v := .lit (.string _)) rfl) rfl ?_
  refine WPL.nilW ?_
  refine W.now ?_
  refine Then.n ?_
  refine WP.retW ?_
  refine W.now ?_
  have q0 := (Option.some.inj H)
  subst q0
  exact ⟨trivial, _, rfl, [], (.lit (.string x12678)), Mem.nil, ⟨rfl, trivial, by decide, rfl, trivial⟩, rfl, rfl, rfl, rfl⟩
set_option maxRecDepth 100000 in
set_option maxHeartbeats 4000000 in
theorem s_quirelaw06_UtfTwice (k : Nat) (x12535 : ByteArray) (x12722 : Bool) (H : g_quirelaw06_UtfTwice k x12535 = some x12722) : Go.Q.Spec Tryd.prog 4 0 [.lit (.string x12535)] Mem.nil (fun o M => o = .ret (.lit (.bool x12722)) ∧ M = Mem.nil) := by
  unfold g_quirelaw06_UtfTwice at H
  refine Go.Q.Spec.of_bodyR (rs := [.tmp 2]) (nt := 37) Tryd.func4 rfl rfl (by intro t T h; simp at h) rfl rfl fun cx hnp => ?_
  refine WP.seq ?_
  refine WP.region ?_
  refine WPL.q (q_as (v := .lit (.bool _)) rfl) rfl ?_
  refine WPL.nilW ?_
  refine W.now ?_
  refine Then.n ?_
  refine WP.seq ?_
  refine WP.region ?_
  refine WPL.q (q_mv (v := .lit (.string _)) rfl) rfl ?_
  obtain ⟨x12724, h12722, H⟩ := bnd H
  refine WPL.c (runs_call (s := []) (t := []) (N := 0) (bor := []) fn17 rfl (s_utf_Trim k x12535 x12724 h12722) ⟨rfl, trivial, by decide, rfl, trivial⟩ rfl trivial (.ren rfl rfl .nil) rfl trivial rfl) rfl ?_
  refine WPL.q (q_as (v := .lit (.string _)) rfl) rfl ?_
  refine WPL.nilW ?_
  refine W.now ?_
  refine Then.n ?_
  refine WP.seq ?_
  obtain ⟨x12748, H12771, H⟩ := bnd H
  refine WP.monoW (Q := fun x E M => x = .normal ∧ E = (Env.none.upd 2 (.lit (.bool x12748))) ∧ M = Mem.nil) ?_ ?_
  · clear H
    have H := H12771
    clear H12771
    refine WP.region ?_
    refine WPL.q (q_mv (v := .lit (.string _)) rfl) rfl ?_
    obtain ⟨x12750, h12748, H⟩ := bnd H
    refine WPL.c (runs_call (s := []) (t := []) (N := 0) (bor := []) fn17 rfl (s_utf_Trim k x12724 x12750 h12748) ⟨rfl, trivial, by decide, rfl, trivial⟩ rfl trivial (.ren rfl rfl .nil) rfl trivial rfl) rfl ?_
    refine WPL.q (q_mv (v := .lit (.string _)) rfl) rfl ?_
    refine WPL.q (q_eqls rfl rfl) rfl ?_
    refine WPL.q (q_mv (v := .lit (.bool _)) rfl) rfl ?_
    refine WPL.split (t := 10) (b := (x12750.toList == x12724.toList)) rfl (fun hb12750 => ?_) (fun hb12750 => ?_)
    · replace H := cnt hb12750 H
      refine WPL.qg rfl rfl (lb hb12750) (q_mv (v := .lit (.string _)) rfl) rfl ?_
      obtain ⟨x12753, h12751, H⟩ := bnd H
      refine WPL.cg rfl rfl (lb hb12750) (runs_call (s := []) (t := []) (N := 0) (bor := []) fn19 rfl (s_utf_Lower k x12535 x12753 h12751) ⟨rfl, trivial, by decide, rfl, trivial⟩ rfl trivial (.ren rfl rfl .nil) rfl trivial rfl) rfl ?_
      obtain ⟨x12755, h12753, H⟩ := bnd H
      refine WPL.cg rfl rfl (lb hb12750) (runs_call (s := []) (t := []) (N := 0) (bor := []) fn18 rfl (s_utf_Upper k x12753 x12755 h12753) ⟨rfl, trivial, by decide, rfl, trivial⟩ rfl trivial (.ren rfl rfl .nil) rfl trivial rfl) rfl ?_
      refine WPL.qg rfl rfl (lb hb12750) (q_mv (v := .lit (.string _)) rfl) rfl ?_
      obtain ⟨x12757, h12755, H⟩ := bnd H
      refine WPL.cg rfl rfl (lb hb12750) (runs_call (s := []) (t := []) (N := 0) (bor := []) fn18 rfl (s_utf_Upper k x12535 x12757 h12755) ⟨rfl, trivial, by decide, rfl, trivial⟩ rfl trivial (.ren rfl rfl .nil) rfl trivial rfl) rfl ?_
      refine WPL.qg rfl rfl (lb hb12750) (q_eqls rfl rfl) rfl ?_
      refine WPL.q (q_pickT (v := .lit (.bool _)) (lb hb12750) rfl) rfl ?_
      refine WPL.q (q_mv (v := .lit (.bool _)) rfl) rfl ?_
      refine WPL.split (t := 18) (b := (x12755.toList == x12757.toList)) rfl (fun hb12757 => ?_) (fun hb12757 => ?_)
      · replace H := cnt hb12757 H
        refine WPL.qg rfl rfl (lb hb12757) (q_mv (v := .lit (.string _)) rfl) rfl ?_
        obtain ⟨x12760, h12758, H⟩ := bnd H
        refine WPL.cg rfl rfl (lb hb12757) (runs_call (s := []) (t := []) (N := 0) (bor := []) fn18 rfl (s_utf_Upper k x12535 x12760 h12758) ⟨rfl, trivial, by decide, rfl, trivial⟩ rfl trivial (.ren rfl rfl .nil) rfl trivial rfl) rfl ?_
        obtain ⟨x12762, h12760, H⟩ := bnd H
        refine WPL.cg rfl rfl (lb hb12757) (runs_call (s := []) (t := []) (N := 0) (bor := []) fn19 rfl (s_utf_Lower k x12760 x12762 h12760) ⟨rfl, trivial, by decide, rfl, trivial⟩ rfl trivial (.ren rfl rfl .nil) rfl trivial rfl) rfl ?_
        refine WPL.qg rfl rfl (lb hb12757) (q_mv (v := .lit (.string _)) rfl) rfl ?_
        obtain ⟨x12764, h12762, H⟩ := bnd H
        refine WPL.cg rfl rfl (lb hb12757) (runs_call (s := []) (t := []) (N := 0) (bor := []) fn19 rfl (s_utf_Lower k x12535 x12764 h12762) ⟨rfl, trivial, by decide, rfl, trivial⟩ rfl trivial (.ren rfl rfl .nil) rfl trivial rfl) rfl ?_
        refine WPL.qg rfl rfl (lb hb12757) (q_eqls rfl rfl) rfl ?_
        refine WPL.q (q_pickT (v := .lit (.bool _)) (lb hb12757) rfl) rfl ?_
        refine WPL.q (q_mv (v := .lit (.bool _)) rfl) rfl ?_
        refine WPL.split (t := 26) (b := (x12762.toList == x12764.toList)) rfl (fun hb12764 => ?_) (fun hb12764 => ?_)
        · replace H := cnt hb12764 H
          refine WPL.qg rfl rfl (lb hb12764) (q_mv (v := .lit (.string _)) rfl) rfl ?_
          obtain ⟨x12767, h12765, H⟩ := bnd H
          refine WPL.cg rfl rfl (lb hb12764) (runs_call (s := []) (t := []) (N := 0) (bor := []) fn18 rfl (s_utf_Upper k x12535 x12767 h12765) ⟨rfl, trivial, by decide, rfl, trivial⟩ rfl trivial (.ren rfl rfl .nil) rfl trivial rfl) rfl ?_
          refine WPL.qg rfl rfl (lb hb12764) (q_len_str Tryd.underlying9 rfl) rfl ?_
          refine WPL.qg rfl rfl (lb hb12764) (q_mv (v := .lit (.string _)) rfl) rfl ?_
          refine WPL.qg rfl rfl (lb hb12764) (q_len_str Tryd.underlying9 rfl) rfl ?_
          obtain ⟨x12768, h12768, H⟩ := bnd H
          refine WPL.qg rfl rfl (lb hb12764) (q_nm (q_eql rfl rfl) (nm_bool h12768)) rfl ?_
          refine WPL.q (q_pickT (v := .lit (.bool _)) (lb hb12764) rfl) rfl ?_
          refine WPL.q (q_mv (v := .lit (.bool _)) rfl) rfl ?_
          refine WPL.split (t := 34) (b := x12768) rfl (fun hb12768 => ?_) (fun hb12768 => ?_)
          · replace H := cnt hb12768 H
            obtain ⟨x12771, h12769, H⟩ := bnd H
            refine WPL.cg rfl rfl (lb hb12768) (runs_call (s := []) (t := []) (N := 0) (bor := []) fn16 rfl (s_quirelaw06_alive k x12771 h12769) ⟨rfl, trivial, by decide, rfl, trivial⟩ rfl trivial .nil rfl trivial rfl) rfl ?_
            refine WPL.q (q_pickT (v := .lit (.bool _)) (lb hb12768) rfl) rfl ?_
            refine WPL.q (q_as (v := .lit (.bool _)) rfl) rfl ?_
            refine WPL.nilW ?_
            refine W.cv (Cv.weak (E' := (Env.none.upd 2 (.lit (.bool x12771)))) (M' := Mem.nil) [] hnp ⟨rfl, trivial, by decide, rfl, trivial⟩ (LeE.upd rfl rfl (LeE.none rfl rfl))) rfl ?_
            refine W.now ?_
            have q0 := (Option.some.inj H)
            subst q0
            exact ⟨rfl, rfl, rfl⟩
          · replace H := cnf hb12768 H
            refine WPL.skipg (b' := false) rfl rfl (lb hb12768) rfl rfl ?_
            refine WPL.q (q_pickF (v := .lit (.bool _)) (lb hb12768) rfl) rfl ?_
            refine WPL.q (q_as (v := .lit (.bool _)) rfl) rfl ?_
            refine WPL.nilW ?_
            refine W.cv (Cv.weak (E' := (Env.none.upd 2 (.lit (.bool false)))) (M' := Mem.nil) [] hnp ⟨rfl, trivial, by decide, rfl, trivial⟩ (LeE.upd rfl rfl (LeE.none rfl rfl))) rfl ?_
            refine W.now ?_
            have q0 := (Option.some.inj H)
            subst q0
            exact ⟨rfl, rfl, rfl⟩
        · replace H := cnf hb12764 H
          refine WPL.skipg (b' := false) rfl rfl (lb hb12764) rfl rfl ?_
          refine WPL.skipg (b' := false) rfl rfl (lb hb12764) rfl rfl ?_
          refine WPL.skipg (b' := false) rfl rfl (lb hb12764) rfl rfl ?_
          refine WPL.skipg (b' := false) rfl rfl (lb hb12764) rfl rfl ?_
          refine WPL.skipg (b' := false) rfl rfl (lb hb12764) rfl rfl ?_
          refine WPL.skipg (b' := false) rfl rfl (lb hb12764) rfl rfl ?_
          refine WPL.q (q_pickF (v := .lit (.bool _)) (lb hb12764) rfl) rfl ?_
          refine WPL.q (q_mv (v := .lit (.bool _)) rfl) rfl ?_
          refine WPL.skipg (b' := false) rfl rfl rfl rfl rfl ?_
          refine WPL.q (q_pickF (v := .lit (.bool _)) rfl rfl) rfl ?_
          refine WPL.q (q_as (v := .lit (.bool _)) rfl) rfl ?_
          refine WPL.nilW ?_
          refine W.cv (Cv.weak (E' := (Env.none.upd 2 (.lit (.bool false)))) (M' := Mem.nil) [] hnp ⟨rfl, trivial, by decide, rfl, trivial⟩ (LeE.upd rfl rfl (LeE.none rfl rfl))) rfl ?_
          refine W.now ?_
          have q0 := (Option.some.inj H)
          subst q0
          exact ⟨rfl, rfl, rfl⟩
      · replace H := cnf hb12757 H
        refine WPL.skipg (b' := false) rfl rfl (lb hb12757) rfl rfl ?_
        refine WPL.skipg (b' := false) rfl rfl (lb hb12757) rfl rfl ?_
        refine WPL.skipg (b' := false) rfl rfl (lb hb12757) rfl rfl ?_
        refine WPL.skipg (b' := false) rfl rfl (lb hb12757) rfl rfl ?_
        refine WPL.skipg (b' := false) rfl rfl (lb hb12757) rfl rfl ?_
        refine WPL.skipg (b' := false) rfl rfl (lb hb12757) rfl rfl ?_
        refine WPL.q (q_pickF (v := .lit (.bool _)) (lb hb12757) rfl) rfl ?_
        refine WPL.q (q_mv (v := .lit (.bool _)) rfl) rfl ?_
        refine WPL.skipg (b' := false) rfl rfl rfl rfl rfl ?_
        refine WPL.skipg (b' := false) rfl rfl rfl rfl rfl ?_
        refine WPL.skipg (b' := false) rfl rfl rfl rfl rfl ?_
        refine WPL.skipg (b' := false) rfl rfl rfl rfl rfl ?_
        refine WPL.skipg (b' := false) rfl rfl rfl rfl rfl ?_
        refine WPL.skipg (b' := false) rfl rfl rfl rfl rfl ?_
        refine WPL.q (q_pickF (v := .lit (.bool _)) rfl rfl) rfl ?_
        refine WPL.q (q_mv (v := .lit (.bool _)) rfl) rfl ?_
        refine WPL.skipg (b' := false) rfl rfl rfl rfl rfl ?_
        refine WPL.q (q_pickF (v := .lit (.bool _)) rfl rfl) rfl ?_
        refine WPL.q (q_as (v := .lit (.bool _)) rfl) rfl ?_
        refine WPL.nilW ?_
        refine W.cv (Cv.weak (E' := (Env.none.upd 2 (.lit (.bool false)))) (M' := Mem.nil) [] hnp ⟨rfl, trivial, by decide, rfl, trivial⟩ (LeE.upd rfl rfl (LeE.none rfl rfl))) rfl ?_
        refine W.now ?_
        have q0 := (Option.some.inj H)
        subst q0
        exact ⟨rfl, rfl, rfl⟩
    · replace H := cnf hb12750 H
      refine WPL.skipg (b' := false) rfl rfl (lb hb12750) rfl rfl ?_
      refine WPL.skipg (b' := false) rfl rfl (lb hb12750) rfl rfl ?_
      refine WPL.skipg (b' := false) rfl rfl (lb hb12750) rfl rfl ?_
      refine WPL.skipg (b' := false) rfl rfl (lb hb12750) rfl rfl ?_
      refine WPL.skipg (b' := false) rfl rfl (lb hb12750) rfl rfl ?_
      refine WPL.skipg (b' := false) rfl rfl (lb hb12750) rfl rfl ?_
      refine WPL.q (q_pickF (v := .lit (.bool _)) (lb hb12750) rfl) rfl ?_
      refine WPL.q (q_mv (v := .lit (.bool _)) rfl) rfl ?_
      refine WPL.skipg (b' := false) rfl rfl rfl rfl rfl ?_
      refine WPL.skipg (b' := false) rfl rfl rfl rfl rfl ?_
      refine WPL.skipg (b' := false) rfl rfl rfl rfl rfl ?_
      refine WPL.skipg (b' := false) rfl rfl rfl rfl rfl ?_
      refine WPL.skipg (b' := false) rfl rfl rfl rfl rfl ?_
      refine WPL.skipg (b' := false) rfl rfl rfl rfl rfl ?_
      refine WPL.q (q_pickF (v := .lit (.bool _)) rfl rfl) rfl ?_
      refine WPL.q (q_mv (v := .lit (.bool _)) rfl) rfl ?_
      refine WPL.skipg (b' := false) rfl rfl rfl rfl rfl ?_
      refine WPL.skipg (b' := false) rfl rfl rfl rfl rfl ?_
      refine WPL.skipg (b' := false) rfl rfl rfl rfl rfl ?_
      refine WPL.skipg (b' := false) rfl rfl rfl rfl rfl ?_
      refine WPL.skipg (b' := false) rfl rfl rfl rfl rfl ?_
      refine WPL.skipg (b' := false) rfl rfl rfl rfl rfl ?_
      refine WPL.q (q_pickF (v := .lit (.bool _)) rfl rfl) rfl ?_
      refine WPL.q (q_mv (v := .lit (.bool _)) rfl) rfl ?_
      refine WPL.skipg (b' := false) rfl rfl rfl rfl rfl ?_
      refine WPL.q (q_pickF (v := .lit (.bool _)) rfl rfl) rfl ?_
      refine WPL.q (q_as (v := .lit (.bool _)) rfl) rfl ?_
      refine WPL.nilW ?_
      refine W.cv (Cv.weak (E' := (Env.none.upd 2 (.lit (.bool false)))) (M' := Mem.nil) [] hnp ⟨rfl, trivial, by decide, rfl, trivial⟩ (LeE.upd rfl rfl (LeE.none rfl rfl))) rfl ?_
      refine W.now ?_
      have q0 := (Option.some.inj H)
      subst q0
      exact ⟨rfl, rfl, rfl⟩
  · rintro _ _ _ ⟨rfl, rfl, rfl⟩
    refine W.now ?_
    refine Then.n ?_
    refine WP.retW ?_
    refine W.now ?_
    have q0 := (Option.some.inj H)
    subst q0
    exact ⟨trivial, _, rfl, [], (.lit (.bool x12748)), Mem.nil, ⟨rfl, trivial, by decide, rfl, trivial⟩, rfl, rfl, rfl, rfl⟩
end Go.Proofs.YtnbjdgamindikaaDoor.W
