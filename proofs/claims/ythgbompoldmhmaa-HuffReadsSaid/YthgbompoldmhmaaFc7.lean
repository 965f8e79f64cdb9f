/- Walks: Fc7 -/
import Derived.Test.YthgbompoldmhmaaFb
import Derived.Test.YthgbompoldmhmaaFc0
import Derived.Test.YthgbompoldmhmaaFc1
import Derived.Test.YthgbompoldmhmaaFc4
namespace Go.Proofs.Ythgbompoldmhmaa.W
open Go Go.Q Go.Proofs
set_option linter.unusedVariables false
set_option linter.unusedSimpArgs false
set_option maxRecDepth 100000 in
set_option maxHeartbeats 4000000 in
theorem s34 (k : Nat) (x6752 : List Int) (x6753 : List Int) (H : f34 k x6752 = some x6753) : Go.Q.Spec Try.prog 34 0 [.ro (Rd.slice (Rd.int .u8)) false x6752] Mem.nil (fun o M => o = .ret (.ro (Rd.slice (Rd.int .u8)) false x6753) ∧ M = Mem.nil) := by
  unfold f34 at H
  obtain ⟨h, H⟩ := grd H
  have q0 := Option.some.inj H
  subst q0
  refine Go.Q.Spec.of_bodyR (rs := [.tmp 2]) (nt := 8) Try.func34 rfl rfl (by intro t T h; simp at h) rfl rfl fun cx hnp => ?_
  refine WP.seq ?_
  refine WP.region ?_
  refine WPL.q (q_as (v := .lit _) rfl) rfl ?_
  refine WPL.nilW ?_
  refine W.now ?_
  refine Then.n ?_
  refine WP.seq ?_
  refine WP.seq ?_
  refine WP.region ?_
  refine WPL.q (q_mv (v := .ro _ _ _) rfl) rfl ?_
  refine WPL.eqlNil Try.underlying38 rfl rfl fun nb hnb => ?_
  refine WPL.nilW ?_
  refine W.now ?_
  refine Then.n ?_
  refine WP.cond (t := nb) rfl (fun hb => ?_) (fun hb => ?_)
  · have h0 := hnb hb
    subst h0
    refine WP.seq ?_
    refine WP.region ?_
    refine WPL.q (q_as (v := .lit _) rfl) rfl ?_
    refine WPL.nilW ?_
    refine W.now ?_
    refine Then.n ?_
    refine WP.retW ?_
    refine W.cv (Cv.nilRo (Rd.int .u8) false 2 rfl) rfl ?_
    refine W.now ?_
    refine Then.r ?_
    exact ⟨trivial, _, rfl, [], (.ro (Rd.slice (Rd.int .u8)) false ([] : List Int)), Mem.nil, ⟨rfl, trivial, by decide, rfl, trivial⟩, rfl, rfl, rfl, rfl⟩
  · refine WP.skipW ?_
    refine W.now ?_
    refine Then.n ?_
    refine WP.seq ?_
    refine WP.region ?_
    refine WPL.d (d_buildSlice (ds := ([] : List Int)) (R := (Rd.int .u8)) li38 rfl rfl rfl rfl rfl JoinRows.nil rfl rfl) rfl ?_
    refine WPL.q (q_mv (v := .ro _ _ _) rfl) rfl ?_
    refine WPL.d (d_append ap38 rfl rfl rfl rfl (src_ro sl38 rfl) h rfl) rfl ?_
    refine WPL.q (q_as (v := .whole _) rfl) rfl ?_
    refine WPL.nilW ?_
    refine W.now ?_
    refine Then.n ?_
    refine WP.retW ?_
    refine W.cv (Cv.frzRow (i := 1) rfl rfl hnp rfl rfl) rfl ?_
    refine W.now ?_
    exact ⟨trivial, _, rfl, [], (.ro (Rd.slice (Rd.int .u8)) false x6752), Mem.nil, ⟨rfl, trivial, by decide, rfl, trivial⟩, rfl, rfl, rfl, rfl⟩
set_option maxRecDepth 100000 in
set_option maxHeartbeats 4000000 in
theorem s20 (k : Nat) (x6750 : (List Int)) (x6756 : (List Int)) (H : f20 k x6750 = some x6756) : Go.Q.Spec Try.prog 20 0 [.ro (Rd.slice (Rd.int .u8)) false x6750] Mem.nil (fun o M => o = .ret (.ptr 0 0) ∧ M = (Mem.nil.push (.cells 77 [.ro (Rd.slice (Rd.int .u8)) false x6756, .lit (.int .i64 0)]))) := by
  unfold f20 at H
  refine Go.Q.Spec.of_bodyR (rs := [.tmp 2]) (nt := 7) Try.func20 rfl rfl (by intro t T h; simp at h) rfl rfl fun cx hnp => ?_
  refine WP.seq ?_
  refine WP.region ?_
  refine WPL.q (q_as (v := .lit _) rfl) rfl ?_
  refine WPL.nilW ?_
  refine W.now ?_
  refine Then.n ?_
  refine WP.seq ?_
  refine WP.region ?_
  refine WPL.q (q_mv (v := .ro _ _ _) rfl) rfl ?_
  obtain ⟨x6758, h6756, H⟩ := bnd H
  refine WPL.c (runs_call (s := []) (t := []) (N := 0) (bor := []) fn34 rfl (s34 k x6750 x6758 h6756) ⟨rfl, trivial, by decide, rfl, trivial⟩ rfl trivial (.ren rfl rfl .nil) rfl trivial rfl) rfl ?_
  refine WPL.q (q_build bu77 rfl) rfl ?_
  refine WPL.d (d_box rfl rfl) rfl ?_
  refine WPL.q (q_as (v := .ptr _ _) rfl) rfl ?_
  refine WPL.nilW ?_
  refine W.now ?_
  refine Then.n ?_
  refine WP.retW ?_
  refine W.now ?_
  have q0 := (Option.some.inj H)
  subst q0
  exact ⟨trivial, _, rfl, [0], (.ptr 0 0), (Mem.nil.push (.cells 77 [.ro (Rd.slice (Rd.int .u8)) false x6758, .lit (.int .i64 0)])), ⟨rfl, ⟨trivial, .inr ⟨rfl, rfl, rfl⟩⟩, by decide, rfl, trivial⟩, rfl, rfl, rfl, rfl⟩
set_option maxRecDepth 100000 in
set_option maxHeartbeats 4000000 in
theorem s21 (k : Nat) (x6761 : (List Int)) (x6762 : Int) (H : f21 k x6761 x6762 = some ()) : Go.Q.Spec Try.prog 21 1 [.lit (.pointer none), .ptr 0 0] (Mem.nil.push (.cells 77 [.ro (Rd.slice (Rd.int .u8)) false x6761, .lit (.int .i64 x6762)])) (fun o M => o = .ret (.tup [.lit (.int .i64 0), .lit (.int .i64 2)]) ∧ M = (Mem.nil.push (.cells 77 [.ro (Rd.slice (Rd.int .u8)) false x6761, .lit (.int .i64 x6762)]))) := by
  unfold f21 at H
  refine Go.Q.Spec.of_bodyR (rs := [.tmp 4, .tmp 5]) (nt := 98) Try.func21 rfl rfl (by intro t T h; simp at h) rfl rfl fun cx hnp => ?_
  refine WP.seq ?_
  refine WP.region ?_
  refine WPL.q (q_as (v := .lit (.int _ _)) rfl) rfl ?_
  refine WPL.q (q_as (v := .lit (.int _ _)) rfl) rfl ?_
  refine WPL.nilW ?_
  refine W.now ?_
  refine Then.n ?_
  refine WP.scope ?_
  refine WP.seq ?_
  refine WP.seq ?_
  refine WP.region ?_
  refine WPL.q (q_mv (v := .lit _) rfl) rfl ?_
  refine WPL.q (q_eqlp_nil Try.underlying39 rfl) rfl ?_
  refine WPL.q (q_mv (v := .lit (.bool _)) rfl) rfl ?_
  refine WPL.skipg (b' := true) rfl rfl rfl rfl rfl ?_
  refine WPL.skipg (b' := true) rfl rfl rfl rfl rfl ?_
  refine WPL.q (q_pickT (v := .lit (.bool _)) rfl rfl) rfl ?_
  refine WPL.nilW ?_
  refine W.now ?_
  refine Then.n ?_
  refine WP.condT rfl ?_
  refine WP.seq ?_
  refine WP.region ?_
  refine WPL.q (q_as (v := .lit (.int _ _)) rfl) rfl ?_
  refine WPL.q (q_as (v := .lit (.int _ _)) rfl) rfl ?_
  refine WPL.nilW ?_
  refine W.now ?_
  refine Then.n ?_
  refine WP.retW ?_
  refine W.now ?_
  refine Then.r ?_
  refine Scope.r ?_
  exact ⟨trivial, _, rfl, [0], (.tup [.lit (.int .i64 0), .lit (.int .i64 2)]), (Mem.nil.push (.cells 77 [.ro (Rd.slice (Rd.int .u8)) false x6761, .lit (.int .i64 x6762)])), ⟨rfl, ⟨trivial, .inr ⟨rfl, rfl, rfl⟩⟩, by decide, rfl, ⟨trivial, rfl⟩⟩, rfl, rfl, rfl, rfl⟩
set_option maxRecDepth 100000 in
set_option maxHeartbeats 4000000 in
theorem s19 (k : Nat) (x6765 : (List Int)) (r : (Int ⊕ ((List Int) × (List Int)))) (H : f19 k x6765 = some r) : Go.Q.Spec Try.prog 19 0 [.ro (Rd.slice (Rd.int .i64)) true x6765] Mem.nil (fun o M => match (generalizing := false) r with | (Sum.inl x7169) => o = .ret (.tup [.lit (.pointer none), .lit (.int .i64 x7169)]) ∧ M = Mem.nil | (Sum.inr (x7170, x7171)) => o = .ret (.tup [.ptr 0 0, .lit (.int .i64 0)]) ∧ M = ((Mem.nil.push (.cells 74 [.lit (.int .i64 (List.getD x7170 0 (0 : Int))), .lit (.int .i64 (List.getD x7170 1 (0 : Int))), .lit (.int .i64 (List.getD x7170 2 (0 : Int))), .lit (.int .i64 (List.getD x7170 3 (0 : Int))), .lit (.int .i64 (List.getD x7170 4 (0 : Int))), .lit (.int .i64 (List.getD x7170 5 (0 : Int))), .lit (.int .i64 (List.getD x7170 6 (0 : Int))), .lit (.int .i64 (List.getD x7170 7 (0 : Int))), .lit (.int .i64 (List.getD x7170 8 (0 : Int))), .lit (.int .i64 (List.getD x7170 9 (0 : Int))), .lit (.int .i64 (List.getD x7170 10 (0 : Int))), .lit (.int .i64 (List.getD x7170 11 (0 : Int))), .lit (.int .i64 (List.getD x7170 12 (0 : Int))), .lit (.int .i64 (List.getD x7170 13 (0 : Int))), .lit (.int .i64 (List.getD x7170 14 (0 : Int))), .lit (.int .i64 (List.getD x7170 15 (0 : Int))), .whole 1])).push (.row 3 (Rd.int .i64) x7171))) := by
  unfold f19 at H
  refine Go.Q.Spec.of_bodyR (rs := [.tmp 2, .tmp 3]) (nt := 49) Try.func19 rfl rfl (by intro t T h; simp at h) rfl rfl fun cx hnp => ?_
  refine WP.seq ?_
  refine WP.region ?_
  refine WPL.q (q_as (v := .lit _) rfl) rfl ?_
  refine WPL.q (q_as (v := .lit (.int _ _)) rfl) rfl ?_
  refine WPL.nilW ?_
  refine W.now ?_
  refine Then.n ?_
  refine WP.seq ?_
  refine WP.seq ?_
  refine WP.region ?_
  refine WPL.q (q_mv (v := .ro _ _ _) rfl) rfl ?_
  obtain ⟨⟨x7176, x7177⟩, h7174, H⟩ := bnd H
  refine WPL.c (runs_call (s := []) (t := []) (N := 0) (bor := []) fn32 rfl (s32b k x6765 x7176 x7177 h7174) ⟨rfl, trivial, by decide, rfl, trivial⟩ rfl trivial (.ren rfl rfl .nil) rfl trivial rfl) rfl ?_
  refine WPL.q (q_mv (v := .tup _) rfl) rfl ?_
  refine WPL.q (q_extract rfl rfl) rfl ?_
  refine WPL.q (q_extract rfl rfl) rfl ?_
  refine WPL.q (q_as (v := .lit (.bool _)) rfl) rfl ?_
  refine WPL.q (q_as (v := .lit (.int _ _)) rfl) rfl ?_
  refine WPL.nilW ?_
  refine W.now ?_
  refine Then.n ?_
  refine WP.seq ?_
  refine WP.region ?_
  refine WPL.q (q_mv (v := .lit (.int _ _)) rfl) rfl ?_
  refine WPL.q (q_neq rfl rfl) rfl ?_
  refine WPL.nilW ?_
  refine W.now ?_
  refine Then.n ?_
  refine WP.cond (t := (!decide (x7177 = 0))) rfl (fun hb => ?_) (fun hb => ?_)
  · replace H := cnt hb H
    refine WP.seq ?_
    refine WP.region ?_
    refine WPL.q (q_mv (v := .lit (.int _ _)) rfl) rfl ?_
    refine WPL.q (q_as (v := .lit _) rfl) rfl ?_
    refine WPL.q (q_as (v := .lit (.int _ _)) rfl) rfl ?_
    refine WPL.nilW ?_
    refine W.now ?_
    refine Then.n ?_
    refine WP.retW ?_
    refine W.now ?_
    refine Then.r ?_
    have q0 := Option.some.inj H
    subst q0
    exact ⟨trivial, _, rfl, [], (.tup [.lit (.pointer none), .lit (.int .i64 x7177)]), Mem.nil, ⟨rfl, trivial, by decide, rfl, trivial⟩, rfl, rfl, rfl, rfl⟩
  · replace H := cnf hb H
    refine WP.skipW ?_
    refine W.now ?_
    refine Then.n ?_
    refine WP.seq ?_
    refine WP.region ?_
    refine WPL.q (q_build bu74 rfl) rfl ?_
    refine WPL.d (d_box rfl rfl) rfl ?_
    refine WPL.d (d_alloc ze39 rfl) rfl ?_
    refine WPL.s (s_store sz39 rfl rfl rfl rfl rfl) ?_
    refine WPL.nilW ?_
    refine W.now ?_
    refine Then.n ?_
    refine WP.seq ?_
    refine WP.seq ?_
    refine WP.region ?_
    refine WPL.d (d_alloc ze3 rfl) rfl ?_
    refine WPL.s (s_store sz3 rfl rfl rfl rfl rfl) ?_
    refine WPL.nilW ?_
    refine W.now ?_
    refine Then.n ?_
    refine WP.block ?_
    refine WP.cv (Cv.nullMark (N := 3) rfl rfl) ?_
    refine WP.cv (Cv.virC 3 (Rd.int .i64) (N := 4) rfl rfl (i := 0) (off := 16) rfl rfl) ?_
    refine WP.cv (Cv.weak (E' := ((((⟨fun _ => .any, [4], []⟩ : Env).upd 0 (.ro (Rd.slice (Rd.int .i64)) true x6765)).upd 6 (.ptr 0 0)).upd 7 (.ptr 3 0))) (M' := (((((Mem.nil.push (.cells 39 [.ptr 1 0])).push (.cells 74 [.lit (.int .i64 (List.getD (List.replicate 16 (0 : Int)) 0 (0 : Int))), .lit (.int .i64 (List.getD (List.replicate 16 (0 : Int)) 1 (0 : Int))), .lit (.int .i64 (List.getD (List.replicate 16 (0 : Int)) 2 (0 : Int))), .lit (.int .i64 (List.getD (List.replicate 16 (0 : Int)) 3 (0 : Int))), .lit (.int .i64 (List.getD (List.replicate 16 (0 : Int)) 4 (0 : Int))), .lit (.int .i64 (List.getD (List.replicate 16 (0 : Int)) 5 (0 : Int))), .lit (.int .i64 (List.getD (List.replicate 16 (0 : Int)) 6 (0 : Int))), .lit (.int .i64 (List.getD (List.replicate 16 (0 : Int)) 7 (0 : Int))), .lit (.int .i64 (List.getD (List.replicate 16 (0 : Int)) 8 (0 : Int))), .lit (.int .i64 (List.getD (List.replicate 16 (0 : Int)) 9 (0 : Int))), .lit (.int .i64 (List.getD (List.replicate 16 (0 : Int)) 10 (0 : Int))), .lit (.int .i64 (List.getD (List.replicate 16 (0 : Int)) 11 (0 : Int))), .lit (.int .i64 (List.getD (List.replicate 16 (0 : Int)) 12 (0 : Int))), .lit (.int .i64 (List.getD (List.replicate 16 (0 : Int)) 13 (0 : Int))), .lit (.int .i64 (List.getD (List.replicate 16 (0 : Int)) 14 (0 : Int))), .lit (.int .i64 (List.getD (List.replicate 16 (0 : Int)) 15 (0 : Int))), .whole 2])).push (.row 3 (Rd.int .i64) ([] : List Int))).push (.cells 3 [.lit (.int .i64 1)])).push (.bag))) [1, 0, 4, 2, 3] hnp ⟨rfl, ⟨⟨⟨⟨⟨trivial, .inr ⟨rfl, rfl, rfl⟩⟩, .inr ⟨rfl, rfl, rfl⟩⟩, .inr ⟨rfl, rfl, rfl⟩⟩, .inr ⟨rfl, rfl, rfl⟩⟩, .inr ⟨rfl, rfl, rfl⟩⟩, by decide, rfl, trivial⟩ (LeE.upd rfl rfl (LeE.upd rfl rfl (LeE.upd rfl rfl (LeE.noneD rfl rfl .nil))))) ?_
    obtain ⟨⟨x7571, x7572⟩, H7796, H⟩ := bnd H
    refine WP.monoW (Q := fun x E M => x = .exit 0 ∧ E = ((⟨fun _ => .any, [3], []⟩ : Env).upd 6 (.ptr 0 0)) ∧ M = ((((Mem.nil.push (.cells 39 [.ptr 1 0])).push (.cells 74 [.lit (.int .i64 (List.getD x7571 0 (0 : Int))), .lit (.int .i64 (List.getD x7571 1 (0 : Int))), .lit (.int .i64 (List.getD x7571 2 (0 : Int))), .lit (.int .i64 (List.getD x7571 3 (0 : Int))), .lit (.int .i64 (List.getD x7571 4 (0 : Int))), .lit (.int .i64 (List.getD x7571 5 (0 : Int))), .lit (.int .i64 (List.getD x7571 6 (0 : Int))), .lit (.int .i64 (List.getD x7571 7 (0 : Int))), .lit (.int .i64 (List.getD x7571 8 (0 : Int))), .lit (.int .i64 (List.getD x7571 9 (0 : Int))), .lit (.int .i64 (List.getD x7571 10 (0 : Int))), .lit (.int .i64 (List.getD x7571 11 (0 : Int))), .lit (.int .i64 (List.getD x7571 12 (0 : Int))), .lit (.int .i64 (List.getD x7571 13 (0 : Int))), .lit (.int .i64 (List.getD x7571 14 (0 : Int))), .lit (.int .i64 (List.getD x7571 15 (0 : Int))), .whole 2])).push (.row 3 (Rd.int .i64) x7572)).push (.bag))) ?_ ?_
    · refine WP.loop (β := (List Int) × (List Int) × Int) (fun n b => f19_l0 k x6765 n b.1 b.2.1 b.2.2 = some (x7571, x7572)) (fun b => ((((⟨fun _ => .any, [4], []⟩ : Env).upd 0 (.ro (Rd.slice (Rd.int .i64)) true x6765)).upd 6 (.ptr 0 0)).upd 7 (.ptr 3 0))) (fun b => (((((Mem.nil.push (.cells 39 [.ptr 1 0])).push (.cells 74 [.lit (.int .i64 (List.getD b.1 0 (0 : Int))), .lit (.int .i64 (List.getD b.1 1 (0 : Int))), .lit (.int .i64 (List.getD b.1 2 (0 : Int))), .lit (.int .i64 (List.getD b.1 3 (0 : Int))), .lit (.int .i64 (List.getD b.1 4 (0 : Int))), .lit (.int .i64 (List.getD b.1 5 (0 : Int))), .lit (.int .i64 (List.getD b.1 6 (0 : Int))), .lit (.int .i64 (List.getD b.1 7 (0 : Int))), .lit (.int .i64 (List.getD b.1 8 (0 : Int))), .lit (.int .i64 (List.getD b.1 9 (0 : Int))), .lit (.int .i64 (List.getD b.1 10 (0 : Int))), .lit (.int .i64 (List.getD b.1 11 (0 : Int))), .lit (.int .i64 (List.getD b.1 12 (0 : Int))), .lit (.int .i64 (List.getD b.1 13 (0 : Int))), .lit (.int .i64 (List.getD b.1 14 (0 : Int))), .lit (.int .i64 (List.getD b.1 15 (0 : Int))), .whole 2])).push (.row 3 (Rd.int .i64) b.2.1)).push (.cells 3 [.lit (.int .i64 b.2.2)])).push (.bag))) k ((List.replicate 16 (0 : Int)), ([] : List Int), 1) H7796 rfl rfl ?_
      rintro n ⟨x7415, x7416, x7417⟩ H
      obtain _ | n := n
      · exact nf rfl H
      rw [f19_l0.eq_2] at H
      show WP _ _ _ _ ((((⟨fun _ => .any, [4], []⟩ : Env).upd 0 (.ro (Rd.slice (Rd.int .i64)) true x6765)).upd 6 (.ptr 0 0)).upd 7 (.ptr 3 0)) (((((Mem.nil.push (.cells 39 [.ptr 1 0])).push (.cells 74 [.lit (.int .i64 (List.getD x7415 0 (0 : Int))), .lit (.int .i64 (List.getD x7415 1 (0 : Int))), .lit (.int .i64 (List.getD x7415 2 (0 : Int))), .lit (.int .i64 (List.getD x7415 3 (0 : Int))), .lit (.int .i64 (List.getD x7415 4 (0 : Int))), .lit (.int .i64 (List.getD x7415 5 (0 : Int))), .lit (.int .i64 (List.getD x7415 6 (0 : Int))), .lit (.int .i64 (List.getD x7415 7 (0 : Int))), .lit (.int .i64 (List.getD x7415 8 (0 : Int))), .lit (.int .i64 (List.getD x7415 9 (0 : Int))), .lit (.int .i64 (List.getD x7415 10 (0 : Int))), .lit (.int .i64 (List.getD x7415 11 (0 : Int))), .lit (.int .i64 (List.getD x7415 12 (0 : Int))), .lit (.int .i64 (List.getD x7415 13 (0 : Int))), .lit (.int .i64 (List.getD x7415 14 (0 : Int))), .lit (.int .i64 (List.getD x7415 15 (0 : Int))), .whole 2])).push (.row 3 (Rd.int .i64) x7416)).push (.cells 3 [.lit (.int .i64 x7417)])).push (.bag)) _
      refine WP.seq ?_
      refine WP.seq ?_
      refine WP.region ?_
      refine WPL.q (q_load sc3 rfl rfl rfl) rfl ?_
      refine WPL.q (q_leq rfl rfl) rfl ?_
      refine WPL.nilW ?_
      refine W.now ?_
      refine Then.n ?_
      refine WP.cond (t := (decide (x7417 ≤ 15))) rfl (fun hb => ?_) (fun hb => ?_)
      · replace H := cnt hb H
        refine WP.skipW ?_
        refine W.now ?_
        refine Then.n ?_
        refine WP.seq ?_
        refine WP.block ?_
        refine WP.seq ?_
        refine WP.region ?_
        refine WPL.q (q_mv (v := .ro _ _ _) rfl) rfl ?_
        refine WPL.q (q_load sc3 rfl rfl rfl) rfl ?_
        obtain ⟨_, h7572, H⟩ := bnd H
        refine WPL.c (runs_call (s := []) (t := [5, 6]) (N := 7) (bor := []) fn33 rfl (s33b k x6765 x7417 h7572) ⟨rfl, trivial, by decide, rfl, trivial⟩ rfl trivial (.ren rfl rfl (.ren rfl rfl .nil)) rfl ⟨⟨trivial, rfl⟩, rfl⟩ rfl) rfl ?_
        refine WPL.nilW ?_
        refine W.now ?_
        refine Then.n ?_
        refine WP.block ?_
        refine WP.range (nti := 23) (n := 7) rfl rfl Try.func41 rfl (by kernel_rfl) rfl rfl rfl rfl fun l_7573 r_7573 aC7573 hp7573 ha7573 hb7573 ht7573 hs7573 => ?_
        refine WP.seq ?_
        refine WP.region ?_
        refine WPL.q (q_load sc22 rfl rfl rfl) rfl ?_
        refine WPL.q (q_len_ro sl22 rfl) rfl ?_
        refine WPL.q (q_mv (v := .lit (.int _ _)) rfl) rfl ?_
        refine WPL.nilW ?_
        refine W.now ?_
        refine Then.n ?_
        refine WP.block ?_
        refine WP.cv (Cv.weak (E' := ((((((⟨fun _ => .any, [], [⟨aC7573, (((((Env.none.upd 0 (.ro (Rd.slice (Rd.int .i64)) true x6765)).upd 6 (.ptr 1 0)).upd 7 (.ptr 4 0)).upd 25 (.fn 41 [.ptr 5 0, .ptr 0 0]))).v, [6, 7], some (8, l_7573)⟩]⟩ : Env).upd 0 (.lit (.func (.yield l_7573) #[] #[]))).upd 2 (.ptr 0 0)).upd 6 (.ro (Rd.slice (Rd.int .i64)) true x6765)).upd 7 (.lit (.int .i64 ((List.length x6765 : Nat) : Int)))).upd 8 (.lit (.int .i64 0)))) (M' := (((((((((Mem.nil.push (.cells 3 [.lit (.int .i64 x7417)])).push (.cells 39 [.ptr 2 0])).push (.cells 74 [.lit (.int .i64 (List.getD x7415 0 (0 : Int))), .lit (.int .i64 (List.getD x7415 1 (0 : Int))), .lit (.int .i64 (List.getD x7415 2 (0 : Int))), .lit (.int .i64 (List.getD x7415 3 (0 : Int))), .lit (.int .i64 (List.getD x7415 4 (0 : Int))), .lit (.int .i64 (List.getD x7415 5 (0 : Int))), .lit (.int .i64 (List.getD x7415 6 (0 : Int))), .lit (.int .i64 (List.getD x7415 7 (0 : Int))), .lit (.int .i64 (List.getD x7415 8 (0 : Int))), .lit (.int .i64 (List.getD x7415 9 (0 : Int))), .lit (.int .i64 (List.getD x7415 10 (0 : Int))), .lit (.int .i64 (List.getD x7415 11 (0 : Int))), .lit (.int .i64 (List.getD x7415 12 (0 : Int))), .lit (.int .i64 (List.getD x7415 13 (0 : Int))), .lit (.int .i64 (List.getD x7415 14 (0 : Int))), .lit (.int .i64 (List.getD x7415 15 (0 : Int))), .whole 3])).push (.row 3 (Rd.int .i64) x7416)).push (.cells 3 [.lit (.int .i64 x7417)])).push (.cells 22 [.ro (Rd.slice (Rd.int .i64)) true x6765])).push (.obj (Obj.deferred (some [])))).push (.bag)).push (.obj (lp r_7573 .ready none)))) [6, 0, 1, 2, 3, 5, 7, 4, 8] hnp ⟨rfl, ⟨⟨⟨⟨⟨⟨⟨⟨⟨trivial, .inr ⟨rfl, rfl, rfl⟩⟩, .inr ⟨rfl, rfl, rfl⟩⟩, .inr ⟨rfl, rfl, rfl⟩⟩, .inr ⟨rfl, rfl, rfl⟩⟩, .inr ⟨rfl, rfl, rfl⟩⟩, .inr ⟨rfl, rfl, rfl⟩⟩, .inr ⟨rfl, rfl, rfl⟩⟩, .inr ⟨rfl, rfl, rfl⟩⟩, .inr ⟨rfl, rfl, rfl⟩⟩, by decide, rfl, trivial⟩ (LeE.upd rfl rfl (LeE.upd rfl rfl (LeE.upd rfl rfl (LeE.upd rfl rfl (LeE.upd rfl rfl (LeE.noneD rfl rfl (.cons ⟨rfl, (LeV.upd rfl rfl (LeV.upd rfl rfl (LeV.upd rfl rfl (LeV.upd rfl rfl LeV.none)))), rfl, rfl, rfl, rfl⟩ .nil)))))))) ?_
        obtain ⟨y7796, H7794, H⟩ := bnd H
        refine WP.monoW (Q := fun x E M => match (generalizing := false) y7796 with | (Sum.inl (x7720, x7721)) => x = .ret ∧ E = (⟨fun _ => .any, [], [⟨aC7573, (((((Env.none.upd 0 (.ro (Rd.slice (Rd.int .i64)) true x6765)).upd 6 (.ptr 0 0)).upd 7 (.ptr 3 0)).upd 25 (.fn 41 [.ptr 4 0, .ptr 5 0]))).v, [6, 7], some (8, l_7573)⟩]⟩ : Env) ∧ M = (((((((((Mem.nil.push (.cells 39 [.ptr 1 0])).push (.cells 74 [.lit (.int .i64 (List.getD x7720 0 (0 : Int))), .lit (.int .i64 (List.getD x7720 1 (0 : Int))), .lit (.int .i64 (List.getD x7720 2 (0 : Int))), .lit (.int .i64 (List.getD x7720 3 (0 : Int))), .lit (.int .i64 (List.getD x7720 4 (0 : Int))), .lit (.int .i64 (List.getD x7720 5 (0 : Int))), .lit (.int .i64 (List.getD x7720 6 (0 : Int))), .lit (.int .i64 (List.getD x7720 7 (0 : Int))), .lit (.int .i64 (List.getD x7720 8 (0 : Int))), .lit (.int .i64 (List.getD x7720 9 (0 : Int))), .lit (.int .i64 (List.getD x7720 10 (0 : Int))), .lit (.int .i64 (List.getD x7720 11 (0 : Int))), .lit (.int .i64 (List.getD x7720 12 (0 : Int))), .lit (.int .i64 (List.getD x7720 13 (0 : Int))), .lit (.int .i64 (List.getD x7720 14 (0 : Int))), .lit (.int .i64 (List.getD x7720 15 (0 : Int))), .whole 2])).push (.row 3 (Rd.int .i64) x7721)).push (.cells 3 [.lit (.int .i64 x7417)])).push (.cells 22 [.ro (Rd.slice (Rd.int .i64)) true x6765])).push (.cells 3 [.lit (.int .i64 x7417)])).push (.obj (Obj.deferred (some [])))).push (.bag)).push (.obj (lp r_7573 .ready none))) | (Sum.inr (x7722, x7723)) => x = .exit 0 ∧ E = (⟨fun _ => .any, [], [⟨aC7573, (((((Env.none.upd 0 (.ro (Rd.slice (Rd.int .i64)) true x6765)).upd 6 (.ptr 0 0)).upd 7 (.ptr 3 0)).upd 25 (.fn 41 [.ptr 4 0, .ptr 5 0]))).v, [6, 7], some (8, l_7573)⟩]⟩ : Env) ∧ M = (((((((((Mem.nil.push (.cells 39 [.ptr 1 0])).push (.cells 74 [.lit (.int .i64 (List.getD x7722 0 (0 : Int))), .lit (.int .i64 (List.getD x7722 1 (0 : Int))), .lit (.int .i64 (List.getD x7722 2 (0 : Int))), .lit (.int .i64 (List.getD x7722 3 (0 : Int))), .lit (.int .i64 (List.getD x7722 4 (0 : Int))), .lit (.int .i64 (List.getD x7722 5 (0 : Int))), .lit (.int .i64 (List.getD x7722 6 (0 : Int))), .lit (.int .i64 (List.getD x7722 7 (0 : Int))), .lit (.int .i64 (List.getD x7722 8 (0 : Int))), .lit (.int .i64 (List.getD x7722 9 (0 : Int))), .lit (.int .i64 (List.getD x7722 10 (0 : Int))), .lit (.int .i64 (List.getD x7722 11 (0 : Int))), .lit (.int .i64 (List.getD x7722 12 (0 : Int))), .lit (.int .i64 (List.getD x7722 13 (0 : Int))), .lit (.int .i64 (List.getD x7722 14 (0 : Int))), .lit (.int .i64 (List.getD x7722 15 (0 : Int))), .whole 2])).push (.row 3 (Rd.int .i64) x7723)).push (.cells 3 [.lit (.int .i64 x7417)])).push (.cells 22 [.ro (Rd.slice (Rd.int .i64)) true x6765])).push (.cells 3 [.lit (.int .i64 x7417)])).push (.obj (Obj.deferred (some [])))).push (.bag)).push (.obj (lp r_7573 .ready none)))) ?_ ?_
        · refine WP.loop (β := Int × (List Int) × (List Int)) (fun n b => f19_l1 k x6765 x7417 n b.1 b.2.1 b.2.2 = some y7796) (fun b => ((((((⟨fun _ => .any, [], [⟨aC7573, (((((Env.none.upd 0 (.ro (Rd.slice (Rd.int .i64)) true x6765)).upd 6 (.ptr 1 0)).upd 7 (.ptr 4 0)).upd 25 (.fn 41 [.ptr 5 0, .ptr 0 0]))).v, [6, 7], some (8, l_7573)⟩]⟩ : Env).upd 0 (.lit (.func (.yield l_7573) #[] #[]))).upd 2 (.ptr 0 0)).upd 6 (.ro (Rd.slice (Rd.int .i64)) true x6765)).upd 7 (.lit (.int .i64 ((List.length x6765 : Nat) : Int)))).upd 8 (.lit (.int .i64 b.1)))) (fun b => (((((((((Mem.nil.push (.cells 3 [.lit (.int .i64 x7417)])).push (.cells 39 [.ptr 2 0])).push (.cells 74 [.lit (.int .i64 (List.getD b.2.1 0 (0 : Int))), .lit (.int .i64 (List.getD b.2.1 1 (0 : Int))), .lit (.int .i64 (List.getD b.2.1 2 (0 : Int))), .lit (.int .i64 (List.getD b.2.1 3 (0 : Int))), .lit (.int .i64 (List.getD b.2.1 4 (0 : Int))), .lit (.int .i64 (List.getD b.2.1 5 (0 : Int))), .lit (.int .i64 (List.getD b.2.1 6 (0 : Int))), .lit (.int .i64 (List.getD b.2.1 7 (0 : Int))), .lit (.int .i64 (List.getD b.2.1 8 (0 : Int))), .lit (.int .i64 (List.getD b.2.1 9 (0 : Int))), .lit (.int .i64 (List.getD b.2.1 10 (0 : Int))), .lit (.int .i64 (List.getD b.2.1 11 (0 : Int))), .lit (.int .i64 (List.getD b.2.1 12 (0 : Int))), .lit (.int .i64 (List.getD b.2.1 13 (0 : Int))), .lit (.int .i64 (List.getD b.2.1 14 (0 : Int))), .lit (.int .i64 (List.getD b.2.1 15 (0 : Int))), .whole 3])).push (.row 3 (Rd.int .i64) b.2.2)).push (.cells 3 [.lit (.int .i64 x7417)])).push (.cells 22 [.ro (Rd.slice (Rd.int .i64)) true x6765])).push (.obj (Obj.deferred (some [])))).push (.bag)).push (.obj (lp r_7573 .ready none)))) k (0, x7415, x7416) H7794 rfl rfl ?_
          rintro n ⟨x7646, x7647, x7648⟩ H
          obtain _ | n := n
          · exact nf rfl H
          rw [f19_l1.eq_2] at H
          show WP _ _ _ _ ((((((⟨fun _ => .any, [], [⟨aC7573, (((((Env.none.upd 0 (.ro (Rd.slice (Rd.int .i64)) true x6765)).upd 6 (.ptr 1 0)).upd 7 (.ptr 4 0)).upd 25 (.fn 41 [.ptr 5 0, .ptr 0 0]))).v, [6, 7], some (8, l_7573)⟩]⟩ : Env).upd 0 (.lit (.func (.yield l_7573) #[] #[]))).upd 2 (.ptr 0 0)).upd 6 (.ro (Rd.slice (Rd.int .i64)) true x6765)).upd 7 (.lit (.int .i64 ((List.length x6765 : Nat) : Int)))).upd 8 (.lit (.int .i64 x7646))) (((((((((Mem.nil.push (.cells 3 [.lit (.int .i64 x7417)])).push (.cells 39 [.ptr 2 0])).push (.cells 74 [.lit (.int .i64 (List.getD x7647 0 (0 : Int))), .lit (.int .i64 (List.getD x7647 1 (0 : Int))), .lit (.int .i64 (List.getD x7647 2 (0 : Int))), .lit (.int .i64 (List.getD x7647 3 (0 : Int))), .lit (.int .i64 (List.getD x7647 4 (0 : Int))), .lit (.int .i64 (List.getD x7647 5 (0 : Int))), .lit (.int .i64 (List.getD x7647 6 (0 : Int))), .lit (.int .i64 (List.getD x7647 7 (0 : Int))), .lit (.int .i64 (List.getD x7647 8 (0 : Int))), .lit (.int .i64 (List.getD x7647 9 (0 : Int))), .lit (.int .i64 (List.getD x7647 10 (0 : Int))), .lit (.int .i64 (List.getD x7647 11 (0 : Int))), .lit (.int .i64 (List.getD x7647 12 (0 : Int))), .lit (.int .i64 (List.getD x7647 13 (0 : Int))), .lit (.int .i64 (List.getD x7647 14 (0 : Int))), .lit (.int .i64 (List.getD x7647 15 (0 : Int))), .whole 3])).push (.row 3 (Rd.int .i64) x7648)).push (.cells 3 [.lit (.int .i64 x7417)])).push (.cells 22 [.ro (Rd.slice (Rd.int .i64)) true x6765])).push (.obj (Obj.deferred (some [])))).push (.bag)).push (.obj (lp r_7573 .ready none))) _
          refine WP.seq ?_
          refine WP.region ?_
          obtain ⟨x7724, h7724, H⟩ := bnd H
          refine WPL.q (q_nm (q_lss rfl rfl) (nm_bool h7724)) rfl ?_
          refine WPL.nilW ?_
          refine W.now ?_
          refine Then.n ?_
          refine WP.seq ?_
          refine WP.cond (t := x7724) rfl (fun hb => ?_) (fun hb => ?_)
          · replace H := cnt hb H
            refine WP.skipW ?_
            refine W.now ?_
            refine Then.n ?_
            refine WP.seq ?_
            refine WP.block ?_
            refine WP.seq ?_
            refine WP.region ?_
            refine WPL.q (q_mv (v := .lit (.int _ _)) rfl) rfl ?_
            obtain ⟨x7760, h7760, H⟩ := bnd H
            refine WPL.q (q_index_ro sl22 rfl rfl rfl h7760) rfl ?_
            refine WPL.q (q_load_sc sc3 rfl) rfl ?_
            refine WPL.q (q_as (v := .lit (.int _ _)) rfl) rfl ?_
            refine WPL.q (q_as (v := .lit (.int _ _)) rfl) rfl ?_
            refine WPL.nilW ?_
            refine W.now ?_
            refine Then.n ?_
            refine WP.seq ?_
            obtain ⟨⟨x7776, x7777, x7778⟩, H7793, H⟩ := bnd H
            refine WP.monoW (Q := fun x E M => x = .normal ∧ E = (((((((⟨fun _ => .any, [], [⟨aC7573, (((((Env.none.upd 0 (.ro (Rd.slice (Rd.int .i64)) true x6765)).upd 6 (.ptr 1 0)).upd 7 (.ptr 4 0)).upd 25 (.fn 41 [.ptr 5 0, .ptr 0 0]))).v, [6, 7], some (8, l_7573)⟩]⟩ : Env).upd 0 (.lit (.func (.yield l_7573) #[] #[]))).upd 2 (.ptr 0 0)).upd 6 (.ro (Rd.slice (Rd.int .i64)) true x6765)).upd 7 (.lit (.int .i64 ((List.length x6765 : Nat) : Int)))).upd 8 (.lit (.int .i64 x7646))).upd 21 (.lit (.bool x7776))) ∧ M = (((((((((Mem.nil.push (.cells 3 [.lit (.int .i64 x7417)])).push (.cells 39 [.ptr 2 0])).push (.cells 74 [.lit (.int .i64 (List.getD x7777 0 (0 : Int))), .lit (.int .i64 (List.getD x7777 1 (0 : Int))), .lit (.int .i64 (List.getD x7777 2 (0 : Int))), .lit (.int .i64 (List.getD x7777 3 (0 : Int))), .lit (.int .i64 (List.getD x7777 4 (0 : Int))), .lit (.int .i64 (List.getD x7777 5 (0 : Int))), .lit (.int .i64 (List.getD x7777 6 (0 : Int))), .lit (.int .i64 (List.getD x7777 7 (0 : Int))), .lit (.int .i64 (List.getD x7777 8 (0 : Int))), .lit (.int .i64 (List.getD x7777 9 (0 : Int))), .lit (.int .i64 (List.getD x7777 10 (0 : Int))), .lit (.int .i64 (List.getD x7777 11 (0 : Int))), .lit (.int .i64 (List.getD x7777 12 (0 : Int))), .lit (.int .i64 (List.getD x7777 13 (0 : Int))), .lit (.int .i64 (List.getD x7777 14 (0 : Int))), .lit (.int .i64 (List.getD x7777 15 (0 : Int))), .whole 3])).push (.row 3 (Rd.int .i64) x7778)).push (.cells 3 [.lit (.int .i64 x7417)])).push (.cells 22 [.ro (Rd.slice (Rd.int .i64)) true x6765])).push (.obj (Obj.deferred (some [])))).push (.bag)).push (.obj (lp r_7573 .ready none)))) ?_ ?_
            · clear H
              have H := H7793
              clear H7793
              refine WP.region ?_
              refine WPL.q (q_mv (v := .lit (.int _ _)) rfl) rfl ?_
              refine WPL.q (q_load sc3 rfl rfl rfl) rfl ?_
              refine WPL.q (q_eql rfl rfl) rfl ?_
              refine WPL.q (q_mv (v := .lit (.bool _)) rfl) rfl ?_
              refine WPL.split (t := 16) (b := (decide (x7760 = x7417))) rfl (fun hb7778 => ?_) (fun hb7778 => ?_)
              · replace H := cnt hb7778 H
                refine WPL.qg rfl rfl (lb hb7778) (q_mv (v := .lit _) rfl) rfl ?_
                refine WPL.qg rfl rfl (lb hb7778) (q_mv (v := .lit (.int _ _)) rfl) rfl ?_
                refine WPL.yg rfl rfl rfl rfl hp7573 ha7573 hb7573 ht7573 hs7573 rfl rfl rfl rfl rfl (lb hb7778) fun aI7779 => ?_
                refine WP.region ?_
                refine WPL.q (q_as (v := .lit (.int _ _)) rfl) rfl ?_
                refine WPL.nilW ?_
                refine W.now ?_
                refine ⟨rfl, rfl, _, _, _, _, _, _, rfl, rfl, ?_⟩
                refine WP.block ?_
                refine WP.seq ?_
                refine WP.regionD' 11 [1, 2, 4] [10] mixed rfl ?_
                refine WPD.take 0 rfl (by kernel_rfl) (q_load sc39 rfl rfl rfl) rfl rfl ?_
                refine WPD.takeT 2 rfl (by kernel_rfl) (q_nilCheck rfl) rfl ?_
                refine WPD.takeT 3 rfl (by kernel_rfl) (q_fieldAddr fi74_0 rfl rfl) rfl ?_
                refine WPD.takeT 7 rfl (by kernel_rfl) (q_nilCheck rfl) rfl ?_
                refine WPD.takeT 8 rfl (by kernel_rfl) (q_fieldAddr fi74_0 rfl rfl) rfl ?_
                refine WPD.take 1 rfl (by kernel_rfl) (q_load sc3 rfl rfl rfl) rfl rfl ?_
                obtain ⟨h7787, H⟩ := grd H
                refine WPD.takeT 4 rfl (by kernel_rfl) (q_indexArr ar72 rfl rfl h7787 rfl) rfl ?_
                refine WPD.take 5 rfl (by kernel_rfl) (q_load_arr (f := (fun z : Int => AVal.lit (.int .i64 z))) (d0 := (0 : Int)) (xs := x7647) (n := 16) (off := 0) (j := (Int.toNat x7417)) sc3 rfl rfl rfl (natlt h7787) (addone _ _)) rfl rfl ?_
                obtain ⟨x7789, h7789, H⟩ := bnd H
                refine WPD.takeT 6 rfl (by kernel_rfl) (q_nm (q_add rfl rfl) (nm_int h7789)) rfl ?_
                obtain ⟨h7789, H⟩ := grd H
                refine WPD.takeT 9 rfl (by kernel_rfl) (q_indexArr ar72 rfl rfl h7789 rfl) rfl ?_
                refine WPD.effS 10 [] [] rfl (by kernel_rfl) (s_store_arr (f := (fun z : Int => AVal.lit (.int .i64 z))) (d0 := (0 : Int)) (xs := x7647) (n := 16) (off := 0) (j := (Int.toNat x7417)) (v := x7789) sz3 rfl rfl rfl rfl rfl (natlt h7789) (addone _ _)) rfl ?_
                refine WPD.doneW (by kernel_rfl) ?_
                refine W.now ?_
                refine Then.n ?_
                refine WP.regionD' 11 [1, 2] [10] mixed rfl ?_
                refine WPD.takeT 5 rfl (by kernel_rfl) (q_mv (v := .lit (.int _ _)) rfl) rfl ?_
                refine WPD.take 0 rfl (by kernel_rfl) (q_load sc39 rfl rfl rfl) rfl rfl ?_
                refine WPD.take 1 rfl (by kernel_rfl) (q_load sc39 rfl rfl rfl) rfl rfl ?_
                refine WPD.takeT 2 rfl (by kernel_rfl) (q_nilCheck rfl) rfl ?_
                refine WPD.takeT 3 rfl (by kernel_rfl) (q_fieldAddr fi74_1 rfl rfl) rfl ?_
                refine WPD.take 4 rfl (by kernel_rfl) (q_load sc22 rfl rfl rfl) rfl rfl ?_
                refine WPD.eff 6 [1, 2] [10] rfl (by kernel_rfl) (Does.runs (d_buildSlice (ds := ([x7646] : List Int)) (R := (Rd.int .i64)) li22 rfl rfl rfl rfl rfl (JoinRows.cons1 Joins.sc rfl JoinRows.nil) rfl rfl)) rfl rfl ?_
                obtain ⟨h7792, H⟩ := grd H
                refine WPD.eff 7 [1, 2] [10] rfl (by kernel_rfl) (Does.runs (d_append ap22 rfl rfl rfl rfl (src_row sl22 rfl rfl) h7792 rfl)) rfl rfl ?_
                refine WPD.takeT 8 rfl (by kernel_rfl) (q_nilCheck rfl) rfl ?_
                refine WPD.takeT 9 rfl (by kernel_rfl) (q_fieldAddr fi74_1 rfl rfl) rfl ?_
                refine WPD.effS 10 [] [] rfl (by kernel_rfl) (s_store sz22 rfl rfl rfl rfl rfl) rfl ?_
                refine WPD.doneW (by kernel_rfl) ?_
                refine W.now ?_
                refine InBlock.n ?_
                refine ⟨rfl, _, _, _, _, _, _, rfl, rfl, _, rfl, ?_⟩
                refine WPL.qg rfl rfl (lb hb7778) (q_not rfl) rfl ?_
                refine WPL.q (q_pickT (v := .lit (.bool _)) (lb hb7778) rfl) rfl ?_
                refine WPL.nilW ?_
                refine W.cv (Cv.weak (E' := (((((((⟨fun _ => .any, [], [⟨aC7573, (((((Env.none.upd 0 (.ro (Rd.slice (Rd.int .i64)) true x6765)).upd 6 (.ptr 1 0)).upd 7 (.ptr 4 0)).upd 25 (.fn 41 [.ptr 5 0, .ptr 0 0]))).v, [6, 7], some (8, l_7573)⟩]⟩ : Env).upd 0 (.lit (.func (.yield l_7573) #[] #[]))).upd 2 (.ptr 0 0)).upd 6 (.ro (Rd.slice (Rd.int .i64)) true x6765)).upd 7 (.lit (.int .i64 ((List.length x6765 : Nat) : Int)))).upd 8 (.lit (.int .i64 x7646))).upd 21 (.lit (.bool (!true))))) (M' := (((((((((Mem.nil.push (.cells 3 [.lit (.int .i64 x7417)])).push (.cells 39 [.ptr 2 0])).push (.cells 74 [.lit (.int .i64 (List.getD (setD (0 : Int) x7647 16 (Int.toNat x7417) x7789) 0 (0 : Int))), .lit (.int .i64 (List.getD (setD (0 : Int) x7647 16 (Int.toNat x7417) x7789) 1 (0 : Int))), .lit (.int .i64 (List.getD (setD (0 : Int) x7647 16 (Int.toNat x7417) x7789) 2 (0 : Int))), .lit (.int .i64 (List.getD (setD (0 : Int) x7647 16 (Int.toNat x7417) x7789) 3 (0 : Int))), .lit (.int .i64 (List.getD (setD (0 : Int) x7647 16 (Int.toNat x7417) x7789) 4 (0 : Int))), .lit (.int .i64 (List.getD (setD (0 : Int) x7647 16 (Int.toNat x7417) x7789) 5 (0 : Int))), .lit (.int .i64 (List.getD (setD (0 : Int) x7647 16 (Int.toNat x7417) x7789) 6 (0 : Int))), .lit (.int .i64 (List.getD (setD (0 : Int) x7647 16 (Int.toNat x7417) x7789) 7 (0 : Int))), .lit (.int .i64 (List.getD (setD (0 : Int) x7647 16 (Int.toNat x7417) x7789) 8 (0 : Int))), .lit (.int .i64 (List.getD (setD (0 : Int) x7647 16 (Int.toNat x7417) x7789) 9 (0 : Int))), .lit (.int .i64 (List.getD (setD (0 : Int) x7647 16 (Int.toNat x7417) x7789) 10 (0 : Int))), .lit (.int .i64 (List.getD (setD (0 : Int) x7647 16 (Int.toNat x7417) x7789) 11 (0 : Int))), .lit (.int .i64 (List.getD (setD (0 : Int) x7647 16 (Int.toNat x7417) x7789) 12 (0 : Int))), .lit (.int .i64 (List.getD (setD (0 : Int) x7647 16 (Int.toNat x7417) x7789) 13 (0 : Int))), .lit (.int .i64 (List.getD (setD (0 : Int) x7647 16 (Int.toNat x7417) x7789) 14 (0 : Int))), .lit (.int .i64 (List.getD (setD (0 : Int) x7647 16 (Int.toNat x7417) x7789) 15 (0 : Int))), .whole 3])).push (.row 3 (Rd.int .i64) (x7648 ++ ([x7646] : List Int)))).push (.cells 3 [.lit (.int .i64 x7417)])).push (.cells 22 [.ro (Rd.slice (Rd.int .i64)) true x6765])).push (.obj (Obj.deferred (some [])))).push (.bag)).push (.obj (lp r_7573 .ready none)))) [0, 1, 2, 10, 4, 5, 6, 7, 8] hnp ⟨rfl, ⟨⟨⟨⟨⟨⟨⟨⟨⟨trivial, .inr ⟨rfl, rfl, rfl⟩⟩, .inr ⟨rfl, rfl, rfl⟩⟩, .inr ⟨rfl, rfl, rfl⟩⟩, .inr ⟨rfl, rfl, rfl⟩⟩, .inr ⟨rfl, rfl, rfl⟩⟩, .inr ⟨rfl, rfl, rfl⟩⟩, .inr ⟨rfl, rfl, rfl⟩⟩, .inr ⟨rfl, rfl, rfl⟩⟩, .inr ⟨rfl, rfl, rfl⟩⟩, by decide, rfl, trivial⟩ (LeE.upd rfl rfl (LeE.upd rfl rfl (LeE.upd rfl rfl (LeE.upd rfl rfl (LeE.upd rfl rfl (LeE.upd rfl rfl (LeE.noneD rfl rfl (.cons ⟨rfl, (LeV.upd rfl rfl (LeV.upd rfl rfl (LeV.upd rfl rfl (LeV.upd rfl rfl LeV.none)))), rfl, rfl, rfl, rfl⟩ .nil))))))))) rfl ?_
                refine W.now ?_
                have q0 := (Prod.mk.inj (Option.some.inj H)).1
                have q1 := (Prod.mk.inj (Prod.mk.inj (Option.some.inj H)).2).1
                have q2 := (Prod.mk.inj (Prod.mk.inj (Option.some.inj H)).2).2
                subst q0
                subst q1
                subst q2
                exact ⟨rfl, rfl, rfl⟩
              · replace H := cnf hb7778 H
                refine WPL.skipg (b' := false) rfl rfl (lb hb7778) rfl rfl ?_
                refine WPL.skipg (b' := false) rfl rfl (lb hb7778) rfl rfl ?_
                refine WPL.skipg (b' := false) rfl rfl (lb hb7778) rfl rfl ?_
                refine WPL.skipg (b' := false) rfl rfl (lb hb7778) rfl rfl ?_
                refine WPL.q (q_pickF (v := .lit (.bool _)) (lb hb7778) rfl) rfl ?_
                refine WPL.nilW ?_
                refine W.cv (Cv.weak (E' := (((((((⟨fun _ => .any, [], [⟨aC7573, (((((Env.none.upd 0 (.ro (Rd.slice (Rd.int .i64)) true x6765)).upd 6 (.ptr 1 0)).upd 7 (.ptr 4 0)).upd 25 (.fn 41 [.ptr 5 0, .ptr 0 0]))).v, [6, 7], some (8, l_7573)⟩]⟩ : Env).upd 0 (.lit (.func (.yield l_7573) #[] #[]))).upd 2 (.ptr 0 0)).upd 6 (.ro (Rd.slice (Rd.int .i64)) true x6765)).upd 7 (.lit (.int .i64 ((List.length x6765 : Nat) : Int)))).upd 8 (.lit (.int .i64 x7646))).upd 21 (.lit (.bool false)))) (M' := (((((((((Mem.nil.push (.cells 3 [.lit (.int .i64 x7417)])).push (.cells 39 [.ptr 2 0])).push (.cells 74 [.lit (.int .i64 (List.getD x7647 0 (0 : Int))), .lit (.int .i64 (List.getD x7647 1 (0 : Int))), .lit (.int .i64 (List.getD x7647 2 (0 : Int))), .lit (.int .i64 (List.getD x7647 3 (0 : Int))), .lit (.int .i64 (List.getD x7647 4 (0 : Int))), .lit (.int .i64 (List.getD x7647 5 (0 : Int))), .lit (.int .i64 (List.getD x7647 6 (0 : Int))), .lit (.int .i64 (List.getD x7647 7 (0 : Int))), .lit (.int .i64 (List.getD x7647 8 (0 : Int))), .lit (.int .i64 (List.getD x7647 9 (0 : Int))), .lit (.int .i64 (List.getD x7647 10 (0 : Int))), .lit (.int .i64 (List.getD x7647 11 (0 : Int))), .lit (.int .i64 (List.getD x7647 12 (0 : Int))), .lit (.int .i64 (List.getD x7647 13 (0 : Int))), .lit (.int .i64 (List.getD x7647 14 (0 : Int))), .lit (.int .i64 (List.getD x7647 15 (0 : Int))), .whole 3])).push (.row 3 (Rd.int .i64) x7648)).push (.cells 3 [.lit (.int .i64 x7417)])).push (.cells 22 [.ro (Rd.slice (Rd.int .i64)) true x6765])).push (.obj (Obj.deferred (some [])))).push (.bag)).push (.obj (lp r_7573 .ready none)))) [0, 1, 2, 3, 4, 5, 6, 7, 8] hnp ⟨rfl, ⟨⟨⟨⟨⟨⟨⟨⟨⟨trivial, .inr ⟨rfl, rfl, rfl⟩⟩, .inr ⟨rfl, rfl, rfl⟩⟩, .inr ⟨rfl, rfl, rfl⟩⟩, .inr ⟨rfl, rfl, rfl⟩⟩, .inr ⟨rfl, rfl, rfl⟩⟩, .inr ⟨rfl, rfl, rfl⟩⟩, .inr ⟨rfl, rfl, rfl⟩⟩, .inr ⟨rfl, rfl, rfl⟩⟩, .inr ⟨rfl, rfl, rfl⟩⟩, by decide, rfl, trivial⟩ (LeE.upd rfl rfl (LeE.upd rfl rfl (LeE.upd rfl rfl (LeE.upd rfl rfl (LeE.upd rfl rfl (LeE.upd rfl rfl (LeE.noneD rfl rfl (.cons ⟨rfl, (LeV.upd rfl rfl (LeV.upd rfl rfl (LeV.upd rfl rfl (LeV.upd rfl rfl LeV.none)))), rfl, rfl, rfl, rfl⟩ .nil))))))))) rfl ?_
                refine W.now ?_
                have q0 := (Prod.mk.inj (Option.some.inj H)).1
                have q1 := (Prod.mk.inj (Prod.mk.inj (Option.some.inj H)).2).1
                have q2 := (Prod.mk.inj (Prod.mk.inj (Option.some.inj H)).2).2
                subst q0
                subst q1
                subst q2
                exact ⟨rfl, rfl, rfl⟩
            · rintro _ _ _ ⟨rfl, rfl, rfl⟩
              refine W.now ?_
              refine Then.n ?_
              refine WP.cond (t := x7776) rfl (fun hb => ?_) (fun hb => ?_)
              · replace H := cnt hb H
                refine WP.retW ?_
                refine W.cv (Cv.weak (E' := (⟨fun _ => .any, [], [⟨aC7573, (((((Env.none.upd 0 (.ro (Rd.slice (Rd.int .i64)) true x6765)).upd 6 (.ptr 0 0)).upd 7 (.ptr 3 0)).upd 25 (.fn 41 [.ptr 4 0, .ptr 5 0]))).v, [6, 7], some (8, l_7573)⟩]⟩ : Env)) (M' := (((((((((Mem.nil.push (.cells 39 [.ptr 1 0])).push (.cells 74 [.lit (.int .i64 (List.getD x7777 0 (0 : Int))), .lit (.int .i64 (List.getD x7777 1 (0 : Int))), .lit (.int .i64 (List.getD x7777 2 (0 : Int))), .lit (.int .i64 (List.getD x7777 3 (0 : Int))), .lit (.int .i64 (List.getD x7777 4 (0 : Int))), .lit (.int .i64 (List.getD x7777 5 (0 : Int))), .lit (.int .i64 (List.getD x7777 6 (0 : Int))), .lit (.int .i64 (List.getD x7777 7 (0 : Int))), .lit (.int .i64 (List.getD x7777 8 (0 : Int))), .lit (.int .i64 (List.getD x7777 9 (0 : Int))), .lit (.int .i64 (List.getD x7777 10 (0 : Int))), .lit (.int .i64 (List.getD x7777 11 (0 : Int))), .lit (.int .i64 (List.getD x7777 12 (0 : Int))), .lit (.int .i64 (List.getD x7777 13 (0 : Int))), .lit (.int .i64 (List.getD x7777 14 (0 : Int))), .lit (.int .i64 (List.getD x7777 15 (0 : Int))), .whole 2])).push (.row 3 (Rd.int .i64) x7778)).push (.cells 3 [.lit (.int .i64 x7417)])).push (.cells 22 [.ro (Rd.slice (Rd.int .i64)) true x6765])).push (.cells 3 [.lit (.int .i64 x7417)])).push (.obj (Obj.deferred (some [])))).push (.bag)).push (.obj (lp r_7573 .ready none)))) [1, 2, 3, 4, 5, 0, 6, 7, 8] hnp ⟨rfl, ⟨⟨⟨⟨⟨⟨⟨⟨⟨trivial, .inr ⟨rfl, rfl, rfl⟩⟩, .inr ⟨rfl, rfl, rfl⟩⟩, .inr ⟨rfl, rfl, rfl⟩⟩, .inr ⟨rfl, rfl, rfl⟩⟩, .inr ⟨rfl, rfl, rfl⟩⟩, .inr ⟨rfl, rfl, rfl⟩⟩, .inr ⟨rfl, rfl, rfl⟩⟩, .inr ⟨rfl, rfl, rfl⟩⟩, .inr ⟨rfl, rfl, rfl⟩⟩, by decide, rfl, trivial⟩ (LeE.noneD rfl rfl (.cons ⟨rfl, (LeV.upd rfl rfl (LeV.upd rfl rfl (LeV.upd rfl rfl (LeV.upd rfl rfl LeV.none)))), rfl, rfl, rfl, rfl⟩ .nil))) rfl ?_
                refine W.now ?_
                refine InBlock.r ?_
                refine Then.r ?_
                refine Then.r ?_
                have q0 := Option.some.inj H
                subst q0
                exact ⟨rfl, rfl, rfl⟩
              · replace H := cnf hb H
                refine WP.skipW ?_
                refine W.now ?_
                refine InBlock.n ?_
                refine Then.n ?_
                refine WP.region ?_
                refine WPL.q (q_add rfl rfl) rfl ?_
                refine WPL.q (q_mv (v := .lit (.int _ _)) rfl) rfl ?_
                refine WPL.nilW ?_
                refine W.cv (Cv.weak (E' := ((((((⟨fun _ => .any, [], [⟨aC7573, (((((Env.none.upd 0 (.ro (Rd.slice (Rd.int .i64)) true x6765)).upd 6 (.ptr 1 0)).upd 7 (.ptr 4 0)).upd 25 (.fn 41 [.ptr 5 0, .ptr 0 0]))).v, [6, 7], some (8, l_7573)⟩]⟩ : Env).upd 0 (.lit (.func (.yield l_7573) #[] #[]))).upd 2 (.ptr 0 0)).upd 6 (.ro (Rd.slice (Rd.int .i64)) true x6765)).upd 7 (.lit (.int .i64 ((List.length x6765 : Nat) : Int)))).upd 8 (.lit (.int .i64 (IntKind.wrap .i64 (x7646 + 1)))))) (M' := (((((((((Mem.nil.push (.cells 3 [.lit (.int .i64 x7417)])).push (.cells 39 [.ptr 2 0])).push (.cells 74 [.lit (.int .i64 (List.getD x7777 0 (0 : Int))), .lit (.int .i64 (List.getD x7777 1 (0 : Int))), .lit (.int .i64 (List.getD x7777 2 (0 : Int))), .lit (.int .i64 (List.getD x7777 3 (0 : Int))), .lit (.int .i64 (List.getD x7777 4 (0 : Int))), .lit (.int .i64 (List.getD x7777 5 (0 : Int))), .lit (.int .i64 (List.getD x7777 6 (0 : Int))), .lit (.int .i64 (List.getD x7777 7 (0 : Int))), .lit (.int .i64 (List.getD x7777 8 (0 : Int))), .lit (.int .i64 (List.getD x7777 9 (0 : Int))), .lit (.int .i64 (List.getD x7777 10 (0 : Int))), .lit (.int .i64 (List.getD x7777 11 (0 : Int))), .lit (.int .i64 (List.getD x7777 12 (0 : Int))), .lit (.int .i64 (List.getD x7777 13 (0 : Int))), .lit (.int .i64 (List.getD x7777 14 (0 : Int))), .lit (.int .i64 (List.getD x7777 15 (0 : Int))), .whole 3])).push (.row 3 (Rd.int .i64) x7778)).push (.cells 3 [.lit (.int .i64 x7417)])).push (.cells 22 [.ro (Rd.slice (Rd.int .i64)) true x6765])).push (.obj (Obj.deferred (some [])))).push (.bag)).push (.obj (lp r_7573 .ready none)))) [0, 1, 2, 3, 4, 5, 6, 7, 8] hnp ⟨rfl, ⟨⟨⟨⟨⟨⟨⟨⟨⟨trivial, .inr ⟨rfl, rfl, rfl⟩⟩, .inr ⟨rfl, rfl, rfl⟩⟩, .inr ⟨rfl, rfl, rfl⟩⟩, .inr ⟨rfl, rfl, rfl⟩⟩, .inr ⟨rfl, rfl, rfl⟩⟩, .inr ⟨rfl, rfl, rfl⟩⟩, .inr ⟨rfl, rfl, rfl⟩⟩, .inr ⟨rfl, rfl, rfl⟩⟩, .inr ⟨rfl, rfl, rfl⟩⟩, by decide, rfl, trivial⟩ (LeE.upd rfl rfl (LeE.upd rfl rfl (LeE.upd rfl rfl (LeE.upd rfl rfl (LeE.upd rfl rfl (LeE.noneD rfl rfl (.cons ⟨rfl, (LeV.upd rfl rfl (LeV.upd rfl rfl (LeV.upd rfl rfl (LeV.upd rfl rfl LeV.none)))), rfl, rfl, rfl, rfl⟩ .nil)))))))) rfl ?_
                refine W.now ?_
                exact Then.n ⟨n, ((IntKind.wrap .i64 (x7646 + 1)), x7777, x7778), Nat.lt_succ_self n, H, rfl, rfl⟩
          · replace H := cnf hb H
            refine WP.exitW ?_
            refine W.cv (Cv.weak (E' := (⟨fun _ => .any, [], [⟨aC7573, (((((Env.none.upd 0 (.ro (Rd.slice (Rd.int .i64)) true x6765)).upd 6 (.ptr 0 0)).upd 7 (.ptr 3 0)).upd 25 (.fn 41 [.ptr 4 0, .ptr 5 0]))).v, [6, 7], some (8, l_7573)⟩]⟩ : Env)) (M' := (((((((((Mem.nil.push (.cells 39 [.ptr 1 0])).push (.cells 74 [.lit (.int .i64 (List.getD x7647 0 (0 : Int))), .lit (.int .i64 (List.getD x7647 1 (0 : Int))), .lit (.int .i64 (List.getD x7647 2 (0 : Int))), .lit (.int .i64 (List.getD x7647 3 (0 : Int))), .lit (.int .i64 (List.getD x7647 4 (0 : Int))), .lit (.int .i64 (List.getD x7647 5 (0 : Int))), .lit (.int .i64 (List.getD x7647 6 (0 : Int))), .lit (.int .i64 (List.getD x7647 7 (0 : Int))), .lit (.int .i64 (List.getD x7647 8 (0 : Int))), .lit (.int .i64 (List.getD x7647 9 (0 : Int))), .lit (.int .i64 (List.getD x7647 10 (0 : Int))), .lit (.int .i64 (List.getD x7647 11 (0 : Int))), .lit (.int .i64 (List.getD x7647 12 (0 : Int))), .lit (.int .i64 (List.getD x7647 13 (0 : Int))), .lit (.int .i64 (List.getD x7647 14 (0 : Int))), .lit (.int .i64 (List.getD x7647 15 (0 : Int))), .whole 2])).push (.row 3 (Rd.int .i64) x7648)).push (.cells 3 [.lit (.int .i64 x7417)])).push (.cells 22 [.ro (Rd.slice (Rd.int .i64)) true x6765])).push (.cells 3 [.lit (.int .i64 x7417)])).push (.obj (Obj.deferred (some [])))).push (.bag)).push (.obj (lp r_7573 .ready none)))) [1, 2, 3, 4, 5, 0, 6, 7, 8] hnp ⟨rfl, ⟨⟨⟨⟨⟨⟨⟨⟨⟨trivial, .inr ⟨rfl, rfl, rfl⟩⟩, .inr ⟨rfl, rfl, rfl⟩⟩, .inr ⟨rfl, rfl, rfl⟩⟩, .inr ⟨rfl, rfl, rfl⟩⟩, .inr ⟨rfl, rfl, rfl⟩⟩, .inr ⟨rfl, rfl, rfl⟩⟩, .inr ⟨rfl, rfl, rfl⟩⟩, .inr ⟨rfl, rfl, rfl⟩⟩, .inr ⟨rfl, rfl, rfl⟩⟩, by decide, rfl, trivial⟩ (LeE.noneD rfl rfl (.cons ⟨rfl, (LeV.upd rfl rfl (LeV.upd rfl rfl (LeV.upd rfl rfl (LeV.upd rfl rfl LeV.none)))), rfl, rfl, rfl, rfl⟩ .nil))) rfl ?_
            refine W.now ?_
            refine Then.x ?_
            refine Then.x ?_
            have q0 := Option.some.inj H
            subst q0
            exact ⟨rfl, rfl, rfl⟩
        · rcases y7796 with ⟨x7720, x7721⟩ | ⟨x7722, x7723⟩
          · rintro _ _ _ ⟨rfl, rfl, rfl⟩
            refine W.now ?_
            refine InBlock.r ?_
            refine ⟨trivial, _, _, _, _, rfl, _, _, rfl, (fun h => by cases h), ?_⟩
            refine W.cv (Cv.absorb (N := 9) (j := 6) (i := 7) rfl rfl rfl rfl) rfl ?_
            refine W.now ?_
            refine InBlock.n ?_
            refine InBlock.n ?_
            refine Then.n ?_
            refine WP.seq ?_
            refine WP.seq ?_
            refine WP.region ?_
            refine WPL.q (q_load sc3 rfl rfl rfl) rfl ?_
            refine WPL.nilW ?_
            refine W.now ?_
            refine Then.n ?_
            refine WP.region ?_
            refine WPL.d (d_alloc ze3 rfl) rfl ?_
            refine WPL.s (s_store sz3 rfl rfl rfl rfl rfl) ?_
            refine WPL.nilW ?_
            refine W.now ?_
            refine Then.n ?_
            refine WP.region ?_
            refine WPL.q (q_load sc3 rfl rfl rfl) rfl ?_
            refine WPL.q (q_add rfl rfl) rfl ?_
            refine WPL.s (s_store sz3 rfl rfl rfl rfl rfl) ?_
            refine WPL.nilW ?_
            refine W.cv (Cv.weak (E' := ((((⟨fun _ => .any, [4], []⟩ : Env).upd 0 (.ro (Rd.slice (Rd.int .i64)) true x6765)).upd 6 (.ptr 0 0)).upd 7 (.ptr 3 0))) (M' := (((((Mem.nil.push (.cells 39 [.ptr 1 0])).push (.cells 74 [.lit (.int .i64 (List.getD x7720 0 (0 : Int))), .lit (.int .i64 (List.getD x7720 1 (0 : Int))), .lit (.int .i64 (List.getD x7720 2 (0 : Int))), .lit (.int .i64 (List.getD x7720 3 (0 : Int))), .lit (.int .i64 (List.getD x7720 4 (0 : Int))), .lit (.int .i64 (List.getD x7720 5 (0 : Int))), .lit (.int .i64 (List.getD x7720 6 (0 : Int))), .lit (.int .i64 (List.getD x7720 7 (0 : Int))), .lit (.int .i64 (List.getD x7720 8 (0 : Int))), .lit (.int .i64 (List.getD x7720 9 (0 : Int))), .lit (.int .i64 (List.getD x7720 10 (0 : Int))), .lit (.int .i64 (List.getD x7720 11 (0 : Int))), .lit (.int .i64 (List.getD x7720 12 (0 : Int))), .lit (.int .i64 (List.getD x7720 13 (0 : Int))), .lit (.int .i64 (List.getD x7720 14 (0 : Int))), .lit (.int .i64 (List.getD x7720 15 (0 : Int))), .whole 2])).push (.row 3 (Rd.int .i64) x7721)).push (.cells 3 [.lit (.int .i64 (IntKind.wrap .i64 (x7417 + 1)))])).push (.bag))) [0, 1, 2, 10, 9] hnp ⟨rfl, ⟨⟨⟨⟨⟨trivial, .inr ⟨rfl, rfl, rfl⟩⟩, .inr ⟨rfl, rfl, rfl⟩⟩, .inr ⟨rfl, rfl, rfl⟩⟩, .inr ⟨rfl, rfl, rfl⟩⟩, .inr ⟨rfl, rfl, rfl⟩⟩, by decide, rfl, trivial⟩ (LeE.upd rfl rfl (LeE.upd rfl rfl (LeE.upd rfl rfl (LeE.noneD rfl rfl .nil))))) rfl ?_
            refine W.now ?_
            exact Then.n ⟨n, (x7720, x7721, (IntKind.wrap .i64 (x7417 + 1))), Nat.lt_succ_self n, H, rfl, rfl⟩
          · rintro _ _ _ ⟨rfl, rfl, rfl⟩
            refine W.now ?_
            refine InBlock.x0 ?_
            refine ⟨trivial, _, _, _, _, rfl, _, _, rfl, (fun h => by cases h), ?_⟩
            refine W.cv (Cv.absorb (N := 9) (j := 6) (i := 7) rfl rfl rfl rfl) rfl ?_
            refine W.now ?_
            refine InBlock.n ?_
            refine InBlock.n ?_
            refine Then.n ?_
            refine WP.seq ?_
            refine WP.seq ?_
            refine WP.region ?_
            refine WPL.q (q_load sc3 rfl rfl rfl) rfl ?_
            refine WPL.nilW ?_
            refine W.now ?_
            refine Then.n ?_
            refine WP.region ?_
            refine WPL.d (d_alloc ze3 rfl) rfl ?_
            refine WPL.s (s_store sz3 rfl rfl rfl rfl rfl) ?_
            refine WPL.nilW ?_
            refine W.now ?_
            refine Then.n ?_
            refine WP.region ?_
            refine WPL.q (q_load sc3 rfl rfl rfl) rfl ?_
            refine WPL.q (q_add rfl rfl) rfl ?_
            refine WPL.s (s_store sz3 rfl rfl rfl rfl rfl) ?_
            refine WPL.nilW ?_
            refine W.cv (Cv.weak (E' := ((((⟨fun _ => .any, [4], []⟩ : Env).upd 0 (.ro (Rd.slice (Rd.int .i64)) true x6765)).upd 6 (.ptr 0 0)).upd 7 (.ptr 3 0))) (M' := (((((Mem.nil.push (.cells 39 [.ptr 1 0])).push (.cells 74 [.lit (.int .i64 (List.getD x7722 0 (0 : Int))), .lit (.int .i64 (List.getD x7722 1 (0 : Int))), .lit (.int .i64 (List.getD x7722 2 (0 : Int))), .lit (.int .i64 (List.getD x7722 3 (0 : Int))), .lit (.int .i64 (List.getD x7722 4 (0 : Int))), .lit (.int .i64 (List.getD x7722 5 (0 : Int))), .lit (.int .i64 (List.getD x7722 6 (0 : Int))), .lit (.int .i64 (List.getD x7722 7 (0 : Int))), .lit (.int .i64 (List.getD x7722 8 (0 : Int))), .lit (.int .i64 (List.getD x7722 9 (0 : Int))), .lit (.int .i64 (List.getD x7722 10 (0 : Int))), .lit (.int .i64 (List.getD x7722 11 (0 : Int))), .lit (.int .i64 (List.getD x7722 12 (0 : Int))), .lit (.int .i64 (List.getD x7722 13 (0 : Int))), .lit (.int .i64 (List.getD x7722 14 (0 : Int))), .lit (.int .i64 (List.getD x7722 15 (0 : Int))), .whole 2])).push (.row 3 (Rd.int .i64) x7723)).push (.cells 3 [.lit (.int .i64 (IntKind.wrap .i64 (x7417 + 1)))])).push (.bag))) [0, 1, 2, 10, 9] hnp ⟨rfl, ⟨⟨⟨⟨⟨trivial, .inr ⟨rfl, rfl, rfl⟩⟩, .inr ⟨rfl, rfl, rfl⟩⟩, .inr ⟨rfl, rfl, rfl⟩⟩, .inr ⟨rfl, rfl, rfl⟩⟩, .inr ⟨rfl, rfl, rfl⟩⟩, by decide, rfl, trivial⟩ (LeE.upd rfl rfl (LeE.upd rfl rfl (LeE.upd rfl rfl (LeE.noneD rfl rfl .nil))))) rfl ?_
            refine W.now ?_
            exact Then.n ⟨n, (x7722, x7723, (IntKind.wrap .i64 (x7417 + 1))), Nat.lt_succ_self n, H, rfl, rfl⟩
      · replace H := cnf hb H
        refine WP.exitW ?_
        refine W.cv (Cv.weak (E' := ((⟨fun _ => .any, [3], []⟩ : Env).upd 6 (.ptr 0 0))) (M' := ((((Mem.nil.push (.cells 39 [.ptr 1 0])).push (.cells 74 [.lit (.int .i64 (List.getD x7415 0 (0 : Int))), .lit (.int .i64 (List.getD x7415 1 (0 : Int))), .lit (.int .i64 (List.getD x7415 2 (0 : Int))), .lit (.int .i64 (List.getD x7415 3 (0 : Int))), .lit (.int .i64 (List.getD x7415 4 (0 : Int))), .lit (.int .i64 (List.getD x7415 5 (0 : Int))), .lit (.int .i64 (List.getD x7415 6 (0 : Int))), .lit (.int .i64 (List.getD x7415 7 (0 : Int))), .lit (.int .i64 (List.getD x7415 8 (0 : Int))), .lit (.int .i64 (List.getD x7415 9 (0 : Int))), .lit (.int .i64 (List.getD x7415 10 (0 : Int))), .lit (.int .i64 (List.getD x7415 11 (0 : Int))), .lit (.int .i64 (List.getD x7415 12 (0 : Int))), .lit (.int .i64 (List.getD x7415 13 (0 : Int))), .lit (.int .i64 (List.getD x7415 14 (0 : Int))), .lit (.int .i64 (List.getD x7415 15 (0 : Int))), .whole 2])).push (.row 3 (Rd.int .i64) x7416)).push (.bag))) [0, 1, 2, 4] hnp ⟨rfl, ⟨⟨⟨⟨trivial, .inr ⟨rfl, rfl, rfl⟩⟩, .inr ⟨rfl, rfl, rfl⟩⟩, .inr ⟨rfl, rfl, rfl⟩⟩, .inr ⟨rfl, rfl, rfl⟩⟩, by decide, rfl, trivial⟩ (LeE.upd rfl rfl (LeE.noneD rfl rfl .nil))) rfl ?_
        refine W.now ?_
        refine Then.x ?_
        refine Then.x ?_
        have q0 := (Prod.mk.inj (Option.some.inj H)).1
        have q1 := (Prod.mk.inj (Option.some.inj H)).2
        subst q0
        subst q1
        exact ⟨rfl, rfl, rfl⟩
    · rintro _ _ _ ⟨rfl, rfl, rfl⟩
      refine W.now ?_
      refine InBlock.x0 ?_
      refine Then.n ?_
      refine WP.seq ?_
      refine WP.region ?_
      refine WPL.q (q_load sc39 rfl rfl rfl) rfl ?_
      refine WPL.q (q_as (v := .ptr _ _) rfl) rfl ?_
      refine WPL.q (q_as (v := .lit (.int _ _)) rfl) rfl ?_
      refine WPL.nilW ?_
      refine W.now ?_
      refine Then.n ?_
      refine WP.retW ?_
      refine W.now ?_
      have q0 := Option.some.inj H
      subst q0
      exact ⟨⟨.inr rfl, trivial⟩, _, rfl, [1, 2], (.tup [.ptr 0 0, .lit (.int .i64 0)]), ((Mem.nil.push (.cells 74 [.lit (.int .i64 (List.getD x7571 0 (0 : Int))), .lit (.int .i64 (List.getD x7571 1 (0 : Int))), .lit (.int .i64 (List.getD x7571 2 (0 : Int))), .lit (.int .i64 (List.getD x7571 3 (0 : Int))), .lit (.int .i64 (List.getD x7571 4 (0 : Int))), .lit (.int .i64 (List.getD x7571 5 (0 : Int))), .lit (.int .i64 (List.getD x7571 6 (0 : Int))), .lit (.int .i64 (List.getD x7571 7 (0 : Int))), .lit (.int .i64 (List.getD x7571 8 (0 : Int))), .lit (.int .i64 (List.getD x7571 9 (0 : Int))), .lit (.int .i64 (List.getD x7571 10 (0 : Int))), .lit (.int .i64 (List.getD x7571 11 (0 : Int))), .lit (.int .i64 (List.getD x7571 12 (0 : Int))), .lit (.int .i64 (List.getD x7571 13 (0 : Int))), .lit (.int .i64 (List.getD x7571 14 (0 : Int))), .lit (.int .i64 (List.getD x7571 15 (0 : Int))), .whole 1])).push (.row 3 (Rd.int .i64) x7572)), ⟨rfl, ⟨⟨trivial, .inr ⟨rfl, rfl, rfl⟩⟩, .inr ⟨rfl, rfl, rfl⟩⟩, by decide, rfl, trivial⟩, rfl, rfl, rfl, rfl⟩
set_option maxRecDepth 100000 in
set_option maxHeartbeats 4000000 in
theorem s21b (k : Nat) (H : f21b k = some ()) : Go.Q.Spec Try.prog 21 0 [.lit (.pointer none), .lit (.pointer none)] Mem.nil (fun o M => o = .ret (.tup [.lit (.int .i64 0), .lit (.int .i64 2)]) ∧ M = Mem.nil) := by
  unfold f21b at H
  refine Go.Q.Spec.of_bodyR (rs := [.tmp 4, .tmp 5]) (nt := 98) Try.func21 rfl rfl (by intro t T h; simp at h) rfl rfl fun cx hnp => ?_
  refine WP.seq ?_
  refine WP.region ?_
  refine WPL.q (q_as (v := .lit (.int _ _)) rfl) rfl ?_
  refine WPL.q (q_as (v := .lit (.int _ _)) rfl) rfl ?_
  refine WPL.nilW ?_
  refine W.now ?_
  refine Then.n ?_
  refine WP.scope ?_
  refine WP.seq ?_
  refine WP.seq ?_
  refine WP.region ?_
  refine WPL.q (q_mv (v := .lit _) rfl) rfl ?_
  refine WPL.q (q_eqlp_nil Try.underlying39 rfl) rfl ?_
  refine WPL.q (q_mv (v := .lit (.bool _)) rfl) rfl ?_
  refine WPL.skipg (b' := true) rfl rfl rfl rfl rfl ?_
  refine WPL.skipg (b' := true) rfl rfl rfl rfl rfl ?_
  refine WPL.q (q_pickT (v := .lit (.bool _)) rfl rfl) rfl ?_
  refine WPL.nilW ?_
  refine W.now ?_
  refine Then.n ?_
  refine WP.condT rfl ?_
  refine WP.seq ?_
  refine WP.region ?_
  refine WPL.q (q_as (v := .lit (.int _ _)) rfl) rfl ?_
  refine WPL.q (q_as (v := .lit (.int _ _)) rfl) rfl ?_
  refine WPL.nilW ?_
  refine W.now ?_
  refine Then.n ?_
  refine WP.retW ?_
  refine W.now ?_
  refine Then.r ?_
  refine Scope.r ?_
  exact ⟨trivial, _, rfl, [], (.tup [.lit (.int .i64 0), .lit (.int .i64 2)]), Mem.nil, ⟨rfl, trivial, by decide, rfl, trivial⟩, rfl, rfl, rfl, rfl⟩
set_option maxRecDepth 100000 in
set_option maxHeartbeats 4000000 in
theorem s21c (k : Nat) (x7809 : (List Int)) (x7810 : (List Int)) (H : f21c k x7809 x7810 = some ()) : Go.Q.Spec Try.prog 21 1 [.ptr 0 0, .lit (.pointer none)] ((Mem.nil.push (.cells 74 [.lit (.int .i64 (List.getD x7809 0 (0 : Int))), .lit (.int .i64 (List.getD x7809 1 (0 : Int))), .lit (.int .i64 (List.getD x7809 2 (0 : Int))), .lit (.int .i64 (List.getD x7809 3 (0 : Int))), .lit (.int .i64 (List.getD x7809 4 (0 : Int))), .lit (.int .i64 (List.getD x7809 5 (0 : Int))), .lit (.int .i64 (List.getD x7809 6 (0 : Int))), .lit (.int .i64 (List.getD x7809 7 (0 : Int))), .lit (.int .i64 (List.getD x7809 8 (0 : Int))), .lit (.int .i64 (List.getD x7809 9 (0 : Int))), .lit (.int .i64 (List.getD x7809 10 (0 : Int))), .lit (.int .i64 (List.getD x7809 11 (0 : Int))), .lit (.int .i64 (List.getD x7809 12 (0 : Int))), .lit (.int .i64 (List.getD x7809 13 (0 : Int))), .lit (.int .i64 (List.getD x7809 14 (0 : Int))), .lit (.int .i64 (List.getD x7809 15 (0 : Int))), .whole 1])).push (.row 3 (Rd.int .i64) x7810)) (fun o M => o = .ret (.tup [.lit (.int .i64 0), .lit (.int .i64 2)]) ∧ M = ((Mem.nil.push (.cells 74 [.lit (.int .i64 (List.getD x7809 0 (0 : Int))), .lit (.int .i64 (List.getD x7809 1 (0 : Int))), .lit (.int .i64 (List.getD x7809 2 (0 : Int))), .lit (.int .i64 (List.getD x7809 3 (0 : Int))), .lit (.int .i64 (List.getD x7809 4 (0 : Int))), .lit (.int .i64 (List.getD x7809 5 (0 : Int))), .lit (.int .i64 (List.getD x7809 6 (0 : Int))), .lit (.int .i64 (List.getD x7809 7 (0 : Int))), .lit (.int .i64 (List.getD x7809 8 (0 : Int))), .lit (.int .i64 (List.getD x7809 9 (0 : Int))), .lit (.int .i64 (List.getD x7809 10 (0 : Int))), .lit (.int .i64 (List.getD x7809 11 (0 : Int))), .lit (.int .i64 (List.getD x7809 12 (0 : Int))), .lit (.int .i64 (List.getD x7809 13 (0 : Int))), .lit (.int .i64 (List.getD x7809 14 (0 : Int))), .lit (.int .i64 (List.getD x7809 15 (0 : Int))), .whole 1])).push (.row 3 (Rd.int .i64) x7810))) := by
  unfold f21c at H
  refine Go.Q.Spec.of_bodyR (rs := [.tmp 4, .tmp 5]) (nt := 98) Try.func21 rfl rfl (by intro t T h; simp at h) rfl rfl fun cx hnp => ?_
  refine WP.seq ?_
  refine WP.region ?_
  refine WPL.q (q_as (v := .lit (.int _ _)) rfl) rfl ?_
  refine WPL.q (q_as (v := .lit (.int _ _)) rfl) rfl ?_
  refine WPL.nilW ?_
  refine W.now ?_
  refine Then.n ?_
  refine WP.scope ?_
  refine WP.seq ?_
  refine WP.seq ?_
  refine WP.region ?_
  refine WPL.q (q_mv (v := .ptr _ _) rfl) rfl ?_
  refine WPL.q (q_eqlp Try.underlying39 rfl) rfl ?_
  refine WPL.q (q_mv (v := .lit (.bool _)) rfl) rfl ?_
  refine WPL.qg rfl rfl rfl (q_mv (v := .lit _) rfl) rfl ?_
  refine WPL.qg rfl rfl rfl (q_eqlp_nil Try.underlying42 rfl) rfl ?_
  refine WPL.q (q_pickF (v := .lit (.bool _)) rfl rfl) rfl ?_
  refine WPL.nilW ?_
  refine W.now ?_
  refine Then.n ?_
  refine WP.condT rfl ?_
  refine WP.seq ?_
  refine WP.region ?_
  refine WPL.q (q_as (v := .lit (.int _ _)) rfl) rfl ?_
  refine WPL.q (q_as (v := .lit (.int _ _)) rfl) rfl ?_
  refine WPL.nilW ?_
  refine W.now ?_
  refine Then.n ?_
  refine WP.retW ?_
  refine W.now ?_
  refine Then.r ?_
  refine Scope.r ?_
  exact ⟨trivial, _, rfl, [0, 1], (.tup [.lit (.int .i64 0), .lit (.int .i64 2)]), ((Mem.nil.push (.cells 74 [.lit (.int .i64 (List.getD x7809 0 (0 : Int))), .lit (.int .i64 (List.getD x7809 1 (0 : Int))), .lit (.int .i64 (List.getD x7809 2 (0 : Int))), .lit (.int .i64 (List.getD x7809 3 (0 : Int))), .lit (.int .i64 (List.getD x7809 4 (0 : Int))), .lit (.int .i64 (List.getD x7809 5 (0 : Int))), .lit (.int .i64 (List.getD x7809 6 (0 : Int))), .lit (.int .i64 (List.getD x7809 7 (0 : Int))), .lit (.int .i64 (List.getD x7809 8 (0 : Int))), .lit (.int .i64 (List.getD x7809 9 (0 : Int))), .lit (.int .i64 (List.getD x7809 10 (0 : Int))), .lit (.int .i64 (List.getD x7809 11 (0 : Int))), .lit (.int .i64 (List.getD x7809 12 (0 : Int))), .lit (.int .i64 (List.getD x7809 13 (0 : Int))), .lit (.int .i64 (List.getD x7809 14 (0 : Int))), .lit (.int .i64 (List.getD x7809 15 (0 : Int))), .whole 1])).push (.row 3 (Rd.int .i64) x7810)), ⟨rfl, ⟨⟨trivial, .inr ⟨rfl, rfl, rfl⟩⟩, .inr ⟨rfl, rfl, rfl⟩⟩, by decide, rfl, ⟨trivial, rfl⟩⟩, rfl, rfl, rfl, rfl⟩
set_option maxRecDepth 100000 in
set_option maxHeartbeats 4000000 in
theorem s8 (k : Nat) (x6748 : (List Int)) (x7817 : Bool) (H : f8 k x6748 = some x7817) : Go.Q.Spec Try.prog 8 0 [.ro (Rd.slice (Rd.int .u8)) false x6748] Mem.nil (fun o M => o = .ret (.lit (.bool x7817)) ∧ M = Mem.nil) := by
  unfold f8 at H
  refine Go.Q.Spec.of_bodyR (rs := [.tmp 2]) (nt := 36) Try.func8 rfl rfl (by intro t T h; simp at h) rfl rfl fun cx hnp => ?_
  refine WP.seq ?_
  refine WP.region ?_
  refine WPL.q (q_as (v := .lit (.bool _)) rfl) rfl ?_
  refine WPL.nilW ?_
  refine W.now ?_
  refine Then.n ?_
  refine WP.seq ?_
  refine WP.region ?_
  refine WPL.q (q_as (v := .lit _) rfl) rfl ?_
  refine WPL.nilW ?_
  refine W.now ?_
  refine Then.n ?_
  refine WP.seq ?_
  refine WP.region ?_
  refine WPL.q (q_mv (v := .lit _) rfl) rfl ?_
  refine WPL.q (q_mv (v := .ro _ _ _) rfl) rfl ?_
  obtain ⟨x7819, h7817, H⟩ := bnd H
  refine WPL.c (runs_call (s := []) (t := [0]) (N := 1) (bor := []) fn20 rfl (s20 k x6748 x7819 h7817) ⟨rfl, trivial, by decide, rfl, trivial⟩ rfl trivial (.ren rfl rfl .nil) rfl ⟨trivial, rfl⟩ rfl) rfl ?_
  obtain ⟨_, h7819, H⟩ := bnd H
  refine WPL.c (runs_call (s := [0]) (t := [0]) (N := 1) (bor := []) fn21 rfl (s21 k x7819 0 h7819) ⟨rfl, ⟨trivial, .inr ⟨rfl, rfl, rfl⟩⟩, by decide, rfl, trivial⟩ rfl trivial (.ren rfl rfl (.ren rfl rfl .nil)) rfl ⟨trivial, rfl⟩ rfl) rfl ?_
  refine WPL.q (q_mv (v := .tup _) rfl) rfl ?_
  refine WPL.q (q_extract rfl rfl) rfl ?_
  refine WPL.q (q_extract rfl rfl) rfl ?_
  refine WPL.q (q_as (v := .lit (.int _ _)) rfl) rfl ?_
  refine WPL.q (q_as (v := .lit (.int _ _)) rfl) rfl ?_
  refine WPL.nilW ?_
  refine W.now ?_
  refine Then.n ?_
  refine WP.seq ?_
  refine WP.region ?_
  refine WPL.d (d_buildSlice (ds := ([1, 1] : List Int)) (R := (Rd.int .i64)) li22 rfl rfl rfl rfl rfl (JoinRows.cons1 Joins.sc rfl (JoinRows.cons1 Joins.sc rfl JoinRows.nil)) rfl rfl) rfl ?_
  obtain ⟨y7825, h7820, H⟩ := bnd H
  rcases y7825 with x7822 | ⟨x7823, x7824⟩
  · refine WPL.c (runs_call (s := []) (t := []) (N := 2) (bor := [1]) fn19 rfl (s19 k ([1, 1] : List Int) (Sum.inl x7822) h7820) ⟨rfl, trivial, by decide, rfl, trivial⟩ rfl ⟨trivial, rfl, rfl, trivial⟩ (.row rfl rfl .nil) rfl trivial rfl) rfl ?_
    refine WPL.q (q_mv (v := .tup _) rfl) rfl ?_
    refine WPL.q (q_extract rfl rfl) rfl ?_
    refine WPL.q (q_extract rfl rfl) rfl ?_
    refine WPL.q (q_as (v := .lit _) rfl) rfl ?_
    refine WPL.q (q_as (v := .lit (.int _ _)) rfl) rfl ?_
    refine WPL.nilW ?_
    refine W.now ?_
    refine Then.n ?_
    refine WP.seq ?_
    refine WP.region ?_
    refine WPL.q (q_mv (v := .lit _) rfl) rfl ?_
    obtain ⟨_, h7825, H⟩ := bnd H
    refine WPL.c (runs_call (s := []) (t := []) (N := 2) (bor := []) fn21 rfl (s21b k h7825) ⟨rfl, trivial, by decide, rfl, trivial⟩ rfl trivial (.ren rfl rfl (.ren rfl rfl .nil)) rfl trivial rfl) rfl ?_
    refine WPL.q (q_mv (v := .tup _) rfl) rfl ?_
    refine WPL.q (q_extract rfl rfl) rfl ?_
    refine WPL.q (q_extract rfl rfl) rfl ?_
    refine WPL.q (q_as (v := .lit (.int _ _)) rfl) rfl ?_
    refine WPL.q (q_as (v := .lit (.int _ _)) rfl) rfl ?_
    refine WPL.nilW ?_
    refine W.now ?_
    refine Then.n ?_
    refine WP.seq ?_
    refine WP.region ?_
    refine WPL.q (q_mv (v := .lit (.int _ _)) rfl) rfl ?_
    refine WPL.q (q_eql rfl rfl) rfl ?_
    refine WPL.q (q_mv (v := .lit (.bool _)) rfl) rfl ?_
    refine WPL.qg rfl rfl rfl (q_mv (v := .lit (.int _ _)) rfl) rfl ?_
    refine WPL.qg rfl rfl rfl (q_eql rfl rfl) rfl ?_
    refine WPL.q (q_pickT (v := .lit (.bool _)) rfl rfl) rfl ?_
    refine WPL.q (q_mv (v := .lit (.bool _)) rfl) rfl ?_
    obtain ⟨x7830, h7828, H⟩ := bnd H
    refine WPL.cg rfl rfl rfl (runs_call (s := []) (t := []) (N := 2) (bor := []) fn10 rfl (s10 k x7830 h7828) ⟨rfl, trivial, by decide, rfl, trivial⟩ rfl trivial .nil rfl trivial rfl) rfl ?_
    refine WPL.q (q_pickT (v := .lit (.bool _)) rfl rfl) rfl ?_
    refine WPL.q (q_as (v := .lit (.bool _)) rfl) rfl ?_
    refine WPL.nilW ?_
    refine W.now ?_
    refine Then.n ?_
    refine WP.retW ?_
    refine W.now ?_
    have q0 := (Option.some.inj H)
    subst q0
    exact ⟨trivial, _, rfl, [], (.lit (.bool x7830)), Mem.nil, ⟨rfl, trivial, by decide, rfl, trivial⟩, rfl, rfl, rfl, rfl⟩
  · refine WPL.c (runs_call (s := []) (t := [2, 3]) (N := 4) (bor := [1]) fn19 rfl (s19 k ([1, 1] : List Int) (Sum.inr (x7823, x7824)) h7820) ⟨rfl, trivial, by decide, rfl, trivial⟩ rfl ⟨trivial, rfl, rfl, trivial⟩ (.row rfl rfl .nil) rfl ⟨⟨trivial, rfl⟩, rfl⟩ rfl) rfl ?_
    refine WPL.q (q_mv (v := .tup _) rfl) rfl ?_
    refine WPL.q (q_extract rfl rfl) rfl ?_
    refine WPL.q (q_extract rfl rfl) rfl ?_
    refine WPL.q (q_as (v := .ptr _ _) rfl) rfl ?_
    refine WPL.q (q_as (v := .lit (.int _ _)) rfl) rfl ?_
    refine WPL.nilW ?_
    refine W.now ?_
    refine Then.n ?_
    refine WP.seq ?_
    refine WP.region ?_
    refine WPL.q (q_mv (v := .ptr _ _) rfl) rfl ?_
    obtain ⟨_, h7830, H⟩ := bnd H
    refine WPL.c (runs_call (s := [2, 3]) (t := [2, 4]) (N := 5) (bor := []) fn21 rfl (s21c k x7823 x7824 h7830) ⟨rfl, ⟨⟨trivial, .inr ⟨rfl, rfl, rfl⟩⟩, .inr ⟨rfl, rfl, rfl⟩⟩, by decide, rfl, trivial⟩ rfl trivial (.ren rfl rfl (.ren rfl rfl .nil)) rfl ⟨⟨trivial, rfl⟩, rfl⟩ rfl) rfl ?_
    refine WPL.q (q_mv (v := .tup _) rfl) rfl ?_
    refine WPL.q (q_extract rfl rfl) rfl ?_
    refine WPL.q (q_extract rfl rfl) rfl ?_
    refine WPL.q (q_as (v := .lit (.int _ _)) rfl) rfl ?_
    refine WPL.q (q_as (v := .lit (.int _ _)) rfl) rfl ?_
    refine WPL.nilW ?_
    refine W.now ?_
    refine Then.n ?_
    refine WP.seq ?_
    refine WP.region ?_
    refine WPL.q (q_mv (v := .lit (.int _ _)) rfl) rfl ?_
    refine WPL.q (q_eql rfl rfl) rfl ?_
    refine WPL.q (q_mv (v := .lit (.bool _)) rfl) rfl ?_
    refine WPL.qg rfl rfl rfl (q_mv (v := .lit (.int _ _)) rfl) rfl ?_
    refine WPL.qg rfl rfl rfl (q_eql rfl rfl) rfl ?_
    refine WPL.q (q_pickT (v := .lit (.bool _)) rfl rfl) rfl ?_
    refine WPL.q (q_mv (v := .lit (.bool _)) rfl) rfl ?_
    obtain ⟨x7835, h7833, H⟩ := bnd H
    refine WPL.cg rfl rfl rfl (runs_call (s := []) (t := []) (N := 5) (bor := []) fn10 rfl (s10 k x7835 h7833) ⟨rfl, trivial, by decide, rfl, trivial⟩ rfl trivial .nil rfl trivial rfl) rfl ?_
    refine WPL.q (q_pickT (v := .lit (.bool _)) rfl rfl) rfl ?_
    refine WPL.q (q_as (v := .lit (.bool _)) rfl) rfl ?_
    refine WPL.nilW ?_
    refine W.now ?_
    refine Then.n ?_
    refine WP.retW ?_
    refine W.now ?_
    have q0 := (Option.some.inj H)
    subst q0
    exact ⟨trivial, _, rfl, [], (.lit (.bool x7835)), Mem.nil, ⟨rfl, trivial, by decide, rfl, trivial⟩, rfl, rfl, rfl, rfl⟩
end Go.Proofs.Ythgbompoldmhmaa.W
