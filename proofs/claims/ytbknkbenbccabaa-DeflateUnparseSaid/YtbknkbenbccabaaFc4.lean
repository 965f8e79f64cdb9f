/- Walks: Fc4 -/
import Derived.Test.YtbknkbenbccabaaFb
namespace Go.Proofs.Ytbknkbenbccabaa.W
open Go Go.Q Go.Proofs
set_option linter.unusedVariables false
set_option linter.unusedSimpArgs false
set_option maxRecDepth 100000 in
set_option maxHeartbeats 4000000 in
theorem s_deflate_Unparse (k : Nat) (x4263 : (List S_deflate_Item)) (x4500 : (List Int)) (x4501 : Bool) (H : g_deflate_Unparse k x4263 = some (x4500, x4501)) : Go.Q.Spec Try.prog 19 0 [.ro (Rd.slice rdS_deflate_Item) true x4263] Mem.nil (fun o M => o = .ret (.tup [.ro (Rd.slice (Rd.int .u8)) false x4500, .lit (.bool x4501)]) ∧ M = Mem.nil) := by
  unfold g_deflate_Unparse at H
  refine Go.Q.Spec.of_bodyR (rs := [.tmp 2, .tmp 3]) (nt := 96) Try.func19 rfl rfl (by intro t T h; simp at h) rfl rfl fun cx hnp => ?_
  refine WP.seq ?_
  refine WP.region ?_
  refine WPL.q (q_as (v := .lit _) rfl) rfl ?_
  refine WPL.q (q_as (v := .lit (.bool _)) rfl) rfl ?_
  refine WPL.nilW ?_
  refine W.now ?_
  refine Then.n ?_
  refine WP.seq ?_
  refine WP.region ?_
  refine WPL.q (q_as (v := .lit _) rfl) rfl ?_
  refine WPL.nilW ?_
  refine W.now ?_
  refine Then.n ?_
  refine WP.seq ?_
  refine WP.seq ?_
  refine WP.region ?_
  refine WPL.q (q_mv (v := .ro _ _ _) rfl) rfl ?_
  refine WPL.q (q_len_ro sl38 rfl) rfl ?_
  refine WPL.q (q_mv (v := .lit (.int _ _)) rfl) rfl ?_
  refine WPL.nilW ?_
  refine W.now ?_
  refine Then.n ?_
  refine WP.block ?_
  refine WP.cv (Cv.vir 5 (Rd.int .u8) (N := 0) rfl 4 rfl) ?_
  refine WP.cv (Cv.weak (E' := ((((Env.none.upd 4 (.whole 0)).upd 7 (.ro (Rd.slice rdS_deflate_Item) true x4263)).upd 8 (.lit (.int .i64 ((List.length x4263 : Nat) : Int)))).upd 9 (.lit (.int .i64 0)))) (M' := (Mem.nil.push (.row 5 (Rd.int .u8) ([] : List Int)))) [0] hnp ⟨rfl, ⟨trivial, .inr ⟨rfl, rfl, rfl⟩⟩, by decide, rfl, trivial⟩ (LeE.upd rfl rfl (LeE.upd rfl rfl (LeE.upd rfl rfl (LeE.upd rfl rfl (LeE.none rfl rfl)))))) ?_
  obtain ⟨y4823, H4821, H⟩ := bnd H
  refine WP.monoW (Q := fun x E M => match (generalizing := false) y4823 with | (Sum.inl _) => x = .ret ∧ E = ((Env.none.upd 2 (.lit (.slice none 0 0))).upd 3 (.lit (.bool false))) ∧ M = Mem.nil | (Sum.inr x4734) => x = .exit 0 ∧ E = (Env.none.upd 4 (.whole 0)) ∧ M = (Mem.nil.push (.row 5 (Rd.int .u8) x4734))) ?_ ?_
  · refine WP.loop (β := Int × (List Int)) (fun n b => g_deflate_Unparse_l0 k x4263 n b.1 b.2 = some y4823) (fun b => ((((Env.none.upd 4 (.whole 0)).upd 7 (.ro (Rd.slice rdS_deflate_Item) true x4263)).upd 8 (.lit (.int .i64 ((List.length x4263 : Nat) : Int)))).upd 9 (.lit (.int .i64 b.1)))) (fun b => (Mem.nil.push (.row 5 (Rd.int .u8) b.2))) k (0, ([] : List Int)) H4821 rfl rfl ?_
    rintro n ⟨x4648, x4649⟩ H
    obtain _ | n := n
    · exact nf rfl H
    rw [g_deflate_Unparse_l0.eq_2] at H
    show WP _ _ _ _ ((((Env.none.upd 4 (.whole 0)).upd 7 (.ro (Rd.slice rdS_deflate_Item) true x4263)).upd 8 (.lit (.int .i64 ((List.length x4263 : Nat) : Int)))).upd 9 (.lit (.int .i64 x4648))) (Mem.nil.push (.row 5 (Rd.int .u8) x4649)) _
    refine WP.seq ?_
    refine WP.region ?_
    obtain ⟨x4735, h4735, H⟩ := bnd H
    refine WPL.q (q_nm (q_lss rfl rfl) (nm_bool h4735)) rfl ?_
    refine WPL.nilW ?_
    refine W.now ?_
    refine Then.n ?_
    refine WP.seq ?_
    refine WP.cond (t := x4735) rfl (fun hb => ?_) (fun hb => ?_)
    · replace H := cnt hb H
      refine WP.skipW ?_
      refine W.now ?_
      refine Then.n ?_
      refine WP.seq ?_
      obtain ⟨y4821, H4819, H⟩ := bnd H
      refine WP.monoW (Q := fun x E M => match (generalizing := false) y4821 with | (Sum.inl x4776) => x = .normal ∧ E = ((((Env.none.upd 4 (.whole 0)).upd 7 (.ro (Rd.slice rdS_deflate_Item) true x4263)).upd 8 (.lit (.int .i64 ((List.length x4263 : Nat) : Int)))).upd 9 (.lit (.int .i64 x4648))) ∧ M = (Mem.nil.push (.row 5 (Rd.int .u8) x4776)) | (Sum.inr _) => x = .ret ∧ E = ((Env.none.upd 2 (.lit (.slice none 0 0))).upd 3 (.lit (.bool false))) ∧ M = Mem.nil) ?_ ?_
      · clear H
        have H := H4819
        clear H4819
        refine WP.block ?_
        refine WP.seq ?_
        refine WP.region ?_
        obtain ⟨x4777, h4777, H⟩ := bnd H
        refine WPL.q (q_index_ro sl38 rfl rfl rfl h4777) rfl ?_
        refine WPL.q (q_load_roag ag42 rfl rfl S_deflate_Item.sp) rfl ?_
        refine WPL.d (d_alloc ze42 rfl) rfl ?_
        refine WPL.s (s_store sz42 rfl rfl rfl rfl rfl) ?_
        refine WPL.nilW ?_
        refine W.now ?_
        refine Then.n ?_
        refine WP.block ?_
        refine WP.seq ?_
        obtain ⟨x4783, H4788, H⟩ := bnd H
        refine WP.monoW (Q := fun x E M => x = .normal ∧ E = ((((((Env.none.upd 4 (.whole 0)).upd 6 (.ptr 1 0)).upd 7 (.ro (Rd.slice rdS_deflate_Item) true x4263)).upd 8 (.lit (.int .i64 ((List.length x4263 : Nat) : Int)))).upd 9 (.lit (.int .i64 x4648))).upd 13 (.lit (.bool x4783))) ∧ M = ((Mem.nil.push (.row 5 (Rd.int .u8) x4649)).push (.cells 42 [.lit (.int .i64 x4777.fByte), .lit (.int .i64 x4777.fLen), .lit (.int .i64 x4777.fDist)]))) ?_ ?_
        · clear H
          have H := H4788
          clear H4788
          refine WP.region ?_
          refine WPL.q (q_fieldAddr fi42_1 rfl rfl) rfl ?_
          refine WPL.q (q_load sc3 rfl rfl rfl) rfl ?_
          refine WPL.q (q_eql rfl rfl) rfl ?_
          refine WPL.q (q_mv (v := .lit (.bool _)) rfl) rfl ?_
          refine WPL.split (t := 17) (b := (decide (x4777.fLen = 0))) rfl (fun hb4783 => ?_) (fun hb4783 => ?_)
          · replace H := cnt hb4783 H
            refine WPL.qg rfl rfl (lb hb4783) (q_fieldAddr fi42_0 rfl rfl) rfl ?_
            refine WPL.qg rfl rfl (lb hb4783) (q_load sc3 rfl rfl rfl) rfl ?_
            refine WPL.qg rfl rfl (lb hb4783) (q_geq rfl rfl) rfl ?_
            refine WPL.q (q_pickT (v := .lit (.bool _)) (lb hb4783) rfl) rfl ?_
            refine WPL.q (q_mv (v := .lit (.bool _)) rfl) rfl ?_
            refine WPL.split (t := 22) (b := (decide (0 ≤ x4777.fByte))) rfl (fun hb4784 => ?_) (fun hb4784 => ?_)
            · replace H := cnt hb4784 H
              refine WPL.qg rfl rfl (lb hb4784) (q_fieldAddr fi42_0 rfl rfl) rfl ?_
              refine WPL.qg rfl rfl (lb hb4784) (q_load sc3 rfl rfl rfl) rfl ?_
              refine WPL.qg rfl rfl (lb hb4784) (q_lss rfl rfl) rfl ?_
              refine WPL.q (q_pickT (v := .lit (.bool _)) (lb hb4784) rfl) rfl ?_
              refine WPL.q (q_mv (v := .lit (.bool _)) rfl) rfl ?_
              refine WPL.split (t := 27) (b := (decide (x4777.fByte < 256))) rfl (fun hb4785 => ?_) (fun hb4785 => ?_)
              · replace H := cnt hb4785 H
                refine WPL.qg rfl rfl (lb hb4785) (q_fieldAddr fi42_2 rfl rfl) rfl ?_
                refine WPL.qg rfl rfl (lb hb4785) (q_load sc3 rfl rfl rfl) rfl ?_
                refine WPL.qg rfl rfl (lb hb4785) (q_eql rfl rfl) rfl ?_
                refine WPL.q (q_pickT (v := .lit (.bool _)) (lb hb4785) rfl) rfl ?_
                refine WPL.q (q_mv (v := .lit (.bool _)) rfl) rfl ?_
                refine WPL.split (t := 32) (b := (decide (x4777.fDist = 0))) rfl (fun hb4786 => ?_) (fun hb4786 => ?_)
                · replace H := cnt hb4786 H
                  refine WPL.qg rfl rfl (lb hb4786) (q_mv (v := .whole _) rfl) rfl ?_
                  refine WPL.qg rfl rfl (lb hb4786) (q_len_row sl22 rfl rfl) rfl ?_
                  obtain ⟨x4788, h4788, H⟩ := bnd H
                  refine WPL.qg rfl rfl (lb hb4786) (q_nm (q_lss rfl rfl) (nm_bool h4788)) rfl ?_
                  refine WPL.q (q_pickT (v := .lit (.bool _)) (lb hb4786) rfl) rfl ?_
                  refine WPL.q (q_as (v := .lit (.bool _)) rfl) rfl ?_
                  refine WPL.nilW ?_
                  refine W.cv (Cv.weak (E' := ((((((Env.none.upd 4 (.whole 0)).upd 6 (.ptr 1 0)).upd 7 (.ro (Rd.slice rdS_deflate_Item) true x4263)).upd 8 (.lit (.int .i64 ((List.length x4263 : Nat) : Int)))).upd 9 (.lit (.int .i64 x4648))).upd 13 (.lit (.bool x4788)))) (M' := ((Mem.nil.push (.row 5 (Rd.int .u8) x4649)).push (.cells 42 [.lit (.int .i64 x4777.fByte), .lit (.int .i64 x4777.fLen), .lit (.int .i64 x4777.fDist)]))) [0, 1] hnp ⟨rfl, ⟨⟨trivial, .inr ⟨rfl, rfl, rfl⟩⟩, .inr ⟨rfl, rfl, rfl⟩⟩, by decide, rfl, trivial⟩ (LeE.upd rfl rfl (LeE.upd rfl rfl (LeE.upd rfl rfl (LeE.upd rfl rfl (LeE.upd rfl rfl (LeE.upd rfl rfl (LeE.none rfl rfl)))))))) rfl ?_
                  refine W.now ?_
                  have q0 := (Option.some.inj H)
                  subst q0
                  exact ⟨rfl, rfl, rfl⟩
                · replace H := cnf hb4786 H
                  refine WPL.skipg (b' := false) rfl rfl (lb hb4786) rfl rfl ?_
                  refine WPL.skipg (b' := false) rfl rfl (lb hb4786) rfl rfl ?_
                  refine WPL.skipg (b' := false) rfl rfl (lb hb4786) rfl rfl ?_
                  refine WPL.q (q_pickF (v := .lit (.bool _)) (lb hb4786) rfl) rfl ?_
                  refine WPL.q (q_as (v := .lit (.bool _)) rfl) rfl ?_
                  refine WPL.nilW ?_
                  refine W.cv (Cv.weak (E' := ((((((Env.none.upd 4 (.whole 0)).upd 6 (.ptr 1 0)).upd 7 (.ro (Rd.slice rdS_deflate_Item) true x4263)).upd 8 (.lit (.int .i64 ((List.length x4263 : Nat) : Int)))).upd 9 (.lit (.int .i64 x4648))).upd 13 (.lit (.bool false)))) (M' := ((Mem.nil.push (.row 5 (Rd.int .u8) x4649)).push (.cells 42 [.lit (.int .i64 x4777.fByte), .lit (.int .i64 x4777.fLen), .lit (.int .i64 x4777.fDist)]))) [0, 1] hnp ⟨rfl, ⟨⟨trivial, .inr ⟨rfl, rfl, rfl⟩⟩, .inr ⟨rfl, rfl, rfl⟩⟩, by decide, rfl, trivial⟩ (LeE.upd rfl rfl (LeE.upd rfl rfl (LeE.upd rfl rfl (LeE.upd rfl rfl (LeE.upd rfl rfl (LeE.upd rfl rfl (LeE.none rfl rfl)))))))) rfl ?_
                  refine W.now ?_
                  have q0 := (Option.some.inj H)
                  subst q0
                  exact ⟨rfl, rfl, rfl⟩
              · replace H := cnf hb4785 H
                refine WPL.skipg (b' := false) rfl rfl (lb hb4785) rfl rfl ?_
                refine WPL.skipg (b' := false) rfl rfl (lb hb4785) rfl rfl ?_
                refine WPL.skipg (b' := false) rfl rfl (lb hb4785) rfl rfl ?_
                refine WPL.q (q_pickF (v := .lit (.bool _)) (lb hb4785) rfl) rfl ?_
                refine WPL.q (q_mv (v := .lit (.bool _)) rfl) rfl ?_
                refine WPL.skipg (b' := false) rfl rfl rfl rfl rfl ?_
                refine WPL.skipg (b' := false) rfl rfl rfl rfl rfl ?_
                refine WPL.skipg (b' := false) rfl rfl rfl rfl rfl ?_
                refine WPL.q (q_pickF (v := .lit (.bool _)) rfl rfl) rfl ?_
                refine WPL.q (q_as (v := .lit (.bool _)) rfl) rfl ?_
                refine WPL.nilW ?_
                refine W.cv (Cv.weak (E' := ((((((Env.none.upd 4 (.whole 0)).upd 6 (.ptr 1 0)).upd 7 (.ro (Rd.slice rdS_deflate_Item) true x4263)).upd 8 (.lit (.int .i64 ((List.length x4263 : Nat) : Int)))).upd 9 (.lit (.int .i64 x4648))).upd 13 (.lit (.bool false)))) (M' := ((Mem.nil.push (.row 5 (Rd.int .u8) x4649)).push (.cells 42 [.lit (.int .i64 x4777.fByte), .lit (.int .i64 x4777.fLen), .lit (.int .i64 x4777.fDist)]))) [0, 1] hnp ⟨rfl, ⟨⟨trivial, .inr ⟨rfl, rfl, rfl⟩⟩, .inr ⟨rfl, rfl, rfl⟩⟩, by decide, rfl, trivial⟩ (LeE.upd rfl rfl (LeE.upd rfl rfl (LeE.upd rfl rfl (LeE.upd rfl rfl (LeE.upd rfl rfl (LeE.upd rfl rfl (LeE.none rfl rfl)))))))) rfl ?_
                refine W.now ?_
                have q0 := (Option.some.inj H)
                subst q0
                exact ⟨rfl, rfl, rfl⟩
            · replace H := cnf hb4784 H
              refine WPL.skipg (b' := false) rfl rfl (lb hb4784) rfl rfl ?_
              refine WPL.skipg (b' := false) rfl rfl (lb hb4784) rfl rfl ?_
              refine WPL.skipg (b' := false) rfl rfl (lb hb4784) rfl rfl ?_
              refine WPL.q (q_pickF (v := .lit (.bool _)) (lb hb4784) rfl) rfl ?_
              refine WPL.q (q_mv (v := .lit (.bool _)) rfl) rfl ?_
              refine WPL.skipg (b' := false) rfl rfl rfl rfl rfl ?_
              refine WPL.skipg (b' := false) rfl rfl rfl rfl rfl ?_
              refine WPL.skipg (b' := false) rfl rfl rfl rfl rfl ?_
              refine WPL.q (q_pickF (v := .lit (.bool _)) rfl rfl) rfl ?_
              refine WPL.q (q_mv (v := .lit (.bool _)) rfl) rfl ?_
              refine WPL.skipg (b' := false) rfl rfl rfl rfl rfl ?_
              refine WPL.skipg (b' := false) rfl rfl rfl rfl rfl ?_
              refine WPL.skipg (b' := false) rfl rfl rfl rfl rfl ?_
              refine WPL.q (q_pickF (v := .lit (.bool _)) rfl rfl) rfl ?_
              refine WPL.q (q_as (v := .lit (.bool _)) rfl) rfl ?_
              refine WPL.nilW ?_
              refine W.cv (Cv.weak (E' := ((((((Env.none.upd 4 (.whole 0)).upd 6 (.ptr 1 0)).upd 7 (.ro (Rd.slice rdS_deflate_Item) true x4263)).upd 8 (.lit (.int .i64 ((List.length x4263 : Nat) : Int)))).upd 9 (.lit (.int .i64 x4648))).upd 13 (.lit (.bool false)))) (M' := ((Mem.nil.push (.row 5 (Rd.int .u8) x4649)).push (.cells 42 [.lit (.int .i64 x4777.fByte), .lit (.int .i64 x4777.fLen), .lit (.int .i64 x4777.fDist)]))) [0, 1] hnp ⟨rfl, ⟨⟨trivial, .inr ⟨rfl, rfl, rfl⟩⟩, .inr ⟨rfl, rfl, rfl⟩⟩, by decide, rfl, trivial⟩ (LeE.upd rfl rfl (LeE.upd rfl rfl (LeE.upd rfl rfl (LeE.upd rfl rfl (LeE.upd rfl rfl (LeE.upd rfl rfl (LeE.none rfl rfl)))))))) rfl ?_
              refine W.now ?_
              have q0 := (Option.some.inj H)
              subst q0
              exact ⟨rfl, rfl, rfl⟩
          · replace H := cnf hb4783 H
            refine WPL.skipg (b' := false) rfl rfl (lb hb4783) rfl rfl ?_
            refine WPL.skipg (b' := false) rfl rfl (lb hb4783) rfl rfl ?_
            refine WPL.skipg (b' := false) rfl rfl (lb hb4783) rfl rfl ?_
            refine WPL.q (q_pickF (v := .lit (.bool _)) (lb hb4783) rfl) rfl ?_
            refine WPL.q (q_mv (v := .lit (.bool _)) rfl) rfl ?_
            refine WPL.skipg (b' := false) rfl rfl rfl rfl rfl ?_
            refine WPL.skipg (b' := false) rfl rfl rfl rfl rfl ?_
            refine WPL.skipg (b' := false) rfl rfl rfl rfl rfl ?_
            refine WPL.q (q_pickF (v := .lit (.bool _)) rfl rfl) rfl ?_
            refine WPL.q (q_mv (v := .lit (.bool _)) rfl) rfl ?_
            refine WPL.skipg (b' := false) rfl rfl rfl rfl rfl ?_
            refine WPL.skipg (b' := false) rfl rfl rfl rfl rfl ?_
            refine WPL.skipg (b' := false) rfl rfl rfl rfl rfl ?_
            refine WPL.q (q_pickF (v := .lit (.bool _)) rfl rfl) rfl ?_
            refine WPL.q (q_mv (v := .lit (.bool _)) rfl) rfl ?_
            refine WPL.skipg (b' := false) rfl rfl rfl rfl rfl ?_
            refine WPL.skipg (b' := false) rfl rfl rfl rfl rfl ?_
            refine WPL.skipg (b' := false) rfl rfl rfl rfl rfl ?_
            refine WPL.q (q_pickF (v := .lit (.bool _)) rfl rfl) rfl ?_
            refine WPL.q (q_as (v := .lit (.bool _)) rfl) rfl ?_
            refine WPL.nilW ?_
            refine W.cv (Cv.weak (E' := ((((((Env.none.upd 4 (.whole 0)).upd 6 (.ptr 1 0)).upd 7 (.ro (Rd.slice rdS_deflate_Item) true x4263)).upd 8 (.lit (.int .i64 ((List.length x4263 : Nat) : Int)))).upd 9 (.lit (.int .i64 x4648))).upd 13 (.lit (.bool false)))) (M' := ((Mem.nil.push (.row 5 (Rd.int .u8) x4649)).push (.cells 42 [.lit (.int .i64 x4777.fByte), .lit (.int .i64 x4777.fLen), .lit (.int .i64 x4777.fDist)]))) [0, 1] hnp ⟨rfl, ⟨⟨trivial, .inr ⟨rfl, rfl, rfl⟩⟩, .inr ⟨rfl, rfl, rfl⟩⟩, by decide, rfl, trivial⟩ (LeE.upd rfl rfl (LeE.upd rfl rfl (LeE.upd rfl rfl (LeE.upd rfl rfl (LeE.upd rfl rfl (LeE.upd rfl rfl (LeE.none rfl rfl)))))))) rfl ?_
            refine W.now ?_
            have q0 := (Option.some.inj H)
            subst q0
            exact ⟨rfl, rfl, rfl⟩
        · rintro _ _ _ ⟨rfl, rfl, rfl⟩
          refine W.now ?_
          refine Then.n ?_
          refine WP.cond (t := x4783) rfl (fun hb => ?_) (fun hb => ?_)
          · replace H := cnt hb H
            refine WP.region ?_
            refine WPL.q (q_mv (v := .whole _) rfl) rfl ?_
            refine WPL.q (q_fieldAddr fi42_0 rfl rfl) rfl ?_
            refine WPL.q (q_load sc3 rfl rfl rfl) rfl ?_
            refine WPL.q (q_conv Try.underlying3 Try.underlying5 rfl) rfl ?_
            refine WPL.d (d_buildSlice (ds := ([(IntKind.wrap .u8 x4777.fByte)] : List Int)) (R := (Rd.int .u8)) li22 rfl rfl rfl rfl rfl (JoinRows.cons1 Joins.sc rfl JoinRows.nil) rfl rfl) rfl ?_
            obtain ⟨h4789, H⟩ := grd H
            refine WPL.d (d_append ap22 rfl rfl rfl rfl (src_row sl22 rfl rfl) h4789 rfl) rfl ?_
            refine WPL.q (q_as (v := .whole _) rfl) rfl ?_
            refine WPL.nilW ?_
            refine W.cv (Cv.weak (E' := ((((Env.none.upd 4 (.whole 0)).upd 7 (.ro (Rd.slice rdS_deflate_Item) true x4263)).upd 8 (.lit (.int .i64 ((List.length x4263 : Nat) : Int)))).upd 9 (.lit (.int .i64 x4648)))) (M' := (Mem.nil.push (.row 5 (Rd.int .u8) (x4649 ++ ([(IntKind.wrap .u8 x4777.fByte)] : List Int))))) [3] hnp ⟨rfl, ⟨trivial, .inr ⟨rfl, rfl, rfl⟩⟩, by decide, rfl, trivial⟩ (LeE.upd rfl rfl (LeE.upd rfl rfl (LeE.upd rfl rfl (LeE.upd rfl rfl (LeE.none rfl rfl)))))) rfl ?_
            refine W.now ?_
            refine InBlock.n ?_
            refine InBlock.n ?_
            have q0 := Option.some.inj H
            subst q0
            exact ⟨rfl, rfl, rfl⟩
          · replace H := cnf hb H
            refine WP.seq ?_
            obtain ⟨x4798, H4805, H⟩ := bnd H
            refine WP.monoW (Q := fun x E M => x = .normal ∧ E = ((((((Env.none.upd 4 (.whole 0)).upd 6 (.ptr 1 0)).upd 7 (.ro (Rd.slice rdS_deflate_Item) true x4263)).upd 8 (.lit (.int .i64 ((List.length x4263 : Nat) : Int)))).upd 9 (.lit (.int .i64 x4648))).upd 43 (.lit (.bool x4798))) ∧ M = ((Mem.nil.push (.row 5 (Rd.int .u8) x4649)).push (.cells 42 [.lit (.int .i64 x4777.fByte), .lit (.int .i64 x4777.fLen), .lit (.int .i64 x4777.fDist)]))) ?_ ?_
            · clear H
              have H := H4805
              clear H4805
              refine WP.region ?_
              refine WPL.q (q_fieldAddr fi42_0 rfl rfl) rfl ?_
              refine WPL.q (q_load sc3 rfl rfl rfl) rfl ?_
              refine WPL.q (q_eql rfl rfl) rfl ?_
              refine WPL.q (q_mv (v := .lit (.bool _)) rfl) rfl ?_
              refine WPL.split (t := 47) (b := (decide (x4777.fByte = 0))) rfl (fun hb4798 => ?_) (fun hb4798 => ?_)
              · replace H := cnt hb4798 H
                refine WPL.qg rfl rfl (lb hb4798) (q_fieldAddr fi42_1 rfl rfl) rfl ?_
                refine WPL.qg rfl rfl (lb hb4798) (q_load sc3 rfl rfl rfl) rfl ?_
                refine WPL.qg rfl rfl (lb hb4798) (q_geq rfl rfl) rfl ?_
                refine WPL.q (q_pickT (v := .lit (.bool _)) (lb hb4798) rfl) rfl ?_
                refine WPL.q (q_mv (v := .lit (.bool _)) rfl) rfl ?_
                refine WPL.split (t := 52) (b := (decide (3 ≤ x4777.fLen))) rfl (fun hb4799 => ?_) (fun hb4799 => ?_)
                · replace H := cnt hb4799 H
                  refine WPL.qg rfl rfl (lb hb4799) (q_fieldAddr fi42_1 rfl rfl) rfl ?_
                  refine WPL.qg rfl rfl (lb hb4799) (q_load sc3 rfl rfl rfl) rfl ?_
                  refine WPL.qg rfl rfl (lb hb4799) (q_leq rfl rfl) rfl ?_
                  refine WPL.q (q_pickT (v := .lit (.bool _)) (lb hb4799) rfl) rfl ?_
                  refine WPL.q (q_mv (v := .lit (.bool _)) rfl) rfl ?_
                  refine WPL.split (t := 57) (b := (decide (x4777.fLen ≤ 258))) rfl (fun hb4800 => ?_) (fun hb4800 => ?_)
                  · replace H := cnt hb4800 H
                    refine WPL.qg rfl rfl (lb hb4800) (q_fieldAddr fi42_2 rfl rfl) rfl ?_
                    refine WPL.qg rfl rfl (lb hb4800) (q_load sc3 rfl rfl rfl) rfl ?_
                    refine WPL.qg rfl rfl (lb hb4800) (q_geq rfl rfl) rfl ?_
                    refine WPL.q (q_pickT (v := .lit (.bool _)) (lb hb4800) rfl) rfl ?_
                    refine WPL.q (q_mv (v := .lit (.bool _)) rfl) rfl ?_
                    refine WPL.split (t := 62) (b := (decide (1 ≤ x4777.fDist))) rfl (fun hb4801 => ?_) (fun hb4801 => ?_)
                    · replace H := cnt hb4801 H
                      refine WPL.qg rfl rfl (lb hb4801) (q_fieldAddr fi42_2 rfl rfl) rfl ?_
                      refine WPL.qg rfl rfl (lb hb4801) (q_load sc3 rfl rfl rfl) rfl ?_
                      refine WPL.qg rfl rfl (lb hb4801) (q_mv (v := .whole _) rfl) rfl ?_
                      refine WPL.qg rfl rfl (lb hb4801) (q_len_row sl22 rfl rfl) rfl ?_
                      obtain ⟨x4803, h4803, H⟩ := bnd H
                      refine WPL.qg rfl rfl (lb hb4801) (q_nm (q_min rfl rfl) (nm_int h4803)) rfl ?_
                      refine WPL.qg rfl rfl (lb hb4801) (q_leq rfl rfl) rfl ?_
                      refine WPL.q (q_pickT (v := .lit (.bool _)) (lb hb4801) rfl) rfl ?_
                      refine WPL.q (q_mv (v := .lit (.bool _)) rfl) rfl ?_
                      refine WPL.split (t := 70) (b := (decide (x4777.fDist ≤ x4803))) rfl (fun hb4803 => ?_) (fun hb4803 => ?_)
                      · replace H := cnt hb4803 H
                        refine WPL.qg rfl rfl (lb hb4803) (q_fieldAddr fi42_1 rfl rfl) rfl ?_
                        refine WPL.qg rfl rfl (lb hb4803) (q_load sc3 rfl rfl rfl) rfl ?_
                        refine WPL.qg rfl rfl (lb hb4803) (q_mv (v := .whole _) rfl) rfl ?_
                        refine WPL.qg rfl rfl (lb hb4803) (q_len_row sl22 rfl rfl) rfl ?_
                        obtain ⟨x4805, h4805, H⟩ := bnd H
                        refine WPL.qg rfl rfl (lb hb4803) (q_nm (q_sub rfl rfl) (nm_int h4805)) rfl ?_
                        refine WPL.qg rfl rfl (lb hb4803) (q_leq rfl rfl) rfl ?_
                        refine WPL.q (q_pickT (v := .lit (.bool _)) (lb hb4803) rfl) rfl ?_
                        refine WPL.q (q_as (v := .lit (.bool _)) rfl) rfl ?_
                        refine WPL.nilW ?_
                        refine W.cv (Cv.weak (E' := ((((((Env.none.upd 4 (.whole 0)).upd 6 (.ptr 1 0)).upd 7 (.ro (Rd.slice rdS_deflate_Item) true x4263)).upd 8 (.lit (.int .i64 ((List.length x4263 : Nat) : Int)))).upd 9 (.lit (.int .i64 x4648))).upd 43 (.lit (.bool (decide (x4777.fLen ≤ x4805)))))) (M' := ((Mem.nil.push (.row 5 (Rd.int .u8) x4649)).push (.cells 42 [.lit (.int .i64 x4777.fByte), .lit (.int .i64 x4777.fLen), .lit (.int .i64 x4777.fDist)]))) [0, 1] hnp ⟨rfl, ⟨⟨trivial, .inr ⟨rfl, rfl, rfl⟩⟩, .inr ⟨rfl, rfl, rfl⟩⟩, by decide, rfl, trivial⟩ (LeE.upd rfl rfl (LeE.upd rfl rfl (LeE.upd rfl rfl (LeE.upd rfl rfl (LeE.upd rfl rfl (LeE.upd rfl rfl (LeE.none rfl rfl)))))))) rfl ?_
                        refine W.now ?_
                        have q0 := (Option.some.inj H)
                        subst q0
                        exact ⟨rfl, rfl, rfl⟩
                      · replace H := cnf hb4803 H
                        refine WPL.skipg (b' := false) rfl rfl (lb hb4803) rfl rfl ?_
                        refine WPL.skipg (b' := false) rfl rfl (lb hb4803) rfl rfl ?_
                        refine WPL.skipg (b' := false) rfl rfl (lb hb4803) rfl rfl ?_
                        refine WPL.skipg (b' := false) rfl rfl (lb hb4803) rfl rfl ?_
                        refine WPL.skipg (b' := false) rfl rfl (lb hb4803) rfl rfl ?_
                        refine WPL.skipg (b' := false) rfl rfl (lb hb4803) rfl rfl ?_
                        refine WPL.q (q_pickF (v := .lit (.bool _)) (lb hb4803) rfl) rfl ?_
                        refine WPL.q (q_as (v := .lit (.bool _)) rfl) rfl ?_
                        refine WPL.nilW ?_
                        refine W.cv (Cv.weak (E' := ((((((Env.none.upd 4 (.whole 0)).upd 6 (.ptr 1 0)).upd 7 (.ro (Rd.slice rdS_deflate_Item) true x4263)).upd 8 (.lit (.int .i64 ((List.length x4263 : Nat) : Int)))).upd 9 (.lit (.int .i64 x4648))).upd 43 (.lit (.bool false)))) (M' := ((Mem.nil.push (.row 5 (Rd.int .u8) x4649)).push (.cells 42 [.lit (.int .i64 x4777.fByte), .lit (.int .i64 x4777.fLen), .lit (.int .i64 x4777.fDist)]))) [0, 1] hnp ⟨rfl, ⟨⟨trivial, .inr ⟨rfl, rfl, rfl⟩⟩, .inr ⟨rfl, rfl, rfl⟩⟩, by decide, rfl, trivial⟩ (LeE.upd rfl rfl (LeE.upd rfl rfl (LeE.upd rfl rfl (LeE.upd rfl rfl (LeE.upd rfl rfl (LeE.upd rfl rfl (LeE.none rfl rfl)))))))) rfl ?_
                        refine W.now ?_
                        have q0 := (Option.some.inj H)
                        subst q0
                        exact ⟨rfl, rfl, rfl⟩
                    · replace H := cnf hb4801 H
                      refine WPL.skipg (b' := false) rfl rfl (lb hb4801) rfl rfl ?_
                      refine WPL.skipg (b' := false) rfl rfl (lb hb4801) rfl rfl ?_
                      refine WPL.skipg (b' := false) rfl rfl (lb hb4801) rfl rfl ?_
                      refine WPL.skipg (b' := false) rfl rfl (lb hb4801) rfl rfl ?_
                      refine WPL.skipg (b' := false) rfl rfl (lb hb4801) rfl rfl ?_
                      refine WPL.skipg (b' := false) rfl rfl (lb hb4801) rfl rfl ?_
                      refine WPL.q (q_pickF (v := .lit (.bool _)) (lb hb4801) rfl) rfl ?_
                      refine WPL.q (q_mv (v := .lit (.bool _)) rfl) rfl ?_
                      refine WPL.skipg (b' := false) rfl rfl rfl rfl rfl ?_
                      refine WPL.skipg (b' := false) rfl rfl rfl rfl rfl ?_
                      refine WPL.skipg (b' := false) rfl rfl rfl rfl rfl ?_
                      refine WPL.skipg (b' := false) rfl rfl rfl rfl rfl ?_
                      refine WPL.skipg (b' := false) rfl rfl rfl rfl rfl ?_
                      refine WPL.skipg (b' := false) rfl rfl rfl rfl rfl ?_
                      refine WPL.q (q_pickF (v := .lit (.bool _)) rfl rfl) rfl ?_
                      refine WPL.q (q_as (v := .lit (.bool _)) rfl) rfl ?_
                      refine WPL.nilW ?_
                      refine W.cv (Cv.weak (E' := ((((((Env.none.upd 4 (.whole 0)).upd 6 (.ptr 1 0)).upd 7 (.ro (Rd.slice rdS_deflate_Item) true x4263)).upd 8 (.lit (.int .i64 ((List.length x4263 : Nat) : Int)))).upd 9 (.lit (.int .i64 x4648))).upd 43 (.lit (.bool false)))) (M' := ((Mem.nil.push (.row 5 (Rd.int .u8) x4649)).push (.cells 42 [.lit (.int .i64 x4777.fByte), .lit (.int .i64 x4777.fLen), .lit (.int .i64 x4777.fDist)]))) [0, 1] hnp ⟨rfl, ⟨⟨trivial, .inr ⟨rfl, rfl, rfl⟩⟩, .inr ⟨rfl, rfl, rfl⟩⟩, by decide, rfl, trivial⟩ (LeE.upd rfl rfl (LeE.upd rfl rfl (LeE.upd rfl rfl (LeE.upd rfl rfl (LeE.upd rfl rfl (LeE.upd rfl rfl (LeE.none rfl rfl)))))))) rfl ?_
                      refine W.now ?_
                      have q0 := (Option.some.inj H)
                      subst q0
                      exact ⟨rfl, rfl, rfl⟩
                  · replace H := cnf hb4800 H
                    refine WPL.skipg (b' := false) rfl rfl (lb hb4800) rfl rfl ?_
                    refine WPL.skipg (b' := false) rfl rfl (lb hb4800) rfl rfl ?_
                    refine WPL.skipg (b' := false) rfl rfl (lb hb4800) rfl rfl ?_
                    refine WPL.q (q_pickF (v := .lit (.bool _)) (lb hb4800) rfl) rfl ?_
                    refine WPL.q (q_mv (v := .lit (.bool _)) rfl) rfl ?_
                    refine WPL.skipg (b' := false) rfl rfl rfl rfl rfl ?_
                    refine WPL.skipg (b' := false) rfl rfl rfl rfl rfl ?_
                    refine WPL.skipg (b' := false) rfl rfl rfl rfl rfl ?_
                    refine WPL.skipg (b' := false) rfl rfl rfl rfl rfl ?_
                    refine WPL.skipg (b' := false) rfl rfl rfl rfl rfl ?_
                    refine WPL.skipg (b' := false) rfl rfl rfl rfl rfl ?_
                    refine WPL.q (q_pickF (v := .lit (.bool _)) rfl rfl) rfl ?_
                    refine WPL.q (q_mv (v := .lit (.bool _)) rfl) rfl ?_
                    refine WPL.skipg (b' := false) rfl rfl rfl rfl rfl ?_
                    refine WPL.skipg (b' := false) rfl rfl rfl rfl rfl ?_
                    refine WPL.skipg (b' := false) rfl rfl rfl rfl rfl ?_
                    refine WPL.skipg (b' := false) rfl rfl rfl rfl rfl ?_
                    refine WPL.skipg (b' := false) rfl rfl rfl rfl rfl ?_
                    refine WPL.skipg (b' := false) rfl rfl rfl rfl rfl ?_
                    refine WPL.q (q_pickF (v := .lit (.bool _)) rfl rfl) rfl ?_
                    refine WPL.q (q_as (v := .lit (.bool _)) rfl) rfl ?_
                    refine WPL.nilW ?_
                    refine W.cv (Cv.weak (E' := ((((((Env.none.upd 4 (.whole 0)).upd 6 (.ptr 1 0)).upd 7 (.ro (Rd.slice rdS_deflate_Item) true x4263)).upd 8 (.lit (.int .i64 ((List.length x4263 : Nat) : Int)))).upd 9 (.lit (.int .i64 x4648))).upd 43 (.lit (.bool false)))) (M' := ((Mem.nil.push (.row 5 (Rd.int .u8) x4649)).push (.cells 42 [.lit (.int .i64 x4777.fByte), .lit (.int .i64 x4777.fLen), .lit (.int .i64 x4777.fDist)]))) [0, 1] hnp ⟨rfl, ⟨⟨trivial, .inr ⟨rfl, rfl, rfl⟩⟩, .inr ⟨rfl, rfl, rfl⟩⟩, by decide, rfl, trivial⟩ (LeE.upd rfl rfl (LeE.upd rfl rfl (LeE.upd rfl rfl (LeE.upd rfl rfl (LeE.upd rfl rfl (LeE.upd rfl rfl (LeE.none rfl rfl)))))))) rfl ?_
                    refine W.now ?_
                    have q0 := (Option.some.inj H)
                    subst q0
                    exact ⟨rfl, rfl, rfl⟩
                · replace H := cnf hb4799 H
                  refine WPL.skipg (b' := false) rfl rfl (lb hb4799) rfl rfl ?_
                  refine WPL.skipg (b' := false) rfl rfl (lb hb4799) rfl rfl ?_
                  refine WPL.skipg (b' := false) rfl rfl (lb hb4799) rfl rfl ?_
                  refine WPL.q (q_pickF (v := .lit (.bool _)) (lb hb4799) rfl) rfl ?_
                  refine WPL.q (q_mv (v := .lit (.bool _)) rfl) rfl ?_
                  refine WPL.skipg (b' := false) rfl rfl rfl rfl rfl ?_
                  refine WPL.skipg (b' := false) rfl rfl rfl rfl rfl ?_
                  refine WPL.skipg (b' := false) rfl rfl rfl rfl rfl ?_
                  refine WPL.q (q_pickF (v := .lit (.bool _)) rfl rfl) rfl ?_
                  refine WPL.q (q_mv (v := .lit (.bool _)) rfl) rfl ?_
                  refine WPL.skipg (b' := false) rfl rfl rfl rfl rfl ?_
                  refine WPL.skipg (b' := false) rfl rfl rfl rfl rfl ?_
                  refine WPL.skipg (b' := false) rfl rfl rfl rfl rfl ?_
                  refine WPL.skipg (b' := false) rfl rfl rfl rfl rfl ?_
                  refine WPL.skipg (b' := false) rfl rfl rfl rfl rfl ?_
                  refine WPL.skipg (b' := false) rfl rfl rfl rfl rfl ?_
                  refine WPL.q (q_pickF (v := .lit (.bool _)) rfl rfl) rfl ?_
                  refine WPL.q (q_mv (v := .lit (.bool _)) rfl) rfl ?_
                  refine WPL.skipg (b' := false) rfl rfl rfl rfl rfl ?_
                  refine WPL.skipg (b' := false) rfl rfl rfl rfl rfl ?_
                  refine WPL.skipg (b' := false) rfl rfl rfl rfl rfl ?_
                  refine WPL.skipg (b' := false) rfl rfl rfl rfl rfl ?_
                  refine WPL.skipg (b' := false) rfl rfl rfl rfl rfl ?_
                  refine WPL.skipg (b' := false) rfl rfl rfl rfl rfl ?_
                  refine WPL.q (q_pickF (v := .lit (.bool _)) rfl rfl) rfl ?_
                  refine WPL.q (q_as (v := .lit (.bool _)) rfl) rfl ?_
                  refine WPL.nilW ?_
                  refine W.cv (Cv.weak (E' := ((((((Env.none.upd 4 (.whole 0)).upd 6 (.ptr 1 0)).upd 7 (.ro (Rd.slice rdS_deflate_Item) true x4263)).upd 8 (.lit (.int .i64 ((List.length x4263 : Nat) : Int)))).upd 9 (.lit (.int .i64 x4648))).upd 43 (.lit (.bool false)))) (M' := ((Mem.nil.push (.row 5 (Rd.int .u8) x4649)).push (.cells 42 [.lit (.int .i64 x4777.fByte), .lit (.int .i64 x4777.fLen), .lit (.int .i64 x4777.fDist)]))) [0, 1] hnp ⟨rfl, ⟨⟨trivial, .inr ⟨rfl, rfl, rfl⟩⟩, .inr ⟨rfl, rfl, rfl⟩⟩, by decide, rfl, trivial⟩ (LeE.upd rfl rfl (LeE.upd rfl rfl (LeE.upd rfl rfl (LeE.upd rfl rfl (LeE.upd rfl rfl (LeE.upd rfl rfl (LeE.none rfl rfl)))))))) rfl ?_
                  refine W.now ?_
                  have q0 := (Option.some.inj H)
                  subst q0
                  exact ⟨rfl, rfl, rfl⟩
              · replace H := cnf hb4798 H
                refine WPL.skipg (b' := false) rfl rfl (lb hb4798) rfl rfl ?_
                refine WPL.skipg (b' := false) rfl rfl (lb hb4798) rfl rfl ?_
                refine WPL.skipg (b' := false) rfl rfl (lb hb4798) rfl rfl ?_
                refine WPL.q (q_pickF (v := .lit (.bool _)) (lb hb4798) rfl) rfl ?_
                refine WPL.q (q_mv (v := .lit (.bool _)) rfl) rfl ?_
                refine WPL.skipg (b' := false) rfl rfl rfl rfl rfl ?_
                refine WPL.skipg (b' := false) rfl rfl rfl rfl rfl ?_
                refine WPL.skipg (b' := false) rfl rfl rfl rfl rfl ?_
                refine WPL.q (q_pickF (v := .lit (.bool _)) rfl rfl) rfl ?_
                refine WPL.q (q_mv (v := .lit (.bool _)) rfl) rfl ?_
                refine WPL.skipg (b' := false) rfl rfl rfl rfl rfl ?_
                refine WPL.skipg (b' := false) rfl rfl rfl rfl rfl ?_
                refine WPL.skipg (b' := false) rfl rfl rfl rfl rfl ?_
                refine WPL.q (q_pickF (v := .lit (.bool _)) rfl rfl) rfl ?_
                refine WPL.q (q_mv (v := .lit (.bool _)) rfl) rfl ?_
                refine WPL.skipg (b' := false) rfl rfl rfl rfl rfl ?_
                refine WPL.skipg (b' := false) rfl rfl rfl rfl rfl ?_
                refine WPL.skipg (b' := false) rfl rfl rfl rfl rfl ?_
                refine WPL.skipg (b' := false) rfl rfl rfl rfl rfl ?_
                refine WPL.skipg (b' := false) rfl rfl rfl rfl rfl ?_
                refine WPL.skipg (b' := false) rfl rfl rfl rfl rfl ?_
                refine WPL.q (q_pickF (v := .lit (.bool _)) rfl rfl) rfl ?_
                refine WPL.q (q_mv (v := .lit (.bool _)) rfl) rfl ?_
                refine WPL.skipg (b' := false) rfl rfl rfl rfl rfl ?_
                refine WPL.skipg (b' := false) rfl rfl rfl rfl rfl ?_
                refine WPL.skipg (b' := false) rfl rfl rfl rfl rfl ?_
                refine WPL.skipg (b' := false) rfl rfl rfl rfl rfl ?_
                refine WPL.skipg (b' := false) rfl rfl rfl rfl rfl ?_
                refine WPL.skipg (b' := false) rfl rfl rfl rfl rfl ?_
                refine WPL.q (q_pickF (v := .lit (.bool _)) rfl rfl) rfl ?_
                refine WPL.q (q_as (v := .lit (.bool _)) rfl) rfl ?_
                refine WPL.nilW ?_
                refine W.cv (Cv.weak (E' := ((((((Env.none.upd 4 (.whole 0)).upd 6 (.ptr 1 0)).upd 7 (.ro (Rd.slice rdS_deflate_Item) true x4263)).upd 8 (.lit (.int .i64 ((List.length x4263 : Nat) : Int)))).upd 9 (.lit (.int .i64 x4648))).upd 43 (.lit (.bool false)))) (M' := ((Mem.nil.push (.row 5 (Rd.int .u8) x4649)).push (.cells 42 [.lit (.int .i64 x4777.fByte), .lit (.int .i64 x4777.fLen), .lit (.int .i64 x4777.fDist)]))) [0, 1] hnp ⟨rfl, ⟨⟨trivial, .inr ⟨rfl, rfl, rfl⟩⟩, .inr ⟨rfl, rfl, rfl⟩⟩, by decide, rfl, trivial⟩ (LeE.upd rfl rfl (LeE.upd rfl rfl (LeE.upd rfl rfl (LeE.upd rfl rfl (LeE.upd rfl rfl (LeE.upd rfl rfl (LeE.none rfl rfl)))))))) rfl ?_
                refine W.now ?_
                have q0 := (Option.some.inj H)
                subst q0
                exact ⟨rfl, rfl, rfl⟩
            · rintro _ _ _ ⟨rfl, rfl, rfl⟩
              refine W.now ?_
              refine Then.n ?_
              refine WP.cond (t := x4798) rfl (fun hb => ?_) (fun hb => ?_)
              · replace H := cnt hb H
                refine WP.seq ?_
                refine WP.region ?_
                refine WPL.q (q_fieldAddr fi42_1 rfl rfl) rfl ?_
                refine WPL.q (q_load sc3 rfl rfl rfl) rfl ?_
                refine WPL.q (q_mv (v := .lit (.int _ _)) rfl) rfl ?_
                refine WPL.nilW ?_
                refine W.now ?_
                refine Then.n ?_
                refine WP.block ?_
                refine WP.cv (Cv.weak (E' := (((((((Env.none.upd 4 (.whole 0)).upd 6 (.ptr 1 0)).upd 7 (.ro (Rd.slice rdS_deflate_Item) true x4263)).upd 8 (.lit (.int .i64 ((List.length x4263 : Nat) : Int)))).upd 9 (.lit (.int .i64 x4648))).upd 79 (.lit (.int .i64 x4777.fLen))).upd 80 (.lit (.int .i64 0)))) (M' := ((Mem.nil.push (.row 5 (Rd.int .u8) x4649)).push (.cells 42 [.lit (.int .i64 x4777.fByte), .lit (.int .i64 x4777.fLen), .lit (.int .i64 x4777.fDist)]))) [0, 1] hnp ⟨rfl, ⟨⟨trivial, .inr ⟨rfl, rfl, rfl⟩⟩, .inr ⟨rfl, rfl, rfl⟩⟩, by decide, rfl, trivial⟩ (LeE.upd rfl rfl (LeE.upd rfl rfl (LeE.upd rfl rfl (LeE.upd rfl rfl (LeE.upd rfl rfl (LeE.upd rfl rfl (LeE.upd rfl rfl (LeE.none rfl rfl))))))))) ?_
                obtain ⟨x4815, H4818, H⟩ := bnd H
                refine WP.monoW (Q := fun x E M => x = .exit 3 ∧ E = ((((Env.none.upd 4 (.whole 0)).upd 7 (.ro (Rd.slice rdS_deflate_Item) true x4263)).upd 8 (.lit (.int .i64 ((List.length x4263 : Nat) : Int)))).upd 9 (.lit (.int .i64 x4648))) ∧ M = (Mem.nil.push (.row 5 (Rd.int .u8) x4815))) ?_ ?_
                · refine WP.loop (β := Int × (List Int)) (fun n b => g_deflate_Unparse_l1 k x4777 n b.1 b.2 = some x4815) (fun b => (((((((Env.none.upd 4 (.whole 0)).upd 6 (.ptr 1 0)).upd 7 (.ro (Rd.slice rdS_deflate_Item) true x4263)).upd 8 (.lit (.int .i64 ((List.length x4263 : Nat) : Int)))).upd 9 (.lit (.int .i64 x4648))).upd 79 (.lit (.int .i64 x4777.fLen))).upd 80 (.lit (.int .i64 b.1)))) (fun b => ((Mem.nil.push (.row 5 (Rd.int .u8) b.2)).push (.cells 42 [.lit (.int .i64 x4777.fByte), .lit (.int .i64 x4777.fLen), .lit (.int .i64 x4777.fDist)]))) k (0, x4649) H4818 rfl rfl ?_
                  rintro n ⟨x4810, x4811⟩ H
                  obtain _ | n := n
                  · exact nf rfl H
                  rw [g_deflate_Unparse_l1.eq_2] at H
                  show WP _ _ _ _ (((((((Env.none.upd 4 (.whole 0)).upd 6 (.ptr 1 0)).upd 7 (.ro (Rd.slice rdS_deflate_Item) true x4263)).upd 8 (.lit (.int .i64 ((List.length x4263 : Nat) : Int)))).upd 9 (.lit (.int .i64 x4648))).upd 79 (.lit (.int .i64 x4777.fLen))).upd 80 (.lit (.int .i64 x4810))) ((Mem.nil.push (.row 5 (Rd.int .u8) x4811)).push (.cells 42 [.lit (.int .i64 x4777.fByte), .lit (.int .i64 x4777.fLen), .lit (.int .i64 x4777.fDist)])) _
                  refine WP.seq ?_
                  refine WP.region ?_
                  refine WPL.q (q_lss rfl rfl) rfl ?_
                  refine WPL.nilW ?_
                  refine W.now ?_
                  refine Then.n ?_
                  refine WP.seq ?_
                  refine WP.cond (t := (decide (x4810 < x4777.fLen))) rfl (fun hb => ?_) (fun hb => ?_)
                  · replace H := cnt hb H
                    refine WP.skipW ?_
                    refine W.now ?_
                    refine Then.n ?_
                    refine WP.seq ?_
                    refine WP.block ?_
                    refine WP.region ?_
                    refine WPL.q (q_mv (v := .whole _) rfl) rfl ?_
                    refine WPL.q (q_mv (v := .whole _) rfl) rfl ?_
                    refine WPL.q (q_mv (v := .whole _) rfl) rfl ?_
                    refine WPL.q (q_len_row sl22 rfl rfl) rfl ?_
                    refine WPL.q (q_fieldAddr fi42_2 rfl rfl) rfl ?_
                    refine WPL.q (q_load sc3 rfl rfl rfl) rfl ?_
                    obtain ⟨x4816, h4816, H⟩ := bnd H
                    refine WPL.q (q_nm (q_sub rfl rfl) (nm_int h4816)) rfl ?_
                    obtain ⟨x4817, h4817, H⟩ := bnd H
                    refine WPL.q (q_index_row sl22 rfl rfl rfl (ixs h4817)) rfl ?_
                    refine WPL.q (q_load_row (j := (Int.toNat x4816)) sc5 rfl rfl (ixj h4817)) rfl ?_
                    refine WPL.d (d_buildSlice (ds := ([x4817] : List Int)) (R := (Rd.int .u8)) li22 rfl rfl rfl rfl rfl (JoinRows.cons1 Joins.sc rfl JoinRows.nil) rfl rfl) rfl ?_
                    obtain ⟨h4817, H⟩ := grd H
                    refine WPL.d (d_append ap22 rfl rfl rfl rfl (src_row sl22 rfl rfl) h4817 rfl) rfl ?_
                    refine WPL.q (q_as (v := .whole _) rfl) rfl ?_
                    refine WPL.nilW ?_
                    refine W.now ?_
                    refine InBlock.n ?_
                    refine Then.n ?_
                    refine WP.region ?_
                    refine WPL.q (q_add rfl rfl) rfl ?_
                    refine WPL.q (q_mv (v := .lit (.int _ _)) rfl) rfl ?_
                    refine WPL.nilW ?_
                    refine W.cv (Cv.weak (E' := (((((((Env.none.upd 4 (.whole 0)).upd 6 (.ptr 1 0)).upd 7 (.ro (Rd.slice rdS_deflate_Item) true x4263)).upd 8 (.lit (.int .i64 ((List.length x4263 : Nat) : Int)))).upd 9 (.lit (.int .i64 x4648))).upd 79 (.lit (.int .i64 x4777.fLen))).upd 80 (.lit (.int .i64 (IntKind.wrap .i64 (x4810 + 1)))))) (M' := ((Mem.nil.push (.row 5 (Rd.int .u8) (x4811 ++ ([x4817] : List Int)))).push (.cells 42 [.lit (.int .i64 x4777.fByte), .lit (.int .i64 x4777.fLen), .lit (.int .i64 x4777.fDist)]))) [3, 1] hnp ⟨rfl, ⟨⟨trivial, .inr ⟨rfl, rfl, rfl⟩⟩, .inr ⟨rfl, rfl, rfl⟩⟩, by decide, rfl, trivial⟩ (LeE.upd rfl rfl (LeE.upd rfl rfl (LeE.upd rfl rfl (LeE.upd rfl rfl (LeE.upd rfl rfl (LeE.upd rfl rfl (LeE.upd rfl rfl (LeE.none rfl rfl))))))))) rfl ?_
                    refine W.now ?_
                    exact Then.n ⟨n, ((IntKind.wrap .i64 (x4810 + 1)), (x4811 ++ ([x4817] : List Int))), Nat.lt_succ_self n, H, rfl, rfl⟩
                  · replace H := cnf hb H
                    refine WP.exitW ?_
                    refine W.cv (Cv.weak (E' := ((((Env.none.upd 4 (.whole 0)).upd 7 (.ro (Rd.slice rdS_deflate_Item) true x4263)).upd 8 (.lit (.int .i64 ((List.length x4263 : Nat) : Int)))).upd 9 (.lit (.int .i64 x4648)))) (M' := (Mem.nil.push (.row 5 (Rd.int .u8) x4811))) [0] hnp ⟨rfl, ⟨trivial, .inr ⟨rfl, rfl, rfl⟩⟩, by decide, rfl, trivial⟩ (LeE.upd rfl rfl (LeE.upd rfl rfl (LeE.upd rfl rfl (LeE.upd rfl rfl (LeE.none rfl rfl)))))) rfl ?_
                    refine W.now ?_
                    refine Then.x ?_
                    refine Then.x ?_
                    have q0 := (Option.some.inj H)
                    subst q0
                    exact ⟨rfl, rfl, rfl⟩
                · rintro _ _ _ ⟨rfl, rfl, rfl⟩
                  refine W.cv (Cv.weak (E' := ((((Env.none.upd 4 (.whole 0)).upd 7 (.ro (Rd.slice rdS_deflate_Item) true x4263)).upd 8 (.lit (.int .i64 ((List.length x4263 : Nat) : Int)))).upd 9 (.lit (.int .i64 x4648)))) (M' := (Mem.nil.push (.row 5 (Rd.int .u8) x4815))) [0] hnp ⟨rfl, ⟨trivial, .inr ⟨rfl, rfl, rfl⟩⟩, by decide, rfl, trivial⟩ (LeE.upd rfl rfl (LeE.upd rfl rfl (LeE.upd rfl rfl (LeE.upd rfl rfl (LeE.none rfl rfl)))))) rfl ?_
                  refine W.now ?_
                  refine InBlock.x0 ?_
                  refine InBlock.n ?_
                  refine InBlock.n ?_
                  have q0 := Option.some.inj H
                  subst q0
                  exact ⟨rfl, rfl, rfl⟩
              · replace H := cnf hb H
                refine WP.seq ?_
                refine WP.region ?_
                refine WPL.q (q_as (v := .lit _) rfl) rfl ?_
                refine WPL.q (q_as (v := .lit (.bool _)) rfl) rfl ?_
                refine WPL.nilW ?_
                refine W.now ?_
                refine Then.n ?_
                refine WP.retW ?_
                refine W.cv (Cv.weak (E' := ((Env.none.upd 2 (.lit (.slice none 0 0))).upd 3 (.lit (.bool false)))) (M' := Mem.nil) [] hnp ⟨rfl, trivial, by decide, rfl, trivial⟩ (LeE.upd rfl rfl (LeE.upd rfl rfl (LeE.none rfl rfl)))) rfl ?_
                refine W.now ?_
                refine InBlock.r ?_
                refine InBlock.r ?_
                have q0 := Option.some.inj H
                subst q0
                exact ⟨rfl, rfl, rfl⟩
      · rcases y4821 with x4776 | _
        · rintro _ _ _ ⟨rfl, rfl, rfl⟩
          refine W.now ?_
          refine Then.n ?_
          refine WP.region ?_
          refine WPL.q (q_add rfl rfl) rfl ?_
          refine WPL.q (q_mv (v := .lit (.int _ _)) rfl) rfl ?_
          refine WPL.nilW ?_
          refine W.cv (Cv.weak (E' := ((((Env.none.upd 4 (.whole 0)).upd 7 (.ro (Rd.slice rdS_deflate_Item) true x4263)).upd 8 (.lit (.int .i64 ((List.length x4263 : Nat) : Int)))).upd 9 (.lit (.int .i64 (IntKind.wrap .i64 (x4648 + 1)))))) (M' := (Mem.nil.push (.row 5 (Rd.int .u8) x4776))) [0] hnp ⟨rfl, ⟨trivial, .inr ⟨rfl, rfl, rfl⟩⟩, by decide, rfl, trivial⟩ (LeE.upd rfl rfl (LeE.upd rfl rfl (LeE.upd rfl rfl (LeE.upd rfl rfl (LeE.none rfl rfl)))))) rfl ?_
          refine W.now ?_
          exact Then.n ⟨n, ((IntKind.wrap .i64 (x4648 + 1)), x4776), Nat.lt_succ_self n, H, rfl, rfl⟩
        · rintro _ _ _ ⟨rfl, rfl, rfl⟩
          refine W.cv (Cv.weak (E' := ((Env.none.upd 2 (.lit (.slice none 0 0))).upd 3 (.lit (.bool false)))) (M' := Mem.nil) [] hnp ⟨rfl, trivial, by decide, rfl, trivial⟩ (LeE.upd rfl rfl (LeE.upd rfl rfl (LeE.none rfl rfl)))) rfl ?_
          refine W.now ?_
          refine Then.r ?_
          refine Then.r ?_
          have q0 := Option.some.inj H
          subst q0
          exact ⟨rfl, rfl, rfl⟩
    · replace H := cnf hb H
      refine WP.exitW ?_
      refine W.cv (Cv.weak (E' := (Env.none.upd 4 (.whole 0))) (M' := (Mem.nil.push (.row 5 (Rd.int .u8) x4649))) [0] hnp ⟨rfl, ⟨trivial, .inr ⟨rfl, rfl, rfl⟩⟩, by decide, rfl, trivial⟩ (LeE.upd rfl rfl (LeE.none rfl rfl))) rfl ?_
      refine W.now ?_
      refine Then.x ?_
      refine Then.x ?_
      have q0 := Option.some.inj H
      subst q0
      exact ⟨rfl, rfl, rfl⟩
  · rcases y4823 with _ | x4734
    · rintro _ _ _ ⟨rfl, rfl, rfl⟩
      refine W.cv (Cv.nilRo (Rd.int .u8) false 2 rfl) rfl ?_
      refine W.now ?_
      refine InBlock.r ?_
      refine Then.r ?_
      have q0 := (Prod.mk.inj (Option.some.inj H)).1
      have q1 := (Prod.mk.inj (Option.some.inj H)).2
      subst q0
      subst q1
      exact ⟨trivial, _, rfl, [], (.tup [.ro (Rd.slice (Rd.int .u8)) false ([] : List Int), .lit (.bool false)]), Mem.nil, ⟨rfl, trivial, by decide, rfl, trivial⟩, rfl, rfl, rfl, rfl⟩
    · rintro _ _ _ ⟨rfl, rfl, rfl⟩
      refine W.now ?_
      refine InBlock.x0 ?_
      refine Then.n ?_
      refine WP.seq ?_
      refine WP.region ?_
      refine WPL.q (q_mv (v := .whole _) rfl) rfl ?_
      refine WPL.q (q_as (v := .whole _) rfl) rfl ?_
      refine WPL.q (q_as (v := .lit (.bool _)) rfl) rfl ?_
      refine WPL.nilW ?_
      refine W.now ?_
      refine Then.n ?_
      refine WP.retW ?_
      refine W.cv (Cv.frzRow (i := 0) rfl rfl hnp rfl rfl) rfl ?_
      refine W.now ?_
      have q0 := (Prod.mk.inj (Option.some.inj H)).1
      have q1 := (Prod.mk.inj (Option.some.inj H)).2
      subst q0
      subst q1
      exact ⟨trivial, _, rfl, [], (.tup [.ro (Rd.slice (Rd.int .u8)) false x4734, .lit (.bool true)]), Mem.nil, ⟨rfl, trivial, by decide, rfl, trivial⟩, rfl, rfl, rfl, rfl⟩
set_option maxRecDepth 100000 in
set_option maxHeartbeats 4000000 in
theorem s_quireref04_Unparse (k : Nat) (x4827 : (List S_quireref04_Item)) (x5341 : (List Int)) (x5342 : Bool) (H : g_quireref04_Unparse k x4827 = some (x5341, x5342)) : Go.Q.Spec Try.prog 18 0 [.ro (Rd.slice rdS_quireref04_Item) false x4827] Mem.nil (fun o M => o = .ret (.tup [.ro (Rd.slice (Rd.int .u8)) false x5341, .lit (.bool x5342)]) ∧ M = Mem.nil) := by
  unfold g_quireref04_Unparse at H
  refine Go.Q.Spec.of_bodyR (rs := [.tmp 2, .tmp 3]) (nt := 101) Try.func18 rfl rfl (by intro t T h; simp at h) rfl rfl fun cx hnp => ?_
  refine WP.seq ?_
  refine WP.region ?_
  refine WPL.q (q_as (v := .lit _) rfl) rfl ?_
  refine WPL.q (q_as (v := .lit (.bool _)) rfl) rfl ?_
  refine WPL.nilW ?_
  refine W.now ?_
  refine Then.n ?_
  refine WP.seq ?_
  refine WP.region ?_
  refine WPL.q (q_as (v := .lit _) rfl) rfl ?_
  refine WPL.nilW ?_
  refine W.now ?_
  refine Then.n ?_
  refine WP.seq ?_
  refine WP.seq ?_
  refine WP.region ?_
  refine WPL.q (q_as (v := .lit (.int _ _)) rfl) rfl ?_
  refine WPL.nilW ?_
  refine W.now ?_
  refine Then.n ?_
  refine WP.block ?_
  refine WP.cv (Cv.vir 5 (Rd.int .u8) (N := 0) rfl 4 rfl) ?_
  refine WP.cv (Cv.weak (E' := (((Env.none.upd 0 (.ro (Rd.slice rdS_quireref04_Item) false x4827)).upd 4 (.whole 0)).upd 5 (.lit (.int .i64 0)))) (M' := (Mem.nil.push (.row 5 (Rd.int .u8) ([] : List Int)))) [0] hnp ⟨rfl, ⟨trivial, .inr ⟨rfl, rfl, rfl⟩⟩, by decide, rfl, trivial⟩ (LeE.upd rfl rfl (LeE.upd rfl rfl (LeE.upd rfl rfl (LeE.none rfl rfl))))) ?_
  obtain ⟨y6040, H6038, H⟩ := bnd H
  refine WP.monoW (Q := fun x E M => match (generalizing := false) y6040 with | (Sum.inl _) => x = .ret ∧ E = ((Env.none.upd 2 (.lit (.slice none 0 0))).upd 3 (.lit (.bool false))) ∧ M = Mem.nil | (Sum.inr x5852) => x = .exit 0 ∧ E = (Env.none.upd 4 (.whole 0)) ∧ M = (Mem.nil.push (.row 5 (Rd.int .u8) x5852))) ?_ ?_
  · refine WP.loop (β := Int × (List Int)) (fun n b => g_quireref04_Unparse_l0 k x4827 n b.1 b.2 = some y6040) (fun b => (((Env.none.upd 0 (.ro (Rd.slice rdS_quireref04_Item) false x4827)).upd 4 (.whole 0)).upd 5 (.lit (.int .i64 b.1)))) (fun b => (Mem.nil.push (.row 5 (Rd.int .u8) b.2))) k (0, ([] : List Int)) H6038 rfl rfl ?_
    rintro n ⟨x5667, x5668⟩ H
    obtain _ | n := n
    · exact nf rfl H
    rw [g_quireref04_Unparse_l0.eq_2] at H
    show WP _ _ _ _ (((Env.none.upd 0 (.ro (Rd.slice rdS_quireref04_Item) false x4827)).upd 4 (.whole 0)).upd 5 (.lit (.int .i64 x5667))) (Mem.nil.push (.row 5 (Rd.int .u8) x5668)) _
    refine WP.seq ?_
    refine WP.seq ?_
    refine WP.region ?_
    refine WPL.q (q_mv (v := .lit (.int _ _)) rfl) rfl ?_
    refine WPL.q (q_mv (v := .ro _ _ _) rfl) rfl ?_
    refine WPL.q (q_len_ro sl40 rfl) rfl ?_
    obtain ⟨x5854, h5854, H⟩ := bnd H
    refine WPL.q (q_nm (q_lss rfl rfl) (nm_bool h5854)) rfl ?_
    refine WPL.nilW ?_
    refine W.now ?_
    refine Then.n ?_
    refine WP.cond (t := x5854) rfl (fun hb => ?_) (fun hb => ?_)
    · replace H := cnt hb H
      refine WP.skipW ?_
      refine W.now ?_
      refine Then.n ?_
      refine WP.seq ?_
      obtain ⟨y6038, H6036, H⟩ := bnd H
      refine WP.monoW (Q := fun x E M => match (generalizing := false) y6038 with | (Sum.inl _) => x = .ret ∧ E = ((Env.none.upd 2 (.lit (.slice none 0 0))).upd 3 (.lit (.bool false))) ∧ M = Mem.nil | (Sum.inr x5944) => x = .normal ∧ E = (((Env.none.upd 0 (.ro (Rd.slice rdS_quireref04_Item) false x4827)).upd 4 (.whole 0)).upd 5 (.lit (.int .i64 x5667))) ∧ M = (Mem.nil.push (.row 5 (Rd.int .u8) x5944))) ?_ ?_
      · clear H
        have H := H6036
        clear H6036
        refine WP.block ?_
        refine WP.seq ?_
        refine WP.region ?_
        refine WPL.q (q_mv (v := .ro _ _ _) rfl) rfl ?_
        refine WPL.q (q_mv (v := .lit (.int _ _)) rfl) rfl ?_
        obtain ⟨x5945, h5945, H⟩ := bnd H
        refine WPL.q (q_index_ro sl40 rfl rfl rfl h5945) rfl ?_
        refine WPL.q (q_load_roag ag43 rfl rfl S_quireref04_Item.sp) rfl ?_
        refine WPL.d (d_alloc ze43 rfl) rfl ?_
        refine WPL.s (s_store sz43 rfl rfl rfl rfl rfl) ?_
        refine WPL.nilW ?_
        refine W.now ?_
        refine Then.n ?_
        refine WP.seq ?_
        refine WP.seq ?_
        refine WP.region ?_
        refine WPL.q (q_fieldAddr fi43_1 rfl rfl) rfl ?_
        refine WPL.q (q_load sc3 rfl rfl rfl) rfl ?_
        refine WPL.q (q_eql rfl rfl) rfl ?_
        refine WPL.nilW ?_
        refine W.now ?_
        refine Then.n ?_
        refine WP.cond (t := (decide (x5945.fLen = 0))) rfl (fun hb => ?_) (fun hb => ?_)
        · replace H := cnt hb H
          refine WP.seq ?_
          refine WP.seq ?_
          obtain ⟨x5981, H5985, H⟩ := bnd H
          refine WP.monoW (Q := fun x E M => x = .normal ∧ E = (((((Env.none.upd 0 (.ro (Rd.slice rdS_quireref04_Item) false x4827)).upd 4 (.whole 0)).upd 5 (.lit (.int .i64 x5667))).upd 6 (.ptr 1 0)).upd 38 (.lit (.bool x5981))) ∧ M = ((Mem.nil.push (.row 5 (Rd.int .u8) x5668)).push (.cells 43 [.lit (.int .i64 x5945.fByte), .lit (.int .i64 x5945.fLen), .lit (.int .i64 x5945.fDist)]))) ?_ ?_
          · clear H
            have H := H5985
            clear H5985
            refine WP.region ?_
            refine WPL.q (q_fieldAddr fi43_0 rfl rfl) rfl ?_
            refine WPL.q (q_load sc3 rfl rfl rfl) rfl ?_
            refine WPL.q (q_lss rfl rfl) rfl ?_
            refine WPL.q (q_mv (v := .lit (.bool _)) rfl) rfl ?_
            refine WPL.split (t := 24) (b := (decide (x5945.fByte < 0))) rfl (fun hb5981 => ?_) (fun hb5981 => ?_)
            · replace H := cnt hb5981 H
              refine WPL.skipg (b' := true) rfl rfl (lb hb5981) rfl rfl ?_
              refine WPL.skipg (b' := true) rfl rfl (lb hb5981) rfl rfl ?_
              refine WPL.skipg (b' := true) rfl rfl (lb hb5981) rfl rfl ?_
              refine WPL.q (q_pickT (v := .lit (.bool _)) (lb hb5981) rfl) rfl ?_
              refine WPL.q (q_mv (v := .lit (.bool _)) rfl) rfl ?_
              refine WPL.skipg (b' := true) rfl rfl rfl rfl rfl ?_
              refine WPL.skipg (b' := true) rfl rfl rfl rfl rfl ?_
              refine WPL.skipg (b' := true) rfl rfl rfl rfl rfl ?_
              refine WPL.q (q_pickT (v := .lit (.bool _)) rfl rfl) rfl ?_
              refine WPL.q (q_mv (v := .lit (.bool _)) rfl) rfl ?_
              refine WPL.skipg (b' := true) rfl rfl rfl rfl rfl ?_
              refine WPL.skipg (b' := true) rfl rfl rfl rfl rfl ?_
              refine WPL.skipg (b' := true) rfl rfl rfl rfl rfl ?_
              refine WPL.q (q_pickT (v := .lit (.bool _)) rfl rfl) rfl ?_
              refine WPL.nilW ?_
              refine W.cv (Cv.weak (E' := (((((Env.none.upd 0 (.ro (Rd.slice rdS_quireref04_Item) false x4827)).upd 4 (.whole 0)).upd 5 (.lit (.int .i64 x5667))).upd 6 (.ptr 1 0)).upd 38 (.lit (.bool true)))) (M' := ((Mem.nil.push (.row 5 (Rd.int .u8) x5668)).push (.cells 43 [.lit (.int .i64 x5945.fByte), .lit (.int .i64 x5945.fLen), .lit (.int .i64 x5945.fDist)]))) [0, 1] hnp ⟨rfl, ⟨⟨trivial, .inr ⟨rfl, rfl, rfl⟩⟩, .inr ⟨rfl, rfl, rfl⟩⟩, by decide, rfl, trivial⟩ (LeE.upd rfl rfl (LeE.upd rfl rfl (LeE.upd rfl rfl (LeE.upd rfl rfl (LeE.upd rfl rfl (LeE.none rfl rfl))))))) rfl ?_
              refine W.now ?_
              have q0 := (Option.some.inj H)
              subst q0
              exact ⟨rfl, rfl, rfl⟩
            · replace H := cnf hb5981 H
              refine WPL.qg rfl rfl (lb hb5981) (q_fieldAddr fi43_0 rfl rfl) rfl ?_
              refine WPL.qg rfl rfl (lb hb5981) (q_load sc3 rfl rfl rfl) rfl ?_
              refine WPL.qg rfl rfl (lb hb5981) (q_gtr rfl rfl) rfl ?_
              refine WPL.q (q_pickF (v := .lit (.bool _)) (lb hb5981) rfl) rfl ?_
              refine WPL.q (q_mv (v := .lit (.bool _)) rfl) rfl ?_
              refine WPL.split (t := 29) (b := (decide (255 < x5945.fByte))) rfl (fun hb5982 => ?_) (fun hb5982 => ?_)
              · replace H := cnt hb5982 H
                refine WPL.skipg (b' := true) rfl rfl (lb hb5982) rfl rfl ?_
                refine WPL.skipg (b' := true) rfl rfl (lb hb5982) rfl rfl ?_
                refine WPL.skipg (b' := true) rfl rfl (lb hb5982) rfl rfl ?_
                refine WPL.q (q_pickT (v := .lit (.bool _)) (lb hb5982) rfl) rfl ?_
                refine WPL.q (q_mv (v := .lit (.bool _)) rfl) rfl ?_
                refine WPL.skipg (b' := true) rfl rfl rfl rfl rfl ?_
                refine WPL.skipg (b' := true) rfl rfl rfl rfl rfl ?_
                refine WPL.skipg (b' := true) rfl rfl rfl rfl rfl ?_
                refine WPL.q (q_pickT (v := .lit (.bool _)) rfl rfl) rfl ?_
                refine WPL.nilW ?_
                refine W.cv (Cv.weak (E' := (((((Env.none.upd 0 (.ro (Rd.slice rdS_quireref04_Item) false x4827)).upd 4 (.whole 0)).upd 5 (.lit (.int .i64 x5667))).upd 6 (.ptr 1 0)).upd 38 (.lit (.bool true)))) (M' := ((Mem.nil.push (.row 5 (Rd.int .u8) x5668)).push (.cells 43 [.lit (.int .i64 x5945.fByte), .lit (.int .i64 x5945.fLen), .lit (.int .i64 x5945.fDist)]))) [0, 1] hnp ⟨rfl, ⟨⟨trivial, .inr ⟨rfl, rfl, rfl⟩⟩, .inr ⟨rfl, rfl, rfl⟩⟩, by decide, rfl, trivial⟩ (LeE.upd rfl rfl (LeE.upd rfl rfl (LeE.upd rfl rfl (LeE.upd rfl rfl (LeE.upd rfl rfl (LeE.none rfl rfl))))))) rfl ?_
                refine W.now ?_
                have q0 := (Option.some.inj H)
                subst q0
                exact ⟨rfl, rfl, rfl⟩
              · replace H := cnf hb5982 H
                refine WPL.qg rfl rfl (lb hb5982) (q_fieldAddr fi43_2 rfl rfl) rfl ?_
                refine WPL.qg rfl rfl (lb hb5982) (q_load sc3 rfl rfl rfl) rfl ?_
                refine WPL.qg rfl rfl (lb hb5982) (q_neq rfl rfl) rfl ?_
                refine WPL.q (q_pickF (v := .lit (.bool _)) (lb hb5982) rfl) rfl ?_
                refine WPL.q (q_mv (v := .lit (.bool _)) rfl) rfl ?_
                refine WPL.split (t := 34) (b := (!decide (x5945.fDist = 0))) rfl (fun hb5983 => ?_) (fun hb5983 => ?_)
                · replace H := cnt hb5983 H
                  refine WPL.skipg (b' := true) rfl rfl (lb hb5983) rfl rfl ?_
                  refine WPL.skipg (b' := true) rfl rfl (lb hb5983) rfl rfl ?_
                  refine WPL.skipg (b' := true) rfl rfl (lb hb5983) rfl rfl ?_
                  refine WPL.q (q_pickT (v := .lit (.bool _)) (lb hb5983) rfl) rfl ?_
                  refine WPL.nilW ?_
                  refine W.cv (Cv.weak (E' := (((((Env.none.upd 0 (.ro (Rd.slice rdS_quireref04_Item) false x4827)).upd 4 (.whole 0)).upd 5 (.lit (.int .i64 x5667))).upd 6 (.ptr 1 0)).upd 38 (.lit (.bool true)))) (M' := ((Mem.nil.push (.row 5 (Rd.int .u8) x5668)).push (.cells 43 [.lit (.int .i64 x5945.fByte), .lit (.int .i64 x5945.fLen), .lit (.int .i64 x5945.fDist)]))) [0, 1] hnp ⟨rfl, ⟨⟨trivial, .inr ⟨rfl, rfl, rfl⟩⟩, .inr ⟨rfl, rfl, rfl⟩⟩, by decide, rfl, trivial⟩ (LeE.upd rfl rfl (LeE.upd rfl rfl (LeE.upd rfl rfl (LeE.upd rfl rfl (LeE.upd rfl rfl (LeE.none rfl rfl))))))) rfl ?_
                  refine W.now ?_
                  have q0 := (Option.some.inj H)
                  subst q0
                  exact ⟨rfl, rfl, rfl⟩
                · replace H := cnf hb5983 H
                  refine WPL.qg rfl rfl (lb hb5983) (q_mv (v := .whole _) rfl) rfl ?_
                  refine WPL.qg rfl rfl (lb hb5983) (q_len_row sl22 rfl rfl) rfl ?_
                  obtain ⟨x5985, h5985, H⟩ := bnd H
                  refine WPL.qg rfl rfl (lb hb5983) (q_nm (q_geq rfl rfl) (nm_bool h5985)) rfl ?_
                  refine WPL.q (q_pickF (v := .lit (.bool _)) (lb hb5983) rfl) rfl ?_
                  refine WPL.nilW ?_
                  refine W.cv (Cv.weak (E' := (((((Env.none.upd 0 (.ro (Rd.slice rdS_quireref04_Item) false x4827)).upd 4 (.whole 0)).upd 5 (.lit (.int .i64 x5667))).upd 6 (.ptr 1 0)).upd 38 (.lit (.bool x5985)))) (M' := ((Mem.nil.push (.row 5 (Rd.int .u8) x5668)).push (.cells 43 [.lit (.int .i64 x5945.fByte), .lit (.int .i64 x5945.fLen), .lit (.int .i64 x5945.fDist)]))) [0, 1] hnp ⟨rfl, ⟨⟨trivial, .inr ⟨rfl, rfl, rfl⟩⟩, .inr ⟨rfl, rfl, rfl⟩⟩, by decide, rfl, trivial⟩ (LeE.upd rfl rfl (LeE.upd rfl rfl (LeE.upd rfl rfl (LeE.upd rfl rfl (LeE.upd rfl rfl (LeE.none rfl rfl))))))) rfl ?_
                  refine W.now ?_
                  have q0 := (Option.some.inj H)
                  subst q0
                  exact ⟨rfl, rfl, rfl⟩
          · rintro _ _ _ ⟨rfl, rfl, rfl⟩
            refine W.now ?_
            refine Then.n ?_
            refine WP.cond (t := x5981) rfl (fun hb => ?_) (fun hb => ?_)
            · replace H := cnt hb H
              refine WP.seq ?_
              refine WP.region ?_
              refine WPL.q (q_as (v := .lit _) rfl) rfl ?_
              refine WPL.q (q_as (v := .lit (.bool _)) rfl) rfl ?_
              refine WPL.nilW ?_
              refine W.now ?_
              refine Then.n ?_
              refine WP.retW ?_
              refine W.cv (Cv.weak (E' := ((Env.none.upd 2 (.lit (.slice none 0 0))).upd 3 (.lit (.bool false)))) (M' := Mem.nil) [] hnp ⟨rfl, trivial, by decide, rfl, trivial⟩ (LeE.upd rfl rfl (LeE.upd rfl rfl (LeE.none rfl rfl)))) rfl ?_
              refine W.now ?_
              refine Then.r ?_
              refine Then.r ?_
              refine InBlock.r ?_
              have q0 := Option.some.inj H
              subst q0
              exact ⟨rfl, rfl, rfl⟩
            · replace H := cnf hb H
              refine WP.skipW ?_
              refine W.now ?_
              refine Then.n ?_
              refine WP.seq ?_
              refine WP.region ?_
              refine WPL.q (q_mv (v := .whole _) rfl) rfl ?_
              refine WPL.q (q_fieldAddr fi43_0 rfl rfl) rfl ?_
              refine WPL.q (q_load sc3 rfl rfl rfl) rfl ?_
              refine WPL.q (q_conv Try.underlying3 Try.underlying5 rfl) rfl ?_
              refine WPL.d (d_buildSlice (ds := ([(IntKind.wrap .u8 x5945.fByte)] : List Int)) (R := (Rd.int .u8)) li22 rfl rfl rfl rfl rfl (JoinRows.cons1 Joins.sc rfl JoinRows.nil) rfl rfl) rfl ?_
              obtain ⟨h5986, H⟩ := grd H
              refine WPL.d (d_append ap22 rfl rfl rfl rfl (src_row sl22 rfl rfl) h5986 rfl) rfl ?_
              refine WPL.q (q_as (v := .whole _) rfl) rfl ?_
              refine WPL.nilW ?_
              refine W.now ?_
              refine Then.n ?_
              refine WP.exitW ?_
              refine W.cv (Cv.weak (E' := (((Env.none.upd 0 (.ro (Rd.slice rdS_quireref04_Item) false x4827)).upd 4 (.whole 0)).upd 5 (.lit (.int .i64 x5667)))) (M' := (Mem.nil.push (.row 5 (Rd.int .u8) (x5668 ++ ([(IntKind.wrap .u8 x5945.fByte)] : List Int))))) [3] hnp ⟨rfl, ⟨trivial, .inr ⟨rfl, rfl, rfl⟩⟩, by decide, rfl, trivial⟩ (LeE.upd rfl rfl (LeE.upd rfl rfl (LeE.upd rfl rfl (LeE.none rfl rfl))))) rfl ?_
              refine W.now ?_
              refine Then.x ?_
              refine InBlock.x0 ?_
              have q0 := Option.some.inj H
              subst q0
              exact ⟨rfl, rfl, rfl⟩
        · replace H := cnf hb H
          refine WP.skipW ?_
          refine W.now ?_
          refine Then.n ?_
          refine WP.seq ?_
          refine WP.seq ?_
          obtain ⟨x6014, H6022, H⟩ := bnd H
          refine WP.monoW (Q := fun x E M => x = .normal ∧ E = (((((Env.none.upd 0 (.ro (Rd.slice rdS_quireref04_Item) false x4827)).upd 4 (.whole 0)).upd 5 (.lit (.int .i64 x5667))).upd 6 (.ptr 1 0)).upd 82 (.lit (.bool x6014))) ∧ M = ((Mem.nil.push (.row 5 (Rd.int .u8) x5668)).push (.cells 43 [.lit (.int .i64 x5945.fByte), .lit (.int .i64 x5945.fLen), .lit (.int .i64 x5945.fDist)]))) ?_ ?_
          · clear H
            have H := H6022
            clear H6022
            refine WP.region ?_
            refine WPL.q (q_fieldAddr fi43_0 rfl rfl) rfl ?_
            refine WPL.q (q_load sc3 rfl rfl rfl) rfl ?_
            refine WPL.q (q_neq rfl rfl) rfl ?_
            refine WPL.q (q_mv (v := .lit (.bool _)) rfl) rfl ?_
            refine WPL.split (t := 48) (b := (!decide (x5945.fByte = 0))) rfl (fun hb6014 => ?_) (fun hb6014 => ?_)
            · replace H := cnt hb6014 H
              refine WPL.skipg (b' := true) rfl rfl (lb hb6014) rfl rfl ?_
              refine WPL.skipg (b' := true) rfl rfl (lb hb6014) rfl rfl ?_
              refine WPL.skipg (b' := true) rfl rfl (lb hb6014) rfl rfl ?_
              refine WPL.q (q_pickT (v := .lit (.bool _)) (lb hb6014) rfl) rfl ?_
              refine WPL.q (q_mv (v := .lit (.bool _)) rfl) rfl ?_
              refine WPL.skipg (b' := true) rfl rfl rfl rfl rfl ?_
              refine WPL.skipg (b' := true) rfl rfl rfl rfl rfl ?_
              refine WPL.skipg (b' := true) rfl rfl rfl rfl rfl ?_
              refine WPL.q (q_pickT (v := .lit (.bool _)) rfl rfl) rfl ?_
              refine WPL.q (q_mv (v := .lit (.bool _)) rfl) rfl ?_
              refine WPL.skipg (b' := true) rfl rfl rfl rfl rfl ?_
              refine WPL.skipg (b' := true) rfl rfl rfl rfl rfl ?_
              refine WPL.skipg (b' := true) rfl rfl rfl rfl rfl ?_
              refine WPL.q (q_pickT (v := .lit (.bool _)) rfl rfl) rfl ?_
              refine WPL.q (q_mv (v := .lit (.bool _)) rfl) rfl ?_
              refine WPL.skipg (b' := true) rfl rfl rfl rfl rfl ?_
              refine WPL.skipg (b' := true) rfl rfl rfl rfl rfl ?_
              refine WPL.skipg (b' := true) rfl rfl rfl rfl rfl ?_
              refine WPL.q (q_pickT (v := .lit (.bool _)) rfl rfl) rfl ?_
              refine WPL.q (q_mv (v := .lit (.bool _)) rfl) rfl ?_
              refine WPL.skipg (b' := true) rfl rfl rfl rfl rfl ?_
              refine WPL.skipg (b' := true) rfl rfl rfl rfl rfl ?_
              refine WPL.skipg (b' := true) rfl rfl rfl rfl rfl ?_
              refine WPL.skipg (b' := true) rfl rfl rfl rfl rfl ?_
              refine WPL.skipg (b' := true) rfl rfl rfl rfl rfl ?_
              refine WPL.q (q_pickT (v := .lit (.bool _)) rfl rfl) rfl ?_
              refine WPL.q (q_mv (v := .lit (.bool _)) rfl) rfl ?_
              refine WPL.skipg (b' := true) rfl rfl rfl rfl rfl ?_
              refine WPL.skipg (b' := true) rfl rfl rfl rfl rfl ?_
              refine WPL.skipg (b' := true) rfl rfl rfl rfl rfl ?_
              refine WPL.skipg (b' := true) rfl rfl rfl rfl rfl ?_
              refine WPL.skipg (b' := true) rfl rfl rfl rfl rfl ?_
              refine WPL.skipg (b' := true) rfl rfl rfl rfl rfl ?_
              refine WPL.q (q_pickT (v := .lit (.bool _)) rfl rfl) rfl ?_
              refine WPL.nilW ?_
              refine W.cv (Cv.weak (E' := (((((Env.none.upd 0 (.ro (Rd.slice rdS_quireref04_Item) false x4827)).upd 4 (.whole 0)).upd 5 (.lit (.int .i64 x5667))).upd 6 (.ptr 1 0)).upd 82 (.lit (.bool true)))) (M' := ((Mem.nil.push (.row 5 (Rd.int .u8) x5668)).push (.cells 43 [.lit (.int .i64 x5945.fByte), .lit (.int .i64 x5945.fLen), .lit (.int .i64 x5945.fDist)]))) [0, 1] hnp ⟨rfl, ⟨⟨trivial, .inr ⟨rfl, rfl, rfl⟩⟩, .inr ⟨rfl, rfl, rfl⟩⟩, by decide, rfl, trivial⟩ (LeE.upd rfl rfl (LeE.upd rfl rfl (LeE.upd rfl rfl (LeE.upd rfl rfl (LeE.upd rfl rfl (LeE.none rfl rfl))))))) rfl ?_
              refine W.now ?_
              have q0 := (Option.some.inj H)
              subst q0
              exact ⟨rfl, rfl, rfl⟩
            · replace H := cnf hb6014 H
              refine WPL.qg rfl rfl (lb hb6014) (q_fieldAddr fi43_1 rfl rfl) rfl ?_
              refine WPL.qg rfl rfl (lb hb6014) (q_load sc3 rfl rfl rfl) rfl ?_
              refine WPL.qg rfl rfl (lb hb6014) (q_lss rfl rfl) rfl ?_
              refine WPL.q (q_pickF (v := .lit (.bool _)) (lb hb6014) rfl) rfl ?_
              refine WPL.q (q_mv (v := .lit (.bool _)) rfl) rfl ?_
              refine WPL.split (t := 53) (b := (decide (x5945.fLen < 3))) rfl (fun hb6015 => ?_) (fun hb6015 => ?_)
              · replace H := cnt hb6015 H
                refine WPL.skipg (b' := true) rfl rfl (lb hb6015) rfl rfl ?_
                refine WPL.skipg (b' := true) rfl rfl (lb hb6015) rfl rfl ?_
                refine WPL.skipg (b' := true) rfl rfl (lb hb6015) rfl rfl ?_
                refine WPL.q (q_pickT (v := .lit (.bool _)) (lb hb6015) rfl) rfl ?_
                refine WPL.q (q_mv (v := .lit (.bool _)) rfl) rfl ?_
                refine WPL.skipg (b' := true) rfl rfl rfl rfl rfl ?_
                refine WPL.skipg (b' := true) rfl rfl rfl rfl rfl ?_
                refine WPL.skipg (b' := true) rfl rfl rfl rfl rfl ?_
                refine WPL.q (q_pickT (v := .lit (.bool _)) rfl rfl) rfl ?_
                refine WPL.q (q_mv (v := .lit (.bool _)) rfl) rfl ?_
                refine WPL.skipg (b' := true) rfl rfl rfl rfl rfl ?_
                refine WPL.skipg (b' := true) rfl rfl rfl rfl rfl ?_
                refine WPL.skipg (b' := true) rfl rfl rfl rfl rfl ?_
                refine WPL.q (q_pickT (v := .lit (.bool _)) rfl rfl) rfl ?_
                refine WPL.q (q_mv (v := .lit (.bool _)) rfl) rfl ?_
                refine WPL.skipg (b' := true) rfl rfl rfl rfl rfl ?_
                refine WPL.skipg (b' := true) rfl rfl rfl rfl rfl ?_
                refine WPL.skipg (b' := true) rfl rfl rfl rfl rfl ?_
                refine WPL.skipg (b' := true) rfl rfl rfl rfl rfl ?_
                refine WPL.skipg (b' := true) rfl rfl rfl rfl rfl ?_
                refine WPL.q (q_pickT (v := .lit (.bool _)) rfl rfl) rfl ?_
                refine WPL.q (q_mv (v := .lit (.bool _)) rfl) rfl ?_
                refine WPL.skipg (b' := true) rfl rfl rfl rfl rfl ?_
                refine WPL.skipg (b' := true) rfl rfl rfl rfl rfl ?_
                refine WPL.skipg (b' := true) rfl rfl rfl rfl rfl ?_
                refine WPL.skipg (b' := true) rfl rfl rfl rfl rfl ?_
                refine WPL.skipg (b' := true) rfl rfl rfl rfl rfl ?_
                refine WPL.skipg (b' := true) rfl rfl rfl rfl rfl ?_
                refine WPL.q (q_pickT (v := .lit (.bool _)) rfl rfl) rfl ?_
                refine WPL.nilW ?_
                refine W.cv (Cv.weak (E' := (((((Env.none.upd 0 (.ro (Rd.slice rdS_quireref04_Item) false x4827)).upd 4 (.whole 0)).upd 5 (.lit (.int .i64 x5667))).upd 6 (.ptr 1 0)).upd 82 (.lit (.bool true)))) (M' := ((Mem.nil.push (.row 5 (Rd.int .u8) x5668)).push (.cells 43 [.lit (.int .i64 x5945.fByte), .lit (.int .i64 x5945.fLen), .lit (.int .i64 x5945.fDist)]))) [0, 1] hnp ⟨rfl, ⟨⟨trivial, .inr ⟨rfl, rfl, rfl⟩⟩, .inr ⟨rfl, rfl, rfl⟩⟩, by decide, rfl, trivial⟩ (LeE.upd rfl rfl (LeE.upd rfl rfl (LeE.upd rfl rfl (LeE.upd rfl rfl (LeE.upd rfl rfl (LeE.none rfl rfl))))))) rfl ?_
                refine W.now ?_
                have q0 := (Option.some.inj H)
                subst q0
                exact ⟨rfl, rfl, rfl⟩
              · replace H := cnf hb6015 H
                refine WPL.qg rfl rfl (lb hb6015) (q_fieldAddr fi43_1 rfl rfl) rfl ?_
                refine WPL.qg rfl rfl (lb hb6015) (q_load sc3 rfl rfl rfl) rfl ?_
                refine WPL.qg rfl rfl (lb hb6015) (q_gtr rfl rfl) rfl ?_
                refine WPL.q (q_pickF (v := .lit (.bool _)) (lb hb6015) rfl) rfl ?_
                refine WPL.q (q_mv (v := .lit (.bool _)) rfl) rfl ?_
                refine WPL.split (t := 58) (b := (decide (258 < x5945.fLen))) rfl (fun hb6016 => ?_) (fun hb6016 => ?_)
                · replace H := cnt hb6016 H
                  refine WPL.skipg (b' := true) rfl rfl (lb hb6016) rfl rfl ?_
                  refine WPL.skipg (b' := true) rfl rfl (lb hb6016) rfl rfl ?_
                  refine WPL.skipg (b' := true) rfl rfl (lb hb6016) rfl rfl ?_
                  refine WPL.q (q_pickT (v := .lit (.bool _)) (lb hb6016) rfl) rfl ?_
                  refine WPL.q (q_mv (v := .lit (.bool _)) rfl) rfl ?_
                  refine WPL.skipg (b' := true) rfl rfl rfl rfl rfl ?_
                  refine WPL.skipg (b' := true) rfl rfl rfl rfl rfl ?_
                  refine WPL.skipg (b' := true) rfl rfl rfl rfl rfl ?_
                  refine WPL.q (q_pickT (v := .lit (.bool _)) rfl rfl) rfl ?_
                  refine WPL.q (q_mv (v := .lit (.bool _)) rfl) rfl ?_
                  refine WPL.skipg (b' := true) rfl rfl rfl rfl rfl ?_
                  refine WPL.skipg (b' := true) rfl rfl rfl rfl rfl ?_
                  refine WPL.skipg (b' := true) rfl rfl rfl rfl rfl ?_
                  refine WPL.skipg (b' := true) rfl rfl rfl rfl rfl ?_
                  refine WPL.skipg (b' := true) rfl rfl rfl rfl rfl ?_
                  refine WPL.q (q_pickT (v := .lit (.bool _)) rfl rfl) rfl ?_
                  refine WPL.q (q_mv (v := .lit (.bool _)) rfl) rfl ?_
                  refine WPL.skipg (b' := true) rfl rfl rfl rfl rfl ?_
                  refine WPL.skipg (b' := true) rfl rfl rfl rfl rfl ?_
                  refine WPL.skipg (b' := true) rfl rfl rfl rfl rfl ?_
                  refine WPL.skipg (b' := true) rfl rfl rfl rfl rfl ?_
                  refine WPL.skipg (b' := true) rfl rfl rfl rfl rfl ?_
                  refine WPL.skipg (b' := true) rfl rfl rfl rfl rfl ?_
                  refine WPL.q (q_pickT (v := .lit (.bool _)) rfl rfl) rfl ?_
                  refine WPL.nilW ?_
                  refine W.cv (Cv.weak (E' := (((((Env.none.upd 0 (.ro (Rd.slice rdS_quireref04_Item) false x4827)).upd 4 (.whole 0)).upd 5 (.lit (.int .i64 x5667))).upd 6 (.ptr 1 0)).upd 82 (.lit (.bool true)))) (M' := ((Mem.nil.push (.row 5 (Rd.int .u8) x5668)).push (.cells 43 [.lit (.int .i64 x5945.fByte), .lit (.int .i64 x5945.fLen), .lit (.int .i64 x5945.fDist)]))) [0, 1] hnp ⟨rfl, ⟨⟨trivial, .inr ⟨rfl, rfl, rfl⟩⟩, .inr ⟨rfl, rfl, rfl⟩⟩, by decide, rfl, trivial⟩ (LeE.upd rfl rfl (LeE.upd rfl rfl (LeE.upd rfl rfl (LeE.upd rfl rfl (LeE.upd rfl rfl (LeE.none rfl rfl))))))) rfl ?_
                  refine W.now ?_
                  have q0 := (Option.some.inj H)
                  subst q0
                  exact ⟨rfl, rfl, rfl⟩
                · replace H := cnf hb6016 H
                  refine WPL.qg rfl rfl (lb hb6016) (q_fieldAddr fi43_2 rfl rfl) rfl ?_
                  refine WPL.qg rfl rfl (lb hb6016) (q_load sc3 rfl rfl rfl) rfl ?_
                  refine WPL.qg rfl rfl (lb hb6016) (q_lss rfl rfl) rfl ?_
                  refine WPL.q (q_pickF (v := .lit (.bool _)) (lb hb6016) rfl) rfl ?_
                  refine WPL.q (q_mv (v := .lit (.bool _)) rfl) rfl ?_
                  refine WPL.split (t := 63) (b := (decide (x5945.fDist < 1))) rfl (fun hb6017 => ?_) (fun hb6017 => ?_)
                  · replace H := cnt hb6017 H
                    refine WPL.skipg (b' := true) rfl rfl (lb hb6017) rfl rfl ?_
                    refine WPL.skipg (b' := true) rfl rfl (lb hb6017) rfl rfl ?_
                    refine WPL.skipg (b' := true) rfl rfl (lb hb6017) rfl rfl ?_
                    refine WPL.q (q_pickT (v := .lit (.bool _)) (lb hb6017) rfl) rfl ?_
                    refine WPL.q (q_mv (v := .lit (.bool _)) rfl) rfl ?_
                    refine WPL.skipg (b' := true) rfl rfl rfl rfl rfl ?_
                    refine WPL.skipg (b' := true) rfl rfl rfl rfl rfl ?_
                    refine WPL.skipg (b' := true) rfl rfl rfl rfl rfl ?_
                    refine WPL.skipg (b' := true) rfl rfl rfl rfl rfl ?_
                    refine WPL.skipg (b' := true) rfl rfl rfl rfl rfl ?_
                    refine WPL.q (q_pickT (v := .lit (.bool _)) rfl rfl) rfl ?_
                    refine WPL.q (q_mv (v := .lit (.bool _)) rfl) rfl ?_
                    refine WPL.skipg (b' := true) rfl rfl rfl rfl rfl ?_
                    refine WPL.skipg (b' := true) rfl rfl rfl rfl rfl ?_
                    refine WPL.skipg (b' := true) rfl rfl rfl rfl rfl ?_
                    refine WPL.skipg (b' := true) rfl rfl rfl rfl rfl ?_
                    refine WPL.skipg (b' := true) rfl rfl rfl rfl rfl ?_
                    refine WPL.skipg (b' := true) rfl rfl rfl rfl rfl ?_
                    refine WPL.q (q_pickT (v := .lit (.bool _)) rfl rfl) rfl ?_
                    refine WPL.nilW ?_
                    refine W.cv (Cv.weak (E' := (((((Env.none.upd 0 (.ro (Rd.slice rdS_quireref04_Item) false x4827)).upd 4 (.whole 0)).upd 5 (.lit (.int .i64 x5667))).upd 6 (.ptr 1 0)).upd 82 (.lit (.bool true)))) (M' := ((Mem.nil.push (.row 5 (Rd.int .u8) x5668)).push (.cells 43 [.lit (.int .i64 x5945.fByte), .lit (.int .i64 x5945.fLen), .lit (.int .i64 x5945.fDist)]))) [0, 1] hnp ⟨rfl, ⟨⟨trivial, .inr ⟨rfl, rfl, rfl⟩⟩, .inr ⟨rfl, rfl, rfl⟩⟩, by decide, rfl, trivial⟩ (LeE.upd rfl rfl (LeE.upd rfl rfl (LeE.upd rfl rfl (LeE.upd rfl rfl (LeE.upd rfl rfl (LeE.none rfl rfl))))))) rfl ?_
                    refine W.now ?_
                    have q0 := (Option.some.inj H)
                    subst q0
                    exact ⟨rfl, rfl, rfl⟩
                  · replace H := cnf hb6017 H
                    refine WPL.qg rfl rfl (lb hb6017) (q_fieldAddr fi43_2 rfl rfl) rfl ?_
                    refine WPL.qg rfl rfl (lb hb6017) (q_load sc3 rfl rfl rfl) rfl ?_
                    refine WPL.qg rfl rfl (lb hb6017) (q_gtr rfl rfl) rfl ?_
                    refine WPL.q (q_pickF (v := .lit (.bool _)) (lb hb6017) rfl) rfl ?_
                    refine WPL.q (q_mv (v := .lit (.bool _)) rfl) rfl ?_
                    refine WPL.split (t := 68) (b := (decide (32768 < x5945.fDist))) rfl (fun hb6018 => ?_) (fun hb6018 => ?_)
                    · replace H := cnt hb6018 H
                      refine WPL.skipg (b' := true) rfl rfl (lb hb6018) rfl rfl ?_
                      refine WPL.skipg (b' := true) rfl rfl (lb hb6018) rfl rfl ?_
                      refine WPL.skipg (b' := true) rfl rfl (lb hb6018) rfl rfl ?_
                      refine WPL.skipg (b' := true) rfl rfl (lb hb6018) rfl rfl ?_
                      refine WPL.skipg (b' := true) rfl rfl (lb hb6018) rfl rfl ?_
                      refine WPL.q (q_pickT (v := .lit (.bool _)) (lb hb6018) rfl) rfl ?_
                      refine WPL.q (q_mv (v := .lit (.bool _)) rfl) rfl ?_
                      refine WPL.skipg (b' := true) rfl rfl rfl rfl rfl ?_
                      refine WPL.skipg (b' := true) rfl rfl rfl rfl rfl ?_
                      refine WPL.skipg (b' := true) rfl rfl rfl rfl rfl ?_
                      refine WPL.skipg (b' := true) rfl rfl rfl rfl rfl ?_
                      refine WPL.skipg (b' := true) rfl rfl rfl rfl rfl ?_
                      refine WPL.skipg (b' := true) rfl rfl rfl rfl rfl ?_
                      refine WPL.q (q_pickT (v := .lit (.bool _)) rfl rfl) rfl ?_
                      refine WPL.nilW ?_
                      refine W.cv (Cv.weak (E' := (((((Env.none.upd 0 (.ro (Rd.slice rdS_quireref04_Item) false x4827)).upd 4 (.whole 0)).upd 5 (.lit (.int .i64 x5667))).upd 6 (.ptr 1 0)).upd 82 (.lit (.bool true)))) (M' := ((Mem.nil.push (.row 5 (Rd.int .u8) x5668)).push (.cells 43 [.lit (.int .i64 x5945.fByte), .lit (.int .i64 x5945.fLen), .lit (.int .i64 x5945.fDist)]))) [0, 1] hnp ⟨rfl, ⟨⟨trivial, .inr ⟨rfl, rfl, rfl⟩⟩, .inr ⟨rfl, rfl, rfl⟩⟩, by decide, rfl, trivial⟩ (LeE.upd rfl rfl (LeE.upd rfl rfl (LeE.upd rfl rfl (LeE.upd rfl rfl (LeE.upd rfl rfl (LeE.none rfl rfl))))))) rfl ?_
                      refine W.now ?_
                      have q0 := (Option.some.inj H)
                      subst q0
                      exact ⟨rfl, rfl, rfl⟩
                    · replace H := cnf hb6018 H
                      refine WPL.qg rfl rfl (lb hb6018) (q_fieldAddr fi43_2 rfl rfl) rfl ?_
                      refine WPL.qg rfl rfl (lb hb6018) (q_load sc3 rfl rfl rfl) rfl ?_
                      refine WPL.qg rfl rfl (lb hb6018) (q_mv (v := .whole _) rfl) rfl ?_
                      refine WPL.qg rfl rfl (lb hb6018) (q_len_row sl22 rfl rfl) rfl ?_
                      obtain ⟨x6020, h6020, H⟩ := bnd H
                      refine WPL.qg rfl rfl (lb hb6018) (q_nm (q_gtr rfl rfl) (nm_bool h6020)) rfl ?_
                      refine WPL.q (q_pickF (v := .lit (.bool _)) (lb hb6018) rfl) rfl ?_
                      refine WPL.q (q_mv (v := .lit (.bool _)) rfl) rfl ?_
                      refine WPL.split (t := 75) (b := x6020) rfl (fun hb6020 => ?_) (fun hb6020 => ?_)
                      · replace H := cnt hb6020 H
                        refine WPL.skipg (b' := true) rfl rfl (lb hb6020) rfl rfl ?_
                        refine WPL.skipg (b' := true) rfl rfl (lb hb6020) rfl rfl ?_
                        refine WPL.skipg (b' := true) rfl rfl (lb hb6020) rfl rfl ?_
                        refine WPL.skipg (b' := true) rfl rfl (lb hb6020) rfl rfl ?_
                        refine WPL.skipg (b' := true) rfl rfl (lb hb6020) rfl rfl ?_
                        refine WPL.skipg (b' := true) rfl rfl (lb hb6020) rfl rfl ?_
                        refine WPL.q (q_pickT (v := .lit (.bool _)) (lb hb6020) rfl) rfl ?_
                        refine WPL.nilW ?_
                        refine W.cv (Cv.weak (E' := (((((Env.none.upd 0 (.ro (Rd.slice rdS_quireref04_Item) false x4827)).upd 4 (.whole 0)).upd 5 (.lit (.int .i64 x5667))).upd 6 (.ptr 1 0)).upd 82 (.lit (.bool true)))) (M' := ((Mem.nil.push (.row 5 (Rd.int .u8) x5668)).push (.cells 43 [.lit (.int .i64 x5945.fByte), .lit (.int .i64 x5945.fLen), .lit (.int .i64 x5945.fDist)]))) [0, 1] hnp ⟨rfl, ⟨⟨trivial, .inr ⟨rfl, rfl, rfl⟩⟩, .inr ⟨rfl, rfl, rfl⟩⟩, by decide, rfl, trivial⟩ (LeE.upd rfl rfl (LeE.upd rfl rfl (LeE.upd rfl rfl (LeE.upd rfl rfl (LeE.upd rfl rfl (LeE.none rfl rfl))))))) rfl ?_
                        refine W.now ?_
                        have q0 := (Option.some.inj H)
                        subst q0
                        exact ⟨rfl, rfl, rfl⟩
                      · replace H := cnf hb6020 H
                        refine WPL.qg rfl rfl (lb hb6020) (q_fieldAddr fi43_1 rfl rfl) rfl ?_
                        refine WPL.qg rfl rfl (lb hb6020) (q_load sc3 rfl rfl rfl) rfl ?_
                        refine WPL.qg rfl rfl (lb hb6020) (q_mv (v := .whole _) rfl) rfl ?_
                        refine WPL.qg rfl rfl (lb hb6020) (q_len_row sl22 rfl rfl) rfl ?_
                        obtain ⟨x6022, h6022, H⟩ := bnd H
                        refine WPL.qg rfl rfl (lb hb6020) (q_nm (q_sub rfl rfl) (nm_int h6022)) rfl ?_
                        refine WPL.qg rfl rfl (lb hb6020) (q_gtr rfl rfl) rfl ?_
                        refine WPL.q (q_pickF (v := .lit (.bool _)) (lb hb6020) rfl) rfl ?_
                        refine WPL.nilW ?_
                        refine W.cv (Cv.weak (E' := (((((Env.none.upd 0 (.ro (Rd.slice rdS_quireref04_Item) false x4827)).upd 4 (.whole 0)).upd 5 (.lit (.int .i64 x5667))).upd 6 (.ptr 1 0)).upd 82 (.lit (.bool (decide (x6022 < x5945.fLen)))))) (M' := ((Mem.nil.push (.row 5 (Rd.int .u8) x5668)).push (.cells 43 [.lit (.int .i64 x5945.fByte), .lit (.int .i64 x5945.fLen), .lit (.int .i64 x5945.fDist)]))) [0, 1] hnp ⟨rfl, ⟨⟨trivial, .inr ⟨rfl, rfl, rfl⟩⟩, .inr ⟨rfl, rfl, rfl⟩⟩, by decide, rfl, trivial⟩ (LeE.upd rfl rfl (LeE.upd rfl rfl (LeE.upd rfl rfl (LeE.upd rfl rfl (LeE.upd rfl rfl (LeE.none rfl rfl))))))) rfl ?_
                        refine W.now ?_
                        have q0 := (Option.some.inj H)
                        subst q0
                        exact ⟨rfl, rfl, rfl⟩
          · rintro _ _ _ ⟨rfl, rfl, rfl⟩
            refine W.now ?_
            refine Then.n ?_
            refine WP.cond (t := x6014) rfl (fun hb => ?_) (fun hb => ?_)
            · replace H := cnt hb H
              refine WP.seq ?_
              refine WP.region ?_
              refine WPL.q (q_as (v := .lit _) rfl) rfl ?_
              refine WPL.q (q_as (v := .lit (.bool _)) rfl) rfl ?_
              refine WPL.nilW ?_
              refine W.now ?_
              refine Then.n ?_
              refine WP.retW ?_
              refine W.cv (Cv.weak (E' := ((Env.none.upd 2 (.lit (.slice none 0 0))).upd 3 (.lit (.bool false)))) (M' := Mem.nil) [] hnp ⟨rfl, trivial, by decide, rfl, trivial⟩ (LeE.upd rfl rfl (LeE.upd rfl rfl (LeE.none rfl rfl)))) rfl ?_
              refine W.now ?_
              refine Then.r ?_
              refine InBlock.r ?_
              have q0 := Option.some.inj H
              subst q0
              exact ⟨rfl, rfl, rfl⟩
            · replace H := cnf hb H
              refine WP.skipW ?_
              refine W.now ?_
              refine Then.n ?_
              refine WP.seq ?_
              refine WP.region ?_
              refine WPL.q (q_as (v := .lit (.int _ _)) rfl) rfl ?_
              refine WPL.nilW ?_
              refine W.now ?_
              refine Then.n ?_
              refine WP.block ?_
              refine WP.cv (Cv.weak (E' := (((((Env.none.upd 0 (.ro (Rd.slice rdS_quireref04_Item) false x4827)).upd 4 (.whole 0)).upd 5 (.lit (.int .i64 x5667))).upd 6 (.ptr 1 0)).upd 7 (.lit (.int .i64 0)))) (M' := ((Mem.nil.push (.row 5 (Rd.int .u8) x5668)).push (.cells 43 [.lit (.int .i64 x5945.fByte), .lit (.int .i64 x5945.fLen), .lit (.int .i64 x5945.fDist)]))) [0, 1] hnp ⟨rfl, ⟨⟨trivial, .inr ⟨rfl, rfl, rfl⟩⟩, .inr ⟨rfl, rfl, rfl⟩⟩, by decide, rfl, trivial⟩ (LeE.upd rfl rfl (LeE.upd rfl rfl (LeE.upd rfl rfl (LeE.upd rfl rfl (LeE.upd rfl rfl (LeE.none rfl rfl))))))) ?_
              obtain ⟨x6032, H6035, H⟩ := bnd H
              refine WP.monoW (Q := fun x E M => x = .exit 2 ∧ E = (((Env.none.upd 0 (.ro (Rd.slice rdS_quireref04_Item) false x4827)).upd 4 (.whole 0)).upd 5 (.lit (.int .i64 x5667))) ∧ M = (Mem.nil.push (.row 5 (Rd.int .u8) x6032))) ?_ ?_
              · refine WP.loop (β := Int × (List Int)) (fun n b => g_quireref04_Unparse_l1 k x5945 n b.1 b.2 = some x6032) (fun b => (((((Env.none.upd 0 (.ro (Rd.slice rdS_quireref04_Item) false x4827)).upd 4 (.whole 0)).upd 5 (.lit (.int .i64 x5667))).upd 6 (.ptr 1 0)).upd 7 (.lit (.int .i64 b.1)))) (fun b => ((Mem.nil.push (.row 5 (Rd.int .u8) b.2)).push (.cells 43 [.lit (.int .i64 x5945.fByte), .lit (.int .i64 x5945.fLen), .lit (.int .i64 x5945.fDist)]))) k (0, x5668) H6035 rfl rfl ?_
                rintro n ⟨x6027, x6028⟩ H
                obtain _ | n := n
                · exact nf rfl H
                rw [g_quireref04_Unparse_l1.eq_2] at H
                show WP _ _ _ _ (((((Env.none.upd 0 (.ro (Rd.slice rdS_quireref04_Item) false x4827)).upd 4 (.whole 0)).upd 5 (.lit (.int .i64 x5667))).upd 6 (.ptr 1 0)).upd 7 (.lit (.int .i64 x6027))) ((Mem.nil.push (.row 5 (Rd.int .u8) x6028)).push (.cells 43 [.lit (.int .i64 x5945.fByte), .lit (.int .i64 x5945.fLen), .lit (.int .i64 x5945.fDist)])) _
                refine WP.seq ?_
                refine WP.seq ?_
                refine WP.region ?_
                refine WPL.q (q_mv (v := .lit (.int _ _)) rfl) rfl ?_
                refine WPL.q (q_fieldAddr fi43_1 rfl rfl) rfl ?_
                refine WPL.q (q_load sc3 rfl rfl rfl) rfl ?_
                refine WPL.q (q_lss rfl rfl) rfl ?_
                refine WPL.nilW ?_
                refine W.now ?_
                refine Then.n ?_
                refine WP.cond (t := (decide (x6027 < x5945.fLen))) rfl (fun hb => ?_) (fun hb => ?_)
                · replace H := cnt hb H
                  refine WP.skipW ?_
                  refine W.now ?_
                  refine Then.n ?_
                  refine WP.seq ?_
                  refine WP.block ?_
                  refine WP.region ?_
                  refine WPL.q (q_mv (v := .whole _) rfl) rfl ?_
                  refine WPL.q (q_mv (v := .whole _) rfl) rfl ?_
                  refine WPL.q (q_mv (v := .whole _) rfl) rfl ?_
                  refine WPL.q (q_len_row sl22 rfl rfl) rfl ?_
                  refine WPL.q (q_fieldAddr fi43_2 rfl rfl) rfl ?_
                  refine WPL.q (q_load sc3 rfl rfl rfl) rfl ?_
                  obtain ⟨x6033, h6033, H⟩ := bnd H
                  refine WPL.q (q_nm (q_sub rfl rfl) (nm_int h6033)) rfl ?_
                  obtain ⟨x6034, h6034, H⟩ := bnd H
                  refine WPL.q (q_index_row sl22 rfl rfl rfl (ixs h6034)) rfl ?_
                  refine WPL.q (q_load_row (j := (Int.toNat x6033)) sc5 rfl rfl (ixj h6034)) rfl ?_
                  refine WPL.d (d_buildSlice (ds := ([x6034] : List Int)) (R := (Rd.int .u8)) li22 rfl rfl rfl rfl rfl (JoinRows.cons1 Joins.sc rfl JoinRows.nil) rfl rfl) rfl ?_
                  obtain ⟨h6034, H⟩ := grd H
                  refine WPL.d (d_append ap22 rfl rfl rfl rfl (src_row sl22 rfl rfl) h6034 rfl) rfl ?_
                  refine WPL.q (q_as (v := .whole _) rfl) rfl ?_
                  refine WPL.nilW ?_
                  refine W.now ?_
                  refine InBlock.n ?_
                  refine Then.n ?_
                  refine WP.region ?_
                  refine WPL.q (q_mv (v := .lit (.int _ _)) rfl) rfl ?_
                  refine WPL.q (q_add rfl rfl) rfl ?_
                  refine WPL.q (q_as (v := .lit (.int _ _)) rfl) rfl ?_
                  refine WPL.nilW ?_
                  refine W.cv (Cv.weak (E' := (((((Env.none.upd 0 (.ro (Rd.slice rdS_quireref04_Item) false x4827)).upd 4 (.whole 0)).upd 5 (.lit (.int .i64 x5667))).upd 6 (.ptr 1 0)).upd 7 (.lit (.int .i64 (IntKind.wrap .i64 (x6027 + 1)))))) (M' := ((Mem.nil.push (.row 5 (Rd.int .u8) (x6028 ++ ([x6034] : List Int)))).push (.cells 43 [.lit (.int .i64 x5945.fByte), .lit (.int .i64 x5945.fLen), .lit (.int .i64 x5945.fDist)]))) [3, 1] hnp ⟨rfl, ⟨⟨trivial, .inr ⟨rfl, rfl, rfl⟩⟩, .inr ⟨rfl, rfl, rfl⟩⟩, by decide, rfl, trivial⟩ (LeE.upd rfl rfl (LeE.upd rfl rfl (LeE.upd rfl rfl (LeE.upd rfl rfl (LeE.upd rfl rfl (LeE.none rfl rfl))))))) rfl ?_
                  refine W.now ?_
                  exact Then.n ⟨n, ((IntKind.wrap .i64 (x6027 + 1)), (x6028 ++ ([x6034] : List Int))), Nat.lt_succ_self n, H, rfl, rfl⟩
                · replace H := cnf hb H
                  refine WP.exitW ?_
                  refine W.cv (Cv.weak (E' := (((Env.none.upd 0 (.ro (Rd.slice rdS_quireref04_Item) false x4827)).upd 4 (.whole 0)).upd 5 (.lit (.int .i64 x5667)))) (M' := (Mem.nil.push (.row 5 (Rd.int .u8) x6028))) [0] hnp ⟨rfl, ⟨trivial, .inr ⟨rfl, rfl, rfl⟩⟩, by decide, rfl, trivial⟩ (LeE.upd rfl rfl (LeE.upd rfl rfl (LeE.upd rfl rfl (LeE.none rfl rfl))))) rfl ?_
                  refine W.now ?_
                  refine Then.x ?_
                  refine Then.x ?_
                  have q0 := (Option.some.inj H)
                  subst q0
                  exact ⟨rfl, rfl, rfl⟩
              · rintro _ _ _ ⟨rfl, rfl, rfl⟩
                refine W.cv (Cv.weak (E' := (((Env.none.upd 0 (.ro (Rd.slice rdS_quireref04_Item) false x4827)).upd 4 (.whole 0)).upd 5 (.lit (.int .i64 x5667)))) (M' := (Mem.nil.push (.row 5 (Rd.int .u8) x6032))) [0] hnp ⟨rfl, ⟨trivial, .inr ⟨rfl, rfl, rfl⟩⟩, by decide, rfl, trivial⟩ (LeE.upd rfl rfl (LeE.upd rfl rfl (LeE.upd rfl rfl (LeE.none rfl rfl))))) rfl ?_
                refine W.now ?_
                refine InBlock.x0 ?_
                refine InBlock.n ?_
                have q0 := Option.some.inj H
                subst q0
                exact ⟨rfl, rfl, rfl⟩
      · rcases y6038 with _ | x5944
        · rintro _ _ _ ⟨rfl, rfl, rfl⟩
          refine W.cv (Cv.weak (E' := ((Env.none.upd 2 (.lit (.slice none 0 0))).upd 3 (.lit (.bool false)))) (M' := Mem.nil) [] hnp ⟨rfl, trivial, by decide, rfl, trivial⟩ (LeE.upd rfl rfl (LeE.upd rfl rfl (LeE.none rfl rfl)))) rfl ?_
          refine W.now ?_
          refine Then.r ?_
          refine Then.r ?_
          have q0 := Option.some.inj H
          subst q0
          exact ⟨rfl, rfl, rfl⟩
        · rintro _ _ _ ⟨rfl, rfl, rfl⟩
          refine W.now ?_
          refine Then.n ?_
          refine WP.region ?_
          refine WPL.q (q_mv (v := .lit (.int _ _)) rfl) rfl ?_
          refine WPL.q (q_add rfl rfl) rfl ?_
          refine WPL.q (q_as (v := .lit (.int _ _)) rfl) rfl ?_
          refine WPL.nilW ?_
          refine W.cv (Cv.weak (E' := (((Env.none.upd 0 (.ro (Rd.slice rdS_quireref04_Item) false x4827)).upd 4 (.whole 0)).upd 5 (.lit (.int .i64 (IntKind.wrap .i64 (x5667 + 1)))))) (M' := (Mem.nil.push (.row 5 (Rd.int .u8) x5944))) [0] hnp ⟨rfl, ⟨trivial, .inr ⟨rfl, rfl, rfl⟩⟩, by decide, rfl, trivial⟩ (LeE.upd rfl rfl (LeE.upd rfl rfl (LeE.upd rfl rfl (LeE.none rfl rfl))))) rfl ?_
          refine W.now ?_
          exact Then.n ⟨n, ((IntKind.wrap .i64 (x5667 + 1)), x5944), Nat.lt_succ_self n, H, rfl, rfl⟩
    · replace H := cnf hb H
      refine WP.exitW ?_
      refine W.cv (Cv.weak (E' := (Env.none.upd 4 (.whole 0))) (M' := (Mem.nil.push (.row 5 (Rd.int .u8) x5668))) [0] hnp ⟨rfl, ⟨trivial, .inr ⟨rfl, rfl, rfl⟩⟩, by decide, rfl, trivial⟩ (LeE.upd rfl rfl (LeE.none rfl rfl))) rfl ?_
      refine W.now ?_
      refine Then.x ?_
      refine Then.x ?_
      have q0 := Option.some.inj H
      subst q0
      exact ⟨rfl, rfl, rfl⟩
  · rcases y6040 with _ | x5852
    · rintro _ _ _ ⟨rfl, rfl, rfl⟩
      refine W.cv (Cv.nilRo (Rd.int .u8) false 2 rfl) rfl ?_
      refine W.now ?_
      refine InBlock.r ?_
      refine Then.r ?_
      have q0 := (Prod.mk.inj (Option.some.inj H)).1
      have q1 := (Prod.mk.inj (Option.some.inj H)).2
      subst q0
      subst q1
      exact ⟨trivial, _, rfl, [], (.tup [.ro (Rd.slice (Rd.int .u8)) false ([] : List Int), .lit (.bool false)]), Mem.nil, ⟨rfl, trivial, by decide, rfl, trivial⟩, rfl, rfl, rfl, rfl⟩
    · rintro _ _ _ ⟨rfl, rfl, rfl⟩
      refine W.now ?_
      refine InBlock.x0 ?_
      refine Then.n ?_
      refine WP.seq ?_
      refine WP.region ?_
      refine WPL.q (q_mv (v := .whole _) rfl) rfl ?_
      refine WPL.q (q_as (v := .whole _) rfl) rfl ?_
      refine WPL.q (q_as (v := .lit (.bool _)) rfl) rfl ?_
      refine WPL.nilW ?_
      refine W.now ?_
      refine Then.n ?_
      refine WP.retW ?_
      refine W.cv (Cv.frzRow (i := 0) rfl rfl hnp rfl rfl) rfl ?_
      refine W.now ?_
      have q0 := (Prod.mk.inj (Option.some.inj H)).1
      have q1 := (Prod.mk.inj (Option.some.inj H)).2
      subst q0
      subst q1
      exact ⟨trivial, _, rfl, [], (.tup [.ro (Rd.slice (Rd.int .u8)) false x5852, .lit (.bool true)]), Mem.nil, ⟨rfl, trivial, by decide, rfl, trivial⟩, rfl, rfl, rfl, rfl⟩
end Go.Proofs.Ytbknkbenbccabaa.W
