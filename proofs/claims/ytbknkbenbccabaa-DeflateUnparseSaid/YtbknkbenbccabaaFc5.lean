/- Walks: Fc5 -/
import Derived.Test.YtbknkbenbccabaaFb
import Derived.Test.YtbknkbenbccabaaFc3
import Derived.Test.YtbknkbenbccabaaFc4
namespace Go.Proofs.Ytbknkbenbccabaa.W
open Go Go.Q Go.Proofs
set_option linter.unusedVariables false
set_option linter.unusedSimpArgs false
set_option maxRecDepth 100000 in
set_option maxHeartbeats 4000000 in
theorem s_quirelaw01_Same__b (k : Nat) (x6045 : (List Int)) (x6046 : (List Int)) (x6049 : Bool) (H : g_quirelaw01_Same k x6045 x6046 = some x6049) : Go.Q.Spec Try.prog 12 0 [.ro (Rd.slice (Rd.int .u8)) false x6045, .ro (Rd.slice (Rd.int .u8)) false x6046] Mem.nil (fun o M => o = .ret (.lit (.bool x6049)) ∧ M = Mem.nil) := by
  unfold g_quirelaw01_Same at H
  refine Go.Q.Spec.of_bodyR (rs := [.tmp 4]) (nt := 10) Try.func12 rfl rfl (by intro t T h; simp at h) rfl rfl fun cx hnp => ?_
  refine WP.seq ?_
  refine WP.region ?_
  refine WPL.q (q_as (v := .lit (.bool _)) rfl) rfl ?_
  refine WPL.nilW ?_
  refine W.now ?_
  refine Then.n ?_
  refine WP.seq ?_
  refine WP.region ?_
  refine WPL.q (q_mv (v := .ro _ _ _) rfl) rfl ?_
  refine WPL.q (q_bytes_str Try.underlying22 Try.underlying5 Try.underlying9 rfl) rfl ?_
  refine WPL.q (q_mv (v := .ro _ _ _) rfl) rfl ?_
  refine WPL.q (q_bytes_str Try.underlying22 Try.underlying5 Try.underlying9 rfl) rfl ?_
  obtain ⟨x6050, h6050, H⟩ := bnd H
  refine WPL.q (q_nm (q_eqls rfl rfl) (nm_bool h6050)) rfl ?_
  refine WPL.q (q_as (v := .lit (.bool _)) rfl) rfl ?_
  refine WPL.nilW ?_
  refine W.now ?_
  refine Then.n ?_
  refine WP.retW ?_
  refine W.now ?_
  have q0 := (Option.some.inj H)
  subst q0
  exact ⟨trivial, _, rfl, [], (.lit (.bool x6050)), Mem.nil, ⟨rfl, trivial, by decide, rfl, trivial⟩, rfl, rfl, rfl, rfl⟩
set_option maxRecDepth 100000 in
set_option maxHeartbeats 4000000 in
theorem s_quirelaw04_DeflateUnparse (k : Nat) (x4227 : (List S_quireref04_Item)) (x6064 : Bool) (H : g_quirelaw04_DeflateUnparse k x4227 = some x6064) : Go.Q.Spec Try.prog 8 0 [.ro (Rd.slice rdS_quireref04_Item) false x4227] Mem.nil (fun o M => o = .ret (.lit (.bool x6064)) ∧ M = Mem.nil) := by
  unfold g_quirelaw04_DeflateUnparse at H
  refine Go.Q.Spec.of_bodyR (rs := [.tmp 2]) (nt := 55) Try.func8 rfl rfl (by intro t T h; simp at h) rfl rfl fun cx hnp => ?_
  refine WP.seq ?_
  refine WP.region ?_
  refine WPL.q (q_as (v := .lit (.bool _)) rfl) rfl ?_
  refine WPL.nilW ?_
  refine W.now ?_
  refine Then.n ?_
  refine WP.seq ?_
  refine WP.region ?_
  refine WPL.q (q_as (v := .lit _) rfl) rfl ?_
  refine WPL.nilW ?_
  refine W.now ?_
  refine Then.n ?_
  refine WP.seq ?_
  refine WP.seq ?_
  refine WP.region ?_
  refine WPL.q (q_as (v := .lit (.int _ _)) rfl) rfl ?_
  refine WPL.nilW ?_
  refine W.now ?_
  refine Then.n ?_
  refine WP.block ?_
  refine WP.cv (Cv.vir 42 rdS_deflate_Item (N := 0) rfl 3 rfl) ?_
  refine WP.cv (Cv.weak (E' := (((Env.none.upd 0 (.ro (Rd.slice rdS_quireref04_Item) false x4227)).upd 3 (.whole 0)).upd 4 (.lit (.int .i64 0)))) (M' := (Mem.nil.push (.row 42 rdS_deflate_Item ([] : List S_deflate_Item)))) [0] hnp ⟨rfl, ⟨trivial, .inr ⟨rfl, rfl, rfl⟩⟩, by decide, rfl, trivial⟩ (LeE.upd rfl rfl (LeE.upd rfl rfl (LeE.upd rfl rfl (LeE.none rfl rfl))))) ?_
  obtain ⟨x6097, H6107, H⟩ := bnd H
  refine WP.monoW (Q := fun x E M => x = .exit 0 ∧ E = ((Env.none.upd 0 (.ro (Rd.slice rdS_quireref04_Item) false x4227)).upd 3 (.whole 0)) ∧ M = (Mem.nil.push (.row 42 rdS_deflate_Item x6097))) ?_ ?_
  · refine WP.loop (β := Int × (List S_deflate_Item)) (fun n b => g_quirelaw04_DeflateUnparse_l0 k x4227 n b.1 b.2 = some x6097) (fun b => (((Env.none.upd 0 (.ro (Rd.slice rdS_quireref04_Item) false x4227)).upd 3 (.whole 0)).upd 4 (.lit (.int .i64 b.1)))) (fun b => (Mem.nil.push (.row 42 rdS_deflate_Item b.2))) k (0, ([] : List S_deflate_Item)) H6107 rfl rfl ?_
    rintro n ⟨x6085, x6086⟩ H
    obtain _ | n := n
    · exact nf rfl H
    rw [g_quirelaw04_DeflateUnparse_l0.eq_2] at H
    show WP _ _ _ _ (((Env.none.upd 0 (.ro (Rd.slice rdS_quireref04_Item) false x4227)).upd 3 (.whole 0)).upd 4 (.lit (.int .i64 x6085))) (Mem.nil.push (.row 42 rdS_deflate_Item x6086)) _
    refine WP.seq ?_
    refine WP.seq ?_
    refine WP.region ?_
    refine WPL.q (q_mv (v := .lit (.int _ _)) rfl) rfl ?_
    refine WPL.q (q_mv (v := .ro _ _ _) rfl) rfl ?_
    refine WPL.q (q_len_ro sl40 rfl) rfl ?_
    obtain ⟨x6099, h6099, H⟩ := bnd H
    refine WPL.q (q_nm (q_lss rfl rfl) (nm_bool h6099)) rfl ?_
    refine WPL.nilW ?_
    refine W.now ?_
    refine Then.n ?_
    refine WP.cond (t := x6099) rfl (fun hb => ?_) (fun hb => ?_)
    · replace H := cnt hb H
      refine WP.skipW ?_
      refine W.now ?_
      refine Then.n ?_
      refine WP.seq ?_
      refine WP.block ?_
      refine WP.regionD' 20 [] [] mixed rfl ?_
      refine WPD.takeT 0 rfl (by kernel_rfl) (q_mv (v := .whole _) rfl) rfl ?_
      refine WPD.takeT 1 rfl (by kernel_rfl) (q_mv (v := .ro _ _ _) rfl) rfl ?_
      refine WPD.takeT 2 rfl (by kernel_rfl) (q_mv (v := .lit (.int _ _)) rfl) rfl ?_
      obtain ⟨x6104, h6104, H⟩ := bnd H
      refine WPD.takeT 3 rfl (by kernel_rfl) (q_index_ro sl40 rfl rfl rfl h6104) rfl ?_
      refine WPD.takeT 4 rfl (by kernel_rfl) (q_fieldAddr_ro fi43_0 rfl rfl S_quireref04_Item.p0 (Nat.le_of_ble_eq_true rfl)) rfl ?_
      refine WPD.takeT 5 rfl (by kernel_rfl) (q_load_sc sc3 rfl) rfl ?_
      refine WPD.takeT 6 rfl (by kernel_rfl) (q_mv (v := .ro _ _ _) rfl) rfl ?_
      refine WPD.takeT 7 rfl (by kernel_rfl) (q_mv (v := .lit (.int _ _)) rfl) rfl ?_
      obtain ⟨x6105, h6105, H⟩ := bnd H
      refine WPD.takeT 8 rfl (by kernel_rfl) (q_index_ro sl40 rfl rfl rfl h6105) rfl ?_
      refine WPD.takeT 9 rfl (by kernel_rfl) (q_fieldAddr_ro fi43_1 rfl rfl S_quireref04_Item.p1 (Nat.le_of_ble_eq_true rfl)) rfl ?_
      refine WPD.takeT 10 rfl (by kernel_rfl) (q_load_sc sc3 rfl) rfl ?_
      refine WPD.takeT 11 rfl (by kernel_rfl) (q_mv (v := .ro _ _ _) rfl) rfl ?_
      refine WPD.takeT 12 rfl (by kernel_rfl) (q_mv (v := .lit (.int _ _)) rfl) rfl ?_
      obtain ⟨x6106, h6106, H⟩ := bnd H
      refine WPD.takeT 13 rfl (by kernel_rfl) (q_index_ro sl40 rfl rfl rfl h6106) rfl ?_
      refine WPD.takeT 14 rfl (by kernel_rfl) (q_fieldAddr_ro fi43_2 rfl rfl S_quireref04_Item.p2 (Nat.le_of_ble_eq_true rfl)) rfl ?_
      refine WPD.takeT 15 rfl (by kernel_rfl) (q_load_sc sc3 rfl) rfl ?_
      refine WPD.takeT 16 rfl (by kernel_rfl) (q_build bu42 rfl) rfl ?_
      refine WPD.eff 17 [] [] rfl (by kernel_rfl) (Does.runs (d_buildSlice (ds := ([(⟨x6104.fByte, x6105.fLen, x6106.fDist⟩ : S_deflate_Item)] : List S_deflate_Item)) (R := rdS_deflate_Item) li38 rfl rfl rfl rfl rfl (JoinRows.cons (l := [.lit (.int .i64 x6104.fByte), .lit (.int .i64 x6105.fLen), .lit (.int .i64 x6106.fDist)]) (Joins.via (Joins.cons Joins.sc (Joins.cons Joins.sc (Joins.cons Joins.sc Joins.unit)))) rfl JoinRows.nil) rfl rfl)) rfl rfl ?_
      obtain ⟨h6106, H⟩ := grd H
      refine WPD.eff 18 [] [] rfl (by kernel_rfl) (Does.runs (d_append ap38 rfl rfl rfl rfl (src_row sl38 rfl rfl) h6106 rfl)) rfl rfl ?_
      refine WPD.takeT 19 rfl (by kernel_rfl) (q_as (v := .whole _) rfl) rfl ?_
      refine WPD.doneW (by kernel_rfl) ?_
      refine W.now ?_
      refine InBlock.n ?_
      refine Then.n ?_
      refine WP.region ?_
      refine WPL.q (q_mv (v := .lit (.int _ _)) rfl) rfl ?_
      refine WPL.q (q_add rfl rfl) rfl ?_
      refine WPL.q (q_as (v := .lit (.int _ _)) rfl) rfl ?_
      refine WPL.nilW ?_
      refine W.cv (Cv.weak (E' := (((Env.none.upd 0 (.ro (Rd.slice rdS_quireref04_Item) false x4227)).upd 3 (.whole 0)).upd 4 (.lit (.int .i64 (IntKind.wrap .i64 (x6085 + 1)))))) (M' := (Mem.nil.push (.row 42 rdS_deflate_Item (x6086 ++ ([(⟨x6104.fByte, x6105.fLen, x6106.fDist⟩ : S_deflate_Item)] : List S_deflate_Item))))) [2] hnp ⟨rfl, ⟨trivial, .inr ⟨rfl, rfl, rfl⟩⟩, by decide, rfl, trivial⟩ (LeE.upd rfl rfl (LeE.upd rfl rfl (LeE.upd rfl rfl (LeE.none rfl rfl))))) rfl ?_
      refine W.now ?_
      exact Then.n ⟨n, ((IntKind.wrap .i64 (x6085 + 1)), (x6086 ++ ([(⟨x6104.fByte, x6105.fLen, x6106.fDist⟩ : S_deflate_Item)] : List S_deflate_Item))), Nat.lt_succ_self n, H, rfl, rfl⟩
    · replace H := cnf hb H
      refine WP.exitW ?_
      refine W.cv (Cv.weak (E' := ((Env.none.upd 0 (.ro (Rd.slice rdS_quireref04_Item) false x4227)).upd 3 (.whole 0))) (M' := (Mem.nil.push (.row 42 rdS_deflate_Item x6086))) [0] hnp ⟨rfl, ⟨trivial, .inr ⟨rfl, rfl, rfl⟩⟩, by decide, rfl, trivial⟩ (LeE.upd rfl rfl (LeE.upd rfl rfl (LeE.none rfl rfl)))) rfl ?_
      refine W.now ?_
      refine Then.x ?_
      refine Then.x ?_
      have q0 := (Option.some.inj H)
      subst q0
      exact ⟨rfl, rfl, rfl⟩
  · rintro _ _ _ ⟨rfl, rfl, rfl⟩
    refine W.now ?_
    refine InBlock.x0 ?_
    refine Then.n ?_
    refine WP.seq ?_
    refine WP.region ?_
    refine WPL.q (q_mv (v := .whole _) rfl) rfl ?_
    obtain ⟨⟨x6110, x6111⟩, h6108, H⟩ := bnd H
    refine WPL.c (runs_call (s := []) (t := []) (N := 1) (bor := [0]) fn19 rfl (s_deflate_Unparse k x6097 x6110 x6111 h6108) ⟨rfl, trivial, by decide, rfl, trivial⟩ rfl ⟨trivial, rfl, rfl, trivial⟩ (.row rfl rfl .nil) rfl trivial rfl) rfl ?_
    refine WPL.q (q_mv (v := .tup _) rfl) rfl ?_
    refine WPL.q (q_extract rfl rfl) rfl ?_
    refine WPL.q (q_extract rfl rfl) rfl ?_
    refine WPL.q (q_as (v := .ro _ _ _) rfl) rfl ?_
    refine WPL.q (q_as (v := .lit (.bool _)) rfl) rfl ?_
    refine WPL.nilW ?_
    refine W.now ?_
    refine Then.n ?_
    refine WP.seq ?_
    refine WP.region ?_
    refine WPL.q (q_mv (v := .ro _ _ _) rfl) rfl ?_
    obtain ⟨⟨x6113, x6114⟩, h6111, H⟩ := bnd H
    refine WPL.c (runs_call (s := []) (t := []) (N := 1) (bor := []) fn18 rfl (s_quireref04_Unparse k x4227 x6113 x6114 h6111) ⟨rfl, trivial, by decide, rfl, trivial⟩ rfl trivial (.ren rfl rfl .nil) rfl trivial rfl) rfl ?_
    refine WPL.q (q_mv (v := .tup _) rfl) rfl ?_
    refine WPL.q (q_extract rfl rfl) rfl ?_
    refine WPL.q (q_extract rfl rfl) rfl ?_
    refine WPL.q (q_as (v := .ro _ _ _) rfl) rfl ?_
    refine WPL.q (q_as (v := .lit (.bool _)) rfl) rfl ?_
    refine WPL.nilW ?_
    refine W.now ?_
    refine Then.n ?_
    refine WP.seq ?_
    obtain ⟨x6121, H6127, H⟩ := bnd H
    refine WP.monoW (Q := fun x E M => x = .normal ∧ E = (Env.none.upd 2 (.lit (.bool x6121))) ∧ M = Mem.nil) ?_ ?_
    · clear H
      have H := H6127
      clear H6127
      refine WP.region ?_
      refine WPL.q (q_mv (v := .lit (.bool _)) rfl) rfl ?_
      refine WPL.q (q_mv (v := .lit (.bool _)) rfl) rfl ?_
      refine WPL.q (q_eqlb Try.underlying4 rfl rfl) rfl ?_
      refine WPL.q (q_mv (v := .lit (.bool _)) rfl) rfl ?_
      refine WPL.split (t := 47) (b := (x6111 == x6114)) rfl (fun hb6121 => ?_) (fun hb6121 => ?_)
      · replace H := cnt hb6121 H
        refine WPL.qg rfl rfl (lb hb6121) (q_mv (v := .ro _ _ _) rfl) rfl ?_
        refine WPL.qg rfl rfl (lb hb6121) (q_mv (v := .ro _ _ _) rfl) rfl ?_
        obtain ⟨x6124, h6122, H⟩ := bnd H
        refine WPL.cg rfl rfl (lb hb6121) (runs_call (s := []) (t := []) (N := 1) (bor := []) fn12 rfl (s_quirelaw01_Same__b k x6110 x6113 x6124 h6122) ⟨rfl, trivial, by decide, rfl, trivial⟩ rfl trivial (.ren rfl rfl (.ren rfl rfl .nil)) rfl trivial rfl) rfl ?_
        refine WPL.q (q_pickT (v := .lit (.bool _)) (lb hb6121) rfl) rfl ?_
        refine WPL.q (q_mv (v := .lit (.bool _)) rfl) rfl ?_
        refine WPL.split (t := 52) (b := x6124) rfl (fun hb6124 => ?_) (fun hb6124 => ?_)
        · replace H := cnt hb6124 H
          obtain ⟨x6127, h6125, H⟩ := bnd H
          refine WPL.cg rfl rfl (lb hb6124) (runs_call (s := []) (t := []) (N := 1) (bor := []) fn10 rfl (s_quirelaw04_alive k x6127 h6125) ⟨rfl, trivial, by decide, rfl, trivial⟩ rfl trivial .nil rfl trivial rfl) rfl ?_
          refine WPL.q (q_pickT (v := .lit (.bool _)) (lb hb6124) rfl) rfl ?_
          refine WPL.q (q_as (v := .lit (.bool _)) rfl) rfl ?_
          refine WPL.nilW ?_
          refine W.cv (Cv.weak (E' := (Env.none.upd 2 (.lit (.bool x6127)))) (M' := Mem.nil) [] hnp ⟨rfl, trivial, by decide, rfl, trivial⟩ (LeE.upd rfl rfl (LeE.none rfl rfl))) rfl ?_
          refine W.now ?_
          have q0 := (Option.some.inj H)
          subst q0
          exact ⟨rfl, rfl, rfl⟩
        · replace H := cnf hb6124 H
          refine WPL.skipg (b' := false) rfl rfl (lb hb6124) rfl rfl ?_
          refine WPL.q (q_pickF (v := .lit (.bool _)) (lb hb6124) rfl) rfl ?_
          refine WPL.q (q_as (v := .lit (.bool _)) rfl) rfl ?_
          refine WPL.nilW ?_
          refine W.cv (Cv.weak (E' := (Env.none.upd 2 (.lit (.bool false)))) (M' := Mem.nil) [] hnp ⟨rfl, trivial, by decide, rfl, trivial⟩ (LeE.upd rfl rfl (LeE.none rfl rfl))) rfl ?_
          refine W.now ?_
          have q0 := (Option.some.inj H)
          subst q0
          exact ⟨rfl, rfl, rfl⟩
      · replace H := cnf hb6121 H
        refine WPL.skipg (b' := false) rfl rfl (lb hb6121) rfl rfl ?_
        refine WPL.skipg (b' := false) rfl rfl (lb hb6121) rfl rfl ?_
        refine WPL.skipg (b' := false) rfl rfl (lb hb6121) rfl rfl ?_
        refine WPL.q (q_pickF (v := .lit (.bool _)) (lb hb6121) rfl) rfl ?_
        refine WPL.q (q_mv (v := .lit (.bool _)) rfl) rfl ?_
        refine WPL.skipg (b' := false) rfl rfl rfl rfl rfl ?_
        refine WPL.q (q_pickF (v := .lit (.bool _)) rfl rfl) rfl ?_
        refine WPL.q (q_as (v := .lit (.bool _)) rfl) rfl ?_
        refine WPL.nilW ?_
        refine W.cv (Cv.weak (E' := (Env.none.upd 2 (.lit (.bool false)))) (M' := Mem.nil) [] hnp ⟨rfl, trivial, by decide, rfl, trivial⟩ (LeE.upd rfl rfl (LeE.none rfl rfl))) rfl ?_
        refine W.now ?_
        have q0 := (Option.some.inj H)
        subst q0
        exact ⟨rfl, rfl, rfl⟩
    · rintro _ _ _ ⟨rfl, rfl, rfl⟩
      refine W.now ?_
      refine Then.n ?_
      refine WP.retW ?_
      refine W.now ?_
      have q0 := (Option.some.inj H)
      subst q0
      exact ⟨trivial, _, rfl, [], (.lit (.bool x6121)), Mem.nil, ⟨rfl, trivial, by decide, rfl, trivial⟩, rfl, rfl, rfl, rfl⟩
end Go.Proofs.Ytbknkbenbccabaa.W
