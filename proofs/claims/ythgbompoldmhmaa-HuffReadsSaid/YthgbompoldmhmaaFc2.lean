/- Walks: Fc2 -/
import Derived.Test.YthgbompoldmhmaaFb
import Derived.Test.YthgbompoldmhmaaFc1
namespace Go.Proofs.Ythgbompoldmhmaa.W
open Go Go.Q Go.Proofs
set_option linter.unusedVariables false
set_option linter.unusedSimpArgs false
set_option maxRecDepth 100000 in
set_option maxHeartbeats 4000000 in
theorem s45 (k : Nat) (x2584 : Int) (x2585 : Int) (x2586 : Int) (x2587 : (List S55coin)) (x2694 : (List S55coin)) (H : f45 k x2584 x2585 x2586 x2587 = some x2694) : Go.Q.Spec Try.prog 45 1 [.whole 0, .lit (.int .i64 x2584), .lit (.int .i64 x2585), .lit (.int .i64 x2586), .fn 25 []] (Mem.nil.push (.row 55 rdS55coin x2587)) (fun o M => o = .ret (.tup []) ∧ M = (Mem.nil.push (.row 55 rdS55coin x2694))) := by
  unfold f45 at H
  refine Go.Q.Spec.of_bodyR (rs := []) (nt := 58) Try.func45 rfl rfl (by intro t T h; simp at h) rfl rfl fun cx hnp => ?_
  refine WP.seq ?_
  refine WP.region ?_
  refine WPL.q (q_mv (v := .lit (.int _ _)) rfl) rfl ?_
  refine WPL.q (q_mv (v := .lit (.int _ _)) rfl) rfl ?_
  refine WPL.q (q_sub rfl rfl) rfl ?_
  refine WPL.q (q_as (v := .lit (.int _ _)) rfl) rfl ?_
  refine WPL.nilW ?_
  refine W.now ?_
  refine Then.n ?_
  refine WP.seq ?_
  refine WP.region ?_
  refine WPL.q (q_mv (v := .lit (.int _ _)) rfl) rfl ?_
  refine WPL.q (q_mv (v := .lit (.int _ _)) rfl) rfl ?_
  refine WPL.q (q_sub rfl rfl) rfl ?_
  refine WPL.q (q_as (v := .lit (.int _ _)) rfl) rfl ?_
  refine WPL.nilW ?_
  refine W.now ?_
  refine Then.n ?_
  refine WP.seq ?_
  refine WP.block ?_
  refine WP.cv (Cv.weak (E' := (((((Env.none.upd 0 (.whole 0)).upd 2 (.lit (.int .i64 x2585))).upd 4 (.fn 25 [])).upd 10 (.lit (.int .i64 (IntKind.wrap .i64 (x2585 - x2584))))).upd 11 (.lit (.int .i64 (IntKind.wrap .i64 (x2586 - x2585)))))) (M' := (Mem.nil.push (.row 55 rdS55coin x2587))) [0] hnp ⟨rfl, ⟨trivial, .inr ⟨rfl, rfl, rfl⟩⟩, by decide, rfl, ⟨trivial, rfl⟩⟩ (LeE.upd rfl rfl (LeE.upd rfl rfl (LeE.upd rfl rfl (LeE.upd rfl rfl (LeE.upd rfl rfl (LeE.none rfl rfl))))))) ?_
  obtain ⟨⟨x2716, x2717⟩, H2722, H⟩ := bnd H
  refine WP.monoW (Q := fun x E M => x = .exit 0 ∧ E = ((((Env.none.upd 0 (.whole 0)).upd 2 (.lit (.int .i64 x2585))).upd 4 (.fn 25 [])).upd 10 (.lit (.int .i64 x2716))) ∧ M = (Mem.nil.push (.row 55 rdS55coin x2717))) ?_ ?_
  · refine WP.loop (β := Int × Int × (List S55coin)) (fun n b => f45_l0 k x2585 n b.1 b.2.1 b.2.2 = some (x2716, x2717)) (fun b => (((((Env.none.upd 0 (.whole 0)).upd 2 (.lit (.int .i64 x2585))).upd 4 (.fn 25 [])).upd 10 (.lit (.int .i64 b.1))).upd 11 (.lit (.int .i64 b.2.1)))) (fun b => (Mem.nil.push (.row 55 rdS55coin b.2.2))) k ((IntKind.wrap .i64 (x2585 - x2584)), (IntKind.wrap .i64 (x2586 - x2585)), x2587) H2722 rfl rfl ?_
    rintro n ⟨x2708, x2709, x2710⟩ H
    obtain _ | n := n
    · exact nf rfl H
    rw [f45_l0.eq_2] at H
    show WP _ _ _ _ (((((Env.none.upd 0 (.whole 0)).upd 2 (.lit (.int .i64 x2585))).upd 4 (.fn 25 [])).upd 10 (.lit (.int .i64 x2708))).upd 11 (.lit (.int .i64 x2709))) (Mem.nil.push (.row 55 rdS55coin x2710)) _
    refine WP.seq ?_
    refine WP.seq ?_
    refine WP.region ?_
    refine WPL.q (q_mv (v := .lit (.int _ _)) rfl) rfl ?_
    refine WPL.q (q_mv (v := .lit (.int _ _)) rfl) rfl ?_
    refine WPL.q (q_neq rfl rfl) rfl ?_
    refine WPL.nilW ?_
    refine W.now ?_
    refine Then.n ?_
    refine WP.cond (t := (!decide (x2708 = x2709))) rfl (fun hb => ?_) (fun hb => ?_)
    · replace H := cnt hb H
      refine WP.skipW ?_
      refine W.now ?_
      refine Then.n ?_
      refine WP.block ?_
      refine WP.seq ?_
      refine WP.region ?_
      refine WPL.q (q_mv (v := .lit (.int _ _)) rfl) rfl ?_
      refine WPL.q (q_mv (v := .lit (.int _ _)) rfl) rfl ?_
      refine WPL.q (q_gtr rfl rfl) rfl ?_
      refine WPL.nilW ?_
      refine W.now ?_
      refine Then.n ?_
      refine WP.cond (t := (decide (x2709 < x2708))) rfl (fun hb => ?_) (fun hb => ?_)
      · replace H := cnt hb H
        refine WP.seq ?_
        refine WP.region ?_
        refine WPL.q (q_mv (v := .whole _) rfl) rfl ?_
        refine WPL.q (q_mv (v := .lit (.int _ _)) rfl) rfl ?_
        refine WPL.q (q_mv (v := .lit (.int _ _)) rfl) rfl ?_
        refine WPL.q (q_sub rfl rfl) rfl ?_
        refine WPL.q (q_mv (v := .lit (.int _ _)) rfl) rfl ?_
        refine WPL.q (q_mv (v := .lit (.int _ _)) rfl) rfl ?_
        refine WPL.q (q_mv (v := .fn _ _) rfl) rfl ?_
        obtain ⟨x2719, h2717, H⟩ := bnd H
        refine WPL.c (runs_call (s := [0]) (t := [0]) (N := 1) (bor := []) fn46 rfl (s46 k (IntKind.wrap .i64 (x2585 - x2708)) x2585 x2709 x2710 x2719 h2717) ⟨rfl, ⟨trivial, .inr ⟨rfl, rfl, rfl⟩⟩, by decide, rfl, trivial⟩ rfl trivial (.ren rfl rfl (.ren rfl rfl (.ren rfl rfl (.ren rfl rfl (.ren rfl rfl .nil))))) rfl ⟨trivial, rfl⟩ rfl) rfl ?_
        refine WPL.nilW ?_
        refine W.now ?_
        refine Then.n ?_
        refine WP.region ?_
        refine WPL.q (q_mv (v := .lit (.int _ _)) rfl) rfl ?_
        refine WPL.q (q_mv (v := .lit (.int _ _)) rfl) rfl ?_
        refine WPL.q (q_sub rfl rfl) rfl ?_
        refine WPL.q (q_as (v := .lit (.int _ _)) rfl) rfl ?_
        refine WPL.nilW ?_
        refine W.cv (Cv.weak (E' := (((((Env.none.upd 0 (.whole 0)).upd 2 (.lit (.int .i64 x2585))).upd 4 (.fn 25 [])).upd 10 (.lit (.int .i64 (IntKind.wrap .i64 (x2708 - x2709))))).upd 11 (.lit (.int .i64 x2709)))) (M' := (Mem.nil.push (.row 55 rdS55coin x2719))) [0] hnp ⟨rfl, ⟨trivial, .inr ⟨rfl, rfl, rfl⟩⟩, by decide, rfl, ⟨trivial, rfl⟩⟩ (LeE.upd rfl rfl (LeE.upd rfl rfl (LeE.upd rfl rfl (LeE.upd rfl rfl (LeE.upd rfl rfl (LeE.none rfl rfl))))))) rfl ?_
        refine W.now ?_
        refine InBlock.n ?_
        exact Then.n ⟨n, ((IntKind.wrap .i64 (x2708 - x2709)), x2709, x2719), Nat.lt_succ_self n, H, rfl, rfl⟩
      · replace H := cnf hb H
        refine WP.seq ?_
        refine WP.region ?_
        refine WPL.q (q_mv (v := .whole _) rfl) rfl ?_
        refine WPL.q (q_mv (v := .lit (.int _ _)) rfl) rfl ?_
        refine WPL.q (q_mv (v := .lit (.int _ _)) rfl) rfl ?_
        refine WPL.q (q_sub rfl rfl) rfl ?_
        refine WPL.q (q_mv (v := .lit (.int _ _)) rfl) rfl ?_
        refine WPL.q (q_mv (v := .lit (.int _ _)) rfl) rfl ?_
        refine WPL.q (q_add rfl rfl) rfl ?_
        refine WPL.q (q_mv (v := .lit (.int _ _)) rfl) rfl ?_
        obtain ⟨x2720, h2720, H⟩ := bnd H
        refine WPL.q (q_nm (q_sub rfl rfl) (nm_int h2720)) rfl ?_
        refine WPL.q (q_mv (v := .lit (.int _ _)) rfl) rfl ?_
        refine WPL.q (q_mv (v := .fn _ _) rfl) rfl ?_
        obtain ⟨x2722, h2720, H⟩ := bnd H
        refine WPL.c (runs_call (s := [0]) (t := [0]) (N := 1) (bor := []) fn46 rfl (s46 k (IntKind.wrap .i64 (x2585 - x2708)) x2720 x2708 x2710 x2722 h2720) ⟨rfl, ⟨trivial, .inr ⟨rfl, rfl, rfl⟩⟩, by decide, rfl, trivial⟩ rfl trivial (.ren rfl rfl (.ren rfl rfl (.ren rfl rfl (.ren rfl rfl (.ren rfl rfl .nil))))) rfl ⟨trivial, rfl⟩ rfl) rfl ?_
        refine WPL.nilW ?_
        refine W.now ?_
        refine Then.n ?_
        refine WP.region ?_
        refine WPL.q (q_mv (v := .lit (.int _ _)) rfl) rfl ?_
        refine WPL.q (q_mv (v := .lit (.int _ _)) rfl) rfl ?_
        refine WPL.q (q_sub rfl rfl) rfl ?_
        refine WPL.q (q_as (v := .lit (.int _ _)) rfl) rfl ?_
        refine WPL.nilW ?_
        refine W.cv (Cv.weak (E' := (((((Env.none.upd 0 (.whole 0)).upd 2 (.lit (.int .i64 x2585))).upd 4 (.fn 25 [])).upd 10 (.lit (.int .i64 x2708))).upd 11 (.lit (.int .i64 (IntKind.wrap .i64 (x2709 - x2708)))))) (M' := (Mem.nil.push (.row 55 rdS55coin x2722))) [0] hnp ⟨rfl, ⟨trivial, .inr ⟨rfl, rfl, rfl⟩⟩, by decide, rfl, ⟨trivial, rfl⟩⟩ (LeE.upd rfl rfl (LeE.upd rfl rfl (LeE.upd rfl rfl (LeE.upd rfl rfl (LeE.upd rfl rfl (LeE.none rfl rfl))))))) rfl ?_
        refine W.now ?_
        refine InBlock.n ?_
        exact Then.n ⟨n, (x2708, (IntKind.wrap .i64 (x2709 - x2708)), x2722), Nat.lt_succ_self n, H, rfl, rfl⟩
    · replace H := cnf hb H
      refine WP.exitW ?_
      refine W.cv (Cv.weak (E' := ((((Env.none.upd 0 (.whole 0)).upd 2 (.lit (.int .i64 x2585))).upd 4 (.fn 25 [])).upd 10 (.lit (.int .i64 x2708)))) (M' := (Mem.nil.push (.row 55 rdS55coin x2710))) [0] hnp ⟨rfl, ⟨trivial, .inr ⟨rfl, rfl, rfl⟩⟩, by decide, rfl, ⟨trivial, rfl⟩⟩ (LeE.upd rfl rfl (LeE.upd rfl rfl (LeE.upd rfl rfl (LeE.upd rfl rfl (LeE.none rfl rfl)))))) rfl ?_
      refine W.now ?_
      refine Then.x ?_
      refine Then.x ?_
      have q0 := (Prod.mk.inj (Option.some.inj H)).1
      have q1 := (Prod.mk.inj (Option.some.inj H)).2
      subst q0
      subst q1
      exact ⟨rfl, rfl, rfl⟩
  · rintro _ _ _ ⟨rfl, rfl, rfl⟩
    refine W.now ?_
    refine InBlock.x0 ?_
    refine Then.n ?_
    refine WP.region ?_
    refine WPL.q (q_mv (v := .whole _) rfl) rfl ?_
    refine WPL.q (q_mv (v := .lit (.int _ _)) rfl) rfl ?_
    refine WPL.q (q_mv (v := .lit (.int _ _)) rfl) rfl ?_
    refine WPL.q (q_sub rfl rfl) rfl ?_
    refine WPL.q (q_mv (v := .lit (.int _ _)) rfl) rfl ?_
    refine WPL.q (q_mv (v := .lit (.int _ _)) rfl) rfl ?_
    refine WPL.q (q_mv (v := .fn _ _) rfl) rfl ?_
    obtain ⟨x2725, h2723, H⟩ := bnd H
    refine WPL.c (runs_call (s := [0]) (t := [0]) (N := 1) (bor := []) fn46 rfl (s46 k (IntKind.wrap .i64 (x2585 - x2716)) x2585 x2716 x2717 x2725 h2723) ⟨rfl, ⟨trivial, .inr ⟨rfl, rfl, rfl⟩⟩, by decide, rfl, trivial⟩ rfl trivial (.ren rfl rfl (.ren rfl rfl (.ren rfl rfl (.ren rfl rfl (.ren rfl rfl .nil))))) rfl ⟨trivial, rfl⟩ rfl) rfl ?_
    refine WPL.nilW ?_
    refine W.now ?_
    have q0 := (Option.some.inj H)
    subst q0
    exact ⟨trivial, _, rfl, [0], (.tup []), (Mem.nil.push (.row 55 rdS55coin x2725)), ⟨rfl, ⟨trivial, .inr ⟨rfl, rfl, rfl⟩⟩, by decide, rfl, ⟨trivial, rfl⟩⟩, rfl, rfl, rfl, rfl⟩
set_option maxRecDepth 100000 in
set_option maxHeartbeats 4000000 in
theorem sb44 (rc2292 : Int → Int → Int → (List S55coin) → Option (List S55coin)) (hrc2292 : ∀ (x2288 : Int) (x2289 : Int) (x2290 : Int) (x2291 : (List S55coin)) (x2761 : (List S55coin)), rc2292 x2288 x2289 x2290 x2291 = some x2761 → Go.Q.Spec Try.prog 44 1 [.whole 0, .lit (.int .i64 x2288), .lit (.int .i64 x2289), .lit (.int .i64 x2290), .fn 25 []] (Mem.nil.push (.row 55 rdS55coin x2291)) (fun o M => o = .ret (.tup []) ∧ M = (Mem.nil.push (.row 55 rdS55coin x2761)))) (k : Nat) (x2288 : Int) (x2289 : Int) (x2290 : Int) (x2291 : (List S55coin)) (x2761 : (List S55coin)) (H : b44 rc2292 k x2288 x2289 x2290 x2291 = some x2761) : Go.Q.Spec Try.prog 44 1 [.whole 0, .lit (.int .i64 x2288), .lit (.int .i64 x2289), .lit (.int .i64 x2290), .fn 25 []] (Mem.nil.push (.row 55 rdS55coin x2291)) (fun o M => o = .ret (.tup []) ∧ M = (Mem.nil.push (.row 55 rdS55coin x2761))) := by
  unfold b44 at H
  refine Go.Q.Spec.of_bodyR (rs := []) (nt := 220) Try.func44 rfl rfl (by intro t T h; simp at h) rfl rfl fun cx hnp => ?_
  refine WP.seq ?_
  refine WP.seq ?_
  refine WP.region ?_
  refine WPL.q (q_mv (v := .lit (.int _ _)) rfl) rfl ?_
  refine WPL.q (q_mv (v := .lit (.int _ _)) rfl) rfl ?_
  refine WPL.q (q_sub rfl rfl) rfl ?_
  obtain ⟨x3157, h3157, H⟩ := bnd H
  refine WPL.q (q_nm (q_eql rfl rfl) (nm_bool h3157)) rfl ?_
  refine WPL.nilW ?_
  refine W.now ?_
  refine Then.n ?_
  refine WP.cond (t := x3157) rfl (fun hb => ?_) (fun hb => ?_)
  · replace H := cnt hb H
    refine WP.seq ?_
    refine WP.region ?_
    refine WPL.q (q_mv (v := .lit (.int _ _)) rfl) rfl ?_
    refine WPL.q (q_as (v := .lit (.int _ _)) rfl) rfl ?_
    refine WPL.nilW ?_
    refine W.now ?_
    refine Then.n ?_
    refine WP.seq ?_
    refine WP.region ?_
    refine WPL.q (q_mv (v := .lit (.int _ _)) rfl) rfl ?_
    refine WPL.q (q_as (v := .lit (.int _ _)) rfl) rfl ?_
    refine WPL.nilW ?_
    refine W.now ?_
    refine Then.n ?_
    refine WP.seq ?_
    refine WP.block ?_
    refine WP.cv (Cv.weak (E' := (((((Env.none.upd 0 (.whole 0)).upd 1 (.lit (.int .i64 x2288))).upd 4 (.fn 25 [])).upd 10 (.lit (.int .i64 x2289))).upd 11 (.lit (.int .i64 x2290)))) (M' := (Mem.nil.push (.row 55 rdS55coin x2291))) [0] hnp ⟨rfl, ⟨trivial, .inr ⟨rfl, rfl, rfl⟩⟩, by decide, rfl, ⟨trivial, rfl⟩⟩ (LeE.upd rfl rfl (LeE.upd rfl rfl (LeE.upd rfl rfl (LeE.upd rfl rfl (LeE.upd rfl rfl (LeE.none rfl rfl))))))) ?_
    obtain ⟨x3184, H3196, H⟩ := bnd H
    refine WP.monoW (Q := fun x E M => x = .exit 0 ∧ E = (((Env.none.upd 0 (.whole 0)).upd 1 (.lit (.int .i64 x2288))).upd 10 (.lit (.int .i64 x3184))) ∧ M = (Mem.nil.push (.row 55 rdS55coin x2291))) ?_ ?_
    · refine WP.loop (β := Int × Int) (fun n b => f44_l0 k x2288 x2291 n b.1 b.2 = some x3184) (fun b => (((((Env.none.upd 0 (.whole 0)).upd 1 (.lit (.int .i64 x2288))).upd 4 (.fn 25 [])).upd 10 (.lit (.int .i64 b.1))).upd 11 (.lit (.int .i64 b.2)))) (fun b => (Mem.nil.push (.row 55 rdS55coin x2291))) k (x2289, x2290) H3196 rfl rfl ?_
      rintro n ⟨x3170, x3171⟩ H
      obtain _ | n := n
      · exact nf rfl H
      rw [f44_l0.eq_2] at H
      show WP _ _ _ _ (((((Env.none.upd 0 (.whole 0)).upd 1 (.lit (.int .i64 x2288))).upd 4 (.fn 25 [])).upd 10 (.lit (.int .i64 x3170))).upd 11 (.lit (.int .i64 x3171))) (Mem.nil.push (.row 55 rdS55coin x2291)) _
      refine WP.seq ?_
      refine WP.seq ?_
      refine WP.region ?_
      refine WPL.q (q_mv (v := .lit (.int _ _)) rfl) rfl ?_
      refine WPL.q (q_mv (v := .lit (.int _ _)) rfl) rfl ?_
      refine WPL.q (q_lss rfl rfl) rfl ?_
      refine WPL.nilW ?_
      refine W.now ?_
      refine Then.n ?_
      refine WP.cond (t := (decide (x3170 < x3171))) rfl (fun hb => ?_) (fun hb => ?_)
      · replace H := cnt hb H
        refine WP.skipW ?_
        refine W.now ?_
        refine Then.n ?_
        refine WP.block ?_
        refine WP.seq ?_
        refine WP.region ?_
        refine WPL.q (q_mv (v := .lit (.int _ _)) rfl) rfl ?_
        refine WPL.q (q_mv (v := .lit (.int _ _)) rfl) rfl ?_
        refine WPL.q (q_add rfl rfl) rfl ?_
        obtain ⟨x3185, h3185, H⟩ := bnd H
        refine WPL.q (q_nm (q_conv Try.underlying3 Try.underlying27 rfl) (nm_int h3185)) rfl ?_
        refine WPL.q (q_shr rfl rfl rfl) rfl ?_
        refine WPL.q (q_conv Try.underlying27 Try.underlying3 rfl) rfl ?_
        refine WPL.q (q_as (v := .lit (.int _ _)) rfl) rfl ?_
        refine WPL.nilW ?_
        refine W.now ?_
        refine Then.n ?_
        refine WP.seq ?_
        refine WP.regionD' 11 [0] [] mixed rfl ?_
        refine WPD.takeT 0 rfl (by kernel_rfl) (q_mv (v := .fn _ _) rfl) rfl ?_
        refine WPD.takeT 1 rfl (by kernel_rfl) (q_mv (v := .whole _) rfl) rfl ?_
        refine WPD.takeT 2 rfl (by kernel_rfl) (q_mv (v := .lit (.int _ _)) rfl) rfl ?_
        obtain ⟨x3192, h3192, H⟩ := bnd H
        refine WPD.takeT 3 rfl (by kernel_rfl) (q_index_row sl53 rfl rfl rfl (ixs h3192)) rfl ?_
        refine WPD.takeT 5 rfl (by kernel_rfl) (q_mv (v := .whole _) rfl) rfl ?_
        refine WPD.takeT 6 rfl (by kernel_rfl) (q_mv (v := .lit (.int _ _)) rfl) rfl ?_
        obtain ⟨x3193, h3193, H⟩ := bnd H
        refine WPD.takeT 7 rfl (by kernel_rfl) (q_index_row sl53 rfl rfl rfl (ixs h3193)) rfl ?_
        refine WPD.take 4 rfl (by kernel_rfl) (q_load_rowag (j := (Int.toNat (IntKind.wrap .i64 (shrI .u64 x3185 1)))) ag55 rfl rfl (ixj h3192) rfl S55coin.sp) rfl rfl ?_
        refine WPD.take 8 rfl (by kernel_rfl) (q_load_rowag (j := (Int.toNat x2288)) ag55 rfl rfl (ixj h3193) rfl S55coin.sp) rfl rfl ?_
        obtain ⟨x3195, h3193, H⟩ := bnd H
        refine WPD.eff 9 [0] [] rfl (by kernel_rfl) (runs_call (s := []) (t := []) (N := 1) (bor := []) fn25 rfl (s25 k x3192.ffreq x3192.fsyms x3193.ffreq x3193.fsyms x3195 h3193) ⟨rfl, trivial, by decide, rfl, trivial⟩ rfl trivial (.ren rfl rfl (.ren rfl rfl .nil)) rfl trivial rfl) rfl rfl ?_
        refine WPD.takeT 10 rfl (by kernel_rfl) (q_lss rfl rfl) rfl ?_
        refine WPD.doneW (by kernel_rfl) ?_
        refine W.now ?_
        refine Then.n ?_
        refine WP.cond (t := (decide (x3195 < 0))) rfl (fun hb => ?_) (fun hb => ?_)
        · replace H := cnt hb H
          refine WP.region ?_
          refine WPL.q (q_mv (v := .lit (.int _ _)) rfl) rfl ?_
          obtain ⟨x3196, h3196, H⟩ := bnd H
          refine WPL.q (q_nm (q_add rfl rfl) (nm_int h3196)) rfl ?_
          refine WPL.q (q_as (v := .lit (.int _ _)) rfl) rfl ?_
          refine WPL.nilW ?_
          refine W.cv (Cv.weak (E' := (((((Env.none.upd 0 (.whole 0)).upd 1 (.lit (.int .i64 x2288))).upd 4 (.fn 25 [])).upd 10 (.lit (.int .i64 x3196))).upd 11 (.lit (.int .i64 x3171)))) (M' := (Mem.nil.push (.row 55 rdS55coin x2291))) [0] hnp ⟨rfl, ⟨trivial, .inr ⟨rfl, rfl, rfl⟩⟩, by decide, rfl, ⟨trivial, rfl⟩⟩ (LeE.upd rfl rfl (LeE.upd rfl rfl (LeE.upd rfl rfl (LeE.upd rfl rfl (LeE.upd rfl rfl (LeE.none rfl rfl))))))) rfl ?_
          refine W.now ?_
          refine InBlock.n ?_
          exact Then.n ⟨n, (x3196, x3171), Nat.lt_succ_self n, H, rfl, rfl⟩
        · replace H := cnf hb H
          refine WP.region ?_
          refine WPL.q (q_mv (v := .lit (.int _ _)) rfl) rfl ?_
          refine WPL.q (q_as (v := .lit (.int _ _)) rfl) rfl ?_
          refine WPL.nilW ?_
          refine W.cv (Cv.weak (E' := (((((Env.none.upd 0 (.whole 0)).upd 1 (.lit (.int .i64 x2288))).upd 4 (.fn 25 [])).upd 10 (.lit (.int .i64 x3170))).upd 11 (.lit (.int .i64 (IntKind.wrap .i64 (shrI .u64 x3185 1)))))) (M' := (Mem.nil.push (.row 55 rdS55coin x2291))) [0] hnp ⟨rfl, ⟨trivial, .inr ⟨rfl, rfl, rfl⟩⟩, by decide, rfl, ⟨trivial, rfl⟩⟩ (LeE.upd rfl rfl (LeE.upd rfl rfl (LeE.upd rfl rfl (LeE.upd rfl rfl (LeE.upd rfl rfl (LeE.none rfl rfl))))))) rfl ?_
          refine W.now ?_
          refine InBlock.n ?_
          exact Then.n ⟨n, (x3170, (IntKind.wrap .i64 (shrI .u64 x3185 1))), Nat.lt_succ_self n, H, rfl, rfl⟩
      · replace H := cnf hb H
        refine WP.exitW ?_
        refine W.cv (Cv.weak (E' := (((Env.none.upd 0 (.whole 0)).upd 1 (.lit (.int .i64 x2288))).upd 10 (.lit (.int .i64 x3170)))) (M' := (Mem.nil.push (.row 55 rdS55coin x2291))) [0] hnp ⟨rfl, ⟨trivial, .inr ⟨rfl, rfl, rfl⟩⟩, by decide, rfl, ⟨trivial, rfl⟩⟩ (LeE.upd rfl rfl (LeE.upd rfl rfl (LeE.upd rfl rfl (LeE.none rfl rfl))))) rfl ?_
        refine W.now ?_
        refine Then.x ?_
        refine Then.x ?_
        have q0 := (Option.some.inj H)
        subst q0
        exact ⟨rfl, rfl, rfl⟩
    · rintro _ _ _ ⟨rfl, rfl, rfl⟩
      refine W.now ?_
      refine InBlock.x0 ?_
      refine Then.n ?_
      refine WP.seq ?_
      refine WP.seq ?_
      refine WP.region ?_
      refine WPL.q (q_mv (v := .lit (.int _ _)) rfl) rfl ?_
      refine WPL.q (q_as (v := .lit (.int _ _)) rfl) rfl ?_
      refine WPL.nilW ?_
      refine W.now ?_
      refine Then.n ?_
      refine WP.block ?_
      refine WP.cv (Cv.weak (E' := (((Env.none.upd 0 (.whole 0)).upd 10 (.lit (.int .i64 x3184))).upd 13 (.lit (.int .i64 x2288)))) (M' := (Mem.nil.push (.row 55 rdS55coin x2291))) [0] hnp ⟨rfl, ⟨trivial, .inr ⟨rfl, rfl, rfl⟩⟩, by decide, rfl, ⟨trivial, rfl⟩⟩ (LeE.upd rfl rfl (LeE.upd rfl rfl (LeE.upd rfl rfl (LeE.none rfl rfl))))) ?_
      obtain ⟨x3230, H3245, H⟩ := bnd H
      refine WP.monoW (Q := fun x E M => x = .exit 2 ∧ E = Env.none ∧ M = (Mem.nil.push (.row 55 rdS55coin x3230))) ?_ ?_
      · refine WP.loop (β := Int × (List S55coin)) (fun n b => f44_l1 k x3184 n b.1 b.2 = some x3230) (fun b => (((Env.none.upd 0 (.whole 0)).upd 10 (.lit (.int .i64 x3184))).upd 13 (.lit (.int .i64 b.1)))) (fun b => (Mem.nil.push (.row 55 rdS55coin b.2))) k (x2288, x2291) H3245 rfl rfl ?_
        rintro n ⟨x3213, x3214⟩ H
        obtain _ | n := n
        · exact nf rfl H
        rw [f44_l1.eq_2] at H
        show WP _ _ _ _ (((Env.none.upd 0 (.whole 0)).upd 10 (.lit (.int .i64 x3184))).upd 13 (.lit (.int .i64 x3213))) (Mem.nil.push (.row 55 rdS55coin x3214)) _
        refine WP.seq ?_
        refine WP.seq ?_
        refine WP.region ?_
        refine WPL.q (q_mv (v := .lit (.int _ _)) rfl) rfl ?_
        refine WPL.q (q_mv (v := .lit (.int _ _)) rfl) rfl ?_
        refine WPL.q (q_sub rfl rfl) rfl ?_
        obtain ⟨x3232, h3232, H⟩ := bnd H
        refine WPL.q (q_nm (q_lss rfl rfl) (nm_bool h3232)) rfl ?_
        refine WPL.nilW ?_
        refine W.now ?_
        refine Then.n ?_
        refine WP.cond (t := x3232) rfl (fun hb => ?_) (fun hb => ?_)
        · replace H := cnt hb H
          refine WP.skipW ?_
          refine W.now ?_
          refine Then.n ?_
          refine WP.seq ?_
          refine WP.block ?_
          refine WP.regionD' 18 [0] [15] mixed rfl ?_
          refine WPD.takeT 0 rfl (by kernel_rfl) (q_mv (v := .whole _) rfl) rfl ?_
          refine WPD.takeT 1 rfl (by kernel_rfl) (q_mv (v := .lit (.int _ _)) rfl) rfl ?_
          refine WPD.takeT 2 rfl (by kernel_rfl) (q_mv (v := .whole _) rfl) rfl ?_
          refine WPD.takeT 3 rfl (by kernel_rfl) (q_mv (v := .lit (.int _ _)) rfl) rfl ?_
          refine WPD.takeT 4 rfl (by kernel_rfl) (q_add rfl rfl) rfl ?_
          refine WPD.takeT 5 rfl (by kernel_rfl) (q_mv (v := .whole _) rfl) rfl ?_
          refine WPD.takeT 6 rfl (by kernel_rfl) (q_mv (v := .lit (.int _ _)) rfl) rfl ?_
          refine WPD.takeT 7 rfl (by kernel_rfl) (q_add rfl rfl) rfl ?_
          obtain ⟨x3242, h3242, H⟩ := bnd H
          refine WPD.takeT 8 rfl (by kernel_rfl) (q_index_row sl53 rfl rfl rfl (ixs h3242)) rfl ?_
          refine WPD.takeT 10 rfl (by kernel_rfl) (q_mv (v := .whole _) rfl) rfl ?_
          refine WPD.takeT 11 rfl (by kernel_rfl) (q_mv (v := .lit (.int _ _)) rfl) rfl ?_
          obtain ⟨x3243, h3243, H⟩ := bnd H
          refine WPD.takeT 12 rfl (by kernel_rfl) (q_index_row sl53 rfl rfl rfl (ixs h3243)) rfl ?_
          refine WPD.take 9 rfl (by kernel_rfl) (q_load_rowag (j := (Int.toNat (IntKind.wrap .i64 (x3213 + 1)))) ag55 rfl rfl (ixj h3242) rfl S55coin.sp) rfl rfl ?_
          refine WPD.take 13 rfl (by kernel_rfl) (q_load_rowag (j := (Int.toNat x3213)) ag55 rfl rfl (ixj h3243) rfl S55coin.sp) rfl rfl ?_
          obtain ⟨x3244, h3244, H⟩ := bnd H
          refine WPD.takeT 14 rfl (by kernel_rfl) (q_index_row sl53 rfl rfl rfl (ixs h3244)) rfl ?_
          refine WPD.effS 15 [] [] rfl (by kernel_rfl) (s_store_row (j := (Int.toNat x3213)) (d := (⟨x3242.ffreq, x3242.fsyms⟩ : S55coin)) sz55 rfl rfl rfl rfl (Joins.via (Joins.cons Joins.sc (Joins.cons Joins.one Joins.unit))) (ixl h3244)) rfl ?_
          obtain ⟨x3245, h3245, H⟩ := bnd H
          refine WPD.takeT 16 rfl (by kernel_rfl) (q_index_row sl53 rfl rfl rfl (ixs h3245)) rfl ?_
          refine WPD.effS 17 [] [] rfl (by kernel_rfl) (s_store_row (j := (Int.toNat (IntKind.wrap .i64 (x3213 + 1)))) (d := (⟨x3243.ffreq, x3243.fsyms⟩ : S55coin)) sz55 rfl rfl rfl rfl (Joins.via (Joins.cons Joins.sc (Joins.cons Joins.one Joins.unit))) (ixl h3245)) rfl ?_
          refine WPD.doneW (by kernel_rfl) ?_
          refine W.now ?_
          refine InBlock.n ?_
          refine Then.n ?_
          refine WP.region ?_
          refine WPL.q (q_mv (v := .lit (.int _ _)) rfl) rfl ?_
          refine WPL.q (q_add rfl rfl) rfl ?_
          refine WPL.q (q_as (v := .lit (.int _ _)) rfl) rfl ?_
          refine WPL.nilW ?_
          refine W.cv (Cv.weak (E' := (((Env.none.upd 0 (.whole 0)).upd 10 (.lit (.int .i64 x3184))).upd 13 (.lit (.int .i64 (IntKind.wrap .i64 (x3213 + 1)))))) (M' := (Mem.nil.push (.row 55 rdS55coin (List.set (List.set x3214 (Int.toNat x3213) (⟨x3242.ffreq, x3242.fsyms⟩ : S55coin)) (Int.toNat (IntKind.wrap .i64 (x3213 + 1))) (⟨x3243.ffreq, x3243.fsyms⟩ : S55coin))))) [0] hnp ⟨rfl, ⟨trivial, .inr ⟨rfl, rfl, rfl⟩⟩, by decide, rfl, ⟨trivial, rfl⟩⟩ (LeE.upd rfl rfl (LeE.upd rfl rfl (LeE.upd rfl rfl (LeE.none rfl rfl))))) rfl ?_
          refine W.now ?_
          exact Then.n ⟨n, ((IntKind.wrap .i64 (x3213 + 1)), (List.set (List.set x3214 (Int.toNat x3213) (⟨x3242.ffreq, x3242.fsyms⟩ : S55coin)) (Int.toNat (IntKind.wrap .i64 (x3213 + 1))) (⟨x3243.ffreq, x3243.fsyms⟩ : S55coin))), Nat.lt_succ_self n, H, rfl, rfl⟩
        · replace H := cnf hb H
          refine WP.exitW ?_
          refine W.cv (Cv.weak (E' := Env.none) (M' := (Mem.nil.push (.row 55 rdS55coin x3214))) [0] hnp ⟨rfl, ⟨trivial, .inr ⟨rfl, rfl, rfl⟩⟩, by decide, rfl, ⟨trivial, rfl⟩⟩ (LeE.none rfl rfl)) rfl ?_
          refine W.now ?_
          refine Then.x ?_
          refine Then.x ?_
          have q0 := (Option.some.inj H)
          subst q0
          exact ⟨rfl, rfl, rfl⟩
      · rintro _ _ _ ⟨rfl, rfl, rfl⟩
        refine W.now ?_
        refine InBlock.x0 ?_
        refine Then.n ?_
        refine WP.retW ?_
        refine W.now ?_
        refine Then.r ?_
        have q0 := (Option.some.inj H)
        subst q0
        exact ⟨trivial, _, rfl, [0], (.tup []), (Mem.nil.push (.row 55 rdS55coin x3230)), ⟨rfl, ⟨trivial, .inr ⟨rfl, rfl, rfl⟩⟩, by decide, rfl, ⟨trivial, rfl⟩⟩, rfl, rfl, rfl, rfl⟩
  · replace H := cnf hb H
    refine WP.skipW ?_
    refine W.now ?_
    refine Then.n ?_
    refine WP.seq ?_
    refine WP.seq ?_
    refine WP.region ?_
    refine WPL.q (q_mv (v := .lit (.int _ _)) rfl) rfl ?_
    refine WPL.q (q_mv (v := .lit (.int _ _)) rfl) rfl ?_
    refine WPL.q (q_sub rfl rfl) rfl ?_
    obtain ⟨x3306, h3306, H⟩ := bnd H
    refine WPL.q (q_nm (q_eql rfl rfl) (nm_bool h3306)) rfl ?_
    refine WPL.nilW ?_
    refine W.now ?_
    refine Then.n ?_
    refine WP.cond (t := x3306) rfl (fun hb => ?_) (fun hb => ?_)
    · replace H := cnt hb H
      refine WP.seq ?_
      refine WP.region ?_
      refine WPL.q (q_mv (v := .lit (.int _ _)) rfl) rfl ?_
      refine WPL.q (q_as (v := .lit (.int _ _)) rfl) rfl ?_
      refine WPL.nilW ?_
      refine W.now ?_
      refine Then.n ?_
      refine WP.seq ?_
      refine WP.region ?_
      refine WPL.q (q_mv (v := .lit (.int _ _)) rfl) rfl ?_
      refine WPL.q (q_as (v := .lit (.int _ _)) rfl) rfl ?_
      refine WPL.nilW ?_
      refine W.now ?_
      refine Then.n ?_
      refine WP.seq ?_
      refine WP.block ?_
      refine WP.cv (Cv.weak (E' := (((((Env.none.upd 0 (.whole 0)).upd 2 (.lit (.int .i64 x2289))).upd 4 (.fn 25 [])).upd 14 (.lit (.int .i64 x2288))).upd 15 (.lit (.int .i64 x2289)))) (M' := (Mem.nil.push (.row 55 rdS55coin x2291))) [0] hnp ⟨rfl, ⟨trivial, .inr ⟨rfl, rfl, rfl⟩⟩, by decide, rfl, ⟨trivial, rfl⟩⟩ (LeE.upd rfl rfl (LeE.upd rfl rfl (LeE.upd rfl rfl (LeE.upd rfl rfl (LeE.upd rfl rfl (LeE.none rfl rfl))))))) ?_
      obtain ⟨x3333, H3345, H⟩ := bnd H
      refine WP.monoW (Q := fun x E M => x = .exit 4 ∧ E = (((Env.none.upd 0 (.whole 0)).upd 2 (.lit (.int .i64 x2289))).upd 14 (.lit (.int .i64 x3333))) ∧ M = (Mem.nil.push (.row 55 rdS55coin x2291))) ?_ ?_
      · refine WP.loop (β := Int × Int) (fun n b => f44_l2 k x2289 x2291 n b.1 b.2 = some x3333) (fun b => (((((Env.none.upd 0 (.whole 0)).upd 2 (.lit (.int .i64 x2289))).upd 4 (.fn 25 [])).upd 14 (.lit (.int .i64 b.1))).upd 15 (.lit (.int .i64 b.2)))) (fun b => (Mem.nil.push (.row 55 rdS55coin x2291))) k (x2288, x2289) H3345 rfl rfl ?_
        rintro n ⟨x3319, x3320⟩ H
        obtain _ | n := n
        · exact nf rfl H
        rw [f44_l2.eq_2] at H
        show WP _ _ _ _ (((((Env.none.upd 0 (.whole 0)).upd 2 (.lit (.int .i64 x2289))).upd 4 (.fn 25 [])).upd 14 (.lit (.int .i64 x3319))).upd 15 (.lit (.int .i64 x3320))) (Mem.nil.push (.row 55 rdS55coin x2291)) _
        refine WP.seq ?_
        refine WP.seq ?_
        refine WP.region ?_
        refine WPL.q (q_mv (v := .lit (.int _ _)) rfl) rfl ?_
        refine WPL.q (q_mv (v := .lit (.int _ _)) rfl) rfl ?_
        refine WPL.q (q_lss rfl rfl) rfl ?_
        refine WPL.nilW ?_
        refine W.now ?_
        refine Then.n ?_
        refine WP.cond (t := (decide (x3319 < x3320))) rfl (fun hb => ?_) (fun hb => ?_)
        · replace H := cnt hb H
          refine WP.skipW ?_
          refine W.now ?_
          refine Then.n ?_
          refine WP.block ?_
          refine WP.seq ?_
          refine WP.region ?_
          refine WPL.q (q_mv (v := .lit (.int _ _)) rfl) rfl ?_
          refine WPL.q (q_mv (v := .lit (.int _ _)) rfl) rfl ?_
          refine WPL.q (q_add rfl rfl) rfl ?_
          obtain ⟨x3334, h3334, H⟩ := bnd H
          refine WPL.q (q_nm (q_conv Try.underlying3 Try.underlying27 rfl) (nm_int h3334)) rfl ?_
          refine WPL.q (q_shr rfl rfl rfl) rfl ?_
          refine WPL.q (q_conv Try.underlying27 Try.underlying3 rfl) rfl ?_
          refine WPL.q (q_as (v := .lit (.int _ _)) rfl) rfl ?_
          refine WPL.nilW ?_
          refine W.now ?_
          refine Then.n ?_
          refine WP.seq ?_
          refine WP.regionD' 12 [0] [] mixed rfl ?_
          refine WPD.takeT 0 rfl (by kernel_rfl) (q_mv (v := .fn _ _) rfl) rfl ?_
          refine WPD.takeT 1 rfl (by kernel_rfl) (q_mv (v := .whole _) rfl) rfl ?_
          refine WPD.takeT 2 rfl (by kernel_rfl) (q_mv (v := .lit (.int _ _)) rfl) rfl ?_
          obtain ⟨x3341, h3341, H⟩ := bnd H
          refine WPD.takeT 3 rfl (by kernel_rfl) (q_index_row sl53 rfl rfl rfl (ixs h3341)) rfl ?_
          refine WPD.takeT 5 rfl (by kernel_rfl) (q_mv (v := .whole _) rfl) rfl ?_
          refine WPD.takeT 6 rfl (by kernel_rfl) (q_mv (v := .lit (.int _ _)) rfl) rfl ?_
          obtain ⟨x3342, h3342, H⟩ := bnd H
          refine WPD.takeT 7 rfl (by kernel_rfl) (q_index_row sl53 rfl rfl rfl (ixs h3342)) rfl ?_
          refine WPD.take 4 rfl (by kernel_rfl) (q_load_rowag (j := (Int.toNat x2289)) ag55 rfl rfl (ixj h3341) rfl S55coin.sp) rfl rfl ?_
          refine WPD.take 8 rfl (by kernel_rfl) (q_load_rowag (j := (Int.toNat (IntKind.wrap .i64 (shrI .u64 x3334 1)))) ag55 rfl rfl (ixj h3342) rfl S55coin.sp) rfl rfl ?_
          obtain ⟨x3344, h3342, H⟩ := bnd H
          refine WPD.eff 9 [0] [] rfl (by kernel_rfl) (runs_call (s := []) (t := []) (N := 1) (bor := []) fn25 rfl (s25 k x3341.ffreq x3341.fsyms x3342.ffreq x3342.fsyms x3344 h3342) ⟨rfl, trivial, by decide, rfl, trivial⟩ rfl trivial (.ren rfl rfl (.ren rfl rfl .nil)) rfl trivial rfl) rfl rfl ?_
          refine WPD.takeT 10 rfl (by kernel_rfl) (q_lss rfl rfl) rfl ?_
          refine WPD.takeT 11 rfl (by kernel_rfl) (q_not rfl) rfl ?_
          refine WPD.doneW (by kernel_rfl) ?_
          refine W.now ?_
          refine Then.n ?_
          refine WP.cond (t := (!(decide (x3344 < 0)))) rfl (fun hb => ?_) (fun hb => ?_)
          · replace H := cnt hb H
            refine WP.region ?_
            refine WPL.q (q_mv (v := .lit (.int _ _)) rfl) rfl ?_
            obtain ⟨x3345, h3345, H⟩ := bnd H
            refine WPL.q (q_nm (q_add rfl rfl) (nm_int h3345)) rfl ?_
            refine WPL.q (q_as (v := .lit (.int _ _)) rfl) rfl ?_
            refine WPL.nilW ?_
            refine W.cv (Cv.weak (E' := (((((Env.none.upd 0 (.whole 0)).upd 2 (.lit (.int .i64 x2289))).upd 4 (.fn 25 [])).upd 14 (.lit (.int .i64 x3345))).upd 15 (.lit (.int .i64 x3320)))) (M' := (Mem.nil.push (.row 55 rdS55coin x2291))) [0] hnp ⟨rfl, ⟨trivial, .inr ⟨rfl, rfl, rfl⟩⟩, by decide, rfl, ⟨trivial, rfl⟩⟩ (LeE.upd rfl rfl (LeE.upd rfl rfl (LeE.upd rfl rfl (LeE.upd rfl rfl (LeE.upd rfl rfl (LeE.none rfl rfl))))))) rfl ?_
            refine W.now ?_
            refine InBlock.n ?_
            exact Then.n ⟨n, (x3345, x3320), Nat.lt_succ_self n, H, rfl, rfl⟩
          · replace H := cnf hb H
            refine WP.region ?_
            refine WPL.q (q_mv (v := .lit (.int _ _)) rfl) rfl ?_
            refine WPL.q (q_as (v := .lit (.int _ _)) rfl) rfl ?_
            refine WPL.nilW ?_
            refine W.cv (Cv.weak (E' := (((((Env.none.upd 0 (.whole 0)).upd 2 (.lit (.int .i64 x2289))).upd 4 (.fn 25 [])).upd 14 (.lit (.int .i64 x3319))).upd 15 (.lit (.int .i64 (IntKind.wrap .i64 (shrI .u64 x3334 1)))))) (M' := (Mem.nil.push (.row 55 rdS55coin x2291))) [0] hnp ⟨rfl, ⟨trivial, .inr ⟨rfl, rfl, rfl⟩⟩, by decide, rfl, ⟨trivial, rfl⟩⟩ (LeE.upd rfl rfl (LeE.upd rfl rfl (LeE.upd rfl rfl (LeE.upd rfl rfl (LeE.upd rfl rfl (LeE.none rfl rfl))))))) rfl ?_
            refine W.now ?_
            refine InBlock.n ?_
            exact Then.n ⟨n, (x3319, (IntKind.wrap .i64 (shrI .u64 x3334 1))), Nat.lt_succ_self n, H, rfl, rfl⟩
        · replace H := cnf hb H
          refine WP.exitW ?_
          refine W.cv (Cv.weak (E' := (((Env.none.upd 0 (.whole 0)).upd 2 (.lit (.int .i64 x2289))).upd 14 (.lit (.int .i64 x3319)))) (M' := (Mem.nil.push (.row 55 rdS55coin x2291))) [0] hnp ⟨rfl, ⟨trivial, .inr ⟨rfl, rfl, rfl⟩⟩, by decide, rfl, ⟨trivial, rfl⟩⟩ (LeE.upd rfl rfl (LeE.upd rfl rfl (LeE.upd rfl rfl (LeE.none rfl rfl))))) rfl ?_
          refine W.now ?_
          refine Then.x ?_
          refine Then.x ?_
          have q0 := (Option.some.inj H)
          subst q0
          exact ⟨rfl, rfl, rfl⟩
      · rintro _ _ _ ⟨rfl, rfl, rfl⟩
        refine W.now ?_
        refine InBlock.x0 ?_
        refine Then.n ?_
        refine WP.seq ?_
        refine WP.seq ?_
        refine WP.region ?_
        refine WPL.q (q_mv (v := .lit (.int _ _)) rfl) rfl ?_
        refine WPL.q (q_as (v := .lit (.int _ _)) rfl) rfl ?_
        refine WPL.nilW ?_
        refine W.now ?_
        refine Then.n ?_
        refine WP.block ?_
        refine WP.cv (Cv.weak (E' := (((Env.none.upd 0 (.whole 0)).upd 14 (.lit (.int .i64 x3333))).upd 17 (.lit (.int .i64 x2289)))) (M' := (Mem.nil.push (.row 55 rdS55coin x2291))) [0] hnp ⟨rfl, ⟨trivial, .inr ⟨rfl, rfl, rfl⟩⟩, by decide, rfl, ⟨trivial, rfl⟩⟩ (LeE.upd rfl rfl (LeE.upd rfl rfl (LeE.upd rfl rfl (LeE.none rfl rfl))))) ?_
        obtain ⟨x3375, H3388, H⟩ := bnd H
        refine WP.monoW (Q := fun x E M => x = .exit 6 ∧ E = Env.none ∧ M = (Mem.nil.push (.row 55 rdS55coin x3375))) ?_ ?_
        · refine WP.loop (β := Int × (List S55coin)) (fun n b => f44_l3 k x3333 n b.1 b.2 = some x3375) (fun b => (((Env.none.upd 0 (.whole 0)).upd 14 (.lit (.int .i64 x3333))).upd 17 (.lit (.int .i64 b.1)))) (fun b => (Mem.nil.push (.row 55 rdS55coin b.2))) k (x2289, x2291) H3388 rfl rfl ?_
          rintro n ⟨x3360, x3361⟩ H
          obtain _ | n := n
          · exact nf rfl H
          rw [f44_l3.eq_2] at H
          show WP _ _ _ _ (((Env.none.upd 0 (.whole 0)).upd 14 (.lit (.int .i64 x3333))).upd 17 (.lit (.int .i64 x3360))) (Mem.nil.push (.row 55 rdS55coin x3361)) _
          refine WP.seq ?_
          refine WP.seq ?_
          refine WP.region ?_
          refine WPL.q (q_mv (v := .lit (.int _ _)) rfl) rfl ?_
          refine WPL.q (q_mv (v := .lit (.int _ _)) rfl) rfl ?_
          refine WPL.q (q_gtr rfl rfl) rfl ?_
          refine WPL.nilW ?_
          refine W.now ?_
          refine Then.n ?_
          refine WP.cond (t := (decide (x3333 < x3360))) rfl (fun hb => ?_) (fun hb => ?_)
          · replace H := cnt hb H
            refine WP.skipW ?_
            refine W.now ?_
            refine Then.n ?_
            refine WP.seq ?_
            refine WP.block ?_
            refine WP.regionD' 18 [0] [15] mixed rfl ?_
            refine WPD.takeT 0 rfl (by kernel_rfl) (q_mv (v := .whole _) rfl) rfl ?_
            refine WPD.takeT 1 rfl (by kernel_rfl) (q_mv (v := .lit (.int _ _)) rfl) rfl ?_
            refine WPD.takeT 2 rfl (by kernel_rfl) (q_mv (v := .whole _) rfl) rfl ?_
            refine WPD.takeT 3 rfl (by kernel_rfl) (q_mv (v := .lit (.int _ _)) rfl) rfl ?_
            refine WPD.takeT 4 rfl (by kernel_rfl) (q_sub rfl rfl) rfl ?_
            refine WPD.takeT 5 rfl (by kernel_rfl) (q_mv (v := .whole _) rfl) rfl ?_
            refine WPD.takeT 6 rfl (by kernel_rfl) (q_mv (v := .lit (.int _ _)) rfl) rfl ?_
            refine WPD.takeT 7 rfl (by kernel_rfl) (q_sub rfl rfl) rfl ?_
            obtain ⟨x3385, h3385, H⟩ := bnd H
            refine WPD.takeT 8 rfl (by kernel_rfl) (q_index_row sl53 rfl rfl rfl (ixs h3385)) rfl ?_
            refine WPD.takeT 10 rfl (by kernel_rfl) (q_mv (v := .whole _) rfl) rfl ?_
            refine WPD.takeT 11 rfl (by kernel_rfl) (q_mv (v := .lit (.int _ _)) rfl) rfl ?_
            obtain ⟨x3386, h3386, H⟩ := bnd H
            refine WPD.takeT 12 rfl (by kernel_rfl) (q_index_row sl53 rfl rfl rfl (ixs h3386)) rfl ?_
            refine WPD.take 9 rfl (by kernel_rfl) (q_load_rowag (j := (Int.toNat (IntKind.wrap .i64 (x3360 - 1)))) ag55 rfl rfl (ixj h3385) rfl S55coin.sp) rfl rfl ?_
            refine WPD.take 13 rfl (by kernel_rfl) (q_load_rowag (j := (Int.toNat x3360)) ag55 rfl rfl (ixj h3386) rfl S55coin.sp) rfl rfl ?_
            obtain ⟨x3387, h3387, H⟩ := bnd H
            refine WPD.takeT 14 rfl (by kernel_rfl) (q_index_row sl53 rfl rfl rfl (ixs h3387)) rfl ?_
            refine WPD.effS 15 [] [] rfl (by kernel_rfl) (s_store_row (j := (Int.toNat x3360)) (d := (⟨x3385.ffreq, x3385.fsyms⟩ : S55coin)) sz55 rfl rfl rfl rfl (Joins.via (Joins.cons Joins.sc (Joins.cons Joins.one Joins.unit))) (ixl h3387)) rfl ?_
            obtain ⟨x3388, h3388, H⟩ := bnd H
            refine WPD.takeT 16 rfl (by kernel_rfl) (q_index_row sl53 rfl rfl rfl (ixs h3388)) rfl ?_
            refine WPD.effS 17 [] [] rfl (by kernel_rfl) (s_store_row (j := (Int.toNat (IntKind.wrap .i64 (x3360 - 1)))) (d := (⟨x3386.ffreq, x3386.fsyms⟩ : S55coin)) sz55 rfl rfl rfl rfl (Joins.via (Joins.cons Joins.sc (Joins.cons Joins.one Joins.unit))) (ixl h3388)) rfl ?_
            refine WPD.doneW (by kernel_rfl) ?_
            refine W.now ?_
            refine InBlock.n ?_
            refine Then.n ?_
            refine WP.region ?_
            refine WPL.q (q_mv (v := .lit (.int _ _)) rfl) rfl ?_
            refine WPL.q (q_sub rfl rfl) rfl ?_
            refine WPL.q (q_as (v := .lit (.int _ _)) rfl) rfl ?_
            refine WPL.nilW ?_
            refine W.cv (Cv.weak (E' := (((Env.none.upd 0 (.whole 0)).upd 14 (.lit (.int .i64 x3333))).upd 17 (.lit (.int .i64 (IntKind.wrap .i64 (x3360 - 1)))))) (M' := (Mem.nil.push (.row 55 rdS55coin (List.set (List.set x3361 (Int.toNat x3360) (⟨x3385.ffreq, x3385.fsyms⟩ : S55coin)) (Int.toNat (IntKind.wrap .i64 (x3360 - 1))) (⟨x3386.ffreq, x3386.fsyms⟩ : S55coin))))) [0] hnp ⟨rfl, ⟨trivial, .inr ⟨rfl, rfl, rfl⟩⟩, by decide, rfl, ⟨trivial, rfl⟩⟩ (LeE.upd rfl rfl (LeE.upd rfl rfl (LeE.upd rfl rfl (LeE.none rfl rfl))))) rfl ?_
            refine W.now ?_
            exact Then.n ⟨n, ((IntKind.wrap .i64 (x3360 - 1)), (List.set (List.set x3361 (Int.toNat x3360) (⟨x3385.ffreq, x3385.fsyms⟩ : S55coin)) (Int.toNat (IntKind.wrap .i64 (x3360 - 1))) (⟨x3386.ffreq, x3386.fsyms⟩ : S55coin))), Nat.lt_succ_self n, H, rfl, rfl⟩
          · replace H := cnf hb H
            refine WP.exitW ?_
            refine W.cv (Cv.weak (E' := Env.none) (M' := (Mem.nil.push (.row 55 rdS55coin x3361))) [0] hnp ⟨rfl, ⟨trivial, .inr ⟨rfl, rfl, rfl⟩⟩, by decide, rfl, ⟨trivial, rfl⟩⟩ (LeE.none rfl rfl)) rfl ?_
            refine W.now ?_
            refine Then.x ?_
            refine Then.x ?_
            have q0 := (Option.some.inj H)
            subst q0
            exact ⟨rfl, rfl, rfl⟩
        · rintro _ _ _ ⟨rfl, rfl, rfl⟩
          refine W.now ?_
          refine InBlock.x0 ?_
          refine Then.n ?_
          refine WP.retW ?_
          refine W.now ?_
          refine Then.r ?_
          have q0 := (Option.some.inj H)
          subst q0
          exact ⟨trivial, _, rfl, [0], (.tup []), (Mem.nil.push (.row 55 rdS55coin x3375)), ⟨rfl, ⟨trivial, .inr ⟨rfl, rfl, rfl⟩⟩, by decide, rfl, ⟨trivial, rfl⟩⟩, rfl, rfl, rfl, rfl⟩
    · replace H := cnf hb H
      refine WP.skipW ?_
      refine W.now ?_
      refine Then.n ?_
      refine WP.seq ?_
      refine WP.region ?_
      refine WPL.q (q_mv (v := .lit (.int _ _)) rfl) rfl ?_
      refine WPL.q (q_mv (v := .lit (.int _ _)) rfl) rfl ?_
      refine WPL.q (q_add rfl rfl) rfl ?_
      obtain ⟨x3390, h3390, H⟩ := bnd H
      refine WPL.q (q_nm (q_conv Try.underlying3 Try.underlying27 rfl) (nm_int h3390)) rfl ?_
      refine WPL.q (q_shr rfl rfl rfl) rfl ?_
      refine WPL.q (q_conv Try.underlying27 Try.underlying3 rfl) rfl ?_
      refine WPL.q (q_as (v := .lit (.int _ _)) rfl) rfl ?_
      refine WPL.nilW ?_
      refine W.now ?_
      refine Then.n ?_
      refine WP.seq ?_
      refine WP.region ?_
      refine WPL.q (q_mv (v := .lit (.int _ _)) rfl) rfl ?_
      refine WPL.q (q_mv (v := .lit (.int _ _)) rfl) rfl ?_
      obtain ⟨x3391, h3391, H⟩ := bnd H
      refine WPL.q (q_nm (q_add rfl rfl) (nm_int h3391)) rfl ?_
      refine WPL.q (q_as (v := .lit (.int _ _)) rfl) rfl ?_
      refine WPL.nilW ?_
      refine W.now ?_
      refine Then.n ?_
      refine WP.seq ?_
      refine WP.region ?_
      refine WPL.q (q_as (v := .lit (.int _ _)) rfl) rfl ?_
      refine WPL.q (q_as (v := .lit (.int _ _)) rfl) rfl ?_
      refine WPL.nilW ?_
      refine W.now ?_
      refine Then.n ?_
      refine WP.seq ?_
      obtain ⟨⟨x3393, x3394⟩, H3395, H⟩ := bnd H
      refine WP.monoW (Q := fun x E M => x = .normal ∧ E = (((((((((Env.none.upd 0 (.whole 0)).upd 1 (.lit (.int .i64 x2288))).upd 2 (.lit (.int .i64 x2289))).upd 3 (.lit (.int .i64 x2290))).upd 4 (.fn 25 [])).upd 18 (.lit (.int .i64 (IntKind.wrap .i64 (shrI .u64 x3390 1))))).upd 19 (.lit (.int .i64 x3391))).upd 20 (.lit (.int .i64 x3393))).upd 21 (.lit (.int .i64 x3394))) ∧ M = (Mem.nil.push (.row 55 rdS55coin x2291))) ?_ ?_
      · clear H
        have H := H3395
        clear H3395
        refine WP.seq ?_
        refine WP.region ?_
        refine WPL.q (q_mv (v := .lit (.int _ _)) rfl) rfl ?_
        refine WPL.q (q_mv (v := .lit (.int _ _)) rfl) rfl ?_
        obtain ⟨x3395, h3395, H⟩ := bnd H
        refine WPL.q (q_nm (q_gtr rfl rfl) (nm_bool h3395)) rfl ?_
        refine WPL.nilW ?_
        refine W.now ?_
        refine Then.n ?_
        refine WP.cond (t := x3395) rfl (fun hb => ?_) (fun hb => ?_)
        · replace H := cnt hb H
          refine WP.seq ?_
          refine WP.region ?_
          refine WPL.q (q_mv (v := .lit (.int _ _)) rfl) rfl ?_
          refine WPL.q (q_mv (v := .lit (.int _ _)) rfl) rfl ?_
          refine WPL.q (q_sub rfl rfl) rfl ?_
          refine WPL.q (q_as (v := .lit (.int _ _)) rfl) rfl ?_
          refine WPL.nilW ?_
          refine W.now ?_
          refine Then.n ?_
          refine WP.region ?_
          refine WPL.q (q_mv (v := .lit (.int _ _)) rfl) rfl ?_
          refine WPL.q (q_as (v := .lit (.int _ _)) rfl) rfl ?_
          refine WPL.nilW ?_
          refine W.cv (Cv.weak (E' := (((((((((Env.none.upd 0 (.whole 0)).upd 1 (.lit (.int .i64 x2288))).upd 2 (.lit (.int .i64 x2289))).upd 3 (.lit (.int .i64 x2290))).upd 4 (.fn 25 [])).upd 18 (.lit (.int .i64 (IntKind.wrap .i64 (shrI .u64 x3390 1))))).upd 19 (.lit (.int .i64 x3391))).upd 20 (.lit (.int .i64 (IntKind.wrap .i64 (x3391 - x2290))))).upd 21 (.lit (.int .i64 (IntKind.wrap .i64 (shrI .u64 x3390 1)))))) (M' := (Mem.nil.push (.row 55 rdS55coin x2291))) [0] hnp ⟨rfl, ⟨trivial, .inr ⟨rfl, rfl, rfl⟩⟩, by decide, rfl, ⟨trivial, rfl⟩⟩ (LeE.upd rfl rfl (LeE.upd rfl rfl (LeE.upd rfl rfl (LeE.upd rfl rfl (LeE.upd rfl rfl (LeE.upd rfl rfl (LeE.upd rfl rfl (LeE.upd rfl rfl (LeE.upd rfl rfl (LeE.none rfl rfl))))))))))) rfl ?_
          refine W.now ?_
          have q0 := (Prod.mk.inj (Option.some.inj H)).1
          have q1 := (Prod.mk.inj (Option.some.inj H)).2
          subst q0
          subst q1
          exact ⟨rfl, rfl, rfl⟩
        · replace H := cnf hb H
          refine WP.seq ?_
          refine WP.region ?_
          refine WPL.q (q_mv (v := .lit (.int _ _)) rfl) rfl ?_
          refine WPL.q (q_as (v := .lit (.int _ _)) rfl) rfl ?_
          refine WPL.nilW ?_
          refine W.now ?_
          refine Then.n ?_
          refine WP.region ?_
          refine WPL.q (q_mv (v := .lit (.int _ _)) rfl) rfl ?_
          refine WPL.q (q_as (v := .lit (.int _ _)) rfl) rfl ?_
          refine WPL.nilW ?_
          refine W.cv (Cv.weak (E' := (((((((((Env.none.upd 0 (.whole 0)).upd 1 (.lit (.int .i64 x2288))).upd 2 (.lit (.int .i64 x2289))).upd 3 (.lit (.int .i64 x2290))).upd 4 (.fn 25 [])).upd 18 (.lit (.int .i64 (IntKind.wrap .i64 (shrI .u64 x3390 1))))).upd 19 (.lit (.int .i64 x3391))).upd 20 (.lit (.int .i64 x2288))).upd 21 (.lit (.int .i64 x2289)))) (M' := (Mem.nil.push (.row 55 rdS55coin x2291))) [0] hnp ⟨rfl, ⟨trivial, .inr ⟨rfl, rfl, rfl⟩⟩, by decide, rfl, ⟨trivial, rfl⟩⟩ (LeE.upd rfl rfl (LeE.upd rfl rfl (LeE.upd rfl rfl (LeE.upd rfl rfl (LeE.upd rfl rfl (LeE.upd rfl rfl (LeE.upd rfl rfl (LeE.upd rfl rfl (LeE.upd rfl rfl (LeE.none rfl rfl))))))))))) rfl ?_
          refine W.now ?_
          have q0 := (Prod.mk.inj (Option.some.inj H)).1
          have q1 := (Prod.mk.inj (Option.some.inj H)).2
          subst q0
          subst q1
          exact ⟨rfl, rfl, rfl⟩
      · rintro _ _ _ ⟨rfl, rfl, rfl⟩
        refine W.now ?_
        refine Then.n ?_
        refine WP.seq ?_
        refine WP.region ?_
        refine WPL.q (q_mv (v := .lit (.int _ _)) rfl) rfl ?_
        refine WPL.q (q_sub rfl rfl) rfl ?_
        refine WPL.q (q_as (v := .lit (.int _ _)) rfl) rfl ?_
        refine WPL.nilW ?_
        refine W.now ?_
        refine Then.n ?_
        refine WP.seq ?_
        refine WP.block ?_
        refine WP.cv (Cv.weak (E' := ((((((((((Env.none.upd 0 (.whole 0)).upd 1 (.lit (.int .i64 x2288))).upd 2 (.lit (.int .i64 x2289))).upd 3 (.lit (.int .i64 x2290))).upd 4 (.fn 25 [])).upd 18 (.lit (.int .i64 (IntKind.wrap .i64 (shrI .u64 x3390 1))))).upd 19 (.lit (.int .i64 x3391))).upd 20 (.lit (.int .i64 x3393))).upd 21 (.lit (.int .i64 x3394))).upd 22 (.lit (.int .i64 (IntKind.wrap .i64 (x3391 - 1)))))) (M' := (Mem.nil.push (.row 55 rdS55coin x2291))) [0] hnp ⟨rfl, ⟨trivial, .inr ⟨rfl, rfl, rfl⟩⟩, by decide, rfl, ⟨trivial, rfl⟩⟩ (LeE.upd rfl rfl (LeE.upd rfl rfl (LeE.upd rfl rfl (LeE.upd rfl rfl (LeE.upd rfl rfl (LeE.upd rfl rfl (LeE.upd rfl rfl (LeE.upd rfl rfl (LeE.upd rfl rfl (LeE.upd rfl rfl (LeE.none rfl rfl)))))))))))) ?_
        obtain ⟨x3429, H3444, H⟩ := bnd H
        refine WP.monoW (Q := fun x E M => x = .exit 8 ∧ E = ((((((((Env.none.upd 0 (.whole 0)).upd 1 (.lit (.int .i64 x2288))).upd 2 (.lit (.int .i64 x2289))).upd 3 (.lit (.int .i64 x2290))).upd 4 (.fn 25 [])).upd 18 (.lit (.int .i64 (IntKind.wrap .i64 (shrI .u64 x3390 1))))).upd 19 (.lit (.int .i64 x3391))).upd 20 (.lit (.int .i64 x3429))) ∧ M = (Mem.nil.push (.row 55 rdS55coin x2291))) ?_ ?_
        · refine WP.loop (β := Int × Int) (fun n b => f44_l4 k x2291 x3391 n b.1 b.2 = some x3429) (fun b => ((((((((((Env.none.upd 0 (.whole 0)).upd 1 (.lit (.int .i64 x2288))).upd 2 (.lit (.int .i64 x2289))).upd 3 (.lit (.int .i64 x2290))).upd 4 (.fn 25 [])).upd 18 (.lit (.int .i64 (IntKind.wrap .i64 (shrI .u64 x3390 1))))).upd 19 (.lit (.int .i64 x3391))).upd 20 (.lit (.int .i64 b.1))).upd 21 (.lit (.int .i64 b.2))).upd 22 (.lit (.int .i64 (IntKind.wrap .i64 (x3391 - 1)))))) (fun b => (Mem.nil.push (.row 55 rdS55coin x2291))) k (x3393, x3394) H3444 rfl rfl ?_
          rintro n ⟨x3412, x3413⟩ H
          obtain _ | n := n
          · exact nf rfl H
          rw [f44_l4.eq_2] at H
          show WP _ _ _ _ ((((((((((Env.none.upd 0 (.whole 0)).upd 1 (.lit (.int .i64 x2288))).upd 2 (.lit (.int .i64 x2289))).upd 3 (.lit (.int .i64 x2290))).upd 4 (.fn 25 [])).upd 18 (.lit (.int .i64 (IntKind.wrap .i64 (shrI .u64 x3390 1))))).upd 19 (.lit (.int .i64 x3391))).upd 20 (.lit (.int .i64 x3412))).upd 21 (.lit (.int .i64 x3413))).upd 22 (.lit (.int .i64 (IntKind.wrap .i64 (x3391 - 1))))) (Mem.nil.push (.row 55 rdS55coin x2291)) _
          refine WP.seq ?_
          refine WP.seq ?_
          refine WP.region ?_
          refine WPL.q (q_mv (v := .lit (.int _ _)) rfl) rfl ?_
          refine WPL.q (q_mv (v := .lit (.int _ _)) rfl) rfl ?_
          refine WPL.q (q_lss rfl rfl) rfl ?_
          refine WPL.nilW ?_
          refine W.now ?_
          refine Then.n ?_
          refine WP.cond (t := (decide (x3412 < x3413))) rfl (fun hb => ?_) (fun hb => ?_)
          · replace H := cnt hb H
            refine WP.skipW ?_
            refine W.now ?_
            refine Then.n ?_
            refine WP.block ?_
            refine WP.seq ?_
            refine WP.region ?_
            refine WPL.q (q_mv (v := .lit (.int _ _)) rfl) rfl ?_
            refine WPL.q (q_mv (v := .lit (.int _ _)) rfl) rfl ?_
            refine WPL.q (q_add rfl rfl) rfl ?_
            obtain ⟨x3430, h3430, H⟩ := bnd H
            refine WPL.q (q_nm (q_conv Try.underlying3 Try.underlying27 rfl) (nm_int h3430)) rfl ?_
            refine WPL.q (q_shr rfl rfl rfl) rfl ?_
            refine WPL.q (q_conv Try.underlying27 Try.underlying3 rfl) rfl ?_
            refine WPL.q (q_as (v := .lit (.int _ _)) rfl) rfl ?_
            refine WPL.nilW ?_
            refine W.now ?_
            refine Then.n ?_
            refine WP.seq ?_
            refine WP.regionD' 14 [0] [] mixed rfl ?_
            refine WPD.takeT 0 rfl (by kernel_rfl) (q_mv (v := .fn _ _) rfl) rfl ?_
            refine WPD.takeT 1 rfl (by kernel_rfl) (q_mv (v := .whole _) rfl) rfl ?_
            refine WPD.takeT 2 rfl (by kernel_rfl) (q_mv (v := .lit (.int _ _)) rfl) rfl ?_
            refine WPD.takeT 3 rfl (by kernel_rfl) (q_mv (v := .lit (.int _ _)) rfl) rfl ?_
            obtain ⟨x3439, h3439, H⟩ := bnd H
            refine WPD.takeT 4 rfl (by kernel_rfl) (q_nm (q_sub rfl rfl) (nm_int h3439)) rfl ?_
            obtain ⟨x3440, h3440, H⟩ := bnd H
            refine WPD.takeT 5 rfl (by kernel_rfl) (q_index_row sl53 rfl rfl rfl (ixs h3440)) rfl ?_
            refine WPD.takeT 7 rfl (by kernel_rfl) (q_mv (v := .whole _) rfl) rfl ?_
            refine WPD.takeT 8 rfl (by kernel_rfl) (q_mv (v := .lit (.int _ _)) rfl) rfl ?_
            obtain ⟨x3441, h3441, H⟩ := bnd H
            refine WPD.takeT 9 rfl (by kernel_rfl) (q_index_row sl53 rfl rfl rfl (ixs h3441)) rfl ?_
            refine WPD.take 6 rfl (by kernel_rfl) (q_load_rowag (j := (Int.toNat x3439)) ag55 rfl rfl (ixj h3440) rfl S55coin.sp) rfl rfl ?_
            refine WPD.take 10 rfl (by kernel_rfl) (q_load_rowag (j := (Int.toNat (IntKind.wrap .i64 (shrI .u64 x3430 1)))) ag55 rfl rfl (ixj h3441) rfl S55coin.sp) rfl rfl ?_
            obtain ⟨x3443, h3441, H⟩ := bnd H
            refine WPD.eff 11 [0] [] rfl (by kernel_rfl) (runs_call (s := []) (t := []) (N := 1) (bor := []) fn25 rfl (s25 k x3440.ffreq x3440.fsyms x3441.ffreq x3441.fsyms x3443 h3441) ⟨rfl, trivial, by decide, rfl, trivial⟩ rfl trivial (.ren rfl rfl (.ren rfl rfl .nil)) rfl trivial rfl) rfl rfl ?_
            refine WPD.takeT 12 rfl (by kernel_rfl) (q_lss rfl rfl) rfl ?_
            refine WPD.takeT 13 rfl (by kernel_rfl) (q_not rfl) rfl ?_
            refine WPD.doneW (by kernel_rfl) ?_
            refine W.now ?_
            refine Then.n ?_
            refine WP.cond (t := (!(decide (x3443 < 0)))) rfl (fun hb => ?_) (fun hb => ?_)
            · replace H := cnt hb H
              refine WP.region ?_
              refine WPL.q (q_mv (v := .lit (.int _ _)) rfl) rfl ?_
              obtain ⟨x3444, h3444, H⟩ := bnd H
              refine WPL.q (q_nm (q_add rfl rfl) (nm_int h3444)) rfl ?_
              refine WPL.q (q_as (v := .lit (.int _ _)) rfl) rfl ?_
              refine WPL.nilW ?_
              refine W.cv (Cv.weak (E' := ((((((((((Env.none.upd 0 (.whole 0)).upd 1 (.lit (.int .i64 x2288))).upd 2 (.lit (.int .i64 x2289))).upd 3 (.lit (.int .i64 x2290))).upd 4 (.fn 25 [])).upd 18 (.lit (.int .i64 (IntKind.wrap .i64 (shrI .u64 x3390 1))))).upd 19 (.lit (.int .i64 x3391))).upd 20 (.lit (.int .i64 x3444))).upd 21 (.lit (.int .i64 x3413))).upd 22 (.lit (.int .i64 (IntKind.wrap .i64 (x3391 - 1)))))) (M' := (Mem.nil.push (.row 55 rdS55coin x2291))) [0] hnp ⟨rfl, ⟨trivial, .inr ⟨rfl, rfl, rfl⟩⟩, by decide, rfl, ⟨trivial, rfl⟩⟩ (LeE.upd rfl rfl (LeE.upd rfl rfl (LeE.upd rfl rfl (LeE.upd rfl rfl (LeE.upd rfl rfl (LeE.upd rfl rfl (LeE.upd rfl rfl (LeE.upd rfl rfl (LeE.upd rfl rfl (LeE.upd rfl rfl (LeE.none rfl rfl)))))))))))) rfl ?_
              refine W.now ?_
              refine InBlock.n ?_
              exact Then.n ⟨n, (x3444, x3413), Nat.lt_succ_self n, H, rfl, rfl⟩
            · replace H := cnf hb H
              refine WP.region ?_
              refine WPL.q (q_mv (v := .lit (.int _ _)) rfl) rfl ?_
              refine WPL.q (q_as (v := .lit (.int _ _)) rfl) rfl ?_
              refine WPL.nilW ?_
              refine W.cv (Cv.weak (E' := ((((((((((Env.none.upd 0 (.whole 0)).upd 1 (.lit (.int .i64 x2288))).upd 2 (.lit (.int .i64 x2289))).upd 3 (.lit (.int .i64 x2290))).upd 4 (.fn 25 [])).upd 18 (.lit (.int .i64 (IntKind.wrap .i64 (shrI .u64 x3390 1))))).upd 19 (.lit (.int .i64 x3391))).upd 20 (.lit (.int .i64 x3412))).upd 21 (.lit (.int .i64 (IntKind.wrap .i64 (shrI .u64 x3430 1))))).upd 22 (.lit (.int .i64 (IntKind.wrap .i64 (x3391 - 1)))))) (M' := (Mem.nil.push (.row 55 rdS55coin x2291))) [0] hnp ⟨rfl, ⟨trivial, .inr ⟨rfl, rfl, rfl⟩⟩, by decide, rfl, ⟨trivial, rfl⟩⟩ (LeE.upd rfl rfl (LeE.upd rfl rfl (LeE.upd rfl rfl (LeE.upd rfl rfl (LeE.upd rfl rfl (LeE.upd rfl rfl (LeE.upd rfl rfl (LeE.upd rfl rfl (LeE.upd rfl rfl (LeE.upd rfl rfl (LeE.none rfl rfl)))))))))))) rfl ?_
              refine W.now ?_
              refine InBlock.n ?_
              exact Then.n ⟨n, (x3412, (IntKind.wrap .i64 (shrI .u64 x3430 1))), Nat.lt_succ_self n, H, rfl, rfl⟩
          · replace H := cnf hb H
            refine WP.exitW ?_
            refine W.cv (Cv.weak (E' := ((((((((Env.none.upd 0 (.whole 0)).upd 1 (.lit (.int .i64 x2288))).upd 2 (.lit (.int .i64 x2289))).upd 3 (.lit (.int .i64 x2290))).upd 4 (.fn 25 [])).upd 18 (.lit (.int .i64 (IntKind.wrap .i64 (shrI .u64 x3390 1))))).upd 19 (.lit (.int .i64 x3391))).upd 20 (.lit (.int .i64 x3412)))) (M' := (Mem.nil.push (.row 55 rdS55coin x2291))) [0] hnp ⟨rfl, ⟨trivial, .inr ⟨rfl, rfl, rfl⟩⟩, by decide, rfl, ⟨trivial, rfl⟩⟩ (LeE.upd rfl rfl (LeE.upd rfl rfl (LeE.upd rfl rfl (LeE.upd rfl rfl (LeE.upd rfl rfl (LeE.upd rfl rfl (LeE.upd rfl rfl (LeE.upd rfl rfl (LeE.none rfl rfl)))))))))) rfl ?_
            refine W.now ?_
            refine Then.x ?_
            refine Then.x ?_
            have q0 := (Option.some.inj H)
            subst q0
            exact ⟨rfl, rfl, rfl⟩
        · rintro _ _ _ ⟨rfl, rfl, rfl⟩
          refine W.now ?_
          refine InBlock.x0 ?_
          refine Then.n ?_
          refine WP.seq ?_
          refine WP.region ?_
          refine WPL.q (q_mv (v := .lit (.int _ _)) rfl) rfl ?_
          refine WPL.q (q_mv (v := .lit (.int _ _)) rfl) rfl ?_
          refine WPL.q (q_sub rfl rfl) rfl ?_
          refine WPL.q (q_as (v := .lit (.int _ _)) rfl) rfl ?_
          refine WPL.nilW ?_
          refine W.now ?_
          refine Then.n ?_
          refine WP.seq ?_
          obtain ⟨x3454, H3462, H⟩ := bnd H
          refine WP.monoW (Q := fun x E M => x = .normal ∧ E = (((((((Env.none.upd 0 (.whole 0)).upd 1 (.lit (.int .i64 x2288))).upd 3 (.lit (.int .i64 x2290))).upd 4 (.fn 25 [])).upd 18 (.lit (.int .i64 (IntKind.wrap .i64 (shrI .u64 x3390 1))))).upd 20 (.lit (.int .i64 x3429))).upd 24 (.lit (.int .i64 (IntKind.wrap .i64 (x3391 - x3429))))) ∧ M = (Mem.nil.push (.row 55 rdS55coin x3454))) ?_ ?_
          · clear H
            have H := H3462
            clear H3462
            refine WP.seq ?_
            obtain ⟨x3457, H3459, H⟩ := bnd H
            refine WP.monoW (Q := fun x E M => x = .normal ∧ E = (((((((((Env.none.upd 0 (.whole 0)).upd 1 (.lit (.int .i64 x2288))).upd 2 (.lit (.int .i64 x2289))).upd 3 (.lit (.int .i64 x2290))).upd 4 (.fn 25 [])).upd 18 (.lit (.int .i64 (IntKind.wrap .i64 (shrI .u64 x3390 1))))).upd 20 (.lit (.int .i64 x3429))).upd 24 (.lit (.int .i64 (IntKind.wrap .i64 (x3391 - x3429))))).upd 185 (.lit (.bool x3457))) ∧ M = (Mem.nil.push (.row 55 rdS55coin x2291))) ?_ ?_
            · clear H
              have H := H3459
              clear H3459
              refine WP.region ?_
              refine WPL.q (q_mv (v := .lit (.int _ _)) rfl) rfl ?_
              refine WPL.q (q_mv (v := .lit (.int _ _)) rfl) rfl ?_
              refine WPL.q (q_lss rfl rfl) rfl ?_
              refine WPL.q (q_mv (v := .lit (.bool _)) rfl) rfl ?_
              refine WPL.split (t := 181) (b := (decide (x3429 < x2289))) rfl (fun hb3457 => ?_) (fun hb3457 => ?_)
              · replace H := cnt hb3457 H
                refine WPL.qg rfl rfl (lb hb3457) (q_mv (v := .lit (.int _ _)) rfl) rfl ?_
                refine WPL.qg rfl rfl (lb hb3457) (q_mv (v := .lit (.int _ _)) rfl) rfl ?_
                obtain ⟨x3459, h3459, H⟩ := bnd H
                refine WPL.qg rfl rfl (lb hb3457) (q_nm (q_lss rfl rfl) (nm_bool h3459)) rfl ?_
                refine WPL.q (q_pickT (v := .lit (.bool _)) (lb hb3457) rfl) rfl ?_
                refine WPL.nilW ?_
                refine W.cv (Cv.weak (E' := (((((((((Env.none.upd 0 (.whole 0)).upd 1 (.lit (.int .i64 x2288))).upd 2 (.lit (.int .i64 x2289))).upd 3 (.lit (.int .i64 x2290))).upd 4 (.fn 25 [])).upd 18 (.lit (.int .i64 (IntKind.wrap .i64 (shrI .u64 x3390 1))))).upd 20 (.lit (.int .i64 x3429))).upd 24 (.lit (.int .i64 (IntKind.wrap .i64 (x3391 - x3429))))).upd 185 (.lit (.bool x3459)))) (M' := (Mem.nil.push (.row 55 rdS55coin x2291))) [0] hnp ⟨rfl, ⟨trivial, .inr ⟨rfl, rfl, rfl⟩⟩, by decide, rfl, ⟨trivial, rfl⟩⟩ (LeE.upd rfl rfl (LeE.upd rfl rfl (LeE.upd rfl rfl (LeE.upd rfl rfl (LeE.upd rfl rfl (LeE.upd rfl rfl (LeE.upd rfl rfl (LeE.upd rfl rfl (LeE.upd rfl rfl (LeE.none rfl rfl))))))))))) rfl ?_
                refine W.now ?_
                have q0 := (Option.some.inj H)
                subst q0
                exact ⟨rfl, rfl, rfl⟩
              · replace H := cnf hb3457 H
                refine WPL.skipg (b' := false) rfl rfl (lb hb3457) rfl rfl ?_
                refine WPL.skipg (b' := false) rfl rfl (lb hb3457) rfl rfl ?_
                refine WPL.skipg (b' := false) rfl rfl (lb hb3457) rfl rfl ?_
                refine WPL.q (q_pickF (v := .lit (.bool _)) (lb hb3457) rfl) rfl ?_
                refine WPL.nilW ?_
                refine W.cv (Cv.weak (E' := (((((((((Env.none.upd 0 (.whole 0)).upd 1 (.lit (.int .i64 x2288))).upd 2 (.lit (.int .i64 x2289))).upd 3 (.lit (.int .i64 x2290))).upd 4 (.fn 25 [])).upd 18 (.lit (.int .i64 (IntKind.wrap .i64 (shrI .u64 x3390 1))))).upd 20 (.lit (.int .i64 x3429))).upd 24 (.lit (.int .i64 (IntKind.wrap .i64 (x3391 - x3429))))).upd 185 (.lit (.bool false)))) (M' := (Mem.nil.push (.row 55 rdS55coin x2291))) [0] hnp ⟨rfl, ⟨trivial, .inr ⟨rfl, rfl, rfl⟩⟩, by decide, rfl, ⟨trivial, rfl⟩⟩ (LeE.upd rfl rfl (LeE.upd rfl rfl (LeE.upd rfl rfl (LeE.upd rfl rfl (LeE.upd rfl rfl (LeE.upd rfl rfl (LeE.upd rfl rfl (LeE.upd rfl rfl (LeE.upd rfl rfl (LeE.none rfl rfl))))))))))) rfl ?_
                refine W.now ?_
                have q0 := (Option.some.inj H)
                subst q0
                exact ⟨rfl, rfl, rfl⟩
            · rintro _ _ _ ⟨rfl, rfl, rfl⟩
              refine W.now ?_
              refine Then.n ?_
              refine WP.cond (t := x3457) rfl (fun hb => ?_) (fun hb => ?_)
              · replace H := cnt hb H
                refine WP.region ?_
                refine WPL.q (q_mv (v := .whole _) rfl) rfl ?_
                refine WPL.q (q_mv (v := .lit (.int _ _)) rfl) rfl ?_
                refine WPL.q (q_mv (v := .lit (.int _ _)) rfl) rfl ?_
                refine WPL.q (q_mv (v := .lit (.int _ _)) rfl) rfl ?_
                refine WPL.q (q_mv (v := .fn _ _) rfl) rfl ?_
                obtain ⟨x3462, h3460, H⟩ := bnd H
                refine WPL.c (runs_call (s := [0]) (t := [0]) (N := 1) (bor := []) fn45 rfl (s45 k x3429 x2289 (IntKind.wrap .i64 (x3391 - x3429)) x2291 x3462 h3460) ⟨rfl, ⟨trivial, .inr ⟨rfl, rfl, rfl⟩⟩, by decide, rfl, trivial⟩ rfl trivial (.ren rfl rfl (.ren rfl rfl (.ren rfl rfl (.ren rfl rfl (.ren rfl rfl .nil))))) rfl ⟨trivial, rfl⟩ rfl) rfl ?_
                refine WPL.nilW ?_
                refine W.cv (Cv.weak (E' := (((((((Env.none.upd 0 (.whole 0)).upd 1 (.lit (.int .i64 x2288))).upd 3 (.lit (.int .i64 x2290))).upd 4 (.fn 25 [])).upd 18 (.lit (.int .i64 (IntKind.wrap .i64 (shrI .u64 x3390 1))))).upd 20 (.lit (.int .i64 x3429))).upd 24 (.lit (.int .i64 (IntKind.wrap .i64 (x3391 - x3429)))))) (M' := (Mem.nil.push (.row 55 rdS55coin x3462))) [0] hnp ⟨rfl, ⟨trivial, .inr ⟨rfl, rfl, rfl⟩⟩, by decide, rfl, ⟨trivial, rfl⟩⟩ (LeE.upd rfl rfl (LeE.upd rfl rfl (LeE.upd rfl rfl (LeE.upd rfl rfl (LeE.upd rfl rfl (LeE.upd rfl rfl (LeE.upd rfl rfl (LeE.none rfl rfl))))))))) rfl ?_
                refine W.now ?_
                have q0 := (Option.some.inj H)
                subst q0
                exact ⟨rfl, rfl, rfl⟩
              · replace H := cnf hb H
                refine WP.skipW ?_
                refine W.cv (Cv.weak (E' := (((((((Env.none.upd 0 (.whole 0)).upd 1 (.lit (.int .i64 x2288))).upd 3 (.lit (.int .i64 x2290))).upd 4 (.fn 25 [])).upd 18 (.lit (.int .i64 (IntKind.wrap .i64 (shrI .u64 x3390 1))))).upd 20 (.lit (.int .i64 x3429))).upd 24 (.lit (.int .i64 (IntKind.wrap .i64 (x3391 - x3429)))))) (M' := (Mem.nil.push (.row 55 rdS55coin x2291))) [0] hnp ⟨rfl, ⟨trivial, .inr ⟨rfl, rfl, rfl⟩⟩, by decide, rfl, ⟨trivial, rfl⟩⟩ (LeE.upd rfl rfl (LeE.upd rfl rfl (LeE.upd rfl rfl (LeE.upd rfl rfl (LeE.upd rfl rfl (LeE.upd rfl rfl (LeE.upd rfl rfl (LeE.none rfl rfl))))))))) rfl ?_
                refine W.now ?_
                have q0 := (Option.some.inj H)
                subst q0
                exact ⟨rfl, rfl, rfl⟩
          · rintro _ _ _ ⟨rfl, rfl, rfl⟩
            refine W.now ?_
            refine Then.n ?_
            refine WP.seq ?_
            obtain ⟨x3472, H3480, H⟩ := bnd H
            refine WP.monoW (Q := fun x E M => x = .normal ∧ E = (((((Env.none.upd 0 (.whole 0)).upd 3 (.lit (.int .i64 x2290))).upd 4 (.fn 25 [])).upd 18 (.lit (.int .i64 (IntKind.wrap .i64 (shrI .u64 x3390 1))))).upd 24 (.lit (.int .i64 (IntKind.wrap .i64 (x3391 - x3429))))) ∧ M = (Mem.nil.push (.row 55 rdS55coin x3472))) ?_ ?_
            · clear H
              have H := H3480
              clear H3480
              refine WP.seq ?_
              obtain ⟨x3475, H3477, H⟩ := bnd H
              refine WP.monoW (Q := fun x E M => x = .normal ∧ E = ((((((((Env.none.upd 0 (.whole 0)).upd 1 (.lit (.int .i64 x2288))).upd 3 (.lit (.int .i64 x2290))).upd 4 (.fn 25 [])).upd 18 (.lit (.int .i64 (IntKind.wrap .i64 (shrI .u64 x3390 1))))).upd 20 (.lit (.int .i64 x3429))).upd 24 (.lit (.int .i64 (IntKind.wrap .i64 (x3391 - x3429))))).upd 199 (.lit (.bool x3475))) ∧ M = (Mem.nil.push (.row 55 rdS55coin x3454))) ?_ ?_
              · clear H
                have H := H3477
                clear H3477
                refine WP.region ?_
                refine WPL.q (q_mv (v := .lit (.int _ _)) rfl) rfl ?_
                refine WPL.q (q_mv (v := .lit (.int _ _)) rfl) rfl ?_
                refine WPL.q (q_lss rfl rfl) rfl ?_
                refine WPL.q (q_mv (v := .lit (.bool _)) rfl) rfl ?_
                refine WPL.split (t := 195) (b := (decide (x2288 < x3429))) rfl (fun hb3475 => ?_) (fun hb3475 => ?_)
                · replace H := cnt hb3475 H
                  refine WPL.qg rfl rfl (lb hb3475) (q_mv (v := .lit (.int _ _)) rfl) rfl ?_
                  refine WPL.qg rfl rfl (lb hb3475) (q_mv (v := .lit (.int _ _)) rfl) rfl ?_
                  obtain ⟨x3477, h3477, H⟩ := bnd H
                  refine WPL.qg rfl rfl (lb hb3475) (q_nm (q_lss rfl rfl) (nm_bool h3477)) rfl ?_
                  refine WPL.q (q_pickT (v := .lit (.bool _)) (lb hb3475) rfl) rfl ?_
                  refine WPL.nilW ?_
                  refine W.cv (Cv.weak (E' := ((((((((Env.none.upd 0 (.whole 0)).upd 1 (.lit (.int .i64 x2288))).upd 3 (.lit (.int .i64 x2290))).upd 4 (.fn 25 [])).upd 18 (.lit (.int .i64 (IntKind.wrap .i64 (shrI .u64 x3390 1))))).upd 20 (.lit (.int .i64 x3429))).upd 24 (.lit (.int .i64 (IntKind.wrap .i64 (x3391 - x3429))))).upd 199 (.lit (.bool x3477)))) (M' := (Mem.nil.push (.row 55 rdS55coin x3454))) [0] hnp ⟨rfl, ⟨trivial, .inr ⟨rfl, rfl, rfl⟩⟩, by decide, rfl, ⟨trivial, rfl⟩⟩ (LeE.upd rfl rfl (LeE.upd rfl rfl (LeE.upd rfl rfl (LeE.upd rfl rfl (LeE.upd rfl rfl (LeE.upd rfl rfl (LeE.upd rfl rfl (LeE.upd rfl rfl (LeE.none rfl rfl)))))))))) rfl ?_
                  refine W.now ?_
                  have q0 := (Option.some.inj H)
                  subst q0
                  exact ⟨rfl, rfl, rfl⟩
                · replace H := cnf hb3475 H
                  refine WPL.skipg (b' := false) rfl rfl (lb hb3475) rfl rfl ?_
                  refine WPL.skipg (b' := false) rfl rfl (lb hb3475) rfl rfl ?_
                  refine WPL.skipg (b' := false) rfl rfl (lb hb3475) rfl rfl ?_
                  refine WPL.q (q_pickF (v := .lit (.bool _)) (lb hb3475) rfl) rfl ?_
                  refine WPL.nilW ?_
                  refine W.cv (Cv.weak (E' := ((((((((Env.none.upd 0 (.whole 0)).upd 1 (.lit (.int .i64 x2288))).upd 3 (.lit (.int .i64 x2290))).upd 4 (.fn 25 [])).upd 18 (.lit (.int .i64 (IntKind.wrap .i64 (shrI .u64 x3390 1))))).upd 20 (.lit (.int .i64 x3429))).upd 24 (.lit (.int .i64 (IntKind.wrap .i64 (x3391 - x3429))))).upd 199 (.lit (.bool false)))) (M' := (Mem.nil.push (.row 55 rdS55coin x3454))) [0] hnp ⟨rfl, ⟨trivial, .inr ⟨rfl, rfl, rfl⟩⟩, by decide, rfl, ⟨trivial, rfl⟩⟩ (LeE.upd rfl rfl (LeE.upd rfl rfl (LeE.upd rfl rfl (LeE.upd rfl rfl (LeE.upd rfl rfl (LeE.upd rfl rfl (LeE.upd rfl rfl (LeE.upd rfl rfl (LeE.none rfl rfl)))))))))) rfl ?_
                  refine W.now ?_
                  have q0 := (Option.some.inj H)
                  subst q0
                  exact ⟨rfl, rfl, rfl⟩
              · rintro _ _ _ ⟨rfl, rfl, rfl⟩
                refine W.now ?_
                refine Then.n ?_
                refine WP.cond (t := x3475) rfl (fun hb => ?_) (fun hb => ?_)
                · replace H := cnt hb H
                  refine WP.region ?_
                  refine WPL.q (q_mv (v := .whole _) rfl) rfl ?_
                  refine WPL.q (q_mv (v := .lit (.int _ _)) rfl) rfl ?_
                  refine WPL.q (q_mv (v := .lit (.int _ _)) rfl) rfl ?_
                  refine WPL.q (q_mv (v := .lit (.int _ _)) rfl) rfl ?_
                  refine WPL.q (q_mv (v := .fn _ _) rfl) rfl ?_
                  obtain ⟨x3480, h3478, H⟩ := bnd H
                  refine WPL.c (runs_call (s := [0]) (t := [0]) (N := 1) (bor := []) fn44 rfl (hrc2292 x2288 x3429 (IntKind.wrap .i64 (shrI .u64 x3390 1)) x3454 x3480 h3478) ⟨rfl, ⟨trivial, .inr ⟨rfl, rfl, rfl⟩⟩, by decide, rfl, trivial⟩ rfl trivial (.ren rfl rfl (.ren rfl rfl (.ren rfl rfl (.ren rfl rfl (.ren rfl rfl .nil))))) rfl ⟨trivial, rfl⟩ rfl) rfl ?_
                  refine WPL.nilW ?_
                  refine W.cv (Cv.weak (E' := (((((Env.none.upd 0 (.whole 0)).upd 3 (.lit (.int .i64 x2290))).upd 4 (.fn 25 [])).upd 18 (.lit (.int .i64 (IntKind.wrap .i64 (shrI .u64 x3390 1))))).upd 24 (.lit (.int .i64 (IntKind.wrap .i64 (x3391 - x3429)))))) (M' := (Mem.nil.push (.row 55 rdS55coin x3480))) [0] hnp ⟨rfl, ⟨trivial, .inr ⟨rfl, rfl, rfl⟩⟩, by decide, rfl, ⟨trivial, rfl⟩⟩ (LeE.upd rfl rfl (LeE.upd rfl rfl (LeE.upd rfl rfl (LeE.upd rfl rfl (LeE.upd rfl rfl (LeE.none rfl rfl))))))) rfl ?_
                  refine W.now ?_
                  have q0 := (Option.some.inj H)
                  subst q0
                  exact ⟨rfl, rfl, rfl⟩
                · replace H := cnf hb H
                  refine WP.skipW ?_
                  refine W.cv (Cv.weak (E' := (((((Env.none.upd 0 (.whole 0)).upd 3 (.lit (.int .i64 x2290))).upd 4 (.fn 25 [])).upd 18 (.lit (.int .i64 (IntKind.wrap .i64 (shrI .u64 x3390 1))))).upd 24 (.lit (.int .i64 (IntKind.wrap .i64 (x3391 - x3429)))))) (M' := (Mem.nil.push (.row 55 rdS55coin x3454))) [0] hnp ⟨rfl, ⟨trivial, .inr ⟨rfl, rfl, rfl⟩⟩, by decide, rfl, ⟨trivial, rfl⟩⟩ (LeE.upd rfl rfl (LeE.upd rfl rfl (LeE.upd rfl rfl (LeE.upd rfl rfl (LeE.upd rfl rfl (LeE.none rfl rfl))))))) rfl ?_
                  refine W.now ?_
                  have q0 := (Option.some.inj H)
                  subst q0
                  exact ⟨rfl, rfl, rfl⟩
            · rintro _ _ _ ⟨rfl, rfl, rfl⟩
              refine W.now ?_
              refine Then.n ?_
              refine WP.seq ?_
              obtain ⟨x3485, H3488, H⟩ := bnd H
              refine WP.monoW (Q := fun x E M => x = .normal ∧ E = ((((((Env.none.upd 0 (.whole 0)).upd 3 (.lit (.int .i64 x2290))).upd 4 (.fn 25 [])).upd 18 (.lit (.int .i64 (IntKind.wrap .i64 (shrI .u64 x3390 1))))).upd 24 (.lit (.int .i64 (IntKind.wrap .i64 (x3391 - x3429))))).upd 213 (.lit (.bool x3485))) ∧ M = (Mem.nil.push (.row 55 rdS55coin x3472))) ?_ ?_
              · clear H
                have H := H3488
                clear H3488
                refine WP.region ?_
                refine WPL.q (q_mv (v := .lit (.int _ _)) rfl) rfl ?_
                refine WPL.q (q_mv (v := .lit (.int _ _)) rfl) rfl ?_
                obtain ⟨x3486, h3486, H⟩ := bnd H
                refine WPL.q (q_nm (q_lss rfl rfl) (nm_bool h3486)) rfl ?_
                refine WPL.q (q_mv (v := .lit (.bool _)) rfl) rfl ?_
                refine WPL.split (t := 209) (b := x3486) rfl (fun hb3486 => ?_) (fun hb3486 => ?_)
                · replace H := cnt hb3486 H
                  refine WPL.qg rfl rfl (lb hb3486) (q_mv (v := .lit (.int _ _)) rfl) rfl ?_
                  refine WPL.qg rfl rfl (lb hb3486) (q_mv (v := .lit (.int _ _)) rfl) rfl ?_
                  obtain ⟨x3488, h3488, H⟩ := bnd H
                  refine WPL.qg rfl rfl (lb hb3486) (q_nm (q_lss rfl rfl) (nm_bool h3488)) rfl ?_
                  refine WPL.q (q_pickT (v := .lit (.bool _)) (lb hb3486) rfl) rfl ?_
                  refine WPL.nilW ?_
                  refine W.cv (Cv.weak (E' := ((((((Env.none.upd 0 (.whole 0)).upd 3 (.lit (.int .i64 x2290))).upd 4 (.fn 25 [])).upd 18 (.lit (.int .i64 (IntKind.wrap .i64 (shrI .u64 x3390 1))))).upd 24 (.lit (.int .i64 (IntKind.wrap .i64 (x3391 - x3429))))).upd 213 (.lit (.bool x3488)))) (M' := (Mem.nil.push (.row 55 rdS55coin x3472))) [0] hnp ⟨rfl, ⟨trivial, .inr ⟨rfl, rfl, rfl⟩⟩, by decide, rfl, ⟨trivial, rfl⟩⟩ (LeE.upd rfl rfl (LeE.upd rfl rfl (LeE.upd rfl rfl (LeE.upd rfl rfl (LeE.upd rfl rfl (LeE.upd rfl rfl (LeE.none rfl rfl)))))))) rfl ?_
                  refine W.now ?_
                  have q0 := (Option.some.inj H)
                  subst q0
                  exact ⟨rfl, rfl, rfl⟩
                · replace H := cnf hb3486 H
                  refine WPL.skipg (b' := false) rfl rfl (lb hb3486) rfl rfl ?_
                  refine WPL.skipg (b' := false) rfl rfl (lb hb3486) rfl rfl ?_
                  refine WPL.skipg (b' := false) rfl rfl (lb hb3486) rfl rfl ?_
                  refine WPL.q (q_pickF (v := .lit (.bool _)) (lb hb3486) rfl) rfl ?_
                  refine WPL.nilW ?_
                  refine W.cv (Cv.weak (E' := ((((((Env.none.upd 0 (.whole 0)).upd 3 (.lit (.int .i64 x2290))).upd 4 (.fn 25 [])).upd 18 (.lit (.int .i64 (IntKind.wrap .i64 (shrI .u64 x3390 1))))).upd 24 (.lit (.int .i64 (IntKind.wrap .i64 (x3391 - x3429))))).upd 213 (.lit (.bool false)))) (M' := (Mem.nil.push (.row 55 rdS55coin x3472))) [0] hnp ⟨rfl, ⟨trivial, .inr ⟨rfl, rfl, rfl⟩⟩, by decide, rfl, ⟨trivial, rfl⟩⟩ (LeE.upd rfl rfl (LeE.upd rfl rfl (LeE.upd rfl rfl (LeE.upd rfl rfl (LeE.upd rfl rfl (LeE.upd rfl rfl (LeE.none rfl rfl)))))))) rfl ?_
                  refine W.now ?_
                  have q0 := (Option.some.inj H)
                  subst q0
                  exact ⟨rfl, rfl, rfl⟩
              · rintro _ _ _ ⟨rfl, rfl, rfl⟩
                refine W.now ?_
                refine Then.n ?_
                refine WP.cond (t := x3485) rfl (fun hb => ?_) (fun hb => ?_)
                · replace H := cnt hb H
                  refine WP.region ?_
                  refine WPL.q (q_mv (v := .whole _) rfl) rfl ?_
                  refine WPL.q (q_mv (v := .lit (.int _ _)) rfl) rfl ?_
                  refine WPL.q (q_mv (v := .lit (.int _ _)) rfl) rfl ?_
                  refine WPL.q (q_mv (v := .lit (.int _ _)) rfl) rfl ?_
                  refine WPL.q (q_mv (v := .fn _ _) rfl) rfl ?_
                  obtain ⟨x3491, h3489, H⟩ := bnd H
                  refine WPL.c (runs_call (s := [0]) (t := [0]) (N := 1) (bor := []) fn44 rfl (hrc2292 (IntKind.wrap .i64 (shrI .u64 x3390 1)) (IntKind.wrap .i64 (x3391 - x3429)) x2290 x3472 x3491 h3489) ⟨rfl, ⟨trivial, .inr ⟨rfl, rfl, rfl⟩⟩, by decide, rfl, trivial⟩ rfl trivial (.ren rfl rfl (.ren rfl rfl (.ren rfl rfl (.ren rfl rfl (.ren rfl rfl .nil))))) rfl ⟨trivial, rfl⟩ rfl) rfl ?_
                  refine WPL.nilW ?_
                  refine W.now ?_
                  have q0 := (Option.some.inj H)
                  subst q0
                  exact ⟨trivial, _, rfl, [0], (.tup []), (Mem.nil.push (.row 55 rdS55coin x3491)), ⟨rfl, ⟨trivial, .inr ⟨rfl, rfl, rfl⟩⟩, by decide, rfl, ⟨trivial, rfl⟩⟩, rfl, rfl, rfl, rfl⟩
                · replace H := cnf hb H
                  refine WP.skipW ?_
                  refine W.now ?_
                  have q0 := (Option.some.inj H)
                  subst q0
                  exact ⟨trivial, _, rfl, [0], (.tup []), (Mem.nil.push (.row 55 rdS55coin x3472)), ⟨rfl, ⟨trivial, .inr ⟨rfl, rfl, rfl⟩⟩, by decide, rfl, ⟨trivial, rfl⟩⟩, rfl, rfl, rfl, rfl⟩
theorem s44 : ∀ (k : Nat) (x2288 : Int) (x2289 : Int) (x2290 : Int) (x2291 : (List S55coin)) (x2761 : (List S55coin)) (H : f44 k x2288 x2289 x2290 x2291 = some x2761), Go.Q.Spec Try.prog 44 1 [.whole 0, .lit (.int .i64 x2288), .lit (.int .i64 x2289), .lit (.int .i64 x2290), .fn 25 []] (Mem.nil.push (.row 55 rdS55coin x2291)) (fun o M => o = .ret (.tup []) ∧ M = (Mem.nil.push (.row 55 rdS55coin x2761)))
  | 0, _, _, _, _, _, H => nf rfl H
  | k + 1, x2288, x2289, x2290, x2291, x2761, H => sb44 (f44 k) (s44 k) k x2288 x2289 x2290 x2291 x2761 H
end Go.Proofs.Ythgbompoldmhmaa.W
