/- Walks: Fc0 -/
import Derived.Test.YtnbjdgamindikaaDoorFb
namespace Go.Proofs.YtnbjdgamindikaaDoor.W
open Go Go.Q Go.Proofs
set_option linter.unusedVariables false
set_option linter.unusedSimpArgs false
set_option maxRecDepth 100000 in
set_option maxHeartbeats 4000000 in
theorem s_unicode_utf8_word_string (k : Nat) (x18 : ByteArray) (x56 : Int) (H : g_unicode_utf8_word_string k x18 = some x56) : Go.Q.Spec Tryd.prog 42 0 [.lit (.string x18)] Mem.nil (fun o M => o = .ret (.lit (.int .u64 x56)) ∧ M = Mem.nil) := by
  unfold g_unicode_utf8_word_string at H
  refine Go.Q.Spec.of_bodyR (rs := [.tmp 2]) (nt := 59) Tryd.func42 rfl rfl (by intro t T h; simp at h) rfl rfl fun cx hnp => ?_
  refine WP.seq ?_
  refine WP.region ?_
  refine WPL.q (q_as (v := .lit (.int _ _)) rfl) rfl ?_
  refine WPL.nilW ?_
  refine W.now ?_
  refine Then.n ?_
  refine WP.seq ?_
  refine WP.condF rfl ?_
  refine WP.skipW ?_
  refine W.now ?_
  refine Then.n ?_
  refine WP.seq ?_
  refine WP.regionD' 39 [] [] mixed rfl ?_
  refine WPD.takeT 0 rfl (by kernel_rfl) (q_mv (v := .lit (.string _)) rfl) rfl ?_
  obtain ⟨x75, h75, H⟩ := bnd H
  refine WPD.takeT 1 rfl (by kernel_rfl) (q_index_str Tryd.underlying9 rfl rfl h75) rfl ?_
  refine WPD.takeT 2 rfl (by kernel_rfl) (q_conv Tryd.underlying5 Tryd.underlying72 rfl) rfl ?_
  refine WPD.takeT 3 rfl (by kernel_rfl) (q_mv (v := .lit (.string _)) rfl) rfl ?_
  obtain ⟨x76, h76, H⟩ := bnd H
  refine WPD.takeT 4 rfl (by kernel_rfl) (q_index_str Tryd.underlying9 rfl rfl h76) rfl ?_
  refine WPD.takeT 5 rfl (by kernel_rfl) (q_conv Tryd.underlying5 Tryd.underlying72 rfl) rfl ?_
  refine WPD.takeT 6 rfl (by kernel_rfl) (q_shl rfl rfl rfl) rfl ?_
  obtain ⟨x77, h77, H⟩ := bnd H
  refine WPD.takeT 7 rfl (by kernel_rfl) (q_nm (q_or rfl rfl) (nm_int h77)) rfl ?_
  refine WPD.takeT 8 rfl (by kernel_rfl) (q_mv (v := .lit (.string _)) rfl) rfl ?_
  obtain ⟨x78, h78, H⟩ := bnd H
  refine WPD.takeT 9 rfl (by kernel_rfl) (q_index_str Tryd.underlying9 rfl rfl h78) rfl ?_
  refine WPD.takeT 10 rfl (by kernel_rfl) (q_conv Tryd.underlying5 Tryd.underlying72 rfl) rfl ?_
  obtain ⟨x79, h79, H⟩ := bnd H
  refine WPD.takeT 11 rfl (by kernel_rfl) (q_nm (q_shl rfl rfl rfl) (nm_int h79)) rfl ?_
  refine WPD.takeT 12 rfl (by kernel_rfl) (q_or rfl rfl) rfl ?_
  refine WPD.takeT 13 rfl (by kernel_rfl) (q_mv (v := .lit (.string _)) rfl) rfl ?_
  obtain ⟨x80, h80, H⟩ := bnd H
  refine WPD.takeT 14 rfl (by kernel_rfl) (q_index_str Tryd.underlying9 rfl rfl h80) rfl ?_
  refine WPD.takeT 15 rfl (by kernel_rfl) (q_conv Tryd.underlying5 Tryd.underlying72 rfl) rfl ?_
  obtain ⟨x81, h81, H⟩ := bnd H
  refine WPD.takeT 16 rfl (by kernel_rfl) (q_nm (q_shl rfl rfl rfl) (nm_int h81)) rfl ?_
  obtain ⟨x82, h82, H⟩ := bnd H
  refine WPD.takeT 17 rfl (by kernel_rfl) (q_nm (q_or rfl rfl) (nm_int h82)) rfl ?_
  refine WPD.takeT 18 rfl (by kernel_rfl) (q_mv (v := .lit (.string _)) rfl) rfl ?_
  obtain ⟨x83, h83, H⟩ := bnd H
  refine WPD.takeT 19 rfl (by kernel_rfl) (q_index_str Tryd.underlying9 rfl rfl h83) rfl ?_
  refine WPD.takeT 20 rfl (by kernel_rfl) (q_conv Tryd.underlying5 Tryd.underlying72 rfl) rfl ?_
  obtain ⟨x84, h84, H⟩ := bnd H
  refine WPD.takeT 21 rfl (by kernel_rfl) (q_nm (q_shl rfl rfl rfl) (nm_int h84)) rfl ?_
  refine WPD.takeT 22 rfl (by kernel_rfl) (q_or rfl rfl) rfl ?_
  refine WPD.takeT 23 rfl (by kernel_rfl) (q_mv (v := .lit (.string _)) rfl) rfl ?_
  obtain ⟨x85, h85, H⟩ := bnd H
  refine WPD.takeT 24 rfl (by kernel_rfl) (q_index_str Tryd.underlying9 rfl rfl h85) rfl ?_
  refine WPD.takeT 25 rfl (by kernel_rfl) (q_conv Tryd.underlying5 Tryd.underlying72 rfl) rfl ?_
  obtain ⟨x86, h86, H⟩ := bnd H
  refine WPD.takeT 26 rfl (by kernel_rfl) (q_nm (q_shl rfl rfl rfl) (nm_int h86)) rfl ?_
  obtain ⟨x87, h87, H⟩ := bnd H
  refine WPD.takeT 27 rfl (by kernel_rfl) (q_nm (q_or rfl rfl) (nm_int h87)) rfl ?_
  refine WPD.takeT 28 rfl (by kernel_rfl) (q_mv (v := .lit (.string _)) rfl) rfl ?_
  obtain ⟨x88, h88, H⟩ := bnd H
  refine WPD.takeT 29 rfl (by kernel_rfl) (q_index_str Tryd.underlying9 rfl rfl h88) rfl ?_
  refine WPD.takeT 30 rfl (by kernel_rfl) (q_conv Tryd.underlying5 Tryd.underlying72 rfl) rfl ?_
  obtain ⟨x89, h89, H⟩ := bnd H
  refine WPD.takeT 31 rfl (by kernel_rfl) (q_nm (q_shl rfl rfl rfl) (nm_int h89)) rfl ?_
  refine WPD.takeT 32 rfl (by kernel_rfl) (q_or rfl rfl) rfl ?_
  refine WPD.takeT 33 rfl (by kernel_rfl) (q_mv (v := .lit (.string _)) rfl) rfl ?_
  obtain ⟨x90, h90, H⟩ := bnd H
  refine WPD.takeT 34 rfl (by kernel_rfl) (q_index_str Tryd.underlying9 rfl rfl h90) rfl ?_
  refine WPD.takeT 35 rfl (by kernel_rfl) (q_conv Tryd.underlying5 Tryd.underlying72 rfl) rfl ?_
  obtain ⟨x91, h91, H⟩ := bnd H
  refine WPD.takeT 36 rfl (by kernel_rfl) (q_nm (q_shl rfl rfl rfl) (nm_int h91)) rfl ?_
  obtain ⟨x92, h92, H⟩ := bnd H
  refine WPD.takeT 37 rfl (by kernel_rfl) (q_nm (q_or rfl rfl) (nm_int h92)) rfl ?_
  refine WPD.takeT 38 rfl (by kernel_rfl) (q_as (v := .lit (.int _ _)) rfl) rfl ?_
  refine WPD.doneW (by kernel_rfl) ?_
  refine W.now ?_
  refine Then.n ?_
  refine WP.retW ?_
  refine W.now ?_
  have q0 := (Option.some.inj H)
  subst q0
  exact ⟨trivial, _, rfl, [], (.lit (.int .u64 x92)), Mem.nil, ⟨rfl, trivial, by decide, rfl, trivial⟩, rfl, rfl, rfl, rfl⟩
set_option maxRecDepth 100000 in
set_option maxHeartbeats 4000000 in
theorem s_unicode_utf8_ValidString (k : Nat) (x6 : ByteArray) (x3688 : Bool) (H : g_unicode_utf8_ValidString k x6 = some x3688) : Go.Q.Spec Tryd.prog 28 0 [.lit (.string x6)] Mem.nil (fun o M => o = .ret (.lit (.bool x3688)) ∧ M = Mem.nil) := by
  unfold g_unicode_utf8_ValidString at H
  refine Go.Q.Spec.of_bodyR (rs := [.tmp 2]) (nt := 169) Tryd.func28 rfl rfl (by intro t T h; simp at h) rfl rfl fun cx hnp => ?_
  refine WP.seq ?_
  refine WP.region ?_
  refine WPL.q (q_as (v := .lit (.bool _)) rfl) rfl ?_
  refine WPL.nilW ?_
  refine W.now ?_
  refine Then.n ?_
  refine WP.seq ?_
  refine WP.block ?_
  refine WP.cv (Cv.weak (E' := (Env.none.upd 0 (.lit (.string x6)))) (M' := Mem.nil) [] hnp ⟨rfl, trivial, by decide, rfl, trivial⟩ (LeE.upd rfl rfl (LeE.none rfl rfl))) ?_
  obtain ⟨y9246, H9244, H⟩ := bnd H
  refine WP.monoW (Q := fun x E M => match (generalizing := false) y9246 with | (Sum.inl _) => x = .ret ∧ E = (Env.none.upd 2 (.lit (.bool false))) ∧ M = Mem.nil | (Sum.inr _) => x = .exit 0 ∧ E = Env.none ∧ M = Mem.nil) ?_ ?_
  · refine WP.loop (β := ByteArray) (fun n b => g_unicode_utf8_ValidString_l0 k n b = some y9246) (fun b => (Env.none.upd 0 (.lit (.string b)))) (fun b => Mem.nil) k x6 H9244 rfl rfl ?_
    rintro n x5490 H
    obtain _ | n := n
    · exact nf rfl H
    rw [g_unicode_utf8_ValidString_l0.eq_2] at H
    show WP _ _ _ _ (Env.none.upd 0 (.lit (.string x5490))) Mem.nil _
    refine WP.seq ?_
    refine WP.seq ?_
    refine WP.region ?_
    refine WPL.q (q_mv (v := .lit (.string _)) rfl) rfl ?_
    refine WPL.q (q_len_str Tryd.underlying9 rfl) rfl ?_
    obtain ⟨x7294, h7294, H⟩ := bnd H
    refine WPL.q (q_nm (q_gtr rfl rfl) (nm_bool h7294)) rfl ?_
    refine WPL.nilW ?_
    refine W.now ?_
    refine Then.n ?_
    refine WP.cond (t := x7294) rfl (fun hb7294 => ?_) (fun hb7294 => ?_)
    · replace H := cnt hb7294 H
      refine WP.skipW ?_
      refine W.now ?_
      refine Then.n ?_
      refine WP.block ?_
      refine WP.seq ?_
      refine WP.region ?_
      refine WPL.q (q_mv (v := .lit (.string _)) rfl) rfl ?_
      obtain ⟨x7296, h7296, H⟩ := bnd H
      refine WPL.q (q_index_str Tryd.underlying9 rfl rfl h7296) rfl ?_
      refine WPL.q (q_as (v := .lit (.int _ _)) rfl) rfl ?_
      refine WPL.nilW ?_
      refine W.now ?_
      refine Then.n ?_
      refine WP.seq ?_
      refine WP.seq ?_
      refine WP.region ?_
      refine WPL.q (q_mv (v := .lit (.int _ _)) rfl) rfl ?_
      refine WPL.q (q_lss rfl rfl) rfl ?_
      refine WPL.nilW ?_
      refine W.now ?_
      refine Then.n ?_
      refine WP.cond (t := (decide (x7296 < 128))) rfl (fun hb8027 => ?_) (fun hb8027 => ?_)
      · replace H := cnt hb8027 H
        refine WP.seq ?_
        refine WP.region ?_
        refine WPL.q (q_mv (v := .lit (.string _)) rfl) rfl ?_
        obtain ⟨h8028, H⟩ := grd H
        obtain ⟨x8030, h8030, H⟩ := bnd H
        refine WPL.q (q_nm (q_slice_str (i := 1) (j := ((ByteArray.size x5490 : Nat) : Int)) Tryd.underlying9 rfl ⟨_, rfl⟩ rfl h8028) (nm_str h8030)) rfl ?_
        refine WPL.q (q_as (v := .lit (.string _)) rfl) rfl ?_
        refine WPL.nilW ?_
        refine W.now ?_
        refine Then.n ?_
        refine WP.seq ?_
        obtain ⟨x8394, H8909, H⟩ := bnd H
        refine WP.monoW (Q := fun x E M => x = .normal ∧ E = (Env.none.upd 0 (.lit (.string x8394))) ∧ M = Mem.nil) ?_ ?_
        · clear H
          have H := H8909
          clear H8909
          refine WP.seq ?_
          obtain ⟨x8400, H8405, H⟩ := bnd H
          refine WP.monoW (Q := fun x E M => x = .normal ∧ E = ((Env.none.upd 0 (.lit (.string x8030))).upd 24 (.lit (.bool x8400))) ∧ M = Mem.nil) ?_ ?_
          · clear H
            have H := H8405
            clear H8405
            refine WP.region ?_
            refine WPL.q (q_mv (v := .lit (.string _)) rfl) rfl ?_
            refine WPL.q (q_len_str Tryd.underlying9 rfl) rfl ?_
            obtain ⟨x8401, h8401, H⟩ := bnd H
            refine WPL.q (q_nm (q_gtr rfl rfl) (nm_bool h8401)) rfl ?_
            refine WPL.q (q_mv (v := .lit (.bool _)) rfl) rfl ?_
            refine WPL.split (t := 19) (b := x8401) rfl (fun hb8401 => ?_) (fun hb8401 => ?_)
            · replace H := cnt hb8401 H
              refine WPL.qg rfl rfl (lb hb8401) (q_mv (v := .lit (.string _)) rfl) rfl ?_
              obtain ⟨x8404, h8402, H⟩ := bnd H
              refine WPL.cg rfl rfl (lb hb8401) (runs_call (s := []) (t := []) (N := 0) (bor := []) fn42 rfl (s_unicode_utf8_word_string k x8030 x8404 h8402) ⟨rfl, trivial, by decide, rfl, trivial⟩ rfl trivial (.ren rfl rfl .nil) rfl trivial rfl) rfl ?_
              obtain ⟨x8405, h8405, H⟩ := bnd H
              refine WPL.qg rfl rfl (lb hb8401) (q_nm (q_and rfl rfl) (nm_int h8405)) rfl ?_
              refine WPL.qg rfl rfl (lb hb8401) (q_eql rfl rfl) rfl ?_
              refine WPL.q (q_pickT (v := .lit (.bool _)) (lb hb8401) rfl) rfl ?_
              refine WPL.nilW ?_
              refine W.cv (Cv.weak (E' := ((Env.none.upd 0 (.lit (.string x8030))).upd 24 (.lit (.bool (decide (x8405 = 0)))))) (M' := Mem.nil) [] hnp ⟨rfl, trivial, by decide, rfl, trivial⟩ (LeE.upd rfl rfl (LeE.upd rfl rfl (LeE.none rfl rfl)))) rfl ?_
              refine W.now ?_
              have q0 := (Option.some.inj H)
              subst q0
              exact ⟨rfl, rfl, rfl⟩
            · replace H := cnf hb8401 H
              refine WPL.skipg (b' := false) rfl rfl (lb hb8401) rfl rfl ?_
              refine WPL.skipg (b' := false) rfl rfl (lb hb8401) rfl rfl ?_
              refine WPL.skipg (b' := false) rfl rfl (lb hb8401) rfl rfl ?_
              refine WPL.skipg (b' := false) rfl rfl (lb hb8401) rfl rfl ?_
              refine WPL.q (q_pickF (v := .lit (.bool _)) (lb hb8401) rfl) rfl ?_
              refine WPL.nilW ?_
              refine W.cv (Cv.weak (E' := ((Env.none.upd 0 (.lit (.string x8030))).upd 24 (.lit (.bool false)))) (M' := Mem.nil) [] hnp ⟨rfl, trivial, by decide, rfl, trivial⟩ (LeE.upd rfl rfl (LeE.upd rfl rfl (LeE.none rfl rfl)))) rfl ?_
              refine W.now ?_
              have q0 := (Option.some.inj H)
              subst q0
              exact ⟨rfl, rfl, rfl⟩
          · rintro _ _ _ ⟨rfl, rfl, rfl⟩
            refine W.now ?_
            refine Then.n ?_
            refine WP.cond (t := x8400) rfl (fun hb8406 => ?_) (fun hb8406 => ?_)
            · replace H := cnt hb8406 H
              refine WP.seq ?_
              refine WP.region ?_
              refine WPL.q (q_mv (v := .lit (.string _)) rfl) rfl ?_
              obtain ⟨h8407, H⟩ := grd H
              obtain ⟨x8409, h8409, H⟩ := bnd H
              refine WPL.q (q_nm (q_slice_str (i := 8) (j := ((ByteArray.size x8030 : Nat) : Int)) Tryd.underlying9 rfl ⟨_, rfl⟩ rfl h8407) (nm_str h8409)) rfl ?_
              refine WPL.q (q_as (v := .lit (.string _)) rfl) rfl ?_
              refine WPL.nilW ?_
              refine W.now ?_
              refine Then.n ?_
              refine WP.seq ?_
              obtain ⟨x8428, H8446, H⟩ := bnd H
              refine WP.monoW (Q := fun x E M => x = .normal ∧ E = ((Env.none.upd 0 (.lit (.string x8409))).upd 39 (.lit (.bool x8428))) ∧ M = Mem.nil) ?_ ?_
              · clear H
                have H := H8446
                clear H8446
                refine WP.regionD' 13 [] [] mixed rfl ?_
                refine WPD.takeT 0 rfl (by kernel_rfl) (q_mv (v := .lit (.string _)) rfl) rfl ?_
                refine WPD.takeT 1 rfl (by kernel_rfl) (q_len_str Tryd.underlying9 rfl) rfl ?_
                obtain ⟨x8438, h8438, H⟩ := bnd H
                refine WPD.takeT 2 rfl (by kernel_rfl) (q_nm (q_gtr rfl rfl) (nm_bool h8438)) rfl ?_
                refine WPD.takeT 3 rfl (by kernel_rfl) (q_mv (v := .lit (.bool _)) rfl) rfl ?_
                refine WPD.split (t := 30) (b := x8438) rfl (fun hb8438 => ?_) (fun hb8438 => ?_)
                · replace H := cnt hb8438 H
                  refine WPD.takegT 4 rfl (by kernel_rfl) rfl rfl (lb hb8438) (q_mv (v := .lit (.string _)) rfl) rfl ?_
                  refine WPD.takegT 6 rfl (by kernel_rfl) rfl rfl (lb hb8438) (q_mv (v := .lit (.string _)) rfl) rfl ?_
                  obtain ⟨h8439, H⟩ := grd H
                  obtain ⟨x8441, h8441, H⟩ := bnd H
                  refine WPD.takegT 7 rfl (by kernel_rfl) rfl rfl (lb hb8438) (q_nm (q_slice_str (i := 8) (j := ((ByteArray.size x8409 : Nat) : Int)) Tryd.underlying9 rfl ⟨_, rfl⟩ rfl h8439) (nm_str h8441)) rfl ?_
                  obtain ⟨x8443, h8441, H⟩ := bnd H
                  refine WPD.effg 5 [] [] rfl (by kernel_rfl) rfl rfl (lb hb8438) (runs_call (s := []) (t := []) (N := 0) (bor := []) fn42 rfl (s_unicode_utf8_word_string k x8409 x8443 h8441) ⟨rfl, trivial, by decide, rfl, trivial⟩ rfl trivial (.ren rfl rfl .nil) rfl trivial rfl) rfl rfl ?_
                  obtain ⟨x8445, h8443, H⟩ := bnd H
                  refine WPD.effg 8 [] [] rfl (by kernel_rfl) rfl rfl (lb hb8438) (runs_call (s := []) (t := []) (N := 0) (bor := []) fn42 rfl (s_unicode_utf8_word_string k x8441 x8445 h8443) ⟨rfl, trivial, by decide, rfl, trivial⟩ rfl trivial (.ren rfl rfl .nil) rfl trivial rfl) rfl rfl ?_
                  refine WPD.takegT 9 rfl (by kernel_rfl) rfl rfl (lb hb8438) (q_or rfl rfl) rfl ?_
                  obtain ⟨x8446, h8446, H⟩ := bnd H
                  refine WPD.takegT 10 rfl (by kernel_rfl) rfl rfl (lb hb8438) (q_nm (q_and rfl rfl) (nm_int h8446)) rfl ?_
                  refine WPD.takegT 11 rfl (by kernel_rfl) rfl rfl (lb hb8438) (q_eql rfl rfl) rfl ?_
                  refine WPD.takeT 12 rfl (by kernel_rfl) (q_pickT (v := .lit (.bool _)) (lb hb8438) rfl) rfl ?_
                  refine WPD.doneW (by kernel_rfl) ?_
                  refine W.cv (Cv.weak (E' := ((Env.none.upd 0 (.lit (.string x8409))).upd 39 (.lit (.bool (decide (x8446 = 0)))))) (M' := Mem.nil) [] hnp ⟨rfl, trivial, by decide, rfl, trivial⟩ (LeE.upd rfl rfl (LeE.upd rfl rfl (LeE.none rfl rfl)))) rfl ?_
                  refine W.now ?_
                  have q0 := (Option.some.inj H)
                  subst q0
                  exact ⟨rfl, rfl, rfl⟩
                · replace H := cnf hb8438 H
                  refine WPD.pass (b' := false) 4 rfl (by kernel_rfl) rfl rfl (lb hb8438) rfl rfl ?_
                  refine WPD.pass (b' := false) 5 rfl (by kernel_rfl) rfl rfl (lb hb8438) rfl rfl ?_
                  refine WPD.pass (b' := false) 6 rfl (by kernel_rfl) rfl rfl (lb hb8438) rfl rfl ?_
                  refine WPD.pass (b' := false) 7 rfl (by kernel_rfl) rfl rfl (lb hb8438) rfl rfl ?_
                  refine WPD.pass (b' := false) 8 rfl (by kernel_rfl) rfl rfl (lb hb8438) rfl rfl ?_
                  refine WPD.pass (b' := false) 9 rfl (by kernel_rfl) rfl rfl (lb hb8438) rfl rfl ?_
                  refine WPD.pass (b' := false) 10 rfl (by kernel_rfl) rfl rfl (lb hb8438) rfl rfl ?_
                  refine WPD.pass (b' := false) 11 rfl (by kernel_rfl) rfl rfl (lb hb8438) rfl rfl ?_
                  refine WPD.takeT 12 rfl (by kernel_rfl) (q_pickF (v := .lit (.bool _)) (lb hb8438) rfl) rfl ?_
                  refine WPD.doneW (by kernel_rfl) ?_
                  refine W.cv (Cv.weak (E' := ((Env.none.upd 0 (.lit (.string x8409))).upd 39 (.lit (.bool false)))) (M' := Mem.nil) [] hnp ⟨rfl, trivial, by decide, rfl, trivial⟩ (LeE.upd rfl rfl (LeE.upd rfl rfl (LeE.none rfl rfl)))) rfl ?_
                  refine W.now ?_
                  have q0 := (Option.some.inj H)
                  subst q0
                  exact ⟨rfl, rfl, rfl⟩
              · rintro _ _ _ ⟨rfl, rfl, rfl⟩
                refine W.now ?_
                refine Then.n ?_
                refine WP.cond (t := x8428) rfl (fun hb8447 => ?_) (fun hb8447 => ?_)
                · replace H := cnt hb8447 H
                  refine WP.seq ?_
                  refine WP.region ?_
                  refine WPL.q (q_mv (v := .lit (.string _)) rfl) rfl ?_
                  obtain ⟨h8448, H⟩ := grd H
                  obtain ⟨x8450, h8450, H⟩ := bnd H
                  refine WPL.q (q_nm (q_slice_str (i := 16) (j := ((ByteArray.size x8409 : Nat) : Int)) Tryd.underlying9 rfl ⟨_, rfl⟩ rfl h8448) (nm_str h8450)) rfl ?_
                  refine WPL.q (q_as (v := .lit (.string _)) rfl) rfl ?_
                  refine WPL.nilW ?_
                  refine W.now ?_
                  refine Then.n ?_
                  refine WP.block ?_
                  refine WP.cv (Cv.weak (E' := (Env.none.upd 0 (.lit (.string x8450)))) (M' := Mem.nil) [] hnp ⟨rfl, trivial, by decide, rfl, trivial⟩ (LeE.upd rfl rfl (LeE.none rfl rfl))) ?_
                  obtain ⟨x8756, H8908, H⟩ := bnd H
                  refine WP.monoW (Q := fun x E M => x = .exit 2 ∧ E = (Env.none.upd 0 (.lit (.string x8756))) ∧ M = Mem.nil) ?_ ?_
                  · refine WP.loop (β := ByteArray) (fun n b => g_unicode_utf8_ValidString_l1 k n b = some x8756) (fun b => (Env.none.upd 0 (.lit (.string b)))) (fun b => Mem.nil) k x8450 H8908 rfl rfl ?_
                    rintro n x8603 H
                    obtain _ | n := n
                    · exact nf rfl H
                    rw [g_unicode_utf8_ValidString_l1.eq_2] at H
                    show WP _ _ _ _ (Env.none.upd 0 (.lit (.string x8603))) Mem.nil _
                    refine WP.seq ?_
                    refine WP.seq ?_
                    obtain ⟨x8868, H8904, H⟩ := bnd H
                    refine WP.monoW (Q := fun x E M => x = .normal ∧ E = ((Env.none.upd 0 (.lit (.string x8603))).upd 62 (.lit (.bool x8868))) ∧ M = Mem.nil) ?_ ?_
                    · clear H
                      have H := H8904
                      clear H8904
                      refine WP.regionD' 21 [] [] mixed rfl ?_
                      refine WPD.takeT 0 rfl (by kernel_rfl) (q_mv (v := .lit (.string _)) rfl) rfl ?_
                      refine WPD.takeT 1 rfl (by kernel_rfl) (q_len_str Tryd.underlying9 rfl) rfl ?_
                      obtain ⟨x8887, h8887, H⟩ := bnd H
                      refine WPD.takeT 2 rfl (by kernel_rfl) (q_nm (q_gtr rfl rfl) (nm_bool h8887)) rfl ?_
                      refine WPD.takeT 3 rfl (by kernel_rfl) (q_mv (v := .lit (.bool _)) rfl) rfl ?_
                      refine WPD.split (t := 45) (b := x8887) rfl (fun hb8887 => ?_) (fun hb8887 => ?_)
                      · replace H := cnt hb8887 H
                        refine WPD.takegT 4 rfl (by kernel_rfl) rfl rfl (lb hb8887) (q_mv (v := .lit (.string _)) rfl) rfl ?_
                        refine WPD.takegT 6 rfl (by kernel_rfl) rfl rfl (lb hb8887) (q_mv (v := .lit (.string _)) rfl) rfl ?_
                        obtain ⟨h8888, H⟩ := grd H
                        obtain ⟨x8890, h8890, H⟩ := bnd H
                        refine WPD.takegT 7 rfl (by kernel_rfl) rfl rfl (lb hb8887) (q_nm (q_slice_str (i := 8) (j := ((ByteArray.size x8603 : Nat) : Int)) Tryd.underlying9 rfl ⟨_, rfl⟩ rfl h8888) (nm_str h8890)) rfl ?_
                        refine WPD.takegT 10 rfl (by kernel_rfl) rfl rfl (lb hb8887) (q_mv (v := .lit (.string _)) rfl) rfl ?_
                        obtain ⟨h8890, H⟩ := grd H
                        obtain ⟨x8892, h8892, H⟩ := bnd H
                        refine WPD.takegT 11 rfl (by kernel_rfl) rfl rfl (lb hb8887) (q_nm (q_slice_str (i := 16) (j := ((ByteArray.size x8603 : Nat) : Int)) Tryd.underlying9 rfl ⟨_, rfl⟩ rfl h8890) (nm_str h8892)) rfl ?_
                        refine WPD.takegT 13 rfl (by kernel_rfl) rfl rfl (lb hb8887) (q_mv (v := .lit (.string _)) rfl) rfl ?_
                        obtain ⟨h8892, H⟩ := grd H
                        obtain ⟨x8894, h8894, H⟩ := bnd H
                        refine WPD.takegT 14 rfl (by kernel_rfl) rfl rfl (lb hb8887) (q_nm (q_slice_str (i := 24) (j := ((ByteArray.size x8603 : Nat) : Int)) Tryd.underlying9 rfl ⟨_, rfl⟩ rfl h8892) (nm_str h8894)) rfl ?_
                        obtain ⟨x8896, h8894, H⟩ := bnd H
                        refine WPD.effg 5 [] [] rfl (by kernel_rfl) rfl rfl (lb hb8887) (runs_call (s := []) (t := []) (N := 0) (bor := []) fn42 rfl (s_unicode_utf8_word_string k x8603 x8896 h8894) ⟨rfl, trivial, by decide, rfl, trivial⟩ rfl trivial (.ren rfl rfl .nil) rfl trivial rfl) rfl rfl ?_
                        obtain ⟨x8898, h8896, H⟩ := bnd H
                        refine WPD.effg 8 [] [] rfl (by kernel_rfl) rfl rfl (lb hb8887) (runs_call (s := []) (t := []) (N := 0) (bor := []) fn42 rfl (s_unicode_utf8_word_string k x8890 x8898 h8896) ⟨rfl, trivial, by decide, rfl, trivial⟩ rfl trivial (.ren rfl rfl .nil) rfl trivial rfl) rfl rfl ?_
                        refine WPD.takegT 9 rfl (by kernel_rfl) rfl rfl (lb hb8887) (q_or rfl rfl) rfl ?_
                        obtain ⟨x8900, h8898, H⟩ := bnd H
                        refine WPD.effg 12 [] [] rfl (by kernel_rfl) rfl rfl (lb hb8887) (runs_call (s := []) (t := []) (N := 0) (bor := []) fn42 rfl (s_unicode_utf8_word_string k x8892 x8900 h8898) ⟨rfl, trivial, by decide, rfl, trivial⟩ rfl trivial (.ren rfl rfl .nil) rfl trivial rfl) rfl rfl ?_
                        obtain ⟨x8902, h8900, H⟩ := bnd H
                        refine WPD.effg 15 [] [] rfl (by kernel_rfl) rfl rfl (lb hb8887) (runs_call (s := []) (t := []) (N := 0) (bor := []) fn42 rfl (s_unicode_utf8_word_string k x8894 x8902 h8900) ⟨rfl, trivial, by decide, rfl, trivial⟩ rfl trivial (.ren rfl rfl .nil) rfl trivial rfl) rfl rfl ?_
                        refine WPD.takegT 16 rfl (by kernel_rfl) rfl rfl (lb hb8887) (q_or rfl rfl) rfl ?_
                        obtain ⟨x8903, h8903, H⟩ := bnd H
                        refine WPD.takegT 17 rfl (by kernel_rfl) rfl rfl (lb hb8887) (q_nm (q_or rfl rfl) (nm_int h8903)) rfl ?_
                        obtain ⟨x8904, h8904, H⟩ := bnd H
                        refine WPD.takegT 18 rfl (by kernel_rfl) rfl rfl (lb hb8887) (q_nm (q_and rfl rfl) (nm_int h8904)) rfl ?_
                        refine WPD.takegT 19 rfl (by kernel_rfl) rfl rfl (lb hb8887) (q_eql rfl rfl) rfl ?_
                        refine WPD.takeT 20 rfl (by kernel_rfl) (q_pickT (v := .lit (.bool _)) (lb hb8887) rfl) rfl ?_
                        refine WPD.doneW (by kernel_rfl) ?_
                        refine W.cv (Cv.weak (E' := ((Env.none.upd 0 (.lit (.string x8603))).upd 62 (.lit (.bool (decide (x8904 = 0)))))) (M' := Mem.nil) [] hnp ⟨rfl, trivial, by decide, rfl, trivial⟩ (LeE.upd rfl rfl (LeE.upd rfl rfl (LeE.none rfl rfl)))) rfl ?_
                        refine W.now ?_
                        have q0 := (Option.some.inj H)
                        subst q0
                        exact ⟨rfl, rfl, rfl⟩
                      · replace H := cnf hb8887 H
                        refine WPD.pass (b' := false) 4 rfl (by kernel_rfl) rfl rfl (lb hb8887) rfl rfl ?_
                        refine WPD.pass (b' := false) 5 rfl (by kernel_rfl) rfl rfl (lb hb8887) rfl rfl ?_
                        refine WPD.pass (b' := false) 6 rfl (by kernel_rfl) rfl rfl (lb hb8887) rfl rfl ?_
                        refine WPD.pass (b' := false) 7 rfl (by kernel_rfl) rfl rfl (lb hb8887) rfl rfl ?_
                        refine WPD.pass (b' := false) 8 rfl (by kernel_rfl) rfl rfl (lb hb8887) rfl rfl ?_
                        refine WPD.pass (b' := false) 9 rfl (by kernel_rfl) rfl rfl (lb hb8887) rfl rfl ?_
                        refine WPD.pass (b' := false) 10 rfl (by kernel_rfl) rfl rfl (lb hb8887) rfl rfl ?_
                        refine WPD.pass (b' := false) 11 rfl (by kernel_rfl) rfl rfl (lb hb8887) rfl rfl ?_
                        refine WPD.pass (b' := false) 12 rfl (by kernel_rfl) rfl rfl (lb hb8887) rfl rfl ?_
                        refine WPD.pass (b' := false) 13 rfl (by kernel_rfl) rfl rfl (lb hb8887) rfl rfl ?_
                        refine WPD.pass (b' := false) 14 rfl (by kernel_rfl) rfl rfl (lb hb8887) rfl rfl ?_
                        refine WPD.pass (b' := false) 15 rfl (by kernel_rfl) rfl rfl (lb hb8887) rfl rfl ?_
                        refine WPD.pass (b' := false) 16 rfl (by kernel_rfl) rfl rfl (lb hb8887) rfl rfl ?_
                        refine WPD.pass (b' := false) 17 rfl (by kernel_rfl) rfl rfl (lb hb8887) rfl rfl ?_
                        refine WPD.pass (b' := false) 18 rfl (by kernel_rfl) rfl rfl (lb hb8887) rfl rfl ?_
                        refine WPD.pass (b' := false) 19 rfl (by kernel_rfl) rfl rfl (lb hb8887) rfl rfl ?_
                        refine WPD.takeT 20 rfl (by kernel_rfl) (q_pickF (v := .lit (.bool _)) (lb hb8887) rfl) rfl ?_
                        refine WPD.doneW (by kernel_rfl) ?_
                        refine W.cv (Cv.weak (E' := ((Env.none.upd 0 (.lit (.string x8603))).upd 62 (.lit (.bool false)))) (M' := Mem.nil) [] hnp ⟨rfl, trivial, by decide, rfl, trivial⟩ (LeE.upd rfl rfl (LeE.upd rfl rfl (LeE.none rfl rfl)))) rfl ?_
                        refine W.now ?_
                        have q0 := (Option.some.inj H)
                        subst q0
                        exact ⟨rfl, rfl, rfl⟩
                    · rintro _ _ _ ⟨rfl, rfl, rfl⟩
                      refine W.now ?_
                      refine Then.n ?_
                      refine WP.cond (t := x8868) rfl (fun hb8905 => ?_) (fun hb8905 => ?_)
                      · replace H := cnt hb8905 H
                        refine WP.skipW ?_
                        refine W.now ?_
                        refine Then.n ?_
                        refine WP.block ?_
                        refine WP.region ?_
                        refine WPL.q (q_mv (v := .lit (.string _)) rfl) rfl ?_
                        obtain ⟨h8906, H⟩ := grd H
                        obtain ⟨x8908, h8908, H⟩ := bnd H
                        refine WPL.q (q_nm (q_slice_str (i := 32) (j := ((ByteArray.size x8603 : Nat) : Int)) Tryd.underlying9 rfl ⟨_, rfl⟩ rfl h8906) (nm_str h8908)) rfl ?_
                        refine WPL.q (q_as (v := .lit (.string _)) rfl) rfl ?_
                        refine WPL.nilW ?_
                        refine W.cv (Cv.weak (E' := (Env.none.upd 0 (.lit (.string x8908)))) (M' := Mem.nil) [] hnp ⟨rfl, trivial, by decide, rfl, trivial⟩ (LeE.upd rfl rfl (LeE.none rfl rfl))) rfl ?_
                        refine W.now ?_
                        refine InBlock.n ?_
                        exact Then.n ⟨n, x8908, Nat.lt_succ_self n, H, rfl, rfl⟩
                      · replace H := cnf hb8905 H
                        refine WP.exitW ?_
                        refine W.cv (Cv.weak (E' := (Env.none.upd 0 (.lit (.string x8603)))) (M' := Mem.nil) [] hnp ⟨rfl, trivial, by decide, rfl, trivial⟩ (LeE.upd rfl rfl (LeE.none rfl rfl))) rfl ?_
                        refine W.now ?_
                        refine Then.x ?_
                        refine Then.x ?_
                        have q0 := (Option.some.inj H)
                        subst q0
                        exact ⟨rfl, rfl, rfl⟩
                  · rintro _ _ _ ⟨rfl, rfl, rfl⟩
                    refine W.cv (Cv.weak (E' := (Env.none.upd 0 (.lit (.string x8756)))) (M' := Mem.nil) [] hnp ⟨rfl, trivial, by decide, rfl, trivial⟩ (LeE.upd rfl rfl (LeE.none rfl rfl))) rfl ?_
                    refine W.now ?_
                    refine InBlock.x0 ?_
                    have q0 := (Option.some.inj H)
                    subst q0
                    exact ⟨rfl, rfl, rfl⟩
                · replace H := cnf hb8447 H
                  refine WP.skipW ?_
                  refine W.cv (Cv.weak (E' := (Env.none.upd 0 (.lit (.string x8409)))) (M' := Mem.nil) [] hnp ⟨rfl, trivial, by decide, rfl, trivial⟩ (LeE.upd rfl rfl (LeE.none rfl rfl))) rfl ?_
                  refine W.now ?_
                  have q0 := (Option.some.inj H)
                  subst q0
                  exact ⟨rfl, rfl, rfl⟩
            · replace H := cnf hb8406 H
              refine WP.skipW ?_
              refine W.cv (Cv.weak (E' := (Env.none.upd 0 (.lit (.string x8030)))) (M' := Mem.nil) [] hnp ⟨rfl, trivial, by decide, rfl, trivial⟩ (LeE.upd rfl rfl (LeE.none rfl rfl))) rfl ?_
              refine W.now ?_
              have q0 := (Option.some.inj H)
              subst q0
              exact ⟨rfl, rfl, rfl⟩
        · rintro _ _ _ ⟨rfl, rfl, rfl⟩
          refine W.now ?_
          refine Then.n ?_
          refine WP.exitW ?_
          refine W.cv (Cv.weak (E' := (Env.none.upd 0 (.lit (.string x8394)))) (M' := Mem.nil) [] hnp ⟨rfl, trivial, by decide, rfl, trivial⟩ (LeE.upd rfl rfl (LeE.none rfl rfl))) rfl ?_
          refine W.now ?_
          refine Then.x ?_
          refine InBlock.x0 ?_
          exact Then.n ⟨n, x8394, Nat.lt_succ_self n, H, rfl, rfl⟩
      · replace H := cnf hb8027 H
        refine WP.skipW ?_
        refine W.now ?_
        refine Then.n ?_
        refine WP.seq ?_
        refine WP.region ?_
        refine WPL.q (q_mv (v := .lit (.int _ _)) rfl) rfl ?_
        obtain ⟨h8910, H⟩ := grd H
        refine WPL.q (q_indexTab ar59 rfl rfl tb0 rfl h8910) rfl ?_
        refine WPL.q (q_load_sc sc5 rfl) rfl ?_
        refine WPL.q (q_as (v := .lit (.int _ _)) rfl) rfl ?_
        refine WPL.nilW ?_
        refine W.now ?_
        refine Then.n ?_
        refine WP.seq ?_
        refine WP.region ?_
        refine WPL.q (q_mv (v := .lit (.int _ _)) rfl) rfl ?_
        obtain ⟨x8912, h8912, H⟩ := bnd H
        refine WPL.q (q_nm (q_and rfl rfl) (nm_int h8912)) rfl ?_
        refine WPL.q (q_conv Tryd.underlying5 Tryd.underlying3 rfl) rfl ?_
        refine WPL.q (q_as (v := .lit (.int _ _)) rfl) rfl ?_
        refine WPL.nilW ?_
        refine W.now ?_
        refine Then.n ?_
        refine WP.seq ?_
        refine WP.region ?_
        refine WPL.q (q_mv (v := .lit (.int _ _)) rfl) rfl ?_
        obtain ⟨x8913, h8913, H⟩ := bnd H
        refine WPL.q (q_nm (q_shr rfl rfl rfl) (nm_int h8913)) rfl ?_
        obtain ⟨h8913, H⟩ := grd H
        refine WPL.q (q_indexTab ar62 rfl rfl tb1 rfl h8913) rfl ?_
        refine WPL.q (q_load_roag ag61 rfl rfl S_unicode_utf8_acceptRange.sp) rfl ?_
        refine WPL.d (d_alloc ze61 rfl) rfl ?_
        refine WPL.s (s_store sz61 rfl rfl rfl rfl rfl) ?_
        refine WPL.nilW ?_
        refine W.now ?_
        refine Then.n ?_
        refine WP.seq ?_
        refine WP.region ?_
        refine WPL.q (q_mv (v := .lit (.int _ _)) rfl) rfl ?_
        refine WPL.nilW ?_
        refine W.now ?_
        refine Then.n ?_
        refine WP.block ?_
        refine WP.seq ?_
        refine WP.region ?_
        obtain ⟨x8915, h8915, H⟩ := bnd H
        refine WPL.q (q_nm (q_eql rfl rfl) (nm_bool h8915)) rfl ?_
        refine WPL.q (q_as (v := .lit (.bool _)) rfl) rfl ?_
        refine WPL.nilW ?_
        refine W.now ?_
        refine Then.n ?_
        refine WP.cond (t := x8915) rfl (fun hb8915 => ?_) (fun hb8915 => ?_)
        · replace H := cnt hb8915 H
          refine WP.seq ?_
          refine WP.seq ?_
          obtain ⟨x8971, H8988, H⟩ := bnd H
          refine WP.monoW (Q := fun x E M => x = .normal ∧ E = ((Env.none.upd 0 (.lit (.string x5490))).upd 94 (.lit (.bool x8971))) ∧ M = Mem.nil) ?_ ?_
          · clear H
            have H := H8988
            clear H8988
            refine WP.regionD' 17 [0] [] mixed rfl ?_
            refine WPD.takeT 0 rfl (by kernel_rfl) (q_mv (v := .lit (.string _)) rfl) rfl ?_
            refine WPD.takeT 1 rfl (by kernel_rfl) (q_len_str Tryd.underlying9 rfl) rfl ?_
            obtain ⟨x8982, h8982, H⟩ := bnd H
            refine WPD.takeT 2 rfl (by kernel_rfl) (q_nm (q_lss rfl rfl) (nm_bool h8982)) rfl ?_
            refine WPD.takeT 3 rfl (by kernel_rfl) (q_mv (v := .lit (.bool _)) rfl) rfl ?_
            refine WPD.split (t := 81) (b := x8982) rfl (fun hb8982 => ?_) (fun hb8982 => ?_)
            · replace H := cnt hb8982 H
              refine WPD.pass (b' := true) 4 rfl (by kernel_rfl) rfl rfl (lb hb8982) rfl rfl ?_
              refine WPD.pass (b' := true) 5 rfl (by kernel_rfl) rfl rfl (lb hb8982) rfl rfl ?_
              refine WPD.pass (b' := true) 6 rfl (by kernel_rfl) rfl rfl (lb hb8982) rfl rfl ?_
              refine WPD.pass (b' := true) 7 rfl (by kernel_rfl) rfl rfl (lb hb8982) rfl rfl ?_
              refine WPD.pass (b' := true) 8 rfl (by kernel_rfl) rfl rfl (lb hb8982) rfl rfl ?_
              refine WPD.takeT 9 rfl (by kernel_rfl) (q_pickT (v := .lit (.bool _)) (lb hb8982) rfl) rfl ?_
              refine WPD.takeT 10 rfl (by kernel_rfl) (q_mv (v := .lit (.bool _)) rfl) rfl ?_
              refine WPD.pass (b' := true) 11 rfl (by kernel_rfl) rfl rfl rfl rfl rfl ?_
              refine WPD.pass (b' := true) 12 rfl (by kernel_rfl) rfl rfl rfl rfl rfl ?_
              refine WPD.pass (b' := true) 13 rfl (by kernel_rfl) rfl rfl rfl rfl rfl ?_
              refine WPD.pass (b' := true) 14 rfl (by kernel_rfl) rfl rfl rfl rfl rfl ?_
              refine WPD.pass (b' := true) 15 rfl (by kernel_rfl) rfl rfl rfl rfl rfl ?_
              refine WPD.takeT 16 rfl (by kernel_rfl) (q_pickT (v := .lit (.bool _)) rfl rfl) rfl ?_
              refine WPD.doneW (by kernel_rfl) ?_
              refine W.cv (Cv.weak (E' := ((Env.none.upd 0 (.lit (.string x5490))).upd 94 (.lit (.bool true)))) (M' := Mem.nil) [] hnp ⟨rfl, trivial, by decide, rfl, trivial⟩ (LeE.upd rfl rfl (LeE.upd rfl rfl (LeE.none rfl rfl)))) rfl ?_
              refine W.now ?_
              have q0 := (Option.some.inj H)
              subst q0
              exact ⟨rfl, rfl, rfl⟩
            · replace H := cnf hb8982 H
              refine WPD.takegT 4 rfl (by kernel_rfl) rfl rfl (lb hb8982) (q_mv (v := .lit (.string _)) rfl) rfl ?_
              obtain ⟨x8984, h8984, H⟩ := bnd H
              refine WPD.takegT 5 rfl (by kernel_rfl) rfl rfl (lb hb8982) (q_index_str Tryd.underlying9 rfl rfl h8984) rfl ?_
              refine WPD.takegT 6 rfl (by kernel_rfl) rfl rfl (lb hb8982) (q_fieldAddr fi61_0 rfl rfl) rfl ?_
              refine WPD.takeg 7 rfl (by kernel_rfl) rfl rfl (lb hb8982) (q_load sc5 rfl rfl rfl) rfl rfl ?_
              obtain ⟨x8985, h8985, H⟩ := bnd H
              refine WPD.takegT 8 rfl (by kernel_rfl) rfl rfl (lb hb8982) (q_nm (q_lss rfl rfl) (nm_bool h8985)) rfl ?_
              refine WPD.takeT 9 rfl (by kernel_rfl) (q_pickF (v := .lit (.bool _)) (lb hb8982) rfl) rfl ?_
              refine WPD.takeT 10 rfl (by kernel_rfl) (q_mv (v := .lit (.bool _)) rfl) rfl ?_
              refine WPD.split (t := 88) (b := x8985) rfl (fun hb8985 => ?_) (fun hb8985 => ?_)
              · replace H := cnt hb8985 H
                refine WPD.pass (b' := true) 11 rfl (by kernel_rfl) rfl rfl (lb hb8985) rfl rfl ?_
                refine WPD.pass (b' := true) 12 rfl (by kernel_rfl) rfl rfl (lb hb8985) rfl rfl ?_
                refine WPD.pass (b' := true) 13 rfl (by kernel_rfl) rfl rfl (lb hb8985) rfl rfl ?_
                refine WPD.pass (b' := true) 14 rfl (by kernel_rfl) rfl rfl (lb hb8985) rfl rfl ?_
                refine WPD.pass (b' := true) 15 rfl (by kernel_rfl) rfl rfl (lb hb8985) rfl rfl ?_
                refine WPD.takeT 16 rfl (by kernel_rfl) (q_pickT (v := .lit (.bool _)) (lb hb8985) rfl) rfl ?_
                refine WPD.doneW (by kernel_rfl) ?_
                refine W.cv (Cv.weak (E' := ((Env.none.upd 0 (.lit (.string x5490))).upd 94 (.lit (.bool true)))) (M' := Mem.nil) [] hnp ⟨rfl, trivial, by decide, rfl, trivial⟩ (LeE.upd rfl rfl (LeE.upd rfl rfl (LeE.none rfl rfl)))) rfl ?_
                refine W.now ?_
                have q0 := (Option.some.inj H)
                subst q0
                exact ⟨rfl, rfl, rfl⟩
              · replace H := cnf hb8985 H
                refine WPD.takegT 11 rfl (by kernel_rfl) rfl rfl (lb hb8985) (q_fieldAddr fi61_1 rfl rfl) rfl ?_
                refine WPD.takegT 13 rfl (by kernel_rfl) rfl rfl (lb hb8985) (q_mv (v := .lit (.string _)) rfl) rfl ?_
                obtain ⟨x8987, h8987, H⟩ := bnd H
                refine WPD.takegT 14 rfl (by kernel_rfl) rfl rfl (lb hb8985) (q_index_str Tryd.underlying9 rfl rfl h8987) rfl ?_
                refine WPD.takeg 12 rfl (by kernel_rfl) rfl rfl (lb hb8985) (q_load sc5 rfl rfl rfl) rfl rfl ?_
                obtain ⟨x8988, h8988, H⟩ := bnd H
                refine WPD.takegT 15 rfl (by kernel_rfl) rfl rfl (lb hb8985) (q_nm (q_lss rfl rfl) (nm_bool h8988)) rfl ?_
                refine WPD.takeT 16 rfl (by kernel_rfl) (q_pickF (v := .lit (.bool _)) (lb hb8985) rfl) rfl ?_
                refine WPD.doneW (by kernel_rfl) ?_
                refine W.cv (Cv.weak (E' := ((Env.none.upd 0 (.lit (.string x5490))).upd 94 (.lit (.bool x8988)))) (M' := Mem.nil) [] hnp ⟨rfl, trivial, by decide, rfl, trivial⟩ (LeE.upd rfl rfl (LeE.upd rfl rfl (LeE.none rfl rfl)))) rfl ?_
                refine W.now ?_
                have q0 := (Option.some.inj H)
                subst q0
                exact ⟨rfl, rfl, rfl⟩
          · rintro _ _ _ ⟨rfl, rfl, rfl⟩
            refine W.now ?_
            refine Then.n ?_
            refine WP.cond (t := x8971) rfl (fun hb8989 => ?_) (fun hb8989 => ?_)
            · replace H := cnt hb8989 H
              refine WP.seq ?_
              refine WP.region ?_
              refine WPL.q (q_as (v := .lit (.bool _)) rfl) rfl ?_
              refine WPL.nilW ?_
              refine W.now ?_
              refine Then.n ?_
              refine WP.retW ?_
              refine W.cv (Cv.weak (E' := (Env.none.upd 2 (.lit (.bool false)))) (M' := Mem.nil) [] hnp ⟨rfl, trivial, by decide, rfl, trivial⟩ (LeE.upd rfl rfl (LeE.none rfl rfl))) rfl ?_
              refine W.now ?_
              refine Then.r ?_
              refine InBlock.r ?_
              refine InBlock.r ?_
              refine Then.r ?_
              have q0 := Option.some.inj H
              subst q0
              exact ⟨rfl, rfl, rfl⟩
            · replace H := cnf hb8989 H
              refine WP.skipW ?_
              refine W.now ?_
              refine Then.n ?_
              refine WP.region ?_
              refine WPL.q (q_mv (v := .lit (.string _)) rfl) rfl ?_
              obtain ⟨h8990, H⟩ := grd H
              obtain ⟨x8992, h8992, H⟩ := bnd H
              refine WPL.q (q_nm (q_slice_str (i := 2) (j := ((ByteArray.size x5490 : Nat) : Int)) Tryd.underlying9 rfl ⟨_, rfl⟩ rfl h8990) (nm_str h8992)) rfl ?_
              refine WPL.q (q_as (v := .lit (.string _)) rfl) rfl ?_
              refine WPL.nilW ?_
              refine W.cv (Cv.weak (E' := (Env.none.upd 0 (.lit (.string x8992)))) (M' := Mem.nil) [] hnp ⟨rfl, trivial, by decide, rfl, trivial⟩ (LeE.upd rfl rfl (LeE.none rfl rfl))) rfl ?_
              refine W.now ?_
              refine InBlock.n ?_
              refine InBlock.n ?_
              exact Then.n ⟨n, x8992, Nat.lt_succ_self n, H, rfl, rfl⟩
        · replace H := cnf hb8915 H
          refine WP.seq ?_
          refine WP.region ?_
          obtain ⟨x8993, h8993, H⟩ := bnd H
          refine WPL.q (q_nm (q_eql rfl rfl) (nm_bool h8993)) rfl ?_
          refine WPL.q (q_as (v := .lit (.bool _)) rfl) rfl ?_
          refine WPL.nilW ?_
          refine W.now ?_
          refine Then.n ?_
          refine WP.cond (t := x8993) rfl (fun hb8993 => ?_) (fun hb8993 => ?_)
          · replace H := cnt hb8993 H
            refine WP.seq ?_
            refine WP.seq ?_
            obtain ⟨x9073, H9098, H⟩ := bnd H
            refine WP.monoW (Q := fun x E M => x = .normal ∧ E = ((Env.none.upd 0 (.lit (.string x5490))).upd 125 (.lit (.bool x9073))) ∧ M = Mem.nil) ?_ ?_
            · clear H
              have H := H9098
              clear H9098
              refine WP.regionD' 27 [0] [] mixed rfl ?_
              refine WPD.takeT 0 rfl (by kernel_rfl) (q_mv (v := .lit (.string _)) rfl) rfl ?_
              refine WPD.takeT 1 rfl (by kernel_rfl) (q_len_str Tryd.underlying9 rfl) rfl ?_
              obtain ⟨x9088, h9088, H⟩ := bnd H
              refine WPD.takeT 2 rfl (by kernel_rfl) (q_nm (q_lss rfl rfl) (nm_bool h9088)) rfl ?_
              refine WPD.takeT 3 rfl (by kernel_rfl) (q_mv (v := .lit (.bool _)) rfl) rfl ?_
              refine WPD.split (t := 102) (b := x9088) rfl (fun hb9088 => ?_) (fun hb9088 => ?_)
              · replace H := cnt hb9088 H
                refine WPD.pass (b' := true) 4 rfl (by kernel_rfl) rfl rfl (lb hb9088) rfl rfl ?_
                refine WPD.pass (b' := true) 5 rfl (by kernel_rfl) rfl rfl (lb hb9088) rfl rfl ?_
                refine WPD.pass (b' := true) 6 rfl (by kernel_rfl) rfl rfl (lb hb9088) rfl rfl ?_
                refine WPD.pass (b' := true) 7 rfl (by kernel_rfl) rfl rfl (lb hb9088) rfl rfl ?_
                refine WPD.pass (b' := true) 8 rfl (by kernel_rfl) rfl rfl (lb hb9088) rfl rfl ?_
                refine WPD.takeT 9 rfl (by kernel_rfl) (q_pickT (v := .lit (.bool _)) (lb hb9088) rfl) rfl ?_
                refine WPD.takeT 10 rfl (by kernel_rfl) (q_mv (v := .lit (.bool _)) rfl) rfl ?_
                refine WPD.pass (b' := true) 11 rfl (by kernel_rfl) rfl rfl rfl rfl rfl ?_
                refine WPD.pass (b' := true) 12 rfl (by kernel_rfl) rfl rfl rfl rfl rfl ?_
                refine WPD.pass (b' := true) 13 rfl (by kernel_rfl) rfl rfl rfl rfl rfl ?_
                refine WPD.pass (b' := true) 14 rfl (by kernel_rfl) rfl rfl rfl rfl rfl ?_
                refine WPD.pass (b' := true) 15 rfl (by kernel_rfl) rfl rfl rfl rfl rfl ?_
                refine WPD.takeT 16 rfl (by kernel_rfl) (q_pickT (v := .lit (.bool _)) rfl rfl) rfl ?_
                refine WPD.takeT 17 rfl (by kernel_rfl) (q_mv (v := .lit (.bool _)) rfl) rfl ?_
                refine WPD.pass (b' := true) 18 rfl (by kernel_rfl) rfl rfl rfl rfl rfl ?_
                refine WPD.pass (b' := true) 19 rfl (by kernel_rfl) rfl rfl rfl rfl rfl ?_
                refine WPD.pass (b' := true) 20 rfl (by kernel_rfl) rfl rfl rfl rfl rfl ?_
                refine WPD.takeT 21 rfl (by kernel_rfl) (q_pickT (v := .lit (.bool _)) rfl rfl) rfl ?_
                refine WPD.takeT 22 rfl (by kernel_rfl) (q_mv (v := .lit (.bool _)) rfl) rfl ?_
                refine WPD.pass (b' := true) 23 rfl (by kernel_rfl) rfl rfl rfl rfl rfl ?_
                refine WPD.pass (b' := true) 24 rfl (by kernel_rfl) rfl rfl rfl rfl rfl ?_
                refine WPD.pass (b' := true) 25 rfl (by kernel_rfl) rfl rfl rfl rfl rfl ?_
                refine WPD.takeT 26 rfl (by kernel_rfl) (q_pickT (v := .lit (.bool _)) rfl rfl) rfl ?_
                refine WPD.doneW (by kernel_rfl) ?_
                refine W.cv (Cv.weak (E' := ((Env.none.upd 0 (.lit (.string x5490))).upd 125 (.lit (.bool true)))) (M' := Mem.nil) [] hnp ⟨rfl, trivial, by decide, rfl, trivial⟩ (LeE.upd rfl rfl (LeE.upd rfl rfl (LeE.none rfl rfl)))) rfl ?_
                refine W.now ?_
                have q0 := (Option.some.inj H)
                subst q0
                exact ⟨rfl, rfl, rfl⟩
              · replace H := cnf hb9088 H
                refine WPD.takegT 4 rfl (by kernel_rfl) rfl rfl (lb hb9088) (q_mv (v := .lit (.string _)) rfl) rfl ?_
                obtain ⟨x9090, h9090, H⟩ := bnd H
                refine WPD.takegT 5 rfl (by kernel_rfl) rfl rfl (lb hb9088) (q_index_str Tryd.underlying9 rfl rfl h9090) rfl ?_
                refine WPD.takegT 6 rfl (by kernel_rfl) rfl rfl (lb hb9088) (q_fieldAddr fi61_0 rfl rfl) rfl ?_
                refine WPD.takeg 7 rfl (by kernel_rfl) rfl rfl (lb hb9088) (q_load sc5 rfl rfl rfl) rfl rfl ?_
                obtain ⟨x9091, h9091, H⟩ := bnd H
                refine WPD.takegT 8 rfl (by kernel_rfl) rfl rfl (lb hb9088) (q_nm (q_lss rfl rfl) (nm_bool h9091)) rfl ?_
                refine WPD.takeT 9 rfl (by kernel_rfl) (q_pickF (v := .lit (.bool _)) (lb hb9088) rfl) rfl ?_
                refine WPD.takeT 10 rfl (by kernel_rfl) (q_mv (v := .lit (.bool _)) rfl) rfl ?_
                refine WPD.split (t := 109) (b := x9091) rfl (fun hb9091 => ?_) (fun hb9091 => ?_)
                · replace H := cnt hb9091 H
                  refine WPD.pass (b' := true) 11 rfl (by kernel_rfl) rfl rfl (lb hb9091) rfl rfl ?_
                  refine WPD.pass (b' := true) 12 rfl (by kernel_rfl) rfl rfl (lb hb9091) rfl rfl ?_
                  refine WPD.pass (b' := true) 13 rfl (by kernel_rfl) rfl rfl (lb hb9091) rfl rfl ?_
                  refine WPD.pass (b' := true) 14 rfl (by kernel_rfl) rfl rfl (lb hb9091) rfl rfl ?_
                  refine WPD.pass (b' := true) 15 rfl (by kernel_rfl) rfl rfl (lb hb9091) rfl rfl ?_
                  refine WPD.takeT 16 rfl (by kernel_rfl) (q_pickT (v := .lit (.bool _)) (lb hb9091) rfl) rfl ?_
                  refine WPD.takeT 17 rfl (by kernel_rfl) (q_mv (v := .lit (.bool _)) rfl) rfl ?_
                  refine WPD.pass (b' := true) 18 rfl (by kernel_rfl) rfl rfl rfl rfl rfl ?_
                  refine WPD.pass (b' := true) 19 rfl (by kernel_rfl) rfl rfl rfl rfl rfl ?_
                  refine WPD.pass (b' := true) 20 rfl (by kernel_rfl) rfl rfl rfl rfl rfl ?_
                  refine WPD.takeT 21 rfl (by kernel_rfl) (q_pickT (v := .lit (.bool _)) rfl rfl) rfl ?_
                  refine WPD.takeT 22 rfl (by kernel_rfl) (q_mv (v := .lit (.bool _)) rfl) rfl ?_
                  refine WPD.pass (b' := true) 23 rfl (by kernel_rfl) rfl rfl rfl rfl rfl ?_
                  refine WPD.pass (b' := true) 24 rfl (by kernel_rfl) rfl rfl rfl rfl rfl ?_
                  refine WPD.pass (b' := true) 25 rfl (by kernel_rfl) rfl rfl rfl rfl rfl ?_
                  refine WPD.takeT 26 rfl (by kernel_rfl) (q_pickT (v := .lit (.bool _)) rfl rfl) rfl ?_
                  refine WPD.doneW (by kernel_rfl) ?_
                  refine W.cv (Cv.weak (E' := ((Env.none.upd 0 (.lit (.string x5490))).upd 125 (.lit (.bool true)))) (M' := Mem.nil) [] hnp ⟨rfl, trivial, by decide, rfl, trivial⟩ (LeE.upd rfl rfl (LeE.upd rfl rfl (LeE.none rfl rfl)))) rfl ?_
                  refine W.now ?_
                  have q0 := (Option.some.inj H)
                  subst q0
                  exact ⟨rfl, rfl, rfl⟩
                · replace H := cnf hb9091 H
                  refine WPD.takegT 11 rfl (by kernel_rfl) rfl rfl (lb hb9091) (q_fieldAddr fi61_1 rfl rfl) rfl ?_
                  refine WPD.takegT 13 rfl (by kernel_rfl) rfl rfl (lb hb9091) (q_mv (v := .lit (.string _)) rfl) rfl ?_
                  obtain ⟨x9093, h9093, H⟩ := bnd H
                  refine WPD.takegT 14 rfl (by kernel_rfl) rfl rfl (lb hb9091) (q_index_str Tryd.underlying9 rfl rfl h9093) rfl ?_
                  refine WPD.takeg 12 rfl (by kernel_rfl) rfl rfl (lb hb9091) (q_load sc5 rfl rfl rfl) rfl rfl ?_
                  obtain ⟨x9094, h9094, H⟩ := bnd H
                  refine WPD.takegT 15 rfl (by kernel_rfl) rfl rfl (lb hb9091) (q_nm (q_lss rfl rfl) (nm_bool h9094)) rfl ?_
                  refine WPD.takeT 16 rfl (by kernel_rfl) (q_pickF (v := .lit (.bool _)) (lb hb9091) rfl) rfl ?_
                  refine WPD.takeT 17 rfl (by kernel_rfl) (q_mv (v := .lit (.bool _)) rfl) rfl ?_
                  refine WPD.split (t := 116) (b := x9094) rfl (fun hb9094 => ?_) (fun hb9094 => ?_)
                  · replace H := cnt hb9094 H
                    refine WPD.pass (b' := true) 18 rfl (by kernel_rfl) rfl rfl (lb hb9094) rfl rfl ?_
                    refine WPD.pass (b' := true) 19 rfl (by kernel_rfl) rfl rfl (lb hb9094) rfl rfl ?_
                    refine WPD.pass (b' := true) 20 rfl (by kernel_rfl) rfl rfl (lb hb9094) rfl rfl ?_
                    refine WPD.takeT 21 rfl (by kernel_rfl) (q_pickT (v := .lit (.bool _)) (lb hb9094) rfl) rfl ?_
                    refine WPD.takeT 22 rfl (by kernel_rfl) (q_mv (v := .lit (.bool _)) rfl) rfl ?_
                    refine WPD.pass (b' := true) 23 rfl (by kernel_rfl) rfl rfl rfl rfl rfl ?_
                    refine WPD.pass (b' := true) 24 rfl (by kernel_rfl) rfl rfl rfl rfl rfl ?_
                    refine WPD.pass (b' := true) 25 rfl (by kernel_rfl) rfl rfl rfl rfl rfl ?_
                    refine WPD.takeT 26 rfl (by kernel_rfl) (q_pickT (v := .lit (.bool _)) rfl rfl) rfl ?_
                    refine WPD.doneW (by kernel_rfl) ?_
                    refine W.cv (Cv.weak (E' := ((Env.none.upd 0 (.lit (.string x5490))).upd 125 (.lit (.bool true)))) (M' := Mem.nil) [] hnp ⟨rfl, trivial, by decide, rfl, trivial⟩ (LeE.upd rfl rfl (LeE.upd rfl rfl (LeE.none rfl rfl)))) rfl ?_
                    refine W.now ?_
                    have q0 := (Option.some.inj H)
                    subst q0
                    exact ⟨rfl, rfl, rfl⟩
                  · replace H := cnf hb9094 H
                    refine WPD.takegT 18 rfl (by kernel_rfl) rfl rfl (lb hb9094) (q_mv (v := .lit (.string _)) rfl) rfl ?_
                    obtain ⟨x9096, h9096, H⟩ := bnd H
                    refine WPD.takegT 19 rfl (by kernel_rfl) rfl rfl (lb hb9094) (q_index_str Tryd.underlying9 rfl rfl h9096) rfl ?_
                    refine WPD.takegT 20 rfl (by kernel_rfl) rfl rfl (lb hb9094) (q_lss rfl rfl) rfl ?_
                    refine WPD.takeT 21 rfl (by kernel_rfl) (q_pickF (v := .lit (.bool _)) (lb hb9094) rfl) rfl ?_
                    refine WPD.takeT 22 rfl (by kernel_rfl) (q_mv (v := .lit (.bool _)) rfl) rfl ?_
                    refine WPD.split (t := 121) (b := (decide (x9096 < 128))) rfl (fun hb9096 => ?_) (fun hb9096 => ?_)
                    · replace H := cnt hb9096 H
                      refine WPD.pass (b' := true) 23 rfl (by kernel_rfl) rfl rfl (lb hb9096) rfl rfl ?_
                      refine WPD.pass (b' := true) 24 rfl (by kernel_rfl) rfl rfl (lb hb9096) rfl rfl ?_
                      refine WPD.pass (b' := true) 25 rfl (by kernel_rfl) rfl rfl (lb hb9096) rfl rfl ?_
                      refine WPD.takeT 26 rfl (by kernel_rfl) (q_pickT (v := .lit (.bool _)) (lb hb9096) rfl) rfl ?_
                      refine WPD.doneW (by kernel_rfl) ?_
                      refine W.cv (Cv.weak (E' := ((Env.none.upd 0 (.lit (.string x5490))).upd 125 (.lit (.bool true)))) (M' := Mem.nil) [] hnp ⟨rfl, trivial, by decide, rfl, trivial⟩ (LeE.upd rfl rfl (LeE.upd rfl rfl (LeE.none rfl rfl)))) rfl ?_
                      refine W.now ?_
                      have q0 := (Option.some.inj H)
                      subst q0
                      exact ⟨rfl, rfl, rfl⟩
                    · replace H := cnf hb9096 H
                      refine WPD.takegT 23 rfl (by kernel_rfl) rfl rfl (lb hb9096) (q_mv (v := .lit (.string _)) rfl) rfl ?_
                      obtain ⟨x9098, h9098, H⟩ := bnd H
                      refine WPD.takegT 24 rfl (by kernel_rfl) rfl rfl (lb hb9096) (q_index_str Tryd.underlying9 rfl rfl h9098) rfl ?_
                      refine WPD.takegT 25 rfl (by kernel_rfl) rfl rfl (lb hb9096) (q_lss rfl rfl) rfl ?_
                      refine WPD.takeT 26 rfl (by kernel_rfl) (q_pickF (v := .lit (.bool _)) (lb hb9096) rfl) rfl ?_
                      refine WPD.doneW (by kernel_rfl) ?_
                      refine W.cv (Cv.weak (E' := ((Env.none.upd 0 (.lit (.string x5490))).upd 125 (.lit (.bool (decide (191 < x9098)))))) (M' := Mem.nil) [] hnp ⟨rfl, trivial, by decide, rfl, trivial⟩ (LeE.upd rfl rfl (LeE.upd rfl rfl (LeE.none rfl rfl)))) rfl ?_
                      refine W.now ?_
                      have q0 := (Option.some.inj H)
                      subst q0
                      exact ⟨rfl, rfl, rfl⟩
            · rintro _ _ _ ⟨rfl, rfl, rfl⟩
              refine W.now ?_
              refine Then.n ?_
              refine WP.cond (t := x9073) rfl (fun hb9099 => ?_) (fun hb9099 => ?_)
              · replace H := cnt hb9099 H
                refine WP.seq ?_
                refine WP.region ?_
                refine WPL.q (q_as (v := .lit (.bool _)) rfl) rfl ?_
                refine WPL.nilW ?_
                refine W.now ?_
                refine Then.n ?_
                refine WP.retW ?_
                refine W.cv (Cv.weak (E' := (Env.none.upd 2 (.lit (.bool false)))) (M' := Mem.nil) [] hnp ⟨rfl, trivial, by decide, rfl, trivial⟩ (LeE.upd rfl rfl (LeE.none rfl rfl))) rfl ?_
                refine W.now ?_
                refine Then.r ?_
                refine InBlock.r ?_
                refine InBlock.r ?_
                refine Then.r ?_
                have q0 := Option.some.inj H
                subst q0
                exact ⟨rfl, rfl, rfl⟩
              · replace H := cnf hb9099 H
                refine WP.skipW ?_
                refine W.now ?_
                refine Then.n ?_
                refine WP.region ?_
                refine WPL.q (q_mv (v := .lit (.string _)) rfl) rfl ?_
                obtain ⟨h9100, H⟩ := grd H
                obtain ⟨x9102, h9102, H⟩ := bnd H
                refine WPL.q (q_nm (q_slice_str (i := 3) (j := ((ByteArray.size x5490 : Nat) : Int)) Tryd.underlying9 rfl ⟨_, rfl⟩ rfl h9100) (nm_str h9102)) rfl ?_
                refine WPL.q (q_as (v := .lit (.string _)) rfl) rfl ?_
                refine WPL.nilW ?_
                refine W.cv (Cv.weak (E' := (Env.none.upd 0 (.lit (.string x9102)))) (M' := Mem.nil) [] hnp ⟨rfl, trivial, by decide, rfl, trivial⟩ (LeE.upd rfl rfl (LeE.none rfl rfl))) rfl ?_
                refine W.now ?_
                refine InBlock.n ?_
                refine InBlock.n ?_
                exact Then.n ⟨n, x9102, Nat.lt_succ_self n, H, rfl, rfl⟩
          · replace H := cnf hb8993 H
            refine WP.seq ?_
            refine WP.region ?_
            obtain ⟨x9103, h9103, H⟩ := bnd H
            refine WPL.q (q_nm (q_eql rfl rfl) (nm_bool h9103)) rfl ?_
            refine WPL.q (q_as (v := .lit (.bool _)) rfl) rfl ?_
            refine WPL.nilW ?_
            refine W.now ?_
            refine Then.n ?_
            refine WP.cond (t := x9103) rfl (fun hb9103 => ?_) (fun hb9103 => ?_)
            · replace H := cnt hb9103 H
              refine WP.seq ?_
              refine WP.seq ?_
              obtain ⟨x9207, H9240, H⟩ := bnd H
              refine WP.monoW (Q := fun x E M => x = .normal ∧ E = ((Env.none.upd 0 (.lit (.string x5490))).upd 166 (.lit (.bool x9207))) ∧ M = Mem.nil) ?_ ?_
              · clear H
                have H := H9240
                clear H9240
                refine WP.regionD' 37 [0] [] mixed rfl ?_
                refine WPD.takeT 0 rfl (by kernel_rfl) (q_mv (v := .lit (.string _)) rfl) rfl ?_
                refine WPD.takeT 1 rfl (by kernel_rfl) (q_len_str Tryd.underlying9 rfl) rfl ?_
                obtain ⟨x9226, h9226, H⟩ := bnd H
                refine WPD.takeT 2 rfl (by kernel_rfl) (q_nm (q_lss rfl rfl) (nm_bool h9226)) rfl ?_
                refine WPD.takeT 3 rfl (by kernel_rfl) (q_mv (v := .lit (.bool _)) rfl) rfl ?_
                refine WPD.split (t := 133) (b := x9226) rfl (fun hb9226 => ?_) (fun hb9226 => ?_)
                · replace H := cnt hb9226 H
                  refine WPD.pass (b' := true) 4 rfl (by kernel_rfl) rfl rfl (lb hb9226) rfl rfl ?_
                  refine WPD.pass (b' := true) 5 rfl (by kernel_rfl) rfl rfl (lb hb9226) rfl rfl ?_
                  refine WPD.pass (b' := true) 6 rfl (by kernel_rfl) rfl rfl (lb hb9226) rfl rfl ?_
                  refine WPD.pass (b' := true) 7 rfl (by kernel_rfl) rfl rfl (lb hb9226) rfl rfl ?_
                  refine WPD.pass (b' := true) 8 rfl (by kernel_rfl) rfl rfl (lb hb9226) rfl rfl ?_
                  refine WPD.takeT 9 rfl (by kernel_rfl) (q_pickT (v := .lit (.bool _)) (lb hb9226) rfl) rfl ?_
                  refine WPD.takeT 10 rfl (by kernel_rfl) (q_mv (v := .lit (.bool _)) rfl) rfl ?_
                  refine WPD.pass (b' := true) 11 rfl (by kernel_rfl) rfl rfl rfl rfl rfl ?_
                  refine WPD.pass (b' := true) 12 rfl (by kernel_rfl) rfl rfl rfl rfl rfl ?_
                  refine WPD.pass (b' := true) 13 rfl (by kernel_rfl) rfl rfl rfl rfl rfl ?_
                  refine WPD.pass (b' := true) 14 rfl (by kernel_rfl) rfl rfl rfl rfl rfl ?_
                  refine WPD.pass (b' := true) 15 rfl (by kernel_rfl) rfl rfl rfl rfl rfl ?_
                  refine WPD.takeT 16 rfl (by kernel_rfl) (q_pickT (v := .lit (.bool _)) rfl rfl) rfl ?_
                  refine WPD.takeT 17 rfl (by kernel_rfl) (q_mv (v := .lit (.bool _)) rfl) rfl ?_
                  refine WPD.pass (b' := true) 18 rfl (by kernel_rfl) rfl rfl rfl rfl rfl ?_
                  refine WPD.pass (b' := true) 19 rfl (by kernel_rfl) rfl rfl rfl rfl rfl ?_
                  refine WPD.pass (b' := true) 20 rfl (by kernel_rfl) rfl rfl rfl rfl rfl ?_
                  refine WPD.takeT 21 rfl (by kernel_rfl) (q_pickT (v := .lit (.bool _)) rfl rfl) rfl ?_
                  refine WPD.takeT 22 rfl (by kernel_rfl) (q_mv (v := .lit (.bool _)) rfl) rfl ?_
                  refine WPD.pass (b' := true) 23 rfl (by kernel_rfl) rfl rfl rfl rfl rfl ?_
                  refine WPD.pass (b' := true) 24 rfl (by kernel_rfl) rfl rfl rfl rfl rfl ?_
                  refine WPD.pass (b' := true) 25 rfl (by kernel_rfl) rfl rfl rfl rfl rfl ?_
                  refine WPD.takeT 26 rfl (by kernel_rfl) (q_pickT (v := .lit (.bool _)) rfl rfl) rfl ?_
                  refine WPD.takeT 27 rfl (by kernel_rfl) (q_mv (v := .lit (.bool _)) rfl) rfl ?_
                  refine WPD.pass (b' := true) 28 rfl (by kernel_rfl) rfl rfl rfl rfl rfl ?_
                  refine WPD.pass (b' := true) 29 rfl (by kernel_rfl) rfl rfl rfl rfl rfl ?_
                  refine WPD.pass (b' := true) 30 rfl (by kernel_rfl) rfl rfl rfl rfl rfl ?_
                  refine WPD.takeT 31 rfl (by kernel_rfl) (q_pickT (v := .lit (.bool _)) rfl rfl) rfl ?_
                  refine WPD.takeT 32 rfl (by kernel_rfl) (q_mv (v := .lit (.bool _)) rfl) rfl ?_
                  refine WPD.pass (b' := true) 33 rfl (by kernel_rfl) rfl rfl rfl rfl rfl ?_
                  refine WPD.pass (b' := true) 34 rfl (by kernel_rfl) rfl rfl rfl rfl rfl ?_
                  refine WPD.pass (b' := true) 35 rfl (by kernel_rfl) rfl rfl rfl rfl rfl ?_
                  refine WPD.takeT 36 rfl (by kernel_rfl) (q_pickT (v := .lit (.bool _)) rfl rfl) rfl ?_
                  refine WPD.doneW (by kernel_rfl) ?_
                  refine W.cv (Cv.weak (E' := ((Env.none.upd 0 (.lit (.string x5490))).upd 166 (.lit (.bool true)))) (M' := Mem.nil) [] hnp ⟨rfl, trivial, by decide, rfl, trivial⟩ (LeE.upd rfl rfl (LeE.upd rfl rfl (LeE.none rfl rfl)))) rfl ?_
                  refine W.now ?_
                  have q0 := (Option.some.inj H)
                  subst q0
                  exact ⟨rfl, rfl, rfl⟩
                · replace H := cnf hb9226 H
                  refine WPD.takegT 4 rfl (by kernel_rfl) rfl rfl (lb hb9226) (q_mv (v := .lit (.string _)) rfl) rfl ?_
                  obtain ⟨x9228, h9228, H⟩ := bnd H
                  refine WPD.takegT 5 rfl (by kernel_rfl) rfl rfl (lb hb9226) (q_index_str Tryd.underlying9 rfl rfl h9228) rfl ?_
                  refine WPD.takegT 6 rfl (by kernel_rfl) rfl rfl (lb hb9226) (q_fieldAddr fi61_0 rfl rfl) rfl ?_
                  refine WPD.takeg 7 rfl (by kernel_rfl) rfl rfl (lb hb9226) (q_load sc5 rfl rfl rfl) rfl rfl ?_
                  obtain ⟨x9229, h9229, H⟩ := bnd H
                  refine WPD.takegT 8 rfl (by kernel_rfl) rfl rfl (lb hb9226) (q_nm (q_lss rfl rfl) (nm_bool h9229)) rfl ?_
                  refine WPD.takeT 9 rfl (by kernel_rfl) (q_pickF (v := .lit (.bool _)) (lb hb9226) rfl) rfl ?_
                  refine WPD.takeT 10 rfl (by kernel_rfl) (q_mv (v := .lit (.bool _)) rfl) rfl ?_
                  refine WPD.split (t := 140) (b := x9229) rfl (fun hb9229 => ?_) (fun hb9229 => ?_)
                  · replace H := cnt hb9229 H
                    refine WPD.pass (b' := true) 11 rfl (by kernel_rfl) rfl rfl (lb hb9229) rfl rfl ?_
                    refine WPD.pass (b' := true) 12 rfl (by kernel_rfl) rfl rfl (lb hb9229) rfl rfl ?_
                    refine WPD.pass (b' := true) 13 rfl (by kernel_rfl) rfl rfl (lb hb9229) rfl rfl ?_
                    refine WPD.pass (b' := true) 14 rfl (by kernel_rfl) rfl rfl (lb hb9229) rfl rfl ?_
                    refine WPD.pass (b' := true) 15 rfl (by kernel_rfl) rfl rfl (lb hb9229) rfl rfl ?_
                    refine WPD.takeT 16 rfl (by kernel_rfl) (q_pickT (v := .lit (.bool _)) (lb hb9229) rfl) rfl ?_
                    refine WPD.takeT 17 rfl (by kernel_rfl) (q_mv (v := .lit (.bool _)) rfl) rfl ?_
                    refine WPD.pass (b' := true) 18 rfl (by kernel_rfl) rfl rfl rfl rfl rfl ?_
                    refine WPD.pass (b' := true) 19 rfl (by kernel_rfl) rfl rfl rfl rfl rfl ?_
                    refine WPD.pass (b' := true) 20 rfl (by kernel_rfl) rfl rfl rfl rfl rfl ?_
                    refine WPD.takeT 21 rfl (by kernel_rfl) (q_pickT (v := .lit (.bool _)) rfl rfl) rfl ?_
                    refine WPD.takeT 22 rfl (by kernel_rfl) (q_mv (v := .lit (.bool _)) rfl) rfl ?_
                    refine WPD.pass (b' := true) 23 rfl (by kernel_rfl) rfl rfl rfl rfl rfl ?_
                    refine WPD.pass (b' := true) 24 rfl (by kernel_rfl) rfl rfl rfl rfl rfl ?_
                    refine WPD.pass (b' := true) 25 rfl (by kernel_rfl) rfl rfl rfl rfl rfl ?_
                    refine WPD.takeT 26 rfl (by kernel_rfl) (q_pickT (v := .lit (.bool _)) rfl rfl) rfl ?_
                    refine WPD.takeT 27 rfl (by kernel_rfl) (q_mv (v := .lit (.bool _)) rfl) rfl ?_
                    refine WPD.pass (b' := true) 28 rfl (by kernel_rfl) rfl rfl rfl rfl rfl ?_
                    refine WPD.pass (b' := true) 29 rfl (by kernel_rfl) rfl rfl rfl rfl rfl ?_
                    refine WPD.pass (b' := true) 30 rfl (by kernel_rfl) rfl rfl rfl rfl rfl ?_
                    refine WPD.takeT 31 rfl (by kernel_rfl) (q_pickT (v := .lit (.bool _)) rfl rfl) rfl ?_
                    refine WPD.takeT 32 rfl (by kernel_rfl) (q_mv (v := .lit (.bool _)) rfl) rfl ?_
                    refine WPD.pass (b' := true) 33 rfl (by kernel_rfl) rfl rfl rfl rfl rfl ?_
                    refine WPD.pass (b' := true) 34 rfl (by kernel_rfl) rfl rfl rfl rfl rfl ?_
                    refine WPD.pass (b' := true) 35 rfl (by kernel_rfl) rfl rfl rfl rfl rfl ?_
                    refine WPD.takeT 36 rfl (by kernel_rfl) (q_pickT (v := .lit (.bool _)) rfl rfl) rfl ?_
                    refine WPD.doneW (by kernel_rfl) ?_
                    refine W.cv (Cv.weak (E' := ((Env.none.upd 0 (.lit (.string x5490))).upd 166 (.lit (.bool true)))) (M' := Mem.nil) [] hnp ⟨rfl, trivial, by decide, rfl, trivial⟩ (LeE.upd rfl rfl (LeE.upd rfl rfl (LeE.none rfl rfl)))) rfl ?_
                    refine W.now ?_
                    have q0 := (Option.some.inj H)
                    subst q0
                    exact ⟨rfl, rfl, rfl⟩
                  · replace H := cnf hb9229 H
                    refine WPD.takegT 11 rfl (by kernel_rfl) rfl rfl (lb hb9229) (q_fieldAddr fi61_1 rfl rfl) rfl ?_
                    refine WPD.takegT 13 rfl (by kernel_rfl) rfl rfl (lb hb9229) (q_mv (v := .lit (.string _)) rfl) rfl ?_
                    obtain ⟨x9231, h9231, H⟩ := bnd H
                    refine WPD.takegT 14 rfl (by kernel_rfl) rfl rfl (lb hb9229) (q_index_str Tryd.underlying9 rfl rfl h9231) rfl ?_
                    refine WPD.takeg 12 rfl (by kernel_rfl) rfl rfl (lb hb9229) (q_load sc5 rfl rfl rfl) rfl rfl ?_
                    obtain ⟨x9232, h9232, H⟩ := bnd H
                    refine WPD.takegT 15 rfl (by kernel_rfl) rfl rfl (lb hb9229) (q_nm (q_lss rfl rfl) (nm_bool h9232)) rfl ?_
                    refine WPD.takeT 16 rfl (by kernel_rfl) (q_pickF (v := .lit (.bool _)) (lb hb9229) rfl) rfl ?_
                    refine WPD.takeT 17 rfl (by kernel_rfl) (q_mv (v := .lit (.bool _)) rfl) rfl ?_
                    refine WPD.split (t := 147) (b := x9232) rfl (fun hb9232 => ?_) (fun hb9232 => ?_)
                    · replace H := cnt hb9232 H
                      refine WPD.pass (b' := true) 18 rfl (by kernel_rfl) rfl rfl (lb hb9232) rfl rfl ?_
                      refine WPD.pass (b' := true) 19 rfl (by kernel_rfl) rfl rfl (lb hb9232) rfl rfl ?_
                      refine WPD.pass (b' := true) 20 rfl (by kernel_rfl) rfl rfl (lb hb9232) rfl rfl ?_
                      refine WPD.takeT 21 rfl (by kernel_rfl) (q_pickT (v := .lit (.bool _)) (lb hb9232) rfl) rfl ?_
                      refine WPD.takeT 22 rfl (by kernel_rfl) (q_mv (v := .lit (.bool _)) rfl) rfl ?_
                      refine WPD.pass (b' := true) 23 rfl (by kernel_rfl) rfl rfl rfl rfl rfl ?_
                      refine WPD.pass (b' := true) 24 rfl (by kernel_rfl) rfl rfl rfl rfl rfl ?_
                      refine WPD.pass (b' := true) 25 rfl (by kernel_rfl) rfl rfl rfl rfl rfl ?_
                      refine WPD.takeT 26 rfl (by kernel_rfl) (q_pickT (v := .lit (.bool _)) rfl rfl) rfl ?_
                      refine WPD.takeT 27 rfl (by kernel_rfl) (q_mv (v := .lit (.bool _)) rfl) rfl ?_
                      refine WPD.pass (b' := true) 28 rfl (by kernel_rfl) rfl rfl rfl rfl rfl ?_
                      refine WPD.pass (b' := true) 29 rfl (by kernel_rfl) rfl rfl rfl rfl rfl ?_
                      refine WPD.pass (b' := true) 30 rfl (by kernel_rfl) rfl rfl rfl rfl rfl ?_
                      refine WPD.takeT 31 rfl (by kernel_rfl) (q_pickT (v := .lit (.bool _)) rfl rfl) rfl ?_
                      refine WPD.takeT 32 rfl (by kernel_rfl) (q_mv (v := .lit (.bool _)) rfl) rfl ?_
                      refine WPD.pass (b' := true) 33 rfl (by kernel_rfl) rfl rfl rfl rfl rfl ?_
                      refine WPD.pass (b' := true) 34 rfl (by kernel_rfl) rfl rfl rfl rfl rfl ?_
                      refine WPD.pass (b' := true) 35 rfl (by kernel_rfl) rfl rfl rfl rfl rfl ?_
                      refine WPD.takeT 36 rfl (by kernel_rfl) (q_pickT (v := .lit (.bool _)) rfl rfl) rfl ?_
                      refine WPD.doneW (by kernel_rfl) ?_
                      refine W.cv (Cv.weak (E' := ((Env.none.upd 0 (.lit (.string x5490))).upd 166 (.lit (.bool true)))) (M' := Mem.nil) [] hnp ⟨rfl, trivial, by decide, rfl, trivial⟩ (LeE.upd rfl rfl (LeE.upd rfl rfl (LeE.none rfl rfl)))) rfl ?_
                      refine W.now ?_
                      have q0 := (Option.some.inj H)
                      subst q0
                      exact ⟨rfl, rfl, rfl⟩
                    · replace H := cnf hb9232 H
                      refine WPD.takegT 18 rfl (by kernel_rfl) rfl rfl (lb hb9232) (q_mv (v := .lit (.string _)) rfl) rfl ?_
                      obtain ⟨x9234, h9234, H⟩ := bnd H
                      refine WPD.takegT 19 rfl (by kernel_rfl) rfl rfl (lb hb9232) (q_index_str Tryd.underlying9 rfl rfl h9234) rfl ?_
                      refine WPD.takegT 20 rfl (by kernel_rfl) rfl rfl (lb hb9232) (q_lss rfl rfl) rfl ?_
                      refine WPD.takeT 21 rfl (by kernel_rfl) (q_pickF (v := .lit (.bool _)) (lb hb9232) rfl) rfl ?_
                      refine WPD.takeT 22 rfl (by kernel_rfl) (q_mv (v := .lit (.bool _)) rfl) rfl ?_
                      refine WPD.split (t := 152) (b := (decide (x9234 < 128))) rfl (fun hb9234 => ?_) (fun hb9234 => ?_)
                      · replace H := cnt hb9234 H
                        refine WPD.pass (b' := true) 23 rfl (by kernel_rfl) rfl rfl (lb hb9234) rfl rfl ?_
                        refine WPD.pass (b' := true) 24 rfl (by kernel_rfl) rfl rfl (lb hb9234) rfl rfl ?_
                        refine WPD.pass (b' := true) 25 rfl (by kernel_rfl) rfl rfl (lb hb9234) rfl rfl ?_
                        refine WPD.takeT 26 rfl (by kernel_rfl) (q_pickT (v := .lit (.bool _)) (lb hb9234) rfl) rfl ?_
                        refine WPD.takeT 27 rfl (by kernel_rfl) (q_mv (v := .lit (.bool _)) rfl) rfl ?_
                        refine WPD.pass (b' := true) 28 rfl (by kernel_rfl) rfl rfl rfl rfl rfl ?_
                        refine WPD.pass (b' := true) 29 rfl (by kernel_rfl) rfl rfl rfl rfl rfl ?_
                        refine WPD.pass (b' := true) 30 rfl (by kernel_rfl) rfl rfl rfl rfl rfl ?_
                        refine WPD.takeT 31 rfl (by kernel_rfl) (q_pickT (v := .lit (.bool _)) rfl rfl) rfl ?_
                        refine WPD.takeT 32 rfl (by kernel_rfl) (q_mv (v := .lit (.bool _)) rfl) rfl ?_
                        refine WPD.pass (b' := true) 33 rfl (by kernel_rfl) rfl rfl rfl rfl rfl ?_
                        refine WPD.pass (b' := true) 34 rfl (by kernel_rfl) rfl rfl rfl rfl rfl ?_
                        refine WPD.pass (b' := true) 35 rfl (by kernel_rfl) rfl rfl rfl rfl rfl ?_
                        refine WPD.takeT 36 rfl (by kernel_rfl) (q_pickT (v := .lit (.bool _)) rfl rfl) rfl ?_
                        refine WPD.doneW (by kernel_rfl) ?_
                        refine W.cv (Cv.weak (E' := ((Env.none.upd 0 (.lit (.string x5490))).upd 166 (.lit (.bool true)))) (M' := Mem.nil) [] hnp ⟨rfl, trivial, by decide, rfl, trivial⟩ (LeE.upd rfl rfl (LeE.upd rfl rfl (LeE.none rfl rfl)))) rfl ?_
                        refine W.now ?_
                        have q0 := (Option.some.inj H)
                        subst q0
                        exact ⟨rfl, rfl, rfl⟩
                      · replace H := cnf hb9234 H
                        refine WPD.takegT 23 rfl (by kernel_rfl) rfl rfl (lb hb9234) (q_mv (v := .lit (.string _)) rfl) rfl ?_
                        obtain ⟨x9236, h9236, H⟩ := bnd H
                        refine WPD.takegT 24 rfl (by kernel_rfl) rfl rfl (lb hb9234) (q_index_str Tryd.underlying9 rfl rfl h9236) rfl ?_
                        refine WPD.takegT 25 rfl (by kernel_rfl) rfl rfl (lb hb9234) (q_lss rfl rfl) rfl ?_
                        refine WPD.takeT 26 rfl (by kernel_rfl) (q_pickF (v := .lit (.bool _)) (lb hb9234) rfl) rfl ?_
                        refine WPD.takeT 27 rfl (by kernel_rfl) (q_mv (v := .lit (.bool _)) rfl) rfl ?_
                        refine WPD.split (t := 157) (b := (decide (191 < x9236))) rfl (fun hb9236 => ?_) (fun hb9236 => ?_)
                        · replace H := cnt hb9236 H
                          refine WPD.pass (b' := true) 28 rfl (by kernel_rfl) rfl rfl (lb hb9236) rfl rfl ?_
                          refine WPD.pass (b' := true) 29 rfl (by kernel_rfl) rfl rfl (lb hb9236) rfl rfl ?_
                          refine WPD.pass (b' := true) 30 rfl (by kernel_rfl) rfl rfl (lb hb9236) rfl rfl ?_
                          refine WPD.takeT 31 rfl (by kernel_rfl) (q_pickT (v := .lit (.bool _)) (lb hb9236) rfl) rfl ?_
                          refine WPD.takeT 32 rfl (by kernel_rfl) (q_mv (v := .lit (.bool _)) rfl) rfl ?_
                          refine WPD.pass (b' := true) 33 rfl (by kernel_rfl) rfl rfl rfl rfl rfl ?_
                          refine WPD.pass (b' := true) 34 rfl (by kernel_rfl) rfl rfl rfl rfl rfl ?_
                          refine WPD.pass (b' := true) 35 rfl (by kernel_rfl) rfl rfl rfl rfl rfl ?_
                          refine WPD.takeT 36 rfl (by kernel_rfl) (q_pickT (v := .lit (.bool _)) rfl rfl) rfl ?_
                          refine WPD.doneW (by kernel_rfl) ?_
                          refine W.cv (Cv.weak (E' := ((Env.none.upd 0 (.lit (.string x5490))).upd 166 (.lit (.bool true)))) (M' := Mem.nil) [] hnp ⟨rfl, trivial, by decide, rfl, trivial⟩ (LeE.upd rfl rfl (LeE.upd rfl rfl (LeE.none rfl rfl)))) rfl ?_
                          refine W.now ?_
                          have q0 := (Option.some.inj H)
                          subst q0
                          exact ⟨rfl, rfl, rfl⟩
                        · replace H := cnf hb9236 H
                          refine WPD.takegT 28 rfl (by kernel_rfl) rfl rfl (lb hb9236) (q_mv (v := .lit (.string _)) rfl) rfl ?_
                          obtain ⟨x9238, h9238, H⟩ := bnd H
                          refine WPD.takegT 29 rfl (by kernel_rfl) rfl rfl (lb hb9236) (q_index_str Tryd.underlying9 rfl rfl h9238) rfl ?_
                          refine WPD.takegT 30 rfl (by kernel_rfl) rfl rfl (lb hb9236) (q_lss rfl rfl) rfl ?_
                          refine WPD.takeT 31 rfl (by kernel_rfl) (q_pickF (v := .lit (.bool _)) (lb hb9236) rfl) rfl ?_
                          refine WPD.takeT 32 rfl (by kernel_rfl) (q_mv (v := .lit (.bool _)) rfl) rfl ?_
                          refine WPD.split (t := 162) (b := (decide (x9238 < 128))) rfl (fun hb9238 => ?_) (fun hb9238 => ?_)
                          · replace H := cnt hb9238 H
                            refine WPD.pass (b' := true) 33 rfl (by kernel_rfl) rfl rfl (lb hb9238) rfl rfl ?_
                            refine WPD.pass (b' := true) 34 rfl (by kernel_rfl) rfl rfl (lb hb9238) rfl rfl ?_
                            refine WPD.pass (b' := true) 35 rfl (by kernel_rfl) rfl rfl (lb hb9238) rfl rfl ?_
                            refine WPD.takeT 36 rfl (by kernel_rfl) (q_pickT (v := .lit (.bool _)) (lb hb9238) rfl) rfl ?_
                            refine WPD.doneW (by kernel_rfl) ?_
                            refine W.cv (Cv.weak (E' := ((Env.none.upd 0 (.lit (.string x5490))).upd 166 (.lit (.bool true)))) (M' := Mem.nil) [] hnp ⟨rfl, trivial, by decide, rfl, trivial⟩ (LeE.upd rfl rfl (LeE.upd rfl rfl (LeE.none rfl rfl)))) rfl ?_
                            refine W.now ?_
                            have q0 := (Option.some.inj H)
                            subst q0
                            exact ⟨rfl, rfl, rfl⟩
                          · replace H := cnf hb9238 H
                            refine WPD.takegT 33 rfl (by kernel_rfl) rfl rfl (lb hb9238) (q_mv (v := .lit (.string _)) rfl) rfl ?_
                            obtain ⟨x9240, h9240, H⟩ := bnd H
                            refine WPD.takegT 34 rfl (by kernel_rfl) rfl rfl (lb hb9238) (q_index_str Tryd.underlying9 rfl rfl h9240) rfl ?_
                            refine WPD.takegT 35 rfl (by kernel_rfl) rfl rfl (lb hb9238) (q_lss rfl rfl) rfl ?_
                            refine WPD.takeT 36 rfl (by kernel_rfl) (q_pickF (v := .lit (.bool _)) (lb hb9238) rfl) rfl ?_
                            refine WPD.doneW (by kernel_rfl) ?_
                            refine W.cv (Cv.weak (E' := ((Env.none.upd 0 (.lit (.string x5490))).upd 166 (.lit (.bool (decide (191 < x9240)))))) (M' := Mem.nil) [] hnp ⟨rfl, trivial, by decide, rfl, trivial⟩ (LeE.upd rfl rfl (LeE.upd rfl rfl (LeE.none rfl rfl)))) rfl ?_
                            refine W.now ?_
                            have q0 := (Option.some.inj H)
                            subst q0
                            exact ⟨rfl, rfl, rfl⟩
              · rintro _ _ _ ⟨rfl, rfl, rfl⟩
                refine W.now ?_
                refine Then.n ?_
                refine WP.cond (t := x9207) rfl (fun hb9241 => ?_) (fun hb9241 => ?_)
                · replace H := cnt hb9241 H
                  refine WP.seq ?_
                  refine WP.region ?_
                  refine WPL.q (q_as (v := .lit (.bool _)) rfl) rfl ?_
                  refine WPL.nilW ?_
                  refine W.now ?_
                  refine Then.n ?_
                  refine WP.retW ?_
                  refine W.cv (Cv.weak (E' := (Env.none.upd 2 (.lit (.bool false)))) (M' := Mem.nil) [] hnp ⟨rfl, trivial, by decide, rfl, trivial⟩ (LeE.upd rfl rfl (LeE.none rfl rfl))) rfl ?_
                  refine W.now ?_
                  refine Then.r ?_
                  refine InBlock.r ?_
                  refine InBlock.r ?_
                  refine Then.r ?_
                  have q0 := Option.some.inj H
                  subst q0
                  exact ⟨rfl, rfl, rfl⟩
                · replace H := cnf hb9241 H
                  refine WP.skipW ?_
                  refine W.now ?_
                  refine Then.n ?_
                  refine WP.region ?_
                  refine WPL.q (q_mv (v := .lit (.string _)) rfl) rfl ?_
                  obtain ⟨h9242, H⟩ := grd H
                  obtain ⟨x9244, h9244, H⟩ := bnd H
                  refine WPL.q (q_nm (q_slice_str (i := 4) (j := ((ByteArray.size x5490 : Nat) : Int)) Tryd.underlying9 rfl ⟨_, rfl⟩ rfl h9242) (nm_str h9244)) rfl ?_
                  refine WPL.q (q_as (v := .lit (.string _)) rfl) rfl ?_
                  refine WPL.nilW ?_
                  refine W.cv (Cv.weak (E' := (Env.none.upd 0 (.lit (.string x9244)))) (M' := Mem.nil) [] hnp ⟨rfl, trivial, by decide, rfl, trivial⟩ (LeE.upd rfl rfl (LeE.none rfl rfl))) rfl ?_
                  refine W.now ?_
                  refine InBlock.n ?_
                  refine InBlock.n ?_
                  exact Then.n ⟨n, x9244, Nat.lt_succ_self n, H, rfl, rfl⟩
            · replace H := cnf hb9103 H
              refine WP.seq ?_
              refine WP.region ?_
              refine WPL.q (q_as (v := .lit (.bool _)) rfl) rfl ?_
              refine WPL.nilW ?_
              refine W.now ?_
              refine Then.n ?_
              refine WP.retW ?_
              refine W.cv (Cv.weak (E' := (Env.none.upd 2 (.lit (.bool false)))) (M' := Mem.nil) [] hnp ⟨rfl, trivial, by decide, rfl, trivial⟩ (LeE.upd rfl rfl (LeE.none rfl rfl))) rfl ?_
              refine W.now ?_
              refine InBlock.r ?_
              refine InBlock.r ?_
              refine Then.r ?_
              have q0 := Option.some.inj H
              subst q0
              exact ⟨rfl, rfl, rfl⟩
    · replace H := cnf hb7294 H
      refine WP.exitW ?_
      refine W.cv (Cv.weak (E' := Env.none) (M' := Mem.nil) [] hnp ⟨rfl, trivial, by decide, rfl, trivial⟩ (LeE.none rfl rfl)) rfl ?_
      refine W.now ?_
      refine Then.x ?_
      refine Then.x ?_
      have q0 := Option.some.inj H
      subst q0
      exact ⟨rfl, rfl, rfl⟩
  · rcases y9246 with _ | _
    · rintro _ _ _ ⟨rfl, rfl, rfl⟩
      refine W.now ?_
      refine InBlock.r ?_
      refine Then.r ?_
      have q0 := (Option.some.inj H)
      subst q0
      exact ⟨trivial, _, rfl, [], (.lit (.bool false)), Mem.nil, ⟨rfl, trivial, by decide, rfl, trivial⟩, rfl, rfl, rfl, rfl⟩
    · rintro _ _ _ ⟨rfl, rfl, rfl⟩
      refine W.now ?_
      refine InBlock.x0 ?_
      refine Then.n ?_
      refine WP.seq ?_
      refine WP.region ?_
      refine WPL.q (q_as (v := .lit (.bool _)) rfl) rfl ?_
      refine WPL.nilW ?_
      refine W.now ?_
      refine Then.n ?_
      refine WP.retW ?_
      refine W.now ?_
      have q0 := (Option.some.inj H)
      subst q0
      exact ⟨trivial, _, rfl, [], (.lit (.bool true)), Mem.nil, ⟨rfl, trivial, by decide, rfl, trivial⟩, rfl, rfl, rfl, rfl⟩
end Go.Proofs.YtnbjdgamindikaaDoor.W
