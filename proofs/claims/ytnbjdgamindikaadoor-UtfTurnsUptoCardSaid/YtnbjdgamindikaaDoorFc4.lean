/- Walks: Fc4 -/
import Derived.Test.YtnbjdgamindikaaDoorFb
import Derived.Test.YtnbjdgamindikaaDoorFc3
namespace Go.Proofs.YtnbjdgamindikaaDoor.W
open Go Go.Q Go.Proofs
set_option linter.unusedVariables false
set_option linter.unusedSimpArgs false
set_option maxRecDepth 100000 in
set_option maxHeartbeats 4000000 in
theorem s_unicode_utf8_DecodeRuneInString (k : Nat) (x11242 : ByteArray) (x11458 : Int) (x11459 : Int) (H : g_unicode_utf8_DecodeRuneInString k x11242 = some (x11458, x11459)) : Go.Q.Spec Tryd.prog 52 0 [.lit (.string x11242)] Mem.nil (fun o M => o = .ret (.tup [.lit (.int .i32 x11458), .lit (.int .i64 x11459)]) ∧ M = Mem.nil) := by
  unfold g_unicode_utf8_DecodeRuneInString at H
  refine Go.Q.Spec.of_bodyR (rs := [.tmp 2, .tmp 3]) (nt := 19) Tryd.func52 rfl rfl (by intro t T h; simp at h) rfl rfl fun cx hnp => ?_
  refine WP.seq ?_
  refine WP.region ?_
  refine WPL.q (q_as (v := .lit (.int _ _)) rfl) rfl ?_
  refine WPL.q (q_as (v := .lit (.int _ _)) rfl) rfl ?_
  refine WPL.nilW ?_
  refine W.now ?_
  refine Then.n ?_
  refine WP.seq ?_
  refine WP.seq ?_
  obtain ⟨x11476, H11479, H⟩ := bnd H
  refine WP.monoW (Q := fun x E M => x = .normal ∧ E = ((Env.none.upd 0 (.lit (.string x11242))).upd 10 (.lit (.bool x11476))) ∧ M = Mem.nil) ?_ ?_
  · clear H
    have H := H11479
    clear H11479
    refine WP.region ?_
    refine WPL.q (q_mv (v := .lit (.string _)) rfl) rfl ?_
    obtain ⟨x11477, h11477, H⟩ := bnd H
    refine WPL.q (q_nm (q_neqs rfl rfl) (nm_bool h11477)) rfl ?_
    refine WPL.q (q_mv (v := .lit (.bool _)) rfl) rfl ?_
    refine WPL.split (t := 6) (b := x11477) rfl (fun hb11477 => ?_) (fun hb11477 => ?_)
    · replace H := cnt hb11477 H
      refine WPL.qg rfl rfl (lb hb11477) (q_mv (v := .lit (.string _)) rfl) rfl ?_
      obtain ⟨x11479, h11479, H⟩ := bnd H
      refine WPL.qg rfl rfl (lb hb11477) (q_index_str Tryd.underlying9 rfl rfl h11479) rfl ?_
      refine WPL.qg rfl rfl (lb hb11477) (q_lss rfl rfl) rfl ?_
      refine WPL.q (q_pickT (v := .lit (.bool _)) (lb hb11477) rfl) rfl ?_
      refine WPL.nilW ?_
      refine W.cv (Cv.weak (E' := ((Env.none.upd 0 (.lit (.string x11242))).upd 10 (.lit (.bool (decide (x11479 < 128)))))) (M' := Mem.nil) [] hnp ⟨rfl, trivial, by decide, rfl, trivial⟩ (LeE.upd rfl rfl (LeE.upd rfl rfl (LeE.none rfl rfl)))) rfl ?_
      refine W.now ?_
      have q0 := (Option.some.inj H)
      subst q0
      exact ⟨rfl, rfl, rfl⟩
    · replace H := cnf hb11477 H
      refine WPL.skipg (b' := false) rfl rfl (lb hb11477) rfl rfl ?_
      refine WPL.skipg (b' := false) rfl rfl (lb hb11477) rfl rfl ?_
      refine WPL.skipg (b' := false) rfl rfl (lb hb11477) rfl rfl ?_
      refine WPL.q (q_pickF (v := .lit (.bool _)) (lb hb11477) rfl) rfl ?_
      refine WPL.nilW ?_
      refine W.cv (Cv.weak (E' := ((Env.none.upd 0 (.lit (.string x11242))).upd 10 (.lit (.bool false)))) (M' := Mem.nil) [] hnp ⟨rfl, trivial, by decide, rfl, trivial⟩ (LeE.upd rfl rfl (LeE.upd rfl rfl (LeE.none rfl rfl)))) rfl ?_
      refine W.now ?_
      have q0 := (Option.some.inj H)
      subst q0
      exact ⟨rfl, rfl, rfl⟩
  · rintro _ _ _ ⟨rfl, rfl, rfl⟩
    refine W.now ?_
    refine Then.n ?_
    refine WP.cond (t := x11476) rfl (fun hb11480 => ?_) (fun hb11480 => ?_)
    · replace H := cnt hb11480 H
      refine WP.seq ?_
      refine WP.region ?_
      refine WPL.q (q_mv (v := .lit (.string _)) rfl) rfl ?_
      obtain ⟨x11482, h11482, H⟩ := bnd H
      refine WPL.q (q_index_str Tryd.underlying9 rfl rfl h11482) rfl ?_
      refine WPL.q (q_conv Tryd.underlying5 Tryd.underlying21 rfl) rfl ?_
      refine WPL.q (q_as (v := .lit (.int _ _)) rfl) rfl ?_
      refine WPL.q (q_as (v := .lit (.int _ _)) rfl) rfl ?_
      refine WPL.nilW ?_
      refine W.now ?_
      refine Then.n ?_
      refine WP.retW ?_
      refine W.now ?_
      refine Then.r ?_
      have q0 := (Prod.mk.inj (Option.some.inj H)).1
      have q1 := (Prod.mk.inj (Option.some.inj H)).2
      subst q0
      subst q1
      exact ⟨trivial, _, rfl, [], (.tup [.lit (.int .i32 (IntKind.wrap .i32 x11482)), .lit (.int .i64 1)]), Mem.nil, ⟨rfl, trivial, by decide, rfl, trivial⟩, rfl, rfl, rfl, rfl⟩
    · replace H := cnf hb11480 H
      refine WP.region ?_
      refine WPL.q (q_mv (v := .lit (.string _)) rfl) rfl ?_
      obtain ⟨⟨x11484, x11485⟩, h11482, H⟩ := bnd H
      refine WPL.c (runs_call (s := []) (t := []) (N := 0) (bor := []) fn57 rfl (s_unicode_utf8_decodeRuneInStringSlow k x11242 x11484 x11485 h11482) ⟨rfl, trivial, by decide, rfl, trivial⟩ rfl trivial (.ren rfl rfl .nil) rfl trivial rfl) rfl ?_
      refine WPL.q (q_mv (v := .tup _) rfl) rfl ?_
      refine WPL.q (q_extract rfl rfl) rfl ?_
      refine WPL.q (q_extract rfl rfl) rfl ?_
      refine WPL.q (q_as (v := .lit (.int _ _)) rfl) rfl ?_
      refine WPL.q (q_as (v := .lit (.int _ _)) rfl) rfl ?_
      refine WPL.nilW ?_
      refine W.now ?_
      refine Then.n ?_
      refine WP.retW ?_
      refine W.now ?_
      have q0 := (Prod.mk.inj (Option.some.inj H)).1
      have q1 := (Prod.mk.inj (Option.some.inj H)).2
      subst q0
      subst q1
      exact ⟨trivial, _, rfl, [], (.tup [.lit (.int .i32 x11484), .lit (.int .i64 x11485)]), Mem.nil, ⟨rfl, trivial, by decide, rfl, trivial⟩, rfl, rfl, rfl, rfl⟩
set_option maxRecDepth 100000 in
set_option maxHeartbeats 4000000 in
theorem s_internal_stringslite_IndexByte (k : Nat) (x11600 : ByteArray) (x11601 : Int) (H : g_internal_stringslite_IndexByte k x11600 x11601 = some ()) : Go.Q.Spec Tryd.prog 60 0 [.lit (.string x11600), .lit (.int .u8 x11601)] Mem.nil (fun o M => o = .ret (.lit (.int .i64 (ixByte x11600 x11601))) ∧ M = Mem.nil) := by
  unfold g_internal_stringslite_IndexByte at H
  refine Go.Q.Spec.of_bodyR (rs := [.tmp 4]) (nt := 8) Tryd.func60 rfl rfl (by intro t T h; simp at h) rfl rfl fun cx hnp => ?_
  refine WP.seq ?_
  refine WP.region ?_
  refine WPL.q (q_as (v := .lit (.int _ _)) rfl) rfl ?_
  refine WPL.nilW ?_
  refine W.now ?_
  refine Then.n ?_
  refine WP.seq ?_
  refine WP.region ?_
  refine WPL.q (q_mv (v := .lit (.string _)) rfl) rfl ?_
  refine WPL.q (q_mv (v := .lit (.int _ _)) rfl) rfl ?_
  refine WPL.q (q_indexByteString ex64 rfl rfl rfl) rfl ?_
  refine WPL.q (q_as (v := .lit (.int _ _)) rfl) rfl ?_
  refine WPL.nilW ?_
  refine W.now ?_
  refine Then.n ?_
  refine WP.retW ?_
  refine W.now ?_
  exact ⟨trivial, _, rfl, [], (.lit (.int .i64 (ixByte x11600 x11601))), Mem.nil, ⟨rfl, trivial, by decide, rfl, trivial⟩, rfl, rfl, rfl, rfl⟩
set_option maxRecDepth 100000 in
set_option maxHeartbeats 4000000 in
theorem s_internal_stringslite_Index (k : Nat) (x11587 : ByteArray) (x11588 : ByteArray) (x11619 : Int) (H : g_internal_stringslite_Index k x11587 x11588 = some x11619) : Go.Q.Spec Tryd.prog 58 0 [.lit (.string x11587), .lit (.string x11588)] Mem.nil (fun o M => o = .ret (.lit (.int .i64 x11619)) ∧ M = Mem.nil) := by
  unfold g_internal_stringslite_Index at H
  refine Go.Q.Spec.of_bodyR (rs := [.tmp 4]) (nt := 143) Tryd.func58 rfl rfl (by intro t T h; simp at h) rfl rfl fun cx hnp => ?_
  refine WP.seq ?_
  refine WP.region ?_
  refine WPL.q (q_as (v := .lit (.int _ _)) rfl) rfl ?_
  refine WPL.nilW ?_
  refine W.now ?_
  refine Then.n ?_
  refine WP.seq ?_
  refine WP.region ?_
  refine WPL.q (q_mv (v := .lit (.string _)) rfl) rfl ?_
  refine WPL.q (q_len_str Tryd.underlying9 rfl) rfl ?_
  refine WPL.q (q_as (v := .lit (.int _ _)) rfl) rfl ?_
  refine WPL.nilW ?_
  refine W.now ?_
  refine Then.n ?_
  refine WP.seq ?_
  refine WP.block ?_
  refine WP.seq ?_
  obtain ⟨x11635, H11637, H⟩ := bnd H
  refine WP.monoW (Q := fun x E M => x = .normal ∧ E = ((((Env.none.upd 0 (.lit (.string x11587))).upd 1 (.lit (.string x11588))).upd 5 (.lit (.int .i64 ((ByteArray.size x11588 : Nat) : Int)))).upd 16 (.lit (.bool x11635))) ∧ M = Mem.nil) ?_ ?_
  · clear H
    have H := H11637
    clear H11637
    refine WP.region ?_
    refine WPL.q (q_mv (v := .lit (.int _ _)) rfl) rfl ?_
    obtain ⟨x11636, h11636, H⟩ := bnd H
    refine WPL.q (q_nm (q_eql rfl rfl) (nm_bool h11636)) rfl ?_
    refine WPL.q (q_mv (v := .lit (.bool _)) rfl) rfl ?_
    refine WPL.split (t := 19) (b := x11636) rfl (fun hb11636 => ?_) (fun hb11636 => ?_)
    · replace H := cnt hb11636 H
      refine WPL.skipg (b' := true) rfl rfl (lb hb11636) rfl rfl ?_
      refine WPL.skipg (b' := true) rfl rfl (lb hb11636) rfl rfl ?_
      refine WPL.skipg (b' := true) rfl rfl (lb hb11636) rfl rfl ?_
      refine WPL.q (q_pickT (v := .lit (.bool _)) (lb hb11636) rfl) rfl ?_
      refine WPL.q (q_as (v := .lit (.bool _)) rfl) rfl ?_
      refine WPL.nilW ?_
      refine W.cv (Cv.weak (E' := ((((Env.none.upd 0 (.lit (.string x11587))).upd 1 (.lit (.string x11588))).upd 5 (.lit (.int .i64 ((ByteArray.size x11588 : Nat) : Int)))).upd 16 (.lit (.bool true)))) (M' := Mem.nil) [] hnp ⟨rfl, trivial, by decide, rfl, trivial⟩ (LeE.upd rfl rfl (LeE.upd rfl rfl (LeE.upd rfl rfl (LeE.upd rfl rfl (LeE.none rfl rfl)))))) rfl ?_
      refine W.now ?_
      have q0 := (Option.some.inj H)
      subst q0
      exact ⟨rfl, rfl, rfl⟩
    · replace H := cnf hb11636 H
      refine WPL.qg rfl rfl (lb hb11636) (q_mv (v := .lit (.string _)) rfl) rfl ?_
      refine WPL.qg rfl rfl (lb hb11636) (q_mv (v := .lit (.string _)) rfl) rfl ?_
      refine WPL.qg rfl rfl (lb hb11636) (q_eqls rfl rfl) rfl ?_
      refine WPL.q (q_pickF (v := .lit (.bool _)) (lb hb11636) rfl) rfl ?_
      refine WPL.q (q_as (v := .lit (.bool _)) rfl) rfl ?_
      refine WPL.nilW ?_
      refine W.cv (Cv.weak (E' := ((((Env.none.upd 0 (.lit (.string x11587))).upd 1 (.lit (.string x11588))).upd 5 (.lit (.int .i64 ((ByteArray.size x11588 : Nat) : Int)))).upd 16 (.lit (.bool (x11588.toList == x11587.toList))))) (M' := Mem.nil) [] hnp ⟨rfl, trivial, by decide, rfl, trivial⟩ (LeE.upd rfl rfl (LeE.upd rfl rfl (LeE.upd rfl rfl (LeE.upd rfl rfl (LeE.none rfl rfl)))))) rfl ?_
      refine W.now ?_
      have q0 := (Option.some.inj H)
      subst q0
      exact ⟨rfl, rfl, rfl⟩
  · rintro _ _ _ ⟨rfl, rfl, rfl⟩
    refine W.now ?_
    refine Then.n ?_
    refine WP.cond (t := x11635) rfl (fun hb11638 => ?_) (fun hb11638 => ?_)
    · replace H := cnt hb11638 H
      refine WP.seq ?_
      refine WP.region ?_
      refine WPL.q (q_as (v := .lit (.int _ _)) rfl) rfl ?_
      refine WPL.nilW ?_
      refine W.now ?_
      refine Then.n ?_
      refine WP.retW ?_
      refine W.now ?_
      refine InBlock.r ?_
      refine Then.r ?_
      have q0 := (Option.some.inj H)
      subst q0
      exact ⟨trivial, _, rfl, [], (.lit (.int .i64 0)), Mem.nil, ⟨rfl, trivial, by decide, rfl, trivial⟩, rfl, rfl, rfl, rfl⟩
    · replace H := cnf hb11638 H
      refine WP.seq ?_
      refine WP.region ?_
      refine WPL.q (q_mv (v := .lit (.int _ _)) rfl) rfl ?_
      obtain ⟨x11640, h11640, H⟩ := bnd H
      refine WPL.q (q_nm (q_eql rfl rfl) (nm_bool h11640)) rfl ?_
      refine WPL.q (q_as (v := .lit (.bool _)) rfl) rfl ?_
      refine WPL.nilW ?_
      refine W.now ?_
      refine Then.n ?_
      refine WP.cond (t := x11640) rfl (fun hb11640 => ?_) (fun hb11640 => ?_)
      · replace H := cnt hb11640 H
        refine WP.seq ?_
        refine WP.region ?_
        refine WPL.q (q_mv (v := .lit (.string _)) rfl) rfl ?_
        refine WPL.q (q_mv (v := .lit (.string _)) rfl) rfl ?_
        obtain ⟨x11642, h11642, H⟩ := bnd H
        refine WPL.q (q_index_str Tryd.underlying9 rfl rfl h11642) rfl ?_
        obtain ⟨_, h11642, H⟩ := bnd H
        refine WPL.c (runs_call (s := []) (t := []) (N := 0) (bor := []) fn60 rfl (s_internal_stringslite_IndexByte k x11587 x11642 h11642) ⟨rfl, trivial, by decide, rfl, trivial⟩ rfl trivial (.ren rfl rfl (.ren rfl rfl .nil)) rfl trivial rfl) rfl ?_
        refine WPL.q (q_as (v := .lit (.int _ _)) rfl) rfl ?_
        refine WPL.nilW ?_
        refine W.now ?_
        refine Then.n ?_
        refine WP.retW ?_
        refine W.now ?_
        refine InBlock.r ?_
        refine Then.r ?_
        have q0 := (Option.some.inj H)
        subst q0
        exact ⟨trivial, _, rfl, [], (.lit (.int .i64 (ixByte x11587 x11642))), Mem.nil, ⟨rfl, trivial, by decide, rfl, trivial⟩, rfl, rfl, rfl, rfl⟩
      · replace H := cnf hb11640 H
        refine WP.seq ?_
        refine WP.region ?_
        refine WPL.q (q_mv (v := .lit (.int _ _)) rfl) rfl ?_
        refine WPL.q (q_mv (v := .lit (.string _)) rfl) rfl ?_
        refine WPL.q (q_len_str Tryd.underlying9 rfl) rfl ?_
        obtain ⟨x11644, h11644, H⟩ := bnd H
        refine WPL.q (q_nm (q_geq rfl rfl) (nm_bool h11644)) rfl ?_
        refine WPL.q (q_as (v := .lit (.bool _)) rfl) rfl ?_
        refine WPL.nilW ?_
        refine W.now ?_
        refine Then.n ?_
        refine WP.cond (t := x11644) rfl (fun hb11644 => ?_) (fun hb11644 => ?_)
        · replace H := cnt hb11644 H
          refine WP.seq ?_
          refine WP.region ?_
          refine WPL.q (q_as (v := .lit (.int _ _)) rfl) rfl ?_
          refine WPL.nilW ?_
          refine W.now ?_
          refine Then.n ?_
          refine WP.retW ?_
          refine W.now ?_
          refine InBlock.r ?_
          refine Then.r ?_
          have q0 := (Option.some.inj H)
          subst q0
          exact ⟨trivial, _, rfl, [], (.lit (.int .i64 (-1))), Mem.nil, ⟨rfl, trivial, by decide, rfl, trivial⟩, rfl, rfl, rfl, rfl⟩
        · replace H := cnf hb11644 H
          refine WP.seq ?_
          refine WP.region ?_
          refine WPL.q (q_mv (v := .lit (.int _ _)) rfl) rfl ?_
          exact nf rfl H
set_option maxRecDepth 100000 in
set_option maxHeartbeats 4000000 in
theorem s_strings_Index (k : Nat) (x11584 : ByteArray) (x11585 : ByteArray) (x11648 : Int) (H : g_strings_Index k x11584 x11585 = some x11648) : Go.Q.Spec Tryd.prog 53 0 [.lit (.string x11584), .lit (.string x11585)] Mem.nil (fun o M => o = .ret (.lit (.int .i64 x11648)) ∧ M = Mem.nil) := by
  unfold g_strings_Index at H
  refine Go.Q.Spec.of_bodyR (rs := [.tmp 4]) (nt := 8) Tryd.func53 rfl rfl (by intro t T h; simp at h) rfl rfl fun cx hnp => ?_
  refine WP.seq ?_
  refine WP.region ?_
  refine WPL.q (q_as (v := .lit (.int _ _)) rfl) rfl ?_
  refine WPL.nilW ?_
  refine W.now ?_
  refine Then.n ?_
  refine WP.seq ?_
  refine WP.region ?_
  refine WPL.q (q_mv (v := .lit (.string _)) rfl) rfl ?_
  refine WPL.q (q_mv (v := .lit (.string _)) rfl) rfl ?_
  obtain ⟨x11650, h11648, H⟩ := bnd H
  refine WPL.c (runs_call (s := []) (t := []) (N := 0) (bor := []) fn58 rfl (s_internal_stringslite_Index k x11584 x11585 x11650 h11648) ⟨rfl, trivial, by decide, rfl, trivial⟩ rfl trivial (.ren rfl rfl (.ren rfl rfl .nil)) rfl trivial rfl) rfl ?_
  refine WPL.q (q_as (v := .lit (.int _ _)) rfl) rfl ?_
  refine WPL.nilW ?_
  refine W.now ?_
  refine Then.n ?_
  refine WP.retW ?_
  refine W.now ?_
  have q0 := (Option.some.inj H)
  subst q0
  exact ⟨trivial, _, rfl, [], (.lit (.int .i64 x11650)), Mem.nil, ⟨rfl, trivial, by decide, rfl, trivial⟩, rfl, rfl, rfl, rfl⟩
set_option maxRecDepth 100000 in
set_option maxHeartbeats 4000000 in
theorem s_slices_AppendSeq_string_string (k : Nat) (x11231 : ByteArray) (x11232 : ByteArray) (x11233 : Int) (x11697 : ByteArray) (x11698 : (List ByteArray)) (H : g_slices_AppendSeq_string_string k x11231 x11232 x11233 = some (x11697, x11698)) : Go.Q.Spec Tryd.prog 44 3 [.lit (.slice none 0 0), .fn 51 [.ptr 0 0, .ptr 1 0, .ptr 2 0]] (((Mem.nil.push (.cells 9 [.lit (.string x11231)])).push (.cells 9 [.lit (.string x11232)])).push (.cells 3 [.lit (.int .i64 x11233)])) (fun o M => o = .ret (.whole 3) ∧ M = ((((Mem.nil.push (.cells 9 [.lit (.string x11231)])).push (.cells 9 [.lit (.string x11697)])).push (.cells 3 [.lit (.int .i64 x11233)])).push (.row 9 Rd.str x11698))) := by
  unfold g_slices_AppendSeq_string_string at H
  refine Go.Q.Spec.of_bodyR (rs := [.tmp 4]) (nt := 13) Tryd.func44 rfl rfl (by intro t T h; simp at h) rfl rfl fun cx hnp => ?_
  refine WP.seq ?_
  refine WP.region ?_
  refine WPL.d (d_box rfl rfl) rfl ?_
  refine WPL.q (q_as (v := .lit _) rfl) rfl ?_
  refine WPL.nilW ?_
  refine W.now ?_
  refine Then.n ?_
  refine WP.seq ?_
  refine WP.seq ?_
  refine WP.region ?_
  refine WPL.q (q_mv (v := .fn _ _) rfl) rfl ?_
  refine WPL.nilW ?_
  refine W.now ?_
  refine Then.n ?_
  refine WP.block ?_
  refine WP.cv (Cv.nullMark (N := 4) rfl rfl) ?_
  refine WP.range (nti := 52) (n := 5) rfl rfl Tryd.func51 rfl (by kernel_rfl) rfl rfl rfl rfl fun l_11698 r_11698 aC11698 hp11698 ha11698 hb11698 ht11698 hs11698 => ?_
  refine WP.seq ?_
  refine WP.seq ?_
  refine WP.region ?_
  refine WPL.q (q_load sc9 rfl rfl rfl) rfl ?_
  refine WPL.q (q_len_str Tryd.underlying9 rfl) rfl ?_
  obtain ⟨x11752, h11752, H⟩ := bnd H
  refine WPL.q (q_nm (q_eql rfl rfl) (nm_bool h11752)) rfl ?_
  refine WPL.nilW ?_
  refine W.now ?_
  refine Then.n ?_
  refine WP.cond (t := x11752) rfl (fun hb11752 => ?_) (fun hb11752 => ?_)
  · replace H := cnt hb11752 H
    refine WP.seq ?_
    refine WP.block ?_
    refine WP.cv (Cv.virC 9 Rd.str (N := 7) rfl rfl (i := 3) (off := 0) rfl rfl) ?_
    refine WP.cv (Cv.weak (E' := (((⟨fun _ => .any, [], [⟨aC11698, (((Env.none.upd 2 (.ptr 3 0)).upd 6 (.fn 51 [.ptr 0 0, .ptr 1 0, .ptr 2 0]))).v, [5, 6], some (7, l_11698)⟩]⟩ : Env).upd 0 (.lit (.func (.yield l_11698) #[] #[]))).upd 2 (.ptr 1 0))) (M' := ((((((((Mem.nil.push (.cells 9 [.lit (.string x11231)])).push (.cells 9 [.lit (.string x11232)])).push (.cells 3 [.lit (.int .i64 x11233)])).push (.cells 38 [.whole 4])).push (.row 9 Rd.str ([] : List ByteArray))).push (.obj (Obj.deferred (some [])))).push (.bag)).push (.obj (lp r_11698 .ready none)))) [0, 1, 2, 3, 7, 5, 4, 6] hnp ⟨rfl, ⟨⟨⟨⟨⟨⟨⟨⟨trivial, .inr ⟨rfl, rfl, rfl⟩⟩, .inr ⟨rfl, rfl, rfl⟩⟩, .inr ⟨rfl, rfl, rfl⟩⟩, .inr ⟨rfl, rfl, rfl⟩⟩, .inr ⟨rfl, rfl, rfl⟩⟩, .inr ⟨rfl, rfl, rfl⟩⟩, .inr ⟨rfl, rfl, rfl⟩⟩, .inr ⟨rfl, rfl, rfl⟩⟩, by decide, rfl, ⟨⟨⟨trivial, rfl⟩, rfl⟩, rfl⟩⟩ (LeE.upd rfl rfl (LeE.upd rfl rfl (LeE.noneD rfl rfl (.cons ⟨rfl, (LeV.upd rfl rfl (LeV.upd rfl rfl LeV.none)), rfl, rfl, rfl, rfl⟩ .nil))))) ?_
    obtain ⟨⟨x11801, x11802⟩, H11817, H⟩ := bnd H
    refine WP.monoW (Q := fun x E M => x = .exit 0 ∧ E = (⟨fun _ => .any, [], [⟨aC11698, (((Env.none.upd 2 (.ptr 3 0)).upd 6 (.fn 51 [.ptr 0 0, .ptr 1 0, .ptr 2 0]))).v, [5, 6], some (7, l_11698)⟩]⟩ : Env) ∧ M = ((((((((Mem.nil.push (.cells 9 [.lit (.string x11231)])).push (.cells 9 [.lit (.string x11801)])).push (.cells 3 [.lit (.int .i64 x11233)])).push (.cells 38 [.whole 4])).push (.row 9 Rd.str x11802)).push (.obj (Obj.deferred (some [])))).push (.bag)).push (.obj (lp r_11698 .ready none)))) ?_ ?_
    · refine WP.loop (β := ByteArray × (List ByteArray)) (fun n b => g_slices_AppendSeq_string_string_l0 k n b.1 b.2 = some (x11801, x11802)) (fun b => (((⟨fun _ => .any, [], [⟨aC11698, (((Env.none.upd 2 (.ptr 3 0)).upd 6 (.fn 51 [.ptr 0 0, .ptr 1 0, .ptr 2 0]))).v, [5, 6], some (7, l_11698)⟩]⟩ : Env).upd 0 (.lit (.func (.yield l_11698) #[] #[]))).upd 2 (.ptr 1 0))) (fun b => ((((((((Mem.nil.push (.cells 9 [.lit (.string x11231)])).push (.cells 9 [.lit (.string b.1)])).push (.cells 3 [.lit (.int .i64 x11233)])).push (.cells 38 [.whole 4])).push (.row 9 Rd.str b.2)).push (.obj (Obj.deferred (some [])))).push (.bag)).push (.obj (lp r_11698 .ready none)))) k (x11232, ([] : List ByteArray)) H11817 rfl rfl ?_
      rintro n ⟨x11784, x11785⟩ H
      obtain _ | n := n
      · exact nf rfl H
      rw [g_slices_AppendSeq_string_string_l0.eq_2] at H
      show WP _ _ _ _ (((⟨fun _ => .any, [], [⟨aC11698, (((Env.none.upd 2 (.ptr 3 0)).upd 6 (.fn 51 [.ptr 0 0, .ptr 1 0, .ptr 2 0]))).v, [5, 6], some (7, l_11698)⟩]⟩ : Env).upd 0 (.lit (.func (.yield l_11698) #[] #[]))).upd 2 (.ptr 1 0)) ((((((((Mem.nil.push (.cells 9 [.lit (.string x11231)])).push (.cells 9 [.lit (.string x11784)])).push (.cells 3 [.lit (.int .i64 x11233)])).push (.cells 38 [.whole 4])).push (.row 9 Rd.str x11785)).push (.obj (Obj.deferred (some [])))).push (.bag)).push (.obj (lp r_11698 .ready none))) _
      refine WP.seq ?_
      refine WP.seq ?_
      refine WP.region ?_
      refine WPL.q (q_load sc9 rfl rfl rfl) rfl ?_
      refine WPL.q (q_len_str Tryd.underlying9 rfl) rfl ?_
      obtain ⟨x11805, h11805, H⟩ := bnd H
      refine WPL.q (q_nm (q_gtr rfl rfl) (nm_bool h11805)) rfl ?_
      refine WPL.nilW ?_
      refine W.now ?_
      refine Then.n ?_
      refine WP.cond (t := x11805) rfl (fun hb11805 => ?_) (fun hb11805 => ?_)
      · replace H := cnt hb11805 H
        refine WP.skipW ?_
        refine W.now ?_
        refine Then.n ?_
        refine WP.block ?_
        refine WP.seq ?_
        refine WP.region ?_
        refine WPL.q (q_load sc9 rfl rfl rfl) rfl ?_
        obtain ⟨⟨x11808, x11809⟩, h11806, H⟩ := bnd H
        refine WPL.c (runs_call (s := []) (t := []) (N := 8) (bor := []) fn52 rfl (s_unicode_utf8_DecodeRuneInString k x11784 x11808 x11809 h11806) ⟨rfl, trivial, by decide, rfl, trivial⟩ rfl trivial (.ren rfl rfl .nil) rfl trivial rfl) rfl ?_
        refine WPL.q (q_mv (v := .tup _) rfl) rfl ?_
        refine WPL.q (q_extract rfl rfl) rfl ?_
        refine WPL.q (q_extract rfl rfl) rfl ?_
        refine WPL.q (q_as (v := .lit (.int _ _)) rfl) rfl ?_
        refine WPL.q (q_as (v := .lit (.int _ _)) rfl) rfl ?_
        refine WPL.nilW ?_
        refine W.now ?_
        refine Then.n ?_
        refine WP.seq ?_
        refine WP.seq ?_
        refine WP.region ?_
        refine WPL.q (q_mv (v := .lit _) rfl) rfl ?_
        refine WPL.q (q_load sc9 rfl rfl rfl) rfl ?_
        refine WPL.q (q_mv (v := .lit (.int _ _)) rfl) rfl ?_
        obtain ⟨h11812, H⟩ := grd H
        refine WPL.q (q_slice_str (i := 0) (j := x11809) Tryd.underlying9 rfl rfl ⟨_, rfl⟩ h11812) rfl ?_
        refine WPL.y rfl rfl rfl rfl hp11698 ha11698 hb11698 ht11698 hs11698 rfl rfl rfl fun aI11813 => ?_
        refine WP.region ?_
        refine WPL.q (q_as (v := .lit (.string _)) rfl) rfl ?_
        refine WPL.nilW ?_
        refine W.now ?_
        refine ⟨rfl, rfl, _, _, _, _, _, _, rfl, rfl, ?_⟩
        refine WP.block ?_
        refine WP.region ?_
        refine WPL.q (q_load sc38 rfl rfl rfl) rfl ?_
        refine WPL.q (q_mv (v := .lit (.string _)) rfl) rfl ?_
        refine WPL.d (d_buildSlice (ds := ([(ByteArray.extract x11784 (Int.toNat 0) (Int.toNat x11809))] : List ByteArray)) (R := Rd.str) li38 rfl rfl rfl rfl rfl (JoinRows.cons1 Joins.sc rfl JoinRows.nil) rfl rfl) rfl ?_
        obtain ⟨h11814, H⟩ := grd H
        refine WPL.d (d_append ap38 rfl rfl rfl rfl (src_row sl38 rfl rfl) h11814 rfl) rfl ?_
        refine WPL.s (s_store sz38 rfl rfl rfl rfl rfl) ?_
        refine WPL.nilW ?_
        refine W.now ?_
        refine InBlock.n ?_
        refine ⟨rfl, _, _, _, _, _, _, rfl, rfl, _, rfl, ?_⟩
        refine WPL.q (q_not rfl) rfl ?_
        refine WPL.nilW ?_
        refine W.now ?_
        refine Then.n ?_
        refine WP.condFB (t := (!true)) rfl rfl ?_
        refine WP.skipW ?_
        refine W.now ?_
        refine Then.n ?_
        refine WP.region ?_
        refine WPL.q (q_load sc9 rfl rfl rfl) rfl ?_
        refine WPL.q (q_mv (v := .lit (.int _ _)) rfl) rfl ?_
        obtain ⟨h11815, H⟩ := grd H
        obtain ⟨x11817, h11817, H⟩ := bnd H
        refine WPL.q (q_nm (q_slice_str (i := x11809) (j := ((ByteArray.size x11784 : Nat) : Int)) Tryd.underlying9 rfl ⟨_, rfl⟩ rfl h11815) (nm_str h11817)) rfl ?_
        refine WPL.s (s_store sz9 rfl rfl rfl rfl rfl) ?_
        refine WPL.nilW ?_
        refine W.cv (Cv.weak (E' := (((⟨fun _ => .any, [], [⟨aC11698, (((Env.none.upd 2 (.ptr 3 0)).upd 6 (.fn 51 [.ptr 0 0, .ptr 1 0, .ptr 2 0]))).v, [5, 6], some (7, l_11698)⟩]⟩ : Env).upd 0 (.lit (.func (.yield l_11698) #[] #[]))).upd 2 (.ptr 1 0))) (M' := ((((((((Mem.nil.push (.cells 9 [.lit (.string x11231)])).push (.cells 9 [.lit (.string x11817)])).push (.cells 3 [.lit (.int .i64 x11233)])).push (.cells 38 [.whole 4])).push (.row 9 Rd.str (x11785 ++ ([(ByteArray.extract x11784 (Int.toNat 0) (Int.toNat x11809))] : List ByteArray)))).push (.obj (Obj.deferred (some [])))).push (.bag)).push (.obj (lp r_11698 .ready none)))) [0, 1, 2, 3, 9, 5, 6, 7] hnp ⟨rfl, ⟨⟨⟨⟨⟨⟨⟨⟨trivial, .inr ⟨rfl, rfl, rfl⟩⟩, .inr ⟨rfl, rfl, rfl⟩⟩, .inr ⟨rfl, rfl, rfl⟩⟩, .inr ⟨rfl, rfl, rfl⟩⟩, .inr ⟨rfl, rfl, rfl⟩⟩, .inr ⟨rfl, rfl, rfl⟩⟩, .inr ⟨rfl, rfl, rfl⟩⟩, .inr ⟨rfl, rfl, rfl⟩⟩, by decide, rfl, ⟨⟨⟨trivial, rfl⟩, rfl⟩, rfl⟩⟩ (LeE.upd rfl rfl (LeE.upd rfl rfl (LeE.noneD rfl rfl (.cons ⟨rfl, (LeV.upd rfl rfl (LeV.upd rfl rfl LeV.none)), rfl, rfl, rfl, rfl⟩ .nil))))) rfl ?_
        refine W.now ?_
        refine InBlock.n ?_
        exact Then.n ⟨n, (x11817, (x11785 ++ ([(ByteArray.extract x11784 (Int.toNat 0) (Int.toNat x11809))] : List ByteArray))), Nat.lt_succ_self n, H, rfl, rfl⟩
      · replace H := cnf hb11805 H
        refine WP.exitW ?_
        refine W.cv (Cv.weak (E' := (⟨fun _ => .any, [], [⟨aC11698, (((Env.none.upd 2 (.ptr 3 0)).upd 6 (.fn 51 [.ptr 0 0, .ptr 1 0, .ptr 2 0]))).v, [5, 6], some (7, l_11698)⟩]⟩ : Env)) (M' := ((((((((Mem.nil.push (.cells 9 [.lit (.string x11231)])).push (.cells 9 [.lit (.string x11784)])).push (.cells 3 [.lit (.int .i64 x11233)])).push (.cells 38 [.whole 4])).push (.row 9 Rd.str x11785)).push (.obj (Obj.deferred (some [])))).push (.bag)).push (.obj (lp r_11698 .ready none)))) [0, 1, 2, 3, 4, 5, 6, 7] hnp ⟨rfl, ⟨⟨⟨⟨⟨⟨⟨⟨trivial, .inr ⟨rfl, rfl, rfl⟩⟩, .inr ⟨rfl, rfl, rfl⟩⟩, .inr ⟨rfl, rfl, rfl⟩⟩, .inr ⟨rfl, rfl, rfl⟩⟩, .inr ⟨rfl, rfl, rfl⟩⟩, .inr ⟨rfl, rfl, rfl⟩⟩, .inr ⟨rfl, rfl, rfl⟩⟩, .inr ⟨rfl, rfl, rfl⟩⟩, by decide, rfl, ⟨⟨⟨trivial, rfl⟩, rfl⟩, rfl⟩⟩ (LeE.noneD rfl rfl (.cons ⟨rfl, (LeV.upd rfl rfl (LeV.upd rfl rfl LeV.none)), rfl, rfl, rfl, rfl⟩ .nil))) rfl ?_
        refine W.now ?_
        refine Then.x ?_
        refine Then.x ?_
        have q0 := (Prod.mk.inj (Option.some.inj H)).1
        have q1 := (Prod.mk.inj (Option.some.inj H)).2
        subst q0
        subst q1
        exact ⟨rfl, rfl, rfl⟩
    · rintro _ _ _ ⟨rfl, rfl, rfl⟩
      refine W.now ?_
      refine InBlock.x0 ?_
      refine Then.n ?_
      refine WP.retW ?_
      refine W.now ?_
      refine Then.r ?_
      refine ⟨trivial, _, _, _, _, rfl, _, _, rfl, (fun h => by cases h), ?_⟩
      refine W.cv (Cv.absorb (N := 8) (j := 5) (i := 6) rfl rfl rfl rfl) rfl ?_
      refine W.now ?_
      refine InBlock.n ?_
      refine Then.n ?_
      refine WP.seq ?_
      refine WP.region ?_
      refine WPL.q (q_load sc38 rfl rfl rfl) rfl ?_
      refine WPL.q (q_as (v := .whole _) rfl) rfl ?_
      refine WPL.nilW ?_
      refine W.now ?_
      refine Then.n ?_
      refine WP.retW ?_
      refine W.now ?_
      have q0 := (Prod.mk.inj (Option.some.inj H)).1
      have q1 := (Prod.mk.inj (Option.some.inj H)).2
      subst q0
      subst q1
      exact ⟨⟨.inr rfl, trivial⟩, _, rfl, [0, 1, 2, 4], (.whole 3), ((((Mem.nil.push (.cells 9 [.lit (.string x11231)])).push (.cells 9 [.lit (.string x11801)])).push (.cells 3 [.lit (.int .i64 x11233)])).push (.row 9 Rd.str x11802)), ⟨rfl, ⟨⟨⟨⟨trivial, .inr ⟨rfl, rfl, rfl⟩⟩, .inr ⟨rfl, rfl, rfl⟩⟩, .inr ⟨rfl, rfl, rfl⟩⟩, .inr ⟨rfl, rfl, rfl⟩⟩, by decide, rfl, ⟨⟨⟨trivial, rfl⟩, rfl⟩, rfl⟩⟩, rfl, rfl, rfl, rfl⟩
  · replace H := cnf hb11752 H
    refine WP.skipW ?_
    refine W.now ?_
    refine Then.n ?_
    refine WP.seq ?_
    refine WP.block ?_
    refine WP.cv (Cv.virC 9 Rd.str (N := 7) rfl rfl (i := 3) (off := 0) rfl rfl) ?_
    refine WP.cv (Cv.weak (E' := (((((⟨fun _ => .any, [], [⟨aC11698, (((Env.none.upd 2 (.ptr 3 0)).upd 6 (.fn 51 [.ptr 0 0, .ptr 1 0, .ptr 2 0]))).v, [5, 6], some (7, l_11698)⟩]⟩ : Env).upd 0 (.lit (.func (.yield l_11698) #[] #[]))).upd 1 (.ptr 0 0)).upd 2 (.ptr 1 0)).upd 3 (.ptr 2 0))) (M' := ((((((((Mem.nil.push (.cells 9 [.lit (.string x11231)])).push (.cells 9 [.lit (.string x11232)])).push (.cells 3 [.lit (.int .i64 x11233)])).push (.cells 38 [.whole 4])).push (.row 9 Rd.str ([] : List ByteArray))).push (.obj (Obj.deferred (some [])))).push (.bag)).push (.obj (lp r_11698 .ready none)))) [0, 1, 2, 3, 7, 5, 4, 6] hnp ⟨rfl, ⟨⟨⟨⟨⟨⟨⟨⟨trivial, .inr ⟨rfl, rfl, rfl⟩⟩, .inr ⟨rfl, rfl, rfl⟩⟩, .inr ⟨rfl, rfl, rfl⟩⟩, .inr ⟨rfl, rfl, rfl⟩⟩, .inr ⟨rfl, rfl, rfl⟩⟩, .inr ⟨rfl, rfl, rfl⟩⟩, .inr ⟨rfl, rfl, rfl⟩⟩, .inr ⟨rfl, rfl, rfl⟩⟩, by decide, rfl, ⟨⟨⟨trivial, rfl⟩, rfl⟩, rfl⟩⟩ (LeE.upd rfl rfl (LeE.upd rfl rfl (LeE.upd rfl rfl (LeE.upd rfl rfl (LeE.noneD rfl rfl (.cons ⟨rfl, (LeV.upd rfl rfl (LeV.upd rfl rfl LeV.none)), rfl, rfl, rfl, rfl⟩ .nil))))))) ?_
    obtain ⟨⟨x11860, x11861⟩, H11874, H⟩ := bnd H
    refine WP.monoW (Q := fun x E M => x = .exit 2 ∧ E = (((⟨fun _ => .any, [], [⟨aC11698, (((Env.none.upd 2 (.ptr 3 0)).upd 6 (.fn 51 [.ptr 0 0, .ptr 1 0, .ptr 2 0]))).v, [5, 6], some (7, l_11698)⟩]⟩ : Env).upd 0 (.lit (.func (.yield l_11698) #[] #[]))).upd 2 (.ptr 1 0)) ∧ M = ((((((((Mem.nil.push (.cells 9 [.lit (.string x11231)])).push (.cells 9 [.lit (.string x11860)])).push (.cells 3 [.lit (.int .i64 x11233)])).push (.cells 38 [.whole 4])).push (.row 9 Rd.str x11861)).push (.obj (Obj.deferred (some [])))).push (.bag)).push (.obj (lp r_11698 .ready none)))) ?_ ?_
    · refine WP.loop (β := ByteArray × (List ByteArray)) (fun n b => g_slices_AppendSeq_string_string_l1 k x11231 x11233 n b.1 b.2 = some (x11860, x11861)) (fun b => (((((⟨fun _ => .any, [], [⟨aC11698, (((Env.none.upd 2 (.ptr 3 0)).upd 6 (.fn 51 [.ptr 0 0, .ptr 1 0, .ptr 2 0]))).v, [5, 6], some (7, l_11698)⟩]⟩ : Env).upd 0 (.lit (.func (.yield l_11698) #[] #[]))).upd 1 (.ptr 0 0)).upd 2 (.ptr 1 0)).upd 3 (.ptr 2 0))) (fun b => ((((((((Mem.nil.push (.cells 9 [.lit (.string x11231)])).push (.cells 9 [.lit (.string b.1)])).push (.cells 3 [.lit (.int .i64 x11233)])).push (.cells 38 [.whole 4])).push (.row 9 Rd.str b.2)).push (.obj (Obj.deferred (some [])))).push (.bag)).push (.obj (lp r_11698 .ready none)))) k (x11232, ([] : List ByteArray)) H11874 rfl rfl ?_
      rintro n ⟨x11845, x11846⟩ H
      obtain _ | n := n
      · exact nf rfl H
      rw [g_slices_AppendSeq_string_string_l1.eq_2] at H
      show WP _ _ _ _ (((((⟨fun _ => .any, [], [⟨aC11698, (((Env.none.upd 2 (.ptr 3 0)).upd 6 (.fn 51 [.ptr 0 0, .ptr 1 0, .ptr 2 0]))).v, [5, 6], some (7, l_11698)⟩]⟩ : Env).upd 0 (.lit (.func (.yield l_11698) #[] #[]))).upd 1 (.ptr 0 0)).upd 2 (.ptr 1 0)).upd 3 (.ptr 2 0)) ((((((((Mem.nil.push (.cells 9 [.lit (.string x11231)])).push (.cells 9 [.lit (.string x11845)])).push (.cells 3 [.lit (.int .i64 x11233)])).push (.cells 38 [.whole 4])).push (.row 9 Rd.str x11846)).push (.obj (Obj.deferred (some [])))).push (.bag)).push (.obj (lp r_11698 .ready none))) _
      refine WP.block ?_
      refine WP.seq ?_
      refine WP.region ?_
      refine WPL.q (q_load sc9 rfl rfl rfl) rfl ?_
      refine WPL.q (q_load sc9 rfl rfl rfl) rfl ?_
      obtain ⟨x11863, h11861, H⟩ := bnd H
      refine WPL.c (runs_call (s := []) (t := []) (N := 8) (bor := []) fn53 rfl (s_strings_Index k x11845 x11231 x11863 h11861) ⟨rfl, trivial, by decide, rfl, trivial⟩ rfl trivial (.ren rfl rfl (.ren rfl rfl .nil)) rfl trivial rfl) rfl ?_
      refine WPL.q (q_as (v := .lit (.int _ _)) rfl) rfl ?_
      refine WPL.nilW ?_
      refine W.now ?_
      refine Then.n ?_
      refine WP.seq ?_
      refine WP.seq ?_
      refine WP.region ?_
      refine WPL.q (q_mv (v := .lit (.int _ _)) rfl) rfl ?_
      refine WPL.q (q_lss rfl rfl) rfl ?_
      refine WPL.nilW ?_
      refine W.now ?_
      refine Then.n ?_
      refine WP.cond (t := (decide (x11863 < 0))) rfl (fun hb11864 => ?_) (fun hb11864 => ?_)
      · replace H := cnt hb11864 H
        refine WP.exitW ?_
        refine W.cv (Cv.weak (E' := (((⟨fun _ => .any, [], [⟨aC11698, (((Env.none.upd 2 (.ptr 3 0)).upd 6 (.fn 51 [.ptr 0 0, .ptr 1 0, .ptr 2 0]))).v, [5, 6], some (7, l_11698)⟩]⟩ : Env).upd 0 (.lit (.func (.yield l_11698) #[] #[]))).upd 2 (.ptr 1 0))) (M' := ((((((((Mem.nil.push (.cells 9 [.lit (.string x11231)])).push (.cells 9 [.lit (.string x11845)])).push (.cells 3 [.lit (.int .i64 x11233)])).push (.cells 38 [.whole 4])).push (.row 9 Rd.str x11846)).push (.obj (Obj.deferred (some [])))).push (.bag)).push (.obj (lp r_11698 .ready none)))) [0, 1, 2, 3, 4, 5, 6, 7] hnp ⟨rfl, ⟨⟨⟨⟨⟨⟨⟨⟨trivial, .inr ⟨rfl, rfl, rfl⟩⟩, .inr ⟨rfl, rfl, rfl⟩⟩, .inr ⟨rfl, rfl, rfl⟩⟩, .inr ⟨rfl, rfl, rfl⟩⟩, .inr ⟨rfl, rfl, rfl⟩⟩, .inr ⟨rfl, rfl, rfl⟩⟩, .inr ⟨rfl, rfl, rfl⟩⟩, .inr ⟨rfl, rfl, rfl⟩⟩, by decide, rfl, ⟨⟨⟨trivial, rfl⟩, rfl⟩, rfl⟩⟩ (LeE.upd rfl rfl (LeE.upd rfl rfl (LeE.noneD rfl rfl (.cons ⟨rfl, (LeV.upd rfl rfl (LeV.upd rfl rfl LeV.none)), rfl, rfl, rfl, rfl⟩ .nil))))) rfl ?_
        refine W.now ?_
        refine Then.x ?_
        refine InBlock.x rfl ?_
        refine Then.x ?_
        have q0 := (Prod.mk.inj (Option.some.inj H)).1
        have q1 := (Prod.mk.inj (Option.some.inj H)).2
        subst q0
        subst q1
        exact ⟨rfl, rfl, rfl⟩
      · replace H := cnf hb11864 H
        refine WP.skipW ?_
        refine W.now ?_
        refine Then.n ?_
        refine WP.seq ?_
        refine WP.region ?_
        refine WPL.q (q_load sc9 rfl rfl rfl) rfl ?_
        refine WPL.q (q_mv (v := .lit (.int _ _)) rfl) rfl ?_
        refine WPL.q (q_load sc3 rfl rfl rfl) rfl ?_
        refine WPL.q (q_add rfl rfl) rfl ?_
        obtain ⟨h11865, H⟩ := grd H
        obtain ⟨x11867, h11867, H⟩ := bnd H
        refine WPL.q (q_nm (q_slice_str (i := 0) (j := (IntKind.wrap .i64 (x11863 + x11233))) Tryd.underlying9 rfl rfl ⟨_, rfl⟩ h11865) (nm_str h11867)) rfl ?_
        refine WPL.q (q_as (v := .lit (.string _)) rfl) rfl ?_
        refine WPL.nilW ?_
        refine W.now ?_
        refine Then.n ?_
        refine WP.seq ?_
        refine WP.seq ?_
        refine WP.region ?_
        refine WPL.q (q_mv (v := .lit _) rfl) rfl ?_
        refine WPL.q (q_mv (v := .lit (.string _)) rfl) rfl ?_
        refine WPL.y rfl rfl rfl rfl hp11698 ha11698 hb11698 ht11698 hs11698 rfl rfl rfl fun aI11869 => ?_
        refine WP.region ?_
        refine WPL.q (q_as (v := .lit (.string _)) rfl) rfl ?_
        refine WPL.nilW ?_
        refine W.now ?_
        refine ⟨rfl, rfl, _, _, _, _, _, _, rfl, rfl, ?_⟩
        refine WP.block ?_
        refine WP.region ?_
        refine WPL.q (q_load sc38 rfl rfl rfl) rfl ?_
        refine WPL.q (q_mv (v := .lit (.string _)) rfl) rfl ?_
        refine WPL.d (d_buildSlice (ds := ([x11867] : List ByteArray)) (R := Rd.str) li38 rfl rfl rfl rfl rfl (JoinRows.cons1 Joins.sc rfl JoinRows.nil) rfl rfl) rfl ?_
        obtain ⟨h11870, H⟩ := grd H
        refine WPL.d (d_append ap38 rfl rfl rfl rfl (src_row sl38 rfl rfl) h11870 rfl) rfl ?_
        refine WPL.s (s_store sz38 rfl rfl rfl rfl rfl) ?_
        refine WPL.nilW ?_
        refine W.now ?_
        refine InBlock.n ?_
        refine ⟨rfl, _, _, _, _, _, _, rfl, rfl, _, rfl, ?_⟩
        refine WPL.q (q_not rfl) rfl ?_
        refine WPL.nilW ?_
        refine W.now ?_
        refine Then.n ?_
        refine WP.condFB (t := (!true)) rfl rfl ?_
        refine WP.skipW ?_
        refine W.now ?_
        refine Then.n ?_
        refine WP.region ?_
        refine WPL.q (q_load sc9 rfl rfl rfl) rfl ?_
        refine WPL.q (q_mv (v := .lit (.int _ _)) rfl) rfl ?_
        refine WPL.q (q_load sc9 rfl rfl rfl) rfl ?_
        refine WPL.q (q_len_str Tryd.underlying9 rfl) rfl ?_
        obtain ⟨x11872, h11872, H⟩ := bnd H
        refine WPL.q (q_nm (q_add rfl rfl) (nm_int h11872)) rfl ?_
        obtain ⟨h11872, H⟩ := grd H
        obtain ⟨x11874, h11874, H⟩ := bnd H
        refine WPL.q (q_nm (q_slice_str (i := x11872) (j := ((ByteArray.size x11845 : Nat) : Int)) Tryd.underlying9 rfl ⟨_, rfl⟩ rfl h11872) (nm_str h11874)) rfl ?_
        refine WPL.s (s_store sz9 rfl rfl rfl rfl rfl) ?_
        refine WPL.nilW ?_
        refine W.cv (Cv.weak (E' := (((((⟨fun _ => .any, [], [⟨aC11698, (((Env.none.upd 2 (.ptr 3 0)).upd 6 (.fn 51 [.ptr 0 0, .ptr 1 0, .ptr 2 0]))).v, [5, 6], some (7, l_11698)⟩]⟩ : Env).upd 0 (.lit (.func (.yield l_11698) #[] #[]))).upd 1 (.ptr 0 0)).upd 2 (.ptr 1 0)).upd 3 (.ptr 2 0))) (M' := ((((((((Mem.nil.push (.cells 9 [.lit (.string x11231)])).push (.cells 9 [.lit (.string x11874)])).push (.cells 3 [.lit (.int .i64 x11233)])).push (.cells 38 [.whole 4])).push (.row 9 Rd.str (x11846 ++ ([x11867] : List ByteArray)))).push (.obj (Obj.deferred (some [])))).push (.bag)).push (.obj (lp r_11698 .ready none)))) [0, 1, 2, 3, 9, 5, 6, 7] hnp ⟨rfl, ⟨⟨⟨⟨⟨⟨⟨⟨trivial, .inr ⟨rfl, rfl, rfl⟩⟩, .inr ⟨rfl, rfl, rfl⟩⟩, .inr ⟨rfl, rfl, rfl⟩⟩, .inr ⟨rfl, rfl, rfl⟩⟩, .inr ⟨rfl, rfl, rfl⟩⟩, .inr ⟨rfl, rfl, rfl⟩⟩, .inr ⟨rfl, rfl, rfl⟩⟩, .inr ⟨rfl, rfl, rfl⟩⟩, by decide, rfl, ⟨⟨⟨trivial, rfl⟩, rfl⟩, rfl⟩⟩ (LeE.upd rfl rfl (LeE.upd rfl rfl (LeE.upd rfl rfl (LeE.upd rfl rfl (LeE.noneD rfl rfl (.cons ⟨rfl, (LeV.upd rfl rfl (LeV.upd rfl rfl LeV.none)), rfl, rfl, rfl, rfl⟩ .nil))))))) rfl ?_
        refine W.now ?_
        refine InBlock.n ?_
        exact Then.n ⟨n, (x11874, (x11846 ++ ([x11867] : List ByteArray))), Nat.lt_succ_self n, H, rfl, rfl⟩
    · rintro _ _ _ ⟨rfl, rfl, rfl⟩
      refine W.now ?_
      refine InBlock.x0 ?_
      refine Then.n ?_
      refine WP.region ?_
      refine WPL.q (q_mv (v := .lit _) rfl) rfl ?_
      refine WPL.q (q_load sc9 rfl rfl rfl) rfl ?_
      refine WPL.y rfl rfl rfl rfl hp11698 ha11698 hb11698 ht11698 hs11698 rfl rfl rfl fun aI11875 => ?_
      refine WP.region ?_
      refine WPL.q (q_as (v := .lit (.string _)) rfl) rfl ?_
      refine WPL.nilW ?_
      refine W.now ?_
      refine ⟨rfl, rfl, _, _, _, _, _, _, rfl, rfl, ?_⟩
      refine WP.block ?_
      refine WP.region ?_
      refine WPL.q (q_load sc38 rfl rfl rfl) rfl ?_
      refine WPL.q (q_mv (v := .lit (.string _)) rfl) rfl ?_
      refine WPL.d (d_buildSlice (ds := ([x11860] : List ByteArray)) (R := Rd.str) li38 rfl rfl rfl rfl rfl (JoinRows.cons1 Joins.sc rfl JoinRows.nil) rfl rfl) rfl ?_
      obtain ⟨h11876, H⟩ := grd H
      refine WPL.d (d_append ap38 rfl rfl rfl rfl (src_row sl38 rfl rfl) h11876 rfl) rfl ?_
      refine WPL.s (s_store sz38 rfl rfl rfl rfl rfl) ?_
      refine WPL.nilW ?_
      refine W.now ?_
      refine InBlock.n ?_
      refine ⟨rfl, _, _, _, _, _, _, rfl, rfl, _, rfl, ?_⟩
      refine WPL.nilW ?_
      refine W.now ?_
      refine ⟨trivial, _, _, _, _, rfl, _, _, rfl, (fun h => by cases h), ?_⟩
      refine W.cv (Cv.absorb (N := 10) (j := 5) (i := 6) rfl rfl rfl rfl) rfl ?_
      refine W.now ?_
      refine InBlock.n ?_
      refine Then.n ?_
      refine WP.seq ?_
      refine WP.region ?_
      refine WPL.q (q_load sc38 rfl rfl rfl) rfl ?_
      refine WPL.q (q_as (v := .whole _) rfl) rfl ?_
      refine WPL.nilW ?_
      refine W.now ?_
      refine Then.n ?_
      refine WP.retW ?_
      refine W.now ?_
      have q0 := (Prod.mk.inj (Option.some.inj H)).1
      have q1 := (Prod.mk.inj (Option.some.inj H)).2
      subst q0
      subst q1
      exact ⟨⟨.inr rfl, trivial⟩, _, rfl, [0, 1, 2, 9], (.whole 3), ((((Mem.nil.push (.cells 9 [.lit (.string x11231)])).push (.cells 9 [.lit (.string x11860)])).push (.cells 3 [.lit (.int .i64 x11233)])).push (.row 9 Rd.str (x11861 ++ ([x11860] : List ByteArray)))), ⟨rfl, ⟨⟨⟨⟨trivial, .inr ⟨rfl, rfl, rfl⟩⟩, .inr ⟨rfl, rfl, rfl⟩⟩, .inr ⟨rfl, rfl, rfl⟩⟩, .inr ⟨rfl, rfl, rfl⟩⟩, by decide, rfl, ⟨⟨⟨trivial, rfl⟩, rfl⟩, rfl⟩⟩, rfl, rfl, rfl, rfl⟩
set_option maxRecDepth 100000 in
set_option maxHeartbeats 4000000 in
theorem s_slices_Collect_string (k : Nat) (x11227 : ByteArray) (x11228 : ByteArray) (x11229 : Int) (x11881 : ByteArray) (x11882 : (List ByteArray)) (H : g_slices_Collect_string k x11227 x11228 x11229 = some (x11881, x11882)) : Go.Q.Spec Tryd.prog 31 3 [.fn 51 [.ptr 0 0, .ptr 1 0, .ptr 2 0]] (((Mem.nil.push (.cells 9 [.lit (.string x11227)])).push (.cells 9 [.lit (.string x11228)])).push (.cells 3 [.lit (.int .i64 x11229)])) (fun o M => o = .ret (.whole 3) ∧ M = ((((Mem.nil.push (.cells 9 [.lit (.string x11227)])).push (.cells 9 [.lit (.string x11881)])).push (.cells 3 [.lit (.int .i64 x11229)])).push (.row 9 Rd.str x11882))) := by
  unfold g_slices_Collect_string at H
  refine Go.Q.Spec.of_bodyR (rs := [.tmp 2]) (nt := 5) Tryd.func31 rfl rfl (by intro t T h; simp at h) rfl rfl fun cx hnp => ?_
  refine WP.seq ?_
  refine WP.region ?_
  refine WPL.q (q_as (v := .lit _) rfl) rfl ?_
  refine WPL.nilW ?_
  refine W.now ?_
  refine Then.n ?_
  refine WP.seq ?_
  refine WP.region ?_
  refine WPL.q (q_mv (v := .fn _ _) rfl) rfl ?_
  obtain ⟨⟨x11884, x11885⟩, h11882, H⟩ := bnd H
  refine WPL.c (runs_call (s := [0, 1, 2]) (t := [0, 1, 2, 3]) (N := 4) (bor := []) fn44 rfl (s_slices_AppendSeq_string_string k x11227 x11228 x11229 x11884 x11885 h11882) ⟨rfl, ⟨⟨⟨trivial, .inr ⟨rfl, rfl, rfl⟩⟩, .inr ⟨rfl, rfl, rfl⟩⟩, .inr ⟨rfl, rfl, rfl⟩⟩, by decide, rfl, trivial⟩ rfl trivial (.ren rfl rfl (.ren rfl rfl .nil)) rfl ⟨⟨⟨⟨trivial, rfl⟩, rfl⟩, rfl⟩, rfl⟩ rfl) rfl ?_
  refine WPL.q (q_as (v := .whole _) rfl) rfl ?_
  refine WPL.nilW ?_
  refine W.now ?_
  refine Then.n ?_
  refine WP.retW ?_
  refine W.now ?_
  have q0 := (Prod.mk.inj (Option.some.inj H)).1
  have q1 := (Prod.mk.inj (Option.some.inj H)).2
  subst q0
  subst q1
  exact ⟨trivial, _, rfl, [0, 1, 2, 3], (.whole 3), ((((Mem.nil.push (.cells 9 [.lit (.string x11227)])).push (.cells 9 [.lit (.string x11884)])).push (.cells 3 [.lit (.int .i64 x11229)])).push (.row 9 Rd.str x11885)), ⟨rfl, ⟨⟨⟨⟨trivial, .inr ⟨rfl, rfl, rfl⟩⟩, .inr ⟨rfl, rfl, rfl⟩⟩, .inr ⟨rfl, rfl, rfl⟩⟩, .inr ⟨rfl, rfl, rfl⟩⟩, by decide, rfl, ⟨⟨⟨trivial, rfl⟩, rfl⟩, rfl⟩⟩, rfl, rfl, rfl, rfl⟩
set_option maxRecDepth 100000 in
set_option maxHeartbeats 4000000 in
theorem s_utf_Trim_1 (k : Nat) (x11897 : ByteArray) (x11900 : Bool) (H : g_utf_Trim_1 k x11897 = some x11900) : Go.Q.Spec Tryd.prog 34 0 [.lit (.string x11897)] Mem.nil (fun o M => o = .ret (.lit (.bool x11900)) ∧ M = Mem.nil) := by
  unfold g_utf_Trim_1 at H
  refine Go.Q.Spec.of_bodyR (rs := [.tmp 2]) (nt := 5) Tryd.func34 rfl rfl (by intro t T h; simp at h) rfl rfl fun cx hnp => ?_
  refine WP.seq ?_
  refine WP.region ?_
  refine WPL.q (q_as (v := .lit (.bool _)) rfl) rfl ?_
  refine WPL.nilW ?_
  refine W.now ?_
  refine Then.n ?_
  refine WP.seq ?_
  refine WP.region ?_
  refine WPL.q (q_mv (v := .lit (.string _)) rfl) rfl ?_
  obtain ⟨x11901, h11901, H⟩ := bnd H
  refine WPL.q (q_nm (q_eqls rfl rfl) (nm_bool h11901)) rfl ?_
  refine WPL.q (q_as (v := .lit (.bool _)) rfl) rfl ?_
  refine WPL.nilW ?_
  refine W.now ?_
  refine Then.n ?_
  refine WP.retW ?_
  refine W.now ?_
  have q0 := (Option.some.inj H)
  subst q0
  exact ⟨trivial, _, rfl, [], (.lit (.bool x11901)), Mem.nil, ⟨rfl, trivial, by decide, rfl, trivial⟩, rfl, rfl, rfl, rfl⟩
set_option maxRecDepth 100000 in
set_option maxHeartbeats 4000000 in
theorem s_slices_IndexFunc_string_string (k : Nat) (x11891 : (List ByteArray)) (x11924 : Int) (H : g_slices_IndexFunc_string_string k x11891 = some x11924) : Go.Q.Spec Tryd.prog 46 0 [.ro (Rd.slice Rd.str) true x11891, .fn 34 []] Mem.nil (fun o M => o = .ret (.lit (.int .i64 x11924)) ∧ M = Mem.nil) := by
  unfold g_slices_IndexFunc_string_string at H
  refine Go.Q.Spec.of_bodyR (rs := [.tmp 4]) (nt := 19) Tryd.func46 rfl rfl (by intro t T h; simp at h) rfl rfl fun cx hnp => ?_
  refine WP.seq ?_
  refine WP.region ?_
  refine WPL.q (q_as (v := .lit (.int _ _)) rfl) rfl ?_
  refine WPL.nilW ?_
  refine W.now ?_
  refine Then.n ?_
  refine WP.seq ?_
  refine WP.seq ?_
  refine WP.region ?_
  refine WPL.q (q_mv (v := .ro _ _ _) rfl) rfl ?_
  refine WPL.q (q_len_ro sl38 rfl) rfl ?_
  refine WPL.q (q_mv (v := .lit (.int _ _)) rfl) rfl ?_
  refine WPL.nilW ?_
  refine W.now ?_
  refine Then.n ?_
  refine WP.block ?_
  refine WP.cv (Cv.weak (E' := ((((Env.none.upd 0 (.ro (Rd.slice Rd.str) true x11891)).upd 1 (.fn 34 [])).upd 7 (.lit (.int .i64 ((List.length x11891 : Nat) : Int)))).upd 8 (.lit (.int .i64 0)))) (M' := Mem.nil) [] hnp ⟨rfl, trivial, by decide, rfl, trivial⟩ (LeE.upd rfl rfl (LeE.upd rfl rfl (LeE.upd rfl rfl (LeE.upd rfl rfl (LeE.none rfl rfl)))))) ?_
  obtain ⟨y11961, H11959, H⟩ := bnd H
  refine WP.monoW (Q := fun x E M => match (generalizing := false) y11961 with | (Sum.inl x11948) => x = .ret ∧ E = (Env.none.upd 4 (.lit (.int .i64 x11948))) ∧ M = Mem.nil | (Sum.inr _) => x = .exit 0 ∧ E = Env.none ∧ M = Mem.nil) ?_ ?_
  · refine WP.loop (β := Int) (fun n b => g_slices_IndexFunc_string_string_l0 k x11891 n b = some y11961) (fun b => ((((Env.none.upd 0 (.ro (Rd.slice Rd.str) true x11891)).upd 1 (.fn 34 [])).upd 7 (.lit (.int .i64 ((List.length x11891 : Nat) : Int)))).upd 8 (.lit (.int .i64 b)))) (fun b => Mem.nil) k 0 H11959 rfl rfl ?_
    rintro n x11936 H
    obtain _ | n := n
    · exact nf rfl H
    rw [g_slices_IndexFunc_string_string_l0.eq_2] at H
    show WP _ _ _ _ ((((Env.none.upd 0 (.ro (Rd.slice Rd.str) true x11891)).upd 1 (.fn 34 [])).upd 7 (.lit (.int .i64 ((List.length x11891 : Nat) : Int)))).upd 8 (.lit (.int .i64 x11936))) Mem.nil _
    refine WP.seq ?_
    refine WP.region ?_
    obtain ⟨x11949, h11949, H⟩ := bnd H
    refine WPL.q (q_nm (q_lss rfl rfl) (nm_bool h11949)) rfl ?_
    refine WPL.nilW ?_
    refine W.now ?_
    refine Then.n ?_
    refine WP.seq ?_
    refine WP.cond (t := x11949) rfl (fun hb11950 => ?_) (fun hb11950 => ?_)
    · replace H := cnt hb11950 H
      refine WP.skipW ?_
      refine W.now ?_
      refine Then.n ?_
      refine WP.seq ?_
      refine WP.block ?_
      refine WP.seq ?_
      refine WP.region ?_
      refine WPL.q (q_mv (v := .lit (.int _ _)) rfl) rfl ?_
      refine WPL.q (q_as (v := .lit (.int _ _)) rfl) rfl ?_
      refine WPL.nilW ?_
      refine W.now ?_
      refine Then.n ?_
      refine WP.seq ?_
      refine WP.region ?_
      refine WPL.q (q_mv (v := .fn _ _) rfl) rfl ?_
      refine WPL.q (q_mv (v := .ro _ _ _) rfl) rfl ?_
      refine WPL.q (q_mv (v := .lit (.int _ _)) rfl) rfl ?_
      obtain ⟨x11956, h11956, H⟩ := bnd H
      refine WPL.q (q_index_ro sl38 rfl rfl rfl h11956) rfl ?_
      refine WPL.q (q_load_sc sc9 rfl) rfl ?_
      obtain ⟨x11958, h11956, H⟩ := bnd H
      refine WPL.c (runs_call (s := []) (t := []) (N := 0) (bor := []) fn34 rfl (s_utf_Trim_1 k x11956 x11958 h11956) ⟨rfl, trivial, by decide, rfl, trivial⟩ rfl trivial (.ren rfl rfl .nil) rfl trivial rfl) rfl ?_
      refine WPL.nilW ?_
      refine W.now ?_
      refine Then.n ?_
      refine WP.cond (t := x11958) rfl (fun hb11958 => ?_) (fun hb11958 => ?_)
      · replace H := cnt hb11958 H
        refine WP.seq ?_
        refine WP.region ?_
        refine WPL.q (q_mv (v := .lit (.int _ _)) rfl) rfl ?_
        refine WPL.q (q_as (v := .lit (.int _ _)) rfl) rfl ?_
        refine WPL.nilW ?_
        refine W.now ?_
        refine Then.n ?_
        refine WP.retW ?_
        refine W.cv (Cv.weak (E' := (Env.none.upd 4 (.lit (.int .i64 x11936)))) (M' := Mem.nil) [] hnp ⟨rfl, trivial, by decide, rfl, trivial⟩ (LeE.upd rfl rfl (LeE.none rfl rfl))) rfl ?_
        refine W.now ?_
        refine InBlock.r ?_
        refine Then.r ?_
        refine Then.r ?_
        have q0 := Option.some.inj H
        subst q0
        exact ⟨rfl, rfl, rfl⟩
      · replace H := cnf hb11958 H
        refine WP.skipW ?_
        refine W.now ?_
        refine InBlock.n ?_
        refine Then.n ?_
        refine WP.region ?_
        refine WPL.q (q_add rfl rfl) rfl ?_
        refine WPL.q (q_mv (v := .lit (.int _ _)) rfl) rfl ?_
        refine WPL.nilW ?_
        refine W.cv (Cv.weak (E' := ((((Env.none.upd 0 (.ro (Rd.slice Rd.str) true x11891)).upd 1 (.fn 34 [])).upd 7 (.lit (.int .i64 ((List.length x11891 : Nat) : Int)))).upd 8 (.lit (.int .i64 (IntKind.wrap .i64 (x11936 + 1)))))) (M' := Mem.nil) [] hnp ⟨rfl, trivial, by decide, rfl, trivial⟩ (LeE.upd rfl rfl (LeE.upd rfl rfl (LeE.upd rfl rfl (LeE.upd rfl rfl (LeE.none rfl rfl)))))) rfl ?_
        refine W.now ?_
        exact Then.n ⟨n, (IntKind.wrap .i64 (x11936 + 1)), Nat.lt_succ_self n, H, rfl, rfl⟩
    · replace H := cnf hb11950 H
      refine WP.exitW ?_
      refine W.cv (Cv.weak (E' := Env.none) (M' := Mem.nil) [] hnp ⟨rfl, trivial, by decide, rfl, trivial⟩ (LeE.none rfl rfl)) rfl ?_
      refine W.now ?_
      refine Then.x ?_
      refine Then.x ?_
      have q0 := Option.some.inj H
      subst q0
      exact ⟨rfl, rfl, rfl⟩
  · rcases y11961 with x11948 | _
    · rintro _ _ _ ⟨rfl, rfl, rfl⟩
      refine W.now ?_
      refine InBlock.r ?_
      refine Then.r ?_
      have q0 := (Option.some.inj H)
      subst q0
      exact ⟨trivial, _, rfl, [], (.lit (.int .i64 x11948)), Mem.nil, ⟨rfl, trivial, by decide, rfl, trivial⟩, rfl, rfl, rfl, rfl⟩
    · rintro _ _ _ ⟨rfl, rfl, rfl⟩
      refine W.now ?_
      refine InBlock.x0 ?_
      refine Then.n ?_
      refine WP.seq ?_
      refine WP.region ?_
      refine WPL.q (q_as (v := .lit (.int _ _)) rfl) rfl ?_
      refine WPL.nilW ?_
      refine W.now ?_
      refine Then.n ?_
      refine WP.retW ?_
      refine W.now ?_
      have q0 := (Option.some.inj H)
      subst q0
      exact ⟨trivial, _, rfl, [], (.lit (.int .i64 (-1))), Mem.nil, ⟨rfl, trivial, by decide, rfl, trivial⟩, rfl, rfl, rfl, rfl⟩
set_option maxRecDepth 100000 in
set_option maxHeartbeats 4000000 in
theorem s_slices_DeleteFunc_string_string (k : Nat) (x11889 : (List ByteArray)) (x12009 : (List ByteArray)) (H : g_slices_DeleteFunc_string_string k x11889 = some x12009) : Go.Q.Spec Tryd.prog 33 0 [.whole 0, .fn 34 []] (Mem.nil.push (.row 9 Rd.str x11889)) (fun o M => o = .ret (.whole 0) ∧ M = (Mem.nil.push (.row 9 Rd.str x12009))) := by
  unfold g_slices_DeleteFunc_string_string at H
  refine Go.Q.Spec.of_bodyR (rs := [.tmp 4]) (nt := 42) Tryd.func33 rfl rfl (by intro t T h; simp at h) rfl rfl fun cx hnp => ?_
  refine WP.seq ?_
  refine WP.region ?_
  refine WPL.q (q_as (v := .lit _) rfl) rfl ?_
  refine WPL.nilW ?_
  refine W.now ?_
  refine Then.n ?_
  refine WP.seq ?_
  refine WP.region ?_
  refine WPL.q (q_mv (v := .whole _) rfl) rfl ?_
  refine WPL.q (q_mv (v := .fn _ _) rfl) rfl ?_
  obtain ⟨x12011, h12009, H⟩ := bnd H
  refine WPL.c (runs_call (s := []) (t := []) (N := 1) (bor := [0]) fn46 rfl (s_slices_IndexFunc_string_string k x11889 x12011 h12009) ⟨rfl, trivial, by decide, rfl, trivial⟩ rfl ⟨trivial, rfl, rfl, trivial⟩ (.row rfl rfl (.ren rfl rfl .nil)) rfl trivial rfl) rfl ?_
  refine WPL.q (q_as (v := .lit (.int _ _)) rfl) rfl ?_
  refine WPL.nilW ?_
  refine W.now ?_
  refine Then.n ?_
  refine WP.seq ?_
  refine WP.seq ?_
  refine WP.region ?_
  refine WPL.q (q_mv (v := .lit (.int _ _)) rfl) rfl ?_
  refine WPL.q (q_eql rfl rfl) rfl ?_
  refine WPL.nilW ?_
  refine W.now ?_
  refine Then.n ?_
  refine WP.cond (t := (decide (x12011 = (-1)))) rfl (fun hb12012 => ?_) (fun hb12012 => ?_)
  · replace H := cnt hb12012 H
    refine WP.seq ?_
    refine WP.region ?_
    refine WPL.q (q_mv (v := .whole _) rfl) rfl ?_
    refine WPL.q (q_as (v := .whole _) rfl) rfl ?_
    refine WPL.nilW ?_
    refine W.now ?_
    refine Then.n ?_
    refine WP.retW ?_
    refine W.now ?_
    refine Then.r ?_
    have q0 := (Option.some.inj H)
    subst q0
    exact ⟨trivial, _, rfl, [0], (.whole 0), (Mem.nil.push (.row 9 Rd.str x11889)), ⟨rfl, ⟨trivial, .inr ⟨rfl, rfl, rfl⟩⟩, by decide, rfl, trivial⟩, rfl, rfl, rfl, rfl⟩
  · replace H := cnf hb12012 H
    refine WP.skipW ?_
    refine W.now ?_
    refine Then.n ?_
    refine WP.seq ?_
    refine WP.seq ?_
    refine WP.region ?_
    refine WPL.q (q_mv (v := .lit (.int _ _)) rfl) rfl ?_
    refine WPL.q (q_add rfl rfl) rfl ?_
    refine WPL.q (q_as (v := .lit (.int _ _)) rfl) rfl ?_
    refine WPL.nilW ?_
    refine W.now ?_
    refine Then.n ?_
    refine WP.block ?_
    refine WP.cv (Cv.weak (E' := ((((Env.none.upd 0 (.whole 0)).upd 1 (.fn 34 [])).upd 5 (.lit (.int .i64 x12011))).upd 6 (.lit (.int .i64 (IntKind.wrap .i64 (x12011 + 1)))))) (M' := (Mem.nil.push (.row 9 Rd.str x11889))) [0] hnp ⟨rfl, ⟨trivial, .inr ⟨rfl, rfl, rfl⟩⟩, by decide, rfl, trivial⟩ (LeE.upd rfl rfl (LeE.upd rfl rfl (LeE.upd rfl rfl (LeE.upd rfl rfl (LeE.none rfl rfl)))))) ?_
    obtain ⟨⟨x12052, x12053⟩, H12070, H⟩ := bnd H
    refine WP.monoW (Q := fun x E M => x = .exit 0 ∧ E = ((Env.none.upd 0 (.whole 0)).upd 5 (.lit (.int .i64 x12052))) ∧ M = (Mem.nil.push (.row 9 Rd.str x12053))) ?_ ?_
    · refine WP.loop (β := Int × Int × (List ByteArray)) (fun n b => g_slices_DeleteFunc_string_string_l0 k n b.1 b.2.1 b.2.2 = some (x12052, x12053)) (fun b => ((((Env.none.upd 0 (.whole 0)).upd 1 (.fn 34 [])).upd 5 (.lit (.int .i64 b.1))).upd 6 (.lit (.int .i64 b.2.1)))) (fun b => (Mem.nil.push (.row 9 Rd.str b.2.2))) k (x12011, (IntKind.wrap .i64 (x12011 + 1)), x11889) H12070 rfl rfl ?_
      rintro n ⟨x12032, x12033, x12034⟩ H
      obtain _ | n := n
      · exact nf rfl H
      rw [g_slices_DeleteFunc_string_string_l0.eq_2] at H
      show WP _ _ _ _ ((((Env.none.upd 0 (.whole 0)).upd 1 (.fn 34 [])).upd 5 (.lit (.int .i64 x12032))).upd 6 (.lit (.int .i64 x12033))) (Mem.nil.push (.row 9 Rd.str x12034)) _
      refine WP.seq ?_
      refine WP.seq ?_
      refine WP.region ?_
      refine WPL.q (q_mv (v := .lit (.int _ _)) rfl) rfl ?_
      refine WPL.q (q_mv (v := .whole _) rfl) rfl ?_
      refine WPL.q (q_len_row sl38 rfl rfl) rfl ?_
      obtain ⟨x12056, h12056, H⟩ := bnd H
      refine WPL.q (q_nm (q_lss rfl rfl) (nm_bool h12056)) rfl ?_
      refine WPL.nilW ?_
      refine W.now ?_
      refine Then.n ?_
      refine WP.cond (t := x12056) rfl (fun hb12056 => ?_) (fun hb12056 => ?_)
      · replace H := cnt hb12056 H
        refine WP.skipW ?_
        refine W.now ?_
        refine Then.n ?_
        refine WP.seq ?_
        obtain ⟨⟨x12063, x12064⟩, H12069, H⟩ := bnd H
        refine WP.monoW (Q := fun x E M => x = .normal ∧ E = ((((Env.none.upd 0 (.whole 0)).upd 1 (.fn 34 [])).upd 5 (.lit (.int .i64 x12063))).upd 6 (.lit (.int .i64 x12033))) ∧ M = (Mem.nil.push (.row 9 Rd.str x12064))) ?_ ?_
        · clear H
          have H := H12069
          clear H12069
          refine WP.block ?_
          refine WP.seq ?_
          refine WP.region ?_
          refine WPL.q (q_mv (v := .whole _) rfl) rfl ?_
          refine WPL.q (q_mv (v := .lit (.int _ _)) rfl) rfl ?_
          obtain ⟨x12065, h12065, H⟩ := bnd H
          refine WPL.q (q_index_row sl38 rfl rfl rfl (ixs h12065)) rfl ?_
          refine WPL.q (q_load_row (j := (Int.toNat x12033)) sc9 rfl rfl (ixj h12065)) rfl ?_
          refine WPL.q (q_as (v := .lit (.string _)) rfl) rfl ?_
          refine WPL.nilW ?_
          refine W.now ?_
          refine Then.n ?_
          refine WP.seq ?_
          refine WP.region ?_
          refine WPL.q (q_mv (v := .fn _ _) rfl) rfl ?_
          refine WPL.q (q_mv (v := .lit (.string _)) rfl) rfl ?_
          obtain ⟨x12067, h12065, H⟩ := bnd H
          refine WPL.c (runs_call (s := []) (t := []) (N := 1) (bor := []) fn34 rfl (s_utf_Trim_1 k x12065 x12067 h12065) ⟨rfl, trivial, by decide, rfl, trivial⟩ rfl trivial (.ren rfl rfl .nil) rfl trivial rfl) rfl ?_
          refine WPL.q (q_not rfl) rfl ?_
          refine WPL.nilW ?_
          refine W.now ?_
          refine Then.n ?_
          refine WP.cond (t := (!x12067)) rfl (fun hb12067 => ?_) (fun hb12067 => ?_)
          · replace H := cnt hb12067 H
            refine WP.seq ?_
            refine WP.region ?_
            refine WPL.q (q_mv (v := .whole _) rfl) rfl ?_
            refine WPL.q (q_mv (v := .lit (.int _ _)) rfl) rfl ?_
            refine WPL.q (q_mv (v := .lit (.string _)) rfl) rfl ?_
            obtain ⟨x12069, h12069, H⟩ := bnd H
            refine WPL.q (q_index_row sl38 rfl rfl rfl (ixs h12069)) rfl ?_
            refine WPL.s (s_store_row (j := (Int.toNat x12032)) (d := x12065) sz9 rfl rfl rfl rfl Joins.sc (ixl h12069)) ?_
            refine WPL.nilW ?_
            refine W.now ?_
            refine Then.n ?_
            refine WP.region ?_
            refine WPL.q (q_mv (v := .lit (.int _ _)) rfl) rfl ?_
            refine WPL.q (q_add rfl rfl) rfl ?_
            refine WPL.q (q_as (v := .lit (.int _ _)) rfl) rfl ?_
            refine WPL.nilW ?_
            refine W.cv (Cv.weak (E' := ((((Env.none.upd 0 (.whole 0)).upd 1 (.fn 34 [])).upd 5 (.lit (.int .i64 (IntKind.wrap .i64 (x12032 + 1))))).upd 6 (.lit (.int .i64 x12033)))) (M' := (Mem.nil.push (.row 9 Rd.str (List.set x12034 (Int.toNat x12032) x12065)))) [0] hnp ⟨rfl, ⟨trivial, .inr ⟨rfl, rfl, rfl⟩⟩, by decide, rfl, trivial⟩ (LeE.upd rfl rfl (LeE.upd rfl rfl (LeE.upd rfl rfl (LeE.upd rfl rfl (LeE.none rfl rfl)))))) rfl ?_
            refine W.now ?_
            refine InBlock.n ?_
            have q0 := (Prod.mk.inj (Option.some.inj H)).1
            have q1 := (Prod.mk.inj (Option.some.inj H)).2
            subst q0
            subst q1
            exact ⟨rfl, rfl, rfl⟩
          · replace H := cnf hb12067 H
            refine WP.skipW ?_
            refine W.cv (Cv.weak (E' := ((((Env.none.upd 0 (.whole 0)).upd 1 (.fn 34 [])).upd 5 (.lit (.int .i64 x12032))).upd 6 (.lit (.int .i64 x12033)))) (M' := (Mem.nil.push (.row 9 Rd.str x12034))) [0] hnp ⟨rfl, ⟨trivial, .inr ⟨rfl, rfl, rfl⟩⟩, by decide, rfl, trivial⟩ (LeE.upd rfl rfl (LeE.upd rfl rfl (LeE.upd rfl rfl (LeE.upd rfl rfl (LeE.none rfl rfl)))))) rfl ?_
            refine W.now ?_
            refine InBlock.n ?_
            have q0 := (Prod.mk.inj (Option.some.inj H)).1
            have q1 := (Prod.mk.inj (Option.some.inj H)).2
            subst q0
            subst q1
            exact ⟨rfl, rfl, rfl⟩
        · rintro _ _ _ ⟨rfl, rfl, rfl⟩
          refine W.now ?_
          refine Then.n ?_
          refine WP.region ?_
          refine WPL.q (q_mv (v := .lit (.int _ _)) rfl) rfl ?_
          refine WPL.q (q_add rfl rfl) rfl ?_
          refine WPL.q (q_as (v := .lit (.int _ _)) rfl) rfl ?_
          refine WPL.nilW ?_
          refine W.cv (Cv.weak (E' := ((((Env.none.upd 0 (.whole 0)).upd 1 (.fn 34 [])).upd 5 (.lit (.int .i64 x12063))).upd 6 (.lit (.int .i64 (IntKind.wrap .i64 (x12033 + 1)))))) (M' := (Mem.nil.push (.row 9 Rd.str x12064))) [0] hnp ⟨rfl, ⟨trivial, .inr ⟨rfl, rfl, rfl⟩⟩, by decide, rfl, trivial⟩ (LeE.upd rfl rfl (LeE.upd rfl rfl (LeE.upd rfl rfl (LeE.upd rfl rfl (LeE.none rfl rfl)))))) rfl ?_
          refine W.now ?_
          exact Then.n ⟨n, (x12063, (IntKind.wrap .i64 (x12033 + 1)), x12064), Nat.lt_succ_self n, H, rfl, rfl⟩
      · replace H := cnf hb12056 H
        refine WP.exitW ?_
        refine W.cv (Cv.weak (E' := ((Env.none.upd 0 (.whole 0)).upd 5 (.lit (.int .i64 x12032)))) (M' := (Mem.nil.push (.row 9 Rd.str x12034))) [0] hnp ⟨rfl, ⟨trivial, .inr ⟨rfl, rfl, rfl⟩⟩, by decide, rfl, trivial⟩ (LeE.upd rfl rfl (LeE.upd rfl rfl (LeE.none rfl rfl)))) rfl ?_
        refine W.now ?_
        refine Then.x ?_
        refine Then.x ?_
        have q0 := (Prod.mk.inj (Option.some.inj H)).1
        have q1 := (Prod.mk.inj (Option.some.inj H)).2
        subst q0
        subst q1
        exact ⟨rfl, rfl, rfl⟩
    · rintro _ _ _ ⟨rfl, rfl, rfl⟩
      refine W.now ?_
      refine InBlock.x0 ?_
      refine Then.n ?_
      refine WP.seq ?_
      refine WP.region ?_
      refine WPL.q (q_mv (v := .whole _) rfl) rfl ?_
      refine WPL.q (q_mv (v := .lit (.int _ _)) rfl) rfl ?_
      obtain ⟨h12071, H⟩ := grd H
      refine WPL.q (q_sliceTail sl38 rfl rfl rfl h12071) rfl ?_
      refine WPL.dN (d_clear (d := (ByteArray.mk #[])) (R := Rd.str) li38 rfl rfl rfl Joins.sc rfl rfl (tailLe h12071)) ?_
      refine WPL.nilW ?_
      refine W.now ?_
      refine Then.n ?_
      refine WP.seq ?_
      refine WP.region ?_
      refine WPL.q (q_mv (v := .whole _) rfl) rfl ?_
      refine WPL.q (q_mv (v := .lit (.int _ _)) rfl) rfl ?_
      obtain ⟨h12072, H⟩ := grd H
      refine WPL.d (d_cut sl38 rfl rfl rfl h12072 rfl) rfl ?_
      refine WPL.q (q_as (v := .whole _) rfl) rfl ?_
      refine WPL.nilW ?_
      refine W.now ?_
      refine Then.n ?_
      refine WP.retW ?_
      refine W.now ?_
      have q0 := (Option.some.inj H)
      subst q0
      exact ⟨trivial, _, rfl, [1], (.whole 0), (Mem.nil.push (.row 9 Rd.str (List.take (Int.toNat x12052) (List.take (Int.toNat x12052) x12053 ++ List.replicate (List.length x12053 - (Int.toNat x12052)) (ByteArray.mk #[]))))), ⟨rfl, ⟨trivial, .inr ⟨rfl, rfl, rfl⟩⟩, by decide, rfl, trivial⟩, rfl, rfl, rfl, rfl⟩
set_option maxRecDepth 100000 in
set_option maxHeartbeats 4000000 in
theorem s_strings_Builder_grow (k : Nat) (x12169 : Int) (H : g_strings_Builder_grow k x12169 = some ()) : Go.Q.Spec Tryd.prog 54 1 [.ptr 0 0, .lit (.int .i64 x12169)] (Mem.nil.push (.cells 50 [.ptr 0 0, .lit (.slice none 0 0)])) (fun o M => o = .ret (.tup []) ∧ M = ((Mem.nil.push (.cells 50 [.ptr 0 0, .whole 1])).push (.row 5 (Rd.int .u8) ([] : List Int)))) := by
  unfold g_strings_Builder_grow at H
  refine Go.Q.Spec.of_bodyR (rs := []) (nt := 30) Tryd.func54 rfl rfl (by intro t T h; simp at h) rfl rfl fun cx hnp => ?_
  refine WP.seq ?_
  refine WP.regionD' 16 [0] [] mixed rfl ?_
  refine WPD.takeT 0 rfl (by kernel_rfl) (q_mv (v := .ptr _ _) rfl) rfl ?_
  refine WPD.takeT 1 rfl (by kernel_rfl) (q_nilCheck rfl) rfl ?_
  refine WPD.takeT 2 rfl (by kernel_rfl) (q_fieldAddr fi50_1 rfl rfl) rfl ?_
  refine WPD.takeT 6 rfl (by kernel_rfl) (q_mv (v := .lit (.int _ _)) rfl) rfl ?_
  refine WPD.takeT 9 rfl (by kernel_rfl) (q_mv (v := .ptr _ _) rfl) rfl ?_
  refine WPD.takeT 10 rfl (by kernel_rfl) (q_nilCheck rfl) rfl ?_
  refine WPD.takeT 11 rfl (by kernel_rfl) (q_fieldAddr fi50_1 rfl rfl) rfl ?_
  refine WPD.take 3 rfl (by kernel_rfl) (q_load sc47 rfl rfl rfl) rfl rfl ?_
  refine WPD.takeT 4 rfl (by kernel_rfl) (q_cap_nil Tryd.underlying47 rfl) rfl ?_
  refine WPD.takeT 5 rfl (by kernel_rfl) (q_mul rfl rfl) rfl ?_
  obtain ⟨x12184, h12184, H⟩ := bnd H
  refine WPD.takeT 7 rfl (by kernel_rfl) (q_nm (q_add rfl rfl) (nm_int h12184)) rfl ?_
  refine WPD.take 12 rfl (by kernel_rfl) (q_load sc47 rfl rfl rfl) rfl rfl ?_
  refine WPD.takeT 13 rfl (by kernel_rfl) (q_len_nil sl47 rfl) rfl ?_
  obtain ⟨h12184, H⟩ := grd H
  refine WPD.eff 8 [0] [] rfl (by kernel_rfl) (Does.runs (d_makeNoZero ex59 Tryd.underlying47 rfl rfl h12184 rfl)) rfl rfl ?_
  obtain ⟨h12186, H⟩ := grd H
  refine WPD.eff 14 [0] [] rfl (by kernel_rfl) (Does.runs (d_cut sl47 rfl rfl rfl h12186 rfl)) rfl rfl ?_
  refine WPD.takeT 15 rfl (by kernel_rfl) (q_as (v := .whole _) rfl) rfl ?_
  refine WPD.doneW (by kernel_rfl) ?_
  refine W.now ?_
  refine Then.n ?_
  refine WP.seq ?_
  refine WP.region ?_
  refine WPL.q (q_mv (v := .whole _) rfl) rfl ?_
  refine WPL.q (q_mv (v := .ptr _ _) rfl) rfl ?_
  refine WPL.q (q_nilCheck rfl) rfl ?_
  refine WPL.q (q_fieldAddr fi50_1 rfl rfl) rfl ?_
  refine WPL.q (q_load sc47 rfl rfl rfl) rfl ?_
  obtain ⟨h12187, H⟩ := grd H
  refine WPL.d (d_copyAll sl47 rfl rfl rfl rfl (src_nil (R := (Rd.int .u8)) sl47 rfl) h12187) rfl ?_
  refine WPL.nilW ?_
  refine W.now ?_
  refine Then.n ?_
  refine WP.region ?_
  refine WPL.q (q_mv (v := .ptr _ _) rfl) rfl ?_
  refine WPL.q (q_mv (v := .whole _) rfl) rfl ?_
  refine WPL.q (q_nilCheck rfl) rfl ?_
  refine WPL.q (q_fieldAddr fi50_1 rfl rfl) rfl ?_
  refine WPL.s (s_store sz47 rfl rfl rfl rfl rfl) ?_
  refine WPL.nilW ?_
  refine W.now ?_
  exact ⟨trivial, _, rfl, [0, 2], (.tup []), ((Mem.nil.push (.cells 50 [.ptr 0 0, .whole 1])).push (.row 5 (Rd.int .u8) ([] : List Int))), ⟨rfl, ⟨⟨trivial, .inr ⟨rfl, rfl, rfl⟩⟩, .inr ⟨rfl, rfl, rfl⟩⟩, by decide, rfl, ⟨trivial, rfl⟩⟩, rfl, rfl, rfl, rfl⟩
end Go.Proofs.YtnbjdgamindikaaDoor.W
