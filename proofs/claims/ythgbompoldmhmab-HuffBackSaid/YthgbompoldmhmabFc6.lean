/- Walks: Fc6 -/
import Derived.Test.YthgbompoldmhmabFb
import Derived.Test.YthgbompoldmhmabFc0
import Derived.Test.YthgbompoldmhmabFc4
import Derived.Test.YthgbompoldmhmabFc5
namespace Go.Proofs.Ythgbompoldmhmab.W
open Go Go.Q Go.Proofs
set_option linter.unusedVariables false
set_option linter.unusedSimpArgs false
set_option maxRecDepth 100000 in
set_option maxHeartbeats 4000000 in
theorem s_huff_Decoder_Next__b (k : Nat) (x6740 : (List Int)) (x6741 : (List Int)) (x6742 : Int) (x6743 : (List Int)) (x6971 : Int) (x6972 : Int) (x6973 : (List Int)) (x6974 : Int) (H : g_huff_Decoder_Next__b k x6740 x6741 x6742 x6743 = some (x6971, x6972, x6973, x6974)) : Go.Q.Spec Try.prog 12 2 [.ptr 0 0, .ptr 1 0] (((Mem.nil.push (.cells 52 [.lit (.int .i64 (List.getD x6740 0 (0 : Int))), .lit (.int .i64 (List.getD x6740 1 (0 : Int))), .lit (.int .i64 (List.getD x6740 2 (0 : Int))), .lit (.int .i64 (List.getD x6740 3 (0 : Int))), .lit (.int .i64 (List.getD x6740 4 (0 : Int))), .lit (.int .i64 (List.getD x6740 5 (0 : Int))), .lit (.int .i64 (List.getD x6740 6 (0 : Int))), .lit (.int .i64 (List.getD x6740 7 (0 : Int))), .lit (.int .i64 (List.getD x6740 8 (0 : Int))), .lit (.int .i64 (List.getD x6740 9 (0 : Int))), .lit (.int .i64 (List.getD x6740 10 (0 : Int))), .lit (.int .i64 (List.getD x6740 11 (0 : Int))), .lit (.int .i64 (List.getD x6740 12 (0 : Int))), .lit (.int .i64 (List.getD x6740 13 (0 : Int))), .lit (.int .i64 (List.getD x6740 14 (0 : Int))), .lit (.int .i64 (List.getD x6740 15 (0 : Int))), .whole 2])).push (.cells 64 [.ro (Rd.slice (Rd.int .u8)) false x6741, .lit (.int .i64 x6742)])).push (.row 3 (Rd.int .i64) x6743)) (fun o M => o = .ret (.tup [.lit (.int .i64 x6971), .lit (.int .i64 x6972)]) ∧ M = (((Mem.nil.push (.cells 52 [.lit (.int .i64 (List.getD x6740 0 (0 : Int))), .lit (.int .i64 (List.getD x6740 1 (0 : Int))), .lit (.int .i64 (List.getD x6740 2 (0 : Int))), .lit (.int .i64 (List.getD x6740 3 (0 : Int))), .lit (.int .i64 (List.getD x6740 4 (0 : Int))), .lit (.int .i64 (List.getD x6740 5 (0 : Int))), .lit (.int .i64 (List.getD x6740 6 (0 : Int))), .lit (.int .i64 (List.getD x6740 7 (0 : Int))), .lit (.int .i64 (List.getD x6740 8 (0 : Int))), .lit (.int .i64 (List.getD x6740 9 (0 : Int))), .lit (.int .i64 (List.getD x6740 10 (0 : Int))), .lit (.int .i64 (List.getD x6740 11 (0 : Int))), .lit (.int .i64 (List.getD x6740 12 (0 : Int))), .lit (.int .i64 (List.getD x6740 13 (0 : Int))), .lit (.int .i64 (List.getD x6740 14 (0 : Int))), .lit (.int .i64 (List.getD x6740 15 (0 : Int))), .whole 2])).push (.cells 64 [.ro (Rd.slice (Rd.int .u8)) false x6973, .lit (.int .i64 x6974)])).push (.row 3 (Rd.int .i64) x6743))) := by
  unfold g_huff_Decoder_Next__b at H
  refine Go.Q.Spec.of_bodyR (rs := [.tmp 4, .tmp 5]) (nt := 98) Try.func12 rfl rfl (by intro t T h; simp at h) rfl rfl fun cx hnp => ?_
  refine WP.seq ?_
  refine WP.region ?_
  refine WPL.q (q_as (v := .lit (.int _ _)) rfl) rfl ?_
  refine WPL.q (q_as (v := .lit (.int _ _)) rfl) rfl ?_
  refine WPL.nilW ?_
  refine W.now ?_
  refine Then.n ?_
  refine WP.scope ?_
  refine WP.seq ?_
  refine WP.seq ?_
  refine WP.region ?_
  refine WPL.q (q_mv (v := .ptr _ _) rfl) rfl ?_
  refine WPL.q (q_eqlp Try.underlying27 rfl) rfl ?_
  refine WPL.q (q_mv (v := .lit (.bool _)) rfl) rfl ?_
  refine WPL.qg rfl rfl rfl (q_mv (v := .ptr _ _) rfl) rfl ?_
  refine WPL.qg rfl rfl rfl (q_eqlp Try.underlying36 rfl) rfl ?_
  refine WPL.q (q_pickF (v := .lit (.bool _)) rfl rfl) rfl ?_
  refine WPL.nilW ?_
  refine W.now ?_
  refine Then.n ?_
  refine WP.condF rfl ?_
  refine WP.skipW ?_
  refine W.now ?_
  refine Then.n ?_
  refine WP.seq ?_
  refine WP.region ?_
  refine WPL.q (q_mv (v := .ptr _ _) rfl) rfl ?_
  refine WPL.q (q_nilCheck rfl) rfl ?_
  refine WPL.q (q_load_ag ag64 rfl rfl (Nat.le_of_ble_eq_true rfl)) rfl ?_
  refine WPL.d (d_alloc ze64 rfl) rfl ?_
  refine WPL.s (s_store sz64 rfl rfl rfl rfl rfl) ?_
  refine WPL.nilW ?_
  refine W.now ?_
  refine Then.n ?_
  refine WP.seq ?_
  refine WP.region ?_
  refine WPL.q (q_as (v := .lit (.int _ _)) rfl) rfl ?_
  refine WPL.q (q_as (v := .lit (.int _ _)) rfl) rfl ?_
  refine WPL.q (q_as (v := .lit (.int _ _)) rfl) rfl ?_
  refine WPL.nilW ?_
  refine W.now ?_
  refine Then.n ?_
  refine WP.seq ?_
  refine WP.region ?_
  refine WPL.q (q_as (v := .lit (.int _ _)) rfl) rfl ?_
  refine WPL.nilW ?_
  refine W.now ?_
  refine Then.n ?_
  refine WP.seq ?_
  refine WP.labelW ?_
  refine W.now ?_
  refine Then.n ?_
  refine WP.seq ?_
  refine WP.seq ?_
  refine WP.region ?_
  refine WPL.q (q_as (v := .lit (.int _ _)) rfl) rfl ?_
  refine WPL.nilW ?_
  refine W.now ?_
  refine Then.n ?_
  refine WP.block ?_
  refine WP.cv (Cv.weak (E' := ((((((((Env.none.upd 0 (.ptr 0 0)).upd 1 (.ptr 1 0)).upd 6 (.ptr 3 0)).upd 7 (.lit (.int .i64 0))).upd 8 (.lit (.int .i64 0))).upd 9 (.lit (.int .i64 0))).upd 10 (.lit (.int .i64 11))).upd 11 (.lit (.int .i64 1)))) (M' := ((((Mem.nil.push (.cells 52 [.lit (.int .i64 (List.getD x6740 0 (0 : Int))), .lit (.int .i64 (List.getD x6740 1 (0 : Int))), .lit (.int .i64 (List.getD x6740 2 (0 : Int))), .lit (.int .i64 (List.getD x6740 3 (0 : Int))), .lit (.int .i64 (List.getD x6740 4 (0 : Int))), .lit (.int .i64 (List.getD x6740 5 (0 : Int))), .lit (.int .i64 (List.getD x6740 6 (0 : Int))), .lit (.int .i64 (List.getD x6740 7 (0 : Int))), .lit (.int .i64 (List.getD x6740 8 (0 : Int))), .lit (.int .i64 (List.getD x6740 9 (0 : Int))), .lit (.int .i64 (List.getD x6740 10 (0 : Int))), .lit (.int .i64 (List.getD x6740 11 (0 : Int))), .lit (.int .i64 (List.getD x6740 12 (0 : Int))), .lit (.int .i64 (List.getD x6740 13 (0 : Int))), .lit (.int .i64 (List.getD x6740 14 (0 : Int))), .lit (.int .i64 (List.getD x6740 15 (0 : Int))), .whole 2])).push (.cells 64 [.ro (Rd.slice (Rd.int .u8)) false x6741, .lit (.int .i64 x6742)])).push (.row 3 (Rd.int .i64) x6743)).push (.cells 64 [.ro (Rd.slice (Rd.int .u8)) false x6741, .lit (.int .i64 x6742)]))) [0, 1, 2, 3] hnp ⟨rfl, ⟨⟨⟨⟨trivial, .inr ⟨rfl, rfl, rfl⟩⟩, .inr ⟨rfl, rfl, rfl⟩⟩, .inr ⟨rfl, rfl, rfl⟩⟩, .inr ⟨rfl, rfl, rfl⟩⟩, by decide, rfl, ⟨⟨trivial, rfl⟩, rfl⟩⟩ (LeE.upd rfl rfl (LeE.upd rfl rfl (LeE.upd rfl rfl (LeE.upd rfl rfl (LeE.upd rfl rfl (LeE.upd rfl rfl (LeE.upd rfl rfl (LeE.upd rfl rfl (LeE.none rfl rfl)))))))))) ?_
  obtain ⟨y7112, H7110, H⟩ := bnd H
  refine WP.monoW (Q := fun x E M => match (generalizing := false) y7112 with | (Sum.inl (x7061, x7062, x7063)) => x = .exit 0 ∧ E = (((Env.none.upd 1 (.ptr 1 0)).upd 6 (.ptr 3 0)).upd 10 (.lit (.int .i64 x7061))) ∧ M = ((((Mem.nil.push (.cells 52 [.lit (.int .i64 (List.getD x6740 0 (0 : Int))), .lit (.int .i64 (List.getD x6740 1 (0 : Int))), .lit (.int .i64 (List.getD x6740 2 (0 : Int))), .lit (.int .i64 (List.getD x6740 3 (0 : Int))), .lit (.int .i64 (List.getD x6740 4 (0 : Int))), .lit (.int .i64 (List.getD x6740 5 (0 : Int))), .lit (.int .i64 (List.getD x6740 6 (0 : Int))), .lit (.int .i64 (List.getD x6740 7 (0 : Int))), .lit (.int .i64 (List.getD x6740 8 (0 : Int))), .lit (.int .i64 (List.getD x6740 9 (0 : Int))), .lit (.int .i64 (List.getD x6740 10 (0 : Int))), .lit (.int .i64 (List.getD x6740 11 (0 : Int))), .lit (.int .i64 (List.getD x6740 12 (0 : Int))), .lit (.int .i64 (List.getD x6740 13 (0 : Int))), .lit (.int .i64 (List.getD x6740 14 (0 : Int))), .lit (.int .i64 (List.getD x6740 15 (0 : Int))), .whole 2])).push (.cells 64 [.ro (Rd.slice (Rd.int .u8)) false x7062, .lit (.int .i64 x7063)])).push (.row 3 (Rd.int .i64) x6743)).push (.cells 64 [.ro (Rd.slice (Rd.int .u8)) false x6741, .lit (.int .i64 x6742)])) | (Sum.inr (x7064, x7065, x7066)) => x = .ret ∧ E = ((Env.none.upd 4 (.lit (.int .i64 x7064))).upd 5 (.lit (.int .i64 0))) ∧ M = (((Mem.nil.push (.cells 52 [.lit (.int .i64 (List.getD x6740 0 (0 : Int))), .lit (.int .i64 (List.getD x6740 1 (0 : Int))), .lit (.int .i64 (List.getD x6740 2 (0 : Int))), .lit (.int .i64 (List.getD x6740 3 (0 : Int))), .lit (.int .i64 (List.getD x6740 4 (0 : Int))), .lit (.int .i64 (List.getD x6740 5 (0 : Int))), .lit (.int .i64 (List.getD x6740 6 (0 : Int))), .lit (.int .i64 (List.getD x6740 7 (0 : Int))), .lit (.int .i64 (List.getD x6740 8 (0 : Int))), .lit (.int .i64 (List.getD x6740 9 (0 : Int))), .lit (.int .i64 (List.getD x6740 10 (0 : Int))), .lit (.int .i64 (List.getD x6740 11 (0 : Int))), .lit (.int .i64 (List.getD x6740 12 (0 : Int))), .lit (.int .i64 (List.getD x6740 13 (0 : Int))), .lit (.int .i64 (List.getD x6740 14 (0 : Int))), .lit (.int .i64 (List.getD x6740 15 (0 : Int))), .whole 2])).push (.cells 64 [.ro (Rd.slice (Rd.int .u8)) false x7065, .lit (.int .i64 x7066)])).push (.row 3 (Rd.int .i64) x6743))) ?_ ?_
  · refine WP.loop (β := Int × Int × Int × Int × (List Int) × Int) (fun n b => g_huff_Decoder_Next__b_l0 k x6740 x6743 n b.1 b.2.1 b.2.2.1 b.2.2.2.1 b.2.2.2.2.1 b.2.2.2.2.2 = some y7112) (fun b => ((((((((Env.none.upd 0 (.ptr 0 0)).upd 1 (.ptr 1 0)).upd 6 (.ptr 3 0)).upd 7 (.lit (.int .i64 b.1))).upd 8 (.lit (.int .i64 b.2.1))).upd 9 (.lit (.int .i64 b.2.2.1))).upd 10 (.lit (.int .i64 11))).upd 11 (.lit (.int .i64 b.2.2.2.1)))) (fun b => ((((Mem.nil.push (.cells 52 [.lit (.int .i64 (List.getD x6740 0 (0 : Int))), .lit (.int .i64 (List.getD x6740 1 (0 : Int))), .lit (.int .i64 (List.getD x6740 2 (0 : Int))), .lit (.int .i64 (List.getD x6740 3 (0 : Int))), .lit (.int .i64 (List.getD x6740 4 (0 : Int))), .lit (.int .i64 (List.getD x6740 5 (0 : Int))), .lit (.int .i64 (List.getD x6740 6 (0 : Int))), .lit (.int .i64 (List.getD x6740 7 (0 : Int))), .lit (.int .i64 (List.getD x6740 8 (0 : Int))), .lit (.int .i64 (List.getD x6740 9 (0 : Int))), .lit (.int .i64 (List.getD x6740 10 (0 : Int))), .lit (.int .i64 (List.getD x6740 11 (0 : Int))), .lit (.int .i64 (List.getD x6740 12 (0 : Int))), .lit (.int .i64 (List.getD x6740 13 (0 : Int))), .lit (.int .i64 (List.getD x6740 14 (0 : Int))), .lit (.int .i64 (List.getD x6740 15 (0 : Int))), .whole 2])).push (.cells 64 [.ro (Rd.slice (Rd.int .u8)) false b.2.2.2.2.1, .lit (.int .i64 b.2.2.2.2.2)])).push (.row 3 (Rd.int .i64) x6743)).push (.cells 64 [.ro (Rd.slice (Rd.int .u8)) false x6741, .lit (.int .i64 x6742)]))) k (0, 0, 0, 1, x6741, x6742) H7110 rfl rfl ?_
    rintro n ⟨x7011, x7012, x7013, x7014, x7015, x7016⟩ H
    obtain _ | n := n
    · exact nf rfl H
    rw [g_huff_Decoder_Next__b_l0.eq_2] at H
    show WP _ _ _ _ ((((((((Env.none.upd 0 (.ptr 0 0)).upd 1 (.ptr 1 0)).upd 6 (.ptr 3 0)).upd 7 (.lit (.int .i64 x7011))).upd 8 (.lit (.int .i64 x7012))).upd 9 (.lit (.int .i64 x7013))).upd 10 (.lit (.int .i64 11))).upd 11 (.lit (.int .i64 x7014))) ((((Mem.nil.push (.cells 52 [.lit (.int .i64 (List.getD x6740 0 (0 : Int))), .lit (.int .i64 (List.getD x6740 1 (0 : Int))), .lit (.int .i64 (List.getD x6740 2 (0 : Int))), .lit (.int .i64 (List.getD x6740 3 (0 : Int))), .lit (.int .i64 (List.getD x6740 4 (0 : Int))), .lit (.int .i64 (List.getD x6740 5 (0 : Int))), .lit (.int .i64 (List.getD x6740 6 (0 : Int))), .lit (.int .i64 (List.getD x6740 7 (0 : Int))), .lit (.int .i64 (List.getD x6740 8 (0 : Int))), .lit (.int .i64 (List.getD x6740 9 (0 : Int))), .lit (.int .i64 (List.getD x6740 10 (0 : Int))), .lit (.int .i64 (List.getD x6740 11 (0 : Int))), .lit (.int .i64 (List.getD x6740 12 (0 : Int))), .lit (.int .i64 (List.getD x6740 13 (0 : Int))), .lit (.int .i64 (List.getD x6740 14 (0 : Int))), .lit (.int .i64 (List.getD x6740 15 (0 : Int))), .whole 2])).push (.cells 64 [.ro (Rd.slice (Rd.int .u8)) false x7015, .lit (.int .i64 x7016)])).push (.row 3 (Rd.int .i64) x6743)).push (.cells 64 [.ro (Rd.slice (Rd.int .u8)) false x6741, .lit (.int .i64 x6742)])) _
    refine WP.seq ?_
    refine WP.seq ?_
    refine WP.region ?_
    refine WPL.q (q_mv (v := .lit (.int _ _)) rfl) rfl ?_
    refine WPL.q (q_leq rfl rfl) rfl ?_
    refine WPL.nilW ?_
    refine W.now ?_
    refine Then.n ?_
    refine WP.cond (t := (decide (x7014 ≤ 15))) rfl (fun hb => ?_) (fun hb => ?_)
    · replace H := cnt hb H
      refine WP.skipW ?_
      refine W.now ?_
      refine Then.n ?_
      refine WP.seq ?_
      refine WP.block ?_
      refine WP.seq ?_
      refine WP.seq ?_
      refine WP.region ?_
      refine WPL.q (q_mv (v := .lit (.int _ _)) rfl) rfl ?_
      refine WPL.q (q_mv (v := .ptr _ _) rfl) rfl ?_
      refine WPL.q (q_nilCheck rfl) rfl ?_
      refine WPL.q (q_fieldAddr fi52_1 rfl rfl) rfl ?_
      refine WPL.q (q_load sc22 rfl rfl rfl) rfl ?_
      refine WPL.q (q_len_row sl22 rfl rfl) rfl ?_
      obtain ⟨x7090, h7090, H⟩ := bnd H
      refine WPL.q (q_nm (q_eql rfl rfl) (nm_bool h7090)) rfl ?_
      refine WPL.nilW ?_
      refine W.now ?_
      refine Then.n ?_
      refine WP.cond (t := x7090) rfl (fun hb => ?_) (fun hb => ?_)
      · replace H := cnt hb H
        refine WP.exitW ?_
        refine W.cv (Cv.weak (E' := (((Env.none.upd 1 (.ptr 1 0)).upd 6 (.ptr 3 0)).upd 10 (.lit (.int .i64 11)))) (M' := ((((Mem.nil.push (.cells 52 [.lit (.int .i64 (List.getD x6740 0 (0 : Int))), .lit (.int .i64 (List.getD x6740 1 (0 : Int))), .lit (.int .i64 (List.getD x6740 2 (0 : Int))), .lit (.int .i64 (List.getD x6740 3 (0 : Int))), .lit (.int .i64 (List.getD x6740 4 (0 : Int))), .lit (.int .i64 (List.getD x6740 5 (0 : Int))), .lit (.int .i64 (List.getD x6740 6 (0 : Int))), .lit (.int .i64 (List.getD x6740 7 (0 : Int))), .lit (.int .i64 (List.getD x6740 8 (0 : Int))), .lit (.int .i64 (List.getD x6740 9 (0 : Int))), .lit (.int .i64 (List.getD x6740 10 (0 : Int))), .lit (.int .i64 (List.getD x6740 11 (0 : Int))), .lit (.int .i64 (List.getD x6740 12 (0 : Int))), .lit (.int .i64 (List.getD x6740 13 (0 : Int))), .lit (.int .i64 (List.getD x6740 14 (0 : Int))), .lit (.int .i64 (List.getD x6740 15 (0 : Int))), .whole 2])).push (.cells 64 [.ro (Rd.slice (Rd.int .u8)) false x7015, .lit (.int .i64 x7016)])).push (.row 3 (Rd.int .i64) x6743)).push (.cells 64 [.ro (Rd.slice (Rd.int .u8)) false x6741, .lit (.int .i64 x6742)]))) [0, 1, 2, 3] hnp ⟨rfl, ⟨⟨⟨⟨trivial, .inr ⟨rfl, rfl, rfl⟩⟩, .inr ⟨rfl, rfl, rfl⟩⟩, .inr ⟨rfl, rfl, rfl⟩⟩, .inr ⟨rfl, rfl, rfl⟩⟩, by decide, rfl, ⟨⟨trivial, rfl⟩, rfl⟩⟩ (LeE.upd rfl rfl (LeE.upd rfl rfl (LeE.upd rfl rfl (LeE.none rfl rfl))))) rfl ?_
        refine W.now ?_
        refine Then.x ?_
        refine InBlock.x rfl ?_
        refine Then.x ?_
        refine Then.x ?_
        have q0 := Option.some.inj H
        subst q0
        exact ⟨rfl, rfl, rfl⟩
      · replace H := cnf hb H
        refine WP.skipW ?_
        refine W.now ?_
        refine Then.n ?_
        refine WP.seq ?_
        refine WP.region ?_
        refine WPL.q (q_mv (v := .ptr _ _) rfl) rfl ?_
        obtain ⟨⟨x7092, x7093, x7094, x7095⟩, h7090, H⟩ := bnd H
        refine WPL.c (runs_call (s := [1]) (t := [1]) (N := 4) (bor := []) fn20 rfl (s_bits_Reader_Take k 1 x7015 x7016 x7092 x7093 x7094 x7095 h7090) ⟨rfl, ⟨trivial, .inr ⟨rfl, rfl, rfl⟩⟩, by decide, rfl, trivial⟩ rfl trivial (.ren rfl rfl (.ren rfl rfl .nil)) rfl ⟨trivial, rfl⟩ rfl) rfl ?_
        refine WPL.q (q_mv (v := .tup _) rfl) rfl ?_
        refine WPL.q (q_extract rfl rfl) rfl ?_
        refine WPL.q (q_extract rfl rfl) rfl ?_
        refine WPL.q (q_as (v := .lit (.int _ _)) rfl) rfl ?_
        refine WPL.q (q_as (v := .lit (.int _ _)) rfl) rfl ?_
        refine WPL.nilW ?_
        refine W.now ?_
        refine Then.n ?_
        refine WP.seq ?_
        refine WP.seq ?_
        refine WP.region ?_
        refine WPL.q (q_mv (v := .lit (.int _ _)) rfl) rfl ?_
        refine WPL.q (q_neq rfl rfl) rfl ?_
        refine WPL.nilW ?_
        refine W.now ?_
        refine Then.n ?_
        refine WP.cond (t := (!decide (x7093 = 0))) rfl (fun hb => ?_) (fun hb => ?_)
        · replace H := cnt hb H
          refine WP.seq ?_
          refine WP.region ?_
          refine WPL.q (q_mv (v := .lit (.int _ _)) rfl) rfl ?_
          refine WPL.q (q_as (v := .lit (.int _ _)) rfl) rfl ?_
          refine WPL.nilW ?_
          refine W.now ?_
          refine Then.n ?_
          refine WP.exitW ?_
          refine W.cv (Cv.weak (E' := (((Env.none.upd 1 (.ptr 1 0)).upd 6 (.ptr 3 0)).upd 10 (.lit (.int .i64 x7093)))) (M' := ((((Mem.nil.push (.cells 52 [.lit (.int .i64 (List.getD x6740 0 (0 : Int))), .lit (.int .i64 (List.getD x6740 1 (0 : Int))), .lit (.int .i64 (List.getD x6740 2 (0 : Int))), .lit (.int .i64 (List.getD x6740 3 (0 : Int))), .lit (.int .i64 (List.getD x6740 4 (0 : Int))), .lit (.int .i64 (List.getD x6740 5 (0 : Int))), .lit (.int .i64 (List.getD x6740 6 (0 : Int))), .lit (.int .i64 (List.getD x6740 7 (0 : Int))), .lit (.int .i64 (List.getD x6740 8 (0 : Int))), .lit (.int .i64 (List.getD x6740 9 (0 : Int))), .lit (.int .i64 (List.getD x6740 10 (0 : Int))), .lit (.int .i64 (List.getD x6740 11 (0 : Int))), .lit (.int .i64 (List.getD x6740 12 (0 : Int))), .lit (.int .i64 (List.getD x6740 13 (0 : Int))), .lit (.int .i64 (List.getD x6740 14 (0 : Int))), .lit (.int .i64 (List.getD x6740 15 (0 : Int))), .whole 2])).push (.cells 64 [.ro (Rd.slice (Rd.int .u8)) false x7094, .lit (.int .i64 x7095)])).push (.row 3 (Rd.int .i64) x6743)).push (.cells 64 [.ro (Rd.slice (Rd.int .u8)) false x6741, .lit (.int .i64 x6742)]))) [0, 1, 2, 3] hnp ⟨rfl, ⟨⟨⟨⟨trivial, .inr ⟨rfl, rfl, rfl⟩⟩, .inr ⟨rfl, rfl, rfl⟩⟩, .inr ⟨rfl, rfl, rfl⟩⟩, .inr ⟨rfl, rfl, rfl⟩⟩, by decide, rfl, ⟨⟨trivial, rfl⟩, rfl⟩⟩ (LeE.upd rfl rfl (LeE.upd rfl rfl (LeE.upd rfl rfl (LeE.none rfl rfl))))) rfl ?_
          refine W.now ?_
          refine Then.x ?_
          refine InBlock.x rfl ?_
          refine Then.x ?_
          refine Then.x ?_
          have q0 := Option.some.inj H
          subst q0
          exact ⟨rfl, rfl, rfl⟩
        · replace H := cnf hb H
          refine WP.skipW ?_
          refine W.now ?_
          refine Then.n ?_
          refine WP.seq ?_
          refine WP.region ?_
          refine WPL.q (q_mv (v := .lit (.int _ _)) rfl) rfl ?_
          refine WPL.q (q_shl rfl rfl rfl) rfl ?_
          refine WPL.q (q_mv (v := .lit (.int _ _)) rfl) rfl ?_
          refine WPL.q (q_conv Try.underlying34 Try.underlying3 rfl) rfl ?_
          obtain ⟨x7096, h7096, H⟩ := bnd H
          refine WPL.q (q_nm (q_or rfl rfl) (nm_int h7096)) rfl ?_
          refine WPL.q (q_as (v := .lit (.int _ _)) rfl) rfl ?_
          refine WPL.nilW ?_
          refine W.now ?_
          refine Then.n ?_
          refine WP.seq ?_
          refine WP.region ?_
          refine WPL.q (q_mv (v := .lit (.int _ _)) rfl) rfl ?_
          refine WPL.q (q_shl rfl rfl rfl) rfl ?_
          refine WPL.q (q_as (v := .lit (.int _ _)) rfl) rfl ?_
          refine WPL.nilW ?_
          refine W.now ?_
          refine Then.n ?_
          refine WP.seq ?_
          refine WP.seq ?_
          refine WP.region ?_
          refine WPL.q (q_mv (v := .lit (.int _ _)) rfl) rfl ?_
          refine WPL.q (q_mv (v := .lit (.int _ _)) rfl) rfl ?_
          obtain ⟨x7101, h7101, H⟩ := bnd H
          refine WPL.q (q_nm (q_sub rfl rfl) (nm_int h7101)) rfl ?_
          refine WPL.q (q_as (v := .lit (.int _ _)) rfl) rfl ?_
          refine WPL.nilW ?_
          refine W.now ?_
          refine Then.n ?_
          refine WP.seq ?_
          refine WP.region ?_
          refine WPL.q (q_mv (v := .lit (.int _ _)) rfl) rfl ?_
          refine WPL.q (q_mv (v := .ptr _ _) rfl) rfl ?_
          refine WPL.q (q_mv (v := .lit (.int _ _)) rfl) rfl ?_
          refine WPL.q (q_nilCheck rfl) rfl ?_
          refine WPL.q (q_fieldAddr fi52_0 rfl rfl) rfl ?_
          obtain ⟨h7101, H⟩ := grd H
          refine WPL.q (q_indexArr ar50 rfl rfl h7101 rfl) rfl ?_
          refine WPL.q (q_load_arr (f := (fun z : Int => AVal.lit (.int .i64 z))) (d0 := (0 : Int)) (xs := x6740) (n := 16) (off := 0) (j := (Int.toNat x7014)) sc3 rfl rfl rfl (natlt h7101) (addone _ _)) rfl ?_
          obtain ⟨x7103, h7103, H⟩ := bnd H
          refine WPL.q (q_nm (q_lss rfl rfl) (nm_bool h7103)) rfl ?_
          refine WPL.nilW ?_
          refine W.now ?_
          refine Then.n ?_
          refine WP.cond (t := x7103) rfl (fun hb => ?_) (fun hb => ?_)
          · replace H := cnt hb H
            refine WP.seq ?_
            refine WP.region ?_
            refine WPL.q (q_mv (v := .ptr _ _) rfl) rfl ?_
            refine WPL.q (q_nilCheck rfl) rfl ?_
            refine WPL.q (q_fieldAddr fi52_1 rfl rfl) rfl ?_
            refine WPL.q (q_load sc22 rfl rfl rfl) rfl ?_
            refine WPL.q (q_mv (v := .lit (.int _ _)) rfl) rfl ?_
            refine WPL.q (q_mv (v := .lit (.int _ _)) rfl) rfl ?_
            refine WPL.q (q_add rfl rfl) rfl ?_
            obtain ⟨x7104, h7104, H⟩ := bnd H
            refine WPL.q (q_index_row sl22 rfl rfl rfl (ixs h7104)) rfl ?_
            refine WPL.q (q_load_row (j := (Int.toNat (IntKind.wrap .i64 (x7013 + x7101)))) sc3 rfl rfl (ixj h7104)) rfl ?_
            refine WPL.q (q_as (v := .lit (.int _ _)) rfl) rfl ?_
            refine WPL.q (q_as (v := .lit (.int _ _)) rfl) rfl ?_
            refine WPL.nilW ?_
            refine W.now ?_
            refine Then.n ?_
            refine WP.retW ?_
            refine W.cv (Cv.weak (E' := ((Env.none.upd 4 (.lit (.int .i64 x7104))).upd 5 (.lit (.int .i64 0)))) (M' := (((Mem.nil.push (.cells 52 [.lit (.int .i64 (List.getD x6740 0 (0 : Int))), .lit (.int .i64 (List.getD x6740 1 (0 : Int))), .lit (.int .i64 (List.getD x6740 2 (0 : Int))), .lit (.int .i64 (List.getD x6740 3 (0 : Int))), .lit (.int .i64 (List.getD x6740 4 (0 : Int))), .lit (.int .i64 (List.getD x6740 5 (0 : Int))), .lit (.int .i64 (List.getD x6740 6 (0 : Int))), .lit (.int .i64 (List.getD x6740 7 (0 : Int))), .lit (.int .i64 (List.getD x6740 8 (0 : Int))), .lit (.int .i64 (List.getD x6740 9 (0 : Int))), .lit (.int .i64 (List.getD x6740 10 (0 : Int))), .lit (.int .i64 (List.getD x6740 11 (0 : Int))), .lit (.int .i64 (List.getD x6740 12 (0 : Int))), .lit (.int .i64 (List.getD x6740 13 (0 : Int))), .lit (.int .i64 (List.getD x6740 14 (0 : Int))), .lit (.int .i64 (List.getD x6740 15 (0 : Int))), .whole 2])).push (.cells 64 [.ro (Rd.slice (Rd.int .u8)) false x7094, .lit (.int .i64 x7095)])).push (.row 3 (Rd.int .i64) x6743))) [0, 1, 2] hnp ⟨rfl, ⟨⟨⟨trivial, .inr ⟨rfl, rfl, rfl⟩⟩, .inr ⟨rfl, rfl, rfl⟩⟩, .inr ⟨rfl, rfl, rfl⟩⟩, by decide, rfl, ⟨⟨trivial, rfl⟩, rfl⟩⟩ (LeE.upd rfl rfl (LeE.upd rfl rfl (LeE.none rfl rfl)))) rfl ?_
            refine W.now ?_
            refine Then.r ?_
            refine InBlock.r ?_
            refine Then.r ?_
            refine Then.r ?_
            have q0 := Option.some.inj H
            subst q0
            exact ⟨rfl, rfl, rfl⟩
          · replace H := cnf hb H
            refine WP.skipW ?_
            refine W.now ?_
            refine Then.n ?_
            refine WP.seq ?_
            refine WP.region ?_
            refine WPL.q (q_mv (v := .lit (.int _ _)) rfl) rfl ?_
            refine WPL.q (q_mv (v := .ptr _ _) rfl) rfl ?_
            refine WPL.q (q_mv (v := .lit (.int _ _)) rfl) rfl ?_
            refine WPL.q (q_nilCheck rfl) rfl ?_
            refine WPL.q (q_fieldAddr fi52_0 rfl rfl) rfl ?_
            obtain ⟨h7104, H⟩ := grd H
            refine WPL.q (q_indexArr ar50 rfl rfl h7104 rfl) rfl ?_
            refine WPL.q (q_load_arr (f := (fun z : Int => AVal.lit (.int .i64 z))) (d0 := (0 : Int)) (xs := x6740) (n := 16) (off := 0) (j := (Int.toNat x7014)) sc3 rfl rfl rfl (natlt h7104) (addone _ _)) rfl ?_
            obtain ⟨x7106, h7106, H⟩ := bnd H
            refine WPL.q (q_nm (q_add rfl rfl) (nm_int h7106)) rfl ?_
            refine WPL.q (q_as (v := .lit (.int _ _)) rfl) rfl ?_
            refine WPL.nilW ?_
            refine W.now ?_
            refine Then.n ?_
            refine WP.seq ?_
            refine WP.region ?_
            refine WPL.q (q_mv (v := .lit (.int _ _)) rfl) rfl ?_
            refine WPL.q (q_mv (v := .ptr _ _) rfl) rfl ?_
            refine WPL.q (q_mv (v := .lit (.int _ _)) rfl) rfl ?_
            refine WPL.q (q_nilCheck rfl) rfl ?_
            refine WPL.q (q_fieldAddr fi52_0 rfl rfl) rfl ?_
            obtain ⟨h7106, H⟩ := grd H
            refine WPL.q (q_indexArr ar50 rfl rfl h7106 rfl) rfl ?_
            refine WPL.q (q_load_arr (f := (fun z : Int => AVal.lit (.int .i64 z))) (d0 := (0 : Int)) (xs := x6740) (n := 16) (off := 0) (j := (Int.toNat x7014)) sc3 rfl rfl rfl (natlt h7106) (addone _ _)) rfl ?_
            obtain ⟨x7108, h7108, H⟩ := bnd H
            refine WPL.q (q_nm (q_add rfl rfl) (nm_int h7108)) rfl ?_
            refine WPL.q (q_as (v := .lit (.int _ _)) rfl) rfl ?_
            refine WPL.nilW ?_
            refine W.now ?_
            refine Then.n ?_
            refine WP.seq ?_
            refine WP.region ?_
            refine WPL.q (q_mv (v := .ptr _ _) rfl) rfl ?_
            refine WPL.q (q_mv (v := .lit (.int _ _)) rfl) rfl ?_
            refine WPL.q (q_mv (v := .lit (.int _ _)) rfl) rfl ?_
            refine WPL.q (q_sub rfl rfl) rfl ?_
            refine WPL.q (q_mv (v := .lit (.int _ _)) rfl) rfl ?_
            refine WPL.q (q_add rfl rfl) rfl ?_
            obtain ⟨x7110, h7108, H⟩ := bnd H
            refine WPL.c (runs_call (s := [0, 2]) (t := [0, 4]) (N := 5) (bor := []) fn21 rfl (s_huff_Decoder_begins k (IntKind.wrap .i64 (x7096 - x7106)) (IntKind.wrap .i64 (x7014 + 1)) x6740 x6743 x7110 h7108) ⟨rfl, ⟨⟨trivial, .inr ⟨rfl, rfl, rfl⟩⟩, .inr ⟨rfl, rfl, rfl⟩⟩, by decide, rfl, trivial⟩ rfl trivial (.ren rfl rfl (.ren rfl rfl (.ren rfl rfl .nil))) rfl ⟨⟨trivial, rfl⟩, rfl⟩ rfl) rfl ?_
            refine WPL.q (q_not rfl) rfl ?_
            refine WPL.nilW ?_
            refine W.now ?_
            refine Then.n ?_
            refine WP.cond (t := (!x7110)) rfl (fun hb => ?_) (fun hb => ?_)
            · replace H := cnt hb H
              refine WP.exitW ?_
              refine W.cv (Cv.weak (E' := (((Env.none.upd 1 (.ptr 1 0)).upd 6 (.ptr 3 0)).upd 10 (.lit (.int .i64 11)))) (M' := ((((Mem.nil.push (.cells 52 [.lit (.int .i64 (List.getD x6740 0 (0 : Int))), .lit (.int .i64 (List.getD x6740 1 (0 : Int))), .lit (.int .i64 (List.getD x6740 2 (0 : Int))), .lit (.int .i64 (List.getD x6740 3 (0 : Int))), .lit (.int .i64 (List.getD x6740 4 (0 : Int))), .lit (.int .i64 (List.getD x6740 5 (0 : Int))), .lit (.int .i64 (List.getD x6740 6 (0 : Int))), .lit (.int .i64 (List.getD x6740 7 (0 : Int))), .lit (.int .i64 (List.getD x6740 8 (0 : Int))), .lit (.int .i64 (List.getD x6740 9 (0 : Int))), .lit (.int .i64 (List.getD x6740 10 (0 : Int))), .lit (.int .i64 (List.getD x6740 11 (0 : Int))), .lit (.int .i64 (List.getD x6740 12 (0 : Int))), .lit (.int .i64 (List.getD x6740 13 (0 : Int))), .lit (.int .i64 (List.getD x6740 14 (0 : Int))), .lit (.int .i64 (List.getD x6740 15 (0 : Int))), .whole 2])).push (.cells 64 [.ro (Rd.slice (Rd.int .u8)) false x7094, .lit (.int .i64 x7095)])).push (.row 3 (Rd.int .i64) x6743)).push (.cells 64 [.ro (Rd.slice (Rd.int .u8)) false x6741, .lit (.int .i64 x6742)]))) [0, 1, 4, 3] hnp ⟨rfl, ⟨⟨⟨⟨trivial, .inr ⟨rfl, rfl, rfl⟩⟩, .inr ⟨rfl, rfl, rfl⟩⟩, .inr ⟨rfl, rfl, rfl⟩⟩, .inr ⟨rfl, rfl, rfl⟩⟩, by decide, rfl, ⟨⟨trivial, rfl⟩, rfl⟩⟩ (LeE.upd rfl rfl (LeE.upd rfl rfl (LeE.upd rfl rfl (LeE.none rfl rfl))))) rfl ?_
              refine W.now ?_
              refine InBlock.x rfl ?_
              refine Then.x ?_
              refine Then.x ?_
              have q0 := Option.some.inj H
              subst q0
              exact ⟨rfl, rfl, rfl⟩
            · replace H := cnf hb H
              refine WP.skipW ?_
              refine W.now ?_
              refine InBlock.n ?_
              refine Then.n ?_
              refine WP.region ?_
              refine WPL.q (q_mv (v := .lit (.int _ _)) rfl) rfl ?_
              refine WPL.q (q_add rfl rfl) rfl ?_
              refine WPL.q (q_as (v := .lit (.int _ _)) rfl) rfl ?_
              refine WPL.nilW ?_
              refine W.cv (Cv.weak (E' := ((((((((Env.none.upd 0 (.ptr 0 0)).upd 1 (.ptr 1 0)).upd 6 (.ptr 3 0)).upd 7 (.lit (.int .i64 x7096))).upd 8 (.lit (.int .i64 x7106))).upd 9 (.lit (.int .i64 x7108))).upd 10 (.lit (.int .i64 11))).upd 11 (.lit (.int .i64 (IntKind.wrap .i64 (x7014 + 1)))))) (M' := ((((Mem.nil.push (.cells 52 [.lit (.int .i64 (List.getD x6740 0 (0 : Int))), .lit (.int .i64 (List.getD x6740 1 (0 : Int))), .lit (.int .i64 (List.getD x6740 2 (0 : Int))), .lit (.int .i64 (List.getD x6740 3 (0 : Int))), .lit (.int .i64 (List.getD x6740 4 (0 : Int))), .lit (.int .i64 (List.getD x6740 5 (0 : Int))), .lit (.int .i64 (List.getD x6740 6 (0 : Int))), .lit (.int .i64 (List.getD x6740 7 (0 : Int))), .lit (.int .i64 (List.getD x6740 8 (0 : Int))), .lit (.int .i64 (List.getD x6740 9 (0 : Int))), .lit (.int .i64 (List.getD x6740 10 (0 : Int))), .lit (.int .i64 (List.getD x6740 11 (0 : Int))), .lit (.int .i64 (List.getD x6740 12 (0 : Int))), .lit (.int .i64 (List.getD x6740 13 (0 : Int))), .lit (.int .i64 (List.getD x6740 14 (0 : Int))), .lit (.int .i64 (List.getD x6740 15 (0 : Int))), .whole 2])).push (.cells 64 [.ro (Rd.slice (Rd.int .u8)) false x7094, .lit (.int .i64 x7095)])).push (.row 3 (Rd.int .i64) x6743)).push (.cells 64 [.ro (Rd.slice (Rd.int .u8)) false x6741, .lit (.int .i64 x6742)]))) [0, 1, 4, 3] hnp ⟨rfl, ⟨⟨⟨⟨trivial, .inr ⟨rfl, rfl, rfl⟩⟩, .inr ⟨rfl, rfl, rfl⟩⟩, .inr ⟨rfl, rfl, rfl⟩⟩, .inr ⟨rfl, rfl, rfl⟩⟩, by decide, rfl, ⟨⟨trivial, rfl⟩, rfl⟩⟩ (LeE.upd rfl rfl (LeE.upd rfl rfl (LeE.upd rfl rfl (LeE.upd rfl rfl (LeE.upd rfl rfl (LeE.upd rfl rfl (LeE.upd rfl rfl (LeE.upd rfl rfl (LeE.none rfl rfl)))))))))) rfl ?_
              refine W.now ?_
              exact Then.n ⟨n, (x7096, x7106, x7108, (IntKind.wrap .i64 (x7014 + 1)), x7094, x7095), Nat.lt_succ_self n, H, rfl, rfl⟩
    · replace H := cnf hb H
      refine WP.exitW ?_
      refine W.cv (Cv.weak (E' := (((Env.none.upd 1 (.ptr 1 0)).upd 6 (.ptr 3 0)).upd 10 (.lit (.int .i64 11)))) (M' := ((((Mem.nil.push (.cells 52 [.lit (.int .i64 (List.getD x6740 0 (0 : Int))), .lit (.int .i64 (List.getD x6740 1 (0 : Int))), .lit (.int .i64 (List.getD x6740 2 (0 : Int))), .lit (.int .i64 (List.getD x6740 3 (0 : Int))), .lit (.int .i64 (List.getD x6740 4 (0 : Int))), .lit (.int .i64 (List.getD x6740 5 (0 : Int))), .lit (.int .i64 (List.getD x6740 6 (0 : Int))), .lit (.int .i64 (List.getD x6740 7 (0 : Int))), .lit (.int .i64 (List.getD x6740 8 (0 : Int))), .lit (.int .i64 (List.getD x6740 9 (0 : Int))), .lit (.int .i64 (List.getD x6740 10 (0 : Int))), .lit (.int .i64 (List.getD x6740 11 (0 : Int))), .lit (.int .i64 (List.getD x6740 12 (0 : Int))), .lit (.int .i64 (List.getD x6740 13 (0 : Int))), .lit (.int .i64 (List.getD x6740 14 (0 : Int))), .lit (.int .i64 (List.getD x6740 15 (0 : Int))), .whole 2])).push (.cells 64 [.ro (Rd.slice (Rd.int .u8)) false x7015, .lit (.int .i64 x7016)])).push (.row 3 (Rd.int .i64) x6743)).push (.cells 64 [.ro (Rd.slice (Rd.int .u8)) false x6741, .lit (.int .i64 x6742)]))) [0, 1, 2, 3] hnp ⟨rfl, ⟨⟨⟨⟨trivial, .inr ⟨rfl, rfl, rfl⟩⟩, .inr ⟨rfl, rfl, rfl⟩⟩, .inr ⟨rfl, rfl, rfl⟩⟩, .inr ⟨rfl, rfl, rfl⟩⟩, by decide, rfl, ⟨⟨trivial, rfl⟩, rfl⟩⟩ (LeE.upd rfl rfl (LeE.upd rfl rfl (LeE.upd rfl rfl (LeE.none rfl rfl))))) rfl ?_
      refine W.now ?_
      refine Then.x ?_
      refine Then.x ?_
      have q0 := Option.some.inj H
      subst q0
      exact ⟨rfl, rfl, rfl⟩
  · rcases y7112 with ⟨x7061, x7062, x7063⟩ | ⟨x7064, x7065, x7066⟩
    · rintro _ _ _ ⟨rfl, rfl, rfl⟩
      refine W.now ?_
      refine InBlock.x0 ?_
      refine Then.n ?_
      refine WP.seq ?_
      refine WP.region ?_
      refine WPL.q (q_mv (v := .ptr _ _) rfl) rfl ?_
      refine WPL.q (q_load_ag ag64 rfl rfl (Nat.le_of_ble_eq_true rfl)) rfl ?_
      refine WPL.q (q_nilCheck rfl) rfl ?_
      refine WPL.s (s_store sz64 rfl rfl rfl rfl rfl) ?_
      refine WPL.nilW ?_
      refine W.now ?_
      refine Then.n ?_
      refine WP.seq ?_
      refine WP.region ?_
      refine WPL.q (q_mv (v := .lit (.int _ _)) rfl) rfl ?_
      refine WPL.q (q_as (v := .lit (.int _ _)) rfl) rfl ?_
      refine WPL.q (q_as (v := .lit (.int _ _)) rfl) rfl ?_
      refine WPL.nilW ?_
      refine W.now ?_
      refine Then.n ?_
      refine WP.retW ?_
      refine W.now ?_
      refine Scope.r ?_
      have q0 := (Prod.mk.inj (Option.some.inj H)).1
      have q1 := (Prod.mk.inj (Prod.mk.inj (Option.some.inj H)).2).1
      have q2 := (Prod.mk.inj (Prod.mk.inj (Prod.mk.inj (Option.some.inj H)).2).2).1
      have q3 := (Prod.mk.inj (Prod.mk.inj (Prod.mk.inj (Option.some.inj H)).2).2).2
      subst q0
      subst q1
      subst q2
      subst q3
      exact ⟨trivial, _, rfl, [0, 1, 2], (.tup [.lit (.int .i64 0), .lit (.int .i64 x7061)]), (((Mem.nil.push (.cells 52 [.lit (.int .i64 (List.getD x6740 0 (0 : Int))), .lit (.int .i64 (List.getD x6740 1 (0 : Int))), .lit (.int .i64 (List.getD x6740 2 (0 : Int))), .lit (.int .i64 (List.getD x6740 3 (0 : Int))), .lit (.int .i64 (List.getD x6740 4 (0 : Int))), .lit (.int .i64 (List.getD x6740 5 (0 : Int))), .lit (.int .i64 (List.getD x6740 6 (0 : Int))), .lit (.int .i64 (List.getD x6740 7 (0 : Int))), .lit (.int .i64 (List.getD x6740 8 (0 : Int))), .lit (.int .i64 (List.getD x6740 9 (0 : Int))), .lit (.int .i64 (List.getD x6740 10 (0 : Int))), .lit (.int .i64 (List.getD x6740 11 (0 : Int))), .lit (.int .i64 (List.getD x6740 12 (0 : Int))), .lit (.int .i64 (List.getD x6740 13 (0 : Int))), .lit (.int .i64 (List.getD x6740 14 (0 : Int))), .lit (.int .i64 (List.getD x6740 15 (0 : Int))), .whole 2])).push (.cells 64 [.ro (Rd.slice (Rd.int .u8)) false x6741, .lit (.int .i64 x6742)])).push (.row 3 (Rd.int .i64) x6743)), ⟨rfl, ⟨⟨⟨trivial, .inr ⟨rfl, rfl, rfl⟩⟩, .inr ⟨rfl, rfl, rfl⟩⟩, .inr ⟨rfl, rfl, rfl⟩⟩, by decide, rfl, ⟨⟨trivial, rfl⟩, rfl⟩⟩, rfl, rfl, rfl, rfl⟩
    · rintro _ _ _ ⟨rfl, rfl, rfl⟩
      refine W.now ?_
      refine InBlock.r ?_
      refine Then.r ?_
      refine Scope.r ?_
      have q0 := (Prod.mk.inj (Option.some.inj H)).1
      have q1 := (Prod.mk.inj (Prod.mk.inj (Option.some.inj H)).2).1
      have q2 := (Prod.mk.inj (Prod.mk.inj (Prod.mk.inj (Option.some.inj H)).2).2).1
      have q3 := (Prod.mk.inj (Prod.mk.inj (Prod.mk.inj (Option.some.inj H)).2).2).2
      subst q0
      subst q1
      subst q2
      subst q3
      exact ⟨trivial, _, rfl, [0, 1, 2], (.tup [.lit (.int .i64 x7064), .lit (.int .i64 0)]), (((Mem.nil.push (.cells 52 [.lit (.int .i64 (List.getD x6740 0 (0 : Int))), .lit (.int .i64 (List.getD x6740 1 (0 : Int))), .lit (.int .i64 (List.getD x6740 2 (0 : Int))), .lit (.int .i64 (List.getD x6740 3 (0 : Int))), .lit (.int .i64 (List.getD x6740 4 (0 : Int))), .lit (.int .i64 (List.getD x6740 5 (0 : Int))), .lit (.int .i64 (List.getD x6740 6 (0 : Int))), .lit (.int .i64 (List.getD x6740 7 (0 : Int))), .lit (.int .i64 (List.getD x6740 8 (0 : Int))), .lit (.int .i64 (List.getD x6740 9 (0 : Int))), .lit (.int .i64 (List.getD x6740 10 (0 : Int))), .lit (.int .i64 (List.getD x6740 11 (0 : Int))), .lit (.int .i64 (List.getD x6740 12 (0 : Int))), .lit (.int .i64 (List.getD x6740 13 (0 : Int))), .lit (.int .i64 (List.getD x6740 14 (0 : Int))), .lit (.int .i64 (List.getD x6740 15 (0 : Int))), .whole 2])).push (.cells 64 [.ro (Rd.slice (Rd.int .u8)) false x7065, .lit (.int .i64 x7066)])).push (.row 3 (Rd.int .i64) x6743)), ⟨rfl, ⟨⟨⟨trivial, .inr ⟨rfl, rfl, rfl⟩⟩, .inr ⟨rfl, rfl, rfl⟩⟩, .inr ⟨rfl, rfl, rfl⟩⟩, by decide, rfl, ⟨⟨trivial, rfl⟩, rfl⟩⟩, rfl, rfl, rfl, rfl⟩
set_option maxRecDepth 100000 in
set_option maxHeartbeats 4000000 in
theorem s_quirelaw02_HuffBack (k : Nat) (x3 : (List Int)) (x4 : (List Int)) (x7168 : Bool) (H : g_quirelaw02_HuffBack k x3 x4 = some x7168) : Go.Q.Spec Try.prog 3 0 [.ro (Rd.slice (Rd.int .i64)) false x3, .ro (Rd.slice (Rd.int .i64)) false x4] Mem.nil (fun o M => o = .ret (.lit (.bool x7168)) ∧ M = Mem.nil) := by
  unfold g_quirelaw02_HuffBack at H
  refine Go.Q.Spec.of_bodyR (rs := [.tmp 4]) (nt := 109) Try.func3 rfl rfl (by intro t T h; simp at h) rfl rfl fun cx hnp => ?_
  refine WP.seq ?_
  refine WP.region ?_
  refine WPL.q (q_as (v := .lit (.bool _)) rfl) rfl ?_
  refine WPL.nilW ?_
  refine W.now ?_
  refine Then.n ?_
  refine WP.seq ?_
  refine WP.region ?_
  refine WPL.q (q_mv (v := .ro _ _ _) rfl) rfl ?_
  obtain ⟨⟨x7170, x7171⟩, h7168, H⟩ := bnd H
  refine WPL.c (runs_call (s := []) (t := []) (N := 0) (bor := []) fn4 rfl (s_huff_Codes k x3 x7170 x7171 h7168) ⟨rfl, trivial, by decide, rfl, trivial⟩ rfl trivial (.ren rfl rfl .nil) rfl trivial rfl) rfl ?_
  refine WPL.q (q_mv (v := .tup _) rfl) rfl ?_
  refine WPL.q (q_extract rfl rfl) rfl ?_
  refine WPL.q (q_extract rfl rfl) rfl ?_
  refine WPL.q (q_as (v := .ro _ _ _) rfl) rfl ?_
  refine WPL.q (q_as (v := .lit (.int _ _)) rfl) rfl ?_
  refine WPL.nilW ?_
  refine W.now ?_
  refine Then.n ?_
  refine WP.seq ?_
  refine WP.region ?_
  refine WPL.q (q_mv (v := .ro _ _ _) rfl) rfl ?_
  obtain ⟨y7176, h7171, H⟩ := bnd H
  rcases y7176 with x7173 | ⟨x7174, x7175⟩
  · refine WPL.c (runs_call (s := []) (t := []) (N := 0) (bor := []) fn5 rfl (s_huff_New k x3 (Sum.inl x7173) h7171) ⟨rfl, trivial, by decide, rfl, trivial⟩ rfl trivial (.ren rfl rfl .nil) rfl trivial rfl) rfl ?_
    refine WPL.q (q_mv (v := .tup _) rfl) rfl ?_
    refine WPL.q (q_extract rfl rfl) rfl ?_
    refine WPL.q (q_extract rfl rfl) rfl ?_
    refine WPL.q (q_as (v := .lit _) rfl) rfl ?_
    refine WPL.q (q_as (v := .lit (.int _ _)) rfl) rfl ?_
    refine WPL.nilW ?_
    refine W.now ?_
    refine Then.n ?_
    refine WP.seq ?_
    refine WP.seq ?_
    obtain ⟨x7188, H7191, H⟩ := bnd H
    refine WP.monoW (Q := fun x E M => x = .normal ∧ E = ((((((Env.none.upd 0 (.ro (Rd.slice (Rd.int .i64)) false x3)).upd 1 (.ro (Rd.slice (Rd.int .i64)) false x4)).upd 5 (.ro (Rd.slice (Rd.int .u32)) false x7170)).upd 6 (.lit (.int .i64 x7171))).upd 7 (.lit (.pointer none))).upd 33 (.lit (.bool x7188))) ∧ M = Mem.nil) ?_ ?_
    · clear H
      have H := H7191
      clear H7191
      refine WP.region ?_
      refine WPL.q (q_mv (v := .lit (.int _ _)) rfl) rfl ?_
      refine WPL.q (q_mv (v := .lit (.int _ _)) rfl) rfl ?_
      refine WPL.q (q_neq rfl rfl) rfl ?_
      refine WPL.q (q_mv (v := .lit (.bool _)) rfl) rfl ?_
      refine WPL.split (t := 30) (b := (!decide (x7171 = x7173))) rfl (fun hb7188 => ?_) (fun hb7188 => ?_)
      · replace H := cnt hb7188 H
        refine WPL.skipg (b' := true) rfl rfl (lb hb7188) rfl rfl ?_
        refine WPL.skipg (b' := true) rfl rfl (lb hb7188) rfl rfl ?_
        refine WPL.q (q_pickT (v := .lit (.bool _)) (lb hb7188) rfl) rfl ?_
        refine WPL.nilW ?_
        refine W.cv (Cv.weak (E' := ((((((Env.none.upd 0 (.ro (Rd.slice (Rd.int .i64)) false x3)).upd 1 (.ro (Rd.slice (Rd.int .i64)) false x4)).upd 5 (.ro (Rd.slice (Rd.int .u32)) false x7170)).upd 6 (.lit (.int .i64 x7171))).upd 7 (.lit (.pointer none))).upd 33 (.lit (.bool true)))) (M' := Mem.nil) [] hnp ⟨rfl, trivial, by decide, rfl, trivial⟩ (LeE.upd rfl rfl (LeE.upd rfl rfl (LeE.upd rfl rfl (LeE.upd rfl rfl (LeE.upd rfl rfl (LeE.upd rfl rfl (LeE.none rfl rfl)))))))) rfl ?_
        refine W.now ?_
        have q0 := (Option.some.inj H)
        subst q0
        exact ⟨rfl, rfl, rfl⟩
      · replace H := cnf hb7188 H
        obtain ⟨x7191, h7189, H⟩ := bnd H
        refine WPL.cg rfl rfl (lb hb7188) (runs_call (s := []) (t := []) (N := 0) (bor := []) fn6 rfl (s_quirelaw02_alive k x7191 h7189) ⟨rfl, trivial, by decide, rfl, trivial⟩ rfl trivial .nil rfl trivial rfl) rfl ?_
        refine WPL.qg rfl rfl (lb hb7188) (q_not rfl) rfl ?_
        refine WPL.q (q_pickF (v := .lit (.bool _)) (lb hb7188) rfl) rfl ?_
        refine WPL.nilW ?_
        refine W.cv (Cv.weak (E' := ((((((Env.none.upd 0 (.ro (Rd.slice (Rd.int .i64)) false x3)).upd 1 (.ro (Rd.slice (Rd.int .i64)) false x4)).upd 5 (.ro (Rd.slice (Rd.int .u32)) false x7170)).upd 6 (.lit (.int .i64 x7171))).upd 7 (.lit (.pointer none))).upd 33 (.lit (.bool (!x7191))))) (M' := Mem.nil) [] hnp ⟨rfl, trivial, by decide, rfl, trivial⟩ (LeE.upd rfl rfl (LeE.upd rfl rfl (LeE.upd rfl rfl (LeE.upd rfl rfl (LeE.upd rfl rfl (LeE.upd rfl rfl (LeE.none rfl rfl)))))))) rfl ?_
        refine W.now ?_
        have q0 := (Option.some.inj H)
        subst q0
        exact ⟨rfl, rfl, rfl⟩
    · rintro _ _ _ ⟨rfl, rfl, rfl⟩
      refine W.now ?_
      refine Then.n ?_
      refine WP.cond (t := x7188) rfl (fun hb => ?_) (fun hb => ?_)
      · replace H := cnt hb H
        refine WP.seq ?_
        refine WP.region ?_
        refine WPL.q (q_as (v := .lit (.bool _)) rfl) rfl ?_
        refine WPL.nilW ?_
        refine W.now ?_
        refine Then.n ?_
        refine WP.retW ?_
        refine W.now ?_
        refine Then.r ?_
        have q0 := (Option.some.inj H)
        subst q0
        exact ⟨trivial, _, rfl, [], (.lit (.bool false)), Mem.nil, ⟨rfl, trivial, by decide, rfl, trivial⟩, rfl, rfl, rfl, rfl⟩
      · replace H := cnf hb H
        refine WP.skipW ?_
        refine W.now ?_
        refine Then.n ?_
        refine WP.seq ?_
        refine WP.seq ?_
        refine WP.region ?_
        refine WPL.q (q_mv (v := .lit (.int _ _)) rfl) rfl ?_
        refine WPL.q (q_neq rfl rfl) rfl ?_
        refine WPL.nilW ?_
        refine W.now ?_
        refine Then.n ?_
        refine WP.cond (t := (!decide (x7171 = 0))) rfl (fun hb => ?_) (fun hb => ?_)
        · replace H := cnt hb H
          refine WP.seq ?_
          refine WP.region ?_
          refine WPL.q (q_as (v := .lit (.bool _)) rfl) rfl ?_
          refine WPL.nilW ?_
          refine W.now ?_
          refine Then.n ?_
          refine WP.retW ?_
          refine W.now ?_
          refine Then.r ?_
          have q0 := (Option.some.inj H)
          subst q0
          exact ⟨trivial, _, rfl, [], (.lit (.bool true)), Mem.nil, ⟨rfl, trivial, by decide, rfl, trivial⟩, rfl, rfl, rfl, rfl⟩
        · replace H := cnf hb H
          refine WP.skipW ?_
          refine W.now ?_
          refine Then.n ?_
          refine WP.seq ?_
          refine WP.region ?_
          obtain ⟨_, h7192, H⟩ := bnd H
          refine WPL.c (runs_call (s := []) (t := [0]) (N := 1) (bor := []) fn7 rfl (s_bits_NewWriter k h7192) ⟨rfl, trivial, by decide, rfl, trivial⟩ rfl trivial .nil rfl ⟨trivial, rfl⟩ rfl) rfl ?_
          refine WPL.q (q_as (v := .ptr _ _) rfl) rfl ?_
          refine WPL.nilW ?_
          refine W.now ?_
          refine Then.n ?_
          refine WP.seq ?_
          refine WP.region ?_
          refine WPL.q (q_as (v := .lit _) rfl) rfl ?_
          refine WPL.nilW ?_
          refine W.now ?_
          refine Then.n ?_
          refine WP.seq ?_
          refine WP.seq ?_
          refine WP.region ?_
          refine WPL.q (q_as (v := .lit (.int _ _)) rfl) rfl ?_
          refine WPL.nilW ?_
          refine W.now ?_
          refine Then.n ?_
          refine WP.block ?_
          refine WP.cv (Cv.vir 3 (Rd.int .i64) (N := 1) rfl 10 rfl) ?_
          refine WP.cv (Cv.virC 5 (Rd.int .u8) (N := 2) rfl rfl (i := 0) (off := 0) rfl rfl) ?_
          refine WP.cv (Cv.weak (E' := (((((((Env.none.upd 0 (.ro (Rd.slice (Rd.int .i64)) false x3)).upd 1 (.ro (Rd.slice (Rd.int .i64)) false x4)).upd 5 (.ro (Rd.slice (Rd.int .u32)) false x7170)).upd 7 (.lit (.pointer none))).upd 9 (.ptr 0 0)).upd 10 (.whole 2)).upd 11 (.lit (.int .i64 0)))) (M' := (((Mem.nil.push (.cells 56 [.whole 1, .lit (.int .i64 0)])).push (.row 5 (Rd.int .u8) ([] : List Int))).push (.row 3 (Rd.int .i64) ([] : List Int)))) [0, 2, 1] hnp ⟨rfl, ⟨⟨⟨trivial, .inr ⟨rfl, rfl, rfl⟩⟩, .inr ⟨rfl, rfl, rfl⟩⟩, .inr ⟨rfl, rfl, rfl⟩⟩, by decide, rfl, trivial⟩ (LeE.upd rfl rfl (LeE.upd rfl rfl (LeE.upd rfl rfl (LeE.upd rfl rfl (LeE.upd rfl rfl (LeE.upd rfl rfl (LeE.upd rfl rfl (LeE.none rfl rfl))))))))) ?_
          obtain ⟨⟨x7396, x7397, x7398⟩, H7464, H⟩ := bnd H
          refine WP.monoW (Q := fun x E M => x = .exit 0 ∧ E = (((Env.none.upd 7 (.lit (.pointer none))).upd 9 (.ptr 0 0)).upd 10 (.whole 2)) ∧ M = (((Mem.nil.push (.cells 56 [.whole 1, .lit (.int .i64 x7396)])).push (.row 5 (Rd.int .u8) x7397)).push (.row 3 (Rd.int .i64) x7398))) ?_ ?_
          · refine WP.loop (β := Int × Int × (List Int) × (List Int)) (fun n b => g_quirelaw02_HuffBack_l0 k x3 x4 x7170 n b.1 b.2.1 b.2.2.1 b.2.2.2 = some (x7396, x7397, x7398)) (fun b => (((((((Env.none.upd 0 (.ro (Rd.slice (Rd.int .i64)) false x3)).upd 1 (.ro (Rd.slice (Rd.int .i64)) false x4)).upd 5 (.ro (Rd.slice (Rd.int .u32)) false x7170)).upd 7 (.lit (.pointer none))).upd 9 (.ptr 0 0)).upd 10 (.whole 2)).upd 11 (.lit (.int .i64 b.1)))) (fun b => (((Mem.nil.push (.cells 56 [.whole 1, .lit (.int .i64 b.2.1)])).push (.row 5 (Rd.int .u8) b.2.2.1)).push (.row 3 (Rd.int .i64) b.2.2.2))) k (0, 0, ([] : List Int), ([] : List Int)) H7464 rfl rfl ?_
            rintro n ⟨x7326, x7327, x7328, x7329⟩ H
            obtain _ | n := n
            · exact nf rfl H
            rw [g_quirelaw02_HuffBack_l0.eq_2] at H
            show WP _ _ _ _ (((((((Env.none.upd 0 (.ro (Rd.slice (Rd.int .i64)) false x3)).upd 1 (.ro (Rd.slice (Rd.int .i64)) false x4)).upd 5 (.ro (Rd.slice (Rd.int .u32)) false x7170)).upd 7 (.lit (.pointer none))).upd 9 (.ptr 0 0)).upd 10 (.whole 2)).upd 11 (.lit (.int .i64 x7326))) (((Mem.nil.push (.cells 56 [.whole 1, .lit (.int .i64 x7327)])).push (.row 5 (Rd.int .u8) x7328)).push (.row 3 (Rd.int .i64) x7329)) _
            refine WP.seq ?_
            refine WP.seq ?_
            refine WP.region ?_
            refine WPL.q (q_mv (v := .lit (.int _ _)) rfl) rfl ?_
            refine WPL.q (q_mv (v := .ro _ _ _) rfl) rfl ?_
            refine WPL.q (q_len_ro sl22 rfl) rfl ?_
            obtain ⟨x7400, h7400, H⟩ := bnd H
            refine WPL.q (q_nm (q_lss rfl rfl) (nm_bool h7400)) rfl ?_
            refine WPL.nilW ?_
            refine W.now ?_
            refine Then.n ?_
            refine WP.cond (t := x7400) rfl (fun hb => ?_) (fun hb => ?_)
            · replace H := cnt hb H
              refine WP.skipW ?_
              refine W.now ?_
              refine Then.n ?_
              refine WP.seq ?_
              obtain ⟨⟨x7431, x7432, x7433⟩, H7463, H⟩ := bnd H
              refine WP.monoW (Q := fun x E M => x = .normal ∧ E = (((((((Env.none.upd 0 (.ro (Rd.slice (Rd.int .i64)) false x3)).upd 1 (.ro (Rd.slice (Rd.int .i64)) false x4)).upd 5 (.ro (Rd.slice (Rd.int .u32)) false x7170)).upd 7 (.lit (.pointer none))).upd 9 (.ptr 0 0)).upd 10 (.whole 2)).upd 11 (.lit (.int .i64 x7326))) ∧ M = (((Mem.nil.push (.cells 56 [.whole 1, .lit (.int .i64 x7431)])).push (.row 5 (Rd.int .u8) x7432)).push (.row 3 (Rd.int .i64) x7433))) ?_ ?_
              · clear H
                have H := H7463
                clear H7463
                refine WP.block ?_
                refine WP.seq ?_
                refine WP.region ?_
                refine WPL.q (q_mv (v := .ro _ _ _) rfl) rfl ?_
                refine WPL.q (q_mv (v := .lit (.int _ _)) rfl) rfl ?_
                obtain ⟨x7434, h7434, H⟩ := bnd H
                refine WPL.q (q_index_ro sl22 rfl rfl rfl h7434) rfl ?_
                refine WPL.q (q_load_sc sc3 rfl) rfl ?_
                refine WPL.q (q_as (v := .lit (.int _ _)) rfl) rfl ?_
                refine WPL.nilW ?_
                refine W.now ?_
                refine Then.n ?_
                refine WP.seq ?_
                obtain ⟨x7439, H7443, H⟩ := bnd H
                refine WP.monoW (Q := fun x E M => x = .normal ∧ E = (((((((((Env.none.upd 0 (.ro (Rd.slice (Rd.int .i64)) false x3)).upd 1 (.ro (Rd.slice (Rd.int .i64)) false x4)).upd 5 (.ro (Rd.slice (Rd.int .u32)) false x7170)).upd 7 (.lit (.pointer none))).upd 9 (.ptr 0 0)).upd 10 (.whole 2)).upd 11 (.lit (.int .i64 x7326))).upd 12 (.lit (.int .i64 x7434))).upd 61 (.lit (.bool x7439))) ∧ M = (((Mem.nil.push (.cells 56 [.whole 1, .lit (.int .i64 x7327)])).push (.row 5 (Rd.int .u8) x7328)).push (.row 3 (Rd.int .i64) x7329))) ?_ ?_
                · clear H
                  have H := H7443
                  clear H7443
                  refine WP.region ?_
                  refine WPL.q (q_mv (v := .lit (.int _ _)) rfl) rfl ?_
                  refine WPL.q (q_geq rfl rfl) rfl ?_
                  refine WPL.q (q_mv (v := .lit (.bool _)) rfl) rfl ?_
                  refine WPL.split (t := 49) (b := (decide (0 ≤ x7434))) rfl (fun hb7439 => ?_) (fun hb7439 => ?_)
                  · replace H := cnt hb7439 H
                    refine WPL.qg rfl rfl (lb hb7439) (q_mv (v := .lit (.int _ _)) rfl) rfl ?_
                    refine WPL.qg rfl rfl (lb hb7439) (q_mv (v := .ro _ _ _) rfl) rfl ?_
                    refine WPL.qg rfl rfl (lb hb7439) (q_len_ro sl22 rfl) rfl ?_
                    obtain ⟨x7441, h7441, H⟩ := bnd H
                    refine WPL.qg rfl rfl (lb hb7439) (q_nm (q_lss rfl rfl) (nm_bool h7441)) rfl ?_
                    refine WPL.q (q_pickT (v := .lit (.bool _)) (lb hb7439) rfl) rfl ?_
                    refine WPL.q (q_mv (v := .lit (.bool _)) rfl) rfl ?_
                    refine WPL.split (t := 55) (b := x7441) rfl (fun hb7441 => ?_) (fun hb7441 => ?_)
                    · replace H := cnt hb7441 H
                      refine WPL.qg rfl rfl (lb hb7441) (q_mv (v := .ro _ _ _) rfl) rfl ?_
                      refine WPL.qg rfl rfl (lb hb7441) (q_mv (v := .lit (.int _ _)) rfl) rfl ?_
                      obtain ⟨x7443, h7443, H⟩ := bnd H
                      refine WPL.qg rfl rfl (lb hb7441) (q_index_ro sl22 rfl rfl rfl h7443) rfl ?_
                      refine WPL.qg rfl rfl (lb hb7441) (q_load_sc sc3 rfl) rfl ?_
                      refine WPL.qg rfl rfl (lb hb7441) (q_gtr rfl rfl) rfl ?_
                      refine WPL.q (q_pickT (v := .lit (.bool _)) (lb hb7441) rfl) rfl ?_
                      refine WPL.nilW ?_
                      refine W.cv (Cv.weak (E' := (((((((((Env.none.upd 0 (.ro (Rd.slice (Rd.int .i64)) false x3)).upd 1 (.ro (Rd.slice (Rd.int .i64)) false x4)).upd 5 (.ro (Rd.slice (Rd.int .u32)) false x7170)).upd 7 (.lit (.pointer none))).upd 9 (.ptr 0 0)).upd 10 (.whole 2)).upd 11 (.lit (.int .i64 x7326))).upd 12 (.lit (.int .i64 x7434))).upd 61 (.lit (.bool (decide (0 < x7443)))))) (M' := (((Mem.nil.push (.cells 56 [.whole 1, .lit (.int .i64 x7327)])).push (.row 5 (Rd.int .u8) x7328)).push (.row 3 (Rd.int .i64) x7329))) [0, 1, 2] hnp ⟨rfl, ⟨⟨⟨trivial, .inr ⟨rfl, rfl, rfl⟩⟩, .inr ⟨rfl, rfl, rfl⟩⟩, .inr ⟨rfl, rfl, rfl⟩⟩, by decide, rfl, trivial⟩ (LeE.upd rfl rfl (LeE.upd rfl rfl (LeE.upd rfl rfl (LeE.upd rfl rfl (LeE.upd rfl rfl (LeE.upd rfl rfl (LeE.upd rfl rfl (LeE.upd rfl rfl (LeE.upd rfl rfl (LeE.none rfl rfl))))))))))) rfl ?_
                      refine W.now ?_
                      have q0 := (Option.some.inj H)
                      subst q0
                      exact ⟨rfl, rfl, rfl⟩
                    · replace H := cnf hb7441 H
                      refine WPL.skipg (b' := false) rfl rfl (lb hb7441) rfl rfl ?_
                      refine WPL.skipg (b' := false) rfl rfl (lb hb7441) rfl rfl ?_
                      refine WPL.skipg (b' := false) rfl rfl (lb hb7441) rfl rfl ?_
                      refine WPL.skipg (b' := false) rfl rfl (lb hb7441) rfl rfl ?_
                      refine WPL.skipg (b' := false) rfl rfl (lb hb7441) rfl rfl ?_
                      refine WPL.q (q_pickF (v := .lit (.bool _)) (lb hb7441) rfl) rfl ?_
                      refine WPL.nilW ?_
                      refine W.cv (Cv.weak (E' := (((((((((Env.none.upd 0 (.ro (Rd.slice (Rd.int .i64)) false x3)).upd 1 (.ro (Rd.slice (Rd.int .i64)) false x4)).upd 5 (.ro (Rd.slice (Rd.int .u32)) false x7170)).upd 7 (.lit (.pointer none))).upd 9 (.ptr 0 0)).upd 10 (.whole 2)).upd 11 (.lit (.int .i64 x7326))).upd 12 (.lit (.int .i64 x7434))).upd 61 (.lit (.bool false)))) (M' := (((Mem.nil.push (.cells 56 [.whole 1, .lit (.int .i64 x7327)])).push (.row 5 (Rd.int .u8) x7328)).push (.row 3 (Rd.int .i64) x7329))) [0, 1, 2] hnp ⟨rfl, ⟨⟨⟨trivial, .inr ⟨rfl, rfl, rfl⟩⟩, .inr ⟨rfl, rfl, rfl⟩⟩, .inr ⟨rfl, rfl, rfl⟩⟩, by decide, rfl, trivial⟩ (LeE.upd rfl rfl (LeE.upd rfl rfl (LeE.upd rfl rfl (LeE.upd rfl rfl (LeE.upd rfl rfl (LeE.upd rfl rfl (LeE.upd rfl rfl (LeE.upd rfl rfl (LeE.upd rfl rfl (LeE.none rfl rfl))))))))))) rfl ?_
                      refine W.now ?_
                      have q0 := (Option.some.inj H)
                      subst q0
                      exact ⟨rfl, rfl, rfl⟩
                  · replace H := cnf hb7439 H
                    refine WPL.skipg (b' := false) rfl rfl (lb hb7439) rfl rfl ?_
                    refine WPL.skipg (b' := false) rfl rfl (lb hb7439) rfl rfl ?_
                    refine WPL.skipg (b' := false) rfl rfl (lb hb7439) rfl rfl ?_
                    refine WPL.skipg (b' := false) rfl rfl (lb hb7439) rfl rfl ?_
                    refine WPL.q (q_pickF (v := .lit (.bool _)) (lb hb7439) rfl) rfl ?_
                    refine WPL.q (q_mv (v := .lit (.bool _)) rfl) rfl ?_
                    refine WPL.skipg (b' := false) rfl rfl rfl rfl rfl ?_
                    refine WPL.skipg (b' := false) rfl rfl rfl rfl rfl ?_
                    refine WPL.skipg (b' := false) rfl rfl rfl rfl rfl ?_
                    refine WPL.skipg (b' := false) rfl rfl rfl rfl rfl ?_
                    refine WPL.skipg (b' := false) rfl rfl rfl rfl rfl ?_
                    refine WPL.q (q_pickF (v := .lit (.bool _)) rfl rfl) rfl ?_
                    refine WPL.nilW ?_
                    refine W.cv (Cv.weak (E' := (((((((((Env.none.upd 0 (.ro (Rd.slice (Rd.int .i64)) false x3)).upd 1 (.ro (Rd.slice (Rd.int .i64)) false x4)).upd 5 (.ro (Rd.slice (Rd.int .u32)) false x7170)).upd 7 (.lit (.pointer none))).upd 9 (.ptr 0 0)).upd 10 (.whole 2)).upd 11 (.lit (.int .i64 x7326))).upd 12 (.lit (.int .i64 x7434))).upd 61 (.lit (.bool false)))) (M' := (((Mem.nil.push (.cells 56 [.whole 1, .lit (.int .i64 x7327)])).push (.row 5 (Rd.int .u8) x7328)).push (.row 3 (Rd.int .i64) x7329))) [0, 1, 2] hnp ⟨rfl, ⟨⟨⟨trivial, .inr ⟨rfl, rfl, rfl⟩⟩, .inr ⟨rfl, rfl, rfl⟩⟩, .inr ⟨rfl, rfl, rfl⟩⟩, by decide, rfl, trivial⟩ (LeE.upd rfl rfl (LeE.upd rfl rfl (LeE.upd rfl rfl (LeE.upd rfl rfl (LeE.upd rfl rfl (LeE.upd rfl rfl (LeE.upd rfl rfl (LeE.upd rfl rfl (LeE.upd rfl rfl (LeE.none rfl rfl))))))))))) rfl ?_
                    refine W.now ?_
                    have q0 := (Option.some.inj H)
                    subst q0
                    exact ⟨rfl, rfl, rfl⟩
                · rintro _ _ _ ⟨rfl, rfl, rfl⟩
                  refine W.now ?_
                  refine Then.n ?_
                  refine WP.cond (t := x7439) rfl (fun hb => ?_) (fun hb => ?_)
                  · replace H := cnt hb H
                    refine WP.seq ?_
                    refine WP.regionD' 15 [] [] mixed rfl ?_
                    refine WPD.takeT 0 rfl (by kernel_rfl) (q_mv (v := .ptr _ _) rfl) rfl ?_
                    refine WPD.takeT 1 rfl (by kernel_rfl) (q_mv (v := .ro _ _ _) rfl) rfl ?_
                    refine WPD.takeT 2 rfl (by kernel_rfl) (q_mv (v := .lit (.int _ _)) rfl) rfl ?_
                    obtain ⟨x7454, h7454, H⟩ := bnd H
                    refine WPD.takeT 3 rfl (by kernel_rfl) (q_index_ro sl23 rfl rfl rfl h7454) rfl ?_
                    refine WPD.takeT 4 rfl (by kernel_rfl) (q_load_sc sc34 rfl) rfl ?_
                    refine WPD.takeT 5 rfl (by kernel_rfl) (q_mv (v := .ro _ _ _) rfl) rfl ?_
                    refine WPD.takeT 6 rfl (by kernel_rfl) (q_mv (v := .lit (.int _ _)) rfl) rfl ?_
                    obtain ⟨x7455, h7455, H⟩ := bnd H
                    refine WPD.takeT 7 rfl (by kernel_rfl) (q_index_ro sl22 rfl rfl rfl h7455) rfl ?_
                    refine WPD.takeT 8 rfl (by kernel_rfl) (q_load_sc sc3 rfl) rfl ?_
                    refine WPD.takeT 10 rfl (by kernel_rfl) (q_mv (v := .ro _ _ _) rfl) rfl ?_
                    refine WPD.takeT 11 rfl (by kernel_rfl) (q_mv (v := .lit (.int _ _)) rfl) rfl ?_
                    obtain ⟨x7456, h7456, H⟩ := bnd H
                    refine WPD.takeT 12 rfl (by kernel_rfl) (q_index_ro sl22 rfl rfl rfl h7456) rfl ?_
                    refine WPD.takeT 13 rfl (by kernel_rfl) (q_load_sc sc3 rfl) rfl ?_
                    obtain ⟨x7458, h7456, H⟩ := bnd H
                    refine WPD.eff 9 [] [] rfl (by kernel_rfl) (runs_call (s := []) (t := []) (N := 3) (bor := []) fn9 rfl (s_bits_Reverse k x7454 x7455 x7458 h7456) ⟨rfl, trivial, by decide, rfl, trivial⟩ rfl trivial (.ren rfl rfl (.ren rfl rfl .nil)) rfl trivial rfl) rfl rfl ?_
                    obtain ⟨⟨x7460, x7461, x7462⟩, h7458, H⟩ := bnd H
                    refine WPD.eff 14 [] [] rfl (by kernel_rfl) (runs_call (s := [0, 1]) (t := [0, 3]) (N := 4) (bor := []) fn8 rfl (s_bits_Writer_Put__b k x7458 x7456 x7327 x7328 x7460 x7461 x7462 h7458) ⟨rfl, ⟨⟨trivial, .inr ⟨rfl, rfl, rfl⟩⟩, .inr ⟨rfl, rfl, rfl⟩⟩, by decide, rfl, trivial⟩ rfl trivial (.ren rfl rfl (.ren rfl rfl (.ren rfl rfl .nil))) rfl ⟨⟨trivial, rfl⟩, rfl⟩ rfl) rfl rfl ?_
                    refine WPD.doneW (by kernel_rfl) ?_
                    refine W.now ?_
                    refine Then.n ?_
                    refine WP.region ?_
                    refine WPL.q (q_mv (v := .whole _) rfl) rfl ?_
                    refine WPL.q (q_mv (v := .lit (.int _ _)) rfl) rfl ?_
                    refine WPL.d (d_buildSlice (ds := ([x7434] : List Int)) (R := (Rd.int .i64)) li22 rfl rfl rfl rfl rfl (JoinRows.cons1 Joins.sc rfl JoinRows.nil) rfl rfl) rfl ?_
                    obtain ⟨h7462, H⟩ := grd H
                    refine WPL.d (d_append ap22 rfl rfl rfl rfl (src_row sl22 rfl rfl) h7462 rfl) rfl ?_
                    refine WPL.q (q_as (v := .whole _) rfl) rfl ?_
                    refine WPL.nilW ?_
                    refine W.cv (Cv.weak (E' := (((((((Env.none.upd 0 (.ro (Rd.slice (Rd.int .i64)) false x3)).upd 1 (.ro (Rd.slice (Rd.int .i64)) false x4)).upd 5 (.ro (Rd.slice (Rd.int .u32)) false x7170)).upd 7 (.lit (.pointer none))).upd 9 (.ptr 0 0)).upd 10 (.whole 2)).upd 11 (.lit (.int .i64 x7326)))) (M' := (((Mem.nil.push (.cells 56 [.whole 1, .lit (.int .i64 x7461)])).push (.row 5 (Rd.int .u8) x7462)).push (.row 3 (Rd.int .i64) (x7329 ++ ([x7434] : List Int))))) [0, 3, 5] hnp ⟨rfl, ⟨⟨⟨trivial, .inr ⟨rfl, rfl, rfl⟩⟩, .inr ⟨rfl, rfl, rfl⟩⟩, .inr ⟨rfl, rfl, rfl⟩⟩, by decide, rfl, trivial⟩ (LeE.upd rfl rfl (LeE.upd rfl rfl (LeE.upd rfl rfl (LeE.upd rfl rfl (LeE.upd rfl rfl (LeE.upd rfl rfl (LeE.upd rfl rfl (LeE.none rfl rfl))))))))) rfl ?_
                    refine W.now ?_
                    refine InBlock.n ?_
                    have q0 := (Prod.mk.inj (Option.some.inj H)).1
                    have q1 := (Prod.mk.inj (Prod.mk.inj (Option.some.inj H)).2).1
                    have q2 := (Prod.mk.inj (Prod.mk.inj (Option.some.inj H)).2).2
                    subst q0
                    subst q1
                    subst q2
                    exact ⟨rfl, rfl, rfl⟩
                  · replace H := cnf hb H
                    refine WP.skipW ?_
                    refine W.cv (Cv.weak (E' := (((((((Env.none.upd 0 (.ro (Rd.slice (Rd.int .i64)) false x3)).upd 1 (.ro (Rd.slice (Rd.int .i64)) false x4)).upd 5 (.ro (Rd.slice (Rd.int .u32)) false x7170)).upd 7 (.lit (.pointer none))).upd 9 (.ptr 0 0)).upd 10 (.whole 2)).upd 11 (.lit (.int .i64 x7326)))) (M' := (((Mem.nil.push (.cells 56 [.whole 1, .lit (.int .i64 x7327)])).push (.row 5 (Rd.int .u8) x7328)).push (.row 3 (Rd.int .i64) x7329))) [0, 1, 2] hnp ⟨rfl, ⟨⟨⟨trivial, .inr ⟨rfl, rfl, rfl⟩⟩, .inr ⟨rfl, rfl, rfl⟩⟩, .inr ⟨rfl, rfl, rfl⟩⟩, by decide, rfl, trivial⟩ (LeE.upd rfl rfl (LeE.upd rfl rfl (LeE.upd rfl rfl (LeE.upd rfl rfl (LeE.upd rfl rfl (LeE.upd rfl rfl (LeE.upd rfl rfl (LeE.none rfl rfl))))))))) rfl ?_
                    refine W.now ?_
                    refine InBlock.n ?_
                    have q0 := (Prod.mk.inj (Option.some.inj H)).1
                    have q1 := (Prod.mk.inj (Prod.mk.inj (Option.some.inj H)).2).1
                    have q2 := (Prod.mk.inj (Prod.mk.inj (Option.some.inj H)).2).2
                    subst q0
                    subst q1
                    subst q2
                    exact ⟨rfl, rfl, rfl⟩
              · rintro _ _ _ ⟨rfl, rfl, rfl⟩
                refine W.now ?_
                refine Then.n ?_
                refine WP.region ?_
                refine WPL.q (q_mv (v := .lit (.int _ _)) rfl) rfl ?_
                refine WPL.q (q_add rfl rfl) rfl ?_
                refine WPL.q (q_as (v := .lit (.int _ _)) rfl) rfl ?_
                refine WPL.nilW ?_
                refine W.cv (Cv.weak (E' := (((((((Env.none.upd 0 (.ro (Rd.slice (Rd.int .i64)) false x3)).upd 1 (.ro (Rd.slice (Rd.int .i64)) false x4)).upd 5 (.ro (Rd.slice (Rd.int .u32)) false x7170)).upd 7 (.lit (.pointer none))).upd 9 (.ptr 0 0)).upd 10 (.whole 2)).upd 11 (.lit (.int .i64 (IntKind.wrap .i64 (x7326 + 1)))))) (M' := (((Mem.nil.push (.cells 56 [.whole 1, .lit (.int .i64 x7431)])).push (.row 5 (Rd.int .u8) x7432)).push (.row 3 (Rd.int .i64) x7433))) [0, 1, 2] hnp ⟨rfl, ⟨⟨⟨trivial, .inr ⟨rfl, rfl, rfl⟩⟩, .inr ⟨rfl, rfl, rfl⟩⟩, .inr ⟨rfl, rfl, rfl⟩⟩, by decide, rfl, trivial⟩ (LeE.upd rfl rfl (LeE.upd rfl rfl (LeE.upd rfl rfl (LeE.upd rfl rfl (LeE.upd rfl rfl (LeE.upd rfl rfl (LeE.upd rfl rfl (LeE.none rfl rfl))))))))) rfl ?_
                refine W.now ?_
                exact Then.n ⟨n, ((IntKind.wrap .i64 (x7326 + 1)), x7431, x7432, x7433), Nat.lt_succ_self n, H, rfl, rfl⟩
            · replace H := cnf hb H
              refine WP.exitW ?_
              refine W.cv (Cv.weak (E' := (((Env.none.upd 7 (.lit (.pointer none))).upd 9 (.ptr 0 0)).upd 10 (.whole 2))) (M' := (((Mem.nil.push (.cells 56 [.whole 1, .lit (.int .i64 x7327)])).push (.row 5 (Rd.int .u8) x7328)).push (.row 3 (Rd.int .i64) x7329))) [0, 1, 2] hnp ⟨rfl, ⟨⟨⟨trivial, .inr ⟨rfl, rfl, rfl⟩⟩, .inr ⟨rfl, rfl, rfl⟩⟩, .inr ⟨rfl, rfl, rfl⟩⟩, by decide, rfl, trivial⟩ (LeE.upd rfl rfl (LeE.upd rfl rfl (LeE.upd rfl rfl (LeE.none rfl rfl))))) rfl ?_
              refine W.now ?_
              refine Then.x ?_
              refine Then.x ?_
              have q0 := (Prod.mk.inj (Option.some.inj H)).1
              have q1 := (Prod.mk.inj (Prod.mk.inj (Option.some.inj H)).2).1
              have q2 := (Prod.mk.inj (Prod.mk.inj (Option.some.inj H)).2).2
              subst q0
              subst q1
              subst q2
              exact ⟨rfl, rfl, rfl⟩
          · rintro _ _ _ ⟨rfl, rfl, rfl⟩
            refine W.now ?_
            refine InBlock.x0 ?_
            refine Then.n ?_
            refine WP.seq ?_
            refine WP.region ?_
            refine WPL.q (q_mv (v := .ptr _ _) rfl) rfl ?_
            obtain ⟨x7467, h7465, H⟩ := bnd H
            refine WPL.c (runs_call (s := [0, 1]) (t := [0, 3]) (N := 4) (bor := []) fn11 rfl (s_bits_Writer_Done k x7396 x7397 x7467 h7465) ⟨rfl, ⟨⟨trivial, .inr ⟨rfl, rfl, rfl⟩⟩, .inr ⟨rfl, rfl, rfl⟩⟩, by decide, rfl, trivial⟩ rfl trivial (.ren rfl rfl .nil) rfl ⟨⟨trivial, rfl⟩, rfl⟩ rfl) rfl ?_
            obtain ⟨x7469, h7467, H⟩ := bnd H
            refine WPL.c (runs_call (s := []) (t := [4]) (N := 5) (bor := []) fn10 rfl (s_bits_NewReader k x7467 x7469 h7467) ⟨rfl, trivial, by decide, rfl, trivial⟩ rfl trivial (.ren rfl rfl .nil) rfl ⟨trivial, rfl⟩ rfl) rfl ?_
            refine WPL.q (q_as (v := .ptr _ _) rfl) rfl ?_
            refine WPL.nilW ?_
            refine W.now ?_
            refine Then.n ?_
            refine WP.seq ?_
            refine WP.seq ?_
            refine WP.region ?_
            refine WPL.q (q_as (v := .lit (.int _ _)) rfl) rfl ?_
            refine WPL.nilW ?_
            refine W.now ?_
            refine Then.n ?_
            refine WP.block ?_
            refine WP.cv (Cv.weak (E' := ((((Env.none.upd 7 (.lit (.pointer none))).upd 10 (.whole 0)).upd 13 (.ptr 1 0)).upd 14 (.lit (.int .i64 0)))) (M' := ((Mem.nil.push (.row 3 (Rd.int .i64) x7398)).push (.cells 64 [.ro (Rd.slice (Rd.int .u8)) false x7469, .lit (.int .i64 0)]))) [2, 4] hnp ⟨rfl, ⟨⟨trivial, .inr ⟨rfl, rfl, rfl⟩⟩, .inr ⟨rfl, rfl, rfl⟩⟩, by decide, rfl, trivial⟩ (LeE.upd rfl rfl (LeE.upd rfl rfl (LeE.upd rfl rfl (LeE.upd rfl rfl (LeE.none rfl rfl)))))) ?_
            obtain ⟨y7479, H7477, H⟩ := bnd H
            refine WP.monoW (Q := fun x E M => match (generalizing := false) y7479 with | (Sum.inl _) => x = .ret ∧ E = (Env.none.upd 4 (.lit (.bool false))) ∧ M = Mem.nil | (Sum.inr _) => x = .exit 2 ∧ E = (Env.none.upd 13 (.ptr 0 0)) ∧ M = (Mem.nil.push (.cells 64 [.ro (Rd.slice (Rd.int .u8)) false x7469, .lit (.int .i64 0)]))) ?_ ?_
            · refine WP.loop (β := Unit) (fun n b => g_quirelaw02_HuffBack_l1 k x7398 x7469 n = some y7479) (fun b => ((((Env.none.upd 7 (.lit (.pointer none))).upd 10 (.whole 0)).upd 13 (.ptr 1 0)).upd 14 (.lit (.int .i64 0)))) (fun b => ((Mem.nil.push (.row 3 (Rd.int .i64) x7398)).push (.cells 64 [.ro (Rd.slice (Rd.int .u8)) false x7469, .lit (.int .i64 0)]))) k () H7477 rfl rfl ?_
              rintro n _ H
              obtain _ | n := n
              · exact nf rfl H
              rw [g_quirelaw02_HuffBack_l1.eq_2] at H
              show WP _ _ _ _ ((((Env.none.upd 7 (.lit (.pointer none))).upd 10 (.whole 0)).upd 13 (.ptr 1 0)).upd 14 (.lit (.int .i64 0))) ((Mem.nil.push (.row 3 (Rd.int .i64) x7398)).push (.cells 64 [.ro (Rd.slice (Rd.int .u8)) false x7469, .lit (.int .i64 0)])) _
              refine WP.seq ?_
              refine WP.seq ?_
              refine WP.region ?_
              refine WPL.q (q_mv (v := .lit (.int _ _)) rfl) rfl ?_
              refine WPL.q (q_mv (v := .whole _) rfl) rfl ?_
              refine WPL.q (q_len_row sl22 rfl rfl) rfl ?_
              obtain ⟨x7475, h7475, H⟩ := bnd H
              refine WPL.q (q_nm (q_lss rfl rfl) (nm_bool h7475)) rfl ?_
              refine WPL.nilW ?_
              refine W.now ?_
              refine Then.n ?_
              refine WP.cond (t := x7475) rfl (fun hb => ?_) (fun hb => ?_)
              · replace H := cnt hb H
                refine WP.skipW ?_
                refine W.now ?_
                refine Then.n ?_
                refine WP.seq ?_
                refine WP.block ?_
                refine WP.seq ?_
                refine WP.region ?_
                refine WPL.q (q_mv (v := .lit _) rfl) rfl ?_
                refine WPL.q (q_mv (v := .ptr _ _) rfl) rfl ?_
                obtain ⟨_, h7476, H⟩ := bnd H
                refine WPL.c (runs_call (s := [1]) (t := [1]) (N := 2) (bor := []) fn12 rfl (s_huff_Decoder_Next k x7469 0 h7476) ⟨rfl, ⟨trivial, .inr ⟨rfl, rfl, rfl⟩⟩, by decide, rfl, trivial⟩ rfl trivial (.ren rfl rfl (.ren rfl rfl .nil)) rfl ⟨trivial, rfl⟩ rfl) rfl ?_
                refine WPL.q (q_mv (v := .tup _) rfl) rfl ?_
                refine WPL.q (q_extract rfl rfl) rfl ?_
                refine WPL.q (q_extract rfl rfl) rfl ?_
                refine WPL.q (q_as (v := .lit (.int _ _)) rfl) rfl ?_
                refine WPL.q (q_as (v := .lit (.int _ _)) rfl) rfl ?_
                refine WPL.nilW ?_
                refine W.now ?_
                refine Then.n ?_
                refine WP.seq ?_
                refine WP.region ?_
                refine WPL.q (q_mv (v := .lit (.int _ _)) rfl) rfl ?_
                refine WPL.q (q_neq rfl rfl) rfl ?_
                refine WPL.q (q_mv (v := .lit (.bool _)) rfl) rfl ?_
                refine WPL.skipg (b' := true) rfl rfl rfl rfl rfl ?_
                refine WPL.skipg (b' := true) rfl rfl rfl rfl rfl ?_
                refine WPL.skipg (b' := true) rfl rfl rfl rfl rfl ?_
                refine WPL.skipg (b' := true) rfl rfl rfl rfl rfl ?_
                refine WPL.skipg (b' := true) rfl rfl rfl rfl rfl ?_
                refine WPL.skipg (b' := true) rfl rfl rfl rfl rfl ?_
                refine WPL.q (q_pickT (v := .lit (.bool _)) rfl rfl) rfl ?_
                refine WPL.nilW ?_
                refine W.now ?_
                refine Then.n ?_
                refine WP.condT rfl ?_
                refine WP.seq ?_
                refine WP.region ?_
                refine WPL.q (q_as (v := .lit (.bool _)) rfl) rfl ?_
                refine WPL.nilW ?_
                refine W.now ?_
                refine Then.n ?_
                refine WP.retW ?_
                refine W.cv (Cv.weak (E' := (Env.none.upd 4 (.lit (.bool false)))) (M' := Mem.nil) [] hnp ⟨rfl, trivial, by decide, rfl, trivial⟩ (LeE.upd rfl rfl (LeE.none rfl rfl))) rfl ?_
                refine W.now ?_
                refine InBlock.r ?_
                refine Then.r ?_
                refine Then.r ?_
                have q0 := Option.some.inj H
                subst q0
                exact ⟨rfl, rfl, rfl⟩
              · replace H := cnf hb H
                refine WP.exitW ?_
                refine W.cv (Cv.weak (E' := (Env.none.upd 13 (.ptr 0 0))) (M' := (Mem.nil.push (.cells 64 [.ro (Rd.slice (Rd.int .u8)) false x7469, .lit (.int .i64 0)]))) [1] hnp ⟨rfl, ⟨trivial, .inr ⟨rfl, rfl, rfl⟩⟩, by decide, rfl, trivial⟩ (LeE.upd rfl rfl (LeE.none rfl rfl))) rfl ?_
                refine W.now ?_
                refine Then.x ?_
                refine Then.x ?_
                have q0 := Option.some.inj H
                subst q0
                exact ⟨rfl, rfl, rfl⟩
            · rcases y7479 with _ | _
              · rintro _ _ _ ⟨rfl, rfl, rfl⟩
                refine W.now ?_
                refine InBlock.r ?_
                refine Then.r ?_
                have q0 := (Option.some.inj H)
                subst q0
                exact ⟨trivial, _, rfl, [], (.lit (.bool false)), Mem.nil, ⟨rfl, trivial, by decide, rfl, trivial⟩, rfl, rfl, rfl, rfl⟩
              · rintro _ _ _ ⟨rfl, rfl, rfl⟩
                refine W.now ?_
                refine InBlock.x0 ?_
                refine Then.n ?_
                refine WP.seq ?_
                refine WP.region ?_
                refine WPL.q (q_mv (v := .ptr _ _) rfl) rfl ?_
                obtain ⟨x7481, h7479, H⟩ := bnd H
                refine WPL.c (runs_call (s := [0]) (t := [0]) (N := 1) (bor := []) fn13 rfl (s_bits_Reader_Left k x7469 0 x7481 h7479) ⟨rfl, ⟨trivial, .inr ⟨rfl, rfl, rfl⟩⟩, by decide, rfl, trivial⟩ rfl trivial (.ren rfl rfl .nil) rfl ⟨trivial, rfl⟩ rfl) rfl ?_
                refine WPL.q (q_lss rfl rfl) rfl ?_
                refine WPL.q (q_as (v := .lit (.bool _)) rfl) rfl ?_
                refine WPL.nilW ?_
                refine W.now ?_
                refine Then.n ?_
                refine WP.retW ?_
                refine W.now ?_
                have q0 := (Option.some.inj H)
                subst q0
                exact ⟨trivial, _, rfl, [], (.lit (.bool (decide (x7481 < 8)))), Mem.nil, ⟨rfl, trivial, by decide, rfl, trivial⟩, rfl, rfl, rfl, rfl⟩
  · refine WPL.c (runs_call (s := []) (t := [0, 1]) (N := 2) (bor := []) fn5 rfl (s_huff_New k x3 (Sum.inr (x7174, x7175)) h7171) ⟨rfl, trivial, by decide, rfl, trivial⟩ rfl trivial (.ren rfl rfl .nil) rfl ⟨⟨trivial, rfl⟩, rfl⟩ rfl) rfl ?_
    refine WPL.q (q_mv (v := .tup _) rfl) rfl ?_
    refine WPL.q (q_extract rfl rfl) rfl ?_
    refine WPL.q (q_extract rfl rfl) rfl ?_
    refine WPL.q (q_as (v := .ptr _ _) rfl) rfl ?_
    refine WPL.q (q_as (v := .lit (.int _ _)) rfl) rfl ?_
    refine WPL.nilW ?_
    refine W.now ?_
    refine Then.n ?_
    refine WP.seq ?_
    refine WP.seq ?_
    obtain ⟨x7493, H7496, H⟩ := bnd H
    refine WP.monoW (Q := fun x E M => x = .normal ∧ E = ((((((Env.none.upd 0 (.ro (Rd.slice (Rd.int .i64)) false x3)).upd 1 (.ro (Rd.slice (Rd.int .i64)) false x4)).upd 5 (.ro (Rd.slice (Rd.int .u32)) false x7170)).upd 6 (.lit (.int .i64 x7171))).upd 7 (.ptr 0 0)).upd 33 (.lit (.bool x7493))) ∧ M = ((Mem.nil.push (.cells 52 [.lit (.int .i64 (List.getD x7174 0 (0 : Int))), .lit (.int .i64 (List.getD x7174 1 (0 : Int))), .lit (.int .i64 (List.getD x7174 2 (0 : Int))), .lit (.int .i64 (List.getD x7174 3 (0 : Int))), .lit (.int .i64 (List.getD x7174 4 (0 : Int))), .lit (.int .i64 (List.getD x7174 5 (0 : Int))), .lit (.int .i64 (List.getD x7174 6 (0 : Int))), .lit (.int .i64 (List.getD x7174 7 (0 : Int))), .lit (.int .i64 (List.getD x7174 8 (0 : Int))), .lit (.int .i64 (List.getD x7174 9 (0 : Int))), .lit (.int .i64 (List.getD x7174 10 (0 : Int))), .lit (.int .i64 (List.getD x7174 11 (0 : Int))), .lit (.int .i64 (List.getD x7174 12 (0 : Int))), .lit (.int .i64 (List.getD x7174 13 (0 : Int))), .lit (.int .i64 (List.getD x7174 14 (0 : Int))), .lit (.int .i64 (List.getD x7174 15 (0 : Int))), .whole 1])).push (.row 3 (Rd.int .i64) x7175))) ?_ ?_
    · clear H
      have H := H7496
      clear H7496
      refine WP.region ?_
      refine WPL.q (q_mv (v := .lit (.int _ _)) rfl) rfl ?_
      refine WPL.q (q_mv (v := .lit (.int _ _)) rfl) rfl ?_
      refine WPL.q (q_neq rfl rfl) rfl ?_
      refine WPL.q (q_mv (v := .lit (.bool _)) rfl) rfl ?_
      refine WPL.split (t := 30) (b := (!decide (x7171 = 0))) rfl (fun hb7493 => ?_) (fun hb7493 => ?_)
      · replace H := cnt hb7493 H
        refine WPL.skipg (b' := true) rfl rfl (lb hb7493) rfl rfl ?_
        refine WPL.skipg (b' := true) rfl rfl (lb hb7493) rfl rfl ?_
        refine WPL.q (q_pickT (v := .lit (.bool _)) (lb hb7493) rfl) rfl ?_
        refine WPL.nilW ?_
        refine W.cv (Cv.weak (E' := ((((((Env.none.upd 0 (.ro (Rd.slice (Rd.int .i64)) false x3)).upd 1 (.ro (Rd.slice (Rd.int .i64)) false x4)).upd 5 (.ro (Rd.slice (Rd.int .u32)) false x7170)).upd 6 (.lit (.int .i64 x7171))).upd 7 (.ptr 0 0)).upd 33 (.lit (.bool true)))) (M' := ((Mem.nil.push (.cells 52 [.lit (.int .i64 (List.getD x7174 0 (0 : Int))), .lit (.int .i64 (List.getD x7174 1 (0 : Int))), .lit (.int .i64 (List.getD x7174 2 (0 : Int))), .lit (.int .i64 (List.getD x7174 3 (0 : Int))), .lit (.int .i64 (List.getD x7174 4 (0 : Int))), .lit (.int .i64 (List.getD x7174 5 (0 : Int))), .lit (.int .i64 (List.getD x7174 6 (0 : Int))), .lit (.int .i64 (List.getD x7174 7 (0 : Int))), .lit (.int .i64 (List.getD x7174 8 (0 : Int))), .lit (.int .i64 (List.getD x7174 9 (0 : Int))), .lit (.int .i64 (List.getD x7174 10 (0 : Int))), .lit (.int .i64 (List.getD x7174 11 (0 : Int))), .lit (.int .i64 (List.getD x7174 12 (0 : Int))), .lit (.int .i64 (List.getD x7174 13 (0 : Int))), .lit (.int .i64 (List.getD x7174 14 (0 : Int))), .lit (.int .i64 (List.getD x7174 15 (0 : Int))), .whole 1])).push (.row 3 (Rd.int .i64) x7175))) [0, 1] hnp ⟨rfl, ⟨⟨trivial, .inr ⟨rfl, rfl, rfl⟩⟩, .inr ⟨rfl, rfl, rfl⟩⟩, by decide, rfl, trivial⟩ (LeE.upd rfl rfl (LeE.upd rfl rfl (LeE.upd rfl rfl (LeE.upd rfl rfl (LeE.upd rfl rfl (LeE.upd rfl rfl (LeE.none rfl rfl)))))))) rfl ?_
        refine W.now ?_
        have q0 := (Option.some.inj H)
        subst q0
        exact ⟨rfl, rfl, rfl⟩
      · replace H := cnf hb7493 H
        obtain ⟨x7496, h7494, H⟩ := bnd H
        refine WPL.cg rfl rfl (lb hb7493) (runs_call (s := []) (t := []) (N := 2) (bor := []) fn6 rfl (s_quirelaw02_alive k x7496 h7494) ⟨rfl, trivial, by decide, rfl, trivial⟩ rfl trivial .nil rfl trivial rfl) rfl ?_
        refine WPL.qg rfl rfl (lb hb7493) (q_not rfl) rfl ?_
        refine WPL.q (q_pickF (v := .lit (.bool _)) (lb hb7493) rfl) rfl ?_
        refine WPL.nilW ?_
        refine W.cv (Cv.weak (E' := ((((((Env.none.upd 0 (.ro (Rd.slice (Rd.int .i64)) false x3)).upd 1 (.ro (Rd.slice (Rd.int .i64)) false x4)).upd 5 (.ro (Rd.slice (Rd.int .u32)) false x7170)).upd 6 (.lit (.int .i64 x7171))).upd 7 (.ptr 0 0)).upd 33 (.lit (.bool (!x7496))))) (M' := ((Mem.nil.push (.cells 52 [.lit (.int .i64 (List.getD x7174 0 (0 : Int))), .lit (.int .i64 (List.getD x7174 1 (0 : Int))), .lit (.int .i64 (List.getD x7174 2 (0 : Int))), .lit (.int .i64 (List.getD x7174 3 (0 : Int))), .lit (.int .i64 (List.getD x7174 4 (0 : Int))), .lit (.int .i64 (List.getD x7174 5 (0 : Int))), .lit (.int .i64 (List.getD x7174 6 (0 : Int))), .lit (.int .i64 (List.getD x7174 7 (0 : Int))), .lit (.int .i64 (List.getD x7174 8 (0 : Int))), .lit (.int .i64 (List.getD x7174 9 (0 : Int))), .lit (.int .i64 (List.getD x7174 10 (0 : Int))), .lit (.int .i64 (List.getD x7174 11 (0 : Int))), .lit (.int .i64 (List.getD x7174 12 (0 : Int))), .lit (.int .i64 (List.getD x7174 13 (0 : Int))), .lit (.int .i64 (List.getD x7174 14 (0 : Int))), .lit (.int .i64 (List.getD x7174 15 (0 : Int))), .whole 1])).push (.row 3 (Rd.int .i64) x7175))) [0, 1] hnp ⟨rfl, ⟨⟨trivial, .inr ⟨rfl, rfl, rfl⟩⟩, .inr ⟨rfl, rfl, rfl⟩⟩, by decide, rfl, trivial⟩ (LeE.upd rfl rfl (LeE.upd rfl rfl (LeE.upd rfl rfl (LeE.upd rfl rfl (LeE.upd rfl rfl (LeE.upd rfl rfl (LeE.none rfl rfl)))))))) rfl ?_
        refine W.now ?_
        have q0 := (Option.some.inj H)
        subst q0
        exact ⟨rfl, rfl, rfl⟩
    · rintro _ _ _ ⟨rfl, rfl, rfl⟩
      refine W.now ?_
      refine Then.n ?_
      refine WP.cond (t := x7493) rfl (fun hb => ?_) (fun hb => ?_)
      · replace H := cnt hb H
        refine WP.seq ?_
        refine WP.region ?_
        refine WPL.q (q_as (v := .lit (.bool _)) rfl) rfl ?_
        refine WPL.nilW ?_
        refine W.now ?_
        refine Then.n ?_
        refine WP.retW ?_
        refine W.now ?_
        refine Then.r ?_
        have q0 := (Option.some.inj H)
        subst q0
        exact ⟨trivial, _, rfl, [], (.lit (.bool false)), Mem.nil, ⟨rfl, trivial, by decide, rfl, trivial⟩, rfl, rfl, rfl, rfl⟩
      · replace H := cnf hb H
        refine WP.skipW ?_
        refine W.now ?_
        refine Then.n ?_
        refine WP.seq ?_
        refine WP.seq ?_
        refine WP.region ?_
        refine WPL.q (q_mv (v := .lit (.int _ _)) rfl) rfl ?_
        refine WPL.q (q_neq rfl rfl) rfl ?_
        refine WPL.nilW ?_
        refine W.now ?_
        refine Then.n ?_
        refine WP.cond (t := (!decide (x7171 = 0))) rfl (fun hb => ?_) (fun hb => ?_)
        · replace H := cnt hb H
          refine WP.seq ?_
          refine WP.region ?_
          refine WPL.q (q_as (v := .lit (.bool _)) rfl) rfl ?_
          refine WPL.nilW ?_
          refine W.now ?_
          refine Then.n ?_
          refine WP.retW ?_
          refine W.now ?_
          refine Then.r ?_
          have q0 := (Option.some.inj H)
          subst q0
          exact ⟨trivial, _, rfl, [], (.lit (.bool true)), Mem.nil, ⟨rfl, trivial, by decide, rfl, trivial⟩, rfl, rfl, rfl, rfl⟩
        · replace H := cnf hb H
          refine WP.skipW ?_
          refine W.now ?_
          refine Then.n ?_
          refine WP.seq ?_
          refine WP.region ?_
          obtain ⟨_, h7497, H⟩ := bnd H
          refine WPL.c (runs_call (s := []) (t := [2]) (N := 3) (bor := []) fn7 rfl (s_bits_NewWriter k h7497) ⟨rfl, trivial, by decide, rfl, trivial⟩ rfl trivial .nil rfl ⟨trivial, rfl⟩ rfl) rfl ?_
          refine WPL.q (q_as (v := .ptr _ _) rfl) rfl ?_
          refine WPL.nilW ?_
          refine W.now ?_
          refine Then.n ?_
          refine WP.seq ?_
          refine WP.region ?_
          refine WPL.q (q_as (v := .lit _) rfl) rfl ?_
          refine WPL.nilW ?_
          refine W.now ?_
          refine Then.n ?_
          refine WP.seq ?_
          refine WP.seq ?_
          refine WP.region ?_
          refine WPL.q (q_as (v := .lit (.int _ _)) rfl) rfl ?_
          refine WPL.nilW ?_
          refine W.now ?_
          refine Then.n ?_
          refine WP.block ?_
          refine WP.cv (Cv.vir 3 (Rd.int .i64) (N := 3) rfl 10 rfl) ?_
          refine WP.cv (Cv.virC 5 (Rd.int .u8) (N := 4) rfl rfl (i := 2) (off := 0) rfl rfl) ?_
          refine WP.cv (Cv.weak (E' := (((((((Env.none.upd 0 (.ro (Rd.slice (Rd.int .i64)) false x3)).upd 1 (.ro (Rd.slice (Rd.int .i64)) false x4)).upd 5 (.ro (Rd.slice (Rd.int .u32)) false x7170)).upd 7 (.ptr 0 0)).upd 9 (.ptr 2 0)).upd 10 (.whole 4)).upd 11 (.lit (.int .i64 0)))) (M' := (((((Mem.nil.push (.cells 52 [.lit (.int .i64 (List.getD x7174 0 (0 : Int))), .lit (.int .i64 (List.getD x7174 1 (0 : Int))), .lit (.int .i64 (List.getD x7174 2 (0 : Int))), .lit (.int .i64 (List.getD x7174 3 (0 : Int))), .lit (.int .i64 (List.getD x7174 4 (0 : Int))), .lit (.int .i64 (List.getD x7174 5 (0 : Int))), .lit (.int .i64 (List.getD x7174 6 (0 : Int))), .lit (.int .i64 (List.getD x7174 7 (0 : Int))), .lit (.int .i64 (List.getD x7174 8 (0 : Int))), .lit (.int .i64 (List.getD x7174 9 (0 : Int))), .lit (.int .i64 (List.getD x7174 10 (0 : Int))), .lit (.int .i64 (List.getD x7174 11 (0 : Int))), .lit (.int .i64 (List.getD x7174 12 (0 : Int))), .lit (.int .i64 (List.getD x7174 13 (0 : Int))), .lit (.int .i64 (List.getD x7174 14 (0 : Int))), .lit (.int .i64 (List.getD x7174 15 (0 : Int))), .whole 1])).push (.row 3 (Rd.int .i64) x7175)).push (.cells 56 [.whole 3, .lit (.int .i64 0)])).push (.row 5 (Rd.int .u8) ([] : List Int))).push (.row 3 (Rd.int .i64) ([] : List Int)))) [0, 1, 2, 4, 3] hnp ⟨rfl, ⟨⟨⟨⟨⟨trivial, .inr ⟨rfl, rfl, rfl⟩⟩, .inr ⟨rfl, rfl, rfl⟩⟩, .inr ⟨rfl, rfl, rfl⟩⟩, .inr ⟨rfl, rfl, rfl⟩⟩, .inr ⟨rfl, rfl, rfl⟩⟩, by decide, rfl, trivial⟩ (LeE.upd rfl rfl (LeE.upd rfl rfl (LeE.upd rfl rfl (LeE.upd rfl rfl (LeE.upd rfl rfl (LeE.upd rfl rfl (LeE.upd rfl rfl (LeE.none rfl rfl))))))))) ?_
          obtain ⟨⟨x7701, x7702, x7703⟩, H7769, H⟩ := bnd H
          refine WP.monoW (Q := fun x E M => x = .exit 0 ∧ E = (((Env.none.upd 7 (.ptr 0 0)).upd 9 (.ptr 2 0)).upd 10 (.whole 4)) ∧ M = (((((Mem.nil.push (.cells 52 [.lit (.int .i64 (List.getD x7174 0 (0 : Int))), .lit (.int .i64 (List.getD x7174 1 (0 : Int))), .lit (.int .i64 (List.getD x7174 2 (0 : Int))), .lit (.int .i64 (List.getD x7174 3 (0 : Int))), .lit (.int .i64 (List.getD x7174 4 (0 : Int))), .lit (.int .i64 (List.getD x7174 5 (0 : Int))), .lit (.int .i64 (List.getD x7174 6 (0 : Int))), .lit (.int .i64 (List.getD x7174 7 (0 : Int))), .lit (.int .i64 (List.getD x7174 8 (0 : Int))), .lit (.int .i64 (List.getD x7174 9 (0 : Int))), .lit (.int .i64 (List.getD x7174 10 (0 : Int))), .lit (.int .i64 (List.getD x7174 11 (0 : Int))), .lit (.int .i64 (List.getD x7174 12 (0 : Int))), .lit (.int .i64 (List.getD x7174 13 (0 : Int))), .lit (.int .i64 (List.getD x7174 14 (0 : Int))), .lit (.int .i64 (List.getD x7174 15 (0 : Int))), .whole 1])).push (.row 3 (Rd.int .i64) x7175)).push (.cells 56 [.whole 3, .lit (.int .i64 x7701)])).push (.row 5 (Rd.int .u8) x7702)).push (.row 3 (Rd.int .i64) x7703))) ?_ ?_
          · refine WP.loop (β := Int × Int × (List Int) × (List Int)) (fun n b => g_quirelaw02_HuffBack_l2 k x3 x4 x7170 n b.1 b.2.1 b.2.2.1 b.2.2.2 = some (x7701, x7702, x7703)) (fun b => (((((((Env.none.upd 0 (.ro (Rd.slice (Rd.int .i64)) false x3)).upd 1 (.ro (Rd.slice (Rd.int .i64)) false x4)).upd 5 (.ro (Rd.slice (Rd.int .u32)) false x7170)).upd 7 (.ptr 0 0)).upd 9 (.ptr 2 0)).upd 10 (.whole 4)).upd 11 (.lit (.int .i64 b.1)))) (fun b => (((((Mem.nil.push (.cells 52 [.lit (.int .i64 (List.getD x7174 0 (0 : Int))), .lit (.int .i64 (List.getD x7174 1 (0 : Int))), .lit (.int .i64 (List.getD x7174 2 (0 : Int))), .lit (.int .i64 (List.getD x7174 3 (0 : Int))), .lit (.int .i64 (List.getD x7174 4 (0 : Int))), .lit (.int .i64 (List.getD x7174 5 (0 : Int))), .lit (.int .i64 (List.getD x7174 6 (0 : Int))), .lit (.int .i64 (List.getD x7174 7 (0 : Int))), .lit (.int .i64 (List.getD x7174 8 (0 : Int))), .lit (.int .i64 (List.getD x7174 9 (0 : Int))), .lit (.int .i64 (List.getD x7174 10 (0 : Int))), .lit (.int .i64 (List.getD x7174 11 (0 : Int))), .lit (.int .i64 (List.getD x7174 12 (0 : Int))), .lit (.int .i64 (List.getD x7174 13 (0 : Int))), .lit (.int .i64 (List.getD x7174 14 (0 : Int))), .lit (.int .i64 (List.getD x7174 15 (0 : Int))), .whole 1])).push (.row 3 (Rd.int .i64) x7175)).push (.cells 56 [.whole 3, .lit (.int .i64 b.2.1)])).push (.row 5 (Rd.int .u8) b.2.2.1)).push (.row 3 (Rd.int .i64) b.2.2.2))) k (0, 0, ([] : List Int), ([] : List Int)) H7769 rfl rfl ?_
            rintro n ⟨x7631, x7632, x7633, x7634⟩ H
            obtain _ | n := n
            · exact nf rfl H
            rw [g_quirelaw02_HuffBack_l2.eq_2] at H
            show WP _ _ _ _ (((((((Env.none.upd 0 (.ro (Rd.slice (Rd.int .i64)) false x3)).upd 1 (.ro (Rd.slice (Rd.int .i64)) false x4)).upd 5 (.ro (Rd.slice (Rd.int .u32)) false x7170)).upd 7 (.ptr 0 0)).upd 9 (.ptr 2 0)).upd 10 (.whole 4)).upd 11 (.lit (.int .i64 x7631))) (((((Mem.nil.push (.cells 52 [.lit (.int .i64 (List.getD x7174 0 (0 : Int))), .lit (.int .i64 (List.getD x7174 1 (0 : Int))), .lit (.int .i64 (List.getD x7174 2 (0 : Int))), .lit (.int .i64 (List.getD x7174 3 (0 : Int))), .lit (.int .i64 (List.getD x7174 4 (0 : Int))), .lit (.int .i64 (List.getD x7174 5 (0 : Int))), .lit (.int .i64 (List.getD x7174 6 (0 : Int))), .lit (.int .i64 (List.getD x7174 7 (0 : Int))), .lit (.int .i64 (List.getD x7174 8 (0 : Int))), .lit (.int .i64 (List.getD x7174 9 (0 : Int))), .lit (.int .i64 (List.getD x7174 10 (0 : Int))), .lit (.int .i64 (List.getD x7174 11 (0 : Int))), .lit (.int .i64 (List.getD x7174 12 (0 : Int))), .lit (.int .i64 (List.getD x7174 13 (0 : Int))), .lit (.int .i64 (List.getD x7174 14 (0 : Int))), .lit (.int .i64 (List.getD x7174 15 (0 : Int))), .whole 1])).push (.row 3 (Rd.int .i64) x7175)).push (.cells 56 [.whole 3, .lit (.int .i64 x7632)])).push (.row 5 (Rd.int .u8) x7633)).push (.row 3 (Rd.int .i64) x7634)) _
            refine WP.seq ?_
            refine WP.seq ?_
            refine WP.region ?_
            refine WPL.q (q_mv (v := .lit (.int _ _)) rfl) rfl ?_
            refine WPL.q (q_mv (v := .ro _ _ _) rfl) rfl ?_
            refine WPL.q (q_len_ro sl22 rfl) rfl ?_
            obtain ⟨x7705, h7705, H⟩ := bnd H
            refine WPL.q (q_nm (q_lss rfl rfl) (nm_bool h7705)) rfl ?_
            refine WPL.nilW ?_
            refine W.now ?_
            refine Then.n ?_
            refine WP.cond (t := x7705) rfl (fun hb => ?_) (fun hb => ?_)
            · replace H := cnt hb H
              refine WP.skipW ?_
              refine W.now ?_
              refine Then.n ?_
              refine WP.seq ?_
              obtain ⟨⟨x7736, x7737, x7738⟩, H7768, H⟩ := bnd H
              refine WP.monoW (Q := fun x E M => x = .normal ∧ E = (((((((Env.none.upd 0 (.ro (Rd.slice (Rd.int .i64)) false x3)).upd 1 (.ro (Rd.slice (Rd.int .i64)) false x4)).upd 5 (.ro (Rd.slice (Rd.int .u32)) false x7170)).upd 7 (.ptr 0 0)).upd 9 (.ptr 2 0)).upd 10 (.whole 4)).upd 11 (.lit (.int .i64 x7631))) ∧ M = (((((Mem.nil.push (.cells 52 [.lit (.int .i64 (List.getD x7174 0 (0 : Int))), .lit (.int .i64 (List.getD x7174 1 (0 : Int))), .lit (.int .i64 (List.getD x7174 2 (0 : Int))), .lit (.int .i64 (List.getD x7174 3 (0 : Int))), .lit (.int .i64 (List.getD x7174 4 (0 : Int))), .lit (.int .i64 (List.getD x7174 5 (0 : Int))), .lit (.int .i64 (List.getD x7174 6 (0 : Int))), .lit (.int .i64 (List.getD x7174 7 (0 : Int))), .lit (.int .i64 (List.getD x7174 8 (0 : Int))), .lit (.int .i64 (List.getD x7174 9 (0 : Int))), .lit (.int .i64 (List.getD x7174 10 (0 : Int))), .lit (.int .i64 (List.getD x7174 11 (0 : Int))), .lit (.int .i64 (List.getD x7174 12 (0 : Int))), .lit (.int .i64 (List.getD x7174 13 (0 : Int))), .lit (.int .i64 (List.getD x7174 14 (0 : Int))), .lit (.int .i64 (List.getD x7174 15 (0 : Int))), .whole 1])).push (.row 3 (Rd.int .i64) x7175)).push (.cells 56 [.whole 3, .lit (.int .i64 x7736)])).push (.row 5 (Rd.int .u8) x7737)).push (.row 3 (Rd.int .i64) x7738))) ?_ ?_
              · clear H
                have H := H7768
                clear H7768
                refine WP.block ?_
                refine WP.seq ?_
                refine WP.region ?_
                refine WPL.q (q_mv (v := .ro _ _ _) rfl) rfl ?_
                refine WPL.q (q_mv (v := .lit (.int _ _)) rfl) rfl ?_
                obtain ⟨x7739, h7739, H⟩ := bnd H
                refine WPL.q (q_index_ro sl22 rfl rfl rfl h7739) rfl ?_
                refine WPL.q (q_load_sc sc3 rfl) rfl ?_
                refine WPL.q (q_as (v := .lit (.int _ _)) rfl) rfl ?_
                refine WPL.nilW ?_
                refine W.now ?_
                refine Then.n ?_
                refine WP.seq ?_
                obtain ⟨x7744, H7748, H⟩ := bnd H
                refine WP.monoW (Q := fun x E M => x = .normal ∧ E = (((((((((Env.none.upd 0 (.ro (Rd.slice (Rd.int .i64)) false x3)).upd 1 (.ro (Rd.slice (Rd.int .i64)) false x4)).upd 5 (.ro (Rd.slice (Rd.int .u32)) false x7170)).upd 7 (.ptr 0 0)).upd 9 (.ptr 2 0)).upd 10 (.whole 4)).upd 11 (.lit (.int .i64 x7631))).upd 12 (.lit (.int .i64 x7739))).upd 61 (.lit (.bool x7744))) ∧ M = (((((Mem.nil.push (.cells 52 [.lit (.int .i64 (List.getD x7174 0 (0 : Int))), .lit (.int .i64 (List.getD x7174 1 (0 : Int))), .lit (.int .i64 (List.getD x7174 2 (0 : Int))), .lit (.int .i64 (List.getD x7174 3 (0 : Int))), .lit (.int .i64 (List.getD x7174 4 (0 : Int))), .lit (.int .i64 (List.getD x7174 5 (0 : Int))), .lit (.int .i64 (List.getD x7174 6 (0 : Int))), .lit (.int .i64 (List.getD x7174 7 (0 : Int))), .lit (.int .i64 (List.getD x7174 8 (0 : Int))), .lit (.int .i64 (List.getD x7174 9 (0 : Int))), .lit (.int .i64 (List.getD x7174 10 (0 : Int))), .lit (.int .i64 (List.getD x7174 11 (0 : Int))), .lit (.int .i64 (List.getD x7174 12 (0 : Int))), .lit (.int .i64 (List.getD x7174 13 (0 : Int))), .lit (.int .i64 (List.getD x7174 14 (0 : Int))), .lit (.int .i64 (List.getD x7174 15 (0 : Int))), .whole 1])).push (.row 3 (Rd.int .i64) x7175)).push (.cells 56 [.whole 3, .lit (.int .i64 x7632)])).push (.row 5 (Rd.int .u8) x7633)).push (.row 3 (Rd.int .i64) x7634))) ?_ ?_
                · clear H
                  have H := H7748
                  clear H7748
                  refine WP.region ?_
                  refine WPL.q (q_mv (v := .lit (.int _ _)) rfl) rfl ?_
                  refine WPL.q (q_geq rfl rfl) rfl ?_
                  refine WPL.q (q_mv (v := .lit (.bool _)) rfl) rfl ?_
                  refine WPL.split (t := 49) (b := (decide (0 ≤ x7739))) rfl (fun hb7744 => ?_) (fun hb7744 => ?_)
                  · replace H := cnt hb7744 H
                    refine WPL.qg rfl rfl (lb hb7744) (q_mv (v := .lit (.int _ _)) rfl) rfl ?_
                    refine WPL.qg rfl rfl (lb hb7744) (q_mv (v := .ro _ _ _) rfl) rfl ?_
                    refine WPL.qg rfl rfl (lb hb7744) (q_len_ro sl22 rfl) rfl ?_
                    obtain ⟨x7746, h7746, H⟩ := bnd H
                    refine WPL.qg rfl rfl (lb hb7744) (q_nm (q_lss rfl rfl) (nm_bool h7746)) rfl ?_
                    refine WPL.q (q_pickT (v := .lit (.bool _)) (lb hb7744) rfl) rfl ?_
                    refine WPL.q (q_mv (v := .lit (.bool _)) rfl) rfl ?_
                    refine WPL.split (t := 55) (b := x7746) rfl (fun hb7746 => ?_) (fun hb7746 => ?_)
                    · replace H := cnt hb7746 H
                      refine WPL.qg rfl rfl (lb hb7746) (q_mv (v := .ro _ _ _) rfl) rfl ?_
                      refine WPL.qg rfl rfl (lb hb7746) (q_mv (v := .lit (.int _ _)) rfl) rfl ?_
                      obtain ⟨x7748, h7748, H⟩ := bnd H
                      refine WPL.qg rfl rfl (lb hb7746) (q_index_ro sl22 rfl rfl rfl h7748) rfl ?_
                      refine WPL.qg rfl rfl (lb hb7746) (q_load_sc sc3 rfl) rfl ?_
                      refine WPL.qg rfl rfl (lb hb7746) (q_gtr rfl rfl) rfl ?_
                      refine WPL.q (q_pickT (v := .lit (.bool _)) (lb hb7746) rfl) rfl ?_
                      refine WPL.nilW ?_
                      refine W.cv (Cv.weak (E' := (((((((((Env.none.upd 0 (.ro (Rd.slice (Rd.int .i64)) false x3)).upd 1 (.ro (Rd.slice (Rd.int .i64)) false x4)).upd 5 (.ro (Rd.slice (Rd.int .u32)) false x7170)).upd 7 (.ptr 0 0)).upd 9 (.ptr 2 0)).upd 10 (.whole 4)).upd 11 (.lit (.int .i64 x7631))).upd 12 (.lit (.int .i64 x7739))).upd 61 (.lit (.bool (decide (0 < x7748)))))) (M' := (((((Mem.nil.push (.cells 52 [.lit (.int .i64 (List.getD x7174 0 (0 : Int))), .lit (.int .i64 (List.getD x7174 1 (0 : Int))), .lit (.int .i64 (List.getD x7174 2 (0 : Int))), .lit (.int .i64 (List.getD x7174 3 (0 : Int))), .lit (.int .i64 (List.getD x7174 4 (0 : Int))), .lit (.int .i64 (List.getD x7174 5 (0 : Int))), .lit (.int .i64 (List.getD x7174 6 (0 : Int))), .lit (.int .i64 (List.getD x7174 7 (0 : Int))), .lit (.int .i64 (List.getD x7174 8 (0 : Int))), .lit (.int .i64 (List.getD x7174 9 (0 : Int))), .lit (.int .i64 (List.getD x7174 10 (0 : Int))), .lit (.int .i64 (List.getD x7174 11 (0 : Int))), .lit (.int .i64 (List.getD x7174 12 (0 : Int))), .lit (.int .i64 (List.getD x7174 13 (0 : Int))), .lit (.int .i64 (List.getD x7174 14 (0 : Int))), .lit (.int .i64 (List.getD x7174 15 (0 : Int))), .whole 1])).push (.row 3 (Rd.int .i64) x7175)).push (.cells 56 [.whole 3, .lit (.int .i64 x7632)])).push (.row 5 (Rd.int .u8) x7633)).push (.row 3 (Rd.int .i64) x7634))) [0, 1, 2, 3, 4] hnp ⟨rfl, ⟨⟨⟨⟨⟨trivial, .inr ⟨rfl, rfl, rfl⟩⟩, .inr ⟨rfl, rfl, rfl⟩⟩, .inr ⟨rfl, rfl, rfl⟩⟩, .inr ⟨rfl, rfl, rfl⟩⟩, .inr ⟨rfl, rfl, rfl⟩⟩, by decide, rfl, trivial⟩ (LeE.upd rfl rfl (LeE.upd rfl rfl (LeE.upd rfl rfl (LeE.upd rfl rfl (LeE.upd rfl rfl (LeE.upd rfl rfl (LeE.upd rfl rfl (LeE.upd rfl rfl (LeE.upd rfl rfl (LeE.none rfl rfl))))))))))) rfl ?_
                      refine W.now ?_
                      have q0 := (Option.some.inj H)
                      subst q0
                      exact ⟨rfl, rfl, rfl⟩
                    · replace H := cnf hb7746 H
                      refine WPL.skipg (b' := false) rfl rfl (lb hb7746) rfl rfl ?_
                      refine WPL.skipg (b' := false) rfl rfl (lb hb7746) rfl rfl ?_
                      refine WPL.skipg (b' := false) rfl rfl (lb hb7746) rfl rfl ?_
                      refine WPL.skipg (b' := false) rfl rfl (lb hb7746) rfl rfl ?_
                      refine WPL.skipg (b' := false) rfl rfl (lb hb7746) rfl rfl ?_
                      refine WPL.q (q_pickF (v := .lit (.bool _)) (lb hb7746) rfl) rfl ?_
                      refine WPL.nilW ?_
                      refine W.cv (Cv.weak (E' := (((((((((Env.none.upd 0 (.ro (Rd.slice (Rd.int .i64)) false x3)).upd 1 (.ro (Rd.slice (Rd.int .i64)) false x4)).upd 5 (.ro (Rd.slice (Rd.int .u32)) false x7170)).upd 7 (.ptr 0 0)).upd 9 (.ptr 2 0)).upd 10 (.whole 4)).upd 11 (.lit (.int .i64 x7631))).upd 12 (.lit (.int .i64 x7739))).upd 61 (.lit (.bool false)))) (M' := (((((Mem.nil.push (.cells 52 [.lit (.int .i64 (List.getD x7174 0 (0 : Int))), .lit (.int .i64 (List.getD x7174 1 (0 : Int))), .lit (.int .i64 (List.getD x7174 2 (0 : Int))), .lit (.int .i64 (List.getD x7174 3 (0 : Int))), .lit (.int .i64 (List.getD x7174 4 (0 : Int))), .lit (.int .i64 (List.getD x7174 5 (0 : Int))), .lit (.int .i64 (List.getD x7174 6 (0 : Int))), .lit (.int .i64 (List.getD x7174 7 (0 : Int))), .lit (.int .i64 (List.getD x7174 8 (0 : Int))), .lit (.int .i64 (List.getD x7174 9 (0 : Int))), .lit (.int .i64 (List.getD x7174 10 (0 : Int))), .lit (.int .i64 (List.getD x7174 11 (0 : Int))), .lit (.int .i64 (List.getD x7174 12 (0 : Int))), .lit (.int .i64 (List.getD x7174 13 (0 : Int))), .lit (.int .i64 (List.getD x7174 14 (0 : Int))), .lit (.int .i64 (List.getD x7174 15 (0 : Int))), .whole 1])).push (.row 3 (Rd.int .i64) x7175)).push (.cells 56 [.whole 3, .lit (.int .i64 x7632)])).push (.row 5 (Rd.int .u8) x7633)).push (.row 3 (Rd.int .i64) x7634))) [0, 1, 2, 3, 4] hnp ⟨rfl, ⟨⟨⟨⟨⟨trivial, .inr ⟨rfl, rfl, rfl⟩⟩, .inr ⟨rfl, rfl, rfl⟩⟩, .inr ⟨rfl, rfl, rfl⟩⟩, .inr ⟨rfl, rfl, rfl⟩⟩, .inr ⟨rfl, rfl, rfl⟩⟩, by decide, rfl, trivial⟩ (LeE.upd rfl rfl (LeE.upd rfl rfl (LeE.upd rfl rfl (LeE.upd rfl rfl (LeE.upd rfl rfl (LeE.upd rfl rfl (LeE.upd rfl rfl (LeE.upd rfl rfl (LeE.upd rfl rfl (LeE.none rfl rfl))))))))))) rfl ?_
                      refine W.now ?_
                      have q0 := (Option.some.inj H)
                      subst q0
                      exact ⟨rfl, rfl, rfl⟩
                  · replace H := cnf hb7744 H
                    refine WPL.skipg (b' := false) rfl rfl (lb hb7744) rfl rfl ?_
                    refine WPL.skipg (b' := false) rfl rfl (lb hb7744) rfl rfl ?_
                    refine WPL.skipg (b' := false) rfl rfl (lb hb7744) rfl rfl ?_
                    refine WPL.skipg (b' := false) rfl rfl (lb hb7744) rfl rfl ?_
                    refine WPL.q (q_pickF (v := .lit (.bool _)) (lb hb7744) rfl) rfl ?_
                    refine WPL.q (q_mv (v := .lit (.bool _)) rfl) rfl ?_
                    refine WPL.skipg (b' := false) rfl rfl rfl rfl rfl ?_
                    refine WPL.skipg (b' := false) rfl rfl rfl rfl rfl ?_
                    refine WPL.skipg (b' := false) rfl rfl rfl rfl rfl ?_
                    refine WPL.skipg (b' := false) rfl rfl rfl rfl rfl ?_
                    refine WPL.skipg (b' := false) rfl rfl rfl rfl rfl ?_
                    refine WPL.q (q_pickF (v := .lit (.bool _)) rfl rfl) rfl ?_
                    refine WPL.nilW ?_
                    refine W.cv (Cv.weak (E' := (((((((((Env.none.upd 0 (.ro (Rd.slice (Rd.int .i64)) false x3)).upd 1 (.ro (Rd.slice (Rd.int .i64)) false x4)).upd 5 (.ro (Rd.slice (Rd.int .u32)) false x7170)).upd 7 (.ptr 0 0)).upd 9 (.ptr 2 0)).upd 10 (.whole 4)).upd 11 (.lit (.int .i64 x7631))).upd 12 (.lit (.int .i64 x7739))).upd 61 (.lit (.bool false)))) (M' := (((((Mem.nil.push (.cells 52 [.lit (.int .i64 (List.getD x7174 0 (0 : Int))), .lit (.int .i64 (List.getD x7174 1 (0 : Int))), .lit (.int .i64 (List.getD x7174 2 (0 : Int))), .lit (.int .i64 (List.getD x7174 3 (0 : Int))), .lit (.int .i64 (List.getD x7174 4 (0 : Int))), .lit (.int .i64 (List.getD x7174 5 (0 : Int))), .lit (.int .i64 (List.getD x7174 6 (0 : Int))), .lit (.int .i64 (List.getD x7174 7 (0 : Int))), .lit (.int .i64 (List.getD x7174 8 (0 : Int))), .lit (.int .i64 (List.getD x7174 9 (0 : Int))), .lit (.int .i64 (List.getD x7174 10 (0 : Int))), .lit (.int .i64 (List.getD x7174 11 (0 : Int))), .lit (.int .i64 (List.getD x7174 12 (0 : Int))), .lit (.int .i64 (List.getD x7174 13 (0 : Int))), .lit (.int .i64 (List.getD x7174 14 (0 : Int))), .lit (.int .i64 (List.getD x7174 15 (0 : Int))), .whole 1])).push (.row 3 (Rd.int .i64) x7175)).push (.cells 56 [.whole 3, .lit (.int .i64 x7632)])).push (.row 5 (Rd.int .u8) x7633)).push (.row 3 (Rd.int .i64) x7634))) [0, 1, 2, 3, 4] hnp ⟨rfl, ⟨⟨⟨⟨⟨trivial, .inr ⟨rfl, rfl, rfl⟩⟩, .inr ⟨rfl, rfl, rfl⟩⟩, .inr ⟨rfl, rfl, rfl⟩⟩, .inr ⟨rfl, rfl, rfl⟩⟩, .inr ⟨rfl, rfl, rfl⟩⟩, by decide, rfl, trivial⟩ (LeE.upd rfl rfl (LeE.upd rfl rfl (LeE.upd rfl rfl (LeE.upd rfl rfl (LeE.upd rfl rfl (LeE.upd rfl rfl (LeE.upd rfl rfl (LeE.upd rfl rfl (LeE.upd rfl rfl (LeE.none rfl rfl))))))))))) rfl ?_
                    refine W.now ?_
                    have q0 := (Option.some.inj H)
                    subst q0
                    exact ⟨rfl, rfl, rfl⟩
                · rintro _ _ _ ⟨rfl, rfl, rfl⟩
                  refine W.now ?_
                  refine Then.n ?_
                  refine WP.cond (t := x7744) rfl (fun hb => ?_) (fun hb => ?_)
                  · replace H := cnt hb H
                    refine WP.seq ?_
                    refine WP.regionD' 15 [] [] mixed rfl ?_
                    refine WPD.takeT 0 rfl (by kernel_rfl) (q_mv (v := .ptr _ _) rfl) rfl ?_
                    refine WPD.takeT 1 rfl (by kernel_rfl) (q_mv (v := .ro _ _ _) rfl) rfl ?_
                    refine WPD.takeT 2 rfl (by kernel_rfl) (q_mv (v := .lit (.int _ _)) rfl) rfl ?_
                    obtain ⟨x7759, h7759, H⟩ := bnd H
                    refine WPD.takeT 3 rfl (by kernel_rfl) (q_index_ro sl23 rfl rfl rfl h7759) rfl ?_
                    refine WPD.takeT 4 rfl (by kernel_rfl) (q_load_sc sc34 rfl) rfl ?_
                    refine WPD.takeT 5 rfl (by kernel_rfl) (q_mv (v := .ro _ _ _) rfl) rfl ?_
                    refine WPD.takeT 6 rfl (by kernel_rfl) (q_mv (v := .lit (.int _ _)) rfl) rfl ?_
                    obtain ⟨x7760, h7760, H⟩ := bnd H
                    refine WPD.takeT 7 rfl (by kernel_rfl) (q_index_ro sl22 rfl rfl rfl h7760) rfl ?_
                    refine WPD.takeT 8 rfl (by kernel_rfl) (q_load_sc sc3 rfl) rfl ?_
                    refine WPD.takeT 10 rfl (by kernel_rfl) (q_mv (v := .ro _ _ _) rfl) rfl ?_
                    refine WPD.takeT 11 rfl (by kernel_rfl) (q_mv (v := .lit (.int _ _)) rfl) rfl ?_
                    obtain ⟨x7761, h7761, H⟩ := bnd H
                    refine WPD.takeT 12 rfl (by kernel_rfl) (q_index_ro sl22 rfl rfl rfl h7761) rfl ?_
                    refine WPD.takeT 13 rfl (by kernel_rfl) (q_load_sc sc3 rfl) rfl ?_
                    obtain ⟨x7763, h7761, H⟩ := bnd H
                    refine WPD.eff 9 [] [] rfl (by kernel_rfl) (runs_call (s := []) (t := []) (N := 5) (bor := []) fn9 rfl (s_bits_Reverse k x7759 x7760 x7763 h7761) ⟨rfl, trivial, by decide, rfl, trivial⟩ rfl trivial (.ren rfl rfl (.ren rfl rfl .nil)) rfl trivial rfl) rfl rfl ?_
                    obtain ⟨⟨x7765, x7766, x7767⟩, h7763, H⟩ := bnd H
                    refine WPD.eff 14 [] [] rfl (by kernel_rfl) (runs_call (s := [2, 3]) (t := [2, 5]) (N := 6) (bor := []) fn8 rfl (s_bits_Writer_Put__b k x7763 x7761 x7632 x7633 x7765 x7766 x7767 h7763) ⟨rfl, ⟨⟨trivial, .inr ⟨rfl, rfl, rfl⟩⟩, .inr ⟨rfl, rfl, rfl⟩⟩, by decide, rfl, trivial⟩ rfl trivial (.ren rfl rfl (.ren rfl rfl (.ren rfl rfl .nil))) rfl ⟨⟨trivial, rfl⟩, rfl⟩ rfl) rfl rfl ?_
                    refine WPD.doneW (by kernel_rfl) ?_
                    refine W.now ?_
                    refine Then.n ?_
                    refine WP.region ?_
                    refine WPL.q (q_mv (v := .whole _) rfl) rfl ?_
                    refine WPL.q (q_mv (v := .lit (.int _ _)) rfl) rfl ?_
                    refine WPL.d (d_buildSlice (ds := ([x7739] : List Int)) (R := (Rd.int .i64)) li22 rfl rfl rfl rfl rfl (JoinRows.cons1 Joins.sc rfl JoinRows.nil) rfl rfl) rfl ?_
                    obtain ⟨h7767, H⟩ := grd H
                    refine WPL.d (d_append ap22 rfl rfl rfl rfl (src_row sl22 rfl rfl) h7767 rfl) rfl ?_
                    refine WPL.q (q_as (v := .whole _) rfl) rfl ?_
                    refine WPL.nilW ?_
                    refine W.cv (Cv.weak (E' := (((((((Env.none.upd 0 (.ro (Rd.slice (Rd.int .i64)) false x3)).upd 1 (.ro (Rd.slice (Rd.int .i64)) false x4)).upd 5 (.ro (Rd.slice (Rd.int .u32)) false x7170)).upd 7 (.ptr 0 0)).upd 9 (.ptr 2 0)).upd 10 (.whole 4)).upd 11 (.lit (.int .i64 x7631)))) (M' := (((((Mem.nil.push (.cells 52 [.lit (.int .i64 (List.getD x7174 0 (0 : Int))), .lit (.int .i64 (List.getD x7174 1 (0 : Int))), .lit (.int .i64 (List.getD x7174 2 (0 : Int))), .lit (.int .i64 (List.getD x7174 3 (0 : Int))), .lit (.int .i64 (List.getD x7174 4 (0 : Int))), .lit (.int .i64 (List.getD x7174 5 (0 : Int))), .lit (.int .i64 (List.getD x7174 6 (0 : Int))), .lit (.int .i64 (List.getD x7174 7 (0 : Int))), .lit (.int .i64 (List.getD x7174 8 (0 : Int))), .lit (.int .i64 (List.getD x7174 9 (0 : Int))), .lit (.int .i64 (List.getD x7174 10 (0 : Int))), .lit (.int .i64 (List.getD x7174 11 (0 : Int))), .lit (.int .i64 (List.getD x7174 12 (0 : Int))), .lit (.int .i64 (List.getD x7174 13 (0 : Int))), .lit (.int .i64 (List.getD x7174 14 (0 : Int))), .lit (.int .i64 (List.getD x7174 15 (0 : Int))), .whole 1])).push (.row 3 (Rd.int .i64) x7175)).push (.cells 56 [.whole 3, .lit (.int .i64 x7766)])).push (.row 5 (Rd.int .u8) x7767)).push (.row 3 (Rd.int .i64) (x7634 ++ ([x7739] : List Int))))) [0, 1, 2, 5, 7] hnp ⟨rfl, ⟨⟨⟨⟨⟨trivial, .inr ⟨rfl, rfl, rfl⟩⟩, .inr ⟨rfl, rfl, rfl⟩⟩, .inr ⟨rfl, rfl, rfl⟩⟩, .inr ⟨rfl, rfl, rfl⟩⟩, .inr ⟨rfl, rfl, rfl⟩⟩, by decide, rfl, trivial⟩ (LeE.upd rfl rfl (LeE.upd rfl rfl (LeE.upd rfl rfl (LeE.upd rfl rfl (LeE.upd rfl rfl (LeE.upd rfl rfl (LeE.upd rfl rfl (LeE.none rfl rfl))))))))) rfl ?_
                    refine W.now ?_
                    refine InBlock.n ?_
                    have q0 := (Prod.mk.inj (Option.some.inj H)).1
                    have q1 := (Prod.mk.inj (Prod.mk.inj (Option.some.inj H)).2).1
                    have q2 := (Prod.mk.inj (Prod.mk.inj (Option.some.inj H)).2).2
                    subst q0
                    subst q1
                    subst q2
                    exact ⟨rfl, rfl, rfl⟩
                  · replace H := cnf hb H
                    refine WP.skipW ?_
                    refine W.cv (Cv.weak (E' := (((((((Env.none.upd 0 (.ro (Rd.slice (Rd.int .i64)) false x3)).upd 1 (.ro (Rd.slice (Rd.int .i64)) false x4)).upd 5 (.ro (Rd.slice (Rd.int .u32)) false x7170)).upd 7 (.ptr 0 0)).upd 9 (.ptr 2 0)).upd 10 (.whole 4)).upd 11 (.lit (.int .i64 x7631)))) (M' := (((((Mem.nil.push (.cells 52 [.lit (.int .i64 (List.getD x7174 0 (0 : Int))), .lit (.int .i64 (List.getD x7174 1 (0 : Int))), .lit (.int .i64 (List.getD x7174 2 (0 : Int))), .lit (.int .i64 (List.getD x7174 3 (0 : Int))), .lit (.int .i64 (List.getD x7174 4 (0 : Int))), .lit (.int .i64 (List.getD x7174 5 (0 : Int))), .lit (.int .i64 (List.getD x7174 6 (0 : Int))), .lit (.int .i64 (List.getD x7174 7 (0 : Int))), .lit (.int .i64 (List.getD x7174 8 (0 : Int))), .lit (.int .i64 (List.getD x7174 9 (0 : Int))), .lit (.int .i64 (List.getD x7174 10 (0 : Int))), .lit (.int .i64 (List.getD x7174 11 (0 : Int))), .lit (.int .i64 (List.getD x7174 12 (0 : Int))), .lit (.int .i64 (List.getD x7174 13 (0 : Int))), .lit (.int .i64 (List.getD x7174 14 (0 : Int))), .lit (.int .i64 (List.getD x7174 15 (0 : Int))), .whole 1])).push (.row 3 (Rd.int .i64) x7175)).push (.cells 56 [.whole 3, .lit (.int .i64 x7632)])).push (.row 5 (Rd.int .u8) x7633)).push (.row 3 (Rd.int .i64) x7634))) [0, 1, 2, 3, 4] hnp ⟨rfl, ⟨⟨⟨⟨⟨trivial, .inr ⟨rfl, rfl, rfl⟩⟩, .inr ⟨rfl, rfl, rfl⟩⟩, .inr ⟨rfl, rfl, rfl⟩⟩, .inr ⟨rfl, rfl, rfl⟩⟩, .inr ⟨rfl, rfl, rfl⟩⟩, by decide, rfl, trivial⟩ (LeE.upd rfl rfl (LeE.upd rfl rfl (LeE.upd rfl rfl (LeE.upd rfl rfl (LeE.upd rfl rfl (LeE.upd rfl rfl (LeE.upd rfl rfl (LeE.none rfl rfl))))))))) rfl ?_
                    refine W.now ?_
                    refine InBlock.n ?_
                    have q0 := (Prod.mk.inj (Option.some.inj H)).1
                    have q1 := (Prod.mk.inj (Prod.mk.inj (Option.some.inj H)).2).1
                    have q2 := (Prod.mk.inj (Prod.mk.inj (Option.some.inj H)).2).2
                    subst q0
                    subst q1
                    subst q2
                    exact ⟨rfl, rfl, rfl⟩
              · rintro _ _ _ ⟨rfl, rfl, rfl⟩
                refine W.now ?_
                refine Then.n ?_
                refine WP.region ?_
                refine WPL.q (q_mv (v := .lit (.int _ _)) rfl) rfl ?_
                refine WPL.q (q_add rfl rfl) rfl ?_
                refine WPL.q (q_as (v := .lit (.int _ _)) rfl) rfl ?_
                refine WPL.nilW ?_
                refine W.cv (Cv.weak (E' := (((((((Env.none.upd 0 (.ro (Rd.slice (Rd.int .i64)) false x3)).upd 1 (.ro (Rd.slice (Rd.int .i64)) false x4)).upd 5 (.ro (Rd.slice (Rd.int .u32)) false x7170)).upd 7 (.ptr 0 0)).upd 9 (.ptr 2 0)).upd 10 (.whole 4)).upd 11 (.lit (.int .i64 (IntKind.wrap .i64 (x7631 + 1)))))) (M' := (((((Mem.nil.push (.cells 52 [.lit (.int .i64 (List.getD x7174 0 (0 : Int))), .lit (.int .i64 (List.getD x7174 1 (0 : Int))), .lit (.int .i64 (List.getD x7174 2 (0 : Int))), .lit (.int .i64 (List.getD x7174 3 (0 : Int))), .lit (.int .i64 (List.getD x7174 4 (0 : Int))), .lit (.int .i64 (List.getD x7174 5 (0 : Int))), .lit (.int .i64 (List.getD x7174 6 (0 : Int))), .lit (.int .i64 (List.getD x7174 7 (0 : Int))), .lit (.int .i64 (List.getD x7174 8 (0 : Int))), .lit (.int .i64 (List.getD x7174 9 (0 : Int))), .lit (.int .i64 (List.getD x7174 10 (0 : Int))), .lit (.int .i64 (List.getD x7174 11 (0 : Int))), .lit (.int .i64 (List.getD x7174 12 (0 : Int))), .lit (.int .i64 (List.getD x7174 13 (0 : Int))), .lit (.int .i64 (List.getD x7174 14 (0 : Int))), .lit (.int .i64 (List.getD x7174 15 (0 : Int))), .whole 1])).push (.row 3 (Rd.int .i64) x7175)).push (.cells 56 [.whole 3, .lit (.int .i64 x7736)])).push (.row 5 (Rd.int .u8) x7737)).push (.row 3 (Rd.int .i64) x7738))) [0, 1, 2, 3, 4] hnp ⟨rfl, ⟨⟨⟨⟨⟨trivial, .inr ⟨rfl, rfl, rfl⟩⟩, .inr ⟨rfl, rfl, rfl⟩⟩, .inr ⟨rfl, rfl, rfl⟩⟩, .inr ⟨rfl, rfl, rfl⟩⟩, .inr ⟨rfl, rfl, rfl⟩⟩, by decide, rfl, trivial⟩ (LeE.upd rfl rfl (LeE.upd rfl rfl (LeE.upd rfl rfl (LeE.upd rfl rfl (LeE.upd rfl rfl (LeE.upd rfl rfl (LeE.upd rfl rfl (LeE.none rfl rfl))))))))) rfl ?_
                refine W.now ?_
                exact Then.n ⟨n, ((IntKind.wrap .i64 (x7631 + 1)), x7736, x7737, x7738), Nat.lt_succ_self n, H, rfl, rfl⟩
            · replace H := cnf hb H
              refine WP.exitW ?_
              refine W.cv (Cv.weak (E' := (((Env.none.upd 7 (.ptr 0 0)).upd 9 (.ptr 2 0)).upd 10 (.whole 4))) (M' := (((((Mem.nil.push (.cells 52 [.lit (.int .i64 (List.getD x7174 0 (0 : Int))), .lit (.int .i64 (List.getD x7174 1 (0 : Int))), .lit (.int .i64 (List.getD x7174 2 (0 : Int))), .lit (.int .i64 (List.getD x7174 3 (0 : Int))), .lit (.int .i64 (List.getD x7174 4 (0 : Int))), .lit (.int .i64 (List.getD x7174 5 (0 : Int))), .lit (.int .i64 (List.getD x7174 6 (0 : Int))), .lit (.int .i64 (List.getD x7174 7 (0 : Int))), .lit (.int .i64 (List.getD x7174 8 (0 : Int))), .lit (.int .i64 (List.getD x7174 9 (0 : Int))), .lit (.int .i64 (List.getD x7174 10 (0 : Int))), .lit (.int .i64 (List.getD x7174 11 (0 : Int))), .lit (.int .i64 (List.getD x7174 12 (0 : Int))), .lit (.int .i64 (List.getD x7174 13 (0 : Int))), .lit (.int .i64 (List.getD x7174 14 (0 : Int))), .lit (.int .i64 (List.getD x7174 15 (0 : Int))), .whole 1])).push (.row 3 (Rd.int .i64) x7175)).push (.cells 56 [.whole 3, .lit (.int .i64 x7632)])).push (.row 5 (Rd.int .u8) x7633)).push (.row 3 (Rd.int .i64) x7634))) [0, 1, 2, 3, 4] hnp ⟨rfl, ⟨⟨⟨⟨⟨trivial, .inr ⟨rfl, rfl, rfl⟩⟩, .inr ⟨rfl, rfl, rfl⟩⟩, .inr ⟨rfl, rfl, rfl⟩⟩, .inr ⟨rfl, rfl, rfl⟩⟩, .inr ⟨rfl, rfl, rfl⟩⟩, by decide, rfl, trivial⟩ (LeE.upd rfl rfl (LeE.upd rfl rfl (LeE.upd rfl rfl (LeE.none rfl rfl))))) rfl ?_
              refine W.now ?_
              refine Then.x ?_
              refine Then.x ?_
              have q0 := (Prod.mk.inj (Option.some.inj H)).1
              have q1 := (Prod.mk.inj (Prod.mk.inj (Option.some.inj H)).2).1
              have q2 := (Prod.mk.inj (Prod.mk.inj (Option.some.inj H)).2).2
              subst q0
              subst q1
              subst q2
              exact ⟨rfl, rfl, rfl⟩
          · rintro _ _ _ ⟨rfl, rfl, rfl⟩
            refine W.now ?_
            refine InBlock.x0 ?_
            refine Then.n ?_
            refine WP.seq ?_
            refine WP.region ?_
            refine WPL.q (q_mv (v := .ptr _ _) rfl) rfl ?_
            obtain ⟨x7772, h7770, H⟩ := bnd H
            refine WPL.c (runs_call (s := [2, 3]) (t := [2, 5]) (N := 6) (bor := []) fn11 rfl (s_bits_Writer_Done k x7701 x7702 x7772 h7770) ⟨rfl, ⟨⟨trivial, .inr ⟨rfl, rfl, rfl⟩⟩, .inr ⟨rfl, rfl, rfl⟩⟩, by decide, rfl, trivial⟩ rfl trivial (.ren rfl rfl .nil) rfl ⟨⟨trivial, rfl⟩, rfl⟩ rfl) rfl ?_
            obtain ⟨x7774, h7772, H⟩ := bnd H
            refine WPL.c (runs_call (s := []) (t := [6]) (N := 7) (bor := []) fn10 rfl (s_bits_NewReader k x7772 x7774 h7772) ⟨rfl, trivial, by decide, rfl, trivial⟩ rfl trivial (.ren rfl rfl .nil) rfl ⟨trivial, rfl⟩ rfl) rfl ?_
            refine WPL.q (q_as (v := .ptr _ _) rfl) rfl ?_
            refine WPL.nilW ?_
            refine W.now ?_
            refine Then.n ?_
            refine WP.seq ?_
            refine WP.seq ?_
            refine WP.region ?_
            refine WPL.q (q_as (v := .lit (.int _ _)) rfl) rfl ?_
            refine WPL.nilW ?_
            refine W.now ?_
            refine Then.n ?_
            refine WP.block ?_
            refine WP.cv (Cv.weak (E' := ((((Env.none.upd 7 (.ptr 0 0)).upd 10 (.whole 2)).upd 13 (.ptr 3 0)).upd 14 (.lit (.int .i64 0)))) (M' := ((((Mem.nil.push (.cells 52 [.lit (.int .i64 (List.getD x7174 0 (0 : Int))), .lit (.int .i64 (List.getD x7174 1 (0 : Int))), .lit (.int .i64 (List.getD x7174 2 (0 : Int))), .lit (.int .i64 (List.getD x7174 3 (0 : Int))), .lit (.int .i64 (List.getD x7174 4 (0 : Int))), .lit (.int .i64 (List.getD x7174 5 (0 : Int))), .lit (.int .i64 (List.getD x7174 6 (0 : Int))), .lit (.int .i64 (List.getD x7174 7 (0 : Int))), .lit (.int .i64 (List.getD x7174 8 (0 : Int))), .lit (.int .i64 (List.getD x7174 9 (0 : Int))), .lit (.int .i64 (List.getD x7174 10 (0 : Int))), .lit (.int .i64 (List.getD x7174 11 (0 : Int))), .lit (.int .i64 (List.getD x7174 12 (0 : Int))), .lit (.int .i64 (List.getD x7174 13 (0 : Int))), .lit (.int .i64 (List.getD x7174 14 (0 : Int))), .lit (.int .i64 (List.getD x7174 15 (0 : Int))), .whole 1])).push (.row 3 (Rd.int .i64) x7175)).push (.row 3 (Rd.int .i64) x7703)).push (.cells 64 [.ro (Rd.slice (Rd.int .u8)) false x7774, .lit (.int .i64 0)]))) [0, 1, 4, 6] hnp ⟨rfl, ⟨⟨⟨⟨trivial, .inr ⟨rfl, rfl, rfl⟩⟩, .inr ⟨rfl, rfl, rfl⟩⟩, .inr ⟨rfl, rfl, rfl⟩⟩, .inr ⟨rfl, rfl, rfl⟩⟩, by decide, rfl, trivial⟩ (LeE.upd rfl rfl (LeE.upd rfl rfl (LeE.upd rfl rfl (LeE.upd rfl rfl (LeE.none rfl rfl)))))) ?_
            obtain ⟨y7853, H7851, H⟩ := bnd H
            refine WP.monoW (Q := fun x E M => match (generalizing := false) y7853 with | (Sum.inl _) => x = .ret ∧ E = (Env.none.upd 4 (.lit (.bool false))) ∧ M = Mem.nil | (Sum.inr (x7826, x7827)) => x = .exit 2 ∧ E = (Env.none.upd 13 (.ptr 0 0)) ∧ M = (Mem.nil.push (.cells 64 [.ro (Rd.slice (Rd.int .u8)) false x7826, .lit (.int .i64 x7827)]))) ?_ ?_
            · refine WP.loop (β := Int × (List Int) × Int) (fun n b => g_quirelaw02_HuffBack_l3 k x7174 x7175 x7703 n b.1 b.2.1 b.2.2 = some y7853) (fun b => ((((Env.none.upd 7 (.ptr 0 0)).upd 10 (.whole 2)).upd 13 (.ptr 3 0)).upd 14 (.lit (.int .i64 b.1)))) (fun b => ((((Mem.nil.push (.cells 52 [.lit (.int .i64 (List.getD x7174 0 (0 : Int))), .lit (.int .i64 (List.getD x7174 1 (0 : Int))), .lit (.int .i64 (List.getD x7174 2 (0 : Int))), .lit (.int .i64 (List.getD x7174 3 (0 : Int))), .lit (.int .i64 (List.getD x7174 4 (0 : Int))), .lit (.int .i64 (List.getD x7174 5 (0 : Int))), .lit (.int .i64 (List.getD x7174 6 (0 : Int))), .lit (.int .i64 (List.getD x7174 7 (0 : Int))), .lit (.int .i64 (List.getD x7174 8 (0 : Int))), .lit (.int .i64 (List.getD x7174 9 (0 : Int))), .lit (.int .i64 (List.getD x7174 10 (0 : Int))), .lit (.int .i64 (List.getD x7174 11 (0 : Int))), .lit (.int .i64 (List.getD x7174 12 (0 : Int))), .lit (.int .i64 (List.getD x7174 13 (0 : Int))), .lit (.int .i64 (List.getD x7174 14 (0 : Int))), .lit (.int .i64 (List.getD x7174 15 (0 : Int))), .whole 1])).push (.row 3 (Rd.int .i64) x7175)).push (.row 3 (Rd.int .i64) x7703)).push (.cells 64 [.ro (Rd.slice (Rd.int .u8)) false b.2.1, .lit (.int .i64 b.2.2)]))) k (0, x7774, 0) H7851 rfl rfl ?_
              rintro n ⟨x7799, x7800, x7801⟩ H
              obtain _ | n := n
              · exact nf rfl H
              rw [g_quirelaw02_HuffBack_l3.eq_2] at H
              show WP _ _ _ _ ((((Env.none.upd 7 (.ptr 0 0)).upd 10 (.whole 2)).upd 13 (.ptr 3 0)).upd 14 (.lit (.int .i64 x7799))) ((((Mem.nil.push (.cells 52 [.lit (.int .i64 (List.getD x7174 0 (0 : Int))), .lit (.int .i64 (List.getD x7174 1 (0 : Int))), .lit (.int .i64 (List.getD x7174 2 (0 : Int))), .lit (.int .i64 (List.getD x7174 3 (0 : Int))), .lit (.int .i64 (List.getD x7174 4 (0 : Int))), .lit (.int .i64 (List.getD x7174 5 (0 : Int))), .lit (.int .i64 (List.getD x7174 6 (0 : Int))), .lit (.int .i64 (List.getD x7174 7 (0 : Int))), .lit (.int .i64 (List.getD x7174 8 (0 : Int))), .lit (.int .i64 (List.getD x7174 9 (0 : Int))), .lit (.int .i64 (List.getD x7174 10 (0 : Int))), .lit (.int .i64 (List.getD x7174 11 (0 : Int))), .lit (.int .i64 (List.getD x7174 12 (0 : Int))), .lit (.int .i64 (List.getD x7174 13 (0 : Int))), .lit (.int .i64 (List.getD x7174 14 (0 : Int))), .lit (.int .i64 (List.getD x7174 15 (0 : Int))), .whole 1])).push (.row 3 (Rd.int .i64) x7175)).push (.row 3 (Rd.int .i64) x7703)).push (.cells 64 [.ro (Rd.slice (Rd.int .u8)) false x7800, .lit (.int .i64 x7801)])) _
              refine WP.seq ?_
              refine WP.seq ?_
              refine WP.region ?_
              refine WPL.q (q_mv (v := .lit (.int _ _)) rfl) rfl ?_
              refine WPL.q (q_mv (v := .whole _) rfl) rfl ?_
              refine WPL.q (q_len_row sl22 rfl rfl) rfl ?_
              obtain ⟨x7829, h7829, H⟩ := bnd H
              refine WPL.q (q_nm (q_lss rfl rfl) (nm_bool h7829)) rfl ?_
              refine WPL.nilW ?_
              refine W.now ?_
              refine Then.n ?_
              refine WP.cond (t := x7829) rfl (fun hb => ?_) (fun hb => ?_)
              · replace H := cnt hb H
                refine WP.skipW ?_
                refine W.now ?_
                refine Then.n ?_
                refine WP.seq ?_
                refine WP.block ?_
                refine WP.seq ?_
                refine WP.region ?_
                refine WPL.q (q_mv (v := .ptr _ _) rfl) rfl ?_
                refine WPL.q (q_mv (v := .ptr _ _) rfl) rfl ?_
                obtain ⟨⟨x7842, x7843, x7844, x7845⟩, h7840, H⟩ := bnd H
                refine WPL.c (runs_call (s := [0, 3, 1]) (t := [0, 3, 4]) (N := 5) (bor := []) fn12 rfl (s_huff_Decoder_Next__b k x7174 x7800 x7801 x7175 x7842 x7843 x7844 x7845 h7840) ⟨rfl, ⟨⟨⟨trivial, .inr ⟨rfl, rfl, rfl⟩⟩, .inr ⟨rfl, rfl, rfl⟩⟩, .inr ⟨rfl, rfl, rfl⟩⟩, by decide, rfl, trivial⟩ rfl trivial (.ren rfl rfl (.ren rfl rfl .nil)) rfl ⟨⟨⟨trivial, rfl⟩, rfl⟩, rfl⟩ rfl) rfl ?_
                refine WPL.q (q_mv (v := .tup _) rfl) rfl ?_
                refine WPL.q (q_extract rfl rfl) rfl ?_
                refine WPL.q (q_extract rfl rfl) rfl ?_
                refine WPL.q (q_as (v := .lit (.int _ _)) rfl) rfl ?_
                refine WPL.q (q_as (v := .lit (.int _ _)) rfl) rfl ?_
                refine WPL.nilW ?_
                refine W.now ?_
                refine Then.n ?_
                refine WP.seq ?_
                obtain ⟨x7848, H7850, H⟩ := bnd H
                refine WP.monoW (Q := fun x E M => x = .normal ∧ E = (((((Env.none.upd 7 (.ptr 0 0)).upd 10 (.whole 2)).upd 13 (.ptr 3 0)).upd 14 (.lit (.int .i64 x7799))).upd 105 (.lit (.bool x7848))) ∧ M = ((((Mem.nil.push (.cells 52 [.lit (.int .i64 (List.getD x7174 0 (0 : Int))), .lit (.int .i64 (List.getD x7174 1 (0 : Int))), .lit (.int .i64 (List.getD x7174 2 (0 : Int))), .lit (.int .i64 (List.getD x7174 3 (0 : Int))), .lit (.int .i64 (List.getD x7174 4 (0 : Int))), .lit (.int .i64 (List.getD x7174 5 (0 : Int))), .lit (.int .i64 (List.getD x7174 6 (0 : Int))), .lit (.int .i64 (List.getD x7174 7 (0 : Int))), .lit (.int .i64 (List.getD x7174 8 (0 : Int))), .lit (.int .i64 (List.getD x7174 9 (0 : Int))), .lit (.int .i64 (List.getD x7174 10 (0 : Int))), .lit (.int .i64 (List.getD x7174 11 (0 : Int))), .lit (.int .i64 (List.getD x7174 12 (0 : Int))), .lit (.int .i64 (List.getD x7174 13 (0 : Int))), .lit (.int .i64 (List.getD x7174 14 (0 : Int))), .lit (.int .i64 (List.getD x7174 15 (0 : Int))), .whole 1])).push (.row 3 (Rd.int .i64) x7175)).push (.row 3 (Rd.int .i64) x7703)).push (.cells 64 [.ro (Rd.slice (Rd.int .u8)) false x7844, .lit (.int .i64 x7845)]))) ?_ ?_
                · clear H
                  have H := H7850
                  clear H7850
                  refine WP.region ?_
                  refine WPL.q (q_mv (v := .lit (.int _ _)) rfl) rfl ?_
                  refine WPL.q (q_neq rfl rfl) rfl ?_
                  refine WPL.q (q_mv (v := .lit (.bool _)) rfl) rfl ?_
                  refine WPL.split (t := 98) (b := (!decide (x7843 = 0))) rfl (fun hb7848 => ?_) (fun hb7848 => ?_)
                  · replace H := cnt hb7848 H
                    refine WPL.skipg (b' := true) rfl rfl (lb hb7848) rfl rfl ?_
                    refine WPL.skipg (b' := true) rfl rfl (lb hb7848) rfl rfl ?_
                    refine WPL.skipg (b' := true) rfl rfl (lb hb7848) rfl rfl ?_
                    refine WPL.skipg (b' := true) rfl rfl (lb hb7848) rfl rfl ?_
                    refine WPL.skipg (b' := true) rfl rfl (lb hb7848) rfl rfl ?_
                    refine WPL.skipg (b' := true) rfl rfl (lb hb7848) rfl rfl ?_
                    refine WPL.q (q_pickT (v := .lit (.bool _)) (lb hb7848) rfl) rfl ?_
                    refine WPL.nilW ?_
                    refine W.cv (Cv.weak (E' := (((((Env.none.upd 7 (.ptr 0 0)).upd 10 (.whole 2)).upd 13 (.ptr 3 0)).upd 14 (.lit (.int .i64 x7799))).upd 105 (.lit (.bool true)))) (M' := ((((Mem.nil.push (.cells 52 [.lit (.int .i64 (List.getD x7174 0 (0 : Int))), .lit (.int .i64 (List.getD x7174 1 (0 : Int))), .lit (.int .i64 (List.getD x7174 2 (0 : Int))), .lit (.int .i64 (List.getD x7174 3 (0 : Int))), .lit (.int .i64 (List.getD x7174 4 (0 : Int))), .lit (.int .i64 (List.getD x7174 5 (0 : Int))), .lit (.int .i64 (List.getD x7174 6 (0 : Int))), .lit (.int .i64 (List.getD x7174 7 (0 : Int))), .lit (.int .i64 (List.getD x7174 8 (0 : Int))), .lit (.int .i64 (List.getD x7174 9 (0 : Int))), .lit (.int .i64 (List.getD x7174 10 (0 : Int))), .lit (.int .i64 (List.getD x7174 11 (0 : Int))), .lit (.int .i64 (List.getD x7174 12 (0 : Int))), .lit (.int .i64 (List.getD x7174 13 (0 : Int))), .lit (.int .i64 (List.getD x7174 14 (0 : Int))), .lit (.int .i64 (List.getD x7174 15 (0 : Int))), .whole 1])).push (.row 3 (Rd.int .i64) x7175)).push (.row 3 (Rd.int .i64) x7703)).push (.cells 64 [.ro (Rd.slice (Rd.int .u8)) false x7844, .lit (.int .i64 x7845)]))) [0, 4, 2, 3] hnp ⟨rfl, ⟨⟨⟨⟨trivial, .inr ⟨rfl, rfl, rfl⟩⟩, .inr ⟨rfl, rfl, rfl⟩⟩, .inr ⟨rfl, rfl, rfl⟩⟩, .inr ⟨rfl, rfl, rfl⟩⟩, by decide, rfl, trivial⟩ (LeE.upd rfl rfl (LeE.upd rfl rfl (LeE.upd rfl rfl (LeE.upd rfl rfl (LeE.upd rfl rfl (LeE.none rfl rfl))))))) rfl ?_
                    refine W.now ?_
                    have q0 := (Option.some.inj H)
                    subst q0
                    exact ⟨rfl, rfl, rfl⟩
                  · replace H := cnf hb7848 H
                    refine WPL.qg rfl rfl (lb hb7848) (q_mv (v := .lit (.int _ _)) rfl) rfl ?_
                    refine WPL.qg rfl rfl (lb hb7848) (q_mv (v := .whole _) rfl) rfl ?_
                    refine WPL.qg rfl rfl (lb hb7848) (q_mv (v := .lit (.int _ _)) rfl) rfl ?_
                    obtain ⟨x7850, h7850, H⟩ := bnd H
                    refine WPL.qg rfl rfl (lb hb7848) (q_index_row sl22 rfl rfl rfl (ixs h7850)) rfl ?_
                    refine WPL.qg rfl rfl (lb hb7848) (q_load_row (j := (Int.toNat x7799)) sc3 rfl rfl (ixj h7850)) rfl ?_
                    refine WPL.qg rfl rfl (lb hb7848) (q_neq rfl rfl) rfl ?_
                    refine WPL.q (q_pickF (v := .lit (.bool _)) (lb hb7848) rfl) rfl ?_
                    refine WPL.nilW ?_
                    refine W.cv (Cv.weak (E' := (((((Env.none.upd 7 (.ptr 0 0)).upd 10 (.whole 2)).upd 13 (.ptr 3 0)).upd 14 (.lit (.int .i64 x7799))).upd 105 (.lit (.bool (!decide (x7842 = x7850)))))) (M' := ((((Mem.nil.push (.cells 52 [.lit (.int .i64 (List.getD x7174 0 (0 : Int))), .lit (.int .i64 (List.getD x7174 1 (0 : Int))), .lit (.int .i64 (List.getD x7174 2 (0 : Int))), .lit (.int .i64 (List.getD x7174 3 (0 : Int))), .lit (.int .i64 (List.getD x7174 4 (0 : Int))), .lit (.int .i64 (List.getD x7174 5 (0 : Int))), .lit (.int .i64 (List.getD x7174 6 (0 : Int))), .lit (.int .i64 (List.getD x7174 7 (0 : Int))), .lit (.int .i64 (List.getD x7174 8 (0 : Int))), .lit (.int .i64 (List.getD x7174 9 (0 : Int))), .lit (.int .i64 (List.getD x7174 10 (0 : Int))), .lit (.int .i64 (List.getD x7174 11 (0 : Int))), .lit (.int .i64 (List.getD x7174 12 (0 : Int))), .lit (.int .i64 (List.getD x7174 13 (0 : Int))), .lit (.int .i64 (List.getD x7174 14 (0 : Int))), .lit (.int .i64 (List.getD x7174 15 (0 : Int))), .whole 1])).push (.row 3 (Rd.int .i64) x7175)).push (.row 3 (Rd.int .i64) x7703)).push (.cells 64 [.ro (Rd.slice (Rd.int .u8)) false x7844, .lit (.int .i64 x7845)]))) [0, 4, 2, 3] hnp ⟨rfl, ⟨⟨⟨⟨trivial, .inr ⟨rfl, rfl, rfl⟩⟩, .inr ⟨rfl, rfl, rfl⟩⟩, .inr ⟨rfl, rfl, rfl⟩⟩, .inr ⟨rfl, rfl, rfl⟩⟩, by decide, rfl, trivial⟩ (LeE.upd rfl rfl (LeE.upd rfl rfl (LeE.upd rfl rfl (LeE.upd rfl rfl (LeE.upd rfl rfl (LeE.none rfl rfl))))))) rfl ?_
                    refine W.now ?_
                    have q0 := (Option.some.inj H)
                    subst q0
                    exact ⟨rfl, rfl, rfl⟩
                · rintro _ _ _ ⟨rfl, rfl, rfl⟩
                  refine W.now ?_
                  refine Then.n ?_
                  refine WP.cond (t := x7848) rfl (fun hb => ?_) (fun hb => ?_)
                  · replace H := cnt hb H
                    refine WP.seq ?_
                    refine WP.region ?_
                    refine WPL.q (q_as (v := .lit (.bool _)) rfl) rfl ?_
                    refine WPL.nilW ?_
                    refine W.now ?_
                    refine Then.n ?_
                    refine WP.retW ?_
                    refine W.cv (Cv.weak (E' := (Env.none.upd 4 (.lit (.bool false)))) (M' := Mem.nil) [] hnp ⟨rfl, trivial, by decide, rfl, trivial⟩ (LeE.upd rfl rfl (LeE.none rfl rfl))) rfl ?_
                    refine W.now ?_
                    refine InBlock.r ?_
                    refine Then.r ?_
                    refine Then.r ?_
                    have q0 := Option.some.inj H
                    subst q0
                    exact ⟨rfl, rfl, rfl⟩
                  · replace H := cnf hb H
                    refine WP.skipW ?_
                    refine W.now ?_
                    refine InBlock.n ?_
                    refine Then.n ?_
                    refine WP.region ?_
                    refine WPL.q (q_mv (v := .lit (.int _ _)) rfl) rfl ?_
                    refine WPL.q (q_add rfl rfl) rfl ?_
                    refine WPL.q (q_as (v := .lit (.int _ _)) rfl) rfl ?_
                    refine WPL.nilW ?_
                    refine W.cv (Cv.weak (E' := ((((Env.none.upd 7 (.ptr 0 0)).upd 10 (.whole 2)).upd 13 (.ptr 3 0)).upd 14 (.lit (.int .i64 (IntKind.wrap .i64 (x7799 + 1)))))) (M' := ((((Mem.nil.push (.cells 52 [.lit (.int .i64 (List.getD x7174 0 (0 : Int))), .lit (.int .i64 (List.getD x7174 1 (0 : Int))), .lit (.int .i64 (List.getD x7174 2 (0 : Int))), .lit (.int .i64 (List.getD x7174 3 (0 : Int))), .lit (.int .i64 (List.getD x7174 4 (0 : Int))), .lit (.int .i64 (List.getD x7174 5 (0 : Int))), .lit (.int .i64 (List.getD x7174 6 (0 : Int))), .lit (.int .i64 (List.getD x7174 7 (0 : Int))), .lit (.int .i64 (List.getD x7174 8 (0 : Int))), .lit (.int .i64 (List.getD x7174 9 (0 : Int))), .lit (.int .i64 (List.getD x7174 10 (0 : Int))), .lit (.int .i64 (List.getD x7174 11 (0 : Int))), .lit (.int .i64 (List.getD x7174 12 (0 : Int))), .lit (.int .i64 (List.getD x7174 13 (0 : Int))), .lit (.int .i64 (List.getD x7174 14 (0 : Int))), .lit (.int .i64 (List.getD x7174 15 (0 : Int))), .whole 1])).push (.row 3 (Rd.int .i64) x7175)).push (.row 3 (Rd.int .i64) x7703)).push (.cells 64 [.ro (Rd.slice (Rd.int .u8)) false x7844, .lit (.int .i64 x7845)]))) [0, 1, 2, 3] hnp ⟨rfl, ⟨⟨⟨⟨trivial, .inr ⟨rfl, rfl, rfl⟩⟩, .inr ⟨rfl, rfl, rfl⟩⟩, .inr ⟨rfl, rfl, rfl⟩⟩, .inr ⟨rfl, rfl, rfl⟩⟩, by decide, rfl, trivial⟩ (LeE.upd rfl rfl (LeE.upd rfl rfl (LeE.upd rfl rfl (LeE.upd rfl rfl (LeE.none rfl rfl)))))) rfl ?_
                    refine W.now ?_
                    exact Then.n ⟨n, ((IntKind.wrap .i64 (x7799 + 1)), x7844, x7845), Nat.lt_succ_self n, H, rfl, rfl⟩
              · replace H := cnf hb H
                refine WP.exitW ?_
                refine W.cv (Cv.weak (E' := (Env.none.upd 13 (.ptr 0 0))) (M' := (Mem.nil.push (.cells 64 [.ro (Rd.slice (Rd.int .u8)) false x7800, .lit (.int .i64 x7801)]))) [3] hnp ⟨rfl, ⟨trivial, .inr ⟨rfl, rfl, rfl⟩⟩, by decide, rfl, trivial⟩ (LeE.upd rfl rfl (LeE.none rfl rfl))) rfl ?_
                refine W.now ?_
                refine Then.x ?_
                refine Then.x ?_
                have q0 := Option.some.inj H
                subst q0
                exact ⟨rfl, rfl, rfl⟩
            · rcases y7853 with _ | ⟨x7826, x7827⟩
              · rintro _ _ _ ⟨rfl, rfl, rfl⟩
                refine W.now ?_
                refine InBlock.r ?_
                refine Then.r ?_
                have q0 := (Option.some.inj H)
                subst q0
                exact ⟨trivial, _, rfl, [], (.lit (.bool false)), Mem.nil, ⟨rfl, trivial, by decide, rfl, trivial⟩, rfl, rfl, rfl, rfl⟩
              · rintro _ _ _ ⟨rfl, rfl, rfl⟩
                refine W.now ?_
                refine InBlock.x0 ?_
                refine Then.n ?_
                refine WP.seq ?_
                refine WP.region ?_
                refine WPL.q (q_mv (v := .ptr _ _) rfl) rfl ?_
                obtain ⟨x7855, h7853, H⟩ := bnd H
                refine WPL.c (runs_call (s := [0]) (t := [0]) (N := 1) (bor := []) fn13 rfl (s_bits_Reader_Left k x7826 x7827 x7855 h7853) ⟨rfl, ⟨trivial, .inr ⟨rfl, rfl, rfl⟩⟩, by decide, rfl, trivial⟩ rfl trivial (.ren rfl rfl .nil) rfl ⟨trivial, rfl⟩ rfl) rfl ?_
                refine WPL.q (q_lss rfl rfl) rfl ?_
                refine WPL.q (q_as (v := .lit (.bool _)) rfl) rfl ?_
                refine WPL.nilW ?_
                refine W.now ?_
                refine Then.n ?_
                refine WP.retW ?_
                refine W.now ?_
                have q0 := (Option.some.inj H)
                subst q0
                exact ⟨trivial, _, rfl, [], (.lit (.bool (decide (x7855 < 8)))), Mem.nil, ⟨rfl, trivial, by decide, rfl, trivial⟩, rfl, rfl, rfl, rfl⟩
end Go.Proofs.Ythgbompoldmhmab.W
