/- Texts joined: part 5 of what LHuffBest stands on. -/
import Derived.Test.YtjahhkhpchiojaaSHuffBestd
namespace Go.Proofs.Ytjahhkhpchiojaa.W
open Go Go.Q Go.Proofs
set_option linter.unusedVariables false
set_option linter.unusedSimpArgs false
set_option maxRecDepth 100000 in
set_option maxHeartbeats 4000000 in
theorem s_quirelaw02_HuffBest (k : Nat) (x3 : (List Int)) (x4 : Int) (r : (Bool ⊕ ByteArray)) (H : g_quirelaw02_HuffBest k x3 x4 = some r) : Go.Q.Spec Try.prog 3 0 [.ro (Rd.slice (Rd.int .i64)) false x3, .lit (.int .i64 x4)] Mem.nil (fun o M => match (generalizing := false) r with | (Sum.inl x7944) => o = .ret (.lit (.bool x7944)) ∧ M = Mem.nil | (Sum.inr x7945) => o = .pan (.ifc 9 (.lit (.string x7945))) ∧ M = Mem.nil) := by
 unfold g_quirelaw02_HuffBest at H
 refine Go.Q.Spec.of_bodyR (az := []) (rs := [.tmp 4]) (nt := 119) Try.func3 rfl rfl (by intro t T h; simp at h) rfl rfl fun cx hnp => ?_
 refine WP.seq ?_
 refine WP.region ?_
 refine WPL.q (q_as (v := .lit (.bool _)) rfl) rfl ?_
 refine WPL.nilW ?_
 refine W.now ?_
 refine Then.n ?_
 refine WP.seq ?_
 refine WP.region ?_
 refine WPL.q (q_mv (v := .ro _ _ _) rfl) rfl ?_
 refine WPL.q (q_mv (v := .lit (.int _ _)) rfl) rfl ?_
 obtain ⟨y7950, h7945, H⟩ := bnd H
 rcases y7950 with ⟨x7947, x7948⟩ | x7949
 · refine WPL.c (runs_call (s := []) (t := []) (N := 0) (bor := []) fn4 rfl (s_huff_Lengths k x3 x4 (Sum.inl (x7947, x7948)) h7945) ⟨rfl, trivial, by decide, rfl, trivial⟩ rfl trivial (.ren rfl rfl (.ren rfl rfl .nil)) rfl trivial rfl) rfl ?_
   refine WPL.q (q_mv (v := .tup _) rfl) rfl ?_
   refine WPL.q (q_extract rfl rfl) rfl ?_
   refine WPL.q (q_extract rfl rfl) rfl ?_
   refine WPL.q (q_as (v := .ro _ _ _) rfl) rfl ?_
   refine WPL.q (q_as (v := .lit (.int _ _)) rfl) rfl ?_
   refine WPL.nilW ?_
   refine W.now ?_
   refine Then.n ?_
   refine WP.seq ?_
   refine WP.seq ?_
   refine WP.region ?_
   obtain ⟨y7959, h7955, H⟩ := bnd H
   rcases y7959 with x7957 | x7958
   · refine WPL.c (runs_call (s := []) (t := []) (N := 0) (bor := []) fn5 rfl (s_quirelaw02_alive k (Sum.inl x7957) h7955) ⟨rfl, trivial, by decide, rfl, trivial⟩ rfl trivial .nil rfl trivial rfl) rfl ?_
     refine WPL.q (q_not rfl) rfl ?_
     refine WPL.nilW ?_
     refine W.now ?_
     refine Then.n ?_
     refine WP.cond (t := (!x7957)) rfl (fun hb7959 => ?_) (fun hb7959 => ?_)
     · replace H := cnt hb7959 H
       refine WP.seq ?_
       refine WP.region ?_
       refine WPL.q (q_as (v := .lit (.bool _)) rfl) rfl ?_
       refine WPL.nilW ?_
       refine W.now ?_
       refine Then.n ?_
       refine WP.retW ?_
       have q0 := Option.some.inj H
       subst q0
       exact W.now (Then.r (BodyR.mkR trivial rfl [] ⟨rfl, rfl⟩ ⟨rfl, trivial, by decide, rfl, trivial⟩ rfl rfl))
     replace H := cnf hb7959 H
     refine WP.skipW ?_
     refine W.now ?_
     refine Then.n ?_
     refine WP.seq ?_
     refine WP.region ?_
     refine WPL.q (q_as (v := .lit (.int _ _)) rfl) rfl ?_
     refine WPL.nilW ?_
     refine W.now ?_
     refine Then.n ?_
     refine WP.seq ?_
     obtain ⟨x7964, H7967, H⟩ := bnd H
     refine WP.monoW (Q := fun x E M => x = .normal ∧ E = ((((((Env.none.upd 0 (.ro (Rd.slice (Rd.int .i64)) false x3)).upd 1 (.lit (.int .i64 x4))).upd 5 (.ro (Rd.slice (Rd.int .i64)) false x7947)).upd 6 (.lit (.int .i64 x7948))).upd 7 (.lit (.int .i64 0))).upd 8 (.lit (.bool x7964))) ∧ M = Mem.nil) ?_ ?_
     · clear H
       have H := H7967
       clear H7967
       refine WP.region ?_
       refine WPL.q (q_mv (v := .ro _ _ _) rfl) rfl ?_
       refine WPL.q (q_len_ro sl22 rfl) rfl ?_
       obtain ⟨x7965, h7965, H⟩ := bnd H
       refine WPL.q (q_nm (q_gtr rfl rfl) (nm_bool h7965)) rfl ?_
       refine WPL.q (q_mv (v := .lit (.bool _)) rfl) rfl ?_
       refine WPL.split (t := 22) (b := x7965) rfl (fun hb7965 => ?_) (fun hb7965 => ?_)
       · replace H := cnt hb7965 H
         refine WPL.skipg (b' := true) rfl rfl (lb hb7965) rfl rfl (.inl trivial) ?_
         refine WPL.skipg (b' := true) rfl rfl (lb hb7965) rfl rfl (.inl trivial) ?_
         refine WPL.q (q_pickT (v := .lit (.bool _)) (lb hb7965) rfl) rfl ?_
         refine WPL.q (q_mv (v := .lit (.bool _)) rfl) rfl ?_
         refine WPL.skipg (b' := true) rfl rfl rfl rfl rfl (.inl trivial) ?_
         refine WPL.skipg (b' := true) rfl rfl rfl rfl rfl (.inl trivial) ?_
         refine WPL.q (q_pickT (v := .lit (.bool _)) rfl rfl) rfl ?_
         refine WPL.q (q_as (v := .lit (.bool _)) rfl) rfl ?_
         refine WPL.nilW ?_
         have q0 := (Option.some.inj H)
         subst q0
         exact W.wk [] hnp ⟨rfl, rfl, rfl⟩ ⟨rfl, trivial, by decide, rfl, trivial⟩ (LeE.upd rfl rfl (LeE.upd rfl rfl (LeE.upd rfl rfl (LeE.upd rfl rfl (LeE.upd rfl rfl (LeE.upd rfl rfl (LeE.none rfl rfl))))))) rfl
       replace H := cnf hb7965 H
       refine WPL.qg rfl rfl (lb hb7965) (q_mv (v := .lit (.int _ _)) rfl) rfl ?_
       refine WPL.qg rfl rfl (lb hb7965) (q_lss rfl rfl) rfl ?_
       refine WPL.q (q_pickF (v := .lit (.bool _)) (lb hb7965) rfl) rfl ?_
       refine WPL.q (q_mv (v := .lit (.bool _)) rfl) rfl ?_
       refine WPL.split (t := 26) (b := (decide (x4 < 1))) rfl (fun hb7966 => ?_) (fun hb7966 => ?_)
       · replace H := cnt hb7966 H
         refine WPL.skipg (b' := true) rfl rfl (lb hb7966) rfl rfl (.inl trivial) ?_
         refine WPL.skipg (b' := true) rfl rfl (lb hb7966) rfl rfl (.inl trivial) ?_
         refine WPL.q (q_pickT (v := .lit (.bool _)) (lb hb7966) rfl) rfl ?_
         refine WPL.q (q_as (v := .lit (.bool _)) rfl) rfl ?_
         refine WPL.nilW ?_
         have q0 := (Option.some.inj H)
         subst q0
         exact W.wk [] hnp ⟨rfl, rfl, rfl⟩ ⟨rfl, trivial, by decide, rfl, trivial⟩ (LeE.upd rfl rfl (LeE.upd rfl rfl (LeE.upd rfl rfl (LeE.upd rfl rfl (LeE.upd rfl rfl (LeE.upd rfl rfl (LeE.none rfl rfl))))))) rfl
       replace H := cnf hb7966 H
       refine WPL.qg rfl rfl (lb hb7966) (q_mv (v := .lit (.int _ _)) rfl) rfl ?_
       refine WPL.qg rfl rfl (lb hb7966) (q_gtr rfl rfl) rfl ?_
       refine WPL.q (q_pickF (v := .lit (.bool _)) (lb hb7966) rfl) rfl ?_
       refine WPL.q (q_as (v := .lit (.bool _)) rfl) rfl ?_
       refine WPL.nilW ?_
       have q0 := (Option.some.inj H)
       subst q0
       exact W.wk [] hnp ⟨rfl, rfl, rfl⟩ ⟨rfl, trivial, by decide, rfl, trivial⟩ (LeE.upd rfl rfl (LeE.upd rfl rfl (LeE.upd rfl rfl (LeE.upd rfl rfl (LeE.upd rfl rfl (LeE.upd rfl rfl (LeE.none rfl rfl))))))) rfl
     rintro _ _ _ ⟨rfl, rfl, rfl⟩
     refine W.now ?_
     refine Then.n ?_
     refine WP.seq ?_
     refine WP.seq ?_
     refine WP.region ?_
     refine WPL.q (q_as (v := .lit (.int _ _)) rfl) rfl ?_
     refine WPL.nilW ?_
     refine W.now ?_
     refine Then.n ?_
     refine WP.block ?_
     refine WP.cv (Cv.weak (E' := (((((((Env.none.upd 0 (.ro (Rd.slice (Rd.int .i64)) false x3)).upd 1 (.lit (.int .i64 x4))).upd 5 (.ro (Rd.slice (Rd.int .i64)) false x7947)).upd 6 (.lit (.int .i64 x7948))).upd 7 (.lit (.int .i64 0))).upd 8 (.lit (.bool x7964))).upd 9 (.lit (.int .i64 0)))) (M' := Mem.nil) [] hnp ⟨rfl, trivial, by decide, rfl, trivial⟩ (LeE.upd rfl rfl (LeE.upd rfl rfl (LeE.upd rfl rfl (LeE.upd rfl rfl (LeE.upd rfl rfl (LeE.upd rfl rfl (LeE.upd rfl rfl (LeE.none rfl rfl))))))))) ?_
     obtain ⟨⟨x8034, x8035⟩, H8066, H⟩ := bnd H
     refine WP.monoW (Q := fun x E M => x = .exit 0 ∧ E = ((((((Env.none.upd 0 (.ro (Rd.slice (Rd.int .i64)) false x3)).upd 1 (.lit (.int .i64 x4))).upd 5 (.ro (Rd.slice (Rd.int .i64)) false x7947)).upd 6 (.lit (.int .i64 x7948))).upd 7 (.lit (.int .i64 x8034))).upd 8 (.lit (.bool x8035))) ∧ M = Mem.nil) ?_ ?_
     · refine WP.loop (β := Int × Bool × Int) (fun n b => g_quirelaw02_HuffBest_l0 k x3 n b.1 b.2.1 b.2.2 = some (x8034, x8035)) (fun b => (((((((Env.none.upd 0 (.ro (Rd.slice (Rd.int .i64)) false x3)).upd 1 (.lit (.int .i64 x4))).upd 5 (.ro (Rd.slice (Rd.int .i64)) false x7947)).upd 6 (.lit (.int .i64 x7948))).upd 7 (.lit (.int .i64 b.1))).upd 8 (.lit (.bool b.2.1))).upd 9 (.lit (.int .i64 b.2.2)))) (fun b => Mem.nil) k (0, x7964, 0) H8066 rfl rfl ?_
       rintro n ⟨x8000, x8001, x8002⟩ H
       obtain _ | n := n
       · exact nf rfl H
       rw [g_quirelaw02_HuffBest_l0.eq_2] at H
       show WP _ _ _ _ (((((((Env.none.upd 0 (.ro (Rd.slice (Rd.int .i64)) false x3)).upd 1 (.lit (.int .i64 x4))).upd 5 (.ro (Rd.slice (Rd.int .i64)) false x7947)).upd 6 (.lit (.int .i64 x7948))).upd 7 (.lit (.int .i64 x8000))).upd 8 (.lit (.bool x8001))).upd 9 (.lit (.int .i64 x8002))) Mem.nil _
       refine WP.seq ?_
       refine WP.seq ?_
       refine WP.region ?_
       refine WPL.q (q_mv (v := .lit (.int _ _)) rfl) rfl ?_
       refine WPL.q (q_mv (v := .ro _ _ _) rfl) rfl ?_
       refine WPL.q (q_len_ro sl22 rfl) rfl ?_
       obtain ⟨x8038, h8038, H⟩ := bnd H
       refine WPL.q (q_nm (q_lss rfl rfl) (nm_bool h8038)) rfl ?_
       refine WPL.nilW ?_
       refine W.now ?_
       refine Then.n ?_
       refine WP.cond (t := x8038) rfl (fun hb8038 => ?_) (fun hb8038 => ?_)
       · replace H := cnt hb8038 H
         refine WP.skipW ?_
         refine W.now ?_
         refine Then.n ?_
         refine WP.seq ?_
         obtain ⟨⟨x8052, x8053⟩, H8065, H⟩ := bnd H
         refine WP.monoW (Q := fun x E M => x = .normal ∧ E = (((((((Env.none.upd 0 (.ro (Rd.slice (Rd.int .i64)) false x3)).upd 1 (.lit (.int .i64 x4))).upd 5 (.ro (Rd.slice (Rd.int .i64)) false x7947)).upd 6 (.lit (.int .i64 x7948))).upd 7 (.lit (.int .i64 x8052))).upd 8 (.lit (.bool x8053))).upd 9 (.lit (.int .i64 x8002))) ∧ M = Mem.nil) ?_ ?_
         · clear H
           have H := H8065
           clear H8065
           refine WP.block ?_
           refine WP.seq ?_
           obtain ⟨x8058, H8062, H⟩ := bnd H
           refine WP.monoW (Q := fun x E M => x = .normal ∧ E = (((((((Env.none.upd 0 (.ro (Rd.slice (Rd.int .i64)) false x3)).upd 1 (.lit (.int .i64 x4))).upd 5 (.ro (Rd.slice (Rd.int .i64)) false x7947)).upd 6 (.lit (.int .i64 x7948))).upd 7 (.lit (.int .i64 x8000))).upd 8 (.lit (.bool x8058))).upd 9 (.lit (.int .i64 x8002))) ∧ M = Mem.nil) ?_ ?_
           · clear H
             have H := H8062
             clear H8062
             refine WP.region ?_
             refine WPL.q (q_mv (v := .lit (.bool _)) rfl) rfl ?_
             refine WPL.q (q_mv (v := .lit (.bool _)) rfl) rfl ?_
             refine WPL.split (t := 37) (b := x8001) rfl (fun hb8058 => ?_) (fun hb8058 => ?_)
             · replace H := cnt hb8058 H
               refine WPL.skipg (b' := true) rfl rfl (lb hb8058) rfl rfl (.inl trivial) ?_
               refine WPL.skipg (b' := true) rfl rfl (lb hb8058) rfl rfl (.inl trivial) ?_
               refine WPL.skipg (b' := true) rfl rfl (lb hb8058) rfl rfl (.inl trivial) ?_
               refine WPL.skipg (b' := true) rfl rfl (lb hb8058) rfl rfl (.inl trivial) ?_
               refine WPL.skipg (b' := true) rfl rfl (lb hb8058) rfl rfl (.inl trivial) ?_
               refine WPL.q (q_pickT (v := .lit (.bool _)) (lb hb8058) rfl) rfl ?_
               refine WPL.q (q_mv (v := .lit (.bool _)) rfl) rfl ?_
               refine WPL.skipg (b' := true) rfl rfl rfl rfl rfl (.inl trivial) ?_
               refine WPL.skipg (b' := true) rfl rfl rfl rfl rfl (.inl trivial) ?_
               refine WPL.skipg (b' := true) rfl rfl rfl rfl rfl (.inl trivial) ?_
               refine WPL.skipg (b' := true) rfl rfl rfl rfl rfl (.inl trivial) ?_
               refine WPL.skipg (b' := true) rfl rfl rfl rfl rfl (.inl trivial) ?_
               refine WPL.q (q_pickT (v := .lit (.bool _)) rfl rfl) rfl ?_
               refine WPL.q (q_as (v := .lit (.bool _)) rfl) rfl ?_
               refine WPL.nilW ?_
               have q0 := (Option.some.inj H)
               subst q0
               exact W.wk [] hnp ⟨rfl, rfl, rfl⟩ ⟨rfl, trivial, by decide, rfl, trivial⟩ (LeE.upd rfl rfl (LeE.upd rfl rfl (LeE.upd rfl rfl (LeE.upd rfl rfl (LeE.upd rfl rfl (LeE.upd rfl rfl (LeE.upd rfl rfl (LeE.none rfl rfl)))))))) rfl
             replace H := cnf hb8058 H
             refine WPL.qg rfl rfl (lb hb8058) (q_mv (v := .ro _ _ _) rfl) rfl ?_
             refine WPL.qg rfl rfl (lb hb8058) (q_mv (v := .lit (.int _ _)) rfl) rfl ?_
             obtain ⟨x8060, h8060, H⟩ := bnd H
             refine WPL.qg rfl rfl (lb hb8058) (q_index_ro sl22 rfl rfl rfl h8060) rfl ?_
             refine WPL.qg rfl rfl (lb hb8058) (q_load_sc sc3 rfl) rfl ?_
             refine WPL.qg rfl rfl (lb hb8058) (q_lss rfl rfl) rfl ?_
             refine WPL.q (q_pickF (v := .lit (.bool _)) (lb hb8058) rfl) rfl ?_
             refine WPL.q (q_mv (v := .lit (.bool _)) rfl) rfl ?_
             refine WPL.split (t := 44) (b := (decide (x8060 < 0))) rfl (fun hb8060 => ?_) (fun hb8060 => ?_)
             · replace H := cnt hb8060 H
               refine WPL.skipg (b' := true) rfl rfl (lb hb8060) rfl rfl (.inl trivial) ?_
               refine WPL.skipg (b' := true) rfl rfl (lb hb8060) rfl rfl (.inl trivial) ?_
               refine WPL.skipg (b' := true) rfl rfl (lb hb8060) rfl rfl (.inl trivial) ?_
               refine WPL.skipg (b' := true) rfl rfl (lb hb8060) rfl rfl (.inl trivial) ?_
               refine WPL.skipg (b' := true) rfl rfl (lb hb8060) rfl rfl (.inl trivial) ?_
               refine WPL.q (q_pickT (v := .lit (.bool _)) (lb hb8060) rfl) rfl ?_
               refine WPL.q (q_as (v := .lit (.bool _)) rfl) rfl ?_
               refine WPL.nilW ?_
               have q0 := (Option.some.inj H)
               subst q0
               exact W.wk [] hnp ⟨rfl, rfl, rfl⟩ ⟨rfl, trivial, by decide, rfl, trivial⟩ (LeE.upd rfl rfl (LeE.upd rfl rfl (LeE.upd rfl rfl (LeE.upd rfl rfl (LeE.upd rfl rfl (LeE.upd rfl rfl (LeE.upd rfl rfl (LeE.none rfl rfl)))))))) rfl
             replace H := cnf hb8060 H
             refine WPL.qg rfl rfl (lb hb8060) (q_mv (v := .ro _ _ _) rfl) rfl ?_
             refine WPL.qg rfl rfl (lb hb8060) (q_mv (v := .lit (.int _ _)) rfl) rfl ?_
             obtain ⟨x8062, h8062, H⟩ := bnd H
             refine WPL.qg rfl rfl (lb hb8060) (q_index_ro sl22 rfl rfl rfl h8062) rfl ?_
             refine WPL.qg rfl rfl (lb hb8060) (q_load_sc sc3 rfl) rfl ?_
             refine WPL.qg rfl rfl (lb hb8060) (q_gtr rfl rfl) rfl ?_
             refine WPL.q (q_pickF (v := .lit (.bool _)) (lb hb8060) rfl) rfl ?_
             refine WPL.q (q_as (v := .lit (.bool _)) rfl) rfl ?_
             refine WPL.nilW ?_
             have q0 := (Option.some.inj H)
             subst q0
             exact W.wk [] hnp ⟨rfl, rfl, rfl⟩ ⟨rfl, trivial, by decide, rfl, trivial⟩ (LeE.upd rfl rfl (LeE.upd rfl rfl (LeE.upd rfl rfl (LeE.upd rfl rfl (LeE.upd rfl rfl (LeE.upd rfl rfl (LeE.upd rfl rfl (LeE.none rfl rfl)))))))) rfl
           rintro _ _ _ ⟨rfl, rfl, rfl⟩
           refine W.now ?_
           refine Then.n ?_
           refine WP.seq ?_
           refine WP.region ?_
           refine WPL.q (q_mv (v := .ro _ _ _) rfl) rfl ?_
           refine WPL.q (q_mv (v := .lit (.int _ _)) rfl) rfl ?_
           obtain ⟨x8064, h8064, H⟩ := bnd H
           refine WPL.q (q_index_ro sl22 rfl rfl rfl h8064) rfl ?_
           refine WPL.q (q_load_sc sc3 rfl) rfl ?_
           refine WPL.q (q_gtr rfl rfl) rfl ?_
           refine WPL.nilW ?_
           refine W.now ?_
           refine Then.n ?_
           refine WP.cond (t := (decide (0 < x8064))) rfl (fun hb8064 => ?_) (fun hb8064 => ?_)
           · replace H := cnt hb8064 H
             refine WP.region ?_
             refine WPL.q (q_mv (v := .lit (.int _ _)) rfl) rfl ?_
             refine WPL.q (q_add rfl rfl) rfl ?_
             refine WPL.q (q_as (v := .lit (.int _ _)) rfl) rfl ?_
             refine WPL.nilW ?_
             have q0 := (Prod.mk.inj (Option.some.inj H)).1
             have q1 := (Prod.mk.inj (Option.some.inj H)).2
             subst q0
             subst q1
             exact W.wk [] hnp (InBlock.n ⟨rfl, rfl, rfl⟩) ⟨rfl, trivial, by decide, rfl, trivial⟩ (LeE.upd rfl rfl (LeE.upd rfl rfl (LeE.upd rfl rfl (LeE.upd rfl rfl (LeE.upd rfl rfl (LeE.upd rfl rfl (LeE.upd rfl rfl (LeE.none rfl rfl)))))))) rfl
           replace H := cnf hb8064 H
           refine WP.skipW ?_
           have q0 := (Prod.mk.inj (Option.some.inj H)).1
           have q1 := (Prod.mk.inj (Option.some.inj H)).2
           subst q0
           subst q1
           exact W.wk [] hnp (InBlock.n ⟨rfl, rfl, rfl⟩) ⟨rfl, trivial, by decide, rfl, trivial⟩ (LeE.upd rfl rfl (LeE.upd rfl rfl (LeE.upd rfl rfl (LeE.upd rfl rfl (LeE.upd rfl rfl (LeE.upd rfl rfl (LeE.upd rfl rfl (LeE.none rfl rfl)))))))) rfl
         rintro _ _ _ ⟨rfl, rfl, rfl⟩
         refine W.now ?_
         refine Then.n ?_
         refine WP.region ?_
         refine WPL.q (q_mv (v := .lit (.int _ _)) rfl) rfl ?_
         refine WPL.q (q_add rfl rfl) rfl ?_
         refine WPL.q (q_as (v := .lit (.int _ _)) rfl) rfl ?_
         refine WPL.nilW ?_
         exact W.wk [] hnp (Then.n ⟨n, (x8052, x8053, (IntKind.wrap .i64 (x8002 + 1))), Nat.lt_succ_self n, H, rfl, rfl⟩) ⟨rfl, trivial, by decide, rfl, trivial⟩ (LeE.upd rfl rfl (LeE.upd rfl rfl (LeE.upd rfl rfl (LeE.upd rfl rfl (LeE.upd rfl rfl (LeE.upd rfl rfl (LeE.upd rfl rfl (LeE.none rfl rfl)))))))) rfl
       replace H := cnf hb8038 H
       refine WP.exitW ?_
       have q0 := (Prod.mk.inj (Option.some.inj H)).1
       have q1 := (Prod.mk.inj (Option.some.inj H)).2
       subst q0
       subst q1
       exact W.wk [] hnp (Then.x (Then.x ⟨rfl, rfl, rfl⟩)) ⟨rfl, trivial, by decide, rfl, trivial⟩ (LeE.upd rfl rfl (LeE.upd rfl rfl (LeE.upd rfl rfl (LeE.upd rfl rfl (LeE.upd rfl rfl (LeE.upd rfl rfl (LeE.none rfl rfl))))))) rfl
     rintro _ _ _ ⟨rfl, rfl, rfl⟩
     refine W.now ?_
     refine InBlock.x0 ?_
     refine Then.n ?_
     refine WP.seq ?_
     refine WP.seq ?_
     obtain ⟨x8086, H8089, H⟩ := bnd H
     refine WP.monoW (Q := fun x E M => x = .normal ∧ E = (((((Env.none.upd 0 (.ro (Rd.slice (Rd.int .i64)) false x3)).upd 1 (.lit (.int .i64 x4))).upd 5 (.ro (Rd.slice (Rd.int .i64)) false x7947)).upd 6 (.lit (.int .i64 x7948))).upd 65 (.lit (.bool x8086))) ∧ M = Mem.nil) ?_ ?_
     · clear H
       have H := H8089
       clear H8089
       refine WP.region ?_
       refine WPL.q (q_mv (v := .lit (.bool _)) rfl) rfl ?_
       refine WPL.q (q_mv (v := .lit (.bool _)) rfl) rfl ?_
       refine WPL.split (t := 59) (b := x8035) rfl (fun hb8086 => ?_) (fun hb8086 => ?_)
       · replace H := cnt hb8086 H
         refine WPL.skipg (b' := true) rfl rfl (lb hb8086) rfl rfl (.inl trivial) ?_
         refine WPL.skipg (b' := true) rfl rfl (lb hb8086) rfl rfl (.inl trivial) ?_
         refine WPL.skipg (b' := true) rfl rfl (lb hb8086) rfl rfl (.inl trivial) ?_
         refine WPL.skipg (b' := true) rfl rfl (lb hb8086) rfl rfl (.inl trivial) ?_
         refine WPL.skipg (b' := true) rfl rfl (lb hb8086) rfl rfl (.inl trivial) ?_
         refine WPL.q (q_pickT (v := .lit (.bool _)) (lb hb8086) rfl) rfl ?_
         refine WPL.nilW ?_
         have q0 := (Option.some.inj H)
         subst q0
         exact W.wk [] hnp ⟨rfl, rfl, rfl⟩ ⟨rfl, trivial, by decide, rfl, trivial⟩ (LeE.upd rfl rfl (LeE.upd rfl rfl (LeE.upd rfl rfl (LeE.upd rfl rfl (LeE.upd rfl rfl (LeE.none rfl rfl)))))) rfl
       replace H := cnf hb8086 H
       refine WPL.qg rfl rfl (lb hb8086) (q_mv (v := .lit (.int _ _)) rfl) rfl ?_
       refine WPL.qg rfl rfl (lb hb8086) (q_mv (v := .lit (.int _ _)) rfl) rfl ?_
       refine WPL.qg rfl rfl (lb hb8086) (q_conv Try.underlying3 Try.underlying27 rfl) rfl ?_
       obtain ⟨h8087, H⟩ := grd H
       refine WPL.qg rfl rfl (lb hb8086) (q_shl rfl rfl h8087) rfl ?_
       obtain ⟨x8089, h8089, H⟩ := bnd H
       refine WPL.qg rfl rfl (lb hb8086) (q_nm (q_gtr rfl rfl) (nm_bool h8089)) rfl ?_
       refine WPL.q (q_pickF (v := .lit (.bool _)) (lb hb8086) rfl) rfl ?_
       refine WPL.nilW ?_
       have q0 := (Option.some.inj H)
       subst q0
       exact W.wk [] hnp ⟨rfl, rfl, rfl⟩ ⟨rfl, trivial, by decide, rfl, trivial⟩ (LeE.upd rfl rfl (LeE.upd rfl rfl (LeE.upd rfl rfl (LeE.upd rfl rfl (LeE.upd rfl rfl (LeE.none rfl rfl)))))) rfl
     rintro _ _ _ ⟨rfl, rfl, rfl⟩
     refine W.now ?_
     refine Then.n ?_
     refine WP.cond (t := x8086) rfl (fun hb8090 => ?_) (fun hb8090 => ?_)
     · replace H := cnt hb8090 H
       refine WP.seq ?_
       obtain ⟨x8094, H8096, H⟩ := bnd H
       refine WP.monoW (Q := fun x E M => x = .normal ∧ E = (Env.none.upd 4 (.lit (.bool x8094))) ∧ M = Mem.nil) ?_ ?_
       · clear H
         have H := H8096
         clear H8096
         refine WP.region ?_
         refine WPL.q (q_mv (v := .lit (.int _ _)) rfl) rfl ?_
         refine WPL.q (q_eql rfl rfl) rfl ?_
         refine WPL.q (q_mv (v := .lit (.bool _)) rfl) rfl ?_
         refine WPL.split (t := 68) (b := (decide (x7948 = 1))) rfl (fun hb8094 => ?_) (fun hb8094 => ?_)
         · replace H := cnt hb8094 H
           refine WPL.qg rfl rfl (lb hb8094) (q_mv (v := .ro _ _ _) rfl) rfl ?_
           refine WPL.qg rfl rfl (lb hb8094) (q_len_ro sl22 rfl) rfl ?_
           obtain ⟨x8096, h8096, H⟩ := bnd H
           refine WPL.qg rfl rfl (lb hb8094) (q_nm (q_eql rfl rfl) (nm_bool h8096)) rfl ?_
           refine WPL.q (q_pickT (v := .lit (.bool _)) (lb hb8094) rfl) rfl ?_
           refine WPL.q (q_as (v := .lit (.bool _)) rfl) rfl ?_
           refine WPL.nilW ?_
           have q0 := (Option.some.inj H)
           subst q0
           exact W.wk [] hnp ⟨rfl, rfl, rfl⟩ ⟨rfl, trivial, by decide, rfl, trivial⟩ (LeE.upd rfl rfl (LeE.none rfl rfl)) rfl
         replace H := cnf hb8094 H
         refine WPL.skipg (b' := false) rfl rfl (lb hb8094) rfl rfl (.inl trivial) ?_
         refine WPL.skipg (b' := false) rfl rfl (lb hb8094) rfl rfl (.inl trivial) ?_
         refine WPL.skipg (b' := false) rfl rfl (lb hb8094) rfl rfl (.inl trivial) ?_
         refine WPL.q (q_pickF (v := .lit (.bool _)) (lb hb8094) rfl) rfl ?_
         refine WPL.q (q_as (v := .lit (.bool _)) rfl) rfl ?_
         refine WPL.nilW ?_
         have q0 := (Option.some.inj H)
         subst q0
         exact W.wk [] hnp ⟨rfl, rfl, rfl⟩ ⟨rfl, trivial, by decide, rfl, trivial⟩ (LeE.upd rfl rfl (LeE.none rfl rfl)) rfl
       rintro _ _ _ ⟨rfl, rfl, rfl⟩
       refine W.now ?_
       refine Then.n ?_
       refine WP.retW ?_
       have q0 := Option.some.inj H
       subst q0
       exact W.now (Then.r (BodyR.mkR trivial rfl [] ⟨rfl, rfl⟩ ⟨rfl, trivial, by decide, rfl, trivial⟩ rfl rfl))
     replace H := cnf hb8090 H
     refine WP.skipW ?_
     refine W.now ?_
     refine Then.n ?_
     refine WP.seq ?_
     refine WP.seq ?_
     obtain ⟨x8116, H8121, H⟩ := bnd H
     refine WP.monoW (Q := fun x E M => x = .normal ∧ E = ((((Env.none.upd 0 (.ro (Rd.slice (Rd.int .i64)) false x3)).upd 1 (.lit (.int .i64 x4))).upd 5 (.ro (Rd.slice (Rd.int .i64)) false x7947)).upd 86 (.lit (.bool x8116))) ∧ M = Mem.nil) ?_ ?_
     · clear H
       have H := H8121
       clear H8121
       refine WP.region ?_
       refine WPL.q (q_mv (v := .lit (.int _ _)) rfl) rfl ?_
       refine WPL.q (q_neq rfl rfl) rfl ?_
       refine WPL.q (q_mv (v := .lit (.bool _)) rfl) rfl ?_
       refine WPL.split (t := 75) (b := (!decide (x7948 = 0))) rfl (fun hb8116 => ?_) (fun hb8116 => ?_)
       · replace H := cnt hb8116 H
         refine WPL.skipg (b' := true) rfl rfl (lb hb8116) rfl rfl (.inl trivial) ?_
         refine WPL.skipg (b' := true) rfl rfl (lb hb8116) rfl rfl (.inl trivial) ?_
         refine WPL.skipg (b' := true) rfl rfl (lb hb8116) rfl rfl (.inl trivial) ?_
         refine WPL.skipg (b' := true) rfl rfl (lb hb8116) rfl rfl (.inl trivial) ?_
         refine WPL.skipg (b' := true) rfl rfl (lb hb8116) rfl rfl (.inl trivial) ?_
         refine WPL.q (q_pickT (v := .lit (.bool _)) (lb hb8116) rfl) rfl ?_
         refine WPL.q (q_mv (v := .lit (.bool _)) rfl) rfl ?_
         refine WPL.skipg (b' := true) rfl rfl rfl rfl rfl (.inl trivial) ?_
         refine WPL.skipg (b' := true) rfl rfl rfl rfl rfl (.inl (by simp only [SkipOk]; kernel_rfl)) ?_
         refine WPL.skipg (b' := true) rfl rfl rfl rfl rfl (.inl trivial) ?_
         refine WPL.q (q_pickT (v := .lit (.bool _)) rfl rfl) rfl ?_
         refine WPL.nilW ?_
         have q0 := (Option.some.inj H)
         subst q0
         exact W.wk [] hnp ⟨rfl, rfl, rfl⟩ ⟨rfl, trivial, by decide, rfl, trivial⟩ (LeE.upd rfl rfl (LeE.upd rfl rfl (LeE.upd rfl rfl (LeE.upd rfl rfl (LeE.none rfl rfl))))) rfl
       replace H := cnf hb8116 H
       refine WPL.qg rfl rfl (lb hb8116) (q_mv (v := .ro _ _ _) rfl) rfl ?_
       refine WPL.qg rfl rfl (lb hb8116) (q_len_ro sl22 rfl) rfl ?_
       refine WPL.qg rfl rfl (lb hb8116) (q_mv (v := .ro _ _ _) rfl) rfl ?_
       refine WPL.qg rfl rfl (lb hb8116) (q_len_ro sl22 rfl) rfl ?_
       obtain ⟨x8118, h8118, H⟩ := bnd H
       refine WPL.qg rfl rfl (lb hb8116) (q_nm (q_neq rfl rfl) (nm_bool h8118)) rfl ?_
       refine WPL.q (q_pickF (v := .lit (.bool _)) (lb hb8116) rfl) rfl ?_
       refine WPL.q (q_mv (v := .lit (.bool _)) rfl) rfl ?_
       refine WPL.split (t := 82) (b := x8118) rfl (fun hb8118 => ?_) (fun hb8118 => ?_)
       · replace H := cnt hb8118 H
         refine WPL.skipg (b' := true) rfl rfl (lb hb8118) rfl rfl (.inl trivial) ?_
         refine WPL.skipg (b' := true) rfl rfl (lb hb8118) rfl rfl (.inl (by simp only [SkipOk]; kernel_rfl)) ?_
         refine WPL.skipg (b' := true) rfl rfl (lb hb8118) rfl rfl (.inl trivial) ?_
         refine WPL.q (q_pickT (v := .lit (.bool _)) (lb hb8118) rfl) rfl ?_
         refine WPL.nilW ?_
         have q0 := (Option.some.inj H)
         subst q0
         exact W.wk [] hnp ⟨rfl, rfl, rfl⟩ ⟨rfl, trivial, by decide, rfl, trivial⟩ (LeE.upd rfl rfl (LeE.upd rfl rfl (LeE.upd rfl rfl (LeE.upd rfl rfl (LeE.none rfl rfl))))) rfl
       replace H := cnf hb8118 H
       refine WPL.qg rfl rfl (lb hb8118) (q_mv (v := .ro _ _ _) rfl) rfl ?_
       obtain ⟨x8121, h8119, H⟩ := bnd H
       refine WPL.cg rfl rfl (lb hb8118) (runs_call (s := []) (t := []) (N := 0) (bor := []) fn6 rfl (s_quireref02_Right k x7947 x8121 h8119) ⟨rfl, trivial, by decide, rfl, trivial⟩ rfl trivial (.ren rfl rfl .nil) rfl trivial rfl) rfl ?_
       refine WPL.qg rfl rfl (lb hb8118) (q_neq rfl rfl) rfl ?_
       refine WPL.q (q_pickF (v := .lit (.bool _)) (lb hb8118) rfl) rfl ?_
       refine WPL.nilW ?_
       have q0 := (Option.some.inj H)
       subst q0
       exact W.wk [] hnp ⟨rfl, rfl, rfl⟩ ⟨rfl, trivial, by decide, rfl, trivial⟩ (LeE.upd rfl rfl (LeE.upd rfl rfl (LeE.upd rfl rfl (LeE.upd rfl rfl (LeE.none rfl rfl))))) rfl
     rintro _ _ _ ⟨rfl, rfl, rfl⟩
     refine W.now ?_
     refine Then.n ?_
     refine WP.cond (t := x8116) rfl (fun hb8122 => ?_) (fun hb8122 => ?_)
     · replace H := cnt hb8122 H
       refine WP.seq ?_
       refine WP.region ?_
       refine WPL.q (q_as (v := .lit (.bool _)) rfl) rfl ?_
       refine WPL.nilW ?_
       refine W.now ?_
       refine Then.n ?_
       refine WP.retW ?_
       have q0 := Option.some.inj H
       subst q0
       exact W.now (Then.r (BodyR.mkR trivial rfl [] ⟨rfl, rfl⟩ ⟨rfl, trivial, by decide, rfl, trivial⟩ rfl rfl))
     replace H := cnf hb8122 H
     refine WP.skipW ?_
     refine W.now ?_
     refine Then.n ?_
     refine WP.seq ?_
     refine WP.seq ?_
     refine WP.region ?_
     refine WPL.q (q_as (v := .lit (.int _ _)) rfl) rfl ?_
     refine WPL.nilW ?_
     refine W.now ?_
     refine Then.n ?_
     refine WP.block ?_
     refine WP.cv (Cv.weak (E' := ((((Env.none.upd 0 (.ro (Rd.slice (Rd.int .i64)) false x3)).upd 1 (.lit (.int .i64 x4))).upd 5 (.ro (Rd.slice (Rd.int .i64)) false x7947)).upd 10 (.lit (.int .i64 0)))) (M' := Mem.nil) [] hnp ⟨rfl, trivial, by decide, rfl, trivial⟩ (LeE.upd rfl rfl (LeE.upd rfl rfl (LeE.upd rfl rfl (LeE.upd rfl rfl (LeE.none rfl rfl)))))) ?_
     obtain ⟨y8276, H8274, H⟩ := bnd H
     refine WP.monoW (Q := fun x E M => match (generalizing := false) y8276 with | (Sum.inl _) => x = .ret ∧ E = (Env.none.upd 4 (.lit (.bool false))) ∧ M = Mem.nil | (Sum.inr _) => x = .exit 2 ∧ E = (((Env.none.upd 0 (.ro (Rd.slice (Rd.int .i64)) false x3)).upd 1 (.lit (.int .i64 x4))).upd 5 (.ro (Rd.slice (Rd.int .i64)) false x7947)) ∧ M = Mem.nil) ?_ ?_
     · refine WP.loop (β := Int) (fun n b => g_quirelaw02_HuffBest_l1 k x3 x4 x7947 n b = some y8276) (fun b => ((((Env.none.upd 0 (.ro (Rd.slice (Rd.int .i64)) false x3)).upd 1 (.lit (.int .i64 x4))).upd 5 (.ro (Rd.slice (Rd.int .i64)) false x7947)).upd 10 (.lit (.int .i64 b)))) (fun b => Mem.nil) k 0 H8274 rfl rfl ?_
       rintro n x8174 H
       obtain _ | n := n
       · exact nf rfl H
       rw [g_quirelaw02_HuffBest_l1.eq_2] at H
       show WP _ _ _ _ ((((Env.none.upd 0 (.ro (Rd.slice (Rd.int .i64)) false x3)).upd 1 (.lit (.int .i64 x4))).upd 5 (.ro (Rd.slice (Rd.int .i64)) false x7947)).upd 10 (.lit (.int .i64 x8174))) Mem.nil _
       refine WP.seq ?_
       refine WP.seq ?_
       refine WP.region ?_
       refine WPL.q (q_mv (v := .lit (.int _ _)) rfl) rfl ?_
       refine WPL.q (q_mv (v := .ro _ _ _) rfl) rfl ?_
       refine WPL.q (q_len_ro sl22 rfl) rfl ?_
       obtain ⟨x8227, h8227, H⟩ := bnd H
       refine WPL.q (q_nm (q_lss rfl rfl) (nm_bool h8227)) rfl ?_
       refine WPL.nilW ?_
       refine W.now ?_
       refine Then.n ?_
       refine WP.cond (t := x8227) rfl (fun hb8227 => ?_) (fun hb8227 => ?_)
       · replace H := cnt hb8227 H
         refine WP.skipW ?_
         refine W.now ?_
         refine Then.n ?_
         refine WP.seq ?_
         refine WP.block ?_
         refine WP.seq ?_
         obtain ⟨x8262, H8272, H⟩ := bnd H
         refine WP.monoW (Q := fun x E M => x = .normal ∧ E = (((((Env.none.upd 0 (.ro (Rd.slice (Rd.int .i64)) false x3)).upd 1 (.lit (.int .i64 x4))).upd 5 (.ro (Rd.slice (Rd.int .i64)) false x7947)).upd 10 (.lit (.int .i64 x8174))).upd 111 (.lit (.bool x8262))) ∧ M = Mem.nil) ?_ ?_
         · clear H
           have H := H8272
           clear H8272
           refine WP.regionD' 19 [] [] mixed rfl ?_
           refine WPD.takeT 0 rfl (by kernel_rfl) (q_mv (v := .ro _ _ _) rfl) rfl ?_
           refine WPD.takeT 1 rfl (by kernel_rfl) (q_mv (v := .lit (.int _ _)) rfl) rfl ?_
           obtain ⟨x8268, h8268, H⟩ := bnd H
           refine WPD.takeT 2 rfl (by kernel_rfl) (q_index_ro sl22 rfl rfl rfl h8268) rfl ?_
           refine WPD.takeT 3 rfl (by kernel_rfl) (q_load_sc sc3 rfl) rfl ?_
           refine WPD.takeT 4 rfl (by kernel_rfl) (q_eql rfl rfl) rfl ?_
           refine WPD.takeT 5 rfl (by kernel_rfl) (q_mv (v := .ro _ _ _) rfl) rfl ?_
           refine WPD.takeT 6 rfl (by kernel_rfl) (q_mv (v := .lit (.int _ _)) rfl) rfl ?_
           obtain ⟨x8269, h8269, H⟩ := bnd H
           refine WPD.takeT 7 rfl (by kernel_rfl) (q_index_ro sl22 rfl rfl rfl h8269) rfl ?_
           refine WPD.takeT 8 rfl (by kernel_rfl) (q_load_sc sc3 rfl) rfl ?_
           refine WPD.takeT 9 rfl (by kernel_rfl) (q_eql rfl rfl) rfl ?_
           obtain ⟨x8270, h8270, H⟩ := bnd H
           refine WPD.takeT 10 rfl (by kernel_rfl) (q_nm (q_neqb Try.underlying4 rfl rfl) (nm_bool h8270)) rfl ?_
           refine WPD.takeT 11 rfl (by kernel_rfl) (q_mv (v := .lit (.bool _)) rfl) rfl ?_
           refine WPD.split (t := 104) (b := x8270) rfl (fun hb8270 => ?_) (fun hb8270 => ?_)
           · replace H := cnt hb8270 H
             refine WPD.pass (b' := true) 12 rfl (by kernel_rfl) rfl rfl (lb hb8270) rfl rfl (.inl trivial) ?_
             refine WPD.pass (b' := true) 13 rfl (by kernel_rfl) rfl rfl (lb hb8270) rfl rfl (.inl trivial) ?_
             refine WPD.pass (b' := true) 14 rfl (by kernel_rfl) rfl rfl (lb hb8270) rfl rfl (.inl trivial) ?_
             refine WPD.pass (b' := true) 15 rfl (by kernel_rfl) rfl rfl (lb hb8270) rfl rfl (.inl trivial) ?_
             refine WPD.pass (b' := true) 16 rfl (by kernel_rfl) rfl rfl (lb hb8270) rfl rfl (.inl trivial) ?_
             refine WPD.pass (b' := true) 17 rfl (by kernel_rfl) rfl rfl (lb hb8270) rfl rfl (.inl trivial) ?_
             refine WPD.takeT 18 rfl (by kernel_rfl) (q_pickT (v := .lit (.bool _)) (lb hb8270) rfl) rfl ?_
             refine WPD.doneW (by kernel_rfl) ?_
             have q0 := (Option.some.inj H)
             subst q0
             exact W.wk [] hnp ⟨rfl, rfl, rfl⟩ ⟨rfl, trivial, by decide, rfl, trivial⟩ (LeE.upd rfl rfl (LeE.upd rfl rfl (LeE.upd rfl rfl (LeE.upd rfl rfl (LeE.upd rfl rfl (LeE.none rfl rfl)))))) rfl
           replace H := cnf hb8270 H
           refine WPD.takegT 12 rfl (by kernel_rfl) rfl rfl (lb hb8270) (q_mv (v := .ro _ _ _) rfl) rfl ?_
           refine WPD.takegT 13 rfl (by kernel_rfl) rfl rfl (lb hb8270) (q_mv (v := .lit (.int _ _)) rfl) rfl ?_
           obtain ⟨x8272, h8272, H⟩ := bnd H
           refine WPD.takegT 14 rfl (by kernel_rfl) rfl rfl (lb hb8270) (q_index_ro sl22 rfl rfl rfl h8272) rfl ?_
           refine WPD.takegT 15 rfl (by kernel_rfl) rfl rfl (lb hb8270) (q_load_sc sc3 rfl) rfl ?_
           refine WPD.takegT 16 rfl (by kernel_rfl) rfl rfl (lb hb8270) (q_mv (v := .lit (.int _ _)) rfl) rfl ?_
           refine WPD.takegT 17 rfl (by kernel_rfl) rfl rfl (lb hb8270) (q_gtr rfl rfl) rfl ?_
           refine WPD.takeT 18 rfl (by kernel_rfl) (q_pickF (v := .lit (.bool _)) (lb hb8270) rfl) rfl ?_
           refine WPD.doneW (by kernel_rfl) ?_
           have q0 := (Option.some.inj H)
           subst q0
           exact W.wk [] hnp ⟨rfl, rfl, rfl⟩ ⟨rfl, trivial, by decide, rfl, trivial⟩ (LeE.upd rfl rfl (LeE.upd rfl rfl (LeE.upd rfl rfl (LeE.upd rfl rfl (LeE.upd rfl rfl (LeE.none rfl rfl)))))) rfl
         rintro _ _ _ ⟨rfl, rfl, rfl⟩
         refine W.now ?_
         refine Then.n ?_
         refine WP.cond (t := x8262) rfl (fun hb8273 => ?_) (fun hb8273 => ?_)
         · replace H := cnt hb8273 H
           refine WP.seq ?_
           refine WP.region ?_
           refine WPL.q (q_as (v := .lit (.bool _)) rfl) rfl ?_
           refine WPL.nilW ?_
           refine W.now ?_
           refine Then.n ?_
           refine WP.retW ?_
           have q0 := Option.some.inj H
           subst q0
           exact W.wk [] hnp (InBlock.r (Then.r (Then.r ⟨rfl, rfl, rfl⟩))) ⟨rfl, trivial, by decide, rfl, trivial⟩ (LeE.upd rfl rfl (LeE.none rfl rfl)) rfl
         replace H := cnf hb8273 H
         refine WP.skipW ?_
         refine W.now ?_
         refine InBlock.n ?_
         refine Then.n ?_
         refine WP.region ?_
         refine WPL.q (q_mv (v := .lit (.int _ _)) rfl) rfl ?_
         refine WPL.q (q_add rfl rfl) rfl ?_
         refine WPL.q (q_as (v := .lit (.int _ _)) rfl) rfl ?_
         refine WPL.nilW ?_
         exact W.wk [] hnp (Then.n ⟨n, (IntKind.wrap .i64 (x8174 + 1)), Nat.lt_succ_self n, H, rfl, rfl⟩) ⟨rfl, trivial, by decide, rfl, trivial⟩ (LeE.upd rfl rfl (LeE.upd rfl rfl (LeE.upd rfl rfl (LeE.upd rfl rfl (LeE.none rfl rfl))))) rfl
       replace H := cnf hb8227 H
       refine WP.exitW ?_
       have q0 := Option.some.inj H
       subst q0
       exact W.wk [] hnp (Then.x (Then.x ⟨rfl, rfl, rfl⟩)) ⟨rfl, trivial, by decide, rfl, trivial⟩ (LeE.upd rfl rfl (LeE.upd rfl rfl (LeE.upd rfl rfl (LeE.none rfl rfl)))) rfl
     rcases y8276 with _ | _
     · rintro _ _ _ ⟨rfl, rfl, rfl⟩
       have q0 := Option.some.inj H
       subst q0
       exact W.now (InBlock.r (Then.r (BodyR.mkR trivial rfl [] ⟨rfl, rfl⟩ ⟨rfl, trivial, by decide, rfl, trivial⟩ rfl rfl)))
     rintro _ _ _ ⟨rfl, rfl, rfl⟩
     refine W.now ?_
     refine InBlock.x0 ?_
     refine Then.n ?_
     refine WP.seq ?_
     refine WP.region ?_
     refine WPL.q (q_mv (v := .ro _ _ _) rfl) rfl ?_
     refine WPL.q (q_mv (v := .ro _ _ _) rfl) rfl ?_
     obtain ⟨x8278, h8276, H⟩ := bnd H
     refine WPL.c (runs_call (s := []) (t := []) (N := 0) (bor := []) fn7 rfl (s_quireref02_Cost k x3 x7947 x8278 h8276) ⟨rfl, trivial, by decide, rfl, trivial⟩ rfl trivial (.ren rfl rfl (.ren rfl rfl .nil)) rfl trivial rfl) rfl ?_
     refine WPL.q (q_mv (v := .ro _ _ _) rfl) rfl ?_
     refine WPL.q (q_mv (v := .lit (.int _ _)) rfl) rfl ?_
     obtain ⟨x8280, h8278, H⟩ := bnd H
     refine WPL.c (runs_call (s := []) (t := []) (N := 0) (bor := []) fn8 rfl (s_quireref02_Least k x3 x4 x8280 h8278) ⟨rfl, trivial, by decide, rfl, trivial⟩ rfl trivial (.ren rfl rfl (.ren rfl rfl .nil)) rfl trivial rfl) rfl ?_
     refine WPL.q (q_eql rfl rfl) rfl ?_
     refine WPL.q (q_as (v := .lit (.bool _)) rfl) rfl ?_
     refine WPL.nilW ?_
     refine W.now ?_
     refine Then.n ?_
     refine WP.retW ?_
     have q0 := Option.some.inj H
     subst q0
     exact W.now (BodyR.mkR trivial rfl [] ⟨rfl, rfl⟩ ⟨rfl, trivial, by decide, rfl, trivial⟩ rfl rfl)
   refine WPL.pW (runs_callP (s := []) (t := []) (N := 0) (bor := []) fn5 rfl (s_quirelaw02_alive k (Sum.inr x7958) h7955) ⟨rfl, trivial, by decide, rfl, trivial⟩ rfl trivial .nil rfl trivial rfl) ?_
   have q0 := Option.some.inj H
   subst q0
   exact W.now (Then.p (Then.p (BodyR.mkP trivial [] ⟨rfl, rfl⟩ ⟨rfl, trivial, by decide, rfl, trivial⟩ rfl rfl)))
 refine WPL.pW (runs_callP (s := []) (t := []) (N := 0) (bor := []) fn4 rfl (s_huff_Lengths k x3 x4 (Sum.inr x7949) h7945) ⟨rfl, trivial, by decide, rfl, trivial⟩ rfl trivial (.ren rfl rfl (.ren rfl rfl .nil)) rfl trivial rfl) ?_
 have q0 := Option.some.inj H
 subst q0
 exact W.now (Then.p (BodyR.mkP trivial [] ⟨rfl, rfl⟩ ⟨rfl, trivial, by decide, rfl, trivial⟩ rfl rfl))
end Go.Proofs.Ytjahhkhpchiojaa.W
namespace Go.Proofs.Ytjahhkhpchiojaa.HB
/-- The elements of each key are the same ones, in the same order. -/
def Sim {α : Type} (f : α → Int) (l r : List α) : Prop := ∀ k, l.filter (fun x => f x == k) = r.filter (fun x => f x == k)
/-- Sorted by a key. -/
def Srt {α : Type} (f : α → Int) (l : List α) : Prop := l.Pairwise (fun x y => f x ≤ f y)
section
variable {α : Type} {f : α → Int} {l r l' r' s : List α}
theorem Sim.refl (l : List α) : Sim f l l := fun _ => rfl
theorem Sim.symm (h : Sim f l r) : Sim f r l := fun k => (h k).symm
theorem Sim.trans (h : Sim f l r) (g : Sim f r s) : Sim f l s := fun k => (h k).trans (g k)
theorem Sim.app (h : Sim f l l') (g : Sim f r r') : Sim f (l ++ r) (l' ++ r') := fun k => by rw [List.filter_append, List.filter_append, h k, g k]
theorem Sim.cons (x : α) (h : Sim f l l') : Sim f (x :: l) (x :: l') := Sim.app (Sim.refl [x]) h
theorem Sim.swap (h : ∀ x ∈ l, ∀ y ∈ r, f x ≠ f y) : Sim f (l ++ r) (r ++ l) := fun k => by
  rw [List.filter_append, List.filter_append]
  by_cases hl : l.filter (fun x => f x == k) = []
  · simp [hl]
  · obtain ⟨x, hx⟩ := List.exists_mem_of_ne_nil _ hl
    have hx' := List.mem_filter.1 hx
    have hr : r.filter (fun x => f x == k) = [] := by
      rw [List.filter_eq_nil_iff]
      intro y hy hk
      have h1 : f x = k := by simpa using hx'.2
      have h2 : f y = k := by simpa using hk
      exact h x hx'.1 y hy (h1.trans h2.symm)
    simp [hr]
theorem Sim.mem (h : Sim f l r) {x : α} (hx : x ∈ l) : x ∈ r := by
  have : x ∈ l.filter (fun y => f y == f x) := List.mem_filter.2 ⟨hx, by simp⟩
  rw [h] at this
  exact (List.mem_filter.1 this).1
theorem Srt.uniq : ∀ {l r : List α}, Srt f l → Srt f r → Sim f l r → l = r
  | [], [], _, _, _ => rfl
  | [], y :: r, _, _, h => absurd (h.symm.mem (List.mem_cons_self)) (by simp)
  | x :: l, [], _, _, h => absurd (h.mem (List.mem_cons_self)) (by simp)
  | x :: l, y :: r, hl, hr, h => by
    have hl' := List.pairwise_cons.1 hl
    have hr' := List.pairwise_cons.1 hr
    have h1 : f x ≤ f y := by
      rcases List.mem_cons.1 (h.symm.mem (List.mem_cons_self (a := y))) with e | e
      · rw [e]; exact Int.le_refl _
      · exact hl'.1 _ e
    have h2 : f y ≤ f x := by
      rcases List.mem_cons.1 (h.mem (List.mem_cons_self (a := x))) with e | e
      · rw [e]; exact Int.le_refl _
      · exact hr'.1 _ e
    have he : f x = f y := Int.le_antisymm h1 h2
    have hk := h (f x)
    rw [List.filter_cons_of_pos (by simp), List.filter_cons_of_pos (by simp [he])] at hk
    have hxy : x = y := (List.cons.inj hk).1
    subst hxy
    have : Sim f l r := fun k => by
      have hk := h k
      by_cases hc : f x = k
      · rw [List.filter_cons_of_pos (by simp [hc]), List.filter_cons_of_pos (by simp [hc])] at hk
        exact (List.cons.inj hk).2
      · rwa [List.filter_cons_of_neg (by simp [hc]), List.filter_cons_of_neg (by simp [hc])] at hk
    rw [Srt.uniq hl'.2 hr'.2 this]
end
/-- How often, and which symbols. -/
abbrev C := Int × List Int
def ins (x : C) : List C → List C
  | [] => [x]
  | y :: l => if y.1 < x.1 then y :: ins x l else x :: y :: l
def st : List C → List C
  | [] => []
  | x :: l => ins x (st l)
abbrev key : C → Int := fun c => c.1
theorem ins_sim (x : C) : ∀ l, Sim key (x :: l) (ins x l)
  | [] => Sim.refl _
  | y :: l => by
    unfold ins
    split
    · rename_i h
      refine Sim.trans ?_ (Sim.cons y (ins_sim x l))
      exact Sim.app (l := [x] ++ [y]) (l' := [y] ++ [x]) (Sim.swap (by intro a ha b hb; simp at ha hb; subst ha; subst hb; exact fun e => absurd e.symm (Int.ne_of_lt h))) (Sim.refl l)
    · exact Sim.refl _
theorem ins_srt (x : C) : ∀ l, Srt key l → Srt key (ins x l)
  | [], _ => List.pairwise_singleton _ _
  | y :: l, h => by
    have h' := List.pairwise_cons.1 h
    unfold ins
    split
    · rename_i hc
      refine List.pairwise_cons.2 ⟨fun z hz => ?_, ins_srt x l h'.2⟩
      rcases List.mem_cons.1 ((ins_sim x l).symm.mem hz) with e | e
      · rw [e]; exact Int.le_of_lt hc
      · exact h'.1 z e
    · rename_i hc
      refine List.pairwise_cons.2 ⟨fun z hz => ?_, h⟩
      rcases List.mem_cons.1 hz with e | e
      · rw [e]; exact Int.not_lt.1 hc
      · exact Int.le_trans (Int.not_lt.1 hc) (h'.1 z e)
theorem st_sim : ∀ l, Sim key l (st l)
  | [] => Sim.refl _
  | x :: l => Sim.trans (Sim.cons x (st_sim l)) (ins_sim x (st l))
theorem st_srt : ∀ l, Srt key (st l)
  | [] => List.Pairwise.nil
  | x :: l => ins_srt x _ (st_srt l)
theorem st_eq {l r : List C} (h : Srt key r) (g : Sim key l r) : r = st l := h.uniq (st_srt l) (g.symm.trans (st_sim l))
theorem st_len : ∀ l, (st l).length = l.length := by
  have hi : ∀ (x : C) l, (ins x l).length = l.length + 1 := by
    intro x l
    induction l with
    | nil => rfl
    | cons y l ih => unfold ins; split <;> simp [ih]
  intro l
  induction l with
  | nil => rfl
  | cons x l ih => show (ins x (st l)).length = _; rw [hi, ih]; rfl
theorem st_mem {l : List C} {x : C} : x ∈ st l ↔ x ∈ l := ⟨(st_sim l).symm.mem, (st_sim l).mem⟩
/-- Two rows as one; of those that are alike the first row's are ahead. -/
def mg : List C → List C → List C
  | [], r => r
  | x :: l, [] => x :: l
  | x :: l, y :: r => if y.1 < x.1 then y :: mg (x :: l) r else x :: mg l (y :: r)
termination_by l r => l.length + r.length
theorem mg_sim : ∀ (l r : List C), Srt key l → Sim key (l ++ r) (mg l r)
  | [], r, _ => by rw [mg]; exact Sim.refl _
  | x :: l, [], _ => by rw [mg, List.append_nil]; exact Sim.refl _
  | x :: l, y :: r, h => by
    rw [mg]
    have h' := List.pairwise_cons.1 h
    split
    · rename_i hc
      refine Sim.trans ?_ (Sim.cons y (mg_sim (x :: l) r h))
      have e1 : x :: l ++ y :: r = ((x :: l) ++ [y]) ++ r := by simp
      have e2 : y :: (x :: l ++ r) = ([y] ++ (x :: l)) ++ r := by simp
      rw [e1, e2]
      refine Sim.app (Sim.swap ?_) (Sim.refl r)
      intro a ha b hb e
      rw [List.mem_singleton] at hb; subst hb
      have : x.1 ≤ a.1 := by
        rcases List.mem_cons.1 ha with q | q
        · rw [q]; exact Int.le_refl _
        · exact h'.1 _ q
      have e' : a.1 = b.1 := e
      omega
    · exact Sim.cons x (mg_sim l (y :: r) h'.2)
termination_by l r => l.length + r.length
theorem mg_srt : ∀ (l r : List C), Srt key l → Srt key r → Srt key (mg l r)
  | [], r, _, h => by rw [mg]; exact h
  | x :: l, [], h, _ => by rw [mg]; exact h
  | x :: l, y :: r, h, g => by
    have h' := List.pairwise_cons.1 h
    have g' := List.pairwise_cons.1 g
    rw [mg]
    split
    · rename_i hc
      refine List.pairwise_cons.2 ⟨fun z hz => ?_, mg_srt (x :: l) r h g'.2⟩
      rcases List.mem_append.1 ((mg_sim (x :: l) r h).symm.mem hz) with e | e
      · rcases List.mem_cons.1 e with q | q
        · rw [q]; exact Int.le_of_lt hc
        · exact Int.le_trans (Int.le_of_lt hc) (h'.1 z q)
      · exact g'.1 z e
    · rename_i hc
      refine List.pairwise_cons.2 ⟨fun z hz => ?_, mg_srt l (y :: r) h'.2 g⟩
      rcases List.mem_append.1 ((mg_sim l (y :: r) h'.2).symm.mem hz) with e | e
      · exact h'.1 z e
      · rcases List.mem_cons.1 e with q | q
        · rw [q]; exact Int.not_lt.1 hc
        · exact Int.le_trans (Int.not_lt.1 hc) (g'.1 z q)
termination_by l r => l.length + r.length
/-- A beginning of the one row is beginnings of the two. -/
theorem mg_pre : ∀ (t : Nat) (l r : List C), Srt key l → t ≤ l.length + r.length →
    ∃ a b, a ≤ l.length ∧ b ≤ r.length ∧ a + b = t ∧ ((mg l r).take t).Perm (l.take a ++ r.take b) ∧ ∀ y ∈ r.take b, ∀ x ∈ l.drop a, y.1 < x.1
  | 0, l, r, _, _ => ⟨0, 0, Nat.zero_le _, Nat.zero_le _, rfl, by simp, by simp⟩
  | t + 1, [], r, _, ht => ⟨0, t + 1, Nat.le_refl _, by simpa using ht, by omega, by rw [mg]; simp, by simp⟩
  | t + 1, x :: l, [], _, ht => ⟨t + 1, 0, by simpa using ht, Nat.le_refl _, rfl, by rw [mg]; simp, by simp⟩
  | t + 1, x :: l, y :: r, h, ht => by
    have h' := List.pairwise_cons.1 h
    rw [mg]
    split
    · rename_i hc
      obtain ⟨a, b, ha, hb, hab, hp, hlt⟩ := mg_pre t (x :: l) r h (by simp at ht ⊢; omega)
      refine ⟨a, b + 1, ha, by simp; omega, by omega, ?_, ?_⟩
      · rw [List.take_succ_cons, List.take_succ_cons]
        exact (List.Perm.cons y hp).trans List.perm_middle.symm
      · intro z hz w hw
        rw [List.take_succ_cons] at hz
        rcases List.mem_cons.1 hz with e | e
        · subst e
          have : w ∈ x :: l := List.mem_of_mem_drop hw
          rcases List.mem_cons.1 this with q | q
          · rw [q]; exact hc
          · exact Int.lt_of_lt_of_le hc (h'.1 w q)
        · exact hlt z e w hw
    · rename_i hc
      obtain ⟨a, b, ha, hb, hab, hp, hlt⟩ := mg_pre t l (y :: r) h'.2 (by simp at ht ⊢; omega)
      refine ⟨a + 1, b, by simp; omega, hb, by omega, ?_, ?_⟩
      · rw [List.take_succ_cons, List.take_succ_cons]
        exact List.Perm.cons x hp
      · intro z hz w hw
        rw [List.drop_succ_cons] at hw
        exact hlt z hz w hw
/-- Each two as one. -/
def pairs : List C → List C
  | x :: y :: l => (x.1 + y.1, x.2 ++ y.2) :: pairs l
  | _ => []
theorem pairs_len : ∀ l, (pairs l).length = l.length / 2
  | [] => rfl
  | [_] => by simp [pairs]
  | _ :: _ :: l => by simp only [pairs, List.length_cons, pairs_len l]; omega
theorem pairs_srt : ∀ l, Srt key l → Srt key (pairs l)
  | [], _ => List.Pairwise.nil
  | [_], _ => List.Pairwise.nil
  | x :: y :: l, h => by
    have h1 := List.pairwise_cons.1 h
    have h2 := List.pairwise_cons.1 h1.2
    refine List.pairwise_cons.2 ⟨?_, pairs_srt l h2.2⟩
    have : ∀ l : List C, (∀ z ∈ l, x.1 ≤ z.1 ∧ y.1 ≤ z.1) → ∀ z ∈ pairs l, x.1 + y.1 ≤ z.1 := by
      intro l
      induction l using pairs.induct with
      | case1 a b l ih =>
        intro hz z hm
        rcases List.mem_cons.1 hm with e | e
        · subst e
          have := (hz a (by simp)).1; have := (hz b (by simp)).2
          show x.1 + y.1 ≤ a.1 + b.1; omega
        · exact ih (fun z hz' => hz z (by simp [hz'])) z e
      | case2 l hl =>
        intro _ z hm
        unfold pairs at hm; split at hm
        · exact absurd rfl (hl _ _ _)
        · simp at hm
    exact fun z hz => this l (fun z hz => ⟨h1.1 z (by simp [hz]), h2.1 z hz⟩) z hz
abbrev syms (l : List C) : List Int := l.flatMap (·.2)
theorem syms_pairs : ∀ (b : Nat) (l : List C), 2 * b ≤ l.length → syms ((pairs l).take b) = syms (l.take (2 * b))
  | 0, l, _ => by simp
  | b + 1, [], h => by simp at h
  | b + 1, [x], h => by simp at h; omega
  | b + 1, x :: y :: l, h => by
    have ih := syms_pairs b l (by simp at h; omega)
    have e : 2 * (b + 1) = (2 * b) + 1 + 1 := by omega
    rw [e]
    simp only [pairs, List.take_succ_cons, List.flatMap_cons, List.append_assoc]
    rw [show List.flatMap (fun x : C => x.2) (List.take b (pairs l)) = List.flatMap (fun x : C => x.2) (List.take (2 * b) l) from ih]
/-- The rows, one after the other. -/
def lev (base : List C) : Nat → List C
  | 0 => []
  | j + 1 => st (base ++ pairs (lev base j))
theorem lev_srt (base : List C) : ∀ j, Srt key (lev base j)
  | 0 => List.Pairwise.nil
  | _ + 1 => st_srt _
theorem lev_len (base : List C) (j : Nat) : (lev base (j + 1)).length = base.length + (lev base j).length / 2 := by
  rw [lev, st_len, List.length_append, pairs_len]
theorem lev_many (base : List C) (m : Nat) (h : base.length ≤ 2 ^ m) : ∀ j, j ≤ m → 2 * base.length ≤ (lev base j).length + 2 ^ (m + 1 - j)
  | 0, _ => by simp [lev, Nat.pow_succ]; omega
  | j + 1, hj => by
    have ih := lev_many base m h j (by omega)
    rw [lev_len]
    have e : m + 1 - j = (m + 1 - (j + 1)) + 1 := by omega
    rw [e, Nat.pow_succ] at ih
    omega
theorem lev_mg (base : List C) (hb : Srt key base) (j : Nat) : lev base (j + 1) = mg base (pairs (lev base j)) :=
  (st_eq (mg_srt _ _ hb (pairs_srt _ (lev_srt base j))) (mg_sim _ _ hb)).symm
/-- What an item weighs is what its symbols weigh. -/
def Wt (F : Int → Int) (x : C) : Prop := x.1 = (x.2.map F).sum
theorem sum_app (F : Int → Int) (a b : List Int) : ((a ++ b).map F).sum = (a.map F).sum + (b.map F).sum := by rw [List.map_append, List.sum_append]
theorem pairs_wt {F : Int → Int} : ∀ (l : List C), (∀ x ∈ l, Wt F x) → ∀ x ∈ pairs l, Wt F x
  | [], _, x, hx => by simp [pairs] at hx
  | [_], _, x, hx => by simp [pairs] at hx
  | a :: b :: l, h, x, hx => by
    rcases List.mem_cons.1 hx with e | e
    · subst e
      show a.1 + b.1 = ((a.2 ++ b.2).map F).sum
      rw [sum_app, ← show a.1 = _ from h a (by simp), ← show b.1 = _ from h b (by simp)]
    · exact pairs_wt l (fun x hx => h x (by simp [hx])) x e
theorem lev_wt {F : Int → Int} (base : List C) (hw : ∀ x ∈ base, Wt F x) : ∀ j, ∀ x ∈ lev base j, Wt F x
  | 0, x, hx => by simp [lev] at hx
  | j + 1, x, hx => by
    rcases List.mem_append.1 (st_mem.1 hx) with e | e
    · exact hw x e
    · exact pairs_wt _ (lev_wt base hw j) x e
theorem le_sum {F : Int → Int} (h : ∀ s, 0 ≤ F s) : ∀ (l : List Int) (s : Int), s ∈ l → F s ≤ (l.map F).sum ∧ 0 ≤ (l.map F).sum := by
  have h0 : ∀ l : List Int, 0 ≤ (l.map F).sum := by
    intro l
    induction l with
    | nil => simp
    | cons x l ih => simp only [List.map_cons, List.sum_cons]; have := h x; omega
  intro l
  induction l with
  | nil => intro s hs; simp at hs
  | cons x l ih =>
    intro s hs
    refine ⟨?_, h0 _⟩
    simp only [List.map_cons, List.sum_cons]
    rcases List.mem_cons.1 hs with e | e
    · subst e; have := h0 l; omega
    · have := (ih s e).1; have := h x; omega
abbrev cnt (s : Int) (l : List C) : Nat := (syms l).count s
theorem cnt_perm {l r : List C} (h : l.Perm r) (s : Int) : cnt s l = cnt s r := (List.Perm.flatMap_right _ h).count_eq s
def term (j c : Nat) : Nat := 2 ^ j - 2 ^ (j - c)
theorem term0 (j : Nat) : term j 0 = 0 := by simp [term]
theorem term1 (j c : Nat) (h : c ≤ j) : term (j + 1) (1 + c) = 2 ^ j + term j c := by
  unfold term
  have e : j + 1 - (1 + c) = j - c := by omega
  have : 2 ^ (j - c) ≤ 2 ^ j := Nat.pow_le_pow_right (by decide) (by omega)
  rw [e, Nat.pow_succ]; omega
theorem base_syms (F : Int → Int) (S : List Int) (a : Nat) : syms ((S.map fun s => ((F s, [s]) : C)).take a) = S.take a := by
  rw [← List.map_take]
  induction S.take a with
  | nil => rfl
  | cons x l ih => simp only [List.map_cons, List.flatMap_cons]; rw [show List.flatMap (fun x : C => x.2) (List.map (fun s => ((F s, [s]) : C)) l) = l from ih]; rfl
theorem sum_add (S : List Int) (f g : Int → Nat) : (S.map fun s => f s + g s).sum = (S.map f).sum + (S.map g).sum := by
  induction S with
  | nil => rfl
  | cons x l ih => simp only [List.map_cons, List.sum_cons, ih]; omega
theorem sum_const (S : List Int) (k : Nat) : (S.map fun _ => k).sum = S.length * k := by
  induction S with
  | nil => simp
  | cons x l ih => simp only [List.map_cons, List.sum_cons, ih, List.length_cons]; rw [Nat.succ_mul]; omega
theorem sum_congr (S : List Int) (f g : Int → Nat) (h : ∀ s ∈ S, f s = g s) : (S.map f).sum = (S.map g).sum := by
  induction S with
  | nil => rfl
  | cons x l ih => simp only [List.map_cons, List.sum_cons]; rw [h x (by simp), ih (fun s hs => h s (by simp [hs]))]
/-- The symbols of a beginning of a row fill so much of a code. -/
theorem fills {F : Int → Int} (hF : ∀ s, 0 ≤ F s) (S : List Int) (hS : S.Nodup) (hs : Srt key (S.map fun s => ((F s, [s]) : C))) :
    ∀ j t, t ≤ (lev (S.map fun s => ((F s, [s]) : C)) j).length →
      (∀ s, cnt s ((lev (S.map fun s => ((F s, [s]) : C)) j).take t) ≤ j) ∧ (∀ s, s ∉ S → cnt s ((lev (S.map fun s => ((F s, [s]) : C)) j).take t) = 0) ∧
      2 * (S.map fun s => term j (cnt s ((lev (S.map fun s => ((F s, [s]) : C)) j).take t))).sum = t * 2 ^ j := by
  generalize hB : (S.map fun s => ((F s, [s]) : C)) = base at hs
  have hbw : ∀ x ∈ base, Wt F x := by
    subst hB; intro x hx
    obtain ⟨s, _, rfl⟩ := List.mem_map.1 hx
    show F s = _; simp
  intro j
  induction j with
  | zero =>
    intro t ht
    have : t = 0 := by simpa [lev] using ht
    subst this
    have z : ∀ s, cnt s ([] : List C) = 0 := fun s => rfl
    refine ⟨fun s => Nat.le_of_eq (z s), fun s _ => z s, ?_⟩
    rw [List.take_zero, sum_congr S _ (fun _ => 0) (fun s _ => by rw [z s]; exact term0 _), sum_const]; simp
  | succ j ih =>
    intro t ht
    rw [lev_mg base hs] at ht ⊢
    have hlen : (mg base (pairs (lev base j))).length = base.length + (pairs (lev base j)).length := by rw [← lev_mg base hs, lev, st_len, List.length_append]
    obtain ⟨a, b, ha, hb, hab, hp, hlt⟩ := mg_pre t base (pairs (lev base j)) hs (by omega)
    have hb2 : 2 * b ≤ (lev base j).length := by rw [pairs_len] at hb; omega
    obtain ⟨i1, i2, i3⟩ := ih (2 * b) hb2
    have hla : syms (base.take a) = S.take a := by subst hB; exact base_syms F S a
    have haS : a ≤ S.length := by subst hB; simpa using ha
    have hc : ∀ s, cnt s ((mg base (pairs (lev base j))).take t) = (S.take a).count s + cnt s ((lev base j).take (2 * b)) := by
      intro s
      rw [cnt_perm hp]
      show (syms (base.take a ++ (pairs (lev base j)).take b)).count s = _
      rw [show syms (base.take a ++ (pairs (lev base j)).take b) = syms (base.take a) ++ syms ((pairs (lev base j)).take b) from List.flatMap_append, List.count_append, hla, syms_pairs b _ hb2]
    -- what is within a package is ahead of it
    have hz : ∀ s ∈ S.drop a, cnt s ((lev base j).take (2 * b)) = 0 := by
      intro s hsd
      refine Nat.eq_zero_of_not_pos fun hpos => ?_
      have hm : s ∈ syms ((lev base j).take (2 * b)) := List.count_pos_iff.1 hpos
      rw [← syms_pairs b _ hb2] at hm
      obtain ⟨y, hy, hsy⟩ := List.mem_flatMap.1 hm
      have hyw : Wt F y := pairs_wt _ (lev_wt base hbw j) y (List.mem_of_mem_take hy)
      have h1 := hlt y hy (F s, [s]) (by subst hB; rw [← List.map_drop]; exact List.mem_map.2 ⟨s, hsd, rfl⟩)
      have h2 := (le_sum hF y.2 s hsy).1
      rw [← show y.1 = _ from hyw] at h2
      exact absurd h1 (Int.not_lt.2 h2)
    have hsp : S = S.take a ++ S.drop a := (List.take_append_drop a S).symm
    have hnd : (S.take a ++ S.drop a).Nodup := by rw [← hsp]; exact hS
    have hdis := (List.nodup_append.1 hnd)
    have h1 : ∀ s ∈ S.take a, (S.take a).count s = 1 := fun s hs => by rw [hdis.1.count, if_pos hs]
    have h0 : ∀ s, s ∉ S.take a → (S.take a).count s = 0 := fun s hs => List.count_eq_zero.2 hs
    have hd0 : ∀ s ∈ S.drop a, (S.take a).count s = 0 := fun s hs => h0 s fun hq => hdis.2.2 s hq s hs rfl
    refine ⟨fun s => ?_, fun s hn => ?_, ?_⟩
    · rw [hc]
      by_cases q : s ∈ S.take a
      · rw [h1 s q]; have := i1 s; omega
      · rw [h0 s q]; have := i1 s; omega
    · rw [hc, i2 s hn, h0 s fun q => hn (List.mem_of_mem_take q)]
    · have key1 : (S.map fun s => term (j + 1) (cnt s ((mg base (pairs (lev base j))).take t))).sum = a * 2 ^ j + (S.map fun s => term j (cnt s ((lev base j).take (2 * b)))).sum := by
        generalize hcc : (fun s => cnt s ((lev base j).take (2 * b))) = c at *
        have hc' : ∀ s, cnt s ((mg base (pairs (lev base j))).take t) = (S.take a).count s + c s := by intro s; rw [hc s, ← hcc]
        have hz' : ∀ s ∈ S.drop a, c s = 0 := by intro s hs; rw [← hcc]; exact hz s hs
        have i1' : ∀ s, c s ≤ j := by intro s; rw [← hcc]; exact i1 s
        rw [sum_congr S _ (fun s => term (j + 1) ((S.take a).count s + c s)) (fun s _ => by rw [hc' s])]
        have e1 : (S.map fun s => term (j + 1) ((S.take a).count s + c s)).sum = ((S.take a).map fun s => 2 ^ j + term j (c s)).sum + ((S.drop a).map fun _ => 0).sum := by
          conv => lhs; rw [hsp]
          rw [List.map_append, List.sum_append]
          congr 1
          · exact sum_congr _ _ _ fun s hs => by
              rw [List.take_append_drop, h1 s hs, term1 _ _ (i1' s)]
          · exact sum_congr _ _ _ fun s hs => by
              rw [List.take_append_drop, hd0 s hs, hz' s hs]; exact term0 _
        have e2 : (S.map fun s => term j (c s)).sum = ((S.take a).map fun s => term j (c s)).sum + ((S.drop a).map fun _ => 0).sum := by
          conv => lhs; rw [hsp]
          rw [List.map_append, List.sum_append]
          congr 1
          exact sum_congr _ _ _ fun s hs => by rw [hz' s hs]; exact term0 _
        rw [e1, show (fun s => term j (cnt s ((lev base j).take (2 * b)))) = fun s => term j (c s) from by rw [← hcc], e2, sum_add, sum_const, List.length_take, Nat.min_eq_left haS]
        omega
      rw [key1, Nat.mul_add, i3, ← hab, Nat.pow_succ, Nat.add_mul]
      have : 2 * (a * 2 ^ j) = a * (2 ^ j * 2) := by rw [Nat.mul_comm (2 ^ j), ← Nat.mul_assoc, ← Nat.mul_assoc, Nat.mul_comm 2 a]
      have : 2 * b * 2 ^ j = b * (2 ^ j * 2) := by rw [Nat.mul_comm (2 ^ j), ← Nat.mul_assoc, Nat.mul_comm 2 b]
      omega
/-- How long the symbols' codes are. -/
def lenS (F : Int → Int) (S : List Int) (m : Nat) (s : Int) : Nat := cnt s ((lev (S.map fun s => ((F s, [s]) : C)) m).take (2 * S.length - 2))
theorem sum_pos : ∀ (S : List Int) (g : Int → Nat) (s : Int), s ∈ S → (∀ s, 0 < g s) → 2 ≤ S.length → g s < (S.map g).sum
  | [], _, _, h, _, _ => absurd h (by simp)
  | [_], _, _, _, _, h => by simp at h
  | x :: y :: l, g, s, hs, hg, _ => by
    have hle : ∀ (l : List Int) s, s ∈ l → g s ≤ (l.map g).sum := by
      intro l
      induction l with
      | nil => intro s hs; simp at hs
      | cons a l ih => intro s hs; simp only [List.map_cons, List.sum_cons]; rcases List.mem_cons.1 hs with e | e
                       · subst e; omega
                       · have := ih s e; omega
    simp only [List.map_cons, List.sum_cons]
    have h1 := hg x; have h2 := hg y
    rcases List.mem_cons.1 hs with e | e
    · subst e; omega
    · have := hle (y :: l) s e
      simp only [List.map_cons, List.sum_cons] at this; omega
/-- The lengths are within the limit, none is nothing, and they fill a code of any greater number of bits. -/
theorem lens_ok {F : Int → Int} (hF : ∀ s, 0 ≤ F s) (S : List Int) (hS : S.Nodup) (hs : Srt key (S.map fun s => ((F s, [s]) : C))) (m : Nat) (hm : 1 ≤ m) (h2 : 2 ≤ S.length) (hmany : S.length ≤ 2 ^ m) :
    2 * S.length - 2 ≤ (lev (S.map fun s => ((F s, [s]) : C)) m).length ∧ (∀ s, lenS F S m s ≤ m) ∧ (∀ s ∈ S, 1 ≤ lenS F S m s) ∧ (∀ s, s ∉ S → lenS F S m s = 0) ∧ ∀ M, m ≤ M → (S.map fun s => 2 ^ (M - lenS F S m s)).sum = 2 ^ M := by
  have hl : 2 * S.length - 2 ≤ (lev (S.map fun s => ((F s, [s]) : C)) m).length := by
    have := lev_many (S.map fun s => ((F s, [s]) : C)) m (by simpa using hmany) m (Nat.le_refl m)
    rw [show m + 1 - m = 1 by omega, List.length_map] at this; omega
  obtain ⟨f1, f2, f3⟩ := fills hF S hS hs m _ hl
  have f1' : ∀ s, lenS F S m s ≤ m := f1
  have f2' : ∀ s, s ∉ S → lenS F S m s = 0 := f2
  have f3' : 2 * (S.map fun s => term m (lenS F S m s)).sum = (2 * S.length - 2) * 2 ^ m := f3
  have hsum : (S.map fun s => 2 ^ (m - lenS F S m s)).sum = 2 ^ m := by
    have e := sum_add S (fun s => term m (lenS F S m s)) (fun s => 2 ^ (m - lenS F S m s))
    rw [sum_congr S _ (fun _ => 2 ^ m) (fun s _ => by
      have : 2 ^ (m - lenS F S m s) ≤ 2 ^ m := Nat.pow_le_pow_right (by decide) (by omega)
      show 2 ^ m - _ + _ = _; omega), sum_const] at e
    have e2 : (2 * S.length - 2) * 2 ^ m = 2 * (S.length * 2 ^ m) - 2 * 2 ^ m := by rw [Nat.sub_mul, Nat.mul_assoc]
    have e3 : 2 * 2 ^ m ≤ S.length * 2 ^ m := Nat.mul_le_mul_right _ h2
    omega
  refine ⟨hl, f1', fun s hs => ?_, f2', fun M hM => ?_⟩
  · refine Nat.pos_of_ne_zero fun h0 => ?_
    have := sum_pos S (fun s => 2 ^ (m - lenS F S m s)) s hs (fun s => Nat.pow_pos (by decide)) h2
    rw [hsum] at this
    simp only [h0, Nat.sub_zero] at this
    exact absurd this (Nat.lt_irrefl _)
  · rw [sum_congr S _ (fun s => 2 ^ (M - m) * 2 ^ (m - lenS F S m s)) (fun s _ => by
      rw [← Nat.pow_add]; congr 1; have := f1' s; omega)]
    have hmul : ∀ (k : Nat) (g : Int → Nat) (l : List Int), (l.map fun s => k * g s).sum = k * (l.map g).sum := by
      intro k g l
      induction l with
      | nil => rfl
      | cons a l ih => simp only [List.map_cons, List.sum_cons, ih, Nat.mul_add]
    rw [hmul, hsum, ← Nat.pow_add]; congr 1; omega
end Go.Proofs.Ytjahhkhpchiojaa.HB
namespace Go.Proofs.Ytjahhkhpchiojaa.W
open Go Go.Q Go.Proofs Go.Proofs.Ytjahhkhpchiojaa.HB
set_option linter.unusedVariables false
set_option linter.unusedSimpArgs false
abbrev Co := S_huff_coin
abbrev kf : Co → Int := fun c => c.ffreq
theorem co_eta (c : Co) : (⟨c.ffreq, c.fsyms⟩ : Co) = c := rfl
def cmpI (a b : Int) : Int := if a < b then -1 else if b < a then 1 else 0
theorem g_cmp_eq (k : Nat) (a b : Int) (s t : List Int) : g_huff_Lengths_1 k a s b t = some (cmpI a b) := by
  unfold g_huff_Lengths_1 g_cmp_Compare_int g_cmp_isNaN_int cmpI
  by_cases h : a < b
  · simp [h]
  · by_cases h2 : b < a <;> simp [h, h2]
theorem cmp_lt (a b : Int) : (cmpI a b < 0) ↔ a < b := by
  unfold cmpI; split
  · simp_all
  · split <;> simp_all
theorem ix_at {α : Type} (P : List α) (x : α) (Q : List α) {i : Int} (h : i = (P.length : Int)) : ix (P ++ x :: Q) i = some x := by
  subst h; rw [ix_nat (by simp)]; simp
theorem set_at {α : Type} (P : List α) (x y : α) (Q : List α) {i : Int} (h : i = (P.length : Int)) : List.set (P ++ x :: Q) i.toNat y = P ++ y :: Q := by
  subst h; simp
/-- A row and the same one sorted. -/
structure Sorts (A A' : List Co) : Prop where
  srt : Srt kf A'
  sim : Sim kf A A'
  len : A'.length = A.length
theorem Srt.sub {α : Type} {f : α → Int} {a b : List α} (h : Srt f (a ++ b)) : Srt f a ∧ Srt f b ∧ ∀ x ∈ a, ∀ y ∈ b, f x ≤ f y := List.pairwise_append.1 h
theorem Srt.mk {α : Type} {f : α → Int} {a b : List α} (h1 : Srt f a) (h2 : Srt f b) (h : ∀ x ∈ a, ∀ y ∈ b, f x ≤ f y) : Srt f (a ++ b) := List.pairwise_append.2 ⟨h1, h2, h⟩
/-- One more element goes back to its place. -/
theorem ins1 (k : Nat) (P : List Co) (hP : P.length ≤ 100000) : ∀ (n : Nat) (L : List Co) (x : Co) (R : List Co), Srt kf L → L.length < n → L.length ≤ 100000 →
    ∃ L', g_slices_insertionSortCmpFunc_huff_coin_l1 k (P.length : Int) n ((P.length : Int) + L.length) (P ++ L ++ x :: R) = some (P ++ L' ++ R) ∧ Sorts (L ++ [x]) L' := by
  intro n
  induction n with
  | zero => intro L x R _ h; omega
  | succ n ih =>
    intro L x R hs hn hl
    rw [g_slices_insertionSortCmpFunc_huff_coin_l1.eq_2]
    simp only [bd]
    rcases List.eq_nil_or_concat L with e | ⟨L0, y, e⟩
    · subst e
      refine ⟨[x], ?_, ?_, Sim.refl _, rfl⟩
      · rw [if_neg (by simp)]; simp
      · exact List.pairwise_singleton _ _
    · rw [List.concat_eq_append] at e; subst e
      have hlen : (L0 ++ [y]).length = L0.length + 1 := by simp
      rw [hlen] at hn hl ⊢
      have hd := Srt.sub hs
      rw [if_pos (by omega), ix_at (P ++ (L0 ++ [y])) x R (by simp only [List.length_append, List.length_singleton]; omega)]
      have e2 : P ++ (L0 ++ [y]) ++ x :: R = (P ++ L0) ++ y :: (x :: R) := by simp
      have w1 : IntKind.wrap .i64 ((P.length : Int) + ((L0.length + 1 : Nat) : Int) - 1) = ((P ++ L0).length : Int) := by rw [wi (by omega) (by omega)]; simp only [List.length_append]; omega
      rw [w1, e2, ix_at (P ++ L0) y (x :: R) rfl]
      simp only [Option.bind_some, g_cmp_eq, cmp_lt, bd]
      by_cases hc : x.ffreq < y.ffreq
      · rw [if_pos hc]
        have e3 : (P ++ L0) ++ y :: (x :: R) = (P ++ L0 ++ [y]) ++ x :: R := by simp
        rw [e3, set_at (P ++ L0 ++ [y]) x y R (by simp only [List.length_append, List.length_singleton]; omega)]
        have e4 : (P ++ L0 ++ [y]) ++ y :: R = (P ++ L0) ++ y :: (y :: R) := by simp
        rw [e4, ix_at (P ++ L0) y (y :: R) rfl]
        simp only [Option.bind_some]
        rw [set_at (P ++ L0) y x (y :: R) rfl]
        obtain ⟨L', h1, h2⟩ := ih L0 x (y :: R) hd.1 (by omega) (by omega)
        refine ⟨L' ++ [y], ?_, ?_, ?_, ?_⟩
        · rw [show ((P ++ L0).length : Int) = (P.length : Int) + L0.length by simp, h1]; simp
        · refine Srt.mk h2.srt (List.pairwise_singleton _ _) ?_
          intro z hz w hw
          rw [List.mem_singleton] at hw; subst hw
          rcases List.mem_append.1 (h2.sim.symm.mem hz) with q | q
          · exact hd.2.2 z q w (by simp)
          · rw [List.mem_singleton] at q; subst q; exact Int.le_of_lt hc
        · refine Sim.trans (l := (L0 ++ [y]) ++ [x]) (r := (L0 ++ [x]) ++ [y]) ?_ (Sim.app h2.sim (Sim.refl _))
          rw [List.append_assoc, List.append_assoc]
          refine Sim.app (Sim.refl _) (Sim.swap ?_)
          intro a ha b hb; rw [List.mem_singleton] at ha hb; subst ha; subst hb
          exact fun e => absurd e.symm (Int.ne_of_lt hc)
        · simp [h2.len]
      · rw [if_neg hc]
        refine ⟨L0 ++ [y] ++ [x], by simp, ?_, Sim.refl _, rfl⟩
        refine Srt.mk hs (List.pairwise_singleton _ _) ?_
        intro z hz w hw
        rw [List.mem_singleton] at hw; subst hw
        rcases List.mem_append.1 hz with q | q
        · exact Int.le_trans (hd.2.2 z q y (by simp)) (Int.not_lt.1 hc)
        · rw [List.mem_singleton] at q; subst q; exact Int.not_lt.1 hc
theorem ins0 (k : Nat) (P : List Co) (hP : P.length ≤ 100000) : ∀ (n : Nat) (L L' R Q : List Co), Sorts L L' → R.length < n → L.length + R.length ≤ 100000 → L.length + R.length < k →
    ∃ M, g_slices_insertionSortCmpFunc_huff_coin_l0 k (P.length : Int) ((P.length : Int) + L.length + R.length) n ((P.length : Int) + L.length) (P ++ L' ++ R ++ Q) = some (P ++ M ++ Q) ∧ Sorts (L ++ R) M := by
  intro n
  induction n with
  | zero => intro L L' R Q _ h; omega
  | succ n ih =>
    intro L L' R Q hs hn hl hk
    rw [g_slices_insertionSortCmpFunc_huff_coin_l0.eq_2]
    simp only [bd]
    cases R with
    | nil => 
      rw [if_neg (by simp)]
      exact ⟨L', by simp, by simpa using hs⟩
    | cons x R =>
      simp only [List.length_cons] at hn hl hk ⊢
      rw [if_pos (by omega)]
      obtain ⟨M, h1, h2⟩ := ins1 k P hP k L' x (R ++ Q) hs.srt (by rw [hs.len]; omega) (by rw [hs.len]; omega)
      rw [hs.len] at h1
      rw [show P ++ L' ++ x :: R ++ Q = P ++ L' ++ x :: (R ++ Q) by simp, h1]
      simp only [Option.bind_some]
      have h3 : Sorts (L ++ [x]) M := ⟨h2.srt, Sim.trans (Sim.app hs.sim (Sim.refl _)) h2.sim, by rw [h2.len]; simp [hs.len]⟩
      obtain ⟨M', h4, h5⟩ := ih (L ++ [x]) M R Q h3 (by omega) (by simp; omega) (by simp; omega)
      refine ⟨M', ?_, by simpa using h5⟩
      rw [wi (by omega) (by omega)]
      rw [← h4]
      congr 1
      · simp; omega
      · simp; omega
      · simp
/-- A part of a row is sorted. -/
theorem insertion (k : Nat) (P R Q : List Co) (hP : P.length ≤ 100000) (hl : R.length ≤ 100000) (hk : R.length < k) {b : Int} (hb : b = (P.length : Int) + R.length) :
    ∃ M, g_slices_insertionSortCmpFunc_huff_coin k (P.length : Int) b (P ++ R ++ Q) = some (P ++ M ++ Q) ∧ Sorts R M := by
  unfold g_slices_insertionSortCmpFunc_huff_coin
  subst hb
  cases R with
  | nil =>
    refine ⟨[], ?_, List.Pairwise.nil, Sim.refl _, rfl⟩
    obtain ⟨k, rfl⟩ : ∃ j, k = j + 1 := ⟨k - 1, by simp at hk; omega⟩
    rw [g_slices_insertionSortCmpFunc_huff_coin_l0.eq_2, wi (by omega) (by omega)]
    simp only [bd]
    rw [if_neg (by simp only [List.length_nil]; omega)]; rfl
  | cons x R =>
    simp only [List.length_cons] at hl hk
    obtain ⟨M, h1, h2⟩ := ins0 k P hP k [x] [x] R Q ⟨List.pairwise_singleton _ _, Sim.refl _, rfl⟩ (by omega) (by simp; omega) (by simp; omega)
    refine ⟨M, ?_, h2⟩
    rw [wi (by omega) (by omega)]
    have : (P.length : Int) + ((x :: R).length : Int) = (P.length : Int) + ([x] : List Co).length + R.length := by simp; omega
    rw [this, show P ++ x :: R ++ Q = P ++ [x] ++ R ++ Q by simp, show (P.length : Int) + 1 = (P.length : Int) + ([x] : List Co).length by simp, h1]
    rfl
/-- Two parts of a length change places. -/
theorem swap0 (k : Nat) (X M Y : List Co) (a b m : Int) (ha : a = X.length) : ∀ (n : Nat) (A1 B1 A2 B2 : List Co), A1.length = B1.length → A2.length = B2.length → b = (X.length : Int) + A1.length + A2.length + M.length → m = (A1.length : Int) + A2.length →
    A2.length < n → X.length + A1.length + A2.length + M.length + B1.length + B2.length ≤ 1000000 →
    g_slices_swapRangeCmpFunc_huff_coin_l0 k a b m n (A1.length : Int) (X ++ B1 ++ A2 ++ M ++ A1 ++ B2 ++ Y) = some (X ++ B1 ++ B2 ++ M ++ A1 ++ A2 ++ Y) := by
  subst ha
  intro n
  induction n with
  | zero => intro A1 B1 A2 B2 _ _ _ _ h; omega
  | succ n ih =>
    intro A1 B1 A2 B2 h1 h2 hb hm hn hl
    rw [g_slices_swapRangeCmpFunc_huff_coin_l0.eq_2]
    simp only [bd]
    cases A2 with
    | nil =>
      cases B2 with
      | nil => rw [if_neg (by simp at hm; omega)]
      | cons v B2 => simp at h2
    | cons u A2 =>
      cases B2 with
      | nil => simp at h2
      | cons v B2 =>
        simp only [List.length_cons] at h2 hb hm hn hl
        rw [if_pos (by omega)]
        have w1 : IntKind.wrap .i64 (b + (A1.length : Int)) = ((X ++ B1 ++ u :: A2 ++ M ++ A1).length : Int) := by rw [wi (by omega) (by omega)]; simp only [List.length_append, List.length_cons]; omega
        have w2 : IntKind.wrap .i64 ((X.length : Int) + (A1.length : Int)) = ((X ++ B1).length : Int) := by rw [wi (by omega) (by omega)]; simp only [List.length_append]; omega
        rw [w1, w2]
        have e1 : X ++ B1 ++ u :: A2 ++ M ++ A1 ++ v :: B2 ++ Y = (X ++ B1 ++ u :: A2 ++ M ++ A1) ++ v :: (B2 ++ Y) := by simp
        have e2 : X ++ B1 ++ u :: A2 ++ M ++ A1 ++ v :: B2 ++ Y = (X ++ B1) ++ u :: (A2 ++ M ++ A1 ++ v :: B2 ++ Y) := by simp
        rw [e1, ix_at _ v _ rfl, ← e1]
        simp only [Option.bind_some]
        rw [e2, ix_at (X ++ B1) u _ rfl]
        simp only [Option.bind_some, co_eta]
        rw [set_at (X ++ B1) u v _ rfl]
        have e3 : (X ++ B1) ++ v :: (A2 ++ M ++ A1 ++ v :: B2 ++ Y) = (X ++ B1 ++ v :: A2 ++ M ++ A1) ++ v :: (B2 ++ Y) := by simp
        have l3 : ((X ++ B1 ++ u :: A2 ++ M ++ A1).length : Int) = ((X ++ B1 ++ v :: A2 ++ M ++ A1).length : Int) := by simp
        rw [l3, e3, ix_at _ v _ rfl]
        simp only [Option.bind_some]
        rw [set_at _ v u _ rfl, wi (by omega) (by omega)]
        have := ih (A1 ++ [u]) (B1 ++ [v]) A2 B2 (by simp [h1]) (by omega) (by simp; omega) (by simp; omega) (by omega) (by simp; omega)
        rw [show ((A1 ++ [u]).length : Int) = (A1.length : Int) + 1 by simp] at this
        rw [show (X ++ B1 ++ v :: A2 ++ M ++ A1) ++ u :: (B2 ++ Y) = X ++ (B1 ++ [v]) ++ A2 ++ M ++ (A1 ++ [u]) ++ B2 ++ Y by simp, this]
        simp
theorem swapR (k : Nat) (X A M B Y : List Co) {a b n : Int} (ha : a = X.length) (hb : b = (X.length : Int) + A.length + M.length) (hn : n = A.length) (hAB : A.length = B.length) (hl : X.length + A.length + M.length + B.length ≤ 1000000) (hk : A.length < k) :
    g_slices_swapRangeCmpFunc_huff_coin k a b n (X ++ A ++ M ++ B ++ Y) = some (X ++ B ++ M ++ A ++ Y) := by
  unfold g_slices_swapRangeCmpFunc_huff_coin
  have := swap0 k X M Y a b n ha k [] [] A B rfl hAB (by simp; omega) (by simp; omega) hk (by simp; omega)
  simp only [List.append_nil, List.length_nil] at this
  rw [show ((0 : Nat) : Int) = 0 from rfl] at this
  rw [this]; rfl
theorem rot0 (k : Nat) (m : Int) : ∀ (n : Nat) (X A B Y : List Co), m = (X.length : Int) + A.length → 0 < A.length → 0 < B.length → A.length + B.length ≤ n → X.length + A.length + B.length ≤ 1000000 → A.length + B.length < k →
    ∃ X' A' B' Y', g_slices_rotateCmpFunc_huff_coin_l0 k m n (A.length : Int) (B.length : Int) (X ++ A ++ B ++ Y) = some ((A'.length : Int), X' ++ A' ++ B' ++ Y') ∧ A'.length = B'.length ∧ m = (X'.length : Int) + A'.length ∧ X' ++ B' ++ A' ++ Y' = X ++ B ++ A ++ Y ∧ X'.length + A'.length + B'.length ≤ 1000000 ∧ A'.length < k := by
  intro n
  induction n with
  | zero => intro X A B Y _ h1 h2 h; omega
  | succ n ih =>
    intro X A B Y hm hA hB hn hl hk
    rw [g_slices_rotateCmpFunc_huff_coin_l0.eq_2]
    simp only [bnd', bd]
    by_cases h : A.length = B.length
    · rw [if_pos (by omega)]
      exact ⟨X, A, B, Y, rfl, h, hm, rfl, hl, by omega⟩
    · rw [if_neg (by omega)]
      by_cases hc : B.length < A.length
      · rw [if_pos (by omega)]
        -- the left one is longer: its beginning changes places with the right one
        have hsp : A = A.take B.length ++ A.drop B.length := (List.take_append_drop _ _).symm
        generalize hA1 : A.take B.length = A1 at hsp
        generalize hA2 : A.drop B.length = A2 at hsp
        have l1 : A1.length = B.length := by rw [← hA1]; simp; omega
        have l2 : A2.length = A.length - B.length := by rw [← hA2]; simp
        rw [wi (n := m - A.length) (by omega) (by omega), wi (n := (A.length : Int) - B.length) (by omega) (by omega)]
        have := swapR k X A1 A2 B Y (a := m - A.length) (b := m) (n := (B.length : Int)) (by omega) (by omega) (by omega) l1 (by omega) (by omega)
        rw [show X ++ A ++ B ++ Y = X ++ A1 ++ A2 ++ B ++ Y by rw [hsp]; simp, this]
        simp only [Option.bind_some]
        obtain ⟨X', A', B', Y', r1, r2, r3, r4, r5, r6⟩ := ih (X ++ B) A2 A1 Y (by simp; omega) (by omega) (by omega) (by omega) (by simp; omega) (by omega)
        refine ⟨X', A', B', Y', ?_, r2, r3, ?_, r5, r6⟩
        · rw [show (A.length : Int) - B.length = (A2.length : Int) by omega, ← l1, ← r1]
        · rw [r4, hsp]; simp
      · rw [if_neg (by omega)]
        have hsp : B = B.take (B.length - A.length) ++ B.drop (B.length - A.length) := (List.take_append_drop _ _).symm
        generalize hB1 : B.take (B.length - A.length) = B1 at hsp
        generalize hB2 : B.drop (B.length - A.length) = B2 at hsp
        have l1 : B1.length = B.length - A.length := by rw [← hB1]; simp
        have l2 : B2.length = A.length := by rw [← hB2]; simp; omega
        rw [wi (n := m + B.length) (by omega) (by omega), wi (n := m - A.length) (by omega) (by omega), wi (n := (B.length : Int) - A.length) (by omega) (by omega), wi (by omega) (by omega)]
        simp only [Option.bind_some]
        have := swapR k X A B1 B2 Y (a := m - A.length) (b := m + B.length - A.length) (n := (A.length : Int)) (by omega) (by omega) rfl l2.symm (by omega) (by omega)
        rw [show X ++ A ++ B ++ Y = X ++ A ++ B1 ++ B2 ++ Y by rw [hsp]; simp, this]
        simp only [Option.bind_some]
        obtain ⟨X', A', B', Y', r1, r2, r3, r4, r5, r6⟩ := ih X B2 B1 (A ++ Y) (by omega) (by omega) (by omega) (by omega) (by omega) (by omega)
        refine ⟨X', A', B', Y', ?_, r2, r3, ?_, r5, r6⟩
        · rw [show (B.length : Int) - A.length = (B1.length : Int) by omega, ← l2, ← r1]; simp
        · rw [r4, hsp]; simp
theorem rotate (k : Nat) (X A B Y : List Co) {a m b : Int} (ha : a = X.length) (hm : m = (X.length : Int) + A.length) (hb : b = (X.length : Int) + A.length + B.length) (hA : 0 < A.length) (hB : 0 < B.length) (hl : X.length + A.length + B.length ≤ 1000000) (hk : A.length + B.length < k) :
    g_slices_rotateCmpFunc_huff_coin k a m b (X ++ A ++ B ++ Y) = some (X ++ B ++ A ++ Y) := by
  unfold g_slices_rotateCmpFunc_huff_coin
  obtain ⟨X', A', B', Y', r1, r2, r3, r4, r5, r6⟩ := rot0 k m k X A B Y hm hA hB (by omega) hl hk
  rw [wi (n := m - a) (by omega) (by omega), wi (n := b - m) (by omega) (by omega), show m - a = (A.length : Int) by omega, show b - m = (B.length : Int) by omega, r1]
  simp only [Option.bind_some]
  rw [wi (n := m - A'.length) (by omega) (by omega)]
  have := swapR k X' A' [] B' Y' (a := m - A'.length) (b := m) (n := (A'.length : Int)) (by omega) (by simp; omega) rfl r2 (by simp; omega) r6
  simp only [List.append_nil] at this
  rw [this, ← r4]; rfl
end Go.Proofs.Ytjahhkhpchiojaa.W
namespace Go.Proofs.Ytjahhkhpchiojaa.W
open Go Go.Q Go.Proofs Go.Proofs.Ytjahhkhpchiojaa.HB
set_option linter.unusedVariables false
set_option linter.unusedSimpArgs false
/-- The key at a place. -/
abbrev ky (x : List Co) (c : Nat) : Int := (x.getD c default).ffreq
theorem ixk {x : List Co} {c : Nat} (h : c < x.length) : ix x (c : Int) = some (x.getD c default) := by
  rw [ix_nat h]; simp [List.getD_eq_getElem?_getD, List.getElem?_eq_getElem h]
theorem wUh (n : Int) : IntKind.wrap .u64 n = n % 18446744073709551616 := by
  simp [IntKind.wrap, IntKind.bits, IntKind.signed]
theorem half (i j : Nat) (hi : i ≤ 1000000) (hj : j ≤ 1000000) : IntKind.wrap .i64 (shrI .u64 (IntKind.wrap .u64 (IntKind.wrap .i64 ((i : Int) + j))) 1) = (((i + j) / 2 : Nat) : Int) := by
  have h1 : IntKind.wrap .i64 ((i : Int) + j) = (i : Int) + j := wi (by omega) (by omega)
  have h2 : IntKind.wrap .u64 ((i : Int) + j) = (i : Int) + j := by rw [wUh]; omega
  have h3 : shrI .u64 ((i : Int) + j) 1 = (((i + j) / 2 : Nat) : Int) := by
    show ((i : Int) + j).fdiv 2 = _
    rw [Int.fdiv_eq_ediv_of_nonneg _ (by decide)]; omega
  rw [h1, h2, h3, wi (by omega) (by omega)]
theorem halfw (i j : Nat) (hi : i ≤ 1000000) (hj : j ≤ 1000000) : shrI .u64 (IntKind.wrap .u64 (IntKind.wrap .i64 ((i : Int) + j))) 1 = (((i + j) / 2 : Nat) : Int) := by
  have h1 : IntKind.wrap .i64 ((i : Int) + j) = (i : Int) + j := wi (by omega) (by omega)
  have h2 : IntKind.wrap .u64 ((i : Int) + j) = (i : Int) + j := by rw [wUh]; omega
  have h3 : shrI .u64 ((i : Int) + j) 1 = (((i + j) / 2 : Nat) : Int) := by
    show ((i : Int) + j).fdiv 2 = _
    rw [Int.fdiv_eq_ediv_of_nonneg _ (by decide)]; omega
  rw [h1, h2, h3]
/-- Bisection: below a place a question is answered by yes, from there on by no. -/
theorem bis0 (k : Nat) (x : List Co) (a m b : Nat) (ha : a < x.length) (hb : b ≤ x.length) (hl : x.length ≤ 1000000) (hs : ∀ c d, m ≤ c → c ≤ d → d < b → ky x c ≤ ky x d) :
    ∀ (n i j : Nat), m ≤ i → i ≤ j → j ≤ b → j - i < n → (∀ c, m ≤ c → c < i → ky x c < ky x a) → (∀ c, j ≤ c → c < b → ¬ ky x c < ky x a) →
    ∃ r : Nat, g_slices_symMergeCmpFunc_huff_coin_l0 k a x n i j = some (r : Int) ∧ m ≤ r ∧ r ≤ b ∧ (∀ c, m ≤ c → c < r → ky x c < ky x a) ∧ (∀ c, r ≤ c → c < b → ¬ ky x c < ky x a) := by
  intro n
  induction n with
  | zero => intro i j _ _ _ h; omega
  | succ n ih =>
    intro i j hi hij hj hn h1 h2
    rw [g_slices_symMergeCmpFunc_huff_coin_l0.eq_2]
    simp only [bd, Option.bind_some]
    by_cases h : i < j
    · rw [if_pos (by omega), halfw i j (by omega) (by omega), wi (n := (((i + j) / 2 : Nat) : Int)) (by omega) (by omega), ixk (c := (i + j) / 2) (by omega), ixk ha]
      simp only [Option.bind_some, g_cmp_eq, cmp_lt]
      by_cases hc : ky x ((i + j) / 2) < ky x a
      · rw [if_pos hc, wi (by omega) (by omega)]
        obtain ⟨r, e, q⟩ := ih ((i + j) / 2 + 1) j (by omega) (by omega) hj (by omega) (fun c hc1 hc2 => Int.lt_of_le_of_lt (hs c ((i + j) / 2) hc1 (by omega) (by omega)) hc) h2
        exact ⟨r, by rw [← e]; congr 1, q⟩
      · rw [if_neg hc]
        exact ih i ((i + j) / 2) hi (by omega) (by omega) (by omega) h1 (fun c hc1 hc2 hlt => hc (Int.lt_of_le_of_lt (hs ((i + j) / 2) c (by omega) hc1 hc2) hlt))
    · rw [if_neg (by omega)]
      obtain rfl : i = j := by omega
      exact ⟨i, rfl, hi, hj, h1, h2⟩
theorem bis2 (k : Nat) (x : List Co) (a m b : Nat) (ha : a < x.length) (hb : b ≤ x.length) (hl : x.length ≤ 1000000) (hs : ∀ c d, m ≤ c → c ≤ d → d < b → ky x c ≤ ky x d) :
    ∀ (n i j : Nat), m ≤ i → i ≤ j → j ≤ b → j - i < n → (∀ c, m ≤ c → c < i → ¬ ky x a < ky x c) → (∀ c, j ≤ c → c < b → ky x a < ky x c) →
    ∃ r : Nat, g_slices_symMergeCmpFunc_huff_coin_l2 k a x n i j = some (r : Int) ∧ m ≤ r ∧ r ≤ b ∧ (∀ c, m ≤ c → c < r → ¬ ky x a < ky x c) ∧ (∀ c, r ≤ c → c < b → ky x a < ky x c) := by
  intro n
  induction n with
  | zero => intro i j _ _ _ h; omega
  | succ n ih =>
    intro i j hi hij hj hn h1 h2
    rw [g_slices_symMergeCmpFunc_huff_coin_l2.eq_2]
    simp only [bd, Option.bind_some]
    by_cases h : i < j
    · rw [if_pos (by omega), halfw i j (by omega) (by omega), wi (n := (((i + j) / 2 : Nat) : Int)) (by omega) (by omega), ixk (c := (i + j) / 2) (by omega), ixk ha]
      simp only [Option.bind_some, g_cmp_eq, cmp_lt, bnd']
      by_cases hc : ky x a < ky x ((i + j) / 2)
      · rw [if_pos hc]
        exact ih i ((i + j) / 2) hi (by omega) (by omega) (by omega) h1 (fun c hc1 hc2 => Int.lt_of_lt_of_le hc (hs ((i + j) / 2) c (by omega) hc1 hc2))
      · rw [if_neg hc, wi (by omega) (by omega)]
        obtain ⟨r, e, q⟩ := ih ((i + j) / 2 + 1) j (by omega) (by omega) hj (by omega) (fun c hc1 hc2 hlt => hc (Int.lt_of_lt_of_le hlt (hs c ((i + j) / 2) hc1 (by omega) (by omega)))) h2
        exact ⟨r, by rw [← e]; congr 1, q⟩
    · rw [if_neg (by omega)]
      obtain rfl : i = j := by omega
      exact ⟨i, rfl, hi, hj, h1, h2⟩
/-- The cut that lies symmetrically: pieces of the left part that are above pieces of the right one. -/
theorem bis4 (k : Nat) (x : List Co) (p1 s0 r0 : Nat) (hp : p1 ≤ 2000000) (hl : x.length ≤ 1000000) (hr : r0 ≤ x.length) (hb : ∀ c, s0 ≤ c → c < r0 → c < x.length ∧ c + 1 ≤ p1 ∧ p1 - 1 - c < x.length)
    (hs : ∀ c d, s0 ≤ c → c ≤ d → d < r0 → ky x c ≤ ky x d ∧ ky x (p1 - 1 - d) ≤ ky x (p1 - 1 - c)) :
    ∀ (n i j : Nat), s0 ≤ i → i ≤ j → j ≤ r0 → j - i < n → (∀ c, s0 ≤ c → c < i → ¬ ky x (p1 - 1 - c) < ky x c) → (∀ c, j ≤ c → c < r0 → ky x (p1 - 1 - c) < ky x c) →
    ∃ r : Nat, g_slices_symMergeCmpFunc_huff_coin_l4 k x (p1 : Int) n i j = some (r : Int) ∧ s0 ≤ r ∧ r ≤ r0 ∧ (∀ c, s0 ≤ c → c < r → ¬ ky x (p1 - 1 - c) < ky x c) ∧ (∀ c, r ≤ c → c < r0 → ky x (p1 - 1 - c) < ky x c) := by
  intro n
  induction n with
  | zero => intro i j _ _ _ h; omega
  | succ n ih =>
    intro i j hi hij hj hn h1 h2
    rw [g_slices_symMergeCmpFunc_huff_coin_l4.eq_2]
    simp only [bd, Option.bind_some]
    by_cases h : i < j
    · have hm := hb ((i + j) / 2) (by omega) (by omega)
      rw [if_pos (by omega), halfw i j (by omega) (by omega), wi (n := (((i + j) / 2 : Nat) : Int)) (by omega) (by omega), wi (n := (p1 : Int) - 1) (by omega) (by omega), wi (n := (p1 : Int) - 1 - (((i + j) / 2 : Nat) : Int)) (by omega) (by omega),
        show (p1 : Int) - 1 - (((i + j) / 2 : Nat) : Int) = ((p1 - 1 - (i + j) / 2 : Nat) : Int) by omega, ixk (c := (i + j) / 2) hm.1, ixk hm.2.2]
      simp only [Option.bind_some, g_cmp_eq, cmp_lt, bnd']
      by_cases hc : ky x (p1 - 1 - (i + j) / 2) < ky x ((i + j) / 2)
      · rw [if_pos hc]
        refine ih i ((i + j) / 2) hi (by omega) (by omega) (by omega) h1 (fun c hc1 hc2 => ?_)
        have := hs ((i + j) / 2) c (by omega) hc1 hc2
        omega
      · rw [if_neg hc, wi (by omega) (by omega)]
        obtain ⟨r, e, q⟩ := ih ((i + j) / 2 + 1) j (by omega) (by omega) hj (by omega) (fun c hc1 hc2 hlt => by
          have := hs c ((i + j) / 2) hc1 (by omega) (by omega)
          omega) h2
        exact ⟨r, by rw [← e]; congr 1, q⟩
    · rw [if_neg (by omega)]
      obtain rfl : i = j := by omega
      exact ⟨i, rfl, hi, hj, h1, h2⟩
/-- An element wanders on behind others. -/
theorem wander1 (k : Nat) : ∀ (n : Nat) (X L Y : List Co) (u : Co) (i : Int), i = (X.length : Int) + L.length + 1 → L.length < n → X.length + L.length ≤ 1000000 →
    g_slices_symMergeCmpFunc_huff_coin_l1 k i n (X.length : Int) (X ++ u :: L ++ Y) = some (X ++ L ++ u :: Y) := by
  intro n
  induction n with
  | zero => intro X L Y u i _ h; omega
  | succ n ih =>
    intro X L Y u i hi hn hl
    rw [g_slices_symMergeCmpFunc_huff_coin_l1.eq_2]
    simp only [bd, Option.bind_some]
    cases L with
    | nil => rw [wi (by omega) (by omega), if_neg (by simp at hi; omega)]; simp
    | cons v L =>
      simp only [List.length_cons] at hi hn hl
      rw [wi (n := i - 1) (by omega) (by omega), if_pos (by omega)]
      have w : IntKind.wrap .i64 ((X.length : Int) + 1) = ((X ++ [u]).length : Int) := by rw [wi (by omega) (by omega)]; simp
      rw [w]
      have e1 : X ++ u :: v :: L ++ Y = (X ++ [u]) ++ v :: (L ++ Y) := by simp
      have e2 : X ++ u :: v :: L ++ Y = X ++ u :: (v :: L ++ Y) := by simp
      rw [e1, ix_at (X ++ [u]) v _ rfl, ← e1, e2, ix_at X u _ rfl]
      simp only [Option.bind_some, co_eta]
      rw [set_at X u v _ rfl]
      have e3 : X ++ v :: (v :: L ++ Y) = (X ++ [v]) ++ v :: (L ++ Y) := by simp
      have l3 : ((X ++ [u]).length : Int) = ((X ++ [v]).length : Int) := by simp
      rw [l3, e3, ix_at (X ++ [v]) v _ rfl]
      simp only [Option.bind_some]
      rw [set_at (X ++ [v]) v u _ rfl]
      have := ih (X ++ [v]) L Y u i (by simp; omega) (by omega) (by simp; omega)
      rw [show (X ++ [v]) ++ u :: (L ++ Y) = (X ++ [v]) ++ u :: L ++ Y by simp, this]; simp
/-- An element wanders back ahead of others. -/
theorem wander3 (k : Nat) : ∀ (n : Nat) (L X Y : List Co) (u : Co) (i : Int), i = (X.length : Int) → L.length < n → X.length + L.length ≤ 1000000 →
    g_slices_symMergeCmpFunc_huff_coin_l3 k i n ((X.length : Int) + L.length) (X ++ L ++ u :: Y) = some (X ++ u :: L ++ Y) := by
  intro n
  induction n with
  | zero => intro L X Y u i _ h; omega
  | succ n ih =>
    intro L X Y u i hi hn hl
    rw [g_slices_symMergeCmpFunc_huff_coin_l3.eq_2]
    simp only [bd]
    rcases List.eq_nil_or_concat L with e | ⟨L, v, e⟩
    · subst e
      rw [if_neg (by simp; omega)]; simp
    · rw [List.concat_eq_append] at e; subst e
      have hlen : (L ++ [v]).length = L.length + 1 := by simp
      rw [hlen] at hn hl ⊢
      rw [if_pos (by omega)]
      have w : IntKind.wrap .i64 ((X.length : Int) + ((L.length + 1 : Nat) : Int) - 1) = ((X ++ L).length : Int) := by rw [wi (by omega) (by omega)]; simp only [List.length_append]; omega
      rw [w]
      have e1 : X ++ (L ++ [v]) ++ u :: Y = (X ++ L) ++ v :: (u :: Y) := by simp
      have e2 : X ++ (L ++ [v]) ++ u :: Y = (X ++ L ++ [v]) ++ u :: Y := by simp
      rw [e1, ix_at (X ++ L) v _ rfl, ← e1, e2, ix_at (X ++ L ++ [v]) u _ (by simp only [List.length_append, List.length_singleton]; omega)]
      simp only [Option.bind_some, co_eta]
      rw [set_at (X ++ L ++ [v]) u v _ (by simp only [List.length_append, List.length_singleton]; omega)]
      have e3 : (X ++ L ++ [v]) ++ v :: Y = (X ++ L) ++ v :: (v :: Y) := by simp
      rw [e3, ix_at (X ++ L) v _ rfl]
      simp only [Option.bind_some]
      rw [set_at (X ++ L) v u _ rfl]
      have := ih L X (v :: Y) u i hi (by omega) (by omega)
      rw [show ((X ++ L).length : Int) = (X.length : Int) + L.length by simp, this]; simp
theorem ky_app {P Q : List Co} {c : Nat} : ky (P ++ Q) (P.length + c) = ky Q c := by
  have : (P ++ Q)[P.length + c]? = Q[c]? := by rw [List.getElem?_append_right (by omega)]; simp
  simp only [ky, List.getD_eq_getElem?_getD, this]
theorem ky_l {P Q : List Co} {c : Nat} (h : c < P.length) : ky (P ++ Q) c = ky P c := by simp [ky, List.getD_eq_getElem?_getD, List.getElem?_append_left h]
theorem mem_ky {P : List Co} {x : Co} (h : x ∈ P) : ∃ c, c < P.length ∧ ky P c = x.ffreq := by
  obtain ⟨c, hc, e⟩ := List.mem_iff_getElem.1 h
  exact ⟨c, hc, by simp [ky, List.getD_eq_getElem?_getD, List.getElem?_eq_getElem hc, e]⟩
theorem srt_ky {P : List Co} (h : Srt kf P) : ∀ c d, c ≤ d → d < P.length → ky P c ≤ ky P d := by
  intro c d hcd hd
  rcases Nat.lt_or_eq_of_le hcd with q | q
  · have := List.pairwise_iff_getElem.1 h c d (by omega) hd q
    simpa [ky, List.getD_eq_getElem?_getD, List.getElem?_eq_getElem hd, List.getElem?_eq_getElem (show c < P.length by omega)] using this
  · subst q; exact Int.le_refl _
theorem ky_mid {U V W : List Co} {c d : Nat} (h : c < V.length) (e : d = U.length + c) : ky (U ++ V ++ W) d = ky V c := by
  subst e; rw [List.append_assoc, ky_app, ky_l h]
end Go.Proofs.Ytjahhkhpchiojaa.W
namespace Go.Proofs.Ytjahhkhpchiojaa.W
open Go Go.Q Go.Proofs Go.Proofs.Ytjahhkhpchiojaa.HB
set_option linter.unusedVariables false
set_option linter.unusedSimpArgs false
theorem sim_mv {A1 A2 B1 B2 : List Co} (h : ∀ x ∈ A2, ∀ y ∈ B1, y.ffreq < x.ffreq) : Sim kf ((A1 ++ A2) ++ (B1 ++ B2)) ((A1 ++ B1) ++ (A2 ++ B2)) := by
  rw [show (A1 ++ A2) ++ (B1 ++ B2) = A1 ++ ((A2 ++ B1) ++ B2) by simp, show (A1 ++ B1) ++ (A2 ++ B2) = A1 ++ ((B1 ++ A2) ++ B2) by simp]
  exact Sim.app (Sim.refl _) (Sim.app (Sim.swap fun x hx y hy e => absurd e.symm (Int.ne_of_lt (h x hx y hy))) (Sim.refl _))
theorem sorts_nil1 {A B : List Co} (hA : A = []) (hB : Srt kf B) : Sorts (A ++ B) (A ++ B) := by subst hA; exact ⟨hB, Sim.refl _, rfl⟩
theorem sorts_nil2 {A B : List Co} (hB : B = []) (hA : Srt kf A) : Sorts (A ++ B) (A ++ B) := by subst hB; exact ⟨by simpa using hA, Sim.refl _, rfl⟩
theorem symm : ∀ (k : Nat) (P A B Q : List Co) (a m b : Nat), a = P.length → m = a + A.length → b = m + B.length → 0 < A.length → 0 < B.length → Srt kf A → Srt kf B → 2 * (A.length + B.length) + 2 ≤ k → b + Q.length ≤ 1000000 →
    ∃ M, g_slices_symMergeCmpFunc_huff_coin k (a : Int) (m : Int) (b : Int) (P ++ A ++ B ++ Q) = some (P ++ M ++ Q) ∧ Sorts (A ++ B) M := by
  intro k
  induction k with
  | zero => intro P A B Q a m b _ _ _ _ _ _ _ h; omega
  | succ k ih =>
    intro P A B Q a m b ha hm hb hA hB sA sB hk hl
    have hX : (P ++ A ++ B ++ Q).length = b + Q.length := by simp; omega
    have kA : ∀ c d, a ≤ c → c ≤ d → d < m → ky (P ++ A ++ B ++ Q) c ≤ ky (P ++ A ++ B ++ Q) d := by
      intro c d h1 h2 h3
      rw [show P ++ A ++ B ++ Q = P ++ A ++ (B ++ Q) by simp, ky_mid (U := P) (V := A) (c := c - a) (by omega) (by omega), ky_mid (U := P) (V := A) (c := d - a) (by omega) (by omega)]
      exact srt_ky sA _ _ (by omega) (by omega)
    have kB : ∀ c d, m ≤ c → c ≤ d → d < b → ky (P ++ A ++ B ++ Q) c ≤ ky (P ++ A ++ B ++ Q) d := by
      intro c d h1 h2 h3
      rw [ky_mid (U := P ++ A) (V := B) (c := c - m) (by omega) (by simp; omega), ky_mid (U := P ++ A) (V := B) (c := d - m) (by omega) (by simp; omega)]
      exact srt_ky sB _ _ (by omega) (by omega)
    rw [g_slices_symMergeCmpFunc_huff_coin]
    unfold h_slices_symMergeCmpFunc_huff_coin
    simp only [Option.bind_some, bd]
    rw [wi (n := (m : Int) - a) (by omega) (by omega), wi (n := (b : Int) - m) (by omega) (by omega)]
    by_cases h1 : A.length = 1
    · rw [if_pos (by omega)]
      obtain ⟨u, rfl⟩ := List.length_eq_one_iff.1 h1
      obtain ⟨r, e, r1, r2, r3, r4⟩ := bis0 k (P ++ [u] ++ B ++ Q) a m b (by omega) (by omega) (by omega) kB k m b (Nat.le_refl _) (by omega) (Nat.le_refl _) (by simp at hk; omega) (fun c h1 h2 => by omega) (fun c h1 h2 => by omega)
      rw [e]
      simp only [Option.bind_some]
      have hsp : B = B.take (r - m) ++ B.drop (r - m) := (List.take_append_drop _ _).symm
      generalize hB1 : B.take (r - m) = B1 at hsp
      generalize hB2 : B.drop (r - m) = B2 at hsp
      have l1 : B1.length = r - m := by rw [← hB1]; simp; omega
      have hu : ky (P ++ [u] ++ B ++ Q) a = u.ffreq := by
        rw [show P ++ [u] ++ B ++ Q = P ++ [u] ++ (B ++ Q) by simp, ky_mid (U := P) (V := [u]) (c := 0) (by simp) (by omega)]; rfl
      have w := wander1 k k P B1 (B2 ++ Q) u (r : Int) (by simp at hm; omega) (by simp at hk; omega) (by omega)
      refine ⟨B1 ++ u :: B2, ?_, ?_⟩
      · rw [show P ++ [u] ++ B ++ Q = P ++ u :: B1 ++ (B2 ++ Q) by rw [hsp]; simp, ha, w]; simp
      · have q1 : ∀ x ∈ B1, x.ffreq < u.ffreq := by
          intro x hx
          obtain ⟨c, hc, e⟩ := mem_ky hx
          have := r3 (m + c) (by omega) (by omega)
          rw [hu, show P ++ [u] ++ B ++ Q = (P ++ [u]) ++ B1 ++ (B2 ++ Q) by rw [hsp]; simp, ky_mid (U := P ++ [u]) (V := B1) (c := c) hc (by simp at hm ⊢; omega), e] at this
          exact this
        have q2 : ∀ x ∈ B2, u.ffreq ≤ x.ffreq := by
          intro x hx
          obtain ⟨c, hc, e⟩ := mem_ky hx
          have l2 : B2.length = B.length - (r - m) := by rw [← hB2]; simp
          have := r4 (r + c) (by omega) (by omega)
          rw [hu, show P ++ [u] ++ B ++ Q = (P ++ [u] ++ B1) ++ B2 ++ Q by rw [hsp]; simp, ky_mid (U := P ++ [u] ++ B1) (V := B2) (c := c) hc (by simp at hm ⊢; omega), e] at this
          exact Int.not_lt.1 this
        rw [hsp] at sB
        have sB' := Srt.sub sB
        refine ⟨Srt.mk sB'.1 (List.pairwise_cons.2 ⟨q2, sB'.2.1⟩) ?_, ?_, by rw [hsp]; simp; omega⟩
        · intro x hx y hy
          rcases List.mem_cons.1 hy with q | q
          · rw [q]; exact Int.le_of_lt (q1 x hx)
          · exact sB'.2.2 x hx y q
        · have := sim_mv (A1 := []) (A2 := [u]) (B1 := B1) (B2 := B2) (fun x hx y hy => by rw [List.mem_singleton] at hx; rw [hx]; exact q1 y hy)
          rw [hsp]; simpa using this
    · rw [if_neg (by omega)]
      by_cases h2 : B.length = 1
      · rw [if_pos (by omega)]
        obtain ⟨u, rfl⟩ := List.length_eq_one_iff.1 h2
        obtain ⟨r, e, r1, r2, r3, r4⟩ := bis2 k (P ++ A ++ [u] ++ Q) m a m (by omega) (by omega) (by omega) kA k a m (Nat.le_refl _) (by omega) (Nat.le_refl _) (by simp at hk; omega) (fun c h1 h2 => by omega) (fun c h1 h2 => by omega)
        rw [e]
        simp only [Option.bind_some]
        have hsp : A = A.take (r - a) ++ A.drop (r - a) := (List.take_append_drop _ _).symm
        generalize hA1 : A.take (r - a) = A1 at hsp
        generalize hA2 : A.drop (r - a) = A2 at hsp
        have l1 : A1.length = r - a := by rw [← hA1]; simp; omega
        have l2 : A2.length = A.length - (r - a) := by rw [← hA2]; simp
        have hu : ky (P ++ A ++ [u] ++ Q) m = u.ffreq := by
          rw [ky_mid (U := P ++ A) (V := [u]) (c := 0) (by simp) (by simp; omega)]; rfl
        have w := wander3 k k A2 (P ++ A1) Q u (r : Int) (by simp; omega) (by simp at hk; omega) (by simp; omega)
        refine ⟨A1 ++ u :: A2, ?_, ?_⟩
        · rw [show P ++ A ++ [u] ++ Q = (P ++ A1) ++ A2 ++ u :: Q by rw [hsp]; simp, show (m : Int) = ((P ++ A1).length : Int) + A2.length by simp; omega, w]; simp
        · have q1 : ∀ x ∈ A1, x.ffreq ≤ u.ffreq := by
            intro x hx
            obtain ⟨c, hc, e⟩ := mem_ky hx
            have := r3 (a + c) (by omega) (by omega)
            rw [hu, show P ++ A ++ [u] ++ Q = P ++ A1 ++ (A2 ++ [u] ++ Q) by rw [hsp]; simp, ky_mid (U := P) (V := A1) (c := c) hc (by omega), e] at this
            exact Int.not_lt.1 this
          have q2 : ∀ x ∈ A2, u.ffreq < x.ffreq := by
            intro x hx
            obtain ⟨c, hc, e⟩ := mem_ky hx
            have := r4 (r + c) (by omega) (by omega)
            rw [hu, show P ++ A ++ [u] ++ Q = (P ++ A1) ++ A2 ++ ([u] ++ Q) by rw [hsp]; simp, ky_mid (U := P ++ A1) (V := A2) (c := c) hc (by simp; omega), e] at this
            exact this
          rw [hsp] at sA
          have sA' := Srt.sub sA
          refine ⟨Srt.mk sA'.1 (List.pairwise_cons.2 ⟨fun x hx => Int.le_of_lt (q2 x hx), sA'.2.1⟩) ?_, ?_, by rw [hsp]; simp⟩
          · intro x hx y hy
            rcases List.mem_cons.1 hy with q | q
            · rw [q]; exact q1 x hx
            · exact sA'.2.2 x hx y q
          · have := sim_mv (A1 := A1) (A2 := A2) (B1 := [u]) (B2 := []) (fun x hx y hy => by rw [List.mem_singleton] at hy; rw [hy]; exact q2 x hx)
            rw [hsp]; simpa using this
      · rw [if_neg (by omega), half a b (by omega) (by omega)]
        obtain ⟨mid, hmid⟩ : ∃ mid, mid = (a + b) / 2 := ⟨_, rfl⟩
        rw [← hmid, wi (n := (mid : Int) + m) (by omega) (by omega)]
        have hsr : ∃ s0 r0 : Nat, (if (mid : Int) < m then some (IntKind.wrap .i64 ((mid : Int) + m - b), (mid : Int)) else some ((a : Int), (m : Int))) = some ((s0 : Int), (r0 : Int)) ∧ a ≤ s0 ∧ s0 ≤ r0 ∧ r0 ≤ m ∧ r0 ≤ mid ∧ mid ≤ s0 + B.length ∧ (s0 = a ∨ mid + m = s0 + b) ∧ (r0 = m ∨ r0 = mid) := by
          by_cases h3 : mid < m
          · rw [if_pos (by omega), wi (by omega) (by omega)]
            exact ⟨mid + m - b, mid, by rw [show (mid : Int) + m - b = ((mid + m - b : Nat) : Int) by omega], by omega, by omega, by omega, by omega, by omega, .inr (by omega), .inr rfl⟩
          · rw [if_neg (by omega)]
            exact ⟨a, m, rfl, by omega, by omega, by omega, by omega, by omega, .inl rfl, .inl rfl⟩
        obtain ⟨s0, r0, e0, g1, g2, g3, g4, g5, g6, g7⟩ := hsr
        rw [e0]
        simp only [Option.bind_some]
        rw [show (mid : Int) + m = ((mid + m : Nat) : Int) by omega]
        obtain ⟨s, e, b1, b2, b3, b4⟩ := bis4 k (P ++ A ++ B ++ Q) (mid + m) s0 r0 (by omega) (by omega) (by omega) (fun c h1 h2 => ⟨by omega, by omega, by omega⟩)
          (fun c d h1 h2 h3 => ⟨kA c d (by omega) h2 (by omega), kB _ _ (by omega) (by omega) (by omega)⟩) k s0 r0 (Nat.le_refl _) g2 (Nat.le_refl _) (by omega) (fun c h1 h2 => by omega) (fun c h1 h2 => by omega)
        rw [e]
        simp only [Option.bind_some]
        have hsA : A = A.take (s - a) ++ A.drop (s - a) := (List.take_append_drop _ _).symm
        generalize hA1 : A.take (s - a) = A1 at hsA
        generalize hA2 : A.drop (s - a) = A2 at hsA
        have lA1 : A1.length = s - a := by rw [← hA1]; simp; omega
        have lA2 : A2.length = m - s := by rw [← hA2]; simp; omega
        have hsB : B = B.take (mid - s) ++ B.drop (mid - s) := (List.take_append_drop _ _).symm
        generalize hB1 : B.take (mid - s) = B1 at hsB
        generalize hB2 : B.drop (mid - s) = B2 at hsB
        have lB1 : B1.length = mid - s := by rw [← hB1]; simp; omega
        have lB2 : B2.length = B.length - (mid - s) := by rw [← hB2]; simp
        have kA1 : ∀ x ∈ A1, x.ffreq ≤ ky (P ++ A ++ B ++ Q) (s - 1) ∧ a < s := by
          intro x hx
          obtain ⟨c, hc, e⟩ := mem_ky hx
          have := kA (a + c) (s - 1) (by omega) (by omega) (by omega)
          rw [← e, show ky A1 c = ky (P ++ A ++ B ++ Q) (a + c) by rw [show P ++ A ++ B ++ Q = P ++ A1 ++ (A2 ++ B ++ Q) by rw [hsA]; simp, ky_mid (U := P) (V := A1) (c := c) hc (by omega)]]
          exact ⟨this, by omega⟩
        have kA2 : ∀ x ∈ A2, ky (P ++ A ++ B ++ Q) s ≤ x.ffreq ∧ s < m := by
          intro x hx
          obtain ⟨c, hc, e⟩ := mem_ky hx
          have := kA s (s + c) (by omega) (by omega) (by omega)
          rw [← e, show ky A2 c = ky (P ++ A ++ B ++ Q) (s + c) by rw [show P ++ A ++ B ++ Q = (P ++ A1) ++ A2 ++ (B ++ Q) by rw [hsA]; simp, ky_mid (U := P ++ A1) (V := A2) (c := c) hc (by simp; omega)]]
          exact ⟨this, by omega⟩
        have kB1 : ∀ x ∈ B1, x.ffreq ≤ ky (P ++ A ++ B ++ Q) (mid + m - 1 - s) ∧ s < mid := by
          intro x hx
          obtain ⟨c, hc, e⟩ := mem_ky hx
          have := kB (m + c) (mid + m - 1 - s) (by omega) (by omega) (by omega)
          rw [← e, show ky B1 c = ky (P ++ A ++ B ++ Q) (m + c) by rw [show P ++ A ++ B ++ Q = (P ++ A) ++ B1 ++ (B2 ++ Q) by rw [hsB]; simp, ky_mid (U := P ++ A) (V := B1) (c := c) hc (by simp; omega)]]
          exact ⟨this, by omega⟩
        have kB2 : ∀ x ∈ B2, ky (P ++ A ++ B ++ Q) (mid + m - s) ≤ x.ffreq ∧ mid - s < B.length := by
          intro x hx
          obtain ⟨c, hc, e⟩ := mem_ky hx
          have := kB (mid + m - s) (mid + m - s + c) (by omega) (by omega) (by omega)
          rw [← e, show ky B2 c = ky (P ++ A ++ B ++ Q) (mid + m - s + c) by rw [show P ++ A ++ B ++ Q = (P ++ A ++ B1) ++ B2 ++ Q by rw [hsB]; simp, ky_mid (U := P ++ A ++ B1) (V := B2) (c := c) hc (by simp; omega)]]
          exact ⟨this, by omega⟩
        have h12 : ∀ x ∈ A1, ∀ y ∈ B2, x.ffreq ≤ y.ffreq := by
          intro x hx y hy
          have ⟨x1, x2⟩ := kA1 x hx
          have ⟨y1, y2⟩ := kB2 y hy
          have := b3 (s - 1) (by omega) (by omega)
          rw [show mid + m - 1 - (s - 1) = mid + m - s by omega] at this
          omega
        have h21 : ∀ x ∈ A2, ∀ y ∈ B1, y.ffreq < x.ffreq := by
          intro x hx y hy
          have ⟨x1, x2⟩ := kA2 x hx
          have ⟨y1, y2⟩ := kB1 y hy
          have := b4 s (Nat.le_refl _) (by omega)
          omega
        have sA' := Srt.sub (show Srt kf (A1 ++ A2) by rw [← hsA]; exact sA)
        have sB' := Srt.sub (show Srt kf (B1 ++ B2) by rw [← hsB]; exact sB)
        rw [wi (n := ((mid + m : Nat) : Int) - s) (by omega) (by omega), show ((mid + m : Nat) : Int) - s = ((mid + m - s : Nat) : Int) by omega]
        have hrot : (((if (s : Int) < m then some (decide ((m : Int) < ((mid + m - s : Nat) : Int))) else some false) : Option Bool).bind fun x2486 => (bif x2486 then (g_slices_rotateCmpFunc_huff_coin k (s : Int) (m : Int) ((mid + m - s : Nat) : Int) (P ++ A ++ B ++ Q)).bind fun x2492 => some x2492 else some (P ++ A ++ B ++ Q))) = some (P ++ (A1 ++ B1) ++ A2 ++ B2 ++ Q) := by
          by_cases c1 : s < m
          · rw [if_pos (by omega)]
            by_cases c2 : s < mid
            · rw [dt (by omega)]
              simp only [Option.bind_some, bt]
              have := rotate k (P ++ A1) A2 B1 (B2 ++ Q) (a := (s : Int)) (m := (m : Int)) (b := ((mid + m - s : Nat) : Int)) (by simp; omega) (by simp; omega) (by simp; omega) (by omega) (by omega) (by simp; omega) (by omega)
              rw [show P ++ A ++ B ++ Q = P ++ A1 ++ A2 ++ B1 ++ (B2 ++ Q) by rw [hsA, hsB]; simp, this]; simp
            · rw [df (by omega)]
              have : B1 = [] := List.length_eq_zero_iff.1 (by omega)
              simp only [Option.bind_some, bf]
              rw [hsA, hsB, this]; simp
          · rw [if_neg (by omega)]
            have : A2 = [] := List.length_eq_zero_iff.1 (by omega)
            simp only [Option.bind_some, bf]
            rw [hsA, hsB, this]; simp
        rw [hrot]
        simp only [Option.bind_some]
        have hm1 : ∃ M1, (((if (a : Int) < s then some (decide ((s : Int) < (mid : Int))) else some false) : Option Bool).bind fun x2506 => (bif x2506 then (g_slices_symMergeCmpFunc_huff_coin k (a : Int) (s : Int) (mid : Int) (P ++ (A1 ++ B1) ++ A2 ++ B2 ++ Q)).bind fun x2512 => some x2512 else some (P ++ (A1 ++ B1) ++ A2 ++ B2 ++ Q))) = some (P ++ M1 ++ A2 ++ B2 ++ Q) ∧ Sorts (A1 ++ B1) M1 := by
          by_cases c1 : a < s
          · rw [if_pos (by omega)]
            by_cases c2 : s < mid
            · rw [dt (by omega)]
              simp only [Option.bind_some, bt]
              obtain ⟨M, m1, m2⟩ := ih P A1 B1 (A2 ++ B2 ++ Q) a s mid ha (by omega) (by omega) (by omega) (by omega) sA'.1 sB'.1 (by omega) (by simp; omega)
              refine ⟨M, ?_, m2⟩
              rw [show P ++ (A1 ++ B1) ++ A2 ++ B2 ++ Q = P ++ A1 ++ B1 ++ (A2 ++ B2 ++ Q) by simp, m1]; simp
            · rw [df (by omega)]
              exact ⟨A1 ++ B1, rfl, sorts_nil2 (List.length_eq_zero_iff.1 (by omega)) sA'.1⟩
          · rw [if_neg (by omega)]
            exact ⟨A1 ++ B1, rfl, sorts_nil1 (List.length_eq_zero_iff.1 (by omega)) sB'.1⟩
        obtain ⟨M1, e1, o1⟩ := hm1
        rw [e1]
        simp only [Option.bind_some]
        have lM1 : M1.length = mid - a := by rw [o1.len]; simp; omega
        have hm2 : ∃ M2, (((if (mid : Int) < ((mid + m - s : Nat) : Int) then some (decide (((mid + m - s : Nat) : Int) < (b : Int))) else some false) : Option Bool).bind fun x2517 => (bif x2517 then (g_slices_symMergeCmpFunc_huff_coin k (mid : Int) ((mid + m - s : Nat) : Int) (b : Int) (P ++ M1 ++ A2 ++ B2 ++ Q)).bind fun x2524 => some x2524 else some (P ++ M1 ++ A2 ++ B2 ++ Q))) = some (P ++ M1 ++ M2 ++ Q) ∧ Sorts (A2 ++ B2) M2 := by
          by_cases c1 : s < m
          · rw [if_pos (by omega)]
            by_cases c2 : mid + m - s < b
            · rw [dt (by omega)]
              simp only [Option.bind_some, bt]
              obtain ⟨M, m1, m2⟩ := ih (P ++ M1) A2 B2 Q mid (mid + m - s) b (by simp; omega) (by omega) (by omega) (by omega) (by omega) sA'.2.1 sB'.2.1 (by omega) hl
              exact ⟨M, by rw [m1]; rfl, m2⟩
            · rw [df (by omega)]
              exact ⟨A2 ++ B2, by simp, sorts_nil2 (List.length_eq_zero_iff.1 (by omega)) sA'.2.1⟩
          · rw [if_neg (by omega)]
            exact ⟨A2 ++ B2, by simp, sorts_nil1 (List.length_eq_zero_iff.1 (by omega)) sB'.2.1⟩
        obtain ⟨M2, e2, o2⟩ := hm2
        refine ⟨M1 ++ M2, ?_, Srt.mk o1.srt o2.srt ?_, ?_, ?_⟩
        · rw [e2]; simp
        · intro x hx y hy
          rcases List.mem_append.1 (o1.sim.symm.mem hx) with q | q <;> rcases List.mem_append.1 (o2.sim.symm.mem hy) with w | w
          · exact sA'.2.2 x q y w
          · exact h12 x q y w
          · exact Int.le_of_lt (h21 y w x q)
          · exact sB'.2.2 x q y w
        · refine Sim.trans ?_ (Sim.app o1.sim o2.sim)
          rw [hsA, hsB]; exact sim_mv h21
        · simp only [List.length_append, o1.len, o2.len]; rw [hsA, hsB]; simp only [List.length_append]; omega
end Go.Proofs.Ytjahhkhpchiojaa.W
namespace Go.Proofs.Ytjahhkhpchiojaa.W
open Go Go.Q Go.Proofs Go.Proofs.Ytjahhkhpchiojaa.HB
set_option linter.unusedVariables false
set_option linter.unusedSimpArgs false
/-- Sorted parts of one length, and one at the end that may be shorter. -/
inductive Runs (w : Nat) : List Co → Prop
  | last (l : List Co) (h : l.length ≤ w) (s : Srt kf l) : Runs w l
  | cons (B l : List Co) (h : B.length = w) (s : Srt kf B) (r : Runs w l) : Runs w (B ++ l)
theorem Runs.one {w : Nat} {l : List Co} (h : Runs w l) (hl : l.length ≤ w) (hw : 0 < w) : Srt kf l := by
  cases h with
  | last _ _ s => exact s
  | cons B l h s r =>
    have : l = [] := List.length_eq_zero_iff.1 (by simp at hl; omega)
    subst this; simpa using s
theorem Runs.two {w : Nat} {l : List Co} (h : Runs w l) (hl : w < l.length) : ∃ A l', l = A ++ l' ∧ A.length = w ∧ Srt kf A ∧ Runs w l' ∧ 0 < l'.length := by
  cases h with
  | last _ h _ => omega
  | cons B l h s r => exact ⟨B, l, rfl, h, s, r, by simp at hl; omega⟩
theorem Runs.head {w : Nat} {l : List Co} (h : Runs w l) (hl : w ≤ l.length) (hw : 0 < w) : ∃ A l', l = A ++ l' ∧ A.length = w ∧ Srt kf A ∧ Runs w l' := by
  cases h with
  | last _ h s => exact ⟨l, [], by simp, by omega, s, .last _ (by simp) List.Pairwise.nil⟩
  | cons B l h s r => exact ⟨B, l, rfl, h, s, r⟩
/-- What is done already. -/
def Done (w : Nat) (D : List Co) : Prop := ∀ T, Runs w T → Runs w (D ++ T)
theorem Done.nil {w : Nat} : Done w [] := fun T h => h
theorem Done.snoc {w : Nat} {D B : List Co} (h : Done w D) (hB : B.length = w) (s : Srt kf B) : Done w (D ++ B) := fun T hT => by
  rw [List.append_assoc]; exact h _ (.cons B T hB s hT)
theorem blocks (k : Nat) (N : Int) (hN : N ≤ 100000) (hk : 100 ≤ k) : ∀ (n : Nat) (D R : List Co), Done 20 D → N = (D.length : Int) + R.length → R.length < n →
    ∃ D' R', g_slices_stableCmpFunc_huff_coin_l0 k N n (D.length : Int) ((D.length : Int) + 20) (D ++ R) = some ((D'.length : Int), D' ++ R') ∧ Done 20 D' ∧ R'.length < 20 ∧ Sim kf (D ++ R) (D' ++ R') ∧ N = (D'.length : Int) + R'.length := by
  intro n
  induction n with
  | zero => intro D R _ _ h; omega
  | succ n ih =>
    intro D R hD hL hn
    rw [g_slices_stableCmpFunc_huff_coin_l0.eq_2]
    simp only [bd]
    by_cases h : 20 ≤ R.length
    · rw [if_pos (by omega)]
      have hsp : R = R.take 20 ++ R.drop 20 := (List.take_append_drop _ _).symm
      generalize hR1 : R.take 20 = R1 at hsp
      generalize hR2 : R.drop 20 = R2 at hsp
      have l1 : R1.length = 20 := by rw [← hR1]; simp; omega
      have l2 : R2.length = R.length - 20 := by rw [← hR2]; simp
      obtain ⟨M, m1, m2⟩ := insertion k D R1 R2 (by omega) (by omega) (by omega) (b := (D.length : Int) + 20) (by omega)
      rw [show D ++ R = D ++ R1 ++ R2 by rw [hsp]; simp, m1]
      simp only [Option.bind_some]
      have lM : M.length = 20 := by rw [m2.len]; exact l1
      obtain ⟨D', R', r1, r2, r3, r4, r5⟩ := ih (D ++ M) R2 (hD.snoc lM m2.srt) (by simp; omega) (by omega)
      refine ⟨D', R', ?_, r2, r3, ?_, r5⟩
      · rw [wi (by omega) (by omega), ← r1]; congr 1 <;> simp <;> omega
      · exact Sim.trans (Sim.app (Sim.app (Sim.refl _) m2.sim) (Sim.refl _)) r4
    · rw [if_neg (by omega)]
      exact ⟨D, R, rfl, hD, by omega, Sim.refl _, hL⟩
theorem merges (k : Nat) (N : Int) (w : Nat) (hw : 0 < w) (hw2 : w ≤ 100000) (hN : N ≤ 100000) (hk : 210000 ≤ k) : ∀ (n : Nat) (D R : List Co), Done (2 * w) D → Runs w R → N = (D.length : Int) + R.length → R.length < n →
    ∃ D' R', g_slices_stableCmpFunc_huff_coin_l2 k N (w : Int) n (D.length : Int) ((D.length : Int) + (2 * w : Nat)) (D ++ R) = some ((D'.length : Int), D' ++ R') ∧ Done (2 * w) D' ∧ Runs w R' ∧ R'.length < 2 * w ∧ Sim kf (D ++ R) (D' ++ R') ∧ N = (D'.length : Int) + R'.length := by
  intro n
  induction n with
  | zero => intro D R _ _ _ h; omega
  | succ n ih =>
    intro D R hD hR hL hn
    rw [g_slices_stableCmpFunc_huff_coin_l2.eq_2]
    simp only [bd]
    by_cases h : 2 * w ≤ R.length
    · rw [if_pos (by omega)]
      obtain ⟨A, R1, rfl, lA, sA, rR⟩ := hR.head (by omega) hw
      obtain ⟨B, R2, rfl, lB, sB, rR⟩ := rR.head (by simp at h; omega) hw
      simp only [List.length_append] at h hL hn
      obtain ⟨M, m1, m2⟩ := symm k D A B R2 D.length (D.length + w) (D.length + 2 * w) rfl (by omega) (by omega) (by omega) (by omega) sA sB (by omega) (by omega)
      rw [wi (n := (D.length : Int) + w) (by omega) (by omega), show (D.length : Int) + w = ((D.length + w : Nat) : Int) by omega, show (D.length : Int) + ((2 * w : Nat) : Int) = ((D.length + 2 * w : Nat) : Int) by omega, show D ++ (A ++ (B ++ R2)) = D ++ A ++ B ++ R2 by simp, m1]
      simp only [Option.bind_some]
      have lM : M.length = 2 * w := by rw [m2.len]; simp; omega
      obtain ⟨D', R', r1, r2, r3, r4, r5, r6⟩ := ih (D ++ M) R2 (hD.snoc lM m2.srt) rR (by simp; omega) (by omega)
      refine ⟨D', R', ?_, r2, r3, r4, ?_, r6⟩
      · rw [wi (n := 2 * (w : Int)) (by omega) (by omega), wi (by omega) (by omega), ← r1]; congr 1 <;> simp <;> omega
      · refine Sim.trans ?_ r5
        rw [List.append_assoc D A B]
        exact Sim.app (Sim.app (Sim.refl _) m2.sim) (Sim.refl _)
    · rw [if_neg (by omega)]
      exact ⟨D, R, rfl, hD, hR, by omega, Sim.refl _, hL⟩
theorem doubling (k : Nat) (N : Int) (hN : N ≤ 100000) (hk : 210000 ≤ k) : ∀ (n : Nat) (w : Nat) (R : List Co), 0 < w → w ≤ 200000 → Runs w R → N = (R.length : Int) → R.length < n + w → 
    ∃ M, g_slices_stableCmpFunc_huff_coin_l1 k N (n + 1) (w : Int) R = some M ∧ Sorts R M := by
  intro n
  induction n with
  | zero =>
    intro w R hw hw2 hR hL h
    rw [g_slices_stableCmpFunc_huff_coin_l1.eq_2]
    simp only [bd]
    rw [if_neg (by omega)]
    exact ⟨R, rfl, hR.one (by omega) hw, Sim.refl _, rfl⟩
  | succ n ih =>
    intro w R hw hw2 hR hL hn
    rw [g_slices_stableCmpFunc_huff_coin_l1.eq_2]
    simp only [bd]
    by_cases h : w < R.length
    · rw [if_pos (by omega), wi (n := 2 * (w : Int)) (by omega) (by omega)]
      obtain ⟨D, S, r1, r2, r3, r4, r5, r6⟩ := merges k N w hw (by omega) hN hk k [] R Done.nil hR (by simpa using hL) (by omega)
      simp only [List.nil_append, List.length_nil] at r1 r5
      rw [show ((0 : Nat) : Int) + ((2 * w : Nat) : Int) = 2 * (w : Int) by omega, show ((0 : Nat) : Int) = 0 from rfl] at r1
      rw [r1]
      simp only [Option.bind_some]
      rw [wi (n := (D.length : Int) + w) (by omega) (by omega), wi (n := (w : Int) * 2) (by omega) (by omega)]
      have hfin : ∃ S', (bif decide ((D.length : Int) + w < N) then (g_slices_symMergeCmpFunc_huff_coin k (D.length : Int) ((D.length : Int) + w) N (D ++ S)).bind fun x2700 => some x2700 else some (D ++ S)) = some (D ++ S') ∧ Sorts S S' := by
        rw [bd]
        by_cases c : w < S.length
        · rw [if_pos (by omega)]
          obtain ⟨A, B, rfl, lA, sA, rB, hB⟩ := r3.two c
          simp only [List.length_append] at r4 r6
          have sB := rB.one (by omega) hw
          obtain ⟨M, m1, m2⟩ := symm k D A B [] D.length (D.length + w) (D.length + w + B.length) rfl (by omega) (by omega) (by omega) hB sA sB (by omega) (by simp; omega)
          refine ⟨M, ?_, m2⟩
          rw [show (D.length : Int) + w = ((D.length + w : Nat) : Int) by omega, show N = ((D.length + w + B.length : Nat) : Int) by omega, show D ++ (A ++ B) = D ++ A ++ B ++ [] by simp, m1]; simp
        · rw [if_neg (by omega)]
          exact ⟨S, rfl, r3.one (by omega) hw, Sim.refl _, rfl⟩
      obtain ⟨S', s1, s2⟩ := hfin
      rw [s1]
      simp only [Option.bind_some]
      have hr : Runs (2 * w) (D ++ S') := r2 _ (.last _ (by rw [s2.len]; omega) s2.srt)
      obtain ⟨M, m1, m2⟩ := ih (2 * w) (D ++ S') (by omega) (by omega) hr (by simp [s2.len]; omega) (by simp [s2.len]; omega)
      refine ⟨M, ?_, m2.srt, Sim.trans r5 (Sim.trans (Sim.app (Sim.refl _) s2.sim) m2.sim), by rw [m2.len]; simp [s2.len]; omega⟩
      rw [← m1, show (w : Int) * 2 = ((2 * w : Nat) : Int) by omega]
    · rw [if_neg (by omega)]
      exact ⟨R, rfl, hR.one (by omega) hw, Sim.refl _, rfl⟩
theorem sortStable (k : Nat) (x : List Co) (hk : 210000 ≤ k) (hx : x.length ≤ 100000) : ∃ M, g_slices_SortStableFunc_huff_coin_huff_coin k x = some M ∧ Sorts x M := by
  unfold g_slices_SortStableFunc_huff_coin_huff_coin g_slices_stableCmpFunc_huff_coin
  obtain ⟨D, R, r1, r2, r3, r4, r5⟩ := blocks k (x.length : Int) (by omega) (by omega) k [] x Done.nil (by simp) (by omega)
  simp only [List.nil_append, List.length_nil] at r1 r4
  rw [show ((0 : Nat) : Int) + 20 = 20 from rfl, show ((0 : Nat) : Int) = 0 from rfl] at r1
  rw [r1]
  simp only [Option.bind_some]
  obtain ⟨M, m1, m2⟩ := insertion k D R [] (by omega) (by omega) (by omega) (b := (x.length : Int)) (by omega)
  simp only [List.append_nil] at m1
  rw [m1]
  simp only [Option.bind_some]
  obtain ⟨k, rfl⟩ : ∃ j, k = j + 1 := ⟨k - 1, by omega⟩
  have hr : Runs 20 (D ++ M) := r2 _ (.last _ (by rw [m2.len]; omega) m2.srt)
  have hl : (D ++ M).length = x.length := by simp [m2.len]; omega
  obtain ⟨M', e1, e2⟩ := doubling (k + 1) (x.length : Int) (by omega) (by omega) k 20 (D ++ M) (by decide) (by decide) hr (by rw [hl]) (by omega)
  refine ⟨M', ?_, e2.srt, Sim.trans r4 (Sim.trans (Sim.app (Sim.refl _) m2.sim) e2.sim), by rw [e2.len, hl]⟩
  rw [show (20 : Int) = ((20 : Nat) : Int) from rfl, e1]; rfl
end Go.Proofs.Ytjahhkhpchiojaa.W
namespace Go.Proofs.Ytjahhkhpchiojaa.W
open Go Go.Q Go.Proofs Go.Proofs.Ytjahhkhpchiojaa.HB
set_option linter.unusedVariables false
set_option linter.unusedSimpArgs false
theorem Sim.perm {α : Type} [DecidableEq α] {f : α → Int} {l r : List α} (h : Sim f l r) : l.Perm r := by
  rw [List.perm_iff_count]
  intro a
  have e : ∀ l : List α, l.count a = (l.filter (fun x => f x == f a)).count a := fun l => (List.count_filter (p := fun x => f x == f a) (by simp)).symm
  rw [e l, e r, h]
theorem Sim.map {α β : Type} {f : α → Int} {g : β → Int} {m : α → β} (hm : ∀ a, g (m a) = f a) {l r : List α} (h : Sim f l r) : Sim g (l.map m) (r.map m) := fun k => by
  rw [List.filter_map, List.filter_map]
  have : ((fun x => g x == k) ∘ m) = fun x => f x == k := by funext x; simp [hm]
  rw [this, h]
theorem Srt.map {α β : Type} {f : α → Int} {g : β → Int} {m : α → β} (hm : ∀ a, g (m a) = f a) {l : List α} (h : Srt f l) : Srt g (l.map m) := by
  unfold Srt at *
  rw [List.pairwise_map]
  exact h.imp fun {a b} q => by rw [hm, hm]; exact q
theorem st_of {α : Type} {f : α → Int} {m : α → C} (hm : ∀ a, key (m a) = f a) {l r : List α} (hs : Srt f r) (h : Sim f l r) : r.map m = st (l.map m) := st_eq (Srt.map hm hs) (Sim.map hm h)
theorem lev_bd (base : List C) (hb : ∀ x ∈ base, 0 ≤ x.1 ∧ x.1 ≤ 1073741824 ∧ x.2.length ≤ 1) : ∀ j, (∀ x ∈ lev base j, 0 ≤ x.1 ∧ x.1 ≤ 1073741824 * (2 ^ j : Nat) ∧ x.2.length ≤ 2 ^ j) ∧ (lev base j).length ≤ 2 * base.length
  | 0 => ⟨by intro x hx; simp [lev] at hx, by simp [lev]⟩
  | j + 1 => by
    obtain ⟨h1, h2⟩ := lev_bd base hb j
    refine ⟨fun x hx => ?_, by rw [lev_len]; omega⟩
    rcases List.mem_append.1 (st_mem.1 hx) with e | e
    · have := hb x e
      have hp : 1 ≤ 2 ^ (j + 1) := Nat.pow_pos (by decide)
      refine ⟨this.1, ?_, by omega⟩
      have : (1 : Int) ≤ ((2 ^ (j + 1) : Nat) : Int) := by omega
      omega
    · have hp : ∀ l : List C, (∀ x ∈ l, 0 ≤ x.1 ∧ x.1 ≤ 1073741824 * (2 ^ j : Nat) ∧ x.2.length ≤ 2 ^ j) → ∀ x ∈ pairs l, 0 ≤ x.1 ∧ x.1 ≤ 1073741824 * (2 ^ (j + 1) : Nat) ∧ x.2.length ≤ 2 ^ (j + 1) := by
        intro l
        induction l using pairs.induct with
        | case1 a b l ih =>
          intro hl x hx
          rcases List.mem_cons.1 hx with e | e
          · subst e
            have q1 := hl a (by simp); have q2 := hl b (by simp)
            refine ⟨by show 0 ≤ a.1 + b.1; omega, ?_, ?_⟩
            · show a.1 + b.1 ≤ _
              have : ((2 ^ (j + 1) : Nat) : Int) = 2 * ((2 ^ j : Nat) : Int) := by rw [Nat.pow_succ]; omega
              omega
            · show (a.2 ++ b.2).length ≤ _
              rw [List.length_append, Nat.pow_succ]; omega
          · exact ih (fun z hz => hl z (by simp [hz])) x e
        | case2 l hl =>
          intro _ x hx
          unfold pairs at hx; split at hx
          · exact absurd rfl (hl _ _ _)
          · simp at hx
      exact hp _ h1 x e
abbrev toC : Co → C := fun c => (c.ffreq, c.fsyms)
def prs : List Co → List Co
  | x :: y :: l => ⟨x.ffreq + y.ffreq, x.fsyms ++ y.fsyms⟩ :: prs l
  | _ => []
theorem prs_map : ∀ l : List Co, (prs l).map toC = pairs (l.map toC)
  | [] => rfl
  | [_] => rfl
  | x :: y :: l => by simp only [prs, List.map_cons, pairs, prs_map l]
theorem concat (n : Nat) (a b : List Int) (ha : a.length ≤ 100000) (hb : b.length ≤ 100000) : g_slices_Concat_int_int (n + 3) [a, b] = some (Sum.inr (a ++ b)) := by
  unfold g_slices_Concat_int_int
  have i0 : ix [a, b] 0 = some a := rfl
  have i1 : ix [a, b] 1 = some b := rfl
  have e0 : g_slices_Concat_int_int_l0 (n + 3) [a, b] (n + 3) 0 0 = some (Sum.inr (((a.length + b.length : Nat) : Int))) := by
    rw [g_slices_Concat_int_int_l0.eq_2]
    simp only [bd, Option.bind_some, List.length_cons, List.length_nil, i0]
    rw [if_pos (by decide), wi (n := (0 : Int) + (a.length : Int)) (by omega) (by omega), if_neg (by omega), wi (n := (0 : Int) + 1) (by omega) (by omega), show (0 : Int) + 1 = 1 from rfl, g_slices_Concat_int_int_l0.eq_2]
    simp only [bd, Option.bind_some, List.length_cons, List.length_nil, i1]
    rw [if_pos (by decide), wi (n := (0 : Int) + (a.length : Int) + b.length) (by omega) (by omega), if_neg (by omega), wi (n := (1 : Int) + 1) (by omega) (by omega), g_slices_Concat_int_int_l0.eq_2]
    simp only [bd, Option.bind_some, List.length_cons, List.length_nil]
    rw [if_neg (by decide)]
    congr 2; omega
  have e1 : ∀ x : Int, 0 ≤ x → x ≤ 200000 → g_slices_Grow_int_int (n + 3) x = some (Sum.inr []) := by
    intro x h0 h1
    unfold g_slices_Grow_int_int
    simp only [bd, Option.bind_some]
    rw [if_neg (by omega), wi (n := (0 : Int) - 0) (by omega) (by omega), wi (n := x - (0 - 0)) (by omega) (by omega)]
    by_cases h : 0 < x
    · rw [if_pos (by omega), if_pos (by omega), if_pos (by omega)]; rfl
    · rw [if_neg (by omega)]; rfl
  have e2 : g_slices_Concat_int_int_l1 (n + 3) [a, b] (n + 3) 0 [] = some (a ++ b) := by
    rw [g_slices_Concat_int_int_l1.eq_2]
    simp only [bd, Option.bind_some, List.length_cons, List.length_nil, i0]
    rw [if_pos (by decide), if_pos (by omega), wi (n := (0 : Int) + 1) (by omega) (by omega), show (0 : Int) + 1 = 1 from rfl, g_slices_Concat_int_int_l1.eq_2]
    simp only [bd, Option.bind_some, List.length_cons, List.length_nil, i1, List.nil_append]
    rw [if_pos (by decide), if_pos (by omega), wi (n := (1 : Int) + 1) (by omega) (by omega), g_slices_Concat_int_int_l1.eq_2]
    simp only [bd, Option.bind_some, List.length_cons, List.length_nil]
    rw [if_neg (by decide)]
  rw [e0]
  simp only [Option.bind_some]
  rw [e1 _ (by omega) (by omega)]
  simp only [Option.bind_some]
  rw [e2]; rfl
theorem len_l2 (k : Nat) (hk : 3 ≤ k) (L : List Co) (hL : L.length ≤ 100000) (hb : ∀ x ∈ L, 0 ≤ x.ffreq ∧ x.ffreq ≤ 1125899906842624 ∧ x.fsyms.length ≤ 100000) : ∀ (n : Nat) (dn rest acc : List Co), L = dn ++ rest → rest.length < n → acc.length + rest.length ≤ 1000000 →
    g_huff_Lengths_l2 k L n (dn.length : Int) acc = some (Sum.inr (acc ++ prs rest)) := by
  obtain ⟨k, rfl⟩ : ∃ j, k = j + 3 := ⟨k - 3, by omega⟩
  intro n
  induction n with
  | zero => intro dn rest acc _ h; omega
  | succ n ih =>
    intro dn rest acc hd hn hl
    subst hd
    rw [g_huff_Lengths_l2.eq_2]
    simp only [bd, Option.bind_some]
    rw [List.length_append] at hL
    rw [wi (n := (dn.length : Int) + 1) (by omega) (by omega)]
    match rest, hn, hl, hb with
    | [], _, _, _ => rw [if_neg (by simp; omega)]; simp [prs]
    | [x], _, _, _ => rw [if_neg (by simp)]; simp [prs]
    | x :: y :: r, hn, hl, hb =>
      simp only [List.length_cons] at hn hl hL
      rw [if_pos (by simp; omega), ix_at dn x (y :: r) rfl, show dn ++ x :: y :: r = (dn ++ [x]) ++ y :: r by simp, ix_at (dn ++ [x]) y r (by simp)]
      simp only [Option.bind_some]
      have b1 := hb x (by simp); have b2 := hb y (by simp)
      rw [wi (n := x.ffreq + y.ffreq) (by omega) (by omega), concat k _ _ b1.2.2 b2.2.2]
      simp only [Option.bind_some]
      rw [if_pos (by simp; omega), wi (n := (dn.length : Int) + 2) (by omega) (by omega)]
      have := ih (dn ++ [x] ++ [y]) r (acc ++ [⟨x.ffreq + y.ffreq, x.fsyms ++ y.fsyms⟩]) (by simp) (by omega) (by simp; omega)
      rw [show (dn.length : Int) + 2 = ((dn ++ [x] ++ [y]).length : Int) by simp only [List.length_append, List.length_cons, List.length_nil]; omega, show dn ++ [x] ++ y :: r = dn ++ x :: y :: r by simp, this]
      simp [prs]
theorem clone (k : Nat) (x : List Co) (h : x.length ≤ 1000000) : g_slices_Clone_huff_coin_huff_coin k x = some x := by
  unfold g_slices_Clone_huff_coin_huff_coin
  rw [bd, if_pos (by simp; omega)]
theorem len_l1 (k : Nat) (hk : 210000 ≤ k) (base : List Co) (hB : base.length ≤ 1000) (hb : ∀ x ∈ base, 0 ≤ x.ffreq ∧ x.ffreq ≤ 1073741824 ∧ x.fsyms.length ≤ 1) (m : Nat) (hm : m ≤ 15) : ∀ (n j : Nat) (L : List Co), j ≤ m → m - j < n → L.map toC = lev (base.map toC) j →
    ∃ M, g_huff_Lengths_l1 k (m : Int) base n (j : Int) L = some (Sum.inr M) ∧ M.map toC = lev (base.map toC) m := by
  have hbd := lev_bd (base.map toC) (by intro x hx; obtain ⟨c, hc, rfl⟩ := List.mem_map.1 hx; exact hb c hc)
  intro n
  induction n with
  | zero => intro j L _ h; omega
  | succ n ih =>
    intro j L hj hn hL
    rw [g_huff_Lengths_l1.eq_2]
    simp only [bd]
    by_cases h : j < m
    · rw [if_pos (by omega), clone k base (by omega)]
      simp only [Option.bind_some]
      obtain ⟨h1, h2⟩ := hbd j
      have lL : L.length ≤ 2000 := by
        have := congrArg List.length hL; rw [List.length_map] at this; rw [this]; rw [List.length_map] at h2; omega
      have p1 : 2 ^ j ≤ 32768 := Nat.le_trans (Nat.pow_le_pow_right (by decide) (show j ≤ 15 by omega)) (by decide)
      have bL : ∀ x ∈ L, 0 ≤ x.ffreq ∧ x.ffreq ≤ 1125899906842624 ∧ x.fsyms.length ≤ 100000 := by
        intro x hx
        have := h1 (toC x) (by rw [← hL]; exact List.mem_map_of_mem hx)
        have e1 : (toC x).1 = x.ffreq := rfl
        have e2 : (toC x).2 = x.fsyms := rfl
        rw [e1, e2] at this
        exact ⟨this.1, by omega, by omega⟩
      have := len_l2 k (by omega) L (by omega) bL k [] L base rfl (by omega) (by omega)
      rw [show (([] : List Co).length : Int) = 0 from rfl] at this
      rw [this]
      simp only [Option.bind_some]
      have lp : (prs L).length ≤ 2000 := by
        have := congrArg List.length (prs_map L); rw [List.length_map, pairs_len, List.length_map] at this; omega
      obtain ⟨M, m1, m2⟩ := sortStable k (base ++ prs L) hk (by simp; omega)
      rw [m1]
      simp only [Option.bind_some]
      have hM : M.map toC = lev (base.map toC) (j + 1) := by
        rw [st_of (m := toC) (fun _ => rfl) m2.srt m2.sim, List.map_append, prs_map, hL]; rfl
      rw [wi (by omega) (by omega)]
      exact ih (j + 1) M (by omega) (by omega) hM
    · rw [if_neg (by omega)]
      obtain rfl : j = m := by omega
      exact ⟨L, rfl, hL⟩
/-- How often each number below some stands in a row. -/
def outOf (N : Nat) (l : List Int) : List Int := (List.range N).map fun (i : Nat) => ((l.count (i : Int) : Nat) : Int)
theorem outOf_len (N : Nat) (l : List Int) : (outOf N l).length = N := by simp [outOf]
theorem outOf_get {N : Nat} {l : List Int} {i : Nat} (h : i < N) : (outOf N l)[i]'(by rw [outOf_len]; exact h) = ((l.count (i : Int) : Nat) : Int) := by simp [outOf]
theorem outOf_nil (N : Nat) : outOf N [] = List.replicate N 0 := by
  apply List.ext_getElem (by simp [outOf])
  intro i h1 h2; simp [outOf]
theorem outOf_set {N : Nat} {l : List Int} {s : Int} (h0 : 0 ≤ s) (h1 : s < N) : List.set (outOf N l) s.toNat (((l.count s : Nat) : Int) + 1) = outOf N (l ++ [s]) := by
  apply List.ext_getElem (by simp [outOf])
  intro i h2 h3
  rw [List.getElem_set]
  rw [List.length_set, outOf_len] at h2
  rw [outOf_get h2, outOf_get h2, List.count_append]
  by_cases e : s.toNat = i
  · rw [if_pos e, show (i : Int) = s by omega]; simp
  · rw [if_neg e]
    have : List.count (i : Int) [s] = 0 := List.count_eq_zero.2 (by simp; omega)
    rw [this]; omega
theorem len_l4 (k N : Nat) (hN : N ≤ 1000) (c : Co) (hc : c.fsyms.length ≤ 100000) (hs : ∀ s ∈ c.fsyms, 0 ≤ s ∧ s < (N : Int)) : ∀ (n : Nat) (l dn rest : List Int), c.fsyms = dn ++ rest → rest.length < n → l.length + rest.length ≤ 1000000000 →
    g_huff_Lengths_l4 k c n (dn.length : Int) (outOf N l) = some (outOf N (l ++ rest)) := by
  intro n
  induction n with
  | zero => intro l dn rest _ h; omega
  | succ n ih =>
    intro l dn rest hd hn hl
    rw [g_huff_Lengths_l4.eq_2]
    simp only [bd, Option.bind_some]
    have hlen := congrArg List.length hd
    rw [List.length_append] at hlen
    cases rest with
    | nil => rw [if_neg (by simp at hlen; omega)]; simp
    | cons s r =>
      simp only [List.length_cons] at hn hl hlen
      have q := hs s (by rw [hd]; simp)
      rw [if_pos (by omega), hd, ix_at dn s r rfl]
      simp only [Option.bind_some]
      rw [ix_int q.1 (by rw [outOf_len]; exact q.2)]
      simp only [Option.bind_some]
      rw [outOf_get (by omega), show ((s.toNat : Nat) : Int) = s by omega]
      have hcnt : l.count s ≤ l.length := List.count_le_length
      rw [wi (n := ((l.count s : Nat) : Int) + 1) (by omega) (by omega), outOf_set q.1 q.2, wi (by omega) (by omega)]
      have := ih (l ++ [s]) (dn ++ [s]) r (by simp [hd]) (by omega) (by simp; omega)
      rw [show (dn.length : Int) + 1 = ((dn ++ [s]).length : Int) by simp, this]; simp
theorem len_l3 (k N : Nat) (hk : 210000 ≤ k) (hN : N ≤ 1000) (base L : List Co) (hB : base.length ≤ 1000) (T : Nat) (hT : T = 2 * base.length - 2) (hTL : T ≤ L.length) (hb : ∀ c ∈ L, c.fsyms.length ≤ 32768 ∧ ∀ s ∈ c.fsyms, 0 ≤ s ∧ s < (N : Int)) : ∀ (n : Nat) (l : List Int) (i : Nat), i ≤ T → T - i < n → l.length ≤ 32768 * i → 
    g_huff_Lengths_l3 k base L n (i : Int) (outOf N l) = some (outOf N (l ++ syms (((L.take T).drop i).map toC))) := by
  intro n
  induction n with
  | zero => intro l i _ h; omega
  | succ n ih =>
    intro l i hi hn hl
    rw [g_huff_Lengths_l3.eq_2]
    simp only [bd, Option.bind_some]
    rw [wi (n := 2 * (base.length : Int)) (by omega) (by omega), wi (n := 2 * (base.length : Int) - 2) (by omega) (by omega)]
    by_cases h : i < T
    · have hiL : i < L.length := by omega
      rw [if_pos (by omega), ix_nat hiL]
      simp only [Option.bind_some]
      have q := hb L[i] (List.getElem_mem hiL)
      have := len_l4 k N hN L[i] (by omega) q.2 k l [] L[i].fsyms rfl (by omega) (by omega)
      rw [show (([] : List Int).length : Int) = 0 from rfl] at this
      rw [this]
      simp only [Option.bind_some]
      rw [wi (by omega) (by omega)]
      have := ih (l ++ L[i].fsyms) (i + 1) (by omega) (by omega) (by rw [List.length_append]; omega)
      rw [show (i : Int) + 1 = ((i + 1 : Nat) : Int) by omega, this]
      have e : (L.take T).drop i = L[i] :: (L.take T).drop (i + 1) := by
        rw [List.drop_eq_getElem_cons (by simp; omega)]; simp
      rw [e]; simp
    · rw [if_neg (by omega)]
      obtain rfl : i = T := by omega
      have : (L.take i).drop i = [] := List.drop_eq_nil_of_le (by simp; omega)
      rw [this]; simp
/-- The symbols that come, and their coins. -/
def symsF : List Int → Nat → List Int
  | [], _ => []
  | f :: l, i => if 0 < f then (i : Int) :: symsF l (i + 1) else symsF l (i + 1)
def coinsF : List Int → Nat → List Co
  | [], _ => []
  | f :: l, i => if 0 < f then ⟨f, [(i : Int)]⟩ :: coinsF l (i + 1) else coinsF l (i + 1)
def badF (l : List Int) : Prop := ∃ f ∈ l, f < 0 ∨ 1073741824 < f
instance (l : List Int) : Decidable (badF l) := by unfold badF; infer_instance
theorem badF_cons {x : Int} {l : List Int} : badF (x :: l) ↔ (x < 0 ∨ 1073741824 < x) ∨ badF l := by simp [badF]
theorem coinsF_cons (f : Int) (l : List Int) (i : Nat) : coinsF (f :: l) i = if 0 < f then ⟨f, [(i : Int)]⟩ :: coinsF l (i + 1) else coinsF l (i + 1) := rfl
theorem symsF_cons (f : Int) (l : List Int) (i : Nat) : symsF (f :: l) i = if 0 < f then (i : Int) :: symsF l (i + 1) else symsF l (i + 1) := rfl
theorem coinsF_len : ∀ (l : List Int) (i : Nat), (coinsF l i).length = (symsF l i).length ∧ (coinsF l i).length ≤ l.length
  | [], i => ⟨rfl, Nat.le_refl _⟩
  | f :: l, i => by
    have := coinsF_len l (i + 1)
    unfold coinsF symsF
    split
    · simp only [List.length_cons]; omega
    · simp only [List.length_cons]; omega
theorem len_l0 (k : Nat) (x : List Int) (hx : x.length ≤ 320) : ∀ (n i : Nat) (acc : List Co), i ≤ x.length → x.length - i < n → acc.length ≤ i →
    g_huff_Lengths_l0 k x n (i : Int) acc = some (if badF (x.drop i) then Sum.inl () else Sum.inr (acc ++ coinsF (x.drop i) i)) := by
  intro n
  induction n with
  | zero => intro i acc _ h; omega
  | succ n ih =>
    intro i acc hi hn ha
    rw [g_huff_Lengths_l0.eq_2]
    simp only [bd, Option.bind_some]
    by_cases h : i < x.length
    · rw [if_pos (by omega), ix_nat h, List.drop_eq_getElem_cons h]
      simp only [Option.bind_some, badF_cons]
      generalize x[i] = f
      by_cases hb : f < 0 ∨ 1073741824 < f
      · have : (if f < 0 then some true else some (decide (1073741824 < f))) = some true := by
          split
          · rfl
          · rw [dt (by omega)]
        rw [this]
        simp only [Option.bind_some, bt]
        rw [if_pos (show (f < 0 ∨ 1073741824 < f) ∨ badF (x.drop (i + 1)) from .inl hb)]
      · have : (if f < 0 then some true else some (decide (1073741824 < f))) = some false := by
          rw [if_neg (by omega), df (by omega)]
        rw [this]
        simp only [Option.bind_some, bf]
        by_cases hf : 0 < f
        · rw [if_pos hf, if_pos (by simp; omega)]
          simp only [Option.bind_some]
          rw [wi (by omega) (by omega), show (i : Int) + 1 = ((i + 1 : Nat) : Int) by omega, ih (i + 1) _ (by omega) (by omega) (by simp; omega)]
          by_cases hb2 : badF (x.drop (i + 1))
          · rw [if_pos hb2, if_pos (.inr hb2)]
          · rw [if_neg hb2, if_neg (fun q => q.elim hb hb2)]
            rw [coinsF_cons, if_pos hf]; simp
        · rw [if_neg hf]
          simp only [Option.bind_some]
          rw [wi (by omega) (by omega), show (i : Int) + 1 = ((i + 1 : Nat) : Int) by omega, ih (i + 1) _ (by omega) (by omega) (by omega)]
          by_cases hb2 : badF (x.drop (i + 1))
          · rw [if_pos hb2, if_pos (.inr hb2)]
          · rw [if_neg hb2, if_neg (fun q => q.elim hb hb2)]
            rw [coinsF_cons, if_neg hf]
    · rw [if_neg (by omega), List.drop_of_length_le (by omega), if_neg (by simp [badF])]
      simp [coinsF]
end Go.Proofs.Ytjahhkhpchiojaa.W
namespace Go.Proofs.Ytjahhkhpchiojaa.W
open Go Go.Q Go.Proofs Go.Proofs.Ytjahhkhpchiojaa.HB
set_option linter.unusedVariables false
set_option linter.unusedSimpArgs false
theorem shl1b {b : Nat} (h : b ≤ 15) : shlI .i64 1 (b : Int) = ((2 ^ b : Nat) : Int) := by
  obtain rfl | rfl | rfl | rfl | rfl | rfl | rfl | rfl | rfl | rfl | rfl | rfl | rfl | rfl | rfl | rfl : b = 0 ∨ b = 1 ∨ b = 2 ∨ b = 3 ∨ b = 4 ∨ b = 5 ∨ b = 6 ∨ b = 7 ∨ b = 8 ∨ b = 9 ∨ b = 10 ∨ b = 11 ∨ b = 12 ∨ b = 13 ∨ b = 14 ∨ b = 15 := by omega
  all_goals rfl
/-- How often a symbol comes. -/
def Fq (x : List Int) (s : Int) : Int := if 0 ≤ s ∧ 0 < x.getD s.toNat 0 then x.getD s.toNat 0 else 0
theorem Fq_nn (x : List Int) (s : Int) : 0 ≤ Fq x s := by unfold Fq; split <;> omega
theorem symsF_in : ∀ (l : List Int) (i : Nat) (s : Int), s ∈ symsF l i ↔ ∃ j : Nat, s = (j : Int) ∧ i ≤ j ∧ j < i + l.length ∧ 0 < l.getD (j - i) 0
  | [], i, s => by constructor
                   · intro h; simp [symsF] at h
                   · rintro ⟨j, _, h1, h2, _⟩; simp at h2; omega
  | f :: l, i, s => by
    have ih := symsF_in l (i + 1) s
    have hs : ∀ j, i + 1 ≤ j → (f :: l).getD (j - i) 0 = l.getD (j - (i + 1)) 0 := by
      intro j hj; rw [show j - i = (j - (i + 1)) + 1 by omega]; simp
    rw [symsF_cons]
    constructor
    · intro h
      have h' : (s = (i : Int) ∧ 0 < f) ∨ s ∈ symsF l (i + 1) := by
        split at h
        · rcases List.mem_cons.1 h with e | e
          · exact .inl ⟨e, by assumption⟩
          · exact .inr e
        · exact .inr h
      rcases h' with ⟨e, hf⟩ | e
      · exact ⟨i, e, Nat.le_refl _, by simp, by simpa using hf⟩
      · obtain ⟨j, e1, h1, h2, h3⟩ := ih.1 e
        exact ⟨j, e1, by omega, by simp; omega, by rw [hs j h1]; exact h3⟩
    · rintro ⟨j, e1, h1, h2, h3⟩
      rcases Nat.lt_or_eq_of_le h1 with q | q
      · have := ih.2 ⟨j, e1, q, by simp at h2; omega, by rw [← hs j q]; exact h3⟩
        split
        · exact List.mem_cons_of_mem _ this
        · exact this
      · subst q
        rw [if_pos (by simpa using h3)]; rw [e1]; exact List.mem_cons_self
theorem symsF_nodup : ∀ (l : List Int) (i : Nat), (symsF l i).Nodup
  | [], _ => List.nodup_nil
  | f :: l, i => by
    rw [symsF_cons]; split
    · refine List.nodup_cons.2 ⟨fun h => ?_, symsF_nodup l (i + 1)⟩
      obtain ⟨j, e, h1, _⟩ := (symsF_in l (i + 1) _).1 h
      omega
    · exact symsF_nodup l (i + 1)
theorem coins_form (x : List Int) : ∀ (n i : Nat), x.length - i ≤ n → (coinsF (x.drop i) i).map toC = (symsF (x.drop i) i).map fun s => ((Fq x s, [s]) : C) := by
  intro n
  induction n with
  | zero => intro i h; rw [List.drop_of_length_le (by omega)]; rfl
  | succ n ih =>
    intro i h
    by_cases hi : i < x.length
    · rw [List.drop_eq_getElem_cons hi, coinsF_cons, symsF_cons]
      by_cases hf : 0 < x[i]
      · rw [if_pos hf, if_pos hf, List.map_cons, List.map_cons, ih (i + 1) (by omega)]
        congr 1
        have : Fq x (i : Int) = x[i] := by
          unfold Fq
          have : x.getD (i : Int).toNat 0 = x[i] := by simp [List.getD_eq_getElem?_getD, List.getElem?_eq_getElem hi]
          rw [this, if_pos ⟨by omega, hf⟩]
        show (x[i], [(i : Int)]) = _
        rw [this]
      · rw [if_neg hf, if_neg hf, ih (i + 1) (by omega)]
    · rw [List.drop_of_length_le (by omega)]; rfl
theorem form_syms {F : Int → Int} : ∀ l : List C, (∀ e ∈ l, ∃ s, e = (F s, [s])) → l = (syms l).map fun s => ((F s, [s]) : C)
  | [], _ => rfl
  | e :: l, h => by
    obtain ⟨s, rfl⟩ := h e (by simp)
    have := form_syms l fun e he => h e (by simp [he])
    show _ = ((syms ([(F s, [s])] : List C)) ++ syms l).map _
    rw [List.map_append, ← this]; rfl
theorem syms_form {F : Int → Int} (S : List Int) : syms (S.map fun s => ((F s, [s]) : C)) = S := by
  have := base_syms F S S.length
  rw [List.take_of_length_le (by simp), List.take_of_length_le (Nat.le_refl _)] at this
  exact this
/-- The symbols that come, by how often. -/
theorem base_form (x : List Int) : ∃ S : List Int, st ((coinsF x 0).map toC) = S.map (fun s => ((Fq x s, [s]) : C)) ∧ S.Perm (symsF x 0) ∧ S.Nodup ∧ Srt key (S.map fun s => ((Fq x s, [s]) : C)) := by
  have e0 := coins_form x x.length 0 (by omega)
  rw [List.drop_zero] at e0
  have h1 := form_syms (F := Fq x) (st ((coinsF x 0).map toC)) (by
    intro e he
    have := st_mem.1 he
    rw [e0] at this
    obtain ⟨s, _, rfl⟩ := List.mem_map.1 this
    exact ⟨s, rfl⟩)
  have hp : (syms (st ((coinsF x 0).map toC))).Perm (symsF x 0) := by
    have := List.Perm.flatMap_right (fun x : C => x.2) (Sim.perm (st_sim ((coinsF x 0).map toC))).symm
    refine this.trans (List.Perm.of_eq ?_)
    rw [e0]; exact syms_form _
  refine ⟨_, h1, hp, hp.nodup_iff.2 (symsF_nodup x 0), ?_⟩
  rw [← h1]; exact st_srt _
theorem lev_syms (base : List C) : ∀ j, ∀ y ∈ lev base j, ∀ s ∈ y.2, s ∈ syms base
  | 0, y, hy, _, _ => by simp [lev] at hy
  | j + 1, y, hy, s, hs => by
    rcases List.mem_append.1 (st_mem.1 hy) with e | e
    · exact List.mem_flatMap.2 ⟨y, e, hs⟩
    · have hp : ∀ l : List C, (∀ y ∈ l, ∀ s ∈ y.2, s ∈ syms base) → ∀ y ∈ pairs l, ∀ s ∈ y.2, s ∈ syms base := by
        intro l
        induction l using pairs.induct with
        | case1 a b l ih =>
          intro hl y hy s hs
          rcases List.mem_cons.1 hy with e | e
          · subst e
            rcases List.mem_append.1 (show s ∈ a.2 ++ b.2 from hs) with q | q
            · exact hl a (by simp) s q
            · exact hl b (by simp) s q
          · exact ih (fun z hz => hl z (by simp [hz])) y e s hs
        | case2 l hl =>
          intro _ y hy
          unfold pairs at hy; split at hy
          · exact absurd rfl (hl _ _ _)
          · simp at hy
      exact hp _ (fun y hy s hs => lev_syms base j y hy s hs) y e s hs
/-- The answer. -/
def itemsR (x : List Int) (m : Nat) : List Int :=
  if (coinsF x 0).length = 1 then symsF x 0 else syms ((lev (st ((coinsF x 0).map toC)) m).take (2 * (coinsF x 0).length - 2))
def badA (x : List Int) (m : Int) : Prop := 320 < x.length ∨ m < 1 ∨ 15 < m
instance (x : List Int) (m : Int) : Decidable (badA x m) := by unfold badA; infer_instance
theorem bad3 (x : List Int) (m : Int) : ((some (decide (320 < ((List.length x : Nat) : Int)))).bind fun x3056 => (bif x3056 then some true else (bif (decide (m < 1)) then some true else some (decide (15 < m))))) = some (decide (badA x m)) := by
  simp only [Option.bind_some, bd]
  by_cases h1 : 320 < x.length
  · rw [if_pos (by omega), dt (show badA x m from .inl h1)]
  · rw [if_neg (by omega)]
    by_cases h2 : m < 1
    · rw [if_pos h2, dt (show badA x m from .inr (.inl h2))]
    · rw [if_neg h2]
      by_cases h3 : 15 < m
      · rw [dt h3, dt (show badA x m from .inr (.inr h3))]
      · rw [df h3, df (show ¬ badA x m by unfold badA; omega)]
theorem coins_bd (x : List Int) (hx : x.length ≤ 320) (hb : ¬ badF x) : ∀ (n i : Nat), x.length - i ≤ n → ∀ c ∈ coinsF (x.drop i) i, 0 ≤ c.ffreq ∧ c.ffreq ≤ 1073741824 ∧ c.fsyms.length ≤ 1 := by
  intro n
  induction n with
  | zero => intro i h c hc; rw [List.drop_of_length_le (by omega)] at hc; simp [coinsF] at hc
  | succ n ih =>
    intro i h c hc
    by_cases hi : i < x.length
    · rw [List.drop_eq_getElem_cons hi, coinsF_cons] at hc
      have hni : ¬ (x[i] < 0 ∨ 1073741824 < x[i]) := fun q => hb ⟨x[i], List.getElem_mem hi, q⟩
      split at hc
      · rcases List.mem_cons.1 hc with e | e
        · subst e; exact ⟨by show 0 ≤ x[i]; omega, by show x[i] ≤ _; omega, by simp⟩
        · exact ih (i + 1) (by omega) c e
      · exact ih (i + 1) (by omega) c hc
    · rw [List.drop_of_length_le (by omega)] at hc; simp [coinsF] at hc
theorem lengths_bad (k : Nat) (hk : 210000 ≤ k) (x : List Int) (m : Int) (h : badA x m ∨ badF x ∨ 2 ^ m.toNat < (coinsF x 0).length) : g_huff_Lengths k x m = some (Sum.inl ([], 1)) := by
  unfold g_huff_Lengths
  rw [bad3]
  simp only [Option.bind_some, bd]
  by_cases h1 : badA x m
  · rw [if_pos h1]
  · rw [if_neg h1]
    have h1' := h1
    unfold badA at h1'
    have e := len_l0 k x (by omega) k 0 [] (by omega) (by omega) (by simp)
    rw [show ((0 : Nat) : Int) = 0 from rfl, List.drop_zero] at e
    rw [e]
    simp only [Option.bind_some]
    by_cases h2 : badF x
    · rw [if_pos h2]
    · rw [if_neg h2]
      have h3 : 2 ^ m.toNat < (coinsF x 0).length := by
        rcases h with q | q | q
        · exact absurd q h1
        · exact absurd q h2
        · exact q
      simp only [List.nil_append]
      have es : shlI .i64 1 m = ((2 ^ m.toNat : Nat) : Int) := by
        have := shl1b (b := m.toNat) (by omega)
        rw [show ((m.toNat : Nat) : Int) = m by omega] at this
        exact this
      rw [if_pos (by omega), es, if_pos (by omega)]
theorem lengths_ok (k : Nat) (hk : 210000 ≤ k) (x : List Int) (m : Int) (h1 : ¬ badA x m) (h2 : ¬ badF x) (h3 : (coinsF x 0).length ≤ 2 ^ m.toNat) : g_huff_Lengths k x m = some (Sum.inl (outOf x.length (itemsR x m.toNat), 0)) := by
  unfold g_huff_Lengths
  rw [bad3]
  simp only [Option.bind_some, bd]
  rw [if_neg h1]
  unfold badA at h1
  have e := len_l0 k x (by omega) k 0 [] (by omega) (by omega) (by simp)
  rw [show ((0 : Nat) : Int) = 0 from rfl, List.drop_zero] at e
  rw [e]
  simp only [Option.bind_some]
  rw [if_neg h2]
  simp only [List.nil_append]
  have es : shlI .i64 1 m = ((2 ^ m.toNat : Nat) : Int) := by
    have := shl1b (b := m.toNat) (by omega)
    rw [show ((m.toNat : Nat) : Int) = m by omega] at this
    exact this
  rw [if_pos (by omega), es, if_neg (by omega), if_pos (by omega), Int.toNat_natCast]
  have hcl := coinsF_len x 0
  have hform := coins_form x x.length 0 (by omega)
  rw [List.drop_zero] at hform
  unfold itemsR
  by_cases h4 : (coinsF x 0).length = 1
  · rw [if_pos (by omega), if_pos h4]
    obtain ⟨c, hc⟩ := List.length_eq_one_iff.1 h4
    obtain ⟨s, hs⟩ := List.length_eq_one_iff.1 (show (symsF x 0).length = 1 by omega)
    rw [hc, hs] at hform
    have hcs : c.fsyms = [s] := by
      have := (List.cons.inj hform).1
      exact (Prod.mk.inj this).2
    obtain ⟨j, ej, _, hj, _⟩ := (symsF_in x 0 s).1 (by rw [hs]; simp)
    rw [hc, show ix [c] 0 = some c from rfl]
    simp only [Option.bind_some]
    rw [hcs, show ix [s] 0 = some s from rfl]
    simp only [Option.bind_some]
    have := outOf_set (N := x.length) (l := []) (s := s) (by omega) (by omega)
    rw [outOf_nil] at this
    rw [ix_int (by omega) (by rw [List.length_replicate]; omega)]
    simp only [Option.bind_some]
    rw [hs]
    rw [show (((List.count s []) : Nat) : Int) + 1 = 1 from by simp] at this
    rw [this]; simp
  · rw [if_neg (by omega), if_neg h4]
    obtain ⟨B, b1, b2⟩ := sortStable k (coinsF x 0) hk (by omega)
    rw [b1]
    simp only [Option.bind_some]
    have eB : B.map toC = st ((coinsF x 0).map toC) := st_of (m := toC) (fun _ => rfl) b2.srt b2.sim
    have hcb := coins_bd x (by omega) h2 x.length 0 (by omega)
    rw [List.drop_zero] at hcb
    have bB : ∀ c ∈ B, 0 ≤ c.ffreq ∧ c.ffreq ≤ 1073741824 ∧ c.fsyms.length ≤ 1 := fun c hc => hcb c (b2.sim.symm.mem hc)
    obtain ⟨L, l1, l2⟩ := len_l1 k hk B (by rw [b2.len]; omega) bB m.toNat (by omega) k 0 [] (by omega) (by omega) rfl
    rw [show ((m.toNat : Nat) : Int) = m by omega, show ((0 : Nat) : Int) = 0 from rfl] at l1
    rw [l1]
    simp only [Option.bind_some]
    have lBm : (B.map toC).length = (coinsF x 0).length := by rw [List.length_map, b2.len]
    have hmany := lev_many (B.map toC) m.toNat (by rw [lBm]; exact h3) m.toNat (Nat.le_refl _)
    rw [show m.toNat + 1 - m.toNat = 1 by omega, ← l2, List.length_map, List.length_map, b2.len] at hmany
    have hTL : 2 * B.length - 2 ≤ L.length := by rw [b2.len]; omega
    have hcx : ∀ c ∈ L, c.fsyms.length ≤ 32768 ∧ ∀ s ∈ c.fsyms, 0 ≤ s ∧ s < (x.length : Int) := by
      intro c hc
      have hm : toC c ∈ lev (B.map toC) m.toNat := by rw [← l2]; exact List.mem_map_of_mem hc
      have hbd := lev_bd (B.map toC) (by intro y hy; obtain ⟨c, hc, rfl⟩ := List.mem_map.1 hy; exact bB c hc) m.toNat
      have p1 : 2 ^ m.toNat ≤ 32768 := Nat.le_trans (Nat.pow_le_pow_right (by decide) (show m.toNat ≤ 15 by omega)) (by decide)
      refine ⟨Nat.le_trans (hbd.1 _ hm).2.2 p1, fun s hs => ?_⟩
      have := lev_syms (B.map toC) m.toNat _ hm s hs
      obtain ⟨y, hy, hsy⟩ := List.mem_flatMap.1 this
      rw [eB] at hy
      have := st_mem.1 hy
      rw [hform] at this
      obtain ⟨s', hs', rfl⟩ := List.mem_map.1 this
      have : s = s' := by simpa using hsy
      subst this
      obtain ⟨j, ej, _, hj, _⟩ := (symsF_in x 0 s).1 hs'
      omega
    have := len_l3 k x.length hk (by omega) B L (by rw [b2.len]; omega) (2 * B.length - 2) rfl hTL hcx k [] 0 (by omega) (by rw [b2.len]; omega) (by simp)
    rw [show ((0 : Nat) : Int) = 0 from rfl, outOf_nil] at this
    rw [this]
    simp only [Option.bind_some, List.nil_append, List.drop_zero]
    rw [List.map_take, l2, eB, b2.len]
end Go.Proofs.Ytjahhkhpchiojaa.W
namespace Go.Proofs.Ytjahhkhpchiojaa.W
open Go Go.Q Go.Proofs Go.Proofs.Ytjahhkhpchiojaa.HB
set_option linter.unusedVariables false
set_option linter.unusedSimpArgs false
abbrev Rc := S_quireref02_coin
abbrev kr : Rc → Int := fun c => c.ffreq
abbrev toR : Rc → C := fun c => (c.ffreq, c.fsyms)
theorem ref_l1 (k : Nat) (a : List Rc) (i : Nat) (hi : i < a.length) (out : List Rc) (ho : out.length ≤ 1000000) (hs : Srt kr out) : ∀ (n : Nat) (A B : List Rc), out = A ++ B → A.length < n → (∀ y ∈ B, a[i].ffreq < y.ffreq) →
    ∃ A' B', g_quireref02_sorted_l1 k a (i : Int) out n (A.length : Int) = some ((A'.length : Nat) : Int) ∧ out = A' ++ B' ∧ (∀ y ∈ B', a[i].ffreq < y.ffreq) ∧ (∀ y ∈ A', y.ffreq ≤ a[i].ffreq) := by
  intro n
  induction n with
  | zero => intro A B _ h; omega
  | succ n ih =>
    intro A B hd hn hB
    rw [g_quireref02_sorted_l1.eq_2]
    simp only [bd]
    have hl := congrArg List.length hd
    rw [List.length_append] at hl
    rcases List.eq_nil_or_concat A with e | ⟨A0, y, e⟩
    · subst e
      refine ⟨[], B, ?_, hd, hB, by simp⟩
      rw [if_neg (by simp)]; rfl
    · rw [List.concat_eq_append] at e; subst e
      have hlen : (A0 ++ [y]).length = A0.length + 1 := by simp
      rw [hlen] at hn hl ⊢
      rw [if_pos (by omega), wi (by omega) (by omega), show ((A0.length + 1 : Nat) : Int) - 1 = (A0.length : Int) by omega]
      have ei : ix out (A0.length : Int) = some y := by rw [hd, show A0 ++ [y] ++ B = A0 ++ y :: B by simp]; exact ix_at A0 y B rfl
      rw [ei, ix_nat hi]
      simp only [Option.bind_some, bd]
      by_cases hc : a[i].ffreq < y.ffreq
      · rw [if_pos hc]
        exact ih A0 (y :: B) (by rw [hd]; simp) (by omega) (by
          intro z hz
          rcases List.mem_cons.1 hz with q | q
          · rw [q]; exact hc
          · exact hB z q)
      · rw [if_neg hc]
        refine ⟨A0 ++ [y], B, by rw [hlen], hd, hB, ?_⟩
        rw [hd] at hs
        have h1 := (Srt.sub (Srt.sub hs).1)
        intro z hz
        rcases List.mem_append.1 hz with q | q
        · exact Int.le_trans (h1.2.2 z q y (by simp)) (Int.not_lt.1 hc)
        · rw [List.mem_singleton] at q; rw [q]; exact Int.not_lt.1 hc
theorem ref_l0 (k : Nat) (a : List Rc) (ha : a.length ≤ 100000) (hk : a.length < k) : ∀ (n i : Nat) (out : List Rc), i ≤ a.length → a.length - i < n → Srt kr out → Sim kr (a.take i) out → out.length = i →
    ∃ M, g_quireref02_sorted_l0 k a n (i : Int) out = some M ∧ Srt kr M ∧ Sim kr a M ∧ M.length = a.length := by
  intro n
  induction n with
  | zero => intro i out _ h; omega
  | succ n ih =>
    intro i out hi hn hs hsim ho
    rw [g_quireref02_sorted_l0.eq_2]
    simp only [bd, Option.bind_some]
    by_cases h : i < a.length
    · rw [if_pos (by omega)]
      obtain ⟨A, B, e, hd, hB, hA⟩ := ref_l1 k a i h out (by omega) hs k out [] (by simp) (by omega) (by simp)
      rw [e]
      simp only [Option.bind_some]
      have hl := congrArg List.length hd
      rw [List.length_append] at hl
      have t1 : List.take ((A.length : Int).toNat) out = A := by rw [hd, Int.toNat_natCast]; simp
      have t2 : List.drop ((A.length : Int).toNat) (List.take ((out.length : Int).toNat) out) = B := by rw [Int.toNat_natCast, Int.toNat_natCast, List.take_of_length_le (Nat.le_refl _), hd]; simp
      have t3 : List.drop ((0 : Int).toNat) A = A := rfl
      rw [t1, t2, t3, if_pos (by omega)]
      rw [if_pos (by simp; omega), ix_nat h]
      simp only [Option.bind_some]
      rw [if_pos (by simp; omega), if_pos (by omega), if_pos (by simp; omega), wi (by omega) (by omega)]
      have := ih (i + 1) ([] ++ A ++ [⟨a[i].ffreq, a[i].fsyms⟩] ++ B) (by omega) (by omega) ?_ ?_ (by simp; omega)
      · exact this
      · rw [hd] at hs
        have h1 := Srt.sub hs
        rw [List.nil_append, List.append_assoc]
        refine Srt.mk h1.1 (List.pairwise_cons.2 ⟨fun y hy => Int.le_of_lt (hB y hy), h1.2.1⟩) ?_
        intro x hx y hy
        rcases List.mem_cons.1 hy with q | q
        · rw [q]; exact hA x hx
        · exact h1.2.2 x hx y q
      · rw [List.take_add_one, List.getElem?_eq_getElem h]
        show Sim kr (a.take i ++ [a[i]]) _
        refine Sim.trans (Sim.app hsim (Sim.refl _)) ?_
        rw [hd, List.nil_append, List.append_assoc, List.append_assoc]
        exact Sim.app (Sim.refl _) (Sim.swap fun x hx y hy q => by rw [List.mem_singleton] at hy; subst hy; exact absurd q.symm (Int.ne_of_lt (hB x hx)))
    · rw [if_neg (by omega)]
      obtain rfl : i = a.length := by omega
      exact ⟨out, rfl, hs, by simpa using hsim, ho⟩
theorem ref_sorted (k : Nat) (a : List Rc) (ha : a.length ≤ 100000) (hk : a.length < k) : ∃ M, g_quireref02_sorted k a = some M ∧ M.map toR = st (a.map toR) ∧ M.length = a.length := by
  unfold g_quireref02_sorted
  obtain ⟨M, m1, m2, m3, m4⟩ := ref_l0 k a ha hk k 0 [] (by omega) (by omega) List.Pairwise.nil (Sim.refl _) rfl
  rw [show ((0 : Nat) : Int) = 0 from rfl] at m1
  rw [m1]
  exact ⟨M, rfl, st_of (m := toR) (fun _ => rfl) m2 m3, m4⟩
def coinsR : List Int → Nat → List Rc
  | [], _ => []
  | f :: l, i => if 0 < f then ⟨f, [(i : Int)]⟩ :: coinsR l (i + 1) else coinsR l (i + 1)
theorem coinsR_cons (f : Int) (l : List Int) (i : Nat) : coinsR (f :: l) i = if 0 < f then ⟨f, [(i : Int)]⟩ :: coinsR l (i + 1) else coinsR l (i + 1) := rfl
theorem coinsR_map : ∀ (l : List Int) (i : Nat), (coinsR l i).map toR = (coinsF l i).map toC
  | [], _ => rfl
  | f :: l, i => by rw [coinsR_cons, coinsF_cons]; split <;> simp [coinsR_map l (i + 1)]
theorem coinsR_len (l : List Int) (i : Nat) : (coinsR l i).length = (coinsF l i).length := by simpa using congrArg List.length (coinsR_map l i)
theorem least_l0 (k : Nat) (x : List Int) (hx : x.length ≤ 320) : ∀ (n i : Nat) (acc : List Rc), i ≤ x.length → x.length - i < n → acc.length ≤ i →
    g_quireref02_Least_l0 k x n (i : Int) acc = some (acc ++ coinsR (x.drop i) i) := by
  intro n
  induction n with
  | zero => intro i acc _ h; omega
  | succ n ih =>
    intro i acc hi hn ha
    rw [g_quireref02_Least_l0.eq_2]
    simp only [bd, Option.bind_some]
    by_cases h : i < x.length
    · rw [if_pos (by omega), ix_nat h, List.drop_eq_getElem_cons h, coinsR_cons]
      simp only [Option.bind_some]
      generalize x[i] = f
      by_cases hf : 0 < f
      · rw [if_pos hf, if_pos hf, if_pos (by simp; omega)]
        simp only [Option.bind_some]
        rw [wi (by omega) (by omega), show (i : Int) + 1 = ((i + 1 : Nat) : Int) by omega, ih (i + 1) _ (by omega) (by omega) (by simp; omega)]
        simp
      · rw [if_neg hf, if_neg hf]
        simp only [Option.bind_some]
        rw [wi (by omega) (by omega), show (i : Int) + 1 = ((i + 1 : Nat) : Int) by omega, ih (i + 1) _ (by omega) (by omega) (by omega)]
    · rw [if_neg (by omega), List.drop_of_length_le (by omega)]
      simp [coinsR]
def prsR : List Rc → List Rc
  | x :: y :: l => ⟨x.ffreq + y.ffreq, x.fsyms ++ y.fsyms⟩ :: prsR l
  | _ => []
theorem prsR_map : ∀ l : List Rc, (prsR l).map toR = pairs (l.map toR)
  | [] => rfl
  | [_] => rfl
  | x :: y :: l => by simp only [prsR, List.map_cons, pairs, prsR_map l]
theorem least_l2 (k : Nat) (L : List Rc) (hL : L.length ≤ 100000) (hb : ∀ x ∈ L, 0 ≤ x.ffreq ∧ x.ffreq ≤ 1125899906842624 ∧ x.fsyms.length ≤ 100000) : ∀ (n : Nat) (dn rest acc : List Rc), L = dn ++ rest → rest.length < n → acc.length + rest.length ≤ 1000000 →
    g_quireref02_Least_l2 k L n (dn.length : Int) acc = some (acc ++ prsR rest) := by
  intro n
  induction n with
  | zero => intro dn rest acc _ h; omega
  | succ n ih =>
    intro dn rest acc hd hn hl
    subst hd
    rw [g_quireref02_Least_l2.eq_2]
    simp only [bd, Option.bind_some]
    rw [List.length_append] at hL
    rw [wi (n := (dn.length : Int) + 1) (by omega) (by omega)]
    match rest, hn, hl, hb with
    | [], _, _, _ => rw [if_neg (by simp; omega)]; simp [prsR]
    | [x], _, _, _ => rw [if_neg (by simp)]; simp [prsR]
    | x :: y :: r, hn, hl, hb =>
      simp only [List.length_cons] at hn hl hL
      rw [if_pos (by simp; omega), ix_at dn x (y :: r) rfl, show dn ++ x :: y :: r = (dn ++ [x]) ++ y :: r by simp, ix_at (dn ++ [x]) y r (by simp)]
      simp only [Option.bind_some]
      have b1 := hb x (by simp); have b2 := hb y (by simp)
      rw [wi (n := x.ffreq + y.ffreq) (by omega) (by omega), if_pos (by simp; omega), if_pos (by simp; omega), if_pos (by simp; omega), wi (n := (dn.length : Int) + 2) (by omega) (by omega)]
      have := ih (dn ++ [x] ++ [y]) r (acc ++ [⟨x.ffreq + y.ffreq, x.fsyms ++ y.fsyms⟩]) (by simp) (by omega) (by simp; omega)
      rw [show (dn.length : Int) + 2 = ((dn ++ [x] ++ [y]).length : Int) by simp only [List.length_append, List.length_cons, List.length_nil]; omega, show dn ++ [x] ++ y :: r = dn ++ x :: y :: r by simp, List.nil_append, this]
      simp [prsR]
theorem least_l1 (k : Nat) (hk : 210000 ≤ k) (base : List Rc) (hB : base.length ≤ 1000) (hs : Srt key (base.map toR)) (hb : ∀ x ∈ base, 0 ≤ x.ffreq ∧ x.ffreq ≤ 1073741824 ∧ x.fsyms.length ≤ 1) (m : Nat) (hm : m ≤ 15) : ∀ (n j : Nat) (L : List Rc), j ≤ m → m - j < n → L.map toR = lev (base.map toR) j →
    ∃ M, g_quireref02_Least_l1 k (m : Int) base n L (j : Int) = some M ∧ M.map toR = lev (base.map toR) m := by
  have hbd := lev_bd (base.map toR) (by intro x hx; obtain ⟨c, hc, rfl⟩ := List.mem_map.1 hx; exact hb c hc)
  intro n
  induction n with
  | zero => intro j L _ h; omega
  | succ n ih =>
    intro j L hj hn hL
    rw [g_quireref02_Least_l1.eq_2]
    simp only [bd]
    by_cases h : j < m
    · rw [if_pos (by omega)]
      obtain ⟨h1, h2⟩ := hbd j
      have lL : L.length ≤ 2000 := by
        have := congrArg List.length hL; rw [List.length_map] at this; rw [this]; rw [List.length_map] at h2; omega
      have p1 : 2 ^ j ≤ 32768 := Nat.le_trans (Nat.pow_le_pow_right (by decide) (show j ≤ 15 by omega)) (by decide)
      have bL : ∀ x ∈ L, 0 ≤ x.ffreq ∧ x.ffreq ≤ 1125899906842624 ∧ x.fsyms.length ≤ 100000 := by
        intro x hx
        have := h1 (toR x) (by rw [← hL]; exact List.mem_map_of_mem hx)
        have e1 : (toR x).1 = x.ffreq := rfl
        have e2 : (toR x).2 = x.fsyms := rfl
        rw [e1, e2] at this
        exact ⟨this.1, by omega, by omega⟩
      have := least_l2 k L (by omega) bL k [] L [] rfl (by omega) (by simp; omega)
      rw [show (([] : List Rc).length : Int) = 0 from rfl] at this
      rw [this]
      simp only [Option.bind_some, List.nil_append]
      have lp : (prsR L).length ≤ 2000 := by
        have := congrArg List.length (prsR_map L); rw [List.length_map, pairs_len, List.length_map] at this; omega
      rw [if_pos (by simp; omega), if_pos (by omega)]
      obtain ⟨M, m1, m2, m3⟩ := ref_sorted k (base ++ prsR L) (by simp; omega) (by simp; omega)
      rw [m1]
      simp only [Option.bind_some]
      have hM : M.map toR = lev (base.map toR) (j + 1) := by
        rw [m2, List.map_append, prsR_map, hL]; rfl
      rw [wi (by omega) (by omega)]
      exact ih (j + 1) M (by omega) (by omega) hM
    · rw [if_neg (by omega)]
      obtain rfl : j = m := by omega
      exact ⟨L, rfl, hL⟩
theorem Fq_at {x : List Int} (hpos : ∀ f ∈ x, 0 ≤ f) {i : Nat} (h : i < x.length) : Fq x (i : Int) = x[i] := by
  unfold Fq
  have : x.getD (i : Int).toNat 0 = x[i] := by simp [List.getD_eq_getElem?_getD, List.getElem?_eq_getElem h]
  have := hpos x[i] (List.getElem_mem h)
  split <;> omega
theorem least_l4 (k : Nat) (x : List Int) (hpos : ∀ f ∈ x, 0 ≤ f ∧ f ≤ 1073741824) (L : List Rc) (j : Nat) (hj : j < L.length) (hc : L[j].fsyms.length ≤ 100000) (hs : ∀ s ∈ L[j].fsyms, 0 ≤ s ∧ s < (x.length : Int)) : ∀ (n : Nat) (dn rest : List Int) (a : Int), L[j].fsyms = dn ++ rest → rest.length < n → 0 ≤ a → a + 1073741824 * rest.length ≤ 1152921504606846976 →
    g_quireref02_Least_l4 k x L (j : Int) n a (dn.length : Int) = some (a + (rest.map (Fq x)).sum) := by
  intro n
  induction n with
  | zero => intro dn rest a _ h; omega
  | succ n ih =>
    intro dn rest a hd hn h0 hl
    rw [g_quireref02_Least_l4.eq_2]
    rw [ix_nat hj]
    simp only [bd, Option.bind_some]
    have hlen := congrArg List.length hd
    rw [List.length_append] at hlen
    cases rest with
    | nil => rw [if_neg (by simp at hlen; omega)]; simp
    | cons s r =>
      simp only [List.length_cons] at hn hl hlen
      have q := hs s (by rw [hd]; simp)
      rw [if_pos (by omega), hd, ix_at dn s r rfl]
      simp only [Option.bind_some]
      rw [ix_int q.1 q.2]
      simp only [Option.bind_some]
      have hf := Fq_at (x := x) (fun f hf => (hpos f hf).1) (i := s.toNat) (by omega)
      rw [show ((s.toNat : Nat) : Int) = s by omega] at hf
      have hb := hpos (x[s.toNat]'(by omega)) (List.getElem_mem _)
      rw [← hf] at hb ⊢
      rw [wi (n := a + Fq x s) (by omega) (by omega), wi (by omega) (by omega)]
      have := ih (dn ++ [s]) r (a + Fq x s) (by simp [hd]) (by omega) (by omega) (by omega)
      rw [show (dn.length : Int) + 1 = ((dn ++ [s]).length : Int) by simp, this]
      simp only [List.map_cons, List.sum_cons, Int.add_assoc]
theorem least_l3 (k : Nat) (hk : 210000 ≤ k) (x : List Int) (hpos : ∀ f ∈ x, 0 ≤ f ∧ f ≤ 1073741824) (base L : List Rc) (hB : base.length ≤ 1000) (T : Nat) (hT : T = 2 * base.length - 2) (hTL : T ≤ L.length) (hL : L.length ≤ 2000) (hb : ∀ c ∈ L, c.fsyms.length ≤ 32768 ∧ ∀ s ∈ c.fsyms, 0 ≤ s ∧ s < (x.length : Int)) : ∀ (n : Nat) (a : Int) (i : Nat), i ≤ T → T - i < n → 0 ≤ a → a ≤ 35184372088832 * i → 
    g_quireref02_Least_l3 k x base L n a (i : Int) = some (a + ((syms (((L.take T).drop i).map toR)).map (Fq x)).sum) := by
  intro n
  induction n with
  | zero => intro l i _ h; omega
  | succ n ih =>
    intro a i hi hn h0 hl
    rw [g_quireref02_Least_l3.eq_2]
    simp only [bd, Option.bind_some]
    rw [wi (n := 2 * (base.length : Int)) (by omega) (by omega), wi (n := 2 * (base.length : Int) - 2) (by omega) (by omega)]
    by_cases h : i < T
    · have hiL : i < L.length := by omega
      rw [if_pos (by omega)]
      rw [dt (show (i : Int) < (L.length : Int) by omega)]
      simp only [Option.bind_some, bt]
      have q := hb L[i] (List.getElem_mem hiL)
      have := least_l4 k x hpos L i hiL (by omega) q.2 k [] L[i].fsyms a rfl (by omega) h0 (by omega)
      rw [show (([] : List Int).length : Int) = 0 from rfl] at this
      rw [this]
      simp only [Option.bind_some]
      have hsum : ∀ l : List Int, (∀ s ∈ l, 0 ≤ s ∧ s < (x.length : Int)) → 0 ≤ (l.map (Fq x)).sum ∧ (l.map (Fq x)).sum ≤ 1073741824 * l.length := by
        intro l
        induction l with
        | nil => intro _; simp
        | cons s l ih =>
          intro hl
          have q := hl s (by simp)
          have hf := Fq_at (x := x) (fun f hf => (hpos f hf).1) (i := s.toNat) (by omega)
          rw [show ((s.toNat : Nat) : Int) = s by omega] at hf
          have hb := hpos (x[s.toNat]'(by omega)) (List.getElem_mem _)
          rw [← hf] at hb
          have := ih fun s hs => hl s (by simp [hs])
          simp only [List.map_cons, List.sum_cons, List.length_cons]
          omega
      have hq := hsum _ q.2
      rw [wi (by omega) (by omega)]
      have := ih (a + (L[i].fsyms.map (Fq x)).sum) (i + 1) (by omega) (by omega) (by omega) (by omega)
      rw [show (i : Int) + 1 = ((i + 1 : Nat) : Int) by omega, this]
      have e : (L.take T).drop i = L[i] :: (L.take T).drop (i + 1) := by
        rw [List.drop_eq_getElem_cons (by simp; omega)]; simp
      rw [e]
      simp only [List.map_cons, List.flatMap_cons, List.map_append, List.sum_append, Int.add_assoc]
    · rw [if_neg (by omega)]
      obtain rfl : i = T := by omega
      have : (L.take i).drop i = [] := List.drop_eq_nil_of_le (by simp; omega)
      rw [this]; simp [bf]
/-- The document's least cost is what the program's symbols weigh. -/
theorem least_eq (k : Nat) (hk : 210000 ≤ k) (x : List Int) (m : Int) (h1 : ¬ badA x m) (h2 : ¬ badF x) (h3 : (coinsF x 0).length ≤ 2 ^ m.toNat) : g_quireref02_Least k x m = some (((itemsR x m.toNat).map (Fq x)).sum) := by
  unfold badA at h1
  have hpos : ∀ f ∈ x, 0 ≤ f ∧ f ≤ 1073741824 := fun f hf => by
    refine ⟨Int.not_lt.1 fun q => h2 ⟨f, hf, .inl q⟩, Int.not_lt.1 fun q => h2 ⟨f, hf, .inr q⟩⟩
  unfold g_quireref02_Least
  have e := least_l0 k x (by omega) k 0 [] (by omega) (by omega) (by simp)
  rw [show ((0 : Nat) : Int) = 0 from rfl, List.drop_zero, List.nil_append] at e
  rw [e]
  simp only [Option.bind_some, bd]
  have hcl := coinsF_len x 0
  have hrl := coinsR_len x 0
  have hform := coins_form x x.length 0 (by omega)
  rw [List.drop_zero] at hform
  have hcb := coins_bd x (by omega) h2 x.length 0 (by omega)
  rw [List.drop_zero] at hcb
  unfold itemsR
  by_cases h0 : (coinsF x 0).length = 0
  · rw [if_pos (by omega), if_neg (by omega), h0]; simp
  · rw [if_neg (by omega)]
    by_cases h4 : (coinsF x 0).length = 1
    · rw [if_pos (by omega), if_pos h4]
      obtain ⟨c, hc⟩ := List.length_eq_one_iff.1 (show (coinsR x 0).length = 1 by omega)
      obtain ⟨s, hs⟩ := List.length_eq_one_iff.1 (show (symsF x 0).length = 1 by omega)
      rw [← coinsR_map, hc, hs] at hform
      have hcs : c.ffreq = Fq x s := by
        have := (List.cons.inj hform).1
        exact (Prod.mk.inj this).1
      rw [hc, hs, show ix [c] 0 = some c from rfl]
      simp only [Option.bind_some, hcs]; simp
    · rw [if_neg (by omega), if_neg h4]
      obtain ⟨B, b1, b2, b3⟩ := ref_sorted k (coinsR x 0) (by omega) (by omega)
      rw [b1]
      simp only [Option.bind_some]
      rw [coinsR_map] at b2
      have sB : Srt key (B.map toR) := by rw [b2]; exact st_srt _
      have bB : ∀ c ∈ B, 0 ≤ c.ffreq ∧ c.ffreq ≤ 1073741824 ∧ c.fsyms.length ≤ 1 := by
        intro c hc
        have : toR c ∈ st ((coinsF x 0).map toC) := by rw [← b2]; exact List.mem_map_of_mem hc
        obtain ⟨d, hd, e⟩ := List.mem_map.1 (st_mem.1 this)
        have q := hcb d hd
        have e1 : d.ffreq = c.ffreq := (Prod.mk.inj e).1
        have e2 : d.fsyms = c.fsyms := (Prod.mk.inj e).2
        rw [← e1, ← e2]; exact q
      have eL1 : B.map toR = lev (B.map toR) 1 := by
        show _ = st (B.map toR ++ pairs [])
        rw [show pairs [] = [] from rfl, List.append_nil]
        exact st_eq sB (Sim.refl _)
      obtain ⟨L, l1, l2⟩ := least_l1 k hk B (by omega) sB bB m.toNat (by omega) k 1 B (by omega) (by omega) eL1
      rw [show ((m.toNat : Nat) : Int) = m by omega, show ((1 : Nat) : Int) = 1 from rfl] at l1
      rw [l1]
      simp only [Option.bind_some]
      have lB : B.length = (coinsF x 0).length := by omega
      have hmany := lev_many (B.map toR) m.toNat (by rw [List.length_map, lB]; exact h3) m.toNat (Nat.le_refl _)
      rw [show m.toNat + 1 - m.toNat = 1 by omega, ← l2, List.length_map, List.length_map, lB] at hmany
      have hbd := lev_bd (B.map toR) (by intro y hy; obtain ⟨c, hc, rfl⟩ := List.mem_map.1 hy; exact bB c hc) m.toNat
      have hL2 : L.length ≤ 2000 := by
        have := hbd.2; rw [← l2, List.length_map, List.length_map] at this; omega
      have hcx : ∀ c ∈ L, c.fsyms.length ≤ 32768 ∧ ∀ s ∈ c.fsyms, 0 ≤ s ∧ s < (x.length : Int) := by
        intro c hc
        have hm : toR c ∈ lev (B.map toR) m.toNat := by rw [← l2]; exact List.mem_map_of_mem hc
        have p1 : 2 ^ m.toNat ≤ 32768 := Nat.le_trans (Nat.pow_le_pow_right (by decide) (show m.toNat ≤ 15 by omega)) (by decide)
        refine ⟨Nat.le_trans (hbd.1 _ hm).2.2 p1, fun s hs => ?_⟩
        have := lev_syms (B.map toR) m.toNat _ hm s hs
        obtain ⟨y, hy, hsy⟩ := List.mem_flatMap.1 this
        rw [b2] at hy
        have := st_mem.1 hy
        rw [hform] at this
        obtain ⟨s', hs', rfl⟩ := List.mem_map.1 this
        have : s = s' := by simpa using hsy
        subst this
        obtain ⟨j, ej, _, hj, _⟩ := (symsF_in x 0 s).1 hs'
        omega
      have := least_l3 k hk x hpos B L (by omega) (2 * B.length - 2) rfl (by omega) hL2 hcx k 0 0 (by omega) (by omega) (by omega) (by omega)
      rw [show ((0 : Nat) : Int) = 0 from rfl] at this
      rw [this]
      simp only [Option.bind_some, Int.zero_add, List.drop_zero]
      rw [List.map_take, l2, b2, lB]
end Go.Proofs.Ytjahhkhpchiojaa.W
namespace Go.Proofs.Ytjahhkhpchiojaa.W
open Go Go.Q Go.Proofs Go.Proofs.Ytjahhkhpchiojaa.HB
set_option linter.unusedVariables false
set_option linter.unusedSimpArgs false
set_option linter.unusedSectionVars false
theorem sum_perm {S T : List Int} (h : S.Perm T) (g : Int → Nat) : (S.map g).sum = (T.map g).sum := by
  induction h with
  | nil => rfl
  | cons x _ ih => simp only [List.map_cons, List.sum_cons, ih]
  | swap x y l => simp only [List.map_cons, List.sum_cons]; omega
  | trans _ _ a b => rw [a, b]
/-- The lengths' laws. -/
theorem items_ok (x : List Int) (m : Nat) (hm : 1 ≤ m) (hm2 : m ≤ 15) (h3 : (coinsF x 0).length ≤ 2 ^ m) : (∀ s, (itemsR x m).count s ≤ m) ∧ (∀ s ∈ symsF x 0, 1 ≤ (itemsR x m).count s) ∧ (∀ s, s ∉ symsF x 0 → (itemsR x m).count s = 0) ∧
    ((symsF x 0).length = 0 ∨ (symsF x 0).length = 1 ∧ ((symsF x 0).map fun s => 2 ^ (15 - (itemsR x m).count s)).sum = 16384 ∨ ((symsF x 0).map fun s => 2 ^ (15 - (itemsR x m).count s)).sum = 32768) := by
  have hcl := coinsF_len x 0
  by_cases h4 : (coinsF x 0).length = 1
  · obtain ⟨s, hs⟩ := List.length_eq_one_iff.1 (show (symsF x 0).length = 1 by omega)
    have hi : itemsR x m = [s] := by unfold itemsR; rw [if_pos h4, hs]
    rw [hi, hs]
    refine ⟨fun t => Nat.le_trans List.count_le_length (by simpa using hm), fun t ht => ?_, fun t ht => List.count_eq_zero.2 ht, .inr (.inl ⟨rfl, by simp⟩)⟩
    rw [List.mem_singleton] at ht; subst ht; simp
  · obtain ⟨S, e, hp, hnd, hsrt⟩ := base_form x
    have hlen : S.length = (coinsF x 0).length := by rw [hp.length_eq]; omega
    have hi : ∀ s, (itemsR x m).count s = lenS (Fq x) S m s := by
      intro s; unfold itemsR lenS; rw [if_neg h4, e, hlen]
    by_cases h0 : (coinsF x 0).length = 0
    · have hS : S = [] := List.length_eq_zero_iff.1 (by omega)
      have hz : symsF x 0 = [] := List.length_eq_zero_iff.1 (by omega)
      have hi0 : itemsR x m = [] := by unfold itemsR; rw [if_neg h4, h0]; simp
      rw [hi0, hz]
      exact ⟨fun s => by simp, fun s hs => by simp at hs, fun s _ => by simp, .inl rfl⟩
    · obtain ⟨l1, l2, l3, l4, l5⟩ := lens_ok (F := Fq x) (Fq_nn x) S hnd hsrt m hm (by omega) (by omega)
      refine ⟨fun s => by rw [hi]; exact l2 s, fun s hs => by rw [hi]; exact l3 s (hp.mem_iff.2 hs), fun s hs => by rw [hi]; exact l4 s fun q => hs (hp.mem_iff.1 q), .inr (.inr ?_)⟩
      have := l5 15 hm2
      rw [sum_perm hp] at this
      rw [show (fun s => 2 ^ (15 - (itemsR x m).count s)) = fun s => 2 ^ (15 - lenS (Fq x) S m s) from funext fun s => by rw [hi], this]
section
variable {x I : List Int} (hx : x.length ≤ 320) (hc : ∀ s, I.count s ≤ 15) (h1 : ∀ i (h : i < x.length), 0 < x[i] → 1 ≤ I.count (i : Int)) (h0 : ∀ i (h : i < x.length), ¬ 0 < x[i] → I.count (i : Int) = 0)
include hx hc
theorem right_l0 (k : Nat) : ∀ (n i : Nat), i ≤ x.length → x.length - i < n → g_quireref02_Right_l0 k (outOf x.length I) n (i : Int) = some (Sum.inr ()) := by
  intro n
  induction n with
  | zero => intro i _ h; omega
  | succ n ih =>
    intro i hi hn
    rw [g_quireref02_Right_l0.eq_2]
    simp only [bd, Option.bind_some, outOf_len]
    by_cases h : i < x.length
    · have := hc (i : Int)
      rw [if_pos (by omega), ix_nat (by rw [outOf_len]; exact h), outOf_get h]
      simp only [Option.bind_some]
      rw [if_neg (by omega), df (by omega)]
      simp only [Option.bind_some, bf]
      rw [wi (by omega) (by omega)]
      exact ih (i + 1) (by omega) (by omega)
    · rw [if_neg (by omega)]
include h1 h0
theorem space_l0 (k : Nat) : ∀ (n i a c : Nat), i ≤ x.length → x.length - i < n → a ≤ 32768 * i → c ≤ i →
    g_quireref02_space_l0 k (outOf x.length I) n (a : Int) (c : Int) (i : Int) = some (((a + ((symsF (x.drop i) i).map fun s => 2 ^ (15 - I.count s)).sum : Nat) : Int), ((c + (symsF (x.drop i) i).length : Nat) : Int)) := by
  intro n
  induction n with
  | zero => intro i a c _ h; omega
  | succ n ih =>
    intro i a c hi hn ha hcc
    rw [g_quireref02_space_l0.eq_2]
    simp only [bd, Option.bind_some, outOf_len]
    by_cases h : i < x.length
    · have q := hc (i : Int)
      rw [if_pos (by omega), ix_nat (by rw [outOf_len]; exact h), outOf_get h, List.drop_eq_getElem_cons h, symsF_cons]
      simp only [Option.bind_some]
      have p1 : 2 ^ (15 - I.count (i : Int)) ≤ 32768 := Nat.le_trans (Nat.pow_le_pow_right (by decide) (show 15 - I.count (i : Int) ≤ 15 by omega)) (by decide)
      by_cases hf : 0 < x[i]
      · have := h1 i h hf
        rw [if_pos (by omega), if_pos hf, wi (n := 15 - ((I.count (i : Int) : Nat) : Int)) (by omega) (by omega), show (15 : Int) - ((I.count (i : Int) : Nat) : Int) = ((15 - I.count (i : Int) : Nat) : Int) by omega, wUh, show ((15 - I.count (i : Int) : Nat) : Int) % 18446744073709551616 = ((15 - I.count (i : Int) : Nat) : Int) by omega]
        rw [if_pos (by omega), shl1b (by omega)]
        generalize hpw : 2 ^ (15 - I.count (i : Int)) = pw at *
        rw [wi (n := (a : Int) + (pw : Int)) (by omega) (by omega), wi (n := (c : Int) + 1) (by omega) (by omega), wi (n := (i : Int) + 1) (by omega) (by omega)]
        simp only [Option.bind_some]
        have := ih (i + 1) (a + pw) (c + 1) (by omega) (by omega) (by omega) (by omega)
        rw [show (a : Int) + (pw : Int) = ((a + pw : Nat) : Int) by omega, show (c : Int) + 1 = ((c + 1 : Nat) : Int) by omega, show (i : Int) + 1 = ((i + 1 : Nat) : Int) by omega, this]
        simp only [List.map_cons, List.sum_cons, List.length_cons, Nat.add_assoc, Nat.add_comm 1, hpw]
      · have := h0 i h hf
        rw [if_neg (by omega), if_neg hf]
        simp only [Option.bind_some]
        rw [wi (n := (i : Int) + 1) (by omega) (by omega), show (i : Int) + 1 = ((i + 1 : Nat) : Int) by omega]
        exact ih (i + 1) a c (by omega) (by omega) (by omega) (by omega)
    · rw [if_neg (by omega), List.drop_of_length_le (by omega)]
      simp [symsF]
theorem right_ok (k : Nat) (hk : 400 ≤ k) (hs : (symsF x 0).length = 0 ∨ (symsF x 0).length = 1 ∧ ((symsF x 0).map fun s => 2 ^ (15 - I.count s)).sum = 16384 ∨ ((symsF x 0).map fun s => 2 ^ (15 - I.count s)).sum = 32768) : g_quireref02_Right k (outOf x.length I) = some 0 := by
  unfold g_quireref02_Right g_quireref02_space
  simp only [bd, Option.bind_some, outOf_len]
  rw [if_neg (by omega)]
  have e1 := right_l0 hx hc k k 0 (by omega) (by omega)
  have e2 := space_l0 hx hc h1 h0 k k 0 0 0 (by omega) (by omega) (by omega) (by omega)
  rw [show ((0 : Nat) : Int) = 0 from rfl] at e1 e2
  rw [e1]
  simp only [Option.bind_some]
  rw [e2]
  simp only [Option.bind_some, List.drop_zero, Nat.zero_add]
  by_cases q : ((symsF x 0).map fun s => 2 ^ (15 - I.count s)).sum = 32768
  · rw [if_pos (by omega)]; rfl
  · rw [if_neg (by omega)]
    by_cases w : (symsF x 0).length = 0
    · rw [if_pos (by omega)]; rfl
    · rw [if_neg (by omega)]
      have : (symsF x 0).length = 1 ∧ ((symsF x 0).map fun s => 2 ^ (15 - I.count s)).sum = 16384 := by
        rcases hs with a | a | a
        · exact absurd a w
        · exact a
        · exact absurd a q
      rw [if_pos (by omega), dt (by omega)]; rfl
theorem cost_l0 (hpos : ∀ f ∈ x, 0 ≤ f ∧ f ≤ 1073741824) (k : Nat) : ∀ (n i : Nat) (a : Int), i ≤ x.length → x.length - i < n → 0 ≤ a → a ≤ 17179869184 * i →
    g_quireref02_Cost_l0 k x (outOf x.length I) n a (i : Int) = some (Sum.inr (a + ((symsF (x.drop i) i).map fun s => Fq x s * ((I.count s : Nat) : Int)).sum)) := by
  intro n
  induction n with
  | zero => intro i a _ h; omega
  | succ n ih =>
    intro i a hi hn ha hb
    rw [g_quireref02_Cost_l0.eq_2]
    simp only [bd, Option.bind_some, outOf_len]
    by_cases h : i < x.length
    · have q := hc (i : Int)
      rw [if_pos (by omega), dt (by omega)]
      simp only [Option.bind_some, bt]
      rw [ix_nat h, ix_nat (l := outOf x.length I) (by rw [outOf_len]; exact h), outOf_get h, List.drop_eq_getElem_cons h, symsF_cons]
      simp only [Option.bind_some]
      have hfp := hpos x[i] (List.getElem_mem h)
      have hF := Fq_at (x := x) (fun f hf => (hpos f hf).1) h
      by_cases hf : 0 < x[i]
      · have q1 := h1 i h hf
        rw [if_neg (by omega), df (by omega), if_pos hf]
        simp only [Option.bind_some, bf]
        rw [if_neg (by omega), if_neg (by omega), if_neg (by omega), df (by omega)]
        simp only [Option.bind_some, bf]
        have hmul : 0 ≤ x[i] * ((I.count (i : Int) : Nat) : Int) ∧ x[i] * ((I.count (i : Int) : Nat) : Int) ≤ 1073741824 * 15 := ⟨Int.mul_nonneg hfp.1 (by omega), Int.mul_le_mul hfp.2 (by omega) (by omega) (by omega)⟩
        rw [wi (n := x[i] * ((I.count (i : Int) : Nat) : Int)) (by omega) (by omega), wi (n := a + x[i] * ((I.count (i : Int) : Nat) : Int)) (by omega) (by omega), if_neg (by omega), df (by omega)]
        simp only [Option.bind_some, bf]
        rw [wi (n := (i : Int) + 1) (by omega) (by omega), show (i : Int) + 1 = ((i + 1 : Nat) : Int) by omega, ih (i + 1) _ (by omega) (by omega) (by omega) (by omega)]
        simp only [List.map_cons, List.sum_cons, hF, Int.add_assoc]
      · have q1 := h0 i h hf
        have hz : (if x[i] = 0 then some true else some (decide (((I.count (i : Int) : Nat) : Int) = 0))) = some true := by
          split
          · rfl
          · rw [dt (by omega)]
        rw [hz, if_neg hf]
        simp only [Option.bind_some, bt]
        rw [wi (n := (i : Int) + 1) (by omega) (by omega), show (i : Int) + 1 = ((i + 1 : Nat) : Int) by omega]
        exact ih (i + 1) a (by omega) (by omega) ha (by omega)
    · rw [if_neg (by omega), List.drop_of_length_le (by omega)]
      simp [symsF, bf]
theorem best_l1 (m : Int) (hm : ∀ s, ((I.count s : Nat) : Int) ≤ m) (hnn : ∀ f ∈ x, 0 ≤ f) (k : Nat) : ∀ (n i : Nat), i ≤ x.length → x.length - i < n → g_quirelaw02_HuffBest_l1 k x m (outOf x.length I) n (i : Int) = some (Sum.inr ()) := by
  intro n
  induction n with
  | zero => intro i _ h; omega
  | succ n ih =>
    intro i hi hn
    rw [g_quirelaw02_HuffBest_l1.eq_2]
    simp only [bd, Option.bind_some, outOf_len]
    by_cases h : i < x.length
    · rw [if_pos (by omega), ix_nat (by rw [outOf_len]; exact h), outOf_get h, ix_nat h]
      simp only [Option.bind_some]
      have hb : (!((decide (((I.count (i : Int) : Nat) : Int) = 0)) == (decide (x[i] = 0)))) = false := by
        have := hnn x[i] (List.getElem_mem h)
        by_cases hf : 0 < x[i]
        · have := h1 i h hf
          rw [df (by omega), df (by omega)]; rfl
        · have := h0 i h hf
          rw [dt (by omega), dt (by omega)]; rfl
      have := hm (i : Int)
      rw [hb, df (show ¬ m < ((I.count (i : Int) : Nat) : Int) by omega)]
      simp only [Option.bind_some, bf]
      rw [wi (by omega) (by omega)]
      exact ih (i + 1) (by omega) (by omega)
    · rw [if_neg (by omega)]
end
theorem sum_count (F : Int → Int) (S : List Int) (hS : S.Nodup) : ∀ L : List Int, (∀ s ∈ L, s ∈ S) → (S.map fun s => F s * ((L.count s : Nat) : Int)).sum = (L.map F).sum
  | [], _ => by
    have hz : ∀ S : List Int, (S.map fun s => F s * ((([] : List Int).count s : Nat) : Int)).sum = 0 := by
      intro S
      induction S with
      | nil => rfl
      | cons a S ih => simp only [List.map_cons, List.sum_cons, ih]; simp
    rw [hz]; rfl
  | a :: L, h => by
    have ih := sum_count F S hS L fun s hs => h s (by simp [hs])
    rw [List.map_cons, List.sum_cons, ← ih]
    have hone : ∀ S : List Int, S.Nodup → (S.map fun s => F s * (((a :: L).count s : Nat) : Int)).sum = (if a ∈ S then F a else 0) + (S.map fun s => F s * ((L.count s : Nat) : Int)).sum := by
      intro S
      induction S with
      | nil => intro _; simp
      | cons b S ih =>
        intro hS
        have hS' := List.nodup_cons.1 hS
        simp only [List.map_cons, List.sum_cons]
        rw [ih hS'.2, List.count_cons]
        by_cases e : a = b
        · subst e
          rw [if_neg hS'.1, if_pos (by simp), if_pos (by simp), show ((L.count a + 1 : Nat) : Int) = ((L.count a : Nat) : Int) + 1 by omega, Int.mul_add]; omega
        · rw [if_neg (by simpa using e)]
          by_cases q : a ∈ S
          · rw [if_pos q, if_pos (by simp [q])]; simp only [Nat.add_zero]; omega
          · rw [if_neg q, if_neg (by simp [q, e])]; simp only [Nat.add_zero]; omega
    rw [hone S hS, if_pos (h a (by simp))]
theorem best_l0 (k : Nat) (x : List Int) (hx : x.length ≤ 9223372036854775807) : ∀ (n i a : Nat) (b : Bool), i ≤ x.length → x.length - i < n → a ≤ i →
    g_quirelaw02_HuffBest_l0 k x n (a : Int) b (i : Int) = some (((a + (symsF (x.drop i) i).length : Nat) : Int), b || decide (badF (x.drop i))) := by
  intro n
  induction n with
  | zero => intro i a b _ h; omega
  | succ n ih =>
    intro i a b hi hn ha
    rw [g_quirelaw02_HuffBest_l0.eq_2]
    simp only [bd, Option.bind_some]
    by_cases h : i < x.length
    · rw [if_pos (by omega), ix_nat h, List.drop_eq_getElem_cons h, symsF_cons]
      simp only [Option.bind_some]
      generalize x[i] = f
      have hb : (bif b then some true else if f < 0 then some true else some (decide (1073741824 < f))) = some (b || decide (f < 0 ∨ 1073741824 < f)) := by
        cases b with
        | true => rfl
        | false =>
          show (if f < 0 then some true else some (decide (1073741824 < f))) = _
          by_cases q : f < 0
          · rw [if_pos q, dt (Or.inl q)]; rfl
          · rw [if_neg q]
            by_cases w : 1073741824 < f
            · rw [dt w, dt (Or.inr w)]; rfl
            · rw [df w, df (by omega)]; rfl
      rw [hb]
      simp only [Option.bind_some]
      have hor : decide (badF (f :: x.drop (i + 1))) = (decide (f < 0 ∨ 1073741824 < f) || decide (badF (x.drop (i + 1)))) := by
        rw [← Bool.decide_or]; exact decide_eq_decide.2 badF_cons
      by_cases hf : 0 < f
      · rw [if_pos hf, if_pos hf, wi (n := (a : Int) + 1) (by omega) (by omega)]
        simp only [Option.bind_some]
        rw [wi (by omega) (by omega), show (a : Int) + 1 = ((a + 1 : Nat) : Int) by omega, show (i : Int) + 1 = ((i + 1 : Nat) : Int) by omega, ih (i + 1) (a + 1) _ (by omega) (by omega) (by omega), hor]
        simp only [List.length_cons, Bool.or_assoc, Nat.add_assoc, Nat.add_comm 1]
      · rw [if_neg hf, if_neg hf]
        simp only [Option.bind_some]
        rw [wi (by omega) (by omega), show (i : Int) + 1 = ((i + 1 : Nat) : Int) by omega, ih (i + 1) a _ (by omega) (by omega) (by omega), hor]
        simp only [Bool.or_assoc]
    · rw [if_neg (by omega), List.drop_of_length_le (by omega)]
      simp [symsF, badF]
theorem alive_ok (n : Nat) : g_quirelaw02_alive (n + 300) = some (Sum.inl true) := by kernel_rfl
theorem huffBest_run (x : List Int) (m : Int) (hx : x.length ≤ 9223372036854775807) (k : Nat) (hk : x.length + 300000 ≤ k) : g_quirelaw02_HuffBest k x m = some (Sum.inl true) := by
  obtain ⟨n, rfl⟩ : ∃ n, k = n + 300 := ⟨k - 300, by omega⟩
  have hl0 := best_l0 (n + 300) x hx (n + 300) 0 0 (decide (badA x m)) (by omega) (by omega) (by omega)
  rw [show ((0 : Nat) : Int) = 0 from rfl, List.drop_zero, Nat.zero_add] at hl0
  have hcl := coinsF_len x 0
  unfold g_quirelaw02_HuffBest
  rw [bad3]
  by_cases hb : badA x m ∨ badF x
  · rw [lengths_bad (n + 300) (by omega) x m (by rcases hb with q | q; exact .inl q; exact .inr (.inl q))]
    simp only [Option.bind_some]
    rw [alive_ok]
    simp only [Option.bind_some, Bool.not_true, bf]
    rw [hl0]
    simp only [Option.bind_some]
    have : (decide (badA x m) || decide (badF x)) = true := by rw [← Bool.decide_or]; exact decide_eq_true hb
    rw [this]; rfl
  · have h1 : ¬ badA x m := fun q => hb (.inl q)
    have h2 : ¬ badF x := fun q => hb (.inr q)
    have h1' := h1
    unfold badA at h1'
    have es : shlI .i64 1 (IntKind.wrap .u64 m) = ((2 ^ m.toNat : Nat) : Int) := by
      have := shl1b (b := m.toNat) (by omega)
      rw [wUh, show m % 18446744073709551616 = ((m.toNat : Nat) : Int) by omega]
      exact this
    have hbf : (decide (badA x m) || decide (badF x)) = false := by rw [df h1, df h2]; rfl
    by_cases h3 : 2 ^ m.toNat < (coinsF x 0).length
    · rw [lengths_bad (n + 300) (by omega) x m (.inr (.inr h3))]
      simp only [Option.bind_some]
      rw [alive_ok]
      simp only [Option.bind_some, Bool.not_true, bf]
      rw [hl0]
      simp only [Option.bind_some, hbf, bf]
      rw [bd, if_pos (by rw [wUh]; omega), es, dt (by omega)]
      rfl
    · have hpos : ∀ f ∈ x, 0 ≤ f ∧ f ≤ 1073741824 := fun f hf => ⟨Int.not_lt.1 fun q => h2 ⟨f, hf, .inl q⟩, Int.not_lt.1 fun q => h2 ⟨f, hf, .inr q⟩⟩
      obtain ⟨i1, i2, i3, i4⟩ := items_ok x m.toNat (by omega) (by omega) (by omega)
      have hcx : ∀ s, (itemsR x m.toNat).count s ≤ 15 := fun s => Nat.le_trans (i1 s) (by omega)
      have hh1 : ∀ i (h : i < x.length), 0 < x[i] → 1 ≤ (itemsR x m.toNat).count (i : Int) := fun i h hf => i2 _ ((symsF_in x 0 _).2 ⟨i, rfl, by omega, by omega, by simpa [List.getD_eq_getElem?_getD, List.getElem?_eq_getElem h] using hf⟩)
      have hh0 : ∀ i (h : i < x.length), ¬ 0 < x[i] → (itemsR x m.toNat).count (i : Int) = 0 := fun i h hf => i3 _ fun q => by
        obtain ⟨j, e, _, _, q⟩ := (symsF_in x 0 _).1 q
        obtain rfl : i = j := by omega
        exact hf (by simpa [List.getD_eq_getElem?_getD, List.getElem?_eq_getElem h] using q)
      rw [lengths_ok (n + 300) (by omega) x m h1 h2 (by omega)]
      simp only [Option.bind_some]
      rw [alive_ok]
      simp only [Option.bind_some, Bool.not_true, bf]
      rw [hl0]
      simp only [Option.bind_some, hbf, bf]
      rw [bd, if_pos (by rw [wUh]; omega), es, df (by omega)]
      simp only [Option.bind_some, bf]
      simp only [decide_true, Bool.not_true, bf, outOf_len, Option.bind_some]
      rw [right_ok (by omega) hcx hh1 hh0 (n + 300) (by omega) i4]
      simp only [decide_true, Bool.not_true, bf, Option.bind_some]
      have e1 := best_l1 (by omega) hcx hh1 hh0 m (fun s => by have := i1 s; omega) (fun f hf => (hpos f hf).1) (n + 300) (n + 300) 0 (by omega) (by omega)
      rw [show ((0 : Nat) : Int) = 0 from rfl] at e1
      rw [e1]
      simp only [Option.bind_some]
      unfold g_quireref02_Cost
      have e2 := cost_l0 (by omega) hcx hh1 hh0 hpos (n + 300) (n + 300) 0 0 (by omega) (by omega) (by omega) (by omega)
      rw [show ((0 : Nat) : Int) = 0 from rfl, List.drop_zero, Int.zero_add] at e2
      rw [e2]
      simp only [Option.bind_some]
      rw [least_eq (n + 300) (by omega) x m h1 h2 (by omega)]
      simp only [Option.bind_some]
      rw [sum_count (Fq x) (symsF x 0) (symsF_nodup x 0) (itemsR x m.toNat) (fun s hs => by
        refine Classical.byContradiction fun q => ?_
        exact List.count_eq_zero.1 (i3 s q) hs)]
      rw [dt rfl]
theorem huffBest (x : List Int) (m : Int) (wx : x.length ≤ maxLen ∧ ∀ z ∈ x, (Lit.int .i64 z).wf = true) (wm : (Lit.int .i64 m).wf = true) : ∃ k, g_quirelaw02_HuffBest k x m = some (Sum.inl true) :=
  ⟨x.length + 300000, huffBest_run x m (Nat.le_trans wx.1 (by decide)) _ (Nat.le_refl _)⟩
end Go.Proofs.Ytjahhkhpchiojaa.W
