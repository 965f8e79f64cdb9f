/- Texts joined: part 4 of what LDeflateKinds stands on. -/
import Derived.Test.YtmmeanjjfhimjaaSDeflateKindsc
namespace Go.Proofs.Ytmmeanjjfhimjaa.W
open Go Go.Q Go.Proofs
set_option linter.unusedVariables false
set_option linter.unusedSimpArgs false
set_option maxRecDepth 100000
set_option maxHeartbeats 4000000
theorem s_deflate_shorter (k:Nat) (x1:(List Int)) (x2:Int) (x3:(List Int)) (H:g_deflate_shorter k x1 x2=some x3):Go.Q.Spec Try.prog 35 0 [.ro (Rd.slice (Rd.int .i64)) false x1,.lit (.int .i64 x2)] Mem.nil (fun o M=>o=.ret (.ro (Rd.slice (Rd.int .i64)) false x3)∧M=Mem.nil):=by
 unfold g_deflate_shorter at H;refine bo Try.func35 [] [.tmp 4] 24 fun cx hnp=>?_;(iterate 3 refine sp ?_);refine WP.seq ?_;refine sp ?_;refine WP.cv (Cv.weak (E':=((Env.none.upd 0 (.ro (Rd.slice (Rd.int .i64)) false x1)).upd 1 (.lit (.int .i64 x2)))) (M':=Mem.nil) [] hnp ⟨rfl,trivial,by decide,rfl,trivial⟩ (LeE.u (LeE.u (LeE.none rfl rfl)))) ?_;obtain ⟨x4,H1,H⟩:=bnd H;refine mo (.exit 0) (Env.none.upd 0 (.ro (Rd.slice (Rd.int .i64)) false x4)) Mem.nil ?_ ?_
 · refine WP.loop (β:=(List Int)) (fun n b=>g_deflate_shorter_l0 k x2 n b=some x4) (fun b=>((Env.none.upd 0 (.ro (Rd.slice (Rd.int .i64)) false b)).upd 1 (.lit (.int .i64 x2)))) (fun b=>Mem.nil) k x1 H1 rfl rfl ?_;rintro n x5 H;obtain _ | n:=n
   · exact nf rfl H
   rw [g_deflate_shorter_l0.eq_2] at H;show WP _ _ _ _ ((Env.none.upd 0 (.ro (Rd.slice (Rd.int .i64)) false x5)).upd 1 (.lit (.int .i64 x2))) Mem.nil _;refine WP.seq ?_;refine WP.seq ?_;obtain ⟨x6,H2,H⟩:=bnd H;refine mo .normal (((Env.none.upd 0 (.ro (Rd.slice (Rd.int .i64)) false x5)).upd 1 (.lit (.int .i64 x2))).upd 17 (.lit (.bool x6))) Mem.nil ?_ ?_
   · clear H;have H:=H2;clear H2;(iterate 4 refine sp ?_);obtain ⟨x7,h1,H⟩:=bnd H;refine sn (nm_bool h1) ?_;refine sp ?_;refine ws 9 H (fun hb1 H=>?_) fun hb1 H=>?_
     · (iterate 3 refine sp ?_);obtain ⟨x8,h2,H⟩:=bnd H;refine sn (nm_int h2) ?_;obtain ⟨x9,h3,H⟩:=bnd H;(iterate 4 refine sp ?_);refine WPL.nilW ?_;have q0:=j1 H;subst q0;exact wq []
     (iterate 8 refine sp ?_);refine WPL.nilW ?_;have q0:=j1 H;subst q0;exact wq []
   (iterate 2 refine sp ?_);refine cq H (fun hb2 H=>?_) fun hb2 H=>?_
   · (iterate 8 refine sp ?_);obtain ⟨x10,h4,H⟩:=bnd H;refine sn (nm_int h4) ?_;obtain ⟨h4,H⟩:=grd H;refine WPL.qq (q_slice_ro (i:=0) (j:=x10) sl66 rfl rfl rfl ⟨_,rfl⟩ h4) ?_;refine sp ?_;refine WPL.nilW ?_;exact wq [] (InBlock.n (Then.n ⟨n,(List.drop (Int.toNat 0) (List.take (Int.toNat x10) x5)),Nat.lt_succ_self n,H,rfl,rfl⟩))
   refine sp ?_;have q0:=j1 H;subst q0;exact wq [] (Then.x (Then.x r3))
 (iterate 8 refine sp ?_);have q0:=j1 H;subst q0;exact W.now (mb [])
theorem s_deflate_Lengths_2 (k:Nat) (x1:Int) (x2:(List Int)) (x3:Int) (H:g_deflate_Lengths_2 k x1 x2=some x3):Go.Q.Spec Try.prog 63 1 [.lit (.int .i64 x1),.ptr 0 0] (Mem.nil.push (.cells 66 [.ro (Rd.slice (Rd.int .i64)) false x2])) (fun o M=>o=.ret (.lit (.int .i64 x3))∧M=(Mem.nil.push (.cells 66 [.ro (Rd.slice (Rd.int .i64)) false x2]))):=by
 unfold g_deflate_Lengths_2 at H;refine bo Try.func63 [] [.tmp 3] 20 fun cx hnp=>?_;(iterate 3 refine sp ?_);refine WP.seq ?_;refine WP.seq ?_;obtain ⟨x4,H1,H⟩:=bnd H;refine mo .normal (((Env.none.upd 0 (.lit (.int .i64 x1))).upd 1 (.ptr 0 0)).upd 15 (.lit (.bool x4))) (Mem.nil.push (.cells 66 [.ro (Rd.slice (Rd.int .i64)) false x2])) ?_ ?_
 · clear H;have H:=H1;clear H1;(iterate 3 refine sp ?_);obtain ⟨x5,h1,H⟩:=bnd H;(iterate 4 refine sp ?_);refine ws 9 H (fun hb1 H=>?_) fun hb1 H=>?_
   · (iterate 6 refine sp ?_);refine WPL.nilW ?_;have q0:=j1 H;subst q0;exact wq [0]
   (iterate 2 refine sp ?_);obtain ⟨x6,h2,H⟩:=bnd H;(iterate 4 refine sp ?_);refine WPL.nilW ?_;have q0:=j1 H;subst q0;exact wq [0]
 (iterate 2 refine sp ?_);refine cq H (fun hb2 H=>?_) fun hb2 H=>?_
 · (iterate 4 refine sp ?_);have q0:=j1 H;subst q0;exact W.now (Then.r (mb [0]))
 (iterate 6 refine sp ?_);obtain ⟨x7,h3,H⟩:=bnd H;(iterate 5 refine sp ?_);have q0:=j1 H;subst q0;exact W.now (mb [0])
theorem s_deflate_Lengths_1__b (k:Nat) (x1:Int) (x2:Int) (x3:(List Int)) (x4:(List Int)) (H:g_deflate_Lengths_1__b k x1 x2 x3 x4=some ()):Go.Q.Spec Try.prog 62 2 [.lit (.int .i64 x1),.lit (.int .i64 x2),.ptr 0 0,.ptr 1 0] ((((Mem.nil.push (.cells 66 [.whole 2])).push (.cells 66 [.whole 3])).push (.row 3 (Rd.int .i64) x3)).push (.row 3 (Rd.int .i64) x4)) (fun o M=>o=.ret (.tup [])∧M=((((Mem.nil.push (.cells 66 [.whole 2])).push (.cells 66 [.whole 3])).push (.row 3 (Rd.int .i64) (x3++([x1]:List Int)))).push (.row 3 (Rd.int .i64) (x4++([x2]:List Int))))):=by
 unfold g_deflate_Lengths_1__b at H;refine bo Try.func62 [] [] 14 fun cx hnp=>?_;refine WP.regionD' 10 [0,1] [8] mixed rfl ?_;refine dT 1 ?_;refine dT 5 ?_;refine dK 0 ?_;refine dK 4 ?_;refine WPD.of2 2 6 (by kernel_rfl) ?_ ?_
 · refine WPD1.eff 2 [0,1] [8] rfl (Does.runs (d_buildSlice (ds:=([x1]:List Int)) (R:=(Rd.int .i64)) li66 rfl rfl rfl rfl rfl (JoinRows.cons1 Joins.sc rfl JoinRows.nil) rfl rfl)) rfl rfl ?_;refine WPD.of2 3 6 (by kernel_rfl) ?_ ?_
   · obtain ⟨h1,H⟩:=grd H;refine WPD1.eff 3 [0,1] [8] rfl (Does.runs (d_append ap66 rfl rfl rfl rfl (src_row sl66 rfl rfl) h1 rfl)) rfl rfl ?_;refine dE 6 [0,1] [8] rfl (Does.runs (d_buildSlice (ds:=([x2]:List Int)) (R:=(Rd.int .i64)) li66 rfl rfl rfl rfl rfl (JoinRows.cons1 Joins.sc rfl JoinRows.nil) rfl rfl)) ?_;obtain ⟨h2,H⟩:=grd H;refine dE 7 [0,1] [8] rfl (Does.runs (d_append ap66 rfl rfl rfl rfl (src_row sl66 rfl rfl) h2 rfl)) ?_;refine dS 8 [] [] ?_;refine dS 9 [] [] ?_;refine WPD.doneW (by kernel_rfl) ?_;exact W.now (BodyR.mkN trivial rfl [0,1,5,7] ⟨rfl,rfl⟩ ⟨rfl,AA4,by decide,rfl,BB2⟩ rfl rfl)
   refine WPD1.eff 6 [0,1] [8] rfl (Does.runs (d_buildSlice (ds:=([x2]:List Int)) (R:=(Rd.int .i64)) li66 rfl rfl rfl rfl rfl (JoinRows.cons1 Joins.sc rfl JoinRows.nil) rfl rfl)) rfl rfl ?_;obtain ⟨h3,H⟩:=grd H;refine dE 3 [0,1] [8] rfl (Does.runs (d_append ap66 rfl rfl rfl rfl (src_row sl66 rfl rfl) h3 rfl)) ?_;obtain ⟨h4,H⟩:=grd H;refine dE 7 [0,1] [8] rfl (Does.runs (d_append ap66 rfl rfl rfl rfl (src_row sl66 rfl rfl) h4 rfl)) ?_;refine dS 8 [] [] ?_;refine dS 9 [] [] ?_;refine WPD.doneW (by kernel_rfl) ?_;exact W.now (BodyR.mkN trivial rfl [0,1,6,7] ⟨rfl,rfl⟩ ⟨rfl,AA4,by decide,rfl,BB2⟩ rfl rfl)
 refine WPD1.eff 6 [0,1] [8] rfl (Does.runs (d_buildSlice (ds:=([x2]:List Int)) (R:=(Rd.int .i64)) li66 rfl rfl rfl rfl rfl (JoinRows.cons1 Joins.sc rfl JoinRows.nil) rfl rfl)) rfl rfl ?_;refine dE 2 [0,1] [8] rfl (Does.runs (d_buildSlice (ds:=([x1]:List Int)) (R:=(Rd.int .i64)) li66 rfl rfl rfl rfl rfl (JoinRows.cons1 Joins.sc rfl JoinRows.nil) rfl rfl)) ?_;obtain ⟨h5,H⟩:=grd H;refine dE 3 [0,1] [8] rfl (Does.runs (d_append ap66 rfl rfl rfl rfl (src_row sl66 rfl rfl) h5 rfl)) ?_;obtain ⟨h6,H⟩:=grd H;refine dE 7 [0,1] [8] rfl (Does.runs (d_append ap66 rfl rfl rfl rfl (src_row sl66 rfl rfl) h6 rfl)) ?_;refine dS 8 [] [] ?_;refine dS 9 [] [] ?_;refine WPD.doneW (by kernel_rfl) ?_;exact W.now (BodyR.mkN trivial rfl [0,1,6,7] ⟨rfl,rfl⟩ ⟨rfl,AA4,by decide,rfl,BB2⟩ rfl rfl)
theorem s_deflate_Lengths (k:Nat) (x1:(List Int)) (x2:(List Int)) (x3:(List Int)) (H:g_deflate_Lengths k x1=some (x2,x3)):Go.Q.Spec Try.prog 36 0 [.ro (Rd.slice (Rd.int .i64)) false x1] Mem.nil (fun o M=>o=.ret (.tup [.ro (Rd.slice (Rd.int .i64)) false x2,.ro (Rd.slice (Rd.int .i64)) false x3])∧M=Mem.nil):=by
 unfold g_deflate_Lengths at H;refine bo Try.func36 [] [.tmp 2,.tmp 3] 85 fun cx hnp=>?_;(iterate 10 refine sp ?_);refine WPL.qq (q_makeFunc) ?_;(iterate 3 refine sp ?_);refine WPL.qq (q_makeFunc) ?_;(iterate 2 refine sp ?_);refine WP.seq ?_;(iterate 4 refine sp ?_);refine WP.cv (Cv.virC 3 (Rd.int .i64) (N:=3) rfl rfl (i:=1) (off:=0) rfl rfl) ?_;refine WP.cv (Cv.virC 3 (Rd.int .i64) (N:=4) rfl rfl (i:=2) (off:=0) rfl rfl) ?_;refine WP.cv (Cv.weak (E':=((((((Env.none.upd 1 (.ptr 0 0)).upd 4 (.ptr 1 0)).upd 5 (.ptr 3 0)).upd 6 (.fn 62 [.ptr 1 0,.ptr 3 0])).upd 7 (.fn 63 [.ptr 0 0])).upd 8 (.lit (.int .i64 0)))) (M':=(((((Mem.nil.push (.cells 66 [.ro (Rd.slice (Rd.int .i64)) false x1])).push (.cells 66 [.whole 2])).push (.row 3 (Rd.int .i64) ([]:List Int))).push (.cells 66 [.whole 4])).push (.row 3 (Rd.int .i64) ([]:List Int)))) [0,1,3,2,4] hnp ⟨rfl,AA5,by decide,rfl,trivial⟩ (LeE.u (LeE.u (LeE.u (LeE.u (LeE.u (LeE.u (LeE.none rfl rfl)))))))) ?_;obtain ⟨⟨x4,x5⟩,H1,H⟩:=bnd H;refine mo (.exit 0) ((Env.none.upd 4 (.ptr 0 0)).upd 5 (.ptr 2 0)) ((((Mem.nil.push (.cells 66 [.whole 1])).push (.row 3 (Rd.int .i64) x4)).push (.cells 66 [.whole 3])).push (.row 3 (Rd.int .i64) x5)) ?_ ?_
 · refine WP.loop (β:=Int × (List Int) × (List Int)) (fun n b=>g_deflate_Lengths_l0 k x1 n b.1 b.2.1 b.2.2=some (x4,x5)) (fun b=>((((((Env.none.upd 1 (.ptr 0 0)).upd 4 (.ptr 1 0)).upd 5 (.ptr 3 0)).upd 6 (.fn 62 [.ptr 1 0,.ptr 3 0])).upd 7 (.fn 63 [.ptr 0 0])).upd 8 (.lit (.int .i64 b.1)))) (fun b=>(((((Mem.nil.push (.cells 66 [.ro (Rd.slice (Rd.int .i64)) false x1])).push (.cells 66 [.whole 2])).push (.row 3 (Rd.int .i64) b.2.1)).push (.cells 66 [.whole 4])).push (.row 3 (Rd.int .i64) b.2.2))) k (0,([]:List Int),([]:List Int)) H1 rfl rfl ?_;rintro n ⟨x6,x7,x8⟩ H;obtain _ | n:=n
   · exact nf rfl H
   rw [g_deflate_Lengths_l0.eq_2] at H;show WP _ _ _ _ ((((((Env.none.upd 1 (.ptr 0 0)).upd 4 (.ptr 1 0)).upd 5 (.ptr 3 0)).upd 6 (.fn 62 [.ptr 1 0,.ptr 3 0])).upd 7 (.fn 63 [.ptr 0 0])).upd 8 (.lit (.int .i64 x6))) (((((Mem.nil.push (.cells 66 [.ro (Rd.slice (Rd.int .i64)) false x1])).push (.cells 66 [.whole 2])).push (.row 3 (Rd.int .i64) x7)).push (.cells 66 [.whole 4])).push (.row 3 (Rd.int .i64) x8)) _;refine WP.seq ?_;(iterate 4 refine sp ?_);obtain ⟨x9,h1,H⟩:=bnd H;refine sn (nm_bool h1) ?_;refine sp ?_;refine cq H (fun hb1 H=>?_) fun hb1 H=>?_
   · (iterate 7 refine sp ?_);obtain ⟨x10,h2,H⟩:=bnd H;refine WPL.c (rc [0] [0] 5 [] (s_deflate_Lengths_2 k x6 x1 x10 h2)) rfl ?_;(iterate 3 refine sp ?_);refine WP.seq ?_;refine sp ?_;refine WP.cv (Cv.weak (E':=((((((((Env.none.upd 1 (.ptr 0 0)).upd 4 (.ptr 1 0)).upd 5 (.ptr 3 0)).upd 6 (.fn 62 [.ptr 1 0,.ptr 3 0])).upd 7 (.fn 63 [.ptr 0 0])).upd 8 (.lit (.int .i64 x6))).upd 9 (.lit (.int .i64 x10))).upd 10 (.lit (.int .i64 1)))) (M':=(((((Mem.nil.push (.cells 66 [.ro (Rd.slice (Rd.int .i64)) false x1])).push (.cells 66 [.whole 2])).push (.row 3 (Rd.int .i64) x7)).push (.cells 66 [.whole 4])).push (.row 3 (Rd.int .i64) x8))) [0,1,2,3,4] hnp ⟨rfl,AA5,by decide,rfl,trivial⟩ (LeE.u (LeE.u (LeE.u (LeE.u (LeE.u (LeE.u (LeE.u (LeE.u (LeE.none rfl rfl)))))))))) ?_;obtain ⟨x11,H2,H⟩:=bnd H;refine mo (.exit 2) ((((((((Env.none.upd 1 (.ptr 0 0)).upd 4 (.ptr 1 0)).upd 5 (.ptr 3 0)).upd 6 (.fn 62 [.ptr 1 0,.ptr 3 0])).upd 7 (.fn 63 [.ptr 0 0])).upd 8 (.lit (.int .i64 x6))).upd 9 (.lit (.int .i64 x10))).upd 10 (.lit (.int .i64 x11))) (((((Mem.nil.push (.cells 66 [.ro (Rd.slice (Rd.int .i64)) false x1])).push (.cells 66 [.whole 2])).push (.row 3 (Rd.int .i64) x7)).push (.cells 66 [.whole 4])).push (.row 3 (Rd.int .i64) x8)) ?_ ?_
     · refine WP.loop (β:=Int) (fun n b=>g_deflate_Lengths_l1 k x1 x6 x10 n b=some x11) (fun b=>((((((((Env.none.upd 1 (.ptr 0 0)).upd 4 (.ptr 1 0)).upd 5 (.ptr 3 0)).upd 6 (.fn 62 [.ptr 1 0,.ptr 3 0])).upd 7 (.fn 63 [.ptr 0 0])).upd 8 (.lit (.int .i64 x6))).upd 9 (.lit (.int .i64 x10))).upd 10 (.lit (.int .i64 b)))) (fun b=>(((((Mem.nil.push (.cells 66 [.ro (Rd.slice (Rd.int .i64)) false x1])).push (.cells 66 [.whole 2])).push (.row 3 (Rd.int .i64) x7)).push (.cells 66 [.whole 4])).push (.row 3 (Rd.int .i64) x8))) k 1 H2 rfl rfl ?_;rintro n x12 H;obtain _ | n:=n
       · exact nf rfl H
       rw [g_deflate_Lengths_l1.eq_2] at H;show WP _ _ _ _ ((((((((Env.none.upd 1 (.ptr 0 0)).upd 4 (.ptr 1 0)).upd 5 (.ptr 3 0)).upd 6 (.fn 62 [.ptr 1 0,.ptr 3 0])).upd 7 (.fn 63 [.ptr 0 0])).upd 8 (.lit (.int .i64 x6))).upd 9 (.lit (.int .i64 x10))).upd 10 (.lit (.int .i64 x12))) (((((Mem.nil.push (.cells 66 [.ro (Rd.slice (Rd.int .i64)) false x1])).push (.cells 66 [.whole 2])).push (.row 3 (Rd.int .i64) x7)).push (.cells 66 [.whole 4])).push (.row 3 (Rd.int .i64) x8)) _;refine WP.seq ?_;refine WP.seq ?_;obtain ⟨x13,H3,H⟩:=bnd H;refine mo .normal (((((((((Env.none.upd 1 (.ptr 0 0)).upd 4 (.ptr 1 0)).upd 5 (.ptr 3 0)).upd 6 (.fn 62 [.ptr 1 0,.ptr 3 0])).upd 7 (.fn 63 [.ptr 0 0])).upd 8 (.lit (.int .i64 x6))).upd 9 (.lit (.int .i64 x10))).upd 10 (.lit (.int .i64 x12))).upd 34 (.lit (.bool x13))) (((((Mem.nil.push (.cells 66 [.ro (Rd.slice (Rd.int .i64)) false x1])).push (.cells 66 [.whole 2])).push (.row 3 (Rd.int .i64) x7)).push (.cells 66 [.whole 4])).push (.row 3 (Rd.int .i64) x8)) ?_ ?_
       · clear H;have H:=H3;clear H3;(iterate 6 refine sp ?_);obtain ⟨x14,h3,H⟩:=bnd H;refine sn (nm_bool h3) ?_;refine sp ?_;refine ws 26 H (fun hb2 H=>?_) fun hb2 H=>?_
         · (iterate 4 refine sp ?_);obtain ⟨x15,h4,H⟩:=bnd H;refine WPL.cg rfl rfl (lb hb2) (rc [0] [0] 5 [] (s_deflate_Lengths_2 k (IntKind.wrap .i64 (x6+x12)) x1 x15 h4)) rfl ?_;(iterate 3 refine sp ?_);refine WPL.nilW ?_;have q0:=j1 H;subst q0;exact wq [0,1,2,3,4]
         (iterate 4 refine sp ?_);refine WPL.skipg (b':=false) rfl rfl (lb hb2) rfl rfl (SkipOkE.und rfl) ?_;(iterate 3 refine sp ?_);refine WPL.nilW ?_;have q0:=j1 H;subst q0;exact wq [0,1,2,3,4]
       (iterate 2 refine sp ?_);refine cq H (fun hb3 H=>?_) fun hb3 H=>?_
       · (iterate 8 refine sp ?_);refine WPL.nilW ?_;exact wq [0,1,2,3,4] (InBlock.n (Then.n ⟨n,(IntKind.wrap .i64 (x12+1)),Nat.lt_succ_self n,H,rfl,rfl⟩))
       refine sp ?_;have q0:=j1 H;subst q0;exact wq [0,1,2,3,4] (Then.x (Then.x r3))
     (iterate 3 refine sp ?_);refine WP.seq ?_;obtain ⟨⟨x16,x17,x18⟩,H4,H⟩:=bnd H;refine mo .normal (((((((Env.none.upd 1 (.ptr 0 0)).upd 4 (.ptr 1 0)).upd 5 (.ptr 3 0)).upd 6 (.fn 62 [.ptr 1 0,.ptr 3 0])).upd 7 (.fn 63 [.ptr 0 0])).upd 8 (.lit (.int .i64 x6))).upd 10 (.lit (.int .i64 x16))) (((((Mem.nil.push (.cells 66 [.ro (Rd.slice (Rd.int .i64)) false x1])).push (.cells 66 [.whole 2])).push (.row 3 (Rd.int .i64) x17)).push (.cells 66 [.whole 4])).push (.row 3 (Rd.int .i64) x18)) ?_ ?_
     · clear H;have H:=H4;clear H4;refine sp ?_;refine WP.seq ?_;obtain ⟨x19,H5,H⟩:=bnd H;refine mo .normal (((((((((Env.none.upd 1 (.ptr 0 0)).upd 4 (.ptr 1 0)).upd 5 (.ptr 3 0)).upd 6 (.fn 62 [.ptr 1 0,.ptr 3 0])).upd 7 (.fn 63 [.ptr 0 0])).upd 8 (.lit (.int .i64 x6))).upd 9 (.lit (.int .i64 x10))).upd 10 (.lit (.int .i64 x11))).upd 40 (.lit (.bool x19))) (((((Mem.nil.push (.cells 66 [.ro (Rd.slice (Rd.int .i64)) false x1])).push (.cells 66 [.whole 2])).push (.row 3 (Rd.int .i64) x7)).push (.cells 66 [.whole 4])).push (.row 3 (Rd.int .i64) x8)) ?_ ?_
       · clear H;have H:=H5;clear H5;(iterate 4 refine sp ?_);refine ws 43 H (fun hb4 H=>?_) fun hb4 H=>?_
         · (iterate 4 refine sp ?_);refine WPL.nilW ?_;have q0:=j1 H;subst q0;exact wq [0,1,2,3,4]
         (iterate 4 refine sp ?_);refine WPL.nilW ?_;have q0:=j1 H;subst q0;exact wq [0,1,2,3,4]
       (iterate 2 refine sp ?_);refine cq H (fun hb5 H=>?_) fun hb5 H=>?_
       · (iterate 2 refine sp ?_);obtain ⟨x20,h5,H⟩:=bnd H;refine sn (nm_int h5) ?_;(iterate 6 refine sp ?_);obtain ⟨_,h5,H⟩:=bnd H;refine WPL.c (rc [1,3,2,4] [1,3,5,6] 7 [] (s_deflate_Lengths_1__b k 18 (IntKind.wrap .i64 (x20 - 11)) x7 x8 h5) (hargs:=.ren rfl rfl (.ren rfl rfl (.ren rfl rfl (.ren rfl rfl .nil))))) rfl ?_;refine WPL.nilW ?_;obtain ⟨rfl,rfl,rfl⟩:=j3 H;exact wq [0,1,5,3,6] (InBlock.n r3)
       refine WP.seq ?_;obtain ⟨x21,H6,H⟩:=bnd H;refine mo .normal (((((((((Env.none.upd 1 (.ptr 0 0)).upd 4 (.ptr 1 0)).upd 5 (.ptr 3 0)).upd 6 (.fn 62 [.ptr 1 0,.ptr 3 0])).upd 7 (.fn 63 [.ptr 0 0])).upd 8 (.lit (.int .i64 x6))).upd 9 (.lit (.int .i64 x10))).upd 10 (.lit (.int .i64 x11))).upd 53 (.lit (.bool x21))) (((((Mem.nil.push (.cells 66 [.ro (Rd.slice (Rd.int .i64)) false x1])).push (.cells 66 [.whole 2])).push (.row 3 (Rd.int .i64) x7)).push (.cells 66 [.whole 4])).push (.row 3 (Rd.int .i64) x8)) ?_ ?_
       · clear H;have H:=H6;clear H6;(iterate 4 refine sp ?_);refine ws 56 H (fun hb6 H=>?_) fun hb6 H=>?_
         · (iterate 4 refine sp ?_);refine WPL.nilW ?_;have q0:=j1 H;subst q0;exact wq [0,1,2,3,4]
         (iterate 4 refine sp ?_);refine WPL.nilW ?_;have q0:=j1 H;subst q0;exact wq [0,1,2,3,4]
       (iterate 2 refine sp ?_);refine cq H (fun hb7 H=>?_) fun hb7 H=>?_
       · (iterate 4 refine sp ?_);obtain ⟨_,h6,H⟩:=bnd H;refine WPL.c (rc [1,3,2,4] [1,3,5,6] 7 [] (s_deflate_Lengths_1__b k 17 (IntKind.wrap .i64 (x11 - 3)) x7 x8 h6) (hargs:=.ren rfl rfl (.ren rfl rfl (.ren rfl rfl (.ren rfl rfl .nil))))) rfl ?_;refine WPL.nilW ?_;obtain ⟨rfl,rfl,rfl⟩:=j3 H;exact wq [0,1,5,3,6] (InBlock.n r3)
       refine WP.seq ?_;obtain ⟨x22,H7,H⟩:=bnd H;refine mo .normal (((((((((Env.none.upd 1 (.ptr 0 0)).upd 4 (.ptr 1 0)).upd 5 (.ptr 3 0)).upd 6 (.fn 62 [.ptr 1 0,.ptr 3 0])).upd 7 (.fn 63 [.ptr 0 0])).upd 8 (.lit (.int .i64 x6))).upd 9 (.lit (.int .i64 x10))).upd 10 (.lit (.int .i64 x11))).upd 64 (.lit (.bool x22))) (((((Mem.nil.push (.cells 66 [.ro (Rd.slice (Rd.int .i64)) false x1])).push (.cells 66 [.whole 2])).push (.row 3 (Rd.int .i64) x7)).push (.cells 66 [.whole 4])).push (.row 3 (Rd.int .i64) x8)) ?_ ?_
       · clear H;have H:=H7;clear H7;(iterate 4 refine sp ?_);refine ws 67 H (fun hb8 H=>?_) fun hb8 H=>?_
         · (iterate 4 refine sp ?_);refine WPL.nilW ?_;have q0:=j1 H;subst q0;exact wq [0,1,2,3,4]
         (iterate 4 refine sp ?_);refine WPL.nilW ?_;have q0:=j1 H;subst q0;exact wq [0,1,2,3,4]
       (iterate 2 refine sp ?_);refine cq H (fun hb9 H=>?_) fun hb9 H=>?_
       · (iterate 2 refine sp ?_);obtain ⟨x23,h7,H⟩:=bnd H;refine sn (nm_int h7) ?_;(iterate 5 refine sp ?_);obtain ⟨_,h7,H⟩:=bnd H;refine WPL.c (rc [1,3,2,4] [1,3,5,6] 7 [] (s_deflate_Lengths_1__b k x10 0 x7 x8 h7) (hargs:=.ren rfl rfl (.ren rfl rfl (.ren rfl rfl (.ren rfl rfl .nil))))) rfl ?_;(iterate 5 refine sp ?_);obtain ⟨_,h8,H⟩:=bnd H;refine WPL.c (rc [1,3,5,6] [1,3,7,8] 9 [] (s_deflate_Lengths_1__b k 16 (IntKind.wrap .i64 (x23 - 4)) (x7++([x10]:List Int)) (x8++([0]:List Int)) h8) (hargs:=.ren rfl rfl (.ren rfl rfl (.ren rfl rfl (.ren rfl rfl .nil))))) rfl ?_;refine WPL.nilW ?_;obtain ⟨rfl,rfl,rfl⟩:=j3 H;exact wq [0,1,7,3,8] (InBlock.n r3)
       (iterate 6 refine sp ?_);obtain ⟨_,h9,H⟩:=bnd H;refine WPL.c (rc [1,3,2,4] [1,3,5,6] 7 [] (s_deflate_Lengths_1__b k x10 0 x7 x8 h9) (hargs:=.ren rfl rfl (.ren rfl rfl (.ren rfl rfl (.ren rfl rfl .nil))))) rfl ?_;refine WPL.nilW ?_;obtain ⟨rfl,rfl,rfl⟩:=j3 H;exact wq [0,1,5,3,6] (InBlock.n r3)
     (iterate 7 refine sp ?_);refine WPL.nilW ?_;exact wq [0,1,2,3,4] (InBlock.n (Then.n ⟨n,((IntKind.wrap .i64 (x6+x16)),x17,x18),Nat.lt_succ_self n,H,rfl,rfl⟩))
   refine sp ?_;obtain ⟨rfl,rfl⟩:=j2 H;exact wq [1,2,3,4] (Then.x (Then.x r3))
 (iterate 3 refine sp ?_);refine WP.seq ?_;refine WP.regionD' 4 [0,2] [] mixed rfl ?_;refine dK 0 ?_;refine dT 2 ?_;refine dK 1 ?_;refine dT 3 ?_;refine WPD.doneW (by kernel_rfl) ?_;(iterate 3 refine sp ?_);refine W.cv (Cv.frzRow (i:=1) rfl rfl hnp rfl rfl) rfl ?_;refine W.cv (Cv.frzRow (i:=3) rfl rfl hnp rfl rfl) rfl ?_;obtain ⟨rfl,rfl⟩:=j2 H;exact W.now (mb [])
theorem s_huff_Full (k:Nat) (x1:(List Int)) (x2:Bool) (H:g_huff_Full k x1=some x2):Go.Q.Spec Try.prog 65 0 [.ro (Rd.slice (Rd.int .i64)) false x1] Mem.nil (fun o M=>o=.ret (.lit (.bool x2))∧M=Mem.nil):=by
 unfold g_huff_Full at H;refine bo Try.func65 [] [.tmp 2] 11 fun cx hnp=>?_;(iterate 5 refine sp ?_);obtain ⟨⟨x3,x4⟩,h1,H⟩:=bnd H;refine WPL.c (rc [] [] 0 [] (s_huff_judged k x1 x3 x4 h1)) rfl ?_;(iterate 11 refine sp ?_);have q0:=j1 H;subst q0;exact W.now (mb [])
theorem s_deflate_row (k:Nat) (x1:(List Int)) (r:(((List Int) × Bool × (List Int)) ⊕ ByteArray)) (H:g_deflate_row k x1=some r):Go.Q.Spec Try.prog 38 1 [.whole 0] (Mem.nil.push (.row 3 (Rd.int .i64) x1)) (fun o M=>match (generalizing:=false) r with | (Sum.inl (x2,x3,x4))=>o=.ret (.tup [.ro (Rd.slice (Rd.int .i64)) false x2,.lit (.bool x3)])∧M=(Mem.nil.push (.row 3 (Rd.int .i64) x4)) | (Sum.inr x5)=>o=.pan (.ifc 9 (.lit (.string x5)))∧M=(Mem.nil.push (.gone))):=by
 unfold g_deflate_row at H;refine bo Try.func38 [] [.tmp 2,.tmp 3] 51 fun cx hnp=>?_;(iterate 4 refine sp ?_);refine WP.seq ?_;(iterate 5 refine sp ?_);refine WP.cv (Cv.weak (E':=(((Env.none.upd 0 (.whole 0)).upd 4 (.lit (.int .i64 0))).upd 5 (.lit (.int .i64 0)))) (M':=(Mem.nil.push (.row 3 (Rd.int .i64) x1))) [0] hnp ⟨rfl,AA1,by decide,rfl,BB1⟩ (LeE.u (LeE.u (LeE.u (LeE.none rfl rfl))))) ?_;obtain ⟨x6,H1,H⟩:=bnd H;refine mo (.exit 0) (Env.none.upd 0 (.whole 0)) (Mem.nil.push (.row 3 (Rd.int .i64) x6)) ?_ ?_
 · refine WP.loop (β:=Int × Int × (List Int)) (fun n b=>g_deflate_row_l0 k n b.1 b.2.1 b.2.2=some x6) (fun b=>(((Env.none.upd 0 (.whole 0)).upd 4 (.lit (.int .i64 b.1))).upd 5 (.lit (.int .i64 b.2.1)))) (fun b=>(Mem.nil.push (.row 3 (Rd.int .i64) b.2.2))) k (0,0,x1) H1 rfl rfl ?_;rintro n ⟨x7,x8,x9⟩ H;obtain _ | n:=n
   · exact nf rfl H
   rw [g_deflate_row_l0.eq_2] at H;show WP _ _ _ _ (((Env.none.upd 0 (.whole 0)).upd 4 (.lit (.int .i64 x7))).upd 5 (.lit (.int .i64 x8))) (Mem.nil.push (.row 3 (Rd.int .i64) x9)) _;refine WP.seq ?_;refine WP.seq ?_;obtain ⟨x10,H2,H⟩:=bnd H;refine mo .normal (((Env.none.upd 0 (.whole 0)).upd 4 (.lit (.int .i64 x7))).upd 17 (.lit (.bool x10))) (Mem.nil.push (.row 3 (Rd.int .i64) x9)) ?_ ?_
   · clear H;have H:=H2;clear H2;(iterate 4 refine sp ?_);refine ws 12 H (fun hb1 H=>?_) fun hb1 H=>?_
     · (iterate 3 refine sp ?_);obtain ⟨x11,h1,H⟩:=bnd H;refine sn (nm_bool h1) ?_;refine sp ?_;refine WPL.nilW ?_;have q0:=j1 H;subst q0;exact wq [0]
     (iterate 5 refine sp ?_);refine WPL.nilW ?_;have q0:=j1 H;subst q0;exact wq [0]
   (iterate 2 refine sp ?_);refine cq H (fun hb2 H=>?_) fun hb2 H=>?_
   · (iterate 3 refine sp ?_);refine WP.seq ?_;obtain ⟨⟨x12,x13⟩,H3,H⟩:=bnd H;refine mo .normal (((Env.none.upd 0 (.whole 0)).upd 4 (.lit (.int .i64 x7))).upd 5 (.lit (.int .i64 x12))) (Mem.nil.push (.row 3 (Rd.int .i64) x13)) ?_ ?_
     · clear H;have H:=H3;clear H3;(iterate 4 refine sp ?_);refine WP.seq ?_;(iterate 6 refine sp ?_);refine WP.cv (Cv.weak (E':=((((((Env.none.upd 0 (.whole 0)).upd 4 (.lit (.int .i64 x7))).upd 5 (.lit (.int .i64 0))).upd 20 (.whole 0)).upd 21 (.lit (.int .i64 ((List.length x9:Nat):Int)))).upd 22 (.lit (.int .i64 0)))) (M':=(Mem.nil.push (.row 3 (Rd.int .i64) x9))) [0] hnp ⟨rfl,AA1,by decide,rfl,BB1⟩ (LeE.u (LeE.u (LeE.u (LeE.u (LeE.u (LeE.u (LeE.none rfl rfl)))))))) ?_;obtain ⟨x14,H4,H⟩:=bnd H;refine mo (.exit 2) (((Env.none.upd 0 (.whole 0)).upd 4 (.lit (.int .i64 x7))).upd 5 (.lit (.int .i64 x14))) (Mem.nil.push (.row 3 (Rd.int .i64) x9)) ?_ ?_
       · refine WP.loop (β:=Int × Int) (fun n b=>g_deflate_row_l1 k x9 n b.1 b.2=some x14) (fun b=>((((((Env.none.upd 0 (.whole 0)).upd 4 (.lit (.int .i64 x7))).upd 5 (.lit (.int .i64 b.1))).upd 20 (.whole 0)).upd 21 (.lit (.int .i64 ((List.length x9:Nat):Int)))).upd 22 (.lit (.int .i64 b.2)))) (fun b=>(Mem.nil.push (.row 3 (Rd.int .i64) x9))) k (0,0) H4 rfl rfl ?_;rintro n ⟨x15,x16⟩ H;obtain _ | n:=n
         · exact nf rfl H
         rw [g_deflate_row_l1.eq_2] at H;show WP _ _ _ _ ((((((Env.none.upd 0 (.whole 0)).upd 4 (.lit (.int .i64 x7))).upd 5 (.lit (.int .i64 x15))).upd 20 (.whole 0)).upd 21 (.lit (.int .i64 ((List.length x9:Nat):Int)))).upd 22 (.lit (.int .i64 x16))) (Mem.nil.push (.row 3 (Rd.int .i64) x9)) _;refine sp ?_;obtain ⟨x17,h2,H⟩:=bnd H;refine sn (nm_bool h2) ?_;refine sp ?_;refine WP.seq ?_;refine cq H (fun hb3 H=>?_) fun hb3 H=>?_
         · (iterate 3 refine sp ?_);refine WP.seq ?_;obtain ⟨x18,H5,H⟩:=bnd H;refine mo .normal ((((((Env.none.upd 0 (.whole 0)).upd 4 (.lit (.int .i64 x7))).upd 5 (.lit (.int .i64 x18))).upd 20 (.whole 0)).upd 21 (.lit (.int .i64 ((List.length x9:Nat):Int)))).upd 22 (.lit (.int .i64 x16))) (Mem.nil.push (.row 3 (Rd.int .i64) x9)) ?_ ?_
           · clear H;have H:=H5;clear H5;(iterate 2 refine sp ?_);obtain ⟨x19,h3,H⟩:=bnd H;refine WPL.qq (q_index_row sl66 rfl rfl rfl (ixs h3)) ?_;refine WPL.qq (q_load_row (j:=(Int.toNat x16)) sc3 rfl rfl (ixj h3)) ?_;(iterate 6 refine sp ?_);refine cq H (fun hb4 H=>?_) fun hb4 H=>?_
             · (iterate 4 refine sp ?_);refine WPL.nilW ?_;have q0:=j1 H;subst q0;exact wq [0] (InBlock.n r3)
             refine sp ?_;have q0:=j1 H;subst q0;exact wq [0] (InBlock.n r3)
           (iterate 5 refine sp ?_);refine WPL.nilW ?_;exact wq [0] (Then.n ⟨n,(x18,(IntKind.wrap .i64 (x16+1))),Nat.lt_succ_self n,H,rfl,rfl⟩)
         refine sp ?_;have q0:=j1 H;subst q0;exact wq [0] (Then.x (Then.x r3))
       (iterate 3 refine sp ?_);refine WP.seq ?_;obtain ⟨x20,H6,H⟩:=bnd H;refine mo .normal ((((Env.none.upd 0 (.whole 0)).upd 4 (.lit (.int .i64 x7))).upd 5 (.lit (.int .i64 x14))).upd 39 (.lit (.bool x20))) (Mem.nil.push (.row 3 (Rd.int .i64) x9)) ?_ ?_
       · clear H;have H:=H6;clear H6;(iterate 4 refine sp ?_);refine ws 33 H (fun hb5 H=>?_) fun hb5 H=>?_
         · (iterate 2 refine sp ?_);obtain ⟨x21,h4,H⟩:=bnd H;refine WPL.gq rfl (lb hb5) (q_index_row sl66 rfl rfl rfl (ixs h4)) ?_;refine WPL.gq rfl (lb hb5) (q_load_row (j:=(Int.toNat x7)) sc3 rfl rfl (ixj h4)) ?_;(iterate 2 refine sp ?_);refine WPL.nilW ?_;have q0:=j1 H;subst q0;exact wq [0]
         (iterate 6 refine sp ?_);refine WPL.nilW ?_;have q0:=j1 H;subst q0;exact wq [0]
       (iterate 2 refine sp ?_);refine cq H (fun hb6 H=>?_) fun hb6 H=>?_
       · (iterate 3 refine sp ?_);obtain ⟨x22,h5,H⟩:=bnd H;refine WPL.qq (q_index_row sl66 rfl rfl rfl (ixs h5)) ?_;refine WPL.s (s_store_row (j:=(Int.toNat x7)) (d:=1) sz3 rfl rfl rfl rfl Joins.sc (ixl h5)) ?_;refine WPL.nilW ?_;obtain ⟨rfl,rfl⟩:=j2 H;exact wq [0] (InBlock.n r3)
       refine sp ?_;obtain ⟨rfl,rfl⟩:=j2 H;exact wq [0] (InBlock.n r3)
     (iterate 6 refine sp ?_);refine WPL.nilW ?_;exact wq [0] (Then.n ⟨n,((IntKind.wrap .i64 (x7+1)),x12,x13),Nat.lt_succ_self n,H,rfl,rfl⟩)
   refine sp ?_;have q0:=j1 H;subst q0;exact wq [0] (Then.x (Then.x r3))
 (iterate 5 refine sp ?_);obtain ⟨y1,h6,H⟩:=bnd H;rcases y1 with ⟨x23,x24⟩ | x25
 · refine WPL.c (rc [] [] 1 [0] (s_huff_Lengths k x6 7 (Sum.inl (x23,x24)) h6)) rfl ?_;(iterate 9 refine sp ?_);obtain ⟨x26,h7,H⟩:=bnd H;refine WPL.c (rc [] [] 1 [] (s_huff_Full k x23 x26 h7)) rfl ?_;(iterate 4 refine sp ?_);have q0:=j1 H;subst q0;exact W.now (mb [0])
 refine WPL.pW (runs_callP (s:=[]) (t:=[]) (N:=1) (bor:=[0]) fn34 rfl (s_huff_Lengths k x6 7 (Sum.inr x25) h6) ⟨rfl,trivial,by decide,rfl,trivial⟩ rfl ⟨trivial,rfl,rfl,trivial⟩ (.row rfl rfl (.ren rfl rfl .nil)) rfl trivial rfl) ?_;have q0:=j1 H;subst q0;exact W.now (Then.p (BodyR.mkP trivial [0] ⟨rfl,rfl⟩ ⟨rfl,⟨trivial,.inl rfl⟩,by decide,rfl,BB1⟩ rfl rfl))
theorem s_deflate_dynamic (k:Nat) (x1:(List S_deflate_Item)) (r:(ByteArray ⊕ (List Int))) (H:g_deflate_dynamic k x1=some r):Go.Q.Spec Try.prog 18 0 [.ro (Rd.slice rdS_deflate_Item) false x1] Mem.nil (fun o M=>match (generalizing:=false) r with | (Sum.inl x2)=>o=.pan (.ifc 9 (.lit (.string x2)))∧M=Mem.nil | (Sum.inr x3)=>o=.ret (.ro (Rd.slice (Rd.int .u8)) false x3)∧M=Mem.nil):=by
 unfold g_deflate_dynamic at H;refine bo Try.func18 [] [.tmp 2] 190 fun cx hnp=>?_;(iterate 3 refine sp ?_);refine WP.seq ?_;obtain ⟨_,H1,H⟩:=bnd H;refine mo .normal (((Env.none.upd 0 (.ro (Rd.slice rdS_deflate_Item) false x1)).upd 3 (.whole 0)).upd 4 (.whole 1)) ((Mem.nil.push (.row 3 (Rd.int .i64) (List.replicate (Int.toNat 286) (0:Int)))).push (.row 3 (Rd.int .i64) (List.replicate (Int.toNat 30) (0:Int)))) ?_ ?_
 · clear H;have H:=H1;clear H1;refine WP.regionD' 4 [] [] mixed rfl ?_;refine WPD.of2 0 1 (by kernel_rfl) ?_ ?_
   · obtain ⟨h1,H⟩:=grd H;refine WPD1.eff 0 [] [] rfl (Does.runs (d_make (d:=(0:Int)) (R:=(Rd.int .i64)) li66 by3 rfl rfl rfl Joins.sc rfl rfl h1 rfl)) rfl rfl ?_;refine dT 2 ?_;obtain ⟨h2,H⟩:=grd H;refine dE 1 [] [] rfl (Does.runs (d_make (d:=(0:Int)) (R:=(Rd.int .i64)) li66 by3 rfl rfl rfl Joins.sc rfl rfl h2 rfl)) ?_;refine dT 3 ?_;refine WPD.doneW (by kernel_rfl) ?_;exact wq [0,1]
   obtain ⟨h1,H⟩:=grd H;obtain ⟨h3,H⟩:=grd H;replace H:=(grdI h3 (grdI h1 H));obtain ⟨h3,H⟩:=grd H;refine WPD1.eff 1 [] [] rfl (Does.runs (d_make (d:=(0:Int)) (R:=(Rd.int .i64)) li66 by3 rfl rfl rfl Joins.sc rfl rfl h3 rfl)) rfl rfl ?_;obtain ⟨h4,H⟩:=grd H;refine dE 0 [] [] rfl (Does.runs (d_make (d:=(0:Int)) (R:=(Rd.int .i64)) li66 by3 rfl rfl rfl Joins.sc rfl rfl h4 rfl)) ?_;refine dT 2 ?_;refine dT 3 ?_;refine WPD.doneW (by kernel_rfl) ?_;exact wq [1,0]
 (iterate 4 refine sp ?_);obtain ⟨x4,h5,H⟩:=bnd H;refine WPL.qq (q_index_row sl66 rfl rfl rfl (ixs h5)) ?_;refine WPL.s (s_store_row (j:=(Int.toNat 256)) (d:=1) sz3 rfl rfl rfl rfl Joins.sc (ixl h5)) ?_;refine sp ?_;refine WP.seq ?_;(iterate 6 refine sp ?_);refine WP.cv (Cv.weak (E':=((((((Env.none.upd 0 (.ro (Rd.slice rdS_deflate_Item) false x1)).upd 3 (.whole 0)).upd 4 (.whole 1)).upd 33 (.ro (Rd.slice rdS_deflate_Item) false x1)).upd 34 (.lit (.int .i64 ((List.length x1:Nat):Int)))).upd 35 (.lit (.int .i64 0)))) (M':=((Mem.nil.push (.row 3 (Rd.int .i64) (List.set (List.replicate (Int.toNat 286) (0:Int)) (Int.toNat 256) 1))).push (.row 3 (Rd.int .i64) (List.replicate (Int.toNat 30) (0:Int))))) [0,1] hnp ⟨rfl,AA2,by decide,rfl,trivial⟩ (LeE.u (LeE.u (LeE.u (LeE.u (LeE.u (LeE.u (LeE.none rfl rfl)))))))) ?_;obtain ⟨⟨x5,x6⟩,H2,H⟩:=bnd H;refine mo (.exit 0) (((Env.none.upd 0 (.ro (Rd.slice rdS_deflate_Item) false x1)).upd 3 (.whole 0)).upd 4 (.whole 1)) ((Mem.nil.push (.row 3 (Rd.int .i64) x5)).push (.row 3 (Rd.int .i64) x6)) ?_ ?_
 · refine WP.loop (β:=Int × (List Int) × (List Int)) (fun n b=>g_deflate_dynamic_l0 k x1 n b.1 b.2.1 b.2.2=some (x5,x6)) (fun b=>((((((Env.none.upd 0 (.ro (Rd.slice rdS_deflate_Item) false x1)).upd 3 (.whole 0)).upd 4 (.whole 1)).upd 33 (.ro (Rd.slice rdS_deflate_Item) false x1)).upd 34 (.lit (.int .i64 ((List.length x1:Nat):Int)))).upd 35 (.lit (.int .i64 b.1)))) (fun b=>((Mem.nil.push (.row 3 (Rd.int .i64) b.2.1)).push (.row 3 (Rd.int .i64) b.2.2))) k (0,(List.set (List.replicate (Int.toNat 286) (0:Int)) (Int.toNat 256) 1),(List.replicate (Int.toNat 30) (0:Int))) H2 rfl rfl ?_;rintro n ⟨x7,x8,x9⟩ H;obtain _ | n:=n
   · exact nf rfl H
   rw [g_deflate_dynamic_l0.eq_2] at H;show WP _ _ _ _ ((((((Env.none.upd 0 (.ro (Rd.slice rdS_deflate_Item) false x1)).upd 3 (.whole 0)).upd 4 (.whole 1)).upd 33 (.ro (Rd.slice rdS_deflate_Item) false x1)).upd 34 (.lit (.int .i64 ((List.length x1:Nat):Int)))).upd 35 (.lit (.int .i64 x7))) ((Mem.nil.push (.row 3 (Rd.int .i64) x8)).push (.row 3 (Rd.int .i64) x9)) _;refine sp ?_;obtain ⟨x10,h6,H⟩:=bnd H;refine sn (nm_bool h6) ?_;refine sp ?_;refine WP.seq ?_;refine cq H (fun hb1 H=>?_) fun hb1 H=>?_
   · (iterate 3 refine sp ?_);refine WP.seq ?_;obtain ⟨⟨x11,x12⟩,H3,H⟩:=bnd H;refine mo .normal ((((((Env.none.upd 0 (.ro (Rd.slice rdS_deflate_Item) false x1)).upd 3 (.whole 0)).upd 4 (.whole 1)).upd 33 (.ro (Rd.slice rdS_deflate_Item) false x1)).upd 34 (.lit (.int .i64 ((List.length x1:Nat):Int)))).upd 35 (.lit (.int .i64 x7))) ((Mem.nil.push (.row 3 (Rd.int .i64) x11)).push (.row 3 (Rd.int .i64) x12)) ?_ ?_
     · clear H;have H:=H3;clear H3;(iterate 2 refine sp ?_);obtain ⟨x13,h7,H⟩:=bnd H;refine sp ?_;refine WPL.qq (q_load_roag ag36 rfl rfl S_deflate_Item.sp) ?_;(iterate 3 refine sp ?_);refine WP.seq ?_;(iterate 5 refine sp ?_);refine cq H (fun hb2 H=>?_) fun hb2 H=>?_
       · (iterate 4 refine sp ?_);obtain ⟨x14,h8,H⟩:=bnd H;refine WPL.qq (q_index_row sl66 rfl rfl rfl (ixs h8)) ?_;refine WPL.qq (q_load_row (j:=(Int.toNat x13.fByte)) sc3 rfl rfl (ixj h8)) ?_;refine sp ?_;obtain ⟨x15,h9,H⟩:=bnd H;refine WPL.qq (q_index_row sl66 rfl rfl rfl (ixs h9)) ?_;refine WPL.s (s_store_row (j:=(Int.toNat x13.fByte)) (d:=(IntKind.wrap .i64 (x14+1))) sz3 rfl rfl rfl rfl Joins.sc (ixl h9)) ?_;(iterate 2 refine sp ?_);obtain ⟨rfl,rfl⟩:=j2 H;exact wq [0,1] (Then.x (InBlock.x0 r3))
       (iterate 6 refine sp ?_);obtain ⟨⟨x16,x17,x18⟩,h9,H⟩:=bnd H;refine WPL.c (rc [] [] 3 [] (s_deflate_lit k x13.fLen x16 x17 x18 h9)) rfl ?_;(iterate 11 refine sp ?_);obtain ⟨x19,h10,H⟩:=bnd H;refine WPL.qq (q_index_row sl66 rfl rfl rfl (ixs h10)) ?_;refine WPL.qq (q_load_row (j:=(Int.toNat x16)) sc3 rfl rfl (ixj h10)) ?_;refine sp ?_;obtain ⟨x20,h11,H⟩:=bnd H;refine WPL.qq (q_index_row sl66 rfl rfl rfl (ixs h11)) ?_;refine WPL.s (s_store_row (j:=(Int.toNat x16)) (d:=(IntKind.wrap .i64 (x19+1))) sz3 rfl rfl rfl rfl Joins.sc (ixl h11)) ?_;(iterate 4 refine sp ?_);obtain ⟨⟨x21,x22,x23⟩,h11,H⟩:=bnd H;refine WPL.c (rc [] [] 3 [] (s_deflate_dist k x13.fDist x21 x22 x23 h11)) rfl ?_;(iterate 9 refine sp ?_);obtain ⟨x24,h12,H⟩:=bnd H;refine WPL.qq (q_index_row sl66 rfl rfl rfl (ixs h12)) ?_;refine WPL.qq (q_load_row (j:=(Int.toNat x21)) sc3 rfl rfl (ixj h12)) ?_;refine sp ?_;obtain ⟨x25,h13,H⟩:=bnd H;refine WPL.qq (q_index_row sl66 rfl rfl rfl (ixs h13)) ?_;refine WPL.s (s_store_row (j:=(Int.toNat x21)) (d:=(IntKind.wrap .i64 (x24+1))) sz3 rfl rfl rfl rfl Joins.sc (ixl h13)) ?_;refine WPL.nilW ?_;obtain ⟨rfl,rfl⟩:=j2 H;exact wq [0,1] (InBlock.n r3)
     (iterate 5 refine sp ?_);refine WPL.nilW ?_;exact wq [0,1] (Then.n ⟨n,((IntKind.wrap .i64 (x7+1)),x11,x12),Nat.lt_succ_self n,H,rfl,rfl⟩)
   refine sp ?_;obtain ⟨rfl,rfl⟩:=j2 H;exact wq [0,1] (Then.x (Then.x r3))
 (iterate 5 refine sp ?_);obtain ⟨y1,h14,H⟩:=bnd H;rcases y1 with ⟨x26,x27⟩ | x28
 · refine WPL.c (rc [] [] 2 [0] (s_huff_Lengths k x5 15 (Sum.inl (x26,x27)) h14)) rfl ?_;(iterate 8 refine sp ?_);obtain ⟨y2,h15,H⟩:=bnd H;rcases y2 with ⟨x29,x30⟩ | x31
   · refine WPL.c (rc [] [] 2 [1] (s_huff_Lengths k x6 15 (Sum.inl (x29,x30)) h15)) rfl ?_;(iterate 8 refine sp ?_);obtain ⟨x32,h16,H⟩:=bnd H;refine WPL.c (rc [] [] 2 [] (s_deflate_shorter k x26 257 x32 h16)) rfl ?_;refine sp ?_;obtain ⟨x33,h17,H⟩:=bnd H;refine WPL.c (rc [] [] 2 [] (s_deflate_shorter k x29 1 x33 h17)) rfl ?_;(iterate 6 refine sp ?_);refine WPL.d (d_buildSlice (ds:=([x32,x33]:List (List Int))) (R:=(Rd.slice (Rd.int .i64))) li120 rfl rfl rfl rfl rfl (JoinRows.cons (l:=[.ro (Rd.slice (Rd.int .i64)) false x32]) Joins.one rfl (JoinRows.cons (l:=[.ro (Rd.slice (Rd.int .i64)) false x33]) Joins.one rfl JoinRows.nil)) rfl rfl) rfl ?_;obtain ⟨y3,h18,H⟩:=bnd H;rcases y3 with x34 | x35
     · refine WPL.pW (runs_callP (s:=[2]) (t:=[2]) (N:=3) (bor:=[]) fn37 rfl (s_sc_Concat_int_int k ([x32,x33]:List (List Int)) (Sum.inl x34) h18) ⟨rfl,AA1,by decide,rfl,trivial⟩ rfl trivial (.ren rfl rfl .nil) rfl BB1 rfl) ?_;have q0:=j1 H;subst q0;exact W.now (Then.p (BodyR.mkP trivial [] ⟨rfl,rfl⟩ ⟨rfl,trivial,by decide,rfl,trivial⟩ rfl rfl))
     refine WPL.c (rc [2] [2] 3 [] (s_sc_Concat_int_int k ([x32,x33]:List (List Int)) (Sum.inr x35) h18)) rfl ?_;obtain ⟨⟨x36,x37⟩,h19,H⟩:=bnd H;refine WPL.c (rc [] [] 3 [] (s_deflate_Lengths k x35 x36 x37 h19)) rfl ?_;(iterate 7 refine sp ?_);obtain ⟨h20,H⟩:=grd H;refine WPL.d (d_make (d:=(0:Int)) (R:=(Rd.int .i64)) li66 by3 rfl rfl rfl Joins.sc rfl rfl h20 rfl) rfl ?_;(iterate 2 refine sp ?_);refine WP.seq ?_;(iterate 6 refine sp ?_);refine WP.cv (Cv.weak (E':=(((((((((Env.none.upd 0 (.ro (Rd.slice rdS_deflate_Item) false x1)).upd 10 (.ro (Rd.slice (Rd.int .i64)) false x32)).upd 12 (.ro (Rd.slice (Rd.int .i64)) false x33)).upd 14 (.ro (Rd.slice (Rd.int .i64)) false x36)).upd 15 (.ro (Rd.slice (Rd.int .i64)) false x37)).upd 16 (.whole 0)).upd 99 (.ro (Rd.slice (Rd.int .i64)) false x36)).upd 100 (.lit (.int .i64 ((List.length x36:Nat):Int)))).upd 101 (.lit (.int .i64 0)))) (M':=(Mem.nil.push (.row 3 (Rd.int .i64) (List.replicate (Int.toNat 19) (0:Int))))) [3] hnp ⟨rfl,AA1,by decide,rfl,trivial⟩ (LeE.u (LeE.u (LeE.u (LeE.u (LeE.u (LeE.u (LeE.u (LeE.u (LeE.u (LeE.none rfl rfl))))))))))) ?_;obtain ⟨x38,H4,H⟩:=bnd H;refine mo (.exit 2) ((((((Env.none.upd 0 (.ro (Rd.slice rdS_deflate_Item) false x1)).upd 10 (.ro (Rd.slice (Rd.int .i64)) false x32)).upd 12 (.ro (Rd.slice (Rd.int .i64)) false x33)).upd 14 (.ro (Rd.slice (Rd.int .i64)) false x36)).upd 15 (.ro (Rd.slice (Rd.int .i64)) false x37)).upd 16 (.whole 0)) (Mem.nil.push (.row 3 (Rd.int .i64) x38)) ?_ ?_
     · refine WP.loop (β:=Int × (List Int)) (fun n b=>g_deflate_dynamic_l1 k x36 n b.1 b.2=some x38) (fun b=>(((((((((Env.none.upd 0 (.ro (Rd.slice rdS_deflate_Item) false x1)).upd 10 (.ro (Rd.slice (Rd.int .i64)) false x32)).upd 12 (.ro (Rd.slice (Rd.int .i64)) false x33)).upd 14 (.ro (Rd.slice (Rd.int .i64)) false x36)).upd 15 (.ro (Rd.slice (Rd.int .i64)) false x37)).upd 16 (.whole 0)).upd 99 (.ro (Rd.slice (Rd.int .i64)) false x36)).upd 100 (.lit (.int .i64 ((List.length x36:Nat):Int)))).upd 101 (.lit (.int .i64 b.1)))) (fun b=>(Mem.nil.push (.row 3 (Rd.int .i64) b.2))) k (0,(List.replicate (Int.toNat 19) (0:Int))) H4 rfl rfl ?_;rintro n ⟨x39,x40⟩ H;obtain _ | n:=n
       · exact nf rfl H
       rw [g_deflate_dynamic_l1.eq_2] at H;show WP _ _ _ _ (((((((((Env.none.upd 0 (.ro (Rd.slice rdS_deflate_Item) false x1)).upd 10 (.ro (Rd.slice (Rd.int .i64)) false x32)).upd 12 (.ro (Rd.slice (Rd.int .i64)) false x33)).upd 14 (.ro (Rd.slice (Rd.int .i64)) false x36)).upd 15 (.ro (Rd.slice (Rd.int .i64)) false x37)).upd 16 (.whole 0)).upd 99 (.ro (Rd.slice (Rd.int .i64)) false x36)).upd 100 (.lit (.int .i64 ((List.length x36:Nat):Int)))).upd 101 (.lit (.int .i64 x39))) (Mem.nil.push (.row 3 (Rd.int .i64) x40)) _;refine sp ?_;obtain ⟨x41,h21,H⟩:=bnd H;refine sn (nm_bool h21) ?_;refine sp ?_;refine WP.seq ?_;refine cq H (fun hb3 H=>?_) fun hb3 H=>?_
       · (iterate 3 refine sp ?_);refine WP.seq ?_;(iterate 2 refine sp ?_);obtain ⟨x42,h22,H⟩:=bnd H;(iterate 7 refine sp ?_);obtain ⟨x43,h23,H⟩:=bnd H;refine WPL.qq (q_index_row sl66 rfl rfl rfl (ixs h23)) ?_;refine WPL.qq (q_load_row (j:=(Int.toNat x42)) sc3 rfl rfl (ixj h23)) ?_;refine sp ?_;obtain ⟨x44,h24,H⟩:=bnd H;refine WPL.qq (q_index_row sl66 rfl rfl rfl (ixs h24)) ?_;refine WPL.s (s_store_row (j:=(Int.toNat x42)) (d:=(IntKind.wrap .i64 (x43+1))) sz3 rfl rfl rfl rfl Joins.sc (ixl h24)) ?_;refine WPL.nilW ?_;refine sp ?_;refine InBlock.n ?_;(iterate 4 refine sp ?_);refine WPL.nilW ?_;exact wq [0] (Then.n ⟨n,((IntKind.wrap .i64 (x39+1)),(List.set x40 (Int.toNat x42) (IntKind.wrap .i64 (x43+1)))),Nat.lt_succ_self n,H,rfl,rfl⟩)
       refine sp ?_;have q0:=j1 H;subst q0;exact wq [0] (Then.x (Then.x r3))
     (iterate 5 refine sp ?_);obtain ⟨y4,h25,H⟩:=bnd H;rcases y4 with ⟨x45,x46,x47⟩ | x48
     · refine WPL.c (rc [0] [0] 1 [] (s_deflate_row k x38 (Sum.inl (x45,x46,x47)) h25)) rfl ?_;(iterate 6 refine sp ?_);refine WP.seq ?_;(iterate 4 refine sp ?_);refine cq H (fun hb4 H=>?_) fun hb4 H=>?_
       · (iterate 4 refine sp ?_);refine W.cv (Cv.nilRo (Rd.int .u8) false 2 rfl) rfl ?_;have q0:=j1 H;subst q0;exact W.now (Then.r (mb []))
       (iterate 4 refine sp ?_);obtain ⟨_,h26,H⟩:=bnd H;refine WPL.c (rc [] [1] 2 [] (s_bits_NewWriter k h26)) rfl ?_;(iterate 4 refine sp ?_);obtain ⟨⟨x49,x50,x51⟩,h27,H⟩:=bnd H;refine WPL.c (rc [1] [1,2] 3 [] (s_bits_Writer_Put k 5 3 0 x49 x50 x51 h27) (hargs:=.ren rfl rfl (.ren rfl rfl (.ren rfl rfl .nil)))) rfl ?_;(iterate 5 refine sp ?_);obtain ⟨x52,h28,H⟩:=bnd H;refine sn (nm_int h28) ?_;refine sp ?_;obtain ⟨⟨x53,x54,x55⟩,h28,H⟩:=bnd H;refine WPL.c (rc [1,2] [1,3] 4 [] (s_bits_Writer_Put__b k (IntKind.wrap .u32 x52) 5 x50 x51 x53 x54 x55 h28) (hargs:=.ren rfl rfl (.ren rfl rfl (.ren rfl rfl .nil)))) rfl ?_;(iterate 5 refine sp ?_);obtain ⟨x56,h29,H⟩:=bnd H;refine sn (nm_int h29) ?_;refine sp ?_;obtain ⟨⟨x57,x58,x59⟩,h29,H⟩:=bnd H;refine WPL.c (rc [1,3] [1,4] 5 [] (s_bits_Writer_Put__b k (IntKind.wrap .u32 x56) 5 x54 x55 x57 x58 x59 h29) (hargs:=.ren rfl rfl (.ren rfl rfl (.ren rfl rfl .nil)))) rfl ?_;(iterate 3 refine sp ?_);obtain ⟨⟨x60,x61,x62⟩,h30,H⟩:=bnd H;refine WPL.c (rc [1,4] [1,5] 6 [] (s_bits_Writer_Put__b k 15 4 x58 x59 x60 x61 x62 h30) (hargs:=.ren rfl rfl (.ren rfl rfl (.ren rfl rfl .nil)))) rfl ?_;refine sp ?_;refine WP.seq ?_;refine sp ?_;refine WPL.qq (q_buildC (l:=[.lit (.int .i64 (List.getD ([16,17,18,0,8,7,9,6,10,5,11,4,12,3,13,2,14,1,15]:List Int) 0 (0:Int))),.lit (.int .i64 (List.getD ([16,17,18,0,8,7,9,6,10,5,11,4,12,3,13,2,14,1,15]:List Int) 1 (0:Int))),.lit (.int .i64 (List.getD ([16,17,18,0,8,7,9,6,10,5,11,4,12,3,13,2,14,1,15]:List Int) 2 (0:Int))),.lit (.int .i64 (List.getD ([16,17,18,0,8,7,9,6,10,5,11,4,12,3,13,2,14,1,15]:List Int) 3 (0:Int))),.lit (.int .i64 (List.getD ([16,17,18,0,8,7,9,6,10,5,11,4,12,3,13,2,14,1,15]:List Int) 4 (0:Int))),.lit (.int .i64 (List.getD ([16,17,18,0,8,7,9,6,10,5,11,4,12,3,13,2,14,1,15]:List Int) 5 (0:Int))),.lit (.int .i64 (List.getD ([16,17,18,0,8,7,9,6,10,5,11,4,12,3,13,2,14,1,15]:List Int) 6 (0:Int))),.lit (.int .i64 (List.getD ([16,17,18,0,8,7,9,6,10,5,11,4,12,3,13,2,14,1,15]:List Int) 7 (0:Int))),.lit (.int .i64 (List.getD ([16,17,18,0,8,7,9,6,10,5,11,4,12,3,13,2,14,1,15]:List Int) 8 (0:Int))),.lit (.int .i64 (List.getD ([16,17,18,0,8,7,9,6,10,5,11,4,12,3,13,2,14,1,15]:List Int) 9 (0:Int))),.lit (.int .i64 (List.getD ([16,17,18,0,8,7,9,6,10,5,11,4,12,3,13,2,14,1,15]:List Int) 10 (0:Int))),.lit (.int .i64 (List.getD ([16,17,18,0,8,7,9,6,10,5,11,4,12,3,13,2,14,1,15]:List Int) 11 (0:Int))),.lit (.int .i64 (List.getD ([16,17,18,0,8,7,9,6,10,5,11,4,12,3,13,2,14,1,15]:List Int) 12 (0:Int))),.lit (.int .i64 (List.getD ([16,17,18,0,8,7,9,6,10,5,11,4,12,3,13,2,14,1,15]:List Int) 13 (0:Int))),.lit (.int .i64 (List.getD ([16,17,18,0,8,7,9,6,10,5,11,4,12,3,13,2,14,1,15]:List Int) 14 (0:Int))),.lit (.int .i64 (List.getD ([16,17,18,0,8,7,9,6,10,5,11,4,12,3,13,2,14,1,15]:List Int) 15 (0:Int))),.lit (.int .i64 (List.getD ([16,17,18,0,8,7,9,6,10,5,11,4,12,3,13,2,14,1,15]:List Int) 16 (0:Int))),.lit (.int .i64 (List.getD ([16,17,18,0,8,7,9,6,10,5,11,4,12,3,13,2,14,1,15]:List Int) 17 (0:Int))),.lit (.int .i64 (List.getD ([16,17,18,0,8,7,9,6,10,5,11,4,12,3,13,2,14,1,15]:List Int) 18 (0:Int)))]) bu79 (by kernel_rfl) (by kernel_rfl)) ?_;(iterate 3 refine sp ?_);refine WP.cv (Cv.weak (E':=(((((((((Env.none.upd 0 (.ro (Rd.slice rdS_deflate_Item) false x1)).upd 10 (.ro (Rd.slice (Rd.int .i64)) false x32)).upd 12 (.ro (Rd.slice (Rd.int .i64)) false x33)).upd 14 (.ro (Rd.slice (Rd.int .i64)) false x36)).upd 15 (.ro (Rd.slice (Rd.int .i64)) false x37)).upd 19 (.ro (Rd.slice (Rd.int .i64)) false x45)).upd 21 (.ptr 0 0)).upd 136 (.agg [.lit (.int .i64 (List.getD ([16,17,18,0,8,7,9,6,10,5,11,4,12,3,13,2,14,1,15]:List Int) 0 (0:Int))),.lit (.int .i64 (List.getD ([16,17,18,0,8,7,9,6,10,5,11,4,12,3,13,2,14,1,15]:List Int) 1 (0:Int))),.lit (.int .i64 (List.getD ([16,17,18,0,8,7,9,6,10,5,11,4,12,3,13,2,14,1,15]:List Int) 2 (0:Int))),.lit (.int .i64 (List.getD ([16,17,18,0,8,7,9,6,10,5,11,4,12,3,13,2,14,1,15]:List Int) 3 (0:Int))),.lit (.int .i64 (List.getD ([16,17,18,0,8,7,9,6,10,5,11,4,12,3,13,2,14,1,15]:List Int) 4 (0:Int))),.lit (.int .i64 (List.getD ([16,17,18,0,8,7,9,6,10,5,11,4,12,3,13,2,14,1,15]:List Int) 5 (0:Int))),.lit (.int .i64 (List.getD ([16,17,18,0,8,7,9,6,10,5,11,4,12,3,13,2,14,1,15]:List Int) 6 (0:Int))),.lit (.int .i64 (List.getD ([16,17,18,0,8,7,9,6,10,5,11,4,12,3,13,2,14,1,15]:List Int) 7 (0:Int))),.lit (.int .i64 (List.getD ([16,17,18,0,8,7,9,6,10,5,11,4,12,3,13,2,14,1,15]:List Int) 8 (0:Int))),.lit (.int .i64 (List.getD ([16,17,18,0,8,7,9,6,10,5,11,4,12,3,13,2,14,1,15]:List Int) 9 (0:Int))),.lit (.int .i64 (List.getD ([16,17,18,0,8,7,9,6,10,5,11,4,12,3,13,2,14,1,15]:List Int) 10 (0:Int))),.lit (.int .i64 (List.getD ([16,17,18,0,8,7,9,6,10,5,11,4,12,3,13,2,14,1,15]:List Int) 11 (0:Int))),.lit (.int .i64 (List.getD ([16,17,18,0,8,7,9,6,10,5,11,4,12,3,13,2,14,1,15]:List Int) 12 (0:Int))),.lit (.int .i64 (List.getD ([16,17,18,0,8,7,9,6,10,5,11,4,12,3,13,2,14,1,15]:List Int) 13 (0:Int))),.lit (.int .i64 (List.getD ([16,17,18,0,8,7,9,6,10,5,11,4,12,3,13,2,14,1,15]:List Int) 14 (0:Int))),.lit (.int .i64 (List.getD ([16,17,18,0,8,7,9,6,10,5,11,4,12,3,13,2,14,1,15]:List Int) 15 (0:Int))),.lit (.int .i64 (List.getD ([16,17,18,0,8,7,9,6,10,5,11,4,12,3,13,2,14,1,15]:List Int) 16 (0:Int))),.lit (.int .i64 (List.getD ([16,17,18,0,8,7,9,6,10,5,11,4,12,3,13,2,14,1,15]:List Int) 17 (0:Int))),.lit (.int .i64 (List.getD ([16,17,18,0,8,7,9,6,10,5,11,4,12,3,13,2,14,1,15]:List Int) 18 (0:Int)))])).upd 137 (.lit (.int .i64 0)))) (M':=((Mem.nil.push (.cells 101 [.whole 1,.lit (.int .i64 x61)])).push (.row 5 (Rd.int .u8) x62))) [1,5] hnp ⟨rfl,AA2,by decide,rfl,trivial⟩ (LeE.u (LeE.u (LeE.u (LeE.u (LeE.u (LeE.u (LeE.u (LeE.u (LeE.u (LeE.none rfl rfl))))))))))) ?_;obtain ⟨⟨x63,x64⟩,H5,H⟩:=bnd H;refine mo (.exit 4) (((((((Env.none.upd 0 (.ro (Rd.slice rdS_deflate_Item) false x1)).upd 10 (.ro (Rd.slice (Rd.int .i64)) false x32)).upd 12 (.ro (Rd.slice (Rd.int .i64)) false x33)).upd 14 (.ro (Rd.slice (Rd.int .i64)) false x36)).upd 15 (.ro (Rd.slice (Rd.int .i64)) false x37)).upd 19 (.ro (Rd.slice (Rd.int .i64)) false x45)).upd 21 (.ptr 0 0)) ((Mem.nil.push (.cells 101 [.whole 1,.lit (.int .i64 x63)])).push (.row 5 (Rd.int .u8) x64)) ?_ ?_
       · refine WP.loop (β:=Int × Int × (List Int)) (fun n b=>g_deflate_dynamic_l2 k x45 n b.1 b.2.1 b.2.2=some (x63,x64)) (fun b=>(((((((((Env.none.upd 0 (.ro (Rd.slice rdS_deflate_Item) false x1)).upd 10 (.ro (Rd.slice (Rd.int .i64)) false x32)).upd 12 (.ro (Rd.slice (Rd.int .i64)) false x33)).upd 14 (.ro (Rd.slice (Rd.int .i64)) false x36)).upd 15 (.ro (Rd.slice (Rd.int .i64)) false x37)).upd 19 (.ro (Rd.slice (Rd.int .i64)) false x45)).upd 21 (.ptr 0 0)).upd 136 (.agg [.lit (.int .i64 (List.getD ([16,17,18,0,8,7,9,6,10,5,11,4,12,3,13,2,14,1,15]:List Int) 0 (0:Int))),.lit (.int .i64 (List.getD ([16,17,18,0,8,7,9,6,10,5,11,4,12,3,13,2,14,1,15]:List Int) 1 (0:Int))),.lit (.int .i64 (List.getD ([16,17,18,0,8,7,9,6,10,5,11,4,12,3,13,2,14,1,15]:List Int) 2 (0:Int))),.lit (.int .i64 (List.getD ([16,17,18,0,8,7,9,6,10,5,11,4,12,3,13,2,14,1,15]:List Int) 3 (0:Int))),.lit (.int .i64 (List.getD ([16,17,18,0,8,7,9,6,10,5,11,4,12,3,13,2,14,1,15]:List Int) 4 (0:Int))),.lit (.int .i64 (List.getD ([16,17,18,0,8,7,9,6,10,5,11,4,12,3,13,2,14,1,15]:List Int) 5 (0:Int))),.lit (.int .i64 (List.getD ([16,17,18,0,8,7,9,6,10,5,11,4,12,3,13,2,14,1,15]:List Int) 6 (0:Int))),.lit (.int .i64 (List.getD ([16,17,18,0,8,7,9,6,10,5,11,4,12,3,13,2,14,1,15]:List Int) 7 (0:Int))),.lit (.int .i64 (List.getD ([16,17,18,0,8,7,9,6,10,5,11,4,12,3,13,2,14,1,15]:List Int) 8 (0:Int))),.lit (.int .i64 (List.getD ([16,17,18,0,8,7,9,6,10,5,11,4,12,3,13,2,14,1,15]:List Int) 9 (0:Int))),.lit (.int .i64 (List.getD ([16,17,18,0,8,7,9,6,10,5,11,4,12,3,13,2,14,1,15]:List Int) 10 (0:Int))),.lit (.int .i64 (List.getD ([16,17,18,0,8,7,9,6,10,5,11,4,12,3,13,2,14,1,15]:List Int) 11 (0:Int))),.lit (.int .i64 (List.getD ([16,17,18,0,8,7,9,6,10,5,11,4,12,3,13,2,14,1,15]:List Int) 12 (0:Int))),.lit (.int .i64 (List.getD ([16,17,18,0,8,7,9,6,10,5,11,4,12,3,13,2,14,1,15]:List Int) 13 (0:Int))),.lit (.int .i64 (List.getD ([16,17,18,0,8,7,9,6,10,5,11,4,12,3,13,2,14,1,15]:List Int) 14 (0:Int))),.lit (.int .i64 (List.getD ([16,17,18,0,8,7,9,6,10,5,11,4,12,3,13,2,14,1,15]:List Int) 15 (0:Int))),.lit (.int .i64 (List.getD ([16,17,18,0,8,7,9,6,10,5,11,4,12,3,13,2,14,1,15]:List Int) 16 (0:Int))),.lit (.int .i64 (List.getD ([16,17,18,0,8,7,9,6,10,5,11,4,12,3,13,2,14,1,15]:List Int) 17 (0:Int))),.lit (.int .i64 (List.getD ([16,17,18,0,8,7,9,6,10,5,11,4,12,3,13,2,14,1,15]:List Int) 18 (0:Int)))])).upd 137 (.lit (.int .i64 b.1)))) (fun b=>((Mem.nil.push (.cells 101 [.whole 1,.lit (.int .i64 b.2.1)])).push (.row 5 (Rd.int .u8) b.2.2))) k (0,x61,x62) H5 rfl rfl ?_;rintro n ⟨x65,x66,x67⟩ H;obtain _ | n:=n
         · exact nf rfl H
         rw [g_deflate_dynamic_l2.eq_2] at H;show WP _ _ _ _ (((((((((Env.none.upd 0 (.ro (Rd.slice rdS_deflate_Item) false x1)).upd 10 (.ro (Rd.slice (Rd.int .i64)) false x32)).upd 12 (.ro (Rd.slice (Rd.int .i64)) false x33)).upd 14 (.ro (Rd.slice (Rd.int .i64)) false x36)).upd 15 (.ro (Rd.slice (Rd.int .i64)) false x37)).upd 19 (.ro (Rd.slice (Rd.int .i64)) false x45)).upd 21 (.ptr 0 0)).upd 136 (.agg [.lit (.int .i64 (List.getD ([16,17,18,0,8,7,9,6,10,5,11,4,12,3,13,2,14,1,15]:List Int) 0 (0:Int))),.lit (.int .i64 (List.getD ([16,17,18,0,8,7,9,6,10,5,11,4,12,3,13,2,14,1,15]:List Int) 1 (0:Int))),.lit (.int .i64 (List.getD ([16,17,18,0,8,7,9,6,10,5,11,4,12,3,13,2,14,1,15]:List Int) 2 (0:Int))),.lit (.int .i64 (List.getD ([16,17,18,0,8,7,9,6,10,5,11,4,12,3,13,2,14,1,15]:List Int) 3 (0:Int))),.lit (.int .i64 (List.getD ([16,17,18,0,8,7,9,6,10,5,11,4,12,3,13,2,14,1,15]:List Int) 4 (0:Int))),.lit (.int .i64 (List.getD ([16,17,18,0,8,7,9,6,10,5,11,4,12,3,13,2,14,1,15]:List Int) 5 (0:Int))),.lit (.int .i64 (List.getD ([16,17,18,0,8,7,9,6,10,5,11,4,12,3,13,2,14,1,15]:List Int) 6 (0:Int))),.lit (.int .i64 (List.getD ([16,17,18,0,8,7,9,6,10,5,11,4,12,3,13,2,14,1,15]:List Int) 7 (0:Int))),.lit (.int .i64 (List.getD ([16,17,18,0,8,7,9,6,10,5,11,4,12,3,13,2,14,1,15]:List Int) 8 (0:Int))),.lit (.int .i64 (List.getD ([16,17,18,0,8,7,9,6,10,5,11,4,12,3,13,2,14,1,15]:List Int) 9 (0:Int))),.lit (.int .i64 (List.getD ([16,17,18,0,8,7,9,6,10,5,11,4,12,3,13,2,14,1,15]:List Int) 10 (0:Int))),.lit (.int .i64 (List.getD ([16,17,18,0,8,7,9,6,10,5,11,4,12,3,13,2,14,1,15]:List Int) 11 (0:Int))),.lit (.int .i64 (List.getD ([16,17,18,0,8,7,9,6,10,5,11,4,12,3,13,2,14,1,15]:List Int) 12 (0:Int))),.lit (.int .i64 (List.getD ([16,17,18,0,8,7,9,6,10,5,11,4,12,3,13,2,14,1,15]:List Int) 13 (0:Int))),.lit (.int .i64 (List.getD ([16,17,18,0,8,7,9,6,10,5,11,4,12,3,13,2,14,1,15]:List Int) 14 (0:Int))),.lit (.int .i64 (List.getD ([16,17,18,0,8,7,9,6,10,5,11,4,12,3,13,2,14,1,15]:List Int) 15 (0:Int))),.lit (.int .i64 (List.getD ([16,17,18,0,8,7,9,6,10,5,11,4,12,3,13,2,14,1,15]:List Int) 16 (0:Int))),.lit (.int .i64 (List.getD ([16,17,18,0,8,7,9,6,10,5,11,4,12,3,13,2,14,1,15]:List Int) 17 (0:Int))),.lit (.int .i64 (List.getD ([16,17,18,0,8,7,9,6,10,5,11,4,12,3,13,2,14,1,15]:List Int) 18 (0:Int)))])).upd 137 (.lit (.int .i64 x65))) ((Mem.nil.push (.cells 101 [.whole 1,.lit (.int .i64 x66)])).push (.row 5 (Rd.int .u8) x67)) _;(iterate 3 refine sp ?_);refine WP.seq ?_;refine cq H (fun hb5 H=>?_) fun hb5 H=>?_
         · (iterate 3 refine sp ?_);refine WP.seq ?_;(iterate 2 refine sp ?_);obtain ⟨h31,H⟩:=grd H;obtain ⟨x68,h32,H⟩:=bnd H;refine WPL.qq (q_nm (q_indexArrV (f:=(fun x=>.lit (.int .i64 x))) (l:=([16,17,18,0,8,7,9,6,10,5,11,4,12,3,13,2,14,1,15]:List Int)) (d0:=(0:Int)) ar79 sc3 rfl rfl h31) (nm_int h32)) ?_;(iterate 6 refine sp ?_);obtain ⟨x69,h33,H⟩:=bnd H;(iterate 3 refine sp ?_);obtain ⟨⟨x70,x71,x72⟩,h33,H⟩:=bnd H;refine WPL.c (rc [0,1] [0,2] 3 [] (s_bits_Writer_Put__b k (IntKind.wrap .u32 x69) 3 x66 x67 x70 x71 x72 h33) (hargs:=.ren rfl rfl (.ren rfl rfl (.ren rfl rfl .nil)))) rfl ?_;refine WPL.nilW ?_;refine sp ?_;refine InBlock.n ?_;(iterate 4 refine sp ?_);refine WPL.nilW ?_;exact wq [0,2] (Then.n ⟨n,((IntKind.wrap .i64 (x65+1)),x71,x72),Nat.lt_succ_self n,H,rfl,rfl⟩)
         refine sp ?_;obtain ⟨rfl,rfl⟩:=j2 H;exact wq [0,1] (Then.x (Then.x r3))
       (iterate 5 refine sp ?_);obtain ⟨⟨x73,x74⟩,h34,H⟩:=bnd H;refine WPL.c (rc [] [] 2 [] (s_huff_Codes k x45 x73 x74 h34)) rfl ?_;(iterate 7 refine sp ?_);refine WPL.qq (q_buildC (l:=[.lit (.int .i64 (List.getD ([0,0,0,0,0,0,0,0,0,0,0,0,0,0,0,0,2,3,7]:List Int) 0 (0:Int))),.lit (.int .i64 (List.getD ([0,0,0,0,0,0,0,0,0,0,0,0,0,0,0,0,2,3,7]:List Int) 1 (0:Int))),.lit (.int .i64 (List.getD ([0,0,0,0,0,0,0,0,0,0,0,0,0,0,0,0,2,3,7]:List Int) 2 (0:Int))),.lit (.int .i64 (List.getD ([0,0,0,0,0,0,0,0,0,0,0,0,0,0,0,0,2,3,7]:List Int) 3 (0:Int))),.lit (.int .i64 (List.getD ([0,0,0,0,0,0,0,0,0,0,0,0,0,0,0,0,2,3,7]:List Int) 4 (0:Int))),.lit (.int .i64 (List.getD ([0,0,0,0,0,0,0,0,0,0,0,0,0,0,0,0,2,3,7]:List Int) 5 (0:Int))),.lit (.int .i64 (List.getD ([0,0,0,0,0,0,0,0,0,0,0,0,0,0,0,0,2,3,7]:List Int) 6 (0:Int))),.lit (.int .i64 (List.getD ([0,0,0,0,0,0,0,0,0,0,0,0,0,0,0,0,2,3,7]:List Int) 7 (0:Int))),.lit (.int .i64 (List.getD ([0,0,0,0,0,0,0,0,0,0,0,0,0,0,0,0,2,3,7]:List Int) 8 (0:Int))),.lit (.int .i64 (List.getD ([0,0,0,0,0,0,0,0,0,0,0,0,0,0,0,0,2,3,7]:List Int) 9 (0:Int))),.lit (.int .i64 (List.getD ([0,0,0,0,0,0,0,0,0,0,0,0,0,0,0,0,2,3,7]:List Int) 10 (0:Int))),.lit (.int .i64 (List.getD ([0,0,0,0,0,0,0,0,0,0,0,0,0,0,0,0,2,3,7]:List Int) 11 (0:Int))),.lit (.int .i64 (List.getD ([0,0,0,0,0,0,0,0,0,0,0,0,0,0,0,0,2,3,7]:List Int) 12 (0:Int))),.lit (.int .i64 (List.getD ([0,0,0,0,0,0,0,0,0,0,0,0,0,0,0,0,2,3,7]:List Int) 13 (0:Int))),.lit (.int .i64 (List.getD ([0,0,0,0,0,0,0,0,0,0,0,0,0,0,0,0,2,3,7]:List Int) 14 (0:Int))),.lit (.int .i64 (List.getD ([0,0,0,0,0,0,0,0,0,0,0,0,0,0,0,0,2,3,7]:List Int) 15 (0:Int))),.lit (.int .i64 (List.getD ([0,0,0,0,0,0,0,0,0,0,0,0,0,0,0,0,2,3,7]:List Int) 16 (0:Int))),.lit (.int .i64 (List.getD ([0,0,0,0,0,0,0,0,0,0,0,0,0,0,0,0,2,3,7]:List Int) 17 (0:Int))),.lit (.int .i64 (List.getD ([0,0,0,0,0,0,0,0,0,0,0,0,0,0,0,0,2,3,7]:List Int) 18 (0:Int)))]) bu79 (by kernel_rfl) (by kernel_rfl)) ?_;(iterate 3 refine sp ?_);refine WP.seq ?_;(iterate 6 refine sp ?_);refine WP.cv (Cv.weak (E':=(((((((((((Env.none.upd 0 (.ro (Rd.slice rdS_deflate_Item) false x1)).upd 10 (.ro (Rd.slice (Rd.int .i64)) false x32)).upd 12 (.ro (Rd.slice (Rd.int .i64)) false x33)).upd 15 (.ro (Rd.slice (Rd.int .i64)) false x37)).upd 19 (.ro (Rd.slice (Rd.int .i64)) false x45)).upd 21 (.ptr 0 0)).upd 24 (.ro (Rd.slice (Rd.int .u32)) false x73)).upd 26 (.ptr 2 0)).upd 154 (.ro (Rd.slice (Rd.int .i64)) false x36)).upd 155 (.lit (.int .i64 ((List.length x36:Nat):Int)))).upd 156 (.lit (.int .i64 0)))) (M':=(((Mem.nil.push (.cells 101 [.whole 1,.lit (.int .i64 x63)])).push (.row 5 (Rd.int .u8) x64)).push (.cells 79 [.lit (.int .i64 (List.getD ([0,0,0,0,0,0,0,0,0,0,0,0,0,0,0,0,2,3,7]:List Int) 0 (0:Int))),.lit (.int .i64 (List.getD ([0,0,0,0,0,0,0,0,0,0,0,0,0,0,0,0,2,3,7]:List Int) 1 (0:Int))),.lit (.int .i64 (List.getD ([0,0,0,0,0,0,0,0,0,0,0,0,0,0,0,0,2,3,7]:List Int) 2 (0:Int))),.lit (.int .i64 (List.getD ([0,0,0,0,0,0,0,0,0,0,0,0,0,0,0,0,2,3,7]:List Int) 3 (0:Int))),.lit (.int .i64 (List.getD ([0,0,0,0,0,0,0,0,0,0,0,0,0,0,0,0,2,3,7]:List Int) 4 (0:Int))),.lit (.int .i64 (List.getD ([0,0,0,0,0,0,0,0,0,0,0,0,0,0,0,0,2,3,7]:List Int) 5 (0:Int))),.lit (.int .i64 (List.getD ([0,0,0,0,0,0,0,0,0,0,0,0,0,0,0,0,2,3,7]:List Int) 6 (0:Int))),.lit (.int .i64 (List.getD ([0,0,0,0,0,0,0,0,0,0,0,0,0,0,0,0,2,3,7]:List Int) 7 (0:Int))),.lit (.int .i64 (List.getD ([0,0,0,0,0,0,0,0,0,0,0,0,0,0,0,0,2,3,7]:List Int) 8 (0:Int))),.lit (.int .i64 (List.getD ([0,0,0,0,0,0,0,0,0,0,0,0,0,0,0,0,2,3,7]:List Int) 9 (0:Int))),.lit (.int .i64 (List.getD ([0,0,0,0,0,0,0,0,0,0,0,0,0,0,0,0,2,3,7]:List Int) 10 (0:Int))),.lit (.int .i64 (List.getD ([0,0,0,0,0,0,0,0,0,0,0,0,0,0,0,0,2,3,7]:List Int) 11 (0:Int))),.lit (.int .i64 (List.getD ([0,0,0,0,0,0,0,0,0,0,0,0,0,0,0,0,2,3,7]:List Int) 12 (0:Int))),.lit (.int .i64 (List.getD ([0,0,0,0,0,0,0,0,0,0,0,0,0,0,0,0,2,3,7]:List Int) 13 (0:Int))),.lit (.int .i64 (List.getD ([0,0,0,0,0,0,0,0,0,0,0,0,0,0,0,0,2,3,7]:List Int) 14 (0:Int))),.lit (.int .i64 (List.getD ([0,0,0,0,0,0,0,0,0,0,0,0,0,0,0,0,2,3,7]:List Int) 15 (0:Int))),.lit (.int .i64 (List.getD ([0,0,0,0,0,0,0,0,0,0,0,0,0,0,0,0,2,3,7]:List Int) 16 (0:Int))),.lit (.int .i64 (List.getD ([0,0,0,0,0,0,0,0,0,0,0,0,0,0,0,0,2,3,7]:List Int) 17 (0:Int))),.lit (.int .i64 (List.getD ([0,0,0,0,0,0,0,0,0,0,0,0,0,0,0,0,2,3,7]:List Int) 18 (0:Int)))]))) [0,1,2] hnp ⟨rfl,AA3,by decide,rfl,trivial⟩ (LeE.u (LeE.u (LeE.u (LeE.u (LeE.u (LeE.u (LeE.u (LeE.u (LeE.u (LeE.u (LeE.u (LeE.none rfl rfl))))))))))))) ?_;obtain ⟨⟨x75,x76⟩,H6,H⟩:=bnd H;refine mo (.exit 6) ((((Env.none.upd 0 (.ro (Rd.slice rdS_deflate_Item) false x1)).upd 10 (.ro (Rd.slice (Rd.int .i64)) false x32)).upd 12 (.ro (Rd.slice (Rd.int .i64)) false x33)).upd 21 (.ptr 0 0)) ((Mem.nil.push (.cells 101 [.whole 1,.lit (.int .i64 x75)])).push (.row 5 (Rd.int .u8) x76)) ?_ ?_
       · refine WP.loop (β:=Int × Int × (List Int)) (fun n b=>g_deflate_dynamic_l3 k x36 x37 x45 x73 n b.1 b.2.1 b.2.2=some (x75,x76)) (fun b=>(((((((((((Env.none.upd 0 (.ro (Rd.slice rdS_deflate_Item) false x1)).upd 10 (.ro (Rd.slice (Rd.int .i64)) false x32)).upd 12 (.ro (Rd.slice (Rd.int .i64)) false x33)).upd 15 (.ro (Rd.slice (Rd.int .i64)) false x37)).upd 19 (.ro (Rd.slice (Rd.int .i64)) false x45)).upd 21 (.ptr 0 0)).upd 24 (.ro (Rd.slice (Rd.int .u32)) false x73)).upd 26 (.ptr 2 0)).upd 154 (.ro (Rd.slice (Rd.int .i64)) false x36)).upd 155 (.lit (.int .i64 ((List.length x36:Nat):Int)))).upd 156 (.lit (.int .i64 b.1)))) (fun b=>(((Mem.nil.push (.cells 101 [.whole 1,.lit (.int .i64 b.2.1)])).push (.row 5 (Rd.int .u8) b.2.2)).push (.cells 79 [.lit (.int .i64 (List.getD ([0,0,0,0,0,0,0,0,0,0,0,0,0,0,0,0,2,3,7]:List Int) 0 (0:Int))),.lit (.int .i64 (List.getD ([0,0,0,0,0,0,0,0,0,0,0,0,0,0,0,0,2,3,7]:List Int) 1 (0:Int))),.lit (.int .i64 (List.getD ([0,0,0,0,0,0,0,0,0,0,0,0,0,0,0,0,2,3,7]:List Int) 2 (0:Int))),.lit (.int .i64 (List.getD ([0,0,0,0,0,0,0,0,0,0,0,0,0,0,0,0,2,3,7]:List Int) 3 (0:Int))),.lit (.int .i64 (List.getD ([0,0,0,0,0,0,0,0,0,0,0,0,0,0,0,0,2,3,7]:List Int) 4 (0:Int))),.lit (.int .i64 (List.getD ([0,0,0,0,0,0,0,0,0,0,0,0,0,0,0,0,2,3,7]:List Int) 5 (0:Int))),.lit (.int .i64 (List.getD ([0,0,0,0,0,0,0,0,0,0,0,0,0,0,0,0,2,3,7]:List Int) 6 (0:Int))),.lit (.int .i64 (List.getD ([0,0,0,0,0,0,0,0,0,0,0,0,0,0,0,0,2,3,7]:List Int) 7 (0:Int))),.lit (.int .i64 (List.getD ([0,0,0,0,0,0,0,0,0,0,0,0,0,0,0,0,2,3,7]:List Int) 8 (0:Int))),.lit (.int .i64 (List.getD ([0,0,0,0,0,0,0,0,0,0,0,0,0,0,0,0,2,3,7]:List Int) 9 (0:Int))),.lit (.int .i64 (List.getD ([0,0,0,0,0,0,0,0,0,0,0,0,0,0,0,0,2,3,7]:List Int) 10 (0:Int))),.lit (.int .i64 (List.getD ([0,0,0,0,0,0,0,0,0,0,0,0,0,0,0,0,2,3,7]:List Int) 11 (0:Int))),.lit (.int .i64 (List.getD ([0,0,0,0,0,0,0,0,0,0,0,0,0,0,0,0,2,3,7]:List Int) 12 (0:Int))),.lit (.int .i64 (List.getD ([0,0,0,0,0,0,0,0,0,0,0,0,0,0,0,0,2,3,7]:List Int) 13 (0:Int))),.lit (.int .i64 (List.getD ([0,0,0,0,0,0,0,0,0,0,0,0,0,0,0,0,2,3,7]:List Int) 14 (0:Int))),.lit (.int .i64 (List.getD ([0,0,0,0,0,0,0,0,0,0,0,0,0,0,0,0,2,3,7]:List Int) 15 (0:Int))),.lit (.int .i64 (List.getD ([0,0,0,0,0,0,0,0,0,0,0,0,0,0,0,0,2,3,7]:List Int) 16 (0:Int))),.lit (.int .i64 (List.getD ([0,0,0,0,0,0,0,0,0,0,0,0,0,0,0,0,2,3,7]:List Int) 17 (0:Int))),.lit (.int .i64 (List.getD ([0,0,0,0,0,0,0,0,0,0,0,0,0,0,0,0,2,3,7]:List Int) 18 (0:Int)))]))) k (0,x63,x64) H6 rfl rfl ?_;rintro n ⟨x77,x78,x79⟩ H;obtain _ | n:=n
         · exact nf rfl H
         rw [g_deflate_dynamic_l3.eq_2] at H;show WP _ _ _ _ (((((((((((Env.none.upd 0 (.ro (Rd.slice rdS_deflate_Item) false x1)).upd 10 (.ro (Rd.slice (Rd.int .i64)) false x32)).upd 12 (.ro (Rd.slice (Rd.int .i64)) false x33)).upd 15 (.ro (Rd.slice (Rd.int .i64)) false x37)).upd 19 (.ro (Rd.slice (Rd.int .i64)) false x45)).upd 21 (.ptr 0 0)).upd 24 (.ro (Rd.slice (Rd.int .u32)) false x73)).upd 26 (.ptr 2 0)).upd 154 (.ro (Rd.slice (Rd.int .i64)) false x36)).upd 155 (.lit (.int .i64 ((List.length x36:Nat):Int)))).upd 156 (.lit (.int .i64 x77))) (((Mem.nil.push (.cells 101 [.whole 1,.lit (.int .i64 x78)])).push (.row 5 (Rd.int .u8) x79)).push (.cells 79 [.lit (.int .i64 (List.getD ([0,0,0,0,0,0,0,0,0,0,0,0,0,0,0,0,2,3,7]:List Int) 0 (0:Int))),.lit (.int .i64 (List.getD ([0,0,0,0,0,0,0,0,0,0,0,0,0,0,0,0,2,3,7]:List Int) 1 (0:Int))),.lit (.int .i64 (List.getD ([0,0,0,0,0,0,0,0,0,0,0,0,0,0,0,0,2,3,7]:List Int) 2 (0:Int))),.lit (.int .i64 (List.getD ([0,0,0,0,0,0,0,0,0,0,0,0,0,0,0,0,2,3,7]:List Int) 3 (0:Int))),.lit (.int .i64 (List.getD ([0,0,0,0,0,0,0,0,0,0,0,0,0,0,0,0,2,3,7]:List Int) 4 (0:Int))),.lit (.int .i64 (List.getD ([0,0,0,0,0,0,0,0,0,0,0,0,0,0,0,0,2,3,7]:List Int) 5 (0:Int))),.lit (.int .i64 (List.getD ([0,0,0,0,0,0,0,0,0,0,0,0,0,0,0,0,2,3,7]:List Int) 6 (0:Int))),.lit (.int .i64 (List.getD ([0,0,0,0,0,0,0,0,0,0,0,0,0,0,0,0,2,3,7]:List Int) 7 (0:Int))),.lit (.int .i64 (List.getD ([0,0,0,0,0,0,0,0,0,0,0,0,0,0,0,0,2,3,7]:List Int) 8 (0:Int))),.lit (.int .i64 (List.getD ([0,0,0,0,0,0,0,0,0,0,0,0,0,0,0,0,2,3,7]:List Int) 9 (0:Int))),.lit (.int .i64 (List.getD ([0,0,0,0,0,0,0,0,0,0,0,0,0,0,0,0,2,3,7]:List Int) 10 (0:Int))),.lit (.int .i64 (List.getD ([0,0,0,0,0,0,0,0,0,0,0,0,0,0,0,0,2,3,7]:List Int) 11 (0:Int))),.lit (.int .i64 (List.getD ([0,0,0,0,0,0,0,0,0,0,0,0,0,0,0,0,2,3,7]:List Int) 12 (0:Int))),.lit (.int .i64 (List.getD ([0,0,0,0,0,0,0,0,0,0,0,0,0,0,0,0,2,3,7]:List Int) 13 (0:Int))),.lit (.int .i64 (List.getD ([0,0,0,0,0,0,0,0,0,0,0,0,0,0,0,0,2,3,7]:List Int) 14 (0:Int))),.lit (.int .i64 (List.getD ([0,0,0,0,0,0,0,0,0,0,0,0,0,0,0,0,2,3,7]:List Int) 15 (0:Int))),.lit (.int .i64 (List.getD ([0,0,0,0,0,0,0,0,0,0,0,0,0,0,0,0,2,3,7]:List Int) 16 (0:Int))),.lit (.int .i64 (List.getD ([0,0,0,0,0,0,0,0,0,0,0,0,0,0,0,0,2,3,7]:List Int) 17 (0:Int))),.lit (.int .i64 (List.getD ([0,0,0,0,0,0,0,0,0,0,0,0,0,0,0,0,2,3,7]:List Int) 18 (0:Int)))])) _;refine sp ?_;obtain ⟨x80,h35,H⟩:=bnd H;refine sn (nm_bool h35) ?_;refine sp ?_;refine WP.seq ?_;refine cq H (fun hb6 H=>?_) fun hb6 H=>?_
         · (iterate 3 refine sp ?_);refine WP.seq ?_;(iterate 3 refine sp ?_);obtain ⟨x81,h36,H⟩:=bnd H;(iterate 5 refine sp ?_);refine WP.seq ?_;refine WP.regionD' 10 [] [] mixed rfl ?_;refine dT 0 ?_;refine dT 1 ?_;refine dT 2 ?_;obtain ⟨x82,h37,H⟩:=bnd H;refine dT 3 ?_;refine dT 4 ?_;refine dT 5 ?_;refine dT 6 ?_;obtain ⟨x83,h38,H⟩:=bnd H;refine dT 7 ?_;refine dT 8 ?_;obtain ⟨⟨x84,x85⟩,h38,H⟩:=bnd H;refine dE 9 [] [] rfl (rc [0,1] [0,3] 4 [] (s_deflate_put k x82 x83 x78 x79 x84 x85 h38) (hargs:=.ren rfl rfl (.ren rfl rfl (.ren rfl rfl .nil)))) ?_;refine WPD.doneW (by kernel_rfl) ?_;(iterate 2 refine sp ?_);refine WP.regionD' 10 [2] [] mixed rfl ?_;refine dT 0 ?_;refine dT 1 ?_;refine dT 2 ?_;obtain ⟨x86,h39,H⟩:=bnd H;refine dT 3 ?_;refine dT 4 ?_;refine dT 5 ?_;refine dT 6 ?_;obtain ⟨h39,H⟩:=grd H;refine WPD.tT 7 rfl (q_indexArr ar79 rfl rfl h39 rfl) ?_;refine WPD.take 8 rfl (by kernel_rfl) (q_load_arr (f:=(fun z:Int=>AVal.lit (.int .i64 z))) (d0:=(0:Int)) (xs:=([0,0,0,0,0,0,0,0,0,0,0,0,0,0,0,0,2,3,7]:List Int)) (n:=19) (off:=0) (j:=(Int.toNat x81)) sc3 rfl rfl rfl (natlt h39) (addone _ _)) rfl rfl ?_;obtain ⟨⟨x87,x88,x89⟩,h40,H⟩:=bnd H;refine dE 9 [2] [] rfl (rc [0,3] [0,4] 5 [] (s_bits_Writer_Put__b k (IntKind.wrap .u32 x86) (List.getD ([0,0,0,0,0,0,0,0,0,0,0,0,0,0,0,0,2,3,7]:List Int) (Int.toNat x81) (0:Int)) x84 x85 x87 x88 x89 h40) (hargs:=.ren rfl rfl (.ren rfl rfl (.ren rfl rfl .nil)))) ?_;refine WPD.doneW (by kernel_rfl) ?_;refine sp ?_;refine InBlock.n ?_;(iterate 4 refine sp ?_);refine WPL.nilW ?_;exact wq [0,4,2] (Then.n ⟨n,((IntKind.wrap .i64 (x77+1)),x88,x89),Nat.lt_succ_self n,H,rfl,rfl⟩)
         refine sp ?_;obtain ⟨rfl,rfl⟩:=j2 H;exact wq [0,1] (Then.x (Then.x r3))
       (iterate 7 refine sp ?_);obtain ⟨⟨x90,x91⟩,h41,H⟩:=bnd H;refine WPL.c (rc [0,1] [0,2,3] 4 [] (s_deflate_coded k x32 x33 x75 x76 x90 x91 h41) (hargs:=.ren rfl rfl (.ren rfl rfl (.ren rfl rfl .nil)))) rfl ?_;refine sp ?_;obtain ⟨⟨x92,x93⟩,h42,H⟩:=bnd H;refine WPL.c (rc [3,0,2] [3,0,4] 5 [] (s_deflate_coder_all k x1 x32 x33 x90 x91 x75 x76 x92 x93 h42)) rfl ?_;(iterate 3 refine sp ?_);obtain ⟨x94,h43,H⟩:=bnd H;refine WPL.c (rc [0,4] [0,5] 6 [] (s_bits_Writer_Done k x92 x93 x94 h43)) rfl ?_;(iterate 3 refine sp ?_);have q0:=j1 H;subst q0;exact W.now (mb [])
     refine WPL.pW (runs_callP (s:=[0]) (t:=[0]) (N:=1) (bor:=[]) fn38 rfl (s_deflate_row k x38 (Sum.inr x48) h25) ⟨rfl,AA1,by decide,rfl,trivial⟩ rfl trivial (.ren rfl rfl .nil) rfl BB1 rfl) ?_;have q0:=j1 H;subst q0;exact W.now (Then.p (BodyR.mkP trivial [] ⟨rfl,rfl⟩ ⟨rfl,trivial,by decide,rfl,trivial⟩ rfl rfl))
   refine WPL.pW (runs_callP (s:=[]) (t:=[]) (N:=2) (bor:=[1]) fn34 rfl (s_huff_Lengths k x6 15 (Sum.inr x31) h15) ⟨rfl,trivial,by decide,rfl,trivial⟩ rfl ⟨trivial,rfl,rfl,trivial⟩ (.row rfl rfl (.ren rfl rfl .nil)) rfl trivial rfl) ?_;have q0:=j1 H;subst q0;exact W.now (Then.p (BodyR.mkP trivial [] ⟨rfl,rfl⟩ ⟨rfl,trivial,by decide,rfl,trivial⟩ rfl rfl))
 refine WPL.pW (runs_callP (s:=[]) (t:=[]) (N:=2) (bor:=[0]) fn34 rfl (s_huff_Lengths k x5 15 (Sum.inr x28) h14) ⟨rfl,trivial,by decide,rfl,trivial⟩ rfl ⟨trivial,rfl,rfl,trivial⟩ (.row rfl rfl (.ren rfl rfl .nil)) rfl trivial rfl) ?_;have q0:=j1 H;subst q0;exact W.now (Then.p (BodyR.mkP trivial [] ⟨rfl,rfl⟩ ⟨rfl,trivial,by decide,rfl,trivial⟩ rfl rfl))
theorem s_deflate_Deflate (k:Nat) (x1:(List Int)) (x2:Int) (r:(((List Int) × Int) ⊕ ByteArray)) (H:g_deflate_Deflate k x1 x2=some r):Go.Q.Spec Try.prog 7 0 [.ro (Rd.slice (Rd.int .u8)) true x1,.lit (.int .i64 x2)] Mem.nil (fun o M=>match (generalizing:=false) r with | (Sum.inl (x3,x4))=>o=.ret (.tup [.ro (Rd.slice (Rd.int .u8)) false x3,.lit (.int .i64 x4)])∧M=Mem.nil | (Sum.inr x5)=>o=.pan (.ifc 9 (.lit (.string x5)))∧M=Mem.nil):=by
 unfold g_deflate_Deflate at H;refine bo Try.func7 [] [.tmp 4,.tmp 5] 49 fun cx hnp=>?_;(iterate 4 refine sp ?_);refine WP.seq ?_;refine WP.seq ?_;obtain ⟨x6,H1,H⟩:=bnd H;refine mo .normal (((Env.none.upd 0 (.ro (Rd.slice (Rd.int .u8)) true x1)).upd 1 (.lit (.int .i64 x2))).upd 15 (.lit (.bool x6))) Mem.nil ?_ ?_
 · clear H;have H:=H1;clear H1;(iterate 4 refine sp ?_);refine ws 12 H (fun hb1 H=>?_) fun hb1 H=>?_
   · (iterate 3 refine sp ?_);refine WPL.nilW ?_;have q0:=j1 H;subst q0;exact wq []
   (iterate 3 refine sp ?_);refine WPL.nilW ?_;have q0:=j1 H;subst q0;exact wq []
 (iterate 2 refine sp ?_);refine cq H (fun hb2 H=>?_) fun hb2 H=>?_
 · (iterate 5 refine sp ?_);refine W.cv (Cv.nilRo (Rd.int .u8) false 4 rfl) rfl ?_;have q0:=j1 H;subst q0;exact W.now (Then.r (mb []))
 (iterate 3 refine sp ?_);refine WP.seq ?_;(iterate 3 refine sp ?_);obtain ⟨x7,h1,H⟩:=bnd H;refine sn (nm_bool h1) ?_;refine sp ?_;refine cq H (fun hb3 H=>?_) fun hb3 H=>?_
 · (iterate 5 refine sp ?_);refine W.cv (Cv.nilRo (Rd.int .u8) false 4 rfl) rfl ?_;have q0:=j1 H;subst q0;exact W.now (Then.r (mb []))
 (iterate 5 refine sp ?_);obtain ⟨x8,h2,H⟩:=bnd H;refine WPL.c (rc [] [] 0 [] (s_deflate_stored k x1 x8 h2)) rfl ?_;(iterate 2 refine sp ?_);refine WP.seq ?_;(iterate 4 refine sp ?_);refine cq H (fun hb4 H=>?_) fun hb4 H=>?_
 · (iterate 6 refine sp ?_);have q0:=j1 H;subst q0;exact W.now (Then.r (mb []))
 (iterate 5 refine sp ?_);obtain ⟨x9,h3,H⟩:=bnd H;refine WPL.c (rc [] [] 0 [] (s_deflate_Parse k x1 x9 h3)) rfl ?_;(iterate 2 refine sp ?_);refine WP.seq ?_;obtain ⟨x10,H2,H⟩:=bnd H;refine mo .normal (((Env.none.upd 1 (.lit (.int .i64 x2))).upd 6 (.ro (Rd.slice (Rd.int .u8)) false x10)).upd 7 (.ro (Rd.slice rdS_deflate_Item) false x9)) Mem.nil ?_ ?_
 · clear H;have H:=H2;clear H2;(iterate 2 refine sp ?_);obtain ⟨x11,h4,H⟩:=bnd H;refine WPL.c (rc [] [] 0 [] (s_deflate_fixed k x9 x11 h4)) rfl ?_;(iterate 7 refine sp ?_);obtain ⟨x12,h5,H⟩:=bnd H;refine sn (nm_bool h5) ?_;refine sp ?_;refine cq H (fun hb5 H=>?_) fun hb5 H=>?_
   · (iterate 3 refine sp ?_);refine WPL.nilW ?_;have q0:=j1 H;subst q0;exact wq []
   refine sp ?_;have q0:=j1 H;subst q0;exact wq []
 (iterate 2 refine sp ?_);refine WP.seq ?_;obtain ⟨y1,H3,H⟩:=bnd H;refine WP.monoW (Q:=fun x E M=>match (generalizing:=false) y1 with | (Sum.inl x13)=>x=.panic (.ifc 9 (.lit (.string x13)))∧E=Env.none∧M=Mem.nil | (Sum.inr x14)=>x=.normal∧E=(Env.none.upd 6 (.ro (Rd.slice (Rd.int .u8)) false x14))∧M=Mem.nil) ?_ ?_
 · clear H;have H:=H3;clear H3;(iterate 4 refine sp ?_);refine cq H (fun hb6 H=>?_) fun hb6 H=>?_
   · (iterate 2 refine sp ?_);obtain ⟨y2,h6,H⟩:=bnd H;rcases y2 with x15 | x16
     · refine WPL.pW (runs_callP (s:=[]) (t:=[]) (N:=0) (bor:=[]) fn18 rfl (s_deflate_dynamic k x9 (Sum.inl x15) h6) ⟨rfl,trivial,by decide,rfl,trivial⟩ rfl trivial (.ren rfl rfl .nil) rfl trivial rfl) ?_;have q0:=j1 H;subst q0;exact W.wkP [] hnp (Then.p r3) ⟨rfl,trivial,by decide,rfl,trivial⟩ (LeE.none rfl rfl) rfl rfl
     refine WPL.c (rc [] [] 0 [] (s_deflate_dynamic k x9 (Sum.inr x16) h6)) rfl ?_;(iterate 4 refine sp ?_);obtain ⟨h7,H⟩:=grd H;refine WPL.qq (q_neqNilRo Try.underlying22 rfl h7) ?_;refine sp ?_;refine WPL.qg rfl rfl rfl aq rfl ?_;refine WPL.qg rfl rfl rfl aq rfl ?_;refine WPL.qg rfl rfl rfl aq rfl ?_;refine WPL.qg rfl rfl rfl aq rfl ?_;obtain ⟨x17,h8,H⟩:=bnd H;refine WPL.qg rfl rfl rfl (q_nm aq (nm_bool h8)) rfl ?_;(iterate 2 refine sp ?_);refine cq H (fun hb7 H=>?_) fun hb7 H=>?_
     · (iterate 3 refine sp ?_);refine WPL.nilW ?_;have q0:=j1 H;subst q0;exact wq []
     refine sp ?_;have q0:=j1 H;subst q0;exact wq []
   refine sp ?_;have q0:=j1 H;subst q0;exact wq []
 rcases y1 with x13 | x14
 · rintro _ _ _ ⟨rfl,rfl,rfl⟩;have q0:=j1 H;subst q0;exact W.now (Then.p (BodyR.mkP trivial [] ⟨rfl,rfl⟩ ⟨rfl,trivial,by decide,rfl,trivial⟩ rfl rfl))
 rintro _ _ _ ⟨rfl,rfl,rfl⟩;(iterate 8 refine sp ?_);have q0:=j1 H;subst q0;exact W.now (mb [])
theorem s_quirelaw01_Same (k:Nat) (x1:(List Int)) (x2:(List Int)) (x3:Bool) (H:g_quirelaw01_Same k x1 x2=some x3):Go.Q.Spec Try.prog 10 0 [.ro (Rd.slice (Rd.int .u8)) false x1,.ro (Rd.slice (Rd.int .u8)) true x2] Mem.nil (fun o M=>o=.ret (.lit (.bool x3))∧M=Mem.nil):=by
 unfold g_quirelaw01_Same at H;refine bo Try.func10 [] [.tmp 4] 10 fun cx hnp=>?_;(iterate 5 refine sp ?_);refine WPL.qq (q_bytes_str Try.underlying22 Try.underlying5 Try.underlying9 rfl) ?_;refine sp ?_;refine WPL.qq (q_bytes_str Try.underlying22 Try.underlying5 Try.underlying9 rfl) ?_;obtain ⟨x4,h1,H⟩:=bnd H;refine sn (nm_bool h1) ?_;(iterate 3 refine sp ?_);have q0:=j1 H;subst q0;exact W.now (mb [])
theorem s_quirelaw04_alive (k:Nat) (r:(Bool ⊕ ByteArray)) (H:g_quirelaw04_alive k=some r):Go.Q.Spec Try.prog 8 0 [] Mem.nil (fun o M=>match (generalizing:=false) r with | (Sum.inl x1)=>o=.ret (.lit (.bool x1))∧M=Mem.nil | (Sum.inr x2)=>o=.pan (.ifc 9 (.lit (.string x2)))∧M=Mem.nil):=by
 unfold g_quirelaw04_alive at H;refine bo Try.func8 [] [.tmp 0] 16 fun cx hnp=>?_;(iterate 4 refine sp ?_);refine WPL.d (d_buildSlice (ds:=([97]:List Int)) (R:=(Rd.int .u8)) li22 rfl rfl rfl rfl rfl (JoinRows.cons1 Joins.sc rfl JoinRows.nil) rfl rfl) rfl ?_;refine WPL.d (d_bytesConst Try.underlying22 Try.underlying5 rfl rfl rfl) rfl ?_;obtain ⟨y1,h1,H⟩:=bnd H;rcases y1 with ⟨x3,x4⟩ | x5
 · refine WPL.c (rc [] [] 1 [0] (s_deflate_Deflate k ([97]:List Int) 0 (Sum.inl (x3,x4)) h1)) rfl ?_;(iterate 6 refine sp ?_);refine WP.seq ?_;obtain ⟨x6,H1,H⟩:=bnd H;refine mo .normal (Env.none.upd 0 (.lit (.bool x6))) Mem.nil ?_ ?_
   · clear H;have H:=H1;clear H1;(iterate 4 refine sp ?_);refine ws 11 H (fun hb1 H=>?_) fun hb1 H=>?_
     · refine sp ?_;refine WPL.dg rfl rfl (lb hb1) (d_buildSlice (ds:=([1,1,0,254,255,97]:List Int)) (R:=(Rd.int .u8)) li22 rfl rfl rfl rfl rfl (JoinRows.cons1 Joins.sc rfl (JoinRows.cons1 Joins.sc rfl (JoinRows.cons1 Joins.sc rfl (JoinRows.cons1 Joins.sc rfl (JoinRows.cons1 Joins.sc rfl (JoinRows.cons1 Joins.sc rfl JoinRows.nil)))))) rfl rfl) rfl ?_;obtain ⟨x7,h2,H⟩:=bnd H;refine WPL.cg rfl rfl (lb hb1) (rc [] [] 2 [1] (s_quirelaw01_Same k x3 ([1,1,0,254,255,97]:List Int) x7 h2) (hargs:=.ren rfl rfl (.row rfl rfl .nil))) rfl ?_;(iterate 2 refine sp ?_);refine WPL.nilW ?_;have q0:=j1 H;subst q0;exact wq []
     (iterate 5 refine sp ?_);refine WPL.nilW ?_;have q0:=j1 H;subst q0;exact wq []
   (iterate 3 refine sp ?_);have q0:=j1 H;subst q0;exact W.now (mb [])
 refine WPL.pW (runs_callP (s:=[]) (t:=[]) (N:=1) (bor:=[0]) fn7 rfl (s_deflate_Deflate k ([97]:List Int) 0 (Sum.inr x5) h1) ⟨rfl,trivial,by decide,rfl,trivial⟩ rfl ⟨trivial,rfl,rfl,trivial⟩ (.row rfl rfl (.ren rfl rfl .nil)) rfl trivial rfl) ?_;have q0:=j1 H;subst q0;exact W.now (Then.p (BodyR.mkP trivial [] ⟨rfl,rfl⟩ ⟨rfl,trivial,by decide,rfl,trivial⟩ rfl rfl))
theorem s_deflate_items__b (k:Nat) (x1:(List Int)) (H:g_deflate_items k x1=some ()):Go.Q.Spec Try.prog 22 0 [.ro (Rd.slice (Rd.int .u8)) false x1] Mem.nil (fun o M=>o=.ret (.fn 50 [.ptr 0 0])∧M=(Mem.nil.push (.cells 22 [.ro (Rd.slice (Rd.int .u8)) false x1]))):=by
 unfold g_deflate_items at H;refine bo Try.func22 [] [.tmp 2] 4 fun cx hnp=>?_;(iterate 5 refine sp ?_);refine WPL.qq (q_makeFunc) ?_;(iterate 3 refine sp ?_);exact W.now (mb [0])
theorem s_deflate_matcher_learn__b (k:Nat) (x1:Int) (x2:(List Int)) (x3:Int) (x4:(List ((Int × Int × Int) × Int))) (x5:(List Int)) (x6:Int) (x7:(List ((Int × Int × Int) × Int))) (x8:(List Int)) (H:g_deflate_matcher_learn k x1 x2 x3 x4 x5=some (x6,x7,x8)):Go.Q.Spec Try.prog 77 2 [.ptr 0 0,.lit (.int .i64 x1)] (((Mem.nil.push (.cells 97 [.ro (Rd.slice (Rd.int .u8)) false x2,.mp 1,.whole 2,.lit (.int .i64 x3)])).push (.obj (mapO fk3 (Value.int .i64) x4))).push (.row 3 (Rd.int .i64) x5)) (fun o M=>o=.ret (.tup [])∧M=(((Mem.nil.push (.cells 97 [.ro (Rd.slice (Rd.int .u8)) false x2,.mp 1,.whole 2,.lit (.int .i64 x6)])).push (.obj (mapO fk3 (Value.int .i64) x7))).push (.row 3 (Rd.int .i64) x8))):=by
 unfold g_deflate_matcher_learn at H;refine bo Try.func77 [] [] 79 fun cx hnp=>?_;refine sp ?_;refine WP.cv (Cv.weak (E':=((Env.none.upd 0 (.ptr 0 0)).upd 1 (.lit (.int .i64 x1)))) (M':=(((Mem.nil.push (.cells 97 [.ro (Rd.slice (Rd.int .u8)) false x2,.mp 1,.whole 2,.lit (.int .i64 x3)])).push (.obj (mapO fk3 (Value.int .i64) x4))).push (.row 3 (Rd.int .i64) x5))) [0,1,2] hnp ⟨rfl,AA3,by decide,rfl,BB2⟩ (LeE.u (LeE.u (LeE.none rfl rfl)))) ?_;obtain ⟨⟨x9,x10,x11⟩,H1,H⟩:=bnd H;refine mo (.exit 0) Env.none (((Mem.nil.push (.cells 97 [.ro (Rd.slice (Rd.int .u8)) false x2,.mp 1,.whole 2,.lit (.int .i64 x9)])).push (.obj (mapO fk3 (Value.int .i64) x10))).push (.row 3 (Rd.int .i64) x11)) ?_ ?_
 · refine WP.loop (β:=Int × (List ((Int × Int × Int) × Int)) × (List Int)) (fun n b=>g_deflate_matcher_learn_l0 k x1 x2 n b.1 b.2.1 b.2.2=some (x9,x10,x11)) (fun b=>((Env.none.upd 0 (.ptr 0 0)).upd 1 (.lit (.int .i64 x1)))) (fun b=>(((Mem.nil.push (.cells 97 [.ro (Rd.slice (Rd.int .u8)) false x2,.mp 1,.whole 2,.lit (.int .i64 b.1)])).push (.obj (mapO fk3 (Value.int .i64) b.2.1))).push (.row 3 (Rd.int .i64) b.2.2))) k (x3,x4,x5) H1 rfl rfl ?_;rintro n ⟨x12,x13,x14⟩ H;obtain _ | n:=n
   · exact nf rfl H
   rw [g_deflate_matcher_learn_l0.eq_2] at H;show WP _ _ _ _ ((Env.none.upd 0 (.ptr 0 0)).upd 1 (.lit (.int .i64 x1))) (((Mem.nil.push (.cells 97 [.ro (Rd.slice (Rd.int .u8)) false x2,.mp 1,.whole 2,.lit (.int .i64 x12)])).push (.obj (mapO fk3 (Value.int .i64) x13))).push (.row 3 (Rd.int .i64) x14)) _;refine WP.seq ?_;refine WP.seq ?_;obtain ⟨x15,H2,H⟩:=bnd H;refine mo .normal (((Env.none.upd 0 (.ptr 0 0)).upd 1 (.lit (.int .i64 x1))).upd 25 (.lit (.bool x15))) (((Mem.nil.push (.cells 97 [.ro (Rd.slice (Rd.int .u8)) false x2,.mp 1,.whole 2,.lit (.int .i64 x12)])).push (.obj (mapO fk3 (Value.int .i64) x13))).push (.row 3 (Rd.int .i64) x14)) ?_ ?_
   · clear H;have H:=H2;clear H2;refine WP.regionD' 19 [0] [] mixed rfl ?_;refine dT 0 ?_;refine dT 1 ?_;refine dT 2 ?_;refine dT 4 ?_;refine dK 3 ?_;refine dT 5 ?_;refine dT 6 ?_;refine ds 13 H (fun hb1 H=>?_) fun hb1 H=>?_
     · refine dG 7 ?_;refine dG 8 ?_;refine dG 9 ?_;refine dG 12 ?_;refine dG 13 ?_;refine dG 14 ?_;refine dH 10 ?_;refine dG 11 ?_;refine dH 15 ?_;refine dG 16 ?_;obtain ⟨x16,h1,H⟩:=bnd H;refine dG 17 ?_ rfl rfl gv (q_nm aq (nm_bool h1));refine dT 18 ?_;refine WPD.doneW (by kernel_rfl) ?_;have q0:=j1 H;subst q0;exact wq [0,1,2]
     refine dP false 7 ?_;refine dP false 8 ?_;refine dP false 9 ?_;refine dP false 10 ?_;refine dP false 11 ?_;refine dP false 12 ?_;refine dP false 13 ?_;refine dP false 14 ?_;refine dP false 15 ?_;refine dP false 16 ?_;refine dP false 17 ?_;refine dT 18 ?_;refine WPD.doneW (by kernel_rfl) ?_;have q0:=j1 H;subst q0;exact wq [0,1,2]
   (iterate 2 refine sp ?_);refine cq H (fun hb2 H=>?_) fun hb2 H=>?_
   · (iterate 3 refine sp ?_);refine WP.seq ?_;refine sp ?_;refine WP.seq ?_;refine WP.regionD' 18 [0] [] mixed rfl ?_;refine dT 0 ?_;refine dT 1 ?_;refine dT 2 ?_;refine dT 4 ?_;refine dT 5 ?_;refine dT 6 ?_;refine dT 8 ?_;refine dT 9 ?_;refine dT 10 ?_;refine dK 3 ?_;refine dK 7 ?_;refine dK 11 ?_;refine dT 12 ?_;obtain ⟨h2,H⟩:=grd H;refine WPD.tT 13 rfl (q_slice_ro (i:=x12) (j:=(IntKind.wrap .i64 (x12+3))) sl22 rfl rfl ⟨_,rfl⟩ ⟨_,rfl⟩ h2) ?_;obtain ⟨h3,H⟩:=grd H;refine WPD.tT 14 rfl (q_sliceToArr (n:=3) (0:Int) ar136 rfl rfl h3) ?_;refine WPD.tT 15 rfl (q_load_roag ag136 rfl rfl Splits.arr) ?_;refine dE 16 [0] [] rfl (Does.runs (d_alloc ze136 rfl)) ?_;refine dS 17 [0] [] ?_;refine WPD.doneW (by kernel_rfl) ?_;(iterate 2 refine sp ?_);refine WP.seq ?_;refine WP.regionD' 11 [0,1,3] [] mixed rfl ?_;refine dT 0 ?_;refine dT 1 ?_;refine dT 2 ?_;refine dK 3 ?_;refine dK 4 ?_;obtain ⟨x17,h4,H⟩:=bnd H;refine WPD.take 5 rfl (by kernel_rfl) (q_lookupN (fk:=fk3) (fv:=(Value.int .i64)) (k:=((List.getD (List.drop (Int.toNat x12) (List.take (Int.toNat (IntKind.wrap .i64 (x12+3))) x2)) 0 (0:Int)),(List.getD (List.drop (Int.toNat x12) (List.take (Int.toNat (IntKind.wrap .i64 (x12+3))) x2)) 1 (0:Int)),(List.getD (List.drop (Int.toNat x12) (List.take (Int.toNat (IntKind.wrap .i64 (x12+3))) x2)) 2 (0:Int)))) (z:=(0:Int)) ko136 Try.underlying95 zv3 rfl rfl (key_agg [.int .u8 (List.getD (List.drop (Int.toNat x12) (List.take (Int.toNat (IntKind.wrap .i64 (x12+3))) x2)) 0 (0:Int)),.int .u8 (List.getD (List.drop (Int.toNat x12) (List.take (Int.toNat (IntKind.wrap .i64 (x12+3))) x2)) 1 (0:Int)),.int .u8 (List.getD (List.drop (Int.toNat x12) (List.take (Int.toNat (IntKind.wrap .i64 (x12+3))) x2)) 2 (0:Int))] rfl rfl) (some_inj h4)) rfl rfl ?_;refine dT 6 ?_;refine dT 7 ?_;refine dT 8 ?_;refine dT 9 ?_;refine dT 10 ?_;refine WPD.doneW (by kernel_rfl) ?_;(iterate 2 refine sp ?_);refine WP.seq ?_;obtain ⟨x18,H3,H⟩:=bnd H;refine mo .normal ((((Env.none.upd 0 (.ptr 0 0)).upd 1 (.lit (.int .i64 x1))).upd 4 (.ptr 3 0)).upd 5 (.lit (.int .i64 x18))) ((((Mem.nil.push (.cells 97 [.ro (Rd.slice (Rd.int .u8)) false x2,.mp 1,.whole 2,.lit (.int .i64 x12)])).push (.obj (mapO fk3 (Value.int .i64) x13))).push (.row 3 (Rd.int .i64) x14)).push (.cells 136 [.lit (.int .u8 (List.getD (List.drop (Int.toNat x12) (List.take (Int.toNat (IntKind.wrap .i64 (x12+3))) x2)) 0 (0:Int))),.lit (.int .u8 (List.getD (List.drop (Int.toNat x12) (List.take (Int.toNat (IntKind.wrap .i64 (x12+3))) x2)) 1 (0:Int))),.lit (.int .u8 (List.getD (List.drop (Int.toNat x12) (List.take (Int.toNat (IntKind.wrap .i64 (x12+3))) x2)) 2 (0:Int)))])) ?_ ?_
     · clear H;have H:=H3;clear H3;(iterate 4 refine sp ?_);refine cq H (fun hb3 H=>?_) fun hb3 H=>?_
       · (iterate 2 refine sp ?_);refine WPL.nilW ?_;have q0:=j1 H;subst q0;exact wq [0,1,2,3]
       refine sp ?_;have q0:=j1 H;subst q0;exact wq [0,1,2,3]
     (iterate 2 refine sp ?_);refine WP.seq ?_;refine WP.regionD' 11 [0] [] mixed rfl ?_;refine dT 0 ?_;refine dT 1 ?_;refine dT 2 ?_;refine dT 4 ?_;refine dT 5 ?_;refine dT 6 ?_;refine dT 8 ?_;refine dK 3 ?_;refine dK 7 ?_;obtain ⟨x19,h5,H⟩:=bnd H;refine WPD.tT 9 rfl (q_index_row sl66 rfl rfl rfl (ixs h5)) ?_;refine WPD.effS 10 [0] [] rfl (by kernel_rfl) (s_store_row (j:=(Int.toNat x12)) (d:=x18) sz3 rfl rfl rfl rfl Joins.sc (ixl h5)) rfl ?_;refine WPD.doneW (by kernel_rfl) ?_;(iterate 2 refine sp ?_);refine WP.regionD' 10 [0,3] [] mixed rfl ?_;refine dT 0 ?_;refine dT 1 ?_;refine dT 2 ?_;refine dT 5 ?_;refine dT 6 ?_;refine dT 7 ?_;refine dK 3 ?_;refine dK 4 ?_;refine dK 8 ?_;refine WPD.effS 9 [0,3] [] rfl (by kernel_rfl) (s_mapUpdate (fk:=fk3) (fv:=(Value.int .i64)) (k:=((List.getD (List.drop (Int.toNat x12) (List.take (Int.toNat (IntKind.wrap .i64 (x12+3))) x2)) 0 (0:Int)),(List.getD (List.drop (Int.toNat x12) (List.take (Int.toNat (IntKind.wrap .i64 (x12+3))) x2)) 1 (0:Int)),(List.getD (List.drop (Int.toNat x12) (List.take (Int.toNat (IntKind.wrap .i64 (x12+3))) x2)) 2 (0:Int)))) (v:=x12) ko136 Try.underlying95 rfl rfl (key_agg [.int .u8 (List.getD (List.drop (Int.toNat x12) (List.take (Int.toNat (IntKind.wrap .i64 (x12+3))) x2)) 0 (0:Int)),.int .u8 (List.getD (List.drop (Int.toNat x12) (List.take (Int.toNat (IntKind.wrap .i64 (x12+3))) x2)) 1 (0:Int)),.int .u8 (List.getD (List.drop (Int.toNat x12) (List.take (Int.toNat (IntKind.wrap .i64 (x12+3))) x2)) 2 (0:Int))] rfl rfl) rfl) rfl ?_;refine WPD.doneW (by kernel_rfl) ?_;refine sp ?_;refine InBlock.n ?_;(iterate 10 refine sp ?_);refine WPL.nilW ?_;exact wq [0,1,2] (Then.n ⟨n,((IntKind.wrap .i64 (x12+1)),(mapPut x13 ((List.getD (List.drop (Int.toNat x12) (List.take (Int.toNat (IntKind.wrap .i64 (x12+3))) x2)) 0 (0:Int)),(List.getD (List.drop (Int.toNat x12) (List.take (Int.toNat (IntKind.wrap .i64 (x12+3))) x2)) 1 (0:Int)),(List.getD (List.drop (Int.toNat x12) (List.take (Int.toNat (IntKind.wrap .i64 (x12+3))) x2)) 2 (0:Int))) x12),(List.set x14 (Int.toNat x12) x18)),Nat.lt_succ_self n,H,rfl,rfl⟩)
   refine sp ?_;obtain ⟨rfl,rfl,rfl⟩:=j3 H;exact wq [0,1,2] (Then.x (Then.x r3))
 obtain ⟨rfl,rfl,rfl⟩:=j3 H;exact W.now (InBlock.x0 (BodyR.mkN trivial rfl [0,1,2] ⟨rfl,rfl⟩ ⟨rfl,AA3,by decide,rfl,BB2⟩ rfl rfl))
theorem s_deflate_matcher_longest__b (k:Nat) (x1:Int) (x2:(List Int)) (x3:Int) (x4:(List ((Int × Int × Int) × Int))) (x5:(List Int)) (x6:Int) (x7:Int) (x8:Int) (x9:(List ((Int × Int × Int) × Int))) (x10:(List Int)) (H:g_deflate_matcher_longest k x1 x2 x3 x4 x5=some (x6,x7,x8,x9,x10)):Go.Q.Spec Try.prog 51 2 [.ptr 0 0,.lit (.int .i64 x1)] (((Mem.nil.push (.cells 97 [.ro (Rd.slice (Rd.int .u8)) false x2,.mp 1,.whole 2,.lit (.int .i64 x3)])).push (.obj (mapO fk3 (Value.int .i64) x4))).push (.row 3 (Rd.int .i64) x5)) (fun o M=>o=.ret (.tup [.lit (.int .i64 x6),.lit (.int .i64 x7)])∧M=(((Mem.nil.push (.cells 97 [.ro (Rd.slice (Rd.int .u8)) false x2,.mp 1,.whole 2,.lit (.int .i64 x8)])).push (.obj (mapO fk3 (Value.int .i64) x9))).push (.row 3 (Rd.int .i64) x10))):=by
 unfold g_deflate_matcher_longest at H;refine bo Try.func51 [] [.tmp 4,.tmp 5] 105 fun cx hnp=>?_;(iterate 4 refine sp ?_);refine WP.scope ?_;refine WP.seq ?_;(iterate 8 refine sp ?_);obtain ⟨x11,h1,H⟩:=bnd H;refine sn (nm_bool h1) ?_;refine sp ?_;refine cq H (fun hb1 H=>?_) fun hb1 H=>?_
 · (iterate 5 refine sp ?_);obtain ⟨rfl,rfl,rfl,rfl,rfl⟩:=j5 H;exact W.now (Then.r (Scope.r (mb [0,1,2])))
 (iterate 6 refine sp ?_);obtain ⟨⟨x12,x13,x14⟩,h2,H⟩:=bnd H;refine WPL.c (rc [0,1,2] [0,1,3] 4 [] (s_deflate_matcher_learn__b k x1 x2 x3 x4 x5 x12 x13 x14 h2)) rfl ?_;refine sp ?_;refine WP.seq ?_;refine WP.regionD' 20 [0,1] [] mixed rfl ?_;refine dT 0 ?_;refine dT 1 ?_;refine dT 2 ?_;refine dT 4 ?_;refine dT 5 ?_;refine dT 6 ?_;refine dT 8 ?_;refine dT 9 ?_;refine dT 10 ?_;refine dK 3 ?_;refine dK 7 ?_;obtain ⟨h3,H⟩:=grd H;refine WPD.tT 11 rfl (q_slice_ro (i:=x1) (j:=(IntKind.wrap .i64 (x1+3))) sl22 rfl rfl ⟨_,rfl⟩ ⟨_,rfl⟩ h3) ?_;obtain ⟨h4,H⟩:=grd H;refine WPD.tT 12 rfl (q_sliceToArr (n:=3) (0:Int) ar136 rfl rfl h4) ?_;refine WPD.tT 13 rfl (q_load_roag ag136 rfl rfl Splits.arr) ?_;obtain ⟨x15,h5,H⟩:=bnd H;refine WPD.take 14 rfl (by kernel_rfl) (q_lookupN (fk:=fk3) (fv:=(Value.int .i64)) (k:=((List.getD (List.drop (Int.toNat x1) (List.take (Int.toNat (IntKind.wrap .i64 (x1+3))) x2)) 0 (0:Int)),(List.getD (List.drop (Int.toNat x1) (List.take (Int.toNat (IntKind.wrap .i64 (x1+3))) x2)) 1 (0:Int)),(List.getD (List.drop (Int.toNat x1) (List.take (Int.toNat (IntKind.wrap .i64 (x1+3))) x2)) 2 (0:Int)))) (z:=(0:Int)) ko136 Try.underlying95 zv3 rfl rfl (key_agg [.int .u8 (List.getD (List.drop (Int.toNat x1) (List.take (Int.toNat (IntKind.wrap .i64 (x1+3))) x2)) 0 (0:Int)),.int .u8 (List.getD (List.drop (Int.toNat x1) (List.take (Int.toNat (IntKind.wrap .i64 (x1+3))) x2)) 1 (0:Int)),.int .u8 (List.getD (List.drop (Int.toNat x1) (List.take (Int.toNat (IntKind.wrap .i64 (x1+3))) x2)) 2 (0:Int))] rfl rfl) (some_inj h5)) rfl rfl ?_;refine dT 15 ?_;refine dT 16 ?_;refine dT 17 ?_;refine dT 18 ?_;refine dT 19 ?_;refine WPD.doneW (by kernel_rfl) ?_;(iterate 2 refine sp ?_);refine WP.seq ?_;(iterate 4 refine sp ?_);refine cq H (fun hb2 H=>?_) fun hb2 H=>?_
 · (iterate 5 refine sp ?_);obtain ⟨rfl,rfl,rfl,rfl,rfl⟩:=j5 H;exact W.now (Then.r (Scope.r (mb [0,1,3])))
 (iterate 7 refine sp ?_);refine WP.seq ?_;refine WP.labelW ?_;(iterate 2 refine sp ?_);refine WP.seq ?_;(iterate 4 refine sp ?_);refine WP.cv (Cv.weak (E':=((((((Env.none.upd 0 (.ptr 0 0)).upd 1 (.lit (.int .i64 x1))).upd 6 (.lit (.int .i64 (Option.getD x15 (0:Int))))).upd 8 (.lit (.int .i64 0))).upd 9 (.lit (.int .i64 0))).upd 42 (.lit (.int .i64 0)))) (M':=(((Mem.nil.push (.cells 97 [.ro (Rd.slice (Rd.int .u8)) false x2,.mp 1,.whole 2,.lit (.int .i64 x12)])).push (.obj (mapO fk3 (Value.int .i64) x13))).push (.row 3 (Rd.int .i64) x14))) [0,1,3] hnp ⟨rfl,AA3,by decide,rfl,BB2⟩ (LeE.u (LeE.u (LeE.u (LeE.u (LeE.u (LeE.u (LeE.none rfl rfl)))))))) ?_;obtain ⟨⟨x16,x17⟩,H1,H⟩:=bnd H;refine mo (.exit 0) ((Env.none.upd 8 (.lit (.int .i64 x16))).upd 9 (.lit (.int .i64 x17))) (((Mem.nil.push (.cells 97 [.ro (Rd.slice (Rd.int .u8)) false x2,.mp 1,.whole 2,.lit (.int .i64 x12)])).push (.obj (mapO fk3 (Value.int .i64) x13))).push (.row 3 (Rd.int .i64) x14)) ?_ ?_
 · refine WP.loop (β:=Int × Int × Int × Int) (fun n b=>g_deflate_matcher_longest_l0 k x1 x2 x14 n b.1 b.2.1 b.2.2.1 b.2.2.2=some (x16,x17)) (fun b=>((((((Env.none.upd 0 (.ptr 0 0)).upd 1 (.lit (.int .i64 x1))).upd 6 (.lit (.int .i64 b.1))).upd 8 (.lit (.int .i64 b.2.1))).upd 9 (.lit (.int .i64 b.2.2.1))).upd 42 (.lit (.int .i64 b.2.2.2)))) (fun b=>(((Mem.nil.push (.cells 97 [.ro (Rd.slice (Rd.int .u8)) false x2,.mp 1,.whole 2,.lit (.int .i64 x12)])).push (.obj (mapO fk3 (Value.int .i64) x13))).push (.row 3 (Rd.int .i64) x14))) k ((Option.getD x15 (0:Int)),0,0,0) H1 rfl rfl ?_;rintro n ⟨x18,x19,x20,x21⟩ H;obtain _ | n:=n
   · exact nf rfl H
   rw [g_deflate_matcher_longest_l0.eq_2] at H;show WP _ _ _ _ ((((((Env.none.upd 0 (.ptr 0 0)).upd 1 (.lit (.int .i64 x1))).upd 6 (.lit (.int .i64 x18))).upd 8 (.lit (.int .i64 x19))).upd 9 (.lit (.int .i64 x20))).upd 42 (.lit (.int .i64 x21))) (((Mem.nil.push (.cells 97 [.ro (Rd.slice (Rd.int .u8)) false x2,.mp 1,.whole 2,.lit (.int .i64 x12)])).push (.obj (mapO fk3 (Value.int .i64) x13))).push (.row 3 (Rd.int .i64) x14)) _;(iterate 3 refine sp ?_);refine WP.seq ?_;refine cq H (fun hb3 H=>?_) fun hb3 H=>?_
   · (iterate 3 refine sp ?_);refine WP.seq ?_;refine sp ?_;refine WP.seq ?_;refine WP.seq ?_;obtain ⟨x22,H2,H⟩:=bnd H;refine mo .normal (((((((Env.none.upd 0 (.ptr 0 0)).upd 1 (.lit (.int .i64 x1))).upd 6 (.lit (.int .i64 x18))).upd 8 (.lit (.int .i64 x19))).upd 9 (.lit (.int .i64 x20))).upd 42 (.lit (.int .i64 x21))).upd 51 (.lit (.bool x22))) (((Mem.nil.push (.cells 97 [.ro (Rd.slice (Rd.int .u8)) false x2,.mp 1,.whole 2,.lit (.int .i64 x12)])).push (.obj (mapO fk3 (Value.int .i64) x13))).push (.row 3 (Rd.int .i64) x14)) ?_ ?_
     · clear H;have H:=H2;clear H2;(iterate 4 refine sp ?_);refine ws 46 H (fun hb4 H=>?_) fun hb4 H=>?_
       · (iterate 5 refine sp ?_);refine WPL.nilW ?_;have q0:=j1 H;subst q0;exact wq [0,1,2]
       (iterate 3 refine sp ?_);obtain ⟨x23,h6,H⟩:=bnd H;refine sn (nm_bool h6) ?_;refine sp ?_;refine WPL.nilW ?_;have q0:=j1 H;subst q0;exact wq [0,1,2]
     (iterate 2 refine sp ?_);refine cq H (fun hb5 H=>?_) fun hb5 H=>?_
     · refine sp ?_;obtain ⟨rfl,rfl⟩:=j2 H;exact wq [0,1,2] (Then.x (InBlock.x rfl (Then.x (Then.x r3))))
     (iterate 6 refine sp ?_);refine WP.seq ?_;refine sp ?_;refine WP.cv (Cv.weak (E':=(((((((Env.none.upd 0 (.ptr 0 0)).upd 1 (.lit (.int .i64 x1))).upd 6 (.lit (.int .i64 x18))).upd 8 (.lit (.int .i64 x19))).upd 9 (.lit (.int .i64 x20))).upd 10 (.lit (.int .i64 0))).upd 42 (.lit (.int .i64 x21)))) (M':=(((Mem.nil.push (.cells 97 [.ro (Rd.slice (Rd.int .u8)) false x2,.mp 1,.whole 2,.lit (.int .i64 x12)])).push (.obj (mapO fk3 (Value.int .i64) x13))).push (.row 3 (Rd.int .i64) x14))) [0,1,2] hnp ⟨rfl,AA3,by decide,rfl,BB2⟩ (LeE.u (LeE.u (LeE.u (LeE.u (LeE.u (LeE.u (LeE.u (LeE.none rfl rfl))))))))) ?_;obtain ⟨x24,H3,H⟩:=bnd H;refine mo (.exit 2) (((((((Env.none.upd 0 (.ptr 0 0)).upd 1 (.lit (.int .i64 x1))).upd 6 (.lit (.int .i64 x18))).upd 8 (.lit (.int .i64 x19))).upd 9 (.lit (.int .i64 x20))).upd 10 (.lit (.int .i64 x24))).upd 42 (.lit (.int .i64 x21))) (((Mem.nil.push (.cells 97 [.ro (Rd.slice (Rd.int .u8)) false x2,.mp 1,.whole 2,.lit (.int .i64 x12)])).push (.obj (mapO fk3 (Value.int .i64) x13))).push (.row 3 (Rd.int .i64) x14)) ?_ ?_
     · refine WP.loop (β:=Int) (fun n b=>g_deflate_matcher_longest_l1 k x1 x2 x18 n b=some x24) (fun b=>(((((((Env.none.upd 0 (.ptr 0 0)).upd 1 (.lit (.int .i64 x1))).upd 6 (.lit (.int .i64 x18))).upd 8 (.lit (.int .i64 x19))).upd 9 (.lit (.int .i64 x20))).upd 10 (.lit (.int .i64 b))).upd 42 (.lit (.int .i64 x21)))) (fun b=>(((Mem.nil.push (.cells 97 [.ro (Rd.slice (Rd.int .u8)) false x2,.mp 1,.whole 2,.lit (.int .i64 x12)])).push (.obj (mapO fk3 (Value.int .i64) x13))).push (.row 3 (Rd.int .i64) x14))) k 0 H3 rfl rfl ?_;rintro n x25 H;obtain _ | n:=n
       · exact nf rfl H
       rw [g_deflate_matcher_longest_l1.eq_2] at H;show WP _ _ _ _ (((((((Env.none.upd 0 (.ptr 0 0)).upd 1 (.lit (.int .i64 x1))).upd 6 (.lit (.int .i64 x18))).upd 8 (.lit (.int .i64 x19))).upd 9 (.lit (.int .i64 x20))).upd 10 (.lit (.int .i64 x25))).upd 42 (.lit (.int .i64 x21))) (((Mem.nil.push (.cells 97 [.ro (Rd.slice (Rd.int .u8)) false x2,.mp 1,.whole 2,.lit (.int .i64 x12)])).push (.obj (mapO fk3 (Value.int .i64) x13))).push (.row 3 (Rd.int .i64) x14)) _;refine WP.seq ?_;refine WP.seq ?_;obtain ⟨x26,H4,H⟩:=bnd H;refine mo .normal ((((((((Env.none.upd 0 (.ptr 0 0)).upd 1 (.lit (.int .i64 x1))).upd 6 (.lit (.int .i64 x18))).upd 8 (.lit (.int .i64 x19))).upd 9 (.lit (.int .i64 x20))).upd 10 (.lit (.int .i64 x25))).upd 42 (.lit (.int .i64 x21))).upd 85 (.lit (.bool x26))) (((Mem.nil.push (.cells 97 [.ro (Rd.slice (Rd.int .u8)) false x2,.mp 1,.whole 2,.lit (.int .i64 x12)])).push (.obj (mapO fk3 (Value.int .i64) x13))).push (.row 3 (Rd.int .i64) x14)) ?_ ?_
       · clear H;have H:=H4;clear H4;refine WP.regionD' 34 [0] [] mixed rfl ?_;refine dT 0 ?_;refine dT 1 ?_;refine dT 2 ?_;refine ds 54 H (fun hb6 H=>?_) fun hb6 H=>?_
         · refine dG 3 ?_;refine dG 4 ?_;refine dG 5 ?_;refine dG 6 ?_;refine dG 7 ?_;refine dG 8 ?_;refine dH 9 ?_;refine dG 10 ?_;obtain ⟨x27,h7,H⟩:=bnd H;refine dG 11 ?_ rfl rfl gv (q_nm aq (nm_bool h7));refine dT 12 ?_;refine dT 13 ?_;refine ds 65 H (fun hb7 H=>?_) fun hb7 H=>?_
           · refine dG 14 ?_;refine dG 15 ?_;refine dG 16 ?_;refine dG 18 ?_;refine dG 19 ?_;refine dG 20 ?_;refine dG 23 ?_;refine dG 24 ?_;refine dG 25 ?_;refine dG 27 ?_;refine dG 28 ?_;refine dG 29 ?_;refine dH 17 ?_;obtain ⟨x28,h8,H⟩:=bnd H;refine dG 21 ?_;refine dG 22 ?_;refine dH 26 ?_;obtain ⟨x29,h9,H⟩:=bnd H;refine dG 30 ?_;refine dG 31 ?_;refine dG 32 ?_;refine dT 33 ?_;refine WPD.doneW (by kernel_rfl) ?_;have q0:=j1 H;subst q0;exact wq [0,1,2]
           refine dP false 14 ?_;refine dP false 15 ?_;refine dP false 16 ?_;refine dP false 17 ?_;refine dP false 18 ?_;refine dP false 19 ?_;refine dP false 20 ?_;refine dP false 21 ?_;refine dP false 22 ?_;refine dP false 23 ?_;refine dP false 24 ?_;refine dP false 25 ?_;refine dP false 26 ?_;refine dP false 27 ?_;refine dP false 28 ?_;refine dP false 29 ?_;refine dP false 30 ?_;refine dP false 31 ?_;refine dP false 32 ?_;refine dT 33 ?_;refine WPD.doneW (by kernel_rfl) ?_;have q0:=j1 H;subst q0;exact wq [0,1,2]
         refine dP false 3 ?_;refine dP false 4 ?_;refine dP false 5 ?_;refine dP false 6 ?_;refine dP false 7 ?_;refine dP false 8 ?_;refine dP false 9 ?_;refine dP false 10 ?_;refine dP false 11 ?_;refine dT 12 ?_;refine dT 13 ?_;refine dP false 14 ?_;refine dP false 15 ?_;refine dP false 16 ?_;refine dP false 17 ?_;refine dP false 18 ?_;refine dP false 19 ?_;refine dP false 20 ?_;refine dP false 21 ?_;refine dP false 22 ?_;refine dP false 23 ?_;refine dP false 24 ?_;refine dP false 25 ?_;refine dP false 26 ?_;refine dP false 27 ?_;refine dP false 28 ?_;refine dP false 29 ?_;refine dP false 30 ?_;refine dP false 31 ?_;refine dP false 32 ?_;refine dT 33 ?_;refine WPD.doneW (by kernel_rfl) ?_;have q0:=j1 H;subst q0;exact wq [0,1,2]
       (iterate 2 refine sp ?_);refine cq H (fun hb8 H=>?_) fun hb8 H=>?_
       · (iterate 8 refine sp ?_);refine WPL.nilW ?_;exact wq [0,1,2] (InBlock.n (Then.n ⟨n,(IntKind.wrap .i64 (x25+1)),Nat.lt_succ_self n,H,rfl,rfl⟩))
       refine sp ?_;have q0:=j1 H;subst q0;exact wq [0,1,2] (Then.x (Then.x r3))
     (iterate 3 refine sp ?_);refine WP.seq ?_;obtain ⟨⟨x30,x31⟩,H5,H⟩:=bnd H;refine mo .normal ((((((Env.none.upd 0 (.ptr 0 0)).upd 1 (.lit (.int .i64 x1))).upd 6 (.lit (.int .i64 x18))).upd 8 (.lit (.int .i64 x30))).upd 9 (.lit (.int .i64 x31))).upd 42 (.lit (.int .i64 x21))) (((Mem.nil.push (.cells 97 [.ro (Rd.slice (Rd.int .u8)) false x2,.mp 1,.whole 2,.lit (.int .i64 x12)])).push (.obj (mapO fk3 (Value.int .i64) x13))).push (.row 3 (Rd.int .i64) x14)) ?_ ?_
     · clear H;have H:=H5;clear H5;(iterate 5 refine sp ?_);refine cq H (fun hb9 H=>?_) fun hb9 H=>?_
       · (iterate 7 refine sp ?_);refine WPL.nilW ?_;obtain ⟨rfl,rfl⟩:=j2 H;exact wq [0,1,2]
       refine sp ?_;obtain ⟨rfl,rfl⟩:=j2 H;exact wq [0,1,2]
     (iterate 8 refine sp ?_);obtain ⟨x32,h10,H⟩:=bnd H;refine WPL.qq (q_index_row sl66 rfl rfl rfl (ixs h10)) ?_;refine WPL.qq (q_load_row (j:=(Int.toNat x18)) sc3 rfl rfl (ixj h10)) ?_;refine sp ?_;refine WPL.nilW ?_;refine sp ?_;refine InBlock.n ?_;(iterate 4 refine sp ?_);refine WPL.nilW ?_;exact wq [0,1,2] (Then.n ⟨n,(x32,x30,x31,(IntKind.wrap .i64 (x21+1))),Nat.lt_succ_self n,H,rfl,rfl⟩)
   refine sp ?_;obtain ⟨rfl,rfl⟩:=j2 H;exact wq [0,1,2] (Then.x (Then.x r3))
 (iterate 10 refine sp ?_);obtain ⟨rfl,rfl,rfl,rfl,rfl⟩:=j5 H;exact W.now (Scope.r (mb [0,1,2]))
theorem s_sc_AppendSeq_deflate_Item_deflate_Item__b (k:Nat) (x1:(List Int)) (x2:(List S_deflate_Item)) (H:g_sc_AppendSeq_deflate_Item_deflate_Item k x1=some x2):Go.Q.Spec Try.prog 49 1 [.lit (.slice none 0 0),.fn 50 [.ptr 0 0]] (Mem.nil.push (.cells 22 [.ro (Rd.slice (Rd.int .u8)) false x1])) (fun o M=>o=.ret (.whole 1)∧M=((Mem.nil.push (.cells 22 [.ro (Rd.slice (Rd.int .u8)) false x1])).push (.row 36 rdS_deflate_Item x2))):=by
 unfold g_sc_AppendSeq_deflate_Item_deflate_Item at H;refine bo Try.func49 [] [.tmp 4] 13 fun cx hnp=>?_;(iterate 4 refine sp ?_);refine WP.seq ?_;(iterate 4 refine sp ?_);refine WP.cv (Cv.nullMark (N:=2) rfl rfl) ?_;refine WP.range (nti:=45) (n:=3) rfl rfl Try.func50 rfl (by kernel_rfl) rfl rfl rfl rfl fun l_1 r_1 aC1 hp1 ha1 hb1 ht1 hs1 hf1=>?_;refine WP.seq ?_;obtain ⟨_,H1,H⟩:=bnd H;refine mo .normal ((((⟨fun _=>.any,[],[⟨aC1,(((Env.none.upd 2 (.ptr 4 0)).upd 6 (.fn 50 [.ptr 0 0]))).v,[5,6],some (7,l_1)⟩],[]⟩:Env).upd 0 (.lit (.func (.yield l_1) #[] #[]))).upd 1 (.ptr 0 0)).upd 3 (.ptr 1 0)) ((((((((Mem.nil.push (.cells 22 [.ro (Rd.slice (Rd.int .u8)) false x1])).push (.cells 97 [.ro (Rd.slice (Rd.int .u8)) false x1,.mp 2,.whole 3,.lit (.int .i64 0)])).push (.obj (mapO fk3 (Value.int .i64) ([]:List ((Int × Int × Int) × Int))))).push (.row 3 (Rd.int .i64) (List.replicate (Int.toNat ((List.length x1:Nat):Int)) (0:Int)))).push (.cells 32 [.lit (.slice none 0 0)])).push (.obj (Obj.deferred (some [])))).push (.bag)).push (.obj (lp r_1 .ready none))) ?_ ?_
 · clear H;have H:=H1;clear H1;refine WP.regionD' 8 [0] [] mixed rfl ?_;refine dK 0 ?_;refine dK 2 ?_;refine dT 3 ?_;refine WPD.of2 1 4 (by kernel_rfl) ?_ ?_
   · refine WPD1.eff 1 [0] [] rfl (Does.runs (d_makeMap (N:=5) fk3 (Value.int .i64) rfl)) rfl rfl ?_;obtain ⟨h1,H⟩:=grd H;refine dE 4 [0] [] rfl (Does.runs (d_make (d:=(0:Int)) (R:=(Rd.int .i64)) li66 by3 rfl rfl rfl Joins.sc rfl rfl h1 rfl)) ?_;refine dT 5 ?_;refine dE 6 [0] [] rfl (Does.runs (d_box rfl rfl)) ?_;refine dT 7 ?_;refine WPD.doneW (by kernel_rfl) ?_;exact W.wk [0,7,5,6,1,3,2,4] hnp r3 ⟨rfl,AA8,by decide,rfl,BB1⟩ (LeE.u (LeE.u (LeE.u (LeE.noneD rfl rfl (.cons ⟨rfl,(LeV.upd rfl rfl (LeV.upd rfl rfl LeV.none)),rfl,rfl,rfl,rfl⟩ .nil))))) rfl
   obtain ⟨h2,H⟩:=grd H;refine WPD1.eff 4 [0] [] rfl (Does.runs (d_make (d:=(0:Int)) (R:=(Rd.int .i64)) li66 by3 rfl rfl rfl Joins.sc rfl rfl h2 rfl)) rfl rfl ?_;refine dE 1 [0] [] rfl (Does.runs (d_makeMap (N:=6) fk3 (Value.int .i64) rfl)) ?_;refine dT 5 ?_;refine dE 6 [0] [] rfl (Does.runs (d_box rfl rfl)) ?_;refine dT 7 ?_;refine WPD.doneW (by kernel_rfl) ?_;exact W.wk [0,7,6,5,1,3,2,4] hnp r3 ⟨rfl,AA8,by decide,rfl,BB1⟩ (LeE.u (LeE.u (LeE.u (LeE.noneD rfl rfl (.cons ⟨rfl,(LeV.upd rfl rfl (LeV.upd rfl rfl LeV.none)),rfl,rfl,rfl,rfl⟩ .nil))))) rfl
 (iterate 6 refine sp ?_);refine WP.cv (Cv.virC 36 rdS_deflate_Item (N:=8) rfl rfl (i:=4) (off:=0) rfl rfl) ?_;refine WP.cv (Cv.weak (E':=(((((⟨fun _=>.any,[],[⟨aC1,(((Env.none.upd 2 (.ptr 4 0)).upd 6 (.fn 50 [.ptr 0 0]))).v,[6,7],some (8,l_1)⟩],[]⟩:Env).upd 0 (.lit (.func (.yield l_1) #[] #[]))).upd 1 (.ptr 0 0)).upd 3 (.ptr 1 0)).upd 4 (.lit (.int .i64 0)))) (M':=(((((((((Mem.nil.push (.cells 22 [.ro (Rd.slice (Rd.int .u8)) false x1])).push (.cells 97 [.ro (Rd.slice (Rd.int .u8)) false x1,.mp 2,.whole 3,.lit (.int .i64 0)])).push (.obj (mapO fk3 (Value.int .i64) ([]:List ((Int × Int × Int) × Int))))).push (.row 3 (Rd.int .i64) (List.replicate (Int.toNat ((List.length x1:Nat):Int)) (0:Int)))).push (.cells 32 [.whole 5])).push (.row 36 rdS_deflate_Item ([]:List S_deflate_Item))).push (.obj (Obj.deferred (some [])))).push (.bag)).push (.obj (lp r_1 .ready none)))) [0,1,2,3,4,8,5,6,7] hnp ⟨rfl,AA9,by decide,rfl,BB1⟩ (LeE.u (LeE.u (LeE.u (LeE.u (LeE.noneD rfl rfl (.cons ⟨rfl,(LeV.upd rfl rfl (LeV.upd rfl rfl LeV.none)),rfl,rfl,rfl,rfl⟩ .nil))))))) ?_;obtain ⟨x3,H2,H⟩:=bnd H;refine mo (.exit 0) (⟨fun _=>.any,[],[⟨aC1,(((Env.none.upd 2 (.ptr 1 0)).upd 6 (.fn 50 [.ptr 0 0]))).v,[3,4],some (5,l_1)⟩],[]⟩:Env) ((((((Mem.nil.push (.cells 22 [.ro (Rd.slice (Rd.int .u8)) false x1])).push (.cells 32 [.whole 2])).push (.row 36 rdS_deflate_Item x3)).push (.obj (Obj.deferred (some [])))).push (.bag)).push (.obj (lp r_1 .ready none))) ?_ ?_
 · refine WP.loop (β:=Int × Int × (List ((Int × Int × Int) × Int)) × (List Int) × (List S_deflate_Item)) (fun n b=>g_sc_AppendSeq_deflate_Item_deflate_Item_l0 k x1 n b.1 b.2.1 b.2.2.1 b.2.2.2.1 b.2.2.2.2=some x3) (fun b=>(((((⟨fun _=>.any,[],[⟨aC1,(((Env.none.upd 2 (.ptr 4 0)).upd 6 (.fn 50 [.ptr 0 0]))).v,[6,7],some (8,l_1)⟩],[]⟩:Env).upd 0 (.lit (.func (.yield l_1) #[] #[]))).upd 1 (.ptr 0 0)).upd 3 (.ptr 1 0)).upd 4 (.lit (.int .i64 b.1)))) (fun b=>(((((((((Mem.nil.push (.cells 22 [.ro (Rd.slice (Rd.int .u8)) false x1])).push (.cells 97 [.ro (Rd.slice (Rd.int .u8)) false x1,.mp 2,.whole 3,.lit (.int .i64 b.2.1)])).push (.obj (mapO fk3 (Value.int .i64) b.2.2.1))).push (.row 3 (Rd.int .i64) b.2.2.2.1)).push (.cells 32 [.whole 5])).push (.row 36 rdS_deflate_Item b.2.2.2.2)).push (.obj (Obj.deferred (some [])))).push (.bag)).push (.obj (lp r_1 .ready none)))) k (0,0,([]:List ((Int × Int × Int) × Int)),(List.replicate (Int.toNat ((List.length x1:Nat):Int)) (0:Int)),([]:List S_deflate_Item)) H2 rfl rfl ?_;rintro n ⟨x4,x5,x6,x7,x8⟩ H;obtain _ | n:=n
   · exact nf rfl H
   rw [g_sc_AppendSeq_deflate_Item_deflate_Item_l0.eq_2] at H;show WP _ _ _ _ (((((⟨fun _=>.any,[],[⟨aC1,(((Env.none.upd 2 (.ptr 4 0)).upd 6 (.fn 50 [.ptr 0 0]))).v,[6,7],some (8,l_1)⟩],[]⟩:Env).upd 0 (.lit (.func (.yield l_1) #[] #[]))).upd 1 (.ptr 0 0)).upd 3 (.ptr 1 0)).upd 4 (.lit (.int .i64 x4))) (((((((((Mem.nil.push (.cells 22 [.ro (Rd.slice (Rd.int .u8)) false x1])).push (.cells 97 [.ro (Rd.slice (Rd.int .u8)) false x1,.mp 2,.whole 3,.lit (.int .i64 x5)])).push (.obj (mapO fk3 (Value.int .i64) x6))).push (.row 3 (Rd.int .i64) x7)).push (.cells 32 [.whole 5])).push (.row 36 rdS_deflate_Item x8)).push (.obj (Obj.deferred (some [])))).push (.bag)).push (.obj (lp r_1 .ready none))) _;refine WP.seq ?_;(iterate 4 refine sp ?_);obtain ⟨x9,h3,H⟩:=bnd H;refine sn (nm_bool h3) ?_;refine sp ?_;refine cq H (fun hb2 H=>?_) fun hb2 H=>?_
   · (iterate 7 refine sp ?_);obtain ⟨x10,h4,H⟩:=bnd H;(iterate 10 refine sp ?_);refine WP.seq ?_;obtain ⟨⟨x11,x12,x13,x14,x15,x16,x17⟩,H3,H⟩:=bnd H;refine mo .normal (((((((⟨fun _=>.any,[],[⟨aC1,(((Env.none.upd 2 (.ptr 5 0)).upd 6 (.fn 50 [.ptr 0 0]))).v,[7,8],some (9,l_1)⟩],[]⟩:Env).upd 0 (.lit (.func (.yield l_1) #[] #[]))).upd 1 (.ptr 0 0)).upd 3 (.ptr 1 0)).upd 4 (.lit (.int .i64 x4))).upd 5 (.ptr 4 0)).upd 6 (.lit (.int .i64 x11))) ((((((((((Mem.nil.push (.cells 22 [.ro (Rd.slice (Rd.int .u8)) false x1])).push (.cells 97 [.ro (Rd.slice (Rd.int .u8)) false x1,.mp 2,.whole 3,.lit (.int .i64 x12)])).push (.obj (mapO fk3 (Value.int .i64) x13))).push (.row 3 (Rd.int .i64) x14)).push (.cells 36 [.lit (.int .i64 x15),.lit (.int .i64 x16),.lit (.int .i64 x17)])).push (.cells 32 [.whole 6])).push (.row 36 rdS_deflate_Item x8)).push (.obj (Obj.deferred (some [])))).push (.bag)).push (.obj (lp r_1 .ready none))) ?_ ?_
     · clear H;have H:=H3;clear H3;(iterate 3 refine sp ?_);obtain ⟨⟨x18,x19,x20,x21,x22⟩,h5,H⟩:=bnd H;refine WPL.c (rc [1,2,3] [1,2,10] 11 [] (s_deflate_matcher_longest__b k x4 x1 x5 x6 x7 x18 x19 x20 x21 x22 h5)) rfl ?_;(iterate 10 refine sp ?_);refine cq H (fun hb3 H=>?_) fun hb3 H=>?_
       · (iterate 7 refine sp ?_);refine WPL.nilW ?_;obtain ⟨rfl,rfl,rfl,rfl,rfl,rfl,rfl⟩:=j7 H;exact W.wk [0,1,2,10,9,4,5,6,7,8] hnp r3 ⟨rfl,AA10,by decide,rfl,BB1⟩ (LeE.u (LeE.u (LeE.u (LeE.u (LeE.u (LeE.u (LeE.noneD rfl rfl (.cons ⟨rfl,(LeV.upd rfl rfl (LeV.upd rfl rfl LeV.none)),rfl,rfl,rfl,rfl⟩ .nil)))))))) rfl
       refine sp ?_;obtain ⟨rfl,rfl,rfl,rfl,rfl,rfl,rfl⟩:=j7 H;exact W.wk [0,1,2,10,9,4,5,6,7,8] hnp r3 ⟨rfl,AA10,by decide,rfl,BB1⟩ (LeE.u (LeE.u (LeE.u (LeE.u (LeE.u (LeE.u (LeE.noneD rfl rfl (.cons ⟨rfl,(LeV.upd rfl rfl (LeV.upd rfl rfl LeV.none)),rfl,rfl,rfl,rfl⟩ .nil)))))))) rfl
     (iterate 2 refine sp ?_);refine WP.seq ?_;(iterate 3 refine sp ?_);refine WPL.y rfl rfl rfl rfl hp1 ha1 hb1 ht1 hs1 hf1 rfl rfl rfl fun aI1=>?_;(iterate 3 refine sp ?_);refine WPL.nilW ?_;refine sp ?_;refine ⟨rfl,rfl,_,_,_,_,_,_,rfl,rfl,?_⟩;(iterate 4 refine sp ?_);refine WPL.d (d_buildSlice (ds:=([(⟨x15,x16,x17⟩:S_deflate_Item)]:List S_deflate_Item)) (R:=rdS_deflate_Item) li32 rfl rfl rfl rfl rfl (JoinRows.cons (l:=[.lit (.int .i64 x15),.lit (.int .i64 x16),.lit (.int .i64 x17)]) (Joins.via (Joins.cons Joins.sc (Joins.cons Joins.sc (Joins.cons Joins.sc Joins.unit)))) rfl JoinRows.nil) rfl rfl) rfl ?_;obtain ⟨h6,H⟩:=grd H;refine WPL.d (d_append ap32 rfl rfl rfl rfl (src_row sl32 rfl rfl) h6 rfl) rfl ?_;refine sp ?_;refine WPL.nilW ?_;refine sp ?_;refine InBlock.n ?_;refine ⟨rfl,_,_,_,_,_,_,rfl,rfl,_,rfl,?_⟩;(iterate 2 refine sp ?_);refine WP.condFB (t:=(!true)) rfl rfl ?_;(iterate 8 refine sp ?_);refine WPL.nilW ?_;exact W.wk [0,1,2,3,5,12,7,8,9] hnp (InBlock.n (Then.n ⟨n,((IntKind.wrap .i64 (x4+x11)),x12,x13,x14,(x8++([(⟨x15,x16,x17⟩:S_deflate_Item)]:List S_deflate_Item))),Nat.lt_succ_self n,H,rfl,rfl⟩)) ⟨rfl,AA9,by decide,rfl,BB1⟩ (LeE.u (LeE.u (LeE.u (LeE.u (LeE.noneD rfl rfl (.cons ⟨rfl,(LeV.upd rfl rfl (LeV.upd rfl rfl LeV.none)),rfl,rfl,rfl,rfl⟩ .nil)))))) rfl
   refine sp ?_;have q0:=j1 H;subst q0;exact W.wk [0,4,5,6,7,8] hnp (Then.x (Then.x r3)) ⟨rfl,AA6,by decide,rfl,BB1⟩ (LeE.noneD rfl rfl (.cons ⟨rfl,(LeV.upd rfl rfl (LeV.upd rfl rfl LeV.none)),rfl,rfl,rfl,rfl⟩ .nil)) rfl
 (iterate 2 refine sp ?_);refine ⟨trivial,_,_,_,_,rfl,_,_,rfl,(fun h=>by cases h),?_⟩;refine W.cv (Cv.absorb (N:=6) (j:=3) (i:=4) rfl rfl rfl rfl) rfl ?_;refine sp ?_;refine InBlock.n ?_;(iterate 6 refine sp ?_);have q0:=j1 H;subst q0;exact W.now (BodyR.mkR ⟨.inr rfl,trivial⟩ rfl [0,2] ⟨rfl,rfl⟩ ⟨rfl,AA2,by decide,rfl,BB1⟩ rfl rfl)
theorem s_sc_Collect_deflate_Item__b (k:Nat) (x1:(List Int)) (x2:(List S_deflate_Item)) (H:g_sc_Collect_deflate_Item k x1=some x2):Go.Q.Spec Try.prog 21 1 [.fn 50 [.ptr 0 0]] (Mem.nil.push (.cells 22 [.ro (Rd.slice (Rd.int .u8)) false x1])) (fun o M=>o=.ret (.ro (Rd.slice rdS_deflate_Item) false x2)∧M=(Mem.nil.push (.cells 22 [.ro (Rd.slice (Rd.int .u8)) false x1]))):=by
 unfold g_sc_Collect_deflate_Item at H;refine bo Try.func21 [] [.tmp 2] 5 fun cx hnp=>?_;(iterate 5 refine sp ?_);obtain ⟨x3,h1,H⟩:=bnd H;refine WPL.c (rc [0] [0,1] 2 [] (s_sc_AppendSeq_deflate_Item_deflate_Item__b k x1 x3 h1)) rfl ?_;(iterate 3 refine sp ?_);refine W.cv (Cv.frzRow (i:=1) rfl rfl hnp rfl rfl) rfl ?_;have q0:=j1 H;subst q0;exact W.now (mb [0])
theorem s_deflate_Parse__b (k:Nat) (x1:(List Int)) (x2:(List S_deflate_Item)) (H:g_deflate_Parse k x1=some x2):Go.Q.Spec Try.prog 13 0 [.ro (Rd.slice (Rd.int .u8)) false x1] Mem.nil (fun o M=>o=.ret (.ro (Rd.slice rdS_deflate_Item) false x2)∧M=Mem.nil):=by
 unfold g_deflate_Parse at H;refine bo Try.func13 [] [.tmp 2] 6 fun cx hnp=>?_;(iterate 5 refine sp ?_);obtain ⟨_,h1,H⟩:=bnd H;refine WPL.c (rc [] [0] 1 [] (s_deflate_items__b k x1 h1)) rfl ?_;obtain ⟨x3,h2,H⟩:=bnd H;refine WPL.c (rc [0] [0] 1 [] (s_sc_Collect_deflate_Item__b k x1 x3 h2)) rfl ?_;(iterate 3 refine sp ?_);have q0:=j1 H;subst q0;exact W.now (mb [])
theorem s_bits_Writer_Bytes__b (k:Nat) (x1:(List Int)) (x2:Int) (x3:(List Int)) (x4:Int) (H:g_bits_Writer_Bytes k x1 x2 x3=some x4):Go.Q.Spec Try.prog 26 1 [.ptr 0 0,.ro (Rd.slice (Rd.int .u8)) false x1] ((Mem.nil.push (.cells 101 [.whole 1,.lit (.int .i64 x2)])).push (.row 5 (Rd.int .u8) x3)) (fun o M=>o=.ret (.tup [])∧M=((Mem.nil.push (.cells 101 [.whole 1,.lit (.int .i64 x4)])).push (.row 5 (Rd.int .u8) (x3++x1)))):=by
 unfold g_bits_Writer_Bytes at H;refine bo Try.func26 [] [] 24 fun cx hnp=>?_;(iterate 2 refine sp ?_);refine WPL.qq (q_neqp Try.underlying59 rfl) ?_;refine sp ?_;refine WP.condT rfl ?_;(iterate 7 refine sp ?_);obtain ⟨h1,H⟩:=grd H;refine WPL.d (d_append ap22 rfl rfl rfl rfl (src_ro sl22 rfl) h1 rfl) rfl ?_;(iterate 11 refine sp ?_);obtain ⟨x5,h2,H⟩:=bnd H;refine sn (nm_int h2) ?_;(iterate 3 refine sp ?_);refine WPL.nilW ?_;have q0:=j1 H;subst q0;exact W.now (BodyR.mkN trivial rfl [0,2] ⟨rfl,rfl⟩ ⟨rfl,AA2,by decide,rfl,BB1⟩ rfl rfl)
theorem s_deflate_stored__b (k:Nat) (x1:(List Int)) (x2:(List Int)) (H:g_deflate_stored k x1=some x2):Go.Q.Spec Try.prog 16 0 [.ro (Rd.slice (Rd.int .u8)) false x1] Mem.nil (fun o M=>o=.ret (.ro (Rd.slice (Rd.int .u8)) false x2)∧M=Mem.nil):=by
 unfold g_deflate_stored at H;refine bo Try.func16 [] [.tmp 2] 45 fun cx hnp=>?_;(iterate 4 refine sp ?_);obtain ⟨_,h1,H⟩:=bnd H;refine WPL.c (rc [] [0] 1 [] (s_bits_NewWriter k h1)) rfl ?_;(iterate 2 refine sp ?_);refine WP.seq ?_;(iterate 4 refine sp ?_);refine WP.cv (Cv.virC 5 (Rd.int .u8) (N:=1) rfl rfl (i:=0) (off:=0) rfl rfl) ?_;refine WP.cv (Cv.weak (E':=(((Env.none.upd 0 (.ro (Rd.slice (Rd.int .u8)) false x1)).upd 3 (.ptr 0 0)).upd 4 (.lit (.bool true)))) (M':=((Mem.nil.push (.cells 101 [.whole 1,.lit (.int .i64 0)])).push (.row 5 (Rd.int .u8) ([]:List Int)))) [0,1] hnp ⟨rfl,AA2,by decide,rfl,trivial⟩ (LeE.u (LeE.u (LeE.u (LeE.none rfl rfl))))) ?_;obtain ⟨⟨x3,x4⟩,H1,H⟩:=bnd H;refine mo (.exit 0) (Env.none.upd 3 (.ptr 0 0)) ((Mem.nil.push (.cells 101 [.whole 1,.lit (.int .i64 x3)])).push (.row 5 (Rd.int .u8) x4)) ?_ ?_
 · refine WP.loop (β:=(List Int) × Bool × Int × (List Int)) (fun n b=>g_deflate_stored_l0 k n b.1 b.2.1 b.2.2.1 b.2.2.2=some (x3,x4)) (fun b=>(((Env.none.upd 0 (.ro (Rd.slice (Rd.int .u8)) false b.1)).upd 3 (.ptr 0 0)).upd 4 (.lit (.bool b.2.1)))) (fun b=>((Mem.nil.push (.cells 101 [.whole 1,.lit (.int .i64 b.2.2.1)])).push (.row 5 (Rd.int .u8) b.2.2.2))) k (x1,true,0,([]:List Int)) H1 rfl rfl ?_;rintro n ⟨x5,x6,x7,x8⟩ H;obtain _ | n:=n
   · exact nf rfl H
   rw [g_deflate_stored_l0.eq_2] at H;show WP _ _ _ _ (((Env.none.upd 0 (.ro (Rd.slice (Rd.int .u8)) false x5)).upd 3 (.ptr 0 0)).upd 4 (.lit (.bool x6))) ((Mem.nil.push (.cells 101 [.whole 1,.lit (.int .i64 x7)])).push (.row 5 (Rd.int .u8) x8)) _;refine WP.seq ?_;refine WP.seq ?_;obtain ⟨x9,H2,H⟩:=bnd H;refine mo .normal (((Env.none.upd 0 (.ro (Rd.slice (Rd.int .u8)) false x5)).upd 3 (.ptr 0 0)).upd 13 (.lit (.bool x9))) ((Mem.nil.push (.cells 101 [.whole 1,.lit (.int .i64 x7)])).push (.row 5 (Rd.int .u8) x8)) ?_ ?_
   · clear H;have H:=H2;clear H2;(iterate 3 refine sp ?_);refine ws 9 H (fun hb1 H=>?_) fun hb1 H=>?_
     · (iterate 4 refine sp ?_);refine WPL.nilW ?_;have q0:=j1 H;subst q0;exact wq [0,1]
     (iterate 2 refine sp ?_);obtain ⟨x10,h2,H⟩:=bnd H;refine sn (nm_bool h2) ?_;refine sp ?_;refine WPL.nilW ?_;have q0:=j1 H;subst q0;exact wq [0,1]
   (iterate 2 refine sp ?_);refine cq H (fun hb2 H=>?_) fun hb2 H=>?_
   · (iterate 3 refine sp ?_);refine WP.seq ?_;(iterate 4 refine sp ?_);obtain ⟨x11,h3,H⟩:=bnd H;refine sn (nm_int h3) ?_;(iterate 5 refine sp ?_);refine WP.seq ?_;obtain ⟨x12,H3,H⟩:=bnd H;refine mo .normal ((((Env.none.upd 0 (.ro (Rd.slice (Rd.int .u8)) false x5)).upd 3 (.ptr 0 0)).upd 5 (.lit (.int .i64 x11))).upd 6 (.lit (.int .u32 x12))) ((Mem.nil.push (.cells 101 [.whole 1,.lit (.int .i64 x7)])).push (.row 5 (Rd.int .u8) x8)) ?_ ?_
     · clear H;have H:=H3;clear H3;(iterate 4 refine sp ?_);obtain ⟨x13,h4,H⟩:=bnd H;refine sn (nm_bool h4) ?_;refine sp ?_;refine cq H (fun hb3 H=>?_) fun hb3 H=>?_
       · (iterate 2 refine sp ?_);refine WPL.nilW ?_;have q0:=j1 H;subst q0;exact wq [0,1]
       refine sp ?_;have q0:=j1 H;subst q0;exact wq [0,1]
     (iterate 5 refine sp ?_);obtain ⟨⟨x14,x15,x16⟩,h5,H⟩:=bnd H;refine WPL.c (rc [0,1] [0,2] 3 [] (s_bits_Writer_Put__b k x12 3 x7 x8 x14 x15 x16 h5) (hargs:=.ren rfl rfl (.ren rfl rfl (.ren rfl rfl .nil)))) rfl ?_;(iterate 3 refine sp ?_);obtain ⟨x17,h6,H⟩:=bnd H;refine WPL.c (rc [0,2] [0,3] 4 [] (s_bits_Writer_Align k x15 x16 x17 h6)) rfl ?_;(iterate 5 refine sp ?_);obtain ⟨⟨x18,x19,x20⟩,h7,H⟩:=bnd H;refine WPL.c (rc [0,3] [0,4] 5 [] (s_bits_Writer_Put__b k (IntKind.wrap .u32 x11) 16 x17 x16 x18 x19 x20 h7) (hargs:=.ren rfl rfl (.ren rfl rfl (.ren rfl rfl .nil)))) rfl ?_;(iterate 5 refine sp ?_);obtain ⟨x21,h8,H⟩:=bnd H;refine WPL.qq (q_nm (q_com rfl) (nm_int h8)) ?_;obtain ⟨⟨x22,x23,x24⟩,h8,H⟩:=bnd H;refine WPL.c (rc [0,4] [0,5] 6 [] (s_bits_Writer_Put__b k x21 16 x19 x20 x22 x23 x24 h8) (hargs:=.ren rfl rfl (.ren rfl rfl (.ren rfl rfl .nil)))) rfl ?_;(iterate 5 refine sp ?_);obtain ⟨h9,H⟩:=grd H;refine WPL.qq (q_slice_ro (i:=0) (j:=x11) sl22 rfl rfl rfl ⟨_,rfl⟩ h9) ?_;obtain ⟨x25,h10,H⟩:=bnd H;refine WPL.c (rc [0,5] [0,6] 7 [] (s_bits_Writer_Bytes__b k (List.drop (Int.toNat 0) (List.take (Int.toNat x11) x5)) x23 x24 x25 h10)) rfl ?_;(iterate 4 refine sp ?_);obtain ⟨h11,H⟩:=grd H;refine WPL.qq (q_slice_ro (i:=x11) (j:=((List.length x5:Nat):Int)) sl22 rfl rfl ⟨_,rfl⟩ rfl h11) ?_;refine sp ?_;refine WPL.nilW ?_;refine sp ?_;refine InBlock.n ?_;(iterate 3 refine sp ?_);refine WPL.nilW ?_;exact wq [0,6] (Then.n ⟨n,((List.drop (Int.toNat x11) (List.take (Int.toNat ((List.length x5:Nat):Int)) x5)),false,x25,(x24++(List.drop (Int.toNat 0) (List.take (Int.toNat x11) x5)))),Nat.lt_succ_self n,H,rfl,rfl⟩)
   refine sp ?_;obtain ⟨rfl,rfl⟩:=j2 H;exact wq [0,1] (Then.x (Then.x r3))
 (iterate 5 refine sp ?_);obtain ⟨x26,h12,H⟩:=bnd H;refine WPL.c (rc [0,1] [0,2] 3 [] (s_bits_Writer_Done k x3 x4 x26 h12)) rfl ?_;(iterate 3 refine sp ?_);have q0:=j1 H;subst q0;exact W.now (mb [])
theorem s_deflate_Deflate__b (k:Nat) (x1:(List Int)) (x2:Int) (r:(((List Int) × Int) ⊕ ByteArray)) (H:g_deflate_Deflate k x1 x2=some r):Go.Q.Spec Try.prog 7 0 [.ro (Rd.slice (Rd.int .u8)) false x1,.lit (.int .i64 x2)] Mem.nil (fun o M=>match (generalizing:=false) r with | (Sum.inl (x3,x4))=>o=.ret (.tup [.ro (Rd.slice (Rd.int .u8)) false x3,.lit (.int .i64 x4)])∧M=Mem.nil | (Sum.inr x5)=>o=.pan (.ifc 9 (.lit (.string x5)))∧M=Mem.nil):=by
 unfold g_deflate_Deflate at H;refine bo Try.func7 [] [.tmp 4,.tmp 5] 49 fun cx hnp=>?_;(iterate 4 refine sp ?_);refine WP.seq ?_;refine WP.seq ?_;obtain ⟨x6,H1,H⟩:=bnd H;refine mo .normal (((Env.none.upd 0 (.ro (Rd.slice (Rd.int .u8)) false x1)).upd 1 (.lit (.int .i64 x2))).upd 15 (.lit (.bool x6))) Mem.nil ?_ ?_
 · clear H;have H:=H1;clear H1;(iterate 4 refine sp ?_);refine ws 12 H (fun hb1 H=>?_) fun hb1 H=>?_
   · (iterate 3 refine sp ?_);refine WPL.nilW ?_;have q0:=j1 H;subst q0;exact wq []
   (iterate 3 refine sp ?_);refine WPL.nilW ?_;have q0:=j1 H;subst q0;exact wq []
 (iterate 2 refine sp ?_);refine cq H (fun hb2 H=>?_) fun hb2 H=>?_
 · (iterate 5 refine sp ?_);refine W.cv (Cv.nilRo (Rd.int .u8) false 4 rfl) rfl ?_;have q0:=j1 H;subst q0;exact W.now (Then.r (mb []))
 (iterate 3 refine sp ?_);refine WP.seq ?_;(iterate 3 refine sp ?_);obtain ⟨x7,h1,H⟩:=bnd H;refine sn (nm_bool h1) ?_;refine sp ?_;refine cq H (fun hb3 H=>?_) fun hb3 H=>?_
 · (iterate 5 refine sp ?_);refine W.cv (Cv.nilRo (Rd.int .u8) false 4 rfl) rfl ?_;have q0:=j1 H;subst q0;exact W.now (Then.r (mb []))
 (iterate 5 refine sp ?_);obtain ⟨x8,h2,H⟩:=bnd H;refine WPL.c (rc [] [] 0 [] (s_deflate_stored__b k x1 x8 h2)) rfl ?_;(iterate 2 refine sp ?_);refine WP.seq ?_;(iterate 4 refine sp ?_);refine cq H (fun hb4 H=>?_) fun hb4 H=>?_
 · (iterate 6 refine sp ?_);have q0:=j1 H;subst q0;exact W.now (Then.r (mb []))
 (iterate 5 refine sp ?_);obtain ⟨x9,h3,H⟩:=bnd H;refine WPL.c (rc [] [] 0 [] (s_deflate_Parse__b k x1 x9 h3)) rfl ?_;(iterate 2 refine sp ?_);refine WP.seq ?_;obtain ⟨x10,H2,H⟩:=bnd H;refine mo .normal (((Env.none.upd 1 (.lit (.int .i64 x2))).upd 6 (.ro (Rd.slice (Rd.int .u8)) false x10)).upd 7 (.ro (Rd.slice rdS_deflate_Item) false x9)) Mem.nil ?_ ?_
 · clear H;have H:=H2;clear H2;(iterate 2 refine sp ?_);obtain ⟨x11,h4,H⟩:=bnd H;refine WPL.c (rc [] [] 0 [] (s_deflate_fixed k x9 x11 h4)) rfl ?_;(iterate 7 refine sp ?_);obtain ⟨x12,h5,H⟩:=bnd H;refine sn (nm_bool h5) ?_;refine sp ?_;refine cq H (fun hb5 H=>?_) fun hb5 H=>?_
   · (iterate 3 refine sp ?_);refine WPL.nilW ?_;have q0:=j1 H;subst q0;exact wq []
   refine sp ?_;have q0:=j1 H;subst q0;exact wq []
 (iterate 2 refine sp ?_);refine WP.seq ?_;obtain ⟨y1,H3,H⟩:=bnd H;refine WP.monoW (Q:=fun x E M=>match (generalizing:=false) y1 with | (Sum.inl x13)=>x=.panic (.ifc 9 (.lit (.string x13)))∧E=Env.none∧M=Mem.nil | (Sum.inr x14)=>x=.normal∧E=(Env.none.upd 6 (.ro (Rd.slice (Rd.int .u8)) false x14))∧M=Mem.nil) ?_ ?_
 · clear H;have H:=H3;clear H3;(iterate 4 refine sp ?_);refine cq H (fun hb6 H=>?_) fun hb6 H=>?_
   · (iterate 2 refine sp ?_);obtain ⟨y2,h6,H⟩:=bnd H;rcases y2 with x15 | x16
     · refine WPL.pW (runs_callP (s:=[]) (t:=[]) (N:=0) (bor:=[]) fn18 rfl (s_deflate_dynamic k x9 (Sum.inl x15) h6) ⟨rfl,trivial,by decide,rfl,trivial⟩ rfl trivial (.ren rfl rfl .nil) rfl trivial rfl) ?_;have q0:=j1 H;subst q0;exact W.wkP [] hnp (Then.p r3) ⟨rfl,trivial,by decide,rfl,trivial⟩ (LeE.none rfl rfl) rfl rfl
     refine WPL.c (rc [] [] 0 [] (s_deflate_dynamic k x9 (Sum.inr x16) h6)) rfl ?_;(iterate 4 refine sp ?_);obtain ⟨h7,H⟩:=grd H;refine WPL.qq (q_neqNilRo Try.underlying22 rfl h7) ?_;refine sp ?_;refine WPL.qg rfl rfl rfl aq rfl ?_;refine WPL.qg rfl rfl rfl aq rfl ?_;refine WPL.qg rfl rfl rfl aq rfl ?_;refine WPL.qg rfl rfl rfl aq rfl ?_;obtain ⟨x17,h8,H⟩:=bnd H;refine WPL.qg rfl rfl rfl (q_nm aq (nm_bool h8)) rfl ?_;(iterate 2 refine sp ?_);refine cq H (fun hb7 H=>?_) fun hb7 H=>?_
     · (iterate 3 refine sp ?_);refine WPL.nilW ?_;have q0:=j1 H;subst q0;exact wq []
     refine sp ?_;have q0:=j1 H;subst q0;exact wq []
   refine sp ?_;have q0:=j1 H;subst q0;exact wq []
 rcases y1 with x13 | x14
 · rintro _ _ _ ⟨rfl,rfl,rfl⟩;have q0:=j1 H;subst q0;exact W.now (Then.p (BodyR.mkP trivial [] ⟨rfl,rfl⟩ ⟨rfl,trivial,by decide,rfl,trivial⟩ rfl rfl))
 rintro _ _ _ ⟨rfl,rfl,rfl⟩;(iterate 8 refine sp ?_);have q0:=j1 H;subst q0;exact W.now (mb [])
theorem s_quirelaw04_kinds (k:Nat) (x1:(List Int)) (x2:Int) (x3:Bool) (H:g_quirelaw04_kinds k x1 x2=some x3):Go.Q.Spec Try.prog 12 0 [.ro (Rd.slice (Rd.int .u8)) false x1,.lit (.int .i64 x2)] Mem.nil (fun o M=>o=.ret (.lit (.bool x3))∧M=Mem.nil):=by
 unfold g_quirelaw04_kinds at H;refine bo Try.func12 [] [.tmp 4] 37 fun cx hnp=>?_;(iterate 3 refine sp ?_);refine WP.seq ?_;(iterate 3 refine sp ?_);obtain ⟨x4,h1,H⟩:=bnd H;refine sn (nm_bool h1) ?_;refine sp ?_;refine cq H (fun hb1 H=>?_) fun hb1 H=>?_
 · (iterate 4 refine sp ?_);have q0:=j1 H;subst q0;exact W.now (Then.r (mb []))
 (iterate 5 refine sp ?_);obtain ⟨x5,h2,H⟩:=bnd H;(iterate 4 refine sp ?_);obtain ⟨x6,h3,H⟩:=bnd H;refine sn (nm_int h3) ?_;(iterate 2 refine sp ?_);refine WP.seq ?_;obtain ⟨x7,H1,H⟩:=bnd H;refine mo .normal (Env.none.upd 4 (.lit (.bool x7))) Mem.nil ?_ ?_
 · clear H;have H:=H1;clear H1;(iterate 4 refine sp ?_);refine ws 17 H (fun hb2 H=>?_) fun hb2 H=>?_
   · (iterate 4 refine sp ?_);refine ws 21 H (fun hb3 H=>?_) fun hb3 H=>?_
     · (iterate 16 refine sp ?_);refine WPL.nilW ?_;have q0:=j1 H;subst q0;exact wq []
     (iterate 3 refine sp ?_);refine ws 24 H (fun hb4 H=>?_) fun hb4 H=>?_
     · (iterate 5 refine sp ?_);refine ws 29 H (fun hb5 H=>?_) fun hb5 H=>?_
       · (iterate 8 refine sp ?_);refine WPL.nilW ?_;have q0:=j1 H;subst q0;exact wq []
       (iterate 3 refine sp ?_);refine ws 32 H (fun hb6 H=>?_) fun hb6 H=>?_
       · (iterate 5 refine sp ?_);refine WPL.nilW ?_;have q0:=j1 H;subst q0;exact wq []
       (iterate 5 refine sp ?_);refine WPL.nilW ?_;have q0:=j1 H;subst q0;exact wq []
     (iterate 5 refine sp ?_);refine WPL.qg rfl rfl rfl aq rfl ?_;refine WPL.qg rfl rfl rfl aq rfl ?_;refine WPL.qg rfl rfl rfl aq rfl ?_;refine ws 32 H (fun hb7 H=>?_) fun hb7 H=>?_
     · (iterate 2 refine sp ?_);refine WPL.qg rfl rfl rfl aq rfl ?_;(iterate 2 refine sp ?_);refine WPL.nilW ?_;have q0:=j1 H;subst q0;exact wq []
     (iterate 2 refine sp ?_);refine WPL.qg rfl rfl rfl aq rfl ?_;(iterate 2 refine sp ?_);refine WPL.nilW ?_;have q0:=j1 H;subst q0;exact wq []
   (iterate 4 refine sp ?_);refine WPL.qg rfl rfl rfl aq rfl ?_;refine WPL.qg rfl rfl rfl aq rfl ?_;refine WPL.qg rfl rfl rfl aq rfl ?_;refine ws 24 H (fun hb8 H=>?_) fun hb8 H=>?_
   · (iterate 2 refine sp ?_);refine WPL.qg rfl rfl rfl aq rfl ?_;(iterate 2 refine sp ?_);refine ws 29 H (fun hb9 H=>?_) fun hb9 H=>?_
     · (iterate 8 refine sp ?_);refine WPL.nilW ?_;have q0:=j1 H;subst q0;exact wq []
     (iterate 3 refine sp ?_);refine ws 32 H (fun hb10 H=>?_) fun hb10 H=>?_
     · (iterate 5 refine sp ?_);refine WPL.nilW ?_;have q0:=j1 H;subst q0;exact wq []
     (iterate 5 refine sp ?_);refine WPL.nilW ?_;have q0:=j1 H;subst q0;exact wq []
   (iterate 2 refine sp ?_);refine WPL.qg rfl rfl rfl aq rfl ?_;(iterate 2 refine sp ?_);refine WPL.qg rfl rfl rfl aq rfl ?_;refine WPL.qg rfl rfl rfl aq rfl ?_;refine WPL.qg rfl rfl rfl aq rfl ?_;refine ws 32 H (fun hb11 H=>?_) fun hb11 H=>?_
   · (iterate 2 refine sp ?_);refine WPL.qg rfl rfl rfl aq rfl ?_;(iterate 2 refine sp ?_);refine WPL.nilW ?_;have q0:=j1 H;subst q0;exact wq []
   (iterate 2 refine sp ?_);refine WPL.qg rfl rfl rfl aq rfl ?_;(iterate 2 refine sp ?_);refine WPL.nilW ?_;have q0:=j1 H;subst q0;exact wq []
 (iterate 3 refine sp ?_);have q0:=j1 H;subst q0;exact W.now (mb [])
theorem s_quirelaw04_DeflateKinds (k:Nat) (x1:(List Int)) (x2:Int) (r:(Bool ⊕ ByteArray)) (H:g_quirelaw04_DeflateKinds k x1 x2=some r):Go.Q.Spec Try.prog 5 0 [.ro (Rd.slice (Rd.int .u8)) false x1,.lit (.int .i64 x2)] Mem.nil (fun o M=>match (generalizing:=false) r with | (Sum.inl x3)=>o=.ret (.lit (.bool x3))∧M=Mem.nil | (Sum.inr x4)=>o=.pan (.ifc 9 (.lit (.string x4)))∧M=Mem.nil):=by
 unfold g_quirelaw04_DeflateKinds at H;refine bo Try.func5 [] [.tmp 4] 27 fun cx hnp=>?_;(iterate 6 refine sp ?_);obtain ⟨y1,h1,H⟩:=bnd H;rcases y1 with ⟨x5,x6⟩ | x7
 · refine WPL.c (rc [] [] 0 [] (s_deflate_Deflate__b k x1 x2 (Sum.inl (x5,x6)) h1)) rfl ?_;(iterate 6 refine sp ?_);refine WP.seq ?_;(iterate 4 refine sp ?_);refine cq H (fun hb1 H=>?_) fun hb1 H=>?_
   · refine WP.seq ?_;obtain ⟨y2,H1,H⟩:=bnd H;refine WP.monoW (Q:=fun x E M=>match (generalizing:=false) y2 with | (Sum.inl x8)=>x=.normal∧E=(Env.none.upd 4 (.lit (.bool x8)))∧M=Mem.nil | (Sum.inr x9)=>x=.panic (.ifc 9 (.lit (.string x9)))∧E=Env.none∧M=Mem.nil) ?_ ?_
     · clear H;have H:=H1;clear H1;(iterate 3 refine sp ?_);obtain ⟨x10,h2,H⟩:=bnd H;refine sn (nm_bool h2) ?_;refine sp ?_;refine ws 18 H (fun hb2 H=>?_) fun hb2 H=>?_
       · obtain ⟨y3,h3,H⟩:=bnd H;rcases y3 with x11 | x12
         · refine WPL.cg rfl rfl (lb hb2) (rc [] [] 0 [] (s_quirelaw04_alive k (Sum.inl x11) h3)) rfl ?_;(iterate 2 refine sp ?_);refine WPL.nilW ?_;have q0:=j1 H;subst q0;exact wq []
         refine WPL.pgW rfl rfl (lb hb2) (runs_callP (s:=[]) (t:=[]) (N:=0) (bor:=[]) fn8 rfl (s_quirelaw04_alive k (Sum.inr x12) h3) ⟨rfl,trivial,by decide,rfl,trivial⟩ rfl trivial .nil rfl trivial rfl) ?_;have q0:=j1 H;subst q0;exact W.wkP [] hnp r3 ⟨rfl,trivial,by decide,rfl,trivial⟩ (LeE.none rfl rfl) rfl rfl
       (iterate 3 refine sp ?_);refine WPL.nilW ?_;have q0:=j1 H;subst q0;exact wq []
     rcases y2 with x8 | x9
     · rintro _ _ _ ⟨rfl,rfl,rfl⟩;(iterate 3 refine sp ?_);have q0:=j1 H;subst q0;exact W.now (Then.r (mb []))
     rintro _ _ _ ⟨rfl,rfl,rfl⟩;have q0:=j1 H;subst q0;exact W.now (Then.p (Then.p (BodyR.mkP trivial [] ⟨rfl,rfl⟩ ⟨rfl,trivial,by decide,rfl,trivial⟩ rfl rfl)))
   (iterate 3 refine sp ?_);refine WP.seq ?_;obtain ⟨y4,H2,H⟩:=bnd H;refine WP.monoW (Q:=fun x E M=>match (generalizing:=false) y4 with | (Sum.inl x13)=>x=.normal∧E=(Env.none.upd 4 (.lit (.bool x13)))∧M=Mem.nil | (Sum.inr x14)=>x=.panic (.ifc 9 (.lit (.string x14)))∧E=Env.none∧M=Mem.nil) ?_ ?_
   · clear H;have H:=H2;clear H2;(iterate 3 refine sp ?_);obtain ⟨x15,h4,H⟩:=bnd H;refine WPL.c (rc [] [] 0 [] (s_quirelaw04_kinds k x5 x2 x15 h4)) rfl ?_;refine sp ?_;refine ws 24 H (fun hb3 H=>?_) fun hb3 H=>?_
     · obtain ⟨y5,h5,H⟩:=bnd H;rcases y5 with x16 | x17
       · refine WPL.cg rfl rfl (lb hb3) (rc [] [] 0 [] (s_quirelaw04_alive k (Sum.inl x16) h5)) rfl ?_;(iterate 2 refine sp ?_);refine WPL.nilW ?_;have q0:=j1 H;subst q0;exact wq []
       refine WPL.pgW rfl rfl (lb hb3) (runs_callP (s:=[]) (t:=[]) (N:=0) (bor:=[]) fn8 rfl (s_quirelaw04_alive k (Sum.inr x17) h5) ⟨rfl,trivial,by decide,rfl,trivial⟩ rfl trivial .nil rfl trivial rfl) ?_;have q0:=j1 H;subst q0;exact W.wkP [] hnp r3 ⟨rfl,trivial,by decide,rfl,trivial⟩ (LeE.none rfl rfl) rfl rfl
     (iterate 3 refine sp ?_);refine WPL.nilW ?_;have q0:=j1 H;subst q0;exact wq []
   rcases y4 with x13 | x14
   · rintro _ _ _ ⟨rfl,rfl,rfl⟩;(iterate 3 refine sp ?_);have q0:=j1 H;subst q0;exact W.now (mb [])
   rintro _ _ _ ⟨rfl,rfl,rfl⟩;have q0:=j1 H;subst q0;exact W.now (Then.p (BodyR.mkP trivial [] ⟨rfl,rfl⟩ ⟨rfl,trivial,by decide,rfl,trivial⟩ rfl rfl))
 refine WPL.pW (runs_callP (s:=[]) (t:=[]) (N:=0) (bor:=[]) fn7 rfl (s_deflate_Deflate__b k x1 x2 (Sum.inr x7) h1) ⟨rfl,trivial,by decide,rfl,trivial⟩ rfl trivial (.ren rfl rfl (.ren rfl rfl .nil)) rfl trivial rfl) ?_;have q0:=j1 H;subst q0;exact W.now (Then.p (BodyR.mkP trivial [] ⟨rfl,rfl⟩ ⟨rfl,trivial,by decide,rfl,trivial⟩ rfl rfl))
def wt (x:Int):Int:=if 0<x then 2^(15 - x.toNat) else 0
def there (x:Int):Int:=if 0<x then 1 else 0
def sumW:List Int→Int
  | []=>0
  | x::l=>wt x+sumW l
def cntL:List Int→Int
  | []=>0
  | x::l=>there x+cntL l
def badX (x:Int):Prop:=x<0∨15<x
instance (x:Int):Decidable (badX x):=by unfold badX;infer_instance
def badL (l:List Int):Prop:=∃ x∈l,badX x
instance (l:List Int):Decidable (badL l):=by unfold badL;infer_instance
theorem pow15 {x:Int} (h0:0<x) (h1:x≤15):1≤(2:Int)^(15 - x.toNat)∧(2:Int)^(15 - x.toNat)≤16384:=by
  have:∃ n:Nat,x.toNat=n∧1≤n∧n≤15:=⟨x.toNat,rfl,by omega,by omega⟩
  obtain ⟨n,hn,h2,h3⟩:=this
  rw [hn]
  obtain rfl | rfl | rfl | rfl | rfl | rfl | rfl | rfl | rfl | rfl | rfl | rfl | rfl | rfl | rfl:n=1∨n=2∨n=3∨n=4∨n=5∨n=6∨n=7∨n=8∨n=9∨n=10∨n=11∨n=12∨n=13∨n=14∨n=15:=by omega
  all_goals decide
theorem wt_le {x:Int} (h:¬ badX x):0≤wt x∧wt x≤16384:=by
  unfold badX at h
  unfold wt
  split
  · have:=pow15 (x:=x) (by omega) (by omega);omega
  · omega
theorem there_le (x:Int):0≤there x∧there x≤1:=by unfold there;split <;> omega
theorem shl1 {b:Nat} (h:b≤15):shlI .i64 1 (b:Int)=2^b:=by
  obtain rfl | rfl | rfl | rfl | rfl | rfl | rfl | rfl | rfl | rfl | rfl | rfl | rfl | rfl | rfl | rfl:b=0∨b=1∨b=2∨b=3∨b=4∨b=5∨b=6∨b=7∨b=8∨b=9∨b=10∨b=11∨b=12∨b=13∨b=14∨b=15:=by omega
  all_goals rfl
theorem shlw {x:Int} (h0:0<x) (h1:x≤15):shlI .i64 1 (15 - x)=2^(15 - x.toNat):=by
  rw [show (15:Int) - x=((15 - x.toNat:Nat):Int) by omega]
  exact shl1 (by omega)
theorem drop_cons {α:Type} {l:List α} {i:Nat} (h:i<l.length):l.drop i=l[i]::l.drop (i+1):=List.drop_eq_getElem_cons h
theorem badL_cons {x:Int} {l:List Int}:badL (x::l)↔badX x∨badL l:=by simp [badL]
theorem wsucc {i:Nat} (h:i<9223372036854775807):IntKind.wrap .i64 ((i:Int)+1)=((i+1:Nat):Int):=by rw [wi (by omega) (by omega)];omega
theorem g_huff_judged_l0_eq (k:Nat) (l:List Int) (hl:l.length≤320):∀ (n i:Nat) (a m:Int),i≤l.length→l.length - i<n → -100000000+16384*((l.length:Int) - i)≤a→a≤100000000→0≤m→m≤i →
    g_huff_judged_l0 k l n a m i=some (if badL (l.drop i) then Sum.inl () else Sum.inr (a - sumW (l.drop i),m+cntL (l.drop i))):=by
  intro n
  induction n with
  | zero=>intro i a m _ h;omega
  | succ n ih =>
    intro i a m hi hn ha1 ha2 hm0 hm
    rw [g_huff_judged_l0.eq_2]
    simp only [Option.bind_some,bd]
    by_cases h:i<l.length
    · have e:ix l (i:Int)=some l[i]:=ix_nat h
      rw [if_pos (by omega),e,drop_cons h]
      simp only [Option.bind_some,badL_cons,sumW,cntL]
      generalize hx:l[i]=x
      by_cases hb:badX x
      · have hb':(if x<0 then some true else some (decide (15<x)))=some true:=by
          unfold badX at hb
          split
          · rfl
          · rw [dt (by omega)]
        rw [hb',if_pos (Or.inl hb:badX x∨badL (l.drop (i+1)))]
        rfl
      · have hb':(if x<0 then some true else some (decide (15<x)))=some false:=by
          unfold badX at hb
          rw [if_neg (by omega),df (by omega)]
        have hw:=wt_le hb
        unfold badX at hb
        rw [hb']
        simp only [Option.bind_some,bf,or_iff_right (show ¬ badX x by unfold badX;exact hb)]
        unfold wt there at *
        by_cases h0:0<x
        · rw [if_pos h0] at hw
          rw [if_pos h0,wi (n:=15 - x) (by omega) (by omega),if_pos (by omega),shlw h0 (by omega),if_pos h0,if_pos h0]
          rw [wi (n:=a - 2^(15 - x.toNat)) (by omega) (by omega),wi (n:=m+1) (by omega) (by omega),wsucc (by omega)]
          simp only [Option.bind_some]
          rw [ih (i+1) _ _ (by omega) (by omega) (by omega) (by omega) (by omega) (by omega)]
          simp only [Int.sub_sub,Int.add_assoc]
        · rw [if_neg h0,if_neg h0,if_neg h0,wsucc (by omega)]
          simp only [Option.bind_some]
          rw [ih (i+1) _ _ (by omega) (by omega) (by omega) (by omega) (by omega) (by omega)]
          simp only [Int.zero_add]
    · rw [if_neg (by omega),List.drop_of_length_le (by omega),if_neg (by simp [badL])]
      simp [sumW,cntL]
def judge (l:List Int):Bool × Int :=
  if 320<l.length then (false,1) else if badL l then (false,1) else if sumW l=32768 then (true,0) else if cntL l=0∨cntL l=1∧sumW l=16384 then (false,0) else (false,11)
theorem sumW_le:∀ {l:List Int},¬ badL l→0≤sumW l∧sumW l≤16384*(l.length:Int)
  | [],_=>by simp [sumW]
  | x::l,h=>by
    rw [badL_cons,not_or] at h
    have h1:=wt_le h.1
    have h2:=sumW_le h.2
    simp only [sumW,List.length_cons]
    omega
theorem cntL_le:∀ (l:List Int),0≤cntL l∧cntL l≤(l.length:Int)
  | []=>by simp [cntL]
  | x::l=>by
    have h1:=there_le x
    have h2:=cntL_le l
    simp only [cntL,List.length_cons]
    omega
theorem g_huff_judged_eq {k:Nat} {l:List Int} (hk:330≤k):g_huff_judged k l=some (judge l):=by
  unfold g_huff_judged judge
  simp only [Option.bind_some,bd]
  by_cases h:320<l.length
  · rw [if_pos (by omega),if_pos h]
  · rw [if_neg (by omega),if_neg h]
    have e:=g_huff_judged_l0_eq k l (by omega) k 0 32768 0 (by omega) (by omega) (by omega) (by omega) (by omega) (by omega)
    rw [List.drop_zero] at e
    have e':g_huff_judged_l0 k l k 32768 0 0=_:=e
    rw [e']
    by_cases hb:badL l
    · rw [if_pos hb,if_pos hb];rfl
    · have hs:=sumW_le hb
      rw [if_neg hb,if_neg hb]
      simp only [Option.bind_some,Int.zero_add]
      by_cases h1:sumW l=32768
      · rw [if_pos (by omega),if_pos h1]
      · rw [if_neg (by omega),if_neg h1]
        by_cases h2:cntL l=0
        · rw [if_pos h2,dt h2,if_pos (.inl h2)];rfl
        · rw [if_neg h2]
          by_cases h3:cntL l=1
          · rw [if_pos h3]
            by_cases h4:sumW l=16384
            · rw [dt (by omega),if_pos (.inr ⟨h3,h4⟩)];rfl
            · rw [df (by omega),if_neg (by omega)];rfl
          · rw [if_neg h3,if_neg (by omega)];rfl
theorem judge_ok {l:List Int} (h:(judge l).2=0):l.length≤320∧¬ badL l∧(sumW l=32768∨cntL l=0∨cntL l=1∧sumW l=16384):=by
  unfold judge at h
  by_cases h0:320<l.length
  · rw [if_pos h0] at h;cases h
  · rw [if_neg h0] at h
    by_cases hb:badL l
    · rw [if_pos hb] at h;cases h
    · rw [if_neg hb] at h
      refine ⟨by omega,hb,?_⟩
      by_cases h1:sumW l=32768
      · exact .inl h1
      · rw [if_neg h1] at h
        by_cases h2:cntL l=0∨cntL l=1∧sumW l=16384
        · exact .inr h2
        · rw [if_neg h2] at h;cases h
def codesOf (c:Int):List Int→Int→Nat→List Int→Int × List Int
  | [],nx,_,out=>(nx,out)
  | x::l,nx,i,out=>if x=c then codesOf c l (IntKind.wrap .u32 (nx+1)) (i+1) (out.set i nx) else codesOf c l nx (i+1) out
theorem codesOf_length (c:Int):∀ (l:List Int) (nx:Int) (i:Nat) (out:List Int),(codesOf c l nx i out).2.length=out.length
  | [],_,_,_=>rfl
  | x::l,nx,i,out=>by
    unfold codesOf
    split
    · rw [codesOf_length];simp
    · exact codesOf_length c l _ _ _
theorem g_huff_Codes_l1_eq (k:Nat) (l:List Int) (hl:l.length≤320) (c:Int):∀ (n i:Nat) (out:List Int) (nx:Int),out.length=l.length→i≤l.length→l.length - i<n →
    g_huff_Codes_l1 k l c n i out nx=some (Sum.inr ((codesOf c (l.drop i) nx i out).2,(codesOf c (l.drop i) nx i out).1)):=by
  intro n
  induction n with
  | zero=>intro i out nx _ _ h;omega
  | succ n ih =>
    intro i out nx ho hi hn
    rw [g_huff_Codes_l1.eq_2]
    simp only [Option.bind_some,bd]
    by_cases h:i<l.length
    · have e:ix l (i:Int)=some l[i]:=ix_nat h
      have e2:ix out (i:Int)=some (out[i]'(by omega)):=ix_nat (by omega)
      rw [if_pos (by omega),drop_cons h,e]
      simp only [Option.bind_some,e2]
      by_cases hc:l[i]=c
      · rw [if_pos hc]
        simp only [Option.bind_some,Bool.not_true,bf,Int.toNat_natCast]
        rw [wsucc (by omega),ih (i+1) _ _ (by simpa using ho) (by omega) (by omega)]
        simp only [codesOf,if_pos hc]
      · rw [if_neg hc]
        simp only [Option.bind_some,bf]
        rw [wsucc (by omega),ih (i+1) _ _ ho (by omega) (by omega)]
        simp only [codesOf,if_neg hc]
    · rw [if_neg (by omega),List.drop_of_length_le (by omega)]
      rfl
def codesFrom (l:List Int):Nat→Int→Int→List Int→List Int
  | 0,_,_,out=>out
  | m+1,c,nx,out=>codesFrom l m (c+1) (codesOf c l (shlI .u32 nx 1) 0 out).1 (codesOf c l (shlI .u32 nx 1) 0 out).2
theorem g_huff_Codes_l0_eq (k:Nat) (l:List Int) (hl:l.length≤320) (hk:330≤k):∀ (n m:Nat) (c nx:Int) (out:List Int),out.length=l.length→c+m=16→m≤15→m<n→g_huff_Codes_l0 k l n c out nx=some (codesFrom l m c nx out):=by
  intro n
  induction n with
  | zero=>intro m c nx out _ _ _ h;omega
  | succ n ih =>
    intro m c nx out ho hc h15 hm
    rw [g_huff_Codes_l0.eq_2]
    cases m with
    | zero=>rw [bd,if_neg (by omega)];rfl
    | succ m =>
      have e:=g_huff_Codes_l1_eq k l hl c k 0 out (shlI .u32 nx 1) ho (by omega) (by omega)
      rw [List.drop_zero] at e
      have e':g_huff_Codes_l1 k l c k 0 out (shlI .u32 nx 1)=_:=e
      rw [bd,if_pos (by omega),e']
      simp only [g_huff_of,Option.bind_some]
      rw [wi (by omega) (by omega),ih m (c+1) _ _ (by rw [codesOf_length];exact ho) (by omega) (by omega) (by omega)]
      rfl
def codesL (l:List Int):List Int × Int:=if (judge l).2=0 then (codesFrom l 15 1 0 (List.replicate l.length 0),0) else ([],(judge l).2)
theorem g_huff_Codes_eq {k:Nat} {l:List Int} (hk:330≤k):g_huff_Codes k l=some (codesL l):=by
  unfold g_huff_Codes codesL
  rw [g_huff_judged_eq hk]
  simp only [Option.bind_some,bnd',bd]
  by_cases h:(judge l).2=0
  · have hl:=(judge_ok h).1
    have e:=g_huff_Codes_l0_eq k l hl hk k 15 1 0 (List.replicate l.length 0) (by simp) (by omega) (by omega) (by omega)
    rw [if_pos h,if_pos h,if_pos (by omega),Int.toNat_natCast,e]
    rfl
  · rw [if_neg h,if_neg h]
abbrev cn (l:List Int) (c:Nat):Nat:=l.count (c:Int)
def hf (l:List Int):Nat→Nat
  | 0=>0
  | c+1=>if c=0 then 0 else 2*hf l c+cn l c
def sr (l:List Int):Nat→Nat
  | 0=>0
  | c+1=>if c=0 then 0 else sr l c+cn l c*2^(15 - c)
theorem hf_sr (l:List Int):∀ (c:Nat),1≤c→c≤15→2*hf l c*2^(15 - c)=sr l c
  | 0,h,_=>by omega
  | c+1,_,h=>by
    by_cases hc:c=0
    · subst hc;simp [hf,sr]
    · have ih:=hf_sr l c (by omega) (by omega)
      have e:2^(15 - c)=2*2^(15 - (c+1)):=by
        rw [show 15 - c=(15 - (c+1))+1 by omega,Nat.pow_succ];omega
      simp only [hf,sr,if_neg hc]
      rw [← ih,e]
      generalize 2^(15 - (c+1))=p
      generalize hf l c=h
      generalize cn l c=n
      rw [Nat.mul_add,Nat.add_mul]
      simp only [Nat.mul_assoc,Nat.mul_left_comm,Nat.mul_comm]
theorem sr_mono (l:List Int):∀ (b a:Nat),a≤b→sr l a≤sr l b
  | 0, a, h => by have : a = 0 := by omega
                  subst this;exact Nat.le_refl _
  | b+1,a,h=>by
    by_cases hab:a=b+1
    · subst hab;exact Nat.le_refl _
    · refine Nat.le_trans (sr_mono l b a (by omega)) ?_
      simp only [sr]
      split
      · rename_i hb;subst hb;simp [sr]
      · omega
theorem sr_cons (x:Int) (l:List Int) (hx:¬ badX x):∀ (c:Nat),c≤16→sr (x::l) c=sr l c+if 0<x∧x<c then 2^(15 - x.toNat) else 0
  | 0,_=>by unfold badX at hx;rw [if_neg (by omega)];simp [sr]
  | c+1,h=>by
    have ih:=sr_cons x l hx c (by omega)
    unfold badX at hx
    by_cases hc:c=0
    · subst hc;simp [sr];omega
    · simp only [sr,if_neg hc,ih,cn,List.count_cons]
      by_cases hxc:x=(c:Int)
      · subst hxc
        rw [if_neg (show ¬ (0<(c:Int)∧(c:Int)<(c:Int)) by omega),if_pos (show 0<(c:Int)∧(c:Int)<((c+1:Nat):Int) by omega),if_pos (show ((c:Int)==(c:Int))=true by simp),Int.toNat_natCast,Nat.add_mul]
        omega
      · rw [if_neg (show ¬ (x==(c:Int))=true by simpa using hxc),Nat.add_zero]
        by_cases h2:0<x∧x<c
        · rw [if_pos h2,if_pos (show 0<x∧x<((c+1:Nat):Int) by omega)];omega
        · rw [if_neg h2,if_neg (show ¬ (0<x∧x<((c+1:Nat):Int)) by omega)];omega
theorem sr_all:∀ {l:List Int},¬ badL l→(sr l 16:Int)=sumW l
  | [],_=>by decide
  | x::l,h=>by
    rw [badL_cons,not_or] at h
    have ih:=sr_all h.2
    have hx:=h.1
    rw [sr_cons x l hx 16 (by omega)]
    simp only [sumW,wt]
    unfold badX at hx
    by_cases h0:0<x
    · rw [if_pos ⟨h0,by omega⟩,if_pos h0,Int.natCast_add,ih,Int.natCast_pow];simp;omega
    · rw [if_neg (by omega),if_neg h0];omega
def cd (l:List Int) (i:Nat):Nat:=2*hf l (l.getD i 0).toNat+(l.take i).count (l.getD i 0)
theorem codesOf_spec (c:Int):∀ (l:List Int) (nx i:Nat) (out:List Int),nx+l.count c<4294967296→i+l.length≤out.length →
    (codesOf c l nx i out).1=((nx+l.count c:Nat):Int)∧∀ j,(codesOf c l nx i out).2[j]? = if i≤j∧l[j - i]? = some c then some ((nx+(l.take (j - i)).count c:Nat):Int) else out[j]?
  | [],nx,i,out,_,_=>by simp [codesOf]
  | x::l,nx,i,out,h,hl=>by
    unfold codesOf
    simp only [List.length_cons] at hl
    by_cases hx:x=c
    · subst hx
      simp only [List.count_cons_self] at h
      rw [if_pos rfl,show IntKind.wrap .u32 ((nx:Int)+1)=((nx+1:Nat):Int) by rw [wu32 (by omega) (by omega)];omega]
      obtain ⟨h1,h2⟩:=codesOf_spec x l (nx+1) (i+1) (out.set i nx) (by omega) (by simp;omega)
      refine ⟨by rw [h1,List.count_cons_self];omega,fun j=>?_⟩
      rw [h2]
      by_cases hij:i≤j
      · rcases Nat.eq_or_lt_of_le hij with rfl | hij'
        · rw [if_neg (by omega),if_pos (by simp)]
          simp [show i<out.length by omega]
        · have e:j - i=(j - (i+1))+1:=by omega
          rw [e,List.getElem?_cons_succ,List.take_succ_cons,List.count_cons_self]
          by_cases hc:l[j - (i+1)]? = some x
          · rw [if_pos ⟨by omega,hc⟩,if_pos ⟨hij,hc⟩];congr 2;omega
          · rw [if_neg (fun h=>hc h.2),if_neg (fun h=>hc h.2),List.getElem?_set_ne (by omega)]
      · rw [if_neg (by omega),if_neg (by omega),List.getElem?_set_ne (by omega)]
    · rw [List.count_cons_of_ne hx] at h
      rw [if_neg hx]
      obtain ⟨h1,h2⟩:=codesOf_spec c l nx (i+1) out h (by omega)
      refine ⟨by rw [h1,List.count_cons_of_ne hx],fun j=>?_⟩
      rw [h2]
      by_cases hij:i≤j
      · rcases Nat.eq_or_lt_of_le hij with rfl | hij'
        · rw [if_neg (by omega),if_neg (by simp [hx])]
        · have e:j - i=(j - (i+1))+1:=by omega
          rw [e,List.getElem?_cons_succ,List.take_succ_cons,List.count_cons_of_ne hx]
          by_cases hc:l[j - (i+1)]? = some c
          · rw [if_pos ⟨by omega,hc⟩,if_pos ⟨hij,hc⟩]
          · rw [if_neg (fun h=>hc h.2),if_neg (fun h=>hc h.2)]
      · rw [if_neg (by omega),if_neg (by omega)]
theorem shl32 {n:Nat} (h:n≤65536):shlI .u32 (n:Int) 1=((2*n:Nat):Int):=by
  show IntKind.wrap .u32 ((n:Int)*2)=_
  rw [wu32 (by omega) (by omega)]
  omega
theorem hf_le {l:List Int} (hs:sr l 16≤32768) {c:Nat} (h1:1≤c) (h15:c≤15):(2*hf l c+cn l c)*2^(15 - c)≤32768:=by
  have e:sr l (c+1)=(2*hf l c+cn l c)*2^(15 - c):=by
    simp only [sr,if_neg (show ¬ c=0 by omega),← hf_sr l c h1 h15,Nat.add_mul]
  rw [← e]
  exact Nat.le_trans (sr_mono l 16 (c+1) (by omega)) hs
theorem hf_small {l:List Int} (hs:sr l 16≤32768) {c:Nat} (h1:1≤c) (h15:c≤15):2*hf l c+cn l c≤32768:=by
  have:=hf_le hs h1 h15
  have hp:1≤2^(15 - c):=Nat.one_le_two_pow
  have:=Nat.mul_le_mul_left (2*hf l c+cn l c) hp
  omega
theorem codesFrom_spec (l:List Int) (hs:sr l 16≤32768):∀ (m c:Nat) (out:List Int),c+m=16→1≤c→out.length=l.length →
    ∀ j,(codesFrom l m c (hf l c) out)[j]? = if j<l.length∧(c:Int)≤l.getD j 0∧l.getD j 0≤15 then some (cd l j:Int) else out[j]?
  | 0,c,out,hc,_,_,j=>by
    rw [if_neg (by omega)];rfl
  | m+1,c,out,hc,h1,ho,j=>by
    have hsm:=hf_small hs h1 (by omega)
    rw [codesFrom,shl32 (by omega)]
    obtain ⟨e1,e2⟩:=codesOf_spec (c:Int) l (2*hf l c) 0 out (by show 2*hf l c+cn l c<_;omega) (by omega)
    rw [show (c:Int)+1=((c+1:Nat):Int) by omega,e1]
    have e3:2*hf l c+l.count (c:Int)=hf l (c+1):=by simp only [hf,if_neg (show ¬ c=0 by omega)]
    rw [e3,codesFrom_spec l hs m (c+1) _ (by omega) (by omega) (by rw [codesOf_length];exact ho) j,e2 j]
    simp only [Nat.zero_le,true_and,Nat.sub_zero]
    by_cases hj:j<l.length
    · have eg:l.getD j 0=l[j]:=by rw [List.getD_eq_getElem?_getD,List.getElem?_eq_getElem hj];rfl
      rw [List.getElem?_eq_getElem hj]
      by_cases hlc:l[j]=(c:Int)
      · rw [if_neg (by rw [eg];omega),if_pos (by rw [hlc]),if_pos ⟨hj,by rw [eg];omega⟩]
        simp only [cd,eg,hlc,Int.toNat_natCast]
      · rw [if_neg (show ¬ some l[j]=some (c:Int) by simpa using hlc)]
        by_cases h2:(c:Int)≤l.getD j 0∧l.getD j 0≤15
        · rw [if_pos ⟨hj,by rw [eg] at *;omega⟩,if_pos ⟨hj,h2⟩]
        · rw [if_neg (by rw [eg] at *;omega),if_neg (fun h=>h2 h.2)]
    · rw [if_neg (fun h=>hj h.1),if_neg (by rw [List.getElem?_eq_none (by omega)];simp),if_neg (fun h=>hj h.1)]
theorem codesL_get {l:List Int} (h:(judge l).2=0) {j:Nat} (hj:j<l.length) (h0:0<l[j]):(codesL l).1[j]? = some (cd l j:Int):=by
  obtain ⟨hl,hb,hk⟩:=judge_ok h
  have hs:sr l 16≤32768:=by
    have:=sr_all hb
    have h16:=(sumW_le hb).2
    rcases hk with h1 | h1 | h1
    · omega
    · have:∀ (l:List Int),cntL l=0→sumW l=0:=by
        intro l
        induction l with
        | nil=>intro _;rfl
        | cons x l ih =>
          intro h
          have h1:=there_le x
          have h2:=cntL_le l
          simp only [cntL] at h
          have h3:=ih (by omega)
          have h4:there x=0:=by omega
          unfold there at h4
          split at h4
          · omega
          · rename_i h5;simp only [sumW,wt,if_neg h5,h3];rfl
      have:=this l h1
      omega
    · omega
  unfold codesL
  rw [if_pos h]
  have hx:¬ badX l[j]:=fun hx=>hb ⟨_,List.getElem_mem hj,hx⟩
  unfold badX at hx
  have eg:l.getD j 0=l[j]:=by rw [List.getD_eq_getElem?_getD,List.getElem?_eq_getElem hj];rfl
  have:=codesFrom_spec l hs 15 1 (List.replicate l.length 0) (by omega) (by omega) (by simp) j
  rw [if_pos ⟨hj,by rw [eg];omega⟩] at this
  exact this
theorem count_take_le (l:List Int) (i:Nat) (c:Int):(l.take i).count c≤l.count c:=(List.take_sublist i l).count_le c
def okB (b:List Int):Prop:=∀ x∈b,0≤x∧x≤255
def swap8 (b:BitVec 32):BitVec 32:=((b >>> 8) &&& 16711935#32) ||| ((b &&& 16711935#32) <<< 8)
def swap16 (b:BitVec 32):BitVec 32:=(b >>> 16) ||| (b <<< 16)
def swap1 (b:BitVec 32):BitVec 32:=((b >>> 1) &&& 1431655765#32) ||| ((b &&& 1431655765#32) <<< 1)
def swap2 (b:BitVec 32):BitVec 32:=((b >>> 2) &&& 858993459#32) ||| ((b &&& 858993459#32) <<< 2)
def swap4 (b:BitVec 32):BitVec 32:=((b >>> 4) &&& 252645135#32) ||| ((b &&& 252645135#32) <<< 4)
theorem g_mb_ReverseBytes32_eq (k:Nat) (b:BitVec 32):g_mb_ReverseBytes32 k (b.toNat:Int)=some ((swap16 (swap8 b)).toNat:Int):=by
  unfold g_mb_ReverseBytes32
  rw [show (16711935:Int)=((16711935#32).toNat:Int) from rfl]
  simp only [Option.bind_some,u32_and,u32_or,u32_shr,u32_shl]
  rfl
theorem g_mb_Reverse32_eq (k:Nat) (b:BitVec 32):g_mb_Reverse32 k (b.toNat:Int)=some ((swap16 (swap8 (swap4 (swap2 (swap1 b))))).toNat:Int):=by
  unfold g_mb_Reverse32
  rw [show (1431655765:Int)=((1431655765#32).toNat:Int) from rfl,show (858993459:Int)=((858993459#32).toNat:Int) from rfl,show (252645135:Int)=((252645135#32).toNat:Int) from rfl]
  simp only [Option.bind_some,u32_and,u32_or,u32_shr,u32_shl,g_mb_ReverseBytes32_eq]
  rfl
theorem bit_swap1 (b:BitVec 32) {i:Nat} (h:i<32):(swap1 b).getLsbD i=b.getLsbD (if i%2<1 then i+1 else i - 1):=by
  obtain rfl | rfl | rfl | rfl | rfl | rfl | rfl | rfl | rfl | rfl | rfl | rfl | rfl | rfl | rfl | rfl | rfl | rfl | rfl | rfl | rfl | rfl | rfl | rfl | rfl | rfl | rfl | rfl | rfl | rfl | rfl | rfl:i=0∨i=1∨i=2∨i=3∨i=4∨i=5∨i=6∨i=7∨i=8∨i=9∨i=10∨i=11∨i=12∨i=13∨i=14∨i=15∨i=16∨i=17∨i=18∨i=19∨i=20∨i=21∨i=22∨i=23∨i=24∨i=25∨i=26∨i=27∨i=28∨i=29∨i=30∨i=31:=by omega
  all_goals simp [swap1]
theorem bit_swap2 (b:BitVec 32) {i:Nat} (h:i<32):(swap2 b).getLsbD i=b.getLsbD (if i%4<2 then i+2 else i - 2):=by
  obtain rfl | rfl | rfl | rfl | rfl | rfl | rfl | rfl | rfl | rfl | rfl | rfl | rfl | rfl | rfl | rfl | rfl | rfl | rfl | rfl | rfl | rfl | rfl | rfl | rfl | rfl | rfl | rfl | rfl | rfl | rfl | rfl:i=0∨i=1∨i=2∨i=3∨i=4∨i=5∨i=6∨i=7∨i=8∨i=9∨i=10∨i=11∨i=12∨i=13∨i=14∨i=15∨i=16∨i=17∨i=18∨i=19∨i=20∨i=21∨i=22∨i=23∨i=24∨i=25∨i=26∨i=27∨i=28∨i=29∨i=30∨i=31:=by omega
  all_goals simp [swap2]
theorem bit_swap4 (b:BitVec 32) {i:Nat} (h:i<32):(swap4 b).getLsbD i=b.getLsbD (if i%8<4 then i+4 else i - 4):=by
  obtain rfl | rfl | rfl | rfl | rfl | rfl | rfl | rfl | rfl | rfl | rfl | rfl | rfl | rfl | rfl | rfl | rfl | rfl | rfl | rfl | rfl | rfl | rfl | rfl | rfl | rfl | rfl | rfl | rfl | rfl | rfl | rfl:i=0∨i=1∨i=2∨i=3∨i=4∨i=5∨i=6∨i=7∨i=8∨i=9∨i=10∨i=11∨i=12∨i=13∨i=14∨i=15∨i=16∨i=17∨i=18∨i=19∨i=20∨i=21∨i=22∨i=23∨i=24∨i=25∨i=26∨i=27∨i=28∨i=29∨i=30∨i=31:=by omega
  all_goals simp [swap4]
theorem bit_swap8 (b:BitVec 32) {i:Nat} (h:i<32):(swap8 b).getLsbD i=b.getLsbD (if i%16<8 then i+8 else i - 8):=by
  obtain rfl | rfl | rfl | rfl | rfl | rfl | rfl | rfl | rfl | rfl | rfl | rfl | rfl | rfl | rfl | rfl | rfl | rfl | rfl | rfl | rfl | rfl | rfl | rfl | rfl | rfl | rfl | rfl | rfl | rfl | rfl | rfl:i=0∨i=1∨i=2∨i=3∨i=4∨i=5∨i=6∨i=7∨i=8∨i=9∨i=10∨i=11∨i=12∨i=13∨i=14∨i=15∨i=16∨i=17∨i=18∨i=19∨i=20∨i=21∨i=22∨i=23∨i=24∨i=25∨i=26∨i=27∨i=28∨i=29∨i=30∨i=31:=by omega
  all_goals simp [swap8]
theorem bit_swap16 (b:BitVec 32) {i:Nat} (h:i<32):(swap16 b).getLsbD i=b.getLsbD (if i%32<16 then i+16 else i - 16):=by
  obtain rfl | rfl | rfl | rfl | rfl | rfl | rfl | rfl | rfl | rfl | rfl | rfl | rfl | rfl | rfl | rfl | rfl | rfl | rfl | rfl | rfl | rfl | rfl | rfl | rfl | rfl | rfl | rfl | rfl | rfl | rfl | rfl:i=0∨i=1∨i=2∨i=3∨i=4∨i=5∨i=6∨i=7∨i=8∨i=9∨i=10∨i=11∨i=12∨i=13∨i=14∨i=15∨i=16∨i=17∨i=18∨i=19∨i=20∨i=21∨i=22∨i=23∨i=24∨i=25∨i=26∨i=27∨i=28∨i=29∨i=30∨i=31:=by omega
  all_goals simp [swap16]
theorem rev_bit (b:BitVec 32) {i:Nat} (h:i<32):(swap16 (swap8 (swap4 (swap2 (swap1 b))))).getLsbD i=b.getLsbD (31 - i):=by
  rw [bit_swap16 _ h]
  obtain rfl | rfl | rfl | rfl | rfl | rfl | rfl | rfl | rfl | rfl | rfl | rfl | rfl | rfl | rfl | rfl | rfl | rfl | rfl | rfl | rfl | rfl | rfl | rfl | rfl | rfl | rfl | rfl | rfl | rfl | rfl | rfl:i=0∨i=1∨i=2∨i=3∨i=4∨i=5∨i=6∨i=7∨i=8∨i=9∨i=10∨i=11∨i=12∨i=13∨i=14∨i=15∨i=16∨i=17∨i=18∨i=19∨i=20∨i=21∨i=22∨i=23∨i=24∨i=25∨i=26∨i=27∨i=28∨i=29∨i=30∨i=31:=by omega
  all_goals simp (disch:=decide) only [Nat.reduceMod,Nat.reduceLT,Nat.reduceMul,reduceIte,Nat.reduceAdd,Nat.reduceSub,bit_swap8,bit_swap4,bit_swap2,bit_swap1]
def rev (b:BitVec 32):BitVec 32:=swap16 (swap8 (swap4 (swap2 (swap1 b))))
def cut (n:Int):Nat:=if n<0 then 0 else if n > 32 then 32 else n.toNat
theorem cut_le (n:Int):cut n≤32:=by unfold cut;split <;> (try split) <;> omega
theorem g_bits_Reverse_eq (k:Nat) (b:BitVec 32) (n:Int):g_bits_Reverse k (b.toNat:Int) n=some (((((rev b).setWidth 64) >>> (32 - cut n)).setWidth 32).toNat:Int):=by
  have hc:=cut_le n
  have e1:(if (32:Int)<(if (0:Int) > n then (0:Int) else n) then (32:Int) else (if (0:Int) > n then (0:Int) else n))=(cut n:Int):=by
    unfold cut
    split <;> split <;> (try split) <;> omega
  unfold g_bits_Reverse
  simp only [Option.bind_some]
  rw [e1]
  simp only [Option.bind_some,g_mb_Reverse32_eq]
  rw [wi (by omega) (by omega),wu64 (by omega) (by omega),dt (show (0:Int)≤32 - (cut n:Int) by omega)]
  simp only [cond_true,u64_of_u32,u64_shr,u32_of_u64]
  rw [show ((32:Int) - (cut n:Int)).toNat=32 - cut n by omega]
  rfl
def bitAt (b:List Int) (i:Nat):Bool:=(BitVec.ofInt 8 (b.getD (i / 8) 0)).getLsbD (i%8)
theorem okB_bv {x:Int} (h:0≤x∧x≤255):x=((BitVec.ofInt 8 x).toNat:Int):=by
  rw [BitVec.toNat_ofInt,Int.toNat_of_nonneg (by simp;omega)]
  simp;omega
theorem ok_toNat (v:BitVec 8):0≤(v.toNat:Int)∧(v.toNat:Int)≤255:=by
  have:=v.isLt
  omega
structure Wr (n:Int) (b:List Int) (B:List Bool):Prop where
  n:n=(B.length:Int)
  l:b.length=(B.length+7) / 8
  ok:okB b
  bit:∀ i,bitAt b i=B.getD i false
theorem Wr.nil:Wr 0 [] []:=⟨rfl,rfl,by simp [okB],fun i=>by simp [bitAt]⟩
theorem ofInt8_toNat (v:BitVec 8):BitVec.ofInt 8 (v.toNat:Int)=v:=by
  rw [BitVec.ofInt_natCast,BitVec.ofNat_toNat];simp
theorem Wr.step {n:Int} {b:List Int} {B:List Bool} (h:Wr n b B) {b1:List Int} (h1:b1=if B.length%8=0 then b++[0] else b) (c:BitVec 8) (hc:∀ j,0<j→c.getLsbD j=false) {x:BitVec 8} (hx:b1.getD (B.length / 8) 0=(x.toNat:Int)) :
    Wr (n+1) (b1.set (B.length / 8) ((x ||| (c <<< (B.length%8))).toNat:Int)) (B++[c.getLsbD 0]):=by
  have hl:b1.length=B.length / 8+1:=by
    rw [h1]
    have:=h.l
    split
    · simp;omega
    · omega
  have hb1:∀ i,bitAt b1 i=bitAt b i:=by
    intro i
    rw [h1]
    split
    · unfold bitAt
      congr 2
      simp only [List.getD_eq_getElem?_getD,List.getElem?_append]
      split
      · rfl
      · rename_i hge
        rw [List.getElem?_eq_none (l:=b) (by omega)]
        cases hq:i / 8 - b.length with
        | zero=>rfl
        | succ q=>rfl
    · rfl
  refine ⟨by rw [h.n];simp,by simp only [List.length_set,hl,List.length_append,List.length_cons,List.length_nil];omega,?_,?_⟩
  · intro y hy
    rcases List.mem_or_eq_of_mem_set hy with hy | rfl
    · rw [h1] at hy
      split at hy
      · rcases List.mem_append.1 hy with hy | hy
        · exact h.ok y hy
        · simp at hy;subst hy;omega
      · exact h.ok y hy
    · exact ok_toNat _
  · intro i
    by_cases hi:i / 8=B.length / 8
    · have e1:bitAt (b1.set (B.length / 8) ((x ||| (c <<< (B.length%8))).toNat:Int)) i=(x ||| (c <<< (B.length%8))).getLsbD (i%8):=by
        unfold bitAt
        rw [hi,List.getD_eq_getElem?_getD,List.getElem?_set_self (by omega),Option.getD_some,ofInt8_toNat]
      have e2:x.getLsbD (i%8)=B.getD i false:=by
        rw [← h.bit,← hb1]
        unfold bitAt
        rw [hi,hx,ofInt8_toNat]
      rw [e1,BitVec.getLsbD_or,e2,BitVec.getLsbD_shiftLeft]
      simp only [List.getD_eq_getElem?_getD,List.getElem?_append]
      rcases Nat.lt_trichotomy i B.length with h2 | h2 | h2
      · rw [if_pos h2]
        have:i%8<B.length%8:=by omega
        simp [this]
      · rw [if_neg (by omega)]
        subst h2
        simp [show B.length%8<8 by omega]
      · rw [if_neg (by omega),List.getElem?_eq_none (by omega),List.getElem?_eq_none (by simp;omega)]
        rw [hc _ (by omega)]
        simp
    · have e1:bitAt (b1.set (B.length / 8) ((x ||| (c <<< (B.length%8))).toNat:Int)) i=bitAt b1 i:=by
        unfold bitAt
        rw [List.getD_eq_getElem?_getD,List.getElem?_set_ne (Ne.symm hi),← List.getD_eq_getElem?_getD]
      rw [e1,hb1,h.bit]
      simp only [List.getD_eq_getElem?_getD,List.getElem?_append]
      split
      · rfl
      · rename_i hge
        have:B.length<i:=by
          rcases Nat.lt_or_ge B.length i with h3 | h3
          · exact h3
          · exfalso;apply hi;congr 1;omega
        rw [List.getElem?_eq_none (by omega),List.getElem?_eq_none (by simp;omega)]
def bitsOf (v:BitVec 32) (c:Nat):List Bool:=(List.range c).map v.getLsbD
theorem bitsOf_length (v:BitVec 32) (c:Nat):(bitsOf v c).length=c:=by simp [bitsOf]
theorem bitsOf_drop (v:BitVec 32) {c i:Nat} (h:i<c):(bitsOf v c).drop i=v.getLsbD i::(bitsOf v c).drop (i+1):=by
  rw [List.drop_eq_getElem_cons (by rw [bitsOf_length];exact h)]
  simp [bitsOf]
theorem tm8 (a:Nat):Int.tmod (a:Int) 8=((a%8:Nat):Int):=rfl
theorem g_bits_Writer_Put__b_l0_eq (k:Nat) (v:BitVec 32) (c:Nat) (hc:c≤32):∀ (m i:Nat) (n:Int) (b:List Int) (B:List Bool),Wr n b B→i≤c→c - i<m→B.length+(c - i)≤1125899906842000 →
    ∃ n' b',g_bits_Writer_Put__b_l0 k (v.toNat:Int) (c:Int) m (i:Int) n b=some (n',b')∧Wr n' b' (B++(bitsOf v c).drop i):=by
  intro m
  induction m with
  | zero=>intro i n b B _ _ h;omega
  | succ m ih =>
    intro i n b B hw hi hm hB
    rw [g_bits_Writer_Put__b_l0.eq_2]
    by_cases h:i<c
    · rw [dt (show (i:Int)<(c:Int) by omega),dt (show (0:Int)≤(i:Int) by omega)]
      have hn:=hw.n
      have hl:=hw.l
      subst hn
      let b1:List Int:=if B.length%8=0 then b++[0] else b
      have hb1l:b1.length=B.length / 8+1:=by
        show (if B.length%8=0 then b++[0] else b).length=_
        split
        · simp;omega
        · omega
      have e1:(bif decide (Int.tmod (B.length:Int) 8=0) then (bif decide ((List.length b+List.length [(0:Int)])*1≤140737488355328) then some (b++[0]) else none) else some b)=some b1:=by
        rw [tm8]
        show _=some (if B.length%8=0 then b++[0] else b)
        by_cases h0:B.length%8=0
        · rw [dt (show ((B.length%8:Nat):Int)=0 by omega),dt (show (List.length b+List.length [(0:Int)])*1≤140737488355328 by simp;omega),if_pos h0];rfl
        · rw [df (show ¬ ((B.length%8:Nat):Int)=0 by omega),if_neg h0];rfl
      have hlt:B.length / 8<b1.length:=by omega
      have hok1:okB b1:=by
        intro y hy
        have hy':y∈(if B.length%8=0 then b++[0] else b):=hy
        split at hy'
        · rcases List.mem_append.1 hy' with hy | hy
          · exact hw.ok y hy
          · simp at hy;subst hy;omega
        · exact hw.ok y hy'
      have hx:=okB_bv (hok1 _ (List.getElem_mem hlt))
      have e2:bits .and .u8 (IntKind.wrap .u8 (shrI .u32 (v.toNat:Int) (i:Int))) 1=(((v >>> i).setWidth 8 &&& 1#8).toNat:Int):=by
        rw [u32_shr,u8_of_u32,show (1:Int)=((1#8).toNat:Int) from rfl,u8_and];rfl
      rw [e1,e2]
      simp only [cond_true,Option.bind_some]
      rw [wi (by omega) (by omega),show (((b1.length:Nat):Int) - 1)=((B.length / 8:Nat):Int) by omega,ix_nat hlt]
      simp only [Option.bind_some,tm8]
      rw [dt (show (0:Int)≤((B.length%8:Nat):Int) by omega)]
      simp only [cond_true,Bool.not_true,cond_false]
      rw [hx,u8_shl,u8_or,wi (by omega) (by omega),wi (by omega) (by omega),Int.toNat_natCast,Int.toNat_natCast]
      have hst:=hw.step (b1:=b1) rfl ((v >>> i).setWidth 8 &&& 1#8) (fun j hj=>by
        rw [BitVec.getLsbD_and,BitVec.getLsbD_one];simp;omega) (x:=BitVec.ofInt 8 b1[B.length / 8]) (by
        rw [← hx,List.getD_eq_getElem?_getD,List.getElem?_eq_getElem hlt];rfl)
      obtain ⟨n',b',h1,h2⟩:=ih (i+1) _ _ _ hst (by omega) (by omega) (by simp;omega)
      refine ⟨n',b',h1,?_⟩
      have hbit:((v >>> i).setWidth 8 &&& 1#8).getLsbD 0=v.getLsbD i:=by simp
      rw [hbit,List.append_assoc] at h2
      rw [bitsOf_drop v h]
      exact h2
    · rw [df (show ¬ (i:Int)<(c:Int) by omega)]
      have:i=c:=by omega
      subst this
      refine ⟨n,b,rfl,?_⟩
      rw [List.drop_of_length_le (by rw [bitsOf_length];omega),List.append_nil]
      exact hw
theorem not_bad {c:Int} (h:0≤c∧c≤32):(bif decide (c<0) then some true else some (decide (32<c)))=some false:=by
  rw [df (show ¬ c<0 by omega),df (show ¬ 32<c by omega)];rfl
theorem g_bits_Writer_Put__b_ok {k:Nat} (hk:40≤k) (v:BitVec 32) (c:Nat) (hc:c≤32) {n:Int} {b:List Int} {B:List Bool} (hw:Wr n b B) (hB:B.length+c≤1125899906842000) :
    ∃ n' b',g_bits_Writer_Put__b k (v.toNat:Int) (c:Int) n b=some (0,n',b')∧Wr n' b' (B++bitsOf v c):=by
  obtain ⟨n',b',h1,h2⟩:=g_bits_Writer_Put__b_l0_eq k v c hc k 0 n b B hw (by omega) (by omega) (by omega)
  refine ⟨n',b',?_,h2⟩
  unfold g_bits_Writer_Put__b
  rw [not_bad (by omega)]
  simp only [Option.bind_some,cond_false,g_bits_each]
  rw [show g_bits_Writer_Put__b_l0 k (v.toNat:Int) (c:Int) k 0 n b=_ from h1]
  rfl
theorem g_bits_Reverse_bits (k:Nat) (b:BitVec 32) (n:Int):∃ r:BitVec 32,g_bits_Reverse k (b.toNat:Int) n=some (r.toNat:Int)∧∀ j,r.getLsbD j=(decide (j<cut n)&&b.getLsbD (cut n - 1 - j)):=by
  have hc:=cut_le n
  refine ⟨_,g_bits_Reverse_eq k b n,fun i=>?_⟩
  rw [BitVec.getLsbD_setWidth,BitVec.getLsbD_ushiftRight,BitVec.getLsbD_setWidth]
  by_cases hic:i<cut n
  · rw [show rev b=swap16 (swap8 (swap4 (swap2 (swap1 b)))) from rfl,rev_bit b (by omega)]
    simp [hic,show i<32 by omega,show 32 - cut n+i<64 by omega,show 31 - (32 - cut n+i)=cut n - 1 - i by omega]
  · by_cases hi:i<32
    · rw [BitVec.getLsbD_of_ge (rev b) _ (by omega)]
      simp [hic]
    · simp [hic,hi]
end Go.Proofs.Ytmmeanjjfhimjaa.W
namespace Go.Proofs.Ytmmeanjjfhimjaa.HB
def Sim {α:Type} (f:α→Int) (l r:List α):Prop:=∀ k,l.filter (fun x=>f x==k)=r.filter (fun x=>f x==k)
def Srt {α:Type} (f:α→Int) (l:List α):Prop:=l.Pairwise (fun x y=>f x≤f y)
section
variable {α:Type} {f:α→Int} {l r l' r' s:List α}
theorem Sim.refl (l:List α):Sim f l l:=fun _=>rfl
theorem Sim.symm (h:Sim f l r):Sim f r l:=fun k=>(h k).symm
theorem Sim.trans (h:Sim f l r) (g:Sim f r s):Sim f l s:=fun k=>(h k).trans (g k)
theorem Sim.app (h:Sim f l l') (g:Sim f r r'):Sim f (l++r) (l'++r'):=fun k=>by rw [List.filter_append,List.filter_append,h k,g k]
theorem Sim.cons (x:α) (h:Sim f l l'):Sim f (x::l) (x::l'):=Sim.app (Sim.refl [x]) h
theorem Sim.swap (h:∀ x∈l,∀ y∈r,f x≠f y):Sim f (l++r) (r++l):=fun k=>by
  rw [List.filter_append,List.filter_append]
  by_cases hl:l.filter (fun x=>f x==k)=[]
  · simp [hl]
  · obtain ⟨x,hx⟩:=List.exists_mem_of_ne_nil _ hl
    have hx':=List.mem_filter.1 hx
    have hr:r.filter (fun x=>f x==k)=[]:=by
      rw [List.filter_eq_nil_iff]
      intro y hy hk
      have h1:f x=k:=by simpa using hx'.2
      have h2:f y=k:=by simpa using hk
      exact h x hx'.1 y hy (h1.trans h2.symm)
    simp [hr]
theorem Sim.mem (h:Sim f l r) {x:α} (hx:x∈l):x∈r:=by
  have:x∈l.filter (fun y=>f y==f x):=List.mem_filter.2 ⟨hx,by simp⟩
  rw [h] at this
  exact (List.mem_filter.1 this).1
theorem Srt.uniq:∀ {l r:List α},Srt f l→Srt f r→Sim f l r→l=r
  | [],[],_,_,_=>rfl
  | [],y::r,_,_,h=>absurd (h.symm.mem (List.mem_cons_self)) (by simp)
  | x::l,[],_,_,h=>absurd (h.mem (List.mem_cons_self)) (by simp)
  | x::l,y::r,hl,hr,h=>by
    have hl':=List.pairwise_cons.1 hl
    have hr':=List.pairwise_cons.1 hr
    have h1:f x≤f y:=by
      rcases List.mem_cons.1 (h.symm.mem (List.mem_cons_self (a:=y))) with e | e
      · rw [e];exact Int.le_refl _
      · exact hl'.1 _ e
    have h2:f y≤f x:=by
      rcases List.mem_cons.1 (h.mem (List.mem_cons_self (a:=x))) with e | e
      · rw [e];exact Int.le_refl _
      · exact hr'.1 _ e
    have he:f x=f y:=Int.le_antisymm h1 h2
    have hk:=h (f x)
    rw [List.filter_cons_of_pos (by simp),List.filter_cons_of_pos (by simp [he])] at hk
    have hxy:x=y:=(List.cons.inj hk).1
    subst hxy
    have:Sim f l r:=fun k=>by
      have hk:=h k
      by_cases hc:f x=k
      · rw [List.filter_cons_of_pos (by simp [hc]),List.filter_cons_of_pos (by simp [hc])] at hk
        exact (List.cons.inj hk).2
      · rwa [List.filter_cons_of_neg (by simp [hc]),List.filter_cons_of_neg (by simp [hc])] at hk
    rw [Srt.uniq hl'.2 hr'.2 this]
end
abbrev C:=Int × List Int
def ins (x:C):List C→List C
  | []=>[x]
  | y::l=>if y.1<x.1 then y::ins x l else x::y::l
def st:List C→List C
  | []=>[]
  | x::l=>ins x (st l)
abbrev key:C→Int:=fun c=>c.1
theorem ins_sim (x:C):∀ l,Sim key (x::l) (ins x l)
  | []=>Sim.refl _
  | y::l=>by
    unfold ins
    split
    · rename_i h
      refine Sim.trans ?_ (Sim.cons y (ins_sim x l))
      exact Sim.app (l:=[x]++[y]) (l':=[y]++[x]) (Sim.swap (by intro a ha b hb;simp at ha hb;subst ha;subst hb;exact fun e=>absurd e.symm (Int.ne_of_lt h))) (Sim.refl l)
    · exact Sim.refl _
theorem ins_srt (x:C):∀ l,Srt key l→Srt key (ins x l)
  | [],_=>List.pairwise_singleton _ _
  | y::l,h=>by
    have h':=List.pairwise_cons.1 h
    unfold ins
    split
    · rename_i hc
      refine List.pairwise_cons.2 ⟨fun z hz=>?_,ins_srt x l h'.2⟩
      rcases List.mem_cons.1 ((ins_sim x l).symm.mem hz) with e | e
      · rw [e];exact Int.le_of_lt hc
      · exact h'.1 z e
    · rename_i hc
      refine List.pairwise_cons.2 ⟨fun z hz=>?_,h⟩
      rcases List.mem_cons.1 hz with e | e
      · rw [e];exact Int.not_lt.1 hc
      · exact Int.le_trans (Int.not_lt.1 hc) (h'.1 z e)
theorem st_sim:∀ l,Sim key l (st l)
  | []=>Sim.refl _
  | x::l=>Sim.trans (Sim.cons x (st_sim l)) (ins_sim x (st l))
theorem st_srt:∀ l,Srt key (st l)
  | []=>List.Pairwise.nil
  | x::l=>ins_srt x _ (st_srt l)
theorem st_eq {l r:List C} (h:Srt key r) (g:Sim key l r):r=st l:=h.uniq (st_srt l) (g.symm.trans (st_sim l))
theorem st_len:∀ l,(st l).length=l.length:=by
  have hi:∀ (x:C) l,(ins x l).length=l.length+1:=by
    intro x l
    induction l with
    | nil=>rfl
    | cons y l ih=>unfold ins;split <;> simp [ih]
  intro l
  induction l with
  | nil=>rfl
  | cons x l ih=>show (ins x (st l)).length=_;rw [hi,ih];rfl
theorem st_mem {l:List C} {x:C}:x∈st l↔x∈l:=⟨(st_sim l).symm.mem,(st_sim l).mem⟩
def mg:List C→List C→List C
  | [],r=>r
  | x::l,[]=>x::l
  | x::l,y::r=>if y.1<x.1 then y::mg (x::l) r else x::mg l (y::r)
termination_by l r=>l.length+r.length
theorem mg_sim:∀ (l r:List C),Srt key l→Sim key (l++r) (mg l r)
  | [],r,_=>by rw [mg];exact Sim.refl _
  | x::l,[],_=>by rw [mg,List.append_nil];exact Sim.refl _
  | x::l,y::r,h=>by
    rw [mg]
    have h':=List.pairwise_cons.1 h
    split
    · rename_i hc
      refine Sim.trans ?_ (Sim.cons y (mg_sim (x::l) r h))
      have e1:x::l++y::r=((x::l)++[y])++r:=by simp
      have e2:y::(x::l++r)=([y]++(x::l))++r:=by simp
      rw [e1,e2]
      refine Sim.app (Sim.swap ?_) (Sim.refl r)
      intro a ha b hb e
      rw [List.mem_singleton] at hb;subst hb
      have:x.1≤a.1:=by
        rcases List.mem_cons.1 ha with q | q
        · rw [q];exact Int.le_refl _
        · exact h'.1 _ q
      have e':a.1=b.1:=e
      omega
    · exact Sim.cons x (mg_sim l (y::r) h'.2)
termination_by l r=>l.length+r.length
theorem mg_srt:∀ (l r:List C),Srt key l→Srt key r→Srt key (mg l r)
  | [],r,_,h=>by rw [mg];exact h
  | x::l,[],h,_=>by rw [mg];exact h
  | x::l,y::r,h,g=>by
    have h':=List.pairwise_cons.1 h
    have g':=List.pairwise_cons.1 g
    rw [mg]
    split
    · rename_i hc
      refine List.pairwise_cons.2 ⟨fun z hz=>?_,mg_srt (x::l) r h g'.2⟩
      rcases List.mem_append.1 ((mg_sim (x::l) r h).symm.mem hz) with e | e
      · rcases List.mem_cons.1 e with q | q
        · rw [q];exact Int.le_of_lt hc
        · exact Int.le_trans (Int.le_of_lt hc) (h'.1 z q)
      · exact g'.1 z e
    · rename_i hc
      refine List.pairwise_cons.2 ⟨fun z hz=>?_,mg_srt l (y::r) h'.2 g⟩
      rcases List.mem_append.1 ((mg_sim l (y::r) h'.2).symm.mem hz) with e | e
      · exact h'.1 z e
      · rcases List.mem_cons.1 e with q | q
        · rw [q];exact Int.not_lt.1 hc
        · exact Int.le_trans (Int.not_lt.1 hc) (g'.1 z q)
termination_by l r=>l.length+r.length
theorem mg_pre:∀ (t:Nat) (l r:List C),Srt key l→t≤l.length+r.length →
    ∃ a b,a≤l.length∧b≤r.length∧a+b=t∧((mg l r).take t).Perm (l.take a++r.take b)∧∀ y∈r.take b,∀ x∈l.drop a,y.1<x.1
  | 0,l,r,_,_=>⟨0,0,Nat.zero_le _,Nat.zero_le _,rfl,by simp,by simp⟩
  | t+1,[],r,_,ht=>⟨0,t+1,Nat.le_refl _,by simpa using ht,by omega,by rw [mg];simp,by simp⟩
  | t+1,x::l,[],_,ht=>⟨t+1,0,by simpa using ht,Nat.le_refl _,rfl,by rw [mg];simp,by simp⟩
  | t+1,x::l,y::r,h,ht=>by
    have h':=List.pairwise_cons.1 h
    rw [mg]
    split
    · rename_i hc
      obtain ⟨a,b,ha,hb,hab,hp,hlt⟩:=mg_pre t (x::l) r h (by simp at ht ⊢;omega)
      refine ⟨a,b+1,ha,by simp;omega,by omega,?_,?_⟩
      · rw [List.take_succ_cons,List.take_succ_cons]
        exact (List.Perm.cons y hp).trans List.perm_middle.symm
      · intro z hz w hw
        rw [List.take_succ_cons] at hz
        rcases List.mem_cons.1 hz with e | e
        · subst e
          have:w∈x::l:=List.mem_of_mem_drop hw
          rcases List.mem_cons.1 this with q | q
          · rw [q];exact hc
          · exact Int.lt_of_lt_of_le hc (h'.1 w q)
        · exact hlt z e w hw
    · rename_i hc
      obtain ⟨a,b,ha,hb,hab,hp,hlt⟩:=mg_pre t l (y::r) h'.2 (by simp at ht ⊢;omega)
      refine ⟨a+1,b,by simp;omega,hb,by omega,?_,?_⟩
      · rw [List.take_succ_cons,List.take_succ_cons]
        exact List.Perm.cons x hp
      · intro z hz w hw
        rw [List.drop_succ_cons] at hw
        exact hlt z hz w hw
def pairs:List C→List C
  | x::y::l=>(x.1+y.1,x.2++y.2)::pairs l
  | _=>[]
theorem pairs_len:∀ l,(pairs l).length=l.length / 2
  | []=>rfl
  | [_]=>by simp [pairs]
  | _::_::l=>by simp only [pairs,List.length_cons,pairs_len l];omega
theorem pairs_srt:∀ l,Srt key l→Srt key (pairs l)
  | [],_=>List.Pairwise.nil
  | [_],_=>List.Pairwise.nil
  | x::y::l,h=>by
    have h1:=List.pairwise_cons.1 h
    have h2:=List.pairwise_cons.1 h1.2
    refine List.pairwise_cons.2 ⟨?_,pairs_srt l h2.2⟩
    have:∀ l:List C,(∀ z∈l,x.1≤z.1∧y.1≤z.1)→∀ z∈pairs l,x.1+y.1≤z.1:=by
      intro l
      induction l using pairs.induct with
      | case1 a b l ih =>
        intro hz z hm
        rcases List.mem_cons.1 hm with e | e
        · subst e
          have:=(hz a (by simp)).1;have:=(hz b (by simp)).2
          show x.1+y.1≤a.1+b.1;omega
        · exact ih (fun z hz'=>hz z (by simp [hz'])) z e
      | case2 l hl =>
        intro _ z hm
        unfold pairs at hm;split at hm
        · exact absurd rfl (hl _ _ _)
        · simp at hm
    exact fun z hz=>this l (fun z hz=>⟨h1.1 z (by simp [hz]),h2.1 z hz⟩) z hz
abbrev syms (l:List C):List Int:=l.flatMap (·.2)
theorem syms_pairs:∀ (b:Nat) (l:List C),2*b≤l.length→syms ((pairs l).take b)=syms (l.take (2*b))
  | 0,l,_=>by simp
  | b+1,[],h=>by simp at h
  | b+1,[x],h=>by simp at h;omega
  | b+1,x::y::l,h=>by
    have ih:=syms_pairs b l (by simp at h;omega)
    have e:2*(b+1)=(2*b)+1+1:=by omega
    rw [e]
    simp only [pairs,List.take_succ_cons,List.flatMap_cons,List.append_assoc]
    rw [show List.flatMap (fun x:C=>x.2) (List.take b (pairs l))=List.flatMap (fun x:C=>x.2) (List.take (2*b) l) from ih]
def lev (base:List C):Nat→List C
  | 0=>[]
  | j+1=>st (base++pairs (lev base j))
theorem lev_srt (base:List C):∀ j,Srt key (lev base j)
  | 0=>List.Pairwise.nil
  | _+1=>st_srt _
theorem lev_len (base:List C) (j:Nat):(lev base (j+1)).length=base.length+(lev base j).length / 2:=by
  rw [lev,st_len,List.length_append,pairs_len]
theorem lev_many (base:List C) (m:Nat) (h:base.length≤2^m):∀ j,j≤m→2*base.length≤(lev base j).length+2^(m+1 - j)
  | 0,_=>by simp [lev,Nat.pow_succ];omega
  | j+1,hj=>by
    have ih:=lev_many base m h j (by omega)
    rw [lev_len]
    have e:m+1 - j=(m+1 - (j+1))+1:=by omega
    rw [e,Nat.pow_succ] at ih
    omega
theorem lev_mg (base:List C) (hb:Srt key base) (j:Nat):lev base (j+1)=mg base (pairs (lev base j)) :=
  (st_eq (mg_srt _ _ hb (pairs_srt _ (lev_srt base j))) (mg_sim _ _ hb)).symm
def Wt (F:Int→Int) (x:C):Prop:=x.1=(x.2.map F).sum
theorem sum_app (F:Int→Int) (a b:List Int):((a++b).map F).sum=(a.map F).sum+(b.map F).sum:=by rw [List.map_append,List.sum_append]
theorem pairs_wt {F:Int→Int}:∀ (l:List C),(∀ x∈l,Wt F x)→∀ x∈pairs l,Wt F x
  | [],_,x,hx=>by simp [pairs] at hx
  | [_],_,x,hx=>by simp [pairs] at hx
  | a::b::l,h,x,hx=>by
    rcases List.mem_cons.1 hx with e | e
    · subst e
      show a.1+b.1=((a.2++b.2).map F).sum
      rw [sum_app,← show a.1=_ from h a (by simp),← show b.1=_ from h b (by simp)]
    · exact pairs_wt l (fun x hx=>h x (by simp [hx])) x e
theorem lev_wt {F:Int→Int} (base:List C) (hw:∀ x∈base,Wt F x):∀ j,∀ x∈lev base j,Wt F x
  | 0,x,hx=>by simp [lev] at hx
  | j+1,x,hx=>by
    rcases List.mem_append.1 (st_mem.1 hx) with e | e
    · exact hw x e
    · exact pairs_wt _ (lev_wt base hw j) x e
theorem le_sum {F:Int→Int} (h:∀ s,0≤F s):∀ (l:List Int) (s:Int),s∈l→F s≤(l.map F).sum∧0≤(l.map F).sum:=by
  have h0:∀ l:List Int,0≤(l.map F).sum:=by
    intro l
    induction l with
    | nil=>simp
    | cons x l ih=>simp only [List.map_cons,List.sum_cons];have:=h x;omega
  intro l
  induction l with
  | nil=>intro s hs;simp at hs
  | cons x l ih =>
    intro s hs
    refine ⟨?_,h0 _⟩
    simp only [List.map_cons,List.sum_cons]
    rcases List.mem_cons.1 hs with e | e
    · subst e;have:=h0 l;omega
    · have:=(ih s e).1;have:=h x;omega
abbrev cnt (s:Int) (l:List C):Nat:=(syms l).count s
theorem cnt_perm {l r:List C} (h:l.Perm r) (s:Int):cnt s l=cnt s r:=(List.Perm.flatMap_right _ h).count_eq s
def term (j c:Nat):Nat:=2^j - 2^(j - c)
theorem term0 (j:Nat):term j 0=0:=by simp [term]
theorem term1 (j c:Nat) (h:c≤j):term (j+1) (1+c)=2^j+term j c:=by
  unfold term
  have e:j+1 - (1+c)=j - c:=by omega
  have:2^(j - c)≤2^j:=Nat.pow_le_pow_right (by decide) (by omega)
  rw [e,Nat.pow_succ];omega
theorem base_syms (F:Int→Int) (S:List Int) (a:Nat):syms ((S.map fun s=>((F s,[s]):C)).take a)=S.take a:=by
  rw [← List.map_take]
  induction S.take a with
  | nil=>rfl
  | cons x l ih=>simp only [List.map_cons,List.flatMap_cons];rw [show List.flatMap (fun x:C=>x.2) (List.map (fun s=>((F s,[s]):C)) l)=l from ih];rfl
theorem sum_add (S:List Int) (f g:Int→Nat):(S.map fun s=>f s+g s).sum=(S.map f).sum+(S.map g).sum:=by
  induction S with
  | nil=>rfl
  | cons x l ih=>simp only [List.map_cons,List.sum_cons,ih];omega
theorem sum_const (S:List Int) (k:Nat):(S.map fun _=>k).sum=S.length*k:=by
  induction S with
  | nil=>simp
  | cons x l ih=>simp only [List.map_cons,List.sum_cons,ih,List.length_cons];rw [Nat.succ_mul];omega
theorem sum_congr (S:List Int) (f g:Int→Nat) (h:∀ s∈S,f s=g s):(S.map f).sum=(S.map g).sum:=by
  induction S with
  | nil=>rfl
  | cons x l ih=>simp only [List.map_cons,List.sum_cons];rw [h x (by simp),ih (fun s hs=>h s (by simp [hs]))]
theorem fills {F:Int→Int} (hF:∀ s,0≤F s) (S:List Int) (hS:S.Nodup) (hs:Srt key (S.map fun s=>((F s,[s]):C))) :
    ∀ j t,t≤(lev (S.map fun s=>((F s,[s]):C)) j).length →
      (∀ s,cnt s ((lev (S.map fun s=>((F s,[s]):C)) j).take t)≤j)∧(∀ s,s∉S→cnt s ((lev (S.map fun s=>((F s,[s]):C)) j).take t)=0) ∧
      2*(S.map fun s=>term j (cnt s ((lev (S.map fun s=>((F s,[s]):C)) j).take t))).sum=t*2^j:=by
  generalize hB:(S.map fun s=>((F s,[s]):C))=base at hs
  have hbw:∀ x∈base,Wt F x:=by
    subst hB;intro x hx
    obtain ⟨s,_,rfl⟩:=List.mem_map.1 hx
    show F s=_;simp
  intro j
  induction j with
  | zero =>
    intro t ht
    have:t=0:=by simpa [lev] using ht
    subst this
    have z:∀ s,cnt s ([]:List C)=0:=fun s=>rfl
    refine ⟨fun s=>Nat.le_of_eq (z s),fun s _=>z s,?_⟩
    rw [List.take_zero,sum_congr S _ (fun _=>0) (fun s _=>by rw [z s];exact term0 _),sum_const];simp
  | succ j ih =>
    intro t ht
    rw [lev_mg base hs] at ht ⊢
    have hlen:(mg base (pairs (lev base j))).length=base.length+(pairs (lev base j)).length:=by rw [← lev_mg base hs,lev,st_len,List.length_append]
    obtain ⟨a,b,ha,hb,hab,hp,hlt⟩:=mg_pre t base (pairs (lev base j)) hs (by omega)
    have hb2:2*b≤(lev base j).length:=by rw [pairs_len] at hb;omega
    obtain ⟨i1,i2,i3⟩:=ih (2*b) hb2
    have hla:syms (base.take a)=S.take a:=by subst hB;exact base_syms F S a
    have haS:a≤S.length:=by subst hB;simpa using ha
    have hc:∀ s,cnt s ((mg base (pairs (lev base j))).take t)=(S.take a).count s+cnt s ((lev base j).take (2*b)):=by
      intro s
      rw [cnt_perm hp]
      show (syms (base.take a++(pairs (lev base j)).take b)).count s=_
      rw [show syms (base.take a++(pairs (lev base j)).take b)=syms (base.take a)++syms ((pairs (lev base j)).take b) from List.flatMap_append,List.count_append,hla,syms_pairs b _ hb2]
    -- what is within a package is ahead of it
    have hz:∀ s∈S.drop a,cnt s ((lev base j).take (2*b))=0:=by
      intro s hsd
      refine Nat.eq_zero_of_not_pos fun hpos=>?_
      have hm:s∈syms ((lev base j).take (2*b)):=List.count_pos_iff.1 hpos
      rw [← syms_pairs b _ hb2] at hm
      obtain ⟨y,hy,hsy⟩:=List.mem_flatMap.1 hm
      have hyw:Wt F y:=pairs_wt _ (lev_wt base hbw j) y (List.mem_of_mem_take hy)
      have h1:=hlt y hy (F s,[s]) (by subst hB;rw [← List.map_drop];exact List.mem_map.2 ⟨s,hsd,rfl⟩)
      have h2:=(le_sum hF y.2 s hsy).1
      rw [← show y.1=_ from hyw] at h2
      exact absurd h1 (Int.not_lt.2 h2)
    have hsp:S=S.take a++S.drop a:=(List.take_append_drop a S).symm
    have hnd:(S.take a++S.drop a).Nodup:=by rw [← hsp];exact hS
    have hdis:=(List.nodup_append.1 hnd)
    have h1:∀ s∈S.take a,(S.take a).count s=1:=fun s hs=>by rw [hdis.1.count,if_pos hs]
    have h0:∀ s,s∉S.take a→(S.take a).count s=0:=fun s hs=>List.count_eq_zero.2 hs
    have hd0:∀ s∈S.drop a,(S.take a).count s=0:=fun s hs=>h0 s fun hq=>hdis.2.2 s hq s hs rfl
    refine ⟨fun s=>?_,fun s hn=>?_,?_⟩
    · rw [hc]
      by_cases q:s∈S.take a
      · rw [h1 s q];have:=i1 s;omega
      · rw [h0 s q];have:=i1 s;omega
    · rw [hc,i2 s hn,h0 s fun q=>hn (List.mem_of_mem_take q)]
    · have key1:(S.map fun s=>term (j+1) (cnt s ((mg base (pairs (lev base j))).take t))).sum=a*2^j+(S.map fun s=>term j (cnt s ((lev base j).take (2*b)))).sum:=by
        generalize hcc:(fun s=>cnt s ((lev base j).take (2*b)))=c at *
        have hc':∀ s,cnt s ((mg base (pairs (lev base j))).take t)=(S.take a).count s+c s:=by intro s;rw [hc s,← hcc]
        have hz':∀ s∈S.drop a,c s=0:=by intro s hs;rw [← hcc];exact hz s hs
        have i1':∀ s,c s≤j:=by intro s;rw [← hcc];exact i1 s
        rw [sum_congr S _ (fun s=>term (j+1) ((S.take a).count s+c s)) (fun s _=>by rw [hc' s])]
        have e1:(S.map fun s=>term (j+1) ((S.take a).count s+c s)).sum=((S.take a).map fun s=>2^j+term j (c s)).sum+((S.drop a).map fun _=>0).sum:=by
          conv=>lhs;rw [hsp]
          rw [List.map_append,List.sum_append]
          congr 1
          · exact sum_congr _ _ _ fun s hs=>by
              rw [List.take_append_drop,h1 s hs,term1 _ _ (i1' s)]
          · exact sum_congr _ _ _ fun s hs=>by
              rw [List.take_append_drop,hd0 s hs,hz' s hs];exact term0 _
        have e2:(S.map fun s=>term j (c s)).sum=((S.take a).map fun s=>term j (c s)).sum+((S.drop a).map fun _=>0).sum:=by
          conv=>lhs;rw [hsp]
          rw [List.map_append,List.sum_append]
          congr 1
          exact sum_congr _ _ _ fun s hs=>by rw [hz' s hs];exact term0 _
        rw [e1,show (fun s=>term j (cnt s ((lev base j).take (2*b))))=fun s=>term j (c s) from by rw [← hcc],e2,sum_add,sum_const,List.length_take,Nat.min_eq_left haS]
        omega
      rw [key1,Nat.mul_add,i3,← hab,Nat.pow_succ,Nat.add_mul]
      have:2*(a*2^j)=a*(2^j*2):=by rw [Nat.mul_comm (2^j),← Nat.mul_assoc,← Nat.mul_assoc,Nat.mul_comm 2 a]
      have:2*b*2^j=b*(2^j*2):=by rw [Nat.mul_comm (2^j),← Nat.mul_assoc,Nat.mul_comm 2 b]
      omega
def lenS (F:Int→Int) (S:List Int) (m:Nat) (s:Int):Nat:=cnt s ((lev (S.map fun s=>((F s,[s]):C)) m).take (2*S.length - 2))
theorem sum_pos:∀ (S:List Int) (g:Int→Nat) (s:Int),s∈S→(∀ s,0<g s)→2≤S.length→g s<(S.map g).sum
  | [],_,_,h,_,_=>absurd h (by simp)
  | [_],_,_,_,_,h=>by simp at h
  | x::y::l,g,s,hs,hg,_=>by
    have hle:∀ (l:List Int) s,s∈l→g s≤(l.map g).sum:=by
      intro l
      induction l with
      | nil=>intro s hs;simp at hs
      | cons a l ih => intro s hs; simp only [List.map_cons, List.sum_cons]; rcases List.mem_cons.1 hs with e | e
                       · subst e;omega
                       · have:=ih s e;omega
    simp only [List.map_cons,List.sum_cons]
    have h1:=hg x;have h2:=hg y
    rcases List.mem_cons.1 hs with e | e
    · subst e;omega
    · have:=hle (y::l) s e
      simp only [List.map_cons,List.sum_cons] at this;omega
theorem lens_ok {F:Int→Int} (hF:∀ s,0≤F s) (S:List Int) (hS:S.Nodup) (hs:Srt key (S.map fun s=>((F s,[s]):C))) (m:Nat) (hm:1≤m) (h2:2≤S.length) (hmany:S.length≤2^m) :
    2*S.length - 2≤(lev (S.map fun s=>((F s,[s]):C)) m).length∧(∀ s,lenS F S m s≤m)∧(∀ s∈S,1≤lenS F S m s)∧(∀ s,s∉S→lenS F S m s=0)∧∀ M,m≤M→(S.map fun s=>2^(M - lenS F S m s)).sum=2^M:=by
  have hl:2*S.length - 2≤(lev (S.map fun s=>((F s,[s]):C)) m).length:=by
    have:=lev_many (S.map fun s=>((F s,[s]):C)) m (by simpa using hmany) m (Nat.le_refl m)
    rw [show m+1 - m=1 by omega,List.length_map] at this;omega
  obtain ⟨f1,f2,f3⟩:=fills hF S hS hs m _ hl
  have f1':∀ s,lenS F S m s≤m:=f1
  have f2':∀ s,s∉S→lenS F S m s=0:=f2
  have f3':2*(S.map fun s=>term m (lenS F S m s)).sum=(2*S.length - 2)*2^m:=f3
  have hsum:(S.map fun s=>2^(m - lenS F S m s)).sum=2^m:=by
    have e:=sum_add S (fun s=>term m (lenS F S m s)) (fun s=>2^(m - lenS F S m s))
    rw [sum_congr S _ (fun _=>2^m) (fun s _=>by
      have:2^(m - lenS F S m s)≤2^m:=Nat.pow_le_pow_right (by decide) (by omega)
      show 2^m - _+_=_;omega),sum_const] at e
    have e2:(2*S.length - 2)*2^m=2*(S.length*2^m) - 2*2^m:=by rw [Nat.sub_mul,Nat.mul_assoc]
    have e3:2*2^m≤S.length*2^m:=Nat.mul_le_mul_right _ h2
    omega
  refine ⟨hl,f1',fun s hs=>?_,f2',fun M hM=>?_⟩
  · refine Nat.pos_of_ne_zero fun h0=>?_
    have:=sum_pos S (fun s=>2^(m - lenS F S m s)) s hs (fun s=>Nat.pow_pos (by decide)) h2
    rw [hsum] at this
    simp only [h0,Nat.sub_zero] at this
    exact absurd this (Nat.lt_irrefl _)
  · rw [sum_congr S _ (fun s=>2^(M - m)*2^(m - lenS F S m s)) (fun s _=>by
      rw [← Nat.pow_add];congr 1;have:=f1' s;omega)]
    have hmul:∀ (k:Nat) (g:Int→Nat) (l:List Int),(l.map fun s=>k*g s).sum=k*(l.map g).sum:=by
      intro k g l
      induction l with
      | nil=>rfl
      | cons a l ih=>simp only [List.map_cons,List.sum_cons,ih,Nat.mul_add]
    rw [hmul,hsum,← Nat.pow_add];congr 1;omega
end Go.Proofs.Ytmmeanjjfhimjaa.HB
namespace Go.Proofs.Ytmmeanjjfhimjaa.W
open Go Go.Q Go.Proofs Go.Proofs.Ytmmeanjjfhimjaa.HB
set_option linter.unusedVariables false
set_option linter.unusedSimpArgs false
abbrev Co:=S_huff_coin
abbrev kf:Co→Int:=fun c=>c.ffreq
theorem co_eta (c:Co):(⟨c.ffreq,c.fsyms⟩:Co)=c:=rfl
def cmpI (a b:Int):Int:=if a<b then -1 else if b<a then 1 else 0
theorem g_cmp_eq (k:Nat) (a b:Int) (s t:List Int):g_huff_Lengths_1 k a s b t=some (cmpI a b):=by
  unfold g_huff_Lengths_1 g_cmp_Compare_int g_cmp_isNaN_int cmpI
  by_cases h:a<b
  · simp [h]
  · by_cases h2:b<a <;> simp [h,h2]
theorem cmp_lt (a b:Int):(cmpI a b<0)↔a<b:=by
  unfold cmpI;split
  · simp_all
  · split <;> simp_all
theorem ix_at {α:Type} (P:List α) (x:α) (Q:List α) {i:Int} (h:i=(P.length:Int)):ix (P++x::Q) i=some x:=by
  subst h;rw [ix_nat (by simp)];simp
theorem set_at {α:Type} (P:List α) (x y:α) (Q:List α) {i:Int} (h:i=(P.length:Int)):List.set (P++x::Q) i.toNat y=P++y::Q:=by
  subst h;simp
structure Sorts (A A':List Co):Prop where
  srt:Srt kf A'
  sim:Sim kf A A'
  len:A'.length=A.length
theorem Srt.sub {α:Type} {f:α→Int} {a b:List α} (h:Srt f (a++b)):Srt f a∧Srt f b∧∀ x∈a,∀ y∈b,f x≤f y:=List.pairwise_append.1 h
theorem Srt.mk {α:Type} {f:α→Int} {a b:List α} (h1:Srt f a) (h2:Srt f b) (h:∀ x∈a,∀ y∈b,f x≤f y):Srt f (a++b):=List.pairwise_append.2 ⟨h1,h2,h⟩
theorem ins1 (k:Nat) (P:List Co) (hP:P.length≤100000):∀ (n:Nat) (L:List Co) (x:Co) (R:List Co),Srt kf L→L.length<n→L.length≤100000 →
    ∃ L',g_sc_insertionSortCmpFunc_huff_coin_l1 k (P.length:Int) n ((P.length:Int)+L.length) (P++L++x::R)=some (P++L'++R)∧Sorts (L++[x]) L':=by
  intro n
  induction n with
  | zero=>intro L x R _ h;omega
  | succ n ih =>
    intro L x R hs hn hl
    rw [g_sc_insertionSortCmpFunc_huff_coin_l1.eq_2]
    simp only [bd]
    rcases List.eq_nil_or_concat L with e | ⟨L0,y,e⟩
    · subst e
      refine ⟨[x],?_,?_,Sim.refl _,rfl⟩
      · rw [if_neg (by simp)];simp
      · exact List.pairwise_singleton _ _
    · rw [List.concat_eq_append] at e;subst e
      have hlen:(L0++[y]).length=L0.length+1:=by simp
      rw [hlen] at hn hl ⊢
      have hd:=Srt.sub hs
      rw [if_pos (by omega),ix_at (P++(L0++[y])) x R (by simp only [List.length_append,List.length_singleton];omega)]
      have e2:P++(L0++[y])++x::R=(P++L0)++y::(x::R):=by simp
      have w1:IntKind.wrap .i64 ((P.length:Int)+((L0.length+1:Nat):Int) - 1)=((P++L0).length:Int):=by rw [wi (by omega) (by omega)];simp only [List.length_append];omega
      rw [w1,e2,ix_at (P++L0) y (x::R) rfl]
      simp only [Option.bind_some,g_cmp_eq,cmp_lt,bd]
      by_cases hc:x.ffreq<y.ffreq
      · rw [if_pos hc]
        have e3:(P++L0)++y::(x::R)=(P++L0++[y])++x::R:=by simp
        rw [e3,set_at (P++L0++[y]) x y R (by simp only [List.length_append,List.length_singleton];omega)]
        have e4:(P++L0++[y])++y::R=(P++L0)++y::(y::R):=by simp
        rw [e4,ix_at (P++L0) y (y::R) rfl]
        simp only [Option.bind_some]
        rw [set_at (P++L0) y x (y::R) rfl]
        obtain ⟨L',h1,h2⟩:=ih L0 x (y::R) hd.1 (by omega) (by omega)
        refine ⟨L'++[y],?_,?_,?_,?_⟩
        · rw [show ((P++L0).length:Int)=(P.length:Int)+L0.length by simp,h1];simp
        · refine Srt.mk h2.srt (List.pairwise_singleton _ _) ?_
          intro z hz w hw
          rw [List.mem_singleton] at hw;subst hw
          rcases List.mem_append.1 (h2.sim.symm.mem hz) with q | q
          · exact hd.2.2 z q w (by simp)
          · rw [List.mem_singleton] at q;subst q;exact Int.le_of_lt hc
        · refine Sim.trans (l:=(L0++[y])++[x]) (r:=(L0++[x])++[y]) ?_ (Sim.app h2.sim (Sim.refl _))
          rw [List.append_assoc,List.append_assoc]
          refine Sim.app (Sim.refl _) (Sim.swap ?_)
          intro a ha b hb;rw [List.mem_singleton] at ha hb;subst ha;subst hb
          exact fun e=>absurd e.symm (Int.ne_of_lt hc)
        · simp [h2.len]
      · rw [if_neg hc]
        refine ⟨L0++[y]++[x],by simp,?_,Sim.refl _,rfl⟩
        refine Srt.mk hs (List.pairwise_singleton _ _) ?_
        intro z hz w hw
        rw [List.mem_singleton] at hw;subst hw
        rcases List.mem_append.1 hz with q | q
        · exact Int.le_trans (hd.2.2 z q y (by simp)) (Int.not_lt.1 hc)
        · rw [List.mem_singleton] at q;subst q;exact Int.not_lt.1 hc
theorem ins0 (k:Nat) (P:List Co) (hP:P.length≤100000):∀ (n:Nat) (L L' R Q:List Co),Sorts L L'→R.length<n→L.length+R.length≤100000→L.length+R.length<k →
    ∃ M,g_sc_insertionSortCmpFunc_huff_coin_l0 k (P.length:Int) ((P.length:Int)+L.length+R.length) n ((P.length:Int)+L.length) (P++L'++R++Q)=some (P++M++Q)∧Sorts (L++R) M:=by
  intro n
  induction n with
  | zero=>intro L L' R Q _ h;omega
  | succ n ih =>
    intro L L' R Q hs hn hl hk
    rw [g_sc_insertionSortCmpFunc_huff_coin_l0.eq_2]
    simp only [bd]
    cases R with
    | nil =>
      rw [if_neg (by simp)]
      exact ⟨L',by simp,by simpa using hs⟩
    | cons x R =>
      simp only [List.length_cons] at hn hl hk ⊢
      rw [if_pos (by omega)]
      obtain ⟨M,h1,h2⟩:=ins1 k P hP k L' x (R++Q) hs.srt (by rw [hs.len];omega) (by rw [hs.len];omega)
      rw [hs.len] at h1
      rw [show P++L'++x::R++Q=P++L'++x::(R++Q) by simp,h1]
      simp only [Option.bind_some]
      have h3:Sorts (L++[x]) M:=⟨h2.srt,Sim.trans (Sim.app hs.sim (Sim.refl _)) h2.sim,by rw [h2.len];simp [hs.len]⟩
      obtain ⟨M',h4,h5⟩:=ih (L++[x]) M R Q h3 (by omega) (by simp;omega) (by simp;omega)
      refine ⟨M',?_,by simpa using h5⟩
      rw [wi (by omega) (by omega)]
      rw [← h4]
      congr 1
      · simp;omega
      · simp;omega
      · simp
theorem insertion (k:Nat) (P R Q:List Co) (hP:P.length≤100000) (hl:R.length≤100000) (hk:R.length<k) {b:Int} (hb:b=(P.length:Int)+R.length) :
    ∃ M,g_sc_insertionSortCmpFunc_huff_coin k (P.length:Int) b (P++R++Q)=some (P++M++Q)∧Sorts R M:=by
  unfold g_sc_insertionSortCmpFunc_huff_coin
  subst hb
  cases R with
  | nil =>
    refine ⟨[],?_,List.Pairwise.nil,Sim.refl _,rfl⟩
    obtain ⟨k,rfl⟩:∃ j,k=j+1:=⟨k - 1,by simp at hk;omega⟩
    rw [g_sc_insertionSortCmpFunc_huff_coin_l0.eq_2,wi (by omega) (by omega)]
    simp only [bd]
    rw [if_neg (by simp only [List.length_nil];omega)];rfl
  | cons x R =>
    simp only [List.length_cons] at hl hk
    obtain ⟨M,h1,h2⟩:=ins0 k P hP k [x] [x] R Q ⟨List.pairwise_singleton _ _,Sim.refl _,rfl⟩ (by omega) (by simp;omega) (by simp;omega)
    refine ⟨M,?_,h2⟩
    rw [wi (by omega) (by omega)]
    have:(P.length:Int)+((x::R).length:Int)=(P.length:Int)+([x]:List Co).length+R.length:=by simp;omega
    rw [this,show P++x::R++Q=P++[x]++R++Q by simp,show (P.length:Int)+1=(P.length:Int)+([x]:List Co).length by simp,h1]
    rfl
theorem swap0 (k:Nat) (X M Y:List Co) (a b m:Int) (ha:a=X.length):∀ (n:Nat) (A1 B1 A2 B2:List Co),A1.length=B1.length→A2.length=B2.length→b=(X.length:Int)+A1.length+A2.length+M.length→m=(A1.length:Int)+A2.length →
    A2.length<n→X.length+A1.length+A2.length+M.length+B1.length+B2.length≤1000000 →
    g_sc_swapRangeCmpFunc_huff_coin_l0 k a b m n (A1.length:Int) (X++B1++A2++M++A1++B2++Y)=some (X++B1++B2++M++A1++A2++Y):=by
  subst ha
  intro n
  induction n with
  | zero=>intro A1 B1 A2 B2 _ _ _ _ h;omega
  | succ n ih =>
    intro A1 B1 A2 B2 h1 h2 hb hm hn hl
    rw [g_sc_swapRangeCmpFunc_huff_coin_l0.eq_2]
    simp only [bd]
    cases A2 with
    | nil =>
      cases B2 with
      | nil=>rw [if_neg (by simp at hm;omega)]
      | cons v B2=>simp at h2
    | cons u A2 =>
      cases B2 with
      | nil=>simp at h2
      | cons v B2 =>
        simp only [List.length_cons] at h2 hb hm hn hl
        rw [if_pos (by omega)]
        have w1:IntKind.wrap .i64 (b+(A1.length:Int))=((X++B1++u::A2++M++A1).length:Int):=by rw [wi (by omega) (by omega)];simp only [List.length_append,List.length_cons];omega
        have w2:IntKind.wrap .i64 ((X.length:Int)+(A1.length:Int))=((X++B1).length:Int):=by rw [wi (by omega) (by omega)];simp only [List.length_append];omega
        rw [w1,w2]
        have e1:X++B1++u::A2++M++A1++v::B2++Y=(X++B1++u::A2++M++A1)++v::(B2++Y):=by simp
        have e2:X++B1++u::A2++M++A1++v::B2++Y=(X++B1)++u::(A2++M++A1++v::B2++Y):=by simp
        rw [e1,ix_at _ v _ rfl,← e1]
        simp only [Option.bind_some]
        rw [e2,ix_at (X++B1) u _ rfl]
        simp only [Option.bind_some,co_eta]
        rw [set_at (X++B1) u v _ rfl]
        have e3:(X++B1)++v::(A2++M++A1++v::B2++Y)=(X++B1++v::A2++M++A1)++v::(B2++Y):=by simp
        have l3:((X++B1++u::A2++M++A1).length:Int)=((X++B1++v::A2++M++A1).length:Int):=by simp
        rw [l3,e3,ix_at _ v _ rfl]
        simp only [Option.bind_some]
        rw [set_at _ v u _ rfl,wi (by omega) (by omega)]
        have:=ih (A1++[u]) (B1++[v]) A2 B2 (by simp [h1]) (by omega) (by simp;omega) (by simp;omega) (by omega) (by simp;omega)
        rw [show ((A1++[u]).length:Int)=(A1.length:Int)+1 by simp] at this
        rw [show (X++B1++v::A2++M++A1)++u::(B2++Y)=X++(B1++[v])++A2++M++(A1++[u])++B2++Y by simp,this]
        simp
theorem swapR (k:Nat) (X A M B Y:List Co) {a b n:Int} (ha:a=X.length) (hb:b=(X.length:Int)+A.length+M.length) (hn:n=A.length) (hAB:A.length=B.length) (hl:X.length+A.length+M.length+B.length≤1000000) (hk:A.length<k) :
    g_sc_swapRangeCmpFunc_huff_coin k a b n (X++A++M++B++Y)=some (X++B++M++A++Y):=by
  unfold g_sc_swapRangeCmpFunc_huff_coin
  have:=swap0 k X M Y a b n ha k [] [] A B rfl hAB (by simp;omega) (by simp;omega) hk (by simp;omega)
  simp only [List.append_nil,List.length_nil] at this
  rw [show ((0:Nat):Int)=0 from rfl] at this
  rw [this];rfl
theorem rot0 (k:Nat) (m:Int):∀ (n:Nat) (X A B Y:List Co),m=(X.length:Int)+A.length→0<A.length→0<B.length→A.length+B.length≤n→X.length+A.length+B.length≤1000000→A.length+B.length<k →
    ∃ X' A' B' Y',g_sc_rotateCmpFunc_huff_coin_l0 k m n (A.length:Int) (B.length:Int) (X++A++B++Y)=some ((A'.length:Int),X'++A'++B'++Y')∧A'.length=B'.length∧m=(X'.length:Int)+A'.length∧X'++B'++A'++Y'=X++B++A++Y∧X'.length+A'.length+B'.length≤1000000∧A'.length<k:=by
  intro n
  induction n with
  | zero=>intro X A B Y _ h1 h2 h;omega
  | succ n ih =>
    intro X A B Y hm hA hB hn hl hk
    rw [g_sc_rotateCmpFunc_huff_coin_l0.eq_2]
    simp only [bnd',bd]
    by_cases h:A.length=B.length
    · rw [if_pos (by omega)]
      exact ⟨X,A,B,Y,rfl,h,hm,rfl,hl,by omega⟩
    · rw [if_neg (by omega)]
      by_cases hc:B.length<A.length
      · rw [if_pos (by omega)]
        -- the left one is longer: its beginning changes places with the right one
        have hsp:A=A.take B.length++A.drop B.length:=(List.take_append_drop _ _).symm
        generalize hA1:A.take B.length=A1 at hsp
        generalize hA2:A.drop B.length=A2 at hsp
        have l1:A1.length=B.length:=by rw [← hA1];simp;omega
        have l2:A2.length=A.length - B.length:=by rw [← hA2];simp
        rw [wi (n:=m - A.length) (by omega) (by omega),wi (n:=(A.length:Int) - B.length) (by omega) (by omega)]
        have:=swapR k X A1 A2 B Y (a:=m - A.length) (b:=m) (n:=(B.length:Int)) (by omega) (by omega) (by omega) l1 (by omega) (by omega)
        rw [show X++A++B++Y=X++A1++A2++B++Y by rw [hsp];simp,this]
        simp only [Option.bind_some]
        obtain ⟨X',A',B',Y',r1,r2,r3,r4,r5,r6⟩:=ih (X++B) A2 A1 Y (by simp;omega) (by omega) (by omega) (by omega) (by simp;omega) (by omega)
        refine ⟨X',A',B',Y',?_,r2,r3,?_,r5,r6⟩
        · rw [show (A.length:Int) - B.length=(A2.length:Int) by omega,← l1,← r1]
        · rw [r4,hsp];simp
      · rw [if_neg (by omega)]
        have hsp:B=B.take (B.length - A.length)++B.drop (B.length - A.length):=(List.take_append_drop _ _).symm
        generalize hB1:B.take (B.length - A.length)=B1 at hsp
        generalize hB2:B.drop (B.length - A.length)=B2 at hsp
        have l1:B1.length=B.length - A.length:=by rw [← hB1];simp
        have l2:B2.length=A.length:=by rw [← hB2];simp;omega
        rw [wi (n:=m+B.length) (by omega) (by omega),wi (n:=m - A.length) (by omega) (by omega),wi (n:=(B.length:Int) - A.length) (by omega) (by omega),wi (by omega) (by omega)]
        simp only [Option.bind_some]
        have:=swapR k X A B1 B2 Y (a:=m - A.length) (b:=m+B.length - A.length) (n:=(A.length:Int)) (by omega) (by omega) rfl l2.symm (by omega) (by omega)
        rw [show X++A++B++Y=X++A++B1++B2++Y by rw [hsp];simp,this]
        simp only [Option.bind_some]
        obtain ⟨X',A',B',Y',r1,r2,r3,r4,r5,r6⟩:=ih X B2 B1 (A++Y) (by omega) (by omega) (by omega) (by omega) (by omega) (by omega)
        refine ⟨X',A',B',Y',?_,r2,r3,?_,r5,r6⟩
        · rw [show (B.length:Int) - A.length=(B1.length:Int) by omega,← l2,← r1];simp
        · rw [r4,hsp];simp
theorem rotate (k:Nat) (X A B Y:List Co) {a m b:Int} (ha:a=X.length) (hm:m=(X.length:Int)+A.length) (hb:b=(X.length:Int)+A.length+B.length) (hA:0<A.length) (hB:0<B.length) (hl:X.length+A.length+B.length≤1000000) (hk:A.length+B.length<k) :
    g_sc_rotateCmpFunc_huff_coin k a m b (X++A++B++Y)=some (X++B++A++Y):=by
  unfold g_sc_rotateCmpFunc_huff_coin
  obtain ⟨X',A',B',Y',r1,r2,r3,r4,r5,r6⟩:=rot0 k m k X A B Y hm hA hB (by omega) hl hk
  rw [wi (n:=m - a) (by omega) (by omega),wi (n:=b - m) (by omega) (by omega),show m - a=(A.length:Int) by omega,show b - m=(B.length:Int) by omega,r1]
  simp only [Option.bind_some]
  rw [wi (n:=m - A'.length) (by omega) (by omega)]
  have:=swapR k X' A' [] B' Y' (a:=m - A'.length) (b:=m) (n:=(A'.length:Int)) (by omega) (by simp;omega) rfl r2 (by simp;omega) r6
  simp only [List.append_nil] at this
  rw [this,← r4];rfl
abbrev ky (x:List Co) (c:Nat):Int:=(x.getD c default).ffreq
theorem ixk {x:List Co} {c:Nat} (h:c<x.length):ix x (c:Int)=some (x.getD c default):=by
  rw [ix_nat h];simp [List.getD_eq_getElem?_getD,List.getElem?_eq_getElem h]
theorem wUh (n:Int):IntKind.wrap .u64 n=n%18446744073709551616:=by
  simp [IntKind.wrap,IntKind.bits,IntKind.signed]
theorem half (i j:Nat) (hi:i≤1000000) (hj:j≤1000000):IntKind.wrap .i64 (shrI .u64 (IntKind.wrap .u64 (IntKind.wrap .i64 ((i:Int)+j))) 1)=(((i+j) / 2:Nat):Int):=by
  have h1:IntKind.wrap .i64 ((i:Int)+j)=(i:Int)+j:=wi (by omega) (by omega)
  have h2:IntKind.wrap .u64 ((i:Int)+j)=(i:Int)+j:=by rw [wUh];omega
  have h3:shrI .u64 ((i:Int)+j) 1=(((i+j) / 2:Nat):Int):=by
    show ((i:Int)+j).fdiv 2=_
    rw [Int.fdiv_eq_ediv_of_nonneg _ (by decide)];omega
  rw [h1,h2,h3,wi (by omega) (by omega)]
theorem halfw (i j:Nat) (hi:i≤1000000) (hj:j≤1000000):shrI .u64 (IntKind.wrap .u64 (IntKind.wrap .i64 ((i:Int)+j))) 1=(((i+j) / 2:Nat):Int):=by
  have h1:IntKind.wrap .i64 ((i:Int)+j)=(i:Int)+j:=wi (by omega) (by omega)
  have h2:IntKind.wrap .u64 ((i:Int)+j)=(i:Int)+j:=by rw [wUh];omega
  have h3:shrI .u64 ((i:Int)+j) 1=(((i+j) / 2:Nat):Int):=by
    show ((i:Int)+j).fdiv 2=_
    rw [Int.fdiv_eq_ediv_of_nonneg _ (by decide)];omega
  rw [h1,h2,h3]
theorem bis0 (k:Nat) (x:List Co) (a m b:Nat) (ha:a<x.length) (hb:b≤x.length) (hl:x.length≤1000000) (hs:∀ c d,m≤c→c≤d→d<b→ky x c≤ky x d) :
    ∀ (n i j:Nat),m≤i→i≤j→j≤b→j - i<n→(∀ c,m≤c→c<i→ky x c<ky x a)→(∀ c,j≤c→c<b→¬ ky x c<ky x a) →
    ∃ r:Nat,g_sc_symMergeCmpFunc_huff_coin_l0 k a x n i j=some (r:Int)∧m≤r∧r≤b∧(∀ c,m≤c→c<r→ky x c<ky x a)∧(∀ c,r≤c→c<b→¬ ky x c<ky x a):=by
  intro n
  induction n with
  | zero=>intro i j _ _ _ h;omega
  | succ n ih =>
    intro i j hi hij hj hn h1 h2
    rw [g_sc_symMergeCmpFunc_huff_coin_l0.eq_2]
    simp only [bd,Option.bind_some]
    by_cases h:i<j
    · rw [if_pos (by omega),halfw i j (by omega) (by omega),wi (n:=(((i+j) / 2:Nat):Int)) (by omega) (by omega),ixk (c:=(i+j) / 2) (by omega),ixk ha]
      simp only [Option.bind_some,g_cmp_eq,cmp_lt]
      by_cases hc:ky x ((i+j) / 2)<ky x a
      · rw [if_pos hc,wi (by omega) (by omega)]
        obtain ⟨r,e,q⟩:=ih ((i+j) / 2+1) j (by omega) (by omega) hj (by omega) (fun c hc1 hc2=>Int.lt_of_le_of_lt (hs c ((i+j) / 2) hc1 (by omega) (by omega)) hc) h2
        exact ⟨r,by rw [← e];congr 1,q⟩
      · rw [if_neg hc]
        exact ih i ((i+j) / 2) hi (by omega) (by omega) (by omega) h1 (fun c hc1 hc2 hlt=>hc (Int.lt_of_le_of_lt (hs ((i+j) / 2) c (by omega) hc1 hc2) hlt))
    · rw [if_neg (by omega)]
      obtain rfl:i=j:=by omega
      exact ⟨i,rfl,hi,hj,h1,h2⟩
theorem bis2 (k:Nat) (x:List Co) (a m b:Nat) (ha:a<x.length) (hb:b≤x.length) (hl:x.length≤1000000) (hs:∀ c d,m≤c→c≤d→d<b→ky x c≤ky x d) :
    ∀ (n i j:Nat),m≤i→i≤j→j≤b→j - i<n→(∀ c,m≤c→c<i→¬ ky x a<ky x c)→(∀ c,j≤c→c<b→ky x a<ky x c) →
    ∃ r:Nat,g_sc_symMergeCmpFunc_huff_coin_l2 k a x n i j=some (r:Int)∧m≤r∧r≤b∧(∀ c,m≤c→c<r→¬ ky x a<ky x c)∧(∀ c,r≤c→c<b→ky x a<ky x c):=by
  intro n
  induction n with
  | zero=>intro i j _ _ _ h;omega
  | succ n ih =>
    intro i j hi hij hj hn h1 h2
    rw [g_sc_symMergeCmpFunc_huff_coin_l2.eq_2]
    simp only [bd,Option.bind_some]
    by_cases h:i<j
    · rw [if_pos (by omega),halfw i j (by omega) (by omega),wi (n:=(((i+j) / 2:Nat):Int)) (by omega) (by omega),ixk (c:=(i+j) / 2) (by omega),ixk ha]
      simp only [Option.bind_some,g_cmp_eq,cmp_lt,bnd']
      by_cases hc:ky x a<ky x ((i+j) / 2)
      · rw [if_pos hc]
        exact ih i ((i+j) / 2) hi (by omega) (by omega) (by omega) h1 (fun c hc1 hc2=>Int.lt_of_lt_of_le hc (hs ((i+j) / 2) c (by omega) hc1 hc2))
      · rw [if_neg hc,wi (by omega) (by omega)]
        obtain ⟨r,e,q⟩:=ih ((i+j) / 2+1) j (by omega) (by omega) hj (by omega) (fun c hc1 hc2 hlt=>hc (Int.lt_of_lt_of_le hlt (hs c ((i+j) / 2) hc1 (by omega) (by omega)))) h2
        exact ⟨r,by rw [← e];congr 1,q⟩
    · rw [if_neg (by omega)]
      obtain rfl:i=j:=by omega
      exact ⟨i,rfl,hi,hj,h1,h2⟩
theorem bis4 (k:Nat) (x:List Co) (p1 s0 r0:Nat) (hp:p1≤2000000) (hl:x.length≤1000000) (hr:r0≤x.length) (hb:∀ c,s0≤c→c<r0→c<x.length∧c+1≤p1∧p1 - 1 - c<x.length)
    (hs:∀ c d,s0≤c→c≤d→d<r0→ky x c≤ky x d∧ky x (p1 - 1 - d)≤ky x (p1 - 1 - c)) :
    ∀ (n i j:Nat),s0≤i→i≤j→j≤r0→j - i<n→(∀ c,s0≤c→c<i→¬ ky x (p1 - 1 - c)<ky x c)→(∀ c,j≤c→c<r0→ky x (p1 - 1 - c)<ky x c) →
    ∃ r:Nat,g_sc_symMergeCmpFunc_huff_coin_l4 k x (p1:Int) n i j=some (r:Int)∧s0≤r∧r≤r0∧(∀ c,s0≤c→c<r→¬ ky x (p1 - 1 - c)<ky x c)∧(∀ c,r≤c→c<r0→ky x (p1 - 1 - c)<ky x c):=by
  intro n
  induction n with
  | zero=>intro i j _ _ _ h;omega
  | succ n ih =>
    intro i j hi hij hj hn h1 h2
    rw [g_sc_symMergeCmpFunc_huff_coin_l4.eq_2]
    simp only [bd,Option.bind_some]
    by_cases h:i<j
    · have hm:=hb ((i+j) / 2) (by omega) (by omega)
      rw [if_pos (by omega),halfw i j (by omega) (by omega),wi (n:=(((i+j) / 2:Nat):Int)) (by omega) (by omega),wi (n:=(p1:Int) - 1) (by omega) (by omega),wi (n:=(p1:Int) - 1 - (((i+j) / 2:Nat):Int)) (by omega) (by omega),
        show (p1:Int) - 1 - (((i+j) / 2:Nat):Int)=((p1 - 1 - (i+j) / 2:Nat):Int) by omega,ixk (c:=(i+j) / 2) hm.1,ixk hm.2.2]
      simp only [Option.bind_some,g_cmp_eq,cmp_lt,bnd']
      by_cases hc:ky x (p1 - 1 - (i+j) / 2)<ky x ((i+j) / 2)
      · rw [if_pos hc]
        refine ih i ((i+j) / 2) hi (by omega) (by omega) (by omega) h1 (fun c hc1 hc2=>?_)
        have:=hs ((i+j) / 2) c (by omega) hc1 hc2
        omega
      · rw [if_neg hc,wi (by omega) (by omega)]
        obtain ⟨r,e,q⟩:=ih ((i+j) / 2+1) j (by omega) (by omega) hj (by omega) (fun c hc1 hc2 hlt=>by
          have:=hs c ((i+j) / 2) hc1 (by omega) (by omega)
          omega) h2
        exact ⟨r,by rw [← e];congr 1,q⟩
    · rw [if_neg (by omega)]
      obtain rfl:i=j:=by omega
      exact ⟨i,rfl,hi,hj,h1,h2⟩
theorem wander1 (k:Nat):∀ (n:Nat) (X L Y:List Co) (u:Co) (i:Int),i=(X.length:Int)+L.length+1→L.length<n→X.length+L.length≤1000000 →
    g_sc_symMergeCmpFunc_huff_coin_l1 k i n (X.length:Int) (X++u::L++Y)=some (X++L++u::Y):=by
  intro n
  induction n with
  | zero=>intro X L Y u i _ h;omega
  | succ n ih =>
    intro X L Y u i hi hn hl
    rw [g_sc_symMergeCmpFunc_huff_coin_l1.eq_2]
    simp only [bd,Option.bind_some]
    cases L with
    | nil=>rw [wi (by omega) (by omega),if_neg (by simp at hi;omega)];simp
    | cons v L =>
      simp only [List.length_cons] at hi hn hl
      rw [wi (n:=i - 1) (by omega) (by omega),if_pos (by omega)]
      have w:IntKind.wrap .i64 ((X.length:Int)+1)=((X++[u]).length:Int):=by rw [wi (by omega) (by omega)];simp
      rw [w]
      have e1:X++u::v::L++Y=(X++[u])++v::(L++Y):=by simp
      have e2:X++u::v::L++Y=X++u::(v::L++Y):=by simp
      rw [e1,ix_at (X++[u]) v _ rfl,← e1,e2,ix_at X u _ rfl]
      simp only [Option.bind_some,co_eta]
      rw [set_at X u v _ rfl]
      have e3:X++v::(v::L++Y)=(X++[v])++v::(L++Y):=by simp
      have l3:((X++[u]).length:Int)=((X++[v]).length:Int):=by simp
      rw [l3,e3,ix_at (X++[v]) v _ rfl]
      simp only [Option.bind_some]
      rw [set_at (X++[v]) v u _ rfl]
      have:=ih (X++[v]) L Y u i (by simp;omega) (by omega) (by simp;omega)
      rw [show (X++[v])++u::(L++Y)=(X++[v])++u::L++Y by simp,this];simp
theorem wander3 (k:Nat):∀ (n:Nat) (L X Y:List Co) (u:Co) (i:Int),i=(X.length:Int)→L.length<n→X.length+L.length≤1000000 →
    g_sc_symMergeCmpFunc_huff_coin_l3 k i n ((X.length:Int)+L.length) (X++L++u::Y)=some (X++u::L++Y):=by
  intro n
  induction n with
  | zero=>intro L X Y u i _ h;omega
  | succ n ih =>
    intro L X Y u i hi hn hl
    rw [g_sc_symMergeCmpFunc_huff_coin_l3.eq_2]
    simp only [bd]
    rcases List.eq_nil_or_concat L with e | ⟨L,v,e⟩
    · subst e
      rw [if_neg (by simp;omega)];simp
    · rw [List.concat_eq_append] at e;subst e
      have hlen:(L++[v]).length=L.length+1:=by simp
      rw [hlen] at hn hl ⊢
      rw [if_pos (by omega)]
      have w:IntKind.wrap .i64 ((X.length:Int)+((L.length+1:Nat):Int) - 1)=((X++L).length:Int):=by rw [wi (by omega) (by omega)];simp only [List.length_append];omega
      rw [w]
      have e1:X++(L++[v])++u::Y=(X++L)++v::(u::Y):=by simp
      have e2:X++(L++[v])++u::Y=(X++L++[v])++u::Y:=by simp
      rw [e1,ix_at (X++L) v _ rfl,← e1,e2,ix_at (X++L++[v]) u _ (by simp only [List.length_append,List.length_singleton];omega)]
      simp only [Option.bind_some,co_eta]
      rw [set_at (X++L++[v]) u v _ (by simp only [List.length_append,List.length_singleton];omega)]
      have e3:(X++L++[v])++v::Y=(X++L)++v::(v::Y):=by simp
      rw [e3,ix_at (X++L) v _ rfl]
      simp only [Option.bind_some]
      rw [set_at (X++L) v u _ rfl]
      have:=ih L X (v::Y) u i hi (by omega) (by omega)
      rw [show ((X++L).length:Int)=(X.length:Int)+L.length by simp,this];simp
theorem ky_app {P Q:List Co} {c:Nat}:ky (P++Q) (P.length+c)=ky Q c:=by
  have:(P++Q)[P.length+c]? = Q[c]? := by rw [List.getElem?_append_right (by omega)];simp
  simp only [ky,List.getD_eq_getElem?_getD,this]
theorem ky_l {P Q:List Co} {c:Nat} (h:c<P.length):ky (P++Q) c=ky P c:=by simp [ky,List.getD_eq_getElem?_getD,List.getElem?_append_left h]
theorem mem_ky {P:List Co} {x:Co} (h:x∈P):∃ c,c<P.length∧ky P c=x.ffreq:=by
  obtain ⟨c,hc,e⟩:=List.mem_iff_getElem.1 h
  exact ⟨c,hc,by simp [ky,List.getD_eq_getElem?_getD,List.getElem?_eq_getElem hc,e]⟩
theorem srt_ky {P:List Co} (h:Srt kf P):∀ c d,c≤d→d<P.length→ky P c≤ky P d:=by
  intro c d hcd hd
  rcases Nat.lt_or_eq_of_le hcd with q | q
  · have:=List.pairwise_iff_getElem.1 h c d (by omega) hd q
    simpa [ky,List.getD_eq_getElem?_getD,List.getElem?_eq_getElem hd,List.getElem?_eq_getElem (show c<P.length by omega)] using this
  · subst q;exact Int.le_refl _
theorem ky_mid {U V W:List Co} {c d:Nat} (h:c<V.length) (e:d=U.length+c):ky (U++V++W) d=ky V c:=by
  subst e;rw [List.append_assoc,ky_app,ky_l h]
theorem sim_mv {A1 A2 B1 B2:List Co} (h:∀ x∈A2,∀ y∈B1,y.ffreq<x.ffreq):Sim kf ((A1++A2)++(B1++B2)) ((A1++B1)++(A2++B2)):=by
  rw [show (A1++A2)++(B1++B2)=A1++((A2++B1)++B2) by simp,show (A1++B1)++(A2++B2)=A1++((B1++A2)++B2) by simp]
  exact Sim.app (Sim.refl _) (Sim.app (Sim.swap fun x hx y hy e=>absurd e.symm (Int.ne_of_lt (h x hx y hy))) (Sim.refl _))
theorem sorts_nil1 {A B:List Co} (hA:A=[]) (hB:Srt kf B):Sorts (A++B) (A++B):=by subst hA;exact ⟨hB,Sim.refl _,rfl⟩
theorem sorts_nil2 {A B:List Co} (hB:B=[]) (hA:Srt kf A):Sorts (A++B) (A++B):=by subst hB;exact ⟨by simpa using hA,Sim.refl _,rfl⟩
theorem symm:∀ (k:Nat) (P A B Q:List Co) (a m b:Nat),a=P.length→m=a+A.length→b=m+B.length→0<A.length→0<B.length→Srt kf A→Srt kf B→2*(A.length+B.length)+2≤k→b+Q.length≤1000000 →
    ∃ M,g_sc_symMergeCmpFunc_huff_coin k (a:Int) (m:Int) (b:Int) (P++A++B++Q)=some (P++M++Q)∧Sorts (A++B) M:=by
  intro k
  induction k with
  | zero=>intro P A B Q a m b _ _ _ _ _ _ _ h;omega
  | succ k ih =>
    intro P A B Q a m b ha hm hb hA hB sA sB hk hl
    have hX:(P++A++B++Q).length=b+Q.length:=by simp;omega
    have kA:∀ c d,a≤c→c≤d→d<m→ky (P++A++B++Q) c≤ky (P++A++B++Q) d:=by
      intro c d h1 h2 h3
      rw [show P++A++B++Q=P++A++(B++Q) by simp,ky_mid (U:=P) (V:=A) (c:=c - a) (by omega) (by omega),ky_mid (U:=P) (V:=A) (c:=d - a) (by omega) (by omega)]
      exact srt_ky sA _ _ (by omega) (by omega)
    have kB:∀ c d,m≤c→c≤d→d<b→ky (P++A++B++Q) c≤ky (P++A++B++Q) d:=by
      intro c d h1 h2 h3
      rw [ky_mid (U:=P++A) (V:=B) (c:=c - m) (by omega) (by simp;omega),ky_mid (U:=P++A) (V:=B) (c:=d - m) (by omega) (by simp;omega)]
      exact srt_ky sB _ _ (by omega) (by omega)
    rw [g_sc_symMergeCmpFunc_huff_coin]
    unfold h_sc_symMergeCmpFunc_huff_coin
    simp only [Option.bind_some,bd]
    rw [wi (n:=(m:Int) - a) (by omega) (by omega),wi (n:=(b:Int) - m) (by omega) (by omega)]
    by_cases h1:A.length=1
    · rw [if_pos (by omega)]
      obtain ⟨u,rfl⟩:=List.length_eq_one_iff.1 h1
      obtain ⟨r,e,r1,r2,r3,r4⟩:=bis0 k (P++[u]++B++Q) a m b (by omega) (by omega) (by omega) kB k m b (Nat.le_refl _) (by omega) (Nat.le_refl _) (by simp at hk;omega) (fun c h1 h2=>by omega) (fun c h1 h2=>by omega)
      rw [e]
      simp only [Option.bind_some]
      have hsp:B=B.take (r - m)++B.drop (r - m):=(List.take_append_drop _ _).symm
      generalize hB1:B.take (r - m)=B1 at hsp
      generalize hB2:B.drop (r - m)=B2 at hsp
      have l1:B1.length=r - m:=by rw [← hB1];simp;omega
      have hu:ky (P++[u]++B++Q) a=u.ffreq:=by
        rw [show P++[u]++B++Q=P++[u]++(B++Q) by simp,ky_mid (U:=P) (V:=[u]) (c:=0) (by simp) (by omega)];rfl
      have w:=wander1 k k P B1 (B2++Q) u (r:Int) (by simp at hm;omega) (by simp at hk;omega) (by omega)
      refine ⟨B1++u::B2,?_,?_⟩
      · rw [show P++[u]++B++Q=P++u::B1++(B2++Q) by rw [hsp];simp,ha,w];simp
      · have q1:∀ x∈B1,x.ffreq<u.ffreq:=by
          intro x hx
          obtain ⟨c,hc,e⟩:=mem_ky hx
          have:=r3 (m+c) (by omega) (by omega)
          rw [hu,show P++[u]++B++Q=(P++[u])++B1++(B2++Q) by rw [hsp];simp,ky_mid (U:=P++[u]) (V:=B1) (c:=c) hc (by simp at hm ⊢;omega),e] at this
          exact this
        have q2:∀ x∈B2,u.ffreq≤x.ffreq:=by
          intro x hx
          obtain ⟨c,hc,e⟩:=mem_ky hx
          have l2:B2.length=B.length - (r - m):=by rw [← hB2];simp
          have:=r4 (r+c) (by omega) (by omega)
          rw [hu,show P++[u]++B++Q=(P++[u]++B1)++B2++Q by rw [hsp];simp,ky_mid (U:=P++[u]++B1) (V:=B2) (c:=c) hc (by simp at hm ⊢;omega),e] at this
          exact Int.not_lt.1 this
        rw [hsp] at sB
        have sB':=Srt.sub sB
        refine ⟨Srt.mk sB'.1 (List.pairwise_cons.2 ⟨q2,sB'.2.1⟩) ?_,?_,by rw [hsp];simp;omega⟩
        · intro x hx y hy
          rcases List.mem_cons.1 hy with q | q
          · rw [q];exact Int.le_of_lt (q1 x hx)
          · exact sB'.2.2 x hx y q
        · have:=sim_mv (A1:=[]) (A2:=[u]) (B1:=B1) (B2:=B2) (fun x hx y hy=>by rw [List.mem_singleton] at hx;rw [hx];exact q1 y hy)
          rw [hsp];simpa using this
    · rw [if_neg (by omega)]
      by_cases h2:B.length=1
      · rw [if_pos (by omega)]
        obtain ⟨u,rfl⟩:=List.length_eq_one_iff.1 h2
        obtain ⟨r,e,r1,r2,r3,r4⟩:=bis2 k (P++A++[u]++Q) m a m (by omega) (by omega) (by omega) kA k a m (Nat.le_refl _) (by omega) (Nat.le_refl _) (by simp at hk;omega) (fun c h1 h2=>by omega) (fun c h1 h2=>by omega)
        rw [e]
        simp only [Option.bind_some]
        have hsp:A=A.take (r - a)++A.drop (r - a):=(List.take_append_drop _ _).symm
        generalize hA1:A.take (r - a)=A1 at hsp
        generalize hA2:A.drop (r - a)=A2 at hsp
        have l1:A1.length=r - a:=by rw [← hA1];simp;omega
        have l2:A2.length=A.length - (r - a):=by rw [← hA2];simp
        have hu:ky (P++A++[u]++Q) m=u.ffreq:=by
          rw [ky_mid (U:=P++A) (V:=[u]) (c:=0) (by simp) (by simp;omega)];rfl
        have w:=wander3 k k A2 (P++A1) Q u (r:Int) (by simp;omega) (by simp at hk;omega) (by simp;omega)
        refine ⟨A1++u::A2,?_,?_⟩
        · rw [show P++A++[u]++Q=(P++A1)++A2++u::Q by rw [hsp];simp,show (m:Int)=((P++A1).length:Int)+A2.length by simp;omega,w];simp
        · have q1:∀ x∈A1,x.ffreq≤u.ffreq:=by
            intro x hx
            obtain ⟨c,hc,e⟩:=mem_ky hx
            have:=r3 (a+c) (by omega) (by omega)
            rw [hu,show P++A++[u]++Q=P++A1++(A2++[u]++Q) by rw [hsp];simp,ky_mid (U:=P) (V:=A1) (c:=c) hc (by omega),e] at this
            exact Int.not_lt.1 this
          have q2:∀ x∈A2,u.ffreq<x.ffreq:=by
            intro x hx
            obtain ⟨c,hc,e⟩:=mem_ky hx
            have:=r4 (r+c) (by omega) (by omega)
            rw [hu,show P++A++[u]++Q=(P++A1)++A2++([u]++Q) by rw [hsp];simp,ky_mid (U:=P++A1) (V:=A2) (c:=c) hc (by simp;omega),e] at this
            exact this
          rw [hsp] at sA
          have sA':=Srt.sub sA
          refine ⟨Srt.mk sA'.1 (List.pairwise_cons.2 ⟨fun x hx=>Int.le_of_lt (q2 x hx),sA'.2.1⟩) ?_,?_,by rw [hsp];simp⟩
          · intro x hx y hy
            rcases List.mem_cons.1 hy with q | q
            · rw [q];exact q1 x hx
            · exact sA'.2.2 x hx y q
          · have:=sim_mv (A1:=A1) (A2:=A2) (B1:=[u]) (B2:=[]) (fun x hx y hy=>by rw [List.mem_singleton] at hy;rw [hy];exact q2 x hx)
            rw [hsp];simpa using this
      · rw [if_neg (by omega),half a b (by omega) (by omega)]
        obtain ⟨mid,hmid⟩:∃ mid,mid=(a+b) / 2:=⟨_,rfl⟩
        rw [← hmid,wi (n:=(mid:Int)+m) (by omega) (by omega)]
        have hsr:∃ s0 r0:Nat,(if (mid:Int)<m then some (IntKind.wrap .i64 ((mid:Int)+m - b),(mid:Int)) else some ((a:Int),(m:Int)))=some ((s0:Int),(r0:Int))∧a≤s0∧s0≤r0∧r0≤m∧r0≤mid∧mid≤s0+B.length∧(s0=a∨mid+m=s0+b)∧(r0=m∨r0=mid):=by
          by_cases h3:mid<m
          · rw [if_pos (by omega),wi (by omega) (by omega)]
            exact ⟨mid+m - b,mid,by rw [show (mid:Int)+m - b=((mid+m - b:Nat):Int) by omega],by omega,by omega,by omega,by omega,by omega,.inr (by omega),.inr rfl⟩
          · rw [if_neg (by omega)]
            exact ⟨a,m,rfl,by omega,by omega,by omega,by omega,by omega,.inl rfl,.inl rfl⟩
        obtain ⟨s0,r0,e0,g1,g2,g3,g4,g5,g6,g7⟩:=hsr
        rw [e0]
        simp only [Option.bind_some]
        rw [show (mid:Int)+m=((mid+m:Nat):Int) by omega]
        obtain ⟨s,e,b1,b2,b3,b4⟩:=bis4 k (P++A++B++Q) (mid+m) s0 r0 (by omega) (by omega) (by omega) (fun c h1 h2=>⟨by omega,by omega,by omega⟩)
          (fun c d h1 h2 h3=>⟨kA c d (by omega) h2 (by omega),kB _ _ (by omega) (by omega) (by omega)⟩) k s0 r0 (Nat.le_refl _) g2 (Nat.le_refl _) (by omega) (fun c h1 h2=>by omega) (fun c h1 h2=>by omega)
        rw [e]
        simp only [Option.bind_some]
        have hsA:A=A.take (s - a)++A.drop (s - a):=(List.take_append_drop _ _).symm
        generalize hA1:A.take (s - a)=A1 at hsA
        generalize hA2:A.drop (s - a)=A2 at hsA
        have lA1:A1.length=s - a:=by rw [← hA1];simp;omega
        have lA2:A2.length=m - s:=by rw [← hA2];simp;omega
        have hsB:B=B.take (mid - s)++B.drop (mid - s):=(List.take_append_drop _ _).symm
        generalize hB1:B.take (mid - s)=B1 at hsB
        generalize hB2:B.drop (mid - s)=B2 at hsB
        have lB1:B1.length=mid - s:=by rw [← hB1];simp;omega
        have lB2:B2.length=B.length - (mid - s):=by rw [← hB2];simp
        have kA1:∀ x∈A1,x.ffreq≤ky (P++A++B++Q) (s - 1)∧a<s:=by
          intro x hx
          obtain ⟨c,hc,e⟩:=mem_ky hx
          have:=kA (a+c) (s - 1) (by omega) (by omega) (by omega)
          rw [← e,show ky A1 c=ky (P++A++B++Q) (a+c) by rw [show P++A++B++Q=P++A1++(A2++B++Q) by rw [hsA];simp,ky_mid (U:=P) (V:=A1) (c:=c) hc (by omega)]]
          exact ⟨this,by omega⟩
        have kA2:∀ x∈A2,ky (P++A++B++Q) s≤x.ffreq∧s<m:=by
          intro x hx
          obtain ⟨c,hc,e⟩:=mem_ky hx
          have:=kA s (s+c) (by omega) (by omega) (by omega)
          rw [← e,show ky A2 c=ky (P++A++B++Q) (s+c) by rw [show P++A++B++Q=(P++A1)++A2++(B++Q) by rw [hsA];simp,ky_mid (U:=P++A1) (V:=A2) (c:=c) hc (by simp;omega)]]
          exact ⟨this,by omega⟩
        have kB1:∀ x∈B1,x.ffreq≤ky (P++A++B++Q) (mid+m - 1 - s)∧s<mid:=by
          intro x hx
          obtain ⟨c,hc,e⟩:=mem_ky hx
          have:=kB (m+c) (mid+m - 1 - s) (by omega) (by omega) (by omega)
          rw [← e,show ky B1 c=ky (P++A++B++Q) (m+c) by rw [show P++A++B++Q=(P++A)++B1++(B2++Q) by rw [hsB];simp,ky_mid (U:=P++A) (V:=B1) (c:=c) hc (by simp;omega)]]
          exact ⟨this,by omega⟩
        have kB2:∀ x∈B2,ky (P++A++B++Q) (mid+m - s)≤x.ffreq∧mid - s<B.length:=by
          intro x hx
          obtain ⟨c,hc,e⟩:=mem_ky hx
          have:=kB (mid+m - s) (mid+m - s+c) (by omega) (by omega) (by omega)
          rw [← e,show ky B2 c=ky (P++A++B++Q) (mid+m - s+c) by rw [show P++A++B++Q=(P++A++B1)++B2++Q by rw [hsB];simp,ky_mid (U:=P++A++B1) (V:=B2) (c:=c) hc (by simp;omega)]]
          exact ⟨this,by omega⟩
        have h12:∀ x∈A1,∀ y∈B2,x.ffreq≤y.ffreq:=by
          intro x hx y hy
          have ⟨x1,x2⟩:=kA1 x hx
          have ⟨y1,y2⟩:=kB2 y hy
          have:=b3 (s - 1) (by omega) (by omega)
          rw [show mid+m - 1 - (s - 1)=mid+m - s by omega] at this
          omega
        have h21:∀ x∈A2,∀ y∈B1,y.ffreq<x.ffreq:=by
          intro x hx y hy
          have ⟨x1,x2⟩:=kA2 x hx
          have ⟨y1,y2⟩:=kB1 y hy
          have:=b4 s (Nat.le_refl _) (by omega)
          omega
        have sA':=Srt.sub (show Srt kf (A1++A2) by rw [← hsA];exact sA)
        have sB':=Srt.sub (show Srt kf (B1++B2) by rw [← hsB];exact sB)
        rw [wi (n:=((mid+m:Nat):Int) - s) (by omega) (by omega),show ((mid+m:Nat):Int) - s=((mid+m - s:Nat):Int) by omega]
        have hrot:(((if (s:Int)<m then some (decide ((m:Int)<((mid+m - s:Nat):Int))) else some false):Option Bool).bind fun x2486=>(bif x2486 then (g_sc_rotateCmpFunc_huff_coin k (s:Int) (m:Int) ((mid+m - s:Nat):Int) (P++A++B++Q)).bind fun x2492=>some x2492 else some (P++A++B++Q)))=some (P++(A1++B1)++A2++B2++Q):=by
          by_cases c1:s<m
          · rw [if_pos (by omega)]
            by_cases c2:s<mid
            · rw [dt (by omega)]
              simp only [Option.bind_some,bt]
              have:=rotate k (P++A1) A2 B1 (B2++Q) (a:=(s:Int)) (m:=(m:Int)) (b:=((mid+m - s:Nat):Int)) (by simp;omega) (by simp;omega) (by simp;omega) (by omega) (by omega) (by simp;omega) (by omega)
              rw [show P++A++B++Q=P++A1++A2++B1++(B2++Q) by rw [hsA,hsB];simp,this];simp
            · rw [df (by omega)]
              have:B1=[]:=List.length_eq_zero_iff.1 (by omega)
              simp only [Option.bind_some,bf]
              rw [hsA,hsB,this];simp
          · rw [if_neg (by omega)]
            have:A2=[]:=List.length_eq_zero_iff.1 (by omega)
            simp only [Option.bind_some,bf]
            rw [hsA,hsB,this];simp
        rw [hrot]
        simp only [Option.bind_some]
        have hm1:∃ M1,(((if (a:Int)<s then some (decide ((s:Int)<(mid:Int))) else some false):Option Bool).bind fun x2506=>(bif x2506 then (g_sc_symMergeCmpFunc_huff_coin k (a:Int) (s:Int) (mid:Int) (P++(A1++B1)++A2++B2++Q)).bind fun x2512=>some x2512 else some (P++(A1++B1)++A2++B2++Q)))=some (P++M1++A2++B2++Q)∧Sorts (A1++B1) M1:=by
          by_cases c1:a<s
          · rw [if_pos (by omega)]
            by_cases c2:s<mid
            · rw [dt (by omega)]
              simp only [Option.bind_some,bt]
              obtain ⟨M,m1,m2⟩:=ih P A1 B1 (A2++B2++Q) a s mid ha (by omega) (by omega) (by omega) (by omega) sA'.1 sB'.1 (by omega) (by simp;omega)
              refine ⟨M,?_,m2⟩
              rw [show P++(A1++B1)++A2++B2++Q=P++A1++B1++(A2++B2++Q) by simp,m1];simp
            · rw [df (by omega)]
              exact ⟨A1++B1,rfl,sorts_nil2 (List.length_eq_zero_iff.1 (by omega)) sA'.1⟩
          · rw [if_neg (by omega)]
            exact ⟨A1++B1,rfl,sorts_nil1 (List.length_eq_zero_iff.1 (by omega)) sB'.1⟩
        obtain ⟨M1,e1,o1⟩:=hm1
        rw [e1]
        simp only [Option.bind_some]
        have lM1:M1.length=mid - a:=by rw [o1.len];simp;omega
        have hm2:∃ M2,(((if (mid:Int)<((mid+m - s:Nat):Int) then some (decide (((mid+m - s:Nat):Int)<(b:Int))) else some false):Option Bool).bind fun x2517=>(bif x2517 then (g_sc_symMergeCmpFunc_huff_coin k (mid:Int) ((mid+m - s:Nat):Int) (b:Int) (P++M1++A2++B2++Q)).bind fun x2524=>some x2524 else some (P++M1++A2++B2++Q)))=some (P++M1++M2++Q)∧Sorts (A2++B2) M2:=by
          by_cases c1:s<m
          · rw [if_pos (by omega)]
            by_cases c2:mid+m - s<b
            · rw [dt (by omega)]
              simp only [Option.bind_some,bt]
              obtain ⟨M,m1,m2⟩:=ih (P++M1) A2 B2 Q mid (mid+m - s) b (by simp;omega) (by omega) (by omega) (by omega) (by omega) sA'.2.1 sB'.2.1 (by omega) hl
              exact ⟨M,by rw [m1];rfl,m2⟩
            · rw [df (by omega)]
              exact ⟨A2++B2,by simp,sorts_nil2 (List.length_eq_zero_iff.1 (by omega)) sA'.2.1⟩
          · rw [if_neg (by omega)]
            exact ⟨A2++B2,by simp,sorts_nil1 (List.length_eq_zero_iff.1 (by omega)) sB'.2.1⟩
        obtain ⟨M2,e2,o2⟩:=hm2
        refine ⟨M1++M2,?_,Srt.mk o1.srt o2.srt ?_,?_,?_⟩
        · rw [e2];simp
        · intro x hx y hy
          rcases List.mem_append.1 (o1.sim.symm.mem hx) with q | q <;> rcases List.mem_append.1 (o2.sim.symm.mem hy) with w | w
          · exact sA'.2.2 x q y w
          · exact h12 x q y w
          · exact Int.le_of_lt (h21 y w x q)
          · exact sB'.2.2 x q y w
        · refine Sim.trans ?_ (Sim.app o1.sim o2.sim)
          rw [hsA,hsB];exact sim_mv h21
        · simp only [List.length_append,o1.len,o2.len];rw [hsA,hsB];simp only [List.length_append];omega
inductive Runs (w:Nat):List Co→Prop
  | last (l:List Co) (h:l.length≤w) (s:Srt kf l):Runs w l
  | cons (B l:List Co) (h:B.length=w) (s:Srt kf B) (r:Runs w l):Runs w (B++l)
theorem Runs.one {w:Nat} {l:List Co} (h:Runs w l) (hl:l.length≤w) (hw:0<w):Srt kf l:=by
  cases h with
  | last _ _ s=>exact s
  | cons B l h s r =>
    have:l=[]:=List.length_eq_zero_iff.1 (by simp at hl;omega)
    subst this;simpa using s
theorem Runs.two {w:Nat} {l:List Co} (h:Runs w l) (hl:w<l.length):∃ A l',l=A++l'∧A.length=w∧Srt kf A∧Runs w l'∧0<l'.length:=by
  cases h with
  | last _ h _=>omega
  | cons B l h s r=>exact ⟨B,l,rfl,h,s,r,by simp at hl;omega⟩
theorem Runs.head {w:Nat} {l:List Co} (h:Runs w l) (hl:w≤l.length) (hw:0<w):∃ A l',l=A++l'∧A.length=w∧Srt kf A∧Runs w l':=by
  cases h with
  | last _ h s=>exact ⟨l,[],by simp,by omega,s,.last _ (by simp) List.Pairwise.nil⟩
  | cons B l h s r=>exact ⟨B,l,rfl,h,s,r⟩
def Done (w:Nat) (D:List Co):Prop:=∀ T,Runs w T→Runs w (D++T)
theorem Done.nil {w:Nat}:Done w []:=fun T h=>h
theorem Done.snoc {w:Nat} {D B:List Co} (h:Done w D) (hB:B.length=w) (s:Srt kf B):Done w (D++B):=fun T hT=>by
  rw [List.append_assoc];exact h _ (.cons B T hB s hT)
theorem blocks (k:Nat) (N:Int) (hN:N≤100000) (hk:100≤k):∀ (n:Nat) (D R:List Co),Done 20 D→N=(D.length:Int)+R.length→R.length<n →
    ∃ D' R',g_sc_stableCmpFunc_huff_coin_l0 k N n (D.length:Int) ((D.length:Int)+20) (D++R)=some ((D'.length:Int),D'++R')∧Done 20 D'∧R'.length<20∧Sim kf (D++R) (D'++R')∧N=(D'.length:Int)+R'.length:=by
  intro n
  induction n with
  | zero=>intro D R _ _ h;omega
  | succ n ih =>
    intro D R hD hL hn
    rw [g_sc_stableCmpFunc_huff_coin_l0.eq_2]
    simp only [bd]
    by_cases h:20≤R.length
    · rw [if_pos (by omega)]
      have hsp:R=R.take 20++R.drop 20:=(List.take_append_drop _ _).symm
      generalize hR1:R.take 20=R1 at hsp
      generalize hR2:R.drop 20=R2 at hsp
      have l1:R1.length=20:=by rw [← hR1];simp;omega
      have l2:R2.length=R.length - 20:=by rw [← hR2];simp
      obtain ⟨M,m1,m2⟩:=insertion k D R1 R2 (by omega) (by omega) (by omega) (b:=(D.length:Int)+20) (by omega)
      rw [show D++R=D++R1++R2 by rw [hsp];simp,m1]
      simp only [Option.bind_some]
      have lM:M.length=20:=by rw [m2.len];exact l1
      obtain ⟨D',R',r1,r2,r3,r4,r5⟩:=ih (D++M) R2 (hD.snoc lM m2.srt) (by simp;omega) (by omega)
      refine ⟨D',R',?_,r2,r3,?_,r5⟩
      · rw [wi (by omega) (by omega),← r1];congr 1 <;> simp <;> omega
      · exact Sim.trans (Sim.app (Sim.app (Sim.refl _) m2.sim) (Sim.refl _)) r4
    · rw [if_neg (by omega)]
      exact ⟨D,R,rfl,hD,by omega,Sim.refl _,hL⟩
theorem merges (k:Nat) (N:Int) (w:Nat) (hw:0<w) (hw2:w≤100000) (hN:N≤100000) (hk:210000≤k):∀ (n:Nat) (D R:List Co),Done (2*w) D→Runs w R→N=(D.length:Int)+R.length→R.length<n →
    ∃ D' R',g_sc_stableCmpFunc_huff_coin_l2 k N (w:Int) n (D.length:Int) ((D.length:Int)+(2*w:Nat)) (D++R)=some ((D'.length:Int),D'++R')∧Done (2*w) D'∧Runs w R'∧R'.length<2*w∧Sim kf (D++R) (D'++R')∧N=(D'.length:Int)+R'.length:=by
  intro n
  induction n with
  | zero=>intro D R _ _ _ h;omega
  | succ n ih =>
    intro D R hD hR hL hn
    rw [g_sc_stableCmpFunc_huff_coin_l2.eq_2]
    simp only [bd]
    by_cases h:2*w≤R.length
    · rw [if_pos (by omega)]
      obtain ⟨A,R1,rfl,lA,sA,rR⟩:=hR.head (by omega) hw
      obtain ⟨B,R2,rfl,lB,sB,rR⟩:=rR.head (by simp at h;omega) hw
      simp only [List.length_append] at h hL hn
      obtain ⟨M,m1,m2⟩:=symm k D A B R2 D.length (D.length+w) (D.length+2*w) rfl (by omega) (by omega) (by omega) (by omega) sA sB (by omega) (by omega)
      rw [wi (n:=(D.length:Int)+w) (by omega) (by omega),show (D.length:Int)+w=((D.length+w:Nat):Int) by omega,show (D.length:Int)+((2*w:Nat):Int)=((D.length+2*w:Nat):Int) by omega,show D++(A++(B++R2))=D++A++B++R2 by simp,m1]
      simp only [Option.bind_some]
      have lM:M.length=2*w:=by rw [m2.len];simp;omega
      obtain ⟨D',R',r1,r2,r3,r4,r5,r6⟩:=ih (D++M) R2 (hD.snoc lM m2.srt) rR (by simp;omega) (by omega)
      refine ⟨D',R',?_,r2,r3,r4,?_,r6⟩
      · rw [wi (n:=2*(w:Int)) (by omega) (by omega),wi (by omega) (by omega),← r1];congr 1 <;> simp <;> omega
      · refine Sim.trans ?_ r5
        rw [List.append_assoc D A B]
        exact Sim.app (Sim.app (Sim.refl _) m2.sim) (Sim.refl _)
    · rw [if_neg (by omega)]
      exact ⟨D,R,rfl,hD,hR,by omega,Sim.refl _,hL⟩
theorem doubling (k:Nat) (N:Int) (hN:N≤100000) (hk:210000≤k):∀ (n:Nat) (w:Nat) (R:List Co),0<w→w≤200000→Runs w R→N=(R.length:Int)→R.length<n+w →
    ∃ M,g_sc_stableCmpFunc_huff_coin_l1 k N (n+1) (w:Int) R=some M∧Sorts R M:=by
  intro n
  induction n with
  | zero =>
    intro w R hw hw2 hR hL h
    rw [g_sc_stableCmpFunc_huff_coin_l1.eq_2]
    simp only [bd]
    rw [if_neg (by omega)]
    exact ⟨R,rfl,hR.one (by omega) hw,Sim.refl _,rfl⟩
  | succ n ih =>
    intro w R hw hw2 hR hL hn
    rw [g_sc_stableCmpFunc_huff_coin_l1.eq_2]
    simp only [bd]
    by_cases h:w<R.length
    · rw [if_pos (by omega),wi (n:=2*(w:Int)) (by omega) (by omega)]
      obtain ⟨D,S,r1,r2,r3,r4,r5,r6⟩:=merges k N w hw (by omega) hN hk k [] R Done.nil hR (by simpa using hL) (by omega)
      simp only [List.nil_append,List.length_nil] at r1 r5
      rw [show ((0:Nat):Int)+((2*w:Nat):Int)=2*(w:Int) by omega,show ((0:Nat):Int)=0 from rfl] at r1
      rw [r1]
      simp only [Option.bind_some]
      rw [wi (n:=(D.length:Int)+w) (by omega) (by omega),wi (n:=(w:Int)*2) (by omega) (by omega)]
      have hfin:∃ S',(bif decide ((D.length:Int)+w<N) then (g_sc_symMergeCmpFunc_huff_coin k (D.length:Int) ((D.length:Int)+w) N (D++S)).bind fun x2700=>some x2700 else some (D++S))=some (D++S')∧Sorts S S':=by
        rw [bd]
        by_cases c:w<S.length
        · rw [if_pos (by omega)]
          obtain ⟨A,B,rfl,lA,sA,rB,hB⟩:=r3.two c
          simp only [List.length_append] at r4 r6
          have sB:=rB.one (by omega) hw
          obtain ⟨M,m1,m2⟩:=symm k D A B [] D.length (D.length+w) (D.length+w+B.length) rfl (by omega) (by omega) (by omega) hB sA sB (by omega) (by simp;omega)
          refine ⟨M,?_,m2⟩
          rw [show (D.length:Int)+w=((D.length+w:Nat):Int) by omega,show N=((D.length+w+B.length:Nat):Int) by omega,show D++(A++B)=D++A++B++[] by simp,m1];simp
        · rw [if_neg (by omega)]
          exact ⟨S,rfl,r3.one (by omega) hw,Sim.refl _,rfl⟩
      obtain ⟨S',s1,s2⟩:=hfin
      rw [s1]
      simp only [Option.bind_some]
      have hr:Runs (2*w) (D++S'):=r2 _ (.last _ (by rw [s2.len];omega) s2.srt)
      obtain ⟨M,m1,m2⟩:=ih (2*w) (D++S') (by omega) (by omega) hr (by simp [s2.len];omega) (by simp [s2.len];omega)
      refine ⟨M,?_,m2.srt,Sim.trans r5 (Sim.trans (Sim.app (Sim.refl _) s2.sim) m2.sim),by rw [m2.len];simp [s2.len];omega⟩
      rw [← m1,show (w:Int)*2=((2*w:Nat):Int) by omega]
    · rw [if_neg (by omega)]
      exact ⟨R,rfl,hR.one (by omega) hw,Sim.refl _,rfl⟩
theorem sortStable (k:Nat) (x:List Co) (hk:210000≤k) (hx:x.length≤100000):∃ M,g_sc_SortStableFunc_huff_coin_huff_coin k x=some M∧Sorts x M:=by
  unfold g_sc_SortStableFunc_huff_coin_huff_coin g_sc_stableCmpFunc_huff_coin
  obtain ⟨D,R,r1,r2,r3,r4,r5⟩:=blocks k (x.length:Int) (by omega) (by omega) k [] x Done.nil (by simp) (by omega)
  simp only [List.nil_append,List.length_nil] at r1 r4
  rw [show ((0:Nat):Int)+20=20 from rfl,show ((0:Nat):Int)=0 from rfl] at r1
  rw [r1]
  simp only [Option.bind_some]
  obtain ⟨M,m1,m2⟩:=insertion k D R [] (by omega) (by omega) (by omega) (b:=(x.length:Int)) (by omega)
  simp only [List.append_nil] at m1
  rw [m1]
  simp only [Option.bind_some]
  obtain ⟨k,rfl⟩:∃ j,k=j+1:=⟨k - 1,by omega⟩
  have hr:Runs 20 (D++M):=r2 _ (.last _ (by rw [m2.len];omega) m2.srt)
  have hl:(D++M).length=x.length:=by simp [m2.len];omega
  obtain ⟨M',e1,e2⟩:=doubling (k+1) (x.length:Int) (by omega) (by omega) k 20 (D++M) (by decide) (by decide) hr (by rw [hl]) (by omega)
  refine ⟨M',?_,e2.srt,Sim.trans r4 (Sim.trans (Sim.app (Sim.refl _) m2.sim) e2.sim),by rw [e2.len,hl]⟩
  rw [show (20:Int)=((20:Nat):Int) from rfl,e1];rfl
end Go.Proofs.Ytmmeanjjfhimjaa.W
