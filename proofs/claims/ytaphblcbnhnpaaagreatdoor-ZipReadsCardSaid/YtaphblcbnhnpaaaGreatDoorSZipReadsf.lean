/- Texts joined: part 6 of what LZipReads stands on. -/
import Derived.Test.YtaphblcbnhnpaaaGreatDoorSZipReadse
namespace Go.Proofs.YtaphblcbnhnpaaaGreatDoor.W
open Go Go.Q Go.Proofs
set_option linter.unusedVariables false
set_option linter.unusedSimpArgs false
set_option maxRecDepth 100000
set_option maxHeartbeats 4000000
theorem s_quireref03_distBits (k:Nat) (x1:Int) (x2:Int) (H:g_quireref03_distBits k x1=some x2):Go.Q.Spec Tryz.prog 177 0 [.lit (.int .i64 x1)] Mem.nil (fun o M=>o=.ret (.lit (.int .i64 x2))∧M=Mem.nil):=by
 unfold g_quireref03_distBits at H;refine bo Tryz.func177 [] [.tmp 2] 8 fun cx hnp=>?_;(iterate 3 refine sp ?_);refine WP.seq ?_;(iterate 4 refine sp ?_);refine cq H (fun hb1 H=>?_) fun hb1 H=>?_
 · (iterate 4 refine sp ?_);have q0:=j1 H;subst q0;exact W.now (Then.r (mb []))
 (iterate 6 refine sp ?_);obtain ⟨x3,h1,H⟩:=bnd H;refine sn (nm_int h1) ?_;(iterate 3 refine sp ?_);have q0:=j1 H;subst q0;exact W.now (mb [])
theorem s_quireref03_Dist (k:Nat) (x1:Int) (x2:Int) (x3:Int) (x4:Bool) (H:g_quireref03_Dist k x1=some (x2,x3,x4)):Go.Q.Spec Tryz.prog 169 0 [.lit (.int .i64 x1)] Mem.nil (fun o M=>o=.ret (.tup [.lit (.int .i64 x2),.lit (.int .i64 x3),.lit (.bool x4)])∧M=Mem.nil):=by
 unfold g_quireref03_Dist at H;refine bo Tryz.func169 [] [.tmp 2,.tmp 3,.tmp 4] 27 fun cx hnp=>?_;(iterate 5 refine sp ?_);refine WP.seq ?_;refine WP.seq ?_;obtain ⟨x5,H1,H⟩:=bnd H;refine mo .normal ((Env.none.upd 0 (.lit (.int .i64 x1))).upd 12 (.lit (.bool x5))) Mem.nil ?_ ?_
 · clear H;have H:=H1;clear H1;(iterate 4 refine sp ?_);refine ws 9 H (fun hb1 H=>?_) fun hb1 H=>?_
   · (iterate 3 refine sp ?_);refine WPL.nilW ?_;have q0:=j1 H;subst q0;exact wq []
   (iterate 3 refine sp ?_);refine WPL.nilW ?_;have q0:=j1 H;subst q0;exact wq []
 (iterate 2 refine sp ?_);refine cq H (fun hb2 H=>?_) fun hb2 H=>?_
 · (iterate 6 refine sp ?_);obtain ⟨rfl,rfl,rfl⟩:=j3 H;exact W.now (Then.r (mb []))
 (iterate 6 refine sp ?_);refine WP.seq ?_;(iterate 4 refine sp ?_);refine WP.cv (Cv.weak (E':=(((Env.none.upd 0 (.lit (.int .i64 x1))).upd 5 (.lit (.int .i64 1))).upd 6 (.lit (.int .i64 0)))) (M':=Mem.nil) [] hnp ⟨rfl,trivial,by decide,rfl,trivial⟩ (LeE.u (LeE.u (LeE.u (LeE.none rfl rfl))))) ?_;obtain ⟨x6,H2,H⟩:=bnd H;refine mo (.exit 0) ((Env.none.upd 0 (.lit (.int .i64 x1))).upd 5 (.lit (.int .i64 x6))) Mem.nil ?_ ?_
 · refine WP.loop (β:=Int × Int) (fun n b=>g_quireref03_Dist_l0 k x1 n b.1 b.2=some x6) (fun b=>(((Env.none.upd 0 (.lit (.int .i64 x1))).upd 5 (.lit (.int .i64 b.1))).upd 6 (.lit (.int .i64 b.2)))) (fun b=>Mem.nil) k (1,0) H2 rfl rfl ?_;rintro n ⟨x7,x8⟩ H;obtain _ | n:=n
   · exact nf rfl H
   rw [g_quireref03_Dist_l0.eq_2] at H;show WP _ _ _ _ (((Env.none.upd 0 (.lit (.int .i64 x1))).upd 5 (.lit (.int .i64 x7))).upd 6 (.lit (.int .i64 x8))) Mem.nil _;refine WP.seq ?_;(iterate 5 refine sp ?_);refine cq H (fun hb3 H=>?_) fun hb3 H=>?_
   · (iterate 3 refine sp ?_);refine WP.seq ?_;(iterate 4 refine sp ?_);obtain ⟨x9,h1,H⟩:=bnd H;refine WPL.c (rc [] [] 0 [] (s_quireref03_distBits k x8 x9 h1)) rfl ?_;refine sp ?_;obtain ⟨h2,H⟩:=grd H;refine WPL.qq (q_shl rfl rfl h2) ?_;obtain ⟨x10,h3,H⟩:=bnd H;refine sn (nm_int h3) ?_;refine sp ?_;refine WPL.nilW ?_;refine sp ?_;refine InBlock.n ?_;(iterate 5 refine sp ?_);refine WPL.nilW ?_;exact wq [] (Then.n ⟨n,(x10,(IntKind.wrap .i64 (x8+1))),Nat.lt_succ_self n,H,rfl,rfl⟩)
   refine sp ?_;have q0:=j1 H;subst q0;exact wq [] (Then.x (Then.x r3))
 (iterate 6 refine sp ?_);obtain ⟨x11,h4,H⟩:=bnd H;refine WPL.c (rc [] [] 0 [] (s_quireref03_distBits k x1 x11 h4)) rfl ?_;(iterate 5 refine sp ?_);obtain ⟨rfl,rfl,rfl⟩:=j3 H;exact W.now (mb [])
theorem s_quireref03_stream_copied (k:Nat) (x1:Int) (x2:(List Int)) (x3:(List Int)) (x4:Int) (x5:(List Int)) (x6:Int) (x7:(List Int)) (x8:Int) (x9:Int) (x10:(List Int)) (H:g_quireref03_stream_copied k x1 x2 x3 x4 x5 x6 x7=some (x8,x9,x10)):Go.Q.Spec Tryz.prog 152 2 [.ptr 0 0,.lit (.int .i64 x1),.agg [.ro (Rd.slice (Rd.int .i64)) false x2,.ro (Rd.slice (Rd.int .u32)) false x3]] (((Mem.nil.push (.cells 151 [.ptr 1 0,.whole 2,.lit (.int .i64 x4)])).push (.cells 149 [.ro (Rd.slice (Rd.int .u8)) false x5,.lit (.int .i64 x6)])).push (.row 5 (Rd.int .u8) x7)) (fun o M=>o=.ret (.lit (.int .i64 x8))∧M=(((Mem.nil.push (.cells 151 [.ptr 1 0,.whole 2,.lit (.int .i64 x4)])).push (.cells 149 [.ro (Rd.slice (Rd.int .u8)) false x5,.lit (.int .i64 x9)])).push (.row 5 (Rd.int .u8) x10))):=by
 unfold g_quireref03_stream_copied at H;refine bo Tryz.func152 [] [.tmp 6] 125 fun cx hnp=>?_;(iterate 6 refine sp ?_);obtain ⟨⟨x11,x12,x13⟩,h1,H⟩:=bnd H;refine WPL.c (rc [] [] 4 [] (s_quireref03_Lit k x1 x11 x12 x13 h1)) rfl ?_;(iterate 8 refine sp ?_);refine WP.seq ?_;(iterate 4 refine sp ?_);refine cq H (fun hb1 H=>?_) fun hb1 H=>?_
 · (iterate 4 refine sp ?_);obtain ⟨rfl,rfl,rfl⟩:=j3 H;exact W.now (Then.r (mb [0,1,2]))
 (iterate 9 refine sp ?_);obtain ⟨⟨x14,x15,x16⟩,h2,H⟩:=bnd H;refine WPL.c (rc [1] [1] 4 [] (s_quireref01_Reader_Take k x12 x5 x6 x14 x15 x16 h2)) rfl ?_;(iterate 6 refine sp ?_);refine WP.seq ?_;(iterate 4 refine sp ?_);refine cq H (fun hb2 H=>?_) fun hb2 H=>?_
 · (iterate 5 refine sp ?_);obtain ⟨rfl,rfl,rfl⟩:=j3 H;exact W.now (Then.r (mb [0,1,2]))
 (iterate 7 refine sp ?_);obtain ⟨x17,h3,H⟩:=bnd H;refine sn (nm_int h3) ?_;(iterate 2 refine sp ?_);refine WP.seq ?_;refine WP.regionD' 14 [0,3] [] mixed rfl ?_;refine dT 0 ?_;refine dT 2 ?_;refine dT 4 ?_;refine dT 5 ?_;refine dT 6 ?_;refine dK 1 ?_;refine dK 3 ?_;refine dK 7 ?_;obtain ⟨⟨x18,x19,x20⟩,h4,H⟩:=bnd H;refine dE 8 [0,3] [] rfl (rc [1] [1] 4 [] (s_quireref02_Next k x2 x3 x5 x16 x18 x19 x20 h4) (hargs:=.ren rfl rfl (.ren rfl rfl (.ren rfl rfl .nil)))) ?_;refine dT 9 ?_;refine dT 10 ?_;refine dT 11 ?_;refine dT 12 ?_;refine dT 13 ?_;refine WPD.doneW (by kernel_rfl) ?_;(iterate 2 refine sp ?_);refine WP.seq ?_;(iterate 4 refine sp ?_);refine cq H (fun hb3 H=>?_) fun hb3 H=>?_
 · (iterate 5 refine sp ?_);obtain ⟨rfl,rfl,rfl⟩:=j3 H;exact W.now (Then.r (mb [0,1,2]))
 (iterate 5 refine sp ?_);obtain ⟨⟨x21,x22,x23⟩,h5,H⟩:=bnd H;refine WPL.c (rc [] [] 4 [] (s_quireref03_Dist k x18 x21 x22 x23 h5)) rfl ?_;(iterate 8 refine sp ?_);refine WP.seq ?_;(iterate 4 refine sp ?_);refine cq H (fun hb4 H=>?_) fun hb4 H=>?_
 · (iterate 4 refine sp ?_);obtain ⟨rfl,rfl,rfl⟩:=j3 H;exact W.now (Then.r (mb [0,1,2]))
 (iterate 9 refine sp ?_);obtain ⟨⟨x24,x25,x26⟩,h6,H⟩:=bnd H;refine WPL.c (rc [1] [1] 4 [] (s_quireref01_Reader_Take k x22 x5 x20 x24 x25 x26 h6)) rfl ?_;(iterate 6 refine sp ?_);refine WP.seq ?_;(iterate 4 refine sp ?_);refine cq H (fun hb5 H=>?_) fun hb5 H=>?_
 · (iterate 5 refine sp ?_);obtain ⟨rfl,rfl,rfl⟩:=j3 H;exact W.now (Then.r (mb [0,1,2]))
 (iterate 7 refine sp ?_);obtain ⟨x27,h7,H⟩:=bnd H;refine sn (nm_int h7) ?_;(iterate 2 refine sp ?_);refine WP.seq ?_;(iterate 7 refine sp ?_);obtain ⟨x28,h8,H⟩:=bnd H;refine sn (nm_bool h8) ?_;refine sp ?_;refine cq H (fun hb6 H=>?_) fun hb6 H=>?_
 · (iterate 4 refine sp ?_);obtain ⟨rfl,rfl,rfl⟩:=j3 H;exact W.now (Then.r (mb [0,1,2]))
 (iterate 3 refine sp ?_);refine WP.seq ?_;refine WP.seq ?_;refine WP.regionD' 12 [0] [] mixed rfl ?_;refine dT 0 ?_;refine dT 1 ?_;refine dT 2 ?_;refine dT 3 ?_;refine dT 5 ?_;refine dT 6 ?_;refine dT 7 ?_;refine dK 4 ?_;refine dK 8 ?_;refine dT 9 ?_;obtain ⟨x29,h9,H⟩:=bnd H;refine dT 10 ?_ rfl (q_nm aq (nm_int h9));refine dT 11 ?_;refine WPD.doneW (by kernel_rfl) ?_;(iterate 2 refine sp ?_);refine cq H (fun hb7 H=>?_) fun hb7 H=>?_
 · (iterate 4 refine sp ?_);obtain ⟨rfl,rfl,rfl⟩:=j3 H;exact W.now (Then.r (mb [0,1,2]))
 (iterate 3 refine sp ?_);refine WP.seq ?_;(iterate 4 refine sp ?_);refine WP.cv (Cv.weak (E':=((((Env.none.upd 0 (.ptr 0 0)).upd 12 (.lit (.int .i64 x17))).upd 14 (.lit (.int .i64 x27))).upd 15 (.lit (.int .i64 0)))) (M':=(((Mem.nil.push (.cells 151 [.ptr 1 0,.whole 2,.lit (.int .i64 x4)])).push (.cells 149 [.ro (Rd.slice (Rd.int .u8)) false x5,.lit (.int .i64 x26)])).push (.row 5 (Rd.int .u8) x7))) [0,1,2] hnp ⟨rfl,AA3,by decide,rfl,BB2⟩ (LeE.u (LeE.u (LeE.u (LeE.u (LeE.none rfl rfl)))))) ?_;obtain ⟨x30,H1,H⟩:=bnd H;refine mo (.exit 0) Env.none (((Mem.nil.push (.cells 151 [.ptr 1 0,.whole 2,.lit (.int .i64 x4)])).push (.cells 149 [.ro (Rd.slice (Rd.int .u8)) false x5,.lit (.int .i64 x26)])).push (.row 5 (Rd.int .u8) x30)) ?_ ?_
 · refine WP.loop (β:=Int × (List Int)) (fun n b=>g_quireref03_stream_copied_l0 k x17 x27 n b.1 b.2=some x30) (fun b=>((((Env.none.upd 0 (.ptr 0 0)).upd 12 (.lit (.int .i64 x17))).upd 14 (.lit (.int .i64 x27))).upd 15 (.lit (.int .i64 b.1)))) (fun b=>(((Mem.nil.push (.cells 151 [.ptr 1 0,.whole 2,.lit (.int .i64 x4)])).push (.cells 149 [.ro (Rd.slice (Rd.int .u8)) false x5,.lit (.int .i64 x26)])).push (.row 5 (Rd.int .u8) b.2))) k (0,x7) H1 rfl rfl ?_;rintro n ⟨x31,x32⟩ H;obtain _ | n:=n
   · exact nf rfl H
   rw [g_quireref03_stream_copied_l0.eq_2] at H;show WP _ _ _ _ ((((Env.none.upd 0 (.ptr 0 0)).upd 12 (.lit (.int .i64 x17))).upd 14 (.lit (.int .i64 x27))).upd 15 (.lit (.int .i64 x31))) (((Mem.nil.push (.cells 151 [.ptr 1 0,.whole 2,.lit (.int .i64 x4)])).push (.cells 149 [.ro (Rd.slice (Rd.int .u8)) false x5,.lit (.int .i64 x26)])).push (.row 5 (Rd.int .u8) x32)) _;refine WP.seq ?_;(iterate 5 refine sp ?_);refine cq H (fun hb8 H=>?_) fun hb8 H=>?_
   · (iterate 3 refine sp ?_);refine WP.seq ?_;refine sp ?_;refine WP.regionD' 23 [0,2] [19] mixed rfl ?_;refine dT 0 ?_;refine dT 1 ?_;refine dT 2 ?_;refine dT 3 ?_;refine dT 5 ?_;refine dT 6 ?_;refine dT 7 ?_;refine dT 9 ?_;refine dT 10 ?_;refine dT 11 ?_;refine dT 14 ?_;refine dK 4 ?_;refine dK 8 ?_;refine dK 12 ?_;refine dT 13 ?_;obtain ⟨x33,h10,H⟩:=bnd H;refine dT 15 ?_ rfl (q_nm aq (nm_int h10));obtain ⟨x34,h11,H⟩:=bnd H;refine WPD.tT 16 rfl (q_index_row sl23 rfl rfl rfl (ixs h11)) ?_;refine WPD.take 17 rfl (by kernel_rfl) (q_load_row (j:=(Int.toNat x33)) sc5 rfl rfl (ixj h11)) rfl rfl ?_;refine dE 18 [0,2] [19] rfl (Does.runs (d_buildSlice (ds:=([x34]:List Int)) (R:=(Rd.int .u8)) li23 rfl rfl rfl rfl rfl (JoinRows.cons1 Joins.sc rfl JoinRows.nil) rfl rfl)) ?_;obtain ⟨h11,H⟩:=grd H;refine dE 19 [] [] rfl (Does.runs (d_append ap23 rfl rfl rfl rfl (src_row sl23 rfl rfl) h11 rfl)) ?_;refine dT 20 ?_;refine dT 21 ?_;refine dS 22 [] [] ?_;refine WPD.doneW (by kernel_rfl) ?_;refine sp ?_;refine InBlock.n ?_;(iterate 5 refine sp ?_);refine WPL.nilW ?_;exact wq [0,1,4] (Then.n ⟨n,((IntKind.wrap .i64 (x31+1)),(x32++([x34]:List Int))),Nat.lt_succ_self n,H,rfl,rfl⟩)
   refine sp ?_;have q0:=j1 H;subst q0;exact wq [0,1,2] (Then.x (Then.x r3))
 (iterate 7 refine sp ?_);obtain ⟨rfl,rfl,rfl⟩:=j3 H;exact W.now (mb [0,1,2])
theorem s_quireref03_stream_symbols (k:Nat) (x1:(List Int)) (x2:(List Int)) (x3:(List Int)) (x4:(List Int)) (x5:Int) (x6:(List Int)) (x7:Int) (x8:(List Int)) (x9:Int) (x10:Int) (x11:(List Int)) (H:g_quireref03_stream_symbols k x1 x2 x3 x4 x5 x6 x7 x8=some (x9,x10,x11)):Go.Q.Spec Tryz.prog 130 2 [.ptr 0 0,.agg [.ro (Rd.slice (Rd.int .i64)) false x1,.ro (Rd.slice (Rd.int .u32)) false x2],.agg [.ro (Rd.slice (Rd.int .i64)) false x3,.ro (Rd.slice (Rd.int .u32)) false x4]] (((Mem.nil.push (.cells 151 [.ptr 1 0,.whole 2,.lit (.int .i64 x5)])).push (.cells 149 [.ro (Rd.slice (Rd.int .u8)) false x6,.lit (.int .i64 x7)])).push (.row 5 (Rd.int .u8) x8)) (fun o M=>o=.ret (.lit (.int .i64 x9))∧M=(((Mem.nil.push (.cells 151 [.ptr 1 0,.whole 2,.lit (.int .i64 x5)])).push (.cells 149 [.ro (Rd.slice (Rd.int .u8)) false x6,.lit (.int .i64 x10)])).push (.row 5 (Rd.int .u8) x11))):=by
 unfold g_quireref03_stream_symbols at H;refine bo Tryz.func130 [] [.tmp 6] 39 fun cx hnp=>?_;(iterate 6 refine sp ?_);refine WP.cv (Cv.weak (E':=(((Env.none.upd 0 (.ptr 0 0)).upd 4 (.ptr 3 0)).upd 5 (.ptr 4 0))) (M':=(((((Mem.nil.push (.cells 151 [.ptr 1 0,.whole 2,.lit (.int .i64 x5)])).push (.cells 149 [.ro (Rd.slice (Rd.int .u8)) false x6,.lit (.int .i64 x7)])).push (.row 5 (Rd.int .u8) x8)).push (.cells 209 [.ro (Rd.slice (Rd.int .i64)) false x1,.ro (Rd.slice (Rd.int .u32)) false x2])).push (.cells 209 [.ro (Rd.slice (Rd.int .i64)) false x3,.ro (Rd.slice (Rd.int .u32)) false x4]))) [0,1,2,3,4] hnp ⟨rfl,AA5,by decide,rfl,BB2⟩ (LeE.u (LeE.u (LeE.u (LeE.none rfl rfl))))) ?_;obtain ⟨⟨x12,x13,x14⟩,H1,H⟩:=bnd H;refine mo .ret (Env.none.upd 6 (.lit (.int .i64 x12))) (((Mem.nil.push (.cells 151 [.ptr 1 0,.whole 2,.lit (.int .i64 x5)])).push (.cells 149 [.ro (Rd.slice (Rd.int .u8)) false x6,.lit (.int .i64 x13)])).push (.row 5 (Rd.int .u8) x14)) ?_ ?_
 · refine WP.loop (β:=Int × (List Int)) (fun n b=>g_quireref03_stream_symbols_l0 k x1 x2 x3 x4 x5 x6 n b.1 b.2=some (x12,x13,x14)) (fun b=>(((Env.none.upd 0 (.ptr 0 0)).upd 4 (.ptr 3 0)).upd 5 (.ptr 4 0))) (fun b=>(((((Mem.nil.push (.cells 151 [.ptr 1 0,.whole 2,.lit (.int .i64 x5)])).push (.cells 149 [.ro (Rd.slice (Rd.int .u8)) false x6,.lit (.int .i64 b.1)])).push (.row 5 (Rd.int .u8) b.2)).push (.cells 209 [.ro (Rd.slice (Rd.int .i64)) false x1,.ro (Rd.slice (Rd.int .u32)) false x2])).push (.cells 209 [.ro (Rd.slice (Rd.int .i64)) false x3,.ro (Rd.slice (Rd.int .u32)) false x4]))) k (x7,x8) H1 rfl rfl ?_;rintro n ⟨x15,x16⟩ H;obtain _ | n:=n
   · exact nf rfl H
   rw [g_quireref03_stream_symbols_l0.eq_2] at H;show WP _ _ _ _ (((Env.none.upd 0 (.ptr 0 0)).upd 4 (.ptr 3 0)).upd 5 (.ptr 4 0)) (((((Mem.nil.push (.cells 151 [.ptr 1 0,.whole 2,.lit (.int .i64 x5)])).push (.cells 149 [.ro (Rd.slice (Rd.int .u8)) false x6,.lit (.int .i64 x15)])).push (.row 5 (Rd.int .u8) x16)).push (.cells 209 [.ro (Rd.slice (Rd.int .i64)) false x1,.ro (Rd.slice (Rd.int .u32)) false x2])).push (.cells 209 [.ro (Rd.slice (Rd.int .i64)) false x3,.ro (Rd.slice (Rd.int .u32)) false x4])) _;refine sp ?_;refine WP.seq ?_;refine WP.regionD' 14 [0,3] [] mixed rfl ?_;refine dT 0 ?_;refine dT 2 ?_;refine dT 4 ?_;refine dT 5 ?_;refine dT 6 ?_;refine dK 1 ?_;refine dK 3 ?_;refine dK 7 ?_;obtain ⟨⟨x17,x18,x19⟩,h1,H⟩:=bnd H;refine dE 8 [0,3] [] rfl (rc [1] [1] 5 [] (s_quireref02_Next k x1 x2 x6 x15 x17 x18 x19 h1) (hargs:=.ren rfl rfl (.ren rfl rfl (.ren rfl rfl .nil)))) ?_;refine dT 9 ?_;refine dT 10 ?_;refine dT 11 ?_;refine dT 12 ?_;refine dT 13 ?_;refine WPD.doneW (by kernel_rfl) ?_;(iterate 2 refine sp ?_);refine WP.seq ?_;(iterate 4 refine sp ?_);refine cq H (fun hb1 H=>?_) fun hb1 H=>?_
   · (iterate 5 refine sp ?_);obtain ⟨rfl,rfl,rfl⟩:=j3 H;exact wq [0,1,2] (Then.r (InBlock.r (Then.r r3)))
   (iterate 3 refine sp ?_);refine WP.seq ?_;(iterate 4 refine sp ?_);refine cq H (fun hb2 H=>?_) fun hb2 H=>?_
   · (iterate 4 refine sp ?_);obtain ⟨rfl,rfl,rfl⟩:=j3 H;exact wq [0,1,2] (Then.r (InBlock.r (Then.r r3)))
   (iterate 3 refine sp ?_);refine WP.seq ?_;obtain ⟨⟨x20,x21,x22⟩,H2,H⟩:=bnd H;refine mo .normal ((((Env.none.upd 0 (.ptr 0 0)).upd 4 (.ptr 3 0)).upd 5 (.ptr 4 0)).upd 8 (.lit (.int .i64 x20))) (((((Mem.nil.push (.cells 151 [.ptr 1 0,.whole 2,.lit (.int .i64 x5)])).push (.cells 149 [.ro (Rd.slice (Rd.int .u8)) false x6,.lit (.int .i64 x21)])).push (.row 5 (Rd.int .u8) x22)).push (.cells 209 [.ro (Rd.slice (Rd.int .i64)) false x1,.ro (Rd.slice (Rd.int .u32)) false x2])).push (.cells 209 [.ro (Rd.slice (Rd.int .i64)) false x3,.ro (Rd.slice (Rd.int .u32)) false x4])) ?_ ?_
   · clear H;have H:=H2;clear H2;(iterate 4 refine sp ?_);refine cq H (fun hb3 H=>?_) fun hb3 H=>?_
     · (iterate 4 refine sp ?_);obtain ⟨⟨x23,x24⟩,h2,H⟩:=bnd H;refine WPL.c (rc [0,1,2] [0,1,5] 6 [] (s_quireref03_stream_put k (IntKind.wrap .u8 x17) x5 x6 x19 x16 x23 x24 h2)) rfl ?_;refine sp ?_;refine WPL.nilW ?_;obtain ⟨rfl,rfl,rfl⟩:=j3 H;exact wq [0,1,5,3,4]
     (iterate 4 refine sp ?_);obtain ⟨⟨x25,x26,x27⟩,h3,H⟩:=bnd H;refine WPL.c (rc [0,1,2] [0,1,5] 6 [] (s_quireref03_stream_copied k x17 x3 x4 x5 x6 x19 x16 x25 x26 x27 h3) (hargs:=.ren rfl rfl (.ren rfl rfl (.ren rfl rfl .nil)))) rfl ?_;refine sp ?_;refine WPL.nilW ?_;obtain ⟨rfl,rfl,rfl⟩:=j3 H;exact wq [0,1,5,3,4]
   (iterate 6 refine sp ?_);refine cq H (fun hb4 H=>?_) fun hb4 H=>?_
   · (iterate 5 refine sp ?_);obtain ⟨rfl,rfl,rfl⟩:=j3 H;exact wq [0,1,2] (InBlock.r (Then.r r3))
   refine sp ?_;exact wq [0,1,2,3,4] (InBlock.n (Then.n ⟨n,(x21,x22),Nat.lt_succ_self n,H,rfl,rfl⟩))
 obtain ⟨rfl,rfl,rfl⟩:=j3 H;exact W.now (InBlock.r (mb [0,1,2]))
theorem s_quireref03_Order (k:Nat) (H:g_quireref03_Order k=some ()):Go.Q.Spec Tryz.prog 153 0 [] Mem.nil (fun o M=>o=.ret (.ro (Rd.slice (Rd.int .i64)) false ([16,17,18,0,8,7,9,6,10,5,11,4,12,3,13,2,14,1,15]:List Int))∧M=Mem.nil):=by
 unfold g_quireref03_Order at H;refine bo Tryz.func153 [] [.tmp 0] 2 fun cx hnp=>?_;(iterate 4 refine sp ?_);refine WPL.d (d_buildSlice (ds:=([16,17,18,0,8,7,9,6,10,5,11,4,12,3,13,2,14,1,15]:List Int)) (R:=(Rd.int .i64)) li61 rfl rfl rfl rfl rfl (JoinRows.cons1 Joins.sc rfl (JoinRows.cons1 Joins.sc rfl (JoinRows.cons1 Joins.sc rfl (JoinRows.cons1 Joins.sc rfl (JoinRows.cons1 Joins.sc rfl (JoinRows.cons1 Joins.sc rfl (JoinRows.cons1 Joins.sc rfl (JoinRows.cons1 Joins.sc rfl (JoinRows.cons1 Joins.sc rfl (JoinRows.cons1 Joins.sc rfl (JoinRows.cons1 Joins.sc rfl (JoinRows.cons1 Joins.sc rfl (JoinRows.cons1 Joins.sc rfl (JoinRows.cons1 Joins.sc rfl (JoinRows.cons1 Joins.sc rfl (JoinRows.cons1 Joins.sc rfl (JoinRows.cons1 Joins.sc rfl (JoinRows.cons1 Joins.sc rfl (JoinRows.cons1 Joins.sc rfl JoinRows.nil))))))))))))))))))) rfl rfl) rfl ?_;(iterate 3 refine sp ?_);refine W.cv (Cv.frzRow (i:=0) rfl rfl hnp rfl rfl) rfl ?_;exact W.now (mb [])
theorem s_quireref02_space__b (k:Nat) (x1:(List Int)) (x2:Int) (x3:Int) (H:g_quireref02_space k x1=some (x2,x3)):Go.Q.Spec Tryz.prog 170 0 [.ro (Rd.slice (Rd.int .i64)) true x1] Mem.nil (fun o M=>o=.ret (.tup [.lit (.int .i64 x2),.lit (.int .i64 x3)])∧M=Mem.nil):=by
 unfold g_quireref02_space at H;refine bo Tryz.func170 [] [.tmp 2,.tmp 3] 31 fun cx hnp=>?_;(iterate 8 refine sp ?_);refine WP.seq ?_;(iterate 4 refine sp ?_);refine WP.cv (Cv.weak (E':=((((Env.none.upd 0 (.ro (Rd.slice (Rd.int .i64)) true x1)).upd 4 (.lit (.int .i64 0))).upd 5 (.lit (.int .i64 0))).upd 6 (.lit (.int .i64 0)))) (M':=Mem.nil) [] hnp ⟨rfl,trivial,by decide,rfl,trivial⟩ (LeE.u (LeE.u (LeE.u (LeE.u (LeE.none rfl rfl)))))) ?_;obtain ⟨⟨x4,x5⟩,H1,H⟩:=bnd H;refine mo (.exit 0) ((Env.none.upd 4 (.lit (.int .i64 x4))).upd 5 (.lit (.int .i64 x5))) Mem.nil ?_ ?_
 · refine WP.loop (β:=Int × Int × Int) (fun n b=>g_quireref02_space_l0 k x1 n b.1 b.2.1 b.2.2=some (x4,x5)) (fun b=>((((Env.none.upd 0 (.ro (Rd.slice (Rd.int .i64)) true x1)).upd 4 (.lit (.int .i64 b.1))).upd 5 (.lit (.int .i64 b.2.1))).upd 6 (.lit (.int .i64 b.2.2)))) (fun b=>Mem.nil) k (0,0,0) H1 rfl rfl ?_;rintro n ⟨x6,x7,x8⟩ H;obtain _ | n:=n
   · exact nf rfl H
   rw [g_quireref02_space_l0.eq_2] at H;show WP _ _ _ _ ((((Env.none.upd 0 (.ro (Rd.slice (Rd.int .i64)) true x1)).upd 4 (.lit (.int .i64 x6))).upd 5 (.lit (.int .i64 x7))).upd 6 (.lit (.int .i64 x8))) Mem.nil _;refine WP.seq ?_;(iterate 4 refine sp ?_);obtain ⟨x9,h1,H⟩:=bnd H;refine sn (nm_bool h1) ?_;refine sp ?_;refine cq H (fun hb1 H=>?_) fun hb1 H=>?_
   · (iterate 3 refine sp ?_);refine WP.seq ?_;obtain ⟨⟨x10,x11⟩,H2,H⟩:=bnd H;refine mo .normal ((((Env.none.upd 0 (.ro (Rd.slice (Rd.int .i64)) true x1)).upd 4 (.lit (.int .i64 x10))).upd 5 (.lit (.int .i64 x11))).upd 6 (.lit (.int .i64 x8))) Mem.nil ?_ ?_
     · clear H;have H:=H2;clear H2;(iterate 4 refine sp ?_);obtain ⟨x12,h2,H⟩:=bnd H;(iterate 4 refine sp ?_);refine cq H (fun hb2 H=>?_) fun hb2 H=>?_
       · (iterate 4 refine sp ?_);obtain ⟨x13,h3,H⟩:=bnd H;(iterate 3 refine sp ?_);obtain ⟨x14,h4,H⟩:=bnd H;refine sn (nm_int h4) ?_;obtain ⟨h4,H⟩:=grd H;refine WPL.qq (q_shl rfl rfl h4) ?_;obtain ⟨x15,h5,H⟩:=bnd H;refine sn (nm_int h5) ?_;(iterate 6 refine sp ?_);refine WPL.nilW ?_;obtain ⟨rfl,rfl⟩:=j2 H;exact wq [] (InBlock.n r3)
       refine sp ?_;obtain ⟨rfl,rfl⟩:=j2 H;exact wq [] (InBlock.n r3)
     (iterate 6 refine sp ?_);refine WPL.nilW ?_;exact wq [] (Then.n ⟨n,(x10,x11,(IntKind.wrap .i64 (x8+1))),Nat.lt_succ_self n,H,rfl,rfl⟩)
   refine sp ?_;obtain ⟨rfl,rfl⟩:=j2 H;exact wq [] (Then.x (Then.x r3))
 (iterate 10 refine sp ?_);obtain ⟨rfl,rfl⟩:=j2 H;exact W.now (mb [])
theorem s_quireref02_Right__b (k:Nat) (x1:(List Int)) (x2:Int) (H:g_quireref02_Right k x1=some x2):Go.Q.Spec Tryz.prog 167 0 [.ro (Rd.slice (Rd.int .i64)) true x1] Mem.nil (fun o M=>o=.ret (.lit (.int .i64 x2))∧M=Mem.nil):=by
 unfold g_quireref02_Right at H;refine bo Tryz.func167 [] [.tmp 2] 46 fun cx hnp=>?_;(iterate 3 refine sp ?_);refine WP.seq ?_;(iterate 3 refine sp ?_);obtain ⟨x3,h1,H⟩:=bnd H;refine sn (nm_bool h1) ?_;refine sp ?_;refine cq H (fun hb1 H=>?_) fun hb1 H=>?_
 · (iterate 4 refine sp ?_);have q0:=j1 H;subst q0;exact W.now (Then.r (mb []))
 (iterate 3 refine sp ?_);refine WP.seq ?_;(iterate 4 refine sp ?_);refine WP.cv (Cv.weak (E':=((Env.none.upd 0 (.ro (Rd.slice (Rd.int .i64)) true x1)).upd 3 (.lit (.int .i64 0)))) (M':=Mem.nil) [] hnp ⟨rfl,trivial,by decide,rfl,trivial⟩ (LeE.u (LeE.u (LeE.none rfl rfl)))) ?_;obtain ⟨y1,H1,H⟩:=bnd H;refine WP.monoW (Q:=fun x E M=>match (generalizing:=false) y1 with | (Sum.inl _)=>x=.ret∧E=(Env.none.upd 2 (.lit (.int .i64 1)))∧M=Mem.nil | (Sum.inr _)=>x=.exit 0∧E=(Env.none.upd 0 (.ro (Rd.slice (Rd.int .i64)) true x1))∧M=Mem.nil) ?_ ?_
 · refine WP.loop (β:=Int) (fun n b=>g_quireref02_Right_l0 k x1 n b=some y1) (fun b=>((Env.none.upd 0 (.ro (Rd.slice (Rd.int .i64)) true x1)).upd 3 (.lit (.int .i64 b)))) (fun b=>Mem.nil) k 0 H1 rfl rfl ?_;rintro n x4 H;obtain _ | n:=n
   · exact nf rfl H
   rw [g_quireref02_Right_l0.eq_2] at H;show WP _ _ _ _ ((Env.none.upd 0 (.ro (Rd.slice (Rd.int .i64)) true x1)).upd 3 (.lit (.int .i64 x4))) Mem.nil _;refine WP.seq ?_;(iterate 4 refine sp ?_);obtain ⟨x5,h2,H⟩:=bnd H;refine sn (nm_bool h2) ?_;refine sp ?_;refine cq H (fun hb2 H=>?_) fun hb2 H=>?_
   · (iterate 3 refine sp ?_);refine WP.seq ?_;refine sp ?_;refine WP.seq ?_;obtain ⟨x6,H2,H⟩:=bnd H;refine mo .normal (((Env.none.upd 0 (.ro (Rd.slice (Rd.int .i64)) true x1)).upd 3 (.lit (.int .i64 x4))).upd 26 (.lit (.bool x6))) Mem.nil ?_ ?_
     · clear H;have H:=H2;clear H2;(iterate 3 refine sp ?_);obtain ⟨x7,h3,H⟩:=bnd H;(iterate 4 refine sp ?_);refine ws 20 H (fun hb3 H=>?_) fun hb3 H=>?_
       · (iterate 6 refine sp ?_);refine WPL.nilW ?_;have q0:=j1 H;subst q0;exact wq []
       (iterate 2 refine sp ?_);obtain ⟨x8,h4,H⟩:=bnd H;(iterate 4 refine sp ?_);refine WPL.nilW ?_;have q0:=j1 H;subst q0;exact wq []
     (iterate 2 refine sp ?_);refine cq H (fun hb4 H=>?_) fun hb4 H=>?_
     · (iterate 4 refine sp ?_);have q0:=j1 H;subst q0;exact wq [] (InBlock.r (Then.r (Then.r r3)))
     (iterate 2 refine sp ?_);refine InBlock.n ?_;(iterate 5 refine sp ?_);refine WPL.nilW ?_;exact wq [] (Then.n ⟨n,(IntKind.wrap .i64 (x4+1)),Nat.lt_succ_self n,H,rfl,rfl⟩)
   refine sp ?_;have q0:=j1 H;subst q0;exact wq [] (Then.x (Then.x r3))
 rcases y1 with _ | _
 · rintro _ _ _ ⟨rfl,rfl,rfl⟩;have q0:=j1 H;subst q0;exact W.now (InBlock.r (Then.r (mb [])))
 rintro _ _ _ ⟨rfl,rfl,rfl⟩;(iterate 5 refine sp ?_);obtain ⟨⟨x9,x10⟩,h5,H⟩:=bnd H;refine WPL.c (rc [] [] 0 [] (s_quireref02_space__b k x1 x9 x10 h5)) rfl ?_;(iterate 6 refine sp ?_);refine WP.seq ?_;refine WP.seq ?_;obtain ⟨x11,H3,H⟩:=bnd H;refine mo .normal (Env.none.upd 45 (.lit (.bool x11))) Mem.nil ?_ ?_
 · clear H;have H:=H3;clear H3;(iterate 4 refine sp ?_);refine ws 34 H (fun hb5 H=>?_) fun hb5 H=>?_
   · (iterate 11 refine sp ?_);refine WPL.nilW ?_;have q0:=j1 H;subst q0;exact wq []
   (iterate 4 refine sp ?_);refine ws 38 H (fun hb6 H=>?_) fun hb6 H=>?_
   · (iterate 7 refine sp ?_);refine WPL.nilW ?_;have q0:=j1 H;subst q0;exact wq []
   (iterate 3 refine sp ?_);refine ws 41 H (fun hb7 H=>?_) fun hb7 H=>?_
   · (iterate 4 refine sp ?_);refine WPL.nilW ?_;have q0:=j1 H;subst q0;exact wq []
   (iterate 4 refine sp ?_);refine WPL.nilW ?_;have q0:=j1 H;subst q0;exact wq []
 (iterate 2 refine sp ?_);refine cq H (fun hb8 H=>?_) fun hb8 H=>?_
 · (iterate 4 refine sp ?_);have q0:=j1 H;subst q0;exact W.now (Then.r (mb []))
 (iterate 7 refine sp ?_);have q0:=j1 H;subst q0;exact W.now (mb [])
theorem s_quireref02_Full (k:Nat) (x1:(List Int)) (x2:Bool) (H:g_quireref02_Full k x1=some x2):Go.Q.Spec Tryz.prog 154 0 [.ro (Rd.slice (Rd.int .i64)) true x1] Mem.nil (fun o M=>o=.ret (.lit (.bool x2))∧M=Mem.nil):=by
 unfold g_quireref02_Full at H;refine bo Tryz.func154 [] [.tmp 2] 15 fun cx hnp=>?_;(iterate 3 refine sp ?_);refine WP.seq ?_;(iterate 2 refine sp ?_);obtain ⟨x3,h1,H⟩:=bnd H;refine WPL.c (rc [] [] 0 [] (s_quireref02_Right__b k x1 x3 h1)) rfl ?_;(iterate 2 refine sp ?_);refine cq H (fun hb1 H=>?_) fun hb1 H=>?_
 · (iterate 4 refine sp ?_);have q0:=j1 H;subst q0;exact W.now (Then.r (mb []))
 (iterate 5 refine sp ?_);obtain ⟨⟨x4,x5⟩,h2,H⟩:=bnd H;refine WPL.c (rc [] [] 0 [] (s_quireref02_space__b k x1 x4 x5 h2)) rfl ?_;(iterate 12 refine sp ?_);have q0:=j1 H;subst q0;exact W.now (mb [])
theorem s_quireref03_stream_row (k:Nat) (x1:(List Int)) (x2:(List Int)) (x3:Int) (x4:Int) (x5:(List Int)) (x6:Int) (x7:(List Int)) (x8:(List Int)) (x9:Int) (x10:Int) (H:g_quireref03_stream_row k x1 x2 x3 x4 x5 x6 x7=some (x8,x9,x10)):Go.Q.Spec Tryz.prog 155 2 [.ptr 0 0,.agg [.ro (Rd.slice (Rd.int .i64)) false x1,.ro (Rd.slice (Rd.int .u32)) false x2],.lit (.int .i64 x3)] (((Mem.nil.push (.cells 151 [.ptr 1 0,.whole 2,.lit (.int .i64 x4)])).push (.cells 149 [.ro (Rd.slice (Rd.int .u8)) false x5,.lit (.int .i64 x6)])).push (.row 5 (Rd.int .u8) x7)) (fun o M=>o=.ret (.tup [.ro (Rd.slice (Rd.int .i64)) false x8,.lit (.int .i64 x9)])∧M=(((Mem.nil.push (.cells 151 [.ptr 1 0,.whole 2,.lit (.int .i64 x4)])).push (.cells 149 [.ro (Rd.slice (Rd.int .u8)) false x5,.lit (.int .i64 x10)])).push (.row 5 (Rd.int .u8) x7))):=by
 unfold g_quireref03_stream_row at H;refine bo Tryz.func155 [] [.tmp 6,.tmp 7] 93 fun cx hnp=>?_;(iterate 8 refine sp ?_);refine WP.seq ?_;refine sp ?_;refine WP.cv (Cv.vir 3 (Rd.int .i64) (N:=4) rfl 8 rfl) ?_;refine WP.cv (Cv.weak (E':=((((Env.none.upd 0 (.ptr 0 0)).upd 2 (.lit (.int .i64 x3))).upd 4 (.ptr 3 0)).upd 8 (.whole 4))) (M':=(((((Mem.nil.push (.cells 151 [.ptr 1 0,.whole 2,.lit (.int .i64 x4)])).push (.cells 149 [.ro (Rd.slice (Rd.int .u8)) false x5,.lit (.int .i64 x6)])).push (.row 5 (Rd.int .u8) x7)).push (.cells 209 [.ro (Rd.slice (Rd.int .i64)) false x1,.ro (Rd.slice (Rd.int .u32)) false x2])).push (.row 3 (Rd.int .i64) ([]:List Int)))) [0,1,2,3,4] hnp ⟨rfl,AA5,by decide,rfl,BB2⟩ (LeE.u (LeE.u (LeE.u (LeE.u (LeE.none rfl rfl)))))) ?_;obtain ⟨y1,H1,H⟩:=bnd H;refine WP.monoW (Q:=fun x E M=>match (generalizing:=false) y1 with | (Sum.inl (x11,x12))=>x=.ret∧E=((Env.none.upd 6 (.lit (.slice none 0 0))).upd 7 (.lit (.int .i64 x11)))∧M=(((Mem.nil.push (.cells 151 [.ptr 1 0,.whole 2,.lit (.int .i64 x4)])).push (.cells 149 [.ro (Rd.slice (Rd.int .u8)) false x5,.lit (.int .i64 x12)])).push (.row 5 (Rd.int .u8) x7)) | (Sum.inr (x13,x14))=>x=.exit 0∧E=(Env.none.upd 8 (.whole 3))∧M=((((Mem.nil.push (.cells 151 [.ptr 1 0,.whole 2,.lit (.int .i64 x4)])).push (.cells 149 [.ro (Rd.slice (Rd.int .u8)) false x5,.lit (.int .i64 x13)])).push (.row 5 (Rd.int .u8) x7)).push (.row 3 (Rd.int .i64) x14))) ?_ ?_
 · refine WP.loop (β:=Int × (List Int)) (fun n b=>g_quireref03_stream_row_l0 k x1 x2 x3 x5 n b.1 b.2=some y1) (fun b=>((((Env.none.upd 0 (.ptr 0 0)).upd 2 (.lit (.int .i64 x3))).upd 4 (.ptr 3 0)).upd 8 (.whole 4))) (fun b=>(((((Mem.nil.push (.cells 151 [.ptr 1 0,.whole 2,.lit (.int .i64 x4)])).push (.cells 149 [.ro (Rd.slice (Rd.int .u8)) false x5,.lit (.int .i64 b.1)])).push (.row 5 (Rd.int .u8) x7)).push (.cells 209 [.ro (Rd.slice (Rd.int .i64)) false x1,.ro (Rd.slice (Rd.int .u32)) false x2])).push (.row 3 (Rd.int .i64) b.2))) k (x6,([]:List Int)) H1 rfl rfl ?_;rintro n ⟨x15,x16⟩ H;obtain _ | n:=n
   · exact nf rfl H
   rw [g_quireref03_stream_row_l0.eq_2] at H;show WP _ _ _ _ ((((Env.none.upd 0 (.ptr 0 0)).upd 2 (.lit (.int .i64 x3))).upd 4 (.ptr 3 0)).upd 8 (.whole 4)) (((((Mem.nil.push (.cells 151 [.ptr 1 0,.whole 2,.lit (.int .i64 x4)])).push (.cells 149 [.ro (Rd.slice (Rd.int .u8)) false x5,.lit (.int .i64 x15)])).push (.row 5 (Rd.int .u8) x7)).push (.cells 209 [.ro (Rd.slice (Rd.int .i64)) false x1,.ro (Rd.slice (Rd.int .u32)) false x2])).push (.row 3 (Rd.int .i64) x16)) _;refine WP.seq ?_;(iterate 4 refine sp ?_);obtain ⟨x17,h1,H⟩:=bnd H;refine sn (nm_bool h1) ?_;refine sp ?_;refine cq H (fun hb1 H=>?_) fun hb1 H=>?_
   · (iterate 4 refine sp ?_);refine WP.seq ?_;refine WP.regionD' 14 [0,3] [] mixed rfl ?_;refine dT 0 ?_;refine dT 2 ?_;refine dT 4 ?_;refine dT 5 ?_;refine dT 6 ?_;refine dK 1 ?_;refine dK 3 ?_;refine dK 7 ?_;obtain ⟨⟨x18,x19,x20⟩,h2,H⟩:=bnd H;refine dE 8 [0,3] [] rfl (rc [1] [1] 5 [] (s_quireref02_Next k x1 x2 x5 x15 x18 x19 x20 h2) (hargs:=.ren rfl rfl (.ren rfl rfl (.ren rfl rfl .nil)))) ?_;refine dT 9 ?_;refine dT 10 ?_;refine dT 11 ?_;refine dT 12 ?_;refine dT 13 ?_;refine WPD.doneW (by kernel_rfl) ?_;(iterate 2 refine sp ?_);refine WP.seq ?_;(iterate 4 refine sp ?_);refine cq H (fun hb2 H=>?_) fun hb2 H=>?_
     · (iterate 6 refine sp ?_);have q0:=j1 H;subst q0;exact wq [0,1,2] (Then.r (InBlock.r (Then.r r3)))
     (iterate 3 refine sp ?_);refine WP.seq ?_;(iterate 4 refine sp ?_);refine cq H (fun hb3 H=>?_) fun hb3 H=>?_
     · (iterate 3 refine sp ?_);refine WPL.d (d_buildSlice (ds:=([x18]:List Int)) (R:=(Rd.int .i64)) li61 rfl rfl rfl rfl rfl (JoinRows.cons1 Joins.sc rfl JoinRows.nil) rfl rfl) rfl ?_;obtain ⟨h3,H⟩:=grd H;refine WPL.d (d_append ap61 rfl rfl rfl rfl (src_row sl61 rfl rfl) h3 rfl) rfl ?_;(iterate 3 refine sp ?_);exact wq [0,1,2,3,6] (Then.x (InBlock.x0 (Then.n ⟨n,(x20,(x16++([x18]:List Int))),Nat.lt_succ_self n,H,rfl,rfl⟩)))
     (iterate 8 refine sp ?_);refine WP.seq ?_;refine WP.seq ?_;obtain ⟨x21,H2,H⟩:=bnd H;refine mo .normal (((((((((Env.none.upd 0 (.ptr 0 0)).upd 2 (.lit (.int .i64 x3))).upd 4 (.ptr 3 0)).upd 8 (.whole 4)).upd 9 (.lit (.int .i64 x18))).upd 11 (.lit (.int .i64 2))).upd 12 (.lit (.int .i64 3))).upd 13 (.lit (.int .i64 0))).upd 48 (.lit (.bool x21))) (((((Mem.nil.push (.cells 151 [.ptr 1 0,.whole 2,.lit (.int .i64 x4)])).push (.cells 149 [.ro (Rd.slice (Rd.int .u8)) false x5,.lit (.int .i64 x20)])).push (.row 5 (Rd.int .u8) x7)).push (.cells 209 [.ro (Rd.slice (Rd.int .i64)) false x1,.ro (Rd.slice (Rd.int .u32)) false x2])).push (.row 3 (Rd.int .i64) x16)) ?_ ?_
     · clear H;have H:=H2;clear H2;(iterate 4 refine sp ?_);refine ws 44 H (fun hb4 H=>?_) fun hb4 H=>?_
       · (iterate 2 refine sp ?_);obtain ⟨x22,h4,H⟩:=bnd H;refine sn (nm_bool h4) ?_;refine sp ?_;refine WPL.nilW ?_;have q0:=j1 H;subst q0;exact wq [0,1,2,3,4]
       (iterate 4 refine sp ?_);refine WPL.nilW ?_;have q0:=j1 H;subst q0;exact wq [0,1,2,3,4]
     (iterate 2 refine sp ?_);refine cq H (fun hb5 H=>?_) fun hb5 H=>?_
     · (iterate 5 refine sp ?_);have q0:=j1 H;subst q0;exact wq [0,1,2] (Then.r (InBlock.r (Then.r r3)))
     (iterate 3 refine sp ?_);refine WP.seq ?_;obtain ⟨x23,H3,H⟩:=bnd H;refine mo .normal ((((((((Env.none.upd 0 (.ptr 0 0)).upd 2 (.lit (.int .i64 x3))).upd 4 (.ptr 3 0)).upd 8 (.whole 4)).upd 9 (.lit (.int .i64 x18))).upd 11 (.lit (.int .i64 2))).upd 12 (.lit (.int .i64 3))).upd 13 (.lit (.int .i64 x23))) (((((Mem.nil.push (.cells 151 [.ptr 1 0,.whole 2,.lit (.int .i64 x4)])).push (.cells 149 [.ro (Rd.slice (Rd.int .u8)) false x5,.lit (.int .i64 x20)])).push (.row 5 (Rd.int .u8) x7)).push (.cells 209 [.ro (Rd.slice (Rd.int .i64)) false x1,.ro (Rd.slice (Rd.int .u32)) false x2])).push (.row 3 (Rd.int .i64) x16)) ?_ ?_
     · clear H;have H:=H3;clear H3;(iterate 4 refine sp ?_);refine cq H (fun hb6 H=>?_) fun hb6 H=>?_
       · (iterate 4 refine sp ?_);obtain ⟨x24,h5,H⟩:=bnd H;refine sn (nm_int h5) ?_;obtain ⟨x25,h6,H⟩:=bnd H;refine WPL.qq (q_index_row sl61 rfl rfl rfl (ixs h6)) ?_;refine WPL.qq (q_load_row (j:=(Int.toNat x24)) sc3 rfl rfl (ixj h6)) ?_;refine sp ?_;refine WPL.nilW ?_;have q0:=j1 H;subst q0;exact wq [0,1,2,3,4]
       refine sp ?_;have q0:=j1 H;subst q0;exact wq [0,1,2,3,4]
     (iterate 2 refine sp ?_);refine WP.seq ?_;obtain ⟨x26,H4,H⟩:=bnd H;refine mo .normal ((((((((Env.none.upd 0 (.ptr 0 0)).upd 2 (.lit (.int .i64 x3))).upd 4 (.ptr 3 0)).upd 8 (.whole 4)).upd 9 (.lit (.int .i64 x18))).upd 11 (.lit (.int .i64 x26))).upd 12 (.lit (.int .i64 3))).upd 13 (.lit (.int .i64 x23))) (((((Mem.nil.push (.cells 151 [.ptr 1 0,.whole 2,.lit (.int .i64 x4)])).push (.cells 149 [.ro (Rd.slice (Rd.int .u8)) false x5,.lit (.int .i64 x20)])).push (.row 5 (Rd.int .u8) x7)).push (.cells 209 [.ro (Rd.slice (Rd.int .i64)) false x1,.ro (Rd.slice (Rd.int .u32)) false x2])).push (.row 3 (Rd.int .i64) x16)) ?_ ?_
     · clear H;have H:=H4;clear H4;(iterate 4 refine sp ?_);refine cq H (fun hb7 H=>?_) fun hb7 H=>?_
       · (iterate 2 refine sp ?_);refine WPL.nilW ?_;have q0:=j1 H;subst q0;exact wq [0,1,2,3,4]
       refine sp ?_;have q0:=j1 H;subst q0;exact wq [0,1,2,3,4]
     (iterate 2 refine sp ?_);refine WP.seq ?_;obtain ⟨⟨x27,x28⟩,H5,H⟩:=bnd H;refine mo .normal (((((((Env.none.upd 0 (.ptr 0 0)).upd 2 (.lit (.int .i64 x3))).upd 4 (.ptr 3 0)).upd 8 (.whole 4)).upd 11 (.lit (.int .i64 x27))).upd 12 (.lit (.int .i64 x28))).upd 13 (.lit (.int .i64 x23))) (((((Mem.nil.push (.cells 151 [.ptr 1 0,.whole 2,.lit (.int .i64 x4)])).push (.cells 149 [.ro (Rd.slice (Rd.int .u8)) false x5,.lit (.int .i64 x20)])).push (.row 5 (Rd.int .u8) x7)).push (.cells 209 [.ro (Rd.slice (Rd.int .i64)) false x1,.ro (Rd.slice (Rd.int .u32)) false x2])).push (.row 3 (Rd.int .i64) x16)) ?_ ?_
     · clear H;have H:=H5;clear H5;(iterate 4 refine sp ?_);refine cq H (fun hb8 H=>?_) fun hb8 H=>?_
       · (iterate 5 refine sp ?_);refine WPL.nilW ?_;obtain ⟨rfl,rfl⟩:=j2 H;exact wq [0,1,2,3,4]
       refine sp ?_;obtain ⟨rfl,rfl⟩:=j2 H;exact wq [0,1,2,3,4]
     (iterate 8 refine sp ?_);obtain ⟨⟨x29,x30,x31⟩,h7,H⟩:=bnd H;refine WPL.c (rc [1] [1] 5 [] (s_quireref01_Reader_Take k x27 x5 x20 x29 x30 x31 h7)) rfl ?_;(iterate 6 refine sp ?_);refine WP.seq ?_;(iterate 4 refine sp ?_);refine cq H (fun hb9 H=>?_) fun hb9 H=>?_
     · (iterate 6 refine sp ?_);have q0:=j1 H;subst q0;exact wq [0,1,2] (Then.r (InBlock.r (Then.r r3)))
     (iterate 7 refine sp ?_);obtain ⟨x32,h8,H⟩:=bnd H;refine sn (nm_int h8) ?_;(iterate 2 refine sp ?_);refine WP.seq ?_;(iterate 5 refine sp ?_);obtain ⟨x33,h9,H⟩:=bnd H;refine sn (nm_int h9) ?_;(iterate 2 refine sp ?_);refine cq H (fun hb10 H=>?_) fun hb10 H=>?_
     · (iterate 5 refine sp ?_);have q0:=j1 H;subst q0;exact wq [0,1,2] (Then.r (InBlock.r (Then.r r3)))
     (iterate 7 refine sp ?_);refine WP.cv (Cv.weak (E':=(((((((Env.none.upd 0 (.ptr 0 0)).upd 2 (.lit (.int .i64 x3))).upd 4 (.ptr 3 0)).upd 8 (.whole 4)).upd 13 (.lit (.int .i64 x23))).upd 15 (.lit (.int .i64 x32))).upd 16 (.lit (.int .i64 0)))) (M':=(((((Mem.nil.push (.cells 151 [.ptr 1 0,.whole 2,.lit (.int .i64 x4)])).push (.cells 149 [.ro (Rd.slice (Rd.int .u8)) false x5,.lit (.int .i64 x31)])).push (.row 5 (Rd.int .u8) x7)).push (.cells 209 [.ro (Rd.slice (Rd.int .i64)) false x1,.ro (Rd.slice (Rd.int .u32)) false x2])).push (.row 3 (Rd.int .i64) x16))) [0,1,2,3,4] hnp ⟨rfl,AA5,by decide,rfl,BB2⟩ (LeE.u (LeE.u (LeE.u (LeE.u (LeE.u (LeE.u (LeE.u (LeE.none rfl rfl))))))))) ?_;obtain ⟨x34,H6,H⟩:=bnd H;refine mo (.exit 2) ((((Env.none.upd 0 (.ptr 0 0)).upd 2 (.lit (.int .i64 x3))).upd 4 (.ptr 3 0)).upd 8 (.whole 4)) (((((Mem.nil.push (.cells 151 [.ptr 1 0,.whole 2,.lit (.int .i64 x4)])).push (.cells 149 [.ro (Rd.slice (Rd.int .u8)) false x5,.lit (.int .i64 x31)])).push (.row 5 (Rd.int .u8) x7)).push (.cells 209 [.ro (Rd.slice (Rd.int .i64)) false x1,.ro (Rd.slice (Rd.int .u32)) false x2])).push (.row 3 (Rd.int .i64) x34)) ?_ ?_
     · refine WP.loop (β:=Int × (List Int)) (fun n b=>g_quireref03_stream_row_l1 k x23 x32 n b.1 b.2=some x34) (fun b=>(((((((Env.none.upd 0 (.ptr 0 0)).upd 2 (.lit (.int .i64 x3))).upd 4 (.ptr 3 0)).upd 8 (.whole 4)).upd 13 (.lit (.int .i64 x23))).upd 15 (.lit (.int .i64 x32))).upd 16 (.lit (.int .i64 b.1)))) (fun b=>(((((Mem.nil.push (.cells 151 [.ptr 1 0,.whole 2,.lit (.int .i64 x4)])).push (.cells 149 [.ro (Rd.slice (Rd.int .u8)) false x5,.lit (.int .i64 x31)])).push (.row 5 (Rd.int .u8) x7)).push (.cells 209 [.ro (Rd.slice (Rd.int .i64)) false x1,.ro (Rd.slice (Rd.int .u32)) false x2])).push (.row 3 (Rd.int .i64) b.2))) k (0,x16) H6 rfl rfl ?_;rintro n ⟨x35,x36⟩ H;obtain _ | n:=n
       · exact nf rfl H
       rw [g_quireref03_stream_row_l1.eq_2] at H;show WP _ _ _ _ (((((((Env.none.upd 0 (.ptr 0 0)).upd 2 (.lit (.int .i64 x3))).upd 4 (.ptr 3 0)).upd 8 (.whole 4)).upd 13 (.lit (.int .i64 x23))).upd 15 (.lit (.int .i64 x32))).upd 16 (.lit (.int .i64 x35))) (((((Mem.nil.push (.cells 151 [.ptr 1 0,.whole 2,.lit (.int .i64 x4)])).push (.cells 149 [.ro (Rd.slice (Rd.int .u8)) false x5,.lit (.int .i64 x31)])).push (.row 5 (Rd.int .u8) x7)).push (.cells 209 [.ro (Rd.slice (Rd.int .i64)) false x1,.ro (Rd.slice (Rd.int .u32)) false x2])).push (.row 3 (Rd.int .i64) x36)) _;refine WP.seq ?_;(iterate 5 refine sp ?_);refine cq H (fun hb11 H=>?_) fun hb11 H=>?_
       · (iterate 3 refine sp ?_);refine WP.seq ?_;(iterate 4 refine sp ?_);refine WPL.d (d_buildSlice (ds:=([x23]:List Int)) (R:=(Rd.int .i64)) li61 rfl rfl rfl rfl rfl (JoinRows.cons1 Joins.sc rfl JoinRows.nil) rfl rfl) rfl ?_;obtain ⟨h10,H⟩:=grd H;refine WPL.d (d_append ap61 rfl rfl rfl rfl (src_row sl61 rfl rfl) h10 rfl) rfl ?_;refine sp ?_;refine WPL.nilW ?_;refine sp ?_;refine InBlock.n ?_;(iterate 5 refine sp ?_);refine WPL.nilW ?_;exact wq [0,1,2,3,6] (Then.n ⟨n,((IntKind.wrap .i64 (x35+1)),(x36++([x23]:List Int))),Nat.lt_succ_self n,H,rfl,rfl⟩)
       refine sp ?_;have q0:=j1 H;subst q0;exact wq [0,1,2,3,4] (Then.x (Then.x r3))
     exact wq [0,1,2,3,4] (InBlock.x0 (InBlock.n (Then.n ⟨n,(x31,x34),Nat.lt_succ_self n,H,rfl,rfl⟩)))
   refine sp ?_;have q0:=j1 H;subst q0;exact wq [0,1,2,4] (Then.x (Then.x r3))
 rcases y1 with ⟨x11,x12⟩ | ⟨x13,x14⟩
 · rintro _ _ _ ⟨rfl,rfl,rfl⟩;refine W.cv (Cv.nilRo (Rd.int .i64) false 6 rfl) rfl ?_;obtain ⟨rfl,rfl,rfl⟩:=j3 H;exact W.now (InBlock.r (Then.r (mb [0,1,2])))
 rintro _ _ _ ⟨rfl,rfl,rfl⟩;(iterate 9 refine sp ?_);refine W.cv (Cv.frzRow (i:=3) rfl rfl hnp rfl rfl) rfl ?_;obtain ⟨rfl,rfl,rfl⟩:=j3 H;exact W.now (mb [0,1,2])
theorem s_quireref03_stream_dynamic (k:Nat) (x1:Int) (x2:(List Int)) (x3:Int) (x4:(List Int)) (x5:Int) (x6:Int) (x7:(List Int)) (H:g_quireref03_stream_dynamic k x1 x2 x3 x4=some (x5,x6,x7)):Go.Q.Spec Tryz.prog 131 2 [.ptr 0 0] (((Mem.nil.push (.cells 151 [.ptr 1 0,.whole 2,.lit (.int .i64 x1)])).push (.cells 149 [.ro (Rd.slice (Rd.int .u8)) false x2,.lit (.int .i64 x3)])).push (.row 5 (Rd.int .u8) x4)) (fun o M=>o=.ret (.lit (.int .i64 x5))∧M=(((Mem.nil.push (.cells 151 [.ptr 1 0,.whole 2,.lit (.int .i64 x1)])).push (.cells 149 [.ro (Rd.slice (Rd.int .u8)) false x2,.lit (.int .i64 x6)])).push (.row 5 (Rd.int .u8) x7))):=by
 unfold g_quireref03_stream_dynamic at H;refine bo Tryz.func131 [] [.tmp 2] 140 fun cx hnp=>?_;(iterate 8 refine sp ?_);obtain ⟨⟨x8,x9,x10⟩,h1,H⟩:=bnd H;refine WPL.c (rc [1] [1] 3 [] (s_quireref01_Reader_Take k 5 x2 x3 x8 x9 x10 h1)) rfl ?_;(iterate 6 refine sp ?_);refine WP.seq ?_;(iterate 4 refine sp ?_);refine cq H (fun hb1 H=>?_) fun hb1 H=>?_
 · (iterate 5 refine sp ?_);obtain ⟨rfl,rfl,rfl⟩:=j3 H;exact W.now (Then.r (mb [0,1,2]))
 (iterate 8 refine sp ?_);obtain ⟨⟨x11,x12,x13⟩,h2,H⟩:=bnd H;refine WPL.c (rc [1] [1] 3 [] (s_quireref01_Reader_Take k 5 x2 x10 x11 x12 x13 h2)) rfl ?_;(iterate 6 refine sp ?_);refine WP.seq ?_;(iterate 4 refine sp ?_);refine cq H (fun hb2 H=>?_) fun hb2 H=>?_
 · (iterate 5 refine sp ?_);obtain ⟨rfl,rfl,rfl⟩:=j3 H;exact W.now (Then.r (mb [0,1,2]))
 (iterate 8 refine sp ?_);obtain ⟨⟨x14,x15,x16⟩,h3,H⟩:=bnd H;refine WPL.c (rc [1] [1] 3 [] (s_quireref01_Reader_Take k 4 x2 x13 x14 x15 x16 h3)) rfl ?_;(iterate 6 refine sp ?_);refine WP.seq ?_;(iterate 4 refine sp ?_);refine cq H (fun hb3 H=>?_) fun hb3 H=>?_
 · (iterate 5 refine sp ?_);obtain ⟨rfl,rfl,rfl⟩:=j3 H;exact W.now (Then.r (mb [0,1,2]))
 (iterate 6 refine sp ?_);obtain ⟨x17,h4,H⟩:=bnd H;refine sn (nm_int h4) ?_;(iterate 2 refine sp ?_);obtain ⟨x18,h5,H⟩:=bnd H;refine sn (nm_int h5) ?_;(iterate 3 refine sp ?_);refine WP.seq ?_;refine WP.seq ?_;obtain ⟨x19,H1,H⟩:=bnd H;refine mo .normal (((((Env.none.upd 0 (.ptr 0 0)).upd 6 (.lit (.int .u32 x14))).upd 7 (.lit (.int .i64 x17))).upd 8 (.lit (.int .i64 x18))).upd 63 (.lit (.bool x19))) (((Mem.nil.push (.cells 151 [.ptr 1 0,.whole 2,.lit (.int .i64 x1)])).push (.cells 149 [.ro (Rd.slice (Rd.int .u8)) false x2,.lit (.int .i64 x16)])).push (.row 5 (Rd.int .u8) x4)) ?_ ?_
 · clear H;have H:=H1;clear H1;(iterate 4 refine sp ?_);refine ws 60 H (fun hb4 H=>?_) fun hb4 H=>?_
   · (iterate 3 refine sp ?_);refine WPL.nilW ?_;have q0:=j1 H;subst q0;exact wq [0,1,2]
   (iterate 3 refine sp ?_);refine WPL.nilW ?_;have q0:=j1 H;subst q0;exact wq [0,1,2]
 (iterate 2 refine sp ?_);refine cq H (fun hb5 H=>?_) fun hb5 H=>?_
 · (iterate 4 refine sp ?_);obtain ⟨rfl,rfl,rfl⟩:=j3 H;exact W.now (Then.r (mb [0,1,2]))
 (iterate 4 refine sp ?_);obtain ⟨_,h6,H⟩:=bnd H;refine WPL.c (rc [] [] 3 [] (s_quireref03_Order k h6)) rfl ?_;(iterate 3 refine sp ?_);obtain ⟨h7,H⟩:=grd H;refine WPL.d (d_make (d:=(0:Int)) (R:=(Rd.int .i64)) li61 by3 rfl rfl rfl Joins.sc rfl rfl h7 rfl) rfl ?_;(iterate 2 refine sp ?_);refine WP.seq ?_;(iterate 4 refine sp ?_);refine WP.cv (Cv.weak (E':=(((((((Env.none.upd 0 (.ptr 0 0)).upd 6 (.lit (.int .u32 x14))).upd 7 (.lit (.int .i64 x17))).upd 8 (.lit (.int .i64 x18))).upd 9 (.ro (Rd.slice (Rd.int .i64)) false ([16,17,18,0,8,7,9,6,10,5,11,4,12,3,13,2,14,1,15]:List Int))).upd 10 (.whole 3)).upd 11 (.lit (.int .i64 0)))) (M':=((((Mem.nil.push (.cells 151 [.ptr 1 0,.whole 2,.lit (.int .i64 x1)])).push (.cells 149 [.ro (Rd.slice (Rd.int .u8)) false x2,.lit (.int .i64 x16)])).push (.row 5 (Rd.int .u8) x4)).push (.row 3 (Rd.int .i64) (List.replicate (Int.toNat 19) (0:Int))))) [0,1,2,3] hnp ⟨rfl,AA4,by decide,rfl,BB2⟩ (LeE.u (LeE.u (LeE.u (LeE.u (LeE.u (LeE.u (LeE.u (LeE.none rfl rfl))))))))) ?_;obtain ⟨y1,H2,H⟩:=bnd H;refine WP.monoW (Q:=fun x E M=>match (generalizing:=false) y1 with | (Sum.inl (x20,x21))=>x=.ret∧E=(Env.none.upd 2 (.lit (.int .i64 x20)))∧M=(((Mem.nil.push (.cells 151 [.ptr 1 0,.whole 2,.lit (.int .i64 x1)])).push (.cells 149 [.ro (Rd.slice (Rd.int .u8)) false x2,.lit (.int .i64 x21)])).push (.row 5 (Rd.int .u8) x4)) | (Sum.inr (x22,x23))=>x=.exit 0∧E=((((Env.none.upd 0 (.ptr 0 0)).upd 7 (.lit (.int .i64 x17))).upd 8 (.lit (.int .i64 x18))).upd 10 (.whole 3))∧M=((((Mem.nil.push (.cells 151 [.ptr 1 0,.whole 2,.lit (.int .i64 x1)])).push (.cells 149 [.ro (Rd.slice (Rd.int .u8)) false x2,.lit (.int .i64 x22)])).push (.row 5 (Rd.int .u8) x4)).push (.row 3 (Rd.int .i64) x23))) ?_ ?_
 · refine WP.loop (β:=Int × Int × (List Int)) (fun n b=>g_quireref03_stream_dynamic_l0 k x2 x14 n b.1 b.2.1 b.2.2=some y1) (fun b=>(((((((Env.none.upd 0 (.ptr 0 0)).upd 6 (.lit (.int .u32 x14))).upd 7 (.lit (.int .i64 x17))).upd 8 (.lit (.int .i64 x18))).upd 9 (.ro (Rd.slice (Rd.int .i64)) false ([16,17,18,0,8,7,9,6,10,5,11,4,12,3,13,2,14,1,15]:List Int))).upd 10 (.whole 3)).upd 11 (.lit (.int .i64 b.1)))) (fun b=>((((Mem.nil.push (.cells 151 [.ptr 1 0,.whole 2,.lit (.int .i64 x1)])).push (.cells 149 [.ro (Rd.slice (Rd.int .u8)) false x2,.lit (.int .i64 b.2.1)])).push (.row 5 (Rd.int .u8) x4)).push (.row 3 (Rd.int .i64) b.2.2))) k (0,x16,(List.replicate (Int.toNat 19) (0:Int))) H2 rfl rfl ?_;rintro n ⟨x24,x25,x26⟩ H;obtain _ | n:=n
   · exact nf rfl H
   rw [g_quireref03_stream_dynamic_l0.eq_2] at H;show WP _ _ _ _ (((((((Env.none.upd 0 (.ptr 0 0)).upd 6 (.lit (.int .u32 x14))).upd 7 (.lit (.int .i64 x17))).upd 8 (.lit (.int .i64 x18))).upd 9 (.ro (Rd.slice (Rd.int .i64)) false ([16,17,18,0,8,7,9,6,10,5,11,4,12,3,13,2,14,1,15]:List Int))).upd 10 (.whole 3)).upd 11 (.lit (.int .i64 x24))) ((((Mem.nil.push (.cells 151 [.ptr 1 0,.whole 2,.lit (.int .i64 x1)])).push (.cells 149 [.ro (Rd.slice (Rd.int .u8)) false x2,.lit (.int .i64 x25)])).push (.row 5 (Rd.int .u8) x4)).push (.row 3 (Rd.int .i64) x26)) _;refine WP.seq ?_;(iterate 4 refine sp ?_);obtain ⟨x27,h8,H⟩:=bnd H;refine sn (nm_int h8) ?_;(iterate 2 refine sp ?_);refine cq H (fun hb6 H=>?_) fun hb6 H=>?_
   · (iterate 3 refine sp ?_);refine WP.seq ?_;(iterate 6 refine sp ?_);obtain ⟨⟨x28,x29,x30⟩,h9,H⟩:=bnd H;refine WPL.c (rc [1] [1] 4 [] (s_quireref01_Reader_Take k 3 x2 x25 x28 x29 x30 h9)) rfl ?_;(iterate 6 refine sp ?_);refine WP.seq ?_;(iterate 4 refine sp ?_);refine cq H (fun hb7 H=>?_) fun hb7 H=>?_
     · (iterate 5 refine sp ?_);have q0:=j1 H;subst q0;exact wq [0,1,2] (Then.r (InBlock.r (Then.r (Then.r r3))))
     (iterate 7 refine sp ?_);obtain ⟨x31,h10,H⟩:=bnd H;(iterate 4 refine sp ?_);obtain ⟨x32,h11,H⟩:=bnd H;refine WPL.qq (q_index_row sl61 rfl rfl rfl (ixs h11)) ?_;refine WPL.s (s_store_row (j:=(Int.toNat x31)) (d:=(IntKind.wrap .i64 x28)) sz3 rfl rfl rfl rfl Joins.sc (ixl h11)) ?_;refine WPL.nilW ?_;refine sp ?_;refine InBlock.n ?_;(iterate 5 refine sp ?_);refine WPL.nilW ?_;exact wq [0,1,2,3] (Then.n ⟨n,((IntKind.wrap .i64 (x24+1)),x30,(List.set x26 (Int.toNat x31) (IntKind.wrap .i64 x28))),Nat.lt_succ_self n,H,rfl,rfl⟩)
   refine sp ?_;have q0:=j1 H;subst q0;exact wq [0,1,2,3] (Then.x (Then.x r3))
 rcases y1 with ⟨x20,x21⟩ | ⟨x22,x23⟩
 · rintro _ _ _ ⟨rfl,rfl,rfl⟩;obtain ⟨rfl,rfl,rfl⟩:=j3 H;exact W.now (InBlock.r (Then.r (mb [0,1,2])))
 rintro _ _ _ ⟨rfl,rfl,rfl⟩;(iterate 3 refine sp ?_);refine WP.seq ?_;(iterate 2 refine sp ?_);obtain ⟨x33,h12,H⟩:=bnd H;refine WPL.c (rc [] [] 4 [3] (s_quireref02_Full k x23 x33 h12)) rfl ?_;(iterate 2 refine sp ?_);refine cq H (fun hb8 H=>?_) fun hb8 H=>?_
 · (iterate 4 refine sp ?_);obtain ⟨rfl,rfl,rfl⟩:=j3 H;exact W.now (Then.r (mb [0,1,2]))
 (iterate 5 refine sp ?_);obtain ⟨⟨x34,x35⟩,h13,H⟩:=bnd H;refine WPL.cv (Cv.frzRow (i:=3) rfl rfl hnp rfl rfl) ?_;refine WPL.c (rc [] [4] 5 [] (s_quireref03_coded k x23 x34 x35 h13)) rfl ?_;(iterate 13 refine sp ?_);obtain ⟨⟨x36,x37,x38⟩,h14,H⟩:=bnd H;refine WPL.c (rc [0,1,2] [0,1,6] 7 [] (s_quireref03_stream_row k x23 x35 (IntKind.wrap .i64 (x17+x18)) x1 x2 x22 x4 x36 x37 x38 h14) (hargs:=.ren rfl rfl (.ren rfl rfl (.ren rfl rfl .nil)))) rfl ?_;(iterate 6 refine sp ?_);refine WP.seq ?_;(iterate 4 refine sp ?_);refine cq H (fun hb9 H=>?_) fun hb9 H=>?_
 · (iterate 5 refine sp ?_);obtain ⟨rfl,rfl,rfl⟩:=j3 H;exact W.now (Then.r (mb [0,1,6]))
 (iterate 3 refine sp ?_);refine WP.seq ?_;(iterate 2 refine sp ?_);obtain ⟨x39,h15,H⟩:=bnd H;(iterate 4 refine sp ?_);refine cq H (fun hb10 H=>?_) fun hb10 H=>?_
 · (iterate 4 refine sp ?_);obtain ⟨rfl,rfl,rfl⟩:=j3 H;exact W.now (Then.r (mb [0,1,6]))
 (iterate 6 refine sp ?_);obtain ⟨h16,H⟩:=grd H;refine WPL.qq (q_slice_ro (i:=0) (j:=x17) sl61 rfl rfl rfl ⟨_,rfl⟩ h16) ?_;obtain ⟨⟨x40,x41⟩,h17,H⟩:=bnd H;refine WPL.c (rc [] [7] 8 [] (s_quireref03_coded k (List.drop (Int.toNat 0) (List.take (Int.toNat x17) x36)) x40 x41 h17)) rfl ?_;(iterate 7 refine sp ?_);refine WP.seq ?_;(iterate 4 refine sp ?_);refine cq H (fun hb11 H=>?_) fun hb11 H=>?_
 · (iterate 5 refine sp ?_);obtain ⟨rfl,rfl,rfl⟩:=j3 H;exact W.now (Then.r (mb [0,1,6]))
 (iterate 6 refine sp ?_);obtain ⟨h18,H⟩:=grd H;refine WPL.qq (q_slice_ro (i:=x17) (j:=((List.length x36:Nat):Int)) sl61 rfl rfl ⟨_,rfl⟩ rfl h18) ?_;obtain ⟨⟨x42,x43⟩,h19,H⟩:=bnd H;refine WPL.c (rc [] [9] 10 [] (s_quireref03_coded k (List.drop (Int.toNat x17) (List.take (Int.toNat ((List.length x36:Nat):Int)) x36)) x42 x43 h19)) rfl ?_;(iterate 7 refine sp ?_);refine WP.seq ?_;(iterate 4 refine sp ?_);refine cq H (fun hb12 H=>?_) fun hb12 H=>?_
 · (iterate 5 refine sp ?_);obtain ⟨rfl,rfl,rfl⟩:=j3 H;exact W.now (Then.r (mb [0,1,6]))
 (iterate 7 refine sp ?_);obtain ⟨⟨x44,x45,x46⟩,h20,H⟩:=bnd H;refine WPL.c (rc [0,1,6] [0,1,11] 12 [] (s_quireref03_stream_symbols k (List.drop (Int.toNat 0) (List.take (Int.toNat x17) x36)) x41 (List.drop (Int.toNat x17) (List.take (Int.toNat ((List.length x36:Nat):Int)) x36)) x43 x1 x2 x38 x4 x44 x45 x46 h20) (hargs:=.ren rfl rfl (.ren rfl rfl (.ren rfl rfl .nil)))) rfl ?_;(iterate 3 refine sp ?_);obtain ⟨rfl,rfl,rfl⟩:=j3 H;exact W.now (mb [0,1,11])
theorem s_quireref03_stream_block (k:Nat) (x1:Int) (x2:Int) (x3:(List Int)) (x4:Int) (x5:(List Int)) (x6:Int) (x7:Int) (x8:(List Int)) (H:g_quireref03_stream_block k x1 x2 x3 x4 x5=some (x6,x7,x8)):Go.Q.Spec Tryz.prog 94 2 [.ptr 0 0,.lit (.int .u32 x1)] (((Mem.nil.push (.cells 151 [.ptr 1 0,.whole 2,.lit (.int .i64 x2)])).push (.cells 149 [.ro (Rd.slice (Rd.int .u8)) false x3,.lit (.int .i64 x4)])).push (.row 5 (Rd.int .u8) x5)) (fun o M=>o=.ret (.lit (.int .i64 x6))∧M=(((Mem.nil.push (.cells 151 [.ptr 1 0,.whole 2,.lit (.int .i64 x2)])).push (.cells 149 [.ro (Rd.slice (Rd.int .u8)) false x3,.lit (.int .i64 x7)])).push (.row 5 (Rd.int .u8) x8))):=by
 unfold g_quireref03_stream_block at H;refine bo Tryz.func94 [] [.tmp 4] 34 fun cx hnp=>?_;(iterate 3 refine sp ?_);refine WP.seq ?_;(iterate 8 refine sp ?_);refine cq H (fun hb1 H=>?_) fun hb1 H=>?_
 · (iterate 2 refine sp ?_);obtain ⟨⟨x9,x10,x11⟩,h1,H⟩:=bnd H;refine WPL.c (rc [0,1,2] [0,1,3] 4 [] (s_quireref03_stream_stored k x2 x3 x4 x5 x9 x10 x11 h1)) rfl ?_;(iterate 3 refine sp ?_);obtain ⟨rfl,rfl,rfl⟩:=j3 H;exact W.now (InBlock.r (Then.r (mb [0,1,3])))
 (iterate 4 refine sp ?_);refine cq H (fun hb2 H=>?_) fun hb2 H=>?_
 · refine sp ?_;obtain ⟨x12,h2,H⟩:=bnd H;refine WPL.c (rc [] [] 3 [] (s_quireref03_FixedLit k x12 h2)) rfl ?_;obtain ⟨⟨x13,x14⟩,h3,H⟩:=bnd H;refine WPL.c (rc [] [3] 4 [] (s_quireref03_coded k x12 x13 x14 h3)) rfl ?_;(iterate 8 refine sp ?_);obtain ⟨x15,h4,H⟩:=bnd H;refine WPL.c (rc [] [] 5 [] (s_quireref03_FixedDist k x15 h4)) rfl ?_;obtain ⟨⟨x16,x17⟩,h5,H⟩:=bnd H;refine WPL.c (rc [] [5] 6 [] (s_quireref03_coded k x15 x16 x17 h5)) rfl ?_;(iterate 11 refine sp ?_);obtain ⟨⟨x18,x19,x20⟩,h6,H⟩:=bnd H;refine WPL.c (rc [0,1,2] [0,1,7] 8 [] (s_quireref03_stream_symbols k x12 x14 x15 x17 x2 x3 x4 x5 x18 x19 x20 h6) (hargs:=.ren rfl rfl (.ren rfl rfl (.ren rfl rfl .nil)))) rfl ?_;(iterate 3 refine sp ?_);obtain ⟨rfl,rfl,rfl⟩:=j3 H;exact W.now (InBlock.r (Then.r (mb [0,1,7])))
 (iterate 4 refine sp ?_);refine cq H (fun hb3 H=>?_) fun hb3 H=>?_
 · (iterate 2 refine sp ?_);obtain ⟨⟨x21,x22,x23⟩,h7,H⟩:=bnd H;refine WPL.c (rc [0,1,2] [0,1,3] 4 [] (s_quireref03_stream_dynamic k x2 x3 x4 x5 x21 x22 x23 h7)) rfl ?_;(iterate 3 refine sp ?_);obtain ⟨rfl,rfl,rfl⟩:=j3 H;exact W.now (InBlock.r (Then.r (mb [0,1,3])))
 (iterate 2 refine sp ?_);refine InBlock.n ?_;(iterate 5 refine sp ?_);obtain ⟨rfl,rfl,rfl⟩:=j3 H;exact W.now (mb [0,1,2])
theorem s_quireref03_Inflate (k:Nat) (x1:(List Int)) (x2:Int) (x3:(List Int)) (x4:Int) (x5:Int) (H:g_quireref03_Inflate k x1 x2=some (x3,x4,x5)):Go.Q.Spec Tryz.prog 62 0 [.ro (Rd.slice (Rd.int .u8)) false x1,.lit (.int .i64 x2)] Mem.nil (fun o M=>o=.ret (.tup [.ro (Rd.slice (Rd.int .u8)) false x3,.lit (.int .i64 x4),.lit (.int .i64 x5)])∧M=Mem.nil):=by
 unfold g_quireref03_Inflate at H;refine bo Tryz.func62 [] [.tmp 4,.tmp 5,.tmp 6] 62 fun cx hnp=>?_;(iterate 5 refine sp ?_);refine WP.seq ?_;(iterate 4 refine sp ?_);refine cq H (fun hb1 H=>?_) fun hb1 H=>?_
 · (iterate 6 refine sp ?_);refine W.cv (Cv.nilRo (Rd.int .u8) false 4 rfl) rfl ?_;obtain ⟨rfl,rfl,rfl⟩:=j3 H;exact W.now (Then.r (mb []))
 (iterate 10 refine sp ?_);refine WPL.cv (Cv.virC 5 (Rd.int .u8) (N:=2) rfl (i:=1) rfl (off:=1) rfl rfl) ?_;(iterate 3 refine sp ?_);refine WP.cv (Cv.weak (E':=(Env.none.upd 7 (.ptr 0 0))) (M':=(((Mem.nil.push (.cells 151 [.ptr 1 0,.whole 2,.lit (.int .i64 x2)])).push (.cells 149 [.ro (Rd.slice (Rd.int .u8)) false x1,.lit (.int .i64 0)])).push (.row 5 (Rd.int .u8) ([]:List Int)))) [1,0,2] hnp ⟨rfl,AA3,by decide,rfl,trivial⟩ (LeE.u (LeE.none rfl rfl))) ?_;obtain ⟨⟨x6,x7,x8⟩,H1,H⟩:=bnd H;refine mo .ret (((Env.none.upd 4 (.whole 0)).upd 5 (.lit (.int .i64 x6))).upd 6 (.lit (.int .i64 x7))) (Mem.nil.push (.row 5 (Rd.int .u8) x8)) ?_ ?_
 · refine WP.loop (β:=Int × (List Int)) (fun n b=>g_quireref03_Inflate_l0 k x1 x2 n b.1 b.2=some (x6,x7,x8)) (fun b=>(Env.none.upd 7 (.ptr 0 0))) (fun b=>(((Mem.nil.push (.cells 151 [.ptr 1 0,.whole 2,.lit (.int .i64 x2)])).push (.cells 149 [.ro (Rd.slice (Rd.int .u8)) false x1,.lit (.int .i64 b.1)])).push (.row 5 (Rd.int .u8) b.2))) k (0,([]:List Int)) H1 rfl rfl ?_;rintro n ⟨x9,x10⟩ H;obtain _ | n:=n
   · exact nf rfl H
   rw [g_quireref03_Inflate_l0.eq_2] at H;show WP _ _ _ _ (Env.none.upd 7 (.ptr 0 0)) (((Mem.nil.push (.cells 151 [.ptr 1 0,.whole 2,.lit (.int .i64 x2)])).push (.cells 149 [.ro (Rd.slice (Rd.int .u8)) false x1,.lit (.int .i64 x9)])).push (.row 5 (Rd.int .u8) x10)) _;(iterate 6 refine sp ?_);obtain ⟨⟨x11,x12,x13⟩,h1,H⟩:=bnd H;refine WPL.c (rc [1] [1] 3 [] (s_quireref01_Reader_Take k 1 x1 x9 x11 x12 x13 h1)) rfl ?_;(iterate 6 refine sp ?_);refine WP.seq ?_;(iterate 4 refine sp ?_);refine cq H (fun hb2 H=>?_) fun hb2 H=>?_
   · (iterate 7 refine sp ?_);refine W.cv (Cv.vir 5 (Rd.int .u8) (N:=3) rfl 4 rfl) rfl ?_;obtain ⟨rfl,rfl,rfl⟩:=j3 H;exact wq [3] (Then.r (InBlock.r (Then.r r3)))
   (iterate 8 refine sp ?_);obtain ⟨⟨x14,x15,x16⟩,h2,H⟩:=bnd H;refine WPL.c (rc [1] [1] 3 [] (s_quireref01_Reader_Take k 2 x1 x13 x14 x15 x16 h2)) rfl ?_;(iterate 6 refine sp ?_);refine WP.seq ?_;(iterate 4 refine sp ?_);refine cq H (fun hb3 H=>?_) fun hb3 H=>?_
   · (iterate 7 refine sp ?_);refine W.cv (Cv.vir 5 (Rd.int .u8) (N:=3) rfl 4 rfl) rfl ?_;obtain ⟨rfl,rfl,rfl⟩:=j3 H;exact wq [3] (Then.r (InBlock.r (Then.r r3)))
   (iterate 3 refine sp ?_);refine WP.seq ?_;(iterate 3 refine sp ?_);obtain ⟨⟨x17,x18,x19⟩,h3,H⟩:=bnd H;refine WPL.c (rc [0,1,2] [0,1,3] 4 [] (s_quireref03_stream_block k x14 x2 x1 x16 x10 x17 x18 x19 h3)) rfl ?_;(iterate 6 refine sp ?_);refine cq H (fun hb4 H=>?_) fun hb4 H=>?_
   · (iterate 7 refine sp ?_);refine W.cv (Cv.vir 5 (Rd.int .u8) (N:=4) rfl 4 rfl) rfl ?_;obtain ⟨rfl,rfl,rfl⟩:=j3 H;exact wq [4] (Then.r (InBlock.r (Then.r r3)))
   (iterate 7 refine sp ?_);refine cq H (fun hb5 H=>?_) fun hb5 H=>?_
   · refine WP.seq ?_;refine WP.regionD' 16 [0,1] [] mixed rfl ?_;refine dT 0 ?_;refine dT 1 ?_;refine dT 2 ?_;refine dT 4 ?_;refine dT 5 ?_;refine dT 6 ?_;refine dK 3 ?_;refine dT 13 ?_;refine dK 7 ?_;refine dT 8 ?_;refine dT 9 ?_;refine dK 10 ?_;refine dT 11 ?_;obtain ⟨x20,h4,H⟩:=bnd H;refine dT 12 ?_ rfl (q_nm aq (nm_int h4));refine dT 14 ?_;refine dT 15 ?_;refine WPD.doneW (by kernel_rfl) ?_;(iterate 3 refine sp ?_);obtain ⟨rfl,rfl,rfl⟩:=j3 H;exact wq [3] (InBlock.r (Then.r r3))
   refine sp ?_;exact wq [0,1,3] (InBlock.n (Then.n ⟨n,(x18,x19),Nat.lt_succ_self n,H,rfl,rfl⟩))
 refine W.cv (Cv.frzRow (i:=0) rfl rfl hnp rfl rfl) rfl ?_;obtain ⟨rfl,rfl,rfl⟩:=j3 H;exact W.now (InBlock.r (mb []))
theorem s_quireref01_Crc (k:Nat) (x1:(List Int)) (x2:Int) (H:g_quireref01_Crc k x1=some x2):Go.Q.Spec Tryz.prog 52 0 [.ro (Rd.slice (Rd.int .u8)) false x1] Mem.nil (fun o M=>o=.ret (.lit (.int .u32 x2))∧M=Mem.nil):=by
 unfold g_quireref01_Crc at H;refine bo Tryz.func52 [] [.tmp 2] 33 fun cx hnp=>?_;(iterate 6 refine sp ?_);refine WP.seq ?_;(iterate 4 refine sp ?_);refine WP.cv (Cv.weak (E':=(((Env.none.upd 0 (.ro (Rd.slice (Rd.int .u8)) false x1)).upd 3 (.lit (.int .u32 4294967295))).upd 4 (.lit (.int .i64 0)))) (M':=Mem.nil) [] hnp ⟨rfl,trivial,by decide,rfl,trivial⟩ (LeE.u (LeE.u (LeE.u (LeE.none rfl rfl))))) ?_;obtain ⟨x3,H1,H⟩:=bnd H;refine mo (.exit 0) (Env.none.upd 3 (.lit (.int .u32 x3))) Mem.nil ?_ ?_
 · refine WP.loop (β:=Int × Int) (fun n b=>g_quireref01_Crc_l0 k x1 n b.1 b.2=some x3) (fun b=>(((Env.none.upd 0 (.ro (Rd.slice (Rd.int .u8)) false x1)).upd 3 (.lit (.int .u32 b.1))).upd 4 (.lit (.int .i64 b.2)))) (fun b=>Mem.nil) k (4294967295,0) H1 rfl rfl ?_;rintro n ⟨x4,x5⟩ H;obtain _ | n:=n
   · exact nf rfl H
   rw [g_quireref01_Crc_l0.eq_2] at H;show WP _ _ _ _ (((Env.none.upd 0 (.ro (Rd.slice (Rd.int .u8)) false x1)).upd 3 (.lit (.int .u32 x4))).upd 4 (.lit (.int .i64 x5))) Mem.nil _;refine WP.seq ?_;(iterate 4 refine sp ?_);obtain ⟨x6,h1,H⟩:=bnd H;refine sn (nm_bool h1) ?_;refine sp ?_;refine cq H (fun hb1 H=>?_) fun hb1 H=>?_
   · (iterate 3 refine sp ?_);refine WP.seq ?_;(iterate 5 refine sp ?_);obtain ⟨x7,h2,H⟩:=bnd H;(iterate 3 refine sp ?_);obtain ⟨x8,h3,H⟩:=bnd H;refine sn (nm_int h3) ?_;(iterate 6 refine sp ?_);refine WP.cv (Cv.weak (E':=((((Env.none.upd 0 (.ro (Rd.slice (Rd.int .u8)) false x1)).upd 3 (.lit (.int .u32 x8))).upd 4 (.lit (.int .i64 x5))).upd 5 (.lit (.int .i64 0)))) (M':=Mem.nil) [] hnp ⟨rfl,trivial,by decide,rfl,trivial⟩ (LeE.u (LeE.u (LeE.u (LeE.u (LeE.none rfl rfl)))))) ?_;obtain ⟨x9,H2,H⟩:=bnd H;refine mo (.exit 2) (((Env.none.upd 0 (.ro (Rd.slice (Rd.int .u8)) false x1)).upd 3 (.lit (.int .u32 x9))).upd 4 (.lit (.int .i64 x5))) Mem.nil ?_ ?_
     · refine WP.loop (β:=Int × Int) (fun n b=>g_quireref01_Crc_l1 k n b.1 b.2=some x9) (fun b=>((((Env.none.upd 0 (.ro (Rd.slice (Rd.int .u8)) false x1)).upd 3 (.lit (.int .u32 b.1))).upd 4 (.lit (.int .i64 x5))).upd 5 (.lit (.int .i64 b.2)))) (fun b=>Mem.nil) k (x8,0) H2 rfl rfl ?_;rintro n ⟨x10,x11⟩ H;obtain _ | n:=n
       · exact nf rfl H
       rw [g_quireref01_Crc_l1.eq_2] at H;show WP _ _ _ _ ((((Env.none.upd 0 (.ro (Rd.slice (Rd.int .u8)) false x1)).upd 3 (.lit (.int .u32 x10))).upd 4 (.lit (.int .i64 x5))).upd 5 (.lit (.int .i64 x11))) Mem.nil _;refine WP.seq ?_;(iterate 4 refine sp ?_);refine cq H (fun hb2 H=>?_) fun hb2 H=>?_
       · (iterate 3 refine sp ?_);refine WP.seq ?_;obtain ⟨x12,H3,H⟩:=bnd H;refine mo .normal ((((Env.none.upd 0 (.ro (Rd.slice (Rd.int .u8)) false x1)).upd 3 (.lit (.int .u32 x12))).upd 4 (.lit (.int .i64 x5))).upd 5 (.lit (.int .i64 x11))) Mem.nil ?_ ?_
         · clear H;have H:=H3;clear H3;(iterate 6 refine sp ?_);refine cq H (fun hb3 H=>?_) fun hb3 H=>?_
           · (iterate 3 refine sp ?_);obtain ⟨x13,h4,H⟩:=bnd H;refine sn (nm_int h4) ?_;refine sp ?_;refine WPL.nilW ?_;have q0:=j1 H;subst q0;exact wq [] (InBlock.n r3)
           (iterate 4 refine sp ?_);refine WPL.nilW ?_;have q0:=j1 H;subst q0;exact wq [] (InBlock.n r3)
         (iterate 6 refine sp ?_);refine WPL.nilW ?_;exact wq [] (Then.n ⟨n,(x12,(IntKind.wrap .i64 (x11+1))),Nat.lt_succ_self n,H,rfl,rfl⟩)
       refine sp ?_;have q0:=j1 H;subst q0;exact wq [] (Then.x (Then.x r3))
     (iterate 2 refine sp ?_);refine InBlock.n ?_;(iterate 5 refine sp ?_);refine WPL.nilW ?_;exact wq [] (Then.n ⟨n,(x9,(IntKind.wrap .i64 (x5+1))),Nat.lt_succ_self n,H,rfl,rfl⟩)
   refine sp ?_;have q0:=j1 H;subst q0;exact wq [] (Then.x (Then.x r3))
 (iterate 5 refine sp ?_);obtain ⟨x14,h5,H⟩:=bnd H;refine WPL.qq (q_nm (q_com rfl) (nm_int h5)) ?_;(iterate 3 refine sp ?_);have q0:=j1 H;subst q0;exact W.now (mb [])
theorem s_quireref05_Crc (k:Nat) (x1:(List Int)) (x2:Int) (H:g_quireref05_Crc k x1=some x2):Go.Q.Spec Tryz.prog 26 0 [.ro (Rd.slice (Rd.int .u8)) false x1] Mem.nil (fun o M=>o=.ret (.lit (.int .i64 x2))∧M=Mem.nil):=by
 unfold g_quireref05_Crc at H;refine bo Tryz.func26 [] [.tmp 2] 6 fun cx hnp=>?_;(iterate 5 refine sp ?_);obtain ⟨x3,h1,H⟩:=bnd H;refine WPL.c (rc [] [] 0 [] (s_quireref01_Crc k x1 x3 h1)) rfl ?_;(iterate 4 refine sp ?_);have q0:=j1 H;subst q0;exact W.now (mb [])
theorem s_quireref01_Crc__b (k:Nat) (x1:(List Int)) (x2:Int) (H:g_quireref01_Crc k x1=some x2):Go.Q.Spec Tryz.prog 52 0 [.ro (Rd.slice (Rd.int .u8)) true x1] Mem.nil (fun o M=>o=.ret (.lit (.int .u32 x2))∧M=Mem.nil):=by
 unfold g_quireref01_Crc at H;refine bo Tryz.func52 [] [.tmp 2] 33 fun cx hnp=>?_;(iterate 6 refine sp ?_);refine WP.seq ?_;(iterate 4 refine sp ?_);refine WP.cv (Cv.weak (E':=(((Env.none.upd 0 (.ro (Rd.slice (Rd.int .u8)) true x1)).upd 3 (.lit (.int .u32 4294967295))).upd 4 (.lit (.int .i64 0)))) (M':=Mem.nil) [] hnp ⟨rfl,trivial,by decide,rfl,trivial⟩ (LeE.u (LeE.u (LeE.u (LeE.none rfl rfl))))) ?_;obtain ⟨x3,H1,H⟩:=bnd H;refine mo (.exit 0) (Env.none.upd 3 (.lit (.int .u32 x3))) Mem.nil ?_ ?_
 · refine WP.loop (β:=Int × Int) (fun n b=>g_quireref01_Crc_l0 k x1 n b.1 b.2=some x3) (fun b=>(((Env.none.upd 0 (.ro (Rd.slice (Rd.int .u8)) true x1)).upd 3 (.lit (.int .u32 b.1))).upd 4 (.lit (.int .i64 b.2)))) (fun b=>Mem.nil) k (4294967295,0) H1 rfl rfl ?_;rintro n ⟨x4,x5⟩ H;obtain _ | n:=n
   · exact nf rfl H
   rw [g_quireref01_Crc_l0.eq_2] at H;show WP _ _ _ _ (((Env.none.upd 0 (.ro (Rd.slice (Rd.int .u8)) true x1)).upd 3 (.lit (.int .u32 x4))).upd 4 (.lit (.int .i64 x5))) Mem.nil _;refine WP.seq ?_;(iterate 4 refine sp ?_);obtain ⟨x6,h1,H⟩:=bnd H;refine sn (nm_bool h1) ?_;refine sp ?_;refine cq H (fun hb1 H=>?_) fun hb1 H=>?_
   · (iterate 3 refine sp ?_);refine WP.seq ?_;(iterate 5 refine sp ?_);obtain ⟨x7,h2,H⟩:=bnd H;(iterate 3 refine sp ?_);obtain ⟨x8,h3,H⟩:=bnd H;refine sn (nm_int h3) ?_;(iterate 6 refine sp ?_);refine WP.cv (Cv.weak (E':=((((Env.none.upd 0 (.ro (Rd.slice (Rd.int .u8)) true x1)).upd 3 (.lit (.int .u32 x8))).upd 4 (.lit (.int .i64 x5))).upd 5 (.lit (.int .i64 0)))) (M':=Mem.nil) [] hnp ⟨rfl,trivial,by decide,rfl,trivial⟩ (LeE.u (LeE.u (LeE.u (LeE.u (LeE.none rfl rfl)))))) ?_;obtain ⟨x9,H2,H⟩:=bnd H;refine mo (.exit 2) (((Env.none.upd 0 (.ro (Rd.slice (Rd.int .u8)) true x1)).upd 3 (.lit (.int .u32 x9))).upd 4 (.lit (.int .i64 x5))) Mem.nil ?_ ?_
     · refine WP.loop (β:=Int × Int) (fun n b=>g_quireref01_Crc_l1 k n b.1 b.2=some x9) (fun b=>((((Env.none.upd 0 (.ro (Rd.slice (Rd.int .u8)) true x1)).upd 3 (.lit (.int .u32 b.1))).upd 4 (.lit (.int .i64 x5))).upd 5 (.lit (.int .i64 b.2)))) (fun b=>Mem.nil) k (x8,0) H2 rfl rfl ?_;rintro n ⟨x10,x11⟩ H;obtain _ | n:=n
       · exact nf rfl H
       rw [g_quireref01_Crc_l1.eq_2] at H;show WP _ _ _ _ ((((Env.none.upd 0 (.ro (Rd.slice (Rd.int .u8)) true x1)).upd 3 (.lit (.int .u32 x10))).upd 4 (.lit (.int .i64 x5))).upd 5 (.lit (.int .i64 x11))) Mem.nil _;refine WP.seq ?_;(iterate 4 refine sp ?_);refine cq H (fun hb2 H=>?_) fun hb2 H=>?_
       · (iterate 3 refine sp ?_);refine WP.seq ?_;obtain ⟨x12,H3,H⟩:=bnd H;refine mo .normal ((((Env.none.upd 0 (.ro (Rd.slice (Rd.int .u8)) true x1)).upd 3 (.lit (.int .u32 x12))).upd 4 (.lit (.int .i64 x5))).upd 5 (.lit (.int .i64 x11))) Mem.nil ?_ ?_
         · clear H;have H:=H3;clear H3;(iterate 6 refine sp ?_);refine cq H (fun hb3 H=>?_) fun hb3 H=>?_
           · (iterate 3 refine sp ?_);obtain ⟨x13,h4,H⟩:=bnd H;refine sn (nm_int h4) ?_;refine sp ?_;refine WPL.nilW ?_;have q0:=j1 H;subst q0;exact wq [] (InBlock.n r3)
           (iterate 4 refine sp ?_);refine WPL.nilW ?_;have q0:=j1 H;subst q0;exact wq [] (InBlock.n r3)
         (iterate 6 refine sp ?_);refine WPL.nilW ?_;exact wq [] (Then.n ⟨n,(x12,(IntKind.wrap .i64 (x11+1))),Nat.lt_succ_self n,H,rfl,rfl⟩)
       refine sp ?_;have q0:=j1 H;subst q0;exact wq [] (Then.x (Then.x r3))
     (iterate 2 refine sp ?_);refine InBlock.n ?_;(iterate 5 refine sp ?_);refine WPL.nilW ?_;exact wq [] (Then.n ⟨n,(x9,(IntKind.wrap .i64 (x5+1))),Nat.lt_succ_self n,H,rfl,rfl⟩)
   refine sp ?_;have q0:=j1 H;subst q0;exact wq [] (Then.x (Then.x r3))
 (iterate 5 refine sp ?_);obtain ⟨x14,h5,H⟩:=bnd H;refine WPL.qq (q_nm (q_com rfl) (nm_int h5)) ?_;(iterate 3 refine sp ?_);have q0:=j1 H;subst q0;exact W.now (mb [])
theorem s_quireref05_Crc__b (k:Nat) (x1:(List Int)) (x2:Int) (H:g_quireref05_Crc k x1=some x2):Go.Q.Spec Tryz.prog 26 0 [.ro (Rd.slice (Rd.int .u8)) true x1] Mem.nil (fun o M=>o=.ret (.lit (.int .i64 x2))∧M=Mem.nil):=by
 unfold g_quireref05_Crc at H;refine bo Tryz.func26 [] [.tmp 2] 6 fun cx hnp=>?_;(iterate 5 refine sp ?_);obtain ⟨x3,h1,H⟩:=bnd H;refine WPL.c (rc [] [] 0 [] (s_quireref01_Crc__b k x1 x3 h1)) rfl ?_;(iterate 4 refine sp ?_);have q0:=j1 H;subst q0;exact W.now (mb [])
theorem s_quireref05_unpack (k:Nat) (x1:Int) (x2:Int) (x3:Int) (x4:Int) (x5:ByteArray) (x6:(List Int)) (x7:(List Int)) (x8:Int) (H:g_quireref05_unpack k x1 x2 x3 x4 x5 x6=some (x7,x8)):Go.Q.Spec Tryz.prog 36 0 [.agg [.lit (.int .i64 x1),.lit (.int .i64 x2),.lit (.int .i64 x3),.lit (.int .i64 x4),.lit (.string x5)],.ro (Rd.slice (Rd.int .u8)) false x6] Mem.nil (fun o M=>o=.ret (.tup [.ro (Rd.slice (Rd.int .u8)) false x7,.lit (.int .i64 x8)])∧M=Mem.nil):=by
 unfold g_quireref05_unpack at H;refine bo Tryz.func36 [] [.tmp 4,.tmp 5] 57 fun cx hnp=>?_;(iterate 6 refine sp ?_);refine WPL.d (d_buildSlice (ds:=([]:List Int)) (R:=(Rd.int .u8)) li23 rfl rfl rfl rfl rfl JoinRows.nil rfl rfl) rfl ?_;refine sp ?_;obtain ⟨h1,H⟩:=grd H;refine WPL.d (d_append ap23 rfl rfl rfl rfl (src_ro sl23 rfl) h1 rfl) rfl ?_;(iterate 2 refine sp ?_);refine WP.seq ?_;refine WP.seq ?_;obtain ⟨x9,H1,H⟩:=bnd H;refine mo .normal ((((Env.none.upd 1 (.ro (Rd.slice (Rd.int .u8)) false x6)).upd 2 (.ptr 0 0)).upd 6 (.whole 1)).upd 22 (.lit (.bool x9))) ((Mem.nil.push (.cells 53 [.lit (.int .i64 x1),.lit (.int .i64 x2),.lit (.int .i64 x3),.lit (.int .i64 x4),.lit (.string x5)])).push (.row 5 (Rd.int .u8) (([]:List Int)++x6))) ?_ ?_
 · clear H;have H:=H1;clear H1;(iterate 5 refine sp ?_);refine ws 16 H (fun hb1 H=>?_) fun hb1 H=>?_
   · (iterate 6 refine sp ?_);refine WPL.nilW ?_;have q0:=j1 H;subst q0;exact wq [0,2]
   (iterate 6 refine sp ?_);refine WPL.nilW ?_;have q0:=j1 H;subst q0;exact wq [0,2]
 (iterate 2 refine sp ?_);refine cq H (fun hb2 H=>?_) fun hb2 H=>?_
 · (iterate 5 refine sp ?_);refine W.cv (Cv.nilRo (Rd.int .u8) false 4 rfl) rfl ?_;obtain ⟨rfl,rfl⟩:=j2 H;exact W.now (Then.r (mb []))
 (iterate 3 refine sp ?_);refine WP.seq ?_;obtain ⟨y1,H2,H⟩:=bnd H;refine WP.monoW (Q:=fun x E M=>match (generalizing:=false) y1 with | (Sum.inl x10)=>x=.ret∧E=((Env.none.upd 4 (.lit (.slice none 0 0))).upd 5 (.lit (.int .i64 x10)))∧M=Mem.nil | (Sum.inr (Sum.inl x11))=>x=.normal∧E=((Env.none.upd 2 (.ptr 0 0)).upd 6 (.ro (Rd.slice (Rd.int .u8)) false x11))∧M=(Mem.nil.push (.cells 53 [.lit (.int .i64 x1),.lit (.int .i64 x2),.lit (.int .i64 x3),.lit (.int .i64 x4),.lit (.string x5)])) | (Sum.inr (Sum.inr _))=>x=.normal∧E=((Env.none.upd 2 (.ptr 0 0)).upd 6 (.whole 1))∧M=((Mem.nil.push (.cells 53 [.lit (.int .i64 x1),.lit (.int .i64 x2),.lit (.int .i64 x3),.lit (.int .i64 x4),.lit (.string x5)])).push (.row 5 (Rd.int .u8) (([]:List Int)++x6)))) ?_ ?_
 · clear H;have H:=H2;clear H2;(iterate 5 refine sp ?_);refine cq H (fun hb3 H=>?_) fun hb3 H=>?_
   · (iterate 4 refine sp ?_);obtain ⟨⟨x12,x13,x14⟩,h2,H⟩:=bnd H;refine WPL.c (rc [] [] 2 [] (s_quireref03_Inflate k x6 x4 x12 x13 x14 h2)) rfl ?_;(iterate 8 refine sp ?_);refine WP.seq ?_;obtain ⟨x15,H3,H⟩:=bnd H;refine mo .normal (((((Env.none.upd 1 (.ro (Rd.slice (Rd.int .u8)) false x6)).upd 2 (.ptr 0 0)).upd 7 (.ro (Rd.slice (Rd.int .u8)) false x12)).upd 8 (.lit (.int .i64 x13))).upd 9 (.lit (.int .i64 x15))) (Mem.nil.push (.cells 53 [.lit (.int .i64 x1),.lit (.int .i64 x2),.lit (.int .i64 x3),.lit (.int .i64 x4),.lit (.string x5)])) ?_ ?_
     · clear H;have H:=H3;clear H3;(iterate 4 refine sp ?_);refine cq H (fun hb4 H=>?_) fun hb4 H=>?_
       · (iterate 2 refine sp ?_);refine WPL.nilW ?_;have q0:=j1 H;subst q0;exact wq [0]
       refine sp ?_;have q0:=j1 H;subst q0;exact wq [0]
     (iterate 2 refine sp ?_);refine WP.seq ?_;(iterate 4 refine sp ?_);refine cq H (fun hb5 H=>?_) fun hb5 H=>?_
     · (iterate 6 refine sp ?_);have q0:=j1 H;subst q0;exact wq [] (Then.r r3)
     (iterate 3 refine sp ?_);refine WP.seq ?_;refine WP.seq ?_;obtain ⟨x16,H4,H⟩:=bnd H;refine mo .normal (((Env.none.upd 2 (.ptr 0 0)).upd 7 (.ro (Rd.slice (Rd.int .u8)) false x12)).upd 49 (.lit (.bool x16))) (Mem.nil.push (.cells 53 [.lit (.int .i64 x1),.lit (.int .i64 x2),.lit (.int .i64 x3),.lit (.int .i64 x4),.lit (.string x5)])) ?_ ?_
     · clear H;have H:=H4;clear H4;(iterate 4 refine sp ?_);obtain ⟨x17,h3,H⟩:=bnd H;refine sn (nm_bool h3) ?_;refine sp ?_;refine ws 43 H (fun hb6 H=>?_) fun hb6 H=>?_
       · (iterate 6 refine sp ?_);refine WPL.nilW ?_;have q0:=j1 H;subst q0;exact wq [0]
       (iterate 4 refine sp ?_);obtain ⟨x18,h4,H⟩:=bnd H;refine sn (nm_bool h4) ?_;refine sp ?_;refine WPL.nilW ?_;have q0:=j1 H;subst q0;exact wq [0]
     (iterate 2 refine sp ?_);refine cq H (fun hb7 H=>?_) fun hb7 H=>?_
     · (iterate 5 refine sp ?_);have q0:=j1 H;subst q0;exact wq [] (Then.r r3)
     (iterate 6 refine sp ?_);refine WPL.nilW ?_;have q0:=j1 H;subst q0;exact wq [0]
   refine sp ?_;have q0:=j1 H;subst q0;exact wq [0,1]
 rcases y1 with x10 | x11 | _
 · rintro _ _ _ ⟨rfl,rfl,rfl⟩;refine W.cv (Cv.nilRo (Rd.int .u8) false 4 rfl) rfl ?_;obtain ⟨rfl,rfl⟩:=j2 H;exact W.now (Then.r (mb []))
 · rintro _ _ _ ⟨rfl,rfl,rfl⟩;(iterate 2 refine sp ?_);refine WP.seq ?_;refine WP.seq ?_;refine WP.regionD' 5 [0] [] mixed rfl ?_;refine dT 0 ?_;refine dT 2 ?_;refine dK 3 ?_;obtain ⟨x19,h5,H⟩:=bnd H;refine dE 1 [0] [] rfl (rc [] [] 1 [] (s_quireref05_Crc k x11 x19 h5)) ?_;refine dT 4 ?_;refine WPD.doneW (by kernel_rfl) ?_;(iterate 2 refine sp ?_);refine cq H (fun hb8 H=>?_) fun hb8 H=>?_
   · (iterate 5 refine sp ?_);refine W.cv (Cv.nilRo (Rd.int .u8) false 4 rfl) rfl ?_;obtain ⟨rfl,rfl⟩:=j2 H;exact W.now (Then.r (mb []))
   (iterate 9 refine sp ?_);obtain ⟨rfl,rfl⟩:=j2 H;exact W.now (mb [])
 rintro _ _ _ ⟨rfl,rfl,rfl⟩;(iterate 2 refine sp ?_);refine WP.seq ?_;refine WP.seq ?_;refine WP.regionD' 5 [0] [] mixed rfl ?_;refine dT 0 ?_;refine dT 2 ?_;refine dK 3 ?_;obtain ⟨x20,h6,H⟩:=bnd H;refine dE 1 [0] [] rfl (rc [] [] 2 [1] (s_quireref05_Crc__b k (([]:List Int)++x6) x20 h6)) ?_;refine dT 4 ?_;refine WPD.doneW (by kernel_rfl) ?_;(iterate 2 refine sp ?_);refine cq H (fun hb9 H=>?_) fun hb9 H=>?_
 · (iterate 5 refine sp ?_);refine W.cv (Cv.nilRo (Rd.int .u8) false 4 rfl) rfl ?_;obtain ⟨rfl,rfl⟩:=j2 H;exact W.now (Then.r (mb []))
 (iterate 9 refine sp ?_);refine W.cv (Cv.frzRow (i:=1) rfl rfl hnp rfl rfl) rfl ?_;obtain ⟨rfl,rfl⟩:=j2 H;exact W.now (mb [])
theorem s_quireref05_low (k:Nat) (x1:ByteArray) (x2:ByteArray) (H:g_quireref05_low k x1=some x2):Go.Q.Spec Tryz.prog 51 0 [.lit (.string x1)] Mem.nil (fun o M=>o=.ret (.lit (.string x2))∧M=Mem.nil):=by
 unfold g_quireref05_low at H;refine bo Tryz.func51 [] [.tmp 2] 29 fun cx hnp=>?_;(iterate 6 refine sp ?_);refine WP.seq ?_;(iterate 4 refine sp ?_);refine WP.cv (Cv.vir 5 (Rd.int .u8) (N:=0) rfl 3 rfl) ?_;refine WP.cv (Cv.weak (E':=(((Env.none.upd 0 (.lit (.string x1))).upd 3 (.whole 0)).upd 4 (.lit (.int .i64 0)))) (M':=(Mem.nil.push (.row 5 (Rd.int .u8) ([]:List Int)))) [0] hnp ⟨rfl,AA1,by decide,rfl,trivial⟩ (LeE.u (LeE.u (LeE.u (LeE.none rfl rfl))))) ?_;obtain ⟨x3,H1,H⟩:=bnd H;refine mo (.exit 0) (Env.none.upd 3 (.whole 0)) (Mem.nil.push (.row 5 (Rd.int .u8) x3)) ?_ ?_
 · refine WP.loop (β:=Int × (List Int)) (fun n b=>g_quireref05_low_l0 k x1 n b.1 b.2=some x3) (fun b=>(((Env.none.upd 0 (.lit (.string x1))).upd 3 (.whole 0)).upd 4 (.lit (.int .i64 b.1)))) (fun b=>(Mem.nil.push (.row 5 (Rd.int .u8) b.2))) k (0,([]:List Int)) H1 rfl rfl ?_;rintro n ⟨x4,x5⟩ H;obtain _ | n:=n
   · exact nf rfl H
   rw [g_quireref05_low_l0.eq_2] at H;show WP _ _ _ _ (((Env.none.upd 0 (.lit (.string x1))).upd 3 (.whole 0)).upd 4 (.lit (.int .i64 x4))) (Mem.nil.push (.row 5 (Rd.int .u8) x5)) _;refine WP.seq ?_;(iterate 4 refine sp ?_);obtain ⟨x6,h1,H⟩:=bnd H;refine sn (nm_bool h1) ?_;refine sp ?_;refine cq H (fun hb1 H=>?_) fun hb1 H=>?_
   · (iterate 3 refine sp ?_);refine WP.seq ?_;(iterate 4 refine sp ?_);obtain ⟨x7,h2,H⟩:=bnd H;(iterate 3 refine sp ?_);refine WP.seq ?_;obtain ⟨x8,H2,H⟩:=bnd H;refine mo .normal ((((Env.none.upd 0 (.lit (.string x1))).upd 3 (.whole 0)).upd 4 (.lit (.int .i64 x4))).upd 5 (.lit (.int .u8 x8))) (Mem.nil.push (.row 5 (Rd.int .u8) x5)) ?_ ?_
     · clear H;have H:=H2;clear H2;refine WP.seq ?_;obtain ⟨x9,H3,H⟩:=bnd H;refine mo .normal (((((Env.none.upd 0 (.lit (.string x1))).upd 3 (.whole 0)).upd 4 (.lit (.int .i64 x4))).upd 5 (.lit (.int .u8 x7))).upd 20 (.lit (.bool x9))) (Mem.nil.push (.row 5 (Rd.int .u8) x5)) ?_ ?_
       · clear H;have H:=H3;clear H3;(iterate 4 refine sp ?_);refine ws 17 H (fun hb2 H=>?_) fun hb2 H=>?_
         · (iterate 3 refine sp ?_);refine WPL.nilW ?_;have q0:=j1 H;subst q0;exact wq [0]
         (iterate 3 refine sp ?_);refine WPL.nilW ?_;have q0:=j1 H;subst q0;exact wq [0]
       (iterate 2 refine sp ?_);refine cq H (fun hb3 H=>?_) fun hb3 H=>?_
       · (iterate 4 refine sp ?_);refine WPL.nilW ?_;have q0:=j1 H;subst q0;exact wq [0]
       refine sp ?_;have q0:=j1 H;subst q0;exact wq [0]
     (iterate 5 refine sp ?_);refine WPL.d (d_buildSlice (ds:=([x8]:List Int)) (R:=(Rd.int .u8)) li23 rfl rfl rfl rfl rfl (JoinRows.cons1 Joins.sc rfl JoinRows.nil) rfl rfl) rfl ?_;obtain ⟨h3,H⟩:=grd H;refine WPL.d (d_append ap23 rfl rfl rfl rfl (src_row sl23 rfl rfl) h3 rfl) rfl ?_;refine sp ?_;refine WPL.nilW ?_;refine sp ?_;refine InBlock.n ?_;(iterate 5 refine sp ?_);refine WPL.nilW ?_;exact wq [2] (Then.n ⟨n,((IntKind.wrap .i64 (x4+1)),(x5++([x8]:List Int))),Nat.lt_succ_self n,H,rfl,rfl⟩)
   refine sp ?_;have q0:=j1 H;subst q0;exact wq [0] (Then.x (Then.x r3))
 (iterate 5 refine sp ?_);refine WPL.qq (q_bytes_str_row Tryz.underlying23 Tryz.underlying5 Tryz.underlying9 rfl rfl) ?_;(iterate 3 refine sp ?_);have q0:=j1 H;subst q0;exact W.now (mb [])
theorem s_quireref05_Like (k:Nat) (x1:ByteArray) (x2:ByteArray) (x3:Bool) (H:g_quireref05_Like k x1 x2=some x3):Go.Q.Spec Tryz.prog 25 0 [.lit (.string x1),.lit (.string x2)] Mem.nil (fun o M=>o=.ret (.lit (.bool x3))∧M=Mem.nil):=by
 unfold g_quireref05_Like at H;refine bo Tryz.func25 [] [.tmp 4] 10 fun cx hnp=>?_;(iterate 5 refine sp ?_);obtain ⟨x4,h1,H⟩:=bnd H;refine WPL.c (rc [] [] 0 [] (s_quireref05_low k x1 x4 h1)) rfl ?_;refine sp ?_;obtain ⟨x5,h2,H⟩:=bnd H;refine WPL.c (rc [] [] 0 [] (s_quireref05_low k x2 x5 h2)) rfl ?_;(iterate 4 refine sp ?_);have q0:=j1 H;subst q0;exact W.now (mb [])
theorem s_quireref05_Read (k:Nat) (x1:(List Int)) (x2:Int) (x3:(List S_api_File)) (x4:Int) (H:g_quireref05_Read k x1 x2=some (x3,x4)):Go.Q.Spec Tryz.prog 14 0 [.ro (Rd.slice (Rd.int .u8)) false x1,.lit (.int .i64 x2)] Mem.nil (fun o M=>o=.ret (.tup [.ro (Rd.slice rdS_api_File) false x3,.lit (.int .i64 x4)])∧M=Mem.nil):=by
 unfold g_quireref05_Read at H;refine bo Tryz.func14 [] [.tmp 4,.tmp 5] 135 fun cx hnp=>?_;(iterate 4 refine sp ?_);refine WP.seq ?_;(iterate 4 refine sp ?_);refine cq H (fun hb1 H=>?_) fun hb1 H=>?_
 · (iterate 5 refine sp ?_);refine W.cv (Cv.nilRo rdS_api_File false 4 rfl) rfl ?_;obtain ⟨rfl,rfl⟩:=j2 H;exact W.now (Then.r (mb []))
 (iterate 5 refine sp ?_);obtain ⟨⟨x5,x6,x7,x8⟩,h1,H⟩:=bnd H;refine WPL.c (rc [] [] 0 [] (s_quireref05_directory k x1 x5 x6 x7 x8 h1)) rfl ?_;(iterate 10 refine sp ?_);refine WP.seq ?_;(iterate 4 refine sp ?_);refine cq H (fun hb2 H=>?_) fun hb2 H=>?_
 · (iterate 6 refine sp ?_);refine W.cv (Cv.nilRo rdS_api_File false 4 rfl) rfl ?_;obtain ⟨rfl,rfl⟩:=j2 H;exact W.now (Then.r (mb []))
 (iterate 9 refine sp ?_);refine WP.seq ?_;(iterate 4 refine sp ?_);refine WP.cv (Cv.vir 41 rdS_api_File (N:=0) rfl 10 rfl) ?_;refine WP.cv (Cv.weak (E':=((((((((Env.none.upd 0 (.ro (Rd.slice (Rd.int .u8)) false x1)).upd 1 (.lit (.int .i64 x2))).upd 6 (.ro (Rd.slice rdS_quireref05_Entry) false x5)).upd 7 (.ro (Rd.slice (Rd.int .i64)) false x6)).upd 8 (.lit (.int .i64 x7))).upd 10 (.whole 0)).upd 11 (.lit (.int .i64 0))).upd 12 (.lit (.int .i64 0)))) (M':=(Mem.nil.push (.row 41 rdS_api_File ([]:List S_api_File)))) [0] hnp ⟨rfl,AA1,by decide,rfl,trivial⟩ (LeE.u (LeE.u (LeE.u (LeE.u (LeE.u (LeE.u (LeE.u (LeE.u (LeE.none rfl rfl)))))))))) ?_;obtain ⟨y1,H1,H⟩:=bnd H;refine WP.monoW (Q:=fun x E M=>match (generalizing:=false) y1 with | (Sum.inl x9)=>x=.ret∧E=((Env.none.upd 4 (.lit (.slice none 0 0))).upd 5 (.lit (.int .i64 x9)))∧M=Mem.nil | (Sum.inr (x10,x11))=>x=.exit 0∧E=(((Env.none.upd 8 (.lit (.int .i64 x7))).upd 10 (.whole 0)).upd 11 (.lit (.int .i64 x10)))∧M=(Mem.nil.push (.row 41 rdS_api_File x11))) ?_ ?_
 · refine WP.loop (β:=Int × Int × Int × (List S_api_File)) (fun n b=>g_quireref05_Read_l0 k x1 x5 x6 x7 n b.1 b.2.1 b.2.2.1 b.2.2.2=some y1) (fun b=>((((((((Env.none.upd 0 (.ro (Rd.slice (Rd.int .u8)) false x1)).upd 1 (.lit (.int .i64 b.1))).upd 6 (.ro (Rd.slice rdS_quireref05_Entry) false x5)).upd 7 (.ro (Rd.slice (Rd.int .i64)) false x6)).upd 8 (.lit (.int .i64 x7))).upd 10 (.whole 0)).upd 11 (.lit (.int .i64 b.2.1))).upd 12 (.lit (.int .i64 b.2.2.1)))) (fun b=>(Mem.nil.push (.row 41 rdS_api_File b.2.2.2))) k (x2,0,0,([]:List S_api_File)) H1 rfl rfl ?_;rintro n ⟨x12,x13,x14,x15⟩ H;obtain _ | n:=n
   · exact nf rfl H
   rw [g_quireref05_Read_l0.eq_2] at H;show WP _ _ _ _ ((((((((Env.none.upd 0 (.ro (Rd.slice (Rd.int .u8)) false x1)).upd 1 (.lit (.int .i64 x12))).upd 6 (.ro (Rd.slice rdS_quireref05_Entry) false x5)).upd 7 (.ro (Rd.slice (Rd.int .i64)) false x6)).upd 8 (.lit (.int .i64 x7))).upd 10 (.whole 0)).upd 11 (.lit (.int .i64 x13))).upd 12 (.lit (.int .i64 x14))) (Mem.nil.push (.row 41 rdS_api_File x15)) _;refine WP.seq ?_;(iterate 4 refine sp ?_);obtain ⟨x16,h2,H⟩:=bnd H;refine sn (nm_bool h2) ?_;refine sp ?_;refine cq H (fun hb3 H=>?_) fun hb3 H=>?_
   · (iterate 3 refine sp ?_);refine WP.seq ?_;(iterate 4 refine sp ?_);obtain ⟨x17,h3,H⟩:=bnd H;refine sp ?_;refine WPL.qq (q_load_roag ag53 rfl rfl S_quireref05_Entry.sp) ?_;(iterate 3 refine sp ?_);refine WP.seq ?_;(iterate 3 refine sp ?_);obtain ⟨x18,h4,H⟩:=bnd H;refine WPL.c (rc [] [] 2 [] (s_quireref05_Right k x17.fName x18 h4)) rfl ?_;(iterate 2 refine sp ?_);refine cq H (fun hb4 H=>?_) fun hb4 H=>?_
     · (iterate 5 refine sp ?_);have q0:=j1 H;subst q0;exact wq [] (Then.r (InBlock.r (Then.r (Then.r r3))))
     (iterate 3 refine sp ?_);refine WP.seq ?_;(iterate 4 refine sp ?_);refine WP.cv (Cv.weak (E':=((((((((((Env.none.upd 0 (.ro (Rd.slice (Rd.int .u8)) false x1)).upd 1 (.lit (.int .i64 x12))).upd 6 (.ro (Rd.slice rdS_quireref05_Entry) false x5)).upd 7 (.ro (Rd.slice (Rd.int .i64)) false x6)).upd 8 (.lit (.int .i64 x7))).upd 10 (.whole 0)).upd 11 (.lit (.int .i64 x13))).upd 12 (.lit (.int .i64 x14))).upd 13 (.ptr 1 0)).upd 14 (.lit (.int .i64 0)))) (M':=((Mem.nil.push (.row 41 rdS_api_File x15)).push (.cells 53 [.lit (.int .i64 x17.fMethod),.lit (.int .i64 x17.fCrc),.lit (.int .i64 x17.fPacked),.lit (.int .i64 x17.fSize),.lit (.string x17.fName)]))) [0,1] hnp ⟨rfl,AA2,by decide,rfl,trivial⟩ (LeE.u (LeE.u (LeE.u (LeE.u (LeE.u (LeE.u (LeE.u (LeE.u (LeE.u (LeE.u (LeE.none rfl rfl)))))))))))) ?_;obtain ⟨y2,H2,H⟩:=bnd H;refine WP.monoW (Q:=fun x E M=>match (generalizing:=false) y2 with | (Sum.inl _)=>x=.ret∧E=((Env.none.upd 4 (.lit (.slice none 0 0))).upd 5 (.lit (.int .i64 43)))∧M=Mem.nil | (Sum.inr _)=>x=.exit 2∧E=(((((((((Env.none.upd 0 (.ro (Rd.slice (Rd.int .u8)) false x1)).upd 1 (.lit (.int .i64 x12))).upd 6 (.ro (Rd.slice rdS_quireref05_Entry) false x5)).upd 7 (.ro (Rd.slice (Rd.int .i64)) false x6)).upd 8 (.lit (.int .i64 x7))).upd 10 (.whole 0)).upd 11 (.lit (.int .i64 x13))).upd 12 (.lit (.int .i64 x14))).upd 13 (.ptr 1 0))∧M=((Mem.nil.push (.row 41 rdS_api_File x15)).push (.cells 53 [.lit (.int .i64 x17.fMethod),.lit (.int .i64 x17.fCrc),.lit (.int .i64 x17.fPacked),.lit (.int .i64 x17.fSize),.lit (.string x17.fName)]))) ?_ ?_
     · refine WP.loop (β:=Int) (fun n b=>g_quireref05_Read_l1 k x5 x14 x17 n b=some y2) (fun b=>((((((((((Env.none.upd 0 (.ro (Rd.slice (Rd.int .u8)) false x1)).upd 1 (.lit (.int .i64 x12))).upd 6 (.ro (Rd.slice rdS_quireref05_Entry) false x5)).upd 7 (.ro (Rd.slice (Rd.int .i64)) false x6)).upd 8 (.lit (.int .i64 x7))).upd 10 (.whole 0)).upd 11 (.lit (.int .i64 x13))).upd 12 (.lit (.int .i64 x14))).upd 13 (.ptr 1 0)).upd 14 (.lit (.int .i64 b)))) (fun b=>((Mem.nil.push (.row 41 rdS_api_File x15)).push (.cells 53 [.lit (.int .i64 x17.fMethod),.lit (.int .i64 x17.fCrc),.lit (.int .i64 x17.fPacked),.lit (.int .i64 x17.fSize),.lit (.string x17.fName)]))) k 0 H2 rfl rfl ?_;rintro n x19 H;obtain _ | n:=n
       · exact nf rfl H
       rw [g_quireref05_Read_l1.eq_2] at H;show WP _ _ _ _ ((((((((((Env.none.upd 0 (.ro (Rd.slice (Rd.int .u8)) false x1)).upd 1 (.lit (.int .i64 x12))).upd 6 (.ro (Rd.slice rdS_quireref05_Entry) false x5)).upd 7 (.ro (Rd.slice (Rd.int .i64)) false x6)).upd 8 (.lit (.int .i64 x7))).upd 10 (.whole 0)).upd 11 (.lit (.int .i64 x13))).upd 12 (.lit (.int .i64 x14))).upd 13 (.ptr 1 0)).upd 14 (.lit (.int .i64 x19))) ((Mem.nil.push (.row 41 rdS_api_File x15)).push (.cells 53 [.lit (.int .i64 x17.fMethod),.lit (.int .i64 x17.fCrc),.lit (.int .i64 x17.fPacked),.lit (.int .i64 x17.fSize),.lit (.string x17.fName)])) _;refine WP.seq ?_;(iterate 5 refine sp ?_);refine cq H (fun hb5 H=>?_) fun hb5 H=>?_
       · (iterate 3 refine sp ?_);refine WP.seq ?_;refine sp ?_;refine WP.seq ?_;refine WP.regionD' 8 [1] [] mixed rfl ?_;refine dT 0 ?_;refine dT 1 ?_;obtain ⟨x20,h5,H⟩:=bnd H;refine dT 2 ?_;refine WPD.tT 3 rfl (q_fieldAddr_ro fi53_4 rfl rfl S_quireref05_Entry.p4 (Nat.le_of_ble_eq_true rfl)) ?_;refine dT 4 ?_;refine dT 5 ?_;refine dK 6 ?_;obtain ⟨x21,h5,H⟩:=bnd H;refine dE 7 [1] [] rfl (rc [] [] 2 [] (s_quireref05_Like k x20.fName x17.fName x21 h5)) ?_;refine WPD.doneW (by kernel_rfl) ?_;(iterate 2 refine sp ?_);refine cq H (fun hb6 H=>?_) fun hb6 H=>?_
         · (iterate 5 refine sp ?_);have q0:=j1 H;subst q0;exact wq [] (InBlock.r (Then.r (Then.r r3)))
         (iterate 2 refine sp ?_);refine InBlock.n ?_;(iterate 5 refine sp ?_);refine WPL.nilW ?_;exact wq [0,1] (Then.n ⟨n,(IntKind.wrap .i64 (x19+1)),Nat.lt_succ_self n,H,rfl,rfl⟩)
       refine sp ?_;have q0:=j1 H;subst q0;exact wq [0,1] (Then.x (Then.x r3))
     rcases y2 with _ | _
     · rintro _ _ _ ⟨rfl,rfl,rfl⟩;have q0:=j1 H;subst q0;exact wq [] (InBlock.r (Then.r (InBlock.r (Then.r (Then.r r3)))))
     rintro _ _ _ ⟨rfl,rfl,rfl⟩;(iterate 3 refine sp ?_);refine WP.seq ?_;refine WP.seq ?_;obtain ⟨x22,H3,H⟩:=bnd H;refine mo .normal ((((((((((Env.none.upd 0 (.ro (Rd.slice (Rd.int .u8)) false x1)).upd 1 (.lit (.int .i64 x12))).upd 6 (.ro (Rd.slice rdS_quireref05_Entry) false x5)).upd 7 (.ro (Rd.slice (Rd.int .i64)) false x6)).upd 8 (.lit (.int .i64 x7))).upd 10 (.whole 0)).upd 11 (.lit (.int .i64 x13))).upd 12 (.lit (.int .i64 x14))).upd 13 (.ptr 1 0)).upd 79 (.lit (.bool x22))) ((Mem.nil.push (.row 41 rdS_api_File x15)).push (.cells 53 [.lit (.int .i64 x17.fMethod),.lit (.int .i64 x17.fCrc),.lit (.int .i64 x17.fPacked),.lit (.int .i64 x17.fSize),.lit (.string x17.fName)])) ?_ ?_
     · clear H;have H:=H3;clear H3;(iterate 5 refine sp ?_);refine ws 59 H (fun hb7 H=>?_) fun hb7 H=>?_
       · (iterate 5 refine sp ?_);refine ws 64 H (fun hb8 H=>?_) fun hb8 H=>?_
         · (iterate 15 refine sp ?_);refine WPL.nilW ?_;have q0:=j1 H;subst q0;exact wq [0,1]
         (iterate 2 refine sp ?_);obtain ⟨x23,h6,H⟩:=bnd H;(iterate 6 refine sp ?_);refine ws 72 H (fun hb9 H=>?_) fun hb9 H=>?_
         · (iterate 7 refine sp ?_);refine WPL.nilW ?_;have q0:=j1 H;subst q0;exact wq [0,1]
         (iterate 3 refine sp ?_);obtain ⟨x24,h7,H⟩:=bnd H;refine WPL.cg rfl rfl (lb hb9) (rc [] [] 2 [] (s_quireref05_Local k x17.fMethod x17.fCrc x17.fPacked x17.fSize x17.fName x24 h7)) rfl ?_;obtain ⟨x25,h8,H⟩:=bnd H;refine WPL.cg rfl rfl (lb hb9) (rc [] [] 2 [] (s_quireref05_same k x1 x13 x24 x25 h8) (hargs:=.ren rfl rfl (.ren rfl rfl (.ren rfl rfl .nil)))) rfl ?_;(iterate 2 refine sp ?_);refine WPL.nilW ?_;have q0:=j1 H;subst q0;exact wq [0,1]
       (iterate 5 refine sp ?_);refine WPL.qg rfl rfl rfl aq rfl ?_;refine WPL.qg rfl rfl rfl aq rfl ?_;obtain ⟨x26,h9,H⟩:=bnd H;refine WPL.qg rfl rfl rfl aq rfl ?_;refine WPL.qg rfl rfl rfl aq rfl ?_;refine WPL.qg rfl rfl rfl aq rfl ?_;refine WPL.qg rfl rfl rfl aq rfl ?_;(iterate 2 refine sp ?_);refine ws 72 H (fun hb10 H=>?_) fun hb10 H=>?_
       · (iterate 7 refine sp ?_);refine WPL.nilW ?_;have q0:=j1 H;subst q0;exact wq [0,1]
       (iterate 3 refine sp ?_);obtain ⟨x27,h10,H⟩:=bnd H;refine WPL.cg rfl rfl (lb hb10) (rc [] [] 2 [] (s_quireref05_Local k x17.fMethod x17.fCrc x17.fPacked x17.fSize x17.fName x27 h10)) rfl ?_;obtain ⟨x28,h11,H⟩:=bnd H;refine WPL.cg rfl rfl (lb hb10) (rc [] [] 2 [] (s_quireref05_same k x1 x13 x27 x28 h11) (hargs:=.ren rfl rfl (.ren rfl rfl (.ren rfl rfl .nil)))) rfl ?_;(iterate 2 refine sp ?_);refine WPL.nilW ?_;have q0:=j1 H;subst q0;exact wq [0,1]
     (iterate 2 refine sp ?_);refine cq H (fun hb11 H=>?_) fun hb11 H=>?_
     · (iterate 5 refine sp ?_);have q0:=j1 H;subst q0;exact wq [] (Then.r (InBlock.r (Then.r (Then.r r3))))
     (iterate 3 refine sp ?_);refine WP.seq ?_;refine WP.seq ?_;obtain ⟨x29,H4,H⟩:=bnd H;refine mo .normal ((((((((((Env.none.upd 0 (.ro (Rd.slice (Rd.int .u8)) false x1)).upd 1 (.lit (.int .i64 x12))).upd 6 (.ro (Rd.slice rdS_quireref05_Entry) false x5)).upd 7 (.ro (Rd.slice (Rd.int .i64)) false x6)).upd 8 (.lit (.int .i64 x7))).upd 10 (.whole 0)).upd 11 (.lit (.int .i64 x13))).upd 12 (.lit (.int .i64 x14))).upd 13 (.ptr 1 0)).upd 88 (.lit (.bool x29))) ((Mem.nil.push (.row 41 rdS_api_File x15)).push (.cells 53 [.lit (.int .i64 x17.fMethod),.lit (.int .i64 x17.fCrc),.lit (.int .i64 x17.fPacked),.lit (.int .i64 x17.fSize),.lit (.string x17.fName)])) ?_ ?_
     · clear H;have H:=H4;clear H4;(iterate 5 refine sp ?_);refine ws 83 H (fun hb12 H=>?_) fun hb12 H=>?_
       · (iterate 5 refine sp ?_);refine WPL.nilW ?_;have q0:=j1 H;subst q0;exact wq [0,1]
       (iterate 5 refine sp ?_);refine WPL.nilW ?_;have q0:=j1 H;subst q0;exact wq [0,1]
     (iterate 2 refine sp ?_);refine cq H (fun hb13 H=>?_) fun hb13 H=>?_
     · (iterate 5 refine sp ?_);have q0:=j1 H;subst q0;exact wq [] (Then.r (InBlock.r (Then.r (Then.r r3))))
     (iterate 15 refine sp ?_);obtain ⟨x30,h12,H⟩:=bnd H;refine sn (nm_int h12) ?_;obtain ⟨x31,h13,H⟩:=bnd H;refine sn (nm_int h13) ?_;(iterate 2 refine sp ?_);refine WP.seq ?_;(iterate 6 refine sp ?_);obtain ⟨x32,h14,H⟩:=bnd H;refine sn (nm_bool h14) ?_;refine sp ?_;refine cq H (fun hb14 H=>?_) fun hb14 H=>?_
     · (iterate 5 refine sp ?_);have q0:=j1 H;subst q0;exact wq [] (Then.r (InBlock.r (Then.r (Then.r r3))))
     (iterate 3 refine sp ?_);refine WP.seq ?_;refine WP.regionD' 14 [1] [] mixed rfl ?_;refine dT 1 ?_;refine dT 2 ?_;refine dT 3 ?_;refine dT 4 ?_;refine dK 0 ?_;refine dK 5 ?_;obtain ⟨x33,h15,H⟩:=bnd H;refine dT 6 ?_ rfl (q_nm aq (nm_int h15));obtain ⟨h15,H⟩:=grd H;refine WPD.tT 7 rfl (q_slice_ro (i:=x31) (j:=x33) sl23 rfl rfl ⟨_,rfl⟩ ⟨_,rfl⟩ h15) ?_;obtain ⟨⟨x34,x35⟩,h16,H⟩:=bnd H;refine dE 8 [1] [] rfl (rc [] [] 2 [] (s_quireref05_unpack k x17.fMethod x17.fCrc x17.fPacked x17.fSize x17.fName (List.drop (Int.toNat x31) (List.take (Int.toNat x33) x1)) x34 x35 h16)) ?_;refine dT 9 ?_;refine dT 10 ?_;refine dT 11 ?_;refine dT 12 ?_;refine dT 13 ?_;refine WPD.doneW (by kernel_rfl) ?_;(iterate 2 refine sp ?_);refine WP.seq ?_;(iterate 4 refine sp ?_);refine cq H (fun hb15 H=>?_) fun hb15 H=>?_
     · (iterate 6 refine sp ?_);have q0:=j1 H;subst q0;exact wq [] (Then.r (InBlock.r (Then.r (Then.r r3))))
     (iterate 9 refine sp ?_);refine WPL.d (d_buildSlice (ds:=([(⟨x17.fName,x34⟩:S_api_File)]:List S_api_File)) (R:=rdS_api_File) li22 rfl rfl rfl rfl rfl (JoinRows.cons (l:=[.lit (.string x17.fName),.ro (Rd.slice (Rd.int .u8)) false x34]) (Joins.via (Joins.cons Joins.sc (Joins.cons Joins.one Joins.unit))) rfl JoinRows.nil) rfl rfl) rfl ?_;obtain ⟨h17,H⟩:=grd H;refine WPL.d (d_append ap22 rfl rfl rfl rfl (src_row sl22 rfl rfl) h17 rfl) rfl ?_;(iterate 6 refine sp ?_);obtain ⟨x36,h18,H⟩:=bnd H;refine sn (nm_int h18) ?_;refine sp ?_;refine WPL.nilW ?_;refine sp ?_;refine InBlock.n ?_;(iterate 5 refine sp ?_);refine WPL.nilW ?_;exact wq [3] (Then.n ⟨n,((IntKind.wrap .i64 (x12 - x17.fSize)),x36,(IntKind.wrap .i64 (x14+1)),(x15++([(⟨x17.fName,x34⟩:S_api_File)]:List S_api_File))),Nat.lt_succ_self n,H,rfl,rfl⟩)
   refine sp ?_;have q0:=j1 H;subst q0;exact wq [0] (Then.x (Then.x r3))
 rcases y1 with x9 | ⟨x10,x11⟩
 · rintro _ _ _ ⟨rfl,rfl,rfl⟩;refine W.cv (Cv.nilRo rdS_api_File false 4 rfl) rfl ?_;obtain ⟨rfl,rfl⟩:=j2 H;exact W.now (InBlock.r (Then.r (mb [])))
 rintro _ _ _ ⟨rfl,rfl,rfl⟩;(iterate 3 refine sp ?_);refine WP.seq ?_;(iterate 5 refine sp ?_);refine cq H (fun hb16 H=>?_) fun hb16 H=>?_
 · (iterate 5 refine sp ?_);refine W.cv (Cv.nilRo rdS_api_File false 4 rfl) rfl ?_;obtain ⟨rfl,rfl⟩:=j2 H;exact W.now (Then.r (mb []))
 (iterate 9 refine sp ?_);refine W.cv (Cv.frzRow (i:=0) rfl rfl hnp rfl rfl) rfl ?_;obtain ⟨rfl,rfl⟩:=j2 H;exact W.now (mb [])
theorem s_quireref05_Same (k:Nat) (x1:(List S_api_File)) (x2:(List S_api_File)) (x3:Bool) (H:g_quireref05_Same k x1 x2=some x3):Go.Q.Spec Tryz.prog 15 0 [.ro (Rd.slice rdS_api_File) false x1,.ro (Rd.slice rdS_api_File) false x2] Mem.nil (fun o M=>o=.ret (.lit (.bool x3))∧M=Mem.nil):=by
 unfold g_quireref05_Same at H;refine bo Tryz.func15 [] [.tmp 4] 43 fun cx hnp=>?_;(iterate 3 refine sp ?_);refine WP.seq ?_;(iterate 5 refine sp ?_);obtain ⟨x4,h1,H⟩:=bnd H;refine sn (nm_bool h1) ?_;refine sp ?_;refine cq H (fun hb1 H=>?_) fun hb1 H=>?_
 · (iterate 4 refine sp ?_);have q0:=j1 H;subst q0;exact W.now (Then.r (mb []))
 (iterate 3 refine sp ?_);refine WP.seq ?_;(iterate 4 refine sp ?_);refine WP.cv (Cv.weak (E':=(((Env.none.upd 0 (.ro (Rd.slice rdS_api_File) false x1)).upd 1 (.ro (Rd.slice rdS_api_File) false x2)).upd 5 (.lit (.int .i64 0)))) (M':=Mem.nil) [] hnp ⟨rfl,trivial,by decide,rfl,trivial⟩ (LeE.u (LeE.u (LeE.u (LeE.none rfl rfl))))) ?_;obtain ⟨y1,H1,H⟩:=bnd H;refine WP.monoW (Q:=fun x E M=>match (generalizing:=false) y1 with | (Sum.inl _)=>x=.ret∧E=(Env.none.upd 4 (.lit (.bool false)))∧M=Mem.nil | (Sum.inr _)=>x=.exit 0∧E=Env.none∧M=Mem.nil) ?_ ?_
 · refine WP.loop (β:=Int) (fun n b=>g_quireref05_Same_l0 k x1 x2 n b=some y1) (fun b=>(((Env.none.upd 0 (.ro (Rd.slice rdS_api_File) false x1)).upd 1 (.ro (Rd.slice rdS_api_File) false x2)).upd 5 (.lit (.int .i64 b)))) (fun b=>Mem.nil) k 0 H1 rfl rfl ?_;rintro n x5 H;obtain _ | n:=n
   · exact nf rfl H
   rw [g_quireref05_Same_l0.eq_2] at H;show WP _ _ _ _ (((Env.none.upd 0 (.ro (Rd.slice rdS_api_File) false x1)).upd 1 (.ro (Rd.slice rdS_api_File) false x2)).upd 5 (.lit (.int .i64 x5))) Mem.nil _;refine WP.seq ?_;(iterate 4 refine sp ?_);obtain ⟨x6,h2,H⟩:=bnd H;refine sn (nm_bool h2) ?_;refine sp ?_;refine cq H (fun hb2 H=>?_) fun hb2 H=>?_
   · (iterate 3 refine sp ?_);refine WP.seq ?_;refine sp ?_;refine WP.seq ?_;obtain ⟨x7,H2,H⟩:=bnd H;refine mo .normal ((((Env.none.upd 0 (.ro (Rd.slice rdS_api_File) false x1)).upd 1 (.ro (Rd.slice rdS_api_File) false x2)).upd 5 (.lit (.int .i64 x5))).upd 42 (.lit (.bool x7))) Mem.nil ?_ ?_
     · clear H;have H:=H2;clear H2;refine WP.regionD' 26 [] [] mixed rfl ?_;refine dT 0 ?_;refine dT 1 ?_;obtain ⟨x8,h3,H⟩:=bnd H;refine dT 2 ?_;refine WPD.tT 3 rfl (q_fieldAddr_ro fi41_0 rfl rfl S_api_File.p0 (Nat.le_of_ble_eq_true rfl)) ?_;refine dT 4 ?_;refine dT 5 ?_;refine dT 6 ?_;obtain ⟨x9,h4,H⟩:=bnd H;refine dT 7 ?_;refine WPD.tT 8 rfl (q_fieldAddr_ro fi41_0 rfl rfl S_api_File.p0 (Nat.le_of_ble_eq_true rfl)) ?_;refine dT 9 ?_;obtain ⟨x10,h5,H⟩:=bnd H;refine dT 10 ?_ rfl (q_nm aq (nm_bool h5));refine dT 11 ?_;refine ds 28 H (fun hb3 H=>?_) fun hb3 H=>?_
       · refine dP true 12 ?_;refine dP true 13 ?_;refine dP true 14 ?_;refine dP true 15 ?_;refine dP true 16 ?_;refine dP true 17 ?_;refine dP true 18 ?_;refine dP true 19 ?_;refine dP true 20 ?_;refine dP true 21 ?_;refine dP true 22 ?_;refine dP true 23 ?_;refine dP true 24 ?_;refine dT 25 ?_;refine WPD.doneW (by kernel_rfl) ?_;have q0:=j1 H;subst q0;exact wq []
       refine dG 12 ?_;refine dG 13 ?_;obtain ⟨x11,h6,H⟩:=bnd H;refine dG 14 ?_;refine WPD.takegT 15 rfl (by kernel_rfl) rfl rfl (lb hb3) (q_fieldAddr_ro fi41_1 rfl rfl S_api_File.p1 (Nat.le_of_ble_eq_true rfl)) rfl ?_;refine WPD.takegT 16 rfl (by kernel_rfl) rfl rfl (lb hb3) (q_load_ro sc23 rfl rfl) rfl ?_;refine WPD.takegT 17 rfl (by kernel_rfl) rfl rfl (lb hb3) (q_bytes_str Tryz.underlying23 Tryz.underlying5 Tryz.underlying9 rfl) rfl ?_;refine dG 18 ?_;refine dG 19 ?_;obtain ⟨x12,h7,H⟩:=bnd H;refine dG 20 ?_;refine WPD.takegT 21 rfl (by kernel_rfl) rfl rfl (lb hb3) (q_fieldAddr_ro fi41_1 rfl rfl S_api_File.p1 (Nat.le_of_ble_eq_true rfl)) rfl ?_;refine WPD.takegT 22 rfl (by kernel_rfl) rfl rfl (lb hb3) (q_load_ro sc23 rfl rfl) rfl ?_;refine WPD.takegT 23 rfl (by kernel_rfl) rfl rfl (lb hb3) (q_bytes_str Tryz.underlying23 Tryz.underlying5 Tryz.underlying9 rfl) rfl ?_;obtain ⟨x13,h8,H⟩:=bnd H;refine dG 24 ?_ rfl rfl gv (q_nm aq (nm_bool h8));refine dT 25 ?_;refine WPD.doneW (by kernel_rfl) ?_;have q0:=j1 H;subst q0;exact wq []
     (iterate 2 refine sp ?_);refine cq H (fun hb4 H=>?_) fun hb4 H=>?_
     · (iterate 4 refine sp ?_);have q0:=j1 H;subst q0;exact wq [] (InBlock.r (Then.r (Then.r r3)))
     (iterate 2 refine sp ?_);refine InBlock.n ?_;(iterate 5 refine sp ?_);refine WPL.nilW ?_;exact wq [] (Then.n ⟨n,(IntKind.wrap .i64 (x5+1)),Nat.lt_succ_self n,H,rfl,rfl⟩)
   refine sp ?_;have q0:=j1 H;subst q0;exact wq [] (Then.x (Then.x r3))
 rcases y1 with _ | _
 · rintro _ _ _ ⟨rfl,rfl,rfl⟩;have q0:=j1 H;subst q0;exact W.now (InBlock.r (Then.r (mb [])))
 rintro _ _ _ ⟨rfl,rfl,rfl⟩;(iterate 7 refine sp ?_);have q0:=j1 H;subst q0;exact W.now (mb [])
theorem s_zip_Names (k:Nat) (x1:(List Int)) (x2:(List ByteArray)) (x3:Int) (H:g_zip_Names k x1=some (x2,x3)):Go.Q.Spec Tryz.prog 18 0 [.ro (Rd.slice (Rd.int .u8)) false x1] Mem.nil (fun o M=>o=.ret (.tup [.ro (Rd.slice Rd.str) false x2,.lit (.int .i64 x3)])∧M=Mem.nil):=by
 unfold g_zip_Names at H;refine bo Tryz.func18 [] [.tmp 2,.tmp 3] 28 fun cx hnp=>?_;(iterate 6 refine sp ?_);obtain ⟨⟨x4,x5⟩,h1,H⟩:=bnd H;refine WPL.c (runs_call (s:=[]) (t:=[]) (N:=0) (bor:=[]) fn13 rfl (s_zip_Read k x1 1073741824 x4 x5 h1) ⟨rfl,trivial,by decide,rfl,trivial⟩ rfl trivial (.ro (.ren rfl rfl .nil)) rfl trivial rfl) rfl ?_;(iterate 9 refine sp ?_);refine WP.seq ?_;(iterate 6 refine sp ?_);refine WP.cv (Cv.vir 9 Rd.str (N:=0) rfl 6 rfl) ?_;refine WP.cv (Cv.weak (E':=(((((Env.none.upd 5 (.lit (.int .i64 x5))).upd 6 (.whole 0)).upd 14 (.ro (Rd.slice rdS_api_File) false x4)).upd 15 (.lit (.int .i64 ((List.length x4:Nat):Int)))).upd 16 (.lit (.int .i64 0)))) (M':=(Mem.nil.push (.row 9 Rd.str ([]:List ByteArray)))) [0] hnp ⟨rfl,AA1,by decide,rfl,trivial⟩ (LeE.u (LeE.u (LeE.u (LeE.u (LeE.u (LeE.none rfl rfl))))))) ?_;obtain ⟨x6,H1,H⟩:=bnd H;refine mo (.exit 0) ((Env.none.upd 5 (.lit (.int .i64 x5))).upd 6 (.whole 0)) (Mem.nil.push (.row 9 Rd.str x6)) ?_ ?_
 · refine WP.loop (β:=Int × (List ByteArray)) (fun n b=>g_zip_Names_l0 k x4 n b.1 b.2=some x6) (fun b=>(((((Env.none.upd 5 (.lit (.int .i64 x5))).upd 6 (.whole 0)).upd 14 (.ro (Rd.slice rdS_api_File) false x4)).upd 15 (.lit (.int .i64 ((List.length x4:Nat):Int)))).upd 16 (.lit (.int .i64 b.1)))) (fun b=>(Mem.nil.push (.row 9 Rd.str b.2))) k (0,([]:List ByteArray)) H1 rfl rfl ?_;rintro n ⟨x7,x8⟩ H;obtain _ | n:=n
   · exact nf rfl H
   rw [g_zip_Names_l0.eq_2] at H;show WP _ _ _ _ (((((Env.none.upd 5 (.lit (.int .i64 x5))).upd 6 (.whole 0)).upd 14 (.ro (Rd.slice rdS_api_File) false x4)).upd 15 (.lit (.int .i64 ((List.length x4:Nat):Int)))).upd 16 (.lit (.int .i64 x7))) (Mem.nil.push (.row 9 Rd.str x8)) _;refine sp ?_;obtain ⟨x9,h2,H⟩:=bnd H;refine sn (nm_bool h2) ?_;refine sp ?_;refine WP.seq ?_;refine cq H (fun hb1 H=>?_) fun hb1 H=>?_
   · (iterate 3 refine sp ?_);refine WP.seq ?_;(iterate 2 refine sp ?_);obtain ⟨x10,h3,H⟩:=bnd H;refine sp ?_;refine WPL.qq (q_load_roag ag41 rfl rfl S_api_File.sp) ?_;(iterate 7 refine sp ?_);refine WPL.d (d_buildSlice (ds:=([x10.fName]:List ByteArray)) (R:=Rd.str) li37 rfl rfl rfl rfl rfl (JoinRows.cons1 Joins.sc rfl JoinRows.nil) rfl rfl) rfl ?_;obtain ⟨h3,H⟩:=grd H;refine WPL.d (d_append ap37 rfl rfl rfl rfl (src_row sl37 rfl rfl) h3 rfl) rfl ?_;refine sp ?_;refine WPL.nilW ?_;refine sp ?_;refine InBlock.n ?_;(iterate 4 refine sp ?_);refine WPL.nilW ?_;exact wq [3] (Then.n ⟨n,((IntKind.wrap .i64 (x7+1)),(x8++([x10.fName]:List ByteArray))),Nat.lt_succ_self n,H,rfl,rfl⟩)
   refine sp ?_;have q0:=j1 H;subst q0;exact wq [0] (Then.x (Then.x r3))
 (iterate 10 refine sp ?_);refine W.cv (Cv.frzRow (i:=0) rfl rfl hnp rfl rfl) rfl ?_;obtain ⟨rfl,rfl⟩:=j2 H;exact W.now (mb [])
theorem s_zip_check (k:Nat) (x1:(List S_api_File)) (x2:Int) (x3:Int) (H:g_zip_check k x1 x2=some x3):Go.Q.Spec Tryz.prog 19 0 [.ro (Rd.slice rdS_api_File) false x1,.lit (.int .i64 x2)] Mem.nil (fun o M=>o=.ret (.lit (.int .i64 x3))∧M=Mem.nil):=by
 unfold g_zip_check at H;refine bo Tryz.func19 [] [.tmp 4] 68 fun cx hnp=>?_;(iterate 3 refine sp ?_);refine WP.scope ?_;refine WP.seq ?_;refine WP.seq ?_;obtain ⟨x4,H1,H⟩:=bnd H;refine mo .normal ((Env.none.upd 0 (.ro (Rd.slice rdS_api_File) false x1)).upd 19 (.lit (.bool x4))) Mem.nil ?_ ?_
 · clear H;have H:=H1;clear H1;(iterate 4 refine sp ?_);refine ws 16 H (fun hb1 H=>?_) fun hb1 H=>?_
   · (iterate 3 refine sp ?_);refine WPL.nilW ?_;have q0:=j1 H;subst q0;exact wq []
   (iterate 3 refine sp ?_);refine WPL.nilW ?_;have q0:=j1 H;subst q0;exact wq []
 (iterate 2 refine sp ?_);refine cq H (fun hb2 H=>?_) fun hb2 H=>?_
 · (iterate 4 refine sp ?_);have q0:=j1 H;subst q0;exact W.now (Then.r (Scope.r (mb [])))
 (iterate 3 refine sp ?_);refine WP.seq ?_;(iterate 3 refine sp ?_);obtain ⟨x5,h1,H⟩:=bnd H;refine sn (nm_bool h1) ?_;refine sp ?_;refine cq H (fun hb3 H=>?_) fun hb3 H=>?_
 · (iterate 4 refine sp ?_);have q0:=j1 H;subst q0;exact W.now (Then.r (Scope.r (mb [])))
 (iterate 3 refine sp ?_);refine WP.seq ?_;(iterate 6 refine sp ?_);refine WP.cv (Cv.weak (E':=((((Env.none.upd 0 (.ro (Rd.slice rdS_api_File) false x1)).upd 23 (.ro (Rd.slice rdS_api_File) false x1)).upd 24 (.lit (.int .i64 ((List.length x1:Nat):Int)))).upd 25 (.lit (.int .i64 0)))) (M':=Mem.nil) [] hnp ⟨rfl,trivial,by decide,rfl,trivial⟩ (LeE.u (LeE.u (LeE.u (LeE.u (LeE.none rfl rfl)))))) ?_;obtain ⟨y1,H2,H⟩:=bnd H;refine WP.monoW (Q:=fun x E M=>match (generalizing:=false) y1 with | (Sum.inl _)=>x=.ret∧E=(Env.none.upd 4 (.lit (.int .i64 3)))∧M=Mem.nil | (Sum.inr _)=>x=.exit 0∧E=(Env.none.upd 0 (.ro (Rd.slice rdS_api_File) false x1))∧M=Mem.nil) ?_ ?_
 · refine WP.loop (β:=Int) (fun n b=>g_zip_check_l0 k x1 n b=some y1) (fun b=>((((Env.none.upd 0 (.ro (Rd.slice rdS_api_File) false x1)).upd 23 (.ro (Rd.slice rdS_api_File) false x1)).upd 24 (.lit (.int .i64 ((List.length x1:Nat):Int)))).upd 25 (.lit (.int .i64 b)))) (fun b=>Mem.nil) k 0 H2 rfl rfl ?_;rintro n x6 H;obtain _ | n:=n
   · exact nf rfl H
   rw [g_zip_check_l0.eq_2] at H;show WP _ _ _ _ ((((Env.none.upd 0 (.ro (Rd.slice rdS_api_File) false x1)).upd 23 (.ro (Rd.slice rdS_api_File) false x1)).upd 24 (.lit (.int .i64 ((List.length x1:Nat):Int)))).upd 25 (.lit (.int .i64 x6))) Mem.nil _;refine sp ?_;obtain ⟨x7,h2,H⟩:=bnd H;refine sn (nm_bool h2) ?_;refine sp ?_;refine WP.seq ?_;refine cq H (fun hb4 H=>?_) fun hb4 H=>?_
   · (iterate 3 refine sp ?_);refine WP.seq ?_;(iterate 2 refine sp ?_);obtain ⟨x8,h3,H⟩:=bnd H;refine sp ?_;refine WPL.qq (q_load_roag ag41 rfl rfl S_api_File.sp) ?_;(iterate 7 refine sp ?_);obtain ⟨x9,h4,H⟩:=bnd H;refine sn (nm_bool h4) ?_;refine sp ?_;refine cq H (fun hb5 H=>?_) fun hb5 H=>?_
     · (iterate 4 refine sp ?_);have q0:=j1 H;subst q0;exact wq [] (InBlock.r (Then.r (Then.r r3)))
     (iterate 2 refine sp ?_);refine InBlock.n ?_;(iterate 4 refine sp ?_);refine WPL.nilW ?_;exact wq [] (Then.n ⟨n,(IntKind.wrap .i64 (x6+1)),Nat.lt_succ_self n,H,rfl,rfl⟩)
   refine sp ?_;have q0:=j1 H;subst q0;exact wq [] (Then.x (Then.x r3))
 rcases y1 with _ | _
 · rintro _ _ _ ⟨rfl,rfl,rfl⟩;have q0:=j1 H;subst q0;exact W.now (InBlock.r (Then.r (Scope.r (mb []))))
 rintro _ _ _ ⟨rfl,rfl,rfl⟩;(iterate 3 refine sp ?_);refine WP.seq ?_;(iterate 6 refine sp ?_);refine WP.cv (Cv.weak (E':=((((Env.none.upd 0 (.ro (Rd.slice rdS_api_File) false x1)).upd 34 (.ro (Rd.slice rdS_api_File) false x1)).upd 35 (.lit (.int .i64 ((List.length x1:Nat):Int)))).upd 36 (.lit (.int .i64 0)))) (M':=Mem.nil) [] hnp ⟨rfl,trivial,by decide,rfl,trivial⟩ (LeE.u (LeE.u (LeE.u (LeE.u (LeE.none rfl rfl)))))) ?_;obtain ⟨y2,H3,H⟩:=bnd H;refine WP.monoW (Q:=fun x E M=>match (generalizing:=false) y2 with | (Sum.inl _)=>x=.ret∧E=(Env.none.upd 4 (.lit (.int .i64 42)))∧M=Mem.nil | (Sum.inr _)=>x=.exit 2∧E=(Env.none.upd 0 (.ro (Rd.slice rdS_api_File) false x1))∧M=Mem.nil) ?_ ?_
 · refine WP.loop (β:=Int) (fun n b=>g_zip_check_l1 k x1 n b=some y2) (fun b=>((((Env.none.upd 0 (.ro (Rd.slice rdS_api_File) false x1)).upd 34 (.ro (Rd.slice rdS_api_File) false x1)).upd 35 (.lit (.int .i64 ((List.length x1:Nat):Int)))).upd 36 (.lit (.int .i64 b)))) (fun b=>Mem.nil) k 0 H3 rfl rfl ?_;rintro n x10 H;obtain _ | n:=n
   · exact nf rfl H
   rw [g_zip_check_l1.eq_2] at H;show WP _ _ _ _ ((((Env.none.upd 0 (.ro (Rd.slice rdS_api_File) false x1)).upd 34 (.ro (Rd.slice rdS_api_File) false x1)).upd 35 (.lit (.int .i64 ((List.length x1:Nat):Int)))).upd 36 (.lit (.int .i64 x10))) Mem.nil _;refine sp ?_;obtain ⟨x11,h5,H⟩:=bnd H;refine sn (nm_bool h5) ?_;refine sp ?_;refine WP.seq ?_;refine cq H (fun hb6 H=>?_) fun hb6 H=>?_
   · (iterate 3 refine sp ?_);refine WP.seq ?_;(iterate 2 refine sp ?_);obtain ⟨x12,h6,H⟩:=bnd H;refine sp ?_;refine WPL.qq (q_load_roag ag41 rfl rfl S_api_File.sp) ?_;(iterate 6 refine sp ?_);obtain ⟨x13,h6,H⟩:=bnd H;refine WPL.c (rc [] [1] 2 [] (s_zip_Right k x12.fName x13 h6)) rfl ?_;(iterate 2 refine sp ?_);refine cq H (fun hb7 H=>?_) fun hb7 H=>?_
     · (iterate 4 refine sp ?_);have q0:=j1 H;subst q0;exact wq [] (InBlock.r (Then.r (Then.r r3)))
     (iterate 2 refine sp ?_);refine InBlock.n ?_;(iterate 4 refine sp ?_);refine WPL.nilW ?_;exact wq [] (Then.n ⟨n,(IntKind.wrap .i64 (x10+1)),Nat.lt_succ_self n,H,rfl,rfl⟩)
   refine sp ?_;have q0:=j1 H;subst q0;exact wq [] (Then.x (Then.x r3))
 rcases y2 with _ | _
 · rintro _ _ _ ⟨rfl,rfl,rfl⟩;have q0:=j1 H;subst q0;exact W.now (InBlock.r (Then.r (Scope.r (mb []))))
 rintro _ _ _ ⟨rfl,rfl,rfl⟩;(iterate 6 refine sp ?_);refine WP.seq ?_;refine WP.labelW ?_;(iterate 2 refine sp ?_);refine WP.seq ?_;(iterate 6 refine sp ?_);refine WP.cv (Cv.weak (E':=(((((Env.none.upd 0 (.ro (Rd.slice rdS_api_File) false x1)).upd 9 (.lit (.bool false))).upd 45 (.ro (Rd.slice rdS_api_File) false x1)).upd 46 (.lit (.int .i64 ((List.length x1:Nat):Int)))).upd 47 (.lit (.int .i64 0)))) (M':=Mem.nil) [] hnp ⟨rfl,trivial,by decide,rfl,trivial⟩ (LeE.u (LeE.u (LeE.u (LeE.u (LeE.u (LeE.none rfl rfl))))))) ?_;obtain ⟨x14,H4,H⟩:=bnd H;refine mo (.exit 4) (Env.none.upd 9 (.lit (.bool x14))) Mem.nil ?_ ?_
 · refine WP.loop (β:=Int) (fun n b=>g_zip_check_l2 k x1 n b=some x14) (fun b=>(((((Env.none.upd 0 (.ro (Rd.slice rdS_api_File) false x1)).upd 9 (.lit (.bool false))).upd 45 (.ro (Rd.slice rdS_api_File) false x1)).upd 46 (.lit (.int .i64 ((List.length x1:Nat):Int)))).upd 47 (.lit (.int .i64 b)))) (fun b=>Mem.nil) k 0 H4 rfl rfl ?_;rintro n x15 H;obtain _ | n:=n
   · exact nf rfl H
   rw [g_zip_check_l2.eq_2] at H;show WP _ _ _ _ (((((Env.none.upd 0 (.ro (Rd.slice rdS_api_File) false x1)).upd 9 (.lit (.bool false))).upd 45 (.ro (Rd.slice rdS_api_File) false x1)).upd 46 (.lit (.int .i64 ((List.length x1:Nat):Int)))).upd 47 (.lit (.int .i64 x15))) Mem.nil _;refine sp ?_;obtain ⟨x16,h7,H⟩:=bnd H;refine sn (nm_bool h7) ?_;refine sp ?_;refine WP.seq ?_;refine cq H (fun hb8 H=>?_) fun hb8 H=>?_
   · (iterate 3 refine sp ?_);refine WP.seq ?_;(iterate 3 refine sp ?_);obtain ⟨x17,h8,H⟩:=bnd H;refine sp ?_;refine WPL.qq (q_load_roag ag41 rfl rfl S_api_File.sp) ?_;(iterate 7 refine sp ?_);obtain ⟨h8,H⟩:=grd H;refine WPL.qq (q_slice_ro (i:=0) (j:=x15) sl22 rfl rfl rfl ⟨_,rfl⟩ h8) ?_;obtain ⟨x18,h9,H⟩:=bnd H;refine sn (nm_int h9) ?_;(iterate 3 refine sp ?_);refine WP.cv (Cv.weak (E':=(((((((((Env.none.upd 0 (.ro (Rd.slice rdS_api_File) false x1)).upd 9 (.lit (.bool false))).upd 11 (.ptr 0 0)).upd 45 (.ro (Rd.slice rdS_api_File) false x1)).upd 46 (.lit (.int .i64 ((List.length x1:Nat):Int)))).upd 47 (.lit (.int .i64 x15))).upd 54 (.ro (Rd.slice rdS_api_File) false (List.drop (Int.toNat 0) (List.take (Int.toNat x15) x1)))).upd 55 (.lit (.int .i64 x18))).upd 56 (.lit (.int .i64 0)))) (M':=(Mem.nil.push (.cells 41 [.lit (.string x17.fName),.ro (Rd.slice (Rd.int .u8)) false x17.fData]))) [0] hnp ⟨rfl,AA1,by decide,rfl,trivial⟩ (LeE.u (LeE.u (LeE.u (LeE.u (LeE.u (LeE.u (LeE.u (LeE.u (LeE.u (LeE.none rfl rfl))))))))))) ?_;obtain ⟨y3,H5,H⟩:=bnd H;refine WP.monoW (Q:=fun x E M=>match (generalizing:=false) y3 with | (Sum.inl _)=>x=.exit 4∧E=(Env.none.upd 9 (.lit (.bool true)))∧M=Mem.nil | (Sum.inr _)=>x=.exit 6∧E=(((((Env.none.upd 0 (.ro (Rd.slice rdS_api_File) false x1)).upd 9 (.lit (.bool false))).upd 45 (.ro (Rd.slice rdS_api_File) false x1)).upd 46 (.lit (.int .i64 ((List.length x1:Nat):Int)))).upd 47 (.lit (.int .i64 x15)))∧M=Mem.nil) ?_ ?_
     · refine WP.loop (β:=Int) (fun n b=>g_zip_check_l3 k x1 x15 x17 x18 n b=some y3) (fun b=>(((((((((Env.none.upd 0 (.ro (Rd.slice rdS_api_File) false x1)).upd 9 (.lit (.bool false))).upd 11 (.ptr 0 0)).upd 45 (.ro (Rd.slice rdS_api_File) false x1)).upd 46 (.lit (.int .i64 ((List.length x1:Nat):Int)))).upd 47 (.lit (.int .i64 x15))).upd 54 (.ro (Rd.slice rdS_api_File) false (List.drop (Int.toNat 0) (List.take (Int.toNat x15) x1)))).upd 55 (.lit (.int .i64 x18))).upd 56 (.lit (.int .i64 b)))) (fun b=>(Mem.nil.push (.cells 41 [.lit (.string x17.fName),.ro (Rd.slice (Rd.int .u8)) false x17.fData]))) k 0 H5 rfl rfl ?_;rintro n x19 H;obtain _ | n:=n
       · exact nf rfl H
       rw [g_zip_check_l3.eq_2] at H;show WP _ _ _ _ (((((((((Env.none.upd 0 (.ro (Rd.slice rdS_api_File) false x1)).upd 9 (.lit (.bool false))).upd 11 (.ptr 0 0)).upd 45 (.ro (Rd.slice rdS_api_File) false x1)).upd 46 (.lit (.int .i64 ((List.length x1:Nat):Int)))).upd 47 (.lit (.int .i64 x15))).upd 54 (.ro (Rd.slice rdS_api_File) false (List.drop (Int.toNat 0) (List.take (Int.toNat x15) x1)))).upd 55 (.lit (.int .i64 x18))).upd 56 (.lit (.int .i64 x19))) (Mem.nil.push (.cells 41 [.lit (.string x17.fName),.ro (Rd.slice (Rd.int .u8)) false x17.fData])) _;(iterate 3 refine sp ?_);refine WP.seq ?_;refine cq H (fun hb9 H=>?_) fun hb9 H=>?_
       · (iterate 3 refine sp ?_);refine WP.seq ?_;(iterate 2 refine sp ?_);obtain ⟨x20,h10,H⟩:=bnd H;refine sp ?_;refine WPL.qq (q_load_roag ag41 rfl rfl S_api_File.sp) ?_;(iterate 8 refine sp ?_);obtain ⟨x21,h10,H⟩:=bnd H;refine WPL.c (rc [] [] 2 [] (s_st_EqualFold k x17.fName x20.fName x21 h10)) rfl ?_;refine sp ?_;refine cq H (fun hb10 H=>?_) fun hb10 H=>?_
         · (iterate 4 refine sp ?_);have q0:=j1 H;subst q0;exact wq [] (InBlock.x rfl (Then.x (Then.x r3)))
         (iterate 2 refine sp ?_);refine InBlock.n ?_;(iterate 4 refine sp ?_);refine WPL.nilW ?_;exact wq [0] (Then.n ⟨n,(IntKind.wrap .i64 (x19+1)),Nat.lt_succ_self n,H,rfl,rfl⟩)
       refine sp ?_;have q0:=j1 H;subst q0;exact wq [] (Then.x (Then.x r3))
     rcases y3 with _ | _
     · rintro _ _ _ ⟨rfl,rfl,rfl⟩;have q0:=j1 H;subst q0;exact wq [] (InBlock.x rfl (InBlock.x rfl (Then.x (Then.x r3))))
     rintro _ _ _ ⟨rfl,rfl,rfl⟩;(iterate 2 refine sp ?_);refine InBlock.n ?_;(iterate 4 refine sp ?_);refine WPL.nilW ?_;exact wq [] (Then.n ⟨n,(IntKind.wrap .i64 (x15+1)),Nat.lt_succ_self n,H,rfl,rfl⟩)
   refine sp ?_;have q0:=j1 H;subst q0;exact wq [] (Then.x (Then.x r3))
 (iterate 3 refine sp ?_);refine WP.seq ?_;(iterate 3 refine sp ?_);refine cq H (fun hb11 H=>?_) fun hb11 H=>?_
 · (iterate 4 refine sp ?_);have q0:=j1 H;subst q0;exact W.now (Then.r (Scope.r (mb [])))
 (iterate 7 refine sp ?_);have q0:=j1 H;subst q0;exact W.now (Scope.r (mb []))
theorem s_zip_Write (k:Nat) (x1:(List S_api_File)) (x2:Int) (x3:Int) (x4:(List Int)) (H:g_zip_Write k x1 x2=some (x3,x4)):Go.Q.Spec Tryz.prog 8 0 [.ro (Rd.slice rdS_api_File) false x1,.lit (.int .i64 x2)] Mem.nil (fun o M=>o=.ret (.tup [.whole 0,.lit (.int .i64 x3)])∧M=(Mem.nil.push (.row 5 (Rd.int .u8) x4))):=by
 unfold g_zip_Write at H;refine bo Tryz.func8 [] [.tmp 4,.tmp 5] 74 fun cx hnp=>?_;(iterate 4 refine sp ?_);refine WP.seq ?_;(iterate 3 refine sp ?_);obtain ⟨x5,h1,H⟩:=bnd H;refine WPL.c (rc [] [] 0 [] (s_zip_check k x1 x2 x5 h1)) rfl ?_;(iterate 6 refine sp ?_);refine cq H (fun hb1 H=>?_) fun hb1 H=>?_
 · (iterate 6 refine sp ?_);refine W.cv (Cv.vir 5 (Rd.int .u8) (N:=0) rfl 4 rfl) rfl ?_;obtain ⟨rfl,rfl⟩:=j2 H;exact W.now (Then.r (mb [0]))
 (iterate 7 refine sp ?_);refine WP.seq ?_;(iterate 6 refine sp ?_);refine WP.cv (Cv.vir 5 (Rd.int .u8) (N:=0) rfl 7 rfl) ?_;refine WP.cv (Cv.vir 5 (Rd.int .u8) (N:=1) rfl 8 rfl) ?_;refine WP.cv (Cv.weak (E':=(((((((Env.none.upd 0 (.ro (Rd.slice rdS_api_File) false x1)).upd 1 (.lit (.int .i64 x2))).upd 7 (.whole 0)).upd 8 (.whole 1)).upd 20 (.ro (Rd.slice rdS_api_File) false x1)).upd 21 (.lit (.int .i64 ((List.length x1:Nat):Int)))).upd 22 (.lit (.int .i64 0)))) (M':=((Mem.nil.push (.row 5 (Rd.int .u8) ([]:List Int))).push (.row 5 (Rd.int .u8) ([]:List Int)))) [0,1] hnp ⟨rfl,AA2,by decide,rfl,trivial⟩ (LeE.u (LeE.u (LeE.u (LeE.u (LeE.u (LeE.u (LeE.u (LeE.none rfl rfl))))))))) ?_;obtain ⟨⟨x6,x7⟩,H1,H⟩:=bnd H;refine mo (.exit 0) (((Env.none.upd 0 (.ro (Rd.slice rdS_api_File) false x1)).upd 7 (.whole 0)).upd 8 (.whole 1)) ((Mem.nil.push (.row 5 (Rd.int .u8) x6)).push (.row 5 (Rd.int .u8) x7)) ?_ ?_
 · refine WP.loop (β:=Int × (List Int) × (List Int)) (fun n b=>g_zip_Write_l0 k x1 x2 n b.1 b.2.1 b.2.2=some (x6,x7)) (fun b=>(((((((Env.none.upd 0 (.ro (Rd.slice rdS_api_File) false x1)).upd 1 (.lit (.int .i64 x2))).upd 7 (.whole 0)).upd 8 (.whole 1)).upd 20 (.ro (Rd.slice rdS_api_File) false x1)).upd 21 (.lit (.int .i64 ((List.length x1:Nat):Int)))).upd 22 (.lit (.int .i64 b.1)))) (fun b=>((Mem.nil.push (.row 5 (Rd.int .u8) b.2.1)).push (.row 5 (Rd.int .u8) b.2.2))) k (0,([]:List Int),([]:List Int)) H1 rfl rfl ?_;rintro n ⟨x8,x9,x10⟩ H;obtain _ | n:=n
   · exact nf rfl H
   rw [g_zip_Write_l0.eq_2] at H;show WP _ _ _ _ (((((((Env.none.upd 0 (.ro (Rd.slice rdS_api_File) false x1)).upd 1 (.lit (.int .i64 x2))).upd 7 (.whole 0)).upd 8 (.whole 1)).upd 20 (.ro (Rd.slice rdS_api_File) false x1)).upd 21 (.lit (.int .i64 ((List.length x1:Nat):Int)))).upd 22 (.lit (.int .i64 x8))) ((Mem.nil.push (.row 5 (Rd.int .u8) x9)).push (.row 5 (Rd.int .u8) x10)) _;refine sp ?_;obtain ⟨x11,h2,H⟩:=bnd H;refine sn (nm_bool h2) ?_;refine sp ?_;refine WP.seq ?_;refine cq H (fun hb2 H=>?_) fun hb2 H=>?_
   · (iterate 3 refine sp ?_);refine WP.seq ?_;(iterate 2 refine sp ?_);obtain ⟨x12,h3,H⟩:=bnd H;refine sp ?_;refine WPL.qq (q_load_roag ag41 rfl rfl S_api_File.sp) ?_;(iterate 8 refine sp ?_);refine WP.seq ?_;(iterate 4 refine sp ?_);refine cq H (fun hb3 H=>?_) fun hb3 H=>?_
     · (iterate 2 refine sp ?_);exact nf rfl H
     (iterate 3 refine sp ?_);refine WP.seq ?_;obtain ⟨x13,H2,H⟩:=bnd H;refine mo .normal (((((((((Env.none.upd 0 (.ro (Rd.slice rdS_api_File) false x1)).upd 1 (.lit (.int .i64 x2))).upd 7 (.whole 0)).upd 8 (.whole 1)).upd 11 (.ro (Rd.slice (Rd.int .u8)) false x12.fData)).upd 12 (.ptr 2 0)).upd 20 (.ro (Rd.slice rdS_api_File) false x1)).upd 21 (.lit (.int .i64 ((List.length x1:Nat):Int)))).upd 22 (.lit (.int .i64 x8))) (((Mem.nil.push (.row 5 (Rd.int .u8) x9)).push (.row 5 (Rd.int .u8) x10)).push (.cells 47 [.lit (.int .i64 x2),.lit (.int .i64 x13),.lit (.int .i64 ((List.length x12.fData:Nat):Int)),.lit (.int .i64 ((List.length x12.fData:Nat):Int)),.lit (.string x12.fName),.lit (.int .i64 ((List.length x9:Nat):Int))])) ?_ ?_
     · clear H;have H:=H2;clear H2;refine WP.regionD' 17 [2] [] mixed rfl ?_;refine dT 0 ?_;refine dT 1 ?_;refine dT 5 ?_;refine dT 6 ?_;refine dT 7 ?_;refine dT 10 ?_;refine dT 12 ?_;refine dT 13 ?_;refine dK 2 ?_;refine dK 8 ?_;refine dT 9 ?_;refine dK 11 ?_;refine WPD.of2 3 15 (by kernel_rfl) ?_ ?_
       · obtain ⟨x14,h4,H⟩:=bnd H;refine WPD1.eff 3 [2] [] rfl (rc [] [] 3 [] (s_bits_Crc k x12.fData x14 h4)) rfl rfl ?_;refine dT 4 ?_;refine dT 14 ?_;refine dE 15 [2] [] rfl (Does.runs (d_alloc ze47 rfl)) ?_;refine dS 16 [2] [] ?_;refine WPD.doneW (by kernel_rfl) ?_;have q0:=j1 H;subst q0;exact wq [0,1,3]
       refine WPD1.eff 15 [2] [] rfl (Does.runs (d_alloc ze47 rfl)) rfl rfl ?_;obtain ⟨x15,h5,H⟩:=bnd H;refine dE 3 [2] [] rfl (rc [] [] 4 [] (s_bits_Crc k x12.fData x15 h5)) ?_;refine dT 4 ?_;refine dT 14 ?_;refine dS 16 [2] [] ?_;refine WPD.doneW (by kernel_rfl) ?_;have q0:=j1 H;subst q0;exact wq [0,1,3]
     (iterate 5 refine sp ?_);obtain ⟨x16,h6,H⟩:=bnd H;refine WPL.c (rc [] [] 3 [] (s_zip_central k x2 x13 ((List.length x12.fData:Nat):Int) ((List.length x12.fData:Nat):Int) x12.fName ((List.length x9:Nat):Int) x16 h6)) rfl ?_;obtain ⟨h7,H⟩:=grd H;refine WPL.d (d_append ap23 rfl rfl rfl rfl (src_ro sl23 rfl) h7 rfl) rfl ?_;(iterate 5 refine sp ?_);obtain ⟨x17,h8,H⟩:=bnd H;refine WPL.c (rc [] [] 4 [] (s_zip_local k x2 x13 ((List.length x12.fData:Nat):Int) ((List.length x12.fData:Nat):Int) x12.fName ((List.length x9:Nat):Int) x17 h8)) rfl ?_;obtain ⟨h9,H⟩:=grd H;refine WPL.d (d_append ap23 rfl rfl rfl rfl (src_ro sl23 rfl) h9 rfl) rfl ?_;refine sp ?_;obtain ⟨h10,H⟩:=grd H;refine WPL.d (d_append ap23 rfl rfl rfl rfl (src_ro sl23 rfl) h10 rfl) rfl ?_;refine sp ?_;refine WPL.nilW ?_;refine sp ?_;refine InBlock.n ?_;(iterate 4 refine sp ?_);refine WPL.nilW ?_;exact wq [5,3] (Then.n ⟨n,((IntKind.wrap .i64 (x8+1)),((x9++x17)++x12.fData),(x10++x16)),Nat.lt_succ_self n,H,rfl,rfl⟩)
   refine sp ?_;obtain ⟨rfl,rfl⟩:=j2 H;exact wq [0,1] (Then.x (Then.x r3))
 (iterate 11 refine sp ?_);obtain ⟨h11,H⟩:=grd H;refine WPL.d (d_append ap23 rfl rfl rfl rfl (src_row sl23 rfl rfl) h11 rfl) rfl ?_;(iterate 9 refine sp ?_);obtain ⟨x18,h12,H⟩:=bnd H;refine WPL.c (rc [] [] 3 [] (s_zip_end k ((List.length x1:Nat):Int) ((List.length x7:Nat):Int) ((List.length x6:Nat):Int) x18 h12) (hargs:=.ren rfl rfl (.ren rfl rfl (.ren rfl rfl .nil)))) rfl ?_;obtain ⟨h13,H⟩:=grd H;refine WPL.d (d_append ap23 rfl rfl rfl rfl (src_ro sl23 rfl) h13 rfl) rfl ?_;(iterate 4 refine sp ?_);obtain ⟨rfl,rfl⟩:=j2 H;exact W.now (mb [3])
theorem s_quirelaw05_alive (k:Nat) (x1:Bool) (H:g_quirelaw05_alive k=some x1):Go.Q.Spec Tryz.prog 12 0 [] Mem.nil (fun o M=>o=.ret (.lit (.bool x1))∧M=Mem.nil):=by
 unfold g_quirelaw05_alive at H;refine bo Tryz.func12 [] [.tmp 0] 63 fun cx hnp=>?_;(iterate 4 refine sp ?_);refine WPL.d (d_buildSlice (ds:=([120]:List Int)) (R:=(Rd.int .u8)) li23 rfl rfl rfl rfl rfl (JoinRows.cons1 Joins.sc rfl JoinRows.nil) rfl rfl) rfl ?_;refine WPL.d (d_bytesConst Tryz.underlying23 Tryz.underlying5 rfl rfl rfl) rfl ?_;refine sp ?_;refine WPL.cv (Cv.frzRow (i:=0) rfl rfl hnp rfl rfl) ?_;refine WPL.d (d_buildSlice (ds:=([(⟨(ByteArray.mk #[97]),([120]:List Int)⟩:S_api_File)]:List S_api_File)) (R:=rdS_api_File) li22 rfl rfl rfl rfl rfl (JoinRows.cons (l:=[.lit (.string (ByteArray.mk #[97])),.ro (Rd.slice (Rd.int .u8)) false ([120]:List Int)]) (Joins.via (Joins.cons Joins.sc (Joins.cons Joins.one Joins.unit))) rfl JoinRows.nil) rfl rfl) rfl ?_;obtain ⟨⟨x2,x3⟩,h1,H⟩:=bnd H;refine WPL.cv (Cv.frzRow (i:=1) rfl rfl hnp rfl rfl) ?_;refine WPL.c (rc [] [2] 3 [] (s_zip_Write k ([(⟨(ByteArray.mk #[97]),([120]:List Int)⟩:S_api_File)]:List S_api_File) 0 x2 x3 h1)) rfl ?_;(iterate 8 refine sp ?_);obtain ⟨⟨x4,x5⟩,h2,H⟩:=bnd H;refine WPL.c (rc [] [] 3 [2] (s_zip_Read k x3 9 x4 x5 h2)) rfl ?_;(iterate 6 refine sp ?_);refine WP.seq ?_;refine WP.seq ?_;obtain ⟨x6,H1,H⟩:=bnd H;refine mo .normal ((Env.none.upd 1 (.whole 0)).upd 50 (.lit (.bool x6))) (Mem.nil.push (.row 5 (Rd.int .u8) x3)) ?_ ?_
 · clear H;have H:=H1;clear H1;(iterate 4 refine sp ?_);refine ws 22 H (fun hb1 H=>?_) fun hb1 H=>?_
   · (iterate 28 refine sp ?_);refine WPL.nilW ?_;have q0:=j1 H;subst q0;exact wq [2]
   (iterate 4 refine sp ?_);refine ws 26 H (fun hb2 H=>?_) fun hb2 H=>?_
   · (iterate 24 refine sp ?_);refine WPL.nilW ?_;have q0:=j1 H;subst q0;exact wq [2]
   (iterate 2 refine sp ?_);obtain ⟨x7,h3,H⟩:=bnd H;refine sn (nm_bool h3) ?_;(iterate 2 refine sp ?_);refine ws 31 H (fun hb3 H=>?_) fun hb3 H=>?_
   · (iterate 19 refine sp ?_);refine WPL.nilW ?_;have q0:=j1 H;subst q0;exact wq [2]
   (iterate 2 refine sp ?_);obtain ⟨x8,h4,H⟩:=bnd H;refine sn (nm_bool h4) ?_;(iterate 2 refine sp ?_);refine ws 36 H (fun hb4 H=>?_) fun hb4 H=>?_
   · (iterate 14 refine sp ?_);refine WPL.nilW ?_;have q0:=j1 H;subst q0;exact wq [2]
   refine sp ?_;obtain ⟨x9,h5,H⟩:=bnd H;refine sp ?_;refine WPL.gq rfl (lb hb4) (q_fieldAddr_ro fi41_0 rfl rfl S_api_File.p0 (Nat.le_of_ble_eq_true rfl)) ?_;refine sp ?_;obtain ⟨x10,h6,H⟩:=bnd H;refine sn (nm_bool h6) ?_;(iterate 2 refine sp ?_);refine ws 43 H (fun hb5 H=>?_) fun hb5 H=>?_
   · (iterate 7 refine sp ?_);refine WPL.nilW ?_;have q0:=j1 H;subst q0;exact wq [2]
   refine sp ?_;obtain ⟨x11,h7,H⟩:=bnd H;refine sp ?_;refine WPL.gq rfl (lb hb5) (q_fieldAddr_ro fi41_1 rfl rfl S_api_File.p1 (Nat.le_of_ble_eq_true rfl)) ?_;refine WPL.gq rfl (lb hb5) (q_load_ro sc23 rfl rfl) ?_;refine WPL.gq rfl (lb hb5) (q_bytes_str Tryz.underlying23 Tryz.underlying5 Tryz.underlying9 rfl) ?_;obtain ⟨x12,h8,H⟩:=bnd H;refine sn (nm_bool h8) ?_;refine sp ?_;refine WPL.nilW ?_;have q0:=j1 H;subst q0;exact wq [2]
 (iterate 2 refine sp ?_);refine cq H (fun hb6 H=>?_) fun hb6 H=>?_
 · (iterate 4 refine sp ?_);have q0:=j1 H;subst q0;exact W.now (Then.r (mb []))
 (iterate 5 refine sp ?_);obtain ⟨x13,h9,H⟩:=bnd H;refine WPL.qq (q_index_row sl23 rfl rfl rfl (ixs h9)) ?_;refine WPL.qq (q_load_row (j:=(Int.toNat 31)) sc5 rfl rfl (ixj h9)) ?_;refine sp ?_;obtain ⟨x14,h10,H⟩:=bnd H;refine WPL.qq (q_index_row sl23 rfl rfl rfl (ixs h10)) ?_;refine WPL.s (s_store_row (j:=(Int.toNat 31)) (d:=(IntKind.wrap .u8 (x13+1))) sz5 rfl rfl rfl rfl Joins.sc (ixl h10)) ?_;(iterate 3 refine sp ?_);obtain ⟨⟨x15,x16⟩,h10,H⟩:=bnd H;refine WPL.c (rc [] [] 1 [0] (s_zip_Read k (List.set x3 (Int.toNat 31) (IntKind.wrap .u8 (x13+1))) 9 x15 x16 h10)) rfl ?_;(iterate 12 refine sp ?_);have q0:=j1 H;subst q0;exact W.now (mb [])
theorem s_quirelaw05_ZipReads (k:Nat) (x1:(List Int)) (x2:Int) (x3:Bool) (H:g_quirelaw05_ZipReads k x1 x2=some x3):Go.Q.Spec Tryz.prog 7 0 [.ro (Rd.slice (Rd.int .u8)) false x1,.lit (.int .i64 x2)] Mem.nil (fun o M=>o=.ret (.lit (.bool x3))∧M=Mem.nil):=by
 unfold g_quirelaw05_ZipReads at H;refine bo Tryz.func7 [] [.tmp 4] 72 fun cx hnp=>?_;(iterate 6 refine sp ?_);obtain ⟨⟨x4,x5⟩,h1,H⟩:=bnd H;refine WPL.c (runs_call (s:=[]) (t:=[]) (N:=0) (bor:=[]) fn13 rfl (s_zip_Read k x1 x2 x4 x5 h1) ⟨rfl,trivial,by decide,rfl,trivial⟩ rfl trivial (.ro (.ren rfl rfl .nil)) rfl trivial rfl) rfl ?_;(iterate 9 refine sp ?_);obtain ⟨⟨x6,x7⟩,h2,H⟩:=bnd H;refine WPL.c (rc [] [] 0 [] (s_quireref05_Read k x1 x2 x6 x7 h2)) rfl ?_;(iterate 6 refine sp ?_);refine WP.seq ?_;refine WP.seq ?_;obtain ⟨x8,H1,H⟩:=bnd H;refine mo .normal ((Env.none.upd 0 (.ro (Rd.slice (Rd.int .u8)) false x1)).upd 34 (.lit (.bool x8))) Mem.nil ?_ ?_
 · clear H;have H:=H1;clear H1;(iterate 5 refine sp ?_);refine ws 29 H (fun hb1 H=>?_) fun hb1 H=>?_
   · (iterate 5 refine sp ?_);refine WPL.nilW ?_;have q0:=j1 H;subst q0;exact wq []
   (iterate 2 refine sp ?_);obtain ⟨x9,h3,H⟩:=bnd H;refine WPL.cg rfl rfl (lb hb1) (rc [] [] 0 [] (s_quireref05_Same k x4 x6 x9 h3)) rfl ?_;(iterate 2 refine sp ?_);refine WPL.nilW ?_;have q0:=j1 H;subst q0;exact wq []
 (iterate 2 refine sp ?_);refine cq H (fun hb2 H=>?_) fun hb2 H=>?_
 · (iterate 4 refine sp ?_);have q0:=j1 H;subst q0;exact W.now (Then.r (mb []))
 (iterate 5 refine sp ?_);obtain ⟨⟨x10,x11⟩,h4,H⟩:=bnd H;refine WPL.c (rc [] [] 0 [] (s_zip_Names k x1 x10 x11 h4)) rfl ?_;(iterate 8 refine sp ?_);obtain ⟨⟨x12,x13⟩,h5,H⟩:=bnd H;refine WPL.c (rc [] [] 0 [] (s_quireref05_Read k x1 1073741824 x12 x13 h5)) rfl ?_;(iterate 6 refine sp ?_);refine WP.seq ?_;refine WP.seq ?_;obtain ⟨x14,H2,H⟩:=bnd H;refine mo .normal (((Env.none.upd 9 (.ro (Rd.slice Rd.str) false x10)).upd 11 (.ro (Rd.slice rdS_api_File) false x12)).upd 54 (.lit (.bool x14))) Mem.nil ?_ ?_
 · clear H;have H:=H2;clear H2;(iterate 5 refine sp ?_);refine ws 48 H (fun hb3 H=>?_) fun hb3 H=>?_
   · (iterate 6 refine sp ?_);refine WPL.nilW ?_;have q0:=j1 H;subst q0;exact wq []
   (iterate 4 refine sp ?_);obtain ⟨x15,h6,H⟩:=bnd H;refine sn (nm_bool h6) ?_;refine sp ?_;refine WPL.nilW ?_;have q0:=j1 H;subst q0;exact wq []
 (iterate 2 refine sp ?_);refine cq H (fun hb4 H=>?_) fun hb4 H=>?_
 · (iterate 4 refine sp ?_);have q0:=j1 H;subst q0;exact W.now (Then.r (mb []))
 (iterate 3 refine sp ?_);refine WP.seq ?_;(iterate 4 refine sp ?_);refine WP.cv (Cv.weak (E':=(((Env.none.upd 9 (.ro (Rd.slice Rd.str) false x10)).upd 11 (.ro (Rd.slice rdS_api_File) false x12)).upd 13 (.lit (.int .i64 0)))) (M':=Mem.nil) [] hnp ⟨rfl,trivial,by decide,rfl,trivial⟩ (LeE.u (LeE.u (LeE.u (LeE.none rfl rfl))))) ?_;obtain ⟨y1,H3,H⟩:=bnd H;refine WP.monoW (Q:=fun x E M=>match (generalizing:=false) y1 with | (Sum.inl _)=>x=.ret∧E=(Env.none.upd 4 (.lit (.bool false)))∧M=Mem.nil | (Sum.inr _)=>x=.exit 0∧E=Env.none∧M=Mem.nil) ?_ ?_
 · refine WP.loop (β:=Int) (fun n b=>g_quirelaw05_ZipReads_l0 k x10 x12 n b=some y1) (fun b=>(((Env.none.upd 9 (.ro (Rd.slice Rd.str) false x10)).upd 11 (.ro (Rd.slice rdS_api_File) false x12)).upd 13 (.lit (.int .i64 b)))) (fun b=>Mem.nil) k 0 H3 rfl rfl ?_;rintro n x16 H;obtain _ | n:=n
   · exact nf rfl H
   rw [g_quirelaw05_ZipReads_l0.eq_2] at H;show WP _ _ _ _ (((Env.none.upd 9 (.ro (Rd.slice Rd.str) false x10)).upd 11 (.ro (Rd.slice rdS_api_File) false x12)).upd 13 (.lit (.int .i64 x16))) Mem.nil _;refine WP.seq ?_;(iterate 4 refine sp ?_);obtain ⟨x17,h7,H⟩:=bnd H;refine sn (nm_bool h7) ?_;refine sp ?_;refine cq H (fun hb5 H=>?_) fun hb5 H=>?_
   · (iterate 3 refine sp ?_);refine WP.seq ?_;refine sp ?_;refine WP.seq ?_;refine WP.regionD' 10 [] [] mixed rfl ?_;refine dT 0 ?_;refine dT 1 ?_;obtain ⟨x18,h8,H⟩:=bnd H;refine dT 2 ?_;refine dT 3 ?_;refine dT 4 ?_;refine dT 5 ?_;obtain ⟨x19,h9,H⟩:=bnd H;refine dT 6 ?_;refine WPD.tT 7 rfl (q_fieldAddr_ro fi41_0 rfl rfl S_api_File.p0 (Nat.le_of_ble_eq_true rfl)) ?_;refine dT 8 ?_;refine dT 9 ?_;refine WPD.doneW (by kernel_rfl) ?_;(iterate 2 refine sp ?_);refine cq H (fun hb6 H=>?_) fun hb6 H=>?_
     · (iterate 4 refine sp ?_);have q0:=j1 H;subst q0;exact wq [] (InBlock.r (Then.r (Then.r r3)))
     (iterate 2 refine sp ?_);refine InBlock.n ?_;(iterate 5 refine sp ?_);refine WPL.nilW ?_;exact wq [] (Then.n ⟨n,(IntKind.wrap .i64 (x16+1)),Nat.lt_succ_self n,H,rfl,rfl⟩)
   refine sp ?_;have q0:=j1 H;subst q0;exact wq [] (Then.x (Then.x r3))
 rcases y1 with _ | _
 · rintro _ _ _ ⟨rfl,rfl,rfl⟩;have q0:=j1 H;subst q0;exact W.now (InBlock.r (Then.r (mb [])))
 rintro _ _ _ ⟨rfl,rfl,rfl⟩;(iterate 4 refine sp ?_);obtain ⟨x20,h10,H⟩:=bnd H;refine WPL.c (rc [] [] 0 [] (s_quirelaw05_alive k x20 h10)) rfl ?_;(iterate 3 refine sp ?_);have q0:=j1 H;subst q0;exact W.now (mb [])
def wt (x:Int):Int:=if 0<x then 2^(15 - x.toNat) else 0
def there (x:Int):Int:=if 0<x then 1 else 0
def sumW:List Int→Int
  | []=>0
  | x::l=>wt x+sumW l
def cntL:List Int→Int
  | []=>0
  | x::l=>there x+cntL l
def badX (x:Int):Prop:=x<0∨15<x
instance (x:Int):Decidable (badX x):=by unfold badX;infer_instance
def badL (l:List Int):Prop:=∃ x∈l,badX x
instance (l:List Int):Decidable (badL l):=by unfold badL;infer_instance
theorem pow15 {x:Int} (h0:0<x) (h1:x≤15):1≤(2:Int)^(15 - x.toNat)∧(2:Int)^(15 - x.toNat)≤16384:=by
  have:∃ n:Nat,x.toNat=n∧1≤n∧n≤15:=⟨x.toNat,rfl,by omega,by omega⟩
  obtain ⟨n,hn,h2,h3⟩:=this
  rw [hn]
  obtain rfl | rfl | rfl | rfl | rfl | rfl | rfl | rfl | rfl | rfl | rfl | rfl | rfl | rfl | rfl:n=1∨n=2∨n=3∨n=4∨n=5∨n=6∨n=7∨n=8∨n=9∨n=10∨n=11∨n=12∨n=13∨n=14∨n=15:=by omega
  all_goals decide
theorem wt_le {x:Int} (h:¬ badX x):0≤wt x∧wt x≤16384:=by
  unfold badX at h
  unfold wt
  split
  · have:=pow15 (x:=x) (by omega) (by omega);omega
  · omega
theorem there_le (x:Int):0≤there x∧there x≤1:=by unfold there;split <;> omega
theorem shl1 {b:Nat} (h:b≤15):shlI .i64 1 (b:Int)=2^b:=by
  obtain rfl | rfl | rfl | rfl | rfl | rfl | rfl | rfl | rfl | rfl | rfl | rfl | rfl | rfl | rfl | rfl:b=0∨b=1∨b=2∨b=3∨b=4∨b=5∨b=6∨b=7∨b=8∨b=9∨b=10∨b=11∨b=12∨b=13∨b=14∨b=15:=by omega
  all_goals rfl
theorem shlw {x:Int} (h0:0<x) (h1:x≤15):shlI .i64 1 (15 - x)=2^(15 - x.toNat):=by
  rw [show (15:Int) - x=((15 - x.toNat:Nat):Int) by omega]
  exact shl1 (by omega)
theorem drop_cons {α:Type} {l:List α} {i:Nat} (h:i<l.length):l.drop i=l[i]::l.drop (i+1):=List.drop_eq_getElem_cons h
theorem badL_cons {x:Int} {l:List Int}:badL (x::l)↔badX x∨badL l:=by simp [badL]
theorem wsucc {i:Nat} (h:i<9223372036854775807):IntKind.wrap .i64 ((i:Int)+1)=((i+1:Nat):Int):=by rw [wi (by omega) (by omega)];omega
theorem g_huff_judged_l0_eq (k:Nat) (l:List Int) (hl:l.length≤320):∀ (n i:Nat) (a m:Int),i≤l.length→l.length - i<n → -100000000+16384*((l.length:Int) - i)≤a→a≤100000000→0≤m→m≤i →
    g_huff_judged_l0 k l n a m i=some (if badL (l.drop i) then Sum.inl () else Sum.inr (a - sumW (l.drop i),m+cntL (l.drop i))):=by
  intro n
  induction n with
  | zero=>intro i a m _ h;omega
  | succ n ih =>
    intro i a m hi hn ha1 ha2 hm0 hm
    rw [g_huff_judged_l0.eq_2]
    simp only [Option.bind_some,bd]
    by_cases h:i<l.length
    · have e:ix l (i:Int)=some l[i]:=ix_nat h
      rw [if_pos (by omega),e,drop_cons h]
      simp only [Option.bind_some,badL_cons,sumW,cntL]
      generalize hx:l[i]=x
      by_cases hb:badX x
      · have hb':(if x<0 then some true else some (decide (15<x)))=some true:=by
          unfold badX at hb
          split
          · rfl
          · rw [dt (by omega)]
        rw [hb',if_pos (Or.inl hb:badX x∨badL (l.drop (i+1)))]
        rfl
      · have hb':(if x<0 then some true else some (decide (15<x)))=some false:=by
          unfold badX at hb
          rw [if_neg (by omega),df (by omega)]
        have hw:=wt_le hb
        unfold badX at hb
        rw [hb']
        simp only [Option.bind_some,bf,or_iff_right (show ¬ badX x by unfold badX;exact hb)]
        unfold wt there at *
        by_cases h0:0<x
        · rw [if_pos h0] at hw
          rw [if_pos h0,wi (n:=15 - x) (by omega) (by omega),if_pos (by omega),shlw h0 (by omega),if_pos h0,if_pos h0]
          rw [wi (n:=a - 2^(15 - x.toNat)) (by omega) (by omega),wi (n:=m+1) (by omega) (by omega),wsucc (by omega)]
          simp only [Option.bind_some]
          rw [ih (i+1) _ _ (by omega) (by omega) (by omega) (by omega) (by omega) (by omega)]
          simp only [Int.sub_sub,Int.add_assoc]
        · rw [if_neg h0,if_neg h0,if_neg h0,wsucc (by omega)]
          simp only [Option.bind_some]
          rw [ih (i+1) _ _ (by omega) (by omega) (by omega) (by omega) (by omega) (by omega)]
          simp only [Int.zero_add]
    · rw [if_neg (by omega),List.drop_of_length_le (by omega),if_neg (by simp [badL])]
      simp [sumW,cntL]
def judge (l:List Int):Bool × Int :=
  if 320<l.length then (false,1) else if badL l then (false,1) else if sumW l=32768 then (true,0) else if cntL l=0∨cntL l=1∧sumW l=16384 then (false,0) else (false,11)
theorem sumW_le:∀ {l:List Int},¬ badL l→0≤sumW l∧sumW l≤16384*(l.length:Int)
  | [],_=>by simp [sumW]
  | x::l,h=>by
    rw [badL_cons,not_or] at h
    have h1:=wt_le h.1
    have h2:=sumW_le h.2
    simp only [sumW,List.length_cons]
    omega
theorem cntL_le:∀ (l:List Int),0≤cntL l∧cntL l≤(l.length:Int)
  | []=>by simp [cntL]
  | x::l=>by
    have h1:=there_le x
    have h2:=cntL_le l
    simp only [cntL,List.length_cons]
    omega
theorem g_huff_judged_eq {k:Nat} {l:List Int} (hk:330≤k):g_huff_judged k l=some (judge l):=by
  unfold g_huff_judged judge
  simp only [Option.bind_some,bd]
  by_cases h:320<l.length
  · rw [if_pos (by omega),if_pos h]
  · rw [if_neg (by omega),if_neg h]
    have e:=g_huff_judged_l0_eq k l (by omega) k 0 32768 0 (by omega) (by omega) (by omega) (by omega) (by omega) (by omega)
    rw [List.drop_zero] at e
    have e':g_huff_judged_l0 k l k 32768 0 0=_:=e
    rw [e']
    by_cases hb:badL l
    · rw [if_pos hb,if_pos hb];rfl
    · have hs:=sumW_le hb
      rw [if_neg hb,if_neg hb]
      simp only [Option.bind_some,Int.zero_add]
      by_cases h1:sumW l=32768
      · rw [if_pos (by omega),if_pos h1]
      · rw [if_neg (by omega),if_neg h1]
        by_cases h2:cntL l=0
        · rw [if_pos h2,dt h2,if_pos (.inl h2)];rfl
        · rw [if_neg h2]
          by_cases h3:cntL l=1
          · rw [if_pos h3]
            by_cases h4:sumW l=16384
            · rw [dt (by omega),if_pos (.inr ⟨h3,h4⟩)];rfl
            · rw [df (by omega),if_neg (by omega)];rfl
          · rw [if_neg h3,if_neg (by omega)];rfl
theorem judge_ok {l:List Int} (h:(judge l).2=0):l.length≤320∧¬ badL l∧(sumW l=32768∨cntL l=0∨cntL l=1∧sumW l=16384):=by
  unfold judge at h
  by_cases h0:320<l.length
  · rw [if_pos h0] at h;cases h
  · rw [if_neg h0] at h
    by_cases hb:badL l
    · rw [if_pos hb] at h;cases h
    · rw [if_neg hb] at h
      refine ⟨by omega,hb,?_⟩
      by_cases h1:sumW l=32768
      · exact .inl h1
      · rw [if_neg h1] at h
        by_cases h2:cntL l=0∨cntL l=1∧sumW l=16384
        · exact .inr h2
        · rw [if_neg h2] at h;cases h
def codesOf (c:Int):List Int→Int→Nat→List Int→Int × List Int
  | [],nx,_,out=>(nx,out)
  | x::l,nx,i,out=>if x=c then codesOf c l (IntKind.wrap .u32 (nx+1)) (i+1) (out.set i nx) else codesOf c l nx (i+1) out
theorem codesOf_length (c:Int):∀ (l:List Int) (nx:Int) (i:Nat) (out:List Int),(codesOf c l nx i out).2.length=out.length
  | [],_,_,_=>rfl
  | x::l,nx,i,out=>by
    unfold codesOf
    split
    · rw [codesOf_length];simp
    · exact codesOf_length c l _ _ _
def codesFrom (l:List Int):Nat→Int→Int→List Int→List Int
  | 0,_,_,out=>out
  | m+1,c,nx,out=>codesFrom l m (c+1) (codesOf c l (shlI .u32 nx 1) 0 out).1 (codesOf c l (shlI .u32 nx 1) 0 out).2
def codesL (l:List Int):List Int × Int:=if (judge l).2=0 then (codesFrom l 15 1 0 (List.replicate l.length 0),0) else ([],(judge l).2)
abbrev cn (l:List Int) (c:Nat):Nat:=l.count (c:Int)
def hf (l:List Int):Nat→Nat
  | 0=>0
  | c+1=>if c=0 then 0 else 2*hf l c+cn l c
def sr (l:List Int):Nat→Nat
  | 0=>0
  | c+1=>if c=0 then 0 else sr l c+cn l c*2^(15 - c)
theorem hf_sr (l:List Int):∀ (c:Nat),1≤c→c≤15→2*hf l c*2^(15 - c)=sr l c
  | 0,h,_=>by omega
  | c+1,_,h=>by
    by_cases hc:c=0
    · subst hc;simp [hf,sr]
    · have ih:=hf_sr l c (by omega) (by omega)
      have e:2^(15 - c)=2*2^(15 - (c+1)):=by
        rw [show 15 - c=(15 - (c+1))+1 by omega,Nat.pow_succ];omega
      simp only [hf,sr,if_neg hc]
      rw [← ih,e]
      generalize 2^(15 - (c+1))=p
      generalize hf l c=h
      generalize cn l c=n
      rw [Nat.mul_add,Nat.add_mul]
      simp only [Nat.mul_assoc,Nat.mul_left_comm,Nat.mul_comm]
theorem sr_mono (l:List Int):∀ (b a:Nat),a≤b→sr l a≤sr l b
  | 0, a, h => by have : a = 0 := by omega
                  subst this;exact Nat.le_refl _
  | b+1,a,h=>by
    by_cases hab:a=b+1
    · subst hab;exact Nat.le_refl _
    · refine Nat.le_trans (sr_mono l b a (by omega)) ?_
      simp only [sr]
      split
      · rename_i hb;subst hb;simp [sr]
      · omega
theorem sr_cons (x:Int) (l:List Int) (hx:¬ badX x):∀ (c:Nat),c≤16→sr (x::l) c=sr l c+if 0<x∧x<c then 2^(15 - x.toNat) else 0
  | 0,_=>by unfold badX at hx;rw [if_neg (by omega)];simp [sr]
  | c+1,h=>by
    have ih:=sr_cons x l hx c (by omega)
    unfold badX at hx
    by_cases hc:c=0
    · subst hc;simp [sr];omega
    · simp only [sr,if_neg hc,ih,cn,List.count_cons]
      by_cases hxc:x=(c:Int)
      · subst hxc
        rw [if_neg (show ¬ (0<(c:Int)∧(c:Int)<(c:Int)) by omega),if_pos (show 0<(c:Int)∧(c:Int)<((c+1:Nat):Int) by omega),if_pos (show ((c:Int)==(c:Int))=true by simp),Int.toNat_natCast,Nat.add_mul]
        omega
      · rw [if_neg (show ¬ (x==(c:Int))=true by simpa using hxc),Nat.add_zero]
        by_cases h2:0<x∧x<c
        · rw [if_pos h2,if_pos (show 0<x∧x<((c+1:Nat):Int) by omega)];omega
        · rw [if_neg h2,if_neg (show ¬ (0<x∧x<((c+1:Nat):Int)) by omega)];omega
theorem sr_all:∀ {l:List Int},¬ badL l→(sr l 16:Int)=sumW l
  | [],_=>by decide
  | x::l,h=>by
    rw [badL_cons,not_or] at h
    have ih:=sr_all h.2
    have hx:=h.1
    rw [sr_cons x l hx 16 (by omega)]
    simp only [sumW,wt]
    unfold badX at hx
    by_cases h0:0<x
    · rw [if_pos ⟨h0,by omega⟩,if_pos h0,Int.natCast_add,ih,Int.natCast_pow];simp;omega
    · rw [if_neg (by omega),if_neg h0];omega
def cd (l:List Int) (i:Nat):Nat:=2*hf l (l.getD i 0).toNat+(l.take i).count (l.getD i 0)
theorem codesOf_spec (c:Int):∀ (l:List Int) (nx i:Nat) (out:List Int),nx+l.count c<4294967296→i+l.length≤out.length →
    (codesOf c l nx i out).1=((nx+l.count c:Nat):Int)∧∀ j,(codesOf c l nx i out).2[j]? = if i≤j∧l[j - i]? = some c then some ((nx+(l.take (j - i)).count c:Nat):Int) else out[j]?
  | [],nx,i,out,_,_=>by simp [codesOf]
  | x::l,nx,i,out,h,hl=>by
    unfold codesOf
    simp only [List.length_cons] at hl
    by_cases hx:x=c
    · subst hx
      simp only [List.count_cons_self] at h
      rw [if_pos rfl,show IntKind.wrap .u32 ((nx:Int)+1)=((nx+1:Nat):Int) by rw [wu32 (by omega) (by omega)];omega]
      obtain ⟨h1,h2⟩:=codesOf_spec x l (nx+1) (i+1) (out.set i nx) (by omega) (by simp;omega)
      refine ⟨by rw [h1,List.count_cons_self];omega,fun j=>?_⟩
      rw [h2]
      by_cases hij:i≤j
      · rcases Nat.eq_or_lt_of_le hij with rfl | hij'
        · rw [if_neg (by omega),if_pos (by simp)]
          simp [show i<out.length by omega]
        · have e:j - i=(j - (i+1))+1:=by omega
          rw [e,List.getElem?_cons_succ,List.take_succ_cons,List.count_cons_self]
          by_cases hc:l[j - (i+1)]? = some x
          · rw [if_pos ⟨by omega,hc⟩,if_pos ⟨hij,hc⟩];congr 2;omega
          · rw [if_neg (fun h=>hc h.2),if_neg (fun h=>hc h.2),List.getElem?_set_ne (by omega)]
      · rw [if_neg (by omega),if_neg (by omega),List.getElem?_set_ne (by omega)]
    · rw [List.count_cons_of_ne hx] at h
      rw [if_neg hx]
      obtain ⟨h1,h2⟩:=codesOf_spec c l nx (i+1) out h (by omega)
      refine ⟨by rw [h1,List.count_cons_of_ne hx],fun j=>?_⟩
      rw [h2]
      by_cases hij:i≤j
      · rcases Nat.eq_or_lt_of_le hij with rfl | hij'
        · rw [if_neg (by omega),if_neg (by simp [hx])]
        · have e:j - i=(j - (i+1))+1:=by omega
          rw [e,List.getElem?_cons_succ,List.take_succ_cons,List.count_cons_of_ne hx]
          by_cases hc:l[j - (i+1)]? = some c
          · rw [if_pos ⟨by omega,hc⟩,if_pos ⟨hij,hc⟩]
          · rw [if_neg (fun h=>hc h.2),if_neg (fun h=>hc h.2)]
      · rw [if_neg (by omega),if_neg (by omega)]
theorem shl32 {n:Nat} (h:n≤65536):shlI .u32 (n:Int) 1=((2*n:Nat):Int):=by
  show IntKind.wrap .u32 ((n:Int)*2)=_
  rw [wu32 (by omega) (by omega)]
  omega
theorem hf_le {l:List Int} (hs:sr l 16≤32768) {c:Nat} (h1:1≤c) (h15:c≤15):(2*hf l c+cn l c)*2^(15 - c)≤32768:=by
  have e:sr l (c+1)=(2*hf l c+cn l c)*2^(15 - c):=by
    simp only [sr,if_neg (show ¬ c=0 by omega),← hf_sr l c h1 h15,Nat.add_mul]
  rw [← e]
  exact Nat.le_trans (sr_mono l 16 (c+1) (by omega)) hs
theorem hf_small {l:List Int} (hs:sr l 16≤32768) {c:Nat} (h1:1≤c) (h15:c≤15):2*hf l c+cn l c≤32768:=by
  have:=hf_le hs h1 h15
  have hp:1≤2^(15 - c):=Nat.one_le_two_pow
  have:=Nat.mul_le_mul_left (2*hf l c+cn l c) hp
  omega
theorem codesFrom_spec (l:List Int) (hs:sr l 16≤32768):∀ (m c:Nat) (out:List Int),c+m=16→1≤c→out.length=l.length →
    ∀ j,(codesFrom l m c (hf l c) out)[j]? = if j<l.length∧(c:Int)≤l.getD j 0∧l.getD j 0≤15 then some (cd l j:Int) else out[j]?
  | 0,c,out,hc,_,_,j=>by
    rw [if_neg (by omega)];rfl
  | m+1,c,out,hc,h1,ho,j=>by
    have hsm:=hf_small hs h1 (by omega)
    rw [codesFrom,shl32 (by omega)]
    obtain ⟨e1,e2⟩:=codesOf_spec (c:Int) l (2*hf l c) 0 out (by show 2*hf l c+cn l c<_;omega) (by omega)
    rw [show (c:Int)+1=((c+1:Nat):Int) by omega,e1]
    have e3:2*hf l c+l.count (c:Int)=hf l (c+1):=by simp only [hf,if_neg (show ¬ c=0 by omega)]
    rw [e3,codesFrom_spec l hs m (c+1) _ (by omega) (by omega) (by rw [codesOf_length];exact ho) j,e2 j]
    simp only [Nat.zero_le,true_and,Nat.sub_zero]
    by_cases hj:j<l.length
    · have eg:l.getD j 0=l[j]:=by rw [List.getD_eq_getElem?_getD,List.getElem?_eq_getElem hj];rfl
      rw [List.getElem?_eq_getElem hj]
      by_cases hlc:l[j]=(c:Int)
      · rw [if_neg (by rw [eg];omega),if_pos (by rw [hlc]),if_pos ⟨hj,by rw [eg];omega⟩]
        simp only [cd,eg,hlc,Int.toNat_natCast]
      · rw [if_neg (show ¬ some l[j]=some (c:Int) by simpa using hlc)]
        by_cases h2:(c:Int)≤l.getD j 0∧l.getD j 0≤15
        · rw [if_pos ⟨hj,by rw [eg] at *;omega⟩,if_pos ⟨hj,h2⟩]
        · rw [if_neg (by rw [eg] at *;omega),if_neg (fun h=>h2 h.2)]
    · rw [if_neg (fun h=>hj h.1),if_neg (by rw [List.getElem?_eq_none (by omega)];simp),if_neg (fun h=>hj h.1)]
theorem codesL_get {l:List Int} (h:(judge l).2=0) {j:Nat} (hj:j<l.length) (h0:0<l[j]):(codesL l).1[j]? = some (cd l j:Int):=by
  obtain ⟨hl,hb,hk⟩:=judge_ok h
  have hs:sr l 16≤32768:=by
    have:=sr_all hb
    have h16:=(sumW_le hb).2
    rcases hk with h1 | h1 | h1
    · omega
    · have:∀ (l:List Int),cntL l=0→sumW l=0:=by
        intro l
        induction l with
        | nil=>intro _;rfl
        | cons x l ih =>
          intro h
          have h1:=there_le x
          have h2:=cntL_le l
          simp only [cntL] at h
          have h3:=ih (by omega)
          have h4:there x=0:=by omega
          unfold there at h4
          split at h4
          · omega
          · rename_i h5;simp only [sumW,wt,if_neg h5,h3];rfl
      have:=this l h1
      omega
    · omega
  unfold codesL
  rw [if_pos h]
  have hx:¬ badX l[j]:=fun hx=>hb ⟨_,List.getElem_mem hj,hx⟩
  unfold badX at hx
  have eg:l.getD j 0=l[j]:=by rw [List.getD_eq_getElem?_getD,List.getElem?_eq_getElem hj];rfl
  have:=codesFrom_spec l hs 15 1 (List.replicate l.length 0) (by omega) (by omega) (by simp) j
  rw [if_pos ⟨hj,by rw [eg];omega⟩] at this
  exact this
theorem count_take_lt {l:List Int} {i k:Nat} {c:Int} (hik:i<k) (hk:i<l.length) (hc:l[i]=c):(l.take i).count c<(l.take k).count c:=by
  have e:l.take k=l.take i++(l.take k).drop i:=by
    have:=List.take_append_drop i (l.take k)
    rw [List.take_take,Nat.min_eq_left (by omega)] at this
    exact this.symm
  rw [e,List.count_append]
  have:0<((l.take k).drop i).count c:=by
    rw [List.count_pos_iff]
    refine List.mem_iff_getElem?.2 ⟨0,?_⟩
    rw [List.getElem?_drop,List.getElem?_take_of_lt (by omega),Nat.add_zero,List.getElem?_eq_getElem hk,hc]
  omega
theorem shr32 {n m:Nat} (h:m≤15):shrI .u32 (n:Int) (m:Int)=((n / 2^m:Nat):Int):=by
  unfold shrI
  rw [Int.toNat_natCast,show min m IntKind.u32.bits=m by simp [IntKind.bits];omega,Int.natCast_ediv,Int.natCast_pow]
  rw [Int.fdiv_eq_ediv_of_nonneg _ (Int.pow_nonneg (by decide))]
  rfl
def okB (b:List Int):Prop:=∀ x∈b,0≤x∧x≤255
def tk (B:List Int) (a:Nat):Nat:=(B.getD (a / 8) 0).toNat / 2^(a%8)%2
theorem tk_le (B:List Int) (a:Nat):tk B a≤1:=by unfold tk;omega
theorem byte_bit {x:Int} (h:0≤x∧x≤255) {p:Nat} (hp:p≤7):bits .and .u32 (IntKind.wrap .u32 (shrI .u8 x (p:Int))) 1=((x.toNat / 2^p%2:Nat):Int):=by
  obtain ⟨b,rfl⟩:∃ b:BitVec 8,x=(b.toNat:Int):=⟨BitVec.ofNat 8 x.toNat,by simp;omega⟩
  rw [u8_shr,u32_of_u8,show (1:Int)=((1#32).toNat:Int) from rfl,u32_and,Int.toNat_natCast,Int.toNat_natCast]
  congr 1
  rw [BitVec.toNat_and,BitVec.toNat_setWidth,BitVec.toNat_ushiftRight,Nat.shiftRight_eq_div_pow,show (1#32).toNat=1 from rfl,Nat.and_one_is_mod,Nat.mod_mod_of_dvd _ (by decide)]
theorem byte_bit64 {x:Int} (h:0≤x∧x≤255) {p:Nat} (hp:p≤7):IntKind.wrap .u32 (bits .and .u64 (bits .or .u64 0 (shlI .u64 (IntKind.wrap .u64 (shrI .u8 x (p:Int))) 0)) 1)=((x.toNat / 2^p%2:Nat):Int):=by
  obtain ⟨b,rfl⟩:∃ b:BitVec 8,x=(b.toNat:Int):=⟨BitVec.ofNat 8 x.toNat,by simp;omega⟩
  rw [u8_shr,u64_of_u8,show (1:Int)=((1#64).toNat:Int) from rfl,show (0:Int)=((0#64).toNat:Int) from rfl,u64_shl,u64_or,u64_and,u32_of_u64,Int.toNat_natCast,Int.toNat_natCast]
  congr 1
  rw [BitVec.toNat_setWidth,BitVec.toNat_and,show (1#64).toNat=1 from rfl,Nat.and_one_is_mod,BitVec.toNat_or,BitVec.toNat_shiftLeft,BitVec.toNat_setWidth,BitVec.toNat_ushiftRight,Nat.shiftRight_eq_div_pow]
  have hb:=b.isLt
  have h2:b.toNat / 2^p≤b.toNat:=Nat.div_le_self _ _
  simp only [show (0#64).toNat=0 from rfl,Int.toNat_natCast,Int.toNat_zero,Nat.shiftLeft_zero,Nat.zero_or]
  rw [Nat.mod_eq_of_lt (show b.toNat / 2^p<2^64 by omega),Nat.mod_eq_of_lt (show b.toNat / 2^p<2^64 by omega)]
  omega
theorem g_bits_Reader_Take_eq (k:Nat) (hk:10≤k) (B:List Int) (hB:okB B) (hl:B.length≤140737488355328) (a:Nat) (ha:a≤8*B.length) :
    g_bits_Reader_Take k 1 (B.drop (a / 8)) ((a%8:Nat):Int)=if a<8*B.length then some ((tk B a:Int),0,B.drop ((a+1) / 8),(((a+1)%8:Nat):Int)) else some (0,10,B.drop (a / 8),((a%8:Nat):Int)):=by
  unfold g_bits_Reader_Take g_bits_Reader_Left
  simp only [Option.bind_some,bd]
  rw [if_neg (by omega),df (by omega)]
  simp only [Option.bind_some,bf,List.length_drop]
  rw [wi (n:=8*((B.length - a / 8:Nat):Int)) (by omega) (by omega),wi (n:=8*((B.length - a / 8:Nat):Int) - ((a%8:Nat):Int)) (by omega) (by omega)]
  by_cases h:a<8*B.length
  · rw [if_neg (by omega),if_pos h]
    obtain ⟨k,rfl⟩:∃ k',k=k'+2:=⟨k - 2,by omega⟩
    have hi:a / 8<B.length:=by omega
    have e1:ix (B.drop (a / 8)) 0=some B[a / 8]:=by
      unfold ix
      rw [if_pos (by omega),Int.toNat_zero,List.getElem?_drop,Nat.add_zero,List.getElem?_eq_getElem hi]
    rw [g_bits_Reader_Take_l0.eq_2]
    simp only [Option.bind_some,bd]
    rw [if_pos (by omega),e1]
    simp only [Option.bind_some]
    rw [if_pos (by omega),if_pos (by omega)]
    have hv:IntKind.wrap .u32 (bits .and .u64 (bits .or .u64 0 (shlI .u64 (IntKind.wrap .u64 (shrI .u8 B[a / 8] ((a%8:Nat):Int))) 0)) 1)=(tk B a:Int):=by
      rw [byte_bit64 (hB _ (List.getElem_mem hi)) (by omega)]
      simp [tk,List.getD_eq_getElem?_getD,List.getElem?_eq_getElem hi]
    have hm:IntKind.wrap .u64 (shlI .u64 1 1 - 1)=1:=by decide
    have hmin:(if (1:Int) - 0<8 - ((a%8:Nat):Int) then (1:Int) - 0 else 8 - ((a%8:Nat):Int))=1:=by split <;> omega
    rw [wi (n:=(1:Int) - 0) (by omega) (by omega),wi (n:=(8:Int) - ((a%8:Nat):Int)) (by omega) (by omega),hmin,wi (n:=((a%8:Nat):Int)+1) (by omega) (by omega),wi (n:=(0:Int)+1) (by omega) (by omega)]
    have fin:∀ v b p,g_bits_Reader_Take_l0 (k+2) 1 (k+1) v (0+1) b p=some (v,b,p):=by
      intro v b p
      rw [g_bits_Reader_Take_l0.eq_2,bd,if_neg (by omega)]
    by_cases h8:a%8=7
    · rw [if_pos (by omega),if_pos (by simp;omega),fin]
      simp only [Option.bind_some]
      rw [if_pos (by omega),hm,hv]
      have e3:(a+1) / 8=a / 8+1:=by omega
      have e4:(a+1)%8=0:=by omega
      rw [e3,e4,Int.toNat_natCast,List.take_length,show Int.toNat 1=1 from rfl,List.drop_drop]
      rfl
    · rw [if_neg (by omega),fin]
      simp only [Option.bind_some]
      rw [if_pos (by omega),hm,hv]
      have e3:(a+1) / 8=a / 8:=by omega
      have e4:(a+1)%8=a%8+1:=by omega
      rw [e3,e4]
      rfl
  · rw [if_pos (by omega),if_neg h]
theorem shl64 {n:Nat} (h:n≤65536):shlI .i64 (n:Int) 1=((2*n:Nat):Int):=by
  show IntKind.wrap .i64 ((n:Int)*2)=_
  rw [wi (by omega) (by omega)]
  omega
theorem or_bit {v b:Nat} (hb:b≤1):2*v ||| b=2*v+b:=by
  rcases Nat.le_one_iff_eq_zero_or_eq_one.1 hb with rfl | rfl
  · simp
  · apply Nat.eq_of_testBit_eq
    intro i
    rw [Nat.testBit_or]
    cases i with
    | zero=>simp [Nat.testBit_zero]
    | succ i=>rw [Nat.testBit_succ,Nat.testBit_succ,Nat.testBit_succ,show 2*v / 2=v by omega,show (2*v+1) / 2=v by omega];simp
theorem or_bit64 {v b:Nat} (hv:v≤65536) (hb:b≤1):bits .or .i64 (((2*v:Nat):Int)) (b:Int)=((2*v+b:Nat):Int):=by
  have e:bits .or .i64 (((2*v:Nat):Int)) (b:Int)=IntKind.wrap .i64 ((BitVec.ofInt 64 ((2*v:Nat):Int) ||| BitVec.ofInt 64 (b:Int)).toNat:Int):=rfl
  rw [e,BitVec.ofInt_natCast,BitVec.ofInt_natCast,BitVec.toNat_or,BitVec.toNat_ofNat,BitVec.toNat_ofNat,Nat.mod_eq_of_lt (by omega),Nat.mod_eq_of_lt (by omega),or_bit hb,wi (by omega) (by omega)]
def ixs (c:Int):List Int→Nat→List Int
  | [],_=>[]
  | x::l,i=>if x=c then (i:Int)::ixs c l (i+1) else ixs c l (i+1)
theorem ixs_length (c:Int):∀ (l:List Int) (i:Nat),(ixs c l i).length=l.count c
  | [],_=>rfl
  | x::l,i=>by
    unfold ixs
    by_cases hx:x=c
    · subst hx;rw [if_pos rfl,List.count_cons_self];simp [ixs_length]
    · rw [if_neg hx,List.count_cons_of_ne hx,ixs_length]
theorem ixs_get (c:Int):∀ (l:List Int) (i r:Nat),r<l.count c→∃ j,∃ h:j<l.length,(ixs c l i)[r]? = some ((i+j:Nat):Int)∧l[j]=c∧(l.take j).count c=r
  | [],_,_,h=>by simp at h
  | x::l,i,r,h=>by
    unfold ixs
    by_cases hx:x=c
    · subst hx
      rw [if_pos rfl]
      cases r with
      | zero=>exact ⟨0,by simp,by simp,rfl,by simp⟩
      | succ r =>
        rw [List.count_cons_self] at h
        obtain ⟨j,hj,h1,h2,h3⟩:=ixs_get x l (i+1) r (by omega)
        refine ⟨j+1,by simp;omega,?_,by simpa using h2,by rw [List.take_succ_cons,List.count_cons_self,h3]⟩
        rw [List.getElem?_cons_succ,h1]
        congr 2;omega
    · rw [List.count_cons_of_ne hx] at h
      rw [if_neg hx]
      obtain ⟨j,hj,h1,h2,h3⟩:=ixs_get c l (i+1) r h
      refine ⟨j+1,by simp;omega,?_,by simpa using h2,by rw [List.take_succ_cons,List.count_cons_of_ne hx,h3]⟩
      rw [h1]
      congr 2;omega
theorem g_huff_New_l1_ok (k:Nat) (l:List Int) (hl:l.length≤320) (c:Nat) (hc:c<16):∀ (n i:Nat) (cs sy:List Int),i≤l.length→l.length - i<n→sy.length+(l.length - i)≤100000→0≤cs.getD c 0→cs.getD c 0+(l.length - i:Nat)≤100000 →
    Ret (g_huff_New_l1 k l c n i cs sy) fun r=>∃ cs',r=Sum.inr (cs',sy++ixs c (l.drop i) i)∧∀ d,d<16→cs'.getD d 0=cs.getD d 0+if d=c then ((l.drop i).count (c:Int):Int) else 0:=by
  intro n
  induction n with
  | zero=>intro i cs sy _ h;omega
  | succ n ih =>
    intro i cs sy hi hn hsy h0 hcs
    rw [g_huff_New_l1.eq_2]
    simp only [Option.bind_some,bd]
    by_cases h:i<l.length
    · have e:ix l (i:Int)=some l[i]:=ix_nat h
      rw [if_pos (by omega),e,drop_cons h]
      simp only [Option.bind_some]
      by_cases hx:l[i]=(c:Int)
      · rw [if_pos hx,if_pos (by omega),if_pos (by omega),if_pos (by simp;omega),Int.toNat_natCast,wi (n:=cs.getD c 0+1) (by omega) (by omega),wsucc (by omega)]
        simp only [Option.bind_some,Bool.not_true,bf]
        obtain ⟨r,h1,cs',rfl,h3⟩:=ih (i+1) (setD 0 cs 16 c (cs.getD c 0+1)) (sy++[(i:Int)]) (by omega) (by omega) (by simp;omega) (by rw [setD_get hc,if_pos rfl];omega) (by rw [setD_get hc,if_pos rfl];omega)
        refine ⟨_,h1,cs',by simp [ixs,hx],fun d hd=>?_⟩
        rw [h3 d hd,setD_get hd,hx,List.count_cons_self]
        split
        · rename_i hdc;subst hdc;omega
        · omega
      · rw [if_neg hx,wsucc (by omega)]
        simp only [Option.bind_some,bf]
        obtain ⟨r,h1,cs',rfl,h3⟩:=ih (i+1) cs sy (by omega) (by omega) (by omega) h0 (by omega)
        refine ⟨_,h1,cs',by simp [ixs,hx],fun d hd=>?_⟩
        rw [h3 d hd,List.count_cons_of_ne hx]
    · rw [if_neg (by omega)]
      refine Ret.pure ⟨cs,by rw [List.drop_of_length_le (by omega)];simp [ixs],fun d hd=>?_⟩
      rw [List.drop_of_length_le (by omega)]
      simp
def symsFrom (l:List Int):Nat→Nat→List Int
  | 0,_=>[]
  | m+1,c=>ixs c l 0++symsFrom l m (c+1)
theorem g_huff_New_l0_ok (k:Nat) (l:List Int) (hl:l.length≤320) (hk:330≤k):∀ (n m c:Nat) (cs sy:List Int),c+m=16→m<n→sy.length+320*m≤90000→(∀ d,d<16→0≤cs.getD d 0∧cs.getD d 0≤320*c) →
    Ret (g_huff_New_l0 k l n cs sy c) fun r=>∃ cs',r=(cs',sy++symsFrom l m c)∧∀ d,d<16→cs'.getD d 0=cs.getD d 0+if c≤d then (cn l d:Int) else 0:=by
  intro n
  induction n with
  | zero=>intro m c cs sy _ h;omega
  | succ n ih =>
    intro m c cs sy hc hm hsy hcs
    rw [g_huff_New_l0.eq_2,bd]
    cases m with
    | zero=>rw [if_neg (by omega)];exact Ret.pure ⟨cs,by simp [symsFrom],fun d hd=>by rw [if_neg (by omega)];omega⟩
    | succ m =>
      have h0:=hcs c (by omega)
      obtain ⟨r,h1,cs1,rfl,h3⟩:=g_huff_New_l1_ok k l hl c (by omega) k 0 cs sy (by omega) (by omega) (by omega) h0.1 (by omega)
      have h1':g_huff_New_l1 k l c k 0 cs sy=_:=h1
      rw [if_pos (by omega),h1',wi (by omega) (by omega)]
      simp only [g_huff_of,Option.bind_some,List.drop_zero] at h3 ⊢
      rw [show (c:Int)+1=((c+1:Nat):Int) by omega]
      have hle:∀ d,cn l d≤320:=fun d=>Nat.le_trans List.count_le_length hl
      have hlc:(ixs c l 0).length≤320:=by rw [ixs_length];exact hle c
      obtain ⟨r,g1,cs2,rfl,g3⟩:=ih m (c+1) cs1 (sy++ixs c l 0) (by omega) (by omega) (by simp;omega) (fun d hd=>by
        have:=h3 d hd
        have h5:=hcs d hd
        have h6:=hle c
        simp only [cn] at h6
        rw [this]
        split <;> omega)
      refine ⟨_,g1,cs2,by simp [symsFrom],fun d hd=>?_⟩
      rw [g3 d hd,h3 d hd]
      by_cases hd':d=c
      · subst hd';rw [if_pos rfl,if_neg (by omega),if_pos (by omega)];simp [cn]
      · rw [if_neg hd']
        by_cases h7:c≤d
        · rw [if_pos (by omega),if_pos h7];omega
        · rw [if_neg (by omega),if_neg h7];omega
structure Dec (l:List Int) (cs sy:List Int):Prop where
  cs:∀ d,1≤d→d≤15→cs.getD d 0=(cn l d:Int)
  sy:sy=symsFrom l 15 1
theorem g_huff_New_ok {k:Nat} (hk:330≤k) {l:List Int}:if (judge l).2=0 then ∃ cs sy,g_huff_New k l=some (Sum.inr (cs,sy))∧Dec l cs sy else g_huff_New k l=some (Sum.inl (judge l).2):=by
  have e:g_huff_New k l=(if (judge l).2=0 then ((g_huff_New_l0 k l k (List.replicate 16 (0:Int)) ([]:List Int) 1).bind fun (x7571,x7572)=>some (Sum.inr (x7571,x7572))) else some (Sum.inl (judge l).2)):=by
    unfold g_huff_New
    rw [g_huff_judged_eq hk]
    simp only [Option.bind_some,bnd']
  by_cases h:(judge l).2=0
  · rw [if_pos h] at e ⊢
    have hz:∀ d,d<16→(List.replicate 16 (0:Int)).getD d 0=0:=by
      intro d hd
      rw [List.getD_eq_getElem?_getD,List.getElem?_replicate,if_pos hd];rfl
    obtain ⟨r,h1,cs,rfl,h3⟩:=g_huff_New_l0_ok k l (judge_ok h).1 hk k 15 1 (List.replicate 16 (0:Int)) [] (by omega) (by omega) (by simp) (fun d hd=>by rw [hz d hd];omega)
    have h1':g_huff_New_l0 k l k (List.replicate 16 (0:Int)) [] 1=_:=h1
    refine ⟨cs,_,by rw [e,h1'];rfl,fun d h1 h2=>?_,rfl⟩
    rw [h3 d (by omega),hz d (by omega),if_pos (by omega),Int.zero_add]
  · rw [if_neg h] at e ⊢;exact e
def ah (l:List Int):Nat→Nat
  | 0=>0
  | c+1=>if c=0 then 0 else ah l c+cn l c
theorem ah_le (l:List Int):∀ (b a:Nat),a≤b→ah l a≤ah l b
  | 0, a, h => by have : a = 0 := by omega
                  subst this;exact Nat.le_refl _
  | b+1,a,h=>by
    by_cases hab:a=b+1
    · subst hab;exact Nat.le_refl _
    · refine Nat.le_trans (ah_le l b a (by omega)) ?_
      simp only [ah]
      split
      · rename_i hb;subst hb;simp [ah]
      · omega
theorem symsFrom_length (l:List Int):∀ (m c:Nat),1≤c→ah l c+(symsFrom l m c).length=ah l (c+m)
  | 0,c,_=>by simp [symsFrom]
  | m+1,c,h=>by
    have ih:=symsFrom_length l m (c+1) (by omega)
    have e:ah l (c+1)=ah l c+cn l c:=by simp only [ah,if_neg (show ¬ c=0 by omega)]
    rw [symsFrom,List.length_append,ixs_length,show c+(m+1)=c+1+m by omega,← ih,e]
    simp only [cn];omega
theorem symsFrom_get (l:List Int):∀ (m c d r:Nat),1≤c→c≤d→d<c+m→r<cn l d→(symsFrom l m c)[ah l d - ah l c+r]? = (ixs d l 0)[r]?
  | 0,c,d,r,_,_,h,_=>by omega
  | m+1,c,d,r,h1,hcd,hd,hr=>by
    have e:ah l (c+1)=ah l c+cn l c:=by simp only [ah,if_neg (show ¬ c=0 by omega)]
    rw [symsFrom]
    by_cases h:c=d
    · subst h
      rw [Nat.sub_self,Nat.zero_add,List.getElem?_append_left (by rw [ixs_length];exact hr)]
    · have ih:=symsFrom_get l m (c+1) d r (by omega) (by omega) (by omega) hr
      have h2:=ah_le l d (c+1) (by omega)
      rw [List.getElem?_append_right (by rw [ixs_length];simp only [cn] at e;omega),ixs_length,← ih]
      congr 1
      simp only [cn] at e;omega
theorem sym_get {l:List Int} {d r:Nat} (h1:1≤d) (h15:d≤15) (hr:r<cn l d):∃ j,∃ h:j<l.length,(symsFrom l 15 1)[ah l d+r]? = some (j:Int)∧l[j]=(d:Int)∧(l.take j).count (d:Int)=r:=by
  have e:=symsFrom_get l 15 1 d r (by omega) h1 (by omega) hr
  obtain ⟨j,hj,g1,g2,g3⟩:=ixs_get (d:Int) l 0 r hr
  refine ⟨j,hj,?_,g2,g3⟩
  have h0:ah l 1=0:=rfl
  rw [h0,Nat.sub_zero] at e
  rw [e,g1,Nat.zero_add]
abbrev tot (l:List Int):Nat:=sr l 16
theorem sr_step (l:List Int) {c:Nat} (h:1≤c):sr l (c+1)=sr l c+cn l c*2^(15 - c):=by simp only [sr,if_neg (show ¬ c=0 by omega)]
theorem g_huff_Decoder_begins_l0_ok (k:Nat) (l:List Int) (cs:List Int) (hcs:∀ d,1≤d→d≤15→cs.getD d 0=(cn l d:Int)) (hl:l.length≤320) (q:Nat) (hq:1≤q):∀ (n m:Nat) (room:Nat),q≤m+1→m≤15→m+2 - q≤n→room≤1000→(∀ x:Nat,x<room↔x*2^(15 - m)<tot l - sr l (m+1)) →
    Ret (g_huff_Decoder_begins_l0 k q cs n room m) fun r=>∃ R:Nat,r=(R:Int)∧∀ x:Nat,x<R↔x*2^(16 - q)<tot l - sr l q:=by
  intro n
  induction n with
  | zero=>intro m room h1 h2 h3;omega
  | succ n ih =>
    intro m room h1 h2 h3 hr hx
    rw [g_huff_Decoder_begins_l0.eq_2,bd]
    by_cases h:q≤m
    · have hc:=hcs m (by omega) h2
      have hle:cn l m≤320:=Nat.le_trans List.count_le_length hl
      rw [if_pos (by omega),bd,if_pos (by omega),Int.toNat_natCast,hc]
      simp only [Option.bind_some]
      rw [wi (n:=(room:Int)+(cn l m:Int)) (by omega) (by omega),wi (n:=(room:Int)+(cn l m:Int)+1) (by omega) (by omega)]
      have e1:Int.tdiv ((room:Int)+(cn l m:Int)+1) 2=(((room+cn l m+1) / 2:Nat):Int):=by
        rw [show (room:Int)+(cn l m:Int)+1=((room+cn l m+1:Nat):Int) by omega];rfl
      rw [e1,wi (by omega) (by omega),wi (n:=(m:Int) - 1) (by omega) (by omega),show (m:Int) - 1=((m - 1:Nat):Int) by omega]
      refine ih (m - 1) _ (by omega) (by omega) (by omega) (by omega) fun x=>?_
      have hs:=sr_step l (c:=m) (by omega)
      have hm:=sr_mono l 16 (m+1) (by omega)
      rw [show m - 1+1=m by omega,show 15 - (m - 1)=(15 - m)+1 by omega,Nat.pow_succ]
      have h0:0<2^(15 - m):=Nat.two_pow_pos _
      generalize 2^(15 - m)=p at *
      have e2:x<(room+cn l m+1) / 2↔2*x<room+cn l m:=by omega
      rw [e2]
      have e3:tot l - sr l m=(tot l - sr l (m+1))+cn l m*p:=by simp only [tot] at *;omega
      rw [e3,show x*(p*2)=(2*x)*p by rw [Nat.mul_comm p 2,← Nat.mul_assoc,Nat.mul_comm x 2]]
      by_cases h6:2*x<cn l m
      · have h7:2*x*p<cn l m*p:=Nat.mul_lt_mul_of_pos_right h6 h0
        constructor <;> intro _ <;> omega
      · have h7:=hx (2*x - cn l m)
        rw [Nat.sub_mul] at h7
        have h8:cn l m*p≤2*x*p:=Nat.mul_le_mul_right _ (by omega)
        constructor
        · intro h9
          have:=h7.1 (by omega)
          omega
        · intro h9
          have:=h7.2 (by omega)
          omega
    · rw [if_neg (by omega)]
      have:q=m+1:=by omega
      subst this
      exact Ret.pure ⟨room,rfl,fun x=>by rw [show 16 - (m+1)=15 - m by omega];exact hx x⟩
def goesOn (l:List Int) (n v:Nat):Prop:=∃ i,∃ h:i<l.length,(n:Int)≤l[i]∧cd l i / 2^(l[i].toNat - n+1)=v
theorem cd_lt {l:List Int} {i:Nat} (hi:i<l.length) {c:Nat} (h1:1≤c) (hc:l[i]=(c:Int)) (h15:c≤15):sr l c≤cd l i*2^(15 - c)∧(cd l i+1)*2^(15 - c)≤sr l (c+1):=by
  have ei:l.getD i 0=l[i]:=by rw [List.getD_eq_getElem?_getD,List.getElem?_eq_getElem hi];rfl
  unfold cd
  rw [ei,hc,Int.toNat_natCast]
  have e:=hf_sr l c h1 h15
  have h5:(l.take i).count (c:Int)+1≤cn l c:=by
    have:=count_take_lt (l:=l) (i:=i) (k:=l.length) hi hi hc
    rw [List.take_length] at this
    exact this
  refine ⟨by rw [← e];exact Nat.mul_le_mul_right _ (by omega),?_⟩
  rw [sr_step l h1,← e,← Nat.add_mul]
  exact Nat.mul_le_mul_right _ (by omega)
theorem pow_split {n c:Nat} (h:n≤c) (h1:1≤n) (h15:c≤15):2^(16 - n)=2^(c - n+1)*2^(15 - c):=by rw [← Nat.pow_add];congr 1;omega
theorem goesOn_iff {l:List Int} (hb:¬ badL l) {n v:Nat} (h1:1≤n) (h15:n≤15) (hv:sr l n≤v*2^(16 - n)):goesOn l n v↔v*2^(16 - n)<tot l:=by
  constructor
  · rintro ⟨i,hi,h2,h3⟩
    have hx:¬ badX l[i]:=fun hx=>hb ⟨_,List.getElem_mem hi,hx⟩
    unfold badX at hx
    obtain ⟨c,hc⟩:∃ c:Nat,l[i]=(c:Int):=⟨l[i].toNat,by omega⟩
    rw [hc,Int.toNat_natCast] at h3
    rw [hc] at h2 hx
    have h4:=(cd_lt hi (by omega) hc (by omega)).2
    have h5:=sr_mono l 16 (c+1) (by omega)
    rw [pow_split (n:=n) (c:=c) (by omega) h1 (by omega),← Nat.mul_assoc]
    have h6:v*2^(c - n+1)≤cd l i:=by rw [← h3];exact Nat.div_mul_le_self _ _
    have h7:v*2^(c - n+1)*2^(15 - c)≤cd l i*2^(15 - c):=Nat.mul_le_mul_right _ h6
    have h8:0<2^(15 - c):=Nat.two_pow_pos _
    rw [Nat.add_mul,Nat.one_mul] at h4
    simp only [tot];omega
  · intro h
    -- the length whose codes are there
    have hex:∀ (m c:Nat),c+m=16→n≤c→sr l c≤v*2^(16 - n)→∃ d,n≤d∧d≤15∧sr l d≤v*2^(16 - n)∧v*2^(16 - n)<sr l (d+1):=by
      intro m
      induction m with
      | zero => intro c hc _ hs; have : c = 16 := by omega
                subst this;simp only [tot] at h;omega
      | succ m ih =>
        intro c hc hnc hs
        by_cases h2:v*2^(16 - n)<sr l (c+1)
        · exact ⟨c,hnc,by omega,hs,h2⟩
        · exact ih (c+1) (by omega) (by omega) (by omega)
    obtain ⟨d,hd1,hd2,hd3,hd4⟩:=hex (16 - n) n (by omega) (Nat.le_refl _) hv
    have hp:0<2^(15 - d):=Nat.two_pow_pos _
    have hs:=hf_sr l d (by omega) hd2
    have hq:=pow_split (n:=n) (c:=d) hd1 h1 hd2
    rw [hq,← Nat.mul_assoc] at hd3 hd4
    rw [← hs] at hd3
    rw [sr_step l (by omega),← hs,← Nat.add_mul] at hd4
    have k1:=Nat.le_of_mul_le_mul_right hd3 hp
    have k2:=Nat.lt_of_mul_lt_mul_right hd4
    obtain ⟨j,hj,_,g2,g3⟩:=sym_get (l:=l) (d:=d) (r:=v*2^(d - n+1) - 2*hf l d) (by omega) hd2 (by omega)
    refine ⟨j,hj,by rw [g2];omega,?_⟩
    have ej:l.getD j 0=l[j]:=by rw [List.getD_eq_getElem?_getD,List.getElem?_eq_getElem hj];rfl
    have:cd l j=v*2^(d - n+1):=by
      unfold cd
      rw [ej,g2,Int.toNat_natCast,g3];omega
    rw [this,g2,Int.toNat_natCast]
    exact Nat.mul_div_cancel _ (Nat.two_pow_pos _)
theorem g_quireref02_space_l0_eq (k:Nat) (l:List Int) (hl:l.length≤320) (hb:¬ badL l):∀ (n i:Nat) (a m:Int),i≤l.length→l.length - i<n→0≤a→a≤16384*i→0≤m→m≤i →
    g_quireref02_space_l0 k l n a m i=some (a+sumW (l.drop i),m+cntL (l.drop i)):=by
  intro n
  induction n with
  | zero=>intro i a m _ h;omega
  | succ n ih =>
    intro i a m hi hn ha1 ha2 hm0 hm
    rw [g_quireref02_space_l0.eq_2]
    simp only [Option.bind_some,bd]
    by_cases h:i<l.length
    · have e:ix l (i:Int)=some l[i]:=ix_nat h
      have hx':¬ badX l[i]:=fun hx=>hb ⟨_,List.getElem_mem h,hx⟩
      rw [if_pos (by omega),drop_cons h]
      simp only [e,Option.bind_some,sumW,cntL]
      generalize hx:l[i]=x at *
      have hw:=wt_le hx'
      unfold badX at hx'
      unfold wt there at *
      by_cases h0:0<x
      · rw [if_pos h0] at hw
        rw [if_pos h0,wi (n:=15 - x) (by omega) (by omega),wu64 (by omega) (by omega),if_pos (by omega),shlw h0 (by omega),if_pos h0,if_pos h0]
        rw [wi (n:=a+2^(15 - x.toNat)) (by omega) (by omega),wi (n:=m+1) (by omega) (by omega),wsucc (by omega)]
        simp only [Option.bind_some]
        rw [ih (i+1) _ _ (by omega) (by omega) (by omega) (by omega) (by omega) (by omega)]
        simp only [Int.add_assoc]
      · rw [if_neg h0,if_neg h0,if_neg h0,wsucc (by omega)]
        simp only [Option.bind_some]
        rw [ih (i+1) _ _ (by omega) (by omega) (by omega) (by omega) (by omega) (by omega)]
        simp only [Int.zero_add]
    · rw [if_neg (by omega),List.drop_of_length_le (by omega)]
      simp [sumW,cntL]
theorem g_quireref02_space_eq {k:Nat} {l:List Int} (hk:330≤k) (hl:l.length≤320) (hb:¬ badL l):g_quireref02_space k l=some (sumW l,cntL l):=by
  unfold g_quireref02_space
  have e:=g_quireref02_space_l0_eq k l hl hb k 0 0 0 (by omega) (by omega) (by omega) (by omega) (by omega) (by omega)
  rw [List.drop_zero] at e
  have e':g_quireref02_space_l0 k l k 0 0 0=_:=e
  rw [e']
  simp
theorem g_quireref02_Right_l0_eq (k:Nat) (l:List Int) (hl:l.length≤320):∀ (n i:Nat),i≤l.length→l.length - i<n→g_quireref02_Right_l0 k l n i=some (if badL (l.drop i) then Sum.inl () else Sum.inr ()):=by
  intro n
  induction n with
  | zero=>intro i _ h;omega
  | succ n ih =>
    intro i hi hn
    rw [g_quireref02_Right_l0.eq_2]
    simp only [Option.bind_some,bd]
    by_cases h:i<l.length
    · have e:ix l (i:Int)=some l[i]:=ix_nat h
      rw [if_pos (by omega),drop_cons h]
      simp only [e,Option.bind_some,badL_cons]
      generalize hx:l[i]=x
      by_cases hb:badX x
      · have hb':(if x<0 then some true else some (decide (15<x)))=some true:=by
          unfold badX at hb
          split
          · rfl
          · rw [dt (by omega)]
        rw [hb',if_pos (Or.inl hb:badX x∨badL (l.drop (i+1)))]
        rfl
      · have hb':(if x<0 then some true else some (decide (15<x)))=some false:=by
          unfold badX at hb
          rw [if_neg (by omega),df (by omega)]
        rw [hb',wsucc (by omega)]
        simp only [Option.bind_some,bf,or_iff_right hb]
        exact ih (i+1) (by omega) (by omega)
    · rw [if_neg (by omega),List.drop_of_length_le (by omega),if_neg (by simp [badL])]
theorem g_quireref02_Right_eq {k:Nat} {l:List Int} (hk:330≤k):g_quireref02_Right k l=some (judge l).2:=by
  unfold g_quireref02_Right judge
  simp only [Option.bind_some,bd]
  by_cases h:320<l.length
  · rw [if_pos (by omega),if_pos h]
  · rw [if_neg (by omega),if_neg h]
    have e:=g_quireref02_Right_l0_eq k l (by omega) k 0 (by omega) (by omega)
    rw [List.drop_zero] at e
    have e':g_quireref02_Right_l0 k l k 0=_:=e
    rw [e']
    by_cases hb:badL l
    · rw [if_pos hb,if_pos hb];rfl
    · rw [if_neg hb,if_neg hb]
      simp only [Option.bind_some,g_quireref02_space_eq hk (show l.length≤320 by omega) hb]
      by_cases h1:sumW l=32768
      · rw [if_pos h1,if_pos h1];rfl
      · rw [if_neg h1,if_neg h1]
        by_cases h2:cntL l=0
        · rw [if_pos h2,if_pos (.inl h2)];rfl
        · rw [if_neg h2]
          by_cases h3:cntL l=1
          · rw [if_pos h3]
            by_cases h4:sumW l=16384
            · rw [dt h4,if_pos (.inr ⟨h3,h4⟩)];rfl
            · rw [df h4,if_neg (by omega)];rfl
          · rw [if_neg h3,if_neg (by omega)];rfl
theorem g_quireref02_Full_eq {k:Nat} {l:List Int} (hk:330≤k):g_quireref02_Full k l=some (judge l).1:=by
  unfold g_quireref02_Full
  rw [g_quireref02_Right_eq hk]
  simp only [Option.bind_some,bnd']
  unfold judge
  by_cases h:320<l.length
  · rw [if_pos h];rfl
  · rw [if_neg h]
    by_cases hb:badL l
    · rw [if_pos hb];rfl
    · rw [if_neg hb,g_quireref02_space_eq hk (by omega) hb]
      by_cases h1:sumW l=32768
      · rw [if_pos h1];simp [h1]
      · rw [if_neg h1]
        by_cases h2:cntL l=0∨cntL l=1∧sumW l=16384
        · rw [if_pos h2];simp [h1]
        · rw [if_neg h2];rfl
theorem g_quireref02_Codes_l1_eq (k:Nat) (l:List Int) (hl:l.length≤320) (c:Int):∀ (n i:Nat) (out:List Int) (nx:Int),out.length=l.length→i≤l.length→l.length - i<n →
    g_quireref02_Codes_l1 k l c n nx i out=some (codesOf c (l.drop i) nx i out):=by
  intro n
  induction n with
  | zero=>intro i out nx _ _ h;omega
  | succ n ih =>
    intro i out nx ho hi hn
    rw [g_quireref02_Codes_l1.eq_2]
    simp only [Option.bind_some,bd]
    by_cases h:i<l.length
    · have e:ix l (i:Int)=some l[i]:=ix_nat h
      have e2:ix out (i:Int)=some (out[i]'(by omega)):=ix_nat (by omega)
      rw [if_pos (by omega),drop_cons h,e]
      simp only [Option.bind_some,e2]
      by_cases hc:l[i]=c
      · rw [if_pos hc]
        simp only [Option.bind_some,Int.toNat_natCast]
        rw [wsucc (by omega),ih (i+1) _ _ (by simpa using ho) (by omega) (by omega)]
        simp only [codesOf,if_pos hc]
      · rw [if_neg hc]
        simp only [Option.bind_some]
        rw [wsucc (by omega),ih (i+1) _ _ ho (by omega) (by omega)]
        simp only [codesOf,if_neg hc]
    · rw [if_neg (by omega),List.drop_of_length_le (by omega)]
      rfl
theorem g_quireref02_Codes_l0_eq (k:Nat) (l:List Int) (hl:l.length≤320) (hk:330≤k):∀ (n m:Nat) (c nx:Int) (out:List Int),out.length=l.length→c+m=16→m≤15→m<n→g_quireref02_Codes_l0 k l n nx c out=some (codesFrom l m c nx out):=by
  intro n
  induction n with
  | zero=>intro m c nx out _ _ _ h;omega
  | succ n ih =>
    intro m c nx out ho hc h15 hm
    rw [g_quireref02_Codes_l0.eq_2]
    cases m with
    | zero=>rw [bd,if_neg (by omega)];rfl
    | succ m =>
      have e:=g_quireref02_Codes_l1_eq k l hl c k 0 out (shlI .u32 nx 1) ho (by omega) (by omega)
      rw [List.drop_zero] at e
      have e':g_quireref02_Codes_l1 k l c k (shlI .u32 nx 1) 0 out=_:=e
      rw [bd,if_pos (by omega),e']
      simp only [Option.bind_some]
      rw [wi (by omega) (by omega),ih m (c+1) _ _ (by rw [codesOf_length];exact ho) (by omega) (by omega) (by omega)]
      rfl
theorem g_quireref02_Codes_eq {k:Nat} {l:List Int} (hk:330≤k):g_quireref02_Codes k l=some (codesL l):=by
  unfold g_quireref02_Codes codesL
  rw [g_quireref02_Right_eq hk]
  simp only [Option.bind_some,bnd',bd]
  by_cases h:(judge l).2=0
  · have hl:=(judge_ok h).1
    have e:=g_quireref02_Codes_l0_eq k l hl hk k 15 1 0 (List.replicate l.length 0) (by simp) (by omega) (by omega) (by omega)
    rw [if_pos h,if_pos h,if_pos (by omega),Int.toNat_natCast,e]
    rfl
  · rw [if_neg h,if_neg h]
theorem g_quireref02_Next_l1_ok (k:Nat) (l:List Int) (h:(judge l).2=0) (n v:Nat) (h1:1≤n) (h15:n≤15):∀ (f i:Nat) (b:Bool),i≤l.length→l.length - i<f →
    ∃ b',g_quireref02_Next_l1 k l (codesL l).1 v n f b i=some b'∧(b'=true↔b=true∨∃ j,i≤j∧∃ h:j<l.length,(n:Int)≤l[j]∧cd l j / 2^(l[j].toNat - n+1)=v):=by
  obtain ⟨hl,hb,hk⟩:=judge_ok h
  intro f
  induction f with
  | zero=>intro i b _ h;omega
  | succ f ih =>
    intro i b hi hn
    rw [g_quireref02_Next_l1.eq_2]
    simp only [Option.bind_some,bd]
    by_cases hil:i<l.length
    · have ei:ix l (i:Int)=some l[i]:=ix_nat hil
      have hx:¬ badX l[i]:=fun hx=>hb ⟨_,List.getElem_mem hil,hx⟩
      unfold badX at hx
      rw [if_pos (by omega),ei,wsucc (by omega)]
      simp only [Option.bind_some]
      have split:(∃ j,i≤j∧∃ h:j<l.length,(n:Int)≤l[j]∧cd l j / 2^(l[j].toNat - n+1)=v)↔((n:Int)≤l[i]∧cd l i / 2^(l[i].toNat - n+1)=v)∨∃ j,i+1≤j∧∃ h:j<l.length,(n:Int)≤l[j]∧cd l j / 2^(l[j].toNat - n+1)=v:=by
        constructor
        · rintro ⟨j,hij,hj,g⟩
          rcases Nat.eq_or_lt_of_le hij with rfl | h2
          · exact .inl g
          · exact .inr ⟨j,h2,hj,g⟩
        · rintro (g | ⟨j,hij,hj,g⟩)
          · exact ⟨i,Nat.le_refl _,hil,g⟩
          · exact ⟨j,by omega,hj,g⟩
      cases b with
      | true =>
        obtain ⟨b',g1,g2⟩:=ih (i+1) true (by omega) (by omega)
        refine ⟨b',by simpa using g1,?_⟩
        rw [g2];simp
      | false =>
        simp only [bf]
        by_cases hle:(n:Int)≤l[i]
        · have ec:ix (codesL l).1 (i:Int)=some (cd l i:Int):=by
            unfold ix;rw [if_pos (by omega),Int.toNat_natCast];exact codesL_get h hil (by omega)
          have e1:IntKind.wrap .u64 (IntKind.wrap .i64 (IntKind.wrap .i64 (l[i] - n)+1))=((l[i].toNat - n+1:Nat):Int):=by
            rw [wi (n:=l[i] - n) (by omega) (by omega),wi (n:=l[i] - n+1) (by omega) (by omega),wu64 (by omega) (by omega)];omega
          rw [if_pos hle,ec]
          simp only [Option.bind_some,e1]
          rw [if_pos (by omega),shr32 (by omega)]
          simp only [Option.bind_some]
          obtain ⟨b',g1,g2⟩:=ih (i+1) (decide (((cd l i / 2^(l[i].toNat - n+1):Nat):Int)=(v:Int))) (by omega) (by omega)
          refine ⟨b',g1,?_⟩
          rw [g2,split,decide_eq_true_eq,Int.ofNat_inj]
          simp [hle]
        · rw [if_neg hle]
          simp only [Option.bind_some]
          obtain ⟨b',g1,g2⟩:=ih (i+1) false (by omega) (by omega)
          refine ⟨b',g1,?_⟩
          rw [g2,split]
          simp [hle]
    · rw [if_neg (by omega)]
      refine ⟨b,rfl,?_⟩
      constructor
      · exact .inl
      · rintro (g | ⟨j,h1,h2,_⟩)
        · exact g
        · omega
theorem g_quireref02_Next_l2_ok (k:Nat) (l:List Int) (h:(judge l).2=0) (n v b w:Nat) (h1:1≤n) (hw:bits .or .u32 (shlI .u32 (v:Int) 1) (b:Int)=(w:Int)):∀ (f i:Nat),i≤l.length→l.length - i<f→(∀ j (hj:j<l.length),j<i→¬ (l[j]=(n:Int)∧cd l j=w)) →
    (∃ j,∃ hj:j<l.length,l[j]=(n:Int)∧cd l j=w∧g_quireref02_Next_l2 k l (codesL l).1 v n b f i=some (Sum.inl (j:Int)))∨((∀ j (hj:j<l.length),¬ (l[j]=(n:Int)∧cd l j=w))∧g_quireref02_Next_l2 k l (codesL l).1 v n b f i=some (Sum.inr ())):=by
  obtain ⟨hl,hb,hk⟩:=judge_ok h
  intro f
  induction f with
  | zero=>intro i _ h;omega
  | succ f ih =>
    intro i hi hn hno
    rw [g_quireref02_Next_l2.eq_2]
    simp only [Option.bind_some,bd]
    by_cases hil:i<l.length
    · have ei:ix l (i:Int)=some l[i]:=ix_nat hil
      rw [if_pos (by omega),ei,wsucc (by omega)]
      simp only [Option.bind_some]
      have next:¬ (l[i]=(n:Int)∧cd l i=w)→∀ j (hj:j<l.length),j<i+1→¬ (l[j]=(n:Int)∧cd l j=w):=by
        intro hni j hj hji
        rcases Nat.eq_or_lt_of_le (Nat.le_of_lt_succ hji) with rfl | h2
        · exact hni
        · exact hno j hj h2
      by_cases hle:l[i]=(n:Int)
      · have ec:ix (codesL l).1 (i:Int)=some (cd l i:Int):=by
          unfold ix;rw [if_pos (by omega),Int.toNat_natCast];exact codesL_get h hil (by omega)
        rw [if_pos hle,ec]
        simp only [Option.bind_some,hw]
        by_cases he:cd l i=w
        · rw [dt (by omega)]
          exact .inl ⟨i,hil,hle,he,rfl⟩
        · rw [df (by omega)]
          exact ih (i+1) (by omega) (by omega) (next fun h=>he h.2)
      · rw [if_neg hle]
        simp only [Option.bind_some,bf]
        exact ih (i+1) (by omega) (by omega) (next fun h=>hle h.1)
    · rw [if_neg (by omega)]
      exact .inr ⟨fun j hj=>hno j hj (by omega),rfl⟩
def bitAt (b:List Int) (i:Nat):Bool:=(BitVec.ofInt 8 (b.getD (i / 8) 0)).getLsbD (i%8)
theorem okB_bv {x:Int} (h:0≤x∧x≤255):x=((BitVec.ofInt 8 x).toNat:Int):=by
  rw [BitVec.toNat_ofInt,Int.toNat_of_nonneg (by simp;omega)]
  simp;omega
theorem ofInt8_toNat (v:BitVec 8):BitVec.ofInt 8 (v.toNat:Int)=v:=by
  rw [BitVec.ofInt_natCast,BitVec.ofNat_toNat];simp
theorem not_bad {c:Int} (h:0≤c∧c≤32):(bif decide (c<0) then some true else some (decide (32<c)))=some false:=by
  rw [df (show ¬ c<0 by omega),df (show ¬ 32<c by omega)];rfl
structure Rr (b:List Int) (p:Nat) (B:List Bool):Prop where
  lt:p<8
  l:8*b.length=p+B.length
  ok:okB b
  bit:∀ i,i<B.length→B.getD i false=bitAt b (p+i)
theorem Rr.drop {b:List Int} {p:Nat} {B:List Bool} (h:Rr b p B) {t:Nat} (ht:t≤B.length) (hp:p+t<8):Rr b (p+t) (B.drop t):=by
  have hl:=h.l
  refine ⟨hp,by simp;omega,h.ok,fun i hi=>?_⟩
  have:=h.bit (t+i) (by simp at hi;omega)
  rw [show p+t+i=p+(t+i) by omega,← this]
  simp [List.getD_eq_getElem?_getD]
theorem Rr.drop8 {b:List Int} {p:Nat} {B:List Bool} (h:Rr b p B) {t:Nat} (ht:t≤B.length) (hp:p+t=8):Rr (b.drop 1) 0 (B.drop t):=by
  have hl:=h.l
  refine ⟨by omega,by simp;omega,fun x hx=>h.ok x (List.mem_of_mem_drop hx),fun i hi=>?_⟩
  have:=h.bit (t+i) (by simp at hi;omega)
  simp only [List.getD_eq_getElem?_getD,List.getElem?_drop] at this ⊢
  rw [this,show p+(t+i)=8+i by omega]
  unfold bitAt
  simp only [List.getD_eq_getElem?_getD,List.getElem?_drop]
  rw [show (8+i) / 8=1+(0+i) / 8 by omega,show (8+i)%8=(0+i)%8 by omega]
theorem g_bits_Reader_Left_eq (k:Nat) {b:List Int} {p:Nat} {B:List Bool} (h:Rr b p B) (hb:b.length≤140737488355328):g_bits_Reader_Left k b (p:Int)=some (B.length:Int):=by
  unfold g_bits_Reader_Left
  have:=h.l
  have:=h.lt
  simp only [Option.bind_some]
  rw [wi (n:=8*((b.length:Nat):Int)) (by omega) (by omega),wi (by omega) (by omega)]
  congr 1;omega
theorem min_eq' (a b:Nat):(if ((a:Nat):Int)<(b:Int) then (a:Int) else (b:Int))=((min a b:Nat):Int):=by
  split <;> omega
theorem g_bits_Reader_Take_l0_eq (k c:Nat) (hc:c≤32) (B0:List Bool) (hB0:c≤B0.length):∀ (m got:Nat) (out:BitVec 64) (b:List Int) (p:Nat),Rr b p (B0.drop got)→b.length≤140737488355328→got≤c→c - got<m →
    (∀ j,j<got→out.getLsbD j=B0.getD j false)→(got<c→∀ j,got≤j→out.getLsbD j=false) →
    ∃ (out':BitVec 64) (b':List Int) (p':Nat),g_bits_Reader_Take_l0 k (c:Int) m (out.toNat:Int) (got:Int) b (p:Int)=some ((out'.toNat:Int),b',(p':Int))∧Rr b' p' (B0.drop c)∧b'.length≤140737488355328∧(∀ j,j<c→out'.getLsbD j=B0.getD j false)∧∃ t,b'=b.drop t:=by
  intro m
  induction m with
  | zero=>intro got out b p _ _ _ h;omega
  | succ m ih =>
    intro got out b p hr hbl hg hm ho1 ho2
    rw [g_bits_Reader_Take_l0.eq_2]
    have hp:=hr.lt
    have hrl:=hr.l
    simp only [List.length_drop] at hrl
    by_cases h:got<c
    · have hpos:0<b.length:=by omega
      have hx:=okB_bv (hr.ok _ (List.getElem_mem hpos))
      rw [dt (show (got:Int)<(c:Int) by omega),show ix b 0=some b[0] from ix_nat hpos]
      simp only [cond_true,Option.bind_some]
      rw [dt (show (0:Int)≤(p:Int) by omega),dt (show (0:Int)≤(got:Int) by omega)]
      simp only [cond_true,Option.bind_some]
      rw [hx,u8_shr,u64_of_u8,u64_shl,u64_or]
      rw [wi (n:=(c:Int) - (got:Int)) (by omega) (by omega),wi (n:=8 - (p:Int)) (by omega) (by omega),show (c:Int) - (got:Int)=((c - got:Nat):Int) by omega,show 8 - (p:Int)=((8 - p:Nat):Int) by omega,min_eq',
        wi (by omega) (by omega),wi (by omega) (by omega)]
      generalize ht:min (c - got) (8 - p)=t
      have ht1:0<t:=by omega
      have ht2:t≤c - got:=by omega
      have ht3:p+t≤8:=by omega
      have hx0:b.getD 0 0=b[0]:=by rw [List.getD_eq_getElem?_getD,List.getElem?_eq_getElem hpos];rfl
      let out':BitVec 64:=out ||| (((BitVec.ofInt 8 b[0]) >>> p).setWidth 64 <<< got)
      have hout':out ||| (((BitVec.ofInt 8 b[0]) >>> (p:Int).toNat).setWidth 64 <<< (got:Int).toNat)=out':=rfl
      rw [hout']
      have n1:∀ j,j<got+t→out'.getLsbD j=B0.getD j false:=by
        intro j hj
        simp only [out',BitVec.getLsbD_or,BitVec.getLsbD_shiftLeft,BitVec.getLsbD_setWidth,BitVec.getLsbD_ushiftRight]
        by_cases hjg:j<got
        · rw [ho1 j hjg];simp [hjg]
        · rw [ho2 h j (by omega)]
          have hb:=hr.bit (j - got) (by simp;omega)
          simp only [List.getD_eq_getElem?_getD,List.getElem?_drop] at hb ⊢
          rw [show got+(j - got)=j by omega] at hb
          rw [hb]
          unfold bitAt
          rw [show (p+(j - got)) / 8=0 by omega,show (p+(j - got))%8=p+(j - got) by omega,hx0]
          simp [show j<64 by omega,hjg,show j - got<64 by omega]
      have n2:got+t<c→∀ j,got+t≤j→out'.getLsbD j=false:=by
        intro hlt j hj
        have:p+t=8:=by omega
        simp only [out',BitVec.getLsbD_or,BitVec.getLsbD_shiftLeft,BitVec.getLsbD_setWidth,BitVec.getLsbD_ushiftRight]
        rw [ho2 h j (by omega),BitVec.getLsbD_of_ge (BitVec.ofInt 8 b[0]) (p+(j - got)) (by omega)]
        simp
      have hd:(B0.drop got).drop t=B0.drop (got+t):=by rw [List.drop_drop]
      by_cases h8:p+t=8
      · rw [dt (show (p:Int)+(t:Int)=8 by omega)]
        simp only [cond_true]
        rw [dt (show 0≤(1:Int)∧(1:Int)≤((b.length:Nat):Int)∧((b.length:Nat):Int)≤((b.length:Nat):Int) by omega)]
        simp only [cond_true,Int.toNat_natCast,List.take_length]
        have hr':=hr.drop8 (t:=t) (by simp;omega) h8
        rw [hd] at hr'
        obtain ⟨o2,b2,p2,g1,g2,g3,g4,t2,g5⟩:=ih (got+t) out' (b.drop 1) 0 hr' (by simp;omega) (by omega) (by omega) n1 n2
        exact ⟨o2,b2,p2,g1,g2,g3,g4,1+t2,by rw [g5,List.drop_drop]⟩
      · rw [df (show ¬ (p:Int)+(t:Int)=8 by omega)]
        simp only [cond_false]
        have hr':=hr.drop (t:=t) (by simp;omega) (by omega)
        rw [hd] at hr'
        exact ih (got+t) out' b (p+t) hr' hbl (by omega) (by omega) n1 n2
    · rw [df (show ¬ (got:Int)<(c:Int) by omega)]
      have:got=c:=by omega
      subst this
      exact ⟨out,b,p,rfl,hr,hbl,ho1,0,rfl⟩
theorem mask64 (c:Nat) (hc:c≤32) (j:Nat):((1#64 <<< c) - 1#64).getLsbD j=decide (j<c):=by
  have h1:(1#64 <<< c) - 1#64=BitVec.ofNat 64 (2^c - 1):=by
    apply BitVec.eq_of_toNat_eq
    have h2:2^c≤2^32:=Nat.pow_le_pow_right (by decide) hc
    have h3:0<2^c:=Nat.pow_pos (by decide)
    simp only [BitVec.toNat_sub,BitVec.toNat_shiftLeft,BitVec.toNat_ofNat,Nat.shiftLeft_eq]
    generalize 2^c=z at *
    omega
  rw [h1,BitVec.getLsbD_ofNat]
  by_cases hj:j<64
  · simp [hj,Nat.testBit_two_pow_sub_one]
  · have:¬ j<c:=by omega
    simp [hj,this]
theorem g_bits_Reader_Take_less (k c:Nat) (hc:c≤32) {b:List Int} {p:Nat} {B:List Bool} (h:Rr b p B) (hb:b.length≤140737488355328) (hl:B.length<c):g_bits_Reader_Take k (c:Int) b (p:Int)=some (0,10,b,(p:Int)):=by
  unfold g_bits_Reader_Take
  rw [not_bad (by omega)]
  simp only [Option.bind_some,cond_false,g_bits_Reader_Left_eq k h hb]
  rw [dt (show (B.length:Int)<(c:Int) by omega)];rfl
theorem g_bits_Reader_Take_ok {k c:Nat} (hk:40≤k) (hc:c≤32) {b:List Int} {p:Nat} {B:List Bool} (h:Rr b p B) (hb:b.length≤140737488355328) (hl:c≤B.length) :
    ∃ (r:BitVec 32) (b':List Int) (p':Nat),g_bits_Reader_Take k (c:Int) b (p:Int)=some ((r.toNat:Int),0,b',(p':Int))∧Rr b' p' (B.drop c)∧b'.length≤140737488355328∧(∀ j,r.getLsbD j=(decide (j<c)&&B.getD j false))∧∃ t,b'=b.drop t:=by
  obtain ⟨out,b',p',h1,h2,h3,h4,h5⟩:=g_bits_Reader_Take_l0_eq k c hc B hl k 0 0#64 b p (by simpa using h) hb (by omega) (by omega) (by omega) (by simp)
  refine ⟨((out &&& ((1#64 <<< c) - 1#64)).setWidth 32),b',p',?_,h2,h3,fun j=>?_,h5⟩
  · unfold g_bits_Reader_Take
    rw [not_bad (by omega)]
    simp only [Option.bind_some,cond_false,g_bits_Reader_Left_eq k h hb]
    rw [df (show ¬ (B.length:Int)<(c:Int) by omega),show g_bits_Reader_Take_l0 k (c:Int) k 0 0 b (p:Int)=_ from h1,dt (show (0:Int)≤(c:Int) by omega)]
    simp only [Option.bind_some,cond_false,cond_true]
    rw [show (1:Int)=((1#64).toNat:Int) from rfl,u64_shl,u64_sub,u64_and,u32_of_u64]
    rfl
  · rw [BitVec.getLsbD_setWidth,BitVec.getLsbD_and,mask64 c hc]
    by_cases hj:j<c
    · rw [h4 j hj];simp [hj,show j<32 by omega]
    · simp [hj]
def bitsOfBytes (d:List Int):List Bool:=(List.range (8*d.length)).map (bitAt d)
theorem bob_length (d:List Int):(bitsOfBytes d).length=8*d.length:=by simp [bitsOfBytes]
theorem bob_getD (d:List Int) (i:Nat) (h:i<8*d.length):(bitsOfBytes d).getD i false=bitAt d i:=by
  simp [bitsOfBytes,List.getD_eq_getElem?_getD,h]
structure Rel (d b:List Int) (p pos:Nat):Prop where
  q:∃ q,b=d.drop q∧q≤d.length∧pos=8*q+p
  lt:p<8
  le:pos≤8*d.length
theorem Rel.rr {d b:List Int} {p pos:Nat} (h:Rel d b p pos) (hd:okB d):Rr b p ((bitsOfBytes d).drop pos):=by
  obtain ⟨q,rfl,h1,h2⟩:=h.q
  have hle:=h.le
  refine ⟨h.lt,by simp [bob_length];omega,fun x hx=>hd x (List.mem_of_mem_drop hx),fun i hi=>?_⟩
  simp only [List.length_drop,bob_length] at hi
  have:=bob_getD d (pos+i) (by omega)
  simp only [List.getD_eq_getElem?_getD,List.getElem?_drop] at this ⊢
  rw [this]
  unfold bitAt
  simp only [List.getD_eq_getElem?_getD,List.getElem?_drop]
  rw [h2,show (8*q+p+i) / 8=q+(p+i) / 8 by omega,show (8*q+p+i)%8=(p+i)%8 by omega]
theorem Rel.of {d b b':List Int} {p p' pos c:Nat} (h:Rel d b p pos) (hr:Rr b' p' ((bitsOfBytes d).drop (pos+c))) (hc:pos+c≤8*d.length) (ht:∃ t,b'=b.drop t):Rel d b' p' (pos+c):=by
  obtain ⟨q,rfl,h1,h2⟩:=h.q
  obtain ⟨t,rfl⟩:=ht
  have hl:=hr.l
  have hp:=hr.lt
  simp only [List.length_drop,bob_length] at hl
  rw [List.drop_drop] at *
  by_cases hq:q+t≤d.length
  · exact ⟨⟨q+t,rfl,hq,by omega⟩,hp,hc⟩
  · refine ⟨⟨d.length,?_,Nat.le_refl _,by omega⟩,hp,hc⟩
    rw [List.drop_of_length_le (by omega),List.drop_of_length_le (Nat.le_refl _)]
theorem g_quireref01_Reader_Left_eq (k:Nat) {d:List Int} {pos:Nat} (h:pos≤8*d.length) (hd:d.length≤140737488351232):g_quireref01_Reader_Left k d (pos:Int)=some ((8*d.length - pos:Nat):Int):=by
  unfold g_quireref01_Reader_Left
  simp only [Option.bind_some]
  rw [wi (n:=8*((d.length:Nat):Int)) (by omega) (by omega),wi (by omega) (by omega)]
  congr 1;omega
theorem g_quireref01_Reader_bit_eq (k:Nat) {d:List Int} (hd:d.length≤140737488351232) (hok:okB d) (z:Int) {i:Nat} (h:i<8*d.length):∃ c:BitVec 32,g_quireref01_Reader_bit k (i:Int) d z=some (c.toNat:Int)∧(∀ j,c.getLsbD j=(decide (j=0)&&bitAt d i)):=by
  have hlt:i / 8<d.length:=by omega
  have hx:=okB_bv (hok _ (List.getElem_mem hlt))
  refine ⟨((BitVec.ofInt 8 d[i / 8]) >>> (i%8)).setWidth 32 &&& 1#32,?_,fun j=>?_⟩
  · unfold g_quireref01_Reader_bit
    have e1:Int.tdiv (i:Int) 8=((i / 8:Nat):Int):=rfl
    have e2:Int.tmod (i:Int) 8=((i%8:Nat):Int):=rfl
    rw [e1,e2,wi (by omega) (by omega),ix_nat hlt,wu64 (by omega) (by omega)]
    simp only [Option.bind_some]
    rw [dt (show (0:Int)≤((i%8:Nat):Int) by omega),hx,show (1:Int)=((1#32).toNat:Int) from rfl]
    simp only [cond_true,Option.bind_some,u8_shr,u32_of_u8,u32_and,ofInt8_toNat]
    rfl
  · rw [BitVec.getLsbD_and,BitVec.getLsbD_one,BitVec.getLsbD_setWidth,BitVec.getLsbD_ushiftRight]
    unfold bitAt
    rw [List.getD_eq_getElem?_getD,List.getElem?_eq_getElem hlt]
    by_cases hj:j=0
    · subst hj;simp
    · simp [hj]
theorem g_quireref01_Reader_Take_l0_eq (k c:Nat) (hc:c≤32) {d:List Int} (hd:d.length≤140737488351232) (hok:okB d) {pos:Nat} (hp:pos+c≤8*d.length):∀ (m i:Nat) (out:BitVec 32),i≤c→c - i<m→(∀ j,out.getLsbD j=(decide (j<i)&&bitAt d (pos+j))) →
    ∃ r:BitVec 32,g_quireref01_Reader_Take_l0 k (c:Int) d (pos:Int) m (out.toNat:Int) (i:Int)=some (r.toNat:Int)∧∀ j,r.getLsbD j=(decide (j<c)&&bitAt d (pos+j)):=by
  intro m
  induction m with
  | zero=>intro i out _ h;omega
  | succ m ih =>
    intro i out hi hm ho
    rw [g_quireref01_Reader_Take_l0.eq_2]
    by_cases h:i<c
    · obtain ⟨x,h1,h2⟩:=g_quireref01_Reader_bit_eq k hd hok (pos:Int) (i:=pos+i) (by omega)
      rw [dt (show (i:Int)<(c:Int) by omega),wi (n:=(pos:Int)+(i:Int)) (by omega) (by omega),show (pos:Int)+(i:Int)=((pos+i:Nat):Int) from rfl,h1]
      simp only [cond_true,Option.bind_some]
      rw [wu64 (by omega) (by omega),dt (show (0:Int)≤(i:Int) by omega),u32_shl,u32_or,wi (by omega) (by omega),show (i:Int)+1=((i+1:Nat):Int) from rfl]
      simp only [cond_true]
      refine ih (i+1) _ (by omega) (by omega) fun j=>?_
      rw [BitVec.getLsbD_or,BitVec.getLsbD_shiftLeft,ho,h2,Int.toNat_natCast]
      rcases Nat.lt_trichotomy j i with h3 | h3 | h3
      · simp [h3,show j<i+1 by omega]
      · subst h3;simp [show j<32 by omega]
      · simp [show ¬ j<i by omega,show ¬ j<i+1 by omega,show ¬ j - i=0 by omega]
    · rw [df (show ¬ (i:Int)<(c:Int) by omega)]
      have:i=c:=by omega
      subst this
      exact ⟨out,rfl,ho⟩
theorem g_quireref01_Reader_Take_less (k c:Nat) (hc:c≤32) {d:List Int} {pos:Nat} (h:pos≤8*d.length) (hd:d.length≤140737488351232) (hl:8*d.length - pos<c):g_quireref01_Reader_Take k (c:Int) d (pos:Int)=some (0,10,(pos:Int)):=by
  unfold g_quireref01_Reader_Take
  rw [not_bad (by omega)]
  simp only [Option.bind_some,cond_false,g_quireref01_Reader_Left_eq k h hd]
  rw [dt (show ((8*d.length - pos:Nat):Int)<(c:Int) by omega)];rfl
theorem g_quireref01_Reader_Take_ok {k c:Nat} (hk:40≤k) (hc:c≤32) {d:List Int} {pos:Nat} (hp:pos+c≤8*d.length) (hd:d.length≤140737488351232) (hok:okB d) :
    ∃ r:BitVec 32,g_quireref01_Reader_Take k (c:Int) d (pos:Int)=some ((r.toNat:Int),0,((pos+c:Nat):Int))∧∀ j,r.getLsbD j=(decide (j<c)&&bitAt d (pos+j)):=by
  obtain ⟨r,h1,h2⟩:=g_quireref01_Reader_Take_l0_eq k c hc hd hok hp k 0 0#32 (by omega) (by omega) (by simp)
  refine ⟨r,?_,h2⟩
  unfold g_quireref01_Reader_Take
  rw [not_bad (by omega)]
  simp only [Option.bind_some,cond_false,g_quireref01_Reader_Left_eq k (show pos≤8*d.length by omega) hd]
  rw [df (show ¬ ((8*d.length - pos:Nat):Int)<(c:Int) by omega),show g_quireref01_Reader_Take_l0 k (c:Int) d (pos:Int) k 0 0=_ from h1]
  simp only [Option.bind_some,cond_false]
  rw [wi (by omega) (by omega)];rfl
theorem g_quireref01_Reader_Align_eq (k:Nat) (d:List Int) {pos:Nat} (h:pos≤2251799813620000):g_quireref01_Reader_Align k d (pos:Int)=some (((pos+7) / 8*8:Nat):Int):=by
  unfold g_quireref01_Reader_Align
  rw [wi (n:=(pos:Int)+7) (by omega) (by omega),show Int.tdiv ((pos:Int)+7) 8=(((pos+7) / 8:Nat):Int) from rfl,wi (by omega) (by omega)]
  simp only [Option.bind_some]
  rw [wi (by omega) (by omega)];rfl
theorem align_same {k:Nat} {d b:List Int} {p pos:Nat} (h:Rel d b p pos) (hd:d.length≤140737488351232) :
    ∃ b' pos',g_bits_Reader_Align k b (p:Int)=some (b',0)∧g_quireref01_Reader_Align k d (pos:Int)=some ((pos':Nat):Int)∧Rel d b' 0 pos'∧pos≤pos':=by
  obtain ⟨q,hb,hq,hpos⟩:=h.q
  have hle:=h.le
  have hlt:=h.lt
  refine ⟨if 0<p then b.drop 1 else b,(pos+7) / 8*8,?_,g_quireref01_Reader_Align_eq k d (by omega),?_,by omega⟩
  · unfold g_bits_Reader_Align
    by_cases h0:0<p
    · have hbl:1≤b.length:=by rw [hb];simp;omega
      rw [dt (show (0:Int)<(p:Int) by omega)]
      simp only [cond_true]
      rw [dt (show 0≤(1:Int)∧(1:Int)≤((b.length:Nat):Int)∧((b.length:Nat):Int)≤((b.length:Nat):Int) by omega),if_pos h0]
      simp
    · rw [df (show ¬ (0:Int)<(p:Int) by omega),if_neg h0]
      have:p=0:=by omega
      subst this;rfl
  · by_cases h0:0<p
    · rw [if_pos h0]
      exact ⟨⟨q+1,by rw [hb,List.drop_drop],by omega,by omega⟩,by omega,by omega⟩
    · rw [if_neg h0]
      exact ⟨⟨q,hb,hq,by omega⟩,by omega,by omega⟩
theorem bytes_same {k:Nat} {d b:List Int} {p pos:Nat} (h:Rel d b p pos) (hd:d.length≤140737488351232) (c:Int) :
    ∃ v e b' p' pos',g_bits_Reader_Bytes k c b (p:Int)=some (v,e,b',((p':Nat):Int))∧g_quireref01_Reader_Bytes k c d (pos:Int)=some (v,e,((pos':Nat):Int))∧Rel d b' p' pos'∧(e=0→(v.length:Int)=c∧pos≤pos'∧∀ x∈v,x∈d):=by
  by_cases hc:c<0
  · refine ⟨[],1,b,p,pos,?_,?_,h,fun h0=>absurd h0 (by decide)⟩
    · unfold g_bits_Reader_Bytes;rw [dt hc];rfl
    · unfold g_quireref01_Reader_Bytes;rw [dt hc];rfl
  · obtain ⟨c,rfl⟩:∃ n:Nat,c=n:=⟨c.toNat,by omega⟩
    obtain ⟨b1,pos1,h1,h2,h3,hpp⟩:=align_same (k:=k) h hd
    obtain ⟨q,hb,hq,hpos⟩:=h3.q
    have hle:=h3.le
    have hbl:b1.length=d.length - q:=by rw [hb];simp
    unfold g_bits_Reader_Bytes g_quireref01_Reader_Bytes
    rw [df hc]
    simp only [cond_false,h1,h2,Option.bind_some,g_quireref01_Reader_Left_eq k hle hd]
    have e1:Int.tdiv ((8*d.length - pos1:Nat):Int) 8=((b1.length:Nat):Int):=by
      rw [show Int.tdiv ((8*d.length - pos1:Nat):Int) 8=(((8*d.length - pos1) / 8:Nat):Int) from rfl];omega
    have e2:Int.tdiv (pos1:Int) 8=(q:Int):=by
      rw [show Int.tdiv (pos1:Int) 8=((pos1 / 8:Nat):Int) from rfl];omega
    rw [e1,e2,wi (n:=((b1.length:Nat):Int)) (by omega) (by omega),wi (n:=(q:Int)) (by omega) (by omega)]
    by_cases hl:b1.length<c
    · rw [dt (show ((b1.length:Nat):Int)<(c:Int) by omega)]
      exact ⟨[],10,b1,0,pos1,rfl,rfl,h3,fun h0=>absurd h0 (by decide)⟩
    · rw [df (show ¬ ((b1.length:Nat):Int)<(c:Int) by omega),wi (n:=(q:Int)+(c:Int)) (by omega) (by omega),wi (n:=8*(c:Int)) (by omega) (by omega),wi (by omega) (by omega)]
      simp only [cond_false]
      rw [dt (show 0≤(0:Int)∧(0:Int)≤(c:Int)∧(c:Int)≤((b1.length:Nat):Int) by omega),dt (show 0≤(c:Int)∧(c:Int)≤((b1.length:Nat):Int)∧((b1.length:Nat):Int)≤((b1.length:Nat):Int) by omega),
        dt (show 0≤(q:Int)∧(q:Int)≤(q:Int)+(c:Int)∧(q:Int)+(c:Int)≤((d.length:Nat):Int) by omega)]
      simp only [cond_true,g_sc_Clone_byte_byte__b,Int.toNat_natCast,List.take_length,Int.toNat_zero,List.drop_zero,List.length_nil,Nat.zero_add,List.nil_append]
      rw [show ((q:Int)+(c:Int)).toNat=q+c by omega]
      have e3:(d.take (q+c)).drop q=b1.take c:=by rw [hb,List.drop_take];congr 1;omega
      rw [e3,dt (show (b1.take c).length*1≤140737488355328 by simp;omega)]
      simp only [cond_true,Option.bind_some]
      refine ⟨b1.take c,0,b1.drop c,0,pos1+8*c,rfl,by simp,⟨⟨q+c,by rw [hb,List.drop_drop],by omega,by omega⟩,by omega,by omega⟩,fun _=>⟨by rw [List.length_take];omega,by omega,fun x hx=>by rw [hb] at hx;exact List.mem_of_mem_drop (List.mem_of_mem_take hx)⟩⟩
theorem g_quireref01_Reader_Take_eq (k:Nat) (hk:10≤k) (B:List Int) (hB:okB B) (hl:B.length≤140737488355328) (a:Nat) (ha:a≤8*B.length):g_quireref01_Reader_Take k 1 B a=if a<8*B.length then some ((tk B a:Int),0,((a+1:Nat):Int)) else some (0,10,(a:Int)):=by
  unfold g_quireref01_Reader_Take g_quireref01_Reader_Left
  simp only [Option.bind_some,bd]
  rw [if_neg (by omega),df (by omega)]
  simp only [Option.bind_some,bf]
  rw [wi (n:=8*(B.length:Int)) (by omega) (by omega),wi (n:=8*(B.length:Int) - a) (by omega) (by omega)]
  by_cases h:a<8*B.length
  · rw [if_neg (by omega),if_pos h]
    obtain ⟨k,rfl⟩:∃ k',k=k'+2:=⟨k - 2,by omega⟩
    have hi:a / 8<B.length:=by omega
    have e1:ix B ((a / 8:Nat):Int)=some B[a / 8]:=ix_nat hi
    have e2:g_quireref01_Reader_bit (k+2) (IntKind.wrap .i64 ((a:Int)+0)) B a=some (tk B a:Int):=by
      unfold g_quireref01_Reader_bit
      rw [Int.add_zero,wi (n:=(a:Int)) (by omega) (by omega),show Int.tdiv (a:Int) 8=((a / 8:Nat):Int) from rfl,wi (by omega) (by omega),e1,show Int.tmod (a:Int) 8=((a%8:Nat):Int) from rfl,wu64 (by omega) (by omega)]
      simp only [Option.bind_some,bd]
      rw [if_pos (by omega),byte_bit (hB _ (List.getElem_mem hi)) (by omega)]
      simp [tk,List.getD_eq_getElem?_getD,List.getElem?_eq_getElem hi]
    rw [g_quireref01_Reader_Take_l0.eq_2]
    simp only [Option.bind_some,bd]
    rw [if_pos (by omega),e2]
    have h1:=tk_le B a
    simp only [Option.bind_some]
    rw [wu64 (n:=0) (by omega) (by omega),if_pos (by omega),g_quireref01_Reader_Take_l0.eq_2]
    simp only [Option.bind_some,bd]
    rw [wi (n:=(0:Int)+1) (by omega) (by omega),if_neg (by omega),wi (n:=(a:Int)+1) (by omega) (by omega)]
    simp only [Option.bind_some]
    have e3:bits .or .u32 0 (shlI .u32 (tk B a:Int) 0)=(tk B a:Int):=by
      rcases Nat.le_one_iff_eq_zero_or_eq_one.1 h1 with h | h <;> rw [h] <;> rfl
    rw [e3]
    rfl
  · rw [if_pos (by omega),if_neg h]
theorem or_bit32 {v b:Nat} (hv:v≤65536) (hb:b≤1):bits .or .u32 (shlI .u32 (v:Int) 1) (b:Int)=((2*v+b:Nat):Int):=by
  rw [shl32 hv]
  have e:bits .or .u32 (((2*v:Nat):Int)) (b:Int)=IntKind.wrap .u32 ((BitVec.ofInt 32 ((2*v:Nat):Int) ||| BitVec.ofInt 32 (b:Int)).toNat:Int):=rfl
  rw [e,BitVec.ofInt_natCast,BitVec.ofInt_natCast,BitVec.toNat_or,BitVec.toNat_ofNat,BitVec.toNat_ofNat,Nat.mod_eq_of_lt (by omega),Nat.mod_eq_of_lt (by omega),or_bit hb,wu32 (by omega) (by omega)]
inductive Both (l:List Int) (B:List Int) (a0:Nat):Option ((Int × (List Int) × Int) ⊕ (Int × (List Int) × Int))→Option ((Int × Int × Int) ⊕ Int)→Prop
  | err (e:Int) (b:List Int) (p:Int) (he:e≠0):Both l B a0 (some (Sum.inl (e,b,p))) (some (Sum.inl (0,e,(a0:Int))))
  | end_ (b:List Int) (p a:Int):Both l B a0 (some (Sum.inl (11,b,p))) (some (Sum.inr a))
  | sym (s:Nat) (hs:s<l.length) (a:Nat) (h0:a0≤a) (ha:a≤8*B.length):Both l B a0 (some (Sum.inr ((s:Int),B.drop (a / 8),((a%8:Nat):Int)))) (some (Sum.inl ((s:Int),0,(a:Int))))
theorem next_ok (k:Nat) (hk:400≤k) (l:List Int) (h:(judge l).2=0) (cs sy:List Int) (hd:Dec l cs sy) (B:List Int) (hB:okB B) (hBl:B.length≤140737488355328) (a0:Nat) :
    ∀ (m n v a f1 f2:Nat),n+m=16→1≤n→v<2^(n - 1)→sr l n≤v*2^(16 - n)→a≤8*B.length→a0≤a→(n=1∨n=16∨v*2^(16 - n)<tot l)→m<f1→m<f2 →
    Both l B a0 (g_huff_Decoder_Next_l0 k cs sy f1 v (hf l n) (ah l n) n (B.drop (a / 8)) ((a%8:Nat):Int)) (g_quireref02_Next_l0 k l (codesL l).1 B a0 f2 v n a):=by
  obtain ⟨hl,hb,hjk⟩:=judge_ok h
  have hs:tot l≤32768:=by
    have e:=sr_all hb
    rcases hjk with h1 | h1 | h1
    · simp only [tot];omega
    · have:∀ (l:List Int),cntL l=0→sumW l=0:=by
        intro l
        induction l with
        | nil=>intro _;rfl
        | cons x l ih =>
          intro h
          have h1:=there_le x
          have h2:=cntL_le l
          simp only [cntL] at h
          have h3:=ih (by omega)
          have h4:there x=0:=by omega
          unfold there at h4
          split at h4
          · omega
          · rename_i h5;simp only [sumW,wt,if_neg h5,h3];rfl
      have:=this l h1
      simp only [tot];omega
    · simp only [tot];omega
  intro m
  induction m with
  | zero =>
    intro n v a f1 f2 hn h1 hv hsr ha h0a hgo hf1 hf2
    have:n=16:=by omega
    subst this
    obtain ⟨f1,rfl⟩:∃ f,f1=f+1:=⟨f1 - 1,by omega⟩
    obtain ⟨f2,rfl⟩:∃ f,f2=f+1:=⟨f2 - 1,by omega⟩
    rw [g_huff_Decoder_Next_l0.eq_2,g_quireref02_Next_l0.eq_2,bd,bd,if_neg (by omega),if_neg (by omega)]
    exact .end_ _ _ _
  | succ m ih =>
    intro n v a f1 f2 hn h1 hv hsr ha h0a hgo hf1 hf2
    obtain ⟨f1,rfl⟩:∃ f,f1=f+1:=⟨f1 - 1,by omega⟩
    obtain ⟨f2,rfl⟩:∃ f,f2=f+1:=⟨f2 - 1,by omega⟩
    have h15:n≤15:=by omega
    have hpv:2^(n - 1)≤16384:=by
      have:2^(n - 1)≤2^14:=Nat.pow_le_pow_right (by decide) (by omega)
      omega
    have hhf:=hf_sr l n h1 h15
    have hp:2^(16 - n)=2*2^(15 - n):=by rw [show 16 - n=(15 - n)+1 by omega,Nat.pow_succ];omega
    have hq:0<2^(15 - n):=Nat.two_pow_pos _
    have hfv:hf l n≤v:=by
      rw [hp,← hhf] at hsr
      have:hf l n*(2*2^(15 - n))≤v*(2*2^(15 - n)):=by
        rw [show hf l n*(2*2^(15 - n))=2*hf l n*2^(15 - n) by rw [Nat.mul_comm 2 (hf l n),Nat.mul_assoc]];exact hsr
      exact Nat.le_of_mul_le_mul_right this (by omega)
    have hc:=hd.cs n h1 h15
    have hcn:cn l n≤320:=Nat.le_trans List.count_le_length hl
    have hsy:sy.length=ah l 16:=by
      have:=symsFrom_length l 15 1 (by omega)
      rw [hd.sy]
      simpa [ah] using this
    have hah:=ah_le l 16 (n+1) (by omega)
    have hahn:ah l (n+1)=ah l n+cn l n:=by simp only [ah,if_neg (show ¬ n=0 by omega)]
    have hah16:ah l 16≤4800:=by
      have hle:∀ d,cn l d≤320:=fun d=>Nat.le_trans List.count_le_length hl
      have:∀ c,ah l c≤320*c:=by
        intro c
        induction c with
        | zero=>simp [ah]
        | succ c ihc=>simp only [ah];have:=hle c;split <;> omega
      have:=this 16
      have h2:ah l 16=ah l 15+cn l 15:=by simp [ah]
      have h3:∀ c,1≤c→ah l c≤320*(c - 1):=by
        intro c
        induction c with
        | zero=>intro h;omega
        | succ c ihc =>
          intro _
          by_cases hc0:c=0
          · subst hc0;simp [ah]
          · have:=ihc (by omega);have:=hle c;simp only [ah,if_neg hc0];omega
      have:=h3 16 (by omega)
      omega
    -- when no symbol is left
    have hgoes:=goesOn_iff (v:=v) hb h1 h15 hsr
    have hleft:ah l n=ah l 16↔¬ v*2^(16 - n)<tot l:=by
      have back:∀ (q c:Nat),c+q=16→1≤c→(ah l c=ah l 16↔sr l c=sr l 16):=by
        intro q
        induction q with
        | zero => intro c hc _; have : c = 16 := by omega
                  subst this;simp
        | succ q ihq =>
          intro c hc h1c
          have e1:ah l (c+1)=ah l c+cn l c:=by simp only [ah,if_neg (show ¬ c=0 by omega)]
          have e2:=sr_step l h1c
          have e3:=ah_le l 16 (c+1) (by omega)
          have e4:=sr_mono l 16 (c+1) (by omega)
          have i:=ihq (c+1) (by omega) (by omega)
          have hq:0<2^(15 - c):=Nat.two_pow_pos _
          constructor
          · intro h
            have:cn l c=0:=by omega
            rw [this] at e1 e2
            rw [← i.1 (by omega)];omega
          · intro h
            have h0:cn l c*2^(15 - c)=0:=by omega
            have:cn l c=0:=by
              rcases Nat.mul_eq_zero.1 h0 with h | h
              · exact h
              · omega
            have:=i.2 (by omega)
            omega
      have b:=back (m+1) n (by omega) h1
      have hsn:=sr_mono l 16 n (by omega)
      rw [b]
      rcases hgo with rfl | h16 | h2
      · have hv0:v=0:=by simpa using hv
        subst hv0
        have h1z:sr l 1=0:=rfl
        rw [h1z]
        simp only [tot,Nat.zero_mul];omega
      · omega
      · simp only [tot] at *;omega
    rw [g_huff_Decoder_Next_l0.eq_2,g_quireref02_Next_l0.eq_2]
    simp only [bd,bnd',Option.bind_some]
    rw [if_pos (show (n:Int)≤15 by omega),if_pos (show (n:Int)≤15 by omega)]
    obtain ⟨b',g1,g2⟩:=g_quireref02_Next_l1_ok k l h n v h1 h15 k 0 false (by omega) (by omega)
    have g1':g_quireref02_Next_l1 k l (codesL l).1 v n k false 0=some b':=g1
    have g3:b'=true↔v*2^(16 - n)<tot l:=by
      rw [g2,← hgoes]
      simp [goesOn]
    rw [g1',hsy]
    simp only [Option.bind_some]
    by_cases hcont:v*2^(16 - n)<tot l
    · have hb':b'=true:=g3.2 hcont
      subst hb'
      rw [if_neg (fun h=>(hleft.1 (by omega)) hcont),g_bits_Reader_Take_eq k (by omega) B hB hBl a ha,g_quireref01_Reader_Take_eq k (by omega) B hB hBl a ha]
      simp only [Bool.not_true,bf]
      by_cases hend:a<8*B.length
      · rw [if_pos hend,if_pos hend]
        simp only [Option.bind_some,if_true]
        have hbit:=tk_le B a
        generalize hbv:tk B a=b at *
        have hu:bits .or .u32 (shlI .u32 (v:Int) 1) (b:Int)=((2*v+b:Nat):Int):=or_bit32 (by omega) hbit
        rw [hu]
        have hi:bits .or .i64 (shlI .i64 (v:Int) 1) (IntKind.wrap .i64 (b:Int))=((2*v+b:Nat):Int):=by
          rw [shl64 (by omega),wi (by omega) (by omega)];exact or_bit64 (by omega) hbit
        rw [hi,shl64 (n:=hf l n) (by omega),wi (n:=((2*v+b:Nat):Int) - ((2*hf l n:Nat):Int)) (by omega) (by omega)]
        rw [if_pos (show 0≤(n:Int)∧(n:Int)<16 by omega),Int.toNat_natCast,hc]
        have hk2:=g_quireref02_Next_l2_ok k l h n v b (2*v+b) h1 hu k 0 (by omega) (by omega) (fun j hj hj0=>by omega)
        have huniq:∀ j (hj:j<l.length),l[j]=(n:Int)→cd l j=2*hf l n+(l.take j).count (n:Int):=by
          intro j hj hn'
          have ej:l.getD j 0=l[j]:=by rw [List.getD_eq_getElem?_getD,List.getElem?_eq_getElem hj];rfl
          unfold cd
          rw [ej,hn',Int.toNat_natCast]
        by_cases hfound:2*v+b - 2*hf l n<cn l n
        · -- found
          obtain ⟨j,hj,s1,s2,s3⟩:=sym_get (l:=l) (d:=n) (r:=2*v+b - 2*hf l n) h1 h15 hfound
          have hcdj:cd l j=2*v+b:=by rw [huniq j hj s2,s3];omega
          rcases hk2 with ⟨j',hj',t1,t2,t3⟩ | ⟨t1,_⟩
          · have hjj:j'=j:=by
              rw [huniq j' hj' t1] at t2
              have t4:(l.take j').count (n:Int)=(l.take j).count (n:Int):=by omega
              rcases Nat.lt_trichotomy j' j with h5 | h5 | h5
              · have:=count_take_lt h5 hj' t1;omega
              · exact h5
              · have:=count_take_lt h5 hj s2;omega
            subst hjj
            have t3':g_quireref02_Next_l2 k l (codesL l).1 v n b k 0=_:=t3
            rw [t3',if_pos (show ((2*v+b:Nat):Int) - ((2*hf l n:Nat):Int)<(cn l n:Int) by omega)]
            have es:ix sy (IntKind.wrap .i64 ((ah l n:Int)+(((2*v+b:Nat):Int) - ((2*hf l n:Nat):Int))))=some (j':Int):=by
              rw [wi (by omega) (by omega),show (ah l n:Int)+(((2*v+b:Nat):Int) - ((2*hf l n:Nat):Int))=((ah l n+(2*v+b - 2*hf l n):Nat):Int) by omega]
              unfold ix
              rw [if_pos (by omega),Int.toNat_natCast,hd.sy]
              exact s1
            simp only [Option.bind_some,es]
            exact .sym j' hj' (a+1) (by omega) (by omega)
          · exact absurd ⟨s2,hcdj⟩ (t1 j hj)
        · -- not found
          rcases hk2 with ⟨j',hj',t1,t2,t3⟩ | ⟨_,t3⟩
          · rw [huniq j' hj' t1] at t2
            have:=count_take_lt (l:=l) (i:=j') (k:=l.length) hj' hj' t1
            rw [List.take_length] at this
            simp only [cn] at hfound
            omega
          · have t3':g_quireref02_Next_l2 k l (codesL l).1 v n b k 0=_:=t3
            have hf1:hf l (n+1)=2*hf l n+cn l n:=by simp only [hf,if_neg (show ¬ n=0 by omega)]
            rw [t3',if_neg (show ¬ ((2*v+b:Nat):Int) - ((2*hf l n:Nat):Int)<(cn l n:Int) by omega),if_pos (show 0≤(n:Int)∧(n:Int)<16 by omega),if_pos (show 0≤(n:Int)∧(n:Int)<16 by omega)]
            simp only [Option.bind_some]
            have w1:IntKind.wrap .i64 (((2*hf l n:Nat):Int)+(cn l n:Int))=((hf l (n+1):Nat):Int):=by rw [wi (by omega) (by omega)];omega
            have w2:IntKind.wrap .i64 ((ah l n:Int)+(cn l n:Int))=((ah l (n+1):Nat):Int):=by rw [wi (by omega) (by omega)];omega
            have w3:IntKind.wrap .i64 ((n:Int)+1)=((n+1:Nat):Int):=by rw [wi (by omega) (by omega)];omega
            rw [w1,w2,w3,wi (n:=((2*v+b:Nat):Int) - ((hf l (n+1):Nat):Int)) (by omega) (by omega)]
            -- the room of longer codes
            have hroom:∃ R:Nat,g_huff_Decoder_begins_l0 k ((n+1:Nat):Int) cs k 0 15=some (R:Int)∧∀ x:Nat,x<R↔x*2^(16 - (n+1))<tot l - sr l (n+1):=by
              obtain ⟨r,k1,R,rfl,k2⟩:=g_huff_Decoder_begins_l0_ok k l cs hd.cs hl (n+1) (by omega) k 15 0 (by omega) (by omega) (by omega) (by omega) (fun x=>by simp [tot])
              exact ⟨R,k1,k2⟩
            obtain ⟨R,r1,r2⟩:=hroom
            have e36:g_huff_Decoder_begins k (((2*v+b:Nat):Int) - ((hf l (n+1):Nat):Int)) ((n+1:Nat):Int) cs sy=some (decide (2*v+b - hf l (n+1)<R)):=by
              unfold g_huff_Decoder_begins
              rw [r1]
              simp only [Option.bind_some]
              congr 1
              rw [decide_eq_decide]
              omega
            rw [e36]
            simp only [Option.bind_some,bnd']
            have hp1:16 - (n+1)=15 - n:=by omega
            have hsr1:sr l (n+1)≤(2*v+b)*2^(16 - (n+1)):=by
              rw [hp1,sr_step l h1,← hhf,← Nat.add_mul]
              exact Nat.mul_le_mul_right _ (by omega)
            have hv1:2*v+b<2^(n+1 - 1):=by
              have:2^(n+1 - 1)=2*2^(n - 1):=by rw [show n+1 - 1=(n - 1)+1 by omega,Nat.pow_succ];omega
              omega
            have hrel:2*v+b - hf l (n+1)<R↔(2*v+b)*2^(16 - (n+1))<tot l:=by
              rw [r2,hp1,Nat.sub_mul]
              have e5:hf l (n+1)*2^(15 - n)=sr l (n+1):=by rw [hf1,Nat.add_mul,hhf,sr_step l h1]
              rw [e5]
              have:=sr_mono l 16 (n+1) (by omega)
              rw [hp1] at hsr1
              simp only [tot];omega
            by_cases hgo1:2*v+b - hf l (n+1)<R
            · rw [if_pos hgo1]
              exact ih (n+1) (2*v+b) (a+1) f1 f2 (by omega) (by omega) hv1 hsr1 (by omega) (by omega) (.inr (.inr (hrel.1 hgo1))) (by omega) (by omega)
            · rw [if_neg hgo1]
              by_cases hn15:n=15
              · subst hn15
                obtain ⟨f2,rfl⟩:∃ f,f2=f+1:=⟨f2 - 1,by omega⟩
                rw [g_quireref02_Next_l0.eq_2,bd,if_neg (by omega)]
                exact .end_ _ _ _
              · -- the document sees at its next step that none goes on
                obtain ⟨f2,rfl⟩:∃ f,f2=f+1:=⟨f2 - 1,by omega⟩
                obtain ⟨b2,q1,q2⟩:=g_quireref02_Next_l1_ok k l h (n+1) (2*v+b) (by omega) (by omega) k 0 false (by omega) (by omega)
                have q1':g_quireref02_Next_l1 k l (codesL l).1 ((2*v+b:Nat):Int) ((n+1:Nat):Int) k false 0=some b2:=q1
                have q3:b2=false:=by
                  cases b2 with
                  | false=>rfl
                  | true =>
                    exfalso
                    have q4:=q2.1 rfl
                    have q5:goesOn l (n+1) (2*v+b):=by
                      rcases q4 with q4 | ⟨j,_,q4⟩
                      · cases q4
                      · exact ⟨j,q4⟩
                    exact hgo1 (hrel.2 ((goesOn_iff hb (by omega) (by omega) hsr1).1 q5))
                subst q3
                rw [g_quireref02_Next_l0.eq_2,bd,if_pos (by omega),q1']
                simp only [Option.bind_some,Bool.not_false,bt]
                exact .err 11 _ _ (by decide)
      · rw [if_neg hend,if_neg hend]
        simp only [Option.bind_some]
        rw [if_neg (by decide),if_neg (by decide)]
        exact .err 10 _ _ (by decide)
    · have hb':b'=false:=by
        cases b' with
        | false=>rfl
        | true=>exact absurd (g3.1 rfl) hcont
      subst hb'
      rw [if_pos (by have:=hleft.2 hcont;omega)]
      simp only [Bool.not_false,bt]
      exact .err 11 _ _ (by decide)
theorem next_top (k:Nat) (hk:400≤k) (l:List Int) (h:(judge l).2=0) (cs sy:List Int) (hd:Dec l cs sy) (B:List Int) (hB:okB B) (hBl:B.length≤140737488355328) (a:Nat) (ha:a≤8*B.length) :
    (∃ (e:Int),e≠0∧g_huff_Decoder_Next k cs (B.drop (a / 8)) ((a%8:Nat):Int) sy=some (0,e,B.drop (a / 8),((a%8:Nat):Int))∧g_quireref02_Next k l (codesL l).1 B (a:Int)=some (0,e,(a:Int)))∨∃ (s a':Nat),s<l.length∧(a≤a'∧a'≤8*B.length)∧g_huff_Decoder_Next k cs (B.drop (a / 8)) ((a%8:Nat):Int) sy=some ((s:Int),0,B.drop (a' / 8),((a'%8:Nat):Int))∧g_quireref02_Next k l (codesL l).1 B (a:Int)=some ((s:Int),0,(a':Int)):=by
  have key:=next_ok k hk l h cs sy hd B hB hBl a 15 1 0 a k k (by omega) (by omega) (by simp) (by simp [sr]) ha (Nat.le_refl _) (.inl rfl) (by omega) (by omega)
  have e1:g_huff_Decoder_Next k cs (B.drop (a / 8)) ((a%8:Nat):Int) sy=((g_huff_Decoder_Next_l0 k cs sy k ((0:Nat):Int) ((hf l 1:Nat):Int) ((ah l 1:Nat):Int) ((1:Nat):Int) (B.drop (a / 8)) ((a%8:Nat):Int)).bind fun y10848=>match y10848 with | (Sum.inl (x10797,x10798,x10799))=>some (0,x10797,(B.drop (a / 8)),((a%8:Nat):Int)) | (Sum.inr (x10800,x10801,x10802))=>some (x10800,0,x10801,x10802)):=rfl
  have e2:g_quireref02_Next k l (codesL l).1 B (a:Int)=((g_quireref02_Next_l0 k l (codesL l).1 B (a:Int) k ((0:Nat):Int) ((1:Nat):Int) (a:Int)).bind fun y10306=>match y10306 with | (Sum.inl (x9995,x9996,x9997))=>some (x9995,x9996,x9997) | (Sum.inr x9998)=>some (0,11,(a:Int))):=rfl
  rw [e1,e2]
  generalize g_huff_Decoder_Next_l0 k cs sy k ((0:Nat):Int) ((hf l 1:Nat):Int) ((ah l 1:Nat):Int) ((1:Nat):Int) (B.drop (a / 8)) ((a%8:Nat):Int)=X at *
  generalize g_quireref02_Next_l0 k l (codesL l).1 B (a:Int) k ((0:Nat):Int) ((1:Nat):Int) (a:Int)=Y at *
  cases key with
  | err e b p he=>exact .inl ⟨e,he,rfl,rfl⟩
  | end_ b p a'=>exact .inl ⟨11,by decide,rfl,rfl⟩
  | sym s hs a' h0 ha'=>exact .inr ⟨s,a',hs,⟨h0,ha'⟩,rfl,rfl⟩
end Go.Proofs.YtaphblcbnhnpaaaGreatDoor.W
