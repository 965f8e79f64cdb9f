/- Texts joined: part 3 of what LZipTurned stands on. -/
import Derived.Test.YtaphblcbnhnpaaaGreatDoorSZipTurnedb
namespace Go.Proofs.YtaphblcbnhnpaaaGreatDoor.W
open Go Go.Q Go.Proofs
set_option linter.unusedVariables false
set_option linter.unusedSimpArgs false
set_option maxRecDepth 100000
set_option maxHeartbeats 4000000
theorem s_st_EqualFold (k:Nat) (x1:ByteArray) (x2:ByteArray) (x3:Bool) (H:g_st_EqualFold k x1 x2=some x3):Go.Q.Spec Tryz.prog 31 0 [.lit (.string x1),.lit (.string x2)] Mem.nil (fun o M=>o=.ret (.lit (.bool x3))∧M=Mem.nil):=by
 unfold g_st_EqualFold at H;refine bo Tryz.func31 [] [.tmp 4] 123 fun cx hnp=>?_;(iterate 3 refine sp ?_);refine WP.scope ?_;(iterate 3 refine sp ?_);refine WP.seq ?_;(iterate 5 refine sp ?_);obtain ⟨x4,h1,H⟩:=bnd H;refine sn (nm_int h1) ?_;(iterate 3 refine sp ?_);refine WP.cv (Cv.weak (E':=((((Env.none.upd 0 (.lit (.string x1))).upd 1 (.lit (.string x2))).upd 5 (.lit (.int .i64 0))).upd 6 (.lit (.int .i64 x4)))) (M':=Mem.nil) [] hnp ⟨rfl,trivial,by decide,rfl,trivial⟩ (LeE.u (LeE.u (LeE.u (LeE.u (LeE.none rfl rfl)))))) ?_;obtain ⟨y1,H1,H⟩:=bnd H;refine WP.monoW (Q:=fun x E M=>match (generalizing:=false) y1 with | (Sum.inl _)=>x=.ret∧E=(Env.none.upd 4 (.lit (.bool false)))∧M=Mem.nil | (Sum.inr _)=>x=.exit 0∧E=((Env.none.upd 0 (.lit (.string x1))).upd 1 (.lit (.string x2)))∧M=Mem.nil) ?_ ?_
 · refine WP.loop (β:=Int) (fun n b=>g_st_EqualFold_l0 k x1 x2 x4 n b=some y1) (fun b=>((((Env.none.upd 0 (.lit (.string x1))).upd 1 (.lit (.string x2))).upd 5 (.lit (.int .i64 b))).upd 6 (.lit (.int .i64 x4)))) (fun b=>Mem.nil) k 0 H1 rfl rfl ?_;rintro n x5 H;obtain _ | n:=n
   · exact nf rfl H
   rw [g_st_EqualFold_l0.eq_2] at H;show WP _ _ _ _ ((((Env.none.upd 0 (.lit (.string x1))).upd 1 (.lit (.string x2))).upd 5 (.lit (.int .i64 x5))).upd 6 (.lit (.int .i64 x4))) Mem.nil _;refine WP.seq ?_;(iterate 5 refine sp ?_);refine cq H (fun hb1 H=>?_) fun hb1 H=>?_
   · (iterate 3 refine sp ?_);refine WP.seq ?_;obtain ⟨y2,H2,H⟩:=bnd H;refine WP.monoW (Q:=fun x E M=>match (generalizing:=false) y2 with | (Sum.inl _)=>x=.normal∧E=((((Env.none.upd 0 (.lit (.string x1))).upd 1 (.lit (.string x2))).upd 5 (.lit (.int .i64 x5))).upd 6 (.lit (.int .i64 x4)))∧M=Mem.nil | (Sum.inr _)=>x=.ret∧E=(Env.none.upd 4 (.lit (.bool false)))∧M=Mem.nil) ?_ ?_
     · clear H;have H:=H2;clear H2;(iterate 4 refine sp ?_);obtain ⟨x6,h2,H⟩:=bnd H;(iterate 6 refine sp ?_);obtain ⟨x7,h3,H⟩:=bnd H;(iterate 3 refine sp ?_);refine WP.seq ?_;(iterate 4 refine sp ?_);obtain ⟨x8,h4,H⟩:=bnd H;refine sn (nm_bool h4) ?_;refine sp ?_;refine cq H (fun hb2 H=>?_) fun hb2 H=>?_
       · exact nf rfl H
       (iterate 3 refine sp ?_);refine WP.seq ?_;(iterate 5 refine sp ?_);refine cq H (fun hb3 H=>?_) fun hb3 H=>?_
       · refine sp ?_;have q0:=j1 H;subst q0;exact wq [] (Then.x (InBlock.x0 r3))
       (iterate 3 refine sp ?_);refine WP.seq ?_;obtain ⟨⟨x9,x10⟩,H3,H⟩:=bnd H;refine mo .normal ((((((Env.none.upd 0 (.lit (.string x1))).upd 1 (.lit (.string x2))).upd 5 (.lit (.int .i64 x5))).upd 6 (.lit (.int .i64 x4))).upd 7 (.lit (.int .u8 x9))).upd 8 (.lit (.int .u8 x10))) Mem.nil ?_ ?_
       · clear H;have H:=H3;clear H3;(iterate 5 refine sp ?_);refine cq H (fun hb4 H=>?_) fun hb4 H=>?_
         · (iterate 5 refine sp ?_);refine WPL.nilW ?_;obtain ⟨rfl,rfl⟩:=j2 H;exact wq []
         refine sp ?_;obtain ⟨rfl,rfl⟩:=j2 H;exact wq []
       (iterate 2 refine sp ?_);refine WP.seq ?_;refine WP.seq ?_;obtain ⟨x11,H4,H⟩:=bnd H;refine mo .normal (((((Env.none.upd 0 (.lit (.string x1))).upd 1 (.lit (.string x2))).upd 5 (.lit (.int .i64 x5))).upd 6 (.lit (.int .i64 x4))).upd 54 (.lit (.bool x11))) Mem.nil ?_ ?_
       · clear H;have H:=H4;clear H4;(iterate 4 refine sp ?_);refine ws 44 H (fun hb5 H=>?_) fun hb5 H=>?_
         · (iterate 4 refine sp ?_);refine ws 48 H (fun hb6 H=>?_) fun hb6 H=>?_
           · (iterate 3 refine sp ?_);obtain ⟨x12,h5,H⟩:=bnd H;refine sn (nm_int h5) ?_;(iterate 2 refine sp ?_);refine WPL.nilW ?_;have q0:=j1 H;subst q0;exact wq []
           (iterate 6 refine sp ?_);refine WPL.nilW ?_;have q0:=j1 H;subst q0;exact wq []
         (iterate 10 refine sp ?_);refine WPL.nilW ?_;have q0:=j1 H;subst q0;exact wq []
       (iterate 2 refine sp ?_);refine cq H (fun hb7 H=>?_) fun hb7 H=>?_
       · refine sp ?_;have q0:=j1 H;subst q0;exact wq [] (Then.x (InBlock.x0 r3))
       (iterate 7 refine sp ?_);have q0:=j1 H;subst q0;exact wq [] (InBlock.r r3)
     rcases y2 with _ | _
     · rintro _ _ _ ⟨rfl,rfl,rfl⟩;(iterate 6 refine sp ?_);refine WPL.nilW ?_;exact wq [] (Then.n ⟨n,(IntKind.wrap .i64 (x5+1)),Nat.lt_succ_self n,H,rfl,rfl⟩)
     rintro _ _ _ ⟨rfl,rfl,rfl⟩;have q0:=j1 H;subst q0;exact wq [] (Then.r (Then.r r3))
   refine sp ?_;have q0:=j1 H;subst q0;exact wq [] (Then.x (Then.x r3))
 rcases y1 with _ | _
 · rintro _ _ _ ⟨rfl,rfl,rfl⟩;have q0:=j1 H;subst q0;exact W.now (InBlock.r (Then.r (Scope.r (mb []))))
 rintro _ _ _ ⟨rfl,rfl,rfl⟩;(iterate 3 refine sp ?_);refine WP.seq ?_;(iterate 5 refine sp ?_);obtain ⟨x13,h6,H⟩:=bnd H;refine sn (nm_bool h6) ?_;(iterate 3 refine sp ?_);have q0:=j1 H;subst q0;exact W.now (Then.r (Scope.r (mb [])))
theorem s_zip_check (k:Nat) (x1:(List S_api_File)) (x2:Int) (x3:Int) (H:g_zip_check k x1 x2=some x3):Go.Q.Spec Tryz.prog 19 0 [.ro (Rd.slice rdS_api_File) false x1,.lit (.int .i64 x2)] Mem.nil (fun o M=>o=.ret (.lit (.int .i64 x3))∧M=Mem.nil):=by
 unfold g_zip_check at H;refine bo Tryz.func19 [] [.tmp 4] 68 fun cx hnp=>?_;(iterate 3 refine sp ?_);refine WP.scope ?_;refine WP.seq ?_;refine WP.seq ?_;obtain ⟨x4,H1,H⟩:=bnd H;refine mo .normal ((Env.none.upd 0 (.ro (Rd.slice rdS_api_File) false x1)).upd 19 (.lit (.bool x4))) Mem.nil ?_ ?_
 · clear H;have H:=H1;clear H1;(iterate 4 refine sp ?_);refine ws 16 H (fun hb1 H=>?_) fun hb1 H=>?_
   · (iterate 3 refine sp ?_);refine WPL.nilW ?_;have q0:=j1 H;subst q0;exact wq []
   (iterate 3 refine sp ?_);refine WPL.nilW ?_;have q0:=j1 H;subst q0;exact wq []
 (iterate 2 refine sp ?_);refine cq H (fun hb2 H=>?_) fun hb2 H=>?_
 · (iterate 4 refine sp ?_);have q0:=j1 H;subst q0;exact W.now (Then.r (Scope.r (mb [])))
 (iterate 3 refine sp ?_);refine WP.seq ?_;(iterate 3 refine sp ?_);obtain ⟨x5,h1,H⟩:=bnd H;refine sn (nm_bool h1) ?_;refine sp ?_;refine cq H (fun hb3 H=>?_) fun hb3 H=>?_
 · (iterate 4 refine sp ?_);have q0:=j1 H;subst q0;exact W.now (Then.r (Scope.r (mb [])))
 (iterate 3 refine sp ?_);refine WP.seq ?_;(iterate 6 refine sp ?_);refine WP.cv (Cv.weak (E':=((((Env.none.upd 0 (.ro (Rd.slice rdS_api_File) false x1)).upd 23 (.ro (Rd.slice rdS_api_File) false x1)).upd 24 (.lit (.int .i64 ((List.length x1:Nat):Int)))).upd 25 (.lit (.int .i64 0)))) (M':=Mem.nil) [] hnp ⟨rfl,trivial,by decide,rfl,trivial⟩ (LeE.u (LeE.u (LeE.u (LeE.u (LeE.none rfl rfl)))))) ?_;obtain ⟨y1,H2,H⟩:=bnd H;refine WP.monoW (Q:=fun x E M=>match (generalizing:=false) y1 with | (Sum.inl _)=>x=.ret∧E=(Env.none.upd 4 (.lit (.int .i64 3)))∧M=Mem.nil | (Sum.inr _)=>x=.exit 0∧E=(Env.none.upd 0 (.ro (Rd.slice rdS_api_File) false x1))∧M=Mem.nil) ?_ ?_
 · refine WP.loop (β:=Int) (fun n b=>g_zip_check_l0 k x1 n b=some y1) (fun b=>((((Env.none.upd 0 (.ro (Rd.slice rdS_api_File) false x1)).upd 23 (.ro (Rd.slice rdS_api_File) false x1)).upd 24 (.lit (.int .i64 ((List.length x1:Nat):Int)))).upd 25 (.lit (.int .i64 b)))) (fun b=>Mem.nil) k 0 H2 rfl rfl ?_;rintro n x6 H;obtain _ | n:=n
   · exact nf rfl H
   rw [g_zip_check_l0.eq_2] at H;show WP _ _ _ _ ((((Env.none.upd 0 (.ro (Rd.slice rdS_api_File) false x1)).upd 23 (.ro (Rd.slice rdS_api_File) false x1)).upd 24 (.lit (.int .i64 ((List.length x1:Nat):Int)))).upd 25 (.lit (.int .i64 x6))) Mem.nil _;refine sp ?_;obtain ⟨x7,h2,H⟩:=bnd H;refine sn (nm_bool h2) ?_;refine sp ?_;refine WP.seq ?_;refine cq H (fun hb4 H=>?_) fun hb4 H=>?_
   · (iterate 3 refine sp ?_);refine WP.seq ?_;(iterate 2 refine sp ?_);obtain ⟨x8,h3,H⟩:=bnd H;refine sp ?_;refine WPL.qq (q_load_roag ag41 rfl rfl S_api_File.sp) ?_;(iterate 7 refine sp ?_);obtain ⟨x9,h4,H⟩:=bnd H;refine sn (nm_bool h4) ?_;refine sp ?_;refine cq H (fun hb5 H=>?_) fun hb5 H=>?_
     · (iterate 4 refine sp ?_);have q0:=j1 H;subst q0;exact wq [] (InBlock.r (Then.r (Then.r r3)))
     (iterate 2 refine sp ?_);refine InBlock.n ?_;(iterate 4 refine sp ?_);refine WPL.nilW ?_;exact wq [] (Then.n ⟨n,(IntKind.wrap .i64 (x6+1)),Nat.lt_succ_self n,H,rfl,rfl⟩)
   refine sp ?_;have q0:=j1 H;subst q0;exact wq [] (Then.x (Then.x r3))
 rcases y1 with _ | _
 · rintro _ _ _ ⟨rfl,rfl,rfl⟩;have q0:=j1 H;subst q0;exact W.now (InBlock.r (Then.r (Scope.r (mb []))))
 rintro _ _ _ ⟨rfl,rfl,rfl⟩;(iterate 3 refine sp ?_);refine WP.seq ?_;(iterate 6 refine sp ?_);refine WP.cv (Cv.weak (E':=((((Env.none.upd 0 (.ro (Rd.slice rdS_api_File) false x1)).upd 34 (.ro (Rd.slice rdS_api_File) false x1)).upd 35 (.lit (.int .i64 ((List.length x1:Nat):Int)))).upd 36 (.lit (.int .i64 0)))) (M':=Mem.nil) [] hnp ⟨rfl,trivial,by decide,rfl,trivial⟩ (LeE.u (LeE.u (LeE.u (LeE.u (LeE.none rfl rfl)))))) ?_;obtain ⟨y2,H3,H⟩:=bnd H;refine WP.monoW (Q:=fun x E M=>match (generalizing:=false) y2 with | (Sum.inl _)=>x=.ret∧E=(Env.none.upd 4 (.lit (.int .i64 42)))∧M=Mem.nil | (Sum.inr _)=>x=.exit 2∧E=(Env.none.upd 0 (.ro (Rd.slice rdS_api_File) false x1))∧M=Mem.nil) ?_ ?_
 · refine WP.loop (β:=Int) (fun n b=>g_zip_check_l1 k x1 n b=some y2) (fun b=>((((Env.none.upd 0 (.ro (Rd.slice rdS_api_File) false x1)).upd 34 (.ro (Rd.slice rdS_api_File) false x1)).upd 35 (.lit (.int .i64 ((List.length x1:Nat):Int)))).upd 36 (.lit (.int .i64 b)))) (fun b=>Mem.nil) k 0 H3 rfl rfl ?_;rintro n x10 H;obtain _ | n:=n
   · exact nf rfl H
   rw [g_zip_check_l1.eq_2] at H;show WP _ _ _ _ ((((Env.none.upd 0 (.ro (Rd.slice rdS_api_File) false x1)).upd 34 (.ro (Rd.slice rdS_api_File) false x1)).upd 35 (.lit (.int .i64 ((List.length x1:Nat):Int)))).upd 36 (.lit (.int .i64 x10))) Mem.nil _;refine sp ?_;obtain ⟨x11,h5,H⟩:=bnd H;refine sn (nm_bool h5) ?_;refine sp ?_;refine WP.seq ?_;refine cq H (fun hb6 H=>?_) fun hb6 H=>?_
   · (iterate 3 refine sp ?_);refine WP.seq ?_;(iterate 2 refine sp ?_);obtain ⟨x12,h6,H⟩:=bnd H;refine sp ?_;refine WPL.qq (q_load_roag ag41 rfl rfl S_api_File.sp) ?_;(iterate 6 refine sp ?_);obtain ⟨x13,h6,H⟩:=bnd H;refine WPL.c (rc [] [1] 2 [] (s_zip_Right k x12.fName x13 h6)) rfl ?_;(iterate 2 refine sp ?_);refine cq H (fun hb7 H=>?_) fun hb7 H=>?_
     · (iterate 4 refine sp ?_);have q0:=j1 H;subst q0;exact wq [] (InBlock.r (Then.r (Then.r r3)))
     (iterate 2 refine sp ?_);refine InBlock.n ?_;(iterate 4 refine sp ?_);refine WPL.nilW ?_;exact wq [] (Then.n ⟨n,(IntKind.wrap .i64 (x10+1)),Nat.lt_succ_self n,H,rfl,rfl⟩)
   refine sp ?_;have q0:=j1 H;subst q0;exact wq [] (Then.x (Then.x r3))
 rcases y2 with _ | _
 · rintro _ _ _ ⟨rfl,rfl,rfl⟩;have q0:=j1 H;subst q0;exact W.now (InBlock.r (Then.r (Scope.r (mb []))))
 rintro _ _ _ ⟨rfl,rfl,rfl⟩;(iterate 6 refine sp ?_);refine WP.seq ?_;refine WP.labelW ?_;(iterate 2 refine sp ?_);refine WP.seq ?_;(iterate 6 refine sp ?_);refine WP.cv (Cv.weak (E':=(((((Env.none.upd 0 (.ro (Rd.slice rdS_api_File) false x1)).upd 9 (.lit (.bool false))).upd 45 (.ro (Rd.slice rdS_api_File) false x1)).upd 46 (.lit (.int .i64 ((List.length x1:Nat):Int)))).upd 47 (.lit (.int .i64 0)))) (M':=Mem.nil) [] hnp ⟨rfl,trivial,by decide,rfl,trivial⟩ (LeE.u (LeE.u (LeE.u (LeE.u (LeE.u (LeE.none rfl rfl))))))) ?_;obtain ⟨x14,H4,H⟩:=bnd H;refine mo (.exit 4) (Env.none.upd 9 (.lit (.bool x14))) Mem.nil ?_ ?_
 · refine WP.loop (β:=Int) (fun n b=>g_zip_check_l2 k x1 n b=some x14) (fun b=>(((((Env.none.upd 0 (.ro (Rd.slice rdS_api_File) false x1)).upd 9 (.lit (.bool false))).upd 45 (.ro (Rd.slice rdS_api_File) false x1)).upd 46 (.lit (.int .i64 ((List.length x1:Nat):Int)))).upd 47 (.lit (.int .i64 b)))) (fun b=>Mem.nil) k 0 H4 rfl rfl ?_;rintro n x15 H;obtain _ | n:=n
   · exact nf rfl H
   rw [g_zip_check_l2.eq_2] at H;show WP _ _ _ _ (((((Env.none.upd 0 (.ro (Rd.slice rdS_api_File) false x1)).upd 9 (.lit (.bool false))).upd 45 (.ro (Rd.slice rdS_api_File) false x1)).upd 46 (.lit (.int .i64 ((List.length x1:Nat):Int)))).upd 47 (.lit (.int .i64 x15))) Mem.nil _;refine sp ?_;obtain ⟨x16,h7,H⟩:=bnd H;refine sn (nm_bool h7) ?_;refine sp ?_;refine WP.seq ?_;refine cq H (fun hb8 H=>?_) fun hb8 H=>?_
   · (iterate 3 refine sp ?_);refine WP.seq ?_;(iterate 3 refine sp ?_);obtain ⟨x17,h8,H⟩:=bnd H;refine sp ?_;refine WPL.qq (q_load_roag ag41 rfl rfl S_api_File.sp) ?_;(iterate 7 refine sp ?_);obtain ⟨h8,H⟩:=grd H;refine WPL.qq (q_slice_ro (i:=0) (j:=x15) sl22 rfl rfl rfl ⟨_,rfl⟩ h8) ?_;obtain ⟨x18,h9,H⟩:=bnd H;refine sn (nm_int h9) ?_;(iterate 3 refine sp ?_);refine WP.cv (Cv.weak (E':=(((((((((Env.none.upd 0 (.ro (Rd.slice rdS_api_File) false x1)).upd 9 (.lit (.bool false))).upd 11 (.ptr 0 0)).upd 45 (.ro (Rd.slice rdS_api_File) false x1)).upd 46 (.lit (.int .i64 ((List.length x1:Nat):Int)))).upd 47 (.lit (.int .i64 x15))).upd 54 (.ro (Rd.slice rdS_api_File) false (List.drop (Int.toNat 0) (List.take (Int.toNat x15) x1)))).upd 55 (.lit (.int .i64 x18))).upd 56 (.lit (.int .i64 0)))) (M':=(Mem.nil.push (.cells 41 [.lit (.string x17.fName),.ro (Rd.slice (Rd.int .u8)) false x17.fData]))) [0] hnp ⟨rfl,AA1,by decide,rfl,trivial⟩ (LeE.u (LeE.u (LeE.u (LeE.u (LeE.u (LeE.u (LeE.u (LeE.u (LeE.u (LeE.none rfl rfl))))))))))) ?_;obtain ⟨y3,H5,H⟩:=bnd H;refine WP.monoW (Q:=fun x E M=>match (generalizing:=false) y3 with | (Sum.inl _)=>x=.exit 4∧E=(Env.none.upd 9 (.lit (.bool true)))∧M=Mem.nil | (Sum.inr _)=>x=.exit 6∧E=(((((Env.none.upd 0 (.ro (Rd.slice rdS_api_File) false x1)).upd 9 (.lit (.bool false))).upd 45 (.ro (Rd.slice rdS_api_File) false x1)).upd 46 (.lit (.int .i64 ((List.length x1:Nat):Int)))).upd 47 (.lit (.int .i64 x15)))∧M=Mem.nil) ?_ ?_
     · refine WP.loop (β:=Int) (fun n b=>g_zip_check_l3 k x1 x15 x17 x18 n b=some y3) (fun b=>(((((((((Env.none.upd 0 (.ro (Rd.slice rdS_api_File) false x1)).upd 9 (.lit (.bool false))).upd 11 (.ptr 0 0)).upd 45 (.ro (Rd.slice rdS_api_File) false x1)).upd 46 (.lit (.int .i64 ((List.length x1:Nat):Int)))).upd 47 (.lit (.int .i64 x15))).upd 54 (.ro (Rd.slice rdS_api_File) false (List.drop (Int.toNat 0) (List.take (Int.toNat x15) x1)))).upd 55 (.lit (.int .i64 x18))).upd 56 (.lit (.int .i64 b)))) (fun b=>(Mem.nil.push (.cells 41 [.lit (.string x17.fName),.ro (Rd.slice (Rd.int .u8)) false x17.fData]))) k 0 H5 rfl rfl ?_;rintro n x19 H;obtain _ | n:=n
       · exact nf rfl H
       rw [g_zip_check_l3.eq_2] at H;show WP _ _ _ _ (((((((((Env.none.upd 0 (.ro (Rd.slice rdS_api_File) false x1)).upd 9 (.lit (.bool false))).upd 11 (.ptr 0 0)).upd 45 (.ro (Rd.slice rdS_api_File) false x1)).upd 46 (.lit (.int .i64 ((List.length x1:Nat):Int)))).upd 47 (.lit (.int .i64 x15))).upd 54 (.ro (Rd.slice rdS_api_File) false (List.drop (Int.toNat 0) (List.take (Int.toNat x15) x1)))).upd 55 (.lit (.int .i64 x18))).upd 56 (.lit (.int .i64 x19))) (Mem.nil.push (.cells 41 [.lit (.string x17.fName),.ro (Rd.slice (Rd.int .u8)) false x17.fData])) _;(iterate 3 refine sp ?_);refine WP.seq ?_;refine cq H (fun hb9 H=>?_) fun hb9 H=>?_
       · (iterate 3 refine sp ?_);refine WP.seq ?_;(iterate 2 refine sp ?_);obtain ⟨x20,h10,H⟩:=bnd H;refine sp ?_;refine WPL.qq (q_load_roag ag41 rfl rfl S_api_File.sp) ?_;(iterate 8 refine sp ?_);obtain ⟨x21,h10,H⟩:=bnd H;refine WPL.c (rc [] [] 2 [] (s_st_EqualFold k x17.fName x20.fName x21 h10)) rfl ?_;refine sp ?_;refine cq H (fun hb10 H=>?_) fun hb10 H=>?_
         · (iterate 4 refine sp ?_);have q0:=j1 H;subst q0;exact wq [] (InBlock.x rfl (Then.x (Then.x r3)))
         (iterate 2 refine sp ?_);refine InBlock.n ?_;(iterate 4 refine sp ?_);refine WPL.nilW ?_;exact wq [0] (Then.n ⟨n,(IntKind.wrap .i64 (x19+1)),Nat.lt_succ_self n,H,rfl,rfl⟩)
       refine sp ?_;have q0:=j1 H;subst q0;exact wq [] (Then.x (Then.x r3))
     rcases y3 with _ | _
     · rintro _ _ _ ⟨rfl,rfl,rfl⟩;have q0:=j1 H;subst q0;exact wq [] (InBlock.x rfl (InBlock.x rfl (Then.x (Then.x r3))))
     rintro _ _ _ ⟨rfl,rfl,rfl⟩;(iterate 2 refine sp ?_);refine InBlock.n ?_;(iterate 4 refine sp ?_);refine WPL.nilW ?_;exact wq [] (Then.n ⟨n,(IntKind.wrap .i64 (x15+1)),Nat.lt_succ_self n,H,rfl,rfl⟩)
   refine sp ?_;have q0:=j1 H;subst q0;exact wq [] (Then.x (Then.x r3))
 (iterate 3 refine sp ?_);refine WP.seq ?_;(iterate 3 refine sp ?_);refine cq H (fun hb11 H=>?_) fun hb11 H=>?_
 · (iterate 4 refine sp ?_);have q0:=j1 H;subst q0;exact W.now (Then.r (Scope.r (mb [])))
 (iterate 7 refine sp ?_);have q0:=j1 H;subst q0;exact W.now (Scope.r (mb []))
theorem s_bits_Crc (k:Nat) (x1:(List Int)) (x2:Int) (H:g_bits_Crc k x1=some x2):Go.Q.Spec Tryz.prog 21 0 [.ro (Rd.slice (Rd.int .u8)) false x1] Mem.nil (fun o M=>o=.ret (.lit (.int .u32 x2))∧M=Mem.nil):=by
 unfold g_bits_Crc at H;refine bo Tryz.func21 [] [.tmp 2] 29 fun cx hnp=>?_;(iterate 6 refine sp ?_);refine WP.seq ?_;(iterate 6 refine sp ?_);refine WP.cv (Cv.weak (E':=((((Env.none.upd 3 (.lit (.int .u32 4294967295))).upd 6 (.ro (Rd.slice (Rd.int .u8)) false x1)).upd 7 (.lit (.int .i64 ((List.length x1:Nat):Int)))).upd 8 (.lit (.int .i64 0)))) (M':=Mem.nil) [] hnp ⟨rfl,trivial,by decide,rfl,trivial⟩ (LeE.u (LeE.u (LeE.u (LeE.u (LeE.none rfl rfl)))))) ?_;obtain ⟨x3,H1,H⟩:=bnd H;refine mo (.exit 0) (Env.none.upd 3 (.lit (.int .u32 x3))) Mem.nil ?_ ?_
 · refine WP.loop (β:=Int × Int) (fun n b=>g_bits_Crc_l0 k x1 n b.1 b.2=some x3) (fun b=>((((Env.none.upd 3 (.lit (.int .u32 b.1))).upd 6 (.ro (Rd.slice (Rd.int .u8)) false x1)).upd 7 (.lit (.int .i64 ((List.length x1:Nat):Int)))).upd 8 (.lit (.int .i64 b.2)))) (fun b=>Mem.nil) k (4294967295,0) H1 rfl rfl ?_;rintro n ⟨x4,x5⟩ H;obtain _ | n:=n
   · exact nf rfl H
   rw [g_bits_Crc_l0.eq_2] at H;show WP _ _ _ _ ((((Env.none.upd 3 (.lit (.int .u32 x4))).upd 6 (.ro (Rd.slice (Rd.int .u8)) false x1)).upd 7 (.lit (.int .i64 ((List.length x1:Nat):Int)))).upd 8 (.lit (.int .i64 x5))) Mem.nil _;refine sp ?_;obtain ⟨x6,h1,H⟩:=bnd H;refine sn (nm_bool h1) ?_;refine sp ?_;refine WP.seq ?_;refine cq H (fun hb1 H=>?_) fun hb1 H=>?_
   · (iterate 3 refine sp ?_);refine WP.seq ?_;(iterate 2 refine sp ?_);obtain ⟨x7,h2,H⟩:=bnd H;(iterate 8 refine sp ?_);obtain ⟨x8,h3,H⟩:=bnd H;refine sn (nm_int h3) ?_;(iterate 6 refine sp ?_);refine WP.cv (Cv.weak (E':=(((((Env.none.upd 3 (.lit (.int .u32 x8))).upd 6 (.ro (Rd.slice (Rd.int .u8)) false x1)).upd 7 (.lit (.int .i64 ((List.length x1:Nat):Int)))).upd 8 (.lit (.int .i64 x5))).upd 16 (.lit (.int .i64 0)))) (M':=Mem.nil) [] hnp ⟨rfl,trivial,by decide,rfl,trivial⟩ (LeE.u (LeE.u (LeE.u (LeE.u (LeE.u (LeE.none rfl rfl))))))) ?_;obtain ⟨x9,H2,H⟩:=bnd H;refine mo (.exit 2) ((((Env.none.upd 3 (.lit (.int .u32 x9))).upd 6 (.ro (Rd.slice (Rd.int .u8)) false x1)).upd 7 (.lit (.int .i64 ((List.length x1:Nat):Int)))).upd 8 (.lit (.int .i64 x5))) Mem.nil ?_ ?_
     · refine WP.loop (β:=Int × Int) (fun n b=>g_bits_Crc_l1 k n b.1 b.2=some x9) (fun b=>(((((Env.none.upd 3 (.lit (.int .u32 b.1))).upd 6 (.ro (Rd.slice (Rd.int .u8)) false x1)).upd 7 (.lit (.int .i64 ((List.length x1:Nat):Int)))).upd 8 (.lit (.int .i64 x5))).upd 16 (.lit (.int .i64 b.2)))) (fun b=>Mem.nil) k (x8,0) H2 rfl rfl ?_;rintro n ⟨x10,x11⟩ H;obtain _ | n:=n
       · exact nf rfl H
       rw [g_bits_Crc_l1.eq_2] at H;show WP _ _ _ _ (((((Env.none.upd 3 (.lit (.int .u32 x10))).upd 6 (.ro (Rd.slice (Rd.int .u8)) false x1)).upd 7 (.lit (.int .i64 ((List.length x1:Nat):Int)))).upd 8 (.lit (.int .i64 x5))).upd 16 (.lit (.int .i64 x11))) Mem.nil _;(iterate 3 refine sp ?_);refine WP.seq ?_;refine cq H (fun hb2 H=>?_) fun hb2 H=>?_
       · (iterate 3 refine sp ?_);refine WP.seq ?_;(iterate 6 refine sp ?_);obtain ⟨x12,h4,H⟩:=bnd H;refine sn (nm_int h4) ?_;refine sp ?_;obtain ⟨x13,h5,H⟩:=bnd H;refine sn (nm_int h5) ?_;refine sp ?_;refine WPL.nilW ?_;refine sp ?_;refine InBlock.n ?_;(iterate 4 refine sp ?_);refine WPL.nilW ?_;exact wq [] (Then.n ⟨n,(x13,(IntKind.wrap .i64 (x11+1))),Nat.lt_succ_self n,H,rfl,rfl⟩)
       refine sp ?_;have q0:=j1 H;subst q0;exact wq [] (Then.x (Then.x r3))
     (iterate 2 refine sp ?_);refine InBlock.n ?_;(iterate 4 refine sp ?_);refine WPL.nilW ?_;exact wq [] (Then.n ⟨n,(x9,(IntKind.wrap .i64 (x5+1))),Nat.lt_succ_self n,H,rfl,rfl⟩)
   refine sp ?_;have q0:=j1 H;subst q0;exact wq [] (Then.x (Then.x r3))
 (iterate 5 refine sp ?_);obtain ⟨x14,h6,H⟩:=bnd H;refine WPL.qq (q_nm (q_com rfl) (nm_int h6)) ?_;(iterate 3 refine sp ?_);have q0:=j1 H;subst q0;exact W.now (mb [])
theorem s_bits_NewWriter (k:Nat) (H:g_bits_NewWriter k=some ()):Go.Q.Spec Tryz.prog 65 0 [] Mem.nil (fun o M=>o=.ret (.ptr 0 0)∧M=(Mem.nil.push (.cells 127 [.lit (.slice none 0 0),.lit (.int .i64 0)]))):=by
 unfold g_bits_NewWriter at H;refine bo Tryz.func65 [] [.tmp 0] 3 fun cx hnp=>?_;(iterate 9 refine sp ?_);exact W.now (mb [0])
theorem s_bits_Writer_Bytes (k:Nat) (x1:(List Int)) (x2:Int) (x3:Int) (H:g_bits_Writer_Bytes k x1 x2=some x3):Go.Q.Spec Tryz.prog 46 1 [.ptr 0 0,.ro (Rd.slice (Rd.int .u8)) true x1] (Mem.nil.push (.cells 127 [.lit (.slice none 0 0),.lit (.int .i64 x2)])) (fun o M=>o=.ret (.tup [])∧M=((Mem.nil.push (.cells 127 [.whole 1,.lit (.int .i64 x3)])).push (.row 5 (Rd.int .u8) (([]:List Int)++x1)))):=by
 unfold g_bits_Writer_Bytes at H;refine bo Tryz.func46 [] [] 24 fun cx hnp=>?_;(iterate 2 refine sp ?_);refine WPL.qq (q_neqp Tryz.underlying77 rfl) ?_;refine sp ?_;refine WP.condT rfl ?_;(iterate 7 refine sp ?_);obtain ⟨h1,H⟩:=grd H;refine WPL.cv (Cv.vir 5 (Rd.int .u8) (N:=1) rfl 10 rfl) ?_;refine WPL.d (d_append ap23 rfl rfl rfl rfl (src_bor sl23 Rd.flat_sc rfl) h1 rfl) rfl ?_;(iterate 11 refine sp ?_);obtain ⟨x4,h2,H⟩:=bnd H;refine sn (nm_int h2) ?_;(iterate 3 refine sp ?_);refine WPL.nilW ?_;have q0:=j1 H;subst q0;exact W.now (BodyR.mkN trivial rfl [0,2] ⟨rfl,rfl⟩ ⟨rfl,AA2,by decide,rfl,BB1⟩ rfl rfl)
theorem s_bits_each (k:Nat) (x1:Int) (x2:Int) (H:g_bits_each k x1 x2=some ()):Go.Q.Spec Tryz.prog 98 0 [.lit (.int .u32 x1),.lit (.int .i64 x2)] Mem.nil (fun o M=>o=.ret (.fn 133 [.ptr 0 0,.ptr 1 0])∧M=((Mem.nil.push (.cells 3 [.lit (.int .i64 x2)])).push (.cells 44 [.lit (.int .u32 x1)]))):=by
 unfold g_bits_each at H;refine bo Tryz.func98 [] [.tmp 4] 6 fun cx hnp=>?_;(iterate 6 refine sp ?_);refine WPL.qq (q_makeFunc) ?_;(iterate 3 refine sp ?_);exact W.now (mb [1,0])
theorem s_bits_Writer_Put (k:Nat) (x1:Int) (x2:Int) (x3:Int) (x4:(List Int)) (x5:Int) (x6:Int) (x7:(List Int)) (H:g_bits_Writer_Put k x1 x2 x3 x4=some (x5,x6,x7)):Go.Q.Spec Tryz.prog 66 1 [.ptr 0 0,.lit (.int .u32 x1),.lit (.int .i64 x2)] ((Mem.nil.push (.cells 127 [.whole 1,.lit (.int .i64 x3)])).push (.row 5 (Rd.int .u8) x4)) (fun o M=>o=.ret (.lit (.int .i64 x5))∧M=((Mem.nil.push (.cells 127 [.whole 1,.lit (.int .i64 x6)])).push (.row 5 (Rd.int .u8) x7))):=by
 unfold g_bits_Writer_Put at H;refine bo Tryz.func66 [] [.tmp 6] 65 fun cx hnp=>?_;(iterate 4 refine sp ?_);refine WP.seq ?_;(iterate 2 refine sp ?_);refine WPL.qq (q_eqlp Tryz.underlying77 rfl) ?_;refine sp ?_;refine WP.condF rfl ?_;(iterate 3 refine sp ?_);refine WP.seq ?_;refine WP.seq ?_;obtain ⟨x8,H1,H⟩:=bnd H;refine mo .normal ((((Env.none.upd 1 (.lit (.int .u32 x1))).upd 2 (.lit (.int .i64 x2))).upd 3 (.ptr 2 0)).upd 16 (.lit (.bool x8))) (((Mem.nil.push (.cells 127 [.whole 1,.lit (.int .i64 x3)])).push (.row 5 (Rd.int .u8) x4)).push (.cells 77 [.ptr 0 0])) ?_ ?_
 · clear H;have H:=H1;clear H1;(iterate 4 refine sp ?_);refine ws 13 H (fun hb1 H=>?_) fun hb1 H=>?_
   · (iterate 3 refine sp ?_);refine WPL.nilW ?_;have q0:=j1 H;subst q0;exact wq [0,1,2]
   (iterate 3 refine sp ?_);refine WPL.nilW ?_;have q0:=j1 H;subst q0;exact wq [0,1,2]
 (iterate 2 refine sp ?_);refine cq H (fun hb2 H=>?_) fun hb2 H=>?_
 · (iterate 4 refine sp ?_);obtain ⟨rfl,rfl,rfl⟩:=j3 H;exact W.now (Then.r (mb [0,1]))
 (iterate 3 refine sp ?_);refine WP.seq ?_;(iterate 3 refine sp ?_);obtain ⟨_,h1,H⟩:=bnd H;refine WPL.c (rc [] [3,4] 5 [] (s_bits_each k x1 x2 h1)) rfl ?_;(iterate 2 refine sp ?_);refine WP.cv (Cv.nullMark (N:=5) rfl rfl) ?_;refine WP.range (nti:=19) (n:=6) rfl rfl Tryz.func133 rfl (by kernel_rfl) rfl rfl rfl rfl fun l_1 r_1 aC1 hp1 ha1 hb3 ht1 hs1 hf1=>?_;(iterate 5 refine sp ?_);refine WP.cv (Cv.weak (E':=(((((⟨fun _=>.any,[],[⟨aC1,(((Env.none.upd 3 (.ptr 3 0)).upd 19 (.fn 133 [.ptr 4 0,.ptr 2 0]))).v,[5,6],some (7,l_1)⟩],[]⟩:Env).upd 0 (.lit (.func (.yield l_1) #[] #[]))).upd 2 (.ptr 2 0)).upd 5 (.lit (.int .i64 x2))).upd 6 (.lit (.int .i64 0)))) (M':=((((((((Mem.nil.push (.cells 127 [.whole 1,.lit (.int .i64 x3)])).push (.row 5 (Rd.int .u8) x4)).push (.cells 44 [.lit (.int .u32 x1)])).push (.cells 77 [.ptr 0 0])).push (.cells 3 [.lit (.int .i64 x2)])).push (.obj (Obj.deferred (some [])))).push (.bag)).push (.obj (lp r_1 .ready none)))) [0,1,4,2,3,6,5,7] hnp ⟨rfl,AA8,by decide,rfl,BB1⟩ (LeE.u (LeE.u (LeE.u (LeE.u (LeE.noneD rfl rfl (.cons ⟨rfl,(LeV.upd rfl rfl (LeV.upd rfl rfl LeV.none)),rfl,rfl,rfl,rfl⟩ .nil))))))) ?_;obtain ⟨⟨x9,x10⟩,H2,H⟩:=bnd H;refine mo (.exit 0) (⟨fun _=>.any,[],[⟨aC1,(((Env.none.upd 3 (.ptr 2 0)).upd 19 (.fn 133 [.ptr 3 0,.ptr 4 0]))).v,[5,6],some (7,l_1)⟩],[]⟩:Env) ((((((((Mem.nil.push (.cells 127 [.whole 1,.lit (.int .i64 x9)])).push (.row 5 (Rd.int .u8) x10)).push (.cells 77 [.ptr 0 0])).push (.cells 3 [.lit (.int .i64 x2)])).push (.cells 44 [.lit (.int .u32 x1)])).push (.obj (Obj.deferred (some [])))).push (.bag)).push (.obj (lp r_1 .ready none))) ?_ ?_
 · refine WP.loop (β:=Int × Int × (List Int)) (fun n b=>g_bits_Writer_Put_l0 k x1 x2 n b.1 b.2.1 b.2.2=some (x9,x10)) (fun b=>(((((⟨fun _=>.any,[],[⟨aC1,(((Env.none.upd 3 (.ptr 3 0)).upd 19 (.fn 133 [.ptr 4 0,.ptr 2 0]))).v,[5,6],some (7,l_1)⟩],[]⟩:Env).upd 0 (.lit (.func (.yield l_1) #[] #[]))).upd 2 (.ptr 2 0)).upd 5 (.lit (.int .i64 x2))).upd 6 (.lit (.int .i64 b.1)))) (fun b=>((((((((Mem.nil.push (.cells 127 [.whole 1,.lit (.int .i64 b.2.1)])).push (.row 5 (Rd.int .u8) b.2.2)).push (.cells 44 [.lit (.int .u32 x1)])).push (.cells 77 [.ptr 0 0])).push (.cells 3 [.lit (.int .i64 x2)])).push (.obj (Obj.deferred (some [])))).push (.bag)).push (.obj (lp r_1 .ready none)))) k (0,x3,x4) H2 rfl rfl ?_;rintro n ⟨x11,x12,x13⟩ H;obtain _ | n:=n
   · exact nf rfl H
   rw [g_bits_Writer_Put_l0.eq_2] at H;show WP _ _ _ _ (((((⟨fun _=>.any,[],[⟨aC1,(((Env.none.upd 3 (.ptr 3 0)).upd 19 (.fn 133 [.ptr 4 0,.ptr 2 0]))).v,[5,6],some (7,l_1)⟩],[]⟩:Env).upd 0 (.lit (.func (.yield l_1) #[] #[]))).upd 2 (.ptr 2 0)).upd 5 (.lit (.int .i64 x2))).upd 6 (.lit (.int .i64 x11))) ((((((((Mem.nil.push (.cells 127 [.whole 1,.lit (.int .i64 x12)])).push (.row 5 (Rd.int .u8) x13)).push (.cells 44 [.lit (.int .u32 x1)])).push (.cells 77 [.ptr 0 0])).push (.cells 3 [.lit (.int .i64 x2)])).push (.obj (Obj.deferred (some [])))).push (.bag)).push (.obj (lp r_1 .ready none))) _;(iterate 3 refine sp ?_);refine WP.seq ?_;refine cq H (fun hb4 H=>?_) fun hb4 H=>?_
   · (iterate 3 refine sp ?_);refine WP.seq ?_;(iterate 10 refine sp ?_);obtain ⟨h2,H⟩:=grd H;refine WPL.qq (q_shr rfl rfl h2) ?_;refine sp ?_;obtain ⟨x14,h3,H⟩:=bnd H;refine sn (nm_int h3) ?_;refine WPL.y rfl rfl rfl rfl hp1 ha1 hb3 ht1 hs1 hf1 rfl rfl rfl fun aI1=>?_;(iterate 2 refine sp ?_);refine WPL.nilW ?_;refine sp ?_;refine ⟨rfl,rfl,_,_,_,_,_,_,rfl,rfl,?_⟩;refine sp ?_;refine WP.seq ?_;obtain ⟨x15,H3,H⟩:=bnd H;refine mo .normal ((((⟨fun _=>.any,[],[⟨aI1,(((((Env.none.upd 0 (.lit (.func (.yield l_1) #[] #[]))).upd 2 (.ptr 4 0)).upd 5 (.lit (.int .i64 x2))).upd 6 (.lit (.int .i64 x11)))).v,[],none⟩,⟨aC1,(((Env.none.upd 3 (.ptr 2 0)).upd 19 (.fn 133 [.ptr 3 0,.ptr 4 0]))).v,[5,6],some (7,l_1)⟩],[]⟩:Env).upd 3 (.ptr 2 0)).upd 8 (.lit (.int .u8 x14))).upd 19 (.fn 133 [.ptr 3 0,.ptr 4 0])) ((((((((Mem.nil.push (.cells 127 [.whole 1,.lit (.int .i64 x12)])).push (.row 5 (Rd.int .u8) x15)).push (.cells 77 [.ptr 0 0])).push (.cells 3 [.lit (.int .i64 x2)])).push (.cells 44 [.lit (.int .u32 x1)])).push (.obj (Obj.deferred (some [])))).push (.bag)).push (.obj (lp r_1 .busy none))) ?_ ?_
     · clear H;have H:=H3;clear H3;(iterate 8 refine sp ?_);refine cq H (fun hb5 H=>?_) fun hb5 H=>?_
       · refine WP.regionD' 10 [0,3] [9] mixed rfl ?_;refine dK 0 ?_;refine dK 1 ?_;refine dT 2 ?_;refine dT 3 ?_;refine dK 4 ?_;refine dE 5 [0,3] [9] rfl (Does.runs (d_buildSlice (ds:=([0]:List Int)) (R:=(Rd.int .u8)) li23 rfl rfl rfl rfl rfl (JoinRows.cons1 Joins.sc rfl JoinRows.nil) rfl rfl)) ?_;obtain ⟨h4,H⟩:=grd H;refine dE 6 [0,3] [9] rfl (Does.runs (d_append ap23 rfl rfl rfl rfl (src_row sl23 rfl rfl) h4 rfl)) ?_;refine dT 7 ?_;refine dT 8 ?_;refine dS 9 [] [] ?_;refine WPD.doneW (by kernel_rfl) ?_;have q0:=j1 H;subst q0;exact W.wk [0,9,3,4,2,5,6,7] hnp r3 ⟨rfl,AA8,by decide,rfl,BB1⟩ (LeE.u (LeE.u (LeE.u (LeE.noneD rfl rfl (.cons ⟨rfl,(LeV.upd rfl rfl (LeV.upd rfl rfl (LeV.upd rfl rfl (LeV.upd rfl rfl LeV.none)))),rfl,rfl,rfl,rfl⟩ (.cons ⟨rfl,(LeV.upd rfl rfl (LeV.upd rfl rfl LeV.none)),rfl,rfl,rfl,rfl⟩ .nil)))))) rfl
       refine sp ?_;have q0:=j1 H;subst q0;exact W.wk [0,1,3,4,2,5,6,7] hnp r3 ⟨rfl,AA8,by decide,rfl,BB1⟩ (LeE.u (LeE.u (LeE.u (LeE.noneD rfl rfl (.cons ⟨rfl,(LeV.upd rfl rfl (LeV.upd rfl rfl (LeV.upd rfl rfl (LeV.upd rfl rfl LeV.none)))),rfl,rfl,rfl,rfl⟩ (.cons ⟨rfl,(LeV.upd rfl rfl (LeV.upd rfl rfl LeV.none)),rfl,rfl,rfl,rfl⟩ .nil)))))) rfl
     (iterate 2 refine sp ?_);refine WP.seq ?_;refine WP.regionD' 22 [0,1,2] [21] mixed rfl ?_;refine dT 12 ?_;refine dK 0 ?_;refine dT 1 ?_;refine dT 2 ?_;refine dK 3 ?_;refine dK 4 ?_;refine dT 5 ?_;refine dT 6 ?_;refine dK 7 ?_;refine dT 8 ?_;obtain ⟨x16,h5,H⟩:=bnd H;refine dT 9 ?_ rfl (q_nm aq (nm_int h5));obtain ⟨x17,h6,H⟩:=bnd H;refine WPD.tT 10 rfl (q_index_row sl23 rfl rfl rfl (ixs h6)) ?_;refine WPD.take 11 rfl (by kernel_rfl) (q_load_row (j:=(Int.toNat x16)) sc5 rfl rfl (ixj h6)) rfl rfl ?_;refine dK 13 ?_;refine dT 14 ?_;refine dT 15 ?_;refine dK 16 ?_;refine dT 17 ?_;obtain ⟨h6,H⟩:=grd H;refine WPD.tT 18 rfl (q_shl rfl rfl h6) ?_;obtain ⟨x18,h7,H⟩:=bnd H;refine dT 19 ?_ rfl (q_nm aq (nm_int h7));obtain ⟨x19,h8,H⟩:=bnd H;refine WPD.tT 20 rfl (q_index_row sl23 rfl rfl rfl (ixs h8)) ?_;refine WPD.effS 21 [] [] rfl (by kernel_rfl) (s_store_row (j:=(Int.toNat x16)) (d:=x18) sz5 rfl rfl rfl rfl Joins.sc (ixl h8)) rfl ?_;refine WPD.doneW (by kernel_rfl) ?_;(iterate 11 refine sp ?_);refine WPL.nilW ?_;refine sp ?_;refine InBlock.n ?_;refine ⟨rfl,_,_,_,_,_,_,rfl,rfl,_,rfl,?_⟩;(iterate 2 refine sp ?_);refine WP.condFB (t:=(!true)) rfl rfl ?_;(iterate 2 refine sp ?_);refine InBlock.n ?_;(iterate 4 refine sp ?_);refine WPL.nilW ?_;exact W.wk [0,1,4,2,3,5,6,7] hnp (Then.n ⟨n,((IntKind.wrap .i64 (x11+1)),(IntKind.wrap .i64 (x12+1)),(List.set x15 (Int.toNat x16) x18)),Nat.lt_succ_self n,H,rfl,rfl⟩) ⟨rfl,AA8,by decide,rfl,BB1⟩ (LeE.u (LeE.u (LeE.u (LeE.u (LeE.noneD rfl rfl (.cons ⟨rfl,(LeV.upd rfl rfl (LeV.upd rfl rfl LeV.none)),rfl,rfl,rfl,rfl⟩ .nil)))))) rfl
   refine sp ?_;obtain ⟨rfl,rfl⟩:=j2 H;exact W.wk [0,1,3,4,2,5,6,7] hnp (Then.x (Then.x r3)) ⟨rfl,AA8,by decide,rfl,BB1⟩ (LeE.noneD rfl rfl (.cons ⟨rfl,(LeV.upd rfl rfl (LeV.upd rfl rfl LeV.none)),rfl,rfl,rfl,rfl⟩ .nil)) rfl
 (iterate 2 refine sp ?_);refine ⟨trivial,_,_,_,_,rfl,_,_,rfl,(fun h=>by cases h),?_⟩;refine W.cv (Cv.absorb (N:=8) (j:=5) (i:=6) rfl rfl rfl rfl) rfl ?_;refine sp ?_;refine InBlock.n ?_;(iterate 5 refine sp ?_);obtain ⟨rfl,rfl,rfl⟩:=j3 H;exact W.now (BodyR.mkR ⟨.inr rfl,trivial⟩ rfl [0,1] ⟨rfl,rfl⟩ ⟨rfl,AA2,by decide,rfl,BB1⟩ rfl rfl)
theorem s_zip_writer_nums (k:Nat) (x1:Int) (x2:(List Int)) (x3:Int) (x4:(List Int)) (x5:Int) (x6:(List Int)) (H:g_zip_writer_nums k x1 x2 x3 x4=some (x5,x6)):Go.Q.Spec Tryz.prog 47 1 [.agg [.ptr 0 0],.lit (.int .i64 x1),.ro (Rd.slice (Rd.int .i64)) true x2] ((Mem.nil.push (.cells 127 [.whole 1,.lit (.int .i64 x3)])).push (.row 5 (Rd.int .u8) x4)) (fun o M=>o=.ret (.tup [])∧M=((Mem.nil.push (.cells 127 [.whole 1,.lit (.int .i64 x5)])).push (.row 5 (Rd.int .u8) x6))):=by
 unfold g_zip_writer_nums at H;refine bo Tryz.func47 [] [] 29 fun cx hnp=>?_;(iterate 9 refine sp ?_);refine WP.cv (Cv.weak (E':=(((((Env.none.upd 1 (.lit (.int .i64 x1))).upd 3 (.ptr 2 0)).upd 9 (.ro (Rd.slice (Rd.int .i64)) true x2)).upd 10 (.lit (.int .i64 ((List.length x2:Nat):Int)))).upd 11 (.lit (.int .i64 0)))) (M':=(((Mem.nil.push (.cells 127 [.whole 1,.lit (.int .i64 x3)])).push (.row 5 (Rd.int .u8) x4)).push (.cells 79 [.ptr 0 0]))) [0,1,2] hnp ⟨rfl,AA3,by decide,rfl,BB1⟩ (LeE.u (LeE.u (LeE.u (LeE.u (LeE.u (LeE.none rfl rfl))))))) ?_;obtain ⟨⟨x7,x8⟩,H1,H⟩:=bnd H;refine mo (.exit 0) Env.none ((Mem.nil.push (.cells 127 [.whole 1,.lit (.int .i64 x7)])).push (.row 5 (Rd.int .u8) x8)) ?_ ?_
 · refine WP.loop (β:=Int × Int × (List Int)) (fun n b=>g_zip_writer_nums_l0 k x1 x2 n b.1 b.2.1 b.2.2=some (x7,x8)) (fun b=>(((((Env.none.upd 1 (.lit (.int .i64 x1))).upd 3 (.ptr 2 0)).upd 9 (.ro (Rd.slice (Rd.int .i64)) true x2)).upd 10 (.lit (.int .i64 ((List.length x2:Nat):Int)))).upd 11 (.lit (.int .i64 b.1)))) (fun b=>(((Mem.nil.push (.cells 127 [.whole 1,.lit (.int .i64 b.2.1)])).push (.row 5 (Rd.int .u8) b.2.2)).push (.cells 79 [.ptr 0 0]))) k (0,x3,x4) H1 rfl rfl ?_;rintro n ⟨x9,x10,x11⟩ H;obtain _ | n:=n
   · exact nf rfl H
   rw [g_zip_writer_nums_l0.eq_2] at H;show WP _ _ _ _ (((((Env.none.upd 1 (.lit (.int .i64 x1))).upd 3 (.ptr 2 0)).upd 9 (.ro (Rd.slice (Rd.int .i64)) true x2)).upd 10 (.lit (.int .i64 ((List.length x2:Nat):Int)))).upd 11 (.lit (.int .i64 x9))) (((Mem.nil.push (.cells 127 [.whole 1,.lit (.int .i64 x10)])).push (.row 5 (Rd.int .u8) x11)).push (.cells 79 [.ptr 0 0])) _;refine sp ?_;obtain ⟨x12,h1,H⟩:=bnd H;refine sn (nm_bool h1) ?_;refine sp ?_;refine WP.seq ?_;refine cq H (fun hb1 H=>?_) fun hb1 H=>?_
   · (iterate 3 refine sp ?_);refine WP.seq ?_;(iterate 2 refine sp ?_);obtain ⟨x13,h2,H⟩:=bnd H;(iterate 9 refine sp ?_);refine WP.cv (Cv.weak (E':=((((((((Env.none.upd 1 (.lit (.int .i64 x1))).upd 3 (.ptr 2 0)).upd 7 (.lit (.int .i64 x13))).upd 9 (.ro (Rd.slice (Rd.int .i64)) true x2)).upd 10 (.lit (.int .i64 ((List.length x2:Nat):Int)))).upd 11 (.lit (.int .i64 x9))).upd 15 (.lit (.int .i64 x1))).upd 16 (.lit (.int .i64 0)))) (M':=(((Mem.nil.push (.cells 127 [.whole 1,.lit (.int .i64 x10)])).push (.row 5 (Rd.int .u8) x11)).push (.cells 79 [.ptr 0 0]))) [0,1,2] hnp ⟨rfl,AA3,by decide,rfl,BB1⟩ (LeE.u (LeE.u (LeE.u (LeE.u (LeE.u (LeE.u (LeE.u (LeE.u (LeE.none rfl rfl)))))))))) ?_;obtain ⟨⟨x14,x15⟩,H2,H⟩:=bnd H;refine mo (.exit 2) (((((Env.none.upd 1 (.lit (.int .i64 x1))).upd 3 (.ptr 2 0)).upd 9 (.ro (Rd.slice (Rd.int .i64)) true x2)).upd 10 (.lit (.int .i64 ((List.length x2:Nat):Int)))).upd 11 (.lit (.int .i64 x9))) (((Mem.nil.push (.cells 127 [.whole 1,.lit (.int .i64 x14)])).push (.row 5 (Rd.int .u8) x15)).push (.cells 79 [.ptr 0 0])) ?_ ?_
     · refine WP.loop (β:=Int × Int × (List Int)) (fun n b=>g_zip_writer_nums_l1 k x1 x13 n b.1 b.2.1 b.2.2=some (x14,x15)) (fun b=>((((((((Env.none.upd 1 (.lit (.int .i64 x1))).upd 3 (.ptr 2 0)).upd 7 (.lit (.int .i64 x13))).upd 9 (.ro (Rd.slice (Rd.int .i64)) true x2)).upd 10 (.lit (.int .i64 ((List.length x2:Nat):Int)))).upd 11 (.lit (.int .i64 x9))).upd 15 (.lit (.int .i64 x1))).upd 16 (.lit (.int .i64 b.1)))) (fun b=>(((Mem.nil.push (.cells 127 [.whole 1,.lit (.int .i64 b.2.1)])).push (.row 5 (Rd.int .u8) b.2.2)).push (.cells 79 [.ptr 0 0]))) k (0,x10,x11) H2 rfl rfl ?_;rintro n ⟨x16,x17,x18⟩ H;obtain _ | n:=n
       · exact nf rfl H
       rw [g_zip_writer_nums_l1.eq_2] at H;show WP _ _ _ _ ((((((((Env.none.upd 1 (.lit (.int .i64 x1))).upd 3 (.ptr 2 0)).upd 7 (.lit (.int .i64 x13))).upd 9 (.ro (Rd.slice (Rd.int .i64)) true x2)).upd 10 (.lit (.int .i64 ((List.length x2:Nat):Int)))).upd 11 (.lit (.int .i64 x9))).upd 15 (.lit (.int .i64 x1))).upd 16 (.lit (.int .i64 x16))) (((Mem.nil.push (.cells 127 [.whole 1,.lit (.int .i64 x17)])).push (.row 5 (Rd.int .u8) x18)).push (.cells 79 [.ptr 0 0])) _;(iterate 3 refine sp ?_);refine WP.seq ?_;refine cq H (fun hb2 H=>?_) fun hb2 H=>?_
       · (iterate 3 refine sp ?_);refine WP.seq ?_;(iterate 5 refine sp ?_);refine WP.regionD' 8 [2] [] mixed rfl ?_;refine dT 0 ?_;refine dT 2 ?_;refine dT 3 ?_;refine dT 4 ?_;obtain ⟨h3,H⟩:=grd H;obtain ⟨x19,h4,H⟩:=bnd H;refine WPD.tT 5 rfl (q_nm (q_shr rfl rfl h3) (nm_int h4)) ?_;refine dT 6 ?_;refine dK 1 ?_;obtain ⟨⟨x20,x21,x22⟩,h4,H⟩:=bnd H;refine dE 7 [2] [] rfl (rc [0,1] [0,3] 4 [] (s_bits_Writer_Put k (IntKind.wrap .u32 x19) 8 x17 x18 x20 x21 x22 h4) (hargs:=.ren rfl rfl (.ren rfl rfl (.ren rfl rfl .nil)))) ?_;refine WPD.doneW (by kernel_rfl) ?_;refine sp ?_;refine InBlock.n ?_;(iterate 4 refine sp ?_);refine WPL.nilW ?_;exact wq [0,3,2] (Then.n ⟨n,((IntKind.wrap .i64 (x16+1)),x21,x22),Nat.lt_succ_self n,H,rfl,rfl⟩)
       refine sp ?_;obtain ⟨rfl,rfl⟩:=j2 H;exact wq [0,1,2] (Then.x (Then.x r3))
     (iterate 2 refine sp ?_);refine InBlock.n ?_;(iterate 4 refine sp ?_);refine WPL.nilW ?_;exact wq [0,1,2] (Then.n ⟨n,((IntKind.wrap .i64 (x9+1)),x14,x15),Nat.lt_succ_self n,H,rfl,rfl⟩)
   refine sp ?_;obtain ⟨rfl,rfl⟩:=j2 H;exact wq [0,1] (Then.x (Then.x r3))
 obtain ⟨rfl,rfl⟩:=j2 H;exact W.now (InBlock.x0 (BodyR.mkN trivial rfl [0,1] ⟨rfl,rfl⟩ ⟨rfl,AA2,by decide,rfl,BB1⟩ rfl rfl))
theorem s_zip_writer_sums (k:Nat) (x1:Int) (x2:Int) (x3:Int) (x4:Int) (x5:ByteArray) (x6:Int) (x7:Int) (x8:(List Int)) (x9:Int) (x10:(List Int)) (H:g_zip_writer_sums k x1 x2 x3 x4 x5 x6 x7 x8=some (x9,x10)):Go.Q.Spec Tryz.prog 48 1 [.agg [.ptr 0 0],.agg [.lit (.int .i64 x1),.lit (.int .i64 x2),.lit (.int .i64 x3),.lit (.int .i64 x4),.lit (.string x5),.lit (.int .i64 x6)]] ((Mem.nil.push (.cells 127 [.whole 1,.lit (.int .i64 x7)])).push (.row 5 (Rd.int .u8) x8)) (fun o M=>o=.ret (.tup [])∧M=((Mem.nil.push (.cells 127 [.whole 1,.lit (.int .i64 x9)])).push (.row 5 (Rd.int .u8) x10))):=by
 unfold g_zip_writer_sums at H;refine bo Tryz.func48 [] [] 24 fun cx hnp=>?_;(iterate 8 refine sp ?_);refine WPL.d (d_buildSlice (ds:=([0,x1,0,33]:List Int)) (R:=(Rd.int .i64)) li61 rfl rfl rfl rfl rfl (JoinRows.cons1 Joins.sc rfl (JoinRows.cons1 Joins.sc rfl (JoinRows.cons1 Joins.sc rfl (JoinRows.cons1 Joins.sc rfl JoinRows.nil)))) rfl rfl) rfl ?_;obtain ⟨⟨x11,x12⟩,h1,H⟩:=bnd H;refine WPL.c (rc [0,1] [0,5] 6 [4] (s_zip_writer_nums k 2 ([0,x1,0,33]:List Int) x7 x8 x11 x12 h1) (hargs:=.ren rfl rfl (.ren rfl rfl (.row rfl rfl .nil)))) rfl ?_;(iterate 9 refine sp ?_);refine WPL.d (d_buildSlice (ds:=([x2,x3,x4]:List Int)) (R:=(Rd.int .i64)) li61 rfl rfl rfl rfl rfl (JoinRows.cons1 Joins.sc rfl (JoinRows.cons1 Joins.sc rfl (JoinRows.cons1 Joins.sc rfl JoinRows.nil))) rfl rfl) rfl ?_;obtain ⟨⟨x13,x14⟩,h2,H⟩:=bnd H;refine WPL.c (rc [0,5] [0,7] 8 [6] (s_zip_writer_nums k 4 ([x2,x3,x4]:List Int) x11 x12 x13 x14 h2) (hargs:=.ren rfl rfl (.ren rfl rfl (.row rfl rfl .nil)))) rfl ?_;(iterate 6 refine sp ?_);refine WPL.d (d_buildSlice (ds:=([((ByteArray.size x5:Nat):Int)]:List Int)) (R:=(Rd.int .i64)) li61 rfl rfl rfl rfl rfl (JoinRows.cons1 Joins.sc rfl JoinRows.nil) rfl rfl) rfl ?_;obtain ⟨⟨x15,x16⟩,h3,H⟩:=bnd H;refine WPL.c (rc [0,7] [0,9] 10 [8] (s_zip_writer_nums k 2 ([((ByteArray.size x5:Nat):Int)]:List Int) x13 x14 x15 x16 h3) (hargs:=.ren rfl rfl (.ren rfl rfl (.row rfl rfl .nil)))) rfl ?_;refine WPL.nilW ?_;obtain ⟨rfl,rfl⟩:=j2 H;exact W.now (BodyR.mkN trivial rfl [0,9] ⟨rfl,rfl⟩ ⟨rfl,AA2,by decide,rfl,BB1⟩ rfl rfl)
theorem s_bits_Writer_Bytes__b (k:Nat) (x1:(List Int)) (x2:Int) (x3:(List Int)) (x4:Int) (H:g_bits_Writer_Bytes__b k x1 x2 x3=some x4):Go.Q.Spec Tryz.prog 46 1 [.ptr 0 0,.ro (Rd.slice (Rd.int .u8)) true x1] ((Mem.nil.push (.cells 127 [.whole 1,.lit (.int .i64 x2)])).push (.row 5 (Rd.int .u8) x3)) (fun o M=>o=.ret (.tup [])∧M=((Mem.nil.push (.cells 127 [.whole 1,.lit (.int .i64 x4)])).push (.row 5 (Rd.int .u8) (x3++x1)))):=by
 unfold g_bits_Writer_Bytes__b at H;refine bo Tryz.func46 [] [] 24 fun cx hnp=>?_;(iterate 2 refine sp ?_);refine WPL.qq (q_neqp Tryz.underlying77 rfl) ?_;refine sp ?_;refine WP.condT rfl ?_;(iterate 7 refine sp ?_);obtain ⟨h1,H⟩:=grd H;refine WPL.d (d_append ap23 rfl rfl rfl rfl (src_bor sl23 Rd.flat_sc rfl) h1 rfl) rfl ?_;(iterate 11 refine sp ?_);obtain ⟨x5,h2,H⟩:=bnd H;refine sn (nm_int h2) ?_;(iterate 3 refine sp ?_);refine WPL.nilW ?_;have q0:=j1 H;subst q0;exact W.now (BodyR.mkN trivial rfl [0,2] ⟨rfl,rfl⟩ ⟨rfl,AA2,by decide,rfl,BB1⟩ rfl rfl)
theorem s_zip_central_1 (k:Nat) (x1:Int) (x2:Int) (x3:Int) (x4:Int) (x5:Int) (x6:ByteArray) (x7:Int) (x8:Int) (x9:(List Int)) (H:g_zip_central_1 k x1 x2 x3 x4 x5 x6 x7=some (x8,x9)):Go.Q.Spec Tryz.prog 45 2 [.agg [.ptr 0 0],.ptr 1 0] ((Mem.nil.push (.cells 127 [.lit (.slice none 0 0),.lit (.int .i64 x1)])).push (.cells 47 [.lit (.int .i64 x2),.lit (.int .i64 x3),.lit (.int .i64 x4),.lit (.int .i64 x5),.lit (.string x6),.lit (.int .i64 x7)])) (fun o M=>o=.ret (.tup [])∧M=(((Mem.nil.push (.cells 127 [.whole 2,.lit (.int .i64 x8)])).push (.cells 47 [.lit (.int .i64 x2),.lit (.int .i64 x3),.lit (.int .i64 x4),.lit (.int .i64 x5),.lit (.string x6),.lit (.int .i64 x7)])).push (.row 5 (Rd.int .u8) x9))):=by
 unfold g_zip_central_1 at H;refine bo Tryz.func45 [] [] 27 fun cx hnp=>?_;(iterate 6 refine sp ?_);refine WPL.d (d_buildSlice (ds:=([80,75,1,2]:List Int)) (R:=(Rd.int .u8)) li23 rfl rfl rfl rfl rfl (JoinRows.cons1 Joins.sc rfl (JoinRows.cons1 Joins.sc rfl (JoinRows.cons1 Joins.sc rfl (JoinRows.cons1 Joins.sc rfl JoinRows.nil)))) rfl rfl) rfl ?_;obtain ⟨x10,h1,H⟩:=bnd H;refine WPL.c (rc [0] [0,4] 5 [3] (s_bits_Writer_Bytes k ([80,75,1,2]:List Int) x1 x10 h1) (hargs:=.ren rfl rfl (.row rfl rfl .nil))) rfl ?_;(iterate 3 refine sp ?_);refine WPL.d (d_buildSlice (ds:=([20,20]:List Int)) (R:=(Rd.int .i64)) li61 rfl rfl rfl rfl rfl (JoinRows.cons1 Joins.sc rfl (JoinRows.cons1 Joins.sc rfl JoinRows.nil)) rfl rfl) rfl ?_;obtain ⟨⟨x11,x12⟩,h2,H⟩:=bnd H;refine WPL.c (rc [0,4] [0,6] 7 [5] (s_zip_writer_nums k 2 ([20,20]:List Int) x10 (([]:List Int)++([80,75,1,2]:List Int)) x11 x12 h2) (hargs:=.ren rfl rfl (.ren rfl rfl (.row rfl rfl .nil)))) rfl ?_;(iterate 4 refine sp ?_);obtain ⟨⟨x13,x14⟩,h3,H⟩:=bnd H;refine WPL.c (rc [0,6] [0,7] 8 [] (s_zip_writer_sums k x2 x3 x4 x5 x6 x7 x11 x12 x13 x14 h3)) rfl ?_;(iterate 3 refine sp ?_);refine WPL.d (d_buildSlice (ds:=([0,0,0,0]:List Int)) (R:=(Rd.int .i64)) li61 rfl rfl rfl rfl rfl (JoinRows.cons1 Joins.sc rfl (JoinRows.cons1 Joins.sc rfl (JoinRows.cons1 Joins.sc rfl (JoinRows.cons1 Joins.sc rfl JoinRows.nil)))) rfl rfl) rfl ?_;obtain ⟨⟨x15,x16⟩,h4,H⟩:=bnd H;refine WPL.c (rc [0,7] [0,9] 10 [8] (s_zip_writer_nums k 2 ([0,0,0,0]:List Int) x13 x14 x15 x16 h4) (hargs:=.ren rfl rfl (.ren rfl rfl (.row rfl rfl .nil)))) rfl ?_;(iterate 5 refine sp ?_);refine WPL.d (d_buildSlice (ds:=([0,x7]:List Int)) (R:=(Rd.int .i64)) li61 rfl rfl rfl rfl rfl (JoinRows.cons1 Joins.sc rfl (JoinRows.cons1 Joins.sc rfl JoinRows.nil)) rfl rfl) rfl ?_;obtain ⟨⟨x17,x18⟩,h5,H⟩:=bnd H;refine WPL.c (rc [0,9] [0,11] 12 [10] (s_zip_writer_nums k 4 ([0,x7]:List Int) x15 x16 x17 x18 h5) (hargs:=.ren rfl rfl (.ren rfl rfl (.row rfl rfl .nil)))) rfl ?_;(iterate 6 refine sp ?_);obtain ⟨h6,H⟩:=grd H;refine WPL.d (d_strBytes Tryz.underlying9 Tryz.underlying23 Tryz.underlying5 rfl h6 rfl) rfl ?_;obtain ⟨x19,h7,H⟩:=bnd H;refine WPL.c (rc [0,11] [0,13] 14 [12] (s_bits_Writer_Bytes__b k (strInts x6) x17 x18 x19 h7) (hargs:=.ren rfl rfl (.row rfl rfl .nil))) rfl ?_;refine WPL.nilW ?_;obtain ⟨rfl,rfl⟩:=j2 H;exact W.now (BodyR.mkN trivial rfl [0,1,13] ⟨rfl,rfl⟩ ⟨rfl,AA3,by decide,rfl,BB2⟩ rfl rfl)
theorem s_sc_Clone_byte_byte (k:Nat) (x1:List Int) (x2:List Int) (H:g_sc_Clone_byte_byte k x1=some x2):Go.Q.Spec Tryz.prog 99 0 [.ro (Rd.slice (Rd.int .u8)) true x1] Mem.nil (fun o M=>o=.ret (.ro (Rd.slice (Rd.int .u8)) false x2)∧M=Mem.nil):=by
  unfold g_sc_Clone_byte_byte at H;obtain ⟨h,H⟩:=grd H;have q0:=j1 H;subst q0;refine bo Tryz.func99 [] [.tmp 2] 8 fun cx hnp=>?_;(iterate 3 refine sp ?_);refine WP.seq ?_;(iterate 2 refine sp ?_);refine WPL.eqlNil Tryz.underlying23 rfl rfl fun nb hnb=>?_;refine sp ?_;refine WP.cond (t:=nb) rfl (fun hb=>?_) (fun hb=>?_)
  · have h1:=hnb hb;subst h1;(iterate 4 refine sp ?_);refine W.cv (Cv.nilRo (Rd.int .u8) false 2 rfl) rfl ?_;refine sp ?_;refine Then.r ?_;exact ⟨trivial,_,rfl,[],(.ro (Rd.slice (Rd.int .u8)) false ([]:List Int)),Mem.nil,⟨rfl,trivial,by decide,rfl,trivial⟩,rfl,rfl,rfl,rfl⟩
  · (iterate 4 refine sp ?_);refine WPL.d (d_buildSlice (ds:=([]:List Int)) (R:=(Rd.int .u8)) li23 rfl rfl rfl rfl rfl JoinRows.nil rfl rfl) rfl ?_;refine sp ?_;refine WPL.d (d_append ap23 rfl rfl rfl rfl (src_bor sl23 Rd.flat_sc rfl) h rfl) rfl ?_;(iterate 3 refine sp ?_);refine W.cv (Cv.frzRow (i:=1) rfl rfl hnp rfl rfl) rfl ?_;refine sp ?_;exact ⟨trivial,_,rfl,[],(.ro (Rd.slice (Rd.int .u8)) false x1),Mem.nil,⟨rfl,trivial,by decide,rfl,trivial⟩,rfl,rfl,rfl,rfl⟩
theorem s_bits_Writer_Done (k:Nat) (x1:Int) (x2:(List Int)) (x3:(List Int)) (H:g_bits_Writer_Done k x1 x2=some x3):Go.Q.Spec Tryz.prog 68 1 [.ptr 0 0] ((Mem.nil.push (.cells 127 [.whole 1,.lit (.int .i64 x1)])).push (.row 5 (Rd.int .u8) x2)) (fun o M=>o=.ret (.ro (Rd.slice (Rd.int .u8)) false x3)∧M=((Mem.nil.push (.cells 127 [.whole 1,.lit (.int .i64 x1)])).push (.row 5 (Rd.int .u8) x2))):=by
 unfold g_bits_Writer_Done at H;refine bo Tryz.func68 [] [.tmp 2] 10 fun cx hnp=>?_;(iterate 3 refine sp ?_);refine WP.seq ?_;(iterate 2 refine sp ?_);refine WPL.qq (q_eqlp Tryz.underlying77 rfl) ?_;refine sp ?_;refine WP.condF rfl ?_;(iterate 8 refine sp ?_);obtain ⟨x4,h1,H⟩:=bnd H;refine WPL.c (rc [] [] 2 [1] (s_sc_Clone_byte_byte k x2 x4 h1)) rfl ?_;(iterate 3 refine sp ?_);have q0:=j1 H;subst q0;exact W.now (mb [0,1])
theorem s_zip_bytes (k:Nat) (x1:Int) (x2:Int) (x3:Int) (x4:Int) (x5:ByteArray) (x6:Int) (x7:(List Int)) (H:g_zip_bytes k x1 x2 x3 x4 x5 x6=some x7):Go.Q.Spec Tryz.prog 44 1 [.fn 45 [.ptr 0 0]] (Mem.nil.push (.cells 47 [.lit (.int .i64 x1),.lit (.int .i64 x2),.lit (.int .i64 x3),.lit (.int .i64 x4),.lit (.string x5),.lit (.int .i64 x6)])) (fun o M=>o=.ret (.ro (Rd.slice (Rd.int .u8)) false x7)∧M=(Mem.nil.push (.cells 47 [.lit (.int .i64 x1),.lit (.int .i64 x2),.lit (.int .i64 x3),.lit (.int .i64 x4),.lit (.string x5),.lit (.int .i64 x6)]))):=by
 unfold g_zip_bytes at H;refine bo Tryz.func44 [] [.tmp 2] 12 fun cx hnp=>?_;(iterate 4 refine sp ?_);obtain ⟨_,h1,H⟩:=bnd H;refine WPL.c (rc [] [1] 2 [] (s_bits_NewWriter k h1)) rfl ?_;(iterate 7 refine sp ?_);obtain ⟨⟨x8,x9⟩,h2,H⟩:=bnd H;refine WPL.c (rc [1,0] [1,0,3] 4 [] (s_zip_central_1 k 0 x1 x2 x3 x4 x5 x6 x8 x9 h2)) rfl ?_;(iterate 4 refine sp ?_);obtain ⟨x10,h3,H⟩:=bnd H;refine WPL.c (rc [1,3] [1,4] 5 [] (s_bits_Writer_Done k x8 x9 x10 h3)) rfl ?_;(iterate 3 refine sp ?_);have q0:=j1 H;subst q0;exact W.now (mb [0])
theorem s_zip_central (k:Nat) (x1:Int) (x2:Int) (x3:Int) (x4:Int) (x5:ByteArray) (x6:Int) (x7:(List Int)) (H:g_zip_central k x1 x2 x3 x4 x5 x6=some x7):Go.Q.Spec Tryz.prog 22 0 [.agg [.lit (.int .i64 x1),.lit (.int .i64 x2),.lit (.int .i64 x3),.lit (.int .i64 x4),.lit (.string x5),.lit (.int .i64 x6)]] Mem.nil (fun o M=>o=.ret (.ro (Rd.slice (Rd.int .u8)) false x7)∧M=Mem.nil):=by
 unfold g_zip_central at H;refine bo Tryz.func22 [] [.tmp 2] 5 fun cx hnp=>?_;(iterate 5 refine sp ?_);refine WPL.qq (q_makeFunc) ?_;obtain ⟨x8,h1,H⟩:=bnd H;refine WPL.c (rc [0] [0] 1 [] (s_zip_bytes k x1 x2 x3 x4 x5 x6 x8 h1)) rfl ?_;(iterate 3 refine sp ?_);have q0:=j1 H;subst q0;exact W.now (mb [])
theorem s_zip_local_1 (k:Nat) (x1:Int) (x2:Int) (x3:Int) (x4:Int) (x5:Int) (x6:ByteArray) (x7:Int) (x8:Int) (x9:(List Int)) (H:g_zip_local_1 k x1 x2 x3 x4 x5 x6 x7=some (x8,x9)):Go.Q.Spec Tryz.prog 49 2 [.agg [.ptr 0 0],.ptr 1 0] ((Mem.nil.push (.cells 127 [.lit (.slice none 0 0),.lit (.int .i64 x1)])).push (.cells 47 [.lit (.int .i64 x2),.lit (.int .i64 x3),.lit (.int .i64 x4),.lit (.int .i64 x5),.lit (.string x6),.lit (.int .i64 x7)])) (fun o M=>o=.ret (.tup [])∧M=(((Mem.nil.push (.cells 127 [.whole 2,.lit (.int .i64 x8)])).push (.cells 47 [.lit (.int .i64 x2),.lit (.int .i64 x3),.lit (.int .i64 x4),.lit (.int .i64 x5),.lit (.string x6),.lit (.int .i64 x7)])).push (.row 5 (Rd.int .u8) x9))):=by
 unfold g_zip_local_1 at H;refine bo Tryz.func49 [] [] 22 fun cx hnp=>?_;(iterate 6 refine sp ?_);refine WPL.d (d_buildSlice (ds:=([80,75,3,4]:List Int)) (R:=(Rd.int .u8)) li23 rfl rfl rfl rfl rfl (JoinRows.cons1 Joins.sc rfl (JoinRows.cons1 Joins.sc rfl (JoinRows.cons1 Joins.sc rfl (JoinRows.cons1 Joins.sc rfl JoinRows.nil)))) rfl rfl) rfl ?_;obtain ⟨x10,h1,H⟩:=bnd H;refine WPL.c (rc [0] [0,4] 5 [3] (s_bits_Writer_Bytes k ([80,75,3,4]:List Int) x1 x10 h1) (hargs:=.ren rfl rfl (.row rfl rfl .nil))) rfl ?_;(iterate 3 refine sp ?_);refine WPL.d (d_buildSlice (ds:=([20]:List Int)) (R:=(Rd.int .i64)) li61 rfl rfl rfl rfl rfl (JoinRows.cons1 Joins.sc rfl JoinRows.nil) rfl rfl) rfl ?_;obtain ⟨⟨x11,x12⟩,h2,H⟩:=bnd H;refine WPL.c (rc [0,4] [0,6] 7 [5] (s_zip_writer_nums k 2 ([20]:List Int) x10 (([]:List Int)++([80,75,3,4]:List Int)) x11 x12 h2) (hargs:=.ren rfl rfl (.ren rfl rfl (.row rfl rfl .nil)))) rfl ?_;(iterate 4 refine sp ?_);obtain ⟨⟨x13,x14⟩,h3,H⟩:=bnd H;refine WPL.c (rc [0,6] [0,7] 8 [] (s_zip_writer_sums k x2 x3 x4 x5 x6 x7 x11 x12 x13 x14 h3)) rfl ?_;(iterate 3 refine sp ?_);refine WPL.d (d_buildSlice (ds:=([0]:List Int)) (R:=(Rd.int .i64)) li61 rfl rfl rfl rfl rfl (JoinRows.cons1 Joins.sc rfl JoinRows.nil) rfl rfl) rfl ?_;obtain ⟨⟨x15,x16⟩,h4,H⟩:=bnd H;refine WPL.c (rc [0,7] [0,9] 10 [8] (s_zip_writer_nums k 2 ([0]:List Int) x13 x14 x15 x16 h4) (hargs:=.ren rfl rfl (.ren rfl rfl (.row rfl rfl .nil)))) rfl ?_;(iterate 6 refine sp ?_);obtain ⟨h5,H⟩:=grd H;refine WPL.d (d_strBytes Tryz.underlying9 Tryz.underlying23 Tryz.underlying5 rfl h5 rfl) rfl ?_;obtain ⟨x17,h6,H⟩:=bnd H;refine WPL.c (rc [0,9] [0,11] 12 [10] (s_bits_Writer_Bytes__b k (strInts x6) x15 x16 x17 h6) (hargs:=.ren rfl rfl (.row rfl rfl .nil))) rfl ?_;refine WPL.nilW ?_;obtain ⟨rfl,rfl⟩:=j2 H;exact W.now (BodyR.mkN trivial rfl [0,1,11] ⟨rfl,rfl⟩ ⟨rfl,AA3,by decide,rfl,BB2⟩ rfl rfl)
theorem s_zip_bytes__b (k:Nat) (x1:Int) (x2:Int) (x3:Int) (x4:Int) (x5:ByteArray) (x6:Int) (x7:(List Int)) (H:g_zip_bytes__b k x1 x2 x3 x4 x5 x6=some x7):Go.Q.Spec Tryz.prog 44 1 [.fn 49 [.ptr 0 0]] (Mem.nil.push (.cells 47 [.lit (.int .i64 x1),.lit (.int .i64 x2),.lit (.int .i64 x3),.lit (.int .i64 x4),.lit (.string x5),.lit (.int .i64 x6)])) (fun o M=>o=.ret (.ro (Rd.slice (Rd.int .u8)) false x7)∧M=(Mem.nil.push (.cells 47 [.lit (.int .i64 x1),.lit (.int .i64 x2),.lit (.int .i64 x3),.lit (.int .i64 x4),.lit (.string x5),.lit (.int .i64 x6)]))):=by
 unfold g_zip_bytes__b at H;refine bo Tryz.func44 [] [.tmp 2] 12 fun cx hnp=>?_;(iterate 4 refine sp ?_);obtain ⟨_,h1,H⟩:=bnd H;refine WPL.c (rc [] [1] 2 [] (s_bits_NewWriter k h1)) rfl ?_;(iterate 7 refine sp ?_);obtain ⟨⟨x8,x9⟩,h2,H⟩:=bnd H;refine WPL.c (rc [1,0] [1,0,3] 4 [] (s_zip_local_1 k 0 x1 x2 x3 x4 x5 x6 x8 x9 h2)) rfl ?_;(iterate 4 refine sp ?_);obtain ⟨x10,h3,H⟩:=bnd H;refine WPL.c (rc [1,3] [1,4] 5 [] (s_bits_Writer_Done k x8 x9 x10 h3)) rfl ?_;(iterate 3 refine sp ?_);have q0:=j1 H;subst q0;exact W.now (mb [0])
theorem s_zip_local (k:Nat) (x1:Int) (x2:Int) (x3:Int) (x4:Int) (x5:ByteArray) (x6:Int) (x7:(List Int)) (H:g_zip_local k x1 x2 x3 x4 x5 x6=some x7):Go.Q.Spec Tryz.prog 23 0 [.agg [.lit (.int .i64 x1),.lit (.int .i64 x2),.lit (.int .i64 x3),.lit (.int .i64 x4),.lit (.string x5),.lit (.int .i64 x6)]] Mem.nil (fun o M=>o=.ret (.ro (Rd.slice (Rd.int .u8)) false x7)∧M=Mem.nil):=by
 unfold g_zip_local at H;refine bo Tryz.func23 [] [.tmp 2] 5 fun cx hnp=>?_;(iterate 5 refine sp ?_);refine WPL.qq (q_makeFunc) ?_;obtain ⟨x8,h1,H⟩:=bnd H;refine WPL.c (rc [0] [0] 1 [] (s_zip_bytes__b k x1 x2 x3 x4 x5 x6 x8 h1)) rfl ?_;(iterate 3 refine sp ?_);have q0:=j1 H;subst q0;exact W.now (mb [])
theorem s_zip_end_1 (k:Nat) (x1:Int) (x2:Int) (x3:Int) (x4:Int) (x5:Int) (x6:(List Int)) (H:g_zip_end_1 k x1 x2 x3 x4=some (x5,x6)):Go.Q.Spec Tryz.prog 50 4 [.agg [.ptr 0 0],.ptr 1 0,.ptr 2 0,.ptr 3 0] ((((Mem.nil.push (.cells 127 [.lit (.slice none 0 0),.lit (.int .i64 x1)])).push (.cells 3 [.lit (.int .i64 x2)])).push (.cells 3 [.lit (.int .i64 x3)])).push (.cells 3 [.lit (.int .i64 x4)])) (fun o M=>o=.ret (.tup [])∧M=(((((Mem.nil.push (.cells 127 [.whole 4,.lit (.int .i64 x5)])).push (.cells 3 [.lit (.int .i64 x2)])).push (.cells 3 [.lit (.int .i64 x3)])).push (.cells 3 [.lit (.int .i64 x4)])).push (.row 5 (Rd.int .u8) x6))):=by
 unfold g_zip_end_1 at H;refine bo Tryz.func50 [] [] 22 fun cx hnp=>?_;(iterate 6 refine sp ?_);refine WPL.d (d_buildSlice (ds:=([80,75,5,6]:List Int)) (R:=(Rd.int .u8)) li23 rfl rfl rfl rfl rfl (JoinRows.cons1 Joins.sc rfl (JoinRows.cons1 Joins.sc rfl (JoinRows.cons1 Joins.sc rfl (JoinRows.cons1 Joins.sc rfl JoinRows.nil)))) rfl rfl) rfl ?_;obtain ⟨x7,h1,H⟩:=bnd H;refine WPL.c (rc [0] [0,6] 7 [5] (s_bits_Writer_Bytes k ([80,75,5,6]:List Int) x1 x7 h1) (hargs:=.ren rfl rfl (.row rfl rfl .nil))) rfl ?_;(iterate 5 refine sp ?_);refine WPL.d (d_buildSlice (ds:=([0,0,x2,x2]:List Int)) (R:=(Rd.int .i64)) li61 rfl rfl rfl rfl rfl (JoinRows.cons1 Joins.sc rfl (JoinRows.cons1 Joins.sc rfl (JoinRows.cons1 Joins.sc rfl (JoinRows.cons1 Joins.sc rfl JoinRows.nil)))) rfl rfl) rfl ?_;obtain ⟨⟨x8,x9⟩,h2,H⟩:=bnd H;refine WPL.c (rc [0,6] [0,8] 9 [7] (s_zip_writer_nums k 2 ([0,0,x2,x2]:List Int) x7 (([]:List Int)++([80,75,5,6]:List Int)) x8 x9 h2) (hargs:=.ren rfl rfl (.ren rfl rfl (.row rfl rfl .nil)))) rfl ?_;(iterate 5 refine sp ?_);refine WPL.d (d_buildSlice (ds:=([x3,x4]:List Int)) (R:=(Rd.int .i64)) li61 rfl rfl rfl rfl rfl (JoinRows.cons1 Joins.sc rfl (JoinRows.cons1 Joins.sc rfl JoinRows.nil)) rfl rfl) rfl ?_;obtain ⟨⟨x10,x11⟩,h3,H⟩:=bnd H;refine WPL.c (rc [0,8] [0,10] 11 [9] (s_zip_writer_nums k 4 ([x3,x4]:List Int) x8 x9 x10 x11 h3) (hargs:=.ren rfl rfl (.ren rfl rfl (.row rfl rfl .nil)))) rfl ?_;(iterate 3 refine sp ?_);refine WPL.d (d_buildSlice (ds:=([0]:List Int)) (R:=(Rd.int .i64)) li61 rfl rfl rfl rfl rfl (JoinRows.cons1 Joins.sc rfl JoinRows.nil) rfl rfl) rfl ?_;obtain ⟨⟨x12,x13⟩,h4,H⟩:=bnd H;refine WPL.c (rc [0,10] [0,12] 13 [11] (s_zip_writer_nums k 2 ([0]:List Int) x10 x11 x12 x13 h4) (hargs:=.ren rfl rfl (.ren rfl rfl (.row rfl rfl .nil)))) rfl ?_;refine WPL.nilW ?_;obtain ⟨rfl,rfl⟩:=j2 H;exact W.now (BodyR.mkN trivial rfl [0,1,2,3,12] ⟨rfl,rfl⟩ ⟨rfl,AA5,by decide,rfl,BB4⟩ rfl rfl)
theorem s_zip_bytes__c (k:Nat) (x1:Int) (x2:Int) (x3:Int) (x4:(List Int)) (H:g_zip_bytes__c k x1 x2 x3=some x4):Go.Q.Spec Tryz.prog 44 3 [.fn 50 [.ptr 0 0,.ptr 1 0,.ptr 2 0]] (((Mem.nil.push (.cells 3 [.lit (.int .i64 x1)])).push (.cells 3 [.lit (.int .i64 x2)])).push (.cells 3 [.lit (.int .i64 x3)])) (fun o M=>o=.ret (.ro (Rd.slice (Rd.int .u8)) false x4)∧M=(((Mem.nil.push (.cells 3 [.lit (.int .i64 x1)])).push (.cells 3 [.lit (.int .i64 x2)])).push (.cells 3 [.lit (.int .i64 x3)]))):=by
 unfold g_zip_bytes__c at H;refine bo Tryz.func44 [] [.tmp 2] 12 fun cx hnp=>?_;(iterate 4 refine sp ?_);obtain ⟨_,h1,H⟩:=bnd H;refine WPL.c (rc [] [3] 4 [] (s_bits_NewWriter k h1)) rfl ?_;(iterate 7 refine sp ?_);obtain ⟨⟨x5,x6⟩,h2,H⟩:=bnd H;refine WPL.c (rc [3,0,1,2] [3,0,1,2,5] 6 [] (s_zip_end_1 k 0 x1 x2 x3 x5 x6 h2) (hargs:=.ren rfl rfl (.ren rfl rfl (.ren rfl rfl (.ren rfl rfl .nil))))) rfl ?_;(iterate 4 refine sp ?_);obtain ⟨x7,h3,H⟩:=bnd H;refine WPL.c (rc [3,5] [3,6] 7 [] (s_bits_Writer_Done k x5 x6 x7 h3)) rfl ?_;(iterate 3 refine sp ?_);have q0:=j1 H;subst q0;exact W.now (mb [0,1,2])
theorem s_zip_end (k:Nat) (x1:Int) (x2:Int) (x3:Int) (x4:(List Int)) (H:g_zip_end k x1 x2 x3=some x4):Go.Q.Spec Tryz.prog 24 0 [.lit (.int .i64 x1),.lit (.int .i64 x2),.lit (.int .i64 x3)] Mem.nil (fun o M=>o=.ret (.ro (Rd.slice (Rd.int .u8)) false x4)∧M=Mem.nil):=by
 unfold g_zip_end at H;refine bo Tryz.func24 [] [.tmp 6] 9 fun cx hnp=>?_;(iterate 7 refine sp ?_);refine WPL.qq (q_makeFunc) ?_;obtain ⟨x5,h1,H⟩:=bnd H;refine WPL.c (rc [0,1,2] [0,1,2] 3 [] (s_zip_bytes__c k x1 x2 x3 x5 h1)) rfl ?_;(iterate 3 refine sp ?_);have q0:=j1 H;subst q0;exact W.now (mb [])
theorem s_zip_Write (k:Nat) (x1:(List S_api_File)) (x2:Int) (x3:Int) (x4:(List Int)) (H:g_zip_Write k x1 x2=some (x3,x4)):Go.Q.Spec Tryz.prog 8 0 [.ro (Rd.slice rdS_api_File) false x1,.lit (.int .i64 x2)] Mem.nil (fun o M=>o=.ret (.tup [.whole 0,.lit (.int .i64 x3)])∧M=(Mem.nil.push (.row 5 (Rd.int .u8) x4))):=by
 unfold g_zip_Write at H;refine bo Tryz.func8 [] [.tmp 4,.tmp 5] 74 fun cx hnp=>?_;(iterate 4 refine sp ?_);refine WP.seq ?_;(iterate 3 refine sp ?_);obtain ⟨x5,h1,H⟩:=bnd H;refine WPL.c (rc [] [] 0 [] (s_zip_check k x1 x2 x5 h1)) rfl ?_;(iterate 6 refine sp ?_);refine cq H (fun hb1 H=>?_) fun hb1 H=>?_
 · (iterate 6 refine sp ?_);refine W.cv (Cv.vir 5 (Rd.int .u8) (N:=0) rfl 4 rfl) rfl ?_;obtain ⟨rfl,rfl⟩:=j2 H;exact W.now (Then.r (mb [0]))
 (iterate 7 refine sp ?_);refine WP.seq ?_;(iterate 6 refine sp ?_);refine WP.cv (Cv.vir 5 (Rd.int .u8) (N:=0) rfl 7 rfl) ?_;refine WP.cv (Cv.vir 5 (Rd.int .u8) (N:=1) rfl 8 rfl) ?_;refine WP.cv (Cv.weak (E':=(((((((Env.none.upd 0 (.ro (Rd.slice rdS_api_File) false x1)).upd 1 (.lit (.int .i64 x2))).upd 7 (.whole 0)).upd 8 (.whole 1)).upd 20 (.ro (Rd.slice rdS_api_File) false x1)).upd 21 (.lit (.int .i64 ((List.length x1:Nat):Int)))).upd 22 (.lit (.int .i64 0)))) (M':=((Mem.nil.push (.row 5 (Rd.int .u8) ([]:List Int))).push (.row 5 (Rd.int .u8) ([]:List Int)))) [0,1] hnp ⟨rfl,AA2,by decide,rfl,trivial⟩ (LeE.u (LeE.u (LeE.u (LeE.u (LeE.u (LeE.u (LeE.u (LeE.none rfl rfl))))))))) ?_;obtain ⟨⟨x6,x7⟩,H1,H⟩:=bnd H;refine mo (.exit 0) (((Env.none.upd 0 (.ro (Rd.slice rdS_api_File) false x1)).upd 7 (.whole 0)).upd 8 (.whole 1)) ((Mem.nil.push (.row 5 (Rd.int .u8) x6)).push (.row 5 (Rd.int .u8) x7)) ?_ ?_
 · refine WP.loop (β:=Int × (List Int) × (List Int)) (fun n b=>g_zip_Write_l0 k x1 x2 n b.1 b.2.1 b.2.2=some (x6,x7)) (fun b=>(((((((Env.none.upd 0 (.ro (Rd.slice rdS_api_File) false x1)).upd 1 (.lit (.int .i64 x2))).upd 7 (.whole 0)).upd 8 (.whole 1)).upd 20 (.ro (Rd.slice rdS_api_File) false x1)).upd 21 (.lit (.int .i64 ((List.length x1:Nat):Int)))).upd 22 (.lit (.int .i64 b.1)))) (fun b=>((Mem.nil.push (.row 5 (Rd.int .u8) b.2.1)).push (.row 5 (Rd.int .u8) b.2.2))) k (0,([]:List Int),([]:List Int)) H1 rfl rfl ?_;rintro n ⟨x8,x9,x10⟩ H;obtain _ | n:=n
   · exact nf rfl H
   rw [g_zip_Write_l0.eq_2] at H;show WP _ _ _ _ (((((((Env.none.upd 0 (.ro (Rd.slice rdS_api_File) false x1)).upd 1 (.lit (.int .i64 x2))).upd 7 (.whole 0)).upd 8 (.whole 1)).upd 20 (.ro (Rd.slice rdS_api_File) false x1)).upd 21 (.lit (.int .i64 ((List.length x1:Nat):Int)))).upd 22 (.lit (.int .i64 x8))) ((Mem.nil.push (.row 5 (Rd.int .u8) x9)).push (.row 5 (Rd.int .u8) x10)) _;refine sp ?_;obtain ⟨x11,h2,H⟩:=bnd H;refine sn (nm_bool h2) ?_;refine sp ?_;refine WP.seq ?_;refine cq H (fun hb2 H=>?_) fun hb2 H=>?_
   · (iterate 3 refine sp ?_);refine WP.seq ?_;(iterate 2 refine sp ?_);obtain ⟨x12,h3,H⟩:=bnd H;refine sp ?_;refine WPL.qq (q_load_roag ag41 rfl rfl S_api_File.sp) ?_;(iterate 8 refine sp ?_);refine WP.seq ?_;(iterate 4 refine sp ?_);refine cq H (fun hb3 H=>?_) fun hb3 H=>?_
     · (iterate 2 refine sp ?_);exact nf rfl H
     (iterate 3 refine sp ?_);refine WP.seq ?_;obtain ⟨x13,H2,H⟩:=bnd H;refine mo .normal (((((((((Env.none.upd 0 (.ro (Rd.slice rdS_api_File) false x1)).upd 1 (.lit (.int .i64 x2))).upd 7 (.whole 0)).upd 8 (.whole 1)).upd 11 (.ro (Rd.slice (Rd.int .u8)) false x12.fData)).upd 12 (.ptr 2 0)).upd 20 (.ro (Rd.slice rdS_api_File) false x1)).upd 21 (.lit (.int .i64 ((List.length x1:Nat):Int)))).upd 22 (.lit (.int .i64 x8))) (((Mem.nil.push (.row 5 (Rd.int .u8) x9)).push (.row 5 (Rd.int .u8) x10)).push (.cells 47 [.lit (.int .i64 x2),.lit (.int .i64 x13),.lit (.int .i64 ((List.length x12.fData:Nat):Int)),.lit (.int .i64 ((List.length x12.fData:Nat):Int)),.lit (.string x12.fName),.lit (.int .i64 ((List.length x9:Nat):Int))])) ?_ ?_
     · clear H;have H:=H2;clear H2;refine WP.regionD' 17 [2] [] mixed rfl ?_;refine dT 0 ?_;refine dT 1 ?_;refine dT 5 ?_;refine dT 6 ?_;refine dT 7 ?_;refine dT 10 ?_;refine dT 12 ?_;refine dT 13 ?_;refine dK 2 ?_;refine dK 8 ?_;refine dT 9 ?_;refine dK 11 ?_;refine WPD.of2 3 15 (by kernel_rfl) ?_ ?_
       · obtain ⟨x14,h4,H⟩:=bnd H;refine WPD1.eff 3 [2] [] rfl (rc [] [] 3 [] (s_bits_Crc k x12.fData x14 h4)) rfl rfl ?_;refine dT 4 ?_;refine dT 14 ?_;refine dE 15 [2] [] rfl (Does.runs (d_alloc ze47 rfl)) ?_;refine dS 16 [2] [] ?_;refine WPD.doneW (by kernel_rfl) ?_;have q0:=j1 H;subst q0;exact wq [0,1,3]
       refine WPD1.eff 15 [2] [] rfl (Does.runs (d_alloc ze47 rfl)) rfl rfl ?_;obtain ⟨x15,h5,H⟩:=bnd H;refine dE 3 [2] [] rfl (rc [] [] 4 [] (s_bits_Crc k x12.fData x15 h5)) ?_;refine dT 4 ?_;refine dT 14 ?_;refine dS 16 [2] [] ?_;refine WPD.doneW (by kernel_rfl) ?_;have q0:=j1 H;subst q0;exact wq [0,1,3]
     (iterate 5 refine sp ?_);obtain ⟨x16,h6,H⟩:=bnd H;refine WPL.c (rc [] [] 3 [] (s_zip_central k x2 x13 ((List.length x12.fData:Nat):Int) ((List.length x12.fData:Nat):Int) x12.fName ((List.length x9:Nat):Int) x16 h6)) rfl ?_;obtain ⟨h7,H⟩:=grd H;refine WPL.d (d_append ap23 rfl rfl rfl rfl (src_ro sl23 rfl) h7 rfl) rfl ?_;(iterate 5 refine sp ?_);obtain ⟨x17,h8,H⟩:=bnd H;refine WPL.c (rc [] [] 4 [] (s_zip_local k x2 x13 ((List.length x12.fData:Nat):Int) ((List.length x12.fData:Nat):Int) x12.fName ((List.length x9:Nat):Int) x17 h8)) rfl ?_;obtain ⟨h9,H⟩:=grd H;refine WPL.d (d_append ap23 rfl rfl rfl rfl (src_ro sl23 rfl) h9 rfl) rfl ?_;refine sp ?_;obtain ⟨h10,H⟩:=grd H;refine WPL.d (d_append ap23 rfl rfl rfl rfl (src_ro sl23 rfl) h10 rfl) rfl ?_;refine sp ?_;refine WPL.nilW ?_;refine sp ?_;refine InBlock.n ?_;(iterate 4 refine sp ?_);refine WPL.nilW ?_;exact wq [5,3] (Then.n ⟨n,((IntKind.wrap .i64 (x8+1)),((x9++x17)++x12.fData),(x10++x16)),Nat.lt_succ_self n,H,rfl,rfl⟩)
   refine sp ?_;obtain ⟨rfl,rfl⟩:=j2 H;exact wq [0,1] (Then.x (Then.x r3))
 (iterate 11 refine sp ?_);obtain ⟨h11,H⟩:=grd H;refine WPL.d (d_append ap23 rfl rfl rfl rfl (src_row sl23 rfl rfl) h11 rfl) rfl ?_;(iterate 9 refine sp ?_);obtain ⟨x18,h12,H⟩:=bnd H;refine WPL.c (rc [] [] 3 [] (s_zip_end k ((List.length x1:Nat):Int) ((List.length x7:Nat):Int) ((List.length x6:Nat):Int) x18 h12) (hargs:=.ren rfl rfl (.ren rfl rfl (.ren rfl rfl .nil)))) rfl ?_;obtain ⟨h13,H⟩:=grd H;refine WPL.d (d_append ap23 rfl rfl rfl rfl (src_ro sl23 rfl) h13 rfl) rfl ?_;(iterate 4 refine sp ?_);obtain ⟨rfl,rfl⟩:=j2 H;exact W.now (mb [3])
theorem s_zip_num (k:Nat) (x1:(List Int)) (x2:Int) (x3:Int) (x4:Int) (H:g_zip_num k x1 x2 x3=some x4):Go.Q.Spec Tryz.prog 55 0 [.ro (Rd.slice (Rd.int .u8)) true x1,.lit (.int .i64 x2),.lit (.int .i64 x3)] Mem.nil (fun o M=>o=.ret (.lit (.int .i64 x4))∧M=Mem.nil):=by
 unfold g_zip_num at H;refine bo Tryz.func55 [] [.tmp 6] 26 fun cx hnp=>?_;(iterate 6 refine sp ?_);refine WP.seq ?_;(iterate 6 refine sp ?_);refine WP.cv (Cv.weak (E':=((((Env.none.upd 0 (.ro (Rd.slice (Rd.int .u8)) true x1)).upd 1 (.lit (.int .i64 x2))).upd 7 (.lit (.int .i64 0))).upd 8 (.lit (.int .i64 (IntKind.wrap .i64 (x3 - 1)))))) (M':=Mem.nil) [] hnp ⟨rfl,trivial,by decide,rfl,trivial⟩ (LeE.u (LeE.u (LeE.u (LeE.u (LeE.none rfl rfl)))))) ?_;obtain ⟨x5,H1,H⟩:=bnd H;refine mo (.exit 0) (Env.none.upd 7 (.lit (.int .i64 x5))) Mem.nil ?_ ?_
 · refine WP.loop (β:=Int × Int) (fun n b=>g_zip_num_l0 k x1 x2 n b.1 b.2=some x5) (fun b=>((((Env.none.upd 0 (.ro (Rd.slice (Rd.int .u8)) true x1)).upd 1 (.lit (.int .i64 x2))).upd 7 (.lit (.int .i64 b.1))).upd 8 (.lit (.int .i64 b.2)))) (fun b=>Mem.nil) k (0,(IntKind.wrap .i64 (x3 - 1))) H1 rfl rfl ?_;rintro n ⟨x6,x7⟩ H;obtain _ | n:=n
   · exact nf rfl H
   rw [g_zip_num_l0.eq_2] at H;show WP _ _ _ _ ((((Env.none.upd 0 (.ro (Rd.slice (Rd.int .u8)) true x1)).upd 1 (.lit (.int .i64 x2))).upd 7 (.lit (.int .i64 x6))).upd 8 (.lit (.int .i64 x7))) Mem.nil _;refine WP.seq ?_;(iterate 4 refine sp ?_);refine cq H (fun hb1 H=>?_) fun hb1 H=>?_
   · (iterate 3 refine sp ?_);refine WP.seq ?_;(iterate 8 refine sp ?_);obtain ⟨x8,h1,H⟩:=bnd H;(iterate 3 refine sp ?_);obtain ⟨x9,h2,H⟩:=bnd H;refine sn (nm_int h2) ?_;refine sp ?_;refine WPL.nilW ?_;refine sp ?_;refine InBlock.n ?_;(iterate 5 refine sp ?_);refine WPL.nilW ?_;exact wq [] (Then.n ⟨n,(x9,(IntKind.wrap .i64 (x7 - 1))),Nat.lt_succ_self n,H,rfl,rfl⟩)
   refine sp ?_;have q0:=j1 H;subst q0;exact wq [] (Then.x (Then.x r3))
 (iterate 8 refine sp ?_);have q0:=j1 H;subst q0;exact W.now (mb [])
theorem s_sl_HasPrefix (k:Nat) (x1:ByteArray) (x2:ByteArray) (x3:Bool) (H:g_sl_HasPrefix k x1 x2=some x3):Go.Q.Spec Tryz.prog 88 0 [.lit (.string x1),.lit (.string x2)] Mem.nil (fun o M=>o=.ret (.lit (.bool x3))∧M=Mem.nil):=by
 unfold g_sl_HasPrefix at H;refine bo Tryz.func88 [] [.tmp 4] 18 fun cx hnp=>?_;(iterate 3 refine sp ?_);refine WP.seq ?_;obtain ⟨x4,H1,H⟩:=bnd H;refine mo .normal (Env.none.upd 4 (.lit (.bool x4))) Mem.nil ?_ ?_
 · clear H;have H:=H1;clear H1;(iterate 5 refine sp ?_);obtain ⟨x5,h1,H⟩:=bnd H;refine sn (nm_bool h1) ?_;refine sp ?_;refine ws 10 H (fun hb1 H=>?_) fun hb1 H=>?_
   · (iterate 3 refine sp ?_);obtain ⟨h2,H⟩:=grd H;obtain ⟨x6,h3,H⟩:=bnd H;refine WPL.gq rfl (lb hb1) (q_nm (q_slice_str (i:=0) (j:=((ByteArray.size x2:Nat):Int)) Tryz.underlying9 rfl rfl ⟨_,rfl⟩ h2) (nm_str h3)) ?_;(iterate 4 refine sp ?_);refine WPL.nilW ?_;have q0:=j1 H;subst q0;exact wq []
   (iterate 8 refine sp ?_);refine WPL.nilW ?_;have q0:=j1 H;subst q0;exact wq []
 (iterate 3 refine sp ?_);have q0:=j1 H;subst q0;exact W.now (mb [])
theorem s_st_HasPrefix (k:Nat) (x1:ByteArray) (x2:ByteArray) (x3:Bool) (H:g_st_HasPrefix k x1 x2=some x3):Go.Q.Spec Tryz.prog 59 0 [.lit (.string x1),.lit (.string x2)] Mem.nil (fun o M=>o=.ret (.lit (.bool x3))∧M=Mem.nil):=by
 unfold g_st_HasPrefix at H;refine bo Tryz.func59 [] [.tmp 4] 8 fun cx hnp=>?_;(iterate 6 refine sp ?_);obtain ⟨x4,h1,H⟩:=bnd H;refine WPL.c (rc [] [] 0 [] (s_sl_HasPrefix k x1 x2 x4 h1)) rfl ?_;(iterate 3 refine sp ?_);have q0:=j1 H;subst q0;exact W.now (mb [])
theorem s_zip_begins (k:Nat) (x1:(List Int)) (x2:(List Int)) (x3:Bool) (H:g_zip_begins k x1 x2=some x3):Go.Q.Spec Tryz.prog 32 0 [.ro (Rd.slice (Rd.int .u8)) true x1,.ro (Rd.slice (Rd.int .u8)) false x2] Mem.nil (fun o M=>o=.ret (.lit (.bool x3))∧M=Mem.nil):=by
 unfold g_zip_begins at H;refine bo Tryz.func32 [] [.tmp 4] 10 fun cx hnp=>?_;(iterate 5 refine sp ?_);refine WPL.qq (q_bytes_str Tryz.underlying23 Tryz.underlying5 Tryz.underlying9 rfl) ?_;refine sp ?_;refine WPL.qq (q_bytes_str Tryz.underlying23 Tryz.underlying5 Tryz.underlying9 rfl) ?_;obtain ⟨x4,h1,H⟩:=bnd H;refine WPL.c (rc [] [] 0 [] (s_st_HasPrefix k (strOf x1) (strOf x2) x4 h1)) rfl ?_;(iterate 3 refine sp ?_);have q0:=j1 H;subst q0;exact W.now (mb [])
theorem s_zip_entries (k:Nat) (x1:(List Int)) (x2:Int) (x3:Int) (H:g_zip_entries k x1 x2 x3=some ()):Go.Q.Spec Tryz.prog 56 1 [.ro (Rd.slice (Rd.int .u8)) true x1,.lit (.int .i64 x2),.ptr 0 0] (Mem.nil.push (.cells 3 [.lit (.int .i64 x3)])) (fun o M=>o=.ret (.fn 84 [.ptr 1 0,.ptr 2 0,.ptr 3 0])∧M=((((Mem.nil.push (.cells 3 [.lit (.int .i64 x3)])).push (.cells 3 [.lit (.int .i64 x2)])).push (.cells 23 [.ro (Rd.slice (Rd.int .u8)) true x1])).push (.cells 90 [.ptr 0 0]))):=by
 unfold g_zip_entries at H;refine bo Tryz.func56 [] [.tmp 6] 8 fun cx hnp=>?_;(iterate 7 refine sp ?_);refine WPL.qq (q_makeFunc) ?_;(iterate 3 refine sp ?_);exact W.now (mb [0,2,1,3])
theorem s_zip_directory (k:Nat) (x1:(List Int)) (x2:(List S_zip_entry)) (x3:Int) (x4:Int) (H:g_zip_directory k x1=some (x2,x3,x4)):Go.Q.Spec Tryz.prog 30 0 [.ro (Rd.slice (Rd.int .u8)) true x1] Mem.nil (fun o M=>o=.ret (.tup [.ro (Rd.slice rdS_zip_entry) false x2,.lit (.int .i64 x3),.lit (.int .i64 x4)])∧M=(((Mem.nil.push (.cells 56 [.ro (Rd.slice rdS_zip_entry) false x2])).push (.cells 3 [.lit (.int .i64 x3)])).push (.cells 24 [.lit (.int .i64 x4)]))):=by
 unfold g_zip_directory at H;refine Go.Q.Spec.of_bodyR (az:=[]) (rs:=[.cell 2 56,.cell 3 3,.cell 4 24]) (nt:=72) Tryz.func30 rfl rfl (by intro t T h;simp at h;rcases h with ⟨rfl,rfl⟩ | ⟨rfl,rfl⟩ | ⟨rfl,rfl⟩ <;> first | exact sc56 | exact sc3 | exact sc24) rfl rfl fun cx hnp=>?_
 (iterate 5 refine sp ?_);refine WP.seq ?_;(iterate 3 refine sp ?_);obtain ⟨x5,h1,H⟩:=bnd H;refine sn (nm_bool h1) ?_;refine sp ?_;refine cq H (fun hb1 H=>?_) fun hb1 H=>?_
 · (iterate 6 refine sp ?_);refine W.cv (Cv.nilRoC rdS_zip_entry false (i:=0) (off:=0) rfl rfl rfl) rfl ?_;obtain ⟨rfl,rfl,rfl⟩:=j3 H;exact W.now (Then.r (mb [0,1,2]))
 (iterate 3 refine sp ?_);refine WP.seq ?_;(iterate 3 refine sp ?_);obtain ⟨x6,h2,H⟩:=bnd H;refine sn (nm_bool h2) ?_;refine sp ?_;refine cq H (fun hb2 H=>?_) fun hb2 H=>?_
 · (iterate 6 refine sp ?_);refine W.cv (Cv.nilRoC rdS_zip_entry false (i:=0) (off:=0) rfl rfl rfl) rfl ?_;obtain ⟨rfl,rfl,rfl⟩:=j3 H;exact W.now (Then.r (mb [0,1,2]))
 (iterate 6 refine sp ?_);obtain ⟨x7,h3,H⟩:=bnd H;refine sn (nm_int h3) ?_;(iterate 6 refine sp ?_);obtain ⟨x8,h3,H⟩:=bnd H;refine WPL.c (rc [] [] 3 [] (s_zip_num k x1 (IntKind.wrap .i64 (x7+8)) 2 x8 h3) (hargs:=.ren rfl rfl (.ren rfl rfl (.ren rfl rfl .nil)))) rfl ?_;(iterate 3 refine sp ?_);obtain ⟨x9,h4,H⟩:=bnd H;refine WPL.c (rc [] [] 3 [] (s_zip_num k x1 (IntKind.wrap .i64 (x7+12)) 4 x9 h4) (hargs:=.ren rfl rfl (.ren rfl rfl (.ren rfl rfl .nil)))) rfl ?_;(iterate 3 refine sp ?_);obtain ⟨x10,h5,H⟩:=bnd H;refine WPL.c (rc [] [] 3 [] (s_zip_num k x1 (IntKind.wrap .i64 (x7+16)) 4 x10 h5) (hargs:=.ren rfl rfl (.ren rfl rfl (.ren rfl rfl .nil)))) rfl ?_;(iterate 4 refine sp ?_);refine WP.seq ?_;refine WP.seq ?_;obtain ⟨x11,H1,H⟩:=bnd H;refine mo .normal ((((((((Env.none.upd 0 (.ro (Rd.slice (Rd.int .u8)) true x1)).upd 2 (.ptr 0 0)).upd 3 (.ptr 1 0)).upd 4 (.ptr 2 0)).upd 5 (.lit (.int .i64 x7))).upd 6 (.lit (.int .i64 x8))).upd 8 (.lit (.int .i64 x10))).upd 53 (.lit (.bool x11))) (((Mem.nil.push (.cells 56 [.lit (.slice none 0 0)])).push (.cells 3 [.lit (.int .i64 0)])).push (.cells 24 [.lit (.int .i64 0)])) ?_ ?_
 · clear H;have H:=H1;clear H1;refine WP.regionD' 20 [] [] mixed rfl ?_;refine dT 0 ?_;refine dT 1 ?_;obtain ⟨h6,H⟩:=grd H;refine WPD.tT 2 rfl (q_slice_ro (i:=x7) (j:=((List.length x1:Nat):Int)) sl23 rfl rfl ⟨_,rfl⟩ rfl h6) ?_;refine dT 3 ?_;refine dT 4 ?_;refine dT 5 ?_;obtain ⟨x12,h7,H⟩:=bnd H;refine dE 6 [] [] rfl (rc [] [] 3 [] (s_zip_end k x8 x9 x10 x12 h7) (hargs:=.ren rfl rfl (.ren rfl rfl (.ren rfl rfl .nil)))) ?_;obtain ⟨x13,h8,H⟩:=bnd H;refine dE 7 [] [] rfl (rc [] [] 3 [] (s_zip_begins k (List.drop (Int.toNat x7) (List.take (Int.toNat ((List.length x1:Nat):Int)) x1)) x12 x13 h8)) ?_;refine dT 8 ?_;refine dT 9 ?_;refine ds 43 H (fun hb3 H=>?_) fun hb3 H=>?_
   · refine dP true 10 ?_;refine dP true 11 ?_;refine dT 12 ?_;refine dT 13 ?_;refine dP true 14 ?_;refine dP true 15 ?_;refine dP true 16 ?_;refine dP true 17 ?_;refine dP true 18 ?_;refine dT 19 ?_;refine WPD.doneW (by kernel_rfl) ?_;have q0:=j1 H;subst q0;exact wq [0,1,2]
   refine dG 10 ?_;refine dG 11 ?_;refine dT 12 ?_;refine dT 13 ?_;refine ds 47 H (fun hb4 H=>?_) fun hb4 H=>?_
   · refine dP true 14 ?_;refine dP true 15 ?_;refine dP true 16 ?_;refine dP true 17 ?_;refine dP true 18 ?_;refine dT 19 ?_;refine WPD.doneW (by kernel_rfl) ?_;have q0:=j1 H;subst q0;exact wq [0,1,2]
   refine dG 14 ?_;refine dG 15 ?_;refine dG 16 ?_;refine dG 17 ?_;obtain ⟨x14,h9,H⟩:=bnd H;refine dG 18 ?_ rfl rfl gv (q_nm aq (nm_bool h9));refine dT 19 ?_;refine WPD.doneW (by kernel_rfl) ?_;have q0:=j1 H;subst q0;exact wq [0,1,2]
 (iterate 2 refine sp ?_);refine cq H (fun hb5 H=>?_) fun hb5 H=>?_
 · (iterate 6 refine sp ?_);refine W.cv (Cv.nilRoC rdS_zip_entry false (i:=0) (off:=0) rfl rfl rfl) rfl ?_;obtain ⟨rfl,rfl,rfl⟩:=j3 H;exact W.now (Then.r (mb [0,1,2]))
 (iterate 10 refine sp ?_);refine WP.seq ?_;(iterate 4 refine sp ?_);obtain ⟨h10,H⟩:=grd H;refine WPL.qq (q_slice_ro (i:=x10) (j:=x7) sl23 rfl rfl ⟨_,rfl⟩ ⟨_,rfl⟩ h10) ?_;refine sp ?_;obtain ⟨_,h11,H⟩:=bnd H;refine WPL.c (rc [4] [4,5,6,7] 8 [] (s_zip_entries k (List.drop (Int.toNat x10) (List.take (Int.toNat x7) x1)) x8 (-1) h11) (hargs:=.ren rfl rfl (.ren rfl rfl (.ren rfl rfl .nil)))) rfl ?_;(iterate 2 refine sp ?_);refine WP.cv (Cv.nullMark (N:=8) rfl rfl) ?_;refine WP.range (nti:=58) (n:=9) rfl rfl Tryz.func84 rfl (by kernel_rfl) rfl rfl rfl rfl fun l_1 r_1 aC1 hp1 ha1 hb6 ht1 hs1 hf1=>?_;refine WP.seq ?_;(iterate 5 refine sp ?_);refine WP.cv (Cv.virC 47 rdS_zip_entry (N:=11) rfl rfl (i:=3) (off:=0) rfl rfl) ?_;refine WP.cv (Cv.weak (E':=((((((⟨fun _=>.any,[],[⟨aC1,((((((((Env.none.upd 2 (.ptr 3 0)).upd 3 (.ptr 4 0)).upd 4 (.ptr 5 0)).upd 8 (.lit (.int .i64 x10))).upd 9 (.ptr 6 0)).upd 10 (.ptr 2 0)).upd 59 (.fn 84 [.ptr 8 0,.ptr 0 0,.ptr 1 0]))).v,[9,10],some (11,l_1)⟩],[]⟩:Env).upd 0 (.lit (.func (.yield l_1) #[] #[]))).upd 2 (.ptr 0 0)).upd 3 (.ptr 1 0)).upd 7 (.lit (.int .i64 x8))).upd 8 (.lit (.int .i64 0)))) (M':=((((((((((((Mem.nil.push (.cells 23 [.ro (Rd.slice (Rd.int .u8)) true (List.drop (Int.toNat x10) (List.take (Int.toNat x7) x1))])).push (.cells 90 [.ptr 2 0])).push (.cells 3 [.lit (.int .i64 (-1))])).push (.cells 56 [.lit (.slice none 0 0)])).push (.cells 3 [.lit (.int .i64 0)])).push (.cells 24 [.lit (.int .i64 0)])).push (.cells 56 [.whole 7])).push (.row 47 rdS_zip_entry ([]:List S_zip_entry))).push (.cells 3 [.lit (.int .i64 x8)])).push (.obj (Obj.deferred (some [])))).push (.bag)).push (.obj (lp r_1 .ready none)))) [6,7,4,0,1,2,3,11,5,9,8,10] hnp ⟨rfl,⟨⟨AA10,o3⟩,o3⟩,by decide,rfl,trivial⟩ (LeE.u (LeE.u (LeE.u (LeE.u (LeE.u (LeE.noneD rfl rfl (.cons ⟨rfl,(LeV.upd rfl rfl (LeV.upd rfl rfl (LeV.upd rfl rfl (LeV.upd rfl rfl (LeV.upd rfl rfl (LeV.upd rfl rfl (LeV.upd rfl rfl LeV.none))))))),rfl,rfl,rfl,rfl⟩ .nil)))))))) ?_;obtain ⟨y1,H2,H⟩:=bnd H;refine WP.monoW (Q:=fun x E M=>match (generalizing:=false) y1 with | (Sum.inl (x15,x16))=>x=.ret∧E=(⟨fun _=>.any,[],[⟨aC1,((((((((Env.none.upd 2 (.ptr 0 0)).upd 3 (.ptr 1 0)).upd 4 (.ptr 2 0)).upd 8 (.lit (.int .i64 x10))).upd 9 (.ptr 3 0)).upd 10 (.ptr 5 0)).upd 59 (.fn 84 [.ptr 6 0,.ptr 7 0,.ptr 8 0]))).v,[9,10],some (11,l_1)⟩],[]⟩:Env)∧M=((((((((((((Mem.nil.push (.cells 56 [.lit (.slice none 0 0)])).push (.cells 3 [.lit (.int .i64 0)])).push (.cells 24 [.lit (.int .i64 14)])).push (.cells 56 [.whole 4])).push (.row 47 rdS_zip_entry x15)).push (.cells 3 [.lit (.int .i64 (-1))])).push (.cells 3 [.lit (.int .i64 x8)])).push (.cells 23 [.ro (Rd.slice (Rd.int .u8)) true x16])).push (.cells 90 [.ptr 5 0])).push (.obj (Obj.deferred (some [])))).push (.bag)).push (.obj (lp r_1 .done (some .ret)))) | (Sum.inr (x17,x18))=>x=.exit 0∧E=(((⟨fun _=>.any,[],[⟨aC1,((((((((Env.none.upd 2 (.ptr 3 0)).upd 3 (.ptr 4 0)).upd 4 (.ptr 5 0)).upd 8 (.lit (.int .i64 x10))).upd 9 (.ptr 6 0)).upd 10 (.ptr 2 0)).upd 59 (.fn 84 [.ptr 8 0,.ptr 0 0,.ptr 1 0]))).v,[9,10],some (11,l_1)⟩],[]⟩:Env).upd 2 (.ptr 0 0)).upd 3 (.ptr 1 0))∧M=((((((((((((Mem.nil.push (.cells 23 [.ro (Rd.slice (Rd.int .u8)) true x17])).push (.cells 90 [.ptr 2 0])).push (.cells 3 [.lit (.int .i64 (-1))])).push (.cells 56 [.lit (.slice none 0 0)])).push (.cells 3 [.lit (.int .i64 0)])).push (.cells 24 [.lit (.int .i64 0)])).push (.cells 56 [.whole 7])).push (.row 47 rdS_zip_entry x18)).push (.cells 3 [.lit (.int .i64 x8)])).push (.obj (Obj.deferred (some [])))).push (.bag)).push (.obj (lp r_1 .ready none)))) ?_ ?_
 · refine WP.loop (β:=Int × (List Int) × (List S_zip_entry)) (fun n b=>g_zip_directory_l0 k x8 n b.1 b.2.1 b.2.2=some y1) (fun b=>((((((⟨fun _=>.any,[],[⟨aC1,((((((((Env.none.upd 2 (.ptr 3 0)).upd 3 (.ptr 4 0)).upd 4 (.ptr 5 0)).upd 8 (.lit (.int .i64 x10))).upd 9 (.ptr 6 0)).upd 10 (.ptr 2 0)).upd 59 (.fn 84 [.ptr 8 0,.ptr 0 0,.ptr 1 0]))).v,[9,10],some (11,l_1)⟩],[]⟩:Env).upd 0 (.lit (.func (.yield l_1) #[] #[]))).upd 2 (.ptr 0 0)).upd 3 (.ptr 1 0)).upd 7 (.lit (.int .i64 x8))).upd 8 (.lit (.int .i64 b.1)))) (fun b=>((((((((((((Mem.nil.push (.cells 23 [.ro (Rd.slice (Rd.int .u8)) true b.2.1])).push (.cells 90 [.ptr 2 0])).push (.cells 3 [.lit (.int .i64 (-1))])).push (.cells 56 [.lit (.slice none 0 0)])).push (.cells 3 [.lit (.int .i64 0)])).push (.cells 24 [.lit (.int .i64 0)])).push (.cells 56 [.whole 7])).push (.row 47 rdS_zip_entry b.2.2)).push (.cells 3 [.lit (.int .i64 x8)])).push (.obj (Obj.deferred (some [])))).push (.bag)).push (.obj (lp r_1 .ready none)))) k (0,(List.drop (Int.toNat x10) (List.take (Int.toNat x7) x1)),([]:List S_zip_entry)) H2 rfl rfl ?_;rintro n ⟨x19,x20,x21⟩ H;obtain _ | n:=n
   · exact nf rfl H
   rw [g_zip_directory_l0.eq_2] at H;show WP _ _ _ _ ((((((⟨fun _=>.any,[],[⟨aC1,((((((((Env.none.upd 2 (.ptr 3 0)).upd 3 (.ptr 4 0)).upd 4 (.ptr 5 0)).upd 8 (.lit (.int .i64 x10))).upd 9 (.ptr 6 0)).upd 10 (.ptr 2 0)).upd 59 (.fn 84 [.ptr 8 0,.ptr 0 0,.ptr 1 0]))).v,[9,10],some (11,l_1)⟩],[]⟩:Env).upd 0 (.lit (.func (.yield l_1) #[] #[]))).upd 2 (.ptr 0 0)).upd 3 (.ptr 1 0)).upd 7 (.lit (.int .i64 x8))).upd 8 (.lit (.int .i64 x19))) ((((((((((((Mem.nil.push (.cells 23 [.ro (Rd.slice (Rd.int .u8)) true x20])).push (.cells 90 [.ptr 2 0])).push (.cells 3 [.lit (.int .i64 (-1))])).push (.cells 56 [.lit (.slice none 0 0)])).push (.cells 3 [.lit (.int .i64 0)])).push (.cells 24 [.lit (.int .i64 0)])).push (.cells 56 [.whole 7])).push (.row 47 rdS_zip_entry x21)).push (.cells 3 [.lit (.int .i64 x8)])).push (.obj (Obj.deferred (some [])))).push (.bag)).push (.obj (lp r_1 .ready none))) _;(iterate 3 refine sp ?_);refine WP.seq ?_;refine cq H (fun hb7 H=>?_) fun hb7 H=>?_
   · (iterate 3 refine sp ?_);refine WP.seq ?_;refine sp ?_;refine WP.seq ?_;refine WP.seq ?_;obtain ⟨x22,H3,H⟩:=bnd H;refine mo .normal (((((((⟨fun _=>.any,[],[⟨aC1,((((((((Env.none.upd 2 (.ptr 3 0)).upd 3 (.ptr 4 0)).upd 4 (.ptr 5 0)).upd 8 (.lit (.int .i64 x10))).upd 9 (.ptr 6 0)).upd 10 (.ptr 2 0)).upd 59 (.fn 84 [.ptr 8 0,.ptr 0 0,.ptr 1 0]))).v,[9,10],some (11,l_1)⟩],[]⟩:Env).upd 0 (.lit (.func (.yield l_1) #[] #[]))).upd 2 (.ptr 0 0)).upd 3 (.ptr 1 0)).upd 7 (.lit (.int .i64 x8))).upd 8 (.lit (.int .i64 x19))).upd 20 (.lit (.bool x22))) ((((((((((((Mem.nil.push (.cells 23 [.ro (Rd.slice (Rd.int .u8)) true x20])).push (.cells 90 [.ptr 2 0])).push (.cells 3 [.lit (.int .i64 (-1))])).push (.cells 56 [.lit (.slice none 0 0)])).push (.cells 3 [.lit (.int .i64 0)])).push (.cells 24 [.lit (.int .i64 0)])).push (.cells 56 [.whole 7])).push (.row 47 rdS_zip_entry x21)).push (.cells 3 [.lit (.int .i64 x8)])).push (.obj (Obj.deferred (some [])))).push (.bag)).push (.obj (lp r_1 .ready none))) ?_ ?_
     · clear H;have H:=H3;clear H3;refine WP.regionD' 11 [0] [] mixed rfl ?_;refine dK 0 ?_;refine dT 1 ?_;obtain ⟨x23,h12,H⟩:=bnd H;refine dT 2 ?_ rfl (q_nm aq (nm_bool h12));refine dT 3 ?_;refine ds 13 H (fun hb8 H=>?_) fun hb8 H=>?_
       · refine dP true 4 ?_;refine dP true 5 ?_;refine dP true 6 ?_;refine dP true 7 ?_;refine dP true 8 ?_;refine dP true 9 ?_;refine dT 10 ?_;refine WPD.doneW (by kernel_rfl) ?_;have q0:=j1 H;subst q0;exact W.wk [0,1,2,3,4,5,6,7,8,9,10,11] hnp r3 ⟨rfl,⟨⟨AA10,o3⟩,o3⟩,by decide,rfl,trivial⟩ (LeE.u (LeE.u (LeE.u (LeE.u (LeE.u (LeE.u (LeE.noneD rfl rfl (.cons ⟨rfl,(LeV.upd rfl rfl (LeV.upd rfl rfl (LeV.upd rfl rfl (LeV.upd rfl rfl (LeV.upd rfl rfl (LeV.upd rfl rfl (LeV.upd rfl rfl LeV.none))))))),rfl,rfl,rfl,rfl⟩ .nil)))))))) rfl
       refine dH 4 ?_;refine dG 5 ?_;refine dH 6 ?_;obtain ⟨x24,h13,H⟩:=bnd H;refine dF 7 [0] [] rfl (rc [] [] 12 [] (s_zip_num k x20 28 2 x24 h13) (hargs:=.ren rfl rfl (.ren rfl rfl (.ren rfl rfl .nil)))) ?_;refine dG 8 ?_;obtain ⟨x25,h14,H⟩:=bnd H;refine dG 9 ?_ rfl rfl gv (q_nm aq (nm_bool h14));refine dT 10 ?_;refine WPD.doneW (by kernel_rfl) ?_;have q0:=j1 H;subst q0;exact W.wk [0,1,2,3,4,5,6,7,8,9,10,11] hnp r3 ⟨rfl,⟨⟨AA10,o3⟩,o3⟩,by decide,rfl,trivial⟩ (LeE.u (LeE.u (LeE.u (LeE.u (LeE.u (LeE.u (LeE.noneD rfl rfl (.cons ⟨rfl,(LeV.upd rfl rfl (LeV.upd rfl rfl (LeV.upd rfl rfl (LeV.upd rfl rfl (LeV.upd rfl rfl (LeV.upd rfl rfl (LeV.upd rfl rfl LeV.none))))))),rfl,rfl,rfl,rfl⟩ .nil)))))))) rfl
     (iterate 2 refine sp ?_);refine cq H (fun hb9 H=>?_) fun hb9 H=>?_
     · (iterate 3 refine sp ?_);refine WPL.y rfl rfl rfl rfl hp1 ha1 hb6 ht1 hs1 hf1 rfl rfl rfl fun aI1=>?_;(iterate 6 refine sp ?_);refine WPL.nilW ?_;refine sp ?_;refine ⟨rfl,rfl,_,_,_,_,_,_,rfl,rfl,?_⟩;refine sp ?_;refine WP.seq ?_;(iterate 4 refine sp ?_);refine WP.condTB (t:=(!false)) rfl rfl ?_;(iterate 7 refine sp ?_);refine Then.r ?_;refine InBlock.r ?_;refine ⟨rfl,_,_,_,_,_,_,rfl,rfl,_,rfl,?_⟩;(iterate 2 refine sp ?_);have q0:=j1 H;subst q0;exact W.wk [3,4,5,6,7,2,8,0,1,9,10,11] hnp (Then.r (InBlock.r (Then.r (Then.r r3)))) ⟨rfl,⟨⟨AA10,o3⟩,o3⟩,by decide,rfl,trivial⟩ (LeE.noneD rfl rfl (.cons ⟨rfl,(LeV.upd rfl rfl (LeV.upd rfl rfl (LeV.upd rfl rfl (LeV.upd rfl rfl (LeV.upd rfl rfl (LeV.upd rfl rfl (LeV.upd rfl rfl LeV.none))))))),rfl,rfl,rfl,rfl⟩ .nil)) rfl
     (iterate 5 refine sp ?_);obtain ⟨x26,h15,H⟩:=bnd H;refine WPL.c (rc [] [] 12 [] (s_zip_num k x20 28 2 x26 h15) (hargs:=.ren rfl rfl (.ren rfl rfl (.ren rfl rfl .nil)))) rfl ?_;(iterate 3 refine sp ?_);refine WP.seq ?_;obtain ⟨⟨x27,x28,x29,x30,x31⟩,H4,H⟩:=bnd H;refine mo .normal ((((((((⟨fun _=>.any,[],[⟨aC1,((((((((Env.none.upd 2 (.ptr 4 0)).upd 3 (.ptr 5 0)).upd 4 (.ptr 6 0)).upd 8 (.lit (.int .i64 x10))).upd 9 (.ptr 7 0)).upd 10 (.ptr 2 0)).upd 59 (.fn 84 [.ptr 9 0,.ptr 0 0,.ptr 1 0]))).v,[10,11],some (12,l_1)⟩],[]⟩:Env).upd 0 (.lit (.func (.yield l_1) #[] #[]))).upd 2 (.ptr 0 0)).upd 3 (.ptr 1 0)).upd 5 (.lit (.int .i64 (IntKind.wrap .i64 (46+x26))))).upd 6 (.ptr 3 0)).upd 7 (.lit (.int .i64 x8))).upd 8 (.lit (.int .i64 x19))) (((((((((((((Mem.nil.push (.cells 23 [.ro (Rd.slice (Rd.int .u8)) true x20])).push (.cells 90 [.ptr 2 0])).push (.cells 3 [.lit (.int .i64 (-1))])).push (.cells 47 [.lit (.int .i64 x27),.lit (.int .i64 x28),.lit (.int .i64 x29),.lit (.int .i64 x30),.lit (.string (strOf (List.drop (Int.toNat 46) (List.take (Int.toNat (IntKind.wrap .i64 (46+x26))) x20)))),.lit (.int .i64 x31)])).push (.cells 56 [.lit (.slice none 0 0)])).push (.cells 3 [.lit (.int .i64 0)])).push (.cells 24 [.lit (.int .i64 0)])).push (.cells 56 [.whole 8])).push (.row 47 rdS_zip_entry x21)).push (.cells 3 [.lit (.int .i64 x8)])).push (.obj (Obj.deferred (some [])))).push (.bag)).push (.obj (lp r_1 .ready none))) ?_ ?_
     · clear H;have H:=H4;clear H4;refine WP.regionD' 17 [0] [] mixed rfl ?_;refine dT 9 ?_;refine dK 0 ?_;refine dK 2 ?_;refine dK 4 ?_;refine dK 6 ?_;refine dK 8 ?_;obtain ⟨h16,H⟩:=grd H;refine WPD.tT 10 rfl (q_slice_ro (i:=46) (j:=(IntKind.wrap .i64 (46+x26))) sl23 rfl rfl ⟨_,rfl⟩ ⟨_,rfl⟩ h16) ?_;refine WPD.tT 11 rfl (q_bytes_str Tryz.underlying23 Tryz.underlying5 Tryz.underlying9 rfl) ?_;refine dK 12 ?_;refine WPD.of2 1 15 (by kernel_rfl) ?_ ?_
       · obtain ⟨x32,h17,H⟩:=bnd H;refine WPD1.eff 1 [0] [] rfl (rc [] [] 12 [] (s_zip_num k x20 10 2 x32 h17) (hargs:=.ren rfl rfl (.ren rfl rfl (.ren rfl rfl .nil)))) rfl rfl ?_;refine WPD.of2 3 15 (by kernel_rfl) ?_ ?_
         · obtain ⟨x33,h18,H⟩:=bnd H;refine WPD1.eff 3 [0] [] rfl (rc [] [] 12 [] (s_zip_num k x20 16 4 x33 h18) (hargs:=.ren rfl rfl (.ren rfl rfl (.ren rfl rfl .nil)))) rfl rfl ?_;refine WPD.of2 5 15 (by kernel_rfl) ?_ ?_
           · obtain ⟨x34,h19,H⟩:=bnd H;refine WPD1.eff 5 [0] [] rfl (rc [] [] 12 [] (s_zip_num k x20 20 4 x34 h19) (hargs:=.ren rfl rfl (.ren rfl rfl (.ren rfl rfl .nil)))) rfl rfl ?_;refine WPD.of2 7 15 (by kernel_rfl) ?_ ?_
             · obtain ⟨x35,h20,H⟩:=bnd H;refine WPD1.eff 7 [0] [] rfl (rc [] [] 12 [] (s_zip_num k x20 24 4 x35 h20) (hargs:=.ren rfl rfl (.ren rfl rfl (.ren rfl rfl .nil)))) rfl rfl ?_;refine WPD.of2 13 15 (by kernel_rfl) ?_ ?_
               · obtain ⟨x36,h21,H⟩:=bnd H;refine WPD1.eff 13 [0] [] rfl (rc [] [] 12 [] (s_zip_num k x20 42 4 x36 h21) (hargs:=.ren rfl rfl (.ren rfl rfl (.ren rfl rfl .nil)))) rfl rfl ?_;refine dT 14 ?_;refine dE 15 [0] [] rfl (Does.runs (d_alloc ze47 rfl)) ?_;refine dS 16 [0] [] ?_;refine WPD.doneW (by kernel_rfl) ?_;obtain ⟨rfl,rfl,rfl,rfl,rfl⟩:=j5 H;exact W.wk [0,1,2,12,3,4,5,6,7,8,9,10,11] hnp r3 ⟨rfl,⟨⟨⟨AA10,o3⟩,o3⟩,o3⟩,by decide,rfl,trivial⟩ (LeE.u (LeE.u (LeE.u (LeE.u (LeE.u (LeE.u (LeE.u (LeE.noneD rfl rfl (.cons ⟨rfl,(LeV.upd rfl rfl (LeV.upd rfl rfl (LeV.upd rfl rfl (LeV.upd rfl rfl (LeV.upd rfl rfl (LeV.upd rfl rfl (LeV.upd rfl rfl LeV.none))))))),rfl,rfl,rfl,rfl⟩ .nil))))))))) rfl
               refine WPD1.eff 15 [0] [] rfl (Does.runs (d_alloc ze47 rfl)) rfl rfl ?_;obtain ⟨x37,h22,H⟩:=bnd H;refine dE 13 [0] [] rfl (rc [] [] 13 [] (s_zip_num k x20 42 4 x37 h22) (hargs:=.ren rfl rfl (.ren rfl rfl (.ren rfl rfl .nil)))) ?_;refine dT 14 ?_;refine dS 16 [0] [] ?_;refine WPD.doneW (by kernel_rfl) ?_;obtain ⟨rfl,rfl,rfl,rfl,rfl⟩:=j5 H;exact W.wk [0,1,2,12,3,4,5,6,7,8,9,10,11] hnp r3 ⟨rfl,⟨⟨⟨AA10,o3⟩,o3⟩,o3⟩,by decide,rfl,trivial⟩ (LeE.u (LeE.u (LeE.u (LeE.u (LeE.u (LeE.u (LeE.u (LeE.noneD rfl rfl (.cons ⟨rfl,(LeV.upd rfl rfl (LeV.upd rfl rfl (LeV.upd rfl rfl (LeV.upd rfl rfl (LeV.upd rfl rfl (LeV.upd rfl rfl (LeV.upd rfl rfl LeV.none))))))),rfl,rfl,rfl,rfl⟩ .nil))))))))) rfl
             refine WPD1.eff 15 [0] [] rfl (Does.runs (d_alloc ze47 rfl)) rfl rfl ?_;obtain ⟨x38,h23,H⟩:=bnd H;refine dE 7 [0] [] rfl (rc [] [] 13 [] (s_zip_num k x20 24 4 x38 h23) (hargs:=.ren rfl rfl (.ren rfl rfl (.ren rfl rfl .nil)))) ?_;obtain ⟨x39,h24,H⟩:=bnd H;refine dE 13 [0] [] rfl (rc [] [] 13 [] (s_zip_num k x20 42 4 x39 h24) (hargs:=.ren rfl rfl (.ren rfl rfl (.ren rfl rfl .nil)))) ?_;refine dT 14 ?_;refine dS 16 [0] [] ?_;refine WPD.doneW (by kernel_rfl) ?_;obtain ⟨rfl,rfl,rfl,rfl,rfl⟩:=j5 H;exact W.wk [0,1,2,12,3,4,5,6,7,8,9,10,11] hnp r3 ⟨rfl,⟨⟨⟨AA10,o3⟩,o3⟩,o3⟩,by decide,rfl,trivial⟩ (LeE.u (LeE.u (LeE.u (LeE.u (LeE.u (LeE.u (LeE.u (LeE.noneD rfl rfl (.cons ⟨rfl,(LeV.upd rfl rfl (LeV.upd rfl rfl (LeV.upd rfl rfl (LeV.upd rfl rfl (LeV.upd rfl rfl (LeV.upd rfl rfl (LeV.upd rfl rfl LeV.none))))))),rfl,rfl,rfl,rfl⟩ .nil))))))))) rfl
           refine WPD1.eff 15 [0] [] rfl (Does.runs (d_alloc ze47 rfl)) rfl rfl ?_;obtain ⟨x40,h25,H⟩:=bnd H;refine dE 5 [0] [] rfl (rc [] [] 13 [] (s_zip_num k x20 20 4 x40 h25) (hargs:=.ren rfl rfl (.ren rfl rfl (.ren rfl rfl .nil)))) ?_;obtain ⟨x41,h26,H⟩:=bnd H;refine dE 7 [0] [] rfl (rc [] [] 13 [] (s_zip_num k x20 24 4 x41 h26) (hargs:=.ren rfl rfl (.ren rfl rfl (.ren rfl rfl .nil)))) ?_;obtain ⟨x42,h27,H⟩:=bnd H;refine dE 13 [0] [] rfl (rc [] [] 13 [] (s_zip_num k x20 42 4 x42 h27) (hargs:=.ren rfl rfl (.ren rfl rfl (.ren rfl rfl .nil)))) ?_;refine dT 14 ?_;refine dS 16 [0] [] ?_;refine WPD.doneW (by kernel_rfl) ?_;obtain ⟨rfl,rfl,rfl,rfl,rfl⟩:=j5 H;exact W.wk [0,1,2,12,3,4,5,6,7,8,9,10,11] hnp r3 ⟨rfl,⟨⟨⟨AA10,o3⟩,o3⟩,o3⟩,by decide,rfl,trivial⟩ (LeE.u (LeE.u (LeE.u (LeE.u (LeE.u (LeE.u (LeE.u (LeE.noneD rfl rfl (.cons ⟨rfl,(LeV.upd rfl rfl (LeV.upd rfl rfl (LeV.upd rfl rfl (LeV.upd rfl rfl (LeV.upd rfl rfl (LeV.upd rfl rfl (LeV.upd rfl rfl LeV.none))))))),rfl,rfl,rfl,rfl⟩ .nil))))))))) rfl
         refine WPD1.eff 15 [0] [] rfl (Does.runs (d_alloc ze47 rfl)) rfl rfl ?_;obtain ⟨x43,h28,H⟩:=bnd H;refine dE 3 [0] [] rfl (rc [] [] 13 [] (s_zip_num k x20 16 4 x43 h28) (hargs:=.ren rfl rfl (.ren rfl rfl (.ren rfl rfl .nil)))) ?_;obtain ⟨x44,h29,H⟩:=bnd H;refine dE 5 [0] [] rfl (rc [] [] 13 [] (s_zip_num k x20 20 4 x44 h29) (hargs:=.ren rfl rfl (.ren rfl rfl (.ren rfl rfl .nil)))) ?_;obtain ⟨x45,h30,H⟩:=bnd H;refine dE 7 [0] [] rfl (rc [] [] 13 [] (s_zip_num k x20 24 4 x45 h30) (hargs:=.ren rfl rfl (.ren rfl rfl (.ren rfl rfl .nil)))) ?_;obtain ⟨x46,h31,H⟩:=bnd H;refine dE 13 [0] [] rfl (rc [] [] 13 [] (s_zip_num k x20 42 4 x46 h31) (hargs:=.ren rfl rfl (.ren rfl rfl (.ren rfl rfl .nil)))) ?_;refine dT 14 ?_;refine dS 16 [0] [] ?_;refine WPD.doneW (by kernel_rfl) ?_;obtain ⟨rfl,rfl,rfl,rfl,rfl⟩:=j5 H;exact W.wk [0,1,2,12,3,4,5,6,7,8,9,10,11] hnp r3 ⟨rfl,⟨⟨⟨AA10,o3⟩,o3⟩,o3⟩,by decide,rfl,trivial⟩ (LeE.u (LeE.u (LeE.u (LeE.u (LeE.u (LeE.u (LeE.u (LeE.noneD rfl rfl (.cons ⟨rfl,(LeV.upd rfl rfl (LeV.upd rfl rfl (LeV.upd rfl rfl (LeV.upd rfl rfl (LeV.upd rfl rfl (LeV.upd rfl rfl (LeV.upd rfl rfl LeV.none))))))),rfl,rfl,rfl,rfl⟩ .nil))))))))) rfl
       refine WPD1.eff 15 [0] [] rfl (Does.runs (d_alloc ze47 rfl)) rfl rfl ?_;obtain ⟨x47,h32,H⟩:=bnd H;refine dE 1 [0] [] rfl (rc [] [] 13 [] (s_zip_num k x20 10 2 x47 h32) (hargs:=.ren rfl rfl (.ren rfl rfl (.ren rfl rfl .nil)))) ?_;obtain ⟨x48,h33,H⟩:=bnd H;refine dE 3 [0] [] rfl (rc [] [] 13 [] (s_zip_num k x20 16 4 x48 h33) (hargs:=.ren rfl rfl (.ren rfl rfl (.ren rfl rfl .nil)))) ?_;obtain ⟨x49,h34,H⟩:=bnd H;refine dE 5 [0] [] rfl (rc [] [] 13 [] (s_zip_num k x20 20 4 x49 h34) (hargs:=.ren rfl rfl (.ren rfl rfl (.ren rfl rfl .nil)))) ?_;obtain ⟨x50,h35,H⟩:=bnd H;refine dE 7 [0] [] rfl (rc [] [] 13 [] (s_zip_num k x20 24 4 x50 h35) (hargs:=.ren rfl rfl (.ren rfl rfl (.ren rfl rfl .nil)))) ?_;obtain ⟨x51,h36,H⟩:=bnd H;refine dE 13 [0] [] rfl (rc [] [] 13 [] (s_zip_num k x20 42 4 x51 h36) (hargs:=.ren rfl rfl (.ren rfl rfl (.ren rfl rfl .nil)))) ?_;refine dT 14 ?_;refine dS 16 [0] [] ?_;refine WPD.doneW (by kernel_rfl) ?_;obtain ⟨rfl,rfl,rfl,rfl,rfl⟩:=j5 H;exact W.wk [0,1,2,12,3,4,5,6,7,8,9,10,11] hnp r3 ⟨rfl,⟨⟨⟨AA10,o3⟩,o3⟩,o3⟩,by decide,rfl,trivial⟩ (LeE.u (LeE.u (LeE.u (LeE.u (LeE.u (LeE.u (LeE.u (LeE.noneD rfl rfl (.cons ⟨rfl,(LeV.upd rfl rfl (LeV.upd rfl rfl (LeV.upd rfl rfl (LeV.upd rfl rfl (LeV.upd rfl rfl (LeV.upd rfl rfl (LeV.upd rfl rfl LeV.none))))))),rfl,rfl,rfl,rfl⟩ .nil))))))))) rfl
     (iterate 2 refine sp ?_);refine WP.seq ?_;refine WP.seq ?_;refine WP.regionDL 6 8 [0,3] [] mixed rfl (by kernel_rfl) ?_;refine dT 0 ?_;refine dK 1 ?_;refine dK 2 ?_;refine dK 3 ?_;obtain ⟨x52,h37,H⟩:=bnd H;refine dE 4 [0,3] [] rfl (rc [] [] 13 [] (s_zip_central k x27 x28 x29 x30 (strOf (List.drop (Int.toNat 46) (List.take (Int.toNat (IntKind.wrap .i64 (46+x26))) x20))) x31 x52 h37)) ?_;obtain ⟨x53,h38,H⟩:=bnd H;refine dE 5 [0,3] [] rfl (rc [] [] 13 [] (s_zip_begins k x20 x52 x53 h38)) ?_;refine WPD.doneW (by kernel_rfl) ?_;refine sp ?_;refine WPL.y rfl rfl rfl rfl hp1 ha1 hb6 ht1 hs1 hf1 rfl rfl rfl fun aI2=>?_;(iterate 6 refine sp ?_);refine WPL.nilW ?_;refine sp ?_;refine ⟨rfl,rfl,_,_,_,_,_,_,rfl,rfl,?_⟩;refine sp ?_;refine WP.seq ?_;(iterate 4 refine sp ?_);refine cq H (fun hb10 H=>?_) fun hb10 H=>?_
     · (iterate 7 refine sp ?_);refine Then.r ?_;refine InBlock.r ?_;refine ⟨rfl,_,_,_,_,_,_,rfl,rfl,_,rfl,?_⟩;(iterate 2 refine sp ?_);refine WP.condTB (t:=(!false)) rfl rfl ?_;refine sp ?_;have q0:=j1 H;subst q0;exact W.wk [4,5,6,7,8,2,9,0,1,10,11,12] hnp (Then.r (InBlock.r (Then.r (Then.r r3)))) ⟨rfl,⟨⟨AA10,o3⟩,o3⟩,by decide,rfl,trivial⟩ (LeE.noneD rfl rfl (.cons ⟨rfl,(LeV.upd rfl rfl (LeV.upd rfl rfl (LeV.upd rfl rfl (LeV.upd rfl rfl (LeV.upd rfl rfl (LeV.upd rfl rfl (LeV.upd rfl rfl LeV.none))))))),rfl,rfl,rfl,rfl⟩ .nil)) rfl
     (iterate 6 refine sp ?_);refine WPL.d (d_buildSlice (ds:=([(⟨x27,x28,x29,x30,(strOf (List.drop (Int.toNat 46) (List.take (Int.toNat (IntKind.wrap .i64 (46+x26))) x20))),x31⟩:S_zip_entry)]:List S_zip_entry)) (R:=rdS_zip_entry) li56 rfl rfl rfl rfl rfl (JoinRows.cons (l:=[.lit (.int .i64 x27),.lit (.int .i64 x28),.lit (.int .i64 x29),.lit (.int .i64 x30),.lit (.string (strOf (List.drop (Int.toNat 46) (List.take (Int.toNat (IntKind.wrap .i64 (46+x26))) x20)))),.lit (.int .i64 x31)]) (Joins.via (Joins.cons Joins.sc (Joins.cons Joins.sc (Joins.cons Joins.sc (Joins.cons Joins.sc (Joins.cons Joins.sc (Joins.cons Joins.sc Joins.unit))))))) rfl JoinRows.nil) rfl rfl) rfl ?_;obtain ⟨h39,H⟩:=grd H;refine WPL.d (d_append ap56 rfl rfl rfl rfl (src_row sl56 rfl rfl) h39 rfl) rfl ?_;refine sp ?_;refine WPL.nilW ?_;refine sp ?_;refine InBlock.n ?_;refine ⟨rfl,_,_,_,_,_,_,rfl,rfl,_,rfl,?_⟩;(iterate 2 refine sp ?_);refine WP.condFB (t:=(!true)) rfl rfl ?_;(iterate 6 refine sp ?_);obtain ⟨h40,H⟩:=grd H;refine WPL.qq (q_slice_ro (i:=(IntKind.wrap .i64 (46+x26))) (j:=((List.length x20:Nat):Int)) sl23 rfl rfl ⟨_,rfl⟩ rfl h40) ?_;refine sp ?_;refine WPL.nilW ?_;refine sp ?_;refine InBlock.n ?_;(iterate 4 refine sp ?_);refine WPL.nilW ?_;exact W.wk [0,1,2,4,5,6,7,15,9,10,11,12] hnp (Then.n ⟨n,((IntKind.wrap .i64 (x19+1)),(List.drop (Int.toNat (IntKind.wrap .i64 (46+x26))) (List.take (Int.toNat ((List.length x20:Nat):Int)) x20)),(x21++([(⟨x27,x28,x29,x30,(strOf (List.drop (Int.toNat 46) (List.take (Int.toNat (IntKind.wrap .i64 (46+x26))) x20))),x31⟩:S_zip_entry)]:List S_zip_entry))),Nat.lt_succ_self n,H,rfl,rfl⟩) ⟨rfl,⟨⟨AA10,o3⟩,o3⟩,by decide,rfl,trivial⟩ (LeE.u (LeE.u (LeE.u (LeE.u (LeE.u (LeE.noneD rfl rfl (.cons ⟨rfl,(LeV.upd rfl rfl (LeV.upd rfl rfl (LeV.upd rfl rfl (LeV.upd rfl rfl (LeV.upd rfl rfl (LeV.upd rfl rfl (LeV.upd rfl rfl LeV.none))))))),rfl,rfl,rfl,rfl⟩ .nil))))))) rfl
   refine sp ?_;have q0:=j1 H;subst q0;exact W.wk [0,1,2,3,4,5,6,7,8,9,10,11] hnp (Then.x (Then.x r3)) ⟨rfl,⟨⟨AA10,o3⟩,o3⟩,by decide,rfl,trivial⟩ (LeE.u (LeE.u (LeE.noneD rfl rfl (.cons ⟨rfl,(LeV.upd rfl rfl (LeV.upd rfl rfl (LeV.upd rfl rfl (LeV.upd rfl rfl (LeV.upd rfl rfl (LeV.upd rfl rfl (LeV.upd rfl rfl LeV.none))))))),rfl,rfl,rfl,rfl⟩ .nil)))) rfl
 rcases y1 with ⟨x15,x16⟩ | ⟨x17,x18⟩
 · rintro _ _ _ ⟨rfl,rfl,rfl⟩;refine sp ?_;refine InBlock.r ?_;refine Then.r ?_;refine ⟨trivial,_,_,_,_,rfl,_,_,rfl,(fun h=>by cases h),?_⟩;refine WP.cv (Cv.absorb (N:=12) (j:=9) (i:=10) rfl rfl rfl rfl) ?_;refine sp ?_;refine W.cv (Cv.nilRoC rdS_zip_entry false (i:=0) (off:=0) rfl rfl rfl) rfl ?_;obtain ⟨rfl,rfl,rfl⟩:=j3 H;exact W.now (InBlock.r (Then.r (BodyR.mkR ⟨.inr rfl,trivial⟩ rfl [0,1,2] ⟨rfl,rfl⟩ ⟨rfl,AA3,by decide,rfl,trivial⟩ rfl rfl)))
 rintro _ _ _ ⟨rfl,rfl,rfl⟩;(iterate 9 refine sp ?_);refine WPL.nilW ?_;refine sp ?_;refine ⟨trivial,_,_,_,_,rfl,_,_,rfl,(fun h=>by cases h),?_⟩;refine W.cv (Cv.absorb (N:=12) (j:=9) (i:=10) rfl rfl rfl rfl) rfl ?_;refine sp ?_;refine InBlock.n ?_;refine sp ?_;refine WP.seq ?_;(iterate 2 refine sp ?_);obtain ⟨x54,h41,H⟩:=bnd H;refine sn (nm_bool h41) ?_;refine sp ?_;refine cq H (fun hb11 H=>?_) fun hb11 H=>?_
 · (iterate 6 refine sp ?_);refine W.cv (Cv.nilRoC rdS_zip_entry false (i:=3) (off:=0) rfl rfl rfl) rfl ?_;obtain ⟨rfl,rfl,rfl⟩:=j3 H;exact W.now (Then.r (BodyR.mkR ⟨.inr rfl,trivial⟩ rfl [3,4,5] ⟨rfl,rfl⟩ ⟨rfl,AA3,by decide,rfl,trivial⟩ rfl rfl))
 (iterate 11 refine sp ?_);refine W.cv (Cv.frzRow (i:=7) rfl rfl hnp rfl rfl) rfl ?_;obtain ⟨rfl,rfl,rfl⟩:=j3 H;exact W.now (BodyR.mkR ⟨.inr rfl,trivial⟩ rfl [3,4,5] ⟨rfl,rfl⟩ ⟨rfl,AA3,by decide,rfl,trivial⟩ rfl rfl)
theorem s_bits_Crc__b (k:Nat) (x1:(List Int)) (x2:Int) (H:g_bits_Crc k x1=some x2):Go.Q.Spec Tryz.prog 21 0 [.ro (Rd.slice (Rd.int .u8)) true x1] Mem.nil (fun o M=>o=.ret (.lit (.int .u32 x2))∧M=Mem.nil):=by
 unfold g_bits_Crc at H;refine bo Tryz.func21 [] [.tmp 2] 29 fun cx hnp=>?_;(iterate 6 refine sp ?_);refine WP.seq ?_;(iterate 6 refine sp ?_);refine WP.cv (Cv.weak (E':=((((Env.none.upd 3 (.lit (.int .u32 4294967295))).upd 6 (.ro (Rd.slice (Rd.int .u8)) true x1)).upd 7 (.lit (.int .i64 ((List.length x1:Nat):Int)))).upd 8 (.lit (.int .i64 0)))) (M':=Mem.nil) [] hnp ⟨rfl,trivial,by decide,rfl,trivial⟩ (LeE.u (LeE.u (LeE.u (LeE.u (LeE.none rfl rfl)))))) ?_;obtain ⟨x3,H1,H⟩:=bnd H;refine mo (.exit 0) (Env.none.upd 3 (.lit (.int .u32 x3))) Mem.nil ?_ ?_
 · refine WP.loop (β:=Int × Int) (fun n b=>g_bits_Crc_l0 k x1 n b.1 b.2=some x3) (fun b=>((((Env.none.upd 3 (.lit (.int .u32 b.1))).upd 6 (.ro (Rd.slice (Rd.int .u8)) true x1)).upd 7 (.lit (.int .i64 ((List.length x1:Nat):Int)))).upd 8 (.lit (.int .i64 b.2)))) (fun b=>Mem.nil) k (4294967295,0) H1 rfl rfl ?_;rintro n ⟨x4,x5⟩ H;obtain _ | n:=n
   · exact nf rfl H
   rw [g_bits_Crc_l0.eq_2] at H;show WP _ _ _ _ ((((Env.none.upd 3 (.lit (.int .u32 x4))).upd 6 (.ro (Rd.slice (Rd.int .u8)) true x1)).upd 7 (.lit (.int .i64 ((List.length x1:Nat):Int)))).upd 8 (.lit (.int .i64 x5))) Mem.nil _;refine sp ?_;obtain ⟨x6,h1,H⟩:=bnd H;refine sn (nm_bool h1) ?_;refine sp ?_;refine WP.seq ?_;refine cq H (fun hb1 H=>?_) fun hb1 H=>?_
   · (iterate 3 refine sp ?_);refine WP.seq ?_;(iterate 2 refine sp ?_);obtain ⟨x7,h2,H⟩:=bnd H;(iterate 8 refine sp ?_);obtain ⟨x8,h3,H⟩:=bnd H;refine sn (nm_int h3) ?_;(iterate 6 refine sp ?_);refine WP.cv (Cv.weak (E':=(((((Env.none.upd 3 (.lit (.int .u32 x8))).upd 6 (.ro (Rd.slice (Rd.int .u8)) true x1)).upd 7 (.lit (.int .i64 ((List.length x1:Nat):Int)))).upd 8 (.lit (.int .i64 x5))).upd 16 (.lit (.int .i64 0)))) (M':=Mem.nil) [] hnp ⟨rfl,trivial,by decide,rfl,trivial⟩ (LeE.u (LeE.u (LeE.u (LeE.u (LeE.u (LeE.none rfl rfl))))))) ?_;obtain ⟨x9,H2,H⟩:=bnd H;refine mo (.exit 2) ((((Env.none.upd 3 (.lit (.int .u32 x9))).upd 6 (.ro (Rd.slice (Rd.int .u8)) true x1)).upd 7 (.lit (.int .i64 ((List.length x1:Nat):Int)))).upd 8 (.lit (.int .i64 x5))) Mem.nil ?_ ?_
     · refine WP.loop (β:=Int × Int) (fun n b=>g_bits_Crc_l1 k n b.1 b.2=some x9) (fun b=>(((((Env.none.upd 3 (.lit (.int .u32 b.1))).upd 6 (.ro (Rd.slice (Rd.int .u8)) true x1)).upd 7 (.lit (.int .i64 ((List.length x1:Nat):Int)))).upd 8 (.lit (.int .i64 x5))).upd 16 (.lit (.int .i64 b.2)))) (fun b=>Mem.nil) k (x8,0) H2 rfl rfl ?_;rintro n ⟨x10,x11⟩ H;obtain _ | n:=n
       · exact nf rfl H
       rw [g_bits_Crc_l1.eq_2] at H;show WP _ _ _ _ (((((Env.none.upd 3 (.lit (.int .u32 x10))).upd 6 (.ro (Rd.slice (Rd.int .u8)) true x1)).upd 7 (.lit (.int .i64 ((List.length x1:Nat):Int)))).upd 8 (.lit (.int .i64 x5))).upd 16 (.lit (.int .i64 x11))) Mem.nil _;(iterate 3 refine sp ?_);refine WP.seq ?_;refine cq H (fun hb2 H=>?_) fun hb2 H=>?_
       · (iterate 3 refine sp ?_);refine WP.seq ?_;(iterate 6 refine sp ?_);obtain ⟨x12,h4,H⟩:=bnd H;refine sn (nm_int h4) ?_;refine sp ?_;obtain ⟨x13,h5,H⟩:=bnd H;refine sn (nm_int h5) ?_;refine sp ?_;refine WPL.nilW ?_;refine sp ?_;refine InBlock.n ?_;(iterate 4 refine sp ?_);refine WPL.nilW ?_;exact wq [] (Then.n ⟨n,(x13,(IntKind.wrap .i64 (x11+1))),Nat.lt_succ_self n,H,rfl,rfl⟩)
       refine sp ?_;have q0:=j1 H;subst q0;exact wq [] (Then.x (Then.x r3))
     (iterate 2 refine sp ?_);refine InBlock.n ?_;(iterate 4 refine sp ?_);refine WPL.nilW ?_;exact wq [] (Then.n ⟨n,(x9,(IntKind.wrap .i64 (x5+1))),Nat.lt_succ_self n,H,rfl,rfl⟩)
   refine sp ?_;have q0:=j1 H;subst q0;exact wq [] (Then.x (Then.x r3))
 (iterate 5 refine sp ?_);obtain ⟨x14,h6,H⟩:=bnd H;refine WPL.qq (q_nm (q_com rfl) (nm_int h6)) ?_;(iterate 3 refine sp ?_);have q0:=j1 H;subst q0;exact W.now (mb [])
theorem s_zip_entry_unpacked (k:Nat) (x1:Int) (x2:Int) (x3:Int) (x4:Int) (x5:ByteArray) (x6:Int) (x7:(List Int)) (x8:(List Int)) (x9:Int) (H:g_zip_entry_unpacked k x1 x2 x3 x4 x5 x6 x7=some (x8,x9)):Go.Q.Spec Tryz.prog 33 0 [.agg [.lit (.int .i64 x1),.lit (.int .i64 x2),.lit (.int .i64 x3),.lit (.int .i64 x4),.lit (.string x5),.lit (.int .i64 x6)],.ro (Rd.slice (Rd.int .u8)) true x7] Mem.nil (fun o M=>o=.ret (.tup [.ro (Rd.slice (Rd.int .u8)) false x8,.lit (.int .i64 x9)])∧M=Mem.nil):=by
 unfold g_zip_entry_unpacked at H;refine bo Tryz.func33 [] [.tmp 4,.tmp 5] 61 fun cx hnp=>?_;(iterate 7 refine sp ?_);refine WPL.qq (q_bytes_str Tryz.underlying23 Tryz.underlying5 Tryz.underlying9 rfl) ?_;obtain ⟨h1,H⟩:=grd H;refine WPL.d (d_strBytes Tryz.underlying9 Tryz.underlying23 Tryz.underlying5 rfl h1 rfl) rfl ?_;(iterate 2 refine sp ?_);refine WP.seq ?_;refine WP.seq ?_;obtain ⟨x10,H1,H⟩:=bnd H;refine mo .normal ((((Env.none.upd 1 (.ro (Rd.slice (Rd.int .u8)) true x7)).upd 2 (.ptr 0 0)).upd 6 (.whole 1)).upd 22 (.lit (.bool x10))) ((Mem.nil.push (.cells 47 [.lit (.int .i64 x1),.lit (.int .i64 x2),.lit (.int .i64 x3),.lit (.int .i64 x4),.lit (.string x5),.lit (.int .i64 x6)])).push (.row 5 (Rd.int .u8) (strInts (strOf x7)))) ?_ ?_
 · clear H;have H:=H1;clear H1;(iterate 5 refine sp ?_);refine ws 16 H (fun hb1 H=>?_) fun hb1 H=>?_
   · (iterate 6 refine sp ?_);refine WPL.nilW ?_;have q0:=j1 H;subst q0;exact wq [0,1]
   (iterate 6 refine sp ?_);refine WPL.nilW ?_;have q0:=j1 H;subst q0;exact wq [0,1]
 (iterate 2 refine sp ?_);refine cq H (fun hb2 H=>?_) fun hb2 H=>?_
 · (iterate 5 refine sp ?_);refine W.cv (Cv.nilRo (Rd.int .u8) false 4 rfl) rfl ?_;obtain ⟨rfl,rfl⟩:=j2 H;exact W.now (Then.r (mb []))
 (iterate 3 refine sp ?_);refine WP.seq ?_;(iterate 5 refine sp ?_);refine cq H (fun hb3 H=>?_) fun hb3 H=>?_
 · (iterate 4 refine sp ?_);exact nf rfl H
 (iterate 3 refine sp ?_);refine WP.seq ?_;refine WP.seq ?_;refine WP.regionD' 6 [0] [] mixed rfl ?_;refine dT 0 ?_;refine dT 3 ?_;refine dK 4 ?_;obtain ⟨x11,h2,H⟩:=bnd H;refine dE 1 [0] [] rfl (rc [] [] 2 [1] (s_bits_Crc__b k (strInts (strOf x7)) x11 h2)) ?_;refine dT 2 ?_;obtain ⟨x12,h3,H⟩:=bnd H;refine dT 5 ?_ rfl (q_nm aq (nm_bool h3));refine WPD.doneW (by kernel_rfl) ?_;(iterate 2 refine sp ?_);refine cq H (fun hb4 H=>?_) fun hb4 H=>?_
 · (iterate 5 refine sp ?_);refine W.cv (Cv.nilRo (Rd.int .u8) false 4 rfl) rfl ?_;obtain ⟨rfl,rfl⟩:=j2 H;exact W.now (Then.r (mb []))
 (iterate 9 refine sp ?_);refine W.cv (Cv.frzRow (i:=1) rfl rfl hnp rfl rfl) rfl ?_;obtain ⟨rfl,rfl⟩:=j2 H;exact W.now (mb [])
theorem s_zip_Read (k:Nat) (x1:(List Int)) (x2:Int) (x3:(List S_api_File)) (x4:Int) (H:g_zip_Read k x1 x2=some (x3,x4)):Go.Q.Spec Tryz.prog 13 0 [.ro (Rd.slice (Rd.int .u8)) true x1,.lit (.int .i64 x2)] Mem.nil (fun o M=>o=.ret (.tup [.ro (Rd.slice rdS_api_File) false x3,.lit (.int .i64 x4)])∧M=Mem.nil):=by
 unfold g_zip_Read at H;refine bo Tryz.func13 [] [.tmp 4,.tmp 5] 128 fun cx hnp=>?_;(iterate 4 refine sp ?_);refine WP.seq ?_;(iterate 4 refine sp ?_);refine cq H (fun hb1 H=>?_) fun hb1 H=>?_
 · (iterate 5 refine sp ?_);refine W.cv (Cv.nilRo rdS_api_File false 4 rfl) rfl ?_;obtain ⟨rfl,rfl⟩:=j2 H;exact W.now (Then.r (mb []))
 (iterate 5 refine sp ?_);obtain ⟨⟨x5,x6,x7⟩,h1,H⟩:=bnd H;refine WPL.c (rc [] [0,1,2] 3 [] (s_zip_directory k x1 x5 x6 x7 h1)) rfl ?_;(iterate 8 refine sp ?_);refine WP.seq ?_;(iterate 4 refine sp ?_);refine cq H (fun hb2 H=>?_) fun hb2 H=>?_
 · (iterate 6 refine sp ?_);refine W.cv (Cv.nilRo rdS_api_File false 4 rfl) rfl ?_;obtain ⟨rfl,rfl⟩:=j2 H;exact W.now (Then.r (mb []))
 (iterate 9 refine sp ?_);refine WP.seq ?_;(iterate 6 refine sp ?_);refine WP.cv (Cv.vir 41 rdS_api_File (N:=3) rfl 9 rfl) ?_;refine WP.cv (Cv.weak (E':=(((((((((Env.none.upd 0 (.ro (Rd.slice (Rd.int .u8)) true x1)).upd 1 (.lit (.int .i64 x2))).upd 6 (.ro (Rd.slice rdS_zip_entry) false x5)).upd 7 (.lit (.int .i64 x6))).upd 9 (.whole 0)).upd 10 (.lit (.int .i64 0))).upd 28 (.ro (Rd.slice rdS_zip_entry) false x5)).upd 29 (.lit (.int .i64 ((List.length x5:Nat):Int)))).upd 30 (.lit (.int .i64 0)))) (M':=(Mem.nil.push (.row 41 rdS_api_File ([]:List S_api_File)))) [3] hnp ⟨rfl,AA1,by decide,rfl,trivial⟩ (LeE.u (LeE.u (LeE.u (LeE.u (LeE.u (LeE.u (LeE.u (LeE.u (LeE.u (LeE.none rfl rfl))))))))))) ?_;obtain ⟨y1,H1,H⟩:=bnd H;refine WP.monoW (Q:=fun x E M=>match (generalizing:=false) y1 with | (Sum.inl x8)=>x=.ret∧E=((Env.none.upd 4 (.lit (.slice none 0 0))).upd 5 (.lit (.int .i64 x8)))∧M=Mem.nil | (Sum.inr (x9,x10))=>x=.exit 0∧E=(((Env.none.upd 7 (.lit (.int .i64 x6))).upd 9 (.whole 0)).upd 10 (.lit (.int .i64 x9)))∧M=(Mem.nil.push (.row 41 rdS_api_File x10))) ?_ ?_
 · refine WP.loop (β:=Int × Int × Int × (List S_api_File)) (fun n b=>g_zip_Read_l0 k x1 x5 x6 n b.1 b.2.1 b.2.2.1 b.2.2.2=some y1) (fun b=>(((((((((Env.none.upd 0 (.ro (Rd.slice (Rd.int .u8)) true x1)).upd 1 (.lit (.int .i64 b.1))).upd 6 (.ro (Rd.slice rdS_zip_entry) false x5)).upd 7 (.lit (.int .i64 x6))).upd 9 (.whole 0)).upd 10 (.lit (.int .i64 b.2.1))).upd 28 (.ro (Rd.slice rdS_zip_entry) false x5)).upd 29 (.lit (.int .i64 ((List.length x5:Nat):Int)))).upd 30 (.lit (.int .i64 b.2.2.1)))) (fun b=>(Mem.nil.push (.row 41 rdS_api_File b.2.2.2))) k (x2,0,0,([]:List S_api_File)) H1 rfl rfl ?_;rintro n ⟨x11,x12,x13,x14⟩ H;obtain _ | n:=n
   · exact nf rfl H
   rw [g_zip_Read_l0.eq_2] at H;show WP _ _ _ _ (((((((((Env.none.upd 0 (.ro (Rd.slice (Rd.int .u8)) true x1)).upd 1 (.lit (.int .i64 x11))).upd 6 (.ro (Rd.slice rdS_zip_entry) false x5)).upd 7 (.lit (.int .i64 x6))).upd 9 (.whole 0)).upd 10 (.lit (.int .i64 x12))).upd 28 (.ro (Rd.slice rdS_zip_entry) false x5)).upd 29 (.lit (.int .i64 ((List.length x5:Nat):Int)))).upd 30 (.lit (.int .i64 x13))) (Mem.nil.push (.row 41 rdS_api_File x14)) _;refine sp ?_;obtain ⟨x15,h2,H⟩:=bnd H;refine sn (nm_bool h2) ?_;refine sp ?_;refine WP.seq ?_;refine cq H (fun hb3 H=>?_) fun hb3 H=>?_
   · (iterate 3 refine sp ?_);refine WP.seq ?_;(iterate 3 refine sp ?_);obtain ⟨x16,h3,H⟩:=bnd H;refine sp ?_;refine WPL.qq (q_load_roag ag47 rfl rfl S_zip_entry.sp) ?_;(iterate 4 refine sp ?_);refine WP.seq ?_;(iterate 3 refine sp ?_);obtain ⟨x17,h4,H⟩:=bnd H;refine WPL.c (rc [] [2] 3 [] (s_zip_Right k x16.fname x17 h4)) rfl ?_;(iterate 2 refine sp ?_);refine cq H (fun hb4 H=>?_) fun hb4 H=>?_
     · (iterate 5 refine sp ?_);have q0:=j1 H;subst q0;exact wq [] (Then.r (InBlock.r (Then.r (Then.r r3))))
     (iterate 3 refine sp ?_);refine WP.seq ?_;(iterate 3 refine sp ?_);obtain ⟨h5,H⟩:=grd H;refine WPL.qq (q_slice_ro (i:=0) (j:=x13) sl56 rfl rfl rfl ⟨_,rfl⟩ h5) ?_;obtain ⟨x18,h6,H⟩:=bnd H;refine sn (nm_int h6) ?_;(iterate 3 refine sp ?_);refine WP.cv (Cv.weak (E':=(((((((((((((Env.none.upd 0 (.ro (Rd.slice (Rd.int .u8)) true x1)).upd 1 (.lit (.int .i64 x11))).upd 6 (.ro (Rd.slice rdS_zip_entry) false x5)).upd 7 (.lit (.int .i64 x6))).upd 9 (.whole 0)).upd 10 (.lit (.int .i64 x12))).upd 12 (.ptr 1 0)).upd 28 (.ro (Rd.slice rdS_zip_entry) false x5)).upd 29 (.lit (.int .i64 ((List.length x5:Nat):Int)))).upd 30 (.lit (.int .i64 x13))).upd 41 (.ro (Rd.slice rdS_zip_entry) false (List.drop (Int.toNat 0) (List.take (Int.toNat x13) x5)))).upd 42 (.lit (.int .i64 x18))).upd 43 (.lit (.int .i64 0)))) (M':=((Mem.nil.push (.row 41 rdS_api_File x14)).push (.cells 47 [.lit (.int .i64 x16.fmethod),.lit (.int .i64 x16.fcrc),.lit (.int .i64 x16.fpacked),.lit (.int .i64 x16.fsize),.lit (.string x16.fname),.lit (.int .i64 x16.fat)]))) [0,1] hnp ⟨rfl,AA2,by decide,rfl,trivial⟩ (LeE.u (LeE.u (LeE.u (LeE.u (LeE.u (LeE.u (LeE.u (LeE.u (LeE.u (LeE.u (LeE.u (LeE.u (LeE.u (LeE.none rfl rfl))))))))))))))) ?_;obtain ⟨y2,H2,H⟩:=bnd H;refine WP.monoW (Q:=fun x E M=>match (generalizing:=false) y2 with | (Sum.inl _)=>x=.ret∧E=((Env.none.upd 4 (.lit (.slice none 0 0))).upd 5 (.lit (.int .i64 43)))∧M=Mem.nil | (Sum.inr _)=>x=.exit 2∧E=((((((((((Env.none.upd 0 (.ro (Rd.slice (Rd.int .u8)) true x1)).upd 1 (.lit (.int .i64 x11))).upd 6 (.ro (Rd.slice rdS_zip_entry) false x5)).upd 7 (.lit (.int .i64 x6))).upd 9 (.whole 0)).upd 10 (.lit (.int .i64 x12))).upd 12 (.ptr 1 0)).upd 28 (.ro (Rd.slice rdS_zip_entry) false x5)).upd 29 (.lit (.int .i64 ((List.length x5:Nat):Int)))).upd 30 (.lit (.int .i64 x13)))∧M=((Mem.nil.push (.row 41 rdS_api_File x14)).push (.cells 47 [.lit (.int .i64 x16.fmethod),.lit (.int .i64 x16.fcrc),.lit (.int .i64 x16.fpacked),.lit (.int .i64 x16.fsize),.lit (.string x16.fname),.lit (.int .i64 x16.fat)]))) ?_ ?_
     · refine WP.loop (β:=Int) (fun n b=>g_zip_Read_l1 k x5 x13 x16 x18 n b=some y2) (fun b=>(((((((((((((Env.none.upd 0 (.ro (Rd.slice (Rd.int .u8)) true x1)).upd 1 (.lit (.int .i64 x11))).upd 6 (.ro (Rd.slice rdS_zip_entry) false x5)).upd 7 (.lit (.int .i64 x6))).upd 9 (.whole 0)).upd 10 (.lit (.int .i64 x12))).upd 12 (.ptr 1 0)).upd 28 (.ro (Rd.slice rdS_zip_entry) false x5)).upd 29 (.lit (.int .i64 ((List.length x5:Nat):Int)))).upd 30 (.lit (.int .i64 x13))).upd 41 (.ro (Rd.slice rdS_zip_entry) false (List.drop (Int.toNat 0) (List.take (Int.toNat x13) x5)))).upd 42 (.lit (.int .i64 x18))).upd 43 (.lit (.int .i64 b)))) (fun b=>((Mem.nil.push (.row 41 rdS_api_File x14)).push (.cells 47 [.lit (.int .i64 x16.fmethod),.lit (.int .i64 x16.fcrc),.lit (.int .i64 x16.fpacked),.lit (.int .i64 x16.fsize),.lit (.string x16.fname),.lit (.int .i64 x16.fat)]))) k 0 H2 rfl rfl ?_;rintro n x19 H;obtain _ | n:=n
       · exact nf rfl H
       rw [g_zip_Read_l1.eq_2] at H;show WP _ _ _ _ (((((((((((((Env.none.upd 0 (.ro (Rd.slice (Rd.int .u8)) true x1)).upd 1 (.lit (.int .i64 x11))).upd 6 (.ro (Rd.slice rdS_zip_entry) false x5)).upd 7 (.lit (.int .i64 x6))).upd 9 (.whole 0)).upd 10 (.lit (.int .i64 x12))).upd 12 (.ptr 1 0)).upd 28 (.ro (Rd.slice rdS_zip_entry) false x5)).upd 29 (.lit (.int .i64 ((List.length x5:Nat):Int)))).upd 30 (.lit (.int .i64 x13))).upd 41 (.ro (Rd.slice rdS_zip_entry) false (List.drop (Int.toNat 0) (List.take (Int.toNat x13) x5)))).upd 42 (.lit (.int .i64 x18))).upd 43 (.lit (.int .i64 x19))) ((Mem.nil.push (.row 41 rdS_api_File x14)).push (.cells 47 [.lit (.int .i64 x16.fmethod),.lit (.int .i64 x16.fcrc),.lit (.int .i64 x16.fpacked),.lit (.int .i64 x16.fsize),.lit (.string x16.fname),.lit (.int .i64 x16.fat)])) _;(iterate 3 refine sp ?_);refine WP.seq ?_;refine cq H (fun hb5 H=>?_) fun hb5 H=>?_
       · (iterate 3 refine sp ?_);refine WP.seq ?_;(iterate 2 refine sp ?_);obtain ⟨x20,h7,H⟩:=bnd H;refine sp ?_;refine WPL.qq (q_load_roag ag47 rfl rfl S_zip_entry.sp) ?_;(iterate 8 refine sp ?_);obtain ⟨x21,h7,H⟩:=bnd H;refine WPL.c (rc [] [] 3 [] (s_st_EqualFold k x16.fname x20.fname x21 h7)) rfl ?_;refine sp ?_;refine cq H (fun hb6 H=>?_) fun hb6 H=>?_
         · (iterate 5 refine sp ?_);have q0:=j1 H;subst q0;exact wq [] (InBlock.r (Then.r (Then.r r3)))
         (iterate 2 refine sp ?_);refine InBlock.n ?_;(iterate 4 refine sp ?_);refine WPL.nilW ?_;exact wq [0,1] (Then.n ⟨n,(IntKind.wrap .i64 (x19+1)),Nat.lt_succ_self n,H,rfl,rfl⟩)
       refine sp ?_;have q0:=j1 H;subst q0;exact wq [0,1] (Then.x (Then.x r3))
     rcases y2 with _ | _
     · rintro _ _ _ ⟨rfl,rfl,rfl⟩;have q0:=j1 H;subst q0;exact wq [] (InBlock.r (Then.r (InBlock.r (Then.r (Then.r r3)))))
     rintro _ _ _ ⟨rfl,rfl,rfl⟩;(iterate 3 refine sp ?_);refine WP.seq ?_;refine WP.seq ?_;obtain ⟨x22,H3,H⟩:=bnd H;refine mo .normal (((((((((((Env.none.upd 0 (.ro (Rd.slice (Rd.int .u8)) true x1)).upd 1 (.lit (.int .i64 x11))).upd 6 (.ro (Rd.slice rdS_zip_entry) false x5)).upd 7 (.lit (.int .i64 x6))).upd 9 (.whole 0)).upd 10 (.lit (.int .i64 x12))).upd 12 (.ptr 1 0)).upd 28 (.ro (Rd.slice rdS_zip_entry) false x5)).upd 29 (.lit (.int .i64 ((List.length x5:Nat):Int)))).upd 30 (.lit (.int .i64 x13))).upd 75 (.lit (.bool x22))) ((Mem.nil.push (.row 41 rdS_api_File x14)).push (.cells 47 [.lit (.int .i64 x16.fmethod),.lit (.int .i64 x16.fcrc),.lit (.int .i64 x16.fpacked),.lit (.int .i64 x16.fsize),.lit (.string x16.fname),.lit (.int .i64 x16.fat)])) ?_ ?_
     · clear H;have H:=H3;clear H3;refine WP.regionD' 23 [1] [] mixed rfl ?_;refine dT 0 ?_;refine dK 1 ?_;refine dT 2 ?_;refine dT 3 ?_;refine ds 56 H (fun hb7 H=>?_) fun hb7 H=>?_
       · refine dG 4 ?_;refine dH 5 ?_;refine dG 6 ?_;refine dT 7 ?_;refine dT 8 ?_;refine ds 61 H (fun hb8 H=>?_) fun hb8 H=>?_
         · refine dP true 9 ?_;refine dP true 10 ?_;refine dP true 11 ?_;refine dP true 12 ?_;refine dT 13 ?_;refine dT 14 ?_;refine dP true 15 ?_;refine dP true 16 ?_;refine dP true 17 ?_;refine dP true 18 ?_;refine dP true 19 ?_;refine dP true 20 ?_;refine dP true 21 ?_;refine dT 22 ?_;refine WPD.doneW (by kernel_rfl) ?_;have q0:=j1 H;subst q0;exact wq [0,1]
         refine dG 9 ?_;refine dG 11 ?_;refine dH 10 ?_;refine dG 12 ?_;refine dT 13 ?_;refine dT 14 ?_;refine ds 67 H (fun hb9 H=>?_) fun hb9 H=>?_
         · refine dP true 15 ?_;refine dP true 16 ?_;refine dP true 17 ?_;refine dP true 18 ?_;refine dP true 19 ?_;refine dP true 20 ?_;refine dP true 21 ?_;refine dT 22 ?_;refine WPD.doneW (by kernel_rfl) ?_;have q0:=j1 H;subst q0;exact wq [0,1]
         refine dG 15 ?_;refine dG 16 ?_;obtain ⟨h8,H⟩:=grd H;refine WPD.takegT 17 rfl (by kernel_rfl) rfl rfl (lb hb9) (q_slice_ro (i:=x12) (j:=((List.length x1:Nat):Int)) sl23 rfl rfl ⟨_,rfl⟩ rfl h8) rfl ?_;refine dH 18 ?_;obtain ⟨x23,h9,H⟩:=bnd H;refine dF 19 [1] [] rfl (rc [] [] 2 [] (s_zip_local k x16.fmethod x16.fcrc x16.fpacked x16.fsize x16.fname x16.fat x23 h9)) ?_;obtain ⟨x24,h10,H⟩:=bnd H;refine dF 20 [1] [] rfl (rc [] [] 2 [] (s_zip_begins k (List.drop (Int.toNat x12) (List.take (Int.toNat ((List.length x1:Nat):Int)) x1)) x23 x24 h10)) ?_;refine dG 21 ?_;refine dT 22 ?_;refine WPD.doneW (by kernel_rfl) ?_;have q0:=j1 H;subst q0;exact wq [0,1]
       refine dP false 4 ?_;refine dP false 5 ?_;refine dP false 6 ?_;refine dT 7 ?_;refine dT 8 ?_;refine dG 9 ?_;refine dG 11 ?_;refine dH 10 ?_;refine dG 12 ?_;refine dT 13 ?_;refine dT 14 ?_;refine ds 67 H (fun hb10 H=>?_) fun hb10 H=>?_
       · refine dP true 15 ?_;refine dP true 16 ?_;refine dP true 17 ?_;refine dP true 18 ?_;refine dP true 19 ?_;refine dP true 20 ?_;refine dP true 21 ?_;refine dT 22 ?_;refine WPD.doneW (by kernel_rfl) ?_;have q0:=j1 H;subst q0;exact wq [0,1]
       refine dG 15 ?_;refine dG 16 ?_;obtain ⟨h11,H⟩:=grd H;refine WPD.takegT 17 rfl (by kernel_rfl) rfl rfl (lb hb10) (q_slice_ro (i:=x12) (j:=((List.length x1:Nat):Int)) sl23 rfl rfl ⟨_,rfl⟩ rfl h11) rfl ?_;refine dH 18 ?_;obtain ⟨x25,h12,H⟩:=bnd H;refine dF 19 [1] [] rfl (rc [] [] 2 [] (s_zip_local k x16.fmethod x16.fcrc x16.fpacked x16.fsize x16.fname x16.fat x25 h12)) ?_;obtain ⟨x26,h13,H⟩:=bnd H;refine dF 20 [1] [] rfl (rc [] [] 2 [] (s_zip_begins k (List.drop (Int.toNat x12) (List.take (Int.toNat ((List.length x1:Nat):Int)) x1)) x25 x26 h13)) ?_;refine dG 21 ?_;refine dT 22 ?_;refine WPD.doneW (by kernel_rfl) ?_;have q0:=j1 H;subst q0;exact wq [0,1]
     (iterate 2 refine sp ?_);refine cq H (fun hb11 H=>?_) fun hb11 H=>?_
     · (iterate 5 refine sp ?_);have q0:=j1 H;subst q0;exact wq [] (Then.r (InBlock.r (Then.r (Then.r r3))))
     (iterate 3 refine sp ?_);refine WP.seq ?_;(iterate 4 refine sp ?_);obtain ⟨x27,h14,H⟩:=bnd H;refine sn (nm_int h14) ?_;(iterate 2 refine sp ?_);refine cq H (fun hb12 H=>?_) fun hb12 H=>?_
     · (iterate 5 refine sp ?_);have q0:=j1 H;subst q0;exact wq [] (Then.r (InBlock.r (Then.r (Then.r r3))))
     (iterate 14 refine sp ?_);obtain ⟨x28,h15,H⟩:=bnd H;refine sn (nm_int h15) ?_;refine sp ?_;obtain ⟨x29,h16,H⟩:=bnd H;refine sn (nm_int h16) ?_;(iterate 2 refine sp ?_);refine WP.seq ?_;(iterate 6 refine sp ?_);obtain ⟨x30,h17,H⟩:=bnd H;refine sn (nm_bool h17) ?_;refine sp ?_;refine cq H (fun hb13 H=>?_) fun hb13 H=>?_
     · (iterate 5 refine sp ?_);have q0:=j1 H;subst q0;exact wq [] (Then.r (InBlock.r (Then.r (Then.r r3))))
     (iterate 3 refine sp ?_);refine WP.seq ?_;refine WP.regionD' 14 [1] [] mixed rfl ?_;refine dT 1 ?_;refine dT 2 ?_;refine dT 3 ?_;refine dT 4 ?_;refine dK 0 ?_;refine dK 5 ?_;obtain ⟨x31,h18,H⟩:=bnd H;refine dT 6 ?_ rfl (q_nm aq (nm_int h18));obtain ⟨h18,H⟩:=grd H;refine WPD.tT 7 rfl (q_slice_ro (i:=x29) (j:=x31) sl23 rfl rfl ⟨_,rfl⟩ ⟨_,rfl⟩ h18) ?_;obtain ⟨⟨x32,x33⟩,h19,H⟩:=bnd H;refine dE 8 [1] [] rfl (rc [] [] 2 [] (s_zip_entry_unpacked k x16.fmethod x16.fcrc x16.fpacked x16.fsize x16.fname x16.fat (List.drop (Int.toNat x29) (List.take (Int.toNat x31) x1)) x32 x33 h19)) ?_;refine dT 9 ?_;refine dT 10 ?_;refine dT 11 ?_;refine dT 12 ?_;refine dT 13 ?_;refine WPD.doneW (by kernel_rfl) ?_;(iterate 2 refine sp ?_);refine WP.seq ?_;(iterate 4 refine sp ?_);refine cq H (fun hb14 H=>?_) fun hb14 H=>?_
     · (iterate 6 refine sp ?_);have q0:=j1 H;subst q0;exact wq [] (Then.r (InBlock.r (Then.r (Then.r r3))))
     (iterate 7 refine sp ?_);obtain ⟨x34,h20,H⟩:=bnd H;refine sn (nm_int h20) ?_;(iterate 8 refine sp ?_);refine WPL.d (d_buildSlice (ds:=([(⟨x16.fname,x32⟩:S_api_File)]:List S_api_File)) (R:=rdS_api_File) li22 rfl rfl rfl rfl rfl (JoinRows.cons (l:=[.lit (.string x16.fname),.ro (Rd.slice (Rd.int .u8)) false x32]) (Joins.via (Joins.cons Joins.sc (Joins.cons Joins.one Joins.unit))) rfl JoinRows.nil) rfl rfl) rfl ?_;obtain ⟨h20,H⟩:=grd H;refine WPL.d (d_append ap22 rfl rfl rfl rfl (src_row sl22 rfl rfl) h20 rfl) rfl ?_;refine sp ?_;refine WPL.nilW ?_;refine sp ?_;refine InBlock.n ?_;(iterate 4 refine sp ?_);refine WPL.nilW ?_;exact wq [3] (Then.n ⟨n,((IntKind.wrap .i64 (x11 - x16.fsize)),x34,(IntKind.wrap .i64 (x13+1)),(x14++([(⟨x16.fname,x32⟩:S_api_File)]:List S_api_File))),Nat.lt_succ_self n,H,rfl,rfl⟩)
   refine sp ?_;have q0:=j1 H;subst q0;exact wq [0] (Then.x (Then.x r3))
 rcases y1 with x8 | ⟨x9,x10⟩
 · rintro _ _ _ ⟨rfl,rfl,rfl⟩;refine W.cv (Cv.nilRo rdS_api_File false 4 rfl) rfl ?_;obtain ⟨rfl,rfl⟩:=j2 H;exact W.now (InBlock.r (Then.r (mb [])))
 rintro _ _ _ ⟨rfl,rfl,rfl⟩;(iterate 3 refine sp ?_);refine WP.seq ?_;(iterate 5 refine sp ?_);refine cq H (fun hb15 H=>?_) fun hb15 H=>?_
 · (iterate 5 refine sp ?_);refine W.cv (Cv.nilRo rdS_api_File false 4 rfl) rfl ?_;obtain ⟨rfl,rfl⟩:=j2 H;exact W.now (Then.r (mb []))
 (iterate 9 refine sp ?_);refine W.cv (Cv.frzRow (i:=0) rfl rfl hnp rfl rfl) rfl ?_;obtain ⟨rfl,rfl⟩:=j2 H;exact W.now (mb [])
theorem s_quirelaw05_alive (k:Nat) (x1:Bool) (H:g_quirelaw05_alive k=some x1):Go.Q.Spec Tryz.prog 12 0 [] Mem.nil (fun o M=>o=.ret (.lit (.bool x1))∧M=Mem.nil):=by
 unfold g_quirelaw05_alive at H;refine bo Tryz.func12 [] [.tmp 0] 63 fun cx hnp=>?_;(iterate 4 refine sp ?_);refine WPL.d (d_buildSlice (ds:=([120]:List Int)) (R:=(Rd.int .u8)) li23 rfl rfl rfl rfl rfl (JoinRows.cons1 Joins.sc rfl JoinRows.nil) rfl rfl) rfl ?_;refine WPL.d (d_bytesConst Tryz.underlying23 Tryz.underlying5 rfl rfl rfl) rfl ?_;refine sp ?_;refine WPL.cv (Cv.frzRow (i:=0) rfl rfl hnp rfl rfl) ?_;refine WPL.d (d_buildSlice (ds:=([(⟨(ByteArray.mk #[97]),([120]:List Int)⟩:S_api_File)]:List S_api_File)) (R:=rdS_api_File) li22 rfl rfl rfl rfl rfl (JoinRows.cons (l:=[.lit (.string (ByteArray.mk #[97])),.ro (Rd.slice (Rd.int .u8)) false ([120]:List Int)]) (Joins.via (Joins.cons Joins.sc (Joins.cons Joins.one Joins.unit))) rfl JoinRows.nil) rfl rfl) rfl ?_;obtain ⟨⟨x2,x3⟩,h1,H⟩:=bnd H;refine WPL.cv (Cv.frzRow (i:=1) rfl rfl hnp rfl rfl) ?_;refine WPL.c (rc [] [2] 3 [] (s_zip_Write k ([(⟨(ByteArray.mk #[97]),([120]:List Int)⟩:S_api_File)]:List S_api_File) 0 x2 x3 h1)) rfl ?_;(iterate 8 refine sp ?_);obtain ⟨⟨x4,x5⟩,h2,H⟩:=bnd H;refine WPL.c (rc [] [] 3 [2] (s_zip_Read k x3 9 x4 x5 h2)) rfl ?_;(iterate 6 refine sp ?_);refine WP.seq ?_;refine WP.seq ?_;obtain ⟨x6,H1,H⟩:=bnd H;refine mo .normal ((Env.none.upd 1 (.whole 0)).upd 50 (.lit (.bool x6))) (Mem.nil.push (.row 5 (Rd.int .u8) x3)) ?_ ?_
 · clear H;have H:=H1;clear H1;(iterate 4 refine sp ?_);refine ws 22 H (fun hb1 H=>?_) fun hb1 H=>?_
   · (iterate 28 refine sp ?_);refine WPL.nilW ?_;have q0:=j1 H;subst q0;exact wq [2]
   (iterate 4 refine sp ?_);refine ws 26 H (fun hb2 H=>?_) fun hb2 H=>?_
   · (iterate 24 refine sp ?_);refine WPL.nilW ?_;have q0:=j1 H;subst q0;exact wq [2]
   (iterate 2 refine sp ?_);obtain ⟨x7,h3,H⟩:=bnd H;refine sn (nm_bool h3) ?_;(iterate 2 refine sp ?_);refine ws 31 H (fun hb3 H=>?_) fun hb3 H=>?_
   · (iterate 19 refine sp ?_);refine WPL.nilW ?_;have q0:=j1 H;subst q0;exact wq [2]
   (iterate 2 refine sp ?_);obtain ⟨x8,h4,H⟩:=bnd H;refine sn (nm_bool h4) ?_;(iterate 2 refine sp ?_);refine ws 36 H (fun hb4 H=>?_) fun hb4 H=>?_
   · (iterate 14 refine sp ?_);refine WPL.nilW ?_;have q0:=j1 H;subst q0;exact wq [2]
   refine sp ?_;obtain ⟨x9,h5,H⟩:=bnd H;refine sp ?_;refine WPL.gq rfl (lb hb4) (q_fieldAddr_ro fi41_0 rfl rfl S_api_File.p0 (Nat.le_of_ble_eq_true rfl)) ?_;refine sp ?_;obtain ⟨x10,h6,H⟩:=bnd H;refine sn (nm_bool h6) ?_;(iterate 2 refine sp ?_);refine ws 43 H (fun hb5 H=>?_) fun hb5 H=>?_
   · (iterate 7 refine sp ?_);refine WPL.nilW ?_;have q0:=j1 H;subst q0;exact wq [2]
   refine sp ?_;obtain ⟨x11,h7,H⟩:=bnd H;refine sp ?_;refine WPL.gq rfl (lb hb5) (q_fieldAddr_ro fi41_1 rfl rfl S_api_File.p1 (Nat.le_of_ble_eq_true rfl)) ?_;refine WPL.gq rfl (lb hb5) (q_load_ro sc23 rfl rfl) ?_;refine WPL.gq rfl (lb hb5) (q_bytes_str Tryz.underlying23 Tryz.underlying5 Tryz.underlying9 rfl) ?_;obtain ⟨x12,h8,H⟩:=bnd H;refine sn (nm_bool h8) ?_;refine sp ?_;refine WPL.nilW ?_;have q0:=j1 H;subst q0;exact wq [2]
 (iterate 2 refine sp ?_);refine cq H (fun hb6 H=>?_) fun hb6 H=>?_
 · (iterate 4 refine sp ?_);have q0:=j1 H;subst q0;exact W.now (Then.r (mb []))
 (iterate 5 refine sp ?_);obtain ⟨x13,h9,H⟩:=bnd H;refine WPL.qq (q_index_row sl23 rfl rfl rfl (ixs h9)) ?_;refine WPL.qq (q_load_row (j:=(Int.toNat 31)) sc5 rfl rfl (ixj h9)) ?_;refine sp ?_;obtain ⟨x14,h10,H⟩:=bnd H;refine WPL.qq (q_index_row sl23 rfl rfl rfl (ixs h10)) ?_;refine WPL.s (s_store_row (j:=(Int.toNat 31)) (d:=(IntKind.wrap .u8 (x13+1))) sz5 rfl rfl rfl rfl Joins.sc (ixl h10)) ?_;(iterate 3 refine sp ?_);obtain ⟨⟨x15,x16⟩,h10,H⟩:=bnd H;refine WPL.c (rc [] [] 1 [0] (s_zip_Read k (List.set x3 (Int.toNat 31) (IntKind.wrap .u8 (x13+1))) 9 x15 x16 h10)) rfl ?_;(iterate 12 refine sp ?_);have q0:=j1 H;subst q0;exact W.now (mb [])
theorem s_quirelaw05_ZipTurned (k:Nat) (x1:(List S_api_File)) (x2:Int) (x3:Int) (x4:Bool) (H:g_quirelaw05_ZipTurned k x1 x2 x3=some x4):Go.Q.Spec Tryz.prog 5 0 [.ro (Rd.slice rdS_api_File) false x1,.lit (.int .i64 x2),.lit (.int .u8 x3)] Mem.nil (fun o M=>o=.ret (.lit (.bool x4))∧M=Mem.nil):=by
 unfold g_quirelaw05_ZipTurned at H;refine bo Tryz.func5 [] [.tmp 6] 62 fun cx hnp=>?_;(iterate 5 refine sp ?_);obtain ⟨⟨x5,x6⟩,h1,H⟩:=bnd H;refine WPL.c (rc [] [0] 1 [] (s_zip_Write k x1 0 x5 x6 h1)) rfl ?_;(iterate 6 refine sp ?_);refine WP.seq ?_;refine WP.seq ?_;obtain ⟨x7,H1,H⟩:=bnd H;refine mo .normal ((((Env.none.upd 1 (.lit (.int .i64 x2))).upd 2 (.lit (.int .u8 x3))).upd 7 (.whole 0)).upd 36 (.lit (.bool x7))) (Mem.nil.push (.row 5 (Rd.int .u8) x6)) ?_ ?_
 · clear H;have H:=H1;clear H1;(iterate 4 refine sp ?_);refine ws 18 H (fun hb1 H=>?_) fun hb1 H=>?_
   · (iterate 18 refine sp ?_);refine WPL.nilW ?_;have q0:=j1 H;subst q0;exact wq [0]
   (iterate 4 refine sp ?_);refine ws 22 H (fun hb2 H=>?_) fun hb2 H=>?_
   · (iterate 14 refine sp ?_);refine WPL.nilW ?_;have q0:=j1 H;subst q0;exact wq [0]
   (iterate 4 refine sp ?_);refine ws 26 H (fun hb3 H=>?_) fun hb3 H=>?_
   · (iterate 10 refine sp ?_);refine WPL.nilW ?_;have q0:=j1 H;subst q0;exact wq [0]
   (iterate 3 refine sp ?_);obtain ⟨x8,h2,H⟩:=bnd H;refine sn (nm_bool h2) ?_;(iterate 2 refine sp ?_);refine ws 32 H (fun hb4 H=>?_) fun hb4 H=>?_
   · (iterate 4 refine sp ?_);refine WPL.nilW ?_;have q0:=j1 H;subst q0;exact wq [0]
   (iterate 2 refine sp ?_);obtain ⟨x9,h3,H⟩:=bnd H;refine sn (nm_bool h3) ?_;refine sp ?_;refine WPL.nilW ?_;have q0:=j1 H;subst q0;exact wq [0]
 (iterate 2 refine sp ?_);refine cq H (fun hb5 H=>?_) fun hb5 H=>?_
 · refine sp ?_;obtain ⟨x10,h4,H⟩:=bnd H;refine WPL.c (rc [] [] 1 [] (s_quirelaw05_alive k x10 h4)) rfl ?_;(iterate 3 refine sp ?_);have q0:=j1 H;subst q0;exact W.now (Then.r (mb []))
 (iterate 8 refine sp ?_);obtain ⟨x11,h5,H⟩:=bnd H;refine WPL.qq (q_index_row sl23 rfl rfl rfl (ixs h5)) ?_;refine WPL.qq (q_load_row (j:=(Int.toNat x2)) sc5 rfl rfl (ixj h5)) ?_;(iterate 2 refine sp ?_);obtain ⟨x12,h6,H⟩:=bnd H;refine WPL.qq (q_index_row sl23 rfl rfl rfl (ixs h6)) ?_;refine WPL.s (s_store_row (j:=(Int.toNat x2)) (d:=(bits .xor .u8 x11 x3)) sz5 rfl rfl rfl rfl Joins.sc (ixl h6)) ?_;(iterate 3 refine sp ?_);obtain ⟨⟨x13,x14⟩,h6,H⟩:=bnd H;refine WPL.c (rc [] [] 1 [0] (s_zip_Read k (List.set x6 (Int.toNat x2) (bits .xor .u8 x11 x3)) 1073741824 x13 x14 h6)) rfl ?_;(iterate 6 refine sp ?_);refine WP.seq ?_;obtain ⟨x15,H2,H⟩:=bnd H;refine mo .normal (Env.none.upd 6 (.lit (.bool x15))) Mem.nil ?_ ?_
 · clear H;have H:=H2;clear H2;(iterate 4 refine sp ?_);refine ws 54 H (fun hb6 H=>?_) fun hb6 H=>?_
   · (iterate 2 refine sp ?_);obtain ⟨x16,h7,H⟩:=bnd H;refine sn (nm_bool h7) ?_;(iterate 2 refine sp ?_);refine ws 59 H (fun hb7 H=>?_) fun hb7 H=>?_
     · obtain ⟨x17,h8,H⟩:=bnd H;refine WPL.cg rfl rfl (lb hb7) (rc [] [] 1 [] (s_quirelaw05_alive k x17 h8)) rfl ?_;(iterate 2 refine sp ?_);refine WPL.nilW ?_;have q0:=j1 H;subst q0;exact wq []
     (iterate 3 refine sp ?_);refine WPL.nilW ?_;have q0:=j1 H;subst q0;exact wq []
   (iterate 8 refine sp ?_);refine WPL.nilW ?_;have q0:=j1 H;subst q0;exact wq []
 (iterate 3 refine sp ?_);have q0:=j1 H;subst q0;exact W.now (mb [])
theorem aliveZ (k:Nat):g_quirelaw05_alive (k+300)=some true:=by kernel_rfl
theorem tS {b x:Bool}:(bif b then some true else some x)=some (b||x):=by cases b <;> rfl
def badC (c:Nat):Bool:=decide (c<32)||(decide (126<c)||(decide (c=92)||decide (c=58)))
theorem right1 (k c:Nat):g_zip_Right_1 k (c:Int)=some (badC c):=by
  unfold g_zip_Right_1 badC
  rw [show decide ((c:Int)<32)=decide (c<32) by congr 1;exact propext (by omega),show decide ((126:Int)<c)=decide (126<c) by congr 1;exact propext (by omega),show decide ((c:Int)=92)=decide (c=92) by congr 1;exact propext (by omega),show decide ((c:Int)=58)=decide (c=58) by congr 1;exact propext (by omega)]
  simp only [tS,Option.bind_some]
theorem decL_bad {l:List UInt8} (h0:0<l.length):if byt l 0<128 then decL l=(byt l 0,1) else 126<(decL l).1:=by
  split
  · rename_i h
    exact decL_of (.inl ⟨rfl,by omega,rfl,h⟩)
  · rename_i h
    rcases decL_cases h0 with q | ⟨q,_⟩
    · unfold okL at q;omega
    · rw [q];decide
theorem index_go (k:Nat) (x:ByteArray):∀ (n p:Nat),p≤(L x).length→(L x).length - p<n →
    (∃ j:Nat,g_st_indexFunc_l0 k x true n p=some (Sum.inl (j:Int))∧∃ c∈(L x).drop p,badC c.toNat=true)∨(g_st_indexFunc_l0 k x true n p=some (Sum.inr ())∧∀ c∈(L x).drop p,badC c.toNat=false):=by
  intro n
  induction n with
  | zero=>intro p _ h;omega
  | succ n ih =>
    intro p hp hn
    rw [g_st_indexFunc_l0.eq_2,decode_L,L_size]
    by_cases h:p<(L x).length
    · have hl:0<((L x).drop p).length:=by rw [List.length_drop];omega
      have hb:=decL_bad hl
      have e0:byt ((L x).drop p) 0=(L x)[p].toNat:=by simp [byt_drop,byt,List.getD_eq_getElem?_getD,List.getElem?_eq_getElem h]
      have ed:(L x).drop p=(L x)[p]::(L x).drop (p+1):=List.drop_eq_getElem_cons h
      rw [dt h,right1]
      simp only [bt,Option.bind_some]
      by_cases hbd:badC (L x)[p].toNat=true
      · have:badC (decL ((L x).drop p)).1=true:=by
          split at hb
          · rw [hb,e0];exact hbd
          · unfold badC;simp [hb]
        rw [this]
        simp only [beq_self_eq_true,bt]
        exact .inl ⟨p,rfl,_,by rw [ed];exact List.mem_cons_self ..,hbd⟩
      · have hlt:byt ((L x).drop p) 0<128:=by
          by_cases hc:byt ((L x).drop p) 0<128
          · exact hc
          · exfalso;apply hbd;unfold badC;rw [← e0];simp;omega
        rw [if_pos hlt] at hb
        have hbf:badC (L x)[p].toNat=false:=by simpa using hbd
        rw [hb,e0,hbf]
        simp only [show (false==true)=false from rfl,bf]
        rcases ih (p+1) (by omega) (by omega) with ⟨j,q1,c,q2,q3⟩ | ⟨q1,q2⟩
        · exact .inl ⟨j,q1,c,by rw [ed];exact List.mem_cons_of_mem _ q2,q3⟩
        · refine .inr ⟨q1,fun c hc=>?_⟩
          rw [ed] at hc
          rcases List.mem_cons.1 hc with rfl | hc
          · exact hbf
          · exact q2 c hc
    · rw [df h]
      exact .inr ⟨rfl,fun c hc=>by rw [List.drop_of_length_le (by omega)] at hc;simp at hc⟩
def anyBad (l:List UInt8):Bool:=l.any fun c=>badC c.toNat
theorem contains_eq (k:Nat) (x:ByteArray) (hk:(L x).length<k):g_st_ContainsFunc k x=some (anyBad (L x)):=by
  unfold g_st_ContainsFunc g_st_IndexFunc g_st_indexFunc
  rcases index_go k x k 0 (Nat.zero_le _) (by omega) with ⟨j,q1,c,q2,q3⟩ | ⟨q1,q2⟩
  · rw [q1]
    simp only [Option.bind_some]
    rw [dt (by omega)]
    congr 1;symm
    exact List.any_eq_true.2 ⟨c,by simpa using q2,q3⟩
  · rw [q1]
    simp only [Option.bind_some]
    rw [df (by decide)]
    congr 1;symm
    rw [anyBad,List.any_eq_false]
    intro c hc
    rw [q2 c (by simpa using hc)];decide
theorem zgetB (s:ByteArray) (i:Nat):s[i]! = (L s).getD i 0:=by
  by_cases h:i<s.size
  · have h':i<(L s).length:=by rw [← L_size];exact h
    rw [getElem!_pos s i h,List.getD_eq_getElem?_getD,List.getElem?_eq_getElem h']
    rfl
  · have h':¬ i<(L s).length:=by rw [← L_size];exact h
    rw [getElem!_neg s i h,List.getD_eq_getElem?_getD,List.getElem?_eq_none (by omega)]
    rfl
theorem zix_none {s:ByteArray} (h:∀ c∈L s,c≠47):ixByte s 47 = -1:=by
  unfold ixByte
  have:(List.range s.size).find? (fun i=>s[i]! == (47:Int).toNat.toUInt8)=none:=by
    rw [List.find?_eq_none]
    intro i hi
    have hi':i<(L s).length:=by rw [← L_size];simpa using hi
    rw [zgetB,List.getD_eq_getElem?_getD,List.getElem?_eq_getElem hi']
    have:=h _ (List.getElem_mem hi')
    simpa using this
  rw [this]
theorem zix_some {s:ByteArray} {a b:List UInt8} (h:L s=a++47::b) (ha:∀ c∈a,c≠47):ixByte s 47=(a.length:Int):=by
  unfold ixByte
  have:(List.range s.size).find? (fun i=>s[i]! == (47:Int).toNat.toUInt8)=some a.length:=by
    rw [List.find?_range_eq_some]
    refine ⟨?_,?_,?_⟩
    · rw [zgetB,h];simp
    · simp [L_size,h]
    · intro j hj
      rw [zgetB,h,List.getD_eq_getElem?_getD,List.getElem?_append_left hj,List.getElem?_eq_getElem hj]
      have:=ha _ (List.getElem_mem hj)
      simpa using this
  rw [this]
theorem zindex_eq {k:Nat} {s:ByteArray}:g_st_Index k s (ByteArray.mk #[47])=some (ixByte s 47):=by
  unfold g_st_Index g_sl_Index
  rw [show (decide (((ByteArray.size (ByteArray.mk #[47]):Nat):Int)=0))=false from rfl,show (decide (((ByteArray.size (ByteArray.mk #[47]):Nat):Int)=1))=true from rfl]
  simp only [Option.bind_some,bf,bt,beq_toList]
  by_cases h:L (ByteArray.mk #[47])=L s
  · rw [dt h]
    have:ixByte s 47=((([]:List UInt8).length:Nat):Int):=zix_some (b:=[]) (by rw [← h];rfl) (by simp)
    simp only [Option.bind_some,bt,this]
    rfl
  · rw [df h]
    simp only [bf]
    rw [show ix (strInts (ByteArray.mk #[47])) 0=some 47 from rfl]
    rfl
theorem first47:∀ (l:List UInt8),(∀ c∈l,c≠47)∨∃ a b,l=a++47::b∧∀ c∈a,c≠47
  | []=>.inl (by simp)
  | c::l=>by
    by_cases h:c=47
    · subst h;exact .inr ⟨[],l,rfl,by simp⟩
    · rcases first47 l with q | ⟨a,b,rfl,q⟩
      · exact .inl fun d hd=>by
          rcases List.mem_cons.1 hd with rfl | hd
          · exact h
          · exact q d hd
      · exact .inr ⟨c::a,b,rfl,fun d hd=>by
          rcases List.mem_cons.1 hd with rfl | hd
          · exact h
          · exact q d hd⟩
def bd (p:List UInt8):Bool:=decide (p=[])||(decide (p=[46])||decide (p=[46,46]))
theorem bd_eq (x:ByteArray):(bif x.toList==(ByteArray.mk #[]).toList then some true else (bif x.toList==(ByteArray.mk #[46]).toList then some true else some (x.toList==(ByteArray.mk #[46,46]).toList)))=some (bd (L x)):=by
  simp only [beq_toList,show L (ByteArray.mk #[])=[] from rfl,show L (ByteArray.mk #[46])=[46] from rfl,show L (ByteArray.mk #[46,46])=[46,46] from rfl,tS,bd]
def rgt:List UInt8→List UInt8→Bool
  | p,[]=>!bd p
  | p,c::l=>if c=47 then !bd p&&rgt [] l else if badC c.toNat then false else rgt (p++[c]) l
theorem rgt_no:∀ (a p:List UInt8),(∀ c∈a,c≠47)→anyBad a=false→rgt p a=!bd (p++a)
  | [],p,_,_=>by rw [rgt,List.append_nil]
  | c::a,p,h,hb=>by
    rw [anyBad,List.any_cons,Bool.or_eq_false_iff] at hb
    rw [rgt,if_neg (h c (List.mem_cons_self ..)),hb.1]
    simp only [Bool.false_eq_true,if_false]
    rw [rgt_no a _ (fun d hd=>h d (List.mem_cons_of_mem _ hd)) hb.2,List.append_assoc];rfl
theorem rgt_at:∀ (a p b:List UInt8),(∀ c∈a,c≠47)→anyBad a=false→rgt p (a++47::b)=(!bd (p++a)&&rgt [] b)
  | [],p,b,_,_=>by rw [List.nil_append,rgt,if_pos rfl,List.append_nil]
  | c::a,p,b,h,hb=>by
    rw [anyBad,List.any_cons,Bool.or_eq_false_iff] at hb
    rw [List.cons_append,rgt,if_neg (h c (List.mem_cons_self ..)),hb.1]
    simp only [Bool.false_eq_true,if_false]
    rw [rgt_at a _ b (fun d hd=>h d (List.mem_cons_of_mem _ hd)) hb.2,List.append_assoc];rfl
theorem bad47:badC (47:UInt8).toNat=false:=by decide
theorem rgt_bad:∀ (l p:List UInt8),anyBad l=true→rgt p l=false
  | [],_,h=>by simp [anyBad] at h
  | c::l,p,h=>by
    rw [rgt]
    rw [anyBad,List.any_cons,Bool.or_eq_true] at h
    split
    · rename_i hc
      subst hc
      rw [bad47] at h
      rw [rgt_bad l [] (h.resolve_left (by decide)),Bool.and_false]
    · split
      · rfl
      · rename_i hb
        exact rgt_bad l _ (h.resolve_left (by simpa using hb))
theorem parts_go (k:Nat):∀ (n:Nat) (s:ByteArray),(L s).length<n→(L s).length≤1000000→anyBad (L s)=false →
    (∃ x,g_zip_Right_l1 k n s=some (Sum.inl x)∧rgt [] (L s)=!bd (L x))∨(∃ x,g_zip_Right_l1 k n s=some (Sum.inr x)∧rgt [] (L s)=false):=by
  intro n
  induction n with
  | zero=>intro s h;omega
  | succ n ih =>
    intro s hn hl hb
    rw [g_zip_Right_l1.eq_2,zindex_eq]
    simp only [Option.bind_some]
    simp only [bd_eq]
    rcases first47 (L s) with q | ⟨a,b,e,q⟩
    · rw [zix_none q,dt (by decide)]
      exact .inl ⟨s,rfl,by rw [rgt_no _ _ q hb];rfl⟩
    · have hlen:(L s).length=a.length+1+b.length:=by rw [e];simp;omega
      have hab:anyBad a=false∧anyBad b=false:=by
        rw [e,anyBad,List.any_append,List.any_cons,Bool.or_eq_false_iff,Bool.or_eq_false_iff] at hb
        exact ⟨hb.1,hb.2.2⟩
      have hx:L (ByteArray.extract s (Int.toNat 0) (Int.toNat (a.length:Int)))=a:=by
        rw [L_extract,e];simp
      have hy:L (ByteArray.extract s (Int.toNat (((a.length+1:Nat):Int))) (Int.toNat ((ByteArray.size s:Nat):Int)))=b:=by
        rw [L_extract,Int.toNat_natCast,Int.toNat_natCast,L_size,hlen,e,List.drop_append,List.drop_of_length_le (by omega),show a.length+1 - a.length=1 by omega]
        simp only [List.nil_append,List.drop_succ_cons,List.drop_zero]
        rw [List.take_of_length_le (by omega)]
      rw [zix_some e q,df (by omega),wi (n:=(a.length:Int)+0) (by omega) (by omega),Int.add_zero,dt (by rw [L_size];omega)]
      simp only [bf,bt]
      rw [hx]
      rw [e,rgt_at a [] b q hab.1,List.nil_append]
      cases hbd:bd a with
      | true=>exact .inr ⟨s,rfl,rfl⟩
      | false =>
        simp only [bf,Option.bind_some]
        rw [show ((ByteArray.size (ByteArray.mk #[47]):Nat):Int)=1 from rfl,wi (n:=(a.length:Int)+1) (by omega) (by omega),dt (by rw [L_size];omega),show (a.length:Int)+1=((a.length+1:Nat):Int) by omega]
        simp only [bt]
        rcases ih _ (by rw [hy];omega) (by rw [hy];omega) (by rw [hy];exact hab.2) with ⟨x,q1,q2⟩ | ⟨x,q1,q2⟩
        · rw [hy] at q2
          exact .inl ⟨x,q1,by rw [q2];simp⟩
        · rw [hy] at q2
          exact .inr ⟨x,q1,by rw [q2];simp⟩
def okName (l:List UInt8):Bool:=decide (l.length≤255)&&rgt [] l
theorem right_eq (k:Nat) (x:ByteArray) (hk:300≤k):g_zip_Right k x=some (okName (L x)):=by
  unfold g_zip_Right okName
  rw [L_size]
  by_cases h:255<(L x).length
  · rw [dt (by omega),df (by omega)];rfl
  · rw [df (by omega),dt (by omega)]
    simp only [Option.bind_some,bf]
    rw [contains_eq k x (by omega)]
    simp only [Option.bind_some]
    cases hb:anyBad (L x) with
    | true=>rw [rgt_bad _ _ hb];rfl
    | false =>
      simp only [bf]
      unfold g_st_SplitSeq g_st_splitSeq
      simp only [Option.bind_some]
      rw [show decide (((ByteArray.size (ByteArray.mk #[47]):Nat):Int)=0)=false from rfl]
      simp only [bf,Option.bind_some]
      simp only [bd_eq]
      rcases parts_go k k x (by omega) (by omega) hb with ⟨y,q1,q2⟩ | ⟨y,q1,q2⟩
      · rw [q1,q2]
        simp only [Option.bind_some]
        cases bd (L y) <;> rfl
      · rw [q1,q2];rfl
end Go.Proofs.YtaphblcbnhnpaaaGreatDoor.W
namespace Go.Q
set_option linter.unusedVariables false
def zle:Nat→Nat→List UInt8
  | 0,_=>[]
  | n+1,v=>UInt8.ofNat v::zle n (v / 256)
def zlv:List UInt8→Nat
  | []=>0
  | b::l=>b.toNat+256*zlv l
theorem zle_len:∀ (n v:Nat),(zle n v).length=n
  | 0,_=>rfl
  | n+1,v=>by rw [zle,List.length_cons,zle_len]
theorem zlv_le:∀ (n v:Nat),zlv (zle n v)=v%256^n
  | 0,v=>by simp [zle,zlv,Nat.mod_one]
  | n+1,v=>by
    rw [zle,zlv,zlv_le n,Nat.pow_succ,Nat.mul_comm (256^n) 256,Nat.mod_mul]
    show v%256+_=_
    rfl
theorem zlv_lt:∀ (l:List UInt8),zlv l<256^l.length
  | []=>by simp [zlv]
  | b::l=>by
    have hb:=b.toNat_lt
    have:=zlv_lt l
    rw [zlv,List.length_cons,Nat.pow_succ]
    omega
theorem zle_inj {n v w:Nat} (h:zle n v=zle n w) (hv:v<256^n) (hw:w<256^n):v=w:=by
  have:=congrArg zlv h
  rw [zlv_le,zlv_le,Nat.mod_eq_of_lt hv,Nat.mod_eq_of_lt hw] at this
  exact this
structure Ent where
  meth:Nat
  crc:Nat
  packed:Nat
  size:Nat
  name:List UInt8
  at_:Nat
structure Ent.ok (e:Ent):Prop where
  meth:e.meth<65536
  crc:e.crc<4294967296
  packed:e.packed<4294967296
  size:e.size<4294967296
  name:e.name.length<65536
  at_:e.at_<4294967296
def sumsB (e:Ent):List UInt8:=zle 2 0++(zle 2 e.meth++(zle 2 0++(zle 2 33++(zle 4 e.crc++(zle 4 e.packed++(zle 4 e.size++zle 2 e.name.length))))))
def localB (e:Ent):List UInt8:=[80,75,3,4]++(zle 2 20++(sumsB e++(zle 2 0++e.name)))
def centralB (e:Ent):List UInt8:=[80,75,1,2]++(zle 2 20++(zle 2 20++(sumsB e++(zle 2 0++(zle 2 0++(zle 2 0++(zle 2 0++(zle 4 0++(zle 4 e.at_++e.name)))))))))
def endB (many size at_:Nat):List UInt8:=[80,75,5,6]++(zle 2 0++(zle 2 0++(zle 2 many++(zle 2 many++(zle 4 size++(zle 4 at_++zle 2 0))))))
theorem sums_len (e:Ent):(sumsB e).length=22:=by simp [sumsB,zle_len]
theorem local_len (e:Ent):(localB e).length=30+e.name.length:=by simp [localB,sums_len,zle_len];omega
theorem central_len (e:Ent):(centralB e).length=46+e.name.length:=by simp [centralB,sums_len,zle_len];omega
theorem end_len (a b c:Nat):(endB a b c).length=22:=by simp [endB,zle_len]
theorem zapp {α:Type} {a b c d:List α} (h:a++b=c++d) (hl:a.length=c.length):a=c∧b=d:=List.append_inj h hl
theorem local_inj {e f:Ent} {r s:List UInt8} (he:e.ok) (hf:f.ok) (h:localB e++r=localB f++s):e.meth=f.meth∧e.crc=f.crc∧e.packed=f.packed∧e.size=f.size∧e.name=f.name∧r=s:=by
  unfold localB sumsB at h
  simp only [List.append_assoc] at h
  have h:=(zapp h rfl).2
  have h:=(zapp h (by simp only [zle_len])).2
  have h:=(zapp h (by simp only [zle_len])).2
  obtain ⟨a1,h⟩:=zapp h (by simp only [zle_len])
  have h:=(zapp h (by simp only [zle_len])).2
  have h:=(zapp h (by simp only [zle_len])).2
  obtain ⟨a2,h⟩:=zapp h (by simp only [zle_len])
  obtain ⟨a3,h⟩:=zapp h (by simp only [zle_len])
  obtain ⟨a4,h⟩:=zapp h (by simp only [zle_len])
  obtain ⟨a5,h⟩:=zapp h (by simp only [zle_len])
  have h:=(zapp h (by simp only [zle_len])).2
  have hn:=zle_inj a5 he.name hf.name
  obtain ⟨a6,h⟩:=zapp h hn
  exact ⟨zle_inj a1 he.meth hf.meth,zle_inj a2 he.crc hf.crc,zle_inj a3 he.packed hf.packed,zle_inj a4 he.size hf.size,a6,h⟩
def zfld (l:List UInt8) (o n:Nat):Nat:=zlv ((l.drop o).take n)
theorem zfld_at {o n v:Nat} {l p r:List UInt8} (h:l=p++(zle n v++r)) (hp:p.length=o) (hv:v<256^n):zfld l o n=v:=by
  unfold zfld
  rw [h,List.drop_left' hp,List.take_left' (zle_len n v),zlv_le,Nat.mod_eq_of_lt hv]
theorem central_fld {e:Ent} (r:List UInt8) (he:e.ok) :
    zfld (centralB e++r) 10 2=e.meth∧zfld (centralB e++r) 16 4=e.crc∧zfld (centralB e++r) 20 4=e.packed∧zfld (centralB e++r) 24 4=e.size∧zfld (centralB e++r) 28 2=e.name.length∧zfld (centralB e++r) 42 4=e.at_∧((centralB e++r).drop 46).take e.name.length=e.name:=by
  have a1:centralB e++r=([80,75,1,2]++(zle 2 20++(zle 2 20++zle 2 0)))++(zle 2 e.meth++((zle 2 0++(zle 2 33++(zle 4 e.crc++(zle 4 e.packed++(zle 4 e.size++zle 2 e.name.length)))))++((zle 2 0++(zle 2 0++(zle 2 0++(zle 2 0++(zle 4 0++(zle 4 e.at_++e.name))))))++r))):=by
    unfold centralB sumsB;simp only [List.append_assoc]
  have a2:centralB e++r=([80,75,1,2]++(zle 2 20++(zle 2 20++(zle 2 0++(zle 2 e.meth++(zle 2 0++zle 2 33))))))++(zle 4 e.crc++((zle 4 e.packed++(zle 4 e.size++zle 2 e.name.length))++((zle 2 0++(zle 2 0++(zle 2 0++(zle 2 0++(zle 4 0++(zle 4 e.at_++e.name))))))++r))):=by
    unfold centralB sumsB;simp only [List.append_assoc]
  have a3:centralB e++r=([80,75,1,2]++(zle 2 20++(zle 2 20++(zle 2 0++(zle 2 e.meth++(zle 2 0++(zle 2 33++zle 4 e.crc)))))))++(zle 4 e.packed++((zle 4 e.size++zle 2 e.name.length)++((zle 2 0++(zle 2 0++(zle 2 0++(zle 2 0++(zle 4 0++(zle 4 e.at_++e.name))))))++r))):=by
    unfold centralB sumsB;simp only [List.append_assoc]
  have a4:centralB e++r=([80,75,1,2]++(zle 2 20++(zle 2 20++(zle 2 0++(zle 2 e.meth++(zle 2 0++(zle 2 33++(zle 4 e.crc++zle 4 e.packed))))))))++(zle 4 e.size++(zle 2 e.name.length++((zle 2 0++(zle 2 0++(zle 2 0++(zle 2 0++(zle 4 0++(zle 4 e.at_++e.name))))))++r))):=by
    unfold centralB sumsB;simp only [List.append_assoc]
  have a5:centralB e++r=([80,75,1,2]++(zle 2 20++(zle 2 20++(zle 2 0++(zle 2 e.meth++(zle 2 0++(zle 2 33++(zle 4 e.crc++(zle 4 e.packed++zle 4 e.size)))))))))++(zle 2 e.name.length++((zle 2 0++(zle 2 0++(zle 2 0++(zle 2 0++(zle 4 0++(zle 4 e.at_++e.name))))))++r)):=by
    unfold centralB sumsB;simp only [List.append_assoc]
  have a6:centralB e++r=([80,75,1,2]++(zle 2 20++(zle 2 20++(sumsB e++(zle 2 0++(zle 2 0++(zle 2 0++(zle 2 0++zle 4 0))))))))++(zle 4 e.at_++(e.name++r)):=by
    unfold centralB;simp only [List.append_assoc]
  have a7:centralB e++r=(([80,75,1,2]++(zle 2 20++(zle 2 20++(sumsB e++(zle 2 0++(zle 2 0++(zle 2 0++(zle 2 0++zle 4 0))))))))++zle 4 e.at_)++(e.name++r):=by
    unfold centralB;simp only [List.append_assoc]
  refine ⟨zfld_at a1 (by simp [zle_len]) he.meth,zfld_at a2 (by simp [zle_len]) he.crc,zfld_at a3 (by simp [zle_len]) he.packed,zfld_at a4 (by simp [zle_len]) he.size,zfld_at a5 (by simp [zle_len]) he.name,zfld_at a6 (by simp [zle_len,sums_len]) he.at_,?_⟩
  rw [a7,List.drop_left' (by simp [zle_len,sums_len]),List.take_left]
def crcStep (x:BitVec 32):BitVec 32:=(x >>> 1) ^^^ (3988292384#32 &&& -(x &&& 1#32))
def crcIt:Nat→BitVec 32→BitVec 32
  | 0,x=>x
  | n+1,x=>crcIt n (crcStep x)
def crcRow:List Int→BitVec 32→BitVec 32
  | [],x=>x
  | c::l,x=>crcRow l (crcIt 8 (x ^^^ BitVec.ofInt 32 c))
theorem one_and (x:BitVec 32):(x &&& 1#32=0#32∧x.getLsbD 0=false)∨(x &&& 1#32=1#32∧x.getLsbD 0=true):=by
  rcases Nat.mod_two_eq_zero_or_one x.toNat with h | h
  · left;exact ⟨by apply BitVec.eq_of_toNat_eq;simp [Nat.and_one_is_mod,h],by simp [BitVec.getLsbD,h]⟩
  · right;exact ⟨by apply BitVec.eq_of_toNat_eq;simp [Nat.and_one_is_mod,h],by simp [BitVec.getLsbD,h]⟩
theorem step0 {x:BitVec 32} (h:x &&& 1#32=0#32):crcStep x=x >>> 1:=by unfold crcStep;rw [h];simp
theorem step1 {x:BitVec 32} (h:x &&& 1#32=1#32):crcStep x=(x >>> 1) ^^^ 3988292384#32:=by
  unfold crcStep;rw [h,show -(1#32)=BitVec.allOnes 32 from by decide,BitVec.and_allOnes]
theorem top0 (x:BitVec 32):(x >>> 1).getLsbD 31=false:=by rw [BitVec.getLsbD_ushiftRight];exact BitVec.getLsbD_of_ge _ _ (by omega)
theorem shr_inj {x y:BitVec 32} (h:x >>> 1=y >>> 1) (h0:x.getLsbD 0=y.getLsbD 0):x=y:=by
  apply BitVec.eq_of_getLsbD_eq
  intro i hi
  rcases Nat.eq_zero_or_pos i with rfl | hp
  · exact h0
  · have:=congrArg (fun z=>z.getLsbD (i - 1)) h
    simp only [BitVec.getLsbD_ushiftRight] at this
    rw [show 1+(i - 1)=i by omega] at this
    exact this
theorem xor_cancel {a b c:BitVec 32} (h:a ^^^ c=b ^^^ c):a=b:=by
  have:=congrArg (· ^^^ c) h
  simpa [BitVec.xor_assoc] using this
theorem crcStep_inj {x y:BitVec 32} (h:crcStep x=crcStep y):x=y:=by
  have t:(3988292384#32).getLsbD 31=true:=by decide
  rcases one_and x with ⟨hx,ex⟩ | ⟨hx,ex⟩ <;> rcases one_and y with ⟨hy,ey⟩ | ⟨hy,ey⟩
  · rw [step0 hx,step0 hy] at h;exact shr_inj h (by rw [ex,ey])
  · rw [step0 hx,step1 hy] at h
    have:=congrArg (fun z=>z.getLsbD 31) h
    simp only [BitVec.getLsbD_xor,top0,t] at this
    cases this
  · rw [step1 hx,step0 hy] at h
    have:=congrArg (fun z=>z.getLsbD 31) h
    simp only [BitVec.getLsbD_xor,top0,t] at this
    cases this
  · rw [step1 hx,step1 hy] at h
    exact shr_inj (xor_cancel h) (by rw [ex,ey])
theorem crcIt_inj:∀ (n:Nat) {x y:BitVec 32},crcIt n x=crcIt n y→x=y
  | 0,_,_,h=>h
  | n+1,_,_,h=>crcStep_inj (crcIt_inj n h)
theorem crcRow_inj:∀ (l:List Int) {x y:BitVec 32},crcRow l x=crcRow l y→x=y
  | [],_,_,h=>h
  | c::l,_,_,h=>xor_cancel (crcIt_inj 8 (crcRow_inj l h))
theorem crcRow_app:∀ (l m:List Int) (x:BitVec 32),crcRow (l++m) x=crcRow m (crcRow l x)
  | [],_,_=>rfl
  | _::l,m,_=>crcRow_app l m _
theorem crcRow_ne {l m:List Int} {c d:Int} {x:BitVec 32} (hc:0≤c) (hc':c<256) (hd:0≤d) (hd':d<256) (h:crcRow (l++c::m) x=crcRow (l++d::m) x):c=d:=by
  rw [crcRow_app,crcRow_app] at h
  have h:=crcIt_inj 8 (crcRow_inj m h)
  rw [BitVec.xor_comm,BitVec.xor_comm _ (BitVec.ofInt 32 d)] at h
  have h:=congrArg BitVec.toInt (xor_cancel h)
  rw [BitVec.toInt_ofInt,BitVec.toInt_ofInt,Int.bmod_eq_of_le (by omega) (by omega),Int.bmod_eq_of_le (by omega) (by omega)] at h
  exact h
end Go.Q
namespace Go.Proofs.YtaphblcbnhnpaaaGreatDoor.W
open Go Go.Q Go.Proofs
set_option linter.unusedVariables false
set_option linter.unusedSimpArgs false
theorem zt8 (a:Nat):Int.tmod (a:Int) 8=((a%8:Nat):Int):=rfl
theorem zbit {v:BitVec 32} {i:Nat}:bits .and .u8 (IntKind.wrap .u8 (shrI .u32 (v.toNat:Int) (i:Int))) 1=(((v >>> i).setWidth 8 &&& 1#8).toNat:Int):=by
  rw [u32_shr,u8_of_u32,show (1:Int)=((1#8).toNat:Int) from rfl,u8_and];rfl
theorem zacc {v:BitVec 32} {i:Nat} {a:BitVec 8} (hi:i<8) (ha:∀ j,j<8→a.getLsbD j=(decide (j<i)&&v.getLsbD j)) :
    ∀ j,j<8→(a ||| (((v >>> i).setWidth 8 &&& 1#8) <<< i)).getLsbD j=(decide (j<i+1)&&v.getLsbD j):=by
  intro j hj
  rw [BitVec.getLsbD_or,ha j hj,BitVec.getLsbD_shiftLeft,BitVec.getLsbD_and,BitVec.getLsbD_one,BitVec.getLsbD_setWidth,BitVec.getLsbD_ushiftRight]
  rcases Nat.lt_trichotomy j i with h | h | h
  · simp [h,show j<i+1 by omega,hj]
  · subst h;simp [hj]
  · simp [show ¬ j<i by omega,show ¬ j<i+1 by omega,show ¬ (j - i=0) by omega]
theorem put8_go (k:Nat) (v:BitVec 32) (l:List Int) (hl:l.length≤1099511627776):∀ (m i:Nat) (a:BitVec 8),1≤i→i≤8→8 - i<m→(∀ j,j<8→a.getLsbD j=(decide (j<i)&&v.getLsbD j)) →
    g_bits_Writer_Put_l0 k (v.toNat:Int) 8 m (i:Int) ((8*l.length+i:Nat):Int) (l++[(a.toNat:Int)])=some (((8*(l.length+1):Nat):Int),l++[((v.setWidth 8).toNat:Int)]):=by
  intro m
  induction m with
  | zero=>intro i a _ _ h;omega
  | succ m ih =>
    intro i a h1 h8 hm ha
    rw [g_bits_Writer_Put_l0.eq_2]
    by_cases h:i<8
    · rw [dt (show (i:Int)<8 by omega),dt (show (0:Int)≤(i:Int) by omega),zbit,zt8,show (8*l.length+i)%8=i by omega,df (show ¬ ((i:Nat):Int)=0 by omega)]
      simp only [cond_true,cond_false,Option.bind_some]
      have hx:(l++[(a.toNat:Int)]).length=l.length+1:=by simp
      rw [hx,wi (n:=((l.length+1:Nat):Int) - 1) (by omega) (by omega),show ((l.length+1:Nat):Int) - 1=((l.length:Nat):Int) by omega,ix_nat (by rw [hx];omega),List.getElem_append_right (Nat.le_refl _)]
      simp only [Nat.sub_self,List.getElem_cons_zero,Option.bind_some]
      rw [dt (show (0:Int)≤((i:Nat):Int) by omega)]
      simp only [cond_true,Option.bind_some]
      rw [u8_shl,u8_or,wi (by omega) (by omega),wi (by omega) (by omega),Int.toNat_natCast,Int.toNat_natCast,List.set_append_right _ _ (Nat.le_refl _)]
      simp only [Nat.sub_self,List.set_cons_zero]
      exact ih (i+1) _ (by omega) (by omega) (by omega) (zacc h ha)
    · obtain rfl:i=8:=by omega
      rw [df (show ¬ ((8:Nat):Int)<8 by omega)]
      simp only [cond_false]
      have:a=v.setWidth 8:=by
        apply BitVec.eq_of_getLsbD_eq
        intro j hj
        rw [ha j hj,BitVec.getLsbD_setWidth]
      rw [this];rfl
theorem put8 {k:Nat} (hk:12≤k) (v:BitVec 32) (l:List Int) (hl:l.length≤1099511627776) :
    g_bits_Writer_Put k (v.toNat:Int) 8 ((8*l.length:Nat):Int) l=some (0,((8*(l.length+1):Nat):Int),l++[((v.setWidth 8).toNat:Int)]):=by
  obtain ⟨k',rfl⟩:∃ k',k=k'+1:=⟨k - 1,by omega⟩
  unfold g_bits_Writer_Put
  rw [show decide ((8:Int)<0)=false from rfl,show decide ((32:Int)<8)=false from rfl]
  simp only [cond_false,Option.bind_some,g_bits_each]
  have e0:=zbit (v:=v) (i:=0)
  rw [show (((0:Nat)):Int)=0 from rfl] at e0
  rw [g_bits_Writer_Put_l0.eq_2,show decide ((0:Int)<8)=true from rfl,show decide ((0:Int)≤0)=true from rfl,e0,zt8,show (8*l.length)%8=0 by omega,show decide (((0:Nat):Int)=0)=true from rfl,dt (show (l.length+([0]:List Int).length)*1≤140737488355328 by simp;omega)]
  simp only [cond_true,Option.bind_some]
  have hx:(l++[(0:Int)]).length=l.length+1:=by simp
  rw [hx,wi (n:=((l.length+1:Nat):Int) - 1) (by omega) (by omega),show ((l.length+1:Nat):Int) - 1=((l.length:Nat):Int) by omega,ix_nat (by rw [hx];omega),List.getElem_append_right (Nat.le_refl _)]
  simp only [Nat.sub_self,List.getElem_cons_zero,Option.bind_some]
  rw [show decide ((0:Int)≤((0:Nat):Int))=true from rfl]
  simp only [cond_true,Option.bind_some]
  rw [show (0:Int)=((0#8).toNat:Int) from rfl,u8_shl,u8_or,wi (by simp) (by simp),wi (by omega) (by omega),Int.toNat_natCast,List.set_append_right _ _ (Nat.le_refl _)]
  simp only [Nat.sub_self,List.set_cons_zero]
  have:=put8_go (k'+1) v l hl k' 1 _ (by omega) (by omega) (by omega) (zacc (v:=v) (i:=0) (a:=0#8) (by omega) (fun j hj=>by simp))
  refine (congrArg (Option.bind · _) this).trans rfl
theorem shr64n {v n:Nat} (h:n≤64):shrI .i64 (v:Int) (n:Int)=((v / 2^n:Nat):Int):=by
  unfold shrI
  rw [Int.toNat_natCast,show min n (IntKind.bits .i64)=n from Nat.min_eq_left h,show ((2:Int)^n)=((2^n:Nat):Int) by norm_cast,Int.fdiv_eq_ediv_of_nonneg _ (Int.natCast_nonneg _)]
  norm_cast
theorem zle_step (m v:Nat):∀ i,i<m→(zle m v).drop i=UInt8.ofNat (v / 256^i)::(zle m v).drop (i+1):=by
  induction m generalizing v with
  | zero=>intro i h;omega
  | succ m ih =>
    intro i h
    cases i with
    | zero=>simp [zle]
    | succ i =>
      rw [zle,List.drop_succ_cons,List.drop_succ_cons,ih (v / 256) i (by omega),Nat.div_div_eq_div_mul,← Nat.pow_succ']
theorem nums1 {k:Nat} (hk:12≤k) (m v:Nat) (hm:m≤8) (hv:v<9223372036854775808):∀ (n i:Nat) (l:List Int) (q:Nat),l.length=q→i≤m→m - i<n→q+(m - i)≤1099511627776 →
    g_zip_writer_nums_l1 k (m:Int) (v:Int) n (i:Int) ((8*q:Nat):Int) l=some (((8*(q+(m - i)):Nat):Int),l++I ((zle m v).drop i)):=by
  intro n
  induction n with
  | zero=>intro i l q _ _ h;omega
  | succ n ih =>
    intro i l q hq hi hn hl
    rw [g_zip_writer_nums_l1.eq_2]
    by_cases h:i<m
    · rw [dt (show (i:Int)<(m:Int) by omega),wi (n:=8*(i:Int)) (by omega) (by omega),dt (show (0:Int)≤8*(i:Int) by omega),show 8*(i:Int)=((8*i:Nat):Int) by omega,shr64n (by omega)]
      simp only [cond_true,Option.bind_some]
      have e:IntKind.wrap .u32 ((v / 2^(8*i):Nat):Int)=((BitVec.ofNat 32 (v / 2^(8*i))).toNat:Int):=by
        rw [wrap_ofInt (k:=.u32) rfl,BitVec.ofInt_natCast];rfl
      subst hq
      rw [e,put8 hk _ l (by omega)]
      simp only [Option.bind_some]
      rw [wi (by omega) (by omega),show ((i:Int)+1)=((i+1:Nat):Int) by omega,ih (i+1) _ (l.length+1) (by simp) (by omega) (by omega) (by omega)]
      rw [zle_step m v i h,show l.length+1+(m - (i+1))=l.length+(m - i) by omega,List.append_assoc]
      have e8:(((BitVec.ofNat 32 (v / 2^(8*i))).setWidth 8).toNat)=(UInt8.ofNat (v / 256^i)).toNat:=by
        rw [BitVec.toNat_setWidth,BitVec.toNat_ofNat,UInt8.toNat_ofNat',show 256^i=2^(8*i) by rw [Nat.pow_mul]]
        omega
      rw [e8];rfl
    · obtain rfl:i=m:=by omega
      rw [df (show ¬ (i:Int)<(i:Int) by omega),List.drop_of_length_le (by rw [zle_len];omega)]
      simp [I]
theorem nums_go {k:Nat} (hk:12≤k) (m:Nat) (hm:m≤8) (vs:List Nat) (hv:∀ v∈vs,v<9223372036854775808) (hvl:vs.length≤64):∀ (n i:Nat) (l:List Int) (q:Nat),l.length=q→i≤vs.length→vs.length - i<n→q+8*(vs.length - i)≤1099511627768 →
    g_zip_writer_nums_l0 k (m:Int) (vs.map Int.ofNat) n (i:Int) ((8*q:Nat):Int) l=some (((8*(l++I ((vs.drop i).flatMap (zle m))).length:Nat):Int),l++I ((vs.drop i).flatMap (zle m))):=by
  intro n
  induction n with
  | zero=>intro i l q _ _ h;omega
  | succ n ih =>
    intro i l q hq hi hn hl
    rw [g_zip_writer_nums_l0.eq_2,List.length_map]
    by_cases h:i<vs.length
    · rw [dt (show (i:Int)<((vs.length:Nat):Int) by omega),ix_nat (by rw [List.length_map];exact h),List.getElem_map]
      simp only [cond_true,Option.bind_some]
      have e:=nums1 hk m vs[i] hm (hv _ (List.getElem_mem h)) k 0 l q hq (by omega) (by omega) (by omega)
      rw [show Int.ofNat vs[i]=((vs[i]:Nat):Int) from rfl]
      rw [show g_zip_writer_nums_l1 k (m:Int) ((vs[i]:Nat):Int) k 0 ((8*q:Nat):Int) l=_ from e]
      simp only [Option.bind_some,List.drop_zero,Nat.sub_zero]
      rw [wi (by omega) (by omega),show ((i:Int)+1)=((i+1:Nat):Int) by omega,ih (i+1) _ (q+m) (by simp [I_length,zle_len,hq]) (by omega) (by omega) (by omega),List.drop_eq_getElem_cons h,List.flatMap_cons,I_append,List.append_assoc]
    · rw [df (show ¬ (i:Int)<((vs.length:Nat):Int) by omega),List.drop_of_length_le (by omega)]
      simp [I,hq]
theorem nums {k:Nat} (hk:80≤k) (m:Nat) (hm:m≤8) (vs:List Nat) (hv:∀ v∈vs,v<9223372036854775808) (hvl:vs.length≤64) (l:List Int) (hl:l.length≤1099511627000) {zs:List Int} (hz:zs=vs.map Int.ofNat) {p:Int} (hp:p=8*(l.length:Int)) :
    g_zip_writer_nums k (m:Int) zs p l=some (((8*(l++I (vs.flatMap (zle m))).length:Nat):Int),l++I (vs.flatMap (zle m))):=by
  subst hz hp
  have e:=nums_go (k:=k) (by omega) m hm vs hv hvl k 0 l l.length rfl (by omega) (by omega) (by omega)
  unfold g_zip_writer_nums
  rw [show (8*(l.length:Int))=((8*l.length:Nat):Int) by omega,show g_zip_writer_nums_l0 k (m:Int) (vs.map Int.ofNat) k 0 ((8*l.length:Nat):Int) l=_ from e]
  rfl
theorem sums_eq {k:Nat} (hk:80≤k) (meth crc packed size:Nat) (name:ByteArray) (at_:Int) (h1:meth<9223372036854775808) (h2:crc<9223372036854775808) (h3:packed<9223372036854775808) (h4:size<9223372036854775808) (h5:name.size<9223372036854775808) (l:List Int) (hl:l.length≤1099511626000) {p:Int} (hp:p=8*(l.length:Int)) (a:Nat) :
    g_zip_writer_sums k meth crc packed size name at_ p l=some (((8*(l++I (sumsB ⟨meth,crc,packed,size,L name,a⟩)).length:Nat):Int),l++I (sumsB ⟨meth,crc,packed,size,L name,a⟩)):=by
  unfold g_zip_writer_sums
  rw [show (2:Int)=((2:Nat):Int) from rfl,nums (zs:=([0,(meth:Int),0,33]:List Int)) hk 2 (by omega) [0,meth,0,33] (by simp;omega) (by simp) l (by omega) rfl hp]
  simp only [Option.bind_some]
  rw [show (4:Int)=((4:Nat):Int) from rfl,nums (zs:=([(crc:Int),(packed:Int),(size:Int)]:List Int)) hk 4 (by omega) [crc,packed,size] (by simp;omega) (by simp) _ (by simp [I_length,zle_len];omega) rfl (by omega)]
  simp only [Option.bind_some]
  rw [nums (zs:=([((name.size:Nat):Int)]:List Int)) hk 2 (by omega) [name.size] (by simp;omega) (by simp) _ (by simp [I_length,zle_len];omega) rfl (by omega)]
  simp only [Option.bind_some]
  simp only [List.append_assoc,← I_append,sumsB,List.flatMap_cons,List.flatMap_nil,List.append_nil,L_size]
theorem wbytes {k:Nat} (l z:List Int) (p:Int) (h:l.length+z.length≤1099511627776):g_bits_Writer_Bytes__b k z p l=some (((8*(l++z).length:Nat):Int)):=by
  unfold g_bits_Writer_Bytes__b
  rw [dt (show (l.length+z.length)*1≤140737488355328 by omega),wi (by omega) (by simp;omega)]
  simp only [cond_true,Option.bind_some]
  congr 1
theorem wfirst {k:Nat} (z:List Int) (p:Int) (h:z.length≤1099511627776):g_bits_Writer_Bytes k z p=some (((8*(([]:List Int)++z).length:Nat):Int)):=by
  unfold g_bits_Writer_Bytes
  rw [dt (show (([]:List Int).length+z.length)*1≤140737488355328 by simp;omega),wi (by omega) (by simp;omega)]
  simp only [cond_true,Option.bind_some]
  congr 1
theorem clone_eq {k:Nat} {l:List Int} (h:l.length≤1099511627776):g_bits_Writer_Done k 0 l=some l∧∀ p,g_bits_Writer_Done k p l=some l:=by
  have:∀ p,g_bits_Writer_Done k p l=some l:=by
    intro p
    unfold g_bits_Writer_Done g_sc_Clone_byte_byte
    rw [dt (show (([]:List Int).length+l.length)*1≤140737488355328 by simp;omega)]
    rfl
  exact ⟨this 0,this⟩
theorem local_eq {k:Nat} (hk:80≤k) (meth crc packed size a:Nat) (name:ByteArray) (at_:Int) (h1:meth<9223372036854775808) (h2:crc<9223372036854775808) (h3:packed<9223372036854775808) (h4:size<9223372036854775808) (h5:name.size≤1073741824) :
    g_zip_local k meth crc packed size name at_=some (I (localB ⟨meth,crc,packed,size,L name,a⟩)):=by
  unfold g_zip_local g_zip_bytes__b g_zip_local_1 g_bits_NewWriter
  simp only [Option.bind_some]
  rw [wfirst _ _ (by simp),show (2:Int)=((2:Nat):Int) from rfl]
  simp only [Option.bind_some]
  rw [nums (zs:=([20]:List Int)) hk 2 (by omega) [20] (by simp) (by simp) _ (by simp) rfl (by omega)]
  simp only [Option.bind_some]
  rw [sums_eq hk meth crc packed size name at_ h1 h2 h3 h4 (by omega) _ (by simp [I_length,zle_len]) (by omega) a]
  simp only [Option.bind_some]
  rw [nums (zs:=([0]:List Int)) hk 2 (by omega) [0] (by simp) (by simp) _ (by simp [I_length,zle_len,sums_len]) rfl (by omega)]
  simp only [Option.bind_some]
  have hs:=strInts_length name
  rw [dt (show name.size≤140737488355328 by omega),wbytes _ _ _ (by simp [I_length,zle_len,sums_len,hs];omega)]
  simp only [cond_true,Option.bind_some]
  rw [(clone_eq (by simp [I_length,zle_len,sums_len,hs];omega)).2]
  simp only [Option.bind_some]
  simp only [List.append_assoc,strInts_L,← I_append,localB,List.flatMap_cons,List.flatMap_nil,List.append_nil,List.nil_append]
  rw [I_append];rfl
theorem central_eq {k:Nat} (hk:80≤k) (meth crc packed size a:Nat) (name:ByteArray) (h1:meth<9223372036854775808) (h2:crc<9223372036854775808) (h3:packed<9223372036854775808) (h4:size<9223372036854775808) (h5:name.size≤1073741824) (h6:a<9223372036854775808) :
    g_zip_central k meth crc packed size name (a:Int)=some (I (centralB ⟨meth,crc,packed,size,L name,a⟩)):=by
  unfold g_zip_central g_zip_bytes g_zip_central_1 g_bits_NewWriter
  simp only [Option.bind_some]
  rw [wfirst _ _ (by simp),show (2:Int)=((2:Nat):Int) from rfl]
  simp only [Option.bind_some]
  rw [nums (zs:=([20,20]:List Int)) hk 2 (by omega) [20,20] (by simp) (by simp) _ (by simp) rfl (by omega)]
  simp only [Option.bind_some]
  rw [sums_eq hk meth crc packed size name a h1 h2 h3 h4 (by omega) _ (by simp [I_length,zle_len]) (by omega) a]
  simp only [Option.bind_some]
  rw [nums (zs:=([0,0,0,0]:List Int)) hk 2 (by omega) [0,0,0,0] (by simp) (by simp) _ (by simp [I_length,zle_len,sums_len]) rfl (by omega)]
  simp only [Option.bind_some]
  rw [show (4:Int)=((4:Nat):Int) from rfl,nums (zs:=([0,(a:Int)]:List Int)) hk 4 (by omega) [0,a] (by simp;omega) (by simp) _ (by simp [I_length,zle_len,sums_len]) rfl (by omega)]
  simp only [Option.bind_some]
  have hs:=strInts_length name
  rw [dt (show name.size≤140737488355328 by omega),wbytes _ _ _ (by simp [I_length,zle_len,sums_len,hs];omega)]
  simp only [cond_true,Option.bind_some]
  rw [(clone_eq (by simp [I_length,zle_len,sums_len,hs];omega)).2]
  simp only [Option.bind_some]
  simp only [List.append_assoc,strInts_L,← I_append,centralB,List.flatMap_cons,List.flatMap_nil,List.append_nil,List.nil_append]
  rw [I_append];rfl
theorem end_eq {k:Nat} (hk:80≤k) (many size a:Nat) (h1:many<9223372036854775808) (h2:size<9223372036854775808) (h3:a<9223372036854775808) :
    g_zip_end k many size a=some (I (endB many size a)):=by
  unfold g_zip_end g_zip_bytes__c g_zip_end_1 g_bits_NewWriter
  simp only [Option.bind_some]
  rw [wfirst _ _ (by simp),show (2:Int)=((2:Nat):Int) from rfl]
  simp only [Option.bind_some]
  rw [nums (zs:=([0,0,(many:Int),(many:Int)]:List Int)) hk 2 (by omega) [0,0,many,many] (by simp;omega) (by simp) _ (by simp) rfl (by omega)]
  simp only [Option.bind_some]
  rw [show (4:Int)=((4:Nat):Int) from rfl,nums (zs:=([(size:Int),(a:Int)]:List Int)) hk 4 (by omega) [size,a] (by simp;omega) (by simp) _ (by simp [I_length,zle_len]) rfl (by omega)]
  simp only [Option.bind_some]
  rw [nums (zs:=([0]:List Int)) hk 2 (by omega) [0] (by simp) (by simp) _ (by simp [I_length,zle_len]) rfl (by omega)]
  simp only [Option.bind_some]
  rw [(clone_eq (by simp [I_length,zle_len])).2]
  simp only [Option.bind_some]
  simp only [List.append_assoc,← I_append,endB,List.flatMap_cons,List.flatMap_nil,List.append_nil,List.nil_append]
  rw [I_append];rfl
end Go.Proofs.YtaphblcbnhnpaaaGreatDoor.W
namespace Go.Q
set_option linter.unusedVariables false
def ham:List UInt8→List UInt8→Nat
  | a::l,b::m=>(if a=b then 0 else 1)+ham l m
  | _,_=>0
theorem ham_app:∀ (a c b d:List UInt8),a.length=c.length→ham (a++b) (c++d)=ham a c+ham b d
  | [],[],b,d,_=>by simp [ham]
  | x::a,y::c,b,d,h=>by
    simp only [List.cons_append,ham]
    rw [ham_app a c b d (by simpa using h)]
    omega
theorem ham_self:∀ (a:List UInt8),ham a a=0
  | []=>rfl
  | x::a=>by simp [ham,ham_self a]
theorem ham_zero:∀ (a b:List UInt8),a.length=b.length→ham a b=0→a=b
  | [],[],_,_=>rfl
  | x::a,y::b,h,e=>by
    simp only [ham] at e
    have e1:x=y:=by
      by_cases hx:x=y
      · exact hx
      · rw [if_neg hx] at e;omega
    rw [e1,ham_zero a b (by simpa using h) (by omega)]
theorem ham_one (p q:List UInt8) {c d:UInt8} (h:c≠d):ham (p++c::q) (p++d::q)=1:=by
  rw [ham_app _ _ _ _ rfl,ham_self]
  simp [ham,h,ham_self]
theorem ham_split:∀ (a b:List UInt8),a.length=b.length→ham a b≤1→a=b∨∃ p c d q,a=p++c::q∧b=p++d::q
  | [],[],_,_=>.inl rfl
  | x::a,y::b,h,e=>by
    simp only [ham] at e
    by_cases hx:x=y
    · rw [if_pos hx] at e
      rcases ham_split a b (by simpa using h) (by omega) with rfl | ⟨p,c,d,q,rfl,rfl⟩
      · exact .inl (by rw [hx])
      · exact .inr ⟨x::p,c,d,q,rfl,by rw [hx];rfl⟩
    · rw [if_neg hx] at e
      exact .inr ⟨[],x,y,a,rfl,by rw [ham_zero a b (by simpa using h) (by omega)];rfl⟩
abbrev Zf:=List UInt8 × List UInt8
section
variable (cz:List UInt8→Nat)
def entZ (f:Zf) (a:Nat):Ent:=⟨0,cz f.2,f.2.length,f.2.length,f.1,a⟩
def entsZ:Nat→List Zf→List Ent
  | _,[]=>[]
  | a,f::l=>entZ cz f a::entsZ (a+(30+f.1.length+f.2.length)) l
def outZ:Nat→List Zf→List UInt8
  | _,[]=>[]
  | a,f::l=>localB (entZ cz f a)++(f.2++outZ (a+(30+f.1.length+f.2.length)) l)
def dirZ (l:List Ent):List UInt8:=l.flatMap centralB
def allZ (l:List Zf):List UInt8:=outZ cz 0 l++(dirZ (entsZ cz 0 l)++endB l.length (dirZ (entsZ cz 0 l)).length (outZ cz 0 l).length)
theorem zents_len:∀ (a:Nat) (l:List Zf),(entsZ cz a l).length=l.length
  | _,[]=>rfl
  | a,f::l=>by rw [entsZ,List.length_cons,zents_len,List.length_cons]
def unpZ (inf:List UInt8→Nat→Option (List UInt8 × Nat)) (e:Ent) (d:List UInt8):Option (List UInt8 × Nat) :=
  if e.meth=0∧e.packed≠e.size then some ([],14) else
  (if e.meth=8 then inf d e.size else some (d,0)).bind fun x =>
    if x.2≠0 then some ([],x.2) else if cz x.1≠e.crc then some ([],13) else some (x.1,0)
def rdZ (okN:List UInt8→Bool) (inf:List UInt8→Nat→Option (List UInt8 × Nat)) (like:List UInt8→List UInt8→Bool) (b:List UInt8) (dir:Nat) :
    List Ent→List (List UInt8)→Nat→Nat→List Zf→Option (Nat ⊕ (Nat × List Zf))
  | [],_,_,a,acc=>some (.inr (a,acc))
  | e::l,seen,most,a,acc =>
    if okN e.name=false then some (.inl 42) else
    if seen.any (like e.name)=true then some (.inl 43) else
    if (e.meth≠0∧e.meth≠8)∨e.at_≠a∨¬ localB e <+: b.drop a then some (.inl 14) else
    if e.size > min 262144 most then some (.inl 3) else
    if a+(30+e.name.length)+e.packed > dir then some (.inl 14) else
    (unpZ cz inf e ((b.drop (a+(30+e.name.length))).take e.packed)).bind fun x =>
      if x.2≠0 then some (.inl x.2) else rdZ okN inf like b dir l (seen++[e.name]) (most - e.size) (a+(30+e.name.length+e.packed)) (acc++[(e.name,x.1)])
section
variable {cz} {okN:List UInt8→Bool} {inf:List UInt8→Nat→Option (List UInt8 × Nat)} {like:List UInt8→List UInt8→Bool} {b:List UInt8} {dir:Nat} {e:Ent} {l:List Ent} {seen:List (List UInt8)} {most a:Nat} {acc:List Zf}
theorem rdZ_name (h:okN e.name=false):rdZ cz okN inf like b dir (e::l) seen most a acc=some (.inl 42):=by rw [rdZ,if_pos h]
theorem rdZ_seen (h:okN e.name=true) (h1:seen.any (like e.name)=true):rdZ cz okN inf like b dir (e::l) seen most a acc=some (.inl 43):=by rw [rdZ,if_neg (by rw [h];decide),if_pos h1]
theorem rdZ_bad (h:okN e.name=true) (h1:seen.any (like e.name)=false) (h2:(e.meth≠0∧e.meth≠8)∨e.at_≠a∨¬ localB e <+: b.drop a):rdZ cz okN inf like b dir (e::l) seen most a acc=some (.inl 14):=by rw [rdZ,if_neg (by rw [h];decide),if_neg (by rw [h1];decide),if_pos h2]
theorem rdZ_big (h:okN e.name=true) (h1:seen.any (like e.name)=false) (h2:¬ ((e.meth≠0∧e.meth≠8)∨e.at_≠a∨¬ localB e <+: b.drop a)) (h3:e.size > min 262144 most):rdZ cz okN inf like b dir (e::l) seen most a acc=some (.inl 3):=by rw [rdZ,if_neg (by rw [h];decide),if_neg (by rw [h1];decide),if_neg h2,if_pos h3]
theorem rdZ_far (h:okN e.name=true) (h1:seen.any (like e.name)=false) (h2:¬ ((e.meth≠0∧e.meth≠8)∨e.at_≠a∨¬ localB e <+: b.drop a)) (h3:¬ e.size > min 262144 most) (h4:a+(30+e.name.length)+e.packed > dir):rdZ cz okN inf like b dir (e::l) seen most a acc=some (.inl 14):=by rw [rdZ,if_neg (by rw [h];decide),if_neg (by rw [h1];decide),if_neg h2,if_neg h3,if_pos h4]
theorem rdZ_step (h:okN e.name=true) (h1:seen.any (like e.name)=false) (h2:¬ ((e.meth≠0∧e.meth≠8)∨e.at_≠a∨¬ localB e <+: b.drop a)) (h3:¬ e.size > min 262144 most) (h4:¬ a+(30+e.name.length)+e.packed > dir):rdZ cz okN inf like b dir (e::l) seen most a acc=(unpZ cz inf e ((b.drop (a+(30+e.name.length))).take e.packed)).bind fun x =>
      if x.2≠0 then some (.inl x.2) else rdZ cz okN inf like b dir l (seen++[e.name]) (most - e.size) (a+(30+e.name.length+e.packed)) (acc++[(e.name,x.1)]):=by rw [rdZ,if_neg (by rw [h];decide),if_neg (by rw [h1];decide),if_neg h2,if_neg h3,if_neg h4]
end
structure BadZ (dir:Nat) (r:Option (Nat ⊕ (Nat × List Zf))):Prop where
  bad:(∃ e,r=some (.inl e)∧e≠0)∨∃ a acc,r=some (.inr (a,acc))∧a≠dir
variable {cz}
theorem ent_ok {f:Zf} {a:Nat} (hz:cz f.2<4294967296) (h1:f.1.length<65536) (h2:f.2.length<4294967296) (ha:a<4294967296):(entZ cz f a).ok:=⟨by show 0<_;omega,hz,h2,h2,h1,ha⟩
theorem ent_eq {e:Ent} {f:Zf} {a:Nat} {b r:List UInt8} (he:e.ok) (hf:(entZ cz f a).ok) (h:localB e <+: b) (hb:b=localB (entZ cz f a)++r) (ha:e.at_=a):e=entZ cz f a:=by
  obtain ⟨s,hs⟩:=h
  obtain ⟨h1,h2,h3,h4,h5,_⟩:=local_inj he hf (hs.trans hb)
  cases e
  simp only [entZ] at *
  simp_all
theorem turn_dir {okN:List UInt8→Bool} {inf:List UInt8→Nat→Option (List UInt8 × Nat)} {like:List UInt8→List UInt8→Bool} {b:List UInt8} {dir:Nat} (hcz:∀ d,cz d<4294967296) :
    ∀ (fs:List Zf) (es:List Ent) (seen:List (List UInt8)) (most a:Nat) (acc:List Zf) (r:List UInt8),es.length=fs.length→(∀ e∈es,e.ok)→(∀ f∈fs,f.1.length<65536∧f.2.length<4294967296)→(∃ r,b.drop a=outZ cz a fs++r)→a+(outZ cz a fs).length<4294967296→es≠entsZ cz a fs →
      BadZ dir (rdZ cz okN inf like b dir es seen most a acc)
  | [],[],_,_,_,_,_,_,_,_,_,_,h=>(h rfl).elim
  | f::fs,e::es,seen,most,a,acc,r0,hl,hok,hfs,⟨r,hb⟩,hlt,hne=>by
    rw [rdZ]
    split
    · exact ⟨.inl ⟨42,rfl,by decide⟩⟩
    split
    · exact ⟨.inl ⟨43,rfl,by decide⟩⟩
    split
    · exact ⟨.inl ⟨14,rfl,by decide⟩⟩
    rename_i hc
    split
    · exact ⟨.inl ⟨3,rfl,by decide⟩⟩
    split
    · exact ⟨.inl ⟨14,rfl,by decide⟩⟩
    have hc1:e.at_=a:=Decidable.byContradiction fun h=>hc (.inr (.inl h))
    have hc2:localB e <+: b.drop a:=Decidable.byContradiction fun h=>hc (.inr (.inr h))
    have hf:=hfs f (List.mem_cons_self ..)
    have hfo:(entZ cz f a).ok:=ent_ok (hcz _) hf.1 hf.2 (by omega)
    have he:=ent_eq (hok e (List.mem_cons_self ..)) hfo hc2 (by rw [hb,outZ,List.append_assoc]) hc1
    subst he
    have hu:∃ d n,unpZ cz inf (entZ cz f a) ((b.drop (a+(30+(entZ cz f a).name.length))).take (entZ cz f a).packed)=some (d,n):=by
      unfold unpZ
      rw [if_neg (by simp [entZ]),if_neg (by simp [entZ])]
      simp only [Option.bind_some]
      split
      · exact ⟨_,_,rfl⟩
      split
      · exact ⟨_,_,rfl⟩
      · exact ⟨_,_,rfl⟩
    obtain ⟨d,n,hu⟩:=hu
    rw [hu]
    simp only [Option.bind_some]
    split
    · rename_i hn;exact ⟨.inl ⟨n,rfl,hn⟩⟩
    have hlen:(outZ cz a (f::fs)).length=(30+f.1.length+f.2.length)+(outZ cz (a+(30+f.1.length+f.2.length)) fs).length:=by
      rw [outZ,List.length_append,List.length_append,local_len];simp only [entZ];omega
    refine turn_dir hcz fs es _ _ _ _ r (by simpa using hl) (fun x hx=>hok x (List.mem_cons_of_mem _ hx)) (fun x hx=>hfs x (List.mem_cons_of_mem _ hx)) ⟨r,?_⟩ (by simp only [entZ];omega) ?_
    · rw [← List.drop_drop,hb,outZ,List.append_assoc,List.append_assoc,← List.append_assoc (localB _),List.drop_left' (by rw [List.length_append,local_len];simp only [entZ])]
      simp only [entZ]
    · intro h
      apply hne
      rw [entsZ]
      simp only [entZ] at h ⊢
      rw [h]
theorem turn_out {okN:List UInt8→Bool} {inf:List UInt8→Nat→Option (List UInt8 × Nat)} {like:List UInt8→List UInt8→Bool} {b:List UInt8} {dir:Nat} (hinj:∀ p c d q,cz (p++c::q)=cz (p++d::q)→c=d) :
    ∀ (fs:List Zf) (seen:List (List UInt8)) (most a:Nat) (acc:List Zf) (o r:List UInt8),b.drop a=o++r→o.length=(outZ cz a fs).length→ham o (outZ cz a fs)=1 →
      BadZ dir (rdZ cz okN inf like b dir (entsZ cz a fs) seen most a acc)
  | [],_,_,_,_,o,r,hb,hl,hh=>by
    have:o=[]:=by simpa [outZ] using hl
    subst this
    simp [ham] at hh
  | f::fs,seen,most,a,acc,o,r,hb,hl,hh=>by
    rw [entsZ,rdZ]
    split
    · exact ⟨.inl ⟨42,rfl,by decide⟩⟩
    split
    · exact ⟨.inl ⟨43,rfl,by decide⟩⟩
    split
    · exact ⟨.inl ⟨14,rfl,by decide⟩⟩
    rename_i hc
    split
    · exact ⟨.inl ⟨3,rfl,by decide⟩⟩
    split
    · exact ⟨.inl ⟨14,rfl,by decide⟩⟩
    have hc2:localB (entZ cz f a) <+: b.drop a:=Decidable.byContradiction fun h=>hc (.inr (.inr h))
    obtain ⟨s,hs⟩:=hc2
    rw [hb] at hs
    have hlen:(outZ cz a (f::fs)).length=(30+f.1.length+f.2.length)+(outZ cz (a+(30+f.1.length+f.2.length)) fs).length:=by
      rw [outZ,List.length_append,List.length_append,local_len];simp only [entZ];omega
    have hll:(localB (entZ cz f a)).length=30+f.1.length:=by rw [local_len];simp only [entZ]
    -- the row begins with the header,then so many bytes
    obtain ⟨o1,ho1⟩:∃ o1,o=localB (entZ cz f a)++o1:=by
      have h2:=congrArg (List.take (localB (entZ cz f a)).length) hs
      rw [List.take_left,List.take_append_of_le_length (by omega)] at h2
      exact ⟨o.drop (localB (entZ cz f a)).length,by conv=>lhs;rw [← List.take_append_drop (localB (entZ cz f a)).length o,← h2]⟩
    subst ho1
    rw [List.length_append,hll,hlen] at hl
    have hh2:ham o1 (f.2++outZ cz (a+(30+f.1.length+f.2.length)) fs)=1:=by
      rw [outZ,ham_app _ _ _ _ rfl,ham_self] at hh;omega
    have ho1l:o1.length=f.2.length+(outZ cz (a+(30+f.1.length+f.2.length)) fs).length:=by omega
    obtain ⟨d,o2,rfl,hd⟩:∃ d o2,o1=d++o2∧d.length=f.2.length:=⟨o1.take f.2.length,o1.drop f.2.length,(List.take_append_drop _ _).symm,by rw [List.length_take];omega⟩
    rw [ham_app _ _ _ _ hd] at hh2
    have hdr:b.drop (a+(30+(entZ cz f a).name.length))=d++(o2++r):=by
      rw [← List.drop_drop,hb,List.append_assoc,List.append_assoc,List.drop_left' (by rw [hll];simp only [entZ])]
    rw [hdr,show (entZ cz f a).packed=d.length from hd.symm,List.take_left]
    have hu:unpZ cz inf (entZ cz f a) d=if cz d≠cz f.2 then some ([],13) else some (d,0):=by
      unfold unpZ
      rw [if_neg (by simp [entZ]),if_neg (by simp [entZ])]
      show (if (0:Nat)≠0 then some (([]:List UInt8),0) else if cz d≠cz f.2 then some ([],13) else some (d,0))=_
      rw [if_neg (by simp)]
    rw [hu]
    by_cases hz:cz d=cz f.2
    · rw [if_neg (by simpa using hz)]
      simp only [Option.bind_some,ne_eq,not_true_eq_false,if_false]
      have e:d=f.2:=by
        rcases ham_split d f.2 hd (by omega) with h | ⟨p,c,x,q,h1,h2⟩
        · exact h
        · rw [h1,h2] at hz
          rw [h1,h2,hinj _ _ _ _ hz]
      subst e
      refine turn_out hinj fs _ _ _ _ o2 r ?_ ?_ ?_
      · show b.drop (a+(30+(entZ cz f a).name.length+f.2.length))=_
        rw [← Nat.add_assoc,← List.drop_drop,hdr,List.drop_left]
      · rw [List.length_append] at ho1l
        show _=(outZ cz (a+(30+f.1.length+f.2.length)) fs).length
        omega
      · rw [ham_self] at hh2
        show ham o2 (outZ cz (a+(30+f.1.length+f.2.length)) fs)=1
        omega
    · rw [if_pos hz]
      exact ⟨.inl ⟨13,by simp,by decide⟩⟩
end
theorem central_inj {e f:Ent} {r s:List UInt8} (he:e.ok) (hf:f.ok) (h:centralB e++r=centralB f++s):e=f∧r=s:=by
  obtain ⟨a1,a2,a3,a4,a5,a6,a7⟩:=central_fld r he
  obtain ⟨b1,b2,b3,b4,b5,b6,b7⟩:=central_fld s hf
  rw [h] at a1 a2 a3 a4 a5 a6 a7
  rw [b1] at a1
  rw [b2] at a2
  rw [b3] at a3
  rw [b4] at a4
  rw [b5] at a5
  rw [b6] at a6
  rw [← a5,b7] at a7
  have e1:e=f:=by cases e;cases f;simp_all
  subst e1
  exact ⟨rfl,List.append_cancel_left h⟩
theorem dir_inj:∀ (l m:List Ent) {r s:List UInt8},l.length=m.length→(∀ e∈l,e.ok)→(∀ e∈m,e.ok)→dirZ l++r=dirZ m++s→l=m
  | [],[],_,_,_,_,_,_=>rfl
  | e::l,f::m,r,s,hl,h1,h2,h=>by
    simp only [dirZ,List.flatMap_cons,List.append_assoc] at h
    obtain ⟨q1,q2⟩:=central_inj (h1 e (List.mem_cons_self ..)) (h2 f (List.mem_cons_self ..)) h
    rw [q1,dir_inj l m (by simpa using hl) (fun x hx=>h1 x (List.mem_cons_of_mem _ hx)) (fun x hx=>h2 x (List.mem_cons_of_mem _ hx)) q2]
theorem ents_ok {cz:List UInt8→Nat} (hcz:∀ d,cz d<4294967296):∀ (fs:List Zf) (a:Nat),(∀ f∈fs,f.1.length<65536∧f.2.length<4294967296)→a+(outZ cz a fs).length<4294967296→∀ e∈entsZ cz a fs,e.ok
  | [],_,_,_,_,h=>by cases h
  | f::fs,a,hf,ha,e,h=>by
    have hlen:(outZ cz a (f::fs)).length=(30+f.1.length+f.2.length)+(outZ cz (a+(30+f.1.length+f.2.length)) fs).length:=by
      rw [outZ,List.length_append,List.length_append,local_len];simp only [entZ];omega
    rw [entsZ] at h
    rcases List.mem_cons.1 h with rfl | h
    · exact ent_ok (hcz _) (hf f (List.mem_cons_self ..)).1 (hf f (List.mem_cons_self ..)).2 (by omega)
    · exact ents_ok hcz fs _ (fun x hx=>hf x (List.mem_cons_of_mem _ hx)) (by omega) e h
theorem end_ham {a b c a' b' c':Nat}:ham (endB a b c) (endB a' b' c')=ham (zle 2 a) (zle 2 a')+(ham (zle 2 a) (zle 2 a')+(ham (zle 4 b) (zle 4 b')+ham (zle 4 c) (zle 4 c'))):=by
  unfold endB
  rw [ham_app _ _ _ _ rfl,ham_app _ _ _ _ (by simp only [zle_len]),ham_app _ _ _ _ (by simp only [zle_len]),ham_app _ _ _ _ (by simp only [zle_len]),ham_app _ _ _ _ (by simp only [zle_len]),ham_app _ _ _ _ (by simp only [zle_len]),ham_app _ _ _ _ (by simp only [zle_len])]
  simp only [ham_self,Nat.zero_add,Nat.add_zero]
theorem turned {cz:List UInt8→Nat} {okN:List UInt8→Bool} {inf:List UInt8→Nat→Option (List UInt8 × Nat)} {like:List UInt8→List UInt8→Bool} {b:List UInt8} (hcz:∀ d,cz d<4294967296) (hinj:∀ p c d q,cz (p++c::q)=cz (p++d::q)→c=d)
    {fs:List Zf} (hfs:∀ f∈fs,f.1.length<65536∧f.2.length<4294967296) (hn:fs.length<65536) {o:List UInt8} {es:List Ent} (hb:b=o++(dirZ es++endB es.length (dirZ es).length o.length)) (hes:∀ e∈es,e.ok) (hen:es.length<65536)
    (hlen:b.length=(allZ cz fs).length) (hsz:b.length<4294967296) (hone:ham b (allZ cz fs)=1) (most:Nat):BadZ o.length (rdZ cz okN inf like b o.length es [] most 0 []):=by
  have hl2:=hlen
  rw [hb,allZ] at hl2
  simp only [List.length_append,end_len] at hl2
  have hsz2:=hsz
  rw [hb] at hsz2
  simp only [List.length_append,end_len] at hsz2
  have h1:=hone
  rw [hb,allZ,← List.append_assoc,← List.append_assoc,ham_app _ _ _ _ (by simp only [List.length_append];omega)] at h1
  have key:es.length=fs.length∧(dirZ es).length=(dirZ (entsZ cz 0 fs)).length∧o.length=(outZ cz 0 fs).length:=by
    rw [end_ham] at h1
    have q2:∀ v w:Nat,v<65536→w<65536→ham (zle 2 v) (zle 2 w)=0→v=w:=fun v w hv hw h=>zle_inj (ham_zero _ _ (by simp only [zle_len]) h) hv hw
    have q4:∀ v w:Nat,v<4294967296→w<4294967296→ham (zle 4 v) (zle 4 w)=0→v=w:=fun v w hv hw h=>zle_inj (ham_zero _ _ (by simp only [zle_len]) h) hv hw
    refine ⟨q2 _ _ hen hn (by omega),?_⟩
    by_cases hx:ham (zle 4 (dirZ es).length) (zle 4 (dirZ (entsZ cz 0 fs)).length)=0
    · have:=q4 _ _ (by omega) (by omega) hx
      omega
    · have:=q4 o.length _ (by omega) (by omega) (show ham (zle 4 o.length) (zle 4 (outZ cz 0 fs).length)=0 by omega)
      omega
  obtain ⟨k1,k2,k3⟩:=key
  rw [k1,k2,k3,ham_self,ham_app _ _ _ _ k3,Nat.add_zero] at h1
  have hout:0+(outZ cz 0 fs).length<4294967296:=by omega
  by_cases hd:ham (dirZ es) (dirZ (entsZ cz 0 fs))=0
  · have e1:=ham_zero _ _ k2 hd
    have e2:=dir_inj es (entsZ cz 0 fs) (r:=[]) (s:=[]) (by rw [zents_len];exact k1) hes (ents_ok hcz fs 0 hfs hout) (by rw [e1])
    subst e2
    exact turn_out hinj fs [] most 0 [] o _ (by rw [List.drop_zero];exact hb) k3 (by omega)
  · have e1:=ham_zero _ _ k3 (by omega)
    refine turn_dir hcz fs es [] most 0 [] [] k1 hes hfs ⟨_,by rw [List.drop_zero,← e1];exact hb⟩ hout fun h=>hd ?_
    rw [h,ham_self]
end Go.Q
namespace Go.Proofs.YtaphblcbnhnpaaaGreatDoor.W
open Go Go.Q Go.Proofs
set_option linter.unusedVariables false
set_option linter.unusedSimpArgs false
def zB (l:List UInt8):ByteArray:=ByteArray.mk l.toArray
theorem L_zB (l:List UInt8):L (zB l)=l:=L_mk l
theorem zB_L (s:ByteArray):zB (L s)=s:=L_ext (L_zB _)
theorem zB_size (l:List UInt8):(zB l).size=l.length:=by rw [L_size,L_zB]
theorem zstrOf (l:List UInt8):strOf (I l)=zB l:=L_ext (by rw [L_strOf_I,L_zB])
theorem zstrInts (l:List UInt8):strInts (zB l)=I l:=by rw [strInts_L,L_zB]
theorem I_get {l:List UInt8} {i:Nat} (h:i<l.length):(I l)[i]'(by rw [I_length];exact h)=(l[i].toNat:Int):=by simp [I]
theorem ixI {l:List UInt8} {i:Nat} (h:i<l.length):ix (I l) (i:Int)=some (l[i].toNat:Int):=by
  rw [ix_nat (by rw [I_length];exact h),I_get h]
theorem I_drop (l:List UInt8) (n:Nat):(I l).drop n=I (l.drop n):=by simp [I]
theorem I_take (l:List UInt8) (n:Nat):(I l).take n=I (l.take n):=by simp [I]
def crcN (d:List UInt8):Nat:=(4294967295#32 ^^^ crcRow (I d) 4294967295#32).toNat
theorem crcN_lt (d:List UInt8):crcN d<4294967296:=BitVec.isLt _
theorem crcN_inj (p:List UInt8) (c d:UInt8) (q:List UInt8) (h:crcN (p++c::q)=crcN (p++d::q)):c=d:=by
  have h:=BitVec.eq_of_toNat_eq h
  rw [BitVec.xor_comm,BitVec.xor_comm _ (crcRow (I (p++d::q)) _)] at h
  have h:=xor_cancel h
  rw [I_append,I_append,show I (c::q)=(c.toNat:Int)::I q from rfl,show I (d::q)=(d.toNat:Int)::I q from rfl] at h
  have hc:=c.toNat_lt
  have hd:=d.toNat_lt
  have:=crcRow_ne (by omega) (by omega) (by omega) (by omega) h
  exact UInt8.toNat_inj.1 (by omega)
theorem u32_wrapz (c:Int):IntKind.wrap .u32 c=((BitVec.ofInt 32 c).toNat:Int):=wrap_ofInt (k:=.u32) rfl c
theorem crc1 (k:Nat):∀ (m i:Nat) (x:BitVec 32),i≤8→8 - i<m→g_bits_Crc_l1 k m (x.toNat:Int) (i:Int)=some ((crcIt (8 - i) x).toNat:Int)
  | 0,_,_,_,h=>by omega
  | m+1,i,x,hi,hm=>by
    rw [g_bits_Crc_l1.eq_2]
    by_cases h:i<8
    · rw [dt (show (i:Int)<8 by omega),show (3988292384:Int)=((3988292384#32).toNat:Int) from rfl,show bits .and .u32 (x.toNat:Int) 1=bits .and .u32 (x.toNat:Int) ((1#32).toNat:Int) from rfl]
      simp only [cond_true,Option.bind_some,u32_and,u32_neg,u32_shr,u32_xor]
      rw [wi (by omega) (by omega),show (i:Int)+1=((i+1:Nat):Int) from rfl]
      rw [crc1 k m (i+1) _ (by omega) (by omega),show 8 - i=(8 - (i+1))+1 by omega]
      rfl
    · rw [df (show ¬ (i:Int)<8 by omega),show 8 - i=0 by omega]
      rfl
theorem crc0 (k:Nat) (l:List Int) (hk:9≤k) (hl:l.length≤9223372036854775807):∀ (m i:Nat) (x:BitVec 32),i≤l.length→l.length - i<m→g_bits_Crc_l0 k l m (x.toNat:Int) (i:Int)=some ((crcRow (l.drop i) x).toNat:Int)
  | 0,_,_,_,h=>by omega
  | m+1,i,x,hi,hm=>by
    rw [g_bits_Crc_l0.eq_2]
    by_cases h:i<l.length
    · rw [dt (show (i:Int)<((l.length:Nat):Int) by omega),ix_nat h]
      simp only [cond_true,Option.bind_some,u32_wrapz,u32_xor]
      rw [show g_bits_Crc_l1 k k _ 0=_ from crc1 k k 0 _ (by omega) (by omega)]
      simp only [Option.bind_some]
      rw [wi (by omega) (by omega),show (i:Int)+1=((i+1:Nat):Int) from rfl,crc0 k l hk hl m (i+1) _ (by omega) (by omega),List.drop_eq_getElem_cons h]
      rfl
    · rw [df (show ¬ (i:Int)<((l.length:Nat):Int) by omega),List.drop_of_length_le (by omega)]
      rfl
theorem crc_prog {k:Nat} {d:List UInt8} (hk:9≤k) (h:d.length<k) (hl:d.length≤1099511627776):g_bits_Crc k (I d)=some ((crcN d:Nat):Int):=by
  unfold g_bits_Crc
  rw [show g_bits_Crc_l0 k (I d) k 4294967295 0=_ from crc0 k (I d) hk (by rw [I_length];omega) k 0 4294967295#32 (by omega) (by rw [I_length];omega)]
  simp only [Option.bind_some,List.drop_zero]
  rw [show (if IntKind.signed .u32 then (-1:Int) else IntKind.max .u32)=((4294967295#32).toNat:Int) from rfl,u32_xor]
  rfl
theorem zor64 {x y:Nat} (hx:x<4294967296) (hy:y<4294967296):bits .or .i64 (x:Int) (y:Int)=((x ||| y:Nat):Int):=by
  have e:bits .or .i64 (x:Int) (y:Int)=IntKind.wrap .i64 ((BitVec.ofInt 64 (x:Int) ||| BitVec.ofInt 64 (y:Int)).toNat:Int):=rfl
  have h:x ||| y<2^32:=Nat.or_lt_two_pow hx hy
  rw [e,BitVec.ofInt_natCast,BitVec.ofInt_natCast,BitVec.toNat_or,BitVec.toNat_ofNat,BitVec.toNat_ofNat,Nat.mod_eq_of_lt (by omega),Nat.mod_eq_of_lt (by omega),wi (by omega) (by omega)]
theorem zbyte {v:Nat} {c:UInt8} (hv:v<16777216):bits .or .i64 (shlI .i64 (v:Int) 8) (IntKind.wrap .i64 (c.toNat:Int))=((c.toNat+256*v:Nat):Int):=by
  have hc:=c.toNat_lt
  have e:shlI .i64 (v:Int) 8=((256*v:Nat):Int):=by
    unfold shlI
    rw [show ((2:Int)^(min (Int.toNat 8) (IntKind.bits .i64)))=256 from rfl,wi (by omega) (by omega)]
    omega
  rw [e,wi (by omega) (by omega),zor64 (by omega) (by omega)]
  congr 1
  have:=Nat.two_pow_add_eq_or_of_lt (i:=8) (b:=c.toNat) (by omega) v
  rw [show (2:Nat)^8=256 from rfl] at this
  omega
theorem num_go (k:Nat) (b:List UInt8) (a n:Nat) (hn:n≤4) (hb:a+n≤b.length) (hbl:b.length≤1099511627776):∀ (m i:Nat),i≤n→i<m →
    g_zip_num_l0 k (I b) (a:Int) m ((zlv ((b.drop (a+i)).take (n - i)):Nat):Int) ((i:Int) - 1)=some ((zfld b a n:Nat):Int):=by
  intro m
  induction m with
  | zero=>intro i _ h;omega
  | succ m ih =>
    intro i hi hm
    rw [g_zip_num_l0.eq_2]
    cases i with
    | zero=>rfl
    | succ i =>
      have hlt:a+i<b.length:=by omega
      rw [show (((i+1:Nat):Int) - 1)=(i:Int) by omega,dt (show (0:Int)≤(i:Int) by omega),wi (by omega) (by omega),show ((a:Int)+(i:Int))=((a+i:Nat):Int) by omega,ixI hlt]
      simp only [cond_true,Option.bind_some]
      have hz:=zlv_lt ((b.drop (a+(i+1))).take (n - (i+1)))
      have hz2:256^((b.drop (a+(i+1))).take (n - (i+1))).length≤256^3:=Nat.pow_le_pow_right (by omega) (by rw [List.length_take];omega)
      rw [zbyte (by omega),wi (by omega) (by omega)]
      have e:(b.drop (a+i)).take (n - i)=b[a+i]::(b.drop (a+(i+1))).take (n - (i+1)):=by
        rw [List.drop_eq_getElem_cons hlt,show n - i=(n - (i+1))+1 by omega,List.take_succ_cons];rfl
      have:=ih i (by omega) (by omega)
      rw [e,zlv] at this
      exact this
theorem num_eq {k:Nat} (hk:10≤k) {b:List UInt8} {a n:Nat} (hn:n≤4) (hb:a+n≤b.length) (hbl:b.length≤1099511627776):g_zip_num k (I b) (a:Int) (n:Int)=some ((zfld b a n:Nat):Int):=by
  unfold g_zip_num
  have:=num_go k b a n hn hb hbl k n (by omega) (by omega)
  rw [Nat.sub_self,List.take_zero] at this
  rw [wi (by omega) (by omega),show g_zip_num_l0 k (I b) (a:Int) k 0 ((n:Int) - 1)=_ from this]
  rfl
theorem begins_eq {k:Nat} {b w:List UInt8}:g_zip_begins k (I b) (I w)=some (decide (w <+: b)):=by
  unfold g_zip_begins g_st_HasPrefix g_sl_HasPrefix
  rw [zstrOf,zstrOf,zB_size,zB_size]
  by_cases h:w.length≤b.length
  · rw [dt (show (w.length:Int)≤(b.length:Int) by omega),dt (show (0:Int)≤0∧(0:Int)≤(w.length:Int)∧(w.length:Int)≤(b.length:Int) by omega)]
    simp only [Option.bind_some,bt]
    rw [L_toList,L_toList,L_extract,L_zB,L_zB]
    congr 1
    rw [show Int.toNat 0=0 from rfl,List.drop_zero,Int.toNat_natCast,Nat.sub_zero]
    rw [Bool.eq_iff_iff,beq_iff_eq,decide_eq_true_iff,List.prefix_iff_eq_take]
    exact eq_comm
  · rw [df (show ¬ (w.length:Int)≤(b.length:Int) by omega)]
    simp only [Option.bind_some,bf]
    rw [df]
    intro hp
    exact h hp.length_le
def lowN (n:Nat):Nat:=if 65≤n∧n≤90 then n+32 else n
def likeZ (a b:List UInt8):Bool:=decide (a.map (fun c=>lowN c.toNat)=b.map (fun c=>lowN c.toNat))
def asc (l:List UInt8):Prop:=∀ c∈l,c.toNat<128
theorem okName_asc {l:List UInt8} (h:okName l=true):asc l∧l.length≤255:=by
  unfold okName at h
  rw [Bool.and_eq_true,decide_eq_true_eq] at h
  refine ⟨fun c hc=>?_,h.1⟩
  have hb:anyBad l=false:=by
    cases hb:anyBad l with
    | false=>rfl
    | true=>rw [rgt_bad _ _ hb] at h;cases h.2
  unfold anyBad at hb
  rw [List.any_eq_false] at hb
  have:=hb c hc
  unfold badC at this
  simp at this
  omega
theorem or128 {x y:UInt8} (hx:x.toNat<128) (hy:y.toNat<128):decide ((128:Int)≤bits .or .u8 (x.toNat:Int) (y.toNat:Int))=false:=by
  have h:x.toNat ||| y.toNat<2^7:=Nat.or_lt_two_pow hx hy
  have e:bits .or .u8 (x.toNat:Int) (y.toNat:Int)=((x.toNat ||| y.toNat:Nat):Int):=u8_or x.toBitVec y.toBitVec
  rw [e]
  exact df (by omega)
theorem foldStep {x y:Nat} (hx:x<128) (hy:y<128) :
    (bif decide ((y:Int)=(x:Int)) then some (Sum.inl ()) else (((bif (decide ((y:Int)<(x:Int))) then some ((y:Int),(x:Int)) else some ((x:Int),(y:Int))):Option (Int × Int)).bind fun x=>(((bif (decide (65≤x.1)) then (bif (decide (x.1≤90)) then some (decide (x.2=IntKind.wrap .u8 ((IntKind.wrap .u8 (x.1+97)) - 65))) else some false) else some false):Option Bool).bind fun x2254=>(bif x2254 then some (Sum.inl ()) else some (Sum.inr ())))))=some (if lowN x=lowN y then Sum.inl () else Sum.inr ():Unit ⊕ Unit):=by
  by_cases h:y=x
  · subst h;rw [dt rfl,if_pos rfl];rfl
  · rw [df (show ¬ (y:Int)=(x:Int) by omega)]
    have key:∀ u v:Nat,u<v→v<128→(((bif (decide (65≤(u:Int))) then (bif (decide ((u:Int)≤90)) then some (decide ((v:Int)=IntKind.wrap .u8 ((IntKind.wrap .u8 ((u:Int)+97)) - 65))) else some false) else some false):Option Bool).bind fun x2254=>(bif x2254 then some (Sum.inl ()) else some (Sum.inr ())))=some (if lowN u=lowN v then Sum.inl () else Sum.inr ():Unit ⊕ Unit):=by
      intro u v huv hv
      by_cases h1:65≤u
      · rw [dt (show (65:Int)≤(u:Int) by omega)]
        by_cases h2:u≤90
        · rw [dt (show (u:Int)≤90 by omega),wu8 (n:=(u:Int)+97) (by omega) (by omega),wu8 (by omega) (by omega)]
          simp only [bt,Option.bind_some]
          by_cases h3:v=u+32
          · rw [dt (by omega),if_pos (by unfold lowN;rw [if_pos ⟨h1,h2⟩,if_neg (by omega)];omega)];rfl
          · rw [df (by omega),if_neg (by unfold lowN;rw [if_pos ⟨h1,h2⟩];split <;> omega)];rfl
        · rw [df (show ¬ (u:Int)≤90 by omega),if_neg (by unfold lowN;rw [if_neg (by omega),if_neg (by omega)];omega)];rfl
      · rw [df (show ¬ (65:Int)≤(u:Int) by omega),if_neg (by unfold lowN;rw [if_neg (by omega)];split <;> omega)];rfl
    rcases Nat.lt_or_gt_of_ne h with h1 | h1
    · rw [dt (show (y:Int)<(x:Int) by omega)]
      refine (key y x h1 hx).trans ?_
      simp only [eq_comm]
    · rw [df (show ¬ (y:Int)<(x:Int) by omega)]
      exact key x y h1 hy
theorem fold_go (k:Nat) (a b:List UInt8) (ha:asc a) (hb:asc b) (m:Nat) (hma:m≤a.length) (hmb:m≤b.length) (hal:m≤1099511627776):∀ (n i:Nat),i≤m→m - i<n →
    g_st_EqualFold_l0 k (zB a) (zB b) (m:Int) n (i:Int)=some (if ((a.take m).drop i).map (fun c=>lowN c.toNat)=((b.take m).drop i).map (fun c=>lowN c.toNat) then Sum.inr () else Sum.inl ()):=by
  intro n
  induction n with
  | zero=>intro i _ h;omega
  | succ n ih =>
    intro i hi hn
    rw [g_st_EqualFold_l0.eq_2]
    by_cases h:i<m
    · have h1:i<a.length:=by omega
      have h2:i<b.length:=by omega
      rw [dt (show (i:Int)<(m:Int) by omega),zstrInts,zstrInts,ixI h1,ixI h2]
      simp only [bt,Option.bind_some]
      rw [or128 (ha _ (List.getElem_mem h1)) (hb _ (List.getElem_mem h2))]
      simp only [bf]
      rw [foldStep (ha _ (List.getElem_mem h1)) (hb _ (List.getElem_mem h2))]
      have e1:(a.take m).drop i=a[i]::(a.take m).drop (i+1):=by
        rw [List.drop_eq_getElem_cons (by rw [List.length_take];omega),List.getElem_take]
      have e2:(b.take m).drop i=b[i]::(b.take m).drop (i+1):=by
        rw [List.drop_eq_getElem_cons (by rw [List.length_take];omega),List.getElem_take]
      rw [e1,e2,List.map_cons,List.map_cons]
      by_cases hl:lowN a[i].toNat=lowN b[i].toNat
      · rw [if_pos hl]
        simp only [Option.bind_some]
        rw [wi (by omega) (by omega),show ((i:Int)+1)=((i+1:Nat):Int) by omega,ih (i+1) (by omega) (by omega)]
        simp only [List.cons.injEq,hl,true_and]
      · rw [if_neg hl,if_neg (by simp only [List.cons.injEq];exact fun q=>hl q.1)]
        rfl
    · rw [df (show ¬ (i:Int)<(m:Int) by omega),if_pos (by rw [List.drop_of_length_le (by rw [List.length_take];omega),List.drop_of_length_le (by rw [List.length_take];omega)])]
      rfl
theorem fold_eq {k:Nat} {a b:List UInt8} (ha:asc a) (hb:asc b) (hal:a.length≤255) (hbl:b.length≤255) (hk:300≤k):g_st_EqualFold k (zB a) (zB b)=some (likeZ a b):=by
  unfold g_st_EqualFold
  rw [zB_size,zB_size]
  have em:(if (((b.length:Nat):Int):Int)<((a.length:Nat):Int) then (((b.length:Nat):Int):Int) else ((a.length:Nat):Int))=((min b.length a.length:Nat):Int):=by
    split <;> omega
  rw [em]
  simp only [Option.bind_some]
  rw [show g_st_EqualFold_l0 k (zB a) (zB b) ((min b.length a.length:Nat):Int) k 0=_ from fold_go k a b ha hb (min b.length a.length) (by omega) (by omega) (by omega) k 0 (by omega) (by omega)]
  simp only [Option.bind_some,List.drop_zero]
  unfold likeZ
  by_cases hl:a.length=b.length
  · rw [← hl,Nat.min_self,List.take_length,show b.take a.length=b by rw [hl,List.take_length]]
    by_cases h:a.map (fun c=>lowN c.toNat)=b.map (fun c=>lowN c.toNat)
    · rw [if_pos h,dt h]
      simp
    · rw [if_neg h,df h]
  · have:¬ a.map (fun c=>lowN c.toNat)=b.map (fun c=>lowN c.toNat):=fun h=>hl (by have:=congrArg List.length h;simpa using this)
    rw [df this]
    split
    · rfl
    · rename_i heq
      rw [show decide (((a.length:Nat):Int)=((b.length:Nat):Int))=false from df (by omega)]
def mkF (f:Zf):S_api_File:=⟨zB f.1,I f.2⟩
def twiceZ:List (List UInt8)→List (List UInt8)→Bool
  | _,[]=>false
  | seen,n::l=>seen.any (likeZ n)||twiceZ (seen++[n]) l
def chkZ (fs:List Zf) (meth:Int):Nat :=
  if meth≠0∧meth≠8 then 1 else if fs.length > 64 then 3 else if fs.any (fun f=>decide (f.2.length > 262144)) then 3 else
  if fs.any (fun f=>!okName f.1) then 42 else if twiceZ [] (fs.map (·.1)) then 43 else 0
theorem ixM {α β:Type} {f:α→β} {l:List α} {i:Nat} (h:i<l.length):ix (l.map f) (i:Int)=some (f l[i]):=by
  rw [ix_nat (by rw [List.length_map];exact h),List.getElem_map]
theorem chk0 (k:Nat) (fs:List Zf) (hl:fs.length≤64):∀ (n i:Nat),i≤fs.length→fs.length - i<n →
    g_zip_check_l0 k (fs.map mkF) n (i:Int)=some (if (fs.drop i).any (fun f=>decide (f.2.length > 262144)) then Sum.inl () else Sum.inr ()):=by
  intro n
  induction n with
  | zero=>intro i _ h;omega
  | succ n ih =>
    intro i hi hn
    rw [g_zip_check_l0.eq_2,List.length_map]
    by_cases h:i<fs.length
    · rw [dt (show (i:Int)<((fs.length:Nat):Int) by omega),ixM h,List.drop_eq_getElem_cons h,List.any_cons]
      simp only [bt,Option.bind_some]
      rw [show (mkF fs[i]).fData=I fs[i].2 from rfl,I_length]
      by_cases hc:fs[i].2.length > 262144
      · rw [dt (by omega),dt hc];rfl
      · rw [df (by omega),df hc,Bool.false_or]
        simp only [bf]
        rw [wi (by omega) (by omega),show ((i:Int)+1)=((i+1:Nat):Int) by omega,ih (i+1) (by omega) (by omega)]
    · rw [df (show ¬ (i:Int)<((fs.length:Nat):Int) by omega),List.drop_of_length_le (by omega)];rfl
theorem chk1 (k:Nat) (hk:300≤k) (fs:List Zf) (hl:fs.length≤64):∀ (n i:Nat),i≤fs.length→fs.length - i<n →
    g_zip_check_l1 k (fs.map mkF) n (i:Int)=some (if (fs.drop i).any (fun f=>!okName f.1) then Sum.inl () else Sum.inr ()):=by
  intro n
  induction n with
  | zero=>intro i _ h;omega
  | succ n ih =>
    intro i hi hn
    rw [g_zip_check_l1.eq_2,List.length_map]
    by_cases h:i<fs.length
    · rw [dt (show (i:Int)<((fs.length:Nat):Int) by omega),ixM h,List.drop_eq_getElem_cons h,List.any_cons]
      simp only [bt,Option.bind_some]
      rw [show (mkF fs[i]).fName=zB fs[i].1 from rfl,right_eq k _ hk,L_zB]
      simp only [Option.bind_some]
      cases hc:okName fs[i].1 with
      | false=>rfl
      | true =>
        simp only [Bool.not_true,bf,Bool.false_or]
        rw [wi (by omega) (by omega),show ((i:Int)+1)=((i+1:Nat):Int) by omega,ih (i+1) (by omega) (by omega)]
    · rw [df (show ¬ (i:Int)<((fs.length:Nat):Int) by omega),List.drop_of_length_le (by omega)];rfl
theorem chk3 (k:Nat) (hk:300≤k) (fs:List Zf) (hl:fs.length≤64) (hok:∀ f∈fs,okName f.1=true) (i:Nat) (hi:i≤fs.length) (f:Zf) (hf:okName f.1=true):∀ (n j:Nat),j≤i→i - j<n →
    g_zip_check_l3 k (fs.map mkF) (i:Int) (mkF f) (i:Int) n (j:Int)=some (if (((fs.take i).drop j).map (·.1)).any (likeZ f.1) then Sum.inl () else Sum.inr ()):=by
  intro n
  induction n with
  | zero=>intro j _ h;omega
  | succ n ih =>
    intro j hj hn
    rw [g_zip_check_l3.eq_2,Int.toNat_natCast,show Int.toNat 0=0 from rfl,List.drop_zero,← List.map_take]
    have htl:(fs.take i).length=i:=by rw [List.length_take];omega
    by_cases h:j<i
    · have hj2:j<(fs.take i).length:=by omega
      rw [dt (show (j:Int)<(i:Int) by omega),ixM hj2,List.drop_eq_getElem_cons hj2,List.map_cons,List.any_cons]
      simp only [bt,Option.bind_some]
      have hg:okName (fs.take i)[j].1=true:=hok _ (List.mem_of_mem_take (List.getElem_mem hj2))
      rw [show (mkF f).fName=zB f.1 from rfl,show (mkF (fs.take i)[j]).fName=zB (fs.take i)[j].1 from rfl,fold_eq (okName_asc hf).1 (okName_asc hg).1 (okName_asc hf).2 (okName_asc hg).2 hk]
      simp only [Option.bind_some]
      cases hc:likeZ f.1 (fs.take i)[j].1 with
      | true=>rfl
      | false =>
        simp only [bf,Bool.false_or]
        rw [wi (by omega) (by omega),show ((j:Int)+1)=((j+1:Nat):Int) by omega,ih (j+1) (by omega) (by omega)]
    · rw [df (show ¬ (j:Int)<(i:Int) by omega),List.drop_of_length_le (by omega)];rfl
theorem chk2 (k:Nat) (hk:300≤k) (fs:List Zf) (hl:fs.length≤64) (hok:∀ f∈fs,okName f.1=true):∀ (n i:Nat),i≤fs.length→fs.length - i<n →
    g_zip_check_l2 k (fs.map mkF) n (i:Int)=some (twiceZ ((fs.take i).map (·.1)) ((fs.drop i).map (·.1))):=by
  intro n
  induction n with
  | zero=>intro i _ h;omega
  | succ n ih =>
    intro i hi hn
    rw [g_zip_check_l2.eq_2,List.length_map]
    by_cases h:i<fs.length
    · rw [dt (show (i:Int)<((fs.length:Nat):Int) by omega),ixM h,dt (show (0:Int)≤0∧(0:Int)≤(i:Int)∧(i:Int)≤((fs.length:Nat):Int) by omega)]
      simp only [bt,Option.bind_some]
      have e1:((List.drop (Int.toNat 0) (List.take (Int.toNat (i:Int)) (fs.map mkF))).length:Nat)=i:=by
        rw [Int.toNat_natCast,show Int.toNat 0=0 from rfl,List.drop_zero,List.length_take,List.length_map];omega
      rw [e1,show g_zip_check_l3 k (fs.map mkF) (i:Int) (mkF fs[i]) (i:Int) k 0=_ from chk3 k hk fs hl hok i hi fs[i] (hok _ (List.getElem_mem h)) k 0 (by omega) (by omega)]
      simp only [Option.bind_some,List.drop_zero]
      rw [List.drop_eq_getElem_cons h,List.map_cons,twiceZ]
      cases hc:((fs.take i).map (·.1)).any (likeZ fs[i].1) with
      | true=>rfl
      | false =>
        simp only [if_false,Bool.false_or,Bool.false_eq_true]
        rw [wi (by omega) (by omega),show ((i:Int)+1)=((i+1:Nat):Int) by omega,ih (i+1) (by omega) (by omega),List.take_add_one,List.getElem?_eq_getElem h,Option.toList_some,List.map_append]
        rfl
    · rw [df (show ¬ (i:Int)<((fs.length:Nat):Int) by omega),List.drop_of_length_le (l:=fs) (by omega)];rfl
theorem check_eq {k:Nat} (hk:300≤k) (fs:List Zf) (meth:Int):g_zip_check k (fs.map mkF) meth=some ((chkZ fs meth:Nat):Int):=by
  unfold g_zip_check chkZ
  rw [List.length_map]
  have e:((bif (!decide (meth=0)) then some (!decide (meth=8)) else some false):Option Bool)=some (decide (meth≠0∧meth≠8)):=by
    by_cases h0:meth=0
    · simp [h0]
    · simp [h0]
  rw [e]
  simp only [Option.bind_some]
  by_cases h0:meth≠0∧meth≠8
  · rw [dt h0,if_pos h0];rfl
  rw [df h0,if_neg h0]
  simp only [bf]
  by_cases h1:fs.length > 64
  · rw [dt (by omega),if_pos h1];rfl
  rw [df (by omega),if_neg h1]
  simp only [bf]
  rw [show g_zip_check_l0 k (fs.map mkF) k 0=_ from chk0 k fs (by omega) k 0 (by omega) (by omega),List.drop_zero]
  simp only [Option.bind_some]
  cases h2:fs.any (fun f=>decide (f.2.length > 262144)) with
  | true=>rfl
  | false =>
    simp only [if_false,Bool.false_eq_true]
    rw [show g_zip_check_l1 k (fs.map mkF) k 0=_ from chk1 k hk fs (by omega) k 0 (by omega) (by omega),List.drop_zero]
    simp only [Option.bind_some]
    cases h3:fs.any (fun f=>!okName f.1) with
    | true=>rfl
    | false =>
      simp only [if_false,Bool.false_eq_true]
      have hok:∀ f∈fs,okName f.1=true:=fun f hf=>by
        have:=(List.any_eq_false.1 h3) f hf
        simpa using this
      rw [show g_zip_check_l2 k (fs.map mkF) k 0=_ from chk2 k hk fs (by omega) hok k 0 (by omega) (by omega),List.drop_zero,List.take_zero]
      simp only [Option.bind_some,List.map_nil]
      cases twiceZ [] (fs.map (·.1)) <;> rfl
theorem chk_zero {fs:List Zf} {meth:Int} (h:chkZ fs meth=0):(meth=0∨meth=8)∧fs.length≤64∧(∀ f∈fs,f.2.length≤262144∧okName f.1=true):=by
  unfold chkZ at h
  split at h
  · cases h
  rename_i h0
  split at h
  · cases h
  rename_i h1
  split at h
  · cases h
  rename_i h2
  split at h
  · cases h
  rename_i h3
  refine ⟨by by_cases hm : meth = 0
             · exact .inl hm
             · exact .inr (Decidable.byContradiction fun h8=>h0 ⟨hm,h8⟩),by omega,fun f hf=>?_⟩
  simp only [List.any_eq_true,not_exists,not_and,decide_eq_true_eq,Bool.not_eq_true] at h2 h3
  have a:=h2 f hf
  have b:=h3 f hf
  exact ⟨by omega,by simpa using b⟩
theorem write_go (k:Nat) (hk:300000≤k) (fs:List Zf) (hl:fs.length≤64) (hok:∀ f∈fs,f.2.length≤262144∧f.1.length≤255):∀ (n i:Nat) (O D:List UInt8),i≤fs.length→fs.length - i<n→O.length+(fs.length - i)*263000≤20000000→D.length+(fs.length - i)*400≤20000000 →
    g_zip_Write_l0 k (fs.map mkF) 0 n (i:Int) (I O) (I D)=some (I (O++outZ crcN O.length (fs.drop i)),I (D++dirZ (entsZ crcN O.length (fs.drop i)))):=by
  intro n
  induction n with
  | zero=>intro i O D _ h;omega
  | succ n ih =>
    intro i O D hi hn hO hD
    rw [g_zip_Write_l0.eq_2,List.length_map]
    by_cases h:i<fs.length
    · have hf:=hok fs[i] (List.getElem_mem h)
      have hcr:=crcN_lt fs[i].2
      obtain ⟨q,hq⟩:∃ q,fs.length - i=q+1:=⟨fs.length - i - 1,by omega⟩
      rw [hq] at hO hD
      rw [dt (show (i:Int)<((fs.length:Nat):Int) by omega),ixM h]
      simp only [bt,Option.bind_some]
      rw [show decide ((0:Int)=8)=false from rfl,show (mkF fs[i]).fData=I fs[i].2 from rfl,show (mkF fs[i]).fName=zB fs[i].1 from rfl,crc_prog (by omega) (by omega) (by omega)]
      simp only [bf,Option.bind_some]
      rw [wi (by omega) (by omega),I_length,I_length]
      have hc:=central_eq (k:=k) (by omega) 0 (crcN fs[i].2) fs[i].2.length fs[i].2.length O.length (zB fs[i].1) (by omega) (by omega) (by omega) (by omega) (by rw [zB_size];omega) (by omega)
      have hlo:=local_eq (k:=k) (by omega) 0 (crcN fs[i].2) fs[i].2.length fs[i].2.length O.length (zB fs[i].1) (O.length:Int) (by omega) (by omega) (by omega) (by omega) (by rw [zB_size];omega)
      rw [L_zB] at hc hlo
      rw [show g_zip_central k 0 _ _ _ _ _=_ from hc]
      simp only [Option.bind_some]
      rw [show g_zip_local k 0 _ _ _ _ _=_ from hlo]
      have e1:(centralB ⟨0,crcN fs[i].2,fs[i].2.length,fs[i].2.length,fs[i].1,O.length⟩).length=46+fs[i].1.length:=central_len _
      have e2:(localB ⟨0,crcN fs[i].2,fs[i].2.length,fs[i].2.length,fs[i].1,O.length⟩).length=30+fs[i].1.length:=local_len _
      rw [dt (show _≤(140737488355328:Nat) by rw [I_length,I_length,e1];omega)]
      simp only [bt,Option.bind_some]
      rw [dt (show _≤(140737488355328:Nat) by rw [I_length,e2];omega),dt (show _≤(140737488355328:Nat) by rw [List.length_append,I_length,I_length,e2];omega)]
      simp only [bt]
      rw [wi (by omega) (by omega),show ((i:Int)+1)=((i+1:Nat):Int) by omega,← I_append,← I_append,← I_append,ih (i+1) _ _ (by omega) (by omega) (by rw [List.length_append,List.length_append,e2,show fs.length - (i+1)=q by omega];omega) (by rw [List.length_append,e1,show fs.length - (i+1)=q by omega];omega)]
      rw [List.drop_eq_getElem_cons h,outZ,entsZ,List.length_append,List.length_append,e2]
      rw [show O.length+(30+fs[i].1.length)+fs[i].2.length=O.length+(30+fs[i].1.length+fs[i].2.length) by omega]
      simp only [dirZ,List.flatMap_cons,List.append_assoc]
      rfl
    · rw [df (show ¬ (i:Int)<((fs.length:Nat):Int) by omega),List.drop_of_length_le (l:=fs) (by omega)]
      simp [outZ,entsZ,dirZ]
theorem outZ_len:∀ (fs:List Zf) (a:Nat),(∀ f∈fs,f.2.length≤262144∧f.1.length≤255)→(outZ crcN a fs).length≤fs.length*263000
  | [],_,_=>by simp [outZ]
  | f::fs,a,h=>by
    have:=outZ_len fs (a+(30+f.1.length+f.2.length)) (fun x hx=>h x (List.mem_cons_of_mem _ hx))
    have hf:=h f (List.mem_cons_self ..)
    rw [outZ,List.length_append,List.length_append,local_len,List.length_cons]
    simp only [entZ]
    omega
theorem dirZ_len:∀ (fs:List Zf) (a:Nat),(∀ f∈fs,f.2.length≤262144∧f.1.length≤255)→(dirZ (entsZ crcN a fs)).length≤fs.length*400
  | [],_,_=>by simp [dirZ,entsZ]
  | f::fs,a,h=>by
    have:=dirZ_len fs (a+(30+f.1.length+f.2.length)) (fun x hx=>h x (List.mem_cons_of_mem _ hx))
    have hf:=h f (List.mem_cons_self ..)
    rw [entsZ,dirZ,List.flatMap_cons,List.length_append,central_len,List.length_cons]
    simp only [entZ]
    simp only [dirZ] at this
    omega
theorem write_eq (k:Nat) (hk:300000≤k) (fs:List Zf):∃ e:Nat,g_zip_Write k (fs.map mkF) 0=some ((e:Int),if e=0 then I (allZ crcN fs) else [])∧e=chkZ fs 0:=by
  refine ⟨_,?_,rfl⟩
  unfold g_zip_Write
  rw [check_eq (by omega)]
  simp only [Option.bind_some]
  by_cases h0:chkZ fs 0=0
  · obtain ⟨_,hl,hf⟩:=chk_zero h0
    have hok:∀ f∈fs,f.2.length≤262144∧f.1.length≤255:=fun f h=>⟨(hf f h).1,(okName_asc (hf f h).2).2⟩
    have hg:=write_go k hk fs hl hok k 0 [] [] (by omega) (by omega) (by simp;omega) (by simp;omega)
    have ho:=outZ_len fs 0 hok
    have hd:=dirZ_len fs 0 hok
    rw [h0,if_pos rfl,show (!decide (((0:Nat):Int)=0))=false from rfl]
    simp only [bf]
    rw [show g_zip_Write_l0 k (fs.map mkF) 0 k 0 [] []=_ from hg]
    simp only [Option.bind_some,List.nil_append,List.drop_zero,List.length_nil]
    rw [I_length,I_length,dt (show _≤(140737488355328:Nat) by omega),List.length_map,end_eq (by omega) _ _ _ (by omega) (by omega) (by omega)]
    simp only [bt,Option.bind_some]
    rw [← I_append,I_length,I_length,List.length_append,end_len,dt (show _≤(140737488355328:Nat) by omega)]
    simp only [bt]
    rw [← I_append,List.append_assoc]
    rfl
  · rw [if_neg h0,show (!decide (((chkZ fs 0:Nat):Int)=0))=true by rw [df (by omega)];rfl]
    rfl
def mkE (e:Ent):S_zip_entry:=⟨e.meth,e.crc,e.packed,e.size,zB e.name,e.at_⟩
def atZ (b:List UInt8):Ent:=⟨zfld b 10 2,zfld b 16 4,zfld b 20 4,zfld b 24 4,(b.drop 46).take (zfld b 28 2),zfld b 42 4⟩
def prsZ:Nat→List UInt8→Option (List Ent × List UInt8)
  | 0,b=>some ([],b)
  | n+1,b=>if b.length<46 then none else if b.length<46+zfld b 28 2 then none else
    if centralB (atZ b) <+: b then (prsZ n (b.drop (46+zfld b 28 2))).map fun x=>(atZ b::x.1,x.2) else none
theorem zfld_lt (b:List UInt8) (o n:Nat):zfld b o n<256^n:=by
  unfold zfld
  refine Nat.lt_of_lt_of_le (zlv_lt _) (Nat.pow_le_pow_right (by omega) ?_)
  rw [List.length_take];omega
theorem atZ_ok (b:List UInt8):(atZ b).ok:=⟨zfld_lt b 10 2,zfld_lt b 16 4,zfld_lt b 20 4,zfld_lt b 24 4,by
  have:=zfld_lt b 28 2
  show ((b.drop 46).take (zfld b 28 2)).length<_
  rw [List.length_take];omega,zfld_lt b 42 4⟩
theorem prsZ_ok:∀ (n:Nat) (b:List UInt8) (es:List Ent) (r:List UInt8),prsZ n b=some (es,r)→es.length=n∧b=dirZ es++r∧∀ e∈es,e.ok
  | 0,b,es,r,h=>by
    simp only [prsZ,Option.some.injEq,Prod.mk.injEq] at h
    obtain ⟨rfl,rfl⟩:=h
    exact ⟨rfl,rfl,fun e h=>by cases h⟩
  | n+1,b,es,r,h=>by
    rw [prsZ] at h
    split at h
    · cases h
    split at h
    · cases h
    rename_i h1 h2
    split at h
    · rename_i hp
      cases hq:prsZ n (b.drop (46+zfld b 28 2)) with
      | none=>rw [hq] at h;cases h
      | some x =>
        rw [hq] at h
        simp only [Option.map_some,Option.some.injEq,Prod.mk.injEq] at h
        obtain ⟨rfl,rfl⟩:=h
        obtain ⟨a1,a2,a3⟩:=prsZ_ok n _ x.1 x.2 hq
        refine ⟨by rw [List.length_cons,a1],?_,fun e he=>?_⟩
        · rw [dirZ,List.flatMap_cons,List.append_assoc]
          have hl:(centralB (atZ b)).length=46+zfld b 28 2:=by
            rw [central_len]
            show 46+((b.drop 46).take (zfld b 28 2)).length=_
            rw [List.length_take,List.length_drop];omega
          rw [List.prefix_iff_eq_take,hl] at hp
          show b=centralB (atZ b)++(dirZ x.1++x.2)
          rw [← a2]
          conv=>lhs;rw [← List.take_append_drop (46+zfld b 28 2) b,← hp]
        · rcases List.mem_cons.1 he with rfl | he
          · exact atZ_ok b
          · exact a3 e he
    · cases h
theorem numL {k:Nat} (hk:10≤k) {b:List UInt8} {x y:Int} (a n:Nat) (hx:x=(a:Int)) (hy:y=(n:Int)) (hn:n≤4) (hb:a+n≤b.length) (hbl:b.length≤1099511627776):g_zip_num k (I b) x y=some ((zfld b a n:Nat):Int):=by
  subst hx hy;exact num_eq hk hn hb hbl
theorem entries_go (k:Nat) (hk:300≤k) (many:Nat) (hm:many≤64):∀ (n i:Nat) (b:List UInt8) (acc:List S_zip_entry),i≤many→many - i<n→acc.length=i→b.length≤1048576 →
    (prsZ (many - i) b=none∧∃ x,g_zip_directory_l0 k (many:Int) n (i:Int) (I b) acc=some (Sum.inl x)) ∨
    ∃ es r,prsZ (many - i) b=some (es,r)∧g_zip_directory_l0 k (many:Int) n (i:Int) (I b) acc=some (Sum.inr (I r,acc++es.map mkE)):=by
  intro n
  induction n with
  | zero=>intro i b acc _ h;omega
  | succ n ih =>
    intro i b acc hi hn hacc hb
    rw [g_zip_directory_l0.eq_2]
    by_cases h:i<many
    · obtain ⟨q,hq⟩:∃ q,many - i=q+1:=⟨many - i - 1,by omega⟩
      have hq2:many - (i+1)=q:=by omega
      rw [hq,prsZ,dt (show (i:Int)<(many:Int) by omega),I_length]
      simp only [bt]
      by_cases h46:b.length<46
      · rw [dt (show (b.length:Int)<46 by omega),if_pos h46]
        exact .inl ⟨rfl,_,rfl⟩
      rw [df (show ¬ (b.length:Int)<46 by omega),if_neg h46,numL (k:=k) (b:=b) (x:=28) (y:=2) (by omega) 28 2 rfl rfl (by omega) (by omega) (by omega)]
      have hz:=zfld_lt b 28 2
      rw [show (256:Nat)^2=65536 from rfl] at hz
      simp only [bf,Option.bind_some]
      rw [wi (n:=46+((zfld b 28 2:Nat):Int)) (by omega) (by omega)]
      by_cases hl:b.length<46+zfld b 28 2
      · rw [dt (show (b.length:Int)<46+((zfld b 28 2:Nat):Int) by omega),if_pos hl]
        exact .inl ⟨rfl,_,rfl⟩
      rw [df (show ¬ (b.length:Int)<46+((zfld b 28 2:Nat):Int) by omega),if_neg hl,dt (show (0:Int)≤46∧(46:Int)≤46+((zfld b 28 2:Nat):Int)∧46+((zfld b 28 2:Nat):Int)≤(b.length:Int) by omega)]
      simp only [bf,bt,Option.bind_some]
      rw [numL (k:=k) (b:=b) (x:=10) (y:=2) (by omega) 10 2 rfl rfl (by omega) (by omega) (by omega),numL (k:=k) (b:=b) (x:=16) (y:=4) (by omega) 16 4 rfl rfl (by omega) (by omega) (by omega),numL (k:=k) (b:=b) (x:=20) (y:=4) (by omega) 20 4 rfl rfl (by omega) (by omega) (by omega),numL (k:=k) (b:=b) (x:=24) (y:=4) (by omega) 24 4 rfl rfl (by omega) (by omega) (by omega),numL (k:=k) (b:=b) (x:=42) (y:=4) (by omega) 42 4 rfl rfl (by omega) (by omega) (by omega)]
      simp only [Option.bind_some]
      have en:strOf (List.drop (Int.toNat 46) (List.take (Int.toNat (46+((zfld b 28 2:Nat):Int))) (I b)))=zB (atZ b).name:=by
        rw [I_take,I_drop,zstrOf,show Int.toNat (46+((zfld b 28 2:Nat):Int))=46+zfld b 28 2 by omega,show Int.toNat 46=46 from rfl,List.drop_take,Nat.add_sub_cancel_left]
        rfl
      have ho:=atZ_ok b
      have hnl:=ho.name
      have hc:=central_eq (k:=k) (by omega) (atZ b).meth (atZ b).crc (atZ b).packed (atZ b).size (atZ b).at_ (zB (atZ b).name) (by have:=ho.meth;omega) (by have:=ho.crc;omega) (by have:=ho.packed;omega) (by have:=ho.size;omega) (by rw [zB_size];omega) (by have:=ho.at_;omega)
      rw [L_zB] at hc
      have hc':g_zip_central k ((zfld b 10 2:Nat):Int) ((zfld b 16 4:Nat):Int) ((zfld b 20 4:Nat):Int) ((zfld b 24 4:Nat):Int) (zB (atZ b).name) ((zfld b 42 4:Nat):Int)=some (I (centralB (atZ b))):=hc
      rw [en,hc']
      simp only [Option.bind_some]
      rw [begins_eq]
      simp only [Option.bind_some]
      by_cases hp:centralB (atZ b) <+: b
      · rw [if_pos hp,show (!decide (centralB (atZ b) <+: b))=false from by rw [dt hp];rfl]
        simp only [bf]
        rw [dt (show _≤(140737488355328:Nat) by rw [hacc];simp;omega),dt (show (0:Int)≤_∧_∧_ by refine ⟨?_,?_,?_⟩ <;> omega)]
        simp only [bt]
        rw [wi (by omega) (by omega),show ((i:Int)+1)=((i+1:Nat):Int) by omega,Int.toNat_natCast,List.take_of_length_le (l:=I b) (by rw [I_length];omega),show Int.toNat (46+((zfld b 28 2:Nat):Int))=46+zfld b 28 2 by omega,I_drop]
        rcases ih (i+1) (b.drop (46+zfld b 28 2)) (acc++[mkE (atZ b)]) (by omega) (by omega) (by simp [hacc]) (by rw [List.length_drop];omega) with ⟨q1,x,q3⟩ | ⟨es,r,q1,q3⟩
        · rw [hq2] at q1
          exact .inl ⟨by rw [q1];rfl,x,q3⟩
        · rw [hq2] at q1
          refine .inr ⟨atZ b::es,r,by rw [q1];rfl,?_⟩
          refine q3.trans ?_
          rw [List.map_cons,List.append_assoc];rfl
      · rw [if_neg hp,show (!decide (centralB (atZ b) <+: b))=true from by rw [df hp];rfl]
        exact .inl ⟨rfl,_,rfl⟩
    · rw [df (show ¬ (i:Int)<(many:Int) by omega),show many - i=0 by omega]
      exact .inr ⟨[],b,rfl,by simp⟩
def dirS (b:List UInt8):Option (List Ent × Nat) :=
  if b.length<22 then none else
  if ¬ endB (zfld b (b.length - 22+8) 2) (zfld b (b.length - 22+12) 4) (zfld b (b.length - 22+16) 4) <+: b.drop (b.length - 22)∨zfld b (b.length - 22+8) 2 > 64∨zfld b (b.length - 22+16) 4+zfld b (b.length - 22+12) 4≠b.length - 22 then none else
  match prsZ (zfld b (b.length - 22+8) 2) ((b.drop (zfld b (b.length - 22+16) 4)).take (zfld b (b.length - 22+12) 4)) with
  | some (es,[])=>some (es,zfld b (b.length - 22+16) 4)
  | _=>none
theorem dirS_ok {b:List UInt8} {es:List Ent} {a:Nat} (h:dirS b=some (es,a)):∃ o,b=o++(dirZ es++endB es.length (dirZ es).length o.length)∧a=o.length∧(∀ e∈es,e.ok)∧es.length≤64:=by
  unfold dirS at h
  split at h
  · cases h
  rename_i h22
  split at h
  · cases h
  rename_i hc
  split at h
  · rename_i es' heq
    simp only [Option.some.injEq,Prod.mk.injEq] at h
    obtain ⟨rfl,rfl⟩:=h
    obtain ⟨a1,a2,a3⟩:=prsZ_ok _ _ _ _ heq
    have c1:endB (zfld b (b.length - 22+8) 2) (zfld b (b.length - 22+12) 4) (zfld b (b.length - 22+16) 4) <+: b.drop (b.length - 22):=Decidable.byContradiction fun h=>hc (.inl h)
    have c2:¬ zfld b (b.length - 22+8) 2 > 64:=fun h=>hc (.inr (.inl h))
    have c3:zfld b (b.length - 22+16) 4+zfld b (b.length - 22+12) 4=b.length - 22:=Decidable.byContradiction fun h=>hc (.inr (.inr h))
    have c4:endB (zfld b (b.length - 22+8) 2) (zfld b (b.length - 22+12) 4) (zfld b (b.length - 22+16) 4)=b.drop (b.length - 22):=c1.eq_of_length (by rw [end_len,List.length_drop];omega)
    have hdl:(dirZ es').length=zfld b (b.length - 22+12) 4:=by
      have:=congrArg List.length a2
      rw [List.append_nil,List.length_take,List.length_drop] at this
      omega
    have hol:(b.take (zfld b (b.length - 22+16) 4)).length=zfld b (b.length - 22+16) 4:=by rw [List.length_take];omega
    refine ⟨b.take (zfld b (b.length - 22+16) 4),?_,hol.symm,a3,by omega⟩
    rw [hol,hdl,a1,c4]
    rw [List.append_nil] at a2
    rw [← a2]
    generalize zfld b (b.length - 22+16) 4=x at c3 ⊢
    generalize zfld b (b.length - 22+12) 4=y at c3 ⊢
    rw [← c3,← List.drop_drop,List.take_append_drop,List.take_append_drop]
  · cases h
theorem directory_eq {k:Nat} (hk:300≤k) (b:List UInt8) (hb:b.length≤1048576):g_zip_directory k (I b)=some (match dirS b with | some (es,a)=>(es.map mkE,(a:Int),0) | none=>([],0,14)):=by
  unfold g_zip_directory dirS
  rw [I_length,df (show ¬ (1048576:Int)<((b.length:Nat):Int) by omega)]
  simp only [Option.bind_some,bf]
  by_cases h22:b.length<22
  · rw [dt (show ((b.length:Nat):Int)<22 by omega),if_pos h22];rfl
  rw [df (show ¬ ((b.length:Nat):Int)<22 by omega),if_neg h22]
  simp only [bf]
  have et:((b.length:Nat):Int) - 22=((b.length - 22:Nat):Int):=by omega
  rw [wi (n:=((b.length:Nat):Int) - 22) (by omega) (by omega),et,wi (n:=((b.length - 22:Nat):Int)+8) (by omega) (by omega),wi (n:=((b.length - 22:Nat):Int)+12) (by omega) (by omega),wi (n:=((b.length - 22:Nat):Int)+16) (by omega) (by omega)]
  rw [numL (k:=k) (b:=b) (x:=((b.length - 22:Nat):Int)+8) (y:=2) (by omega) (b.length - 22+8) 2 (by omega) rfl (by omega) (by omega) (by omega),numL (k:=k) (b:=b) (x:=((b.length - 22:Nat):Int)+12) (y:=4) (by omega) (b.length - 22+12) 4 (by omega) rfl (by omega) (by omega) (by omega),numL (k:=k) (b:=b) (x:=((b.length - 22:Nat):Int)+16) (y:=4) (by omega) (b.length - 22+16) 4 (by omega) rfl (by omega) (by omega) (by omega)]
  have z1:=zfld_lt b (b.length - 22+8) 2
  have z2:=zfld_lt b (b.length - 22+12) 4
  have z3:=zfld_lt b (b.length - 22+16) 4
  generalize zfld b (b.length - 22+8) 2=many at *
  generalize zfld b (b.length - 22+12) 4=size at *
  generalize zfld b (b.length - 22+16) 4=a at *
  simp only [Option.bind_some]
  rw [dt (show (0:Int)≤((b.length - 22:Nat):Int)∧((b.length - 22:Nat):Int)≤((b.length:Nat):Int)∧((b.length:Nat):Int)≤((b.length:Nat):Int) by omega),end_eq (by omega) _ _ _ (by omega) (by omega) (by omega)]
  simp only [bt,Option.bind_some]
  rw [Int.toNat_natCast,Int.toNat_natCast,List.take_of_length_le (l:=I b) (by rw [I_length];omega),I_drop,begins_eq]
  simp only [Option.bind_some]
  by_cases h1:endB many size a <+: b.drop (b.length - 22)
  · rw [dt h1]
    simp only [Bool.not_true,bf]
    by_cases h2:many > 64
    · rw [dt (show (64:Int)<(many:Int) by omega),if_pos (.inr (.inl h2))];rfl
    rw [df (show ¬ (64:Int)<(many:Int) by omega)]
    simp only [bf]
    rw [wi (by omega) (by omega)]
    by_cases h3:a+size=b.length - 22
    · rw [dt (show (a:Int)+(size:Int)=((b.length - 22:Nat):Int) by omega),if_neg (by rintro (h | h | h) <;> contradiction)]
      simp only [Bool.not_true,bf,Option.bind_some]
      rw [dt (show (0:Int)≤(a:Int)∧(a:Int)≤((b.length - 22:Nat):Int)∧((b.length - 22:Nat):Int)≤((b.length:Nat):Int) by omega)]
      simp only [bt,Option.bind_some,g_zip_entries,Int.toNat_natCast]
      have es:List.drop a (List.take (b.length - 22) (I b))=I ((b.drop a).take size):=by
        rw [I_take,I_drop,List.drop_take,show b.length - 22 - a=size by omega]
      rw [es]
      rcases entries_go k hk many (by omega) k 0 ((b.drop a).take size) [] (by omega) (by omega) rfl (by rw [List.length_take,List.length_drop];omega) with ⟨q1,x,q3⟩ | ⟨l,r,q1,q3⟩
      · rw [Nat.sub_zero] at q1
        rw [q1,show g_zip_directory_l0 k (many:Int) k 0 _ []=_ from q3]
        rfl
      · rw [Nat.sub_zero] at q1
        rw [q1,show g_zip_directory_l0 k (many:Int) k 0 _ []=_ from q3]
        simp only [Option.bind_some,List.nil_append]
        rw [I_length]
        cases r with
        | nil=>rfl
        | cons c r=>rw [df (show ¬ (((c::r).length:Nat):Int)=0 by simp;omega)];rfl
    · rw [df (show ¬ (a:Int)+(size:Int)=((b.length - 22:Nat):Int) by omega),if_pos (.inr (.inr h3))];rfl
  · rw [df h1,if_pos (.inl h1)];rfl
end Go.Proofs.YtaphblcbnhnpaaaGreatDoor.W
