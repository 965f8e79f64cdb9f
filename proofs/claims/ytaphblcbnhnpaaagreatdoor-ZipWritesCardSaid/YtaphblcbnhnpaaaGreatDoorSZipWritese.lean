/- Texts joined: part 5 of what LZipWrites stands on. -/
import Derived.Test.YtaphblcbnhnpaaaGreatDoorSZipWritesd
namespace Go.Proofs.YtaphblcbnhnpaaaGreatDoor.W
open Go Go.Q Go.Proofs
set_option linter.unusedVariables false
set_option linter.unusedSimpArgs false
set_option maxRecDepth 100000
set_option maxHeartbeats 4000000
theorem s_deflate_dynamic (k:Nat) (x1:(List S_deflate_Item)) (r:(ByteArray ⊕ (List Int))) (H:g_deflate_dynamic k x1=some r):Go.Q.Spec Tryz.prog 43 0 [.ro (Rd.slice rdS_deflate_Item) false x1] Mem.nil (fun o M=>match (generalizing:=false) r with | (Sum.inl x2)=>o=.pan (.ifc 9 (.lit (.string x2)))∧M=Mem.nil | (Sum.inr x3)=>o=.ret (.ro (Rd.slice (Rd.int .u8)) false x3)∧M=Mem.nil):=by
 unfold g_deflate_dynamic at H;refine bo Tryz.func43 [] [.tmp 2] 190 fun cx hnp=>?_;(iterate 3 refine sp ?_);refine WP.seq ?_;obtain ⟨_,H1,H⟩:=bnd H;refine mo .normal (((Env.none.upd 0 (.ro (Rd.slice rdS_deflate_Item) false x1)).upd 3 (.whole 0)).upd 4 (.whole 1)) ((Mem.nil.push (.row 3 (Rd.int .i64) (List.replicate (Int.toNat 286) (0:Int)))).push (.row 3 (Rd.int .i64) (List.replicate (Int.toNat 30) (0:Int)))) ?_ ?_
 · clear H;have H:=H1;clear H1;refine WP.regionD' 4 [] [] mixed rfl ?_;refine WPD.of2 0 1 (by kernel_rfl) ?_ ?_
   · obtain ⟨h1,H⟩:=grd H;refine WPD1.eff 0 [] [] rfl (Does.runs (d_make (d:=(0:Int)) (R:=(Rd.int .i64)) li61 by3 rfl rfl rfl Joins.sc rfl rfl h1 rfl)) rfl rfl ?_;refine dT 2 ?_;obtain ⟨h2,H⟩:=grd H;refine dE 1 [] [] rfl (Does.runs (d_make (d:=(0:Int)) (R:=(Rd.int .i64)) li61 by3 rfl rfl rfl Joins.sc rfl rfl h2 rfl)) ?_;refine dT 3 ?_;refine WPD.doneW (by kernel_rfl) ?_;exact wq [0,1]
   obtain ⟨h1,H⟩:=grd H;obtain ⟨h3,H⟩:=grd H;replace H:=(grdI h3 (grdI h1 H));obtain ⟨h3,H⟩:=grd H;refine WPD1.eff 1 [] [] rfl (Does.runs (d_make (d:=(0:Int)) (R:=(Rd.int .i64)) li61 by3 rfl rfl rfl Joins.sc rfl rfl h3 rfl)) rfl rfl ?_;obtain ⟨h4,H⟩:=grd H;refine dE 0 [] [] rfl (Does.runs (d_make (d:=(0:Int)) (R:=(Rd.int .i64)) li61 by3 rfl rfl rfl Joins.sc rfl rfl h4 rfl)) ?_;refine dT 2 ?_;refine dT 3 ?_;refine WPD.doneW (by kernel_rfl) ?_;exact wq [1,0]
 (iterate 4 refine sp ?_);obtain ⟨x4,h5,H⟩:=bnd H;refine WPL.qq (q_index_row sl61 rfl rfl rfl (ixs h5)) ?_;refine WPL.s (s_store_row (j:=(Int.toNat 256)) (d:=1) sz3 rfl rfl rfl rfl Joins.sc (ixl h5)) ?_;refine sp ?_;refine WP.seq ?_;(iterate 6 refine sp ?_);refine WP.cv (Cv.weak (E':=((((((Env.none.upd 0 (.ro (Rd.slice rdS_deflate_Item) false x1)).upd 3 (.whole 0)).upd 4 (.whole 1)).upd 33 (.ro (Rd.slice rdS_deflate_Item) false x1)).upd 34 (.lit (.int .i64 ((List.length x1:Nat):Int)))).upd 35 (.lit (.int .i64 0)))) (M':=((Mem.nil.push (.row 3 (Rd.int .i64) (List.set (List.replicate (Int.toNat 286) (0:Int)) (Int.toNat 256) 1))).push (.row 3 (Rd.int .i64) (List.replicate (Int.toNat 30) (0:Int))))) [0,1] hnp ⟨rfl,AA2,by decide,rfl,trivial⟩ (LeE.u (LeE.u (LeE.u (LeE.u (LeE.u (LeE.u (LeE.none rfl rfl)))))))) ?_;obtain ⟨⟨x5,x6⟩,H2,H⟩:=bnd H;refine mo (.exit 0) (((Env.none.upd 0 (.ro (Rd.slice rdS_deflate_Item) false x1)).upd 3 (.whole 0)).upd 4 (.whole 1)) ((Mem.nil.push (.row 3 (Rd.int .i64) x5)).push (.row 3 (Rd.int .i64) x6)) ?_ ?_
 · refine WP.loop (β:=Int × (List Int) × (List Int)) (fun n b=>g_deflate_dynamic_l0 k x1 n b.1 b.2.1 b.2.2=some (x5,x6)) (fun b=>((((((Env.none.upd 0 (.ro (Rd.slice rdS_deflate_Item) false x1)).upd 3 (.whole 0)).upd 4 (.whole 1)).upd 33 (.ro (Rd.slice rdS_deflate_Item) false x1)).upd 34 (.lit (.int .i64 ((List.length x1:Nat):Int)))).upd 35 (.lit (.int .i64 b.1)))) (fun b=>((Mem.nil.push (.row 3 (Rd.int .i64) b.2.1)).push (.row 3 (Rd.int .i64) b.2.2))) k (0,(List.set (List.replicate (Int.toNat 286) (0:Int)) (Int.toNat 256) 1),(List.replicate (Int.toNat 30) (0:Int))) H2 rfl rfl ?_;rintro n ⟨x7,x8,x9⟩ H;obtain _ | n:=n
   · exact nf rfl H
   rw [g_deflate_dynamic_l0.eq_2] at H;show WP _ _ _ _ ((((((Env.none.upd 0 (.ro (Rd.slice rdS_deflate_Item) false x1)).upd 3 (.whole 0)).upd 4 (.whole 1)).upd 33 (.ro (Rd.slice rdS_deflate_Item) false x1)).upd 34 (.lit (.int .i64 ((List.length x1:Nat):Int)))).upd 35 (.lit (.int .i64 x7))) ((Mem.nil.push (.row 3 (Rd.int .i64) x8)).push (.row 3 (Rd.int .i64) x9)) _;refine sp ?_;obtain ⟨x10,h6,H⟩:=bnd H;refine sn (nm_bool h6) ?_;refine sp ?_;refine WP.seq ?_;refine cq H (fun hb1 H=>?_) fun hb1 H=>?_
   · (iterate 3 refine sp ?_);refine WP.seq ?_;obtain ⟨⟨x11,x12⟩,H3,H⟩:=bnd H;refine mo .normal ((((((Env.none.upd 0 (.ro (Rd.slice rdS_deflate_Item) false x1)).upd 3 (.whole 0)).upd 4 (.whole 1)).upd 33 (.ro (Rd.slice rdS_deflate_Item) false x1)).upd 34 (.lit (.int .i64 ((List.length x1:Nat):Int)))).upd 35 (.lit (.int .i64 x7))) ((Mem.nil.push (.row 3 (Rd.int .i64) x11)).push (.row 3 (Rd.int .i64) x12)) ?_ ?_
     · clear H;have H:=H3;clear H3;(iterate 2 refine sp ?_);obtain ⟨x13,h7,H⟩:=bnd H;refine sp ?_;refine WPL.qq (q_load_roag ag103 rfl rfl S_deflate_Item.sp) ?_;(iterate 3 refine sp ?_);refine WP.seq ?_;(iterate 5 refine sp ?_);refine cq H (fun hb2 H=>?_) fun hb2 H=>?_
       · (iterate 4 refine sp ?_);obtain ⟨x14,h8,H⟩:=bnd H;refine WPL.qq (q_index_row sl61 rfl rfl rfl (ixs h8)) ?_;refine WPL.qq (q_load_row (j:=(Int.toNat x13.fByte)) sc3 rfl rfl (ixj h8)) ?_;refine sp ?_;obtain ⟨x15,h9,H⟩:=bnd H;refine WPL.qq (q_index_row sl61 rfl rfl rfl (ixs h9)) ?_;refine WPL.s (s_store_row (j:=(Int.toNat x13.fByte)) (d:=(IntKind.wrap .i64 (x14+1))) sz3 rfl rfl rfl rfl Joins.sc (ixl h9)) ?_;(iterate 2 refine sp ?_);obtain ⟨rfl,rfl⟩:=j2 H;exact wq [0,1] (Then.x (InBlock.x0 r3))
       (iterate 6 refine sp ?_);obtain ⟨⟨x16,x17,x18⟩,h9,H⟩:=bnd H;refine WPL.c (rc [] [] 3 [] (s_deflate_lit k x13.fLen x16 x17 x18 h9)) rfl ?_;(iterate 11 refine sp ?_);obtain ⟨x19,h10,H⟩:=bnd H;refine WPL.qq (q_index_row sl61 rfl rfl rfl (ixs h10)) ?_;refine WPL.qq (q_load_row (j:=(Int.toNat x16)) sc3 rfl rfl (ixj h10)) ?_;refine sp ?_;obtain ⟨x20,h11,H⟩:=bnd H;refine WPL.qq (q_index_row sl61 rfl rfl rfl (ixs h11)) ?_;refine WPL.s (s_store_row (j:=(Int.toNat x16)) (d:=(IntKind.wrap .i64 (x19+1))) sz3 rfl rfl rfl rfl Joins.sc (ixl h11)) ?_;(iterate 4 refine sp ?_);obtain ⟨⟨x21,x22,x23⟩,h11,H⟩:=bnd H;refine WPL.c (rc [] [] 3 [] (s_deflate_dist k x13.fDist x21 x22 x23 h11)) rfl ?_;(iterate 9 refine sp ?_);obtain ⟨x24,h12,H⟩:=bnd H;refine WPL.qq (q_index_row sl61 rfl rfl rfl (ixs h12)) ?_;refine WPL.qq (q_load_row (j:=(Int.toNat x21)) sc3 rfl rfl (ixj h12)) ?_;refine sp ?_;obtain ⟨x25,h13,H⟩:=bnd H;refine WPL.qq (q_index_row sl61 rfl rfl rfl (ixs h13)) ?_;refine WPL.s (s_store_row (j:=(Int.toNat x21)) (d:=(IntKind.wrap .i64 (x24+1))) sz3 rfl rfl rfl rfl Joins.sc (ixl h13)) ?_;refine WPL.nilW ?_;obtain ⟨rfl,rfl⟩:=j2 H;exact wq [0,1] (InBlock.n r3)
     (iterate 5 refine sp ?_);refine WPL.nilW ?_;exact wq [0,1] (Then.n ⟨n,((IntKind.wrap .i64 (x7+1)),x11,x12),Nat.lt_succ_self n,H,rfl,rfl⟩)
   refine sp ?_;obtain ⟨rfl,rfl⟩:=j2 H;exact wq [0,1] (Then.x (Then.x r3))
 (iterate 5 refine sp ?_);obtain ⟨y1,h14,H⟩:=bnd H;rcases y1 with ⟨x26,x27⟩ | x28
 · refine WPL.c (rc [] [] 2 [0] (s_huff_Lengths k x5 15 (Sum.inl (x26,x27)) h14)) rfl ?_;(iterate 8 refine sp ?_);obtain ⟨y2,h15,H⟩:=bnd H;rcases y2 with ⟨x29,x30⟩ | x31
   · refine WPL.c (rc [] [] 2 [1] (s_huff_Lengths k x6 15 (Sum.inl (x29,x30)) h15)) rfl ?_;(iterate 8 refine sp ?_);obtain ⟨x32,h16,H⟩:=bnd H;refine WPL.c (rc [] [] 2 [] (s_deflate_shorter k x26 257 x32 h16)) rfl ?_;refine sp ?_;obtain ⟨x33,h17,H⟩:=bnd H;refine WPL.c (rc [] [] 2 [] (s_deflate_shorter k x29 1 x33 h17)) rfl ?_;(iterate 6 refine sp ?_);refine WPL.d (d_buildSlice (ds:=([x32,x33]:List (List Int))) (R:=(Rd.slice (Rd.int .i64))) li184 rfl rfl rfl rfl rfl (JoinRows.cons (l:=[.ro (Rd.slice (Rd.int .i64)) false x32]) Joins.one rfl (JoinRows.cons (l:=[.ro (Rd.slice (Rd.int .i64)) false x33]) Joins.one rfl JoinRows.nil)) rfl rfl) rfl ?_;obtain ⟨y3,h18,H⟩:=bnd H;rcases y3 with x34 | x35
     · refine WPL.pW (runs_callP (s:=[2]) (t:=[2]) (N:=3) (bor:=[]) fn80 rfl (s_sc_Concat_int_int k ([x32,x33]:List (List Int)) (Sum.inl x34) h18) ⟨rfl,AA1,by decide,rfl,trivial⟩ rfl trivial (.ren rfl rfl .nil) rfl BB1 rfl) ?_;have q0:=j1 H;subst q0;exact W.now (Then.p (BodyR.mkP trivial [] ⟨rfl,rfl⟩ ⟨rfl,trivial,by decide,rfl,trivial⟩ rfl rfl))
     refine WPL.c (rc [2] [2] 3 [] (s_sc_Concat_int_int k ([x32,x33]:List (List Int)) (Sum.inr x35) h18)) rfl ?_;obtain ⟨⟨x36,x37⟩,h19,H⟩:=bnd H;refine WPL.c (rc [] [] 3 [] (s_deflate_Lengths k x35 x36 x37 h19)) rfl ?_;(iterate 7 refine sp ?_);obtain ⟨h20,H⟩:=grd H;refine WPL.d (d_make (d:=(0:Int)) (R:=(Rd.int .i64)) li61 by3 rfl rfl rfl Joins.sc rfl rfl h20 rfl) rfl ?_;(iterate 2 refine sp ?_);refine WP.seq ?_;(iterate 6 refine sp ?_);refine WP.cv (Cv.weak (E':=(((((((((Env.none.upd 0 (.ro (Rd.slice rdS_deflate_Item) false x1)).upd 10 (.ro (Rd.slice (Rd.int .i64)) false x32)).upd 12 (.ro (Rd.slice (Rd.int .i64)) false x33)).upd 14 (.ro (Rd.slice (Rd.int .i64)) false x36)).upd 15 (.ro (Rd.slice (Rd.int .i64)) false x37)).upd 16 (.whole 0)).upd 99 (.ro (Rd.slice (Rd.int .i64)) false x36)).upd 100 (.lit (.int .i64 ((List.length x36:Nat):Int)))).upd 101 (.lit (.int .i64 0)))) (M':=(Mem.nil.push (.row 3 (Rd.int .i64) (List.replicate (Int.toNat 19) (0:Int))))) [3] hnp ⟨rfl,AA1,by decide,rfl,trivial⟩ (LeE.u (LeE.u (LeE.u (LeE.u (LeE.u (LeE.u (LeE.u (LeE.u (LeE.u (LeE.none rfl rfl))))))))))) ?_;obtain ⟨x38,H4,H⟩:=bnd H;refine mo (.exit 2) ((((((Env.none.upd 0 (.ro (Rd.slice rdS_deflate_Item) false x1)).upd 10 (.ro (Rd.slice (Rd.int .i64)) false x32)).upd 12 (.ro (Rd.slice (Rd.int .i64)) false x33)).upd 14 (.ro (Rd.slice (Rd.int .i64)) false x36)).upd 15 (.ro (Rd.slice (Rd.int .i64)) false x37)).upd 16 (.whole 0)) (Mem.nil.push (.row 3 (Rd.int .i64) x38)) ?_ ?_
     · refine WP.loop (β:=Int × (List Int)) (fun n b=>g_deflate_dynamic_l1 k x36 n b.1 b.2=some x38) (fun b=>(((((((((Env.none.upd 0 (.ro (Rd.slice rdS_deflate_Item) false x1)).upd 10 (.ro (Rd.slice (Rd.int .i64)) false x32)).upd 12 (.ro (Rd.slice (Rd.int .i64)) false x33)).upd 14 (.ro (Rd.slice (Rd.int .i64)) false x36)).upd 15 (.ro (Rd.slice (Rd.int .i64)) false x37)).upd 16 (.whole 0)).upd 99 (.ro (Rd.slice (Rd.int .i64)) false x36)).upd 100 (.lit (.int .i64 ((List.length x36:Nat):Int)))).upd 101 (.lit (.int .i64 b.1)))) (fun b=>(Mem.nil.push (.row 3 (Rd.int .i64) b.2))) k (0,(List.replicate (Int.toNat 19) (0:Int))) H4 rfl rfl ?_;rintro n ⟨x39,x40⟩ H;obtain _ | n:=n
       · exact nf rfl H
       rw [g_deflate_dynamic_l1.eq_2] at H;show WP _ _ _ _ (((((((((Env.none.upd 0 (.ro (Rd.slice rdS_deflate_Item) false x1)).upd 10 (.ro (Rd.slice (Rd.int .i64)) false x32)).upd 12 (.ro (Rd.slice (Rd.int .i64)) false x33)).upd 14 (.ro (Rd.slice (Rd.int .i64)) false x36)).upd 15 (.ro (Rd.slice (Rd.int .i64)) false x37)).upd 16 (.whole 0)).upd 99 (.ro (Rd.slice (Rd.int .i64)) false x36)).upd 100 (.lit (.int .i64 ((List.length x36:Nat):Int)))).upd 101 (.lit (.int .i64 x39))) (Mem.nil.push (.row 3 (Rd.int .i64) x40)) _;refine sp ?_;obtain ⟨x41,h21,H⟩:=bnd H;refine sn (nm_bool h21) ?_;refine sp ?_;refine WP.seq ?_;refine cq H (fun hb3 H=>?_) fun hb3 H=>?_
       · (iterate 3 refine sp ?_);refine WP.seq ?_;(iterate 2 refine sp ?_);obtain ⟨x42,h22,H⟩:=bnd H;(iterate 7 refine sp ?_);obtain ⟨x43,h23,H⟩:=bnd H;refine WPL.qq (q_index_row sl61 rfl rfl rfl (ixs h23)) ?_;refine WPL.qq (q_load_row (j:=(Int.toNat x42)) sc3 rfl rfl (ixj h23)) ?_;refine sp ?_;obtain ⟨x44,h24,H⟩:=bnd H;refine WPL.qq (q_index_row sl61 rfl rfl rfl (ixs h24)) ?_;refine WPL.s (s_store_row (j:=(Int.toNat x42)) (d:=(IntKind.wrap .i64 (x43+1))) sz3 rfl rfl rfl rfl Joins.sc (ixl h24)) ?_;refine WPL.nilW ?_;refine sp ?_;refine InBlock.n ?_;(iterate 4 refine sp ?_);refine WPL.nilW ?_;exact wq [0] (Then.n ⟨n,((IntKind.wrap .i64 (x39+1)),(List.set x40 (Int.toNat x42) (IntKind.wrap .i64 (x43+1)))),Nat.lt_succ_self n,H,rfl,rfl⟩)
       refine sp ?_;have q0:=j1 H;subst q0;exact wq [0] (Then.x (Then.x r3))
     (iterate 5 refine sp ?_);obtain ⟨y4,h25,H⟩:=bnd H;rcases y4 with ⟨x45,x46,x47⟩ | x48
     · refine WPL.c (rc [0] [0] 1 [] (s_deflate_row k x38 (Sum.inl (x45,x46,x47)) h25)) rfl ?_;(iterate 6 refine sp ?_);refine WP.seq ?_;(iterate 4 refine sp ?_);refine cq H (fun hb4 H=>?_) fun hb4 H=>?_
       · (iterate 4 refine sp ?_);refine W.cv (Cv.nilRo (Rd.int .u8) false 2 rfl) rfl ?_;have q0:=j1 H;subst q0;exact W.now (Then.r (mb []))
       (iterate 4 refine sp ?_);obtain ⟨_,h26,H⟩:=bnd H;refine WPL.c (rc [] [1] 2 [] (s_bits_NewWriter k h26)) rfl ?_;(iterate 4 refine sp ?_);obtain ⟨⟨x49,x50,x51⟩,h27,H⟩:=bnd H;refine WPL.c (rc [1] [1,2] 3 [] (s_bits_Writer_Put k 5 3 0 x49 x50 x51 h27) (hargs:=.ren rfl rfl (.ren rfl rfl (.ren rfl rfl .nil)))) rfl ?_;(iterate 5 refine sp ?_);obtain ⟨x52,h28,H⟩:=bnd H;refine sn (nm_int h28) ?_;refine sp ?_;obtain ⟨⟨x53,x54,x55⟩,h28,H⟩:=bnd H;refine WPL.c (rc [1,2] [1,3] 4 [] (s_bits_Writer_Put__b k (IntKind.wrap .u32 x52) 5 x50 x51 x53 x54 x55 h28) (hargs:=.ren rfl rfl (.ren rfl rfl (.ren rfl rfl .nil)))) rfl ?_;(iterate 5 refine sp ?_);obtain ⟨x56,h29,H⟩:=bnd H;refine sn (nm_int h29) ?_;refine sp ?_;obtain ⟨⟨x57,x58,x59⟩,h29,H⟩:=bnd H;refine WPL.c (rc [1,3] [1,4] 5 [] (s_bits_Writer_Put__b k (IntKind.wrap .u32 x56) 5 x54 x55 x57 x58 x59 h29) (hargs:=.ren rfl rfl (.ren rfl rfl (.ren rfl rfl .nil)))) rfl ?_;(iterate 3 refine sp ?_);obtain ⟨⟨x60,x61,x62⟩,h30,H⟩:=bnd H;refine WPL.c (rc [1,4] [1,5] 6 [] (s_bits_Writer_Put__b k 15 4 x58 x59 x60 x61 x62 h30) (hargs:=.ren rfl rfl (.ren rfl rfl (.ren rfl rfl .nil)))) rfl ?_;refine sp ?_;refine WP.seq ?_;refine sp ?_;refine WPL.qq (q_buildC (l:=[.lit (.int .i64 (List.getD ([16,17,18,0,8,7,9,6,10,5,11,4,12,3,13,2,14,1,15]:List Int) 0 (0:Int))),.lit (.int .i64 (List.getD ([16,17,18,0,8,7,9,6,10,5,11,4,12,3,13,2,14,1,15]:List Int) 1 (0:Int))),.lit (.int .i64 (List.getD ([16,17,18,0,8,7,9,6,10,5,11,4,12,3,13,2,14,1,15]:List Int) 2 (0:Int))),.lit (.int .i64 (List.getD ([16,17,18,0,8,7,9,6,10,5,11,4,12,3,13,2,14,1,15]:List Int) 3 (0:Int))),.lit (.int .i64 (List.getD ([16,17,18,0,8,7,9,6,10,5,11,4,12,3,13,2,14,1,15]:List Int) 4 (0:Int))),.lit (.int .i64 (List.getD ([16,17,18,0,8,7,9,6,10,5,11,4,12,3,13,2,14,1,15]:List Int) 5 (0:Int))),.lit (.int .i64 (List.getD ([16,17,18,0,8,7,9,6,10,5,11,4,12,3,13,2,14,1,15]:List Int) 6 (0:Int))),.lit (.int .i64 (List.getD ([16,17,18,0,8,7,9,6,10,5,11,4,12,3,13,2,14,1,15]:List Int) 7 (0:Int))),.lit (.int .i64 (List.getD ([16,17,18,0,8,7,9,6,10,5,11,4,12,3,13,2,14,1,15]:List Int) 8 (0:Int))),.lit (.int .i64 (List.getD ([16,17,18,0,8,7,9,6,10,5,11,4,12,3,13,2,14,1,15]:List Int) 9 (0:Int))),.lit (.int .i64 (List.getD ([16,17,18,0,8,7,9,6,10,5,11,4,12,3,13,2,14,1,15]:List Int) 10 (0:Int))),.lit (.int .i64 (List.getD ([16,17,18,0,8,7,9,6,10,5,11,4,12,3,13,2,14,1,15]:List Int) 11 (0:Int))),.lit (.int .i64 (List.getD ([16,17,18,0,8,7,9,6,10,5,11,4,12,3,13,2,14,1,15]:List Int) 12 (0:Int))),.lit (.int .i64 (List.getD ([16,17,18,0,8,7,9,6,10,5,11,4,12,3,13,2,14,1,15]:List Int) 13 (0:Int))),.lit (.int .i64 (List.getD ([16,17,18,0,8,7,9,6,10,5,11,4,12,3,13,2,14,1,15]:List Int) 14 (0:Int))),.lit (.int .i64 (List.getD ([16,17,18,0,8,7,9,6,10,5,11,4,12,3,13,2,14,1,15]:List Int) 15 (0:Int))),.lit (.int .i64 (List.getD ([16,17,18,0,8,7,9,6,10,5,11,4,12,3,13,2,14,1,15]:List Int) 16 (0:Int))),.lit (.int .i64 (List.getD ([16,17,18,0,8,7,9,6,10,5,11,4,12,3,13,2,14,1,15]:List Int) 17 (0:Int))),.lit (.int .i64 (List.getD ([16,17,18,0,8,7,9,6,10,5,11,4,12,3,13,2,14,1,15]:List Int) 18 (0:Int)))]) bu121 (by kernel_rfl) (by kernel_rfl)) ?_;(iterate 3 refine sp ?_);refine WP.cv (Cv.weak (E':=(((((((((Env.none.upd 0 (.ro (Rd.slice rdS_deflate_Item) false x1)).upd 10 (.ro (Rd.slice (Rd.int .i64)) false x32)).upd 12 (.ro (Rd.slice (Rd.int .i64)) false x33)).upd 14 (.ro (Rd.slice (Rd.int .i64)) false x36)).upd 15 (.ro (Rd.slice (Rd.int .i64)) false x37)).upd 19 (.ro (Rd.slice (Rd.int .i64)) false x45)).upd 21 (.ptr 0 0)).upd 136 (.agg [.lit (.int .i64 (List.getD ([16,17,18,0,8,7,9,6,10,5,11,4,12,3,13,2,14,1,15]:List Int) 0 (0:Int))),.lit (.int .i64 (List.getD ([16,17,18,0,8,7,9,6,10,5,11,4,12,3,13,2,14,1,15]:List Int) 1 (0:Int))),.lit (.int .i64 (List.getD ([16,17,18,0,8,7,9,6,10,5,11,4,12,3,13,2,14,1,15]:List Int) 2 (0:Int))),.lit (.int .i64 (List.getD ([16,17,18,0,8,7,9,6,10,5,11,4,12,3,13,2,14,1,15]:List Int) 3 (0:Int))),.lit (.int .i64 (List.getD ([16,17,18,0,8,7,9,6,10,5,11,4,12,3,13,2,14,1,15]:List Int) 4 (0:Int))),.lit (.int .i64 (List.getD ([16,17,18,0,8,7,9,6,10,5,11,4,12,3,13,2,14,1,15]:List Int) 5 (0:Int))),.lit (.int .i64 (List.getD ([16,17,18,0,8,7,9,6,10,5,11,4,12,3,13,2,14,1,15]:List Int) 6 (0:Int))),.lit (.int .i64 (List.getD ([16,17,18,0,8,7,9,6,10,5,11,4,12,3,13,2,14,1,15]:List Int) 7 (0:Int))),.lit (.int .i64 (List.getD ([16,17,18,0,8,7,9,6,10,5,11,4,12,3,13,2,14,1,15]:List Int) 8 (0:Int))),.lit (.int .i64 (List.getD ([16,17,18,0,8,7,9,6,10,5,11,4,12,3,13,2,14,1,15]:List Int) 9 (0:Int))),.lit (.int .i64 (List.getD ([16,17,18,0,8,7,9,6,10,5,11,4,12,3,13,2,14,1,15]:List Int) 10 (0:Int))),.lit (.int .i64 (List.getD ([16,17,18,0,8,7,9,6,10,5,11,4,12,3,13,2,14,1,15]:List Int) 11 (0:Int))),.lit (.int .i64 (List.getD ([16,17,18,0,8,7,9,6,10,5,11,4,12,3,13,2,14,1,15]:List Int) 12 (0:Int))),.lit (.int .i64 (List.getD ([16,17,18,0,8,7,9,6,10,5,11,4,12,3,13,2,14,1,15]:List Int) 13 (0:Int))),.lit (.int .i64 (List.getD ([16,17,18,0,8,7,9,6,10,5,11,4,12,3,13,2,14,1,15]:List Int) 14 (0:Int))),.lit (.int .i64 (List.getD ([16,17,18,0,8,7,9,6,10,5,11,4,12,3,13,2,14,1,15]:List Int) 15 (0:Int))),.lit (.int .i64 (List.getD ([16,17,18,0,8,7,9,6,10,5,11,4,12,3,13,2,14,1,15]:List Int) 16 (0:Int))),.lit (.int .i64 (List.getD ([16,17,18,0,8,7,9,6,10,5,11,4,12,3,13,2,14,1,15]:List Int) 17 (0:Int))),.lit (.int .i64 (List.getD ([16,17,18,0,8,7,9,6,10,5,11,4,12,3,13,2,14,1,15]:List Int) 18 (0:Int)))])).upd 137 (.lit (.int .i64 0)))) (M':=((Mem.nil.push (.cells 127 [.whole 1,.lit (.int .i64 x61)])).push (.row 5 (Rd.int .u8) x62))) [1,5] hnp ⟨rfl,AA2,by decide,rfl,trivial⟩ (LeE.u (LeE.u (LeE.u (LeE.u (LeE.u (LeE.u (LeE.u (LeE.u (LeE.u (LeE.none rfl rfl))))))))))) ?_;obtain ⟨⟨x63,x64⟩,H5,H⟩:=bnd H;refine mo (.exit 4) (((((((Env.none.upd 0 (.ro (Rd.slice rdS_deflate_Item) false x1)).upd 10 (.ro (Rd.slice (Rd.int .i64)) false x32)).upd 12 (.ro (Rd.slice (Rd.int .i64)) false x33)).upd 14 (.ro (Rd.slice (Rd.int .i64)) false x36)).upd 15 (.ro (Rd.slice (Rd.int .i64)) false x37)).upd 19 (.ro (Rd.slice (Rd.int .i64)) false x45)).upd 21 (.ptr 0 0)) ((Mem.nil.push (.cells 127 [.whole 1,.lit (.int .i64 x63)])).push (.row 5 (Rd.int .u8) x64)) ?_ ?_
       · refine WP.loop (β:=Int × Int × (List Int)) (fun n b=>g_deflate_dynamic_l2 k x45 n b.1 b.2.1 b.2.2=some (x63,x64)) (fun b=>(((((((((Env.none.upd 0 (.ro (Rd.slice rdS_deflate_Item) false x1)).upd 10 (.ro (Rd.slice (Rd.int .i64)) false x32)).upd 12 (.ro (Rd.slice (Rd.int .i64)) false x33)).upd 14 (.ro (Rd.slice (Rd.int .i64)) false x36)).upd 15 (.ro (Rd.slice (Rd.int .i64)) false x37)).upd 19 (.ro (Rd.slice (Rd.int .i64)) false x45)).upd 21 (.ptr 0 0)).upd 136 (.agg [.lit (.int .i64 (List.getD ([16,17,18,0,8,7,9,6,10,5,11,4,12,3,13,2,14,1,15]:List Int) 0 (0:Int))),.lit (.int .i64 (List.getD ([16,17,18,0,8,7,9,6,10,5,11,4,12,3,13,2,14,1,15]:List Int) 1 (0:Int))),.lit (.int .i64 (List.getD ([16,17,18,0,8,7,9,6,10,5,11,4,12,3,13,2,14,1,15]:List Int) 2 (0:Int))),.lit (.int .i64 (List.getD ([16,17,18,0,8,7,9,6,10,5,11,4,12,3,13,2,14,1,15]:List Int) 3 (0:Int))),.lit (.int .i64 (List.getD ([16,17,18,0,8,7,9,6,10,5,11,4,12,3,13,2,14,1,15]:List Int) 4 (0:Int))),.lit (.int .i64 (List.getD ([16,17,18,0,8,7,9,6,10,5,11,4,12,3,13,2,14,1,15]:List Int) 5 (0:Int))),.lit (.int .i64 (List.getD ([16,17,18,0,8,7,9,6,10,5,11,4,12,3,13,2,14,1,15]:List Int) 6 (0:Int))),.lit (.int .i64 (List.getD ([16,17,18,0,8,7,9,6,10,5,11,4,12,3,13,2,14,1,15]:List Int) 7 (0:Int))),.lit (.int .i64 (List.getD ([16,17,18,0,8,7,9,6,10,5,11,4,12,3,13,2,14,1,15]:List Int) 8 (0:Int))),.lit (.int .i64 (List.getD ([16,17,18,0,8,7,9,6,10,5,11,4,12,3,13,2,14,1,15]:List Int) 9 (0:Int))),.lit (.int .i64 (List.getD ([16,17,18,0,8,7,9,6,10,5,11,4,12,3,13,2,14,1,15]:List Int) 10 (0:Int))),.lit (.int .i64 (List.getD ([16,17,18,0,8,7,9,6,10,5,11,4,12,3,13,2,14,1,15]:List Int) 11 (0:Int))),.lit (.int .i64 (List.getD ([16,17,18,0,8,7,9,6,10,5,11,4,12,3,13,2,14,1,15]:List Int) 12 (0:Int))),.lit (.int .i64 (List.getD ([16,17,18,0,8,7,9,6,10,5,11,4,12,3,13,2,14,1,15]:List Int) 13 (0:Int))),.lit (.int .i64 (List.getD ([16,17,18,0,8,7,9,6,10,5,11,4,12,3,13,2,14,1,15]:List Int) 14 (0:Int))),.lit (.int .i64 (List.getD ([16,17,18,0,8,7,9,6,10,5,11,4,12,3,13,2,14,1,15]:List Int) 15 (0:Int))),.lit (.int .i64 (List.getD ([16,17,18,0,8,7,9,6,10,5,11,4,12,3,13,2,14,1,15]:List Int) 16 (0:Int))),.lit (.int .i64 (List.getD ([16,17,18,0,8,7,9,6,10,5,11,4,12,3,13,2,14,1,15]:List Int) 17 (0:Int))),.lit (.int .i64 (List.getD ([16,17,18,0,8,7,9,6,10,5,11,4,12,3,13,2,14,1,15]:List Int) 18 (0:Int)))])).upd 137 (.lit (.int .i64 b.1)))) (fun b=>((Mem.nil.push (.cells 127 [.whole 1,.lit (.int .i64 b.2.1)])).push (.row 5 (Rd.int .u8) b.2.2))) k (0,x61,x62) H5 rfl rfl ?_;rintro n ⟨x65,x66,x67⟩ H;obtain _ | n:=n
         · exact nf rfl H
         rw [g_deflate_dynamic_l2.eq_2] at H;show WP _ _ _ _ (((((((((Env.none.upd 0 (.ro (Rd.slice rdS_deflate_Item) false x1)).upd 10 (.ro (Rd.slice (Rd.int .i64)) false x32)).upd 12 (.ro (Rd.slice (Rd.int .i64)) false x33)).upd 14 (.ro (Rd.slice (Rd.int .i64)) false x36)).upd 15 (.ro (Rd.slice (Rd.int .i64)) false x37)).upd 19 (.ro (Rd.slice (Rd.int .i64)) false x45)).upd 21 (.ptr 0 0)).upd 136 (.agg [.lit (.int .i64 (List.getD ([16,17,18,0,8,7,9,6,10,5,11,4,12,3,13,2,14,1,15]:List Int) 0 (0:Int))),.lit (.int .i64 (List.getD ([16,17,18,0,8,7,9,6,10,5,11,4,12,3,13,2,14,1,15]:List Int) 1 (0:Int))),.lit (.int .i64 (List.getD ([16,17,18,0,8,7,9,6,10,5,11,4,12,3,13,2,14,1,15]:List Int) 2 (0:Int))),.lit (.int .i64 (List.getD ([16,17,18,0,8,7,9,6,10,5,11,4,12,3,13,2,14,1,15]:List Int) 3 (0:Int))),.lit (.int .i64 (List.getD ([16,17,18,0,8,7,9,6,10,5,11,4,12,3,13,2,14,1,15]:List Int) 4 (0:Int))),.lit (.int .i64 (List.getD ([16,17,18,0,8,7,9,6,10,5,11,4,12,3,13,2,14,1,15]:List Int) 5 (0:Int))),.lit (.int .i64 (List.getD ([16,17,18,0,8,7,9,6,10,5,11,4,12,3,13,2,14,1,15]:List Int) 6 (0:Int))),.lit (.int .i64 (List.getD ([16,17,18,0,8,7,9,6,10,5,11,4,12,3,13,2,14,1,15]:List Int) 7 (0:Int))),.lit (.int .i64 (List.getD ([16,17,18,0,8,7,9,6,10,5,11,4,12,3,13,2,14,1,15]:List Int) 8 (0:Int))),.lit (.int .i64 (List.getD ([16,17,18,0,8,7,9,6,10,5,11,4,12,3,13,2,14,1,15]:List Int) 9 (0:Int))),.lit (.int .i64 (List.getD ([16,17,18,0,8,7,9,6,10,5,11,4,12,3,13,2,14,1,15]:List Int) 10 (0:Int))),.lit (.int .i64 (List.getD ([16,17,18,0,8,7,9,6,10,5,11,4,12,3,13,2,14,1,15]:List Int) 11 (0:Int))),.lit (.int .i64 (List.getD ([16,17,18,0,8,7,9,6,10,5,11,4,12,3,13,2,14,1,15]:List Int) 12 (0:Int))),.lit (.int .i64 (List.getD ([16,17,18,0,8,7,9,6,10,5,11,4,12,3,13,2,14,1,15]:List Int) 13 (0:Int))),.lit (.int .i64 (List.getD ([16,17,18,0,8,7,9,6,10,5,11,4,12,3,13,2,14,1,15]:List Int) 14 (0:Int))),.lit (.int .i64 (List.getD ([16,17,18,0,8,7,9,6,10,5,11,4,12,3,13,2,14,1,15]:List Int) 15 (0:Int))),.lit (.int .i64 (List.getD ([16,17,18,0,8,7,9,6,10,5,11,4,12,3,13,2,14,1,15]:List Int) 16 (0:Int))),.lit (.int .i64 (List.getD ([16,17,18,0,8,7,9,6,10,5,11,4,12,3,13,2,14,1,15]:List Int) 17 (0:Int))),.lit (.int .i64 (List.getD ([16,17,18,0,8,7,9,6,10,5,11,4,12,3,13,2,14,1,15]:List Int) 18 (0:Int)))])).upd 137 (.lit (.int .i64 x65))) ((Mem.nil.push (.cells 127 [.whole 1,.lit (.int .i64 x66)])).push (.row 5 (Rd.int .u8) x67)) _;(iterate 3 refine sp ?_);refine WP.seq ?_;refine cq H (fun hb5 H=>?_) fun hb5 H=>?_
         · (iterate 3 refine sp ?_);refine WP.seq ?_;(iterate 2 refine sp ?_);obtain ⟨h31,H⟩:=grd H;obtain ⟨x68,h32,H⟩:=bnd H;refine WPL.qq (q_nm (q_indexArrV (f:=(fun x=>.lit (.int .i64 x))) (l:=([16,17,18,0,8,7,9,6,10,5,11,4,12,3,13,2,14,1,15]:List Int)) (d0:=(0:Int)) ar121 sc3 rfl rfl h31) (nm_int h32)) ?_;(iterate 6 refine sp ?_);obtain ⟨x69,h33,H⟩:=bnd H;(iterate 3 refine sp ?_);obtain ⟨⟨x70,x71,x72⟩,h33,H⟩:=bnd H;refine WPL.c (rc [0,1] [0,2] 3 [] (s_bits_Writer_Put__b k (IntKind.wrap .u32 x69) 3 x66 x67 x70 x71 x72 h33) (hargs:=.ren rfl rfl (.ren rfl rfl (.ren rfl rfl .nil)))) rfl ?_;refine WPL.nilW ?_;refine sp ?_;refine InBlock.n ?_;(iterate 4 refine sp ?_);refine WPL.nilW ?_;exact wq [0,2] (Then.n ⟨n,((IntKind.wrap .i64 (x65+1)),x71,x72),Nat.lt_succ_self n,H,rfl,rfl⟩)
         refine sp ?_;obtain ⟨rfl,rfl⟩:=j2 H;exact wq [0,1] (Then.x (Then.x r3))
       (iterate 5 refine sp ?_);obtain ⟨⟨x73,x74⟩,h34,H⟩:=bnd H;refine WPL.c (rc [] [] 2 [] (s_huff_Codes k x45 x73 x74 h34)) rfl ?_;(iterate 7 refine sp ?_);refine WPL.qq (q_buildC (l:=[.lit (.int .i64 (List.getD ([0,0,0,0,0,0,0,0,0,0,0,0,0,0,0,0,2,3,7]:List Int) 0 (0:Int))),.lit (.int .i64 (List.getD ([0,0,0,0,0,0,0,0,0,0,0,0,0,0,0,0,2,3,7]:List Int) 1 (0:Int))),.lit (.int .i64 (List.getD ([0,0,0,0,0,0,0,0,0,0,0,0,0,0,0,0,2,3,7]:List Int) 2 (0:Int))),.lit (.int .i64 (List.getD ([0,0,0,0,0,0,0,0,0,0,0,0,0,0,0,0,2,3,7]:List Int) 3 (0:Int))),.lit (.int .i64 (List.getD ([0,0,0,0,0,0,0,0,0,0,0,0,0,0,0,0,2,3,7]:List Int) 4 (0:Int))),.lit (.int .i64 (List.getD ([0,0,0,0,0,0,0,0,0,0,0,0,0,0,0,0,2,3,7]:List Int) 5 (0:Int))),.lit (.int .i64 (List.getD ([0,0,0,0,0,0,0,0,0,0,0,0,0,0,0,0,2,3,7]:List Int) 6 (0:Int))),.lit (.int .i64 (List.getD ([0,0,0,0,0,0,0,0,0,0,0,0,0,0,0,0,2,3,7]:List Int) 7 (0:Int))),.lit (.int .i64 (List.getD ([0,0,0,0,0,0,0,0,0,0,0,0,0,0,0,0,2,3,7]:List Int) 8 (0:Int))),.lit (.int .i64 (List.getD ([0,0,0,0,0,0,0,0,0,0,0,0,0,0,0,0,2,3,7]:List Int) 9 (0:Int))),.lit (.int .i64 (List.getD ([0,0,0,0,0,0,0,0,0,0,0,0,0,0,0,0,2,3,7]:List Int) 10 (0:Int))),.lit (.int .i64 (List.getD ([0,0,0,0,0,0,0,0,0,0,0,0,0,0,0,0,2,3,7]:List Int) 11 (0:Int))),.lit (.int .i64 (List.getD ([0,0,0,0,0,0,0,0,0,0,0,0,0,0,0,0,2,3,7]:List Int) 12 (0:Int))),.lit (.int .i64 (List.getD ([0,0,0,0,0,0,0,0,0,0,0,0,0,0,0,0,2,3,7]:List Int) 13 (0:Int))),.lit (.int .i64 (List.getD ([0,0,0,0,0,0,0,0,0,0,0,0,0,0,0,0,2,3,7]:List Int) 14 (0:Int))),.lit (.int .i64 (List.getD ([0,0,0,0,0,0,0,0,0,0,0,0,0,0,0,0,2,3,7]:List Int) 15 (0:Int))),.lit (.int .i64 (List.getD ([0,0,0,0,0,0,0,0,0,0,0,0,0,0,0,0,2,3,7]:List Int) 16 (0:Int))),.lit (.int .i64 (List.getD ([0,0,0,0,0,0,0,0,0,0,0,0,0,0,0,0,2,3,7]:List Int) 17 (0:Int))),.lit (.int .i64 (List.getD ([0,0,0,0,0,0,0,0,0,0,0,0,0,0,0,0,2,3,7]:List Int) 18 (0:Int)))]) bu121 (by kernel_rfl) (by kernel_rfl)) ?_;(iterate 3 refine sp ?_);refine WP.seq ?_;(iterate 6 refine sp ?_);refine WP.cv (Cv.weak (E':=(((((((((((Env.none.upd 0 (.ro (Rd.slice rdS_deflate_Item) false x1)).upd 10 (.ro (Rd.slice (Rd.int .i64)) false x32)).upd 12 (.ro (Rd.slice (Rd.int .i64)) false x33)).upd 15 (.ro (Rd.slice (Rd.int .i64)) false x37)).upd 19 (.ro (Rd.slice (Rd.int .i64)) false x45)).upd 21 (.ptr 0 0)).upd 24 (.ro (Rd.slice (Rd.int .u32)) false x73)).upd 26 (.ptr 2 0)).upd 154 (.ro (Rd.slice (Rd.int .i64)) false x36)).upd 155 (.lit (.int .i64 ((List.length x36:Nat):Int)))).upd 156 (.lit (.int .i64 0)))) (M':=(((Mem.nil.push (.cells 127 [.whole 1,.lit (.int .i64 x63)])).push (.row 5 (Rd.int .u8) x64)).push (.cells 121 [.lit (.int .i64 (List.getD ([0,0,0,0,0,0,0,0,0,0,0,0,0,0,0,0,2,3,7]:List Int) 0 (0:Int))),.lit (.int .i64 (List.getD ([0,0,0,0,0,0,0,0,0,0,0,0,0,0,0,0,2,3,7]:List Int) 1 (0:Int))),.lit (.int .i64 (List.getD ([0,0,0,0,0,0,0,0,0,0,0,0,0,0,0,0,2,3,7]:List Int) 2 (0:Int))),.lit (.int .i64 (List.getD ([0,0,0,0,0,0,0,0,0,0,0,0,0,0,0,0,2,3,7]:List Int) 3 (0:Int))),.lit (.int .i64 (List.getD ([0,0,0,0,0,0,0,0,0,0,0,0,0,0,0,0,2,3,7]:List Int) 4 (0:Int))),.lit (.int .i64 (List.getD ([0,0,0,0,0,0,0,0,0,0,0,0,0,0,0,0,2,3,7]:List Int) 5 (0:Int))),.lit (.int .i64 (List.getD ([0,0,0,0,0,0,0,0,0,0,0,0,0,0,0,0,2,3,7]:List Int) 6 (0:Int))),.lit (.int .i64 (List.getD ([0,0,0,0,0,0,0,0,0,0,0,0,0,0,0,0,2,3,7]:List Int) 7 (0:Int))),.lit (.int .i64 (List.getD ([0,0,0,0,0,0,0,0,0,0,0,0,0,0,0,0,2,3,7]:List Int) 8 (0:Int))),.lit (.int .i64 (List.getD ([0,0,0,0,0,0,0,0,0,0,0,0,0,0,0,0,2,3,7]:List Int) 9 (0:Int))),.lit (.int .i64 (List.getD ([0,0,0,0,0,0,0,0,0,0,0,0,0,0,0,0,2,3,7]:List Int) 10 (0:Int))),.lit (.int .i64 (List.getD ([0,0,0,0,0,0,0,0,0,0,0,0,0,0,0,0,2,3,7]:List Int) 11 (0:Int))),.lit (.int .i64 (List.getD ([0,0,0,0,0,0,0,0,0,0,0,0,0,0,0,0,2,3,7]:List Int) 12 (0:Int))),.lit (.int .i64 (List.getD ([0,0,0,0,0,0,0,0,0,0,0,0,0,0,0,0,2,3,7]:List Int) 13 (0:Int))),.lit (.int .i64 (List.getD ([0,0,0,0,0,0,0,0,0,0,0,0,0,0,0,0,2,3,7]:List Int) 14 (0:Int))),.lit (.int .i64 (List.getD ([0,0,0,0,0,0,0,0,0,0,0,0,0,0,0,0,2,3,7]:List Int) 15 (0:Int))),.lit (.int .i64 (List.getD ([0,0,0,0,0,0,0,0,0,0,0,0,0,0,0,0,2,3,7]:List Int) 16 (0:Int))),.lit (.int .i64 (List.getD ([0,0,0,0,0,0,0,0,0,0,0,0,0,0,0,0,2,3,7]:List Int) 17 (0:Int))),.lit (.int .i64 (List.getD ([0,0,0,0,0,0,0,0,0,0,0,0,0,0,0,0,2,3,7]:List Int) 18 (0:Int)))]))) [0,1,2] hnp ⟨rfl,AA3,by decide,rfl,trivial⟩ (LeE.u (LeE.u (LeE.u (LeE.u (LeE.u (LeE.u (LeE.u (LeE.u (LeE.u (LeE.u (LeE.u (LeE.none rfl rfl))))))))))))) ?_;obtain ⟨⟨x75,x76⟩,H6,H⟩:=bnd H;refine mo (.exit 6) ((((Env.none.upd 0 (.ro (Rd.slice rdS_deflate_Item) false x1)).upd 10 (.ro (Rd.slice (Rd.int .i64)) false x32)).upd 12 (.ro (Rd.slice (Rd.int .i64)) false x33)).upd 21 (.ptr 0 0)) ((Mem.nil.push (.cells 127 [.whole 1,.lit (.int .i64 x75)])).push (.row 5 (Rd.int .u8) x76)) ?_ ?_
       · refine WP.loop (β:=Int × Int × (List Int)) (fun n b=>g_deflate_dynamic_l3 k x36 x37 x45 x73 n b.1 b.2.1 b.2.2=some (x75,x76)) (fun b=>(((((((((((Env.none.upd 0 (.ro (Rd.slice rdS_deflate_Item) false x1)).upd 10 (.ro (Rd.slice (Rd.int .i64)) false x32)).upd 12 (.ro (Rd.slice (Rd.int .i64)) false x33)).upd 15 (.ro (Rd.slice (Rd.int .i64)) false x37)).upd 19 (.ro (Rd.slice (Rd.int .i64)) false x45)).upd 21 (.ptr 0 0)).upd 24 (.ro (Rd.slice (Rd.int .u32)) false x73)).upd 26 (.ptr 2 0)).upd 154 (.ro (Rd.slice (Rd.int .i64)) false x36)).upd 155 (.lit (.int .i64 ((List.length x36:Nat):Int)))).upd 156 (.lit (.int .i64 b.1)))) (fun b=>(((Mem.nil.push (.cells 127 [.whole 1,.lit (.int .i64 b.2.1)])).push (.row 5 (Rd.int .u8) b.2.2)).push (.cells 121 [.lit (.int .i64 (List.getD ([0,0,0,0,0,0,0,0,0,0,0,0,0,0,0,0,2,3,7]:List Int) 0 (0:Int))),.lit (.int .i64 (List.getD ([0,0,0,0,0,0,0,0,0,0,0,0,0,0,0,0,2,3,7]:List Int) 1 (0:Int))),.lit (.int .i64 (List.getD ([0,0,0,0,0,0,0,0,0,0,0,0,0,0,0,0,2,3,7]:List Int) 2 (0:Int))),.lit (.int .i64 (List.getD ([0,0,0,0,0,0,0,0,0,0,0,0,0,0,0,0,2,3,7]:List Int) 3 (0:Int))),.lit (.int .i64 (List.getD ([0,0,0,0,0,0,0,0,0,0,0,0,0,0,0,0,2,3,7]:List Int) 4 (0:Int))),.lit (.int .i64 (List.getD ([0,0,0,0,0,0,0,0,0,0,0,0,0,0,0,0,2,3,7]:List Int) 5 (0:Int))),.lit (.int .i64 (List.getD ([0,0,0,0,0,0,0,0,0,0,0,0,0,0,0,0,2,3,7]:List Int) 6 (0:Int))),.lit (.int .i64 (List.getD ([0,0,0,0,0,0,0,0,0,0,0,0,0,0,0,0,2,3,7]:List Int) 7 (0:Int))),.lit (.int .i64 (List.getD ([0,0,0,0,0,0,0,0,0,0,0,0,0,0,0,0,2,3,7]:List Int) 8 (0:Int))),.lit (.int .i64 (List.getD ([0,0,0,0,0,0,0,0,0,0,0,0,0,0,0,0,2,3,7]:List Int) 9 (0:Int))),.lit (.int .i64 (List.getD ([0,0,0,0,0,0,0,0,0,0,0,0,0,0,0,0,2,3,7]:List Int) 10 (0:Int))),.lit (.int .i64 (List.getD ([0,0,0,0,0,0,0,0,0,0,0,0,0,0,0,0,2,3,7]:List Int) 11 (0:Int))),.lit (.int .i64 (List.getD ([0,0,0,0,0,0,0,0,0,0,0,0,0,0,0,0,2,3,7]:List Int) 12 (0:Int))),.lit (.int .i64 (List.getD ([0,0,0,0,0,0,0,0,0,0,0,0,0,0,0,0,2,3,7]:List Int) 13 (0:Int))),.lit (.int .i64 (List.getD ([0,0,0,0,0,0,0,0,0,0,0,0,0,0,0,0,2,3,7]:List Int) 14 (0:Int))),.lit (.int .i64 (List.getD ([0,0,0,0,0,0,0,0,0,0,0,0,0,0,0,0,2,3,7]:List Int) 15 (0:Int))),.lit (.int .i64 (List.getD ([0,0,0,0,0,0,0,0,0,0,0,0,0,0,0,0,2,3,7]:List Int) 16 (0:Int))),.lit (.int .i64 (List.getD ([0,0,0,0,0,0,0,0,0,0,0,0,0,0,0,0,2,3,7]:List Int) 17 (0:Int))),.lit (.int .i64 (List.getD ([0,0,0,0,0,0,0,0,0,0,0,0,0,0,0,0,2,3,7]:List Int) 18 (0:Int)))]))) k (0,x63,x64) H6 rfl rfl ?_;rintro n ⟨x77,x78,x79⟩ H;obtain _ | n:=n
         · exact nf rfl H
         rw [g_deflate_dynamic_l3.eq_2] at H;show WP _ _ _ _ (((((((((((Env.none.upd 0 (.ro (Rd.slice rdS_deflate_Item) false x1)).upd 10 (.ro (Rd.slice (Rd.int .i64)) false x32)).upd 12 (.ro (Rd.slice (Rd.int .i64)) false x33)).upd 15 (.ro (Rd.slice (Rd.int .i64)) false x37)).upd 19 (.ro (Rd.slice (Rd.int .i64)) false x45)).upd 21 (.ptr 0 0)).upd 24 (.ro (Rd.slice (Rd.int .u32)) false x73)).upd 26 (.ptr 2 0)).upd 154 (.ro (Rd.slice (Rd.int .i64)) false x36)).upd 155 (.lit (.int .i64 ((List.length x36:Nat):Int)))).upd 156 (.lit (.int .i64 x77))) (((Mem.nil.push (.cells 127 [.whole 1,.lit (.int .i64 x78)])).push (.row 5 (Rd.int .u8) x79)).push (.cells 121 [.lit (.int .i64 (List.getD ([0,0,0,0,0,0,0,0,0,0,0,0,0,0,0,0,2,3,7]:List Int) 0 (0:Int))),.lit (.int .i64 (List.getD ([0,0,0,0,0,0,0,0,0,0,0,0,0,0,0,0,2,3,7]:List Int) 1 (0:Int))),.lit (.int .i64 (List.getD ([0,0,0,0,0,0,0,0,0,0,0,0,0,0,0,0,2,3,7]:List Int) 2 (0:Int))),.lit (.int .i64 (List.getD ([0,0,0,0,0,0,0,0,0,0,0,0,0,0,0,0,2,3,7]:List Int) 3 (0:Int))),.lit (.int .i64 (List.getD ([0,0,0,0,0,0,0,0,0,0,0,0,0,0,0,0,2,3,7]:List Int) 4 (0:Int))),.lit (.int .i64 (List.getD ([0,0,0,0,0,0,0,0,0,0,0,0,0,0,0,0,2,3,7]:List Int) 5 (0:Int))),.lit (.int .i64 (List.getD ([0,0,0,0,0,0,0,0,0,0,0,0,0,0,0,0,2,3,7]:List Int) 6 (0:Int))),.lit (.int .i64 (List.getD ([0,0,0,0,0,0,0,0,0,0,0,0,0,0,0,0,2,3,7]:List Int) 7 (0:Int))),.lit (.int .i64 (List.getD ([0,0,0,0,0,0,0,0,0,0,0,0,0,0,0,0,2,3,7]:List Int) 8 (0:Int))),.lit (.int .i64 (List.getD ([0,0,0,0,0,0,0,0,0,0,0,0,0,0,0,0,2,3,7]:List Int) 9 (0:Int))),.lit (.int .i64 (List.getD ([0,0,0,0,0,0,0,0,0,0,0,0,0,0,0,0,2,3,7]:List Int) 10 (0:Int))),.lit (.int .i64 (List.getD ([0,0,0,0,0,0,0,0,0,0,0,0,0,0,0,0,2,3,7]:List Int) 11 (0:Int))),.lit (.int .i64 (List.getD ([0,0,0,0,0,0,0,0,0,0,0,0,0,0,0,0,2,3,7]:List Int) 12 (0:Int))),.lit (.int .i64 (List.getD ([0,0,0,0,0,0,0,0,0,0,0,0,0,0,0,0,2,3,7]:List Int) 13 (0:Int))),.lit (.int .i64 (List.getD ([0,0,0,0,0,0,0,0,0,0,0,0,0,0,0,0,2,3,7]:List Int) 14 (0:Int))),.lit (.int .i64 (List.getD ([0,0,0,0,0,0,0,0,0,0,0,0,0,0,0,0,2,3,7]:List Int) 15 (0:Int))),.lit (.int .i64 (List.getD ([0,0,0,0,0,0,0,0,0,0,0,0,0,0,0,0,2,3,7]:List Int) 16 (0:Int))),.lit (.int .i64 (List.getD ([0,0,0,0,0,0,0,0,0,0,0,0,0,0,0,0,2,3,7]:List Int) 17 (0:Int))),.lit (.int .i64 (List.getD ([0,0,0,0,0,0,0,0,0,0,0,0,0,0,0,0,2,3,7]:List Int) 18 (0:Int)))])) _;refine sp ?_;obtain ⟨x80,h35,H⟩:=bnd H;refine sn (nm_bool h35) ?_;refine sp ?_;refine WP.seq ?_;refine cq H (fun hb6 H=>?_) fun hb6 H=>?_
         · (iterate 3 refine sp ?_);refine WP.seq ?_;(iterate 3 refine sp ?_);obtain ⟨x81,h36,H⟩:=bnd H;(iterate 5 refine sp ?_);refine WP.seq ?_;refine WP.regionD' 10 [] [] mixed rfl ?_;refine dT 0 ?_;refine dT 1 ?_;refine dT 2 ?_;obtain ⟨x82,h37,H⟩:=bnd H;refine dT 3 ?_;refine dT 4 ?_;refine dT 5 ?_;refine dT 6 ?_;obtain ⟨x83,h38,H⟩:=bnd H;refine dT 7 ?_;refine dT 8 ?_;obtain ⟨⟨x84,x85⟩,h38,H⟩:=bnd H;refine dE 9 [] [] rfl (rc [0,1] [0,3] 4 [] (s_deflate_put k x82 x83 x78 x79 x84 x85 h38) (hargs:=.ren rfl rfl (.ren rfl rfl (.ren rfl rfl .nil)))) ?_;refine WPD.doneW (by kernel_rfl) ?_;(iterate 2 refine sp ?_);refine WP.regionD' 10 [2] [] mixed rfl ?_;refine dT 0 ?_;refine dT 1 ?_;refine dT 2 ?_;obtain ⟨x86,h39,H⟩:=bnd H;refine dT 3 ?_;refine dT 4 ?_;refine dT 5 ?_;refine dT 6 ?_;obtain ⟨h39,H⟩:=grd H;refine WPD.tT 7 rfl (q_indexArr ar121 rfl rfl h39 rfl) ?_;refine WPD.take 8 rfl (by kernel_rfl) (q_load_arr (f:=(fun z:Int=>AVal.lit (.int .i64 z))) (d0:=(0:Int)) (xs:=([0,0,0,0,0,0,0,0,0,0,0,0,0,0,0,0,2,3,7]:List Int)) (n:=19) (off:=0) (j:=(Int.toNat x81)) sc3 rfl rfl rfl (natlt h39) (addone _ _)) rfl rfl ?_;obtain ⟨⟨x87,x88,x89⟩,h40,H⟩:=bnd H;refine dE 9 [2] [] rfl (rc [0,3] [0,4] 5 [] (s_bits_Writer_Put__b k (IntKind.wrap .u32 x86) (List.getD ([0,0,0,0,0,0,0,0,0,0,0,0,0,0,0,0,2,3,7]:List Int) (Int.toNat x81) (0:Int)) x84 x85 x87 x88 x89 h40) (hargs:=.ren rfl rfl (.ren rfl rfl (.ren rfl rfl .nil)))) ?_;refine WPD.doneW (by kernel_rfl) ?_;refine sp ?_;refine InBlock.n ?_;(iterate 4 refine sp ?_);refine WPL.nilW ?_;exact wq [0,4,2] (Then.n ⟨n,((IntKind.wrap .i64 (x77+1)),x88,x89),Nat.lt_succ_self n,H,rfl,rfl⟩)
         refine sp ?_;obtain ⟨rfl,rfl⟩:=j2 H;exact wq [0,1] (Then.x (Then.x r3))
       (iterate 7 refine sp ?_);obtain ⟨⟨x90,x91⟩,h41,H⟩:=bnd H;refine WPL.c (rc [0,1] [0,2,3] 4 [] (s_deflate_coded k x32 x33 x75 x76 x90 x91 h41) (hargs:=.ren rfl rfl (.ren rfl rfl (.ren rfl rfl .nil)))) rfl ?_;refine sp ?_;obtain ⟨⟨x92,x93⟩,h42,H⟩:=bnd H;refine WPL.c (rc [3,0,2] [3,0,4] 5 [] (s_deflate_coder_all k x1 x32 x33 x90 x91 x75 x76 x92 x93 h42)) rfl ?_;(iterate 3 refine sp ?_);obtain ⟨x94,h43,H⟩:=bnd H;refine WPL.c (rc [0,4] [0,5] 6 [] (s_bits_Writer_Done k x92 x93 x94 h43)) rfl ?_;(iterate 3 refine sp ?_);have q0:=j1 H;subst q0;exact W.now (mb [])
     refine WPL.pW (runs_callP (s:=[0]) (t:=[0]) (N:=1) (bor:=[]) fn81 rfl (s_deflate_row k x38 (Sum.inr x48) h25) ⟨rfl,AA1,by decide,rfl,trivial⟩ rfl trivial (.ren rfl rfl .nil) rfl BB1 rfl) ?_;have q0:=j1 H;subst q0;exact W.now (Then.p (BodyR.mkP trivial [] ⟨rfl,rfl⟩ ⟨rfl,trivial,by decide,rfl,trivial⟩ rfl rfl))
   refine WPL.pW (runs_callP (s:=[]) (t:=[]) (N:=2) (bor:=[1]) fn77 rfl (s_huff_Lengths k x6 15 (Sum.inr x31) h15) ⟨rfl,trivial,by decide,rfl,trivial⟩ rfl ⟨trivial,rfl,rfl,trivial⟩ (.row rfl rfl (.ren rfl rfl .nil)) rfl trivial rfl) ?_;have q0:=j1 H;subst q0;exact W.now (Then.p (BodyR.mkP trivial [] ⟨rfl,rfl⟩ ⟨rfl,trivial,by decide,rfl,trivial⟩ rfl rfl))
 refine WPL.pW (runs_callP (s:=[]) (t:=[]) (N:=2) (bor:=[0]) fn77 rfl (s_huff_Lengths k x5 15 (Sum.inr x28) h14) ⟨rfl,trivial,by decide,rfl,trivial⟩ rfl ⟨trivial,rfl,rfl,trivial⟩ (.row rfl rfl (.ren rfl rfl .nil)) rfl trivial rfl) ?_;have q0:=j1 H;subst q0;exact W.now (Then.p (BodyR.mkP trivial [] ⟨rfl,rfl⟩ ⟨rfl,trivial,by decide,rfl,trivial⟩ rfl rfl))
theorem s_deflate_Deflate (k:Nat) (x1:(List Int)) (x2:Int) (r:(((List Int) × Int) ⊕ ByteArray)) (H:g_deflate_Deflate k x1 x2=some r):Go.Q.Spec Tryz.prog 20 0 [.ro (Rd.slice (Rd.int .u8)) false x1,.lit (.int .i64 x2)] Mem.nil (fun o M=>match (generalizing:=false) r with | (Sum.inl (x3,x4))=>o=.ret (.tup [.ro (Rd.slice (Rd.int .u8)) false x3,.lit (.int .i64 x4)])∧M=Mem.nil | (Sum.inr x5)=>o=.pan (.ifc 9 (.lit (.string x5)))∧M=Mem.nil):=by
 unfold g_deflate_Deflate at H;refine bo Tryz.func20 [] [.tmp 4,.tmp 5] 49 fun cx hnp=>?_;(iterate 4 refine sp ?_);refine WP.seq ?_;refine WP.seq ?_;obtain ⟨x6,H1,H⟩:=bnd H;refine mo .normal (((Env.none.upd 0 (.ro (Rd.slice (Rd.int .u8)) false x1)).upd 1 (.lit (.int .i64 x2))).upd 15 (.lit (.bool x6))) Mem.nil ?_ ?_
 · clear H;have H:=H1;clear H1;(iterate 4 refine sp ?_);refine ws 12 H (fun hb1 H=>?_) fun hb1 H=>?_
   · (iterate 3 refine sp ?_);refine WPL.nilW ?_;have q0:=j1 H;subst q0;exact wq []
   (iterate 3 refine sp ?_);refine WPL.nilW ?_;have q0:=j1 H;subst q0;exact wq []
 (iterate 2 refine sp ?_);refine cq H (fun hb2 H=>?_) fun hb2 H=>?_
 · (iterate 5 refine sp ?_);refine W.cv (Cv.nilRo (Rd.int .u8) false 4 rfl) rfl ?_;have q0:=j1 H;subst q0;exact W.now (Then.r (mb []))
 (iterate 3 refine sp ?_);refine WP.seq ?_;(iterate 3 refine sp ?_);obtain ⟨x7,h1,H⟩:=bnd H;refine sn (nm_bool h1) ?_;refine sp ?_;refine cq H (fun hb3 H=>?_) fun hb3 H=>?_
 · (iterate 5 refine sp ?_);refine W.cv (Cv.nilRo (Rd.int .u8) false 4 rfl) rfl ?_;have q0:=j1 H;subst q0;exact W.now (Then.r (mb []))
 (iterate 5 refine sp ?_);obtain ⟨x8,h2,H⟩:=bnd H;refine WPL.c (rc [] [] 0 [] (s_deflate_stored k x1 x8 h2)) rfl ?_;(iterate 2 refine sp ?_);refine WP.seq ?_;(iterate 4 refine sp ?_);refine cq H (fun hb4 H=>?_) fun hb4 H=>?_
 · (iterate 6 refine sp ?_);have q0:=j1 H;subst q0;exact W.now (Then.r (mb []))
 (iterate 5 refine sp ?_);obtain ⟨x9,h3,H⟩:=bnd H;refine WPL.c (rc [] [] 0 [] (s_deflate_Parse k x1 x9 h3)) rfl ?_;(iterate 2 refine sp ?_);refine WP.seq ?_;obtain ⟨x10,H2,H⟩:=bnd H;refine mo .normal (((Env.none.upd 1 (.lit (.int .i64 x2))).upd 6 (.ro (Rd.slice (Rd.int .u8)) false x10)).upd 7 (.ro (Rd.slice rdS_deflate_Item) false x9)) Mem.nil ?_ ?_
 · clear H;have H:=H2;clear H2;(iterate 2 refine sp ?_);obtain ⟨x11,h4,H⟩:=bnd H;refine WPL.c (rc [] [] 0 [] (s_deflate_fixed k x9 x11 h4)) rfl ?_;(iterate 7 refine sp ?_);obtain ⟨x12,h5,H⟩:=bnd H;refine sn (nm_bool h5) ?_;refine sp ?_;refine cq H (fun hb5 H=>?_) fun hb5 H=>?_
   · (iterate 3 refine sp ?_);refine WPL.nilW ?_;have q0:=j1 H;subst q0;exact wq []
   refine sp ?_;have q0:=j1 H;subst q0;exact wq []
 (iterate 2 refine sp ?_);refine WP.seq ?_;obtain ⟨y1,H3,H⟩:=bnd H;refine WP.monoW (Q:=fun x E M=>match (generalizing:=false) y1 with | (Sum.inl x13)=>x=.panic (.ifc 9 (.lit (.string x13)))∧E=Env.none∧M=Mem.nil | (Sum.inr x14)=>x=.normal∧E=(Env.none.upd 6 (.ro (Rd.slice (Rd.int .u8)) false x14))∧M=Mem.nil) ?_ ?_
 · clear H;have H:=H3;clear H3;(iterate 4 refine sp ?_);refine cq H (fun hb6 H=>?_) fun hb6 H=>?_
   · (iterate 2 refine sp ?_);obtain ⟨y2,h6,H⟩:=bnd H;rcases y2 with x15 | x16
     · refine WPL.pW (runs_callP (s:=[]) (t:=[]) (N:=0) (bor:=[]) fn43 rfl (s_deflate_dynamic k x9 (Sum.inl x15) h6) ⟨rfl,trivial,by decide,rfl,trivial⟩ rfl trivial (.ren rfl rfl .nil) rfl trivial rfl) ?_;have q0:=j1 H;subst q0;exact W.wkP [] hnp (Then.p r3) ⟨rfl,trivial,by decide,rfl,trivial⟩ (LeE.none rfl rfl) rfl rfl
     refine WPL.c (rc [] [] 0 [] (s_deflate_dynamic k x9 (Sum.inr x16) h6)) rfl ?_;(iterate 4 refine sp ?_);obtain ⟨h7,H⟩:=grd H;refine WPL.qq (q_neqNilRo Tryz.underlying23 rfl h7) ?_;refine sp ?_;refine WPL.qg rfl rfl rfl aq rfl ?_;refine WPL.qg rfl rfl rfl aq rfl ?_;refine WPL.qg rfl rfl rfl aq rfl ?_;refine WPL.qg rfl rfl rfl aq rfl ?_;obtain ⟨x17,h8,H⟩:=bnd H;refine WPL.qg rfl rfl rfl (q_nm aq (nm_bool h8)) rfl ?_;(iterate 2 refine sp ?_);refine cq H (fun hb7 H=>?_) fun hb7 H=>?_
     · (iterate 3 refine sp ?_);refine WPL.nilW ?_;have q0:=j1 H;subst q0;exact wq []
     refine sp ?_;have q0:=j1 H;subst q0;exact wq []
   refine sp ?_;have q0:=j1 H;subst q0;exact wq []
 rcases y1 with x13 | x14
 · rintro _ _ _ ⟨rfl,rfl,rfl⟩;have q0:=j1 H;subst q0;exact W.now (Then.p (BodyR.mkP trivial [] ⟨rfl,rfl⟩ ⟨rfl,trivial,by decide,rfl,trivial⟩ rfl rfl))
 rintro _ _ _ ⟨rfl,rfl,rfl⟩;(iterate 8 refine sp ?_);have q0:=j1 H;subst q0;exact W.now (mb [])
theorem s_deflate_Deflate_n (k:Nat) (x1:(List Int)) (x2:Int) (x3:(List Int)) (x4:Int) (H:g_deflate_Deflate_n k x1 x2=some (x3,x4)):Go.Q.Spec Tryz.prog 20 0 [.ro (Rd.slice (Rd.int .u8)) false x1,.lit (.int .i64 x2)] Mem.nil (fun o M=>o=.ret (.tup [.ro (Rd.slice (Rd.int .u8)) false x3,.lit (.int .i64 x4)])∧M=Mem.nil):=by
 unfold g_deflate_Deflate_n at H;obtain ⟨y,h,H⟩:=bnd H;have q:=s_deflate_Deflate k x1 x2 y h;revert H q;match y with
 | (Sum.inl (x3,x4))=>intro H q;cases H;exact q
 | (Sum.inr x5)=>intro H q;cases H
theorem s_bits_Crc (k:Nat) (x1:(List Int)) (x2:Int) (H:g_bits_Crc k x1=some x2):Go.Q.Spec Tryz.prog 21 0 [.ro (Rd.slice (Rd.int .u8)) false x1] Mem.nil (fun o M=>o=.ret (.lit (.int .u32 x2))∧M=Mem.nil):=by
 unfold g_bits_Crc at H;refine bo Tryz.func21 [] [.tmp 2] 29 fun cx hnp=>?_;(iterate 6 refine sp ?_);refine WP.seq ?_;(iterate 6 refine sp ?_);refine WP.cv (Cv.weak (E':=((((Env.none.upd 3 (.lit (.int .u32 4294967295))).upd 6 (.ro (Rd.slice (Rd.int .u8)) false x1)).upd 7 (.lit (.int .i64 ((List.length x1:Nat):Int)))).upd 8 (.lit (.int .i64 0)))) (M':=Mem.nil) [] hnp ⟨rfl,trivial,by decide,rfl,trivial⟩ (LeE.u (LeE.u (LeE.u (LeE.u (LeE.none rfl rfl)))))) ?_;obtain ⟨x3,H1,H⟩:=bnd H;refine mo (.exit 0) (Env.none.upd 3 (.lit (.int .u32 x3))) Mem.nil ?_ ?_
 · refine WP.loop (β:=Int × Int) (fun n b=>g_bits_Crc_l0 k x1 n b.1 b.2=some x3) (fun b=>((((Env.none.upd 3 (.lit (.int .u32 b.1))).upd 6 (.ro (Rd.slice (Rd.int .u8)) false x1)).upd 7 (.lit (.int .i64 ((List.length x1:Nat):Int)))).upd 8 (.lit (.int .i64 b.2)))) (fun b=>Mem.nil) k (4294967295,0) H1 rfl rfl ?_;rintro n ⟨x4,x5⟩ H;obtain _ | n:=n
   · exact nf rfl H
   rw [g_bits_Crc_l0.eq_2] at H;show WP _ _ _ _ ((((Env.none.upd 3 (.lit (.int .u32 x4))).upd 6 (.ro (Rd.slice (Rd.int .u8)) false x1)).upd 7 (.lit (.int .i64 ((List.length x1:Nat):Int)))).upd 8 (.lit (.int .i64 x5))) Mem.nil _;refine sp ?_;obtain ⟨x6,h1,H⟩:=bnd H;refine sn (nm_bool h1) ?_;refine sp ?_;refine WP.seq ?_;refine cq H (fun hb1 H=>?_) fun hb1 H=>?_
   · (iterate 3 refine sp ?_);refine WP.seq ?_;(iterate 2 refine sp ?_);obtain ⟨x7,h2,H⟩:=bnd H;(iterate 8 refine sp ?_);obtain ⟨x8,h3,H⟩:=bnd H;refine sn (nm_int h3) ?_;(iterate 6 refine sp ?_);refine WP.cv (Cv.weak (E':=(((((Env.none.upd 3 (.lit (.int .u32 x8))).upd 6 (.ro (Rd.slice (Rd.int .u8)) false x1)).upd 7 (.lit (.int .i64 ((List.length x1:Nat):Int)))).upd 8 (.lit (.int .i64 x5))).upd 16 (.lit (.int .i64 0)))) (M':=Mem.nil) [] hnp ⟨rfl,trivial,by decide,rfl,trivial⟩ (LeE.u (LeE.u (LeE.u (LeE.u (LeE.u (LeE.none rfl rfl))))))) ?_;obtain ⟨x9,H2,H⟩:=bnd H;refine mo (.exit 2) ((((Env.none.upd 3 (.lit (.int .u32 x9))).upd 6 (.ro (Rd.slice (Rd.int .u8)) false x1)).upd 7 (.lit (.int .i64 ((List.length x1:Nat):Int)))).upd 8 (.lit (.int .i64 x5))) Mem.nil ?_ ?_
     · refine WP.loop (β:=Int × Int) (fun n b=>g_bits_Crc_l1 k n b.1 b.2=some x9) (fun b=>(((((Env.none.upd 3 (.lit (.int .u32 b.1))).upd 6 (.ro (Rd.slice (Rd.int .u8)) false x1)).upd 7 (.lit (.int .i64 ((List.length x1:Nat):Int)))).upd 8 (.lit (.int .i64 x5))).upd 16 (.lit (.int .i64 b.2)))) (fun b=>Mem.nil) k (x8,0) H2 rfl rfl ?_;rintro n ⟨x10,x11⟩ H;obtain _ | n:=n
       · exact nf rfl H
       rw [g_bits_Crc_l1.eq_2] at H;show WP _ _ _ _ (((((Env.none.upd 3 (.lit (.int .u32 x10))).upd 6 (.ro (Rd.slice (Rd.int .u8)) false x1)).upd 7 (.lit (.int .i64 ((List.length x1:Nat):Int)))).upd 8 (.lit (.int .i64 x5))).upd 16 (.lit (.int .i64 x11))) Mem.nil _;(iterate 3 refine sp ?_);refine WP.seq ?_;refine cq H (fun hb2 H=>?_) fun hb2 H=>?_
       · (iterate 3 refine sp ?_);refine WP.seq ?_;(iterate 6 refine sp ?_);obtain ⟨x12,h4,H⟩:=bnd H;refine sn (nm_int h4) ?_;refine sp ?_;obtain ⟨x13,h5,H⟩:=bnd H;refine sn (nm_int h5) ?_;refine sp ?_;refine WPL.nilW ?_;refine sp ?_;refine InBlock.n ?_;(iterate 4 refine sp ?_);refine WPL.nilW ?_;exact wq [] (Then.n ⟨n,(x13,(IntKind.wrap .i64 (x11+1))),Nat.lt_succ_self n,H,rfl,rfl⟩)
       refine sp ?_;have q0:=j1 H;subst q0;exact wq [] (Then.x (Then.x r3))
     (iterate 2 refine sp ?_);refine InBlock.n ?_;(iterate 4 refine sp ?_);refine WPL.nilW ?_;exact wq [] (Then.n ⟨n,(x9,(IntKind.wrap .i64 (x5+1))),Nat.lt_succ_self n,H,rfl,rfl⟩)
   refine sp ?_;have q0:=j1 H;subst q0;exact wq [] (Then.x (Then.x r3))
 (iterate 5 refine sp ?_);obtain ⟨x14,h6,H⟩:=bnd H;refine WPL.qq (q_nm (q_com rfl) (nm_int h6)) ?_;(iterate 3 refine sp ?_);have q0:=j1 H;subst q0;exact W.now (mb [])
theorem s_bits_Writer_Bytes__b (k:Nat) (x1:(List Int)) (x2:Int) (x3:Int) (H:g_bits_Writer_Bytes__b k x1 x2=some x3):Go.Q.Spec Tryz.prog 46 1 [.ptr 0 0,.ro (Rd.slice (Rd.int .u8)) true x1] (Mem.nil.push (.cells 127 [.lit (.slice none 0 0),.lit (.int .i64 x2)])) (fun o M=>o=.ret (.tup [])∧M=((Mem.nil.push (.cells 127 [.whole 1,.lit (.int .i64 x3)])).push (.row 5 (Rd.int .u8) (([]:List Int)++x1)))):=by
 unfold g_bits_Writer_Bytes__b at H;refine bo Tryz.func46 [] [] 24 fun cx hnp=>?_;(iterate 2 refine sp ?_);refine WPL.qq (q_neqp Tryz.underlying77 rfl) ?_;refine sp ?_;refine WP.condT rfl ?_;(iterate 7 refine sp ?_);obtain ⟨h1,H⟩:=grd H;refine WPL.cv (Cv.vir 5 (Rd.int .u8) (N:=1) rfl 10 rfl) ?_;refine WPL.d (d_append ap23 rfl rfl rfl rfl (src_bor sl23 Rd.flat_sc rfl) h1 rfl) rfl ?_;(iterate 11 refine sp ?_);obtain ⟨x4,h2,H⟩:=bnd H;refine sn (nm_int h2) ?_;(iterate 3 refine sp ?_);refine WPL.nilW ?_;have q0:=j1 H;subst q0;exact W.now (BodyR.mkN trivial rfl [0,2] ⟨rfl,rfl⟩ ⟨rfl,AA2,by decide,rfl,BB1⟩ rfl rfl)
theorem s_zip_writer_nums (k:Nat) (x1:Int) (x2:(List Int)) (x3:Int) (x4:(List Int)) (x5:Int) (x6:(List Int)) (H:g_zip_writer_nums k x1 x2 x3 x4=some (x5,x6)):Go.Q.Spec Tryz.prog 47 1 [.agg [.ptr 0 0],.lit (.int .i64 x1),.ro (Rd.slice (Rd.int .i64)) true x2] ((Mem.nil.push (.cells 127 [.whole 1,.lit (.int .i64 x3)])).push (.row 5 (Rd.int .u8) x4)) (fun o M=>o=.ret (.tup [])∧M=((Mem.nil.push (.cells 127 [.whole 1,.lit (.int .i64 x5)])).push (.row 5 (Rd.int .u8) x6))):=by
 unfold g_zip_writer_nums at H;refine bo Tryz.func47 [] [] 29 fun cx hnp=>?_;(iterate 9 refine sp ?_);refine WP.cv (Cv.weak (E':=(((((Env.none.upd 1 (.lit (.int .i64 x1))).upd 3 (.ptr 2 0)).upd 9 (.ro (Rd.slice (Rd.int .i64)) true x2)).upd 10 (.lit (.int .i64 ((List.length x2:Nat):Int)))).upd 11 (.lit (.int .i64 0)))) (M':=(((Mem.nil.push (.cells 127 [.whole 1,.lit (.int .i64 x3)])).push (.row 5 (Rd.int .u8) x4)).push (.cells 79 [.ptr 0 0]))) [0,1,2] hnp ⟨rfl,AA3,by decide,rfl,BB1⟩ (LeE.u (LeE.u (LeE.u (LeE.u (LeE.u (LeE.none rfl rfl))))))) ?_;obtain ⟨⟨x7,x8⟩,H1,H⟩:=bnd H;refine mo (.exit 0) Env.none ((Mem.nil.push (.cells 127 [.whole 1,.lit (.int .i64 x7)])).push (.row 5 (Rd.int .u8) x8)) ?_ ?_
 · refine WP.loop (β:=Int × Int × (List Int)) (fun n b=>g_zip_writer_nums_l0 k x1 x2 n b.1 b.2.1 b.2.2=some (x7,x8)) (fun b=>(((((Env.none.upd 1 (.lit (.int .i64 x1))).upd 3 (.ptr 2 0)).upd 9 (.ro (Rd.slice (Rd.int .i64)) true x2)).upd 10 (.lit (.int .i64 ((List.length x2:Nat):Int)))).upd 11 (.lit (.int .i64 b.1)))) (fun b=>(((Mem.nil.push (.cells 127 [.whole 1,.lit (.int .i64 b.2.1)])).push (.row 5 (Rd.int .u8) b.2.2)).push (.cells 79 [.ptr 0 0]))) k (0,x3,x4) H1 rfl rfl ?_;rintro n ⟨x9,x10,x11⟩ H;obtain _ | n:=n
   · exact nf rfl H
   rw [g_zip_writer_nums_l0.eq_2] at H;show WP _ _ _ _ (((((Env.none.upd 1 (.lit (.int .i64 x1))).upd 3 (.ptr 2 0)).upd 9 (.ro (Rd.slice (Rd.int .i64)) true x2)).upd 10 (.lit (.int .i64 ((List.length x2:Nat):Int)))).upd 11 (.lit (.int .i64 x9))) (((Mem.nil.push (.cells 127 [.whole 1,.lit (.int .i64 x10)])).push (.row 5 (Rd.int .u8) x11)).push (.cells 79 [.ptr 0 0])) _;refine sp ?_;obtain ⟨x12,h1,H⟩:=bnd H;refine sn (nm_bool h1) ?_;refine sp ?_;refine WP.seq ?_;refine cq H (fun hb1 H=>?_) fun hb1 H=>?_
   · (iterate 3 refine sp ?_);refine WP.seq ?_;(iterate 2 refine sp ?_);obtain ⟨x13,h2,H⟩:=bnd H;(iterate 9 refine sp ?_);refine WP.cv (Cv.weak (E':=((((((((Env.none.upd 1 (.lit (.int .i64 x1))).upd 3 (.ptr 2 0)).upd 7 (.lit (.int .i64 x13))).upd 9 (.ro (Rd.slice (Rd.int .i64)) true x2)).upd 10 (.lit (.int .i64 ((List.length x2:Nat):Int)))).upd 11 (.lit (.int .i64 x9))).upd 15 (.lit (.int .i64 x1))).upd 16 (.lit (.int .i64 0)))) (M':=(((Mem.nil.push (.cells 127 [.whole 1,.lit (.int .i64 x10)])).push (.row 5 (Rd.int .u8) x11)).push (.cells 79 [.ptr 0 0]))) [0,1,2] hnp ⟨rfl,AA3,by decide,rfl,BB1⟩ (LeE.u (LeE.u (LeE.u (LeE.u (LeE.u (LeE.u (LeE.u (LeE.u (LeE.none rfl rfl)))))))))) ?_;obtain ⟨⟨x14,x15⟩,H2,H⟩:=bnd H;refine mo (.exit 2) (((((Env.none.upd 1 (.lit (.int .i64 x1))).upd 3 (.ptr 2 0)).upd 9 (.ro (Rd.slice (Rd.int .i64)) true x2)).upd 10 (.lit (.int .i64 ((List.length x2:Nat):Int)))).upd 11 (.lit (.int .i64 x9))) (((Mem.nil.push (.cells 127 [.whole 1,.lit (.int .i64 x14)])).push (.row 5 (Rd.int .u8) x15)).push (.cells 79 [.ptr 0 0])) ?_ ?_
     · refine WP.loop (β:=Int × Int × (List Int)) (fun n b=>g_zip_writer_nums_l1 k x1 x13 n b.1 b.2.1 b.2.2=some (x14,x15)) (fun b=>((((((((Env.none.upd 1 (.lit (.int .i64 x1))).upd 3 (.ptr 2 0)).upd 7 (.lit (.int .i64 x13))).upd 9 (.ro (Rd.slice (Rd.int .i64)) true x2)).upd 10 (.lit (.int .i64 ((List.length x2:Nat):Int)))).upd 11 (.lit (.int .i64 x9))).upd 15 (.lit (.int .i64 x1))).upd 16 (.lit (.int .i64 b.1)))) (fun b=>(((Mem.nil.push (.cells 127 [.whole 1,.lit (.int .i64 b.2.1)])).push (.row 5 (Rd.int .u8) b.2.2)).push (.cells 79 [.ptr 0 0]))) k (0,x10,x11) H2 rfl rfl ?_;rintro n ⟨x16,x17,x18⟩ H;obtain _ | n:=n
       · exact nf rfl H
       rw [g_zip_writer_nums_l1.eq_2] at H;show WP _ _ _ _ ((((((((Env.none.upd 1 (.lit (.int .i64 x1))).upd 3 (.ptr 2 0)).upd 7 (.lit (.int .i64 x13))).upd 9 (.ro (Rd.slice (Rd.int .i64)) true x2)).upd 10 (.lit (.int .i64 ((List.length x2:Nat):Int)))).upd 11 (.lit (.int .i64 x9))).upd 15 (.lit (.int .i64 x1))).upd 16 (.lit (.int .i64 x16))) (((Mem.nil.push (.cells 127 [.whole 1,.lit (.int .i64 x17)])).push (.row 5 (Rd.int .u8) x18)).push (.cells 79 [.ptr 0 0])) _;(iterate 3 refine sp ?_);refine WP.seq ?_;refine cq H (fun hb2 H=>?_) fun hb2 H=>?_
       · (iterate 3 refine sp ?_);refine WP.seq ?_;(iterate 5 refine sp ?_);refine WP.regionD' 8 [2] [] mixed rfl ?_;refine dT 0 ?_;refine dT 2 ?_;refine dT 3 ?_;refine dT 4 ?_;obtain ⟨h3,H⟩:=grd H;obtain ⟨x19,h4,H⟩:=bnd H;refine WPD.tT 5 rfl (q_nm (q_shr rfl rfl h3) (nm_int h4)) ?_;refine dT 6 ?_;refine dK 1 ?_;obtain ⟨⟨x20,x21,x22⟩,h4,H⟩:=bnd H;refine dE 7 [2] [] rfl (rc [0,1] [0,3] 4 [] (s_bits_Writer_Put__b k (IntKind.wrap .u32 x19) 8 x17 x18 x20 x21 x22 h4) (hargs:=.ren rfl rfl (.ren rfl rfl (.ren rfl rfl .nil)))) ?_;refine WPD.doneW (by kernel_rfl) ?_;refine sp ?_;refine InBlock.n ?_;(iterate 4 refine sp ?_);refine WPL.nilW ?_;exact wq [0,3,2] (Then.n ⟨n,((IntKind.wrap .i64 (x16+1)),x21,x22),Nat.lt_succ_self n,H,rfl,rfl⟩)
       refine sp ?_;obtain ⟨rfl,rfl⟩:=j2 H;exact wq [0,1,2] (Then.x (Then.x r3))
     (iterate 2 refine sp ?_);refine InBlock.n ?_;(iterate 4 refine sp ?_);refine WPL.nilW ?_;exact wq [0,1,2] (Then.n ⟨n,((IntKind.wrap .i64 (x9+1)),x14,x15),Nat.lt_succ_self n,H,rfl,rfl⟩)
   refine sp ?_;obtain ⟨rfl,rfl⟩:=j2 H;exact wq [0,1] (Then.x (Then.x r3))
 obtain ⟨rfl,rfl⟩:=j2 H;exact W.now (InBlock.x0 (BodyR.mkN trivial rfl [0,1] ⟨rfl,rfl⟩ ⟨rfl,AA2,by decide,rfl,BB1⟩ rfl rfl))
theorem s_zip_writer_sums (k:Nat) (x1:Int) (x2:Int) (x3:Int) (x4:Int) (x5:ByteArray) (x6:Int) (x7:Int) (x8:(List Int)) (x9:Int) (x10:(List Int)) (H:g_zip_writer_sums k x1 x2 x3 x4 x5 x6 x7 x8=some (x9,x10)):Go.Q.Spec Tryz.prog 48 1 [.agg [.ptr 0 0],.agg [.lit (.int .i64 x1),.lit (.int .i64 x2),.lit (.int .i64 x3),.lit (.int .i64 x4),.lit (.string x5),.lit (.int .i64 x6)]] ((Mem.nil.push (.cells 127 [.whole 1,.lit (.int .i64 x7)])).push (.row 5 (Rd.int .u8) x8)) (fun o M=>o=.ret (.tup [])∧M=((Mem.nil.push (.cells 127 [.whole 1,.lit (.int .i64 x9)])).push (.row 5 (Rd.int .u8) x10))):=by
 unfold g_zip_writer_sums at H;refine bo Tryz.func48 [] [] 24 fun cx hnp=>?_;(iterate 8 refine sp ?_);refine WPL.d (d_buildSlice (ds:=([0,x1,0,33]:List Int)) (R:=(Rd.int .i64)) li61 rfl rfl rfl rfl rfl (JoinRows.cons1 Joins.sc rfl (JoinRows.cons1 Joins.sc rfl (JoinRows.cons1 Joins.sc rfl (JoinRows.cons1 Joins.sc rfl JoinRows.nil)))) rfl rfl) rfl ?_;obtain ⟨⟨x11,x12⟩,h1,H⟩:=bnd H;refine WPL.c (rc [0,1] [0,5] 6 [4] (s_zip_writer_nums k 2 ([0,x1,0,33]:List Int) x7 x8 x11 x12 h1) (hargs:=.ren rfl rfl (.ren rfl rfl (.row rfl rfl .nil)))) rfl ?_;(iterate 9 refine sp ?_);refine WPL.d (d_buildSlice (ds:=([x2,x3,x4]:List Int)) (R:=(Rd.int .i64)) li61 rfl rfl rfl rfl rfl (JoinRows.cons1 Joins.sc rfl (JoinRows.cons1 Joins.sc rfl (JoinRows.cons1 Joins.sc rfl JoinRows.nil))) rfl rfl) rfl ?_;obtain ⟨⟨x13,x14⟩,h2,H⟩:=bnd H;refine WPL.c (rc [0,5] [0,7] 8 [6] (s_zip_writer_nums k 4 ([x2,x3,x4]:List Int) x11 x12 x13 x14 h2) (hargs:=.ren rfl rfl (.ren rfl rfl (.row rfl rfl .nil)))) rfl ?_;(iterate 6 refine sp ?_);refine WPL.d (d_buildSlice (ds:=([((ByteArray.size x5:Nat):Int)]:List Int)) (R:=(Rd.int .i64)) li61 rfl rfl rfl rfl rfl (JoinRows.cons1 Joins.sc rfl JoinRows.nil) rfl rfl) rfl ?_;obtain ⟨⟨x15,x16⟩,h3,H⟩:=bnd H;refine WPL.c (rc [0,7] [0,9] 10 [8] (s_zip_writer_nums k 2 ([((ByteArray.size x5:Nat):Int)]:List Int) x13 x14 x15 x16 h3) (hargs:=.ren rfl rfl (.ren rfl rfl (.row rfl rfl .nil)))) rfl ?_;refine WPL.nilW ?_;obtain ⟨rfl,rfl⟩:=j2 H;exact W.now (BodyR.mkN trivial rfl [0,9] ⟨rfl,rfl⟩ ⟨rfl,AA2,by decide,rfl,BB1⟩ rfl rfl)
theorem s_bits_Writer_Bytes__c (k:Nat) (x1:(List Int)) (x2:Int) (x3:(List Int)) (x4:Int) (H:g_bits_Writer_Bytes k x1 x2 x3=some x4):Go.Q.Spec Tryz.prog 46 1 [.ptr 0 0,.ro (Rd.slice (Rd.int .u8)) true x1] ((Mem.nil.push (.cells 127 [.whole 1,.lit (.int .i64 x2)])).push (.row 5 (Rd.int .u8) x3)) (fun o M=>o=.ret (.tup [])∧M=((Mem.nil.push (.cells 127 [.whole 1,.lit (.int .i64 x4)])).push (.row 5 (Rd.int .u8) (x3++x1)))):=by
 unfold g_bits_Writer_Bytes at H;refine bo Tryz.func46 [] [] 24 fun cx hnp=>?_;(iterate 2 refine sp ?_);refine WPL.qq (q_neqp Tryz.underlying77 rfl) ?_;refine sp ?_;refine WP.condT rfl ?_;(iterate 7 refine sp ?_);obtain ⟨h1,H⟩:=grd H;refine WPL.d (d_append ap23 rfl rfl rfl rfl (src_bor sl23 Rd.flat_sc rfl) h1 rfl) rfl ?_;(iterate 11 refine sp ?_);obtain ⟨x5,h2,H⟩:=bnd H;refine sn (nm_int h2) ?_;(iterate 3 refine sp ?_);refine WPL.nilW ?_;have q0:=j1 H;subst q0;exact W.now (BodyR.mkN trivial rfl [0,2] ⟨rfl,rfl⟩ ⟨rfl,AA2,by decide,rfl,BB1⟩ rfl rfl)
theorem s_zip_central_1 (k:Nat) (x1:Int) (x2:Int) (x3:Int) (x4:Int) (x5:Int) (x6:ByteArray) (x7:Int) (x8:Int) (x9:(List Int)) (H:g_zip_central_1 k x1 x2 x3 x4 x5 x6 x7=some (x8,x9)):Go.Q.Spec Tryz.prog 45 2 [.agg [.ptr 0 0],.ptr 1 0] ((Mem.nil.push (.cells 127 [.lit (.slice none 0 0),.lit (.int .i64 x1)])).push (.cells 47 [.lit (.int .i64 x2),.lit (.int .i64 x3),.lit (.int .i64 x4),.lit (.int .i64 x5),.lit (.string x6),.lit (.int .i64 x7)])) (fun o M=>o=.ret (.tup [])∧M=(((Mem.nil.push (.cells 127 [.whole 2,.lit (.int .i64 x8)])).push (.cells 47 [.lit (.int .i64 x2),.lit (.int .i64 x3),.lit (.int .i64 x4),.lit (.int .i64 x5),.lit (.string x6),.lit (.int .i64 x7)])).push (.row 5 (Rd.int .u8) x9))):=by
 unfold g_zip_central_1 at H;refine bo Tryz.func45 [] [] 27 fun cx hnp=>?_;(iterate 6 refine sp ?_);refine WPL.d (d_buildSlice (ds:=([80,75,1,2]:List Int)) (R:=(Rd.int .u8)) li23 rfl rfl rfl rfl rfl (JoinRows.cons1 Joins.sc rfl (JoinRows.cons1 Joins.sc rfl (JoinRows.cons1 Joins.sc rfl (JoinRows.cons1 Joins.sc rfl JoinRows.nil)))) rfl rfl) rfl ?_;obtain ⟨x10,h1,H⟩:=bnd H;refine WPL.c (rc [0] [0,4] 5 [3] (s_bits_Writer_Bytes__b k ([80,75,1,2]:List Int) x1 x10 h1) (hargs:=.ren rfl rfl (.row rfl rfl .nil))) rfl ?_;(iterate 3 refine sp ?_);refine WPL.d (d_buildSlice (ds:=([20,20]:List Int)) (R:=(Rd.int .i64)) li61 rfl rfl rfl rfl rfl (JoinRows.cons1 Joins.sc rfl (JoinRows.cons1 Joins.sc rfl JoinRows.nil)) rfl rfl) rfl ?_;obtain ⟨⟨x11,x12⟩,h2,H⟩:=bnd H;refine WPL.c (rc [0,4] [0,6] 7 [5] (s_zip_writer_nums k 2 ([20,20]:List Int) x10 (([]:List Int)++([80,75,1,2]:List Int)) x11 x12 h2) (hargs:=.ren rfl rfl (.ren rfl rfl (.row rfl rfl .nil)))) rfl ?_;(iterate 4 refine sp ?_);obtain ⟨⟨x13,x14⟩,h3,H⟩:=bnd H;refine WPL.c (rc [0,6] [0,7] 8 [] (s_zip_writer_sums k x2 x3 x4 x5 x6 x7 x11 x12 x13 x14 h3)) rfl ?_;(iterate 3 refine sp ?_);refine WPL.d (d_buildSlice (ds:=([0,0,0,0]:List Int)) (R:=(Rd.int .i64)) li61 rfl rfl rfl rfl rfl (JoinRows.cons1 Joins.sc rfl (JoinRows.cons1 Joins.sc rfl (JoinRows.cons1 Joins.sc rfl (JoinRows.cons1 Joins.sc rfl JoinRows.nil)))) rfl rfl) rfl ?_;obtain ⟨⟨x15,x16⟩,h4,H⟩:=bnd H;refine WPL.c (rc [0,7] [0,9] 10 [8] (s_zip_writer_nums k 2 ([0,0,0,0]:List Int) x13 x14 x15 x16 h4) (hargs:=.ren rfl rfl (.ren rfl rfl (.row rfl rfl .nil)))) rfl ?_;(iterate 5 refine sp ?_);refine WPL.d (d_buildSlice (ds:=([0,x7]:List Int)) (R:=(Rd.int .i64)) li61 rfl rfl rfl rfl rfl (JoinRows.cons1 Joins.sc rfl (JoinRows.cons1 Joins.sc rfl JoinRows.nil)) rfl rfl) rfl ?_;obtain ⟨⟨x17,x18⟩,h5,H⟩:=bnd H;refine WPL.c (rc [0,9] [0,11] 12 [10] (s_zip_writer_nums k 4 ([0,x7]:List Int) x15 x16 x17 x18 h5) (hargs:=.ren rfl rfl (.ren rfl rfl (.row rfl rfl .nil)))) rfl ?_;(iterate 6 refine sp ?_);obtain ⟨h6,H⟩:=grd H;refine WPL.d (d_strBytes Tryz.underlying9 Tryz.underlying23 Tryz.underlying5 rfl h6 rfl) rfl ?_;obtain ⟨x19,h7,H⟩:=bnd H;refine WPL.c (rc [0,11] [0,13] 14 [12] (s_bits_Writer_Bytes__c k (strInts x6) x17 x18 x19 h7) (hargs:=.ren rfl rfl (.row rfl rfl .nil))) rfl ?_;refine WPL.nilW ?_;obtain ⟨rfl,rfl⟩:=j2 H;exact W.now (BodyR.mkN trivial rfl [0,1,13] ⟨rfl,rfl⟩ ⟨rfl,AA3,by decide,rfl,BB2⟩ rfl rfl)
theorem s_zip_bytes (k:Nat) (x1:Int) (x2:Int) (x3:Int) (x4:Int) (x5:ByteArray) (x6:Int) (x7:(List Int)) (H:g_zip_bytes k x1 x2 x3 x4 x5 x6=some x7):Go.Q.Spec Tryz.prog 44 1 [.fn 45 [.ptr 0 0]] (Mem.nil.push (.cells 47 [.lit (.int .i64 x1),.lit (.int .i64 x2),.lit (.int .i64 x3),.lit (.int .i64 x4),.lit (.string x5),.lit (.int .i64 x6)])) (fun o M=>o=.ret (.ro (Rd.slice (Rd.int .u8)) false x7)∧M=(Mem.nil.push (.cells 47 [.lit (.int .i64 x1),.lit (.int .i64 x2),.lit (.int .i64 x3),.lit (.int .i64 x4),.lit (.string x5),.lit (.int .i64 x6)]))):=by
 unfold g_zip_bytes at H;refine bo Tryz.func44 [] [.tmp 2] 12 fun cx hnp=>?_;(iterate 4 refine sp ?_);obtain ⟨_,h1,H⟩:=bnd H;refine WPL.c (rc [] [1] 2 [] (s_bits_NewWriter k h1)) rfl ?_;(iterate 7 refine sp ?_);obtain ⟨⟨x8,x9⟩,h2,H⟩:=bnd H;refine WPL.c (rc [1,0] [1,0,3] 4 [] (s_zip_central_1 k 0 x1 x2 x3 x4 x5 x6 x8 x9 h2)) rfl ?_;(iterate 4 refine sp ?_);obtain ⟨x10,h3,H⟩:=bnd H;refine WPL.c (rc [1,3] [1,4] 5 [] (s_bits_Writer_Done k x8 x9 x10 h3)) rfl ?_;(iterate 3 refine sp ?_);have q0:=j1 H;subst q0;exact W.now (mb [0])
theorem s_zip_central (k:Nat) (x1:Int) (x2:Int) (x3:Int) (x4:Int) (x5:ByteArray) (x6:Int) (x7:(List Int)) (H:g_zip_central k x1 x2 x3 x4 x5 x6=some x7):Go.Q.Spec Tryz.prog 22 0 [.agg [.lit (.int .i64 x1),.lit (.int .i64 x2),.lit (.int .i64 x3),.lit (.int .i64 x4),.lit (.string x5),.lit (.int .i64 x6)]] Mem.nil (fun o M=>o=.ret (.ro (Rd.slice (Rd.int .u8)) false x7)∧M=Mem.nil):=by
 unfold g_zip_central at H;refine bo Tryz.func22 [] [.tmp 2] 5 fun cx hnp=>?_;(iterate 5 refine sp ?_);refine WPL.qq (q_makeFunc) ?_;obtain ⟨x8,h1,H⟩:=bnd H;refine WPL.c (rc [0] [0] 1 [] (s_zip_bytes k x1 x2 x3 x4 x5 x6 x8 h1)) rfl ?_;(iterate 3 refine sp ?_);have q0:=j1 H;subst q0;exact W.now (mb [])
theorem s_zip_local_1 (k:Nat) (x1:Int) (x2:Int) (x3:Int) (x4:Int) (x5:Int) (x6:ByteArray) (x7:Int) (x8:Int) (x9:(List Int)) (H:g_zip_local_1 k x1 x2 x3 x4 x5 x6 x7=some (x8,x9)):Go.Q.Spec Tryz.prog 49 2 [.agg [.ptr 0 0],.ptr 1 0] ((Mem.nil.push (.cells 127 [.lit (.slice none 0 0),.lit (.int .i64 x1)])).push (.cells 47 [.lit (.int .i64 x2),.lit (.int .i64 x3),.lit (.int .i64 x4),.lit (.int .i64 x5),.lit (.string x6),.lit (.int .i64 x7)])) (fun o M=>o=.ret (.tup [])∧M=(((Mem.nil.push (.cells 127 [.whole 2,.lit (.int .i64 x8)])).push (.cells 47 [.lit (.int .i64 x2),.lit (.int .i64 x3),.lit (.int .i64 x4),.lit (.int .i64 x5),.lit (.string x6),.lit (.int .i64 x7)])).push (.row 5 (Rd.int .u8) x9))):=by
 unfold g_zip_local_1 at H;refine bo Tryz.func49 [] [] 22 fun cx hnp=>?_;(iterate 6 refine sp ?_);refine WPL.d (d_buildSlice (ds:=([80,75,3,4]:List Int)) (R:=(Rd.int .u8)) li23 rfl rfl rfl rfl rfl (JoinRows.cons1 Joins.sc rfl (JoinRows.cons1 Joins.sc rfl (JoinRows.cons1 Joins.sc rfl (JoinRows.cons1 Joins.sc rfl JoinRows.nil)))) rfl rfl) rfl ?_;obtain ⟨x10,h1,H⟩:=bnd H;refine WPL.c (rc [0] [0,4] 5 [3] (s_bits_Writer_Bytes__b k ([80,75,3,4]:List Int) x1 x10 h1) (hargs:=.ren rfl rfl (.row rfl rfl .nil))) rfl ?_;(iterate 3 refine sp ?_);refine WPL.d (d_buildSlice (ds:=([20]:List Int)) (R:=(Rd.int .i64)) li61 rfl rfl rfl rfl rfl (JoinRows.cons1 Joins.sc rfl JoinRows.nil) rfl rfl) rfl ?_;obtain ⟨⟨x11,x12⟩,h2,H⟩:=bnd H;refine WPL.c (rc [0,4] [0,6] 7 [5] (s_zip_writer_nums k 2 ([20]:List Int) x10 (([]:List Int)++([80,75,3,4]:List Int)) x11 x12 h2) (hargs:=.ren rfl rfl (.ren rfl rfl (.row rfl rfl .nil)))) rfl ?_;(iterate 4 refine sp ?_);obtain ⟨⟨x13,x14⟩,h3,H⟩:=bnd H;refine WPL.c (rc [0,6] [0,7] 8 [] (s_zip_writer_sums k x2 x3 x4 x5 x6 x7 x11 x12 x13 x14 h3)) rfl ?_;(iterate 3 refine sp ?_);refine WPL.d (d_buildSlice (ds:=([0]:List Int)) (R:=(Rd.int .i64)) li61 rfl rfl rfl rfl rfl (JoinRows.cons1 Joins.sc rfl JoinRows.nil) rfl rfl) rfl ?_;obtain ⟨⟨x15,x16⟩,h4,H⟩:=bnd H;refine WPL.c (rc [0,7] [0,9] 10 [8] (s_zip_writer_nums k 2 ([0]:List Int) x13 x14 x15 x16 h4) (hargs:=.ren rfl rfl (.ren rfl rfl (.row rfl rfl .nil)))) rfl ?_;(iterate 6 refine sp ?_);obtain ⟨h5,H⟩:=grd H;refine WPL.d (d_strBytes Tryz.underlying9 Tryz.underlying23 Tryz.underlying5 rfl h5 rfl) rfl ?_;obtain ⟨x17,h6,H⟩:=bnd H;refine WPL.c (rc [0,9] [0,11] 12 [10] (s_bits_Writer_Bytes__c k (strInts x6) x15 x16 x17 h6) (hargs:=.ren rfl rfl (.row rfl rfl .nil))) rfl ?_;refine WPL.nilW ?_;obtain ⟨rfl,rfl⟩:=j2 H;exact W.now (BodyR.mkN trivial rfl [0,1,11] ⟨rfl,rfl⟩ ⟨rfl,AA3,by decide,rfl,BB2⟩ rfl rfl)
theorem s_zip_bytes__b (k:Nat) (x1:Int) (x2:Int) (x3:Int) (x4:Int) (x5:ByteArray) (x6:Int) (x7:(List Int)) (H:g_zip_bytes__b k x1 x2 x3 x4 x5 x6=some x7):Go.Q.Spec Tryz.prog 44 1 [.fn 49 [.ptr 0 0]] (Mem.nil.push (.cells 47 [.lit (.int .i64 x1),.lit (.int .i64 x2),.lit (.int .i64 x3),.lit (.int .i64 x4),.lit (.string x5),.lit (.int .i64 x6)])) (fun o M=>o=.ret (.ro (Rd.slice (Rd.int .u8)) false x7)∧M=(Mem.nil.push (.cells 47 [.lit (.int .i64 x1),.lit (.int .i64 x2),.lit (.int .i64 x3),.lit (.int .i64 x4),.lit (.string x5),.lit (.int .i64 x6)]))):=by
 unfold g_zip_bytes__b at H;refine bo Tryz.func44 [] [.tmp 2] 12 fun cx hnp=>?_;(iterate 4 refine sp ?_);obtain ⟨_,h1,H⟩:=bnd H;refine WPL.c (rc [] [1] 2 [] (s_bits_NewWriter k h1)) rfl ?_;(iterate 7 refine sp ?_);obtain ⟨⟨x8,x9⟩,h2,H⟩:=bnd H;refine WPL.c (rc [1,0] [1,0,3] 4 [] (s_zip_local_1 k 0 x1 x2 x3 x4 x5 x6 x8 x9 h2)) rfl ?_;(iterate 4 refine sp ?_);obtain ⟨x10,h3,H⟩:=bnd H;refine WPL.c (rc [1,3] [1,4] 5 [] (s_bits_Writer_Done k x8 x9 x10 h3)) rfl ?_;(iterate 3 refine sp ?_);have q0:=j1 H;subst q0;exact W.now (mb [0])
theorem s_zip_local (k:Nat) (x1:Int) (x2:Int) (x3:Int) (x4:Int) (x5:ByteArray) (x6:Int) (x7:(List Int)) (H:g_zip_local k x1 x2 x3 x4 x5 x6=some x7):Go.Q.Spec Tryz.prog 23 0 [.agg [.lit (.int .i64 x1),.lit (.int .i64 x2),.lit (.int .i64 x3),.lit (.int .i64 x4),.lit (.string x5),.lit (.int .i64 x6)]] Mem.nil (fun o M=>o=.ret (.ro (Rd.slice (Rd.int .u8)) false x7)∧M=Mem.nil):=by
 unfold g_zip_local at H;refine bo Tryz.func23 [] [.tmp 2] 5 fun cx hnp=>?_;(iterate 5 refine sp ?_);refine WPL.qq (q_makeFunc) ?_;obtain ⟨x8,h1,H⟩:=bnd H;refine WPL.c (rc [0] [0] 1 [] (s_zip_bytes__b k x1 x2 x3 x4 x5 x6 x8 h1)) rfl ?_;(iterate 3 refine sp ?_);have q0:=j1 H;subst q0;exact W.now (mb [])
theorem s_zip_end_1 (k:Nat) (x1:Int) (x2:Int) (x3:Int) (x4:Int) (x5:Int) (x6:(List Int)) (H:g_zip_end_1 k x1 x2 x3 x4=some (x5,x6)):Go.Q.Spec Tryz.prog 50 4 [.agg [.ptr 0 0],.ptr 1 0,.ptr 2 0,.ptr 3 0] ((((Mem.nil.push (.cells 127 [.lit (.slice none 0 0),.lit (.int .i64 x1)])).push (.cells 3 [.lit (.int .i64 x2)])).push (.cells 3 [.lit (.int .i64 x3)])).push (.cells 3 [.lit (.int .i64 x4)])) (fun o M=>o=.ret (.tup [])∧M=(((((Mem.nil.push (.cells 127 [.whole 4,.lit (.int .i64 x5)])).push (.cells 3 [.lit (.int .i64 x2)])).push (.cells 3 [.lit (.int .i64 x3)])).push (.cells 3 [.lit (.int .i64 x4)])).push (.row 5 (Rd.int .u8) x6))):=by
 unfold g_zip_end_1 at H;refine bo Tryz.func50 [] [] 22 fun cx hnp=>?_;(iterate 6 refine sp ?_);refine WPL.d (d_buildSlice (ds:=([80,75,5,6]:List Int)) (R:=(Rd.int .u8)) li23 rfl rfl rfl rfl rfl (JoinRows.cons1 Joins.sc rfl (JoinRows.cons1 Joins.sc rfl (JoinRows.cons1 Joins.sc rfl (JoinRows.cons1 Joins.sc rfl JoinRows.nil)))) rfl rfl) rfl ?_;obtain ⟨x7,h1,H⟩:=bnd H;refine WPL.c (rc [0] [0,6] 7 [5] (s_bits_Writer_Bytes__b k ([80,75,5,6]:List Int) x1 x7 h1) (hargs:=.ren rfl rfl (.row rfl rfl .nil))) rfl ?_;(iterate 5 refine sp ?_);refine WPL.d (d_buildSlice (ds:=([0,0,x2,x2]:List Int)) (R:=(Rd.int .i64)) li61 rfl rfl rfl rfl rfl (JoinRows.cons1 Joins.sc rfl (JoinRows.cons1 Joins.sc rfl (JoinRows.cons1 Joins.sc rfl (JoinRows.cons1 Joins.sc rfl JoinRows.nil)))) rfl rfl) rfl ?_;obtain ⟨⟨x8,x9⟩,h2,H⟩:=bnd H;refine WPL.c (rc [0,6] [0,8] 9 [7] (s_zip_writer_nums k 2 ([0,0,x2,x2]:List Int) x7 (([]:List Int)++([80,75,5,6]:List Int)) x8 x9 h2) (hargs:=.ren rfl rfl (.ren rfl rfl (.row rfl rfl .nil)))) rfl ?_;(iterate 5 refine sp ?_);refine WPL.d (d_buildSlice (ds:=([x3,x4]:List Int)) (R:=(Rd.int .i64)) li61 rfl rfl rfl rfl rfl (JoinRows.cons1 Joins.sc rfl (JoinRows.cons1 Joins.sc rfl JoinRows.nil)) rfl rfl) rfl ?_;obtain ⟨⟨x10,x11⟩,h3,H⟩:=bnd H;refine WPL.c (rc [0,8] [0,10] 11 [9] (s_zip_writer_nums k 4 ([x3,x4]:List Int) x8 x9 x10 x11 h3) (hargs:=.ren rfl rfl (.ren rfl rfl (.row rfl rfl .nil)))) rfl ?_;(iterate 3 refine sp ?_);refine WPL.d (d_buildSlice (ds:=([0]:List Int)) (R:=(Rd.int .i64)) li61 rfl rfl rfl rfl rfl (JoinRows.cons1 Joins.sc rfl JoinRows.nil) rfl rfl) rfl ?_;obtain ⟨⟨x12,x13⟩,h4,H⟩:=bnd H;refine WPL.c (rc [0,10] [0,12] 13 [11] (s_zip_writer_nums k 2 ([0]:List Int) x10 x11 x12 x13 h4) (hargs:=.ren rfl rfl (.ren rfl rfl (.row rfl rfl .nil)))) rfl ?_;refine WPL.nilW ?_;obtain ⟨rfl,rfl⟩:=j2 H;exact W.now (BodyR.mkN trivial rfl [0,1,2,3,12] ⟨rfl,rfl⟩ ⟨rfl,AA5,by decide,rfl,BB4⟩ rfl rfl)
theorem s_zip_bytes__c (k:Nat) (x1:Int) (x2:Int) (x3:Int) (x4:(List Int)) (H:g_zip_bytes__c k x1 x2 x3=some x4):Go.Q.Spec Tryz.prog 44 3 [.fn 50 [.ptr 0 0,.ptr 1 0,.ptr 2 0]] (((Mem.nil.push (.cells 3 [.lit (.int .i64 x1)])).push (.cells 3 [.lit (.int .i64 x2)])).push (.cells 3 [.lit (.int .i64 x3)])) (fun o M=>o=.ret (.ro (Rd.slice (Rd.int .u8)) false x4)∧M=(((Mem.nil.push (.cells 3 [.lit (.int .i64 x1)])).push (.cells 3 [.lit (.int .i64 x2)])).push (.cells 3 [.lit (.int .i64 x3)]))):=by
 unfold g_zip_bytes__c at H;refine bo Tryz.func44 [] [.tmp 2] 12 fun cx hnp=>?_;(iterate 4 refine sp ?_);obtain ⟨_,h1,H⟩:=bnd H;refine WPL.c (rc [] [3] 4 [] (s_bits_NewWriter k h1)) rfl ?_;(iterate 7 refine sp ?_);obtain ⟨⟨x5,x6⟩,h2,H⟩:=bnd H;refine WPL.c (rc [3,0,1,2] [3,0,1,2,5] 6 [] (s_zip_end_1 k 0 x1 x2 x3 x5 x6 h2) (hargs:=.ren rfl rfl (.ren rfl rfl (.ren rfl rfl (.ren rfl rfl .nil))))) rfl ?_;(iterate 4 refine sp ?_);obtain ⟨x7,h3,H⟩:=bnd H;refine WPL.c (rc [3,5] [3,6] 7 [] (s_bits_Writer_Done k x5 x6 x7 h3)) rfl ?_;(iterate 3 refine sp ?_);have q0:=j1 H;subst q0;exact W.now (mb [0,1,2])
theorem s_zip_end (k:Nat) (x1:Int) (x2:Int) (x3:Int) (x4:(List Int)) (H:g_zip_end k x1 x2 x3=some x4):Go.Q.Spec Tryz.prog 24 0 [.lit (.int .i64 x1),.lit (.int .i64 x2),.lit (.int .i64 x3)] Mem.nil (fun o M=>o=.ret (.ro (Rd.slice (Rd.int .u8)) false x4)∧M=Mem.nil):=by
 unfold g_zip_end at H;refine bo Tryz.func24 [] [.tmp 6] 9 fun cx hnp=>?_;(iterate 7 refine sp ?_);refine WPL.qq (q_makeFunc) ?_;obtain ⟨x5,h1,H⟩:=bnd H;refine WPL.c (rc [0,1,2] [0,1,2] 3 [] (s_zip_bytes__c k x1 x2 x3 x5 h1)) rfl ?_;(iterate 3 refine sp ?_);have q0:=j1 H;subst q0;exact W.now (mb [])
theorem s_zip_Write (k:Nat) (x1:(List S_api_File)) (x2:Int) (x3:Int) (x4:(List Int)) (H:g_zip_Write k x1 x2=some (x3,x4)):Go.Q.Spec Tryz.prog 8 0 [.ro (Rd.slice rdS_api_File) false x1,.lit (.int .i64 x2)] Mem.nil (fun o M=>o=.ret (.tup [.whole 0,.lit (.int .i64 x3)])∧M=(Mem.nil.push (.row 5 (Rd.int .u8) x4))):=by
 unfold g_zip_Write at H;refine bo Tryz.func8 [] [.tmp 4,.tmp 5] 74 fun cx hnp=>?_;(iterate 4 refine sp ?_);refine WP.seq ?_;(iterate 3 refine sp ?_);obtain ⟨x5,h1,H⟩:=bnd H;refine WPL.c (rc [] [] 0 [] (s_zip_check k x1 x2 x5 h1)) rfl ?_;(iterate 6 refine sp ?_);refine cq H (fun hb1 H=>?_) fun hb1 H=>?_
 · (iterate 6 refine sp ?_);refine W.cv (Cv.vir 5 (Rd.int .u8) (N:=0) rfl 4 rfl) rfl ?_;obtain ⟨rfl,rfl⟩:=j2 H;exact W.now (Then.r (mb [0]))
 (iterate 7 refine sp ?_);refine WP.seq ?_;(iterate 6 refine sp ?_);refine WP.cv (Cv.vir 5 (Rd.int .u8) (N:=0) rfl 7 rfl) ?_;refine WP.cv (Cv.vir 5 (Rd.int .u8) (N:=1) rfl 8 rfl) ?_;refine WP.cv (Cv.weak (E':=(((((((Env.none.upd 0 (.ro (Rd.slice rdS_api_File) false x1)).upd 1 (.lit (.int .i64 x2))).upd 7 (.whole 0)).upd 8 (.whole 1)).upd 20 (.ro (Rd.slice rdS_api_File) false x1)).upd 21 (.lit (.int .i64 ((List.length x1:Nat):Int)))).upd 22 (.lit (.int .i64 0)))) (M':=((Mem.nil.push (.row 5 (Rd.int .u8) ([]:List Int))).push (.row 5 (Rd.int .u8) ([]:List Int)))) [0,1] hnp ⟨rfl,AA2,by decide,rfl,trivial⟩ (LeE.u (LeE.u (LeE.u (LeE.u (LeE.u (LeE.u (LeE.u (LeE.none rfl rfl))))))))) ?_;obtain ⟨⟨x6,x7⟩,H1,H⟩:=bnd H;refine mo (.exit 0) (((Env.none.upd 0 (.ro (Rd.slice rdS_api_File) false x1)).upd 7 (.whole 0)).upd 8 (.whole 1)) ((Mem.nil.push (.row 5 (Rd.int .u8) x6)).push (.row 5 (Rd.int .u8) x7)) ?_ ?_
 · refine WP.loop (β:=Int × (List Int) × (List Int)) (fun n b=>g_zip_Write_l0 k x1 x2 n b.1 b.2.1 b.2.2=some (x6,x7)) (fun b=>(((((((Env.none.upd 0 (.ro (Rd.slice rdS_api_File) false x1)).upd 1 (.lit (.int .i64 x2))).upd 7 (.whole 0)).upd 8 (.whole 1)).upd 20 (.ro (Rd.slice rdS_api_File) false x1)).upd 21 (.lit (.int .i64 ((List.length x1:Nat):Int)))).upd 22 (.lit (.int .i64 b.1)))) (fun b=>((Mem.nil.push (.row 5 (Rd.int .u8) b.2.1)).push (.row 5 (Rd.int .u8) b.2.2))) k (0,([]:List Int),([]:List Int)) H1 rfl rfl ?_;rintro n ⟨x8,x9,x10⟩ H;obtain _ | n:=n
   · exact nf rfl H
   rw [g_zip_Write_l0.eq_2] at H;show WP _ _ _ _ (((((((Env.none.upd 0 (.ro (Rd.slice rdS_api_File) false x1)).upd 1 (.lit (.int .i64 x2))).upd 7 (.whole 0)).upd 8 (.whole 1)).upd 20 (.ro (Rd.slice rdS_api_File) false x1)).upd 21 (.lit (.int .i64 ((List.length x1:Nat):Int)))).upd 22 (.lit (.int .i64 x8))) ((Mem.nil.push (.row 5 (Rd.int .u8) x9)).push (.row 5 (Rd.int .u8) x10)) _;refine sp ?_;obtain ⟨x11,h2,H⟩:=bnd H;refine sn (nm_bool h2) ?_;refine sp ?_;refine WP.seq ?_;refine cq H (fun hb2 H=>?_) fun hb2 H=>?_
   · (iterate 3 refine sp ?_);refine WP.seq ?_;(iterate 2 refine sp ?_);obtain ⟨x12,h3,H⟩:=bnd H;refine sp ?_;refine WPL.qq (q_load_roag ag41 rfl rfl S_api_File.sp) ?_;(iterate 8 refine sp ?_);refine WP.seq ?_;obtain ⟨x13,H2,H⟩:=bnd H;refine mo .normal (((((((((Env.none.upd 0 (.ro (Rd.slice rdS_api_File) false x1)).upd 1 (.lit (.int .i64 x2))).upd 7 (.whole 0)).upd 8 (.whole 1)).upd 10 (.ptr 2 0)).upd 11 (.ro (Rd.slice (Rd.int .u8)) false x13)).upd 20 (.ro (Rd.slice rdS_api_File) false x1)).upd 21 (.lit (.int .i64 ((List.length x1:Nat):Int)))).upd 22 (.lit (.int .i64 x8))) (((Mem.nil.push (.row 5 (Rd.int .u8) x9)).push (.row 5 (Rd.int .u8) x10)).push (.cells 41 [.lit (.string x12.fName),.ro (Rd.slice (Rd.int .u8)) false x12.fData])) ?_ ?_
     · clear H;have H:=H2;clear H2;(iterate 4 refine sp ?_);refine cq H (fun hb3 H=>?_) fun hb3 H=>?_
       · (iterate 2 refine sp ?_);obtain ⟨⟨x14,x15⟩,h4,H⟩:=bnd H;refine WPL.c (rc [] [] 3 [] (s_deflate_Deflate_n k x12.fData 2 x14 x15 h4)) rfl ?_;(iterate 4 refine sp ?_);refine WPL.nilW ?_;have q0:=j1 H;subst q0;exact wq [0,1,2]
       refine sp ?_;have q0:=j1 H;subst q0;exact wq [0,1,2]
     (iterate 2 refine sp ?_);refine WP.seq ?_;obtain ⟨x16,H3,H⟩:=bnd H;refine mo .normal (((((((((Env.none.upd 0 (.ro (Rd.slice rdS_api_File) false x1)).upd 1 (.lit (.int .i64 x2))).upd 7 (.whole 0)).upd 8 (.whole 1)).upd 11 (.ro (Rd.slice (Rd.int .u8)) false x13)).upd 12 (.ptr 2 0)).upd 20 (.ro (Rd.slice rdS_api_File) false x1)).upd 21 (.lit (.int .i64 ((List.length x1:Nat):Int)))).upd 22 (.lit (.int .i64 x8))) (((Mem.nil.push (.row 5 (Rd.int .u8) x9)).push (.row 5 (Rd.int .u8) x10)).push (.cells 47 [.lit (.int .i64 x2),.lit (.int .i64 x16),.lit (.int .i64 ((List.length x13:Nat):Int)),.lit (.int .i64 ((List.length x12.fData:Nat):Int)),.lit (.string x12.fName),.lit (.int .i64 ((List.length x9:Nat):Int))])) ?_ ?_
     · clear H;have H:=H3;clear H3;refine WP.regionD' 17 [2] [] mixed rfl ?_;refine dT 0 ?_;refine dT 1 ?_;refine dT 5 ?_;refine dT 6 ?_;refine dT 7 ?_;refine dT 10 ?_;refine dT 12 ?_;refine dT 13 ?_;refine dK 2 ?_;refine dK 8 ?_;refine dT 9 ?_;refine dK 11 ?_;refine WPD.of2 3 15 (by kernel_rfl) ?_ ?_
       · obtain ⟨x17,h5,H⟩:=bnd H;refine WPD1.eff 3 [2] [] rfl (rc [] [] 3 [] (s_bits_Crc k x12.fData x17 h5)) rfl rfl ?_;refine dT 4 ?_;refine dT 14 ?_;refine dE 15 [2] [] rfl (Does.runs (d_alloc ze47 rfl)) ?_;refine dS 16 [2] [] ?_;refine WPD.doneW (by kernel_rfl) ?_;have q0:=j1 H;subst q0;exact wq [0,1,3]
       refine WPD1.eff 15 [2] [] rfl (Does.runs (d_alloc ze47 rfl)) rfl rfl ?_;obtain ⟨x18,h6,H⟩:=bnd H;refine dE 3 [2] [] rfl (rc [] [] 4 [] (s_bits_Crc k x12.fData x18 h6)) ?_;refine dT 4 ?_;refine dT 14 ?_;refine dS 16 [2] [] ?_;refine WPD.doneW (by kernel_rfl) ?_;have q0:=j1 H;subst q0;exact wq [0,1,3]
     (iterate 5 refine sp ?_);obtain ⟨x19,h7,H⟩:=bnd H;refine WPL.c (rc [] [] 3 [] (s_zip_central k x2 x16 ((List.length x13:Nat):Int) ((List.length x12.fData:Nat):Int) x12.fName ((List.length x9:Nat):Int) x19 h7)) rfl ?_;obtain ⟨h8,H⟩:=grd H;refine WPL.d (d_append ap23 rfl rfl rfl rfl (src_ro sl23 rfl) h8 rfl) rfl ?_;(iterate 5 refine sp ?_);obtain ⟨x20,h9,H⟩:=bnd H;refine WPL.c (rc [] [] 4 [] (s_zip_local k x2 x16 ((List.length x13:Nat):Int) ((List.length x12.fData:Nat):Int) x12.fName ((List.length x9:Nat):Int) x20 h9)) rfl ?_;obtain ⟨h10,H⟩:=grd H;refine WPL.d (d_append ap23 rfl rfl rfl rfl (src_ro sl23 rfl) h10 rfl) rfl ?_;refine sp ?_;obtain ⟨h11,H⟩:=grd H;refine WPL.d (d_append ap23 rfl rfl rfl rfl (src_ro sl23 rfl) h11 rfl) rfl ?_;refine sp ?_;refine WPL.nilW ?_;refine sp ?_;refine InBlock.n ?_;(iterate 4 refine sp ?_);refine WPL.nilW ?_;exact wq [5,3] (Then.n ⟨n,((IntKind.wrap .i64 (x8+1)),((x9++x20)++x13),(x10++x19)),Nat.lt_succ_self n,H,rfl,rfl⟩)
   refine sp ?_;obtain ⟨rfl,rfl⟩:=j2 H;exact wq [0,1] (Then.x (Then.x r3))
 (iterate 11 refine sp ?_);obtain ⟨h12,H⟩:=grd H;refine WPL.d (d_append ap23 rfl rfl rfl rfl (src_row sl23 rfl rfl) h12 rfl) rfl ?_;(iterate 9 refine sp ?_);obtain ⟨x21,h13,H⟩:=bnd H;refine WPL.c (rc [] [] 3 [] (s_zip_end k ((List.length x1:Nat):Int) ((List.length x7:Nat):Int) ((List.length x6:Nat):Int) x21 h13) (hargs:=.ren rfl rfl (.ren rfl rfl (.ren rfl rfl .nil)))) rfl ?_;obtain ⟨h14,H⟩:=grd H;refine WPL.d (d_append ap23 rfl rfl rfl rfl (src_ro sl23 rfl) h14 rfl) rfl ?_;(iterate 4 refine sp ?_);obtain ⟨rfl,rfl⟩:=j2 H;exact W.now (mb [3])
theorem s_quireref05_Right (k:Nat) (x1:ByteArray) (x2:Bool) (H:g_quireref05_Right k x1=some x2):Go.Q.Spec Tryz.prog 17 0 [.lit (.string x1)] Mem.nil (fun o M=>o=.ret (.lit (.bool x2))∧M=Mem.nil):=by
 unfold g_quireref05_Right at H;refine bo Tryz.func17 [] [.tmp 2] 62 fun cx hnp=>?_;(iterate 3 refine sp ?_);refine WP.seq ?_;refine WP.seq ?_;obtain ⟨x3,H1,H⟩:=bnd H;refine mo .normal ((Env.none.upd 0 (.lit (.string x1))).upd 13 (.lit (.bool x3))) Mem.nil ?_ ?_
 · clear H;have H:=H1;clear H1;(iterate 3 refine sp ?_);obtain ⟨x4,h1,H⟩:=bnd H;refine sn (nm_bool h1) ?_;refine sp ?_;refine ws 9 H (fun hb1 H=>?_) fun hb1 H=>?_
   · (iterate 4 refine sp ?_);refine WPL.nilW ?_;have q0:=j1 H;subst q0;exact wq []
   (iterate 2 refine sp ?_);obtain ⟨x5,h2,H⟩:=bnd H;refine sn (nm_bool h2) ?_;refine sp ?_;refine WPL.nilW ?_;have q0:=j1 H;subst q0;exact wq []
 (iterate 2 refine sp ?_);refine cq H (fun hb2 H=>?_) fun hb2 H=>?_
 · (iterate 4 refine sp ?_);have q0:=j1 H;subst q0;exact W.now (Then.r (mb []))
 (iterate 6 refine sp ?_);refine WP.seq ?_;(iterate 4 refine sp ?_);refine WP.cv (Cv.weak (E':=(((Env.none.upd 0 (.lit (.string x1))).upd 3 (.lit (.string (ByteArray.mk #[])))).upd 4 (.lit (.int .i64 0)))) (M':=Mem.nil) [] hnp ⟨rfl,trivial,by decide,rfl,trivial⟩ (LeE.u (LeE.u (LeE.u (LeE.none rfl rfl))))) ?_;obtain ⟨y1,H2,H⟩:=bnd H;refine WP.monoW (Q:=fun x E M=>match (generalizing:=false) y1 with | (Sum.inl _)=>x=.ret∧E=(Env.none.upd 2 (.lit (.bool false)))∧M=Mem.nil | (Sum.inr _)=>x=.exit 0∧E=Env.none∧M=Mem.nil) ?_ ?_
 · refine WP.loop (β:=ByteArray × Int) (fun n b=>g_quireref05_Right_l0 k x1 n b.1 b.2=some y1) (fun b=>(((Env.none.upd 0 (.lit (.string x1))).upd 3 (.lit (.string b.1))).upd 4 (.lit (.int .i64 b.2)))) (fun b=>Mem.nil) k ((ByteArray.mk #[]),0) H2 rfl rfl ?_;rintro n ⟨x6,x7⟩ H;obtain _ | n:=n
   · exact nf rfl H
   rw [g_quireref05_Right_l0.eq_2] at H;show WP _ _ _ _ (((Env.none.upd 0 (.lit (.string x1))).upd 3 (.lit (.string x6))).upd 4 (.lit (.int .i64 x7))) Mem.nil _;refine WP.seq ?_;(iterate 4 refine sp ?_);obtain ⟨x8,h3,H⟩:=bnd H;refine sn (nm_bool h3) ?_;refine sp ?_;refine cq H (fun hb3 H=>?_) fun hb3 H=>?_
   · (iterate 3 refine sp ?_);refine WP.seq ?_;obtain ⟨y2,H3,H⟩:=bnd H;refine WP.monoW (Q:=fun x E M=>match (generalizing:=false) y2 with | (Sum.inl _)=>x=.ret∧E=(Env.none.upd 2 (.lit (.bool false)))∧M=Mem.nil | (Sum.inr x9)=>x=.normal∧E=(((Env.none.upd 0 (.lit (.string x1))).upd 3 (.lit (.string x9))).upd 4 (.lit (.int .i64 x7)))∧M=Mem.nil) ?_ ?_
     · clear H;have H:=H3;clear H3;refine sp ?_;refine WP.seq ?_;refine WP.seq ?_;obtain ⟨x10,H4,H⟩:=bnd H;refine mo .normal ((((Env.none.upd 0 (.lit (.string x1))).upd 3 (.lit (.string x6))).upd 4 (.lit (.int .i64 x7))).upd 29 (.lit (.bool x10))) Mem.nil ?_ ?_
       · clear H;have H:=H4;clear H4;(iterate 4 refine sp ?_);obtain ⟨x11,h4,H⟩:=bnd H;refine sn (nm_bool h4) ?_;refine sp ?_;refine ws 24 H (fun hb4 H=>?_) fun hb4 H=>?_
         · (iterate 5 refine sp ?_);refine WPL.nilW ?_;have q0:=j1 H;subst q0;exact wq []
         (iterate 2 refine sp ?_);obtain ⟨x12,h5,H⟩:=bnd H;(iterate 3 refine sp ?_);refine WPL.nilW ?_;have q0:=j1 H;subst q0;exact wq []
       (iterate 2 refine sp ?_);refine cq H (fun hb5 H=>?_) fun hb5 H=>?_
       · refine WP.seq ?_;refine WP.seq ?_;obtain ⟨x13,H5,H⟩:=bnd H;refine mo .normal (((Env.none.upd 0 (.lit (.string x1))).upd 4 (.lit (.int .i64 x7))).upd 39 (.lit (.bool x13))) Mem.nil ?_ ?_
         · clear H;have H:=H5;clear H5;(iterate 2 refine sp ?_);obtain ⟨x14,h6,H⟩:=bnd H;refine sn (nm_bool h6) ?_;refine sp ?_;refine ws 32 H (fun hb6 H=>?_) fun hb6 H=>?_
           · (iterate 7 refine sp ?_);refine WPL.nilW ?_;have q0:=j1 H;subst q0;exact wq []
           refine sp ?_;obtain ⟨x15,h7,H⟩:=bnd H;refine sn (nm_bool h7) ?_;(iterate 2 refine sp ?_);refine ws 36 H (fun hb7 H=>?_) fun hb7 H=>?_
           · (iterate 3 refine sp ?_);refine WPL.nilW ?_;have q0:=j1 H;subst q0;exact wq []
           refine sp ?_;obtain ⟨x16,h8,H⟩:=bnd H;refine sn (nm_bool h8) ?_;refine sp ?_;refine WPL.nilW ?_;have q0:=j1 H;subst q0;exact wq []
         (iterate 2 refine sp ?_);refine cq H (fun hb8 H=>?_) fun hb8 H=>?_
         · (iterate 4 refine sp ?_);have q0:=j1 H;subst q0;exact wq [] (Then.r (Then.r (InBlock.r r3)))
         (iterate 7 refine sp ?_);have q0:=j1 H;subst q0;exact wq [] (Then.x (InBlock.x0 r3))
       (iterate 6 refine sp ?_);obtain ⟨x17,h9,H⟩:=bnd H;(iterate 3 refine sp ?_);refine WP.seq ?_;refine WP.seq ?_;obtain ⟨x18,H6,H⟩:=bnd H;refine mo .normal (((((Env.none.upd 0 (.lit (.string x1))).upd 3 (.lit (.string x6))).upd 4 (.lit (.int .i64 x7))).upd 5 (.lit (.int .u8 x17))).upd 56 (.lit (.bool x18))) Mem.nil ?_ ?_
       · clear H;have H:=H6;clear H6;(iterate 4 refine sp ?_);refine ws 45 H (fun hb9 H=>?_) fun hb9 H=>?_
         · (iterate 11 refine sp ?_);refine WPL.nilW ?_;have q0:=j1 H;subst q0;exact wq []
         (iterate 4 refine sp ?_);refine ws 49 H (fun hb10 H=>?_) fun hb10 H=>?_
         · (iterate 7 refine sp ?_);refine WPL.nilW ?_;have q0:=j1 H;subst q0;exact wq []
         (iterate 4 refine sp ?_);refine ws 53 H (fun hb11 H=>?_) fun hb11 H=>?_
         · (iterate 3 refine sp ?_);refine WPL.nilW ?_;have q0:=j1 H;subst q0;exact wq []
         (iterate 3 refine sp ?_);refine WPL.nilW ?_;have q0:=j1 H;subst q0;exact wq []
       (iterate 2 refine sp ?_);refine cq H (fun hb12 H=>?_) fun hb12 H=>?_
       · (iterate 4 refine sp ?_);have q0:=j1 H;subst q0;exact wq [] (Then.r (InBlock.r r3))
       (iterate 6 refine sp ?_);refine WPL.d (d_buildSlice (ds:=([x17]:List Int)) (R:=(Rd.int .u8)) li23 rfl rfl rfl rfl rfl (JoinRows.cons1 Joins.sc rfl JoinRows.nil) rfl rfl) rfl ?_;refine WPL.qq (q_bytes_str_row Tryz.underlying23 Tryz.underlying5 Tryz.underlying9 rfl rfl) ?_;obtain ⟨h10,H⟩:=grd H;(iterate 2 refine sp ?_);refine WPL.nilW ?_;have q0:=j1 H;subst q0;exact wq [] (InBlock.n r3)
     rcases y2 with _ | x9
     · rintro _ _ _ ⟨rfl,rfl,rfl⟩;have q0:=j1 H;subst q0;exact wq [] (Then.r (Then.r r3))
     rintro _ _ _ ⟨rfl,rfl,rfl⟩;(iterate 6 refine sp ?_);refine WPL.nilW ?_;exact wq [] (Then.n ⟨n,(x9,(IntKind.wrap .i64 (x7+1))),Nat.lt_succ_self n,H,rfl,rfl⟩)
   refine sp ?_;have q0:=j1 H;subst q0;exact wq [] (Then.x (Then.x r3))
 rcases y1 with _ | _
 · rintro _ _ _ ⟨rfl,rfl,rfl⟩;have q0:=j1 H;subst q0;exact W.now (InBlock.r (Then.r (mb [])))
 rintro _ _ _ ⟨rfl,rfl,rfl⟩;(iterate 7 refine sp ?_);have q0:=j1 H;subst q0;exact W.now (mb [])
theorem s_quireref05_low (k:Nat) (x1:ByteArray) (x2:ByteArray) (H:g_quireref05_low k x1=some x2):Go.Q.Spec Tryz.prog 51 0 [.lit (.string x1)] Mem.nil (fun o M=>o=.ret (.lit (.string x2))∧M=Mem.nil):=by
 unfold g_quireref05_low at H;refine bo Tryz.func51 [] [.tmp 2] 29 fun cx hnp=>?_;(iterate 6 refine sp ?_);refine WP.seq ?_;(iterate 4 refine sp ?_);refine WP.cv (Cv.vir 5 (Rd.int .u8) (N:=0) rfl 3 rfl) ?_;refine WP.cv (Cv.weak (E':=(((Env.none.upd 0 (.lit (.string x1))).upd 3 (.whole 0)).upd 4 (.lit (.int .i64 0)))) (M':=(Mem.nil.push (.row 5 (Rd.int .u8) ([]:List Int)))) [0] hnp ⟨rfl,AA1,by decide,rfl,trivial⟩ (LeE.u (LeE.u (LeE.u (LeE.none rfl rfl))))) ?_;obtain ⟨x3,H1,H⟩:=bnd H;refine mo (.exit 0) (Env.none.upd 3 (.whole 0)) (Mem.nil.push (.row 5 (Rd.int .u8) x3)) ?_ ?_
 · refine WP.loop (β:=Int × (List Int)) (fun n b=>g_quireref05_low_l0 k x1 n b.1 b.2=some x3) (fun b=>(((Env.none.upd 0 (.lit (.string x1))).upd 3 (.whole 0)).upd 4 (.lit (.int .i64 b.1)))) (fun b=>(Mem.nil.push (.row 5 (Rd.int .u8) b.2))) k (0,([]:List Int)) H1 rfl rfl ?_;rintro n ⟨x4,x5⟩ H;obtain _ | n:=n
   · exact nf rfl H
   rw [g_quireref05_low_l0.eq_2] at H;show WP _ _ _ _ (((Env.none.upd 0 (.lit (.string x1))).upd 3 (.whole 0)).upd 4 (.lit (.int .i64 x4))) (Mem.nil.push (.row 5 (Rd.int .u8) x5)) _;refine WP.seq ?_;(iterate 4 refine sp ?_);obtain ⟨x6,h1,H⟩:=bnd H;refine sn (nm_bool h1) ?_;refine sp ?_;refine cq H (fun hb1 H=>?_) fun hb1 H=>?_
   · (iterate 3 refine sp ?_);refine WP.seq ?_;(iterate 4 refine sp ?_);obtain ⟨x7,h2,H⟩:=bnd H;(iterate 3 refine sp ?_);refine WP.seq ?_;obtain ⟨x8,H2,H⟩:=bnd H;refine mo .normal ((((Env.none.upd 0 (.lit (.string x1))).upd 3 (.whole 0)).upd 4 (.lit (.int .i64 x4))).upd 5 (.lit (.int .u8 x8))) (Mem.nil.push (.row 5 (Rd.int .u8) x5)) ?_ ?_
     · clear H;have H:=H2;clear H2;refine WP.seq ?_;obtain ⟨x9,H3,H⟩:=bnd H;refine mo .normal (((((Env.none.upd 0 (.lit (.string x1))).upd 3 (.whole 0)).upd 4 (.lit (.int .i64 x4))).upd 5 (.lit (.int .u8 x7))).upd 20 (.lit (.bool x9))) (Mem.nil.push (.row 5 (Rd.int .u8) x5)) ?_ ?_
       · clear H;have H:=H3;clear H3;(iterate 4 refine sp ?_);refine ws 17 H (fun hb2 H=>?_) fun hb2 H=>?_
         · (iterate 3 refine sp ?_);refine WPL.nilW ?_;have q0:=j1 H;subst q0;exact wq [0]
         (iterate 3 refine sp ?_);refine WPL.nilW ?_;have q0:=j1 H;subst q0;exact wq [0]
       (iterate 2 refine sp ?_);refine cq H (fun hb3 H=>?_) fun hb3 H=>?_
       · (iterate 4 refine sp ?_);refine WPL.nilW ?_;have q0:=j1 H;subst q0;exact wq [0]
       refine sp ?_;have q0:=j1 H;subst q0;exact wq [0]
     (iterate 5 refine sp ?_);refine WPL.d (d_buildSlice (ds:=([x8]:List Int)) (R:=(Rd.int .u8)) li23 rfl rfl rfl rfl rfl (JoinRows.cons1 Joins.sc rfl JoinRows.nil) rfl rfl) rfl ?_;obtain ⟨h3,H⟩:=grd H;refine WPL.d (d_append ap23 rfl rfl rfl rfl (src_row sl23 rfl rfl) h3 rfl) rfl ?_;refine sp ?_;refine WPL.nilW ?_;refine sp ?_;refine InBlock.n ?_;(iterate 5 refine sp ?_);refine WPL.nilW ?_;exact wq [2] (Then.n ⟨n,((IntKind.wrap .i64 (x4+1)),(x5++([x8]:List Int))),Nat.lt_succ_self n,H,rfl,rfl⟩)
   refine sp ?_;have q0:=j1 H;subst q0;exact wq [0] (Then.x (Then.x r3))
 (iterate 5 refine sp ?_);refine WPL.qq (q_bytes_str_row Tryz.underlying23 Tryz.underlying5 Tryz.underlying9 rfl rfl) ?_;(iterate 3 refine sp ?_);have q0:=j1 H;subst q0;exact W.now (mb [])
theorem s_quireref05_Like (k:Nat) (x1:ByteArray) (x2:ByteArray) (x3:Bool) (H:g_quireref05_Like k x1 x2=some x3):Go.Q.Spec Tryz.prog 25 0 [.lit (.string x1),.lit (.string x2)] Mem.nil (fun o M=>o=.ret (.lit (.bool x3))∧M=Mem.nil):=by
 unfold g_quireref05_Like at H;refine bo Tryz.func25 [] [.tmp 4] 10 fun cx hnp=>?_;(iterate 5 refine sp ?_);obtain ⟨x4,h1,H⟩:=bnd H;refine WPL.c (rc [] [] 0 [] (s_quireref05_low k x1 x4 h1)) rfl ?_;refine sp ?_;obtain ⟨x5,h2,H⟩:=bnd H;refine WPL.c (rc [] [] 0 [] (s_quireref05_low k x2 x5 h2)) rfl ?_;(iterate 4 refine sp ?_);have q0:=j1 H;subst q0;exact W.now (mb [])
theorem s_quireref05_Check (k:Nat) (x1:(List S_api_File)) (x2:Int) (x3:Int) (H:g_quireref05_Check k x1 x2=some x3):Go.Q.Spec Tryz.prog 9 0 [.ro (Rd.slice rdS_api_File) false x1,.lit (.int .i64 x2)] Mem.nil (fun o M=>o=.ret (.lit (.int .i64 x3))∧M=Mem.nil):=by
 unfold g_quireref05_Check at H;refine bo Tryz.func9 [] [.tmp 4] 66 fun cx hnp=>?_;(iterate 3 refine sp ?_);refine WP.seq ?_;refine WP.seq ?_;obtain ⟨x4,H1,H⟩:=bnd H;refine mo .normal ((Env.none.upd 0 (.ro (Rd.slice rdS_api_File) false x1)).upd 14 (.lit (.bool x4))) Mem.nil ?_ ?_
 · clear H;have H:=H1;clear H1;(iterate 4 refine sp ?_);refine ws 11 H (fun hb1 H=>?_) fun hb1 H=>?_
   · (iterate 3 refine sp ?_);refine WPL.nilW ?_;have q0:=j1 H;subst q0;exact wq []
   (iterate 3 refine sp ?_);refine WPL.nilW ?_;have q0:=j1 H;subst q0;exact wq []
 (iterate 2 refine sp ?_);refine cq H (fun hb2 H=>?_) fun hb2 H=>?_
 · (iterate 4 refine sp ?_);have q0:=j1 H;subst q0;exact W.now (Then.r (mb []))
 (iterate 3 refine sp ?_);refine WP.seq ?_;(iterate 3 refine sp ?_);obtain ⟨x5,h1,H⟩:=bnd H;refine sn (nm_bool h1) ?_;refine sp ?_;refine cq H (fun hb3 H=>?_) fun hb3 H=>?_
 · (iterate 4 refine sp ?_);have q0:=j1 H;subst q0;exact W.now (Then.r (mb []))
 (iterate 3 refine sp ?_);refine WP.seq ?_;(iterate 4 refine sp ?_);refine WP.cv (Cv.weak (E':=((Env.none.upd 0 (.ro (Rd.slice rdS_api_File) false x1)).upd 5 (.lit (.int .i64 0)))) (M':=Mem.nil) [] hnp ⟨rfl,trivial,by decide,rfl,trivial⟩ (LeE.u (LeE.u (LeE.none rfl rfl)))) ?_;obtain ⟨y1,H2,H⟩:=bnd H;refine WP.monoW (Q:=fun x E M=>match (generalizing:=false) y1 with | (Sum.inl _)=>x=.ret∧E=(Env.none.upd 4 (.lit (.int .i64 3)))∧M=Mem.nil | (Sum.inr _)=>x=.exit 0∧E=(Env.none.upd 0 (.ro (Rd.slice rdS_api_File) false x1))∧M=Mem.nil) ?_ ?_
 · refine WP.loop (β:=Int) (fun n b=>g_quireref05_Check_l0 k x1 n b=some y1) (fun b=>((Env.none.upd 0 (.ro (Rd.slice rdS_api_File) false x1)).upd 5 (.lit (.int .i64 b)))) (fun b=>Mem.nil) k 0 H2 rfl rfl ?_;rintro n x6 H;obtain _ | n:=n
   · exact nf rfl H
   rw [g_quireref05_Check_l0.eq_2] at H;show WP _ _ _ _ ((Env.none.upd 0 (.ro (Rd.slice rdS_api_File) false x1)).upd 5 (.lit (.int .i64 x6))) Mem.nil _;refine WP.seq ?_;(iterate 4 refine sp ?_);obtain ⟨x7,h2,H⟩:=bnd H;refine sn (nm_bool h2) ?_;refine sp ?_;refine cq H (fun hb4 H=>?_) fun hb4 H=>?_
   · (iterate 3 refine sp ?_);refine WP.seq ?_;(iterate 4 refine sp ?_);obtain ⟨x8,h3,H⟩:=bnd H;refine sp ?_;refine WPL.qq (q_fieldAddr_ro fi41_1 rfl rfl S_api_File.p1 (Nat.le_of_ble_eq_true rfl)) ?_;refine WPL.qq (q_load_ro sc23 rfl rfl) ?_;refine sp ?_;obtain ⟨x9,h4,H⟩:=bnd H;refine sn (nm_bool h4) ?_;refine sp ?_;refine cq H (fun hb5 H=>?_) fun hb5 H=>?_
     · (iterate 4 refine sp ?_);have q0:=j1 H;subst q0;exact wq [] (InBlock.r (Then.r (Then.r r3)))
     (iterate 2 refine sp ?_);refine InBlock.n ?_;(iterate 5 refine sp ?_);refine WPL.nilW ?_;exact wq [] (Then.n ⟨n,(IntKind.wrap .i64 (x6+1)),Nat.lt_succ_self n,H,rfl,rfl⟩)
   refine sp ?_;have q0:=j1 H;subst q0;exact wq [] (Then.x (Then.x r3))
 rcases y1 with _ | _
 · rintro _ _ _ ⟨rfl,rfl,rfl⟩;have q0:=j1 H;subst q0;exact W.now (InBlock.r (Then.r (mb [])))
 rintro _ _ _ ⟨rfl,rfl,rfl⟩;(iterate 3 refine sp ?_);refine WP.seq ?_;(iterate 4 refine sp ?_);refine WP.cv (Cv.weak (E':=((Env.none.upd 0 (.ro (Rd.slice rdS_api_File) false x1)).upd 6 (.lit (.int .i64 0)))) (M':=Mem.nil) [] hnp ⟨rfl,trivial,by decide,rfl,trivial⟩ (LeE.u (LeE.u (LeE.none rfl rfl)))) ?_;obtain ⟨y2,H3,H⟩:=bnd H;refine WP.monoW (Q:=fun x E M=>match (generalizing:=false) y2 with | (Sum.inl _)=>x=.ret∧E=(Env.none.upd 4 (.lit (.int .i64 42)))∧M=Mem.nil | (Sum.inr _)=>x=.exit 2∧E=(Env.none.upd 0 (.ro (Rd.slice rdS_api_File) false x1))∧M=Mem.nil) ?_ ?_
 · refine WP.loop (β:=Int) (fun n b=>g_quireref05_Check_l1 k x1 n b=some y2) (fun b=>((Env.none.upd 0 (.ro (Rd.slice rdS_api_File) false x1)).upd 6 (.lit (.int .i64 b)))) (fun b=>Mem.nil) k 0 H3 rfl rfl ?_;rintro n x10 H;obtain _ | n:=n
   · exact nf rfl H
   rw [g_quireref05_Check_l1.eq_2] at H;show WP _ _ _ _ ((Env.none.upd 0 (.ro (Rd.slice rdS_api_File) false x1)).upd 6 (.lit (.int .i64 x10))) Mem.nil _;refine WP.seq ?_;(iterate 4 refine sp ?_);obtain ⟨x11,h5,H⟩:=bnd H;refine sn (nm_bool h5) ?_;refine sp ?_;refine cq H (fun hb6 H=>?_) fun hb6 H=>?_
   · (iterate 3 refine sp ?_);refine WP.seq ?_;(iterate 4 refine sp ?_);obtain ⟨x12,h6,H⟩:=bnd H;refine sp ?_;refine WPL.qq (q_fieldAddr_ro fi41_0 rfl rfl S_api_File.p0 (Nat.le_of_ble_eq_true rfl)) ?_;refine sp ?_;obtain ⟨x13,h6,H⟩:=bnd H;refine WPL.c (rc [] [] 0 [] (s_quireref05_Right k x12.fName x13 h6)) rfl ?_;(iterate 2 refine sp ?_);refine cq H (fun hb7 H=>?_) fun hb7 H=>?_
     · (iterate 4 refine sp ?_);have q0:=j1 H;subst q0;exact wq [] (InBlock.r (Then.r (Then.r r3)))
     (iterate 2 refine sp ?_);refine InBlock.n ?_;(iterate 5 refine sp ?_);refine WPL.nilW ?_;exact wq [] (Then.n ⟨n,(IntKind.wrap .i64 (x10+1)),Nat.lt_succ_self n,H,rfl,rfl⟩)
   refine sp ?_;have q0:=j1 H;subst q0;exact wq [] (Then.x (Then.x r3))
 rcases y2 with _ | _
 · rintro _ _ _ ⟨rfl,rfl,rfl⟩;have q0:=j1 H;subst q0;exact W.now (InBlock.r (Then.r (mb [])))
 rintro _ _ _ ⟨rfl,rfl,rfl⟩;(iterate 3 refine sp ?_);refine WP.seq ?_;(iterate 4 refine sp ?_);refine WP.cv (Cv.weak (E':=((Env.none.upd 0 (.ro (Rd.slice rdS_api_File) false x1)).upd 7 (.lit (.int .i64 0)))) (M':=Mem.nil) [] hnp ⟨rfl,trivial,by decide,rfl,trivial⟩ (LeE.u (LeE.u (LeE.none rfl rfl)))) ?_;obtain ⟨y3,H4,H⟩:=bnd H;refine WP.monoW (Q:=fun x E M=>match (generalizing:=false) y3 with | (Sum.inl _)=>x=.ret∧E=(Env.none.upd 4 (.lit (.int .i64 43)))∧M=Mem.nil | (Sum.inr _)=>x=.exit 4∧E=Env.none∧M=Mem.nil) ?_ ?_
 · refine WP.loop (β:=Int) (fun n b=>g_quireref05_Check_l2 k x1 n b=some y3) (fun b=>((Env.none.upd 0 (.ro (Rd.slice rdS_api_File) false x1)).upd 7 (.lit (.int .i64 b)))) (fun b=>Mem.nil) k 0 H4 rfl rfl ?_;rintro n x14 H;obtain _ | n:=n
   · exact nf rfl H
   rw [g_quireref05_Check_l2.eq_2] at H;show WP _ _ _ _ ((Env.none.upd 0 (.ro (Rd.slice rdS_api_File) false x1)).upd 7 (.lit (.int .i64 x14))) Mem.nil _;refine WP.seq ?_;(iterate 4 refine sp ?_);obtain ⟨x15,h7,H⟩:=bnd H;refine sn (nm_bool h7) ?_;refine sp ?_;refine cq H (fun hb8 H=>?_) fun hb8 H=>?_
   · (iterate 3 refine sp ?_);refine WP.seq ?_;(iterate 5 refine sp ?_);refine WP.cv (Cv.weak (E':=(((Env.none.upd 0 (.ro (Rd.slice rdS_api_File) false x1)).upd 7 (.lit (.int .i64 x14))).upd 8 (.lit (.int .i64 0)))) (M':=Mem.nil) [] hnp ⟨rfl,trivial,by decide,rfl,trivial⟩ (LeE.u (LeE.u (LeE.u (LeE.none rfl rfl))))) ?_;obtain ⟨y4,H5,H⟩:=bnd H;refine WP.monoW (Q:=fun x E M=>match (generalizing:=false) y4 with | (Sum.inl _)=>x=.ret∧E=(Env.none.upd 4 (.lit (.int .i64 43)))∧M=Mem.nil | (Sum.inr _)=>x=.exit 6∧E=((Env.none.upd 0 (.ro (Rd.slice rdS_api_File) false x1)).upd 7 (.lit (.int .i64 x14)))∧M=Mem.nil) ?_ ?_
     · refine WP.loop (β:=Int) (fun n b=>g_quireref05_Check_l3 k x1 x14 n b=some y4) (fun b=>(((Env.none.upd 0 (.ro (Rd.slice rdS_api_File) false x1)).upd 7 (.lit (.int .i64 x14))).upd 8 (.lit (.int .i64 b)))) (fun b=>Mem.nil) k 0 H5 rfl rfl ?_;rintro n x16 H;obtain _ | n:=n
       · exact nf rfl H
       rw [g_quireref05_Check_l3.eq_2] at H;show WP _ _ _ _ (((Env.none.upd 0 (.ro (Rd.slice rdS_api_File) false x1)).upd 7 (.lit (.int .i64 x14))).upd 8 (.lit (.int .i64 x16))) Mem.nil _;refine WP.seq ?_;(iterate 5 refine sp ?_);refine cq H (fun hb9 H=>?_) fun hb9 H=>?_
       · (iterate 3 refine sp ?_);refine WP.seq ?_;refine sp ?_;refine WP.seq ?_;refine WP.regionD' 11 [] [] mixed rfl ?_;refine dT 0 ?_;refine dT 1 ?_;obtain ⟨x17,h8,H⟩:=bnd H;refine dT 2 ?_;refine WPD.tT 3 rfl (q_fieldAddr_ro fi41_0 rfl rfl S_api_File.p0 (Nat.le_of_ble_eq_true rfl)) ?_;refine dT 4 ?_;refine dT 5 ?_;refine dT 6 ?_;obtain ⟨x18,h9,H⟩:=bnd H;refine dT 7 ?_;refine WPD.tT 8 rfl (q_fieldAddr_ro fi41_0 rfl rfl S_api_File.p0 (Nat.le_of_ble_eq_true rfl)) ?_;refine dT 9 ?_;obtain ⟨x19,h9,H⟩:=bnd H;refine dE 10 [] [] rfl (rc [] [] 0 [] (s_quireref05_Like k x17.fName x18.fName x19 h9)) ?_;refine WPD.doneW (by kernel_rfl) ?_;(iterate 2 refine sp ?_);refine cq H (fun hb10 H=>?_) fun hb10 H=>?_
         · (iterate 4 refine sp ?_);have q0:=j1 H;subst q0;exact wq [] (InBlock.r (Then.r (Then.r r3)))
         (iterate 2 refine sp ?_);refine InBlock.n ?_;(iterate 5 refine sp ?_);refine WPL.nilW ?_;exact wq [] (Then.n ⟨n,(IntKind.wrap .i64 (x16+1)),Nat.lt_succ_self n,H,rfl,rfl⟩)
       refine sp ?_;have q0:=j1 H;subst q0;exact wq [] (Then.x (Then.x r3))
     rcases y4 with _ | _
     · rintro _ _ _ ⟨rfl,rfl,rfl⟩;have q0:=j1 H;subst q0;exact wq [] (InBlock.r (InBlock.r (Then.r (Then.r r3))))
     rintro _ _ _ ⟨rfl,rfl,rfl⟩;(iterate 2 refine sp ?_);refine InBlock.n ?_;(iterate 5 refine sp ?_);refine WPL.nilW ?_;exact wq [] (Then.n ⟨n,(IntKind.wrap .i64 (x14+1)),Nat.lt_succ_self n,H,rfl,rfl⟩)
   refine sp ?_;have q0:=j1 H;subst q0;exact wq [] (Then.x (Then.x r3))
 rcases y3 with _ | _
 · rintro _ _ _ ⟨rfl,rfl,rfl⟩;have q0:=j1 H;subst q0;exact W.now (InBlock.r (Then.r (mb [])))
 rintro _ _ _ ⟨rfl,rfl,rfl⟩;(iterate 7 refine sp ?_);have q0:=j1 H;subst q0;exact W.now (mb [])
theorem s_zip_num (k:Nat) (x1:(List Int)) (x2:Int) (x3:Int) (x4:Int) (H:g_zip_num k x1 x2 x3=some x4):Go.Q.Spec Tryz.prog 55 0 [.ro (Rd.slice (Rd.int .u8)) true x1,.lit (.int .i64 x2),.lit (.int .i64 x3)] Mem.nil (fun o M=>o=.ret (.lit (.int .i64 x4))∧M=Mem.nil):=by
 unfold g_zip_num at H;refine bo Tryz.func55 [] [.tmp 6] 26 fun cx hnp=>?_;(iterate 6 refine sp ?_);refine WP.seq ?_;(iterate 6 refine sp ?_);refine WP.cv (Cv.weak (E':=((((Env.none.upd 0 (.ro (Rd.slice (Rd.int .u8)) true x1)).upd 1 (.lit (.int .i64 x2))).upd 7 (.lit (.int .i64 0))).upd 8 (.lit (.int .i64 (IntKind.wrap .i64 (x3 - 1)))))) (M':=Mem.nil) [] hnp ⟨rfl,trivial,by decide,rfl,trivial⟩ (LeE.u (LeE.u (LeE.u (LeE.u (LeE.none rfl rfl)))))) ?_;obtain ⟨x5,H1,H⟩:=bnd H;refine mo (.exit 0) (Env.none.upd 7 (.lit (.int .i64 x5))) Mem.nil ?_ ?_
 · refine WP.loop (β:=Int × Int) (fun n b=>g_zip_num_l0 k x1 x2 n b.1 b.2=some x5) (fun b=>((((Env.none.upd 0 (.ro (Rd.slice (Rd.int .u8)) true x1)).upd 1 (.lit (.int .i64 x2))).upd 7 (.lit (.int .i64 b.1))).upd 8 (.lit (.int .i64 b.2)))) (fun b=>Mem.nil) k (0,(IntKind.wrap .i64 (x3 - 1))) H1 rfl rfl ?_;rintro n ⟨x6,x7⟩ H;obtain _ | n:=n
   · exact nf rfl H
   rw [g_zip_num_l0.eq_2] at H;show WP _ _ _ _ ((((Env.none.upd 0 (.ro (Rd.slice (Rd.int .u8)) true x1)).upd 1 (.lit (.int .i64 x2))).upd 7 (.lit (.int .i64 x6))).upd 8 (.lit (.int .i64 x7))) Mem.nil _;refine WP.seq ?_;(iterate 4 refine sp ?_);refine cq H (fun hb1 H=>?_) fun hb1 H=>?_
   · (iterate 3 refine sp ?_);refine WP.seq ?_;(iterate 8 refine sp ?_);obtain ⟨x8,h1,H⟩:=bnd H;(iterate 3 refine sp ?_);obtain ⟨x9,h2,H⟩:=bnd H;refine sn (nm_int h2) ?_;refine sp ?_;refine WPL.nilW ?_;refine sp ?_;refine InBlock.n ?_;(iterate 5 refine sp ?_);refine WPL.nilW ?_;exact wq [] (Then.n ⟨n,(x9,(IntKind.wrap .i64 (x7 - 1))),Nat.lt_succ_self n,H,rfl,rfl⟩)
   refine sp ?_;have q0:=j1 H;subst q0;exact wq [] (Then.x (Then.x r3))
 (iterate 8 refine sp ?_);have q0:=j1 H;subst q0;exact W.now (mb [])
theorem s_sl_HasPrefix (k:Nat) (x1:ByteArray) (x2:ByteArray) (x3:Bool) (H:g_sl_HasPrefix k x1 x2=some x3):Go.Q.Spec Tryz.prog 88 0 [.lit (.string x1),.lit (.string x2)] Mem.nil (fun o M=>o=.ret (.lit (.bool x3))∧M=Mem.nil):=by
 unfold g_sl_HasPrefix at H;refine bo Tryz.func88 [] [.tmp 4] 18 fun cx hnp=>?_;(iterate 3 refine sp ?_);refine WP.seq ?_;obtain ⟨x4,H1,H⟩:=bnd H;refine mo .normal (Env.none.upd 4 (.lit (.bool x4))) Mem.nil ?_ ?_
 · clear H;have H:=H1;clear H1;(iterate 5 refine sp ?_);obtain ⟨x5,h1,H⟩:=bnd H;refine sn (nm_bool h1) ?_;refine sp ?_;refine ws 10 H (fun hb1 H=>?_) fun hb1 H=>?_
   · (iterate 3 refine sp ?_);obtain ⟨h2,H⟩:=grd H;obtain ⟨x6,h3,H⟩:=bnd H;refine WPL.gq rfl (lb hb1) (q_nm (q_slice_str (i:=0) (j:=((ByteArray.size x2:Nat):Int)) Tryz.underlying9 rfl rfl ⟨_,rfl⟩ h2) (nm_str h3)) ?_;(iterate 4 refine sp ?_);refine WPL.nilW ?_;have q0:=j1 H;subst q0;exact wq []
   (iterate 8 refine sp ?_);refine WPL.nilW ?_;have q0:=j1 H;subst q0;exact wq []
 (iterate 3 refine sp ?_);have q0:=j1 H;subst q0;exact W.now (mb [])
theorem s_st_HasPrefix (k:Nat) (x1:ByteArray) (x2:ByteArray) (x3:Bool) (H:g_st_HasPrefix k x1 x2=some x3):Go.Q.Spec Tryz.prog 59 0 [.lit (.string x1),.lit (.string x2)] Mem.nil (fun o M=>o=.ret (.lit (.bool x3))∧M=Mem.nil):=by
 unfold g_st_HasPrefix at H;refine bo Tryz.func59 [] [.tmp 4] 8 fun cx hnp=>?_;(iterate 6 refine sp ?_);obtain ⟨x4,h1,H⟩:=bnd H;refine WPL.c (rc [] [] 0 [] (s_sl_HasPrefix k x1 x2 x4 h1)) rfl ?_;(iterate 3 refine sp ?_);have q0:=j1 H;subst q0;exact W.now (mb [])
theorem s_zip_begins (k:Nat) (x1:(List Int)) (x2:(List Int)) (x3:Bool) (H:g_zip_begins k x1 x2=some x3):Go.Q.Spec Tryz.prog 32 0 [.ro (Rd.slice (Rd.int .u8)) true x1,.ro (Rd.slice (Rd.int .u8)) false x2] Mem.nil (fun o M=>o=.ret (.lit (.bool x3))∧M=Mem.nil):=by
 unfold g_zip_begins at H;refine bo Tryz.func32 [] [.tmp 4] 10 fun cx hnp=>?_;(iterate 5 refine sp ?_);refine WPL.qq (q_bytes_str Tryz.underlying23 Tryz.underlying5 Tryz.underlying9 rfl) ?_;refine sp ?_;refine WPL.qq (q_bytes_str Tryz.underlying23 Tryz.underlying5 Tryz.underlying9 rfl) ?_;obtain ⟨x4,h1,H⟩:=bnd H;refine WPL.c (rc [] [] 0 [] (s_st_HasPrefix k (strOf x1) (strOf x2) x4 h1)) rfl ?_;(iterate 3 refine sp ?_);have q0:=j1 H;subst q0;exact W.now (mb [])
theorem s_zip_entries (k:Nat) (x1:(List Int)) (x2:Int) (x3:Int) (H:g_zip_entries k x1 x2 x3=some ()):Go.Q.Spec Tryz.prog 56 1 [.ro (Rd.slice (Rd.int .u8)) true x1,.lit (.int .i64 x2),.ptr 0 0] (Mem.nil.push (.cells 3 [.lit (.int .i64 x3)])) (fun o M=>o=.ret (.fn 84 [.ptr 1 0,.ptr 2 0,.ptr 3 0])∧M=((((Mem.nil.push (.cells 3 [.lit (.int .i64 x3)])).push (.cells 3 [.lit (.int .i64 x2)])).push (.cells 23 [.ro (Rd.slice (Rd.int .u8)) true x1])).push (.cells 90 [.ptr 0 0]))):=by
 unfold g_zip_entries at H;refine bo Tryz.func56 [] [.tmp 6] 8 fun cx hnp=>?_;(iterate 7 refine sp ?_);refine WPL.qq (q_makeFunc) ?_;(iterate 3 refine sp ?_);exact W.now (mb [0,2,1,3])
theorem s_zip_directory (k:Nat) (x1:(List Int)) (x2:(List S_zip_entry)) (x3:Int) (x4:Int) (H:g_zip_directory k x1=some (x2,x3,x4)):Go.Q.Spec Tryz.prog 30 0 [.ro (Rd.slice (Rd.int .u8)) true x1] Mem.nil (fun o M=>o=.ret (.tup [.ro (Rd.slice rdS_zip_entry) false x2,.lit (.int .i64 x3),.lit (.int .i64 x4)])∧M=(((Mem.nil.push (.cells 56 [.ro (Rd.slice rdS_zip_entry) false x2])).push (.cells 3 [.lit (.int .i64 x3)])).push (.cells 24 [.lit (.int .i64 x4)]))):=by
 unfold g_zip_directory at H;refine Go.Q.Spec.of_bodyR (az:=[]) (rs:=[.cell 2 56,.cell 3 3,.cell 4 24]) (nt:=72) Tryz.func30 rfl rfl (by intro t T h;simp at h;rcases h with ⟨rfl,rfl⟩ | ⟨rfl,rfl⟩ | ⟨rfl,rfl⟩ <;> first | exact sc56 | exact sc3 | exact sc24) rfl rfl fun cx hnp=>?_
 (iterate 5 refine sp ?_);refine WP.seq ?_;(iterate 3 refine sp ?_);obtain ⟨x5,h1,H⟩:=bnd H;refine sn (nm_bool h1) ?_;refine sp ?_;refine cq H (fun hb1 H=>?_) fun hb1 H=>?_
 · (iterate 6 refine sp ?_);refine W.cv (Cv.nilRoC rdS_zip_entry false (i:=0) (off:=0) rfl rfl rfl) rfl ?_;obtain ⟨rfl,rfl,rfl⟩:=j3 H;exact W.now (Then.r (mb [0,1,2]))
 (iterate 3 refine sp ?_);refine WP.seq ?_;(iterate 3 refine sp ?_);obtain ⟨x6,h2,H⟩:=bnd H;refine sn (nm_bool h2) ?_;refine sp ?_;refine cq H (fun hb2 H=>?_) fun hb2 H=>?_
 · (iterate 6 refine sp ?_);refine W.cv (Cv.nilRoC rdS_zip_entry false (i:=0) (off:=0) rfl rfl rfl) rfl ?_;obtain ⟨rfl,rfl,rfl⟩:=j3 H;exact W.now (Then.r (mb [0,1,2]))
 (iterate 6 refine sp ?_);obtain ⟨x7,h3,H⟩:=bnd H;refine sn (nm_int h3) ?_;(iterate 6 refine sp ?_);obtain ⟨x8,h3,H⟩:=bnd H;refine WPL.c (rc [] [] 3 [] (s_zip_num k x1 (IntKind.wrap .i64 (x7+8)) 2 x8 h3) (hargs:=.ren rfl rfl (.ren rfl rfl (.ren rfl rfl .nil)))) rfl ?_;(iterate 3 refine sp ?_);obtain ⟨x9,h4,H⟩:=bnd H;refine WPL.c (rc [] [] 3 [] (s_zip_num k x1 (IntKind.wrap .i64 (x7+12)) 4 x9 h4) (hargs:=.ren rfl rfl (.ren rfl rfl (.ren rfl rfl .nil)))) rfl ?_;(iterate 3 refine sp ?_);obtain ⟨x10,h5,H⟩:=bnd H;refine WPL.c (rc [] [] 3 [] (s_zip_num k x1 (IntKind.wrap .i64 (x7+16)) 4 x10 h5) (hargs:=.ren rfl rfl (.ren rfl rfl (.ren rfl rfl .nil)))) rfl ?_;(iterate 4 refine sp ?_);refine WP.seq ?_;refine WP.seq ?_;obtain ⟨x11,H1,H⟩:=bnd H;refine mo .normal ((((((((Env.none.upd 0 (.ro (Rd.slice (Rd.int .u8)) true x1)).upd 2 (.ptr 0 0)).upd 3 (.ptr 1 0)).upd 4 (.ptr 2 0)).upd 5 (.lit (.int .i64 x7))).upd 6 (.lit (.int .i64 x8))).upd 8 (.lit (.int .i64 x10))).upd 53 (.lit (.bool x11))) (((Mem.nil.push (.cells 56 [.lit (.slice none 0 0)])).push (.cells 3 [.lit (.int .i64 0)])).push (.cells 24 [.lit (.int .i64 0)])) ?_ ?_
 · clear H;have H:=H1;clear H1;refine WP.regionD' 20 [] [] mixed rfl ?_;refine dT 0 ?_;refine dT 1 ?_;obtain ⟨h6,H⟩:=grd H;refine WPD.tT 2 rfl (q_slice_ro (i:=x7) (j:=((List.length x1:Nat):Int)) sl23 rfl rfl ⟨_,rfl⟩ rfl h6) ?_;refine dT 3 ?_;refine dT 4 ?_;refine dT 5 ?_;obtain ⟨x12,h7,H⟩:=bnd H;refine dE 6 [] [] rfl (rc [] [] 3 [] (s_zip_end k x8 x9 x10 x12 h7) (hargs:=.ren rfl rfl (.ren rfl rfl (.ren rfl rfl .nil)))) ?_;obtain ⟨x13,h8,H⟩:=bnd H;refine dE 7 [] [] rfl (rc [] [] 3 [] (s_zip_begins k (List.drop (Int.toNat x7) (List.take (Int.toNat ((List.length x1:Nat):Int)) x1)) x12 x13 h8)) ?_;refine dT 8 ?_;refine dT 9 ?_;refine ds 43 H (fun hb3 H=>?_) fun hb3 H=>?_
   · refine dP true 10 ?_;refine dP true 11 ?_;refine dT 12 ?_;refine dT 13 ?_;refine dP true 14 ?_;refine dP true 15 ?_;refine dP true 16 ?_;refine dP true 17 ?_;refine dP true 18 ?_;refine dT 19 ?_;refine WPD.doneW (by kernel_rfl) ?_;have q0:=j1 H;subst q0;exact wq [0,1,2]
   refine dG 10 ?_;refine dG 11 ?_;refine dT 12 ?_;refine dT 13 ?_;refine ds 47 H (fun hb4 H=>?_) fun hb4 H=>?_
   · refine dP true 14 ?_;refine dP true 15 ?_;refine dP true 16 ?_;refine dP true 17 ?_;refine dP true 18 ?_;refine dT 19 ?_;refine WPD.doneW (by kernel_rfl) ?_;have q0:=j1 H;subst q0;exact wq [0,1,2]
   refine dG 14 ?_;refine dG 15 ?_;refine dG 16 ?_;refine dG 17 ?_;obtain ⟨x14,h9,H⟩:=bnd H;refine dG 18 ?_ rfl rfl gv (q_nm aq (nm_bool h9));refine dT 19 ?_;refine WPD.doneW (by kernel_rfl) ?_;have q0:=j1 H;subst q0;exact wq [0,1,2]
 (iterate 2 refine sp ?_);refine cq H (fun hb5 H=>?_) fun hb5 H=>?_
 · (iterate 6 refine sp ?_);refine W.cv (Cv.nilRoC rdS_zip_entry false (i:=0) (off:=0) rfl rfl rfl) rfl ?_;obtain ⟨rfl,rfl,rfl⟩:=j3 H;exact W.now (Then.r (mb [0,1,2]))
 (iterate 10 refine sp ?_);refine WP.seq ?_;(iterate 4 refine sp ?_);obtain ⟨h10,H⟩:=grd H;refine WPL.qq (q_slice_ro (i:=x10) (j:=x7) sl23 rfl rfl ⟨_,rfl⟩ ⟨_,rfl⟩ h10) ?_;refine sp ?_;obtain ⟨_,h11,H⟩:=bnd H;refine WPL.c (rc [4] [4,5,6,7] 8 [] (s_zip_entries k (List.drop (Int.toNat x10) (List.take (Int.toNat x7) x1)) x8 (-1) h11) (hargs:=.ren rfl rfl (.ren rfl rfl (.ren rfl rfl .nil)))) rfl ?_;(iterate 2 refine sp ?_);refine WP.cv (Cv.nullMark (N:=8) rfl rfl) ?_;refine WP.range (nti:=58) (n:=9) rfl rfl Tryz.func84 rfl (by kernel_rfl) rfl rfl rfl rfl fun l_1 r_1 aC1 hp1 ha1 hb6 ht1 hs1 hf1=>?_;refine WP.seq ?_;(iterate 5 refine sp ?_);refine WP.cv (Cv.virC 47 rdS_zip_entry (N:=11) rfl rfl (i:=3) (off:=0) rfl rfl) ?_;refine WP.cv (Cv.weak (E':=((((((⟨fun _=>.any,[],[⟨aC1,((((((((Env.none.upd 2 (.ptr 3 0)).upd 3 (.ptr 4 0)).upd 4 (.ptr 5 0)).upd 8 (.lit (.int .i64 x10))).upd 9 (.ptr 6 0)).upd 10 (.ptr 2 0)).upd 59 (.fn 84 [.ptr 8 0,.ptr 0 0,.ptr 1 0]))).v,[9,10],some (11,l_1)⟩],[]⟩:Env).upd 0 (.lit (.func (.yield l_1) #[] #[]))).upd 2 (.ptr 0 0)).upd 3 (.ptr 1 0)).upd 7 (.lit (.int .i64 x8))).upd 8 (.lit (.int .i64 0)))) (M':=((((((((((((Mem.nil.push (.cells 23 [.ro (Rd.slice (Rd.int .u8)) true (List.drop (Int.toNat x10) (List.take (Int.toNat x7) x1))])).push (.cells 90 [.ptr 2 0])).push (.cells 3 [.lit (.int .i64 (-1))])).push (.cells 56 [.lit (.slice none 0 0)])).push (.cells 3 [.lit (.int .i64 0)])).push (.cells 24 [.lit (.int .i64 0)])).push (.cells 56 [.whole 7])).push (.row 47 rdS_zip_entry ([]:List S_zip_entry))).push (.cells 3 [.lit (.int .i64 x8)])).push (.obj (Obj.deferred (some [])))).push (.bag)).push (.obj (lp r_1 .ready none)))) [6,7,4,0,1,2,3,11,5,9,8,10] hnp ⟨rfl,⟨⟨AA10,o3⟩,o3⟩,by decide,rfl,trivial⟩ (LeE.u (LeE.u (LeE.u (LeE.u (LeE.u (LeE.noneD rfl rfl (.cons ⟨rfl,(LeV.upd rfl rfl (LeV.upd rfl rfl (LeV.upd rfl rfl (LeV.upd rfl rfl (LeV.upd rfl rfl (LeV.upd rfl rfl (LeV.upd rfl rfl LeV.none))))))),rfl,rfl,rfl,rfl⟩ .nil)))))))) ?_;obtain ⟨y1,H2,H⟩:=bnd H;refine WP.monoW (Q:=fun x E M=>match (generalizing:=false) y1 with | (Sum.inl (x15,x16))=>x=.ret∧E=(⟨fun _=>.any,[],[⟨aC1,((((((((Env.none.upd 2 (.ptr 0 0)).upd 3 (.ptr 1 0)).upd 4 (.ptr 2 0)).upd 8 (.lit (.int .i64 x10))).upd 9 (.ptr 3 0)).upd 10 (.ptr 5 0)).upd 59 (.fn 84 [.ptr 6 0,.ptr 7 0,.ptr 8 0]))).v,[9,10],some (11,l_1)⟩],[]⟩:Env)∧M=((((((((((((Mem.nil.push (.cells 56 [.lit (.slice none 0 0)])).push (.cells 3 [.lit (.int .i64 0)])).push (.cells 24 [.lit (.int .i64 14)])).push (.cells 56 [.whole 4])).push (.row 47 rdS_zip_entry x15)).push (.cells 3 [.lit (.int .i64 (-1))])).push (.cells 3 [.lit (.int .i64 x8)])).push (.cells 23 [.ro (Rd.slice (Rd.int .u8)) true x16])).push (.cells 90 [.ptr 5 0])).push (.obj (Obj.deferred (some [])))).push (.bag)).push (.obj (lp r_1 .done (some .ret)))) | (Sum.inr (x17,x18))=>x=.exit 0∧E=(((⟨fun _=>.any,[],[⟨aC1,((((((((Env.none.upd 2 (.ptr 3 0)).upd 3 (.ptr 4 0)).upd 4 (.ptr 5 0)).upd 8 (.lit (.int .i64 x10))).upd 9 (.ptr 6 0)).upd 10 (.ptr 2 0)).upd 59 (.fn 84 [.ptr 8 0,.ptr 0 0,.ptr 1 0]))).v,[9,10],some (11,l_1)⟩],[]⟩:Env).upd 2 (.ptr 0 0)).upd 3 (.ptr 1 0))∧M=((((((((((((Mem.nil.push (.cells 23 [.ro (Rd.slice (Rd.int .u8)) true x17])).push (.cells 90 [.ptr 2 0])).push (.cells 3 [.lit (.int .i64 (-1))])).push (.cells 56 [.lit (.slice none 0 0)])).push (.cells 3 [.lit (.int .i64 0)])).push (.cells 24 [.lit (.int .i64 0)])).push (.cells 56 [.whole 7])).push (.row 47 rdS_zip_entry x18)).push (.cells 3 [.lit (.int .i64 x8)])).push (.obj (Obj.deferred (some [])))).push (.bag)).push (.obj (lp r_1 .ready none)))) ?_ ?_
 · refine WP.loop (β:=Int × (List Int) × (List S_zip_entry)) (fun n b=>g_zip_directory_l0 k x8 n b.1 b.2.1 b.2.2=some y1) (fun b=>((((((⟨fun _=>.any,[],[⟨aC1,((((((((Env.none.upd 2 (.ptr 3 0)).upd 3 (.ptr 4 0)).upd 4 (.ptr 5 0)).upd 8 (.lit (.int .i64 x10))).upd 9 (.ptr 6 0)).upd 10 (.ptr 2 0)).upd 59 (.fn 84 [.ptr 8 0,.ptr 0 0,.ptr 1 0]))).v,[9,10],some (11,l_1)⟩],[]⟩:Env).upd 0 (.lit (.func (.yield l_1) #[] #[]))).upd 2 (.ptr 0 0)).upd 3 (.ptr 1 0)).upd 7 (.lit (.int .i64 x8))).upd 8 (.lit (.int .i64 b.1)))) (fun b=>((((((((((((Mem.nil.push (.cells 23 [.ro (Rd.slice (Rd.int .u8)) true b.2.1])).push (.cells 90 [.ptr 2 0])).push (.cells 3 [.lit (.int .i64 (-1))])).push (.cells 56 [.lit (.slice none 0 0)])).push (.cells 3 [.lit (.int .i64 0)])).push (.cells 24 [.lit (.int .i64 0)])).push (.cells 56 [.whole 7])).push (.row 47 rdS_zip_entry b.2.2)).push (.cells 3 [.lit (.int .i64 x8)])).push (.obj (Obj.deferred (some [])))).push (.bag)).push (.obj (lp r_1 .ready none)))) k (0,(List.drop (Int.toNat x10) (List.take (Int.toNat x7) x1)),([]:List S_zip_entry)) H2 rfl rfl ?_;rintro n ⟨x19,x20,x21⟩ H;obtain _ | n:=n
   · exact nf rfl H
   rw [g_zip_directory_l0.eq_2] at H;show WP _ _ _ _ ((((((⟨fun _=>.any,[],[⟨aC1,((((((((Env.none.upd 2 (.ptr 3 0)).upd 3 (.ptr 4 0)).upd 4 (.ptr 5 0)).upd 8 (.lit (.int .i64 x10))).upd 9 (.ptr 6 0)).upd 10 (.ptr 2 0)).upd 59 (.fn 84 [.ptr 8 0,.ptr 0 0,.ptr 1 0]))).v,[9,10],some (11,l_1)⟩],[]⟩:Env).upd 0 (.lit (.func (.yield l_1) #[] #[]))).upd 2 (.ptr 0 0)).upd 3 (.ptr 1 0)).upd 7 (.lit (.int .i64 x8))).upd 8 (.lit (.int .i64 x19))) ((((((((((((Mem.nil.push (.cells 23 [.ro (Rd.slice (Rd.int .u8)) true x20])).push (.cells 90 [.ptr 2 0])).push (.cells 3 [.lit (.int .i64 (-1))])).push (.cells 56 [.lit (.slice none 0 0)])).push (.cells 3 [.lit (.int .i64 0)])).push (.cells 24 [.lit (.int .i64 0)])).push (.cells 56 [.whole 7])).push (.row 47 rdS_zip_entry x21)).push (.cells 3 [.lit (.int .i64 x8)])).push (.obj (Obj.deferred (some [])))).push (.bag)).push (.obj (lp r_1 .ready none))) _;(iterate 3 refine sp ?_);refine WP.seq ?_;refine cq H (fun hb7 H=>?_) fun hb7 H=>?_
   · (iterate 3 refine sp ?_);refine WP.seq ?_;refine sp ?_;refine WP.seq ?_;refine WP.seq ?_;obtain ⟨x22,H3,H⟩:=bnd H;refine mo .normal (((((((⟨fun _=>.any,[],[⟨aC1,((((((((Env.none.upd 2 (.ptr 3 0)).upd 3 (.ptr 4 0)).upd 4 (.ptr 5 0)).upd 8 (.lit (.int .i64 x10))).upd 9 (.ptr 6 0)).upd 10 (.ptr 2 0)).upd 59 (.fn 84 [.ptr 8 0,.ptr 0 0,.ptr 1 0]))).v,[9,10],some (11,l_1)⟩],[]⟩:Env).upd 0 (.lit (.func (.yield l_1) #[] #[]))).upd 2 (.ptr 0 0)).upd 3 (.ptr 1 0)).upd 7 (.lit (.int .i64 x8))).upd 8 (.lit (.int .i64 x19))).upd 20 (.lit (.bool x22))) ((((((((((((Mem.nil.push (.cells 23 [.ro (Rd.slice (Rd.int .u8)) true x20])).push (.cells 90 [.ptr 2 0])).push (.cells 3 [.lit (.int .i64 (-1))])).push (.cells 56 [.lit (.slice none 0 0)])).push (.cells 3 [.lit (.int .i64 0)])).push (.cells 24 [.lit (.int .i64 0)])).push (.cells 56 [.whole 7])).push (.row 47 rdS_zip_entry x21)).push (.cells 3 [.lit (.int .i64 x8)])).push (.obj (Obj.deferred (some [])))).push (.bag)).push (.obj (lp r_1 .ready none))) ?_ ?_
     · clear H;have H:=H3;clear H3;refine WP.regionD' 11 [0] [] mixed rfl ?_;refine dK 0 ?_;refine dT 1 ?_;obtain ⟨x23,h12,H⟩:=bnd H;refine dT 2 ?_ rfl (q_nm aq (nm_bool h12));refine dT 3 ?_;refine ds 13 H (fun hb8 H=>?_) fun hb8 H=>?_
       · refine dP true 4 ?_;refine dP true 5 ?_;refine dP true 6 ?_;refine dP true 7 ?_;refine dP true 8 ?_;refine dP true 9 ?_;refine dT 10 ?_;refine WPD.doneW (by kernel_rfl) ?_;have q0:=j1 H;subst q0;exact W.wk [0,1,2,3,4,5,6,7,8,9,10,11] hnp r3 ⟨rfl,⟨⟨AA10,o3⟩,o3⟩,by decide,rfl,trivial⟩ (LeE.u (LeE.u (LeE.u (LeE.u (LeE.u (LeE.u (LeE.noneD rfl rfl (.cons ⟨rfl,(LeV.upd rfl rfl (LeV.upd rfl rfl (LeV.upd rfl rfl (LeV.upd rfl rfl (LeV.upd rfl rfl (LeV.upd rfl rfl (LeV.upd rfl rfl LeV.none))))))),rfl,rfl,rfl,rfl⟩ .nil)))))))) rfl
       refine dH 4 ?_;refine dG 5 ?_;refine dH 6 ?_;obtain ⟨x24,h13,H⟩:=bnd H;refine dF 7 [0] [] rfl (rc [] [] 12 [] (s_zip_num k x20 28 2 x24 h13) (hargs:=.ren rfl rfl (.ren rfl rfl (.ren rfl rfl .nil)))) ?_;refine dG 8 ?_;obtain ⟨x25,h14,H⟩:=bnd H;refine dG 9 ?_ rfl rfl gv (q_nm aq (nm_bool h14));refine dT 10 ?_;refine WPD.doneW (by kernel_rfl) ?_;have q0:=j1 H;subst q0;exact W.wk [0,1,2,3,4,5,6,7,8,9,10,11] hnp r3 ⟨rfl,⟨⟨AA10,o3⟩,o3⟩,by decide,rfl,trivial⟩ (LeE.u (LeE.u (LeE.u (LeE.u (LeE.u (LeE.u (LeE.noneD rfl rfl (.cons ⟨rfl,(LeV.upd rfl rfl (LeV.upd rfl rfl (LeV.upd rfl rfl (LeV.upd rfl rfl (LeV.upd rfl rfl (LeV.upd rfl rfl (LeV.upd rfl rfl LeV.none))))))),rfl,rfl,rfl,rfl⟩ .nil)))))))) rfl
     (iterate 2 refine sp ?_);refine cq H (fun hb9 H=>?_) fun hb9 H=>?_
     · (iterate 3 refine sp ?_);refine WPL.y rfl rfl rfl rfl hp1 ha1 hb6 ht1 hs1 hf1 rfl rfl rfl fun aI1=>?_;(iterate 6 refine sp ?_);refine WPL.nilW ?_;refine sp ?_;refine ⟨rfl,rfl,_,_,_,_,_,_,rfl,rfl,?_⟩;refine sp ?_;refine WP.seq ?_;(iterate 4 refine sp ?_);refine WP.condTB (t:=(!false)) rfl rfl ?_;(iterate 7 refine sp ?_);refine Then.r ?_;refine InBlock.r ?_;refine ⟨rfl,_,_,_,_,_,_,rfl,rfl,_,rfl,?_⟩;(iterate 2 refine sp ?_);have q0:=j1 H;subst q0;exact W.wk [3,4,5,6,7,2,8,0,1,9,10,11] hnp (Then.r (InBlock.r (Then.r (Then.r r3)))) ⟨rfl,⟨⟨AA10,o3⟩,o3⟩,by decide,rfl,trivial⟩ (LeE.noneD rfl rfl (.cons ⟨rfl,(LeV.upd rfl rfl (LeV.upd rfl rfl (LeV.upd rfl rfl (LeV.upd rfl rfl (LeV.upd rfl rfl (LeV.upd rfl rfl (LeV.upd rfl rfl LeV.none))))))),rfl,rfl,rfl,rfl⟩ .nil)) rfl
     (iterate 5 refine sp ?_);obtain ⟨x26,h15,H⟩:=bnd H;refine WPL.c (rc [] [] 12 [] (s_zip_num k x20 28 2 x26 h15) (hargs:=.ren rfl rfl (.ren rfl rfl (.ren rfl rfl .nil)))) rfl ?_;(iterate 3 refine sp ?_);refine WP.seq ?_;obtain ⟨⟨x27,x28,x29,x30,x31⟩,H4,H⟩:=bnd H;refine mo .normal ((((((((⟨fun _=>.any,[],[⟨aC1,((((((((Env.none.upd 2 (.ptr 4 0)).upd 3 (.ptr 5 0)).upd 4 (.ptr 6 0)).upd 8 (.lit (.int .i64 x10))).upd 9 (.ptr 7 0)).upd 10 (.ptr 2 0)).upd 59 (.fn 84 [.ptr 9 0,.ptr 0 0,.ptr 1 0]))).v,[10,11],some (12,l_1)⟩],[]⟩:Env).upd 0 (.lit (.func (.yield l_1) #[] #[]))).upd 2 (.ptr 0 0)).upd 3 (.ptr 1 0)).upd 5 (.lit (.int .i64 (IntKind.wrap .i64 (46+x26))))).upd 6 (.ptr 3 0)).upd 7 (.lit (.int .i64 x8))).upd 8 (.lit (.int .i64 x19))) (((((((((((((Mem.nil.push (.cells 23 [.ro (Rd.slice (Rd.int .u8)) true x20])).push (.cells 90 [.ptr 2 0])).push (.cells 3 [.lit (.int .i64 (-1))])).push (.cells 47 [.lit (.int .i64 x27),.lit (.int .i64 x28),.lit (.int .i64 x29),.lit (.int .i64 x30),.lit (.string (strOf (List.drop (Int.toNat 46) (List.take (Int.toNat (IntKind.wrap .i64 (46+x26))) x20)))),.lit (.int .i64 x31)])).push (.cells 56 [.lit (.slice none 0 0)])).push (.cells 3 [.lit (.int .i64 0)])).push (.cells 24 [.lit (.int .i64 0)])).push (.cells 56 [.whole 8])).push (.row 47 rdS_zip_entry x21)).push (.cells 3 [.lit (.int .i64 x8)])).push (.obj (Obj.deferred (some [])))).push (.bag)).push (.obj (lp r_1 .ready none))) ?_ ?_
     · clear H;have H:=H4;clear H4;refine WP.regionD' 17 [0] [] mixed rfl ?_;refine dT 9 ?_;refine dK 0 ?_;refine dK 2 ?_;refine dK 4 ?_;refine dK 6 ?_;refine dK 8 ?_;obtain ⟨h16,H⟩:=grd H;refine WPD.tT 10 rfl (q_slice_ro (i:=46) (j:=(IntKind.wrap .i64 (46+x26))) sl23 rfl rfl ⟨_,rfl⟩ ⟨_,rfl⟩ h16) ?_;refine WPD.tT 11 rfl (q_bytes_str Tryz.underlying23 Tryz.underlying5 Tryz.underlying9 rfl) ?_;refine dK 12 ?_;refine WPD.of2 1 15 (by kernel_rfl) ?_ ?_
       · obtain ⟨x32,h17,H⟩:=bnd H;refine WPD1.eff 1 [0] [] rfl (rc [] [] 12 [] (s_zip_num k x20 10 2 x32 h17) (hargs:=.ren rfl rfl (.ren rfl rfl (.ren rfl rfl .nil)))) rfl rfl ?_;refine WPD.of2 3 15 (by kernel_rfl) ?_ ?_
         · obtain ⟨x33,h18,H⟩:=bnd H;refine WPD1.eff 3 [0] [] rfl (rc [] [] 12 [] (s_zip_num k x20 16 4 x33 h18) (hargs:=.ren rfl rfl (.ren rfl rfl (.ren rfl rfl .nil)))) rfl rfl ?_;refine WPD.of2 5 15 (by kernel_rfl) ?_ ?_
           · obtain ⟨x34,h19,H⟩:=bnd H;refine WPD1.eff 5 [0] [] rfl (rc [] [] 12 [] (s_zip_num k x20 20 4 x34 h19) (hargs:=.ren rfl rfl (.ren rfl rfl (.ren rfl rfl .nil)))) rfl rfl ?_;refine WPD.of2 7 15 (by kernel_rfl) ?_ ?_
             · obtain ⟨x35,h20,H⟩:=bnd H;refine WPD1.eff 7 [0] [] rfl (rc [] [] 12 [] (s_zip_num k x20 24 4 x35 h20) (hargs:=.ren rfl rfl (.ren rfl rfl (.ren rfl rfl .nil)))) rfl rfl ?_;refine WPD.of2 13 15 (by kernel_rfl) ?_ ?_
               · obtain ⟨x36,h21,H⟩:=bnd H;refine WPD1.eff 13 [0] [] rfl (rc [] [] 12 [] (s_zip_num k x20 42 4 x36 h21) (hargs:=.ren rfl rfl (.ren rfl rfl (.ren rfl rfl .nil)))) rfl rfl ?_;refine dT 14 ?_;refine dE 15 [0] [] rfl (Does.runs (d_alloc ze47 rfl)) ?_;refine dS 16 [0] [] ?_;refine WPD.doneW (by kernel_rfl) ?_;obtain ⟨rfl,rfl,rfl,rfl,rfl⟩:=j5 H;exact W.wk [0,1,2,12,3,4,5,6,7,8,9,10,11] hnp r3 ⟨rfl,⟨⟨⟨AA10,o3⟩,o3⟩,o3⟩,by decide,rfl,trivial⟩ (LeE.u (LeE.u (LeE.u (LeE.u (LeE.u (LeE.u (LeE.u (LeE.noneD rfl rfl (.cons ⟨rfl,(LeV.upd rfl rfl (LeV.upd rfl rfl (LeV.upd rfl rfl (LeV.upd rfl rfl (LeV.upd rfl rfl (LeV.upd rfl rfl (LeV.upd rfl rfl LeV.none))))))),rfl,rfl,rfl,rfl⟩ .nil))))))))) rfl
               refine WPD1.eff 15 [0] [] rfl (Does.runs (d_alloc ze47 rfl)) rfl rfl ?_;obtain ⟨x37,h22,H⟩:=bnd H;refine dE 13 [0] [] rfl (rc [] [] 13 [] (s_zip_num k x20 42 4 x37 h22) (hargs:=.ren rfl rfl (.ren rfl rfl (.ren rfl rfl .nil)))) ?_;refine dT 14 ?_;refine dS 16 [0] [] ?_;refine WPD.doneW (by kernel_rfl) ?_;obtain ⟨rfl,rfl,rfl,rfl,rfl⟩:=j5 H;exact W.wk [0,1,2,12,3,4,5,6,7,8,9,10,11] hnp r3 ⟨rfl,⟨⟨⟨AA10,o3⟩,o3⟩,o3⟩,by decide,rfl,trivial⟩ (LeE.u (LeE.u (LeE.u (LeE.u (LeE.u (LeE.u (LeE.u (LeE.noneD rfl rfl (.cons ⟨rfl,(LeV.upd rfl rfl (LeV.upd rfl rfl (LeV.upd rfl rfl (LeV.upd rfl rfl (LeV.upd rfl rfl (LeV.upd rfl rfl (LeV.upd rfl rfl LeV.none))))))),rfl,rfl,rfl,rfl⟩ .nil))))))))) rfl
             refine WPD1.eff 15 [0] [] rfl (Does.runs (d_alloc ze47 rfl)) rfl rfl ?_;obtain ⟨x38,h23,H⟩:=bnd H;refine dE 7 [0] [] rfl (rc [] [] 13 [] (s_zip_num k x20 24 4 x38 h23) (hargs:=.ren rfl rfl (.ren rfl rfl (.ren rfl rfl .nil)))) ?_;obtain ⟨x39,h24,H⟩:=bnd H;refine dE 13 [0] [] rfl (rc [] [] 13 [] (s_zip_num k x20 42 4 x39 h24) (hargs:=.ren rfl rfl (.ren rfl rfl (.ren rfl rfl .nil)))) ?_;refine dT 14 ?_;refine dS 16 [0] [] ?_;refine WPD.doneW (by kernel_rfl) ?_;obtain ⟨rfl,rfl,rfl,rfl,rfl⟩:=j5 H;exact W.wk [0,1,2,12,3,4,5,6,7,8,9,10,11] hnp r3 ⟨rfl,⟨⟨⟨AA10,o3⟩,o3⟩,o3⟩,by decide,rfl,trivial⟩ (LeE.u (LeE.u (LeE.u (LeE.u (LeE.u (LeE.u (LeE.u (LeE.noneD rfl rfl (.cons ⟨rfl,(LeV.upd rfl rfl (LeV.upd rfl rfl (LeV.upd rfl rfl (LeV.upd rfl rfl (LeV.upd rfl rfl (LeV.upd rfl rfl (LeV.upd rfl rfl LeV.none))))))),rfl,rfl,rfl,rfl⟩ .nil))))))))) rfl
           refine WPD1.eff 15 [0] [] rfl (Does.runs (d_alloc ze47 rfl)) rfl rfl ?_;obtain ⟨x40,h25,H⟩:=bnd H;refine dE 5 [0] [] rfl (rc [] [] 13 [] (s_zip_num k x20 20 4 x40 h25) (hargs:=.ren rfl rfl (.ren rfl rfl (.ren rfl rfl .nil)))) ?_;obtain ⟨x41,h26,H⟩:=bnd H;refine dE 7 [0] [] rfl (rc [] [] 13 [] (s_zip_num k x20 24 4 x41 h26) (hargs:=.ren rfl rfl (.ren rfl rfl (.ren rfl rfl .nil)))) ?_;obtain ⟨x42,h27,H⟩:=bnd H;refine dE 13 [0] [] rfl (rc [] [] 13 [] (s_zip_num k x20 42 4 x42 h27) (hargs:=.ren rfl rfl (.ren rfl rfl (.ren rfl rfl .nil)))) ?_;refine dT 14 ?_;refine dS 16 [0] [] ?_;refine WPD.doneW (by kernel_rfl) ?_;obtain ⟨rfl,rfl,rfl,rfl,rfl⟩:=j5 H;exact W.wk [0,1,2,12,3,4,5,6,7,8,9,10,11] hnp r3 ⟨rfl,⟨⟨⟨AA10,o3⟩,o3⟩,o3⟩,by decide,rfl,trivial⟩ (LeE.u (LeE.u (LeE.u (LeE.u (LeE.u (LeE.u (LeE.u (LeE.noneD rfl rfl (.cons ⟨rfl,(LeV.upd rfl rfl (LeV.upd rfl rfl (LeV.upd rfl rfl (LeV.upd rfl rfl (LeV.upd rfl rfl (LeV.upd rfl rfl (LeV.upd rfl rfl LeV.none))))))),rfl,rfl,rfl,rfl⟩ .nil))))))))) rfl
         refine WPD1.eff 15 [0] [] rfl (Does.runs (d_alloc ze47 rfl)) rfl rfl ?_;obtain ⟨x43,h28,H⟩:=bnd H;refine dE 3 [0] [] rfl (rc [] [] 13 [] (s_zip_num k x20 16 4 x43 h28) (hargs:=.ren rfl rfl (.ren rfl rfl (.ren rfl rfl .nil)))) ?_;obtain ⟨x44,h29,H⟩:=bnd H;refine dE 5 [0] [] rfl (rc [] [] 13 [] (s_zip_num k x20 20 4 x44 h29) (hargs:=.ren rfl rfl (.ren rfl rfl (.ren rfl rfl .nil)))) ?_;obtain ⟨x45,h30,H⟩:=bnd H;refine dE 7 [0] [] rfl (rc [] [] 13 [] (s_zip_num k x20 24 4 x45 h30) (hargs:=.ren rfl rfl (.ren rfl rfl (.ren rfl rfl .nil)))) ?_;obtain ⟨x46,h31,H⟩:=bnd H;refine dE 13 [0] [] rfl (rc [] [] 13 [] (s_zip_num k x20 42 4 x46 h31) (hargs:=.ren rfl rfl (.ren rfl rfl (.ren rfl rfl .nil)))) ?_;refine dT 14 ?_;refine dS 16 [0] [] ?_;refine WPD.doneW (by kernel_rfl) ?_;obtain ⟨rfl,rfl,rfl,rfl,rfl⟩:=j5 H;exact W.wk [0,1,2,12,3,4,5,6,7,8,9,10,11] hnp r3 ⟨rfl,⟨⟨⟨AA10,o3⟩,o3⟩,o3⟩,by decide,rfl,trivial⟩ (LeE.u (LeE.u (LeE.u (LeE.u (LeE.u (LeE.u (LeE.u (LeE.noneD rfl rfl (.cons ⟨rfl,(LeV.upd rfl rfl (LeV.upd rfl rfl (LeV.upd rfl rfl (LeV.upd rfl rfl (LeV.upd rfl rfl (LeV.upd rfl rfl (LeV.upd rfl rfl LeV.none))))))),rfl,rfl,rfl,rfl⟩ .nil))))))))) rfl
       refine WPD1.eff 15 [0] [] rfl (Does.runs (d_alloc ze47 rfl)) rfl rfl ?_;obtain ⟨x47,h32,H⟩:=bnd H;refine dE 1 [0] [] rfl (rc [] [] 13 [] (s_zip_num k x20 10 2 x47 h32) (hargs:=.ren rfl rfl (.ren rfl rfl (.ren rfl rfl .nil)))) ?_;obtain ⟨x48,h33,H⟩:=bnd H;refine dE 3 [0] [] rfl (rc [] [] 13 [] (s_zip_num k x20 16 4 x48 h33) (hargs:=.ren rfl rfl (.ren rfl rfl (.ren rfl rfl .nil)))) ?_;obtain ⟨x49,h34,H⟩:=bnd H;refine dE 5 [0] [] rfl (rc [] [] 13 [] (s_zip_num k x20 20 4 x49 h34) (hargs:=.ren rfl rfl (.ren rfl rfl (.ren rfl rfl .nil)))) ?_;obtain ⟨x50,h35,H⟩:=bnd H;refine dE 7 [0] [] rfl (rc [] [] 13 [] (s_zip_num k x20 24 4 x50 h35) (hargs:=.ren rfl rfl (.ren rfl rfl (.ren rfl rfl .nil)))) ?_;obtain ⟨x51,h36,H⟩:=bnd H;refine dE 13 [0] [] rfl (rc [] [] 13 [] (s_zip_num k x20 42 4 x51 h36) (hargs:=.ren rfl rfl (.ren rfl rfl (.ren rfl rfl .nil)))) ?_;refine dT 14 ?_;refine dS 16 [0] [] ?_;refine WPD.doneW (by kernel_rfl) ?_;obtain ⟨rfl,rfl,rfl,rfl,rfl⟩:=j5 H;exact W.wk [0,1,2,12,3,4,5,6,7,8,9,10,11] hnp r3 ⟨rfl,⟨⟨⟨AA10,o3⟩,o3⟩,o3⟩,by decide,rfl,trivial⟩ (LeE.u (LeE.u (LeE.u (LeE.u (LeE.u (LeE.u (LeE.u (LeE.noneD rfl rfl (.cons ⟨rfl,(LeV.upd rfl rfl (LeV.upd rfl rfl (LeV.upd rfl rfl (LeV.upd rfl rfl (LeV.upd rfl rfl (LeV.upd rfl rfl (LeV.upd rfl rfl LeV.none))))))),rfl,rfl,rfl,rfl⟩ .nil))))))))) rfl
     (iterate 2 refine sp ?_);refine WP.seq ?_;refine WP.seq ?_;refine WP.regionDL 6 8 [0,3] [] mixed rfl (by kernel_rfl) ?_;refine dT 0 ?_;refine dK 1 ?_;refine dK 2 ?_;refine dK 3 ?_;obtain ⟨x52,h37,H⟩:=bnd H;refine dE 4 [0,3] [] rfl (rc [] [] 13 [] (s_zip_central k x27 x28 x29 x30 (strOf (List.drop (Int.toNat 46) (List.take (Int.toNat (IntKind.wrap .i64 (46+x26))) x20))) x31 x52 h37)) ?_;obtain ⟨x53,h38,H⟩:=bnd H;refine dE 5 [0,3] [] rfl (rc [] [] 13 [] (s_zip_begins k x20 x52 x53 h38)) ?_;refine WPD.doneW (by kernel_rfl) ?_;refine sp ?_;refine WPL.y rfl rfl rfl rfl hp1 ha1 hb6 ht1 hs1 hf1 rfl rfl rfl fun aI2=>?_;(iterate 6 refine sp ?_);refine WPL.nilW ?_;refine sp ?_;refine ⟨rfl,rfl,_,_,_,_,_,_,rfl,rfl,?_⟩;refine sp ?_;refine WP.seq ?_;(iterate 4 refine sp ?_);refine cq H (fun hb10 H=>?_) fun hb10 H=>?_
     · (iterate 7 refine sp ?_);refine Then.r ?_;refine InBlock.r ?_;refine ⟨rfl,_,_,_,_,_,_,rfl,rfl,_,rfl,?_⟩;(iterate 2 refine sp ?_);refine WP.condTB (t:=(!false)) rfl rfl ?_;refine sp ?_;have q0:=j1 H;subst q0;exact W.wk [4,5,6,7,8,2,9,0,1,10,11,12] hnp (Then.r (InBlock.r (Then.r (Then.r r3)))) ⟨rfl,⟨⟨AA10,o3⟩,o3⟩,by decide,rfl,trivial⟩ (LeE.noneD rfl rfl (.cons ⟨rfl,(LeV.upd rfl rfl (LeV.upd rfl rfl (LeV.upd rfl rfl (LeV.upd rfl rfl (LeV.upd rfl rfl (LeV.upd rfl rfl (LeV.upd rfl rfl LeV.none))))))),rfl,rfl,rfl,rfl⟩ .nil)) rfl
     (iterate 6 refine sp ?_);refine WPL.d (d_buildSlice (ds:=([(⟨x27,x28,x29,x30,(strOf (List.drop (Int.toNat 46) (List.take (Int.toNat (IntKind.wrap .i64 (46+x26))) x20))),x31⟩:S_zip_entry)]:List S_zip_entry)) (R:=rdS_zip_entry) li56 rfl rfl rfl rfl rfl (JoinRows.cons (l:=[.lit (.int .i64 x27),.lit (.int .i64 x28),.lit (.int .i64 x29),.lit (.int .i64 x30),.lit (.string (strOf (List.drop (Int.toNat 46) (List.take (Int.toNat (IntKind.wrap .i64 (46+x26))) x20)))),.lit (.int .i64 x31)]) (Joins.via (Joins.cons Joins.sc (Joins.cons Joins.sc (Joins.cons Joins.sc (Joins.cons Joins.sc (Joins.cons Joins.sc (Joins.cons Joins.sc Joins.unit))))))) rfl JoinRows.nil) rfl rfl) rfl ?_;obtain ⟨h39,H⟩:=grd H;refine WPL.d (d_append ap56 rfl rfl rfl rfl (src_row sl56 rfl rfl) h39 rfl) rfl ?_;refine sp ?_;refine WPL.nilW ?_;refine sp ?_;refine InBlock.n ?_;refine ⟨rfl,_,_,_,_,_,_,rfl,rfl,_,rfl,?_⟩;(iterate 2 refine sp ?_);refine WP.condFB (t:=(!true)) rfl rfl ?_;(iterate 6 refine sp ?_);obtain ⟨h40,H⟩:=grd H;refine WPL.qq (q_slice_ro (i:=(IntKind.wrap .i64 (46+x26))) (j:=((List.length x20:Nat):Int)) sl23 rfl rfl ⟨_,rfl⟩ rfl h40) ?_;refine sp ?_;refine WPL.nilW ?_;refine sp ?_;refine InBlock.n ?_;(iterate 4 refine sp ?_);refine WPL.nilW ?_;exact W.wk [0,1,2,4,5,6,7,15,9,10,11,12] hnp (Then.n ⟨n,((IntKind.wrap .i64 (x19+1)),(List.drop (Int.toNat (IntKind.wrap .i64 (46+x26))) (List.take (Int.toNat ((List.length x20:Nat):Int)) x20)),(x21++([(⟨x27,x28,x29,x30,(strOf (List.drop (Int.toNat 46) (List.take (Int.toNat (IntKind.wrap .i64 (46+x26))) x20))),x31⟩:S_zip_entry)]:List S_zip_entry))),Nat.lt_succ_self n,H,rfl,rfl⟩) ⟨rfl,⟨⟨AA10,o3⟩,o3⟩,by decide,rfl,trivial⟩ (LeE.u (LeE.u (LeE.u (LeE.u (LeE.u (LeE.noneD rfl rfl (.cons ⟨rfl,(LeV.upd rfl rfl (LeV.upd rfl rfl (LeV.upd rfl rfl (LeV.upd rfl rfl (LeV.upd rfl rfl (LeV.upd rfl rfl (LeV.upd rfl rfl LeV.none))))))),rfl,rfl,rfl,rfl⟩ .nil))))))) rfl
   refine sp ?_;have q0:=j1 H;subst q0;exact W.wk [0,1,2,3,4,5,6,7,8,9,10,11] hnp (Then.x (Then.x r3)) ⟨rfl,⟨⟨AA10,o3⟩,o3⟩,by decide,rfl,trivial⟩ (LeE.u (LeE.u (LeE.noneD rfl rfl (.cons ⟨rfl,(LeV.upd rfl rfl (LeV.upd rfl rfl (LeV.upd rfl rfl (LeV.upd rfl rfl (LeV.upd rfl rfl (LeV.upd rfl rfl (LeV.upd rfl rfl LeV.none))))))),rfl,rfl,rfl,rfl⟩ .nil)))) rfl
 rcases y1 with ⟨x15,x16⟩ | ⟨x17,x18⟩
 · rintro _ _ _ ⟨rfl,rfl,rfl⟩;refine sp ?_;refine InBlock.r ?_;refine Then.r ?_;refine ⟨trivial,_,_,_,_,rfl,_,_,rfl,(fun h=>by cases h),?_⟩;refine WP.cv (Cv.absorb (N:=12) (j:=9) (i:=10) rfl rfl rfl rfl) ?_;refine sp ?_;refine W.cv (Cv.nilRoC rdS_zip_entry false (i:=0) (off:=0) rfl rfl rfl) rfl ?_;obtain ⟨rfl,rfl,rfl⟩:=j3 H;exact W.now (InBlock.r (Then.r (BodyR.mkR ⟨.inr rfl,trivial⟩ rfl [0,1,2] ⟨rfl,rfl⟩ ⟨rfl,AA3,by decide,rfl,trivial⟩ rfl rfl)))
 rintro _ _ _ ⟨rfl,rfl,rfl⟩;(iterate 9 refine sp ?_);refine WPL.nilW ?_;refine sp ?_;refine ⟨trivial,_,_,_,_,rfl,_,_,rfl,(fun h=>by cases h),?_⟩;refine W.cv (Cv.absorb (N:=12) (j:=9) (i:=10) rfl rfl rfl rfl) rfl ?_;refine sp ?_;refine InBlock.n ?_;refine sp ?_;refine WP.seq ?_;(iterate 2 refine sp ?_);obtain ⟨x54,h41,H⟩:=bnd H;refine sn (nm_bool h41) ?_;refine sp ?_;refine cq H (fun hb11 H=>?_) fun hb11 H=>?_
 · (iterate 6 refine sp ?_);refine W.cv (Cv.nilRoC rdS_zip_entry false (i:=3) (off:=0) rfl rfl rfl) rfl ?_;obtain ⟨rfl,rfl,rfl⟩:=j3 H;exact W.now (Then.r (BodyR.mkR ⟨.inr rfl,trivial⟩ rfl [3,4,5] ⟨rfl,rfl⟩ ⟨rfl,AA3,by decide,rfl,trivial⟩ rfl rfl))
 (iterate 11 refine sp ?_);refine W.cv (Cv.frzRow (i:=7) rfl rfl hnp rfl rfl) rfl ?_;obtain ⟨rfl,rfl,rfl⟩:=j3 H;exact W.now (BodyR.mkR ⟨.inr rfl,trivial⟩ rfl [3,4,5] ⟨rfl,rfl⟩ ⟨rfl,AA3,by decide,rfl,trivial⟩ rfl rfl)
theorem s_bits_Crc__b (k:Nat) (x1:(List Int)) (x2:Int) (H:g_bits_Crc k x1=some x2):Go.Q.Spec Tryz.prog 21 0 [.ro (Rd.slice (Rd.int .u8)) true x1] Mem.nil (fun o M=>o=.ret (.lit (.int .u32 x2))∧M=Mem.nil):=by
 unfold g_bits_Crc at H;refine bo Tryz.func21 [] [.tmp 2] 29 fun cx hnp=>?_;(iterate 6 refine sp ?_);refine WP.seq ?_;(iterate 6 refine sp ?_);refine WP.cv (Cv.weak (E':=((((Env.none.upd 3 (.lit (.int .u32 4294967295))).upd 6 (.ro (Rd.slice (Rd.int .u8)) true x1)).upd 7 (.lit (.int .i64 ((List.length x1:Nat):Int)))).upd 8 (.lit (.int .i64 0)))) (M':=Mem.nil) [] hnp ⟨rfl,trivial,by decide,rfl,trivial⟩ (LeE.u (LeE.u (LeE.u (LeE.u (LeE.none rfl rfl)))))) ?_;obtain ⟨x3,H1,H⟩:=bnd H;refine mo (.exit 0) (Env.none.upd 3 (.lit (.int .u32 x3))) Mem.nil ?_ ?_
 · refine WP.loop (β:=Int × Int) (fun n b=>g_bits_Crc_l0 k x1 n b.1 b.2=some x3) (fun b=>((((Env.none.upd 3 (.lit (.int .u32 b.1))).upd 6 (.ro (Rd.slice (Rd.int .u8)) true x1)).upd 7 (.lit (.int .i64 ((List.length x1:Nat):Int)))).upd 8 (.lit (.int .i64 b.2)))) (fun b=>Mem.nil) k (4294967295,0) H1 rfl rfl ?_;rintro n ⟨x4,x5⟩ H;obtain _ | n:=n
   · exact nf rfl H
   rw [g_bits_Crc_l0.eq_2] at H;show WP _ _ _ _ ((((Env.none.upd 3 (.lit (.int .u32 x4))).upd 6 (.ro (Rd.slice (Rd.int .u8)) true x1)).upd 7 (.lit (.int .i64 ((List.length x1:Nat):Int)))).upd 8 (.lit (.int .i64 x5))) Mem.nil _;refine sp ?_;obtain ⟨x6,h1,H⟩:=bnd H;refine sn (nm_bool h1) ?_;refine sp ?_;refine WP.seq ?_;refine cq H (fun hb1 H=>?_) fun hb1 H=>?_
   · (iterate 3 refine sp ?_);refine WP.seq ?_;(iterate 2 refine sp ?_);obtain ⟨x7,h2,H⟩:=bnd H;(iterate 8 refine sp ?_);obtain ⟨x8,h3,H⟩:=bnd H;refine sn (nm_int h3) ?_;(iterate 6 refine sp ?_);refine WP.cv (Cv.weak (E':=(((((Env.none.upd 3 (.lit (.int .u32 x8))).upd 6 (.ro (Rd.slice (Rd.int .u8)) true x1)).upd 7 (.lit (.int .i64 ((List.length x1:Nat):Int)))).upd 8 (.lit (.int .i64 x5))).upd 16 (.lit (.int .i64 0)))) (M':=Mem.nil) [] hnp ⟨rfl,trivial,by decide,rfl,trivial⟩ (LeE.u (LeE.u (LeE.u (LeE.u (LeE.u (LeE.none rfl rfl))))))) ?_;obtain ⟨x9,H2,H⟩:=bnd H;refine mo (.exit 2) ((((Env.none.upd 3 (.lit (.int .u32 x9))).upd 6 (.ro (Rd.slice (Rd.int .u8)) true x1)).upd 7 (.lit (.int .i64 ((List.length x1:Nat):Int)))).upd 8 (.lit (.int .i64 x5))) Mem.nil ?_ ?_
     · refine WP.loop (β:=Int × Int) (fun n b=>g_bits_Crc_l1 k n b.1 b.2=some x9) (fun b=>(((((Env.none.upd 3 (.lit (.int .u32 b.1))).upd 6 (.ro (Rd.slice (Rd.int .u8)) true x1)).upd 7 (.lit (.int .i64 ((List.length x1:Nat):Int)))).upd 8 (.lit (.int .i64 x5))).upd 16 (.lit (.int .i64 b.2)))) (fun b=>Mem.nil) k (x8,0) H2 rfl rfl ?_;rintro n ⟨x10,x11⟩ H;obtain _ | n:=n
       · exact nf rfl H
       rw [g_bits_Crc_l1.eq_2] at H;show WP _ _ _ _ (((((Env.none.upd 3 (.lit (.int .u32 x10))).upd 6 (.ro (Rd.slice (Rd.int .u8)) true x1)).upd 7 (.lit (.int .i64 ((List.length x1:Nat):Int)))).upd 8 (.lit (.int .i64 x5))).upd 16 (.lit (.int .i64 x11))) Mem.nil _;(iterate 3 refine sp ?_);refine WP.seq ?_;refine cq H (fun hb2 H=>?_) fun hb2 H=>?_
       · (iterate 3 refine sp ?_);refine WP.seq ?_;(iterate 6 refine sp ?_);obtain ⟨x12,h4,H⟩:=bnd H;refine sn (nm_int h4) ?_;refine sp ?_;obtain ⟨x13,h5,H⟩:=bnd H;refine sn (nm_int h5) ?_;refine sp ?_;refine WPL.nilW ?_;refine sp ?_;refine InBlock.n ?_;(iterate 4 refine sp ?_);refine WPL.nilW ?_;exact wq [] (Then.n ⟨n,(x13,(IntKind.wrap .i64 (x11+1))),Nat.lt_succ_self n,H,rfl,rfl⟩)
       refine sp ?_;have q0:=j1 H;subst q0;exact wq [] (Then.x (Then.x r3))
     (iterate 2 refine sp ?_);refine InBlock.n ?_;(iterate 4 refine sp ?_);refine WPL.nilW ?_;exact wq [] (Then.n ⟨n,(x9,(IntKind.wrap .i64 (x5+1))),Nat.lt_succ_self n,H,rfl,rfl⟩)
   refine sp ?_;have q0:=j1 H;subst q0;exact wq [] (Then.x (Then.x r3))
 (iterate 5 refine sp ?_);obtain ⟨x14,h6,H⟩:=bnd H;refine WPL.qq (q_nm (q_com rfl) (nm_int h6)) ?_;(iterate 3 refine sp ?_);have q0:=j1 H;subst q0;exact W.now (mb [])
theorem s_zip_entry_unpacked (k:Nat) (x1:Int) (x2:Int) (x3:Int) (x4:Int) (x5:ByteArray) (x6:Int) (x7:(List Int)) (x8:(List Int)) (x9:Int) (H:g_zip_entry_unpacked k x1 x2 x3 x4 x5 x6 x7=some (x8,x9)):Go.Q.Spec Tryz.prog 33 0 [.agg [.lit (.int .i64 x1),.lit (.int .i64 x2),.lit (.int .i64 x3),.lit (.int .i64 x4),.lit (.string x5),.lit (.int .i64 x6)],.ro (Rd.slice (Rd.int .u8)) true x7] Mem.nil (fun o M=>o=.ret (.tup [.ro (Rd.slice (Rd.int .u8)) false x8,.lit (.int .i64 x9)])∧M=Mem.nil):=by
 unfold g_zip_entry_unpacked at H;refine bo Tryz.func33 [] [.tmp 4,.tmp 5] 61 fun cx hnp=>?_;(iterate 7 refine sp ?_);refine WPL.qq (q_bytes_str Tryz.underlying23 Tryz.underlying5 Tryz.underlying9 rfl) ?_;obtain ⟨h1,H⟩:=grd H;refine WPL.d (d_strBytes Tryz.underlying9 Tryz.underlying23 Tryz.underlying5 rfl h1 rfl) rfl ?_;(iterate 2 refine sp ?_);refine WP.seq ?_;refine WP.seq ?_;obtain ⟨x10,H1,H⟩:=bnd H;refine mo .normal ((((Env.none.upd 1 (.ro (Rd.slice (Rd.int .u8)) true x7)).upd 2 (.ptr 0 0)).upd 6 (.whole 1)).upd 22 (.lit (.bool x10))) ((Mem.nil.push (.cells 47 [.lit (.int .i64 x1),.lit (.int .i64 x2),.lit (.int .i64 x3),.lit (.int .i64 x4),.lit (.string x5),.lit (.int .i64 x6)])).push (.row 5 (Rd.int .u8) (strInts (strOf x7)))) ?_ ?_
 · clear H;have H:=H1;clear H1;(iterate 5 refine sp ?_);refine ws 16 H (fun hb1 H=>?_) fun hb1 H=>?_
   · (iterate 6 refine sp ?_);refine WPL.nilW ?_;have q0:=j1 H;subst q0;exact wq [0,1]
   (iterate 6 refine sp ?_);refine WPL.nilW ?_;have q0:=j1 H;subst q0;exact wq [0,1]
 (iterate 2 refine sp ?_);refine cq H (fun hb2 H=>?_) fun hb2 H=>?_
 · (iterate 5 refine sp ?_);refine W.cv (Cv.nilRo (Rd.int .u8) false 4 rfl) rfl ?_;obtain ⟨rfl,rfl⟩:=j2 H;exact W.now (Then.r (mb []))
 (iterate 3 refine sp ?_);refine WP.seq ?_;(iterate 5 refine sp ?_);refine cq H (fun hb3 H=>?_) fun hb3 H=>?_
 · (iterate 4 refine sp ?_);exact nf rfl H
 (iterate 3 refine sp ?_);refine WP.seq ?_;refine WP.seq ?_;refine WP.regionD' 6 [0] [] mixed rfl ?_;refine dT 0 ?_;refine dT 3 ?_;refine dK 4 ?_;obtain ⟨x11,h2,H⟩:=bnd H;refine dE 1 [0] [] rfl (rc [] [] 2 [1] (s_bits_Crc__b k (strInts (strOf x7)) x11 h2)) ?_;refine dT 2 ?_;obtain ⟨x12,h3,H⟩:=bnd H;refine dT 5 ?_ rfl (q_nm aq (nm_bool h3));refine WPD.doneW (by kernel_rfl) ?_;(iterate 2 refine sp ?_);refine cq H (fun hb4 H=>?_) fun hb4 H=>?_
 · (iterate 5 refine sp ?_);refine W.cv (Cv.nilRo (Rd.int .u8) false 4 rfl) rfl ?_;obtain ⟨rfl,rfl⟩:=j2 H;exact W.now (Then.r (mb []))
 (iterate 9 refine sp ?_);refine W.cv (Cv.frzRow (i:=1) rfl rfl hnp rfl rfl) rfl ?_;obtain ⟨rfl,rfl⟩:=j2 H;exact W.now (mb [])
theorem s_zip_Read (k:Nat) (x1:(List Int)) (x2:Int) (x3:(List S_api_File)) (x4:Int) (H:g_zip_Read k x1 x2=some (x3,x4)):Go.Q.Spec Tryz.prog 13 0 [.ro (Rd.slice (Rd.int .u8)) true x1,.lit (.int .i64 x2)] Mem.nil (fun o M=>o=.ret (.tup [.ro (Rd.slice rdS_api_File) false x3,.lit (.int .i64 x4)])∧M=Mem.nil):=by
 unfold g_zip_Read at H;refine bo Tryz.func13 [] [.tmp 4,.tmp 5] 128 fun cx hnp=>?_;(iterate 4 refine sp ?_);refine WP.seq ?_;(iterate 4 refine sp ?_);refine cq H (fun hb1 H=>?_) fun hb1 H=>?_
 · (iterate 5 refine sp ?_);refine W.cv (Cv.nilRo rdS_api_File false 4 rfl) rfl ?_;obtain ⟨rfl,rfl⟩:=j2 H;exact W.now (Then.r (mb []))
 (iterate 5 refine sp ?_);obtain ⟨⟨x5,x6,x7⟩,h1,H⟩:=bnd H;refine WPL.c (rc [] [0,1,2] 3 [] (s_zip_directory k x1 x5 x6 x7 h1)) rfl ?_;(iterate 8 refine sp ?_);refine WP.seq ?_;(iterate 4 refine sp ?_);refine cq H (fun hb2 H=>?_) fun hb2 H=>?_
 · (iterate 6 refine sp ?_);refine W.cv (Cv.nilRo rdS_api_File false 4 rfl) rfl ?_;obtain ⟨rfl,rfl⟩:=j2 H;exact W.now (Then.r (mb []))
 (iterate 9 refine sp ?_);refine WP.seq ?_;(iterate 6 refine sp ?_);refine WP.cv (Cv.vir 41 rdS_api_File (N:=3) rfl 9 rfl) ?_;refine WP.cv (Cv.weak (E':=(((((((((Env.none.upd 0 (.ro (Rd.slice (Rd.int .u8)) true x1)).upd 1 (.lit (.int .i64 x2))).upd 6 (.ro (Rd.slice rdS_zip_entry) false x5)).upd 7 (.lit (.int .i64 x6))).upd 9 (.whole 0)).upd 10 (.lit (.int .i64 0))).upd 28 (.ro (Rd.slice rdS_zip_entry) false x5)).upd 29 (.lit (.int .i64 ((List.length x5:Nat):Int)))).upd 30 (.lit (.int .i64 0)))) (M':=(Mem.nil.push (.row 41 rdS_api_File ([]:List S_api_File)))) [3] hnp ⟨rfl,AA1,by decide,rfl,trivial⟩ (LeE.u (LeE.u (LeE.u (LeE.u (LeE.u (LeE.u (LeE.u (LeE.u (LeE.u (LeE.none rfl rfl))))))))))) ?_;obtain ⟨y1,H1,H⟩:=bnd H;refine WP.monoW (Q:=fun x E M=>match (generalizing:=false) y1 with | (Sum.inl x8)=>x=.ret∧E=((Env.none.upd 4 (.lit (.slice none 0 0))).upd 5 (.lit (.int .i64 x8)))∧M=Mem.nil | (Sum.inr (x9,x10))=>x=.exit 0∧E=(((Env.none.upd 7 (.lit (.int .i64 x6))).upd 9 (.whole 0)).upd 10 (.lit (.int .i64 x9)))∧M=(Mem.nil.push (.row 41 rdS_api_File x10))) ?_ ?_
 · refine WP.loop (β:=Int × Int × Int × (List S_api_File)) (fun n b=>g_zip_Read_l0 k x1 x5 x6 n b.1 b.2.1 b.2.2.1 b.2.2.2=some y1) (fun b=>(((((((((Env.none.upd 0 (.ro (Rd.slice (Rd.int .u8)) true x1)).upd 1 (.lit (.int .i64 b.1))).upd 6 (.ro (Rd.slice rdS_zip_entry) false x5)).upd 7 (.lit (.int .i64 x6))).upd 9 (.whole 0)).upd 10 (.lit (.int .i64 b.2.1))).upd 28 (.ro (Rd.slice rdS_zip_entry) false x5)).upd 29 (.lit (.int .i64 ((List.length x5:Nat):Int)))).upd 30 (.lit (.int .i64 b.2.2.1)))) (fun b=>(Mem.nil.push (.row 41 rdS_api_File b.2.2.2))) k (x2,0,0,([]:List S_api_File)) H1 rfl rfl ?_;rintro n ⟨x11,x12,x13,x14⟩ H;obtain _ | n:=n
   · exact nf rfl H
   rw [g_zip_Read_l0.eq_2] at H;show WP _ _ _ _ (((((((((Env.none.upd 0 (.ro (Rd.slice (Rd.int .u8)) true x1)).upd 1 (.lit (.int .i64 x11))).upd 6 (.ro (Rd.slice rdS_zip_entry) false x5)).upd 7 (.lit (.int .i64 x6))).upd 9 (.whole 0)).upd 10 (.lit (.int .i64 x12))).upd 28 (.ro (Rd.slice rdS_zip_entry) false x5)).upd 29 (.lit (.int .i64 ((List.length x5:Nat):Int)))).upd 30 (.lit (.int .i64 x13))) (Mem.nil.push (.row 41 rdS_api_File x14)) _;refine sp ?_;obtain ⟨x15,h2,H⟩:=bnd H;refine sn (nm_bool h2) ?_;refine sp ?_;refine WP.seq ?_;refine cq H (fun hb3 H=>?_) fun hb3 H=>?_
   · (iterate 3 refine sp ?_);refine WP.seq ?_;(iterate 3 refine sp ?_);obtain ⟨x16,h3,H⟩:=bnd H;refine sp ?_;refine WPL.qq (q_load_roag ag47 rfl rfl S_zip_entry.sp) ?_;(iterate 4 refine sp ?_);refine WP.seq ?_;(iterate 3 refine sp ?_);obtain ⟨x17,h4,H⟩:=bnd H;refine WPL.c (rc [] [2] 3 [] (s_zip_Right k x16.fname x17 h4)) rfl ?_;(iterate 2 refine sp ?_);refine cq H (fun hb4 H=>?_) fun hb4 H=>?_
     · (iterate 5 refine sp ?_);have q0:=j1 H;subst q0;exact wq [] (Then.r (InBlock.r (Then.r (Then.r r3))))
     (iterate 3 refine sp ?_);refine WP.seq ?_;(iterate 3 refine sp ?_);obtain ⟨h5,H⟩:=grd H;refine WPL.qq (q_slice_ro (i:=0) (j:=x13) sl56 rfl rfl rfl ⟨_,rfl⟩ h5) ?_;obtain ⟨x18,h6,H⟩:=bnd H;refine sn (nm_int h6) ?_;(iterate 3 refine sp ?_);refine WP.cv (Cv.weak (E':=(((((((((((((Env.none.upd 0 (.ro (Rd.slice (Rd.int .u8)) true x1)).upd 1 (.lit (.int .i64 x11))).upd 6 (.ro (Rd.slice rdS_zip_entry) false x5)).upd 7 (.lit (.int .i64 x6))).upd 9 (.whole 0)).upd 10 (.lit (.int .i64 x12))).upd 12 (.ptr 1 0)).upd 28 (.ro (Rd.slice rdS_zip_entry) false x5)).upd 29 (.lit (.int .i64 ((List.length x5:Nat):Int)))).upd 30 (.lit (.int .i64 x13))).upd 41 (.ro (Rd.slice rdS_zip_entry) false (List.drop (Int.toNat 0) (List.take (Int.toNat x13) x5)))).upd 42 (.lit (.int .i64 x18))).upd 43 (.lit (.int .i64 0)))) (M':=((Mem.nil.push (.row 41 rdS_api_File x14)).push (.cells 47 [.lit (.int .i64 x16.fmethod),.lit (.int .i64 x16.fcrc),.lit (.int .i64 x16.fpacked),.lit (.int .i64 x16.fsize),.lit (.string x16.fname),.lit (.int .i64 x16.fat)]))) [0,1] hnp ⟨rfl,AA2,by decide,rfl,trivial⟩ (LeE.u (LeE.u (LeE.u (LeE.u (LeE.u (LeE.u (LeE.u (LeE.u (LeE.u (LeE.u (LeE.u (LeE.u (LeE.u (LeE.none rfl rfl))))))))))))))) ?_;obtain ⟨y2,H2,H⟩:=bnd H;refine WP.monoW (Q:=fun x E M=>match (generalizing:=false) y2 with | (Sum.inl _)=>x=.ret∧E=((Env.none.upd 4 (.lit (.slice none 0 0))).upd 5 (.lit (.int .i64 43)))∧M=Mem.nil | (Sum.inr _)=>x=.exit 2∧E=((((((((((Env.none.upd 0 (.ro (Rd.slice (Rd.int .u8)) true x1)).upd 1 (.lit (.int .i64 x11))).upd 6 (.ro (Rd.slice rdS_zip_entry) false x5)).upd 7 (.lit (.int .i64 x6))).upd 9 (.whole 0)).upd 10 (.lit (.int .i64 x12))).upd 12 (.ptr 1 0)).upd 28 (.ro (Rd.slice rdS_zip_entry) false x5)).upd 29 (.lit (.int .i64 ((List.length x5:Nat):Int)))).upd 30 (.lit (.int .i64 x13)))∧M=((Mem.nil.push (.row 41 rdS_api_File x14)).push (.cells 47 [.lit (.int .i64 x16.fmethod),.lit (.int .i64 x16.fcrc),.lit (.int .i64 x16.fpacked),.lit (.int .i64 x16.fsize),.lit (.string x16.fname),.lit (.int .i64 x16.fat)]))) ?_ ?_
     · refine WP.loop (β:=Int) (fun n b=>g_zip_Read_l1 k x5 x13 x16 x18 n b=some y2) (fun b=>(((((((((((((Env.none.upd 0 (.ro (Rd.slice (Rd.int .u8)) true x1)).upd 1 (.lit (.int .i64 x11))).upd 6 (.ro (Rd.slice rdS_zip_entry) false x5)).upd 7 (.lit (.int .i64 x6))).upd 9 (.whole 0)).upd 10 (.lit (.int .i64 x12))).upd 12 (.ptr 1 0)).upd 28 (.ro (Rd.slice rdS_zip_entry) false x5)).upd 29 (.lit (.int .i64 ((List.length x5:Nat):Int)))).upd 30 (.lit (.int .i64 x13))).upd 41 (.ro (Rd.slice rdS_zip_entry) false (List.drop (Int.toNat 0) (List.take (Int.toNat x13) x5)))).upd 42 (.lit (.int .i64 x18))).upd 43 (.lit (.int .i64 b)))) (fun b=>((Mem.nil.push (.row 41 rdS_api_File x14)).push (.cells 47 [.lit (.int .i64 x16.fmethod),.lit (.int .i64 x16.fcrc),.lit (.int .i64 x16.fpacked),.lit (.int .i64 x16.fsize),.lit (.string x16.fname),.lit (.int .i64 x16.fat)]))) k 0 H2 rfl rfl ?_;rintro n x19 H;obtain _ | n:=n
       · exact nf rfl H
       rw [g_zip_Read_l1.eq_2] at H;show WP _ _ _ _ (((((((((((((Env.none.upd 0 (.ro (Rd.slice (Rd.int .u8)) true x1)).upd 1 (.lit (.int .i64 x11))).upd 6 (.ro (Rd.slice rdS_zip_entry) false x5)).upd 7 (.lit (.int .i64 x6))).upd 9 (.whole 0)).upd 10 (.lit (.int .i64 x12))).upd 12 (.ptr 1 0)).upd 28 (.ro (Rd.slice rdS_zip_entry) false x5)).upd 29 (.lit (.int .i64 ((List.length x5:Nat):Int)))).upd 30 (.lit (.int .i64 x13))).upd 41 (.ro (Rd.slice rdS_zip_entry) false (List.drop (Int.toNat 0) (List.take (Int.toNat x13) x5)))).upd 42 (.lit (.int .i64 x18))).upd 43 (.lit (.int .i64 x19))) ((Mem.nil.push (.row 41 rdS_api_File x14)).push (.cells 47 [.lit (.int .i64 x16.fmethod),.lit (.int .i64 x16.fcrc),.lit (.int .i64 x16.fpacked),.lit (.int .i64 x16.fsize),.lit (.string x16.fname),.lit (.int .i64 x16.fat)])) _;(iterate 3 refine sp ?_);refine WP.seq ?_;refine cq H (fun hb5 H=>?_) fun hb5 H=>?_
       · (iterate 3 refine sp ?_);refine WP.seq ?_;(iterate 2 refine sp ?_);obtain ⟨x20,h7,H⟩:=bnd H;refine sp ?_;refine WPL.qq (q_load_roag ag47 rfl rfl S_zip_entry.sp) ?_;(iterate 8 refine sp ?_);obtain ⟨x21,h7,H⟩:=bnd H;refine WPL.c (rc [] [] 3 [] (s_st_EqualFold k x16.fname x20.fname x21 h7)) rfl ?_;refine sp ?_;refine cq H (fun hb6 H=>?_) fun hb6 H=>?_
         · (iterate 5 refine sp ?_);have q0:=j1 H;subst q0;exact wq [] (InBlock.r (Then.r (Then.r r3)))
         (iterate 2 refine sp ?_);refine InBlock.n ?_;(iterate 4 refine sp ?_);refine WPL.nilW ?_;exact wq [0,1] (Then.n ⟨n,(IntKind.wrap .i64 (x19+1)),Nat.lt_succ_self n,H,rfl,rfl⟩)
       refine sp ?_;have q0:=j1 H;subst q0;exact wq [0,1] (Then.x (Then.x r3))
     rcases y2 with _ | _
     · rintro _ _ _ ⟨rfl,rfl,rfl⟩;have q0:=j1 H;subst q0;exact wq [] (InBlock.r (Then.r (InBlock.r (Then.r (Then.r r3)))))
     rintro _ _ _ ⟨rfl,rfl,rfl⟩;(iterate 3 refine sp ?_);refine WP.seq ?_;refine WP.seq ?_;obtain ⟨x22,H3,H⟩:=bnd H;refine mo .normal (((((((((((Env.none.upd 0 (.ro (Rd.slice (Rd.int .u8)) true x1)).upd 1 (.lit (.int .i64 x11))).upd 6 (.ro (Rd.slice rdS_zip_entry) false x5)).upd 7 (.lit (.int .i64 x6))).upd 9 (.whole 0)).upd 10 (.lit (.int .i64 x12))).upd 12 (.ptr 1 0)).upd 28 (.ro (Rd.slice rdS_zip_entry) false x5)).upd 29 (.lit (.int .i64 ((List.length x5:Nat):Int)))).upd 30 (.lit (.int .i64 x13))).upd 75 (.lit (.bool x22))) ((Mem.nil.push (.row 41 rdS_api_File x14)).push (.cells 47 [.lit (.int .i64 x16.fmethod),.lit (.int .i64 x16.fcrc),.lit (.int .i64 x16.fpacked),.lit (.int .i64 x16.fsize),.lit (.string x16.fname),.lit (.int .i64 x16.fat)])) ?_ ?_
     · clear H;have H:=H3;clear H3;refine WP.regionD' 23 [1] [] mixed rfl ?_;refine dT 0 ?_;refine dK 1 ?_;refine dT 2 ?_;refine dT 3 ?_;refine ds 56 H (fun hb7 H=>?_) fun hb7 H=>?_
       · refine dG 4 ?_;refine dH 5 ?_;refine dG 6 ?_;refine dT 7 ?_;refine dT 8 ?_;refine ds 61 H (fun hb8 H=>?_) fun hb8 H=>?_
         · refine dP true 9 ?_;refine dP true 10 ?_;refine dP true 11 ?_;refine dP true 12 ?_;refine dT 13 ?_;refine dT 14 ?_;refine dP true 15 ?_;refine dP true 16 ?_;refine dP true 17 ?_;refine dP true 18 ?_;refine dP true 19 ?_;refine dP true 20 ?_;refine dP true 21 ?_;refine dT 22 ?_;refine WPD.doneW (by kernel_rfl) ?_;have q0:=j1 H;subst q0;exact wq [0,1]
         refine dG 9 ?_;refine dG 11 ?_;refine dH 10 ?_;refine dG 12 ?_;refine dT 13 ?_;refine dT 14 ?_;refine ds 67 H (fun hb9 H=>?_) fun hb9 H=>?_
         · refine dP true 15 ?_;refine dP true 16 ?_;refine dP true 17 ?_;refine dP true 18 ?_;refine dP true 19 ?_;refine dP true 20 ?_;refine dP true 21 ?_;refine dT 22 ?_;refine WPD.doneW (by kernel_rfl) ?_;have q0:=j1 H;subst q0;exact wq [0,1]
         refine dG 15 ?_;refine dG 16 ?_;obtain ⟨h8,H⟩:=grd H;refine WPD.takegT 17 rfl (by kernel_rfl) rfl rfl (lb hb9) (q_slice_ro (i:=x12) (j:=((List.length x1:Nat):Int)) sl23 rfl rfl ⟨_,rfl⟩ rfl h8) rfl ?_;refine dH 18 ?_;obtain ⟨x23,h9,H⟩:=bnd H;refine dF 19 [1] [] rfl (rc [] [] 2 [] (s_zip_local k x16.fmethod x16.fcrc x16.fpacked x16.fsize x16.fname x16.fat x23 h9)) ?_;obtain ⟨x24,h10,H⟩:=bnd H;refine dF 20 [1] [] rfl (rc [] [] 2 [] (s_zip_begins k (List.drop (Int.toNat x12) (List.take (Int.toNat ((List.length x1:Nat):Int)) x1)) x23 x24 h10)) ?_;refine dG 21 ?_;refine dT 22 ?_;refine WPD.doneW (by kernel_rfl) ?_;have q0:=j1 H;subst q0;exact wq [0,1]
       refine dP false 4 ?_;refine dP false 5 ?_;refine dP false 6 ?_;refine dT 7 ?_;refine dT 8 ?_;refine dG 9 ?_;refine dG 11 ?_;refine dH 10 ?_;refine dG 12 ?_;refine dT 13 ?_;refine dT 14 ?_;refine ds 67 H (fun hb10 H=>?_) fun hb10 H=>?_
       · refine dP true 15 ?_;refine dP true 16 ?_;refine dP true 17 ?_;refine dP true 18 ?_;refine dP true 19 ?_;refine dP true 20 ?_;refine dP true 21 ?_;refine dT 22 ?_;refine WPD.doneW (by kernel_rfl) ?_;have q0:=j1 H;subst q0;exact wq [0,1]
       refine dG 15 ?_;refine dG 16 ?_;obtain ⟨h11,H⟩:=grd H;refine WPD.takegT 17 rfl (by kernel_rfl) rfl rfl (lb hb10) (q_slice_ro (i:=x12) (j:=((List.length x1:Nat):Int)) sl23 rfl rfl ⟨_,rfl⟩ rfl h11) rfl ?_;refine dH 18 ?_;obtain ⟨x25,h12,H⟩:=bnd H;refine dF 19 [1] [] rfl (rc [] [] 2 [] (s_zip_local k x16.fmethod x16.fcrc x16.fpacked x16.fsize x16.fname x16.fat x25 h12)) ?_;obtain ⟨x26,h13,H⟩:=bnd H;refine dF 20 [1] [] rfl (rc [] [] 2 [] (s_zip_begins k (List.drop (Int.toNat x12) (List.take (Int.toNat ((List.length x1:Nat):Int)) x1)) x25 x26 h13)) ?_;refine dG 21 ?_;refine dT 22 ?_;refine WPD.doneW (by kernel_rfl) ?_;have q0:=j1 H;subst q0;exact wq [0,1]
     (iterate 2 refine sp ?_);refine cq H (fun hb11 H=>?_) fun hb11 H=>?_
     · (iterate 5 refine sp ?_);have q0:=j1 H;subst q0;exact wq [] (Then.r (InBlock.r (Then.r (Then.r r3))))
     (iterate 3 refine sp ?_);refine WP.seq ?_;(iterate 4 refine sp ?_);obtain ⟨x27,h14,H⟩:=bnd H;refine sn (nm_int h14) ?_;(iterate 2 refine sp ?_);refine cq H (fun hb12 H=>?_) fun hb12 H=>?_
     · (iterate 5 refine sp ?_);have q0:=j1 H;subst q0;exact wq [] (Then.r (InBlock.r (Then.r (Then.r r3))))
     (iterate 14 refine sp ?_);obtain ⟨x28,h15,H⟩:=bnd H;refine sn (nm_int h15) ?_;refine sp ?_;obtain ⟨x29,h16,H⟩:=bnd H;refine sn (nm_int h16) ?_;(iterate 2 refine sp ?_);refine WP.seq ?_;(iterate 6 refine sp ?_);obtain ⟨x30,h17,H⟩:=bnd H;refine sn (nm_bool h17) ?_;refine sp ?_;refine cq H (fun hb13 H=>?_) fun hb13 H=>?_
     · (iterate 5 refine sp ?_);have q0:=j1 H;subst q0;exact wq [] (Then.r (InBlock.r (Then.r (Then.r r3))))
     (iterate 3 refine sp ?_);refine WP.seq ?_;refine WP.regionD' 14 [1] [] mixed rfl ?_;refine dT 1 ?_;refine dT 2 ?_;refine dT 3 ?_;refine dT 4 ?_;refine dK 0 ?_;refine dK 5 ?_;obtain ⟨x31,h18,H⟩:=bnd H;refine dT 6 ?_ rfl (q_nm aq (nm_int h18));obtain ⟨h18,H⟩:=grd H;refine WPD.tT 7 rfl (q_slice_ro (i:=x29) (j:=x31) sl23 rfl rfl ⟨_,rfl⟩ ⟨_,rfl⟩ h18) ?_;obtain ⟨⟨x32,x33⟩,h19,H⟩:=bnd H;refine dE 8 [1] [] rfl (rc [] [] 2 [] (s_zip_entry_unpacked k x16.fmethod x16.fcrc x16.fpacked x16.fsize x16.fname x16.fat (List.drop (Int.toNat x29) (List.take (Int.toNat x31) x1)) x32 x33 h19)) ?_;refine dT 9 ?_;refine dT 10 ?_;refine dT 11 ?_;refine dT 12 ?_;refine dT 13 ?_;refine WPD.doneW (by kernel_rfl) ?_;(iterate 2 refine sp ?_);refine WP.seq ?_;(iterate 4 refine sp ?_);refine cq H (fun hb14 H=>?_) fun hb14 H=>?_
     · (iterate 6 refine sp ?_);have q0:=j1 H;subst q0;exact wq [] (Then.r (InBlock.r (Then.r (Then.r r3))))
     (iterate 7 refine sp ?_);obtain ⟨x34,h20,H⟩:=bnd H;refine sn (nm_int h20) ?_;(iterate 8 refine sp ?_);refine WPL.d (d_buildSlice (ds:=([(⟨x16.fname,x32⟩:S_api_File)]:List S_api_File)) (R:=rdS_api_File) li22 rfl rfl rfl rfl rfl (JoinRows.cons (l:=[.lit (.string x16.fname),.ro (Rd.slice (Rd.int .u8)) false x32]) (Joins.via (Joins.cons Joins.sc (Joins.cons Joins.one Joins.unit))) rfl JoinRows.nil) rfl rfl) rfl ?_;obtain ⟨h20,H⟩:=grd H;refine WPL.d (d_append ap22 rfl rfl rfl rfl (src_row sl22 rfl rfl) h20 rfl) rfl ?_;refine sp ?_;refine WPL.nilW ?_;refine sp ?_;refine InBlock.n ?_;(iterate 4 refine sp ?_);refine WPL.nilW ?_;exact wq [3] (Then.n ⟨n,((IntKind.wrap .i64 (x11 - x16.fsize)),x34,(IntKind.wrap .i64 (x13+1)),(x14++([(⟨x16.fname,x32⟩:S_api_File)]:List S_api_File))),Nat.lt_succ_self n,H,rfl,rfl⟩)
   refine sp ?_;have q0:=j1 H;subst q0;exact wq [0] (Then.x (Then.x r3))
 rcases y1 with x8 | ⟨x9,x10⟩
 · rintro _ _ _ ⟨rfl,rfl,rfl⟩;refine W.cv (Cv.nilRo rdS_api_File false 4 rfl) rfl ?_;obtain ⟨rfl,rfl⟩:=j2 H;exact W.now (InBlock.r (Then.r (mb [])))
 rintro _ _ _ ⟨rfl,rfl,rfl⟩;(iterate 3 refine sp ?_);refine WP.seq ?_;(iterate 5 refine sp ?_);refine cq H (fun hb15 H=>?_) fun hb15 H=>?_
 · (iterate 5 refine sp ?_);refine W.cv (Cv.nilRo rdS_api_File false 4 rfl) rfl ?_;obtain ⟨rfl,rfl⟩:=j2 H;exact W.now (Then.r (mb []))
 (iterate 9 refine sp ?_);refine W.cv (Cv.frzRow (i:=0) rfl rfl hnp rfl rfl) rfl ?_;obtain ⟨rfl,rfl⟩:=j2 H;exact W.now (mb [])
theorem s_quirelaw05_alive (k:Nat) (x1:Bool) (H:g_quirelaw05_alive k=some x1):Go.Q.Spec Tryz.prog 12 0 [] Mem.nil (fun o M=>o=.ret (.lit (.bool x1))∧M=Mem.nil):=by
 unfold g_quirelaw05_alive at H;refine bo Tryz.func12 [] [.tmp 0] 63 fun cx hnp=>?_;(iterate 4 refine sp ?_);refine WPL.d (d_buildSlice (ds:=([120]:List Int)) (R:=(Rd.int .u8)) li23 rfl rfl rfl rfl rfl (JoinRows.cons1 Joins.sc rfl JoinRows.nil) rfl rfl) rfl ?_;refine WPL.d (d_bytesConst Tryz.underlying23 Tryz.underlying5 rfl rfl rfl) rfl ?_;refine sp ?_;refine WPL.cv (Cv.frzRow (i:=0) rfl rfl hnp rfl rfl) ?_;refine WPL.d (d_buildSlice (ds:=([(⟨(ByteArray.mk #[97]),([120]:List Int)⟩:S_api_File)]:List S_api_File)) (R:=rdS_api_File) li22 rfl rfl rfl rfl rfl (JoinRows.cons (l:=[.lit (.string (ByteArray.mk #[97])),.ro (Rd.slice (Rd.int .u8)) false ([120]:List Int)]) (Joins.via (Joins.cons Joins.sc (Joins.cons Joins.one Joins.unit))) rfl JoinRows.nil) rfl rfl) rfl ?_;obtain ⟨⟨x2,x3⟩,h1,H⟩:=bnd H;refine WPL.cv (Cv.frzRow (i:=1) rfl rfl hnp rfl rfl) ?_;refine WPL.c (rc [] [2] 3 [] (s_zip_Write k ([(⟨(ByteArray.mk #[97]),([120]:List Int)⟩:S_api_File)]:List S_api_File) 0 x2 x3 h1)) rfl ?_;(iterate 8 refine sp ?_);obtain ⟨⟨x4,x5⟩,h2,H⟩:=bnd H;refine WPL.c (rc [] [] 3 [2] (s_zip_Read k x3 9 x4 x5 h2)) rfl ?_;(iterate 6 refine sp ?_);refine WP.seq ?_;refine WP.seq ?_;obtain ⟨x6,H1,H⟩:=bnd H;refine mo .normal ((Env.none.upd 1 (.whole 0)).upd 50 (.lit (.bool x6))) (Mem.nil.push (.row 5 (Rd.int .u8) x3)) ?_ ?_
 · clear H;have H:=H1;clear H1;(iterate 4 refine sp ?_);refine ws 22 H (fun hb1 H=>?_) fun hb1 H=>?_
   · (iterate 28 refine sp ?_);refine WPL.nilW ?_;have q0:=j1 H;subst q0;exact wq [2]
   (iterate 4 refine sp ?_);refine ws 26 H (fun hb2 H=>?_) fun hb2 H=>?_
   · (iterate 24 refine sp ?_);refine WPL.nilW ?_;have q0:=j1 H;subst q0;exact wq [2]
   (iterate 2 refine sp ?_);obtain ⟨x7,h3,H⟩:=bnd H;refine sn (nm_bool h3) ?_;(iterate 2 refine sp ?_);refine ws 31 H (fun hb3 H=>?_) fun hb3 H=>?_
   · (iterate 19 refine sp ?_);refine WPL.nilW ?_;have q0:=j1 H;subst q0;exact wq [2]
   (iterate 2 refine sp ?_);obtain ⟨x8,h4,H⟩:=bnd H;refine sn (nm_bool h4) ?_;(iterate 2 refine sp ?_);refine ws 36 H (fun hb4 H=>?_) fun hb4 H=>?_
   · (iterate 14 refine sp ?_);refine WPL.nilW ?_;have q0:=j1 H;subst q0;exact wq [2]
   refine sp ?_;obtain ⟨x9,h5,H⟩:=bnd H;refine sp ?_;refine WPL.gq rfl (lb hb4) (q_fieldAddr_ro fi41_0 rfl rfl S_api_File.p0 (Nat.le_of_ble_eq_true rfl)) ?_;refine sp ?_;obtain ⟨x10,h6,H⟩:=bnd H;refine sn (nm_bool h6) ?_;(iterate 2 refine sp ?_);refine ws 43 H (fun hb5 H=>?_) fun hb5 H=>?_
   · (iterate 7 refine sp ?_);refine WPL.nilW ?_;have q0:=j1 H;subst q0;exact wq [2]
   refine sp ?_;obtain ⟨x11,h7,H⟩:=bnd H;refine sp ?_;refine WPL.gq rfl (lb hb5) (q_fieldAddr_ro fi41_1 rfl rfl S_api_File.p1 (Nat.le_of_ble_eq_true rfl)) ?_;refine WPL.gq rfl (lb hb5) (q_load_ro sc23 rfl rfl) ?_;refine WPL.gq rfl (lb hb5) (q_bytes_str Tryz.underlying23 Tryz.underlying5 Tryz.underlying9 rfl) ?_;obtain ⟨x12,h8,H⟩:=bnd H;refine sn (nm_bool h8) ?_;refine sp ?_;refine WPL.nilW ?_;have q0:=j1 H;subst q0;exact wq [2]
 (iterate 2 refine sp ?_);refine cq H (fun hb6 H=>?_) fun hb6 H=>?_
 · (iterate 4 refine sp ?_);have q0:=j1 H;subst q0;exact W.now (Then.r (mb []))
 (iterate 5 refine sp ?_);obtain ⟨x13,h9,H⟩:=bnd H;refine WPL.qq (q_index_row sl23 rfl rfl rfl (ixs h9)) ?_;refine WPL.qq (q_load_row (j:=(Int.toNat 31)) sc5 rfl rfl (ixj h9)) ?_;refine sp ?_;obtain ⟨x14,h10,H⟩:=bnd H;refine WPL.qq (q_index_row sl23 rfl rfl rfl (ixs h10)) ?_;refine WPL.s (s_store_row (j:=(Int.toNat 31)) (d:=(IntKind.wrap .u8 (x13+1))) sz5 rfl rfl rfl rfl Joins.sc (ixl h10)) ?_;(iterate 3 refine sp ?_);obtain ⟨⟨x15,x16⟩,h10,H⟩:=bnd H;refine WPL.c (rc [] [] 1 [0] (s_zip_Read k (List.set x3 (Int.toNat 31) (IntKind.wrap .u8 (x13+1))) 9 x15 x16 h10)) rfl ?_;(iterate 12 refine sp ?_);have q0:=j1 H;subst q0;exact W.now (mb [])
theorem s_quireref01_Crc (k:Nat) (x1:(List Int)) (x2:Int) (H:g_quireref01_Crc k x1=some x2):Go.Q.Spec Tryz.prog 52 0 [.ro (Rd.slice (Rd.int .u8)) false x1] Mem.nil (fun o M=>o=.ret (.lit (.int .u32 x2))∧M=Mem.nil):=by
 unfold g_quireref01_Crc at H;refine bo Tryz.func52 [] [.tmp 2] 33 fun cx hnp=>?_;(iterate 6 refine sp ?_);refine WP.seq ?_;(iterate 4 refine sp ?_);refine WP.cv (Cv.weak (E':=(((Env.none.upd 0 (.ro (Rd.slice (Rd.int .u8)) false x1)).upd 3 (.lit (.int .u32 4294967295))).upd 4 (.lit (.int .i64 0)))) (M':=Mem.nil) [] hnp ⟨rfl,trivial,by decide,rfl,trivial⟩ (LeE.u (LeE.u (LeE.u (LeE.none rfl rfl))))) ?_;obtain ⟨x3,H1,H⟩:=bnd H;refine mo (.exit 0) (Env.none.upd 3 (.lit (.int .u32 x3))) Mem.nil ?_ ?_
 · refine WP.loop (β:=Int × Int) (fun n b=>g_quireref01_Crc_l0 k x1 n b.1 b.2=some x3) (fun b=>(((Env.none.upd 0 (.ro (Rd.slice (Rd.int .u8)) false x1)).upd 3 (.lit (.int .u32 b.1))).upd 4 (.lit (.int .i64 b.2)))) (fun b=>Mem.nil) k (4294967295,0) H1 rfl rfl ?_;rintro n ⟨x4,x5⟩ H;obtain _ | n:=n
   · exact nf rfl H
   rw [g_quireref01_Crc_l0.eq_2] at H;show WP _ _ _ _ (((Env.none.upd 0 (.ro (Rd.slice (Rd.int .u8)) false x1)).upd 3 (.lit (.int .u32 x4))).upd 4 (.lit (.int .i64 x5))) Mem.nil _;refine WP.seq ?_;(iterate 4 refine sp ?_);obtain ⟨x6,h1,H⟩:=bnd H;refine sn (nm_bool h1) ?_;refine sp ?_;refine cq H (fun hb1 H=>?_) fun hb1 H=>?_
   · (iterate 3 refine sp ?_);refine WP.seq ?_;(iterate 5 refine sp ?_);obtain ⟨x7,h2,H⟩:=bnd H;(iterate 3 refine sp ?_);obtain ⟨x8,h3,H⟩:=bnd H;refine sn (nm_int h3) ?_;(iterate 6 refine sp ?_);refine WP.cv (Cv.weak (E':=((((Env.none.upd 0 (.ro (Rd.slice (Rd.int .u8)) false x1)).upd 3 (.lit (.int .u32 x8))).upd 4 (.lit (.int .i64 x5))).upd 5 (.lit (.int .i64 0)))) (M':=Mem.nil) [] hnp ⟨rfl,trivial,by decide,rfl,trivial⟩ (LeE.u (LeE.u (LeE.u (LeE.u (LeE.none rfl rfl)))))) ?_;obtain ⟨x9,H2,H⟩:=bnd H;refine mo (.exit 2) (((Env.none.upd 0 (.ro (Rd.slice (Rd.int .u8)) false x1)).upd 3 (.lit (.int .u32 x9))).upd 4 (.lit (.int .i64 x5))) Mem.nil ?_ ?_
     · refine WP.loop (β:=Int × Int) (fun n b=>g_quireref01_Crc_l1 k n b.1 b.2=some x9) (fun b=>((((Env.none.upd 0 (.ro (Rd.slice (Rd.int .u8)) false x1)).upd 3 (.lit (.int .u32 b.1))).upd 4 (.lit (.int .i64 x5))).upd 5 (.lit (.int .i64 b.2)))) (fun b=>Mem.nil) k (x8,0) H2 rfl rfl ?_;rintro n ⟨x10,x11⟩ H;obtain _ | n:=n
       · exact nf rfl H
       rw [g_quireref01_Crc_l1.eq_2] at H;show WP _ _ _ _ ((((Env.none.upd 0 (.ro (Rd.slice (Rd.int .u8)) false x1)).upd 3 (.lit (.int .u32 x10))).upd 4 (.lit (.int .i64 x5))).upd 5 (.lit (.int .i64 x11))) Mem.nil _;refine WP.seq ?_;(iterate 4 refine sp ?_);refine cq H (fun hb2 H=>?_) fun hb2 H=>?_
       · (iterate 3 refine sp ?_);refine WP.seq ?_;obtain ⟨x12,H3,H⟩:=bnd H;refine mo .normal ((((Env.none.upd 0 (.ro (Rd.slice (Rd.int .u8)) false x1)).upd 3 (.lit (.int .u32 x12))).upd 4 (.lit (.int .i64 x5))).upd 5 (.lit (.int .i64 x11))) Mem.nil ?_ ?_
         · clear H;have H:=H3;clear H3;(iterate 6 refine sp ?_);refine cq H (fun hb3 H=>?_) fun hb3 H=>?_
           · (iterate 3 refine sp ?_);obtain ⟨x13,h4,H⟩:=bnd H;refine sn (nm_int h4) ?_;refine sp ?_;refine WPL.nilW ?_;have q0:=j1 H;subst q0;exact wq [] (InBlock.n r3)
           (iterate 4 refine sp ?_);refine WPL.nilW ?_;have q0:=j1 H;subst q0;exact wq [] (InBlock.n r3)
         (iterate 6 refine sp ?_);refine WPL.nilW ?_;exact wq [] (Then.n ⟨n,(x12,(IntKind.wrap .i64 (x11+1))),Nat.lt_succ_self n,H,rfl,rfl⟩)
       refine sp ?_;have q0:=j1 H;subst q0;exact wq [] (Then.x (Then.x r3))
     (iterate 2 refine sp ?_);refine InBlock.n ?_;(iterate 5 refine sp ?_);refine WPL.nilW ?_;exact wq [] (Then.n ⟨n,(x9,(IntKind.wrap .i64 (x5+1))),Nat.lt_succ_self n,H,rfl,rfl⟩)
   refine sp ?_;have q0:=j1 H;subst q0;exact wq [] (Then.x (Then.x r3))
 (iterate 5 refine sp ?_);obtain ⟨x14,h5,H⟩:=bnd H;refine WPL.qq (q_nm (q_com rfl) (nm_int h5)) ?_;(iterate 3 refine sp ?_);have q0:=j1 H;subst q0;exact W.now (mb [])
theorem s_quireref05_Crc (k:Nat) (x1:(List Int)) (x2:Int) (H:g_quireref05_Crc k x1=some x2):Go.Q.Spec Tryz.prog 26 0 [.ro (Rd.slice (Rd.int .u8)) false x1] Mem.nil (fun o M=>o=.ret (.lit (.int .i64 x2))∧M=Mem.nil):=by
 unfold g_quireref05_Crc at H;refine bo Tryz.func26 [] [.tmp 2] 6 fun cx hnp=>?_;(iterate 5 refine sp ?_);obtain ⟨x3,h1,H⟩:=bnd H;refine WPL.c (rc [] [] 0 [] (s_quireref01_Crc k x1 x3 h1)) rfl ?_;(iterate 4 refine sp ?_);have q0:=j1 H;subst q0;exact W.now (mb [])
theorem s_quireref05_num (k:Nat) (x1:Int) (x2:Int) (x3:(List Int)) (H:g_quireref05_num k x1 x2=some x3):Go.Q.Spec Tryz.prog 53 0 [.lit (.int .i64 x1),.lit (.int .i64 x2)] Mem.nil (fun o M=>o=.ret (.whole 0)∧M=(Mem.nil.push (.row 5 (Rd.int .u8) x3))):=by
 unfold g_quireref05_num at H;refine bo Tryz.func53 [] [.tmp 4] 22 fun cx hnp=>?_;(iterate 6 refine sp ?_);refine WP.seq ?_;(iterate 4 refine sp ?_);refine WP.cv (Cv.vir 5 (Rd.int .u8) (N:=0) rfl 5 rfl) ?_;refine WP.cv (Cv.weak (E':=((((Env.none.upd 0 (.lit (.int .i64 x1))).upd 1 (.lit (.int .i64 x2))).upd 5 (.whole 0)).upd 6 (.lit (.int .i64 0)))) (M':=(Mem.nil.push (.row 5 (Rd.int .u8) ([]:List Int)))) [0] hnp ⟨rfl,AA1,by decide,rfl,trivial⟩ (LeE.u (LeE.u (LeE.u (LeE.u (LeE.none rfl rfl)))))) ?_;obtain ⟨x4,H1,H⟩:=bnd H;refine mo (.exit 0) (Env.none.upd 5 (.whole 0)) (Mem.nil.push (.row 5 (Rd.int .u8) x4)) ?_ ?_
 · refine WP.loop (β:=Int × (List Int)) (fun n b=>g_quireref05_num_l0 k x1 x2 n b.1 b.2=some x4) (fun b=>((((Env.none.upd 0 (.lit (.int .i64 x1))).upd 1 (.lit (.int .i64 x2))).upd 5 (.whole 0)).upd 6 (.lit (.int .i64 b.1)))) (fun b=>(Mem.nil.push (.row 5 (Rd.int .u8) b.2))) k (0,([]:List Int)) H1 rfl rfl ?_;rintro n ⟨x5,x6⟩ H;obtain _ | n:=n
   · exact nf rfl H
   rw [g_quireref05_num_l0.eq_2] at H;show WP _ _ _ _ ((((Env.none.upd 0 (.lit (.int .i64 x1))).upd 1 (.lit (.int .i64 x2))).upd 5 (.whole 0)).upd 6 (.lit (.int .i64 x5))) (Mem.nil.push (.row 5 (Rd.int .u8) x6)) _;refine WP.seq ?_;(iterate 5 refine sp ?_);refine cq H (fun hb1 H=>?_) fun hb1 H=>?_
   · (iterate 3 refine sp ?_);refine WP.seq ?_;(iterate 6 refine sp ?_);obtain ⟨x7,h1,H⟩:=bnd H;refine sn (nm_int h1) ?_;obtain ⟨h1,H⟩:=grd H;refine WPL.qq (q_shr rfl rfl h1) ?_;refine sp ?_;refine WPL.d (d_buildSlice (ds:=([(IntKind.wrap .u8 (shrI .i64 x1 x7))]:List Int)) (R:=(Rd.int .u8)) li23 rfl rfl rfl rfl rfl (JoinRows.cons1 Joins.sc rfl JoinRows.nil) rfl rfl) rfl ?_;obtain ⟨h2,H⟩:=grd H;refine WPL.d (d_append ap23 rfl rfl rfl rfl (src_row sl23 rfl rfl) h2 rfl) rfl ?_;refine sp ?_;refine WPL.nilW ?_;refine sp ?_;refine InBlock.n ?_;(iterate 5 refine sp ?_);refine WPL.nilW ?_;exact wq [2] (Then.n ⟨n,((IntKind.wrap .i64 (x5+1)),(x6++([(IntKind.wrap .u8 (shrI .i64 x1 x7))]:List Int))),Nat.lt_succ_self n,H,rfl,rfl⟩)
   refine sp ?_;have q0:=j1 H;subst q0;exact wq [0] (Then.x (Then.x r3))
 (iterate 8 refine sp ?_);have q0:=j1 H;subst q0;exact W.now (mb [0])
theorem s_quireref05_common (k:Nat) (x1:Int) (x2:Int) (x3:Int) (x4:Int) (x5:ByteArray) (x6:(List Int)) (H:g_quireref05_common k x1 x2 x3 x4 x5=some x6):Go.Q.Spec Tryz.prog 54 0 [.agg [.lit (.int .i64 x1),.lit (.int .i64 x2),.lit (.int .i64 x3),.lit (.int .i64 x4),.lit (.string x5)]] Mem.nil (fun o M=>o=.ret (.ro (Rd.slice (Rd.int .u8)) false x6)∧M=Mem.nil):=by
 unfold g_quireref05_common at H;refine bo Tryz.func54 [] [.tmp 2] 36 fun cx hnp=>?_;(iterate 4 refine sp ?_);refine WP.seq ?_;refine WP.regionD' 6 [0] [] mixed rfl ?_;refine dT 1 ?_;refine dK 2 ?_;obtain ⟨x7,h1,H⟩:=bnd H;refine dE 0 [0] [] rfl (rc [] [1] 2 [] (s_quireref05_num k 0 2 x7 h1)) ?_;obtain ⟨x8,h2,H⟩:=bnd H;refine dE 3 [0] [] rfl (rc [] [2] 3 [] (s_quireref05_num k x1 2 x8 h2)) ?_;obtain ⟨h3,H⟩:=grd H;refine dE 4 [0] [] rfl (Does.runs (d_append ap23 rfl rfl rfl rfl (src_row sl23 rfl rfl) h3 rfl)) ?_;refine dT 5 ?_;refine WPD.doneW (by kernel_rfl) ?_;(iterate 4 refine sp ?_);obtain ⟨x9,h4,H⟩:=bnd H;refine WPL.c (rc [] [4] 5 [] (s_quireref05_num k 0 2 x9 h4)) rfl ?_;obtain ⟨h5,H⟩:=grd H;refine WPL.d (d_append ap23 rfl rfl rfl rfl (src_row sl23 rfl rfl) h5 rfl) rfl ?_;(iterate 4 refine sp ?_);obtain ⟨x10,h6,H⟩:=bnd H;refine WPL.c (rc [] [6] 7 [] (s_quireref05_num k 33 2 x10 h6)) rfl ?_;obtain ⟨h7,H⟩:=grd H;refine WPL.d (d_append ap23 rfl rfl rfl rfl (src_row sl23 rfl rfl) h7 rfl) rfl ?_;(iterate 6 refine sp ?_);obtain ⟨x11,h8,H⟩:=bnd H;refine WPL.c (rc [] [8] 9 [] (s_quireref05_num k x2 4 x11 h8)) rfl ?_;obtain ⟨h9,H⟩:=grd H;refine WPL.d (d_append ap23 rfl rfl rfl rfl (src_row sl23 rfl rfl) h9 rfl) rfl ?_;(iterate 6 refine sp ?_);obtain ⟨x12,h10,H⟩:=bnd H;refine WPL.c (rc [] [10] 11 [] (s_quireref05_num k x3 4 x12 h10)) rfl ?_;obtain ⟨h11,H⟩:=grd H;refine WPL.d (d_append ap23 rfl rfl rfl rfl (src_row sl23 rfl rfl) h11 rfl) rfl ?_;(iterate 6 refine sp ?_);obtain ⟨x13,h12,H⟩:=bnd H;refine WPL.c (rc [] [12] 13 [] (s_quireref05_num k x4 4 x13 h12)) rfl ?_;obtain ⟨h13,H⟩:=grd H;refine WPL.d (d_append ap23 rfl rfl rfl rfl (src_row sl23 rfl rfl) h13 rfl) rfl ?_;(iterate 7 refine sp ?_);obtain ⟨x14,h14,H⟩:=bnd H;refine WPL.c (rc [] [14] 15 [] (s_quireref05_num k ((ByteArray.size x5:Nat):Int) 2 x14 h14)) rfl ?_;obtain ⟨h15,H⟩:=grd H;refine WPL.d (d_append ap23 rfl rfl rfl rfl (src_row sl23 rfl rfl) h15 rfl) rfl ?_;(iterate 3 refine sp ?_);refine W.cv (Cv.frzRow (i:=15) rfl rfl hnp rfl rfl) rfl ?_;have q0:=j1 H;subst q0;exact W.now (mb [])
theorem s_quireref05_Central (k:Nat) (x1:Int) (x2:Int) (x3:Int) (x4:Int) (x5:ByteArray) (x6:Int) (x7:(List Int)) (H:g_quireref05_Central k x1 x2 x3 x4 x5 x6=some x7):Go.Q.Spec Tryz.prog 27 0 [.agg [.lit (.int .i64 x1),.lit (.int .i64 x2),.lit (.int .i64 x3),.lit (.int .i64 x4),.lit (.string x5)],.lit (.int .i64 x6)] Mem.nil (fun o M=>o=.ret (.ro (Rd.slice (Rd.int .u8)) false x7)∧M=Mem.nil):=by
 unfold g_quireref05_Central at H;refine bo Tryz.func27 [] [.tmp 4] 30 fun cx hnp=>?_;(iterate 5 refine sp ?_);refine WPL.d (d_buildSlice (ds:=([80,75,1,2]:List Int)) (R:=(Rd.int .u8)) li23 rfl rfl rfl rfl rfl (JoinRows.cons1 Joins.sc rfl (JoinRows.cons1 Joins.sc rfl (JoinRows.cons1 Joins.sc rfl (JoinRows.cons1 Joins.sc rfl JoinRows.nil)))) rfl rfl) rfl ?_;obtain ⟨x8,h1,H⟩:=bnd H;refine WPL.c (rc [] [2] 3 [] (s_quireref05_num k 20 2 x8 h1)) rfl ?_;obtain ⟨h2,H⟩:=grd H;refine WPL.d (d_append ap23 rfl rfl rfl rfl (src_row sl23 rfl rfl) h2 rfl) rfl ?_;(iterate 4 refine sp ?_);obtain ⟨x9,h3,H⟩:=bnd H;refine WPL.c (rc [] [4] 5 [] (s_quireref05_num k 20 2 x9 h3)) rfl ?_;obtain ⟨h4,H⟩:=grd H;refine WPL.d (d_append ap23 rfl rfl rfl rfl (src_row sl23 rfl rfl) h4 rfl) rfl ?_;(iterate 5 refine sp ?_);obtain ⟨x10,h5,H⟩:=bnd H;refine WPL.c (rc [] [] 6 [] (s_quireref05_common k x1 x2 x3 x4 x5 x10 h5)) rfl ?_;obtain ⟨h6,H⟩:=grd H;refine WPL.d (d_append ap23 rfl rfl rfl rfl (src_ro sl23 rfl) h6 rfl) rfl ?_;(iterate 4 refine sp ?_);obtain ⟨x11,h7,H⟩:=bnd H;refine WPL.c (rc [] [7] 8 [] (s_quireref05_num k 0 8 x11 h7)) rfl ?_;obtain ⟨h8,H⟩:=grd H;refine WPL.d (d_append ap23 rfl rfl rfl rfl (src_row sl23 rfl rfl) h8 rfl) rfl ?_;(iterate 4 refine sp ?_);obtain ⟨x12,h9,H⟩:=bnd H;refine WPL.c (rc [] [9] 10 [] (s_quireref05_num k 0 4 x12 h9)) rfl ?_;obtain ⟨h10,H⟩:=grd H;refine WPL.d (d_append ap23 rfl rfl rfl rfl (src_row sl23 rfl rfl) h10 rfl) rfl ?_;(iterate 5 refine sp ?_);obtain ⟨x13,h11,H⟩:=bnd H;refine WPL.c (rc [] [11] 12 [] (s_quireref05_num k x6 4 x13 h11)) rfl ?_;obtain ⟨h12,H⟩:=grd H;refine WPL.d (d_append ap23 rfl rfl rfl rfl (src_row sl23 rfl rfl) h12 rfl) rfl ?_;(iterate 6 refine sp ?_);obtain ⟨h13,H⟩:=grd H;refine WPL.d (d_append ap23 rfl rfl rfl rfl (src_str Tryz.underlying9 rfl) h13 rfl) rfl ?_;(iterate 3 refine sp ?_);refine W.cv (Cv.frzRow (i:=13) rfl rfl hnp rfl rfl) rfl ?_;have q0:=j1 H;subst q0;exact W.now (mb [])
theorem s_quireref05_Local (k:Nat) (x1:Int) (x2:Int) (x3:Int) (x4:Int) (x5:ByteArray) (x6:(List Int)) (H:g_quireref05_Local k x1 x2 x3 x4 x5=some x6):Go.Q.Spec Tryz.prog 28 0 [.agg [.lit (.int .i64 x1),.lit (.int .i64 x2),.lit (.int .i64 x3),.lit (.int .i64 x4),.lit (.string x5)]] Mem.nil (fun o M=>o=.ret (.ro (Rd.slice (Rd.int .u8)) false x6)∧M=Mem.nil):=by
 unfold g_quireref05_Local at H;refine bo Tryz.func28 [] [.tmp 2] 18 fun cx hnp=>?_;(iterate 5 refine sp ?_);refine WPL.d (d_buildSlice (ds:=([80,75,3,4]:List Int)) (R:=(Rd.int .u8)) li23 rfl rfl rfl rfl rfl (JoinRows.cons1 Joins.sc rfl (JoinRows.cons1 Joins.sc rfl (JoinRows.cons1 Joins.sc rfl (JoinRows.cons1 Joins.sc rfl JoinRows.nil)))) rfl rfl) rfl ?_;obtain ⟨x7,h1,H⟩:=bnd H;refine WPL.c (rc [] [2] 3 [] (s_quireref05_num k 20 2 x7 h1)) rfl ?_;obtain ⟨h2,H⟩:=grd H;refine WPL.d (d_append ap23 rfl rfl rfl rfl (src_row sl23 rfl rfl) h2 rfl) rfl ?_;(iterate 5 refine sp ?_);obtain ⟨x8,h3,H⟩:=bnd H;refine WPL.c (rc [] [] 4 [] (s_quireref05_common k x1 x2 x3 x4 x5 x8 h3)) rfl ?_;obtain ⟨h4,H⟩:=grd H;refine WPL.d (d_append ap23 rfl rfl rfl rfl (src_ro sl23 rfl) h4 rfl) rfl ?_;(iterate 4 refine sp ?_);obtain ⟨x9,h5,H⟩:=bnd H;refine WPL.c (rc [] [5] 6 [] (s_quireref05_num k 0 2 x9 h5)) rfl ?_;obtain ⟨h6,H⟩:=grd H;refine WPL.d (d_append ap23 rfl rfl rfl rfl (src_row sl23 rfl rfl) h6 rfl) rfl ?_;(iterate 6 refine sp ?_);obtain ⟨h7,H⟩:=grd H;refine WPL.d (d_append ap23 rfl rfl rfl rfl (src_str Tryz.underlying9 rfl) h7 rfl) rfl ?_;(iterate 3 refine sp ?_);refine W.cv (Cv.frzRow (i:=7) rfl rfl hnp rfl rfl) rfl ?_;have q0:=j1 H;subst q0;exact W.now (mb [])
theorem s_quireref05_End (k:Nat) (x1:Int) (x2:Int) (x3:Int) (x4:(List Int)) (H:g_quireref05_End k x1 x2 x3=some x4):Go.Q.Spec Tryz.prog 29 0 [.lit (.int .i64 x1),.lit (.int .i64 x2),.lit (.int .i64 x3)] Mem.nil (fun o M=>o=.ret (.ro (Rd.slice (Rd.int .u8)) false x4)∧M=Mem.nil):=by
 unfold g_quireref05_End at H;refine bo Tryz.func29 [] [.tmp 6] 30 fun cx hnp=>?_;(iterate 4 refine sp ?_);refine WPL.d (d_buildSlice (ds:=([80,75,5,6]:List Int)) (R:=(Rd.int .u8)) li23 rfl rfl rfl rfl rfl (JoinRows.cons1 Joins.sc rfl (JoinRows.cons1 Joins.sc rfl (JoinRows.cons1 Joins.sc rfl (JoinRows.cons1 Joins.sc rfl JoinRows.nil)))) rfl rfl) rfl ?_;obtain ⟨x5,h1,H⟩:=bnd H;refine WPL.c (rc [] [1] 2 [] (s_quireref05_num k 0 4 x5 h1)) rfl ?_;obtain ⟨h2,H⟩:=grd H;refine WPL.d (d_append ap23 rfl rfl rfl rfl (src_row sl23 rfl rfl) h2 rfl) rfl ?_;(iterate 5 refine sp ?_);obtain ⟨x6,h3,H⟩:=bnd H;refine WPL.c (rc [] [3] 4 [] (s_quireref05_num k x1 2 x6 h3)) rfl ?_;obtain ⟨h4,H⟩:=grd H;refine WPL.d (d_append ap23 rfl rfl rfl rfl (src_row sl23 rfl rfl) h4 rfl) rfl ?_;(iterate 5 refine sp ?_);obtain ⟨x7,h5,H⟩:=bnd H;refine WPL.c (rc [] [5] 6 [] (s_quireref05_num k x1 2 x7 h5)) rfl ?_;obtain ⟨h6,H⟩:=grd H;refine WPL.d (d_append ap23 rfl rfl rfl rfl (src_row sl23 rfl rfl) h6 rfl) rfl ?_;(iterate 5 refine sp ?_);obtain ⟨x8,h7,H⟩:=bnd H;refine WPL.c (rc [] [7] 8 [] (s_quireref05_num k x2 4 x8 h7)) rfl ?_;obtain ⟨h8,H⟩:=grd H;refine WPL.d (d_append ap23 rfl rfl rfl rfl (src_row sl23 rfl rfl) h8 rfl) rfl ?_;(iterate 5 refine sp ?_);obtain ⟨x9,h9,H⟩:=bnd H;refine WPL.c (rc [] [9] 10 [] (s_quireref05_num k x3 4 x9 h9)) rfl ?_;obtain ⟨h10,H⟩:=grd H;refine WPL.d (d_append ap23 rfl rfl rfl rfl (src_row sl23 rfl rfl) h10 rfl) rfl ?_;(iterate 4 refine sp ?_);obtain ⟨x10,h11,H⟩:=bnd H;refine WPL.c (rc [] [11] 12 [] (s_quireref05_num k 0 2 x10 h11)) rfl ?_;obtain ⟨h12,H⟩:=grd H;refine WPL.d (d_append ap23 rfl rfl rfl rfl (src_row sl23 rfl rfl) h12 rfl) rfl ?_;(iterate 3 refine sp ?_);refine W.cv (Cv.frzRow (i:=12) rfl rfl hnp rfl rfl) rfl ?_;have q0:=j1 H;subst q0;exact W.now (mb [])
theorem s_quireref05_Stored (k:Nat) (x1:(List S_api_File)) (x2:(List Int)) (H:g_quireref05_Stored k x1=some x2):Go.Q.Spec Tryz.prog 11 0 [.ro (Rd.slice rdS_api_File) false x1] Mem.nil (fun o M=>o=.ret (.ro (Rd.slice (Rd.int .u8)) false x2)∧M=Mem.nil):=by
 unfold g_quireref05_Stored at H;refine bo Tryz.func11 [] [.tmp 2] 67 fun cx hnp=>?_;(iterate 7 refine sp ?_);refine WP.seq ?_;(iterate 4 refine sp ?_);refine WP.cv (Cv.vir 5 (Rd.int .u8) (N:=0) rfl 3 rfl) ?_;refine WP.cv (Cv.vir 5 (Rd.int .u8) (N:=1) rfl 4 rfl) ?_;refine WP.cv (Cv.weak (E':=((((Env.none.upd 0 (.ro (Rd.slice rdS_api_File) false x1)).upd 3 (.whole 0)).upd 4 (.whole 1)).upd 5 (.lit (.int .i64 0)))) (M':=((Mem.nil.push (.row 5 (Rd.int .u8) ([]:List Int))).push (.row 5 (Rd.int .u8) ([]:List Int)))) [0,1] hnp ⟨rfl,AA2,by decide,rfl,trivial⟩ (LeE.u (LeE.u (LeE.u (LeE.u (LeE.none rfl rfl)))))) ?_;obtain ⟨⟨x3,x4⟩,H1,H⟩:=bnd H;refine mo (.exit 0) (((Env.none.upd 0 (.ro (Rd.slice rdS_api_File) false x1)).upd 3 (.whole 0)).upd 4 (.whole 1)) ((Mem.nil.push (.row 5 (Rd.int .u8) x3)).push (.row 5 (Rd.int .u8) x4)) ?_ ?_
 · refine WP.loop (β:=Int × (List Int) × (List Int)) (fun n b=>g_quireref05_Stored_l0 k x1 n b.1 b.2.1 b.2.2=some (x3,x4)) (fun b=>((((Env.none.upd 0 (.ro (Rd.slice rdS_api_File) false x1)).upd 3 (.whole 0)).upd 4 (.whole 1)).upd 5 (.lit (.int .i64 b.1)))) (fun b=>((Mem.nil.push (.row 5 (Rd.int .u8) b.2.1)).push (.row 5 (Rd.int .u8) b.2.2))) k (0,([]:List Int),([]:List Int)) H1 rfl rfl ?_;rintro n ⟨x5,x6,x7⟩ H;obtain _ | n:=n
   · exact nf rfl H
   rw [g_quireref05_Stored_l0.eq_2] at H;show WP _ _ _ _ ((((Env.none.upd 0 (.ro (Rd.slice rdS_api_File) false x1)).upd 3 (.whole 0)).upd 4 (.whole 1)).upd 5 (.lit (.int .i64 x5))) ((Mem.nil.push (.row 5 (Rd.int .u8) x6)).push (.row 5 (Rd.int .u8) x7)) _;refine WP.seq ?_;(iterate 4 refine sp ?_);obtain ⟨x8,h1,H⟩:=bnd H;refine sn (nm_bool h1) ?_;refine sp ?_;refine cq H (fun hb1 H=>?_) fun hb1 H=>?_
   · (iterate 3 refine sp ?_);refine WP.seq ?_;refine sp ?_;refine WP.seq ?_;obtain ⟨⟨x9,x10,x11,x12⟩,H2,H⟩:=bnd H;refine mo .normal (((((Env.none.upd 0 (.ro (Rd.slice rdS_api_File) false x1)).upd 3 (.whole 0)).upd 4 (.whole 1)).upd 5 (.lit (.int .i64 x5))).upd 6 (.ptr 2 0)) (((Mem.nil.push (.row 5 (Rd.int .u8) x6)).push (.row 5 (Rd.int .u8) x7)).push (.cells 53 [.lit (.int .i64 0),.lit (.int .i64 x9),.lit (.int .i64 x10),.lit (.int .i64 x11),.lit (.string x12)])) ?_ ?_
     · clear H;have H:=H2;clear H2;refine WP.regionD' 26 [] [] mixed rfl ?_;refine dT 0 ?_;refine dT 1 ?_;obtain ⟨x13,h2,H⟩:=bnd H;refine dT 2 ?_;refine WPD.tT 3 rfl (q_fieldAddr_ro fi41_1 rfl rfl S_api_File.p1 (Nat.le_of_ble_eq_true rfl)) ?_;refine WPD.tT 4 rfl (q_load_ro sc23 rfl rfl) ?_;refine dT 6 ?_;refine dT 7 ?_;obtain ⟨x14,h3,H⟩:=bnd H;refine dT 8 ?_;refine WPD.tT 9 rfl (q_fieldAddr_ro fi41_1 rfl rfl S_api_File.p1 (Nat.le_of_ble_eq_true rfl)) ?_;refine WPD.tT 10 rfl (q_load_ro sc23 rfl rfl) ?_;refine dT 11 ?_;refine dT 12 ?_;refine dT 13 ?_;obtain ⟨x15,h4,H⟩:=bnd H;refine dT 14 ?_;refine WPD.tT 15 rfl (q_fieldAddr_ro fi41_1 rfl rfl S_api_File.p1 (Nat.le_of_ble_eq_true rfl)) ?_;refine WPD.tT 16 rfl (q_load_ro sc23 rfl rfl) ?_;refine dT 17 ?_;refine dT 18 ?_;refine dT 19 ?_;obtain ⟨x16,h5,H⟩:=bnd H;refine dT 20 ?_;refine WPD.tT 21 rfl (q_fieldAddr_ro fi41_0 rfl rfl S_api_File.p0 (Nat.le_of_ble_eq_true rfl)) ?_;refine dT 22 ?_;refine WPD.of2 5 24 (by kernel_rfl) ?_ ?_
       · obtain ⟨x17,h5,H⟩:=bnd H;refine WPD1.eff 5 [] [] rfl (rc [] [] 2 [] (s_quireref05_Crc k x13.fData x17 h5)) rfl rfl ?_;refine dT 23 ?_;refine dE 24 [] [] rfl (Does.runs (d_alloc ze53 rfl)) ?_;refine dS 25 [] [] ?_;refine WPD.doneW (by kernel_rfl) ?_;obtain ⟨rfl,rfl,rfl,rfl⟩:=j4 H;exact wq [0,1,2]
       refine WPD1.eff 24 [] [] rfl (Does.runs (d_alloc ze53 rfl)) rfl rfl ?_;obtain ⟨x18,h6,H⟩:=bnd H;refine dE 5 [] [] rfl (rc [] [] 3 [] (s_quireref05_Crc k x13.fData x18 h6)) ?_;refine dT 23 ?_;refine dS 25 [] [] ?_;refine WPD.doneW (by kernel_rfl) ?_;obtain ⟨rfl,rfl,rfl,rfl⟩:=j4 H;exact wq [0,1,2]
     (iterate 7 refine sp ?_);obtain ⟨x19,h7,H⟩:=bnd H;refine WPL.c (rc [] [] 3 [] (s_quireref05_Central k 0 x9 x10 x11 x12 ((List.length x6:Nat):Int) x19 h7)) rfl ?_;obtain ⟨h8,H⟩:=grd H;refine WPL.d (d_append ap23 rfl rfl rfl rfl (src_ro sl23 rfl) h8 rfl) rfl ?_;(iterate 2 refine sp ?_);refine WP.regionD' 11 [2] [] mixed rfl ?_;refine dT 0 ?_;refine dT 4 ?_;refine dT 5 ?_;obtain ⟨x20,h9,H⟩:=bnd H;refine dT 6 ?_;refine WPD.tT 7 rfl (q_fieldAddr_ro fi41_1 rfl rfl S_api_File.p1 (Nat.le_of_ble_eq_true rfl)) ?_;refine WPD.tT 8 rfl (q_load_ro sc23 rfl rfl) ?_;refine dK 1 ?_;obtain ⟨x21,h9,H⟩:=bnd H;refine dE 2 [2] [] rfl (rc [] [] 4 [] (s_quireref05_Local k 0 x9 x10 x11 x12 x21 h9)) ?_;obtain ⟨h10,H⟩:=grd H;refine dE 3 [2] [] rfl (Does.runs (d_append ap23 rfl rfl rfl rfl (src_ro sl23 rfl) h10 rfl)) ?_;obtain ⟨h11,H⟩:=grd H;refine dE 9 [2] [] rfl (Does.runs (d_append ap23 rfl rfl rfl rfl (src_ro sl23 rfl) h11 rfl)) ?_;refine dT 10 ?_;refine WPD.doneW (by kernel_rfl) ?_;refine sp ?_;refine InBlock.n ?_;(iterate 5 refine sp ?_);refine WPL.nilW ?_;exact wq [5,3] (Then.n ⟨n,((IntKind.wrap .i64 (x5+1)),((x6++x21)++x20.fData),(x7++x19)),Nat.lt_succ_self n,H,rfl,rfl⟩)
   refine sp ?_;obtain ⟨rfl,rfl⟩:=j2 H;exact wq [0,1] (Then.x (Then.x r3))
 (iterate 11 refine sp ?_);obtain ⟨h12,H⟩:=grd H;refine WPL.d (d_append ap23 rfl rfl rfl rfl (src_row sl23 rfl rfl) h12 rfl) rfl ?_;(iterate 9 refine sp ?_);obtain ⟨x22,h13,H⟩:=bnd H;refine WPL.c (rc [] [] 3 [] (s_quireref05_End k ((List.length x1:Nat):Int) ((List.length x4:Nat):Int) ((List.length x3:Nat):Int) x22 h13) (hargs:=.ren rfl rfl (.ren rfl rfl (.ren rfl rfl .nil)))) rfl ?_;obtain ⟨h14,H⟩:=grd H;refine WPL.d (d_append ap23 rfl rfl rfl rfl (src_ro sl23 rfl) h14 rfl) rfl ?_;(iterate 3 refine sp ?_);refine W.cv (Cv.frzRow (i:=3) rfl rfl hnp rfl rfl) rfl ?_;have q0:=j1 H;subst q0;exact W.now (mb [])
theorem s_quirelaw01_Same (k:Nat) (x1:(List Int)) (x2:(List Int)) (x3:Bool) (H:g_quirelaw01_Same k x1 x2=some x3):Go.Q.Spec Tryz.prog 10 0 [.ro (Rd.slice (Rd.int .u8)) true x1,.ro (Rd.slice (Rd.int .u8)) false x2] Mem.nil (fun o M=>o=.ret (.lit (.bool x3))∧M=Mem.nil):=by
 unfold g_quirelaw01_Same at H;refine bo Tryz.func10 [] [.tmp 4] 10 fun cx hnp=>?_;(iterate 5 refine sp ?_);refine WPL.qq (q_bytes_str Tryz.underlying23 Tryz.underlying5 Tryz.underlying9 rfl) ?_;refine sp ?_;refine WPL.qq (q_bytes_str Tryz.underlying23 Tryz.underlying5 Tryz.underlying9 rfl) ?_;obtain ⟨x4,h1,H⟩:=bnd H;refine sn (nm_bool h1) ?_;(iterate 3 refine sp ?_);have q0:=j1 H;subst q0;exact W.now (mb [])
theorem s_quirelaw05_ZipWrites (k:Nat) (x1:(List S_api_File)) (x2:Int) (x3:Bool) (H:g_quirelaw05_ZipWrites k x1 x2=some x3):Go.Q.Spec Tryz.prog 3 0 [.ro (Rd.slice rdS_api_File) false x1,.lit (.int .i64 x2)] Mem.nil (fun o M=>o=.ret (.lit (.bool x3))∧M=Mem.nil):=by
 unfold g_quirelaw05_ZipWrites at H;refine bo Tryz.func3 [] [.tmp 4] 44 fun cx hnp=>?_;(iterate 6 refine sp ?_);obtain ⟨⟨x4,x5⟩,h1,H⟩:=bnd H;refine WPL.c (rc [] [0] 1 [] (s_zip_Write k x1 x2 x4 x5 h1)) rfl ?_;(iterate 9 refine sp ?_);obtain ⟨x6,h2,H⟩:=bnd H;refine WPL.c (rc [] [] 1 [] (s_quireref05_Check k x1 x2 x6 h2)) rfl ?_;(iterate 2 refine sp ?_);refine WP.seq ?_;refine WP.seq ?_;obtain ⟨x7,H1,H⟩:=bnd H;refine mo .normal (((((Env.none.upd 0 (.ro (Rd.slice rdS_api_File) false x1)).upd 1 (.lit (.int .i64 x2))).upd 5 (.whole 0)).upd 7 (.lit (.int .i64 x6))).upd 28 (.lit (.bool x7))) (Mem.nil.push (.row 5 (Rd.int .u8) x5)) ?_ ?_
 · clear H;have H:=H1;clear H1;(iterate 5 refine sp ?_);refine ws 20 H (fun hb1 H=>?_) fun hb1 H=>?_
   · (iterate 8 refine sp ?_);refine WPL.nilW ?_;have q0:=j1 H;subst q0;exact wq [0]
   (iterate 3 refine sp ?_);refine ws 23 H (fun hb2 H=>?_) fun hb2 H=>?_
   · (iterate 2 refine sp ?_);obtain ⟨x8,h3,H⟩:=bnd H;refine sn (nm_bool h3) ?_;(iterate 2 refine sp ?_);refine WPL.nilW ?_;have q0:=j1 H;subst q0;exact wq [0]
   (iterate 5 refine sp ?_);refine WPL.nilW ?_;have q0:=j1 H;subst q0;exact wq [0]
 (iterate 2 refine sp ?_);refine cq H (fun hb3 H=>?_) fun hb3 H=>?_
 · (iterate 4 refine sp ?_);have q0:=j1 H;subst q0;exact W.now (Then.r (mb []))
 (iterate 3 refine sp ?_);refine WP.seq ?_;obtain ⟨x9,H2,H⟩:=bnd H;refine mo .normal (Env.none.upd 4 (.lit (.bool x9))) Mem.nil ?_ ?_
 · clear H;have H:=H2;clear H2;(iterate 4 refine sp ?_);refine ws 31 H (fun hb4 H=>?_) fun hb4 H=>?_
   · (iterate 10 refine sp ?_);obtain ⟨x10,h4,H⟩:=bnd H;refine WPL.cg rfl rfl rfl (rc [] [] 1 [] (s_quirelaw05_alive k x10 h4)) rfl ?_;(iterate 2 refine sp ?_);refine WPL.nilW ?_;have q0:=j1 H;subst q0;exact wq []
   (iterate 4 refine sp ?_);refine ws 35 H (fun hb5 H=>?_) fun hb5 H=>?_
   · (iterate 6 refine sp ?_);obtain ⟨x11,h5,H⟩:=bnd H;refine WPL.cg rfl rfl rfl (rc [] [] 1 [] (s_quirelaw05_alive k x11 h5)) rfl ?_;(iterate 2 refine sp ?_);refine WPL.nilW ?_;have q0:=j1 H;subst q0;exact wq []
   (iterate 2 refine sp ?_);obtain ⟨x12,h6,H⟩:=bnd H;refine WPL.cg rfl rfl (lb hb5) (rc [] [] 1 [] (s_quireref05_Stored k x1 x12 h6)) rfl ?_;obtain ⟨x13,h7,H⟩:=bnd H;refine WPL.cg rfl rfl (lb hb5) (rc [] [] 1 [0] (s_quirelaw01_Same k x5 x12 x13 h7)) rfl ?_;(iterate 2 refine sp ?_);refine ws 41 H (fun hb6 H=>?_) fun hb6 H=>?_
   · obtain ⟨x14,h8,H⟩:=bnd H;refine WPL.cg rfl rfl (lb hb6) (rc [] [] 1 [] (s_quirelaw05_alive k x14 h8)) rfl ?_;(iterate 2 refine sp ?_);refine WPL.nilW ?_;have q0:=j1 H;subst q0;exact wq []
   (iterate 3 refine sp ?_);refine WPL.nilW ?_;have q0:=j1 H;subst q0;exact wq []
 (iterate 3 refine sp ?_);have q0:=j1 H;subst q0;exact W.now (mb [])
def wt (x:Int):Int:=if 0<x then 2^(15 - x.toNat) else 0
def there (x:Int):Int:=if 0<x then 1 else 0
def sumW:List Int→Int
  | []=>0
  | x::l=>wt x+sumW l
def cntL:List Int→Int
  | []=>0
  | x::l=>there x+cntL l
def badX (x:Int):Prop:=x<0∨15<x
instance (x:Int):Decidable (badX x):=by unfold badX;infer_instance
def badL (l:List Int):Prop:=∃ x∈l,badX x
instance (l:List Int):Decidable (badL l):=by unfold badL;infer_instance
theorem pow15 {x:Int} (h0:0<x) (h1:x≤15):1≤(2:Int)^(15 - x.toNat)∧(2:Int)^(15 - x.toNat)≤16384:=by
  have:∃ n:Nat,x.toNat=n∧1≤n∧n≤15:=⟨x.toNat,rfl,by omega,by omega⟩
  obtain ⟨n,hn,h2,h3⟩:=this
  rw [hn]
  obtain rfl | rfl | rfl | rfl | rfl | rfl | rfl | rfl | rfl | rfl | rfl | rfl | rfl | rfl | rfl:n=1∨n=2∨n=3∨n=4∨n=5∨n=6∨n=7∨n=8∨n=9∨n=10∨n=11∨n=12∨n=13∨n=14∨n=15:=by omega
  all_goals decide
theorem wt_le {x:Int} (h:¬ badX x):0≤wt x∧wt x≤16384:=by
  unfold badX at h
  unfold wt
  split
  · have:=pow15 (x:=x) (by omega) (by omega);omega
  · omega
theorem there_le (x:Int):0≤there x∧there x≤1:=by unfold there;split <;> omega
theorem shl1 {b:Nat} (h:b≤15):shlI .i64 1 (b:Int)=2^b:=by
  obtain rfl | rfl | rfl | rfl | rfl | rfl | rfl | rfl | rfl | rfl | rfl | rfl | rfl | rfl | rfl | rfl:b=0∨b=1∨b=2∨b=3∨b=4∨b=5∨b=6∨b=7∨b=8∨b=9∨b=10∨b=11∨b=12∨b=13∨b=14∨b=15:=by omega
  all_goals rfl
theorem shlw {x:Int} (h0:0<x) (h1:x≤15):shlI .i64 1 (15 - x)=2^(15 - x.toNat):=by
  rw [show (15:Int) - x=((15 - x.toNat:Nat):Int) by omega]
  exact shl1 (by omega)
theorem drop_cons {α:Type} {l:List α} {i:Nat} (h:i<l.length):l.drop i=l[i]::l.drop (i+1):=List.drop_eq_getElem_cons h
theorem badL_cons {x:Int} {l:List Int}:badL (x::l)↔badX x∨badL l:=by simp [badL]
theorem wsucc {i:Nat} (h:i<9223372036854775807):IntKind.wrap .i64 ((i:Int)+1)=((i+1:Nat):Int):=by rw [wi (by omega) (by omega)];omega
theorem g_huff_judged_l0_eq (k:Nat) (l:List Int) (hl:l.length≤320):∀ (n i:Nat) (a m:Int),i≤l.length→l.length - i<n → -100000000+16384*((l.length:Int) - i)≤a→a≤100000000→0≤m→m≤i →
    g_huff_judged_l0 k l n a m i=some (if badL (l.drop i) then Sum.inl () else Sum.inr (a - sumW (l.drop i),m+cntL (l.drop i))):=by
  intro n
  induction n with
  | zero=>intro i a m _ h;omega
  | succ n ih =>
    intro i a m hi hn ha1 ha2 hm0 hm
    rw [g_huff_judged_l0.eq_2]
    simp only [Option.bind_some,bd]
    by_cases h:i<l.length
    · have e:ix l (i:Int)=some l[i]:=ix_nat h
      rw [if_pos (by omega),e,drop_cons h]
      simp only [Option.bind_some,badL_cons,sumW,cntL]
      generalize hx:l[i]=x
      by_cases hb:badX x
      · have hb':(if x<0 then some true else some (decide (15<x)))=some true:=by
          unfold badX at hb
          split
          · rfl
          · rw [dt (by omega)]
        rw [hb',if_pos (Or.inl hb:badX x∨badL (l.drop (i+1)))]
        rfl
      · have hb':(if x<0 then some true else some (decide (15<x)))=some false:=by
          unfold badX at hb
          rw [if_neg (by omega),df (by omega)]
        have hw:=wt_le hb
        unfold badX at hb
        rw [hb']
        simp only [Option.bind_some,bf,or_iff_right (show ¬ badX x by unfold badX;exact hb)]
        unfold wt there at *
        by_cases h0:0<x
        · rw [if_pos h0] at hw
          rw [if_pos h0,wi (n:=15 - x) (by omega) (by omega),if_pos (by omega),shlw h0 (by omega),if_pos h0,if_pos h0]
          rw [wi (n:=a - 2^(15 - x.toNat)) (by omega) (by omega),wi (n:=m+1) (by omega) (by omega),wsucc (by omega)]
          simp only [Option.bind_some]
          rw [ih (i+1) _ _ (by omega) (by omega) (by omega) (by omega) (by omega) (by omega)]
          simp only [Int.sub_sub,Int.add_assoc]
        · rw [if_neg h0,if_neg h0,if_neg h0,wsucc (by omega)]
          simp only [Option.bind_some]
          rw [ih (i+1) _ _ (by omega) (by omega) (by omega) (by omega) (by omega) (by omega)]
          simp only [Int.zero_add]
    · rw [if_neg (by omega),List.drop_of_length_le (by omega),if_neg (by simp [badL])]
      simp [sumW,cntL]
def judge (l:List Int):Bool × Int :=
  if 320<l.length then (false,1) else if badL l then (false,1) else if sumW l=32768 then (true,0) else if cntL l=0∨cntL l=1∧sumW l=16384 then (false,0) else (false,11)
theorem sumW_le:∀ {l:List Int},¬ badL l→0≤sumW l∧sumW l≤16384*(l.length:Int)
  | [],_=>by simp [sumW]
  | x::l,h=>by
    rw [badL_cons,not_or] at h
    have h1:=wt_le h.1
    have h2:=sumW_le h.2
    simp only [sumW,List.length_cons]
    omega
theorem cntL_le:∀ (l:List Int),0≤cntL l∧cntL l≤(l.length:Int)
  | []=>by simp [cntL]
  | x::l=>by
    have h1:=there_le x
    have h2:=cntL_le l
    simp only [cntL,List.length_cons]
    omega
theorem g_huff_judged_eq {k:Nat} {l:List Int} (hk:330≤k):g_huff_judged k l=some (judge l):=by
  unfold g_huff_judged judge
  simp only [Option.bind_some,bd]
  by_cases h:320<l.length
  · rw [if_pos (by omega),if_pos h]
  · rw [if_neg (by omega),if_neg h]
    have e:=g_huff_judged_l0_eq k l (by omega) k 0 32768 0 (by omega) (by omega) (by omega) (by omega) (by omega) (by omega)
    rw [List.drop_zero] at e
    have e':g_huff_judged_l0 k l k 32768 0 0=_:=e
    rw [e']
    by_cases hb:badL l
    · rw [if_pos hb,if_pos hb];rfl
    · have hs:=sumW_le hb
      rw [if_neg hb,if_neg hb]
      simp only [Option.bind_some,Int.zero_add]
      by_cases h1:sumW l=32768
      · rw [if_pos (by omega),if_pos h1]
      · rw [if_neg (by omega),if_neg h1]
        by_cases h2:cntL l=0
        · rw [if_pos h2,dt h2,if_pos (.inl h2)];rfl
        · rw [if_neg h2]
          by_cases h3:cntL l=1
          · rw [if_pos h3]
            by_cases h4:sumW l=16384
            · rw [dt (by omega),if_pos (.inr ⟨h3,h4⟩)];rfl
            · rw [df (by omega),if_neg (by omega)];rfl
          · rw [if_neg h3,if_neg (by omega)];rfl
theorem judge_ok {l:List Int} (h:(judge l).2=0):l.length≤320∧¬ badL l∧(sumW l=32768∨cntL l=0∨cntL l=1∧sumW l=16384):=by
  unfold judge at h
  by_cases h0:320<l.length
  · rw [if_pos h0] at h;cases h
  · rw [if_neg h0] at h
    by_cases hb:badL l
    · rw [if_pos hb] at h;cases h
    · rw [if_neg hb] at h
      refine ⟨by omega,hb,?_⟩
      by_cases h1:sumW l=32768
      · exact .inl h1
      · rw [if_neg h1] at h
        by_cases h2:cntL l=0∨cntL l=1∧sumW l=16384
        · exact .inr h2
        · rw [if_neg h2] at h;cases h
def codesOf (c:Int):List Int→Int→Nat→List Int→Int × List Int
  | [],nx,_,out=>(nx,out)
  | x::l,nx,i,out=>if x=c then codesOf c l (IntKind.wrap .u32 (nx+1)) (i+1) (out.set i nx) else codesOf c l nx (i+1) out
theorem codesOf_length (c:Int):∀ (l:List Int) (nx:Int) (i:Nat) (out:List Int),(codesOf c l nx i out).2.length=out.length
  | [],_,_,_=>rfl
  | x::l,nx,i,out=>by
    unfold codesOf
    split
    · rw [codesOf_length];simp
    · exact codesOf_length c l _ _ _
theorem g_huff_Codes_l1_eq (k:Nat) (l:List Int) (hl:l.length≤320) (c:Int):∀ (n i:Nat) (out:List Int) (nx:Int),out.length=l.length→i≤l.length→l.length - i<n →
    g_huff_Codes_l1 k l c n i out nx=some (Sum.inr ((codesOf c (l.drop i) nx i out).2,(codesOf c (l.drop i) nx i out).1)):=by
  intro n
  induction n with
  | zero=>intro i out nx _ _ h;omega
  | succ n ih =>
    intro i out nx ho hi hn
    rw [g_huff_Codes_l1.eq_2]
    simp only [Option.bind_some,bd]
    by_cases h:i<l.length
    · have e:ix l (i:Int)=some l[i]:=ix_nat h
      have e2:ix out (i:Int)=some (out[i]'(by omega)):=ix_nat (by omega)
      rw [if_pos (by omega),drop_cons h,e]
      simp only [Option.bind_some,e2]
      by_cases hc:l[i]=c
      · rw [if_pos hc]
        simp only [Option.bind_some,Bool.not_true,bf,Int.toNat_natCast]
        rw [wsucc (by omega),ih (i+1) _ _ (by simpa using ho) (by omega) (by omega)]
        simp only [codesOf,if_pos hc]
      · rw [if_neg hc]
        simp only [Option.bind_some,bf]
        rw [wsucc (by omega),ih (i+1) _ _ ho (by omega) (by omega)]
        simp only [codesOf,if_neg hc]
    · rw [if_neg (by omega),List.drop_of_length_le (by omega)]
      rfl
def codesFrom (l:List Int):Nat→Int→Int→List Int→List Int
  | 0,_,_,out=>out
  | m+1,c,nx,out=>codesFrom l m (c+1) (codesOf c l (shlI .u32 nx 1) 0 out).1 (codesOf c l (shlI .u32 nx 1) 0 out).2
theorem g_huff_Codes_l0_eq (k:Nat) (l:List Int) (hl:l.length≤320) (hk:330≤k):∀ (n m:Nat) (c nx:Int) (out:List Int),out.length=l.length→c+m=16→m≤15→m<n→g_huff_Codes_l0 k l n c out nx=some (codesFrom l m c nx out):=by
  intro n
  induction n with
  | zero=>intro m c nx out _ _ _ h;omega
  | succ n ih =>
    intro m c nx out ho hc h15 hm
    rw [g_huff_Codes_l0.eq_2]
    cases m with
    | zero=>rw [bd,if_neg (by omega)];rfl
    | succ m =>
      have e:=g_huff_Codes_l1_eq k l hl c k 0 out (shlI .u32 nx 1) ho (by omega) (by omega)
      rw [List.drop_zero] at e
      have e':g_huff_Codes_l1 k l c k 0 out (shlI .u32 nx 1)=_:=e
      rw [bd,if_pos (by omega),e']
      simp only [g_huff_of,Option.bind_some]
      rw [wi (by omega) (by omega),ih m (c+1) _ _ (by rw [codesOf_length];exact ho) (by omega) (by omega) (by omega)]
      rfl
def codesL (l:List Int):List Int × Int:=if (judge l).2=0 then (codesFrom l 15 1 0 (List.replicate l.length 0),0) else ([],(judge l).2)
theorem g_huff_Codes_eq {k:Nat} {l:List Int} (hk:330≤k):g_huff_Codes k l=some (codesL l):=by
  unfold g_huff_Codes codesL
  rw [g_huff_judged_eq hk]
  simp only [Option.bind_some,bnd',bd]
  by_cases h:(judge l).2=0
  · have hl:=(judge_ok h).1
    have e:=g_huff_Codes_l0_eq k l hl hk k 15 1 0 (List.replicate l.length 0) (by simp) (by omega) (by omega) (by omega)
    rw [if_pos h,if_pos h,if_pos (by omega),Int.toNat_natCast,e]
    rfl
  · rw [if_neg h,if_neg h]
abbrev cn (l:List Int) (c:Nat):Nat:=l.count (c:Int)
def hf (l:List Int):Nat→Nat
  | 0=>0
  | c+1=>if c=0 then 0 else 2*hf l c+cn l c
def sr (l:List Int):Nat→Nat
  | 0=>0
  | c+1=>if c=0 then 0 else sr l c+cn l c*2^(15 - c)
theorem hf_sr (l:List Int):∀ (c:Nat),1≤c→c≤15→2*hf l c*2^(15 - c)=sr l c
  | 0,h,_=>by omega
  | c+1,_,h=>by
    by_cases hc:c=0
    · subst hc;simp [hf,sr]
    · have ih:=hf_sr l c (by omega) (by omega)
      have e:2^(15 - c)=2*2^(15 - (c+1)):=by
        rw [show 15 - c=(15 - (c+1))+1 by omega,Nat.pow_succ];omega
      simp only [hf,sr,if_neg hc]
      rw [← ih,e]
      generalize 2^(15 - (c+1))=p
      generalize hf l c=h
      generalize cn l c=n
      rw [Nat.mul_add,Nat.add_mul]
      simp only [Nat.mul_assoc,Nat.mul_left_comm,Nat.mul_comm]
theorem sr_mono (l:List Int):∀ (b a:Nat),a≤b→sr l a≤sr l b
  | 0, a, h => by have : a = 0 := by omega
                  subst this;exact Nat.le_refl _
  | b+1,a,h=>by
    by_cases hab:a=b+1
    · subst hab;exact Nat.le_refl _
    · refine Nat.le_trans (sr_mono l b a (by omega)) ?_
      simp only [sr]
      split
      · rename_i hb;subst hb;simp [sr]
      · omega
theorem sr_cons (x:Int) (l:List Int) (hx:¬ badX x):∀ (c:Nat),c≤16→sr (x::l) c=sr l c+if 0<x∧x<c then 2^(15 - x.toNat) else 0
  | 0,_=>by unfold badX at hx;rw [if_neg (by omega)];simp [sr]
  | c+1,h=>by
    have ih:=sr_cons x l hx c (by omega)
    unfold badX at hx
    by_cases hc:c=0
    · subst hc;simp [sr];omega
    · simp only [sr,if_neg hc,ih,cn,List.count_cons]
      by_cases hxc:x=(c:Int)
      · subst hxc
        rw [if_neg (show ¬ (0<(c:Int)∧(c:Int)<(c:Int)) by omega),if_pos (show 0<(c:Int)∧(c:Int)<((c+1:Nat):Int) by omega),if_pos (show ((c:Int)==(c:Int))=true by simp),Int.toNat_natCast,Nat.add_mul]
        omega
      · rw [if_neg (show ¬ (x==(c:Int))=true by simpa using hxc),Nat.add_zero]
        by_cases h2:0<x∧x<c
        · rw [if_pos h2,if_pos (show 0<x∧x<((c+1:Nat):Int) by omega)];omega
        · rw [if_neg h2,if_neg (show ¬ (0<x∧x<((c+1:Nat):Int)) by omega)];omega
theorem sr_all:∀ {l:List Int},¬ badL l→(sr l 16:Int)=sumW l
  | [],_=>by decide
  | x::l,h=>by
    rw [badL_cons,not_or] at h
    have ih:=sr_all h.2
    have hx:=h.1
    rw [sr_cons x l hx 16 (by omega)]
    simp only [sumW,wt]
    unfold badX at hx
    by_cases h0:0<x
    · rw [if_pos ⟨h0,by omega⟩,if_pos h0,Int.natCast_add,ih,Int.natCast_pow];simp;omega
    · rw [if_neg (by omega),if_neg h0];omega
def cd (l:List Int) (i:Nat):Nat:=2*hf l (l.getD i 0).toNat+(l.take i).count (l.getD i 0)
theorem codesOf_spec (c:Int):∀ (l:List Int) (nx i:Nat) (out:List Int),nx+l.count c<4294967296→i+l.length≤out.length →
    (codesOf c l nx i out).1=((nx+l.count c:Nat):Int)∧∀ j,(codesOf c l nx i out).2[j]? = if i≤j∧l[j - i]? = some c then some ((nx+(l.take (j - i)).count c:Nat):Int) else out[j]?
  | [],nx,i,out,_,_=>by simp [codesOf]
  | x::l,nx,i,out,h,hl=>by
    unfold codesOf
    simp only [List.length_cons] at hl
    by_cases hx:x=c
    · subst hx
      simp only [List.count_cons_self] at h
      rw [if_pos rfl,show IntKind.wrap .u32 ((nx:Int)+1)=((nx+1:Nat):Int) by rw [wu32 (by omega) (by omega)];omega]
      obtain ⟨h1,h2⟩:=codesOf_spec x l (nx+1) (i+1) (out.set i nx) (by omega) (by simp;omega)
      refine ⟨by rw [h1,List.count_cons_self];omega,fun j=>?_⟩
      rw [h2]
      by_cases hij:i≤j
      · rcases Nat.eq_or_lt_of_le hij with rfl | hij'
        · rw [if_neg (by omega),if_pos (by simp)]
          simp [show i<out.length by omega]
        · have e:j - i=(j - (i+1))+1:=by omega
          rw [e,List.getElem?_cons_succ,List.take_succ_cons,List.count_cons_self]
          by_cases hc:l[j - (i+1)]? = some x
          · rw [if_pos ⟨by omega,hc⟩,if_pos ⟨hij,hc⟩];congr 2;omega
          · rw [if_neg (fun h=>hc h.2),if_neg (fun h=>hc h.2),List.getElem?_set_ne (by omega)]
      · rw [if_neg (by omega),if_neg (by omega),List.getElem?_set_ne (by omega)]
    · rw [List.count_cons_of_ne hx] at h
      rw [if_neg hx]
      obtain ⟨h1,h2⟩:=codesOf_spec c l nx (i+1) out h (by omega)
      refine ⟨by rw [h1,List.count_cons_of_ne hx],fun j=>?_⟩
      rw [h2]
      by_cases hij:i≤j
      · rcases Nat.eq_or_lt_of_le hij with rfl | hij'
        · rw [if_neg (by omega),if_neg (by simp [hx])]
        · have e:j - i=(j - (i+1))+1:=by omega
          rw [e,List.getElem?_cons_succ,List.take_succ_cons,List.count_cons_of_ne hx]
          by_cases hc:l[j - (i+1)]? = some c
          · rw [if_pos ⟨by omega,hc⟩,if_pos ⟨hij,hc⟩]
          · rw [if_neg (fun h=>hc h.2),if_neg (fun h=>hc h.2)]
      · rw [if_neg (by omega),if_neg (by omega)]
theorem shl32 {n:Nat} (h:n≤65536):shlI .u32 (n:Int) 1=((2*n:Nat):Int):=by
  show IntKind.wrap .u32 ((n:Int)*2)=_
  rw [wu32 (by omega) (by omega)]
  omega
theorem hf_le {l:List Int} (hs:sr l 16≤32768) {c:Nat} (h1:1≤c) (h15:c≤15):(2*hf l c+cn l c)*2^(15 - c)≤32768:=by
  have e:sr l (c+1)=(2*hf l c+cn l c)*2^(15 - c):=by
    simp only [sr,if_neg (show ¬ c=0 by omega),← hf_sr l c h1 h15,Nat.add_mul]
  rw [← e]
  exact Nat.le_trans (sr_mono l 16 (c+1) (by omega)) hs
theorem hf_small {l:List Int} (hs:sr l 16≤32768) {c:Nat} (h1:1≤c) (h15:c≤15):2*hf l c+cn l c≤32768:=by
  have:=hf_le hs h1 h15
  have hp:1≤2^(15 - c):=Nat.one_le_two_pow
  have:=Nat.mul_le_mul_left (2*hf l c+cn l c) hp
  omega
theorem codesFrom_spec (l:List Int) (hs:sr l 16≤32768):∀ (m c:Nat) (out:List Int),c+m=16→1≤c→out.length=l.length →
    ∀ j,(codesFrom l m c (hf l c) out)[j]? = if j<l.length∧(c:Int)≤l.getD j 0∧l.getD j 0≤15 then some (cd l j:Int) else out[j]?
  | 0,c,out,hc,_,_,j=>by
    rw [if_neg (by omega)];rfl
  | m+1,c,out,hc,h1,ho,j=>by
    have hsm:=hf_small hs h1 (by omega)
    rw [codesFrom,shl32 (by omega)]
    obtain ⟨e1,e2⟩:=codesOf_spec (c:Int) l (2*hf l c) 0 out (by show 2*hf l c+cn l c<_;omega) (by omega)
    rw [show (c:Int)+1=((c+1:Nat):Int) by omega,e1]
    have e3:2*hf l c+l.count (c:Int)=hf l (c+1):=by simp only [hf,if_neg (show ¬ c=0 by omega)]
    rw [e3,codesFrom_spec l hs m (c+1) _ (by omega) (by omega) (by rw [codesOf_length];exact ho) j,e2 j]
    simp only [Nat.zero_le,true_and,Nat.sub_zero]
    by_cases hj:j<l.length
    · have eg:l.getD j 0=l[j]:=by rw [List.getD_eq_getElem?_getD,List.getElem?_eq_getElem hj];rfl
      rw [List.getElem?_eq_getElem hj]
      by_cases hlc:l[j]=(c:Int)
      · rw [if_neg (by rw [eg];omega),if_pos (by rw [hlc]),if_pos ⟨hj,by rw [eg];omega⟩]
        simp only [cd,eg,hlc,Int.toNat_natCast]
      · rw [if_neg (show ¬ some l[j]=some (c:Int) by simpa using hlc)]
        by_cases h2:(c:Int)≤l.getD j 0∧l.getD j 0≤15
        · rw [if_pos ⟨hj,by rw [eg] at *;omega⟩,if_pos ⟨hj,h2⟩]
        · rw [if_neg (by rw [eg] at *;omega),if_neg (fun h=>h2 h.2)]
    · rw [if_neg (fun h=>hj h.1),if_neg (by rw [List.getElem?_eq_none (by omega)];simp),if_neg (fun h=>hj h.1)]
theorem codesL_get {l:List Int} (h:(judge l).2=0) {j:Nat} (hj:j<l.length) (h0:0<l[j]):(codesL l).1[j]? = some (cd l j:Int):=by
  obtain ⟨hl,hb,hk⟩:=judge_ok h
  have hs:sr l 16≤32768:=by
    have:=sr_all hb
    have h16:=(sumW_le hb).2
    rcases hk with h1 | h1 | h1
    · omega
    · have:∀ (l:List Int),cntL l=0→sumW l=0:=by
        intro l
        induction l with
        | nil=>intro _;rfl
        | cons x l ih =>
          intro h
          have h1:=there_le x
          have h2:=cntL_le l
          simp only [cntL] at h
          have h3:=ih (by omega)
          have h4:there x=0:=by omega
          unfold there at h4
          split at h4
          · omega
          · rename_i h5;simp only [sumW,wt,if_neg h5,h3];rfl
      have:=this l h1
      omega
    · omega
  unfold codesL
  rw [if_pos h]
  have hx:¬ badX l[j]:=fun hx=>hb ⟨_,List.getElem_mem hj,hx⟩
  unfold badX at hx
  have eg:l.getD j 0=l[j]:=by rw [List.getD_eq_getElem?_getD,List.getElem?_eq_getElem hj];rfl
  have:=codesFrom_spec l hs 15 1 (List.replicate l.length 0) (by omega) (by omega) (by simp) j
  rw [if_pos ⟨hj,by rw [eg];omega⟩] at this
  exact this
theorem count_take_le (l:List Int) (i:Nat) (c:Int):(l.take i).count c≤l.count c:=(List.take_sublist i l).count_le c
def okB (b:List Int):Prop:=∀ x∈b,0≤x∧x≤255
def swap8 (b:BitVec 32):BitVec 32:=((b >>> 8) &&& 16711935#32) ||| ((b &&& 16711935#32) <<< 8)
def swap16 (b:BitVec 32):BitVec 32:=(b >>> 16) ||| (b <<< 16)
def swap1 (b:BitVec 32):BitVec 32:=((b >>> 1) &&& 1431655765#32) ||| ((b &&& 1431655765#32) <<< 1)
def swap2 (b:BitVec 32):BitVec 32:=((b >>> 2) &&& 858993459#32) ||| ((b &&& 858993459#32) <<< 2)
def swap4 (b:BitVec 32):BitVec 32:=((b >>> 4) &&& 252645135#32) ||| ((b &&& 252645135#32) <<< 4)
theorem g_mb_ReverseBytes32_eq (k:Nat) (b:BitVec 32):g_mb_ReverseBytes32 k (b.toNat:Int)=some ((swap16 (swap8 b)).toNat:Int):=by
  unfold g_mb_ReverseBytes32
  rw [show (16711935:Int)=((16711935#32).toNat:Int) from rfl]
  simp only [Option.bind_some,u32_and,u32_or,u32_shr,u32_shl]
  rfl
theorem g_mb_Reverse32_eq (k:Nat) (b:BitVec 32):g_mb_Reverse32 k (b.toNat:Int)=some ((swap16 (swap8 (swap4 (swap2 (swap1 b))))).toNat:Int):=by
  unfold g_mb_Reverse32
  rw [show (1431655765:Int)=((1431655765#32).toNat:Int) from rfl,show (858993459:Int)=((858993459#32).toNat:Int) from rfl,show (252645135:Int)=((252645135#32).toNat:Int) from rfl]
  simp only [Option.bind_some,u32_and,u32_or,u32_shr,u32_shl,g_mb_ReverseBytes32_eq]
  rfl
theorem bit_swap1 (b:BitVec 32) {i:Nat} (h:i<32):(swap1 b).getLsbD i=b.getLsbD (if i%2<1 then i+1 else i - 1):=by
  obtain rfl | rfl | rfl | rfl | rfl | rfl | rfl | rfl | rfl | rfl | rfl | rfl | rfl | rfl | rfl | rfl | rfl | rfl | rfl | rfl | rfl | rfl | rfl | rfl | rfl | rfl | rfl | rfl | rfl | rfl | rfl | rfl:i=0∨i=1∨i=2∨i=3∨i=4∨i=5∨i=6∨i=7∨i=8∨i=9∨i=10∨i=11∨i=12∨i=13∨i=14∨i=15∨i=16∨i=17∨i=18∨i=19∨i=20∨i=21∨i=22∨i=23∨i=24∨i=25∨i=26∨i=27∨i=28∨i=29∨i=30∨i=31:=by omega
  all_goals simp [swap1]
theorem bit_swap2 (b:BitVec 32) {i:Nat} (h:i<32):(swap2 b).getLsbD i=b.getLsbD (if i%4<2 then i+2 else i - 2):=by
  obtain rfl | rfl | rfl | rfl | rfl | rfl | rfl | rfl | rfl | rfl | rfl | rfl | rfl | rfl | rfl | rfl | rfl | rfl | rfl | rfl | rfl | rfl | rfl | rfl | rfl | rfl | rfl | rfl | rfl | rfl | rfl | rfl:i=0∨i=1∨i=2∨i=3∨i=4∨i=5∨i=6∨i=7∨i=8∨i=9∨i=10∨i=11∨i=12∨i=13∨i=14∨i=15∨i=16∨i=17∨i=18∨i=19∨i=20∨i=21∨i=22∨i=23∨i=24∨i=25∨i=26∨i=27∨i=28∨i=29∨i=30∨i=31:=by omega
  all_goals simp [swap2]
theorem bit_swap4 (b:BitVec 32) {i:Nat} (h:i<32):(swap4 b).getLsbD i=b.getLsbD (if i%8<4 then i+4 else i - 4):=by
  obtain rfl | rfl | rfl | rfl | rfl | rfl | rfl | rfl | rfl | rfl | rfl | rfl | rfl | rfl | rfl | rfl | rfl | rfl | rfl | rfl | rfl | rfl | rfl | rfl | rfl | rfl | rfl | rfl | rfl | rfl | rfl | rfl:i=0∨i=1∨i=2∨i=3∨i=4∨i=5∨i=6∨i=7∨i=8∨i=9∨i=10∨i=11∨i=12∨i=13∨i=14∨i=15∨i=16∨i=17∨i=18∨i=19∨i=20∨i=21∨i=22∨i=23∨i=24∨i=25∨i=26∨i=27∨i=28∨i=29∨i=30∨i=31:=by omega
  all_goals simp [swap4]
theorem bit_swap8 (b:BitVec 32) {i:Nat} (h:i<32):(swap8 b).getLsbD i=b.getLsbD (if i%16<8 then i+8 else i - 8):=by
  obtain rfl | rfl | rfl | rfl | rfl | rfl | rfl | rfl | rfl | rfl | rfl | rfl | rfl | rfl | rfl | rfl | rfl | rfl | rfl | rfl | rfl | rfl | rfl | rfl | rfl | rfl | rfl | rfl | rfl | rfl | rfl | rfl:i=0∨i=1∨i=2∨i=3∨i=4∨i=5∨i=6∨i=7∨i=8∨i=9∨i=10∨i=11∨i=12∨i=13∨i=14∨i=15∨i=16∨i=17∨i=18∨i=19∨i=20∨i=21∨i=22∨i=23∨i=24∨i=25∨i=26∨i=27∨i=28∨i=29∨i=30∨i=31:=by omega
  all_goals simp [swap8]
theorem bit_swap16 (b:BitVec 32) {i:Nat} (h:i<32):(swap16 b).getLsbD i=b.getLsbD (if i%32<16 then i+16 else i - 16):=by
  obtain rfl | rfl | rfl | rfl | rfl | rfl | rfl | rfl | rfl | rfl | rfl | rfl | rfl | rfl | rfl | rfl | rfl | rfl | rfl | rfl | rfl | rfl | rfl | rfl | rfl | rfl | rfl | rfl | rfl | rfl | rfl | rfl:i=0∨i=1∨i=2∨i=3∨i=4∨i=5∨i=6∨i=7∨i=8∨i=9∨i=10∨i=11∨i=12∨i=13∨i=14∨i=15∨i=16∨i=17∨i=18∨i=19∨i=20∨i=21∨i=22∨i=23∨i=24∨i=25∨i=26∨i=27∨i=28∨i=29∨i=30∨i=31:=by omega
  all_goals simp [swap16]
theorem rev_bit (b:BitVec 32) {i:Nat} (h:i<32):(swap16 (swap8 (swap4 (swap2 (swap1 b))))).getLsbD i=b.getLsbD (31 - i):=by
  rw [bit_swap16 _ h]
  obtain rfl | rfl | rfl | rfl | rfl | rfl | rfl | rfl | rfl | rfl | rfl | rfl | rfl | rfl | rfl | rfl | rfl | rfl | rfl | rfl | rfl | rfl | rfl | rfl | rfl | rfl | rfl | rfl | rfl | rfl | rfl | rfl:i=0∨i=1∨i=2∨i=3∨i=4∨i=5∨i=6∨i=7∨i=8∨i=9∨i=10∨i=11∨i=12∨i=13∨i=14∨i=15∨i=16∨i=17∨i=18∨i=19∨i=20∨i=21∨i=22∨i=23∨i=24∨i=25∨i=26∨i=27∨i=28∨i=29∨i=30∨i=31:=by omega
  all_goals simp (disch:=decide) only [Nat.reduceMod,Nat.reduceLT,Nat.reduceMul,reduceIte,Nat.reduceAdd,Nat.reduceSub,bit_swap8,bit_swap4,bit_swap2,bit_swap1]
def rev (b:BitVec 32):BitVec 32:=swap16 (swap8 (swap4 (swap2 (swap1 b))))
def cut (n:Int):Nat:=if n<0 then 0 else if n > 32 then 32 else n.toNat
theorem cut_le (n:Int):cut n≤32:=by unfold cut;split <;> (try split) <;> omega
theorem g_bits_Reverse_eq (k:Nat) (b:BitVec 32) (n:Int):g_bits_Reverse k (b.toNat:Int) n=some (((((rev b).setWidth 64) >>> (32 - cut n)).setWidth 32).toNat:Int):=by
  have hc:=cut_le n
  have e1:(if (32:Int)<(if (0:Int) > n then (0:Int) else n) then (32:Int) else (if (0:Int) > n then (0:Int) else n))=(cut n:Int):=by
    unfold cut
    split <;> split <;> (try split) <;> omega
  unfold g_bits_Reverse
  simp only [Option.bind_some]
  rw [e1]
  simp only [Option.bind_some,g_mb_Reverse32_eq]
  rw [wi (by omega) (by omega),wu64 (by omega) (by omega),dt (show (0:Int)≤32 - (cut n:Int) by omega)]
  simp only [cond_true,u64_of_u32,u64_shr,u32_of_u64]
  rw [show ((32:Int) - (cut n:Int)).toNat=32 - cut n by omega]
  rfl
def bitAt (b:List Int) (i:Nat):Bool:=(BitVec.ofInt 8 (b.getD (i / 8) 0)).getLsbD (i%8)
theorem okB_bv {x:Int} (h:0≤x∧x≤255):x=((BitVec.ofInt 8 x).toNat:Int):=by
  rw [BitVec.toNat_ofInt,Int.toNat_of_nonneg (by simp;omega)]
  simp;omega
theorem ok_toNat (v:BitVec 8):0≤(v.toNat:Int)∧(v.toNat:Int)≤255:=by
  have:=v.isLt
  omega
structure Wr (n:Int) (b:List Int) (B:List Bool):Prop where
  n:n=(B.length:Int)
  l:b.length=(B.length+7) / 8
  ok:okB b
  bit:∀ i,bitAt b i=B.getD i false
theorem Wr.nil:Wr 0 [] []:=⟨rfl,rfl,by simp [okB],fun i=>by simp [bitAt]⟩
theorem ofInt8_toNat (v:BitVec 8):BitVec.ofInt 8 (v.toNat:Int)=v:=by
  rw [BitVec.ofInt_natCast,BitVec.ofNat_toNat];simp
theorem Wr.step {n:Int} {b:List Int} {B:List Bool} (h:Wr n b B) {b1:List Int} (h1:b1=if B.length%8=0 then b++[0] else b) (c:BitVec 8) (hc:∀ j,0<j→c.getLsbD j=false) {x:BitVec 8} (hx:b1.getD (B.length / 8) 0=(x.toNat:Int)) :
    Wr (n+1) (b1.set (B.length / 8) ((x ||| (c <<< (B.length%8))).toNat:Int)) (B++[c.getLsbD 0]):=by
  have hl:b1.length=B.length / 8+1:=by
    rw [h1]
    have:=h.l
    split
    · simp;omega
    · omega
  have hb1:∀ i,bitAt b1 i=bitAt b i:=by
    intro i
    rw [h1]
    split
    · unfold bitAt
      congr 2
      simp only [List.getD_eq_getElem?_getD,List.getElem?_append]
      split
      · rfl
      · rename_i hge
        rw [List.getElem?_eq_none (l:=b) (by omega)]
        cases hq:i / 8 - b.length with
        | zero=>rfl
        | succ q=>rfl
    · rfl
  refine ⟨by rw [h.n];simp,by simp only [List.length_set,hl,List.length_append,List.length_cons,List.length_nil];omega,?_,?_⟩
  · intro y hy
    rcases List.mem_or_eq_of_mem_set hy with hy | rfl
    · rw [h1] at hy
      split at hy
      · rcases List.mem_append.1 hy with hy | hy
        · exact h.ok y hy
        · simp at hy;subst hy;omega
      · exact h.ok y hy
    · exact ok_toNat _
  · intro i
    by_cases hi:i / 8=B.length / 8
    · have e1:bitAt (b1.set (B.length / 8) ((x ||| (c <<< (B.length%8))).toNat:Int)) i=(x ||| (c <<< (B.length%8))).getLsbD (i%8):=by
        unfold bitAt
        rw [hi,List.getD_eq_getElem?_getD,List.getElem?_set_self (by omega),Option.getD_some,ofInt8_toNat]
      have e2:x.getLsbD (i%8)=B.getD i false:=by
        rw [← h.bit,← hb1]
        unfold bitAt
        rw [hi,hx,ofInt8_toNat]
      rw [e1,BitVec.getLsbD_or,e2,BitVec.getLsbD_shiftLeft]
      simp only [List.getD_eq_getElem?_getD,List.getElem?_append]
      rcases Nat.lt_trichotomy i B.length with h2 | h2 | h2
      · rw [if_pos h2]
        have:i%8<B.length%8:=by omega
        simp [this]
      · rw [if_neg (by omega)]
        subst h2
        simp [show B.length%8<8 by omega]
      · rw [if_neg (by omega),List.getElem?_eq_none (by omega),List.getElem?_eq_none (by simp;omega)]
        rw [hc _ (by omega)]
        simp
    · have e1:bitAt (b1.set (B.length / 8) ((x ||| (c <<< (B.length%8))).toNat:Int)) i=bitAt b1 i:=by
        unfold bitAt
        rw [List.getD_eq_getElem?_getD,List.getElem?_set_ne (Ne.symm hi),← List.getD_eq_getElem?_getD]
      rw [e1,hb1,h.bit]
      simp only [List.getD_eq_getElem?_getD,List.getElem?_append]
      split
      · rfl
      · rename_i hge
        have:B.length<i:=by
          rcases Nat.lt_or_ge B.length i with h3 | h3
          · exact h3
          · exfalso;apply hi;congr 1;omega
        rw [List.getElem?_eq_none (by omega),List.getElem?_eq_none (by simp;omega)]
def bitsOf (v:BitVec 32) (c:Nat):List Bool:=(List.range c).map v.getLsbD
theorem bitsOf_length (v:BitVec 32) (c:Nat):(bitsOf v c).length=c:=by simp [bitsOf]
theorem bitsOf_drop (v:BitVec 32) {c i:Nat} (h:i<c):(bitsOf v c).drop i=v.getLsbD i::(bitsOf v c).drop (i+1):=by
  rw [List.drop_eq_getElem_cons (by rw [bitsOf_length];exact h)]
  simp [bitsOf]
theorem tm8 (a:Nat):Int.tmod (a:Int) 8=((a%8:Nat):Int):=rfl
theorem g_bits_Writer_Put__b_l0_eq (k:Nat) (v:BitVec 32) (c:Nat) (hc:c≤32):∀ (m i:Nat) (n:Int) (b:List Int) (B:List Bool),Wr n b B→i≤c→c - i<m→B.length+(c - i)≤1125899906842000 →
    ∃ n' b',g_bits_Writer_Put__b_l0 k (v.toNat:Int) (c:Int) m (i:Int) n b=some (n',b')∧Wr n' b' (B++(bitsOf v c).drop i):=by
  intro m
  induction m with
  | zero=>intro i n b B _ _ h;omega
  | succ m ih =>
    intro i n b B hw hi hm hB
    rw [g_bits_Writer_Put__b_l0.eq_2]
    by_cases h:i<c
    · rw [dt (show (i:Int)<(c:Int) by omega),dt (show (0:Int)≤(i:Int) by omega)]
      have hn:=hw.n
      have hl:=hw.l
      subst hn
      let b1:List Int:=if B.length%8=0 then b++[0] else b
      have hb1l:b1.length=B.length / 8+1:=by
        show (if B.length%8=0 then b++[0] else b).length=_
        split
        · simp;omega
        · omega
      have e1:(bif decide (Int.tmod (B.length:Int) 8=0) then (bif decide ((List.length b+List.length [(0:Int)])*1≤140737488355328) then some (b++[0]) else none) else some b)=some b1:=by
        rw [tm8]
        show _=some (if B.length%8=0 then b++[0] else b)
        by_cases h0:B.length%8=0
        · rw [dt (show ((B.length%8:Nat):Int)=0 by omega),dt (show (List.length b+List.length [(0:Int)])*1≤140737488355328 by simp;omega),if_pos h0];rfl
        · rw [df (show ¬ ((B.length%8:Nat):Int)=0 by omega),if_neg h0];rfl
      have hlt:B.length / 8<b1.length:=by omega
      have hok1:okB b1:=by
        intro y hy
        have hy':y∈(if B.length%8=0 then b++[0] else b):=hy
        split at hy'
        · rcases List.mem_append.1 hy' with hy | hy
          · exact hw.ok y hy
          · simp at hy;subst hy;omega
        · exact hw.ok y hy'
      have hx:=okB_bv (hok1 _ (List.getElem_mem hlt))
      have e2:bits .and .u8 (IntKind.wrap .u8 (shrI .u32 (v.toNat:Int) (i:Int))) 1=(((v >>> i).setWidth 8 &&& 1#8).toNat:Int):=by
        rw [u32_shr,u8_of_u32,show (1:Int)=((1#8).toNat:Int) from rfl,u8_and];rfl
      rw [e1,e2]
      simp only [cond_true,Option.bind_some]
      rw [wi (by omega) (by omega),show (((b1.length:Nat):Int) - 1)=((B.length / 8:Nat):Int) by omega,ix_nat hlt]
      simp only [Option.bind_some,tm8]
      rw [dt (show (0:Int)≤((B.length%8:Nat):Int) by omega)]
      simp only [cond_true,Bool.not_true,cond_false]
      rw [hx,u8_shl,u8_or,wi (by omega) (by omega),wi (by omega) (by omega),Int.toNat_natCast,Int.toNat_natCast]
      have hst:=hw.step (b1:=b1) rfl ((v >>> i).setWidth 8 &&& 1#8) (fun j hj=>by
        rw [BitVec.getLsbD_and,BitVec.getLsbD_one];simp;omega) (x:=BitVec.ofInt 8 b1[B.length / 8]) (by
        rw [← hx,List.getD_eq_getElem?_getD,List.getElem?_eq_getElem hlt];rfl)
      obtain ⟨n',b',h1,h2⟩:=ih (i+1) _ _ _ hst (by omega) (by omega) (by simp;omega)
      refine ⟨n',b',h1,?_⟩
      have hbit:((v >>> i).setWidth 8 &&& 1#8).getLsbD 0=v.getLsbD i:=by simp
      rw [hbit,List.append_assoc] at h2
      rw [bitsOf_drop v h]
      exact h2
    · rw [df (show ¬ (i:Int)<(c:Int) by omega)]
      have:i=c:=by omega
      subst this
      refine ⟨n,b,rfl,?_⟩
      rw [List.drop_of_length_le (by rw [bitsOf_length];omega),List.append_nil]
      exact hw
theorem not_bad {c:Int} (h:0≤c∧c≤32):(bif decide (c<0) then some true else some (decide (32<c)))=some false:=by
  rw [df (show ¬ c<0 by omega),df (show ¬ 32<c by omega)];rfl
theorem g_bits_Writer_Put__b_ok {k:Nat} (hk:40≤k) (v:BitVec 32) (c:Nat) (hc:c≤32) {n:Int} {b:List Int} {B:List Bool} (hw:Wr n b B) (hB:B.length+c≤1125899906842000) :
    ∃ n' b',g_bits_Writer_Put__b k (v.toNat:Int) (c:Int) n b=some (0,n',b')∧Wr n' b' (B++bitsOf v c):=by
  obtain ⟨n',b',h1,h2⟩:=g_bits_Writer_Put__b_l0_eq k v c hc k 0 n b B hw (by omega) (by omega) (by omega)
  refine ⟨n',b',?_,h2⟩
  unfold g_bits_Writer_Put__b
  rw [not_bad (by omega)]
  simp only [Option.bind_some,cond_false,g_bits_each]
  rw [show g_bits_Writer_Put__b_l0 k (v.toNat:Int) (c:Int) k 0 n b=_ from h1]
  rfl
theorem g_bits_Reverse_bits (k:Nat) (b:BitVec 32) (n:Int):∃ r:BitVec 32,g_bits_Reverse k (b.toNat:Int) n=some (r.toNat:Int)∧∀ j,r.getLsbD j=(decide (j<cut n)&&b.getLsbD (cut n - 1 - j)):=by
  have hc:=cut_le n
  refine ⟨_,g_bits_Reverse_eq k b n,fun i=>?_⟩
  rw [BitVec.getLsbD_setWidth,BitVec.getLsbD_ushiftRight,BitVec.getLsbD_setWidth]
  by_cases hic:i<cut n
  · rw [show rev b=swap16 (swap8 (swap4 (swap2 (swap1 b)))) from rfl,rev_bit b (by omega)]
    simp [hic,show i<32 by omega,show 32 - cut n+i<64 by omega,show 31 - (32 - cut n+i)=cut n - 1 - i by omega]
  · by_cases hi:i<32
    · rw [BitVec.getLsbD_of_ge (rev b) _ (by omega)]
      simp [hic]
    · simp [hic,hi]
theorem getD_al {α:Type} (a b:List α) (i:Nat) (d:α) (h:i<a.length):(a++b).getD i d=a.getD i d:=by
  rw [List.getD_eq_getElem?_getD,List.getD_eq_getElem?_getD,List.getElem?_append_left h]
theorem getD_ar {α:Type} (a b:List α) (i:Nat) (d:α) (h:a.length≤i):(a++b).getD i d=b.getD (i - a.length) d:=by
  rw [List.getD_eq_getElem?_getD,List.getD_eq_getElem?_getD,List.getElem?_append_right h]
def vb (v c:Nat):List Bool:=(List.range c).map fun j=>v.testBit j
def cb (v c:Nat):List Bool:=(List.range c).map fun j=>v.testBit (c - 1 - j)
theorem vb_length (v c:Nat):(vb v c).length=c:=by simp [vb]
theorem cb_length (v c:Nat):(cb v c).length=c:=by simp [cb]
theorem bitsOf_vb {v:Nat} (hv:v<4294967296) (c:Nat):bitsOf (BitVec.ofNat 32 v) c=vb v c:=by
  unfold bitsOf vb
  apply List.map_congr_left
  intro j _
  rw [BitVec.getLsbD_ofNat]
  by_cases h:j<32
  · simp [h]
  · have:v.testBit j=false:=Nat.testBit_lt_two_pow (Nat.lt_of_lt_of_le hv (by
      have:=Nat.pow_le_pow_right (show 0<2 by decide) (show 32≤j by omega)
      omega))
    simp [h,this]
theorem putv {k:Nat} (hk:40≤k) {v c:Nat} (hv:v<4294967296) (hc:c≤32) {n:Int} {b:List Int} {B:List Bool} (hw:Wr n b B) (hB:B.length+c≤1125899906842000) :
    ∃ n' b',g_bits_Writer_Put__b k (v:Int) (c:Int) n b=some (0,n',b')∧Wr n' b' (B++vb v c):=by
  obtain ⟨n',b',h1,h2⟩:=g_bits_Writer_Put__b_ok hk (BitVec.ofNat 32 v) c hc hw hB
  have:((BitVec.ofNat 32 v).toNat:Int)=(v:Int):=by rw [BitVec.toNat_ofNat,Nat.mod_eq_of_lt hv]
  rw [this] at h1
  rw [bitsOf_vb hv] at h2
  exact ⟨n',b',h1,h2⟩
theorem put_l0_same (k:Nat) (v c:Int):∀ (n:Nat) (i m:Int) (b:List Int),g_bits_Writer_Put_l0 k v c n i m b=g_bits_Writer_Put__b_l0 k v c n i m b
  | 0,_,_,_=>rfl
  | n+1,i,m,b=>by rw [g_bits_Writer_Put_l0.eq_2,g_bits_Writer_Put__b_l0.eq_2];simp only [put_l0_same k v c n]
theorem put_same (k:Nat) (v c m:Int):g_bits_Writer_Put k v c m=g_bits_Writer_Put__b k v c m []:=by
  unfold g_bits_Writer_Put g_bits_Writer_Put__b
  simp only [put_l0_same]
theorem put_code {k:Nat} (hk:40≤k) {v c:Nat} (hv:v<4294967296) (hc:c≤32) {n:Int} {b:List Int} {B:List Bool} (hw:Wr n b B) (hB:B.length+c≤1125899906842000) :
    ∃ n' b',g_deflate_put k (v:Int) (c:Int) n b=some (n',b')∧Wr n' b' (B++cb v c):=by
  unfold g_deflate_put
  obtain ⟨r,r1,r2⟩:=g_bits_Reverse_bits k (BitVec.ofNat 32 v) (c:Int)
  have:((BitVec.ofNat 32 v).toNat:Int)=(v:Int):=by rw [BitVec.toNat_ofNat,Nat.mod_eq_of_lt hv]
  rw [this] at r1
  rw [r1]
  simp only [Option.bind_some]
  obtain ⟨n',b',h1,h2⟩:=g_bits_Writer_Put__b_ok hk r c hc hw hB
  rw [h1]
  have hcut:cut (c:Int)=c:=by unfold cut;rw [if_neg (by omega),if_neg (by omega)];omega
  have:bitsOf r c=cb v c:=by
    unfold bitsOf cb
    apply List.map_congr_left
    intro j hj
    have hj':=List.mem_range.1 hj
    rw [r2,hcut,BitVec.getLsbD_ofNat,decide_eq_true hj',decide_eq_true (show c - 1 - j<32 by omega)]
    simp
  rw [this] at h2
  exact ⟨n',b',rfl,h2⟩
theorem testBit_byte (x:Int) (h:0≤x∧x≤255) (j:Nat) (hj:j<8):(BitVec.ofInt 8 x).getLsbD j=x.toNat.testBit j:=by
  obtain ⟨n,rfl⟩:∃ n:Nat,x=(n:Int):=⟨x.toNat,by omega⟩
  rw [show BitVec.ofInt 8 (n:Int)=BitVec.ofNat 8 n from by simp,BitVec.getLsbD_ofNat]
  simp [hj]
def bytesB (x:List Int):List Bool:=x.flatMap fun v=>vb v.toNat 8
theorem bytesB_length:∀ x:List Int,(bytesB x).length=8*x.length
  | []=>rfl
  | v::x=>by
    have:=bytesB_length x
    unfold bytesB at *
    simp only [List.flatMap_cons,List.length_append,vb_length,List.length_cons];omega
theorem bytesB_get:∀ (x:List Int) (i:Nat),i<8*x.length→(bytesB x).getD i false=(x.getD (i / 8) 0).toNat.testBit (i%8)
  | [],i,h=>by simp at h
  | v::x,i,h=>by
    have e:bytesB (v::x)=vb v.toNat 8++bytesB x:=rfl
    rw [e]
    by_cases hi:i<8
    · rw [getD_al _ _ _ _ (by rw [vb_length];exact hi),show i / 8=0 by omega,show i%8=i by omega]
      simp [vb,List.getD_eq_getElem?_getD,hi]
    · rw [getD_ar _ _ _ _ (by rw [vb_length];omega),vb_length,bytesB_get x (i - 8) (by simp only [List.length_cons] at h;omega),show i / 8=(i - 8) / 8+1 by omega,show i%8=(i - 8)%8 by omega]
      rfl
theorem Wr.align {n:Int} {b:List Int} {B:List Bool} (h:Wr n b B):Wr (8*(b.length:Int)) b (B++List.replicate (8*b.length - B.length) false):=by
  have hl:=h.l
  refine ⟨by rw [List.length_append,List.length_replicate];omega,by rw [List.length_append,List.length_replicate];omega,h.ok,fun i=>?_⟩
  rw [h.bit]
  by_cases hi:i<B.length
  · rw [getD_al _ _ _ _ hi]
  · rw [getD_ar _ _ _ _ (by omega),List.getD_eq_getElem?_getD,List.getD_eq_getElem?_getD,List.getElem?_eq_none (by omega)]
    by_cases hr:i - B.length<8*b.length - B.length
    · simp [hr]
    · simp [List.getElem?_eq_none (show (List.replicate (8*b.length - B.length) false).length≤i - B.length by simp;omega)]
theorem Wr.bytes {b:List Int} {B:List Bool} {n:Int} (h:Wr n b B) (h8:B.length=8*b.length) {x:List Int} (hx:okB x):Wr (8*((b++x).length:Int)) (b++x) (B++bytesB x):=by
  refine ⟨by rw [List.length_append,List.length_append,bytesB_length];omega,by rw [List.length_append,List.length_append,bytesB_length];omega,?_,fun i=>?_⟩
  · intro v hv
    rcases List.mem_append.1 hv with q | q
    · exact h.ok v q
    · exact hx v q
  · by_cases hi:i<B.length
    · rw [getD_al _ _ _ _ hi,← h.bit]
      unfold bitAt
      rw [getD_al _ _ _ _ (by omega)]
    · rw [getD_ar _ _ _ _ (by omega)]
      unfold bitAt
      rw [getD_ar _ _ _ _ (by omega)]
      by_cases hx2:i - B.length<8*x.length
      · rw [bytesB_get x _ hx2,show (i - B.length) / 8=i / 8 - b.length by omega,show (i - B.length)%8=i%8 by omega]
        have hlt:i / 8 - b.length<x.length:=by omega
        have e:x.getD (i / 8 - b.length) 0=x[i / 8 - b.length]:=by simp [List.getD_eq_getElem?_getD,List.getElem?_eq_getElem hlt]
        rw [e]
        exact testBit_byte _ (hx _ (List.getElem_mem hlt)) _ (by omega)
      · rw [List.getD_eq_getElem?_getD (l:=bytesB x),List.getElem?_eq_none (by rw [bytesB_length];omega),List.getD_eq_getElem?_getD,List.getElem?_eq_none (by omega)]
        simp
end Go.Proofs.YtaphblcbnhnpaaaGreatDoor.W
