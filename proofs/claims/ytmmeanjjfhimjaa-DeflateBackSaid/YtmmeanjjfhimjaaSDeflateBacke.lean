/- Texts joined: part 5 of what LDeflateBack stands on. -/
import Derived.Test.YtmmeanjjfhimjaaSDeflateBackd
namespace Go.Proofs.Ytmmeanjjfhimjaa.W
open Go Go.Q Go.Proofs
set_option linter.unusedVariables false
set_option linter.unusedSimpArgs false
set_option maxRecDepth 100000
set_option maxHeartbeats 4000000
theorem s_sc_AppendSeq_deflate_Item_deflate_Item__b (k:Nat) (x1:(List Int)) (x2:(List S_deflate_Item)) (H:g_sc_AppendSeq_deflate_Item_deflate_Item k x1=some x2):Go.Q.Spec Try.prog 49 1 [.lit (.slice none 0 0),.fn 50 [.ptr 0 0]] (Mem.nil.push (.cells 22 [.ro (Rd.slice (Rd.int .u8)) false x1])) (fun o M=>o=.ret (.whole 1)∧M=((Mem.nil.push (.cells 22 [.ro (Rd.slice (Rd.int .u8)) false x1])).push (.row 36 rdS_deflate_Item x2))):=by
 unfold g_sc_AppendSeq_deflate_Item_deflate_Item at H;refine bo Try.func49 [] [.tmp 4] 13 fun cx hnp=>?_;(iterate 4 refine sp ?_);refine WP.seq ?_;(iterate 4 refine sp ?_);refine WP.cv (Cv.nullMark (N:=2) rfl rfl) ?_;refine WP.range (nti:=45) (n:=3) rfl rfl Try.func50 rfl (by kernel_rfl) rfl rfl rfl rfl fun l_1 r_1 aC1 hp1 ha1 hb1 ht1 hs1 hf1=>?_;refine WP.seq ?_;obtain ⟨_,H1,H⟩:=bnd H;refine mo .normal ((((⟨fun _=>.any,[],[⟨aC1,(((Env.none.upd 2 (.ptr 4 0)).upd 6 (.fn 50 [.ptr 0 0]))).v,[5,6],some (7,l_1)⟩],[]⟩:Env).upd 0 (.lit (.func (.yield l_1) #[] #[]))).upd 1 (.ptr 0 0)).upd 3 (.ptr 1 0)) ((((((((Mem.nil.push (.cells 22 [.ro (Rd.slice (Rd.int .u8)) false x1])).push (.cells 97 [.ro (Rd.slice (Rd.int .u8)) false x1,.mp 2,.whole 3,.lit (.int .i64 0)])).push (.obj (mapO fk3 (Value.int .i64) ([]:List ((Int × Int × Int) × Int))))).push (.row 3 (Rd.int .i64) (List.replicate (Int.toNat ((List.length x1:Nat):Int)) (0:Int)))).push (.cells 32 [.lit (.slice none 0 0)])).push (.obj (Obj.deferred (some [])))).push (.bag)).push (.obj (lp r_1 .ready none))) ?_ ?_
 · clear H;have H:=H1;clear H1;refine WP.regionD' 8 [0] [] mixed rfl ?_;refine dK 0 ?_;refine dK 2 ?_;refine dT 3 ?_;refine WPD.of2 1 4 (by kernel_rfl) ?_ ?_
   · refine WPD1.eff 1 [0] [] rfl (Does.runs (d_makeMap (N:=5) fk3 (Value.int .i64) rfl)) rfl rfl ?_;obtain ⟨h1,H⟩:=grd H;refine dE 4 [0] [] rfl (Does.runs (d_make (d:=(0:Int)) (R:=(Rd.int .i64)) li66 by3 rfl rfl rfl Joins.sc rfl rfl h1 rfl)) ?_;refine dT 5 ?_;refine dE 6 [0] [] rfl (Does.runs (d_box rfl rfl)) ?_;refine dT 7 ?_;refine WPD.doneW (by kernel_rfl) ?_;exact W.wk [0,7,5,6,1,3,2,4] hnp r3 ⟨rfl,AA8,by decide,rfl,BB1⟩ (LeE.u (LeE.u (LeE.u (LeE.noneD rfl rfl (.cons ⟨rfl,(LeV.upd rfl rfl (LeV.upd rfl rfl LeV.none)),rfl,rfl,rfl,rfl⟩ .nil))))) rfl
   obtain ⟨h2,H⟩:=grd H;refine WPD1.eff 4 [0] [] rfl (Does.runs (d_make (d:=(0:Int)) (R:=(Rd.int .i64)) li66 by3 rfl rfl rfl Joins.sc rfl rfl h2 rfl)) rfl rfl ?_;refine dE 1 [0] [] rfl (Does.runs (d_makeMap (N:=6) fk3 (Value.int .i64) rfl)) ?_;refine dT 5 ?_;refine dE 6 [0] [] rfl (Does.runs (d_box rfl rfl)) ?_;refine dT 7 ?_;refine WPD.doneW (by kernel_rfl) ?_;exact W.wk [0,7,6,5,1,3,2,4] hnp r3 ⟨rfl,AA8,by decide,rfl,BB1⟩ (LeE.u (LeE.u (LeE.u (LeE.noneD rfl rfl (.cons ⟨rfl,(LeV.upd rfl rfl (LeV.upd rfl rfl LeV.none)),rfl,rfl,rfl,rfl⟩ .nil))))) rfl
 (iterate 6 refine sp ?_);refine WP.cv (Cv.virC 36 rdS_deflate_Item (N:=8) rfl rfl (i:=4) (off:=0) rfl rfl) ?_;refine WP.cv (Cv.weak (E':=(((((⟨fun _=>.any,[],[⟨aC1,(((Env.none.upd 2 (.ptr 4 0)).upd 6 (.fn 50 [.ptr 0 0]))).v,[6,7],some (8,l_1)⟩],[]⟩:Env).upd 0 (.lit (.func (.yield l_1) #[] #[]))).upd 1 (.ptr 0 0)).upd 3 (.ptr 1 0)).upd 4 (.lit (.int .i64 0)))) (M':=(((((((((Mem.nil.push (.cells 22 [.ro (Rd.slice (Rd.int .u8)) false x1])).push (.cells 97 [.ro (Rd.slice (Rd.int .u8)) false x1,.mp 2,.whole 3,.lit (.int .i64 0)])).push (.obj (mapO fk3 (Value.int .i64) ([]:List ((Int × Int × Int) × Int))))).push (.row 3 (Rd.int .i64) (List.replicate (Int.toNat ((List.length x1:Nat):Int)) (0:Int)))).push (.cells 32 [.whole 5])).push (.row 36 rdS_deflate_Item ([]:List S_deflate_Item))).push (.obj (Obj.deferred (some [])))).push (.bag)).push (.obj (lp r_1 .ready none)))) [0,1,2,3,4,8,5,6,7] hnp ⟨rfl,AA9,by decide,rfl,BB1⟩ (LeE.u (LeE.u (LeE.u (LeE.u (LeE.noneD rfl rfl (.cons ⟨rfl,(LeV.upd rfl rfl (LeV.upd rfl rfl LeV.none)),rfl,rfl,rfl,rfl⟩ .nil))))))) ?_;obtain ⟨x3,H2,H⟩:=bnd H;refine mo (.exit 0) (⟨fun _=>.any,[],[⟨aC1,(((Env.none.upd 2 (.ptr 1 0)).upd 6 (.fn 50 [.ptr 0 0]))).v,[3,4],some (5,l_1)⟩],[]⟩:Env) ((((((Mem.nil.push (.cells 22 [.ro (Rd.slice (Rd.int .u8)) false x1])).push (.cells 32 [.whole 2])).push (.row 36 rdS_deflate_Item x3)).push (.obj (Obj.deferred (some [])))).push (.bag)).push (.obj (lp r_1 .ready none))) ?_ ?_
 · refine WP.loop (β:=Int × Int × (List ((Int × Int × Int) × Int)) × (List Int) × (List S_deflate_Item)) (fun n b=>g_sc_AppendSeq_deflate_Item_deflate_Item_l0 k x1 n b.1 b.2.1 b.2.2.1 b.2.2.2.1 b.2.2.2.2=some x3) (fun b=>(((((⟨fun _=>.any,[],[⟨aC1,(((Env.none.upd 2 (.ptr 4 0)).upd 6 (.fn 50 [.ptr 0 0]))).v,[6,7],some (8,l_1)⟩],[]⟩:Env).upd 0 (.lit (.func (.yield l_1) #[] #[]))).upd 1 (.ptr 0 0)).upd 3 (.ptr 1 0)).upd 4 (.lit (.int .i64 b.1)))) (fun b=>(((((((((Mem.nil.push (.cells 22 [.ro (Rd.slice (Rd.int .u8)) false x1])).push (.cells 97 [.ro (Rd.slice (Rd.int .u8)) false x1,.mp 2,.whole 3,.lit (.int .i64 b.2.1)])).push (.obj (mapO fk3 (Value.int .i64) b.2.2.1))).push (.row 3 (Rd.int .i64) b.2.2.2.1)).push (.cells 32 [.whole 5])).push (.row 36 rdS_deflate_Item b.2.2.2.2)).push (.obj (Obj.deferred (some [])))).push (.bag)).push (.obj (lp r_1 .ready none)))) k (0,0,([]:List ((Int × Int × Int) × Int)),(List.replicate (Int.toNat ((List.length x1:Nat):Int)) (0:Int)),([]:List S_deflate_Item)) H2 rfl rfl ?_;rintro n ⟨x4,x5,x6,x7,x8⟩ H;obtain _ | n:=n
   · exact nf rfl H
   rw [g_sc_AppendSeq_deflate_Item_deflate_Item_l0.eq_2] at H;show WP _ _ _ _ (((((⟨fun _=>.any,[],[⟨aC1,(((Env.none.upd 2 (.ptr 4 0)).upd 6 (.fn 50 [.ptr 0 0]))).v,[6,7],some (8,l_1)⟩],[]⟩:Env).upd 0 (.lit (.func (.yield l_1) #[] #[]))).upd 1 (.ptr 0 0)).upd 3 (.ptr 1 0)).upd 4 (.lit (.int .i64 x4))) (((((((((Mem.nil.push (.cells 22 [.ro (Rd.slice (Rd.int .u8)) false x1])).push (.cells 97 [.ro (Rd.slice (Rd.int .u8)) false x1,.mp 2,.whole 3,.lit (.int .i64 x5)])).push (.obj (mapO fk3 (Value.int .i64) x6))).push (.row 3 (Rd.int .i64) x7)).push (.cells 32 [.whole 5])).push (.row 36 rdS_deflate_Item x8)).push (.obj (Obj.deferred (some [])))).push (.bag)).push (.obj (lp r_1 .ready none))) _;refine WP.seq ?_;(iterate 4 refine sp ?_);obtain ⟨x9,h3,H⟩:=bnd H;refine sn (nm_bool h3) ?_;refine sp ?_;refine cq H (fun hb2 H=>?_) fun hb2 H=>?_
   · (iterate 7 refine sp ?_);obtain ⟨x10,h4,H⟩:=bnd H;(iterate 10 refine sp ?_);refine WP.seq ?_;obtain ⟨⟨x11,x12,x13,x14,x15,x16,x17⟩,H3,H⟩:=bnd H;refine mo .normal (((((((⟨fun _=>.any,[],[⟨aC1,(((Env.none.upd 2 (.ptr 5 0)).upd 6 (.fn 50 [.ptr 0 0]))).v,[7,8],some (9,l_1)⟩],[]⟩:Env).upd 0 (.lit (.func (.yield l_1) #[] #[]))).upd 1 (.ptr 0 0)).upd 3 (.ptr 1 0)).upd 4 (.lit (.int .i64 x4))).upd 5 (.ptr 4 0)).upd 6 (.lit (.int .i64 x11))) ((((((((((Mem.nil.push (.cells 22 [.ro (Rd.slice (Rd.int .u8)) false x1])).push (.cells 97 [.ro (Rd.slice (Rd.int .u8)) false x1,.mp 2,.whole 3,.lit (.int .i64 x12)])).push (.obj (mapO fk3 (Value.int .i64) x13))).push (.row 3 (Rd.int .i64) x14)).push (.cells 36 [.lit (.int .i64 x15),.lit (.int .i64 x16),.lit (.int .i64 x17)])).push (.cells 32 [.whole 6])).push (.row 36 rdS_deflate_Item x8)).push (.obj (Obj.deferred (some [])))).push (.bag)).push (.obj (lp r_1 .ready none))) ?_ ?_
     · clear H;have H:=H3;clear H3;(iterate 3 refine sp ?_);obtain ⟨⟨x18,x19,x20,x21,x22⟩,h5,H⟩:=bnd H;refine WPL.c (rc [1,2,3] [1,2,10] 11 [] (s_deflate_matcher_longest__b k x4 x1 x5 x6 x7 x18 x19 x20 x21 x22 h5)) rfl ?_;(iterate 10 refine sp ?_);refine cq H (fun hb3 H=>?_) fun hb3 H=>?_
       · (iterate 7 refine sp ?_);refine WPL.nilW ?_;obtain ⟨rfl,rfl,rfl,rfl,rfl,rfl,rfl⟩:=j7 H;exact W.wk [0,1,2,10,9,4,5,6,7,8] hnp r3 ⟨rfl,AA10,by decide,rfl,BB1⟩ (LeE.u (LeE.u (LeE.u (LeE.u (LeE.u (LeE.u (LeE.noneD rfl rfl (.cons ⟨rfl,(LeV.upd rfl rfl (LeV.upd rfl rfl LeV.none)),rfl,rfl,rfl,rfl⟩ .nil)))))))) rfl
       refine sp ?_;obtain ⟨rfl,rfl,rfl,rfl,rfl,rfl,rfl⟩:=j7 H;exact W.wk [0,1,2,10,9,4,5,6,7,8] hnp r3 ⟨rfl,AA10,by decide,rfl,BB1⟩ (LeE.u (LeE.u (LeE.u (LeE.u (LeE.u (LeE.u (LeE.noneD rfl rfl (.cons ⟨rfl,(LeV.upd rfl rfl (LeV.upd rfl rfl LeV.none)),rfl,rfl,rfl,rfl⟩ .nil)))))))) rfl
     (iterate 2 refine sp ?_);refine WP.seq ?_;(iterate 3 refine sp ?_);refine WPL.y rfl rfl rfl rfl hp1 ha1 hb1 ht1 hs1 hf1 rfl rfl rfl fun aI1=>?_;(iterate 3 refine sp ?_);refine WPL.nilW ?_;refine sp ?_;refine ⟨rfl,rfl,_,_,_,_,_,_,rfl,rfl,?_⟩;(iterate 4 refine sp ?_);refine WPL.d (d_buildSlice (ds:=([(⟨x15,x16,x17⟩:S_deflate_Item)]:List S_deflate_Item)) (R:=rdS_deflate_Item) li32 rfl rfl rfl rfl rfl (JoinRows.cons (l:=[.lit (.int .i64 x15),.lit (.int .i64 x16),.lit (.int .i64 x17)]) (Joins.via (Joins.cons Joins.sc (Joins.cons Joins.sc (Joins.cons Joins.sc Joins.unit)))) rfl JoinRows.nil) rfl rfl) rfl ?_;obtain ⟨h6,H⟩:=grd H;refine WPL.d (d_append ap32 rfl rfl rfl rfl (src_row sl32 rfl rfl) h6 rfl) rfl ?_;refine sp ?_;refine WPL.nilW ?_;refine sp ?_;refine InBlock.n ?_;refine ⟨rfl,_,_,_,_,_,_,rfl,rfl,_,rfl,?_⟩;(iterate 2 refine sp ?_);refine WP.condFB (t:=(!true)) rfl rfl ?_;(iterate 8 refine sp ?_);refine WPL.nilW ?_;exact W.wk [0,1,2,3,5,12,7,8,9] hnp (InBlock.n (Then.n ⟨n,((IntKind.wrap .i64 (x4+x11)),x12,x13,x14,(x8++([(⟨x15,x16,x17⟩:S_deflate_Item)]:List S_deflate_Item))),Nat.lt_succ_self n,H,rfl,rfl⟩)) ⟨rfl,AA9,by decide,rfl,BB1⟩ (LeE.u (LeE.u (LeE.u (LeE.u (LeE.noneD rfl rfl (.cons ⟨rfl,(LeV.upd rfl rfl (LeV.upd rfl rfl LeV.none)),rfl,rfl,rfl,rfl⟩ .nil)))))) rfl
   refine sp ?_;have q0:=j1 H;subst q0;exact W.wk [0,4,5,6,7,8] hnp (Then.x (Then.x r3)) ⟨rfl,AA6,by decide,rfl,BB1⟩ (LeE.noneD rfl rfl (.cons ⟨rfl,(LeV.upd rfl rfl (LeV.upd rfl rfl LeV.none)),rfl,rfl,rfl,rfl⟩ .nil)) rfl
 (iterate 2 refine sp ?_);refine ⟨trivial,_,_,_,_,rfl,_,_,rfl,(fun h=>by cases h),?_⟩;refine W.cv (Cv.absorb (N:=6) (j:=3) (i:=4) rfl rfl rfl rfl) rfl ?_;refine sp ?_;refine InBlock.n ?_;(iterate 6 refine sp ?_);have q0:=j1 H;subst q0;exact W.now (BodyR.mkR ⟨.inr rfl,trivial⟩ rfl [0,2] ⟨rfl,rfl⟩ ⟨rfl,AA2,by decide,rfl,BB1⟩ rfl rfl)
theorem s_sc_Collect_deflate_Item__b (k:Nat) (x1:(List Int)) (x2:(List S_deflate_Item)) (H:g_sc_Collect_deflate_Item k x1=some x2):Go.Q.Spec Try.prog 21 1 [.fn 50 [.ptr 0 0]] (Mem.nil.push (.cells 22 [.ro (Rd.slice (Rd.int .u8)) false x1])) (fun o M=>o=.ret (.ro (Rd.slice rdS_deflate_Item) false x2)∧M=(Mem.nil.push (.cells 22 [.ro (Rd.slice (Rd.int .u8)) false x1]))):=by
 unfold g_sc_Collect_deflate_Item at H;refine bo Try.func21 [] [.tmp 2] 5 fun cx hnp=>?_;(iterate 5 refine sp ?_);obtain ⟨x3,h1,H⟩:=bnd H;refine WPL.c (rc [0] [0,1] 2 [] (s_sc_AppendSeq_deflate_Item_deflate_Item__b k x1 x3 h1)) rfl ?_;(iterate 3 refine sp ?_);refine W.cv (Cv.frzRow (i:=1) rfl rfl hnp rfl rfl) rfl ?_;have q0:=j1 H;subst q0;exact W.now (mb [0])
theorem s_deflate_Parse__b (k:Nat) (x1:(List Int)) (x2:(List S_deflate_Item)) (H:g_deflate_Parse k x1=some x2):Go.Q.Spec Try.prog 13 0 [.ro (Rd.slice (Rd.int .u8)) false x1] Mem.nil (fun o M=>o=.ret (.ro (Rd.slice rdS_deflate_Item) false x2)∧M=Mem.nil):=by
 unfold g_deflate_Parse at H;refine bo Try.func13 [] [.tmp 2] 6 fun cx hnp=>?_;(iterate 5 refine sp ?_);obtain ⟨_,h1,H⟩:=bnd H;refine WPL.c (rc [] [0] 1 [] (s_deflate_items__b k x1 h1)) rfl ?_;obtain ⟨x3,h2,H⟩:=bnd H;refine WPL.c (rc [0] [0] 1 [] (s_sc_Collect_deflate_Item__b k x1 x3 h2)) rfl ?_;(iterate 3 refine sp ?_);have q0:=j1 H;subst q0;exact W.now (mb [])
theorem s_quirelaw01_Same__b (k:Nat) (x1:(List Int)) (x2:(List Int)) (x3:Bool) (H:g_quirelaw01_Same k x1 x2=some x3):Go.Q.Spec Try.prog 10 0 [.ro (Rd.slice (Rd.int .u8)) false x1,.ro (Rd.slice (Rd.int .u8)) false x2] Mem.nil (fun o M=>o=.ret (.lit (.bool x3))∧M=Mem.nil):=by
 unfold g_quirelaw01_Same at H;refine bo Try.func10 [] [.tmp 4] 10 fun cx hnp=>?_;(iterate 5 refine sp ?_);refine WPL.qq (q_bytes_str Try.underlying22 Try.underlying5 Try.underlying9 rfl) ?_;refine sp ?_;refine WPL.qq (q_bytes_str Try.underlying22 Try.underlying5 Try.underlying9 rfl) ?_;obtain ⟨x4,h1,H⟩:=bnd H;refine sn (nm_bool h1) ?_;(iterate 3 refine sp ?_);have q0:=j1 H;subst q0;exact W.now (mb [])
theorem s_bits_Writer_Bytes__b (k:Nat) (x1:(List Int)) (x2:Int) (x3:(List Int)) (x4:Int) (H:g_bits_Writer_Bytes k x1 x2 x3=some x4):Go.Q.Spec Try.prog 26 1 [.ptr 0 0,.ro (Rd.slice (Rd.int .u8)) false x1] ((Mem.nil.push (.cells 101 [.whole 1,.lit (.int .i64 x2)])).push (.row 5 (Rd.int .u8) x3)) (fun o M=>o=.ret (.tup [])∧M=((Mem.nil.push (.cells 101 [.whole 1,.lit (.int .i64 x4)])).push (.row 5 (Rd.int .u8) (x3++x1)))):=by
 unfold g_bits_Writer_Bytes at H;refine bo Try.func26 [] [] 24 fun cx hnp=>?_;(iterate 2 refine sp ?_);refine WPL.qq (q_neqp Try.underlying59 rfl) ?_;refine sp ?_;refine WP.condT rfl ?_;(iterate 7 refine sp ?_);obtain ⟨h1,H⟩:=grd H;refine WPL.d (d_append ap22 rfl rfl rfl rfl (src_ro sl22 rfl) h1 rfl) rfl ?_;(iterate 11 refine sp ?_);obtain ⟨x5,h2,H⟩:=bnd H;refine sn (nm_int h2) ?_;(iterate 3 refine sp ?_);refine WPL.nilW ?_;have q0:=j1 H;subst q0;exact W.now (BodyR.mkN trivial rfl [0,2] ⟨rfl,rfl⟩ ⟨rfl,AA2,by decide,rfl,BB1⟩ rfl rfl)
theorem s_deflate_stored__b (k:Nat) (x1:(List Int)) (x2:(List Int)) (H:g_deflate_stored k x1=some x2):Go.Q.Spec Try.prog 16 0 [.ro (Rd.slice (Rd.int .u8)) false x1] Mem.nil (fun o M=>o=.ret (.ro (Rd.slice (Rd.int .u8)) false x2)∧M=Mem.nil):=by
 unfold g_deflate_stored at H;refine bo Try.func16 [] [.tmp 2] 45 fun cx hnp=>?_;(iterate 4 refine sp ?_);obtain ⟨_,h1,H⟩:=bnd H;refine WPL.c (rc [] [0] 1 [] (s_bits_NewWriter k h1)) rfl ?_;(iterate 2 refine sp ?_);refine WP.seq ?_;(iterate 4 refine sp ?_);refine WP.cv (Cv.virC 5 (Rd.int .u8) (N:=1) rfl rfl (i:=0) (off:=0) rfl rfl) ?_;refine WP.cv (Cv.weak (E':=(((Env.none.upd 0 (.ro (Rd.slice (Rd.int .u8)) false x1)).upd 3 (.ptr 0 0)).upd 4 (.lit (.bool true)))) (M':=((Mem.nil.push (.cells 101 [.whole 1,.lit (.int .i64 0)])).push (.row 5 (Rd.int .u8) ([]:List Int)))) [0,1] hnp ⟨rfl,AA2,by decide,rfl,trivial⟩ (LeE.u (LeE.u (LeE.u (LeE.none rfl rfl))))) ?_;obtain ⟨⟨x3,x4⟩,H1,H⟩:=bnd H;refine mo (.exit 0) (Env.none.upd 3 (.ptr 0 0)) ((Mem.nil.push (.cells 101 [.whole 1,.lit (.int .i64 x3)])).push (.row 5 (Rd.int .u8) x4)) ?_ ?_
 · refine WP.loop (β:=(List Int) × Bool × Int × (List Int)) (fun n b=>g_deflate_stored_l0 k n b.1 b.2.1 b.2.2.1 b.2.2.2=some (x3,x4)) (fun b=>(((Env.none.upd 0 (.ro (Rd.slice (Rd.int .u8)) false b.1)).upd 3 (.ptr 0 0)).upd 4 (.lit (.bool b.2.1)))) (fun b=>((Mem.nil.push (.cells 101 [.whole 1,.lit (.int .i64 b.2.2.1)])).push (.row 5 (Rd.int .u8) b.2.2.2))) k (x1,true,0,([]:List Int)) H1 rfl rfl ?_;rintro n ⟨x5,x6,x7,x8⟩ H;obtain _ | n:=n
   · exact nf rfl H
   rw [g_deflate_stored_l0.eq_2] at H;show WP _ _ _ _ (((Env.none.upd 0 (.ro (Rd.slice (Rd.int .u8)) false x5)).upd 3 (.ptr 0 0)).upd 4 (.lit (.bool x6))) ((Mem.nil.push (.cells 101 [.whole 1,.lit (.int .i64 x7)])).push (.row 5 (Rd.int .u8) x8)) _;refine WP.seq ?_;refine WP.seq ?_;obtain ⟨x9,H2,H⟩:=bnd H;refine mo .normal (((Env.none.upd 0 (.ro (Rd.slice (Rd.int .u8)) false x5)).upd 3 (.ptr 0 0)).upd 13 (.lit (.bool x9))) ((Mem.nil.push (.cells 101 [.whole 1,.lit (.int .i64 x7)])).push (.row 5 (Rd.int .u8) x8)) ?_ ?_
   · clear H;have H:=H2;clear H2;(iterate 3 refine sp ?_);refine ws 9 H (fun hb1 H=>?_) fun hb1 H=>?_
     · (iterate 4 refine sp ?_);refine WPL.nilW ?_;have q0:=j1 H;subst q0;exact wq [0,1]
     (iterate 2 refine sp ?_);obtain ⟨x10,h2,H⟩:=bnd H;refine sn (nm_bool h2) ?_;refine sp ?_;refine WPL.nilW ?_;have q0:=j1 H;subst q0;exact wq [0,1]
   (iterate 2 refine sp ?_);refine cq H (fun hb2 H=>?_) fun hb2 H=>?_
   · (iterate 3 refine sp ?_);refine WP.seq ?_;(iterate 4 refine sp ?_);obtain ⟨x11,h3,H⟩:=bnd H;refine sn (nm_int h3) ?_;(iterate 5 refine sp ?_);refine WP.seq ?_;obtain ⟨x12,H3,H⟩:=bnd H;refine mo .normal ((((Env.none.upd 0 (.ro (Rd.slice (Rd.int .u8)) false x5)).upd 3 (.ptr 0 0)).upd 5 (.lit (.int .i64 x11))).upd 6 (.lit (.int .u32 x12))) ((Mem.nil.push (.cells 101 [.whole 1,.lit (.int .i64 x7)])).push (.row 5 (Rd.int .u8) x8)) ?_ ?_
     · clear H;have H:=H3;clear H3;(iterate 4 refine sp ?_);obtain ⟨x13,h4,H⟩:=bnd H;refine sn (nm_bool h4) ?_;refine sp ?_;refine cq H (fun hb3 H=>?_) fun hb3 H=>?_
       · (iterate 2 refine sp ?_);refine WPL.nilW ?_;have q0:=j1 H;subst q0;exact wq [0,1]
       refine sp ?_;have q0:=j1 H;subst q0;exact wq [0,1]
     (iterate 5 refine sp ?_);obtain ⟨⟨x14,x15,x16⟩,h5,H⟩:=bnd H;refine WPL.c (rc [0,1] [0,2] 3 [] (s_bits_Writer_Put__b k x12 3 x7 x8 x14 x15 x16 h5) (hargs:=.ren rfl rfl (.ren rfl rfl (.ren rfl rfl .nil)))) rfl ?_;(iterate 3 refine sp ?_);obtain ⟨x17,h6,H⟩:=bnd H;refine WPL.c (rc [0,2] [0,3] 4 [] (s_bits_Writer_Align k x15 x16 x17 h6)) rfl ?_;(iterate 5 refine sp ?_);obtain ⟨⟨x18,x19,x20⟩,h7,H⟩:=bnd H;refine WPL.c (rc [0,3] [0,4] 5 [] (s_bits_Writer_Put__b k (IntKind.wrap .u32 x11) 16 x17 x16 x18 x19 x20 h7) (hargs:=.ren rfl rfl (.ren rfl rfl (.ren rfl rfl .nil)))) rfl ?_;(iterate 5 refine sp ?_);obtain ⟨x21,h8,H⟩:=bnd H;refine WPL.qq (q_nm (q_com rfl) (nm_int h8)) ?_;obtain ⟨⟨x22,x23,x24⟩,h8,H⟩:=bnd H;refine WPL.c (rc [0,4] [0,5] 6 [] (s_bits_Writer_Put__b k x21 16 x19 x20 x22 x23 x24 h8) (hargs:=.ren rfl rfl (.ren rfl rfl (.ren rfl rfl .nil)))) rfl ?_;(iterate 5 refine sp ?_);obtain ⟨h9,H⟩:=grd H;refine WPL.qq (q_slice_ro (i:=0) (j:=x11) sl22 rfl rfl rfl ⟨_,rfl⟩ h9) ?_;obtain ⟨x25,h10,H⟩:=bnd H;refine WPL.c (rc [0,5] [0,6] 7 [] (s_bits_Writer_Bytes__b k (List.drop (Int.toNat 0) (List.take (Int.toNat x11) x5)) x23 x24 x25 h10)) rfl ?_;(iterate 4 refine sp ?_);obtain ⟨h11,H⟩:=grd H;refine WPL.qq (q_slice_ro (i:=x11) (j:=((List.length x5:Nat):Int)) sl22 rfl rfl ⟨_,rfl⟩ rfl h11) ?_;refine sp ?_;refine WPL.nilW ?_;refine sp ?_;refine InBlock.n ?_;(iterate 3 refine sp ?_);refine WPL.nilW ?_;exact wq [0,6] (Then.n ⟨n,((List.drop (Int.toNat x11) (List.take (Int.toNat ((List.length x5:Nat):Int)) x5)),false,x25,(x24++(List.drop (Int.toNat 0) (List.take (Int.toNat x11) x5)))),Nat.lt_succ_self n,H,rfl,rfl⟩)
   refine sp ?_;obtain ⟨rfl,rfl⟩:=j2 H;exact wq [0,1] (Then.x (Then.x r3))
 (iterate 5 refine sp ?_);obtain ⟨x26,h12,H⟩:=bnd H;refine WPL.c (rc [0,1] [0,2] 3 [] (s_bits_Writer_Done k x3 x4 x26 h12)) rfl ?_;(iterate 3 refine sp ?_);have q0:=j1 H;subst q0;exact W.now (mb [])
theorem s_deflate_Deflate__b (k:Nat) (x1:(List Int)) (x2:Int) (r:(((List Int) × Int) ⊕ ByteArray)) (H:g_deflate_Deflate k x1 x2=some r):Go.Q.Spec Try.prog 7 0 [.ro (Rd.slice (Rd.int .u8)) false x1,.lit (.int .i64 x2)] Mem.nil (fun o M=>match (generalizing:=false) r with | (Sum.inl (x3,x4))=>o=.ret (.tup [.ro (Rd.slice (Rd.int .u8)) false x3,.lit (.int .i64 x4)])∧M=Mem.nil | (Sum.inr x5)=>o=.pan (.ifc 9 (.lit (.string x5)))∧M=Mem.nil):=by
 unfold g_deflate_Deflate at H;refine bo Try.func7 [] [.tmp 4,.tmp 5] 49 fun cx hnp=>?_;(iterate 4 refine sp ?_);refine WP.seq ?_;refine WP.seq ?_;obtain ⟨x6,H1,H⟩:=bnd H;refine mo .normal (((Env.none.upd 0 (.ro (Rd.slice (Rd.int .u8)) false x1)).upd 1 (.lit (.int .i64 x2))).upd 15 (.lit (.bool x6))) Mem.nil ?_ ?_
 · clear H;have H:=H1;clear H1;(iterate 4 refine sp ?_);refine ws 12 H (fun hb1 H=>?_) fun hb1 H=>?_
   · (iterate 3 refine sp ?_);refine WPL.nilW ?_;have q0:=j1 H;subst q0;exact wq []
   (iterate 3 refine sp ?_);refine WPL.nilW ?_;have q0:=j1 H;subst q0;exact wq []
 (iterate 2 refine sp ?_);refine cq H (fun hb2 H=>?_) fun hb2 H=>?_
 · (iterate 5 refine sp ?_);refine W.cv (Cv.nilRo (Rd.int .u8) false 4 rfl) rfl ?_;have q0:=j1 H;subst q0;exact W.now (Then.r (mb []))
 (iterate 3 refine sp ?_);refine WP.seq ?_;(iterate 3 refine sp ?_);obtain ⟨x7,h1,H⟩:=bnd H;refine sn (nm_bool h1) ?_;refine sp ?_;refine cq H (fun hb3 H=>?_) fun hb3 H=>?_
 · (iterate 5 refine sp ?_);refine W.cv (Cv.nilRo (Rd.int .u8) false 4 rfl) rfl ?_;have q0:=j1 H;subst q0;exact W.now (Then.r (mb []))
 (iterate 5 refine sp ?_);obtain ⟨x8,h2,H⟩:=bnd H;refine WPL.c (rc [] [] 0 [] (s_deflate_stored__b k x1 x8 h2)) rfl ?_;(iterate 2 refine sp ?_);refine WP.seq ?_;(iterate 4 refine sp ?_);refine cq H (fun hb4 H=>?_) fun hb4 H=>?_
 · (iterate 6 refine sp ?_);have q0:=j1 H;subst q0;exact W.now (Then.r (mb []))
 (iterate 5 refine sp ?_);obtain ⟨x9,h3,H⟩:=bnd H;refine WPL.c (rc [] [] 0 [] (s_deflate_Parse__b k x1 x9 h3)) rfl ?_;(iterate 2 refine sp ?_);refine WP.seq ?_;obtain ⟨x10,H2,H⟩:=bnd H;refine mo .normal (((Env.none.upd 1 (.lit (.int .i64 x2))).upd 6 (.ro (Rd.slice (Rd.int .u8)) false x10)).upd 7 (.ro (Rd.slice rdS_deflate_Item) false x9)) Mem.nil ?_ ?_
 · clear H;have H:=H2;clear H2;(iterate 2 refine sp ?_);obtain ⟨x11,h4,H⟩:=bnd H;refine WPL.c (rc [] [] 0 [] (s_deflate_fixed k x9 x11 h4)) rfl ?_;(iterate 7 refine sp ?_);obtain ⟨x12,h5,H⟩:=bnd H;refine sn (nm_bool h5) ?_;refine sp ?_;refine cq H (fun hb5 H=>?_) fun hb5 H=>?_
   · (iterate 3 refine sp ?_);refine WPL.nilW ?_;have q0:=j1 H;subst q0;exact wq []
   refine sp ?_;have q0:=j1 H;subst q0;exact wq []
 (iterate 2 refine sp ?_);refine WP.seq ?_;obtain ⟨y1,H3,H⟩:=bnd H;refine WP.monoW (Q:=fun x E M=>match (generalizing:=false) y1 with | (Sum.inl x13)=>x=.panic (.ifc 9 (.lit (.string x13)))∧E=Env.none∧M=Mem.nil | (Sum.inr x14)=>x=.normal∧E=(Env.none.upd 6 (.ro (Rd.slice (Rd.int .u8)) false x14))∧M=Mem.nil) ?_ ?_
 · clear H;have H:=H3;clear H3;(iterate 4 refine sp ?_);refine cq H (fun hb6 H=>?_) fun hb6 H=>?_
   · (iterate 2 refine sp ?_);obtain ⟨y2,h6,H⟩:=bnd H;rcases y2 with x15 | x16
     · refine WPL.pW (runs_callP (s:=[]) (t:=[]) (N:=0) (bor:=[]) fn18 rfl (s_deflate_dynamic k x9 (Sum.inl x15) h6) ⟨rfl,trivial,by decide,rfl,trivial⟩ rfl trivial (.ren rfl rfl .nil) rfl trivial rfl) ?_;have q0:=j1 H;subst q0;exact W.wkP [] hnp (Then.p r3) ⟨rfl,trivial,by decide,rfl,trivial⟩ (LeE.none rfl rfl) rfl rfl
     refine WPL.c (rc [] [] 0 [] (s_deflate_dynamic k x9 (Sum.inr x16) h6)) rfl ?_;(iterate 4 refine sp ?_);obtain ⟨h7,H⟩:=grd H;refine WPL.qq (q_neqNilRo Try.underlying22 rfl h7) ?_;refine sp ?_;refine WPL.qg rfl rfl rfl aq rfl ?_;refine WPL.qg rfl rfl rfl aq rfl ?_;refine WPL.qg rfl rfl rfl aq rfl ?_;refine WPL.qg rfl rfl rfl aq rfl ?_;obtain ⟨x17,h8,H⟩:=bnd H;refine WPL.qg rfl rfl rfl (q_nm aq (nm_bool h8)) rfl ?_;(iterate 2 refine sp ?_);refine cq H (fun hb7 H=>?_) fun hb7 H=>?_
     · (iterate 3 refine sp ?_);refine WPL.nilW ?_;have q0:=j1 H;subst q0;exact wq []
     refine sp ?_;have q0:=j1 H;subst q0;exact wq []
   refine sp ?_;have q0:=j1 H;subst q0;exact wq []
 rcases y1 with x13 | x14
 · rintro _ _ _ ⟨rfl,rfl,rfl⟩;have q0:=j1 H;subst q0;exact W.now (Then.p (BodyR.mkP trivial [] ⟨rfl,rfl⟩ ⟨rfl,trivial,by decide,rfl,trivial⟩ rfl rfl))
 rintro _ _ _ ⟨rfl,rfl,rfl⟩;(iterate 8 refine sp ?_);have q0:=j1 H;subst q0;exact W.now (mb [])
theorem s_quireref01_Reader_Left (k:Nat) (x1:(List Int)) (x2:Int) (x3:Int) (H:g_quireref01_Reader_Left k x1 x2=some x3):Go.Q.Spec Try.prog 41 1 [.ptr 0 0] (Mem.nil.push (.cells 47 [.ro (Rd.slice (Rd.int .u8)) false x1,.lit (.int .i64 x2)])) (fun o M=>o=.ret (.lit (.int .i64 x3))∧M=(Mem.nil.push (.cells 47 [.ro (Rd.slice (Rd.int .u8)) false x1,.lit (.int .i64 x2)]))):=by
 unfold g_quireref01_Reader_Left at H;refine bo Try.func41 [] [.tmp 2] 14 fun cx hnp=>?_;(iterate 3 refine sp ?_);refine WP.seq ?_;refine WP.regionD' 12 [0] [] mixed rfl ?_;refine dT 0 ?_;refine dT 1 ?_;refine dT 2 ?_;refine dT 6 ?_;refine dT 7 ?_;refine dT 8 ?_;refine dK 3 ?_;refine dT 4 ?_;obtain ⟨x4,h1,H⟩:=bnd H;refine dT 5 ?_ rfl (q_nm aq (nm_int h1));refine dK 9 ?_;refine dT 10 ?_;refine dT 11 ?_;refine WPD.doneW (by kernel_rfl) ?_;(iterate 3 refine sp ?_);have q0:=j1 H;subst q0;exact W.now (mb [0])
theorem s_quireref01_Reader_bit (k:Nat) (x1:Int) (x2:(List Int)) (x3:Int) (x4:Int) (H:g_quireref01_Reader_bit k x1 x2 x3=some x4):Go.Q.Spec Try.prog 42 1 [.ptr 0 0,.lit (.int .i64 x1)] (Mem.nil.push (.cells 47 [.ro (Rd.slice (Rd.int .u8)) false x2,.lit (.int .i64 x3)])) (fun o M=>o=.ret (.lit (.int .u32 x4))∧M=(Mem.nil.push (.cells 47 [.ro (Rd.slice (Rd.int .u8)) false x2,.lit (.int .i64 x3)]))):=by
 unfold g_quireref01_Reader_bit at H;refine bo Try.func42 [] [.tmp 4] 19 fun cx hnp=>?_;(iterate 10 refine sp ?_);obtain ⟨x5,h1,H⟩:=bnd H;(iterate 5 refine sp ?_);obtain ⟨h1,H⟩:=grd H;obtain ⟨x6,h2,H⟩:=bnd H;refine WPL.qq (q_nm (q_shr rfl rfl h1) (nm_int h2)) ?_;refine sp ?_;obtain ⟨x7,h3,H⟩:=bnd H;refine sn (nm_int h3) ?_;(iterate 3 refine sp ?_);have q0:=j1 H;subst q0;exact W.now (mb [0])
theorem s_quireref01_Reader_Take (k:Nat) (x1:Int) (x2:(List Int)) (x3:Int) (x4:Int) (x5:Int) (x6:Int) (H:g_quireref01_Reader_Take k x1 x2 x3=some (x4,x5,x6)):Go.Q.Spec Try.prog 19 1 [.ptr 0 0,.lit (.int .i64 x1)] (Mem.nil.push (.cells 47 [.ro (Rd.slice (Rd.int .u8)) false x2,.lit (.int .i64 x3)])) (fun o M=>o=.ret (.tup [.lit (.int .u32 x4),.lit (.int .i64 x5)])∧M=(Mem.nil.push (.cells 47 [.ro (Rd.slice (Rd.int .u8)) false x2,.lit (.int .i64 x6)]))):=by
 unfold g_quireref01_Reader_Take at H;refine bo Try.func19 [] [.tmp 4,.tmp 5] 46 fun cx hnp=>?_;(iterate 4 refine sp ?_);refine WP.seq ?_;refine WP.seq ?_;obtain ⟨x7,H1,H⟩:=bnd H;refine mo .normal (((Env.none.upd 0 (.ptr 0 0)).upd 1 (.lit (.int .i64 x1))).upd 13 (.lit (.bool x7))) (Mem.nil.push (.cells 47 [.ro (Rd.slice (Rd.int .u8)) false x2,.lit (.int .i64 x3)])) ?_ ?_
 · clear H;have H:=H1;clear H1;(iterate 4 refine sp ?_);refine ws 10 H (fun hb1 H=>?_) fun hb1 H=>?_
   · (iterate 3 refine sp ?_);refine WPL.nilW ?_;have q0:=j1 H;subst q0;exact wq [0]
   (iterate 3 refine sp ?_);refine WPL.nilW ?_;have q0:=j1 H;subst q0;exact wq [0]
 (iterate 2 refine sp ?_);refine cq H (fun hb2 H=>?_) fun hb2 H=>?_
 · (iterate 5 refine sp ?_);obtain ⟨rfl,rfl,rfl⟩:=j3 H;exact W.now (Then.r (mb [0]))
 (iterate 3 refine sp ?_);refine WP.seq ?_;(iterate 3 refine sp ?_);obtain ⟨x8,h1,H⟩:=bnd H;refine WPL.c (rc [0] [0] 1 [] (s_quireref01_Reader_Left k x2 x3 x8 h1)) rfl ?_;(iterate 2 refine sp ?_);refine cq H (fun hb3 H=>?_) fun hb3 H=>?_
 · (iterate 5 refine sp ?_);obtain ⟨rfl,rfl,rfl⟩:=j3 H;exact W.now (Then.r (mb [0]))
 (iterate 6 refine sp ?_);refine WP.seq ?_;(iterate 4 refine sp ?_);refine WP.cv (Cv.weak (E':=((((Env.none.upd 0 (.ptr 0 0)).upd 1 (.lit (.int .i64 x1))).upd 6 (.lit (.int .u32 0))).upd 7 (.lit (.int .i64 0)))) (M':=(Mem.nil.push (.cells 47 [.ro (Rd.slice (Rd.int .u8)) false x2,.lit (.int .i64 x3)]))) [0] hnp ⟨rfl,AA1,by decide,rfl,BB1⟩ (LeE.u (LeE.u (LeE.u (LeE.u (LeE.none rfl rfl)))))) ?_;obtain ⟨x9,H2,H⟩:=bnd H;refine mo (.exit 0) (((Env.none.upd 0 (.ptr 0 0)).upd 1 (.lit (.int .i64 x1))).upd 6 (.lit (.int .u32 x9))) (Mem.nil.push (.cells 47 [.ro (Rd.slice (Rd.int .u8)) false x2,.lit (.int .i64 x3)])) ?_ ?_
 · refine WP.loop (β:=Int × Int) (fun n b=>g_quireref01_Reader_Take_l0 k x1 x2 x3 n b.1 b.2=some x9) (fun b=>((((Env.none.upd 0 (.ptr 0 0)).upd 1 (.lit (.int .i64 x1))).upd 6 (.lit (.int .u32 b.1))).upd 7 (.lit (.int .i64 b.2)))) (fun b=>(Mem.nil.push (.cells 47 [.ro (Rd.slice (Rd.int .u8)) false x2,.lit (.int .i64 x3)]))) k (0,0) H2 rfl rfl ?_;rintro n ⟨x10,x11⟩ H;obtain _ | n:=n
   · exact nf rfl H
   rw [g_quireref01_Reader_Take_l0.eq_2] at H;show WP _ _ _ _ ((((Env.none.upd 0 (.ptr 0 0)).upd 1 (.lit (.int .i64 x1))).upd 6 (.lit (.int .u32 x10))).upd 7 (.lit (.int .i64 x11))) (Mem.nil.push (.cells 47 [.ro (Rd.slice (Rd.int .u8)) false x2,.lit (.int .i64 x3)])) _;refine WP.seq ?_;(iterate 5 refine sp ?_);refine cq H (fun hb4 H=>?_) fun hb4 H=>?_
   · (iterate 3 refine sp ?_);refine WP.seq ?_;(iterate 10 refine sp ?_);obtain ⟨x12,h2,H⟩:=bnd H;refine WPL.c (rc [0] [0] 1 [] (s_quireref01_Reader_bit k (IntKind.wrap .i64 (x3+x11)) x2 x3 x12 h2)) rfl ?_;(iterate 2 refine sp ?_);obtain ⟨h3,H⟩:=grd H;obtain ⟨x13,h4,H⟩:=bnd H;refine WPL.qq (q_nm (q_shl rfl rfl h3) (nm_int h4)) ?_;(iterate 2 refine sp ?_);refine WPL.nilW ?_;refine sp ?_;refine InBlock.n ?_;(iterate 5 refine sp ?_);refine WPL.nilW ?_;exact wq [0] (Then.n ⟨n,((bits .or .u32 x10 x13),(IntKind.wrap .i64 (x11+1))),Nat.lt_succ_self n,H,rfl,rfl⟩)
   refine sp ?_;have q0:=j1 H;subst q0;exact wq [0] (Then.x (Then.x r3))
 (iterate 21 refine sp ?_);obtain ⟨rfl,rfl,rfl⟩:=j3 H;exact W.now (mb [0])
theorem s_quireref01_Reader_Align (k:Nat) (x1:(List Int)) (x2:Int) (x3:Int) (H:g_quireref01_Reader_Align k x1 x2=some x3):Go.Q.Spec Try.prog 83 1 [.ptr 0 0] (Mem.nil.push (.cells 47 [.ro (Rd.slice (Rd.int .u8)) false x1,.lit (.int .i64 x2)])) (fun o M=>o=.ret (.tup [])∧M=(Mem.nil.push (.cells 47 [.ro (Rd.slice (Rd.int .u8)) false x1,.lit (.int .i64 x3)]))):=by
 unfold g_quireref01_Reader_Align at H;refine bo Try.func83 [] [] 12 fun cx hnp=>?_;(iterate 7 refine sp ?_);obtain ⟨x4,h1,H⟩:=bnd H;refine sn (nm_int h1) ?_;(iterate 4 refine sp ?_);refine WPL.nilW ?_;have q0:=j1 H;subst q0;exact W.now (BodyR.mkN trivial rfl [0] ⟨rfl,rfl⟩ ⟨rfl,AA1,by decide,rfl,BB1⟩ rfl rfl)
theorem s_quireref01_Reader_Bytes (k:Nat) (x1:Int) (x2:(List Int)) (x3:Int) (x4:(List Int)) (x5:Int) (x6:Int) (H:g_quireref01_Reader_Bytes k x1 x2 x3=some (x4,x5,x6)):Go.Q.Spec Try.prog 69 1 [.ptr 0 0,.lit (.int .i64 x1)] (Mem.nil.push (.cells 47 [.ro (Rd.slice (Rd.int .u8)) false x2,.lit (.int .i64 x3)])) (fun o M=>o=.ret (.tup [.ro (Rd.slice (Rd.int .u8)) false x4,.lit (.int .i64 x5)])∧M=(Mem.nil.push (.cells 47 [.ro (Rd.slice (Rd.int .u8)) false x2,.lit (.int .i64 x6)]))):=by
 unfold g_quireref01_Reader_Bytes at H;refine bo Try.func69 [] [.tmp 4,.tmp 5] 46 fun cx hnp=>?_;(iterate 4 refine sp ?_);refine WP.seq ?_;(iterate 4 refine sp ?_);refine cq H (fun hb1 H=>?_) fun hb1 H=>?_
 · (iterate 5 refine sp ?_);refine W.cv (Cv.nilRo (Rd.int .u8) false 4 rfl) rfl ?_;obtain ⟨rfl,rfl,rfl⟩:=j3 H;exact W.now (Then.r (mb [0]))
 (iterate 5 refine sp ?_);obtain ⟨x7,h1,H⟩:=bnd H;refine WPL.c (rc [0] [0] 1 [] (s_quireref01_Reader_Align k x2 x3 x7 h1)) rfl ?_;refine sp ?_;refine WP.seq ?_;(iterate 3 refine sp ?_);obtain ⟨x8,h2,H⟩:=bnd H;refine WPL.c (rc [0] [0] 1 [] (s_quireref01_Reader_Left k x2 x7 x8 h2)) rfl ?_;refine sp ?_;obtain ⟨x9,h3,H⟩:=bnd H;refine sn (nm_bool h3) ?_;refine sp ?_;refine cq H (fun hb2 H=>?_) fun hb2 H=>?_
 · (iterate 5 refine sp ?_);refine W.cv (Cv.nilRo (Rd.int .u8) false 4 rfl) rfl ?_;obtain ⟨rfl,rfl,rfl⟩:=j3 H;exact W.now (Then.r (mb [0]))
 (iterate 3 refine sp ?_);refine WP.seq ?_;refine WP.regionD' 20 [0] [] mixed rfl ?_;refine dT 1 ?_;refine dT 2 ?_;refine dT 3 ?_;refine dT 5 ?_;refine dT 6 ?_;refine dT 7 ?_;refine dT 10 ?_;refine dT 11 ?_;refine dT 12 ?_;refine dT 15 ?_;refine dK 4 ?_;refine dK 8 ?_;refine dT 9 ?_;refine dK 13 ?_;refine dT 14 ?_;obtain ⟨x10,h4,H⟩:=bnd H;refine dT 16 ?_ rfl (q_nm aq (nm_int h4));obtain ⟨h4,H⟩:=grd H;refine WPD.tT 17 rfl (q_slice_ro (i:=(IntKind.wrap .i64 (Int.tdiv x7 8))) (j:=x10) sl22 rfl rfl ⟨_,rfl⟩ ⟨_,rfl⟩ h4) ?_;refine dE 0 [0] [] rfl (Does.runs (d_buildSlice (ds:=([]:List Int)) (R:=(Rd.int .u8)) li22 rfl rfl rfl rfl rfl JoinRows.nil rfl rfl)) ?_;obtain ⟨h5,H⟩:=grd H;refine dE 18 [0] [] rfl (Does.runs (d_append ap22 rfl rfl rfl rfl (src_ro sl22 rfl) h5 rfl)) ?_;refine dT 19 ?_;refine WPD.doneW (by kernel_rfl) ?_;(iterate 10 refine sp ?_);obtain ⟨x11,h6,H⟩:=bnd H;refine sn (nm_int h6) ?_;(iterate 10 refine sp ?_);refine W.cv (Cv.frzRow (i:=2) rfl rfl hnp rfl rfl) rfl ?_;obtain ⟨rfl,rfl,rfl⟩:=j3 H;exact W.now (mb [0])
theorem s_quireref03_stream_stored (k:Nat) (x1:Int) (x2:(List Int)) (x3:Int) (x4:(List Int)) (x5:Int) (x6:Int) (x7:(List Int)) (H:g_quireref03_stream_stored k x1 x2 x3 x4=some (x5,x6,x7)):Go.Q.Spec Try.prog 43 2 [.ptr 0 0] (((Mem.nil.push (.cells 49 [.ptr 1 0,.whole 2,.lit (.int .i64 x1)])).push (.cells 47 [.ro (Rd.slice (Rd.int .u8)) false x2,.lit (.int .i64 x3)])).push (.row 5 (Rd.int .u8) x4)) (fun o M=>o=.ret (.lit (.int .i64 x5))∧M=(((Mem.nil.push (.cells 49 [.ptr 1 0,.whole 2,.lit (.int .i64 x1)])).push (.cells 47 [.ro (Rd.slice (Rd.int .u8)) false x2,.lit (.int .i64 x6)])).push (.row 5 (Rd.int .u8) x7))):=by
 unfold g_quireref03_stream_stored at H;refine bo Try.func43 [] [.tmp 2] 81 fun cx hnp=>?_;(iterate 8 refine sp ?_);obtain ⟨⟨x8,x9,x10⟩,h1,H⟩:=bnd H;refine WPL.c (rc [1] [1] 3 [] (s_quireref01_Reader_Bytes k 4 x2 x3 x8 x9 x10 h1)) rfl ?_;(iterate 6 refine sp ?_);refine WP.seq ?_;(iterate 4 refine sp ?_);refine cq H (fun hb1 H=>?_) fun hb1 H=>?_
 · (iterate 5 refine sp ?_);obtain ⟨rfl,rfl,rfl⟩:=j3 H;exact W.now (Then.r (mb [0,1,2]))
 (iterate 3 refine sp ?_);refine WP.seq ?_;refine WP.regionD' 11 [] [] mixed rfl ?_;refine dT 0 ?_;obtain ⟨x11,h2,H⟩:=bnd H;refine dT 1 ?_;refine dT 2 ?_;refine dT 3 ?_;refine dT 4 ?_;obtain ⟨x12,h3,H⟩:=bnd H;refine dT 5 ?_;refine dT 6 ?_;refine dT 7 ?_;refine dT 8 ?_;obtain ⟨x13,h4,H⟩:=bnd H;refine dT 9 ?_ rfl (q_nm aq (nm_int h4));refine dT 10 ?_;refine WPD.doneW (by kernel_rfl) ?_;(iterate 2 refine sp ?_);refine WP.seq ?_;refine WP.regionD' 11 [] [] mixed rfl ?_;refine dT 0 ?_;obtain ⟨x14,h5,H⟩:=bnd H;refine dT 1 ?_;refine dT 2 ?_;refine dT 3 ?_;refine dT 4 ?_;obtain ⟨x15,h6,H⟩:=bnd H;refine dT 5 ?_;refine dT 6 ?_;refine dT 7 ?_;refine dT 8 ?_;obtain ⟨x16,h7,H⟩:=bnd H;refine dT 9 ?_ rfl (q_nm aq (nm_int h7));refine dT 10 ?_;refine WPD.doneW (by kernel_rfl) ?_;(iterate 2 refine sp ?_);refine WP.seq ?_;refine WP.seq ?_;obtain ⟨x17,H1,H⟩:=bnd H;refine mo .normal (((Env.none.upd 0 (.ptr 0 0)).upd 5 (.lit (.int .i64 x13))).upd 47 (.lit (.bool x17))) (((Mem.nil.push (.cells 49 [.ptr 1 0,.whole 2,.lit (.int .i64 x1)])).push (.cells 47 [.ro (Rd.slice (Rd.int .u8)) false x2,.lit (.int .i64 x10)])).push (.row 5 (Rd.int .u8) x4)) ?_ ?_
 · clear H;have H:=H1;clear H1;(iterate 4 refine sp ?_);obtain ⟨x18,h8,H⟩:=bnd H;refine sn (nm_bool h8) ?_;refine sp ?_;refine ws 42 H (fun hb2 H=>?_) fun hb2 H=>?_
   · (iterate 5 refine sp ?_);refine WPL.nilW ?_;have q0:=j1 H;subst q0;exact wq [0,1,2]
   (iterate 3 refine sp ?_);obtain ⟨x19,h9,H⟩:=bnd H;refine sn (nm_bool h9) ?_;refine sp ?_;refine WPL.nilW ?_;have q0:=j1 H;subst q0;exact wq [0,1,2]
 (iterate 2 refine sp ?_);refine cq H (fun hb3 H=>?_) fun hb3 H=>?_
 · (iterate 4 refine sp ?_);obtain ⟨rfl,rfl,rfl⟩:=j3 H;exact W.now (Then.r (mb [0,1,2]))
 (iterate 3 refine sp ?_);refine WP.seq ?_;refine WP.seq ?_;refine WP.regionD' 12 [0] [] mixed rfl ?_;refine dT 0 ?_;refine dT 1 ?_;refine dT 2 ?_;refine dT 3 ?_;refine dT 5 ?_;refine dT 6 ?_;refine dT 7 ?_;refine dK 4 ?_;refine dK 8 ?_;refine dT 9 ?_;obtain ⟨x20,h10,H⟩:=bnd H;refine dT 10 ?_ rfl (q_nm aq (nm_int h10));refine dT 11 ?_;refine WPD.doneW (by kernel_rfl) ?_;(iterate 2 refine sp ?_);refine cq H (fun hb4 H=>?_) fun hb4 H=>?_
 · (iterate 4 refine sp ?_);obtain ⟨rfl,rfl,rfl⟩:=j3 H;exact W.now (Then.r (mb [0,1,2]))
 (iterate 9 refine sp ?_);obtain ⟨⟨x21,x22,x23⟩,h11,H⟩:=bnd H;refine WPL.c (rc [1] [1] 3 [] (s_quireref01_Reader_Bytes k x13 x2 x10 x21 x22 x23 h11)) rfl ?_;(iterate 6 refine sp ?_);refine WP.seq ?_;obtain ⟨x24,H2,H⟩:=bnd H;refine mo .normal (Env.none.upd 4 (.lit (.int .i64 x22))) (((Mem.nil.push (.cells 49 [.ptr 1 0,.whole 2,.lit (.int .i64 x1)])).push (.cells 47 [.ro (Rd.slice (Rd.int .u8)) false x2,.lit (.int .i64 x23)])).push (.row 5 (Rd.int .u8) x24)) ?_ ?_
 · clear H;have H:=H2;clear H2;(iterate 4 refine sp ?_);refine cq H (fun hb5 H=>?_) fun hb5 H=>?_
   · (iterate 7 refine sp ?_);obtain ⟨h12,H⟩:=grd H;refine WPL.d (d_append ap22 rfl rfl rfl rfl (src_ro sl22 rfl) h12 rfl) rfl ?_;(iterate 3 refine sp ?_);refine WPL.nilW ?_;have q0:=j1 H;subst q0;exact wq [0,1,3]
   refine sp ?_;have q0:=j1 H;subst q0;exact wq [0,1,2]
 (iterate 7 refine sp ?_);obtain ⟨rfl,rfl,rfl⟩:=j3 H;exact W.now (mb [0,1,2])
theorem s_quireref03_FixedLit (k:Nat) (x1:(List Int)) (H:g_quireref03_FixedLit k=some x1):Go.Q.Spec Try.prog 45 0 [] Mem.nil (fun o M=>o=.ret (.ro (Rd.slice (Rd.int .i64)) false x1)∧M=Mem.nil):=by
 unfold g_quireref03_FixedLit at H;refine bo Try.func45 [] [.tmp 0] 25 fun cx hnp=>?_;(iterate 6 refine sp ?_);refine WP.seq ?_;(iterate 4 refine sp ?_);refine WP.cv (Cv.vir 3 (Rd.int .i64) (N:=0) rfl 1 rfl) ?_;refine WP.cv (Cv.weak (E':=((Env.none.upd 1 (.whole 0)).upd 2 (.lit (.int .i64 0)))) (M':=(Mem.nil.push (.row 3 (Rd.int .i64) ([]:List Int)))) [0] hnp ⟨rfl,AA1,by decide,rfl,trivial⟩ (LeE.u (LeE.u (LeE.none rfl rfl)))) ?_;obtain ⟨x2,H1,H⟩:=bnd H;refine mo (.exit 0) (Env.none.upd 1 (.whole 0)) (Mem.nil.push (.row 3 (Rd.int .i64) x2)) ?_ ?_
 · refine WP.loop (β:=Int × (List Int)) (fun n b=>g_quireref03_FixedLit_l0 k n b.1 b.2=some x2) (fun b=>((Env.none.upd 1 (.whole 0)).upd 2 (.lit (.int .i64 b.1)))) (fun b=>(Mem.nil.push (.row 3 (Rd.int .i64) b.2))) k (0,([]:List Int)) H1 rfl rfl ?_;rintro n ⟨x3,x4⟩ H;obtain _ | n:=n
   · exact nf rfl H
   rw [g_quireref03_FixedLit_l0.eq_2] at H;show WP _ _ _ _ ((Env.none.upd 1 (.whole 0)).upd 2 (.lit (.int .i64 x3))) (Mem.nil.push (.row 3 (Rd.int .i64) x4)) _;refine WP.seq ?_;(iterate 4 refine sp ?_);refine cq H (fun hb1 H=>?_) fun hb1 H=>?_
   · (iterate 3 refine sp ?_);refine WP.seq ?_;(iterate 4 refine sp ?_);refine WP.seq ?_;obtain ⟨x5,H2,H⟩:=bnd H;refine mo .normal (((Env.none.upd 1 (.whole 0)).upd 2 (.lit (.int .i64 x3))).upd 3 (.lit (.int .i64 x5))) (Mem.nil.push (.row 3 (Rd.int .i64) x4)) ?_ ?_
     · clear H;have H:=H2;clear H2;refine WP.seq ?_;obtain ⟨x6,H3,H⟩:=bnd H;refine mo .normal ((((Env.none.upd 1 (.whole 0)).upd 2 (.lit (.int .i64 x3))).upd 3 (.lit (.int .i64 8))).upd 13 (.lit (.bool x6))) (Mem.nil.push (.row 3 (Rd.int .i64) x4)) ?_ ?_
       · clear H;have H:=H3;clear H3;(iterate 4 refine sp ?_);refine ws 10 H (fun hb2 H=>?_) fun hb2 H=>?_
         · (iterate 3 refine sp ?_);refine WPL.nilW ?_;have q0:=j1 H;subst q0;exact wq [0]
         (iterate 3 refine sp ?_);refine WPL.nilW ?_;have q0:=j1 H;subst q0;exact wq [0]
       (iterate 2 refine sp ?_);refine cq H (fun hb3 H=>?_) fun hb3 H=>?_
       · (iterate 2 refine sp ?_);refine WPL.nilW ?_;have q0:=j1 H;subst q0;exact wq [0]
       refine sp ?_;have q0:=j1 H;subst q0;exact wq [0]
     (iterate 2 refine sp ?_);refine WP.seq ?_;obtain ⟨x7,H4,H⟩:=bnd H;refine mo .normal (((Env.none.upd 1 (.whole 0)).upd 2 (.lit (.int .i64 x3))).upd 3 (.lit (.int .i64 x7))) (Mem.nil.push (.row 3 (Rd.int .i64) x4)) ?_ ?_
     · clear H;have H:=H4;clear H4;refine WP.seq ?_;obtain ⟨x8,H5,H⟩:=bnd H;refine mo .normal ((((Env.none.upd 1 (.whole 0)).upd 2 (.lit (.int .i64 x3))).upd 3 (.lit (.int .i64 x5))).upd 19 (.lit (.bool x8))) (Mem.nil.push (.row 3 (Rd.int .i64) x4)) ?_ ?_
       · clear H;have H:=H5;clear H5;(iterate 4 refine sp ?_);refine ws 16 H (fun hb4 H=>?_) fun hb4 H=>?_
         · (iterate 3 refine sp ?_);refine WPL.nilW ?_;have q0:=j1 H;subst q0;exact wq [0]
         (iterate 3 refine sp ?_);refine WPL.nilW ?_;have q0:=j1 H;subst q0;exact wq [0]
       (iterate 2 refine sp ?_);refine cq H (fun hb5 H=>?_) fun hb5 H=>?_
       · (iterate 2 refine sp ?_);refine WPL.nilW ?_;have q0:=j1 H;subst q0;exact wq [0]
       refine sp ?_;have q0:=j1 H;subst q0;exact wq [0]
     (iterate 5 refine sp ?_);refine WPL.d (d_buildSlice (ds:=([x7]:List Int)) (R:=(Rd.int .i64)) li66 rfl rfl rfl rfl rfl (JoinRows.cons1 Joins.sc rfl JoinRows.nil) rfl rfl) rfl ?_;obtain ⟨h1,H⟩:=grd H;refine WPL.d (d_append ap66 rfl rfl rfl rfl (src_row sl66 rfl rfl) h1 rfl) rfl ?_;refine sp ?_;refine WPL.nilW ?_;refine sp ?_;refine InBlock.n ?_;(iterate 5 refine sp ?_);refine WPL.nilW ?_;exact wq [2] (Then.n ⟨n,((IntKind.wrap .i64 (x3+1)),(x4++([x7]:List Int))),Nat.lt_succ_self n,H,rfl,rfl⟩)
   refine sp ?_;have q0:=j1 H;subst q0;exact wq [0] (Then.x (Then.x r3))
 (iterate 8 refine sp ?_);refine W.cv (Cv.frzRow (i:=0) rfl rfl hnp rfl rfl) rfl ?_;have q0:=j1 H;subst q0;exact W.now (mb [])
theorem s_quireref02_space (k:Nat) (x1:(List Int)) (x2:Int) (x3:Int) (H:g_quireref02_space k x1=some (x2,x3)):Go.Q.Spec Try.prog 87 0 [.ro (Rd.slice (Rd.int .i64)) false x1] Mem.nil (fun o M=>o=.ret (.tup [.lit (.int .i64 x2),.lit (.int .i64 x3)])∧M=Mem.nil):=by
 unfold g_quireref02_space at H;refine bo Try.func87 [] [.tmp 2,.tmp 3] 31 fun cx hnp=>?_;(iterate 8 refine sp ?_);refine WP.seq ?_;(iterate 4 refine sp ?_);refine WP.cv (Cv.weak (E':=((((Env.none.upd 0 (.ro (Rd.slice (Rd.int .i64)) false x1)).upd 4 (.lit (.int .i64 0))).upd 5 (.lit (.int .i64 0))).upd 6 (.lit (.int .i64 0)))) (M':=Mem.nil) [] hnp ⟨rfl,trivial,by decide,rfl,trivial⟩ (LeE.u (LeE.u (LeE.u (LeE.u (LeE.none rfl rfl)))))) ?_;obtain ⟨⟨x4,x5⟩,H1,H⟩:=bnd H;refine mo (.exit 0) ((Env.none.upd 4 (.lit (.int .i64 x4))).upd 5 (.lit (.int .i64 x5))) Mem.nil ?_ ?_
 · refine WP.loop (β:=Int × Int × Int) (fun n b=>g_quireref02_space_l0 k x1 n b.1 b.2.1 b.2.2=some (x4,x5)) (fun b=>((((Env.none.upd 0 (.ro (Rd.slice (Rd.int .i64)) false x1)).upd 4 (.lit (.int .i64 b.1))).upd 5 (.lit (.int .i64 b.2.1))).upd 6 (.lit (.int .i64 b.2.2)))) (fun b=>Mem.nil) k (0,0,0) H1 rfl rfl ?_;rintro n ⟨x6,x7,x8⟩ H;obtain _ | n:=n
   · exact nf rfl H
   rw [g_quireref02_space_l0.eq_2] at H;show WP _ _ _ _ ((((Env.none.upd 0 (.ro (Rd.slice (Rd.int .i64)) false x1)).upd 4 (.lit (.int .i64 x6))).upd 5 (.lit (.int .i64 x7))).upd 6 (.lit (.int .i64 x8))) Mem.nil _;refine WP.seq ?_;(iterate 4 refine sp ?_);obtain ⟨x9,h1,H⟩:=bnd H;refine sn (nm_bool h1) ?_;refine sp ?_;refine cq H (fun hb1 H=>?_) fun hb1 H=>?_
   · (iterate 3 refine sp ?_);refine WP.seq ?_;obtain ⟨⟨x10,x11⟩,H2,H⟩:=bnd H;refine mo .normal ((((Env.none.upd 0 (.ro (Rd.slice (Rd.int .i64)) false x1)).upd 4 (.lit (.int .i64 x10))).upd 5 (.lit (.int .i64 x11))).upd 6 (.lit (.int .i64 x8))) Mem.nil ?_ ?_
     · clear H;have H:=H2;clear H2;(iterate 4 refine sp ?_);obtain ⟨x12,h2,H⟩:=bnd H;(iterate 4 refine sp ?_);refine cq H (fun hb2 H=>?_) fun hb2 H=>?_
       · (iterate 4 refine sp ?_);obtain ⟨x13,h3,H⟩:=bnd H;(iterate 3 refine sp ?_);obtain ⟨x14,h4,H⟩:=bnd H;refine sn (nm_int h4) ?_;obtain ⟨h4,H⟩:=grd H;refine WPL.qq (q_shl rfl rfl h4) ?_;obtain ⟨x15,h5,H⟩:=bnd H;refine sn (nm_int h5) ?_;(iterate 6 refine sp ?_);refine WPL.nilW ?_;obtain ⟨rfl,rfl⟩:=j2 H;exact wq [] (InBlock.n r3)
       refine sp ?_;obtain ⟨rfl,rfl⟩:=j2 H;exact wq [] (InBlock.n r3)
     (iterate 6 refine sp ?_);refine WPL.nilW ?_;exact wq [] (Then.n ⟨n,(x10,x11,(IntKind.wrap .i64 (x8+1))),Nat.lt_succ_self n,H,rfl,rfl⟩)
   refine sp ?_;obtain ⟨rfl,rfl⟩:=j2 H;exact wq [] (Then.x (Then.x r3))
 (iterate 10 refine sp ?_);obtain ⟨rfl,rfl⟩:=j2 H;exact W.now (mb [])
theorem s_quireref02_Right (k:Nat) (x1:(List Int)) (x2:Int) (H:g_quireref02_Right k x1=some x2):Go.Q.Spec Try.prog 84 0 [.ro (Rd.slice (Rd.int .i64)) false x1] Mem.nil (fun o M=>o=.ret (.lit (.int .i64 x2))∧M=Mem.nil):=by
 unfold g_quireref02_Right at H;refine bo Try.func84 [] [.tmp 2] 46 fun cx hnp=>?_;(iterate 3 refine sp ?_);refine WP.seq ?_;(iterate 3 refine sp ?_);obtain ⟨x3,h1,H⟩:=bnd H;refine sn (nm_bool h1) ?_;refine sp ?_;refine cq H (fun hb1 H=>?_) fun hb1 H=>?_
 · (iterate 4 refine sp ?_);have q0:=j1 H;subst q0;exact W.now (Then.r (mb []))
 (iterate 3 refine sp ?_);refine WP.seq ?_;(iterate 4 refine sp ?_);refine WP.cv (Cv.weak (E':=((Env.none.upd 0 (.ro (Rd.slice (Rd.int .i64)) false x1)).upd 3 (.lit (.int .i64 0)))) (M':=Mem.nil) [] hnp ⟨rfl,trivial,by decide,rfl,trivial⟩ (LeE.u (LeE.u (LeE.none rfl rfl)))) ?_;obtain ⟨y1,H1,H⟩:=bnd H;refine WP.monoW (Q:=fun x E M=>match (generalizing:=false) y1 with | (Sum.inl _)=>x=.ret∧E=(Env.none.upd 2 (.lit (.int .i64 1)))∧M=Mem.nil | (Sum.inr _)=>x=.exit 0∧E=(Env.none.upd 0 (.ro (Rd.slice (Rd.int .i64)) false x1))∧M=Mem.nil) ?_ ?_
 · refine WP.loop (β:=Int) (fun n b=>g_quireref02_Right_l0 k x1 n b=some y1) (fun b=>((Env.none.upd 0 (.ro (Rd.slice (Rd.int .i64)) false x1)).upd 3 (.lit (.int .i64 b)))) (fun b=>Mem.nil) k 0 H1 rfl rfl ?_;rintro n x4 H;obtain _ | n:=n
   · exact nf rfl H
   rw [g_quireref02_Right_l0.eq_2] at H;show WP _ _ _ _ ((Env.none.upd 0 (.ro (Rd.slice (Rd.int .i64)) false x1)).upd 3 (.lit (.int .i64 x4))) Mem.nil _;refine WP.seq ?_;(iterate 4 refine sp ?_);obtain ⟨x5,h2,H⟩:=bnd H;refine sn (nm_bool h2) ?_;refine sp ?_;refine cq H (fun hb2 H=>?_) fun hb2 H=>?_
   · (iterate 3 refine sp ?_);refine WP.seq ?_;refine sp ?_;refine WP.seq ?_;obtain ⟨x6,H2,H⟩:=bnd H;refine mo .normal (((Env.none.upd 0 (.ro (Rd.slice (Rd.int .i64)) false x1)).upd 3 (.lit (.int .i64 x4))).upd 26 (.lit (.bool x6))) Mem.nil ?_ ?_
     · clear H;have H:=H2;clear H2;(iterate 3 refine sp ?_);obtain ⟨x7,h3,H⟩:=bnd H;(iterate 4 refine sp ?_);refine ws 20 H (fun hb3 H=>?_) fun hb3 H=>?_
       · (iterate 6 refine sp ?_);refine WPL.nilW ?_;have q0:=j1 H;subst q0;exact wq []
       (iterate 2 refine sp ?_);obtain ⟨x8,h4,H⟩:=bnd H;(iterate 4 refine sp ?_);refine WPL.nilW ?_;have q0:=j1 H;subst q0;exact wq []
     (iterate 2 refine sp ?_);refine cq H (fun hb4 H=>?_) fun hb4 H=>?_
     · (iterate 4 refine sp ?_);have q0:=j1 H;subst q0;exact wq [] (InBlock.r (Then.r (Then.r r3)))
     (iterate 2 refine sp ?_);refine InBlock.n ?_;(iterate 5 refine sp ?_);refine WPL.nilW ?_;exact wq [] (Then.n ⟨n,(IntKind.wrap .i64 (x4+1)),Nat.lt_succ_self n,H,rfl,rfl⟩)
   refine sp ?_;have q0:=j1 H;subst q0;exact wq [] (Then.x (Then.x r3))
 rcases y1 with _ | _
 · rintro _ _ _ ⟨rfl,rfl,rfl⟩;have q0:=j1 H;subst q0;exact W.now (InBlock.r (Then.r (mb [])))
 rintro _ _ _ ⟨rfl,rfl,rfl⟩;(iterate 5 refine sp ?_);obtain ⟨⟨x9,x10⟩,h5,H⟩:=bnd H;refine WPL.c (rc [] [] 0 [] (s_quireref02_space k x1 x9 x10 h5)) rfl ?_;(iterate 6 refine sp ?_);refine WP.seq ?_;refine WP.seq ?_;obtain ⟨x11,H3,H⟩:=bnd H;refine mo .normal (Env.none.upd 45 (.lit (.bool x11))) Mem.nil ?_ ?_
 · clear H;have H:=H3;clear H3;(iterate 4 refine sp ?_);refine ws 34 H (fun hb5 H=>?_) fun hb5 H=>?_
   · (iterate 11 refine sp ?_);refine WPL.nilW ?_;have q0:=j1 H;subst q0;exact wq []
   (iterate 4 refine sp ?_);refine ws 38 H (fun hb6 H=>?_) fun hb6 H=>?_
   · (iterate 7 refine sp ?_);refine WPL.nilW ?_;have q0:=j1 H;subst q0;exact wq []
   (iterate 3 refine sp ?_);refine ws 41 H (fun hb7 H=>?_) fun hb7 H=>?_
   · (iterate 4 refine sp ?_);refine WPL.nilW ?_;have q0:=j1 H;subst q0;exact wq []
   (iterate 4 refine sp ?_);refine WPL.nilW ?_;have q0:=j1 H;subst q0;exact wq []
 (iterate 2 refine sp ?_);refine cq H (fun hb8 H=>?_) fun hb8 H=>?_
 · (iterate 4 refine sp ?_);have q0:=j1 H;subst q0;exact W.now (Then.r (mb []))
 (iterate 7 refine sp ?_);have q0:=j1 H;subst q0;exact W.now (mb [])
theorem s_quireref02_Codes (k:Nat) (x1:(List Int)) (x2:(List Int)) (x3:Int) (H:g_quireref02_Codes k x1=some (x2,x3)):Go.Q.Spec Try.prog 70 0 [.ro (Rd.slice (Rd.int .i64)) false x1] Mem.nil (fun o M=>o=.ret (.tup [.ro (Rd.slice (Rd.int .u32)) false x2,.lit (.int .i64 x3)])∧M=Mem.nil):=by
 unfold g_quireref02_Codes at H;refine bo Try.func70 [] [.tmp 2,.tmp 3] 42 fun cx hnp=>?_;(iterate 4 refine sp ?_);refine WP.seq ?_;(iterate 2 refine sp ?_);obtain ⟨x4,h1,H⟩:=bnd H;refine WPL.c (rc [] [] 0 [] (s_quireref02_Right k x1 x4 h1)) rfl ?_;(iterate 6 refine sp ?_);refine cq H (fun hb1 H=>?_) fun hb1 H=>?_
 · (iterate 6 refine sp ?_);refine W.cv (Cv.nilRo (Rd.int .u32) false 2 rfl) rfl ?_;obtain ⟨rfl,rfl⟩:=j2 H;exact W.now (Then.r (mb []))
 (iterate 6 refine sp ?_);obtain ⟨h2,H⟩:=grd H;refine WPL.d (d_make (d:=(0:Int)) (R:=(Rd.int .u32)) li80 by50 rfl rfl rfl Joins.sc rfl rfl h2 rfl) rfl ?_;(iterate 5 refine sp ?_);refine WP.seq ?_;(iterate 4 refine sp ?_);refine WP.cv (Cv.weak (E':=((((Env.none.upd 0 (.ro (Rd.slice (Rd.int .i64)) false x1)).upd 5 (.whole 0)).upd 6 (.lit (.int .u32 0))).upd 7 (.lit (.int .i64 1)))) (M':=(Mem.nil.push (.row 50 (Rd.int .u32) (List.replicate (Int.toNat ((List.length x1:Nat):Int)) (0:Int))))) [0] hnp ⟨rfl,AA1,by decide,rfl,trivial⟩ (LeE.u (LeE.u (LeE.u (LeE.u (LeE.none rfl rfl)))))) ?_;obtain ⟨x5,H1,H⟩:=bnd H;refine mo (.exit 0) (Env.none.upd 5 (.whole 0)) (Mem.nil.push (.row 50 (Rd.int .u32) x5)) ?_ ?_
 · refine WP.loop (β:=Int × Int × (List Int)) (fun n b=>g_quireref02_Codes_l0 k x1 n b.1 b.2.1 b.2.2=some x5) (fun b=>((((Env.none.upd 0 (.ro (Rd.slice (Rd.int .i64)) false x1)).upd 5 (.whole 0)).upd 6 (.lit (.int .u32 b.1))).upd 7 (.lit (.int .i64 b.2.1)))) (fun b=>(Mem.nil.push (.row 50 (Rd.int .u32) b.2.2))) k (0,1,(List.replicate (Int.toNat ((List.length x1:Nat):Int)) (0:Int))) H1 rfl rfl ?_;rintro n ⟨x6,x7,x8⟩ H;obtain _ | n:=n
   · exact nf rfl H
   rw [g_quireref02_Codes_l0.eq_2] at H;show WP _ _ _ _ ((((Env.none.upd 0 (.ro (Rd.slice (Rd.int .i64)) false x1)).upd 5 (.whole 0)).upd 6 (.lit (.int .u32 x6))).upd 7 (.lit (.int .i64 x7))) (Mem.nil.push (.row 50 (Rd.int .u32) x8)) _;refine WP.seq ?_;(iterate 4 refine sp ?_);refine cq H (fun hb2 H=>?_) fun hb2 H=>?_
   · (iterate 3 refine sp ?_);refine WP.seq ?_;(iterate 10 refine sp ?_);refine WP.cv (Cv.weak (E':=(((((Env.none.upd 0 (.ro (Rd.slice (Rd.int .i64)) false x1)).upd 5 (.whole 0)).upd 6 (.lit (.int .u32 (shlI .u32 x6 1)))).upd 7 (.lit (.int .i64 x7))).upd 8 (.lit (.int .i64 0)))) (M':=(Mem.nil.push (.row 50 (Rd.int .u32) x8))) [0] hnp ⟨rfl,AA1,by decide,rfl,trivial⟩ (LeE.u (LeE.u (LeE.u (LeE.u (LeE.u (LeE.none rfl rfl))))))) ?_;obtain ⟨⟨x9,x10⟩,H2,H⟩:=bnd H;refine mo (.exit 2) ((((Env.none.upd 0 (.ro (Rd.slice (Rd.int .i64)) false x1)).upd 5 (.whole 0)).upd 6 (.lit (.int .u32 x9))).upd 7 (.lit (.int .i64 x7))) (Mem.nil.push (.row 50 (Rd.int .u32) x10)) ?_ ?_
     · refine WP.loop (β:=Int × Int × (List Int)) (fun n b=>g_quireref02_Codes_l1 k x1 x7 n b.1 b.2.1 b.2.2=some (x9,x10)) (fun b=>(((((Env.none.upd 0 (.ro (Rd.slice (Rd.int .i64)) false x1)).upd 5 (.whole 0)).upd 6 (.lit (.int .u32 b.1))).upd 7 (.lit (.int .i64 x7))).upd 8 (.lit (.int .i64 b.2.1)))) (fun b=>(Mem.nil.push (.row 50 (Rd.int .u32) b.2.2))) k ((shlI .u32 x6 1),0,x8) H2 rfl rfl ?_;rintro n ⟨x11,x12,x13⟩ H;obtain _ | n:=n
       · exact nf rfl H
       rw [g_quireref02_Codes_l1.eq_2] at H;show WP _ _ _ _ (((((Env.none.upd 0 (.ro (Rd.slice (Rd.int .i64)) false x1)).upd 5 (.whole 0)).upd 6 (.lit (.int .u32 x11))).upd 7 (.lit (.int .i64 x7))).upd 8 (.lit (.int .i64 x12))) (Mem.nil.push (.row 50 (Rd.int .u32) x13)) _;refine WP.seq ?_;(iterate 4 refine sp ?_);obtain ⟨x14,h3,H⟩:=bnd H;refine sn (nm_bool h3) ?_;refine sp ?_;refine cq H (fun hb3 H=>?_) fun hb3 H=>?_
       · (iterate 3 refine sp ?_);refine WP.seq ?_;obtain ⟨⟨x15,x16⟩,H3,H⟩:=bnd H;refine mo .normal (((((Env.none.upd 0 (.ro (Rd.slice (Rd.int .i64)) false x1)).upd 5 (.whole 0)).upd 6 (.lit (.int .u32 x15))).upd 7 (.lit (.int .i64 x7))).upd 8 (.lit (.int .i64 x12))) (Mem.nil.push (.row 50 (Rd.int .u32) x16)) ?_ ?_
         · clear H;have H:=H3;clear H3;(iterate 4 refine sp ?_);obtain ⟨x17,h4,H⟩:=bnd H;(iterate 5 refine sp ?_);refine cq H (fun hb4 H=>?_) fun hb4 H=>?_
           · (iterate 4 refine sp ?_);obtain ⟨x18,h5,H⟩:=bnd H;refine WPL.qq (q_index_row sl80 rfl rfl rfl (ixs h5)) ?_;refine WPL.s (s_store_row (j:=(Int.toNat x12)) (d:=x11) sz50 rfl rfl rfl rfl Joins.sc (ixl h5)) ?_;(iterate 5 refine sp ?_);refine WPL.nilW ?_;obtain ⟨rfl,rfl⟩:=j2 H;exact wq [0] (InBlock.n r3)
           refine sp ?_;obtain ⟨rfl,rfl⟩:=j2 H;exact wq [0] (InBlock.n r3)
         (iterate 6 refine sp ?_);refine WPL.nilW ?_;exact wq [0] (Then.n ⟨n,(x15,(IntKind.wrap .i64 (x12+1)),x16),Nat.lt_succ_self n,H,rfl,rfl⟩)
       refine sp ?_;obtain ⟨rfl,rfl⟩:=j2 H;exact wq [0] (Then.x (Then.x r3))
     (iterate 2 refine sp ?_);refine InBlock.n ?_;(iterate 5 refine sp ?_);refine WPL.nilW ?_;exact wq [0] (Then.n ⟨n,(x9,(IntKind.wrap .i64 (x7+1)),x10),Nat.lt_succ_self n,H,rfl,rfl⟩)
   refine sp ?_;have q0:=j1 H;subst q0;exact wq [0] (Then.x (Then.x r3))
 (iterate 9 refine sp ?_);refine W.cv (Cv.frzRow (i:=0) rfl rfl hnp rfl rfl) rfl ?_;obtain ⟨rfl,rfl⟩:=j2 H;exact W.now (mb [])
theorem s_quireref03_coded (k:Nat) (x1:(List Int)) (x2:Int) (x3:(List Int)) (H:g_quireref03_coded k x1=some (x2,x3)):Go.Q.Spec Try.prog 44 0 [.ro (Rd.slice (Rd.int .i64)) false x1] Mem.nil (fun o M=>o=.ret (.tup [.agg [.ro (Rd.slice (Rd.int .i64)) false x1,.ro (Rd.slice (Rd.int .u32)) false x3],.lit (.int .i64 x2)])∧M=(Mem.nil.push (.cells 88 [.ro (Rd.slice (Rd.int .i64)) false x1,.ro (Rd.slice (Rd.int .u32)) false x3]))):=by
 unfold g_quireref03_coded at H;refine bo Try.func44 [(88,2)] [.cell 2 88,.tmp 3] 15 fun cx hnp=>?_;(iterate 6 refine sp ?_);obtain ⟨⟨x4,x5⟩,h1,H⟩:=bnd H;refine WPL.c (rc [] [] 1 [] (s_quireref02_Codes k x1 x4 x5 h1)) rfl ?_;(iterate 15 refine sp ?_);obtain ⟨rfl,rfl⟩:=j2 H;exact W.now (mb [0])
theorem s_quireref03_FixedDist (k:Nat) (x1:(List Int)) (H:g_quireref03_FixedDist k=some x1):Go.Q.Spec Try.prog 46 0 [] Mem.nil (fun o M=>o=.ret (.ro (Rd.slice (Rd.int .i64)) false x1)∧M=Mem.nil):=by
 unfold g_quireref03_FixedDist at H;refine bo Try.func46 [] [.tmp 0] 11 fun cx hnp=>?_;(iterate 6 refine sp ?_);refine WP.seq ?_;(iterate 4 refine sp ?_);refine WP.cv (Cv.vir 3 (Rd.int .i64) (N:=0) rfl 1 rfl) ?_;refine WP.cv (Cv.weak (E':=((Env.none.upd 1 (.whole 0)).upd 2 (.lit (.int .i64 0)))) (M':=(Mem.nil.push (.row 3 (Rd.int .i64) ([]:List Int)))) [0] hnp ⟨rfl,AA1,by decide,rfl,trivial⟩ (LeE.u (LeE.u (LeE.none rfl rfl)))) ?_;obtain ⟨x2,H1,H⟩:=bnd H;refine mo (.exit 0) (Env.none.upd 1 (.whole 0)) (Mem.nil.push (.row 3 (Rd.int .i64) x2)) ?_ ?_
 · refine WP.loop (β:=Int × (List Int)) (fun n b=>g_quireref03_FixedDist_l0 k n b.1 b.2=some x2) (fun b=>((Env.none.upd 1 (.whole 0)).upd 2 (.lit (.int .i64 b.1)))) (fun b=>(Mem.nil.push (.row 3 (Rd.int .i64) b.2))) k (0,([]:List Int)) H1 rfl rfl ?_;rintro n ⟨x3,x4⟩ H;obtain _ | n:=n
   · exact nf rfl H
   rw [g_quireref03_FixedDist_l0.eq_2] at H;show WP _ _ _ _ ((Env.none.upd 1 (.whole 0)).upd 2 (.lit (.int .i64 x3))) (Mem.nil.push (.row 3 (Rd.int .i64) x4)) _;refine WP.seq ?_;(iterate 4 refine sp ?_);refine cq H (fun hb1 H=>?_) fun hb1 H=>?_
   · (iterate 3 refine sp ?_);refine WP.seq ?_;(iterate 3 refine sp ?_);refine WPL.d (d_buildSlice (ds:=([5]:List Int)) (R:=(Rd.int .i64)) li66 rfl rfl rfl rfl rfl (JoinRows.cons1 Joins.sc rfl JoinRows.nil) rfl rfl) rfl ?_;obtain ⟨h1,H⟩:=grd H;refine WPL.d (d_append ap66 rfl rfl rfl rfl (src_row sl66 rfl rfl) h1 rfl) rfl ?_;refine sp ?_;refine WPL.nilW ?_;refine sp ?_;refine InBlock.n ?_;(iterate 5 refine sp ?_);refine WPL.nilW ?_;exact wq [2] (Then.n ⟨n,((IntKind.wrap .i64 (x3+1)),(x4++([5]:List Int))),Nat.lt_succ_self n,H,rfl,rfl⟩)
   refine sp ?_;have q0:=j1 H;subst q0;exact wq [0] (Then.x (Then.x r3))
 (iterate 8 refine sp ?_);refine W.cv (Cv.frzRow (i:=0) rfl rfl hnp rfl rfl) rfl ?_;have q0:=j1 H;subst q0;exact W.now (mb [])
theorem s_quireref02_Next (k:Nat) (x1:(List Int)) (x2:(List Int)) (x3:(List Int)) (x4:Int) (x5:Int) (x6:Int) (x7:Int) (H:g_quireref02_Next k x1 x2 x3 x4=some (x5,x6,x7)):Go.Q.Spec Try.prog 71 1 [.ro (Rd.slice (Rd.int .i64)) false x1,.ro (Rd.slice (Rd.int .u32)) false x2,.ptr 0 0] (Mem.nil.push (.cells 47 [.ro (Rd.slice (Rd.int .u8)) false x3,.lit (.int .i64 x4)])) (fun o M=>o=.ret (.tup [.lit (.int .i64 x5),.lit (.int .i64 x6)])∧M=(Mem.nil.push (.cells 47 [.ro (Rd.slice (Rd.int .u8)) false x3,.lit (.int .i64 x7)]))):=by
 unfold g_quireref02_Next at H;refine bo Try.func71 [] [.tmp 6,.tmp 7] 103 fun cx hnp=>?_;(iterate 14 refine sp ?_);refine WP.seq ?_;(iterate 4 refine sp ?_);refine WP.cv (Cv.weak (E':=((((((Env.none.upd 0 (.ro (Rd.slice (Rd.int .i64)) false x1)).upd 1 (.ro (Rd.slice (Rd.int .u32)) false x2)).upd 2 (.ptr 0 0)).upd 8 (.lit (.int .u32 0))).upd 9 (.lit (.int .i64 x4))).upd 10 (.lit (.int .i64 1)))) (M':=(Mem.nil.push (.cells 47 [.ro (Rd.slice (Rd.int .u8)) false x3,.lit (.int .i64 x4)]))) [0] hnp ⟨rfl,AA1,by decide,rfl,BB1⟩ (LeE.u (LeE.u (LeE.u (LeE.u (LeE.u (LeE.u (LeE.none rfl rfl)))))))) ?_;obtain ⟨y1,H1,H⟩:=bnd H;refine WP.monoW (Q:=fun x E M=>match (generalizing:=false) y1 with | (Sum.inl (x8,x9,x10))=>x=.ret∧E=((Env.none.upd 6 (.lit (.int .i64 x8))).upd 7 (.lit (.int .i64 x9)))∧M=(Mem.nil.push (.cells 47 [.ro (Rd.slice (Rd.int .u8)) false x3,.lit (.int .i64 x10)])) | (Sum.inr x11)=>x=.exit 0∧E=((Env.none.upd 2 (.ptr 0 0)).upd 9 (.lit (.int .i64 x4)))∧M=(Mem.nil.push (.cells 47 [.ro (Rd.slice (Rd.int .u8)) false x3,.lit (.int .i64 x11)]))) ?_ ?_
 · refine WP.loop (β:=Int × Int × Int) (fun n b=>g_quireref02_Next_l0 k x1 x2 x3 x4 n b.1 b.2.1 b.2.2=some y1) (fun b=>((((((Env.none.upd 0 (.ro (Rd.slice (Rd.int .i64)) false x1)).upd 1 (.ro (Rd.slice (Rd.int .u32)) false x2)).upd 2 (.ptr 0 0)).upd 8 (.lit (.int .u32 b.1))).upd 9 (.lit (.int .i64 x4))).upd 10 (.lit (.int .i64 b.2.1)))) (fun b=>(Mem.nil.push (.cells 47 [.ro (Rd.slice (Rd.int .u8)) false x3,.lit (.int .i64 b.2.2)]))) k (0,1,x4) H1 rfl rfl ?_;rintro n ⟨x12,x13,x14⟩ H;obtain _ | n:=n
   · exact nf rfl H
   rw [g_quireref02_Next_l0.eq_2] at H;show WP _ _ _ _ ((((((Env.none.upd 0 (.ro (Rd.slice (Rd.int .i64)) false x1)).upd 1 (.ro (Rd.slice (Rd.int .u32)) false x2)).upd 2 (.ptr 0 0)).upd 8 (.lit (.int .u32 x12))).upd 9 (.lit (.int .i64 x4))).upd 10 (.lit (.int .i64 x13))) (Mem.nil.push (.cells 47 [.ro (Rd.slice (Rd.int .u8)) false x3,.lit (.int .i64 x14)])) _;refine WP.seq ?_;(iterate 4 refine sp ?_);refine cq H (fun hb1 H=>?_) fun hb1 H=>?_
   · (iterate 3 refine sp ?_);refine WP.seq ?_;(iterate 4 refine sp ?_);refine WP.seq ?_;(iterate 4 refine sp ?_);refine WP.cv (Cv.weak (E':=((((((((Env.none.upd 0 (.ro (Rd.slice (Rd.int .i64)) false x1)).upd 1 (.ro (Rd.slice (Rd.int .u32)) false x2)).upd 2 (.ptr 0 0)).upd 8 (.lit (.int .u32 x12))).upd 9 (.lit (.int .i64 x4))).upd 10 (.lit (.int .i64 x13))).upd 11 (.lit (.bool false))).upd 12 (.lit (.int .i64 0)))) (M':=(Mem.nil.push (.cells 47 [.ro (Rd.slice (Rd.int .u8)) false x3,.lit (.int .i64 x14)]))) [0] hnp ⟨rfl,AA1,by decide,rfl,BB1⟩ (LeE.u (LeE.u (LeE.u (LeE.u (LeE.u (LeE.u (LeE.u (LeE.u (LeE.none rfl rfl)))))))))) ?_;obtain ⟨x15,H2,H⟩:=bnd H;refine mo (.exit 2) (((((((Env.none.upd 0 (.ro (Rd.slice (Rd.int .i64)) false x1)).upd 1 (.ro (Rd.slice (Rd.int .u32)) false x2)).upd 2 (.ptr 0 0)).upd 8 (.lit (.int .u32 x12))).upd 9 (.lit (.int .i64 x4))).upd 10 (.lit (.int .i64 x13))).upd 11 (.lit (.bool x15))) (Mem.nil.push (.cells 47 [.ro (Rd.slice (Rd.int .u8)) false x3,.lit (.int .i64 x14)])) ?_ ?_
     · refine WP.loop (β:=Bool × Int) (fun n b=>g_quireref02_Next_l1 k x1 x2 x12 x13 n b.1 b.2=some x15) (fun b=>((((((((Env.none.upd 0 (.ro (Rd.slice (Rd.int .i64)) false x1)).upd 1 (.ro (Rd.slice (Rd.int .u32)) false x2)).upd 2 (.ptr 0 0)).upd 8 (.lit (.int .u32 x12))).upd 9 (.lit (.int .i64 x4))).upd 10 (.lit (.int .i64 x13))).upd 11 (.lit (.bool b.1))).upd 12 (.lit (.int .i64 b.2)))) (fun b=>(Mem.nil.push (.cells 47 [.ro (Rd.slice (Rd.int .u8)) false x3,.lit (.int .i64 x14)]))) k (false,0) H2 rfl rfl ?_;rintro n ⟨x16,x17⟩ H;obtain _ | n:=n
       · exact nf rfl H
       rw [g_quireref02_Next_l1.eq_2] at H;show WP _ _ _ _ ((((((((Env.none.upd 0 (.ro (Rd.slice (Rd.int .i64)) false x1)).upd 1 (.ro (Rd.slice (Rd.int .u32)) false x2)).upd 2 (.ptr 0 0)).upd 8 (.lit (.int .u32 x12))).upd 9 (.lit (.int .i64 x4))).upd 10 (.lit (.int .i64 x13))).upd 11 (.lit (.bool x16))).upd 12 (.lit (.int .i64 x17))) (Mem.nil.push (.cells 47 [.ro (Rd.slice (Rd.int .u8)) false x3,.lit (.int .i64 x14)])) _;refine WP.seq ?_;(iterate 4 refine sp ?_);obtain ⟨x18,h1,H⟩:=bnd H;refine sn (nm_bool h1) ?_;refine sp ?_;refine cq H (fun hb2 H=>?_) fun hb2 H=>?_
       · (iterate 3 refine sp ?_);refine WP.seq ?_;obtain ⟨x19,H3,H⟩:=bnd H;refine mo .normal ((((((((Env.none.upd 0 (.ro (Rd.slice (Rd.int .i64)) false x1)).upd 1 (.ro (Rd.slice (Rd.int .u32)) false x2)).upd 2 (.ptr 0 0)).upd 8 (.lit (.int .u32 x12))).upd 9 (.lit (.int .i64 x4))).upd 10 (.lit (.int .i64 x13))).upd 11 (.lit (.bool x19))).upd 12 (.lit (.int .i64 x17))) (Mem.nil.push (.cells 47 [.ro (Rd.slice (Rd.int .u8)) false x3,.lit (.int .i64 x14)])) ?_ ?_
         · clear H;have H:=H3;clear H3;refine sp ?_;refine WP.regionD' 27 [] [] mixed rfl ?_;refine dT 0 ?_;refine dT 1 ?_;refine ds 31 H (fun hb3 H=>?_) fun hb3 H=>?_
           · refine dP true 2 ?_;refine dP true 3 ?_;refine dP true 4 ?_;refine dP true 5 ?_;refine dP true 6 ?_;refine dP true 7 ?_;refine dP true 8 ?_;refine WPD.passu 9 rfl (by kernel_rfl) rfl rfl rfl rfl (.inl trivial) ?_;refine WPD.passu 10 rfl (by kernel_rfl) rfl rfl rfl rfl (.inl trivial) ?_;refine WPD.passu 11 rfl (by kernel_rfl) rfl rfl rfl rfl (.inl trivial) ?_;refine WPD.passu 12 rfl (by kernel_rfl) rfl rfl rfl rfl (.inl trivial) ?_;refine WPD.passu 13 rfl (by kernel_rfl) rfl rfl rfl rfl (.inl trivial) ?_;refine WPD.passu 14 rfl (by kernel_rfl) rfl rfl rfl rfl (.inl trivial) ?_;refine WPD.passu 15 rfl (by kernel_rfl) rfl rfl rfl rfl (.inl trivial) ?_;refine WPD.passu 16 rfl (by kernel_rfl) rfl rfl rfl rfl (.inl trivial) ?_;refine WPD.passu 17 rfl (by kernel_rfl) rfl rfl rfl rfl (.inl trivial) ?_;refine WPD.passu 18 rfl (by kernel_rfl) rfl rfl rfl rfl (.inl trivial) ?_;refine WPD.passu 19 rfl (by kernel_rfl) rfl rfl rfl rfl (.inl trivial) ?_;refine WPD.passu 20 rfl (by kernel_rfl) rfl rfl rfl rfl (.inl trivial) ?_;refine WPD.passu 21 rfl (by kernel_rfl) rfl rfl rfl rfl (.inl trivial) ?_;refine WPD.passu 22 rfl (by kernel_rfl) rfl rfl rfl rfl (.inl trivial) ?_;refine WPD.passu 23 rfl (by kernel_rfl) rfl rfl rfl rfl (.inl trivial) ?_;refine dP true 24 ?_;refine dT 25 ?_;refine dT 26 ?_;refine WPD.doneW (by kernel_rfl) ?_;have q0:=j1 H;subst q0;exact wq [0] (InBlock.n r3)
           refine dG 2 ?_;refine dG 3 ?_;obtain ⟨x20,h2,H⟩:=bnd H;refine dG 4 ?_;refine dG 5 ?_;refine dG 6 ?_;refine dG 7 ?_;refine dG 8 ?_;refine ds 38 H (fun hb4 H=>?_) fun hb4 H=>?_
           · refine dG 9 ?_;refine dG 10 ?_;obtain ⟨x21,h3,H⟩:=bnd H;refine dG 11 ?_;refine dG 12 ?_;refine dG 13 ?_;refine dG 14 ?_;obtain ⟨x22,h4,H⟩:=bnd H;refine dG 15 ?_;refine dG 16 ?_;refine dG 17 ?_;refine dG 18 ?_;obtain ⟨x23,h5,H⟩:=bnd H;refine dG 19 ?_ rfl rfl gv (q_nm aq (nm_int h5));refine dG 20 ?_;obtain ⟨h5,H⟩:=grd H;obtain ⟨x24,h6,H⟩:=bnd H;refine WPD.takegT 21 rfl (by kernel_rfl) rfl rfl (lb hb4) (q_nm (q_shr rfl rfl h5) (nm_int h6)) rfl ?_;refine dG 22 ?_;refine dG 23 ?_;refine dG 24 ?_;refine dT 25 ?_;refine dT 26 ?_;refine WPD.doneW (by kernel_rfl) ?_;have q0:=j1 H;subst q0;exact wq [0] (InBlock.n r3)
           refine dP false 9 ?_;refine dP false 10 ?_;refine dP false 11 ?_;refine dP false 12 ?_;refine dP false 13 ?_;refine dP false 14 ?_;refine dP false 15 ?_;refine dP false 16 ?_;refine dP false 17 ?_;refine dP false 18 ?_;refine dP false 19 ?_;refine dP false 20 ?_;refine dP false 21 ?_;refine dP false 22 ?_;refine dP false 23 ?_;refine dG 24 ?_;refine dT 25 ?_;refine dT 26 ?_;refine WPD.doneW (by kernel_rfl) ?_;have q0:=j1 H;subst q0;exact wq [0] (InBlock.n r3)
         (iterate 6 refine sp ?_);refine WPL.nilW ?_;exact wq [0] (Then.n ⟨n,(x19,(IntKind.wrap .i64 (x17+1))),Nat.lt_succ_self n,H,rfl,rfl⟩)
       refine sp ?_;have q0:=j1 H;subst q0;exact wq [0] (Then.x (Then.x r3))
     (iterate 3 refine sp ?_);refine WP.seq ?_;(iterate 4 refine sp ?_);refine cq H (fun hb5 H=>?_) fun hb5 H=>?_
     · (iterate 12 refine sp ?_);have q0:=j1 H;subst q0;exact wq [0] (Then.r (InBlock.r (Then.r (Then.r r3))))
     (iterate 5 refine sp ?_);obtain ⟨⟨x25,x26,x27⟩,h7,H⟩:=bnd H;refine WPL.c (rc [0] [0] 1 [] (s_quireref01_Reader_Take k 1 x3 x14 x25 x26 x27 h7)) rfl ?_;(iterate 6 refine sp ?_);refine WP.seq ?_;(iterate 4 refine sp ?_);refine cq H (fun hb6 H=>?_) fun hb6 H=>?_
     · (iterate 13 refine sp ?_);have q0:=j1 H;subst q0;exact wq [0] (Then.r (InBlock.r (Then.r (Then.r r3))))
     (iterate 14 refine sp ?_);refine WP.cv (Cv.weak (E':=(((((((Env.none.upd 0 (.ro (Rd.slice (Rd.int .i64)) false x1)).upd 1 (.ro (Rd.slice (Rd.int .u32)) false x2)).upd 2 (.ptr 0 0)).upd 8 (.lit (.int .u32 (bits .or .u32 (shlI .u32 x12 1) x25)))).upd 9 (.lit (.int .i64 x4))).upd 10 (.lit (.int .i64 x13))).upd 15 (.lit (.int .i64 0)))) (M':=(Mem.nil.push (.cells 47 [.ro (Rd.slice (Rd.int .u8)) false x3,.lit (.int .i64 x27)]))) [0] hnp ⟨rfl,AA1,by decide,rfl,BB1⟩ (LeE.u (LeE.u (LeE.u (LeE.u (LeE.u (LeE.u (LeE.u (LeE.none rfl rfl))))))))) ?_;obtain ⟨y2,H4,H⟩:=bnd H;refine WP.monoW (Q:=fun x E M=>match (generalizing:=false) y2 with | (Sum.inl x28)=>x=.ret∧E=((Env.none.upd 6 (.lit (.int .i64 x28))).upd 7 (.lit (.int .i64 0)))∧M=(Mem.nil.push (.cells 47 [.ro (Rd.slice (Rd.int .u8)) false x3,.lit (.int .i64 x27)])) | (Sum.inr _)=>x=.exit 4∧E=((((((Env.none.upd 0 (.ro (Rd.slice (Rd.int .i64)) false x1)).upd 1 (.ro (Rd.slice (Rd.int .u32)) false x2)).upd 2 (.ptr 0 0)).upd 8 (.lit (.int .u32 (bits .or .u32 (shlI .u32 x12 1) x25)))).upd 9 (.lit (.int .i64 x4))).upd 10 (.lit (.int .i64 x13)))∧M=(Mem.nil.push (.cells 47 [.ro (Rd.slice (Rd.int .u8)) false x3,.lit (.int .i64 x27)]))) ?_ ?_
     · refine WP.loop (β:=Int) (fun n b=>g_quireref02_Next_l2 k x1 x2 x12 x13 x25 n b=some y2) (fun b=>(((((((Env.none.upd 0 (.ro (Rd.slice (Rd.int .i64)) false x1)).upd 1 (.ro (Rd.slice (Rd.int .u32)) false x2)).upd 2 (.ptr 0 0)).upd 8 (.lit (.int .u32 (bits .or .u32 (shlI .u32 x12 1) x25)))).upd 9 (.lit (.int .i64 x4))).upd 10 (.lit (.int .i64 x13))).upd 15 (.lit (.int .i64 b)))) (fun b=>(Mem.nil.push (.cells 47 [.ro (Rd.slice (Rd.int .u8)) false x3,.lit (.int .i64 x27)]))) k 0 H4 rfl rfl ?_;rintro n x29 H;obtain _ | n:=n
       · exact nf rfl H
       rw [g_quireref02_Next_l2.eq_2] at H;show WP _ _ _ _ (((((((Env.none.upd 0 (.ro (Rd.slice (Rd.int .i64)) false x1)).upd 1 (.ro (Rd.slice (Rd.int .u32)) false x2)).upd 2 (.ptr 0 0)).upd 8 (.lit (.int .u32 (bits .or .u32 (shlI .u32 x12 1) x25)))).upd 9 (.lit (.int .i64 x4))).upd 10 (.lit (.int .i64 x13))).upd 15 (.lit (.int .i64 x29))) (Mem.nil.push (.cells 47 [.ro (Rd.slice (Rd.int .u8)) false x3,.lit (.int .i64 x27)])) _;refine WP.seq ?_;(iterate 4 refine sp ?_);obtain ⟨x30,h8,H⟩:=bnd H;refine sn (nm_bool h8) ?_;refine sp ?_;refine cq H (fun hb7 H=>?_) fun hb7 H=>?_
       · (iterate 3 refine sp ?_);refine WP.seq ?_;refine sp ?_;refine WP.seq ?_;obtain ⟨x31,H5,H⟩:=bnd H;refine mo .normal ((((((((Env.none.upd 0 (.ro (Rd.slice (Rd.int .i64)) false x1)).upd 1 (.ro (Rd.slice (Rd.int .u32)) false x2)).upd 2 (.ptr 0 0)).upd 8 (.lit (.int .u32 (bits .or .u32 (shlI .u32 x12 1) x25)))).upd 9 (.lit (.int .i64 x4))).upd 10 (.lit (.int .i64 x13))).upd 15 (.lit (.int .i64 x29))).upd 97 (.lit (.bool x31))) (Mem.nil.push (.cells 47 [.ro (Rd.slice (Rd.int .u8)) false x3,.lit (.int .i64 x27)])) ?_ ?_
         · clear H;have H:=H5;clear H5;(iterate 3 refine sp ?_);obtain ⟨x32,h9,H⟩:=bnd H;(iterate 5 refine sp ?_);refine ws 90 H (fun hb8 H=>?_) fun hb8 H=>?_
           · (iterate 2 refine sp ?_);obtain ⟨x33,h10,H⟩:=bnd H;(iterate 3 refine sp ?_);obtain ⟨x34,h11,H⟩:=bnd H;refine sn (nm_bool h11) ?_;refine sp ?_;refine WPL.nilW ?_;have q0:=j1 H;subst q0;exact wq [0]
           (iterate 7 refine sp ?_);refine WPL.nilW ?_;have q0:=j1 H;subst q0;exact wq [0]
         (iterate 2 refine sp ?_);refine cq H (fun hb9 H=>?_) fun hb9 H=>?_
         · (iterate 6 refine sp ?_);have q0:=j1 H;subst q0;exact wq [0] (InBlock.r (Then.r (Then.r r3)))
         (iterate 2 refine sp ?_);refine InBlock.n ?_;(iterate 5 refine sp ?_);refine WPL.nilW ?_;exact wq [0] (Then.n ⟨n,(IntKind.wrap .i64 (x29+1)),Nat.lt_succ_self n,H,rfl,rfl⟩)
       refine sp ?_;have q0:=j1 H;subst q0;exact wq [0] (Then.x (Then.x r3))
     rcases y2 with x28 | _
     · rintro _ _ _ ⟨rfl,rfl,rfl⟩;have q0:=j1 H;subst q0;exact wq [0] (InBlock.r (InBlock.r (Then.r (Then.r r3))))
     rintro _ _ _ ⟨rfl,rfl,rfl⟩;(iterate 2 refine sp ?_);refine InBlock.n ?_;(iterate 5 refine sp ?_);refine WPL.nilW ?_;exact wq [0] (Then.n ⟨n,((bits .or .u32 (shlI .u32 x12 1) x25),(IntKind.wrap .i64 (x13+1)),x27),Nat.lt_succ_self n,H,rfl,rfl⟩)
   refine sp ?_;have q0:=j1 H;subst q0;exact wq [0] (Then.x (Then.x r3))
 rcases y1 with ⟨x8,x9,x10⟩ | x11
 · rintro _ _ _ ⟨rfl,rfl,rfl⟩;obtain ⟨rfl,rfl,rfl⟩:=j3 H;exact W.now (InBlock.r (Then.r (mb [0])))
 rintro _ _ _ ⟨rfl,rfl,rfl⟩;(iterate 15 refine sp ?_);obtain ⟨rfl,rfl,rfl⟩:=j3 H;exact W.now (mb [0])
theorem s_quireref03_stream_put (k:Nat) (x1:Int) (x2:Int) (x3:(List Int)) (x4:Int) (x5:(List Int)) (x6:Int) (x7:(List Int)) (H:g_quireref03_stream_put k x1 x2 x3 x4 x5=some (x6,x7)):Go.Q.Spec Try.prog 72 2 [.ptr 0 0,.lit (.int .u8 x1)] (((Mem.nil.push (.cells 49 [.ptr 1 0,.whole 2,.lit (.int .i64 x2)])).push (.cells 47 [.ro (Rd.slice (Rd.int .u8)) false x3,.lit (.int .i64 x4)])).push (.row 5 (Rd.int .u8) x5)) (fun o M=>o=.ret (.lit (.int .i64 x6))∧M=(((Mem.nil.push (.cells 49 [.ptr 1 0,.whole 2,.lit (.int .i64 x2)])).push (.cells 47 [.ro (Rd.slice (Rd.int .u8)) false x3,.lit (.int .i64 x4)])).push (.row 5 (Rd.int .u8) x7))):=by
 unfold g_quireref03_stream_put at H;refine bo Try.func72 [] [.tmp 4] 25 fun cx hnp=>?_;(iterate 3 refine sp ?_);refine WP.seq ?_;refine WP.seq ?_;refine WP.regionD' 10 [0] [] mixed rfl ?_;refine dT 0 ?_;refine dT 1 ?_;refine dT 2 ?_;refine dT 5 ?_;refine dT 6 ?_;refine dT 7 ?_;refine dK 3 ?_;refine dT 4 ?_;refine dK 8 ?_;obtain ⟨x8,h1,H⟩:=bnd H;refine dT 9 ?_ rfl (q_nm aq (nm_bool h1));refine WPD.doneW (by kernel_rfl) ?_;(iterate 2 refine sp ?_);refine cq H (fun hb1 H=>?_) fun hb1 H=>?_
 · (iterate 4 refine sp ?_);obtain ⟨rfl,rfl⟩:=j2 H;exact W.now (Then.r (mb [0,1,2]))
 (iterate 10 refine sp ?_);refine WPL.d (d_buildSlice (ds:=([x1]:List Int)) (R:=(Rd.int .u8)) li22 rfl rfl rfl rfl rfl (JoinRows.cons1 Joins.sc rfl JoinRows.nil) rfl rfl) rfl ?_;obtain ⟨h2,H⟩:=grd H;refine WPL.d (d_append ap22 rfl rfl rfl rfl (src_row sl22 rfl rfl) h2 rfl) rfl ?_;(iterate 8 refine sp ?_);obtain ⟨rfl,rfl⟩:=j2 H;exact W.now (mb [0,1,4])
theorem s_quireref03_litBits (k:Nat) (x1:Int) (x2:Int) (H:g_quireref03_litBits k x1=some x2):Go.Q.Spec Try.prog 91 0 [.lit (.int .i64 x1)] Mem.nil (fun o M=>o=.ret (.lit (.int .i64 x2))∧M=Mem.nil):=by
 unfold g_quireref03_litBits at H;refine bo Try.func91 [] [.tmp 2] 8 fun cx hnp=>?_;(iterate 3 refine sp ?_);refine WP.seq ?_;(iterate 4 refine sp ?_);refine cq H (fun hb1 H=>?_) fun hb1 H=>?_
 · (iterate 4 refine sp ?_);have q0:=j1 H;subst q0;exact W.now (Then.r (mb []))
 (iterate 6 refine sp ?_);obtain ⟨x3,h1,H⟩:=bnd H;refine sn (nm_int h1) ?_;(iterate 3 refine sp ?_);have q0:=j1 H;subst q0;exact W.now (mb [])
theorem s_quireref03_Lit (k:Nat) (x1:Int) (x2:Int) (x3:Int) (x4:Bool) (H:g_quireref03_Lit k x1=some (x2,x3,x4)):Go.Q.Spec Try.prog 85 0 [.lit (.int .i64 x1)] Mem.nil (fun o M=>o=.ret (.tup [.lit (.int .i64 x2),.lit (.int .i64 x3),.lit (.bool x4)])∧M=Mem.nil):=by
 unfold g_quireref03_Lit at H;refine bo Try.func85 [] [.tmp 2,.tmp 3,.tmp 4] 29 fun cx hnp=>?_;(iterate 5 refine sp ?_);refine WP.seq ?_;refine WP.seq ?_;obtain ⟨x5,H1,H⟩:=bnd H;refine mo .normal ((Env.none.upd 0 (.lit (.int .i64 x1))).upd 12 (.lit (.bool x5))) Mem.nil ?_ ?_
 · clear H;have H:=H1;clear H1;(iterate 4 refine sp ?_);refine ws 9 H (fun hb1 H=>?_) fun hb1 H=>?_
   · (iterate 3 refine sp ?_);refine WPL.nilW ?_;have q0:=j1 H;subst q0;exact wq []
   (iterate 3 refine sp ?_);refine WPL.nilW ?_;have q0:=j1 H;subst q0;exact wq []
 (iterate 2 refine sp ?_);refine cq H (fun hb2 H=>?_) fun hb2 H=>?_
 · (iterate 6 refine sp ?_);obtain ⟨rfl,rfl,rfl⟩:=j3 H;exact W.now (Then.r (mb []))
 (iterate 3 refine sp ?_);refine WP.seq ?_;(iterate 4 refine sp ?_);refine cq H (fun hb3 H=>?_) fun hb3 H=>?_
 · (iterate 6 refine sp ?_);obtain ⟨rfl,rfl,rfl⟩:=j3 H;exact W.now (Then.r (mb []))
 (iterate 6 refine sp ?_);refine WP.seq ?_;(iterate 4 refine sp ?_);refine WP.cv (Cv.weak (E':=(((Env.none.upd 0 (.lit (.int .i64 x1))).upd 5 (.lit (.int .i64 3))).upd 6 (.lit (.int .i64 257)))) (M':=Mem.nil) [] hnp ⟨rfl,trivial,by decide,rfl,trivial⟩ (LeE.u (LeE.u (LeE.u (LeE.none rfl rfl))))) ?_;obtain ⟨x6,H2,H⟩:=bnd H;refine mo (.exit 0) ((Env.none.upd 0 (.lit (.int .i64 x1))).upd 5 (.lit (.int .i64 x6))) Mem.nil ?_ ?_
 · refine WP.loop (β:=Int × Int) (fun n b=>g_quireref03_Lit_l0 k x1 n b.1 b.2=some x6) (fun b=>(((Env.none.upd 0 (.lit (.int .i64 x1))).upd 5 (.lit (.int .i64 b.1))).upd 6 (.lit (.int .i64 b.2)))) (fun b=>Mem.nil) k (3,257) H2 rfl rfl ?_;rintro n ⟨x7,x8⟩ H;obtain _ | n:=n
   · exact nf rfl H
   rw [g_quireref03_Lit_l0.eq_2] at H;show WP _ _ _ _ (((Env.none.upd 0 (.lit (.int .i64 x1))).upd 5 (.lit (.int .i64 x7))).upd 6 (.lit (.int .i64 x8))) Mem.nil _;refine WP.seq ?_;(iterate 5 refine sp ?_);refine cq H (fun hb4 H=>?_) fun hb4 H=>?_
   · (iterate 3 refine sp ?_);refine WP.seq ?_;(iterate 4 refine sp ?_);obtain ⟨x9,h1,H⟩:=bnd H;refine WPL.c (rc [] [] 0 [] (s_quireref03_litBits k x8 x9 h1)) rfl ?_;refine sp ?_;obtain ⟨h2,H⟩:=grd H;refine WPL.qq (q_shl rfl rfl h2) ?_;obtain ⟨x10,h3,H⟩:=bnd H;refine sn (nm_int h3) ?_;refine sp ?_;refine WPL.nilW ?_;refine sp ?_;refine InBlock.n ?_;(iterate 5 refine sp ?_);refine WPL.nilW ?_;exact wq [] (Then.n ⟨n,(x10,(IntKind.wrap .i64 (x8+1))),Nat.lt_succ_self n,H,rfl,rfl⟩)
   refine sp ?_;have q0:=j1 H;subst q0;exact wq [] (Then.x (Then.x r3))
 (iterate 6 refine sp ?_);obtain ⟨x11,h4,H⟩:=bnd H;refine WPL.c (rc [] [] 0 [] (s_quireref03_litBits k x1 x11 h4)) rfl ?_;(iterate 5 refine sp ?_);obtain ⟨rfl,rfl,rfl⟩:=j3 H;exact W.now (mb [])
theorem s_quireref03_distBits (k:Nat) (x1:Int) (x2:Int) (H:g_quireref03_distBits k x1=some x2):Go.Q.Spec Try.prog 92 0 [.lit (.int .i64 x1)] Mem.nil (fun o M=>o=.ret (.lit (.int .i64 x2))∧M=Mem.nil):=by
 unfold g_quireref03_distBits at H;refine bo Try.func92 [] [.tmp 2] 8 fun cx hnp=>?_;(iterate 3 refine sp ?_);refine WP.seq ?_;(iterate 4 refine sp ?_);refine cq H (fun hb1 H=>?_) fun hb1 H=>?_
 · (iterate 4 refine sp ?_);have q0:=j1 H;subst q0;exact W.now (Then.r (mb []))
 (iterate 6 refine sp ?_);obtain ⟨x3,h1,H⟩:=bnd H;refine sn (nm_int h1) ?_;(iterate 3 refine sp ?_);have q0:=j1 H;subst q0;exact W.now (mb [])
theorem s_quireref03_Dist (k:Nat) (x1:Int) (x2:Int) (x3:Int) (x4:Bool) (H:g_quireref03_Dist k x1=some (x2,x3,x4)):Go.Q.Spec Try.prog 86 0 [.lit (.int .i64 x1)] Mem.nil (fun o M=>o=.ret (.tup [.lit (.int .i64 x2),.lit (.int .i64 x3),.lit (.bool x4)])∧M=Mem.nil):=by
 unfold g_quireref03_Dist at H;refine bo Try.func86 [] [.tmp 2,.tmp 3,.tmp 4] 27 fun cx hnp=>?_;(iterate 5 refine sp ?_);refine WP.seq ?_;refine WP.seq ?_;obtain ⟨x5,H1,H⟩:=bnd H;refine mo .normal ((Env.none.upd 0 (.lit (.int .i64 x1))).upd 12 (.lit (.bool x5))) Mem.nil ?_ ?_
 · clear H;have H:=H1;clear H1;(iterate 4 refine sp ?_);refine ws 9 H (fun hb1 H=>?_) fun hb1 H=>?_
   · (iterate 3 refine sp ?_);refine WPL.nilW ?_;have q0:=j1 H;subst q0;exact wq []
   (iterate 3 refine sp ?_);refine WPL.nilW ?_;have q0:=j1 H;subst q0;exact wq []
 (iterate 2 refine sp ?_);refine cq H (fun hb2 H=>?_) fun hb2 H=>?_
 · (iterate 6 refine sp ?_);obtain ⟨rfl,rfl,rfl⟩:=j3 H;exact W.now (Then.r (mb []))
 (iterate 6 refine sp ?_);refine WP.seq ?_;(iterate 4 refine sp ?_);refine WP.cv (Cv.weak (E':=(((Env.none.upd 0 (.lit (.int .i64 x1))).upd 5 (.lit (.int .i64 1))).upd 6 (.lit (.int .i64 0)))) (M':=Mem.nil) [] hnp ⟨rfl,trivial,by decide,rfl,trivial⟩ (LeE.u (LeE.u (LeE.u (LeE.none rfl rfl))))) ?_;obtain ⟨x6,H2,H⟩:=bnd H;refine mo (.exit 0) ((Env.none.upd 0 (.lit (.int .i64 x1))).upd 5 (.lit (.int .i64 x6))) Mem.nil ?_ ?_
 · refine WP.loop (β:=Int × Int) (fun n b=>g_quireref03_Dist_l0 k x1 n b.1 b.2=some x6) (fun b=>(((Env.none.upd 0 (.lit (.int .i64 x1))).upd 5 (.lit (.int .i64 b.1))).upd 6 (.lit (.int .i64 b.2)))) (fun b=>Mem.nil) k (1,0) H2 rfl rfl ?_;rintro n ⟨x7,x8⟩ H;obtain _ | n:=n
   · exact nf rfl H
   rw [g_quireref03_Dist_l0.eq_2] at H;show WP _ _ _ _ (((Env.none.upd 0 (.lit (.int .i64 x1))).upd 5 (.lit (.int .i64 x7))).upd 6 (.lit (.int .i64 x8))) Mem.nil _;refine WP.seq ?_;(iterate 5 refine sp ?_);refine cq H (fun hb3 H=>?_) fun hb3 H=>?_
   · (iterate 3 refine sp ?_);refine WP.seq ?_;(iterate 4 refine sp ?_);obtain ⟨x9,h1,H⟩:=bnd H;refine WPL.c (rc [] [] 0 [] (s_quireref03_distBits k x8 x9 h1)) rfl ?_;refine sp ?_;obtain ⟨h2,H⟩:=grd H;refine WPL.qq (q_shl rfl rfl h2) ?_;obtain ⟨x10,h3,H⟩:=bnd H;refine sn (nm_int h3) ?_;refine sp ?_;refine WPL.nilW ?_;refine sp ?_;refine InBlock.n ?_;(iterate 5 refine sp ?_);refine WPL.nilW ?_;exact wq [] (Then.n ⟨n,(x10,(IntKind.wrap .i64 (x8+1))),Nat.lt_succ_self n,H,rfl,rfl⟩)
   refine sp ?_;have q0:=j1 H;subst q0;exact wq [] (Then.x (Then.x r3))
 (iterate 6 refine sp ?_);obtain ⟨x11,h4,H⟩:=bnd H;refine WPL.c (rc [] [] 0 [] (s_quireref03_distBits k x1 x11 h4)) rfl ?_;(iterate 5 refine sp ?_);obtain ⟨rfl,rfl,rfl⟩:=j3 H;exact W.now (mb [])
theorem s_quireref03_stream_copied (k:Nat) (x1:Int) (x2:(List Int)) (x3:(List Int)) (x4:Int) (x5:(List Int)) (x6:Int) (x7:(List Int)) (x8:Int) (x9:Int) (x10:(List Int)) (H:g_quireref03_stream_copied k x1 x2 x3 x4 x5 x6 x7=some (x8,x9,x10)):Go.Q.Spec Try.prog 73 2 [.ptr 0 0,.lit (.int .i64 x1),.agg [.ro (Rd.slice (Rd.int .i64)) false x2,.ro (Rd.slice (Rd.int .u32)) false x3]] (((Mem.nil.push (.cells 49 [.ptr 1 0,.whole 2,.lit (.int .i64 x4)])).push (.cells 47 [.ro (Rd.slice (Rd.int .u8)) false x5,.lit (.int .i64 x6)])).push (.row 5 (Rd.int .u8) x7)) (fun o M=>o=.ret (.lit (.int .i64 x8))∧M=(((Mem.nil.push (.cells 49 [.ptr 1 0,.whole 2,.lit (.int .i64 x4)])).push (.cells 47 [.ro (Rd.slice (Rd.int .u8)) false x5,.lit (.int .i64 x9)])).push (.row 5 (Rd.int .u8) x10))):=by
 unfold g_quireref03_stream_copied at H;refine bo Try.func73 [] [.tmp 6] 125 fun cx hnp=>?_;(iterate 6 refine sp ?_);obtain ⟨⟨x11,x12,x13⟩,h1,H⟩:=bnd H;refine WPL.c (rc [] [] 4 [] (s_quireref03_Lit k x1 x11 x12 x13 h1)) rfl ?_;(iterate 8 refine sp ?_);refine WP.seq ?_;(iterate 4 refine sp ?_);refine cq H (fun hb1 H=>?_) fun hb1 H=>?_
 · (iterate 4 refine sp ?_);obtain ⟨rfl,rfl,rfl⟩:=j3 H;exact W.now (Then.r (mb [0,1,2]))
 (iterate 9 refine sp ?_);obtain ⟨⟨x14,x15,x16⟩,h2,H⟩:=bnd H;refine WPL.c (rc [1] [1] 4 [] (s_quireref01_Reader_Take k x12 x5 x6 x14 x15 x16 h2)) rfl ?_;(iterate 6 refine sp ?_);refine WP.seq ?_;(iterate 4 refine sp ?_);refine cq H (fun hb2 H=>?_) fun hb2 H=>?_
 · (iterate 5 refine sp ?_);obtain ⟨rfl,rfl,rfl⟩:=j3 H;exact W.now (Then.r (mb [0,1,2]))
 (iterate 7 refine sp ?_);obtain ⟨x17,h3,H⟩:=bnd H;refine sn (nm_int h3) ?_;(iterate 2 refine sp ?_);refine WP.seq ?_;refine WP.regionD' 14 [0,3] [] mixed rfl ?_;refine dT 0 ?_;refine dT 2 ?_;refine dT 4 ?_;refine dT 5 ?_;refine dT 6 ?_;refine dK 1 ?_;refine dK 3 ?_;refine dK 7 ?_;obtain ⟨⟨x18,x19,x20⟩,h4,H⟩:=bnd H;refine dE 8 [0,3] [] rfl (rc [1] [1] 4 [] (s_quireref02_Next k x2 x3 x5 x16 x18 x19 x20 h4) (hargs:=.ren rfl rfl (.ren rfl rfl (.ren rfl rfl .nil)))) ?_;refine dT 9 ?_;refine dT 10 ?_;refine dT 11 ?_;refine dT 12 ?_;refine dT 13 ?_;refine WPD.doneW (by kernel_rfl) ?_;(iterate 2 refine sp ?_);refine WP.seq ?_;(iterate 4 refine sp ?_);refine cq H (fun hb3 H=>?_) fun hb3 H=>?_
 · (iterate 5 refine sp ?_);obtain ⟨rfl,rfl,rfl⟩:=j3 H;exact W.now (Then.r (mb [0,1,2]))
 (iterate 5 refine sp ?_);obtain ⟨⟨x21,x22,x23⟩,h5,H⟩:=bnd H;refine WPL.c (rc [] [] 4 [] (s_quireref03_Dist k x18 x21 x22 x23 h5)) rfl ?_;(iterate 8 refine sp ?_);refine WP.seq ?_;(iterate 4 refine sp ?_);refine cq H (fun hb4 H=>?_) fun hb4 H=>?_
 · (iterate 4 refine sp ?_);obtain ⟨rfl,rfl,rfl⟩:=j3 H;exact W.now (Then.r (mb [0,1,2]))
 (iterate 9 refine sp ?_);obtain ⟨⟨x24,x25,x26⟩,h6,H⟩:=bnd H;refine WPL.c (rc [1] [1] 4 [] (s_quireref01_Reader_Take k x22 x5 x20 x24 x25 x26 h6)) rfl ?_;(iterate 6 refine sp ?_);refine WP.seq ?_;(iterate 4 refine sp ?_);refine cq H (fun hb5 H=>?_) fun hb5 H=>?_
 · (iterate 5 refine sp ?_);obtain ⟨rfl,rfl,rfl⟩:=j3 H;exact W.now (Then.r (mb [0,1,2]))
 (iterate 7 refine sp ?_);obtain ⟨x27,h7,H⟩:=bnd H;refine sn (nm_int h7) ?_;(iterate 2 refine sp ?_);refine WP.seq ?_;(iterate 7 refine sp ?_);obtain ⟨x28,h8,H⟩:=bnd H;refine sn (nm_bool h8) ?_;refine sp ?_;refine cq H (fun hb6 H=>?_) fun hb6 H=>?_
 · (iterate 4 refine sp ?_);obtain ⟨rfl,rfl,rfl⟩:=j3 H;exact W.now (Then.r (mb [0,1,2]))
 (iterate 3 refine sp ?_);refine WP.seq ?_;refine WP.seq ?_;refine WP.regionD' 12 [0] [] mixed rfl ?_;refine dT 0 ?_;refine dT 1 ?_;refine dT 2 ?_;refine dT 3 ?_;refine dT 5 ?_;refine dT 6 ?_;refine dT 7 ?_;refine dK 4 ?_;refine dK 8 ?_;refine dT 9 ?_;obtain ⟨x29,h9,H⟩:=bnd H;refine dT 10 ?_ rfl (q_nm aq (nm_int h9));refine dT 11 ?_;refine WPD.doneW (by kernel_rfl) ?_;(iterate 2 refine sp ?_);refine cq H (fun hb7 H=>?_) fun hb7 H=>?_
 · (iterate 4 refine sp ?_);obtain ⟨rfl,rfl,rfl⟩:=j3 H;exact W.now (Then.r (mb [0,1,2]))
 (iterate 3 refine sp ?_);refine WP.seq ?_;(iterate 4 refine sp ?_);refine WP.cv (Cv.weak (E':=((((Env.none.upd 0 (.ptr 0 0)).upd 12 (.lit (.int .i64 x17))).upd 14 (.lit (.int .i64 x27))).upd 15 (.lit (.int .i64 0)))) (M':=(((Mem.nil.push (.cells 49 [.ptr 1 0,.whole 2,.lit (.int .i64 x4)])).push (.cells 47 [.ro (Rd.slice (Rd.int .u8)) false x5,.lit (.int .i64 x26)])).push (.row 5 (Rd.int .u8) x7))) [0,1,2] hnp ⟨rfl,AA3,by decide,rfl,BB2⟩ (LeE.u (LeE.u (LeE.u (LeE.u (LeE.none rfl rfl)))))) ?_;obtain ⟨x30,H1,H⟩:=bnd H;refine mo (.exit 0) Env.none (((Mem.nil.push (.cells 49 [.ptr 1 0,.whole 2,.lit (.int .i64 x4)])).push (.cells 47 [.ro (Rd.slice (Rd.int .u8)) false x5,.lit (.int .i64 x26)])).push (.row 5 (Rd.int .u8) x30)) ?_ ?_
 · refine WP.loop (β:=Int × (List Int)) (fun n b=>g_quireref03_stream_copied_l0 k x17 x27 n b.1 b.2=some x30) (fun b=>((((Env.none.upd 0 (.ptr 0 0)).upd 12 (.lit (.int .i64 x17))).upd 14 (.lit (.int .i64 x27))).upd 15 (.lit (.int .i64 b.1)))) (fun b=>(((Mem.nil.push (.cells 49 [.ptr 1 0,.whole 2,.lit (.int .i64 x4)])).push (.cells 47 [.ro (Rd.slice (Rd.int .u8)) false x5,.lit (.int .i64 x26)])).push (.row 5 (Rd.int .u8) b.2))) k (0,x7) H1 rfl rfl ?_;rintro n ⟨x31,x32⟩ H;obtain _ | n:=n
   · exact nf rfl H
   rw [g_quireref03_stream_copied_l0.eq_2] at H;show WP _ _ _ _ ((((Env.none.upd 0 (.ptr 0 0)).upd 12 (.lit (.int .i64 x17))).upd 14 (.lit (.int .i64 x27))).upd 15 (.lit (.int .i64 x31))) (((Mem.nil.push (.cells 49 [.ptr 1 0,.whole 2,.lit (.int .i64 x4)])).push (.cells 47 [.ro (Rd.slice (Rd.int .u8)) false x5,.lit (.int .i64 x26)])).push (.row 5 (Rd.int .u8) x32)) _;refine WP.seq ?_;(iterate 5 refine sp ?_);refine cq H (fun hb8 H=>?_) fun hb8 H=>?_
   · (iterate 3 refine sp ?_);refine WP.seq ?_;refine sp ?_;refine WP.regionD' 23 [0,2] [19] mixed rfl ?_;refine dT 0 ?_;refine dT 1 ?_;refine dT 2 ?_;refine dT 3 ?_;refine dT 5 ?_;refine dT 6 ?_;refine dT 7 ?_;refine dT 9 ?_;refine dT 10 ?_;refine dT 11 ?_;refine dT 14 ?_;refine dK 4 ?_;refine dK 8 ?_;refine dK 12 ?_;refine dT 13 ?_;obtain ⟨x33,h10,H⟩:=bnd H;refine dT 15 ?_ rfl (q_nm aq (nm_int h10));obtain ⟨x34,h11,H⟩:=bnd H;refine WPD.tT 16 rfl (q_index_row sl22 rfl rfl rfl (ixs h11)) ?_;refine WPD.take 17 rfl (by kernel_rfl) (q_load_row (j:=(Int.toNat x33)) sc5 rfl rfl (ixj h11)) rfl rfl ?_;refine dE 18 [0,2] [19] rfl (Does.runs (d_buildSlice (ds:=([x34]:List Int)) (R:=(Rd.int .u8)) li22 rfl rfl rfl rfl rfl (JoinRows.cons1 Joins.sc rfl JoinRows.nil) rfl rfl)) ?_;obtain ⟨h11,H⟩:=grd H;refine dE 19 [] [] rfl (Does.runs (d_append ap22 rfl rfl rfl rfl (src_row sl22 rfl rfl) h11 rfl)) ?_;refine dT 20 ?_;refine dT 21 ?_;refine dS 22 [] [] ?_;refine WPD.doneW (by kernel_rfl) ?_;refine sp ?_;refine InBlock.n ?_;(iterate 5 refine sp ?_);refine WPL.nilW ?_;exact wq [0,1,4] (Then.n ⟨n,((IntKind.wrap .i64 (x31+1)),(x32++([x34]:List Int))),Nat.lt_succ_self n,H,rfl,rfl⟩)
   refine sp ?_;have q0:=j1 H;subst q0;exact wq [0,1,2] (Then.x (Then.x r3))
 (iterate 7 refine sp ?_);obtain ⟨rfl,rfl,rfl⟩:=j3 H;exact W.now (mb [0,1,2])
theorem s_quireref03_stream_symbols (k:Nat) (x1:(List Int)) (x2:(List Int)) (x3:(List Int)) (x4:(List Int)) (x5:Int) (x6:(List Int)) (x7:Int) (x8:(List Int)) (x9:Int) (x10:Int) (x11:(List Int)) (H:g_quireref03_stream_symbols k x1 x2 x3 x4 x5 x6 x7 x8=some (x9,x10,x11)):Go.Q.Spec Try.prog 47 2 [.ptr 0 0,.agg [.ro (Rd.slice (Rd.int .i64)) false x1,.ro (Rd.slice (Rd.int .u32)) false x2],.agg [.ro (Rd.slice (Rd.int .i64)) false x3,.ro (Rd.slice (Rd.int .u32)) false x4]] (((Mem.nil.push (.cells 49 [.ptr 1 0,.whole 2,.lit (.int .i64 x5)])).push (.cells 47 [.ro (Rd.slice (Rd.int .u8)) false x6,.lit (.int .i64 x7)])).push (.row 5 (Rd.int .u8) x8)) (fun o M=>o=.ret (.lit (.int .i64 x9))∧M=(((Mem.nil.push (.cells 49 [.ptr 1 0,.whole 2,.lit (.int .i64 x5)])).push (.cells 47 [.ro (Rd.slice (Rd.int .u8)) false x6,.lit (.int .i64 x10)])).push (.row 5 (Rd.int .u8) x11))):=by
 unfold g_quireref03_stream_symbols at H;refine bo Try.func47 [] [.tmp 6] 39 fun cx hnp=>?_;(iterate 6 refine sp ?_);refine WP.cv (Cv.weak (E':=(((Env.none.upd 0 (.ptr 0 0)).upd 4 (.ptr 3 0)).upd 5 (.ptr 4 0))) (M':=(((((Mem.nil.push (.cells 49 [.ptr 1 0,.whole 2,.lit (.int .i64 x5)])).push (.cells 47 [.ro (Rd.slice (Rd.int .u8)) false x6,.lit (.int .i64 x7)])).push (.row 5 (Rd.int .u8) x8)).push (.cells 88 [.ro (Rd.slice (Rd.int .i64)) false x1,.ro (Rd.slice (Rd.int .u32)) false x2])).push (.cells 88 [.ro (Rd.slice (Rd.int .i64)) false x3,.ro (Rd.slice (Rd.int .u32)) false x4]))) [0,1,2,3,4] hnp ⟨rfl,AA5,by decide,rfl,BB2⟩ (LeE.u (LeE.u (LeE.u (LeE.none rfl rfl))))) ?_;obtain ⟨⟨x12,x13,x14⟩,H1,H⟩:=bnd H;refine mo .ret (Env.none.upd 6 (.lit (.int .i64 x12))) (((Mem.nil.push (.cells 49 [.ptr 1 0,.whole 2,.lit (.int .i64 x5)])).push (.cells 47 [.ro (Rd.slice (Rd.int .u8)) false x6,.lit (.int .i64 x13)])).push (.row 5 (Rd.int .u8) x14)) ?_ ?_
 · refine WP.loop (β:=Int × (List Int)) (fun n b=>g_quireref03_stream_symbols_l0 k x1 x2 x3 x4 x5 x6 n b.1 b.2=some (x12,x13,x14)) (fun b=>(((Env.none.upd 0 (.ptr 0 0)).upd 4 (.ptr 3 0)).upd 5 (.ptr 4 0))) (fun b=>(((((Mem.nil.push (.cells 49 [.ptr 1 0,.whole 2,.lit (.int .i64 x5)])).push (.cells 47 [.ro (Rd.slice (Rd.int .u8)) false x6,.lit (.int .i64 b.1)])).push (.row 5 (Rd.int .u8) b.2)).push (.cells 88 [.ro (Rd.slice (Rd.int .i64)) false x1,.ro (Rd.slice (Rd.int .u32)) false x2])).push (.cells 88 [.ro (Rd.slice (Rd.int .i64)) false x3,.ro (Rd.slice (Rd.int .u32)) false x4]))) k (x7,x8) H1 rfl rfl ?_;rintro n ⟨x15,x16⟩ H;obtain _ | n:=n
   · exact nf rfl H
   rw [g_quireref03_stream_symbols_l0.eq_2] at H;show WP _ _ _ _ (((Env.none.upd 0 (.ptr 0 0)).upd 4 (.ptr 3 0)).upd 5 (.ptr 4 0)) (((((Mem.nil.push (.cells 49 [.ptr 1 0,.whole 2,.lit (.int .i64 x5)])).push (.cells 47 [.ro (Rd.slice (Rd.int .u8)) false x6,.lit (.int .i64 x15)])).push (.row 5 (Rd.int .u8) x16)).push (.cells 88 [.ro (Rd.slice (Rd.int .i64)) false x1,.ro (Rd.slice (Rd.int .u32)) false x2])).push (.cells 88 [.ro (Rd.slice (Rd.int .i64)) false x3,.ro (Rd.slice (Rd.int .u32)) false x4])) _;refine sp ?_;refine WP.seq ?_;refine WP.regionD' 14 [0,3] [] mixed rfl ?_;refine dT 0 ?_;refine dT 2 ?_;refine dT 4 ?_;refine dT 5 ?_;refine dT 6 ?_;refine dK 1 ?_;refine dK 3 ?_;refine dK 7 ?_;obtain ⟨⟨x17,x18,x19⟩,h1,H⟩:=bnd H;refine dE 8 [0,3] [] rfl (rc [1] [1] 5 [] (s_quireref02_Next k x1 x2 x6 x15 x17 x18 x19 h1) (hargs:=.ren rfl rfl (.ren rfl rfl (.ren rfl rfl .nil)))) ?_;refine dT 9 ?_;refine dT 10 ?_;refine dT 11 ?_;refine dT 12 ?_;refine dT 13 ?_;refine WPD.doneW (by kernel_rfl) ?_;(iterate 2 refine sp ?_);refine WP.seq ?_;(iterate 4 refine sp ?_);refine cq H (fun hb1 H=>?_) fun hb1 H=>?_
   · (iterate 5 refine sp ?_);obtain ⟨rfl,rfl,rfl⟩:=j3 H;exact wq [0,1,2] (Then.r (InBlock.r (Then.r r3)))
   (iterate 3 refine sp ?_);refine WP.seq ?_;(iterate 4 refine sp ?_);refine cq H (fun hb2 H=>?_) fun hb2 H=>?_
   · (iterate 4 refine sp ?_);obtain ⟨rfl,rfl,rfl⟩:=j3 H;exact wq [0,1,2] (Then.r (InBlock.r (Then.r r3)))
   (iterate 3 refine sp ?_);refine WP.seq ?_;obtain ⟨⟨x20,x21,x22⟩,H2,H⟩:=bnd H;refine mo .normal ((((Env.none.upd 0 (.ptr 0 0)).upd 4 (.ptr 3 0)).upd 5 (.ptr 4 0)).upd 8 (.lit (.int .i64 x20))) (((((Mem.nil.push (.cells 49 [.ptr 1 0,.whole 2,.lit (.int .i64 x5)])).push (.cells 47 [.ro (Rd.slice (Rd.int .u8)) false x6,.lit (.int .i64 x21)])).push (.row 5 (Rd.int .u8) x22)).push (.cells 88 [.ro (Rd.slice (Rd.int .i64)) false x1,.ro (Rd.slice (Rd.int .u32)) false x2])).push (.cells 88 [.ro (Rd.slice (Rd.int .i64)) false x3,.ro (Rd.slice (Rd.int .u32)) false x4])) ?_ ?_
   · clear H;have H:=H2;clear H2;(iterate 4 refine sp ?_);refine cq H (fun hb3 H=>?_) fun hb3 H=>?_
     · (iterate 4 refine sp ?_);obtain ⟨⟨x23,x24⟩,h2,H⟩:=bnd H;refine WPL.c (rc [0,1,2] [0,1,5] 6 [] (s_quireref03_stream_put k (IntKind.wrap .u8 x17) x5 x6 x19 x16 x23 x24 h2)) rfl ?_;refine sp ?_;refine WPL.nilW ?_;obtain ⟨rfl,rfl,rfl⟩:=j3 H;exact wq [0,1,5,3,4]
     (iterate 4 refine sp ?_);obtain ⟨⟨x25,x26,x27⟩,h3,H⟩:=bnd H;refine WPL.c (rc [0,1,2] [0,1,5] 6 [] (s_quireref03_stream_copied k x17 x3 x4 x5 x6 x19 x16 x25 x26 x27 h3) (hargs:=.ren rfl rfl (.ren rfl rfl (.ren rfl rfl .nil)))) rfl ?_;refine sp ?_;refine WPL.nilW ?_;obtain ⟨rfl,rfl,rfl⟩:=j3 H;exact wq [0,1,5,3,4]
   (iterate 6 refine sp ?_);refine cq H (fun hb4 H=>?_) fun hb4 H=>?_
   · (iterate 5 refine sp ?_);obtain ⟨rfl,rfl,rfl⟩:=j3 H;exact wq [0,1,2] (InBlock.r (Then.r r3))
   refine sp ?_;exact wq [0,1,2,3,4] (InBlock.n (Then.n ⟨n,(x21,x22),Nat.lt_succ_self n,H,rfl,rfl⟩))
 obtain ⟨rfl,rfl,rfl⟩:=j3 H;exact W.now (InBlock.r (mb [0,1,2]))
theorem s_quireref03_Order (k:Nat) (H:g_quireref03_Order k=some ()):Go.Q.Spec Try.prog 74 0 [] Mem.nil (fun o M=>o=.ret (.ro (Rd.slice (Rd.int .i64)) false ([16,17,18,0,8,7,9,6,10,5,11,4,12,3,13,2,14,1,15]:List Int))∧M=Mem.nil):=by
 unfold g_quireref03_Order at H;refine bo Try.func74 [] [.tmp 0] 2 fun cx hnp=>?_;(iterate 4 refine sp ?_);refine WPL.d (d_buildSlice (ds:=([16,17,18,0,8,7,9,6,10,5,11,4,12,3,13,2,14,1,15]:List Int)) (R:=(Rd.int .i64)) li66 rfl rfl rfl rfl rfl (JoinRows.cons1 Joins.sc rfl (JoinRows.cons1 Joins.sc rfl (JoinRows.cons1 Joins.sc rfl (JoinRows.cons1 Joins.sc rfl (JoinRows.cons1 Joins.sc rfl (JoinRows.cons1 Joins.sc rfl (JoinRows.cons1 Joins.sc rfl (JoinRows.cons1 Joins.sc rfl (JoinRows.cons1 Joins.sc rfl (JoinRows.cons1 Joins.sc rfl (JoinRows.cons1 Joins.sc rfl (JoinRows.cons1 Joins.sc rfl (JoinRows.cons1 Joins.sc rfl (JoinRows.cons1 Joins.sc rfl (JoinRows.cons1 Joins.sc rfl (JoinRows.cons1 Joins.sc rfl (JoinRows.cons1 Joins.sc rfl (JoinRows.cons1 Joins.sc rfl (JoinRows.cons1 Joins.sc rfl JoinRows.nil))))))))))))))))))) rfl rfl) rfl ?_;(iterate 3 refine sp ?_);refine W.cv (Cv.frzRow (i:=0) rfl rfl hnp rfl rfl) rfl ?_;exact W.now (mb [])
theorem s_quireref02_space__b (k:Nat) (x1:(List Int)) (x2:Int) (x3:Int) (H:g_quireref02_space k x1=some (x2,x3)):Go.Q.Spec Try.prog 87 0 [.ro (Rd.slice (Rd.int .i64)) true x1] Mem.nil (fun o M=>o=.ret (.tup [.lit (.int .i64 x2),.lit (.int .i64 x3)])∧M=Mem.nil):=by
 unfold g_quireref02_space at H;refine bo Try.func87 [] [.tmp 2,.tmp 3] 31 fun cx hnp=>?_;(iterate 8 refine sp ?_);refine WP.seq ?_;(iterate 4 refine sp ?_);refine WP.cv (Cv.weak (E':=((((Env.none.upd 0 (.ro (Rd.slice (Rd.int .i64)) true x1)).upd 4 (.lit (.int .i64 0))).upd 5 (.lit (.int .i64 0))).upd 6 (.lit (.int .i64 0)))) (M':=Mem.nil) [] hnp ⟨rfl,trivial,by decide,rfl,trivial⟩ (LeE.u (LeE.u (LeE.u (LeE.u (LeE.none rfl rfl)))))) ?_;obtain ⟨⟨x4,x5⟩,H1,H⟩:=bnd H;refine mo (.exit 0) ((Env.none.upd 4 (.lit (.int .i64 x4))).upd 5 (.lit (.int .i64 x5))) Mem.nil ?_ ?_
 · refine WP.loop (β:=Int × Int × Int) (fun n b=>g_quireref02_space_l0 k x1 n b.1 b.2.1 b.2.2=some (x4,x5)) (fun b=>((((Env.none.upd 0 (.ro (Rd.slice (Rd.int .i64)) true x1)).upd 4 (.lit (.int .i64 b.1))).upd 5 (.lit (.int .i64 b.2.1))).upd 6 (.lit (.int .i64 b.2.2)))) (fun b=>Mem.nil) k (0,0,0) H1 rfl rfl ?_;rintro n ⟨x6,x7,x8⟩ H;obtain _ | n:=n
   · exact nf rfl H
   rw [g_quireref02_space_l0.eq_2] at H;show WP _ _ _ _ ((((Env.none.upd 0 (.ro (Rd.slice (Rd.int .i64)) true x1)).upd 4 (.lit (.int .i64 x6))).upd 5 (.lit (.int .i64 x7))).upd 6 (.lit (.int .i64 x8))) Mem.nil _;refine WP.seq ?_;(iterate 4 refine sp ?_);obtain ⟨x9,h1,H⟩:=bnd H;refine sn (nm_bool h1) ?_;refine sp ?_;refine cq H (fun hb1 H=>?_) fun hb1 H=>?_
   · (iterate 3 refine sp ?_);refine WP.seq ?_;obtain ⟨⟨x10,x11⟩,H2,H⟩:=bnd H;refine mo .normal ((((Env.none.upd 0 (.ro (Rd.slice (Rd.int .i64)) true x1)).upd 4 (.lit (.int .i64 x10))).upd 5 (.lit (.int .i64 x11))).upd 6 (.lit (.int .i64 x8))) Mem.nil ?_ ?_
     · clear H;have H:=H2;clear H2;(iterate 4 refine sp ?_);obtain ⟨x12,h2,H⟩:=bnd H;(iterate 4 refine sp ?_);refine cq H (fun hb2 H=>?_) fun hb2 H=>?_
       · (iterate 4 refine sp ?_);obtain ⟨x13,h3,H⟩:=bnd H;(iterate 3 refine sp ?_);obtain ⟨x14,h4,H⟩:=bnd H;refine sn (nm_int h4) ?_;obtain ⟨h4,H⟩:=grd H;refine WPL.qq (q_shl rfl rfl h4) ?_;obtain ⟨x15,h5,H⟩:=bnd H;refine sn (nm_int h5) ?_;(iterate 6 refine sp ?_);refine WPL.nilW ?_;obtain ⟨rfl,rfl⟩:=j2 H;exact wq [] (InBlock.n r3)
       refine sp ?_;obtain ⟨rfl,rfl⟩:=j2 H;exact wq [] (InBlock.n r3)
     (iterate 6 refine sp ?_);refine WPL.nilW ?_;exact wq [] (Then.n ⟨n,(x10,x11,(IntKind.wrap .i64 (x8+1))),Nat.lt_succ_self n,H,rfl,rfl⟩)
   refine sp ?_;obtain ⟨rfl,rfl⟩:=j2 H;exact wq [] (Then.x (Then.x r3))
 (iterate 10 refine sp ?_);obtain ⟨rfl,rfl⟩:=j2 H;exact W.now (mb [])
theorem s_quireref02_Right__b (k:Nat) (x1:(List Int)) (x2:Int) (H:g_quireref02_Right k x1=some x2):Go.Q.Spec Try.prog 84 0 [.ro (Rd.slice (Rd.int .i64)) true x1] Mem.nil (fun o M=>o=.ret (.lit (.int .i64 x2))∧M=Mem.nil):=by
 unfold g_quireref02_Right at H;refine bo Try.func84 [] [.tmp 2] 46 fun cx hnp=>?_;(iterate 3 refine sp ?_);refine WP.seq ?_;(iterate 3 refine sp ?_);obtain ⟨x3,h1,H⟩:=bnd H;refine sn (nm_bool h1) ?_;refine sp ?_;refine cq H (fun hb1 H=>?_) fun hb1 H=>?_
 · (iterate 4 refine sp ?_);have q0:=j1 H;subst q0;exact W.now (Then.r (mb []))
 (iterate 3 refine sp ?_);refine WP.seq ?_;(iterate 4 refine sp ?_);refine WP.cv (Cv.weak (E':=((Env.none.upd 0 (.ro (Rd.slice (Rd.int .i64)) true x1)).upd 3 (.lit (.int .i64 0)))) (M':=Mem.nil) [] hnp ⟨rfl,trivial,by decide,rfl,trivial⟩ (LeE.u (LeE.u (LeE.none rfl rfl)))) ?_;obtain ⟨y1,H1,H⟩:=bnd H;refine WP.monoW (Q:=fun x E M=>match (generalizing:=false) y1 with | (Sum.inl _)=>x=.ret∧E=(Env.none.upd 2 (.lit (.int .i64 1)))∧M=Mem.nil | (Sum.inr _)=>x=.exit 0∧E=(Env.none.upd 0 (.ro (Rd.slice (Rd.int .i64)) true x1))∧M=Mem.nil) ?_ ?_
 · refine WP.loop (β:=Int) (fun n b=>g_quireref02_Right_l0 k x1 n b=some y1) (fun b=>((Env.none.upd 0 (.ro (Rd.slice (Rd.int .i64)) true x1)).upd 3 (.lit (.int .i64 b)))) (fun b=>Mem.nil) k 0 H1 rfl rfl ?_;rintro n x4 H;obtain _ | n:=n
   · exact nf rfl H
   rw [g_quireref02_Right_l0.eq_2] at H;show WP _ _ _ _ ((Env.none.upd 0 (.ro (Rd.slice (Rd.int .i64)) true x1)).upd 3 (.lit (.int .i64 x4))) Mem.nil _;refine WP.seq ?_;(iterate 4 refine sp ?_);obtain ⟨x5,h2,H⟩:=bnd H;refine sn (nm_bool h2) ?_;refine sp ?_;refine cq H (fun hb2 H=>?_) fun hb2 H=>?_
   · (iterate 3 refine sp ?_);refine WP.seq ?_;refine sp ?_;refine WP.seq ?_;obtain ⟨x6,H2,H⟩:=bnd H;refine mo .normal (((Env.none.upd 0 (.ro (Rd.slice (Rd.int .i64)) true x1)).upd 3 (.lit (.int .i64 x4))).upd 26 (.lit (.bool x6))) Mem.nil ?_ ?_
     · clear H;have H:=H2;clear H2;(iterate 3 refine sp ?_);obtain ⟨x7,h3,H⟩:=bnd H;(iterate 4 refine sp ?_);refine ws 20 H (fun hb3 H=>?_) fun hb3 H=>?_
       · (iterate 6 refine sp ?_);refine WPL.nilW ?_;have q0:=j1 H;subst q0;exact wq []
       (iterate 2 refine sp ?_);obtain ⟨x8,h4,H⟩:=bnd H;(iterate 4 refine sp ?_);refine WPL.nilW ?_;have q0:=j1 H;subst q0;exact wq []
     (iterate 2 refine sp ?_);refine cq H (fun hb4 H=>?_) fun hb4 H=>?_
     · (iterate 4 refine sp ?_);have q0:=j1 H;subst q0;exact wq [] (InBlock.r (Then.r (Then.r r3)))
     (iterate 2 refine sp ?_);refine InBlock.n ?_;(iterate 5 refine sp ?_);refine WPL.nilW ?_;exact wq [] (Then.n ⟨n,(IntKind.wrap .i64 (x4+1)),Nat.lt_succ_self n,H,rfl,rfl⟩)
   refine sp ?_;have q0:=j1 H;subst q0;exact wq [] (Then.x (Then.x r3))
 rcases y1 with _ | _
 · rintro _ _ _ ⟨rfl,rfl,rfl⟩;have q0:=j1 H;subst q0;exact W.now (InBlock.r (Then.r (mb [])))
 rintro _ _ _ ⟨rfl,rfl,rfl⟩;(iterate 5 refine sp ?_);obtain ⟨⟨x9,x10⟩,h5,H⟩:=bnd H;refine WPL.c (rc [] [] 0 [] (s_quireref02_space__b k x1 x9 x10 h5)) rfl ?_;(iterate 6 refine sp ?_);refine WP.seq ?_;refine WP.seq ?_;obtain ⟨x11,H3,H⟩:=bnd H;refine mo .normal (Env.none.upd 45 (.lit (.bool x11))) Mem.nil ?_ ?_
 · clear H;have H:=H3;clear H3;(iterate 4 refine sp ?_);refine ws 34 H (fun hb5 H=>?_) fun hb5 H=>?_
   · (iterate 11 refine sp ?_);refine WPL.nilW ?_;have q0:=j1 H;subst q0;exact wq []
   (iterate 4 refine sp ?_);refine ws 38 H (fun hb6 H=>?_) fun hb6 H=>?_
   · (iterate 7 refine sp ?_);refine WPL.nilW ?_;have q0:=j1 H;subst q0;exact wq []
   (iterate 3 refine sp ?_);refine ws 41 H (fun hb7 H=>?_) fun hb7 H=>?_
   · (iterate 4 refine sp ?_);refine WPL.nilW ?_;have q0:=j1 H;subst q0;exact wq []
   (iterate 4 refine sp ?_);refine WPL.nilW ?_;have q0:=j1 H;subst q0;exact wq []
 (iterate 2 refine sp ?_);refine cq H (fun hb8 H=>?_) fun hb8 H=>?_
 · (iterate 4 refine sp ?_);have q0:=j1 H;subst q0;exact W.now (Then.r (mb []))
 (iterate 7 refine sp ?_);have q0:=j1 H;subst q0;exact W.now (mb [])
theorem s_quireref02_Full (k:Nat) (x1:(List Int)) (x2:Bool) (H:g_quireref02_Full k x1=some x2):Go.Q.Spec Try.prog 75 0 [.ro (Rd.slice (Rd.int .i64)) true x1] Mem.nil (fun o M=>o=.ret (.lit (.bool x2))∧M=Mem.nil):=by
 unfold g_quireref02_Full at H;refine bo Try.func75 [] [.tmp 2] 15 fun cx hnp=>?_;(iterate 3 refine sp ?_);refine WP.seq ?_;(iterate 2 refine sp ?_);obtain ⟨x3,h1,H⟩:=bnd H;refine WPL.c (rc [] [] 0 [] (s_quireref02_Right__b k x1 x3 h1)) rfl ?_;(iterate 2 refine sp ?_);refine cq H (fun hb1 H=>?_) fun hb1 H=>?_
 · (iterate 4 refine sp ?_);have q0:=j1 H;subst q0;exact W.now (Then.r (mb []))
 (iterate 5 refine sp ?_);obtain ⟨⟨x4,x5⟩,h2,H⟩:=bnd H;refine WPL.c (rc [] [] 0 [] (s_quireref02_space__b k x1 x4 x5 h2)) rfl ?_;(iterate 12 refine sp ?_);have q0:=j1 H;subst q0;exact W.now (mb [])
theorem s_quireref03_stream_row (k:Nat) (x1:(List Int)) (x2:(List Int)) (x3:Int) (x4:Int) (x5:(List Int)) (x6:Int) (x7:(List Int)) (x8:(List Int)) (x9:Int) (x10:Int) (H:g_quireref03_stream_row k x1 x2 x3 x4 x5 x6 x7=some (x8,x9,x10)):Go.Q.Spec Try.prog 76 2 [.ptr 0 0,.agg [.ro (Rd.slice (Rd.int .i64)) false x1,.ro (Rd.slice (Rd.int .u32)) false x2],.lit (.int .i64 x3)] (((Mem.nil.push (.cells 49 [.ptr 1 0,.whole 2,.lit (.int .i64 x4)])).push (.cells 47 [.ro (Rd.slice (Rd.int .u8)) false x5,.lit (.int .i64 x6)])).push (.row 5 (Rd.int .u8) x7)) (fun o M=>o=.ret (.tup [.ro (Rd.slice (Rd.int .i64)) false x8,.lit (.int .i64 x9)])∧M=(((Mem.nil.push (.cells 49 [.ptr 1 0,.whole 2,.lit (.int .i64 x4)])).push (.cells 47 [.ro (Rd.slice (Rd.int .u8)) false x5,.lit (.int .i64 x10)])).push (.row 5 (Rd.int .u8) x7))):=by
 unfold g_quireref03_stream_row at H;refine bo Try.func76 [] [.tmp 6,.tmp 7] 93 fun cx hnp=>?_;(iterate 8 refine sp ?_);refine WP.seq ?_;refine sp ?_;refine WP.cv (Cv.vir 3 (Rd.int .i64) (N:=4) rfl 8 rfl) ?_;refine WP.cv (Cv.weak (E':=((((Env.none.upd 0 (.ptr 0 0)).upd 2 (.lit (.int .i64 x3))).upd 4 (.ptr 3 0)).upd 8 (.whole 4))) (M':=(((((Mem.nil.push (.cells 49 [.ptr 1 0,.whole 2,.lit (.int .i64 x4)])).push (.cells 47 [.ro (Rd.slice (Rd.int .u8)) false x5,.lit (.int .i64 x6)])).push (.row 5 (Rd.int .u8) x7)).push (.cells 88 [.ro (Rd.slice (Rd.int .i64)) false x1,.ro (Rd.slice (Rd.int .u32)) false x2])).push (.row 3 (Rd.int .i64) ([]:List Int)))) [0,1,2,3,4] hnp ⟨rfl,AA5,by decide,rfl,BB2⟩ (LeE.u (LeE.u (LeE.u (LeE.u (LeE.none rfl rfl)))))) ?_;obtain ⟨y1,H1,H⟩:=bnd H;refine WP.monoW (Q:=fun x E M=>match (generalizing:=false) y1 with | (Sum.inl (x11,x12))=>x=.ret∧E=((Env.none.upd 6 (.lit (.slice none 0 0))).upd 7 (.lit (.int .i64 x11)))∧M=(((Mem.nil.push (.cells 49 [.ptr 1 0,.whole 2,.lit (.int .i64 x4)])).push (.cells 47 [.ro (Rd.slice (Rd.int .u8)) false x5,.lit (.int .i64 x12)])).push (.row 5 (Rd.int .u8) x7)) | (Sum.inr (x13,x14))=>x=.exit 0∧E=(Env.none.upd 8 (.whole 3))∧M=((((Mem.nil.push (.cells 49 [.ptr 1 0,.whole 2,.lit (.int .i64 x4)])).push (.cells 47 [.ro (Rd.slice (Rd.int .u8)) false x5,.lit (.int .i64 x13)])).push (.row 5 (Rd.int .u8) x7)).push (.row 3 (Rd.int .i64) x14))) ?_ ?_
 · refine WP.loop (β:=Int × (List Int)) (fun n b=>g_quireref03_stream_row_l0 k x1 x2 x3 x5 n b.1 b.2=some y1) (fun b=>((((Env.none.upd 0 (.ptr 0 0)).upd 2 (.lit (.int .i64 x3))).upd 4 (.ptr 3 0)).upd 8 (.whole 4))) (fun b=>(((((Mem.nil.push (.cells 49 [.ptr 1 0,.whole 2,.lit (.int .i64 x4)])).push (.cells 47 [.ro (Rd.slice (Rd.int .u8)) false x5,.lit (.int .i64 b.1)])).push (.row 5 (Rd.int .u8) x7)).push (.cells 88 [.ro (Rd.slice (Rd.int .i64)) false x1,.ro (Rd.slice (Rd.int .u32)) false x2])).push (.row 3 (Rd.int .i64) b.2))) k (x6,([]:List Int)) H1 rfl rfl ?_;rintro n ⟨x15,x16⟩ H;obtain _ | n:=n
   · exact nf rfl H
   rw [g_quireref03_stream_row_l0.eq_2] at H;show WP _ _ _ _ ((((Env.none.upd 0 (.ptr 0 0)).upd 2 (.lit (.int .i64 x3))).upd 4 (.ptr 3 0)).upd 8 (.whole 4)) (((((Mem.nil.push (.cells 49 [.ptr 1 0,.whole 2,.lit (.int .i64 x4)])).push (.cells 47 [.ro (Rd.slice (Rd.int .u8)) false x5,.lit (.int .i64 x15)])).push (.row 5 (Rd.int .u8) x7)).push (.cells 88 [.ro (Rd.slice (Rd.int .i64)) false x1,.ro (Rd.slice (Rd.int .u32)) false x2])).push (.row 3 (Rd.int .i64) x16)) _;refine WP.seq ?_;(iterate 4 refine sp ?_);obtain ⟨x17,h1,H⟩:=bnd H;refine sn (nm_bool h1) ?_;refine sp ?_;refine cq H (fun hb1 H=>?_) fun hb1 H=>?_
   · (iterate 4 refine sp ?_);refine WP.seq ?_;refine WP.regionD' 14 [0,3] [] mixed rfl ?_;refine dT 0 ?_;refine dT 2 ?_;refine dT 4 ?_;refine dT 5 ?_;refine dT 6 ?_;refine dK 1 ?_;refine dK 3 ?_;refine dK 7 ?_;obtain ⟨⟨x18,x19,x20⟩,h2,H⟩:=bnd H;refine dE 8 [0,3] [] rfl (rc [1] [1] 5 [] (s_quireref02_Next k x1 x2 x5 x15 x18 x19 x20 h2) (hargs:=.ren rfl rfl (.ren rfl rfl (.ren rfl rfl .nil)))) ?_;refine dT 9 ?_;refine dT 10 ?_;refine dT 11 ?_;refine dT 12 ?_;refine dT 13 ?_;refine WPD.doneW (by kernel_rfl) ?_;(iterate 2 refine sp ?_);refine WP.seq ?_;(iterate 4 refine sp ?_);refine cq H (fun hb2 H=>?_) fun hb2 H=>?_
     · (iterate 6 refine sp ?_);have q0:=j1 H;subst q0;exact wq [0,1,2] (Then.r (InBlock.r (Then.r r3)))
     (iterate 3 refine sp ?_);refine WP.seq ?_;(iterate 4 refine sp ?_);refine cq H (fun hb3 H=>?_) fun hb3 H=>?_
     · (iterate 3 refine sp ?_);refine WPL.d (d_buildSlice (ds:=([x18]:List Int)) (R:=(Rd.int .i64)) li66 rfl rfl rfl rfl rfl (JoinRows.cons1 Joins.sc rfl JoinRows.nil) rfl rfl) rfl ?_;obtain ⟨h3,H⟩:=grd H;refine WPL.d (d_append ap66 rfl rfl rfl rfl (src_row sl66 rfl rfl) h3 rfl) rfl ?_;(iterate 3 refine sp ?_);exact wq [0,1,2,3,6] (Then.x (InBlock.x0 (Then.n ⟨n,(x20,(x16++([x18]:List Int))),Nat.lt_succ_self n,H,rfl,rfl⟩)))
     (iterate 8 refine sp ?_);refine WP.seq ?_;refine WP.seq ?_;obtain ⟨x21,H2,H⟩:=bnd H;refine mo .normal (((((((((Env.none.upd 0 (.ptr 0 0)).upd 2 (.lit (.int .i64 x3))).upd 4 (.ptr 3 0)).upd 8 (.whole 4)).upd 9 (.lit (.int .i64 x18))).upd 11 (.lit (.int .i64 2))).upd 12 (.lit (.int .i64 3))).upd 13 (.lit (.int .i64 0))).upd 48 (.lit (.bool x21))) (((((Mem.nil.push (.cells 49 [.ptr 1 0,.whole 2,.lit (.int .i64 x4)])).push (.cells 47 [.ro (Rd.slice (Rd.int .u8)) false x5,.lit (.int .i64 x20)])).push (.row 5 (Rd.int .u8) x7)).push (.cells 88 [.ro (Rd.slice (Rd.int .i64)) false x1,.ro (Rd.slice (Rd.int .u32)) false x2])).push (.row 3 (Rd.int .i64) x16)) ?_ ?_
     · clear H;have H:=H2;clear H2;(iterate 4 refine sp ?_);refine ws 44 H (fun hb4 H=>?_) fun hb4 H=>?_
       · (iterate 2 refine sp ?_);obtain ⟨x22,h4,H⟩:=bnd H;refine sn (nm_bool h4) ?_;refine sp ?_;refine WPL.nilW ?_;have q0:=j1 H;subst q0;exact wq [0,1,2,3,4]
       (iterate 4 refine sp ?_);refine WPL.nilW ?_;have q0:=j1 H;subst q0;exact wq [0,1,2,3,4]
     (iterate 2 refine sp ?_);refine cq H (fun hb5 H=>?_) fun hb5 H=>?_
     · (iterate 5 refine sp ?_);have q0:=j1 H;subst q0;exact wq [0,1,2] (Then.r (InBlock.r (Then.r r3)))
     (iterate 3 refine sp ?_);refine WP.seq ?_;obtain ⟨x23,H3,H⟩:=bnd H;refine mo .normal ((((((((Env.none.upd 0 (.ptr 0 0)).upd 2 (.lit (.int .i64 x3))).upd 4 (.ptr 3 0)).upd 8 (.whole 4)).upd 9 (.lit (.int .i64 x18))).upd 11 (.lit (.int .i64 2))).upd 12 (.lit (.int .i64 3))).upd 13 (.lit (.int .i64 x23))) (((((Mem.nil.push (.cells 49 [.ptr 1 0,.whole 2,.lit (.int .i64 x4)])).push (.cells 47 [.ro (Rd.slice (Rd.int .u8)) false x5,.lit (.int .i64 x20)])).push (.row 5 (Rd.int .u8) x7)).push (.cells 88 [.ro (Rd.slice (Rd.int .i64)) false x1,.ro (Rd.slice (Rd.int .u32)) false x2])).push (.row 3 (Rd.int .i64) x16)) ?_ ?_
     · clear H;have H:=H3;clear H3;(iterate 4 refine sp ?_);refine cq H (fun hb6 H=>?_) fun hb6 H=>?_
       · (iterate 4 refine sp ?_);obtain ⟨x24,h5,H⟩:=bnd H;refine sn (nm_int h5) ?_;obtain ⟨x25,h6,H⟩:=bnd H;refine WPL.qq (q_index_row sl66 rfl rfl rfl (ixs h6)) ?_;refine WPL.qq (q_load_row (j:=(Int.toNat x24)) sc3 rfl rfl (ixj h6)) ?_;refine sp ?_;refine WPL.nilW ?_;have q0:=j1 H;subst q0;exact wq [0,1,2,3,4]
       refine sp ?_;have q0:=j1 H;subst q0;exact wq [0,1,2,3,4]
     (iterate 2 refine sp ?_);refine WP.seq ?_;obtain ⟨x26,H4,H⟩:=bnd H;refine mo .normal ((((((((Env.none.upd 0 (.ptr 0 0)).upd 2 (.lit (.int .i64 x3))).upd 4 (.ptr 3 0)).upd 8 (.whole 4)).upd 9 (.lit (.int .i64 x18))).upd 11 (.lit (.int .i64 x26))).upd 12 (.lit (.int .i64 3))).upd 13 (.lit (.int .i64 x23))) (((((Mem.nil.push (.cells 49 [.ptr 1 0,.whole 2,.lit (.int .i64 x4)])).push (.cells 47 [.ro (Rd.slice (Rd.int .u8)) false x5,.lit (.int .i64 x20)])).push (.row 5 (Rd.int .u8) x7)).push (.cells 88 [.ro (Rd.slice (Rd.int .i64)) false x1,.ro (Rd.slice (Rd.int .u32)) false x2])).push (.row 3 (Rd.int .i64) x16)) ?_ ?_
     · clear H;have H:=H4;clear H4;(iterate 4 refine sp ?_);refine cq H (fun hb7 H=>?_) fun hb7 H=>?_
       · (iterate 2 refine sp ?_);refine WPL.nilW ?_;have q0:=j1 H;subst q0;exact wq [0,1,2,3,4]
       refine sp ?_;have q0:=j1 H;subst q0;exact wq [0,1,2,3,4]
     (iterate 2 refine sp ?_);refine WP.seq ?_;obtain ⟨⟨x27,x28⟩,H5,H⟩:=bnd H;refine mo .normal (((((((Env.none.upd 0 (.ptr 0 0)).upd 2 (.lit (.int .i64 x3))).upd 4 (.ptr 3 0)).upd 8 (.whole 4)).upd 11 (.lit (.int .i64 x27))).upd 12 (.lit (.int .i64 x28))).upd 13 (.lit (.int .i64 x23))) (((((Mem.nil.push (.cells 49 [.ptr 1 0,.whole 2,.lit (.int .i64 x4)])).push (.cells 47 [.ro (Rd.slice (Rd.int .u8)) false x5,.lit (.int .i64 x20)])).push (.row 5 (Rd.int .u8) x7)).push (.cells 88 [.ro (Rd.slice (Rd.int .i64)) false x1,.ro (Rd.slice (Rd.int .u32)) false x2])).push (.row 3 (Rd.int .i64) x16)) ?_ ?_
     · clear H;have H:=H5;clear H5;(iterate 4 refine sp ?_);refine cq H (fun hb8 H=>?_) fun hb8 H=>?_
       · (iterate 5 refine sp ?_);refine WPL.nilW ?_;obtain ⟨rfl,rfl⟩:=j2 H;exact wq [0,1,2,3,4]
       refine sp ?_;obtain ⟨rfl,rfl⟩:=j2 H;exact wq [0,1,2,3,4]
     (iterate 8 refine sp ?_);obtain ⟨⟨x29,x30,x31⟩,h7,H⟩:=bnd H;refine WPL.c (rc [1] [1] 5 [] (s_quireref01_Reader_Take k x27 x5 x20 x29 x30 x31 h7)) rfl ?_;(iterate 6 refine sp ?_);refine WP.seq ?_;(iterate 4 refine sp ?_);refine cq H (fun hb9 H=>?_) fun hb9 H=>?_
     · (iterate 6 refine sp ?_);have q0:=j1 H;subst q0;exact wq [0,1,2] (Then.r (InBlock.r (Then.r r3)))
     (iterate 7 refine sp ?_);obtain ⟨x32,h8,H⟩:=bnd H;refine sn (nm_int h8) ?_;(iterate 2 refine sp ?_);refine WP.seq ?_;(iterate 5 refine sp ?_);obtain ⟨x33,h9,H⟩:=bnd H;refine sn (nm_int h9) ?_;(iterate 2 refine sp ?_);refine cq H (fun hb10 H=>?_) fun hb10 H=>?_
     · (iterate 5 refine sp ?_);have q0:=j1 H;subst q0;exact wq [0,1,2] (Then.r (InBlock.r (Then.r r3)))
     (iterate 7 refine sp ?_);refine WP.cv (Cv.weak (E':=(((((((Env.none.upd 0 (.ptr 0 0)).upd 2 (.lit (.int .i64 x3))).upd 4 (.ptr 3 0)).upd 8 (.whole 4)).upd 13 (.lit (.int .i64 x23))).upd 15 (.lit (.int .i64 x32))).upd 16 (.lit (.int .i64 0)))) (M':=(((((Mem.nil.push (.cells 49 [.ptr 1 0,.whole 2,.lit (.int .i64 x4)])).push (.cells 47 [.ro (Rd.slice (Rd.int .u8)) false x5,.lit (.int .i64 x31)])).push (.row 5 (Rd.int .u8) x7)).push (.cells 88 [.ro (Rd.slice (Rd.int .i64)) false x1,.ro (Rd.slice (Rd.int .u32)) false x2])).push (.row 3 (Rd.int .i64) x16))) [0,1,2,3,4] hnp ⟨rfl,AA5,by decide,rfl,BB2⟩ (LeE.u (LeE.u (LeE.u (LeE.u (LeE.u (LeE.u (LeE.u (LeE.none rfl rfl))))))))) ?_;obtain ⟨x34,H6,H⟩:=bnd H;refine mo (.exit 2) ((((Env.none.upd 0 (.ptr 0 0)).upd 2 (.lit (.int .i64 x3))).upd 4 (.ptr 3 0)).upd 8 (.whole 4)) (((((Mem.nil.push (.cells 49 [.ptr 1 0,.whole 2,.lit (.int .i64 x4)])).push (.cells 47 [.ro (Rd.slice (Rd.int .u8)) false x5,.lit (.int .i64 x31)])).push (.row 5 (Rd.int .u8) x7)).push (.cells 88 [.ro (Rd.slice (Rd.int .i64)) false x1,.ro (Rd.slice (Rd.int .u32)) false x2])).push (.row 3 (Rd.int .i64) x34)) ?_ ?_
     · refine WP.loop (β:=Int × (List Int)) (fun n b=>g_quireref03_stream_row_l1 k x23 x32 n b.1 b.2=some x34) (fun b=>(((((((Env.none.upd 0 (.ptr 0 0)).upd 2 (.lit (.int .i64 x3))).upd 4 (.ptr 3 0)).upd 8 (.whole 4)).upd 13 (.lit (.int .i64 x23))).upd 15 (.lit (.int .i64 x32))).upd 16 (.lit (.int .i64 b.1)))) (fun b=>(((((Mem.nil.push (.cells 49 [.ptr 1 0,.whole 2,.lit (.int .i64 x4)])).push (.cells 47 [.ro (Rd.slice (Rd.int .u8)) false x5,.lit (.int .i64 x31)])).push (.row 5 (Rd.int .u8) x7)).push (.cells 88 [.ro (Rd.slice (Rd.int .i64)) false x1,.ro (Rd.slice (Rd.int .u32)) false x2])).push (.row 3 (Rd.int .i64) b.2))) k (0,x16) H6 rfl rfl ?_;rintro n ⟨x35,x36⟩ H;obtain _ | n:=n
       · exact nf rfl H
       rw [g_quireref03_stream_row_l1.eq_2] at H;show WP _ _ _ _ (((((((Env.none.upd 0 (.ptr 0 0)).upd 2 (.lit (.int .i64 x3))).upd 4 (.ptr 3 0)).upd 8 (.whole 4)).upd 13 (.lit (.int .i64 x23))).upd 15 (.lit (.int .i64 x32))).upd 16 (.lit (.int .i64 x35))) (((((Mem.nil.push (.cells 49 [.ptr 1 0,.whole 2,.lit (.int .i64 x4)])).push (.cells 47 [.ro (Rd.slice (Rd.int .u8)) false x5,.lit (.int .i64 x31)])).push (.row 5 (Rd.int .u8) x7)).push (.cells 88 [.ro (Rd.slice (Rd.int .i64)) false x1,.ro (Rd.slice (Rd.int .u32)) false x2])).push (.row 3 (Rd.int .i64) x36)) _;refine WP.seq ?_;(iterate 5 refine sp ?_);refine cq H (fun hb11 H=>?_) fun hb11 H=>?_
       · (iterate 3 refine sp ?_);refine WP.seq ?_;(iterate 4 refine sp ?_);refine WPL.d (d_buildSlice (ds:=([x23]:List Int)) (R:=(Rd.int .i64)) li66 rfl rfl rfl rfl rfl (JoinRows.cons1 Joins.sc rfl JoinRows.nil) rfl rfl) rfl ?_;obtain ⟨h10,H⟩:=grd H;refine WPL.d (d_append ap66 rfl rfl rfl rfl (src_row sl66 rfl rfl) h10 rfl) rfl ?_;refine sp ?_;refine WPL.nilW ?_;refine sp ?_;refine InBlock.n ?_;(iterate 5 refine sp ?_);refine WPL.nilW ?_;exact wq [0,1,2,3,6] (Then.n ⟨n,((IntKind.wrap .i64 (x35+1)),(x36++([x23]:List Int))),Nat.lt_succ_self n,H,rfl,rfl⟩)
       refine sp ?_;have q0:=j1 H;subst q0;exact wq [0,1,2,3,4] (Then.x (Then.x r3))
     exact wq [0,1,2,3,4] (InBlock.x0 (InBlock.n (Then.n ⟨n,(x31,x34),Nat.lt_succ_self n,H,rfl,rfl⟩)))
   refine sp ?_;have q0:=j1 H;subst q0;exact wq [0,1,2,4] (Then.x (Then.x r3))
 rcases y1 with ⟨x11,x12⟩ | ⟨x13,x14⟩
 · rintro _ _ _ ⟨rfl,rfl,rfl⟩;refine W.cv (Cv.nilRo (Rd.int .i64) false 6 rfl) rfl ?_;obtain ⟨rfl,rfl,rfl⟩:=j3 H;exact W.now (InBlock.r (Then.r (mb [0,1,2])))
 rintro _ _ _ ⟨rfl,rfl,rfl⟩;(iterate 9 refine sp ?_);refine W.cv (Cv.frzRow (i:=3) rfl rfl hnp rfl rfl) rfl ?_;obtain ⟨rfl,rfl,rfl⟩:=j3 H;exact W.now (mb [0,1,2])
theorem s_quireref03_stream_dynamic (k:Nat) (x1:Int) (x2:(List Int)) (x3:Int) (x4:(List Int)) (x5:Int) (x6:Int) (x7:(List Int)) (H:g_quireref03_stream_dynamic k x1 x2 x3 x4=some (x5,x6,x7)):Go.Q.Spec Try.prog 48 2 [.ptr 0 0] (((Mem.nil.push (.cells 49 [.ptr 1 0,.whole 2,.lit (.int .i64 x1)])).push (.cells 47 [.ro (Rd.slice (Rd.int .u8)) false x2,.lit (.int .i64 x3)])).push (.row 5 (Rd.int .u8) x4)) (fun o M=>o=.ret (.lit (.int .i64 x5))∧M=(((Mem.nil.push (.cells 49 [.ptr 1 0,.whole 2,.lit (.int .i64 x1)])).push (.cells 47 [.ro (Rd.slice (Rd.int .u8)) false x2,.lit (.int .i64 x6)])).push (.row 5 (Rd.int .u8) x7))):=by
 unfold g_quireref03_stream_dynamic at H;refine bo Try.func48 [] [.tmp 2] 140 fun cx hnp=>?_;(iterate 8 refine sp ?_);obtain ⟨⟨x8,x9,x10⟩,h1,H⟩:=bnd H;refine WPL.c (rc [1] [1] 3 [] (s_quireref01_Reader_Take k 5 x2 x3 x8 x9 x10 h1)) rfl ?_;(iterate 6 refine sp ?_);refine WP.seq ?_;(iterate 4 refine sp ?_);refine cq H (fun hb1 H=>?_) fun hb1 H=>?_
 · (iterate 5 refine sp ?_);obtain ⟨rfl,rfl,rfl⟩:=j3 H;exact W.now (Then.r (mb [0,1,2]))
 (iterate 8 refine sp ?_);obtain ⟨⟨x11,x12,x13⟩,h2,H⟩:=bnd H;refine WPL.c (rc [1] [1] 3 [] (s_quireref01_Reader_Take k 5 x2 x10 x11 x12 x13 h2)) rfl ?_;(iterate 6 refine sp ?_);refine WP.seq ?_;(iterate 4 refine sp ?_);refine cq H (fun hb2 H=>?_) fun hb2 H=>?_
 · (iterate 5 refine sp ?_);obtain ⟨rfl,rfl,rfl⟩:=j3 H;exact W.now (Then.r (mb [0,1,2]))
 (iterate 8 refine sp ?_);obtain ⟨⟨x14,x15,x16⟩,h3,H⟩:=bnd H;refine WPL.c (rc [1] [1] 3 [] (s_quireref01_Reader_Take k 4 x2 x13 x14 x15 x16 h3)) rfl ?_;(iterate 6 refine sp ?_);refine WP.seq ?_;(iterate 4 refine sp ?_);refine cq H (fun hb3 H=>?_) fun hb3 H=>?_
 · (iterate 5 refine sp ?_);obtain ⟨rfl,rfl,rfl⟩:=j3 H;exact W.now (Then.r (mb [0,1,2]))
 (iterate 6 refine sp ?_);obtain ⟨x17,h4,H⟩:=bnd H;refine sn (nm_int h4) ?_;(iterate 2 refine sp ?_);obtain ⟨x18,h5,H⟩:=bnd H;refine sn (nm_int h5) ?_;(iterate 3 refine sp ?_);refine WP.seq ?_;refine WP.seq ?_;obtain ⟨x19,H1,H⟩:=bnd H;refine mo .normal (((((Env.none.upd 0 (.ptr 0 0)).upd 6 (.lit (.int .u32 x14))).upd 7 (.lit (.int .i64 x17))).upd 8 (.lit (.int .i64 x18))).upd 63 (.lit (.bool x19))) (((Mem.nil.push (.cells 49 [.ptr 1 0,.whole 2,.lit (.int .i64 x1)])).push (.cells 47 [.ro (Rd.slice (Rd.int .u8)) false x2,.lit (.int .i64 x16)])).push (.row 5 (Rd.int .u8) x4)) ?_ ?_
 · clear H;have H:=H1;clear H1;(iterate 4 refine sp ?_);refine ws 60 H (fun hb4 H=>?_) fun hb4 H=>?_
   · (iterate 3 refine sp ?_);refine WPL.nilW ?_;have q0:=j1 H;subst q0;exact wq [0,1,2]
   (iterate 3 refine sp ?_);refine WPL.nilW ?_;have q0:=j1 H;subst q0;exact wq [0,1,2]
 (iterate 2 refine sp ?_);refine cq H (fun hb5 H=>?_) fun hb5 H=>?_
 · (iterate 4 refine sp ?_);obtain ⟨rfl,rfl,rfl⟩:=j3 H;exact W.now (Then.r (mb [0,1,2]))
 (iterate 4 refine sp ?_);obtain ⟨_,h6,H⟩:=bnd H;refine WPL.c (rc [] [] 3 [] (s_quireref03_Order k h6)) rfl ?_;(iterate 3 refine sp ?_);obtain ⟨h7,H⟩:=grd H;refine WPL.d (d_make (d:=(0:Int)) (R:=(Rd.int .i64)) li66 by3 rfl rfl rfl Joins.sc rfl rfl h7 rfl) rfl ?_;(iterate 2 refine sp ?_);refine WP.seq ?_;(iterate 4 refine sp ?_);refine WP.cv (Cv.weak (E':=(((((((Env.none.upd 0 (.ptr 0 0)).upd 6 (.lit (.int .u32 x14))).upd 7 (.lit (.int .i64 x17))).upd 8 (.lit (.int .i64 x18))).upd 9 (.ro (Rd.slice (Rd.int .i64)) false ([16,17,18,0,8,7,9,6,10,5,11,4,12,3,13,2,14,1,15]:List Int))).upd 10 (.whole 3)).upd 11 (.lit (.int .i64 0)))) (M':=((((Mem.nil.push (.cells 49 [.ptr 1 0,.whole 2,.lit (.int .i64 x1)])).push (.cells 47 [.ro (Rd.slice (Rd.int .u8)) false x2,.lit (.int .i64 x16)])).push (.row 5 (Rd.int .u8) x4)).push (.row 3 (Rd.int .i64) (List.replicate (Int.toNat 19) (0:Int))))) [0,1,2,3] hnp ⟨rfl,AA4,by decide,rfl,BB2⟩ (LeE.u (LeE.u (LeE.u (LeE.u (LeE.u (LeE.u (LeE.u (LeE.none rfl rfl))))))))) ?_;obtain ⟨y1,H2,H⟩:=bnd H;refine WP.monoW (Q:=fun x E M=>match (generalizing:=false) y1 with | (Sum.inl (x20,x21))=>x=.ret∧E=(Env.none.upd 2 (.lit (.int .i64 x20)))∧M=(((Mem.nil.push (.cells 49 [.ptr 1 0,.whole 2,.lit (.int .i64 x1)])).push (.cells 47 [.ro (Rd.slice (Rd.int .u8)) false x2,.lit (.int .i64 x21)])).push (.row 5 (Rd.int .u8) x4)) | (Sum.inr (x22,x23))=>x=.exit 0∧E=((((Env.none.upd 0 (.ptr 0 0)).upd 7 (.lit (.int .i64 x17))).upd 8 (.lit (.int .i64 x18))).upd 10 (.whole 3))∧M=((((Mem.nil.push (.cells 49 [.ptr 1 0,.whole 2,.lit (.int .i64 x1)])).push (.cells 47 [.ro (Rd.slice (Rd.int .u8)) false x2,.lit (.int .i64 x22)])).push (.row 5 (Rd.int .u8) x4)).push (.row 3 (Rd.int .i64) x23))) ?_ ?_
 · refine WP.loop (β:=Int × Int × (List Int)) (fun n b=>g_quireref03_stream_dynamic_l0 k x2 x14 n b.1 b.2.1 b.2.2=some y1) (fun b=>(((((((Env.none.upd 0 (.ptr 0 0)).upd 6 (.lit (.int .u32 x14))).upd 7 (.lit (.int .i64 x17))).upd 8 (.lit (.int .i64 x18))).upd 9 (.ro (Rd.slice (Rd.int .i64)) false ([16,17,18,0,8,7,9,6,10,5,11,4,12,3,13,2,14,1,15]:List Int))).upd 10 (.whole 3)).upd 11 (.lit (.int .i64 b.1)))) (fun b=>((((Mem.nil.push (.cells 49 [.ptr 1 0,.whole 2,.lit (.int .i64 x1)])).push (.cells 47 [.ro (Rd.slice (Rd.int .u8)) false x2,.lit (.int .i64 b.2.1)])).push (.row 5 (Rd.int .u8) x4)).push (.row 3 (Rd.int .i64) b.2.2))) k (0,x16,(List.replicate (Int.toNat 19) (0:Int))) H2 rfl rfl ?_;rintro n ⟨x24,x25,x26⟩ H;obtain _ | n:=n
   · exact nf rfl H
   rw [g_quireref03_stream_dynamic_l0.eq_2] at H;show WP _ _ _ _ (((((((Env.none.upd 0 (.ptr 0 0)).upd 6 (.lit (.int .u32 x14))).upd 7 (.lit (.int .i64 x17))).upd 8 (.lit (.int .i64 x18))).upd 9 (.ro (Rd.slice (Rd.int .i64)) false ([16,17,18,0,8,7,9,6,10,5,11,4,12,3,13,2,14,1,15]:List Int))).upd 10 (.whole 3)).upd 11 (.lit (.int .i64 x24))) ((((Mem.nil.push (.cells 49 [.ptr 1 0,.whole 2,.lit (.int .i64 x1)])).push (.cells 47 [.ro (Rd.slice (Rd.int .u8)) false x2,.lit (.int .i64 x25)])).push (.row 5 (Rd.int .u8) x4)).push (.row 3 (Rd.int .i64) x26)) _;refine WP.seq ?_;(iterate 4 refine sp ?_);obtain ⟨x27,h8,H⟩:=bnd H;refine sn (nm_int h8) ?_;(iterate 2 refine sp ?_);refine cq H (fun hb6 H=>?_) fun hb6 H=>?_
   · (iterate 3 refine sp ?_);refine WP.seq ?_;(iterate 6 refine sp ?_);obtain ⟨⟨x28,x29,x30⟩,h9,H⟩:=bnd H;refine WPL.c (rc [1] [1] 4 [] (s_quireref01_Reader_Take k 3 x2 x25 x28 x29 x30 h9)) rfl ?_;(iterate 6 refine sp ?_);refine WP.seq ?_;(iterate 4 refine sp ?_);refine cq H (fun hb7 H=>?_) fun hb7 H=>?_
     · (iterate 5 refine sp ?_);have q0:=j1 H;subst q0;exact wq [0,1,2] (Then.r (InBlock.r (Then.r (Then.r r3))))
     (iterate 7 refine sp ?_);obtain ⟨x31,h10,H⟩:=bnd H;(iterate 4 refine sp ?_);obtain ⟨x32,h11,H⟩:=bnd H;refine WPL.qq (q_index_row sl66 rfl rfl rfl (ixs h11)) ?_;refine WPL.s (s_store_row (j:=(Int.toNat x31)) (d:=(IntKind.wrap .i64 x28)) sz3 rfl rfl rfl rfl Joins.sc (ixl h11)) ?_;refine WPL.nilW ?_;refine sp ?_;refine InBlock.n ?_;(iterate 5 refine sp ?_);refine WPL.nilW ?_;exact wq [0,1,2,3] (Then.n ⟨n,((IntKind.wrap .i64 (x24+1)),x30,(List.set x26 (Int.toNat x31) (IntKind.wrap .i64 x28))),Nat.lt_succ_self n,H,rfl,rfl⟩)
   refine sp ?_;have q0:=j1 H;subst q0;exact wq [0,1,2,3] (Then.x (Then.x r3))
 rcases y1 with ⟨x20,x21⟩ | ⟨x22,x23⟩
 · rintro _ _ _ ⟨rfl,rfl,rfl⟩;obtain ⟨rfl,rfl,rfl⟩:=j3 H;exact W.now (InBlock.r (Then.r (mb [0,1,2])))
 rintro _ _ _ ⟨rfl,rfl,rfl⟩;(iterate 3 refine sp ?_);refine WP.seq ?_;(iterate 2 refine sp ?_);obtain ⟨x33,h12,H⟩:=bnd H;refine WPL.c (rc [] [] 4 [3] (s_quireref02_Full k x23 x33 h12)) rfl ?_;(iterate 2 refine sp ?_);refine cq H (fun hb8 H=>?_) fun hb8 H=>?_
 · (iterate 4 refine sp ?_);obtain ⟨rfl,rfl,rfl⟩:=j3 H;exact W.now (Then.r (mb [0,1,2]))
 (iterate 5 refine sp ?_);obtain ⟨⟨x34,x35⟩,h13,H⟩:=bnd H;refine WPL.cv (Cv.frzRow (i:=3) rfl rfl hnp rfl rfl) ?_;refine WPL.c (rc [] [4] 5 [] (s_quireref03_coded k x23 x34 x35 h13)) rfl ?_;(iterate 13 refine sp ?_);obtain ⟨⟨x36,x37,x38⟩,h14,H⟩:=bnd H;refine WPL.c (rc [0,1,2] [0,1,6] 7 [] (s_quireref03_stream_row k x23 x35 (IntKind.wrap .i64 (x17+x18)) x1 x2 x22 x4 x36 x37 x38 h14) (hargs:=.ren rfl rfl (.ren rfl rfl (.ren rfl rfl .nil)))) rfl ?_;(iterate 6 refine sp ?_);refine WP.seq ?_;(iterate 4 refine sp ?_);refine cq H (fun hb9 H=>?_) fun hb9 H=>?_
 · (iterate 5 refine sp ?_);obtain ⟨rfl,rfl,rfl⟩:=j3 H;exact W.now (Then.r (mb [0,1,6]))
 (iterate 3 refine sp ?_);refine WP.seq ?_;(iterate 2 refine sp ?_);obtain ⟨x39,h15,H⟩:=bnd H;(iterate 4 refine sp ?_);refine cq H (fun hb10 H=>?_) fun hb10 H=>?_
 · (iterate 4 refine sp ?_);obtain ⟨rfl,rfl,rfl⟩:=j3 H;exact W.now (Then.r (mb [0,1,6]))
 (iterate 6 refine sp ?_);obtain ⟨h16,H⟩:=grd H;refine WPL.qq (q_slice_ro (i:=0) (j:=x17) sl66 rfl rfl rfl ⟨_,rfl⟩ h16) ?_;obtain ⟨⟨x40,x41⟩,h17,H⟩:=bnd H;refine WPL.c (rc [] [7] 8 [] (s_quireref03_coded k (List.drop (Int.toNat 0) (List.take (Int.toNat x17) x36)) x40 x41 h17)) rfl ?_;(iterate 7 refine sp ?_);refine WP.seq ?_;(iterate 4 refine sp ?_);refine cq H (fun hb11 H=>?_) fun hb11 H=>?_
 · (iterate 5 refine sp ?_);obtain ⟨rfl,rfl,rfl⟩:=j3 H;exact W.now (Then.r (mb [0,1,6]))
 (iterate 6 refine sp ?_);obtain ⟨h18,H⟩:=grd H;refine WPL.qq (q_slice_ro (i:=x17) (j:=((List.length x36:Nat):Int)) sl66 rfl rfl ⟨_,rfl⟩ rfl h18) ?_;obtain ⟨⟨x42,x43⟩,h19,H⟩:=bnd H;refine WPL.c (rc [] [9] 10 [] (s_quireref03_coded k (List.drop (Int.toNat x17) (List.take (Int.toNat ((List.length x36:Nat):Int)) x36)) x42 x43 h19)) rfl ?_;(iterate 7 refine sp ?_);refine WP.seq ?_;(iterate 4 refine sp ?_);refine cq H (fun hb12 H=>?_) fun hb12 H=>?_
 · (iterate 5 refine sp ?_);obtain ⟨rfl,rfl,rfl⟩:=j3 H;exact W.now (Then.r (mb [0,1,6]))
 (iterate 7 refine sp ?_);obtain ⟨⟨x44,x45,x46⟩,h20,H⟩:=bnd H;refine WPL.c (rc [0,1,6] [0,1,11] 12 [] (s_quireref03_stream_symbols k (List.drop (Int.toNat 0) (List.take (Int.toNat x17) x36)) x41 (List.drop (Int.toNat x17) (List.take (Int.toNat ((List.length x36:Nat):Int)) x36)) x43 x1 x2 x38 x4 x44 x45 x46 h20) (hargs:=.ren rfl rfl (.ren rfl rfl (.ren rfl rfl .nil)))) rfl ?_;(iterate 3 refine sp ?_);obtain ⟨rfl,rfl,rfl⟩:=j3 H;exact W.now (mb [0,1,11])
theorem s_quireref03_stream_block (k:Nat) (x1:Int) (x2:Int) (x3:(List Int)) (x4:Int) (x5:(List Int)) (x6:Int) (x7:Int) (x8:(List Int)) (H:g_quireref03_stream_block k x1 x2 x3 x4 x5=some (x6,x7,x8)):Go.Q.Spec Try.prog 20 2 [.ptr 0 0,.lit (.int .u32 x1)] (((Mem.nil.push (.cells 49 [.ptr 1 0,.whole 2,.lit (.int .i64 x2)])).push (.cells 47 [.ro (Rd.slice (Rd.int .u8)) false x3,.lit (.int .i64 x4)])).push (.row 5 (Rd.int .u8) x5)) (fun o M=>o=.ret (.lit (.int .i64 x6))∧M=(((Mem.nil.push (.cells 49 [.ptr 1 0,.whole 2,.lit (.int .i64 x2)])).push (.cells 47 [.ro (Rd.slice (Rd.int .u8)) false x3,.lit (.int .i64 x7)])).push (.row 5 (Rd.int .u8) x8))):=by
 unfold g_quireref03_stream_block at H;refine bo Try.func20 [] [.tmp 4] 34 fun cx hnp=>?_;(iterate 3 refine sp ?_);refine WP.seq ?_;(iterate 8 refine sp ?_);refine cq H (fun hb1 H=>?_) fun hb1 H=>?_
 · (iterate 2 refine sp ?_);obtain ⟨⟨x9,x10,x11⟩,h1,H⟩:=bnd H;refine WPL.c (rc [0,1,2] [0,1,3] 4 [] (s_quireref03_stream_stored k x2 x3 x4 x5 x9 x10 x11 h1)) rfl ?_;(iterate 3 refine sp ?_);obtain ⟨rfl,rfl,rfl⟩:=j3 H;exact W.now (InBlock.r (Then.r (mb [0,1,3])))
 (iterate 4 refine sp ?_);refine cq H (fun hb2 H=>?_) fun hb2 H=>?_
 · refine sp ?_;obtain ⟨x12,h2,H⟩:=bnd H;refine WPL.c (rc [] [] 3 [] (s_quireref03_FixedLit k x12 h2)) rfl ?_;obtain ⟨⟨x13,x14⟩,h3,H⟩:=bnd H;refine WPL.c (rc [] [3] 4 [] (s_quireref03_coded k x12 x13 x14 h3)) rfl ?_;(iterate 8 refine sp ?_);obtain ⟨x15,h4,H⟩:=bnd H;refine WPL.c (rc [] [] 5 [] (s_quireref03_FixedDist k x15 h4)) rfl ?_;obtain ⟨⟨x16,x17⟩,h5,H⟩:=bnd H;refine WPL.c (rc [] [5] 6 [] (s_quireref03_coded k x15 x16 x17 h5)) rfl ?_;(iterate 11 refine sp ?_);obtain ⟨⟨x18,x19,x20⟩,h6,H⟩:=bnd H;refine WPL.c (rc [0,1,2] [0,1,7] 8 [] (s_quireref03_stream_symbols k x12 x14 x15 x17 x2 x3 x4 x5 x18 x19 x20 h6) (hargs:=.ren rfl rfl (.ren rfl rfl (.ren rfl rfl .nil)))) rfl ?_;(iterate 3 refine sp ?_);obtain ⟨rfl,rfl,rfl⟩:=j3 H;exact W.now (InBlock.r (Then.r (mb [0,1,7])))
 (iterate 4 refine sp ?_);refine cq H (fun hb3 H=>?_) fun hb3 H=>?_
 · (iterate 2 refine sp ?_);obtain ⟨⟨x21,x22,x23⟩,h7,H⟩:=bnd H;refine WPL.c (rc [0,1,2] [0,1,3] 4 [] (s_quireref03_stream_dynamic k x2 x3 x4 x5 x21 x22 x23 h7)) rfl ?_;(iterate 3 refine sp ?_);obtain ⟨rfl,rfl,rfl⟩:=j3 H;exact W.now (InBlock.r (Then.r (mb [0,1,3])))
 (iterate 2 refine sp ?_);refine InBlock.n ?_;(iterate 5 refine sp ?_);obtain ⟨rfl,rfl,rfl⟩:=j3 H;exact W.now (mb [0,1,2])
theorem s_quireref03_Inflate (k:Nat) (x1:(List Int)) (x2:Int) (x3:(List Int)) (x4:Int) (x5:Int) (H:g_quireref03_Inflate k x1 x2=some (x3,x4,x5)):Go.Q.Spec Try.prog 9 0 [.ro (Rd.slice (Rd.int .u8)) false x1,.lit (.int .i64 x2)] Mem.nil (fun o M=>o=.ret (.tup [.ro (Rd.slice (Rd.int .u8)) false x3,.lit (.int .i64 x4),.lit (.int .i64 x5)])∧M=Mem.nil):=by
 unfold g_quireref03_Inflate at H;refine bo Try.func9 [] [.tmp 4,.tmp 5,.tmp 6] 62 fun cx hnp=>?_;(iterate 5 refine sp ?_);refine WP.seq ?_;(iterate 4 refine sp ?_);refine cq H (fun hb1 H=>?_) fun hb1 H=>?_
 · (iterate 6 refine sp ?_);refine W.cv (Cv.nilRo (Rd.int .u8) false 4 rfl) rfl ?_;obtain ⟨rfl,rfl,rfl⟩:=j3 H;exact W.now (Then.r (mb []))
 (iterate 10 refine sp ?_);refine WPL.cv (Cv.virC 5 (Rd.int .u8) (N:=2) rfl (i:=1) rfl (off:=1) rfl rfl) ?_;(iterate 3 refine sp ?_);refine WP.cv (Cv.weak (E':=(Env.none.upd 7 (.ptr 0 0))) (M':=(((Mem.nil.push (.cells 49 [.ptr 1 0,.whole 2,.lit (.int .i64 x2)])).push (.cells 47 [.ro (Rd.slice (Rd.int .u8)) false x1,.lit (.int .i64 0)])).push (.row 5 (Rd.int .u8) ([]:List Int)))) [1,0,2] hnp ⟨rfl,AA3,by decide,rfl,trivial⟩ (LeE.u (LeE.none rfl rfl))) ?_;obtain ⟨⟨x6,x7,x8⟩,H1,H⟩:=bnd H;refine mo .ret (((Env.none.upd 4 (.whole 0)).upd 5 (.lit (.int .i64 x6))).upd 6 (.lit (.int .i64 x7))) (Mem.nil.push (.row 5 (Rd.int .u8) x8)) ?_ ?_
 · refine WP.loop (β:=Int × (List Int)) (fun n b=>g_quireref03_Inflate_l0 k x1 x2 n b.1 b.2=some (x6,x7,x8)) (fun b=>(Env.none.upd 7 (.ptr 0 0))) (fun b=>(((Mem.nil.push (.cells 49 [.ptr 1 0,.whole 2,.lit (.int .i64 x2)])).push (.cells 47 [.ro (Rd.slice (Rd.int .u8)) false x1,.lit (.int .i64 b.1)])).push (.row 5 (Rd.int .u8) b.2))) k (0,([]:List Int)) H1 rfl rfl ?_;rintro n ⟨x9,x10⟩ H;obtain _ | n:=n
   · exact nf rfl H
   rw [g_quireref03_Inflate_l0.eq_2] at H;show WP _ _ _ _ (Env.none.upd 7 (.ptr 0 0)) (((Mem.nil.push (.cells 49 [.ptr 1 0,.whole 2,.lit (.int .i64 x2)])).push (.cells 47 [.ro (Rd.slice (Rd.int .u8)) false x1,.lit (.int .i64 x9)])).push (.row 5 (Rd.int .u8) x10)) _;(iterate 6 refine sp ?_);obtain ⟨⟨x11,x12,x13⟩,h1,H⟩:=bnd H;refine WPL.c (rc [1] [1] 3 [] (s_quireref01_Reader_Take k 1 x1 x9 x11 x12 x13 h1)) rfl ?_;(iterate 6 refine sp ?_);refine WP.seq ?_;(iterate 4 refine sp ?_);refine cq H (fun hb2 H=>?_) fun hb2 H=>?_
   · (iterate 7 refine sp ?_);refine W.cv (Cv.vir 5 (Rd.int .u8) (N:=3) rfl 4 rfl) rfl ?_;obtain ⟨rfl,rfl,rfl⟩:=j3 H;exact wq [3] (Then.r (InBlock.r (Then.r r3)))
   (iterate 8 refine sp ?_);obtain ⟨⟨x14,x15,x16⟩,h2,H⟩:=bnd H;refine WPL.c (rc [1] [1] 3 [] (s_quireref01_Reader_Take k 2 x1 x13 x14 x15 x16 h2)) rfl ?_;(iterate 6 refine sp ?_);refine WP.seq ?_;(iterate 4 refine sp ?_);refine cq H (fun hb3 H=>?_) fun hb3 H=>?_
   · (iterate 7 refine sp ?_);refine W.cv (Cv.vir 5 (Rd.int .u8) (N:=3) rfl 4 rfl) rfl ?_;obtain ⟨rfl,rfl,rfl⟩:=j3 H;exact wq [3] (Then.r (InBlock.r (Then.r r3)))
   (iterate 3 refine sp ?_);refine WP.seq ?_;(iterate 3 refine sp ?_);obtain ⟨⟨x17,x18,x19⟩,h3,H⟩:=bnd H;refine WPL.c (rc [0,1,2] [0,1,3] 4 [] (s_quireref03_stream_block k x14 x2 x1 x16 x10 x17 x18 x19 h3)) rfl ?_;(iterate 6 refine sp ?_);refine cq H (fun hb4 H=>?_) fun hb4 H=>?_
   · (iterate 7 refine sp ?_);refine W.cv (Cv.vir 5 (Rd.int .u8) (N:=4) rfl 4 rfl) rfl ?_;obtain ⟨rfl,rfl,rfl⟩:=j3 H;exact wq [4] (Then.r (InBlock.r (Then.r r3)))
   (iterate 7 refine sp ?_);refine cq H (fun hb5 H=>?_) fun hb5 H=>?_
   · refine WP.seq ?_;refine WP.regionD' 16 [0,1] [] mixed rfl ?_;refine dT 0 ?_;refine dT 1 ?_;refine dT 2 ?_;refine dT 4 ?_;refine dT 5 ?_;refine dT 6 ?_;refine dK 3 ?_;refine dT 13 ?_;refine dK 7 ?_;refine dT 8 ?_;refine dT 9 ?_;refine dK 10 ?_;refine dT 11 ?_;obtain ⟨x20,h4,H⟩:=bnd H;refine dT 12 ?_ rfl (q_nm aq (nm_int h4));refine dT 14 ?_;refine dT 15 ?_;refine WPD.doneW (by kernel_rfl) ?_;(iterate 3 refine sp ?_);obtain ⟨rfl,rfl,rfl⟩:=j3 H;exact wq [3] (InBlock.r (Then.r r3))
   refine sp ?_;exact wq [0,1,3] (InBlock.n (Then.n ⟨n,(x18,x19),Nat.lt_succ_self n,H,rfl,rfl⟩))
 refine W.cv (Cv.frzRow (i:=0) rfl rfl hnp rfl rfl) rfl ?_;obtain ⟨rfl,rfl,rfl⟩:=j3 H;exact W.now (InBlock.r (mb []))
theorem s_quireref04_Most (k:Nat) (x1:Int) (x2:Int) (H:g_quireref04_Most k x1=some x2):Go.Q.Spec Try.prog 11 0 [.lit (.int .i64 x1)] Mem.nil (fun o M=>o=.ret (.lit (.int .i64 x2))∧M=Mem.nil):=by
 unfold g_quireref04_Most at H;refine bo Try.func11 [] [.tmp 2] 10 fun cx hnp=>?_;(iterate 7 refine sp ?_);obtain ⟨x3,h1,H⟩:=bnd H;refine sn (nm_int h1) ?_;refine sp ?_;obtain ⟨x4,h2,H⟩:=bnd H;refine sn (nm_int h2) ?_;(iterate 4 refine sp ?_);have q0:=j1 H;subst q0;exact W.now (mb [])
set_option maxHeartbeats 40000000 in
theorem s_quirelaw04_DeflateBack (k:Nat) (x1:(List Int)) (x2:Int) (r:(Bool ⊕ ByteArray)) (H:g_quirelaw04_DeflateBack k x1 x2=some r):Go.Q.Spec Try.prog 3 0 [.ro (Rd.slice (Rd.int .u8)) false x1,.lit (.int .i64 x2)] Mem.nil (fun o M=>match (generalizing:=false) r with | (Sum.inl x3)=>o=.ret (.lit (.bool x3))∧M=Mem.nil | (Sum.inr x4)=>o=.pan (.ifc 9 (.lit (.string x4)))∧M=Mem.nil):=by
 unfold g_quirelaw04_DeflateBack at H;refine bo Try.func3 [] [.tmp 4] 81 fun cx hnp=>?_;(iterate 6 refine sp ?_);obtain ⟨y1,h1,H⟩:=bnd H;rcases y1 with ⟨x5,x6⟩ | x7
 · refine WPL.c (rc [] [] 0 [] (s_deflate_Deflate__b k x1 x2 (Sum.inl (x5,x6)) h1)) rfl ?_;(iterate 6 refine sp ?_);refine WP.seq ?_;refine WP.seq ?_;obtain ⟨x8,H1,H⟩:=bnd H;refine mo .normal ((((Env.none.upd 0 (.ro (Rd.slice (Rd.int .u8)) false x1)).upd 5 (.ro (Rd.slice (Rd.int .u8)) false x5)).upd 6 (.lit (.int .i64 x6))).upd 21 (.lit (.bool x8))) Mem.nil ?_ ?_
   · clear H;have H:=H1;clear H1;(iterate 4 refine sp ?_);refine ws 18 H (fun hb1 H=>?_) fun hb1 H=>?_
     · (iterate 3 refine sp ?_);refine WPL.nilW ?_;have q0:=j1 H;subst q0;exact wq []
     (iterate 3 refine sp ?_);refine WPL.nilW ?_;have q0:=j1 H;subst q0;exact wq []
   (iterate 2 refine sp ?_);refine cq H (fun hb2 H=>?_) fun hb2 H=>?_
   · refine WP.seq ?_;obtain ⟨y2,H2,H⟩:=bnd H;refine WP.monoW (Q:=fun x E M=>match (generalizing:=false) y2 with | (Sum.inl x9)=>x=.normal∧E=(Env.none.upd 4 (.lit (.bool x9)))∧M=Mem.nil | (Sum.inr x10)=>x=.panic (.ifc 9 (.lit (.string x10)))∧E=Env.none∧M=Mem.nil) ?_ ?_
     · clear H;have H:=H2;clear H2;(iterate 4 refine sp ?_);refine ws 24 H (fun hb3 H=>?_) fun hb3 H=>?_
       · (iterate 2 refine sp ?_);obtain ⟨x11,h2,H⟩:=bnd H;refine sn (nm_bool h2) ?_;(iterate 2 refine sp ?_);refine ws 29 H (fun hb4 H=>?_) fun hb4 H=>?_
         · obtain ⟨y3,h3,H⟩:=bnd H;rcases y3 with x12 | x13
           · refine WPL.cg rfl rfl (lb hb4) (rc [] [] 0 [] (s_quirelaw04_alive k (Sum.inl x12) h3)) rfl ?_;(iterate 2 refine sp ?_);refine WPL.nilW ?_;have q0:=j1 H;subst q0;exact wq []
           refine WPL.pgW rfl rfl (lb hb4) (runs_callP (s:=[]) (t:=[]) (N:=0) (bor:=[]) fn8 rfl (s_quirelaw04_alive k (Sum.inr x13) h3) ⟨rfl,trivial,by decide,rfl,trivial⟩ rfl trivial .nil rfl trivial rfl) ?_;have q0:=j1 H;subst q0;exact W.wkP [] hnp r3 ⟨rfl,trivial,by decide,rfl,trivial⟩ (LeE.none rfl rfl) rfl rfl
         (iterate 3 refine sp ?_);refine WPL.nilW ?_;have q0:=j1 H;subst q0;exact wq []
       (iterate 8 refine sp ?_);refine WPL.nilW ?_;have q0:=j1 H;subst q0;exact wq []
     rcases y2 with x9 | x10
     · rintro _ _ _ ⟨rfl,rfl,rfl⟩;(iterate 3 refine sp ?_);have q0:=j1 H;subst q0;exact W.now (Then.r (mb []))
     rintro _ _ _ ⟨rfl,rfl,rfl⟩;have q0:=j1 H;subst q0;exact W.now (Then.p (Then.p (BodyR.mkP trivial [] ⟨rfl,rfl⟩ ⟨rfl,trivial,by decide,rfl,trivial⟩ rfl rfl)))
   (iterate 3 refine sp ?_);refine WP.seq ?_;(iterate 3 refine sp ?_);obtain ⟨x14,h4,H⟩:=bnd H;refine sn (nm_bool h4) ?_;refine sp ?_;refine cq H (fun hb5 H=>?_) fun hb5 H=>?_
   · refine WP.seq ?_;obtain ⟨y4,H3,H⟩:=bnd H;refine WP.monoW (Q:=fun x E M=>match (generalizing:=false) y4 with | (Sum.inl x15)=>x=.normal∧E=(Env.none.upd 4 (.lit (.bool x15)))∧M=Mem.nil | (Sum.inr x16)=>x=.panic (.ifc 9 (.lit (.string x16)))∧E=Env.none∧M=Mem.nil) ?_ ?_
     · clear H;have H:=H3;clear H3;(iterate 4 refine sp ?_);refine ws 37 H (fun hb6 H=>?_) fun hb6 H=>?_
       · (iterate 2 refine sp ?_);obtain ⟨x17,h5,H⟩:=bnd H;refine sn (nm_bool h5) ?_;(iterate 2 refine sp ?_);refine ws 42 H (fun hb7 H=>?_) fun hb7 H=>?_
         · obtain ⟨y5,h6,H⟩:=bnd H;rcases y5 with x18 | x19
           · refine WPL.cg rfl rfl (lb hb7) (rc [] [] 0 [] (s_quirelaw04_alive k (Sum.inl x18) h6)) rfl ?_;(iterate 2 refine sp ?_);refine WPL.nilW ?_;have q0:=j1 H;subst q0;exact wq []
           refine WPL.pgW rfl rfl (lb hb7) (runs_callP (s:=[]) (t:=[]) (N:=0) (bor:=[]) fn8 rfl (s_quirelaw04_alive k (Sum.inr x19) h6) ⟨rfl,trivial,by decide,rfl,trivial⟩ rfl trivial .nil rfl trivial rfl) ?_;have q0:=j1 H;subst q0;exact W.wkP [] hnp r3 ⟨rfl,trivial,by decide,rfl,trivial⟩ (LeE.none rfl rfl) rfl rfl
         (iterate 3 refine sp ?_);refine WPL.nilW ?_;have q0:=j1 H;subst q0;exact wq []
       (iterate 8 refine sp ?_);refine WPL.nilW ?_;have q0:=j1 H;subst q0;exact wq []
     rcases y4 with x15 | x16
     · rintro _ _ _ ⟨rfl,rfl,rfl⟩;(iterate 3 refine sp ?_);have q0:=j1 H;subst q0;exact W.now (Then.r (mb []))
     rintro _ _ _ ⟨rfl,rfl,rfl⟩;have q0:=j1 H;subst q0;exact W.now (Then.p (Then.p (BodyR.mkP trivial [] ⟨rfl,rfl⟩ ⟨rfl,trivial,by decide,rfl,trivial⟩ rfl rfl)))
   (iterate 7 refine sp ?_);obtain ⟨⟨x20,x21,x22⟩,h7,H⟩:=bnd H;refine WPL.c (rc [] [] 0 [] (s_quireref03_Inflate k x5 ((List.length x1:Nat):Int) x20 x21 x22 h7)) rfl ?_;(iterate 8 refine sp ?_);refine WP.seq ?_;obtain ⟨y6,H4,H⟩:=bnd H;refine WP.monoW (Q:=fun x E M=>match (generalizing:=false) y6 with | (Sum.inl x23)=>x=.normal∧E=(Env.none.upd 4 (.lit (.bool x23)))∧M=Mem.nil | (Sum.inr x24)=>x=.panic (.ifc 9 (.lit (.string x24)))∧E=Env.none∧M=Mem.nil) ?_ ?_
   · clear H;have H:=H4;clear H4;(iterate 4 refine sp ?_);refine ws 55 H (fun hb8 H=>?_) fun hb8 H=>?_
     · (iterate 4 refine sp ?_);refine ws 59 H (fun hb9 H=>?_) fun hb9 H=>?_
       · (iterate 3 refine sp ?_);obtain ⟨x25,h8,H⟩:=bnd H;refine sn (nm_bool h8) ?_;(iterate 2 refine sp ?_);refine ws 65 H (fun hb10 H=>?_) fun hb10 H=>?_
         · (iterate 2 refine sp ?_);obtain ⟨x26,h9,H⟩:=bnd H;refine WPL.cg rfl rfl (lb hb10) (rc [] [] 0 [] (s_quirelaw01_Same__b k x20 x1 x26 h9)) rfl ?_;(iterate 2 refine sp ?_);refine ws 70 H (fun hb11 H=>?_) fun hb11 H=>?_
           · (iterate 4 refine sp ?_);obtain ⟨x27,h10,H⟩:=bnd H;refine WPL.cg rfl rfl (lb hb11) (rc [] [] 0 [] (s_quireref04_Most k ((List.length x1:Nat):Int) x27 h10)) rfl ?_;obtain ⟨x28,h11,H⟩:=bnd H;refine sn (nm_bool h11) ?_;(iterate 2 refine sp ?_);refine ws 78 H (fun hb12 H=>?_) fun hb12 H=>?_
             · obtain ⟨y7,h12,H⟩:=bnd H;rcases y7 with x29 | x30
               · refine WPL.cg rfl rfl (lb hb12) (rc [] [] 0 [] (s_quirelaw04_alive k (Sum.inl x29) h12)) rfl ?_;(iterate 2 refine sp ?_);refine WPL.nilW ?_;have q0:=j1 H;subst q0;exact wq []
               refine WPL.pgW rfl rfl (lb hb12) (runs_callP (s:=[]) (t:=[]) (N:=0) (bor:=[]) fn8 rfl (s_quirelaw04_alive k (Sum.inr x30) h12) ⟨rfl,trivial,by decide,rfl,trivial⟩ rfl trivial .nil rfl trivial rfl) ?_;have q0:=j1 H;subst q0;exact W.wkP [] hnp r3 ⟨rfl,trivial,by decide,rfl,trivial⟩ (LeE.none rfl rfl) rfl rfl
             (iterate 3 refine sp ?_);refine WPL.nilW ?_;have q0:=j1 H;subst q0;exact wq []
           (iterate 11 refine sp ?_);refine WPL.nilW ?_;have q0:=j1 H;subst q0;exact wq []
         (iterate 16 refine sp ?_);refine WPL.nilW ?_;have q0:=j1 H;subst q0;exact wq []
       (iterate 22 refine sp ?_);refine WPL.nilW ?_;have q0:=j1 H;subst q0;exact wq []
     (iterate 26 refine sp ?_);refine WPL.nilW ?_;have q0:=j1 H;subst q0;exact wq []
   rcases y6 with x23 | x24
   · rintro _ _ _ ⟨rfl,rfl,rfl⟩;(iterate 3 refine sp ?_);have q0:=j1 H;subst q0;exact W.now (mb [])
   rintro _ _ _ ⟨rfl,rfl,rfl⟩;have q0:=j1 H;subst q0;exact W.now (Then.p (BodyR.mkP trivial [] ⟨rfl,rfl⟩ ⟨rfl,trivial,by decide,rfl,trivial⟩ rfl rfl))
 refine WPL.pW (runs_callP (s:=[]) (t:=[]) (N:=0) (bor:=[]) fn7 rfl (s_deflate_Deflate__b k x1 x2 (Sum.inr x7) h1) ⟨rfl,trivial,by decide,rfl,trivial⟩ rfl trivial (.ren rfl rfl (.ren rfl rfl .nil)) rfl trivial rfl) ?_;have q0:=j1 H;subst q0;exact W.now (Then.p (BodyR.mkP trivial [] ⟨rfl,rfl⟩ ⟨rfl,trivial,by decide,rfl,trivial⟩ rfl rfl))
def wt (x:Int):Int:=if 0<x then 2^(15 - x.toNat) else 0
def there (x:Int):Int:=if 0<x then 1 else 0
def sumW:List Int→Int
  | []=>0
  | x::l=>wt x+sumW l
def cntL:List Int→Int
  | []=>0
  | x::l=>there x+cntL l
def badX (x:Int):Prop:=x<0∨15<x
instance (x:Int):Decidable (badX x):=by unfold badX;infer_instance
def badL (l:List Int):Prop:=∃ x∈l,badX x
instance (l:List Int):Decidable (badL l):=by unfold badL;infer_instance
theorem pow15 {x:Int} (h0:0<x) (h1:x≤15):1≤(2:Int)^(15 - x.toNat)∧(2:Int)^(15 - x.toNat)≤16384:=by
  have:∃ n:Nat,x.toNat=n∧1≤n∧n≤15:=⟨x.toNat,rfl,by omega,by omega⟩
  obtain ⟨n,hn,h2,h3⟩:=this
  rw [hn]
  obtain rfl | rfl | rfl | rfl | rfl | rfl | rfl | rfl | rfl | rfl | rfl | rfl | rfl | rfl | rfl:n=1∨n=2∨n=3∨n=4∨n=5∨n=6∨n=7∨n=8∨n=9∨n=10∨n=11∨n=12∨n=13∨n=14∨n=15:=by omega
  all_goals decide
theorem wt_le {x:Int} (h:¬ badX x):0≤wt x∧wt x≤16384:=by
  unfold badX at h
  unfold wt
  split
  · have:=pow15 (x:=x) (by omega) (by omega);omega
  · omega
theorem there_le (x:Int):0≤there x∧there x≤1:=by unfold there;split <;> omega
theorem shl1 {b:Nat} (h:b≤15):shlI .i64 1 (b:Int)=2^b:=by
  obtain rfl | rfl | rfl | rfl | rfl | rfl | rfl | rfl | rfl | rfl | rfl | rfl | rfl | rfl | rfl | rfl:b=0∨b=1∨b=2∨b=3∨b=4∨b=5∨b=6∨b=7∨b=8∨b=9∨b=10∨b=11∨b=12∨b=13∨b=14∨b=15:=by omega
  all_goals rfl
theorem shlw {x:Int} (h0:0<x) (h1:x≤15):shlI .i64 1 (15 - x)=2^(15 - x.toNat):=by
  rw [show (15:Int) - x=((15 - x.toNat:Nat):Int) by omega]
  exact shl1 (by omega)
theorem drop_cons {α:Type} {l:List α} {i:Nat} (h:i<l.length):l.drop i=l[i]::l.drop (i+1):=List.drop_eq_getElem_cons h
theorem badL_cons {x:Int} {l:List Int}:badL (x::l)↔badX x∨badL l:=by simp [badL]
theorem wsucc {i:Nat} (h:i<9223372036854775807):IntKind.wrap .i64 ((i:Int)+1)=((i+1:Nat):Int):=by rw [wi (by omega) (by omega)];omega
theorem g_huff_judged_l0_eq (k:Nat) (l:List Int) (hl:l.length≤320):∀ (n i:Nat) (a m:Int),i≤l.length→l.length - i<n → -100000000+16384*((l.length:Int) - i)≤a→a≤100000000→0≤m→m≤i →
    g_huff_judged_l0 k l n a m i=some (if badL (l.drop i) then Sum.inl () else Sum.inr (a - sumW (l.drop i),m+cntL (l.drop i))):=by
  intro n
  induction n with
  | zero=>intro i a m _ h;omega
  | succ n ih =>
    intro i a m hi hn ha1 ha2 hm0 hm
    rw [g_huff_judged_l0.eq_2]
    simp only [Option.bind_some,bd]
    by_cases h:i<l.length
    · have e:ix l (i:Int)=some l[i]:=ix_nat h
      rw [if_pos (by omega),e,drop_cons h]
      simp only [Option.bind_some,badL_cons,sumW,cntL]
      generalize hx:l[i]=x
      by_cases hb:badX x
      · have hb':(if x<0 then some true else some (decide (15<x)))=some true:=by
          unfold badX at hb
          split
          · rfl
          · rw [dt (by omega)]
        rw [hb',if_pos (Or.inl hb:badX x∨badL (l.drop (i+1)))]
        rfl
      · have hb':(if x<0 then some true else some (decide (15<x)))=some false:=by
          unfold badX at hb
          rw [if_neg (by omega),df (by omega)]
        have hw:=wt_le hb
        unfold badX at hb
        rw [hb']
        simp only [Option.bind_some,bf,or_iff_right (show ¬ badX x by unfold badX;exact hb)]
        unfold wt there at *
        by_cases h0:0<x
        · rw [if_pos h0] at hw
          rw [if_pos h0,wi (n:=15 - x) (by omega) (by omega),if_pos (by omega),shlw h0 (by omega),if_pos h0,if_pos h0]
          rw [wi (n:=a - 2^(15 - x.toNat)) (by omega) (by omega),wi (n:=m+1) (by omega) (by omega),wsucc (by omega)]
          simp only [Option.bind_some]
          rw [ih (i+1) _ _ (by omega) (by omega) (by omega) (by omega) (by omega) (by omega)]
          simp only [Int.sub_sub,Int.add_assoc]
        · rw [if_neg h0,if_neg h0,if_neg h0,wsucc (by omega)]
          simp only [Option.bind_some]
          rw [ih (i+1) _ _ (by omega) (by omega) (by omega) (by omega) (by omega) (by omega)]
          simp only [Int.zero_add]
    · rw [if_neg (by omega),List.drop_of_length_le (by omega),if_neg (by simp [badL])]
      simp [sumW,cntL]
def judge (l:List Int):Bool × Int :=
  if 320<l.length then (false,1) else if badL l then (false,1) else if sumW l=32768 then (true,0) else if cntL l=0∨cntL l=1∧sumW l=16384 then (false,0) else (false,11)
theorem sumW_le:∀ {l:List Int},¬ badL l→0≤sumW l∧sumW l≤16384*(l.length:Int)
  | [],_=>by simp [sumW]
  | x::l,h=>by
    rw [badL_cons,not_or] at h
    have h1:=wt_le h.1
    have h2:=sumW_le h.2
    simp only [sumW,List.length_cons]
    omega
theorem cntL_le:∀ (l:List Int),0≤cntL l∧cntL l≤(l.length:Int)
  | []=>by simp [cntL]
  | x::l=>by
    have h1:=there_le x
    have h2:=cntL_le l
    simp only [cntL,List.length_cons]
    omega
theorem g_huff_judged_eq {k:Nat} {l:List Int} (hk:330≤k):g_huff_judged k l=some (judge l):=by
  unfold g_huff_judged judge
  simp only [Option.bind_some,bd]
  by_cases h:320<l.length
  · rw [if_pos (by omega),if_pos h]
  · rw [if_neg (by omega),if_neg h]
    have e:=g_huff_judged_l0_eq k l (by omega) k 0 32768 0 (by omega) (by omega) (by omega) (by omega) (by omega) (by omega)
    rw [List.drop_zero] at e
    have e':g_huff_judged_l0 k l k 32768 0 0=_:=e
    rw [e']
    by_cases hb:badL l
    · rw [if_pos hb,if_pos hb];rfl
    · have hs:=sumW_le hb
      rw [if_neg hb,if_neg hb]
      simp only [Option.bind_some,Int.zero_add]
      by_cases h1:sumW l=32768
      · rw [if_pos (by omega),if_pos h1]
      · rw [if_neg (by omega),if_neg h1]
        by_cases h2:cntL l=0
        · rw [if_pos h2,dt h2,if_pos (.inl h2)];rfl
        · rw [if_neg h2]
          by_cases h3:cntL l=1
          · rw [if_pos h3]
            by_cases h4:sumW l=16384
            · rw [dt (by omega),if_pos (.inr ⟨h3,h4⟩)];rfl
            · rw [df (by omega),if_neg (by omega)];rfl
          · rw [if_neg h3,if_neg (by omega)];rfl
theorem judge_ok {l:List Int} (h:(judge l).2=0):l.length≤320∧¬ badL l∧(sumW l=32768∨cntL l=0∨cntL l=1∧sumW l=16384):=by
  unfold judge at h
  by_cases h0:320<l.length
  · rw [if_pos h0] at h;cases h
  · rw [if_neg h0] at h
    by_cases hb:badL l
    · rw [if_pos hb] at h;cases h
    · rw [if_neg hb] at h
      refine ⟨by omega,hb,?_⟩
      by_cases h1:sumW l=32768
      · exact .inl h1
      · rw [if_neg h1] at h
        by_cases h2:cntL l=0∨cntL l=1∧sumW l=16384
        · exact .inr h2
        · rw [if_neg h2] at h;cases h
def codesOf (c:Int):List Int→Int→Nat→List Int→Int × List Int
  | [],nx,_,out=>(nx,out)
  | x::l,nx,i,out=>if x=c then codesOf c l (IntKind.wrap .u32 (nx+1)) (i+1) (out.set i nx) else codesOf c l nx (i+1) out
theorem codesOf_length (c:Int):∀ (l:List Int) (nx:Int) (i:Nat) (out:List Int),(codesOf c l nx i out).2.length=out.length
  | [],_,_,_=>rfl
  | x::l,nx,i,out=>by
    unfold codesOf
    split
    · rw [codesOf_length];simp
    · exact codesOf_length c l _ _ _
theorem g_huff_Codes_l1_eq (k:Nat) (l:List Int) (hl:l.length≤320) (c:Int):∀ (n i:Nat) (out:List Int) (nx:Int),out.length=l.length→i≤l.length→l.length - i<n →
    g_huff_Codes_l1 k l c n i out nx=some (Sum.inr ((codesOf c (l.drop i) nx i out).2,(codesOf c (l.drop i) nx i out).1)):=by
  intro n
  induction n with
  | zero=>intro i out nx _ _ h;omega
  | succ n ih =>
    intro i out nx ho hi hn
    rw [g_huff_Codes_l1.eq_2]
    simp only [Option.bind_some,bd]
    by_cases h:i<l.length
    · have e:ix l (i:Int)=some l[i]:=ix_nat h
      have e2:ix out (i:Int)=some (out[i]'(by omega)):=ix_nat (by omega)
      rw [if_pos (by omega),drop_cons h,e]
      simp only [Option.bind_some,e2]
      by_cases hc:l[i]=c
      · rw [if_pos hc]
        simp only [Option.bind_some,Bool.not_true,bf,Int.toNat_natCast]
        rw [wsucc (by omega),ih (i+1) _ _ (by simpa using ho) (by omega) (by omega)]
        simp only [codesOf,if_pos hc]
      · rw [if_neg hc]
        simp only [Option.bind_some,bf]
        rw [wsucc (by omega),ih (i+1) _ _ ho (by omega) (by omega)]
        simp only [codesOf,if_neg hc]
    · rw [if_neg (by omega),List.drop_of_length_le (by omega)]
      rfl
def codesFrom (l:List Int):Nat→Int→Int→List Int→List Int
  | 0,_,_,out=>out
  | m+1,c,nx,out=>codesFrom l m (c+1) (codesOf c l (shlI .u32 nx 1) 0 out).1 (codesOf c l (shlI .u32 nx 1) 0 out).2
theorem g_huff_Codes_l0_eq (k:Nat) (l:List Int) (hl:l.length≤320) (hk:330≤k):∀ (n m:Nat) (c nx:Int) (out:List Int),out.length=l.length→c+m=16→m≤15→m<n→g_huff_Codes_l0 k l n c out nx=some (codesFrom l m c nx out):=by
  intro n
  induction n with
  | zero=>intro m c nx out _ _ _ h;omega
  | succ n ih =>
    intro m c nx out ho hc h15 hm
    rw [g_huff_Codes_l0.eq_2]
    cases m with
    | zero=>rw [bd,if_neg (by omega)];rfl
    | succ m =>
      have e:=g_huff_Codes_l1_eq k l hl c k 0 out (shlI .u32 nx 1) ho (by omega) (by omega)
      rw [List.drop_zero] at e
      have e':g_huff_Codes_l1 k l c k 0 out (shlI .u32 nx 1)=_:=e
      rw [bd,if_pos (by omega),e']
      simp only [g_huff_of,Option.bind_some]
      rw [wi (by omega) (by omega),ih m (c+1) _ _ (by rw [codesOf_length];exact ho) (by omega) (by omega) (by omega)]
      rfl
def codesL (l:List Int):List Int × Int:=if (judge l).2=0 then (codesFrom l 15 1 0 (List.replicate l.length 0),0) else ([],(judge l).2)
theorem g_huff_Codes_eq {k:Nat} {l:List Int} (hk:330≤k):g_huff_Codes k l=some (codesL l):=by
  unfold g_huff_Codes codesL
  rw [g_huff_judged_eq hk]
  simp only [Option.bind_some,bnd',bd]
  by_cases h:(judge l).2=0
  · have hl:=(judge_ok h).1
    have e:=g_huff_Codes_l0_eq k l hl hk k 15 1 0 (List.replicate l.length 0) (by simp) (by omega) (by omega) (by omega)
    rw [if_pos h,if_pos h,if_pos (by omega),Int.toNat_natCast,e]
    rfl
  · rw [if_neg h,if_neg h]
abbrev cn (l:List Int) (c:Nat):Nat:=l.count (c:Int)
def hf (l:List Int):Nat→Nat
  | 0=>0
  | c+1=>if c=0 then 0 else 2*hf l c+cn l c
def sr (l:List Int):Nat→Nat
  | 0=>0
  | c+1=>if c=0 then 0 else sr l c+cn l c*2^(15 - c)
theorem hf_sr (l:List Int):∀ (c:Nat),1≤c→c≤15→2*hf l c*2^(15 - c)=sr l c
  | 0,h,_=>by omega
  | c+1,_,h=>by
    by_cases hc:c=0
    · subst hc;simp [hf,sr]
    · have ih:=hf_sr l c (by omega) (by omega)
      have e:2^(15 - c)=2*2^(15 - (c+1)):=by
        rw [show 15 - c=(15 - (c+1))+1 by omega,Nat.pow_succ];omega
      simp only [hf,sr,if_neg hc]
      rw [← ih,e]
      generalize 2^(15 - (c+1))=p
      generalize hf l c=h
      generalize cn l c=n
      rw [Nat.mul_add,Nat.add_mul]
      simp only [Nat.mul_assoc,Nat.mul_left_comm,Nat.mul_comm]
theorem sr_mono (l:List Int):∀ (b a:Nat),a≤b→sr l a≤sr l b
  | 0, a, h => by have : a = 0 := by omega
                  subst this;exact Nat.le_refl _
  | b+1,a,h=>by
    by_cases hab:a=b+1
    · subst hab;exact Nat.le_refl _
    · refine Nat.le_trans (sr_mono l b a (by omega)) ?_
      simp only [sr]
      split
      · rename_i hb;subst hb;simp [sr]
      · omega
theorem sr_cons (x:Int) (l:List Int) (hx:¬ badX x):∀ (c:Nat),c≤16→sr (x::l) c=sr l c+if 0<x∧x<c then 2^(15 - x.toNat) else 0
  | 0,_=>by unfold badX at hx;rw [if_neg (by omega)];simp [sr]
  | c+1,h=>by
    have ih:=sr_cons x l hx c (by omega)
    unfold badX at hx
    by_cases hc:c=0
    · subst hc;simp [sr];omega
    · simp only [sr,if_neg hc,ih,cn,List.count_cons]
      by_cases hxc:x=(c:Int)
      · subst hxc
        rw [if_neg (show ¬ (0<(c:Int)∧(c:Int)<(c:Int)) by omega),if_pos (show 0<(c:Int)∧(c:Int)<((c+1:Nat):Int) by omega),if_pos (show ((c:Int)==(c:Int))=true by simp),Int.toNat_natCast,Nat.add_mul]
        omega
      · rw [if_neg (show ¬ (x==(c:Int))=true by simpa using hxc),Nat.add_zero]
        by_cases h2:0<x∧x<c
        · rw [if_pos h2,if_pos (show 0<x∧x<((c+1:Nat):Int) by omega)];omega
        · rw [if_neg h2,if_neg (show ¬ (0<x∧x<((c+1:Nat):Int)) by omega)];omega
theorem sr_all:∀ {l:List Int},¬ badL l→(sr l 16:Int)=sumW l
  | [],_=>by decide
  | x::l,h=>by
    rw [badL_cons,not_or] at h
    have ih:=sr_all h.2
    have hx:=h.1
    rw [sr_cons x l hx 16 (by omega)]
    simp only [sumW,wt]
    unfold badX at hx
    by_cases h0:0<x
    · rw [if_pos ⟨h0,by omega⟩,if_pos h0,Int.natCast_add,ih,Int.natCast_pow];simp;omega
    · rw [if_neg (by omega),if_neg h0];omega
def cd (l:List Int) (i:Nat):Nat:=2*hf l (l.getD i 0).toNat+(l.take i).count (l.getD i 0)
theorem codesOf_spec (c:Int):∀ (l:List Int) (nx i:Nat) (out:List Int),nx+l.count c<4294967296→i+l.length≤out.length →
    (codesOf c l nx i out).1=((nx+l.count c:Nat):Int)∧∀ j,(codesOf c l nx i out).2[j]? = if i≤j∧l[j - i]? = some c then some ((nx+(l.take (j - i)).count c:Nat):Int) else out[j]?
  | [],nx,i,out,_,_=>by simp [codesOf]
  | x::l,nx,i,out,h,hl=>by
    unfold codesOf
    simp only [List.length_cons] at hl
    by_cases hx:x=c
    · subst hx
      simp only [List.count_cons_self] at h
      rw [if_pos rfl,show IntKind.wrap .u32 ((nx:Int)+1)=((nx+1:Nat):Int) by rw [wu32 (by omega) (by omega)];omega]
      obtain ⟨h1,h2⟩:=codesOf_spec x l (nx+1) (i+1) (out.set i nx) (by omega) (by simp;omega)
      refine ⟨by rw [h1,List.count_cons_self];omega,fun j=>?_⟩
      rw [h2]
      by_cases hij:i≤j
      · rcases Nat.eq_or_lt_of_le hij with rfl | hij'
        · rw [if_neg (by omega),if_pos (by simp)]
          simp [show i<out.length by omega]
        · have e:j - i=(j - (i+1))+1:=by omega
          rw [e,List.getElem?_cons_succ,List.take_succ_cons,List.count_cons_self]
          by_cases hc:l[j - (i+1)]? = some x
          · rw [if_pos ⟨by omega,hc⟩,if_pos ⟨hij,hc⟩];congr 2;omega
          · rw [if_neg (fun h=>hc h.2),if_neg (fun h=>hc h.2),List.getElem?_set_ne (by omega)]
      · rw [if_neg (by omega),if_neg (by omega),List.getElem?_set_ne (by omega)]
    · rw [List.count_cons_of_ne hx] at h
      rw [if_neg hx]
      obtain ⟨h1,h2⟩:=codesOf_spec c l nx (i+1) out h (by omega)
      refine ⟨by rw [h1,List.count_cons_of_ne hx],fun j=>?_⟩
      rw [h2]
      by_cases hij:i≤j
      · rcases Nat.eq_or_lt_of_le hij with rfl | hij'
        · rw [if_neg (by omega),if_neg (by simp [hx])]
        · have e:j - i=(j - (i+1))+1:=by omega
          rw [e,List.getElem?_cons_succ,List.take_succ_cons,List.count_cons_of_ne hx]
          by_cases hc:l[j - (i+1)]? = some c
          · rw [if_pos ⟨by omega,hc⟩,if_pos ⟨hij,hc⟩]
          · rw [if_neg (fun h=>hc h.2),if_neg (fun h=>hc h.2)]
      · rw [if_neg (by omega),if_neg (by omega)]
theorem shl32 {n:Nat} (h:n≤65536):shlI .u32 (n:Int) 1=((2*n:Nat):Int):=by
  show IntKind.wrap .u32 ((n:Int)*2)=_
  rw [wu32 (by omega) (by omega)]
  omega
theorem hf_le {l:List Int} (hs:sr l 16≤32768) {c:Nat} (h1:1≤c) (h15:c≤15):(2*hf l c+cn l c)*2^(15 - c)≤32768:=by
  have e:sr l (c+1)=(2*hf l c+cn l c)*2^(15 - c):=by
    simp only [sr,if_neg (show ¬ c=0 by omega),← hf_sr l c h1 h15,Nat.add_mul]
  rw [← e]
  exact Nat.le_trans (sr_mono l 16 (c+1) (by omega)) hs
theorem hf_small {l:List Int} (hs:sr l 16≤32768) {c:Nat} (h1:1≤c) (h15:c≤15):2*hf l c+cn l c≤32768:=by
  have:=hf_le hs h1 h15
  have hp:1≤2^(15 - c):=Nat.one_le_two_pow
  have:=Nat.mul_le_mul_left (2*hf l c+cn l c) hp
  omega
theorem codesFrom_spec (l:List Int) (hs:sr l 16≤32768):∀ (m c:Nat) (out:List Int),c+m=16→1≤c→out.length=l.length →
    ∀ j,(codesFrom l m c (hf l c) out)[j]? = if j<l.length∧(c:Int)≤l.getD j 0∧l.getD j 0≤15 then some (cd l j:Int) else out[j]?
  | 0,c,out,hc,_,_,j=>by
    rw [if_neg (by omega)];rfl
  | m+1,c,out,hc,h1,ho,j=>by
    have hsm:=hf_small hs h1 (by omega)
    rw [codesFrom,shl32 (by omega)]
    obtain ⟨e1,e2⟩:=codesOf_spec (c:Int) l (2*hf l c) 0 out (by show 2*hf l c+cn l c<_;omega) (by omega)
    rw [show (c:Int)+1=((c+1:Nat):Int) by omega,e1]
    have e3:2*hf l c+l.count (c:Int)=hf l (c+1):=by simp only [hf,if_neg (show ¬ c=0 by omega)]
    rw [e3,codesFrom_spec l hs m (c+1) _ (by omega) (by omega) (by rw [codesOf_length];exact ho) j,e2 j]
    simp only [Nat.zero_le,true_and,Nat.sub_zero]
    by_cases hj:j<l.length
    · have eg:l.getD j 0=l[j]:=by rw [List.getD_eq_getElem?_getD,List.getElem?_eq_getElem hj];rfl
      rw [List.getElem?_eq_getElem hj]
      by_cases hlc:l[j]=(c:Int)
      · rw [if_neg (by rw [eg];omega),if_pos (by rw [hlc]),if_pos ⟨hj,by rw [eg];omega⟩]
        simp only [cd,eg,hlc,Int.toNat_natCast]
      · rw [if_neg (show ¬ some l[j]=some (c:Int) by simpa using hlc)]
        by_cases h2:(c:Int)≤l.getD j 0∧l.getD j 0≤15
        · rw [if_pos ⟨hj,by rw [eg] at *;omega⟩,if_pos ⟨hj,h2⟩]
        · rw [if_neg (by rw [eg] at *;omega),if_neg (fun h=>h2 h.2)]
    · rw [if_neg (fun h=>hj h.1),if_neg (by rw [List.getElem?_eq_none (by omega)];simp),if_neg (fun h=>hj h.1)]
theorem codesL_get {l:List Int} (h:(judge l).2=0) {j:Nat} (hj:j<l.length) (h0:0<l[j]):(codesL l).1[j]? = some (cd l j:Int):=by
  obtain ⟨hl,hb,hk⟩:=judge_ok h
  have hs:sr l 16≤32768:=by
    have:=sr_all hb
    have h16:=(sumW_le hb).2
    rcases hk with h1 | h1 | h1
    · omega
    · have:∀ (l:List Int),cntL l=0→sumW l=0:=by
        intro l
        induction l with
        | nil=>intro _;rfl
        | cons x l ih =>
          intro h
          have h1:=there_le x
          have h2:=cntL_le l
          simp only [cntL] at h
          have h3:=ih (by omega)
          have h4:there x=0:=by omega
          unfold there at h4
          split at h4
          · omega
          · rename_i h5;simp only [sumW,wt,if_neg h5,h3];rfl
      have:=this l h1
      omega
    · omega
  unfold codesL
  rw [if_pos h]
  have hx:¬ badX l[j]:=fun hx=>hb ⟨_,List.getElem_mem hj,hx⟩
  unfold badX at hx
  have eg:l.getD j 0=l[j]:=by rw [List.getD_eq_getElem?_getD,List.getElem?_eq_getElem hj];rfl
  have:=codesFrom_spec l hs 15 1 (List.replicate l.length 0) (by omega) (by omega) (by simp) j
  rw [if_pos ⟨hj,by rw [eg];omega⟩] at this
  exact this
theorem count_take_lt {l:List Int} {i k:Nat} {c:Int} (hik:i<k) (hk:i<l.length) (hc:l[i]=c):(l.take i).count c<(l.take k).count c:=by
  have e:l.take k=l.take i++(l.take k).drop i:=by
    have:=List.take_append_drop i (l.take k)
    rw [List.take_take,Nat.min_eq_left (by omega)] at this
    exact this.symm
  rw [e,List.count_append]
  have:0<((l.take k).drop i).count c:=by
    rw [List.count_pos_iff]
    refine List.mem_iff_getElem?.2 ⟨0,?_⟩
    rw [List.getElem?_drop,List.getElem?_take_of_lt (by omega),Nat.add_zero,List.getElem?_eq_getElem hk,hc]
  omega
theorem count_take_le (l:List Int) (i:Nat) (c:Int):(l.take i).count c≤l.count c:=(List.take_sublist i l).count_le c
theorem cd_prefix {l:List Int} {i k:Nat} (hi:i<l.length) (hk:k<l.length) (hne:i≠k) (h0:0<l[i]) (hle:l[i]≤l[k]) (h15:l[k]≤15):cd l k / 2^(l[k].toNat - l[i].toNat)≠cd l i:=by
  have ei:l.getD i 0=l[i]:=by rw [List.getD_eq_getElem?_getD,List.getElem?_eq_getElem hi];rfl
  have ek:l.getD k 0=l[k]:=by rw [List.getD_eq_getElem?_getD,List.getElem?_eq_getElem hk];rfl
  unfold cd
  rw [ei,ek]
  obtain ⟨a,ha⟩:∃ a:Nat,l[i]=(a:Int):=⟨l[i].toNat,by omega⟩
  obtain ⟨b,hb⟩:∃ b:Nat,l[k]=(b:Int):=⟨l[k].toNat,by omega⟩
  rw [ha] at h0
  rw [ha,hb] at hle
  rw [hb] at h15
  rw [ha,hb]
  simp only [Int.toNat_natCast]
  by_cases hab:a=b
  · subst hab
    rw [Nat.sub_self,Nat.pow_zero,Nat.div_one]
    rcases Nat.lt_or_gt_of_ne hne with h | h
    · have:=count_take_lt h hi ha;omega
    · have:=count_take_lt h hk hb;omega
  · have hlt:a<b:=by omega
    have h1:=hf_sr l b (by omega) (by omega)
    have h2:=hf_sr l a (by omega) (by omega)
    have h3:=sr_mono l b (a+1) (by omega)
    have h4:sr l (a+1)=sr l a+cn l a*2^(15 - a):=by simp only [sr,if_neg (show ¬ a=0 by omega)]
    have h5:(l.take i).count (a:Int)+1≤cn l a:=by
      have:=count_take_lt (l:=l) (i:=i) (k:=l.length) hi hi ha
      rw [List.take_length] at this
      exact this
    have hp:2^(15 - a)=2^(b - a)*2^(15 - b):=by rw [← Nat.pow_add];congr 1;omega
    have hq:0<2^(15 - b):=Nat.two_pow_pos _
    have h6:(2*hf l a+(l.take i).count (a:Int)+1)*2^(15 - a)≤2*hf l b*2^(15 - b):=by
      rw [h1]
      refine Nat.le_trans ?_ h3
      rw [h4,← h2,← Nat.add_mul]
      exact Nat.mul_le_mul_right _ (by omega)
    have h7:(2*hf l a+(l.take i).count (a:Int)+1)*2^(b - a)≤2*hf l b:=by
      rw [hp,← Nat.mul_assoc] at h6
      exact Nat.le_of_mul_le_mul_right h6 hq
    have h8:(2*hf l a+(l.take i).count (a:Int)+1)≤(2*hf l b+(l.take k).count (b:Int)) / 2^(b - a):=by
      rw [Nat.le_div_iff_mul_le (Nat.two_pow_pos _)]
      omega
    omega
theorem shr32 {n m:Nat} (h:m≤15):shrI .u32 (n:Int) (m:Int)=((n / 2^m:Nat):Int):=by
  unfold shrI
  rw [Int.toNat_natCast,show min m IntKind.u32.bits=m by simp [IntKind.bits];omega,Int.natCast_ediv,Int.natCast_pow]
  rw [Int.fdiv_eq_ediv_of_nonneg _ (Int.pow_nonneg (by decide))]
  rfl
def okB (b:List Int):Prop:=∀ x∈b,0≤x∧x≤255
theorem byte_bit {x:Int} (h:0≤x∧x≤255) {p:Nat} (hp:p≤7):bits .and .u32 (IntKind.wrap .u32 (shrI .u8 x (p:Int))) 1=((x.toNat / 2^p%2:Nat):Int):=by
  obtain ⟨b,rfl⟩:∃ b:BitVec 8,x=(b.toNat:Int):=⟨BitVec.ofNat 8 x.toNat,by simp;omega⟩
  rw [u8_shr,u32_of_u8,show (1:Int)=((1#32).toNat:Int) from rfl,u32_and,Int.toNat_natCast,Int.toNat_natCast]
  congr 1
  rw [BitVec.toNat_and,BitVec.toNat_setWidth,BitVec.toNat_ushiftRight,Nat.shiftRight_eq_div_pow,show (1#32).toNat=1 from rfl,Nat.and_one_is_mod,Nat.mod_mod_of_dvd _ (by decide)]
theorem or_bit {v b:Nat} (hb:b≤1):2*v ||| b=2*v+b:=by
  rcases Nat.le_one_iff_eq_zero_or_eq_one.1 hb with rfl | rfl
  · simp
  · apply Nat.eq_of_testBit_eq
    intro i
    rw [Nat.testBit_or]
    cases i with
    | zero=>simp [Nat.testBit_zero]
    | succ i=>rw [Nat.testBit_succ,Nat.testBit_succ,Nat.testBit_succ,show 2*v / 2=v by omega,show (2*v+1) / 2=v by omega];simp
def swap8 (b:BitVec 32):BitVec 32:=((b >>> 8) &&& 16711935#32) ||| ((b &&& 16711935#32) <<< 8)
def swap16 (b:BitVec 32):BitVec 32:=(b >>> 16) ||| (b <<< 16)
def swap1 (b:BitVec 32):BitVec 32:=((b >>> 1) &&& 1431655765#32) ||| ((b &&& 1431655765#32) <<< 1)
def swap2 (b:BitVec 32):BitVec 32:=((b >>> 2) &&& 858993459#32) ||| ((b &&& 858993459#32) <<< 2)
def swap4 (b:BitVec 32):BitVec 32:=((b >>> 4) &&& 252645135#32) ||| ((b &&& 252645135#32) <<< 4)
theorem g_mb_ReverseBytes32_eq (k:Nat) (b:BitVec 32):g_mb_ReverseBytes32 k (b.toNat:Int)=some ((swap16 (swap8 b)).toNat:Int):=by
  unfold g_mb_ReverseBytes32
  rw [show (16711935:Int)=((16711935#32).toNat:Int) from rfl]
  simp only [Option.bind_some,u32_and,u32_or,u32_shr,u32_shl]
  rfl
theorem g_mb_Reverse32_eq (k:Nat) (b:BitVec 32):g_mb_Reverse32 k (b.toNat:Int)=some ((swap16 (swap8 (swap4 (swap2 (swap1 b))))).toNat:Int):=by
  unfold g_mb_Reverse32
  rw [show (1431655765:Int)=((1431655765#32).toNat:Int) from rfl,show (858993459:Int)=((858993459#32).toNat:Int) from rfl,show (252645135:Int)=((252645135#32).toNat:Int) from rfl]
  simp only [Option.bind_some,u32_and,u32_or,u32_shr,u32_shl,g_mb_ReverseBytes32_eq]
  rfl
theorem bit_swap1 (b:BitVec 32) {i:Nat} (h:i<32):(swap1 b).getLsbD i=b.getLsbD (if i%2<1 then i+1 else i - 1):=by
  obtain rfl | rfl | rfl | rfl | rfl | rfl | rfl | rfl | rfl | rfl | rfl | rfl | rfl | rfl | rfl | rfl | rfl | rfl | rfl | rfl | rfl | rfl | rfl | rfl | rfl | rfl | rfl | rfl | rfl | rfl | rfl | rfl:i=0∨i=1∨i=2∨i=3∨i=4∨i=5∨i=6∨i=7∨i=8∨i=9∨i=10∨i=11∨i=12∨i=13∨i=14∨i=15∨i=16∨i=17∨i=18∨i=19∨i=20∨i=21∨i=22∨i=23∨i=24∨i=25∨i=26∨i=27∨i=28∨i=29∨i=30∨i=31:=by omega
  all_goals simp [swap1]
theorem bit_swap2 (b:BitVec 32) {i:Nat} (h:i<32):(swap2 b).getLsbD i=b.getLsbD (if i%4<2 then i+2 else i - 2):=by
  obtain rfl | rfl | rfl | rfl | rfl | rfl | rfl | rfl | rfl | rfl | rfl | rfl | rfl | rfl | rfl | rfl | rfl | rfl | rfl | rfl | rfl | rfl | rfl | rfl | rfl | rfl | rfl | rfl | rfl | rfl | rfl | rfl:i=0∨i=1∨i=2∨i=3∨i=4∨i=5∨i=6∨i=7∨i=8∨i=9∨i=10∨i=11∨i=12∨i=13∨i=14∨i=15∨i=16∨i=17∨i=18∨i=19∨i=20∨i=21∨i=22∨i=23∨i=24∨i=25∨i=26∨i=27∨i=28∨i=29∨i=30∨i=31:=by omega
  all_goals simp [swap2]
theorem bit_swap4 (b:BitVec 32) {i:Nat} (h:i<32):(swap4 b).getLsbD i=b.getLsbD (if i%8<4 then i+4 else i - 4):=by
  obtain rfl | rfl | rfl | rfl | rfl | rfl | rfl | rfl | rfl | rfl | rfl | rfl | rfl | rfl | rfl | rfl | rfl | rfl | rfl | rfl | rfl | rfl | rfl | rfl | rfl | rfl | rfl | rfl | rfl | rfl | rfl | rfl:i=0∨i=1∨i=2∨i=3∨i=4∨i=5∨i=6∨i=7∨i=8∨i=9∨i=10∨i=11∨i=12∨i=13∨i=14∨i=15∨i=16∨i=17∨i=18∨i=19∨i=20∨i=21∨i=22∨i=23∨i=24∨i=25∨i=26∨i=27∨i=28∨i=29∨i=30∨i=31:=by omega
  all_goals simp [swap4]
theorem bit_swap8 (b:BitVec 32) {i:Nat} (h:i<32):(swap8 b).getLsbD i=b.getLsbD (if i%16<8 then i+8 else i - 8):=by
  obtain rfl | rfl | rfl | rfl | rfl | rfl | rfl | rfl | rfl | rfl | rfl | rfl | rfl | rfl | rfl | rfl | rfl | rfl | rfl | rfl | rfl | rfl | rfl | rfl | rfl | rfl | rfl | rfl | rfl | rfl | rfl | rfl:i=0∨i=1∨i=2∨i=3∨i=4∨i=5∨i=6∨i=7∨i=8∨i=9∨i=10∨i=11∨i=12∨i=13∨i=14∨i=15∨i=16∨i=17∨i=18∨i=19∨i=20∨i=21∨i=22∨i=23∨i=24∨i=25∨i=26∨i=27∨i=28∨i=29∨i=30∨i=31:=by omega
  all_goals simp [swap8]
theorem bit_swap16 (b:BitVec 32) {i:Nat} (h:i<32):(swap16 b).getLsbD i=b.getLsbD (if i%32<16 then i+16 else i - 16):=by
  obtain rfl | rfl | rfl | rfl | rfl | rfl | rfl | rfl | rfl | rfl | rfl | rfl | rfl | rfl | rfl | rfl | rfl | rfl | rfl | rfl | rfl | rfl | rfl | rfl | rfl | rfl | rfl | rfl | rfl | rfl | rfl | rfl:i=0∨i=1∨i=2∨i=3∨i=4∨i=5∨i=6∨i=7∨i=8∨i=9∨i=10∨i=11∨i=12∨i=13∨i=14∨i=15∨i=16∨i=17∨i=18∨i=19∨i=20∨i=21∨i=22∨i=23∨i=24∨i=25∨i=26∨i=27∨i=28∨i=29∨i=30∨i=31:=by omega
  all_goals simp [swap16]
theorem rev_bit (b:BitVec 32) {i:Nat} (h:i<32):(swap16 (swap8 (swap4 (swap2 (swap1 b))))).getLsbD i=b.getLsbD (31 - i):=by
  rw [bit_swap16 _ h]
  obtain rfl | rfl | rfl | rfl | rfl | rfl | rfl | rfl | rfl | rfl | rfl | rfl | rfl | rfl | rfl | rfl | rfl | rfl | rfl | rfl | rfl | rfl | rfl | rfl | rfl | rfl | rfl | rfl | rfl | rfl | rfl | rfl:i=0∨i=1∨i=2∨i=3∨i=4∨i=5∨i=6∨i=7∨i=8∨i=9∨i=10∨i=11∨i=12∨i=13∨i=14∨i=15∨i=16∨i=17∨i=18∨i=19∨i=20∨i=21∨i=22∨i=23∨i=24∨i=25∨i=26∨i=27∨i=28∨i=29∨i=30∨i=31:=by omega
  all_goals simp (disch:=decide) only [Nat.reduceMod,Nat.reduceLT,Nat.reduceMul,reduceIte,Nat.reduceAdd,Nat.reduceSub,bit_swap8,bit_swap4,bit_swap2,bit_swap1]
def rev (b:BitVec 32):BitVec 32:=swap16 (swap8 (swap4 (swap2 (swap1 b))))
def cut (n:Int):Nat:=if n<0 then 0 else if n > 32 then 32 else n.toNat
theorem cut_le (n:Int):cut n≤32:=by unfold cut;split <;> (try split) <;> omega
theorem g_bits_Reverse_eq (k:Nat) (b:BitVec 32) (n:Int):g_bits_Reverse k (b.toNat:Int) n=some (((((rev b).setWidth 64) >>> (32 - cut n)).setWidth 32).toNat:Int):=by
  have hc:=cut_le n
  have e1:(if (32:Int)<(if (0:Int) > n then (0:Int) else n) then (32:Int) else (if (0:Int) > n then (0:Int) else n))=(cut n:Int):=by
    unfold cut
    split <;> split <;> (try split) <;> omega
  unfold g_bits_Reverse
  simp only [Option.bind_some]
  rw [e1]
  simp only [Option.bind_some,g_mb_Reverse32_eq]
  rw [wi (by omega) (by omega),wu64 (by omega) (by omega),dt (show (0:Int)≤32 - (cut n:Int) by omega)]
  simp only [cond_true,u64_of_u32,u64_shr,u32_of_u64]
  rw [show ((32:Int) - (cut n:Int)).toNat=32 - cut n by omega]
  rfl
def bitAt (b:List Int) (i:Nat):Bool:=(BitVec.ofInt 8 (b.getD (i / 8) 0)).getLsbD (i%8)
theorem okB_bv {x:Int} (h:0≤x∧x≤255):x=((BitVec.ofInt 8 x).toNat:Int):=by
  rw [BitVec.toNat_ofInt,Int.toNat_of_nonneg (by simp;omega)]
  simp;omega
theorem ok_toNat (v:BitVec 8):0≤(v.toNat:Int)∧(v.toNat:Int)≤255:=by
  have:=v.isLt
  omega
structure Wr (n:Int) (b:List Int) (B:List Bool):Prop where
  n:n=(B.length:Int)
  l:b.length=(B.length+7) / 8
  ok:okB b
  bit:∀ i,bitAt b i=B.getD i false
theorem Wr.nil:Wr 0 [] []:=⟨rfl,rfl,by simp [okB],fun i=>by simp [bitAt]⟩
theorem ofInt8_toNat (v:BitVec 8):BitVec.ofInt 8 (v.toNat:Int)=v:=by
  rw [BitVec.ofInt_natCast,BitVec.ofNat_toNat];simp
theorem Wr.step {n:Int} {b:List Int} {B:List Bool} (h:Wr n b B) {b1:List Int} (h1:b1=if B.length%8=0 then b++[0] else b) (c:BitVec 8) (hc:∀ j,0<j→c.getLsbD j=false) {x:BitVec 8} (hx:b1.getD (B.length / 8) 0=(x.toNat:Int)) :
    Wr (n+1) (b1.set (B.length / 8) ((x ||| (c <<< (B.length%8))).toNat:Int)) (B++[c.getLsbD 0]):=by
  have hl:b1.length=B.length / 8+1:=by
    rw [h1]
    have:=h.l
    split
    · simp;omega
    · omega
  have hb1:∀ i,bitAt b1 i=bitAt b i:=by
    intro i
    rw [h1]
    split
    · unfold bitAt
      congr 2
      simp only [List.getD_eq_getElem?_getD,List.getElem?_append]
      split
      · rfl
      · rename_i hge
        rw [List.getElem?_eq_none (l:=b) (by omega)]
        cases hq:i / 8 - b.length with
        | zero=>rfl
        | succ q=>rfl
    · rfl
  refine ⟨by rw [h.n];simp,by simp only [List.length_set,hl,List.length_append,List.length_cons,List.length_nil];omega,?_,?_⟩
  · intro y hy
    rcases List.mem_or_eq_of_mem_set hy with hy | rfl
    · rw [h1] at hy
      split at hy
      · rcases List.mem_append.1 hy with hy | hy
        · exact h.ok y hy
        · simp at hy;subst hy;omega
      · exact h.ok y hy
    · exact ok_toNat _
  · intro i
    by_cases hi:i / 8=B.length / 8
    · have e1:bitAt (b1.set (B.length / 8) ((x ||| (c <<< (B.length%8))).toNat:Int)) i=(x ||| (c <<< (B.length%8))).getLsbD (i%8):=by
        unfold bitAt
        rw [hi,List.getD_eq_getElem?_getD,List.getElem?_set_self (by omega),Option.getD_some,ofInt8_toNat]
      have e2:x.getLsbD (i%8)=B.getD i false:=by
        rw [← h.bit,← hb1]
        unfold bitAt
        rw [hi,hx,ofInt8_toNat]
      rw [e1,BitVec.getLsbD_or,e2,BitVec.getLsbD_shiftLeft]
      simp only [List.getD_eq_getElem?_getD,List.getElem?_append]
      rcases Nat.lt_trichotomy i B.length with h2 | h2 | h2
      · rw [if_pos h2]
        have:i%8<B.length%8:=by omega
        simp [this]
      · rw [if_neg (by omega)]
        subst h2
        simp [show B.length%8<8 by omega]
      · rw [if_neg (by omega),List.getElem?_eq_none (by omega),List.getElem?_eq_none (by simp;omega)]
        rw [hc _ (by omega)]
        simp
    · have e1:bitAt (b1.set (B.length / 8) ((x ||| (c <<< (B.length%8))).toNat:Int)) i=bitAt b1 i:=by
        unfold bitAt
        rw [List.getD_eq_getElem?_getD,List.getElem?_set_ne (Ne.symm hi),← List.getD_eq_getElem?_getD]
      rw [e1,hb1,h.bit]
      simp only [List.getD_eq_getElem?_getD,List.getElem?_append]
      split
      · rfl
      · rename_i hge
        have:B.length<i:=by
          rcases Nat.lt_or_ge B.length i with h3 | h3
          · exact h3
          · exfalso;apply hi;congr 1;omega
        rw [List.getElem?_eq_none (by omega),List.getElem?_eq_none (by simp;omega)]
def bitsOf (v:BitVec 32) (c:Nat):List Bool:=(List.range c).map v.getLsbD
theorem bitsOf_length (v:BitVec 32) (c:Nat):(bitsOf v c).length=c:=by simp [bitsOf]
theorem bitsOf_drop (v:BitVec 32) {c i:Nat} (h:i<c):(bitsOf v c).drop i=v.getLsbD i::(bitsOf v c).drop (i+1):=by
  rw [List.drop_eq_getElem_cons (by rw [bitsOf_length];exact h)]
  simp [bitsOf]
theorem tm8 (a:Nat):Int.tmod (a:Int) 8=((a%8:Nat):Int):=rfl
theorem g_bits_Writer_Put__b_l0_eq (k:Nat) (v:BitVec 32) (c:Nat) (hc:c≤32):∀ (m i:Nat) (n:Int) (b:List Int) (B:List Bool),Wr n b B→i≤c→c - i<m→B.length+(c - i)≤1125899906842000 →
    ∃ n' b',g_bits_Writer_Put__b_l0 k (v.toNat:Int) (c:Int) m (i:Int) n b=some (n',b')∧Wr n' b' (B++(bitsOf v c).drop i):=by
  intro m
  induction m with
  | zero=>intro i n b B _ _ h;omega
  | succ m ih =>
    intro i n b B hw hi hm hB
    rw [g_bits_Writer_Put__b_l0.eq_2]
    by_cases h:i<c
    · rw [dt (show (i:Int)<(c:Int) by omega),dt (show (0:Int)≤(i:Int) by omega)]
      have hn:=hw.n
      have hl:=hw.l
      subst hn
      let b1:List Int:=if B.length%8=0 then b++[0] else b
      have hb1l:b1.length=B.length / 8+1:=by
        show (if B.length%8=0 then b++[0] else b).length=_
        split
        · simp;omega
        · omega
      have e1:(bif decide (Int.tmod (B.length:Int) 8=0) then (bif decide ((List.length b+List.length [(0:Int)])*1≤140737488355328) then some (b++[0]) else none) else some b)=some b1:=by
        rw [tm8]
        show _=some (if B.length%8=0 then b++[0] else b)
        by_cases h0:B.length%8=0
        · rw [dt (show ((B.length%8:Nat):Int)=0 by omega),dt (show (List.length b+List.length [(0:Int)])*1≤140737488355328 by simp;omega),if_pos h0];rfl
        · rw [df (show ¬ ((B.length%8:Nat):Int)=0 by omega),if_neg h0];rfl
      have hlt:B.length / 8<b1.length:=by omega
      have hok1:okB b1:=by
        intro y hy
        have hy':y∈(if B.length%8=0 then b++[0] else b):=hy
        split at hy'
        · rcases List.mem_append.1 hy' with hy | hy
          · exact hw.ok y hy
          · simp at hy;subst hy;omega
        · exact hw.ok y hy'
      have hx:=okB_bv (hok1 _ (List.getElem_mem hlt))
      have e2:bits .and .u8 (IntKind.wrap .u8 (shrI .u32 (v.toNat:Int) (i:Int))) 1=(((v >>> i).setWidth 8 &&& 1#8).toNat:Int):=by
        rw [u32_shr,u8_of_u32,show (1:Int)=((1#8).toNat:Int) from rfl,u8_and];rfl
      rw [e1,e2]
      simp only [cond_true,Option.bind_some]
      rw [wi (by omega) (by omega),show (((b1.length:Nat):Int) - 1)=((B.length / 8:Nat):Int) by omega,ix_nat hlt]
      simp only [Option.bind_some,tm8]
      rw [dt (show (0:Int)≤((B.length%8:Nat):Int) by omega)]
      simp only [cond_true,Bool.not_true,cond_false]
      rw [hx,u8_shl,u8_or,wi (by omega) (by omega),wi (by omega) (by omega),Int.toNat_natCast,Int.toNat_natCast]
      have hst:=hw.step (b1:=b1) rfl ((v >>> i).setWidth 8 &&& 1#8) (fun j hj=>by
        rw [BitVec.getLsbD_and,BitVec.getLsbD_one];simp;omega) (x:=BitVec.ofInt 8 b1[B.length / 8]) (by
        rw [← hx,List.getD_eq_getElem?_getD,List.getElem?_eq_getElem hlt];rfl)
      obtain ⟨n',b',h1,h2⟩:=ih (i+1) _ _ _ hst (by omega) (by omega) (by simp;omega)
      refine ⟨n',b',h1,?_⟩
      have hbit:((v >>> i).setWidth 8 &&& 1#8).getLsbD 0=v.getLsbD i:=by simp
      rw [hbit,List.append_assoc] at h2
      rw [bitsOf_drop v h]
      exact h2
    · rw [df (show ¬ (i:Int)<(c:Int) by omega)]
      have:i=c:=by omega
      subst this
      refine ⟨n,b,rfl,?_⟩
      rw [List.drop_of_length_le (by rw [bitsOf_length];omega),List.append_nil]
      exact hw
theorem not_bad {c:Int} (h:0≤c∧c≤32):(bif decide (c<0) then some true else some (decide (32<c)))=some false:=by
  rw [df (show ¬ c<0 by omega),df (show ¬ 32<c by omega)];rfl
theorem g_bits_Writer_Put__b_ok {k:Nat} (hk:40≤k) (v:BitVec 32) (c:Nat) (hc:c≤32) {n:Int} {b:List Int} {B:List Bool} (hw:Wr n b B) (hB:B.length+c≤1125899906842000) :
    ∃ n' b',g_bits_Writer_Put__b k (v.toNat:Int) (c:Int) n b=some (0,n',b')∧Wr n' b' (B++bitsOf v c):=by
  obtain ⟨n',b',h1,h2⟩:=g_bits_Writer_Put__b_l0_eq k v c hc k 0 n b B hw (by omega) (by omega) (by omega)
  refine ⟨n',b',?_,h2⟩
  unfold g_bits_Writer_Put__b
  rw [not_bad (by omega)]
  simp only [Option.bind_some,cond_false,g_bits_each]
  rw [show g_bits_Writer_Put__b_l0 k (v.toNat:Int) (c:Int) k 0 n b=_ from h1]
  rfl
theorem g_bits_Reverse_bits (k:Nat) (b:BitVec 32) (n:Int):∃ r:BitVec 32,g_bits_Reverse k (b.toNat:Int) n=some (r.toNat:Int)∧∀ j,r.getLsbD j=(decide (j<cut n)&&b.getLsbD (cut n - 1 - j)):=by
  have hc:=cut_le n
  refine ⟨_,g_bits_Reverse_eq k b n,fun i=>?_⟩
  rw [BitVec.getLsbD_setWidth,BitVec.getLsbD_ushiftRight,BitVec.getLsbD_setWidth]
  by_cases hic:i<cut n
  · rw [show rev b=swap16 (swap8 (swap4 (swap2 (swap1 b)))) from rfl,rev_bit b (by omega)]
    simp [hic,show i<32 by omega,show 32 - cut n+i<64 by omega,show 31 - (32 - cut n+i)=cut n - 1 - i by omega]
  · by_cases hi:i<32
    · rw [BitVec.getLsbD_of_ge (rev b) _ (by omega)]
      simp [hic]
    · simp [hic,hi]
end Go.Proofs.Ytmmeanjjfhimjaa.W
namespace Go.Proofs.Ytmmeanjjfhimjaa.HB
def Sim {α:Type} (f:α→Int) (l r:List α):Prop:=∀ k,l.filter (fun x=>f x==k)=r.filter (fun x=>f x==k)
def Srt {α:Type} (f:α→Int) (l:List α):Prop:=l.Pairwise (fun x y=>f x≤f y)
section
variable {α:Type} {f:α→Int} {l r l' r' s:List α}
theorem Sim.refl (l:List α):Sim f l l:=fun _=>rfl
theorem Sim.symm (h:Sim f l r):Sim f r l:=fun k=>(h k).symm
theorem Sim.trans (h:Sim f l r) (g:Sim f r s):Sim f l s:=fun k=>(h k).trans (g k)
theorem Sim.app (h:Sim f l l') (g:Sim f r r'):Sim f (l++r) (l'++r'):=fun k=>by rw [List.filter_append,List.filter_append,h k,g k]
theorem Sim.cons (x:α) (h:Sim f l l'):Sim f (x::l) (x::l'):=Sim.app (Sim.refl [x]) h
theorem Sim.swap (h:∀ x∈l,∀ y∈r,f x≠f y):Sim f (l++r) (r++l):=fun k=>by
  rw [List.filter_append,List.filter_append]
  by_cases hl:l.filter (fun x=>f x==k)=[]
  · simp [hl]
  · obtain ⟨x,hx⟩:=List.exists_mem_of_ne_nil _ hl
    have hx':=List.mem_filter.1 hx
    have hr:r.filter (fun x=>f x==k)=[]:=by
      rw [List.filter_eq_nil_iff]
      intro y hy hk
      have h1:f x=k:=by simpa using hx'.2
      have h2:f y=k:=by simpa using hk
      exact h x hx'.1 y hy (h1.trans h2.symm)
    simp [hr]
theorem Sim.mem (h:Sim f l r) {x:α} (hx:x∈l):x∈r:=by
  have:x∈l.filter (fun y=>f y==f x):=List.mem_filter.2 ⟨hx,by simp⟩
  rw [h] at this
  exact (List.mem_filter.1 this).1
theorem Srt.uniq:∀ {l r:List α},Srt f l→Srt f r→Sim f l r→l=r
  | [],[],_,_,_=>rfl
  | [],y::r,_,_,h=>absurd (h.symm.mem (List.mem_cons_self)) (by simp)
  | x::l,[],_,_,h=>absurd (h.mem (List.mem_cons_self)) (by simp)
  | x::l,y::r,hl,hr,h=>by
    have hl':=List.pairwise_cons.1 hl
    have hr':=List.pairwise_cons.1 hr
    have h1:f x≤f y:=by
      rcases List.mem_cons.1 (h.symm.mem (List.mem_cons_self (a:=y))) with e | e
      · rw [e];exact Int.le_refl _
      · exact hl'.1 _ e
    have h2:f y≤f x:=by
      rcases List.mem_cons.1 (h.mem (List.mem_cons_self (a:=x))) with e | e
      · rw [e];exact Int.le_refl _
      · exact hr'.1 _ e
    have he:f x=f y:=Int.le_antisymm h1 h2
    have hk:=h (f x)
    rw [List.filter_cons_of_pos (by simp),List.filter_cons_of_pos (by simp [he])] at hk
    have hxy:x=y:=(List.cons.inj hk).1
    subst hxy
    have:Sim f l r:=fun k=>by
      have hk:=h k
      by_cases hc:f x=k
      · rw [List.filter_cons_of_pos (by simp [hc]),List.filter_cons_of_pos (by simp [hc])] at hk
        exact (List.cons.inj hk).2
      · rwa [List.filter_cons_of_neg (by simp [hc]),List.filter_cons_of_neg (by simp [hc])] at hk
    rw [Srt.uniq hl'.2 hr'.2 this]
end
abbrev C:=Int × List Int
def ins (x:C):List C→List C
  | []=>[x]
  | y::l=>if y.1<x.1 then y::ins x l else x::y::l
def st:List C→List C
  | []=>[]
  | x::l=>ins x (st l)
abbrev key:C→Int:=fun c=>c.1
theorem ins_sim (x:C):∀ l,Sim key (x::l) (ins x l)
  | []=>Sim.refl _
  | y::l=>by
    unfold ins
    split
    · rename_i h
      refine Sim.trans ?_ (Sim.cons y (ins_sim x l))
      exact Sim.app (l:=[x]++[y]) (l':=[y]++[x]) (Sim.swap (by intro a ha b hb;simp at ha hb;subst ha;subst hb;exact fun e=>absurd e.symm (Int.ne_of_lt h))) (Sim.refl l)
    · exact Sim.refl _
theorem ins_srt (x:C):∀ l,Srt key l→Srt key (ins x l)
  | [],_=>List.pairwise_singleton _ _
  | y::l,h=>by
    have h':=List.pairwise_cons.1 h
    unfold ins
    split
    · rename_i hc
      refine List.pairwise_cons.2 ⟨fun z hz=>?_,ins_srt x l h'.2⟩
      rcases List.mem_cons.1 ((ins_sim x l).symm.mem hz) with e | e
      · rw [e];exact Int.le_of_lt hc
      · exact h'.1 z e
    · rename_i hc
      refine List.pairwise_cons.2 ⟨fun z hz=>?_,h⟩
      rcases List.mem_cons.1 hz with e | e
      · rw [e];exact Int.not_lt.1 hc
      · exact Int.le_trans (Int.not_lt.1 hc) (h'.1 z e)
theorem st_sim:∀ l,Sim key l (st l)
  | []=>Sim.refl _
  | x::l=>Sim.trans (Sim.cons x (st_sim l)) (ins_sim x (st l))
theorem st_srt:∀ l,Srt key (st l)
  | []=>List.Pairwise.nil
  | x::l=>ins_srt x _ (st_srt l)
theorem st_eq {l r:List C} (h:Srt key r) (g:Sim key l r):r=st l:=h.uniq (st_srt l) (g.symm.trans (st_sim l))
theorem st_len:∀ l,(st l).length=l.length:=by
  have hi:∀ (x:C) l,(ins x l).length=l.length+1:=by
    intro x l
    induction l with
    | nil=>rfl
    | cons y l ih=>unfold ins;split <;> simp [ih]
  intro l
  induction l with
  | nil=>rfl
  | cons x l ih=>show (ins x (st l)).length=_;rw [hi,ih];rfl
theorem st_mem {l:List C} {x:C}:x∈st l↔x∈l:=⟨(st_sim l).symm.mem,(st_sim l).mem⟩
def mg:List C→List C→List C
  | [],r=>r
  | x::l,[]=>x::l
  | x::l,y::r=>if y.1<x.1 then y::mg (x::l) r else x::mg l (y::r)
termination_by l r=>l.length+r.length
theorem mg_sim:∀ (l r:List C),Srt key l→Sim key (l++r) (mg l r)
  | [],r,_=>by rw [mg];exact Sim.refl _
  | x::l,[],_=>by rw [mg,List.append_nil];exact Sim.refl _
  | x::l,y::r,h=>by
    rw [mg]
    have h':=List.pairwise_cons.1 h
    split
    · rename_i hc
      refine Sim.trans ?_ (Sim.cons y (mg_sim (x::l) r h))
      have e1:x::l++y::r=((x::l)++[y])++r:=by simp
      have e2:y::(x::l++r)=([y]++(x::l))++r:=by simp
      rw [e1,e2]
      refine Sim.app (Sim.swap ?_) (Sim.refl r)
      intro a ha b hb e
      rw [List.mem_singleton] at hb;subst hb
      have:x.1≤a.1:=by
        rcases List.mem_cons.1 ha with q | q
        · rw [q];exact Int.le_refl _
        · exact h'.1 _ q
      have e':a.1=b.1:=e
      omega
    · exact Sim.cons x (mg_sim l (y::r) h'.2)
termination_by l r=>l.length+r.length
theorem mg_srt:∀ (l r:List C),Srt key l→Srt key r→Srt key (mg l r)
  | [],r,_,h=>by rw [mg];exact h
  | x::l,[],h,_=>by rw [mg];exact h
  | x::l,y::r,h,g=>by
    have h':=List.pairwise_cons.1 h
    have g':=List.pairwise_cons.1 g
    rw [mg]
    split
    · rename_i hc
      refine List.pairwise_cons.2 ⟨fun z hz=>?_,mg_srt (x::l) r h g'.2⟩
      rcases List.mem_append.1 ((mg_sim (x::l) r h).symm.mem hz) with e | e
      · rcases List.mem_cons.1 e with q | q
        · rw [q];exact Int.le_of_lt hc
        · exact Int.le_trans (Int.le_of_lt hc) (h'.1 z q)
      · exact g'.1 z e
    · rename_i hc
      refine List.pairwise_cons.2 ⟨fun z hz=>?_,mg_srt l (y::r) h'.2 g⟩
      rcases List.mem_append.1 ((mg_sim l (y::r) h'.2).symm.mem hz) with e | e
      · exact h'.1 z e
      · rcases List.mem_cons.1 e with q | q
        · rw [q];exact Int.not_lt.1 hc
        · exact Int.le_trans (Int.not_lt.1 hc) (g'.1 z q)
termination_by l r=>l.length+r.length
theorem mg_pre:∀ (t:Nat) (l r:List C),Srt key l→t≤l.length+r.length →
    ∃ a b,a≤l.length∧b≤r.length∧a+b=t∧((mg l r).take t).Perm (l.take a++r.take b)∧∀ y∈r.take b,∀ x∈l.drop a,y.1<x.1
  | 0,l,r,_,_=>⟨0,0,Nat.zero_le _,Nat.zero_le _,rfl,by simp,by simp⟩
  | t+1,[],r,_,ht=>⟨0,t+1,Nat.le_refl _,by simpa using ht,by omega,by rw [mg];simp,by simp⟩
  | t+1,x::l,[],_,ht=>⟨t+1,0,by simpa using ht,Nat.le_refl _,rfl,by rw [mg];simp,by simp⟩
  | t+1,x::l,y::r,h,ht=>by
    have h':=List.pairwise_cons.1 h
    rw [mg]
    split
    · rename_i hc
      obtain ⟨a,b,ha,hb,hab,hp,hlt⟩:=mg_pre t (x::l) r h (by simp at ht ⊢;omega)
      refine ⟨a,b+1,ha,by simp;omega,by omega,?_,?_⟩
      · rw [List.take_succ_cons,List.take_succ_cons]
        exact (List.Perm.cons y hp).trans List.perm_middle.symm
      · intro z hz w hw
        rw [List.take_succ_cons] at hz
        rcases List.mem_cons.1 hz with e | e
        · subst e
          have:w∈x::l:=List.mem_of_mem_drop hw
          rcases List.mem_cons.1 this with q | q
          · rw [q];exact hc
          · exact Int.lt_of_lt_of_le hc (h'.1 w q)
        · exact hlt z e w hw
    · rename_i hc
      obtain ⟨a,b,ha,hb,hab,hp,hlt⟩:=mg_pre t l (y::r) h'.2 (by simp at ht ⊢;omega)
      refine ⟨a+1,b,by simp;omega,hb,by omega,?_,?_⟩
      · rw [List.take_succ_cons,List.take_succ_cons]
        exact List.Perm.cons x hp
      · intro z hz w hw
        rw [List.drop_succ_cons] at hw
        exact hlt z hz w hw
def pairs:List C→List C
  | x::y::l=>(x.1+y.1,x.2++y.2)::pairs l
  | _=>[]
theorem pairs_len:∀ l,(pairs l).length=l.length / 2
  | []=>rfl
  | [_]=>by simp [pairs]
  | _::_::l=>by simp only [pairs,List.length_cons,pairs_len l];omega
theorem pairs_srt:∀ l,Srt key l→Srt key (pairs l)
  | [],_=>List.Pairwise.nil
  | [_],_=>List.Pairwise.nil
  | x::y::l,h=>by
    have h1:=List.pairwise_cons.1 h
    have h2:=List.pairwise_cons.1 h1.2
    refine List.pairwise_cons.2 ⟨?_,pairs_srt l h2.2⟩
    have:∀ l:List C,(∀ z∈l,x.1≤z.1∧y.1≤z.1)→∀ z∈pairs l,x.1+y.1≤z.1:=by
      intro l
      induction l using pairs.induct with
      | case1 a b l ih =>
        intro hz z hm
        rcases List.mem_cons.1 hm with e | e
        · subst e
          have:=(hz a (by simp)).1;have:=(hz b (by simp)).2
          show x.1+y.1≤a.1+b.1;omega
        · exact ih (fun z hz'=>hz z (by simp [hz'])) z e
      | case2 l hl =>
        intro _ z hm
        unfold pairs at hm;split at hm
        · exact absurd rfl (hl _ _ _)
        · simp at hm
    exact fun z hz=>this l (fun z hz=>⟨h1.1 z (by simp [hz]),h2.1 z hz⟩) z hz
abbrev syms (l:List C):List Int:=l.flatMap (·.2)
theorem syms_pairs:∀ (b:Nat) (l:List C),2*b≤l.length→syms ((pairs l).take b)=syms (l.take (2*b))
  | 0,l,_=>by simp
  | b+1,[],h=>by simp at h
  | b+1,[x],h=>by simp at h;omega
  | b+1,x::y::l,h=>by
    have ih:=syms_pairs b l (by simp at h;omega)
    have e:2*(b+1)=(2*b)+1+1:=by omega
    rw [e]
    simp only [pairs,List.take_succ_cons,List.flatMap_cons,List.append_assoc]
    rw [show List.flatMap (fun x:C=>x.2) (List.take b (pairs l))=List.flatMap (fun x:C=>x.2) (List.take (2*b) l) from ih]
def lev (base:List C):Nat→List C
  | 0=>[]
  | j+1=>st (base++pairs (lev base j))
theorem lev_srt (base:List C):∀ j,Srt key (lev base j)
  | 0=>List.Pairwise.nil
  | _+1=>st_srt _
theorem lev_len (base:List C) (j:Nat):(lev base (j+1)).length=base.length+(lev base j).length / 2:=by
  rw [lev,st_len,List.length_append,pairs_len]
theorem lev_many (base:List C) (m:Nat) (h:base.length≤2^m):∀ j,j≤m→2*base.length≤(lev base j).length+2^(m+1 - j)
  | 0,_=>by simp [lev,Nat.pow_succ];omega
  | j+1,hj=>by
    have ih:=lev_many base m h j (by omega)
    rw [lev_len]
    have e:m+1 - j=(m+1 - (j+1))+1:=by omega
    rw [e,Nat.pow_succ] at ih
    omega
theorem lev_mg (base:List C) (hb:Srt key base) (j:Nat):lev base (j+1)=mg base (pairs (lev base j)) :=
  (st_eq (mg_srt _ _ hb (pairs_srt _ (lev_srt base j))) (mg_sim _ _ hb)).symm
def Wt (F:Int→Int) (x:C):Prop:=x.1=(x.2.map F).sum
theorem sum_app (F:Int→Int) (a b:List Int):((a++b).map F).sum=(a.map F).sum+(b.map F).sum:=by rw [List.map_append,List.sum_append]
theorem pairs_wt {F:Int→Int}:∀ (l:List C),(∀ x∈l,Wt F x)→∀ x∈pairs l,Wt F x
  | [],_,x,hx=>by simp [pairs] at hx
  | [_],_,x,hx=>by simp [pairs] at hx
  | a::b::l,h,x,hx=>by
    rcases List.mem_cons.1 hx with e | e
    · subst e
      show a.1+b.1=((a.2++b.2).map F).sum
      rw [sum_app,← show a.1=_ from h a (by simp),← show b.1=_ from h b (by simp)]
    · exact pairs_wt l (fun x hx=>h x (by simp [hx])) x e
theorem lev_wt {F:Int→Int} (base:List C) (hw:∀ x∈base,Wt F x):∀ j,∀ x∈lev base j,Wt F x
  | 0,x,hx=>by simp [lev] at hx
  | j+1,x,hx=>by
    rcases List.mem_append.1 (st_mem.1 hx) with e | e
    · exact hw x e
    · exact pairs_wt _ (lev_wt base hw j) x e
theorem le_sum {F:Int→Int} (h:∀ s,0≤F s):∀ (l:List Int) (s:Int),s∈l→F s≤(l.map F).sum∧0≤(l.map F).sum:=by
  have h0:∀ l:List Int,0≤(l.map F).sum:=by
    intro l
    induction l with
    | nil=>simp
    | cons x l ih=>simp only [List.map_cons,List.sum_cons];have:=h x;omega
  intro l
  induction l with
  | nil=>intro s hs;simp at hs
  | cons x l ih =>
    intro s hs
    refine ⟨?_,h0 _⟩
    simp only [List.map_cons,List.sum_cons]
    rcases List.mem_cons.1 hs with e | e
    · subst e;have:=h0 l;omega
    · have:=(ih s e).1;have:=h x;omega
abbrev cnt (s:Int) (l:List C):Nat:=(syms l).count s
theorem cnt_perm {l r:List C} (h:l.Perm r) (s:Int):cnt s l=cnt s r:=(List.Perm.flatMap_right _ h).count_eq s
def term (j c:Nat):Nat:=2^j - 2^(j - c)
theorem term0 (j:Nat):term j 0=0:=by simp [term]
theorem term1 (j c:Nat) (h:c≤j):term (j+1) (1+c)=2^j+term j c:=by
  unfold term
  have e:j+1 - (1+c)=j - c:=by omega
  have:2^(j - c)≤2^j:=Nat.pow_le_pow_right (by decide) (by omega)
  rw [e,Nat.pow_succ];omega
theorem base_syms (F:Int→Int) (S:List Int) (a:Nat):syms ((S.map fun s=>((F s,[s]):C)).take a)=S.take a:=by
  rw [← List.map_take]
  induction S.take a with
  | nil=>rfl
  | cons x l ih=>simp only [List.map_cons,List.flatMap_cons];rw [show List.flatMap (fun x:C=>x.2) (List.map (fun s=>((F s,[s]):C)) l)=l from ih];rfl
theorem sum_add (S:List Int) (f g:Int→Nat):(S.map fun s=>f s+g s).sum=(S.map f).sum+(S.map g).sum:=by
  induction S with
  | nil=>rfl
  | cons x l ih=>simp only [List.map_cons,List.sum_cons,ih];omega
theorem sum_const (S:List Int) (k:Nat):(S.map fun _=>k).sum=S.length*k:=by
  induction S with
  | nil=>simp
  | cons x l ih=>simp only [List.map_cons,List.sum_cons,ih,List.length_cons];rw [Nat.succ_mul];omega
theorem sum_congr (S:List Int) (f g:Int→Nat) (h:∀ s∈S,f s=g s):(S.map f).sum=(S.map g).sum:=by
  induction S with
  | nil=>rfl
  | cons x l ih=>simp only [List.map_cons,List.sum_cons];rw [h x (by simp),ih (fun s hs=>h s (by simp [hs]))]
theorem fills {F:Int→Int} (hF:∀ s,0≤F s) (S:List Int) (hS:S.Nodup) (hs:Srt key (S.map fun s=>((F s,[s]):C))) :
    ∀ j t,t≤(lev (S.map fun s=>((F s,[s]):C)) j).length →
      (∀ s,cnt s ((lev (S.map fun s=>((F s,[s]):C)) j).take t)≤j)∧(∀ s,s∉S→cnt s ((lev (S.map fun s=>((F s,[s]):C)) j).take t)=0) ∧
      2*(S.map fun s=>term j (cnt s ((lev (S.map fun s=>((F s,[s]):C)) j).take t))).sum=t*2^j:=by
  generalize hB:(S.map fun s=>((F s,[s]):C))=base at hs
  have hbw:∀ x∈base,Wt F x:=by
    subst hB;intro x hx
    obtain ⟨s,_,rfl⟩:=List.mem_map.1 hx
    show F s=_;simp
  intro j
  induction j with
  | zero =>
    intro t ht
    have:t=0:=by simpa [lev] using ht
    subst this
    have z:∀ s,cnt s ([]:List C)=0:=fun s=>rfl
    refine ⟨fun s=>Nat.le_of_eq (z s),fun s _=>z s,?_⟩
    rw [List.take_zero,sum_congr S _ (fun _=>0) (fun s _=>by rw [z s];exact term0 _),sum_const];simp
  | succ j ih =>
    intro t ht
    rw [lev_mg base hs] at ht ⊢
    have hlen:(mg base (pairs (lev base j))).length=base.length+(pairs (lev base j)).length:=by rw [← lev_mg base hs,lev,st_len,List.length_append]
    obtain ⟨a,b,ha,hb,hab,hp,hlt⟩:=mg_pre t base (pairs (lev base j)) hs (by omega)
    have hb2:2*b≤(lev base j).length:=by rw [pairs_len] at hb;omega
    obtain ⟨i1,i2,i3⟩:=ih (2*b) hb2
    have hla:syms (base.take a)=S.take a:=by subst hB;exact base_syms F S a
    have haS:a≤S.length:=by subst hB;simpa using ha
    have hc:∀ s,cnt s ((mg base (pairs (lev base j))).take t)=(S.take a).count s+cnt s ((lev base j).take (2*b)):=by
      intro s
      rw [cnt_perm hp]
      show (syms (base.take a++(pairs (lev base j)).take b)).count s=_
      rw [show syms (base.take a++(pairs (lev base j)).take b)=syms (base.take a)++syms ((pairs (lev base j)).take b) from List.flatMap_append,List.count_append,hla,syms_pairs b _ hb2]
    -- what is within a package is ahead of it
    have hz:∀ s∈S.drop a,cnt s ((lev base j).take (2*b))=0:=by
      intro s hsd
      refine Nat.eq_zero_of_not_pos fun hpos=>?_
      have hm:s∈syms ((lev base j).take (2*b)):=List.count_pos_iff.1 hpos
      rw [← syms_pairs b _ hb2] at hm
      obtain ⟨y,hy,hsy⟩:=List.mem_flatMap.1 hm
      have hyw:Wt F y:=pairs_wt _ (lev_wt base hbw j) y (List.mem_of_mem_take hy)
      have h1:=hlt y hy (F s,[s]) (by subst hB;rw [← List.map_drop];exact List.mem_map.2 ⟨s,hsd,rfl⟩)
      have h2:=(le_sum hF y.2 s hsy).1
      rw [← show y.1=_ from hyw] at h2
      exact absurd h1 (Int.not_lt.2 h2)
    have hsp:S=S.take a++S.drop a:=(List.take_append_drop a S).symm
    have hnd:(S.take a++S.drop a).Nodup:=by rw [← hsp];exact hS
    have hdis:=(List.nodup_append.1 hnd)
    have h1:∀ s∈S.take a,(S.take a).count s=1:=fun s hs=>by rw [hdis.1.count,if_pos hs]
    have h0:∀ s,s∉S.take a→(S.take a).count s=0:=fun s hs=>List.count_eq_zero.2 hs
    have hd0:∀ s∈S.drop a,(S.take a).count s=0:=fun s hs=>h0 s fun hq=>hdis.2.2 s hq s hs rfl
    refine ⟨fun s=>?_,fun s hn=>?_,?_⟩
    · rw [hc]
      by_cases q:s∈S.take a
      · rw [h1 s q];have:=i1 s;omega
      · rw [h0 s q];have:=i1 s;omega
    · rw [hc,i2 s hn,h0 s fun q=>hn (List.mem_of_mem_take q)]
    · have key1:(S.map fun s=>term (j+1) (cnt s ((mg base (pairs (lev base j))).take t))).sum=a*2^j+(S.map fun s=>term j (cnt s ((lev base j).take (2*b)))).sum:=by
        generalize hcc:(fun s=>cnt s ((lev base j).take (2*b)))=c at *
        have hc':∀ s,cnt s ((mg base (pairs (lev base j))).take t)=(S.take a).count s+c s:=by intro s;rw [hc s,← hcc]
        have hz':∀ s∈S.drop a,c s=0:=by intro s hs;rw [← hcc];exact hz s hs
        have i1':∀ s,c s≤j:=by intro s;rw [← hcc];exact i1 s
        rw [sum_congr S _ (fun s=>term (j+1) ((S.take a).count s+c s)) (fun s _=>by rw [hc' s])]
        have e1:(S.map fun s=>term (j+1) ((S.take a).count s+c s)).sum=((S.take a).map fun s=>2^j+term j (c s)).sum+((S.drop a).map fun _=>0).sum:=by
          conv=>lhs;rw [hsp]
          rw [List.map_append,List.sum_append]
          congr 1
          · exact sum_congr _ _ _ fun s hs=>by
              rw [List.take_append_drop,h1 s hs,term1 _ _ (i1' s)]
          · exact sum_congr _ _ _ fun s hs=>by
              rw [List.take_append_drop,hd0 s hs,hz' s hs];exact term0 _
        have e2:(S.map fun s=>term j (c s)).sum=((S.take a).map fun s=>term j (c s)).sum+((S.drop a).map fun _=>0).sum:=by
          conv=>lhs;rw [hsp]
          rw [List.map_append,List.sum_append]
          congr 1
          exact sum_congr _ _ _ fun s hs=>by rw [hz' s hs];exact term0 _
        rw [e1,show (fun s=>term j (cnt s ((lev base j).take (2*b))))=fun s=>term j (c s) from by rw [← hcc],e2,sum_add,sum_const,List.length_take,Nat.min_eq_left haS]
        omega
      rw [key1,Nat.mul_add,i3,← hab,Nat.pow_succ,Nat.add_mul]
      have:2*(a*2^j)=a*(2^j*2):=by rw [Nat.mul_comm (2^j),← Nat.mul_assoc,← Nat.mul_assoc,Nat.mul_comm 2 a]
      have:2*b*2^j=b*(2^j*2):=by rw [Nat.mul_comm (2^j),← Nat.mul_assoc,Nat.mul_comm 2 b]
      omega
def lenS (F:Int→Int) (S:List Int) (m:Nat) (s:Int):Nat:=cnt s ((lev (S.map fun s=>((F s,[s]):C)) m).take (2*S.length - 2))
theorem sum_pos:∀ (S:List Int) (g:Int→Nat) (s:Int),s∈S→(∀ s,0<g s)→2≤S.length→g s<(S.map g).sum
  | [],_,_,h,_,_=>absurd h (by simp)
  | [_],_,_,_,_,h=>by simp at h
  | x::y::l,g,s,hs,hg,_=>by
    have hle:∀ (l:List Int) s,s∈l→g s≤(l.map g).sum:=by
      intro l
      induction l with
      | nil=>intro s hs;simp at hs
      | cons a l ih => intro s hs; simp only [List.map_cons, List.sum_cons]; rcases List.mem_cons.1 hs with e | e
                       · subst e;omega
                       · have:=ih s e;omega
    simp only [List.map_cons,List.sum_cons]
    have h1:=hg x;have h2:=hg y
    rcases List.mem_cons.1 hs with e | e
    · subst e;omega
    · have:=hle (y::l) s e
      simp only [List.map_cons,List.sum_cons] at this;omega
theorem lens_ok {F:Int→Int} (hF:∀ s,0≤F s) (S:List Int) (hS:S.Nodup) (hs:Srt key (S.map fun s=>((F s,[s]):C))) (m:Nat) (hm:1≤m) (h2:2≤S.length) (hmany:S.length≤2^m) :
    2*S.length - 2≤(lev (S.map fun s=>((F s,[s]):C)) m).length∧(∀ s,lenS F S m s≤m)∧(∀ s∈S,1≤lenS F S m s)∧(∀ s,s∉S→lenS F S m s=0)∧∀ M,m≤M→(S.map fun s=>2^(M - lenS F S m s)).sum=2^M:=by
  have hl:2*S.length - 2≤(lev (S.map fun s=>((F s,[s]):C)) m).length:=by
    have:=lev_many (S.map fun s=>((F s,[s]):C)) m (by simpa using hmany) m (Nat.le_refl m)
    rw [show m+1 - m=1 by omega,List.length_map] at this;omega
  obtain ⟨f1,f2,f3⟩:=fills hF S hS hs m _ hl
  have f1':∀ s,lenS F S m s≤m:=f1
  have f2':∀ s,s∉S→lenS F S m s=0:=f2
  have f3':2*(S.map fun s=>term m (lenS F S m s)).sum=(2*S.length - 2)*2^m:=f3
  have hsum:(S.map fun s=>2^(m - lenS F S m s)).sum=2^m:=by
    have e:=sum_add S (fun s=>term m (lenS F S m s)) (fun s=>2^(m - lenS F S m s))
    rw [sum_congr S _ (fun _=>2^m) (fun s _=>by
      have:2^(m - lenS F S m s)≤2^m:=Nat.pow_le_pow_right (by decide) (by omega)
      show 2^m - _+_=_;omega),sum_const] at e
    have e2:(2*S.length - 2)*2^m=2*(S.length*2^m) - 2*2^m:=by rw [Nat.sub_mul,Nat.mul_assoc]
    have e3:2*2^m≤S.length*2^m:=Nat.mul_le_mul_right _ h2
    omega
  refine ⟨hl,f1',fun s hs=>?_,f2',fun M hM=>?_⟩
  · refine Nat.pos_of_ne_zero fun h0=>?_
    have:=sum_pos S (fun s=>2^(m - lenS F S m s)) s hs (fun s=>Nat.pow_pos (by decide)) h2
    rw [hsum] at this
    simp only [h0,Nat.sub_zero] at this
    exact absurd this (Nat.lt_irrefl _)
  · rw [sum_congr S _ (fun s=>2^(M - m)*2^(m - lenS F S m s)) (fun s _=>by
      rw [← Nat.pow_add];congr 1;have:=f1' s;omega)]
    have hmul:∀ (k:Nat) (g:Int→Nat) (l:List Int),(l.map fun s=>k*g s).sum=k*(l.map g).sum:=by
      intro k g l
      induction l with
      | nil=>rfl
      | cons a l ih=>simp only [List.map_cons,List.sum_cons,ih,Nat.mul_add]
    rw [hmul,hsum,← Nat.pow_add];congr 1;omega
end Go.Proofs.Ytmmeanjjfhimjaa.HB
namespace Go.Proofs.Ytmmeanjjfhimjaa.W
open Go Go.Q Go.Proofs Go.Proofs.Ytmmeanjjfhimjaa.HB
set_option linter.unusedVariables false
set_option linter.unusedSimpArgs false
abbrev Co:=S_huff_coin
abbrev kf:Co→Int:=fun c=>c.ffreq
theorem co_eta (c:Co):(⟨c.ffreq,c.fsyms⟩:Co)=c:=rfl
def cmpI (a b:Int):Int:=if a<b then -1 else if b<a then 1 else 0
theorem g_cmp_eq (k:Nat) (a b:Int) (s t:List Int):g_huff_Lengths_1 k a s b t=some (cmpI a b):=by
  unfold g_huff_Lengths_1 g_cmp_Compare_int g_cmp_isNaN_int cmpI
  by_cases h:a<b
  · simp [h]
  · by_cases h2:b<a <;> simp [h,h2]
theorem cmp_lt (a b:Int):(cmpI a b<0)↔a<b:=by
  unfold cmpI;split
  · simp_all
  · split <;> simp_all
theorem ix_at {α:Type} (P:List α) (x:α) (Q:List α) {i:Int} (h:i=(P.length:Int)):ix (P++x::Q) i=some x:=by
  subst h;rw [ix_nat (by simp)];simp
theorem set_at {α:Type} (P:List α) (x y:α) (Q:List α) {i:Int} (h:i=(P.length:Int)):List.set (P++x::Q) i.toNat y=P++y::Q:=by
  subst h;simp
structure Sorts (A A':List Co):Prop where
  srt:Srt kf A'
  sim:Sim kf A A'
  len:A'.length=A.length
theorem Srt.sub {α:Type} {f:α→Int} {a b:List α} (h:Srt f (a++b)):Srt f a∧Srt f b∧∀ x∈a,∀ y∈b,f x≤f y:=List.pairwise_append.1 h
theorem Srt.mk {α:Type} {f:α→Int} {a b:List α} (h1:Srt f a) (h2:Srt f b) (h:∀ x∈a,∀ y∈b,f x≤f y):Srt f (a++b):=List.pairwise_append.2 ⟨h1,h2,h⟩
theorem ins1 (k:Nat) (P:List Co) (hP:P.length≤100000):∀ (n:Nat) (L:List Co) (x:Co) (R:List Co),Srt kf L→L.length<n→L.length≤100000 →
    ∃ L',g_sc_insertionSortCmpFunc_huff_coin_l1 k (P.length:Int) n ((P.length:Int)+L.length) (P++L++x::R)=some (P++L'++R)∧Sorts (L++[x]) L':=by
  intro n
  induction n with
  | zero=>intro L x R _ h;omega
  | succ n ih =>
    intro L x R hs hn hl
    rw [g_sc_insertionSortCmpFunc_huff_coin_l1.eq_2]
    simp only [bd]
    rcases List.eq_nil_or_concat L with e | ⟨L0,y,e⟩
    · subst e
      refine ⟨[x],?_,?_,Sim.refl _,rfl⟩
      · rw [if_neg (by simp)];simp
      · exact List.pairwise_singleton _ _
    · rw [List.concat_eq_append] at e;subst e
      have hlen:(L0++[y]).length=L0.length+1:=by simp
      rw [hlen] at hn hl ⊢
      have hd:=Srt.sub hs
      rw [if_pos (by omega),ix_at (P++(L0++[y])) x R (by simp only [List.length_append,List.length_singleton];omega)]
      have e2:P++(L0++[y])++x::R=(P++L0)++y::(x::R):=by simp
      have w1:IntKind.wrap .i64 ((P.length:Int)+((L0.length+1:Nat):Int) - 1)=((P++L0).length:Int):=by rw [wi (by omega) (by omega)];simp only [List.length_append];omega
      rw [w1,e2,ix_at (P++L0) y (x::R) rfl]
      simp only [Option.bind_some,g_cmp_eq,cmp_lt,bd]
      by_cases hc:x.ffreq<y.ffreq
      · rw [if_pos hc]
        have e3:(P++L0)++y::(x::R)=(P++L0++[y])++x::R:=by simp
        rw [e3,set_at (P++L0++[y]) x y R (by simp only [List.length_append,List.length_singleton];omega)]
        have e4:(P++L0++[y])++y::R=(P++L0)++y::(y::R):=by simp
        rw [e4,ix_at (P++L0) y (y::R) rfl]
        simp only [Option.bind_some]
        rw [set_at (P++L0) y x (y::R) rfl]
        obtain ⟨L',h1,h2⟩:=ih L0 x (y::R) hd.1 (by omega) (by omega)
        refine ⟨L'++[y],?_,?_,?_,?_⟩
        · rw [show ((P++L0).length:Int)=(P.length:Int)+L0.length by simp,h1];simp
        · refine Srt.mk h2.srt (List.pairwise_singleton _ _) ?_
          intro z hz w hw
          rw [List.mem_singleton] at hw;subst hw
          rcases List.mem_append.1 (h2.sim.symm.mem hz) with q | q
          · exact hd.2.2 z q w (by simp)
          · rw [List.mem_singleton] at q;subst q;exact Int.le_of_lt hc
        · refine Sim.trans (l:=(L0++[y])++[x]) (r:=(L0++[x])++[y]) ?_ (Sim.app h2.sim (Sim.refl _))
          rw [List.append_assoc,List.append_assoc]
          refine Sim.app (Sim.refl _) (Sim.swap ?_)
          intro a ha b hb;rw [List.mem_singleton] at ha hb;subst ha;subst hb
          exact fun e=>absurd e.symm (Int.ne_of_lt hc)
        · simp [h2.len]
      · rw [if_neg hc]
        refine ⟨L0++[y]++[x],by simp,?_,Sim.refl _,rfl⟩
        refine Srt.mk hs (List.pairwise_singleton _ _) ?_
        intro z hz w hw
        rw [List.mem_singleton] at hw;subst hw
        rcases List.mem_append.1 hz with q | q
        · exact Int.le_trans (hd.2.2 z q y (by simp)) (Int.not_lt.1 hc)
        · rw [List.mem_singleton] at q;subst q;exact Int.not_lt.1 hc
theorem ins0 (k:Nat) (P:List Co) (hP:P.length≤100000):∀ (n:Nat) (L L' R Q:List Co),Sorts L L'→R.length<n→L.length+R.length≤100000→L.length+R.length<k →
    ∃ M,g_sc_insertionSortCmpFunc_huff_coin_l0 k (P.length:Int) ((P.length:Int)+L.length+R.length) n ((P.length:Int)+L.length) (P++L'++R++Q)=some (P++M++Q)∧Sorts (L++R) M:=by
  intro n
  induction n with
  | zero=>intro L L' R Q _ h;omega
  | succ n ih =>
    intro L L' R Q hs hn hl hk
    rw [g_sc_insertionSortCmpFunc_huff_coin_l0.eq_2]
    simp only [bd]
    cases R with
    | nil =>
      rw [if_neg (by simp)]
      exact ⟨L',by simp,by simpa using hs⟩
    | cons x R =>
      simp only [List.length_cons] at hn hl hk ⊢
      rw [if_pos (by omega)]
      obtain ⟨M,h1,h2⟩:=ins1 k P hP k L' x (R++Q) hs.srt (by rw [hs.len];omega) (by rw [hs.len];omega)
      rw [hs.len] at h1
      rw [show P++L'++x::R++Q=P++L'++x::(R++Q) by simp,h1]
      simp only [Option.bind_some]
      have h3:Sorts (L++[x]) M:=⟨h2.srt,Sim.trans (Sim.app hs.sim (Sim.refl _)) h2.sim,by rw [h2.len];simp [hs.len]⟩
      obtain ⟨M',h4,h5⟩:=ih (L++[x]) M R Q h3 (by omega) (by simp;omega) (by simp;omega)
      refine ⟨M',?_,by simpa using h5⟩
      rw [wi (by omega) (by omega)]
      rw [← h4]
      congr 1
      · simp;omega
      · simp;omega
      · simp
theorem insertion (k:Nat) (P R Q:List Co) (hP:P.length≤100000) (hl:R.length≤100000) (hk:R.length<k) {b:Int} (hb:b=(P.length:Int)+R.length) :
    ∃ M,g_sc_insertionSortCmpFunc_huff_coin k (P.length:Int) b (P++R++Q)=some (P++M++Q)∧Sorts R M:=by
  unfold g_sc_insertionSortCmpFunc_huff_coin
  subst hb
  cases R with
  | nil =>
    refine ⟨[],?_,List.Pairwise.nil,Sim.refl _,rfl⟩
    obtain ⟨k,rfl⟩:∃ j,k=j+1:=⟨k - 1,by simp at hk;omega⟩
    rw [g_sc_insertionSortCmpFunc_huff_coin_l0.eq_2,wi (by omega) (by omega)]
    simp only [bd]
    rw [if_neg (by simp only [List.length_nil];omega)];rfl
  | cons x R =>
    simp only [List.length_cons] at hl hk
    obtain ⟨M,h1,h2⟩:=ins0 k P hP k [x] [x] R Q ⟨List.pairwise_singleton _ _,Sim.refl _,rfl⟩ (by omega) (by simp;omega) (by simp;omega)
    refine ⟨M,?_,h2⟩
    rw [wi (by omega) (by omega)]
    have:(P.length:Int)+((x::R).length:Int)=(P.length:Int)+([x]:List Co).length+R.length:=by simp;omega
    rw [this,show P++x::R++Q=P++[x]++R++Q by simp,show (P.length:Int)+1=(P.length:Int)+([x]:List Co).length by simp,h1]
    rfl
theorem swap0 (k:Nat) (X M Y:List Co) (a b m:Int) (ha:a=X.length):∀ (n:Nat) (A1 B1 A2 B2:List Co),A1.length=B1.length→A2.length=B2.length→b=(X.length:Int)+A1.length+A2.length+M.length→m=(A1.length:Int)+A2.length →
    A2.length<n→X.length+A1.length+A2.length+M.length+B1.length+B2.length≤1000000 →
    g_sc_swapRangeCmpFunc_huff_coin_l0 k a b m n (A1.length:Int) (X++B1++A2++M++A1++B2++Y)=some (X++B1++B2++M++A1++A2++Y):=by
  subst ha
  intro n
  induction n with
  | zero=>intro A1 B1 A2 B2 _ _ _ _ h;omega
  | succ n ih =>
    intro A1 B1 A2 B2 h1 h2 hb hm hn hl
    rw [g_sc_swapRangeCmpFunc_huff_coin_l0.eq_2]
    simp only [bd]
    cases A2 with
    | nil =>
      cases B2 with
      | nil=>rw [if_neg (by simp at hm;omega)]
      | cons v B2=>simp at h2
    | cons u A2 =>
      cases B2 with
      | nil=>simp at h2
      | cons v B2 =>
        simp only [List.length_cons] at h2 hb hm hn hl
        rw [if_pos (by omega)]
        have w1:IntKind.wrap .i64 (b+(A1.length:Int))=((X++B1++u::A2++M++A1).length:Int):=by rw [wi (by omega) (by omega)];simp only [List.length_append,List.length_cons];omega
        have w2:IntKind.wrap .i64 ((X.length:Int)+(A1.length:Int))=((X++B1).length:Int):=by rw [wi (by omega) (by omega)];simp only [List.length_append];omega
        rw [w1,w2]
        have e1:X++B1++u::A2++M++A1++v::B2++Y=(X++B1++u::A2++M++A1)++v::(B2++Y):=by simp
        have e2:X++B1++u::A2++M++A1++v::B2++Y=(X++B1)++u::(A2++M++A1++v::B2++Y):=by simp
        rw [e1,ix_at _ v _ rfl,← e1]
        simp only [Option.bind_some]
        rw [e2,ix_at (X++B1) u _ rfl]
        simp only [Option.bind_some,co_eta]
        rw [set_at (X++B1) u v _ rfl]
        have e3:(X++B1)++v::(A2++M++A1++v::B2++Y)=(X++B1++v::A2++M++A1)++v::(B2++Y):=by simp
        have l3:((X++B1++u::A2++M++A1).length:Int)=((X++B1++v::A2++M++A1).length:Int):=by simp
        rw [l3,e3,ix_at _ v _ rfl]
        simp only [Option.bind_some]
        rw [set_at _ v u _ rfl,wi (by omega) (by omega)]
        have:=ih (A1++[u]) (B1++[v]) A2 B2 (by simp [h1]) (by omega) (by simp;omega) (by simp;omega) (by omega) (by simp;omega)
        rw [show ((A1++[u]).length:Int)=(A1.length:Int)+1 by simp] at this
        rw [show (X++B1++v::A2++M++A1)++u::(B2++Y)=X++(B1++[v])++A2++M++(A1++[u])++B2++Y by simp,this]
        simp
theorem swapR (k:Nat) (X A M B Y:List Co) {a b n:Int} (ha:a=X.length) (hb:b=(X.length:Int)+A.length+M.length) (hn:n=A.length) (hAB:A.length=B.length) (hl:X.length+A.length+M.length+B.length≤1000000) (hk:A.length<k) :
    g_sc_swapRangeCmpFunc_huff_coin k a b n (X++A++M++B++Y)=some (X++B++M++A++Y):=by
  unfold g_sc_swapRangeCmpFunc_huff_coin
  have:=swap0 k X M Y a b n ha k [] [] A B rfl hAB (by simp;omega) (by simp;omega) hk (by simp;omega)
  simp only [List.append_nil,List.length_nil] at this
  rw [show ((0:Nat):Int)=0 from rfl] at this
  rw [this];rfl
theorem rot0 (k:Nat) (m:Int):∀ (n:Nat) (X A B Y:List Co),m=(X.length:Int)+A.length→0<A.length→0<B.length→A.length+B.length≤n→X.length+A.length+B.length≤1000000→A.length+B.length<k →
    ∃ X' A' B' Y',g_sc_rotateCmpFunc_huff_coin_l0 k m n (A.length:Int) (B.length:Int) (X++A++B++Y)=some ((A'.length:Int),X'++A'++B'++Y')∧A'.length=B'.length∧m=(X'.length:Int)+A'.length∧X'++B'++A'++Y'=X++B++A++Y∧X'.length+A'.length+B'.length≤1000000∧A'.length<k:=by
  intro n
  induction n with
  | zero=>intro X A B Y _ h1 h2 h;omega
  | succ n ih =>
    intro X A B Y hm hA hB hn hl hk
    rw [g_sc_rotateCmpFunc_huff_coin_l0.eq_2]
    simp only [bnd',bd]
    by_cases h:A.length=B.length
    · rw [if_pos (by omega)]
      exact ⟨X,A,B,Y,rfl,h,hm,rfl,hl,by omega⟩
    · rw [if_neg (by omega)]
      by_cases hc:B.length<A.length
      · rw [if_pos (by omega)]
        -- the left one is longer: its beginning changes places with the right one
        have hsp:A=A.take B.length++A.drop B.length:=(List.take_append_drop _ _).symm
        generalize hA1:A.take B.length=A1 at hsp
        generalize hA2:A.drop B.length=A2 at hsp
        have l1:A1.length=B.length:=by rw [← hA1];simp;omega
        have l2:A2.length=A.length - B.length:=by rw [← hA2];simp
        rw [wi (n:=m - A.length) (by omega) (by omega),wi (n:=(A.length:Int) - B.length) (by omega) (by omega)]
        have:=swapR k X A1 A2 B Y (a:=m - A.length) (b:=m) (n:=(B.length:Int)) (by omega) (by omega) (by omega) l1 (by omega) (by omega)
        rw [show X++A++B++Y=X++A1++A2++B++Y by rw [hsp];simp,this]
        simp only [Option.bind_some]
        obtain ⟨X',A',B',Y',r1,r2,r3,r4,r5,r6⟩:=ih (X++B) A2 A1 Y (by simp;omega) (by omega) (by omega) (by omega) (by simp;omega) (by omega)
        refine ⟨X',A',B',Y',?_,r2,r3,?_,r5,r6⟩
        · rw [show (A.length:Int) - B.length=(A2.length:Int) by omega,← l1,← r1]
        · rw [r4,hsp];simp
      · rw [if_neg (by omega)]
        have hsp:B=B.take (B.length - A.length)++B.drop (B.length - A.length):=(List.take_append_drop _ _).symm
        generalize hB1:B.take (B.length - A.length)=B1 at hsp
        generalize hB2:B.drop (B.length - A.length)=B2 at hsp
        have l1:B1.length=B.length - A.length:=by rw [← hB1];simp
        have l2:B2.length=A.length:=by rw [← hB2];simp;omega
        rw [wi (n:=m+B.length) (by omega) (by omega),wi (n:=m - A.length) (by omega) (by omega),wi (n:=(B.length:Int) - A.length) (by omega) (by omega),wi (by omega) (by omega)]
        simp only [Option.bind_some]
        have:=swapR k X A B1 B2 Y (a:=m - A.length) (b:=m+B.length - A.length) (n:=(A.length:Int)) (by omega) (by omega) rfl l2.symm (by omega) (by omega)
        rw [show X++A++B++Y=X++A++B1++B2++Y by rw [hsp];simp,this]
        simp only [Option.bind_some]
        obtain ⟨X',A',B',Y',r1,r2,r3,r4,r5,r6⟩:=ih X B2 B1 (A++Y) (by omega) (by omega) (by omega) (by omega) (by omega) (by omega)
        refine ⟨X',A',B',Y',?_,r2,r3,?_,r5,r6⟩
        · rw [show (B.length:Int) - A.length=(B1.length:Int) by omega,← l2,← r1];simp
        · rw [r4,hsp];simp
theorem rotate (k:Nat) (X A B Y:List Co) {a m b:Int} (ha:a=X.length) (hm:m=(X.length:Int)+A.length) (hb:b=(X.length:Int)+A.length+B.length) (hA:0<A.length) (hB:0<B.length) (hl:X.length+A.length+B.length≤1000000) (hk:A.length+B.length<k) :
    g_sc_rotateCmpFunc_huff_coin k a m b (X++A++B++Y)=some (X++B++A++Y):=by
  unfold g_sc_rotateCmpFunc_huff_coin
  obtain ⟨X',A',B',Y',r1,r2,r3,r4,r5,r6⟩:=rot0 k m k X A B Y hm hA hB (by omega) hl hk
  rw [wi (n:=m - a) (by omega) (by omega),wi (n:=b - m) (by omega) (by omega),show m - a=(A.length:Int) by omega,show b - m=(B.length:Int) by omega,r1]
  simp only [Option.bind_some]
  rw [wi (n:=m - A'.length) (by omega) (by omega)]
  have:=swapR k X' A' [] B' Y' (a:=m - A'.length) (b:=m) (n:=(A'.length:Int)) (by omega) (by simp;omega) rfl r2 (by simp;omega) r6
  simp only [List.append_nil] at this
  rw [this,← r4];rfl
abbrev ky (x:List Co) (c:Nat):Int:=(x.getD c default).ffreq
theorem ixk {x:List Co} {c:Nat} (h:c<x.length):ix x (c:Int)=some (x.getD c default):=by
  rw [ix_nat h];simp [List.getD_eq_getElem?_getD,List.getElem?_eq_getElem h]
theorem wUh (n:Int):IntKind.wrap .u64 n=n%18446744073709551616:=by
  simp [IntKind.wrap,IntKind.bits,IntKind.signed]
theorem half (i j:Nat) (hi:i≤1000000) (hj:j≤1000000):IntKind.wrap .i64 (shrI .u64 (IntKind.wrap .u64 (IntKind.wrap .i64 ((i:Int)+j))) 1)=(((i+j) / 2:Nat):Int):=by
  have h1:IntKind.wrap .i64 ((i:Int)+j)=(i:Int)+j:=wi (by omega) (by omega)
  have h2:IntKind.wrap .u64 ((i:Int)+j)=(i:Int)+j:=by rw [wUh];omega
  have h3:shrI .u64 ((i:Int)+j) 1=(((i+j) / 2:Nat):Int):=by
    show ((i:Int)+j).fdiv 2=_
    rw [Int.fdiv_eq_ediv_of_nonneg _ (by decide)];omega
  rw [h1,h2,h3,wi (by omega) (by omega)]
theorem halfw (i j:Nat) (hi:i≤1000000) (hj:j≤1000000):shrI .u64 (IntKind.wrap .u64 (IntKind.wrap .i64 ((i:Int)+j))) 1=(((i+j) / 2:Nat):Int):=by
  have h1:IntKind.wrap .i64 ((i:Int)+j)=(i:Int)+j:=wi (by omega) (by omega)
  have h2:IntKind.wrap .u64 ((i:Int)+j)=(i:Int)+j:=by rw [wUh];omega
  have h3:shrI .u64 ((i:Int)+j) 1=(((i+j) / 2:Nat):Int):=by
    show ((i:Int)+j).fdiv 2=_
    rw [Int.fdiv_eq_ediv_of_nonneg _ (by decide)];omega
  rw [h1,h2,h3]
theorem bis0 (k:Nat) (x:List Co) (a m b:Nat) (ha:a<x.length) (hb:b≤x.length) (hl:x.length≤1000000) (hs:∀ c d,m≤c→c≤d→d<b→ky x c≤ky x d) :
    ∀ (n i j:Nat),m≤i→i≤j→j≤b→j - i<n→(∀ c,m≤c→c<i→ky x c<ky x a)→(∀ c,j≤c→c<b→¬ ky x c<ky x a) →
    ∃ r:Nat,g_sc_symMergeCmpFunc_huff_coin_l0 k a x n i j=some (r:Int)∧m≤r∧r≤b∧(∀ c,m≤c→c<r→ky x c<ky x a)∧(∀ c,r≤c→c<b→¬ ky x c<ky x a):=by
  intro n
  induction n with
  | zero=>intro i j _ _ _ h;omega
  | succ n ih =>
    intro i j hi hij hj hn h1 h2
    rw [g_sc_symMergeCmpFunc_huff_coin_l0.eq_2]
    simp only [bd,Option.bind_some]
    by_cases h:i<j
    · rw [if_pos (by omega),halfw i j (by omega) (by omega),wi (n:=(((i+j) / 2:Nat):Int)) (by omega) (by omega),ixk (c:=(i+j) / 2) (by omega),ixk ha]
      simp only [Option.bind_some,g_cmp_eq,cmp_lt]
      by_cases hc:ky x ((i+j) / 2)<ky x a
      · rw [if_pos hc,wi (by omega) (by omega)]
        obtain ⟨r,e,q⟩:=ih ((i+j) / 2+1) j (by omega) (by omega) hj (by omega) (fun c hc1 hc2=>Int.lt_of_le_of_lt (hs c ((i+j) / 2) hc1 (by omega) (by omega)) hc) h2
        exact ⟨r,by rw [← e];congr 1,q⟩
      · rw [if_neg hc]
        exact ih i ((i+j) / 2) hi (by omega) (by omega) (by omega) h1 (fun c hc1 hc2 hlt=>hc (Int.lt_of_le_of_lt (hs ((i+j) / 2) c (by omega) hc1 hc2) hlt))
    · rw [if_neg (by omega)]
      obtain rfl:i=j:=by omega
      exact ⟨i,rfl,hi,hj,h1,h2⟩
theorem bis2 (k:Nat) (x:List Co) (a m b:Nat) (ha:a<x.length) (hb:b≤x.length) (hl:x.length≤1000000) (hs:∀ c d,m≤c→c≤d→d<b→ky x c≤ky x d) :
    ∀ (n i j:Nat),m≤i→i≤j→j≤b→j - i<n→(∀ c,m≤c→c<i→¬ ky x a<ky x c)→(∀ c,j≤c→c<b→ky x a<ky x c) →
    ∃ r:Nat,g_sc_symMergeCmpFunc_huff_coin_l2 k a x n i j=some (r:Int)∧m≤r∧r≤b∧(∀ c,m≤c→c<r→¬ ky x a<ky x c)∧(∀ c,r≤c→c<b→ky x a<ky x c):=by
  intro n
  induction n with
  | zero=>intro i j _ _ _ h;omega
  | succ n ih =>
    intro i j hi hij hj hn h1 h2
    rw [g_sc_symMergeCmpFunc_huff_coin_l2.eq_2]
    simp only [bd,Option.bind_some]
    by_cases h:i<j
    · rw [if_pos (by omega),halfw i j (by omega) (by omega),wi (n:=(((i+j) / 2:Nat):Int)) (by omega) (by omega),ixk (c:=(i+j) / 2) (by omega),ixk ha]
      simp only [Option.bind_some,g_cmp_eq,cmp_lt,bnd']
      by_cases hc:ky x a<ky x ((i+j) / 2)
      · rw [if_pos hc]
        exact ih i ((i+j) / 2) hi (by omega) (by omega) (by omega) h1 (fun c hc1 hc2=>Int.lt_of_lt_of_le hc (hs ((i+j) / 2) c (by omega) hc1 hc2))
      · rw [if_neg hc,wi (by omega) (by omega)]
        obtain ⟨r,e,q⟩:=ih ((i+j) / 2+1) j (by omega) (by omega) hj (by omega) (fun c hc1 hc2 hlt=>hc (Int.lt_of_lt_of_le hlt (hs c ((i+j) / 2) hc1 (by omega) (by omega)))) h2
        exact ⟨r,by rw [← e];congr 1,q⟩
    · rw [if_neg (by omega)]
      obtain rfl:i=j:=by omega
      exact ⟨i,rfl,hi,hj,h1,h2⟩
theorem bis4 (k:Nat) (x:List Co) (p1 s0 r0:Nat) (hp:p1≤2000000) (hl:x.length≤1000000) (hr:r0≤x.length) (hb:∀ c,s0≤c→c<r0→c<x.length∧c+1≤p1∧p1 - 1 - c<x.length)
    (hs:∀ c d,s0≤c→c≤d→d<r0→ky x c≤ky x d∧ky x (p1 - 1 - d)≤ky x (p1 - 1 - c)) :
    ∀ (n i j:Nat),s0≤i→i≤j→j≤r0→j - i<n→(∀ c,s0≤c→c<i→¬ ky x (p1 - 1 - c)<ky x c)→(∀ c,j≤c→c<r0→ky x (p1 - 1 - c)<ky x c) →
    ∃ r:Nat,g_sc_symMergeCmpFunc_huff_coin_l4 k x (p1:Int) n i j=some (r:Int)∧s0≤r∧r≤r0∧(∀ c,s0≤c→c<r→¬ ky x (p1 - 1 - c)<ky x c)∧(∀ c,r≤c→c<r0→ky x (p1 - 1 - c)<ky x c):=by
  intro n
  induction n with
  | zero=>intro i j _ _ _ h;omega
  | succ n ih =>
    intro i j hi hij hj hn h1 h2
    rw [g_sc_symMergeCmpFunc_huff_coin_l4.eq_2]
    simp only [bd,Option.bind_some]
    by_cases h:i<j
    · have hm:=hb ((i+j) / 2) (by omega) (by omega)
      rw [if_pos (by omega),halfw i j (by omega) (by omega),wi (n:=(((i+j) / 2:Nat):Int)) (by omega) (by omega),wi (n:=(p1:Int) - 1) (by omega) (by omega),wi (n:=(p1:Int) - 1 - (((i+j) / 2:Nat):Int)) (by omega) (by omega),
        show (p1:Int) - 1 - (((i+j) / 2:Nat):Int)=((p1 - 1 - (i+j) / 2:Nat):Int) by omega,ixk (c:=(i+j) / 2) hm.1,ixk hm.2.2]
      simp only [Option.bind_some,g_cmp_eq,cmp_lt,bnd']
      by_cases hc:ky x (p1 - 1 - (i+j) / 2)<ky x ((i+j) / 2)
      · rw [if_pos hc]
        refine ih i ((i+j) / 2) hi (by omega) (by omega) (by omega) h1 (fun c hc1 hc2=>?_)
        have:=hs ((i+j) / 2) c (by omega) hc1 hc2
        omega
      · rw [if_neg hc,wi (by omega) (by omega)]
        obtain ⟨r,e,q⟩:=ih ((i+j) / 2+1) j (by omega) (by omega) hj (by omega) (fun c hc1 hc2 hlt=>by
          have:=hs c ((i+j) / 2) hc1 (by omega) (by omega)
          omega) h2
        exact ⟨r,by rw [← e];congr 1,q⟩
    · rw [if_neg (by omega)]
      obtain rfl:i=j:=by omega
      exact ⟨i,rfl,hi,hj,h1,h2⟩
theorem wander1 (k:Nat):∀ (n:Nat) (X L Y:List Co) (u:Co) (i:Int),i=(X.length:Int)+L.length+1→L.length<n→X.length+L.length≤1000000 →
    g_sc_symMergeCmpFunc_huff_coin_l1 k i n (X.length:Int) (X++u::L++Y)=some (X++L++u::Y):=by
  intro n
  induction n with
  | zero=>intro X L Y u i _ h;omega
  | succ n ih =>
    intro X L Y u i hi hn hl
    rw [g_sc_symMergeCmpFunc_huff_coin_l1.eq_2]
    simp only [bd,Option.bind_some]
    cases L with
    | nil=>rw [wi (by omega) (by omega),if_neg (by simp at hi;omega)];simp
    | cons v L =>
      simp only [List.length_cons] at hi hn hl
      rw [wi (n:=i - 1) (by omega) (by omega),if_pos (by omega)]
      have w:IntKind.wrap .i64 ((X.length:Int)+1)=((X++[u]).length:Int):=by rw [wi (by omega) (by omega)];simp
      rw [w]
      have e1:X++u::v::L++Y=(X++[u])++v::(L++Y):=by simp
      have e2:X++u::v::L++Y=X++u::(v::L++Y):=by simp
      rw [e1,ix_at (X++[u]) v _ rfl,← e1,e2,ix_at X u _ rfl]
      simp only [Option.bind_some,co_eta]
      rw [set_at X u v _ rfl]
      have e3:X++v::(v::L++Y)=(X++[v])++v::(L++Y):=by simp
      have l3:((X++[u]).length:Int)=((X++[v]).length:Int):=by simp
      rw [l3,e3,ix_at (X++[v]) v _ rfl]
      simp only [Option.bind_some]
      rw [set_at (X++[v]) v u _ rfl]
      have:=ih (X++[v]) L Y u i (by simp;omega) (by omega) (by simp;omega)
      rw [show (X++[v])++u::(L++Y)=(X++[v])++u::L++Y by simp,this];simp
theorem wander3 (k:Nat):∀ (n:Nat) (L X Y:List Co) (u:Co) (i:Int),i=(X.length:Int)→L.length<n→X.length+L.length≤1000000 →
    g_sc_symMergeCmpFunc_huff_coin_l3 k i n ((X.length:Int)+L.length) (X++L++u::Y)=some (X++u::L++Y):=by
  intro n
  induction n with
  | zero=>intro L X Y u i _ h;omega
  | succ n ih =>
    intro L X Y u i hi hn hl
    rw [g_sc_symMergeCmpFunc_huff_coin_l3.eq_2]
    simp only [bd]
    rcases List.eq_nil_or_concat L with e | ⟨L,v,e⟩
    · subst e
      rw [if_neg (by simp;omega)];simp
    · rw [List.concat_eq_append] at e;subst e
      have hlen:(L++[v]).length=L.length+1:=by simp
      rw [hlen] at hn hl ⊢
      rw [if_pos (by omega)]
      have w:IntKind.wrap .i64 ((X.length:Int)+((L.length+1:Nat):Int) - 1)=((X++L).length:Int):=by rw [wi (by omega) (by omega)];simp only [List.length_append];omega
      rw [w]
      have e1:X++(L++[v])++u::Y=(X++L)++v::(u::Y):=by simp
      have e2:X++(L++[v])++u::Y=(X++L++[v])++u::Y:=by simp
      rw [e1,ix_at (X++L) v _ rfl,← e1,e2,ix_at (X++L++[v]) u _ (by simp only [List.length_append,List.length_singleton];omega)]
      simp only [Option.bind_some,co_eta]
      rw [set_at (X++L++[v]) u v _ (by simp only [List.length_append,List.length_singleton];omega)]
      have e3:(X++L++[v])++v::Y=(X++L)++v::(v::Y):=by simp
      rw [e3,ix_at (X++L) v _ rfl]
      simp only [Option.bind_some]
      rw [set_at (X++L) v u _ rfl]
      have:=ih L X (v::Y) u i hi (by omega) (by omega)
      rw [show ((X++L).length:Int)=(X.length:Int)+L.length by simp,this];simp
theorem ky_app {P Q:List Co} {c:Nat}:ky (P++Q) (P.length+c)=ky Q c:=by
  have:(P++Q)[P.length+c]? = Q[c]? := by rw [List.getElem?_append_right (by omega)];simp
  simp only [ky,List.getD_eq_getElem?_getD,this]
theorem ky_l {P Q:List Co} {c:Nat} (h:c<P.length):ky (P++Q) c=ky P c:=by simp [ky,List.getD_eq_getElem?_getD,List.getElem?_append_left h]
theorem mem_ky {P:List Co} {x:Co} (h:x∈P):∃ c,c<P.length∧ky P c=x.ffreq:=by
  obtain ⟨c,hc,e⟩:=List.mem_iff_getElem.1 h
  exact ⟨c,hc,by simp [ky,List.getD_eq_getElem?_getD,List.getElem?_eq_getElem hc,e]⟩
theorem srt_ky {P:List Co} (h:Srt kf P):∀ c d,c≤d→d<P.length→ky P c≤ky P d:=by
  intro c d hcd hd
  rcases Nat.lt_or_eq_of_le hcd with q | q
  · have:=List.pairwise_iff_getElem.1 h c d (by omega) hd q
    simpa [ky,List.getD_eq_getElem?_getD,List.getElem?_eq_getElem hd,List.getElem?_eq_getElem (show c<P.length by omega)] using this
  · subst q;exact Int.le_refl _
theorem ky_mid {U V W:List Co} {c d:Nat} (h:c<V.length) (e:d=U.length+c):ky (U++V++W) d=ky V c:=by
  subst e;rw [List.append_assoc,ky_app,ky_l h]
end Go.Proofs.Ytmmeanjjfhimjaa.W
