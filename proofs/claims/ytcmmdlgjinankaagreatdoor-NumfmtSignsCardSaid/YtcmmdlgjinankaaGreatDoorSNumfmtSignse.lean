/- Texts joined: part 5 of what LNumfmtSigns stands on. -/
import Derived.Test.YtcmmdlgjinankaaGreatDoorSNumfmtSignsd
namespace Go.Proofs.YtcmmdlgjinankaaGreatDoor.W
open Go Go.Q Go.Proofs
set_option linter.unusedVariables false
set_option linter.unusedSimpArgs false
set_option maxRecDepth 100000
set_option maxHeartbeats 4000000
theorem s_utf_Xml (k:Nat) (x1:ByteArray) (x2:Int) (H:g_utf_Xml k x1=some x2):Go.Q.Spec Tryz.prog 72 0 [.lit (.string x1)] Mem.nil (fun o M=>o=.ret (.lit (.int .i64 x2))∧M=Mem.nil):=by
 unfold g_utf_Xml at H;refine bo Tryz.func72 [] [.tmp 2] 27 fun cx hnp=>?_;(iterate 3 refine sp ?_);refine WP.seq ?_;(iterate 2 refine sp ?_);obtain ⟨x3,h1,H⟩:=bnd H;refine WPL.c (rc [] [] 0 [] (s_u8_ValidString k x1 x3 h1)) rfl ?_;(iterate 2 refine sp ?_);refine cq H (fun hb1 H=>?_) fun hb1 H=>?_
 · (iterate 4 refine sp ?_);have q0:=j1 H;subst q0;exact W.now (Then.r (mb []))
 (iterate 3 refine sp ?_);refine WP.seq ?_;(iterate 2 refine sp ?_);refine WPL.d (d_range Tryz.underlying9 rfl rfl) rfl ?_;(iterate 2 refine sp ?_);refine WP.cv (Cv.weak (E':=(Env.none.upd 9 (.ptr 0 0))) (M':=(Mem.nil.push (.obj (.stringIter x1 0)))) [0] hnp ⟨rfl,AA1,by decide,rfl,trivial⟩ (LeE.u (LeE.none rfl rfl))) ?_;obtain ⟨y1,H1,H⟩:=bnd H;refine WP.monoW (Q:=fun x E M=>match (generalizing:=false) y1 with | (Sum.inl _)=>x=.ret∧E=(Env.none.upd 2 (.lit (.int .i64 20)))∧M=Mem.nil | (Sum.inr _)=>x=.exit 0∧E=Env.none∧M=Mem.nil) ?_ ?_
 · refine WP.loop (β:=Nat) (fun n b=>g_utf_Xml_l0 k x1 n b=some y1) (fun b=>(Env.none.upd 9 (.ptr 0 0))) (fun b=>(Mem.nil.push (.obj (.stringIter x1 b)))) k 0 H1 rfl rfl ?_;rintro n x4 H;obtain _ | n:=n
   · exact nf rfl H
   rw [g_utf_Xml_l0.eq_2] at H;show WP _ _ _ _ (Env.none.upd 9 (.ptr 0 0)) (Mem.nil.push (.obj (.stringIter x1 x4))) _;refine sp ?_;refine WPL.splitB (decide (x4<ByteArray.size x1)) (fun hb2=>?_) (fun hb2=>?_)
   · replace H:=cnt hb2 H;refine WPL.d (d_next rfl rfl hb2) rfl ?_;(iterate 2 refine sp ?_);refine WP.seq ?_;refine WP.condT rfl ?_;(iterate 9 refine sp ?_);refine WP.seq ?_;obtain ⟨x5,H2,H⟩:=bnd H;refine mo .normal (((Env.none.upd 4 (.lit (.int .i32 (((Utf8.decode x1 x4).1:Nat):Int)))).upd 9 (.ptr 0 0)).upd 13 (.lit (.bool x5))) (Mem.nil.push (.obj (.stringIter x1 (x4+(Utf8.decode x1 x4).2)))) ?_ ?_
     · clear H;have H:=H2;clear H2;(iterate 2 refine sp ?_);obtain ⟨x6,h2,H⟩:=bnd H;refine sn (nm_bool h2) ?_;(iterate 2 refine sp ?_);refine cq H (fun hb3 H=>?_) fun hb3 H=>?_
       · refine sp ?_;have q0:=j1 H;subst q0;exact wq [0]
       (iterate 2 refine sp ?_);obtain ⟨x7,h3,H⟩:=bnd H;refine sn (nm_bool h3) ?_;(iterate 2 refine sp ?_);refine cq H (fun hb4 H=>?_) fun hb4 H=>?_
       · refine sp ?_;have q0:=j1 H;subst q0;exact wq [0]
       (iterate 2 refine sp ?_);obtain ⟨x8,h4,H⟩:=bnd H;refine sn (nm_bool h4) ?_;refine sp ?_;refine WPL.nilW ?_;have q0:=j1 H;subst q0;exact wq [0]
     (iterate 2 refine sp ?_);refine cq H (fun hb5 H=>?_) fun hb5 H=>?_
     · refine sp ?_;exact wq [0] (InBlock.n (InBlock.n (Then.n ⟨n,(x4+(Utf8.decode x1 x4).2),Nat.lt_succ_self n,H,rfl,rfl⟩)))
     refine WP.seq ?_;obtain ⟨x9,H3,H⟩:=bnd H;refine mo .normal ((Env.none.upd 9 (.ptr 0 0)).upd 20 (.lit (.bool x9))) (Mem.nil.push (.obj (.stringIter x1 (x4+(Utf8.decode x1 x4).2)))) ?_ ?_
     · clear H;have H:=H3;clear H3;(iterate 2 refine sp ?_);obtain ⟨x10,h5,H⟩:=bnd H;refine sn (nm_bool h5) ?_;(iterate 2 refine sp ?_);refine cq H (fun hb6 H=>?_) fun hb6 H=>?_
       · refine sp ?_;have q0:=j1 H;subst q0;exact wq [0]
       (iterate 2 refine sp ?_);obtain ⟨x11,h6,H⟩:=bnd H;refine sn (nm_bool h6) ?_;(iterate 2 refine sp ?_);refine cq H (fun hb7 H=>?_) fun hb7 H=>?_
       · refine sp ?_;have q0:=j1 H;subst q0;exact wq [0]
       (iterate 2 refine sp ?_);obtain ⟨x12,h7,H⟩:=bnd H;refine sn (nm_bool h7) ?_;refine sp ?_;refine WPL.nilW ?_;have q0:=j1 H;subst q0;exact wq [0]
     (iterate 2 refine sp ?_);refine cq H (fun hb8 H=>?_) fun hb8 H=>?_
     · (iterate 4 refine sp ?_);have q0:=j1 H;subst q0;exact wq [] (InBlock.r (InBlock.r (Then.r r3)))
     refine sp ?_;exact wq [0] (InBlock.n (InBlock.n (Then.n ⟨n,(x4+(Utf8.decode x1 x4).2),Nat.lt_succ_self n,H,rfl,rfl⟩)))
   replace H:=cnf hb2 H;refine WPL.qq (q_nextEnd rfl rfl hb2) ?_;(iterate 2 refine sp ?_);refine WP.seq ?_;refine WP.condF rfl ?_;refine sp ?_;have q0:=j1 H;subst q0;exact wq [] (Then.x (Then.x r3))
 rcases y1 with _ | _
 · rintro _ _ _ ⟨rfl,rfl,rfl⟩;have q0:=j1 H;subst q0;exact W.now (InBlock.r (Then.r (mb [])))
 rintro _ _ _ ⟨rfl,rfl,rfl⟩;(iterate 7 refine sp ?_);have q0:=j1 H;subst q0;exact W.now (mb [])
theorem s_val_names (k:Nat) (H:g_val_names k=some ()):Go.Q.Spec Tryz.prog 75 0 [] Mem.nil (fun o M=>o=.ret (.ro (Rd.slice Rd.str) false ([(ByteArray.mk #[]),(ByteArray.mk #[35,68,73,86,47,48,33]),(ByteArray.mk #[35,86,65,76,85,69,33]),(ByteArray.mk #[35,82,69,70,33]),(ByteArray.mk #[35,78,65,77,69,63]),(ByteArray.mk #[35,78,85,77,33]),(ByteArray.mk #[35,78,47,65]),(ByteArray.mk #[35,67,89,67,76,69,33])]:List ByteArray))∧M=Mem.nil):=by
 unfold g_val_names at H;refine bo Tryz.func75 [] [.tmp 0] 2 fun cx hnp=>?_;(iterate 4 refine sp ?_);refine WPL.d (d_buildSlice (ds:=([(ByteArray.mk #[]),(ByteArray.mk #[35,68,73,86,47,48,33]),(ByteArray.mk #[35,86,65,76,85,69,33]),(ByteArray.mk #[35,82,69,70,33]),(ByteArray.mk #[35,78,65,77,69,63]),(ByteArray.mk #[35,78,85,77,33]),(ByteArray.mk #[35,78,47,65]),(ByteArray.mk #[35,67,89,67,76,69,33])]:List ByteArray)) (R:=Rd.str) li130 rfl rfl rfl rfl rfl (JoinRows.cons1 Joins.sc rfl (JoinRows.cons1 Joins.sc rfl (JoinRows.cons1 Joins.sc rfl (JoinRows.cons1 Joins.sc rfl (JoinRows.cons1 Joins.sc rfl (JoinRows.cons1 Joins.sc rfl (JoinRows.cons1 Joins.sc rfl (JoinRows.cons1 Joins.sc rfl JoinRows.nil)))))))) rfl rfl) rfl ?_;(iterate 3 refine sp ?_);refine W.cv (Cv.frzRow (i:=0) rfl rfl hnp rfl rfl) rfl ?_;exact W.now (mb [])
theorem s_val_ErrName (k:Nat) (x1:Int) (x2:ByteArray) (H:g_val_ErrName k x1=some x2):Go.Q.Spec Tryz.prog 46 0 [.lit (.int .i64 x1)] Mem.nil (fun o M=>o=.ret (.lit (.string x2))∧M=Mem.nil):=by
 unfold g_val_ErrName at H;refine bo Tryz.func46 [] [.tmp 2] 15 fun cx hnp=>?_;(iterate 3 refine sp ?_);refine WP.seq ?_;refine WP.seq ?_;obtain ⟨x3,H1,H⟩:=bnd H;refine mo .normal ((Env.none.upd 0 (.lit (.int .i64 x1))).upd 10 (.lit (.bool x3))) Mem.nil ?_ ?_
 · clear H;have H:=H1;clear H1;(iterate 4 refine sp ?_);refine ws 5 H (fun hb1 H=>?_) fun hb1 H=>?_
   · (iterate 5 refine sp ?_);refine WPL.nilW ?_;have q0:=j1 H;subst q0;exact wq []
   refine sp ?_;obtain ⟨_,h1,H⟩:=bnd H;refine WPL.cg rfl rfl (lb hb1) (rc [] [] 0 [] (s_val_names k h1)) rfl ?_;obtain ⟨x4,h2,H⟩:=bnd H;refine sn (nm_int h2) ?_;(iterate 2 refine sp ?_);refine WPL.nilW ?_;have q0:=j1 H;subst q0;exact wq []
 (iterate 2 refine sp ?_);refine cq H (fun hb2 H=>?_) fun hb2 H=>?_
 · (iterate 4 refine sp ?_);have q0:=j1 H;subst q0;exact W.now (Then.r (mb []))
 (iterate 4 refine sp ?_);obtain ⟨_,h3,H⟩:=bnd H;refine WPL.c (rc [] [] 0 [] (s_val_names k h3)) rfl ?_;refine sp ?_;obtain ⟨x5,h4,H⟩:=bnd H;(iterate 5 refine sp ?_);have q0:=j1 H;subst q0;exact W.now (mb [])
theorem s_val_Err (k:Nat) (x1:Int) (x2:Int) (H:g_val_Err k x1=some x2):Go.Q.Spec Tryz.prog 43 0 [.lit (.int .i64 x1)] Mem.nil (fun o M=>o=.ret (.agg [.lit (.int .i64 4),.lit (.int .i64 0),.lit (.int .i64 0),.lit (.string (ByteArray.mk #[])),.lit (.bool false),.lit (.int .i64 x2)])∧M=(Mem.nil.push (.cells 31 [.lit (.int .i64 4),.lit (.int .i64 0),.lit (.int .i64 0),.lit (.string (ByteArray.mk #[])),.lit (.bool false),.lit (.int .i64 x2)]))):=by
 unfold g_val_Err at H;refine bo Tryz.func43 [(31,6)] [.cell 2 31] 8 fun cx hnp=>?_;(iterate 3 refine sp ?_);refine WP.seq ?_;obtain ⟨x3,H1,H⟩:=bnd H;refine mo .normal ((Env.none.upd 0 (.lit (.int .i64 x3))).upd 2 (.ptr 0 0)) (Mem.nil.push (.cells 31 [.lit (.int .i64 0),.lit (.int .i64 0),.lit (.int .i64 0),.lit (.string (ByteArray.mk #[])),.lit (.bool false),.lit (.int .i64 0)])) ?_ ?_
 · clear H;have H:=H1;clear H1;(iterate 2 refine sp ?_);obtain ⟨x4,h1,H⟩:=bnd H;refine WPL.c (rc [] [] 1 [] (s_val_ErrName k x1 x4 h1)) rfl ?_;obtain ⟨x5,h2,H⟩:=bnd H;refine sn (nm_bool h2) ?_;refine sp ?_;refine cq H (fun hb1 H=>?_) fun hb1 H=>?_
   · (iterate 2 refine sp ?_);refine WPL.nilW ?_;have q0:=j1 H;subst q0;exact wq [0]
   refine sp ?_;have q0:=j1 H;subst q0;exact wq [0]
 (iterate 8 refine sp ?_);have q0:=j1 H;subst q0;exact W.now (mb [0])
theorem s_val_Str (k:Nat) (x1:ByteArray) (x2:Int) (x3:ByteArray) (x4:Int) (H:g_val_Str k x1=some (x2,x3,x4)):Go.Q.Spec Tryz.prog 42 0 [.lit (.string x1)] Mem.nil (fun o M=>o=.ret (.agg [.lit (.int .i64 x2),.lit (.int .i64 0),.lit (.int .i64 0),.lit (.string x3),.lit (.bool false),.lit (.int .i64 x4)])∧M=(Mem.nil.push (.cells 31 [.lit (.int .i64 x2),.lit (.int .i64 0),.lit (.int .i64 0),.lit (.string x3),.lit (.bool false),.lit (.int .i64 x4)]))):=by
 unfold g_val_Str at H;refine bo Tryz.func42 [(31,6)] [.cell 2 31] 14 fun cx hnp=>?_;(iterate 3 refine sp ?_);refine WP.seq ?_;refine WP.seq ?_;obtain ⟨x5,H1,H⟩:=bnd H;refine mo .normal (((Env.none.upd 0 (.lit (.string x1))).upd 2 (.ptr 0 0)).upd 10 (.lit (.bool x5))) (Mem.nil.push (.cells 31 [.lit (.int .i64 0),.lit (.int .i64 0),.lit (.int .i64 0),.lit (.string (ByteArray.mk #[])),.lit (.bool false),.lit (.int .i64 0)])) ?_ ?_
 · clear H;have H:=H1;clear H1;(iterate 3 refine sp ?_);obtain ⟨x6,h1,H⟩:=bnd H;refine sn (nm_bool h1) ?_;refine sp ?_;refine ws 6 H (fun hb1 H=>?_) fun hb1 H=>?_
   · (iterate 4 refine sp ?_);refine WPL.nilW ?_;have q0:=j1 H;subst q0;exact wq [0]
   refine sp ?_;obtain ⟨x7,h2,H⟩:=bnd H;refine WPL.cg rfl rfl (lb hb1) (rc [] [] 1 [] (s_utf_Xml k x1 x7 h2)) rfl ?_;(iterate 2 refine sp ?_);refine WPL.nilW ?_;have q0:=j1 H;subst q0;exact wq [0]
 (iterate 2 refine sp ?_);refine cq H (fun hb2 H=>?_) fun hb2 H=>?_
 · refine sp ?_;obtain ⟨x8,h3,H⟩:=bnd H;refine WPL.c (rc [] [1] 2 [] (s_val_Err k 2 x8 h3)) rfl ?_;(iterate 3 refine sp ?_);obtain ⟨rfl,rfl,rfl⟩:=j3 H;exact W.now (Then.r (mb [0]))
 (iterate 9 refine sp ?_);obtain ⟨rfl,rfl,rfl⟩:=j3 H;exact W.now (mb [0])
theorem s_val_Right (k:Nat) (x1:Int) (x2:Int) (x3:Int) (x4:ByteArray) (x5:Bool) (x6:Int) (x7:Bool) (H:g_val_Right k x1 x2 x3 x4 x5 x6=some x7):Go.Q.Spec Tryz.prog 19 0 [.agg [.lit (.int .i64 x1),.lit (.int .i64 x2),.lit (.int .i64 x3),.lit (.string x4),.lit (.bool x5),.lit (.int .i64 x6)]] Mem.nil (fun o M=>o=.ret (.lit (.bool x7))∧M=Mem.nil):=by
 unfold g_val_Right at H;refine bo Tryz.func19 [] [.tmp 2] 46 fun cx hnp=>?_;(iterate 4 refine sp ?_);refine WP.seq ?_;(iterate 5 refine sp ?_);refine WP.seq ?_;obtain ⟨x8,H1,H⟩:=bnd H;refine mo .normal (((Env.none.upd 1 (.ptr 0 0)).upd 4 (.lit (.int .i64 x1))).upd 5 (.lit (.bool x8))) (Mem.nil.push (.cells 31 [.lit (.int .i64 x1),.lit (.int .i64 x2),.lit (.int .i64 x3),.lit (.string x4),.lit (.bool x5),.lit (.int .i64 x6)])) ?_ ?_
 · clear H;have H:=H1;clear H1;(iterate 4 refine sp ?_);refine cq H (fun hb1 H=>?_) fun hb1 H=>?_
   · refine sp ?_;have q0:=j1 H;subst q0;exact wq [0]
   (iterate 3 refine sp ?_);refine WPL.nilW ?_;have q0:=j1 H;subst q0;exact wq [0]
 (iterate 2 refine sp ?_);refine cq H (fun hb2 H=>?_) fun hb2 H=>?_
 · refine WP.seq ?_;obtain ⟨x9,H2,H⟩:=bnd H;refine mo .normal (Env.none.upd 2 (.lit (.bool x9))) Mem.nil ?_ ?_
   · clear H;have H:=H2;clear H2;(iterate 7 refine sp ?_);refine ws 13 H (fun hb3 H=>?_) fun hb3 H=>?_
     · (iterate 5 refine sp ?_);obtain ⟨x10,h1,H⟩:=bnd H;refine WPL.qq (q_nm (q_eqlAg (xs:=[(.int .i64 x1),(.int .i64 x2),(.int .i64 x3),(.string x4),(.bool x5),(.int .i64 x6)]) (ys:=[(.int .i64 x1),(.int .i64 0),(.int .i64 0),(.string (ByteArray.mk #[])),(.bool (decide (x1=3))),(.int .i64 0)]) (n:=9) rfl eg31 rfl rfl eq31) (nm_bool h1)) ?_;refine sp ?_;refine WPL.nilW ?_;have q0:=j1 H;subst q0;exact wq []
     (iterate 5 refine sp ?_);obtain ⟨x11,h2,H⟩:=bnd H;refine WPL.qq (q_nm (q_eqlAg (xs:=[(.int .i64 x1),(.int .i64 x2),(.int .i64 x3),(.string x4),(.bool x5),(.int .i64 x6)]) (ys:=[(.int .i64 x1),(.int .i64 0),(.int .i64 0),(.string (ByteArray.mk #[])),(.bool false),(.int .i64 0)]) (n:=9) rfl eg31 rfl rfl eq31) (nm_bool h2)) ?_;refine sp ?_;refine WPL.nilW ?_;have q0:=j1 H;subst q0;exact wq []
   (iterate 3 refine sp ?_);have q0:=j1 H;subst q0;exact W.now (InBlock.r (Then.r (mb [])))
 (iterate 4 refine sp ?_);refine cq H (fun hb4 H=>?_) fun hb4 H=>?_
 · refine WP.seq ?_;obtain ⟨x12,H3,H⟩:=bnd H;refine mo .normal (Env.none.upd 2 (.lit (.bool x12))) Mem.nil ?_ ?_
   · clear H;have H:=H3;clear H3;(iterate 3 refine sp ?_);obtain ⟨x13,h3,H⟩:=bnd H;refine WPL.c (rc [] [] 1 [] (s_dec_Right k x2 x3 x13 h3)) rfl ?_;refine sp ?_;refine ws 25 H (fun hb5 H=>?_) fun hb5 H=>?_
     · (iterate 4 refine sp ?_);obtain ⟨x14,h4,H⟩:=bnd H;refine WPL.gq rfl (lb hb5) (q_nm (q_eqlAg (xs:=[(.int .i64 x1),(.int .i64 x2),(.int .i64 x3),(.string x4),(.bool x5),(.int .i64 x6)]) (ys:=[(.int .i64 1),(.int .i64 x2),(.int .i64 x3),(.string (ByteArray.mk #[])),(.bool false),(.int .i64 0)]) (n:=9) rfl eg31 rfl rfl eq31) (nm_bool h4)) ?_;(iterate 2 refine sp ?_);refine WPL.nilW ?_;have q0:=j1 H;subst q0;exact wq []
     (iterate 7 refine sp ?_);refine WPL.nilW ?_;have q0:=j1 H;subst q0;exact wq []
   (iterate 3 refine sp ?_);have q0:=j1 H;subst q0;exact W.now (InBlock.r (Then.r (mb [])))
 (iterate 4 refine sp ?_);refine cq H (fun hb6 H=>?_) fun hb6 H=>?_
 · refine WP.seq ?_;refine WP.regionD' 6 [0] [] mixed rfl ?_;refine dT 1 ?_;refine dK 0 ?_;refine dK 2 ?_;obtain ⟨⟨x15,x16,x17⟩,h5,H⟩:=bnd H;refine dE 3 [0] [] rfl (rc [] [1] 2 [] (s_val_Str k x4 x15 x16 x17 h5)) ?_;obtain ⟨x18,h6,H⟩:=bnd H;refine WPD.tT 4 rfl (q_nm (q_eqlAg (xs:=[(.int .i64 x1),(.int .i64 x2),(.int .i64 x3),(.string x4),(.bool x5),(.int .i64 x6)]) (ys:=[(.int .i64 x15),(.int .i64 0),(.int .i64 0),(.string x16),(.bool false),(.int .i64 x17)]) (n:=9) rfl eg31 rfl rfl eq31) (nm_bool h6)) ?_;refine dT 5 ?_;refine WPD.doneW (by kernel_rfl) ?_;(iterate 3 refine sp ?_);have q0:=j1 H;subst q0;exact W.now (InBlock.r (Then.r (mb [])))
 (iterate 4 refine sp ?_);refine cq H (fun hb7 H=>?_) fun hb7 H=>?_
 · refine WP.seq ?_;refine WP.regionD' 6 [0] [] mixed rfl ?_;refine dT 1 ?_;refine dK 0 ?_;refine dK 2 ?_;obtain ⟨x19,h7,H⟩:=bnd H;refine dE 3 [0] [] rfl (rc [] [1] 2 [] (s_val_Err k x6 x19 h7)) ?_;obtain ⟨x20,h8,H⟩:=bnd H;refine WPD.tT 4 rfl (q_nm (q_eqlAg (xs:=[(.int .i64 x1),(.int .i64 x2),(.int .i64 x3),(.string x4),(.bool x5),(.int .i64 x6)]) (ys:=[(.int .i64 4),(.int .i64 0),(.int .i64 0),(.string (ByteArray.mk #[])),(.bool false),(.int .i64 x19)]) (n:=9) rfl eg31 rfl rfl eq31) (nm_bool h8)) ?_;refine dT 5 ?_;refine WPD.doneW (by kernel_rfl) ?_;(iterate 3 refine sp ?_);have q0:=j1 H;subst q0;exact W.now (InBlock.r (Then.r (mb [])))
 (iterate 2 refine sp ?_);refine InBlock.n ?_;(iterate 5 refine sp ?_);have q0:=j1 H;subst q0;exact W.now (mb [])
theorem s_val_clean (k:Nat) (x1:Int) (x2:Int) (x3:Int) (x4:ByteArray) (x5:Bool) (x6:Int) (x7:Int) (x8:Int) (x9:Int) (x10:ByteArray) (x11:Bool) (x12:Int) (H:g_val_clean k x1 x2 x3 x4 x5 x6=some (x7,x8,x9,x10,x11,x12)):Go.Q.Spec Tryz.prog 44 0 [.agg [.lit (.int .i64 x1),.lit (.int .i64 x2),.lit (.int .i64 x3),.lit (.string x4),.lit (.bool x5),.lit (.int .i64 x6)]] Mem.nil (fun o M=>o=.ret (.agg [.lit (.int .i64 x7),.lit (.int .i64 x8),.lit (.int .i64 x9),.lit (.string x10),.lit (.bool x11),.lit (.int .i64 x12)])∧M=(Mem.nil.push (.cells 31 [.lit (.int .i64 x7),.lit (.int .i64 x8),.lit (.int .i64 x9),.lit (.string x10),.lit (.bool x11),.lit (.int .i64 x12)]))):=by
 unfold g_val_clean at H;refine bo Tryz.func44 [(31,6)] [.cell 2 31] 7 fun cx hnp=>?_;(iterate 4 refine sp ?_);refine WP.seq ?_;(iterate 2 refine sp ?_);obtain ⟨x13,h1,H⟩:=bnd H;refine WPL.c (rc [] [] 2 [] (s_val_Right k x1 x2 x3 x4 x5 x6 x13 h1)) rfl ?_;refine sp ?_;refine cq H (fun hb1 H=>?_) fun hb1 H=>?_
 · (iterate 5 refine sp ?_);obtain ⟨rfl,rfl,rfl,rfl,rfl,rfl⟩:=j6 H;exact W.now (Then.r (mb [1]))
 (iterate 4 refine sp ?_);obtain ⟨x14,h2,H⟩:=bnd H;refine WPL.c (rc [] [2] 3 [] (s_val_Err k 2 x14 h2)) rfl ?_;(iterate 3 refine sp ?_);obtain ⟨rfl,rfl,rfl,rfl,rfl,rfl⟩:=j6 H;exact W.now (mb [1])
theorem s_dec_clean__b (k:Nat) (x1:Int) (x2:Int) (x3:Bool) (x4:Int) (x5:Int) (H:g_dec_clean__b k x1 x2=some (x3,x4,x5)):Go.Q.Spec Tryz.prog 73 2 [.sl 0 1 0 1] ((Mem.nil.push (.cells 127 [.ptr 1 0])).push (.cells 23 [.lit (.int .i64 x1),.lit (.int .i64 x2)])) (fun o M=>o=.ret (.lit (.bool x3))∧M=((Mem.nil.push (.cells 127 [.ptr 1 0])).push (.cells 23 [.lit (.int .i64 x4),.lit (.int .i64 x5)]))):=by
 unfold g_dec_clean__b at H;refine bo Tryz.func73 [] [.tmp 2] 28 fun cx hnp=>?_;(iterate 3 refine sp ?_);refine WP.seq ?_;(iterate 2 refine sp ?_);refine WPL.qq (q_len_sl (k:=1) sl169 rfl rfl) ?_;(iterate 3 refine sp ?_);refine WP.loopU ?_;refine WPI.round ?_;(iterate 3 refine sp ?_);refine WP.seq ?_;refine WP.condT rfl ?_;(iterate 3 refine sp ?_);refine WP.seq ?_;(iterate 2 refine sp ?_);refine WPL.qq (q_index_sl (o:=0) sl169 rfl rfl rfl rfl) ?_;(iterate 3 refine sp ?_);refine WP.seq ?_;(iterate 4 refine sp ?_);refine WPL.d (d_buildSlice (ds:=([(⟨x1,x2⟩:S_api_Dec)]:List S_api_Dec)) (R:=rdS_api_Dec) li167 rfl rfl rfl rfl rfl (JoinRows.cons (l:=[.lit (.int .i64 x1),.lit (.int .i64 x2)]) (Joins.via (Joins.cons Joins.sc (Joins.cons Joins.sc Joins.unit))) rfl JoinRows.nil) rfl rfl) rfl ?_;obtain ⟨x6,h1,H⟩:=bnd H;refine WPL.c (rc [] [] 3 [2] (s_dec_ranged k ([(⟨x1,x2⟩:S_api_Dec)]:List S_api_Dec) x6 h1)) rfl ?_;(iterate 2 refine sp ?_);refine cq H (fun hb1 H=>?_) fun hb1 H=>?_
 · (iterate 4 refine sp ?_);obtain ⟨rfl,rfl,rfl⟩:=j3 H;exact W.now (Then.r (InBlock.r (Then.r (Then.r (InBlock.r (Then.r (mb [0,1])))))))
 (iterate 8 refine sp ?_);obtain ⟨x7,h2,H⟩:=bnd H;refine WPL.c (rc [] [3] 4 [] (s_dec_of k x1 x2 x7 h2)) rfl ?_;obtain ⟨⟨x8,x9,x10⟩,h3,H⟩:=bnd H;refine WPL.c (rc [] [4] 5 [] (s_dec_num_tell k (decide (x1<0)) 0 x7 x2 x8 x9 x10 h3)) rfl ?_;(iterate 5 refine sp ?_);refine WPL.nilW ?_;refine sp ?_;refine InBlock.n ?_;(iterate 2 refine sp ?_);refine WPL.qq (q_nm aq (fold_int (b:=1) (by decide))) ?_;(iterate 2 refine sp ?_);refine WPI.round ?_;(iterate 3 refine sp ?_);refine WP.seq ?_;refine WP.condF rfl ?_;(iterate 2 refine sp ?_);refine Then.x ?_;refine Then.x ?_;(iterate 6 refine sp ?_);obtain ⟨rfl,rfl,rfl⟩:=j3 H;exact W.now (mb [0,1])
theorem s_mb_Mul (k:Nat) (x1:Int) (x2:Int) (x3:Int) (H:g_mb_Mul k x1 x2=some x3):Go.Q.Spec Tryz.prog 90 0 [.lit (.int .u64 x1),.lit (.int .u64 x2)] Mem.nil (fun o M=>o=.ret (.tup [.lit (.int .u64 x3),.lit (.int .u64 (IntKind.wrap .u64 (x1*x2)))])∧M=Mem.nil):=by
 unfold g_mb_Mul at H;refine bo Tryz.func90 [] [.tmp 4,.tmp 5] 30 fun cx hnp=>?_;(iterate 4 refine sp ?_);refine WP.seq ?_;refine WP.condF rfl ?_;(iterate 6 refine sp ?_);obtain ⟨x4,h1,H⟩:=bnd H;refine WPL.c (rc [] [] 0 [] (s_mb_Mul64 k x1 x2 x4 h1)) rfl ?_;(iterate 13 refine sp ?_);have q0:=j1 H;subst q0;exact W.now (mb [])
theorem s_st_Builder_Len (k:Nat) (x1:(List Int)) (H:g_st_Builder_Len k x1=some ()):Go.Q.Spec Tryz.prog 92 1 [.ptr 0 0] ((Mem.nil.push (.cells 135 [.ptr 0 0,.whole 1])).push (.row 5 (Rd.int .u8) x1)) (fun o M=>o=.ret (.lit (.int .i64 ((List.length x1:Nat):Int)))∧M=((Mem.nil.push (.cells 135 [.ptr 0 0,.whole 1])).push (.row 5 (Rd.int .u8) x1))):=by
 unfold g_st_Builder_Len at H;refine bo Tryz.func92 [] [.tmp 2] 8 fun cx hnp=>?_;(iterate 12 refine sp ?_);exact W.now (mb [0,1])
theorem s_st_Repeat (k:Nat) (x1:ByteArray) (x2:Int) (x3:ByteArray) (H:g_st_Repeat k x1 x2=some x3):Go.Q.Spec Tryz.prog 54 0 [.lit (.string x1),.lit (.int .i64 x2)] Mem.nil (fun o M=>o=.ret (.lit (.string x3))∧M=Mem.nil):=by
 unfold g_st_Repeat at H;refine bo Tryz.func54 [] [.tmp 4] 125 fun cx hnp=>?_;(iterate 3 refine sp ?_);refine WP.seq ?_;(iterate 8 refine sp ?_);refine cq H (fun hb1 H=>?_) fun hb1 H=>?_
 · (iterate 4 refine sp ?_);have q0:=j1 H;subst q0;exact W.now (InBlock.r (Then.r (mb [])))
 (iterate 4 refine sp ?_);refine cq H (fun hb2 H=>?_) fun hb2 H=>?_
 · (iterate 5 refine sp ?_);have q0:=j1 H;subst q0;exact W.now (InBlock.r (Then.r (mb [])))
 (iterate 2 refine sp ?_);refine InBlock.n ?_;refine sp ?_;refine WP.seq ?_;(iterate 4 refine sp ?_);refine cq H (fun hb3 H=>?_) fun hb3 H=>?_
 · refine sp ?_;refine WPL.qq (q_mki cn9) ?_;exact nf rfl H
 (iterate 6 refine sp ?_);obtain ⟨x4,h1,H⟩:=bnd H;refine sn (nm_int h1) ?_;(iterate 2 refine sp ?_);obtain ⟨x5,h1,H⟩:=bnd H;refine WPL.c (rc [] [] 0 [] (s_mb_Mul k x4 (IntKind.wrap .u64 x2) x5 h1)) rfl ?_;(iterate 6 refine sp ?_);refine WP.seq ?_;refine WP.seq ?_;obtain ⟨x6,H1,H⟩:=bnd H;refine mo .normal (((Env.none.upd 0 (.lit (.string x1))).upd 6 (.lit (.int .u64 (IntKind.wrap .u64 (x4*(IntKind.wrap .u64 x2)))))).upd 34 (.lit (.bool x6))) Mem.nil ?_ ?_
 · clear H;have H:=H1;clear H1;(iterate 4 refine sp ?_);refine ws 31 H (fun hb4 H=>?_) fun hb4 H=>?_
   · (iterate 3 refine sp ?_);refine WPL.nilW ?_;have q0:=j1 H;subst q0;exact wq []
   refine sp ?_;obtain ⟨x7,h2,H⟩:=bnd H;refine sn (nm_bool h2) ?_;refine sp ?_;refine WPL.nilW ?_;have q0:=j1 H;subst q0;exact wq []
 (iterate 2 refine sp ?_);refine cq H (fun hb5 H=>?_) fun hb5 H=>?_
 · refine sp ?_;refine WPL.qq (q_mki cn9) ?_;exact nf rfl H
 (iterate 5 refine sp ?_);obtain ⟨x8,h3,H⟩:=bnd H;refine sn (nm_int h3) ?_;(iterate 2 refine sp ?_);refine WP.seq ?_;(iterate 3 refine sp ?_);obtain ⟨x9,h4,H⟩:=bnd H;refine sn (nm_bool h4) ?_;refine sp ?_;refine cq H (fun hb6 H=>?_) fun hb6 H=>?_
 · (iterate 4 refine sp ?_);have q0:=j1 H;subst q0;exact W.now (Then.r (mb []))
 (iterate 3 refine sp ?_);refine WP.seq ?_;obtain ⟨y1,H2,H⟩:=bnd H;refine WP.monoW (Q:=fun x E M=>match (generalizing:=false) y1 with | (Sum.inl x10)=>x=.ret∧E=(Env.none.upd 4 (.lit (.string x10)))∧M=Mem.nil | (Sum.inr _)=>x=.normal∧E=((Env.none.upd 0 (.lit (.string x1))).upd 7 (.lit (.int .i64 x8)))∧M=Mem.nil) ?_ ?_
 · clear H;have H:=H2;clear H2;(iterate 2 refine sp ?_);obtain ⟨x11,h5,H⟩:=bnd H;(iterate 3 refine sp ?_);refine WP.seq ?_;obtain ⟨x12,H3,H⟩:=bnd H;refine mo .normal (((Env.none.upd 0 (.lit (.string x1))).upd 7 (.lit (.int .i64 x8))).upd 43 (.lit (.bool x12))) Mem.nil ?_ ?_
   · clear H;have H:=H3;clear H3;(iterate 4 refine sp ?_);refine cq H (fun hb7 H=>?_) fun hb7 H=>?_
     · refine sp ?_;have q0:=j1 H;subst q0;exact wq []
     (iterate 4 refine sp ?_);refine cq H (fun hb8 H=>?_) fun hb8 H=>?_
     · refine sp ?_;have q0:=j1 H;subst q0;exact wq []
     (iterate 4 refine sp ?_);refine cq H (fun hb9 H=>?_) fun hb9 H=>?_
     · refine sp ?_;have q0:=j1 H;subst q0;exact wq []
     (iterate 4 refine sp ?_);refine cq H (fun hb10 H=>?_) fun hb10 H=>?_
     · refine sp ?_;have q0:=j1 H;subst q0;exact wq []
     (iterate 3 refine sp ?_);refine WPL.nilW ?_;have q0:=j1 H;subst q0;exact wq []
   (iterate 2 refine sp ?_);refine cq H (fun hb11 H=>?_) fun hb11 H=>?_
   · refine sp ?_;refine WP.seq ?_;obtain ⟨x13,H4,H⟩:=bnd H;refine mo .normal (((Env.none.upd 0 (.lit (.string x1))).upd 7 (.lit (.int .i64 x8))).upd 49 (.lit (.bool x13))) Mem.nil ?_ ?_
     · clear H;have H:=H4;clear H4;(iterate 4 refine sp ?_);refine ws 52 H (fun hb12 H=>?_) fun hb12 H=>?_
       · refine sp ?_;obtain ⟨x14,h6,H⟩:=bnd H;refine WPL.cg rfl rfl (lb hb12) (rc [] [] 0 [] (s_st_HasPrefix k (ByteArray.mk #[32,32,32,32,32,32,32,32,32,32,32,32,32,32,32,32,32,32,32,32,32,32,32,32,32,32,32,32,32,32,32,32,32,32,32,32,32,32,32,32,32,32,32,32,32,32,32,32,32,32,32,32,32,32,32,32,32,32,32,32,32,32,32,32,32,32,32,32,32,32,32,32,32,32,32,32,32,32,32,32,32,32,32,32,32,32,32,32,32,32,32,32,32,32,32,32,32,32,32,32,32,32,32,32,32,32,32,32,32,32,32,32,32,32,32,32,32,32,32,32,32,32,32,32,32,32,32,32]) x1 x14 h6)) rfl ?_;(iterate 2 refine sp ?_);refine WPL.nilW ?_;have q0:=j1 H;subst q0;exact wq []
       (iterate 4 refine sp ?_);refine WPL.nilW ?_;have q0:=j1 H;subst q0;exact wq []
     (iterate 2 refine sp ?_);refine cq H (fun hb13 H=>?_) fun hb13 H=>?_
     · (iterate 2 refine sp ?_);obtain ⟨h7,H⟩:=grd H;obtain ⟨x15,h8,H⟩:=bnd H;refine WPL.qq (q_nm (q_slice_str (i:=0) (j:=x8) Tryz.underlying9 rfl rfl ⟨_,rfl⟩ h7) (nm_str h8)) ?_;(iterate 3 refine sp ?_);have q0:=j1 H;subst q0;exact wq [] (InBlock.r (InBlock.r r3))
     refine WP.seq ?_;obtain ⟨x16,H5,H⟩:=bnd H;refine mo .normal (((Env.none.upd 0 (.lit (.string x1))).upd 7 (.lit (.int .i64 x8))).upd 58 (.lit (.bool x16))) Mem.nil ?_ ?_
     · clear H;have H:=H5;clear H5;(iterate 4 refine sp ?_);refine ws 61 H (fun hb14 H=>?_) fun hb14 H=>?_
       · refine sp ?_;obtain ⟨x17,h9,H⟩:=bnd H;refine WPL.cg rfl rfl (lb hb14) (rc [] [] 0 [] (s_st_HasPrefix k (ByteArray.mk #[45,45,45,45,45,45,45,45,45,45,45,45,45,45,45,45,45,45,45,45,45,45,45,45,45,45,45,45,45,45,45,45,45,45,45,45,45,45,45,45,45,45,45,45,45,45,45,45,45,45,45,45,45,45,45,45,45,45,45,45,45,45,45,45,45,45,45,45,45,45,45,45,45,45,45,45,45,45,45,45,45,45,45,45,45,45,45,45,45,45,45,45,45,45,45,45,45,45,45,45,45,45,45,45,45,45,45,45,45,45,45,45,45,45,45,45,45,45,45,45,45,45,45,45,45,45,45,45]) x1 x17 h9)) rfl ?_;(iterate 2 refine sp ?_);refine WPL.nilW ?_;have q0:=j1 H;subst q0;exact wq []
       (iterate 4 refine sp ?_);refine WPL.nilW ?_;have q0:=j1 H;subst q0;exact wq []
     (iterate 2 refine sp ?_);refine cq H (fun hb15 H=>?_) fun hb15 H=>?_
     · (iterate 2 refine sp ?_);obtain ⟨h10,H⟩:=grd H;obtain ⟨x18,h11,H⟩:=bnd H;refine WPL.qq (q_nm (q_slice_str (i:=0) (j:=x8) Tryz.underlying9 rfl rfl ⟨_,rfl⟩ h10) (nm_str h11)) ?_;(iterate 3 refine sp ?_);have q0:=j1 H;subst q0;exact wq [] (InBlock.r (InBlock.r r3))
     refine WP.seq ?_;obtain ⟨x19,H6,H⟩:=bnd H;refine mo .normal (((Env.none.upd 0 (.lit (.string x1))).upd 7 (.lit (.int .i64 x8))).upd 67 (.lit (.bool x19))) Mem.nil ?_ ?_
     · clear H;have H:=H6;clear H6;(iterate 4 refine sp ?_);refine ws 70 H (fun hb16 H=>?_) fun hb16 H=>?_
       · refine sp ?_;obtain ⟨x20,h12,H⟩:=bnd H;refine WPL.cg rfl rfl (lb hb16) (rc [] [] 0 [] (s_st_HasPrefix k (ByteArray.mk #[48,48,48,48,48,48,48,48,48,48,48,48,48,48,48,48,48,48,48,48,48,48,48,48,48,48,48,48,48,48,48,48,48,48,48,48,48,48,48,48,48,48,48,48,48,48,48,48,48,48,48,48,48,48,48,48,48,48,48,48,48,48,48,48]) x1 x20 h12)) rfl ?_;(iterate 2 refine sp ?_);refine WPL.nilW ?_;have q0:=j1 H;subst q0;exact wq []
       (iterate 4 refine sp ?_);refine WPL.nilW ?_;have q0:=j1 H;subst q0;exact wq []
     (iterate 2 refine sp ?_);refine cq H (fun hb17 H=>?_) fun hb17 H=>?_
     · (iterate 2 refine sp ?_);obtain ⟨h13,H⟩:=grd H;obtain ⟨x21,h14,H⟩:=bnd H;refine WPL.qq (q_nm (q_slice_str (i:=0) (j:=x8) Tryz.underlying9 rfl rfl ⟨_,rfl⟩ h13) (nm_str h14)) ?_;(iterate 3 refine sp ?_);have q0:=j1 H;subst q0;exact wq [] (InBlock.r (InBlock.r r3))
     refine WP.seq ?_;obtain ⟨x22,H7,H⟩:=bnd H;refine mo .normal (((Env.none.upd 0 (.lit (.string x1))).upd 7 (.lit (.int .i64 x8))).upd 76 (.lit (.bool x22))) Mem.nil ?_ ?_
     · clear H;have H:=H7;clear H7;(iterate 4 refine sp ?_);refine ws 79 H (fun hb18 H=>?_) fun hb18 H=>?_
       · refine sp ?_;obtain ⟨x23,h15,H⟩:=bnd H;refine WPL.cg rfl rfl (lb hb18) (rc [] [] 0 [] (s_st_HasPrefix k (ByteArray.mk #[61,61,61,61,61,61,61,61,61,61,61,61,61,61,61,61,61,61,61,61,61,61,61,61,61,61,61,61,61,61,61,61,61,61,61,61,61,61,61,61,61,61,61,61,61,61,61,61,61,61,61,61,61,61,61,61,61,61,61,61,61,61,61,61,61,61,61,61,61,61,61,61,61,61,61,61,61,61,61,61,61,61,61,61,61,61,61,61,61,61,61,61,61,61,61,61,61,61,61,61,61,61,61,61,61,61,61,61,61,61,61,61,61,61,61,61,61,61,61,61,61,61,61,61,61,61,61,61]) x1 x23 h15)) rfl ?_;(iterate 2 refine sp ?_);refine WPL.nilW ?_;have q0:=j1 H;subst q0;exact wq []
       (iterate 4 refine sp ?_);refine WPL.nilW ?_;have q0:=j1 H;subst q0;exact wq []
     (iterate 2 refine sp ?_);refine cq H (fun hb19 H=>?_) fun hb19 H=>?_
     · (iterate 2 refine sp ?_);obtain ⟨h16,H⟩:=grd H;obtain ⟨x24,h17,H⟩:=bnd H;refine WPL.qq (q_nm (q_slice_str (i:=0) (j:=x8) Tryz.underlying9 rfl rfl ⟨_,rfl⟩ h16) (nm_str h17)) ?_;(iterate 3 refine sp ?_);have q0:=j1 H;subst q0;exact wq [] (InBlock.r (InBlock.r r3))
     refine WP.seq ?_;obtain ⟨x25,H8,H⟩:=bnd H;refine mo .normal (((Env.none.upd 0 (.lit (.string x1))).upd 7 (.lit (.int .i64 x8))).upd 85 (.lit (.bool x25))) Mem.nil ?_ ?_
     · clear H;have H:=H8;clear H8;(iterate 4 refine sp ?_);refine ws 88 H (fun hb20 H=>?_) fun hb20 H=>?_
       · refine sp ?_;obtain ⟨x26,h18,H⟩:=bnd H;refine WPL.cg rfl rfl (lb hb20) (rc [] [] 0 [] (s_st_HasPrefix k (ByteArray.mk #[9,9,9,9,9,9,9,9,9,9,9,9,9,9,9,9,9,9,9,9,9,9,9,9,9,9,9,9,9,9,9,9,9,9,9,9,9,9,9,9,9,9,9,9,9,9,9,9,9,9,9,9,9,9,9,9,9,9,9,9,9,9,9,9]) x1 x26 h18)) rfl ?_;(iterate 2 refine sp ?_);refine WPL.nilW ?_;have q0:=j1 H;subst q0;exact wq []
       (iterate 4 refine sp ?_);refine WPL.nilW ?_;have q0:=j1 H;subst q0;exact wq []
     (iterate 2 refine sp ?_);refine cq H (fun hb21 H=>?_) fun hb21 H=>?_
     · (iterate 2 refine sp ?_);obtain ⟨h19,H⟩:=grd H;obtain ⟨x27,h20,H⟩:=bnd H;refine WPL.qq (q_nm (q_slice_str (i:=0) (j:=x8) Tryz.underlying9 rfl rfl ⟨_,rfl⟩ h19) (nm_str h20)) ?_;(iterate 3 refine sp ?_);have q0:=j1 H;subst q0;exact wq [] (InBlock.r (InBlock.r r3))
     refine sp ?_;have q0:=j1 H;subst q0;exact wq [] (InBlock.n (InBlock.n r3))
   refine sp ?_;have q0:=j1 H;subst q0;exact wq [] (InBlock.n r3)
 rcases y1 with x10 | _
 · rintro _ _ _ ⟨rfl,rfl,rfl⟩;have q0:=j1 H;subst q0;exact W.now (Then.r (mb []))
 rintro _ _ _ ⟨rfl,rfl,rfl⟩;(iterate 6 refine sp ?_);refine WP.seq ?_;obtain ⟨x28,H9,H⟩:=bnd H;refine mo .normal (((Env.none.upd 0 (.lit (.string x1))).upd 7 (.lit (.int .i64 x8))).upd 8 (.lit (.int .i64 x28))) Mem.nil ?_ ?_
 · clear H;have H:=H9;clear H9;(iterate 4 refine sp ?_);refine cq H (fun hb22 H=>?_) fun hb22 H=>?_
   · (iterate 3 refine sp ?_);obtain ⟨h21,H⟩:=grd H;obtain ⟨x29,h22,H⟩:=bnd H;refine sn (nm_int h22) ?_;(iterate 2 refine sp ?_);obtain ⟨x30,h23,H⟩:=bnd H;refine sn (nm_int h23) ?_;(iterate 6 refine sp ?_);refine cq H (fun hb23 H=>?_) fun hb23 H=>?_
     · (iterate 4 refine sp ?_);refine WPL.nilW ?_;have q0:=j1 H;subst q0;exact wq []
     refine sp ?_;have q0:=j1 H;subst q0;exact wq []
   refine sp ?_;have q0:=j1 H;subst q0;exact wq []
 (iterate 7 refine sp ?_);obtain ⟨_,h24,H⟩:=bnd H;refine WPL.c (rc [0] [0,1] 2 [] (s_st_Builder_Grow k x8 h24)) rfl ?_;(iterate 3 refine sp ?_);obtain ⟨_,h25,H⟩:=bnd H;refine WPL.c (rc [0,1] [0,2] 3 [] (s_st_Builder_WriteString__c k x1 ([]:List Int) h25)) rfl ?_;refine sp ?_;refine WP.seq ?_;refine sp ?_;refine WP.cv (Cv.weak (E':=(((Env.none.upd 7 (.lit (.int .i64 x8))).upd 8 (.lit (.int .i64 x28))).upd 9 (.ptr 0 0))) (M':=((Mem.nil.push (.cells 135 [.ptr 0 0,.whole 1])).push (.row 5 (Rd.int .u8) (([]:List Int)++(strInts x1))))) [0,2] hnp ⟨rfl,AA2,by decide,rfl,trivial⟩ (LeE.u (LeE.u (LeE.u (LeE.none rfl rfl))))) ?_;obtain ⟨x31,H10,H⟩:=bnd H;refine mo (.exit 3) (Env.none.upd 9 (.ptr 0 0)) ((Mem.nil.push (.cells 135 [.ptr 0 0,.whole 1])).push (.row 5 (Rd.int .u8) x31)) ?_ ?_
 · refine WP.loop (β:=(List Int)) (fun n b=>g_st_Repeat_l0 k x8 x28 n b=some x31) (fun b=>(((Env.none.upd 7 (.lit (.int .i64 x8))).upd 8 (.lit (.int .i64 x28))).upd 9 (.ptr 0 0))) (fun b=>((Mem.nil.push (.cells 135 [.ptr 0 0,.whole 1])).push (.row 5 (Rd.int .u8) b))) k (([]:List Int)++(strInts x1)) H10 rfl rfl ?_;rintro n x32 H;obtain _ | n:=n
   · exact nf rfl H
   rw [g_st_Repeat_l0.eq_2] at H;show WP _ _ _ _ (((Env.none.upd 7 (.lit (.int .i64 x8))).upd 8 (.lit (.int .i64 x28))).upd 9 (.ptr 0 0)) ((Mem.nil.push (.cells 135 [.ptr 0 0,.whole 1])).push (.row 5 (Rd.int .u8) x32)) _;refine WP.seq ?_;refine sp ?_;obtain ⟨_,h26,H⟩:=bnd H;refine WPL.c (rc [0,1] [0,2] 3 [] (s_st_Builder_Len k x32 h26)) rfl ?_;refine sp ?_;obtain ⟨x33,h27,H⟩:=bnd H;refine sn (nm_bool h27) ?_;refine sp ?_;refine cq H (fun hb24 H=>?_) fun hb24 H=>?_
   · (iterate 6 refine sp ?_);obtain ⟨_,h28,H⟩:=bnd H;refine WPL.c (rc [0,2] [0,3] 4 [] (s_st_Builder_Len k x32 h28)) rfl ?_;obtain ⟨x34,h29,H⟩:=bnd H;refine sn (nm_int h29) ?_;obtain ⟨_,h29,H⟩:=bnd H;refine WPL.c (rc [0,3] [0,4] 5 [] (s_st_Builder_Len k x32 h29)) rfl ?_;refine sp ?_;obtain ⟨x35,h30,H⟩:=bnd H;obtain ⟨x36,h31,H⟩:=bnd H;refine WPL.qq (q_nm (q_min3 rfl rfl rfl (Option.some.inj h30)) (nm_int h31)) ?_;(iterate 3 refine sp ?_);obtain ⟨y2,h31,H⟩:=bnd H;rcases y2 with _ | _
     · refine WPL.c (rc [0,4] [0,5] 6 [] (s_st_Builder_String__b k x32 (Sum.inl ()) h31)) rfl ?_;refine sp ?_;obtain ⟨h32,H⟩:=grd H;obtain ⟨x37,h33,H⟩:=bnd H;refine WPL.qq (q_nm (q_slice_str (i:=0) (j:=x36) Tryz.underlying9 rfl rfl ⟨_,rfl⟩ h32) (nm_str h33)) ?_;obtain ⟨_,h33,H⟩:=bnd H;refine WPL.c (rc [0,5] [0,6] 7 [] (s_st_Builder_WriteString__c k x37 x32 h33)) rfl ?_;refine WPL.nilW ?_;exact wq [0,6] (InBlock.n (Then.n ⟨n,(x32++(strInts x37)),Nat.lt_succ_self n,H,rfl,rfl⟩))
     refine WPL.c (rc [0,4] [0,5] 6 [] (s_st_Builder_String__b k x32 (Sum.inr ()) h31)) rfl ?_;refine sp ?_;obtain ⟨h34,H⟩:=grd H;refine WPL.qq (q_slice_str (i:=0) (j:=x36) Tryz.underlying9 rfl rfl ⟨_,rfl⟩ h34) ?_;exact nf rfl H
   refine sp ?_;have q0:=j1 H;subst q0;exact wq [0,2] (Then.x (Then.x r3))
 (iterate 4 refine sp ?_);obtain ⟨y3,h35,H⟩:=bnd H;rcases y3 with _ | _
 · refine WPL.c (rc [0,1] [0,2] 3 [] (s_st_Builder_String__b k x31 (Sum.inl ()) h35)) rfl ?_;(iterate 3 refine sp ?_);have q0:=j1 H;subst q0;exact W.now (mb [])
 refine WPL.c (rc [0,1] [0,2] 3 [] (s_st_Builder_String__b k x31 (Sum.inr ()) h35)) rfl ?_;(iterate 3 refine sp ?_);have q0:=j1 H;subst q0;exact W.now (mb [])
theorem s_dec_Print (k:Nat) (x1:Int) (x2:Int) (x3:ByteArray) (H:g_dec_Print k x1 x2=some x3):Go.Q.Spec Tryz.prog 45 0 [.agg [.lit (.int .i64 x1),.lit (.int .i64 x2)]] Mem.nil (fun o M=>o=.ret (.lit (.string x3))∧M=Mem.nil):=by
 unfold g_dec_Print at H;refine bo Tryz.func45 [] [.tmp 2] 72 fun cx hnp=>?_;(iterate 4 refine sp ?_);refine WP.seq ?_;refine sp ?_;refine WPL.d (d_buildCells li169 rfl rfl rfl rfl rfl) rfl ?_;obtain ⟨⟨x4,x5,x6⟩,h1,H⟩:=bnd H;refine WPL.c (rc [1,0] [1,0] 2 [] (s_dec_clean__b k x1 x2 x4 x5 x6 h1)) rfl ?_;(iterate 2 refine sp ?_);refine cq H (fun hb1 H=>?_) fun hb1 H=>?_
 · (iterate 4 refine sp ?_);have q0:=j1 H;subst q0;exact W.now (Then.r (mb []))
 (iterate 6 refine sp ?_);refine WP.seq ?_;(iterate 3 refine sp ?_);obtain ⟨x7,h2,H⟩:=bnd H;refine WPL.c (rc [] [] 2 [] (s_dec_size k x5 x7 h2)) rfl ?_;(iterate 3 refine sp ?_);refine WP.cv (Cv.weak (E':=(((Env.none.upd 1 (.ptr 0 0)).upd 3 (.lit (.string (ByteArray.mk #[])))).upd 4 (.lit (.int .u64 x7)))) (M':=(Mem.nil.push (.cells 23 [.lit (.int .i64 x5),.lit (.int .i64 x6)]))) [0] hnp ⟨rfl,AA1,by decide,rfl,trivial⟩ (LeE.u (LeE.u (LeE.u (LeE.none rfl rfl))))) ?_;obtain ⟨x8,H1,H⟩:=bnd H;refine mo (.exit 0) ((Env.none.upd 1 (.ptr 0 0)).upd 3 (.lit (.string x8))) (Mem.nil.push (.cells 23 [.lit (.int .i64 x5),.lit (.int .i64 x6)])) ?_ ?_
 · refine WP.loop (β:=ByteArray × Int) (fun n b=>g_dec_Print_l0 k n b.1 b.2=some x8) (fun b=>(((Env.none.upd 1 (.ptr 0 0)).upd 3 (.lit (.string b.1))).upd 4 (.lit (.int .u64 b.2)))) (fun b=>(Mem.nil.push (.cells 23 [.lit (.int .i64 x5),.lit (.int .i64 x6)]))) k ((ByteArray.mk #[]),x7) H1 rfl rfl ?_;rintro n ⟨x9,x10⟩ H;obtain _ | n:=n
   · exact nf rfl H
   rw [g_dec_Print_l0.eq_2] at H;show WP _ _ _ _ (((Env.none.upd 1 (.ptr 0 0)).upd 3 (.lit (.string x9))).upd 4 (.lit (.int .u64 x10))) (Mem.nil.push (.cells 23 [.lit (.int .i64 x5),.lit (.int .i64 x6)])) _;refine WP.seq ?_;(iterate 4 refine sp ?_);refine cq H (fun hb2 H=>?_) fun hb2 H=>?_
   · (iterate 3 refine sp ?_);refine WP.seq ?_;(iterate 4 refine sp ?_);obtain ⟨x11,h3,H⟩:=bnd H;refine sn (nm_int h3) ?_;refine sp ?_;refine WPL.d (d_buildSlice (ds:=([(IntKind.wrap .u8 x11)]:List Int)) (R:=(Rd.int .u8)) li129 rfl rfl rfl rfl rfl (JoinRows.cons1 Joins.sc rfl JoinRows.nil) rfl rfl) rfl ?_;refine WPL.qq (q_bytes_str_row Tryz.underlying129 Tryz.underlying5 Tryz.underlying9 rfl rfl) ?_;refine sp ?_;obtain ⟨h3,H⟩:=grd H;(iterate 2 refine sp ?_);refine WPL.nilW ?_;refine sp ?_;refine InBlock.n ?_;(iterate 5 refine sp ?_);refine WPL.nilW ?_;exact wq [0] (Then.n ⟨n,(((strOf ([(IntKind.wrap .u8 x11)]:List Int))++x9),(IntKind.wrap .u64 (Int.tdiv x10 10))),Nat.lt_succ_self n,H,rfl,rfl⟩)
   refine sp ?_;have q0:=j1 H;subst q0;exact wq [0] (Then.x (Then.x r3))
 (iterate 3 refine sp ?_);refine WP.seq ?_;obtain ⟨x12,H2,H⟩:=bnd H;refine mo .normal ((Env.none.upd 1 (.ptr 0 0)).upd 3 (.lit (.string x12))) (Mem.nil.push (.cells 23 [.lit (.int .i64 x5),.lit (.int .i64 x6)])) ?_ ?_
 · clear H;have H:=H2;clear H2;(iterate 7 refine sp ?_);refine cq H (fun hb3 H=>?_) fun hb3 H=>?_
   · (iterate 2 refine sp ?_);refine WPL.nilW ?_;have q0:=j1 H;subst q0;exact wq [0] (InBlock.n r3)
   (iterate 6 refine sp ?_);refine cq H (fun hb4 H=>?_) fun hb4 H=>?_
   · (iterate 4 refine sp ?_);obtain ⟨x13,h4,H⟩:=bnd H;refine WPL.c (rc [] [] 1 [] (s_st_Repeat k (ByteArray.mk #[48]) x6 x13 h4)) rfl ?_;obtain ⟨h5,H⟩:=grd H;(iterate 2 refine sp ?_);refine WPL.nilW ?_;have q0:=j1 H;subst q0;exact wq [0] (InBlock.n r3)
   (iterate 6 refine sp ?_);refine cq H (fun hb5 H=>?_) fun hb5 H=>?_
   · (iterate 6 refine sp ?_);obtain ⟨x14,h6,H⟩:=bnd H;refine sn (nm_int h6) ?_;obtain ⟨x15,h7,H⟩:=bnd H;refine sn (nm_int h7) ?_;obtain ⟨x16,h7,H⟩:=bnd H;refine WPL.c (rc [] [] 1 [] (s_st_Repeat k (ByteArray.mk #[48]) x15 x16 h7)) rfl ?_;refine sp ?_;obtain ⟨h8,H⟩:=grd H;(iterate 3 refine sp ?_);refine WP.regionD' 17 [0] [] mixed rfl ?_;refine dT 0 ?_;refine dT 1 ?_;obtain ⟨x17,h9,H⟩:=bnd H;refine dT 2 ?_ rfl (q_nm aq (nm_int h9));refine dT 3 ?_;refine dT 8 ?_;refine dT 9 ?_;obtain ⟨x18,h10,H⟩:=bnd H;refine dT 10 ?_ rfl (q_nm aq (nm_int h10));refine dT 11 ?_;refine dK 4 ?_;refine dT 5 ?_;obtain ⟨h10,H⟩:=grd H;obtain ⟨x19,h11,H⟩:=bnd H;refine WPD.tT 6 rfl (q_nm (q_slice_str (i:=0) (j:=(IntKind.wrap .i64 (x17+x6))) Tryz.underlying9 rfl rfl ⟨_,rfl⟩ h10) (nm_str h11)) ?_;obtain ⟨h11,H⟩:=grd H;refine dT 7 ?_;refine dK 12 ?_;refine dT 13 ?_;obtain ⟨h12,H⟩:=grd H;obtain ⟨x20,h13,H⟩:=bnd H;refine WPD.tT 14 rfl (q_nm (q_slice_str (i:=(IntKind.wrap .i64 (x18+x6))) (j:=((ByteArray.size (x16++x8):Nat):Int)) Tryz.underlying9 rfl ⟨_,rfl⟩ rfl h12) (nm_str h13)) ?_;obtain ⟨h13,H⟩:=grd H;refine dT 15 ?_;refine dT 16 ?_;refine WPD.doneW (by kernel_rfl) ?_;have q0:=j1 H;subst q0;exact wq [0] (InBlock.n r3)
   refine sp ?_;have q0:=j1 H;subst q0;exact wq [0] (InBlock.n r3)
 (iterate 2 refine sp ?_);refine WP.seq ?_;obtain ⟨x21,H3,H⟩:=bnd H;refine mo .normal (Env.none.upd 3 (.lit (.string x21))) Mem.nil ?_ ?_
 · clear H;have H:=H3;clear H3;(iterate 5 refine sp ?_);refine cq H (fun hb6 H=>?_) fun hb6 H=>?_
   · (iterate 2 refine sp ?_);obtain ⟨h14,H⟩:=grd H;(iterate 2 refine sp ?_);refine WPL.nilW ?_;have q0:=j1 H;subst q0;exact wq []
   refine sp ?_;have q0:=j1 H;subst q0;exact wq []
 (iterate 7 refine sp ?_);have q0:=j1 H;subst q0;exact W.now (mb [])
theorem s_val_Show (k:Nat) (x1:Int) (x2:Int) (x3:Int) (x4:ByteArray) (x5:Bool) (x6:Int) (x7:ByteArray) (H:g_val_Show k x1 x2 x3 x4 x5 x6=some x7):Go.Q.Spec Tryz.prog 20 0 [.agg [.lit (.int .i64 x1),.lit (.int .i64 x2),.lit (.int .i64 x3),.lit (.string x4),.lit (.bool x5),.lit (.int .i64 x6)]] Mem.nil (fun o M=>o=.ret (.lit (.string x7))∧M=Mem.nil):=by
 unfold g_val_Show at H;refine bo Tryz.func20 [] [.tmp 2] 22 fun cx hnp=>?_;(iterate 6 refine sp ?_);obtain ⟨⟨x8,x9,x10,x11,x12,x13⟩,h1,H⟩:=bnd H;refine WPL.c (rc [] [1] 2 [] (s_val_clean k x1 x2 x3 x4 x5 x6 x8 x9 x10 x11 x12 x13 h1)) rfl ?_;(iterate 2 refine sp ?_);refine WP.seq ?_;(iterate 9 refine sp ?_);refine cq H (fun hb1 H=>?_) fun hb1 H=>?_
 · (iterate 3 refine sp ?_);obtain ⟨x14,h2,H⟩:=bnd H;refine WPL.c (rc [] [] 2 [] (s_dec_Print k x9 x10 x14 h2)) rfl ?_;(iterate 3 refine sp ?_);have q0:=j1 H;subst q0;exact W.now (InBlock.r (Then.r (mb [])))
 (iterate 4 refine sp ?_);refine cq H (fun hb2 H=>?_) fun hb2 H=>?_
 · refine WP.seq ?_;(iterate 4 refine sp ?_);refine cq H (fun hb3 H=>?_) fun hb3 H=>?_
   · (iterate 4 refine sp ?_);have q0:=j1 H;subst q0;exact W.now (Then.r (InBlock.r (Then.r (mb []))))
   (iterate 7 refine sp ?_);have q0:=j1 H;subst q0;exact W.now (InBlock.r (Then.r (mb [])))
 (iterate 2 refine sp ?_);refine InBlock.n ?_;refine sp ?_;refine WP.seq ?_;refine WP.regionD' 7 [0] [] mixed rfl ?_;refine dT 0 ?_;refine dT 2 ?_;refine dK 1 ?_;refine dK 3 ?_;obtain ⟨x15,h3,H⟩:=bnd H;refine dE 4 [0] [] rfl (rc [] [] 2 [] (s_val_ErrName k x13 x15 h3)) ?_;obtain ⟨h4,H⟩:=grd H;refine dT 5 ?_;refine dT 6 ?_;refine WPD.doneW (by kernel_rfl) ?_;(iterate 3 refine sp ?_);have q0:=j1 H;subst q0;exact W.now (mb [])
theorem s_dec_clean (k:Nat) (x1:Int) (x2:Int) (x3:Int) (x4:Int) (x5:Bool) (x6:Int) (x7:Int) (x8:Int) (x9:Int) (H:g_dec_clean k x1 x2 x3 x4=some (x5,x6,x7,x8,x9)):Go.Q.Spec Tryz.prog 73 3 [.sl 0 1 0 2] (((Mem.nil.push (.cells 127 [.ptr 1 0,.ptr 2 0])).push (.cells 23 [.lit (.int .i64 x1),.lit (.int .i64 x2)])).push (.cells 23 [.lit (.int .i64 x3),.lit (.int .i64 x4)])) (fun o M=>o=.ret (.lit (.bool x5))∧M=(((Mem.nil.push (.cells 127 [.ptr 1 0,.ptr 2 0])).push (.cells 23 [.lit (.int .i64 x6),.lit (.int .i64 x7)])).push (.cells 23 [.lit (.int .i64 x8),.lit (.int .i64 x9)]))):=by
 unfold g_dec_clean at H;refine bo Tryz.func73 [] [.tmp 2] 28 fun cx hnp=>?_;(iterate 3 refine sp ?_);refine WP.seq ?_;(iterate 2 refine sp ?_);refine WPL.qq (q_len_sl (k:=2) sl169 rfl rfl) ?_;(iterate 3 refine sp ?_);refine WP.loopU ?_;refine WPI.round ?_;(iterate 3 refine sp ?_);refine WP.seq ?_;refine WP.condT rfl ?_;(iterate 3 refine sp ?_);refine WP.seq ?_;(iterate 2 refine sp ?_);refine WPL.qq (q_index_sl (o:=0) sl169 rfl rfl rfl rfl) ?_;(iterate 3 refine sp ?_);refine WP.seq ?_;(iterate 4 refine sp ?_);refine WPL.d (d_buildSlice (ds:=([(⟨x1,x2⟩:S_api_Dec)]:List S_api_Dec)) (R:=rdS_api_Dec) li167 rfl rfl rfl rfl rfl (JoinRows.cons (l:=[.lit (.int .i64 x1),.lit (.int .i64 x2)]) (Joins.via (Joins.cons Joins.sc (Joins.cons Joins.sc Joins.unit))) rfl JoinRows.nil) rfl rfl) rfl ?_;obtain ⟨x10,h1,H⟩:=bnd H;refine WPL.c (rc [] [] 4 [3] (s_dec_ranged k ([(⟨x1,x2⟩:S_api_Dec)]:List S_api_Dec) x10 h1)) rfl ?_;(iterate 2 refine sp ?_);refine cq H (fun hb1 H=>?_) fun hb1 H=>?_
 · (iterate 4 refine sp ?_);obtain ⟨rfl,rfl,rfl,rfl,rfl⟩:=j5 H;exact W.now (Then.r (InBlock.r (Then.r (Then.r (InBlock.r (Then.r (mb [0,1,2])))))))
 (iterate 8 refine sp ?_);obtain ⟨x11,h2,H⟩:=bnd H;refine WPL.c (rc [] [4] 5 [] (s_dec_of k x1 x2 x11 h2)) rfl ?_;obtain ⟨⟨x12,x13,x14⟩,h3,H⟩:=bnd H;refine WPL.c (rc [] [5] 6 [] (s_dec_num_tell k (decide (x1<0)) 0 x11 x2 x12 x13 x14 h3)) rfl ?_;(iterate 5 refine sp ?_);refine WPL.nilW ?_;refine sp ?_;refine InBlock.n ?_;(iterate 2 refine sp ?_);refine WPL.qq (q_nm aq (fold_int (b:=1) (by decide))) ?_;(iterate 2 refine sp ?_);refine WPI.round ?_;(iterate 3 refine sp ?_);refine WP.seq ?_;refine WP.condT rfl ?_;(iterate 3 refine sp ?_);refine WP.seq ?_;(iterate 2 refine sp ?_);refine WPL.qq (q_index_sl (o:=1) sl169 rfl rfl rfl rfl) ?_;(iterate 3 refine sp ?_);refine WP.seq ?_;(iterate 4 refine sp ?_);refine WPL.d (d_buildSlice (ds:=([(⟨x3,x4⟩:S_api_Dec)]:List S_api_Dec)) (R:=rdS_api_Dec) li167 rfl rfl rfl rfl rfl (JoinRows.cons (l:=[.lit (.int .i64 x3),.lit (.int .i64 x4)]) (Joins.via (Joins.cons Joins.sc (Joins.cons Joins.sc Joins.unit))) rfl JoinRows.nil) rfl rfl) rfl ?_;obtain ⟨x15,h4,H⟩:=bnd H;refine WPL.c (rc [] [] 7 [6] (s_dec_ranged k ([(⟨x3,x4⟩:S_api_Dec)]:List S_api_Dec) x15 h4)) rfl ?_;(iterate 2 refine sp ?_);refine cq H (fun hb2 H=>?_) fun hb2 H=>?_
 · (iterate 4 refine sp ?_);obtain ⟨rfl,rfl,rfl,rfl,rfl⟩:=j5 H;exact W.now (Then.r (InBlock.r (Then.r (Then.r (InBlock.r (Then.r (mb [0,1,2])))))))
 (iterate 8 refine sp ?_);obtain ⟨x16,h5,H⟩:=bnd H;refine WPL.c (rc [] [7] 8 [] (s_dec_of k x3 x4 x16 h5)) rfl ?_;obtain ⟨⟨x17,x18,x19⟩,h6,H⟩:=bnd H;refine WPL.c (rc [] [8] 9 [] (s_dec_num_tell k (decide (x3<0)) 0 x16 x4 x17 x18 x19 h6)) rfl ?_;(iterate 5 refine sp ?_);refine WPL.nilW ?_;refine sp ?_;refine InBlock.n ?_;(iterate 2 refine sp ?_);refine WPL.qq (q_nm aq (fold_int (b:=2) (by decide))) ?_;(iterate 2 refine sp ?_);refine WPI.round ?_;(iterate 3 refine sp ?_);refine WP.seq ?_;refine WP.condF rfl ?_;(iterate 2 refine sp ?_);refine Then.x ?_;refine Then.x ?_;(iterate 6 refine sp ?_);obtain ⟨rfl,rfl,rfl,rfl,rfl⟩:=j5 H;exact W.now (mb [0,1,2])
theorem s_dec_sign (k:Nat) (x1:Int) (x2:Int) (x3:Int) (H:g_dec_sign k x1 x2=some x3):Go.Q.Spec Tryz.prog 82 0 [.agg [.lit (.int .i64 x1),.lit (.int .i64 x2)]] Mem.nil (fun o M=>o=.ret (.lit (.int .i64 x3))∧M=Mem.nil):=by
 unfold g_dec_sign at H;refine bo Tryz.func82 [] [.tmp 2] 11 fun cx hnp=>?_;(iterate 4 refine sp ?_);refine WP.seq ?_;(iterate 7 refine sp ?_);refine cq H (fun hb1 H=>?_) fun hb1 H=>?_
 · (iterate 4 refine sp ?_);have q0:=j1 H;subst q0;exact W.now (InBlock.r (Then.r (mb [])))
 (iterate 6 refine sp ?_);refine cq H (fun hb2 H=>?_) fun hb2 H=>?_
 · (iterate 4 refine sp ?_);have q0:=j1 H;subst q0;exact W.now (InBlock.r (Then.r (mb [])))
 (iterate 2 refine sp ?_);refine InBlock.n ?_;(iterate 5 refine sp ?_);have q0:=j1 H;subst q0;exact W.now (mb [])
theorem s_dec_digits (k:Nat) (x1:Int) (x2:Int) (H:g_dec_digits k x1=some x2):Go.Q.Spec Tryz.prog 83 0 [.lit (.int .u64 x1)] Mem.nil (fun o M=>o=.ret (.lit (.int .i64 x2))∧M=Mem.nil):=by
 unfold g_dec_digits at H;refine bo Tryz.func83 [] [.tmp 2] 11 fun cx hnp=>?_;(iterate 6 refine sp ?_);refine WP.seq ?_;refine sp ?_;refine WP.cv (Cv.weak (E':=((Env.none.upd 0 (.lit (.int .u64 x1))).upd 3 (.lit (.int .i64 0)))) (M':=Mem.nil) [] hnp ⟨rfl,trivial,by decide,rfl,trivial⟩ (LeE.u (LeE.u (LeE.none rfl rfl)))) ?_;obtain ⟨x3,H1,H⟩:=bnd H;refine mo (.exit 0) (Env.none.upd 3 (.lit (.int .i64 x3))) Mem.nil ?_ ?_
 · refine WP.loop (β:=Int × Int) (fun n b=>g_dec_digits_l0 k n b.1 b.2=some x3) (fun b=>((Env.none.upd 0 (.lit (.int .u64 b.1))).upd 3 (.lit (.int .i64 b.2)))) (fun b=>Mem.nil) k (x1,0) H1 rfl rfl ?_;rintro n ⟨x4,x5⟩ H;obtain _ | n:=n
   · exact nf rfl H
   rw [g_dec_digits_l0.eq_2] at H;show WP _ _ _ _ ((Env.none.upd 0 (.lit (.int .u64 x4))).upd 3 (.lit (.int .i64 x5))) Mem.nil _;refine WP.seq ?_;(iterate 4 refine sp ?_);refine cq H (fun hb1 H=>?_) fun hb1 H=>?_
   · (iterate 3 refine sp ?_);refine WP.seq ?_;(iterate 5 refine sp ?_);refine WPL.nilW ?_;refine sp ?_;refine InBlock.n ?_;(iterate 5 refine sp ?_);refine WPL.nilW ?_;exact wq [] (Then.n ⟨n,((IntKind.wrap .u64 (Int.tdiv x4 10)),(IntKind.wrap .i64 (x5+1))),Nat.lt_succ_self n,H,rfl,rfl⟩)
   refine sp ?_;have q0:=j1 H;subst q0;exact wq [] (Then.x (Then.x r3))
 (iterate 8 refine sp ?_);have q0:=j1 H;subst q0;exact W.now (mb [])
theorem s_dec_even (k:Nat) (x1:Int) (x2:Int) (x3:Int) (x4:Int) (x5:Bool) (x6:Int) (x7:Int) (x8:Int) (x9:Int) (x10:Int) (x11:Int) (H:g_dec_even k x1 x2 x3 x4=some (x5,x6,x7,x8,x9,x10,x11)):Go.Q.Spec Tryz.prog 84 0 [.agg [.lit (.int .i64 x1),.lit (.int .i64 x2)],.agg [.lit (.int .i64 x3),.lit (.int .i64 x4)]] Mem.nil (fun o M=>o=.ret (.tup [.agg [.lit (.bool (decide (x1<0))),.lit (.int .u64 x6),.lit (.int .u64 x7),.lit (.int .i64 x8)],.agg [.lit (.bool (decide (x3<0))),.lit (.int .u64 x9),.lit (.int .u64 x10),.lit (.int .i64 x11)],.lit (.bool x5)])∧M=((Mem.nil.push (.cells 121 [.lit (.bool (decide (x1<0))),.lit (.int .u64 x6),.lit (.int .u64 x7),.lit (.int .i64 x8)])).push (.cells 121 [.lit (.bool (decide (x3<0))),.lit (.int .u64 x9),.lit (.int .u64 x10),.lit (.int .i64 x11)]))):=by
 unfold g_dec_even at H;refine Go.Q.Spec.of_bodyR (az:=[(121,4)]) (rs:=[.cell 4 121,.cell 5 121,.tmp 6]) (nt:=73) Tryz.func84 rfl rfl (by intro t T h;simp at h;rcases h with ⟨rfl,rfl⟩ | ⟨rfl,rfl⟩ <;> first | exact ag121 | exact ag121) rfl rfl fun cx hnp=>?_
 (iterate 7 refine sp ?_);refine WP.seq ?_;obtain ⟨⟨x12,x13⟩,H1,H⟩:=bnd H;refine mo .normal ((((Env.none.upd 4 (.ptr 0 0)).upd 5 (.ptr 1 0)).upd 7 (.ptr 2 0)).upd 8 (.ptr 3 0)) ((((Mem.nil.push (.cells 121 [.lit (.bool false),.lit (.int .u64 0),.lit (.int .u64 0),.lit (.int .i64 0)])).push (.cells 121 [.lit (.bool false),.lit (.int .u64 0),.lit (.int .u64 0),.lit (.int .i64 0)])).push (.cells 121 [.lit (.bool (decide (x1<0))),.lit (.int .u64 0),.lit (.int .u64 x12),.lit (.int .i64 x2)])).push (.cells 121 [.lit (.bool (decide (x3<0))),.lit (.int .u64 0),.lit (.int .u64 x13),.lit (.int .i64 x4)])) ?_ ?_
 · clear H;have H:=H1;clear H1;refine WP.regionD' 8 [0,1] [] mixed rfl ?_;refine dK 0 ?_;refine dK 2 ?_;refine WPD.of3 1 4 5 (by kernel_rfl) ?_ ?_ ?_
   · obtain ⟨x14,h1,H⟩:=bnd H;refine WPD1.eff 1 [0,1] [] rfl (rc [] [4] 5 [] (s_dec_of k x1 x2 x14 h1)) rfl rfl ?_;refine WPD.of3 3 4 5 (by kernel_rfl) ?_ ?_ ?_
     · obtain ⟨x15,h2,H⟩:=bnd H;refine WPD1.eff 3 [0,1] [] rfl (rc [] [5] 6 [] (s_dec_of k x3 x4 x15 h2)) rfl rfl ?_;refine WPD.of2 4 5 (by kernel_rfl) ?_ ?_
       · refine WPD1.eff 4 [0,1] [] rfl (Does.runs (d_alloc ze121 rfl)) rfl rfl ?_;refine dE 5 [0,1] [] rfl (Does.runs (d_alloc ze121 rfl)) ?_;refine dS 6 [0,1] [] ?_;refine dS 7 [0,1] [] ?_;refine WPD.doneW (by kernel_rfl) ?_;obtain ⟨rfl,rfl⟩:=j2 H;exact wq [2,3,6,7]
       refine WPD1.eff 5 [0,1] [] rfl (Does.runs (d_alloc ze121 rfl)) rfl rfl ?_;refine dE 4 [0,1] [] rfl (Does.runs (d_alloc ze121 rfl)) ?_;refine dS 6 [0,1] [] ?_;refine dS 7 [0,1] [] ?_;refine WPD.doneW (by kernel_rfl) ?_;obtain ⟨rfl,rfl⟩:=j2 H;exact wq [2,3,7,6]
     · refine WPD1.eff 4 [0,1] [] rfl (Does.runs (d_alloc ze121 rfl)) rfl rfl ?_;refine WPD.of2 3 5 (by kernel_rfl) ?_ ?_
       · obtain ⟨x16,h3,H⟩:=bnd H;refine WPD1.eff 3 [0,1] [] rfl (rc [] [6] 7 [] (s_dec_of k x3 x4 x16 h3)) rfl rfl ?_;refine dE 5 [0,1] [] rfl (Does.runs (d_alloc ze121 rfl)) ?_;refine dS 6 [0,1] [] ?_;refine dS 7 [0,1] [] ?_;refine WPD.doneW (by kernel_rfl) ?_;obtain ⟨rfl,rfl⟩:=j2 H;exact wq [2,3,5,7]
       refine WPD1.eff 5 [0,1] [] rfl (Does.runs (d_alloc ze121 rfl)) rfl rfl ?_;obtain ⟨x17,h4,H⟩:=bnd H;refine dE 3 [0,1] [] rfl (rc [] [7] 8 [] (s_dec_of k x3 x4 x17 h4)) ?_;refine dS 6 [0,1] [] ?_;refine dS 7 [0,1] [] ?_;refine WPD.doneW (by kernel_rfl) ?_;obtain ⟨rfl,rfl⟩:=j2 H;exact wq [2,3,5,6]
     refine WPD1.eff 5 [0,1] [] rfl (Does.runs (d_alloc ze121 rfl)) rfl rfl ?_;refine WPD.of2 3 4 (by kernel_rfl) ?_ ?_
     · obtain ⟨x18,h5,H⟩:=bnd H;refine WPD1.eff 3 [0,1] [] rfl (rc [] [6] 7 [] (s_dec_of k x3 x4 x18 h5)) rfl rfl ?_;refine dE 4 [0,1] [] rfl (Does.runs (d_alloc ze121 rfl)) ?_;refine dS 6 [0,1] [] ?_;refine dS 7 [0,1] [] ?_;refine WPD.doneW (by kernel_rfl) ?_;obtain ⟨rfl,rfl⟩:=j2 H;exact wq [2,3,7,5]
     refine WPD1.eff 4 [0,1] [] rfl (Does.runs (d_alloc ze121 rfl)) rfl rfl ?_;obtain ⟨x19,h6,H⟩:=bnd H;refine dE 3 [0,1] [] rfl (rc [] [7] 8 [] (s_dec_of k x3 x4 x19 h6)) ?_;refine dS 6 [0,1] [] ?_;refine dS 7 [0,1] [] ?_;refine WPD.doneW (by kernel_rfl) ?_;obtain ⟨rfl,rfl⟩:=j2 H;exact wq [2,3,6,5]
   · refine WPD1.eff 4 [0,1] [] rfl (Does.runs (d_alloc ze121 rfl)) rfl rfl ?_;refine WPD.of2 1 5 (by kernel_rfl) ?_ ?_
     · obtain ⟨x20,h7,H⟩:=bnd H;refine WPD1.eff 1 [0,1] [] rfl (rc [] [5] 6 [] (s_dec_of k x1 x2 x20 h7)) rfl rfl ?_;refine WPD.of2 3 5 (by kernel_rfl) ?_ ?_
       · obtain ⟨x21,h8,H⟩:=bnd H;refine WPD1.eff 3 [0,1] [] rfl (rc [] [6] 7 [] (s_dec_of k x3 x4 x21 h8)) rfl rfl ?_;refine dE 5 [0,1] [] rfl (Does.runs (d_alloc ze121 rfl)) ?_;refine dS 6 [0,1] [] ?_;refine dS 7 [0,1] [] ?_;refine WPD.doneW (by kernel_rfl) ?_;obtain ⟨rfl,rfl⟩:=j2 H;exact wq [2,3,4,7]
       refine WPD1.eff 5 [0,1] [] rfl (Does.runs (d_alloc ze121 rfl)) rfl rfl ?_;obtain ⟨x22,h9,H⟩:=bnd H;refine dE 3 [0,1] [] rfl (rc [] [7] 8 [] (s_dec_of k x3 x4 x22 h9)) ?_;refine dS 6 [0,1] [] ?_;refine dS 7 [0,1] [] ?_;refine WPD.doneW (by kernel_rfl) ?_;obtain ⟨rfl,rfl⟩:=j2 H;exact wq [2,3,4,6]
     refine WPD1.eff 5 [0,1] [] rfl (Does.runs (d_alloc ze121 rfl)) rfl rfl ?_;obtain ⟨x23,h10,H⟩:=bnd H;refine dE 1 [0,1] [] rfl (rc [] [6] 7 [] (s_dec_of k x1 x2 x23 h10)) ?_;obtain ⟨x24,h11,H⟩:=bnd H;refine dE 3 [0,1] [] rfl (rc [] [7] 8 [] (s_dec_of k x3 x4 x24 h11)) ?_;refine dS 6 [0,1] [] ?_;refine dS 7 [0,1] [] ?_;refine WPD.doneW (by kernel_rfl) ?_;obtain ⟨rfl,rfl⟩:=j2 H;exact wq [2,3,4,5]
   refine WPD1.eff 5 [0,1] [] rfl (Does.runs (d_alloc ze121 rfl)) rfl rfl ?_;refine WPD.of2 1 4 (by kernel_rfl) ?_ ?_
   · obtain ⟨x25,h12,H⟩:=bnd H;refine WPD1.eff 1 [0,1] [] rfl (rc [] [5] 6 [] (s_dec_of k x1 x2 x25 h12)) rfl rfl ?_;refine WPD.of2 3 4 (by kernel_rfl) ?_ ?_
     · obtain ⟨x26,h13,H⟩:=bnd H;refine WPD1.eff 3 [0,1] [] rfl (rc [] [6] 7 [] (s_dec_of k x3 x4 x26 h13)) rfl rfl ?_;refine dE 4 [0,1] [] rfl (Does.runs (d_alloc ze121 rfl)) ?_;refine dS 6 [0,1] [] ?_;refine dS 7 [0,1] [] ?_;refine WPD.doneW (by kernel_rfl) ?_;obtain ⟨rfl,rfl⟩:=j2 H;exact wq [2,3,7,4]
     refine WPD1.eff 4 [0,1] [] rfl (Does.runs (d_alloc ze121 rfl)) rfl rfl ?_;obtain ⟨x27,h14,H⟩:=bnd H;refine dE 3 [0,1] [] rfl (rc [] [7] 8 [] (s_dec_of k x3 x4 x27 h14)) ?_;refine dS 6 [0,1] [] ?_;refine dS 7 [0,1] [] ?_;refine WPD.doneW (by kernel_rfl) ?_;obtain ⟨rfl,rfl⟩:=j2 H;exact wq [2,3,6,4]
   refine WPD1.eff 4 [0,1] [] rfl (Does.runs (d_alloc ze121 rfl)) rfl rfl ?_;obtain ⟨x28,h15,H⟩:=bnd H;refine dE 1 [0,1] [] rfl (rc [] [6] 7 [] (s_dec_of k x1 x2 x28 h15)) ?_;obtain ⟨x29,h16,H⟩:=bnd H;refine dE 3 [0,1] [] rfl (rc [] [7] 8 [] (s_dec_of k x3 x4 x29 h16)) ?_;refine dS 6 [0,1] [] ?_;refine dS 7 [0,1] [] ?_;refine WPD.doneW (by kernel_rfl) ?_;obtain ⟨rfl,rfl⟩:=j2 H;exact wq [2,3,5,4]
 (iterate 5 refine sp ?_);refine WP.seq ?_;obtain ⟨⟨x30,x31,x32,x33,x34,x35,x36⟩,H2,H⟩:=bnd H;refine mo .normal (((((Env.none.upd 4 (.ptr 0 0)).upd 5 (.ptr 1 0)).upd 7 (.ptr 2 0)).upd 8 (.ptr 3 0)).upd 9 (.lit (.bool x30))) ((((Mem.nil.push (.cells 121 [.lit (.bool false),.lit (.int .u64 0),.lit (.int .u64 0),.lit (.int .i64 0)])).push (.cells 121 [.lit (.bool false),.lit (.int .u64 0),.lit (.int .u64 0),.lit (.int .i64 0)])).push (.cells 121 [.lit (.bool (decide (x1<0))),.lit (.int .u64 x31),.lit (.int .u64 x32),.lit (.int .i64 x33)])).push (.cells 121 [.lit (.bool (decide (x3<0))),.lit (.int .u64 x34),.lit (.int .u64 x35),.lit (.int .i64 x36)])) ?_ ?_
 · clear H;have H:=H2;clear H2;(iterate 4 refine sp ?_);obtain ⟨_,h17,H⟩:=bnd H;refine WPL.c (rc [] [] 4 [] (s_dec_wide_zero k 0 x12 h17)) rfl ?_;(iterate 2 refine sp ?_);refine cq H (fun hb1 H=>?_) fun hb1 H=>?_
   · (iterate 5 refine sp ?_);refine WPL.nilW ?_;obtain ⟨rfl,rfl,rfl,rfl,rfl,rfl,rfl⟩:=j7 H;exact wq [0,1,2,3] (InBlock.n r3)
   (iterate 3 refine sp ?_);obtain ⟨_,h18,H⟩:=bnd H;refine WPL.c (rc [] [] 4 [] (s_dec_wide_zero k 0 x13 h18)) rfl ?_;(iterate 2 refine sp ?_);refine cq H (fun hb2 H=>?_) fun hb2 H=>?_
   · (iterate 5 refine sp ?_);refine WPL.nilW ?_;obtain ⟨rfl,rfl,rfl,rfl,rfl,rfl,rfl⟩:=j7 H;exact wq [0,1,2,3] (InBlock.n r3)
   (iterate 8 refine sp ?_);refine cq H (fun hb3 H=>?_) fun hb3 H=>?_
   · (iterate 8 refine sp ?_);obtain ⟨⟨x37,x38,x39⟩,h19,H⟩:=bnd H;refine WPL.c (rc [] [4] 5 [] (s_dec_wide_tens k 0 x12 (IntKind.wrap .i64 (x2 - x4)) x37 x38 x39 h19)) rfl ?_;(iterate 12 refine sp ?_);refine WPL.nilW ?_;obtain ⟨rfl,rfl,rfl,rfl,rfl,rfl,rfl⟩:=j7 H;exact wq [0,1,2,3] (InBlock.n r3)
   (iterate 8 refine sp ?_);refine cq H (fun hb4 H=>?_) fun hb4 H=>?_
   · (iterate 8 refine sp ?_);obtain ⟨⟨x40,x41,x42⟩,h20,H⟩:=bnd H;refine WPL.c (rc [] [4] 5 [] (s_dec_wide_tens k 0 x13 (IntKind.wrap .i64 (x4 - x2)) x40 x41 x42 h20)) rfl ?_;(iterate 12 refine sp ?_);refine WPL.nilW ?_;obtain ⟨rfl,rfl,rfl,rfl,rfl,rfl,rfl⟩:=j7 H;exact wq [0,1,2,3] (InBlock.n r3)
   refine sp ?_;obtain ⟨rfl,rfl,rfl,rfl,rfl,rfl,rfl⟩:=j7 H;exact wq [0,1,2,3] (InBlock.n r3)
 (iterate 2 refine sp ?_);refine WP.seq ?_;refine WP.regionD' 6 [2,3] [] mixed rfl ?_;refine dT 2 ?_;refine dK 0 ?_;refine dK 1 ?_;refine dS 3 [2,3] [] ?_;refine dS 4 [2,3] [] ?_;refine dT 5 ?_;refine WPD.doneW (by kernel_rfl) ?_;(iterate 3 refine sp ?_);obtain ⟨rfl,rfl,rfl,rfl,rfl,rfl,rfl⟩:=j7 H;exact W.now (mb [0,1])
theorem s_dec_wide_cmp (k:Nat) (x1:Int) (x2:Int) (x3:Int) (x4:Int) (x5:Int) (H:g_dec_wide_cmp k x1 x2 x3 x4=some x5):Go.Q.Spec Tryz.prog 85 0 [.agg [.lit (.int .u64 x1),.lit (.int .u64 x2)],.agg [.lit (.int .u64 x3),.lit (.int .u64 x4)]] Mem.nil (fun o M=>o=.ret (.lit (.int .i64 x5))∧M=Mem.nil):=by
 unfold g_dec_wide_cmp at H;refine bo Tryz.func85 [] [.tmp 4] 29 fun cx hnp=>?_;(iterate 5 refine sp ?_);refine WP.seq ?_;(iterate 4 refine sp ?_);obtain ⟨x6,h1,H⟩:=bnd H;refine WPL.qq (q_nm (q_eqlAg (xs:=[(.int .u64 x1),(.int .u64 x2)]) (ys:=[(.int .u64 x3),(.int .u64 x4)]) (n:=9) rfl eg119 rfl rfl eq119) (nm_bool h1)) ?_;(iterate 2 refine sp ?_);refine cq H (fun hb1 H=>?_) fun hb1 H=>?_
 · (iterate 4 refine sp ?_);have q0:=j1 H;subst q0;exact W.now (InBlock.r (Then.r (mb [])))
 refine WP.seq ?_;obtain ⟨x7,H1,H⟩:=bnd H;refine mo .normal (Env.none.upd 9 (.lit (.bool x7))) Mem.nil ?_ ?_
 · clear H;have H:=H1;clear H1;(iterate 7 refine sp ?_);refine ws 15 H (fun hb2 H=>?_) fun hb2 H=>?_
   · (iterate 14 refine sp ?_);refine WPL.nilW ?_;have q0:=j1 H;subst q0;exact wq []
   (iterate 6 refine sp ?_);refine ws 21 H (fun hb3 H=>?_) fun hb3 H=>?_
   · (iterate 8 refine sp ?_);refine WPL.nilW ?_;have q0:=j1 H;subst q0;exact wq []
   (iterate 8 refine sp ?_);refine WPL.nilW ?_;have q0:=j1 H;subst q0;exact wq []
 (iterate 2 refine sp ?_);refine cq H (fun hb4 H=>?_) fun hb4 H=>?_
 · (iterate 4 refine sp ?_);have q0:=j1 H;subst q0;exact W.now (InBlock.r (Then.r (mb [])))
 (iterate 2 refine sp ?_);refine InBlock.n ?_;(iterate 5 refine sp ?_);have q0:=j1 H;subst q0;exact W.now (mb [])
theorem s_dec_Cmp (k:Nat) (x1:Int) (x2:Int) (x3:Int) (x4:Int) (x5:Int) (H:g_dec_Cmp k x1 x2 x3 x4=some x5):Go.Q.Spec Tryz.prog 48 0 [.agg [.lit (.int .i64 x1),.lit (.int .i64 x2)],.agg [.lit (.int .i64 x3),.lit (.int .i64 x4)]] Mem.nil (fun o M=>o=.ret (.lit (.int .i64 x5))∧M=Mem.nil):=by
 unfold g_dec_Cmp at H;refine bo Tryz.func48 [] [.tmp 4] 69 fun cx hnp=>?_;(iterate 5 refine sp ?_);refine WP.seq ?_;refine sp ?_;refine WPL.d (d_buildCells li169 rfl rfl rfl rfl rfl) rfl ?_;obtain ⟨⟨x6,x7,x8,x9,x10⟩,h1,H⟩:=bnd H;refine WPL.c (rc [2,0,1] [2,0,1] 3 [] (s_dec_clean k x1 x2 x3 x4 x6 x7 x8 x9 x10 h1)) rfl ?_;(iterate 2 refine sp ?_);refine cq H (fun hb1 H=>?_) fun hb1 H=>?_
 · (iterate 4 refine sp ?_);have q0:=j1 H;subst q0;exact W.now (Then.r (mb []))
 (iterate 3 refine sp ?_);refine WP.seq ?_;refine WP.regionD' 6 [0,1] [] mixed rfl ?_;refine dK 0 ?_;refine dK 2 ?_;obtain ⟨x11,h2,H⟩:=bnd H;refine dE 1 [0,1] [] rfl (rc [] [] 3 [] (s_dec_sign k x7 x8 x11 h2)) ?_;obtain ⟨x12,h3,H⟩:=bnd H;refine dE 3 [0,1] [] rfl (rc [] [] 3 [] (s_dec_sign k x9 x10 x12 h3)) ?_;refine dT 4 ?_;refine dT 5 ?_;refine WPD.doneW (by kernel_rfl) ?_;(iterate 2 refine sp ?_);refine WP.seq ?_;refine WP.seq ?_;obtain ⟨x13,H1,H⟩:=bnd H;refine mo .normal (((((Env.none.upd 2 (.ptr 0 0)).upd 3 (.ptr 1 0)).upd 5 (.lit (.int .i64 x11))).upd 6 (.lit (.int .i64 x12))).upd 25 (.lit (.bool x13))) ((Mem.nil.push (.cells 23 [.lit (.int .i64 x7),.lit (.int .i64 x8)])).push (.cells 23 [.lit (.int .i64 x9),.lit (.int .i64 x10)])) ?_ ?_
 · clear H;have H:=H1;clear H1;(iterate 5 refine sp ?_);refine ws 22 H (fun hb2 H=>?_) fun hb2 H=>?_
   · (iterate 3 refine sp ?_);refine WPL.nilW ?_;have q0:=j1 H;subst q0;exact wq [0,1]
   (iterate 3 refine sp ?_);refine WPL.nilW ?_;have q0:=j1 H;subst q0;exact wq [0,1]
 (iterate 2 refine sp ?_);refine cq H (fun hb3 H=>?_) fun hb3 H=>?_
 · (iterate 4 refine sp ?_);obtain ⟨x14,h4,H⟩:=bnd H;refine sn (nm_int h4) ?_;obtain ⟨x15,h5,H⟩:=bnd H;refine sn (nm_int h5) ?_;(iterate 3 refine sp ?_);have q0:=j1 H;subst q0;exact W.now (Then.r (mb []))
 (iterate 3 refine sp ?_);refine WP.seq ?_;refine WP.regionD' 16 [0,1] [] mixed rfl ?_;refine dT 0 ?_;refine dT 4 ?_;refine dT 7 ?_;refine dT 11 ?_;refine dK 1 ?_;refine dK 5 ?_;refine dK 8 ?_;refine dK 12 ?_;obtain ⟨x16,h6,H⟩:=bnd H;refine dE 2 [0,1] [] rfl (rc [] [] 2 [] (s_dec_size k x7 x16 h6)) ?_;obtain ⟨x17,h7,H⟩:=bnd H;refine dE 3 [0,1] [] rfl (rc [] [] 2 [] (s_dec_digits k x16 x17 h7)) ?_;refine dT 6 ?_;obtain ⟨x18,h8,H⟩:=bnd H;refine dE 9 [0,1] [] rfl (rc [] [] 2 [] (s_dec_size k x9 x18 h8)) ?_;obtain ⟨x19,h9,H⟩:=bnd H;refine dE 10 [0,1] [] rfl (rc [] [] 2 [] (s_dec_digits k x18 x19 h9)) ?_;refine dT 13 ?_;refine dT 14 ?_;refine dT 15 ?_;refine WPD.doneW (by kernel_rfl) ?_;(iterate 2 refine sp ?_);refine WP.seq ?_;(iterate 3 refine sp ?_);obtain ⟨x20,h10,H⟩:=bnd H;refine sn (nm_bool h10) ?_;refine sp ?_;refine cq H (fun hb4 H=>?_) fun hb4 H=>?_
 · (iterate 4 refine sp ?_);obtain ⟨x21,h11,H⟩:=bnd H;refine sn (nm_int h11) ?_;obtain ⟨x22,h12,H⟩:=bnd H;refine sn (nm_int h12) ?_;obtain ⟨x23,h13,H⟩:=bnd H;refine sn (nm_int h13) ?_;(iterate 4 refine sp ?_);have q0:=j1 H;subst q0;exact W.now (Then.r (mb []))
 (iterate 6 refine sp ?_);obtain ⟨⟨x24,x25,x26,x27,x28,x29,x30⟩,h13,H⟩:=bnd H;refine WPL.c (rc [] [2,3] 4 [] (s_dec_even k x7 x8 x9 x10 x24 x25 x26 x27 x28 x29 x30 h13)) rfl ?_;(iterate 16 refine sp ?_);obtain ⟨x31,h14,H⟩:=bnd H;refine WPL.c (rc [] [] 6 [] (s_dec_wide_cmp k x25 x26 x28 x29 x31 h14)) rfl ?_;(iterate 4 refine sp ?_);have q0:=j1 H;subst q0;exact W.now (mb [])
theorem s_dec_Sign (k:Nat) (x1:Int) (x2:Int) (x3:Int) (H:g_dec_Sign k x1 x2=some x3):Go.Q.Spec Tryz.prog 22 0 [.agg [.lit (.int .i64 x1),.lit (.int .i64 x2)]] Mem.nil (fun o M=>o=.ret (.lit (.int .i64 x3))∧M=Mem.nil):=by
 unfold g_dec_Sign at H;refine bo Tryz.func22 [] [.tmp 2] 6 fun cx hnp=>?_;(iterate 7 refine sp ?_);obtain ⟨x4,h1,H⟩:=bnd H;refine WPL.c (rc [] [] 1 [] (s_dec_Cmp k x1 x2 0 0 x4 h1)) rfl ?_;(iterate 3 refine sp ?_);have q0:=j1 H;subst q0;exact W.now (mb [])
theorem s_dec_Neg (k:Nat) (x1:Int) (x2:Int) (x3:Int) (x4:Int) (x5:Int) (H:g_dec_Neg k x1 x2=some (x3,x4,x5)):Go.Q.Spec Tryz.prog 49 0 [.agg [.lit (.int .i64 x1),.lit (.int .i64 x2)]] Mem.nil (fun o M=>o=.ret (.tup [.agg [.lit (.int .i64 x4),.lit (.int .i64 x5)],.lit (.int .i64 x3)])∧M=(Mem.nil.push (.cells 23 [.lit (.int .i64 x4),.lit (.int .i64 x5)]))):=by
 unfold g_dec_Neg at H;refine bo Tryz.func49 [(23,2)] [.cell 2 23,.tmp 3] 20 fun cx hnp=>?_;(iterate 5 refine sp ?_);refine WP.seq ?_;(iterate 2 refine sp ?_);refine WPL.d (d_buildSlice (ds:=([(⟨x1,x2⟩:S_api_Dec)]:List S_api_Dec)) (R:=rdS_api_Dec) li167 rfl rfl rfl rfl rfl (JoinRows.cons (l:=[.lit (.int .i64 x1),.lit (.int .i64 x2)]) (Joins.via (Joins.cons Joins.sc (Joins.cons Joins.sc Joins.unit))) rfl JoinRows.nil) rfl rfl) rfl ?_;obtain ⟨x6,h1,H⟩:=bnd H;refine WPL.c (rc [] [] 3 [2] (s_dec_ranged k ([(⟨x1,x2⟩:S_api_Dec)]:List S_api_Dec) x6 h1)) rfl ?_;(iterate 2 refine sp ?_);refine cq H (fun hb1 H=>?_) fun hb1 H=>?_
 · (iterate 6 refine sp ?_);obtain ⟨rfl,rfl,rfl⟩:=j3 H;exact W.now (Then.r (mb [1]))
 (iterate 5 refine sp ?_);obtain ⟨x7,h2,H⟩:=bnd H;refine WPL.c (rc [] [3] 4 [] (s_dec_of k x1 x2 x7 h2)) rfl ?_;(iterate 12 refine sp ?_);obtain ⟨⟨x8,x9,x10⟩,h3,H⟩:=bnd H;refine WPL.c (rc [] [5] 6 [] (s_dec_num_tell k (!(decide (x1<0))) 0 x7 x2 x8 x9 x10 h3)) rfl ?_;(iterate 6 refine sp ?_);obtain ⟨rfl,rfl,rfl⟩:=j3 H;exact W.now (mb [1])
theorem s_dec_Mul (k:Nat) (x1:Int) (x2:Int) (x3:Int) (x4:Int) (x5:Int) (x6:Int) (x7:Int) (H:g_dec_Mul k x1 x2 x3 x4=some (x5,x6,x7)):Go.Q.Spec Tryz.prog 50 0 [.agg [.lit (.int .i64 x1),.lit (.int .i64 x2)],.agg [.lit (.int .i64 x3),.lit (.int .i64 x4)]] Mem.nil (fun o M=>o=.ret (.tup [.agg [.lit (.int .i64 x6),.lit (.int .i64 x7)],.lit (.int .i64 x5)])∧M=(Mem.nil.push (.cells 23 [.lit (.int .i64 x6),.lit (.int .i64 x7)]))):=by
 unfold g_dec_Mul at H;refine bo Tryz.func50 [(23,2)] [.cell 4 23,.tmp 5] 41 fun cx hnp=>?_;(iterate 6 refine sp ?_);refine WP.seq ?_;refine sp ?_;refine WPL.d (d_buildCells li169 rfl rfl rfl rfl rfl) rfl ?_;obtain ⟨⟨x8,x9,x10,x11,x12⟩,h1,H⟩:=bnd H;refine WPL.c (rc [3,0,1] [3,0,1] 4 [] (s_dec_clean k x1 x2 x3 x4 x8 x9 x10 x11 x12 h1)) rfl ?_;(iterate 2 refine sp ?_);refine cq H (fun hb1 H=>?_) fun hb1 H=>?_
 · (iterate 6 refine sp ?_);obtain ⟨rfl,rfl,rfl⟩:=j3 H;exact W.now (Then.r (mb [2]))
 (iterate 3 refine sp ?_);refine WP.seq ?_;refine WP.regionD' 12 [0,1] [] mixed rfl ?_;refine dT 0 ?_;refine dT 3 ?_;refine dK 1 ?_;refine dK 4 ?_;obtain ⟨x13,h2,H⟩:=bnd H;refine dE 2 [0,1] [] rfl (rc [] [] 4 [] (s_dec_size k x9 x13 h2)) ?_;obtain ⟨x14,h3,H⟩:=bnd H;refine dE 5 [0,1] [] rfl (rc [] [] 4 [] (s_dec_size k x11 x14 h3)) ?_;obtain ⟨x15,h4,H⟩:=bnd H;refine dE 6 [0,1] [] rfl (rc [] [] 4 [] (s_mb_Mul64 k x13 x14 x15 h4)) ?_;refine dT 7 ?_;refine dT 8 ?_;refine dT 9 ?_;refine dT 10 ?_;refine dT 11 ?_;refine WPD.doneW (by kernel_rfl) ?_;(iterate 9 refine sp ?_);obtain ⟨x16,h5,H⟩:=bnd H;refine WPL.qq (q_nm (q_neqb Tryz.underlying4 rfl rfl) (nm_bool h5)) ?_;(iterate 9 refine sp ?_);obtain ⟨⟨x17,x18,x19⟩,h5,H⟩:=bnd H;refine WPL.c (rc [] [4] 5 [] (s_dec_num_tell k x16 x15 (IntKind.wrap .u64 (x13*x14)) (IntKind.wrap .i64 (x10+x12)) x17 x18 x19 h5)) rfl ?_;(iterate 6 refine sp ?_);obtain ⟨rfl,rfl,rfl⟩:=j3 H;exact W.now (mb [2])
theorem s_dec_cut (k:Nat) (x1:Int) (x2:Int) (x3:Int) (x4:Int) (x5:Int) (H:g_dec_cut k x1 x2=some (x3,x4,x5)):Go.Q.Spec Tryz.prog 87 0 [.lit (.int .i64 x1),.lit (.int .i64 x2)] Mem.nil (fun o M=>o=.ret (.tup [.lit (.int .u64 x3),.lit (.int .u64 x4),.lit (.int .u64 x5)])∧M=Mem.nil):=by
 unfold g_dec_cut at H;refine bo Tryz.func87 [] [.tmp 4,.tmp 5,.tmp 6] 36 fun cx hnp=>?_;(iterate 8 refine sp ?_);obtain ⟨⟨x6,x7,x8⟩,h1,H⟩:=bnd H;refine WPL.c (rc [] [0] 1 [] (s_dec_wide_tens k 0 1 x2 x6 x7 x8 h1)) rfl ?_;(iterate 7 refine sp ?_);refine WP.seq ?_;refine WP.seq ?_;obtain ⟨x9,H1,H⟩:=bnd H;refine mo .normal (((Env.none.upd 0 (.lit (.int .i64 x1))).upd 7 (.ptr 0 0)).upd 21 (.lit (.bool x9))) (Mem.nil.push (.cells 119 [.lit (.int .u64 x7),.lit (.int .u64 x8)])) ?_ ?_
 · clear H;have H:=H1;clear H1;(iterate 4 refine sp ?_);refine ws 17 H (fun hb1 H=>?_) fun hb1 H=>?_
   · (iterate 4 refine sp ?_);refine WPL.nilW ?_;have q0:=j1 H;subst q0;exact wq [1]
   (iterate 4 refine sp ?_);refine WPL.nilW ?_;have q0:=j1 H;subst q0;exact wq [1]
 (iterate 2 refine sp ?_);refine cq H (fun hb2 H=>?_) fun hb2 H=>?_
 · (iterate 2 refine sp ?_);obtain ⟨x10,h2,H⟩:=bnd H;refine WPL.c (rc [] [] 1 [] (s_dec_size k x1 x10 h2)) rfl ?_;(iterate 5 refine sp ?_);obtain ⟨rfl,rfl,rfl⟩:=j3 H;exact W.now (Then.r (mb []))
 (iterate 3 refine sp ?_);refine WP.seq ?_;refine WP.regionD' 15 [0] [] mixed rfl ?_;refine dT 0 ?_;refine dT 2 ?_;refine dT 5 ?_;refine dT 7 ?_;refine dT 10 ?_;refine dK 3 ?_;refine dK 8 ?_;refine dK 11 ?_;obtain ⟨x11,h3,H⟩:=bnd H;refine dE 1 [0] [] rfl (rc [] [] 1 [] (s_dec_size k x1 x11 h3)) ?_;obtain ⟨h4,H⟩:=grd H;refine dT 4 ?_;obtain ⟨x12,h5,H⟩:=bnd H;refine dE 6 [0] [] rfl (rc [] [] 1 [] (s_dec_size k x1 x12 h5)) ?_;obtain ⟨h6,H⟩:=grd H;refine dT 9 ?_;refine dT 12 ?_;refine dT 13 ?_;refine dT 14 ?_;refine WPD.doneW (by kernel_rfl) ?_;(iterate 3 refine sp ?_);obtain ⟨rfl,rfl,rfl⟩:=j3 H;exact W.now (mb [])
theorem s_dec_Round (k:Nat) (x1:Int) (x2:Int) (x3:Int) (x4:Int) (x5:Int) (x6:Int) (H:g_dec_Round k x1 x2 x3=some (x4,x5,x6)):Go.Q.Spec Tryz.prog 51 0 [.agg [.lit (.int .i64 x1),.lit (.int .i64 x2)],.lit (.int .i64 x3)] Mem.nil (fun o M=>o=.ret (.tup [.agg [.lit (.int .i64 x5),.lit (.int .i64 x6)],.lit (.int .i64 x4)])∧M=(Mem.nil.push (.cells 23 [.lit (.int .i64 x5),.lit (.int .i64 x6)]))):=by
 unfold g_dec_Round at H;refine bo Tryz.func51 [(23,2)] [.cell 4 23,.tmp 5] 60 fun cx hnp=>?_;(iterate 5 refine sp ?_);refine WP.seq ?_;refine WP.seq ?_;obtain ⟨⟨x7,x8,x9⟩,H1,H⟩:=bnd H;refine mo .normal ((((Env.none.upd 1 (.lit (.int .i64 x3))).upd 2 (.ptr 0 0)).upd 4 (.ptr 1 0)).upd 20 (.lit (.bool x7))) ((Mem.nil.push (.cells 23 [.lit (.int .i64 x8),.lit (.int .i64 x9)])).push (.cells 23 [.lit (.int .i64 0),.lit (.int .i64 0)])) ?_ ?_
 · clear H;have H:=H1;clear H1;refine sp ?_;refine WPL.d (d_buildCells li169 rfl rfl rfl rfl rfl) rfl ?_;obtain ⟨⟨x10,x11,x12⟩,h1,H⟩:=bnd H;refine WPL.c (rc [2,0] [2,0] 3 [] (s_dec_clean__b k x1 x2 x10 x11 x12 h1)) rfl ?_;(iterate 2 refine sp ?_);refine ws 13 H (fun hb1 H=>?_) fun hb1 H=>?_
   · (iterate 7 refine sp ?_);refine WPL.nilW ?_;obtain ⟨rfl,rfl,rfl⟩:=j3 H;exact wq [0,1]
   (iterate 4 refine sp ?_);refine ws 17 H (fun hb2 H=>?_) fun hb2 H=>?_
   · (iterate 3 refine sp ?_);refine WPL.nilW ?_;obtain ⟨rfl,rfl,rfl⟩:=j3 H;exact wq [0,1]
   (iterate 3 refine sp ?_);refine WPL.nilW ?_;obtain ⟨rfl,rfl,rfl⟩:=j3 H;exact wq [0,1]
 (iterate 2 refine sp ?_);refine cq H (fun hb3 H=>?_) fun hb3 H=>?_
 · (iterate 6 refine sp ?_);obtain ⟨rfl,rfl,rfl⟩:=j3 H;exact W.now (Then.r (mb [1]))
 (iterate 8 refine sp ?_);obtain ⟨x13,h2,H⟩:=bnd H;refine sn (nm_int h2) ?_;(iterate 2 refine sp ?_);refine WP.seq ?_;(iterate 4 refine sp ?_);refine cq H (fun hb4 H=>?_) fun hb4 H=>?_
 · (iterate 6 refine sp ?_);obtain ⟨rfl,rfl,rfl⟩:=j3 H;exact W.now (Then.r (mb [1]))
 (iterate 7 refine sp ?_);obtain ⟨⟨x14,x15,x16⟩,h3,H⟩:=bnd H;refine WPL.c (rc [] [] 2 [] (s_dec_cut k x8 x13 x14 x15 x16 h3)) rfl ?_;(iterate 8 refine sp ?_);refine WP.seq ?_;obtain ⟨x17,H2,H⟩:=bnd H;refine mo .normal ((((Env.none.upd 1 (.lit (.int .i64 x3))).upd 2 (.ptr 0 0)).upd 4 (.ptr 1 0)).upd 7 (.lit (.int .u64 x17))) ((Mem.nil.push (.cells 23 [.lit (.int .i64 x8),.lit (.int .i64 x9)])).push (.cells 23 [.lit (.int .i64 0),.lit (.int .i64 0)])) ?_ ?_
 · clear H;have H:=H2;clear H2;refine WP.seq ?_;obtain ⟨x18,H3,H⟩:=bnd H;refine mo .normal (((((Env.none.upd 1 (.lit (.int .i64 x3))).upd 2 (.ptr 0 0)).upd 4 (.ptr 1 0)).upd 7 (.lit (.int .u64 x14))).upd 46 (.lit (.bool x18))) ((Mem.nil.push (.cells 23 [.lit (.int .i64 x8),.lit (.int .i64 x9)])).push (.cells 23 [.lit (.int .i64 0),.lit (.int .i64 0)])) ?_ ?_
   · clear H;have H:=H3;clear H3;(iterate 4 refine sp ?_);refine ws 40 H (fun hb5 H=>?_) fun hb5 H=>?_
     · (iterate 4 refine sp ?_);obtain ⟨x19,h4,H⟩:=bnd H;refine sn (nm_bool h4) ?_;refine sp ?_;refine WPL.nilW ?_;have q0:=j1 H;subst q0;exact wq [0,1]
     (iterate 6 refine sp ?_);refine WPL.nilW ?_;have q0:=j1 H;subst q0;exact wq [0,1]
   (iterate 2 refine sp ?_);refine cq H (fun hb6 H=>?_) fun hb6 H=>?_
   · (iterate 4 refine sp ?_);refine WPL.nilW ?_;have q0:=j1 H;subst q0;exact wq [0,1]
   refine sp ?_;have q0:=j1 H;subst q0;exact wq [0,1]
 (iterate 11 refine sp ?_);obtain ⟨⟨x20,x21,x22⟩,h5,H⟩:=bnd H;refine WPL.c (rc [] [2] 3 [] (s_dec_num_tell k (decide (x8<0)) 0 x17 (IntKind.wrap .i64 (0 - x3)) x20 x21 x22 h5)) rfl ?_;(iterate 6 refine sp ?_);obtain ⟨rfl,rfl,rfl⟩:=j3 H;exact W.now (mb [1])
theorem s_numfmt_Section_rounded (k:Nat) (x1:ByteArray) (x2:ByteArray) (x3:Int) (x4:Int) (x5:Bool) (x6:Int) (x7:Int) (x8:Bool) (x9:Int) (x10:Bool) (x11:Bool) (x12:Int) (x13:Int) (x14:Int) (x15:Int) (x16:Int) (H:g_numfmt_Section_rounded k x1 x2 x3 x4 x5 x6 x7 x8 x9 x10 x11 x12 x13=some (x14,x15,x16)):Go.Q.Spec Tryz.prog 23 0 [.agg [.lit (.string x1),.lit (.string x2),.lit (.int .i64 x3),.lit (.int .i64 x4),.lit (.bool x5),.lit (.int .i64 x6),.lit (.int .i64 x7),.lit (.bool x8),.lit (.int .i64 x9),.lit (.bool x10),.lit (.bool x11)],.agg [.lit (.int .i64 x12),.lit (.int .i64 x13)]] Mem.nil (fun o M=>o=.ret (.tup [.agg [.lit (.int .i64 x15),.lit (.int .i64 x16)],.lit (.int .i64 x14)])∧M=(Mem.nil.push (.cells 23 [.lit (.int .i64 x15),.lit (.int .i64 x16)]))):=by
 unfold g_numfmt_Section_rounded at H;refine bo Tryz.func23 [(23,2)] [.cell 4 23,.tmp 5] 38 fun cx hnp=>?_;(iterate 9 refine sp ?_);refine WP.seq ?_;obtain ⟨⟨x17,x18,x19⟩,H1,H⟩:=bnd H;refine mo .normal ((((Env.none.upd 2 (.ptr 0 0)).upd 3 (.ptr 1 0)).upd 4 (.ptr 2 0)).upd 6 (.lit (.int .i64 x17))) (((Mem.nil.push (.cells 43 [.lit (.string x1),.lit (.string x2),.lit (.int .i64 x3),.lit (.int .i64 x4),.lit (.bool x5),.lit (.int .i64 x6),.lit (.int .i64 x7),.lit (.bool x8),.lit (.int .i64 x9),.lit (.bool x10),.lit (.bool x11)])).push (.cells 23 [.lit (.int .i64 x18),.lit (.int .i64 x19)])).push (.cells 23 [.lit (.int .i64 0),.lit (.int .i64 0)])) ?_ ?_
 · clear H;have H:=H1;clear H1;(iterate 5 refine sp ?_);refine cq H (fun hb1 H=>?_) fun hb1 H=>?_
   · (iterate 2 refine sp ?_);obtain ⟨⟨x20,x21,x22⟩,h1,H⟩:=bnd H;refine WPL.c (rc [] [3] 4 [] (s_dec_Neg k x12 x13 x20 x21 x22 h1)) rfl ?_;(iterate 5 refine sp ?_);refine WPL.nilW ?_;obtain ⟨rfl,rfl,rfl⟩:=j3 H;exact wq [0,1,2]
   refine sp ?_;obtain ⟨rfl,rfl,rfl⟩:=j3 H;exact wq [0,1,2]
 (iterate 2 refine sp ?_);refine WP.seq ?_;(iterate 6 refine sp ?_);refine WP.cv (Cv.weak (E':=((((((Env.none.upd 2 (.ptr 0 0)).upd 3 (.ptr 1 0)).upd 4 (.ptr 2 0)).upd 6 (.lit (.int .i64 x17))).upd 16 (.lit (.int .i64 x9))).upd 17 (.lit (.int .i64 0)))) (M':=(((Mem.nil.push (.cells 43 [.lit (.string x1),.lit (.string x2),.lit (.int .i64 x3),.lit (.int .i64 x4),.lit (.bool x5),.lit (.int .i64 x6),.lit (.int .i64 x7),.lit (.bool x8),.lit (.int .i64 x9),.lit (.bool x10),.lit (.bool x11)])).push (.cells 23 [.lit (.int .i64 x18),.lit (.int .i64 x19)])).push (.cells 23 [.lit (.int .i64 0),.lit (.int .i64 0)]))) [0,1,2] hnp ⟨rfl,AA3,by decide,rfl,trivial⟩ (LeE.u (LeE.u (LeE.u (LeE.u (LeE.u (LeE.u (LeE.none rfl rfl)))))))) ?_;obtain ⟨⟨x23,x24,x25⟩,H2,H⟩:=bnd H;refine mo (.exit 0) ((((Env.none.upd 2 (.ptr 0 0)).upd 3 (.ptr 1 0)).upd 4 (.ptr 2 0)).upd 6 (.lit (.int .i64 x23))) (((Mem.nil.push (.cells 43 [.lit (.string x1),.lit (.string x2),.lit (.int .i64 x3),.lit (.int .i64 x4),.lit (.bool x5),.lit (.int .i64 x6),.lit (.int .i64 x7),.lit (.bool x8),.lit (.int .i64 x9),.lit (.bool x10),.lit (.bool x11)])).push (.cells 23 [.lit (.int .i64 x24),.lit (.int .i64 x25)])).push (.cells 23 [.lit (.int .i64 0),.lit (.int .i64 0)])) ?_ ?_
 · refine WP.loop (β:=Int × Int × Int × Int) (fun n b=>g_numfmt_Section_rounded_l0 k x9 n b.1 b.2.1 b.2.2.1 b.2.2.2=some (x23,x24,x25)) (fun b=>((((((Env.none.upd 2 (.ptr 0 0)).upd 3 (.ptr 1 0)).upd 4 (.ptr 2 0)).upd 6 (.lit (.int .i64 b.1))).upd 16 (.lit (.int .i64 x9))).upd 17 (.lit (.int .i64 b.2.1)))) (fun b=>(((Mem.nil.push (.cells 43 [.lit (.string x1),.lit (.string x2),.lit (.int .i64 x3),.lit (.int .i64 x4),.lit (.bool x5),.lit (.int .i64 x6),.lit (.int .i64 x7),.lit (.bool x8),.lit (.int .i64 x9),.lit (.bool x10),.lit (.bool x11)])).push (.cells 23 [.lit (.int .i64 b.2.2.1),.lit (.int .i64 b.2.2.2)])).push (.cells 23 [.lit (.int .i64 0),.lit (.int .i64 0)]))) k (x17,0,x18,x19) H2 rfl rfl ?_;rintro n ⟨x26,x27,x28,x29⟩ H;obtain _ | n:=n
   · exact nf rfl H
   rw [g_numfmt_Section_rounded_l0.eq_2] at H;show WP _ _ _ _ ((((((Env.none.upd 2 (.ptr 0 0)).upd 3 (.ptr 1 0)).upd 4 (.ptr 2 0)).upd 6 (.lit (.int .i64 x26))).upd 16 (.lit (.int .i64 x9))).upd 17 (.lit (.int .i64 x27))) (((Mem.nil.push (.cells 43 [.lit (.string x1),.lit (.string x2),.lit (.int .i64 x3),.lit (.int .i64 x4),.lit (.bool x5),.lit (.int .i64 x6),.lit (.int .i64 x7),.lit (.bool x8),.lit (.int .i64 x9),.lit (.bool x10),.lit (.bool x11)])).push (.cells 23 [.lit (.int .i64 x28),.lit (.int .i64 x29)])).push (.cells 23 [.lit (.int .i64 0),.lit (.int .i64 0)])) _;(iterate 3 refine sp ?_);refine WP.seq ?_;refine cq H (fun hb2 H=>?_) fun hb2 H=>?_
   · (iterate 3 refine sp ?_);refine WP.seq ?_;obtain ⟨⟨x30,x31,x32⟩,H3,H⟩:=bnd H;refine mo .normal ((((((Env.none.upd 2 (.ptr 0 0)).upd 3 (.ptr 1 0)).upd 4 (.ptr 2 0)).upd 6 (.lit (.int .i64 x30))).upd 16 (.lit (.int .i64 x9))).upd 17 (.lit (.int .i64 x27))) (((Mem.nil.push (.cells 43 [.lit (.string x1),.lit (.string x2),.lit (.int .i64 x3),.lit (.int .i64 x4),.lit (.bool x5),.lit (.int .i64 x6),.lit (.int .i64 x7),.lit (.bool x8),.lit (.int .i64 x9),.lit (.bool x10),.lit (.bool x11)])).push (.cells 23 [.lit (.int .i64 x31),.lit (.int .i64 x32)])).push (.cells 23 [.lit (.int .i64 0),.lit (.int .i64 0)])) ?_ ?_
     · clear H;have H:=H3;clear H3;(iterate 5 refine sp ?_);refine cq H (fun hb3 H=>?_) fun hb3 H=>?_
       · (iterate 3 refine sp ?_);obtain ⟨⟨x33,x34,x35⟩,h2,H⟩:=bnd H;refine WPL.c (rc [] [3] 4 [] (s_dec_Mul k x28 x29 1 2 x33 x34 x35 h2)) rfl ?_;(iterate 5 refine sp ?_);refine WPL.nilW ?_;obtain ⟨rfl,rfl,rfl⟩:=j3 H;exact wq [0,1,2] (InBlock.n r3)
       refine sp ?_;obtain ⟨rfl,rfl,rfl⟩:=j3 H;exact wq [0,1,2] (InBlock.n r3)
     (iterate 5 refine sp ?_);refine WPL.nilW ?_;exact wq [0,1,2] (Then.n ⟨n,(x30,(IntKind.wrap .i64 (x27+1)),x31,x32),Nat.lt_succ_self n,H,rfl,rfl⟩)
   refine sp ?_;obtain ⟨rfl,rfl,rfl⟩:=j3 H;exact wq [0,1,2] (Then.x (Then.x r3))
 (iterate 3 refine sp ?_);refine WP.seq ?_;(iterate 4 refine sp ?_);refine cq H (fun hb4 H=>?_) fun hb4 H=>?_
 · (iterate 7 refine sp ?_);obtain ⟨rfl,rfl,rfl⟩:=j3 H;exact W.now (Then.r (mb [2]))
 (iterate 7 refine sp ?_);obtain ⟨⟨x36,x37,x38⟩,h3,H⟩:=bnd H;refine WPL.c (rc [] [3] 4 [] (s_dec_Round k x24 x25 x6 x36 x37 x38 h3)) rfl ?_;(iterate 6 refine sp ?_);obtain ⟨rfl,rfl,rfl⟩:=j3 H;exact W.now (mb [2])
theorem s_sl_TrimPrefix (k:Nat) (x1:ByteArray) (x2:ByteArray) (x3:ByteArray) (H:g_sl_TrimPrefix k x1 x2=some x3):Go.Q.Spec Tryz.prog 89 0 [.lit (.string x1),.lit (.string x2)] Mem.nil (fun o M=>o=.ret (.lit (.string x3))∧M=Mem.nil):=by
 unfold g_sl_TrimPrefix at H;refine bo Tryz.func89 [] [.tmp 4] 13 fun cx hnp=>?_;(iterate 3 refine sp ?_);refine WP.seq ?_;(iterate 3 refine sp ?_);obtain ⟨x4,h1,H⟩:=bnd H;refine WPL.c (rc [] [] 0 [] (s_sl_HasPrefix k x1 x2 x4 h1)) rfl ?_;refine sp ?_;refine cq H (fun hb1 H=>?_) fun hb1 H=>?_
 · (iterate 4 refine sp ?_);obtain ⟨h2,H⟩:=grd H;obtain ⟨x5,h3,H⟩:=bnd H;refine WPL.qq (q_nm (q_slice_str (i:=((ByteArray.size x2:Nat):Int)) (j:=((ByteArray.size x1:Nat):Int)) Tryz.underlying9 rfl ⟨_,rfl⟩ rfl h2) (nm_str h3)) ?_;(iterate 3 refine sp ?_);have q0:=j1 H;subst q0;exact W.now (Then.r (mb []))
 (iterate 8 refine sp ?_);have q0:=j1 H;subst q0;exact W.now (mb [])
theorem s_st_TrimPrefix (k:Nat) (x1:ByteArray) (x2:ByteArray) (x3:ByteArray) (H:g_st_TrimPrefix k x1 x2=some x3):Go.Q.Spec Tryz.prog 53 0 [.lit (.string x1),.lit (.string x2)] Mem.nil (fun o M=>o=.ret (.lit (.string x3))∧M=Mem.nil):=by
 unfold g_st_TrimPrefix at H;refine bo Tryz.func53 [] [.tmp 4] 8 fun cx hnp=>?_;(iterate 6 refine sp ?_);obtain ⟨x4,h1,H⟩:=bnd H;refine WPL.c (rc [] [] 0 [] (s_sl_TrimPrefix k x1 x2 x4 h1)) rfl ?_;(iterate 3 refine sp ?_);have q0:=j1 H;subst q0;exact W.now (mb [])
theorem s_numfmt_grouped (k:Nat) (x1:ByteArray) (x2:ByteArray) (H:g_numfmt_grouped k x1=some x2):Go.Q.Spec Tryz.prog 55 0 [.lit (.string x1)] Mem.nil (fun o M=>o=.ret (.lit (.string x2))∧M=Mem.nil):=by
 unfold g_numfmt_grouped at H;refine bo Tryz.func55 [] [.tmp 2] 20 fun cx hnp=>?_;(iterate 3 refine sp ?_);refine WP.seq ?_;(iterate 3 refine sp ?_);obtain ⟨x3,h1,H⟩:=bnd H;refine sn (nm_int h1) ?_;(iterate 3 refine sp ?_);refine WP.cv (Cv.weak (E':=((Env.none.upd 0 (.lit (.string x1))).upd 3 (.lit (.int .i64 x3)))) (M':=Mem.nil) [] hnp ⟨rfl,trivial,by decide,rfl,trivial⟩ (LeE.u (LeE.u (LeE.none rfl rfl)))) ?_;obtain ⟨x4,H1,H⟩:=bnd H;refine mo (.exit 0) (Env.none.upd 0 (.lit (.string x4))) Mem.nil ?_ ?_
 · refine WP.loop (β:=ByteArray × Int) (fun n b=>g_numfmt_grouped_l0 k n b.1 b.2=some x4) (fun b=>((Env.none.upd 0 (.lit (.string b.1))).upd 3 (.lit (.int .i64 b.2)))) (fun b=>Mem.nil) k (x1,x3) H1 rfl rfl ?_;rintro n ⟨x5,x6⟩ H;obtain _ | n:=n
   · exact nf rfl H
   rw [g_numfmt_grouped_l0.eq_2] at H;show WP _ _ _ _ ((Env.none.upd 0 (.lit (.string x5))).upd 3 (.lit (.int .i64 x6))) Mem.nil _;refine WP.seq ?_;(iterate 4 refine sp ?_);refine cq H (fun hb1 H=>?_) fun hb1 H=>?_
   · (iterate 3 refine sp ?_);refine WP.seq ?_;refine sp ?_;refine WP.regionD' 9 [] [] mixed rfl ?_;refine dT 0 ?_;refine dT 1 ?_;obtain ⟨h2,H⟩:=grd H;refine WPD.tT 2 rfl (q_slice_str (i:=0) (j:=x6) Tryz.underlying9 rfl rfl ⟨_,rfl⟩ h2) ?_;obtain ⟨h3,H⟩:=grd H;obtain ⟨x7,h4,H⟩:=bnd H;refine dT 3 ?_ rfl (q_nm aq (nm_str h4));refine dT 4 ?_;refine dT 5 ?_;obtain ⟨h4,H⟩:=grd H;obtain ⟨x8,h5,H⟩:=bnd H;refine WPD.tT 6 rfl (q_nm (q_slice_str (i:=x6) (j:=((ByteArray.size x5:Nat):Int)) Tryz.underlying9 rfl ⟨_,rfl⟩ rfl h4) (nm_str h5)) ?_;obtain ⟨h5,H⟩:=grd H;refine dT 7 ?_;refine dT 8 ?_;refine WPD.doneW (by kernel_rfl) ?_;refine sp ?_;refine InBlock.n ?_;(iterate 5 refine sp ?_);refine WPL.nilW ?_;exact wq [] (Then.n ⟨n,((x7++x8),(IntKind.wrap .i64 (x6 - 3))),Nat.lt_succ_self n,H,rfl,rfl⟩)
   refine sp ?_;have q0:=j1 H;subst q0;exact wq [] (Then.x (Then.x r3))
 (iterate 8 refine sp ?_);have q0:=j1 H;subst q0;exact W.now (mb [])
theorem s_numfmt_Section_number (k:Nat) (x1:ByteArray) (x2:ByteArray) (x3:Int) (x4:Int) (x5:Bool) (x6:Int) (x7:Int) (x8:Bool) (x9:Int) (x10:Bool) (x11:Bool) (x12:Int) (x13:Int) (x14:ByteArray) (H:g_numfmt_Section_number k x1 x2 x3 x4 x5 x6 x7 x8 x9 x10 x11 x12 x13=some x14):Go.Q.Spec Tryz.prog 24 0 [.agg [.lit (.string x1),.lit (.string x2),.lit (.int .i64 x3),.lit (.int .i64 x4),.lit (.bool x5),.lit (.int .i64 x6),.lit (.int .i64 x7),.lit (.bool x8),.lit (.int .i64 x9),.lit (.bool x10),.lit (.bool x11)],.agg [.lit (.int .i64 x12),.lit (.int .i64 x13)]] Mem.nil (fun o M=>o=.ret (.lit (.string x14))∧M=Mem.nil):=by
 unfold g_numfmt_Section_number at H;refine bo Tryz.func24 [] [.tmp 4] 60 fun cx hnp=>?_;(iterate 5 refine sp ?_);refine WP.seq ?_;(iterate 5 refine sp ?_);refine cq H (fun hb1 H=>?_) fun hb1 H=>?_
 · (iterate 5 refine sp ?_);obtain ⟨h1,H⟩:=grd H;(iterate 4 refine sp ?_);have q0:=j1 H;subst q0;exact W.now (Then.r (mb []))
 (iterate 5 refine sp ?_);obtain ⟨x15,h2,H⟩:=bnd H;refine WPL.c (rc [] [] 2 [] (s_dec_Print k x12 x13 x15 h2)) rfl ?_;obtain ⟨⟨x16,x17,x18⟩,h3,H⟩:=bnd H;refine WPL.c (rc [] [] 2 [] (s_st_Cut k x15 (ByteArray.mk #[46]) x16 x17 x18 h3)) rfl ?_;(iterate 10 refine sp ?_);obtain ⟨x19,h4,H⟩:=bnd H;refine WPL.c (rc [] [] 2 [] (s_st_TrimPrefix k x16 (ByteArray.mk #[48]) x19 h4)) rfl ?_;(iterate 7 refine sp ?_);obtain ⟨x20,h5,H⟩:=bnd H;refine sn (nm_int h5) ?_;obtain ⟨x21,h6,H⟩:=bnd H;refine sn (nm_int h6) ?_;obtain ⟨x22,h6,H⟩:=bnd H;refine WPL.c (rc [] [] 2 [] (s_st_Repeat k (ByteArray.mk #[48]) x21 x22 h6)) rfl ?_;refine sp ?_;obtain ⟨h7,H⟩:=grd H;(iterate 9 refine sp ?_);obtain ⟨x23,h8,H⟩:=bnd H;refine sn (nm_int h8) ?_;obtain ⟨x24,h9,H⟩:=bnd H;refine sn (nm_int h9) ?_;obtain ⟨x25,h9,H⟩:=bnd H;refine WPL.c (rc [] [] 2 [] (s_st_Repeat k (ByteArray.mk #[48]) x24 x25 h9)) rfl ?_;obtain ⟨h10,H⟩:=grd H;(iterate 3 refine sp ?_);refine WP.seq ?_;obtain ⟨x26,H1,H⟩:=bnd H;refine mo .normal (((Env.none.upd 2 (.ptr 0 0)).upd 5 (.lit (.string x26))).upd 6 (.lit (.string (x17++x25)))) (Mem.nil.push (.cells 43 [.lit (.string x1),.lit (.string x2),.lit (.int .i64 x3),.lit (.int .i64 x4),.lit (.bool x5),.lit (.int .i64 x6),.lit (.int .i64 x7),.lit (.bool x8),.lit (.int .i64 x9),.lit (.bool x10),.lit (.bool x11)])) ?_ ?_
 · clear H;have H:=H1;clear H1;(iterate 4 refine sp ?_);refine cq H (fun hb2 H=>?_) fun hb2 H=>?_
   · (iterate 2 refine sp ?_);obtain ⟨x27,h11,H⟩:=bnd H;refine WPL.c (rc [] [] 2 [] (s_numfmt_grouped k (x22++x19) x27 h11)) rfl ?_;refine sp ?_;refine WPL.nilW ?_;have q0:=j1 H;subst q0;exact wq [0]
   refine sp ?_;have q0:=j1 H;subst q0;exact wq [0]
 (iterate 2 refine sp ?_);refine WP.seq ?_;obtain ⟨x28,H2,H⟩:=bnd H;refine mo .normal (((Env.none.upd 2 (.ptr 0 0)).upd 5 (.lit (.string x28))).upd 6 (.lit (.string (x17++x25)))) (Mem.nil.push (.cells 43 [.lit (.string x1),.lit (.string x2),.lit (.int .i64 x3),.lit (.int .i64 x4),.lit (.bool x5),.lit (.int .i64 x6),.lit (.int .i64 x7),.lit (.bool x8),.lit (.int .i64 x9),.lit (.bool x10),.lit (.bool x11)])) ?_ ?_
 · clear H;have H:=H2;clear H2;(iterate 4 refine sp ?_);refine cq H (fun hb3 H=>?_) fun hb3 H=>?_
   · (iterate 2 refine sp ?_);obtain ⟨h12,H⟩:=grd H;(iterate 2 refine sp ?_);refine WPL.nilW ?_;have q0:=j1 H;subst q0;exact wq [0]
   refine sp ?_;have q0:=j1 H;subst q0;exact wq [0]
 (iterate 6 refine sp ?_);obtain ⟨h13,H⟩:=grd H;(iterate 2 refine sp ?_);obtain ⟨h14,H⟩:=grd H;(iterate 3 refine sp ?_);obtain ⟨h15,H⟩:=grd H;(iterate 4 refine sp ?_);have q0:=j1 H;subst q0;exact W.now (mb [])
theorem s_numfmt_Render (k:Nat) (x1:ByteArray) (x2:Int) (x3:Int) (x4:Int) (x5:ByteArray) (x6:Bool) (x7:Int) (x8:ByteArray) (H:g_numfmt_Render k x1 x2 x3 x4 x5 x6 x7=some x8):Go.Q.Spec Tryz.prog 8 0 [.lit (.string x1),.agg [.lit (.int .i64 x2),.lit (.int .i64 x3),.lit (.int .i64 x4),.lit (.string x5),.lit (.bool x6),.lit (.int .i64 x7)]] Mem.nil (fun o M=>o=.ret (.lit (.string x8))∧M=Mem.nil):=by
 unfold g_numfmt_Render at H;refine bo Tryz.func8 [] [.tmp 4] 105 fun cx hnp=>?_;(iterate 6 refine sp ?_);obtain ⟨⟨x9,x10⟩,h1,H⟩:=bnd H;refine WPL.c (rc [] [1,2] 3 [] (s_numfmt_Parse k x1 x9 x10 h1)) rfl ?_;(iterate 6 refine sp ?_);refine WP.seq ?_;refine sp ?_;refine WP.seq ?_;obtain ⟨x11,H1,H⟩:=bnd H;refine mo .normal (((Env.none.upd 3 (.ptr 0 0)).upd 5 (.ro (Rd.slice rdS_numfmt_Section) false x9)).upd 17 (.lit (.bool x11))) (Mem.nil.push (.cells 31 [.lit (.int .i64 x2),.lit (.int .i64 x3),.lit (.int .i64 x4),.lit (.string x5),.lit (.bool x6),.lit (.int .i64 x7)])) ?_ ?_
 · clear H;have H:=H1;clear H1;(iterate 2 refine sp ?_);obtain ⟨x12,h2,H⟩:=bnd H;refine WPL.c (rc [] [] 3 [] (s_val_Right k x2 x3 x4 x5 x6 x7 x12 h2)) rfl ?_;(iterate 2 refine sp ?_);refine ws 21 H (fun hb1 H=>?_) fun hb1 H=>?_
   · (iterate 5 refine sp ?_);refine WPL.nilW ?_;have q0:=j1 H;subst q0;exact wq [0]
   (iterate 2 refine sp ?_);obtain ⟨x13,h3,H⟩:=bnd H;refine sn (nm_bool h3) ?_;(iterate 2 refine sp ?_);refine WPL.nilW ?_;have q0:=j1 H;subst q0;exact wq [0]
 (iterate 2 refine sp ?_);refine cq H (fun hb2 H=>?_) fun hb2 H=>?_
 · (iterate 2 refine sp ?_);obtain ⟨x14,h4,H⟩:=bnd H;refine WPL.c (rc [] [] 1 [] (s_val_Show k x2 x3 x4 x5 x6 x7 x14 h4)) rfl ?_;(iterate 3 refine sp ?_);have q0:=j1 H;subst q0;exact W.now (InBlock.r (Then.r (mb [])))
 refine WP.seq ?_;obtain ⟨x15,H2,H⟩:=bnd H;refine mo .normal (((Env.none.upd 3 (.ptr 0 0)).upd 5 (.ro (Rd.slice rdS_numfmt_Section) false x9)).upd 28 (.lit (.bool x15))) (Mem.nil.push (.cells 31 [.lit (.int .i64 x2),.lit (.int .i64 x3),.lit (.int .i64 x4),.lit (.string x5),.lit (.bool x6),.lit (.int .i64 x7)])) ?_ ?_
 · clear H;have H:=H2;clear H2;(iterate 5 refine sp ?_);refine ws 32 H (fun hb3 H=>?_) fun hb3 H=>?_
   · (iterate 2 refine sp ?_);obtain ⟨x16,h5,H⟩:=bnd H;refine sn (nm_bool h5) ?_;(iterate 2 refine sp ?_);refine WPL.nilW ?_;have q0:=j1 H;subst q0;exact wq [0]
   (iterate 5 refine sp ?_);refine WPL.nilW ?_;have q0:=j1 H;subst q0;exact wq [0]
 (iterate 2 refine sp ?_);refine cq H (fun hb4 H=>?_) fun hb4 H=>?_
 · refine WP.seq ?_;refine WP.regionD' 8 [0] [] mixed rfl ?_;refine dT 0 ?_;obtain ⟨x17,h6,H⟩:=bnd H;refine dT 1 ?_;refine WPD.tT 2 rfl (q_fieldAddr_ro fi43_0 rfl rfl S_numfmt_Section.p0 (Nat.le_of_ble_eq_true rfl)) ?_;refine dT 3 ?_;refine dT 4 ?_;refine dK 5 ?_;obtain ⟨x18,h6,H⟩:=bnd H;refine dE 6 [0] [] rfl (rc [] [] 1 [] (s_st_ReplaceAll k x17.fBefore (ByteArray.mk #[0]) x5 x18 h6) (hargs:=.ren rfl rfl (.ren rfl rfl (.ren rfl rfl .nil)))) ?_;refine dT 7 ?_;refine WPD.doneW (by kernel_rfl) ?_;(iterate 3 refine sp ?_);have q0:=j1 H;subst q0;exact W.now (InBlock.r (Then.r (mb [])))
 (iterate 6 refine sp ?_);refine cq H (fun hb5 H=>?_) fun hb5 H=>?_
 · (iterate 2 refine sp ?_);obtain ⟨x19,h7,H⟩:=bnd H;refine WPL.c (rc [] [] 1 [] (s_val_Show k x2 x3 x4 x5 x6 x7 x19 h7)) rfl ?_;(iterate 3 refine sp ?_);have q0:=j1 H;subst q0;exact W.now (InBlock.r (Then.r (mb [])))
 (iterate 2 refine sp ?_);refine InBlock.n ?_;(iterate 4 refine sp ?_);refine WP.seq ?_;obtain ⟨x20,H3,H⟩:=bnd H;refine mo .normal (((Env.none.upd 3 (.ptr 0 0)).upd 5 (.ro (Rd.slice rdS_numfmt_Section) false x9)).upd 7 (.lit (.int .i64 x20))) (Mem.nil.push (.cells 31 [.lit (.int .i64 x2),.lit (.int .i64 x3),.lit (.int .i64 x4),.lit (.string x5),.lit (.bool x6),.lit (.int .i64 x7)])) ?_ ?_
 · clear H;have H:=H3;clear H3;(iterate 3 refine sp ?_);obtain ⟨x21,h8,H⟩:=bnd H;refine WPL.c (rc [] [] 1 [] (s_dec_Sign k x3 x4 x21 h8)) rfl ?_;(iterate 8 refine sp ?_);refine cq H (fun hb6 H=>?_) fun hb6 H=>?_
   · (iterate 3 refine sp ?_);obtain ⟨x22,h9,H⟩:=bnd H;refine sn (nm_int h9) ?_;obtain ⟨x23,h10,H⟩:=bnd H;refine sn (nm_int h10) ?_;refine sp ?_;refine WPL.nilW ?_;have q0:=j1 H;subst q0;exact wq [0] (InBlock.n r3)
   refine WP.seq ?_;obtain ⟨x24,H4,H⟩:=bnd H;refine mo .normal ((((Env.none.upd 3 (.ptr 0 0)).upd 5 (.ro (Rd.slice rdS_numfmt_Section) false x9)).upd 7 (.lit (.int .i64 0))).upd 60 (.lit (.bool x24))) (Mem.nil.push (.cells 31 [.lit (.int .i64 x2),.lit (.int .i64 x3),.lit (.int .i64 x4),.lit (.string x5),.lit (.bool x6),.lit (.int .i64 x7)])) ?_ ?_
   · clear H;have H:=H4;clear H4;(iterate 4 refine sp ?_);refine ws 63 H (fun hb7 H=>?_) fun hb7 H=>?_
     · (iterate 2 refine sp ?_);obtain ⟨x25,h11,H⟩:=bnd H;refine sn (nm_bool h11) ?_;(iterate 2 refine sp ?_);refine WPL.nilW ?_;have q0:=j1 H;subst q0;exact wq [0]
     (iterate 5 refine sp ?_);refine WPL.nilW ?_;have q0:=j1 H;subst q0;exact wq [0]
   (iterate 2 refine sp ?_);refine cq H (fun hb8 H=>?_) fun hb8 H=>?_
   · (iterate 2 refine sp ?_);refine WPL.nilW ?_;have q0:=j1 H;subst q0;exact wq [0] (InBlock.n r3)
   refine sp ?_;have q0:=j1 H;subst q0;exact wq [0] (InBlock.n r3)
 (iterate 2 refine sp ?_);refine WP.seq ?_;obtain ⟨⟨x26,x27,x28⟩,H5,H⟩:=bnd H;refine mo .normal (((((Env.none.upd 3 (.ptr 0 0)).upd 5 (.ro (Rd.slice rdS_numfmt_Section) false x9)).upd 7 (.lit (.int .i64 x20))).upd 9 (.ptr 1 0)).upd 10 (.lit (.int .i64 x26))) ((Mem.nil.push (.cells 31 [.lit (.int .i64 x2),.lit (.int .i64 x3),.lit (.int .i64 x4),.lit (.string x5),.lit (.bool x6),.lit (.int .i64 x7)])).push (.cells 23 [.lit (.int .i64 x27),.lit (.int .i64 x28)])) ?_ ?_
 · clear H;have H:=H5;clear H5;refine WP.regionD' 13 [0] [] mixed rfl ?_;refine dT 0 ?_;refine dT 1 ?_;obtain ⟨x29,h12,H⟩:=bnd H;refine dT 2 ?_;refine WPD.tT 3 rfl (q_load_roag ag43 rfl rfl S_numfmt_Section.sp) ?_;refine dT 4 ?_;refine dK 5 ?_;refine WPD.of2 6 10 (by kernel_rfl) ?_ ?_
   · obtain ⟨⟨x30,x31,x32⟩,h12,H⟩:=bnd H;refine WPD1.eff 6 [0] [] rfl (rc [] [1] 2 [] (s_numfmt_Section_rounded k x29.fBefore x29.fAfter x29.fWhole x29.fZeros x29.fPoint x29.fPart x29.fPartZero x29.fGroup x29.fPercent x29.fDigits x29.fText x3 x4 x30 x31 x32 h12)) rfl rfl ?_;refine dT 7 ?_;refine dT 8 ?_;refine dT 9 ?_;refine dE 10 [0] [] rfl (Does.runs (d_alloc ze23 rfl)) ?_;refine dS 11 [0] [] ?_;refine dT 12 ?_;refine WPD.doneW (by kernel_rfl) ?_;obtain ⟨rfl,rfl,rfl⟩:=j3 H;exact wq [0,2]
   refine WPD1.eff 10 [0] [] rfl (Does.runs (d_alloc ze23 rfl)) rfl rfl ?_;obtain ⟨⟨x33,x34,x35⟩,h13,H⟩:=bnd H;refine dE 6 [0] [] rfl (rc [] [2] 3 [] (s_numfmt_Section_rounded k x29.fBefore x29.fAfter x29.fWhole x29.fZeros x29.fPoint x29.fPart x29.fPartZero x29.fGroup x29.fPercent x29.fDigits x29.fText x3 x4 x33 x34 x35 h13)) ?_;refine dT 7 ?_;refine dT 8 ?_;refine dT 9 ?_;refine dS 11 [0] [] ?_;refine dT 12 ?_;refine WPD.doneW (by kernel_rfl) ?_;obtain ⟨rfl,rfl,rfl⟩:=j3 H;exact wq [0,1]
 (iterate 2 refine sp ?_);refine WP.seq ?_;(iterate 4 refine sp ?_);refine cq H (fun hb9 H=>?_) fun hb9 H=>?_
 · (iterate 2 refine sp ?_);obtain ⟨x36,h14,H⟩:=bnd H;refine WPL.c (rc [] [] 2 [] (s_val_Show k x2 x3 x4 x5 x6 x7 x36 h14)) rfl ?_;(iterate 3 refine sp ?_);have q0:=j1 H;subst q0;exact W.now (Then.r (mb []))
 (iterate 3 refine sp ?_);refine WP.seq ?_;refine WP.regionD' 7 [1] [] mixed rfl ?_;refine dT 0 ?_;refine dT 1 ?_;obtain ⟨x37,h15,H⟩:=bnd H;refine dT 2 ?_;refine WPD.tT 3 rfl (q_load_roag ag43 rfl rfl S_numfmt_Section.sp) ?_;refine dK 4 ?_;obtain ⟨x38,h15,H⟩:=bnd H;refine dE 5 [1] [] rfl (rc [] [] 2 [] (s_numfmt_Section_number k x37.fBefore x37.fAfter x37.fWhole x37.fZeros x37.fPoint x37.fPart x37.fPartZero x37.fGroup x37.fPercent x37.fDigits x37.fText x27 x28 x38 h15)) ?_;refine dT 6 ?_;refine WPD.doneW (by kernel_rfl) ?_;(iterate 2 refine sp ?_);refine WP.seq ?_;obtain ⟨x39,H6,H⟩:=bnd H;refine mo .normal (Env.none.upd 11 (.lit (.string x39))) Mem.nil ?_ ?_
 · clear H;have H:=H6;clear H6;refine WP.seq ?_;obtain ⟨x40,H7,H⟩:=bnd H;refine mo .normal ((Env.none.upd 11 (.lit (.string x38))).upd 101 (.lit (.bool x40))) Mem.nil ?_ ?_
   · clear H;have H:=H7;clear H7;(iterate 3 refine sp ?_);obtain ⟨x41,h16,H⟩:=bnd H;refine sn (nm_bool h16) ?_;refine sp ?_;refine ws 91 H (fun hb10 H=>?_) fun hb10 H=>?_
     · (iterate 6 refine sp ?_);refine ws 97 H (fun hb11 H=>?_) fun hb11 H=>?_
       · (iterate 4 refine sp ?_);refine WPL.nilW ?_;have q0:=j1 H;subst q0;exact wq []
       (iterate 4 refine sp ?_);refine WPL.nilW ?_;have q0:=j1 H;subst q0;exact wq []
     (iterate 10 refine sp ?_);refine WPL.nilW ?_;have q0:=j1 H;subst q0;exact wq []
   (iterate 2 refine sp ?_);refine cq H (fun hb12 H=>?_) fun hb12 H=>?_
   · (iterate 2 refine sp ?_);obtain ⟨h17,H⟩:=grd H;(iterate 2 refine sp ?_);refine WPL.nilW ?_;have q0:=j1 H;subst q0;exact wq []
   refine sp ?_;have q0:=j1 H;subst q0;exact wq []
 (iterate 7 refine sp ?_);have q0:=j1 H;subst q0;exact W.now (mb [])
theorem s_quirelaw14_alive (k:Nat) (x1:Bool) (H:g_quirelaw14_alive k=some x1):Go.Q.Spec Tryz.prog 6 0 [] Mem.nil (fun o M=>o=.ret (.lit (.bool x1))∧M=Mem.nil):=by
 unfold g_quirelaw14_alive at H;refine bo Tryz.func6 [] [.tmp 0] 29 fun cx hnp=>?_;(iterate 3 refine sp ?_);refine WP.seq ?_;obtain ⟨x2,H1,H⟩:=bnd H;refine mo .normal (Env.none.upd 0 (.lit (.bool x2))) Mem.nil ?_ ?_
 · clear H;have H:=H1;clear H1;refine sp ?_;obtain ⟨_,h1,H⟩:=bnd H;refine WPL.c (rc [] [0] 1 [] (s_quirelaw14_num k 12345 (-1) h1)) rfl ?_;obtain ⟨x3,h2,H⟩:=bnd H;refine WPL.c (rc [] [] 1 [] (s_numfmt_Render k (ByteArray.mk #[35,44,35,35,48,46,48,48]) 1 12345 (-1) (ByteArray.mk #[]) false 0 x3 h2)) rfl ?_;obtain ⟨x4,h3,H⟩:=bnd H;refine sn (nm_bool h3) ?_;refine sp ?_;refine ws 4 H (fun hb1 H=>?_) fun hb1 H=>?_
   · obtain ⟨_,h4,H⟩:=bnd H;refine WPL.cg rfl rfl (lb hb1) (rc [] [1] 2 [] (s_quirelaw14_num k 256 (-3) h4)) rfl ?_;obtain ⟨x5,h5,H⟩:=bnd H;refine WPL.cg rfl rfl (lb hb1) (rc [] [] 2 [] (s_numfmt_Render k (ByteArray.mk #[48,37]) 1 256 (-3) (ByteArray.mk #[]) false 0 x5 h5)) rfl ?_;obtain ⟨x6,h6,H⟩:=bnd H;refine sn (nm_bool h6) ?_;(iterate 2 refine sp ?_);refine ws 9 H (fun hb2 H=>?_) fun hb2 H=>?_
     · obtain ⟨_,h7,H⟩:=bnd H;refine WPL.cg rfl rfl (lb hb2) (rc [] [2] 3 [] (s_quirelaw14_num k (-3) 0 h7)) rfl ?_;obtain ⟨x7,h8,H⟩:=bnd H;refine WPL.cg rfl rfl (lb hb2) (rc [] [] 3 [] (s_numfmt_Render k (ByteArray.mk #[48,59,40,48,41]) 1 (-3) 0 (ByteArray.mk #[]) false 0 x7 h8)) rfl ?_;obtain ⟨x8,h9,H⟩:=bnd H;refine sn (nm_bool h9) ?_;(iterate 2 refine sp ?_);refine ws 14 H (fun hb3 H=>?_) fun hb3 H=>?_
       · obtain ⟨_,h10,H⟩:=bnd H;refine WPL.cg rfl rfl (lb hb3) (rc [] [3] 4 [] (s_quirelaw14_num k 2 0 h10)) rfl ?_;obtain ⟨x9,h11,H⟩:=bnd H;refine WPL.cg rfl rfl (lb hb3) (rc [] [] 4 [] (s_numfmt_Render k (ByteArray.mk #[34,120,34,48,46,35]) 1 2 0 (ByteArray.mk #[]) false 0 x9 h11)) rfl ?_;obtain ⟨x10,h12,H⟩:=bnd H;refine sn (nm_bool h12) ?_;(iterate 2 refine sp ?_);refine ws 19 H (fun hb4 H=>?_) fun hb4 H=>?_
         · obtain ⟨_,h13,H⟩:=bnd H;refine WPL.cg rfl rfl (lb hb4) (rc [] [4] 5 [] (s_quirelaw14_num k 0 0 h13)) rfl ?_;obtain ⟨x11,h14,H⟩:=bnd H;refine WPL.cg rfl rfl (lb hb4) (rc [] [] 5 [] (s_numfmt_Render k (ByteArray.mk #[35]) 1 0 0 (ByteArray.mk #[]) false 0 x11 h14)) rfl ?_;obtain ⟨x12,h15,H⟩:=bnd H;refine sn (nm_bool h15) ?_;(iterate 2 refine sp ?_);refine ws 24 H (fun hb5 H=>?_) fun hb5 H=>?_
           · obtain ⟨_,h16,H⟩:=bnd H;refine WPL.cg rfl rfl (lb hb5) (rc [] [5] 6 [] (s_quirelaw14_num k 7 0 h16)) rfl ?_;obtain ⟨x13,h17,H⟩:=bnd H;refine WPL.cg rfl rfl (lb hb5) (rc [] [] 6 [] (s_numfmt_Render k (ByteArray.mk #[45]) 1 7 0 (ByteArray.mk #[]) false 0 x13 h17)) rfl ?_;obtain ⟨x14,h18,H⟩:=bnd H;refine sn (nm_bool h18) ?_;(iterate 2 refine sp ?_);refine WPL.nilW ?_;have q0:=j1 H;subst q0;exact wq []
           (iterate 5 refine sp ?_);refine WPL.nilW ?_;have q0:=j1 H;subst q0;exact wq []
         (iterate 10 refine sp ?_);refine WPL.nilW ?_;have q0:=j1 H;subst q0;exact wq []
       (iterate 15 refine sp ?_);refine WPL.nilW ?_;have q0:=j1 H;subst q0;exact wq []
     (iterate 20 refine sp ?_);refine WPL.nilW ?_;have q0:=j1 H;subst q0;exact wq []
   (iterate 25 refine sp ?_);refine WPL.nilW ?_;have q0:=j1 H;subst q0;exact wq []
 (iterate 3 refine sp ?_);have q0:=j1 H;subst q0;exact W.now (mb [])
theorem s_r9_num (k:Nat) (x1:Int) (x2:Int) (x3:Bool) (x4:(List Int)) (H:g_r9_num k x1 x2=some (x3,x4)):Go.Q.Spec Tryz.prog 66 0 [.agg [.lit (.int .i64 x1),.lit (.int .i64 x2)]] Mem.nil (fun o M=>o=.ret (.tup [.agg [.lit (.bool (decide (x1<0))),.ro (Rd.slice (Rd.int .i64)) false x4,.lit (.int .i64 x2)],.lit (.bool x3)])∧M=(Mem.nil.push (.cells 52 [.lit (.bool (decide (x1<0))),.ro (Rd.slice (Rd.int .i64)) false x4,.lit (.int .i64 x2)]))):=by
 unfold g_r9_num at H;refine bo Tryz.func66 [(52,3)] [.cell 2 52,.tmp 3] 18 fun cx hnp=>?_;(iterate 5 refine sp ?_);refine WP.seq ?_;obtain ⟨⟨x5,x6⟩,H1,H⟩:=bnd H;refine mo .normal ((Env.none.upd 2 (.ptr 0 0)).upd 3 (.lit (.bool x5))) (Mem.nil.push (.cells 52 [.lit (.bool (decide (x1<0))),.ro (Rd.slice (Rd.int .i64)) false x6,.lit (.int .i64 x2)])) ?_ ?_
 · clear H;have H:=H1;clear H1;refine WP.regionD' 16 [0] [] mixed rfl ?_;refine dT 0 ?_;refine dT 3 ?_;refine dT 6 ?_;refine dK 1 ?_;refine dK 4 ?_;refine dK 7 ?_;refine dT 8 ?_;obtain ⟨x7,h1,H⟩:=bnd H;refine dE 2 [0] [] rfl (rc [] [2] 3 [] (s_r9_Of k x1 x7 h1)) ?_;refine dT 5 ?_;refine dT 9 ?_;refine ds 13 H (fun hb1 H=>?_) fun hb1 H=>?_
   · refine dG 10 ?_;refine dH 11 ?_;refine dG 12 ?_;refine dT 13 ?_;refine dS 14 [0] [] ?_;refine dT 15 ?_;refine WPD.doneW (by kernel_rfl) ?_;obtain ⟨rfl,rfl⟩:=j2 H;exact wq [1]
   refine dP false 10 ?_;refine dP false 11 ?_;refine dP false 12 ?_;refine dT 13 ?_;refine dS 14 [0] [] ?_;refine dT 15 ?_;refine WPD.doneW (by kernel_rfl) ?_;obtain ⟨rfl,rfl⟩:=j2 H;exact wq [1]
 (iterate 3 refine sp ?_);obtain ⟨rfl,rfl⟩:=j2 H;exact W.now (mb [0])
theorem s_r9_two (k:Nat) (x1:Int) (x2:Int) (x3:Int) (x4:Int) (x5:Bool) (x6:Bool) (x7:(List Int)) (x8:Int) (x9:Bool) (x10:(List Int)) (x11:Int) (H:g_r9_two k x1 x2 x3 x4=some (x5,x6,x7,x8,x9,x10,x11)):Go.Q.Spec Tryz.prog 38 0 [.agg [.lit (.int .i64 x1),.lit (.int .i64 x2)],.agg [.lit (.int .i64 x3),.lit (.int .i64 x4)]] Mem.nil (fun o M=>o=.ret (.tup [.agg [.lit (.bool x6),.ro (Rd.slice (Rd.int .i64)) false x7,.lit (.int .i64 x8)],.agg [.lit (.bool x9),.ro (Rd.slice (Rd.int .i64)) false x10,.lit (.int .i64 x11)],.lit (.bool x5)])∧M=((Mem.nil.push (.cells 52 [.lit (.bool x6),.ro (Rd.slice (Rd.int .i64)) false x7,.lit (.int .i64 x8)])).push (.cells 52 [.lit (.bool x9),.ro (Rd.slice (Rd.int .i64)) false x10,.lit (.int .i64 x11)]))):=by
 unfold g_r9_two at H;refine Go.Q.Spec.of_bodyR (az:=[(52,3)]) (rs:=[.cell 4 52,.cell 5 52,.tmp 6]) (nt:=55) Tryz.func38 rfl rfl (by intro t T h;simp at h;rcases h with ⟨rfl,rfl⟩ | ⟨rfl,rfl⟩ <;> first | exact ag52 | exact ag52) rfl rfl fun cx hnp=>?_
 (iterate 9 refine sp ?_);obtain ⟨⟨x12,x13⟩,h1,H⟩:=bnd H;refine WPL.c (rc [] [4] 5 [] (s_r9_num k x1 x2 x12 x13 h1)) rfl ?_;(iterate 9 refine sp ?_);obtain ⟨⟨x14,x15⟩,h2,H⟩:=bnd H;refine WPL.c (rc [] [6] 7 [] (s_r9_num k x3 x4 x14 x15 h2)) rfl ?_;(iterate 7 refine sp ?_);refine WP.seq ?_;refine WP.seq ?_;obtain ⟨x16,H1,H⟩:=bnd H;refine mo .normal (((((Env.none.upd 4 (.ptr 0 0)).upd 5 (.ptr 1 0)).upd 7 (.ptr 2 0)).upd 9 (.ptr 3 0)).upd 26 (.lit (.bool x16))) ((((Mem.nil.push (.cells 52 [.lit (.bool false),.lit (.slice none 0 0),.lit (.int .i64 0)])).push (.cells 52 [.lit (.bool false),.lit (.slice none 0 0),.lit (.int .i64 0)])).push (.cells 52 [.lit (.bool (decide (x1<0))),.ro (Rd.slice (Rd.int .i64)) false x13,.lit (.int .i64 x2)])).push (.cells 52 [.lit (.bool (decide (x3<0))),.ro (Rd.slice (Rd.int .i64)) false x15,.lit (.int .i64 x4)])) ?_ ?_
 · clear H;have H:=H1;clear H1;(iterate 4 refine sp ?_);refine ws 23 H (fun hb1 H=>?_) fun hb1 H=>?_
   · (iterate 3 refine sp ?_);refine WPL.nilW ?_;have q0:=j1 H;subst q0;exact wq [2,3,5,7]
   (iterate 3 refine sp ?_);refine WPL.nilW ?_;have q0:=j1 H;subst q0;exact wq [2,3,5,7]
 (iterate 2 refine sp ?_);refine cq H (fun hb2 H=>?_) fun hb2 H=>?_
 · (iterate 8 refine sp ?_);refine W.cv (Cv.nilRoC (Rd.int .i64) false (i:=0) (off:=1) rfl rfl rfl) rfl ?_;refine W.cv (Cv.nilRoC (Rd.int .i64) false (i:=1) (off:=1) rfl rfl rfl) rfl ?_;obtain ⟨rfl,rfl,rfl,rfl,rfl,rfl,rfl⟩:=j7 H;exact W.now (Then.r (mb [0,1]))
 (iterate 3 refine sp ?_);refine WP.seq ?_;refine sp ?_;refine WP.cv (Cv.weak (E':=((((Env.none.upd 4 (.ptr 0 0)).upd 5 (.ptr 1 0)).upd 7 (.ptr 2 0)).upd 9 (.ptr 3 0))) (M':=((((Mem.nil.push (.cells 52 [.lit (.bool false),.lit (.slice none 0 0),.lit (.int .i64 0)])).push (.cells 52 [.lit (.bool false),.lit (.slice none 0 0),.lit (.int .i64 0)])).push (.cells 52 [.lit (.bool (decide (x1<0))),.ro (Rd.slice (Rd.int .i64)) false x13,.lit (.int .i64 x2)])).push (.cells 52 [.lit (.bool (decide (x3<0))),.ro (Rd.slice (Rd.int .i64)) false x15,.lit (.int .i64 x4)]))) [0,1,2,3] hnp ⟨rfl,AA4,by decide,rfl,trivial⟩ (LeE.u (LeE.u (LeE.u (LeE.u (LeE.none rfl rfl)))))) ?_;obtain ⟨⟨x17,x18,x19⟩,H2,H⟩:=bnd H;refine mo (.exit 0) ((((Env.none.upd 4 (.ptr 0 0)).upd 5 (.ptr 1 0)).upd 7 (.ptr 2 0)).upd 9 (.ptr 3 0)) ((((Mem.nil.push (.cells 52 [.lit (.bool false),.lit (.slice none 0 0),.lit (.int .i64 0)])).push (.cells 52 [.lit (.bool false),.lit (.slice none 0 0),.lit (.int .i64 0)])).push (.cells 52 [.lit (.bool x17),.ro (Rd.slice (Rd.int .i64)) false x18,.lit (.int .i64 x19)])).push (.cells 52 [.lit (.bool (decide (x3<0))),.ro (Rd.slice (Rd.int .i64)) false x15,.lit (.int .i64 x4)])) ?_ ?_
 · refine WP.loop (β:=Bool × (List Int) × Int) (fun n b=>g_r9_two_l0 k x4 n b.1 b.2.1 b.2.2=some (x17,x18,x19)) (fun b=>((((Env.none.upd 4 (.ptr 0 0)).upd 5 (.ptr 1 0)).upd 7 (.ptr 2 0)).upd 9 (.ptr 3 0))) (fun b=>((((Mem.nil.push (.cells 52 [.lit (.bool false),.lit (.slice none 0 0),.lit (.int .i64 0)])).push (.cells 52 [.lit (.bool false),.lit (.slice none 0 0),.lit (.int .i64 0)])).push (.cells 52 [.lit (.bool b.1),.ro (Rd.slice (Rd.int .i64)) false b.2.1,.lit (.int .i64 b.2.2)])).push (.cells 52 [.lit (.bool (decide (x3<0))),.ro (Rd.slice (Rd.int .i64)) false x15,.lit (.int .i64 x4)]))) k ((decide (x1<0)),x13,x2) H2 rfl rfl ?_;rintro n ⟨x20,x21,x22⟩ H;obtain _ | n:=n
   · exact nf rfl H
   rw [g_r9_two_l0.eq_2] at H;show WP _ _ _ _ ((((Env.none.upd 4 (.ptr 0 0)).upd 5 (.ptr 1 0)).upd 7 (.ptr 2 0)).upd 9 (.ptr 3 0)) ((((Mem.nil.push (.cells 52 [.lit (.bool false),.lit (.slice none 0 0),.lit (.int .i64 0)])).push (.cells 52 [.lit (.bool false),.lit (.slice none 0 0),.lit (.int .i64 0)])).push (.cells 52 [.lit (.bool x20),.ro (Rd.slice (Rd.int .i64)) false x21,.lit (.int .i64 x22)])).push (.cells 52 [.lit (.bool (decide (x3<0))),.ro (Rd.slice (Rd.int .i64)) false x15,.lit (.int .i64 x4)])) _;refine WP.seq ?_;(iterate 7 refine sp ?_);refine cq H (fun hb3 H=>?_) fun hb3 H=>?_
   · (iterate 4 refine sp ?_);refine WP.regionD' 8 [2] [7] mixed rfl ?_;refine dT 0 ?_;refine dT 3 ?_;refine dK 1 ?_;refine dK 4 ?_;refine dT 5 ?_;obtain ⟨⟨x23,x24⟩,h3,H⟩:=bnd H;refine dE 2 [2] [7] rfl (rc [] [4] 5 [] (s_r9_Shift k x20 x21 1 x23 x24 h3)) ?_;refine dT 6 ?_;refine dS 7 [] [] ?_;refine WPD.doneW (by kernel_rfl) ?_;exact wq [0,1,2,3] (InBlock.n (Then.n ⟨n,(x23,x24,(IntKind.wrap .i64 (x22 - 1))),Nat.lt_succ_self n,H,rfl,rfl⟩))
   refine sp ?_;obtain ⟨rfl,rfl,rfl⟩:=j3 H;exact wq [0,1,2,3] (Then.x (Then.x r3))
 (iterate 3 refine sp ?_);refine WP.seq ?_;refine sp ?_;refine WP.cv (Cv.weak (E':=((((Env.none.upd 4 (.ptr 0 0)).upd 5 (.ptr 1 0)).upd 7 (.ptr 2 0)).upd 9 (.ptr 3 0))) (M':=((((Mem.nil.push (.cells 52 [.lit (.bool false),.lit (.slice none 0 0),.lit (.int .i64 0)])).push (.cells 52 [.lit (.bool false),.lit (.slice none 0 0),.lit (.int .i64 0)])).push (.cells 52 [.lit (.bool x17),.ro (Rd.slice (Rd.int .i64)) false x18,.lit (.int .i64 x19)])).push (.cells 52 [.lit (.bool (decide (x3<0))),.ro (Rd.slice (Rd.int .i64)) false x15,.lit (.int .i64 x4)]))) [0,1,2,3] hnp ⟨rfl,AA4,by decide,rfl,trivial⟩ (LeE.u (LeE.u (LeE.u (LeE.u (LeE.none rfl rfl)))))) ?_;obtain ⟨⟨x25,x26,x27⟩,H3,H⟩:=bnd H;refine mo (.exit 2) ((((Env.none.upd 4 (.ptr 0 0)).upd 5 (.ptr 1 0)).upd 7 (.ptr 2 0)).upd 9 (.ptr 3 0)) ((((Mem.nil.push (.cells 52 [.lit (.bool false),.lit (.slice none 0 0),.lit (.int .i64 0)])).push (.cells 52 [.lit (.bool false),.lit (.slice none 0 0),.lit (.int .i64 0)])).push (.cells 52 [.lit (.bool x17),.ro (Rd.slice (Rd.int .i64)) false x18,.lit (.int .i64 x19)])).push (.cells 52 [.lit (.bool x25),.ro (Rd.slice (Rd.int .i64)) false x26,.lit (.int .i64 x27)])) ?_ ?_
 · refine WP.loop (β:=Bool × (List Int) × Int) (fun n b=>g_r9_two_l1 k x19 n b.1 b.2.1 b.2.2=some (x25,x26,x27)) (fun b=>((((Env.none.upd 4 (.ptr 0 0)).upd 5 (.ptr 1 0)).upd 7 (.ptr 2 0)).upd 9 (.ptr 3 0))) (fun b=>((((Mem.nil.push (.cells 52 [.lit (.bool false),.lit (.slice none 0 0),.lit (.int .i64 0)])).push (.cells 52 [.lit (.bool false),.lit (.slice none 0 0),.lit (.int .i64 0)])).push (.cells 52 [.lit (.bool x17),.ro (Rd.slice (Rd.int .i64)) false x18,.lit (.int .i64 x19)])).push (.cells 52 [.lit (.bool b.1),.ro (Rd.slice (Rd.int .i64)) false b.2.1,.lit (.int .i64 b.2.2)]))) k ((decide (x3<0)),x15,x4) H3 rfl rfl ?_;rintro n ⟨x28,x29,x30⟩ H;obtain _ | n:=n
   · exact nf rfl H
   rw [g_r9_two_l1.eq_2] at H;show WP _ _ _ _ ((((Env.none.upd 4 (.ptr 0 0)).upd 5 (.ptr 1 0)).upd 7 (.ptr 2 0)).upd 9 (.ptr 3 0)) ((((Mem.nil.push (.cells 52 [.lit (.bool false),.lit (.slice none 0 0),.lit (.int .i64 0)])).push (.cells 52 [.lit (.bool false),.lit (.slice none 0 0),.lit (.int .i64 0)])).push (.cells 52 [.lit (.bool x17),.ro (Rd.slice (Rd.int .i64)) false x18,.lit (.int .i64 x19)])).push (.cells 52 [.lit (.bool x28),.ro (Rd.slice (Rd.int .i64)) false x29,.lit (.int .i64 x30)])) _;refine WP.seq ?_;(iterate 7 refine sp ?_);refine cq H (fun hb4 H=>?_) fun hb4 H=>?_
   · (iterate 4 refine sp ?_);refine WP.regionD' 8 [3] [7] mixed rfl ?_;refine dT 0 ?_;refine dT 3 ?_;refine dK 1 ?_;refine dK 4 ?_;refine dT 5 ?_;obtain ⟨⟨x31,x32⟩,h4,H⟩:=bnd H;refine dE 2 [3] [7] rfl (rc [] [4] 5 [] (s_r9_Shift k x28 x29 1 x31 x32 h4)) ?_;refine dT 6 ?_;refine dS 7 [] [] ?_;refine WPD.doneW (by kernel_rfl) ?_;exact wq [0,1,2,3] (InBlock.n (Then.n ⟨n,(x31,x32,(IntKind.wrap .i64 (x30 - 1))),Nat.lt_succ_self n,H,rfl,rfl⟩))
   refine sp ?_;obtain ⟨rfl,rfl,rfl⟩:=j3 H;exact wq [0,1,2,3] (Then.x (Then.x r3))
 (iterate 3 refine sp ?_);refine WP.seq ?_;refine WP.regionD' 5 [2,3] [] mixed rfl ?_;refine dK 0 ?_;refine dK 1 ?_;refine dS 2 [2,3] [] ?_;refine dS 3 [2,3] [] ?_;refine dT 4 ?_;refine WPD.doneW (by kernel_rfl) ?_;(iterate 3 refine sp ?_);obtain ⟨rfl,rfl,rfl,rfl,rfl,rfl,rfl⟩:=j7 H;exact W.now (mb [0,1])
theorem s_r9_Minus (k:Nat) (x1:Bool) (x2:(List Int)) (x3:Bool) (x4:(List Int)) (H:g_r9_Minus k x1 x2=some (x3,x4)):Go.Q.Spec Tryz.prog 40 0 [.agg [.lit (.bool x1),.ro (Rd.slice (Rd.int .i64)) false x2]] Mem.nil (fun o M=>o=.ret (.agg [.lit (.bool x3),.ro (Rd.slice (Rd.int .i64)) false x4])∧M=(Mem.nil.push (.cells 49 [.lit (.bool x3),.ro (Rd.slice (Rd.int .i64)) false x4]))):=by
 unfold g_r9_Minus at H;refine bo Tryz.func40 [(49,2)] [.cell 2 49] 10 fun cx hnp=>?_;(iterate 11 refine sp ?_);obtain ⟨⟨x5,x6⟩,h1,H⟩:=bnd H;refine WPL.c (rc [] [2] 3 [] (s_r9_trim k (!x1) x2 x5 x6 h1)) rfl ?_;(iterate 3 refine sp ?_);obtain ⟨rfl,rfl⟩:=j2 H;exact W.now (mb [1])
theorem s_r9_sum (k:Nat) (x1:Bool) (x2:(List Int)) (x3:Bool) (x4:(List Int)) (x5:(List Int)) (H:g_r9_sum k x1 x2 x3 x4=some x5):Go.Q.Spec Tryz.prog 67 0 [.agg [.lit (.bool x1),.ro (Rd.slice (Rd.int .i64)) false x2],.agg [.lit (.bool x3),.ro (Rd.slice (Rd.int .i64)) false x4]] Mem.nil (fun o M=>o=.ret (.ro (Rd.slice (Rd.int .i64)) false x5)∧M=Mem.nil):=by
 unfold g_r9_sum at H;refine bo Tryz.func67 [] [.tmp 4] 40 fun cx hnp=>?_;(iterate 11 refine sp ?_);refine WP.seq ?_;(iterate 4 refine sp ?_);refine WP.cv (Cv.vir 3 (Rd.int .i64) (N:=2) rfl 5 rfl) ?_;refine WP.cv (Cv.weak (E':=(((((Env.none.upd 2 (.ptr 0 0)).upd 3 (.ptr 1 0)).upd 5 (.whole 2)).upd 6 (.lit (.int .i64 0))).upd 7 (.lit (.int .i64 0)))) (M':=(((Mem.nil.push (.cells 49 [.lit (.bool x1),.ro (Rd.slice (Rd.int .i64)) false x2])).push (.cells 49 [.lit (.bool x3),.ro (Rd.slice (Rd.int .i64)) false x4])).push (.row 3 (Rd.int .i64) ([]:List Int)))) [0,1,2] hnp ⟨rfl,AA3,by decide,rfl,trivial⟩ (LeE.u (LeE.u (LeE.u (LeE.u (LeE.u (LeE.none rfl rfl))))))) ?_;obtain ⟨x6,H1,H⟩:=bnd H;refine mo (.exit 0) (Env.none.upd 5 (.whole 0)) (Mem.nil.push (.row 3 (Rd.int .i64) x6)) ?_ ?_
 · refine WP.loop (β:=Int × Int × (List Int)) (fun n b=>g_r9_sum_l0 k x1 x2 x3 x4 n b.1 b.2.1 b.2.2=some x6) (fun b=>(((((Env.none.upd 2 (.ptr 0 0)).upd 3 (.ptr 1 0)).upd 5 (.whole 2)).upd 6 (.lit (.int .i64 b.1))).upd 7 (.lit (.int .i64 b.2.1)))) (fun b=>(((Mem.nil.push (.cells 49 [.lit (.bool x1),.ro (Rd.slice (Rd.int .i64)) false x2])).push (.cells 49 [.lit (.bool x3),.ro (Rd.slice (Rd.int .i64)) false x4])).push (.row 3 (Rd.int .i64) b.2.2))) k (0,0,([]:List Int)) H1 rfl rfl ?_;rintro n ⟨x7,x8,x9⟩ H;obtain _ | n:=n
   · exact nf rfl H
   rw [g_r9_sum_l0.eq_2] at H;show WP _ _ _ _ (((((Env.none.upd 2 (.ptr 0 0)).upd 3 (.ptr 1 0)).upd 5 (.whole 2)).upd 6 (.lit (.int .i64 x7))).upd 7 (.lit (.int .i64 x8))) (((Mem.nil.push (.cells 49 [.lit (.bool x1),.ro (Rd.slice (Rd.int .i64)) false x2])).push (.cells 49 [.lit (.bool x3),.ro (Rd.slice (Rd.int .i64)) false x4])).push (.row 3 (Rd.int .i64) x9)) _;refine WP.seq ?_;refine WP.seq ?_;obtain ⟨x10,H2,H⟩:=bnd H;refine mo .normal ((((((Env.none.upd 2 (.ptr 0 0)).upd 3 (.ptr 1 0)).upd 5 (.whole 2)).upd 6 (.lit (.int .i64 x7))).upd 7 (.lit (.int .i64 x8))).upd 20 (.lit (.bool x10))) (((Mem.nil.push (.cells 49 [.lit (.bool x1),.ro (Rd.slice (Rd.int .i64)) false x2])).push (.cells 49 [.lit (.bool x3),.ro (Rd.slice (Rd.int .i64)) false x4])).push (.row 3 (Rd.int .i64) x9)) ?_ ?_
   · clear H;have H:=H2;clear H2;(iterate 5 refine sp ?_);obtain ⟨x11,h1,H⟩:=bnd H;refine sn (nm_bool h1) ?_;refine sp ?_;refine ws 14 H (fun hb1 H=>?_) fun hb1 H=>?_
     · (iterate 6 refine sp ?_);refine WPL.nilW ?_;have q0:=j1 H;subst q0;exact wq [0,1,2]
     (iterate 4 refine sp ?_);obtain ⟨x12,h2,H⟩:=bnd H;refine sn (nm_bool h2) ?_;refine sp ?_;refine WPL.nilW ?_;have q0:=j1 H;subst q0;exact wq [0,1,2]
   (iterate 2 refine sp ?_);refine cq H (fun hb2 H=>?_) fun hb2 H=>?_
   · (iterate 3 refine sp ?_);refine WP.seq ?_;refine sp ?_;refine WP.seq ?_;refine WP.regionD' 10 [0,1] [] mixed rfl ?_;refine dT 1 ?_;refine dT 4 ?_;refine dT 7 ?_;refine dK 0 ?_;refine dK 3 ?_;obtain ⟨x13,h3,H⟩:=bnd H;refine dE 2 [0,1] [] rfl (rc [] [] 3 [] (s_r9_at k x1 x2 x8 x13 h3)) ?_;obtain ⟨x14,h4,H⟩:=bnd H;refine dE 5 [0,1] [] rfl (rc [] [] 3 [] (s_r9_at k x3 x4 x8 x14 h4)) ?_;refine dT 6 ?_;obtain ⟨x15,h5,H⟩:=bnd H;refine dT 8 ?_ rfl (q_nm aq (nm_int h5));refine dT 9 ?_;refine WPD.doneW (by kernel_rfl) ?_;(iterate 6 refine sp ?_);refine WPL.d (d_buildSlice (ds:=([(Int.tmod x15 10)]:List Int)) (R:=(Rd.int .i64)) li47 rfl rfl rfl rfl rfl (JoinRows.cons1 Joins.sc rfl JoinRows.nil) rfl rfl) rfl ?_;obtain ⟨h5,H⟩:=grd H;refine WPL.d (d_append ap47 rfl rfl rfl rfl (src_row sl47 rfl rfl) h5 rfl) rfl ?_;(iterate 6 refine sp ?_);refine WPL.nilW ?_;refine sp ?_;refine InBlock.n ?_;(iterate 5 refine sp ?_);refine WPL.nilW ?_;exact wq [0,1,4] (Then.n ⟨n,((IntKind.wrap .i64 (Int.tdiv x15 10)),(IntKind.wrap .i64 (x8+1)),(x9++([(Int.tmod x15 10)]:List Int))),Nat.lt_succ_self n,H,rfl,rfl⟩)
   refine sp ?_;have q0:=j1 H;subst q0;exact wq [2] (Then.x (Then.x r3))
 (iterate 8 refine sp ?_);refine W.cv (Cv.frzRow (i:=0) rfl rfl hnp rfl rfl) rfl ?_;have q0:=j1 H;subst q0;exact W.now (mb [])
theorem s_r9_less (k:Nat) (x1:Bool) (x2:(List Int)) (x3:Bool) (x4:(List Int)) (x5:(List Int)) (H:g_r9_less k x1 x2 x3 x4=some x5):Go.Q.Spec Tryz.prog 68 0 [.agg [.lit (.bool x1),.ro (Rd.slice (Rd.int .i64)) false x2],.agg [.lit (.bool x3),.ro (Rd.slice (Rd.int .i64)) false x4]] Mem.nil (fun o M=>o=.ret (.ro (Rd.slice (Rd.int .i64)) false x5)∧M=Mem.nil):=by
 unfold g_r9_less at H;refine bo Tryz.func68 [] [.tmp 4] 34 fun cx hnp=>?_;(iterate 11 refine sp ?_);refine WP.seq ?_;(iterate 4 refine sp ?_);refine WP.cv (Cv.vir 3 (Rd.int .i64) (N:=2) rfl 5 rfl) ?_;refine WP.cv (Cv.weak (E':=(((((Env.none.upd 2 (.ptr 0 0)).upd 3 (.ptr 1 0)).upd 5 (.whole 2)).upd 6 (.lit (.int .i64 0))).upd 7 (.lit (.int .i64 0)))) (M':=(((Mem.nil.push (.cells 49 [.lit (.bool x1),.ro (Rd.slice (Rd.int .i64)) false x2])).push (.cells 49 [.lit (.bool x3),.ro (Rd.slice (Rd.int .i64)) false x4])).push (.row 3 (Rd.int .i64) ([]:List Int)))) [0,1,2] hnp ⟨rfl,AA3,by decide,rfl,trivial⟩ (LeE.u (LeE.u (LeE.u (LeE.u (LeE.u (LeE.none rfl rfl))))))) ?_;obtain ⟨x6,H1,H⟩:=bnd H;refine mo (.exit 0) (Env.none.upd 5 (.whole 0)) (Mem.nil.push (.row 3 (Rd.int .i64) x6)) ?_ ?_
 · refine WP.loop (β:=Int × Int × (List Int)) (fun n b=>g_r9_less_l0 k x1 x2 x3 x4 n b.1 b.2.1 b.2.2=some x6) (fun b=>(((((Env.none.upd 2 (.ptr 0 0)).upd 3 (.ptr 1 0)).upd 5 (.whole 2)).upd 6 (.lit (.int .i64 b.1))).upd 7 (.lit (.int .i64 b.2.1)))) (fun b=>(((Mem.nil.push (.cells 49 [.lit (.bool x1),.ro (Rd.slice (Rd.int .i64)) false x2])).push (.cells 49 [.lit (.bool x3),.ro (Rd.slice (Rd.int .i64)) false x4])).push (.row 3 (Rd.int .i64) b.2.2))) k (0,0,([]:List Int)) H1 rfl rfl ?_;rintro n ⟨x7,x8,x9⟩ H;obtain _ | n:=n
   · exact nf rfl H
   rw [g_r9_less_l0.eq_2] at H;show WP _ _ _ _ (((((Env.none.upd 2 (.ptr 0 0)).upd 3 (.ptr 1 0)).upd 5 (.whole 2)).upd 6 (.lit (.int .i64 x7))).upd 7 (.lit (.int .i64 x8))) (((Mem.nil.push (.cells 49 [.lit (.bool x1),.ro (Rd.slice (Rd.int .i64)) false x2])).push (.cells 49 [.lit (.bool x3),.ro (Rd.slice (Rd.int .i64)) false x4])).push (.row 3 (Rd.int .i64) x9)) _;refine WP.seq ?_;(iterate 5 refine sp ?_);obtain ⟨x10,h1,H⟩:=bnd H;refine sn (nm_bool h1) ?_;refine sp ?_;refine cq H (fun hb1 H=>?_) fun hb1 H=>?_
   · (iterate 3 refine sp ?_);refine WP.seq ?_;refine sp ?_;refine WP.seq ?_;refine WP.regionD' 10 [0,1] [] mixed rfl ?_;refine dT 1 ?_;refine dT 4 ?_;refine dT 7 ?_;refine dK 0 ?_;refine dK 3 ?_;obtain ⟨x11,h2,H⟩:=bnd H;refine dE 2 [0,1] [] rfl (rc [] [] 3 [] (s_r9_at k x1 x2 x8 x11 h2)) ?_;obtain ⟨x12,h3,H⟩:=bnd H;refine dE 5 [0,1] [] rfl (rc [] [] 3 [] (s_r9_at k x3 x4 x8 x12 h3)) ?_;refine dT 6 ?_;obtain ⟨x13,h4,H⟩:=bnd H;refine dT 8 ?_ rfl (q_nm aq (nm_int h4));refine dT 9 ?_;refine WPD.doneW (by kernel_rfl) ?_;(iterate 5 refine sp ?_);refine WP.seq ?_;obtain ⟨⟨x14,x15⟩,H2,H⟩:=bnd H;refine mo .normal ((((((Env.none.upd 2 (.ptr 0 0)).upd 3 (.ptr 1 0)).upd 5 (.whole 2)).upd 6 (.lit (.int .i64 x14))).upd 7 (.lit (.int .i64 x8))).upd 8 (.lit (.int .i64 x15))) (((Mem.nil.push (.cells 49 [.lit (.bool x1),.ro (Rd.slice (Rd.int .i64)) false x2])).push (.cells 49 [.lit (.bool x3),.ro (Rd.slice (Rd.int .i64)) false x4])).push (.row 3 (Rd.int .i64) x9)) ?_ ?_
     · clear H;have H:=H2;clear H2;(iterate 4 refine sp ?_);refine cq H (fun hb2 H=>?_) fun hb2 H=>?_
       · (iterate 7 refine sp ?_);refine WPL.nilW ?_;obtain ⟨rfl,rfl⟩:=j2 H;exact wq [0,1,2]
       refine sp ?_;obtain ⟨rfl,rfl⟩:=j2 H;exact wq [0,1,2]
     (iterate 5 refine sp ?_);refine WPL.d (d_buildSlice (ds:=([x15]:List Int)) (R:=(Rd.int .i64)) li47 rfl rfl rfl rfl rfl (JoinRows.cons1 Joins.sc rfl JoinRows.nil) rfl rfl) rfl ?_;obtain ⟨h5,H⟩:=grd H;refine WPL.d (d_append ap47 rfl rfl rfl rfl (src_row sl47 rfl rfl) h5 rfl) rfl ?_;refine sp ?_;refine WPL.nilW ?_;refine sp ?_;refine InBlock.n ?_;(iterate 5 refine sp ?_);refine WPL.nilW ?_;exact wq [0,1,4] (Then.n ⟨n,(x14,(IntKind.wrap .i64 (x8+1)),(x9++([x15]:List Int))),Nat.lt_succ_self n,H,rfl,rfl⟩)
   refine sp ?_;have q0:=j1 H;subst q0;exact wq [2] (Then.x (Then.x r3))
 (iterate 8 refine sp ?_);refine W.cv (Cv.frzRow (i:=0) rfl rfl hnp rfl rfl) rfl ?_;have q0:=j1 H;subst q0;exact W.now (mb [])
theorem s_r9_Plus (k:Nat) (x1:Bool) (x2:(List Int)) (x3:Bool) (x4:(List Int)) (x5:Bool) (x6:(List Int)) (H:g_r9_Plus k x1 x2 x3 x4=some (x5,x6)):Go.Q.Spec Tryz.prog 39 0 [.agg [.lit (.bool x1),.ro (Rd.slice (Rd.int .i64)) false x2],.agg [.lit (.bool x3),.ro (Rd.slice (Rd.int .i64)) false x4]] Mem.nil (fun o M=>o=.ret (.agg [.lit (.bool x5),.ro (Rd.slice (Rd.int .i64)) false x6])∧M=(Mem.nil.push (.cells 49 [.lit (.bool x5),.ro (Rd.slice (Rd.int .i64)) false x6]))):=by
 unfold g_r9_Plus at H;refine bo Tryz.func39 [(49,2)] [.cell 4 49] 35 fun cx hnp=>?_;(iterate 5 refine sp ?_);refine WP.seq ?_;(iterate 5 refine sp ?_);refine WPL.qq (q_eqlb Tryz.underlying4 rfl rfl) ?_;refine sp ?_;refine cq H (fun hb1 H=>?_) fun hb1 H=>?_
 · refine WP.seq ?_;refine WP.regionD' 8 [0,1] [] mixed rfl ?_;refine dT 0 ?_;refine dK 1 ?_;refine dK 2 ?_;refine dK 3 ?_;obtain ⟨x7,h1,H⟩:=bnd H;refine dE 4 [0,1] [] rfl (rc [] [] 3 [] (s_r9_sum k x1 x2 x3 x4 x7 h1)) ?_;refine dT 5 ?_;obtain ⟨⟨x8,x9⟩,h2,H⟩:=bnd H;refine dE 6 [0,1] [] rfl (rc [] [3] 4 [] (s_r9_trim k x1 x7 x8 x9 h2)) ?_;refine dS 7 [0,1] [] ?_;refine WPD.doneW (by kernel_rfl) ?_;(iterate 3 refine sp ?_);obtain ⟨rfl,rfl⟩:=j2 H;exact W.now (Then.r (mb [2]))
 (iterate 3 refine sp ?_);refine WP.seq ?_;(iterate 3 refine sp ?_);obtain ⟨x10,h3,H⟩:=bnd H;refine WPL.c (rc [] [] 3 [] (s_r9_more k x1 x2 x3 x4 x10 h3)) rfl ?_;(iterate 2 refine sp ?_);refine cq H (fun hb2 H=>?_) fun hb2 H=>?_
 · refine WP.seq ?_;refine WP.regionD' 8 [0,1] [] mixed rfl ?_;refine dT 0 ?_;refine dK 1 ?_;refine dK 2 ?_;refine dK 3 ?_;obtain ⟨x11,h4,H⟩:=bnd H;refine dE 4 [0,1] [] rfl (rc [] [] 3 [] (s_r9_less k x1 x2 x3 x4 x11 h4)) ?_;refine dT 5 ?_;obtain ⟨⟨x12,x13⟩,h5,H⟩:=bnd H;refine dE 6 [0,1] [] rfl (rc [] [3] 4 [] (s_r9_trim k x1 x11 x12 x13 h5)) ?_;refine dS 7 [0,1] [] ?_;refine WPD.doneW (by kernel_rfl) ?_;(iterate 3 refine sp ?_);obtain ⟨rfl,rfl⟩:=j2 H;exact W.now (Then.r (mb [2]))
 (iterate 3 refine sp ?_);refine WP.seq ?_;refine WP.regionD' 8 [0,1] [] mixed rfl ?_;refine dT 0 ?_;refine dK 1 ?_;refine dK 2 ?_;refine dK 3 ?_;obtain ⟨x14,h6,H⟩:=bnd H;refine dE 4 [0,1] [] rfl (rc [] [] 3 [] (s_r9_less k x3 x4 x1 x2 x14 h6)) ?_;refine dT 5 ?_;obtain ⟨⟨x15,x16⟩,h7,H⟩:=bnd H;refine dE 6 [0,1] [] rfl (rc [] [3] 4 [] (s_r9_trim k x3 x14 x15 x16 h7)) ?_;refine dS 7 [0,1] [] ?_;refine WPD.doneW (by kernel_rfl) ?_;(iterate 3 refine sp ?_);obtain ⟨rfl,rfl⟩:=j2 H;exact W.now (mb [2])
theorem s_r9_Sub (k:Nat) (x1:Int) (x2:Int) (x3:Int) (x4:Int) (x5:Int) (x6:Int) (x7:Int) (H:g_r9_Sub k x1 x2 x3 x4=some (x5,x6,x7)):Go.Q.Spec Tryz.prog 18 0 [.agg [.lit (.int .i64 x1),.lit (.int .i64 x2)],.agg [.lit (.int .i64 x3),.lit (.int .i64 x4)]] Mem.nil (fun o M=>o=.ret (.tup [.agg [.lit (.int .i64 x6),.lit (.int .i64 x7)],.lit (.int .i64 x5)])∧M=(Mem.nil.push (.cells 23 [.lit (.int .i64 x6),.lit (.int .i64 x7)]))):=by
 unfold g_r9_Sub at H;refine bo Tryz.func18 [(23,2)] [.cell 4 23,.tmp 5] 31 fun cx hnp=>?_;(iterate 9 refine sp ?_);obtain ⟨⟨x8,x9,x10,x11,x12,x13,x14⟩,h1,H⟩:=bnd H;refine WPL.c (rc [] [3,4] 5 [] (s_r9_two k x1 x2 x3 x4 x8 x9 x10 x11 x12 x13 x14 h1)) rfl ?_;(iterate 10 refine sp ?_);refine WP.seq ?_;(iterate 4 refine sp ?_);refine cq H (fun hb1 H=>?_) fun hb1 H=>?_
 · (iterate 6 refine sp ?_);obtain ⟨rfl,rfl,rfl⟩:=j3 H;exact W.now (Then.r (mb [2]))
 (iterate 3 refine sp ?_);refine WP.seq ?_;refine WP.regionD' 14 [5,6] [] mixed rfl ?_;refine dT 0 ?_;refine dT 2 ?_;refine dT 6 ?_;refine dK 1 ?_;refine dK 3 ?_;refine dK 7 ?_;obtain ⟨⟨x15,x16⟩,h2,H⟩:=bnd H;refine dE 4 [5,6] [] rfl (rc [] [7] 8 [] (s_r9_Minus k x12 x13 x15 x16 h2)) ?_;obtain ⟨⟨x17,x18⟩,h3,H⟩:=bnd H;refine dE 5 [5,6] [] rfl (rc [] [8] 9 [] (s_r9_Plus k x9 x10 x15 x16 x17 x18 h3)) ?_;refine dT 8 ?_;obtain ⟨⟨x19,x20,x21⟩,h4,H⟩:=bnd H;refine dE 9 [5,6] [] rfl (rc [] [9] 10 [] (s_r9_Tell k x17 x18 x11 x19 x20 x21 h4)) ?_;refine dT 10 ?_;refine dT 11 ?_;refine dS 12 [5,6] [] ?_;refine dT 13 ?_;refine WPD.doneW (by kernel_rfl) ?_;(iterate 3 refine sp ?_);obtain ⟨rfl,rfl,rfl⟩:=j3 H;exact W.now (mb [2])
theorem s_r9_Neg (k:Nat) (x1:Int) (x2:Int) (x3:Int) (x4:Int) (x5:Int) (H:g_r9_Neg k x1 x2=some (x3,x4,x5)):Go.Q.Spec Tryz.prog 7 0 [.agg [.lit (.int .i64 x1),.lit (.int .i64 x2)]] Mem.nil (fun o M=>o=.ret (.tup [.agg [.lit (.int .i64 x4),.lit (.int .i64 x5)],.lit (.int .i64 x3)])∧M=(Mem.nil.push (.cells 23 [.lit (.int .i64 x4),.lit (.int .i64 x5)]))):=by
 unfold g_r9_Neg at H;refine bo Tryz.func7 [(23,2)] [.cell 2 23,.tmp 3] 9 fun cx hnp=>?_;(iterate 8 refine sp ?_);obtain ⟨⟨x6,x7,x8⟩,h1,H⟩:=bnd H;refine WPL.c (rc [] [2] 3 [] (s_r9_Sub k 0 0 x1 x2 x6 x7 x8 h1)) rfl ?_;(iterate 6 refine sp ?_);obtain ⟨rfl,rfl,rfl⟩:=j3 H;exact W.now (mb [1])
theorem s_quirelaw14_NumfmtSigns (k:Nat) (x1:Int) (x2:Int) (x3:Bool) (H:g_quirelaw14_NumfmtSigns k x1 x2=some x3):Go.Q.Spec Tryz.prog 3 0 [.lit (.int .i64 x1),.lit (.int .i64 x2)] Mem.nil (fun o M=>o=.ret (.lit (.bool x3))∧M=Mem.nil):=by
 unfold g_quirelaw14_NumfmtSigns at H;refine bo Tryz.func3 [] [.tmp 4] 61 fun cx hnp=>?_;(iterate 6 refine sp ?_);obtain ⟨⟨x4,x5,x6⟩,h1,H⟩:=bnd H;refine WPL.c (rc [] [0] 1 [] (s_r9_Make k x1 x2 x4 x5 x6 h1)) rfl ?_;(iterate 7 refine sp ?_);refine WP.seq ?_;refine WP.seq ?_;obtain ⟨x7,H1,H⟩:=bnd H;refine mo .normal ((Env.none.upd 5 (.ptr 0 0)).upd 24 (.lit (.bool x7))) (Mem.nil.push (.cells 23 [.lit (.int .i64 x5),.lit (.int .i64 x6)])) ?_ ?_
 · clear H;have H:=H1;clear H1;(iterate 4 refine sp ?_);refine ws 20 H (fun hb1 H=>?_) fun hb1 H=>?_
   · (iterate 4 refine sp ?_);refine WPL.nilW ?_;have q0:=j1 H;subst q0;exact wq [1]
   (iterate 4 refine sp ?_);refine WPL.nilW ?_;have q0:=j1 H;subst q0;exact wq [1]
 (iterate 2 refine sp ?_);refine cq H (fun hb2 H=>?_) fun hb2 H=>?_
 · refine sp ?_;obtain ⟨x8,h2,H⟩:=bnd H;refine WPL.c (rc [] [] 1 [] (s_quirelaw14_alive k x8 h2)) rfl ?_;(iterate 3 refine sp ?_);have q0:=j1 H;subst q0;exact W.now (Then.r (mb []))
 (iterate 5 refine sp ?_);obtain ⟨⟨x9,x10,x11⟩,h3,H⟩:=bnd H;refine WPL.c (rc [] [1] 2 [] (s_r9_Neg k x5 x6 x9 x10 x11 h3)) rfl ?_;(iterate 7 refine sp ?_);refine WP.seq ?_;refine WP.seq ?_;obtain ⟨x12,H2,H⟩:=bnd H;refine mo .normal (((Env.none.upd 5 (.ptr 0 0)).upd 7 (.ptr 1 0)).upd 37 (.lit (.bool x12))) ((Mem.nil.push (.cells 23 [.lit (.int .i64 x5),.lit (.int .i64 x6)])).push (.cells 23 [.lit (.int .i64 x10),.lit (.int .i64 x11)])) ?_ ?_
 · clear H;have H:=H2;clear H2;(iterate 4 refine sp ?_);refine ws 33 H (fun hb3 H=>?_) fun hb3 H=>?_
   · (iterate 4 refine sp ?_);refine WPL.nilW ?_;have q0:=j1 H;subst q0;exact wq [0,2]
   (iterate 4 refine sp ?_);refine WPL.nilW ?_;have q0:=j1 H;subst q0;exact wq [0,2]
 (iterate 2 refine sp ?_);refine cq H (fun hb4 H=>?_) fun hb4 H=>?_
 · refine sp ?_;obtain ⟨x13,h4,H⟩:=bnd H;refine WPL.c (rc [] [] 2 [] (s_quirelaw14_alive k x13 h4)) rfl ?_;(iterate 3 refine sp ?_);have q0:=j1 H;subst q0;exact W.now (Then.r (mb []))
 (iterate 6 refine sp ?_);obtain ⟨x14,h5,H⟩:=bnd H;refine WPL.c (rc [] [] 2 [] (s_numfmt_Render k (ByteArray.mk #[48,46,48,35]) 1 x5 x6 (ByteArray.mk #[]) false 0 x14 h5)) rfl ?_;(iterate 5 refine sp ?_);obtain ⟨x15,h6,H⟩:=bnd H;refine WPL.c (rc [] [] 2 [] (s_numfmt_Render k (ByteArray.mk #[48,46,48,35,59,40,48,46,48,35,41]) 1 x10 x11 (ByteArray.mk #[]) false 0 x15 h6)) rfl ?_;(iterate 5 refine sp ?_);obtain ⟨x16,h7,H⟩:=bnd H;refine WPL.c (rc [] [] 2 [] (s_numfmt_Render k (ByteArray.mk #[48,46,48,35,59,40,48,46,48,35,41]) 1 x5 x6 (ByteArray.mk #[]) false 0 x16 h7)) rfl ?_;(iterate 2 refine sp ?_);refine WP.seq ?_;obtain ⟨x17,H3,H⟩:=bnd H;refine mo .normal (Env.none.upd 4 (.lit (.bool x17))) Mem.nil ?_ ?_
 · clear H;have H:=H3;clear H3;(iterate 5 refine sp ?_);refine ws 51 H (fun hb5 H=>?_) fun hb5 H=>?_
   · (iterate 2 refine sp ?_);obtain ⟨h8,H⟩:=grd H;refine sp ?_;obtain ⟨h9,H⟩:=grd H;refine sp ?_;obtain ⟨x18,h10,H⟩:=bnd H;refine sn (nm_bool h10) ?_;(iterate 2 refine sp ?_);refine ws 58 H (fun hb6 H=>?_) fun hb6 H=>?_
     · obtain ⟨x19,h11,H⟩:=bnd H;refine WPL.cg rfl rfl (lb hb6) (rc [] [] 2 [] (s_quirelaw14_alive k x19 h11)) rfl ?_;(iterate 2 refine sp ?_);refine WPL.nilW ?_;have q0:=j1 H;subst q0;exact wq []
     (iterate 3 refine sp ?_);refine WPL.nilW ?_;have q0:=j1 H;subst q0;exact wq []
   (iterate 10 refine sp ?_);refine WPL.nilW ?_;have q0:=j1 H;subst q0;exact wq []
 (iterate 3 refine sp ?_);have q0:=j1 H;subst q0;exact W.now (mb [])
end Go.Proofs.YtcmmdlgjinankaaGreatDoor.W
set_option linter.unusedVariables false
set_option linter.unusedSimpArgs false
namespace Go.Dz
def val (m e:Int):Int:=m*10^(e+500000).toNat
theorem p10 (n:Nat):(0:Int)<10^n:=Int.pow_pos (by decide)
theorem val_shift {m e:Int} {j:Nat} (he : -500000≤e):val (m*10^j) e=val m (e+j):=by
  unfold val
  rw [Int.mul_assoc,← Int.pow_add,show j+(e+500000).toNat=(e+j+500000).toNat by omega]
theorem val_inj {m m' e:Int} (h:val m e=val m' e):m=m':=by
  unfold val at h
  exact Int.eq_of_mul_eq_mul_right (Int.ne_of_gt (p10 _)) h
theorem val_zero {e:Int}:val 0 e=0:=by simp [val]
theorem val_eq_zero {m e:Int} (h:val m e=0):m=0:=by
  unfold val at h
  rcases Int.mul_eq_zero.1 h with h | h
  · exact h
  · exact absurd h (Int.ne_of_gt (p10 _))
theorem val_neg {m e:Int}:val (-m) e = - val m e:=by simp [val,Int.neg_mul]
theorem val_add {m m' e:Int}:val (m+m') e=val m e+val m' e:=by simp [val,Int.add_mul]
theorem val_lt {m m' e:Int}:val m e<val m' e↔m<m':=by
  unfold val
  exact ⟨fun h=>Int.lt_of_mul_lt_mul_right h (Int.le_of_lt (p10 _)),fun h=>Int.mul_lt_mul_of_pos_right h (p10 _)⟩
theorem val_rep {m m' e e':Int} (he : -500000≤e) (hle:e≤e') (h:val m e=val m' e'):m=m'*10^(e' - e).toNat:=by
  have h1:=val_shift (m:=m') (e:=e) (j:=(e' - e).toNat) he
  rw [show e+((e' - e).toNat:Int)=e' by omega,← h] at h1
  exact (val_inj h1).symm
def Canon (c x:Int):Prop:=(c=0∧x=0)∨(c≠0 ∧ -18≤x∧x≤18 ∧ -9223372036854775808≤c∧c≤9223372036854775807∧(x=18∨¬ (10:Int) ∣ c))
theorem Canon.rng {c x:Int} (h:Canon c x) : -18≤x∧x≤18 ∧ -9223372036854775808≤c∧c≤9223372036854775807:=by
  rcases h with ⟨rfl,rfl⟩ | ⟨_,h1,h2,h3,h4,_⟩ <;> omega
theorem dvd_pow10 {m:Int} {n:Nat} (h:n≠0):(10:Int) ∣ m*10^n:=by
  obtain ⟨k,rfl⟩:∃ k,n=k+1:=⟨n - 1,by omega⟩
  exact ⟨m*10^k,by rw [Int.pow_succ];rw [← Int.mul_assoc,Int.mul_comm]⟩
theorem Canon.uniq' {c x c' x':Int} (h:Canon c x) (h':Canon c' x') (hle:x≤x') (e:val c x=val c' x'):c=c'∧x=x':=by
  have r:=h.rng
  have e1:=val_rep (by omega) hle e
  by_cases hc:c=0
  · subst hc
    rw [val_zero] at e
    have hc':=val_eq_zero e.symm
    subst hc'
    rcases h with ⟨_,hx⟩ | ⟨h0,_⟩
    · rcases h' with ⟨_,hx'⟩ | ⟨h0,_⟩
      · exact ⟨rfl,by omega⟩
      · exact absurd rfl h0
    · exact absurd rfl h0
  · have hc':c'≠0:=by rintro rfl;simp at e1;exact hc e1
    by_cases hx:x=x'
    · subst hx
      exact ⟨val_inj e,rfl⟩
    · have h10:(10:Int) ∣ c:=by rw [e1];exact dvd_pow10 (by omega)
      have r':=h'.rng
      rcases h with ⟨h0,_⟩ | ⟨_,_,_,_,_,h5 | h5⟩
      · exact absurd h0 hc
      · omega
      · exact absurd h10 h5
theorem Canon.uniq {c x c' x':Int} (h:Canon c x) (h':Canon c' x') (e:val c x=val c' x'):c=c'∧x=x':=by
  by_cases hle:x≤x'
  · exact h.uniq' h' hle e
  · obtain ⟨h1,h2⟩:=h'.uniq' h (by omega) e.symm
    exact ⟨h1.symm,h2.symm⟩
def Tells (p:Int→Prop) (r:(Int × Int) × Int):Prop :=
  (r.2=0∧Canon r.1.1 r.1.2∧p (val r.1.1 r.1.2))∨(r=((0,0),30)∧∀ c x,Canon c x→¬ p (val c x))
theorem canon_iff {m e c x:Int} (hm:m≠0) (hd:¬ (10:Int) ∣ m) (he : -500000≤e):(Canon c x∧val c x=val m e)↔(x=(if e > 18 then 18 else e)∧c=m*10^(e - x).toNat ∧ -18≤x ∧ -9223372036854775808≤c∧c≤9223372036854775807):=by
  constructor
  · rintro ⟨h,e1⟩
    have r:=h.rng
    have hc:c≠0:=by
      rintro rfl
      rw [val_zero] at e1
      exact hm (val_eq_zero e1.symm)
    by_cases hle:x≤e
    · have e2:=val_rep (by omega) hle e1
      refine ⟨?_,e2,by omega,by omega,by omega⟩
      by_cases hxe:x=e
      · rw [if_neg (by omega),hxe]
      · have h10:(10:Int) ∣ c:=by rw [e2];exact dvd_pow10 (by omega)
        rcases h with ⟨h0,_⟩ | ⟨_,_,_,_,_,h5 | h5⟩
        · exact absurd h0 hc
        · rw [if_pos (by omega),h5]
        · exact absurd h10 h5
    · have e2:=val_rep he (by omega) e1.symm
      exact absurd (by rw [e2];exact dvd_pow10 (by omega)) hd
  · rintro ⟨h1,h2,h3,h4,h5⟩
    have hx:x≤e:=by split at h1 <;> omega
    have e1:val c x=val m e:=by
      rw [h2,val_shift (by omega),show x+((e - x).toNat:Int)=e by omega]
    refine ⟨?_,e1⟩
    have hc:c≠0:=by
      rintro rfl
      rw [val_zero] at e1
      exact hm (val_eq_zero e1.symm)
    refine .inr ⟨hc,h3,by split at h1 <;> omega,h4,h5,?_⟩
    split at h1
    · exact .inl h1
    · refine .inr ?_
      subst h1
      rw [h2]
      simpa using hd
theorem tells_some {m e c x:Int} (hm:m≠0) (hd:¬ (10:Int) ∣ m) (he : -500000≤e) (h:x=(if e > 18 then 18 else e)∧c=m*10^(e - x).toNat ∧ -18≤x ∧ -9223372036854775808≤c∧c≤9223372036854775807):Tells (·=val m e) ((c,x),0) :=
  .inl ⟨rfl,(canon_iff hm hd he).2 h⟩
theorem tells_none {m e:Int} (hm:m≠0) (hd:¬ (10:Int) ∣ m) (he : -500000≤e) (h:e < -18∨¬ (-9223372036854775808≤m*10^(e - 18).toNat∧m*10^(e - 18).toNat≤9223372036854775807)):Tells (·=val m e) ((0,0),30):=by
  refine .inr ⟨rfl,fun c x hc e1=>?_⟩
  obtain ⟨h1,h2,h3,h4,h5⟩:=(canon_iff hm hd he).1 ⟨hc,e1⟩
  split at h1
  · subst h1
    rw [h2] at h4 h5
    omega
  · subst h1
    have:(x - 18).toNat=0:=by omega
    rw [this] at h
    simp at h h2
    omega
theorem tells_zero {e:Int}:Tells (·=val 0 e) ((0,0),0):=.inl ⟨rfl,.inl ⟨rfl,rfl⟩,by simp [val_zero]⟩
def I64 (c:Int):Prop := -9223372036854775808≤c∧c≤9223372036854775807
def Rng (e:Int):Prop := -18≤e∧e≤18
instance (e:Int):Decidable (Rng e):=by unfold Rng;infer_instance
theorem Canon.i64 {c x:Int} (h:Canon c x):I64 c:=⟨h.rng.2.2.1,h.rng.2.2.2⟩
theorem Canon.rg {c x:Int} (h:Canon c x):Rng x:=⟨h.rng.1,h.rng.2.1⟩
theorem est_le {B y u d q r:Nat} (hB:0<B) (hy:0<y) (hq:q*(y / B)+r=u) (h:q*(y%B)≤B*r+d):q≤(u*B+d) / y:=by
  rw [Nat.le_div_iff_mul_le hy]
  have e:y=y / B*B+y%B:=(Nat.div_add_mod' y B).symm
  have:q*y=q*(y / B)*B+q*(y%B):=by
    conv=>lhs;rw [e]
    rw [Nat.mul_add,Nat.mul_assoc]
  rw [this,← hq,Nat.add_mul,Nat.mul_comm r B]
  omega
theorem est_gt {B y u d q r:Nat} (hB:0<B) (hu:u<y) (hd:d<B) (hq:q*(y / B)+r=u) (h:B≤q∨B*r+d<q*(y%B)):(u*B+d) / y<q:=by
  rw [Nat.div_lt_iff_lt_mul (by omega)]
  rcases h with h | h
  · have h1:(u+1)*B≤y*B:=Nat.mul_le_mul_right B hu
    have h2:B*y≤q*y:=Nat.mul_le_mul_right y h
    rw [Nat.add_mul,Nat.mul_comm y B] at h1
    omega
  · have e:y=y / B*B+y%B:=(Nat.div_add_mod' y B).symm
    have:q*y=q*(y / B)*B+q*(y%B):=by
      conv=>lhs;rw [e]
      rw [Nat.mul_add,Nat.mul_assoc]
    rw [this,← hq,Nat.add_mul,Nat.mul_comm r B]
    omega
theorem est_stop {B y u d q r:Nat} (hB:0<B) (hy:0<y) (hq:q*(y / B)+r=u) (hqB:q≤B) (hr:B≤r):q≤(u*B+d) / y:=by
  refine est_le hB hy hq ?_
  have h1:q*(y%B)≤B*(y%B):=Nat.mul_le_mul_right _ hqB
  have h2:B*(y%B)≤B*r:=Nat.mul_le_mul_left _ (by have:=Nat.mod_lt y hB;omega)
  omega
theorem est_first {B y u:Nat} (hu:u<y) (hB:2≤B) (hn:B≤2*(y / B)):u / (y / B)≤B+1:=by
  have hp:0<y / B:=by omega
  have:u / (y / B)<B+2:=by
    rw [Nat.div_lt_iff_lt_mul hp]
    have e:y=y / B*B+y%B:=(Nat.div_add_mod' y B).symm
    have hm:=Nat.mod_lt y (show 0<B by omega)
    have:(B+2)*(y / B)=y / B*B+2*(y / B):=by rw [Nat.add_mul,Nat.mul_comm B]
    omega
  omega
theorem est_ge {B y u d:Nat} (hB:0<B) (hy:B≤y) (hd:d<B):(u*B+d) / y≤u / (y / B):=by
  have hp:0<y / B:=Nat.div_pos hy hB
  rw [Nat.le_div_iff_mul_le hp]
  have h1:(u*B+d) / y*y≤u*B+d:=Nat.div_mul_le_self _ _
  have h2:(u*B+d) / y*(y / B*B)≤(u*B+d) / y*y:=Nat.mul_le_mul_left _ (Nat.div_mul_le_self _ _)
  rw [← Nat.mul_assoc] at h2
  generalize (u*B+d) / y*(y / B)=z at *
  have:z*B<(u+1)*B:=by rw [Nat.add_mul];omega
  exact Nat.le_of_lt_succ (Nat.lt_of_mul_lt_mul_right this)
theorem two_digits {B y u d1 d0:Nat} (hy:0<y):((u*B+d1)*B+d0) / y=(u*B+d1) / y*B+((u*B+d1)%y*B+d0) / y∧((u*B+d1)*B+d0)%y=((u*B+d1)%y*B+d0)%y:=by
  have e:(u*B+d1)*B+d0=y*((u*B+d1) / y*B)+((u*B+d1)%y*B+d0):=by
    conv=>lhs;rw [← Nat.div_add_mod (u*B+d1) y]
    rw [Nat.add_mul,Nat.mul_assoc]
    omega
  rw [e,Nat.mul_add_div hy,Nat.mul_add_mod]
  exact ⟨rfl,rfl⟩
end Go.Dz
set_option linter.unusedVariables false
set_option linter.unusedSimpArgs false
namespace Go.Dz
def digs (n:Nat):List Int:=if h:n=0 then [] else ((n%10:Nat):Int)::digs (n / 10)
termination_by n
decreasing_by omega
theorem digs_zero:digs 0=[]:=by rw [digs];rfl
theorem digs_pos {n:Nat} (h:n≠0):digs n=((n%10:Nat):Int)::digs (n / 10):=by rw [digs];simp [h]
def nval:List Int→Nat
  | []=>0
  | d::l=>d.toNat+10*nval l
def Dig (l:List Int):Prop:=∀ d∈l,0≤d∧d≤9
theorem Dig.nil:Dig []:=by intro d h;simp at h
theorem Dig.cons {d:Int} {l:List Int} (h0:0≤d) (h9:d≤9) (h:Dig l):Dig (d::l):=by
  intro x hx
  rcases List.mem_cons.1 hx with rfl | hx
  · exact ⟨h0,h9⟩
  · exact h x hx
theorem Dig.head {d:Int} {l:List Int} (h:Dig (d::l)):0≤d∧d≤9:=h d (by simp)
theorem Dig.tail {d:Int} {l:List Int} (h:Dig (d::l)):Dig l:=fun x hx=>h x (List.mem_cons_of_mem _ hx)
theorem Dig.app {l r:List Int} (h:Dig l) (k:Dig r):Dig (l++r):=by
  intro x hx
  rcases List.mem_append.1 hx with hx | hx
  · exact h x hx
  · exact k x hx
theorem digs_dig:∀ n,Dig (digs n):=by
  intro n
  induction n using Nat.strongRecOn with
  | _ n ih =>
    by_cases h:n=0
    · subst h;rw [digs_zero];exact Dig.nil
    · rw [digs_pos h];exact Dig.cons (by omega) (by omega) (ih _ (by omega))
theorem nval_digs:∀ n,nval (digs n)=n:=by
  intro n
  induction n using Nat.strongRecOn with
  | _ n ih =>
    by_cases h:n=0
    · subst h;rw [digs_zero];rfl
    · rw [digs_pos h,nval,ih _ (by omega)];omega
theorem digs_nil {n:Nat}:digs n=[]↔n=0:=by
  constructor
  · intro h;rw [← nval_digs n,h];rfl
  · rintro rfl;exact digs_zero
theorem digs_len0 {n:Nat}:(digs n).length=0↔n=0:=by rw [List.length_eq_zero_iff,digs_nil]
theorem digs_cons {d:Int} {n:Nat} (h0:0≤d) (h9:d≤9) (h:d.toNat+10*n≠0):digs (d.toNat+10*n)=d::digs n:=by
  rw [digs_pos h,show (d.toNat+10*n) / 10=n by omega,show (((d.toNat+10*n)%10:Nat):Int)=d by omega]
theorem digs_nval:∀ {l:List Int},Dig l→∀ {n:Nat},n≤l.length→(∀ i,n≤i→i<l.length→l.getD i 0=0)→(n≠0→l.getD (n - 1) 0≠0)→digs (nval l)=l.take n
  | [],_,n,hn,_,_=>by simp [nval,digs_zero]
  | d::l,hd,n,hn,h0,h1=>by
    cases n with
    | zero =>
      have hz:d=0:=by simpa using h0 0 (by omega) (by simp)
      have:=digs_nval hd.tail (n:=0) (Nat.zero_le _) (fun i hi hl=>by simpa using h0 (i+1) (by omega) (by simpa using hl)) (by omega)
      have hv:nval l=0:=by
        have:=congrArg nval this
        rw [nval_digs] at this
        simpa [nval] using this
      rw [nval,hv,hz];simp [digs_zero]
    | succ n =>
      have ih:=digs_nval hd.tail (n:=n) (by simpa using hn) (fun i hi hl=>by simpa using h0 (i+1) (by omega) (by simpa using hl)) (fun hn0=>by
        have:=h1 (by omega)
        obtain ⟨m,rfl⟩:∃ m,n=m+1:=⟨n - 1,by omega⟩
        simpa using this)
      have hne:d.toNat+10*nval l≠0:=by
        intro he
        have hv:nval l=0:=by omega
        rw [hv,digs_zero] at ih
        cases n with
        | zero =>
          have:=h1 (by omega)
          simp at this
          have:=hd.head
          omega
        | succ n =>
          have:=congrArg List.length ih
          simp at this hn
          omega
      rw [nval,digs_cons hd.head.1 hd.head.2 hne,ih,List.take_succ_cons]
theorem nval_app:∀ (l r:List Int),nval (l++r)=nval l+10^l.length*nval r
  | [],r=>by simp [nval]
  | d::l,r=>by
    rw [List.cons_append,nval,nval,nval_app l r,List.length_cons,Nat.pow_succ,Nat.mul_add,Nat.add_assoc,← Nat.mul_assoc,Nat.mul_comm 10 (10^l.length)]
theorem nval_lt:∀ {l:List Int},Dig l→nval l<10^l.length
  | [],_=>by simp [nval]
  | d::l,h=>by
    have:=nval_lt h.tail
    have:=h.head
    rw [nval,List.length_cons,Nat.pow_succ]
    omega
theorem digs_lt {n:Nat}:n<10^(digs n).length:=by
  have:=nval_lt (digs_dig n)
  rwa [nval_digs] at this
theorem digs_ge {n:Nat} (h:n≠0):10^((digs n).length - 1)≤n:=by
  induction n using Nat.strongRecOn with
  | _ n ih =>
    rw [digs_pos h,List.length_cons,Nat.add_sub_cancel]
    by_cases h1:n / 10=0
    · rw [h1,digs_zero];simp;omega
    · have:=ih _ (by omega) h1
      have h2:(digs (n / 10)).length≠0:=by rw [Ne,digs_len0];exact h1
      obtain ⟨m,hm⟩:∃ m,(digs (n / 10)).length=m+1:=⟨_,(Nat.succ_pred h2).symm⟩
      rw [hm] at this ⊢
      rw [Nat.add_sub_cancel] at this
      rw [Nat.pow_succ]
      omega
theorem digs_len_le {n m:Nat} (h:n<10^m):(digs n).length≤m:=by
  by_cases h0:n=0
  · subst h0;rw [digs_zero];simp
  · have:=digs_ge h0
    have h1:(digs n).length - 1<m:=(Nat.pow_lt_pow_iff_right (by decide:1<10)).1 (Nat.lt_of_le_of_lt this h)
    omega
theorem digs_at {n:Nat}:∀ {i:Nat},(digs n).getD i 0=((n / 10^i%10:Nat):Int):=by
  intro i
  induction i generalizing n with
  | zero =>
    by_cases h:n=0
    · subst h;rw [digs_zero];simp
    · rw [digs_pos h];simp
  | succ i ih =>
    by_cases h:n=0
    · subst h;rw [digs_zero];simp
    · rw [digs_pos h]
      have:=@ih (n / 10)
      rw [Nat.div_div_eq_div_mul,Nat.mul_comm] at this
      simpa [Nat.pow_succ] using this
end Go.Dz
namespace Go.Proofs.YtcmmdlgjinankaaGreatDoor.W
open Go Go.Q Go.Proofs Go.Dz
set_option linter.unusedVariables false
set_option linter.unusedSimpArgs false
theorem wU (n:Nat):IntKind.wrap .u64 (n:Int)=((n%18446744073709551616:Nat):Int):=by
  simp [IntKind.wrap,IntKind.bits,IntKind.signed]
theorem wUi (n:Int):IntKind.wrap .u64 n=n%18446744073709551616:=by
  simp [IntKind.wrap,IntKind.bits,IntKind.signed]
theorem wUl {n:Nat} (h:n<18446744073709551616):IntKind.wrap .u64 (n:Int)=(n:Int):=by rw [wU,Nat.mod_eq_of_lt h]
theorem bvU {n:Nat} (h:n<18446744073709551616):(n:Int)=((BitVec.ofNat 64 n).toNat:Int):=by
  rw [BitVec.toNat_ofNat,Nat.mod_eq_of_lt (by simpa using h)]
theorem and32 {n:Nat} (h:n<18446744073709551616):bits .and .u64 (n:Int) 4294967295=((n%4294967296:Nat):Int):=by
  rw [bvU h,show (4294967295:Int)=((4294967295#64).toNat:Int) from rfl,u64_and,BitVec.toNat_and,BitVec.toNat_ofNat,Nat.mod_eq_of_lt (by simpa using h)]
  rw [show (4294967295#64).toNat=2^32 - 1 from rfl,Nat.and_two_pow_sub_one_eq_mod]
theorem shrN (n:Nat) {s:Nat} (hs:s≤64):shrI .u64 (n:Int) (s:Int)=((n / 2^s:Nat):Int):=by
  unfold shrI
  rw [Int.fdiv_eq_ediv_of_nonneg _ (Int.pow_nonneg (by decide))]
  simp [IntKind.bits,Nat.min_eq_left hs]
theorem shr32 (n:Nat):shrI .u64 (n:Int) 32=((n / 4294967296:Nat):Int):=shrN n (s:=32) (by decide)
theorem shlN (n:Nat) {s:Nat} (hs:s≤64):shlI .u64 (n:Int) (s:Int)=((n*2^s%18446744073709551616:Nat):Int):=by
  unfold shlI
  rw [← wU]
  simp [IntKind.bits,Nat.min_eq_left hs]
theorem orN {a b s:Nat} (ha:a*2^s<18446744073709551616) (hb:b<2^s) (hb':b<18446744073709551616):bits .or .u64 ((a*2^s:Nat):Int) (b:Int)=((a*2^s+b:Nat):Int):=by
  rw [bvU ha,bvU hb',u64_or,BitVec.toNat_or,BitVec.toNat_ofNat,BitVec.toNat_ofNat,Nat.mod_eq_of_lt (by simpa using ha),Nat.mod_eq_of_lt (by simpa using hb'),Nat.mul_comm,← Nat.two_pow_add_eq_or_of_lt hb]
theorem or0 {a b:Nat} (ha:a<18446744073709551616) (hb:b<18446744073709551616):bits .or .u64 (a:Int) (b:Int)=0↔a=0∧b=0:=by
  rw [bvU ha,bvU hb,u64_or,BitVec.toNat_or,BitVec.toNat_ofNat,BitVec.toNat_ofNat,Nat.mod_eq_of_lt (by simpa using ha),Nat.mod_eq_of_lt (by simpa using hb)]
  constructor
  · intro h
    have h':a ||| b=0:=by exact_mod_cast h
    exact ⟨(Nat.or_eq_zero_iff.1 h').1,(Nat.or_eq_zero_iff.1 h').2⟩
  · rintro ⟨rfl,rfl⟩;rfl
theorem mul64 (k:Nat) {x y:Nat} (hx:x<18446744073709551616) (hy:y<18446744073709551616):g_mb_Mul64 k (x:Int) (y:Int)=some ((x*y / 18446744073709551616:Nat):Int):=by
  unfold g_mb_Mul64
  have b0:=Nat.mod_lt x (show 0<4294967296 by decide)
  have c0:=Nat.mod_lt y (show 0<4294967296 by decide)
  have b1:x / 4294967296<4294967296:=by omega
  have c1:y / 4294967296<4294967296:=by omega
  have ex:x=x / 4294967296*4294967296+x%4294967296:=by omega
  have ey:y=y / 4294967296*4294967296+y%4294967296:=by omega
  simp only [and32 hx,and32 hy,shr32]
  generalize x%4294967296=x0 at *
  generalize y%4294967296=y0 at *
  generalize x / 4294967296=x1 at *
  generalize y / 4294967296=y1 at *
  have hp:x0*y0≤4294967295*4294967295:=Nat.mul_le_mul (by omega) (by omega)
  have hq:x1*y0≤4294967295*4294967295:=Nat.mul_le_mul (by omega) (by omega)
  have hr:x0*y1≤4294967295*4294967295:=Nat.mul_le_mul (by omega) (by omega)
  have hs:x1*y1≤4294967295*4294967295:=Nat.mul_le_mul (by omega) (by omega)
  have e:x*y=x1*y1*18446744073709551616+(x1*y0+x0*y1)*4294967296+x0*y0:=by
    rw [ex,ey]
    simp only [Nat.add_mul,Nat.mul_add]
    have:x1*4294967296*(y1*4294967296)=x1*y1*18446744073709551616:=by
      rw [Nat.mul_mul_mul_comm]
    have h2:x1*4294967296*y0=x1*y0*4294967296:=by rw [Nat.mul_right_comm]
    have h3:x0*(y1*4294967296)=x0*y1*4294967296:=by rw [Nat.mul_assoc]
    omega
  simp only [← Int.natCast_mul]
  generalize x0*y0=p at *
  generalize x1*y0=q at *
  generalize x0*y1=r at *
  generalize x1*y1=s at *
  rw [e]
  have e1:p%18446744073709551616=p:=Nat.mod_eq_of_lt (by omega)
  have e2:q%18446744073709551616=q:=Nat.mod_eq_of_lt (by omega)
  have e3:r%18446744073709551616=r:=Nat.mod_eq_of_lt (by omega)
  have e4:s%18446744073709551616=s:=Nat.mod_eq_of_lt (by omega)
  simp only [Option.bind_some,wU,e1,e2,e3,e4,shr32,← Int.natCast_add]
  rw [and32 (by omega)]
  simp only [← Int.natCast_add,wU,shr32]
  congr 2
  omega
def lenTab:List Int:=strInts (ByteArray.mk #[0,1,2,2,3,3,3,3,4,4,4,4,4,4,4,4,5,5,5,5,5,5,5,5,5,5,5,5,5,5,5,5,6,6,6,6,6,6,6,6,6,6,6,6,6,6,6,6,6,6,6,6,6,6,6,6,6,6,6,6,6,6,6,6,7,7,7,7,7,7,7,7,7,7,7,7,7,7,7,7,7,7,7,7,7,7,7,7,7,7,7,7,7,7,7,7,7,7,7,7,7,7,7,7,7,7,7,7,7,7,7,7,7,7,7,7,7,7,7,7,7,7,7,7,7,7,7,7,8,8,8,8,8,8,8,8,8,8,8,8,8,8,8,8,8,8,8,8,8,8,8,8,8,8,8,8,8,8,8,8,8,8,8,8,8,8,8,8,8,8,8,8,8,8,8,8,8,8,8,8,8,8,8,8,8,8,8,8,8,8,8,8,8,8,8,8,8,8,8,8,8,8,8,8,8,8,8,8,8,8,8,8,8,8,8,8,8,8,8,8,8,8,8,8,8,8,8,8,8,8,8,8,8,8,8,8,8,8,8,8,8,8,8,8,8,8,8,8,8,8,8,8,8,8,8,8])
theorem lenTab_all:((List.range 256).all fun i=>match ix lenTab (i:Int) with
    | some v=>decide (0≤v∧v≤8∧i<2^v.toNat∧(i≠0→2^v.toNat≤2*i))
    | none=>false)=true:=by kernel_rfl
theorem lenTab_at {i:Nat} (h:i<256):∃ v:Nat,ix lenTab (i:Int)=some (v:Int)∧v≤8∧i<2^v∧(i≠0→2^v≤2*i):=by
  have:=List.all_eq_true.1 lenTab_all i (List.mem_range.2 h)
  cases hv:ix lenTab (i:Int) with
  | none=>rw [hv] at this;cases this
  | some v =>
    rw [hv] at this
    simp only [decide_eq_true_eq] at this
    exact ⟨v.toNat,by rw [Int.toNat_of_nonneg this.1],by omega,this.2.2.1,this.2.2.2⟩
set_option maxRecDepth 100000 in
theorem len64 (k:Nat) {x:Nat} (hx:x<18446744073709551616) (h0:x≠0):∃ n:Nat,g_mb_Len64 k (x:Int)=some (n:Int)∧n≤64∧x<2^n∧2^n≤2*x:=by
  unfold g_mb_Len64
  have hl:∀ z,ix (strInts (ByteArray.mk #[0,1,2,2,3,3,3,3,4,4,4,4,4,4,4,4,5,5,5,5,5,5,5,5,5,5,5,5,5,5,5,5,6,6,6,6,6,6,6,6,6,6,6,6,6,6,6,6,6,6,6,6,6,6,6,6,6,6,6,6,6,6,6,6,7,7,7,7,7,7,7,7,7,7,7,7,7,7,7,7,7,7,7,7,7,7,7,7,7,7,7,7,7,7,7,7,7,7,7,7,7,7,7,7,7,7,7,7,7,7,7,7,7,7,7,7,7,7,7,7,7,7,7,7,7,7,7,7,8,8,8,8,8,8,8,8,8,8,8,8,8,8,8,8,8,8,8,8,8,8,8,8,8,8,8,8,8,8,8,8,8,8,8,8,8,8,8,8,8,8,8,8,8,8,8,8,8,8,8,8,8,8,8,8,8,8,8,8,8,8,8,8,8,8,8,8,8,8,8,8,8,8,8,8,8,8,8,8,8,8,8,8,8,8,8,8,8,8,8,8,8,8,8,8,8,8,8,8,8,8,8,8,8,8,8,8,8,8,8,8,8,8,8,8,8,8,8,8,8,8,8,8,8,8,8,8])) z=ix lenTab z:=fun _=>rfl
  simp only [hl,bd]
  -- the three halvings
  obtain ⟨y,s,hy,hys,h1⟩:∃ y s:Nat,(if (4294967296:Int)≤(x:Int) then some (shrI .u64 (x:Int) 32,(32:Int)) else some ((x:Int),0))=some ((y:Int),(s:Int))∧(s≤32)∧y≠0∧y<4294967296∧y*2^s≤x∧x<(y+1)*2^s:=by
    by_cases h:(4294967296:Int)≤(x:Int)
    · refine ⟨x / 4294967296,32,?_,by decide,?_⟩
      · rw [if_pos h,shr32];rfl
      · simp only [show (2:Nat)^32=4294967296 from rfl];omega
    · exact ⟨x,0,by rw [if_neg h];rfl,by decide,by simp;omega⟩
  obtain ⟨z,t,hz,hzt,h2⟩:∃ z t:Nat,(if (65536:Int)≤(y:Int) then some (shrI .u64 (y:Int) 16,IntKind.wrap .i64 ((s:Int)+16)) else some ((y:Int),(s:Int)))=some ((z:Int),(t:Int))∧(t≤48)∧z≠0∧z<65536∧z*2^t≤x∧x<(z+1)*2^t:=by
    by_cases h:(65536:Int)≤(y:Int)
    · refine ⟨y / 65536,s+16,?_,by omega,by omega,by omega,?_,?_⟩
      · rw [if_pos h,wi (by omega) (by omega),show (16:Int)=((16:Nat):Int) from rfl,shrN y (s:=16) (by decide)];rfl
      · refine Nat.le_trans ?_ h1.2.2.1
        rw [Nat.pow_add,Nat.mul_comm (2^s),← Nat.mul_assoc]
        exact Nat.mul_le_mul_right _ (by simp only [show (2:Nat)^16=65536 from rfl];omega)
      · refine Nat.lt_of_lt_of_le h1.2.2.2 ?_
        rw [Nat.pow_add,Nat.mul_comm (2^s),← Nat.mul_assoc]
        exact Nat.mul_le_mul_right _ (by simp only [show (2:Nat)^16=65536 from rfl];omega)
    · exact ⟨y,s,by rw [if_neg h],by omega,by omega,by omega,h1.2.2⟩
  obtain ⟨u,v,hu,huv,h3⟩:∃ u v:Nat,(if (256:Int)≤(z:Int) then some (shrI .u64 (z:Int) 8,IntKind.wrap .i64 ((t:Int)+8)) else some ((z:Int),(t:Int)))=some ((u:Int),(v:Int))∧(v≤56)∧u≠0∧u<256∧u*2^v≤x∧x<(u+1)*2^v:=by
    by_cases h:(256:Int)≤(z:Int)
    · refine ⟨z / 256,t+8,?_,by omega,by omega,by omega,?_,?_⟩
      · rw [if_pos h,wi (by omega) (by omega),show (8:Int)=((8:Nat):Int) from rfl,shrN z (s:=8) (by decide)];rfl
      · refine Nat.le_trans ?_ h2.2.2.1
        rw [Nat.pow_add,Nat.mul_comm (2^t),← Nat.mul_assoc]
        exact Nat.mul_le_mul_right _ (by simp only [show (2:Nat)^8=256 from rfl];omega)
      · refine Nat.lt_of_lt_of_le h2.2.2.2 ?_
        rw [Nat.pow_add,Nat.mul_comm (2^t),← Nat.mul_assoc]
        exact Nat.mul_le_mul_right _ (by simp only [show (2:Nat)^8=256 from rfl];omega)
    · exact ⟨z,t,by rw [if_neg h],by omega,by omega,by omega,h2.2.2⟩
  obtain ⟨w,hw,hw8,hw1,hw2⟩:=lenTab_at h3.2.1
  refine ⟨v+w,?_,by omega,?_,?_⟩
  · rw [hy,Option.bind_some,hz,Option.bind_some,hu,Option.bind_some,wu8 (by omega) (by omega),hw]
    simp only [Option.bind_some]
    rw [wi (n:=(w:Int)) (by omega) (by omega),wi (by omega) (by omega)]
    simp
  · refine Nat.lt_of_lt_of_le h3.2.2.2 ?_
    rw [Nat.pow_add,Nat.mul_comm]
    exact Nat.mul_le_mul_left _ (by omega)
  · rw [Nat.pow_add,Nat.mul_comm]
    have:=Nat.mul_le_mul_right (2^v) (hw2 h3.1)
    have h4:=h3.2.2.1
    rw [Nat.mul_assoc] at this
    omega
theorem lz64 (k:Nat) {y:Nat} (hy:y<18446744073709551616) (h0:y≠0):∃ s:Nat,g_mb_LeadingZeros64 k (y:Int)=some (s:Int)∧s≤63∧y*2^s<18446744073709551616∧9223372036854775808≤y*2^s:=by
  obtain ⟨n,h1,h2,h3,h4⟩:=len64 k hy h0
  have hn:1≤n:=by
    rcases Nat.eq_zero_or_pos n with rfl | h
    · simp at h3;omega
    · exact h
  refine ⟨64 - n,?_,by omega,?_,?_⟩
  · unfold g_mb_LeadingZeros64
    rw [h1,Option.bind_some,wi (by omega) (by omega)]
    congr 1
    omega
  · have:y*2^(64 - n)<2^n*2^(64 - n):=Nat.mul_lt_mul_of_pos_right h3 (Nat.two_pow_pos _)
    rw [← Nat.pow_add,show n+(64 - n)=64 by omega] at this
    exact this
  · have:2^n*2^(64 - n)≤2*y*2^(64 - n):=Nat.mul_le_mul_right _ h4
    rw [← Nat.pow_add,show n+(64 - n)=64 by omega,Nat.mul_assoc] at this
    simp only [show (2:Nat)^64=18446744073709551616 from rfl] at this
    omega
theorem div_l0 (k:Nat) {y e u:Nat} (hy:y<18446744073709551616) (hn:9223372036854775808≤y) (he:e<18446744073709551616) (hu:u<y):∀ (n q r:Nat),4294967296≤r+n*2147483648→r<4294967296→q*(y / 4294967296)+r=u→q≤4294967297→(u*4294967296+e / 4294967296) / y≤q →
    g_mb_Div64_l0 k (y:Int) (e:Int) n (q:Int) (r:Int)=some (((u*4294967296+e / 4294967296) / y:Nat):Int):=by
  intro n
  induction n with
  | zero=>intro q r h1 h2;omega
  | succ n ih =>
    intro q r h1 h2 h3 h4 h5
    rw [g_mb_Div64_l0.eq_2]
    have hyB:y / 4294967296<4294967296:=by omega
    have hd:e / 4294967296<4294967296:=by omega
    have hm:q*(y%4294967296)≤4294967297*4294967295:=Nat.mul_le_mul h4 (by omega)
    simp only [bd,and32 hy,shr32,Option.bind_some,← Int.natCast_mul,← Int.natCast_add]
    rw [wUl (n:=q*(y%4294967296)) (by omega),show (4294967296:Int)*(r:Int)=((4294967296*r:Nat):Int) from rfl,wUl (n:=4294967296*r) (by omega),← Int.natCast_add,wUl (n:=4294967296*r+e / 4294967296) (by omega),wUl (n:=r+y / 4294967296) (by omega)]
    have go:∀ b:Bool,(b=decide (4294967296≤q∨4294967296*r+e / 4294967296<q*(y%4294967296)))→((some b).bind fun x437=>(bif x437 then (if (4294967296:Int)≤((r+y / 4294967296:Nat):Int) then some (IntKind.wrap .u64 ((q:Int) - 1)) else (g_mb_Div64_l0 k (y:Int) (e:Int) n (IntKind.wrap .u64 ((q:Int) - 1)) ((r+y / 4294967296:Nat):Int))) else some (q:Int)))=some (((u*4294967296+e / 4294967296) / y:Nat):Int):=by
      rintro b rfl
      rw [Option.bind_some]
      by_cases hc:4294967296≤q∨4294967296*r+e / 4294967296<q*(y%4294967296)
      · rw [dt hc,bt]
        have hlt:=est_gt (B:=4294967296) (by decide) hu hd h3 hc
        have hq:1≤q:=Nat.lt_of_le_of_lt (Nat.zero_le _) hlt
        obtain ⟨q',rfl⟩:∃ q',q=q'+1:=⟨q - 1,by omega⟩
        have e3:q'*(y / 4294967296)+(r+y / 4294967296)=u:=by
          rw [Nat.add_mul] at h3;omega
        rw [show (((q'+1:Nat):Int) - 1)=((q':Nat):Int) by omega,wUl (n:=q') (by omega)]
        by_cases hb:4294967296≤r+y / 4294967296
        · rw [if_pos (by omega)]
          have:=est_stop (B:=4294967296) (y:=y) (d:=e / 4294967296) (by decide) (by omega) e3 (by omega) hb
          congr 1
          omega
        · rw [if_neg (by omega)]
          exact ih q' (r+y / 4294967296) (by omega) (by omega) e3 (by omega) (by omega)
      · rw [df hc,bf]
        have:=est_le (B:=4294967296) (y:=y) (u:=u) (d:=e / 4294967296) (q:=q) (r:=r) (by decide) (by omega) h3 (by omega)
        congr 1
        omega
    by_cases hq:4294967296≤q
    · rw [if_pos (by omega)]
      exact go true (by rw [dt (.inl hq)])
    · rw [if_neg (by omega)]
      refine go _ ?_
      congr 1
      exact propext ⟨fun h=>.inr (by omega),fun h=>by omega⟩
theorem div_l1 (k:Nat) {y e u:Nat} (hy:y<18446744073709551616) (hn:9223372036854775808≤y) (he:e<18446744073709551616) (hu:u<y):∀ (n q r:Nat),4294967296≤r+n*2147483648→r<4294967296→q*(y / 4294967296)+r=u→q≤4294967297→(u*4294967296+e%4294967296) / y≤q →
    g_mb_Div64_l1 k (y:Int) (e:Int) n (r:Int) (q:Int)=some (((u*4294967296+e%4294967296) / y:Nat):Int):=by
  intro n
  induction n with
  | zero=>intro q r h1 h2;omega
  | succ n ih =>
    intro q r h1 h2 h3 h4 h5
    rw [g_mb_Div64_l1.eq_2]
    have hyB:y / 4294967296<4294967296:=by omega
    have hd:e%4294967296<4294967296:=by omega
    have hm:q*(y%4294967296)≤4294967297*4294967295:=Nat.mul_le_mul h4 (by omega)
    simp only [bd,and32 hy,and32 he,shr32,Option.bind_some,← Int.natCast_mul,← Int.natCast_add]
    rw [wUl (n:=q*(y%4294967296)) (by omega),show (4294967296:Int)*(r:Int)=((4294967296*r:Nat):Int) from rfl,wUl (n:=4294967296*r) (by omega),← Int.natCast_add,wUl (n:=4294967296*r+e%4294967296) (by omega),wUl (n:=r+y / 4294967296) (by omega)]
    have go:∀ b:Bool,(b=decide (4294967296≤q∨4294967296*r+e%4294967296<q*(y%4294967296)))→((some b).bind fun x437=>(bif x437 then (if (4294967296:Int)≤((r+y / 4294967296:Nat):Int) then some (IntKind.wrap .u64 ((q:Int) - 1)) else (g_mb_Div64_l1 k (y:Int) (e:Int) n ((r+y / 4294967296:Nat):Int) (IntKind.wrap .u64 ((q:Int) - 1)))) else some (q:Int)))=some (((u*4294967296+e%4294967296) / y:Nat):Int):=by
      rintro b rfl
      rw [Option.bind_some]
      by_cases hc:4294967296≤q∨4294967296*r+e%4294967296<q*(y%4294967296)
      · rw [dt hc,bt]
        have hlt:=est_gt (B:=4294967296) (by decide) hu hd h3 hc
        have hq:1≤q:=Nat.lt_of_le_of_lt (Nat.zero_le _) hlt
        obtain ⟨q',rfl⟩:∃ q',q=q'+1:=⟨q - 1,by omega⟩
        have e3:q'*(y / 4294967296)+(r+y / 4294967296)=u:=by
          rw [Nat.add_mul] at h3;omega
        rw [show (((q'+1:Nat):Int) - 1)=((q':Nat):Int) by omega,wUl (n:=q') (by omega)]
        by_cases hb:4294967296≤r+y / 4294967296
        · rw [if_pos (by omega)]
          have:=est_stop (B:=4294967296) (y:=y) (d:=e%4294967296) (by decide) (by omega) e3 (by omega) hb
          congr 1
          omega
        · rw [if_neg (by omega)]
          exact ih q' (r+y / 4294967296) (by omega) (by omega) e3 (by omega) (by omega)
      · rw [df hc,bf]
        have:=est_le (B:=4294967296) (y:=y) (u:=u) (d:=e%4294967296) (q:=q) (r:=r) (by decide) (by omega) h3 (by omega)
        congr 1
        omega
    by_cases hq:4294967296≤q
    · rw [if_pos (by omega)]
      exact go true (by rw [dt (.inl hq)])
    · rw [if_neg (by omega)]
      refine go _ ?_
      congr 1
      exact propext ⟨fun h=>.inr (by omega),fun h=>by omega⟩
theorem digit_lt {y u d:Nat} (hu:u<y) (hd:d<4294967296):(u*4294967296+d) / y<4294967296:=by
  rw [Nat.div_lt_iff_lt_mul (by omega)]
  have:(u+1)*4294967296≤y*4294967296:=Nat.mul_le_mul_right _ hu
  omega
theorem div64 (k:Nat) (hk:3≤k) {hi lo y:Nat} (hlo:lo<18446744073709551616) (hy:y<18446744073709551616) (h:hi<y):g_mb_Div64 k (hi:Int) (lo:Int) (y:Int) =
    some ((((hi*18446744073709551616+lo) / y:Nat):Int),(((hi*18446744073709551616+lo)%y:Nat):Int)):=by
  unfold g_mb_Div64
  simp only [bd]
  rw [if_neg (show ¬ ((y:Int)=0) by omega),if_neg (show ¬ ((y:Int)≤(hi:Int)) by omega)]
  by_cases h0:hi=0
  · subst h0
    have e0:((y:Int)==0)=false:=by rw [beq_eq_false_iff_ne];omega
    rw [if_pos (show ((0:Nat):Int)=0 from rfl),e0]
    simp only [Bool.not_false,cond_true,td,tm,Nat.zero_mul,Nat.zero_add]
    have:lo / y≤lo:=Nat.div_le_self _ _
    rw [wUl (by omega)]
  · rw [if_neg (by omega)]
    obtain ⟨s,h1,h2,h3,h4⟩:=lz64 k hy (by omega)
    rw [h1,Option.bind_some,wUl (n:=s) (by omega)]
    simp only [if_pos (show (0:Int)≤(s:Int) by omega),Option.bind_some,shlN _ (show s≤64 by omega)]
    have e64:IntKind.wrap .u64 (64 - (s:Int))=((64 - s:Nat):Int):=by
      rw [show (64 - (s:Int))=((64 - s:Nat):Int) by omega,wUl (by omega)]
    rw [e64]
    simp only [if_pos (show (0:Int)≤((64 - s:Nat):Int) by omega),shrN _ (show 64 - s≤64 by omega)]
    rw [Nat.mod_eq_of_lt h3]
    have hp:2^s*2^(64 - s)=18446744073709551616:=by rw [← Nat.pow_add,show s+(64 - s)=64 by omega]
    have hps:=Nat.two_pow_pos s
    have hhi:hi*2^s<y*2^s:=Nat.mul_lt_mul_of_pos_right h hps
    -- the number,moved to the left
    have hlos:lo*2^s=lo / 2^(64 - s)*18446744073709551616+lo*2^s%18446744073709551616:=by
      have e1:lo*2^s / 18446744073709551616=lo / 2^(64 - s):=by
        rw [← hp,Nat.mul_comm lo,Nat.mul_div_mul_left _ _ hps]
      rw [← e1];omega
    have hloq:lo / 2^(64 - s)<2^s:=by
      rw [Nat.div_lt_iff_lt_mul (Nat.two_pow_pos _),hp];exact hlo
    rw [Nat.mod_eq_of_lt (show hi*2^s<18446744073709551616 by omega),orN (show hi*2^s<18446744073709551616 by omega) hloq (by have:lo / 2^(64 - s)≤lo:=Nat.div_le_self _ _;omega)]
    have hN:(hi*18446744073709551616+lo)*2^s=(hi*2^s+lo / 2^(64 - s))*18446744073709551616+lo*2^s%18446744073709551616:=by
      rw [Nat.add_mul,Nat.mul_right_comm,Nat.add_mul];omega
    have hu:hi*2^s+lo / 2^(64 - s)<y*2^s:=by
      have:(hi+1)*2^s≤y*2^s:=Nat.mul_le_mul_right _ h
      rw [Nat.add_mul] at this
      omega
    have hq:(hi*18446744073709551616+lo) / y=(hi*18446744073709551616+lo)*2^s / (y*2^s):=(Nat.mul_div_mul_right _ _ hps).symm
    have hr:(hi*18446744073709551616+lo)%y*2^s=(hi*18446744073709551616+lo)*2^s%(y*2^s):=(Nat.mul_mod_mul_right _ _ _).symm
    rw [hN] at hq hr
    have he:lo*2^s%18446744073709551616<18446744073709551616:=Nat.mod_lt _ (by decide)
    have hrs:(hi*18446744073709551616+lo)%y=((hi*2^s+lo / 2^(64 - s))*18446744073709551616+lo*2^s%18446744073709551616)%(y*2^s) / 2^s:=by
      rw [← hr,Nat.mul_div_cancel _ hps]
    rw [hq,hrs]
    clear hq hr hrs hN hhi hlos hloq
    generalize hi*2^s+lo / 2^(64 - s)=u at *
    generalize lo*2^s%18446744073709551616=e at *
    generalize y*2^s=z at *
    have hzB:z / 4294967296<4294967296:=by omega
    have hz1:2147483648≤z / 4294967296:=by omega
    have ez:(((z / 4294967296:Nat):Int)==0)=false:=by rw [beq_eq_false_iff_ne];omega
    -- one digit
    have dig:∀ (v d:Nat),v<z→d<4294967296→(v / (z / 4294967296)≤4294967297)∧(v*4294967296+d) / z≤v / (z / 4294967296)∧v / (z / 4294967296)*(z / 4294967296)+(v - v / (z / 4294967296)*(z / 4294967296))=v∧v - v / (z / 4294967296)*(z / 4294967296)<4294967296∧v / (z / 4294967296)*(z / 4294967296)≤v:=by
      intro v d hv hd
      have a1:=est_first (B:=4294967296) hv (by decide) (by omega)
      have a2:=est_ge (B:=4294967296) (y:=z) (u:=v) (d:=d) (by decide) (by omega) hd
      have a3:=Nat.div_mul_le_self v (z / 4294967296)
      have a4:v%(z / 4294967296)<z / 4294967296:=Nat.mod_lt _ (by omega)
      have a5:=Nat.div_add_mod v (z / 4294967296)
      rw [Nat.mul_comm] at a5
      exact ⟨a1,a2,by omega,by omega,a3⟩
    have step:∀ (v d:Nat),v<z→d<4294967296→(v*4294967296+d) / z*z+(v*4294967296+d)%z=v*4294967296+d∧(v*4294967296+d)%z<z:=by
      intro v d hv hd
      have:=Nat.div_add_mod (v*4294967296+d) z
      rw [Nat.mul_comm] at this
      exact ⟨this,Nat.mod_lt _ (by omega)⟩
    have modU:∀ (v d q:Nat),v<z→d<4294967296→q=(v*4294967296+d) / z→IntKind.wrap .u64 (IntKind.wrap .u64 ((IntKind.wrap .u64 ((v:Int)*4294967296))+(d:Int)) - IntKind.wrap .u64 (((q:Nat):Int)*((z:Nat):Int)))=(((v*4294967296+d)%z:Nat):Int):=by
      intro v d q hv hd hq
      obtain ⟨s1,s2⟩:=step v d hv hd
      rw [← hq] at s1
      rw [← Int.natCast_mul]
      simp only [wUi]
      generalize q*z=m at *
      generalize (v*4294967296+d)%z=w at *
      omega
    obtain ⟨d1,d2,d3,d4,d5⟩:=dig u (e / 4294967296) hu (by omega)
    rw [shr32,ez]
    simp only [Bool.not_false,cond_true,td]
    rw [wUl (n:=u / (z / 4294967296)) (by omega)]
    simp only [Option.bind_some,← Int.natCast_mul]
    rw [wUl (n:=u / (z / 4294967296)*(z / 4294967296)) (by omega),show ((u:Int) - ((u / (z / 4294967296)*(z / 4294967296):Nat):Int))=((u - u / (z / 4294967296)*(z / 4294967296):Nat):Int) by omega,wUl (n:=u - _) (by omega)]
    rw [div_l0 k h3 h4 he hu k _ _ (by omega) d4 d3 d1 d2]
    simp only [Option.bind_some,shr32]
    have m1:=modU u (e / 4294967296) _ hu (by omega) rfl
    rw [m1]
    obtain ⟨s1,s2⟩:=step u (e / 4294967296) hu (by omega)
    have g1:=digit_lt hu (show e / 4294967296<4294967296 by omega)
    have t:=two_digits (B:=4294967296) (y:=z) (u:=u) (d1:=e / 4294967296) (d0:=e%4294967296) (by omega)
    have eN:(u*4294967296+e / 4294967296)*4294967296+e%4294967296=u*18446744073709551616+e:=by omega
    rw [eN] at t
    rw [t.1,t.2]
    clear t eN m1 s1
    obtain ⟨v,hv⟩:∃ v,v=(u*4294967296+e / 4294967296)%z:=⟨_,rfl⟩
    obtain ⟨q1,hq1⟩:∃ v,v=(u*4294967296+e / 4294967296) / z:=⟨_,rfl⟩
    rw [← hv] at s2
    rw [← hq1] at g1
    rw [← hv,← hq1]
    clear d1 d2 d3 d4 d5 hv hq1
    obtain ⟨c1,c2,c3,c4,c5⟩:=dig v (e%4294967296) s2 (by omega)
    simp only [td]
    rw [wUl (n:=v / (z / 4294967296)) (by omega)]
    simp only [Option.bind_some,← Int.natCast_mul]
    rw [wUl (n:=v / (z / 4294967296)*(z / 4294967296)) (by omega),show ((v:Int) - ((v / (z / 4294967296)*(z / 4294967296):Nat):Int))=((v - v / (z / 4294967296)*(z / 4294967296):Nat):Int) by omega,wUl (n:=v - _) (by omega)]
    rw [div_l1 k h3 h4 he s2 k _ _ (by omega) c4 c3 c1 c2]
    simp only [Option.bind_some,and32 he]
    have m2:=modU v (e%4294967296) _ s2 (by omega) rfl
    have g2:=digit_lt s2 (show e%4294967296<4294967296 by omega)
    rw [m2,shrN _ (by omega)]
    obtain ⟨q0,hq0⟩:∃ w,w=(v*4294967296+e%4294967296) / z:=⟨_,rfl⟩
    rw [← hq0] at g2
    rw [← hq0]
    clear c1 c2 c3 c4 c5 m2
    have f1:(q1:Int)*4294967296=((q1*4294967296:Nat):Int):=by simp
    have f2:IntKind.wrap .u64 ((q1:Int)*4294967296)=((q1*4294967296:Nat):Int):=by rw [f1];exact wUl (by omega)
    have f3:IntKind.wrap .u64 (IntKind.wrap .u64 ((q1:Int)*4294967296)+(q0:Int))=((q1*4294967296+q0:Nat):Int):=by rw [f2,← Int.natCast_add];exact wUl (by omega)
    rw [f3]
def wh (v:Nat):Int:=((v / 18446744073709551616:Nat):Int)
def wl (v:Nat):Int:=((v%18446744073709551616:Nat):Int)
abbrev UU:Nat:=340282366920938463463374607431768211456
theorem wh_small {v:Nat} (h:v<18446744073709551616):wh v=0:=by unfold wh;rw [Nat.div_eq_of_lt h];rfl
theorem wl_small {v:Nat} (h:v<18446744073709551616):wl v=(v:Int):=by unfold wl;rw [Nat.mod_eq_of_lt h]
theorem wh_lt {v:Nat} (h:v<UU):v / 18446744073709551616<18446744073709551616:=by unfold UU at h;omega
theorem wide_zero (k:Nat) (a b:Int):g_dec_wide_zero k a b=some ():=rfl
theorem wide_or {v:Nat} (h:v<UU):(bits .or .u64 (wh v) (wl v)=0)↔v=0:=by
  unfold wh wl
  rw [or0 (wh_lt h) (Nat.mod_lt _ (by decide))]
  omega
theorem wide_or_small {v:Nat} (h:v<18446744073709551616):(bits .or .u64 0 (v:Int)=0)↔v=0:=by
  have:=or0 (a:=0) (b:=v) (by decide) h
  rw [show ((0:Nat):Int)=0 from rfl] at this
  rw [this]
  omega
theorem add64_eq (a b c:Nat):add64 (a:Int) (b:Int) (c:Int)=(((((a+b+c)%18446744073709551616:Nat)):Int),(((a+b+c) / 18446744073709551616:Nat):Int)):=by
  simp [add64,Extern.MathBitsCarry.m64]
theorem wide_times (k:Nat) {v n:Nat} (hv:v<UU) (hn:n<4294967296):∃ x:Int,g_dec_wide_times k (wh v) (wl v) (n:Int)=some (decide (v*n<UU),x)∧(v*n<UU→x=wh (v*n)):=by
  unfold g_dec_wide_times
  have h1:=wh_lt hv
  have h2:=Nat.mod_lt v (show 0<18446744073709551616 by decide)
  have e:v=v / 18446744073709551616*18446744073709551616+v%18446744073709551616:=by omega
  unfold wh wl
  rw [mul64 k h2 (by omega),Option.bind_some,mul64 k h1 (by omega),Option.bind_some,← Int.natCast_mul,wU,show (0:Int)=((0:Nat):Int) from rfl,add64_eq]
  generalize hA:v / 18446744073709551616=a at *
  generalize hB:v%18446744073709551616=b at *
  have hp:a*n≤18446744073709551615*n:=Nat.mul_le_mul_right _ (by omega)
  have hq:b*n≤18446744073709551615*n:=Nat.mul_le_mul_right _ (by omega)
  have ev:v*n=a*n*18446744073709551616+b*n:=by rw [e,Nat.add_mul,Nat.mul_right_comm]
  rw [ev]
  simp only [Option.bind_some]
  have hov:a*n / 18446744073709551616≤4294967295:=by omega
  generalize a*n=p at *
  generalize b*n=q at *
  rw [← Int.natCast_add,wUl (by omega)]
  refine ⟨(((q / 18446744073709551616+p%18446744073709551616+0)%18446744073709551616:Nat):Int),?_,fun hlt=>?_⟩
  · refine congrArg some (Prod.ext ?_ rfl)
    simp only [decide_eq_decide]
    unfold UU
    omega
  · unfold UU at hlt
    congr 1
    omega
theorem wide_times_lo {v n:Nat}:IntKind.wrap .u64 (wl v*(n:Int))=wl (v*n):=by
  unfold wl
  rw [← Int.natCast_mul,wU]
  congr 1
  simp [Nat.mul_mod]
theorem wide_by (k:Nat) (hk:3≤k) {v:Nat} (hv:v<UU):g_dec_wide_by k (wh v) (wl v) 10=some (((v%10:Nat):Int),wh (v / 10),wl (v / 10)):=by
  unfold g_dec_wide_by
  have h1:=wh_lt hv
  have h2:=Nat.mod_lt v (show 0<18446744073709551616 by decide)
  unfold wh wl
  have d1:=div64 k hk (hi:=0) (lo:=v / 18446744073709551616) (y:=10) h1 (by decide) (by decide)
  rw [show ((0:Nat):Int)=0 from rfl,show ((10:Nat):Int)=10 from rfl] at d1
  rw [d1,Option.bind_some]
  simp only [Nat.zero_mul,Nat.zero_add]
  have d2:=div64 k hk (hi:=v / 18446744073709551616%10) (lo:=v%18446744073709551616) (y:=10) h2 (by decide) (Nat.mod_lt _ (by decide))
  rw [show ((10:Nat):Int)=10 from rfl] at d2
  rw [d2,Option.bind_some]
  congr 2
  · congr 1;omega
  · congr 2
    · omega
    · omega
theorem wide_tens_l0 (k:Nat) {m:Nat}:∀ (n i v:Nat),i≤m→m - i+1<n→m<1000000→v<UU→∃ (b:Bool) (x y:Int),g_dec_wide_tens_l0 k (m:Int) n true (i:Int) (wh v) (wl v)=some (b,x,y) ∧
    (b=true→v*10^(m - i)<UU∧x=wh (v*10^(m - i))∧y=wl (v*10^(m - i)))∧(b=false→UU≤v*10^(m - i)):=by
  intro n
  induction n with
  | zero=>intro i v _ h;omega
  | succ n ih =>
    intro i v hi hn hm hv
    rw [g_dec_wide_tens_l0.eq_2]
    simp only [bd,wide_zero,Option.bind_some,cond_true]
    by_cases him:i<m
    · rw [if_pos (by omega),Option.bind_some]
      by_cases h0:v=0
      · rw [dt ((wide_or hv).2 h0)]
        refine ⟨true,wh v,wl v,rfl,fun _=>?_,fun h=>by cases h⟩
        rw [h0];simp
      · rw [df (fun h=>h0 ((wide_or hv).1 h))]
        obtain ⟨x,h1,h2⟩:=wide_times k hv (n:=10) (by decide)
        simp only [Bool.not_false,cond_true]
        rw [show (10:Int)=((10:Nat):Int) from rfl,h1,Option.bind_some,wi (by omega) (by omega),wide_times_lo]
        by_cases hlt:v*10<UU
        · rw [dt hlt,h2 hlt,show ((i:Int)+1)=((i+1:Nat):Int) by omega]
          have e:v*10^(m - i)=v*10*10^(m - (i+1)):=by
            rw [show m - i=(m - (i+1))+1 by omega,Nat.pow_succ,Nat.mul_assoc,Nat.mul_comm 10]
          rw [e]
          exact ih (i+1) (v*10) (by omega) (by omega) hm hlt
        · rw [df hlt]
          have hbig:UU≤v*10^(m - i):=by
            obtain ⟨j,hj⟩:∃ j,m - i=j+1:=⟨m - i - 1,by omega⟩
            rw [hj,Nat.pow_succ,Nat.mul_comm (10^j),← Nat.mul_assoc]
            exact Nat.le_trans (Nat.le_of_not_lt hlt) (Nat.le_mul_of_pos_right _ (Nat.pow_pos (by decide)))
          obtain ⟨n',rfl⟩:∃ n',n=n'+1:=⟨n - 1,by omega⟩
          rw [g_dec_wide_tens_l0.eq_2]
          refine ⟨false,x,wl (v*10),?_,(fun h=>by cases h),fun _=>hbig⟩
          simp only [cond_false,bd]
          split <;> rfl
    · rw [if_neg (by omega)]
      refine ⟨true,wh v,wl v,rfl,fun _=>?_,fun h=>by cases h⟩
      rw [show m - i=0 by omega];simp [hv]
theorem wide_tens (k:Nat) {v m:Nat} (hv:v<UU) (hm:m<1000000) (hk:m+2≤k):∃ (b:Bool) (x y:Int),g_dec_wide_tens k (wh v) (wl v) (m:Int)=some (b,x,y) ∧
    (b=true→v*10^m<UU∧x=wh (v*10^m)∧y=wl (v*10^m))∧(b=false→UU≤v*10^m):=by
  unfold g_dec_wide_tens
  obtain ⟨b,x,y,h1,h2,h3⟩:=wide_tens_l0 k (m:=m) k 0 v (Nat.zero_le _) (by omega) hm hv
  rw [show ((0:Nat):Int)=0 from rfl] at h1
  rw [h1]
  exact ⟨b,x,y,rfl,h2,h3⟩
def cmpN (v w:Nat):Int:=if v=w then 0 else if v<w then -1 else 1
theorem wide_cmp (k:Nat) {v w:Nat} (hv:v<UU) (hw:w<UU):g_dec_wide_cmp k (wh v) (wl v) (wh w) (wl w)=some (cmpN v w):=by
  unfold g_dec_wide_cmp cmpN
  simp only [Option.bind_some,bd,Bool.and_true]
  unfold wh wl
  have h1:=wh_lt hv
  have h2:=wh_lt hw
  by_cases h:v=w
  · subst h;simp
  · rw [if_neg h]
    have hne:(decide (((v / 18446744073709551616:Nat):Int)=((w / 18446744073709551616:Nat):Int))&&decide (((v%18446744073709551616:Nat):Int)=((w%18446744073709551616:Nat):Int)))=false:=by
      rw [Bool.and_eq_false_iff]
      by_cases h3:v / 18446744073709551616=w / 18446744073709551616
      · exact .inr (df (by omega))
      · exact .inl (df (by omega))
    rw [hne,bf]
    by_cases hlt:v<w
    · rw [if_pos hlt]
      by_cases h3:v / 18446744073709551616<w / 18446744073709551616
      · rw [if_pos (by omega)];rfl
      · rw [if_neg (by omega),if_pos (by omega),Option.bind_some,dt (by omega)];rfl
    · rw [if_neg hlt]
      by_cases h3:v / 18446744073709551616=w / 18446744073709551616
      · rw [if_neg (by omega),if_pos (by omega),Option.bind_some,df (by omega)];rfl
      · rw [if_neg (by omega),if_neg (by omega)];rfl
def sgn (neg:Bool) (v:Nat):Int:=if neg then -(v:Int) else (v:Int)
theorem sgn_mul {neg:Bool} {v w:Nat}:sgn neg (v*w)=sgn neg v*(w:Int):=by
  cases neg <;> simp [sgn,Int.neg_mul]
theorem sgn_zero {neg:Bool}:sgn neg 0=0:=by cases neg <;> simp [sgn]
theorem sgn_ne {neg:Bool} {v:Nat} (h:v≠0):sgn neg v≠0:=by cases neg <;> simp [sgn] <;> omega
theorem sgn_dvd {neg:Bool} {v:Nat}:(10:Int) ∣ sgn neg v↔v%10=0:=by
  cases neg <;> simp [sgn] <;> omega
theorem sgn_abs {neg:Bool} {v:Nat}:(sgn neg v).natAbs=v:=by cases neg <;> simp [sgn]
theorem tell_l0 (k:Nat) (hk:3≤k):∀ (d n v:Nat) (e:Int),d≤n→v≠0→v<UU→v<10^d → -4000≤e→e+d≤5000→∃ (w j:Nat),v=w*10^j∧w%10≠0∧j≤d ∧
    g_dec_num_tell_l0 k n ((v%10:Nat):Int) (wh v) (wl v) e (wh (v / 10)) (wl (v / 10))=some (wh w,wl w,e+j):=by
  intro d
  induction d with
  | zero=>intro n v e _ h0 _ h;simp at h;omega
  | succ d ih =>
    intro n v e hdn h0 hU h he1 he2
    obtain ⟨n,rfl⟩:∃ n',n=n'+1:=⟨n - 1,by omega⟩
    rw [g_dec_num_tell_l0.eq_2]
    simp only [bd]
    by_cases hr:v%10=0
    · rw [if_pos (by omega),wide_by k hk (v:=v / 10) (by unfold UU at *;omega),Option.bind_some]
      rw [Nat.pow_succ] at h
      obtain ⟨w,j,h1,h2,h3,h4⟩:=ih n (v / 10) (e+1) (by omega) (by omega) (by unfold UU at *;omega) (by omega) (by omega) (by omega)
      refine ⟨w,j+1,?_,h2,by omega,?_⟩
      · rw [Nat.pow_succ,← Nat.mul_assoc,← h1];omega
      · rw [wi (by omega) (by omega)]
        simp only
        rw [h4]
        congr 3
        omega
    · rw [if_neg (by omega)]
      exact ⟨v,0,by simp,hr,by omega,by simp⟩
def topN (neg:Bool):Nat:=if neg then 9223372036854775808 else 9223372036854775807
theorem in_range {neg:Bool} {w:Nat}:(-9223372036854775808≤sgn neg w∧sgn neg w≤9223372036854775807)↔w≤topN neg:=by
  cases neg <;> simp [sgn,topN] <;> omega
theorem neg_wrap {u:Nat} (h:u≤9223372036854775808):IntKind.wrap .i64 (0 - (IntKind.wrap .i64 (u:Int))) = -(u:Int):=by
  rw [IntKind.wrap_i64,IntKind.wrap_i64];omega
theorem num_tell (k:Nat) (hk:60≤k) {neg:Bool} {v:Nat} {e:Int} (hv:v<UU) (he1 : -4000≤e) (he2:e≤4000):∃ er c x:Int,g_dec_num_tell k neg (wh v) (wl v) e=some (er,c,x)∧Tells (·=val (sgn neg v) e) ((c,x),er):=by
  unfold g_dec_num_tell
  simp only [wide_zero,Option.bind_some,bd]
  by_cases h0:v=0
  · rw [if_pos ((wide_or hv).2 h0)]
    refine ⟨0,0,0,rfl,?_⟩
    rw [h0,sgn_zero]
    exact tells_zero
  · rw [if_neg (fun h=>h0 ((wide_or hv).1 h)),wide_by k (by omega) hv,Option.bind_some]
    obtain ⟨w,j,h1,h2,h3,h4⟩:=tell_l0 k (by omega) 39 k v e (by omega) h0 hv (Nat.lt_of_lt_of_le hv (by decide)) (by omega) (by omega)
    simp only
    rw [h4,Option.bind_some]
    have hwv:w≤v:=by rw [h1];exact Nat.le_mul_of_pos_right _ (Nat.pow_pos (by decide))
    have hw:w<UU:=Nat.lt_of_le_of_lt hwv hv
    have hw0:w≠0:=by rintro rfl;simp at h2
    have hval:val (sgn neg v) e=val (sgn neg w) (e+j):=by
      rw [h1,sgn_mul]
      have:((10^j:Nat):Int)=(10:Int)^j:=by simp
      rw [this,val_shift (by omega)]
    rw [hval]
    have hm:sgn neg w≠0:=sgn_ne hw0
    have hd:¬ (10:Int) ∣ sgn neg w:=fun h=>h2 (sgn_dvd.1 h)
    clear hval h1 h4 h0 hv hwv
    generalize he':e+(j:Int)=f at *
    have hf : -4000≤f∧f≤4039:=by omega
    clear he' he1 he2 h3
    -- what comes behind the size is known
    have top:((bif neg then some (IntKind.wrap .u64 (9223372036854775807+1)) else some 9223372036854775807):Option Int)=some ((topN neg:Nat):Int):=by
      cases neg
      · rfl
      · simp only [cond_true]
        have:IntKind.wrap .u64 (9223372036854775807+1)=9223372036854775808:=by decide
        rw [this];rfl
    have fin:∀ (u t:Nat) (x:Int),u=w*10^t→u<UU→x=(if f > 18 then 18 else f)→(t:Int)=f - x→∃ er c x':Int,
        (((bif (!true) then some true else if x < -18 then some true else if 0 < wh u then some true else some (decide (((topN neg : Nat) : Int) < wl u))) : Option Bool).bind fun x889 =>
          bif x889 then some (30,0,0) else (((bif neg then some (IntKind.wrap .i64 (0 - (IntKind.wrap .i64 (wl u)))) else some (IntKind.wrap .i64 (wl u))):Option Int).bind fun x897=>some (0,x897,x)))=some (er,c,x')∧Tells (·=val (sgn neg w) f) ((c,x'),er):=by
      intro u t x hu huU hx ht
      have hsu:sgn neg u=sgn neg w*10^(f - x).toNat:=by
        rw [hu,sgn_mul,show (f - x).toNat=t by omega];simp
      rw [Bool.not_true,bf]
      by_cases hx18:x < -18
      · rw [if_pos hx18,Option.bind_some,bt]
        refine ⟨30,0,0,rfl,tells_none hm hd (by omega) (.inl ?_)⟩
        split at hx <;> omega
      · rw [if_neg hx18]
        have hb:((if 0<wh u then some true else some (decide (((topN neg:Nat):Int)<wl u))):Option Bool)=some (decide (topN neg<u)):=by
          have htn:topN neg<18446744073709551616:=by unfold topN;split <;> decide
          unfold wh wl
          by_cases hh:u / 18446744073709551616=0
          · rw [if_neg (by omega)]
            congr 1
            rw [decide_eq_decide]
            omega
          · rw [if_pos (by omega),dt (by omega)]
        rw [hb,Option.bind_some]
        by_cases hu2:topN neg<u
        · rw [dt hu2,bt]
          refine ⟨30,0,0,rfl,?_⟩
          have hnr:¬ (-9223372036854775808≤sgn neg u∧sgn neg u≤9223372036854775807):=by rw [in_range];omega
          by_cases hf18:f > 18
          · rw [if_pos hf18] at hx
            subst hx
            rw [hsu] at hnr
            exact tells_none hm hd (by omega) (.inr hnr)
          · rw [if_neg hf18] at hx
            subst hx
            have ht0:t=0:=by omega
            subst ht0
            rw [hsu] at hnr
            refine tells_none hm hd (by omega) (.inr ?_)
            rw [show (x - 18).toNat=(x - x).toNat by omega]
            exact hnr
        · rw [df hu2,bf]
          have hr:=in_range.2 (Nat.le_of_not_lt hu2)
          have ht2:topN neg≤9223372036854775808:=by unfold topN;split <;> decide
          rw [wl_small (show u<18446744073709551616 by omega)]
          refine ⟨0,sgn neg u,x,?_,tells_some hm hd (by omega) ⟨hx,hsu,by omega,hr.1,hr.2⟩⟩
          cases neg
          · simp only [sgn,Bool.false_eq_true,if_false] at hr ⊢
            rw [bf,wi (n:=(u:Int)) (by omega) (by omega)];rfl
          · simp only [sgn,if_true,cond_true,Option.bind_some] at hr ⊢
            rw [neg_wrap (Nat.le_trans (Nat.le_of_not_lt hu2) ht2)]
    by_cases hf18:18<f
    · rw [if_pos hf18,wi (n:=f - 18) (by omega) (by omega)]
      obtain ⟨m,hm40⟩:∃ m:Nat,(if (40:Int)<f - 18 then (40:Int) else f - 18)=(m:Int):=⟨(if (40:Int)<f - 18 then (40:Int) else f - 18).toNat,by split <;> omega⟩
      have hm':(f≤58∧(m:Int)=f - 18)∨(58<f∧m=40):=by split at hm40 <;> omega
      rw [hm40]
      simp only [Option.bind_some]
      obtain ⟨b,x,y,t1,t2,t3⟩:=wide_tens k (m:=m) hw (by omega) (by omega)
      rw [t1]
      simp only [Option.bind_some]
      -- too great
      have big:UU≤w*10^(f - 18).toNat→Tells (·=val (sgn neg w) f) ((0,0),30):=by
        intro hb
        refine tells_none hm hd (by omega) (.inr ?_)
        have:sgn neg w*10^(f - 18).toNat=sgn neg (w*10^(f - 18).toNat):=by rw [sgn_mul];simp
        rw [this,in_range]
        unfold UU at hb
        have ht2:topN neg≤9223372036854775808:=by unfold topN;split <;> decide
        omega
      by_cases hf58:58<f
      · rw [if_pos hf58,Option.bind_some]
        simp only [top,Option.bind_some,Bool.not_false,cond_true]
        refine ⟨30,0,0,rfl,big ?_⟩
        have h41:10^41≤10^(f - 18).toNat:=Nat.pow_le_pow_right (by decide) (by omega)
        have:1*10^41≤w*10^(f - 18).toNat:=Nat.mul_le_mul (by omega) h41
        exact Nat.le_trans (by decide) this
      · rw [if_neg hf58,Option.bind_some]
        have hmf:(f - 18).toNat=m:=by omega
        cases b with
        | false =>
          simp only [top,Option.bind_some,Bool.not_false,cond_true]
          exact ⟨30,0,0,rfl,big (by rw [hmf];exact t3 rfl)⟩
        | true =>
          obtain ⟨u1,u2,u3⟩:=t2 rfl
          simp only [top,Option.bind_some,u2,u3]
          exact fin _ m 18 rfl u1 (by rw [if_pos hf18]) (by omega)
    · rw [if_neg hf18,Option.bind_some]
      simp only [top,Option.bind_some]
      exact fin w 0 f (by simp) hw (by rw [if_neg (by omega)]) (by omega)
theorem getD_ix {l:List Int} {i:Nat} (h:i<l.length):ix l (i:Int)=some (l.getD i 0):=by
  rw [ix_nat h,List.getD_eq_getElem?_getD,List.getElem?_eq_getElem h];rfl
theorem trim_l0 (k:Nat) {l:List Int} (hl:l.length≤100000):∀ (n m:Nat),m<n→m≤l.length→(∀ i,m≤i→i<l.length→l.getD i 0=0) →
    ∃ r:Nat,g_r9_trim_l0 k l n (m:Int)=some (r:Int)∧r≤l.length∧(∀ i,r≤i→i<l.length→l.getD i 0=0)∧(r≠0→l.getD (r - 1) 0≠0):=by
  intro n
  induction n with
  | zero=>intro m h;omega
  | succ n ih =>
    intro m h1 h2 h3
    rw [g_r9_trim_l0.eq_2]
    simp only [bd]
    by_cases hm:m=0
    · subst hm
      exact ⟨0,by simp,by omega,h3,fun h=>absurd rfl h⟩
    · obtain ⟨j,rfl⟩:∃ j,m=j+1:=⟨m - 1,by omega⟩
      rw [if_pos (by omega),show (((j+1:Nat):Int) - 1)=(j:Int) by omega,wi (by omega) (by omega),getD_ix (by omega)]
      simp only [Option.bind_some]
      by_cases hz:l.getD j 0=0
      · rw [dt hz,bt]
        refine ih j (by omega) (by omega) fun i hi hl=>?_
        by_cases hij:i=j
        · subst hij;exact hz
        · exact h3 i (by omega) hl
      · rw [df hz,bf]
        exact ⟨j+1,rfl,h2,h3,fun _=>hz⟩
theorem trim (k:Nat) {neg:Bool} {l:List Int} (hl:l.length≤100000) (hd:Dig l) (hk:l.length<k):g_r9_trim k neg l=some (neg&&decide (nval l≠0),digs (nval l)):=by
  unfold g_r9_trim
  obtain ⟨r,h1,h2,h3,h4⟩:=trim_l0 k hl k l.length (by omega) (Nat.le_refl _) (fun i hi hl=>by omega)
  rw [h1,Option.bind_some]
  have hn:=digs_nval hd h2 h3 h4
  simp only [bd]
  by_cases hr:r=0
  · subst hr
    rw [if_pos (by simp)]
    have:nval l=0:=by rw [← nval_digs (nval l),hn];rfl
    rw [this,digs_zero];simp
  · rw [if_neg (by omega),if_pos (by omega),if_pos (by simp;omega)]
    have hne:nval l≠0:=by
      intro h0
      rw [h0,digs_zero] at hn
      have:=congrArg List.length hn
      simp at this
      omega
    rw [hn]
    simp [hne]
theorem at_ (k:Nat) (neg:Bool) (l:List Int) (i:Nat):g_r9_at k neg l (i:Int)=some (l.getD i 0):=by
  unfold g_r9_at
  simp only [bd]
  rw [if_pos (by omega)]
  simp only [Option.bind_some]
  by_cases h:i<l.length
  · rw [dt (by omega),bt,getD_ix h];rfl
  · rw [df (by omega),bf,List.getD_eq_getElem?_getD,List.getElem?_eq_none (by omega)];rfl
theorem step10 (n i:Nat):n / 10^i=10*(n / 10^(i+1))+n / 10^i%10:=by
  rw [Nat.pow_succ,← Nat.div_div_eq_div_mul];omega
theorem gone10 {n i:Nat} (h:(digs n).length≤i):n / 10^i=0:=by
  rw [Nat.div_eq_of_lt]
  exact Nat.lt_of_lt_of_le digs_lt (Nat.pow_le_pow_right (by decide) h)
theorem sum_l0 (k:Nat) (p q:Bool) {a b:Nat} (ha:(digs a).length≤10000) (hb:(digs b).length≤10000):∀ (n i c:Nat) (acc:List Int),i≤(digs a).length+(digs b).length+1→(digs a).length+(digs b).length+1<n+i→c≤1→acc.length=i→Dig acc →
    nval acc+10^i*(c+a / 10^i+b / 10^i)=a+b→(i≤(digs a).length∨i≤(digs b).length∨c=0) →
    ∃ r,g_r9_sum_l0 k p (digs a) q (digs b) n (c:Int) (i:Int) acc=some r∧Dig r∧nval r=a+b∧r.length≤(digs a).length+(digs b).length+1:=by
  intro n
  induction n with
  | zero=>intro i c acc h1 h2;omega
  | succ n ih =>
    intro i c acc h1 h2 hc hlen hd hv hz
    rw [g_r9_sum_l0.eq_2]
    simp only [Option.bind_some,bd]
    by_cases hle:i≤(digs a).length∨i≤(digs b).length
    · have e1:(if (i:Int)≤(((digs a).length:Nat):Int) then some true else some (decide ((i:Int)≤(((digs b).length:Nat):Int))))=some true:=by
        rcases hle with h | h
        · rw [if_pos (by omega)]
        · rw [dt (by omega)];simp
      rw [e1,Option.bind_some,bt,at_,at_,digs_at,digs_at]
      simp only [Option.bind_some]
      have sa:=step10 a i
      have sb:=step10 b i
      have la:a / 10^i%10<10:=Nat.mod_lt _ (by decide)
      have lb:b / 10^i%10<10:=Nat.mod_lt _ (by decide)
      -- no digit behind
      have hz':i≤(digs a).length∧i+1≤(digs a).length∨i+1≤(digs b).length∨(a / 10^i%10+b / 10^i%10+c) / 10=0:=by
        by_cases h3:i+1≤(digs a).length
        · exact .inl ⟨by omega,h3⟩
        · by_cases h4:i+1≤(digs b).length
          · exact .inr (.inl h4)
          · have z1:=gone10 (n:=a) (i:=i) (by omega)
            have z2:=gone10 (n:=b) (i:=i) (by omega)
            rw [z1,z2]
            exact .inr (.inr (by omega))
      generalize a / 10^i%10=x at *
      generalize b / 10^i%10=y at *
      rw [← Int.natCast_add,wi (n:=((x+y:Nat):Int)) (by omega) (by omega),← Int.natCast_add,wi (n:=((x+y+c:Nat):Int)) (by omega) (by omega)]
      simp only [show (10:Int)=((10:Nat):Int) from rfl,tm,td]
      rw [if_pos (by simp;omega),wi (n:=(i:Int)+1) (by omega) (by omega),show ((i:Int)+1)=((i+1:Nat):Int) by omega,wi (n:=(((x+y+c) / 10:Nat):Int)) (by omega) (by omega)]
      refine ih (i+1) ((x+y+c) / 10) _ (by omega) (by omega) (by omega) (by simp [hlen]) (hd.app (Dig.cons (by omega) (by omega) Dig.nil)) ?_ (by omega)
      rw [nval_app,hlen]
      simp only [nval,Int.toNat_natCast,Nat.mul_zero,Nat.add_zero]
      rw [← hv,sa,sb,Nat.pow_succ,Nat.add_assoc,Nat.mul_assoc,← Nat.mul_add]
      congr 2
      omega
    · have e1:(if (i:Int)≤(((digs a).length:Nat):Int) then some true else some (decide ((i:Int)≤(((digs b).length:Nat):Int))))=some false:=by
        rw [if_neg (by omega),df (by omega)]
      rw [e1,Option.bind_some,bf]
      refine ⟨acc,rfl,hd,?_,by omega⟩
      have z1:=gone10 (n:=a) (i:=i) (by omega)
      have z2:=gone10 (n:=b) (i:=i) (by omega)
      have hc0:c=0:=by omega
      rw [z1,z2,hc0] at hv
      simpa using hv
theorem sum_ (k:Nat) (p q:Bool) {a b:Nat} (ha:(digs a).length≤10000) (hb:(digs b).length≤10000) (hk:30000≤k):∃ r,g_r9_sum k p (digs a) q (digs b)=some r∧Dig r∧nval r=a+b∧r.length≤(digs a).length+(digs b).length+1:=by
  unfold g_r9_sum
  obtain ⟨r,h1,h2,h3,h4⟩:=sum_l0 k p q ha hb k 0 0 [] (by omega) (by omega) (by omega) rfl Dig.nil (by simp [nval]) (by omega)
  rw [show ((0:Nat):Int)=0 from rfl] at h1
  rw [h1]
  exact ⟨r,rfl,h2,h3,h4⟩
theorem more_l0 (k:Nat) (p q:Bool) {a b:Nat} (ha:(digs a).length≤10000) (hb:(digs b).length≤10000):∀ (n i:Nat),i<n→i≤30000→a / 10^i=b / 10^i →
    (cmpN a b=0→g_r9_more_l0 k p (digs a) q (digs b) n ((i:Int) - 1)=some (Sum.inr ()))∧(cmpN a b≠0→g_r9_more_l0 k p (digs a) q (digs b) n ((i:Int) - 1)=some (Sum.inl (cmpN a b))):=by
  intro n
  induction n with
  | zero=>intro i h;omega
  | succ n ih =>
    intro i h1 h2 h3
    rw [g_r9_more_l0.eq_2]
    simp only [bd]
    by_cases h0:i=0
    · subst h0
      have:a=b:=by simpa using h3
      subst this
      rw [if_neg (by omega)]
      simp [cmpN]
    · obtain ⟨j,rfl⟩:∃ j,i=j+1:=⟨i - 1,by omega⟩
      rw [show ((j+1:Nat):Int) - 1=(j:Int) by omega,if_pos (by omega)]
      simp only [at_,digs_at,Option.bind_some]
      have sa:=step10 a j
      have sb:=step10 b j
      have hgt:∀ {x y:Nat},y / 10^j<x / 10^j→y<x:=fun h=>by
        apply Nat.lt_of_not_le
        intro hle
        have:=Nat.div_le_div_right (c:=10^j) hle
        omega
      by_cases hlt:b / 10^j%10<a / 10^j%10
      · rw [if_pos (by omega)]
        have:=hgt (x:=a) (y:=b) (by omega)
        have hc:cmpN a b=1:=by unfold cmpN;rw [if_neg (by omega),if_neg (by omega)]
        rw [hc];simp
      · rw [if_neg (by omega)]
        by_cases hlt2:a / 10^j%10<b / 10^j%10
        · rw [if_pos (by omega)]
          have:=hgt (x:=b) (y:=a) (by omega)
          have hc:cmpN a b = -1:=by unfold cmpN;rw [if_neg (by omega),if_pos (by omega)]
          rw [hc];simp
        · rw [if_neg (by omega),wi (by omega) (by omega)]
          exact ih j (by omega) (by omega) (by omega)
theorem more (k:Nat) (p q:Bool) {a b:Nat} (ha:(digs a).length≤10000) (hb:(digs b).length≤10000) (hk:30000≤k):g_r9_more k p (digs a) q (digs b)=some (cmpN a b):=by
  unfold g_r9_more
  rw [wi (by omega) (by omega),Option.bind_some]
  have z1:=gone10 (n:=a) (i:=(digs a).length+(digs b).length+1) (by omega)
  have z2:=gone10 (n:=b) (i:=(digs a).length+(digs b).length+1) (by omega)
  obtain ⟨h1,h2⟩:=more_l0 k p q ha hb k ((digs a).length+(digs b).length+1) (by omega) (by omega) (by rw [z1,z2])
  rw [show (((digs a).length+(digs b).length+1:Nat):Int) - 1=(((digs a).length:Nat):Int)+(((digs b).length:Nat):Int) by omega] at h1 h2
  by_cases h:cmpN a b=0
  · rw [h1 h,h];rfl
  · rw [h2 h];rfl
theorem less_l0 (k:Nat) (p q:Bool) {a b:Nat} (ha:(digs a).length≤10000) (hb:(digs b).length≤10000) (hab:b≤a):∀ (n i c:Nat) (acc:List Int),i≤(digs a).length→(digs a).length<n+i→c≤1→acc.length=i→Dig acc →
    nval acc+10^i*(a / 10^i)+b=a+10^i*(b / 10^i+c) →
    ∃ r,g_r9_less_l0 k p (digs a) q (digs b) n (c:Int) (i:Int) acc=some r∧Dig r∧nval r=a - b∧r.length≤(digs a).length:=by
  intro n
  induction n with
  | zero=>intro i c acc h1 h2;omega
  | succ n ih =>
    intro i c acc h1 h2 hc hlen hd hv
    rw [g_r9_less_l0.eq_2]
    simp only [Option.bind_some,bd]
    by_cases hle:i<(digs a).length
    · rw [if_pos (by omega),at_,at_,digs_at,digs_at]
      simp only [Option.bind_some]
      have sa:=step10 a i
      have sb:=step10 b i
      have la:a / 10^i%10<10:=Nat.mod_lt _ (by decide)
      have lb:b / 10^i%10<10:=Nat.mod_lt _ (by decide)
      rw [sa,sb] at hv
      generalize a / 10^i%10=x at *
      generalize b / 10^i%10=y at *
      rw [wi (n:=(x:Int) - y) (by omega) (by omega),wi (n:=(x:Int) - y - c) (by omega) (by omega)]
      obtain ⟨z,c',hz,hzc,hz9,hc'⟩:∃ z c':Nat,(if (x:Int) - y - c<0 then some ((1:Int),IntKind.wrap .i64 ((x:Int) - y - c+10)) else some (0,(x:Int) - y - c))=some ((c':Int),(z:Int))∧z+y+c=x+10*c'∧z≤9∧c'≤1:=by
        by_cases hn:(x:Int) - y - c<0
        · exact ⟨x+10 - y - c,1,by rw [if_pos hn,wi (by omega) (by omega)];congr 2;omega,by omega,by omega,by omega⟩
        · exact ⟨x - y - c,0,by rw [if_neg hn];congr 2;omega,by omega,by omega,by omega⟩
      rw [hz,Option.bind_some]
      simp only
      rw [if_pos (by simp;omega),wi (n:=(i:Int)+1) (by omega) (by omega),show ((i:Int)+1)=((i+1:Nat):Int) by omega]
      refine ih (i+1) c' _ (by omega) (by omega) hc' (by simp [hlen]) (hd.app (Dig.cons (by omega) (by omega) Dig.nil)) ?_
      rw [nval_app,hlen]
      simp only [nval,Int.toNat_natCast,Nat.mul_zero,Nat.add_zero]
      generalize a / 10^(i+1)=A at *
      generalize b / 10^(i+1)=B at *
      rw [Nat.pow_succ,Nat.mul_assoc,Nat.mul_assoc]
      have t1:10^i*(10*A+x)=10^i*(10*A)+10^i*x:=Nat.mul_add _ _ _
      have t2:10^i*(10*B+y+c)=10^i*(10*B)+10^i*y+10^i*c:=by rw [Nat.mul_add,Nat.mul_add]
      have t3:10^i*(10*(B+c'))=10^i*(10*B)+10^i*(10*c'):=by rw [Nat.mul_add 10,Nat.mul_add]
      have t4:10^i*(z+y+c)=10^i*(x+10*c'):=by rw [hzc]
      rw [Nat.mul_add,Nat.mul_add,Nat.mul_add] at t4
      rw [t1,t2] at hv
      rw [t3]
      omega
    · rw [if_neg (by omega)]
      refine ⟨acc,rfl,hd,?_,by omega⟩
      have hi:i=(digs a).length:=by omega
      have z1:=gone10 (n:=a) (i:=i) (by omega)
      have z2:b / 10^i=0:=by
        have:=Nat.div_le_div_right (c:=10^i) hab
        rw [z1] at this
        exact Nat.le_zero.1 this
      rw [z1,z2] at hv
      have hlt:=nval_lt hd
      rw [hlen] at hlt
      have hc0:c=0:=by
        rcases Nat.lt_or_ge 0 c with h | h
        · have:c=1:=by omega
          subst this
          simp at hv
          omega
        · omega
      rw [hc0] at hv
      simp at hv
      omega
theorem less_ (k:Nat) (p q:Bool) {a b:Nat} (ha:(digs a).length≤10000) (hb:(digs b).length≤10000) (hab:b≤a) (hk:30000≤k):∃ r,g_r9_less k p (digs a) q (digs b)=some r∧Dig r∧nval r=a - b∧r.length≤(digs a).length:=by
  unfold g_r9_less
  obtain ⟨r,h1,h2,h3,h4⟩:=less_l0 k p q ha hb hab k 0 0 [] (by omega) (by omega) (by omega) rfl Dig.nil (by simp [nval])
  rw [show ((0:Nat):Int)=0 from rfl] at h1
  rw [h1]
  exact ⟨r,rfl,h2,h3,h4⟩
theorem cmpN_nonneg {a b:Nat}:0≤cmpN a b↔b≤a:=by
  unfold cmpN
  by_cases h:a=b
  · rw [if_pos h];omega
  · rw [if_neg h]
    by_cases h2:a<b
    · rw [if_pos h2];omega
    · rw [if_neg h2];omega
abbrev nd (x:Int):Nat:=(digs x.natAbs).length
theorem plus (k:Nat) {x y:Int} (hx:nd x≤10000) (hy:nd y≤10000) (hk:30000≤k):g_r9_Plus k (decide (x<0)) (digs x.natAbs) (decide (y<0)) (digs y.natAbs)=some (decide (x+y<0),digs (x+y).natAbs):=by
  unfold g_r9_Plus
  have hx':(digs x.natAbs).length≤10000:=hx
  have hy':(digs y.natAbs).length≤10000:=hy
  by_cases hs:(decide (x<0))=(decide (y<0))
  · rw [hs,beq_self_eq_true,bt]
    obtain ⟨r,h1,h2,h3,h4⟩:=sum_ k (decide (y<0)) (decide (y<0)) hx hy hk
    rw [h1,Option.bind_some,trim k (by omega) h2 (by omega),h3]
    simp only [Option.bind_some]
    have hab:x.natAbs+y.natAbs=(x+y).natAbs:=by
      rw [decide_eq_decide] at hs
      omega
    rw [hab]
    congr 2
    rw [decide_eq_decide] at hs
    rw [Bool.eq_iff_iff]
    simp only [Bool.and_eq_true,decide_eq_true_eq]
    omega
  · have hb:((decide (x<0))==(decide (y<0)))=false:=by rw [beq_eq_false_iff_ne];exact hs
    rw [hb,bf,more k _ _ hx hy hk,Option.bind_some]
    simp only [bd]
    have hs':¬ (x<0↔y<0):=fun h=>hs (by rw [decide_eq_decide];exact h)
    by_cases hc:y.natAbs≤x.natAbs
    · have h0:0≤cmpN x.natAbs y.natAbs:=cmpN_nonneg.2 hc
      rw [if_pos h0]
      obtain ⟨r,h1,h2,h3,h4⟩:=less_ k (decide (x<0)) (decide (y<0)) hx hy hc hk
      rw [h1,Option.bind_some,trim k (by omega) h2 (by omega),h3]
      simp only [Option.bind_some]
      have hab:x.natAbs - y.natAbs=(x+y).natAbs:=by omega
      rw [hab]
      congr 2
      rw [Bool.eq_iff_iff]
      simp only [Bool.and_eq_true,decide_eq_true_eq]
      omega
    · have h0:¬ 0≤cmpN x.natAbs y.natAbs:=fun h=>hc (cmpN_nonneg.1 h)
      rw [if_neg h0]
      obtain ⟨r,h1,h2,h3,h4⟩:=less_ k (decide (y<0)) (decide (x<0)) hy hx (by omega) hk
      rw [h1,Option.bind_some,trim k (by omega) h2 (by omega),h3]
      simp only [Option.bind_some]
      have hab:y.natAbs - x.natAbs=(x+y).natAbs:=by omega
      rw [hab]
      congr 2
      rw [Bool.eq_iff_iff]
      simp only [Bool.and_eq_true,decide_eq_true_eq]
      omega
theorem shift (k:Nat) {x:Int} {n:Nat} (hx:nd x≤10000) (hn:n≤10000) (hk:30000≤k):g_r9_Shift k (decide (x<0)) (digs x.natAbs) (n:Int)=some (decide (x*10^n<0),digs (x*10^n).natAbs):=by
  unfold g_r9_Shift
  have hx':(digs x.natAbs).length≤10000:=hx
  simp only [bd]
  rw [if_pos (by omega),if_pos (by simp;omega)]
  have hd:Dig (List.replicate (Int.toNat (n:Int)) (0:Int)++digs x.natAbs):=by
    refine Dig.app (fun d hd=>?_) (digs_dig _)
    rw [List.eq_of_mem_replicate hd];omega
  have hv:nval (List.replicate (Int.toNat (n:Int)) (0:Int)++digs x.natAbs)=(x*10^n).natAbs:=by
    have h0:∀ m,nval (List.replicate m (0:Int))=0:=by
      intro m
      induction m with
      | zero=>rfl
      | succ m ih=>rw [List.replicate_succ,nval,ih];rfl
    rw [nval_app,h0,nval_digs,Int.natAbs_mul]
    simp [Int.natAbs_pow,Nat.mul_comm]
  rw [trim k (by simp;omega) hd (by simp;omega),hv]
  simp only [Option.bind_some]
  congr 2
  have hp:=p10 n
  rw [Bool.eq_iff_iff]
  simp only [Bool.and_eq_true,decide_eq_true_eq]
  by_cases h0:x<0
  · have:x*10^n<0:=Int.mul_neg_of_neg_of_pos h0 hp
    omega
  · have:0≤x*10^n:=Int.mul_nonneg (show 0≤x by omega) (Int.le_of_lt hp)
    omega
theorem minus_trim (k:Nat) {x:Int} (hx:nd x≤10000) (hk:30000≤k):g_r9_trim k (!(decide (x<0))) (digs x.natAbs)=some (decide (-x<0),digs (-x).natAbs):=by
  have hx':(digs x.natAbs).length≤10000:=hx
  rw [trim k (by omega) (digs_dig _) (by omega),nval_digs,Int.natAbs_neg]
  congr 2
  rw [Bool.eq_iff_iff]
  simp only [Bool.and_eq_true,decide_eq_true_eq,Bool.not_eq_true',decide_eq_false_iff_not]
  omega
theorem of_l0 (k:Nat):∀ (d n:Nat) (c:Int) (acc:List Int),d≤n→c.natAbs<10^d → -9223372036854775808≤c→c≤9223372036854775807→acc.length+d≤1000 →
    g_r9_Of_l0 k (n+1) c acc=some (acc++digs c.natAbs):=by
  intro d
  induction d with
  | zero =>
    intro n c acc h1 h2 _ _ _
    have:c=0:=by simp at h2;omega
    subst this
    rw [g_r9_Of_l0.eq_2]
    simp [digs_zero]
  | succ d ih =>
    intro n c acc h1 h2 h3 h4 h5
    rw [g_r9_Of_l0.eq_2]
    by_cases h0:c=0
    · subst h0;simp [digs_zero]
    · rw [df h0]
      simp only [Bool.not_false,cond_true,bd]
      rw [Nat.pow_succ] at h2
      have hm:(if Int.tmod c 10<0 then ((some (IntKind.wrap .i64 (0 - Int.tmod c 10))).bind fun x1439=>some x1439) else some (Int.tmod c 10))=some ((c.natAbs%10:Nat):Int):=by
        have ht:=Int.tmod_eq_emod (a:=c) (b:=10)
        by_cases hneg:Int.tmod c 10<0
        · rw [if_pos hneg,Option.bind_some]
          rw [wi (by split at ht <;> omega) (by split at ht <;> omega)]
          congr 1
          split at ht <;> omega
        · rw [if_neg hneg]
          congr 1
          split at ht <;> omega
      rw [hm]
      simp only [Option.bind_some]
      have hq:=Int.tdiv_eq_ediv (a:=c) (b:=10)
      rw [show Int.sign 10=1 from rfl] at hq
      have hq2:(Int.tdiv c 10).natAbs=c.natAbs / 10 ∧ -9223372036854775808≤Int.tdiv c 10∧Int.tdiv c 10≤9223372036854775807:=by split at hq <;> (rw [hq];omega)
      rw [if_pos (by simp;omega),wi hq2.2.1 hq2.2.2]
      obtain ⟨n,rfl⟩:∃ n',n=n'+1:=⟨n - 1,by omega⟩
      rw [ih n _ _ (by omega) (by omega) hq2.2.1 hq2.2.2 (by simp;omega),hq2.1,digs_pos (n:=c.natAbs) (by omega)]
      simp
theorem of_ (k:Nat) (hk:30≤k) {c:Int} (h1 : -9223372036854775808≤c) (h2:c≤9223372036854775807):g_r9_Of k c=some (digs c.natAbs):=by
  unfold g_r9_Of
  obtain ⟨k',rfl⟩:∃ k',k=k'+1:=⟨k - 1,by omega⟩
  rw [of_l0 (k'+1) 20 k' c [] (by omega) (by omega) h1 h2 (by simp)]
  simp
theorem nd_i64 {c:Int} (h1 : -9223372036854775808≤c) (h2:c≤9223372036854775807):nd c≤19:=digs_len_le (by omega)
theorem cmpN_lt {a b:Nat}:cmpN a b<0↔a<b:=by
  unfold cmpN
  by_cases h:a=b
  · rw [if_pos h];omega
  · rw [if_neg h]
    by_cases h2:a<b
    · rw [if_pos h2];omega
    · rw [if_neg h2];omega
theorem cmpN_zero {a b:Nat}:cmpN a b=0↔a=b:=by
  unfold cmpN
  by_cases h:a=b
  · rw [if_pos h];omega
  · rw [if_neg h]
    by_cases h2:a<b
    · rw [if_pos h2];omega
    · rw [if_neg h2];omega
theorem fits (k:Nat) {neg:Bool} {n:Nat} (hn:(digs n).length≤10000) (hk:30000≤k):g_r9_fits k neg (digs n)=some (decide (n≤topN neg)):=by
  unfold g_r9_fits
  rw [of_ k (by omega) (by decide) (by decide),Option.bind_some,show (-9223372036854775808:Int).natAbs=9223372036854775808 from rfl,more k _ _ hn (by have:=digs_len_le (n:=9223372036854775808) (m:=19) (by decide);omega) hk,Option.bind_some]
  simp only [bd]
  have h1:=@cmpN_lt n 9223372036854775808
  have h2:=@cmpN_zero n 9223372036854775808
  by_cases ha:n<9223372036854775808
  · rw [if_pos (h1.2 ha),Option.bind_some]
    congr 1
    refine (dt ?_).symm
    unfold topN;split <;> omega
  · rw [if_neg (fun h=>ha (h1.1 h))]
    by_cases hb:n=9223372036854775808
    · rw [if_pos (h2.2 hb),Option.bind_some]
      congr 1
      unfold topN
      cases neg
      · refine (df ?_).symm;simp;omega
      · refine (dt ?_).symm;simp;omega
    · rw [if_neg (fun h=>hb (h2.1 h)),Option.bind_some]
      congr 1
      refine (df ?_).symm
      unfold topN;split <;> omega
theorem trim_drop (k:Nat) {neg:Bool} {n:Nat} (h0:n≠0) (h10:n%10=0) (hn:(digs n).length≤10000) (hk:30000≤k) :
    g_r9_trim k neg (List.drop (Int.toNat 1) (List.take (Int.toNat (((digs n).length:Nat):Int)) (digs n)))=some (neg,digs (n / 10)):=by
  have e:List.drop (Int.toNat 1) (List.take (Int.toNat (((digs n).length:Nat):Int)) (digs n))=digs (n / 10):=by
    rw [Int.toNat_natCast,List.take_length]
    conv=>lhs;rw [digs_pos h0]
    rfl
  have hl:(digs (n / 10)).length≤10000:=by
    have:=congrArg List.length (digs_pos h0)
    simp at this
    omega
  rw [e,trim k (by omega) (digs_dig _) (by omega),nval_digs]
  have:decide (n / 10≠0)=true:=dt (by omega)
  rw [this,Bool.and_true]
theorem first_digit {n:Nat} (h:n≠0):ix (digs n) 0=some ((n%10:Nat):Int):=by
  rw [digs_pos h];rfl
theorem len_pos {n:Nat} (h:n≠0):0<(digs n).length:=by
  rw [digs_pos h];simp
theorem Tell_l0 (k:Nat) {neg:Bool} (hk:30000≤k):∀ (d m n:Nat) (e:Int),d≤m→n≠0→(digs n).length≤d→d≤10000 → -10000≤e→e+d≤20000→∃ w j:Nat,n=w*10^j∧w%10≠0∧j≤d∧(digs w).length≤d ∧
    g_r9_Tell_l0 k m e neg (digs n)=some (e+j,neg,digs w):=by
  intro d
  induction d with
  | zero=>intro m n e _ h0 h;have:=len_pos h0;omega
  | succ d ih =>
    intro m n e hm h0 hl hd he1 he2
    obtain ⟨m,rfl⟩:∃ m',m=m'+1:=⟨m - 1,by omega⟩
    rw [g_r9_Tell_l0.eq_2]
    simp only [Option.bind_some]
    have hp:=len_pos h0
    rw [dt (by omega),bt,first_digit h0]
    simp only [Option.bind_some]
    by_cases h10:n%10=0
    · rw [dt (by omega),bt]
      simp only [bd]
      rw [if_pos (by omega),trim_drop k h0 h10 (by omega) hk,Option.bind_some,wi (by omega) (by omega)]
      have hl':(digs (n / 10)).length+1=(digs n).length:=by
        have:=congrArg List.length (digs_pos h0)
        simp at this
        omega
      obtain ⟨w,j,h1,h2,h3,h4,h5⟩:=ih m (n / 10) (e+1) (by omega) (by omega) (by omega) (by omega) (by omega) (by omega)
      refine ⟨w,j+1,?_,h2,by omega,by omega,?_⟩
      · rw [Nat.pow_succ,← Nat.mul_assoc,← h1];omega
      · simp only
        rw [h5]
        congr 2
        omega
    · rw [df (by omega),bf]
      exact ⟨n,0,by simp,h10,by omega,hl,by simp⟩
theorem len10 {w:Nat} (h:w≠0):(digs (w*10)).length=(digs w).length+1:=by
  rw [digs_pos (by omega),List.length_cons,Nat.mul_div_cancel _ (by decide)]
theorem Tell_l1 (k:Nat) (hk:30000≤k):∀ (m:Nat) (x:Int) (f:Int),x≠0→1≤m→30<m+nd x→nd x≤9000 → -10000≤f→f≤30000→∃ t:Nat,((t:Int)≤f - 18∨t=0)∧(18<f - t→30≤nd (x*10^t))∧nd (x*10^t)≤9030 ∧
    g_r9_Tell_l1 k m f (decide (x<0)) (digs x.natAbs)=some (f - t,decide (x*10^t<0),digs (x*10^t).natAbs):=by
  intro m
  induction m with
  | zero=>intro x f h0 h;omega
  | succ m ih =>
    intro x f h0 _ h hl hf1 hf2
    rw [g_r9_Tell_l1.eq_2]
    simp only [bd,Option.bind_some]
    have stop:∃ t:Nat,t=0:=⟨0,rfl⟩
    by_cases hf:18<f
    · rw [if_pos hf,Option.bind_some]
      by_cases h30:(digs x.natAbs).length<30
      · rw [dt (by omega),bt]
        have hs:=shift k (x:=x) (n:=1) (by omega) (by omega) hk
        rw [show ((1:Nat):Int)=1 from rfl] at hs
        rw [hs,Option.bind_some,wi (by omega) (by omega)]
        have h10:(x*10^1).natAbs=x.natAbs*10:=by rw [Int.natAbs_mul];rfl
        have hnd:nd (x*10^1)=nd x+1:=by
          unfold nd
          rw [h10,len10 (by omega)]
        have hlt:nd x<30:=h30
        obtain ⟨t,t1,t2,t3,t4⟩:=ih (x*10^1) (f - 1) (by intro h;rw [Int.mul_eq_zero] at h;omega) (by omega) (by omega) (by omega) (by omega) (by omega)
        rw [Int.mul_assoc,← Int.pow_add,Nat.add_comm 1 t] at t2 t3 t4
        refine ⟨t+1,by omega,fun h=>t2 (by omega),t3,?_⟩
        simp only
        rw [t4]
        congr 2
        omega
      · rw [df (by omega),bf]
        have:nd x=(digs x.natAbs).length:=rfl
        exact ⟨0,.inr rfl,fun _=>by simp;omega,by simp;omega,by simp⟩
    · rw [if_neg hf,Option.bind_some,bf]
      exact ⟨0,.inr rfl,fun h=>by omega,by simp;omega,by simp⟩
theorem Tell_l2 (k:Nat) {x:Int} (h1 : -9223372036854775808≤x) (h2:x≤9223372036854775807):∀ (m i:Nat) (c:Int),i<m→i≤(digs x.natAbs).length→c.natAbs=x.natAbs / 10^i→(x<0→c≤0)→(0≤x→0≤c) →
    g_r9_Tell_l2 k (decide (x<0)) (digs x.natAbs) m c ((i:Int) - 1)=some x:=by
  intro m
  induction m with
  | zero=>intro i c h;omega
  | succ m ih =>
    intro i c hm hi hc hn hp
    have hlen:(digs x.natAbs).length≤19:=nd_i64 h1 h2
    rw [g_r9_Tell_l2.eq_2]
    simp only [bd,Option.bind_some]
    by_cases h0:i=0
    · subst h0
      rw [if_neg (by omega)]
      simp only [Nat.pow_zero,Nat.div_one] at hc
      congr 1
      omega
    · obtain ⟨j,rfl⟩:∃ j,i=j+1:=⟨i - 1,by omega⟩
      rw [show ((j+1:Nat):Int) - 1=(j:Int) by omega,if_pos (by omega)]
      have hx:∀ z:Int,((ix (digs x.natAbs) (j:Int)).bind fun x3917=>(some z:Option Int))=(ix (digs x.natAbs) (j:Int)).bind fun _=>some z:=fun _=>rfl
      have sa:=step10 x.natAbs j
      have la:x.natAbs / 10^j%10<10:=Nat.mod_lt _ (by decide)
      have hle:x.natAbs / 10^j≤x.natAbs:=Nat.div_le_self _ _
      have hdg:=@digs_at x.natAbs j
      rw [← hc] at sa
      generalize x.natAbs / 10^j%10=y at *
      have hj:j<(digs x.natAbs).length:=by omega
      · rw [getD_ix hj,hdg]
        simp only [Option.bind_some]
        by_cases hx0:x<0
        · rw [if_pos hx0,wi (n:=c*10) (by omega) (by omega),wi (by omega) (by omega),Option.bind_some,wi (by omega) (by omega)]
          have:=ih j (c*10 - y) (by omega) (by omega) (by omega) (by omega) (by omega)
          exact this
        · rw [if_neg hx0,wi (n:=c*10) (by omega) (by omega),wi (by omega) (by omega),Option.bind_some,wi (by omega) (by omega)]
          have:=ih j (c*10+y) (by omega) (by omega) (by omega) (by omega) (by omega)
          exact this
theorem Tell (k:Nat) {x e:Int} (hx:nd x≤9000) (he1 : -4000≤e) (he2:e≤4000) (hk:30000≤k):∃ er c y:Int,g_r9_Tell k (decide (x<0)) (digs x.natAbs) e=some (er,c,y)∧Tells (·=val x e) ((c,y),er):=by
  unfold g_r9_Tell
  simp only [Option.bind_some,bd]
  have hx':(digs x.natAbs).length≤9000:=hx
  by_cases h0:x=0
  · subst h0
    refine ⟨0,0,0,?_,tells_zero⟩
    rw [show (0:Int).natAbs=0 from rfl,digs_zero];rfl
  · have hn0:x.natAbs≠0:=by omega
    have hp:=len_pos hn0
    rw [if_neg (by omega)]
    obtain ⟨w,j,h1,h2,h3,h4,h5⟩:=Tell_l0 k (neg:=decide (x<0)) hk (digs x.natAbs).length k x.natAbs e (by omega) hn0 (Nat.le_refl _) (by omega) (by omega) (by omega)
    -- the number without noughts
    obtain ⟨y,hy⟩:∃ y:Int,y=sgn (decide (x<0)) w:=⟨_,rfl⟩
    have hyw:y.natAbs=w:=by rw [hy,sgn_abs]
    have hw0:w≠0:=by rintro rfl;simp at h2
    have hy0:y≠0:=by omega
    have hxy:x=y*10^j:=by
      have:x=sgn (decide (x<0)) x.natAbs:=by unfold sgn;by_cases h:x<0 <;> simp [h] <;> omega
      rw [this,h1,sgn_mul,← hy]
      simp
    have hneg:decide (x<0)=decide (y<0):=by
      rw [hy]
      rw [decide_eq_decide]
      by_cases h:x<0
      · simp [h,sgn];omega
      · simp [h,sgn]
    have hd:¬ (10:Int) ∣ y:=by rw [hy,sgn_dvd];exact h2
    have hval:val x e=val y (e+j):=by
      conv=>lhs;rw [hxy]
      exact val_shift (by omega)
    rw [hval]
    by_cases h60:60<e
    · rw [if_pos h60]
      refine ⟨30,0,0,rfl,tells_none hy0 hd (by omega) (.inr ?_)⟩
      have:(10:Nat)^20≤10^(e+j - 18).toNat:=Nat.pow_le_pow_right (by decide) (by omega)
      have h6:(y*10^(e+j - 18).toNat).natAbs=w*10^(e+j - 18).toNat:=by rw [Int.natAbs_mul,hyw,Int.natAbs_pow];rfl
      have h7:1*10^20≤w*10^(e+j - 18).toNat:=Nat.mul_le_mul (by omega) this
      rw [← h6] at h7
      omega
    · rw [if_neg h60,h5,Option.bind_some]
      simp only
      clear hy
      subst hyw
      rw [hneg]
      obtain ⟨t,t1,t2,t3,t4⟩:=Tell_l1 k hk k y (e+j) hy0 (by omega) (by omega) (by unfold nd;omega) (by omega) (by omega)
      rw [t4,Option.bind_some]
      simp only
      generalize hz:y*10^t=z at *
      have hz0:z≠0:=by rw [← hz];intro h;rcases Int.mul_eq_zero.1 h with h | h;exact hy0 h;exact absurd h (Int.ne_of_gt (p10 _))
      have h18none:18<e+j - t→Tells (·=val y (e+j)) ((0,0),30):=by
        intro h18
        refine tells_none hy0 hd (by omega) (.inr ?_)
        have h30:=digs_ge (n:=z.natAbs) (by omega)
        have hlen:=t2 h18
        have h29:(10:Nat)^29≤z.natAbs:=Nat.le_trans (Nat.pow_le_pow_right (by decide) (by unfold nd at hlen;omega)) h30
        have hsplit:y*10^(e+j - 18).toNat=z*10^(e+j - 18 - t).toNat:=by
          rw [← hz,Int.mul_assoc,← Int.pow_add]
          congr 2
          omega
        have h6:(z*10^(e+j - 18 - t).toNat).natAbs=z.natAbs*10^(e+j - 18 - t).toNat:=by rw [Int.natAbs_mul,Int.natAbs_pow];rfl
        have h7:10^29*1≤z.natAbs*10^(e+j - 18 - t).toNat:=Nat.mul_le_mul h29 (Nat.pow_pos (by decide))
        rw [← h6] at h7
        rw [hsplit]
        omega
      by_cases h18:18<e+j - t
      · rw [if_pos h18,Option.bind_some,bt]
        exact ⟨30,0,0,rfl,h18none h18⟩
      · rw [if_neg h18]
        by_cases hm18:e+j - t < -18
        · rw [if_pos hm18,Option.bind_some,bt]
          exact ⟨30,0,0,rfl,tells_none hy0 hd (by omega) (.inl (by omega))⟩
        · rw [if_neg hm18]
          have hzl:(digs z.natAbs).length≤9030:=t3
          rw [fits k (by omega) hk,Option.bind_some,Option.bind_some]
          have hzx:e+j - t=(if e+j > 18 then 18 else e+j):=by split <;> omega
          have hzt:z=y*10^(e+j - (e+j - t)).toNat:=by rw [← hz];congr 2;omega
          have hzs:z=sgn (decide (z<0)) z.natAbs:=by unfold sgn;by_cases h:z<0 <;> simp [h] <;> omega
          by_cases hfit:z.natAbs≤topN (decide (z<0))
          · rw [dt hfit,Bool.not_true,bf]
            have hr:=in_range.2 hfit
            rw [← hzs] at hr
            have hzlen:=nd_i64 hr.1 hr.2
            rw [wi (by omega) (by omega)]
            have:=Tell_l2 k hr.1 hr.2 k (digs z.natAbs).length 0 (by omega) (Nat.le_refl _) (by rw [gone10 (Nat.le_refl _)];rfl) (by omega) (by omega)
            rw [this,Option.bind_some]
            exact ⟨0,z,e+j - t,rfl,tells_some hy0 hd (by omega) ⟨hzx,hzt,by omega,hr.1,hr.2⟩⟩
          · rw [df hfit,Bool.not_false,bt]
            refine ⟨30,0,0,rfl,?_⟩
            have hnr:=fun h=>hfit (in_range.1 h)
            rw [← hzs] at hnr
            refine tells_none hy0 hd (by omega) ?_
            by_cases he18:e+j > 18
            · rw [if_pos he18] at hzx
              rw [hzx] at hzt
              rw [← hzt]
              exact .inr hnr
            · rw [if_neg he18] at hzx
              refine .inr ?_
              rw [hzx] at hzt
              rw [show (e+j - 18).toNat=(e+j - (e+j)).toNat by omega,← hzt]
              exact hnr
theorem num (k:Nat) {c e:Int} (hk:30≤k) (h1 : -9223372036854775808≤c) (h2:c≤9223372036854775807):g_r9_num k c e=some (decide (-18≤e∧e≤18),digs c.natAbs):=by
  unfold g_r9_num
  rw [of_ k hk h1 h2]
  simp only [Option.bind_some,bd]
  by_cases h : -18≤e
  · rw [if_pos h]
    simp only [Option.bind_some]
    congr 2
    rw [decide_eq_decide];omega
  · rw [if_neg h,df (by omega)];rfl
theorem two_l0 (k:Nat) (y:Int) (hk:30000≤k):∀ (t m:Nat) (x e:Int),t<m→nd x+t≤9000 → -10000≤y→y≤10000→(e - y).toNat=t →
    g_r9_two_l0 k y m (decide (x<0)) (digs x.natAbs) e=some (decide (x*10^t<0),digs (x*10^t).natAbs,e - t):=by
  intro t
  induction t with
  | zero =>
    intro m x e hm hx _ _ ht
    obtain ⟨m,rfl⟩:∃ m',m=m'+1:=⟨m - 1,by omega⟩
    rw [g_r9_two_l0.eq_2]
    simp only [bd]
    rw [if_neg (by omega)]
    simp
  | succ t ih =>
    intro m x e hm hx hy1 hy2 ht
    obtain ⟨m,rfl⟩:∃ m',m=m'+1:=⟨m - 1,by omega⟩
    rw [g_r9_two_l0.eq_2]
    simp only [bd]
    have hs:=shift k (x:=x) (n:=1) (by omega) (by omega) hk
    rw [show ((1:Nat):Int)=1 from rfl] at hs
    rw [if_pos (by omega),hs,Option.bind_some,wi (by omega) (by omega)]
    have h10:(x*10^1).natAbs=x.natAbs*10:=by rw [Int.natAbs_mul];rfl
    have hnd:nd (x*10^1)≤nd x+1:=by
      unfold nd
      rw [h10]
      by_cases hz:x.natAbs=0
      · rw [hz];simp [digs_zero]
      · rw [len10 hz];omega
    simp only
    rw [ih m (x*10^1) (e - 1) (by omega) (by omega) hy1 hy2 (by omega),Int.mul_assoc,← Int.pow_add,Nat.add_comm 1 t]
    congr 3
    omega
theorem two_l1 (k:Nat) (y:Int) (hk:30000≤k):∀ (t m:Nat) (x e:Int),t<m→nd x+t≤9000 → -10000≤y→y≤10000→(e - y).toNat=t →
    g_r9_two_l1 k y m (decide (x<0)) (digs x.natAbs) e=some (decide (x*10^t<0),digs (x*10^t).natAbs,e - t):=by
  intro t
  induction t with
  | zero =>
    intro m x e hm hx _ _ ht
    obtain ⟨m,rfl⟩:∃ m',m=m'+1:=⟨m - 1,by omega⟩
    rw [g_r9_two_l1.eq_2]
    simp only [bd]
    rw [if_neg (by omega)]
    simp
  | succ t ih =>
    intro m x e hm hx hy1 hy2 ht
    obtain ⟨m,rfl⟩:∃ m',m=m'+1:=⟨m - 1,by omega⟩
    rw [g_r9_two_l1.eq_2]
    simp only [bd]
    have hs:=shift k (x:=x) (n:=1) (by omega) (by omega) hk
    rw [show ((1:Nat):Int)=1 from rfl] at hs
    rw [if_pos (by omega),hs,Option.bind_some,wi (by omega) (by omega)]
    have h10:(x*10^1).natAbs=x.natAbs*10:=by rw [Int.natAbs_mul];rfl
    have hnd:nd (x*10^1)≤nd x+1:=by
      unfold nd
      rw [h10]
      by_cases hz:x.natAbs=0
      · rw [hz];simp [digs_zero]
      · rw [len10 hz];omega
    simp only
    rw [ih m (x*10^1) (e - 1) (by omega) (by omega) hy1 hy2 (by omega),Int.mul_assoc,← Int.pow_add,Nat.add_comm 1 t]
    congr 3
    omega
theorem two (k:Nat) {c e d f:Int} (hk:30000≤k) (h1 : -9223372036854775808≤c) (h2:c≤9223372036854775807) (h3 : -9223372036854775808≤d) (h4:d≤9223372036854775807) :
    if (-18≤e∧e≤18)∧(-18≤f∧f≤18) then ∃ s t:Nat,s≤36∧t≤36∧e - s=f - t∧g_r9_two k c e d f=some (true,decide (c*10^s<0),digs (c*10^s).natAbs,e - s,decide (d*10^t<0),digs (d*10^t).natAbs,e - s)
    else ∃ r,g_r9_two k c e d f=some (false,r):=by
  unfold g_r9_two
  rw [num k (by omega) h1 h2,num k (by omega) h3 h4]
  simp only [Option.bind_some]
  have n1:=nd_i64 h1 h2
  have n2:=nd_i64 h3 h4
  by_cases he : -18≤e∧e≤18
  · by_cases hf : -18≤f∧f≤18
    · rw [if_pos ⟨he,hf⟩,dt he,dt hf]
      simp only [Bool.not_true,cond_false,Option.bind_some]
      refine ⟨(e - f).toNat,(f - (e - (e - f).toNat)).toNat,by omega,by omega,by omega,?_⟩
      rw [two_l0 k f hk (e - f).toNat k c e (by omega) (by omega) (by omega) (by omega) rfl,Option.bind_some]
      simp only
      rw [two_l1 k _ hk (f - (e - (e - f).toNat)).toNat k d f (by omega) (by omega) (by omega) (by omega) rfl,Option.bind_some]
      simp only
      rw [show f - (((f - (e - (e - f).toNat)).toNat:Nat):Int)=e - (((e - f).toNat:Nat):Int) by omega]
    · rw [if_neg (fun h=>hf h.2),dt he,df hf]
      exact ⟨_,rfl⟩
  · rw [if_neg (fun h=>he h.1),df he]
    exact ⟨_,rfl⟩
theorem canon_exists {c:Int} (hc:I64 c):∀ (n:Nat) (e:Int),(18 - e).toNat=n→Rng e→∀ c,I64 c→∃ c' x',Canon c' x'∧val c' x'=val c e:=by
  intro n
  induction n with
  | zero =>
    intro e h he c hc
    unfold Rng at he
    unfold I64 at hc
    by_cases h0:c=0
    · exact ⟨0,0,.inl ⟨rfl,rfl⟩,by rw [h0,val_zero,val_zero]⟩
    · exact ⟨c,e,.inr ⟨h0,he.1,he.2,hc.1,hc.2,.inl (by omega)⟩,rfl⟩
  | succ n ih =>
    intro e h he c hc
    unfold Rng at he
    unfold I64 at hc
    by_cases h0:c=0
    · exact ⟨0,0,.inl ⟨rfl,rfl⟩,by rw [h0,val_zero,val_zero]⟩
    · by_cases hd:(10:Int) ∣ c
      · obtain ⟨c1,rfl⟩:=hd
        obtain ⟨c',x',h1,h2⟩:=ih (e+1) (by omega) (by unfold Rng;omega) c1 (by unfold I64;omega)
        refine ⟨c',x',h1,?_⟩
        have:=val_shift (m:=c1) (e:=e) (j:=1) (by omega)
        rw [h2,Int.mul_comm 10 c1]
        exact this.symm
      · exact ⟨c,e,.inr ⟨h0,he.1,he.2,hc.1,hc.2,.inr hd⟩,rfl⟩
theorem size_eq (k:Nat) {c:Int} (hc:I64 c):g_dec_size k c=some ((c.natAbs:Nat):Int):=by
  unfold g_dec_size
  unfold I64 at hc
  simp only [bd,Option.bind_some]
  by_cases h:c<0
  · rw [if_pos h]
    have:IntKind.wrap .u64 (0 - IntKind.wrap .u64 c)=((c.natAbs:Nat):Int):=by rw [wUi,wUi];omega
    rw [this]
  · rw [if_neg h]
    have:IntKind.wrap .u64 c=((c.natAbs:Nat):Int):=by rw [wUi];omega
    rw [this]
theorem of_eq (k:Nat) {c e:Int} (hc:I64 c):g_dec_of k c e=some ((c.natAbs:Nat):Int):=by
  unfold g_dec_of;rw [size_eq k hc];rfl
theorem ranged_eq (k:Nat) (hk:3≤k) {c e:Int}:g_dec_ranged k ([(⟨c,e⟩:S_api_Dec)]:List S_api_Dec)=some (decide (Rng e)):=by
  unfold g_dec_ranged
  obtain ⟨k,rfl⟩:∃ k',k=k'+2:=⟨k - 2,by omega⟩
  rw [g_dec_ranged_l0.eq_2]
  have e1:ix ([(⟨c,e⟩:S_api_Dec)]:List S_api_Dec) 0=some ⟨c,e⟩:=rfl
  have e2:IntKind.wrap .i64 (0+1)=1:=by decide
  have e3:decide ((0:Int)<(([(⟨c,e⟩:S_api_Dec)].length:Nat):Int))=true:=rfl
  have e4:decide ((1:Int)<(([(⟨c,e⟩:S_api_Dec)].length:Nat):Int))=false:=rfl
  rw [Option.bind_some,e3,bt,e1,Option.bind_some,e2]
  simp only [bd]
  by_cases h1:e < -18
  · rw [if_pos h1,df (show ¬ Rng e by unfold Rng;omega)];rfl
  · rw [if_neg h1]
    by_cases h2:18<e
    · rw [dt h2,df (show ¬ Rng e by unfold Rng;omega)];rfl
    · rw [df h2,dt (show Rng e by unfold Rng;omega),Option.bind_some,bf,g_dec_ranged_l0.eq_2,Option.bind_some,e4];rfl
theorem sgn_self (c:Int):sgn (decide (c<0)) c.natAbs=c:=by
  unfold sgn;by_cases h:c<0 <;> simp [h] <;> omega
theorem abs_lt {c:Int} (hc:I64 c):c.natAbs<18446744073709551616:=by unfold I64 at hc;omega
theorem tell_abs (k:Nat) (hk:60≤k) {neg:Bool} {n:Nat} {e:Int} (hn:n<18446744073709551616) (he : -4000≤e∧e≤4000):∃ er c x:Int,g_dec_num_tell k neg 0 (n:Int) e=some (er,c,x)∧Tells (·=val (sgn neg n) e) ((c,x),er):=by
  have:=num_tell k hk (neg:=neg) (v:=n) (e:=e) (by unfold UU;omega) he.1 he.2
  rwa [wh_small hn,wl_small hn] at this
theorem tell_ok (k:Nat) (hk:60≤k) {c e:Int} (hc:I64 c) (he:Rng e):∃ c' e':Int,g_dec_num_tell k (decide (c<0)) 0 ((c.natAbs:Nat):Int) e=some (0,c',e')∧Canon c' e'∧val c' e'=val c e:=by
  obtain ⟨er,c',x',h1,h2⟩:=tell_abs k hk (neg:=decide (c<0)) (n:=c.natAbs) (e:=e) (abs_lt hc) (by unfold Rng at he;omega)
  rw [sgn_self] at h2
  rcases h2 with ⟨h3,h4,h5⟩ | ⟨h3,h4⟩
  · simp only at h3 h4 h5
    exact ⟨c',x',by rw [h1,h3],h4,h5⟩
  · obtain ⟨c2,x2,h5,h6⟩:=canon_exists hc _ e rfl he c hc
    exact absurd h6 (h4 _ _ h5)
theorem clean1 (k:Nat) (hk:60≤k) {c e:Int} (hc:I64 c):if Rng e then ∃ c' e':Int,g_dec_clean__b k c e=some (true,c',e')∧Canon c' e'∧val c' e'=val c e else ∃ r,g_dec_clean__b k c e=some (false,r):=by
  unfold g_dec_clean__b
  rw [ranged_eq k (by omega),Option.bind_some]
  by_cases he:Rng e
  · rw [if_pos he,dt he]
    obtain ⟨c',e',h1,h2,h3⟩:=tell_ok k hk hc he
    rw [of_eq k hc]
    simp only [Bool.not_true,cond_false,Option.bind_some]
    rw [h1]
    exact ⟨c',e',rfl,h2,h3⟩
  · rw [if_neg he,df he]
    exact ⟨_,rfl⟩
theorem clean (k:Nat) (hk:60≤k) {c e d f:Int} (hc:I64 c) (hd:I64 d):if Rng e∧Rng f then ∃ c' e' d' f':Int,g_dec_clean k c e d f=some (true,c',e',d',f')∧Canon c' e'∧val c' e'=val c e∧Canon d' f'∧val d' f'=val d f
    else ∃ r,g_dec_clean k c e d f=some (false,r):=by
  unfold g_dec_clean
  rw [ranged_eq k (by omega),Option.bind_some]
  by_cases he:Rng e
  · rw [dt he]
    obtain ⟨c',e',h1,h2,h3⟩:=tell_ok k hk hc he
    rw [of_eq k hc]
    simp only [Bool.not_true,cond_false,Option.bind_some]
    rw [h1,Option.bind_some]
    simp only
    rw [ranged_eq k (by omega),Option.bind_some]
    by_cases hf:Rng f
    · rw [if_pos ⟨he,hf⟩,dt hf]
      obtain ⟨d',f',h4,h5,h6⟩:=tell_ok k hk hd hf
      rw [of_eq k hd]
      simp only [Bool.not_true,cond_false,Option.bind_some]
      rw [h4]
      exact ⟨c',e',d',f',rfl,h2,h3,h5,h6⟩
    · rw [if_neg (fun h=>hf h.2),df hf]
      exact ⟨_,rfl⟩
  · rw [if_neg (fun h=>he h.1),df he]
    exact ⟨_,rfl⟩
structure Even (c e d f:Int) (X Y:Nat) (g:Int):Prop where
  hx:X<UU
  hy:Y<UU
  hg:Rng g
  vx:val (sgn (decide (c<0)) X) g=val c e
  vy:val (sgn (decide (d<0)) Y) g=val d f
  last:(X<18446744073709551616∧Y<18446744073709551616)∨(X%10=0∧Y%10≠0)∨(X%10≠0∧Y%10=0)
theorem none_big {m g:Int} (hd:¬ (10:Int) ∣ m) (hm:18446744073709551616≤m.natAbs) (hg:Rng g):∀ c x,Canon c x→¬ val c x=val m g:=by
  intro c x hc e
  unfold Rng at hg
  obtain ⟨h1,h2,h3,h4,h5⟩:=(canon_iff (by omega) hd (by omega)).1 ⟨hc,e⟩
  rw [if_neg (by omega)] at h1
  subst h1
  simp at h2
  omega
theorem lastd {c x:Int} (h:Canon c x) (h0:c≠0) (hx:x<18):¬ (10:Int) ∣ c:=by
  rcases h with ⟨h1,_⟩ | ⟨_,_,_,_,_,h1 | h1⟩
  · exact absurd h1 h0
  · omega
  · exact h1
theorem abs_dvd {c:Int}:c.natAbs%10=0↔(10:Int) ∣ c:=by omega
theorem even (k:Nat) (hk:60≤k) {c e d f:Int} (hc:Canon c e) (hd:Canon d f) :
    (∃ X Y g,g_dec_even k c e d f=some (true,wh X,wl X,g,wh Y,wl Y,g)∧Even c e d f X Y g) ∨
    (∃ r,g_dec_even k c e d f=some (false,r)∧e≠f∧c≠0∧d≠0∧(f<e→UU≤c.natAbs*10^(e - f).toNat)∧(e<f→UU≤d.natAbs*10^(f - e).toNat)∧∀ s:Int,(s=1∨s = -1)→∀ c' x',Canon c' x'→¬ val c' x'=val c e+s*val d f):=by
  unfold g_dec_even
  have ac:=abs_lt hc.i64
  have ad:=abs_lt hd.i64
  have re:=hc.rg
  have rf:=hd.rg
  have re':=hc.rng
  have rf':=hd.rng
  rw [of_eq k hc.i64,of_eq k hd.i64]
  simp only [Option.bind_some,wide_zero,bd]
  have vc:val (sgn (decide (c<0)) c.natAbs) e=val c e:=by rw [sgn_self]
  have vd:val (sgn (decide (d<0)) d.natAbs) f=val d f:=by rw [sgn_self]
  have small:∀ {n:Nat},n<18446744073709551616→n<UU:=fun h=>by unfold UU;omega
  by_cases h0:c=0
  · rw [if_pos ((wide_or_small ac).2 (by omega)),Option.bind_some]
    refine .inl ⟨c.natAbs,d.natAbs,f,?_,⟨small ac,small ad,rf,?_,vd,.inl ⟨ac,ad⟩⟩⟩
    · rw [wh_small ac,wl_small ac,wh_small ad,wl_small ad]
    · rw [h0];simp [sgn,val_zero]
  · rw [if_neg (fun h=>h0 (by have:=(wide_or_small ac).1 h;omega))]
    by_cases h1:d=0
    · rw [if_pos ((wide_or_small ad).2 (by omega)),Option.bind_some]
      refine .inl ⟨c.natAbs,d.natAbs,e,?_,⟨small ac,small ad,re,vc,?_,.inl ⟨ac,ad⟩⟩⟩
      · rw [wh_small ac,wl_small ac,wh_small ad,wl_small ad]
      · rw [h1];simp [sgn,val_zero]
    · rw [if_neg (fun h=>h1 (by have:=(wide_or_small ad).1 h;omega))]
      by_cases h2:f<e
      · rw [if_pos h2,wi (by omega) (by omega)]
        obtain ⟨m,hm⟩:∃ m:Nat,e - f=(m:Int):=⟨(e - f).toNat,by omega⟩
        obtain ⟨b,x,y,t1,t2,t3⟩:=wide_tens k (v:=c.natAbs) (m:=m) (small ac) (by omega) (by omega)
        rw [wh_small ac,wl_small ac] at t1
        rw [hm,t1]
        simp only [Option.bind_some]
        have vx:val (sgn (decide (c<0)) (c.natAbs*10^m)) f=val c e:=by
          rw [sgn_mul,sgn_self,show ((10^m:Nat):Int)=(10:Int)^m by simp,val_shift (by omega),show f+(m:Int)=e by omega]
        have hdd:¬ (10:Int) ∣ d:=lastd hd h1 (by omega)
        have hdd':d.natAbs%10≠0:=fun h=>hdd (abs_dvd.1 h)
        have h10:(c.natAbs*10^m)%10=0:=by
          obtain ⟨m',rfl⟩:∃ m',m=m'+1:=⟨m - 1,by omega⟩
          rw [Nat.pow_succ,← Nat.mul_assoc,Nat.mul_mod_left]
        cases b with
        | true =>
          obtain ⟨u1,u2,u3⟩:=t2 rfl
          refine .inl ⟨c.natAbs*10^m,d.natAbs,f,?_,⟨u1,small ad,rf,vx,vd,.inr (.inl ⟨h10,hdd'⟩)⟩⟩
          rw [u2,u3,wh_small ad,wl_small ad]
        | false =>
          have hbig:=t3 rfl
          refine .inr ⟨_,rfl,by omega,h0,h1,fun _=>by first | exact hbig | (rw [hm];exact hbig),fun h=>by omega,?_⟩
          intro s hs c' x' hcx he
          rw [← vx,← vd,sgn_self] at he
          have e2:val (sgn (decide (c<0)) (c.natAbs*10^m)) f+s*val d f=val (sgn (decide (c<0)) (c.natAbs*10^m)+s*d) f:=by
            rw [val_add];unfold val;rw [Int.mul_assoc]
          rw [e2] at he
          have hX:=@sgn_abs (decide (c<0)) (c.natAbs*10^m)
          have hX10:=(@sgn_dvd (decide (c<0)) (c.natAbs*10^m)).2 h10
          generalize sgn (decide (c<0)) (c.natAbs*10^m)=w at *
          unfold UU at hbig
          refine none_big (m:=w+s*d) ?_ ?_ rf _ _ hcx he
          · rcases hs with rfl | rfl <;> omega
          · rcases hs with rfl | rfl <;> omega
      · rw [if_neg h2]
        by_cases h3:e<f
        · rw [if_pos h3,wi (by omega) (by omega)]
          obtain ⟨m,hm⟩:∃ m:Nat,f - e=(m:Int):=⟨(f - e).toNat,by omega⟩
          obtain ⟨b,x,y,t1,t2,t3⟩:=wide_tens k (v:=d.natAbs) (m:=m) (small ad) (by omega) (by omega)
          rw [wh_small ad,wl_small ad] at t1
          rw [hm,t1]
          simp only [Option.bind_some]
          have vy:val (sgn (decide (d<0)) (d.natAbs*10^m)) e=val d f:=by
            rw [sgn_mul,sgn_self,show ((10^m:Nat):Int)=(10:Int)^m by simp,val_shift (by omega),show e+(m:Int)=f by omega]
          have hcc:¬ (10:Int) ∣ c:=lastd hc h0 (by omega)
          have hcc':c.natAbs%10≠0:=fun h=>hcc (abs_dvd.1 h)
          have h10:(d.natAbs*10^m)%10=0:=by
            obtain ⟨m',rfl⟩:∃ m',m=m'+1:=⟨m - 1,by omega⟩
            rw [Nat.pow_succ,← Nat.mul_assoc,Nat.mul_mod_left]
          cases b with
          | true =>
            obtain ⟨u1,u2,u3⟩:=t2 rfl
            refine .inl ⟨c.natAbs,d.natAbs*10^m,e,?_,⟨small ac,u1,re,vc,vy,.inr (.inr ⟨hcc',h10⟩)⟩⟩
            rw [u2,u3,wh_small ac,wl_small ac]
          | false =>
            have hbig:=t3 rfl
            refine .inr ⟨_,rfl,by omega,h0,h1,fun h=>by omega,fun _=>by first | exact hbig | (rw [hm];exact hbig),?_⟩
            intro s hs c' x' hcx he
            rw [← vy,← vc,sgn_self] at he
            have e2:val c e+s*val (sgn (decide (d<0)) (d.natAbs*10^m)) e=val (c+s*sgn (decide (d<0)) (d.natAbs*10^m)) e:=by
              rw [val_add];unfold val;rw [Int.mul_assoc]
            rw [e2] at he
            have hX:=@sgn_abs (decide (d<0)) (d.natAbs*10^m)
            have hX10:=(@sgn_dvd (decide (d<0)) (d.natAbs*10^m)).2 h10
            generalize sgn (decide (d<0)) (d.natAbs*10^m)=w at *
            unfold UU at hbig
            refine none_big (m:=c+s*w) ?_ ?_ re _ _ hcx he
            · rcases hs with rfl | rfl <;> omega
            · rcases hs with rfl | rfl <;> omega
        · rw [if_neg h3,Option.bind_some]
          have hef:e=f:=by omega
          subst hef
          exact .inl ⟨c.natAbs,d.natAbs,e,by rw [wh_small ac,wl_small ac,wh_small ad,wl_small ad],⟨small ac,small ad,re,vc,vd,.inl ⟨ac,ad⟩⟩⟩
def Sp (R:Prop) [Decidable R] (p:Int→Prop) (g:Option (Int × Int × Int)):Prop:=if R then ∃ er c x:Int,g=some (er,c,x)∧Tells p ((c,x),er) else g=some (1,0,0)
theorem sgn_not {neg:Bool} {X:Nat}:sgn (!neg) X = - sgn neg X:=by cases neg <;> simp [sgn]
theorem dec_Neg (k:Nat) (hk:60≤k) {c e:Int} (hc:I64 c):Sp (Rng e) (· = - val c e) (g_dec_Neg k c e):=by
  unfold Sp g_dec_Neg
  rw [ranged_eq k (by omega),Option.bind_some]
  by_cases hR:Rng e
  · rw [if_pos hR,dt hR,of_eq k hc]
    simp only [Option.bind_some,Bool.not_true,cond_false]
    obtain ⟨er,c',x,t1,t2⟩:=tell_abs k hk (neg:=!decide (c<0)) (n:=c.natAbs) (e:=e) (abs_lt hc) (by unfold Rng at hR;omega)
    rw [t1]
    refine ⟨er,c',x,rfl,?_⟩
    rw [sgn_not,sgn_self,val_neg] at t2
    exact t2
  · rw [if_neg hR,df hR];rfl
theorem nd_mul {x:Int} {n:Nat}:nd (x*10^n)≤nd x+n:=by
  unfold nd
  refine digs_len_le ?_
  rw [Int.natAbs_mul,Int.natAbs_pow,Nat.pow_add]
  exact Nat.mul_lt_mul_of_pos_right digs_lt (Nat.pow_pos (by decide))
theorem nd_add {x y:Int}:nd (x+y)≤nd x+nd y+1:=by
  unfold nd
  refine digs_len_le ?_
  have h1:=digs_lt (n:=x.natAbs)
  have h2:=digs_lt (n:=y.natAbs)
  have h3:10^(digs x.natAbs).length≤10^((digs x.natAbs).length+(digs y.natAbs).length):=Nat.pow_le_pow_right (by decide) (by omega)
  have h4:10^(digs y.natAbs).length≤10^((digs x.natAbs).length+(digs y.natAbs).length):=Nat.pow_le_pow_right (by decide) (by omega)
  rw [Nat.pow_succ]
  omega
theorem nd_neg {x:Int}:nd (-x)=nd x:=by unfold nd;rw [Int.natAbs_neg]
theorem ref_Sub (k:Nat) (hk:30000≤k) {c e d f:Int} (hc:I64 c) (hd:I64 d):Sp (Rng e∧Rng f) (·=val c e - val d f) (g_r9_Sub k c e d f):=by
  unfold Sp g_r9_Sub g_r9_Minus
  have h2:=two k (e:=e) (f:=f) hk hc.1 hc.2 hd.1 hd.2
  by_cases hR:Rng e∧Rng f
  · have hR':=hR
    unfold Rng at hR'
    rw [if_pos hR'] at h2
    rw [if_pos hR]
    obtain ⟨s,t,hs,ht,hst,h3⟩:=h2
    rw [h3]
    simp only [Option.bind_some,Bool.not_true,cond_false]
    have n1:=nd_i64 hc.1 hc.2
    have n2:=nd_i64 hd.1 hd.2
    have m1:=@nd_mul c s
    have m2:=@nd_mul d t
    have m4:=@nd_neg (d*10^t)
    have m3:=@nd_add (c*10^s) (-(d*10^t))
    rw [minus_trim k (by omega) hk]
    simp only [Option.bind_some]
    rw [plus k (by omega) (by omega) hk]
    simp only [Option.bind_some]
    obtain ⟨er,c2,x,t1,t2⟩:=Tell k (x:=c*10^s + -(d*10^t)) (e:=e - s) (by omega) (by omega) (by omega) hk
    rw [t1]
    refine ⟨er,c2,x,rfl,?_⟩
    rw [val_add,val_neg,val_shift (by omega),show e - (s:Int)+s=e by omega,hst,val_shift (by omega),show f - (t:Int)+t=f by omega,← Int.sub_eq_add_neg] at t2
    exact t2
  · have hR':=hR
    unfold Rng at hR'
    rw [if_neg hR'] at h2
    rw [if_neg hR]
    obtain ⟨r,h3⟩:=h2
    rw [h3];rfl
theorem ref_Neg (k:Nat) (hk:30000≤k) {c e:Int} (hc:I64 c):Sp (Rng e) (· = - val c e) (g_r9_Neg k c e):=by
  have h:=ref_Sub k hk (c:=0) (e:=0) (d:=c) (f:=e) (by unfold I64;omega) hc
  unfold g_r9_Neg
  unfold Sp at *
  by_cases hR:Rng e
  · rw [if_pos ⟨by unfold Rng;omega,hR⟩] at h
    rw [if_pos hR]
    obtain ⟨er,c2,x,t1,t2⟩:=h
    rw [t1]
    refine ⟨er,c2,x,rfl,?_⟩
    rw [val_zero,Int.zero_sub] at t2
    exact t2
  · rw [if_neg (fun h=>hR h.2)] at h
    rw [if_neg hR,h];rfl
theorem i64_I {c:Int} (h:(Lit.int .i64 c).wf=true):I64 c:=i64_wf h
theorem val_abs {c e:Int}:(val c e).natAbs=c.natAbs*10^(e+500000).toNat:=by unfold val;rw [Int.natAbs_mul,Int.natAbs_pow];rfl
end Go.Proofs.YtcmmdlgjinankaaGreatDoor.W
