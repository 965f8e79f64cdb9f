/- Texts joined: part 6 of what LValBins stands on. -/
import Derived.Test.YthpcgknknpjpdaaGreatDoorSValBinse
namespace Go.Proofs.YthpcgknknpjpdaaGreatDoor.W
open Go Go.Q Go.Proofs
set_option linter.unusedVariables false
set_option linter.unusedSimpArgs false
set_option maxRecDepth 100000
set_option maxHeartbeats 4000000
theorem s_dec_Neg (k:Nat) (x1:Int) (x2:Int) (x3:Int) (x4:Int) (x5:Int) (H:g_dec_Neg k x1 x2=some (x3,x4,x5)):Go.Q.Spec Tryz.prog 73 0 [.agg [.lit (.int .i64 x1),.lit (.int .i64 x2)]] Mem.nil (fun o M=>o=.ret (.tup [.agg [.lit (.int .i64 x4),.lit (.int .i64 x5)],.lit (.int .i64 x3)])∧M=(Mem.nil.push (.cells 23 [.lit (.int .i64 x4),.lit (.int .i64 x5)]))):=by
 unfold g_dec_Neg at H;refine bo Tryz.func73 [(23,2)] [.cell 2 23,.tmp 3] 20 fun cx hnp=>?_;(iterate 5 refine sp ?_);refine WP.seq ?_;(iterate 2 refine sp ?_);refine WPL.d (d_buildSlice (ds:=([(⟨x1,x2⟩:S_api_Dec)]:List S_api_Dec)) (R:=rdS_api_Dec) li130 rfl rfl rfl rfl rfl (JoinRows.cons (l:=[.lit (.int .i64 x1),.lit (.int .i64 x2)]) (Joins.via (Joins.cons Joins.sc (Joins.cons Joins.sc Joins.unit))) rfl JoinRows.nil) rfl rfl) rfl ?_;obtain ⟨x6,h1,H⟩:=bnd H;refine WPL.c (rc [] [] 3 [2] (s_dec_ranged k ([(⟨x1,x2⟩:S_api_Dec)]:List S_api_Dec) x6 h1)) rfl ?_;(iterate 2 refine sp ?_);refine cd H (fun hb1 H=>?_) fun hb1 H=>?_
 · (iterate 6 refine sp ?_);obtain ⟨rfl,rfl,rfl⟩:=j3 H;exact W.now (Then.r (mb [1]))
 (iterate 5 refine sp ?_);obtain ⟨x7,h2,H⟩:=bnd H;refine WPL.c (rc [] [3] 4 [] (s_dec_of k x1 x2 x7 h2)) rfl ?_;(iterate 12 refine sp ?_);obtain ⟨⟨x8,x9,x10⟩,h3,H⟩:=bnd H;refine WPL.c (rc [] [5] 6 [] (s_dec_num_tell k (!(decide (x1<0))) 0 x7 x2 x8 x9 x10 h3)) rfl ?_;(iterate 6 refine sp ?_);obtain ⟨rfl,rfl,rfl⟩:=j3 H;exact W.now (mb [1])
theorem s_val_Neg (k:Nat) (x1:Int) (x2:Int) (x3:Int) (x4:ByteArray) (x5:Bool) (x6:Int) (x7:Int) (x8:Int) (x9:Int) (x10:ByteArray) (x11:Bool) (x12:Int) (H:g_val_Neg k x1 x2 x3 x4 x5 x6=some (x7,x8,x9,x10,x11,x12)):Go.Q.Spec Tryz.prog 31 0 [.agg [.lit (.int .i64 x1),.lit (.int .i64 x2),.lit (.int .i64 x3),.lit (.string x4),.lit (.bool x5),.lit (.int .i64 x6)]] Mem.nil (fun o M=>o=.ret (.agg [.lit (.int .i64 x7),.lit (.int .i64 x8),.lit (.int .i64 x9),.lit (.string x10),.lit (.bool x11),.lit (.int .i64 x12)])∧M=(Mem.nil.push (.cells 29 [.lit (.int .i64 x7),.lit (.int .i64 x8),.lit (.int .i64 x9),.lit (.string x10),.lit (.bool x11),.lit (.int .i64 x12)]))):=by
 unfold g_val_Neg at H;refine bo Tryz.func31 [(29,6)] [.cell 2 29] 15 fun cx hnp=>?_;(iterate 6 refine sp ?_);obtain ⟨⟨x13,x14,x15,x16,x17,x18⟩,h1,H⟩:=bnd H;refine WPL.c (rc [] [2] 3 [] (s_val_Num k x1 x2 x3 x4 x5 x6 x13 x14 x15 x16 x17 x18 h1)) rfl ?_;(iterate 2 refine sp ?_);refine WP.seq ?_;(iterate 5 refine sp ?_);refine cd H (fun hb1 H=>?_) fun hb1 H=>?_
 · (iterate 5 refine sp ?_);obtain ⟨rfl,rfl,rfl,rfl,rfl,rfl⟩:=j6 H;exact W.now (Then.r (mb [1]))
 (iterate 6 refine sp ?_);obtain ⟨⟨x19,x20,x21⟩,h2,H⟩:=bnd H;refine WPL.c (rc [] [3] 4 [] (s_dec_Neg k x14 x15 x19 x20 x21 h2)) rfl ?_;(iterate 2 refine sp ?_);obtain ⟨⟨x22,x23,x24,x25⟩,h3,H⟩:=bnd H;refine WPL.c (rc [] [4] 5 [] (s_val_Of k x20 x21 x19 x22 x23 x24 x25 h3)) rfl ?_;(iterate 3 refine sp ?_);obtain ⟨rfl,rfl,rfl,rfl,rfl,rfl⟩:=j6 H;exact W.now (mb [1])
theorem s_r9_Neg (k:Nat) (x1:Int) (x2:Int) (x3:Int) (x4:Int) (x5:Int) (H:g_r9_Neg k x1 x2=some (x3,x4,x5)):Go.Q.Spec Tryz.prog 74 0 [.agg [.lit (.int .i64 x1),.lit (.int .i64 x2)]] Mem.nil (fun o M=>o=.ret (.tup [.agg [.lit (.int .i64 x4),.lit (.int .i64 x5)],.lit (.int .i64 x3)])∧M=(Mem.nil.push (.cells 23 [.lit (.int .i64 x4),.lit (.int .i64 x5)]))):=by
 unfold g_r9_Neg at H;refine bo Tryz.func74 [(23,2)] [.cell 2 23,.tmp 3] 9 fun cx hnp=>?_;(iterate 8 refine sp ?_);obtain ⟨⟨x6,x7,x8⟩,h1,H⟩:=bnd H;refine WPL.c (rc [] [2] 3 [] (s_r9_Sub k 0 0 x1 x2 x6 x7 x8 h1)) rfl ?_;(iterate 6 refine sp ?_);obtain ⟨rfl,rfl,rfl⟩:=j3 H;exact W.now (mb [1])
theorem s_rv_Neg (k:Nat) (x1:Int) (x2:Int) (x3:Int) (x4:ByteArray) (x5:Bool) (x6:Int) (x7:Int) (x8:Int) (x9:Int) (x10:ByteArray) (x11:Bool) (x12:Int) (H:g_rv_Neg k x1 x2 x3 x4 x5 x6=some (x7,x8,x9,x10,x11,x12)):Go.Q.Spec Tryz.prog 32 0 [.agg [.lit (.int .i64 x1),.lit (.int .i64 x2),.lit (.int .i64 x3),.lit (.string x4),.lit (.bool x5),.lit (.int .i64 x6)]] Mem.nil (fun o M=>o=.ret (.agg [.lit (.int .i64 x7),.lit (.int .i64 x8),.lit (.int .i64 x9),.lit (.string x10),.lit (.bool x11),.lit (.int .i64 x12)])∧M=(Mem.nil.push (.cells 29 [.lit (.int .i64 x7),.lit (.int .i64 x8),.lit (.int .i64 x9),.lit (.string x10),.lit (.bool x11),.lit (.int .i64 x12)]))):=by
 unfold g_rv_Neg at H;refine bo Tryz.func32 [(29,6)] [.cell 2 29] 16 fun cx hnp=>?_;(iterate 6 refine sp ?_);obtain ⟨⟨x13,x14,x15,x16,x17,x18⟩,h1,H⟩:=bnd H;refine WPL.c (rc [] [2] 3 [] (s_rv_Num k x1 x2 x3 x4 x5 x6 x13 x14 x15 x16 x17 x18 h1)) rfl ?_;(iterate 3 refine sp ?_);refine WP.seq ?_;(iterate 5 refine sp ?_);refine cd H (fun hb1 H=>?_) fun hb1 H=>?_
 · (iterate 5 refine sp ?_);obtain ⟨rfl,rfl,rfl,rfl,rfl,rfl⟩:=j6 H;exact W.now (Then.r (mb [1]))
 (iterate 6 refine sp ?_);obtain ⟨⟨x19,x20,x21⟩,h2,H⟩:=bnd H;refine WPL.c (rc [] [4] 5 [] (s_r9_Neg k x14 x15 x19 x20 x21 h2)) rfl ?_;(iterate 2 refine sp ?_);obtain ⟨⟨x22,x23,x24,x25⟩,h3,H⟩:=bnd H;refine WPL.c (rc [] [5] 6 [] (s_rv_Of k x20 x21 x19 x22 x23 x24 x25 h3)) rfl ?_;(iterate 3 refine sp ?_);obtain ⟨rfl,rfl,rfl,rfl,rfl,rfl⟩:=j6 H;exact W.now (mb [1])
theorem s_val_Pct (k:Nat) (x1:Int) (x2:Int) (x3:Int) (x4:ByteArray) (x5:Bool) (x6:Int) (x7:Int) (x8:Int) (x9:Int) (x10:ByteArray) (x11:Bool) (x12:Int) (H:g_val_Pct k x1 x2 x3 x4 x5 x6=some (x7,x8,x9,x10,x11,x12)):Go.Q.Spec Tryz.prog 33 0 [.agg [.lit (.int .i64 x1),.lit (.int .i64 x2),.lit (.int .i64 x3),.lit (.string x4),.lit (.bool x5),.lit (.int .i64 x6)]] Mem.nil (fun o M=>o=.ret (.agg [.lit (.int .i64 x7),.lit (.int .i64 x8),.lit (.int .i64 x9),.lit (.string x10),.lit (.bool x11),.lit (.int .i64 x12)])∧M=(Mem.nil.push (.cells 29 [.lit (.int .i64 x7),.lit (.int .i64 x8),.lit (.int .i64 x9),.lit (.string x10),.lit (.bool x11),.lit (.int .i64 x12)]))):=by
 unfold g_val_Pct at H;refine bo Tryz.func33 [(29,6)] [.cell 2 29] 16 fun cx hnp=>?_;(iterate 6 refine sp ?_);obtain ⟨⟨x13,x14,x15,x16,x17,x18⟩,h1,H⟩:=bnd H;refine WPL.c (rc [] [2] 3 [] (s_val_Num k x1 x2 x3 x4 x5 x6 x13 x14 x15 x16 x17 x18 h1)) rfl ?_;(iterate 2 refine sp ?_);refine WP.seq ?_;(iterate 5 refine sp ?_);refine cd H (fun hb1 H=>?_) fun hb1 H=>?_
 · (iterate 5 refine sp ?_);obtain ⟨rfl,rfl,rfl,rfl,rfl,rfl⟩:=j6 H;exact W.now (Then.r (mb [1]))
 (iterate 7 refine sp ?_);obtain ⟨⟨x19,x20,x21⟩,h2,H⟩:=bnd H;refine WPL.c (rc [] [3] 4 [] (s_dec_Mul k x14 x15 1 (-2) x19 x20 x21 h2)) rfl ?_;(iterate 2 refine sp ?_);obtain ⟨⟨x22,x23,x24,x25⟩,h3,H⟩:=bnd H;refine WPL.c (rc [] [4] 5 [] (s_val_Of k x20 x21 x19 x22 x23 x24 x25 h3)) rfl ?_;(iterate 3 refine sp ?_);obtain ⟨rfl,rfl,rfl,rfl,rfl,rfl⟩:=j6 H;exact W.now (mb [1])
theorem s_rv_Pct (k:Nat) (x1:Int) (x2:Int) (x3:Int) (x4:ByteArray) (x5:Bool) (x6:Int) (x7:Int) (x8:Int) (x9:Int) (x10:ByteArray) (x11:Bool) (x12:Int) (H:g_rv_Pct k x1 x2 x3 x4 x5 x6=some (x7,x8,x9,x10,x11,x12)):Go.Q.Spec Tryz.prog 34 0 [.agg [.lit (.int .i64 x1),.lit (.int .i64 x2),.lit (.int .i64 x3),.lit (.string x4),.lit (.bool x5),.lit (.int .i64 x6)]] Mem.nil (fun o M=>o=.ret (.agg [.lit (.int .i64 x7),.lit (.int .i64 x8),.lit (.int .i64 x9),.lit (.string x10),.lit (.bool x11),.lit (.int .i64 x12)])∧M=(Mem.nil.push (.cells 29 [.lit (.int .i64 x7),.lit (.int .i64 x8),.lit (.int .i64 x9),.lit (.string x10),.lit (.bool x11),.lit (.int .i64 x12)]))):=by
 unfold g_rv_Pct at H;refine bo Tryz.func34 [(29,6)] [.cell 2 29] 17 fun cx hnp=>?_;(iterate 6 refine sp ?_);obtain ⟨⟨x13,x14,x15,x16,x17,x18⟩,h1,H⟩:=bnd H;refine WPL.c (rc [] [2] 3 [] (s_rv_Num k x1 x2 x3 x4 x5 x6 x13 x14 x15 x16 x17 x18 h1)) rfl ?_;(iterate 3 refine sp ?_);refine WP.seq ?_;(iterate 5 refine sp ?_);refine cd H (fun hb1 H=>?_) fun hb1 H=>?_
 · (iterate 5 refine sp ?_);obtain ⟨rfl,rfl,rfl,rfl,rfl,rfl⟩:=j6 H;exact W.now (Then.r (mb [1]))
 (iterate 7 refine sp ?_);obtain ⟨⟨x19,x20,x21⟩,h2,H⟩:=bnd H;refine WPL.c (rc [] [4] 5 [] (s_r9_Mul k x14 x15 1 (-2) x19 x20 x21 h2)) rfl ?_;(iterate 2 refine sp ?_);obtain ⟨⟨x22,x23,x24,x25⟩,h3,H⟩:=bnd H;refine WPL.c (rc [] [5] 6 [] (s_rv_Of k x20 x21 x19 x22 x23 x24 x25 h3)) rfl ?_;(iterate 3 refine sp ?_);obtain ⟨rfl,rfl,rfl,rfl,rfl,rfl⟩:=j6 H;exact W.now (mb [1])
theorem s_quirelaw13_ValBins (k:Nat) (x1:Int) (x2:Int) (x3:Int) (x4:Int) (x5:ByteArray) (x6:Bool) (x7:Int) (x8:Int) (x9:Int) (x10:Int) (x11:ByteArray) (x12:Bool) (x13:Int) (x14:Bool) (H:g_quirelaw13_ValBins k x1 x2 x3 x4 x5 x6 x7 x8 x9 x10 x11 x12 x13=some x14):Go.Q.Spec Tryz.prog 6 0 [.lit (.int .i64 x1),.agg [.lit (.int .i64 x2),.lit (.int .i64 x3),.lit (.int .i64 x4),.lit (.string x5),.lit (.bool x6),.lit (.int .i64 x7)],.agg [.lit (.int .i64 x8),.lit (.int .i64 x9),.lit (.int .i64 x10),.lit (.string x11),.lit (.bool x12),.lit (.int .i64 x13)]] Mem.nil (fun o M=>o=.ret (.lit (.bool x14))∧M=Mem.nil):=by
 unfold g_quirelaw13_ValBins at H;refine bo Tryz.func6 [] [.tmp 6] 42 fun cx hnp=>?_;(iterate 5 refine sp ?_);refine WP.seq ?_;obtain ⟨x15,H1,H⟩:=bnd H;refine mo .normal (Env.none.upd 6 (.lit (.bool x15))) Mem.nil ?_ ?_
 · clear H;have H:=H1;clear H1;refine WP.regionD' 36 [0,1] [] mixed rfl ?_;refine dT 0 ?_;refine dT 4 ?_;refine dK 1 ?_;refine dK 2 ?_;refine dK 5 ?_;refine dK 6 ?_;obtain ⟨⟨x16,x17,x18,x19,x20,x21⟩,h1,H⟩:=bnd H;refine dE 3 [0,1] [] rfl (rc [] [2] 3 [] (s_val_Bin k x1 x2 x3 x4 x5 x6 x7 x8 x9 x10 x11 x12 x13 x16 x17 x18 x19 x20 x21 h1) (hargs:=.ren rfl rfl (.ren rfl rfl (.ren rfl rfl .nil)))) ?_;obtain ⟨⟨x22,x23,x24,x25,x26,x27⟩,h2,H⟩:=bnd H;refine dE 7 [0,1] [] rfl (rc [] [3] 4 [] (s_rv_Bin k x1 x2 x3 x4 x5 x6 x7 x8 x9 x10 x11 x12 x13 x22 x23 x24 x25 x26 x27 h2) (hargs:=.ren rfl rfl (.ren rfl rfl (.ren rfl rfl .nil)))) ?_;obtain ⟨x28,h3,H⟩:=bnd H;refine WPD.tT 8 rfl (q_nm (q_eqlAg (xs:=[(.int .i64 x16),(.int .i64 x17),(.int .i64 x18),(.string x19),(.bool x20),(.int .i64 x21)]) (ys:=[(.int .i64 x22),(.int .i64 x23),(.int .i64 x24),(.string x25),(.bool x26),(.int .i64 x27)]) (n:=9) rfl eg29 rfl rfl eq29) (nm_bool h3)) ?_;refine dT 9 ?_;refine ds 16 H (fun hb1 H=>?_) fun hb1 H=>?_
   · refine dH 10 ?_;refine dH 11 ?_;refine dH 13 ?_;refine dH 14 ?_;obtain ⟨x29,h4,H⟩:=bnd H;refine dF 12 [0,1] [] rfl (rc [] [] 4 [] (s_val_Cmp k x2 x3 x4 x5 x6 x7 x8 x9 x10 x11 x12 x13 x29 h4)) ?_;obtain ⟨x30,h5,H⟩:=bnd H;refine dF 15 [0,1] [] rfl (rc [] [] 4 [] (s_rv_Cmp k x2 x3 x4 x5 x6 x7 x8 x9 x10 x11 x12 x13 x30 h5)) ?_;refine dG 16 ?_;refine dT 17 ?_;refine dT 18 ?_;refine ds 25 H (fun hb2 H=>?_) fun hb2 H=>?_
     · refine dH 19 ?_;refine dH 21 ?_;obtain ⟨⟨x31,x32,x33,x34,x35,x36⟩,h6,H⟩:=bnd H;refine dF 20 [0,1] [] rfl (rc [] [4] 5 [] (s_val_Neg k x2 x3 x4 x5 x6 x7 x31 x32 x33 x34 x35 x36 h6)) ?_;obtain ⟨⟨x37,x38,x39,x40,x41,x42⟩,h7,H⟩:=bnd H;refine dF 22 [0,1] [] rfl (rc [] [5] 6 [] (s_rv_Neg k x2 x3 x4 x5 x6 x7 x37 x38 x39 x40 x41 x42 h7)) ?_;obtain ⟨x43,h8,H⟩:=bnd H;refine WPD.takegT 23 rfl (by kernel_rfl) rfl rfl (lb hb2) (q_nm (q_eqlAg (xs:=[(.int .i64 x31),(.int .i64 x32),(.int .i64 x33),(.string x34),(.bool x35),(.int .i64 x36)]) (ys:=[(.int .i64 x37),(.int .i64 x38),(.int .i64 x39),(.string x40),(.bool x41),(.int .i64 x42)]) (n:=9) rfl eg29 rfl rfl eq29) (nm_bool h8)) rfl ?_;refine dT 24 ?_;refine dT 25 ?_;refine ds 32 H (fun hb3 H=>?_) fun hb3 H=>?_
       · refine dH 26 ?_;refine dH 28 ?_;obtain ⟨⟨x44,x45,x46,x47,x48,x49⟩,h9,H⟩:=bnd H;refine dF 27 [0,1] [] rfl (rc [] [6] 7 [] (s_val_Pct k x2 x3 x4 x5 x6 x7 x44 x45 x46 x47 x48 x49 h9)) ?_;obtain ⟨⟨x50,x51,x52,x53,x54,x55⟩,h10,H⟩:=bnd H;refine dF 29 [0,1] [] rfl (rc [] [7] 8 [] (s_rv_Pct k x2 x3 x4 x5 x6 x7 x50 x51 x52 x53 x54 x55 h10)) ?_;obtain ⟨x56,h11,H⟩:=bnd H;refine WPD.takegT 30 rfl (by kernel_rfl) rfl rfl (lb hb3) (q_nm (q_eqlAg (xs:=[(.int .i64 x44),(.int .i64 x45),(.int .i64 x46),(.string x47),(.bool x48),(.int .i64 x49)]) (ys:=[(.int .i64 x50),(.int .i64 x51),(.int .i64 x52),(.string x53),(.bool x54),(.int .i64 x55)]) (n:=9) rfl eg29 rfl rfl eq29) (nm_bool h11)) rfl ?_;refine dT 31 ?_;refine dT 32 ?_;refine ds 39 H (fun hb4 H=>?_) fun hb4 H=>?_
         · obtain ⟨x57,h12,H⟩:=bnd H;refine dF 33 [0,1] [] rfl (rc [] [] 8 [] (s_quirelaw13_alive k x57 h12)) ?_;refine dT 34 ?_;refine dT 35 ?_;refine WPD.doneW (by kernel_rfl) ?_;have q0:=j1 H;subst q0;exact wq []
         refine dP false 33 ?_;refine dT 34 ?_;refine dT 35 ?_;refine WPD.doneW (by kernel_rfl) ?_;have q0:=j1 H;subst q0;exact wq []
       refine dP false 26 ?_;refine dP false 27 ?_;refine dP false 28 ?_;refine dP false 29 ?_;refine dP false 30 ?_;refine dT 31 ?_;refine dT 32 ?_;refine dP false 33 ?_;refine dT 34 ?_;refine dT 35 ?_;refine WPD.doneW (by kernel_rfl) ?_;have q0:=j1 H;subst q0;exact wq []
     refine dP false 19 ?_;refine dP false 20 ?_;refine dP false 21 ?_;refine dP false 22 ?_;refine dP false 23 ?_;refine dT 24 ?_;refine dT 25 ?_;refine dP false 26 ?_;refine dP false 27 ?_;refine dP false 28 ?_;refine dP false 29 ?_;refine dP false 30 ?_;refine dT 31 ?_;refine dT 32 ?_;refine dP false 33 ?_;refine dT 34 ?_;refine dT 35 ?_;refine WPD.doneW (by kernel_rfl) ?_;have q0:=j1 H;subst q0;exact wq []
   refine dP false 10 ?_;refine dP false 11 ?_;refine dP false 12 ?_;refine dP false 13 ?_;refine dP false 14 ?_;refine dP false 15 ?_;refine dP false 16 ?_;refine dT 17 ?_;refine dT 18 ?_;refine dP false 19 ?_;refine dP false 20 ?_;refine dP false 21 ?_;refine dP false 22 ?_;refine dP false 23 ?_;refine dT 24 ?_;refine dT 25 ?_;refine dP false 26 ?_;refine dP false 27 ?_;refine dP false 28 ?_;refine dP false 29 ?_;refine dP false 30 ?_;refine dT 31 ?_;refine dT 32 ?_;refine dP false 33 ?_;refine dT 34 ?_;refine dT 35 ?_;refine WPD.doneW (by kernel_rfl) ?_;have q0:=j1 H;subst q0;exact wq []
 (iterate 3 refine sp ?_);have q0:=j1 H;subst q0;exact W.now (mb [])
end Go.Proofs.YthpcgknknpjpdaaGreatDoor.W
set_option linter.unusedVariables false
set_option linter.unusedSimpArgs false
namespace Go.Dz
def val (m e:Int):Int:=m*10^(e+500000).toNat
theorem p10 (n:Nat):(0:Int)<10^n:=Int.pow_pos (by decide)
theorem val_shift {m e:Int} {j:Nat} (he : -500000≤e):val (m*10^j) e=val m (e+j):=by
  unfold val
  rw [Int.mul_assoc,← Int.pow_add,show j+(e+500000).toNat=(e+j+500000).toNat by omega]
theorem val_inj {m m' e:Int} (h:val m e=val m' e):m=m':=by
  unfold val at h
  exact Int.eq_of_mul_eq_mul_right (Int.ne_of_gt (p10 _)) h
theorem val_zero {e:Int}:val 0 e=0:=by simp [val]
theorem val_eq_zero {m e:Int} (h:val m e=0):m=0:=by
  unfold val at h
  rcases Int.mul_eq_zero.1 h with h | h
  · exact h
  · exact absurd h (Int.ne_of_gt (p10 _))
theorem val_neg {m e:Int}:val (-m) e = - val m e:=by simp [val,Int.neg_mul]
theorem val_add {m m' e:Int}:val (m+m') e=val m e+val m' e:=by simp [val,Int.add_mul]
theorem val_sub {m m' e:Int}:val (m - m') e=val m e - val m' e:=by simp [val,Int.sub_mul]
theorem val_lt {m m' e:Int}:val m e<val m' e↔m<m':=by
  unfold val
  exact ⟨fun h=>Int.lt_of_mul_lt_mul_right h (Int.le_of_lt (p10 _)),fun h=>Int.mul_lt_mul_of_pos_right h (p10 _)⟩
theorem val_rep {m m' e e':Int} (he : -500000≤e) (hle:e≤e') (h:val m e=val m' e'):m=m'*10^(e' - e).toNat:=by
  have h1:=val_shift (m:=m') (e:=e) (j:=(e' - e).toNat) he
  rw [show e+((e' - e).toNat:Int)=e' by omega,← h] at h1
  exact (val_inj h1).symm
def Canon (c x:Int):Prop:=(c=0∧x=0)∨(c≠0 ∧ -18≤x∧x≤18 ∧ -9223372036854775808≤c∧c≤9223372036854775807∧(x=18∨¬ (10:Int) ∣ c))
theorem Canon.rng {c x:Int} (h:Canon c x) : -18≤x∧x≤18 ∧ -9223372036854775808≤c∧c≤9223372036854775807:=by
  rcases h with ⟨rfl,rfl⟩ | ⟨_,h1,h2,h3,h4,_⟩ <;> omega
theorem dvd_pow10 {m:Int} {n:Nat} (h:n≠0):(10:Int) ∣ m*10^n:=by
  obtain ⟨k,rfl⟩:∃ k,n=k+1:=⟨n - 1,by omega⟩
  exact ⟨m*10^k,by rw [Int.pow_succ];rw [← Int.mul_assoc,Int.mul_comm]⟩
theorem Canon.uniq' {c x c' x':Int} (h:Canon c x) (h':Canon c' x') (hle:x≤x') (e:val c x=val c' x'):c=c'∧x=x':=by
  have r:=h.rng
  have e1:=val_rep (by omega) hle e
  by_cases hc:c=0
  · subst hc
    rw [val_zero] at e
    have hc':=val_eq_zero e.symm
    subst hc'
    rcases h with ⟨_,hx⟩ | ⟨h0,_⟩
    · rcases h' with ⟨_,hx'⟩ | ⟨h0,_⟩
      · exact ⟨rfl,by omega⟩
      · exact absurd rfl h0
    · exact absurd rfl h0
  · have hc':c'≠0:=by rintro rfl;simp at e1;exact hc e1
    by_cases hx:x=x'
    · subst hx
      exact ⟨val_inj e,rfl⟩
    · have h10:(10:Int) ∣ c:=by rw [e1];exact dvd_pow10 (by omega)
      have r':=h'.rng
      rcases h with ⟨h0,_⟩ | ⟨_,_,_,_,_,h5 | h5⟩
      · exact absurd h0 hc
      · omega
      · exact absurd h10 h5
theorem Canon.uniq {c x c' x':Int} (h:Canon c x) (h':Canon c' x') (e:val c x=val c' x'):c=c'∧x=x':=by
  by_cases hle:x≤x'
  · exact h.uniq' h' hle e
  · obtain ⟨h1,h2⟩:=h'.uniq' h (by omega) e.symm
    exact ⟨h1.symm,h2.symm⟩
def Tells (p:Int→Prop) (r:(Int × Int) × Int):Prop :=
  (r.2=0∧Canon r.1.1 r.1.2∧p (val r.1.1 r.1.2))∨(r=((0,0),30)∧∀ c x,Canon c x→¬ p (val c x))
theorem Tells.uniq {p:Int→Prop} {r r':(Int × Int) × Int} (hp:∀ a b,p a→p b→a=b) (h:Tells p r) (h':Tells p r'):r=r':=by
  obtain ⟨⟨c,x⟩,e⟩:=r
  obtain ⟨⟨c',x'⟩,e'⟩:=r'
  rcases h with ⟨h1,h2,h3⟩ | ⟨h1,h2⟩
  · rcases h' with ⟨k1,k2,k3⟩ | ⟨k1,k2⟩
    · have:=h2.uniq k2 (hp _ _ h3 k3)
      simp only at h1 k1 this
      rw [h1,k1,this.1,this.2]
    · exact absurd h3 (k2 _ _ h2)
  · rcases h' with ⟨k1,k2,k3⟩ | ⟨k1,k2⟩
    · exact absurd k3 (h2 _ _ k2)
    · rw [h1,k1]
theorem Tells.congr {p q:Int→Prop} {r:(Int × Int) × Int} (h:Tells p r) (hq:∀ a,p a↔q a):Tells q r:=by
  rcases h with ⟨h1,h2,h3⟩ | ⟨h1,h2⟩
  · exact .inl ⟨h1,h2,(hq _).1 h3⟩
  · exact .inr ⟨h1,fun c x hc hn=>h2 c x hc ((hq _).2 hn)⟩
theorem canon_iff {m e c x:Int} (hm:m≠0) (hd:¬ (10:Int) ∣ m) (he : -500000≤e):(Canon c x∧val c x=val m e)↔(x=(if e > 18 then 18 else e)∧c=m*10^(e - x).toNat ∧ -18≤x ∧ -9223372036854775808≤c∧c≤9223372036854775807):=by
  constructor
  · rintro ⟨h,e1⟩
    have r:=h.rng
    have hc:c≠0:=by
      rintro rfl
      rw [val_zero] at e1
      exact hm (val_eq_zero e1.symm)
    by_cases hle:x≤e
    · have e2:=val_rep (by omega) hle e1
      refine ⟨?_,e2,by omega,by omega,by omega⟩
      by_cases hxe:x=e
      · rw [if_neg (by omega),hxe]
      · have h10:(10:Int) ∣ c:=by rw [e2];exact dvd_pow10 (by omega)
        rcases h with ⟨h0,_⟩ | ⟨_,_,_,_,_,h5 | h5⟩
        · exact absurd h0 hc
        · rw [if_pos (by omega),h5]
        · exact absurd h10 h5
    · have e2:=val_rep he (by omega) e1.symm
      exact absurd (by rw [e2];exact dvd_pow10 (by omega)) hd
  · rintro ⟨h1,h2,h3,h4,h5⟩
    have hx:x≤e:=by split at h1 <;> omega
    have e1:val c x=val m e:=by
      rw [h2,val_shift (by omega),show x+((e - x).toNat:Int)=e by omega]
    refine ⟨?_,e1⟩
    have hc:c≠0:=by
      rintro rfl
      rw [val_zero] at e1
      exact hm (val_eq_zero e1.symm)
    refine .inr ⟨hc,h3,by split at h1 <;> omega,h4,h5,?_⟩
    split at h1
    · exact .inl h1
    · refine .inr ?_
      subst h1
      rw [h2]
      simpa using hd
theorem tells_some {m e c x:Int} (hm:m≠0) (hd:¬ (10:Int) ∣ m) (he : -500000≤e) (h:x=(if e > 18 then 18 else e)∧c=m*10^(e - x).toNat ∧ -18≤x ∧ -9223372036854775808≤c∧c≤9223372036854775807):Tells (·=val m e) ((c,x),0) :=
  .inl ⟨rfl,(canon_iff hm hd he).2 h⟩
theorem tells_none {m e:Int} (hm:m≠0) (hd:¬ (10:Int) ∣ m) (he : -500000≤e) (h:e < -18∨¬ (-9223372036854775808≤m*10^(e - 18).toNat∧m*10^(e - 18).toNat≤9223372036854775807)):Tells (·=val m e) ((0,0),30):=by
  refine .inr ⟨rfl,fun c x hc e1=>?_⟩
  obtain ⟨h1,h2,h3,h4,h5⟩:=(canon_iff hm hd he).1 ⟨hc,e1⟩
  split at h1
  · subst h1
    rw [h2] at h4 h5
    omega
  · subst h1
    have:(x - 18).toNat=0:=by omega
    rw [this] at h
    simp at h h2
    omega
theorem tells_zero {e:Int}:Tells (·=val 0 e) ((0,0),0):=.inl ⟨rfl,.inl ⟨rfl,rfl⟩,by simp [val_zero]⟩
def I64 (c:Int):Prop := -9223372036854775808≤c∧c≤9223372036854775807
def Rng (e:Int):Prop := -18≤e∧e≤18
instance (e:Int):Decidable (Rng e):=by unfold Rng;infer_instance
theorem Canon.i64 {c x:Int} (h:Canon c x):I64 c:=⟨h.rng.2.2.1,h.rng.2.2.2⟩
theorem Canon.rg {c x:Int} (h:Canon c x):Rng x:=⟨h.rng.1,h.rng.2.1⟩
theorem est_le {B y u d q r:Nat} (hB:0<B) (hy:0<y) (hq:q*(y / B)+r=u) (h:q*(y%B)≤B*r+d):q≤(u*B+d) / y:=by
  rw [Nat.le_div_iff_mul_le hy]
  have e:y=y / B*B+y%B:=(Nat.div_add_mod' y B).symm
  have:q*y=q*(y / B)*B+q*(y%B):=by
    conv=>lhs;rw [e]
    rw [Nat.mul_add,Nat.mul_assoc]
  rw [this,← hq,Nat.add_mul,Nat.mul_comm r B]
  omega
theorem est_gt {B y u d q r:Nat} (hB:0<B) (hu:u<y) (hd:d<B) (hq:q*(y / B)+r=u) (h:B≤q∨B*r+d<q*(y%B)):(u*B+d) / y<q:=by
  rw [Nat.div_lt_iff_lt_mul (by omega)]
  rcases h with h | h
  · have h1:(u+1)*B≤y*B:=Nat.mul_le_mul_right B hu
    have h2:B*y≤q*y:=Nat.mul_le_mul_right y h
    rw [Nat.add_mul,Nat.mul_comm y B] at h1
    omega
  · have e:y=y / B*B+y%B:=(Nat.div_add_mod' y B).symm
    have:q*y=q*(y / B)*B+q*(y%B):=by
      conv=>lhs;rw [e]
      rw [Nat.mul_add,Nat.mul_assoc]
    rw [this,← hq,Nat.add_mul,Nat.mul_comm r B]
    omega
theorem est_stop {B y u d q r:Nat} (hB:0<B) (hy:0<y) (hq:q*(y / B)+r=u) (hqB:q≤B) (hr:B≤r):q≤(u*B+d) / y:=by
  refine est_le hB hy hq ?_
  have h1:q*(y%B)≤B*(y%B):=Nat.mul_le_mul_right _ hqB
  have h2:B*(y%B)≤B*r:=Nat.mul_le_mul_left _ (by have:=Nat.mod_lt y hB;omega)
  omega
theorem est_first {B y u:Nat} (hu:u<y) (hB:2≤B) (hn:B≤2*(y / B)):u / (y / B)≤B+1:=by
  have hp:0<y / B:=by omega
  have:u / (y / B)<B+2:=by
    rw [Nat.div_lt_iff_lt_mul hp]
    have e:y=y / B*B+y%B:=(Nat.div_add_mod' y B).symm
    have hm:=Nat.mod_lt y (show 0<B by omega)
    have:(B+2)*(y / B)=y / B*B+2*(y / B):=by rw [Nat.add_mul,Nat.mul_comm B]
    omega
  omega
theorem est_ge {B y u d:Nat} (hB:0<B) (hy:B≤y) (hd:d<B):(u*B+d) / y≤u / (y / B):=by
  have hp:0<y / B:=Nat.div_pos hy hB
  rw [Nat.le_div_iff_mul_le hp]
  have h1:(u*B+d) / y*y≤u*B+d:=Nat.div_mul_le_self _ _
  have h2:(u*B+d) / y*(y / B*B)≤(u*B+d) / y*y:=Nat.mul_le_mul_left _ (Nat.div_mul_le_self _ _)
  rw [← Nat.mul_assoc] at h2
  generalize (u*B+d) / y*(y / B)=z at *
  have:z*B<(u+1)*B:=by rw [Nat.add_mul];omega
  exact Nat.le_of_lt_succ (Nat.lt_of_mul_lt_mul_right this)
theorem two_digits {B y u d1 d0:Nat} (hy:0<y):((u*B+d1)*B+d0) / y=(u*B+d1) / y*B+((u*B+d1)%y*B+d0) / y∧((u*B+d1)*B+d0)%y=((u*B+d1)%y*B+d0)%y:=by
  have e:(u*B+d1)*B+d0=y*((u*B+d1) / y*B)+((u*B+d1)%y*B+d0):=by
    conv=>lhs;rw [← Nat.div_add_mod (u*B+d1) y]
    rw [Nat.add_mul,Nat.mul_assoc]
    omega
  rw [e,Nat.mul_add_div hy,Nat.mul_add_mod]
  exact ⟨rfl,rfl⟩
end Go.Dz
set_option linter.unusedVariables false
set_option linter.unusedSimpArgs false
namespace Go.Dz
def digs (n:Nat):List Int:=if h:n=0 then [] else ((n%10:Nat):Int)::digs (n / 10)
termination_by n
decreasing_by omega
theorem digs_zero:digs 0=[]:=by rw [digs];rfl
theorem digs_pos {n:Nat} (h:n≠0):digs n=((n%10:Nat):Int)::digs (n / 10):=by rw [digs];simp [h]
def nval:List Int→Nat
  | []=>0
  | d::l=>d.toNat+10*nval l
def Dig (l:List Int):Prop:=∀ d∈l,0≤d∧d≤9
theorem Dig.nil:Dig []:=by intro d h;simp at h
theorem Dig.cons {d:Int} {l:List Int} (h0:0≤d) (h9:d≤9) (h:Dig l):Dig (d::l):=by
  intro x hx
  rcases List.mem_cons.1 hx with rfl | hx
  · exact ⟨h0,h9⟩
  · exact h x hx
theorem Dig.head {d:Int} {l:List Int} (h:Dig (d::l)):0≤d∧d≤9:=h d (by simp)
theorem Dig.tail {d:Int} {l:List Int} (h:Dig (d::l)):Dig l:=fun x hx=>h x (List.mem_cons_of_mem _ hx)
theorem Dig.app {l r:List Int} (h:Dig l) (k:Dig r):Dig (l++r):=by
  intro x hx
  rcases List.mem_append.1 hx with hx | hx
  · exact h x hx
  · exact k x hx
theorem digs_dig:∀ n,Dig (digs n):=by
  intro n
  induction n using Nat.strongRecOn with
  | _ n ih =>
    by_cases h:n=0
    · subst h;rw [digs_zero];exact Dig.nil
    · rw [digs_pos h];exact Dig.cons (by omega) (by omega) (ih _ (by omega))
theorem nval_digs:∀ n,nval (digs n)=n:=by
  intro n
  induction n using Nat.strongRecOn with
  | _ n ih =>
    by_cases h:n=0
    · subst h;rw [digs_zero];rfl
    · rw [digs_pos h,nval,ih _ (by omega)];omega
theorem digs_nil {n:Nat}:digs n=[]↔n=0:=by
  constructor
  · intro h;rw [← nval_digs n,h];rfl
  · rintro rfl;exact digs_zero
theorem digs_len0 {n:Nat}:(digs n).length=0↔n=0:=by rw [List.length_eq_zero_iff,digs_nil]
theorem digs_cons {d:Int} {n:Nat} (h0:0≤d) (h9:d≤9) (h:d.toNat+10*n≠0):digs (d.toNat+10*n)=d::digs n:=by
  rw [digs_pos h,show (d.toNat+10*n) / 10=n by omega,show (((d.toNat+10*n)%10:Nat):Int)=d by omega]
theorem digs_nval:∀ {l:List Int},Dig l→∀ {n:Nat},n≤l.length→(∀ i,n≤i→i<l.length→l.getD i 0=0)→(n≠0→l.getD (n - 1) 0≠0)→digs (nval l)=l.take n
  | [],_,n,hn,_,_=>by simp [nval,digs_zero]
  | d::l,hd,n,hn,h0,h1=>by
    cases n with
    | zero =>
      have hz:d=0:=by simpa using h0 0 (by omega) (by simp)
      have:=digs_nval hd.tail (n:=0) (Nat.zero_le _) (fun i hi hl=>by simpa using h0 (i+1) (by omega) (by simpa using hl)) (by omega)
      have hv:nval l=0:=by
        have:=congrArg nval this
        rw [nval_digs] at this
        simpa [nval] using this
      rw [nval,hv,hz];simp [digs_zero]
    | succ n =>
      have ih:=digs_nval hd.tail (n:=n) (by simpa using hn) (fun i hi hl=>by simpa using h0 (i+1) (by omega) (by simpa using hl)) (fun hn0=>by
        have:=h1 (by omega)
        obtain ⟨m,rfl⟩:∃ m,n=m+1:=⟨n - 1,by omega⟩
        simpa using this)
      have hne:d.toNat+10*nval l≠0:=by
        intro he
        have hv:nval l=0:=by omega
        rw [hv,digs_zero] at ih
        cases n with
        | zero =>
          have:=h1 (by omega)
          simp at this
          have:=hd.head
          omega
        | succ n =>
          have:=congrArg List.length ih
          simp at this hn
          omega
      rw [nval,digs_cons hd.head.1 hd.head.2 hne,ih,List.take_succ_cons]
theorem nval_app:∀ (l r:List Int),nval (l++r)=nval l+10^l.length*nval r
  | [],r=>by simp [nval]
  | d::l,r=>by
    rw [List.cons_append,nval,nval,nval_app l r,List.length_cons,Nat.pow_succ,Nat.mul_add,Nat.add_assoc,← Nat.mul_assoc,Nat.mul_comm 10 (10^l.length)]
theorem nval_lt:∀ {l:List Int},Dig l→nval l<10^l.length
  | [],_=>by simp [nval]
  | d::l,h=>by
    have:=nval_lt h.tail
    have:=h.head
    rw [nval,List.length_cons,Nat.pow_succ]
    omega
theorem digs_lt {n:Nat}:n<10^(digs n).length:=by
  have:=nval_lt (digs_dig n)
  rwa [nval_digs] at this
theorem digs_ge {n:Nat} (h:n≠0):10^((digs n).length - 1)≤n:=by
  induction n using Nat.strongRecOn with
  | _ n ih =>
    rw [digs_pos h,List.length_cons,Nat.add_sub_cancel]
    by_cases h1:n / 10=0
    · rw [h1,digs_zero];simp;omega
    · have:=ih _ (by omega) h1
      have h2:(digs (n / 10)).length≠0:=by rw [Ne,digs_len0];exact h1
      obtain ⟨m,hm⟩:∃ m,(digs (n / 10)).length=m+1:=⟨_,(Nat.succ_pred h2).symm⟩
      rw [hm] at this ⊢
      rw [Nat.add_sub_cancel] at this
      rw [Nat.pow_succ]
      omega
theorem digs_len_le {n m:Nat} (h:n<10^m):(digs n).length≤m:=by
  by_cases h0:n=0
  · subst h0;rw [digs_zero];simp
  · have:=digs_ge h0
    have h1:(digs n).length - 1<m:=(Nat.pow_lt_pow_iff_right (by decide:1<10)).1 (Nat.lt_of_le_of_lt this h)
    omega
theorem digs_at {n:Nat}:∀ {i:Nat},(digs n).getD i 0=((n / 10^i%10:Nat):Int):=by
  intro i
  induction i generalizing n with
  | zero =>
    by_cases h:n=0
    · subst h;rw [digs_zero];simp
    · rw [digs_pos h];simp
  | succ i ih =>
    by_cases h:n=0
    · subst h;rw [digs_zero];simp
    · rw [digs_pos h]
      have:=@ih (n / 10)
      rw [Nat.div_div_eq_div_mul,Nat.mul_comm] at this
      simpa [Nat.pow_succ] using this
end Go.Dz
namespace Go.Proofs.YthpcgknknpjpdaaGreatDoor.W
open Go Go.Q Go.Proofs Go.Dz
set_option linter.unusedVariables false
set_option linter.unusedSimpArgs false
theorem wU (n:Nat):IntKind.wrap .u64 (n:Int)=((n%18446744073709551616:Nat):Int):=by
  simp [IntKind.wrap,IntKind.bits,IntKind.signed]
theorem wUi (n:Int):IntKind.wrap .u64 n=n%18446744073709551616:=by
  simp [IntKind.wrap,IntKind.bits,IntKind.signed]
theorem wUl {n:Nat} (h:n<18446744073709551616):IntKind.wrap .u64 (n:Int)=(n:Int):=by rw [wU,Nat.mod_eq_of_lt h]
theorem bvU {n:Nat} (h:n<18446744073709551616):(n:Int)=((BitVec.ofNat 64 n).toNat:Int):=by
  rw [BitVec.toNat_ofNat,Nat.mod_eq_of_lt (by simpa using h)]
theorem and32 {n:Nat} (h:n<18446744073709551616):bits .and .u64 (n:Int) 4294967295=((n%4294967296:Nat):Int):=by
  rw [bvU h,show (4294967295:Int)=((4294967295#64).toNat:Int) from rfl,u64_and,BitVec.toNat_and,BitVec.toNat_ofNat,Nat.mod_eq_of_lt (by simpa using h)]
  rw [show (4294967295#64).toNat=2^32 - 1 from rfl,Nat.and_two_pow_sub_one_eq_mod]
theorem shrN (n:Nat) {s:Nat} (hs:s≤64):shrI .u64 (n:Int) (s:Int)=((n / 2^s:Nat):Int):=by
  unfold shrI
  rw [Int.fdiv_eq_ediv_of_nonneg _ (Int.pow_nonneg (by decide))]
  simp [IntKind.bits,Nat.min_eq_left hs]
theorem shr32 (n:Nat):shrI .u64 (n:Int) 32=((n / 4294967296:Nat):Int):=shrN n (s:=32) (by decide)
theorem shlN (n:Nat) {s:Nat} (hs:s≤64):shlI .u64 (n:Int) (s:Int)=((n*2^s%18446744073709551616:Nat):Int):=by
  unfold shlI
  rw [← wU]
  simp [IntKind.bits,Nat.min_eq_left hs]
theorem orN {a b s:Nat} (ha:a*2^s<18446744073709551616) (hb:b<2^s) (hb':b<18446744073709551616):bits .or .u64 ((a*2^s:Nat):Int) (b:Int)=((a*2^s+b:Nat):Int):=by
  rw [bvU ha,bvU hb',u64_or,BitVec.toNat_or,BitVec.toNat_ofNat,BitVec.toNat_ofNat,Nat.mod_eq_of_lt (by simpa using ha),Nat.mod_eq_of_lt (by simpa using hb'),Nat.mul_comm,← Nat.two_pow_add_eq_or_of_lt hb]
theorem or0 {a b:Nat} (ha:a<18446744073709551616) (hb:b<18446744073709551616):bits .or .u64 (a:Int) (b:Int)=0↔a=0∧b=0:=by
  rw [bvU ha,bvU hb,u64_or,BitVec.toNat_or,BitVec.toNat_ofNat,BitVec.toNat_ofNat,Nat.mod_eq_of_lt (by simpa using ha),Nat.mod_eq_of_lt (by simpa using hb)]
  constructor
  · intro h
    have h':a ||| b=0:=by exact_mod_cast h
    exact ⟨(Nat.or_eq_zero_iff.1 h').1,(Nat.or_eq_zero_iff.1 h').2⟩
  · rintro ⟨rfl,rfl⟩;rfl
theorem mul64 (k:Nat) {x y:Nat} (hx:x<18446744073709551616) (hy:y<18446744073709551616):g_mb_Mul64 k (x:Int) (y:Int)=some ((x*y / 18446744073709551616:Nat):Int):=by
  unfold g_mb_Mul64
  have b0:=Nat.mod_lt x (show 0<4294967296 by decide)
  have c0:=Nat.mod_lt y (show 0<4294967296 by decide)
  have b1:x / 4294967296<4294967296:=by omega
  have c1:y / 4294967296<4294967296:=by omega
  have ex:x=x / 4294967296*4294967296+x%4294967296:=by omega
  have ey:y=y / 4294967296*4294967296+y%4294967296:=by omega
  simp only [and32 hx,and32 hy,shr32]
  generalize x%4294967296=x0 at *
  generalize y%4294967296=y0 at *
  generalize x / 4294967296=x1 at *
  generalize y / 4294967296=y1 at *
  have hp:x0*y0≤4294967295*4294967295:=Nat.mul_le_mul (by omega) (by omega)
  have hq:x1*y0≤4294967295*4294967295:=Nat.mul_le_mul (by omega) (by omega)
  have hr:x0*y1≤4294967295*4294967295:=Nat.mul_le_mul (by omega) (by omega)
  have hs:x1*y1≤4294967295*4294967295:=Nat.mul_le_mul (by omega) (by omega)
  have e:x*y=x1*y1*18446744073709551616+(x1*y0+x0*y1)*4294967296+x0*y0:=by
    rw [ex,ey]
    simp only [Nat.add_mul,Nat.mul_add]
    have:x1*4294967296*(y1*4294967296)=x1*y1*18446744073709551616:=by
      rw [Nat.mul_mul_mul_comm]
    have h2:x1*4294967296*y0=x1*y0*4294967296:=by rw [Nat.mul_right_comm]
    have h3:x0*(y1*4294967296)=x0*y1*4294967296:=by rw [Nat.mul_assoc]
    omega
  simp only [← Int.natCast_mul]
  generalize x0*y0=p at *
  generalize x1*y0=q at *
  generalize x0*y1=r at *
  generalize x1*y1=s at *
  rw [e]
  have e1:p%18446744073709551616=p:=Nat.mod_eq_of_lt (by omega)
  have e2:q%18446744073709551616=q:=Nat.mod_eq_of_lt (by omega)
  have e3:r%18446744073709551616=r:=Nat.mod_eq_of_lt (by omega)
  have e4:s%18446744073709551616=s:=Nat.mod_eq_of_lt (by omega)
  simp only [Option.bind_some,wU,e1,e2,e3,e4,shr32,← Int.natCast_add]
  rw [and32 (by omega)]
  simp only [← Int.natCast_add,wU,shr32]
  congr 2
  omega
def lenTab:List Int:=strInts (ByteArray.mk #[0,1,2,2,3,3,3,3,4,4,4,4,4,4,4,4,5,5,5,5,5,5,5,5,5,5,5,5,5,5,5,5,6,6,6,6,6,6,6,6,6,6,6,6,6,6,6,6,6,6,6,6,6,6,6,6,6,6,6,6,6,6,6,6,7,7,7,7,7,7,7,7,7,7,7,7,7,7,7,7,7,7,7,7,7,7,7,7,7,7,7,7,7,7,7,7,7,7,7,7,7,7,7,7,7,7,7,7,7,7,7,7,7,7,7,7,7,7,7,7,7,7,7,7,7,7,7,7,8,8,8,8,8,8,8,8,8,8,8,8,8,8,8,8,8,8,8,8,8,8,8,8,8,8,8,8,8,8,8,8,8,8,8,8,8,8,8,8,8,8,8,8,8,8,8,8,8,8,8,8,8,8,8,8,8,8,8,8,8,8,8,8,8,8,8,8,8,8,8,8,8,8,8,8,8,8,8,8,8,8,8,8,8,8,8,8,8,8,8,8,8,8,8,8,8,8,8,8,8,8,8,8,8,8,8,8,8,8,8,8,8,8,8,8,8,8,8,8,8,8,8,8,8,8,8,8])
theorem lenTab_all:((List.range 256).all fun i=>match ix lenTab (i:Int) with
    | some v=>decide (0≤v∧v≤8∧i<2^v.toNat∧(i≠0→2^v.toNat≤2*i))
    | none=>false)=true:=by kernel_rfl
theorem lenTab_at {i:Nat} (h:i<256):∃ v:Nat,ix lenTab (i:Int)=some (v:Int)∧v≤8∧i<2^v∧(i≠0→2^v≤2*i):=by
  have:=List.all_eq_true.1 lenTab_all i (List.mem_range.2 h)
  cases hv:ix lenTab (i:Int) with
  | none=>rw [hv] at this;cases this
  | some v =>
    rw [hv] at this
    simp only [decide_eq_true_eq] at this
    exact ⟨v.toNat,by rw [Int.toNat_of_nonneg this.1],by omega,this.2.2.1,this.2.2.2⟩
set_option maxRecDepth 100000 in
theorem len64 (k:Nat) {x:Nat} (hx:x<18446744073709551616) (h0:x≠0):∃ n:Nat,g_mb_Len64 k (x:Int)=some (n:Int)∧n≤64∧x<2^n∧2^n≤2*x:=by
  unfold g_mb_Len64
  have hl:∀ z,ix (strInts (ByteArray.mk #[0,1,2,2,3,3,3,3,4,4,4,4,4,4,4,4,5,5,5,5,5,5,5,5,5,5,5,5,5,5,5,5,6,6,6,6,6,6,6,6,6,6,6,6,6,6,6,6,6,6,6,6,6,6,6,6,6,6,6,6,6,6,6,6,7,7,7,7,7,7,7,7,7,7,7,7,7,7,7,7,7,7,7,7,7,7,7,7,7,7,7,7,7,7,7,7,7,7,7,7,7,7,7,7,7,7,7,7,7,7,7,7,7,7,7,7,7,7,7,7,7,7,7,7,7,7,7,7,8,8,8,8,8,8,8,8,8,8,8,8,8,8,8,8,8,8,8,8,8,8,8,8,8,8,8,8,8,8,8,8,8,8,8,8,8,8,8,8,8,8,8,8,8,8,8,8,8,8,8,8,8,8,8,8,8,8,8,8,8,8,8,8,8,8,8,8,8,8,8,8,8,8,8,8,8,8,8,8,8,8,8,8,8,8,8,8,8,8,8,8,8,8,8,8,8,8,8,8,8,8,8,8,8,8,8,8,8,8,8,8,8,8,8,8,8,8,8,8,8,8,8,8,8,8,8,8])) z=ix lenTab z:=fun _=>rfl
  simp only [hl,bd]
  -- the three halvings
  obtain ⟨y,s,hy,hys,h1⟩:∃ y s:Nat,(if (4294967296:Int)≤(x:Int) then some (shrI .u64 (x:Int) 32,(32:Int)) else some ((x:Int),0))=some ((y:Int),(s:Int))∧(s≤32)∧y≠0∧y<4294967296∧y*2^s≤x∧x<(y+1)*2^s:=by
    by_cases h:(4294967296:Int)≤(x:Int)
    · refine ⟨x / 4294967296,32,?_,by decide,?_⟩
      · rw [if_pos h,shr32];rfl
      · simp only [show (2:Nat)^32=4294967296 from rfl];omega
    · exact ⟨x,0,by rw [if_neg h];rfl,by decide,by simp;omega⟩
  obtain ⟨z,t,hz,hzt,h2⟩:∃ z t:Nat,(if (65536:Int)≤(y:Int) then some (shrI .u64 (y:Int) 16,IntKind.wrap .i64 ((s:Int)+16)) else some ((y:Int),(s:Int)))=some ((z:Int),(t:Int))∧(t≤48)∧z≠0∧z<65536∧z*2^t≤x∧x<(z+1)*2^t:=by
    by_cases h:(65536:Int)≤(y:Int)
    · refine ⟨y / 65536,s+16,?_,by omega,by omega,by omega,?_,?_⟩
      · rw [if_pos h,wi (by omega) (by omega),show (16:Int)=((16:Nat):Int) from rfl,shrN y (s:=16) (by decide)];rfl
      · refine Nat.le_trans ?_ h1.2.2.1
        rw [Nat.pow_add,Nat.mul_comm (2^s),← Nat.mul_assoc]
        exact Nat.mul_le_mul_right _ (by simp only [show (2:Nat)^16=65536 from rfl];omega)
      · refine Nat.lt_of_lt_of_le h1.2.2.2 ?_
        rw [Nat.pow_add,Nat.mul_comm (2^s),← Nat.mul_assoc]
        exact Nat.mul_le_mul_right _ (by simp only [show (2:Nat)^16=65536 from rfl];omega)
    · exact ⟨y,s,by rw [if_neg h],by omega,by omega,by omega,h1.2.2⟩
  obtain ⟨u,v,hu,huv,h3⟩:∃ u v:Nat,(if (256:Int)≤(z:Int) then some (shrI .u64 (z:Int) 8,IntKind.wrap .i64 ((t:Int)+8)) else some ((z:Int),(t:Int)))=some ((u:Int),(v:Int))∧(v≤56)∧u≠0∧u<256∧u*2^v≤x∧x<(u+1)*2^v:=by
    by_cases h:(256:Int)≤(z:Int)
    · refine ⟨z / 256,t+8,?_,by omega,by omega,by omega,?_,?_⟩
      · rw [if_pos h,wi (by omega) (by omega),show (8:Int)=((8:Nat):Int) from rfl,shrN z (s:=8) (by decide)];rfl
      · refine Nat.le_trans ?_ h2.2.2.1
        rw [Nat.pow_add,Nat.mul_comm (2^t),← Nat.mul_assoc]
        exact Nat.mul_le_mul_right _ (by simp only [show (2:Nat)^8=256 from rfl];omega)
      · refine Nat.lt_of_lt_of_le h2.2.2.2 ?_
        rw [Nat.pow_add,Nat.mul_comm (2^t),← Nat.mul_assoc]
        exact Nat.mul_le_mul_right _ (by simp only [show (2:Nat)^8=256 from rfl];omega)
    · exact ⟨z,t,by rw [if_neg h],by omega,by omega,by omega,h2.2.2⟩
  obtain ⟨w,hw,hw8,hw1,hw2⟩:=lenTab_at h3.2.1
  refine ⟨v+w,?_,by omega,?_,?_⟩
  · rw [hy,Option.bind_some,hz,Option.bind_some,hu,Option.bind_some,wu8 (by omega) (by omega),hw]
    simp only [Option.bind_some]
    rw [wi (n:=(w:Int)) (by omega) (by omega),wi (by omega) (by omega)]
    simp
  · refine Nat.lt_of_lt_of_le h3.2.2.2 ?_
    rw [Nat.pow_add,Nat.mul_comm]
    exact Nat.mul_le_mul_left _ (by omega)
  · rw [Nat.pow_add,Nat.mul_comm]
    have:=Nat.mul_le_mul_right (2^v) (hw2 h3.1)
    have h4:=h3.2.2.1
    rw [Nat.mul_assoc] at this
    omega
theorem lz64 (k:Nat) {y:Nat} (hy:y<18446744073709551616) (h0:y≠0):∃ s:Nat,g_mb_LeadingZeros64 k (y:Int)=some (s:Int)∧s≤63∧y*2^s<18446744073709551616∧9223372036854775808≤y*2^s:=by
  obtain ⟨n,h1,h2,h3,h4⟩:=len64 k hy h0
  have hn:1≤n:=by
    rcases Nat.eq_zero_or_pos n with rfl | h
    · simp at h3;omega
    · exact h
  refine ⟨64 - n,?_,by omega,?_,?_⟩
  · unfold g_mb_LeadingZeros64
    rw [h1,Option.bind_some,wi (by omega) (by omega)]
    congr 1
    omega
  · have:y*2^(64 - n)<2^n*2^(64 - n):=Nat.mul_lt_mul_of_pos_right h3 (Nat.two_pow_pos _)
    rw [← Nat.pow_add,show n+(64 - n)=64 by omega] at this
    exact this
  · have:2^n*2^(64 - n)≤2*y*2^(64 - n):=Nat.mul_le_mul_right _ h4
    rw [← Nat.pow_add,show n+(64 - n)=64 by omega,Nat.mul_assoc] at this
    simp only [show (2:Nat)^64=18446744073709551616 from rfl] at this
    omega
theorem div_l0 (k:Nat) {y e u:Nat} (hy:y<18446744073709551616) (hn:9223372036854775808≤y) (he:e<18446744073709551616) (hu:u<y):∀ (n q r:Nat),4294967296≤r+n*2147483648→r<4294967296→q*(y / 4294967296)+r=u→q≤4294967297→(u*4294967296+e / 4294967296) / y≤q →
    g_mb_Div64_l0 k (y:Int) (e:Int) n (q:Int) (r:Int)=some (((u*4294967296+e / 4294967296) / y:Nat):Int):=by
  intro n
  induction n with
  | zero=>intro q r h1 h2;omega
  | succ n ih =>
    intro q r h1 h2 h3 h4 h5
    rw [g_mb_Div64_l0.eq_2]
    have hyB:y / 4294967296<4294967296:=by omega
    have hd:e / 4294967296<4294967296:=by omega
    have hm:q*(y%4294967296)≤4294967297*4294967295:=Nat.mul_le_mul h4 (by omega)
    simp only [bd,and32 hy,shr32,Option.bind_some,← Int.natCast_mul,← Int.natCast_add]
    rw [wUl (n:=q*(y%4294967296)) (by omega),show (4294967296:Int)*(r:Int)=((4294967296*r:Nat):Int) from rfl,wUl (n:=4294967296*r) (by omega),← Int.natCast_add,wUl (n:=4294967296*r+e / 4294967296) (by omega),wUl (n:=r+y / 4294967296) (by omega)]
    have go:∀ b:Bool,(b=decide (4294967296≤q∨4294967296*r+e / 4294967296<q*(y%4294967296)))→((some b).bind fun x437=>(bif x437 then (if (4294967296:Int)≤((r+y / 4294967296:Nat):Int) then some (IntKind.wrap .u64 ((q:Int) - 1)) else (g_mb_Div64_l0 k (y:Int) (e:Int) n (IntKind.wrap .u64 ((q:Int) - 1)) ((r+y / 4294967296:Nat):Int))) else some (q:Int)))=some (((u*4294967296+e / 4294967296) / y:Nat):Int):=by
      rintro b rfl
      rw [Option.bind_some]
      by_cases hc:4294967296≤q∨4294967296*r+e / 4294967296<q*(y%4294967296)
      · rw [dt hc,bt]
        have hlt:=est_gt (B:=4294967296) (by decide) hu hd h3 hc
        have hq:1≤q:=Nat.lt_of_le_of_lt (Nat.zero_le _) hlt
        obtain ⟨q',rfl⟩:∃ q',q=q'+1:=⟨q - 1,by omega⟩
        have e3:q'*(y / 4294967296)+(r+y / 4294967296)=u:=by
          rw [Nat.add_mul] at h3;omega
        rw [show (((q'+1:Nat):Int) - 1)=((q':Nat):Int) by omega,wUl (n:=q') (by omega)]
        by_cases hb:4294967296≤r+y / 4294967296
        · rw [if_pos (by omega)]
          have:=est_stop (B:=4294967296) (y:=y) (d:=e / 4294967296) (by decide) (by omega) e3 (by omega) hb
          congr 1
          omega
        · rw [if_neg (by omega)]
          exact ih q' (r+y / 4294967296) (by omega) (by omega) e3 (by omega) (by omega)
      · rw [df hc,bf]
        have:=est_le (B:=4294967296) (y:=y) (u:=u) (d:=e / 4294967296) (q:=q) (r:=r) (by decide) (by omega) h3 (by omega)
        congr 1
        omega
    by_cases hq:4294967296≤q
    · rw [if_pos (by omega)]
      exact go true (by rw [dt (.inl hq)])
    · rw [if_neg (by omega)]
      refine go _ ?_
      congr 1
      exact propext ⟨fun h=>.inr (by omega),fun h=>by omega⟩
theorem div_l1 (k:Nat) {y e u:Nat} (hy:y<18446744073709551616) (hn:9223372036854775808≤y) (he:e<18446744073709551616) (hu:u<y):∀ (n q r:Nat),4294967296≤r+n*2147483648→r<4294967296→q*(y / 4294967296)+r=u→q≤4294967297→(u*4294967296+e%4294967296) / y≤q →
    g_mb_Div64_l1 k (y:Int) (e:Int) n (r:Int) (q:Int)=some (((u*4294967296+e%4294967296) / y:Nat):Int):=by
  intro n
  induction n with
  | zero=>intro q r h1 h2;omega
  | succ n ih =>
    intro q r h1 h2 h3 h4 h5
    rw [g_mb_Div64_l1.eq_2]
    have hyB:y / 4294967296<4294967296:=by omega
    have hd:e%4294967296<4294967296:=by omega
    have hm:q*(y%4294967296)≤4294967297*4294967295:=Nat.mul_le_mul h4 (by omega)
    simp only [bd,and32 hy,and32 he,shr32,Option.bind_some,← Int.natCast_mul,← Int.natCast_add]
    rw [wUl (n:=q*(y%4294967296)) (by omega),show (4294967296:Int)*(r:Int)=((4294967296*r:Nat):Int) from rfl,wUl (n:=4294967296*r) (by omega),← Int.natCast_add,wUl (n:=4294967296*r+e%4294967296) (by omega),wUl (n:=r+y / 4294967296) (by omega)]
    have go:∀ b:Bool,(b=decide (4294967296≤q∨4294967296*r+e%4294967296<q*(y%4294967296)))→((some b).bind fun x437=>(bif x437 then (if (4294967296:Int)≤((r+y / 4294967296:Nat):Int) then some (IntKind.wrap .u64 ((q:Int) - 1)) else (g_mb_Div64_l1 k (y:Int) (e:Int) n ((r+y / 4294967296:Nat):Int) (IntKind.wrap .u64 ((q:Int) - 1)))) else some (q:Int)))=some (((u*4294967296+e%4294967296) / y:Nat):Int):=by
      rintro b rfl
      rw [Option.bind_some]
      by_cases hc:4294967296≤q∨4294967296*r+e%4294967296<q*(y%4294967296)
      · rw [dt hc,bt]
        have hlt:=est_gt (B:=4294967296) (by decide) hu hd h3 hc
        have hq:1≤q:=Nat.lt_of_le_of_lt (Nat.zero_le _) hlt
        obtain ⟨q',rfl⟩:∃ q',q=q'+1:=⟨q - 1,by omega⟩
        have e3:q'*(y / 4294967296)+(r+y / 4294967296)=u:=by
          rw [Nat.add_mul] at h3;omega
        rw [show (((q'+1:Nat):Int) - 1)=((q':Nat):Int) by omega,wUl (n:=q') (by omega)]
        by_cases hb:4294967296≤r+y / 4294967296
        · rw [if_pos (by omega)]
          have:=est_stop (B:=4294967296) (y:=y) (d:=e%4294967296) (by decide) (by omega) e3 (by omega) hb
          congr 1
          omega
        · rw [if_neg (by omega)]
          exact ih q' (r+y / 4294967296) (by omega) (by omega) e3 (by omega) (by omega)
      · rw [df hc,bf]
        have:=est_le (B:=4294967296) (y:=y) (u:=u) (d:=e%4294967296) (q:=q) (r:=r) (by decide) (by omega) h3 (by omega)
        congr 1
        omega
    by_cases hq:4294967296≤q
    · rw [if_pos (by omega)]
      exact go true (by rw [dt (.inl hq)])
    · rw [if_neg (by omega)]
      refine go _ ?_
      congr 1
      exact propext ⟨fun h=>.inr (by omega),fun h=>by omega⟩
theorem digit_lt {y u d:Nat} (hu:u<y) (hd:d<4294967296):(u*4294967296+d) / y<4294967296:=by
  rw [Nat.div_lt_iff_lt_mul (by omega)]
  have:(u+1)*4294967296≤y*4294967296:=Nat.mul_le_mul_right _ hu
  omega
theorem div64 (k:Nat) (hk:3≤k) {hi lo y:Nat} (hlo:lo<18446744073709551616) (hy:y<18446744073709551616) (h:hi<y):g_mb_Div64 k (hi:Int) (lo:Int) (y:Int) =
    some ((((hi*18446744073709551616+lo) / y:Nat):Int),(((hi*18446744073709551616+lo)%y:Nat):Int)):=by
  unfold g_mb_Div64
  simp only [bd]
  rw [if_neg (show ¬ ((y:Int)=0) by omega),if_neg (show ¬ ((y:Int)≤(hi:Int)) by omega)]
  by_cases h0:hi=0
  · subst h0
    have e0:((y:Int)==0)=false:=by rw [beq_eq_false_iff_ne];omega
    rw [if_pos (show ((0:Nat):Int)=0 from rfl),e0]
    simp only [Bool.not_false,cond_true,td,tm,Nat.zero_mul,Nat.zero_add]
    have:lo / y≤lo:=Nat.div_le_self _ _
    rw [wUl (by omega)]
  · rw [if_neg (by omega)]
    obtain ⟨s,h1,h2,h3,h4⟩:=lz64 k hy (by omega)
    rw [h1,Option.bind_some,wUl (n:=s) (by omega)]
    simp only [if_pos (show (0:Int)≤(s:Int) by omega),Option.bind_some,shlN _ (show s≤64 by omega)]
    have e64:IntKind.wrap .u64 (64 - (s:Int))=((64 - s:Nat):Int):=by
      rw [show (64 - (s:Int))=((64 - s:Nat):Int) by omega,wUl (by omega)]
    rw [e64]
    simp only [if_pos (show (0:Int)≤((64 - s:Nat):Int) by omega),shrN _ (show 64 - s≤64 by omega)]
    rw [Nat.mod_eq_of_lt h3]
    have hp:2^s*2^(64 - s)=18446744073709551616:=by rw [← Nat.pow_add,show s+(64 - s)=64 by omega]
    have hps:=Nat.two_pow_pos s
    have hhi:hi*2^s<y*2^s:=Nat.mul_lt_mul_of_pos_right h hps
    -- the number,moved to the left
    have hlos:lo*2^s=lo / 2^(64 - s)*18446744073709551616+lo*2^s%18446744073709551616:=by
      have e1:lo*2^s / 18446744073709551616=lo / 2^(64 - s):=by
        rw [← hp,Nat.mul_comm lo,Nat.mul_div_mul_left _ _ hps]
      rw [← e1];omega
    have hloq:lo / 2^(64 - s)<2^s:=by
      rw [Nat.div_lt_iff_lt_mul (Nat.two_pow_pos _),hp];exact hlo
    rw [Nat.mod_eq_of_lt (show hi*2^s<18446744073709551616 by omega),orN (show hi*2^s<18446744073709551616 by omega) hloq (by have:lo / 2^(64 - s)≤lo:=Nat.div_le_self _ _;omega)]
    have hN:(hi*18446744073709551616+lo)*2^s=(hi*2^s+lo / 2^(64 - s))*18446744073709551616+lo*2^s%18446744073709551616:=by
      rw [Nat.add_mul,Nat.mul_right_comm,Nat.add_mul];omega
    have hu:hi*2^s+lo / 2^(64 - s)<y*2^s:=by
      have:(hi+1)*2^s≤y*2^s:=Nat.mul_le_mul_right _ h
      rw [Nat.add_mul] at this
      omega
    have hq:(hi*18446744073709551616+lo) / y=(hi*18446744073709551616+lo)*2^s / (y*2^s):=(Nat.mul_div_mul_right _ _ hps).symm
    have hr:(hi*18446744073709551616+lo)%y*2^s=(hi*18446744073709551616+lo)*2^s%(y*2^s):=(Nat.mul_mod_mul_right _ _ _).symm
    rw [hN] at hq hr
    have he:lo*2^s%18446744073709551616<18446744073709551616:=Nat.mod_lt _ (by decide)
    have hrs:(hi*18446744073709551616+lo)%y=((hi*2^s+lo / 2^(64 - s))*18446744073709551616+lo*2^s%18446744073709551616)%(y*2^s) / 2^s:=by
      rw [← hr,Nat.mul_div_cancel _ hps]
    rw [hq,hrs]
    clear hq hr hrs hN hhi hlos hloq
    generalize hi*2^s+lo / 2^(64 - s)=u at *
    generalize lo*2^s%18446744073709551616=e at *
    generalize y*2^s=z at *
    have hzB:z / 4294967296<4294967296:=by omega
    have hz1:2147483648≤z / 4294967296:=by omega
    have ez:(((z / 4294967296:Nat):Int)==0)=false:=by rw [beq_eq_false_iff_ne];omega
    -- one digit
    have dig:∀ (v d:Nat),v<z→d<4294967296→(v / (z / 4294967296)≤4294967297)∧(v*4294967296+d) / z≤v / (z / 4294967296)∧v / (z / 4294967296)*(z / 4294967296)+(v - v / (z / 4294967296)*(z / 4294967296))=v∧v - v / (z / 4294967296)*(z / 4294967296)<4294967296∧v / (z / 4294967296)*(z / 4294967296)≤v:=by
      intro v d hv hd
      have a1:=est_first (B:=4294967296) hv (by decide) (by omega)
      have a2:=est_ge (B:=4294967296) (y:=z) (u:=v) (d:=d) (by decide) (by omega) hd
      have a3:=Nat.div_mul_le_self v (z / 4294967296)
      have a4:v%(z / 4294967296)<z / 4294967296:=Nat.mod_lt _ (by omega)
      have a5:=Nat.div_add_mod v (z / 4294967296)
      rw [Nat.mul_comm] at a5
      exact ⟨a1,a2,by omega,by omega,a3⟩
    have step:∀ (v d:Nat),v<z→d<4294967296→(v*4294967296+d) / z*z+(v*4294967296+d)%z=v*4294967296+d∧(v*4294967296+d)%z<z:=by
      intro v d hv hd
      have:=Nat.div_add_mod (v*4294967296+d) z
      rw [Nat.mul_comm] at this
      exact ⟨this,Nat.mod_lt _ (by omega)⟩
    have modU:∀ (v d q:Nat),v<z→d<4294967296→q=(v*4294967296+d) / z→IntKind.wrap .u64 (IntKind.wrap .u64 ((IntKind.wrap .u64 ((v:Int)*4294967296))+(d:Int)) - IntKind.wrap .u64 (((q:Nat):Int)*((z:Nat):Int)))=(((v*4294967296+d)%z:Nat):Int):=by
      intro v d q hv hd hq
      obtain ⟨s1,s2⟩:=step v d hv hd
      rw [← hq] at s1
      rw [← Int.natCast_mul]
      simp only [wUi]
      generalize q*z=m at *
      generalize (v*4294967296+d)%z=w at *
      omega
    obtain ⟨d1,d2,d3,d4,d5⟩:=dig u (e / 4294967296) hu (by omega)
    rw [shr32,ez]
    simp only [Bool.not_false,cond_true,td]
    rw [wUl (n:=u / (z / 4294967296)) (by omega)]
    simp only [Option.bind_some,← Int.natCast_mul]
    rw [wUl (n:=u / (z / 4294967296)*(z / 4294967296)) (by omega),show ((u:Int) - ((u / (z / 4294967296)*(z / 4294967296):Nat):Int))=((u - u / (z / 4294967296)*(z / 4294967296):Nat):Int) by omega,wUl (n:=u - _) (by omega)]
    rw [div_l0 k h3 h4 he hu k _ _ (by omega) d4 d3 d1 d2]
    simp only [Option.bind_some,shr32]
    have m1:=modU u (e / 4294967296) _ hu (by omega) rfl
    rw [m1]
    obtain ⟨s1,s2⟩:=step u (e / 4294967296) hu (by omega)
    have g1:=digit_lt hu (show e / 4294967296<4294967296 by omega)
    have t:=two_digits (B:=4294967296) (y:=z) (u:=u) (d1:=e / 4294967296) (d0:=e%4294967296) (by omega)
    have eN:(u*4294967296+e / 4294967296)*4294967296+e%4294967296=u*18446744073709551616+e:=by omega
    rw [eN] at t
    rw [t.1,t.2]
    clear t eN m1 s1
    obtain ⟨v,hv⟩:∃ v,v=(u*4294967296+e / 4294967296)%z:=⟨_,rfl⟩
    obtain ⟨q1,hq1⟩:∃ v,v=(u*4294967296+e / 4294967296) / z:=⟨_,rfl⟩
    rw [← hv] at s2
    rw [← hq1] at g1
    rw [← hv,← hq1]
    clear d1 d2 d3 d4 d5 hv hq1
    obtain ⟨c1,c2,c3,c4,c5⟩:=dig v (e%4294967296) s2 (by omega)
    simp only [td]
    rw [wUl (n:=v / (z / 4294967296)) (by omega)]
    simp only [Option.bind_some,← Int.natCast_mul]
    rw [wUl (n:=v / (z / 4294967296)*(z / 4294967296)) (by omega),show ((v:Int) - ((v / (z / 4294967296)*(z / 4294967296):Nat):Int))=((v - v / (z / 4294967296)*(z / 4294967296):Nat):Int) by omega,wUl (n:=v - _) (by omega)]
    rw [div_l1 k h3 h4 he s2 k _ _ (by omega) c4 c3 c1 c2]
    simp only [Option.bind_some,and32 he]
    have m2:=modU v (e%4294967296) _ s2 (by omega) rfl
    have g2:=digit_lt s2 (show e%4294967296<4294967296 by omega)
    rw [m2,shrN _ (by omega)]
    obtain ⟨q0,hq0⟩:∃ w,w=(v*4294967296+e%4294967296) / z:=⟨_,rfl⟩
    rw [← hq0] at g2
    rw [← hq0]
    clear c1 c2 c3 c4 c5 m2
    have f1:(q1:Int)*4294967296=((q1*4294967296:Nat):Int):=by simp
    have f2:IntKind.wrap .u64 ((q1:Int)*4294967296)=((q1*4294967296:Nat):Int):=by rw [f1];exact wUl (by omega)
    have f3:IntKind.wrap .u64 (IntKind.wrap .u64 ((q1:Int)*4294967296)+(q0:Int))=((q1*4294967296+q0:Nat):Int):=by rw [f2,← Int.natCast_add];exact wUl (by omega)
    rw [f3]
def wh (v:Nat):Int:=((v / 18446744073709551616:Nat):Int)
def wl (v:Nat):Int:=((v%18446744073709551616:Nat):Int)
abbrev UU:Nat:=340282366920938463463374607431768211456
theorem wh_small {v:Nat} (h:v<18446744073709551616):wh v=0:=by unfold wh;rw [Nat.div_eq_of_lt h];rfl
theorem wl_small {v:Nat} (h:v<18446744073709551616):wl v=(v:Int):=by unfold wl;rw [Nat.mod_eq_of_lt h]
theorem wh_lt {v:Nat} (h:v<UU):v / 18446744073709551616<18446744073709551616:=by unfold UU at h;omega
theorem wide_zero (k:Nat) (a b:Int):g_dec_wide_zero k a b=some ():=rfl
theorem wide_or {v:Nat} (h:v<UU):(bits .or .u64 (wh v) (wl v)=0)↔v=0:=by
  unfold wh wl
  rw [or0 (wh_lt h) (Nat.mod_lt _ (by decide))]
  omega
theorem wide_or_small {v:Nat} (h:v<18446744073709551616):(bits .or .u64 0 (v:Int)=0)↔v=0:=by
  have:=or0 (a:=0) (b:=v) (by decide) h
  rw [show ((0:Nat):Int)=0 from rfl] at this
  rw [this]
  omega
theorem add64_eq (a b c:Nat):add64 (a:Int) (b:Int) (c:Int)=(((((a+b+c)%18446744073709551616:Nat)):Int),(((a+b+c) / 18446744073709551616:Nat):Int)):=by
  simp [add64,Extern.MathBitsCarry.m64]
theorem sub64_eq (a b c:Nat):sub64 (a:Int) (b:Int) (c:Int)=(((((a+18446744073709551616 - b - c)%18446744073709551616:Nat)):Int),((if a<b+c then 1 else 0:Nat):Int)):=by
  simp [sub64,Extern.MathBitsCarry.m64]
theorem wide_times (k:Nat) {v n:Nat} (hv:v<UU) (hn:n<4294967296):∃ x:Int,g_dec_wide_times k (wh v) (wl v) (n:Int)=some (decide (v*n<UU),x)∧(v*n<UU→x=wh (v*n)):=by
  unfold g_dec_wide_times
  have h1:=wh_lt hv
  have h2:=Nat.mod_lt v (show 0<18446744073709551616 by decide)
  have e:v=v / 18446744073709551616*18446744073709551616+v%18446744073709551616:=by omega
  unfold wh wl
  rw [mul64 k h2 (by omega),Option.bind_some,mul64 k h1 (by omega),Option.bind_some,← Int.natCast_mul,wU,show (0:Int)=((0:Nat):Int) from rfl,add64_eq]
  generalize hA:v / 18446744073709551616=a at *
  generalize hB:v%18446744073709551616=b at *
  have hp:a*n≤18446744073709551615*n:=Nat.mul_le_mul_right _ (by omega)
  have hq:b*n≤18446744073709551615*n:=Nat.mul_le_mul_right _ (by omega)
  have ev:v*n=a*n*18446744073709551616+b*n:=by rw [e,Nat.add_mul,Nat.mul_right_comm]
  rw [ev]
  simp only [Option.bind_some]
  have hov:a*n / 18446744073709551616≤4294967295:=by omega
  generalize a*n=p at *
  generalize b*n=q at *
  rw [← Int.natCast_add,wUl (by omega)]
  refine ⟨(((q / 18446744073709551616+p%18446744073709551616+0)%18446744073709551616:Nat):Int),?_,fun hlt=>?_⟩
  · refine congrArg some (Prod.ext ?_ rfl)
    simp only [decide_eq_decide]
    unfold UU
    omega
  · unfold UU at hlt
    congr 1
    omega
theorem wide_times_lo {v n:Nat}:IntKind.wrap .u64 (wl v*(n:Int))=wl (v*n):=by
  unfold wl
  rw [← Int.natCast_mul,wU]
  congr 1
  simp [Nat.mul_mod]
theorem wide_by (k:Nat) (hk:3≤k) {v:Nat} (hv:v<UU):g_dec_wide_by k (wh v) (wl v) 10=some (((v%10:Nat):Int),wh (v / 10),wl (v / 10)):=by
  unfold g_dec_wide_by
  have h1:=wh_lt hv
  have h2:=Nat.mod_lt v (show 0<18446744073709551616 by decide)
  unfold wh wl
  have d1:=div64 k hk (hi:=0) (lo:=v / 18446744073709551616) (y:=10) h1 (by decide) (by decide)
  rw [show ((0:Nat):Int)=0 from rfl,show ((10:Nat):Int)=10 from rfl] at d1
  rw [d1,Option.bind_some]
  simp only [Nat.zero_mul,Nat.zero_add]
  have d2:=div64 k hk (hi:=v / 18446744073709551616%10) (lo:=v%18446744073709551616) (y:=10) h2 (by decide) (Nat.mod_lt _ (by decide))
  rw [show ((10:Nat):Int)=10 from rfl] at d2
  rw [d2,Option.bind_some]
  congr 2
  · congr 1;omega
  · congr 2
    · omega
    · omega
theorem wide_tens_l0 (k:Nat) {m:Nat}:∀ (n i v:Nat),i≤m→m - i+1<n→m<1000000→v<UU→∃ (b:Bool) (x y:Int),g_dec_wide_tens_l0 k (m:Int) n true (i:Int) (wh v) (wl v)=some (b,x,y) ∧
    (b=true→v*10^(m - i)<UU∧x=wh (v*10^(m - i))∧y=wl (v*10^(m - i)))∧(b=false→UU≤v*10^(m - i)):=by
  intro n
  induction n with
  | zero=>intro i v _ h;omega
  | succ n ih =>
    intro i v hi hn hm hv
    rw [g_dec_wide_tens_l0.eq_2]
    simp only [bd,wide_zero,Option.bind_some,cond_true]
    by_cases him:i<m
    · rw [if_pos (by omega),Option.bind_some]
      by_cases h0:v=0
      · rw [dt ((wide_or hv).2 h0)]
        refine ⟨true,wh v,wl v,rfl,fun _=>?_,fun h=>by cases h⟩
        rw [h0];simp
      · rw [df (fun h=>h0 ((wide_or hv).1 h))]
        obtain ⟨x,h1,h2⟩:=wide_times k hv (n:=10) (by decide)
        simp only [Bool.not_false,cond_true]
        rw [show (10:Int)=((10:Nat):Int) from rfl,h1,Option.bind_some,wi (by omega) (by omega),wide_times_lo]
        by_cases hlt:v*10<UU
        · rw [dt hlt,h2 hlt,show ((i:Int)+1)=((i+1:Nat):Int) by omega]
          have e:v*10^(m - i)=v*10*10^(m - (i+1)):=by
            rw [show m - i=(m - (i+1))+1 by omega,Nat.pow_succ,Nat.mul_assoc,Nat.mul_comm 10]
          rw [e]
          exact ih (i+1) (v*10) (by omega) (by omega) hm hlt
        · rw [df hlt]
          have hbig:UU≤v*10^(m - i):=by
            obtain ⟨j,hj⟩:∃ j,m - i=j+1:=⟨m - i - 1,by omega⟩
            rw [hj,Nat.pow_succ,Nat.mul_comm (10^j),← Nat.mul_assoc]
            exact Nat.le_trans (Nat.le_of_not_lt hlt) (Nat.le_mul_of_pos_right _ (Nat.pow_pos (by decide)))
          obtain ⟨n',rfl⟩:∃ n',n=n'+1:=⟨n - 1,by omega⟩
          rw [g_dec_wide_tens_l0.eq_2]
          refine ⟨false,x,wl (v*10),?_,(fun h=>by cases h),fun _=>hbig⟩
          simp only [cond_false,bd]
          split <;> rfl
    · rw [if_neg (by omega)]
      refine ⟨true,wh v,wl v,rfl,fun _=>?_,fun h=>by cases h⟩
      rw [show m - i=0 by omega];simp [hv]
theorem wide_tens (k:Nat) {v m:Nat} (hv:v<UU) (hm:m<1000000) (hk:m+2≤k):∃ (b:Bool) (x y:Int),g_dec_wide_tens k (wh v) (wl v) (m:Int)=some (b,x,y) ∧
    (b=true→v*10^m<UU∧x=wh (v*10^m)∧y=wl (v*10^m))∧(b=false→UU≤v*10^m):=by
  unfold g_dec_wide_tens
  obtain ⟨b,x,y,h1,h2,h3⟩:=wide_tens_l0 k (m:=m) k 0 v (Nat.zero_le _) (by omega) hm hv
  rw [show ((0:Nat):Int)=0 from rfl] at h1
  rw [h1]
  exact ⟨b,x,y,rfl,h2,h3⟩
def cmpN (v w:Nat):Int:=if v=w then 0 else if v<w then -1 else 1
theorem wide_cmp (k:Nat) {v w:Nat} (hv:v<UU) (hw:w<UU):g_dec_wide_cmp k (wh v) (wl v) (wh w) (wl w)=some (cmpN v w):=by
  unfold g_dec_wide_cmp cmpN
  simp only [Option.bind_some,bd,Bool.and_true]
  unfold wh wl
  have h1:=wh_lt hv
  have h2:=wh_lt hw
  by_cases h:v=w
  · subst h;simp
  · rw [if_neg h]
    have hne:(decide (((v / 18446744073709551616:Nat):Int)=((w / 18446744073709551616:Nat):Int))&&decide (((v%18446744073709551616:Nat):Int)=((w%18446744073709551616:Nat):Int)))=false:=by
      rw [Bool.and_eq_false_iff]
      by_cases h3:v / 18446744073709551616=w / 18446744073709551616
      · exact .inr (df (by omega))
      · exact .inl (df (by omega))
    rw [hne,bf]
    by_cases hlt:v<w
    · rw [if_pos hlt]
      by_cases h3:v / 18446744073709551616<w / 18446744073709551616
      · rw [if_pos (by omega)];rfl
      · rw [if_neg (by omega),if_pos (by omega),Option.bind_some,dt (by omega)];rfl
    · rw [if_neg hlt]
      by_cases h3:v / 18446744073709551616=w / 18446744073709551616
      · rw [if_neg (by omega),if_pos (by omega),Option.bind_some,df (by omega)];rfl
      · rw [if_neg (by omega),if_neg (by omega)];rfl
theorem wide_plus (k:Nat) {v w:Nat} (hv:v<UU) (hw:w<UU):g_dec_wide_plus k (wh v) (wl v) (wh w) (wl w)=some (decide (v+w<UU)):=by
  unfold g_dec_wide_plus
  have h1:=wh_lt hv
  have h2:=wh_lt hw
  unfold wh wl
  rw [show (0:Int)=((0:Nat):Int) from rfl,add64_eq]
  simp only
  rw [add64_eq]
  simp only [Int.toNat_natCast,bd]
  rw [if_pos (by omega),Option.bind_some]
  congr 1
  rw [decide_eq_decide]
  unfold UU
  omega
theorem wide_plus_val {v w:Nat} (hv:v<UU) (hw:w<UU) (h:v+w<UU):(add64 (wh v) (wh w) ((add64 (wl v) (wl w) 0).2)).1=wh (v+w)∧(add64 (wl v) (wl w) 0).1=wl (v+w):=by
  have h1:=wh_lt hv
  have h2:=wh_lt hw
  unfold wh wl
  rw [show (0:Int)=((0:Nat):Int) from rfl,add64_eq]
  simp only
  rw [add64_eq]
  simp only
  unfold UU at h
  constructor
  · congr 1;omega
  · congr 1;omega
theorem wide_less (k:Nat) {v w:Nat}:g_dec_wide_less k (wh v) (wl v) (wh w) (wl w)=some ():=by
  unfold g_dec_wide_less
  unfold wl
  rw [show (0:Int)=((0:Nat):Int) from rfl,sub64_eq]
  simp only [Int.toNat_natCast,bd]
  rw [if_pos (by split <;> omega)]
theorem wide_less_val {v w:Nat} (hv:v<UU) (h:w≤v):(sub64 (wh v) (wh w) ((sub64 (wl v) (wl w) 0).2)).1=wh (v - w)∧(sub64 (wl v) (wl w) 0).1=wl (v - w):=by
  have h1:=wh_lt hv
  have h2:=wh_lt (Nat.lt_of_le_of_lt h hv)
  unfold wh wl
  rw [show (0:Int)=((0:Nat):Int) from rfl,sub64_eq]
  simp only
  rw [sub64_eq]
  simp only
  constructor
  · congr 1
    split <;> omega
  · congr 1;omega
def sgn (neg:Bool) (v:Nat):Int:=if neg then -(v:Int) else (v:Int)
theorem sgn_mul {neg:Bool} {v w:Nat}:sgn neg (v*w)=sgn neg v*(w:Int):=by
  cases neg <;> simp [sgn,Int.neg_mul]
theorem sgn_zero {neg:Bool}:sgn neg 0=0:=by cases neg <;> simp [sgn]
theorem sgn_ne {neg:Bool} {v:Nat} (h:v≠0):sgn neg v≠0:=by cases neg <;> simp [sgn] <;> omega
theorem sgn_dvd {neg:Bool} {v:Nat}:(10:Int) ∣ sgn neg v↔v%10=0:=by
  cases neg <;> simp [sgn] <;> omega
theorem sgn_abs {neg:Bool} {v:Nat}:(sgn neg v).natAbs=v:=by cases neg <;> simp [sgn]
theorem tell_l0 (k:Nat) (hk:3≤k):∀ (d n v:Nat) (e:Int),d≤n→v≠0→v<UU→v<10^d → -4000≤e→e+d≤5000→∃ (w j:Nat),v=w*10^j∧w%10≠0∧j≤d ∧
    g_dec_num_tell_l0 k n ((v%10:Nat):Int) (wh v) (wl v) e (wh (v / 10)) (wl (v / 10))=some (wh w,wl w,e+j):=by
  intro d
  induction d with
  | zero=>intro n v e _ h0 _ h;simp at h;omega
  | succ d ih =>
    intro n v e hdn h0 hU h he1 he2
    obtain ⟨n,rfl⟩:∃ n',n=n'+1:=⟨n - 1,by omega⟩
    rw [g_dec_num_tell_l0.eq_2]
    simp only [bd]
    by_cases hr:v%10=0
    · rw [if_pos (by omega),wide_by k hk (v:=v / 10) (by unfold UU at *;omega),Option.bind_some]
      rw [Nat.pow_succ] at h
      obtain ⟨w,j,h1,h2,h3,h4⟩:=ih n (v / 10) (e+1) (by omega) (by omega) (by unfold UU at *;omega) (by omega) (by omega) (by omega)
      refine ⟨w,j+1,?_,h2,by omega,?_⟩
      · rw [Nat.pow_succ,← Nat.mul_assoc,← h1];omega
      · rw [wi (by omega) (by omega)]
        simp only
        rw [h4]
        congr 3
        omega
    · rw [if_neg (by omega)]
      exact ⟨v,0,by simp,hr,by omega,by simp⟩
def topN (neg:Bool):Nat:=if neg then 9223372036854775808 else 9223372036854775807
theorem in_range {neg:Bool} {w:Nat}:(-9223372036854775808≤sgn neg w∧sgn neg w≤9223372036854775807)↔w≤topN neg:=by
  cases neg <;> simp [sgn,topN] <;> omega
theorem neg_wrap {u:Nat} (h:u≤9223372036854775808):IntKind.wrap .i64 (0 - (IntKind.wrap .i64 (u:Int))) = -(u:Int):=by
  rw [IntKind.wrap_i64,IntKind.wrap_i64];omega
theorem num_tell (k:Nat) (hk:60≤k) {neg:Bool} {v:Nat} {e:Int} (hv:v<UU) (he1 : -4000≤e) (he2:e≤4000):∃ er c x:Int,g_dec_num_tell k neg (wh v) (wl v) e=some (er,c,x)∧Tells (·=val (sgn neg v) e) ((c,x),er):=by
  unfold g_dec_num_tell
  simp only [wide_zero,Option.bind_some,bd]
  by_cases h0:v=0
  · rw [if_pos ((wide_or hv).2 h0)]
    refine ⟨0,0,0,rfl,?_⟩
    rw [h0,sgn_zero]
    exact tells_zero
  · rw [if_neg (fun h=>h0 ((wide_or hv).1 h)),wide_by k (by omega) hv,Option.bind_some]
    obtain ⟨w,j,h1,h2,h3,h4⟩:=tell_l0 k (by omega) 39 k v e (by omega) h0 hv (Nat.lt_of_lt_of_le hv (by decide)) (by omega) (by omega)
    simp only
    rw [h4,Option.bind_some]
    have hwv:w≤v:=by rw [h1];exact Nat.le_mul_of_pos_right _ (Nat.pow_pos (by decide))
    have hw:w<UU:=Nat.lt_of_le_of_lt hwv hv
    have hw0:w≠0:=by rintro rfl;simp at h2
    have hval:val (sgn neg v) e=val (sgn neg w) (e+j):=by
      rw [h1,sgn_mul]
      have:((10^j:Nat):Int)=(10:Int)^j:=by simp
      rw [this,val_shift (by omega)]
    rw [hval]
    have hm:sgn neg w≠0:=sgn_ne hw0
    have hd:¬ (10:Int) ∣ sgn neg w:=fun h=>h2 (sgn_dvd.1 h)
    clear hval h1 h4 h0 hv hwv
    generalize he':e+(j:Int)=f at *
    have hf : -4000≤f∧f≤4039:=by omega
    clear he' he1 he2 h3
    -- what comes behind the size is known
    have top:((bif neg then some (IntKind.wrap .u64 (9223372036854775807+1)) else some 9223372036854775807):Option Int)=some ((topN neg:Nat):Int):=by
      cases neg
      · rfl
      · simp only [cond_true]
        have:IntKind.wrap .u64 (9223372036854775807+1)=9223372036854775808:=by decide
        rw [this];rfl
    have fin:∀ (u t:Nat) (x:Int),u=w*10^t→u<UU→x=(if f > 18 then 18 else f)→(t:Int)=f - x→∃ er c x':Int,
        (((bif (!true) then some true else if x < -18 then some true else if 0 < wh u then some true else some (decide (((topN neg : Nat) : Int) < wl u))) : Option Bool).bind fun x889 =>
          bif x889 then some (30,0,0) else (((bif neg then some (IntKind.wrap .i64 (0 - (IntKind.wrap .i64 (wl u)))) else some (IntKind.wrap .i64 (wl u))):Option Int).bind fun x897=>some (0,x897,x)))=some (er,c,x')∧Tells (·=val (sgn neg w) f) ((c,x'),er):=by
      intro u t x hu huU hx ht
      have hsu:sgn neg u=sgn neg w*10^(f - x).toNat:=by
        rw [hu,sgn_mul,show (f - x).toNat=t by omega];simp
      rw [Bool.not_true,bf]
      by_cases hx18:x < -18
      · rw [if_pos hx18,Option.bind_some,bt]
        refine ⟨30,0,0,rfl,tells_none hm hd (by omega) (.inl ?_)⟩
        split at hx <;> omega
      · rw [if_neg hx18]
        have hb:((if 0<wh u then some true else some (decide (((topN neg:Nat):Int)<wl u))):Option Bool)=some (decide (topN neg<u)):=by
          have htn:topN neg<18446744073709551616:=by unfold topN;split <;> decide
          unfold wh wl
          by_cases hh:u / 18446744073709551616=0
          · rw [if_neg (by omega)]
            congr 1
            rw [decide_eq_decide]
            omega
          · rw [if_pos (by omega),dt (by omega)]
        rw [hb,Option.bind_some]
        by_cases hu2:topN neg<u
        · rw [dt hu2,bt]
          refine ⟨30,0,0,rfl,?_⟩
          have hnr:¬ (-9223372036854775808≤sgn neg u∧sgn neg u≤9223372036854775807):=by rw [in_range];omega
          by_cases hf18:f > 18
          · rw [if_pos hf18] at hx
            subst hx
            rw [hsu] at hnr
            exact tells_none hm hd (by omega) (.inr hnr)
          · rw [if_neg hf18] at hx
            subst hx
            have ht0:t=0:=by omega
            subst ht0
            rw [hsu] at hnr
            refine tells_none hm hd (by omega) (.inr ?_)
            rw [show (x - 18).toNat=(x - x).toNat by omega]
            exact hnr
        · rw [df hu2,bf]
          have hr:=in_range.2 (Nat.le_of_not_lt hu2)
          have ht2:topN neg≤9223372036854775808:=by unfold topN;split <;> decide
          rw [wl_small (show u<18446744073709551616 by omega)]
          refine ⟨0,sgn neg u,x,?_,tells_some hm hd (by omega) ⟨hx,hsu,by omega,hr.1,hr.2⟩⟩
          cases neg
          · simp only [sgn,Bool.false_eq_true,if_false] at hr ⊢
            rw [bf,wi (n:=(u:Int)) (by omega) (by omega)];rfl
          · simp only [sgn,if_true,cond_true,Option.bind_some] at hr ⊢
            rw [neg_wrap (Nat.le_trans (Nat.le_of_not_lt hu2) ht2)]
    by_cases hf18:18<f
    · rw [if_pos hf18,wi (n:=f - 18) (by omega) (by omega)]
      obtain ⟨m,hm40⟩:∃ m:Nat,(if (40:Int)<f - 18 then (40:Int) else f - 18)=(m:Int):=⟨(if (40:Int)<f - 18 then (40:Int) else f - 18).toNat,by split <;> omega⟩
      have hm':(f≤58∧(m:Int)=f - 18)∨(58<f∧m=40):=by split at hm40 <;> omega
      rw [hm40]
      simp only [Option.bind_some]
      obtain ⟨b,x,y,t1,t2,t3⟩:=wide_tens k (m:=m) hw (by omega) (by omega)
      rw [t1]
      simp only [Option.bind_some]
      -- too great
      have big:UU≤w*10^(f - 18).toNat→Tells (·=val (sgn neg w) f) ((0,0),30):=by
        intro hb
        refine tells_none hm hd (by omega) (.inr ?_)
        have:sgn neg w*10^(f - 18).toNat=sgn neg (w*10^(f - 18).toNat):=by rw [sgn_mul];simp
        rw [this,in_range]
        unfold UU at hb
        have ht2:topN neg≤9223372036854775808:=by unfold topN;split <;> decide
        omega
      by_cases hf58:58<f
      · rw [if_pos hf58,Option.bind_some]
        simp only [top,Option.bind_some,Bool.not_false,cond_true]
        refine ⟨30,0,0,rfl,big ?_⟩
        have h41:10^41≤10^(f - 18).toNat:=Nat.pow_le_pow_right (by decide) (by omega)
        have:1*10^41≤w*10^(f - 18).toNat:=Nat.mul_le_mul (by omega) h41
        exact Nat.le_trans (by decide) this
      · rw [if_neg hf58,Option.bind_some]
        have hmf:(f - 18).toNat=m:=by omega
        cases b with
        | false =>
          simp only [top,Option.bind_some,Bool.not_false,cond_true]
          exact ⟨30,0,0,rfl,big (by rw [hmf];exact t3 rfl)⟩
        | true =>
          obtain ⟨u1,u2,u3⟩:=t2 rfl
          simp only [top,Option.bind_some,u2,u3]
          exact fin _ m 18 rfl u1 (by rw [if_pos hf18]) (by omega)
    · rw [if_neg hf18,Option.bind_some]
      simp only [top,Option.bind_some]
      exact fin w 0 f (by simp) hw (by rw [if_neg (by omega)]) (by omega)
theorem getD_ix {l:List Int} {i:Nat} (h:i<l.length):ix l (i:Int)=some (l.getD i 0):=by
  rw [ix_nat h,List.getD_eq_getElem?_getD,List.getElem?_eq_getElem h];rfl
theorem trim_l0 (k:Nat) {l:List Int} (hl:l.length≤100000):∀ (n m:Nat),m<n→m≤l.length→(∀ i,m≤i→i<l.length→l.getD i 0=0) →
    ∃ r:Nat,g_r9_trim_l0 k l n (m:Int)=some (r:Int)∧r≤l.length∧(∀ i,r≤i→i<l.length→l.getD i 0=0)∧(r≠0→l.getD (r - 1) 0≠0):=by
  intro n
  induction n with
  | zero=>intro m h;omega
  | succ n ih =>
    intro m h1 h2 h3
    rw [g_r9_trim_l0.eq_2]
    simp only [bd]
    by_cases hm:m=0
    · subst hm
      exact ⟨0,by simp,by omega,h3,fun h=>absurd rfl h⟩
    · obtain ⟨j,rfl⟩:∃ j,m=j+1:=⟨m - 1,by omega⟩
      rw [if_pos (by omega),show (((j+1:Nat):Int) - 1)=(j:Int) by omega,wi (by omega) (by omega),getD_ix (by omega)]
      simp only [Option.bind_some]
      by_cases hz:l.getD j 0=0
      · rw [dt hz,bt]
        refine ih j (by omega) (by omega) fun i hi hl=>?_
        by_cases hij:i=j
        · subst hij;exact hz
        · exact h3 i (by omega) hl
      · rw [df hz,bf]
        exact ⟨j+1,rfl,h2,h3,fun _=>hz⟩
theorem trim (k:Nat) {neg:Bool} {l:List Int} (hl:l.length≤100000) (hd:Dig l) (hk:l.length<k):g_r9_trim k neg l=some (neg&&decide (nval l≠0),digs (nval l)):=by
  unfold g_r9_trim
  obtain ⟨r,h1,h2,h3,h4⟩:=trim_l0 k hl k l.length (by omega) (Nat.le_refl _) (fun i hi hl=>by omega)
  rw [h1,Option.bind_some]
  have hn:=digs_nval hd h2 h3 h4
  simp only [bd]
  by_cases hr:r=0
  · subst hr
    rw [if_pos (by simp)]
    have:nval l=0:=by rw [← nval_digs (nval l),hn];rfl
    rw [this,digs_zero];simp
  · rw [if_neg (by omega),if_pos (by omega),if_pos (by simp;omega)]
    have hne:nval l≠0:=by
      intro h0
      rw [h0,digs_zero] at hn
      have:=congrArg List.length hn
      simp at this
      omega
    rw [hn]
    simp [hne]
theorem at_ (k:Nat) (neg:Bool) (l:List Int) (i:Nat):g_r9_at k neg l (i:Int)=some (l.getD i 0):=by
  unfold g_r9_at
  simp only [bd]
  rw [if_pos (by omega)]
  simp only [Option.bind_some]
  by_cases h:i<l.length
  · rw [dt (by omega),bt,getD_ix h];rfl
  · rw [df (by omega),bf,List.getD_eq_getElem?_getD,List.getElem?_eq_none (by omega)];rfl
theorem step10 (n i:Nat):n / 10^i=10*(n / 10^(i+1))+n / 10^i%10:=by
  rw [Nat.pow_succ,← Nat.div_div_eq_div_mul];omega
theorem gone10 {n i:Nat} (h:(digs n).length≤i):n / 10^i=0:=by
  rw [Nat.div_eq_of_lt]
  exact Nat.lt_of_lt_of_le digs_lt (Nat.pow_le_pow_right (by decide) h)
theorem sum_l0 (k:Nat) (p q:Bool) {a b:Nat} (ha:(digs a).length≤10000) (hb:(digs b).length≤10000):∀ (n i c:Nat) (acc:List Int),i≤(digs a).length+(digs b).length+1→(digs a).length+(digs b).length+1<n+i→c≤1→acc.length=i→Dig acc →
    nval acc+10^i*(c+a / 10^i+b / 10^i)=a+b→(i≤(digs a).length∨i≤(digs b).length∨c=0) →
    ∃ r,g_r9_sum_l0 k p (digs a) q (digs b) n (c:Int) (i:Int) acc=some r∧Dig r∧nval r=a+b∧r.length≤(digs a).length+(digs b).length+1:=by
  intro n
  induction n with
  | zero=>intro i c acc h1 h2;omega
  | succ n ih =>
    intro i c acc h1 h2 hc hlen hd hv hz
    rw [g_r9_sum_l0.eq_2]
    simp only [Option.bind_some,bd]
    by_cases hle:i≤(digs a).length∨i≤(digs b).length
    · have e1:(if (i:Int)≤(((digs a).length:Nat):Int) then some true else some (decide ((i:Int)≤(((digs b).length:Nat):Int))))=some true:=by
        rcases hle with h | h
        · rw [if_pos (by omega)]
        · rw [dt (by omega)];simp
      rw [e1,Option.bind_some,bt,at_,at_,digs_at,digs_at]
      simp only [Option.bind_some]
      have sa:=step10 a i
      have sb:=step10 b i
      have la:a / 10^i%10<10:=Nat.mod_lt _ (by decide)
      have lb:b / 10^i%10<10:=Nat.mod_lt _ (by decide)
      -- no digit behind
      have hz':i≤(digs a).length∧i+1≤(digs a).length∨i+1≤(digs b).length∨(a / 10^i%10+b / 10^i%10+c) / 10=0:=by
        by_cases h3:i+1≤(digs a).length
        · exact .inl ⟨by omega,h3⟩
        · by_cases h4:i+1≤(digs b).length
          · exact .inr (.inl h4)
          · have z1:=gone10 (n:=a) (i:=i) (by omega)
            have z2:=gone10 (n:=b) (i:=i) (by omega)
            rw [z1,z2]
            exact .inr (.inr (by omega))
      generalize a / 10^i%10=x at *
      generalize b / 10^i%10=y at *
      rw [← Int.natCast_add,wi (n:=((x+y:Nat):Int)) (by omega) (by omega),← Int.natCast_add,wi (n:=((x+y+c:Nat):Int)) (by omega) (by omega)]
      simp only [show (10:Int)=((10:Nat):Int) from rfl,tm,td]
      rw [if_pos (by simp;omega),wi (n:=(i:Int)+1) (by omega) (by omega),show ((i:Int)+1)=((i+1:Nat):Int) by omega,wi (n:=(((x+y+c) / 10:Nat):Int)) (by omega) (by omega)]
      refine ih (i+1) ((x+y+c) / 10) _ (by omega) (by omega) (by omega) (by simp [hlen]) (hd.app (Dig.cons (by omega) (by omega) Dig.nil)) ?_ (by omega)
      rw [nval_app,hlen]
      simp only [nval,Int.toNat_natCast,Nat.mul_zero,Nat.add_zero]
      rw [← hv,sa,sb,Nat.pow_succ,Nat.add_assoc,Nat.mul_assoc,← Nat.mul_add]
      congr 2
      omega
    · have e1:(if (i:Int)≤(((digs a).length:Nat):Int) then some true else some (decide ((i:Int)≤(((digs b).length:Nat):Int))))=some false:=by
        rw [if_neg (by omega),df (by omega)]
      rw [e1,Option.bind_some,bf]
      refine ⟨acc,rfl,hd,?_,by omega⟩
      have z1:=gone10 (n:=a) (i:=i) (by omega)
      have z2:=gone10 (n:=b) (i:=i) (by omega)
      have hc0:c=0:=by omega
      rw [z1,z2,hc0] at hv
      simpa using hv
theorem sum_ (k:Nat) (p q:Bool) {a b:Nat} (ha:(digs a).length≤10000) (hb:(digs b).length≤10000) (hk:30000≤k):∃ r,g_r9_sum k p (digs a) q (digs b)=some r∧Dig r∧nval r=a+b∧r.length≤(digs a).length+(digs b).length+1:=by
  unfold g_r9_sum
  obtain ⟨r,h1,h2,h3,h4⟩:=sum_l0 k p q ha hb k 0 0 [] (by omega) (by omega) (by omega) rfl Dig.nil (by simp [nval]) (by omega)
  rw [show ((0:Nat):Int)=0 from rfl] at h1
  rw [h1]
  exact ⟨r,rfl,h2,h3,h4⟩
theorem more_l0 (k:Nat) (p q:Bool) {a b:Nat} (ha:(digs a).length≤10000) (hb:(digs b).length≤10000):∀ (n i:Nat),i<n→i≤30000→a / 10^i=b / 10^i →
    (cmpN a b=0→g_r9_more_l0 k p (digs a) q (digs b) n ((i:Int) - 1)=some (Sum.inr ()))∧(cmpN a b≠0→g_r9_more_l0 k p (digs a) q (digs b) n ((i:Int) - 1)=some (Sum.inl (cmpN a b))):=by
  intro n
  induction n with
  | zero=>intro i h;omega
  | succ n ih =>
    intro i h1 h2 h3
    rw [g_r9_more_l0.eq_2]
    simp only [bd]
    by_cases h0:i=0
    · subst h0
      have:a=b:=by simpa using h3
      subst this
      rw [if_neg (by omega)]
      simp [cmpN]
    · obtain ⟨j,rfl⟩:∃ j,i=j+1:=⟨i - 1,by omega⟩
      rw [show ((j+1:Nat):Int) - 1=(j:Int) by omega,if_pos (by omega)]
      simp only [at_,digs_at,Option.bind_some]
      have sa:=step10 a j
      have sb:=step10 b j
      have hgt:∀ {x y:Nat},y / 10^j<x / 10^j→y<x:=fun h=>by
        apply Nat.lt_of_not_le
        intro hle
        have:=Nat.div_le_div_right (c:=10^j) hle
        omega
      by_cases hlt:b / 10^j%10<a / 10^j%10
      · rw [if_pos (by omega)]
        have:=hgt (x:=a) (y:=b) (by omega)
        have hc:cmpN a b=1:=by unfold cmpN;rw [if_neg (by omega),if_neg (by omega)]
        rw [hc];simp
      · rw [if_neg (by omega)]
        by_cases hlt2:a / 10^j%10<b / 10^j%10
        · rw [if_pos (by omega)]
          have:=hgt (x:=b) (y:=a) (by omega)
          have hc:cmpN a b = -1:=by unfold cmpN;rw [if_neg (by omega),if_pos (by omega)]
          rw [hc];simp
        · rw [if_neg (by omega),wi (by omega) (by omega)]
          exact ih j (by omega) (by omega) (by omega)
theorem more (k:Nat) (p q:Bool) {a b:Nat} (ha:(digs a).length≤10000) (hb:(digs b).length≤10000) (hk:30000≤k):g_r9_more k p (digs a) q (digs b)=some (cmpN a b):=by
  unfold g_r9_more
  rw [wi (by omega) (by omega),Option.bind_some]
  have z1:=gone10 (n:=a) (i:=(digs a).length+(digs b).length+1) (by omega)
  have z2:=gone10 (n:=b) (i:=(digs a).length+(digs b).length+1) (by omega)
  obtain ⟨h1,h2⟩:=more_l0 k p q ha hb k ((digs a).length+(digs b).length+1) (by omega) (by omega) (by rw [z1,z2])
  rw [show (((digs a).length+(digs b).length+1:Nat):Int) - 1=(((digs a).length:Nat):Int)+(((digs b).length:Nat):Int) by omega] at h1 h2
  by_cases h:cmpN a b=0
  · rw [h1 h,h];rfl
  · rw [h2 h];rfl
theorem less_l0 (k:Nat) (p q:Bool) {a b:Nat} (ha:(digs a).length≤10000) (hb:(digs b).length≤10000) (hab:b≤a):∀ (n i c:Nat) (acc:List Int),i≤(digs a).length→(digs a).length<n+i→c≤1→acc.length=i→Dig acc →
    nval acc+10^i*(a / 10^i)+b=a+10^i*(b / 10^i+c) →
    ∃ r,g_r9_less_l0 k p (digs a) q (digs b) n (c:Int) (i:Int) acc=some r∧Dig r∧nval r=a - b∧r.length≤(digs a).length:=by
  intro n
  induction n with
  | zero=>intro i c acc h1 h2;omega
  | succ n ih =>
    intro i c acc h1 h2 hc hlen hd hv
    rw [g_r9_less_l0.eq_2]
    simp only [Option.bind_some,bd]
    by_cases hle:i<(digs a).length
    · rw [if_pos (by omega),at_,at_,digs_at,digs_at]
      simp only [Option.bind_some]
      have sa:=step10 a i
      have sb:=step10 b i
      have la:a / 10^i%10<10:=Nat.mod_lt _ (by decide)
      have lb:b / 10^i%10<10:=Nat.mod_lt _ (by decide)
      rw [sa,sb] at hv
      generalize a / 10^i%10=x at *
      generalize b / 10^i%10=y at *
      rw [wi (n:=(x:Int) - y) (by omega) (by omega),wi (n:=(x:Int) - y - c) (by omega) (by omega)]
      obtain ⟨z,c',hz,hzc,hz9,hc'⟩:∃ z c':Nat,(if (x:Int) - y - c<0 then some ((1:Int),IntKind.wrap .i64 ((x:Int) - y - c+10)) else some (0,(x:Int) - y - c))=some ((c':Int),(z:Int))∧z+y+c=x+10*c'∧z≤9∧c'≤1:=by
        by_cases hn:(x:Int) - y - c<0
        · exact ⟨x+10 - y - c,1,by rw [if_pos hn,wi (by omega) (by omega)];congr 2;omega,by omega,by omega,by omega⟩
        · exact ⟨x - y - c,0,by rw [if_neg hn];congr 2;omega,by omega,by omega,by omega⟩
      rw [hz,Option.bind_some]
      simp only
      rw [if_pos (by simp;omega),wi (n:=(i:Int)+1) (by omega) (by omega),show ((i:Int)+1)=((i+1:Nat):Int) by omega]
      refine ih (i+1) c' _ (by omega) (by omega) hc' (by simp [hlen]) (hd.app (Dig.cons (by omega) (by omega) Dig.nil)) ?_
      rw [nval_app,hlen]
      simp only [nval,Int.toNat_natCast,Nat.mul_zero,Nat.add_zero]
      generalize a / 10^(i+1)=A at *
      generalize b / 10^(i+1)=B at *
      rw [Nat.pow_succ,Nat.mul_assoc,Nat.mul_assoc]
      have t1:10^i*(10*A+x)=10^i*(10*A)+10^i*x:=Nat.mul_add _ _ _
      have t2:10^i*(10*B+y+c)=10^i*(10*B)+10^i*y+10^i*c:=by rw [Nat.mul_add,Nat.mul_add]
      have t3:10^i*(10*(B+c'))=10^i*(10*B)+10^i*(10*c'):=by rw [Nat.mul_add 10,Nat.mul_add]
      have t4:10^i*(z+y+c)=10^i*(x+10*c'):=by rw [hzc]
      rw [Nat.mul_add,Nat.mul_add,Nat.mul_add] at t4
      rw [t1,t2] at hv
      rw [t3]
      omega
    · rw [if_neg (by omega)]
      refine ⟨acc,rfl,hd,?_,by omega⟩
      have hi:i=(digs a).length:=by omega
      have z1:=gone10 (n:=a) (i:=i) (by omega)
      have z2:b / 10^i=0:=by
        have:=Nat.div_le_div_right (c:=10^i) hab
        rw [z1] at this
        exact Nat.le_zero.1 this
      rw [z1,z2] at hv
      have hlt:=nval_lt hd
      rw [hlen] at hlt
      have hc0:c=0:=by
        rcases Nat.lt_or_ge 0 c with h | h
        · have:c=1:=by omega
          subst this
          simp at hv
          omega
        · omega
      rw [hc0] at hv
      simp at hv
      omega
theorem less_ (k:Nat) (p q:Bool) {a b:Nat} (ha:(digs a).length≤10000) (hb:(digs b).length≤10000) (hab:b≤a) (hk:30000≤k):∃ r,g_r9_less k p (digs a) q (digs b)=some r∧Dig r∧nval r=a - b∧r.length≤(digs a).length:=by
  unfold g_r9_less
  obtain ⟨r,h1,h2,h3,h4⟩:=less_l0 k p q ha hb hab k 0 0 [] (by omega) (by omega) (by omega) rfl Dig.nil (by simp [nval])
  rw [show ((0:Nat):Int)=0 from rfl] at h1
  rw [h1]
  exact ⟨r,rfl,h2,h3,h4⟩
theorem cmpN_nonneg {a b:Nat}:0≤cmpN a b↔b≤a:=by
  unfold cmpN
  by_cases h:a=b
  · rw [if_pos h];omega
  · rw [if_neg h]
    by_cases h2:a<b
    · rw [if_pos h2];omega
    · rw [if_neg h2];omega
abbrev nd (x:Int):Nat:=(digs x.natAbs).length
theorem plus (k:Nat) {x y:Int} (hx:nd x≤10000) (hy:nd y≤10000) (hk:30000≤k):g_r9_Plus k (decide (x<0)) (digs x.natAbs) (decide (y<0)) (digs y.natAbs)=some (decide (x+y<0),digs (x+y).natAbs):=by
  unfold g_r9_Plus
  have hx':(digs x.natAbs).length≤10000:=hx
  have hy':(digs y.natAbs).length≤10000:=hy
  by_cases hs:(decide (x<0))=(decide (y<0))
  · rw [hs,beq_self_eq_true,bt]
    obtain ⟨r,h1,h2,h3,h4⟩:=sum_ k (decide (y<0)) (decide (y<0)) hx hy hk
    rw [h1,Option.bind_some,trim k (by omega) h2 (by omega),h3]
    simp only [Option.bind_some]
    have hab:x.natAbs+y.natAbs=(x+y).natAbs:=by
      rw [decide_eq_decide] at hs
      omega
    rw [hab]
    congr 2
    rw [decide_eq_decide] at hs
    rw [Bool.eq_iff_iff]
    simp only [Bool.and_eq_true,decide_eq_true_eq]
    omega
  · have hb:((decide (x<0))==(decide (y<0)))=false:=by rw [beq_eq_false_iff_ne];exact hs
    rw [hb,bf,more k _ _ hx hy hk,Option.bind_some]
    simp only [bd]
    have hs':¬ (x<0↔y<0):=fun h=>hs (by rw [decide_eq_decide];exact h)
    by_cases hc:y.natAbs≤x.natAbs
    · have h0:0≤cmpN x.natAbs y.natAbs:=cmpN_nonneg.2 hc
      rw [if_pos h0]
      obtain ⟨r,h1,h2,h3,h4⟩:=less_ k (decide (x<0)) (decide (y<0)) hx hy hc hk
      rw [h1,Option.bind_some,trim k (by omega) h2 (by omega),h3]
      simp only [Option.bind_some]
      have hab:x.natAbs - y.natAbs=(x+y).natAbs:=by omega
      rw [hab]
      congr 2
      rw [Bool.eq_iff_iff]
      simp only [Bool.and_eq_true,decide_eq_true_eq]
      omega
    · have h0:¬ 0≤cmpN x.natAbs y.natAbs:=fun h=>hc (cmpN_nonneg.1 h)
      rw [if_neg h0]
      obtain ⟨r,h1,h2,h3,h4⟩:=less_ k (decide (y<0)) (decide (x<0)) hy hx (by omega) hk
      rw [h1,Option.bind_some,trim k (by omega) h2 (by omega),h3]
      simp only [Option.bind_some]
      have hab:y.natAbs - x.natAbs=(x+y).natAbs:=by omega
      rw [hab]
      congr 2
      rw [Bool.eq_iff_iff]
      simp only [Bool.and_eq_true,decide_eq_true_eq]
      omega
theorem shift (k:Nat) {x:Int} {n:Nat} (hx:nd x≤10000) (hn:n≤10000) (hk:30000≤k):g_r9_Shift k (decide (x<0)) (digs x.natAbs) (n:Int)=some (decide (x*10^n<0),digs (x*10^n).natAbs):=by
  unfold g_r9_Shift
  have hx':(digs x.natAbs).length≤10000:=hx
  simp only [bd]
  rw [if_pos (by omega),if_pos (by simp;omega)]
  have hd:Dig (List.replicate (Int.toNat (n:Int)) (0:Int)++digs x.natAbs):=by
    refine Dig.app (fun d hd=>?_) (digs_dig _)
    rw [List.eq_of_mem_replicate hd];omega
  have hv:nval (List.replicate (Int.toNat (n:Int)) (0:Int)++digs x.natAbs)=(x*10^n).natAbs:=by
    have h0:∀ m,nval (List.replicate m (0:Int))=0:=by
      intro m
      induction m with
      | zero=>rfl
      | succ m ih=>rw [List.replicate_succ,nval,ih];rfl
    rw [nval_app,h0,nval_digs,Int.natAbs_mul]
    simp [Int.natAbs_pow,Nat.mul_comm]
  rw [trim k (by simp;omega) hd (by simp;omega),hv]
  simp only [Option.bind_some]
  congr 2
  have hp:=p10 n
  rw [Bool.eq_iff_iff]
  simp only [Bool.and_eq_true,decide_eq_true_eq]
  by_cases h0:x<0
  · have:x*10^n<0:=Int.mul_neg_of_neg_of_pos h0 hp
    omega
  · have:0≤x*10^n:=Int.mul_nonneg (show 0≤x by omega) (Int.le_of_lt hp)
    omega
theorem minus_trim (k:Nat) {x:Int} (hx:nd x≤10000) (hk:30000≤k):g_r9_trim k (!(decide (x<0))) (digs x.natAbs)=some (decide (-x<0),digs (-x).natAbs):=by
  have hx':(digs x.natAbs).length≤10000:=hx
  rw [trim k (by omega) (digs_dig _) (by omega),nval_digs,Int.natAbs_neg]
  congr 2
  rw [Bool.eq_iff_iff]
  simp only [Bool.and_eq_true,decide_eq_true_eq,Bool.not_eq_true',decide_eq_false_iff_not]
  omega
theorem of_l0 (k:Nat):∀ (d n:Nat) (c:Int) (acc:List Int),d≤n→c.natAbs<10^d → -9223372036854775808≤c→c≤9223372036854775807→acc.length+d≤1000 →
    g_r9_Of_l0 k (n+1) c acc=some (acc++digs c.natAbs):=by
  intro d
  induction d with
  | zero =>
    intro n c acc h1 h2 _ _ _
    have:c=0:=by simp at h2;omega
    subst this
    rw [g_r9_Of_l0.eq_2]
    simp [digs_zero]
  | succ d ih =>
    intro n c acc h1 h2 h3 h4 h5
    rw [g_r9_Of_l0.eq_2]
    by_cases h0:c=0
    · subst h0;simp [digs_zero]
    · rw [df h0]
      simp only [Bool.not_false,cond_true,bd]
      rw [Nat.pow_succ] at h2
      have hm:(if Int.tmod c 10<0 then ((some (IntKind.wrap .i64 (0 - Int.tmod c 10))).bind fun x1439=>some x1439) else some (Int.tmod c 10))=some ((c.natAbs%10:Nat):Int):=by
        have ht:=Int.tmod_eq_emod (a:=c) (b:=10)
        by_cases hneg:Int.tmod c 10<0
        · rw [if_pos hneg,Option.bind_some]
          rw [wi (by split at ht <;> omega) (by split at ht <;> omega)]
          congr 1
          split at ht <;> omega
        · rw [if_neg hneg]
          congr 1
          split at ht <;> omega
      rw [hm]
      simp only [Option.bind_some]
      have hq:=Int.tdiv_eq_ediv (a:=c) (b:=10)
      rw [show Int.sign 10=1 from rfl] at hq
      have hq2:(Int.tdiv c 10).natAbs=c.natAbs / 10 ∧ -9223372036854775808≤Int.tdiv c 10∧Int.tdiv c 10≤9223372036854775807:=by split at hq <;> (rw [hq];omega)
      rw [if_pos (by simp;omega),wi hq2.2.1 hq2.2.2]
      obtain ⟨n,rfl⟩:∃ n',n=n'+1:=⟨n - 1,by omega⟩
      rw [ih n _ _ (by omega) (by omega) hq2.2.1 hq2.2.2 (by simp;omega),hq2.1,digs_pos (n:=c.natAbs) (by omega)]
      simp
theorem of_ (k:Nat) (hk:30≤k) {c:Int} (h1 : -9223372036854775808≤c) (h2:c≤9223372036854775807):g_r9_Of k c=some (digs c.natAbs):=by
  unfold g_r9_Of
  obtain ⟨k',rfl⟩:∃ k',k=k'+1:=⟨k - 1,by omega⟩
  rw [of_l0 (k'+1) 20 k' c [] (by omega) (by omega) h1 h2 (by simp)]
  simp
theorem nd_i64 {c:Int} (h1 : -9223372036854775808≤c) (h2:c≤9223372036854775807):nd c≤19:=digs_len_le (by omega)
theorem nval_set:∀ {l:List Int} {j:Nat} {x:Int},j<l.length→nval (l.set j x)+10^j*(l.getD j 0).toNat=nval l+10^j*x.toNat
  | [],j,x,h=>by simp at h
  | d::l,0,x,h=>by simp [nval];omega
  | d::l,j+1,x,h=>by
    have:=nval_set (l:=l) (j:=j) (x:=x) (by simpa using h)
    simp only [List.set_cons_succ,nval,List.getD_cons_succ,Nat.pow_succ]
    have e1:10^j*10*(l.getD j 0).toNat=10*(10^j*(l.getD j 0).toNat):=by rw [Nat.mul_comm (10^j) 10,Nat.mul_assoc]
    have e2:10^j*10*x.toNat=10*(10^j*x.toNat):=by rw [Nat.mul_comm (10^j) 10,Nat.mul_assoc]
    rw [e1,e2]
    omega
theorem getD_set {l:List Int} {j t:Nat} {x:Int} (h:j<l.length):(l.set j x).getD t 0=if t=j then x else l.getD t 0:=by
  simp only [List.getD_eq_getElem?_getD]
  by_cases e:t=j
  · subst e;simp [h]
  · rw [if_neg e,List.getElem?_set_ne (by omega)]
theorem getD_bnd {l:List Int} {t:Nat} {B:Int} (h:∀ x∈l,0≤x∧x≤B) (hB:0≤B):0≤l.getD t 0∧l.getD t 0≤B:=by
  rw [List.getD_eq_getElem?_getD]
  by_cases ht:t<l.length
  · rw [List.getElem?_eq_getElem ht];exact h _ (List.getElem_mem ht)
  · rw [List.getElem?_eq_none (by omega)];exact ⟨Int.le_refl _,hB⟩
theorem mem_getD {l:List Int} {x:Int} (h:x∈l):∃ t,t<l.length∧l.getD t 0=x:=by
  obtain ⟨t,ht,rfl⟩:=List.mem_iff_getElem.1 h
  exact ⟨t,ht,by rw [List.getD_eq_getElem?_getD,List.getElem?_eq_getElem ht];rfl⟩
theorem nval_ge {l:List Int} {t:Nat}:10^t*(l.getD t 0).toNat≤nval l:=by
  by_cases ht:t<l.length
  · have:=nval_set (l:=l) (j:=t) (x:=0) ht
    simp only [Int.toNat_zero,Nat.mul_zero,Nat.add_zero] at this
    omega
  · rw [List.getD_eq_getElem?_getD,List.getElem?_eq_none (by omega)];simp
theorem nval_zeros:∀ m,nval (List.replicate m (0:Int))=0:=by
  intro m
  induction m with
  | zero=>rfl
  | succ m ih=>rw [List.replicate_succ,nval,ih];rfl
theorem times_l1 (k:Nat) {a b i:Nat} (hi:i<(digs a).length) (ha:(digs a).length≤5000) (hb:(digs b).length≤5000):∀ (n j:Nat) (d:List Int),j≤(digs b).length→(digs b).length<n+j→d.length=(digs a).length+(digs b).length+1 →
    (∀ t,0≤d.getD t 0∧d.getD t 0≤90)→(∀ t,i+j≤t→d.getD t 0≤9) →
    ∃ r,g_r9_Times_l1 k (digs a) (digs b) (i:Int) n (j:Int) d=some r∧r.length=d.length∧(∀ t,0≤r.getD t 0∧r.getD t 0≤90)∧nval r=nval d+10^(i+j)*(a / 10^i%10*(b / 10^j)):=by
  intro n
  induction n with
  | zero=>intro j d h1 h2;omega
  | succ n ih =>
    intro j d h1 h2 hl h90 h9
    rw [g_r9_Times_l1.eq_2]
    simp only [Option.bind_some]
    by_cases hj:j<(digs b).length
    · rw [dt (by omega),bt,← Int.natCast_add,wi (n:=((i+j:Nat):Int)) (by omega) (by omega),getD_ix (by omega),getD_ix hi,getD_ix hj,digs_at,digs_at]
      simp only [Option.bind_some]
      have sb:=step10 b j
      have la:a / 10^i%10<10:=Nat.mod_lt _ (by decide)
      have lb:b / 10^j%10<10:=Nat.mod_lt _ (by decide)
      have hxy:a / 10^i%10*(b / 10^j%10)≤9*9:=Nat.mul_le_mul (by omega) (by omega)
      generalize a / 10^i%10=x at *
      generalize b / 10^j%10=y at *
      rw [sb,Nat.mul_add,Nat.mul_left_comm _ 10]
      have hz:=h90 (i+j)
      have hz9:=h9 (i+j) (Nat.le_refl _)
      rw [← Int.natCast_mul,wi (n:=((x*y:Nat):Int)) (by omega) (by omega),wi (n:=d.getD (i+j) 0+((x*y:Nat):Int)) (by omega) (by omega),wi (n:=(j:Int)+1) (by omega) (by omega),Int.toNat_natCast,show ((j:Int)+1)=((j+1:Nat):Int) by omega]
      have hlt:i+j<d.length:=by omega
      obtain ⟨r,r1,r2,r3,r4⟩:=ih (j+1) (d.set (i+j) (d.getD (i+j) 0+((x*y:Nat):Int))) (by omega) (by omega) (by simp [hl])
        (fun t=>by rw [getD_set hlt];have:=h90 t;split <;> omega) (fun t ht=>by rw [getD_set hlt,if_neg (by omega)];exact h9 t (by omega))
      refine ⟨r,r1,by simpa using r2,r3,?_⟩
      rw [r4]
      have hs:=nval_set (l:=d) (j:=i+j) (x:=d.getD (i+j) 0+((x*y:Nat):Int)) hlt
      rw [show (d.getD (i+j) 0+((x*y:Nat):Int)).toNat=(d.getD (i+j) 0).toNat+x*y by omega,Nat.mul_add] at hs
      rw [← Nat.add_assoc,Nat.pow_succ,Nat.mul_assoc (10^(i+j)) 10,Nat.mul_add]
      omega
    · rw [df (by omega),bf]
      have hz:b / 10^j=0:=gone10 (by omega)
      exact ⟨d,rfl,rfl,h90,by rw [hz];simp⟩
theorem times_l2 (k:Nat) {L V:Nat} (hL:L≤20000) (hV:V<10^L):∀ (n t:Nat) (d:List Int),t<L→L<n+t→d.length=L→(∀ u,0≤d.getD u 0)→(∀ u,u<t→d.getD u 0≤9)→d.getD t 0≤100→(∀ u,t<u→d.getD u 0≤90)→nval d=V →
    ∃ r,g_r9_Times_l2 k n (t:Int) d=some r∧r.length=L∧Dig r∧nval r=V:=by
  intro n
  induction n with
  | zero=>intro t d h1 h2;omega
  | succ n ih =>
    intro t d h1 h2 hl h0 h9 h100 h90 hv
    rw [g_r9_Times_l2.eq_2]
    simp only [Option.bind_some]
    rw [wi (n:=(t:Int)+1) (by omega) (by omega),show ((t:Int)+1)=((t+1:Nat):Int) by omega]
    by_cases hj:t+1<L
    · rw [dt (by omega),bt,getD_ix (by omega),getD_ix (by omega)]
      simp only [Option.bind_some,Int.toNat_natCast]
      have a0:=h0 t
      have b0:=h0 (t+1)
      have b9:=h90 (t+1) (by omega)
      obtain ⟨x,hx⟩:∃ x:Nat,d.getD t 0=(x:Int):=⟨(d.getD t 0).toNat,by omega⟩
      obtain ⟨y,hy⟩:∃ y:Nat,d.getD (t+1) 0=(y:Int):=⟨(d.getD (t+1) 0).toNat,by omega⟩
      rw [hx,hy,show (10:Int)=((10:Nat):Int) from rfl,td,wi (n:=((x / 10:Nat):Int)) (by omega) (by omega),← Int.natCast_add,wi (n:=((y+x / 10:Nat):Int)) (by omega) (by omega)]
      rw [getD_ix (by simp;omega),getD_set (by omega),if_neg (by omega),hx]
      simp only [Option.bind_some,tm]
      have e1:=nval_set (l:=d) (j:=t+1) (x:=((y+x / 10:Nat):Int)) (by omega)
      have e2:=nval_set (l:=d.set (t+1) ((y+x / 10:Nat):Int)) (j:=t) (x:=((x%10:Nat):Int)) (by simp;omega)
      rw [getD_set (by omega),if_neg (by omega),hx] at e2
      rw [hy] at e1
      simp only [Int.toNat_natCast] at e1 e2
      refine ih (t+1) _ hj (by omega) (by simp [hl]) (fun u=>?_) (fun u hu=>?_) ?_ (fun u hu=>?_) ?_
      · rw [getD_set (by simp;omega),getD_set (by omega)]
        have:=h0 u
        split
        · omega
        · split <;> omega
      · rw [getD_set (by simp;omega),getD_set (by omega)]
        have:=h9 u
        split
        · omega
        · rw [if_neg (by omega)];exact this (by omega)
      · rw [getD_set (by simp;omega),getD_set (by omega),if_neg (by omega),if_pos rfl]
        omega
      · rw [getD_set (by simp;omega),getD_set (by omega),if_neg (by omega),if_neg (by omega)]
        exact h90 u (by omega)
      · rw [Nat.mul_add,Nat.pow_succ,Nat.mul_assoc] at e1
        have e3:10^t*x=10^t*(10*(x / 10))+10^t*(x%10):=by rw [← Nat.mul_add,show 10*(x / 10)+x%10=x by omega]
        have e4:10^t*(10*(x / 10))=10^t*10*(x / 10):=(Nat.mul_assoc _ _ _).symm
        have e5:10^t*(10*y)=10^t*10*y:=(Nat.mul_assoc _ _ _).symm
        omega
    · rw [df (by omega),bf]
      have htL:t=L - 1:=by omega
      refine ⟨d,rfl,hl,?_,hv⟩
      intro z hz
      obtain ⟨u,hu,rfl⟩:=mem_getD hz
      refine ⟨h0 u,?_⟩
      by_cases hut:u<t
      · exact h9 u hut
      · have hu2:u=t:=by omega
        subst hu2
        have h5:=nval_ge (l:=d) (t:=u)
        rw [hv] at h5
        have h6:10^L=10^u*10:=by rw [← Nat.pow_succ];congr 1;omega
        rw [h6] at hV
        have h7:10^u*(d.getD u 0).toNat<10^u*10:=Nat.lt_of_le_of_lt h5 hV
        have:=Nat.lt_of_mul_lt_mul_left h7
        omega
theorem times_l0 (k:Nat) {a b:Nat} (ha:(digs a).length≤5000) (hb:(digs b).length≤5000) (hk:30000≤k):∀ (n i:Nat) (d:List Int),i≤(digs a).length→(digs a).length<n+i→d.length=(digs a).length+(digs b).length+1→Dig d →
    nval d+10^i*(a / 10^i*b)=a*b→∃ r,g_r9_Times_l0 k (digs a) (digs b) n (i:Int) d=some r∧r.length=d.length∧Dig r∧nval r=a*b:=by
  intro n
  induction n with
  | zero=>intro i d h1 h2;omega
  | succ n ih =>
    intro i d h1 h2 hl hd hv
    rw [g_r9_Times_l0.eq_2]
    simp only [Option.bind_some]
    by_cases hi:i<(digs a).length
    · rw [dt (by omega),bt]
      have h9:∀ t,0≤d.getD t 0∧d.getD t 0≤9:=fun t=>getD_bnd hd (by omega)
      obtain ⟨r,r1,r2,r3,r4⟩:=times_l1 k (b:=b) hi ha hb k 0 d (by omega) (by omega) hl (fun t=>by have:=h9 t;omega) (fun t _=>(h9 t).2)
      rw [show ((0:Nat):Int)=0 from rfl] at r1
      rw [r1,Option.bind_some]
      have sa:=step10 a i
      have hab:a*b<10^(r.length):=by
        rw [r2,hl,Nat.pow_succ,Nat.pow_add]
        have h1:a<10^(digs a).length:=digs_lt
        have h2:b<10^(digs b).length:=digs_lt
        have:=Nat.mul_lt_mul_of_le_of_lt (Nat.le_of_lt h1) h2 (Nat.pos_of_ne_zero (by have:=Nat.pow_pos (n:=(digs a).length) (show 0<10 by decide);omega))
        omega
      have hnew:nval r+10^(i+1)*(a / 10^(i+1)*b)=a*b:=by
        rw [r4,← hv]
        simp only [Nat.add_zero,Nat.pow_zero,Nat.div_one]
        rw [Nat.pow_succ,Nat.mul_assoc (10^i) 10,Nat.add_assoc,← Nat.mul_add]
        congr 2
        rw [Nat.mul_comm (10^i) 10] at *
        conv=>rhs;rw [sa]
        rw [Nat.pow_succ,Nat.mul_comm (10^i) 10,Nat.add_mul,Nat.mul_assoc]
        omega
      obtain ⟨s,s1,s2,s3,s4⟩:=times_l2 k (L:=r.length) (V:=nval r) (by omega) (by omega) k 0 r (by omega) (by omega) rfl (fun u=>(r3 u).1) (fun u hu=>by omega) (by have:=r3 0;omega) (fun u _=>(r3 u).2) rfl
      rw [show ((0:Nat):Int)=0 from rfl] at s1
      rw [s1,Option.bind_some,wi (by omega) (by omega),show ((i:Int)+1)=((i+1:Nat):Int) by omega]
      obtain ⟨q,q1,q2,q3,q4⟩:=ih (i+1) s (by omega) (by omega) (by omega) s3 (by rw [s4];exact hnew)
      exact ⟨q,q1,by omega,q3,q4⟩
    · rw [df (by omega),bf]
      have z:a / 10^i=0:=gone10 (by omega)
      rw [z] at hv
      exact ⟨d,rfl,rfl,hd,by simpa using hv⟩
theorem times (k:Nat) {x y:Int} (hx:nd x≤5000) (hy:nd y≤5000) (hk:30000≤k):g_r9_Times k (decide (x<0)) (digs x.natAbs) (decide (y<0)) (digs y.natAbs)=some (decide (x*y<0),digs (x*y).natAbs):=by
  unfold g_r9_Times
  have hx':(digs x.natAbs).length≤5000:=hx
  have hy':(digs y.natAbs).length≤5000:=hy
  rw [← Int.natCast_add,wi (n:=(((digs x.natAbs).length+(digs y.natAbs).length:Nat):Int)) (by omega) (by omega),Option.bind_some,wi (by omega) (by omega)]
  simp only [bd]
  rw [if_pos (by omega)]
  obtain ⟨r,r1,r2,r3,r4⟩:=times_l0 k hx hy hk k 0 (List.replicate ((((digs x.natAbs).length+(digs y.natAbs).length:Nat):Int)+1).toNat 0) (by omega) (by omega) (by simp;omega) (fun d hd=>by rw [List.eq_of_mem_replicate hd];omega) (by rw [nval_zeros];simp)
  rw [show ((0:Nat):Int)=0 from rfl] at r1
  rw [r1,Option.bind_some]
  simp only [List.length_replicate] at r2
  rw [trim k (by omega) r3 (by omega),r4,Option.bind_some,Int.natAbs_mul]
  congr 2
  rw [Bool.eq_iff_iff]
  simp only [Bool.and_eq_true,decide_eq_true_eq,Bool.not_eq_true',beq_eq_false_iff_ne,ne_eq,decide_eq_decide]
  have hz:x.natAbs*y.natAbs=0↔x=0∨y=0:=by rw [Nat.mul_eq_zero];omega
  rw [hz]
  by_cases h1:x<0
  · by_cases h2:y<0
    · have:=Int.mul_pos_of_neg_of_neg h1 h2;omega
    · by_cases h3:y=0
      · subst h3;simp
      · have:=Int.mul_neg_of_neg_of_pos h1 (show 0<y by omega);omega
  · by_cases h2:y<0
    · by_cases h3:x=0
      · subst h3;simp
      · have:=Int.mul_neg_of_pos_of_neg (show 0<x by omega) h2;omega
    · have:=Int.mul_nonneg (show 0≤x by omega) (show 0≤y by omega);omega
theorem cmpN_lt {a b:Nat}:cmpN a b<0↔a<b:=by
  unfold cmpN
  by_cases h:a=b
  · rw [if_pos h];omega
  · rw [if_neg h]
    by_cases h2:a<b
    · rw [if_pos h2];omega
    · rw [if_neg h2];omega
theorem cmpN_zero {a b:Nat}:cmpN a b=0↔a=b:=by
  unfold cmpN
  by_cases h:a=b
  · rw [if_pos h];omega
  · rw [if_neg h]
    by_cases h2:a<b
    · rw [if_pos h2];omega
    · rw [if_neg h2];omega
theorem quo_l1 (k:Nat) {b i:Nat} (hb0:0<b) (hb:(digs b).length≤9000) (hk:30000≤k):∀ (t n r:Nat) (q:List Int),t<n→r / b=t→(digs r).length≤9001→i<q.length→0≤q.getD i 0→q.getD i 0+t≤1000 →
    g_r9_Quo_l1 k (digs b) (i:Int) n q false (digs r)=some (q.set i (q.getD i 0+t),false,digs (r%b)):=by
  intro t
  induction t with
  | zero =>
    intro n r q hn ht hr hi h0 h1
    obtain ⟨n,rfl⟩:∃ n',n=n'+1:=⟨n - 1,by omega⟩
    rw [g_r9_Quo_l1.eq_2,more k _ _ (by omega) (by omega) hk,Option.bind_some]
    simp only [bd]
    have hlt:r<b:=(Nat.div_eq_zero_iff_lt hb0).1 ht
    rw [if_neg (by rw [cmpN_nonneg];omega),Nat.mod_eq_of_lt hlt]
    have:q.set i (q.getD i 0+((0:Nat):Int))=q:=by
      apply List.ext_getElem?
      intro j
      by_cases hj:j=i
      · subst hj
        rw [List.getElem?_set_self hi,List.getElem?_eq_getElem hi,List.getD_eq_getElem?_getD,List.getElem?_eq_getElem hi]
        simp
      · rw [List.getElem?_set_ne (by omega)]
    rw [this]
  | succ t ih =>
    intro n r q hn ht hr hi h0 h1
    obtain ⟨n,rfl⟩:∃ n',n=n'+1:=⟨n - 1,by omega⟩
    rw [g_r9_Quo_l1.eq_2,more k _ _ (by omega) (by omega) hk,Option.bind_some]
    simp only [bd]
    have hle:b≤r:=by
      apply Nat.le_of_not_lt
      intro h
      rw [Nat.div_eq_of_lt h] at ht
      omega
    rw [if_pos (cmpN_nonneg.2 hle)]
    obtain ⟨s,s1,s2,s3,s4⟩:=less_ k false false (a:=r) (b:=b) (by omega) (by omega) hle hk
    rw [s1,Option.bind_some,trim k (by omega) s2 (by omega),s3,Option.bind_some,getD_ix hi]
    simp only [Option.bind_some,Bool.false_and,Int.toNat_natCast]
    rw [wi (by omega) (by omega)]
    have hs:(digs (r - b)).length≤9001:=Nat.le_trans (digs_len_le (Nat.lt_of_le_of_lt (Nat.sub_le _ _) digs_lt)) hr
    have ht':(r - b) / b=t:=by
      have:r=(r - b)+b:=by omega
      rw [this,Nat.add_div_right _ hb0] at ht
      omega
    rw [ih n (r - b) (q.set i (q.getD i 0+1)) (by omega) ht' hs (by simpa using hi) (by rw [getD_set hi,if_pos rfl];omega) (by rw [getD_set hi,if_pos rfl];omega)]
    rw [getD_set hi,if_pos rfl,List.set_set,show q.getD i 0+1+(t:Int)=q.getD i 0+((t+1:Nat):Int) by omega]
    have hm:r%b=(r - b)%b:=by
      have:r=(r - b)+b:=by omega
      conv=>lhs;rw [this]
      rw [Nat.add_mod_right]
    rw [hm]
theorem quo_l0 (k:Nat) {a b:Nat} (hb0:0<b) (ha:(digs a).length≤9000) (hb:(digs b).length≤9000) (hk:30000≤k):∀ (n i r:Nat) (q:List Int),i<n→i≤(digs a).length→q.length=(digs a).length→Dig q→(∀ t,t<i→q.getD t 0=0) →
    r=a / 10^i%b→nval q=10^i*(a / 10^i / b) →
    ∃ q',g_r9_Quo_l0 k (digs a) (digs b) n ((i:Int) - 1) q false (digs r)=some (q',false,digs (a%b))∧q'.length=(digs a).length∧Dig q'∧nval q'=a / b:=by
  intro n
  induction n with
  | zero=>intro i r q h;omega
  | succ n ih =>
    intro i r q h1 h2 hl hd hz hr hv
    rw [g_r9_Quo_l0.eq_2]
    simp only [bd]
    by_cases h0:i=0
    · subst h0
      rw [if_neg (by omega)]
      simp only [Nat.pow_zero,Nat.div_one,Nat.one_mul] at hr hv
      exact ⟨q,by rw [hr],hl,hd,hv⟩
    · obtain ⟨j,rfl⟩:∃ j,i=j+1:=⟨i - 1,by omega⟩
      rw [show ((j+1:Nat):Int) - 1=(j:Int) by omega,if_pos (by omega),getD_ix (by omega),digs_at,Option.bind_some]
      have hrb:r<b:=by rw [hr];exact Nat.mod_lt _ hb0
      have hnr:(digs r).length≤(digs b).length:=digs_len_le (Nat.lt_trans hrb digs_lt)
      have hs:=shift k (x:=(r:Int)) (n:=1) (by simpa [nd] using (show (digs r).length≤10000 by omega)) (by omega) hk
      rw [df (show ¬ ((r:Int)<0) by omega),Int.natAbs_natCast,show ((1:Nat):Int)=1 from rfl] at hs
      rw [hs,Option.bind_some]
      have sa:=step10 a j
      have la:a / 10^j%10<10:=Nat.mod_lt _ (by decide)
      have hq1:a / 10^(j+1)=b*(a / 10^(j+1) / b)+r:=by rw [hr];exact (Nat.div_add_mod _ _).symm
      generalize hx:a / 10^j%10=x at *
      simp only
      rw [of_ k (by omega) (by omega) (by omega)]
      simp only [Option.bind_some,Int.natAbs_natCast]
      have h10:(r:Int)*10^1=((r*10:Nat):Int):=by simp
      have hn10:(digs (r*10)).length≤(digs b).length+1:=digs_len_le (by
        rw [Nat.pow_succ]
        exact Nat.mul_lt_mul_of_pos_right (Nat.lt_trans hrb digs_lt) (by decide))
      have hp:=plus k (x:=((r*10:Nat):Int)) (y:=(x:Int)) (by unfold nd;rw [Int.natAbs_natCast];omega) (by unfold nd;rw [Int.natAbs_natCast];have:=digs_len_le (n:=x) (m:=1) (by omega);omega) hk
      rw [Int.natAbs_natCast,Int.natAbs_natCast] at hp
      rw [h10,Int.natAbs_natCast,hp,Option.bind_some,← Int.natCast_add,Int.natAbs_natCast,df (show ¬ (((r*10+x:Nat):Int)<0) by omega)]
      simp only
      have hrx:r*10+x<10*b:=by omega
      have ht9:(r*10+x) / b≤9:=by
        have:(r*10+x) / b<10:=(Nat.div_lt_iff_lt_mul hb0).2 hrx
        omega
      have hnrx:(digs (r*10+x)).length≤9001:=by
        have:(digs (r*10+x)).length≤(digs b).length+1:=digs_len_le (by
          rw [Nat.pow_succ]
          have:=digs_lt (n:=b)
          have:10*b≤10*(10^(digs b).length):=Nat.mul_le_mul_left _ (Nat.le_of_lt this)
          omega)
        omega
      have hqj:q.getD j 0=0:=hz j (by omega)
      rw [quo_l1 k hb0 hb hk _ k (r*10+x) q (by omega) rfl hnrx (by omega) (by omega) (by omega),Option.bind_some,hqj]
      simp only
      have hjl:j<q.length:=by omega
      have hdiv:a / 10^j=b*(10*(a / 10^(j+1) / b))+(r*10+x):=by
        rw [sa]
        conv=>lhs;rw [hq1]
        rw [Nat.mul_add,Nat.mul_left_comm]
        omega
      have hdb:a / 10^j / b=10*(a / 10^(j+1) / b)+(r*10+x) / b:=by
        rw [hdiv,Nat.mul_add_div hb0]
      have hmb:a / 10^j%b=(r*10+x)%b:=by
        rw [hdiv,Nat.mul_add_mod]
      rw [wi (by omega) (by omega)]
      refine ih j ((r*10+x)%b) _ (by omega) (by omega) (by simpa using hl) ?_ ?_ hmb.symm ?_
      · intro z hz'
        obtain ⟨u,hu,rfl⟩:=mem_getD hz'
        rw [getD_set hjl]
        split
        · rw [Int.zero_add]
          exact ⟨Int.natCast_nonneg _,Int.ofNat_le.2 ht9⟩
        · exact getD_bnd hd (by omega)
      · intro t ht
        rw [getD_set hjl,if_neg (by omega)]
        exact hz t (by omega)
      · have hs:=nval_set (l:=q) (j:=j) (x:=(0:Int)+(((r*10+x) / b:Nat):Int)) hjl
        rw [hqj] at hs
        simp only [Int.toNat_zero,Nat.mul_zero,Nat.add_zero,Int.zero_add,Int.toNat_natCast] at hs
        rw [Int.zero_add,hs,hv,hdb,Nat.pow_succ,Nat.mul_add,Nat.mul_assoc]
theorem quo (k:Nat) (p s:Bool) {a b:Nat} (hb0:0<b) (ha:(digs a).length≤9000) (hb:(digs b).length≤9000) (hk:30000≤k):g_r9_Quo k p (digs a) s (digs b)=some (false,digs (a / b),false,digs (a%b)):=by
  unfold g_r9_Quo
  simp only [bd]
  rw [if_pos (by omega),wi (by omega) (by omega),Option.bind_some]
  have z:a / 10^(digs a).length=0:=gone10 (Nat.le_refl _)
  obtain ⟨q,q1,q2,q3,q4⟩:=quo_l0 k hb0 ha hb hk k (digs a).length 0 (List.replicate (Int.toNat (((digs a).length:Nat):Int)) 0) (by omega) (Nat.le_refl _) (by simp) (fun d hd=>by rw [List.eq_of_mem_replicate hd];omega)
    (fun t ht=>by
      rw [List.getD_eq_getElem?_getD]
      by_cases h:t<(List.replicate (Int.toNat (((digs a).length:Nat):Int)) (0:Int)).length
      · rw [List.getElem?_eq_getElem h];simp
      · rw [List.getElem?_eq_none (by omega)];rfl) (by rw [z];simp) (by rw [z,nval_zeros];simp)
  rw [digs_zero] at q1
  rw [q1,Option.bind_some]
  simp only
  rw [trim k (by omega) q3 (by omega),q4,Option.bind_some]
  rfl
theorem fits (k:Nat) {neg:Bool} {n:Nat} (hn:(digs n).length≤10000) (hk:30000≤k):g_r9_fits k neg (digs n)=some (decide (n≤topN neg)):=by
  unfold g_r9_fits
  rw [of_ k (by omega) (by decide) (by decide),Option.bind_some,show (-9223372036854775808:Int).natAbs=9223372036854775808 from rfl,more k _ _ hn (by have:=digs_len_le (n:=9223372036854775808) (m:=19) (by decide);omega) hk,Option.bind_some]
  simp only [bd]
  have h1:=@cmpN_lt n 9223372036854775808
  have h2:=@cmpN_zero n 9223372036854775808
  by_cases ha:n<9223372036854775808
  · rw [if_pos (h1.2 ha),Option.bind_some]
    congr 1
    refine (dt ?_).symm
    unfold topN;split <;> omega
  · rw [if_neg (fun h=>ha (h1.1 h))]
    by_cases hb:n=9223372036854775808
    · rw [if_pos (h2.2 hb),Option.bind_some]
      congr 1
      unfold topN
      cases neg
      · refine (df ?_).symm;simp;omega
      · refine (dt ?_).symm;simp;omega
    · rw [if_neg (fun h=>hb (h2.1 h)),Option.bind_some]
      congr 1
      refine (df ?_).symm
      unfold topN;split <;> omega
theorem trim_drop (k:Nat) {neg:Bool} {n:Nat} (h0:n≠0) (h10:n%10=0) (hn:(digs n).length≤10000) (hk:30000≤k) :
    g_r9_trim k neg (List.drop (Int.toNat 1) (List.take (Int.toNat (((digs n).length:Nat):Int)) (digs n)))=some (neg,digs (n / 10)):=by
  have e:List.drop (Int.toNat 1) (List.take (Int.toNat (((digs n).length:Nat):Int)) (digs n))=digs (n / 10):=by
    rw [Int.toNat_natCast,List.take_length]
    conv=>lhs;rw [digs_pos h0]
    rfl
  have hl:(digs (n / 10)).length≤10000:=by
    have:=congrArg List.length (digs_pos h0)
    simp at this
    omega
  rw [e,trim k (by omega) (digs_dig _) (by omega),nval_digs]
  have:decide (n / 10≠0)=true:=dt (by omega)
  rw [this,Bool.and_true]
theorem first_digit {n:Nat} (h:n≠0):ix (digs n) 0=some ((n%10:Nat):Int):=by
  rw [digs_pos h];rfl
theorem len_pos {n:Nat} (h:n≠0):0<(digs n).length:=by
  rw [digs_pos h];simp
theorem Tell_l0 (k:Nat) {neg:Bool} (hk:30000≤k):∀ (d m n:Nat) (e:Int),d≤m→n≠0→(digs n).length≤d→d≤10000 → -10000≤e→e+d≤20000→∃ w j:Nat,n=w*10^j∧w%10≠0∧j≤d∧(digs w).length≤d ∧
    g_r9_Tell_l0 k m e neg (digs n)=some (e+j,neg,digs w):=by
  intro d
  induction d with
  | zero=>intro m n e _ h0 h;have:=len_pos h0;omega
  | succ d ih =>
    intro m n e hm h0 hl hd he1 he2
    obtain ⟨m,rfl⟩:∃ m',m=m'+1:=⟨m - 1,by omega⟩
    rw [g_r9_Tell_l0.eq_2]
    simp only [Option.bind_some]
    have hp:=len_pos h0
    rw [dt (by omega),bt,first_digit h0]
    simp only [Option.bind_some]
    by_cases h10:n%10=0
    · rw [dt (by omega),bt]
      simp only [bd]
      rw [if_pos (by omega),trim_drop k h0 h10 (by omega) hk,Option.bind_some,wi (by omega) (by omega)]
      have hl':(digs (n / 10)).length+1=(digs n).length:=by
        have:=congrArg List.length (digs_pos h0)
        simp at this
        omega
      obtain ⟨w,j,h1,h2,h3,h4,h5⟩:=ih m (n / 10) (e+1) (by omega) (by omega) (by omega) (by omega) (by omega) (by omega)
      refine ⟨w,j+1,?_,h2,by omega,by omega,?_⟩
      · rw [Nat.pow_succ,← Nat.mul_assoc,← h1];omega
      · simp only
        rw [h5]
        congr 2
        omega
    · rw [df (by omega),bf]
      exact ⟨n,0,by simp,h10,by omega,hl,by simp⟩
theorem len10 {w:Nat} (h:w≠0):(digs (w*10)).length=(digs w).length+1:=by
  rw [digs_pos (by omega),List.length_cons,Nat.mul_div_cancel _ (by decide)]
theorem Tell_l1 (k:Nat) (hk:30000≤k):∀ (m:Nat) (x:Int) (f:Int),x≠0→1≤m→30<m+nd x→nd x≤9000 → -10000≤f→f≤30000→∃ t:Nat,((t:Int)≤f - 18∨t=0)∧(18<f - t→30≤nd (x*10^t))∧nd (x*10^t)≤9030 ∧
    g_r9_Tell_l1 k m f (decide (x<0)) (digs x.natAbs)=some (f - t,decide (x*10^t<0),digs (x*10^t).natAbs):=by
  intro m
  induction m with
  | zero=>intro x f h0 h;omega
  | succ m ih =>
    intro x f h0 _ h hl hf1 hf2
    rw [g_r9_Tell_l1.eq_2]
    simp only [bd,Option.bind_some]
    have stop:∃ t:Nat,t=0:=⟨0,rfl⟩
    by_cases hf:18<f
    · rw [if_pos hf,Option.bind_some]
      by_cases h30:(digs x.natAbs).length<30
      · rw [dt (by omega),bt]
        have hs:=shift k (x:=x) (n:=1) (by omega) (by omega) hk
        rw [show ((1:Nat):Int)=1 from rfl] at hs
        rw [hs,Option.bind_some,wi (by omega) (by omega)]
        have h10:(x*10^1).natAbs=x.natAbs*10:=by rw [Int.natAbs_mul];rfl
        have hnd:nd (x*10^1)=nd x+1:=by
          unfold nd
          rw [h10,len10 (by omega)]
        have hlt:nd x<30:=h30
        obtain ⟨t,t1,t2,t3,t4⟩:=ih (x*10^1) (f - 1) (by intro h;rw [Int.mul_eq_zero] at h;omega) (by omega) (by omega) (by omega) (by omega) (by omega)
        rw [Int.mul_assoc,← Int.pow_add,Nat.add_comm 1 t] at t2 t3 t4
        refine ⟨t+1,by omega,fun h=>t2 (by omega),t3,?_⟩
        simp only
        rw [t4]
        congr 2
        omega
      · rw [df (by omega),bf]
        have:nd x=(digs x.natAbs).length:=rfl
        exact ⟨0,.inr rfl,fun _=>by simp;omega,by simp;omega,by simp⟩
    · rw [if_neg hf,Option.bind_some,bf]
      exact ⟨0,.inr rfl,fun h=>by omega,by simp;omega,by simp⟩
theorem Tell_l2 (k:Nat) {x:Int} (h1 : -9223372036854775808≤x) (h2:x≤9223372036854775807):∀ (m i:Nat) (c:Int),i<m→i≤(digs x.natAbs).length→c.natAbs=x.natAbs / 10^i→(x<0→c≤0)→(0≤x→0≤c) →
    g_r9_Tell_l2 k (decide (x<0)) (digs x.natAbs) m c ((i:Int) - 1)=some x:=by
  intro m
  induction m with
  | zero=>intro i c h;omega
  | succ m ih =>
    intro i c hm hi hc hn hp
    have hlen:(digs x.natAbs).length≤19:=nd_i64 h1 h2
    rw [g_r9_Tell_l2.eq_2]
    simp only [bd,Option.bind_some]
    by_cases h0:i=0
    · subst h0
      rw [if_neg (by omega)]
      simp only [Nat.pow_zero,Nat.div_one] at hc
      congr 1
      omega
    · obtain ⟨j,rfl⟩:∃ j,i=j+1:=⟨i - 1,by omega⟩
      rw [show ((j+1:Nat):Int) - 1=(j:Int) by omega,if_pos (by omega)]
      have hx:∀ z:Int,((ix (digs x.natAbs) (j:Int)).bind fun x3917=>(some z:Option Int))=(ix (digs x.natAbs) (j:Int)).bind fun _=>some z:=fun _=>rfl
      have sa:=step10 x.natAbs j
      have la:x.natAbs / 10^j%10<10:=Nat.mod_lt _ (by decide)
      have hle:x.natAbs / 10^j≤x.natAbs:=Nat.div_le_self _ _
      have hdg:=@digs_at x.natAbs j
      rw [← hc] at sa
      generalize x.natAbs / 10^j%10=y at *
      have hj:j<(digs x.natAbs).length:=by omega
      · rw [getD_ix hj,hdg]
        simp only [Option.bind_some]
        by_cases hx0:x<0
        · rw [if_pos hx0,wi (n:=c*10) (by omega) (by omega),wi (by omega) (by omega),Option.bind_some,wi (by omega) (by omega)]
          have:=ih j (c*10 - y) (by omega) (by omega) (by omega) (by omega) (by omega)
          exact this
        · rw [if_neg hx0,wi (n:=c*10) (by omega) (by omega),wi (by omega) (by omega),Option.bind_some,wi (by omega) (by omega)]
          have:=ih j (c*10+y) (by omega) (by omega) (by omega) (by omega) (by omega)
          exact this
theorem Tell (k:Nat) {x e:Int} (hx:nd x≤9000) (he1 : -4000≤e) (he2:e≤4000) (hk:30000≤k):∃ er c y:Int,g_r9_Tell k (decide (x<0)) (digs x.natAbs) e=some (er,c,y)∧Tells (·=val x e) ((c,y),er):=by
  unfold g_r9_Tell
  simp only [Option.bind_some,bd]
  have hx':(digs x.natAbs).length≤9000:=hx
  by_cases h0:x=0
  · subst h0
    refine ⟨0,0,0,?_,tells_zero⟩
    rw [show (0:Int).natAbs=0 from rfl,digs_zero];rfl
  · have hn0:x.natAbs≠0:=by omega
    have hp:=len_pos hn0
    rw [if_neg (by omega)]
    obtain ⟨w,j,h1,h2,h3,h4,h5⟩:=Tell_l0 k (neg:=decide (x<0)) hk (digs x.natAbs).length k x.natAbs e (by omega) hn0 (Nat.le_refl _) (by omega) (by omega) (by omega)
    -- the number without noughts
    obtain ⟨y,hy⟩:∃ y:Int,y=sgn (decide (x<0)) w:=⟨_,rfl⟩
    have hyw:y.natAbs=w:=by rw [hy,sgn_abs]
    have hw0:w≠0:=by rintro rfl;simp at h2
    have hy0:y≠0:=by omega
    have hxy:x=y*10^j:=by
      have:x=sgn (decide (x<0)) x.natAbs:=by unfold sgn;by_cases h:x<0 <;> simp [h] <;> omega
      rw [this,h1,sgn_mul,← hy]
      simp
    have hneg:decide (x<0)=decide (y<0):=by
      rw [hy]
      rw [decide_eq_decide]
      by_cases h:x<0
      · simp [h,sgn];omega
      · simp [h,sgn]
    have hd:¬ (10:Int) ∣ y:=by rw [hy,sgn_dvd];exact h2
    have hval:val x e=val y (e+j):=by
      conv=>lhs;rw [hxy]
      exact val_shift (by omega)
    rw [hval]
    by_cases h60:60<e
    · rw [if_pos h60]
      refine ⟨30,0,0,rfl,tells_none hy0 hd (by omega) (.inr ?_)⟩
      have:(10:Nat)^20≤10^(e+j - 18).toNat:=Nat.pow_le_pow_right (by decide) (by omega)
      have h6:(y*10^(e+j - 18).toNat).natAbs=w*10^(e+j - 18).toNat:=by rw [Int.natAbs_mul,hyw,Int.natAbs_pow];rfl
      have h7:1*10^20≤w*10^(e+j - 18).toNat:=Nat.mul_le_mul (by omega) this
      rw [← h6] at h7
      omega
    · rw [if_neg h60,h5,Option.bind_some]
      simp only
      clear hy
      subst hyw
      rw [hneg]
      obtain ⟨t,t1,t2,t3,t4⟩:=Tell_l1 k hk k y (e+j) hy0 (by omega) (by omega) (by unfold nd;omega) (by omega) (by omega)
      rw [t4,Option.bind_some]
      simp only
      generalize hz:y*10^t=z at *
      have hz0:z≠0:=by rw [← hz];intro h;rcases Int.mul_eq_zero.1 h with h | h;exact hy0 h;exact absurd h (Int.ne_of_gt (p10 _))
      have h18none:18<e+j - t→Tells (·=val y (e+j)) ((0,0),30):=by
        intro h18
        refine tells_none hy0 hd (by omega) (.inr ?_)
        have h30:=digs_ge (n:=z.natAbs) (by omega)
        have hlen:=t2 h18
        have h29:(10:Nat)^29≤z.natAbs:=Nat.le_trans (Nat.pow_le_pow_right (by decide) (by unfold nd at hlen;omega)) h30
        have hsplit:y*10^(e+j - 18).toNat=z*10^(e+j - 18 - t).toNat:=by
          rw [← hz,Int.mul_assoc,← Int.pow_add]
          congr 2
          omega
        have h6:(z*10^(e+j - 18 - t).toNat).natAbs=z.natAbs*10^(e+j - 18 - t).toNat:=by rw [Int.natAbs_mul,Int.natAbs_pow];rfl
        have h7:10^29*1≤z.natAbs*10^(e+j - 18 - t).toNat:=Nat.mul_le_mul h29 (Nat.pow_pos (by decide))
        rw [← h6] at h7
        rw [hsplit]
        omega
      by_cases h18:18<e+j - t
      · rw [if_pos h18,Option.bind_some,bt]
        exact ⟨30,0,0,rfl,h18none h18⟩
      · rw [if_neg h18]
        by_cases hm18:e+j - t < -18
        · rw [if_pos hm18,Option.bind_some,bt]
          exact ⟨30,0,0,rfl,tells_none hy0 hd (by omega) (.inl (by omega))⟩
        · rw [if_neg hm18]
          have hzl:(digs z.natAbs).length≤9030:=t3
          rw [fits k (by omega) hk,Option.bind_some,Option.bind_some]
          have hzx:e+j - t=(if e+j > 18 then 18 else e+j):=by split <;> omega
          have hzt:z=y*10^(e+j - (e+j - t)).toNat:=by rw [← hz];congr 2;omega
          have hzs:z=sgn (decide (z<0)) z.natAbs:=by unfold sgn;by_cases h:z<0 <;> simp [h] <;> omega
          by_cases hfit:z.natAbs≤topN (decide (z<0))
          · rw [dt hfit,Bool.not_true,bf]
            have hr:=in_range.2 hfit
            rw [← hzs] at hr
            have hzlen:=nd_i64 hr.1 hr.2
            rw [wi (by omega) (by omega)]
            have:=Tell_l2 k hr.1 hr.2 k (digs z.natAbs).length 0 (by omega) (Nat.le_refl _) (by rw [gone10 (Nat.le_refl _)];rfl) (by omega) (by omega)
            rw [this,Option.bind_some]
            exact ⟨0,z,e+j - t,rfl,tells_some hy0 hd (by omega) ⟨hzx,hzt,by omega,hr.1,hr.2⟩⟩
          · rw [df hfit,Bool.not_false,bt]
            refine ⟨30,0,0,rfl,?_⟩
            have hnr:=fun h=>hfit (in_range.1 h)
            rw [← hzs] at hnr
            refine tells_none hy0 hd (by omega) ?_
            by_cases he18:e+j > 18
            · rw [if_pos he18] at hzx
              rw [hzx] at hzt
              rw [← hzt]
              exact .inr hnr
            · rw [if_neg he18] at hzx
              refine .inr ?_
              rw [hzx] at hzt
              rw [show (e+j - 18).toNat=(e+j - (e+j)).toNat by omega,← hzt]
              exact hnr
theorem num (k:Nat) {c e:Int} (hk:30≤k) (h1 : -9223372036854775808≤c) (h2:c≤9223372036854775807):g_r9_num k c e=some (decide (-18≤e∧e≤18),digs c.natAbs):=by
  unfold g_r9_num
  rw [of_ k hk h1 h2]
  simp only [Option.bind_some,bd]
  by_cases h : -18≤e
  · rw [if_pos h]
    simp only [Option.bind_some]
    congr 2
    rw [decide_eq_decide];omega
  · rw [if_neg h,df (by omega)];rfl
theorem two_l0 (k:Nat) (y:Int) (hk:30000≤k):∀ (t m:Nat) (x e:Int),t<m→nd x+t≤9000 → -10000≤y→y≤10000→(e - y).toNat=t →
    g_r9_two_l0 k y m (decide (x<0)) (digs x.natAbs) e=some (decide (x*10^t<0),digs (x*10^t).natAbs,e - t):=by
  intro t
  induction t with
  | zero =>
    intro m x e hm hx _ _ ht
    obtain ⟨m,rfl⟩:∃ m',m=m'+1:=⟨m - 1,by omega⟩
    rw [g_r9_two_l0.eq_2]
    simp only [bd]
    rw [if_neg (by omega)]
    simp
  | succ t ih =>
    intro m x e hm hx hy1 hy2 ht
    obtain ⟨m,rfl⟩:∃ m',m=m'+1:=⟨m - 1,by omega⟩
    rw [g_r9_two_l0.eq_2]
    simp only [bd]
    have hs:=shift k (x:=x) (n:=1) (by omega) (by omega) hk
    rw [show ((1:Nat):Int)=1 from rfl] at hs
    rw [if_pos (by omega),hs,Option.bind_some,wi (by omega) (by omega)]
    have h10:(x*10^1).natAbs=x.natAbs*10:=by rw [Int.natAbs_mul];rfl
    have hnd:nd (x*10^1)≤nd x+1:=by
      unfold nd
      rw [h10]
      by_cases hz:x.natAbs=0
      · rw [hz];simp [digs_zero]
      · rw [len10 hz];omega
    simp only
    rw [ih m (x*10^1) (e - 1) (by omega) (by omega) hy1 hy2 (by omega),Int.mul_assoc,← Int.pow_add,Nat.add_comm 1 t]
    congr 3
    omega
theorem two_l1 (k:Nat) (y:Int) (hk:30000≤k):∀ (t m:Nat) (x e:Int),t<m→nd x+t≤9000 → -10000≤y→y≤10000→(e - y).toNat=t →
    g_r9_two_l1 k y m (decide (x<0)) (digs x.natAbs) e=some (decide (x*10^t<0),digs (x*10^t).natAbs,e - t):=by
  intro t
  induction t with
  | zero =>
    intro m x e hm hx _ _ ht
    obtain ⟨m,rfl⟩:∃ m',m=m'+1:=⟨m - 1,by omega⟩
    rw [g_r9_two_l1.eq_2]
    simp only [bd]
    rw [if_neg (by omega)]
    simp
  | succ t ih =>
    intro m x e hm hx hy1 hy2 ht
    obtain ⟨m,rfl⟩:∃ m',m=m'+1:=⟨m - 1,by omega⟩
    rw [g_r9_two_l1.eq_2]
    simp only [bd]
    have hs:=shift k (x:=x) (n:=1) (by omega) (by omega) hk
    rw [show ((1:Nat):Int)=1 from rfl] at hs
    rw [if_pos (by omega),hs,Option.bind_some,wi (by omega) (by omega)]
    have h10:(x*10^1).natAbs=x.natAbs*10:=by rw [Int.natAbs_mul];rfl
    have hnd:nd (x*10^1)≤nd x+1:=by
      unfold nd
      rw [h10]
      by_cases hz:x.natAbs=0
      · rw [hz];simp [digs_zero]
      · rw [len10 hz];omega
    simp only
    rw [ih m (x*10^1) (e - 1) (by omega) (by omega) hy1 hy2 (by omega),Int.mul_assoc,← Int.pow_add,Nat.add_comm 1 t]
    congr 3
    omega
theorem two (k:Nat) {c e d f:Int} (hk:30000≤k) (h1 : -9223372036854775808≤c) (h2:c≤9223372036854775807) (h3 : -9223372036854775808≤d) (h4:d≤9223372036854775807) :
    if (-18≤e∧e≤18)∧(-18≤f∧f≤18) then ∃ s t:Nat,s≤36∧t≤36∧e - s=f - t∧g_r9_two k c e d f=some (true,decide (c*10^s<0),digs (c*10^s).natAbs,e - s,decide (d*10^t<0),digs (d*10^t).natAbs,e - s)
    else ∃ r,g_r9_two k c e d f=some (false,r):=by
  unfold g_r9_two
  rw [num k (by omega) h1 h2,num k (by omega) h3 h4]
  simp only [Option.bind_some]
  have n1:=nd_i64 h1 h2
  have n2:=nd_i64 h3 h4
  by_cases he : -18≤e∧e≤18
  · by_cases hf : -18≤f∧f≤18
    · rw [if_pos ⟨he,hf⟩,dt he,dt hf]
      simp only [Bool.not_true,cond_false,Option.bind_some]
      refine ⟨(e - f).toNat,(f - (e - (e - f).toNat)).toNat,by omega,by omega,by omega,?_⟩
      rw [two_l0 k f hk (e - f).toNat k c e (by omega) (by omega) (by omega) (by omega) rfl,Option.bind_some]
      simp only
      rw [two_l1 k _ hk (f - (e - (e - f).toNat)).toNat k d f (by omega) (by omega) (by omega) (by omega) rfl,Option.bind_some]
      simp only
      rw [show f - (((f - (e - (e - f).toNat)).toNat:Nat):Int)=e - (((e - f).toNat:Nat):Int) by omega]
    · rw [if_neg (fun h=>hf h.2),dt he,df hf]
      exact ⟨_,rfl⟩
  · rw [if_neg (fun h=>he h.1),df he]
    exact ⟨_,rfl⟩
theorem canon_exists {c:Int} (hc:I64 c):∀ (n:Nat) (e:Int),(18 - e).toNat=n→Rng e→∀ c,I64 c→∃ c' x',Canon c' x'∧val c' x'=val c e:=by
  intro n
  induction n with
  | zero =>
    intro e h he c hc
    unfold Rng at he
    unfold I64 at hc
    by_cases h0:c=0
    · exact ⟨0,0,.inl ⟨rfl,rfl⟩,by rw [h0,val_zero,val_zero]⟩
    · exact ⟨c,e,.inr ⟨h0,he.1,he.2,hc.1,hc.2,.inl (by omega)⟩,rfl⟩
  | succ n ih =>
    intro e h he c hc
    unfold Rng at he
    unfold I64 at hc
    by_cases h0:c=0
    · exact ⟨0,0,.inl ⟨rfl,rfl⟩,by rw [h0,val_zero,val_zero]⟩
    · by_cases hd:(10:Int) ∣ c
      · obtain ⟨c1,rfl⟩:=hd
        obtain ⟨c',x',h1,h2⟩:=ih (e+1) (by omega) (by unfold Rng;omega) c1 (by unfold I64;omega)
        refine ⟨c',x',h1,?_⟩
        have:=val_shift (m:=c1) (e:=e) (j:=1) (by omega)
        rw [h2,Int.mul_comm 10 c1]
        exact this.symm
      · exact ⟨c,e,.inr ⟨h0,he.1,he.2,hc.1,hc.2,.inr hd⟩,rfl⟩
theorem size_eq (k:Nat) {c:Int} (hc:I64 c):g_dec_size k c=some ((c.natAbs:Nat):Int):=by
  unfold g_dec_size
  unfold I64 at hc
  simp only [bd,Option.bind_some]
  by_cases h:c<0
  · rw [if_pos h]
    have:IntKind.wrap .u64 (0 - IntKind.wrap .u64 c)=((c.natAbs:Nat):Int):=by rw [wUi,wUi];omega
    rw [this]
  · rw [if_neg h]
    have:IntKind.wrap .u64 c=((c.natAbs:Nat):Int):=by rw [wUi];omega
    rw [this]
theorem of_eq (k:Nat) {c e:Int} (hc:I64 c):g_dec_of k c e=some ((c.natAbs:Nat):Int):=by
  unfold g_dec_of;rw [size_eq k hc];rfl
theorem ranged_eq (k:Nat) (hk:3≤k) {c e:Int}:g_dec_ranged k ([(⟨c,e⟩:S_api_Dec)]:List S_api_Dec)=some (decide (Rng e)):=by
  unfold g_dec_ranged
  obtain ⟨k,rfl⟩:∃ k',k=k'+2:=⟨k - 2,by omega⟩
  rw [g_dec_ranged_l0.eq_2]
  have e1:ix ([(⟨c,e⟩:S_api_Dec)]:List S_api_Dec) 0=some ⟨c,e⟩:=rfl
  have e2:IntKind.wrap .i64 (0+1)=1:=by decide
  have e3:decide ((0:Int)<(([(⟨c,e⟩:S_api_Dec)].length:Nat):Int))=true:=rfl
  have e4:decide ((1:Int)<(([(⟨c,e⟩:S_api_Dec)].length:Nat):Int))=false:=rfl
  rw [Option.bind_some,e3,bt,e1,Option.bind_some,e2]
  simp only [bd]
  by_cases h1:e < -18
  · rw [if_pos h1,df (show ¬ Rng e by unfold Rng;omega)];rfl
  · rw [if_neg h1]
    by_cases h2:18<e
    · rw [dt h2,df (show ¬ Rng e by unfold Rng;omega)];rfl
    · rw [df h2,dt (show Rng e by unfold Rng;omega),Option.bind_some,bf,g_dec_ranged_l0.eq_2,Option.bind_some,e4];rfl
theorem sgn_self (c:Int):sgn (decide (c<0)) c.natAbs=c:=by
  unfold sgn;by_cases h:c<0 <;> simp [h] <;> omega
theorem abs_lt {c:Int} (hc:I64 c):c.natAbs<18446744073709551616:=by unfold I64 at hc;omega
theorem tell_abs (k:Nat) (hk:60≤k) {neg:Bool} {n:Nat} {e:Int} (hn:n<18446744073709551616) (he : -4000≤e∧e≤4000):∃ er c x:Int,g_dec_num_tell k neg 0 (n:Int) e=some (er,c,x)∧Tells (·=val (sgn neg n) e) ((c,x),er):=by
  have:=num_tell k hk (neg:=neg) (v:=n) (e:=e) (by unfold UU;omega) he.1 he.2
  rwa [wh_small hn,wl_small hn] at this
theorem tell_ok (k:Nat) (hk:60≤k) {c e:Int} (hc:I64 c) (he:Rng e):∃ c' e':Int,g_dec_num_tell k (decide (c<0)) 0 ((c.natAbs:Nat):Int) e=some (0,c',e')∧Canon c' e'∧val c' e'=val c e:=by
  obtain ⟨er,c',x',h1,h2⟩:=tell_abs k hk (neg:=decide (c<0)) (n:=c.natAbs) (e:=e) (abs_lt hc) (by unfold Rng at he;omega)
  rw [sgn_self] at h2
  rcases h2 with ⟨h3,h4,h5⟩ | ⟨h3,h4⟩
  · simp only at h3 h4 h5
    exact ⟨c',x',by rw [h1,h3],h4,h5⟩
  · obtain ⟨c2,x2,h5,h6⟩:=canon_exists hc _ e rfl he c hc
    exact absurd h6 (h4 _ _ h5)
theorem clean1 (k:Nat) (hk:60≤k) {c e:Int} (hc:I64 c):if Rng e then ∃ c' e':Int,g_dec_clean__b k c e=some (true,c',e')∧Canon c' e'∧val c' e'=val c e else ∃ r,g_dec_clean__b k c e=some (false,r):=by
  unfold g_dec_clean__b
  rw [ranged_eq k (by omega),Option.bind_some]
  by_cases he:Rng e
  · rw [if_pos he,dt he]
    obtain ⟨c',e',h1,h2,h3⟩:=tell_ok k hk hc he
    rw [of_eq k hc]
    simp only [Bool.not_true,cond_false,Option.bind_some]
    rw [h1]
    exact ⟨c',e',rfl,h2,h3⟩
  · rw [if_neg he,df he]
    exact ⟨_,rfl⟩
theorem clean (k:Nat) (hk:60≤k) {c e d f:Int} (hc:I64 c) (hd:I64 d):if Rng e∧Rng f then ∃ c' e' d' f':Int,g_dec_clean k c e d f=some (true,c',e',d',f')∧Canon c' e'∧val c' e'=val c e∧Canon d' f'∧val d' f'=val d f
    else ∃ r,g_dec_clean k c e d f=some (false,r):=by
  unfold g_dec_clean
  rw [ranged_eq k (by omega),Option.bind_some]
  by_cases he:Rng e
  · rw [dt he]
    obtain ⟨c',e',h1,h2,h3⟩:=tell_ok k hk hc he
    rw [of_eq k hc]
    simp only [Bool.not_true,cond_false,Option.bind_some]
    rw [h1,Option.bind_some]
    simp only
    rw [ranged_eq k (by omega),Option.bind_some]
    by_cases hf:Rng f
    · rw [if_pos ⟨he,hf⟩,dt hf]
      obtain ⟨d',f',h4,h5,h6⟩:=tell_ok k hk hd hf
      rw [of_eq k hd]
      simp only [Bool.not_true,cond_false,Option.bind_some]
      rw [h4]
      exact ⟨c',e',d',f',rfl,h2,h3,h5,h6⟩
    · rw [if_neg (fun h=>hf h.2),df hf]
      exact ⟨_,rfl⟩
  · rw [if_neg (fun h=>he h.1),df he]
    exact ⟨_,rfl⟩
structure Even (c e d f:Int) (X Y:Nat) (g:Int):Prop where
  hx:X<UU
  hy:Y<UU
  hg:Rng g
  vx:val (sgn (decide (c<0)) X) g=val c e
  vy:val (sgn (decide (d<0)) Y) g=val d f
  last:(X<18446744073709551616∧Y<18446744073709551616)∨(X%10=0∧Y%10≠0)∨(X%10≠0∧Y%10=0)
theorem none_big {m g:Int} (hd:¬ (10:Int) ∣ m) (hm:18446744073709551616≤m.natAbs) (hg:Rng g):∀ c x,Canon c x→¬ val c x=val m g:=by
  intro c x hc e
  unfold Rng at hg
  obtain ⟨h1,h2,h3,h4,h5⟩:=(canon_iff (by omega) hd (by omega)).1 ⟨hc,e⟩
  rw [if_neg (by omega)] at h1
  subst h1
  simp at h2
  omega
theorem lastd {c x:Int} (h:Canon c x) (h0:c≠0) (hx:x<18):¬ (10:Int) ∣ c:=by
  rcases h with ⟨h1,_⟩ | ⟨_,_,_,_,_,h1 | h1⟩
  · exact absurd h1 h0
  · omega
  · exact h1
theorem abs_dvd {c:Int}:c.natAbs%10=0↔(10:Int) ∣ c:=by omega
theorem even (k:Nat) (hk:60≤k) {c e d f:Int} (hc:Canon c e) (hd:Canon d f) :
    (∃ X Y g,g_dec_even k c e d f=some (true,wh X,wl X,g,wh Y,wl Y,g)∧Even c e d f X Y g) ∨
    (∃ r,g_dec_even k c e d f=some (false,r)∧e≠f∧c≠0∧d≠0∧(f<e→UU≤c.natAbs*10^(e - f).toNat)∧(e<f→UU≤d.natAbs*10^(f - e).toNat)∧∀ s:Int,(s=1∨s = -1)→∀ c' x',Canon c' x'→¬ val c' x'=val c e+s*val d f):=by
  unfold g_dec_even
  have ac:=abs_lt hc.i64
  have ad:=abs_lt hd.i64
  have re:=hc.rg
  have rf:=hd.rg
  have re':=hc.rng
  have rf':=hd.rng
  rw [of_eq k hc.i64,of_eq k hd.i64]
  simp only [Option.bind_some,wide_zero,bd]
  have vc:val (sgn (decide (c<0)) c.natAbs) e=val c e:=by rw [sgn_self]
  have vd:val (sgn (decide (d<0)) d.natAbs) f=val d f:=by rw [sgn_self]
  have small:∀ {n:Nat},n<18446744073709551616→n<UU:=fun h=>by unfold UU;omega
  by_cases h0:c=0
  · rw [if_pos ((wide_or_small ac).2 (by omega)),Option.bind_some]
    refine .inl ⟨c.natAbs,d.natAbs,f,?_,⟨small ac,small ad,rf,?_,vd,.inl ⟨ac,ad⟩⟩⟩
    · rw [wh_small ac,wl_small ac,wh_small ad,wl_small ad]
    · rw [h0];simp [sgn,val_zero]
  · rw [if_neg (fun h=>h0 (by have:=(wide_or_small ac).1 h;omega))]
    by_cases h1:d=0
    · rw [if_pos ((wide_or_small ad).2 (by omega)),Option.bind_some]
      refine .inl ⟨c.natAbs,d.natAbs,e,?_,⟨small ac,small ad,re,vc,?_,.inl ⟨ac,ad⟩⟩⟩
      · rw [wh_small ac,wl_small ac,wh_small ad,wl_small ad]
      · rw [h1];simp [sgn,val_zero]
    · rw [if_neg (fun h=>h1 (by have:=(wide_or_small ad).1 h;omega))]
      by_cases h2:f<e
      · rw [if_pos h2,wi (by omega) (by omega)]
        obtain ⟨m,hm⟩:∃ m:Nat,e - f=(m:Int):=⟨(e - f).toNat,by omega⟩
        obtain ⟨b,x,y,t1,t2,t3⟩:=wide_tens k (v:=c.natAbs) (m:=m) (small ac) (by omega) (by omega)
        rw [wh_small ac,wl_small ac] at t1
        rw [hm,t1]
        simp only [Option.bind_some]
        have vx:val (sgn (decide (c<0)) (c.natAbs*10^m)) f=val c e:=by
          rw [sgn_mul,sgn_self,show ((10^m:Nat):Int)=(10:Int)^m by simp,val_shift (by omega),show f+(m:Int)=e by omega]
        have hdd:¬ (10:Int) ∣ d:=lastd hd h1 (by omega)
        have hdd':d.natAbs%10≠0:=fun h=>hdd (abs_dvd.1 h)
        have h10:(c.natAbs*10^m)%10=0:=by
          obtain ⟨m',rfl⟩:∃ m',m=m'+1:=⟨m - 1,by omega⟩
          rw [Nat.pow_succ,← Nat.mul_assoc,Nat.mul_mod_left]
        cases b with
        | true =>
          obtain ⟨u1,u2,u3⟩:=t2 rfl
          refine .inl ⟨c.natAbs*10^m,d.natAbs,f,?_,⟨u1,small ad,rf,vx,vd,.inr (.inl ⟨h10,hdd'⟩)⟩⟩
          rw [u2,u3,wh_small ad,wl_small ad]
        | false =>
          have hbig:=t3 rfl
          refine .inr ⟨_,rfl,by omega,h0,h1,fun _=>by first | exact hbig | (rw [hm];exact hbig),fun h=>by omega,?_⟩
          intro s hs c' x' hcx he
          rw [← vx,← vd,sgn_self] at he
          have e2:val (sgn (decide (c<0)) (c.natAbs*10^m)) f+s*val d f=val (sgn (decide (c<0)) (c.natAbs*10^m)+s*d) f:=by
            rw [val_add];unfold val;rw [Int.mul_assoc]
          rw [e2] at he
          have hX:=@sgn_abs (decide (c<0)) (c.natAbs*10^m)
          have hX10:=(@sgn_dvd (decide (c<0)) (c.natAbs*10^m)).2 h10
          generalize sgn (decide (c<0)) (c.natAbs*10^m)=w at *
          unfold UU at hbig
          refine none_big (m:=w+s*d) ?_ ?_ rf _ _ hcx he
          · rcases hs with rfl | rfl <;> omega
          · rcases hs with rfl | rfl <;> omega
      · rw [if_neg h2]
        by_cases h3:e<f
        · rw [if_pos h3,wi (by omega) (by omega)]
          obtain ⟨m,hm⟩:∃ m:Nat,f - e=(m:Int):=⟨(f - e).toNat,by omega⟩
          obtain ⟨b,x,y,t1,t2,t3⟩:=wide_tens k (v:=d.natAbs) (m:=m) (small ad) (by omega) (by omega)
          rw [wh_small ad,wl_small ad] at t1
          rw [hm,t1]
          simp only [Option.bind_some]
          have vy:val (sgn (decide (d<0)) (d.natAbs*10^m)) e=val d f:=by
            rw [sgn_mul,sgn_self,show ((10^m:Nat):Int)=(10:Int)^m by simp,val_shift (by omega),show e+(m:Int)=f by omega]
          have hcc:¬ (10:Int) ∣ c:=lastd hc h0 (by omega)
          have hcc':c.natAbs%10≠0:=fun h=>hcc (abs_dvd.1 h)
          have h10:(d.natAbs*10^m)%10=0:=by
            obtain ⟨m',rfl⟩:∃ m',m=m'+1:=⟨m - 1,by omega⟩
            rw [Nat.pow_succ,← Nat.mul_assoc,Nat.mul_mod_left]
          cases b with
          | true =>
            obtain ⟨u1,u2,u3⟩:=t2 rfl
            refine .inl ⟨c.natAbs,d.natAbs*10^m,e,?_,⟨small ac,u1,re,vc,vy,.inr (.inr ⟨hcc',h10⟩)⟩⟩
            rw [u2,u3,wh_small ac,wl_small ac]
          | false =>
            have hbig:=t3 rfl
            refine .inr ⟨_,rfl,by omega,h0,h1,fun h=>by omega,fun _=>by first | exact hbig | (rw [hm];exact hbig),?_⟩
            intro s hs c' x' hcx he
            rw [← vy,← vc,sgn_self] at he
            have e2:val c e+s*val (sgn (decide (d<0)) (d.natAbs*10^m)) e=val (c+s*sgn (decide (d<0)) (d.natAbs*10^m)) e:=by
              rw [val_add];unfold val;rw [Int.mul_assoc]
            rw [e2] at he
            have hX:=@sgn_abs (decide (d<0)) (d.natAbs*10^m)
            have hX10:=(@sgn_dvd (decide (d<0)) (d.natAbs*10^m)).2 h10
            generalize sgn (decide (d<0)) (d.natAbs*10^m)=w at *
            unfold UU at hbig
            refine none_big (m:=c+s*w) ?_ ?_ re _ _ hcx he
            · rcases hs with rfl | rfl <;> omega
            · rcases hs with rfl | rfl <;> omega
        · rw [if_neg h3,Option.bind_some]
          have hef:e=f:=by omega
          subst hef
          exact .inl ⟨c.natAbs,d.natAbs,e,by rw [wh_small ac,wl_small ac,wh_small ad,wl_small ad],⟨small ac,small ad,re,vc,vd,.inl ⟨ac,ad⟩⟩⟩
def Sp (R:Prop) [Decidable R] (p:Int→Prop) (g:Option (Int × Int × Int)):Prop:=if R then ∃ er c x:Int,g=some (er,c,x)∧Tells p ((c,x),er) else g=some (1,0,0)
theorem Sp.eq {R:Prop} [Decidable R] {p:Int→Prop} {g g':Option (Int × Int × Int)} (hp:∀ a b,p a→p b→a=b) (h:Sp R p g) (h':Sp R p g'):∃ r,g=some r∧g'=some r:=by
  unfold Sp at h h'
  by_cases hR:R
  · rw [if_pos hR] at h h'
    obtain ⟨er,c,x,h1,h2⟩:=h
    obtain ⟨er',c',x',h3,h4⟩:=h'
    have:=Tells.uniq hp h2 h4
    simp only [Prod.mk.injEq] at this
    obtain ⟨⟨rfl,rfl⟩,rfl⟩:=this
    exact ⟨_,h1,h3⟩
  · rw [if_neg hR] at h h'
    exact ⟨_,h,h'⟩
theorem Tells.none {p:Int→Prop} (h:∀ c x,Canon c x→¬ p (val c x)):Tells p ((0,0),30):=.inr ⟨rfl,h⟩
theorem sgn_add {neg:Bool} {X Y:Nat}:sgn neg (X+Y)=sgn neg X+sgn neg Y:=by cases neg <;> simp [sgn] <;> omega
theorem sgn_sub {neg:Bool} {X Y:Nat} (h:Y≤X):sgn neg (X - Y)=sgn neg X - sgn neg Y:=by cases neg <;> simp [sgn] <;> omega
theorem sgn_not {neg:Bool} {X:Nat}:sgn (!neg) X = - sgn neg X:=by cases neg <;> simp [sgn]
theorem sum_last {c e d f:Int} {X Y:Nat} {g:Int} (h:Even c e d f X Y g) (hov:UU≤X+Y) {neg:Bool}:∀ c' x',Canon c' x'→¬ val c' x'=val (sgn neg (X+Y)) g:=by
  have h1:=h.hx
  have h2:=h.hy
  unfold UU at *
  refine none_big ?_ (by rw [sgn_abs];omega) h.hg
  rw [sgn_dvd]
  rcases h.last with h3 | h3 | h3 <;> omega
theorem tell_num (k:Nat) (hk:60≤k) {neg:Bool} {V:Nat} {g v:Int} (hV:V<UU) (hg:Rng g) (hv:val (sgn neg V) g=v):∃ er c x:Int,g_dec_num_tell k neg (wh V) (wl V) g=some (er,c,x)∧Tells (·=v) ((c,x),er):=by
  rw [← hv]
  unfold Rng at hg
  exact num_tell k hk hV (by omega) (by omega)
theorem dec_Add (k:Nat) (hk:60≤k) {c e d f:Int} (hc:I64 c) (hd:I64 d):Sp (Rng e∧Rng f) (·=val c e+val d f) (g_dec_Add k c e d f):=by
  unfold Sp g_dec_Add
  have hcl:=clean k hk (e:=e) (f:=f) hc hd
  by_cases hR:Rng e∧Rng f
  · rw [if_pos hR] at hcl ⊢
    obtain ⟨c',e',d',f',h1,h2,h3,h4,h5⟩:=hcl
    rw [h1,← h3,← h5]
    simp only [Option.bind_some,Bool.not_true,cond_false]
    rcases even k hk h2 h4 with ⟨X,Y,g,g1,g2⟩ | ⟨r,g1,_,_,_,_,_,g2⟩
    · rw [g1]
      simp only [Option.bind_some,Bool.not_true,cond_false]
      rw [← g2.vx,← g2.vy]
      by_cases hs:decide (c'<0)=decide (d'<0)
      · rw [hs,beq_self_eq_true,bt,wide_plus k g2.hx g2.hy,Option.bind_some,Option.bind_some]
        simp only
        rw [← val_add,← sgn_add]
        by_cases hov:X+Y<UU
        · rw [dt hov,Bool.not_true,bf]
          obtain ⟨v1,v2⟩:=wide_plus_val g2.hx g2.hy hov
          rw [v1,v2]
          obtain ⟨er,c,x,t1,t2⟩:=tell_num k hk hov g2.hg rfl
          rw [t1]
          exact ⟨er,c,x,rfl,t2⟩
        · rw [df hov,Bool.not_false,bt]
          exact ⟨30,0,0,rfl,Tells.none (sum_last g2 (Nat.le_of_not_lt hov))⟩
      · have hb:((decide (c'<0))==(decide (d'<0)))=false:=by rw [beq_eq_false_iff_ne];exact hs
        have hn:decide (d'<0)=!decide (c'<0):=by
          rw [← Bool.eq_not_of_ne (Ne.symm hs)]
        rw [hb,bf,wide_cmp k g2.hx g2.hy,Option.bind_some]
        by_cases hc':Y≤X
        · obtain ⟨v1,v2⟩:=wide_less_val g2.hx hc'
          rw [v1,v2,dt (cmpN_nonneg.2 hc'),bt,wide_less]
          simp only [Option.bind_some,Bool.not_true,cond_false]
          obtain ⟨er,c,x,t1,t2⟩:=tell_num k hk (V:=X - Y) (neg:=decide (c'<0)) (Nat.lt_of_le_of_lt (Nat.sub_le _ _) g2.hx) g2.hg rfl
          rw [t1]
          refine ⟨er,c,x,rfl,?_⟩
          rw [hn,sgn_not,val_neg,← Int.sub_eq_add_neg,← val_sub,← sgn_sub hc']
          exact t2
        · obtain ⟨v1,v2⟩:=wide_less_val g2.hy (show X≤Y by omega)
          rw [v1,v2,df (fun h=>hc' (cmpN_nonneg.1 h)),bf,wide_less]
          simp only [Option.bind_some,Bool.not_true,cond_false]
          obtain ⟨er,c,x,t1,t2⟩:=tell_num k hk (V:=Y - X) (neg:=decide (d'<0)) (Nat.lt_of_le_of_lt (Nat.sub_le _ _) g2.hy) g2.hg rfl
          rw [t1]
          refine ⟨er,c,x,rfl,?_⟩
          have hn':decide (c'<0)=!decide (d'<0):=by rw [hn,Bool.not_not]
          rw [hn',sgn_not,val_neg,Int.add_comm,← Int.sub_eq_add_neg,← val_sub,← sgn_sub (show X≤Y by omega)]
          exact t2
    · rw [g1]
      simp only [Option.bind_some,Bool.not_false,cond_true]
      refine ⟨30,0,0,rfl,Tells.none fun c x hcx he=>g2 1 (.inl rfl) c x hcx ?_⟩
      rw [he,Int.one_mul]
  · rw [if_neg hR] at hcl ⊢
    obtain ⟨r,h1⟩:=hcl
    rw [h1]
    rfl
theorem dec_lowest (k:Nat) (hk:60≤k) {c e d f:Int} (hc:Canon c e) (hd:Canon d f) (hlow:d = -9223372036854775808):∃ er c' x:Int,g_dec_lowest k c e d f=some (er,c',x)∧Tells (·=val c e - val d f) ((c',x),er):=by
  unfold g_dec_lowest
  have hdn:decide (d<0)=true:=dt (by omega)
  rcases even k hk hc hd with ⟨X,Y,g,g1,g2⟩ | ⟨r,g1,_,_,_,_,_,g2⟩
  · rw [g1]
    simp only [Option.bind_some,Bool.not_true,cond_false]
    rw [← g2.vx,← g2.vy,hdn]
    by_cases hc0:c<0
    · rw [dt hc0,bt,wide_cmp k g2.hx g2.hy,Option.bind_some]
      by_cases hc':Y≤X
      · obtain ⟨v1,v2⟩:=wide_less_val g2.hx hc'
        rw [v1,v2,dt (cmpN_nonneg.2 hc'),bt,wide_less]
        simp only [Option.bind_some]
        obtain ⟨er,c,x,t1,t2⟩:=tell_num k hk (V:=X - Y) (neg:=true) (by have:=g2.hx;omega) g2.hg rfl
        rw [t1]
        refine ⟨er,c,x,rfl,?_⟩
        rw [← val_sub,← sgn_sub hc']
        exact t2
      · obtain ⟨v1,v2⟩:=wide_less_val g2.hy (show X≤Y by omega)
        rw [v1,v2,df (fun h=>hc' (cmpN_nonneg.1 h)),bf,wide_less]
        simp only [Option.bind_some]
        obtain ⟨er,c,x,t1,t2⟩:=tell_num k hk (V:=Y - X) (neg:=false) (by have:=g2.hy;omega) g2.hg rfl
        rw [t1]
        refine ⟨er,c,x,rfl,?_⟩
        rw [← val_sub,show sgn true X - sgn true Y=sgn false (Y - X) by simp [sgn];omega]
        exact t2
    · rw [df hc0,bf,wide_plus k g2.hx g2.hy,Option.bind_some]
      rw [← val_sub,show sgn false X - sgn true Y=sgn false (X+Y) by simp [sgn]]
      by_cases hov:X+Y<UU
      · rw [dt hov,Bool.not_true,bf]
        obtain ⟨v1,v2⟩:=wide_plus_val g2.hx g2.hy hov
        rw [v1,v2]
        obtain ⟨er,c,x,t1,t2⟩:=tell_num k hk (neg:=false) hov g2.hg rfl
        rw [t1]
        exact ⟨er,c,x,rfl,t2⟩
      · rw [df hov,Bool.not_false,bt]
        exact ⟨30,0,0,rfl,Tells.none (sum_last g2 (Nat.le_of_not_lt hov))⟩
  · rw [g1]
    simp only [Option.bind_some,Bool.not_false,cond_true]
    refine ⟨30,0,0,rfl,Tells.none fun c x hcx he=>g2 (-1) (.inr rfl) c x hcx ?_⟩
    rw [he]
    omega
theorem dec_Sub (k:Nat) (hk:60≤k) {c e d f:Int} (hc:I64 c) (hd:I64 d):Sp (Rng e∧Rng f) (·=val c e - val d f) (g_dec_Sub k c e d f):=by
  unfold Sp g_dec_Sub
  have hcl:=clean k hk (e:=e) (f:=f) hc hd
  by_cases hR:Rng e∧Rng f
  · rw [if_pos hR] at hcl ⊢
    obtain ⟨c',e',d',f',h1,h2,h3,h4,h5⟩:=hcl
    rw [h1,← h3,← h5]
    simp only [Option.bind_some,Bool.not_true,cond_false,bd]
    by_cases hlow:d' = -9223372036854775808
    · rw [if_pos hlow]
      obtain ⟨er,c,x,t1,t2⟩:=dec_lowest k hk h2 h4 hlow
      rw [t1]
      exact ⟨er,c,x,rfl,t2⟩
    · rw [if_neg hlow]
      have hd':=h4.i64
      unfold I64 at hd'
      rw [Int.zero_sub,wi (by omega) (by omega)]
      have:=dec_Add k hk (e:=e') (f:=f') (d := -d') h2.i64 (by unfold I64;omega)
      unfold Sp at this
      rw [if_pos ⟨h2.rg,h4.rg⟩] at this
      obtain ⟨er,c,x,t1,t2⟩:=this
      rw [t1]
      refine ⟨er,c,x,rfl,?_⟩
      rw [val_neg,← Int.sub_eq_add_neg] at t2
      exact t2
  · rw [if_neg hR] at hcl ⊢
    obtain ⟨r,h1⟩:=hcl
    rw [h1]
    rfl
theorem dec_Neg (k:Nat) (hk:60≤k) {c e:Int} (hc:I64 c):Sp (Rng e) (· = - val c e) (g_dec_Neg k c e):=by
  unfold Sp g_dec_Neg
  rw [ranged_eq k (by omega),Option.bind_some]
  by_cases hR:Rng e
  · rw [if_pos hR,dt hR,of_eq k hc]
    simp only [Option.bind_some,Bool.not_true,cond_false]
    obtain ⟨er,c',x,t1,t2⟩:=tell_abs k hk (neg:=!decide (c<0)) (n:=c.natAbs) (e:=e) (abs_lt hc) (by unfold Rng at hR;omega)
    rw [t1]
    refine ⟨er,c',x,rfl,?_⟩
    rw [sgn_not,sgn_self,val_neg] at t2
    exact t2
  · rw [if_neg hR,df hR];rfl
theorem val_mul {c e d f:Int} (he : -200000≤e) (hf : -200000≤f):val c e*val d f=val (c*d) (e+f)*10^500000:=by
  unfold val
  have e1:∀ p q:Int,c*p*(d*q)=c*d*(p*q):=fun p q=>by rw [Int.mul_assoc,Int.mul_left_comm p,← Int.mul_assoc]
  rw [e1,← Int.pow_add,Int.mul_assoc (c*d),← Int.pow_add,show (e+500000).toNat+(f+500000).toNat=(e+f+500000).toNat+500000 by omega]
theorem ten_pos:(0:Int)<10^500000:=p10 500000
theorem val_mul_eq {c e d f c' e' d' f':Int} (he : -200000≤e) (hf : -200000≤f) (he' : -200000≤e') (hf' : -200000≤f') (h1:val c' e'=val c e) (h2:val d' f'=val d f):val (c'*d') (e'+f')=val (c*d) (e+f):=by
  have a:=val_mul (c:=c) (d:=d) he hf
  have b:=val_mul (c:=c') (d:=d') he' hf'
  rw [h1,h2,a] at b
  exact (Int.eq_of_mul_eq_mul_right (Int.ne_of_gt ten_pos) b).symm
theorem sgn_prod {c d:Int}:sgn (!(decide (c<0)==decide (d<0))) (c.natAbs*d.natAbs)=c*d:=by
  have h1:=sgn_self c
  have h2:=sgn_self d
  have:sgn (!(decide (c<0)==decide (d<0))) (c.natAbs*d.natAbs)=sgn (decide (c<0)) c.natAbs*sgn (decide (d<0)) d.natAbs:=by
    cases decide (c<0) <;> cases decide (d<0) <;> simp [sgn,Int.neg_mul,Int.mul_neg]
  rw [this,h1,h2]
theorem dec_Mul (k:Nat) (hk:60≤k) {c e d f:Int} (hc:I64 c) (hd:I64 d):Sp (Rng e∧Rng f) (·=val (c*d) (e+f)) (g_dec_Mul k c e d f):=by
  unfold Sp g_dec_Mul
  have hcl:=clean k hk (e:=e) (f:=f) hc hd
  by_cases hR:Rng e∧Rng f
  · rw [if_pos hR] at hcl ⊢
    obtain ⟨c',e',d',f',h1,h2,h3,h4,h5⟩:=hcl
    have r1:=h2.rng
    have r2:=h4.rng
    have ac:c'.natAbs≤9223372036854775808:=by omega
    have ad:d'.natAbs≤9223372036854775808:=by omega
    rw [h1]
    simp only [Option.bind_some,Bool.not_true,cond_false]
    rw [size_eq k h2.i64,size_eq k h4.i64]
    simp only [Option.bind_some]
    have hm:=Nat.mul_le_mul ac ad
    rw [mul64 k (by omega) (by omega)]
    simp only [Option.bind_some]
    rw [← Int.natCast_mul,wU,wi (by omega) (by omega)]
    have hV:c'.natAbs*d'.natAbs<UU:=by unfold UU;omega
    obtain ⟨er,c2,x,t1,t2⟩:=num_tell k hk (neg:=!(decide (c'<0)==decide (d'<0))) (v:=c'.natAbs*d'.natAbs) (e:=e'+f') hV (by omega) (by omega)
    unfold wh wl at t1
    rw [t1]
    refine ⟨er,c2,x,rfl,?_⟩
    rw [sgn_prod,val_mul_eq (c:=c) (e:=e) (d:=d) (f:=f) (by have:=hR.1;unfold Rng at this;omega) (by have:=hR.2;unfold Rng at this;omega) (by omega) (by omega) h3 h5] at t2
    exact t2
  · rw [if_neg hR] at hcl ⊢
    obtain ⟨r,h1⟩:=hcl
    rw [h1]
    rfl
theorem nd_mul {x:Int} {n:Nat}:nd (x*10^n)≤nd x+n:=by
  unfold nd
  refine digs_len_le ?_
  rw [Int.natAbs_mul,Int.natAbs_pow,Nat.pow_add]
  exact Nat.mul_lt_mul_of_pos_right digs_lt (Nat.pow_pos (by decide))
theorem nd_add {x y:Int}:nd (x+y)≤nd x+nd y+1:=by
  unfold nd
  refine digs_len_le ?_
  have h1:=digs_lt (n:=x.natAbs)
  have h2:=digs_lt (n:=y.natAbs)
  have h3:10^(digs x.natAbs).length≤10^((digs x.natAbs).length+(digs y.natAbs).length):=Nat.pow_le_pow_right (by decide) (by omega)
  have h4:10^(digs y.natAbs).length≤10^((digs x.natAbs).length+(digs y.natAbs).length):=Nat.pow_le_pow_right (by decide) (by omega)
  rw [Nat.pow_succ]
  omega
theorem nd_neg {x:Int}:nd (-x)=nd x:=by unfold nd;rw [Int.natAbs_neg]
theorem ref_Add (k:Nat) (hk:30000≤k) {c e d f:Int} (hc:I64 c) (hd:I64 d):Sp (Rng e∧Rng f) (·=val c e+val d f) (g_r9_Add k c e d f):=by
  unfold Sp g_r9_Add
  have h2:=two k (e:=e) (f:=f) hk hc.1 hc.2 hd.1 hd.2
  by_cases hR:Rng e∧Rng f
  · have hR':=hR
    unfold Rng at hR'
    rw [if_pos hR'] at h2
    rw [if_pos hR]
    obtain ⟨s,t,hs,ht,hst,h3⟩:=h2
    rw [h3]
    simp only [Option.bind_some,Bool.not_true,cond_false]
    have n1:=nd_i64 hc.1 hc.2
    have n2:=nd_i64 hd.1 hd.2
    have m1:=@nd_mul c s
    have m2:=@nd_mul d t
    have m3:=@nd_add (c*10^s) (d*10^t)
    rw [plus k (by omega) (by omega) hk]
    simp only [Option.bind_some]
    obtain ⟨er,c2,x,t1,t2⟩:=Tell k (x:=c*10^s+d*10^t) (e:=e - s) (by omega) (by omega) (by omega) hk
    rw [t1]
    refine ⟨er,c2,x,rfl,?_⟩
    rw [val_add,val_shift (by omega),show e - (s:Int)+s=e by omega,hst,val_shift (by omega),show f - (t:Int)+t=f by omega] at t2
    exact t2
  · have hR':=hR
    unfold Rng at hR'
    rw [if_neg hR'] at h2
    rw [if_neg hR]
    obtain ⟨r,h3⟩:=h2
    rw [h3];rfl
theorem ref_Sub (k:Nat) (hk:30000≤k) {c e d f:Int} (hc:I64 c) (hd:I64 d):Sp (Rng e∧Rng f) (·=val c e - val d f) (g_r9_Sub k c e d f):=by
  unfold Sp g_r9_Sub g_r9_Minus
  have h2:=two k (e:=e) (f:=f) hk hc.1 hc.2 hd.1 hd.2
  by_cases hR:Rng e∧Rng f
  · have hR':=hR
    unfold Rng at hR'
    rw [if_pos hR'] at h2
    rw [if_pos hR]
    obtain ⟨s,t,hs,ht,hst,h3⟩:=h2
    rw [h3]
    simp only [Option.bind_some,Bool.not_true,cond_false]
    have n1:=nd_i64 hc.1 hc.2
    have n2:=nd_i64 hd.1 hd.2
    have m1:=@nd_mul c s
    have m2:=@nd_mul d t
    have m4:=@nd_neg (d*10^t)
    have m3:=@nd_add (c*10^s) (-(d*10^t))
    rw [minus_trim k (by omega) hk]
    simp only [Option.bind_some]
    rw [plus k (by omega) (by omega) hk]
    simp only [Option.bind_some]
    obtain ⟨er,c2,x,t1,t2⟩:=Tell k (x:=c*10^s + -(d*10^t)) (e:=e - s) (by omega) (by omega) (by omega) hk
    rw [t1]
    refine ⟨er,c2,x,rfl,?_⟩
    rw [val_add,val_neg,val_shift (by omega),show e - (s:Int)+s=e by omega,hst,val_shift (by omega),show f - (t:Int)+t=f by omega,← Int.sub_eq_add_neg] at t2
    exact t2
  · have hR':=hR
    unfold Rng at hR'
    rw [if_neg hR'] at h2
    rw [if_neg hR]
    obtain ⟨r,h3⟩:=h2
    rw [h3];rfl
theorem ref_Neg (k:Nat) (hk:30000≤k) {c e:Int} (hc:I64 c):Sp (Rng e) (· = - val c e) (g_r9_Neg k c e):=by
  have h:=ref_Sub k hk (c:=0) (e:=0) (d:=c) (f:=e) (by unfold I64;omega) hc
  unfold g_r9_Neg
  unfold Sp at *
  by_cases hR:Rng e
  · rw [if_pos ⟨by unfold Rng;omega,hR⟩] at h
    rw [if_pos hR]
    obtain ⟨er,c2,x,t1,t2⟩:=h
    rw [t1]
    refine ⟨er,c2,x,rfl,?_⟩
    rw [val_zero,Int.zero_sub] at t2
    exact t2
  · rw [if_neg (fun h=>hR h.2)] at h
    rw [if_neg hR,h];rfl
theorem nd_prod {x y:Int}:nd (x*y)≤nd x+nd y:=by
  unfold nd
  refine digs_len_le ?_
  rw [Int.natAbs_mul,Nat.pow_add]
  exact Nat.mul_lt_mul_of_lt_of_lt digs_lt digs_lt
theorem ref_Mul (k:Nat) (hk:30000≤k) {c e d f:Int} (hc:I64 c) (hd:I64 d):Sp (Rng e∧Rng f) (·=val (c*d) (e+f)) (g_r9_Mul k c e d f):=by
  unfold Sp g_r9_Mul
  rw [num k (by omega) hc.1 hc.2,num k (by omega) hd.1 hd.2]
  simp only [Option.bind_some]
  have n1:=nd_i64 hc.1 hc.2
  have n2:=nd_i64 hd.1 hd.2
  by_cases he:Rng e
  · have he':=he
    unfold Rng at he'
    rw [dt he',Bool.not_true,bf]
    by_cases hf:Rng f
    · have hf':=hf
      unfold Rng at hf'
      rw [if_pos ⟨he,hf⟩,dt hf',Bool.not_true,Option.bind_some,bf,times k (by omega) (by omega) hk]
      simp only [Option.bind_some]
      have m:=@nd_prod c d
      rw [wi (by omega) (by omega)]
      obtain ⟨er,c2,x,t1,t2⟩:=Tell k (x:=c*d) (e:=e+f) (by omega) (by omega) (by omega) hk
      rw [t1]
      exact ⟨er,c2,x,rfl,t2⟩
    · rw [if_neg (fun h=>hf h.2),df (show ¬ (-18≤f∧f≤18) from hf)];rfl
  · rw [if_neg (fun h=>he h.1),df (show ¬ (-18≤e∧e≤18) from he)];rfl
theorem i64_I {c:Int} (h:(Lit.int .i64 c).wf=true):I64 c:=i64_wf h
theorem gcd_loop (k:Nat):∀ (m n x y:Nat),2*m+1≤n→y<2^m→g_dec_Div_l0 k n (x:Int) (y:Int)=some ((Nat.gcd x y:Nat):Int):=by
  intro m
  induction m with
  | zero =>
    intro n x y hn hy
    obtain ⟨n,rfl⟩:∃ n',n=n'+1:=⟨n - 1,by omega⟩
    have:y=0:=by simp at hy;omega
    subst this
    rw [g_dec_Div_l0.eq_2]
    simp
  | succ m ih =>
    intro n x y hn hy
    obtain ⟨n,rfl⟩:∃ n',n=n'+2:=⟨n - 2,by omega⟩
    rw [g_dec_Div_l0.eq_2]
    by_cases h0:y=0
    · subst h0;simp
    · have e0:((y:Int)==0)=false:=by rw [beq_eq_false_iff_ne];omega
      rw [df (by omega),Bool.not_false,bt,e0,Bool.not_false,bt,tm,g_dec_Div_l0.eq_2]
      have hr:x%y<y:=Nat.mod_lt _ (by omega)
      by_cases h1:x%y=0
      · rw [h1,dt (by rfl),Bool.not_true,bf]
        rw [Nat.gcd_comm,Nat.gcd_rec,h1,Nat.gcd_zero_left]
      · have e1:(((x%y:Nat):Int)==0)=false:=by rw [beq_eq_false_iff_ne];omega
        rw [df (by omega),Bool.not_false,bt,e1,Bool.not_false,bt,tm]
        have h2:y%(x%y)<x%y:=Nat.mod_lt _ (by omega)
        have h3:=Nat.div_add_mod y (x%y)
        have h4:1≤y / (x%y):=Nat.div_pos (by omega) (by omega)
        have h5:(x%y)*1≤(x%y)*(y / (x%y)):=Nat.mul_le_mul_left _ h4
        rw [Nat.pow_succ] at hy
        rw [ih n (x%y) (y%(x%y)) (by omega) (by omega)]
        congr 2
        conv=>rhs;rw [Nat.gcd_comm,Nat.gcd_rec,Nat.gcd_rec]
        rw [Nat.gcd_comm]
theorem factors_loop (k:Nat) {f:Nat} (hf:2≤f):∀ (m n v c:Nat),m<n→v≠0→v<2^m→v<18446744073709551616→c+m≤1000→∃ w j:Nat,v=w*f^j∧w%f≠0∧j≤m∧w≠0 ∧
    g_dec_factors_l0 k (f:Int) n (v:Int) (c:Int)=some ((w:Int),((c+j:Nat):Int)):=by
  intro m
  induction m with
  | zero=>intro n v c _ h0 h;simp at h;omega
  | succ m ih =>
    intro n v c hn h0 hv hU hc
    obtain ⟨n,rfl⟩:∃ n',n=n'+1:=⟨n - 1,by omega⟩
    rw [g_dec_factors_l0.eq_2]
    have e0:((f:Int)==0)=false:=by rw [beq_eq_false_iff_ne];omega
    rw [e0,Bool.not_false,bt,tm]
    by_cases h:v%f=0
    · rw [dt (by omega),bt,bt,td]
      have hle:v / f≤v / 2:=Nat.div_le_div_left hf (by decide)
      have hvf:v=v / f*f:=by have:=Nat.div_add_mod v f;rw [Nat.mul_comm] at this;omega
      have hne:v / f≠0:=by intro h0';rw [h0'] at hvf;omega
      rw [wUl (by omega),wi (by omega) (by omega),show ((c:Int)+1)=((c+1:Nat):Int) by omega]
      rw [Nat.pow_succ] at hv
      obtain ⟨w,j,h1,h2,h3,h4,h5⟩:=ih n (v / f) (c+1) (by omega) hne (by omega) (by omega) (by omega)
      refine ⟨w,j+1,?_,h2,by omega,h4,?_⟩
      · rw [Nat.pow_succ,← Nat.mul_assoc,← h1];exact hvf
      · rw [h5];congr 3;omega
    · rw [df (by omega),bf]
      exact ⟨v,0,by simp,h,by omega,h0,by simp⟩
theorem factors (k:Nat) {f v:Nat} (hk:65≤k) (hf:2≤f) (h0:v≠0) (hU:v<18446744073709551616):∃ w j:Nat,v=w*f^j∧w%f≠0∧j≤64∧w≠0∧g_dec_factors k (v:Int) (f:Int)=some ((j:Int),(w:Int)):=by
  unfold g_dec_factors
  obtain ⟨w,j,h1,h2,h3,h4,h5⟩:=factors_loop k hf 64 k v 0 (by omega) h0 (by simpa using hU) hU (by omega)
  rw [show ((0:Nat):Int)=0 from rfl,Nat.zero_add] at h5
  rw [h5]
  exact ⟨w,j,h1,h2,h3,h4,rfl⟩
theorem twos_l1 (k:Nat) {a b m:Nat} (hm:b - a=m) (hb:b≤1000) (ha:a≤b):∀ (n i v:Nat),i≤m→m - i+1<n→v<UU→∃ (o:Bool) (x y:Int),g_dec_Div_l1 k (a:Int) (b:Int) n true (i:Int) (wh v) (wl v)=some (o,x,y) ∧
    (o=true→v*2^(m - i)<UU∧x=wh (v*2^(m - i))∧y=wl (v*2^(m - i)))∧(o=false→UU≤v*2^(m - i)):=by
  intro n
  induction n with
  | zero=>intro i v _ h;omega
  | succ n ih =>
    intro i v hi hn hv
    rw [g_dec_Div_l1.eq_2,wi (n:=(b:Int) - a) (by omega) (by omega)]
    simp only [Option.bind_some]
    by_cases him:i<m
    · rw [dt (by omega),bt,Option.bind_some,bt]
      obtain ⟨x,h1,h2⟩:=wide_times k hv (n:=2) (by decide)
      have w1:=@wide_times_lo v 2
      rw [show ((2:Nat):Int)=2 from rfl] at h1 w1
      rw [h1,Option.bind_some,wi (by omega) (by omega),w1]
      by_cases hlt:v*2<UU
      · rw [dt hlt,h2 hlt,show ((i:Int)+1)=((i+1:Nat):Int) by omega]
        have e:v*2^(m - i)=v*2*2^(m - (i+1)):=by
          rw [show m - i=(m - (i+1))+1 by omega,Nat.pow_succ,Nat.mul_assoc,Nat.mul_comm 2]
        rw [e]
        exact ih (i+1) (v*2) (by omega) (by omega) hlt
      · rw [df hlt]
        have hbig:UU≤v*2^(m - i):=by
          obtain ⟨j,hj⟩:∃ j,m - i=j+1:=⟨m - i - 1,by omega⟩
          rw [hj,Nat.pow_succ,Nat.mul_comm (2^j),← Nat.mul_assoc]
          exact Nat.le_trans (Nat.le_of_not_lt hlt) (Nat.le_mul_of_pos_right _ (Nat.pow_pos (by decide)))
        obtain ⟨n',rfl⟩:∃ n',n=n'+1:=⟨n - 1,by omega⟩
        rw [g_dec_Div_l1.eq_2]
        refine ⟨false,x,wl (v*2),?_,(fun h=>by cases h),fun _=>hbig⟩
        simp only [Option.bind_some]
        generalize decide (((i:Int)+1)<IntKind.wrap .i64 ((b:Int) - a))=q
        cases q <;> rfl
    · rw [df (by omega),bf,Option.bind_some,bf]
      refine ⟨true,wh v,wl v,rfl,fun _=>?_,fun h=>by cases h⟩
      rw [show m - i=0 by omega];simp [hv]
theorem fives_false (k:Nat) {a b x y:Int} (n:Nat):g_dec_Div_l2 k a b (n+1) false 0 x y=some (false,x,y):=by
  rw [g_dec_Div_l2.eq_2]
  simp only [Option.bind_some]
  generalize decide ((0:Int)<IntKind.wrap .i64 (b - a))=q
  cases q <;> rfl
theorem fives_l2 (k:Nat) {a b m:Nat} (hm:b - a=m) (hb:b≤1000) (ha:a≤b):∀ (n i v:Nat),i≤m→m - i+1<n→v<UU→∃ (o:Bool) (x y:Int),g_dec_Div_l2 k (a:Int) (b:Int) n true (i:Int) (wh v) (wl v)=some (o,x,y) ∧
    (o=true→v*5^(m - i)<UU∧x=wh (v*5^(m - i))∧y=wl (v*5^(m - i)))∧(o=false→UU≤v*5^(m - i)):=by
  intro n
  induction n with
  | zero=>intro i v _ h;omega
  | succ n ih =>
    intro i v hi hn hv
    rw [g_dec_Div_l2.eq_2,wi (n:=(b:Int) - a) (by omega) (by omega)]
    simp only [Option.bind_some]
    by_cases him:i<m
    · rw [dt (by omega),bt,Option.bind_some,bt]
      obtain ⟨x,h1,h2⟩:=wide_times k hv (n:=5) (by decide)
      have w1:=@wide_times_lo v 5
      rw [show ((5:Nat):Int)=5 from rfl] at h1 w1
      rw [h1,Option.bind_some,wi (by omega) (by omega),w1]
      by_cases hlt:v*5<UU
      · rw [dt hlt,h2 hlt,show ((i:Int)+1)=((i+1:Nat):Int) by omega]
        have e:v*5^(m - i)=v*5*5^(m - (i+1)):=by
          rw [show m - i=(m - (i+1))+1 by omega,Nat.pow_succ,Nat.mul_assoc,Nat.mul_comm 5]
        rw [e]
        exact ih (i+1) (v*5) (by omega) (by omega) hlt
      · rw [df hlt]
        have hbig:UU≤v*5^(m - i):=by
          obtain ⟨j,hj⟩:∃ j,m - i=j+1:=⟨m - i - 1,by omega⟩
          rw [hj,Nat.pow_succ,Nat.mul_comm (5^j),← Nat.mul_assoc]
          exact Nat.le_trans (Nat.le_of_not_lt hlt) (Nat.le_mul_of_pos_right _ (Nat.pow_pos (by decide)))
        obtain ⟨n',rfl⟩:∃ n',n=n'+1:=⟨n - 1,by omega⟩
        rw [g_dec_Div_l2.eq_2]
        refine ⟨false,x,wl (v*5),?_,(fun h=>by cases h),fun _=>hbig⟩
        simp only [Option.bind_some]
        generalize decide (((i:Int)+1)<IntKind.wrap .i64 ((b:Int) - a))=q
        cases q <;> rfl
    · rw [df (by omega),bf,Option.bind_some,bf]
      refine ⟨true,wh v,wl v,rfl,fun _=>?_,fun h=>by cases h⟩
      rw [show m - i=0 by omega];simp [hv]
theorem cop2 {m:Nat} (h:m%2≠0):Nat.Coprime m 2:=by
  have h1:=Nat.gcd_dvd_right m 2
  have h2:=Nat.gcd_dvd_left m 2
  have h3:=Nat.le_of_dvd (by decide) h1
  unfold Nat.Coprime
  generalize Nat.gcd m 2=g at *
  obtain ⟨a,ha⟩:=h1
  obtain ⟨b,hb⟩:=h2
  rcases (by omega:g=0∨g=1∨g=2) with rfl | rfl | rfl <;> omega
theorem cop5 {m:Nat} (h:m%5≠0):Nat.Coprime m 5:=by
  have h1:=Nat.gcd_dvd_right m 5
  have h2:=Nat.gcd_dvd_left m 5
  have h3:=Nat.le_of_dvd (by decide) h1
  unfold Nat.Coprime
  generalize Nat.gcd m 5=g at *
  obtain ⟨a,ha⟩:=h1
  obtain ⟨b,hb⟩:=h2
  rcases (by omega:g=0∨g=1∨g=2∨g=3∨g=4∨g=5) with rfl | rfl | rfl | rfl | rfl | rfl <;> omega
theorem cop10 {m:Nat} (h2:m%2≠0) (h5:m%5≠0) (n:Nat):Nat.Coprime m (10^n):=(Nat.Coprime.mul_right (cop2 h2) (cop5 h5)).pow_right n
theorem dvd5 {a b:Nat} (h:(a*b)%5=0) (ha:a%5≠0):b%5=0:=by
  have:=(cop5 ha).symm.dvd_of_dvd_mul_left (Nat.dvd_of_mod_eq_zero h)
  exact Nat.mod_eq_zero_of_dvd this
theorem pow_mod5 {n:Nat}:2^n%5≠0:=by
  induction n with
  | zero=>decide
  | succ n ih=>rw [Nat.pow_succ];omega
theorem pow_mod2 {n:Nat}:5^n%2=1:=by
  induction n with
  | zero=>decide
  | succ n ih=>rw [Nat.pow_succ];omega
def SpD (R:Prop) [Decidable R] (z:Prop) [Decidable z] (p:Int→Prop) (g:Option (Int × Int × Int)):Prop :=
  if R then (if z then g=some (31,0,0) else ∃ er c x:Int,g=some (er,c,x)∧Tells p ((c,x),er)) else g=some (1,0,0)
theorem SpD.eq {R:Prop} [Decidable R] {z:Prop} [Decidable z] {p:Int→Prop} {g g':Option (Int × Int × Int)} (hp:¬ z→∀ a b,p a→p b→a=b) (h:SpD R z p g) (h':SpD R z p g'):∃ r,g=some r∧g'=some r:=by
  unfold SpD at h h'
  by_cases hR:R
  · rw [if_pos hR] at h h'
    by_cases hz:z
    · rw [if_pos hz] at h h'
      exact ⟨_,h,h'⟩
    · rw [if_neg hz] at h h'
      obtain ⟨er,c,x,h1,h2⟩:=h
      obtain ⟨er',c',x',h3,h4⟩:=h'
      have:=Tells.uniq (hp hz) h2 h4
      simp only [Prod.mk.injEq] at this
      obtain ⟨⟨rfl,rfl⟩,rfl⟩:=this
      exact ⟨_,h1,h3⟩
  · rw [if_neg hR] at h h'
    exact ⟨_,h,h'⟩
def Quot (A B V:Int):Prop:=V*B=A*10^500000
theorem quot_fun {A B:Int} (h:B≠0):∀ a b,Quot A B a→Quot A B b→a=b:=fun a b ha hb=>Int.eq_of_mul_eq_mul_right h (ha.trans hb.symm)
theorem quot_iff {c e d f C X:Int} (he : -200000≤X) (hf : -200000≤f):Quot (val c e) (val d f) (val C X)↔val (C*d) (X+f)=val c e:=by
  unfold Quot
  rw [val_mul he hf]
  exact ⟨fun h=>Int.eq_of_mul_eq_mul_right (Int.ne_of_gt ten_pos) h,fun h=>by rw [h]⟩
theorem quot_is {A B V0:Int} (hB:B≠0) (h:Quot A B V0):∀ V,V=V0↔Quot A B V:=fun V=>⟨fun e=>e ▸ h,fun k=>quot_fun hB _ _ k h⟩
theorem val_ne {c e:Int} (h:c≠0):val c e≠0:=fun k=>h (val_eq_zero k)
theorem none_huge {m g:Int} (hd:¬ (10:Int) ∣ m) (hm:18446744073709551616≤m.natAbs) (hg : -500000≤g):∀ c x,Canon c x→¬ val c x=val m g:=by
  intro c x hc e
  obtain ⟨h1,h2,h3,h4,h5⟩:=(canon_iff (by omega) hd hg).1 ⟨hc,e⟩
  have h6:c.natAbs=m.natAbs*10^(g - x).toNat:=by rw [h2,Int.natAbs_mul,Int.natAbs_pow];rfl
  have h7:m.natAbs*1≤m.natAbs*10^(g - x).toNat:=Nat.mul_le_mul_left _ (Nat.pow_pos (by decide))
  omega
theorem val_abs {c e:Int}:(val c e).natAbs=c.natAbs*10^(e+500000).toNat:=by unfold val;rw [Int.natAbs_mul,Int.natAbs_pow];rfl
theorem sgn_x (p q:Bool) (w y:Nat):sgn (!(p==q)) w*sgn q y=sgn p (w*y):=by
  cases p <;> cases q <;> simp [sgn,Int.neg_mul,Int.mul_neg]
theorem dec_Div (k:Nat) (hk:200≤k) {c e d f:Int} (hc:I64 c) (hd:I64 d):SpD (Rng e∧Rng f) (d=0) (Quot (val c e) (val d f)) (g_dec_Div k c e d f):=by
  unfold SpD g_dec_Div
  have hcl:=clean k (by omega) (e:=e) (f:=f) hc hd
  by_cases hR:Rng e∧Rng f
  · rw [if_pos hR] at hcl ⊢
    obtain ⟨c',e',d',f',h1,h2,h3,h4,h5⟩:=hcl
    rw [h1,← h3,← h5]
    simp only [Option.bind_some,Bool.not_true,cond_false]
    have re:=h2.rng
    have rf:=h4.rng
    have hd0:d'=0↔d=0:=by
      constructor
      · intro h;rw [h,val_zero] at h5;exact val_eq_zero h5.symm
      · intro h;rw [h,val_zero] at h5;exact val_eq_zero h5
    by_cases hz:d=0
    · rw [if_pos hz,dt (hd0.2 hz),bt]
    · have hz':d'≠0:=fun h=>hz (hd0.1 h)
      rw [if_neg hz,df hz',bf]
      by_cases hc0:c'=0
      · rw [dt hc0,bt]
        refine ⟨0,0,0,rfl,.inl ⟨rfl,.inl ⟨rfl,rfl⟩,?_⟩⟩
        unfold Quot
        rw [hc0,val_zero,val_zero,Int.zero_mul,Int.zero_mul]
      · rw [df hc0,bf,size_eq k h2.i64,size_eq k h4.i64]
        simp only [Option.bind_some]
        have ac:=abs_lt h2.i64
        have ad:=abs_lt h4.i64
        have hx0:c'.natAbs≠0:=by omega
        have hy0:d'.natAbs≠0:=by omega
        rw [gcd_loop k 64 k c'.natAbs d'.natAbs (by omega) (by simpa using ad),Option.bind_some]
        have hg0:0<Nat.gcd c'.natAbs d'.natAbs:=Nat.gcd_pos_of_pos_left _ (by omega)
        have hcop:=Nat.coprime_div_gcd_div_gcd hg0
        have hx':c'.natAbs=c'.natAbs / Nat.gcd c'.natAbs d'.natAbs*Nat.gcd c'.natAbs d'.natAbs:=(Nat.div_mul_cancel (Nat.gcd_dvd_left _ _)).symm
        have hy':d'.natAbs=d'.natAbs / Nat.gcd c'.natAbs d'.natAbs*Nat.gcd c'.natAbs d'.natAbs:=(Nat.div_mul_cancel (Nat.gcd_dvd_right _ _)).symm
        have eg:(((Nat.gcd c'.natAbs d'.natAbs:Nat):Int)==0)=false:=by rw [beq_eq_false_iff_ne];omega
        simp only [eg,Bool.not_false,cond_true,td]
        have xle:c'.natAbs / Nat.gcd c'.natAbs d'.natAbs≤c'.natAbs:=Nat.div_le_self _ _
        have yle:d'.natAbs / Nat.gcd c'.natAbs d'.natAbs≤d'.natAbs:=Nat.div_le_self _ _
        generalize Nat.gcd c'.natAbs d'.natAbs=g at *
        obtain ⟨X,hX⟩:∃ X,X=c'.natAbs / g:=⟨_,rfl⟩
        obtain ⟨Y,hY⟩:∃ Y,Y=d'.natAbs / g:=⟨_,rfl⟩
        rw [← hX] at hcop hx' xle ⊢
        rw [← hY] at hcop hy' yle ⊢
        have hX0:X≠0:=by intro h;rw [h] at hx';simp at hx';omega
        have hY0:Y≠0:=by intro h;rw [h] at hy';simp at hy';omega
        rw [wUl (n:=Y) (by omega),wUl (n:=X) (by omega)]
        obtain ⟨Y1,t,a1,a2,a3,a4,a5⟩:=factors k (f:=2) (v:=Y) (by omega) (by decide) hY0 (by omega)
        obtain ⟨r,v,b1,b2,b3,b4,b5⟩:=factors k (f:=5) (v:=Y1) (by omega) (by decide) a4 (by
          have:Y1*1≤Y1*2^t:=Nat.mul_le_mul_left _ (Nat.two_pow_pos t)
          omega)
        rw [show ((2:Nat):Int)=2 from rfl] at a5
        rw [show ((5:Nat):Int)=5 from rfl] at b5
        rw [a5,Option.bind_some]
        simp only
        rw [b5,Option.bind_some]
        simp only
        -- the equation,without signs
        have eqn:∀ C W:Int,Canon C W→Quot (val c' e') (val d' f') (val C W)→∃ m1 m2:Nat,C.natAbs*Y*10^m1=X*10^m2:=by
          intro C W hC hq
          have rC:=hC.rng
          rw [quot_iff (by omega) (by omega)] at hq
          have:=congrArg Int.natAbs hq
          rw [val_abs,val_abs,Int.natAbs_mul] at this
          refine ⟨(W+f'+500000).toNat,(e'+500000).toNat,?_⟩
          rw [hx',hy'] at this
          have h6:C.natAbs*Y*10^(W+f'+500000).toNat*g=X*10^(e'+500000).toNat*g:=by
            rw [Nat.mul_right_comm _ _ g,Nat.mul_assoc C.natAbs,this,Nat.mul_right_comm]
          exact Nat.eq_of_mul_eq_mul_right hg0 h6
        by_cases hr:r=1
        · rw [hr,dt (by rfl),Bool.not_true,bf]
          have hYY:Y=2^t*5^v:=by rw [a1,b1,hr,Nat.one_mul,Nat.mul_comm]
          obtain ⟨K,hK⟩:∃ K:Nat,(if (v:Int) > (t:Int) then (v:Int) else (t:Int))=(K:Int)∧t≤K∧v≤K∧(K=t∨K=v)∧K≤64:=by
            by_cases h:v > t
            · exact ⟨v,by rw [if_pos (by omega)],by omega,by omega,.inr rfl,b3⟩
            · exact ⟨t,by rw [if_neg (by omega)],by omega,by omega,.inl rfl,a3⟩
          obtain ⟨hK1,hK2,hK3,hK4,hK5⟩:=hK
          rw [hK1]
          have hXU:X<UU:=by unfold UU;omega
          obtain ⟨o1,x1,y1,l1,l2,l3⟩:=twos_l1 k (a:=t) (b:=K) (m:=K - t) rfl (by omega) hK2 k 0 X (by omega) (by omega) hXU
          rw [wh_small (by omega),wl_small (by omega),show ((0:Nat):Int)=0 from rfl] at l1
          rw [l1,Option.bind_some]
          simp only [Nat.sub_zero] at l2 l3 ⊢
          -- the number
          have hW:X*2^(K - t)*5^(K - v)*d'.natAbs=c'.natAbs*10^K:=by
            rw [hy',hYY,hx',show (10:Nat)=2*5 from rfl,Nat.mul_pow]
            have p2:2^K=2^(K - t)*2^t:=by rw [← Nat.pow_add];congr 1;omega
            have p5:5^K=5^(K - v)*5^v:=by rw [← Nat.pow_add];congr 1;omega
            rw [p2,p5]
            simp only [Nat.mul_assoc,Nat.mul_comm,Nat.mul_left_comm]
          have hsg:∀ w:Nat,sgn (!(decide (c'<0)==decide (d'<0))) w*d'=sgn (decide (c'<0)) (w*d'.natAbs):=by
            intro w
            have h2:=sgn_x (decide (c'<0)) (decide (d'<0)) w d'.natAbs
            rw [sgn_self] at h2
            exact h2
          have hQ:Quot (val c' e') (val d' f') (val (sgn (!(decide (c'<0)==decide (d'<0))) (X*2^(K - t)*5^(K - v))) (e' - f' - K)):=by
            rw [quot_iff (by omega) (by omega),hsg,hW,sgn_mul,sgn_self,show ((10^K:Nat):Int)=(10:Int)^K by simp,val_shift (by omega),show e' - f' - (K:Int)+f'+K=e' by omega]
          have hiff:=quot_is (val_ne hz') hQ
          -- too great
          have big:UU≤X*2^(K - t)*5^(K - v)→∃ er c x:Int,(some (30,0,0):Option (Int × Int × Int))=some (er,c,x)∧Tells (Quot (val c' e') (val d' f')) ((c,x),er):=by
            intro hb
            refine ⟨30,0,0,rfl,Tells.none fun C W hC hq=>?_⟩
            have:=(hiff _).2 hq
            refine none_huge ?_ (by rw [sgn_abs];unfold UU at hb;omega) (by omega) C W hC this
            rw [sgn_dvd]
            intro h10
            by_cases hK0:K=0
            · have e1:K - t=0:=by omega
              have e2:K - v=0:=by omega
              rw [e1,e2] at hb
              simp at hb
              omega
            · by_cases htv:v≤t
              · -- an even divisor
                have hKt:K=t:=by omega
                have e1:K - t=0:=by omega
                rw [e1,Nat.pow_zero,Nat.mul_one] at h10
                have p5:=@pow_mod2 (K - v)
                have hXe:X%2=0:=by
                  have h2:(X*5^(K - v))%2=0:=by omega
                  rw [Nat.mul_mod,p5] at h2
                  omega
                have hYe:Y%2=0:=by
                  obtain ⟨t',rfl⟩:∃ t',t=t'+1:=⟨t - 1,by omega⟩
                  rw [a1,Nat.pow_succ,← Nat.mul_assoc];omega
                have:=Nat.dvd_gcd (Nat.dvd_of_mod_eq_zero hXe) (Nat.dvd_of_mod_eq_zero hYe)
                rw [hcop] at this
                have:=Nat.le_of_dvd (by decide) this
                omega
              · have hKv:K=v:=by omega
                have e1:K - v=0:=by omega
                rw [e1,Nat.pow_zero,Nat.mul_one] at h10
                have hX5:X%5=0:=by
                  have h5:(2^(K - t)*X)%5=0:=by rw [Nat.mul_comm];omega
                  exact dvd5 h5 pow_mod5
                have hY5:Y%5=0:=by
                  obtain ⟨v',rfl⟩:∃ v',v=v'+1:=⟨v - 1,by omega⟩
                  rw [hYY,Nat.pow_succ,← Nat.mul_assoc];omega
                have:=Nat.dvd_gcd (Nat.dvd_of_mod_eq_zero hX5) (Nat.dvd_of_mod_eq_zero hY5)
                rw [hcop] at this
                have:=Nat.le_of_dvd (by decide) this
                omega
          cases o1 with
          | false =>
            obtain ⟨k',rfl⟩:∃ k',k=k'+1:=⟨k - 1,by omega⟩
            rw [fives_false,Option.bind_some]
            simp only [Bool.not_false,cond_true]
            exact big (Nat.le_trans (l3 rfl) (Nat.le_mul_of_pos_right _ (Nat.pow_pos (by decide))))
          | true =>
            obtain ⟨u1,u2,u3⟩:=l2 rfl
            obtain ⟨o2,x2,y2,q1,q2,q3⟩:=fives_l2 k (a:=v) (b:=K) (m:=K - v) rfl (by omega) hK3 k 0 (X*2^(K - t)) (by omega) (by omega) u1
            rw [show ((0:Nat):Int)=0 from rfl] at q1
            rw [u2,u3,q1,Option.bind_some]
            simp only [Nat.sub_zero] at q2 q3 ⊢
            cases o2 with
            | false =>
              simp only [Bool.not_false,cond_true]
              exact big (q3 rfl)
            | true =>
              obtain ⟨w1,w2,w3⟩:=q2 rfl
              simp only [Bool.not_true,cond_false,Option.bind_some]
              rw [w2,w3,wi (n:=e' - f') (by omega) (by omega),wi (by omega) (by omega)]
              obtain ⟨er,c2,x3,s1,s2⟩:=num_tell k (by omega) (neg:=!(decide (c'<0)==decide (d'<0))) (e:=e' - f' - K) w1 (by omega) (by omega)
              rw [s1]
              exact ⟨er,c2,x3,rfl,s2.congr hiff⟩
        · rw [df (by omega),Bool.not_false,bt]
          refine ⟨30,0,0,rfl,Tells.none fun C W hC hq=>?_⟩
          obtain ⟨m1,m2,h6⟩:=eqn C W hC hq
          have hYd:Y ∣ X*10^m2:=⟨C.natAbs*10^m1,by rw [← h6,Nat.mul_left_comm,Nat.mul_assoc]⟩
          have hY10:Y ∣ 10^m2:=hcop.symm.dvd_of_dvd_mul_left hYd
          have hrY:r ∣ Y:=⟨5^v*2^t,by rw [a1,b1,Nat.mul_assoc]⟩
          have hr2:r%2≠0:=by
            intro h
            apply a2
            rw [b1,Nat.mul_mod,h];simp
          exact hr ((cop10 hr2 b2 m2).eq_one_of_dvd (Nat.dvd_trans hrY hY10))
  · rw [if_neg hR] at hcl ⊢
    obtain ⟨r,h1⟩:=hcl
    rw [h1]
    rfl
theorem trim_sgn (k:Nat) {neg:Bool} {q:Nat} (hq:(digs q).length≤10000) (hk:30000≤k):g_r9_trim k neg (digs q)=some (decide (sgn neg q<0),digs (sgn neg q).natAbs):=by
  rw [trim k (by omega) (digs_dig _) (by omega),nval_digs,sgn_abs]
  congr 2
  rw [Bool.eq_iff_iff]
  cases neg <;> simp [sgn] <;> omega
theorem len_dec {n:Nat}:(decide (((digs n).length:Int)=0))=decide (n=0):=by
  rw [decide_eq_decide]
  have:=@digs_len0 n
  omega
theorem len_dec' {n:Nat}:(decide ((0:Int)<((digs n).length:Int)))=decide (n≠0):=by
  rw [decide_eq_decide]
  have:=@digs_len0 n
  omega
theorem digs_le {a b:Nat} (h:a≤b):(digs a).length≤(digs b).length:=digs_len_le (Nat.lt_of_le_of_lt h digs_lt)
theorem ref_Div (k:Nat) (hk:30000≤k) {c e d f:Int} (hc:I64 c) (hd:I64 d):SpD (Rng e∧Rng f) (d=0) (Quot (val c e) (val d f)) (g_r9_Div k c e d f):=by
  unfold SpD g_r9_Div
  rw [num k (by omega) hc.1 hc.2,num k (by omega) hd.1 hd.2]
  simp only [Option.bind_some]
  have n1:=nd_i64 hc.1 hc.2
  have n2:=nd_i64 hd.1 hd.2
  by_cases he:Rng e
  · have he':=he
    unfold Rng at he'
    rw [dt he',Bool.not_true,bf]
    by_cases hf:Rng f
    · have hf':=hf
      unfold Rng at hf'
      rw [if_pos ⟨he,hf⟩,dt hf',Bool.not_true,Option.bind_some,bf,len_dec]
      by_cases hz:d=0
      · rw [if_pos hz,dt (by omega),bt]
      · obtain ⟨m,hm⟩:∃ m:Nat,m=90:=⟨_,rfl⟩
        have hs:=shift k (x:=c) (n:=m) (by omega) (by omega) hk
        rw [if_neg hz,df (by omega),bf,show (90:Int)=(m:Int) by omega,hs]
        simp only [Option.bind_some]
        have hcm:(c*10^m).natAbs=c.natAbs*10^m:=by rw [Int.natAbs_mul,Int.natAbs_pow];rfl
        have m1:=@nd_mul c m
        have m1':(digs (c*10^m).natAbs).length≤200:=by unfold nd at m1 n1;omega
        have m2':(digs d.natAbs).length≤200:=by unfold nd at n2;omega
        rw [quo k _ _ (by omega) (by omega) (by omega) hk,hcm]
        rw [hcm] at m1'
        simp only [Option.bind_some]
        rw [len_dec']
        by_cases hr:c.natAbs*10^m%d.natAbs=0
        · rw [df (by omega),bf]
          have hq:c.natAbs*10^m / d.natAbs*d.natAbs=c.natAbs*10^m:=by
            have:=Nat.div_add_mod (c.natAbs*10^m) d.natAbs
            rw [Nat.mul_comm] at this
            omega
          have hql:(digs (c.natAbs*10^m / d.natAbs)).length≤200:=Nat.le_trans (digs_le (Nat.div_le_self _ _)) m1'
          generalize c.natAbs*10^m / d.natAbs=q at *
          rw [trim_sgn k (by omega) hk,wi (n:=e - f) (by omega) (by omega),wi (by omega) (by omega)]
          simp only [Option.bind_some]
          obtain ⟨er,c2,x,t1,t2⟩:=Tell k (x:=sgn (!(decide (c<0)==decide (d<0))) q) (e:=e - f - m) (by unfold nd;rw [sgn_abs];omega) (by omega) (by omega) hk
          rw [t1]
          refine ⟨er,c2,x,rfl,t2.congr (quot_is (val_ne hz) ?_)⟩
          rw [quot_iff (by omega) (by omega)]
          have h2:=sgn_x (decide (c<0)) (decide (d<0)) q d.natAbs
          rw [sgn_self,hq,sgn_mul,sgn_self,show ((10^m:Nat):Int)=(10:Int)^m by simp] at h2
          rw [h2,val_shift (by omega),show e - f - m+f+(m:Int)=e by omega]
        · rw [dt hr,bt]
          refine ⟨30,0,0,rfl,Tells.none fun C W hC hq=>hr ?_⟩
          have rC:=hC.rng
          rw [quot_iff (by omega) (by omega)] at hq
          have:=congrArg Int.natAbs hq
          rw [val_abs,val_abs,Int.natAbs_mul] at this
          obtain ⟨s,hs⟩:∃ s:Nat,W+f - e+m=(s:Int):=⟨(W+f - e+m).toNat,by omega⟩
          have e1:(W+f+500000).toNat+m=(e+500000).toNat+s:=by omega
          have h6:C.natAbs*d.natAbs*10^s*10^(e+500000).toNat=c.natAbs*10^m*10^(e+500000).toNat:=by
            rw [Nat.mul_assoc _ (10^s),← Nat.pow_add,Nat.add_comm s,← e1,Nat.pow_add,← Nat.mul_assoc,this,Nat.mul_right_comm]
          have h7:=Nat.eq_of_mul_eq_mul_right (Nat.pow_pos (by decide)) h6
          rw [← h7,Nat.mul_right_comm]
          exact Nat.mul_mod_left _ _
    · rw [if_neg (fun h=>hf h.2),df (show ¬ (-18≤f∧f≤18) from hf)];rfl
  · rw [if_neg (fun h=>he h.1),df (show ¬ (-18≤e∧e≤18) from he)];rfl
theorem sgn_sign {neg:Bool} {n:Nat} (h:sgn neg n≠0):decide (sgn neg n<0)=neg:=by
  cases neg
  · simp [sgn]
  · simp [sgn] at h ⊢;omega
def Whole (V:Int) (r:Int × Bool):Prop:=(r.1.natAbs≤9007199254740992∧r.2=true∧V=val r.1 0)∨(r=(0,false)∧∀ n:Int,n.natAbs≤9007199254740992→V≠val n 0)
theorem Whole.uniq {V:Int} {r s:Int × Bool} (h:Whole V r) (k:Whole V s):r=s:=by
  obtain ⟨a,b⟩:=r
  obtain ⟨c,d⟩:=s
  rcases h with ⟨h1,h2,h3⟩ | ⟨h1,h2⟩ <;> rcases k with ⟨k1,k2,k3⟩ | ⟨k1,k2⟩
  · simp only at *
    rw [h3] at k3
    rw [val_inj k3,h2,k2]
  · exact absurd h3 (k2 _ h1)
  · exact absurd k3 (h2 _ k1)
  · rw [h1,k1]
def SpI (R:Prop) [Decidable R] (V:Int) (g:Option (Int × Bool)):Prop:=if R then ∃ n b,g=some (n,b)∧Whole V (n,b) else g=some (0,false)
theorem whole_val {m e n:Int} (he:0≤e) (he':e≤400000):val m e=val n 0↔n=m*10^e.toNat:=by
  have:=val_shift (m:=m) (e:=0) (j:=e.toNat) (by omega)
  rw [show (0:Int)+(e.toNat:Int)=e by omega] at this
  rw [← this]
  exact ⟨fun h=>(val_inj h).symm,fun h=>by rw [h]⟩
theorem not_whole {m e n:Int} (hm:¬ (10:Int) ∣ m) (he:e<0) (he' : -400000≤e):val m e≠val n 0:=by
  intro h
  have:=val_rep (by omega) (by omega) h
  exact hm (by rw [this];exact dvd_pow10 (by omega))
theorem dec_Int (k:Nat) (hk:60≤k) {c e:Int} (hc:I64 c):SpI (Rng e) (val c e) (g_dec_Int k c e):=by
  unfold SpI g_dec_Int
  have hcl:=clean1 k hk (e:=e) hc
  by_cases hR:Rng e
  · rw [if_pos hR] at hcl ⊢
    obtain ⟨c',e',h1,h2,h3⟩:=hcl
    rw [h1,← h3]
    simp only [Option.bind_some,Bool.not_true,cond_false]
    have r:=h2.rng
    by_cases he:e'<0
    · rw [dt he,bt]
      refine ⟨0,false,rfl,.inr ⟨rfl,fun n _=>not_whole ?_ he (by omega)⟩⟩
      have h0:c'≠0:=by
        rintro rfl
        rcases h2 with ⟨_,hx⟩ | ⟨h0,_⟩
        · omega
        · exact h0 rfl
      exact lastd h2 h0 (by omega)
    · rw [df he,bf,size_eq k h2.i64,Option.bind_some]
      obtain ⟨m,hm⟩:∃ m:Nat,e'=(m:Int):=⟨e'.toNat,by omega⟩
      subst hm
      have ac:=abs_lt h2.i64
      obtain ⟨b,x,y,t1,t2,t3⟩:=wide_tens k (v:=c'.natAbs) (m:=m) (by unfold UU;omega) (by omega) (by omega)
      rw [wh_small ac,wl_small ac] at t1
      rw [t1]
      simp only [Option.bind_some]
      have big:9007199254740992<c'.natAbs*10^m→∃ (n:Int) (b:Bool),(some (0,false):Option (Int × Bool))=some (n,b)∧Whole (val c' m) (n,b):=by
        intro hb
        refine ⟨0,false,rfl,.inr ⟨rfl,fun n hn h=>?_⟩⟩
        rw [whole_val (by omega) (by omega)] at h
        have:=congrArg Int.natAbs h
        rw [Int.natAbs_mul,Int.natAbs_pow,Int.toNat_natCast,show (10:Int).natAbs=10 from rfl] at this
        omega
      cases b with
      | false =>
        simp only [Bool.not_false,cond_true,Option.bind_some]
        exact big (by have:=t3 rfl;unfold UU at this;omega)
      | true =>
        obtain ⟨u1,u2,u3⟩:=t2 rfl
        simp only [Bool.not_true,cond_false]
        rw [u2,u3]
        by_cases hw:c'.natAbs*10^m<18446744073709551616
        · rw [wh_small hw,wl_small hw,df (by omega),bf,Option.bind_some]
          by_cases hb:9007199254740992<c'.natAbs*10^m
          · rw [dt (by omega),bt]
            exact big hb
          · rw [df (by omega),bf]
            have hv:val c' m=val (c'*10^m) 0:=by
              rw [whole_val (by omega) (by omega),Int.toNat_natCast]
            have hab:(c'*10^m).natAbs=c'.natAbs*10^m:=by rw [Int.natAbs_mul,Int.natAbs_pow];rfl
            by_cases hn:c'<0
            · have hneg:c'*10^m<0:=Int.mul_neg_of_neg_of_pos hn (p10 m)
              rw [dt hn,bt,wi (n:=((c'.natAbs*10^m:Nat):Int)) (by omega) (by omega),wi (by omega) (by omega)]
              have hvn:val c' m=val (0 - ((c'.natAbs*10^m:Nat):Int)) 0:=by
                rw [hv,show c'*10^m=0 - ((c'.natAbs*10^m:Nat):Int) by omega]
              have hle:(0 - ((c'.natAbs*10^m:Nat):Int)).natAbs≤9007199254740992:=by omega
              exact ⟨_,_,rfl,.inl ⟨hle,rfl,hvn⟩⟩
            · have hpos:0≤c'*10^m:=Int.mul_nonneg (by omega) (Int.le_of_lt (p10 m))
              rw [df hn,bf,wi (by omega) (by omega)]
              have hvn:val c' m=val ((c'.natAbs*10^m:Nat):Int) 0:=by
                rw [hv,show c'*10^m=((c'.natAbs*10^m:Nat):Int) by omega]
              have hle:(((c'.natAbs*10^m:Nat):Int)).natAbs≤9007199254740992:=by omega
              exact ⟨_,_,rfl,.inl ⟨hle,rfl,hvn⟩⟩
        · have:0<wh (c'.natAbs*10^m):=by unfold wh;omega
          rw [dt this,bt,Option.bind_some,bt]
          exact big (by omega)
  · rw [if_neg hR] at hcl ⊢
    obtain ⟨r,h1⟩:=hcl
    rw [h1]
    rfl
theorem Int_l0 (k:Nat) (hk:30000≤k):∀ (m n:Nat) (x e:Int),e.toNat≤m→m<n→nd x≤40 → -100≤e→e≤100→∃ t:Nat,((t:Int)≤e∨t=0)∧(0<e - t→40≤nd (x*10^t))∧nd (x*10^t)≤40 ∧
    g_r9_Int_l0 k n (decide (x<0)) (digs x.natAbs) e=some (decide (x*10^t<0),digs (x*10^t).natAbs,e - t):=by
  intro m
  induction m with
  | zero =>
    intro n x e h1 h2 h3 h4 h5
    obtain ⟨n,rfl⟩:∃ n',n=n'+1:=⟨n - 1,by omega⟩
    rw [g_r9_Int_l0.eq_2]
    rw [df (by omega),bf,Option.bind_some,bf]
    exact ⟨0,.inr rfl,fun h=>by omega,by simpa using h3,by simp⟩
  | succ m ih =>
    intro n x e h1 h2 h3 h4 h5
    obtain ⟨n,rfl⟩:∃ n',n=n'+1:=⟨n - 1,by omega⟩
    rw [g_r9_Int_l0.eq_2]
    by_cases he:0<e
    · rw [dt he,bt,Option.bind_some,Option.bind_some]
      by_cases h40:(digs x.natAbs).length<40
      · have hs:=shift k (x:=x) (n:=1) (by omega) (by omega) hk
        rw [show ((1:Nat):Int)=1 from rfl] at hs
        rw [dt (by omega),bt,hs,Option.bind_some,wi (by omega) (by omega)]
        have m1:=@nd_mul x 1
        have h40':nd x<40:=h40
        obtain ⟨t,t1,t2,t3,t4⟩:=ih n (x*10^1) (e - 1) (by omega) (by omega) (by omega) (by omega) (by omega)
        rw [Int.mul_assoc,← Int.pow_add,Nat.add_comm 1 t] at t2 t3 t4
        refine ⟨t+1,by omega,fun h=>t2 (by omega),t3,?_⟩
        simp only
        rw [t4]
        congr 3
        omega
      · rw [df (by omega),bf]
        exact ⟨0,.inr rfl,fun _=>by simp;unfold nd;omega,by simpa using h3,by simp⟩
    · rw [df he,bf,Option.bind_some,bf]
      exact ⟨0,.inr rfl,fun h=>by omega,by simpa using h3,by simp⟩
theorem Int_l1 (k:Nat) {neg:Bool} (hk:30000≤k):∀ (d m n:Nat) (e:Int),d≤m→n≠0→(digs n).length≤d→d≤10000 → -1000≤e→e≤1000→∃ w j:Nat,n=w*10^j∧(e+j<0→w%10≠0)∧(j≠0→e+j≤0)∧w≠0∧(digs w).length≤d ∧
    g_r9_Int_l1 k m neg (digs n) e=some (neg,digs w,e+j):=by
  intro d
  induction d with
  | zero=>intro m n e _ h0 h;have:=len_pos h0;omega
  | succ d ih =>
    intro m n e hm h0 hl hd he1 he2
    obtain ⟨m,rfl⟩:∃ m',m=m'+1:=⟨m - 1,by omega⟩
    rw [g_r9_Int_l1.eq_2]
    have hp:=len_pos h0
    by_cases he:e<0
    · rw [dt he,bt,Option.bind_some,dt (by omega),bt,first_digit h0]
      simp only [Option.bind_some]
      by_cases h10:n%10=0
      · rw [dt (by omega),bt]
        simp only [bd]
        rw [if_pos (by omega),trim_drop k h0 h10 (by omega) hk,Option.bind_some,wi (by omega) (by omega)]
        have hl':(digs (n / 10)).length+1=(digs n).length:=by
          have:=congrArg List.length (digs_pos h0)
          simp at this
          omega
        obtain ⟨w,j,h1,h2,h3,h4,h5,h6⟩:=ih m (n / 10) (e+1) (by omega) (by omega) (by omega) (by omega) (by omega) (by omega)
        refine ⟨w,j+1,?_,fun h=>h2 (by omega),fun _=>?_,h4,by omega,?_⟩
        · rw [Nat.pow_succ,← Nat.mul_assoc,← h1];omega
        · by_cases hj:j=0
          · omega
          · have:=h3 hj;omega
        · simp only
          rw [h6]
          congr 3
          omega
      · rw [df (by omega),bf]
        exact ⟨n,0,by simp,fun _=>h10,fun h=>absurd rfl h,h0,hl,by simp⟩
    · rw [df he,bf,Option.bind_some,bf]
      exact ⟨n,0,by simp,fun h=>by omega,fun h=>absurd rfl h,h0,hl,by simp⟩
theorem Int_l1_zero (k:Nat) {neg:Bool} {e:Int} (n:Nat):g_r9_Int_l1 k (n+1) neg [] e=some (neg,[],e):=by
  rw [g_r9_Int_l1.eq_2]
  cases decide (e<0) <;> rfl
theorem Int_l2 (k:Nat) {y c:Int} {m:Nat} (hy:y=c*10^m) (hb:y.natAbs≤9007199254740992) (hm:m≤1000):∀ (n i:Nat),i≤m→m - i<n→g_r9_Int_l2 k (m:Int) n (c*10^i) (i:Int)=some y:=by
  intro n
  induction n with
  | zero=>intro i _ h;omega
  | succ n ih =>
    intro i hi hn
    rw [g_r9_Int_l2.eq_2]
    by_cases him:i<m
    · have e1:c*10^i*10=c*10^(i+1):=by rw [Int.pow_succ,Int.mul_assoc]
      have h1:(c*10^(i+1)).natAbs≤y.natAbs:=by
        have e2:y=c*10^(i+1)*10^(m - (i+1)):=by rw [hy,Int.mul_assoc,← Int.pow_add,show i+1+(m - (i+1))=m by omega]
        rw [e2,Int.natAbs_mul (c*10^(i+1)),Int.natAbs_pow 10 (m - (i+1)),show (10:Int).natAbs=10 from rfl]
        exact Nat.le_mul_of_pos_right _ (Nat.pow_pos (show 0<10 by decide))
      rw [dt (by omega),bt,e1,wi (by omega) (by omega),wi (by omega) (by omega),show ((i:Int)+1)=((i+1:Nat):Int) by omega]
      exact ih (i+1) (by omega) (by omega)
    · rw [df (by omega),bf,hy]
      have:i=m:=by omega
      rw [this]
theorem ref_Int (k:Nat) (hk:30000≤k) {c e:Int} (hc:I64 c):SpI (Rng e) (val c e) (g_r9_Int k c e):=by
  unfold SpI g_r9_Int
  rw [num k (by omega) hc.1 hc.2]
  simp only [Option.bind_some]
  have n1:=nd_i64 hc.1 hc.2
  by_cases hR:Rng e
  · have hR':=hR
    unfold Rng at hR'
    rw [if_pos hR,dt hR',Bool.not_true,bf]
    obtain ⟨t,t1,t2,t3,t4⟩:=Int_l0 k hk 18 k c e (by omega) (by omega) (by omega) (by omega) (by omega)
    rw [t4,Option.bind_some]
    simp only
    have hv:val (c*10^t) (e - t)=val c e:=by rw [val_shift (by omega),show e - (t:Int)+t=e by omega]
    rw [← hv]
    generalize hX:c*10^t=X at *
    by_cases hX0:X=0
    · rw [hX0,show (0:Int).natAbs=0 from rfl,digs_zero]
      obtain ⟨k',rfl⟩:∃ k',k=k'+1:=⟨k - 1,by omega⟩
      rw [Int_l1_zero,Option.bind_some]
      refine ⟨0,true,rfl,.inl ⟨by simp,rfl,?_⟩⟩
      rw [val_zero,val_zero]
    · have t3':(digs X.natAbs).length≤40:=t3
      obtain ⟨w,j,h1,h2,h3,h4,h5,h6⟩:=Int_l1 k (neg:=decide (X<0)) hk (digs X.natAbs).length k X.natAbs (e - t) (by omega) (by omega) (Nat.le_refl _) (by omega) (by omega) (by omega)
      rw [h6,Option.bind_some]
      simp only
      have hwl:=len_pos h4
      rw [len_dec,df h4,bf]
      obtain ⟨y,hy⟩:∃ y:Int,y=sgn (decide (X<0)) w:=⟨_,rfl⟩
      have hyw:y.natAbs=w:=by rw [hy,sgn_abs]
      have hy0:y≠0:=by omega
      have hxy:X=y*10^j:=by
        have:X=sgn (decide (X<0)) X.natAbs:=(sgn_self X).symm
        rw [this,h1,sgn_mul,← hy]
        simp
      have hneg:decide (X<0)=decide (y<0):=by
        rw [hy];exact (sgn_sign (by rw [← hy];exact hy0)).symm
      have hd:e - t+j<0→¬ (10:Int) ∣ y:=fun h=>by rw [hy,sgn_dvd];exact h2 h
      clear hy
      subst hyw
      have hval:val X (e - t)=val y (e - t+j):=by
        conv=>lhs;rw [hxy]
        exact val_shift (by omega)
      rw [hval,hneg]
      by_cases hE:e - t+j=0
      · rw [hE,dt (by rfl),Bool.not_true,bf,of_ k (by omega) (by decide) (by decide),Option.bind_some,show (9007199254740992:Int).natAbs=9007199254740992 from rfl,more k _ _ (by omega) (by have:=digs_len_le (n:=9007199254740992) (m:=16) (by decide);omega) hk,Option.bind_some,Option.bind_some]
        have hgt:0<cmpN y.natAbs 9007199254740992↔9007199254740992<y.natAbs:=by
          have a:=@cmpN_lt y.natAbs 9007199254740992
          have b:=@cmpN_zero y.natAbs 9007199254740992
          omega
        by_cases hb:9007199254740992<y.natAbs
        · rw [dt (hgt.2 hb),bt]
          refine ⟨0,false,rfl,.inr ⟨rfl,fun n hn h=>?_⟩⟩
          have:=val_inj h
          omega
        · rw [df (fun h=>hb (hgt.1 h)),bf]
          obtain ⟨er,C,W,q1,q2⟩:=Tell k (x:=y) (e:=0) (by unfold nd;omega) (by omega) (by omega) hk
          rw [q1,Option.bind_some]
          simp only
          rcases q2 with ⟨q3,q4,q5⟩ | ⟨q3,q4⟩
          · simp only at q3 q4 q5
            have rC:=q4.rng
            have hW:0≤W:=by
              apply Int.not_lt.1
              intro hW
              have hC0:C≠0:=by
                rintro rfl
                rw [val_zero] at q5
                exact hy0 (val_eq_zero q5.symm)
              exact not_whole (lastd q4 hC0 (by omega)) hW (by omega) q5
            have hyC:=(whole_val hW (by omega)).1 q5
            obtain ⟨m,rfl⟩:∃ m:Nat,W=(m:Int):=⟨W.toNat,by omega⟩
            rw [Int.toNat_natCast] at hyC
            have:=Int_l2 k hyC (by omega) (by omega) k 0 (by omega) (by omega)
            rw [Int.pow_zero,Int.mul_one,show ((0:Nat):Int)=0 from rfl] at this
            rw [this,Option.bind_some]
            exact ⟨y,true,rfl,.inl ⟨by simp only;omega,rfl,rfl⟩⟩
          · exfalso
            have hyI:I64 y:=by unfold I64;omega
            obtain ⟨C',W',k1,k2⟩:=canon_exists hyI _ 0 rfl (by unfold Rng;omega) y hyI
            exact q4 _ _ k1 k2
      · rw [df hE,Bool.not_false,bt,Option.bind_some,bt]
        refine ⟨0,false,rfl,.inr ⟨rfl,fun n hn h=>?_⟩⟩
        by_cases hlt:e - t+j<0
        · exact not_whole (hd hlt) hlt (by omega) h
        · have hj:j=0:=by
            apply Classical.byContradiction
            intro hj
            have:=h3 hj
            omega
          subst hj
          have h40:=t2 (by omega)
          have hge:=digs_ge (n:=X.natAbs) (by omega)
          have h39:10^39≤X.natAbs:=Nat.le_trans (Nat.pow_le_pow_right (by decide) (by unfold nd at h40;omega)) hge
          rw [whole_val (by omega) (by omega)] at h
          have:=congrArg Int.natAbs h
          rw [Int.natAbs_mul,Int.natAbs_pow,show (10:Int).natAbs=10 from rfl] at this
          have h8:y.natAbs*1≤y.natAbs*10^(e - t+((0:Nat):Int)).toNat:=Nat.mul_le_mul_left _ (Nat.pow_pos (by decide))
          rw [← this] at h8
          have h9:X.natAbs=y.natAbs:=by rw [h1];simp
          have h10:(10:Nat)^39=1000000000000000000000000000000000000000:=by decide
          omega
  · rw [if_neg hR,df (show ¬ (-18≤e∧e≤18) from hR)];rfl
theorem npow_mod {m i:Nat} (h:m%10≠0):m^i%10≠0:=by
  by_cases h2:m%2=0
  · have h5:m%5≠0:=by omega
    have:m^i%5≠0:=by
      induction i with
      | zero=>simp
      | succ i ih =>
        intro h0
        rw [Nat.pow_succ] at h0
        exact h5 (dvd5 h0 ih)
    omega
  · have:m^i%2=1:=by
      induction i with
      | zero=>simp
      | succ i ih=>rw [Nat.pow_succ,Nat.mul_mod,ih];omega
    omega
theorem ipow_dvd {m:Int} {i:Nat} (h:¬ (10:Int) ∣ m):¬ (10:Int) ∣ m^i:=by
  have h1:m.natAbs%10≠0:=fun k=>h (abs_dvd.1 k)
  have:=npow_mod (i:=i) h1
  rw [← Int.natAbs_pow] at this
  exact fun k=>this (abs_dvd.2 k)
theorem ipow_ne {m:Int} {i:Nat} (h:m≠0):m^i≠0:=by
  induction i with
  | zero=>simp
  | succ i ih =>
    rw [Int.pow_succ]
    intro k
    rcases Int.mul_eq_zero.1 k with k | k
    · exact ih k
    · exact h k
theorem strip:∀ (n:Nat) (M:Int),M.natAbs≤n→M≠0→∃ (m:Int) (j:Nat),M=m*10^j∧¬ (10:Int) ∣ m∧m≠0:=by
  intro n
  induction n with
  | zero=>intro M h h0;omega
  | succ n ih =>
    intro M h h0
    by_cases hd:(10:Int) ∣ M
    · obtain ⟨a,rfl⟩:=hd
      obtain ⟨m,j,h1,h2,h3⟩:=ih a (by omega) (by omega)
      refine ⟨m,j+1,?_,h2,h3⟩
      rw [Int.pow_succ,← Int.mul_assoc,← h1,Int.mul_comm]
    · exact ⟨M,0,by simp,hd,h0⟩
def Told (V:Int):Prop:=∃ c x,Canon c x∧val c x=V
def pv (c e:Int) (n:Nat):Int:=val (c^n) (e*n)
theorem pv_zero {c e:Int}:pv c e 0=val 1 0:=by unfold pv;simp
theorem pv_one {c e:Int}:pv c e 1=val c e:=by
  unfold pv
  rw [show c^1=c by rw [Int.pow_succ,Int.pow_zero,Int.one_mul]]
  simp
theorem pv_strip {m G M F:Int} {j n:Nat} (hM:M=m*10^j) (hG:G=F+j) (hb : -400000≤F*n):pv M F n=pv m G n:=by
  unfold pv
  rw [hM,Int.mul_pow,← Int.pow_mul,val_shift (by omega),hG]
  congr 1
  rw [Int.natCast_mul,Int.add_mul]
theorem pow10_ne (t:Nat):10^t≠9223372036854775808:=by
  by_cases h:t≤18
  · have:10^t≤10^18:=Nat.pow_le_pow_right (by decide) h
    have h2:(10:Nat)^18=1000000000000000000:=by decide
    omega
  · have:10^19≤10^t:=Nat.pow_le_pow_right (by decide) (by omega)
    have h2:(10:Nat)^19=10000000000000000000:=by decide
    omega
theorem told_iff {m g:Int} (hm:m≠0) (hd:¬ (10:Int) ∣ m) (hg : -500000≤g):Told (val m g) ↔ -18≤g∧I64 (m*10^(g - 18).toNat):=by
  constructor
  · rintro ⟨c,x,h1,h2⟩
    obtain ⟨a,b,d1,d2,d3⟩:=(canon_iff hm hd hg).1 ⟨h1,h2⟩
    by_cases h18:g > 18
    · rw [if_pos h18] at a
      subst a
      exact ⟨by omega,by rw [← b];exact ⟨d2,d3⟩⟩
    · rw [if_neg h18] at a
      subst a
      have:(x - 18).toNat=(x - x).toNat:=by omega
      exact ⟨d1,by rw [this,← b];exact ⟨d2,d3⟩⟩
  · rintro ⟨h1,h2⟩
    by_cases h18:g > 18
    · exact ⟨_,18,(canon_iff hm hd hg).2 ⟨by rw [if_pos h18],rfl,by omega,h2.1,h2.2⟩⟩
    · refine ⟨m*10^(g - g).toNat,g,(canon_iff hm hd hg).2 ⟨by rw [if_neg h18],rfl,h1,?_⟩⟩
      rw [show (g - g).toNat=(g - 18).toNat by omega]
      exact h2
theorem told_pred {M F:Int} {i:Nat} (hM:M≠0) (hF1 : -2000≤F) (hF2:F≤2000) (hi:i≤100) (h:Told (pv M F (i+1))):Told (pv M F i):=by
  by_cases hi0:i=0
  · subst hi0
    rw [pv_zero]
    exact ⟨1,0,.inr ⟨by omega,by omega,by omega,by omega,by omega,.inr (by omega)⟩,rfl⟩
  obtain ⟨m,j,h1,h2,h3⟩:=strip _ M (Nat.le_refl _) hM
  have b1 : -2000*(100:Int)≤F*(i:Int):=by
    have:=Int.mul_le_mul_of_nonneg_right hF1 (show (0:Int)≤i by omega)
    omega
  have e1:F*((i+1:Nat):Int)=F*i+F:=by rw [Int.natCast_add,Int.mul_add];simp
  rw [pv_strip h1 rfl (by rw [e1];omega)] at h
  rw [pv_strip h1 rfl (by omega)]
  obtain ⟨G,hG⟩:∃ G:Int,G=F+j:=⟨_,rfl⟩
  rw [← hG] at h ⊢
  have e2:G*((i+1:Nat):Int)=G*i+G:=by rw [Int.natCast_add,Int.mul_add];simp
  have e3:G*(i:Int)=F*i+j*i:=by rw [hG,Int.add_mul]
  have hji:(0:Int)≤(j:Int)*i:=Int.mul_nonneg (by omega) (by omega)
  unfold pv at h ⊢
  rw [told_iff (ipow_ne h3) (ipow_dvd h2) (by rw [e2];omega),e2] at h
  rw [told_iff (ipow_ne h3) (ipow_dvd h2) (by omega)]
  obtain ⟨k1,k2⟩:=h
  have hm1:1≤m.natAbs:=by omega
  have hGi:0≤G→0≤G*(i:Int):=fun h=>Int.mul_nonneg h (by omega)
  have hGi':G<0→G*(i:Int)≤G:=fun h=>by
    have:=Int.mul_le_mul_of_nonpos_left (show G≤0 by omega) (show (1:Int)≤i by omega)
    omega
  refine ⟨?_,?_⟩
  · by_cases h0:0≤G
    · have:=hGi h0;omega
    · omega
  · -- sizes
    have ht:(G*i - 18).toNat≤(G*i+G - 18).toNat:=by
      by_cases h0:0≤G
      · omega
      · have:=hGi' (by omega);omega
    obtain ⟨t,ht0⟩:∃ t,t=(G*(i:Int) - 18).toNat:=⟨_,rfl⟩
    obtain ⟨s,hs0⟩:∃ s,(G*(i:Int)+G - 18).toNat=t+s:=⟨(G*(i:Int)+G - 18).toNat - t,by omega⟩
    rw [← ht0]
    rw [hs0] at k2
    have a1:(m^(i+1)*10^(t+s)).natAbs=m.natAbs^i*10^t*(m.natAbs*10^s):=by
      rw [Int.natAbs_mul,Int.natAbs_pow,Int.natAbs_pow,show (10:Int).natAbs=10 from rfl,Nat.pow_succ,Nat.pow_add]
      simp only [Nat.mul_assoc,Nat.mul_comm,Nat.mul_left_comm]
    have a0:(m^i*10^t).natAbs=m.natAbs^i*10^t:=by
      rw [Int.natAbs_mul,Int.natAbs_pow,Int.natAbs_pow,show (10:Int).natAbs=10 from rfl]
    have k3:m.natAbs^i*10^t*(m.natAbs*10^s)≤9223372036854775808:=by rw [← a1];unfold I64 at k2;omega
    have k4:m.natAbs^i*10^t<9223372036854775808:=by
      by_cases hm:m.natAbs=1
      · rw [hm] at k3 ⊢
        simp only [Nat.one_pow,Nat.one_mul] at k3 ⊢
        have:=pow10_ne t
        have h5:10^t*1≤10^t*10^s:=Nat.mul_le_mul_left _ (Nat.pow_pos (by decide))
        omega
      · have h5:m.natAbs^i*10^t*2≤m.natAbs^i*10^t*(m.natAbs*10^s):=by
          refine Nat.mul_le_mul_left _ ?_
          have:m.natAbs*1≤m.natAbs*10^s:=Nat.mul_le_mul_left _ (Nat.pow_pos (by decide))
          omega
        omega
    unfold I64
    omega
theorem told_le {M F:Int} {i:Nat} (hM:M≠0) (hF1 : -2000≤F) (hF2:F≤2000):∀ n,i≤n→n≤101→Told (pv M F n)→Told (pv M F i):=by
  intro n
  induction n with
  | zero => intro h _ k; have : i = 0 := by omega
            rw [this];exact k
  | succ n ih =>
    intro h hn k
    by_cases hi:i=n+1
    · rw [hi];exact k
    · exact ih (by omega) (by omega) (told_pred hM hF1 hF2 (by omega) k)
theorem pv_succ_mul {c e:Int} {n:Nat} (he : -2000≤e) (hn : -200000≤e*n):val (c^n) (e*n)*val c e=pv c e (n+1)*10^500000:=by
  unfold pv
  rw [val_mul (by omega) (by omega),← Int.pow_succ]
  congr 2
  rw [Int.natCast_add,Int.mul_add];simp
theorem pv_congr {c e c' e':Int} (he : -18≤e∧e≤18) (he' : -18≤e'∧e'≤18) (h:val c' e'=val c e):∀ n,n≤100→pv c' e' n=pv c e n:=by
  intro n
  induction n with
  | zero=>intro _;rw [pv_zero,pv_zero]
  | succ n ih =>
    intro hn
    have i1:=ih (by omega)
    have b1 : -18*(100:Int)≤e*(n:Int):=by
      have:=Int.mul_le_mul_of_nonneg_right he.1 (show (0:Int)≤n by omega);omega
    have b2 : -18*(100:Int)≤e'*(n:Int):=by
      have:=Int.mul_le_mul_of_nonneg_right he'.1 (show (0:Int)≤n by omega);omega
    have a1:=pv_succ_mul (c:=c) (e:=e) (n:=n) (by omega) (by omega)
    have a2:=pv_succ_mul (c:=c') (e:=e') (n:=n) (by omega) (by omega)
    rw [h] at a2
    unfold pv at i1
    rw [i1,a1] at a2
    exact (Int.eq_of_mul_eq_mul_right (Int.ne_of_gt ten_pos) a2).symm
theorem pv_inv {A E B F:Int} (hE : -2000≤E) (hF : -2000≤F) (h:val A E*val B F=val 1 0*10^500000):∀ n,n≤100→pv A E n*pv B F n=val 1 0*10^500000:=by
  have h1:val 1 0=10^500000:=by
    unfold val
    rw [Int.one_mul,show ((0:Int)+500000).toNat=500000 from rfl]
  intro n
  induction n with
  | zero=>intro _;rw [pv_zero,pv_zero,h1]
  | succ n ih =>
    intro hn
    have i1:=ih (by omega)
    have b1 : -2000*(100:Int)≤E*(n:Int):=by
      have:=Int.mul_le_mul_of_nonneg_right hE (show (0:Int)≤n by omega);omega
    have b2 : -2000*(100:Int)≤F*(n:Int):=by
      have:=Int.mul_le_mul_of_nonneg_right hF (show (0:Int)≤n by omega);omega
    have a1:=pv_succ_mul (c:=A) (e:=E) (n:=n) (by omega) (by omega)
    have a2:=pv_succ_mul (c:=B) (e:=F) (n:=n) (by omega) (by omega)
    unfold pv at i1
    generalize val (A^n) (E*n)=p at *
    generalize val (B^n) (F*n)=q at *
    generalize pv A E (n+1)=P at *
    generalize pv B F (n+1)=Q at *
    rw [h1] at i1 h ⊢
    have hT:=ten_pos
    generalize (10:Int)^500000=T at *
    have e1:P*Q*T*T=T*T*T*T:=by
      have s1:P*Q*T*T=(P*T)*(Q*T):=by simp only [Int.mul_assoc,Int.mul_comm,Int.mul_left_comm]
      have s2:(p*val A E)*(q*val B F)=(p*q)*(val A E*val B F):=by simp only [Int.mul_assoc,Int.mul_comm,Int.mul_left_comm]
      rw [s1,← a1,← a2,s2,i1,h]
      simp only [Int.mul_assoc]
    exact Int.eq_of_mul_eq_mul_right (Int.ne_of_gt hT) (Int.eq_of_mul_eq_mul_right (Int.ne_of_gt hT) e1)
def IsPow (c e n V:Int):Prop:=if 0≤n then V=pv c e n.toNat else V*pv c e (-n).toNat=val 1 0*10^500000
theorem pv_ne {c e:Int} {n:Nat} (h:c≠0):pv c e n≠0:=val_ne (ipow_ne h)
theorem isPow_fun {c e n:Int} (h:c≠0∨0≤n):∀ a b,IsPow c e n a→IsPow c e n b→a=b:=by
  intro a b ha hb
  unfold IsPow at *
  by_cases hn:0≤n
  · rw [if_pos hn] at ha hb;rw [ha,hb]
  · rw [if_neg hn] at ha hb
    exact Int.eq_of_mul_eq_mul_right (pv_ne (h.resolve_right hn)) (ha.trans hb.symm)
def PowAns (c e:Int) (r:Int × Bool) (g:Option (Int × Int × Int)):Prop :=
  if r.2=false∨r.1 < -64∨64<r.1 then g=some (30,0,0) else if c=0∧r.1<0 then g=some (31,0,0) else ∃ er C X:Int,g=some (er,C,X)∧Tells (IsPow c e r.1) ((C,X),er)
theorem PowAns.eq {c e:Int} {r:Int × Bool} {g g':Option (Int × Int × Int)} (h:PowAns c e r g) (h':PowAns c e r g'):∃ s,g=some s∧g'=some s:=by
  unfold PowAns at *
  by_cases h1:r.2=false∨r.1 < -64∨64<r.1
  · rw [if_pos h1] at h h';exact ⟨_,h,h'⟩
  · rw [if_neg h1] at h h'
    by_cases h2:c=0∧r.1<0
    · rw [if_pos h2] at h h';exact ⟨_,h,h'⟩
    · rw [if_neg h2] at h h'
      obtain ⟨er,C,X,k1,k2⟩:=h
      obtain ⟨er',C',X',k3,k4⟩:=h'
      have:=Tells.uniq (isPow_fun (by omega)) k2 k4
      simp only [Prod.mk.injEq] at this
      obtain ⟨⟨rfl,rfl⟩,rfl⟩:=this
      exact ⟨_,k1,k3⟩
theorem PowAns.congr {c e c' e':Int} {r:Int × Bool} {g:Option (Int × Int × Int)} (he : -18≤e∧e≤18) (he' : -18≤e'∧e'≤18) (hv:val c' e'=val c e) (h:PowAns c' e' r g):PowAns c e r g:=by
  unfold PowAns at *
  have h0:c'=0↔c=0:=by
    constructor
    · intro h;rw [h,val_zero] at hv;exact val_eq_zero hv.symm
    · intro h;rw [h,val_zero] at hv;exact val_eq_zero hv
  by_cases h1:r.2=false∨r.1 < -64∨64<r.1
  · rwa [if_pos h1] at h ⊢
  · rw [if_neg h1] at h ⊢
    simp only [h0] at h
    by_cases h2:c=0∧r.1<0
    · rwa [if_pos h2] at h ⊢
    · rw [if_neg h2] at h ⊢
      obtain ⟨er,C,X,k1,k2⟩:=h
      refine ⟨er,C,X,k1,k2.congr fun a=>?_⟩
      unfold IsPow
      rw [pv_congr he he' hv _ (by omega),pv_congr he he' hv _ (by omega)]
theorem rng_mul {e:Int} (he : -18≤e∧e≤18) {n:Nat} (hn:n≤100) : -1800≤e*n∧e*n≤1800:=by
  have h1:=Int.mul_le_mul_of_nonneg_right he.1 (show (0:Int)≤n by omega)
  have h2:=Int.mul_le_mul_of_nonneg_right he.2 (show (0:Int)≤n by omega)
  omega
theorem pow_l0 (k:Nat) (hk:200≤k) {n:Nat} {c e:Int} (hc:Canon c e) (hn:n≤64):∀ (m i:Nat) (p q:Int),i≤n→n - i+1<m→Canon p q→val p q=pv c e i →
    ∃ er C X:Int,g_dec_Pow_l0 k (n:Int) c e m 0 (i:Int) p q=some (er,C,X)∧Tells (·=pv c e n) ((C,X),er):=by
  intro m
  induction m with
  | zero=>intro i p q _ h;omega
  | succ m ih =>
    intro i p q hi hm hp hv
    rw [g_dec_Pow_l0.eq_2]
    by_cases hin:i<n
    · rw [dt (by omega),bt,dt (show (0:Int)=0 from rfl),Option.bind_some,bt]
      have hmul:=dec_Mul k (by omega) (e:=q) (f:=e) hp.i64 hc.i64
      unfold Sp at hmul
      rw [if_pos ⟨hp.rg,hc.rg⟩] at hmul
      obtain ⟨er,C,X,t1,t2⟩:=hmul
      rw [t1,Option.bind_some,wi (by omega) (by omega),show ((i:Int)+1)=((i+1:Nat):Int) by omega]
      have rc:=hc.rng
      have rp:=hp.rng
      have bi:=rng_mul ⟨rc.1,rc.2.1⟩ (n:=i) (by omega)
      have hnext:val (p*c) (q+e)=pv c e (i+1):=by
        have a1:=pv_succ_mul (c:=c) (e:=e) (n:=i) (by omega) (by omega)
        have a2:=val_mul (c:=p) (d:=c) (e:=q) (f:=e) (by omega) (by omega)
        unfold pv at hv
        rw [hv,a1] at a2
        exact (Int.eq_of_mul_eq_mul_right (Int.ne_of_gt ten_pos) a2).symm
      rw [hnext] at t2
      rcases t2 with ⟨t3,t4,t5⟩ | ⟨t3,t4⟩
      · simp only at t3 t4 t5
        subst t3
        exact ih (i+1) C X (by omega) (by omega) t4 t5
      · simp only [Prod.mk.injEq] at t3
        obtain ⟨⟨rfl,rfl⟩,rfl⟩:=t3
        obtain ⟨m,rfl⟩:∃ m',m=m'+1:=⟨m - 1,by omega⟩
        simp only
        rw [g_dec_Pow_l0.eq_2]
        have hno:¬ Told (pv c e (i+1)):=fun ⟨a,b,h1,h2⟩=>t4 a b h1 h2
        have hc0:c≠0:=by
          rintro rfl
          apply hno
          refine ⟨0,0,.inl ⟨rfl,rfl⟩,?_⟩
          unfold pv
          rw [Int.pow_succ,Int.mul_zero,val_zero,val_zero]
        refine ⟨30,0,0,?_,Tells.none fun a b h1 h2=>hno (told_le hc0 (by omega) (by omega) n (by omega) (by omega) ⟨a,b,h1,h2⟩)⟩
        have:decide ((30:Int)=0)=false:=by decide
        rw [this]
        cases decide (((i+1:Nat):Int)<(n:Int)) <;> rfl
    · rw [df (by omega),bf,Option.bind_some,bf]
      have:i=n:=by omega
      subst this
      exact ⟨0,p,q,rfl,.inl ⟨rfl,hp,hv⟩⟩
theorem canon_one:Canon 1 0:=.inr ⟨by omega,by omega,by omega,by omega,by omega,.inr (by omega)⟩
theorem dec_Pow (k:Nat) (hk:200≤k) {c e d f:Int} (hc:I64 c) (hd:I64 d):if Rng e∧Rng f then ∀ r,Whole (val d f) r→PowAns c e r (g_dec_Pow k c e d f) else g_dec_Pow k c e d f=some (1,0,0):=by
  unfold g_dec_Pow
  have hcl:=clean k (by omega) (e:=e) (f:=f) hc hd
  by_cases hR:Rng e∧Rng f
  · rw [if_pos hR] at hcl ⊢
    intro r hr
    obtain ⟨c',e',d',f',h1,h2,h3,h4,h5⟩:=hcl
    have re:=h2.rng
    refine PowAns.congr hR.1 h2.rg h3 ?_
    rw [h1]
    simp only [Option.bind_some,Bool.not_true,cond_false]
    have hI:=dec_Int k (by omega) (e:=f') h4.i64
    unfold SpI at hI
    rw [if_pos h4.rg,h5] at hI
    obtain ⟨n,b,i1,i2⟩:=hI
    have:=i2.uniq hr
    subst this
    rw [i1]
    simp only [Option.bind_some]
    unfold PowAns
    simp only
    by_cases hb:b=false
    · subst hb
      rw [if_pos (.inl rfl)];rfl
    · have hb':b=true:=by cases b <;> simp at hb ⊢
      subst hb'
      rw [Bool.not_true,bf]
      by_cases hlo:n < -64
      · rw [if_pos (.inr (.inl hlo)),dt hlo];rfl
      · rw [df hlo,bf,Option.bind_some]
        by_cases hhi:64<n
        · rw [if_pos (.inr (.inr hhi)),dt hhi];rfl
        · rw [df hhi,bf,if_neg (show ¬ (true=false∨n < -64∨64<n) by simp;omega)]
          by_cases hn:n<0
          · rw [dt hn,bt]
            obtain ⟨m,hm⟩:∃ m:Nat,n = -(m:Int):=⟨(-n).toNat,by omega⟩
            have hD:=dec_Div k hk (c:=1) (e:=0) (f:=e') canon_one.i64 h2.i64
            unfold SpD at hD
            rw [if_pos ⟨canon_one.rg,h2.rg⟩] at hD
            by_cases hc0:c'=0
            · rw [if_pos ⟨hc0,hn⟩]
              rw [if_pos hc0] at hD
              rw [hD];rfl
            · rw [if_neg (fun h=>hc0 h.1)]
              rw [if_neg hc0] at hD
              obtain ⟨er,C,X,t1,t2⟩:=hD
              rw [t1]
              simp only [Option.bind_some]
              have hIs:∀ V,IsPow c' e' n V↔V*pv c' e' m=val 1 0*10^500000:=by
                intro V
                unfold IsPow
                rw [if_neg (by omega),show (-n).toNat=m by omega]
              rcases t2 with ⟨t3,t4,t5⟩ | ⟨t3,t4⟩
              · simp only at t3 t4 t5
                subst t3
                simp only [decide_true,Bool.not_true,cond_false,Option.bind_some]
                rw [wi (by omega) (by omega),show (0 - n)=(m:Int) by omega]
                obtain ⟨er,C2,X2,s1,s2⟩:=pow_l0 k hk (n:=m) t4 (by omega) k 0 1 0 (by omega) (by omega) canon_one (by rw [pv_zero])
                rw [show ((0:Nat):Int)=0 from rfl] at s1
                rw [s1]
                refine ⟨er,C2,X2,rfl,s2.congr fun a=>?_⟩
                rw [hIs]
                have rX:=t4.rng
                have hinv:=pv_inv (A:=C) (E:=X) (B:=c') (F:=e') (by omega) (by omega) t5 m (by omega)
                constructor
                · intro ha;rw [ha];exact hinv
                · intro ha;exact Int.eq_of_mul_eq_mul_right (pv_ne hc0) (ha.trans hinv.symm)
              · simp only [Prod.mk.injEq] at t3
                obtain ⟨⟨rfl,rfl⟩,rfl⟩:=t3
                have:decide ((30:Int)=0)=false:=by decide
                simp only [this,Bool.not_false,cond_true,Option.bind_some]
                refine ⟨30,0,0,rfl,Tells.none fun C X hCX hp=>?_⟩
                rw [hIs] at hp
                have rX:=hCX.rng
                obtain ⟨m,rfl⟩:∃ m',m=m'+1:=⟨m - 1,by omega⟩
                have bm:=rng_mul ⟨re.1,re.2.1⟩ (n:=m) (by omega)
                -- the number itself,with one more factor
                have hC0:C≠0:=by
                  rintro rfl
                  rw [val_zero,Int.zero_mul] at hp
                  exact absurd hp.symm (Int.ne_of_gt (Int.mul_pos (by unfold val;exact Int.mul_pos (by decide) (p10 _)) ten_pos))
                have hM0:C*c'^m≠0:=by
                  intro h
                  rcases Int.mul_eq_zero.1 h with h | h
                  · exact hC0 h
                  · exact ipow_ne hc0 h
                have hu:val (C*c'^m) (X+e'*m)*val c' e'=val 1 0*10^500000:=by
                  have a1:=val_mul (c:=C) (d:=c'^m) (e:=X) (f:=e'*m) (by omega) (by omega)
                  have a2:=pv_succ_mul (c:=c') (e:=e') (n:=m) (by omega) (by omega)
                  have hT:=ten_pos
                  apply Int.eq_of_mul_eq_mul_right (Int.ne_of_gt hT)
                  rw [Int.mul_right_comm,← a1,Int.mul_assoc,a2,← Int.mul_assoc,hp]
                have hinv:=pv_inv (A:=C*c'^m) (E:=X+e'*m) (B:=c') (F:=e') (by omega) (by omega) hu (m+1) (by omega)
                have heq:pv (C*c'^m) (X+e'*m) (m+1)=val C X:=Int.eq_of_mul_eq_mul_right (pv_ne hc0) (hinv.trans hp.symm)
                have hT:Told (pv (C*c'^m) (X+e'*m) 1):=told_le hM0 (by omega) (by omega) (m+1) (by omega) (by omega) ⟨C,X,hCX,heq.symm⟩
                rw [pv_one] at hT
                obtain ⟨a,b,q1,q2⟩:=hT
                exact t4 a b q1 (by rw [q2];exact hu)
          · rw [df hn,bf,if_neg (by omega),Option.bind_some]
            obtain ⟨m,rfl⟩:∃ m:Nat,n=(m:Int):=⟨n.toNat,by omega⟩
            obtain ⟨er,C2,X2,s1,s2⟩:=pow_l0 k hk (n:=m) h2 (by omega) k 0 1 0 (by omega) (by omega) canon_one (by rw [pv_zero])
            rw [show ((0:Nat):Int)=0 from rfl] at s1
            simp only
            rw [s1]
            refine ⟨er,C2,X2,rfl,s2.congr fun a=>?_⟩
            unfold IsPow
            rw [if_pos (by omega),Int.toNat_natCast]
  · rw [if_neg hR] at hcl ⊢
    obtain ⟨r,h1⟩:=hcl
    rw [h1]
    rfl
theorem ref_pow_l0 (k:Nat) (hk:30000≤k) {c e:Int} {n:Nat} (hc:nd c≤19) (hn:n≤64) (he : -18≤e∧e≤18):∀ (m i:Nat),i≤n→n - i<m →
    g_r9_Pow_l0 k c e (digs c.natAbs) (n:Int) m (i:Int) (decide (c^i<0)) (digs (c^i).natAbs) (e*i)=some (decide (c^n<0),digs (c^n).natAbs,e*n):=by
  have hb:∀ i,nd (c^i)≤19*i+1:=by
    intro i
    induction i with
    | zero=>rw [Int.pow_zero];unfold nd;exact digs_len_le (by decide)
    | succ i ih =>
      rw [Int.pow_succ]
      have:=@nd_prod (c^i) c
      omega
  intro m
  induction m with
  | zero=>intro i _ h;omega
  | succ m ih =>
    intro i hi hm
    rw [g_r9_Pow_l0.eq_2]
    by_cases hin:i<n
    · have b:=rng_mul he (n:=i) (by omega)
      have hbi:=hb i
      rw [dt (by omega),bt,times k (by omega) (by omega) hk,Option.bind_some,wi (by omega) (by omega),wi (by omega) (by omega),← Int.pow_succ]
      have e1:e*(i:Int)+e=e*((i+1:Nat):Int):=by rw [Int.natCast_add,Int.mul_add];simp
      simp only
      rw [e1,show ((i:Int)+1)=((i+1:Nat):Int) by omega]
      exact ih (i+1) (by omega) (by omega)
    · rw [df (by omega),bf]
      have:i=n:=by omega
      rw [this]
theorem Pow_l1 (k:Nat) {neg:Bool} (hk:30000≤k):∀ (d m n:Nat) (e:Int),d≤m→n≠0→(digs n).length≤d→d≤10000 → -20000≤e→e+d≤30000→∃ w j:Nat,n=w*10^j∧w%10≠0∧j≤d∧w≠0∧(digs w).length≤d ∧
    g_r9_Pow_l1 k m neg (digs n) e=some (neg,digs w,e+j):=by
  intro d
  induction d with
  | zero=>intro m n e _ h0 h;have:=len_pos h0;omega
  | succ d ih =>
    intro m n e hm h0 hl hd he1 he2
    obtain ⟨m,rfl⟩:∃ m',m=m'+1:=⟨m - 1,by omega⟩
    rw [g_r9_Pow_l1.eq_2]
    have hp:=len_pos h0
    rw [dt (by omega),Option.bind_some,bt,first_digit h0]
    simp only [Option.bind_some]
    by_cases h10:n%10=0
    · rw [dt (by omega),bt]
      simp only [bd]
      rw [if_pos (by omega),trim_drop k h0 h10 (by omega) hk,Option.bind_some,wi (by omega) (by omega)]
      have hl':(digs (n / 10)).length+1=(digs n).length:=by
        have:=congrArg List.length (digs_pos h0)
        simp at this
        omega
      obtain ⟨w,j,h1,h2,h3,h4,h5,h6⟩:=ih m (n / 10) (e+1) (by omega) (by omega) (by omega) (by omega) (by omega) (by omega)
      refine ⟨w,j+1,?_,h2,by omega,h4,by omega,?_⟩
      · rw [Nat.pow_succ,← Nat.mul_assoc,← h1];omega
      · simp only
        rw [h6]
        congr 3
        omega
    · rw [df (by omega),bf]
      exact ⟨n,0,by simp,h10,by omega,h0,hl,by simp⟩
theorem dvd_pow5:∀ {s m:Nat},m ∣ 5^s→∃ v,v≤s∧m=5^v:=by
  intro s
  induction s with
  | zero=>intro m h;exact ⟨0,Nat.le_refl _,Nat.eq_one_of_dvd_one (by simpa using h)⟩
  | succ s ih =>
    intro m h
    by_cases h5:m%5=0
    · obtain ⟨a,rfl⟩:=Nat.dvd_of_mod_eq_zero h5
      rw [Nat.pow_succ,Nat.mul_comm (5^s)] at h
      obtain ⟨v,hv,rfl⟩:=ih ((Nat.mul_dvd_mul_iff_left (by decide)).1 h)
      exact ⟨v+1,by omega,by rw [Nat.pow_succ,Nat.mul_comm]⟩
    · rw [Nat.pow_succ,Nat.mul_comm] at h
      obtain ⟨v,hv,e⟩:=ih ((cop5 h5).dvd_of_dvd_mul_left h)
      exact ⟨v,by omega,e⟩
theorem dvd_pow2:∀ {s m:Nat},m ∣ 2^s→∃ v,v≤s∧m=2^v:=by
  intro s
  induction s with
  | zero=>intro m h;exact ⟨0,Nat.le_refl _,Nat.eq_one_of_dvd_one (by simpa using h)⟩
  | succ s ih =>
    intro m h
    by_cases h2:m%2=0
    · obtain ⟨a,rfl⟩:=Nat.dvd_of_mod_eq_zero h2
      rw [Nat.pow_succ,Nat.mul_comm (2^s)] at h
      obtain ⟨v,hv,rfl⟩:=ih ((Nat.mul_dvd_mul_iff_left (by decide)).1 h)
      exact ⟨v+1,by omega,by rw [Nat.pow_succ,Nat.mul_comm]⟩
    · rw [Nat.pow_succ,Nat.mul_comm] at h
      obtain ⟨v,hv,e⟩:=ih ((cop2 h2).dvd_of_dvd_mul_left h)
      exact ⟨v,by omega,e⟩
theorem ten_parts {C w s:Nat} (h:C*w=10^s) (hw:w%10≠0):(∃ v,v≤s∧w=5^v∧2^s ∣ C)∨(∃ v,v≤s∧w=2^v∧5^s ∣ C):=by
  have e:10^s=2^s*5^s:=by rw [← Nat.mul_pow]
  rw [e] at h
  by_cases h2:w%2=0
  · have h5:w%5≠0:=by omega
    have hd:w ∣ 5^s*2^s:=⟨C,by rw [Nat.mul_comm (5^s),← h,Nat.mul_comm]⟩
    have hc:Nat.Coprime w (5^s):=(cop5 h5).pow_right s
    obtain ⟨v,h3,h4⟩:=dvd_pow2 (hc.dvd_of_dvd_mul_left hd)
    exact .inr ⟨v,h3,h4,hc.symm.dvd_of_dvd_mul_right ⟨2^s,by rw [h,Nat.mul_comm]⟩⟩
  · have hd:w ∣ 2^s*5^s:=⟨C,by rw [← h,Nat.mul_comm]⟩
    have hc:Nat.Coprime w (2^s):=(cop2 h2).pow_right s
    obtain ⟨v,h3,h4⟩:=dvd_pow5 (hc.dvd_of_dvd_mul_left hd)
    exact .inl ⟨v,h3,h4,hc.symm.dvd_of_dvd_mul_right ⟨5^s,h⟩⟩
theorem p5_85:5^85<10^60:=by decide
theorem p2_198:2^198<10^60:=by decide
theorem p2_64:9223372036854775808<2^86:=by decide
theorem p5_64:9223372036854775808<5^199:=by decide
theorem inv_none {y C X Q:Int} (hy:¬ (10:Int) ∣ y) (hy0:y≠0) (hC:Canon C X) (hQ : -200000≤Q) (hq:val C X*val y Q=val 1 0*10^500000):y.natAbs<10^60∧10^200%y.natAbs=0:=by
  have rC:=hC.rng
  have h1:val (C*y) (X+Q)=val 1 0:=(quot_iff (c:=1) (e:=0) (by omega) (by omega)).1 hq
  have h2:=congrArg Int.natAbs h1
  rw [val_abs,val_abs,Int.natAbs_mul] at h2
  have hw:y.natAbs%10≠0:=fun k=>hy (abs_dvd.1 k)
  have hC0:C≠0:=by
    rintro rfl
    rw [Int.zero_mul,val_zero] at h1
    exact absurd h1.symm (val_ne (by omega))
  have hone:(1:Int).natAbs=1:=rfl
  rw [hone,Nat.one_mul] at h2
  obtain ⟨Z,hZ⟩:∃ Z:Nat,Z=500000:=⟨_,rfl⟩
  have e0:((0:Int)+500000).toNat=Z:=by omega
  rw [e0] at h2
  by_cases hs:0≤X+Q
  · -- one alone
    have e1:(X+Q+500000).toNat=(X+Q).toNat+Z:=by omega
    rw [e1,Nat.pow_add,← Nat.mul_assoc] at h2
    have h3:C.natAbs*y.natAbs*10^(X+Q).toNat=1:=Nat.eq_of_mul_eq_mul_right (Nat.pow_pos (show 0<10 by decide)) (h2.trans (Nat.one_mul _).symm)
    have h4:=Nat.eq_one_of_mul_eq_one_right h3
    have h5:=Nat.eq_one_of_mul_eq_one_left h4
    rw [h5]
    exact ⟨by decide,Nat.mod_one _⟩
  · obtain ⟨s,hs⟩:∃ s:Nat,X+Q = -(s:Int):=⟨(-(X+Q)).toNat,by omega⟩
    have e1:Z=s+(X+Q+500000).toNat:=by omega
    rw [e1,Nat.pow_add] at h2
    have h3:C.natAbs*y.natAbs=10^s:=Nat.eq_of_mul_eq_mul_right (Nat.pow_pos (show 0<10 by decide)) h2
    have hCb:C.natAbs≤9223372036854775808:=by omega
    rcases ten_parts h3 hw with ⟨v,v1,v2,v3⟩ | ⟨v,v1,v2,v3⟩
    · have hle:=Nat.le_of_dvd (by omega) v3
      have hs86:s<86:=by
        apply Nat.lt_of_not_le
        intro h
        have:=Nat.pow_le_pow_right (show 0<2 by decide) h
        have:=p2_64
        omega
      rw [v2]
      refine ⟨Nat.lt_of_le_of_lt (Nat.pow_le_pow_right (by decide) (show v≤85 by omega)) p5_85,?_⟩
      apply Nat.mod_eq_zero_of_dvd
      rw [show (10:Nat)=5*2 from rfl,Nat.mul_pow]
      exact Nat.dvd_trans (Nat.pow_dvd_pow 5 (by omega)) (Nat.dvd_mul_right _ _)
    · have hle:=Nat.le_of_dvd (by omega) v3
      have hs199:s<199:=by
        apply Nat.lt_of_not_le
        intro h
        have:=Nat.pow_le_pow_right (show 0<5 by decide) h
        have:=p5_64
        omega
      rw [v2]
      refine ⟨Nat.lt_of_le_of_lt (Nat.pow_le_pow_right (by decide) (show v≤198 by omega)) p2_198,?_⟩
      apply Nat.mod_eq_zero_of_dvd
      rw [show (10:Nat)=2*5 from rfl,Nat.mul_pow]
      exact Nat.dvd_trans (Nat.pow_dvd_pow 2 (by omega)) (Nat.dvd_mul_right _ _)
theorem ref_Pow (k:Nat) (hk:30000≤k) {c e d f:Int} (hc:I64 c) (hd:I64 d):if Rng e∧Rng f then ∀ r,Whole (val d f) r→PowAns c e r (g_r9_Pow k c e d f) else g_r9_Pow k c e d f=some (1,0,0):=by
  unfold g_r9_Pow
  rw [num k (by omega) hc.1 hc.2,num k (by omega) hd.1 hd.2]
  simp only [Option.bind_some]
  have n1:=nd_i64 hc.1 hc.2
  by_cases he:Rng e
  · have he':=he
    unfold Rng at he'
    rw [dt he',Bool.not_true,bf]
    by_cases hf:Rng f
    · have hf':=hf
      unfold Rng at hf'
      rw [if_pos ⟨he,hf⟩,dt hf',Bool.not_true,Option.bind_some,bf]
      intro r hr
      have hI:=ref_Int k hk (e:=f) hd
      unfold SpI at hI
      rw [if_pos hf] at hI
      obtain ⟨n,b,i1,i2⟩:=hI
      have:=i2.uniq hr
      subst this
      rw [i1]
      simp only [Option.bind_some]
      unfold PowAns
      simp only
      by_cases hb:b=false
      · subst hb
        rw [if_pos (.inl rfl)];rfl
      · have hb':b=true:=by cases b <;> simp at hb ⊢
        subst hb'
        rw [Bool.not_true,bf]
        by_cases hlo:n < -64
        · rw [if_pos (.inr (.inl hlo)),dt hlo];rfl
        · rw [df hlo,bf,Option.bind_some]
          by_cases hhi:64<n
          · rw [if_pos (.inr (.inr hhi)),dt hhi];rfl
          · rw [df hhi,bf,if_neg (show ¬ (true=false∨n < -64∨64<n) by simp;omega),len_dec]
            have h1:g_r9_Of k 1=some (digs (c^0).natAbs):=by rw [Int.pow_zero];exact of_ k (by omega) (c:=1) (by omega) (by omega)
            have hb1:∀ i,nd (c^i)≤19*i+1:=by
              intro i
              induction i with
              | zero=>rw [Int.pow_zero];unfold nd;exact digs_len_le (by decide)
              | succ i ih =>
                rw [Int.pow_succ]
                have:=@nd_prod (c^i) c
                omega
            by_cases hn:n<0
            · by_cases hc0:c=0
              · rw [if_pos ⟨hc0,hn⟩,dt (by omega),bt,dt hn];rfl
              · rw [if_neg (fun h=>hc0 h.1),df (by omega),bf,Option.bind_some,bf,dt hn,bt,wi (by omega) (by omega),Option.bind_some,h1,Option.bind_some]
                obtain ⟨m,hm⟩:∃ m:Nat,n = -(m:Int):=⟨(-n).toNat,by omega⟩
                have hl:=ref_pow_l0 k hk (n:=m) n1 (by omega) he' k 0 (by omega) (by omega)
                rw [show ((0:Nat):Int)=0 from rfl,Int.mul_zero] at hl
                rw [show (0 - n)=(m:Int) by omega]
                have hz:decide ((1:Nat)<0)=decide (c^0<0):=by rw [Int.pow_zero];rfl
                rw [hz,hl,Option.bind_some]
                simp only
                rw [df (by omega),bf]
                have hbm:=hb1 m
                have hP0:=ipow_ne (i:=m) hc0
                have bm:=rng_mul he' (n:=m) (by omega)
                have hIs:∀ V,IsPow c e n V↔V*val (c^m) (e*m)=val 1 0*10^500000:=by
                  intro V
                  unfold IsPow pv
                  rw [if_neg (by omega),show (-n).toNat=m by omega]
                generalize c^m=P at *
                generalize e*(m:Int)=E at *
                have hPl:(digs P.natAbs).length≤1300:=by unfold nd at hbm;omega
                obtain ⟨w,j,a1,a2,a3,a4,a5,a6⟩:=Pow_l1 k (neg:=decide (P<0)) hk (digs P.natAbs).length k P.natAbs E (by omega) (by omega) (Nat.le_refl _) (by omega) (by omega) (by omega)
                rw [a6,Option.bind_some]
                simp only
                obtain ⟨y,hy⟩:∃ y:Int,y=sgn (decide (P<0)) w:=⟨_,rfl⟩
                have hyw:y.natAbs=w:=by rw [hy,sgn_abs]
                have hy0:y≠0:=by omega
                have hPy:P=y*10^j:=by
                  have:P=sgn (decide (P<0)) P.natAbs:=(sgn_self P).symm
                  rw [this,a1,sgn_mul,← hy]
                  simp
                have hneg:decide (P<0)=decide (y<0):=by
                  rw [hy];exact (sgn_sign (by rw [← hy];exact hy0)).symm
                have hdy:¬ (10:Int) ∣ y:=by rw [hy,sgn_dvd];exact a2
                clear hy
                subst hyw
                have hval:val P E=val y (E+j):=by
                  conv=>lhs;rw [hPy]
                  exact val_shift (by omega)
                rw [hval] at hIs
                rw [hneg]
                have none:(¬ (y.natAbs<10^60∧10^200%y.natAbs=0))→∃ er C X:Int,(some (30,0,0):Option (Int × Int × Int))=some (er,C,X)∧Tells (IsPow c e n) ((C,X),er):=by
                  intro h
                  refine ⟨30,0,0,rfl,Tells.none fun C X hCX hp=>h ?_⟩
                  rw [hIs] at hp
                  exact inv_none hdy hy0 hCX (by omega) hp
                by_cases h60:60<(digs y.natAbs).length
                · rw [dt (by omega),bt]
                  refine none fun h=>?_
                  have:=digs_len_le h.1
                  omega
                · obtain ⟨N,hN⟩:∃ N:Nat,N=200:=⟨_,rfl⟩
                  rw [← hN] at none
                  have hs:=shift k (x:=c^0) (n:=N) (by have:=hb1 0;omega) (by omega) hk
                  rw [df (by omega),bf,show (200:Int)=(N:Int) by omega,Option.bind_some,hs]
                  simp only [Option.bind_some]
                  have hTn:(c^0*10^N).natAbs=10^N:=by rw [Int.pow_zero,Int.one_mul,Int.natAbs_pow];rfl
                  have hTl:(digs (10^N)).length≤300:=by
                    obtain ⟨L,hL⟩:∃ L:Nat,L=300:=⟨_,rfl⟩
                    have:=digs_len_le (n:=10^N) (m:=L) (Nat.pow_lt_pow_right (by decide) (by omega))
                    omega
                  rw [hTn,quo k _ _ (by omega) (by omega) (by omega) hk]
                  simp only [Option.bind_some]
                  rw [len_dec']
                  by_cases hr0:10^N%y.natAbs=0
                  · rw [df (by omega),bf,wi (n:=0 - (E+j)) (by omega) (by omega),wi (by omega) (by omega)]
                    have hq:10^N / y.natAbs*y.natAbs=10^N:=by
                      have:=Nat.div_add_mod (10^N) y.natAbs
                      rw [Nat.mul_comm] at this
                      omega
                    have hql:(digs (10^N / y.natAbs)).length≤300:=Nat.le_trans (digs_le (Nat.div_le_self _ _)) hTl
                    generalize 10^N / y.natAbs=q at *
                    rw [trim_sgn k (by omega) hk]
                    simp only [Option.bind_some]
                    obtain ⟨er,c2,x,t1,t2⟩:=Tell k (x:=sgn (decide (y<0)) q) (e:=0 - (E+j) - N) (by unfold nd;rw [sgn_abs];omega) (by omega) (by omega) hk
                    rw [t1]
                    refine ⟨er,c2,x,rfl,t2.congr fun V=>?_⟩
                    rw [hIs]
                    have hprod:sgn (decide (y<0)) q*y=10^N:=by
                      have h2:=sgn_x false (decide (y<0)) q y.natAbs
                      rw [sgn_self,hq] at h2
                      have h3:sgn (!(false==decide (y<0))) q=sgn (decide (y<0)) q:=by cases decide (y<0) <;> rfl
                      rw [h3] at h2
                      rw [h2]
                      simp [sgn]
                    have hQ:val (sgn (decide (y<0)) q) (0 - (E+j) - N)*val y (E+j)=val 1 0*10^500000:=by
                      refine (quot_iff (c:=1) (e:=0) (by omega) (by omega)).2 ?_
                      rw [hprod]
                      have:=val_shift (m:=1) (e := -(N:Int)) (j:=N) (by omega)
                      rw [Int.one_mul,show -(N:Int)+N=0 by omega] at this
                      rw [show 0 - (E+(j:Int)) - N+(E+j) = -(N:Int) by omega]
                      exact this
                    constructor
                    · intro ha;rw [ha];exact hQ
                    · intro ha;exact Int.eq_of_mul_eq_mul_right (val_ne hy0) (ha.trans hQ.symm)
                  · rw [dt hr0,bt]
                    exact none fun h=>hr0 h.2
            · rw [if_neg (fun h=>hn h.2)]
              obtain ⟨m,rfl⟩:∃ m:Nat,n=(m:Int):=⟨n.toNat,by omega⟩
              have hx:((bif decide (c.natAbs=0) then some (decide ((m:Int)<0)) else some false):Option Bool)=some false:=by
                rw [df hn];cases decide (c.natAbs=0) <;> rfl
              rw [hx,Option.bind_some,bf,df hn,bf,Option.bind_some,h1,Option.bind_some]
              have hl:=ref_pow_l0 k hk (n:=m) n1 (by omega) he' k 0 (by omega) (by omega)
              rw [show ((0:Nat):Int)=0 from rfl,Int.mul_zero] at hl
              have hz:decide ((1:Nat)<0)=decide (c^0<0):=by rw [Int.pow_zero];rfl
              rw [hz,hl,Option.bind_some]
              simp only
              rw [dt (by omega),bt]
              have hbm:=hb1 m
              have bm:=rng_mul he' (n:=m) (by omega)
              obtain ⟨er,c2,x,t1,t2⟩:=Tell k (x:=c^m) (e:=e*m) (by omega) (by omega) (by omega) hk
              rw [t1]
              refine ⟨er,c2,x,rfl,t2.congr fun a=>?_⟩
              unfold IsPow pv
              rw [if_pos (by omega),Int.toNat_natCast]
    · rw [if_neg (fun h=>hf h.2),df (show ¬ (-18≤f∧f≤18) from hf)];rfl
  · rw [if_neg (fun h=>he h.1),df (show ¬ (-18≤e∧e≤18) from he)];rfl
end Go.Proofs.YthpcgknknpjpdaaGreatDoor.W
