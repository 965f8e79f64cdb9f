/- Texts joined: part 4 of what LDecTexts stands on. -/
import Derived.Test.YtdbeblgfccjbgaaDoorSDecTextsc
namespace Go.Proofs.YtdbeblgfccjbgaaDoor.W
open Go Go.Q Go.Proofs
set_option linter.unusedVariables false
set_option linter.unusedSimpArgs false
set_option maxRecDepth 100000 in
set_option maxHeartbeats 4000000 in
theorem s_internal_stringslite_HasPrefix (k : Nat) (x18 : ByteArray) (x19 : ByteArray) (x31 : Bool) (H : g_internal_stringslite_HasPrefix k x18 x19 = some x31) : Go.Q.Spec Tryd.prog 69 0 [.lit (.string x18), .lit (.string x19)] Mem.nil (fun o M => o = .ret (.lit (.bool x31)) ∧ M = Mem.nil) := by
 unfold g_internal_stringslite_HasPrefix at H
 refine Go.Q.Spec.of_bodyR (az := []) (rs := [.tmp 4]) (nt := 18) Tryd.func69 rfl rfl (by intro t T h; simp at h) rfl rfl fun cx hnp => ?_
 refine WP.seq ?_
 refine WP.region ?_
 refine WPL.q (q_as (v := .lit (.bool _)) rfl) rfl ?_
 refine WPL.nilW ?_
 refine W.now ?_
 refine Then.n ?_
 refine WP.seq ?_
 obtain ⟨x36, H40, H⟩ := bnd H
 refine WP.monoW (Q := fun x E M => x = .normal ∧ E = (Env.none.upd 4 (.lit (.bool x36))) ∧ M = Mem.nil) ?_ ?_
 · clear H
   have H := H40
   clear H40
   refine WP.region ?_
   refine WPL.q (q_mv (v := .lit (.string _)) rfl) rfl ?_
   refine WPL.q (q_len_str Tryd.underlying9 rfl) rfl ?_
   refine WPL.q (q_mv (v := .lit (.string _)) rfl) rfl ?_
   refine WPL.q (q_len_str Tryd.underlying9 rfl) rfl ?_
   obtain ⟨x37, h37, H⟩ := bnd H
   refine WPL.q (q_nm (q_geq rfl rfl) (nm_bool h37)) rfl ?_
   refine WPL.q (q_mv (v := .lit (.bool _)) rfl) rfl ?_
   refine WPL.split (t := 10) (b := x37) rfl (fun hb37 => ?_) (fun hb37 => ?_)
   · replace H := cnt hb37 H
     refine WPL.qg rfl rfl (lb hb37) (q_mv (v := .lit (.string _)) rfl) rfl ?_
     refine WPL.qg rfl rfl (lb hb37) (q_mv (v := .lit (.string _)) rfl) rfl ?_
     refine WPL.qg rfl rfl (lb hb37) (q_len_str Tryd.underlying9 rfl) rfl ?_
     obtain ⟨h38, H⟩ := grd H
     obtain ⟨x40, h40, H⟩ := bnd H
     refine WPL.qg rfl rfl (lb hb37) (q_nm (q_slice_str (i := 0) (j := ((ByteArray.size x19 : Nat) : Int)) Tryd.underlying9 rfl rfl ⟨_, rfl⟩ h38) (nm_str h40)) rfl ?_
     refine WPL.qg rfl rfl (lb hb37) (q_mv (v := .lit (.string _)) rfl) rfl ?_
     refine WPL.qg rfl rfl (lb hb37) (q_eqls rfl rfl) rfl ?_
     refine WPL.q (q_pickT (v := .lit (.bool _)) (lb hb37) rfl) rfl ?_
     refine WPL.q (q_as (v := .lit (.bool _)) rfl) rfl ?_
     refine WPL.nilW ?_
     have q0 := (Option.some.inj H)
     subst q0
     exact W.wk [] hnp ⟨rfl, rfl, rfl⟩ ⟨rfl, trivial, by decide, rfl, trivial⟩ (LeE.upd rfl rfl (LeE.none rfl rfl)) rfl
   replace H := cnf hb37 H
   refine WPL.skipg (b' := false) rfl rfl (lb hb37) rfl rfl ?_
   refine WPL.skipg (b' := false) rfl rfl (lb hb37) rfl rfl ?_
   refine WPL.skipg (b' := false) rfl rfl (lb hb37) rfl rfl ?_
   refine WPL.skipg (b' := false) rfl rfl (lb hb37) rfl rfl ?_
   refine WPL.skipg (b' := false) rfl rfl (lb hb37) rfl rfl ?_
   refine WPL.skipg (b' := false) rfl rfl (lb hb37) rfl rfl ?_
   refine WPL.q (q_pickF (v := .lit (.bool _)) (lb hb37) rfl) rfl ?_
   refine WPL.q (q_as (v := .lit (.bool _)) rfl) rfl ?_
   refine WPL.nilW ?_
   have q0 := (Option.some.inj H)
   subst q0
   exact W.wk [] hnp ⟨rfl, rfl, rfl⟩ ⟨rfl, trivial, by decide, rfl, trivial⟩ (LeE.upd rfl rfl (LeE.none rfl rfl)) rfl
 rintro _ _ _ ⟨rfl, rfl, rfl⟩
 refine W.now ?_
 refine Then.n ?_
 refine WP.retW ?_
 have q0 := (Option.some.inj H)
 subst q0
 exact W.now (BodyR.mkR trivial rfl [] ⟨rfl, rfl⟩ ⟨rfl, trivial, by decide, rfl, trivial⟩ rfl rfl)
set_option maxRecDepth 100000 in
set_option maxHeartbeats 4000000 in
theorem s_internal_stringslite_CutPrefix (k : Nat) (x15 : ByteArray) (x16 : ByteArray) (x50 : ByteArray) (x51 : Bool) (H : g_internal_stringslite_CutPrefix k x15 x16 = some (x50, x51)) : Go.Q.Spec Tryd.prog 61 0 [.lit (.string x15), .lit (.string x16)] Mem.nil (fun o M => o = .ret (.tup [.lit (.string x50), .lit (.bool x51)]) ∧ M = Mem.nil) := by
 unfold g_internal_stringslite_CutPrefix at H
 refine Go.Q.Spec.of_bodyR (az := []) (rs := [.tmp 4, .tmp 5]) (nt := 15) Tryd.func61 rfl rfl (by intro t T h; simp at h) rfl rfl fun cx hnp => ?_
 refine WP.seq ?_
 refine WP.region ?_
 refine WPL.q (q_as (v := .lit (.string _)) rfl) rfl ?_
 refine WPL.q (q_as (v := .lit (.bool _)) rfl) rfl ?_
 refine WPL.nilW ?_
 refine W.now ?_
 refine Then.n ?_
 refine WP.seq ?_
 refine WP.seq ?_
 refine WP.region ?_
 refine WPL.q (q_mv (v := .lit (.string _)) rfl) rfl ?_
 refine WPL.q (q_mv (v := .lit (.string _)) rfl) rfl ?_
 obtain ⟨x56, h54, H⟩ := bnd H
 refine WPL.c (runs_call (s := []) (t := []) (N := 0) (bor := []) fn69 rfl (s_internal_stringslite_HasPrefix k x15 x16 x56 h54) ⟨rfl, trivial, by decide, rfl, trivial⟩ rfl trivial (.ren rfl rfl (.ren rfl rfl .nil)) rfl trivial rfl) rfl ?_
 refine WPL.q (q_not rfl) rfl ?_
 refine WPL.nilW ?_
 refine W.now ?_
 refine Then.n ?_
 refine WP.cond (t := (!x56)) rfl (fun hb56 => ?_) (fun hb56 => ?_)
 · replace H := cnt hb56 H
   refine WP.seq ?_
   refine WP.region ?_
   refine WPL.q (q_mv (v := .lit (.string _)) rfl) rfl ?_
   refine WPL.q (q_as (v := .lit (.string _)) rfl) rfl ?_
   refine WPL.q (q_as (v := .lit (.bool _)) rfl) rfl ?_
   refine WPL.nilW ?_
   refine W.now ?_
   refine Then.n ?_
   refine WP.retW ?_
   have q0 := (Prod.mk.inj (Option.some.inj H)).1
   have q1 := (Prod.mk.inj (Option.some.inj H)).2
   subst q0
   subst q1
   exact W.now (Then.r (BodyR.mkR trivial rfl [] ⟨rfl, rfl⟩ ⟨rfl, trivial, by decide, rfl, trivial⟩ rfl rfl))
 replace H := cnf hb56 H
 refine WP.skipW ?_
 refine W.now ?_
 refine Then.n ?_
 refine WP.seq ?_
 refine WP.region ?_
 refine WPL.q (q_mv (v := .lit (.string _)) rfl) rfl ?_
 refine WPL.q (q_mv (v := .lit (.string _)) rfl) rfl ?_
 refine WPL.q (q_len_str Tryd.underlying9 rfl) rfl ?_
 obtain ⟨h57, H⟩ := grd H
 obtain ⟨x59, h59, H⟩ := bnd H
 refine WPL.q (q_nm (q_slice_str (i := ((ByteArray.size x16 : Nat) : Int)) (j := ((ByteArray.size x15 : Nat) : Int)) Tryd.underlying9 rfl ⟨_, rfl⟩ rfl h57) (nm_str h59)) rfl ?_
 refine WPL.q (q_as (v := .lit (.string _)) rfl) rfl ?_
 refine WPL.q (q_as (v := .lit (.bool _)) rfl) rfl ?_
 refine WPL.nilW ?_
 refine W.now ?_
 refine Then.n ?_
 refine WP.retW ?_
 have q0 := (Prod.mk.inj (Option.some.inj H)).1
 have q1 := (Prod.mk.inj (Option.some.inj H)).2
 subst q0
 subst q1
 exact W.now (BodyR.mkR trivial rfl [] ⟨rfl, rfl⟩ ⟨rfl, trivial, by decide, rfl, trivial⟩ rfl rfl)
set_option maxRecDepth 100000 in
set_option maxHeartbeats 4000000 in
theorem s_strings_CutPrefix (k : Nat) (x12 : ByteArray) (x13 : ByteArray) (x63 : ByteArray) (x64 : Bool) (H : g_strings_CutPrefix k x12 x13 = some (x63, x64)) : Go.Q.Spec Tryd.prog 32 0 [.lit (.string x12), .lit (.string x13)] Mem.nil (fun o M => o = .ret (.tup [.lit (.string x63), .lit (.bool x64)]) ∧ M = Mem.nil) := by
 unfold g_strings_CutPrefix at H
 refine Go.Q.Spec.of_bodyR (az := []) (rs := [.tmp 4, .tmp 5]) (nt := 11) Tryd.func32 rfl rfl (by intro t T h; simp at h) rfl rfl fun cx hnp => ?_
 refine WP.seq ?_
 refine WP.region ?_
 refine WPL.q (q_as (v := .lit (.string _)) rfl) rfl ?_
 refine WPL.q (q_as (v := .lit (.bool _)) rfl) rfl ?_
 refine WPL.nilW ?_
 refine W.now ?_
 refine Then.n ?_
 refine WP.seq ?_
 refine WP.region ?_
 refine WPL.q (q_mv (v := .lit (.string _)) rfl) rfl ?_
 refine WPL.q (q_mv (v := .lit (.string _)) rfl) rfl ?_
 obtain ⟨⟨x66, x67⟩, h64, H⟩ := bnd H
 refine WPL.c (runs_call (s := []) (t := []) (N := 0) (bor := []) fn61 rfl (s_internal_stringslite_CutPrefix k x12 x13 x66 x67 h64) ⟨rfl, trivial, by decide, rfl, trivial⟩ rfl trivial (.ren rfl rfl (.ren rfl rfl .nil)) rfl trivial rfl) rfl ?_
 refine WPL.q (q_extract rfl rfl) rfl ?_
 refine WPL.q (q_extract rfl rfl) rfl ?_
 refine WPL.q (q_as (v := .lit (.string _)) rfl) rfl ?_
 refine WPL.q (q_as (v := .lit (.bool _)) rfl) rfl ?_
 refine WPL.nilW ?_
 refine W.now ?_
 refine Then.n ?_
 refine WP.retW ?_
 have q0 := (Prod.mk.inj (Option.some.inj H)).1
 have q1 := (Prod.mk.inj (Option.some.inj H)).2
 subst q0
 subst q1
 exact W.now (BodyR.mkR trivial rfl [] ⟨rfl, rfl⟩ ⟨rfl, trivial, by decide, rfl, trivial⟩ rfl rfl)
set_option maxRecDepth 100000 in
set_option maxHeartbeats 4000000 in
theorem s_dec_parser_take (k : Nat) (x9 : ByteArray) (x10 : ByteArray) (x71 : Bool) (x72 : ByteArray) (H : g_dec_parser_take k x9 x10 = some (x71, x72)) : Go.Q.Spec Tryd.prog 11 1 [.ptr 0 0, .lit (.string x9)] (Mem.nil.push (.cells 34 [.lit (.string x10)])) (fun o M => o = .ret (.lit (.bool x71)) ∧ M = (Mem.nil.push (.cells 34 [.lit (.string x72)]))) := by
 unfold g_dec_parser_take at H
 refine Go.Q.Spec.of_bodyR (az := []) (rs := [.tmp 4]) (nt := 21) Tryd.func11 rfl rfl (by intro t T h; simp at h) rfl rfl fun cx hnp => ?_
 refine WP.seq ?_
 refine WP.region ?_
 refine WPL.q (q_as (v := .lit (.bool _)) rfl) rfl ?_
 refine WPL.nilW ?_
 refine W.now ?_
 refine Then.n ?_
 refine WP.seq ?_
 refine WP.region ?_
 refine WPL.q (q_mv (v := .ptr _ _) rfl) rfl ?_
 refine WPL.q (q_nilCheck rfl) rfl ?_
 refine WPL.q (q_fieldAddr fi34_0 rfl rfl) rfl ?_
 refine WPL.q (q_load sc9 rfl rfl rfl) rfl ?_
 refine WPL.q (q_mv (v := .lit (.string _)) rfl) rfl ?_
 obtain ⟨⟨x74, x75⟩, h72, H⟩ := bnd H
 refine WPL.c (runs_call (s := []) (t := []) (N := 1) (bor := []) fn32 rfl (s_strings_CutPrefix k x10 x9 x74 x75 h72) ⟨rfl, trivial, by decide, rfl, trivial⟩ rfl trivial (.ren rfl rfl (.ren rfl rfl .nil)) rfl trivial rfl) rfl ?_
 refine WPL.q (q_mv (v := .tup _) rfl) rfl ?_
 refine WPL.q (q_extract rfl rfl) rfl ?_
 refine WPL.q (q_extract rfl rfl) rfl ?_
 refine WPL.q (q_as (v := .lit (.string _)) rfl) rfl ?_
 refine WPL.q (q_as (v := .lit (.bool _)) rfl) rfl ?_
 refine WPL.nilW ?_
 refine W.now ?_
 refine Then.n ?_
 refine WP.seq ?_
 refine WP.region ?_
 refine WPL.q (q_mv (v := .ptr _ _) rfl) rfl ?_
 refine WPL.q (q_mv (v := .lit (.string _)) rfl) rfl ?_
 refine WPL.q (q_nilCheck rfl) rfl ?_
 refine WPL.q (q_fieldAddr fi34_0 rfl rfl) rfl ?_
 refine WPL.s (s_store sz9 rfl rfl rfl rfl rfl) ?_
 refine WPL.nilW ?_
 refine W.now ?_
 refine Then.n ?_
 refine WP.seq ?_
 refine WP.region ?_
 refine WPL.q (q_mv (v := .lit (.bool _)) rfl) rfl ?_
 refine WPL.q (q_as (v := .lit (.bool _)) rfl) rfl ?_
 refine WPL.nilW ?_
 refine W.now ?_
 refine Then.n ?_
 refine WP.retW ?_
 have q0 := (Prod.mk.inj (Option.some.inj H)).1
 have q1 := (Prod.mk.inj (Option.some.inj H)).2
 subst q0
 subst q1
 exact W.now (BodyR.mkR trivial rfl [0] ⟨rfl, rfl⟩ ⟨rfl, ⟨trivial, .inr ⟨rfl, rfl, rfl⟩⟩, by decide, rfl, ⟨trivial, rfl⟩⟩ rfl rfl)
set_option maxRecDepth 100000 in
set_option maxHeartbeats 4000000 in
theorem s_dec_parser_some (k : Nat) (x79 : ByteArray) (x139 : ByteArray) (x140 : ByteArray) (H : g_dec_parser_some k x79 = some (x139, x140)) : Go.Q.Spec Tryd.prog 12 1 [.ptr 0 0] (Mem.nil.push (.cells 34 [.lit (.string x79)])) (fun o M => o = .ret (.lit (.string x139)) ∧ M = (Mem.nil.push (.cells 34 [.lit (.string x140)]))) := by
 unfold g_dec_parser_some at H
 refine Go.Q.Spec.of_bodyR (az := []) (rs := [.tmp 2]) (nt := 48) Tryd.func12 rfl rfl (by intro t T h; simp at h) rfl rfl fun cx hnp => ?_
 refine WP.seq ?_
 refine WP.region ?_
 refine WPL.q (q_as (v := .lit (.string _)) rfl) rfl ?_
 refine WPL.nilW ?_
 refine W.now ?_
 refine Then.n ?_
 refine WP.seq ?_
 refine WP.region ?_
 refine WPL.q (q_as (v := .lit (.int _ _)) rfl) rfl ?_
 refine WPL.nilW ?_
 refine W.now ?_
 refine Then.n ?_
 refine WP.seq ?_
 refine WP.block ?_
 refine WP.cv (Cv.weak (E' := ((Env.none.upd 0 (.ptr 0 0)).upd 3 (.lit (.int .i64 0)))) (M' := (Mem.nil.push (.cells 34 [.lit (.string x79)]))) [0] hnp ⟨rfl, ⟨trivial, .inr ⟨rfl, rfl, rfl⟩⟩, by decide, rfl, ⟨trivial, rfl⟩⟩ (LeE.upd rfl rfl (LeE.upd rfl rfl (LeE.none rfl rfl)))) ?_
 obtain ⟨x194, H220, H⟩ := bnd H
 refine WP.monoW (Q := fun x E M => x = .exit 0 ∧ E = ((Env.none.upd 0 (.ptr 0 0)).upd 3 (.lit (.int .i64 x194))) ∧ M = (Mem.nil.push (.cells 34 [.lit (.string x79)]))) ?_ ?_
 · refine WP.loop (β := Int) (fun n b => g_dec_parser_some_l0 k x79 n b = some x194) (fun b => ((Env.none.upd 0 (.ptr 0 0)).upd 3 (.lit (.int .i64 b)))) (fun b => (Mem.nil.push (.cells 34 [.lit (.string x79)]))) k 0 H220 rfl rfl ?_
   rintro n x167 H
   obtain _ | n := n
   · exact nf rfl H
   rw [g_dec_parser_some_l0.eq_2] at H
   show WP _ _ _ _ ((Env.none.upd 0 (.ptr 0 0)).upd 3 (.lit (.int .i64 x167))) (Mem.nil.push (.cells 34 [.lit (.string x79)])) _
   refine WP.seq ?_
   refine WP.seq ?_
   obtain ⟨x213, H218, H⟩ := bnd H
   refine WP.monoW (Q := fun x E M => x = .normal ∧ E = (((Env.none.upd 0 (.ptr 0 0)).upd 3 (.lit (.int .i64 x167))).upd 29 (.lit (.bool x213))) ∧ M = (Mem.nil.push (.cells 34 [.lit (.string x79)]))) ?_ ?_
   · clear H
     have H := H218
     clear H218
     refine WP.region ?_
     refine WPL.q (q_mv (v := .lit (.int _ _)) rfl) rfl ?_
     refine WPL.q (q_mv (v := .ptr _ _) rfl) rfl ?_
     refine WPL.q (q_nilCheck rfl) rfl ?_
     refine WPL.q (q_fieldAddr fi34_0 rfl rfl) rfl ?_
     refine WPL.q (q_load sc9 rfl rfl rfl) rfl ?_
     refine WPL.q (q_len_str Tryd.underlying9 rfl) rfl ?_
     obtain ⟨x214, h214, H⟩ := bnd H
     refine WPL.q (q_nm (q_lss rfl rfl) (nm_bool h214)) rfl ?_
     refine WPL.q (q_mv (v := .lit (.bool _)) rfl) rfl ?_
     refine WPL.split (t := 12) (b := x214) rfl (fun hb214 => ?_) (fun hb214 => ?_)
     · replace H := cnt hb214 H
       refine WPL.qg rfl rfl (lb hb214) (q_mv (v := .ptr _ _) rfl) rfl ?_
       refine WPL.qg rfl rfl (lb hb214) (q_nilCheck rfl) rfl ?_
       refine WPL.qg rfl rfl (lb hb214) (q_fieldAddr fi34_0 rfl rfl) rfl ?_
       refine WPL.qg rfl rfl (lb hb214) (q_load sc9 rfl rfl rfl) rfl ?_
       refine WPL.qg rfl rfl (lb hb214) (q_mv (v := .lit (.int _ _)) rfl) rfl ?_
       obtain ⟨x216, h216, H⟩ := bnd H
       refine WPL.qg rfl rfl (lb hb214) (q_index_str Tryd.underlying9 rfl rfl h216) rfl ?_
       refine WPL.qg rfl rfl (lb hb214) (q_geq rfl rfl) rfl ?_
       refine WPL.q (q_pickT (v := .lit (.bool _)) (lb hb214) rfl) rfl ?_
       refine WPL.q (q_mv (v := .lit (.bool _)) rfl) rfl ?_
       refine WPL.split (t := 21) (b := (decide (48 ≤ x216))) rfl (fun hb216 => ?_) (fun hb216 => ?_)
       · replace H := cnt hb216 H
         refine WPL.qg rfl rfl (lb hb216) (q_mv (v := .ptr _ _) rfl) rfl ?_
         refine WPL.qg rfl rfl (lb hb216) (q_nilCheck rfl) rfl ?_
         refine WPL.qg rfl rfl (lb hb216) (q_fieldAddr fi34_0 rfl rfl) rfl ?_
         refine WPL.qg rfl rfl (lb hb216) (q_load sc9 rfl rfl rfl) rfl ?_
         refine WPL.qg rfl rfl (lb hb216) (q_mv (v := .lit (.int _ _)) rfl) rfl ?_
         obtain ⟨x218, h218, H⟩ := bnd H
         refine WPL.qg rfl rfl (lb hb216) (q_index_str Tryd.underlying9 rfl rfl h218) rfl ?_
         refine WPL.qg rfl rfl (lb hb216) (q_leq rfl rfl) rfl ?_
         refine WPL.q (q_pickT (v := .lit (.bool _)) (lb hb216) rfl) rfl ?_
         refine WPL.nilW ?_
         have q0 := (Option.some.inj H)
         subst q0
         exact W.wk [0] hnp ⟨rfl, rfl, rfl⟩ ⟨rfl, ⟨trivial, .inr ⟨rfl, rfl, rfl⟩⟩, by decide, rfl, ⟨trivial, rfl⟩⟩ (LeE.upd rfl rfl (LeE.upd rfl rfl (LeE.upd rfl rfl (LeE.none rfl rfl)))) rfl
       replace H := cnf hb216 H
       refine WPL.skipg (b' := false) rfl rfl (lb hb216) rfl rfl ?_
       refine WPL.skipg (b' := false) rfl rfl (lb hb216) rfl rfl ?_
       refine WPL.skipg (b' := false) rfl rfl (lb hb216) rfl rfl ?_
       refine WPL.skipg (b' := false) rfl rfl (lb hb216) rfl rfl ?_
       refine WPL.skipg (b' := false) rfl rfl (lb hb216) rfl rfl ?_
       refine WPL.skipg (b' := false) rfl rfl (lb hb216) rfl rfl ?_
       refine WPL.skipg (b' := false) rfl rfl (lb hb216) rfl rfl ?_
       refine WPL.q (q_pickF (v := .lit (.bool _)) (lb hb216) rfl) rfl ?_
       refine WPL.nilW ?_
       have q0 := (Option.some.inj H)
       subst q0
       exact W.wk [0] hnp ⟨rfl, rfl, rfl⟩ ⟨rfl, ⟨trivial, .inr ⟨rfl, rfl, rfl⟩⟩, by decide, rfl, ⟨trivial, rfl⟩⟩ (LeE.upd rfl rfl (LeE.upd rfl rfl (LeE.upd rfl rfl (LeE.none rfl rfl)))) rfl
     replace H := cnf hb214 H
     refine WPL.skipg (b' := false) rfl rfl (lb hb214) rfl rfl ?_
     refine WPL.skipg (b' := false) rfl rfl (lb hb214) rfl rfl ?_
     refine WPL.skipg (b' := false) rfl rfl (lb hb214) rfl rfl ?_
     refine WPL.skipg (b' := false) rfl rfl (lb hb214) rfl rfl ?_
     refine WPL.skipg (b' := false) rfl rfl (lb hb214) rfl rfl ?_
     refine WPL.skipg (b' := false) rfl rfl (lb hb214) rfl rfl ?_
     refine WPL.skipg (b' := false) rfl rfl (lb hb214) rfl rfl ?_
     refine WPL.q (q_pickF (v := .lit (.bool _)) (lb hb214) rfl) rfl ?_
     refine WPL.q (q_mv (v := .lit (.bool _)) rfl) rfl ?_
     refine WPL.skipg (b' := false) rfl rfl rfl rfl rfl ?_
     refine WPL.skipg (b' := false) rfl rfl rfl rfl rfl ?_
     refine WPL.skipg (b' := false) rfl rfl rfl rfl rfl ?_
     refine WPL.skipg (b' := false) rfl rfl rfl rfl rfl ?_
     refine WPL.skipg (b' := false) rfl rfl rfl rfl rfl ?_
     refine WPL.skipg (b' := false) rfl rfl rfl rfl rfl ?_
     refine WPL.skipg (b' := false) rfl rfl rfl rfl rfl ?_
     refine WPL.q (q_pickF (v := .lit (.bool _)) rfl rfl) rfl ?_
     refine WPL.nilW ?_
     have q0 := (Option.some.inj H)
     subst q0
     exact W.wk [0] hnp ⟨rfl, rfl, rfl⟩ ⟨rfl, ⟨trivial, .inr ⟨rfl, rfl, rfl⟩⟩, by decide, rfl, ⟨trivial, rfl⟩⟩ (LeE.upd rfl rfl (LeE.upd rfl rfl (LeE.upd rfl rfl (LeE.none rfl rfl)))) rfl
   rintro _ _ _ ⟨rfl, rfl, rfl⟩
   refine W.now ?_
   refine Then.n ?_
   refine WP.cond (t := x213) rfl (fun hb219 => ?_) (fun hb219 => ?_)
   · replace H := cnt hb219 H
     refine WP.skipW ?_
     refine W.now ?_
     refine Then.n ?_
     refine WP.block ?_
     refine WP.region ?_
     refine WPL.q (q_mv (v := .lit (.int _ _)) rfl) rfl ?_
     refine WPL.q (q_add rfl rfl) rfl ?_
     refine WPL.q (q_as (v := .lit (.int _ _)) rfl) rfl ?_
     refine WPL.nilW ?_
     exact W.wk [0] hnp (InBlock.n (Then.n ⟨n, (IntKind.wrap .i64 (x167 + 1)), Nat.lt_succ_self n, H, rfl, rfl⟩)) ⟨rfl, ⟨trivial, .inr ⟨rfl, rfl, rfl⟩⟩, by decide, rfl, ⟨trivial, rfl⟩⟩ (LeE.upd rfl rfl (LeE.upd rfl rfl (LeE.none rfl rfl))) rfl
   replace H := cnf hb219 H
   refine WP.exitW ?_
   have q0 := (Option.some.inj H)
   subst q0
   exact W.wk [0] hnp (Then.x (Then.x ⟨rfl, rfl, rfl⟩)) ⟨rfl, ⟨trivial, .inr ⟨rfl, rfl, rfl⟩⟩, by decide, rfl, ⟨trivial, rfl⟩⟩ (LeE.upd rfl rfl (LeE.upd rfl rfl (LeE.none rfl rfl))) rfl
 rintro _ _ _ ⟨rfl, rfl, rfl⟩
 refine W.now ?_
 refine InBlock.x0 ?_
 refine Then.n ?_
 refine WP.seq ?_
 refine WP.region ?_
 refine WPL.q (q_mv (v := .ptr _ _) rfl) rfl ?_
 refine WPL.q (q_nilCheck rfl) rfl ?_
 refine WPL.q (q_fieldAddr fi34_0 rfl rfl) rfl ?_
 refine WPL.q (q_load sc9 rfl rfl rfl) rfl ?_
 refine WPL.q (q_mv (v := .lit (.int _ _)) rfl) rfl ?_
 obtain ⟨h221, H⟩ := grd H
 refine WPL.q (q_slice_str (i := 0) (j := x194) Tryd.underlying9 rfl rfl ⟨_, rfl⟩ h221) rfl ?_
 refine WPL.q (q_as (v := .lit (.string _)) rfl) rfl ?_
 refine WPL.nilW ?_
 refine W.now ?_
 refine Then.n ?_
 refine WP.seq ?_
 refine WP.region ?_
 refine WPL.q (q_mv (v := .ptr _ _) rfl) rfl ?_
 refine WPL.q (q_mv (v := .ptr _ _) rfl) rfl ?_
 refine WPL.q (q_nilCheck rfl) rfl ?_
 refine WPL.q (q_fieldAddr fi34_0 rfl rfl) rfl ?_
 refine WPL.q (q_load sc9 rfl rfl rfl) rfl ?_
 refine WPL.q (q_mv (v := .lit (.int _ _)) rfl) rfl ?_
 obtain ⟨h222, H⟩ := grd H
 obtain ⟨x224, h224, H⟩ := bnd H
 refine WPL.q (q_nm (q_slice_str (i := x194) (j := ((ByteArray.size x79 : Nat) : Int)) Tryd.underlying9 rfl ⟨_, rfl⟩ rfl h222) (nm_str h224)) rfl ?_
 refine WPL.q (q_nilCheck rfl) rfl ?_
 refine WPL.q (q_fieldAddr fi34_0 rfl rfl) rfl ?_
 refine WPL.s (s_store sz9 rfl rfl rfl rfl rfl) ?_
 refine WPL.nilW ?_
 refine W.now ?_
 refine Then.n ?_
 refine WP.seq ?_
 refine WP.region ?_
 refine WPL.q (q_mv (v := .lit (.string _)) rfl) rfl ?_
 refine WPL.q (q_as (v := .lit (.string _)) rfl) rfl ?_
 refine WPL.nilW ?_
 refine W.now ?_
 refine Then.n ?_
 refine WP.retW ?_
 have q0 := (Prod.mk.inj (Option.some.inj H)).1
 have q1 := (Prod.mk.inj (Option.some.inj H)).2
 subst q0
 subst q1
 exact W.now (BodyR.mkR trivial rfl [0] ⟨rfl, rfl⟩ ⟨rfl, ⟨trivial, .inr ⟨rfl, rfl, rfl⟩⟩, by decide, rfl, ⟨trivial, rfl⟩⟩ rfl rfl)
set_option maxRecDepth 100000 in
set_option maxHeartbeats 4000000 in
theorem s_dec_values (k : Nat) (x303 : ByteArray) (H : g_dec_values k x303 = some ()) : Go.Q.Spec Tryd.prog 13 0 [.lit (.string x303)] Mem.nil (fun o M => o = .ret (.fn 33 [.ptr 0 0]) ∧ M = (Mem.nil.push (.cells 9 [.lit (.string x303)]))) := by
 unfold g_dec_values at H
 refine Go.Q.Spec.of_bodyR (az := []) (rs := [.tmp 2]) (nt := 4) Tryd.func13 rfl rfl (by intro t T h; simp at h) rfl rfl fun cx hnp => ?_
 refine WP.seq ?_
 refine WP.region ?_
 refine WPL.d (d_box rfl rfl) rfl ?_
 refine WPL.q (q_as (v := .lit _) rfl) rfl ?_
 refine WPL.nilW ?_
 refine W.now ?_
 refine Then.n ?_
 refine WP.seq ?_
 refine WP.region ?_
 refine WPL.q (q_makeFunc) rfl ?_
 refine WPL.q (q_as (v := .fn _ _) rfl) rfl ?_
 refine WPL.nilW ?_
 refine W.now ?_
 refine Then.n ?_
 refine WP.retW ?_
 exact W.now (BodyR.mkR trivial rfl [0] ⟨rfl, rfl⟩ ⟨rfl, ⟨trivial, .inr ⟨rfl, rfl, rfl⟩⟩, by decide, rfl, trivial⟩ rfl rfl)
set_option maxRecDepth 100000 in
set_option maxHeartbeats 4000000 in
theorem s_strings_trimLeftByte (k : Nat) (x520 : ByteArray) (x521 : Int) (x566 : ByteArray) (H : g_strings_trimLeftByte k x520 x521 = some x566) : Go.Q.Spec Tryd.prog 34 0 [.lit (.string x520), .lit (.int .u8 x521)] Mem.nil (fun o M => o = .ret (.lit (.string x566)) ∧ M = Mem.nil) := by
 unfold g_strings_trimLeftByte at H
 refine Go.Q.Spec.of_bodyR (az := []) (rs := [.tmp 4]) (nt := 17) Tryd.func34 rfl rfl (by intro t T h; simp at h) rfl rfl fun cx hnp => ?_
 refine WP.seq ?_
 refine WP.region ?_
 refine WPL.q (q_as (v := .lit (.string _)) rfl) rfl ?_
 refine WPL.nilW ?_
 refine W.now ?_
 refine Then.n ?_
 refine WP.seq ?_
 refine WP.block ?_
 refine WP.cv (Cv.weak (E' := ((Env.none.upd 0 (.lit (.string x520))).upd 1 (.lit (.int .u8 x521)))) (M' := Mem.nil) [] hnp ⟨rfl, trivial, by decide, rfl, trivial⟩ (LeE.upd rfl rfl (LeE.upd rfl rfl (LeE.none rfl rfl)))) ?_
 obtain ⟨x608, H628, H⟩ := bnd H
 refine WP.monoW (Q := fun x E M => x = .exit 0 ∧ E = (Env.none.upd 0 (.lit (.string x608))) ∧ M = Mem.nil) ?_ ?_
 · refine WP.loop (β := ByteArray) (fun n b => g_strings_trimLeftByte_l0 k x521 n b = some x608) (fun b => ((Env.none.upd 0 (.lit (.string b))).upd 1 (.lit (.int .u8 x521)))) (fun b => Mem.nil) k x520 H628 rfl rfl ?_
   rintro n x587 H
   obtain _ | n := n
   · exact nf rfl H
   rw [g_strings_trimLeftByte_l0.eq_2] at H
   show WP _ _ _ _ ((Env.none.upd 0 (.lit (.string x587))).upd 1 (.lit (.int .u8 x521))) Mem.nil _
   refine WP.seq ?_
   refine WP.seq ?_
   obtain ⟨x621, H624, H⟩ := bnd H
   refine WP.monoW (Q := fun x E M => x = .normal ∧ E = (((Env.none.upd 0 (.lit (.string x587))).upd 1 (.lit (.int .u8 x521))).upd 13 (.lit (.bool x621))) ∧ M = Mem.nil) ?_ ?_
   · clear H
     have H := H624
     clear H624
     refine WP.region ?_
     refine WPL.q (q_mv (v := .lit (.string _)) rfl) rfl ?_
     refine WPL.q (q_len_str Tryd.underlying9 rfl) rfl ?_
     obtain ⟨x622, h622, H⟩ := bnd H
     refine WPL.q (q_nm (q_gtr rfl rfl) (nm_bool h622)) rfl ?_
     refine WPL.q (q_mv (v := .lit (.bool _)) rfl) rfl ?_
     refine WPL.split (t := 8) (b := x622) rfl (fun hb622 => ?_) (fun hb622 => ?_)
     · replace H := cnt hb622 H
       refine WPL.qg rfl rfl (lb hb622) (q_mv (v := .lit (.string _)) rfl) rfl ?_
       obtain ⟨x624, h624, H⟩ := bnd H
       refine WPL.qg rfl rfl (lb hb622) (q_index_str Tryd.underlying9 rfl rfl h624) rfl ?_
       refine WPL.qg rfl rfl (lb hb622) (q_mv (v := .lit (.int _ _)) rfl) rfl ?_
       refine WPL.qg rfl rfl (lb hb622) (q_eql rfl rfl) rfl ?_
       refine WPL.q (q_pickT (v := .lit (.bool _)) (lb hb622) rfl) rfl ?_
       refine WPL.nilW ?_
       have q0 := (Option.some.inj H)
       subst q0
       exact W.wk [] hnp ⟨rfl, rfl, rfl⟩ ⟨rfl, trivial, by decide, rfl, trivial⟩ (LeE.upd rfl rfl (LeE.upd rfl rfl (LeE.upd rfl rfl (LeE.none rfl rfl)))) rfl
     replace H := cnf hb622 H
     refine WPL.skipg (b' := false) rfl rfl (lb hb622) rfl rfl ?_
     refine WPL.skipg (b' := false) rfl rfl (lb hb622) rfl rfl ?_
     refine WPL.skipg (b' := false) rfl rfl (lb hb622) rfl rfl ?_
     refine WPL.skipg (b' := false) rfl rfl (lb hb622) rfl rfl ?_
     refine WPL.q (q_pickF (v := .lit (.bool _)) (lb hb622) rfl) rfl ?_
     refine WPL.nilW ?_
     have q0 := (Option.some.inj H)
     subst q0
     exact W.wk [] hnp ⟨rfl, rfl, rfl⟩ ⟨rfl, trivial, by decide, rfl, trivial⟩ (LeE.upd rfl rfl (LeE.upd rfl rfl (LeE.upd rfl rfl (LeE.none rfl rfl)))) rfl
   rintro _ _ _ ⟨rfl, rfl, rfl⟩
   refine W.now ?_
   refine Then.n ?_
   refine WP.cond (t := x621) rfl (fun hb625 => ?_) (fun hb625 => ?_)
   · replace H := cnt hb625 H
     refine WP.skipW ?_
     refine W.now ?_
     refine Then.n ?_
     refine WP.block ?_
     refine WP.region ?_
     refine WPL.q (q_mv (v := .lit (.string _)) rfl) rfl ?_
     obtain ⟨h626, H⟩ := grd H
     obtain ⟨x628, h628, H⟩ := bnd H
     refine WPL.q (q_nm (q_slice_str (i := 1) (j := ((ByteArray.size x587 : Nat) : Int)) Tryd.underlying9 rfl ⟨_, rfl⟩ rfl h626) (nm_str h628)) rfl ?_
     refine WPL.q (q_as (v := .lit (.string _)) rfl) rfl ?_
     refine WPL.nilW ?_
     exact W.wk [] hnp (InBlock.n (Then.n ⟨n, x628, Nat.lt_succ_self n, H, rfl, rfl⟩)) ⟨rfl, trivial, by decide, rfl, trivial⟩ (LeE.upd rfl rfl (LeE.upd rfl rfl (LeE.none rfl rfl))) rfl
   replace H := cnf hb625 H
   refine WP.exitW ?_
   have q0 := (Option.some.inj H)
   subst q0
   exact W.wk [] hnp (Then.x (Then.x ⟨rfl, rfl, rfl⟩)) ⟨rfl, trivial, by decide, rfl, trivial⟩ (LeE.upd rfl rfl (LeE.none rfl rfl)) rfl
 rintro _ _ _ ⟨rfl, rfl, rfl⟩
 refine W.now ?_
 refine InBlock.x0 ?_
 refine Then.n ?_
 refine WP.seq ?_
 refine WP.region ?_
 refine WPL.q (q_mv (v := .lit (.string _)) rfl) rfl ?_
 refine WPL.q (q_as (v := .lit (.string _)) rfl) rfl ?_
 refine WPL.nilW ?_
 refine W.now ?_
 refine Then.n ?_
 refine WP.retW ?_
 have q0 := (Option.some.inj H)
 subst q0
 exact W.now (BodyR.mkR trivial rfl [] ⟨rfl, rfl⟩ ⟨rfl, trivial, by decide, rfl, trivial⟩ rfl rfl)
set_option maxRecDepth 100000 in
set_option maxHeartbeats 4000000 in
theorem s_strings_TrimLeft (k : Nat) (x489 : ByteArray) (x490 : ByteArray) (x644 : ByteArray) (H : g_strings_TrimLeft k x489 x490 = some x644) : Go.Q.Spec Tryd.prog 14 0 [.lit (.string x489), .lit (.string x490)] Mem.nil (fun o M => o = .ret (.lit (.string x644)) ∧ M = Mem.nil) := by
 unfold g_strings_TrimLeft at H
 refine Go.Q.Spec.of_bodyR (az := []) (rs := [.tmp 4]) (nt := 37) Tryd.func14 rfl rfl (by intro t T h; simp at h) rfl rfl fun cx hnp => ?_
 refine WP.seq ?_
 refine WP.region ?_
 refine WPL.q (q_as (v := .lit (.string _)) rfl) rfl ?_
 refine WPL.nilW ?_
 refine W.now ?_
 refine Then.n ?_
 refine WP.seq ?_
 refine WP.seq ?_
 obtain ⟨x657, H660, H⟩ := bnd H
 refine WP.monoW (Q := fun x E M => x = .normal ∧ E = (((Env.none.upd 0 (.lit (.string x489))).upd 1 (.lit (.string x490))).upd 12 (.lit (.bool x657))) ∧ M = Mem.nil) ?_ ?_
 · clear H
   have H := H660
   clear H660
   refine WP.region ?_
   refine WPL.q (q_mv (v := .lit (.string _)) rfl) rfl ?_
   obtain ⟨x658, h658, H⟩ := bnd H
   refine WPL.q (q_nm (q_eqls rfl rfl) (nm_bool h658)) rfl ?_
   refine WPL.q (q_mv (v := .lit (.bool _)) rfl) rfl ?_
   refine WPL.split (t := 9) (b := x658) rfl (fun hb658 => ?_) (fun hb658 => ?_)
   · replace H := cnt hb658 H
     refine WPL.skipg (b' := true) rfl rfl (lb hb658) rfl rfl ?_
     refine WPL.skipg (b' := true) rfl rfl (lb hb658) rfl rfl ?_
     refine WPL.q (q_pickT (v := .lit (.bool _)) (lb hb658) rfl) rfl ?_
     refine WPL.nilW ?_
     have q0 := (Option.some.inj H)
     subst q0
     exact W.wk [] hnp ⟨rfl, rfl, rfl⟩ ⟨rfl, trivial, by decide, rfl, trivial⟩ (LeE.upd rfl rfl (LeE.upd rfl rfl (LeE.upd rfl rfl (LeE.none rfl rfl)))) rfl
   replace H := cnf hb658 H
   refine WPL.qg rfl rfl (lb hb658) (q_mv (v := .lit (.string _)) rfl) rfl ?_
   obtain ⟨x660, h660, H⟩ := bnd H
   refine WPL.qg rfl rfl (lb hb658) (q_nm (q_eqls rfl rfl) (nm_bool h660)) rfl ?_
   refine WPL.q (q_pickF (v := .lit (.bool _)) (lb hb658) rfl) rfl ?_
   refine WPL.nilW ?_
   have q0 := (Option.some.inj H)
   subst q0
   exact W.wk [] hnp ⟨rfl, rfl, rfl⟩ ⟨rfl, trivial, by decide, rfl, trivial⟩ (LeE.upd rfl rfl (LeE.upd rfl rfl (LeE.upd rfl rfl (LeE.none rfl rfl)))) rfl
 rintro _ _ _ ⟨rfl, rfl, rfl⟩
 refine W.now ?_
 refine Then.n ?_
 refine WP.cond (t := x657) rfl (fun hb661 => ?_) (fun hb661 => ?_)
 · replace H := cnt hb661 H
   refine WP.seq ?_
   refine WP.region ?_
   refine WPL.q (q_mv (v := .lit (.string _)) rfl) rfl ?_
   refine WPL.q (q_as (v := .lit (.string _)) rfl) rfl ?_
   refine WPL.nilW ?_
   refine W.now ?_
   refine Then.n ?_
   refine WP.retW ?_
   have q0 := (Option.some.inj H)
   subst q0
   exact W.now (Then.r (BodyR.mkR trivial rfl [] ⟨rfl, rfl⟩ ⟨rfl, trivial, by decide, rfl, trivial⟩ rfl rfl))
 replace H := cnf hb661 H
 refine WP.skipW ?_
 refine W.now ?_
 refine Then.n ?_
 refine WP.seq ?_
 refine WP.seq ?_
 obtain ⟨x678, H681, H⟩ := bnd H
 refine WP.monoW (Q := fun x E M => x = .normal ∧ E = (((Env.none.upd 0 (.lit (.string x489))).upd 1 (.lit (.string x490))).upd 21 (.lit (.bool x678))) ∧ M = Mem.nil) ?_ ?_
 · clear H
   have H := H681
   clear H681
   refine WP.region ?_
   refine WPL.q (q_mv (v := .lit (.string _)) rfl) rfl ?_
   refine WPL.q (q_len_str Tryd.underlying9 rfl) rfl ?_
   obtain ⟨x679, h679, H⟩ := bnd H
   refine WPL.q (q_nm (q_eql rfl rfl) (nm_bool h679)) rfl ?_
   refine WPL.q (q_mv (v := .lit (.bool _)) rfl) rfl ?_
   refine WPL.split (t := 17) (b := x679) rfl (fun hb679 => ?_) (fun hb679 => ?_)
   · replace H := cnt hb679 H
     refine WPL.qg rfl rfl (lb hb679) (q_mv (v := .lit (.string _)) rfl) rfl ?_
     obtain ⟨x681, h681, H⟩ := bnd H
     refine WPL.qg rfl rfl (lb hb679) (q_index_str Tryd.underlying9 rfl rfl h681) rfl ?_
     refine WPL.qg rfl rfl (lb hb679) (q_lss rfl rfl) rfl ?_
     refine WPL.q (q_pickT (v := .lit (.bool _)) (lb hb679) rfl) rfl ?_
     refine WPL.nilW ?_
     have q0 := (Option.some.inj H)
     subst q0
     exact W.wk [] hnp ⟨rfl, rfl, rfl⟩ ⟨rfl, trivial, by decide, rfl, trivial⟩ (LeE.upd rfl rfl (LeE.upd rfl rfl (LeE.upd rfl rfl (LeE.none rfl rfl)))) rfl
   replace H := cnf hb679 H
   refine WPL.skipg (b' := false) rfl rfl (lb hb679) rfl rfl ?_
   refine WPL.skipg (b' := false) rfl rfl (lb hb679) rfl rfl ?_
   refine WPL.skipg (b' := false) rfl rfl (lb hb679) rfl rfl ?_
   refine WPL.q (q_pickF (v := .lit (.bool _)) (lb hb679) rfl) rfl ?_
   refine WPL.nilW ?_
   have q0 := (Option.some.inj H)
   subst q0
   exact W.wk [] hnp ⟨rfl, rfl, rfl⟩ ⟨rfl, trivial, by decide, rfl, trivial⟩ (LeE.upd rfl rfl (LeE.upd rfl rfl (LeE.upd rfl rfl (LeE.none rfl rfl)))) rfl
 rintro _ _ _ ⟨rfl, rfl, rfl⟩
 refine W.now ?_
 refine Then.n ?_
 refine WP.cond (t := x678) rfl (fun hb682 => ?_) (fun hb682 => ?_)
 · replace H := cnt hb682 H
   refine WP.seq ?_
   refine WP.region ?_
   refine WPL.q (q_mv (v := .lit (.string _)) rfl) rfl ?_
   refine WPL.q (q_mv (v := .lit (.string _)) rfl) rfl ?_
   obtain ⟨x684, h684, H⟩ := bnd H
   refine WPL.q (q_index_str Tryd.underlying9 rfl rfl h684) rfl ?_
   obtain ⟨x686, h684, H⟩ := bnd H
   refine WPL.c (runs_call (s := []) (t := []) (N := 0) (bor := []) fn34 rfl (s_strings_trimLeftByte k x489 x684 x686 h684) ⟨rfl, trivial, by decide, rfl, trivial⟩ rfl trivial (.ren rfl rfl (.ren rfl rfl .nil)) rfl trivial rfl) rfl ?_
   refine WPL.q (q_as (v := .lit (.string _)) rfl) rfl ?_
   refine WPL.nilW ?_
   refine W.now ?_
   refine Then.n ?_
   refine WP.retW ?_
   have q0 := (Option.some.inj H)
   subst q0
   exact W.now (Then.r (BodyR.mkR trivial rfl [] ⟨rfl, rfl⟩ ⟨rfl, trivial, by decide, rfl, trivial⟩ rfl rfl))
 replace H := cnf hb682 H
 refine WP.skipW ?_
 refine W.now ?_
 refine Then.n ?_
 refine WP.seq ?_
 refine WP.seq ?_
 refine WP.region ?_
 refine WPL.q (q_mv (v := .lit (.string _)) rfl) rfl ?_
 exact nf rfl H
set_option maxRecDepth 100000 in
set_option maxHeartbeats 4000000 in
theorem s_strings_trimRightByte (k : Nat) (x721 : ByteArray) (x722 : Int) (x775 : ByteArray) (H : g_strings_trimRightByte k x721 x722 = some x775) : Go.Q.Spec Tryd.prog 38 0 [.lit (.string x721), .lit (.int .u8 x722)] Mem.nil (fun o M => o = .ret (.lit (.string x775)) ∧ M = Mem.nil) := by
 unfold g_strings_trimRightByte at H
 refine Go.Q.Spec.of_bodyR (az := []) (rs := [.tmp 4]) (nt := 23) Tryd.func38 rfl rfl (by intro t T h; simp at h) rfl rfl fun cx hnp => ?_
 refine WP.seq ?_
 refine WP.region ?_
 refine WPL.q (q_as (v := .lit (.string _)) rfl) rfl ?_
 refine WPL.nilW ?_
 refine W.now ?_
 refine Then.n ?_
 refine WP.seq ?_
 refine WP.block ?_
 refine WP.cv (Cv.weak (E' := ((Env.none.upd 0 (.lit (.string x721))).upd 1 (.lit (.int .u8 x722)))) (M' := Mem.nil) [] hnp ⟨rfl, trivial, by decide, rfl, trivial⟩ (LeE.upd rfl rfl (LeE.upd rfl rfl (LeE.none rfl rfl)))) ?_
 obtain ⟨x825, H849, H⟩ := bnd H
 refine WP.monoW (Q := fun x E M => x = .exit 0 ∧ E = (Env.none.upd 0 (.lit (.string x825))) ∧ M = Mem.nil) ?_ ?_
 · refine WP.loop (β := ByteArray) (fun n b => g_strings_trimRightByte_l0 k x722 n b = some x825) (fun b => ((Env.none.upd 0 (.lit (.string b))).upd 1 (.lit (.int .u8 x722)))) (fun b => Mem.nil) k x721 H849 rfl rfl ?_
   rintro n x800 H
   obtain _ | n := n
   · exact nf rfl H
   rw [g_strings_trimRightByte_l0.eq_2] at H
   show WP _ _ _ _ ((Env.none.upd 0 (.lit (.string x800))).upd 1 (.lit (.int .u8 x722))) Mem.nil _
   refine WP.seq ?_
   refine WP.seq ?_
   obtain ⟨x841, H845, H⟩ := bnd H
   refine WP.monoW (Q := fun x E M => x = .normal ∧ E = (((Env.none.upd 0 (.lit (.string x800))).upd 1 (.lit (.int .u8 x722))).upd 16 (.lit (.bool x841))) ∧ M = Mem.nil) ?_ ?_
   · clear H
     have H := H845
     clear H845
     refine WP.region ?_
     refine WPL.q (q_mv (v := .lit (.string _)) rfl) rfl ?_
     refine WPL.q (q_len_str Tryd.underlying9 rfl) rfl ?_
     obtain ⟨x842, h842, H⟩ := bnd H
     refine WPL.q (q_nm (q_gtr rfl rfl) (nm_bool h842)) rfl ?_
     refine WPL.q (q_mv (v := .lit (.bool _)) rfl) rfl ?_
     refine WPL.split (t := 8) (b := x842) rfl (fun hb842 => ?_) (fun hb842 => ?_)
     · replace H := cnt hb842 H
       refine WPL.qg rfl rfl (lb hb842) (q_mv (v := .lit (.string _)) rfl) rfl ?_
       refine WPL.qg rfl rfl (lb hb842) (q_mv (v := .lit (.string _)) rfl) rfl ?_
       refine WPL.qg rfl rfl (lb hb842) (q_len_str Tryd.underlying9 rfl) rfl ?_
       obtain ⟨x844, h844, H⟩ := bnd H
       refine WPL.qg rfl rfl (lb hb842) (q_nm (q_sub rfl rfl) (nm_int h844)) rfl ?_
       obtain ⟨x845, h845, H⟩ := bnd H
       refine WPL.qg rfl rfl (lb hb842) (q_index_str Tryd.underlying9 rfl rfl h845) rfl ?_
       refine WPL.qg rfl rfl (lb hb842) (q_mv (v := .lit (.int _ _)) rfl) rfl ?_
       refine WPL.qg rfl rfl (lb hb842) (q_eql rfl rfl) rfl ?_
       refine WPL.q (q_pickT (v := .lit (.bool _)) (lb hb842) rfl) rfl ?_
       refine WPL.nilW ?_
       have q0 := (Option.some.inj H)
       subst q0
       exact W.wk [] hnp ⟨rfl, rfl, rfl⟩ ⟨rfl, trivial, by decide, rfl, trivial⟩ (LeE.upd rfl rfl (LeE.upd rfl rfl (LeE.upd rfl rfl (LeE.none rfl rfl)))) rfl
     replace H := cnf hb842 H
     refine WPL.skipg (b' := false) rfl rfl (lb hb842) rfl rfl ?_
     refine WPL.skipg (b' := false) rfl rfl (lb hb842) rfl rfl ?_
     refine WPL.skipg (b' := false) rfl rfl (lb hb842) rfl rfl ?_
     refine WPL.skipg (b' := false) rfl rfl (lb hb842) rfl rfl ?_
     refine WPL.skipg (b' := false) rfl rfl (lb hb842) rfl rfl ?_
     refine WPL.skipg (b' := false) rfl rfl (lb hb842) rfl rfl ?_
     refine WPL.skipg (b' := false) rfl rfl (lb hb842) rfl rfl ?_
     refine WPL.q (q_pickF (v := .lit (.bool _)) (lb hb842) rfl) rfl ?_
     refine WPL.nilW ?_
     have q0 := (Option.some.inj H)
     subst q0
     exact W.wk [] hnp ⟨rfl, rfl, rfl⟩ ⟨rfl, trivial, by decide, rfl, trivial⟩ (LeE.upd rfl rfl (LeE.upd rfl rfl (LeE.upd rfl rfl (LeE.none rfl rfl)))) rfl
   rintro _ _ _ ⟨rfl, rfl, rfl⟩
   refine W.now ?_
   refine Then.n ?_
   refine WP.cond (t := x841) rfl (fun hb846 => ?_) (fun hb846 => ?_)
   · replace H := cnt hb846 H
     refine WP.skipW ?_
     refine W.now ?_
     refine Then.n ?_
     refine WP.block ?_
     refine WP.region ?_
     refine WPL.q (q_mv (v := .lit (.string _)) rfl) rfl ?_
     refine WPL.q (q_mv (v := .lit (.string _)) rfl) rfl ?_
     refine WPL.q (q_len_str Tryd.underlying9 rfl) rfl ?_
     obtain ⟨x848, h848, H⟩ := bnd H
     refine WPL.q (q_nm (q_sub rfl rfl) (nm_int h848)) rfl ?_
     obtain ⟨h848, H⟩ := grd H
     refine WPL.q (q_slice_str (i := 0) (j := x848) Tryd.underlying9 rfl rfl ⟨_, rfl⟩ h848) rfl ?_
     refine WPL.q (q_as (v := .lit (.string _)) rfl) rfl ?_
     refine WPL.nilW ?_
     exact W.wk [] hnp (InBlock.n (Then.n ⟨n, (ByteArray.extract x800 (Int.toNat 0) (Int.toNat x848)), Nat.lt_succ_self n, H, rfl, rfl⟩)) ⟨rfl, trivial, by decide, rfl, trivial⟩ (LeE.upd rfl rfl (LeE.upd rfl rfl (LeE.none rfl rfl))) rfl
   replace H := cnf hb846 H
   refine WP.exitW ?_
   have q0 := (Option.some.inj H)
   subst q0
   exact W.wk [] hnp (Then.x (Then.x ⟨rfl, rfl, rfl⟩)) ⟨rfl, trivial, by decide, rfl, trivial⟩ (LeE.upd rfl rfl (LeE.none rfl rfl)) rfl
 rintro _ _ _ ⟨rfl, rfl, rfl⟩
 refine W.now ?_
 refine InBlock.x0 ?_
 refine Then.n ?_
 refine WP.seq ?_
 refine WP.region ?_
 refine WPL.q (q_mv (v := .lit (.string _)) rfl) rfl ?_
 refine WPL.q (q_as (v := .lit (.string _)) rfl) rfl ?_
 refine WPL.nilW ?_
 refine W.now ?_
 refine Then.n ?_
 refine WP.retW ?_
 have q0 := (Option.some.inj H)
 subst q0
 exact W.now (BodyR.mkR trivial rfl [] ⟨rfl, rfl⟩ ⟨rfl, trivial, by decide, rfl, trivial⟩ rfl rfl)
set_option maxRecDepth 100000 in
set_option maxHeartbeats 4000000 in
theorem s_strings_TrimRight (k : Nat) (x690 : ByteArray) (x691 : ByteArray) (x865 : ByteArray) (H : g_strings_TrimRight k x690 x691 = some x865) : Go.Q.Spec Tryd.prog 15 0 [.lit (.string x690), .lit (.string x691)] Mem.nil (fun o M => o = .ret (.lit (.string x865)) ∧ M = Mem.nil) := by
 unfold g_strings_TrimRight at H
 refine Go.Q.Spec.of_bodyR (az := []) (rs := [.tmp 4]) (nt := 37) Tryd.func15 rfl rfl (by intro t T h; simp at h) rfl rfl fun cx hnp => ?_
 refine WP.seq ?_
 refine WP.region ?_
 refine WPL.q (q_as (v := .lit (.string _)) rfl) rfl ?_
 refine WPL.nilW ?_
 refine W.now ?_
 refine Then.n ?_
 refine WP.seq ?_
 refine WP.seq ?_
 obtain ⟨x878, H881, H⟩ := bnd H
 refine WP.monoW (Q := fun x E M => x = .normal ∧ E = (((Env.none.upd 0 (.lit (.string x690))).upd 1 (.lit (.string x691))).upd 12 (.lit (.bool x878))) ∧ M = Mem.nil) ?_ ?_
 · clear H
   have H := H881
   clear H881
   refine WP.region ?_
   refine WPL.q (q_mv (v := .lit (.string _)) rfl) rfl ?_
   obtain ⟨x879, h879, H⟩ := bnd H
   refine WPL.q (q_nm (q_eqls rfl rfl) (nm_bool h879)) rfl ?_
   refine WPL.q (q_mv (v := .lit (.bool _)) rfl) rfl ?_
   refine WPL.split (t := 9) (b := x879) rfl (fun hb879 => ?_) (fun hb879 => ?_)
   · replace H := cnt hb879 H
     refine WPL.skipg (b' := true) rfl rfl (lb hb879) rfl rfl ?_
     refine WPL.skipg (b' := true) rfl rfl (lb hb879) rfl rfl ?_
     refine WPL.q (q_pickT (v := .lit (.bool _)) (lb hb879) rfl) rfl ?_
     refine WPL.nilW ?_
     have q0 := (Option.some.inj H)
     subst q0
     exact W.wk [] hnp ⟨rfl, rfl, rfl⟩ ⟨rfl, trivial, by decide, rfl, trivial⟩ (LeE.upd rfl rfl (LeE.upd rfl rfl (LeE.upd rfl rfl (LeE.none rfl rfl)))) rfl
   replace H := cnf hb879 H
   refine WPL.qg rfl rfl (lb hb879) (q_mv (v := .lit (.string _)) rfl) rfl ?_
   obtain ⟨x881, h881, H⟩ := bnd H
   refine WPL.qg rfl rfl (lb hb879) (q_nm (q_eqls rfl rfl) (nm_bool h881)) rfl ?_
   refine WPL.q (q_pickF (v := .lit (.bool _)) (lb hb879) rfl) rfl ?_
   refine WPL.nilW ?_
   have q0 := (Option.some.inj H)
   subst q0
   exact W.wk [] hnp ⟨rfl, rfl, rfl⟩ ⟨rfl, trivial, by decide, rfl, trivial⟩ (LeE.upd rfl rfl (LeE.upd rfl rfl (LeE.upd rfl rfl (LeE.none rfl rfl)))) rfl
 rintro _ _ _ ⟨rfl, rfl, rfl⟩
 refine W.now ?_
 refine Then.n ?_
 refine WP.cond (t := x878) rfl (fun hb882 => ?_) (fun hb882 => ?_)
 · replace H := cnt hb882 H
   refine WP.seq ?_
   refine WP.region ?_
   refine WPL.q (q_mv (v := .lit (.string _)) rfl) rfl ?_
   refine WPL.q (q_as (v := .lit (.string _)) rfl) rfl ?_
   refine WPL.nilW ?_
   refine W.now ?_
   refine Then.n ?_
   refine WP.retW ?_
   have q0 := (Option.some.inj H)
   subst q0
   exact W.now (Then.r (BodyR.mkR trivial rfl [] ⟨rfl, rfl⟩ ⟨rfl, trivial, by decide, rfl, trivial⟩ rfl rfl))
 replace H := cnf hb882 H
 refine WP.skipW ?_
 refine W.now ?_
 refine Then.n ?_
 refine WP.seq ?_
 refine WP.seq ?_
 obtain ⟨x899, H902, H⟩ := bnd H
 refine WP.monoW (Q := fun x E M => x = .normal ∧ E = (((Env.none.upd 0 (.lit (.string x690))).upd 1 (.lit (.string x691))).upd 21 (.lit (.bool x899))) ∧ M = Mem.nil) ?_ ?_
 · clear H
   have H := H902
   clear H902
   refine WP.region ?_
   refine WPL.q (q_mv (v := .lit (.string _)) rfl) rfl ?_
   refine WPL.q (q_len_str Tryd.underlying9 rfl) rfl ?_
   obtain ⟨x900, h900, H⟩ := bnd H
   refine WPL.q (q_nm (q_eql rfl rfl) (nm_bool h900)) rfl ?_
   refine WPL.q (q_mv (v := .lit (.bool _)) rfl) rfl ?_
   refine WPL.split (t := 17) (b := x900) rfl (fun hb900 => ?_) (fun hb900 => ?_)
   · replace H := cnt hb900 H
     refine WPL.qg rfl rfl (lb hb900) (q_mv (v := .lit (.string _)) rfl) rfl ?_
     obtain ⟨x902, h902, H⟩ := bnd H
     refine WPL.qg rfl rfl (lb hb900) (q_index_str Tryd.underlying9 rfl rfl h902) rfl ?_
     refine WPL.qg rfl rfl (lb hb900) (q_lss rfl rfl) rfl ?_
     refine WPL.q (q_pickT (v := .lit (.bool _)) (lb hb900) rfl) rfl ?_
     refine WPL.nilW ?_
     have q0 := (Option.some.inj H)
     subst q0
     exact W.wk [] hnp ⟨rfl, rfl, rfl⟩ ⟨rfl, trivial, by decide, rfl, trivial⟩ (LeE.upd rfl rfl (LeE.upd rfl rfl (LeE.upd rfl rfl (LeE.none rfl rfl)))) rfl
   replace H := cnf hb900 H
   refine WPL.skipg (b' := false) rfl rfl (lb hb900) rfl rfl ?_
   refine WPL.skipg (b' := false) rfl rfl (lb hb900) rfl rfl ?_
   refine WPL.skipg (b' := false) rfl rfl (lb hb900) rfl rfl ?_
   refine WPL.q (q_pickF (v := .lit (.bool _)) (lb hb900) rfl) rfl ?_
   refine WPL.nilW ?_
   have q0 := (Option.some.inj H)
   subst q0
   exact W.wk [] hnp ⟨rfl, rfl, rfl⟩ ⟨rfl, trivial, by decide, rfl, trivial⟩ (LeE.upd rfl rfl (LeE.upd rfl rfl (LeE.upd rfl rfl (LeE.none rfl rfl)))) rfl
 rintro _ _ _ ⟨rfl, rfl, rfl⟩
 refine W.now ?_
 refine Then.n ?_
 refine WP.cond (t := x899) rfl (fun hb903 => ?_) (fun hb903 => ?_)
 · replace H := cnt hb903 H
   refine WP.seq ?_
   refine WP.region ?_
   refine WPL.q (q_mv (v := .lit (.string _)) rfl) rfl ?_
   refine WPL.q (q_mv (v := .lit (.string _)) rfl) rfl ?_
   obtain ⟨x905, h905, H⟩ := bnd H
   refine WPL.q (q_index_str Tryd.underlying9 rfl rfl h905) rfl ?_
   obtain ⟨x907, h905, H⟩ := bnd H
   refine WPL.c (runs_call (s := []) (t := []) (N := 0) (bor := []) fn38 rfl (s_strings_trimRightByte k x690 x905 x907 h905) ⟨rfl, trivial, by decide, rfl, trivial⟩ rfl trivial (.ren rfl rfl (.ren rfl rfl .nil)) rfl trivial rfl) rfl ?_
   refine WPL.q (q_as (v := .lit (.string _)) rfl) rfl ?_
   refine WPL.nilW ?_
   refine W.now ?_
   refine Then.n ?_
   refine WP.retW ?_
   have q0 := (Option.some.inj H)
   subst q0
   exact W.now (Then.r (BodyR.mkR trivial rfl [] ⟨rfl, rfl⟩ ⟨rfl, trivial, by decide, rfl, trivial⟩ rfl rfl))
 replace H := cnf hb903 H
 refine WP.skipW ?_
 refine W.now ?_
 refine Then.n ?_
 refine WP.seq ?_
 refine WP.seq ?_
 refine WP.region ?_
 refine WPL.q (q_mv (v := .lit (.string _)) rfl) rfl ?_
 exact nf rfl H
set_option maxRecDepth 100000 in
set_option maxHeartbeats 4000000 in
theorem s_math_bits_Mul64 (k : Nat) (x927 : Int) (x928 : Int) (x938 : Int) (H : g_math_bits_Mul64 k x927 x928 = some x938) : Go.Q.Spec Tryd.prog 41 0 [.lit (.int .u64 x927), .lit (.int .u64 x928)] Mem.nil (fun o M => o = .ret (.tup [.lit (.int .u64 x938), .lit (.int .u64 (IntKind.wrap .u64 (x927 * x928)))]) ∧ M = Mem.nil) := by
 unfold g_math_bits_Mul64 at H
 refine Go.Q.Spec.of_bodyR (az := []) (rs := [.tmp 4, .tmp 5]) (nt := 51) Tryd.func41 rfl rfl (by intro t T h; simp at h) rfl rfl fun cx hnp => ?_
 refine WP.seq ?_
 refine WP.region ?_
 refine WPL.q (q_as (v := .lit (.int _ _)) rfl) rfl ?_
 refine WPL.q (q_as (v := .lit (.int _ _)) rfl) rfl ?_
 refine WPL.nilW ?_
 refine W.now ?_
 refine Then.n ?_
 refine WP.seq ?_
 refine WP.region ?_
 refine WPL.q (q_mv (v := .lit (.int _ _)) rfl) rfl ?_
 refine WPL.q (q_and rfl rfl) rfl ?_
 refine WPL.q (q_as (v := .lit (.int _ _)) rfl) rfl ?_
 refine WPL.nilW ?_
 refine W.now ?_
 refine Then.n ?_
 refine WP.seq ?_
 refine WP.region ?_
 refine WPL.q (q_mv (v := .lit (.int _ _)) rfl) rfl ?_
 refine WPL.q (q_shr rfl rfl rfl) rfl ?_
 refine WPL.q (q_as (v := .lit (.int _ _)) rfl) rfl ?_
 refine WPL.nilW ?_
 refine W.now ?_
 refine Then.n ?_
 refine WP.seq ?_
 refine WP.region ?_
 refine WPL.q (q_mv (v := .lit (.int _ _)) rfl) rfl ?_
 refine WPL.q (q_and rfl rfl) rfl ?_
 refine WPL.q (q_as (v := .lit (.int _ _)) rfl) rfl ?_
 refine WPL.nilW ?_
 refine W.now ?_
 refine Then.n ?_
 refine WP.seq ?_
 refine WP.region ?_
 refine WPL.q (q_mv (v := .lit (.int _ _)) rfl) rfl ?_
 refine WPL.q (q_shr rfl rfl rfl) rfl ?_
 refine WPL.q (q_as (v := .lit (.int _ _)) rfl) rfl ?_
 refine WPL.nilW ?_
 refine W.now ?_
 refine Then.n ?_
 refine WP.seq ?_
 refine WP.region ?_
 refine WPL.q (q_mv (v := .lit (.int _ _)) rfl) rfl ?_
 refine WPL.q (q_mv (v := .lit (.int _ _)) rfl) rfl ?_
 obtain ⟨x939, h939, H⟩ := bnd H
 refine WPL.q (q_nm (q_mul rfl rfl) (nm_int h939)) rfl ?_
 refine WPL.q (q_as (v := .lit (.int _ _)) rfl) rfl ?_
 refine WPL.nilW ?_
 refine W.now ?_
 refine Then.n ?_
 refine WP.seq ?_
 refine WP.region ?_
 refine WPL.q (q_mv (v := .lit (.int _ _)) rfl) rfl ?_
 refine WPL.q (q_mv (v := .lit (.int _ _)) rfl) rfl ?_
 obtain ⟨x940, h940, H⟩ := bnd H
 refine WPL.q (q_nm (q_mul rfl rfl) (nm_int h940)) rfl ?_
 refine WPL.q (q_mv (v := .lit (.int _ _)) rfl) rfl ?_
 refine WPL.q (q_shr rfl rfl rfl) rfl ?_
 obtain ⟨x941, h941, H⟩ := bnd H
 refine WPL.q (q_nm (q_add rfl rfl) (nm_int h941)) rfl ?_
 refine WPL.q (q_as (v := .lit (.int _ _)) rfl) rfl ?_
 refine WPL.nilW ?_
 refine W.now ?_
 refine Then.n ?_
 refine WP.seq ?_
 refine WP.region ?_
 refine WPL.q (q_mv (v := .lit (.int _ _)) rfl) rfl ?_
 refine WPL.q (q_and rfl rfl) rfl ?_
 refine WPL.q (q_as (v := .lit (.int _ _)) rfl) rfl ?_
 refine WPL.nilW ?_
 refine W.now ?_
 refine Then.n ?_
 refine WP.seq ?_
 refine WP.region ?_
 refine WPL.q (q_mv (v := .lit (.int _ _)) rfl) rfl ?_
 refine WPL.q (q_shr rfl rfl rfl) rfl ?_
 refine WPL.q (q_as (v := .lit (.int _ _)) rfl) rfl ?_
 refine WPL.nilW ?_
 refine W.now ?_
 refine Then.n ?_
 refine WP.seq ?_
 refine WP.region ?_
 refine WPL.q (q_mv (v := .lit (.int _ _)) rfl) rfl ?_
 refine WPL.q (q_mv (v := .lit (.int _ _)) rfl) rfl ?_
 refine WPL.q (q_mv (v := .lit (.int _ _)) rfl) rfl ?_
 obtain ⟨x942, h942, H⟩ := bnd H
 refine WPL.q (q_nm (q_mul rfl rfl) (nm_int h942)) rfl ?_
 obtain ⟨x943, h943, H⟩ := bnd H
 refine WPL.q (q_nm (q_add rfl rfl) (nm_int h943)) rfl ?_
 refine WPL.q (q_as (v := .lit (.int _ _)) rfl) rfl ?_
 refine WPL.nilW ?_
 refine W.now ?_
 refine Then.n ?_
 refine WP.seq ?_
 refine WP.region ?_
 refine WPL.q (q_mv (v := .lit (.int _ _)) rfl) rfl ?_
 refine WPL.q (q_mv (v := .lit (.int _ _)) rfl) rfl ?_
 obtain ⟨x944, h944, H⟩ := bnd H
 refine WPL.q (q_nm (q_mul rfl rfl) (nm_int h944)) rfl ?_
 refine WPL.q (q_mv (v := .lit (.int _ _)) rfl) rfl ?_
 obtain ⟨x945, h945, H⟩ := bnd H
 refine WPL.q (q_nm (q_add rfl rfl) (nm_int h945)) rfl ?_
 refine WPL.q (q_mv (v := .lit (.int _ _)) rfl) rfl ?_
 refine WPL.q (q_shr rfl rfl rfl) rfl ?_
 obtain ⟨x946, h946, H⟩ := bnd H
 refine WPL.q (q_nm (q_add rfl rfl) (nm_int h946)) rfl ?_
 refine WPL.q (q_as (v := .lit (.int _ _)) rfl) rfl ?_
 refine WPL.nilW ?_
 refine W.now ?_
 refine Then.n ?_
 refine WP.seq ?_
 refine WP.region ?_
 refine WPL.q (q_mv (v := .lit (.int _ _)) rfl) rfl ?_
 refine WPL.q (q_mv (v := .lit (.int _ _)) rfl) rfl ?_
 refine WPL.q (q_mul rfl rfl) rfl ?_
 refine WPL.q (q_as (v := .lit (.int _ _)) rfl) rfl ?_
 refine WPL.nilW ?_
 refine W.now ?_
 refine Then.n ?_
 refine WP.retW ?_
 have q0 := (Option.some.inj H)
 subst q0
 exact W.now (BodyR.mkR trivial rfl [] ⟨rfl, rfl⟩ ⟨rfl, trivial, by decide, rfl, trivial⟩ rfl rfl)
set_option maxRecDepth 100000 in
set_option maxHeartbeats 4000000 in
theorem s_dec_wide_times (k : Nat) (x923 : Int) (x924 : Int) (x925 : Int) (x952 : Bool) (x953 : Int) (H : g_dec_wide_times k x923 x924 x925 = some (x952, x953)) : Go.Q.Spec Tryd.prog 16 0 [.agg [.lit (.int .u64 x923), .lit (.int .u64 x924)], .lit (.int .u64 x925)] Mem.nil (fun o M => o = .ret (.tup [.agg [.lit (.int .u64 x953), .lit (.int .u64 (IntKind.wrap .u64 (x924 * x925)))], .lit (.bool x952)]) ∧ M = (Mem.nil.push (.cells 43 [.lit (.int .u64 x953), .lit (.int .u64 (IntKind.wrap .u64 (x924 * x925)))]))) := by
 unfold g_dec_wide_times at H
 refine Go.Q.Spec.of_bodyR (az := [(43, 2)]) (rs := [.cell 4 43, .tmp 5]) (nt := 39) Tryd.func16 rfl rfl (by intro t T h; simp at h; rcases h with ⟨rfl, rfl⟩ <;> first | exact ag43) rfl rfl fun cx hnp => ?_
 refine WP.seq ?_
 refine WP.region ?_
 refine WPL.d (d_box rfl rfl) rfl ?_
 refine WPL.d (d_alloc ze43 rfl) rfl ?_
 refine WPL.q (q_as (v := .lit (.bool _)) rfl) rfl ?_
 refine WPL.nilW ?_
 refine W.now ?_
 refine Then.n ?_
 refine WP.seq ?_
 refine WP.region ?_
 refine WPL.q (q_fieldAddr fi43_1 rfl rfl) rfl ?_
 refine WPL.q (q_load sc41 rfl rfl rfl) rfl ?_
 refine WPL.q (q_mv (v := .lit (.int _ _)) rfl) rfl ?_
 obtain ⟨x955, h953, H⟩ := bnd H
 refine WPL.c (runs_call (s := []) (t := []) (N := 2) (bor := []) fn41 rfl (s_math_bits_Mul64 k x924 x925 x955 h953) ⟨rfl, trivial, by decide, rfl, trivial⟩ rfl trivial (.ren rfl rfl (.ren rfl rfl .nil)) rfl trivial rfl) rfl ?_
 refine WPL.q (q_mv (v := .tup _) rfl) rfl ?_
 refine WPL.q (q_extract rfl rfl) rfl ?_
 refine WPL.q (q_extract rfl rfl) rfl ?_
 refine WPL.q (q_as (v := .lit (.int _ _)) rfl) rfl ?_
 refine WPL.q (q_as (v := .lit (.int _ _)) rfl) rfl ?_
 refine WPL.nilW ?_
 refine W.now ?_
 refine Then.n ?_
 refine WP.seq ?_
 refine WP.region ?_
 refine WPL.q (q_fieldAddr fi43_0 rfl rfl) rfl ?_
 refine WPL.q (q_load sc41 rfl rfl rfl) rfl ?_
 refine WPL.q (q_mv (v := .lit (.int _ _)) rfl) rfl ?_
 obtain ⟨x957, h955, H⟩ := bnd H
 refine WPL.c (runs_call (s := []) (t := []) (N := 2) (bor := []) fn41 rfl (s_math_bits_Mul64 k x923 x925 x957 h955) ⟨rfl, trivial, by decide, rfl, trivial⟩ rfl trivial (.ren rfl rfl (.ren rfl rfl .nil)) rfl trivial rfl) rfl ?_
 refine WPL.q (q_mv (v := .tup _) rfl) rfl ?_
 refine WPL.q (q_extract rfl rfl) rfl ?_
 refine WPL.q (q_extract rfl rfl) rfl ?_
 refine WPL.q (q_as (v := .lit (.int _ _)) rfl) rfl ?_
 refine WPL.q (q_as (v := .lit (.int _ _)) rfl) rfl ?_
 refine WPL.nilW ?_
 refine W.now ?_
 refine Then.n ?_
 refine WP.seq ?_
 refine WP.region ?_
 refine WPL.q (q_mv (v := .lit (.int _ _)) rfl) rfl ?_
 refine WPL.q (q_mv (v := .lit (.int _ _)) rfl) rfl ?_
 refine WPL.q (q_add64 ex42 rfl rfl rfl rfl rfl) rfl ?_
 refine WPL.q (q_mv (v := .tup _) rfl) rfl ?_
 refine WPL.q (q_extract rfl rfl) rfl ?_
 refine WPL.q (q_extract rfl rfl) rfl ?_
 refine WPL.q (q_as (v := .lit (.int _ _)) rfl) rfl ?_
 refine WPL.q (q_as (v := .lit (.int _ _)) rfl) rfl ?_
 refine WPL.nilW ?_
 refine W.now ?_
 refine Then.n ?_
 refine WP.seq ?_
 refine WP.region ?_
 refine WPL.q (q_mv (v := .lit (.int _ _)) rfl) rfl ?_
 refine WPL.q (q_mv (v := .lit (.int _ _)) rfl) rfl ?_
 refine WPL.q (q_build bu43 rfl) rfl ?_
 refine WPL.q (q_mv (v := .lit (.int _ _)) rfl) rfl ?_
 refine WPL.q (q_mv (v := .lit (.int _ _)) rfl) rfl ?_
 obtain ⟨x958, h958, H⟩ := bnd H
 refine WPL.q (q_nm (q_add rfl rfl) (nm_int h958)) rfl ?_
 refine WPL.q (q_eql rfl rfl) rfl ?_
 refine WPL.s (s_store sz43 rfl rfl rfl rfl rfl) ?_
 refine WPL.q (q_as (v := .lit (.bool _)) rfl) rfl ?_
 refine WPL.nilW ?_
 refine W.now ?_
 refine Then.n ?_
 refine WP.retW ?_
 have q0 := (Prod.mk.inj (Option.some.inj H)).1
 have q1 := (Prod.mk.inj (Option.some.inj H)).2
 subst q0
 subst q1
 exact W.now (BodyR.mkR trivial rfl [1] ⟨rfl, rfl⟩ ⟨rfl, ⟨trivial, .inr ⟨rfl, rfl, rfl⟩⟩, by decide, rfl, trivial⟩ rfl rfl)
set_option maxRecDepth 100000 in
set_option maxHeartbeats 4000000 in
theorem s_dec_wide_plus (k : Nat) (x962 : Int) (x963 : Int) (x964 : Int) (x965 : Int) (x969 : Bool) (H : g_dec_wide_plus k x962 x963 x964 x965 = some x969) : Go.Q.Spec Tryd.prog 17 0 [.agg [.lit (.int .u64 x962), .lit (.int .u64 x963)], .agg [.lit (.int .u64 x964), .lit (.int .u64 x965)]] Mem.nil (fun o M => o = .ret (.tup [.agg [.lit (.int .u64 ((add64 x962 x964 ((add64 x963 x965 0).2)).1)), .lit (.int .u64 ((add64 x963 x965 0).1))], .lit (.bool x969)]) ∧ M = (Mem.nil.push (.cells 43 [.lit (.int .u64 ((add64 x962 x964 ((add64 x963 x965 0).2)).1)), .lit (.int .u64 ((add64 x963 x965 0).1))]))) := by
 unfold g_dec_wide_plus at H
 refine Go.Q.Spec.of_bodyR (az := [(43, 2)]) (rs := [.cell 4 43, .tmp 5]) (nt := 31) Tryd.func17 rfl rfl (by intro t T h; simp at h; rcases h with ⟨rfl, rfl⟩ <;> first | exact ag43) rfl rfl fun cx hnp => ?_
 refine WP.seq ?_
 refine WP.region ?_
 refine WPL.d (d_box rfl rfl) rfl ?_
 refine WPL.d (d_box rfl rfl) rfl ?_
 refine WPL.d (d_alloc ze43 rfl) rfl ?_
 refine WPL.q (q_as (v := .lit (.bool _)) rfl) rfl ?_
 refine WPL.nilW ?_
 refine W.now ?_
 refine Then.n ?_
 refine WP.seq ?_
 refine WP.region ?_
 refine WPL.q (q_fieldAddr fi43_1 rfl rfl) rfl ?_
 refine WPL.q (q_load sc41 rfl rfl rfl) rfl ?_
 refine WPL.q (q_fieldAddr fi43_1 rfl rfl) rfl ?_
 refine WPL.q (q_load sc41 rfl rfl rfl) rfl ?_
 refine WPL.q (q_add64 ex42 rfl rfl rfl rfl rfl) rfl ?_
 refine WPL.q (q_mv (v := .tup _) rfl) rfl ?_
 refine WPL.q (q_extract rfl rfl) rfl ?_
 refine WPL.q (q_extract rfl rfl) rfl ?_
 refine WPL.q (q_as (v := .lit (.int _ _)) rfl) rfl ?_
 refine WPL.q (q_as (v := .lit (.int _ _)) rfl) rfl ?_
 refine WPL.nilW ?_
 refine W.now ?_
 refine Then.n ?_
 refine WP.seq ?_
 refine WP.region ?_
 refine WPL.q (q_fieldAddr fi43_0 rfl rfl) rfl ?_
 refine WPL.q (q_load sc41 rfl rfl rfl) rfl ?_
 refine WPL.q (q_fieldAddr fi43_0 rfl rfl) rfl ?_
 refine WPL.q (q_load sc41 rfl rfl rfl) rfl ?_
 refine WPL.q (q_mv (v := .lit (.int _ _)) rfl) rfl ?_
 obtain ⟨h969, H⟩ := grd H
 refine WPL.q (q_add64 ex42 rfl rfl rfl rfl h969) rfl ?_
 refine WPL.q (q_mv (v := .tup _) rfl) rfl ?_
 refine WPL.q (q_extract rfl rfl) rfl ?_
 refine WPL.q (q_extract rfl rfl) rfl ?_
 refine WPL.q (q_as (v := .lit (.int _ _)) rfl) rfl ?_
 refine WPL.q (q_as (v := .lit (.int _ _)) rfl) rfl ?_
 refine WPL.nilW ?_
 refine W.now ?_
 refine Then.n ?_
 refine WP.seq ?_
 refine WP.region ?_
 refine WPL.q (q_mv (v := .lit (.int _ _)) rfl) rfl ?_
 refine WPL.q (q_mv (v := .lit (.int _ _)) rfl) rfl ?_
 refine WPL.q (q_build bu43 rfl) rfl ?_
 refine WPL.q (q_mv (v := .lit (.int _ _)) rfl) rfl ?_
 obtain ⟨x971, h971, H⟩ := bnd H
 refine WPL.q (q_nm (q_eql rfl rfl) (nm_bool h971)) rfl ?_
 refine WPL.s (s_store sz43 rfl rfl rfl rfl rfl) ?_
 refine WPL.q (q_as (v := .lit (.bool _)) rfl) rfl ?_
 refine WPL.nilW ?_
 refine W.now ?_
 refine Then.n ?_
 refine WP.retW ?_
 have q0 := (Option.some.inj H)
 subst q0
 exact W.now (BodyR.mkR trivial rfl [2] ⟨rfl, rfl⟩ ⟨rfl, ⟨trivial, .inr ⟨rfl, rfl, rfl⟩⟩, by decide, rfl, trivial⟩ rfl rfl)
set_option maxRecDepth 100000 in
set_option maxHeartbeats 4000000 in
theorem s_dec_wide_zero (k : Nat) (x1012 : Int) (x1013 : Int) (H : g_dec_wide_zero k x1012 x1013 = some ()) : Go.Q.Spec Tryd.prog 43 0 [.agg [.lit (.int .u64 x1012), .lit (.int .u64 x1013)]] Mem.nil (fun o M => o = .ret (.lit (.bool (decide ((bits .or .u64 x1012 x1013) = 0)))) ∧ M = Mem.nil) := by
 unfold g_dec_wide_zero at H
 refine Go.Q.Spec.of_bodyR (az := []) (rs := [.tmp 2]) (nt := 9) Tryd.func43 rfl rfl (by intro t T h; simp at h) rfl rfl fun cx hnp => ?_
 refine WP.seq ?_
 refine WP.region ?_
 refine WPL.d (d_box rfl rfl) rfl ?_
 refine WPL.q (q_as (v := .lit (.bool _)) rfl) rfl ?_
 refine WPL.nilW ?_
 refine W.now ?_
 refine Then.n ?_
 refine WP.seq ?_
 refine WP.region ?_
 refine WPL.q (q_fieldAddr fi43_0 rfl rfl) rfl ?_
 refine WPL.q (q_load sc41 rfl rfl rfl) rfl ?_
 refine WPL.q (q_fieldAddr fi43_1 rfl rfl) rfl ?_
 refine WPL.q (q_load sc41 rfl rfl rfl) rfl ?_
 refine WPL.q (q_or rfl rfl) rfl ?_
 refine WPL.q (q_eql rfl rfl) rfl ?_
 refine WPL.q (q_as (v := .lit (.bool _)) rfl) rfl ?_
 refine WPL.nilW ?_
 refine W.now ?_
 refine Then.n ?_
 refine WP.retW ?_
 exact W.now (BodyR.mkR trivial rfl [] ⟨rfl, rfl⟩ ⟨rfl, trivial, by decide, rfl, trivial⟩ rfl rfl)
set_option maxRecDepth 100000 in
set_option maxHeartbeats 4000000 in
theorem s_math_bits_Len64 (k : Nat) (x1043 : Int) (x1062 : Int) (H : g_math_bits_Len64 k x1043 = some x1062) : Go.Q.Spec Tryd.prog 83 0 [.lit (.int .u64 x1043)] Mem.nil (fun o M => o = .ret (.lit (.int .i64 x1062)) ∧ M = Mem.nil) := by
 unfold g_math_bits_Len64 at H
 refine Go.Q.Spec.of_bodyR (az := []) (rs := [.tmp 2]) (nt := 25) Tryd.func83 rfl rfl (by intro t T h; simp at h) rfl rfl fun cx hnp => ?_
 refine WP.seq ?_
 refine WP.region ?_
 refine WPL.q (q_as (v := .lit (.int _ _)) rfl) rfl ?_
 refine WPL.nilW ?_
 refine W.now ?_
 refine Then.n ?_
 refine WP.seq ?_
 obtain ⟨⟨x1064, x1065⟩, H1066, H⟩ := bnd H
 refine WP.monoW (Q := fun x E M => x = .normal ∧ E = ((Env.none.upd 0 (.lit (.int .u64 x1064))).upd 2 (.lit (.int .i64 x1065))) ∧ M = Mem.nil) ?_ ?_
 · clear H
   have H := H1066
   clear H1066
   refine WP.seq ?_
   refine WP.region ?_
   refine WPL.q (q_mv (v := .lit (.int _ _)) rfl) rfl ?_
   refine WPL.q (q_geq rfl rfl) rfl ?_
   refine WPL.nilW ?_
   refine W.now ?_
   refine Then.n ?_
   refine WP.cond (t := (decide (4294967296 ≤ x1043))) rfl (fun hb1065 => ?_) (fun hb1065 => ?_)
   · replace H := cnt hb1065 H
     refine WP.seq ?_
     refine WP.region ?_
     refine WPL.q (q_mv (v := .lit (.int _ _)) rfl) rfl ?_
     refine WPL.q (q_shr rfl rfl rfl) rfl ?_
     refine WPL.q (q_as (v := .lit (.int _ _)) rfl) rfl ?_
     refine WPL.nilW ?_
     refine W.now ?_
     refine Then.n ?_
     refine WP.region ?_
     refine WPL.q (q_as (v := .lit (.int _ _)) rfl) rfl ?_
     refine WPL.nilW ?_
     have q0 := (Prod.mk.inj (Option.some.inj H)).1
     have q1 := (Prod.mk.inj (Option.some.inj H)).2
     subst q0
     subst q1
     exact W.wk [] hnp ⟨rfl, rfl, rfl⟩ ⟨rfl, trivial, by decide, rfl, trivial⟩ (LeE.upd rfl rfl (LeE.upd rfl rfl (LeE.none rfl rfl))) rfl
   replace H := cnf hb1065 H
   refine WP.skipW ?_
   have q0 := (Prod.mk.inj (Option.some.inj H)).1
   have q1 := (Prod.mk.inj (Option.some.inj H)).2
   subst q0
   subst q1
   exact W.wk [] hnp ⟨rfl, rfl, rfl⟩ ⟨rfl, trivial, by decide, rfl, trivial⟩ (LeE.upd rfl rfl (LeE.upd rfl rfl (LeE.none rfl rfl))) rfl
 rintro _ _ _ ⟨rfl, rfl, rfl⟩
 refine W.now ?_
 refine Then.n ?_
 refine WP.seq ?_
 obtain ⟨⟨x1069, x1070⟩, H1071, H⟩ := bnd H
 refine WP.monoW (Q := fun x E M => x = .normal ∧ E = ((Env.none.upd 0 (.lit (.int .u64 x1069))).upd 2 (.lit (.int .i64 x1070))) ∧ M = Mem.nil) ?_ ?_
 · clear H
   have H := H1071
   clear H1071
   refine WP.seq ?_
   refine WP.region ?_
   refine WPL.q (q_mv (v := .lit (.int _ _)) rfl) rfl ?_
   refine WPL.q (q_geq rfl rfl) rfl ?_
   refine WPL.nilW ?_
   refine W.now ?_
   refine Then.n ?_
   refine WP.cond (t := (decide (65536 ≤ x1064))) rfl (fun hb1070 => ?_) (fun hb1070 => ?_)
   · replace H := cnt hb1070 H
     refine WP.seq ?_
     refine WP.region ?_
     refine WPL.q (q_mv (v := .lit (.int _ _)) rfl) rfl ?_
     refine WPL.q (q_shr rfl rfl rfl) rfl ?_
     refine WPL.q (q_as (v := .lit (.int _ _)) rfl) rfl ?_
     refine WPL.nilW ?_
     refine W.now ?_
     refine Then.n ?_
     refine WP.region ?_
     refine WPL.q (q_mv (v := .lit (.int _ _)) rfl) rfl ?_
     refine WPL.q (q_add rfl rfl) rfl ?_
     refine WPL.q (q_as (v := .lit (.int _ _)) rfl) rfl ?_
     refine WPL.nilW ?_
     have q0 := (Prod.mk.inj (Option.some.inj H)).1
     have q1 := (Prod.mk.inj (Option.some.inj H)).2
     subst q0
     subst q1
     exact W.wk [] hnp ⟨rfl, rfl, rfl⟩ ⟨rfl, trivial, by decide, rfl, trivial⟩ (LeE.upd rfl rfl (LeE.upd rfl rfl (LeE.none rfl rfl))) rfl
   replace H := cnf hb1070 H
   refine WP.skipW ?_
   have q0 := (Prod.mk.inj (Option.some.inj H)).1
   have q1 := (Prod.mk.inj (Option.some.inj H)).2
   subst q0
   subst q1
   exact W.wk [] hnp ⟨rfl, rfl, rfl⟩ ⟨rfl, trivial, by decide, rfl, trivial⟩ (LeE.upd rfl rfl (LeE.upd rfl rfl (LeE.none rfl rfl))) rfl
 rintro _ _ _ ⟨rfl, rfl, rfl⟩
 refine W.now ?_
 refine Then.n ?_
 refine WP.seq ?_
 obtain ⟨⟨x1074, x1075⟩, H1076, H⟩ := bnd H
 refine WP.monoW (Q := fun x E M => x = .normal ∧ E = ((Env.none.upd 0 (.lit (.int .u64 x1074))).upd 2 (.lit (.int .i64 x1075))) ∧ M = Mem.nil) ?_ ?_
 · clear H
   have H := H1076
   clear H1076
   refine WP.seq ?_
   refine WP.region ?_
   refine WPL.q (q_mv (v := .lit (.int _ _)) rfl) rfl ?_
   refine WPL.q (q_geq rfl rfl) rfl ?_
   refine WPL.nilW ?_
   refine W.now ?_
   refine Then.n ?_
   refine WP.cond (t := (decide (256 ≤ x1069))) rfl (fun hb1075 => ?_) (fun hb1075 => ?_)
   · replace H := cnt hb1075 H
     refine WP.seq ?_
     refine WP.region ?_
     refine WPL.q (q_mv (v := .lit (.int _ _)) rfl) rfl ?_
     refine WPL.q (q_shr rfl rfl rfl) rfl ?_
     refine WPL.q (q_as (v := .lit (.int _ _)) rfl) rfl ?_
     refine WPL.nilW ?_
     refine W.now ?_
     refine Then.n ?_
     refine WP.region ?_
     refine WPL.q (q_mv (v := .lit (.int _ _)) rfl) rfl ?_
     refine WPL.q (q_add rfl rfl) rfl ?_
     refine WPL.q (q_as (v := .lit (.int _ _)) rfl) rfl ?_
     refine WPL.nilW ?_
     have q0 := (Prod.mk.inj (Option.some.inj H)).1
     have q1 := (Prod.mk.inj (Option.some.inj H)).2
     subst q0
     subst q1
     exact W.wk [] hnp ⟨rfl, rfl, rfl⟩ ⟨rfl, trivial, by decide, rfl, trivial⟩ (LeE.upd rfl rfl (LeE.upd rfl rfl (LeE.none rfl rfl))) rfl
   replace H := cnf hb1075 H
   refine WP.skipW ?_
   have q0 := (Prod.mk.inj (Option.some.inj H)).1
   have q1 := (Prod.mk.inj (Option.some.inj H)).2
   subst q0
   subst q1
   exact W.wk [] hnp ⟨rfl, rfl, rfl⟩ ⟨rfl, trivial, by decide, rfl, trivial⟩ (LeE.upd rfl rfl (LeE.upd rfl rfl (LeE.none rfl rfl))) rfl
 rintro _ _ _ ⟨rfl, rfl, rfl⟩
 refine W.now ?_
 refine Then.n ?_
 refine WP.seq ?_
 refine WP.region ?_
 refine WPL.q (q_mv (v := .lit (.int _ _)) rfl) rfl ?_
 refine WPL.q (q_mv (v := .lit (.int _ _)) rfl) rfl ?_
 refine WPL.q (q_conv Tryd.underlying41 Tryd.underlying5 rfl) rfl ?_
 obtain ⟨x1078, h1078, H⟩ := bnd H
 refine WPL.q (q_index_str Tryd.underlying9 rfl rfl h1078) rfl ?_
 refine WPL.q (q_conv Tryd.underlying5 Tryd.underlying3 rfl) rfl ?_
 obtain ⟨x1079, h1079, H⟩ := bnd H
 refine WPL.q (q_nm (q_add rfl rfl) (nm_int h1079)) rfl ?_
 refine WPL.q (q_as (v := .lit (.int _ _)) rfl) rfl ?_
 refine WPL.nilW ?_
 refine W.now ?_
 refine Then.n ?_
 refine WP.retW ?_
 have q0 := (Option.some.inj H)
 subst q0
 exact W.now (BodyR.mkR trivial rfl [] ⟨rfl, rfl⟩ ⟨rfl, trivial, by decide, rfl, trivial⟩ rfl rfl)
end Go.Proofs.YtdbeblgfccjbgaaDoor.W
namespace Go.Proofs.YtdbeblgfccjbgaaDoor.W
open Go Go.Q Go.Proofs
set_option linter.unusedVariables false
set_option linter.unusedSimpArgs false
set_option maxRecDepth 100000 in
set_option maxHeartbeats 4000000 in
theorem s_math_bits_LeadingZeros64 (k : Nat) (x1041 : Int) (x1082 : Int) (H : g_math_bits_LeadingZeros64 k x1041 = some x1082) : Go.Q.Spec Tryd.prog 76 0 [.lit (.int .u64 x1041)] Mem.nil (fun o M => o = .ret (.lit (.int .i64 x1082)) ∧ M = Mem.nil) := by
 unfold g_math_bits_LeadingZeros64 at H
 refine Go.Q.Spec.of_bodyR (az := []) (rs := [.tmp 2]) (nt := 6) Tryd.func76 rfl rfl (by intro t T h; simp at h) rfl rfl fun cx hnp => ?_
 refine WP.seq ?_
 refine WP.region ?_
 refine WPL.q (q_as (v := .lit (.int _ _)) rfl) rfl ?_
 refine WPL.nilW ?_
 refine W.now ?_
 refine Then.n ?_
 refine WP.seq ?_
 refine WP.region ?_
 refine WPL.q (q_mv (v := .lit (.int _ _)) rfl) rfl ?_
 obtain ⟨x1084, h1082, H⟩ := bnd H
 refine WPL.c (runs_call (s := []) (t := []) (N := 0) (bor := []) fn83 rfl (s_math_bits_Len64 k x1041 x1084 h1082) ⟨rfl, trivial, by decide, rfl, trivial⟩ rfl trivial (.ren rfl rfl .nil) rfl trivial rfl) rfl ?_
 refine WPL.q (q_sub rfl rfl) rfl ?_
 refine WPL.q (q_as (v := .lit (.int _ _)) rfl) rfl ?_
 refine WPL.nilW ?_
 refine W.now ?_
 refine Then.n ?_
 refine WP.retW ?_
 have q0 := (Option.some.inj H)
 subst q0
 exact W.now (BodyR.mkR trivial rfl [] ⟨rfl, rfl⟩ ⟨rfl, trivial, by decide, rfl, trivial⟩ rfl rfl)
set_option maxRecDepth 100000 in
set_option maxHeartbeats 4000000 in
theorem s_math_bits_Div64 (k : Nat) (x1023 : Int) (x1024 : Int) (x1025 : Int) (x1215 : Int) (x1216 : Int) (H : g_math_bits_Div64 k x1023 x1024 x1025 = some (x1215, x1216)) : Go.Q.Spec Tryd.prog 66 0 [.lit (.int .u64 x1023), .lit (.int .u64 x1024), .lit (.int .u64 x1025)] Mem.nil (fun o M => o = .ret (.tup [.lit (.int .u64 x1215), .lit (.int .u64 x1216)]) ∧ M = Mem.nil) := by
 unfold g_math_bits_Div64 at H
 refine Go.Q.Spec.of_bodyR (az := []) (rs := [.tmp 6, .tmp 7]) (nt := 135) Tryd.func66 rfl rfl (by intro t T h; simp at h) rfl rfl fun cx hnp => ?_
 refine WP.seq ?_
 refine WP.region ?_
 refine WPL.q (q_as (v := .lit (.int _ _)) rfl) rfl ?_
 refine WPL.q (q_as (v := .lit (.int _ _)) rfl) rfl ?_
 refine WPL.nilW ?_
 refine W.now ?_
 refine Then.n ?_
 refine WP.seq ?_
 refine WP.seq ?_
 refine WP.region ?_
 refine WPL.q (q_mv (v := .lit (.int _ _)) rfl) rfl ?_
 refine WPL.q (q_eql rfl rfl) rfl ?_
 refine WPL.nilW ?_
 refine W.now ?_
 refine Then.n ?_
 refine WP.cond (t := (decide (x1025 = 0))) rfl (fun hb1217 => ?_) (fun hb1217 => ?_)
 · replace H := cnt hb1217 H
   refine WP.region ?_
   exact nf rfl H
 replace H := cnf hb1217 H
 refine WP.skipW ?_
 refine W.now ?_
 refine Then.n ?_
 refine WP.seq ?_
 refine WP.seq ?_
 refine WP.region ?_
 refine WPL.q (q_mv (v := .lit (.int _ _)) rfl) rfl ?_
 refine WPL.q (q_mv (v := .lit (.int _ _)) rfl) rfl ?_
 refine WPL.q (q_leq rfl rfl) rfl ?_
 refine WPL.nilW ?_
 refine W.now ?_
 refine Then.n ?_
 refine WP.cond (t := (decide (x1025 ≤ x1023))) rfl (fun hb1219 => ?_) (fun hb1219 => ?_)
 · replace H := cnt hb1219 H
   refine WP.region ?_
   exact nf rfl H
 replace H := cnf hb1219 H
 refine WP.skipW ?_
 refine W.now ?_
 refine Then.n ?_
 refine WP.seq ?_
 refine WP.seq ?_
 refine WP.region ?_
 refine WPL.q (q_mv (v := .lit (.int _ _)) rfl) rfl ?_
 refine WPL.q (q_eql rfl rfl) rfl ?_
 refine WPL.nilW ?_
 refine W.now ?_
 refine Then.n ?_
 refine WP.cond (t := (decide (x1023 = 0))) rfl (fun hb1225 => ?_) (fun hb1225 => ?_)
 · replace H := cnt hb1225 H
   refine WP.seq ?_
   refine WP.regionD' 8 [] [] mixed rfl ?_
   refine WPD.takeT 0 rfl (by kernel_rfl) (q_mv (v := .lit (.int _ _)) rfl) rfl ?_
   refine WPD.takeT 1 rfl (by kernel_rfl) (q_mv (v := .lit (.int _ _)) rfl) rfl ?_
   obtain ⟨h1228, H⟩ := grd H
   refine WPD.takeT 2 rfl (by kernel_rfl) (q_quo rfl rfl (bnot h1228)) rfl ?_
   refine WPD.takeT 3 rfl (by kernel_rfl) (q_mv (v := .lit (.int _ _)) rfl) rfl ?_
   refine WPD.takeT 4 rfl (by kernel_rfl) (q_mv (v := .lit (.int _ _)) rfl) rfl ?_
   obtain ⟨h1229, H⟩ := grd H
   refine WPD.takeT 5 rfl (by kernel_rfl) (q_rem rfl rfl (bnot h1229)) rfl ?_
   refine WPD.takeT 6 rfl (by kernel_rfl) (q_as (v := .lit (.int _ _)) rfl) rfl ?_
   refine WPD.takeT 7 rfl (by kernel_rfl) (q_as (v := .lit (.int _ _)) rfl) rfl ?_
   refine WPD.doneW (by kernel_rfl) ?_
   refine W.now ?_
   refine Then.n ?_
   refine WP.retW ?_
   have q0 := (Prod.mk.inj (Option.some.inj H)).1
   have q1 := (Prod.mk.inj (Option.some.inj H)).2
   subst q0
   subst q1
   exact W.now (Then.r (BodyR.mkR trivial rfl [] ⟨rfl, rfl⟩ ⟨rfl, trivial, by decide, rfl, trivial⟩ rfl rfl))
 replace H := cnf hb1225 H
 refine WP.skipW ?_
 refine W.now ?_
 refine Then.n ?_
 refine WP.seq ?_
 refine WP.region ?_
 refine WPL.q (q_mv (v := .lit (.int _ _)) rfl) rfl ?_
 obtain ⟨x1232, h1230, H⟩ := bnd H
 refine WPL.c (runs_call (s := []) (t := []) (N := 0) (bor := []) fn76 rfl (s_math_bits_LeadingZeros64 k x1025 x1232 h1230) ⟨rfl, trivial, by decide, rfl, trivial⟩ rfl trivial (.ren rfl rfl .nil) rfl trivial rfl) rfl ?_
 refine WPL.q (q_conv Tryd.underlying3 Tryd.underlying88 rfl) rfl ?_
 refine WPL.q (q_as (v := .lit (.int _ _)) rfl) rfl ?_
 refine WPL.nilW ?_
 refine W.now ?_
 refine Then.n ?_
 refine WP.seq ?_
 refine WP.region ?_
 refine WPL.q (q_mv (v := .lit (.int _ _)) rfl) rfl ?_
 refine WPL.q (q_mv (v := .lit (.int _ _)) rfl) rfl ?_
 obtain ⟨h1232, H⟩ := grd H
 obtain ⟨x1234, h1234, H⟩ := bnd H
 refine WPL.q (q_nm (q_shl rfl rfl h1232) (nm_int h1234)) rfl ?_
 refine WPL.q (q_as (v := .lit (.int _ _)) rfl) rfl ?_
 refine WPL.nilW ?_
 refine W.now ?_
 refine Then.n ?_
 refine WP.seq ?_
 refine WP.region ?_
 refine WPL.q (q_mv (v := .lit (.int _ _)) rfl) rfl ?_
 refine WPL.q (q_shr rfl rfl rfl) rfl ?_
 refine WPL.q (q_as (v := .lit (.int _ _)) rfl) rfl ?_
 refine WPL.nilW ?_
 refine W.now ?_
 refine Then.n ?_
 refine WP.seq ?_
 refine WP.region ?_
 refine WPL.q (q_mv (v := .lit (.int _ _)) rfl) rfl ?_
 refine WPL.q (q_and rfl rfl) rfl ?_
 refine WPL.q (q_as (v := .lit (.int _ _)) rfl) rfl ?_
 refine WPL.nilW ?_
 refine W.now ?_
 refine Then.n ?_
 refine WP.seq ?_
 refine WP.region ?_
 refine WPL.q (q_mv (v := .lit (.int _ _)) rfl) rfl ?_
 refine WPL.q (q_mv (v := .lit (.int _ _)) rfl) rfl ?_
 obtain ⟨h1234, H⟩ := grd H
 obtain ⟨x1236, h1236, H⟩ := bnd H
 refine WPL.q (q_nm (q_shl rfl rfl h1234) (nm_int h1236)) rfl ?_
 refine WPL.q (q_mv (v := .lit (.int _ _)) rfl) rfl ?_
 refine WPL.q (q_mv (v := .lit (.int _ _)) rfl) rfl ?_
 obtain ⟨x1237, h1237, H⟩ := bnd H
 refine WPL.q (q_nm (q_sub rfl rfl) (nm_int h1237)) rfl ?_
 obtain ⟨h1237, H⟩ := grd H
 refine WPL.q (q_shr rfl rfl h1237) rfl ?_
 refine WPL.q (q_or rfl rfl) rfl ?_
 refine WPL.q (q_as (v := .lit (.int _ _)) rfl) rfl ?_
 refine WPL.nilW ?_
 refine W.now ?_
 refine Then.n ?_
 refine WP.seq ?_
 refine WP.region ?_
 refine WPL.q (q_mv (v := .lit (.int _ _)) rfl) rfl ?_
 refine WPL.q (q_mv (v := .lit (.int _ _)) rfl) rfl ?_
 obtain ⟨h1238, H⟩ := grd H
 obtain ⟨x1240, h1240, H⟩ := bnd H
 refine WPL.q (q_nm (q_shl rfl rfl h1238) (nm_int h1240)) rfl ?_
 refine WPL.q (q_as (v := .lit (.int _ _)) rfl) rfl ?_
 refine WPL.nilW ?_
 refine W.now ?_
 refine Then.n ?_
 refine WP.seq ?_
 refine WP.region ?_
 refine WPL.q (q_mv (v := .lit (.int _ _)) rfl) rfl ?_
 refine WPL.q (q_shr rfl rfl rfl) rfl ?_
 refine WPL.q (q_as (v := .lit (.int _ _)) rfl) rfl ?_
 refine WPL.nilW ?_
 refine W.now ?_
 refine Then.n ?_
 refine WP.seq ?_
 refine WP.region ?_
 refine WPL.q (q_mv (v := .lit (.int _ _)) rfl) rfl ?_
 refine WPL.q (q_and rfl rfl) rfl ?_
 refine WPL.q (q_as (v := .lit (.int _ _)) rfl) rfl ?_
 refine WPL.nilW ?_
 refine W.now ?_
 refine Then.n ?_
 refine WP.seq ?_
 refine WP.region ?_
 refine WPL.q (q_mv (v := .lit (.int _ _)) rfl) rfl ?_
 refine WPL.q (q_mv (v := .lit (.int _ _)) rfl) rfl ?_
 obtain ⟨h1240, H⟩ := grd H
 obtain ⟨x1242, h1242, H⟩ := bnd H
 refine WPL.q (q_nm (q_quo rfl rfl (bnot h1240)) (nm_int h1242)) rfl ?_
 refine WPL.q (q_as (v := .lit (.int _ _)) rfl) rfl ?_
 refine WPL.nilW ?_
 refine W.now ?_
 refine Then.n ?_
 refine WP.seq ?_
 refine WP.region ?_
 refine WPL.q (q_mv (v := .lit (.int _ _)) rfl) rfl ?_
 refine WPL.q (q_mv (v := .lit (.int _ _)) rfl) rfl ?_
 refine WPL.q (q_mv (v := .lit (.int _ _)) rfl) rfl ?_
 obtain ⟨x1243, h1243, H⟩ := bnd H
 refine WPL.q (q_nm (q_mul rfl rfl) (nm_int h1243)) rfl ?_
 obtain ⟨x1244, h1244, H⟩ := bnd H
 refine WPL.q (q_nm (q_sub rfl rfl) (nm_int h1244)) rfl ?_
 refine WPL.q (q_as (v := .lit (.int _ _)) rfl) rfl ?_
 refine WPL.nilW ?_
 refine W.now ?_
 refine Then.n ?_
 refine WP.seq ?_
 refine WP.block ?_
 refine WP.cv (Cv.weak (E' := (((((((((Env.none.upd 2 (.lit (.int .u64 x1234))).upd 8 (.lit (.int .u64 (IntKind.wrap .u64 x1232)))).upd 9 (.lit (.int .u64 (shrI .u64 x1234 32)))).upd 10 (.lit (.int .u64 (bits .and .u64 x1234 4294967295)))).upd 11 (.lit (.int .u64 (bits .or .u64 x1236 (shrI .u64 x1024 x1237))))).upd 13 (.lit (.int .u64 (shrI .u64 x1240 32)))).upd 14 (.lit (.int .u64 (bits .and .u64 x1240 4294967295)))).upd 15 (.lit (.int .u64 x1242))).upd 16 (.lit (.int .u64 x1244)))) (M' := Mem.nil) [] hnp ⟨rfl, trivial, by decide, rfl, trivial⟩ (LeE.upd rfl rfl (LeE.upd rfl rfl (LeE.upd rfl rfl (LeE.upd rfl rfl (LeE.upd rfl rfl (LeE.upd rfl rfl (LeE.upd rfl rfl (LeE.upd rfl rfl (LeE.upd rfl rfl (LeE.none rfl rfl))))))))))) ?_
 obtain ⟨x1295, H1319, H⟩ := bnd H
 refine WP.monoW (Q := fun x E M => x = .exit 0 ∧ E = ((((((((Env.none.upd 2 (.lit (.int .u64 x1234))).upd 8 (.lit (.int .u64 (IntKind.wrap .u64 x1232)))).upd 9 (.lit (.int .u64 (shrI .u64 x1234 32)))).upd 10 (.lit (.int .u64 (bits .and .u64 x1234 4294967295)))).upd 11 (.lit (.int .u64 (bits .or .u64 x1236 (shrI .u64 x1024 x1237))))).upd 13 (.lit (.int .u64 (shrI .u64 x1240 32)))).upd 14 (.lit (.int .u64 (bits .and .u64 x1240 4294967295)))).upd 15 (.lit (.int .u64 x1295))) ∧ M = Mem.nil) ?_ ?_
 · refine WP.loop (β := Int × Int) (fun n b => g_math_bits_Div64_l0 k x1234 x1240 n b.1 b.2 = some x1295) (fun b => (((((((((Env.none.upd 2 (.lit (.int .u64 x1234))).upd 8 (.lit (.int .u64 (IntKind.wrap .u64 x1232)))).upd 9 (.lit (.int .u64 (shrI .u64 x1234 32)))).upd 10 (.lit (.int .u64 (bits .and .u64 x1234 4294967295)))).upd 11 (.lit (.int .u64 (bits .or .u64 x1236 (shrI .u64 x1024 x1237))))).upd 13 (.lit (.int .u64 (shrI .u64 x1240 32)))).upd 14 (.lit (.int .u64 (bits .and .u64 x1240 4294967295)))).upd 15 (.lit (.int .u64 b.1))).upd 16 (.lit (.int .u64 b.2)))) (fun b => Mem.nil) k (x1242, x1244) H1319 rfl rfl ?_
   rintro n ⟨x1269, x1270⟩ H
   obtain _ | n := n
   · exact nf rfl H
   rw [g_math_bits_Div64_l0.eq_2] at H
   show WP _ _ _ _ (((((((((Env.none.upd 2 (.lit (.int .u64 x1234))).upd 8 (.lit (.int .u64 (IntKind.wrap .u64 x1232)))).upd 9 (.lit (.int .u64 (shrI .u64 x1234 32)))).upd 10 (.lit (.int .u64 (bits .and .u64 x1234 4294967295)))).upd 11 (.lit (.int .u64 (bits .or .u64 x1236 (shrI .u64 x1024 x1237))))).upd 13 (.lit (.int .u64 (shrI .u64 x1240 32)))).upd 14 (.lit (.int .u64 (bits .and .u64 x1240 4294967295)))).upd 15 (.lit (.int .u64 x1269))).upd 16 (.lit (.int .u64 x1270))) Mem.nil _
   refine WP.seq ?_
   refine WP.seq ?_
   obtain ⟨x1311, H1315, H⟩ := bnd H
   refine WP.monoW (Q := fun x E M => x = .normal ∧ E = ((((((((((Env.none.upd 2 (.lit (.int .u64 x1234))).upd 8 (.lit (.int .u64 (IntKind.wrap .u64 x1232)))).upd 9 (.lit (.int .u64 (shrI .u64 x1234 32)))).upd 10 (.lit (.int .u64 (bits .and .u64 x1234 4294967295)))).upd 11 (.lit (.int .u64 (bits .or .u64 x1236 (shrI .u64 x1024 x1237))))).upd 13 (.lit (.int .u64 (shrI .u64 x1240 32)))).upd 14 (.lit (.int .u64 (bits .and .u64 x1240 4294967295)))).upd 15 (.lit (.int .u64 x1269))).upd 16 (.lit (.int .u64 x1270))).upd 78 (.lit (.bool x1311))) ∧ M = Mem.nil) ?_ ?_
   · clear H
     have H := H1315
     clear H1315
     refine WP.region ?_
     refine WPL.q (q_mv (v := .lit (.int _ _)) rfl) rfl ?_
     refine WPL.q (q_geq rfl rfl) rfl ?_
     refine WPL.q (q_mv (v := .lit (.bool _)) rfl) rfl ?_
     refine WPL.split (t := 69) (b := (decide (4294967296 ≤ x1269))) rfl (fun hb1311 => ?_) (fun hb1311 => ?_)
     · replace H := cnt hb1311 H
       refine WPL.skipg (b' := true) rfl rfl (lb hb1311) rfl rfl ?_
       refine WPL.skipg (b' := true) rfl rfl (lb hb1311) rfl rfl ?_
       refine WPL.skipg (b' := true) rfl rfl (lb hb1311) rfl rfl ?_
       refine WPL.skipg (b' := true) rfl rfl (lb hb1311) rfl rfl ?_
       refine WPL.skipg (b' := true) rfl rfl (lb hb1311) rfl rfl ?_
       refine WPL.skipg (b' := true) rfl rfl (lb hb1311) rfl rfl ?_
       refine WPL.skipg (b' := true) rfl rfl (lb hb1311) rfl rfl ?_
       refine WPL.skipg (b' := true) rfl rfl (lb hb1311) rfl rfl ?_
       refine WPL.q (q_pickT (v := .lit (.bool _)) (lb hb1311) rfl) rfl ?_
       refine WPL.nilW ?_
       have q0 := (Option.some.inj H)
       subst q0
       exact W.wk [] hnp ⟨rfl, rfl, rfl⟩ ⟨rfl, trivial, by decide, rfl, trivial⟩ (LeE.upd rfl rfl (LeE.upd rfl rfl (LeE.upd rfl rfl (LeE.upd rfl rfl (LeE.upd rfl rfl (LeE.upd rfl rfl (LeE.upd rfl rfl (LeE.upd rfl rfl (LeE.upd rfl rfl (LeE.upd rfl rfl (LeE.none rfl rfl))))))))))) rfl
     replace H := cnf hb1311 H
     refine WPL.qg rfl rfl (lb hb1311) (q_mv (v := .lit (.int _ _)) rfl) rfl ?_
     refine WPL.qg rfl rfl (lb hb1311) (q_mv (v := .lit (.int _ _)) rfl) rfl ?_
     obtain ⟨x1313, h1313, H⟩ := bnd H
     refine WPL.qg rfl rfl (lb hb1311) (q_nm (q_mul rfl rfl) (nm_int h1313)) rfl ?_
     refine WPL.qg rfl rfl (lb hb1311) (q_mv (v := .lit (.int _ _)) rfl) rfl ?_
     obtain ⟨x1314, h1314, H⟩ := bnd H
     refine WPL.qg rfl rfl (lb hb1311) (q_nm (q_mul rfl rfl) (nm_int h1314)) rfl ?_
     refine WPL.qg rfl rfl (lb hb1311) (q_mv (v := .lit (.int _ _)) rfl) rfl ?_
     obtain ⟨x1315, h1315, H⟩ := bnd H
     refine WPL.qg rfl rfl (lb hb1311) (q_nm (q_add rfl rfl) (nm_int h1315)) rfl ?_
     refine WPL.qg rfl rfl (lb hb1311) (q_gtr rfl rfl) rfl ?_
     refine WPL.q (q_pickF (v := .lit (.bool _)) (lb hb1311) rfl) rfl ?_
     refine WPL.nilW ?_
     have q0 := (Option.some.inj H)
     subst q0
     exact W.wk [] hnp ⟨rfl, rfl, rfl⟩ ⟨rfl, trivial, by decide, rfl, trivial⟩ (LeE.upd rfl rfl (LeE.upd rfl rfl (LeE.upd rfl rfl (LeE.upd rfl rfl (LeE.upd rfl rfl (LeE.upd rfl rfl (LeE.upd rfl rfl (LeE.upd rfl rfl (LeE.upd rfl rfl (LeE.upd rfl rfl (LeE.none rfl rfl))))))))))) rfl
   rintro _ _ _ ⟨rfl, rfl, rfl⟩
   refine W.now ?_
   refine Then.n ?_
   refine WP.cond (t := x1311) rfl (fun hb1316 => ?_) (fun hb1316 => ?_)
   · replace H := cnt hb1316 H
     refine WP.skipW ?_
     refine W.now ?_
     refine Then.n ?_
     refine WP.block ?_
     refine WP.seq ?_
     refine WP.region ?_
     refine WPL.q (q_mv (v := .lit (.int _ _)) rfl) rfl ?_
     refine WPL.q (q_sub rfl rfl) rfl ?_
     refine WPL.q (q_as (v := .lit (.int _ _)) rfl) rfl ?_
     refine WPL.nilW ?_
     refine W.now ?_
     refine Then.n ?_
     refine WP.seq ?_
     refine WP.region ?_
     refine WPL.q (q_mv (v := .lit (.int _ _)) rfl) rfl ?_
     refine WPL.q (q_mv (v := .lit (.int _ _)) rfl) rfl ?_
     obtain ⟨x1318, h1318, H⟩ := bnd H
     refine WPL.q (q_nm (q_add rfl rfl) (nm_int h1318)) rfl ?_
     refine WPL.q (q_as (v := .lit (.int _ _)) rfl) rfl ?_
     refine WPL.nilW ?_
     refine W.now ?_
     refine Then.n ?_
     refine WP.seq ?_
     refine WP.region ?_
     refine WPL.q (q_mv (v := .lit (.int _ _)) rfl) rfl ?_
     refine WPL.q (q_geq rfl rfl) rfl ?_
     refine WPL.nilW ?_
     refine W.now ?_
     refine Then.n ?_
     refine WP.cond (t := (decide (4294967296 ≤ x1318))) rfl (fun hb1318 => ?_) (fun hb1318 => ?_)
     · replace H := cnt hb1318 H
       refine WP.exitW ?_
       have q0 := (Option.some.inj H)
       subst q0
       exact W.wk [] hnp (InBlock.x rfl (Then.x ⟨rfl, rfl, rfl⟩)) ⟨rfl, trivial, by decide, rfl, trivial⟩ (LeE.upd rfl rfl (LeE.upd rfl rfl (LeE.upd rfl rfl (LeE.upd rfl rfl (LeE.upd rfl rfl (LeE.upd rfl rfl (LeE.upd rfl rfl (LeE.upd rfl rfl (LeE.none rfl rfl))))))))) rfl
     replace H := cnf hb1318 H
     refine WP.skipW ?_
     exact W.wk [] hnp (InBlock.n (Then.n ⟨n, ((IntKind.wrap .u64 (x1269 - 1)), x1318), Nat.lt_succ_self n, H, rfl, rfl⟩)) ⟨rfl, trivial, by decide, rfl, trivial⟩ (LeE.upd rfl rfl (LeE.upd rfl rfl (LeE.upd rfl rfl (LeE.upd rfl rfl (LeE.upd rfl rfl (LeE.upd rfl rfl (LeE.upd rfl rfl (LeE.upd rfl rfl (LeE.upd rfl rfl (LeE.none rfl rfl)))))))))) rfl
   replace H := cnf hb1316 H
   refine WP.exitW ?_
   have q0 := (Option.some.inj H)
   subst q0
   exact W.wk [] hnp (Then.x (Then.x ⟨rfl, rfl, rfl⟩)) ⟨rfl, trivial, by decide, rfl, trivial⟩ (LeE.upd rfl rfl (LeE.upd rfl rfl (LeE.upd rfl rfl (LeE.upd rfl rfl (LeE.upd rfl rfl (LeE.upd rfl rfl (LeE.upd rfl rfl (LeE.upd rfl rfl (LeE.none rfl rfl))))))))) rfl
 rintro _ _ _ ⟨rfl, rfl, rfl⟩
 refine W.now ?_
 refine InBlock.x0 ?_
 refine Then.n ?_
 refine WP.seq ?_
 refine WP.region ?_
 refine WPL.q (q_mv (v := .lit (.int _ _)) rfl) rfl ?_
 obtain ⟨x1321, h1321, H⟩ := bnd H
 refine WPL.q (q_nm (q_mul rfl rfl) (nm_int h1321)) rfl ?_
 refine WPL.q (q_mv (v := .lit (.int _ _)) rfl) rfl ?_
 obtain ⟨x1322, h1322, H⟩ := bnd H
 refine WPL.q (q_nm (q_add rfl rfl) (nm_int h1322)) rfl ?_
 refine WPL.q (q_mv (v := .lit (.int _ _)) rfl) rfl ?_
 refine WPL.q (q_mv (v := .lit (.int _ _)) rfl) rfl ?_
 refine WPL.q (q_mul rfl rfl) rfl ?_
 obtain ⟨x1323, h1323, H⟩ := bnd H
 refine WPL.q (q_nm (q_sub rfl rfl) (nm_int h1323)) rfl ?_
 refine WPL.q (q_as (v := .lit (.int _ _)) rfl) rfl ?_
 refine WPL.nilW ?_
 refine W.now ?_
 refine Then.n ?_
 refine WP.seq ?_
 refine WP.region ?_
 refine WPL.q (q_mv (v := .lit (.int _ _)) rfl) rfl ?_
 refine WPL.q (q_mv (v := .lit (.int _ _)) rfl) rfl ?_
 obtain ⟨h1323, H⟩ := grd H
 obtain ⟨x1325, h1325, H⟩ := bnd H
 refine WPL.q (q_nm (q_quo rfl rfl (bnot h1323)) (nm_int h1325)) rfl ?_
 refine WPL.q (q_as (v := .lit (.int _ _)) rfl) rfl ?_
 refine WPL.nilW ?_
 refine W.now ?_
 refine Then.n ?_
 refine WP.seq ?_
 refine WP.region ?_
 refine WPL.q (q_mv (v := .lit (.int _ _)) rfl) rfl ?_
 refine WPL.q (q_mv (v := .lit (.int _ _)) rfl) rfl ?_
 refine WPL.q (q_mv (v := .lit (.int _ _)) rfl) rfl ?_
 obtain ⟨x1326, h1326, H⟩ := bnd H
 refine WPL.q (q_nm (q_mul rfl rfl) (nm_int h1326)) rfl ?_
 refine WPL.q (q_sub rfl rfl) rfl ?_
 refine WPL.q (q_as (v := .lit (.int _ _)) rfl) rfl ?_
 refine WPL.nilW ?_
 refine W.now ?_
 refine Then.n ?_
 refine WP.seq ?_
 refine WP.block ?_
 refine WP.cv (Cv.weak (E' := (((((((((Env.none.upd 2 (.lit (.int .u64 x1234))).upd 8 (.lit (.int .u64 (IntKind.wrap .u64 x1232)))).upd 9 (.lit (.int .u64 (shrI .u64 x1234 32)))).upd 10 (.lit (.int .u64 (bits .and .u64 x1234 4294967295)))).upd 14 (.lit (.int .u64 (bits .and .u64 x1240 4294967295)))).upd 15 (.lit (.int .u64 x1295))).upd 16 (.lit (.int .u64 (IntKind.wrap .u64 (x1323 - x1326))))).upd 17 (.lit (.int .u64 x1323))).upd 18 (.lit (.int .u64 x1325)))) (M' := Mem.nil) [] hnp ⟨rfl, trivial, by decide, rfl, trivial⟩ (LeE.upd rfl rfl (LeE.upd rfl rfl (LeE.upd rfl rfl (LeE.upd rfl rfl (LeE.upd rfl rfl (LeE.upd rfl rfl (LeE.upd rfl rfl (LeE.upd rfl rfl (LeE.upd rfl rfl (LeE.none rfl rfl))))))))))) ?_
 obtain ⟨x1377, H1401, H⟩ := bnd H
 refine WP.monoW (Q := fun x E M => x = .exit 2 ∧ E = ((((((Env.none.upd 2 (.lit (.int .u64 x1234))).upd 8 (.lit (.int .u64 (IntKind.wrap .u64 x1232)))).upd 14 (.lit (.int .u64 (bits .and .u64 x1240 4294967295)))).upd 15 (.lit (.int .u64 x1295))).upd 17 (.lit (.int .u64 x1323))).upd 18 (.lit (.int .u64 x1377))) ∧ M = Mem.nil) ?_ ?_
 · refine WP.loop (β := Int × Int) (fun n b => g_math_bits_Div64_l1 k x1234 x1240 n b.1 b.2 = some x1377) (fun b => (((((((((Env.none.upd 2 (.lit (.int .u64 x1234))).upd 8 (.lit (.int .u64 (IntKind.wrap .u64 x1232)))).upd 9 (.lit (.int .u64 (shrI .u64 x1234 32)))).upd 10 (.lit (.int .u64 (bits .and .u64 x1234 4294967295)))).upd 14 (.lit (.int .u64 (bits .and .u64 x1240 4294967295)))).upd 15 (.lit (.int .u64 x1295))).upd 16 (.lit (.int .u64 b.1))).upd 17 (.lit (.int .u64 x1323))).upd 18 (.lit (.int .u64 b.2)))) (fun b => Mem.nil) k ((IntKind.wrap .u64 (x1323 - x1326)), x1325) H1401 rfl rfl ?_
   rintro n ⟨x1351, x1352⟩ H
   obtain _ | n := n
   · exact nf rfl H
   rw [g_math_bits_Div64_l1.eq_2] at H
   show WP _ _ _ _ (((((((((Env.none.upd 2 (.lit (.int .u64 x1234))).upd 8 (.lit (.int .u64 (IntKind.wrap .u64 x1232)))).upd 9 (.lit (.int .u64 (shrI .u64 x1234 32)))).upd 10 (.lit (.int .u64 (bits .and .u64 x1234 4294967295)))).upd 14 (.lit (.int .u64 (bits .and .u64 x1240 4294967295)))).upd 15 (.lit (.int .u64 x1295))).upd 16 (.lit (.int .u64 x1351))).upd 17 (.lit (.int .u64 x1323))).upd 18 (.lit (.int .u64 x1352))) Mem.nil _
   refine WP.seq ?_
   refine WP.seq ?_
   obtain ⟨x1393, H1397, H⟩ := bnd H
   refine WP.monoW (Q := fun x E M => x = .normal ∧ E = ((((((((((Env.none.upd 2 (.lit (.int .u64 x1234))).upd 8 (.lit (.int .u64 (IntKind.wrap .u64 x1232)))).upd 9 (.lit (.int .u64 (shrI .u64 x1234 32)))).upd 10 (.lit (.int .u64 (bits .and .u64 x1234 4294967295)))).upd 14 (.lit (.int .u64 (bits .and .u64 x1240 4294967295)))).upd 15 (.lit (.int .u64 x1295))).upd 16 (.lit (.int .u64 x1351))).upd 17 (.lit (.int .u64 x1323))).upd 18 (.lit (.int .u64 x1352))).upd 113 (.lit (.bool x1393))) ∧ M = Mem.nil) ?_ ?_
   · clear H
     have H := H1397
     clear H1397
     refine WP.region ?_
     refine WPL.q (q_mv (v := .lit (.int _ _)) rfl) rfl ?_
     refine WPL.q (q_geq rfl rfl) rfl ?_
     refine WPL.q (q_mv (v := .lit (.bool _)) rfl) rfl ?_
     refine WPL.split (t := 104) (b := (decide (4294967296 ≤ x1352))) rfl (fun hb1393 => ?_) (fun hb1393 => ?_)
     · replace H := cnt hb1393 H
       refine WPL.skipg (b' := true) rfl rfl (lb hb1393) rfl rfl ?_
       refine WPL.skipg (b' := true) rfl rfl (lb hb1393) rfl rfl ?_
       refine WPL.skipg (b' := true) rfl rfl (lb hb1393) rfl rfl ?_
       refine WPL.skipg (b' := true) rfl rfl (lb hb1393) rfl rfl ?_
       refine WPL.skipg (b' := true) rfl rfl (lb hb1393) rfl rfl ?_
       refine WPL.skipg (b' := true) rfl rfl (lb hb1393) rfl rfl ?_
       refine WPL.skipg (b' := true) rfl rfl (lb hb1393) rfl rfl ?_
       refine WPL.skipg (b' := true) rfl rfl (lb hb1393) rfl rfl ?_
       refine WPL.q (q_pickT (v := .lit (.bool _)) (lb hb1393) rfl) rfl ?_
       refine WPL.nilW ?_
       have q0 := (Option.some.inj H)
       subst q0
       exact W.wk [] hnp ⟨rfl, rfl, rfl⟩ ⟨rfl, trivial, by decide, rfl, trivial⟩ (LeE.upd rfl rfl (LeE.upd rfl rfl (LeE.upd rfl rfl (LeE.upd rfl rfl (LeE.upd rfl rfl (LeE.upd rfl rfl (LeE.upd rfl rfl (LeE.upd rfl rfl (LeE.upd rfl rfl (LeE.upd rfl rfl (LeE.none rfl rfl))))))))))) rfl
     replace H := cnf hb1393 H
     refine WPL.qg rfl rfl (lb hb1393) (q_mv (v := .lit (.int _ _)) rfl) rfl ?_
     refine WPL.qg rfl rfl (lb hb1393) (q_mv (v := .lit (.int _ _)) rfl) rfl ?_
     obtain ⟨x1395, h1395, H⟩ := bnd H
     refine WPL.qg rfl rfl (lb hb1393) (q_nm (q_mul rfl rfl) (nm_int h1395)) rfl ?_
     refine WPL.qg rfl rfl (lb hb1393) (q_mv (v := .lit (.int _ _)) rfl) rfl ?_
     obtain ⟨x1396, h1396, H⟩ := bnd H
     refine WPL.qg rfl rfl (lb hb1393) (q_nm (q_mul rfl rfl) (nm_int h1396)) rfl ?_
     refine WPL.qg rfl rfl (lb hb1393) (q_mv (v := .lit (.int _ _)) rfl) rfl ?_
     obtain ⟨x1397, h1397, H⟩ := bnd H
     refine WPL.qg rfl rfl (lb hb1393) (q_nm (q_add rfl rfl) (nm_int h1397)) rfl ?_
     refine WPL.qg rfl rfl (lb hb1393) (q_gtr rfl rfl) rfl ?_
     refine WPL.q (q_pickF (v := .lit (.bool _)) (lb hb1393) rfl) rfl ?_
     refine WPL.nilW ?_
     have q0 := (Option.some.inj H)
     subst q0
     exact W.wk [] hnp ⟨rfl, rfl, rfl⟩ ⟨rfl, trivial, by decide, rfl, trivial⟩ (LeE.upd rfl rfl (LeE.upd rfl rfl (LeE.upd rfl rfl (LeE.upd rfl rfl (LeE.upd rfl rfl (LeE.upd rfl rfl (LeE.upd rfl rfl (LeE.upd rfl rfl (LeE.upd rfl rfl (LeE.upd rfl rfl (LeE.none rfl rfl))))))))))) rfl
   rintro _ _ _ ⟨rfl, rfl, rfl⟩
   refine W.now ?_
   refine Then.n ?_
   refine WP.cond (t := x1393) rfl (fun hb1398 => ?_) (fun hb1398 => ?_)
   · replace H := cnt hb1398 H
     refine WP.skipW ?_
     refine W.now ?_
     refine Then.n ?_
     refine WP.block ?_
     refine WP.seq ?_
     refine WP.region ?_
     refine WPL.q (q_mv (v := .lit (.int _ _)) rfl) rfl ?_
     refine WPL.q (q_sub rfl rfl) rfl ?_
     refine WPL.q (q_as (v := .lit (.int _ _)) rfl) rfl ?_
     refine WPL.nilW ?_
     refine W.now ?_
     refine Then.n ?_
     refine WP.seq ?_
     refine WP.region ?_
     refine WPL.q (q_mv (v := .lit (.int _ _)) rfl) rfl ?_
     refine WPL.q (q_mv (v := .lit (.int _ _)) rfl) rfl ?_
     obtain ⟨x1400, h1400, H⟩ := bnd H
     refine WPL.q (q_nm (q_add rfl rfl) (nm_int h1400)) rfl ?_
     refine WPL.q (q_as (v := .lit (.int _ _)) rfl) rfl ?_
     refine WPL.nilW ?_
     refine W.now ?_
     refine Then.n ?_
     refine WP.seq ?_
     refine WP.region ?_
     refine WPL.q (q_mv (v := .lit (.int _ _)) rfl) rfl ?_
     refine WPL.q (q_geq rfl rfl) rfl ?_
     refine WPL.nilW ?_
     refine W.now ?_
     refine Then.n ?_
     refine WP.cond (t := (decide (4294967296 ≤ x1400))) rfl (fun hb1400 => ?_) (fun hb1400 => ?_)
     · replace H := cnt hb1400 H
       refine WP.exitW ?_
       have q0 := (Option.some.inj H)
       subst q0
       exact W.wk [] hnp (InBlock.x rfl (Then.x ⟨rfl, rfl, rfl⟩)) ⟨rfl, trivial, by decide, rfl, trivial⟩ (LeE.upd rfl rfl (LeE.upd rfl rfl (LeE.upd rfl rfl (LeE.upd rfl rfl (LeE.upd rfl rfl (LeE.upd rfl rfl (LeE.none rfl rfl))))))) rfl
     replace H := cnf hb1400 H
     refine WP.skipW ?_
     exact W.wk [] hnp (InBlock.n (Then.n ⟨n, (x1400, (IntKind.wrap .u64 (x1352 - 1))), Nat.lt_succ_self n, H, rfl, rfl⟩)) ⟨rfl, trivial, by decide, rfl, trivial⟩ (LeE.upd rfl rfl (LeE.upd rfl rfl (LeE.upd rfl rfl (LeE.upd rfl rfl (LeE.upd rfl rfl (LeE.upd rfl rfl (LeE.upd rfl rfl (LeE.upd rfl rfl (LeE.upd rfl rfl (LeE.none rfl rfl)))))))))) rfl
   replace H := cnf hb1398 H
   refine WP.exitW ?_
   have q0 := (Option.some.inj H)
   subst q0
   exact W.wk [] hnp (Then.x (Then.x ⟨rfl, rfl, rfl⟩)) ⟨rfl, trivial, by decide, rfl, trivial⟩ (LeE.upd rfl rfl (LeE.upd rfl rfl (LeE.upd rfl rfl (LeE.upd rfl rfl (LeE.upd rfl rfl (LeE.upd rfl rfl (LeE.none rfl rfl))))))) rfl
 rintro _ _ _ ⟨rfl, rfl, rfl⟩
 refine W.now ?_
 refine InBlock.x0 ?_
 refine Then.n ?_
 refine WP.seq ?_
 refine WP.region ?_
 refine WPL.q (q_mv (v := .lit (.int _ _)) rfl) rfl ?_
 obtain ⟨x1403, h1403, H⟩ := bnd H
 refine WPL.q (q_nm (q_mul rfl rfl) (nm_int h1403)) rfl ?_
 refine WPL.q (q_mv (v := .lit (.int _ _)) rfl) rfl ?_
 refine WPL.q (q_add rfl rfl) rfl ?_
 refine WPL.q (q_mv (v := .lit (.int _ _)) rfl) rfl ?_
 obtain ⟨x1404, h1404, H⟩ := bnd H
 refine WPL.q (q_nm (q_mul rfl rfl) (nm_int h1404)) rfl ?_
 refine WPL.q (q_mv (v := .lit (.int _ _)) rfl) rfl ?_
 obtain ⟨x1405, h1405, H⟩ := bnd H
 refine WPL.q (q_nm (q_add rfl rfl) (nm_int h1405)) rfl ?_
 refine WPL.q (q_mv (v := .lit (.int _ _)) rfl) rfl ?_
 refine WPL.q (q_mv (v := .lit (.int _ _)) rfl) rfl ?_
 refine WPL.q (q_mul rfl rfl) rfl ?_
 obtain ⟨x1406, h1406, H⟩ := bnd H
 refine WPL.q (q_nm (q_sub rfl rfl) (nm_int h1406)) rfl ?_
 refine WPL.q (q_mv (v := .lit (.int _ _)) rfl) rfl ?_
 obtain ⟨h1406, H⟩ := grd H
 obtain ⟨x1408, h1408, H⟩ := bnd H
 refine WPL.q (q_nm (q_shr rfl rfl h1406) (nm_int h1408)) rfl ?_
 refine WPL.q (q_as (v := .lit (.int _ _)) rfl) rfl ?_
 refine WPL.q (q_as (v := .lit (.int _ _)) rfl) rfl ?_
 refine WPL.nilW ?_
 refine W.now ?_
 refine Then.n ?_
 refine WP.retW ?_
 have q0 := (Prod.mk.inj (Option.some.inj H)).1
 have q1 := (Prod.mk.inj (Option.some.inj H)).2
 subst q0
 subst q1
 exact W.now (BodyR.mkR trivial rfl [] ⟨rfl, rfl⟩ ⟨rfl, trivial, by decide, rfl, trivial⟩ rfl rfl)
set_option maxRecDepth 100000 in
set_option maxHeartbeats 4000000 in
theorem s_dec_wide_by (k : Nat) (x1019 : Int) (x1020 : Int) (x1021 : Int) (x1415 : Int) (x1416 : Int) (x1417 : Int) (H : g_dec_wide_by k x1019 x1020 x1021 = some (x1415, x1416, x1417)) : Go.Q.Spec Tryd.prog 44 0 [.agg [.lit (.int .u64 x1019), .lit (.int .u64 x1020)], .lit (.int .u64 x1021)] Mem.nil (fun o M => o = .ret (.tup [.agg [.lit (.int .u64 x1416), .lit (.int .u64 x1417)], .lit (.int .u64 x1415)]) ∧ M = (Mem.nil.push (.cells 43 [.lit (.int .u64 x1416), .lit (.int .u64 x1417)]))) := by
 unfold g_dec_wide_by at H
 refine Go.Q.Spec.of_bodyR (az := [(43, 2)]) (rs := [.cell 4 43, .tmp 5]) (nt := 28) Tryd.func44 rfl rfl (by intro t T h; simp at h; rcases h with ⟨rfl, rfl⟩ <;> first | exact ag43) rfl rfl fun cx hnp => ?_
 refine WP.seq ?_
 refine WP.region ?_
 refine WPL.d (d_box rfl rfl) rfl ?_
 refine WPL.d (d_alloc ze43 rfl) rfl ?_
 refine WPL.q (q_as (v := .lit (.int _ _)) rfl) rfl ?_
 refine WPL.nilW ?_
 refine W.now ?_
 refine Then.n ?_
 refine WP.seq ?_
 refine WP.region ?_
 refine WPL.q (q_fieldAddr fi43_0 rfl rfl) rfl ?_
 refine WPL.q (q_load sc41 rfl rfl rfl) rfl ?_
 refine WPL.q (q_mv (v := .lit (.int _ _)) rfl) rfl ?_
 obtain ⟨⟨x1419, x1420⟩, h1417, H⟩ := bnd H
 refine WPL.c (runs_call (s := []) (t := []) (N := 2) (bor := []) fn66 rfl (s_math_bits_Div64 k 0 x1019 x1021 x1419 x1420 h1417) ⟨rfl, trivial, by decide, rfl, trivial⟩ rfl trivial (.ren rfl rfl (.ren rfl rfl (.ren rfl rfl .nil))) rfl trivial rfl) rfl ?_
 refine WPL.q (q_mv (v := .tup _) rfl) rfl ?_
 refine WPL.q (q_extract rfl rfl) rfl ?_
 refine WPL.q (q_extract rfl rfl) rfl ?_
 refine WPL.q (q_as (v := .lit (.int _ _)) rfl) rfl ?_
 refine WPL.q (q_as (v := .lit (.int _ _)) rfl) rfl ?_
 refine WPL.nilW ?_
 refine W.now ?_
 refine Then.n ?_
 refine WP.seq ?_
 refine WP.region ?_
 refine WPL.q (q_mv (v := .lit (.int _ _)) rfl) rfl ?_
 refine WPL.q (q_fieldAddr fi43_1 rfl rfl) rfl ?_
 refine WPL.q (q_load sc41 rfl rfl rfl) rfl ?_
 refine WPL.q (q_mv (v := .lit (.int _ _)) rfl) rfl ?_
 obtain ⟨⟨x1422, x1423⟩, h1420, H⟩ := bnd H
 refine WPL.c (runs_call (s := []) (t := []) (N := 2) (bor := []) fn66 rfl (s_math_bits_Div64 k x1420 x1020 x1021 x1422 x1423 h1420) ⟨rfl, trivial, by decide, rfl, trivial⟩ rfl trivial (.ren rfl rfl (.ren rfl rfl (.ren rfl rfl .nil))) rfl trivial rfl) rfl ?_
 refine WPL.q (q_mv (v := .tup _) rfl) rfl ?_
 refine WPL.q (q_extract rfl rfl) rfl ?_
 refine WPL.q (q_extract rfl rfl) rfl ?_
 refine WPL.q (q_as (v := .lit (.int _ _)) rfl) rfl ?_
 refine WPL.q (q_as (v := .lit (.int _ _)) rfl) rfl ?_
 refine WPL.nilW ?_
 refine W.now ?_
 refine Then.n ?_
 refine WP.seq ?_
 refine WP.region ?_
 refine WPL.q (q_mv (v := .lit (.int _ _)) rfl) rfl ?_
 refine WPL.q (q_mv (v := .lit (.int _ _)) rfl) rfl ?_
 refine WPL.q (q_build bu43 rfl) rfl ?_
 refine WPL.q (q_mv (v := .lit (.int _ _)) rfl) rfl ?_
 refine WPL.s (s_store sz43 rfl rfl rfl rfl rfl) ?_
 refine WPL.q (q_as (v := .lit (.int _ _)) rfl) rfl ?_
 refine WPL.nilW ?_
 refine W.now ?_
 refine Then.n ?_
 refine WP.retW ?_
 have q0 := (Prod.mk.inj (Option.some.inj H)).1
 have q1 := (Prod.mk.inj (Prod.mk.inj (Option.some.inj H)).2).1
 have q2 := (Prod.mk.inj (Prod.mk.inj (Option.some.inj H)).2).2
 subst q0
 subst q1
 subst q2
 exact W.now (BodyR.mkR trivial rfl [1] ⟨rfl, rfl⟩ ⟨rfl, ⟨trivial, .inr ⟨rfl, rfl, rfl⟩⟩, by decide, rfl, trivial⟩ rfl rfl)
set_option maxRecDepth 100000 in
set_option maxHeartbeats 4000000 in
theorem s_dec_wide_tens (k : Nat) (x1452 : Int) (x1453 : Int) (x1454 : Int) (x1510 : Bool) (x1511 : Int) (x1512 : Int) (H : g_dec_wide_tens k x1452 x1453 x1454 = some (x1510, x1511, x1512)) : Go.Q.Spec Tryd.prog 45 0 [.agg [.lit (.int .u64 x1452), .lit (.int .u64 x1453)], .lit (.int .i64 x1454)] Mem.nil (fun o M => o = .ret (.tup [.agg [.lit (.int .u64 x1511), .lit (.int .u64 x1512)], .lit (.bool x1510)]) ∧ M = (Mem.nil.push (.cells 43 [.lit (.int .u64 x1511), .lit (.int .u64 x1512)]))) := by
 unfold g_dec_wide_tens at H
 refine Go.Q.Spec.of_bodyR (az := [(43, 2)]) (rs := [.cell 4 43, .tmp 5]) (nt := 28) Tryd.func45 rfl rfl (by intro t T h; simp at h; rcases h with ⟨rfl, rfl⟩ <;> first | exact ag43) rfl rfl fun cx hnp => ?_
 refine WP.seq ?_
 refine WP.region ?_
 refine WPL.d (d_box rfl rfl) rfl ?_
 refine WPL.d (d_alloc ze43 rfl) rfl ?_
 refine WPL.q (q_as (v := .lit (.bool _)) rfl) rfl ?_
 refine WPL.nilW ?_
 refine W.now ?_
 refine Then.n ?_
 refine WP.seq ?_
 refine WP.region ?_
 refine WPL.q (q_as (v := .lit (.bool _)) rfl) rfl ?_
 refine WPL.nilW ?_
 refine W.now ?_
 refine Then.n ?_
 refine WP.seq ?_
 refine WP.seq ?_
 refine WP.region ?_
 refine WPL.q (q_as (v := .lit (.int _ _)) rfl) rfl ?_
 refine WPL.nilW ?_
 refine W.now ?_
 refine Then.n ?_
 refine WP.block ?_
 refine WP.cv (Cv.weak (E' := (((((Env.none.upd 1 (.lit (.int .i64 x1454))).upd 2 (.ptr 0 0)).upd 4 (.ptr 1 0)).upd 6 (.lit (.bool true))).upd 7 (.lit (.int .i64 0)))) (M' := ((Mem.nil.push (.cells 43 [.lit (.int .u64 x1452), .lit (.int .u64 x1453)])).push (.cells 43 [.lit (.int .u64 0), .lit (.int .u64 0)]))) [0, 1] hnp ⟨rfl, ⟨⟨trivial, .inr ⟨rfl, rfl, rfl⟩⟩, .inr ⟨rfl, rfl, rfl⟩⟩, by decide, rfl, trivial⟩ (LeE.upd rfl rfl (LeE.upd rfl rfl (LeE.upd rfl rfl (LeE.upd rfl rfl (LeE.upd rfl rfl (LeE.none rfl rfl))))))) ?_
 obtain ⟨⟨x1563, x1564, x1565⟩, H1590, H⟩ := bnd H
 refine WP.monoW (Q := fun x E M => x = .exit 0 ∧ E = (((Env.none.upd 2 (.ptr 0 0)).upd 4 (.ptr 1 0)).upd 6 (.lit (.bool x1563))) ∧ M = ((Mem.nil.push (.cells 43 [.lit (.int .u64 x1564), .lit (.int .u64 x1565)])).push (.cells 43 [.lit (.int .u64 0), .lit (.int .u64 0)]))) ?_ ?_
 · refine WP.loop (β := Bool × Int × Int × Int) (fun n b => g_dec_wide_tens_l0 k x1454 n b.1 b.2.1 b.2.2.1 b.2.2.2 = some (x1563, x1564, x1565)) (fun b => (((((Env.none.upd 1 (.lit (.int .i64 x1454))).upd 2 (.ptr 0 0)).upd 4 (.ptr 1 0)).upd 6 (.lit (.bool b.1))).upd 7 (.lit (.int .i64 b.2.1)))) (fun b => ((Mem.nil.push (.cells 43 [.lit (.int .u64 b.2.2.1), .lit (.int .u64 b.2.2.2)])).push (.cells 43 [.lit (.int .u64 0), .lit (.int .u64 0)]))) k (true, 0, x1452, x1453) H1590 rfl rfl ?_
   rintro n ⟨x1534, x1535, x1536, x1537⟩ H
   obtain _ | n := n
   · exact nf rfl H
   rw [g_dec_wide_tens_l0.eq_2] at H
   show WP _ _ _ _ (((((Env.none.upd 1 (.lit (.int .i64 x1454))).upd 2 (.ptr 0 0)).upd 4 (.ptr 1 0)).upd 6 (.lit (.bool x1534))).upd 7 (.lit (.int .i64 x1535))) ((Mem.nil.push (.cells 43 [.lit (.int .u64 x1536), .lit (.int .u64 x1537)])).push (.cells 43 [.lit (.int .u64 0), .lit (.int .u64 0)])) _
   refine WP.seq ?_
   refine WP.seq ?_
   obtain ⟨x1581, H1585, H⟩ := bnd H
   refine WP.monoW (Q := fun x E M => x = .normal ∧ E = ((((((Env.none.upd 1 (.lit (.int .i64 x1454))).upd 2 (.ptr 0 0)).upd 4 (.ptr 1 0)).upd 6 (.lit (.bool x1534))).upd 7 (.lit (.int .i64 x1535))).upd 18 (.lit (.bool x1581))) ∧ M = ((Mem.nil.push (.cells 43 [.lit (.int .u64 x1536), .lit (.int .u64 x1537)])).push (.cells 43 [.lit (.int .u64 0), .lit (.int .u64 0)]))) ?_ ?_
   · clear H
     have H := H1585
     clear H1585
     refine WP.region ?_
     refine WPL.q (q_mv (v := .lit (.int _ _)) rfl) rfl ?_
     refine WPL.q (q_mv (v := .lit (.int _ _)) rfl) rfl ?_
     refine WPL.q (q_lss rfl rfl) rfl ?_
     refine WPL.q (q_mv (v := .lit (.bool _)) rfl) rfl ?_
     refine WPL.split (t := 11) (b := (decide (x1535 < x1454))) rfl (fun hb1581 => ?_) (fun hb1581 => ?_)
     · replace H := cnt hb1581 H
       refine WPL.qg rfl rfl (lb hb1581) (q_mv (v := .lit (.bool _)) rfl) rfl ?_
       refine WPL.q (q_pickT (v := .lit (.bool _)) (lb hb1581) rfl) rfl ?_
       refine WPL.q (q_mv (v := .lit (.bool _)) rfl) rfl ?_
       refine WPL.split (t := 14) (b := x1534) rfl (fun hb1582 => ?_) (fun hb1582 => ?_)
       · replace H := cnt hb1582 H
         refine WPL.qg rfl rfl (lb hb1582) (q_load_ag ag43 rfl rfl (Nat.le_of_ble_eq_true rfl)) rfl ?_
         obtain ⟨_, h1583, H⟩ := bnd H
         refine WPL.cg rfl rfl (lb hb1582) (runs_call (s := []) (t := []) (N := 2) (bor := []) fn43 rfl (s_dec_wide_zero k x1536 x1537 h1583) ⟨rfl, trivial, by decide, rfl, trivial⟩ rfl trivial (.ren rfl rfl .nil) rfl trivial rfl) rfl ?_
         obtain ⟨x1585, h1585, H⟩ := bnd H
         refine WPL.qg rfl rfl (lb hb1582) (q_nm (q_not rfl) (nm_bool h1585)) rfl ?_
         refine WPL.q (q_pickT (v := .lit (.bool _)) (lb hb1582) rfl) rfl ?_
         refine WPL.nilW ?_
         have q0 := (Option.some.inj H)
         subst q0
         exact W.wk [0, 1] hnp ⟨rfl, rfl, rfl⟩ ⟨rfl, ⟨⟨trivial, .inr ⟨rfl, rfl, rfl⟩⟩, .inr ⟨rfl, rfl, rfl⟩⟩, by decide, rfl, trivial⟩ (LeE.upd rfl rfl (LeE.upd rfl rfl (LeE.upd rfl rfl (LeE.upd rfl rfl (LeE.upd rfl rfl (LeE.upd rfl rfl (LeE.none rfl rfl))))))) rfl
       replace H := cnf hb1582 H
       refine WPL.skipg (b' := false) rfl rfl (lb hb1582) rfl rfl ?_
       refine WPL.skipg (b' := false) rfl rfl (lb hb1582) rfl rfl ?_
       refine WPL.skipg (b' := false) rfl rfl (lb hb1582) rfl rfl ?_
       refine WPL.q (q_pickF (v := .lit (.bool _)) (lb hb1582) rfl) rfl ?_
       refine WPL.nilW ?_
       have q0 := (Option.some.inj H)
       subst q0
       exact W.wk [0, 1] hnp ⟨rfl, rfl, rfl⟩ ⟨rfl, ⟨⟨trivial, .inr ⟨rfl, rfl, rfl⟩⟩, .inr ⟨rfl, rfl, rfl⟩⟩, by decide, rfl, trivial⟩ (LeE.upd rfl rfl (LeE.upd rfl rfl (LeE.upd rfl rfl (LeE.upd rfl rfl (LeE.upd rfl rfl (LeE.upd rfl rfl (LeE.none rfl rfl))))))) rfl
     replace H := cnf hb1581 H
     refine WPL.skipg (b' := false) rfl rfl (lb hb1581) rfl rfl ?_
     refine WPL.q (q_pickF (v := .lit (.bool _)) (lb hb1581) rfl) rfl ?_
     refine WPL.q (q_mv (v := .lit (.bool _)) rfl) rfl ?_
     refine WPL.skipg (b' := false) rfl rfl rfl rfl rfl ?_
     refine WPL.skipg (b' := false) rfl rfl rfl rfl rfl ?_
     refine WPL.skipg (b' := false) rfl rfl rfl rfl rfl ?_
     refine WPL.q (q_pickF (v := .lit (.bool _)) rfl rfl) rfl ?_
     refine WPL.nilW ?_
     have q0 := (Option.some.inj H)
     subst q0
     exact W.wk [0, 1] hnp ⟨rfl, rfl, rfl⟩ ⟨rfl, ⟨⟨trivial, .inr ⟨rfl, rfl, rfl⟩⟩, .inr ⟨rfl, rfl, rfl⟩⟩, by decide, rfl, trivial⟩ (LeE.upd rfl rfl (LeE.upd rfl rfl (LeE.upd rfl rfl (LeE.upd rfl rfl (LeE.upd rfl rfl (LeE.upd rfl rfl (LeE.none rfl rfl))))))) rfl
   rintro _ _ _ ⟨rfl, rfl, rfl⟩
   refine W.now ?_
   refine Then.n ?_
   refine WP.cond (t := x1581) rfl (fun hb1586 => ?_) (fun hb1586 => ?_)
   · replace H := cnt hb1586 H
     refine WP.skipW ?_
     refine W.now ?_
     refine Then.n ?_
     refine WP.seq ?_
     refine WP.block ?_
     refine WP.region ?_
     refine WPL.q (q_load_ag ag43 rfl rfl (Nat.le_of_ble_eq_true rfl)) rfl ?_
     obtain ⟨⟨x1589, x1590⟩, h1587, H⟩ := bnd H
     refine WPL.c (runs_call (s := []) (t := [2]) (N := 3) (bor := []) fn16 rfl (s_dec_wide_times k x1536 x1537 10 x1589 x1590 h1587) ⟨rfl, trivial, by decide, rfl, trivial⟩ rfl trivial (.ren rfl rfl (.ren rfl rfl .nil)) rfl ⟨trivial, rfl⟩ rfl) rfl ?_
     refine WPL.q (q_mv (v := .tup _) rfl) rfl ?_
     refine WPL.q (q_extract rfl rfl) rfl ?_
     refine WPL.q (q_extract rfl rfl) rfl ?_
     refine WPL.s (s_store sz43 rfl rfl rfl rfl rfl) ?_
     refine WPL.q (q_as (v := .lit (.bool _)) rfl) rfl ?_
     refine WPL.nilW ?_
     refine W.now ?_
     refine InBlock.n ?_
     refine Then.n ?_
     refine WP.region ?_
     refine WPL.q (q_mv (v := .lit (.int _ _)) rfl) rfl ?_
     refine WPL.q (q_add rfl rfl) rfl ?_
     refine WPL.q (q_as (v := .lit (.int _ _)) rfl) rfl ?_
     refine WPL.nilW ?_
     exact W.wk [0, 1] hnp (Then.n ⟨n, (x1589, (IntKind.wrap .i64 (x1535 + 1)), x1590, (IntKind.wrap .u64 (x1537 * 10))), Nat.lt_succ_self n, H, rfl, rfl⟩) ⟨rfl, ⟨⟨trivial, .inr ⟨rfl, rfl, rfl⟩⟩, .inr ⟨rfl, rfl, rfl⟩⟩, by decide, rfl, trivial⟩ (LeE.upd rfl rfl (LeE.upd rfl rfl (LeE.upd rfl rfl (LeE.upd rfl rfl (LeE.upd rfl rfl (LeE.none rfl rfl)))))) rfl
   replace H := cnf hb1586 H
   refine WP.exitW ?_
   have q0 := (Prod.mk.inj (Option.some.inj H)).1
   have q1 := (Prod.mk.inj (Prod.mk.inj (Option.some.inj H)).2).1
   have q2 := (Prod.mk.inj (Prod.mk.inj (Option.some.inj H)).2).2
   subst q0
   subst q1
   subst q2
   exact W.wk [0, 1] hnp (Then.x (Then.x ⟨rfl, rfl, rfl⟩)) ⟨rfl, ⟨⟨trivial, .inr ⟨rfl, rfl, rfl⟩⟩, .inr ⟨rfl, rfl, rfl⟩⟩, by decide, rfl, trivial⟩ (LeE.upd rfl rfl (LeE.upd rfl rfl (LeE.upd rfl rfl (LeE.none rfl rfl)))) rfl
 rintro _ _ _ ⟨rfl, rfl, rfl⟩
 refine W.now ?_
 refine InBlock.x0 ?_
 refine Then.n ?_
 refine WP.seq ?_
 refine WP.region ?_
 refine WPL.q (q_load_ag ag43 rfl rfl (Nat.le_of_ble_eq_true rfl)) rfl ?_
 refine WPL.q (q_mv (v := .lit (.bool _)) rfl) rfl ?_
 refine WPL.s (s_store sz43 rfl rfl rfl rfl rfl) ?_
 refine WPL.q (q_as (v := .lit (.bool _)) rfl) rfl ?_
 refine WPL.nilW ?_
 refine W.now ?_
 refine Then.n ?_
 refine WP.retW ?_
 have q0 := (Prod.mk.inj (Option.some.inj H)).1
 have q1 := (Prod.mk.inj (Prod.mk.inj (Option.some.inj H)).2).1
 have q2 := (Prod.mk.inj (Prod.mk.inj (Option.some.inj H)).2).2
 subst q0
 subst q1
 subst q2
 exact W.now (BodyR.mkR trivial rfl [1] ⟨rfl, rfl⟩ ⟨rfl, ⟨trivial, .inr ⟨rfl, rfl, rfl⟩⟩, by decide, rfl, trivial⟩ rfl rfl)
set_option maxRecDepth 100000 in
set_option maxHeartbeats 4000000 in
theorem s_dec_num_tell (k : Nat) (x1007 : Bool) (x1008 : Int) (x1009 : Int) (x1010 : Int) (x1645 : Int) (x1646 : Int) (x1647 : Int) (H : g_dec_num_tell k x1007 x1008 x1009 x1010 = some (x1645, x1646, x1647)) : Go.Q.Spec Tryd.prog 18 0 [.agg [.lit (.bool x1007), .lit (.int .u64 x1008), .lit (.int .u64 x1009), .lit (.int .i64 x1010)]] Mem.nil (fun o M => o = .ret (.tup [.agg [.lit (.int .i64 x1646), .lit (.int .i64 x1647)], .lit (.int .i64 x1645)]) ∧ M = (Mem.nil.push (.cells 23 [.lit (.int .i64 x1646), .lit (.int .i64 x1647)]))) := by
 unfold g_dec_num_tell at H
 refine Go.Q.Spec.of_bodyR (az := [(23, 2)]) (rs := [.cell 2 23, .tmp 3]) (nt := 89) Tryd.func18 rfl rfl (by intro t T h; simp at h; rcases h with ⟨rfl, rfl⟩ <;> first | exact ag23) rfl rfl fun cx hnp => ?_
 refine WP.seq ?_
 refine WP.region ?_
 refine WPL.d (d_box rfl rfl) rfl ?_
 refine WPL.d (d_alloc ze23 rfl) rfl ?_
 refine WPL.q (q_as (v := .lit (.int _ _)) rfl) rfl ?_
 refine WPL.nilW ?_
 refine W.now ?_
 refine Then.n ?_
 refine WP.seq ?_
 refine WP.seq ?_
 refine WP.region ?_
 refine WPL.q (q_fieldAddr fi48_1 rfl rfl) rfl ?_
 refine WPL.q (q_load_ag ag43 rfl rfl (Nat.le_of_ble_eq_true rfl)) rfl ?_
 obtain ⟨_, h1649, H⟩ := bnd H
 refine WPL.c (runs_call (s := []) (t := []) (N := 2) (bor := []) fn43 rfl (s_dec_wide_zero k x1008 x1009 h1649) ⟨rfl, trivial, by decide, rfl, trivial⟩ rfl trivial (.ren rfl rfl .nil) rfl trivial rfl) rfl ?_
 refine WPL.nilW ?_
 refine W.now ?_
 refine Then.n ?_
 refine WP.cond (t := (decide ((bits .or .u64 x1008 x1009) = 0))) rfl (fun hb1650 => ?_) (fun hb1650 => ?_)
 · replace H := cnt hb1650 H
   refine WP.seq ?_
   refine WP.region ?_
   refine WPL.q (q_build bu23 rfl) rfl ?_
   refine WPL.s (s_store sz23 rfl rfl rfl rfl rfl) ?_
   refine WPL.q (q_as (v := .lit (.int _ _)) rfl) rfl ?_
   refine WPL.nilW ?_
   refine W.now ?_
   refine Then.n ?_
   refine WP.retW ?_
   have q0 := (Prod.mk.inj (Option.some.inj H)).1
   have q1 := (Prod.mk.inj (Prod.mk.inj (Option.some.inj H)).2).1
   have q2 := (Prod.mk.inj (Prod.mk.inj (Option.some.inj H)).2).2
   subst q0
   subst q1
   subst q2
   exact W.now (Then.r (BodyR.mkR trivial rfl [1] ⟨rfl, rfl⟩ ⟨rfl, ⟨trivial, .inr ⟨rfl, rfl, rfl⟩⟩, by decide, rfl, trivial⟩ rfl rfl))
 replace H := cnf hb1650 H
 refine WP.skipW ?_
 refine W.now ?_
 refine Then.n ?_
 refine WP.seq ?_
 refine WP.seq ?_
 refine WP.region ?_
 refine WPL.q (q_fieldAddr fi48_1 rfl rfl) rfl ?_
 refine WPL.q (q_load_ag ag43 rfl rfl (Nat.le_of_ble_eq_true rfl)) rfl ?_
 obtain ⟨⟨x1653, x1654, x1655⟩, h1651, H⟩ := bnd H
 refine WPL.c (runs_call (s := []) (t := [2]) (N := 3) (bor := []) fn44 rfl (s_dec_wide_by k x1008 x1009 10 x1653 x1654 x1655 h1651) ⟨rfl, trivial, by decide, rfl, trivial⟩ rfl trivial (.ren rfl rfl (.ren rfl rfl .nil)) rfl ⟨trivial, rfl⟩ rfl) rfl ?_
 refine WPL.q (q_mv (v := .tup _) rfl) rfl ?_
 refine WPL.q (q_extract rfl rfl) rfl ?_
 refine WPL.q (q_extract rfl rfl) rfl ?_
 refine WPL.d (d_alloc ze43 rfl) rfl ?_
 refine WPL.s (s_store sz43 rfl rfl rfl rfl rfl) ?_
 refine WPL.q (q_as (v := .lit (.int _ _)) rfl) rfl ?_
 refine WPL.nilW ?_
 refine W.now ?_
 refine Then.n ?_
 refine WP.block ?_
 refine WP.cv (Cv.weak (E' := ((((Env.none.upd 1 (.ptr 0 0)).upd 2 (.ptr 1 0)).upd 4 (.ptr 2 0)).upd 5 (.lit (.int .u64 x1653)))) (M' := (((Mem.nil.push (.cells 48 [.lit (.bool x1007), .lit (.int .u64 x1008), .lit (.int .u64 x1009), .lit (.int .i64 x1010)])).push (.cells 23 [.lit (.int .i64 0), .lit (.int .i64 0)])).push (.cells 43 [.lit (.int .u64 x1654), .lit (.int .u64 x1655)]))) [0, 1, 3] hnp ⟨rfl, ⟨⟨⟨trivial, .inr ⟨rfl, rfl, rfl⟩⟩, .inr ⟨rfl, rfl, rfl⟩⟩, .inr ⟨rfl, rfl, rfl⟩⟩, by decide, rfl, trivial⟩ (LeE.upd rfl rfl (LeE.upd rfl rfl (LeE.upd rfl rfl (LeE.upd rfl rfl (LeE.none rfl rfl)))))) ?_
 obtain ⟨⟨x1674, x1675, x1676⟩, H1682, H⟩ := bnd H
 refine WP.monoW (Q := fun x E M => x = .exit 0 ∧ E = ((Env.none.upd 1 (.ptr 0 0)).upd 2 (.ptr 1 0)) ∧ M = ((Mem.nil.push (.cells 48 [.lit (.bool x1007), .lit (.int .u64 x1674), .lit (.int .u64 x1675), .lit (.int .i64 x1676)])).push (.cells 23 [.lit (.int .i64 0), .lit (.int .i64 0)]))) ?_ ?_
 · refine WP.loop (β := Int × Int × Int × Int × Int × Int) (fun n b => g_dec_num_tell_l0 k n b.1 b.2.1 b.2.2.1 b.2.2.2.1 b.2.2.2.2.1 b.2.2.2.2.2 = some (x1674, x1675, x1676)) (fun b => ((((Env.none.upd 1 (.ptr 0 0)).upd 2 (.ptr 1 0)).upd 4 (.ptr 2 0)).upd 5 (.lit (.int .u64 b.1)))) (fun b => (((Mem.nil.push (.cells 48 [.lit (.bool x1007), .lit (.int .u64 b.2.1), .lit (.int .u64 b.2.2.1), .lit (.int .i64 b.2.2.2.1)])).push (.cells 23 [.lit (.int .i64 0), .lit (.int .i64 0)])).push (.cells 43 [.lit (.int .u64 b.2.2.2.2.1), .lit (.int .u64 b.2.2.2.2.2)]))) k (x1653, x1008, x1009, x1010, x1654, x1655) H1682 rfl rfl ?_
   rintro n ⟨x1662, x1663, x1664, x1665, x1666, x1667⟩ H
   obtain _ | n := n
   · exact nf rfl H
   rw [g_dec_num_tell_l0.eq_2] at H
   show WP _ _ _ _ ((((Env.none.upd 1 (.ptr 0 0)).upd 2 (.ptr 1 0)).upd 4 (.ptr 2 0)).upd 5 (.lit (.int .u64 x1662))) (((Mem.nil.push (.cells 48 [.lit (.bool x1007), .lit (.int .u64 x1663), .lit (.int .u64 x1664), .lit (.int .i64 x1665)])).push (.cells 23 [.lit (.int .i64 0), .lit (.int .i64 0)])).push (.cells 43 [.lit (.int .u64 x1666), .lit (.int .u64 x1667)])) _
   refine WP.seq ?_
   refine WP.seq ?_
   refine WP.region ?_
   refine WPL.q (q_mv (v := .lit (.int _ _)) rfl) rfl ?_
   refine WPL.q (q_eql rfl rfl) rfl ?_
   refine WPL.nilW ?_
   refine W.now ?_
   refine Then.n ?_
   refine WP.cond (t := (decide (x1662 = 0))) rfl (fun hb1677 => ?_) (fun hb1677 => ?_)
   · replace H := cnt hb1677 H
     refine WP.skipW ?_
     refine W.now ?_
     refine Then.n ?_
     refine WP.seq ?_
     refine WP.block ?_
     refine WP.seq ?_
     refine WP.region ?_
     refine WPL.q (q_load_ag ag43 rfl rfl (Nat.le_of_ble_eq_true rfl)) rfl ?_
     refine WPL.q (q_fieldAddr fi48_1 rfl rfl) rfl ?_
     refine WPL.s (s_store sz43 rfl rfl rfl rfl rfl) ?_
     refine WPL.nilW ?_
     refine W.now ?_
     refine Then.n ?_
     refine WP.region ?_
     refine WPL.q (q_fieldAddr fi48_2 rfl rfl) rfl ?_
     refine WPL.q (q_load sc3 rfl rfl rfl) rfl ?_
     refine WPL.q (q_add rfl rfl) rfl ?_
     refine WPL.q (q_fieldAddr fi48_2 rfl rfl) rfl ?_
     refine WPL.s (s_store sz3 rfl rfl rfl rfl rfl) ?_
     refine WPL.nilW ?_
     refine W.now ?_
     refine InBlock.n ?_
     refine Then.n ?_
     refine WP.seq ?_
     refine WP.seq ?_
     refine WP.region ?_
     refine WPL.q (q_load_ag ag43 rfl rfl (Nat.le_of_ble_eq_true rfl)) rfl ?_
     refine WPL.nilW ?_
     refine W.now ?_
     refine Then.n ?_
     refine WP.region ?_
     refine WPL.d (d_alloc ze43 rfl) rfl ?_
     refine WPL.s (s_store sz43 rfl rfl rfl rfl rfl) ?_
     refine WPL.nilW ?_
     refine W.now ?_
     refine Then.n ?_
     refine WP.region ?_
     refine WPL.q (q_fieldAddr fi48_1 rfl rfl) rfl ?_
     refine WPL.q (q_load_ag ag43 rfl rfl (Nat.le_of_ble_eq_true rfl)) rfl ?_
     obtain ⟨⟨x1680, x1681, x1682⟩, h1678, H⟩ := bnd H
     refine WPL.c (runs_call (s := []) (t := [4]) (N := 5) (bor := []) fn44 rfl (s_dec_wide_by k x1666 x1667 10 x1680 x1681 x1682 h1678) ⟨rfl, trivial, by decide, rfl, trivial⟩ rfl trivial (.ren rfl rfl (.ren rfl rfl .nil)) rfl ⟨trivial, rfl⟩ rfl) rfl ?_
     refine WPL.q (q_mv (v := .tup _) rfl) rfl ?_
     refine WPL.q (q_extract rfl rfl) rfl ?_
     refine WPL.q (q_extract rfl rfl) rfl ?_
     refine WPL.s (s_store sz43 rfl rfl rfl rfl rfl) ?_
     refine WPL.q (q_as (v := .lit (.int _ _)) rfl) rfl ?_
     refine WPL.nilW ?_
     exact W.wk [0, 1, 3] hnp (Then.n ⟨n, (x1680, x1666, x1667, (IntKind.wrap .i64 (x1665 + 1)), x1681, x1682), Nat.lt_succ_self n, H, rfl, rfl⟩) ⟨rfl, ⟨⟨⟨trivial, .inr ⟨rfl, rfl, rfl⟩⟩, .inr ⟨rfl, rfl, rfl⟩⟩, .inr ⟨rfl, rfl, rfl⟩⟩, by decide, rfl, trivial⟩ (LeE.upd rfl rfl (LeE.upd rfl rfl (LeE.upd rfl rfl (LeE.upd rfl rfl (LeE.none rfl rfl))))) rfl
   replace H := cnf hb1677 H
   refine WP.exitW ?_
   have q0 := (Prod.mk.inj (Option.some.inj H)).1
   have q1 := (Prod.mk.inj (Prod.mk.inj (Option.some.inj H)).2).1
   have q2 := (Prod.mk.inj (Prod.mk.inj (Option.some.inj H)).2).2
   subst q0
   subst q1
   subst q2
   exact W.wk [0, 1] hnp (Then.x (Then.x ⟨rfl, rfl, rfl⟩)) ⟨rfl, ⟨⟨trivial, .inr ⟨rfl, rfl, rfl⟩⟩, .inr ⟨rfl, rfl, rfl⟩⟩, by decide, rfl, trivial⟩ (LeE.upd rfl rfl (LeE.upd rfl rfl (LeE.none rfl rfl))) rfl
 rintro _ _ _ ⟨rfl, rfl, rfl⟩
 refine W.now ?_
 refine InBlock.x0 ?_
 refine Then.n ?_
 refine WP.seq ?_
 refine WP.region ?_
 refine WPL.q (q_as (v := .lit (.bool _)) rfl) rfl ?_
 refine WPL.nilW ?_
 refine W.now ?_
 refine Then.n ?_
 refine WP.seq ?_
 obtain ⟨⟨x1694, x1695, x1696, x1697⟩, H1707, H⟩ := bnd H
 refine WP.monoW (Q := fun x E M => x = .normal ∧ E = (((Env.none.upd 1 (.ptr 0 0)).upd 2 (.ptr 1 0)).upd 6 (.lit (.bool x1694))) ∧ M = ((Mem.nil.push (.cells 48 [.lit (.bool x1007), .lit (.int .u64 x1695), .lit (.int .u64 x1696), .lit (.int .i64 x1697)])).push (.cells 23 [.lit (.int .i64 0), .lit (.int .i64 0)]))) ?_ ?_
 · clear H
   have H := H1707
   clear H1707
   refine WP.seq ?_
   refine WP.region ?_
   refine WPL.q (q_fieldAddr fi48_2 rfl rfl) rfl ?_
   refine WPL.q (q_load sc3 rfl rfl rfl) rfl ?_
   refine WPL.q (q_gtr rfl rfl) rfl ?_
   refine WPL.nilW ?_
   refine W.now ?_
   refine Then.n ?_
   refine WP.cond (t := (decide (18 < x1676))) rfl (fun hb1697 => ?_) (fun hb1697 => ?_)
   · replace H := cnt hb1697 H
     refine WP.seq ?_
     refine WP.region ?_
     refine WPL.q (q_fieldAddr fi48_1 rfl rfl) rfl ?_
     refine WPL.q (q_load_ag ag43 rfl rfl (Nat.le_of_ble_eq_true rfl)) rfl ?_
     refine WPL.q (q_fieldAddr fi48_2 rfl rfl) rfl ?_
     refine WPL.q (q_load sc3 rfl rfl rfl) rfl ?_
     refine WPL.q (q_sub rfl rfl) rfl ?_
     obtain ⟨x1699, h1699, H⟩ := bnd H
     refine WPL.q (q_nm (q_min rfl rfl) (nm_int h1699)) rfl ?_
     obtain ⟨⟨x1701, x1702, x1703⟩, h1699, H⟩ := bnd H
     refine WPL.c (runs_call (s := []) (t := [2]) (N := 3) (bor := []) fn45 rfl (s_dec_wide_tens k x1674 x1675 x1699 x1701 x1702 x1703 h1699) ⟨rfl, trivial, by decide, rfl, trivial⟩ rfl trivial (.ren rfl rfl (.ren rfl rfl .nil)) rfl ⟨trivial, rfl⟩ rfl) rfl ?_
     refine WPL.q (q_mv (v := .tup _) rfl) rfl ?_
     refine WPL.q (q_extract rfl rfl) rfl ?_
     refine WPL.q (q_extract rfl rfl) rfl ?_
     refine WPL.q (q_fieldAddr fi48_1 rfl rfl) rfl ?_
     refine WPL.s (s_store sz43 rfl rfl rfl rfl rfl) ?_
     refine WPL.q (q_as (v := .lit (.bool _)) rfl) rfl ?_
     refine WPL.nilW ?_
     refine W.now ?_
     refine Then.n ?_
     refine WP.seq ?_
     obtain ⟨x1705, H1706, H⟩ := bnd H
     refine WP.monoW (Q := fun x E M => x = .normal ∧ E = (((Env.none.upd 1 (.ptr 0 0)).upd 2 (.ptr 1 0)).upd 6 (.lit (.bool x1705))) ∧ M = ((Mem.nil.push (.cells 48 [.lit (.bool x1007), .lit (.int .u64 x1702), .lit (.int .u64 x1703), .lit (.int .i64 x1676)])).push (.cells 23 [.lit (.int .i64 0), .lit (.int .i64 0)]))) ?_ ?_
     · clear H
       have H := H1706
       clear H1706
       refine WP.seq ?_
       refine WP.region ?_
       refine WPL.q (q_fieldAddr fi48_2 rfl rfl) rfl ?_
       refine WPL.q (q_load sc3 rfl rfl rfl) rfl ?_
       refine WPL.q (q_gtr rfl rfl) rfl ?_
       refine WPL.nilW ?_
       refine W.now ?_
       refine Then.n ?_
       refine WP.cond (t := (decide (58 < x1676))) rfl (fun hb1705 => ?_) (fun hb1705 => ?_)
       · replace H := cnt hb1705 H
         refine WP.region ?_
         refine WPL.q (q_as (v := .lit (.bool _)) rfl) rfl ?_
         refine WPL.nilW ?_
         have q0 := (Option.some.inj H)
         subst q0
         exact W.wk [0, 1] hnp ⟨rfl, rfl, rfl⟩ ⟨rfl, ⟨⟨trivial, .inr ⟨rfl, rfl, rfl⟩⟩, .inr ⟨rfl, rfl, rfl⟩⟩, by decide, rfl, trivial⟩ (LeE.upd rfl rfl (LeE.upd rfl rfl (LeE.upd rfl rfl (LeE.none rfl rfl)))) rfl
       replace H := cnf hb1705 H
       refine WP.skipW ?_
       have q0 := (Option.some.inj H)
       subst q0
       exact W.wk [0, 1] hnp ⟨rfl, rfl, rfl⟩ ⟨rfl, ⟨⟨trivial, .inr ⟨rfl, rfl, rfl⟩⟩, .inr ⟨rfl, rfl, rfl⟩⟩, by decide, rfl, trivial⟩ (LeE.upd rfl rfl (LeE.upd rfl rfl (LeE.upd rfl rfl (LeE.none rfl rfl)))) rfl
     rintro _ _ _ ⟨rfl, rfl, rfl⟩
     refine W.now ?_
     refine Then.n ?_
     refine WP.region ?_
     refine WPL.q (q_fieldAddr fi48_2 rfl rfl) rfl ?_
     refine WPL.s (s_store sz3 rfl rfl rfl rfl rfl) ?_
     refine WPL.nilW ?_
     have q0 := (Prod.mk.inj (Option.some.inj H)).1
     have q1 := (Prod.mk.inj (Prod.mk.inj (Option.some.inj H)).2).1
     have q2 := (Prod.mk.inj (Prod.mk.inj (Prod.mk.inj (Option.some.inj H)).2).2).1
     have q3 := (Prod.mk.inj (Prod.mk.inj (Prod.mk.inj (Option.some.inj H)).2).2).2
     subst q0
     subst q1
     subst q2
     subst q3
     exact W.wk [0, 1] hnp ⟨rfl, rfl, rfl⟩ ⟨rfl, ⟨⟨trivial, .inr ⟨rfl, rfl, rfl⟩⟩, .inr ⟨rfl, rfl, rfl⟩⟩, by decide, rfl, trivial⟩ (LeE.upd rfl rfl (LeE.upd rfl rfl (LeE.upd rfl rfl (LeE.none rfl rfl)))) rfl
   replace H := cnf hb1697 H
   refine WP.skipW ?_
   have q0 := (Prod.mk.inj (Option.some.inj H)).1
   have q1 := (Prod.mk.inj (Prod.mk.inj (Option.some.inj H)).2).1
   have q2 := (Prod.mk.inj (Prod.mk.inj (Prod.mk.inj (Option.some.inj H)).2).2).1
   have q3 := (Prod.mk.inj (Prod.mk.inj (Prod.mk.inj (Option.some.inj H)).2).2).2
   subst q0
   subst q1
   subst q2
   subst q3
   exact W.wk [0, 1] hnp ⟨rfl, rfl, rfl⟩ ⟨rfl, ⟨⟨trivial, .inr ⟨rfl, rfl, rfl⟩⟩, .inr ⟨rfl, rfl, rfl⟩⟩, by decide, rfl, trivial⟩ (LeE.upd rfl rfl (LeE.upd rfl rfl (LeE.upd rfl rfl (LeE.none rfl rfl)))) rfl
 rintro _ _ _ ⟨rfl, rfl, rfl⟩
 refine W.now ?_
 refine Then.n ?_
 refine WP.seq ?_
 refine WP.region ?_
 refine WPL.q (q_as (v := .lit (.int _ _)) rfl) rfl ?_
 refine WPL.nilW ?_
 refine W.now ?_
 refine Then.n ?_
 refine WP.seq ?_
 obtain ⟨x1711, H1713, H⟩ := bnd H
 refine WP.monoW (Q := fun x E M => x = .normal ∧ E = ((((Env.none.upd 1 (.ptr 0 0)).upd 2 (.ptr 1 0)).upd 6 (.lit (.bool x1694))).upd 7 (.lit (.int .u64 x1711))) ∧ M = ((Mem.nil.push (.cells 48 [.lit (.bool x1007), .lit (.int .u64 x1695), .lit (.int .u64 x1696), .lit (.int .i64 x1697)])).push (.cells 23 [.lit (.int .i64 0), .lit (.int .i64 0)]))) ?_ ?_
 · clear H
   have H := H1713
   clear H1713
   refine WP.seq ?_
   refine WP.region ?_
   refine WPL.q (q_fieldAddr fi48_0 rfl rfl) rfl ?_
   refine WPL.q (q_load sc4 rfl rfl rfl) rfl ?_
   refine WPL.nilW ?_
   refine W.now ?_
   refine Then.n ?_
   refine WP.cond (t := x1007) rfl (fun hb1711 => ?_) (fun hb1711 => ?_)
   · replace H := cnt hb1711 H
     refine WP.region ?_
     refine WPL.q (q_mv (v := .lit (.int _ _)) rfl) rfl ?_
     obtain ⟨x1713, h1713, H⟩ := bnd H
     refine WPL.q (q_nm (q_add rfl rfl) (nm_int h1713)) rfl ?_
     refine WPL.q (q_as (v := .lit (.int _ _)) rfl) rfl ?_
     refine WPL.nilW ?_
     have q0 := (Option.some.inj H)
     subst q0
     exact W.wk [0, 1] hnp ⟨rfl, rfl, rfl⟩ ⟨rfl, ⟨⟨trivial, .inr ⟨rfl, rfl, rfl⟩⟩, .inr ⟨rfl, rfl, rfl⟩⟩, by decide, rfl, trivial⟩ (LeE.upd rfl rfl (LeE.upd rfl rfl (LeE.upd rfl rfl (LeE.upd rfl rfl (LeE.none rfl rfl))))) rfl
   replace H := cnf hb1711 H
   refine WP.skipW ?_
   have q0 := (Option.some.inj H)
   subst q0
   exact W.wk [0, 1] hnp ⟨rfl, rfl, rfl⟩ ⟨rfl, ⟨⟨trivial, .inr ⟨rfl, rfl, rfl⟩⟩, .inr ⟨rfl, rfl, rfl⟩⟩, by decide, rfl, trivial⟩ (LeE.upd rfl rfl (LeE.upd rfl rfl (LeE.upd rfl rfl (LeE.upd rfl rfl (LeE.none rfl rfl))))) rfl
 rintro _ _ _ ⟨rfl, rfl, rfl⟩
 refine W.now ?_
 refine Then.n ?_
 refine WP.seq ?_
 refine WP.seq ?_
 obtain ⟨x1727, H1730, H⟩ := bnd H
 refine WP.monoW (Q := fun x E M => x = .normal ∧ E = (((Env.none.upd 1 (.ptr 0 0)).upd 2 (.ptr 1 0)).upd 75 (.lit (.bool x1727))) ∧ M = ((Mem.nil.push (.cells 48 [.lit (.bool x1007), .lit (.int .u64 x1695), .lit (.int .u64 x1696), .lit (.int .i64 x1697)])).push (.cells 23 [.lit (.int .i64 0), .lit (.int .i64 0)]))) ?_ ?_
 · clear H
   have H := H1730
   clear H1730
   refine WP.region ?_
   refine WPL.q (q_mv (v := .lit (.bool _)) rfl) rfl ?_
   refine WPL.q (q_not rfl) rfl ?_
   refine WPL.q (q_mv (v := .lit (.bool _)) rfl) rfl ?_
   refine WPL.split (t := 58) (b := (!x1694)) rfl (fun hb1727 => ?_) (fun hb1727 => ?_)
   · replace H := cnt hb1727 H
     refine WPL.skipg (b' := true) rfl rfl (lb hb1727) rfl rfl ?_
     refine WPL.skipg (b' := true) rfl rfl (lb hb1727) rfl rfl ?_
     refine WPL.skipg (b' := true) rfl rfl (lb hb1727) rfl rfl ?_
     refine WPL.q (q_pickT (v := .lit (.bool _)) (lb hb1727) rfl) rfl ?_
     refine WPL.q (q_mv (v := .lit (.bool _)) rfl) rfl ?_
     refine WPL.skipg (b' := true) rfl rfl rfl rfl rfl ?_
     refine WPL.skipg (b' := true) rfl rfl rfl rfl rfl ?_
     refine WPL.skipg (b' := true) rfl rfl rfl rfl rfl ?_
     refine WPL.skipg (b' := true) rfl rfl rfl rfl rfl ?_
     refine WPL.q (q_pickT (v := .lit (.bool _)) rfl rfl) rfl ?_
     refine WPL.q (q_mv (v := .lit (.bool _)) rfl) rfl ?_
     refine WPL.skipg (b' := true) rfl rfl rfl rfl rfl ?_
     refine WPL.skipg (b' := true) rfl rfl rfl rfl rfl ?_
     refine WPL.skipg (b' := true) rfl rfl rfl rfl rfl ?_
     refine WPL.skipg (b' := true) rfl rfl rfl rfl rfl ?_
     refine WPL.skipg (b' := true) rfl rfl rfl rfl rfl ?_
     refine WPL.q (q_pickT (v := .lit (.bool _)) rfl rfl) rfl ?_
     refine WPL.nilW ?_
     have q0 := (Option.some.inj H)
     subst q0
     exact W.wk [0, 1] hnp ⟨rfl, rfl, rfl⟩ ⟨rfl, ⟨⟨trivial, .inr ⟨rfl, rfl, rfl⟩⟩, .inr ⟨rfl, rfl, rfl⟩⟩, by decide, rfl, trivial⟩ (LeE.upd rfl rfl (LeE.upd rfl rfl (LeE.upd rfl rfl (LeE.none rfl rfl)))) rfl
   replace H := cnf hb1727 H
   refine WPL.qg rfl rfl (lb hb1727) (q_fieldAddr fi48_2 rfl rfl) rfl ?_
   refine WPL.qg rfl rfl (lb hb1727) (q_load sc3 rfl rfl rfl) rfl ?_
   refine WPL.qg rfl rfl (lb hb1727) (q_lss rfl rfl) rfl ?_
   refine WPL.q (q_pickF (v := .lit (.bool _)) (lb hb1727) rfl) rfl ?_
   refine WPL.q (q_mv (v := .lit (.bool _)) rfl) rfl ?_
   refine WPL.split (t := 63) (b := (decide (x1697 < (-18)))) rfl (fun hb1728 => ?_) (fun hb1728 => ?_)
   · replace H := cnt hb1728 H
     refine WPL.skipg (b' := true) rfl rfl (lb hb1728) rfl rfl ?_
     refine WPL.skipg (b' := true) rfl rfl (lb hb1728) rfl rfl ?_
     refine WPL.skipg (b' := true) rfl rfl (lb hb1728) rfl rfl ?_
     refine WPL.skipg (b' := true) rfl rfl (lb hb1728) rfl rfl ?_
     refine WPL.q (q_pickT (v := .lit (.bool _)) (lb hb1728) rfl) rfl ?_
     refine WPL.q (q_mv (v := .lit (.bool _)) rfl) rfl ?_
     refine WPL.skipg (b' := true) rfl rfl rfl rfl rfl ?_
     refine WPL.skipg (b' := true) rfl rfl rfl rfl rfl ?_
     refine WPL.skipg (b' := true) rfl rfl rfl rfl rfl ?_
     refine WPL.skipg (b' := true) rfl rfl rfl rfl rfl ?_
     refine WPL.skipg (b' := true) rfl rfl rfl rfl rfl ?_
     refine WPL.q (q_pickT (v := .lit (.bool _)) rfl rfl) rfl ?_
     refine WPL.nilW ?_
     have q0 := (Option.some.inj H)
     subst q0
     exact W.wk [0, 1] hnp ⟨rfl, rfl, rfl⟩ ⟨rfl, ⟨⟨trivial, .inr ⟨rfl, rfl, rfl⟩⟩, .inr ⟨rfl, rfl, rfl⟩⟩, by decide, rfl, trivial⟩ (LeE.upd rfl rfl (LeE.upd rfl rfl (LeE.upd rfl rfl (LeE.none rfl rfl)))) rfl
   replace H := cnf hb1728 H
   refine WPL.qg rfl rfl (lb hb1728) (q_fieldAddr fi48_1 rfl rfl) rfl ?_
   refine WPL.qg rfl rfl (lb hb1728) (q_fieldAddr fi43_0 rfl rfl) rfl ?_
   refine WPL.qg rfl rfl (lb hb1728) (q_load sc41 rfl rfl rfl) rfl ?_
   refine WPL.qg rfl rfl (lb hb1728) (q_gtr rfl rfl) rfl ?_
   refine WPL.q (q_pickF (v := .lit (.bool _)) (lb hb1728) rfl) rfl ?_
   refine WPL.q (q_mv (v := .lit (.bool _)) rfl) rfl ?_
   refine WPL.split (t := 69) (b := (decide (0 < x1695))) rfl (fun hb1729 => ?_) (fun hb1729 => ?_)
   · replace H := cnt hb1729 H
     refine WPL.skipg (b' := true) rfl rfl (lb hb1729) rfl rfl ?_
     refine WPL.skipg (b' := true) rfl rfl (lb hb1729) rfl rfl ?_
     refine WPL.skipg (b' := true) rfl rfl (lb hb1729) rfl rfl ?_
     refine WPL.skipg (b' := true) rfl rfl (lb hb1729) rfl rfl ?_
     refine WPL.skipg (b' := true) rfl rfl (lb hb1729) rfl rfl ?_
     refine WPL.q (q_pickT (v := .lit (.bool _)) (lb hb1729) rfl) rfl ?_
     refine WPL.nilW ?_
     have q0 := (Option.some.inj H)
     subst q0
     exact W.wk [0, 1] hnp ⟨rfl, rfl, rfl⟩ ⟨rfl, ⟨⟨trivial, .inr ⟨rfl, rfl, rfl⟩⟩, .inr ⟨rfl, rfl, rfl⟩⟩, by decide, rfl, trivial⟩ (LeE.upd rfl rfl (LeE.upd rfl rfl (LeE.upd rfl rfl (LeE.none rfl rfl)))) rfl
   replace H := cnf hb1729 H
   refine WPL.qg rfl rfl (lb hb1729) (q_fieldAddr fi48_1 rfl rfl) rfl ?_
   refine WPL.qg rfl rfl (lb hb1729) (q_fieldAddr fi43_1 rfl rfl) rfl ?_
   refine WPL.qg rfl rfl (lb hb1729) (q_load sc41 rfl rfl rfl) rfl ?_
   refine WPL.qg rfl rfl (lb hb1729) (q_mv (v := .lit (.int _ _)) rfl) rfl ?_
   refine WPL.qg rfl rfl (lb hb1729) (q_gtr rfl rfl) rfl ?_
   refine WPL.q (q_pickF (v := .lit (.bool _)) (lb hb1729) rfl) rfl ?_
   refine WPL.nilW ?_
   have q0 := (Option.some.inj H)
   subst q0
   exact W.wk [0, 1] hnp ⟨rfl, rfl, rfl⟩ ⟨rfl, ⟨⟨trivial, .inr ⟨rfl, rfl, rfl⟩⟩, .inr ⟨rfl, rfl, rfl⟩⟩, by decide, rfl, trivial⟩ (LeE.upd rfl rfl (LeE.upd rfl rfl (LeE.upd rfl rfl (LeE.none rfl rfl)))) rfl
 rintro _ _ _ ⟨rfl, rfl, rfl⟩
 refine W.now ?_
 refine Then.n ?_
 refine WP.cond (t := x1727) rfl (fun hb1731 => ?_) (fun hb1731 => ?_)
 · replace H := cnt hb1731 H
   refine WP.seq ?_
   refine WP.region ?_
   refine WPL.q (q_build bu23 rfl) rfl ?_
   refine WPL.s (s_store sz23 rfl rfl rfl rfl rfl) ?_
   refine WPL.q (q_as (v := .lit (.int _ _)) rfl) rfl ?_
   refine WPL.nilW ?_
   refine W.now ?_
   refine Then.n ?_
   refine WP.retW ?_
   have q0 := (Prod.mk.inj (Option.some.inj H)).1
   have q1 := (Prod.mk.inj (Prod.mk.inj (Option.some.inj H)).2).1
   have q2 := (Prod.mk.inj (Prod.mk.inj (Option.some.inj H)).2).2
   subst q0
   subst q1
   subst q2
   exact W.now (Then.r (BodyR.mkR trivial rfl [1] ⟨rfl, rfl⟩ ⟨rfl, ⟨trivial, .inr ⟨rfl, rfl, rfl⟩⟩, by decide, rfl, trivial⟩ rfl rfl))
 replace H := cnf hb1731 H
 refine WP.skipW ?_
 refine W.now ?_
 refine Then.n ?_
 refine WP.seq ?_
 refine WP.region ?_
 refine WPL.q (q_fieldAddr fi48_1 rfl rfl) rfl ?_
 refine WPL.q (q_fieldAddr fi43_1 rfl rfl) rfl ?_
 refine WPL.q (q_load sc41 rfl rfl rfl) rfl ?_
 refine WPL.q (q_conv Tryd.underlying41 Tryd.underlying2 rfl) rfl ?_
 refine WPL.q (q_as (v := .lit (.int _ _)) rfl) rfl ?_
 refine WPL.nilW ?_
 refine W.now ?_
 refine Then.n ?_
 refine WP.seq ?_
 obtain ⟨x1735, H1737, H⟩ := bnd H
 refine WP.monoW (Q := fun x E M => x = .normal ∧ E = (((Env.none.upd 1 (.ptr 0 0)).upd 2 (.ptr 1 0)).upd 8 (.lit (.int .i64 x1735))) ∧ M = ((Mem.nil.push (.cells 48 [.lit (.bool x1007), .lit (.int .u64 x1695), .lit (.int .u64 x1696), .lit (.int .i64 x1697)])).push (.cells 23 [.lit (.int .i64 0), .lit (.int .i64 0)]))) ?_ ?_
 · clear H
   have H := H1737
   clear H1737
   refine WP.seq ?_
   refine WP.region ?_
   refine WPL.q (q_fieldAddr fi48_0 rfl rfl) rfl ?_
   refine WPL.q (q_load sc4 rfl rfl rfl) rfl ?_
   refine WPL.nilW ?_
   refine W.now ?_
   refine Then.n ?_
   refine WP.cond (t := x1007) rfl (fun hb1735 => ?_) (fun hb1735 => ?_)
   · replace H := cnt hb1735 H
     refine WP.region ?_
     refine WPL.q (q_mv (v := .lit (.int _ _)) rfl) rfl ?_
     obtain ⟨x1737, h1737, H⟩ := bnd H
     refine WPL.q (q_nm (q_neg rfl) (nm_int h1737)) rfl ?_
     refine WPL.q (q_as (v := .lit (.int _ _)) rfl) rfl ?_
     refine WPL.nilW ?_
     have q0 := (Option.some.inj H)
     subst q0
     exact W.wk [0, 1] hnp ⟨rfl, rfl, rfl⟩ ⟨rfl, ⟨⟨trivial, .inr ⟨rfl, rfl, rfl⟩⟩, .inr ⟨rfl, rfl, rfl⟩⟩, by decide, rfl, trivial⟩ (LeE.upd rfl rfl (LeE.upd rfl rfl (LeE.upd rfl rfl (LeE.none rfl rfl)))) rfl
   replace H := cnf hb1735 H
   refine WP.skipW ?_
   have q0 := (Option.some.inj H)
   subst q0
   exact W.wk [0, 1] hnp ⟨rfl, rfl, rfl⟩ ⟨rfl, ⟨⟨trivial, .inr ⟨rfl, rfl, rfl⟩⟩, .inr ⟨rfl, rfl, rfl⟩⟩, by decide, rfl, trivial⟩ (LeE.upd rfl rfl (LeE.upd rfl rfl (LeE.upd rfl rfl (LeE.none rfl rfl)))) rfl
 rintro _ _ _ ⟨rfl, rfl, rfl⟩
 refine W.now ?_
 refine Then.n ?_
 refine WP.seq ?_
 refine WP.region ?_
 refine WPL.q (q_mv (v := .lit (.int _ _)) rfl) rfl ?_
 refine WPL.q (q_fieldAddr fi48_2 rfl rfl) rfl ?_
 refine WPL.q (q_load sc3 rfl rfl rfl) rfl ?_
 refine WPL.q (q_build bu23 rfl) rfl ?_
 refine WPL.s (s_store sz23 rfl rfl rfl rfl rfl) ?_
 refine WPL.q (q_as (v := .lit (.int _ _)) rfl) rfl ?_
 refine WPL.nilW ?_
 refine W.now ?_
 refine Then.n ?_
 refine WP.retW ?_
 have q0 := (Prod.mk.inj (Option.some.inj H)).1
 have q1 := (Prod.mk.inj (Prod.mk.inj (Option.some.inj H)).2).1
 have q2 := (Prod.mk.inj (Prod.mk.inj (Option.some.inj H)).2).2
 subst q0
 subst q1
 subst q2
 exact W.now (BodyR.mkR trivial rfl [1] ⟨rfl, rfl⟩ ⟨rfl, ⟨trivial, .inr ⟨rfl, rfl, rfl⟩⟩, by decide, rfl, trivial⟩ rfl rfl)
end Go.Proofs.YtdbeblgfccjbgaaDoor.W
namespace Go.Proofs.YtdbeblgfccjbgaaDoor.W
open Go Go.Q Go.Proofs
set_option linter.unusedVariables false
set_option linter.unusedSimpArgs false
set_option maxRecDepth 100000 in
set_option maxHeartbeats 4000000 in
theorem s_dec_Parse (k : Nat) (x7 : ByteArray) (x1743 : Int) (x1744 : Int) (x1745 : Int) (H : g_dec_Parse k x7 = some (x1743, x1744, x1745)) : Go.Q.Spec Tryd.prog 5 0 [.lit (.string x7)] Mem.nil (fun o M => o = .ret (.tup [.agg [.lit (.int .i64 x1744), .lit (.int .i64 x1745)], .lit (.int .i64 x1743)]) ∧ M = (Mem.nil.push (.cells 23 [.lit (.int .i64 x1744), .lit (.int .i64 x1745)]))) := by
 unfold g_dec_Parse at H
 refine Go.Q.Spec.of_bodyR (az := [(23, 2)]) (rs := [.cell 2 23, .tmp 3]) (nt := 131) Tryd.func5 rfl rfl (by intro t T h; simp at h; rcases h with ⟨rfl, rfl⟩ <;> first | exact ag23) rfl rfl fun cx hnp => ?_
 refine WP.seq ?_
 refine WP.region ?_
 refine WPL.d (d_alloc ze23 rfl) rfl ?_
 refine WPL.q (q_as (v := .lit (.int _ _)) rfl) rfl ?_
 refine WPL.nilW ?_
 refine W.now ?_
 refine Then.n ?_
 refine WP.seq ?_
 refine WP.region ?_
 refine WPL.q (q_mv (v := .lit (.string _)) rfl) rfl ?_
 refine WPL.q (q_build bu34 rfl) rfl ?_
 refine WPL.d (d_box rfl rfl) rfl ?_
 refine WPL.q (q_as (v := .ptr _ _) rfl) rfl ?_
 refine WPL.nilW ?_
 refine W.now ?_
 refine Then.n ?_
 refine WP.seq ?_
 refine WP.region ?_
 refine WPL.q (q_mv (v := .ptr _ _) rfl) rfl ?_
 obtain ⟨⟨x1747, x1748⟩, h1745, H⟩ := bnd H
 refine WPL.c (runs_call (s := [1]) (t := [1]) (N := 2) (bor := []) fn11 rfl (s_dec_parser_take k (ByteArray.mk #[45]) x7 x1747 x1748 h1745) ⟨rfl, ⟨trivial, .inr ⟨rfl, rfl, rfl⟩⟩, by decide, rfl, trivial⟩ rfl trivial (.ren rfl rfl (.ren rfl rfl .nil)) rfl ⟨trivial, rfl⟩ rfl) rfl ?_
 refine WPL.q (q_as (v := .lit (.bool _)) rfl) rfl ?_
 refine WPL.nilW ?_
 refine W.now ?_
 refine Then.n ?_
 refine WP.seq ?_
 refine WP.region ?_
 refine WPL.q (q_mv (v := .ptr _ _) rfl) rfl ?_
 obtain ⟨⟨x1750, x1751⟩, h1748, H⟩ := bnd H
 refine WPL.c (runs_call (s := [1]) (t := [1]) (N := 2) (bor := []) fn12 rfl (s_dec_parser_some k x1748 x1750 x1751 h1748) ⟨rfl, ⟨trivial, .inr ⟨rfl, rfl, rfl⟩⟩, by decide, rfl, trivial⟩ rfl trivial (.ren rfl rfl .nil) rfl ⟨trivial, rfl⟩ rfl) rfl ?_
 refine WPL.q (q_as (v := .lit (.string _)) rfl) rfl ?_
 refine WPL.q (q_as (v := .lit (.string _)) rfl) rfl ?_
 refine WPL.nilW ?_
 refine W.now ?_
 refine Then.n ?_
 refine WP.seq ?_
 obtain ⟨x1755, H1758, H⟩ := bnd H
 refine WP.monoW (Q := fun x E M => x = .normal ∧ E = ((((((Env.none.upd 2 (.ptr 0 0)).upd 4 (.ptr 1 0)).upd 5 (.lit (.bool x1747))).upd 6 (.lit (.string x1750))).upd 7 (.lit (.string (ByteArray.mk #[])))).upd 8 (.lit (.bool x1755))) ∧ M = ((Mem.nil.push (.cells 23 [.lit (.int .i64 0), .lit (.int .i64 0)])).push (.cells 34 [.lit (.string x1751)]))) ?_ ?_
 · clear H
   have H := H1758
   clear H1758
   refine WP.region ?_
   refine WPL.q (q_mv (v := .lit (.string _)) rfl) rfl ?_
   refine WPL.q (q_len_str Tryd.underlying9 rfl) rfl ?_
   obtain ⟨x1756, h1756, H⟩ := bnd H
   refine WPL.q (q_nm (q_leq rfl rfl) (nm_bool h1756)) rfl ?_
   refine WPL.q (q_mv (v := .lit (.bool _)) rfl) rfl ?_
   refine WPL.split (t := 27) (b := x1756) rfl (fun hb1756 => ?_) (fun hb1756 => ?_)
   · replace H := cnt hb1756 H
     refine WPL.qg rfl rfl (lb hb1756) (q_mv (v := .lit (.string _)) rfl) rfl ?_
     obtain ⟨x1758, h1758, H⟩ := bnd H
     refine WPL.qg rfl rfl (lb hb1756) (q_nm (q_neqs rfl rfl) (nm_bool h1758)) rfl ?_
     refine WPL.q (q_pickT (v := .lit (.bool _)) (lb hb1756) rfl) rfl ?_
     refine WPL.q (q_as (v := .lit (.bool _)) rfl) rfl ?_
     refine WPL.nilW ?_
     have q0 := (Option.some.inj H)
     subst q0
     exact W.wk [0, 1] hnp ⟨rfl, rfl, rfl⟩ ⟨rfl, ⟨⟨trivial, .inr ⟨rfl, rfl, rfl⟩⟩, .inr ⟨rfl, rfl, rfl⟩⟩, by decide, rfl, trivial⟩ (LeE.upd rfl rfl (LeE.upd rfl rfl (LeE.upd rfl rfl (LeE.upd rfl rfl (LeE.upd rfl rfl (LeE.upd rfl rfl (LeE.none rfl rfl))))))) rfl
   replace H := cnf hb1756 H
   refine WPL.skipg (b' := false) rfl rfl (lb hb1756) rfl rfl ?_
   refine WPL.skipg (b' := false) rfl rfl (lb hb1756) rfl rfl ?_
   refine WPL.q (q_pickF (v := .lit (.bool _)) (lb hb1756) rfl) rfl ?_
   refine WPL.q (q_as (v := .lit (.bool _)) rfl) rfl ?_
   refine WPL.nilW ?_
   have q0 := (Option.some.inj H)
   subst q0
   exact W.wk [0, 1] hnp ⟨rfl, rfl, rfl⟩ ⟨rfl, ⟨⟨trivial, .inr ⟨rfl, rfl, rfl⟩⟩, .inr ⟨rfl, rfl, rfl⟩⟩, by decide, rfl, trivial⟩ (LeE.upd rfl rfl (LeE.upd rfl rfl (LeE.upd rfl rfl (LeE.upd rfl rfl (LeE.upd rfl rfl (LeE.upd rfl rfl (LeE.none rfl rfl))))))) rfl
 rintro _ _ _ ⟨rfl, rfl, rfl⟩
 refine W.now ?_
 refine Then.n ?_
 refine WP.seq ?_
 obtain ⟨⟨x1769, x1770, x1771⟩, H1780, H⟩ := bnd H
 refine WP.monoW (Q := fun x E M => x = .normal ∧ E = ((((((Env.none.upd 2 (.ptr 0 0)).upd 4 (.ptr 1 0)).upd 5 (.lit (.bool x1747))).upd 6 (.lit (.string x1750))).upd 7 (.lit (.string x1769))).upd 8 (.lit (.bool x1770))) ∧ M = ((Mem.nil.push (.cells 23 [.lit (.int .i64 0), .lit (.int .i64 0)])).push (.cells 34 [.lit (.string x1771)]))) ?_ ?_
 · clear H
   have H := H1780
   clear H1780
   refine WP.seq ?_
   refine WP.region ?_
   refine WPL.q (q_mv (v := .ptr _ _) rfl) rfl ?_
   obtain ⟨⟨x1773, x1774⟩, h1771, H⟩ := bnd H
   refine WPL.c (runs_call (s := [1]) (t := [1]) (N := 2) (bor := []) fn11 rfl (s_dec_parser_take k (ByteArray.mk #[46]) x1751 x1773 x1774 h1771) ⟨rfl, ⟨trivial, .inr ⟨rfl, rfl, rfl⟩⟩, by decide, rfl, trivial⟩ rfl trivial (.ren rfl rfl (.ren rfl rfl .nil)) rfl ⟨trivial, rfl⟩ rfl) rfl ?_
   refine WPL.nilW ?_
   refine W.now ?_
   refine Then.n ?_
   refine WP.cond (t := x1773) rfl (fun hb1774 => ?_) (fun hb1774 => ?_)
   · replace H := cnt hb1774 H
     refine WP.seq ?_
     refine WP.region ?_
     refine WPL.q (q_mv (v := .ptr _ _) rfl) rfl ?_
     obtain ⟨⟨x1777, x1778⟩, h1775, H⟩ := bnd H
     refine WPL.c (runs_call (s := [1]) (t := [1]) (N := 2) (bor := []) fn12 rfl (s_dec_parser_some k x1774 x1777 x1778 h1775) ⟨rfl, ⟨trivial, .inr ⟨rfl, rfl, rfl⟩⟩, by decide, rfl, trivial⟩ rfl trivial (.ren rfl rfl .nil) rfl ⟨trivial, rfl⟩ rfl) rfl ?_
     refine WPL.q (q_as (v := .lit (.string _)) rfl) rfl ?_
     refine WPL.nilW ?_
     refine W.now ?_
     refine Then.n ?_
     refine WP.region ?_
     refine WPL.q (q_mv (v := .lit (.bool _)) rfl) rfl ?_
     refine WPL.q (q_mv (v := .lit (.bool _)) rfl) rfl ?_
     refine WPL.split (t := 36) (b := x1755) rfl (fun hb1778 => ?_) (fun hb1778 => ?_)
     · replace H := cnt hb1778 H
       refine WPL.qg rfl rfl (lb hb1778) (q_mv (v := .lit (.string _)) rfl) rfl ?_
       obtain ⟨x1780, h1780, H⟩ := bnd H
       refine WPL.qg rfl rfl (lb hb1778) (q_nm (q_neqs rfl rfl) (nm_bool h1780)) rfl ?_
       refine WPL.q (q_pickT (v := .lit (.bool _)) (lb hb1778) rfl) rfl ?_
       refine WPL.q (q_as (v := .lit (.bool _)) rfl) rfl ?_
       refine WPL.nilW ?_
       have q0 := (Prod.mk.inj (Option.some.inj H)).1
       have q1 := (Prod.mk.inj (Prod.mk.inj (Option.some.inj H)).2).1
       have q2 := (Prod.mk.inj (Prod.mk.inj (Option.some.inj H)).2).2
       subst q0
       subst q1
       subst q2
       exact W.wk [0, 1] hnp ⟨rfl, rfl, rfl⟩ ⟨rfl, ⟨⟨trivial, .inr ⟨rfl, rfl, rfl⟩⟩, .inr ⟨rfl, rfl, rfl⟩⟩, by decide, rfl, trivial⟩ (LeE.upd rfl rfl (LeE.upd rfl rfl (LeE.upd rfl rfl (LeE.upd rfl rfl (LeE.upd rfl rfl (LeE.upd rfl rfl (LeE.none rfl rfl))))))) rfl
     replace H := cnf hb1778 H
     refine WPL.skipg (b' := false) rfl rfl (lb hb1778) rfl rfl ?_
     refine WPL.skipg (b' := false) rfl rfl (lb hb1778) rfl rfl ?_
     refine WPL.q (q_pickF (v := .lit (.bool _)) (lb hb1778) rfl) rfl ?_
     refine WPL.q (q_as (v := .lit (.bool _)) rfl) rfl ?_
     refine WPL.nilW ?_
     have q0 := (Prod.mk.inj (Option.some.inj H)).1
     have q1 := (Prod.mk.inj (Prod.mk.inj (Option.some.inj H)).2).1
     have q2 := (Prod.mk.inj (Prod.mk.inj (Option.some.inj H)).2).2
     subst q0
     subst q1
     subst q2
     exact W.wk [0, 1] hnp ⟨rfl, rfl, rfl⟩ ⟨rfl, ⟨⟨trivial, .inr ⟨rfl, rfl, rfl⟩⟩, .inr ⟨rfl, rfl, rfl⟩⟩, by decide, rfl, trivial⟩ (LeE.upd rfl rfl (LeE.upd rfl rfl (LeE.upd rfl rfl (LeE.upd rfl rfl (LeE.upd rfl rfl (LeE.upd rfl rfl (LeE.none rfl rfl))))))) rfl
   replace H := cnf hb1774 H
   refine WP.skipW ?_
   have q0 := (Prod.mk.inj (Option.some.inj H)).1
   have q1 := (Prod.mk.inj (Prod.mk.inj (Option.some.inj H)).2).1
   have q2 := (Prod.mk.inj (Prod.mk.inj (Option.some.inj H)).2).2
   subst q0
   subst q1
   subst q2
   exact W.wk [0, 1] hnp ⟨rfl, rfl, rfl⟩ ⟨rfl, ⟨⟨trivial, .inr ⟨rfl, rfl, rfl⟩⟩, .inr ⟨rfl, rfl, rfl⟩⟩, by decide, rfl, trivial⟩ (LeE.upd rfl rfl (LeE.upd rfl rfl (LeE.upd rfl rfl (LeE.upd rfl rfl (LeE.upd rfl rfl (LeE.upd rfl rfl (LeE.none rfl rfl))))))) rfl
 rintro _ _ _ ⟨rfl, rfl, rfl⟩
 refine W.now ?_
 refine Then.n ?_
 refine WP.seq ?_
 refine WP.region ?_
 refine WPL.d (d_alloc ze3 rfl) rfl ?_
 refine WPL.s (s_store sz3 rfl rfl rfl rfl rfl) ?_
 refine WPL.nilW ?_
 refine W.now ?_
 refine Then.n ?_
 refine WP.seq ?_
 obtain ⟨⟨x1887, x1888, x1889⟩, H2005, H⟩ := bnd H
 refine WP.monoW (Q := fun x E M => x = .normal ∧ E = ((((((((⟨fun _ => .any, [3], []⟩ : Env).upd 2 (.ptr 0 0)).upd 4 (.ptr 1 0)).upd 5 (.lit (.bool x1747))).upd 6 (.lit (.string x1750))).upd 7 (.lit (.string x1769))).upd 8 (.lit (.bool x1887))).upd 9 (.ptr 2 0)) ∧ M = ((((Mem.nil.push (.cells 23 [.lit (.int .i64 0), .lit (.int .i64 0)])).push (.cells 34 [.lit (.string x1888)])).push (.cells 3 [.lit (.int .i64 x1889)])).push (.bag))) ?_ ?_
 · clear H
   have H := H2005
   clear H2005
   refine WP.seq ?_
   obtain ⟨⟨x1897, x1898⟩, H1905, H⟩ := bnd H
   refine WP.monoW (Q := fun x E M => x = .normal ∧ E = ((((((((Env.none.upd 2 (.ptr 0 0)).upd 4 (.ptr 1 0)).upd 5 (.lit (.bool x1747))).upd 6 (.lit (.string x1750))).upd 7 (.lit (.string x1769))).upd 8 (.lit (.bool x1770))).upd 9 (.ptr 2 0)).upd 45 (.lit (.bool x1897))) ∧ M = (((Mem.nil.push (.cells 23 [.lit (.int .i64 0), .lit (.int .i64 0)])).push (.cells 34 [.lit (.string x1898)])).push (.cells 3 [.lit (.int .i64 0)]))) ?_ ?_
   · clear H
     have H := H1905
     clear H1905
     refine WP.region ?_
     refine WPL.q (q_mv (v := .ptr _ _) rfl) rfl ?_
     obtain ⟨⟨x1900, x1901⟩, h1898, H⟩ := bnd H
     refine WPL.c (runs_call (s := [1]) (t := [1]) (N := 3) (bor := []) fn11 rfl (s_dec_parser_take k (ByteArray.mk #[101]) x1771 x1900 x1901 h1898) ⟨rfl, ⟨trivial, .inr ⟨rfl, rfl, rfl⟩⟩, by decide, rfl, trivial⟩ rfl trivial (.ren rfl rfl (.ren rfl rfl .nil)) rfl ⟨trivial, rfl⟩ rfl) rfl ?_
     refine WPL.q (q_mv (v := .lit (.bool _)) rfl) rfl ?_
     refine WPL.split (t := 42) (b := x1900) rfl (fun hb1901 => ?_) (fun hb1901 => ?_)
     · replace H := cnt hb1901 H
       refine WPL.skipg (b' := true) rfl rfl (lb hb1901) rfl rfl ?_
       refine WPL.skipg (b' := true) rfl rfl (lb hb1901) rfl rfl ?_
       refine WPL.q (q_pickT (v := .lit (.bool _)) (lb hb1901) rfl) rfl ?_
       refine WPL.nilW ?_
       have q0 := (Prod.mk.inj (Option.some.inj H)).1
       have q1 := (Prod.mk.inj (Option.some.inj H)).2
       subst q0
       subst q1
       exact W.wk [0, 1, 2] hnp ⟨rfl, rfl, rfl⟩ ⟨rfl, ⟨⟨⟨trivial, .inr ⟨rfl, rfl, rfl⟩⟩, .inr ⟨rfl, rfl, rfl⟩⟩, .inr ⟨rfl, rfl, rfl⟩⟩, by decide, rfl, trivial⟩ (LeE.upd rfl rfl (LeE.upd rfl rfl (LeE.upd rfl rfl (LeE.upd rfl rfl (LeE.upd rfl rfl (LeE.upd rfl rfl (LeE.upd rfl rfl (LeE.upd rfl rfl (LeE.none rfl rfl))))))))) rfl
     replace H := cnf hb1901 H
     refine WPL.qg rfl rfl (lb hb1901) (q_mv (v := .ptr _ _) rfl) rfl ?_
     obtain ⟨⟨x1904, x1905⟩, h1902, H⟩ := bnd H
     refine WPL.cg rfl rfl (lb hb1901) (runs_call (s := [1]) (t := [1]) (N := 3) (bor := []) fn11 rfl (s_dec_parser_take k (ByteArray.mk #[69]) x1901 x1904 x1905 h1902) ⟨rfl, ⟨trivial, .inr ⟨rfl, rfl, rfl⟩⟩, by decide, rfl, trivial⟩ rfl trivial (.ren rfl rfl (.ren rfl rfl .nil)) rfl ⟨trivial, rfl⟩ rfl) rfl ?_
     refine WPL.q (q_pickF (v := .lit (.bool _)) (lb hb1901) rfl) rfl ?_
     refine WPL.nilW ?_
     have q0 := (Prod.mk.inj (Option.some.inj H)).1
     have q1 := (Prod.mk.inj (Option.some.inj H)).2
     subst q0
     subst q1
     exact W.wk [0, 1, 2] hnp ⟨rfl, rfl, rfl⟩ ⟨rfl, ⟨⟨⟨trivial, .inr ⟨rfl, rfl, rfl⟩⟩, .inr ⟨rfl, rfl, rfl⟩⟩, .inr ⟨rfl, rfl, rfl⟩⟩, by decide, rfl, trivial⟩ (LeE.upd rfl rfl (LeE.upd rfl rfl (LeE.upd rfl rfl (LeE.upd rfl rfl (LeE.upd rfl rfl (LeE.upd rfl rfl (LeE.upd rfl rfl (LeE.upd rfl rfl (LeE.none rfl rfl))))))))) rfl
   rintro _ _ _ ⟨rfl, rfl, rfl⟩
   refine W.now ?_
   refine Then.n ?_
   refine WP.cond (t := x1897) rfl (fun hb1906 => ?_) (fun hb1906 => ?_)
   · replace H := cnt hb1906 H
     refine WP.seq ?_
     refine WP.region ?_
     refine WPL.q (q_mv (v := .ptr _ _) rfl) rfl ?_
     obtain ⟨⟨x1909, x1910⟩, h1907, H⟩ := bnd H
     refine WPL.c (runs_call (s := [1]) (t := [1]) (N := 3) (bor := []) fn11 rfl (s_dec_parser_take k (ByteArray.mk #[45]) x1898 x1909 x1910 h1907) ⟨rfl, ⟨trivial, .inr ⟨rfl, rfl, rfl⟩⟩, by decide, rfl, trivial⟩ rfl trivial (.ren rfl rfl (.ren rfl rfl .nil)) rfl ⟨trivial, rfl⟩ rfl) rfl ?_
     refine WPL.q (q_as (v := .lit (.bool _)) rfl) rfl ?_
     refine WPL.nilW ?_
     refine W.now ?_
     refine Then.n ?_
     refine WP.seq ?_
     obtain ⟨x1915, H1919, H⟩ := bnd H
     refine WP.monoW (Q := fun x E M => x = .normal ∧ E = ((((((((Env.none.upd 2 (.ptr 0 0)).upd 4 (.ptr 1 0)).upd 5 (.lit (.bool x1747))).upd 6 (.lit (.string x1750))).upd 7 (.lit (.string x1769))).upd 8 (.lit (.bool x1770))).upd 9 (.ptr 2 0)).upd 10 (.lit (.bool x1909))) ∧ M = (((Mem.nil.push (.cells 23 [.lit (.int .i64 0), .lit (.int .i64 0)])).push (.cells 34 [.lit (.string x1915)])).push (.cells 3 [.lit (.int .i64 0)]))) ?_ ?_
     · clear H
       have H := H1919
       clear H1919
       refine WP.seq ?_
       refine WP.region ?_
       refine WPL.q (q_mv (v := .lit (.bool _)) rfl) rfl ?_
       refine WPL.q (q_not rfl) rfl ?_
       refine WPL.nilW ?_
       refine W.now ?_
       refine Then.n ?_
       refine WP.cond (t := (!x1909)) rfl (fun hb1915 => ?_) (fun hb1915 => ?_)
       · replace H := cnt hb1915 H
         refine WP.region ?_
         refine WPL.q (q_mv (v := .ptr _ _) rfl) rfl ?_
         obtain ⟨⟨x1918, x1919⟩, h1916, H⟩ := bnd H
         refine WPL.c (runs_call (s := [1]) (t := [1]) (N := 3) (bor := []) fn11 rfl (s_dec_parser_take k (ByteArray.mk #[43]) x1910 x1918 x1919 h1916) ⟨rfl, ⟨trivial, .inr ⟨rfl, rfl, rfl⟩⟩, by decide, rfl, trivial⟩ rfl trivial (.ren rfl rfl (.ren rfl rfl .nil)) rfl ⟨trivial, rfl⟩ rfl) rfl ?_
         refine WPL.nilW ?_
         have q0 := (Option.some.inj H)
         subst q0
         exact W.wk [0, 1, 2] hnp ⟨rfl, rfl, rfl⟩ ⟨rfl, ⟨⟨⟨trivial, .inr ⟨rfl, rfl, rfl⟩⟩, .inr ⟨rfl, rfl, rfl⟩⟩, .inr ⟨rfl, rfl, rfl⟩⟩, by decide, rfl, trivial⟩ (LeE.upd rfl rfl (LeE.upd rfl rfl (LeE.upd rfl rfl (LeE.upd rfl rfl (LeE.upd rfl rfl (LeE.upd rfl rfl (LeE.upd rfl rfl (LeE.upd rfl rfl (LeE.none rfl rfl))))))))) rfl
       replace H := cnf hb1915 H
       refine WP.skipW ?_
       have q0 := (Option.some.inj H)
       subst q0
       exact W.wk [0, 1, 2] hnp ⟨rfl, rfl, rfl⟩ ⟨rfl, ⟨⟨⟨trivial, .inr ⟨rfl, rfl, rfl⟩⟩, .inr ⟨rfl, rfl, rfl⟩⟩, .inr ⟨rfl, rfl, rfl⟩⟩, by decide, rfl, trivial⟩ (LeE.upd rfl rfl (LeE.upd rfl rfl (LeE.upd rfl rfl (LeE.upd rfl rfl (LeE.upd rfl rfl (LeE.upd rfl rfl (LeE.upd rfl rfl (LeE.upd rfl rfl (LeE.none rfl rfl))))))))) rfl
     rintro _ _ _ ⟨rfl, rfl, rfl⟩
     refine W.now ?_
     refine Then.n ?_
     refine WP.seq ?_
     refine WP.region ?_
     refine WPL.q (q_mv (v := .ptr _ _) rfl) rfl ?_
     obtain ⟨⟨x1922, x1923⟩, h1920, H⟩ := bnd H
     refine WPL.c (runs_call (s := [1]) (t := [1]) (N := 3) (bor := []) fn12 rfl (s_dec_parser_some k x1915 x1922 x1923 h1920) ⟨rfl, ⟨trivial, .inr ⟨rfl, rfl, rfl⟩⟩, by decide, rfl, trivial⟩ rfl trivial (.ren rfl rfl .nil) rfl ⟨trivial, rfl⟩ rfl) rfl ?_
     refine WPL.q (q_as (v := .lit (.string _)) rfl) rfl ?_
     refine WPL.nilW ?_
     refine W.now ?_
     refine Then.n ?_
     refine WP.seq ?_
     obtain ⟨x1928, H1932, H⟩ := bnd H
     refine WP.monoW (Q := fun x E M => x = .normal ∧ E = (((((((((Env.none.upd 2 (.ptr 0 0)).upd 4 (.ptr 1 0)).upd 5 (.lit (.bool x1747))).upd 6 (.lit (.string x1750))).upd 7 (.lit (.string x1769))).upd 8 (.lit (.bool x1928))).upd 9 (.ptr 2 0)).upd 10 (.lit (.bool x1909))).upd 11 (.lit (.string x1922))) ∧ M = (((Mem.nil.push (.cells 23 [.lit (.int .i64 0), .lit (.int .i64 0)])).push (.cells 34 [.lit (.string x1923)])).push (.cells 3 [.lit (.int .i64 0)]))) ?_ ?_
     · clear H
       have H := H1932
       clear H1932
       refine WP.region ?_
       refine WPL.q (q_mv (v := .lit (.bool _)) rfl) rfl ?_
       refine WPL.q (q_mv (v := .lit (.bool _)) rfl) rfl ?_
       refine WPL.split (t := 55) (b := x1770) rfl (fun hb1928 => ?_) (fun hb1928 => ?_)
       · replace H := cnt hb1928 H
         refine WPL.qg rfl rfl (lb hb1928) (q_mv (v := .lit (.string _)) rfl) rfl ?_
         refine WPL.qg rfl rfl (lb hb1928) (q_len_str Tryd.underlying9 rfl) rfl ?_
         obtain ⟨x1930, h1930, H⟩ := bnd H
         refine WPL.qg rfl rfl (lb hb1928) (q_nm (q_geq rfl rfl) (nm_bool h1930)) rfl ?_
         refine WPL.q (q_pickT (v := .lit (.bool _)) (lb hb1928) rfl) rfl ?_
         refine WPL.q (q_mv (v := .lit (.bool _)) rfl) rfl ?_
         refine WPL.split (t := 60) (b := x1930) rfl (fun hb1930 => ?_) (fun hb1930 => ?_)
         · replace H := cnt hb1930 H
           refine WPL.qg rfl rfl (lb hb1930) (q_mv (v := .lit (.string _)) rfl) rfl ?_
           refine WPL.qg rfl rfl (lb hb1930) (q_len_str Tryd.underlying9 rfl) rfl ?_
           obtain ⟨x1932, h1932, H⟩ := bnd H
           refine WPL.qg rfl rfl (lb hb1930) (q_nm (q_leq rfl rfl) (nm_bool h1932)) rfl ?_
           refine WPL.q (q_pickT (v := .lit (.bool _)) (lb hb1930) rfl) rfl ?_
           refine WPL.q (q_as (v := .lit (.bool _)) rfl) rfl ?_
           refine WPL.nilW ?_
           have q0 := (Option.some.inj H)
           subst q0
           exact W.wk [0, 1, 2] hnp ⟨rfl, rfl, rfl⟩ ⟨rfl, ⟨⟨⟨trivial, .inr ⟨rfl, rfl, rfl⟩⟩, .inr ⟨rfl, rfl, rfl⟩⟩, .inr ⟨rfl, rfl, rfl⟩⟩, by decide, rfl, trivial⟩ (LeE.upd rfl rfl (LeE.upd rfl rfl (LeE.upd rfl rfl (LeE.upd rfl rfl (LeE.upd rfl rfl (LeE.upd rfl rfl (LeE.upd rfl rfl (LeE.upd rfl rfl (LeE.upd rfl rfl (LeE.none rfl rfl)))))))))) rfl
         replace H := cnf hb1930 H
         refine WPL.skipg (b' := false) rfl rfl (lb hb1930) rfl rfl ?_
         refine WPL.skipg (b' := false) rfl rfl (lb hb1930) rfl rfl ?_
         refine WPL.skipg (b' := false) rfl rfl (lb hb1930) rfl rfl ?_
         refine WPL.q (q_pickF (v := .lit (.bool _)) (lb hb1930) rfl) rfl ?_
         refine WPL.q (q_as (v := .lit (.bool _)) rfl) rfl ?_
         refine WPL.nilW ?_
         have q0 := (Option.some.inj H)
         subst q0
         exact W.wk [0, 1, 2] hnp ⟨rfl, rfl, rfl⟩ ⟨rfl, ⟨⟨⟨trivial, .inr ⟨rfl, rfl, rfl⟩⟩, .inr ⟨rfl, rfl, rfl⟩⟩, .inr ⟨rfl, rfl, rfl⟩⟩, by decide, rfl, trivial⟩ (LeE.upd rfl rfl (LeE.upd rfl rfl (LeE.upd rfl rfl (LeE.upd rfl rfl (LeE.upd rfl rfl (LeE.upd rfl rfl (LeE.upd rfl rfl (LeE.upd rfl rfl (LeE.upd rfl rfl (LeE.none rfl rfl)))))))))) rfl
       replace H := cnf hb1928 H
       refine WPL.skipg (b' := false) rfl rfl (lb hb1928) rfl rfl ?_
       refine WPL.skipg (b' := false) rfl rfl (lb hb1928) rfl rfl ?_
       refine WPL.skipg (b' := false) rfl rfl (lb hb1928) rfl rfl ?_
       refine WPL.q (q_pickF (v := .lit (.bool _)) (lb hb1928) rfl) rfl ?_
       refine WPL.q (q_mv (v := .lit (.bool _)) rfl) rfl ?_
       refine WPL.skipg (b' := false) rfl rfl rfl rfl rfl ?_
       refine WPL.skipg (b' := false) rfl rfl rfl rfl rfl ?_
       refine WPL.skipg (b' := false) rfl rfl rfl rfl rfl ?_
       refine WPL.q (q_pickF (v := .lit (.bool _)) rfl rfl) rfl ?_
       refine WPL.q (q_as (v := .lit (.bool _)) rfl) rfl ?_
       refine WPL.nilW ?_
       have q0 := (Option.some.inj H)
       subst q0
       exact W.wk [0, 1, 2] hnp ⟨rfl, rfl, rfl⟩ ⟨rfl, ⟨⟨⟨trivial, .inr ⟨rfl, rfl, rfl⟩⟩, .inr ⟨rfl, rfl, rfl⟩⟩, .inr ⟨rfl, rfl, rfl⟩⟩, by decide, rfl, trivial⟩ (LeE.upd rfl rfl (LeE.upd rfl rfl (LeE.upd rfl rfl (LeE.upd rfl rfl (LeE.upd rfl rfl (LeE.upd rfl rfl (LeE.upd rfl rfl (LeE.upd rfl rfl (LeE.upd rfl rfl (LeE.none rfl rfl)))))))))) rfl
     rintro _ _ _ ⟨rfl, rfl, rfl⟩
     refine W.now ?_
     refine Then.n ?_
     refine WP.seq ?_
     obtain ⟨x1963, H2003, H⟩ := bnd H
     refine WP.monoW (Q := fun x E M => x = .normal ∧ E = (((((((((⟨fun _ => .any, [3], []⟩ : Env).upd 2 (.ptr 0 0)).upd 4 (.ptr 1 0)).upd 5 (.lit (.bool x1747))).upd 6 (.lit (.string x1750))).upd 7 (.lit (.string x1769))).upd 8 (.lit (.bool x1928))).upd 9 (.ptr 2 0)).upd 10 (.lit (.bool x1909))) ∧ M = ((((Mem.nil.push (.cells 23 [.lit (.int .i64 0), .lit (.int .i64 0)])).push (.cells 34 [.lit (.string x1923)])).push (.cells 3 [.lit (.int .i64 x1963)])).push (.bag))) ?_ ?_
     · clear H
       have H := H2003
       clear H2003
       refine WP.seq ?_
       refine WP.region ?_
       refine WPL.q (q_mv (v := .lit (.bool _)) rfl) rfl ?_
       refine WPL.nilW ?_
       refine W.now ?_
       refine Then.n ?_
       refine WP.cond (t := x1928) rfl (fun hb1963 => ?_) (fun hb1963 => ?_)
       · replace H := cnt hb1963 H
         refine WP.seq ?_
         refine WP.region ?_
         refine WPL.q (q_mv (v := .lit (.string _)) rfl) rfl ?_
         obtain ⟨_, h1964, H⟩ := bnd H
         refine WPL.c (runs_call (s := []) (t := [3]) (N := 4) (bor := []) fn13 rfl (s_dec_values k x1922 h1964) ⟨rfl, trivial, by decide, rfl, trivial⟩ rfl trivial (.ren rfl rfl .nil) rfl ⟨trivial, rfl⟩ rfl) rfl ?_
         refine WPL.nilW ?_
         refine W.now ?_
         refine Then.n ?_
         refine WP.block ?_
         refine WP.cv (Cv.nullMark (N := 4) rfl rfl) ?_
         refine WP.range (nti := 18) (n := 5) rfl rfl Tryd.func33 rfl (by kernel_rfl) rfl rfl rfl rfl fun l_1965 r_1965 aC1965 hp1965 ha1965 hb1965 ht1965 hs1965 => ?_
         refine WP.seq ?_
         refine WP.region ?_
         refine WPL.q (q_load sc9 rfl rfl rfl) rfl ?_
         refine WPL.q (q_len_str Tryd.underlying9 rfl) rfl ?_
         refine WPL.q (q_mv (v := .lit (.int _ _)) rfl) rfl ?_
         refine WPL.nilW ?_
         refine W.now ?_
         refine Then.n ?_
         refine WP.block ?_
         refine WP.cv (Cv.weak (E' := (((((⟨fun _ => .any, [], [⟨aC1965, ((((((((((Env.none.upd 2 (.ptr 1 0)).upd 4 (.ptr 2 0)).upd 5 (.lit (.bool x1747))).upd 6 (.lit (.string x1750))).upd 7 (.lit (.string x1769))).upd 8 (.lit (.bool x1928))).upd 9 (.ptr 3 0)).upd 10 (.lit (.bool x1909))).upd 67 (.fn 33 [.ptr 0 0]))).v, [4, 5], some (6, l_1965)⟩]⟩ : Env).upd 0 (.lit (.func (.yield l_1965) #[] #[]))).upd 1 (.ptr 0 0)).upd 5 (.lit (.int .i64 ((ByteArray.size x1922 : Nat) : Int)))).upd 6 (.lit (.int .i64 0)))) (M' := (((((((Mem.nil.push (.cells 9 [.lit (.string x1922)])).push (.cells 23 [.lit (.int .i64 0), .lit (.int .i64 0)])).push (.cells 34 [.lit (.string x1923)])).push (.cells 3 [.lit (.int .i64 0)])).push (.obj (Obj.deferred (some [])))).push (.bag)).push (.obj (lp r_1965 .ready none)))) [3, 0, 1, 2, 5, 4, 6] hnp ⟨rfl, ⟨⟨⟨⟨⟨⟨⟨trivial, .inr ⟨rfl, rfl, rfl⟩⟩, .inr ⟨rfl, rfl, rfl⟩⟩, .inr ⟨rfl, rfl, rfl⟩⟩, .inr ⟨rfl, rfl, rfl⟩⟩, .inr ⟨rfl, rfl, rfl⟩⟩, .inr ⟨rfl, rfl, rfl⟩⟩, .inr ⟨rfl, rfl, rfl⟩⟩, by decide, rfl, trivial⟩ (LeE.upd rfl rfl (LeE.upd rfl rfl (LeE.upd rfl rfl (LeE.upd rfl rfl (LeE.noneD rfl rfl (.cons ⟨rfl, (LeV.upd rfl rfl (LeV.upd rfl rfl (LeV.upd rfl rfl (LeV.upd rfl rfl (LeV.upd rfl rfl (LeV.upd rfl rfl (LeV.upd rfl rfl (LeV.upd rfl rfl (LeV.upd rfl rfl LeV.none))))))))), rfl, rfl, rfl, rfl⟩ .nil))))))) ?_
         obtain ⟨x1991, H2002, H⟩ := bnd H
         refine WP.monoW (Q := fun x E M => x = .exit 0 ∧ E = (⟨fun _ => .any, [], [⟨aC1965, ((((((((((Env.none.upd 2 (.ptr 0 0)).upd 4 (.ptr 1 0)).upd 5 (.lit (.bool x1747))).upd 6 (.lit (.string x1750))).upd 7 (.lit (.string x1769))).upd 8 (.lit (.bool x1928))).upd 9 (.ptr 2 0)).upd 10 (.lit (.bool x1909))).upd 67 (.fn 33 [.ptr 3 0]))).v, [4, 5], some (6, l_1965)⟩]⟩ : Env) ∧ M = (((((((Mem.nil.push (.cells 23 [.lit (.int .i64 0), .lit (.int .i64 0)])).push (.cells 34 [.lit (.string x1923)])).push (.cells 3 [.lit (.int .i64 x1991)])).push (.cells 9 [.lit (.string x1922)])).push (.obj (Obj.deferred (some [])))).push (.bag)).push (.obj (lp r_1965 .ready none)))) ?_ ?_
         · refine WP.loop (β := Int × Int) (fun n b => g_dec_Parse_l0 k x1922 n b.1 b.2 = some x1991) (fun b => (((((⟨fun _ => .any, [], [⟨aC1965, ((((((((((Env.none.upd 2 (.ptr 1 0)).upd 4 (.ptr 2 0)).upd 5 (.lit (.bool x1747))).upd 6 (.lit (.string x1750))).upd 7 (.lit (.string x1769))).upd 8 (.lit (.bool x1928))).upd 9 (.ptr 3 0)).upd 10 (.lit (.bool x1909))).upd 67 (.fn 33 [.ptr 0 0]))).v, [4, 5], some (6, l_1965)⟩]⟩ : Env).upd 0 (.lit (.func (.yield l_1965) #[] #[]))).upd 1 (.ptr 0 0)).upd 5 (.lit (.int .i64 ((ByteArray.size x1922 : Nat) : Int)))).upd 6 (.lit (.int .i64 b.1)))) (fun b => (((((((Mem.nil.push (.cells 9 [.lit (.string x1922)])).push (.cells 23 [.lit (.int .i64 0), .lit (.int .i64 0)])).push (.cells 34 [.lit (.string x1923)])).push (.cells 3 [.lit (.int .i64 b.2)])).push (.obj (Obj.deferred (some [])))).push (.bag)).push (.obj (lp r_1965 .ready none)))) k (0, 0) H2002 rfl rfl ?_
           rintro n ⟨x1978, x1979⟩ H
           obtain _ | n := n
           · exact nf rfl H
           rw [g_dec_Parse_l0.eq_2] at H
           show WP _ _ _ _ (((((⟨fun _ => .any, [], [⟨aC1965, ((((((((((Env.none.upd 2 (.ptr 1 0)).upd 4 (.ptr 2 0)).upd 5 (.lit (.bool x1747))).upd 6 (.lit (.string x1750))).upd 7 (.lit (.string x1769))).upd 8 (.lit (.bool x1928))).upd 9 (.ptr 3 0)).upd 10 (.lit (.bool x1909))).upd 67 (.fn 33 [.ptr 0 0]))).v, [4, 5], some (6, l_1965)⟩]⟩ : Env).upd 0 (.lit (.func (.yield l_1965) #[] #[]))).upd 1 (.ptr 0 0)).upd 5 (.lit (.int .i64 ((ByteArray.size x1922 : Nat) : Int)))).upd 6 (.lit (.int .i64 x1978))) (((((((Mem.nil.push (.cells 9 [.lit (.string x1922)])).push (.cells 23 [.lit (.int .i64 0), .lit (.int .i64 0)])).push (.cells 34 [.lit (.string x1923)])).push (.cells 3 [.lit (.int .i64 x1979)])).push (.obj (Obj.deferred (some [])))).push (.bag)).push (.obj (lp r_1965 .ready none))) _
           refine WP.seq ?_
           refine WP.region ?_
           obtain ⟨x1992, h1992, H⟩ := bnd H
           refine WPL.q (q_nm (q_lss rfl rfl) (nm_bool h1992)) rfl ?_
           refine WPL.nilW ?_
           refine W.now ?_
           refine Then.n ?_
           refine WP.seq ?_
           refine WP.cond (t := x1992) rfl (fun hb1993 => ?_) (fun hb1993 => ?_)
           · replace H := cnt hb1993 H
             refine WP.skipW ?_
             refine W.now ?_
             refine Then.n ?_
             refine WP.seq ?_
             refine WP.block ?_
             refine WP.seq ?_
             refine WP.region ?_
             refine WPL.q (q_mv (v := .lit (.int _ _)) rfl) rfl ?_
             refine WPL.q (q_as (v := .lit (.int _ _)) rfl) rfl ?_
             refine WPL.nilW ?_
             refine W.now ?_
             refine Then.n ?_
             refine WP.seq ?_
             refine WP.region ?_
             refine WPL.q (q_mv (v := .lit _) rfl) rfl ?_
             refine WPL.q (q_load sc9 rfl rfl rfl) rfl ?_
             refine WPL.q (q_mv (v := .lit (.int _ _)) rfl) rfl ?_
             obtain ⟨x1999, h1999, H⟩ := bnd H
             refine WPL.q (q_index_str Tryd.underlying9 rfl rfl h1999) rfl ?_
             refine WPL.q (q_sub rfl rfl) rfl ?_
             obtain ⟨x2000, h2000, H⟩ := bnd H
             refine WPL.q (q_nm (q_conv Tryd.underlying5 Tryd.underlying3 rfl) (nm_int h2000)) rfl ?_
             refine WPL.y rfl rfl rfl rfl hp1965 ha1965 hb1965 ht1965 hs1965 rfl rfl rfl fun aI2000 => ?_
             refine WP.region ?_
             refine WPL.q (q_as (v := .lit (.int _ _)) rfl) rfl ?_
             refine WPL.nilW ?_
             refine W.now ?_
             refine ⟨rfl, rfl, _, _, _, _, _, _, rfl, rfl, ?_⟩
             refine WP.block ?_
             refine WP.region ?_
             refine WPL.q (q_load sc3 rfl rfl rfl) rfl ?_
             refine WPL.q (q_mul rfl rfl) rfl ?_
             refine WPL.q (q_mv (v := .lit (.int _ _)) rfl) rfl ?_
             obtain ⟨x2002, h2002, H⟩ := bnd H
             refine WPL.q (q_nm (q_add rfl rfl) (nm_int h2002)) rfl ?_
             refine WPL.s (s_store sz3 rfl rfl rfl rfl rfl) ?_
             refine WPL.nilW ?_
             refine W.now ?_
             refine InBlock.n ?_
             refine ⟨rfl, _, _, _, _, _, _, rfl, rfl, _, rfl, ?_⟩
             refine WPL.q (q_not rfl) rfl ?_
             refine WPL.nilW ?_
             refine W.now ?_
             refine Then.n ?_
             refine WP.condFB (t := (!true)) rfl rfl ?_
             refine WP.skipW ?_
             refine W.now ?_
             refine InBlock.n ?_
             refine Then.n ?_
             refine WP.region ?_
             refine WPL.q (q_add rfl rfl) rfl ?_
             refine WPL.q (q_mv (v := .lit (.int _ _)) rfl) rfl ?_
             refine WPL.nilW ?_
             exact W.wk [0, 1, 2, 3, 4, 5, 6] hnp (Then.n ⟨n, ((IntKind.wrap .i64 (x1978 + 1)), x2002), Nat.lt_succ_self n, H, rfl, rfl⟩) ⟨rfl, ⟨⟨⟨⟨⟨⟨⟨trivial, .inr ⟨rfl, rfl, rfl⟩⟩, .inr ⟨rfl, rfl, rfl⟩⟩, .inr ⟨rfl, rfl, rfl⟩⟩, .inr ⟨rfl, rfl, rfl⟩⟩, .inr ⟨rfl, rfl, rfl⟩⟩, .inr ⟨rfl, rfl, rfl⟩⟩, .inr ⟨rfl, rfl, rfl⟩⟩, by decide, rfl, trivial⟩ (LeE.upd rfl rfl (LeE.upd rfl rfl (LeE.upd rfl rfl (LeE.upd rfl rfl (LeE.noneD rfl rfl (.cons ⟨rfl, (LeV.upd rfl rfl (LeV.upd rfl rfl (LeV.upd rfl rfl (LeV.upd rfl rfl (LeV.upd rfl rfl (LeV.upd rfl rfl (LeV.upd rfl rfl (LeV.upd rfl rfl (LeV.upd rfl rfl LeV.none))))))))), rfl, rfl, rfl, rfl⟩ .nil)))))) rfl
           replace H := cnf hb1993 H
           refine WP.exitW ?_
           have q0 := (Option.some.inj H)
           subst q0
           exact W.wk [1, 2, 3, 0, 4, 5, 6] hnp (Then.x (Then.x ⟨rfl, rfl, rfl⟩)) ⟨rfl, ⟨⟨⟨⟨⟨⟨⟨trivial, .inr ⟨rfl, rfl, rfl⟩⟩, .inr ⟨rfl, rfl, rfl⟩⟩, .inr ⟨rfl, rfl, rfl⟩⟩, .inr ⟨rfl, rfl, rfl⟩⟩, .inr ⟨rfl, rfl, rfl⟩⟩, .inr ⟨rfl, rfl, rfl⟩⟩, .inr ⟨rfl, rfl, rfl⟩⟩, by decide, rfl, trivial⟩ (LeE.noneD rfl rfl (.cons ⟨rfl, (LeV.upd rfl rfl (LeV.upd rfl rfl (LeV.upd rfl rfl (LeV.upd rfl rfl (LeV.upd rfl rfl (LeV.upd rfl rfl (LeV.upd rfl rfl (LeV.upd rfl rfl (LeV.upd rfl rfl LeV.none))))))))), rfl, rfl, rfl, rfl⟩ .nil)) rfl
         rintro _ _ _ ⟨rfl, rfl, rfl⟩
         refine W.now ?_
         refine InBlock.x0 ?_
         refine ⟨trivial, _, _, _, _, rfl, _, _, rfl, (fun h => by cases h), ?_⟩
         refine W.cv (Cv.absorb (N := 7) (j := 4) (i := 5) rfl rfl rfl rfl) rfl ?_
         have q0 := (Option.some.inj H)
         subst q0
         exact W.wk [0, 1, 2, 7] hnp (InBlock.n ⟨rfl, rfl, rfl⟩) ⟨rfl, ⟨⟨⟨⟨trivial, .inr ⟨rfl, rfl, rfl⟩⟩, .inr ⟨rfl, rfl, rfl⟩⟩, .inr ⟨rfl, rfl, rfl⟩⟩, .inr ⟨rfl, rfl, rfl⟩⟩, by decide, rfl, trivial⟩ (LeE.upd rfl rfl (LeE.upd rfl rfl (LeE.upd rfl rfl (LeE.upd rfl rfl (LeE.upd rfl rfl (LeE.upd rfl rfl (LeE.upd rfl rfl (LeE.upd rfl rfl (LeE.noneD rfl rfl .nil))))))))) rfl
       replace H := cnf hb1963 H
       refine WP.skipW ?_
       refine W.cv (Cv.nullMark (N := 3) rfl rfl) rfl ?_
       have q0 := (Option.some.inj H)
       subst q0
       exact W.wk [0, 1, 2, 3] hnp ⟨rfl, rfl, rfl⟩ ⟨rfl, ⟨⟨⟨⟨trivial, .inr ⟨rfl, rfl, rfl⟩⟩, .inr ⟨rfl, rfl, rfl⟩⟩, .inr ⟨rfl, rfl, rfl⟩⟩, .inr ⟨rfl, rfl, rfl⟩⟩, by decide, rfl, trivial⟩ (LeE.upd rfl rfl (LeE.upd rfl rfl (LeE.upd rfl rfl (LeE.upd rfl rfl (LeE.upd rfl rfl (LeE.upd rfl rfl (LeE.upd rfl rfl (LeE.upd rfl rfl (LeE.noneD rfl rfl .nil))))))))) rfl
     rintro _ _ _ ⟨rfl, rfl, rfl⟩
     refine W.now ?_
     refine Then.n ?_
     refine WP.seq ?_
     refine WP.region ?_
     refine WPL.q (q_mv (v := .lit (.bool _)) rfl) rfl ?_
     refine WPL.nilW ?_
     refine W.now ?_
     refine Then.n ?_
     refine WP.cond (t := x1909) rfl (fun hb2004 => ?_) (fun hb2004 => ?_)
     · replace H := cnt hb2004 H
       refine WP.region ?_
       refine WPL.q (q_load sc3 rfl rfl rfl) rfl ?_
       refine WPL.q (q_neg rfl) rfl ?_
       refine WPL.s (s_store sz3 rfl rfl rfl rfl rfl) ?_
       refine WPL.nilW ?_
       have q0 := (Prod.mk.inj (Option.some.inj H)).1
       have q1 := (Prod.mk.inj (Prod.mk.inj (Option.some.inj H)).2).1
       have q2 := (Prod.mk.inj (Prod.mk.inj (Option.some.inj H)).2).2
       subst q0
       subst q1
       subst q2
       exact W.wk [0, 1, 2, 3] hnp ⟨rfl, rfl, rfl⟩ ⟨rfl, ⟨⟨⟨⟨trivial, .inr ⟨rfl, rfl, rfl⟩⟩, .inr ⟨rfl, rfl, rfl⟩⟩, .inr ⟨rfl, rfl, rfl⟩⟩, .inr ⟨rfl, rfl, rfl⟩⟩, by decide, rfl, trivial⟩ (LeE.upd rfl rfl (LeE.upd rfl rfl (LeE.upd rfl rfl (LeE.upd rfl rfl (LeE.upd rfl rfl (LeE.upd rfl rfl (LeE.upd rfl rfl (LeE.noneD rfl rfl .nil)))))))) rfl
     replace H := cnf hb2004 H
     refine WP.skipW ?_
     have q0 := (Prod.mk.inj (Option.some.inj H)).1
     have q1 := (Prod.mk.inj (Prod.mk.inj (Option.some.inj H)).2).1
     have q2 := (Prod.mk.inj (Prod.mk.inj (Option.some.inj H)).2).2
     subst q0
     subst q1
     subst q2
     exact W.wk [0, 1, 2, 3] hnp ⟨rfl, rfl, rfl⟩ ⟨rfl, ⟨⟨⟨⟨trivial, .inr ⟨rfl, rfl, rfl⟩⟩, .inr ⟨rfl, rfl, rfl⟩⟩, .inr ⟨rfl, rfl, rfl⟩⟩, .inr ⟨rfl, rfl, rfl⟩⟩, by decide, rfl, trivial⟩ (LeE.upd rfl rfl (LeE.upd rfl rfl (LeE.upd rfl rfl (LeE.upd rfl rfl (LeE.upd rfl rfl (LeE.upd rfl rfl (LeE.upd rfl rfl (LeE.noneD rfl rfl .nil)))))))) rfl
   replace H := cnf hb1906 H
   refine WP.skipW ?_
   refine W.cv (Cv.nullMark (N := 3) rfl rfl) rfl ?_
   have q0 := (Prod.mk.inj (Option.some.inj H)).1
   have q1 := (Prod.mk.inj (Prod.mk.inj (Option.some.inj H)).2).1
   have q2 := (Prod.mk.inj (Prod.mk.inj (Option.some.inj H)).2).2
   subst q0
   subst q1
   subst q2
   exact W.wk [0, 1, 2, 3] hnp ⟨rfl, rfl, rfl⟩ ⟨rfl, ⟨⟨⟨⟨trivial, .inr ⟨rfl, rfl, rfl⟩⟩, .inr ⟨rfl, rfl, rfl⟩⟩, .inr ⟨rfl, rfl, rfl⟩⟩, .inr ⟨rfl, rfl, rfl⟩⟩, by decide, rfl, trivial⟩ (LeE.upd rfl rfl (LeE.upd rfl rfl (LeE.upd rfl rfl (LeE.upd rfl rfl (LeE.upd rfl rfl (LeE.upd rfl rfl (LeE.upd rfl rfl (LeE.noneD rfl rfl .nil)))))))) rfl
 rintro _ _ _ ⟨rfl, rfl, rfl⟩
 refine W.now ?_
 refine Then.n ?_
 refine WP.seq ?_
 refine WP.seq ?_
 obtain ⟨x2016, H2018, H⟩ := bnd H
 refine WP.monoW (Q := fun x E M => x = .normal ∧ E = (((((((⟨fun _ => .any, [2], []⟩ : Env).upd 2 (.ptr 0 0)).upd 5 (.lit (.bool x1747))).upd 6 (.lit (.string x1750))).upd 7 (.lit (.string x1769))).upd 9 (.ptr 1 0)).upd 84 (.lit (.bool x2016))) ∧ M = (((Mem.nil.push (.cells 23 [.lit (.int .i64 0), .lit (.int .i64 0)])).push (.cells 3 [.lit (.int .i64 x1889)])).push (.bag))) ?_ ?_
 · clear H
   have H := H2018
   clear H2018
   refine WP.region ?_
   refine WPL.q (q_mv (v := .lit (.bool _)) rfl) rfl ?_
   refine WPL.q (q_not rfl) rfl ?_
   refine WPL.q (q_mv (v := .lit (.bool _)) rfl) rfl ?_
   refine WPL.split (t := 78) (b := (!x1887)) rfl (fun hb2016 => ?_) (fun hb2016 => ?_)
   · replace H := cnt hb2016 H
     refine WPL.skipg (b' := true) rfl rfl (lb hb2016) rfl rfl ?_
     refine WPL.skipg (b' := true) rfl rfl (lb hb2016) rfl rfl ?_
     refine WPL.skipg (b' := true) rfl rfl (lb hb2016) rfl rfl ?_
     refine WPL.skipg (b' := true) rfl rfl (lb hb2016) rfl rfl ?_
     refine WPL.skipg (b' := true) rfl rfl (lb hb2016) rfl rfl ?_
     refine WPL.q (q_pickT (v := .lit (.bool _)) (lb hb2016) rfl) rfl ?_
     refine WPL.nilW ?_
     have q0 := (Option.some.inj H)
     subst q0
     exact W.wk [0, 2, 3] hnp ⟨rfl, rfl, rfl⟩ ⟨rfl, ⟨⟨⟨trivial, .inr ⟨rfl, rfl, rfl⟩⟩, .inr ⟨rfl, rfl, rfl⟩⟩, .inr ⟨rfl, rfl, rfl⟩⟩, by decide, rfl, trivial⟩ (LeE.upd rfl rfl (LeE.upd rfl rfl (LeE.upd rfl rfl (LeE.upd rfl rfl (LeE.upd rfl rfl (LeE.upd rfl rfl (LeE.noneD rfl rfl .nil))))))) rfl
   replace H := cnf hb2016 H
   refine WPL.qg rfl rfl (lb hb2016) (q_mv (v := .ptr _ _) rfl) rfl ?_
   refine WPL.qg rfl rfl (lb hb2016) (q_nilCheck rfl) rfl ?_
   refine WPL.qg rfl rfl (lb hb2016) (q_fieldAddr fi34_0 rfl rfl) rfl ?_
   refine WPL.qg rfl rfl (lb hb2016) (q_load sc9 rfl rfl rfl) rfl ?_
   obtain ⟨x2018, h2018, H⟩ := bnd H
   refine WPL.qg rfl rfl (lb hb2016) (q_nm (q_neqs rfl rfl) (nm_bool h2018)) rfl ?_
   refine WPL.q (q_pickF (v := .lit (.bool _)) (lb hb2016) rfl) rfl ?_
   refine WPL.nilW ?_
   have q0 := (Option.some.inj H)
   subst q0
   exact W.wk [0, 2, 3] hnp ⟨rfl, rfl, rfl⟩ ⟨rfl, ⟨⟨⟨trivial, .inr ⟨rfl, rfl, rfl⟩⟩, .inr ⟨rfl, rfl, rfl⟩⟩, .inr ⟨rfl, rfl, rfl⟩⟩, by decide, rfl, trivial⟩ (LeE.upd rfl rfl (LeE.upd rfl rfl (LeE.upd rfl rfl (LeE.upd rfl rfl (LeE.upd rfl rfl (LeE.upd rfl rfl (LeE.noneD rfl rfl .nil))))))) rfl
 rintro _ _ _ ⟨rfl, rfl, rfl⟩
 refine W.now ?_
 refine Then.n ?_
 refine WP.cond (t := x2016) rfl (fun hb2019 => ?_) (fun hb2019 => ?_)
 · replace H := cnt hb2019 H
   refine WP.seq ?_
   refine WP.region ?_
   refine WPL.q (q_build bu23 rfl) rfl ?_
   refine WPL.s (s_store sz23 rfl rfl rfl rfl rfl) ?_
   refine WPL.q (q_as (v := .lit (.int _ _)) rfl) rfl ?_
   refine WPL.nilW ?_
   refine W.now ?_
   refine Then.n ?_
   refine WP.retW ?_
   have q0 := (Prod.mk.inj (Option.some.inj H)).1
   have q1 := (Prod.mk.inj (Prod.mk.inj (Option.some.inj H)).2).1
   have q2 := (Prod.mk.inj (Prod.mk.inj (Option.some.inj H)).2).2
   subst q0
   subst q1
   subst q2
   exact W.now (Then.r (BodyR.mkR ⟨.inr rfl, trivial⟩ rfl [0] ⟨rfl, rfl⟩ ⟨rfl, ⟨trivial, .inr ⟨rfl, rfl, rfl⟩⟩, by decide, rfl, trivial⟩ rfl rfl))
 replace H := cnf hb2019 H
 refine WP.skipW ?_
 refine W.now ?_
 refine Then.n ?_
 refine WP.seq ?_
 refine WP.region ?_
 refine WPL.q (q_mv (v := .lit (.string _)) rfl) rfl ?_
 refine WPL.q (q_mv (v := .lit (.string _)) rfl) rfl ?_
 obtain ⟨h2020, H⟩ := grd H
 refine WPL.q (q_concat rfl rfl h2020) rfl ?_
 obtain ⟨x2023, h2021, H⟩ := bnd H
 refine WPL.c (runs_call (s := []) (t := []) (N := 3) (bor := []) fn14 rfl (s_strings_TrimLeft k (x1750 ++ x1769) (ByteArray.mk #[48]) x2023 h2021) ⟨rfl, trivial, by decide, rfl, trivial⟩ rfl trivial (.ren rfl rfl (.ren rfl rfl .nil)) rfl trivial rfl) rfl ?_
 refine WPL.q (q_as (v := .lit (.string _)) rfl) rfl ?_
 refine WPL.nilW ?_
 refine W.now ?_
 refine Then.n ?_
 refine WP.seq ?_
 refine WP.region ?_
 refine WPL.q (q_load sc3 rfl rfl rfl) rfl ?_
 refine WPL.q (q_mv (v := .lit (.string _)) rfl) rfl ?_
 refine WPL.q (q_len_str Tryd.underlying9 rfl) rfl ?_
 obtain ⟨x2024, h2024, H⟩ := bnd H
 refine WPL.q (q_nm (q_sub rfl rfl) (nm_int h2024)) rfl ?_
 refine WPL.s (s_store sz3 rfl rfl rfl rfl rfl) ?_
 refine WPL.nilW ?_
 refine W.now ?_
 refine Then.n ?_
 refine WP.seq ?_
 refine WP.region ?_
 refine WPL.q (q_mv (v := .lit (.string _)) rfl) rfl ?_
 obtain ⟨x2026, h2024, H⟩ := bnd H
 refine WPL.c (runs_call (s := []) (t := []) (N := 3) (bor := []) fn15 rfl (s_strings_TrimRight k x2023 (ByteArray.mk #[48]) x2026 h2024) ⟨rfl, trivial, by decide, rfl, trivial⟩ rfl trivial (.ren rfl rfl (.ren rfl rfl .nil)) rfl trivial rfl) rfl ?_
 refine WPL.q (q_as (v := .lit (.string _)) rfl) rfl ?_
 refine WPL.nilW ?_
 refine W.now ?_
 refine Then.n ?_
 refine WP.seq ?_
 refine WP.region ?_
 refine WPL.q (q_load sc3 rfl rfl rfl) rfl ?_
 refine WPL.q (q_mv (v := .lit (.string _)) rfl) rfl ?_
 refine WPL.q (q_len_str Tryd.underlying9 rfl) rfl ?_
 refine WPL.q (q_mv (v := .lit (.string _)) rfl) rfl ?_
 refine WPL.q (q_len_str Tryd.underlying9 rfl) rfl ?_
 obtain ⟨x2027, h2027, H⟩ := bnd H
 refine WPL.q (q_nm (q_sub rfl rfl) (nm_int h2027)) rfl ?_
 refine WPL.q (q_add rfl rfl) rfl ?_
 refine WPL.s (s_store sz3 rfl rfl rfl rfl rfl) ?_
 refine WPL.nilW ?_
 refine W.now ?_
 refine Then.n ?_
 refine WP.seq ?_
 refine WP.seq ?_
 refine WP.region ?_
 refine WPL.q (q_mv (v := .lit (.string _)) rfl) rfl ?_
 refine WPL.q (q_len_str Tryd.underlying9 rfl) rfl ?_
 obtain ⟨x2030, h2030, H⟩ := bnd H
 refine WPL.q (q_nm (q_gtr rfl rfl) (nm_bool h2030)) rfl ?_
 refine WPL.nilW ?_
 refine W.now ?_
 refine Then.n ?_
 refine WP.cond (t := x2030) rfl (fun hb2030 => ?_) (fun hb2030 => ?_)
 · replace H := cnt hb2030 H
   refine WP.seq ?_
   refine WP.region ?_
   refine WPL.q (q_build bu23 rfl) rfl ?_
   refine WPL.s (s_store sz23 rfl rfl rfl rfl rfl) ?_
   refine WPL.q (q_as (v := .lit (.int _ _)) rfl) rfl ?_
   refine WPL.nilW ?_
   refine W.now ?_
   refine Then.n ?_
   refine WP.retW ?_
   have q0 := (Prod.mk.inj (Option.some.inj H)).1
   have q1 := (Prod.mk.inj (Prod.mk.inj (Option.some.inj H)).2).1
   have q2 := (Prod.mk.inj (Prod.mk.inj (Option.some.inj H)).2).2
   subst q0
   subst q1
   subst q2
   exact W.now (Then.r (BodyR.mkR ⟨.inr rfl, trivial⟩ rfl [0] ⟨rfl, rfl⟩ ⟨rfl, ⟨trivial, .inr ⟨rfl, rfl, rfl⟩⟩, by decide, rfl, trivial⟩ rfl rfl))
 replace H := cnf hb2030 H
 refine WP.skipW ?_
 refine W.now ?_
 refine Then.n ?_
 refine WP.seq ?_
 refine WP.region ?_
 refine WPL.q (q_build bu43 rfl) rfl ?_
 refine WPL.d (d_alloc ze43 rfl) rfl ?_
 refine WPL.s (s_store sz43 rfl rfl rfl rfl rfl) ?_
 refine WPL.nilW ?_
 refine W.now ?_
 refine Then.n ?_
 refine WP.seq ?_
 refine WP.seq ?_
 refine WP.region ?_
 refine WPL.q (q_mv (v := .lit (.string _)) rfl) rfl ?_
 obtain ⟨_, h2031, H⟩ := bnd H
 refine WPL.c (runs_call (s := []) (t := [4]) (N := 5) (bor := []) fn13 rfl (s_dec_values k x2026 h2031) ⟨rfl, trivial, by decide, rfl, trivial⟩ rfl trivial (.ren rfl rfl .nil) rfl ⟨trivial, rfl⟩ rfl) rfl ?_
 refine WPL.nilW ?_
 refine W.now ?_
 refine Then.n ?_
 refine WP.block ?_
 refine WP.range (nti := 18) (n := 5) rfl rfl Tryd.func33 rfl (by kernel_rfl) rfl rfl rfl rfl fun l_2032 r_2032 aC2032 hp2032 ha2032 hb2032 ht2032 hs2032 => ?_
 refine WP.seq ?_
 refine WP.region ?_
 refine WPL.q (q_load sc9 rfl rfl rfl) rfl ?_
 refine WPL.q (q_len_str Tryd.underlying9 rfl) rfl ?_
 refine WPL.q (q_mv (v := .lit (.int _ _)) rfl) rfl ?_
 refine WPL.nilW ?_
 refine W.now ?_
 refine Then.n ?_
 refine WP.block ?_
 refine WP.cv (Cv.weak (E' := (((((⟨fun _ => .any, [], [⟨aC2032, ((((((Env.none.upd 2 (.ptr 1 0)).upd 5 (.lit (.bool x1747))).upd 9 (.ptr 2 0)).upd 15 (.ptr 3 0)).upd 109 (.fn 33 [.ptr 0 0]))).v, [4, 5], some (6, l_2032)⟩]⟩ : Env).upd 0 (.lit (.func (.yield l_2032) #[] #[]))).upd 1 (.ptr 0 0)).upd 5 (.lit (.int .i64 ((ByteArray.size x2026 : Nat) : Int)))).upd 6 (.lit (.int .i64 0)))) (M' := (((((((Mem.nil.push (.cells 9 [.lit (.string x2026)])).push (.cells 23 [.lit (.int .i64 0), .lit (.int .i64 0)])).push (.cells 3 [.lit (.int .i64 (IntKind.wrap .i64 (x2024 + x2027)))])).push (.cells 43 [.lit (.int .u64 0), .lit (.int .u64 0)])).push (.obj (Obj.deferred (some [])))).push (.bag)).push (.obj (lp r_2032 .ready none)))) [4, 0, 1, 3, 5, 2, 6] hnp ⟨rfl, ⟨⟨⟨⟨⟨⟨⟨trivial, .inr ⟨rfl, rfl, rfl⟩⟩, .inr ⟨rfl, rfl, rfl⟩⟩, .inr ⟨rfl, rfl, rfl⟩⟩, .inr ⟨rfl, rfl, rfl⟩⟩, .inr ⟨rfl, rfl, rfl⟩⟩, .inr ⟨rfl, rfl, rfl⟩⟩, .inr ⟨rfl, rfl, rfl⟩⟩, by decide, rfl, trivial⟩ (LeE.upd rfl rfl (LeE.upd rfl rfl (LeE.upd rfl rfl (LeE.upd rfl rfl (LeE.noneD rfl rfl (.cons ⟨rfl, (LeV.upd rfl rfl (LeV.upd rfl rfl (LeV.upd rfl rfl (LeV.upd rfl rfl (LeV.upd rfl rfl LeV.none))))), rfl, rfl, rfl, rfl⟩ .nil))))))) ?_
 obtain ⟨⟨x2075, x2076⟩, H2095, H⟩ := bnd H
 refine WP.monoW (Q := fun x E M => x = .exit 0 ∧ E = (⟨fun _ => .any, [], [⟨aC2032, ((((((Env.none.upd 2 (.ptr 0 0)).upd 5 (.lit (.bool x1747))).upd 9 (.ptr 1 0)).upd 15 (.ptr 2 0)).upd 109 (.fn 33 [.ptr 3 0]))).v, [4, 5], some (6, l_2032)⟩]⟩ : Env) ∧ M = (((((((Mem.nil.push (.cells 23 [.lit (.int .i64 0), .lit (.int .i64 0)])).push (.cells 3 [.lit (.int .i64 (IntKind.wrap .i64 (x2024 + x2027)))])).push (.cells 43 [.lit (.int .u64 x2075), .lit (.int .u64 x2076)])).push (.cells 9 [.lit (.string x2026)])).push (.obj (Obj.deferred (some [])))).push (.bag)).push (.obj (lp r_2032 .ready none)))) ?_ ?_
 · refine WP.loop (β := Int × Int × Int) (fun n b => g_dec_Parse_l1 k x2026 n b.1 b.2.1 b.2.2 = some (x2075, x2076)) (fun b => (((((⟨fun _ => .any, [], [⟨aC2032, ((((((Env.none.upd 2 (.ptr 1 0)).upd 5 (.lit (.bool x1747))).upd 9 (.ptr 2 0)).upd 15 (.ptr 3 0)).upd 109 (.fn 33 [.ptr 0 0]))).v, [4, 5], some (6, l_2032)⟩]⟩ : Env).upd 0 (.lit (.func (.yield l_2032) #[] #[]))).upd 1 (.ptr 0 0)).upd 5 (.lit (.int .i64 ((ByteArray.size x2026 : Nat) : Int)))).upd 6 (.lit (.int .i64 b.1)))) (fun b => (((((((Mem.nil.push (.cells 9 [.lit (.string x2026)])).push (.cells 23 [.lit (.int .i64 0), .lit (.int .i64 0)])).push (.cells 3 [.lit (.int .i64 (IntKind.wrap .i64 (x2024 + x2027)))])).push (.cells 43 [.lit (.int .u64 b.2.1), .lit (.int .u64 b.2.2)])).push (.obj (Obj.deferred (some [])))).push (.bag)).push (.obj (lp r_2032 .ready none)))) k (0, 0, 0) H2095 rfl rfl ?_
   rintro n ⟨x2053, x2054, x2055⟩ H
   obtain _ | n := n
   · exact nf rfl H
   rw [g_dec_Parse_l1.eq_2] at H
   show WP _ _ _ _ (((((⟨fun _ => .any, [], [⟨aC2032, ((((((Env.none.upd 2 (.ptr 1 0)).upd 5 (.lit (.bool x1747))).upd 9 (.ptr 2 0)).upd 15 (.ptr 3 0)).upd 109 (.fn 33 [.ptr 0 0]))).v, [4, 5], some (6, l_2032)⟩]⟩ : Env).upd 0 (.lit (.func (.yield l_2032) #[] #[]))).upd 1 (.ptr 0 0)).upd 5 (.lit (.int .i64 ((ByteArray.size x2026 : Nat) : Int)))).upd 6 (.lit (.int .i64 x2053))) (((((((Mem.nil.push (.cells 9 [.lit (.string x2026)])).push (.cells 23 [.lit (.int .i64 0), .lit (.int .i64 0)])).push (.cells 3 [.lit (.int .i64 (IntKind.wrap .i64 (x2024 + x2027)))])).push (.cells 43 [.lit (.int .u64 x2054), .lit (.int .u64 x2055)])).push (.obj (Obj.deferred (some [])))).push (.bag)).push (.obj (lp r_2032 .ready none))) _
   refine WP.seq ?_
   refine WP.region ?_
   obtain ⟨x2077, h2077, H⟩ := bnd H
   refine WPL.q (q_nm (q_lss rfl rfl) (nm_bool h2077)) rfl ?_
   refine WPL.nilW ?_
   refine W.now ?_
   refine Then.n ?_
   refine WP.seq ?_
   refine WP.cond (t := x2077) rfl (fun hb2078 => ?_) (fun hb2078 => ?_)
   · replace H := cnt hb2078 H
     refine WP.skipW ?_
     refine W.now ?_
     refine Then.n ?_
     refine WP.seq ?_
     refine WP.block ?_
     refine WP.seq ?_
     refine WP.region ?_
     refine WPL.q (q_mv (v := .lit (.int _ _)) rfl) rfl ?_
     refine WPL.q (q_as (v := .lit (.int _ _)) rfl) rfl ?_
     refine WPL.nilW ?_
     refine W.now ?_
     refine Then.n ?_
     refine WP.seq ?_
     refine WP.region ?_
     refine WPL.q (q_mv (v := .lit _) rfl) rfl ?_
     refine WPL.q (q_load sc9 rfl rfl rfl) rfl ?_
     refine WPL.q (q_mv (v := .lit (.int _ _)) rfl) rfl ?_
     obtain ⟨x2088, h2088, H⟩ := bnd H
     refine WPL.q (q_index_str Tryd.underlying9 rfl rfl h2088) rfl ?_
     refine WPL.q (q_sub rfl rfl) rfl ?_
     obtain ⟨x2089, h2089, H⟩ := bnd H
     refine WPL.q (q_nm (q_conv Tryd.underlying5 Tryd.underlying3 rfl) (nm_int h2089)) rfl ?_
     refine WPL.y rfl rfl rfl rfl hp2032 ha2032 hb2032 ht2032 hs2032 rfl rfl rfl fun aI2089 => ?_
     refine WP.region ?_
     refine WPL.q (q_as (v := .lit (.int _ _)) rfl) rfl ?_
     refine WPL.nilW ?_
     refine W.now ?_
     refine ⟨rfl, rfl, _, _, _, _, _, _, rfl, rfl, ?_⟩
     refine WP.block ?_
     refine WP.seq ?_
     refine WP.region ?_
     refine WPL.q (q_load_ag ag43 rfl rfl (Nat.le_of_ble_eq_true rfl)) rfl ?_
     obtain ⟨⟨x2092, x2093⟩, h2090, H⟩ := bnd H
     refine WPL.c (runs_call (s := []) (t := [7]) (N := 8) (bor := []) fn16 rfl (s_dec_wide_times k x2054 x2055 10 x2092 x2093 h2090) ⟨rfl, trivial, by decide, rfl, trivial⟩ rfl trivial (.ren rfl rfl (.ren rfl rfl .nil)) rfl ⟨trivial, rfl⟩ rfl) rfl ?_
     refine WPL.q (q_mv (v := .tup _) rfl) rfl ?_
     refine WPL.q (q_extract rfl rfl) rfl ?_
     refine WPL.q (q_extract rfl rfl) rfl ?_
     refine WPL.s (s_store sz43 rfl rfl rfl rfl rfl) ?_
     refine WPL.nilW ?_
     refine W.now ?_
     refine Then.n ?_
     refine WP.region ?_
     refine WPL.q (q_load_ag ag43 rfl rfl (Nat.le_of_ble_eq_true rfl)) rfl ?_
     refine WPL.q (q_mv (v := .lit (.int _ _)) rfl) rfl ?_
     refine WPL.q (q_conv Tryd.underlying3 Tryd.underlying41 rfl) rfl ?_
     refine WPL.q (q_build bu43 rfl) rfl ?_
     obtain ⟨x2095, h2093, H⟩ := bnd H
     refine WPL.c (runs_call (s := []) (t := [8]) (N := 9) (bor := []) fn17 rfl (s_dec_wide_plus k x2093 (IntKind.wrap .u64 (x2055 * 10)) 0 (IntKind.wrap .u64 x2089) x2095 h2093) ⟨rfl, trivial, by decide, rfl, trivial⟩ rfl trivial (.ren rfl rfl (.ren rfl rfl .nil)) rfl ⟨trivial, rfl⟩ rfl) rfl ?_
     refine WPL.q (q_mv (v := .tup _) rfl) rfl ?_
     refine WPL.q (q_extract rfl rfl) rfl ?_
     refine WPL.q (q_extract rfl rfl) rfl ?_
     refine WPL.s (s_store sz43 rfl rfl rfl rfl rfl) ?_
     refine WPL.nilW ?_
     refine W.now ?_
     refine InBlock.n ?_
     refine ⟨rfl, _, _, _, _, _, _, rfl, rfl, _, rfl, ?_⟩
     refine WPL.q (q_not rfl) rfl ?_
     refine WPL.nilW ?_
     refine W.now ?_
     refine Then.n ?_
     refine WP.condFB (t := (!true)) rfl rfl ?_
     refine WP.skipW ?_
     refine W.now ?_
     refine InBlock.n ?_
     refine Then.n ?_
     refine WP.region ?_
     refine WPL.q (q_add rfl rfl) rfl ?_
     refine WPL.q (q_mv (v := .lit (.int _ _)) rfl) rfl ?_
     refine WPL.nilW ?_
     exact W.wk [0, 1, 2, 3, 4, 5, 6] hnp (Then.n ⟨n, ((IntKind.wrap .i64 (x2053 + 1)), (add64 x2093 0 ((add64 (IntKind.wrap .u64 (x2055 * 10)) (IntKind.wrap .u64 x2089) 0).2)).1, (add64 (IntKind.wrap .u64 (x2055 * 10)) (IntKind.wrap .u64 x2089) 0).1), Nat.lt_succ_self n, H, rfl, rfl⟩) ⟨rfl, ⟨⟨⟨⟨⟨⟨⟨trivial, .inr ⟨rfl, rfl, rfl⟩⟩, .inr ⟨rfl, rfl, rfl⟩⟩, .inr ⟨rfl, rfl, rfl⟩⟩, .inr ⟨rfl, rfl, rfl⟩⟩, .inr ⟨rfl, rfl, rfl⟩⟩, .inr ⟨rfl, rfl, rfl⟩⟩, .inr ⟨rfl, rfl, rfl⟩⟩, by decide, rfl, trivial⟩ (LeE.upd rfl rfl (LeE.upd rfl rfl (LeE.upd rfl rfl (LeE.upd rfl rfl (LeE.noneD rfl rfl (.cons ⟨rfl, (LeV.upd rfl rfl (LeV.upd rfl rfl (LeV.upd rfl rfl (LeV.upd rfl rfl (LeV.upd rfl rfl LeV.none))))), rfl, rfl, rfl, rfl⟩ .nil)))))) rfl
   replace H := cnf hb2078 H
   refine WP.exitW ?_
   have q0 := (Prod.mk.inj (Option.some.inj H)).1
   have q1 := (Prod.mk.inj (Option.some.inj H)).2
   subst q0
   subst q1
   exact W.wk [1, 2, 3, 0, 4, 5, 6] hnp (Then.x (Then.x ⟨rfl, rfl, rfl⟩)) ⟨rfl, ⟨⟨⟨⟨⟨⟨⟨trivial, .inr ⟨rfl, rfl, rfl⟩⟩, .inr ⟨rfl, rfl, rfl⟩⟩, .inr ⟨rfl, rfl, rfl⟩⟩, .inr ⟨rfl, rfl, rfl⟩⟩, .inr ⟨rfl, rfl, rfl⟩⟩, .inr ⟨rfl, rfl, rfl⟩⟩, .inr ⟨rfl, rfl, rfl⟩⟩, by decide, rfl, trivial⟩ (LeE.noneD rfl rfl (.cons ⟨rfl, (LeV.upd rfl rfl (LeV.upd rfl rfl (LeV.upd rfl rfl (LeV.upd rfl rfl (LeV.upd rfl rfl LeV.none))))), rfl, rfl, rfl, rfl⟩ .nil)) rfl
 rintro _ _ _ ⟨rfl, rfl, rfl⟩
 refine W.now ?_
 refine InBlock.x0 ?_
 refine ⟨trivial, _, _, _, _, rfl, _, _, rfl, (fun h => by cases h), ?_⟩
 refine W.cv (Cv.absorb (N := 7) (j := 4) (i := 5) rfl rfl rfl rfl) rfl ?_
 refine W.now ?_
 refine InBlock.n ?_
 refine Then.n ?_
 refine WP.seq ?_
 refine WP.region ?_
 refine WPL.q (q_mv (v := .lit (.bool _)) rfl) rfl ?_
 refine WPL.q (q_load_ag ag43 rfl rfl (Nat.le_of_ble_eq_true rfl)) rfl ?_
 refine WPL.q (q_load sc3 rfl rfl rfl) rfl ?_
 refine WPL.q (q_build bu48 rfl) rfl ?_
 obtain ⟨⟨x2098, x2099, x2100⟩, h2096, H⟩ := bnd H
 refine WPL.c (runs_call (s := []) (t := [8]) (N := 9) (bor := []) fn18 rfl (s_dec_num_tell k x1747 x2075 x2076 (IntKind.wrap .i64 (x2024 + x2027)) x2098 x2099 x2100 h2096) ⟨rfl, trivial, by decide, rfl, trivial⟩ rfl trivial (.ren rfl rfl .nil) rfl ⟨trivial, rfl⟩ rfl) rfl ?_
 refine WPL.q (q_extract rfl rfl) rfl ?_
 refine WPL.q (q_extract rfl rfl) rfl ?_
 refine WPL.s (s_store sz23 rfl rfl rfl rfl rfl) ?_
 refine WPL.q (q_as (v := .lit (.int _ _)) rfl) rfl ?_
 refine WPL.nilW ?_
 refine W.now ?_
 refine Then.n ?_
 refine WP.retW ?_
 have q0 := (Prod.mk.inj (Option.some.inj H)).1
 have q1 := (Prod.mk.inj (Prod.mk.inj (Option.some.inj H)).2).1
 have q2 := (Prod.mk.inj (Prod.mk.inj (Option.some.inj H)).2).2
 subst q0
 subst q1
 subst q2
 exact W.now (BodyR.mkR ⟨.inr rfl, trivial⟩ rfl [0] ⟨rfl, rfl⟩ ⟨rfl, ⟨trivial, .inr ⟨rfl, rfl, rfl⟩⟩, by decide, rfl, trivial⟩ rfl rfl)
set_option maxRecDepth 100000 in
set_option maxHeartbeats 4000000 in
theorem s_quireref09_digit (k : Nat) (x2126 : Int) (x2132 : Bool) (H : g_quireref09_digit k x2126 = some x2132) : Go.Q.Spec Tryd.prog 19 0 [.lit (.int .u8 x2126)] Mem.nil (fun o M => o = .ret (.lit (.bool x2132)) ∧ M = Mem.nil) := by
 unfold g_quireref09_digit at H
 refine Go.Q.Spec.of_bodyR (az := []) (rs := [.tmp 2]) (nt := 9) Tryd.func19 rfl rfl (by intro t T h; simp at h) rfl rfl fun cx hnp => ?_
 refine WP.seq ?_
 refine WP.region ?_
 refine WPL.q (q_as (v := .lit (.bool _)) rfl) rfl ?_
 refine WPL.nilW ?_
 refine W.now ?_
 refine Then.n ?_
 refine WP.seq ?_
 obtain ⟨x2134, H2135, H⟩ := bnd H
 refine WP.monoW (Q := fun x E M => x = .normal ∧ E = (Env.none.upd 2 (.lit (.bool x2134))) ∧ M = Mem.nil) ?_ ?_
 · clear H
   have H := H2135
   clear H2135
   refine WP.region ?_
   refine WPL.q (q_mv (v := .lit (.int _ _)) rfl) rfl ?_
   refine WPL.q (q_geq rfl rfl) rfl ?_
   refine WPL.q (q_mv (v := .lit (.bool _)) rfl) rfl ?_
   refine WPL.split (t := 5) (b := (decide (48 ≤ x2126))) rfl (fun hb2134 => ?_) (fun hb2134 => ?_)
   · replace H := cnt hb2134 H
     refine WPL.qg rfl rfl (lb hb2134) (q_mv (v := .lit (.int _ _)) rfl) rfl ?_
     refine WPL.qg rfl rfl (lb hb2134) (q_leq rfl rfl) rfl ?_
     refine WPL.q (q_pickT (v := .lit (.bool _)) (lb hb2134) rfl) rfl ?_
     refine WPL.q (q_as (v := .lit (.bool _)) rfl) rfl ?_
     refine WPL.nilW ?_
     have q0 := (Option.some.inj H)
     subst q0
     exact W.wk [] hnp ⟨rfl, rfl, rfl⟩ ⟨rfl, trivial, by decide, rfl, trivial⟩ (LeE.upd rfl rfl (LeE.none rfl rfl)) rfl
   replace H := cnf hb2134 H
   refine WPL.skipg (b' := false) rfl rfl (lb hb2134) rfl rfl ?_
   refine WPL.skipg (b' := false) rfl rfl (lb hb2134) rfl rfl ?_
   refine WPL.q (q_pickF (v := .lit (.bool _)) (lb hb2134) rfl) rfl ?_
   refine WPL.q (q_as (v := .lit (.bool _)) rfl) rfl ?_
   refine WPL.nilW ?_
   have q0 := (Option.some.inj H)
   subst q0
   exact W.wk [] hnp ⟨rfl, rfl, rfl⟩ ⟨rfl, trivial, by decide, rfl, trivial⟩ (LeE.upd rfl rfl (LeE.none rfl rfl)) rfl
 rintro _ _ _ ⟨rfl, rfl, rfl⟩
 refine W.now ?_
 refine Then.n ?_
 refine WP.retW ?_
 have q0 := (Option.some.inj H)
 subst q0
 exact W.now (BodyR.mkR trivial rfl [] ⟨rfl, rfl⟩ ⟨rfl, trivial, by decide, rfl, trivial⟩ rfl rfl)
set_option maxRecDepth 100000 in
set_option maxHeartbeats 4000000 in
theorem s_quireref09_trim (k : Nat) (x2680 : Bool) (x2681 : (List Int)) (x2729 : Bool) (x2730 : (List Int)) (H : g_quireref09_trim k x2680 x2681 = some (x2729, x2730)) : Go.Q.Spec Tryd.prog 20 0 [.agg [.lit (.bool x2680), .whole 0]] (Mem.nil.push (.row 3 (Rd.int .i64) x2681)) (fun o M => o = .ret (.agg [.lit (.bool x2729), .ro (Rd.slice (Rd.int .i64)) false x2730]) ∧ M = (Mem.nil.push (.cells 52 [.lit (.bool x2729), .ro (Rd.slice (Rd.int .i64)) false x2730]))) := by
 unfold g_quireref09_trim at H
 refine Go.Q.Spec.of_bodyR (az := [(52, 2)]) (rs := [.cell 2 52]) (nt := 32) Tryd.func20 rfl rfl (by intro t T h; simp at h; rcases h with ⟨rfl, rfl⟩ <;> first | exact ag52) rfl rfl fun cx hnp => ?_
 refine WP.seq ?_
 refine WP.region ?_
 refine WPL.d (d_box rfl rfl) rfl ?_
 refine WPL.d (d_alloc ze52 rfl) rfl ?_
 refine WPL.nilW ?_
 refine W.now ?_
 refine Then.n ?_
 refine WP.seq ?_
 refine WP.region ?_
 refine WPL.q (q_fieldAddr fi52_1 rfl rfl) rfl ?_
 refine WPL.q (q_load sc50 rfl rfl rfl) rfl ?_
 refine WPL.q (q_len_row sl50 rfl rfl) rfl ?_
 refine WPL.q (q_as (v := .lit (.int _ _)) rfl) rfl ?_
 refine WPL.nilW ?_
 refine W.now ?_
 refine Then.n ?_
 refine WP.seq ?_
 refine WP.block ?_
 refine WP.cv (Cv.weak (E' := (((Env.none.upd 1 (.ptr 0 0)).upd 2 (.ptr 2 0)).upd 3 (.lit (.int .i64 ((List.length x2681 : Nat) : Int))))) (M' := (((Mem.nil.push (.cells 52 [.lit (.bool x2680), .whole 1])).push (.row 3 (Rd.int .i64) x2681)).push (.cells 52 [.lit (.bool false), .lit (.slice none 0 0)]))) [1, 0, 2] hnp ⟨rfl, ⟨⟨⟨trivial, .inr ⟨rfl, rfl, rfl⟩⟩, .inr ⟨rfl, rfl, rfl⟩⟩, .inr ⟨rfl, rfl, rfl⟩⟩, by decide, rfl, trivial⟩ (LeE.upd rfl rfl (LeE.upd rfl rfl (LeE.upd rfl rfl (LeE.none rfl rfl))))) ?_
 obtain ⟨x2769, H2783, H⟩ := bnd H
 refine WP.monoW (Q := fun x E M => x = .exit 0 ∧ E = (((Env.none.upd 1 (.ptr 0 0)).upd 2 (.ptr 2 0)).upd 3 (.lit (.int .i64 x2769))) ∧ M = (((Mem.nil.push (.cells 52 [.lit (.bool x2680), .whole 1])).push (.row 3 (Rd.int .i64) x2681)).push (.cells 52 [.lit (.bool false), .lit (.slice none 0 0)]))) ?_ ?_
 · refine WP.loop (β := Int) (fun n b => g_quireref09_trim_l0 k x2681 n b = some x2769) (fun b => (((Env.none.upd 1 (.ptr 0 0)).upd 2 (.ptr 2 0)).upd 3 (.lit (.int .i64 b)))) (fun b => (((Mem.nil.push (.cells 52 [.lit (.bool x2680), .whole 1])).push (.row 3 (Rd.int .i64) x2681)).push (.cells 52 [.lit (.bool false), .lit (.slice none 0 0)]))) k ((List.length x2681 : Nat) : Int) H2783 rfl rfl ?_
   rintro n x2754 H
   obtain _ | n := n
   · exact nf rfl H
   rw [g_quireref09_trim_l0.eq_2] at H
   show WP _ _ _ _ (((Env.none.upd 1 (.ptr 0 0)).upd 2 (.ptr 2 0)).upd 3 (.lit (.int .i64 x2754))) (((Mem.nil.push (.cells 52 [.lit (.bool x2680), .whole 1])).push (.row 3 (Rd.int .i64) x2681)).push (.cells 52 [.lit (.bool false), .lit (.slice none 0 0)])) _
   refine WP.seq ?_
   refine WP.seq ?_
   obtain ⟨x2779, H2781, H⟩ := bnd H
   refine WP.monoW (Q := fun x E M => x = .normal ∧ E = ((((Env.none.upd 1 (.ptr 0 0)).upd 2 (.ptr 2 0)).upd 3 (.lit (.int .i64 x2754))).upd 17 (.lit (.bool x2779))) ∧ M = (((Mem.nil.push (.cells 52 [.lit (.bool x2680), .whole 1])).push (.row 3 (Rd.int .i64) x2681)).push (.cells 52 [.lit (.bool false), .lit (.slice none 0 0)]))) ?_ ?_
   · clear H
     have H := H2781
     clear H2781
     refine WP.region ?_
     refine WPL.q (q_mv (v := .lit (.int _ _)) rfl) rfl ?_
     refine WPL.q (q_gtr rfl rfl) rfl ?_
     refine WPL.q (q_mv (v := .lit (.bool _)) rfl) rfl ?_
     refine WPL.split (t := 9) (b := (decide (0 < x2754))) rfl (fun hb2779 => ?_) (fun hb2779 => ?_)
     · replace H := cnt hb2779 H
       refine WPL.qg rfl rfl (lb hb2779) (q_fieldAddr fi52_1 rfl rfl) rfl ?_
       refine WPL.qg rfl rfl (lb hb2779) (q_load sc50 rfl rfl rfl) rfl ?_
       refine WPL.qg rfl rfl (lb hb2779) (q_mv (v := .lit (.int _ _)) rfl) rfl ?_
       refine WPL.qg rfl rfl (lb hb2779) (q_sub rfl rfl) rfl ?_
       obtain ⟨x2781, h2781, H⟩ := bnd H
       refine WPL.qg rfl rfl (lb hb2779) (q_index_row sl50 rfl rfl rfl (ixs h2781)) rfl ?_
       refine WPL.qg rfl rfl (lb hb2779) (q_load_row (j := (Int.toNat (IntKind.wrap .i64 (x2754 - 1)))) sc3 rfl rfl (ixj h2781)) rfl ?_
       refine WPL.qg rfl rfl (lb hb2779) (q_eql rfl rfl) rfl ?_
       refine WPL.q (q_pickT (v := .lit (.bool _)) (lb hb2779) rfl) rfl ?_
       refine WPL.nilW ?_
       have q0 := (Option.some.inj H)
       subst q0
       exact W.wk [0, 1, 2] hnp ⟨rfl, rfl, rfl⟩ ⟨rfl, ⟨⟨⟨trivial, .inr ⟨rfl, rfl, rfl⟩⟩, .inr ⟨rfl, rfl, rfl⟩⟩, .inr ⟨rfl, rfl, rfl⟩⟩, by decide, rfl, trivial⟩ (LeE.upd rfl rfl (LeE.upd rfl rfl (LeE.upd rfl rfl (LeE.upd rfl rfl (LeE.none rfl rfl))))) rfl
     replace H := cnf hb2779 H
     refine WPL.skipg (b' := false) rfl rfl (lb hb2779) rfl rfl ?_
     refine WPL.skipg (b' := false) rfl rfl (lb hb2779) rfl rfl ?_
     refine WPL.skipg (b' := false) rfl rfl (lb hb2779) rfl rfl ?_
     refine WPL.skipg (b' := false) rfl rfl (lb hb2779) rfl rfl ?_
     refine WPL.skipg (b' := false) rfl rfl (lb hb2779) rfl rfl ?_
     refine WPL.skipg (b' := false) rfl rfl (lb hb2779) rfl rfl ?_
     refine WPL.skipg (b' := false) rfl rfl (lb hb2779) rfl rfl ?_
     refine WPL.q (q_pickF (v := .lit (.bool _)) (lb hb2779) rfl) rfl ?_
     refine WPL.nilW ?_
     have q0 := (Option.some.inj H)
     subst q0
     exact W.wk [0, 1, 2] hnp ⟨rfl, rfl, rfl⟩ ⟨rfl, ⟨⟨⟨trivial, .inr ⟨rfl, rfl, rfl⟩⟩, .inr ⟨rfl, rfl, rfl⟩⟩, .inr ⟨rfl, rfl, rfl⟩⟩, by decide, rfl, trivial⟩ (LeE.upd rfl rfl (LeE.upd rfl rfl (LeE.upd rfl rfl (LeE.upd rfl rfl (LeE.none rfl rfl))))) rfl
   rintro _ _ _ ⟨rfl, rfl, rfl⟩
   refine W.now ?_
   refine Then.n ?_
   refine WP.cond (t := x2779) rfl (fun hb2782 => ?_) (fun hb2782 => ?_)
   · replace H := cnt hb2782 H
     refine WP.skipW ?_
     refine W.now ?_
     refine Then.n ?_
     refine WP.block ?_
     refine WP.region ?_
     refine WPL.q (q_mv (v := .lit (.int _ _)) rfl) rfl ?_
     refine WPL.q (q_sub rfl rfl) rfl ?_
     refine WPL.q (q_as (v := .lit (.int _ _)) rfl) rfl ?_
     refine WPL.nilW ?_
     exact W.wk [0, 1, 2] hnp (InBlock.n (Then.n ⟨n, (IntKind.wrap .i64 (x2754 - 1)), Nat.lt_succ_self n, H, rfl, rfl⟩)) ⟨rfl, ⟨⟨⟨trivial, .inr ⟨rfl, rfl, rfl⟩⟩, .inr ⟨rfl, rfl, rfl⟩⟩, .inr ⟨rfl, rfl, rfl⟩⟩, by decide, rfl, trivial⟩ (LeE.upd rfl rfl (LeE.upd rfl rfl (LeE.upd rfl rfl (LeE.none rfl rfl)))) rfl
   replace H := cnf hb2782 H
   refine WP.exitW ?_
   have q0 := (Option.some.inj H)
   subst q0
   exact W.wk [0, 1, 2] hnp (Then.x (Then.x ⟨rfl, rfl, rfl⟩)) ⟨rfl, ⟨⟨⟨trivial, .inr ⟨rfl, rfl, rfl⟩⟩, .inr ⟨rfl, rfl, rfl⟩⟩, .inr ⟨rfl, rfl, rfl⟩⟩, by decide, rfl, trivial⟩ (LeE.upd rfl rfl (LeE.upd rfl rfl (LeE.upd rfl rfl (LeE.none rfl rfl)))) rfl
 rintro _ _ _ ⟨rfl, rfl, rfl⟩
 refine W.now ?_
 refine InBlock.x0 ?_
 refine Then.n ?_
 refine WP.seq ?_
 refine WP.seq ?_
 refine WP.region ?_
 refine WPL.q (q_mv (v := .lit (.int _ _)) rfl) rfl ?_
 refine WPL.q (q_eql rfl rfl) rfl ?_
 refine WPL.nilW ?_
 refine W.now ?_
 refine Then.n ?_
 refine WP.cond (t := (decide (x2769 = 0))) rfl (fun hb2785 => ?_) (fun hb2785 => ?_)
 · replace H := cnt hb2785 H
   refine WP.seq ?_
   refine WP.region ?_
   refine WPL.q (q_build bu52 rfl) rfl ?_
   refine WPL.s (s_store sz52 rfl rfl rfl rfl rfl) ?_
   refine WPL.nilW ?_
   refine W.now ?_
   refine Then.n ?_
   refine WP.retW ?_
   refine W.cv (Cv.nilRoC (Rd.int .i64) false (i := 2) (off := 1) rfl rfl rfl) rfl ?_
   have q0 := (Prod.mk.inj (Option.some.inj H)).1
   have q1 := (Prod.mk.inj (Option.some.inj H)).2
   subst q0
   subst q1
   exact W.now (Then.r (BodyR.mkR trivial rfl [2] ⟨rfl, rfl⟩ ⟨rfl, ⟨trivial, .inr ⟨rfl, rfl, rfl⟩⟩, by decide, rfl, trivial⟩ rfl rfl))
 replace H := cnf hb2785 H
 refine WP.skipW ?_
 refine W.now ?_
 refine Then.n ?_
 refine WP.seq ?_
 refine WP.regionD' 10 [0] [] mixed rfl ?_
 refine WPD.takeT 0 rfl (by kernel_rfl) (q_fieldAddr fi52_0 rfl rfl) rfl ?_
 refine WPD.takeT 3 rfl (by kernel_rfl) (q_fieldAddr fi52_1 rfl rfl) rfl ?_
 refine WPD.takeT 5 rfl (by kernel_rfl) (q_mv (v := .lit (.int _ _)) rfl) rfl ?_
 refine WPD.take 1 rfl (by kernel_rfl) (q_load sc4 rfl rfl rfl) rfl rfl ?_
 refine WPD.take 4 rfl (by kernel_rfl) (q_load sc50 rfl rfl rfl) rfl rfl ?_
 obtain ⟨h2788, H⟩ := grd H
 refine WPD.cvL (CvL.frzRow (i := 1) rfl rfl hnp rfl rfl) rfl ?_
 refine WPD.takeT 6 rfl (by kernel_rfl) (q_slice_ro (i := 0) (j := x2769) sl50 rfl rfl rfl ⟨_, rfl⟩ h2788) rfl ?_
 refine WPD.eff 2 [0] [] rfl (by kernel_rfl) (Does.runs (d_buildSlice (ds := ([] : List Int)) (R := (Rd.int .i64)) li50 rfl rfl rfl rfl rfl JoinRows.nil rfl rfl)) rfl rfl ?_
 obtain ⟨h2789, H⟩ := grd H
 refine WPD.eff 7 [0] [] rfl (by kernel_rfl) (Does.runs (d_append ap50 rfl rfl rfl rfl (src_ro sl50 rfl) h2789 rfl)) rfl rfl ?_
 refine WPD.takeT 8 rfl (by kernel_rfl) (q_build bu52 rfl) rfl ?_
 refine WPD.effS 9 [0] [] rfl (by kernel_rfl) (s_store sz52 rfl rfl rfl rfl rfl) rfl ?_
 refine WPD.doneW (by kernel_rfl) ?_
 refine W.now ?_
 refine Then.n ?_
 refine WP.retW ?_
 refine W.cv (Cv.frzRow (i := 4) rfl rfl hnp rfl rfl) rfl ?_
 have q0 := (Prod.mk.inj (Option.some.inj H)).1
 have q1 := (Prod.mk.inj (Option.some.inj H)).2
 subst q0
 subst q1
 exact W.now (BodyR.mkR trivial rfl [2] ⟨rfl, rfl⟩ ⟨rfl, ⟨trivial, .inr ⟨rfl, rfl, rfl⟩⟩, by decide, rfl, trivial⟩ rfl rfl)
end Go.Proofs.YtdbeblgfccjbgaaDoor.W
