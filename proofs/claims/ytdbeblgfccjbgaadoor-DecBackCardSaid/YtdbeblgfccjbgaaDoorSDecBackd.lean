/- Texts joined: part 4 of what LDecBack stands on. -/
import Derived.Test.YtdbeblgfccjbgaaDoorSDecBackc
namespace Go.Proofs.YtdbeblgfccjbgaaDoor.W
open Go Go.Q Go.Proofs
set_option linter.unusedVariables false
set_option linter.unusedSimpArgs false
set_option maxRecDepth 100000 in
set_option maxHeartbeats 4000000 in
theorem s_dec_Parse (k : Nat) (x7 : ByteArray) (x1743 : Int) (x1744 : Int) (x1745 : Int) (H : g_dec_Parse k x7 = some (x1743, x1744, x1745)) : Go.Q.Spec Tryd.prog 5 0 [.lit (.string x7)] Mem.nil (fun o M => o = .ret (.tup [.agg [.lit (.int .i64 x1744), .lit (.int .i64 x1745)], .lit (.int .i64 x1743)]) ∧ M = (Mem.nil.push (.cells 23 [.lit (.int .i64 x1744), .lit (.int .i64 x1745)]))) := by
 unfold g_dec_Parse at H
 refine Go.Q.Spec.of_bodyR (az := [(23, 2)]) (rs := [.cell 2 23, .tmp 3]) (nt := 131) Tryd.func5 rfl rfl (by intro t T h; simp at h; rcases h with ⟨rfl, rfl⟩ <;> first | exact ag23) rfl rfl fun cx hnp => ?_
 refine WP.seq ?_
 refine WP.region ?_
 refine WPL.d (d_alloc ze23 rfl) rfl ?_
 refine WPL.q (q_as (v := .lit (.int _ _)) rfl) rfl ?_
 refine WPL.nilW ?_
 refine W.now ?_
 refine Then.n ?_
 refine WP.seq ?_
 refine WP.region ?_
 refine WPL.q (q_mv (v := .lit (.string _)) rfl) rfl ?_
 refine WPL.q (q_build bu34 rfl) rfl ?_
 refine WPL.d (d_box rfl rfl) rfl ?_
 refine WPL.q (q_as (v := .ptr _ _) rfl) rfl ?_
 refine WPL.nilW ?_
 refine W.now ?_
 refine Then.n ?_
 refine WP.seq ?_
 refine WP.region ?_
 refine WPL.q (q_mv (v := .ptr _ _) rfl) rfl ?_
 obtain ⟨⟨x1747, x1748⟩, h1745, H⟩ := bnd H
 refine WPL.c (runs_call (s := [1]) (t := [1]) (N := 2) (bor := []) fn11 rfl (s_dec_parser_take k (ByteArray.mk #[45]) x7 x1747 x1748 h1745) ⟨rfl, ⟨trivial, .inr ⟨rfl, rfl, rfl⟩⟩, by decide, rfl, trivial⟩ rfl trivial (.ren rfl rfl (.ren rfl rfl .nil)) rfl ⟨trivial, rfl⟩ rfl) rfl ?_
 refine WPL.q (q_as (v := .lit (.bool _)) rfl) rfl ?_
 refine WPL.nilW ?_
 refine W.now ?_
 refine Then.n ?_
 refine WP.seq ?_
 refine WP.region ?_
 refine WPL.q (q_mv (v := .ptr _ _) rfl) rfl ?_
 obtain ⟨⟨x1750, x1751⟩, h1748, H⟩ := bnd H
 refine WPL.c (runs_call (s := [1]) (t := [1]) (N := 2) (bor := []) fn12 rfl (s_dec_parser_some k x1748 x1750 x1751 h1748) ⟨rfl, ⟨trivial, .inr ⟨rfl, rfl, rfl⟩⟩, by decide, rfl, trivial⟩ rfl trivial (.ren rfl rfl .nil) rfl ⟨trivial, rfl⟩ rfl) rfl ?_
 refine WPL.q (q_as (v := .lit (.string _)) rfl) rfl ?_
 refine WPL.q (q_as (v := .lit (.string _)) rfl) rfl ?_
 refine WPL.nilW ?_
 refine W.now ?_
 refine Then.n ?_
 refine WP.seq ?_
 obtain ⟨x1755, H1758, H⟩ := bnd H
 refine WP.monoW (Q := fun x E M => x = .normal ∧ E = ((((((Env.none.upd 2 (.ptr 0 0)).upd 4 (.ptr 1 0)).upd 5 (.lit (.bool x1747))).upd 6 (.lit (.string x1750))).upd 7 (.lit (.string (ByteArray.mk #[])))).upd 8 (.lit (.bool x1755))) ∧ M = ((Mem.nil.push (.cells 23 [.lit (.int .i64 0), .lit (.int .i64 0)])).push (.cells 34 [.lit (.string x1751)]))) ?_ ?_
 · clear H
   have H := H1758
   clear H1758
   refine WP.region ?_
   refine WPL.q (q_mv (v := .lit (.string _)) rfl) rfl ?_
   refine WPL.q (q_len_str Tryd.underlying9 rfl) rfl ?_
   obtain ⟨x1756, h1756, H⟩ := bnd H
   refine WPL.q (q_nm (q_leq rfl rfl) (nm_bool h1756)) rfl ?_
   refine WPL.q (q_mv (v := .lit (.bool _)) rfl) rfl ?_
   refine WPL.split (t := 27) (b := x1756) rfl (fun hb1756 => ?_) (fun hb1756 => ?_)
   · replace H := cnt hb1756 H
     refine WPL.qg rfl rfl (lb hb1756) (q_mv (v := .lit (.string _)) rfl) rfl ?_
     obtain ⟨x1758, h1758, H⟩ := bnd H
     refine WPL.qg rfl rfl (lb hb1756) (q_nm (q_neqs rfl rfl) (nm_bool h1758)) rfl ?_
     refine WPL.q (q_pickT (v := .lit (.bool _)) (lb hb1756) rfl) rfl ?_
     refine WPL.q (q_as (v := .lit (.bool _)) rfl) rfl ?_
     refine WPL.nilW ?_
     have q0 := (Option.some.inj H)
     subst q0
     exact W.wk [0, 1] hnp ⟨rfl, rfl, rfl⟩ ⟨rfl, ⟨⟨trivial, .inr ⟨rfl, rfl, rfl⟩⟩, .inr ⟨rfl, rfl, rfl⟩⟩, by decide, rfl, trivial⟩ (LeE.upd rfl rfl (LeE.upd rfl rfl (LeE.upd rfl rfl (LeE.upd rfl rfl (LeE.upd rfl rfl (LeE.upd rfl rfl (LeE.none rfl rfl))))))) rfl
   replace H := cnf hb1756 H
   refine WPL.skipg (b' := false) rfl rfl (lb hb1756) rfl rfl ?_
   refine WPL.skipg (b' := false) rfl rfl (lb hb1756) rfl rfl ?_
   refine WPL.q (q_pickF (v := .lit (.bool _)) (lb hb1756) rfl) rfl ?_
   refine WPL.q (q_as (v := .lit (.bool _)) rfl) rfl ?_
   refine WPL.nilW ?_
   have q0 := (Option.some.inj H)
   subst q0
   exact W.wk [0, 1] hnp ⟨rfl, rfl, rfl⟩ ⟨rfl, ⟨⟨trivial, .inr ⟨rfl, rfl, rfl⟩⟩, .inr ⟨rfl, rfl, rfl⟩⟩, by decide, rfl, trivial⟩ (LeE.upd rfl rfl (LeE.upd rfl rfl (LeE.upd rfl rfl (LeE.upd rfl rfl (LeE.upd rfl rfl (LeE.upd rfl rfl (LeE.none rfl rfl))))))) rfl
 rintro _ _ _ ⟨rfl, rfl, rfl⟩
 refine W.now ?_
 refine Then.n ?_
 refine WP.seq ?_
 obtain ⟨⟨x1769, x1770, x1771⟩, H1780, H⟩ := bnd H
 refine WP.monoW (Q := fun x E M => x = .normal ∧ E = ((((((Env.none.upd 2 (.ptr 0 0)).upd 4 (.ptr 1 0)).upd 5 (.lit (.bool x1747))).upd 6 (.lit (.string x1750))).upd 7 (.lit (.string x1769))).upd 8 (.lit (.bool x1770))) ∧ M = ((Mem.nil.push (.cells 23 [.lit (.int .i64 0), .lit (.int .i64 0)])).push (.cells 34 [.lit (.string x1771)]))) ?_ ?_
 · clear H
   have H := H1780
   clear H1780
   refine WP.seq ?_
   refine WP.region ?_
   refine WPL.q (q_mv (v := .ptr _ _) rfl) rfl ?_
   obtain ⟨⟨x1773, x1774⟩, h1771, H⟩ := bnd H
   refine WPL.c (runs_call (s := [1]) (t := [1]) (N := 2) (bor := []) fn11 rfl (s_dec_parser_take k (ByteArray.mk #[46]) x1751 x1773 x1774 h1771) ⟨rfl, ⟨trivial, .inr ⟨rfl, rfl, rfl⟩⟩, by decide, rfl, trivial⟩ rfl trivial (.ren rfl rfl (.ren rfl rfl .nil)) rfl ⟨trivial, rfl⟩ rfl) rfl ?_
   refine WPL.nilW ?_
   refine W.now ?_
   refine Then.n ?_
   refine WP.cond (t := x1773) rfl (fun hb1774 => ?_) (fun hb1774 => ?_)
   · replace H := cnt hb1774 H
     refine WP.seq ?_
     refine WP.region ?_
     refine WPL.q (q_mv (v := .ptr _ _) rfl) rfl ?_
     obtain ⟨⟨x1777, x1778⟩, h1775, H⟩ := bnd H
     refine WPL.c (runs_call (s := [1]) (t := [1]) (N := 2) (bor := []) fn12 rfl (s_dec_parser_some k x1774 x1777 x1778 h1775) ⟨rfl, ⟨trivial, .inr ⟨rfl, rfl, rfl⟩⟩, by decide, rfl, trivial⟩ rfl trivial (.ren rfl rfl .nil) rfl ⟨trivial, rfl⟩ rfl) rfl ?_
     refine WPL.q (q_as (v := .lit (.string _)) rfl) rfl ?_
     refine WPL.nilW ?_
     refine W.now ?_
     refine Then.n ?_
     refine WP.region ?_
     refine WPL.q (q_mv (v := .lit (.bool _)) rfl) rfl ?_
     refine WPL.q (q_mv (v := .lit (.bool _)) rfl) rfl ?_
     refine WPL.split (t := 36) (b := x1755) rfl (fun hb1778 => ?_) (fun hb1778 => ?_)
     · replace H := cnt hb1778 H
       refine WPL.qg rfl rfl (lb hb1778) (q_mv (v := .lit (.string _)) rfl) rfl ?_
       obtain ⟨x1780, h1780, H⟩ := bnd H
       refine WPL.qg rfl rfl (lb hb1778) (q_nm (q_neqs rfl rfl) (nm_bool h1780)) rfl ?_
       refine WPL.q (q_pickT (v := .lit (.bool _)) (lb hb1778) rfl) rfl ?_
       refine WPL.q (q_as (v := .lit (.bool _)) rfl) rfl ?_
       refine WPL.nilW ?_
       have q0 := (Prod.mk.inj (Option.some.inj H)).1
       have q1 := (Prod.mk.inj (Prod.mk.inj (Option.some.inj H)).2).1
       have q2 := (Prod.mk.inj (Prod.mk.inj (Option.some.inj H)).2).2
       subst q0
       subst q1
       subst q2
       exact W.wk [0, 1] hnp ⟨rfl, rfl, rfl⟩ ⟨rfl, ⟨⟨trivial, .inr ⟨rfl, rfl, rfl⟩⟩, .inr ⟨rfl, rfl, rfl⟩⟩, by decide, rfl, trivial⟩ (LeE.upd rfl rfl (LeE.upd rfl rfl (LeE.upd rfl rfl (LeE.upd rfl rfl (LeE.upd rfl rfl (LeE.upd rfl rfl (LeE.none rfl rfl))))))) rfl
     replace H := cnf hb1778 H
     refine WPL.skipg (b' := false) rfl rfl (lb hb1778) rfl rfl ?_
     refine WPL.skipg (b' := false) rfl rfl (lb hb1778) rfl rfl ?_
     refine WPL.q (q_pickF (v := .lit (.bool _)) (lb hb1778) rfl) rfl ?_
     refine WPL.q (q_as (v := .lit (.bool _)) rfl) rfl ?_
     refine WPL.nilW ?_
     have q0 := (Prod.mk.inj (Option.some.inj H)).1
     have q1 := (Prod.mk.inj (Prod.mk.inj (Option.some.inj H)).2).1
     have q2 := (Prod.mk.inj (Prod.mk.inj (Option.some.inj H)).2).2
     subst q0
     subst q1
     subst q2
     exact W.wk [0, 1] hnp ⟨rfl, rfl, rfl⟩ ⟨rfl, ⟨⟨trivial, .inr ⟨rfl, rfl, rfl⟩⟩, .inr ⟨rfl, rfl, rfl⟩⟩, by decide, rfl, trivial⟩ (LeE.upd rfl rfl (LeE.upd rfl rfl (LeE.upd rfl rfl (LeE.upd rfl rfl (LeE.upd rfl rfl (LeE.upd rfl rfl (LeE.none rfl rfl))))))) rfl
   replace H := cnf hb1774 H
   refine WP.skipW ?_
   have q0 := (Prod.mk.inj (Option.some.inj H)).1
   have q1 := (Prod.mk.inj (Prod.mk.inj (Option.some.inj H)).2).1
   have q2 := (Prod.mk.inj (Prod.mk.inj (Option.some.inj H)).2).2
   subst q0
   subst q1
   subst q2
   exact W.wk [0, 1] hnp ⟨rfl, rfl, rfl⟩ ⟨rfl, ⟨⟨trivial, .inr ⟨rfl, rfl, rfl⟩⟩, .inr ⟨rfl, rfl, rfl⟩⟩, by decide, rfl, trivial⟩ (LeE.upd rfl rfl (LeE.upd rfl rfl (LeE.upd rfl rfl (LeE.upd rfl rfl (LeE.upd rfl rfl (LeE.upd rfl rfl (LeE.none rfl rfl))))))) rfl
 rintro _ _ _ ⟨rfl, rfl, rfl⟩
 refine W.now ?_
 refine Then.n ?_
 refine WP.seq ?_
 refine WP.region ?_
 refine WPL.d (d_alloc ze3 rfl) rfl ?_
 refine WPL.s (s_store sz3 rfl rfl rfl rfl rfl) ?_
 refine WPL.nilW ?_
 refine W.now ?_
 refine Then.n ?_
 refine WP.seq ?_
 obtain ⟨⟨x1887, x1888, x1889⟩, H2005, H⟩ := bnd H
 refine WP.monoW (Q := fun x E M => x = .normal ∧ E = ((((((((⟨fun _ => .any, [3], []⟩ : Env).upd 2 (.ptr 0 0)).upd 4 (.ptr 1 0)).upd 5 (.lit (.bool x1747))).upd 6 (.lit (.string x1750))).upd 7 (.lit (.string x1769))).upd 8 (.lit (.bool x1887))).upd 9 (.ptr 2 0)) ∧ M = ((((Mem.nil.push (.cells 23 [.lit (.int .i64 0), .lit (.int .i64 0)])).push (.cells 34 [.lit (.string x1888)])).push (.cells 3 [.lit (.int .i64 x1889)])).push (.bag))) ?_ ?_
 · clear H
   have H := H2005
   clear H2005
   refine WP.seq ?_
   obtain ⟨⟨x1897, x1898⟩, H1905, H⟩ := bnd H
   refine WP.monoW (Q := fun x E M => x = .normal ∧ E = ((((((((Env.none.upd 2 (.ptr 0 0)).upd 4 (.ptr 1 0)).upd 5 (.lit (.bool x1747))).upd 6 (.lit (.string x1750))).upd 7 (.lit (.string x1769))).upd 8 (.lit (.bool x1770))).upd 9 (.ptr 2 0)).upd 45 (.lit (.bool x1897))) ∧ M = (((Mem.nil.push (.cells 23 [.lit (.int .i64 0), .lit (.int .i64 0)])).push (.cells 34 [.lit (.string x1898)])).push (.cells 3 [.lit (.int .i64 0)]))) ?_ ?_
   · clear H
     have H := H1905
     clear H1905
     refine WP.region ?_
     refine WPL.q (q_mv (v := .ptr _ _) rfl) rfl ?_
     obtain ⟨⟨x1900, x1901⟩, h1898, H⟩ := bnd H
     refine WPL.c (runs_call (s := [1]) (t := [1]) (N := 3) (bor := []) fn11 rfl (s_dec_parser_take k (ByteArray.mk #[101]) x1771 x1900 x1901 h1898) ⟨rfl, ⟨trivial, .inr ⟨rfl, rfl, rfl⟩⟩, by decide, rfl, trivial⟩ rfl trivial (.ren rfl rfl (.ren rfl rfl .nil)) rfl ⟨trivial, rfl⟩ rfl) rfl ?_
     refine WPL.q (q_mv (v := .lit (.bool _)) rfl) rfl ?_
     refine WPL.split (t := 42) (b := x1900) rfl (fun hb1901 => ?_) (fun hb1901 => ?_)
     · replace H := cnt hb1901 H
       refine WPL.skipg (b' := true) rfl rfl (lb hb1901) rfl rfl ?_
       refine WPL.skipg (b' := true) rfl rfl (lb hb1901) rfl rfl ?_
       refine WPL.q (q_pickT (v := .lit (.bool _)) (lb hb1901) rfl) rfl ?_
       refine WPL.nilW ?_
       have q0 := (Prod.mk.inj (Option.some.inj H)).1
       have q1 := (Prod.mk.inj (Option.some.inj H)).2
       subst q0
       subst q1
       exact W.wk [0, 1, 2] hnp ⟨rfl, rfl, rfl⟩ ⟨rfl, ⟨⟨⟨trivial, .inr ⟨rfl, rfl, rfl⟩⟩, .inr ⟨rfl, rfl, rfl⟩⟩, .inr ⟨rfl, rfl, rfl⟩⟩, by decide, rfl, trivial⟩ (LeE.upd rfl rfl (LeE.upd rfl rfl (LeE.upd rfl rfl (LeE.upd rfl rfl (LeE.upd rfl rfl (LeE.upd rfl rfl (LeE.upd rfl rfl (LeE.upd rfl rfl (LeE.none rfl rfl))))))))) rfl
     replace H := cnf hb1901 H
     refine WPL.qg rfl rfl (lb hb1901) (q_mv (v := .ptr _ _) rfl) rfl ?_
     obtain ⟨⟨x1904, x1905⟩, h1902, H⟩ := bnd H
     refine WPL.cg rfl rfl (lb hb1901) (runs_call (s := [1]) (t := [1]) (N := 3) (bor := []) fn11 rfl (s_dec_parser_take k (ByteArray.mk #[69]) x1901 x1904 x1905 h1902) ⟨rfl, ⟨trivial, .inr ⟨rfl, rfl, rfl⟩⟩, by decide, rfl, trivial⟩ rfl trivial (.ren rfl rfl (.ren rfl rfl .nil)) rfl ⟨trivial, rfl⟩ rfl) rfl ?_
     refine WPL.q (q_pickF (v := .lit (.bool _)) (lb hb1901) rfl) rfl ?_
     refine WPL.nilW ?_
     have q0 := (Prod.mk.inj (Option.some.inj H)).1
     have q1 := (Prod.mk.inj (Option.some.inj H)).2
     subst q0
     subst q1
     exact W.wk [0, 1, 2] hnp ⟨rfl, rfl, rfl⟩ ⟨rfl, ⟨⟨⟨trivial, .inr ⟨rfl, rfl, rfl⟩⟩, .inr ⟨rfl, rfl, rfl⟩⟩, .inr ⟨rfl, rfl, rfl⟩⟩, by decide, rfl, trivial⟩ (LeE.upd rfl rfl (LeE.upd rfl rfl (LeE.upd rfl rfl (LeE.upd rfl rfl (LeE.upd rfl rfl (LeE.upd rfl rfl (LeE.upd rfl rfl (LeE.upd rfl rfl (LeE.none rfl rfl))))))))) rfl
   rintro _ _ _ ⟨rfl, rfl, rfl⟩
   refine W.now ?_
   refine Then.n ?_
   refine WP.cond (t := x1897) rfl (fun hb1906 => ?_) (fun hb1906 => ?_)
   · replace H := cnt hb1906 H
     refine WP.seq ?_
     refine WP.region ?_
     refine WPL.q (q_mv (v := .ptr _ _) rfl) rfl ?_
     obtain ⟨⟨x1909, x1910⟩, h1907, H⟩ := bnd H
     refine WPL.c (runs_call (s := [1]) (t := [1]) (N := 3) (bor := []) fn11 rfl (s_dec_parser_take k (ByteArray.mk #[45]) x1898 x1909 x1910 h1907) ⟨rfl, ⟨trivial, .inr ⟨rfl, rfl, rfl⟩⟩, by decide, rfl, trivial⟩ rfl trivial (.ren rfl rfl (.ren rfl rfl .nil)) rfl ⟨trivial, rfl⟩ rfl) rfl ?_
     refine WPL.q (q_as (v := .lit (.bool _)) rfl) rfl ?_
     refine WPL.nilW ?_
     refine W.now ?_
     refine Then.n ?_
     refine WP.seq ?_
     obtain ⟨x1915, H1919, H⟩ := bnd H
     refine WP.monoW (Q := fun x E M => x = .normal ∧ E = ((((((((Env.none.upd 2 (.ptr 0 0)).upd 4 (.ptr 1 0)).upd 5 (.lit (.bool x1747))).upd 6 (.lit (.string x1750))).upd 7 (.lit (.string x1769))).upd 8 (.lit (.bool x1770))).upd 9 (.ptr 2 0)).upd 10 (.lit (.bool x1909))) ∧ M = (((Mem.nil.push (.cells 23 [.lit (.int .i64 0), .lit (.int .i64 0)])).push (.cells 34 [.lit (.string x1915)])).push (.cells 3 [.lit (.int .i64 0)]))) ?_ ?_
     · clear H
       have H := H1919
       clear H1919
       refine WP.seq ?_
       refine WP.region ?_
       refine WPL.q (q_mv (v := .lit (.bool _)) rfl) rfl ?_
       refine WPL.q (q_not rfl) rfl ?_
       refine WPL.nilW ?_
       refine W.now ?_
       refine Then.n ?_
       refine WP.cond (t := (!x1909)) rfl (fun hb1915 => ?_) (fun hb1915 => ?_)
       · replace H := cnt hb1915 H
         refine WP.region ?_
         refine WPL.q (q_mv (v := .ptr _ _) rfl) rfl ?_
         obtain ⟨⟨x1918, x1919⟩, h1916, H⟩ := bnd H
         refine WPL.c (runs_call (s := [1]) (t := [1]) (N := 3) (bor := []) fn11 rfl (s_dec_parser_take k (ByteArray.mk #[43]) x1910 x1918 x1919 h1916) ⟨rfl, ⟨trivial, .inr ⟨rfl, rfl, rfl⟩⟩, by decide, rfl, trivial⟩ rfl trivial (.ren rfl rfl (.ren rfl rfl .nil)) rfl ⟨trivial, rfl⟩ rfl) rfl ?_
         refine WPL.nilW ?_
         have q0 := (Option.some.inj H)
         subst q0
         exact W.wk [0, 1, 2] hnp ⟨rfl, rfl, rfl⟩ ⟨rfl, ⟨⟨⟨trivial, .inr ⟨rfl, rfl, rfl⟩⟩, .inr ⟨rfl, rfl, rfl⟩⟩, .inr ⟨rfl, rfl, rfl⟩⟩, by decide, rfl, trivial⟩ (LeE.upd rfl rfl (LeE.upd rfl rfl (LeE.upd rfl rfl (LeE.upd rfl rfl (LeE.upd rfl rfl (LeE.upd rfl rfl (LeE.upd rfl rfl (LeE.upd rfl rfl (LeE.none rfl rfl))))))))) rfl
       replace H := cnf hb1915 H
       refine WP.skipW ?_
       have q0 := (Option.some.inj H)
       subst q0
       exact W.wk [0, 1, 2] hnp ⟨rfl, rfl, rfl⟩ ⟨rfl, ⟨⟨⟨trivial, .inr ⟨rfl, rfl, rfl⟩⟩, .inr ⟨rfl, rfl, rfl⟩⟩, .inr ⟨rfl, rfl, rfl⟩⟩, by decide, rfl, trivial⟩ (LeE.upd rfl rfl (LeE.upd rfl rfl (LeE.upd rfl rfl (LeE.upd rfl rfl (LeE.upd rfl rfl (LeE.upd rfl rfl (LeE.upd rfl rfl (LeE.upd rfl rfl (LeE.none rfl rfl))))))))) rfl
     rintro _ _ _ ⟨rfl, rfl, rfl⟩
     refine W.now ?_
     refine Then.n ?_
     refine WP.seq ?_
     refine WP.region ?_
     refine WPL.q (q_mv (v := .ptr _ _) rfl) rfl ?_
     obtain ⟨⟨x1922, x1923⟩, h1920, H⟩ := bnd H
     refine WPL.c (runs_call (s := [1]) (t := [1]) (N := 3) (bor := []) fn12 rfl (s_dec_parser_some k x1915 x1922 x1923 h1920) ⟨rfl, ⟨trivial, .inr ⟨rfl, rfl, rfl⟩⟩, by decide, rfl, trivial⟩ rfl trivial (.ren rfl rfl .nil) rfl ⟨trivial, rfl⟩ rfl) rfl ?_
     refine WPL.q (q_as (v := .lit (.string _)) rfl) rfl ?_
     refine WPL.nilW ?_
     refine W.now ?_
     refine Then.n ?_
     refine WP.seq ?_
     obtain ⟨x1928, H1932, H⟩ := bnd H
     refine WP.monoW (Q := fun x E M => x = .normal ∧ E = (((((((((Env.none.upd 2 (.ptr 0 0)).upd 4 (.ptr 1 0)).upd 5 (.lit (.bool x1747))).upd 6 (.lit (.string x1750))).upd 7 (.lit (.string x1769))).upd 8 (.lit (.bool x1928))).upd 9 (.ptr 2 0)).upd 10 (.lit (.bool x1909))).upd 11 (.lit (.string x1922))) ∧ M = (((Mem.nil.push (.cells 23 [.lit (.int .i64 0), .lit (.int .i64 0)])).push (.cells 34 [.lit (.string x1923)])).push (.cells 3 [.lit (.int .i64 0)]))) ?_ ?_
     · clear H
       have H := H1932
       clear H1932
       refine WP.region ?_
       refine WPL.q (q_mv (v := .lit (.bool _)) rfl) rfl ?_
       refine WPL.q (q_mv (v := .lit (.bool _)) rfl) rfl ?_
       refine WPL.split (t := 55) (b := x1770) rfl (fun hb1928 => ?_) (fun hb1928 => ?_)
       · replace H := cnt hb1928 H
         refine WPL.qg rfl rfl (lb hb1928) (q_mv (v := .lit (.string _)) rfl) rfl ?_
         refine WPL.qg rfl rfl (lb hb1928) (q_len_str Tryd.underlying9 rfl) rfl ?_
         obtain ⟨x1930, h1930, H⟩ := bnd H
         refine WPL.qg rfl rfl (lb hb1928) (q_nm (q_geq rfl rfl) (nm_bool h1930)) rfl ?_
         refine WPL.q (q_pickT (v := .lit (.bool _)) (lb hb1928) rfl) rfl ?_
         refine WPL.q (q_mv (v := .lit (.bool _)) rfl) rfl ?_
         refine WPL.split (t := 60) (b := x1930) rfl (fun hb1930 => ?_) (fun hb1930 => ?_)
         · replace H := cnt hb1930 H
           refine WPL.qg rfl rfl (lb hb1930) (q_mv (v := .lit (.string _)) rfl) rfl ?_
           refine WPL.qg rfl rfl (lb hb1930) (q_len_str Tryd.underlying9 rfl) rfl ?_
           obtain ⟨x1932, h1932, H⟩ := bnd H
           refine WPL.qg rfl rfl (lb hb1930) (q_nm (q_leq rfl rfl) (nm_bool h1932)) rfl ?_
           refine WPL.q (q_pickT (v := .lit (.bool _)) (lb hb1930) rfl) rfl ?_
           refine WPL.q (q_as (v := .lit (.bool _)) rfl) rfl ?_
           refine WPL.nilW ?_
           have q0 := (Option.some.inj H)
           subst q0
           exact W.wk [0, 1, 2] hnp ⟨rfl, rfl, rfl⟩ ⟨rfl, ⟨⟨⟨trivial, .inr ⟨rfl, rfl, rfl⟩⟩, .inr ⟨rfl, rfl, rfl⟩⟩, .inr ⟨rfl, rfl, rfl⟩⟩, by decide, rfl, trivial⟩ (LeE.upd rfl rfl (LeE.upd rfl rfl (LeE.upd rfl rfl (LeE.upd rfl rfl (LeE.upd rfl rfl (LeE.upd rfl rfl (LeE.upd rfl rfl (LeE.upd rfl rfl (LeE.upd rfl rfl (LeE.none rfl rfl)))))))))) rfl
         replace H := cnf hb1930 H
         refine WPL.skipg (b' := false) rfl rfl (lb hb1930) rfl rfl ?_
         refine WPL.skipg (b' := false) rfl rfl (lb hb1930) rfl rfl ?_
         refine WPL.skipg (b' := false) rfl rfl (lb hb1930) rfl rfl ?_
         refine WPL.q (q_pickF (v := .lit (.bool _)) (lb hb1930) rfl) rfl ?_
         refine WPL.q (q_as (v := .lit (.bool _)) rfl) rfl ?_
         refine WPL.nilW ?_
         have q0 := (Option.some.inj H)
         subst q0
         exact W.wk [0, 1, 2] hnp ⟨rfl, rfl, rfl⟩ ⟨rfl, ⟨⟨⟨trivial, .inr ⟨rfl, rfl, rfl⟩⟩, .inr ⟨rfl, rfl, rfl⟩⟩, .inr ⟨rfl, rfl, rfl⟩⟩, by decide, rfl, trivial⟩ (LeE.upd rfl rfl (LeE.upd rfl rfl (LeE.upd rfl rfl (LeE.upd rfl rfl (LeE.upd rfl rfl (LeE.upd rfl rfl (LeE.upd rfl rfl (LeE.upd rfl rfl (LeE.upd rfl rfl (LeE.none rfl rfl)))))))))) rfl
       replace H := cnf hb1928 H
       refine WPL.skipg (b' := false) rfl rfl (lb hb1928) rfl rfl ?_
       refine WPL.skipg (b' := false) rfl rfl (lb hb1928) rfl rfl ?_
       refine WPL.skipg (b' := false) rfl rfl (lb hb1928) rfl rfl ?_
       refine WPL.q (q_pickF (v := .lit (.bool _)) (lb hb1928) rfl) rfl ?_
       refine WPL.q (q_mv (v := .lit (.bool _)) rfl) rfl ?_
       refine WPL.skipg (b' := false) rfl rfl rfl rfl rfl ?_
       refine WPL.skipg (b' := false) rfl rfl rfl rfl rfl ?_
       refine WPL.skipg (b' := false) rfl rfl rfl rfl rfl ?_
       refine WPL.q (q_pickF (v := .lit (.bool _)) rfl rfl) rfl ?_
       refine WPL.q (q_as (v := .lit (.bool _)) rfl) rfl ?_
       refine WPL.nilW ?_
       have q0 := (Option.some.inj H)
       subst q0
       exact W.wk [0, 1, 2] hnp ⟨rfl, rfl, rfl⟩ ⟨rfl, ⟨⟨⟨trivial, .inr ⟨rfl, rfl, rfl⟩⟩, .inr ⟨rfl, rfl, rfl⟩⟩, .inr ⟨rfl, rfl, rfl⟩⟩, by decide, rfl, trivial⟩ (LeE.upd rfl rfl (LeE.upd rfl rfl (LeE.upd rfl rfl (LeE.upd rfl rfl (LeE.upd rfl rfl (LeE.upd rfl rfl (LeE.upd rfl rfl (LeE.upd rfl rfl (LeE.upd rfl rfl (LeE.none rfl rfl)))))))))) rfl
     rintro _ _ _ ⟨rfl, rfl, rfl⟩
     refine W.now ?_
     refine Then.n ?_
     refine WP.seq ?_
     obtain ⟨x1963, H2003, H⟩ := bnd H
     refine WP.monoW (Q := fun x E M => x = .normal ∧ E = (((((((((⟨fun _ => .any, [3], []⟩ : Env).upd 2 (.ptr 0 0)).upd 4 (.ptr 1 0)).upd 5 (.lit (.bool x1747))).upd 6 (.lit (.string x1750))).upd 7 (.lit (.string x1769))).upd 8 (.lit (.bool x1928))).upd 9 (.ptr 2 0)).upd 10 (.lit (.bool x1909))) ∧ M = ((((Mem.nil.push (.cells 23 [.lit (.int .i64 0), .lit (.int .i64 0)])).push (.cells 34 [.lit (.string x1923)])).push (.cells 3 [.lit (.int .i64 x1963)])).push (.bag))) ?_ ?_
     · clear H
       have H := H2003
       clear H2003
       refine WP.seq ?_
       refine WP.region ?_
       refine WPL.q (q_mv (v := .lit (.bool _)) rfl) rfl ?_
       refine WPL.nilW ?_
       refine W.now ?_
       refine Then.n ?_
       refine WP.cond (t := x1928) rfl (fun hb1963 => ?_) (fun hb1963 => ?_)
       · replace H := cnt hb1963 H
         refine WP.seq ?_
         refine WP.region ?_
         refine WPL.q (q_mv (v := .lit (.string _)) rfl) rfl ?_
         obtain ⟨_, h1964, H⟩ := bnd H
         refine WPL.c (runs_call (s := []) (t := [3]) (N := 4) (bor := []) fn13 rfl (s_dec_values k x1922 h1964) ⟨rfl, trivial, by decide, rfl, trivial⟩ rfl trivial (.ren rfl rfl .nil) rfl ⟨trivial, rfl⟩ rfl) rfl ?_
         refine WPL.nilW ?_
         refine W.now ?_
         refine Then.n ?_
         refine WP.block ?_
         refine WP.cv (Cv.nullMark (N := 4) rfl rfl) ?_
         refine WP.range (nti := 18) (n := 5) rfl rfl Tryd.func33 rfl (by kernel_rfl) rfl rfl rfl rfl fun l_1965 r_1965 aC1965 hp1965 ha1965 hb1965 ht1965 hs1965 => ?_
         refine WP.seq ?_
         refine WP.region ?_
         refine WPL.q (q_load sc9 rfl rfl rfl) rfl ?_
         refine WPL.q (q_len_str Tryd.underlying9 rfl) rfl ?_
         refine WPL.q (q_mv (v := .lit (.int _ _)) rfl) rfl ?_
         refine WPL.nilW ?_
         refine W.now ?_
         refine Then.n ?_
         refine WP.block ?_
         refine WP.cv (Cv.weak (E' := (((((⟨fun _ => .any, [], [⟨aC1965, ((((((((((Env.none.upd 2 (.ptr 1 0)).upd 4 (.ptr 2 0)).upd 5 (.lit (.bool x1747))).upd 6 (.lit (.string x1750))).upd 7 (.lit (.string x1769))).upd 8 (.lit (.bool x1928))).upd 9 (.ptr 3 0)).upd 10 (.lit (.bool x1909))).upd 67 (.fn 33 [.ptr 0 0]))).v, [4, 5], some (6, l_1965)⟩]⟩ : Env).upd 0 (.lit (.func (.yield l_1965) #[] #[]))).upd 1 (.ptr 0 0)).upd 5 (.lit (.int .i64 ((ByteArray.size x1922 : Nat) : Int)))).upd 6 (.lit (.int .i64 0)))) (M' := (((((((Mem.nil.push (.cells 9 [.lit (.string x1922)])).push (.cells 23 [.lit (.int .i64 0), .lit (.int .i64 0)])).push (.cells 34 [.lit (.string x1923)])).push (.cells 3 [.lit (.int .i64 0)])).push (.obj (Obj.deferred (some [])))).push (.bag)).push (.obj (lp r_1965 .ready none)))) [3, 0, 1, 2, 5, 4, 6] hnp ⟨rfl, ⟨⟨⟨⟨⟨⟨⟨trivial, .inr ⟨rfl, rfl, rfl⟩⟩, .inr ⟨rfl, rfl, rfl⟩⟩, .inr ⟨rfl, rfl, rfl⟩⟩, .inr ⟨rfl, rfl, rfl⟩⟩, .inr ⟨rfl, rfl, rfl⟩⟩, .inr ⟨rfl, rfl, rfl⟩⟩, .inr ⟨rfl, rfl, rfl⟩⟩, by decide, rfl, trivial⟩ (LeE.upd rfl rfl (LeE.upd rfl rfl (LeE.upd rfl rfl (LeE.upd rfl rfl (LeE.noneD rfl rfl (.cons ⟨rfl, (LeV.upd rfl rfl (LeV.upd rfl rfl (LeV.upd rfl rfl (LeV.upd rfl rfl (LeV.upd rfl rfl (LeV.upd rfl rfl (LeV.upd rfl rfl (LeV.upd rfl rfl (LeV.upd rfl rfl LeV.none))))))))), rfl, rfl, rfl, rfl⟩ .nil))))))) ?_
         obtain ⟨x1991, H2002, H⟩ := bnd H
         refine WP.monoW (Q := fun x E M => x = .exit 0 ∧ E = (⟨fun _ => .any, [], [⟨aC1965, ((((((((((Env.none.upd 2 (.ptr 0 0)).upd 4 (.ptr 1 0)).upd 5 (.lit (.bool x1747))).upd 6 (.lit (.string x1750))).upd 7 (.lit (.string x1769))).upd 8 (.lit (.bool x1928))).upd 9 (.ptr 2 0)).upd 10 (.lit (.bool x1909))).upd 67 (.fn 33 [.ptr 3 0]))).v, [4, 5], some (6, l_1965)⟩]⟩ : Env) ∧ M = (((((((Mem.nil.push (.cells 23 [.lit (.int .i64 0), .lit (.int .i64 0)])).push (.cells 34 [.lit (.string x1923)])).push (.cells 3 [.lit (.int .i64 x1991)])).push (.cells 9 [.lit (.string x1922)])).push (.obj (Obj.deferred (some [])))).push (.bag)).push (.obj (lp r_1965 .ready none)))) ?_ ?_
         · refine WP.loop (β := Int × Int) (fun n b => g_dec_Parse_l0 k x1922 n b.1 b.2 = some x1991) (fun b => (((((⟨fun _ => .any, [], [⟨aC1965, ((((((((((Env.none.upd 2 (.ptr 1 0)).upd 4 (.ptr 2 0)).upd 5 (.lit (.bool x1747))).upd 6 (.lit (.string x1750))).upd 7 (.lit (.string x1769))).upd 8 (.lit (.bool x1928))).upd 9 (.ptr 3 0)).upd 10 (.lit (.bool x1909))).upd 67 (.fn 33 [.ptr 0 0]))).v, [4, 5], some (6, l_1965)⟩]⟩ : Env).upd 0 (.lit (.func (.yield l_1965) #[] #[]))).upd 1 (.ptr 0 0)).upd 5 (.lit (.int .i64 ((ByteArray.size x1922 : Nat) : Int)))).upd 6 (.lit (.int .i64 b.1)))) (fun b => (((((((Mem.nil.push (.cells 9 [.lit (.string x1922)])).push (.cells 23 [.lit (.int .i64 0), .lit (.int .i64 0)])).push (.cells 34 [.lit (.string x1923)])).push (.cells 3 [.lit (.int .i64 b.2)])).push (.obj (Obj.deferred (some [])))).push (.bag)).push (.obj (lp r_1965 .ready none)))) k (0, 0) H2002 rfl rfl ?_
           rintro n ⟨x1978, x1979⟩ H
           obtain _ | n := n
           · exact nf rfl H
           rw [g_dec_Parse_l0.eq_2] at H
           show WP _ _ _ _ (((((⟨fun _ => .any, [], [⟨aC1965, ((((((((((Env.none.upd 2 (.ptr 1 0)).upd 4 (.ptr 2 0)).upd 5 (.lit (.bool x1747))).upd 6 (.lit (.string x1750))).upd 7 (.lit (.string x1769))).upd 8 (.lit (.bool x1928))).upd 9 (.ptr 3 0)).upd 10 (.lit (.bool x1909))).upd 67 (.fn 33 [.ptr 0 0]))).v, [4, 5], some (6, l_1965)⟩]⟩ : Env).upd 0 (.lit (.func (.yield l_1965) #[] #[]))).upd 1 (.ptr 0 0)).upd 5 (.lit (.int .i64 ((ByteArray.size x1922 : Nat) : Int)))).upd 6 (.lit (.int .i64 x1978))) (((((((Mem.nil.push (.cells 9 [.lit (.string x1922)])).push (.cells 23 [.lit (.int .i64 0), .lit (.int .i64 0)])).push (.cells 34 [.lit (.string x1923)])).push (.cells 3 [.lit (.int .i64 x1979)])).push (.obj (Obj.deferred (some [])))).push (.bag)).push (.obj (lp r_1965 .ready none))) _
           refine WP.seq ?_
           refine WP.region ?_
           obtain ⟨x1992, h1992, H⟩ := bnd H
           refine WPL.q (q_nm (q_lss rfl rfl) (nm_bool h1992)) rfl ?_
           refine WPL.nilW ?_
           refine W.now ?_
           refine Then.n ?_
           refine WP.seq ?_
           refine WP.cond (t := x1992) rfl (fun hb1993 => ?_) (fun hb1993 => ?_)
           · replace H := cnt hb1993 H
             refine WP.skipW ?_
             refine W.now ?_
             refine Then.n ?_
             refine WP.seq ?_
             refine WP.block ?_
             refine WP.seq ?_
             refine WP.region ?_
             refine WPL.q (q_mv (v := .lit (.int _ _)) rfl) rfl ?_
             refine WPL.q (q_as (v := .lit (.int _ _)) rfl) rfl ?_
             refine WPL.nilW ?_
             refine W.now ?_
             refine Then.n ?_
             refine WP.seq ?_
             refine WP.region ?_
             refine WPL.q (q_mv (v := .lit _) rfl) rfl ?_
             refine WPL.q (q_load sc9 rfl rfl rfl) rfl ?_
             refine WPL.q (q_mv (v := .lit (.int _ _)) rfl) rfl ?_
             obtain ⟨x1999, h1999, H⟩ := bnd H
             refine WPL.q (q_index_str Tryd.underlying9 rfl rfl h1999) rfl ?_
             refine WPL.q (q_sub rfl rfl) rfl ?_
             obtain ⟨x2000, h2000, H⟩ := bnd H
             refine WPL.q (q_nm (q_conv Tryd.underlying5 Tryd.underlying3 rfl) (nm_int h2000)) rfl ?_
             refine WPL.y rfl rfl rfl rfl hp1965 ha1965 hb1965 ht1965 hs1965 rfl rfl rfl fun aI2000 => ?_
             refine WP.region ?_
             refine WPL.q (q_as (v := .lit (.int _ _)) rfl) rfl ?_
             refine WPL.nilW ?_
             refine W.now ?_
             refine ⟨rfl, rfl, _, _, _, _, _, _, rfl, rfl, ?_⟩
             refine WP.block ?_
             refine WP.region ?_
             refine WPL.q (q_load sc3 rfl rfl rfl) rfl ?_
             refine WPL.q (q_mul rfl rfl) rfl ?_
             refine WPL.q (q_mv (v := .lit (.int _ _)) rfl) rfl ?_
             obtain ⟨x2002, h2002, H⟩ := bnd H
             refine WPL.q (q_nm (q_add rfl rfl) (nm_int h2002)) rfl ?_
             refine WPL.s (s_store sz3 rfl rfl rfl rfl rfl) ?_
             refine WPL.nilW ?_
             refine W.now ?_
             refine InBlock.n ?_
             refine ⟨rfl, _, _, _, _, _, _, rfl, rfl, _, rfl, ?_⟩
             refine WPL.q (q_not rfl) rfl ?_
             refine WPL.nilW ?_
             refine W.now ?_
             refine Then.n ?_
             refine WP.condFB (t := (!true)) rfl rfl ?_
             refine WP.skipW ?_
             refine W.now ?_
             refine InBlock.n ?_
             refine Then.n ?_
             refine WP.region ?_
             refine WPL.q (q_add rfl rfl) rfl ?_
             refine WPL.q (q_mv (v := .lit (.int _ _)) rfl) rfl ?_
             refine WPL.nilW ?_
             exact W.wk [0, 1, 2, 3, 4, 5, 6] hnp (Then.n ⟨n, ((IntKind.wrap .i64 (x1978 + 1)), x2002), Nat.lt_succ_self n, H, rfl, rfl⟩) ⟨rfl, ⟨⟨⟨⟨⟨⟨⟨trivial, .inr ⟨rfl, rfl, rfl⟩⟩, .inr ⟨rfl, rfl, rfl⟩⟩, .inr ⟨rfl, rfl, rfl⟩⟩, .inr ⟨rfl, rfl, rfl⟩⟩, .inr ⟨rfl, rfl, rfl⟩⟩, .inr ⟨rfl, rfl, rfl⟩⟩, .inr ⟨rfl, rfl, rfl⟩⟩, by decide, rfl, trivial⟩ (LeE.upd rfl rfl (LeE.upd rfl rfl (LeE.upd rfl rfl (LeE.upd rfl rfl (LeE.noneD rfl rfl (.cons ⟨rfl, (LeV.upd rfl rfl (LeV.upd rfl rfl (LeV.upd rfl rfl (LeV.upd rfl rfl (LeV.upd rfl rfl (LeV.upd rfl rfl (LeV.upd rfl rfl (LeV.upd rfl rfl (LeV.upd rfl rfl LeV.none))))))))), rfl, rfl, rfl, rfl⟩ .nil)))))) rfl
           replace H := cnf hb1993 H
           refine WP.exitW ?_
           have q0 := (Option.some.inj H)
           subst q0
           exact W.wk [1, 2, 3, 0, 4, 5, 6] hnp (Then.x (Then.x ⟨rfl, rfl, rfl⟩)) ⟨rfl, ⟨⟨⟨⟨⟨⟨⟨trivial, .inr ⟨rfl, rfl, rfl⟩⟩, .inr ⟨rfl, rfl, rfl⟩⟩, .inr ⟨rfl, rfl, rfl⟩⟩, .inr ⟨rfl, rfl, rfl⟩⟩, .inr ⟨rfl, rfl, rfl⟩⟩, .inr ⟨rfl, rfl, rfl⟩⟩, .inr ⟨rfl, rfl, rfl⟩⟩, by decide, rfl, trivial⟩ (LeE.noneD rfl rfl (.cons ⟨rfl, (LeV.upd rfl rfl (LeV.upd rfl rfl (LeV.upd rfl rfl (LeV.upd rfl rfl (LeV.upd rfl rfl (LeV.upd rfl rfl (LeV.upd rfl rfl (LeV.upd rfl rfl (LeV.upd rfl rfl LeV.none))))))))), rfl, rfl, rfl, rfl⟩ .nil)) rfl
         rintro _ _ _ ⟨rfl, rfl, rfl⟩
         refine W.now ?_
         refine InBlock.x0 ?_
         refine ⟨trivial, _, _, _, _, rfl, _, _, rfl, (fun h => by cases h), ?_⟩
         refine W.cv (Cv.absorb (N := 7) (j := 4) (i := 5) rfl rfl rfl rfl) rfl ?_
         have q0 := (Option.some.inj H)
         subst q0
         exact W.wk [0, 1, 2, 7] hnp (InBlock.n ⟨rfl, rfl, rfl⟩) ⟨rfl, ⟨⟨⟨⟨trivial, .inr ⟨rfl, rfl, rfl⟩⟩, .inr ⟨rfl, rfl, rfl⟩⟩, .inr ⟨rfl, rfl, rfl⟩⟩, .inr ⟨rfl, rfl, rfl⟩⟩, by decide, rfl, trivial⟩ (LeE.upd rfl rfl (LeE.upd rfl rfl (LeE.upd rfl rfl (LeE.upd rfl rfl (LeE.upd rfl rfl (LeE.upd rfl rfl (LeE.upd rfl rfl (LeE.upd rfl rfl (LeE.noneD rfl rfl .nil))))))))) rfl
       replace H := cnf hb1963 H
       refine WP.skipW ?_
       refine W.cv (Cv.nullMark (N := 3) rfl rfl) rfl ?_
       have q0 := (Option.some.inj H)
       subst q0
       exact W.wk [0, 1, 2, 3] hnp ⟨rfl, rfl, rfl⟩ ⟨rfl, ⟨⟨⟨⟨trivial, .inr ⟨rfl, rfl, rfl⟩⟩, .inr ⟨rfl, rfl, rfl⟩⟩, .inr ⟨rfl, rfl, rfl⟩⟩, .inr ⟨rfl, rfl, rfl⟩⟩, by decide, rfl, trivial⟩ (LeE.upd rfl rfl (LeE.upd rfl rfl (LeE.upd rfl rfl (LeE.upd rfl rfl (LeE.upd rfl rfl (LeE.upd rfl rfl (LeE.upd rfl rfl (LeE.upd rfl rfl (LeE.noneD rfl rfl .nil))))))))) rfl
     rintro _ _ _ ⟨rfl, rfl, rfl⟩
     refine W.now ?_
     refine Then.n ?_
     refine WP.seq ?_
     refine WP.region ?_
     refine WPL.q (q_mv (v := .lit (.bool _)) rfl) rfl ?_
     refine WPL.nilW ?_
     refine W.now ?_
     refine Then.n ?_
     refine WP.cond (t := x1909) rfl (fun hb2004 => ?_) (fun hb2004 => ?_)
     · replace H := cnt hb2004 H
       refine WP.region ?_
       refine WPL.q (q_load sc3 rfl rfl rfl) rfl ?_
       refine WPL.q (q_neg rfl) rfl ?_
       refine WPL.s (s_store sz3 rfl rfl rfl rfl rfl) ?_
       refine WPL.nilW ?_
       have q0 := (Prod.mk.inj (Option.some.inj H)).1
       have q1 := (Prod.mk.inj (Prod.mk.inj (Option.some.inj H)).2).1
       have q2 := (Prod.mk.inj (Prod.mk.inj (Option.some.inj H)).2).2
       subst q0
       subst q1
       subst q2
       exact W.wk [0, 1, 2, 3] hnp ⟨rfl, rfl, rfl⟩ ⟨rfl, ⟨⟨⟨⟨trivial, .inr ⟨rfl, rfl, rfl⟩⟩, .inr ⟨rfl, rfl, rfl⟩⟩, .inr ⟨rfl, rfl, rfl⟩⟩, .inr ⟨rfl, rfl, rfl⟩⟩, by decide, rfl, trivial⟩ (LeE.upd rfl rfl (LeE.upd rfl rfl (LeE.upd rfl rfl (LeE.upd rfl rfl (LeE.upd rfl rfl (LeE.upd rfl rfl (LeE.upd rfl rfl (LeE.noneD rfl rfl .nil)))))))) rfl
     replace H := cnf hb2004 H
     refine WP.skipW ?_
     have q0 := (Prod.mk.inj (Option.some.inj H)).1
     have q1 := (Prod.mk.inj (Prod.mk.inj (Option.some.inj H)).2).1
     have q2 := (Prod.mk.inj (Prod.mk.inj (Option.some.inj H)).2).2
     subst q0
     subst q1
     subst q2
     exact W.wk [0, 1, 2, 3] hnp ⟨rfl, rfl, rfl⟩ ⟨rfl, ⟨⟨⟨⟨trivial, .inr ⟨rfl, rfl, rfl⟩⟩, .inr ⟨rfl, rfl, rfl⟩⟩, .inr ⟨rfl, rfl, rfl⟩⟩, .inr ⟨rfl, rfl, rfl⟩⟩, by decide, rfl, trivial⟩ (LeE.upd rfl rfl (LeE.upd rfl rfl (LeE.upd rfl rfl (LeE.upd rfl rfl (LeE.upd rfl rfl (LeE.upd rfl rfl (LeE.upd rfl rfl (LeE.noneD rfl rfl .nil)))))))) rfl
   replace H := cnf hb1906 H
   refine WP.skipW ?_
   refine W.cv (Cv.nullMark (N := 3) rfl rfl) rfl ?_
   have q0 := (Prod.mk.inj (Option.some.inj H)).1
   have q1 := (Prod.mk.inj (Prod.mk.inj (Option.some.inj H)).2).1
   have q2 := (Prod.mk.inj (Prod.mk.inj (Option.some.inj H)).2).2
   subst q0
   subst q1
   subst q2
   exact W.wk [0, 1, 2, 3] hnp ⟨rfl, rfl, rfl⟩ ⟨rfl, ⟨⟨⟨⟨trivial, .inr ⟨rfl, rfl, rfl⟩⟩, .inr ⟨rfl, rfl, rfl⟩⟩, .inr ⟨rfl, rfl, rfl⟩⟩, .inr ⟨rfl, rfl, rfl⟩⟩, by decide, rfl, trivial⟩ (LeE.upd rfl rfl (LeE.upd rfl rfl (LeE.upd rfl rfl (LeE.upd rfl rfl (LeE.upd rfl rfl (LeE.upd rfl rfl (LeE.upd rfl rfl (LeE.noneD rfl rfl .nil)))))))) rfl
 rintro _ _ _ ⟨rfl, rfl, rfl⟩
 refine W.now ?_
 refine Then.n ?_
 refine WP.seq ?_
 refine WP.seq ?_
 obtain ⟨x2016, H2018, H⟩ := bnd H
 refine WP.monoW (Q := fun x E M => x = .normal ∧ E = (((((((⟨fun _ => .any, [2], []⟩ : Env).upd 2 (.ptr 0 0)).upd 5 (.lit (.bool x1747))).upd 6 (.lit (.string x1750))).upd 7 (.lit (.string x1769))).upd 9 (.ptr 1 0)).upd 84 (.lit (.bool x2016))) ∧ M = (((Mem.nil.push (.cells 23 [.lit (.int .i64 0), .lit (.int .i64 0)])).push (.cells 3 [.lit (.int .i64 x1889)])).push (.bag))) ?_ ?_
 · clear H
   have H := H2018
   clear H2018
   refine WP.region ?_
   refine WPL.q (q_mv (v := .lit (.bool _)) rfl) rfl ?_
   refine WPL.q (q_not rfl) rfl ?_
   refine WPL.q (q_mv (v := .lit (.bool _)) rfl) rfl ?_
   refine WPL.split (t := 78) (b := (!x1887)) rfl (fun hb2016 => ?_) (fun hb2016 => ?_)
   · replace H := cnt hb2016 H
     refine WPL.skipg (b' := true) rfl rfl (lb hb2016) rfl rfl ?_
     refine WPL.skipg (b' := true) rfl rfl (lb hb2016) rfl rfl ?_
     refine WPL.skipg (b' := true) rfl rfl (lb hb2016) rfl rfl ?_
     refine WPL.skipg (b' := true) rfl rfl (lb hb2016) rfl rfl ?_
     refine WPL.skipg (b' := true) rfl rfl (lb hb2016) rfl rfl ?_
     refine WPL.q (q_pickT (v := .lit (.bool _)) (lb hb2016) rfl) rfl ?_
     refine WPL.nilW ?_
     have q0 := (Option.some.inj H)
     subst q0
     exact W.wk [0, 2, 3] hnp ⟨rfl, rfl, rfl⟩ ⟨rfl, ⟨⟨⟨trivial, .inr ⟨rfl, rfl, rfl⟩⟩, .inr ⟨rfl, rfl, rfl⟩⟩, .inr ⟨rfl, rfl, rfl⟩⟩, by decide, rfl, trivial⟩ (LeE.upd rfl rfl (LeE.upd rfl rfl (LeE.upd rfl rfl (LeE.upd rfl rfl (LeE.upd rfl rfl (LeE.upd rfl rfl (LeE.noneD rfl rfl .nil))))))) rfl
   replace H := cnf hb2016 H
   refine WPL.qg rfl rfl (lb hb2016) (q_mv (v := .ptr _ _) rfl) rfl ?_
   refine WPL.qg rfl rfl (lb hb2016) (q_nilCheck rfl) rfl ?_
   refine WPL.qg rfl rfl (lb hb2016) (q_fieldAddr fi34_0 rfl rfl) rfl ?_
   refine WPL.qg rfl rfl (lb hb2016) (q_load sc9 rfl rfl rfl) rfl ?_
   obtain ⟨x2018, h2018, H⟩ := bnd H
   refine WPL.qg rfl rfl (lb hb2016) (q_nm (q_neqs rfl rfl) (nm_bool h2018)) rfl ?_
   refine WPL.q (q_pickF (v := .lit (.bool _)) (lb hb2016) rfl) rfl ?_
   refine WPL.nilW ?_
   have q0 := (Option.some.inj H)
   subst q0
   exact W.wk [0, 2, 3] hnp ⟨rfl, rfl, rfl⟩ ⟨rfl, ⟨⟨⟨trivial, .inr ⟨rfl, rfl, rfl⟩⟩, .inr ⟨rfl, rfl, rfl⟩⟩, .inr ⟨rfl, rfl, rfl⟩⟩, by decide, rfl, trivial⟩ (LeE.upd rfl rfl (LeE.upd rfl rfl (LeE.upd rfl rfl (LeE.upd rfl rfl (LeE.upd rfl rfl (LeE.upd rfl rfl (LeE.noneD rfl rfl .nil))))))) rfl
 rintro _ _ _ ⟨rfl, rfl, rfl⟩
 refine W.now ?_
 refine Then.n ?_
 refine WP.cond (t := x2016) rfl (fun hb2019 => ?_) (fun hb2019 => ?_)
 · replace H := cnt hb2019 H
   refine WP.seq ?_
   refine WP.region ?_
   refine WPL.q (q_build bu23 rfl) rfl ?_
   refine WPL.s (s_store sz23 rfl rfl rfl rfl rfl) ?_
   refine WPL.q (q_as (v := .lit (.int _ _)) rfl) rfl ?_
   refine WPL.nilW ?_
   refine W.now ?_
   refine Then.n ?_
   refine WP.retW ?_
   have q0 := (Prod.mk.inj (Option.some.inj H)).1
   have q1 := (Prod.mk.inj (Prod.mk.inj (Option.some.inj H)).2).1
   have q2 := (Prod.mk.inj (Prod.mk.inj (Option.some.inj H)).2).2
   subst q0
   subst q1
   subst q2
   exact W.now (Then.r (BodyR.mkR ⟨.inr rfl, trivial⟩ rfl [0] ⟨rfl, rfl⟩ ⟨rfl, ⟨trivial, .inr ⟨rfl, rfl, rfl⟩⟩, by decide, rfl, trivial⟩ rfl rfl))
 replace H := cnf hb2019 H
 refine WP.skipW ?_
 refine W.now ?_
 refine Then.n ?_
 refine WP.seq ?_
 refine WP.region ?_
 refine WPL.q (q_mv (v := .lit (.string _)) rfl) rfl ?_
 refine WPL.q (q_mv (v := .lit (.string _)) rfl) rfl ?_
 obtain ⟨h2020, H⟩ := grd H
 refine WPL.q (q_concat rfl rfl h2020) rfl ?_
 obtain ⟨x2023, h2021, H⟩ := bnd H
 refine WPL.c (runs_call (s := []) (t := []) (N := 3) (bor := []) fn14 rfl (s_strings_TrimLeft k (x1750 ++ x1769) (ByteArray.mk #[48]) x2023 h2021) ⟨rfl, trivial, by decide, rfl, trivial⟩ rfl trivial (.ren rfl rfl (.ren rfl rfl .nil)) rfl trivial rfl) rfl ?_
 refine WPL.q (q_as (v := .lit (.string _)) rfl) rfl ?_
 refine WPL.nilW ?_
 refine W.now ?_
 refine Then.n ?_
 refine WP.seq ?_
 refine WP.region ?_
 refine WPL.q (q_load sc3 rfl rfl rfl) rfl ?_
 refine WPL.q (q_mv (v := .lit (.string _)) rfl) rfl ?_
 refine WPL.q (q_len_str Tryd.underlying9 rfl) rfl ?_
 obtain ⟨x2024, h2024, H⟩ := bnd H
 refine WPL.q (q_nm (q_sub rfl rfl) (nm_int h2024)) rfl ?_
 refine WPL.s (s_store sz3 rfl rfl rfl rfl rfl) ?_
 refine WPL.nilW ?_
 refine W.now ?_
 refine Then.n ?_
 refine WP.seq ?_
 refine WP.region ?_
 refine WPL.q (q_mv (v := .lit (.string _)) rfl) rfl ?_
 obtain ⟨x2026, h2024, H⟩ := bnd H
 refine WPL.c (runs_call (s := []) (t := []) (N := 3) (bor := []) fn15 rfl (s_strings_TrimRight k x2023 (ByteArray.mk #[48]) x2026 h2024) ⟨rfl, trivial, by decide, rfl, trivial⟩ rfl trivial (.ren rfl rfl (.ren rfl rfl .nil)) rfl trivial rfl) rfl ?_
 refine WPL.q (q_as (v := .lit (.string _)) rfl) rfl ?_
 refine WPL.nilW ?_
 refine W.now ?_
 refine Then.n ?_
 refine WP.seq ?_
 refine WP.region ?_
 refine WPL.q (q_load sc3 rfl rfl rfl) rfl ?_
 refine WPL.q (q_mv (v := .lit (.string _)) rfl) rfl ?_
 refine WPL.q (q_len_str Tryd.underlying9 rfl) rfl ?_
 refine WPL.q (q_mv (v := .lit (.string _)) rfl) rfl ?_
 refine WPL.q (q_len_str Tryd.underlying9 rfl) rfl ?_
 obtain ⟨x2027, h2027, H⟩ := bnd H
 refine WPL.q (q_nm (q_sub rfl rfl) (nm_int h2027)) rfl ?_
 refine WPL.q (q_add rfl rfl) rfl ?_
 refine WPL.s (s_store sz3 rfl rfl rfl rfl rfl) ?_
 refine WPL.nilW ?_
 refine W.now ?_
 refine Then.n ?_
 refine WP.seq ?_
 refine WP.seq ?_
 refine WP.region ?_
 refine WPL.q (q_mv (v := .lit (.string _)) rfl) rfl ?_
 refine WPL.q (q_len_str Tryd.underlying9 rfl) rfl ?_
 obtain ⟨x2030, h2030, H⟩ := bnd H
 refine WPL.q (q_nm (q_gtr rfl rfl) (nm_bool h2030)) rfl ?_
 refine WPL.nilW ?_
 refine W.now ?_
 refine Then.n ?_
 refine WP.cond (t := x2030) rfl (fun hb2030 => ?_) (fun hb2030 => ?_)
 · replace H := cnt hb2030 H
   refine WP.seq ?_
   refine WP.region ?_
   refine WPL.q (q_build bu23 rfl) rfl ?_
   refine WPL.s (s_store sz23 rfl rfl rfl rfl rfl) ?_
   refine WPL.q (q_as (v := .lit (.int _ _)) rfl) rfl ?_
   refine WPL.nilW ?_
   refine W.now ?_
   refine Then.n ?_
   refine WP.retW ?_
   have q0 := (Prod.mk.inj (Option.some.inj H)).1
   have q1 := (Prod.mk.inj (Prod.mk.inj (Option.some.inj H)).2).1
   have q2 := (Prod.mk.inj (Prod.mk.inj (Option.some.inj H)).2).2
   subst q0
   subst q1
   subst q2
   exact W.now (Then.r (BodyR.mkR ⟨.inr rfl, trivial⟩ rfl [0] ⟨rfl, rfl⟩ ⟨rfl, ⟨trivial, .inr ⟨rfl, rfl, rfl⟩⟩, by decide, rfl, trivial⟩ rfl rfl))
 replace H := cnf hb2030 H
 refine WP.skipW ?_
 refine W.now ?_
 refine Then.n ?_
 refine WP.seq ?_
 refine WP.region ?_
 refine WPL.q (q_build bu43 rfl) rfl ?_
 refine WPL.d (d_alloc ze43 rfl) rfl ?_
 refine WPL.s (s_store sz43 rfl rfl rfl rfl rfl) ?_
 refine WPL.nilW ?_
 refine W.now ?_
 refine Then.n ?_
 refine WP.seq ?_
 refine WP.seq ?_
 refine WP.region ?_
 refine WPL.q (q_mv (v := .lit (.string _)) rfl) rfl ?_
 obtain ⟨_, h2031, H⟩ := bnd H
 refine WPL.c (runs_call (s := []) (t := [4]) (N := 5) (bor := []) fn13 rfl (s_dec_values k x2026 h2031) ⟨rfl, trivial, by decide, rfl, trivial⟩ rfl trivial (.ren rfl rfl .nil) rfl ⟨trivial, rfl⟩ rfl) rfl ?_
 refine WPL.nilW ?_
 refine W.now ?_
 refine Then.n ?_
 refine WP.block ?_
 refine WP.range (nti := 18) (n := 5) rfl rfl Tryd.func33 rfl (by kernel_rfl) rfl rfl rfl rfl fun l_2032 r_2032 aC2032 hp2032 ha2032 hb2032 ht2032 hs2032 => ?_
 refine WP.seq ?_
 refine WP.region ?_
 refine WPL.q (q_load sc9 rfl rfl rfl) rfl ?_
 refine WPL.q (q_len_str Tryd.underlying9 rfl) rfl ?_
 refine WPL.q (q_mv (v := .lit (.int _ _)) rfl) rfl ?_
 refine WPL.nilW ?_
 refine W.now ?_
 refine Then.n ?_
 refine WP.block ?_
 refine WP.cv (Cv.weak (E' := (((((⟨fun _ => .any, [], [⟨aC2032, ((((((Env.none.upd 2 (.ptr 1 0)).upd 5 (.lit (.bool x1747))).upd 9 (.ptr 2 0)).upd 15 (.ptr 3 0)).upd 109 (.fn 33 [.ptr 0 0]))).v, [4, 5], some (6, l_2032)⟩]⟩ : Env).upd 0 (.lit (.func (.yield l_2032) #[] #[]))).upd 1 (.ptr 0 0)).upd 5 (.lit (.int .i64 ((ByteArray.size x2026 : Nat) : Int)))).upd 6 (.lit (.int .i64 0)))) (M' := (((((((Mem.nil.push (.cells 9 [.lit (.string x2026)])).push (.cells 23 [.lit (.int .i64 0), .lit (.int .i64 0)])).push (.cells 3 [.lit (.int .i64 (IntKind.wrap .i64 (x2024 + x2027)))])).push (.cells 43 [.lit (.int .u64 0), .lit (.int .u64 0)])).push (.obj (Obj.deferred (some [])))).push (.bag)).push (.obj (lp r_2032 .ready none)))) [4, 0, 1, 3, 5, 2, 6] hnp ⟨rfl, ⟨⟨⟨⟨⟨⟨⟨trivial, .inr ⟨rfl, rfl, rfl⟩⟩, .inr ⟨rfl, rfl, rfl⟩⟩, .inr ⟨rfl, rfl, rfl⟩⟩, .inr ⟨rfl, rfl, rfl⟩⟩, .inr ⟨rfl, rfl, rfl⟩⟩, .inr ⟨rfl, rfl, rfl⟩⟩, .inr ⟨rfl, rfl, rfl⟩⟩, by decide, rfl, trivial⟩ (LeE.upd rfl rfl (LeE.upd rfl rfl (LeE.upd rfl rfl (LeE.upd rfl rfl (LeE.noneD rfl rfl (.cons ⟨rfl, (LeV.upd rfl rfl (LeV.upd rfl rfl (LeV.upd rfl rfl (LeV.upd rfl rfl (LeV.upd rfl rfl LeV.none))))), rfl, rfl, rfl, rfl⟩ .nil))))))) ?_
 obtain ⟨⟨x2075, x2076⟩, H2095, H⟩ := bnd H
 refine WP.monoW (Q := fun x E M => x = .exit 0 ∧ E = (⟨fun _ => .any, [], [⟨aC2032, ((((((Env.none.upd 2 (.ptr 0 0)).upd 5 (.lit (.bool x1747))).upd 9 (.ptr 1 0)).upd 15 (.ptr 2 0)).upd 109 (.fn 33 [.ptr 3 0]))).v, [4, 5], some (6, l_2032)⟩]⟩ : Env) ∧ M = (((((((Mem.nil.push (.cells 23 [.lit (.int .i64 0), .lit (.int .i64 0)])).push (.cells 3 [.lit (.int .i64 (IntKind.wrap .i64 (x2024 + x2027)))])).push (.cells 43 [.lit (.int .u64 x2075), .lit (.int .u64 x2076)])).push (.cells 9 [.lit (.string x2026)])).push (.obj (Obj.deferred (some [])))).push (.bag)).push (.obj (lp r_2032 .ready none)))) ?_ ?_
 · refine WP.loop (β := Int × Int × Int) (fun n b => g_dec_Parse_l1 k x2026 n b.1 b.2.1 b.2.2 = some (x2075, x2076)) (fun b => (((((⟨fun _ => .any, [], [⟨aC2032, ((((((Env.none.upd 2 (.ptr 1 0)).upd 5 (.lit (.bool x1747))).upd 9 (.ptr 2 0)).upd 15 (.ptr 3 0)).upd 109 (.fn 33 [.ptr 0 0]))).v, [4, 5], some (6, l_2032)⟩]⟩ : Env).upd 0 (.lit (.func (.yield l_2032) #[] #[]))).upd 1 (.ptr 0 0)).upd 5 (.lit (.int .i64 ((ByteArray.size x2026 : Nat) : Int)))).upd 6 (.lit (.int .i64 b.1)))) (fun b => (((((((Mem.nil.push (.cells 9 [.lit (.string x2026)])).push (.cells 23 [.lit (.int .i64 0), .lit (.int .i64 0)])).push (.cells 3 [.lit (.int .i64 (IntKind.wrap .i64 (x2024 + x2027)))])).push (.cells 43 [.lit (.int .u64 b.2.1), .lit (.int .u64 b.2.2)])).push (.obj (Obj.deferred (some [])))).push (.bag)).push (.obj (lp r_2032 .ready none)))) k (0, 0, 0) H2095 rfl rfl ?_
   rintro n ⟨x2053, x2054, x2055⟩ H
   obtain _ | n := n
   · exact nf rfl H
   rw [g_dec_Parse_l1.eq_2] at H
   show WP _ _ _ _ (((((⟨fun _ => .any, [], [⟨aC2032, ((((((Env.none.upd 2 (.ptr 1 0)).upd 5 (.lit (.bool x1747))).upd 9 (.ptr 2 0)).upd 15 (.ptr 3 0)).upd 109 (.fn 33 [.ptr 0 0]))).v, [4, 5], some (6, l_2032)⟩]⟩ : Env).upd 0 (.lit (.func (.yield l_2032) #[] #[]))).upd 1 (.ptr 0 0)).upd 5 (.lit (.int .i64 ((ByteArray.size x2026 : Nat) : Int)))).upd 6 (.lit (.int .i64 x2053))) (((((((Mem.nil.push (.cells 9 [.lit (.string x2026)])).push (.cells 23 [.lit (.int .i64 0), .lit (.int .i64 0)])).push (.cells 3 [.lit (.int .i64 (IntKind.wrap .i64 (x2024 + x2027)))])).push (.cells 43 [.lit (.int .u64 x2054), .lit (.int .u64 x2055)])).push (.obj (Obj.deferred (some [])))).push (.bag)).push (.obj (lp r_2032 .ready none))) _
   refine WP.seq ?_
   refine WP.region ?_
   obtain ⟨x2077, h2077, H⟩ := bnd H
   refine WPL.q (q_nm (q_lss rfl rfl) (nm_bool h2077)) rfl ?_
   refine WPL.nilW ?_
   refine W.now ?_
   refine Then.n ?_
   refine WP.seq ?_
   refine WP.cond (t := x2077) rfl (fun hb2078 => ?_) (fun hb2078 => ?_)
   · replace H := cnt hb2078 H
     refine WP.skipW ?_
     refine W.now ?_
     refine Then.n ?_
     refine WP.seq ?_
     refine WP.block ?_
     refine WP.seq ?_
     refine WP.region ?_
     refine WPL.q (q_mv (v := .lit (.int _ _)) rfl) rfl ?_
     refine WPL.q (q_as (v := .lit (.int _ _)) rfl) rfl ?_
     refine WPL.nilW ?_
     refine W.now ?_
     refine Then.n ?_
     refine WP.seq ?_
     refine WP.region ?_
     refine WPL.q (q_mv (v := .lit _) rfl) rfl ?_
     refine WPL.q (q_load sc9 rfl rfl rfl) rfl ?_
     refine WPL.q (q_mv (v := .lit (.int _ _)) rfl) rfl ?_
     obtain ⟨x2088, h2088, H⟩ := bnd H
     refine WPL.q (q_index_str Tryd.underlying9 rfl rfl h2088) rfl ?_
     refine WPL.q (q_sub rfl rfl) rfl ?_
     obtain ⟨x2089, h2089, H⟩ := bnd H
     refine WPL.q (q_nm (q_conv Tryd.underlying5 Tryd.underlying3 rfl) (nm_int h2089)) rfl ?_
     refine WPL.y rfl rfl rfl rfl hp2032 ha2032 hb2032 ht2032 hs2032 rfl rfl rfl fun aI2089 => ?_
     refine WP.region ?_
     refine WPL.q (q_as (v := .lit (.int _ _)) rfl) rfl ?_
     refine WPL.nilW ?_
     refine W.now ?_
     refine ⟨rfl, rfl, _, _, _, _, _, _, rfl, rfl, ?_⟩
     refine WP.block ?_
     refine WP.seq ?_
     refine WP.region ?_
     refine WPL.q (q_load_ag ag43 rfl rfl (Nat.le_of_ble_eq_true rfl)) rfl ?_
     obtain ⟨⟨x2092, x2093⟩, h2090, H⟩ := bnd H
     refine WPL.c (runs_call (s := []) (t := [7]) (N := 8) (bor := []) fn16 rfl (s_dec_wide_times k x2054 x2055 10 x2092 x2093 h2090) ⟨rfl, trivial, by decide, rfl, trivial⟩ rfl trivial (.ren rfl rfl (.ren rfl rfl .nil)) rfl ⟨trivial, rfl⟩ rfl) rfl ?_
     refine WPL.q (q_mv (v := .tup _) rfl) rfl ?_
     refine WPL.q (q_extract rfl rfl) rfl ?_
     refine WPL.q (q_extract rfl rfl) rfl ?_
     refine WPL.s (s_store sz43 rfl rfl rfl rfl rfl) ?_
     refine WPL.nilW ?_
     refine W.now ?_
     refine Then.n ?_
     refine WP.region ?_
     refine WPL.q (q_load_ag ag43 rfl rfl (Nat.le_of_ble_eq_true rfl)) rfl ?_
     refine WPL.q (q_mv (v := .lit (.int _ _)) rfl) rfl ?_
     refine WPL.q (q_conv Tryd.underlying3 Tryd.underlying41 rfl) rfl ?_
     refine WPL.q (q_build bu43 rfl) rfl ?_
     obtain ⟨x2095, h2093, H⟩ := bnd H
     refine WPL.c (runs_call (s := []) (t := [8]) (N := 9) (bor := []) fn17 rfl (s_dec_wide_plus k x2093 (IntKind.wrap .u64 (x2055 * 10)) 0 (IntKind.wrap .u64 x2089) x2095 h2093) ⟨rfl, trivial, by decide, rfl, trivial⟩ rfl trivial (.ren rfl rfl (.ren rfl rfl .nil)) rfl ⟨trivial, rfl⟩ rfl) rfl ?_
     refine WPL.q (q_mv (v := .tup _) rfl) rfl ?_
     refine WPL.q (q_extract rfl rfl) rfl ?_
     refine WPL.q (q_extract rfl rfl) rfl ?_
     refine WPL.s (s_store sz43 rfl rfl rfl rfl rfl) ?_
     refine WPL.nilW ?_
     refine W.now ?_
     refine InBlock.n ?_
     refine ⟨rfl, _, _, _, _, _, _, rfl, rfl, _, rfl, ?_⟩
     refine WPL.q (q_not rfl) rfl ?_
     refine WPL.nilW ?_
     refine W.now ?_
     refine Then.n ?_
     refine WP.condFB (t := (!true)) rfl rfl ?_
     refine WP.skipW ?_
     refine W.now ?_
     refine InBlock.n ?_
     refine Then.n ?_
     refine WP.region ?_
     refine WPL.q (q_add rfl rfl) rfl ?_
     refine WPL.q (q_mv (v := .lit (.int _ _)) rfl) rfl ?_
     refine WPL.nilW ?_
     exact W.wk [0, 1, 2, 3, 4, 5, 6] hnp (Then.n ⟨n, ((IntKind.wrap .i64 (x2053 + 1)), (add64 x2093 0 ((add64 (IntKind.wrap .u64 (x2055 * 10)) (IntKind.wrap .u64 x2089) 0).2)).1, (add64 (IntKind.wrap .u64 (x2055 * 10)) (IntKind.wrap .u64 x2089) 0).1), Nat.lt_succ_self n, H, rfl, rfl⟩) ⟨rfl, ⟨⟨⟨⟨⟨⟨⟨trivial, .inr ⟨rfl, rfl, rfl⟩⟩, .inr ⟨rfl, rfl, rfl⟩⟩, .inr ⟨rfl, rfl, rfl⟩⟩, .inr ⟨rfl, rfl, rfl⟩⟩, .inr ⟨rfl, rfl, rfl⟩⟩, .inr ⟨rfl, rfl, rfl⟩⟩, .inr ⟨rfl, rfl, rfl⟩⟩, by decide, rfl, trivial⟩ (LeE.upd rfl rfl (LeE.upd rfl rfl (LeE.upd rfl rfl (LeE.upd rfl rfl (LeE.noneD rfl rfl (.cons ⟨rfl, (LeV.upd rfl rfl (LeV.upd rfl rfl (LeV.upd rfl rfl (LeV.upd rfl rfl (LeV.upd rfl rfl LeV.none))))), rfl, rfl, rfl, rfl⟩ .nil)))))) rfl
   replace H := cnf hb2078 H
   refine WP.exitW ?_
   have q0 := (Prod.mk.inj (Option.some.inj H)).1
   have q1 := (Prod.mk.inj (Option.some.inj H)).2
   subst q0
   subst q1
   exact W.wk [1, 2, 3, 0, 4, 5, 6] hnp (Then.x (Then.x ⟨rfl, rfl, rfl⟩)) ⟨rfl, ⟨⟨⟨⟨⟨⟨⟨trivial, .inr ⟨rfl, rfl, rfl⟩⟩, .inr ⟨rfl, rfl, rfl⟩⟩, .inr ⟨rfl, rfl, rfl⟩⟩, .inr ⟨rfl, rfl, rfl⟩⟩, .inr ⟨rfl, rfl, rfl⟩⟩, .inr ⟨rfl, rfl, rfl⟩⟩, .inr ⟨rfl, rfl, rfl⟩⟩, by decide, rfl, trivial⟩ (LeE.noneD rfl rfl (.cons ⟨rfl, (LeV.upd rfl rfl (LeV.upd rfl rfl (LeV.upd rfl rfl (LeV.upd rfl rfl (LeV.upd rfl rfl LeV.none))))), rfl, rfl, rfl, rfl⟩ .nil)) rfl
 rintro _ _ _ ⟨rfl, rfl, rfl⟩
 refine W.now ?_
 refine InBlock.x0 ?_
 refine ⟨trivial, _, _, _, _, rfl, _, _, rfl, (fun h => by cases h), ?_⟩
 refine W.cv (Cv.absorb (N := 7) (j := 4) (i := 5) rfl rfl rfl rfl) rfl ?_
 refine W.now ?_
 refine InBlock.n ?_
 refine Then.n ?_
 refine WP.seq ?_
 refine WP.region ?_
 refine WPL.q (q_mv (v := .lit (.bool _)) rfl) rfl ?_
 refine WPL.q (q_load_ag ag43 rfl rfl (Nat.le_of_ble_eq_true rfl)) rfl ?_
 refine WPL.q (q_load sc3 rfl rfl rfl) rfl ?_
 refine WPL.q (q_build bu48 rfl) rfl ?_
 obtain ⟨⟨x2098, x2099, x2100⟩, h2096, H⟩ := bnd H
 refine WPL.c (runs_call (s := []) (t := [8]) (N := 9) (bor := []) fn18 rfl (s_dec_num_tell k x1747 x2075 x2076 (IntKind.wrap .i64 (x2024 + x2027)) x2098 x2099 x2100 h2096) ⟨rfl, trivial, by decide, rfl, trivial⟩ rfl trivial (.ren rfl rfl .nil) rfl ⟨trivial, rfl⟩ rfl) rfl ?_
 refine WPL.q (q_extract rfl rfl) rfl ?_
 refine WPL.q (q_extract rfl rfl) rfl ?_
 refine WPL.s (s_store sz23 rfl rfl rfl rfl rfl) ?_
 refine WPL.q (q_as (v := .lit (.int _ _)) rfl) rfl ?_
 refine WPL.nilW ?_
 refine W.now ?_
 refine Then.n ?_
 refine WP.retW ?_
 have q0 := (Prod.mk.inj (Option.some.inj H)).1
 have q1 := (Prod.mk.inj (Prod.mk.inj (Option.some.inj H)).2).1
 have q2 := (Prod.mk.inj (Prod.mk.inj (Option.some.inj H)).2).2
 subst q0
 subst q1
 subst q2
 exact W.now (BodyR.mkR ⟨.inr rfl, trivial⟩ rfl [0] ⟨rfl, rfl⟩ ⟨rfl, ⟨trivial, .inr ⟨rfl, rfl, rfl⟩⟩, by decide, rfl, trivial⟩ rfl rfl)
end Go.Proofs.YtdbeblgfccjbgaaDoor.W
namespace Go.Proofs.YtdbeblgfccjbgaaDoor.W
open Go Go.Q Go.Proofs
set_option linter.unusedVariables false
set_option linter.unusedSimpArgs false
end Go.Proofs.YtdbeblgfccjbgaaDoor.W
namespace Go.Proofs.YtdbeblgfccjbgaaDoor.W
open Go Go.Q Go.Proofs
set_option linter.unusedVariables false
set_option linter.unusedSimpArgs false
end Go.Proofs.YtdbeblgfccjbgaaDoor.W
namespace Go.Proofs.YtdbeblgfccjbgaaDoor.W
open Go Go.Q Go.Proofs
set_option linter.unusedVariables false
set_option linter.unusedSimpArgs false
set_option maxRecDepth 100000 in
set_option maxHeartbeats 4000000 in
theorem s_dec_ranged (k : Nat) (x4459 : (List S_api_Dec)) (x4494 : Bool) (H : g_dec_ranged k x4459 = some x4494) : Go.Q.Spec Tryd.prog 47 0 [.ro (Rd.slice rdS_api_Dec) true x4459] Mem.nil (fun o M => o = .ret (.lit (.bool x4494)) ∧ M = Mem.nil) := by
 unfold g_dec_ranged at H
 refine Go.Q.Spec.of_bodyR (az := []) (rs := [.tmp 2]) (nt := 20) Tryd.func47 rfl rfl (by intro t T h; simp at h) rfl rfl fun cx hnp => ?_
 refine WP.seq ?_
 refine WP.region ?_
 refine WPL.q (q_as (v := .lit (.bool _)) rfl) rfl ?_
 refine WPL.nilW ?_
 refine W.now ?_
 refine Then.n ?_
 refine WP.seq ?_
 refine WP.seq ?_
 refine WP.region ?_
 refine WPL.q (q_mv (v := .ro _ _ _) rfl) rfl ?_
 refine WPL.q (q_len_ro sl113 rfl) rfl ?_
 refine WPL.q (q_mv (v := .lit (.int _ _)) rfl) rfl ?_
 refine WPL.nilW ?_
 refine W.now ?_
 refine Then.n ?_
 refine WP.block ?_
 refine WP.cv (Cv.weak (E' := (((Env.none.upd 5 (.ro (Rd.slice rdS_api_Dec) true x4459)).upd 6 (.lit (.int .i64 ((List.length x4459 : Nat) : Int)))).upd 7 (.lit (.int .i64 0)))) (M' := Mem.nil) [] hnp ⟨rfl, trivial, by decide, rfl, trivial⟩ (LeE.upd rfl rfl (LeE.upd rfl rfl (LeE.upd rfl rfl (LeE.none rfl rfl))))) ?_
 obtain ⟨y4542, H4540, H⟩ := bnd H
 refine WP.monoW (Q := fun x E M => match (generalizing := false) y4542 with | (Sum.inl _) => x = .ret ∧ E = (Env.none.upd 2 (.lit (.bool false))) ∧ M = Mem.nil | (Sum.inr _) => x = .exit 0 ∧ E = Env.none ∧ M = Mem.nil) ?_ ?_
 · refine WP.loop (β := Int) (fun n b => g_dec_ranged_l0 k x4459 n b = some y4542) (fun b => (((Env.none.upd 5 (.ro (Rd.slice rdS_api_Dec) true x4459)).upd 6 (.lit (.int .i64 ((List.length x4459 : Nat) : Int)))).upd 7 (.lit (.int .i64 b)))) (fun b => Mem.nil) k 0 H4540 rfl rfl ?_
   rintro n x4510 H
   obtain _ | n := n
   · exact nf rfl H
   rw [g_dec_ranged_l0.eq_2] at H
   show WP _ _ _ _ (((Env.none.upd 5 (.ro (Rd.slice rdS_api_Dec) true x4459)).upd 6 (.lit (.int .i64 ((List.length x4459 : Nat) : Int)))).upd 7 (.lit (.int .i64 x4510))) Mem.nil _
   refine WP.seq ?_
   refine WP.region ?_
   obtain ⟨x4526, h4526, H⟩ := bnd H
   refine WPL.q (q_nm (q_lss rfl rfl) (nm_bool h4526)) rfl ?_
   refine WPL.nilW ?_
   refine W.now ?_
   refine Then.n ?_
   refine WP.seq ?_
   refine WP.cond (t := x4526) rfl (fun hb4527 => ?_) (fun hb4527 => ?_)
   · replace H := cnt hb4527 H
     refine WP.skipW ?_
     refine W.now ?_
     refine Then.n ?_
     refine WP.seq ?_
     refine WP.block ?_
     refine WP.seq ?_
     refine WP.region ?_
     obtain ⟨x4535, h4535, H⟩ := bnd H
     refine WPL.q (q_index_ro sl113 rfl rfl rfl h4535) rfl ?_
     refine WPL.q (q_load_roag ag23 rfl rfl S_api_Dec.sp) rfl ?_
     refine WPL.d (d_alloc ze23 rfl) rfl ?_
     refine WPL.s (s_store sz23 rfl rfl rfl rfl rfl) ?_
     refine WPL.nilW ?_
     refine W.now ?_
     refine Then.n ?_
     refine WP.seq ?_
     obtain ⟨x4537, H4538, H⟩ := bnd H
     refine WP.monoW (Q := fun x E M => x = .normal ∧ E = ((((Env.none.upd 5 (.ro (Rd.slice rdS_api_Dec) true x4459)).upd 6 (.lit (.int .i64 ((List.length x4459 : Nat) : Int)))).upd 7 (.lit (.int .i64 x4510))).upd 18 (.lit (.bool x4537))) ∧ M = Mem.nil) ?_ ?_
     · clear H
       have H := H4538
       clear H4538
       refine WP.region ?_
       refine WPL.q (q_fieldAddr fi23_1 rfl rfl) rfl ?_
       refine WPL.q (q_load sc3 rfl rfl rfl) rfl ?_
       refine WPL.q (q_lss rfl rfl) rfl ?_
       refine WPL.q (q_mv (v := .lit (.bool _)) rfl) rfl ?_
       refine WPL.split (t := 14) (b := (decide (x4535.fE < (-18)))) rfl (fun hb4537 => ?_) (fun hb4537 => ?_)
       · replace H := cnt hb4537 H
         refine WPL.skipg (b' := true) rfl rfl (lb hb4537) rfl rfl ?_
         refine WPL.skipg (b' := true) rfl rfl (lb hb4537) rfl rfl ?_
         refine WPL.skipg (b' := true) rfl rfl (lb hb4537) rfl rfl ?_
         refine WPL.q (q_pickT (v := .lit (.bool _)) (lb hb4537) rfl) rfl ?_
         refine WPL.nilW ?_
         have q0 := (Option.some.inj H)
         subst q0
         exact W.wk [] hnp ⟨rfl, rfl, rfl⟩ ⟨rfl, trivial, by decide, rfl, trivial⟩ (LeE.upd rfl rfl (LeE.upd rfl rfl (LeE.upd rfl rfl (LeE.upd rfl rfl (LeE.none rfl rfl))))) rfl
       replace H := cnf hb4537 H
       refine WPL.qg rfl rfl (lb hb4537) (q_fieldAddr fi23_1 rfl rfl) rfl ?_
       refine WPL.qg rfl rfl (lb hb4537) (q_load sc3 rfl rfl rfl) rfl ?_
       refine WPL.qg rfl rfl (lb hb4537) (q_gtr rfl rfl) rfl ?_
       refine WPL.q (q_pickF (v := .lit (.bool _)) (lb hb4537) rfl) rfl ?_
       refine WPL.nilW ?_
       have q0 := (Option.some.inj H)
       subst q0
       exact W.wk [] hnp ⟨rfl, rfl, rfl⟩ ⟨rfl, trivial, by decide, rfl, trivial⟩ (LeE.upd rfl rfl (LeE.upd rfl rfl (LeE.upd rfl rfl (LeE.upd rfl rfl (LeE.none rfl rfl))))) rfl
     rintro _ _ _ ⟨rfl, rfl, rfl⟩
     refine W.now ?_
     refine Then.n ?_
     refine WP.cond (t := x4537) rfl (fun hb4539 => ?_) (fun hb4539 => ?_)
     · replace H := cnt hb4539 H
       refine WP.seq ?_
       refine WP.region ?_
       refine WPL.q (q_as (v := .lit (.bool _)) rfl) rfl ?_
       refine WPL.nilW ?_
       refine W.now ?_
       refine Then.n ?_
       refine WP.retW ?_
       have q0 := Option.some.inj H
       subst q0
       exact W.wk [] hnp (InBlock.r (Then.r (Then.r ⟨rfl, rfl, rfl⟩))) ⟨rfl, trivial, by decide, rfl, trivial⟩ (LeE.upd rfl rfl (LeE.none rfl rfl)) rfl
     replace H := cnf hb4539 H
     refine WP.skipW ?_
     refine W.now ?_
     refine InBlock.n ?_
     refine Then.n ?_
     refine WP.region ?_
     refine WPL.q (q_add rfl rfl) rfl ?_
     refine WPL.q (q_mv (v := .lit (.int _ _)) rfl) rfl ?_
     refine WPL.nilW ?_
     exact W.wk [] hnp (Then.n ⟨n, (IntKind.wrap .i64 (x4510 + 1)), Nat.lt_succ_self n, H, rfl, rfl⟩) ⟨rfl, trivial, by decide, rfl, trivial⟩ (LeE.upd rfl rfl (LeE.upd rfl rfl (LeE.upd rfl rfl (LeE.none rfl rfl)))) rfl
   replace H := cnf hb4527 H
   refine WP.exitW ?_
   have q0 := Option.some.inj H
   subst q0
   exact W.wk [] hnp (Then.x (Then.x ⟨rfl, rfl, rfl⟩)) ⟨rfl, trivial, by decide, rfl, trivial⟩ (LeE.none rfl rfl) rfl
 rcases y4542 with _ | _
 · rintro _ _ _ ⟨rfl, rfl, rfl⟩
   have q0 := (Option.some.inj H)
   subst q0
   exact W.now (InBlock.r (Then.r (BodyR.mkR trivial rfl [] ⟨rfl, rfl⟩ ⟨rfl, trivial, by decide, rfl, trivial⟩ rfl rfl)))
 rintro _ _ _ ⟨rfl, rfl, rfl⟩
 refine W.now ?_
 refine InBlock.x0 ?_
 refine Then.n ?_
 refine WP.seq ?_
 refine WP.region ?_
 refine WPL.q (q_as (v := .lit (.bool _)) rfl) rfl ?_
 refine WPL.nilW ?_
 refine W.now ?_
 refine Then.n ?_
 refine WP.retW ?_
 have q0 := (Option.some.inj H)
 subst q0
 exact W.now (BodyR.mkR trivial rfl [] ⟨rfl, rfl⟩ ⟨rfl, trivial, by decide, rfl, trivial⟩ rfl rfl)
set_option maxRecDepth 100000 in
set_option maxHeartbeats 4000000 in
theorem s_dec_size (k : Nat) (x4552 : Int) (x4558 : Int) (H : g_dec_size k x4552 = some x4558) : Go.Q.Spec Tryd.prog 23 0 [.lit (.int .i64 x4552)] Mem.nil (fun o M => o = .ret (.lit (.int .u64 x4558)) ∧ M = Mem.nil) := by
 unfold g_dec_size at H
 refine Go.Q.Spec.of_bodyR (az := []) (rs := [.tmp 2]) (nt := 10) Tryd.func23 rfl rfl (by intro t T h; simp at h) rfl rfl fun cx hnp => ?_
 refine WP.seq ?_
 refine WP.region ?_
 refine WPL.q (q_as (v := .lit (.int _ _)) rfl) rfl ?_
 refine WPL.nilW ?_
 refine W.now ?_
 refine Then.n ?_
 refine WP.seq ?_
 refine WP.seq ?_
 refine WP.region ?_
 refine WPL.q (q_mv (v := .lit (.int _ _)) rfl) rfl ?_
 refine WPL.q (q_lss rfl rfl) rfl ?_
 refine WPL.nilW ?_
 refine W.now ?_
 refine Then.n ?_
 refine WP.cond (t := (decide (x4552 < 0))) rfl (fun hb4560 => ?_) (fun hb4560 => ?_)
 · replace H := cnt hb4560 H
   refine WP.seq ?_
   refine WP.region ?_
   refine WPL.q (q_mv (v := .lit (.int _ _)) rfl) rfl ?_
   refine WPL.q (q_conv Tryd.underlying2 Tryd.underlying41 rfl) rfl ?_
   obtain ⟨x4562, h4562, H⟩ := bnd H
   refine WPL.q (q_nm (q_neg rfl) (nm_int h4562)) rfl ?_
   refine WPL.q (q_as (v := .lit (.int _ _)) rfl) rfl ?_
   refine WPL.nilW ?_
   refine W.now ?_
   refine Then.n ?_
   refine WP.retW ?_
   have q0 := (Option.some.inj H)
   subst q0
   exact W.now (Then.r (BodyR.mkR trivial rfl [] ⟨rfl, rfl⟩ ⟨rfl, trivial, by decide, rfl, trivial⟩ rfl rfl))
 replace H := cnf hb4560 H
 refine WP.skipW ?_
 refine W.now ?_
 refine Then.n ?_
 refine WP.seq ?_
 refine WP.region ?_
 refine WPL.q (q_mv (v := .lit (.int _ _)) rfl) rfl ?_
 refine WPL.q (q_conv Tryd.underlying2 Tryd.underlying41 rfl) rfl ?_
 refine WPL.q (q_as (v := .lit (.int _ _)) rfl) rfl ?_
 refine WPL.nilW ?_
 refine W.now ?_
 refine Then.n ?_
 refine WP.retW ?_
 have q0 := (Option.some.inj H)
 subst q0
 exact W.now (BodyR.mkR trivial rfl [] ⟨rfl, rfl⟩ ⟨rfl, trivial, by decide, rfl, trivial⟩ rfl rfl)
set_option maxRecDepth 100000 in
set_option maxHeartbeats 4000000 in
theorem s_dec_of (k : Nat) (x4549 : Int) (x4550 : Int) (x4567 : Int) (H : g_dec_of k x4549 x4550 = some x4567) : Go.Q.Spec Tryd.prog 48 0 [.agg [.lit (.int .i64 x4549), .lit (.int .i64 x4550)]] Mem.nil (fun o M => o = .ret (.agg [.lit (.bool (decide (x4549 < 0))), .lit (.int .u64 0), .lit (.int .u64 x4567), .lit (.int .i64 x4550)]) ∧ M = (Mem.nil.push (.cells 48 [.lit (.bool (decide (x4549 < 0))), .lit (.int .u64 0), .lit (.int .u64 x4567), .lit (.int .i64 x4550)]))) := by
 unfold g_dec_of at H
 refine Go.Q.Spec.of_bodyR (az := [(48, 4)]) (rs := [.cell 2 48]) (nt := 13) Tryd.func48 rfl rfl (by intro t T h; simp at h; rcases h with ⟨rfl, rfl⟩ <;> first | exact ag48) rfl rfl fun cx hnp => ?_
 refine WP.seq ?_
 refine WP.region ?_
 refine WPL.d (d_box rfl rfl) rfl ?_
 refine WPL.d (d_alloc ze48 rfl) rfl ?_
 refine WPL.nilW ?_
 refine W.now ?_
 refine Then.n ?_
 refine WP.seq ?_
 refine WP.regionD' 11 [0] [] mixed rfl ?_
 refine WPD.takeT 0 rfl (by kernel_rfl) (q_fieldAddr fi23_0 rfl rfl) rfl ?_
 refine WPD.takeT 3 rfl (by kernel_rfl) (q_fieldAddr fi23_0 rfl rfl) rfl ?_
 refine WPD.takeT 7 rfl (by kernel_rfl) (q_fieldAddr fi23_1 rfl rfl) rfl ?_
 refine WPD.take 1 rfl (by kernel_rfl) (q_load sc2 rfl rfl rfl) rfl rfl ?_
 refine WPD.takeT 2 rfl (by kernel_rfl) (q_lss rfl rfl) rfl ?_
 refine WPD.take 4 rfl (by kernel_rfl) (q_load sc2 rfl rfl rfl) rfl rfl ?_
 refine WPD.take 8 rfl (by kernel_rfl) (q_load sc3 rfl rfl rfl) rfl rfl ?_
 obtain ⟨x4571, h4569, H⟩ := bnd H
 refine WPD.eff 5 [0] [] rfl (by kernel_rfl) (runs_call (s := []) (t := []) (N := 2) (bor := []) fn23 rfl (s_dec_size k x4549 x4571 h4569) ⟨rfl, trivial, by decide, rfl, trivial⟩ rfl trivial (.ren rfl rfl .nil) rfl trivial rfl) rfl rfl ?_
 refine WPD.takeT 6 rfl (by kernel_rfl) (q_build bu43 rfl) rfl ?_
 refine WPD.takeT 9 rfl (by kernel_rfl) (q_build bu48 rfl) rfl ?_
 refine WPD.effS 10 [0] [] rfl (by kernel_rfl) (s_store sz48 rfl rfl rfl rfl rfl) rfl ?_
 refine WPD.doneW (by kernel_rfl) ?_
 refine W.now ?_
 refine Then.n ?_
 refine WP.retW ?_
 have q0 := (Option.some.inj H)
 subst q0
 exact W.now (BodyR.mkR trivial rfl [1] ⟨rfl, rfl⟩ ⟨rfl, ⟨trivial, .inr ⟨rfl, rfl, rfl⟩⟩, by decide, rfl, trivial⟩ rfl rfl)
set_option maxRecDepth 100000 in
set_option maxHeartbeats 4000000 in
theorem s_dec_clean__b (k : Nat) (x4456 : Int) (x4457 : Int) (x4590 : Bool) (x4591 : Int) (x4592 : Int) (H : g_dec_clean__b k x4456 x4457 = some (x4590, x4591, x4592)) : Go.Q.Spec Tryd.prog 22 2 [.sl 0 1 0 1] ((Mem.nil.push (.cells 59 [.ptr 1 0])).push (.cells 23 [.lit (.int .i64 x4456), .lit (.int .i64 x4457)])) (fun o M => o = .ret (.lit (.bool x4590)) ∧ M = ((Mem.nil.push (.cells 59 [.ptr 1 0])).push (.cells 23 [.lit (.int .i64 x4591), .lit (.int .i64 x4592)]))) := by
 unfold g_dec_clean__b at H
 refine Go.Q.Spec.of_bodyR (az := []) (rs := [.tmp 2]) (nt := 28) Tryd.func22 rfl rfl (by intro t T h; simp at h) rfl rfl fun cx hnp => ?_
 refine WP.seq ?_
 refine WP.region ?_
 refine WPL.q (q_as (v := .lit (.bool _)) rfl) rfl ?_
 refine WPL.nilW ?_
 refine W.now ?_
 refine Then.n ?_
 refine WP.seq ?_
 refine WP.seq ?_
 refine WP.region ?_
 refine WPL.q (q_mv (v := .sl _ _ _ _) rfl) rfl ?_
 refine WPL.q (q_len_sl (k := 1) sl85 rfl rfl) rfl ?_
 refine WPL.q (q_mv (v := .lit (.int _ _)) rfl) rfl ?_
 refine WPL.nilW ?_
 refine W.now ?_
 refine Then.n ?_
 refine WP.block ?_
 refine WP.loopU ?_
 refine WPI.round ?_
 refine WP.seq ?_
 refine WP.region ?_
 refine WPL.q (q_lss rfl rfl) rfl ?_
 refine WPL.nilW ?_
 refine W.now ?_
 refine Then.n ?_
 refine WP.seq ?_
 refine WP.condT rfl ?_
 refine WP.skipW ?_
 refine W.now ?_
 refine Then.n ?_
 refine WP.seq ?_
 refine WP.block ?_
 refine WP.seq ?_
 refine WP.region ?_
 refine WPL.q (q_index_sl (o := 0) sl85 rfl rfl rfl rfl) rfl ?_
 refine WPL.q (q_load sc59 rfl rfl rfl) rfl ?_
 refine WPL.q (q_as (v := .ptr _ _) rfl) rfl ?_
 refine WPL.nilW ?_
 refine W.now ?_
 refine Then.n ?_
 refine WP.seq ?_
 refine WP.seq ?_
 refine WP.region ?_
 refine WPL.q (q_mv (v := .ptr _ _) rfl) rfl ?_
 refine WPL.q (q_nilCheck rfl) rfl ?_
 refine WPL.q (q_load_ag ag23 rfl rfl (Nat.le_of_ble_eq_true rfl)) rfl ?_
 refine WPL.d (d_buildSlice (ds := ([(⟨x4456, x4457⟩ : S_api_Dec)] : List S_api_Dec)) (R := rdS_api_Dec) li113 rfl rfl rfl rfl rfl (JoinRows.cons (l := [.lit (.int .i64 x4456), .lit (.int .i64 x4457)]) (Joins.via (Joins.cons Joins.sc (Joins.cons Joins.sc Joins.unit))) rfl JoinRows.nil) rfl rfl) rfl ?_
 obtain ⟨x4609, h4607, H⟩ := bnd H
 refine WPL.c (runs_call (s := []) (t := []) (N := 3) (bor := [2]) fn47 rfl (s_dec_ranged k ([(⟨x4456, x4457⟩ : S_api_Dec)] : List S_api_Dec) x4609 h4607) ⟨rfl, trivial, by decide, rfl, trivial⟩ rfl ⟨trivial, rfl, rfl, trivial⟩ (.row rfl rfl .nil) rfl trivial rfl) rfl ?_
 refine WPL.q (q_not rfl) rfl ?_
 refine WPL.nilW ?_
 refine W.now ?_
 refine Then.n ?_
 refine WP.cond (t := (!x4609)) rfl (fun hb4609 => ?_) (fun hb4609 => ?_)
 · replace H := cnt hb4609 H
   refine WP.seq ?_
   refine WP.region ?_
   refine WPL.q (q_as (v := .lit (.bool _)) rfl) rfl ?_
   refine WPL.nilW ?_
   refine W.now ?_
   refine Then.n ?_
   refine WP.retW ?_
   have q0 := (Prod.mk.inj (Option.some.inj H)).1
   have q1 := (Prod.mk.inj (Prod.mk.inj (Option.some.inj H)).2).1
   have q2 := (Prod.mk.inj (Prod.mk.inj (Option.some.inj H)).2).2
   subst q0
   subst q1
   subst q2
   exact W.now (Then.r (InBlock.r (Then.r (Then.r (InBlock.r (Then.r (BodyR.mkR trivial rfl [0, 1] ⟨rfl, rfl⟩ ⟨rfl, ⟨⟨trivial, .inr ⟨rfl, rfl, rfl⟩⟩, .inr ⟨rfl, rfl, rfl⟩⟩, by decide, rfl, ⟨⟨trivial, rfl⟩, rfl⟩⟩ rfl rfl)))))))
 replace H := cnf hb4609 H
 refine WP.skipW ?_
 refine W.now ?_
 refine Then.n ?_
 refine WP.region ?_
 refine WPL.q (q_mv (v := .ptr _ _) rfl) rfl ?_
 refine WPL.q (q_mv (v := .ptr _ _) rfl) rfl ?_
 refine WPL.q (q_nilCheck rfl) rfl ?_
 refine WPL.q (q_load_ag ag23 rfl rfl (Nat.le_of_ble_eq_true rfl)) rfl ?_
 obtain ⟨x4612, h4610, H⟩ := bnd H
 refine WPL.c (runs_call (s := []) (t := [3]) (N := 4) (bor := []) fn48 rfl (s_dec_of k x4456 x4457 x4612 h4610) ⟨rfl, trivial, by decide, rfl, trivial⟩ rfl trivial (.ren rfl rfl .nil) rfl ⟨trivial, rfl⟩ rfl) rfl ?_
 obtain ⟨⟨x4614, x4615, x4616⟩, h4612, H⟩ := bnd H
 refine WPL.c (runs_call (s := []) (t := [4]) (N := 5) (bor := []) fn18 rfl (s_dec_num_tell k (decide (x4456 < 0)) 0 x4612 x4457 x4614 x4615 x4616 h4612) ⟨rfl, trivial, by decide, rfl, trivial⟩ rfl trivial (.ren rfl rfl .nil) rfl ⟨trivial, rfl⟩ rfl) rfl ?_
 refine WPL.q (q_mv (v := .tup _) rfl) rfl ?_
 refine WPL.q (q_extract rfl rfl) rfl ?_
 refine WPL.q (q_extract rfl rfl) rfl ?_
 refine WPL.q (q_nilCheck rfl) rfl ?_
 refine WPL.s (s_store sz23 rfl rfl rfl rfl rfl) ?_
 refine WPL.nilW ?_
 refine W.now ?_
 refine InBlock.n ?_
 refine Then.n ?_
 refine WP.region ?_
 refine WPL.q (q_nm (q_add rfl rfl) (fold_int (b := 1) (by decide))) rfl ?_
 refine WPL.q (q_mv (v := .lit (.int _ _)) rfl) rfl ?_
 refine WPL.nilW ?_
 refine W.now ?_
 refine Then.n ?_
 refine WPI.round ?_
 refine WP.seq ?_
 refine WP.region ?_
 refine WPL.q (q_lss rfl rfl) rfl ?_
 refine WPL.nilW ?_
 refine W.now ?_
 refine Then.n ?_
 refine WP.seq ?_
 refine WP.condF rfl ?_
 refine WP.exitW ?_
 refine W.now ?_
 refine Then.x ?_
 refine Then.x ?_
 refine InBlock.x0 ?_
 refine Then.n ?_
 refine WP.seq ?_
 refine WP.region ?_
 refine WPL.q (q_as (v := .lit (.bool _)) rfl) rfl ?_
 refine WPL.nilW ?_
 refine W.now ?_
 refine Then.n ?_
 refine WP.retW ?_
 have q0 := (Prod.mk.inj (Option.some.inj H)).1
 have q1 := (Prod.mk.inj (Prod.mk.inj (Option.some.inj H)).2).1
 have q2 := (Prod.mk.inj (Prod.mk.inj (Option.some.inj H)).2).2
 subst q0
 subst q1
 subst q2
 exact W.now (BodyR.mkR trivial rfl [0, 1] ⟨rfl, rfl⟩ ⟨rfl, ⟨⟨trivial, .inr ⟨rfl, rfl, rfl⟩⟩, .inr ⟨rfl, rfl, rfl⟩⟩, by decide, rfl, ⟨⟨trivial, rfl⟩, rfl⟩⟩ rfl rfl)
set_option maxRecDepth 100000 in
set_option maxHeartbeats 4000000 in
theorem s_math_bits_Mul (k : Nat) (x4654 : Int) (x4655 : Int) (x4659 : Int) (H : g_math_bits_Mul k x4654 x4655 = some x4659) : Go.Q.Spec Tryd.prog 49 0 [.lit (.int .u64 x4654), .lit (.int .u64 x4655)] Mem.nil (fun o M => o = .ret (.tup [.lit (.int .u64 x4659), .lit (.int .u64 (IntKind.wrap .u64 (x4654 * x4655)))]) ∧ M = Mem.nil) := by
 unfold g_math_bits_Mul at H
 refine Go.Q.Spec.of_bodyR (az := []) (rs := [.tmp 4, .tmp 5]) (nt := 30) Tryd.func49 rfl rfl (by intro t T h; simp at h) rfl rfl fun cx hnp => ?_
 refine WP.seq ?_
 refine WP.region ?_
 refine WPL.q (q_as (v := .lit (.int _ _)) rfl) rfl ?_
 refine WPL.q (q_as (v := .lit (.int _ _)) rfl) rfl ?_
 refine WPL.nilW ?_
 refine W.now ?_
 refine Then.n ?_
 refine WP.seq ?_
 refine WP.condF rfl ?_
 refine WP.skipW ?_
 refine W.now ?_
 refine Then.n ?_
 refine WP.seq ?_
 refine WP.region ?_
 refine WPL.q (q_mv (v := .lit (.int _ _)) rfl) rfl ?_
 refine WPL.q (q_mv (v := .lit (.int _ _)) rfl) rfl ?_
 obtain ⟨x4661, h4659, H⟩ := bnd H
 refine WPL.c (runs_call (s := []) (t := []) (N := 0) (bor := []) fn41 rfl (s_math_bits_Mul64 k x4654 x4655 x4661 h4659) ⟨rfl, trivial, by decide, rfl, trivial⟩ rfl trivial (.ren rfl rfl (.ren rfl rfl .nil)) rfl trivial rfl) rfl ?_
 refine WPL.q (q_mv (v := .tup _) rfl) rfl ?_
 refine WPL.q (q_extract rfl rfl) rfl ?_
 refine WPL.q (q_extract rfl rfl) rfl ?_
 refine WPL.q (q_as (v := .lit (.int _ _)) rfl) rfl ?_
 refine WPL.q (q_as (v := .lit (.int _ _)) rfl) rfl ?_
 refine WPL.nilW ?_
 refine W.now ?_
 refine Then.n ?_
 refine WP.seq ?_
 refine WP.region ?_
 refine WPL.q (q_mv (v := .lit (.int _ _)) rfl) rfl ?_
 refine WPL.q (q_mv (v := .lit (.int _ _)) rfl) rfl ?_
 refine WPL.q (q_as (v := .lit (.int _ _)) rfl) rfl ?_
 refine WPL.q (q_as (v := .lit (.int _ _)) rfl) rfl ?_
 refine WPL.nilW ?_
 refine W.now ?_
 refine Then.n ?_
 refine WP.retW ?_
 have q0 := (Option.some.inj H)
 subst q0
 exact W.now (BodyR.mkR trivial rfl [] ⟨rfl, rfl⟩ ⟨rfl, trivial, by decide, rfl, trivial⟩ rfl rfl)
set_option maxRecDepth 100000 in
set_option maxHeartbeats 4000000 in
theorem s_strings_HasPrefix (k : Nat) (x4696 : ByteArray) (x4697 : ByteArray) (x4701 : Bool) (H : g_strings_HasPrefix k x4696 x4697 = some x4701) : Go.Q.Spec Tryd.prog 50 0 [.lit (.string x4696), .lit (.string x4697)] Mem.nil (fun o M => o = .ret (.lit (.bool x4701)) ∧ M = Mem.nil) := by
 unfold g_strings_HasPrefix at H
 refine Go.Q.Spec.of_bodyR (az := []) (rs := [.tmp 4]) (nt := 8) Tryd.func50 rfl rfl (by intro t T h; simp at h) rfl rfl fun cx hnp => ?_
 refine WP.seq ?_
 refine WP.region ?_
 refine WPL.q (q_as (v := .lit (.bool _)) rfl) rfl ?_
 refine WPL.nilW ?_
 refine W.now ?_
 refine Then.n ?_
 refine WP.seq ?_
 refine WP.region ?_
 refine WPL.q (q_mv (v := .lit (.string _)) rfl) rfl ?_
 refine WPL.q (q_mv (v := .lit (.string _)) rfl) rfl ?_
 obtain ⟨x4703, h4701, H⟩ := bnd H
 refine WPL.c (runs_call (s := []) (t := []) (N := 0) (bor := []) fn69 rfl (s_internal_stringslite_HasPrefix k x4696 x4697 x4703 h4701) ⟨rfl, trivial, by decide, rfl, trivial⟩ rfl trivial (.ren rfl rfl (.ren rfl rfl .nil)) rfl trivial rfl) rfl ?_
 refine WPL.q (q_as (v := .lit (.bool _)) rfl) rfl ?_
 refine WPL.nilW ?_
 refine W.now ?_
 refine Then.n ?_
 refine WP.retW ?_
 have q0 := (Option.some.inj H)
 subst q0
 exact W.now (BodyR.mkR trivial rfl [] ⟨rfl, rfl⟩ ⟨rfl, trivial, by decide, rfl, trivial⟩ rfl rfl)
set_option maxRecDepth 100000 in
set_option maxHeartbeats 4000000 in
theorem s_strings_Repeat (k : Nat) (x4644 : ByteArray) (x4645 : Int) (x4840 : ByteArray) (H : g_strings_Repeat k x4644 x4645 = some x4840) : Go.Q.Spec Tryd.prog 24 0 [.lit (.string x4644), .lit (.int .i64 x4645)] Mem.nil (fun o M => o = .ret (.lit (.string x4840)) ∧ M = Mem.nil) := by
 unfold g_strings_Repeat at H
 refine Go.Q.Spec.of_bodyR (az := []) (rs := [.tmp 4]) (nt := 125) Tryd.func24 rfl rfl (by intro t T h; simp at h) rfl rfl fun cx hnp => ?_
 refine WP.seq ?_
 refine WP.region ?_
 refine WPL.q (q_as (v := .lit (.string _)) rfl) rfl ?_
 refine WPL.nilW ?_
 refine W.now ?_
 refine Then.n ?_
 refine WP.seq ?_
 refine WP.seq ?_
 refine WP.region ?_
 refine WPL.q (q_mv (v := .lit (.int _ _)) rfl) rfl ?_
 refine WPL.nilW ?_
 refine W.now ?_
 refine Then.n ?_
 refine WP.block ?_
 refine WP.seq ?_
 refine WP.region ?_
 refine WPL.q (q_eql rfl rfl) rfl ?_
 refine WPL.q (q_as (v := .lit (.bool _)) rfl) rfl ?_
 refine WPL.nilW ?_
 refine W.now ?_
 refine Then.n ?_
 refine WP.cond (t := (decide (x4645 = 0))) rfl (fun hb4842 => ?_) (fun hb4842 => ?_)
 · replace H := cnt hb4842 H
   refine WP.seq ?_
   refine WP.region ?_
   refine WPL.q (q_as (v := .lit (.string _)) rfl) rfl ?_
   refine WPL.nilW ?_
   refine W.now ?_
   refine Then.n ?_
   refine WP.retW ?_
   have q0 := (Option.some.inj H)
   subst q0
   exact W.now (InBlock.r (Then.r (BodyR.mkR trivial rfl [] ⟨rfl, rfl⟩ ⟨rfl, trivial, by decide, rfl, trivial⟩ rfl rfl)))
 replace H := cnf hb4842 H
 refine WP.seq ?_
 refine WP.region ?_
 refine WPL.q (q_eql rfl rfl) rfl ?_
 refine WPL.q (q_as (v := .lit (.bool _)) rfl) rfl ?_
 refine WPL.nilW ?_
 refine W.now ?_
 refine Then.n ?_
 refine WP.cond (t := (decide (x4645 = 1))) rfl (fun hb4843 => ?_) (fun hb4843 => ?_)
 · replace H := cnt hb4843 H
   refine WP.seq ?_
   refine WP.region ?_
   refine WPL.q (q_mv (v := .lit (.string _)) rfl) rfl ?_
   refine WPL.q (q_as (v := .lit (.string _)) rfl) rfl ?_
   refine WPL.nilW ?_
   refine W.now ?_
   refine Then.n ?_
   refine WP.retW ?_
   have q0 := (Option.some.inj H)
   subst q0
   exact W.now (InBlock.r (Then.r (BodyR.mkR trivial rfl [] ⟨rfl, rfl⟩ ⟨rfl, trivial, by decide, rfl, trivial⟩ rfl rfl)))
 replace H := cnf hb4843 H
 refine WP.skipW ?_
 refine W.now ?_
 refine InBlock.n ?_
 refine Then.n ?_
 refine WP.seq ?_
 refine WP.seq ?_
 refine WP.region ?_
 refine WPL.q (q_mv (v := .lit (.int _ _)) rfl) rfl ?_
 refine WPL.q (q_lss rfl rfl) rfl ?_
 refine WPL.nilW ?_
 refine W.now ?_
 refine Then.n ?_
 refine WP.cond (t := (decide (x4645 < 0))) rfl (fun hb4845 => ?_) (fun hb4845 => ?_)
 · replace H := cnt hb4845 H
   refine WP.region ?_
   refine WPL.q (q_mki cn9) rfl ?_
   exact nf rfl H
 replace H := cnf hb4845 H
 refine WP.skipW ?_
 refine W.now ?_
 refine Then.n ?_
 refine WP.seq ?_
 refine WP.region ?_
 refine WPL.q (q_mv (v := .lit (.string _)) rfl) rfl ?_
 refine WPL.q (q_len_str Tryd.underlying9 rfl) rfl ?_
 obtain ⟨x4847, h4847, H⟩ := bnd H
 refine WPL.q (q_nm (q_conv Tryd.underlying3 Tryd.underlying88 rfl) (nm_int h4847)) rfl ?_
 refine WPL.q (q_mv (v := .lit (.int _ _)) rfl) rfl ?_
 refine WPL.q (q_conv Tryd.underlying3 Tryd.underlying88 rfl) rfl ?_
 obtain ⟨x4849, h4847, H⟩ := bnd H
 refine WPL.c (runs_call (s := []) (t := []) (N := 0) (bor := []) fn49 rfl (s_math_bits_Mul k x4847 (IntKind.wrap .u64 x4645) x4849 h4847) ⟨rfl, trivial, by decide, rfl, trivial⟩ rfl trivial (.ren rfl rfl (.ren rfl rfl .nil)) rfl trivial rfl) rfl ?_
 refine WPL.q (q_mv (v := .tup _) rfl) rfl ?_
 refine WPL.q (q_extract rfl rfl) rfl ?_
 refine WPL.q (q_extract rfl rfl) rfl ?_
 refine WPL.q (q_as (v := .lit (.int _ _)) rfl) rfl ?_
 refine WPL.q (q_as (v := .lit (.int _ _)) rfl) rfl ?_
 refine WPL.nilW ?_
 refine W.now ?_
 refine Then.n ?_
 refine WP.seq ?_
 refine WP.seq ?_
 obtain ⟨x4859, H4861, H⟩ := bnd H
 refine WP.monoW (Q := fun x E M => x = .normal ∧ E = (((Env.none.upd 0 (.lit (.string x4644))).upd 6 (.lit (.int .u64 (IntKind.wrap .u64 (x4847 * (IntKind.wrap .u64 x4645)))))).upd 34 (.lit (.bool x4859))) ∧ M = Mem.nil) ?_ ?_
 · clear H
   have H := H4861
   clear H4861
   refine WP.region ?_
   refine WPL.q (q_mv (v := .lit (.int _ _)) rfl) rfl ?_
   refine WPL.q (q_gtr rfl rfl) rfl ?_
   refine WPL.q (q_mv (v := .lit (.bool _)) rfl) rfl ?_
   refine WPL.split (t := 31) (b := (decide (0 < x4849))) rfl (fun hb4859 => ?_) (fun hb4859 => ?_)
   · replace H := cnt hb4859 H
     refine WPL.skipg (b' := true) rfl rfl (lb hb4859) rfl rfl ?_
     refine WPL.skipg (b' := true) rfl rfl (lb hb4859) rfl rfl ?_
     refine WPL.q (q_pickT (v := .lit (.bool _)) (lb hb4859) rfl) rfl ?_
     refine WPL.nilW ?_
     have q0 := (Option.some.inj H)
     subst q0
     exact W.wk [] hnp ⟨rfl, rfl, rfl⟩ ⟨rfl, trivial, by decide, rfl, trivial⟩ (LeE.upd rfl rfl (LeE.upd rfl rfl (LeE.upd rfl rfl (LeE.none rfl rfl)))) rfl
   replace H := cnf hb4859 H
   refine WPL.qg rfl rfl (lb hb4859) (q_mv (v := .lit (.int _ _)) rfl) rfl ?_
   obtain ⟨x4861, h4861, H⟩ := bnd H
   refine WPL.qg rfl rfl (lb hb4859) (q_nm (q_gtr rfl rfl) (nm_bool h4861)) rfl ?_
   refine WPL.q (q_pickF (v := .lit (.bool _)) (lb hb4859) rfl) rfl ?_
   refine WPL.nilW ?_
   have q0 := (Option.some.inj H)
   subst q0
   exact W.wk [] hnp ⟨rfl, rfl, rfl⟩ ⟨rfl, trivial, by decide, rfl, trivial⟩ (LeE.upd rfl rfl (LeE.upd rfl rfl (LeE.upd rfl rfl (LeE.none rfl rfl)))) rfl
 rintro _ _ _ ⟨rfl, rfl, rfl⟩
 refine W.now ?_
 refine Then.n ?_
 refine WP.cond (t := x4859) rfl (fun hb4862 => ?_) (fun hb4862 => ?_)
 · replace H := cnt hb4862 H
   refine WP.region ?_
   refine WPL.q (q_mki cn9) rfl ?_
   exact nf rfl H
 replace H := cnf hb4862 H
 refine WP.skipW ?_
 refine W.now ?_
 refine Then.n ?_
 refine WP.seq ?_
 refine WP.region ?_
 refine WPL.q (q_mv (v := .lit (.int _ _)) rfl) rfl ?_
 obtain ⟨x4864, h4864, H⟩ := bnd H
 refine WPL.q (q_nm (q_conv Tryd.underlying88 Tryd.underlying3 rfl) (nm_int h4864)) rfl ?_
 refine WPL.q (q_as (v := .lit (.int _ _)) rfl) rfl ?_
 refine WPL.nilW ?_
 refine W.now ?_
 refine Then.n ?_
 refine WP.seq ?_
 refine WP.seq ?_
 refine WP.region ?_
 refine WPL.q (q_mv (v := .lit (.string _)) rfl) rfl ?_
 refine WPL.q (q_len_str Tryd.underlying9 rfl) rfl ?_
 obtain ⟨x4867, h4867, H⟩ := bnd H
 refine WPL.q (q_nm (q_eql rfl rfl) (nm_bool h4867)) rfl ?_
 refine WPL.nilW ?_
 refine W.now ?_
 refine Then.n ?_
 refine WP.cond (t := x4867) rfl (fun hb4867 => ?_) (fun hb4867 => ?_)
 · replace H := cnt hb4867 H
   refine WP.seq ?_
   refine WP.region ?_
   refine WPL.q (q_as (v := .lit (.string _)) rfl) rfl ?_
   refine WPL.nilW ?_
   refine W.now ?_
   refine Then.n ?_
   refine WP.retW ?_
   have q0 := (Option.some.inj H)
   subst q0
   exact W.now (Then.r (BodyR.mkR trivial rfl [] ⟨rfl, rfl⟩ ⟨rfl, trivial, by decide, rfl, trivial⟩ rfl rfl))
 replace H := cnf hb4867 H
 refine WP.skipW ?_
 refine W.now ?_
 refine Then.n ?_
 refine WP.seq ?_
 obtain ⟨y5005, H5003, H⟩ := bnd H
 refine WP.monoW (Q := fun x E M => match (generalizing := false) y5005 with | (Sum.inl x4936) => x = .ret ∧ E = (Env.none.upd 4 (.lit (.string x4936))) ∧ M = Mem.nil | (Sum.inr _) => x = .normal ∧ E = ((Env.none.upd 0 (.lit (.string x4644))).upd 7 (.lit (.int .i64 x4864))) ∧ M = Mem.nil) ?_ ?_
 · clear H
   have H := H5003
   clear H5003
   refine WP.seq ?_
   refine WP.region ?_
   refine WPL.q (q_mv (v := .lit (.string _)) rfl) rfl ?_
   obtain ⟨x4937, h4937, H⟩ := bnd H
   refine WPL.q (q_index_str Tryd.underlying9 rfl rfl h4937) rfl ?_
   refine WPL.nilW ?_
   refine W.now ?_
   refine Then.n ?_
   refine WP.block ?_
   refine WP.seq ?_
   obtain ⟨x4942, H4946, H⟩ := bnd H
   refine WP.monoW (Q := fun x E M => x = .normal ∧ E = (((Env.none.upd 0 (.lit (.string x4644))).upd 7 (.lit (.int .i64 x4864))).upd 43 (.lit (.bool x4942))) ∧ M = Mem.nil) ?_ ?_
   · clear H
     have H := H4946
     clear H4946
     refine WP.seq ?_
     refine WP.region ?_
     refine WPL.q (q_eql rfl rfl) rfl ?_
     refine WPL.q (q_as (v := .lit (.bool _)) rfl) rfl ?_
     refine WPL.nilW ?_
     refine W.now ?_
     refine Then.n ?_
     refine WP.cond (t := (decide (x4937 = 32))) rfl (fun hb4942 => ?_) (fun hb4942 => ?_)
     · replace H := cnt hb4942 H
       refine WP.skipW ?_
       have q0 := (Option.some.inj H)
       subst q0
       exact W.wk [] hnp ⟨rfl, rfl, rfl⟩ ⟨rfl, trivial, by decide, rfl, trivial⟩ (LeE.upd rfl rfl (LeE.upd rfl rfl (LeE.upd rfl rfl (LeE.none rfl rfl)))) rfl
     replace H := cnf hb4942 H
     refine WP.seq ?_
     refine WP.region ?_
     refine WPL.q (q_eql rfl rfl) rfl ?_
     refine WPL.q (q_as (v := .lit (.bool _)) rfl) rfl ?_
     refine WPL.nilW ?_
     refine W.now ?_
     refine Then.n ?_
     refine WP.cond (t := (decide (x4937 = 45))) rfl (fun hb4943 => ?_) (fun hb4943 => ?_)
     · replace H := cnt hb4943 H
       refine WP.skipW ?_
       have q0 := (Option.some.inj H)
       subst q0
       exact W.wk [] hnp ⟨rfl, rfl, rfl⟩ ⟨rfl, trivial, by decide, rfl, trivial⟩ (LeE.upd rfl rfl (LeE.upd rfl rfl (LeE.upd rfl rfl (LeE.none rfl rfl)))) rfl
     replace H := cnf hb4943 H
     refine WP.seq ?_
     refine WP.region ?_
     refine WPL.q (q_eql rfl rfl) rfl ?_
     refine WPL.q (q_as (v := .lit (.bool _)) rfl) rfl ?_
     refine WPL.nilW ?_
     refine W.now ?_
     refine Then.n ?_
     refine WP.cond (t := (decide (x4937 = 48))) rfl (fun hb4944 => ?_) (fun hb4944 => ?_)
     · replace H := cnt hb4944 H
       refine WP.skipW ?_
       have q0 := (Option.some.inj H)
       subst q0
       exact W.wk [] hnp ⟨rfl, rfl, rfl⟩ ⟨rfl, trivial, by decide, rfl, trivial⟩ (LeE.upd rfl rfl (LeE.upd rfl rfl (LeE.upd rfl rfl (LeE.none rfl rfl)))) rfl
     replace H := cnf hb4944 H
     refine WP.seq ?_
     refine WP.region ?_
     refine WPL.q (q_eql rfl rfl) rfl ?_
     refine WPL.q (q_as (v := .lit (.bool _)) rfl) rfl ?_
     refine WPL.nilW ?_
     refine W.now ?_
     refine Then.n ?_
     refine WP.cond (t := (decide (x4937 = 61))) rfl (fun hb4945 => ?_) (fun hb4945 => ?_)
     · replace H := cnt hb4945 H
       refine WP.skipW ?_
       have q0 := (Option.some.inj H)
       subst q0
       exact W.wk [] hnp ⟨rfl, rfl, rfl⟩ ⟨rfl, trivial, by decide, rfl, trivial⟩ (LeE.upd rfl rfl (LeE.upd rfl rfl (LeE.upd rfl rfl (LeE.none rfl rfl)))) rfl
     replace H := cnf hb4945 H
     refine WP.region ?_
     refine WPL.q (q_eql rfl rfl) rfl ?_
     refine WPL.q (q_as (v := .lit (.bool _)) rfl) rfl ?_
     refine WPL.nilW ?_
     have q0 := (Option.some.inj H)
     subst q0
     exact W.wk [] hnp ⟨rfl, rfl, rfl⟩ ⟨rfl, trivial, by decide, rfl, trivial⟩ (LeE.upd rfl rfl (LeE.upd rfl rfl (LeE.upd rfl rfl (LeE.none rfl rfl)))) rfl
   rintro _ _ _ ⟨rfl, rfl, rfl⟩
   refine W.now ?_
   refine Then.n ?_
   refine WP.cond (t := x4942) rfl (fun hb4947 => ?_) (fun hb4947 => ?_)
   · replace H := cnt hb4947 H
     refine WP.block ?_
     refine WP.seq ?_
     obtain ⟨x4952, H4955, H⟩ := bnd H
     refine WP.monoW (Q := fun x E M => x = .normal ∧ E = (((Env.none.upd 0 (.lit (.string x4644))).upd 7 (.lit (.int .i64 x4864))).upd 49 (.lit (.bool x4952))) ∧ M = Mem.nil) ?_ ?_
     · clear H
       have H := H4955
       clear H4955
       refine WP.region ?_
       refine WPL.q (q_mv (v := .lit (.int _ _)) rfl) rfl ?_
       refine WPL.q (q_leq rfl rfl) rfl ?_
       refine WPL.q (q_mv (v := .lit (.bool _)) rfl) rfl ?_
       refine WPL.split (t := 52) (b := (decide (x4864 ≤ 128))) rfl (fun hb4952 => ?_) (fun hb4952 => ?_)
       · replace H := cnt hb4952 H
         refine WPL.qg rfl rfl (lb hb4952) (q_mv (v := .lit (.string _)) rfl) rfl ?_
         obtain ⟨x4955, h4953, H⟩ := bnd H
         refine WPL.cg rfl rfl (lb hb4952) (runs_call (s := []) (t := []) (N := 0) (bor := []) fn50 rfl (s_strings_HasPrefix k (ByteArray.mk #[32, 32, 32, 32, 32, 32, 32, 32, 32, 32, 32, 32, 32, 32, 32, 32, 32, 32, 32, 32, 32, 32, 32, 32, 32, 32, 32, 32, 32, 32, 32, 32, 32, 32, 32, 32, 32, 32, 32, 32, 32, 32, 32, 32, 32, 32, 32, 32, 32, 32, 32, 32, 32, 32, 32, 32, 32, 32, 32, 32, 32, 32, 32, 32, 32, 32, 32, 32, 32, 32, 32, 32, 32, 32, 32, 32, 32, 32, 32, 32, 32, 32, 32, 32, 32, 32, 32, 32, 32, 32, 32, 32, 32, 32, 32, 32, 32, 32, 32, 32, 32, 32, 32, 32, 32, 32, 32, 32, 32, 32, 32, 32, 32, 32, 32, 32, 32, 32, 32, 32, 32, 32, 32, 32, 32, 32, 32, 32]) x4644 x4955 h4953) ⟨rfl, trivial, by decide, rfl, trivial⟩ rfl trivial (.ren rfl rfl (.ren rfl rfl .nil)) rfl trivial rfl) rfl ?_
         refine WPL.q (q_pickT (v := .lit (.bool _)) (lb hb4952) rfl) rfl ?_
         refine WPL.q (q_as (v := .lit (.bool _)) rfl) rfl ?_
         refine WPL.nilW ?_
         have q0 := (Option.some.inj H)
         subst q0
         exact W.wk [] hnp ⟨rfl, rfl, rfl⟩ ⟨rfl, trivial, by decide, rfl, trivial⟩ (LeE.upd rfl rfl (LeE.upd rfl rfl (LeE.upd rfl rfl (LeE.none rfl rfl)))) rfl
       replace H := cnf hb4952 H
       refine WPL.skipg (b' := false) rfl rfl (lb hb4952) rfl rfl ?_
       refine WPL.skipg (b' := false) rfl rfl (lb hb4952) rfl rfl ?_
       refine WPL.q (q_pickF (v := .lit (.bool _)) (lb hb4952) rfl) rfl ?_
       refine WPL.q (q_as (v := .lit (.bool _)) rfl) rfl ?_
       refine WPL.nilW ?_
       have q0 := (Option.some.inj H)
       subst q0
       exact W.wk [] hnp ⟨rfl, rfl, rfl⟩ ⟨rfl, trivial, by decide, rfl, trivial⟩ (LeE.upd rfl rfl (LeE.upd rfl rfl (LeE.upd rfl rfl (LeE.none rfl rfl)))) rfl
     rintro _ _ _ ⟨rfl, rfl, rfl⟩
     refine W.now ?_
     refine Then.n ?_
     refine WP.cond (t := x4952) rfl (fun hb4956 => ?_) (fun hb4956 => ?_)
     · replace H := cnt hb4956 H
       refine WP.seq ?_
       refine WP.region ?_
       refine WPL.q (q_mv (v := .lit (.int _ _)) rfl) rfl ?_
       obtain ⟨h4957, H⟩ := grd H
       obtain ⟨x4959, h4959, H⟩ := bnd H
       refine WPL.q (q_nm (q_slice_str (i := 0) (j := x4864) Tryd.underlying9 rfl rfl ⟨_, rfl⟩ h4957) (nm_str h4959)) rfl ?_
       refine WPL.q (q_as (v := .lit (.string _)) rfl) rfl ?_
       refine WPL.nilW ?_
       refine W.now ?_
       refine Then.n ?_
       refine WP.retW ?_
       have q0 := Option.some.inj H
       subst q0
       exact W.wk [] hnp (InBlock.r (InBlock.r ⟨rfl, rfl, rfl⟩)) ⟨rfl, trivial, by decide, rfl, trivial⟩ (LeE.upd rfl rfl (LeE.none rfl rfl)) rfl
     replace H := cnf hb4956 H
     refine WP.seq ?_
     obtain ⟨x4963, H4966, H⟩ := bnd H
     refine WP.monoW (Q := fun x E M => x = .normal ∧ E = (((Env.none.upd 0 (.lit (.string x4644))).upd 7 (.lit (.int .i64 x4864))).upd 58 (.lit (.bool x4963))) ∧ M = Mem.nil) ?_ ?_
     · clear H
       have H := H4966
       clear H4966
       refine WP.region ?_
       refine WPL.q (q_mv (v := .lit (.int _ _)) rfl) rfl ?_
       refine WPL.q (q_leq rfl rfl) rfl ?_
       refine WPL.q (q_mv (v := .lit (.bool _)) rfl) rfl ?_
       refine WPL.split (t := 61) (b := (decide (x4864 ≤ 128))) rfl (fun hb4963 => ?_) (fun hb4963 => ?_)
       · replace H := cnt hb4963 H
         refine WPL.qg rfl rfl (lb hb4963) (q_mv (v := .lit (.string _)) rfl) rfl ?_
         obtain ⟨x4966, h4964, H⟩ := bnd H
         refine WPL.cg rfl rfl (lb hb4963) (runs_call (s := []) (t := []) (N := 0) (bor := []) fn50 rfl (s_strings_HasPrefix k (ByteArray.mk #[45, 45, 45, 45, 45, 45, 45, 45, 45, 45, 45, 45, 45, 45, 45, 45, 45, 45, 45, 45, 45, 45, 45, 45, 45, 45, 45, 45, 45, 45, 45, 45, 45, 45, 45, 45, 45, 45, 45, 45, 45, 45, 45, 45, 45, 45, 45, 45, 45, 45, 45, 45, 45, 45, 45, 45, 45, 45, 45, 45, 45, 45, 45, 45, 45, 45, 45, 45, 45, 45, 45, 45, 45, 45, 45, 45, 45, 45, 45, 45, 45, 45, 45, 45, 45, 45, 45, 45, 45, 45, 45, 45, 45, 45, 45, 45, 45, 45, 45, 45, 45, 45, 45, 45, 45, 45, 45, 45, 45, 45, 45, 45, 45, 45, 45, 45, 45, 45, 45, 45, 45, 45, 45, 45, 45, 45, 45, 45]) x4644 x4966 h4964) ⟨rfl, trivial, by decide, rfl, trivial⟩ rfl trivial (.ren rfl rfl (.ren rfl rfl .nil)) rfl trivial rfl) rfl ?_
         refine WPL.q (q_pickT (v := .lit (.bool _)) (lb hb4963) rfl) rfl ?_
         refine WPL.q (q_as (v := .lit (.bool _)) rfl) rfl ?_
         refine WPL.nilW ?_
         have q0 := (Option.some.inj H)
         subst q0
         exact W.wk [] hnp ⟨rfl, rfl, rfl⟩ ⟨rfl, trivial, by decide, rfl, trivial⟩ (LeE.upd rfl rfl (LeE.upd rfl rfl (LeE.upd rfl rfl (LeE.none rfl rfl)))) rfl
       replace H := cnf hb4963 H
       refine WPL.skipg (b' := false) rfl rfl (lb hb4963) rfl rfl ?_
       refine WPL.skipg (b' := false) rfl rfl (lb hb4963) rfl rfl ?_
       refine WPL.q (q_pickF (v := .lit (.bool _)) (lb hb4963) rfl) rfl ?_
       refine WPL.q (q_as (v := .lit (.bool _)) rfl) rfl ?_
       refine WPL.nilW ?_
       have q0 := (Option.some.inj H)
       subst q0
       exact W.wk [] hnp ⟨rfl, rfl, rfl⟩ ⟨rfl, trivial, by decide, rfl, trivial⟩ (LeE.upd rfl rfl (LeE.upd rfl rfl (LeE.upd rfl rfl (LeE.none rfl rfl)))) rfl
     rintro _ _ _ ⟨rfl, rfl, rfl⟩
     refine W.now ?_
     refine Then.n ?_
     refine WP.cond (t := x4963) rfl (fun hb4967 => ?_) (fun hb4967 => ?_)
     · replace H := cnt hb4967 H
       refine WP.seq ?_
       refine WP.region ?_
       refine WPL.q (q_mv (v := .lit (.int _ _)) rfl) rfl ?_
       obtain ⟨h4968, H⟩ := grd H
       obtain ⟨x4970, h4970, H⟩ := bnd H
       refine WPL.q (q_nm (q_slice_str (i := 0) (j := x4864) Tryd.underlying9 rfl rfl ⟨_, rfl⟩ h4968) (nm_str h4970)) rfl ?_
       refine WPL.q (q_as (v := .lit (.string _)) rfl) rfl ?_
       refine WPL.nilW ?_
       refine W.now ?_
       refine Then.n ?_
       refine WP.retW ?_
       have q0 := Option.some.inj H
       subst q0
       exact W.wk [] hnp (InBlock.r (InBlock.r ⟨rfl, rfl, rfl⟩)) ⟨rfl, trivial, by decide, rfl, trivial⟩ (LeE.upd rfl rfl (LeE.none rfl rfl)) rfl
     replace H := cnf hb4967 H
     refine WP.seq ?_
     obtain ⟨x4974, H4977, H⟩ := bnd H
     refine WP.monoW (Q := fun x E M => x = .normal ∧ E = (((Env.none.upd 0 (.lit (.string x4644))).upd 7 (.lit (.int .i64 x4864))).upd 67 (.lit (.bool x4974))) ∧ M = Mem.nil) ?_ ?_
     · clear H
       have H := H4977
       clear H4977
       refine WP.region ?_
       refine WPL.q (q_mv (v := .lit (.int _ _)) rfl) rfl ?_
       refine WPL.q (q_leq rfl rfl) rfl ?_
       refine WPL.q (q_mv (v := .lit (.bool _)) rfl) rfl ?_
       refine WPL.split (t := 70) (b := (decide (x4864 ≤ 64))) rfl (fun hb4974 => ?_) (fun hb4974 => ?_)
       · replace H := cnt hb4974 H
         refine WPL.qg rfl rfl (lb hb4974) (q_mv (v := .lit (.string _)) rfl) rfl ?_
         obtain ⟨x4977, h4975, H⟩ := bnd H
         refine WPL.cg rfl rfl (lb hb4974) (runs_call (s := []) (t := []) (N := 0) (bor := []) fn50 rfl (s_strings_HasPrefix k (ByteArray.mk #[48, 48, 48, 48, 48, 48, 48, 48, 48, 48, 48, 48, 48, 48, 48, 48, 48, 48, 48, 48, 48, 48, 48, 48, 48, 48, 48, 48, 48, 48, 48, 48, 48, 48, 48, 48, 48, 48, 48, 48, 48, 48, 48, 48, 48, 48, 48, 48, 48, 48, 48, 48, 48, 48, 48, 48, 48, 48, 48, 48, 48, 48, 48, 48]) x4644 x4977 h4975) ⟨rfl, trivial, by decide, rfl, trivial⟩ rfl trivial (.ren rfl rfl (.ren rfl rfl .nil)) rfl trivial rfl) rfl ?_
         refine WPL.q (q_pickT (v := .lit (.bool _)) (lb hb4974) rfl) rfl ?_
         refine WPL.q (q_as (v := .lit (.bool _)) rfl) rfl ?_
         refine WPL.nilW ?_
         have q0 := (Option.some.inj H)
         subst q0
         exact W.wk [] hnp ⟨rfl, rfl, rfl⟩ ⟨rfl, trivial, by decide, rfl, trivial⟩ (LeE.upd rfl rfl (LeE.upd rfl rfl (LeE.upd rfl rfl (LeE.none rfl rfl)))) rfl
       replace H := cnf hb4974 H
       refine WPL.skipg (b' := false) rfl rfl (lb hb4974) rfl rfl ?_
       refine WPL.skipg (b' := false) rfl rfl (lb hb4974) rfl rfl ?_
       refine WPL.q (q_pickF (v := .lit (.bool _)) (lb hb4974) rfl) rfl ?_
       refine WPL.q (q_as (v := .lit (.bool _)) rfl) rfl ?_
       refine WPL.nilW ?_
       have q0 := (Option.some.inj H)
       subst q0
       exact W.wk [] hnp ⟨rfl, rfl, rfl⟩ ⟨rfl, trivial, by decide, rfl, trivial⟩ (LeE.upd rfl rfl (LeE.upd rfl rfl (LeE.upd rfl rfl (LeE.none rfl rfl)))) rfl
     rintro _ _ _ ⟨rfl, rfl, rfl⟩
     refine W.now ?_
     refine Then.n ?_
     refine WP.cond (t := x4974) rfl (fun hb4978 => ?_) (fun hb4978 => ?_)
     · replace H := cnt hb4978 H
       refine WP.seq ?_
       refine WP.region ?_
       refine WPL.q (q_mv (v := .lit (.int _ _)) rfl) rfl ?_
       obtain ⟨h4979, H⟩ := grd H
       obtain ⟨x4981, h4981, H⟩ := bnd H
       refine WPL.q (q_nm (q_slice_str (i := 0) (j := x4864) Tryd.underlying9 rfl rfl ⟨_, rfl⟩ h4979) (nm_str h4981)) rfl ?_
       refine WPL.q (q_as (v := .lit (.string _)) rfl) rfl ?_
       refine WPL.nilW ?_
       refine W.now ?_
       refine Then.n ?_
       refine WP.retW ?_
       have q0 := Option.some.inj H
       subst q0
       exact W.wk [] hnp (InBlock.r (InBlock.r ⟨rfl, rfl, rfl⟩)) ⟨rfl, trivial, by decide, rfl, trivial⟩ (LeE.upd rfl rfl (LeE.none rfl rfl)) rfl
     replace H := cnf hb4978 H
     refine WP.seq ?_
     obtain ⟨x4985, H4988, H⟩ := bnd H
     refine WP.monoW (Q := fun x E M => x = .normal ∧ E = (((Env.none.upd 0 (.lit (.string x4644))).upd 7 (.lit (.int .i64 x4864))).upd 76 (.lit (.bool x4985))) ∧ M = Mem.nil) ?_ ?_
     · clear H
       have H := H4988
       clear H4988
       refine WP.region ?_
       refine WPL.q (q_mv (v := .lit (.int _ _)) rfl) rfl ?_
       refine WPL.q (q_leq rfl rfl) rfl ?_
       refine WPL.q (q_mv (v := .lit (.bool _)) rfl) rfl ?_
       refine WPL.split (t := 79) (b := (decide (x4864 ≤ 128))) rfl (fun hb4985 => ?_) (fun hb4985 => ?_)
       · replace H := cnt hb4985 H
         refine WPL.qg rfl rfl (lb hb4985) (q_mv (v := .lit (.string _)) rfl) rfl ?_
         obtain ⟨x4988, h4986, H⟩ := bnd H
         refine WPL.cg rfl rfl (lb hb4985) (runs_call (s := []) (t := []) (N := 0) (bor := []) fn50 rfl (s_strings_HasPrefix k (ByteArray.mk #[61, 61, 61, 61, 61, 61, 61, 61, 61, 61, 61, 61, 61, 61, 61, 61, 61, 61, 61, 61, 61, 61, 61, 61, 61, 61, 61, 61, 61, 61, 61, 61, 61, 61, 61, 61, 61, 61, 61, 61, 61, 61, 61, 61, 61, 61, 61, 61, 61, 61, 61, 61, 61, 61, 61, 61, 61, 61, 61, 61, 61, 61, 61, 61, 61, 61, 61, 61, 61, 61, 61, 61, 61, 61, 61, 61, 61, 61, 61, 61, 61, 61, 61, 61, 61, 61, 61, 61, 61, 61, 61, 61, 61, 61, 61, 61, 61, 61, 61, 61, 61, 61, 61, 61, 61, 61, 61, 61, 61, 61, 61, 61, 61, 61, 61, 61, 61, 61, 61, 61, 61, 61, 61, 61, 61, 61, 61, 61]) x4644 x4988 h4986) ⟨rfl, trivial, by decide, rfl, trivial⟩ rfl trivial (.ren rfl rfl (.ren rfl rfl .nil)) rfl trivial rfl) rfl ?_
         refine WPL.q (q_pickT (v := .lit (.bool _)) (lb hb4985) rfl) rfl ?_
         refine WPL.q (q_as (v := .lit (.bool _)) rfl) rfl ?_
         refine WPL.nilW ?_
         have q0 := (Option.some.inj H)
         subst q0
         exact W.wk [] hnp ⟨rfl, rfl, rfl⟩ ⟨rfl, trivial, by decide, rfl, trivial⟩ (LeE.upd rfl rfl (LeE.upd rfl rfl (LeE.upd rfl rfl (LeE.none rfl rfl)))) rfl
       replace H := cnf hb4985 H
       refine WPL.skipg (b' := false) rfl rfl (lb hb4985) rfl rfl ?_
       refine WPL.skipg (b' := false) rfl rfl (lb hb4985) rfl rfl ?_
       refine WPL.q (q_pickF (v := .lit (.bool _)) (lb hb4985) rfl) rfl ?_
       refine WPL.q (q_as (v := .lit (.bool _)) rfl) rfl ?_
       refine WPL.nilW ?_
       have q0 := (Option.some.inj H)
       subst q0
       exact W.wk [] hnp ⟨rfl, rfl, rfl⟩ ⟨rfl, trivial, by decide, rfl, trivial⟩ (LeE.upd rfl rfl (LeE.upd rfl rfl (LeE.upd rfl rfl (LeE.none rfl rfl)))) rfl
     rintro _ _ _ ⟨rfl, rfl, rfl⟩
     refine W.now ?_
     refine Then.n ?_
     refine WP.cond (t := x4985) rfl (fun hb4989 => ?_) (fun hb4989 => ?_)
     · replace H := cnt hb4989 H
       refine WP.seq ?_
       refine WP.region ?_
       refine WPL.q (q_mv (v := .lit (.int _ _)) rfl) rfl ?_
       obtain ⟨h4990, H⟩ := grd H
       obtain ⟨x4992, h4992, H⟩ := bnd H
       refine WPL.q (q_nm (q_slice_str (i := 0) (j := x4864) Tryd.underlying9 rfl rfl ⟨_, rfl⟩ h4990) (nm_str h4992)) rfl ?_
       refine WPL.q (q_as (v := .lit (.string _)) rfl) rfl ?_
       refine WPL.nilW ?_
       refine W.now ?_
       refine Then.n ?_
       refine WP.retW ?_
       have q0 := Option.some.inj H
       subst q0
       exact W.wk [] hnp (InBlock.r (InBlock.r ⟨rfl, rfl, rfl⟩)) ⟨rfl, trivial, by decide, rfl, trivial⟩ (LeE.upd rfl rfl (LeE.none rfl rfl)) rfl
     replace H := cnf hb4989 H
     refine WP.seq ?_
     obtain ⟨x4996, H4999, H⟩ := bnd H
     refine WP.monoW (Q := fun x E M => x = .normal ∧ E = (((Env.none.upd 0 (.lit (.string x4644))).upd 7 (.lit (.int .i64 x4864))).upd 85 (.lit (.bool x4996))) ∧ M = Mem.nil) ?_ ?_
     · clear H
       have H := H4999
       clear H4999
       refine WP.region ?_
       refine WPL.q (q_mv (v := .lit (.int _ _)) rfl) rfl ?_
       refine WPL.q (q_leq rfl rfl) rfl ?_
       refine WPL.q (q_mv (v := .lit (.bool _)) rfl) rfl ?_
       refine WPL.split (t := 88) (b := (decide (x4864 ≤ 64))) rfl (fun hb4996 => ?_) (fun hb4996 => ?_)
       · replace H := cnt hb4996 H
         refine WPL.qg rfl rfl (lb hb4996) (q_mv (v := .lit (.string _)) rfl) rfl ?_
         obtain ⟨x4999, h4997, H⟩ := bnd H
         refine WPL.cg rfl rfl (lb hb4996) (runs_call (s := []) (t := []) (N := 0) (bor := []) fn50 rfl (s_strings_HasPrefix k (ByteArray.mk #[9, 9, 9, 9, 9, 9, 9, 9, 9, 9, 9, 9, 9, 9, 9, 9, 9, 9, 9, 9, 9, 9, 9, 9, 9, 9, 9, 9, 9, 9, 9, 9, 9, 9, 9, 9, 9, 9, 9, 9, 9, 9, 9, 9, 9, 9, 9, 9, 9, 9, 9, 9, 9, 9, 9, 9, 9, 9, 9, 9, 9, 9, 9, 9]) x4644 x4999 h4997) ⟨rfl, trivial, by decide, rfl, trivial⟩ rfl trivial (.ren rfl rfl (.ren rfl rfl .nil)) rfl trivial rfl) rfl ?_
         refine WPL.q (q_pickT (v := .lit (.bool _)) (lb hb4996) rfl) rfl ?_
         refine WPL.q (q_as (v := .lit (.bool _)) rfl) rfl ?_
         refine WPL.nilW ?_
         have q0 := (Option.some.inj H)
         subst q0
         exact W.wk [] hnp ⟨rfl, rfl, rfl⟩ ⟨rfl, trivial, by decide, rfl, trivial⟩ (LeE.upd rfl rfl (LeE.upd rfl rfl (LeE.upd rfl rfl (LeE.none rfl rfl)))) rfl
       replace H := cnf hb4996 H
       refine WPL.skipg (b' := false) rfl rfl (lb hb4996) rfl rfl ?_
       refine WPL.skipg (b' := false) rfl rfl (lb hb4996) rfl rfl ?_
       refine WPL.q (q_pickF (v := .lit (.bool _)) (lb hb4996) rfl) rfl ?_
       refine WPL.q (q_as (v := .lit (.bool _)) rfl) rfl ?_
       refine WPL.nilW ?_
       have q0 := (Option.some.inj H)
       subst q0
       exact W.wk [] hnp ⟨rfl, rfl, rfl⟩ ⟨rfl, trivial, by decide, rfl, trivial⟩ (LeE.upd rfl rfl (LeE.upd rfl rfl (LeE.upd rfl rfl (LeE.none rfl rfl)))) rfl
     rintro _ _ _ ⟨rfl, rfl, rfl⟩
     refine W.now ?_
     refine Then.n ?_
     refine WP.cond (t := x4996) rfl (fun hb5000 => ?_) (fun hb5000 => ?_)
     · replace H := cnt hb5000 H
       refine WP.seq ?_
       refine WP.region ?_
       refine WPL.q (q_mv (v := .lit (.int _ _)) rfl) rfl ?_
       obtain ⟨h5001, H⟩ := grd H
       obtain ⟨x5003, h5003, H⟩ := bnd H
       refine WPL.q (q_nm (q_slice_str (i := 0) (j := x4864) Tryd.underlying9 rfl rfl ⟨_, rfl⟩ h5001) (nm_str h5003)) rfl ?_
       refine WPL.q (q_as (v := .lit (.string _)) rfl) rfl ?_
       refine WPL.nilW ?_
       refine W.now ?_
       refine Then.n ?_
       refine WP.retW ?_
       have q0 := Option.some.inj H
       subst q0
       exact W.wk [] hnp (InBlock.r (InBlock.r ⟨rfl, rfl, rfl⟩)) ⟨rfl, trivial, by decide, rfl, trivial⟩ (LeE.upd rfl rfl (LeE.none rfl rfl)) rfl
     replace H := cnf hb5000 H
     refine WP.skipW ?_
     have q0 := Option.some.inj H
     subst q0
     exact W.wk [] hnp (InBlock.n (InBlock.n ⟨rfl, rfl, rfl⟩)) ⟨rfl, trivial, by decide, rfl, trivial⟩ (LeE.upd rfl rfl (LeE.upd rfl rfl (LeE.none rfl rfl))) rfl
   replace H := cnf hb4947 H
   refine WP.skipW ?_
   have q0 := Option.some.inj H
   subst q0
   exact W.wk [] hnp (InBlock.n ⟨rfl, rfl, rfl⟩) ⟨rfl, trivial, by decide, rfl, trivial⟩ (LeE.upd rfl rfl (LeE.upd rfl rfl (LeE.none rfl rfl))) rfl
 rcases y5005 with x4936 | _
 · rintro _ _ _ ⟨rfl, rfl, rfl⟩
   have q0 := (Option.some.inj H)
   subst q0
   exact W.now (Then.r (BodyR.mkR trivial rfl [] ⟨rfl, rfl⟩ ⟨rfl, trivial, by decide, rfl, trivial⟩ rfl rfl))
 rintro _ _ _ ⟨rfl, rfl, rfl⟩
 refine W.now ?_
 refine Then.n ?_
 refine WP.seq ?_
 refine WP.region ?_
 refine WPL.q (q_mv (v := .lit (.int _ _)) rfl) rfl ?_
 refine WPL.q (q_as (v := .lit (.int _ _)) rfl) rfl ?_
 refine WPL.nilW ?_
 refine W.now ?_
 refine Then.n ?_
 refine WP.seq ?_
 obtain ⟨x5011, H5016, H⟩ := bnd H
 refine WP.monoW (Q := fun x E M => x = .normal ∧ E = (((Env.none.upd 0 (.lit (.string x4644))).upd 7 (.lit (.int .i64 x4864))).upd 8 (.lit (.int .i64 x5011))) ∧ M = Mem.nil) ?_ ?_
 · clear H
   have H := H5016
   clear H5016
   refine WP.seq ?_
   refine WP.region ?_
   refine WPL.q (q_mv (v := .lit (.int _ _)) rfl) rfl ?_
   refine WPL.q (q_gtr rfl rfl) rfl ?_
   refine WPL.nilW ?_
   refine W.now ?_
   refine Then.n ?_
   refine WP.cond (t := (decide (8192 < x4864))) rfl (fun hb5011 => ?_) (fun hb5011 => ?_)
   · replace H := cnt hb5011 H
     refine WP.seq ?_
     refine WP.region ?_
     refine WPL.q (q_mv (v := .lit (.string _)) rfl) rfl ?_
     refine WPL.q (q_len_str Tryd.underlying9 rfl) rfl ?_
     obtain ⟨h5012, H⟩ := grd H
     obtain ⟨x5014, h5014, H⟩ := bnd H
     refine WPL.q (q_nm (q_quo rfl rfl (bnot h5012)) (nm_int h5014)) rfl ?_
     refine WPL.q (q_mv (v := .lit (.string _)) rfl) rfl ?_
     refine WPL.q (q_len_str Tryd.underlying9 rfl) rfl ?_
     obtain ⟨x5015, h5015, H⟩ := bnd H
     refine WPL.q (q_nm (q_mul rfl rfl) (nm_int h5015)) rfl ?_
     refine WPL.q (q_as (v := .lit (.int _ _)) rfl) rfl ?_
     refine WPL.nilW ?_
     refine W.now ?_
     refine Then.n ?_
     refine WP.seq ?_
     refine WP.region ?_
     refine WPL.q (q_mv (v := .lit (.int _ _)) rfl) rfl ?_
     refine WPL.q (q_eql rfl rfl) rfl ?_
     refine WPL.nilW ?_
     refine W.now ?_
     refine Then.n ?_
     refine WP.cond (t := (decide (x5015 = 0))) rfl (fun hb5015 => ?_) (fun hb5015 => ?_)
     · replace H := cnt hb5015 H
       refine WP.region ?_
       refine WPL.q (q_mv (v := .lit (.string _)) rfl) rfl ?_
       refine WPL.q (q_len_str Tryd.underlying9 rfl) rfl ?_
       refine WPL.q (q_as (v := .lit (.int _ _)) rfl) rfl ?_
       refine WPL.nilW ?_
       have q0 := (Option.some.inj H)
       subst q0
       exact W.wk [] hnp ⟨rfl, rfl, rfl⟩ ⟨rfl, trivial, by decide, rfl, trivial⟩ (LeE.upd rfl rfl (LeE.upd rfl rfl (LeE.upd rfl rfl (LeE.none rfl rfl)))) rfl
     replace H := cnf hb5015 H
     refine WP.skipW ?_
     have q0 := (Option.some.inj H)
     subst q0
     exact W.wk [] hnp ⟨rfl, rfl, rfl⟩ ⟨rfl, trivial, by decide, rfl, trivial⟩ (LeE.upd rfl rfl (LeE.upd rfl rfl (LeE.upd rfl rfl (LeE.none rfl rfl)))) rfl
   replace H := cnf hb5011 H
   refine WP.skipW ?_
   have q0 := (Option.some.inj H)
   subst q0
   exact W.wk [] hnp ⟨rfl, rfl, rfl⟩ ⟨rfl, trivial, by decide, rfl, trivial⟩ (LeE.upd rfl rfl (LeE.upd rfl rfl (LeE.upd rfl rfl (LeE.none rfl rfl)))) rfl
 rintro _ _ _ ⟨rfl, rfl, rfl⟩
 refine W.now ?_
 refine Then.n ?_
 refine WP.seq ?_
 refine WP.region ?_
 refine WPL.d (d_alloc ze94 rfl) rfl ?_
 refine WPL.nilW ?_
 refine W.now ?_
 refine Then.n ?_
 refine WP.seq ?_
 refine WP.region ?_
 refine WPL.q (q_mv (v := .lit (.int _ _)) rfl) rfl ?_
 exact nf rfl H
set_option maxRecDepth 100000 in
set_option maxHeartbeats 4000000 in
theorem s_dec_Print (k : Nat) (x4453 : Int) (x4454 : Int) (x5082 : ByteArray) (H : g_dec_Print k x4453 x4454 = some x5082) : Go.Q.Spec Tryd.prog 7 0 [.agg [.lit (.int .i64 x4453), .lit (.int .i64 x4454)]] Mem.nil (fun o M => o = .ret (.lit (.string x5082)) ∧ M = Mem.nil) := by
 unfold g_dec_Print at H
 refine Go.Q.Spec.of_bodyR (az := []) (rs := [.tmp 2]) (nt := 72) Tryd.func7 rfl rfl (by intro t T h; simp at h) rfl rfl fun cx hnp => ?_
 refine WP.seq ?_
 refine WP.region ?_
 refine WPL.d (d_box rfl rfl) rfl ?_
 refine WPL.q (q_as (v := .lit (.string _)) rfl) rfl ?_
 refine WPL.nilW ?_
 refine W.now ?_
 refine Then.n ?_
 refine WP.seq ?_
 refine WP.seq ?_
 refine WP.region ?_
 refine WPL.d (d_buildCells li85 rfl rfl rfl rfl rfl) rfl ?_
 obtain ⟨⟨x5089, x5090, x5091⟩, h5087, H⟩ := bnd H
 refine WPL.c (runs_call (s := [1, 0]) (t := [1, 0]) (N := 2) (bor := []) fn22 rfl (s_dec_clean__b k x4453 x4454 x5089 x5090 x5091 h5087) ⟨rfl, ⟨⟨trivial, .inr ⟨rfl, rfl, rfl⟩⟩, .inr ⟨rfl, rfl, rfl⟩⟩, by decide, rfl, trivial⟩ rfl trivial (.ren rfl rfl .nil) rfl ⟨⟨trivial, rfl⟩, rfl⟩ rfl) rfl ?_
 refine WPL.q (q_not rfl) rfl ?_
 refine WPL.nilW ?_
 refine W.now ?_
 refine Then.n ?_
 refine WP.cond (t := (!x5089)) rfl (fun hb5091 => ?_) (fun hb5091 => ?_)
 · replace H := cnt hb5091 H
   refine WP.seq ?_
   refine WP.region ?_
   refine WPL.q (q_as (v := .lit (.string _)) rfl) rfl ?_
   refine WPL.nilW ?_
   refine W.now ?_
   refine Then.n ?_
   refine WP.retW ?_
   have q0 := (Option.some.inj H)
   subst q0
   exact W.now (Then.r (BodyR.mkR trivial rfl [] ⟨rfl, rfl⟩ ⟨rfl, trivial, by decide, rfl, trivial⟩ rfl rfl))
 replace H := cnf hb5091 H
 refine WP.skipW ?_
 refine W.now ?_
 refine Then.n ?_
 refine WP.seq ?_
 refine WP.region ?_
 refine WPL.q (q_as (v := .lit (.string _)) rfl) rfl ?_
 refine WPL.nilW ?_
 refine W.now ?_
 refine Then.n ?_
 refine WP.seq ?_
 refine WP.seq ?_
 refine WP.region ?_
 refine WPL.q (q_fieldAddr fi23_0 rfl rfl) rfl ?_
 refine WPL.q (q_load sc2 rfl rfl rfl) rfl ?_
 obtain ⟨x5094, h5092, H⟩ := bnd H
 refine WPL.c (runs_call (s := []) (t := []) (N := 2) (bor := []) fn23 rfl (s_dec_size k x5090 x5094 h5092) ⟨rfl, trivial, by decide, rfl, trivial⟩ rfl trivial (.ren rfl rfl .nil) rfl trivial rfl) rfl ?_
 refine WPL.q (q_as (v := .lit (.int _ _)) rfl) rfl ?_
 refine WPL.nilW ?_
 refine W.now ?_
 refine Then.n ?_
 refine WP.block ?_
 refine WP.cv (Cv.weak (E' := (((Env.none.upd 1 (.ptr 0 0)).upd 3 (.lit (.string (ByteArray.mk #[])))).upd 4 (.lit (.int .u64 x5094)))) (M' := (Mem.nil.push (.cells 23 [.lit (.int .i64 x5090), .lit (.int .i64 x5091)]))) [0] hnp ⟨rfl, ⟨trivial, .inr ⟨rfl, rfl, rfl⟩⟩, by decide, rfl, trivial⟩ (LeE.upd rfl rfl (LeE.upd rfl rfl (LeE.upd rfl rfl (LeE.none rfl rfl))))) ?_
 obtain ⟨x5106, H5110, H⟩ := bnd H
 refine WP.monoW (Q := fun x E M => x = .exit 0 ∧ E = ((Env.none.upd 1 (.ptr 0 0)).upd 3 (.lit (.string x5106))) ∧ M = (Mem.nil.push (.cells 23 [.lit (.int .i64 x5090), .lit (.int .i64 x5091)]))) ?_ ?_
 · refine WP.loop (β := ByteArray × Int) (fun n b => g_dec_Print_l0 k n b.1 b.2 = some x5106) (fun b => (((Env.none.upd 1 (.ptr 0 0)).upd 3 (.lit (.string b.1))).upd 4 (.lit (.int .u64 b.2)))) (fun b => (Mem.nil.push (.cells 23 [.lit (.int .i64 x5090), .lit (.int .i64 x5091)]))) k ((ByteArray.mk #[]), x5094) H5110 rfl rfl ?_
   rintro n ⟨x5100, x5101⟩ H
   obtain _ | n := n
   · exact nf rfl H
   rw [g_dec_Print_l0.eq_2] at H
   show WP _ _ _ _ (((Env.none.upd 1 (.ptr 0 0)).upd 3 (.lit (.string x5100))).upd 4 (.lit (.int .u64 x5101))) (Mem.nil.push (.cells 23 [.lit (.int .i64 x5090), .lit (.int .i64 x5091)])) _
   refine WP.seq ?_
   refine WP.seq ?_
   refine WP.region ?_
   refine WPL.q (q_mv (v := .lit (.int _ _)) rfl) rfl ?_
   refine WPL.q (q_gtr rfl rfl) rfl ?_
   refine WPL.nilW ?_
   refine W.now ?_
   refine Then.n ?_
   refine WP.cond (t := (decide (0 < x5101))) rfl (fun hb5107 => ?_) (fun hb5107 => ?_)
   · replace H := cnt hb5107 H
     refine WP.skipW ?_
     refine W.now ?_
     refine Then.n ?_
     refine WP.seq ?_
     refine WP.block ?_
     refine WP.region ?_
     refine WPL.q (q_mv (v := .lit (.int _ _)) rfl) rfl ?_
     refine WPL.q (q_rem rfl rfl rfl) rfl ?_
     obtain ⟨x5109, h5109, H⟩ := bnd H
     refine WPL.q (q_nm (q_add rfl rfl) (nm_int h5109)) rfl ?_
     refine WPL.q (q_conv Tryd.underlying41 Tryd.underlying5 rfl) rfl ?_
     refine WPL.d (d_buildSlice (ds := ([(IntKind.wrap .u8 x5109)] : List Int)) (R := (Rd.int .u8)) li61 rfl rfl rfl rfl rfl (JoinRows.cons1 Joins.sc rfl JoinRows.nil) rfl rfl) rfl ?_
     refine WPL.q (q_bytes_str_row Tryd.underlying61 Tryd.underlying5 Tryd.underlying9 rfl rfl) rfl ?_
     refine WPL.q (q_mv (v := .lit (.string _)) rfl) rfl ?_
     obtain ⟨h5109, H⟩ := grd H
     refine WPL.q (q_concat rfl rfl h5109) rfl ?_
     refine WPL.q (q_as (v := .lit (.string _)) rfl) rfl ?_
     refine WPL.nilW ?_
     refine W.now ?_
     refine InBlock.n ?_
     refine Then.n ?_
     refine WP.region ?_
     refine WPL.q (q_mv (v := .lit (.int _ _)) rfl) rfl ?_
     refine WPL.q (q_quo rfl rfl rfl) rfl ?_
     refine WPL.q (q_as (v := .lit (.int _ _)) rfl) rfl ?_
     refine WPL.nilW ?_
     exact W.wk [0] hnp (Then.n ⟨n, (((strOf ([(IntKind.wrap .u8 x5109)] : List Int)) ++ x5100), (IntKind.wrap .u64 (Int.tdiv x5101 10))), Nat.lt_succ_self n, H, rfl, rfl⟩) ⟨rfl, ⟨trivial, .inr ⟨rfl, rfl, rfl⟩⟩, by decide, rfl, trivial⟩ (LeE.upd rfl rfl (LeE.upd rfl rfl (LeE.upd rfl rfl (LeE.none rfl rfl)))) rfl
   replace H := cnf hb5107 H
   refine WP.exitW ?_
   have q0 := (Option.some.inj H)
   subst q0
   exact W.wk [0] hnp (Then.x (Then.x ⟨rfl, rfl, rfl⟩)) ⟨rfl, ⟨trivial, .inr ⟨rfl, rfl, rfl⟩⟩, by decide, rfl, trivial⟩ (LeE.upd rfl rfl (LeE.upd rfl rfl (LeE.none rfl rfl))) rfl
 rintro _ _ _ ⟨rfl, rfl, rfl⟩
 refine W.now ?_
 refine InBlock.x0 ?_
 refine Then.n ?_
 refine WP.seq ?_
 obtain ⟨x5141, H5170, H⟩ := bnd H
 refine WP.monoW (Q := fun x E M => x = .normal ∧ E = ((Env.none.upd 1 (.ptr 0 0)).upd 3 (.lit (.string x5141))) ∧ M = (Mem.nil.push (.cells 23 [.lit (.int .i64 x5090), .lit (.int .i64 x5091)]))) ?_ ?_
 · clear H
   have H := H5170
   clear H5170
   refine WP.block ?_
   refine WP.seq ?_
   refine WP.region ?_
   refine WPL.q (q_fieldAddr fi23_0 rfl rfl) rfl ?_
   refine WPL.q (q_load sc2 rfl rfl rfl) rfl ?_
   refine WPL.q (q_eql rfl rfl) rfl ?_
   refine WPL.q (q_as (v := .lit (.bool _)) rfl) rfl ?_
   refine WPL.nilW ?_
   refine W.now ?_
   refine Then.n ?_
   refine WP.cond (t := (decide (x5090 = 0))) rfl (fun hb5141 => ?_) (fun hb5141 => ?_)
   · replace H := cnt hb5141 H
     refine WP.region ?_
     refine WPL.q (q_as (v := .lit (.string _)) rfl) rfl ?_
     refine WPL.nilW ?_
     have q0 := (Option.some.inj H)
     subst q0
     exact W.wk [0] hnp (InBlock.n ⟨rfl, rfl, rfl⟩) ⟨rfl, ⟨trivial, .inr ⟨rfl, rfl, rfl⟩⟩, by decide, rfl, trivial⟩ (LeE.upd rfl rfl (LeE.upd rfl rfl (LeE.none rfl rfl))) rfl
   replace H := cnf hb5141 H
   refine WP.seq ?_
   refine WP.region ?_
   refine WPL.q (q_fieldAddr fi23_1 rfl rfl) rfl ?_
   refine WPL.q (q_load sc3 rfl rfl rfl) rfl ?_
   refine WPL.q (q_gtr rfl rfl) rfl ?_
   refine WPL.q (q_as (v := .lit (.bool _)) rfl) rfl ?_
   refine WPL.nilW ?_
   refine W.now ?_
   refine Then.n ?_
   refine WP.cond (t := (decide (0 < x5091))) rfl (fun hb5142 => ?_) (fun hb5142 => ?_)
   · replace H := cnt hb5142 H
     refine WP.region ?_
     refine WPL.q (q_mv (v := .lit (.string _)) rfl) rfl ?_
     refine WPL.q (q_fieldAddr fi23_1 rfl rfl) rfl ?_
     refine WPL.q (q_load sc3 rfl rfl rfl) rfl ?_
     obtain ⟨x5145, h5143, H⟩ := bnd H
     refine WPL.c (runs_call (s := []) (t := []) (N := 1) (bor := []) fn24 rfl (s_strings_Repeat k (ByteArray.mk #[48]) x5091 x5145 h5143) ⟨rfl, trivial, by decide, rfl, trivial⟩ rfl trivial (.ren rfl rfl (.ren rfl rfl .nil)) rfl trivial rfl) rfl ?_
     obtain ⟨h5145, H⟩ := grd H
     refine WPL.q (q_concat rfl rfl h5145) rfl ?_
     refine WPL.q (q_as (v := .lit (.string _)) rfl) rfl ?_
     refine WPL.nilW ?_
     have q0 := (Option.some.inj H)
     subst q0
     exact W.wk [0] hnp (InBlock.n ⟨rfl, rfl, rfl⟩) ⟨rfl, ⟨trivial, .inr ⟨rfl, rfl, rfl⟩⟩, by decide, rfl, trivial⟩ (LeE.upd rfl rfl (LeE.upd rfl rfl (LeE.none rfl rfl))) rfl
   replace H := cnf hb5142 H
   refine WP.seq ?_
   refine WP.region ?_
   refine WPL.q (q_fieldAddr fi23_1 rfl rfl) rfl ?_
   refine WPL.q (q_load sc3 rfl rfl rfl) rfl ?_
   refine WPL.q (q_lss rfl rfl) rfl ?_
   refine WPL.q (q_as (v := .lit (.bool _)) rfl) rfl ?_
   refine WPL.nilW ?_
   refine W.now ?_
   refine Then.n ?_
   refine WP.cond (t := (decide (x5091 < 0))) rfl (fun hb5146 => ?_) (fun hb5146 => ?_)
   · replace H := cnt hb5146 H
     refine WP.seq ?_
     refine WP.region ?_
     refine WPL.q (q_fieldAddr fi23_1 rfl rfl) rfl ?_
     refine WPL.q (q_load sc3 rfl rfl rfl) rfl ?_
     refine WPL.q (q_sub rfl rfl) rfl ?_
     refine WPL.q (q_mv (v := .lit (.string _)) rfl) rfl ?_
     refine WPL.q (q_len_str Tryd.underlying9 rfl) rfl ?_
     obtain ⟨x5148, h5148, H⟩ := bnd H
     refine WPL.q (q_nm (q_sub rfl rfl) (nm_int h5148)) rfl ?_
     obtain ⟨x5149, h5149, H⟩ := bnd H
     refine WPL.q (q_nm (q_max rfl rfl) (nm_int h5149)) rfl ?_
     obtain ⟨x5151, h5149, H⟩ := bnd H
     refine WPL.c (runs_call (s := []) (t := []) (N := 1) (bor := []) fn24 rfl (s_strings_Repeat k (ByteArray.mk #[48]) x5149 x5151 h5149) ⟨rfl, trivial, by decide, rfl, trivial⟩ rfl trivial (.ren rfl rfl (.ren rfl rfl .nil)) rfl trivial rfl) rfl ?_
     refine WPL.q (q_mv (v := .lit (.string _)) rfl) rfl ?_
     obtain ⟨h5151, H⟩ := grd H
     refine WPL.q (q_concat rfl rfl h5151) rfl ?_
     refine WPL.q (q_as (v := .lit (.string _)) rfl) rfl ?_
     refine WPL.nilW ?_
     refine W.now ?_
     refine Then.n ?_
     refine WP.regionD' 17 [0] [] mixed rfl ?_
     refine WPD.takeT 0 rfl (by kernel_rfl) (q_mv (v := .lit (.string _)) rfl) rfl ?_
     refine WPD.takeT 1 rfl (by kernel_rfl) (q_mv (v := .lit (.string _)) rfl) rfl ?_
     obtain ⟨x5163, h5163, H⟩ := bnd H
     refine WPD.takeT 2 rfl (by kernel_rfl) (q_nm (q_len_str Tryd.underlying9 rfl) (nm_int h5163)) rfl ?_
     refine WPD.takeT 3 rfl (by kernel_rfl) (q_fieldAddr fi23_1 rfl rfl) rfl ?_
     refine WPD.takeT 8 rfl (by kernel_rfl) (q_mv (v := .lit (.string _)) rfl) rfl ?_
     refine WPD.takeT 9 rfl (by kernel_rfl) (q_mv (v := .lit (.string _)) rfl) rfl ?_
     obtain ⟨x5164, h5164, H⟩ := bnd H
     refine WPD.takeT 10 rfl (by kernel_rfl) (q_nm (q_len_str Tryd.underlying9 rfl) (nm_int h5164)) rfl ?_
     refine WPD.takeT 11 rfl (by kernel_rfl) (q_fieldAddr fi23_1 rfl rfl) rfl ?_
     refine WPD.take 4 rfl (by kernel_rfl) (q_load sc3 rfl rfl rfl) rfl rfl ?_
     refine WPD.takeT 5 rfl (by kernel_rfl) (q_add rfl rfl) rfl ?_
     obtain ⟨h5164, H⟩ := grd H
     obtain ⟨x5166, h5166, H⟩ := bnd H
     refine WPD.takeT 6 rfl (by kernel_rfl) (q_nm (q_slice_str (i := 0) (j := (IntKind.wrap .i64 (x5163 + x5091))) Tryd.underlying9 rfl rfl ⟨_, rfl⟩ h5164) (nm_str h5166)) rfl ?_
     obtain ⟨h5166, H⟩ := grd H
     refine WPD.takeT 7 rfl (by kernel_rfl) (q_concat rfl rfl h5166) rfl ?_
     refine WPD.take 12 rfl (by kernel_rfl) (q_load sc3 rfl rfl rfl) rfl rfl ?_
     refine WPD.takeT 13 rfl (by kernel_rfl) (q_add rfl rfl) rfl ?_
     obtain ⟨h5167, H⟩ := grd H
     obtain ⟨x5169, h5169, H⟩ := bnd H
     refine WPD.takeT 14 rfl (by kernel_rfl) (q_nm (q_slice_str (i := (IntKind.wrap .i64 (x5164 + x5091))) (j := ((ByteArray.size (x5151 ++ x5106) : Nat) : Int)) Tryd.underlying9 rfl ⟨_, rfl⟩ rfl h5167) (nm_str h5169)) rfl ?_
     obtain ⟨h5169, H⟩ := grd H
     refine WPD.takeT 15 rfl (by kernel_rfl) (q_concat rfl rfl h5169) rfl ?_
     refine WPD.takeT 16 rfl (by kernel_rfl) (q_as (v := .lit (.string _)) rfl) rfl ?_
     refine WPD.doneW (by kernel_rfl) ?_
     have q0 := (Option.some.inj H)
     subst q0
     exact W.wk [0] hnp (InBlock.n ⟨rfl, rfl, rfl⟩) ⟨rfl, ⟨trivial, .inr ⟨rfl, rfl, rfl⟩⟩, by decide, rfl, trivial⟩ (LeE.upd rfl rfl (LeE.upd rfl rfl (LeE.none rfl rfl))) rfl
   replace H := cnf hb5146 H
   refine WP.skipW ?_
   have q0 := (Option.some.inj H)
   subst q0
   exact W.wk [0] hnp (InBlock.n ⟨rfl, rfl, rfl⟩) ⟨rfl, ⟨trivial, .inr ⟨rfl, rfl, rfl⟩⟩, by decide, rfl, trivial⟩ (LeE.upd rfl rfl (LeE.upd rfl rfl (LeE.none rfl rfl))) rfl
 rintro _ _ _ ⟨rfl, rfl, rfl⟩
 refine W.now ?_
 refine Then.n ?_
 refine WP.seq ?_
 obtain ⟨x5174, H5176, H⟩ := bnd H
 refine WP.monoW (Q := fun x E M => x = .normal ∧ E = (Env.none.upd 3 (.lit (.string x5174))) ∧ M = Mem.nil) ?_ ?_
 · clear H
   have H := H5176
   clear H5176
   refine WP.seq ?_
   refine WP.region ?_
   refine WPL.q (q_fieldAddr fi23_0 rfl rfl) rfl ?_
   refine WPL.q (q_load sc2 rfl rfl rfl) rfl ?_
   refine WPL.q (q_lss rfl rfl) rfl ?_
   refine WPL.nilW ?_
   refine W.now ?_
   refine Then.n ?_
   refine WP.cond (t := (decide (x5090 < 0))) rfl (fun hb5174 => ?_) (fun hb5174 => ?_)
   · replace H := cnt hb5174 H
     refine WP.region ?_
     refine WPL.q (q_mv (v := .lit (.string _)) rfl) rfl ?_
     obtain ⟨h5175, H⟩ := grd H
     refine WPL.q (q_concat rfl rfl h5175) rfl ?_
     refine WPL.q (q_as (v := .lit (.string _)) rfl) rfl ?_
     refine WPL.nilW ?_
     have q0 := (Option.some.inj H)
     subst q0
     exact W.wk [] hnp ⟨rfl, rfl, rfl⟩ ⟨rfl, trivial, by decide, rfl, trivial⟩ (LeE.upd rfl rfl (LeE.none rfl rfl)) rfl
   replace H := cnf hb5174 H
   refine WP.skipW ?_
   have q0 := (Option.some.inj H)
   subst q0
   exact W.wk [] hnp ⟨rfl, rfl, rfl⟩ ⟨rfl, trivial, by decide, rfl, trivial⟩ (LeE.upd rfl rfl (LeE.none rfl rfl)) rfl
 rintro _ _ _ ⟨rfl, rfl, rfl⟩
 refine W.now ?_
 refine Then.n ?_
 refine WP.seq ?_
 refine WP.region ?_
 refine WPL.q (q_mv (v := .lit (.string _)) rfl) rfl ?_
 refine WPL.q (q_as (v := .lit (.string _)) rfl) rfl ?_
 refine WPL.nilW ?_
 refine W.now ?_
 refine Then.n ?_
 refine WP.retW ?_
 have q0 := (Option.some.inj H)
 subst q0
 exact W.now (BodyR.mkR trivial rfl [] ⟨rfl, rfl⟩ ⟨rfl, trivial, by decide, rfl, trivial⟩ rfl rfl)
end Go.Proofs.YtdbeblgfccjbgaaDoor.W
namespace Go.Proofs.YtdbeblgfccjbgaaDoor.W
open Go Go.Q Go.Proofs
set_option linter.unusedVariables false
set_option linter.unusedSimpArgs false
set_option maxRecDepth 100000 in
set_option maxHeartbeats 4000000 in
theorem s_dec_Make (k : Nat) (x5556 : Int) (x5557 : Int) (x5579 : Int) (x5580 : Int) (x5581 : Int) (H : g_dec_Make k x5556 x5557 = some (x5579, x5580, x5581)) : Go.Q.Spec Tryd.prog 10 0 [.lit (.int .i64 x5556), .lit (.int .i64 x5557)] Mem.nil (fun o M => o = .ret (.tup [.agg [.lit (.int .i64 x5580), .lit (.int .i64 x5581)], .lit (.int .i64 x5579)]) ∧ M = (Mem.nil.push (.cells 23 [.lit (.int .i64 x5580), .lit (.int .i64 x5581)]))) := by
 unfold g_dec_Make at H
 refine Go.Q.Spec.of_bodyR (az := [(23, 2)]) (rs := [.cell 4 23, .tmp 5]) (nt := 27) Tryd.func10 rfl rfl (by intro t T h; simp at h; rcases h with ⟨rfl, rfl⟩ <;> first | exact ag23) rfl rfl fun cx hnp => ?_
 refine WP.seq ?_
 refine WP.region ?_
 refine WPL.d (d_alloc ze23 rfl) rfl ?_
 refine WPL.q (q_as (v := .lit (.int _ _)) rfl) rfl ?_
 refine WPL.nilW ?_
 refine W.now ?_
 refine Then.n ?_
 refine WP.seq ?_
 refine WP.seq ?_
 obtain ⟨x5591, H5593, H⟩ := bnd H
 refine WP.monoW (Q := fun x E M => x = .normal ∧ E = ((((Env.none.upd 0 (.lit (.int .i64 x5556))).upd 1 (.lit (.int .i64 x5557))).upd 4 (.ptr 0 0)).upd 15 (.lit (.bool x5591))) ∧ M = (Mem.nil.push (.cells 23 [.lit (.int .i64 0), .lit (.int .i64 0)]))) ?_ ?_
 · clear H
   have H := H5593
   clear H5593
   refine WP.region ?_
   refine WPL.q (q_mv (v := .lit (.int _ _)) rfl) rfl ?_
   refine WPL.q (q_neq rfl rfl) rfl ?_
   refine WPL.q (q_mv (v := .lit (.bool _)) rfl) rfl ?_
   refine WPL.split (t := 8) (b := (!decide (x5556 = 0))) rfl (fun hb5591 => ?_) (fun hb5591 => ?_)
   · replace H := cnt hb5591 H
     refine WPL.qg rfl rfl (lb hb5591) (q_mv (v := .lit (.int _ _)) rfl) rfl ?_
     refine WPL.qg rfl rfl (lb hb5591) (q_lss rfl rfl) rfl ?_
     refine WPL.qg rfl rfl (lb hb5591) (q_mv (v := .lit (.bool _)) rfl) rfl ?_
     refine WPL.split (t := 11) (b := (decide (x5557 < (-100)))) rfl (fun hb5592 => ?_) (fun hb5592 => ?_)
     · replace H := cnt hb5592 H
       refine WPL.skipg (b' := true) rfl rfl (lb hb5592) rfl rfl ?_
       refine WPL.skipg (b' := true) rfl rfl (lb hb5592) rfl rfl ?_
       refine WPL.qg rfl rfl (lb hb5591) (q_pickT (v := .lit (.bool _)) (lb hb5592) rfl) rfl ?_
       refine WPL.q (q_pickT (v := .lit (.bool _)) (lb hb5591) rfl) rfl ?_
       refine WPL.nilW ?_
       have q0 := (Option.some.inj H)
       subst q0
       exact W.wk [0] hnp ⟨rfl, rfl, rfl⟩ ⟨rfl, ⟨trivial, .inr ⟨rfl, rfl, rfl⟩⟩, by decide, rfl, trivial⟩ (LeE.upd rfl rfl (LeE.upd rfl rfl (LeE.upd rfl rfl (LeE.upd rfl rfl (LeE.none rfl rfl))))) rfl
     replace H := cnf hb5592 H
     refine WPL.qg rfl rfl (lb hb5592) (q_mv (v := .lit (.int _ _)) rfl) rfl ?_
     refine WPL.qg rfl rfl (lb hb5592) (q_gtr rfl rfl) rfl ?_
     refine WPL.qg rfl rfl (lb hb5591) (q_pickF (v := .lit (.bool _)) (lb hb5592) rfl) rfl ?_
     refine WPL.q (q_pickT (v := .lit (.bool _)) (lb hb5591) rfl) rfl ?_
     refine WPL.nilW ?_
     have q0 := (Option.some.inj H)
     subst q0
     exact W.wk [0] hnp ⟨rfl, rfl, rfl⟩ ⟨rfl, ⟨trivial, .inr ⟨rfl, rfl, rfl⟩⟩, by decide, rfl, trivial⟩ (LeE.upd rfl rfl (LeE.upd rfl rfl (LeE.upd rfl rfl (LeE.upd rfl rfl (LeE.none rfl rfl))))) rfl
   replace H := cnf hb5591 H
   refine WPL.skipg (b' := false) rfl rfl (lb hb5591) rfl rfl ?_
   refine WPL.skipg (b' := false) rfl rfl (lb hb5591) rfl rfl ?_
   refine WPL.skipg (b' := false) rfl rfl (lb hb5591) rfl rfl ?_
   refine WPL.skipu rfl rfl rfl rfl ?_
   refine WPL.skipu rfl rfl rfl rfl ?_
   refine WPL.skipg (b' := false) rfl rfl (lb hb5591) rfl rfl ?_
   refine WPL.q (q_pickF (v := .lit (.bool _)) (lb hb5591) rfl) rfl ?_
   refine WPL.nilW ?_
   have q0 := (Option.some.inj H)
   subst q0
   exact W.wk [0] hnp ⟨rfl, rfl, rfl⟩ ⟨rfl, ⟨trivial, .inr ⟨rfl, rfl, rfl⟩⟩, by decide, rfl, trivial⟩ (LeE.upd rfl rfl (LeE.upd rfl rfl (LeE.upd rfl rfl (LeE.upd rfl rfl (LeE.none rfl rfl))))) rfl
 rintro _ _ _ ⟨rfl, rfl, rfl⟩
 refine W.now ?_
 refine Then.n ?_
 refine WP.cond (t := x5591) rfl (fun hb5594 => ?_) (fun hb5594 => ?_)
 · replace H := cnt hb5594 H
   refine WP.seq ?_
   refine WP.region ?_
   refine WPL.q (q_build bu23 rfl) rfl ?_
   refine WPL.s (s_store sz23 rfl rfl rfl rfl rfl) ?_
   refine WPL.q (q_as (v := .lit (.int _ _)) rfl) rfl ?_
   refine WPL.nilW ?_
   refine W.now ?_
   refine Then.n ?_
   refine WP.retW ?_
   have q0 := (Prod.mk.inj (Option.some.inj H)).1
   have q1 := (Prod.mk.inj (Prod.mk.inj (Option.some.inj H)).2).1
   have q2 := (Prod.mk.inj (Prod.mk.inj (Option.some.inj H)).2).2
   subst q0
   subst q1
   subst q2
   exact W.now (Then.r (BodyR.mkR trivial rfl [0] ⟨rfl, rfl⟩ ⟨rfl, ⟨trivial, .inr ⟨rfl, rfl, rfl⟩⟩, by decide, rfl, trivial⟩ rfl rfl))
 replace H := cnf hb5594 H
 refine WP.skipW ?_
 refine W.now ?_
 refine Then.n ?_
 refine WP.seq ?_
 refine WP.region ?_
 refine WPL.q (q_mv (v := .lit (.int _ _)) rfl) rfl ?_
 refine WPL.q (q_lss rfl rfl) rfl ?_
 refine WPL.q (q_mv (v := .lit (.int _ _)) rfl) rfl ?_
 obtain ⟨x5597, h5595, H⟩ := bnd H
 refine WPL.c (runs_call (s := []) (t := []) (N := 1) (bor := []) fn23 rfl (s_dec_size k x5556 x5597 h5595) ⟨rfl, trivial, by decide, rfl, trivial⟩ rfl trivial (.ren rfl rfl .nil) rfl trivial rfl) rfl ?_
 refine WPL.q (q_build bu43 rfl) rfl ?_
 refine WPL.q (q_mv (v := .lit (.int _ _)) rfl) rfl ?_
 refine WPL.q (q_build bu48 rfl) rfl ?_
 obtain ⟨⟨x5599, x5600, x5601⟩, h5597, H⟩ := bnd H
 refine WPL.c (runs_call (s := []) (t := [1]) (N := 2) (bor := []) fn18 rfl (s_dec_num_tell k (decide (x5556 < 0)) 0 x5597 x5557 x5599 x5600 x5601 h5597) ⟨rfl, trivial, by decide, rfl, trivial⟩ rfl trivial (.ren rfl rfl .nil) rfl ⟨trivial, rfl⟩ rfl) rfl ?_
 refine WPL.q (q_extract rfl rfl) rfl ?_
 refine WPL.q (q_extract rfl rfl) rfl ?_
 refine WPL.s (s_store sz23 rfl rfl rfl rfl rfl) ?_
 refine WPL.q (q_as (v := .lit (.int _ _)) rfl) rfl ?_
 refine WPL.nilW ?_
 refine W.now ?_
 refine Then.n ?_
 refine WP.retW ?_
 have q0 := (Prod.mk.inj (Option.some.inj H)).1
 have q1 := (Prod.mk.inj (Prod.mk.inj (Option.some.inj H)).2).1
 have q2 := (Prod.mk.inj (Prod.mk.inj (Option.some.inj H)).2).2
 subst q0
 subst q1
 subst q2
 exact W.now (BodyR.mkR trivial rfl [0] ⟨rfl, rfl⟩ ⟨rfl, ⟨trivial, .inr ⟨rfl, rfl, rfl⟩⟩, by decide, rfl, trivial⟩ rfl rfl)
set_option maxRecDepth 100000 in
set_option maxHeartbeats 4000000 in
theorem s_dec_clean (k : Nat) (x5611 : Int) (x5612 : Int) (x5613 : Int) (x5614 : Int) (x5664 : Bool) (x5665 : Int) (x5666 : Int) (x5667 : Int) (x5668 : Int) (H : g_dec_clean k x5611 x5612 x5613 x5614 = some (x5664, x5665, x5666, x5667, x5668)) : Go.Q.Spec Tryd.prog 22 3 [.sl 0 1 0 2] (((Mem.nil.push (.cells 59 [.ptr 1 0, .ptr 2 0])).push (.cells 23 [.lit (.int .i64 x5611), .lit (.int .i64 x5612)])).push (.cells 23 [.lit (.int .i64 x5613), .lit (.int .i64 x5614)])) (fun o M => o = .ret (.lit (.bool x5664)) ∧ M = (((Mem.nil.push (.cells 59 [.ptr 1 0, .ptr 2 0])).push (.cells 23 [.lit (.int .i64 x5665), .lit (.int .i64 x5666)])).push (.cells 23 [.lit (.int .i64 x5667), .lit (.int .i64 x5668)]))) := by
 unfold g_dec_clean at H
 refine Go.Q.Spec.of_bodyR (az := []) (rs := [.tmp 2]) (nt := 28) Tryd.func22 rfl rfl (by intro t T h; simp at h) rfl rfl fun cx hnp => ?_
 refine WP.seq ?_
 refine WP.region ?_
 refine WPL.q (q_as (v := .lit (.bool _)) rfl) rfl ?_
 refine WPL.nilW ?_
 refine W.now ?_
 refine Then.n ?_
 refine WP.seq ?_
 refine WP.seq ?_
 refine WP.region ?_
 refine WPL.q (q_mv (v := .sl _ _ _ _) rfl) rfl ?_
 refine WPL.q (q_len_sl (k := 2) sl85 rfl rfl) rfl ?_
 refine WPL.q (q_mv (v := .lit (.int _ _)) rfl) rfl ?_
 refine WPL.nilW ?_
 refine W.now ?_
 refine Then.n ?_
 refine WP.block ?_
 refine WP.loopU ?_
 refine WPI.round ?_
 refine WP.seq ?_
 refine WP.region ?_
 refine WPL.q (q_lss rfl rfl) rfl ?_
 refine WPL.nilW ?_
 refine W.now ?_
 refine Then.n ?_
 refine WP.seq ?_
 refine WP.condT rfl ?_
 refine WP.skipW ?_
 refine W.now ?_
 refine Then.n ?_
 refine WP.seq ?_
 refine WP.block ?_
 refine WP.seq ?_
 refine WP.region ?_
 refine WPL.q (q_index_sl (o := 0) sl85 rfl rfl rfl rfl) rfl ?_
 refine WPL.q (q_load sc59 rfl rfl rfl) rfl ?_
 refine WPL.q (q_as (v := .ptr _ _) rfl) rfl ?_
 refine WPL.nilW ?_
 refine W.now ?_
 refine Then.n ?_
 refine WP.seq ?_
 refine WP.seq ?_
 refine WP.region ?_
 refine WPL.q (q_mv (v := .ptr _ _) rfl) rfl ?_
 refine WPL.q (q_nilCheck rfl) rfl ?_
 refine WPL.q (q_load_ag ag23 rfl rfl (Nat.le_of_ble_eq_true rfl)) rfl ?_
 refine WPL.d (d_buildSlice (ds := ([(⟨x5611, x5612⟩ : S_api_Dec)] : List S_api_Dec)) (R := rdS_api_Dec) li113 rfl rfl rfl rfl rfl (JoinRows.cons (l := [.lit (.int .i64 x5611), .lit (.int .i64 x5612)]) (Joins.via (Joins.cons Joins.sc (Joins.cons Joins.sc Joins.unit))) rfl JoinRows.nil) rfl rfl) rfl ?_
 obtain ⟨x5685, h5683, H⟩ := bnd H
 refine WPL.c (runs_call (s := []) (t := []) (N := 4) (bor := [3]) fn47 rfl (s_dec_ranged k ([(⟨x5611, x5612⟩ : S_api_Dec)] : List S_api_Dec) x5685 h5683) ⟨rfl, trivial, by decide, rfl, trivial⟩ rfl ⟨trivial, rfl, rfl, trivial⟩ (.row rfl rfl .nil) rfl trivial rfl) rfl ?_
 refine WPL.q (q_not rfl) rfl ?_
 refine WPL.nilW ?_
 refine W.now ?_
 refine Then.n ?_
 refine WP.cond (t := (!x5685)) rfl (fun hb5685 => ?_) (fun hb5685 => ?_)
 · replace H := cnt hb5685 H
   refine WP.seq ?_
   refine WP.region ?_
   refine WPL.q (q_as (v := .lit (.bool _)) rfl) rfl ?_
   refine WPL.nilW ?_
   refine W.now ?_
   refine Then.n ?_
   refine WP.retW ?_
   have q0 := (Prod.mk.inj (Option.some.inj H)).1
   have q1 := (Prod.mk.inj (Prod.mk.inj (Option.some.inj H)).2).1
   have q2 := (Prod.mk.inj (Prod.mk.inj (Prod.mk.inj (Option.some.inj H)).2).2).1
   have q3 := (Prod.mk.inj (Prod.mk.inj (Prod.mk.inj (Prod.mk.inj (Option.some.inj H)).2).2).2).1
   have q4 := (Prod.mk.inj (Prod.mk.inj (Prod.mk.inj (Prod.mk.inj (Option.some.inj H)).2).2).2).2
   subst q0
   subst q1
   subst q2
   subst q3
   subst q4
   exact W.now (Then.r (InBlock.r (Then.r (Then.r (InBlock.r (Then.r (BodyR.mkR trivial rfl [0, 1, 2] ⟨rfl, rfl⟩ ⟨rfl, ⟨⟨⟨trivial, .inr ⟨rfl, rfl, rfl⟩⟩, .inr ⟨rfl, rfl, rfl⟩⟩, .inr ⟨rfl, rfl, rfl⟩⟩, by decide, rfl, ⟨⟨⟨trivial, rfl⟩, rfl⟩, rfl⟩⟩ rfl rfl)))))))
 replace H := cnf hb5685 H
 refine WP.skipW ?_
 refine W.now ?_
 refine Then.n ?_
 refine WP.region ?_
 refine WPL.q (q_mv (v := .ptr _ _) rfl) rfl ?_
 refine WPL.q (q_mv (v := .ptr _ _) rfl) rfl ?_
 refine WPL.q (q_nilCheck rfl) rfl ?_
 refine WPL.q (q_load_ag ag23 rfl rfl (Nat.le_of_ble_eq_true rfl)) rfl ?_
 obtain ⟨x5688, h5686, H⟩ := bnd H
 refine WPL.c (runs_call (s := []) (t := [4]) (N := 5) (bor := []) fn48 rfl (s_dec_of k x5611 x5612 x5688 h5686) ⟨rfl, trivial, by decide, rfl, trivial⟩ rfl trivial (.ren rfl rfl .nil) rfl ⟨trivial, rfl⟩ rfl) rfl ?_
 obtain ⟨⟨x5690, x5691, x5692⟩, h5688, H⟩ := bnd H
 refine WPL.c (runs_call (s := []) (t := [5]) (N := 6) (bor := []) fn18 rfl (s_dec_num_tell k (decide (x5611 < 0)) 0 x5688 x5612 x5690 x5691 x5692 h5688) ⟨rfl, trivial, by decide, rfl, trivial⟩ rfl trivial (.ren rfl rfl .nil) rfl ⟨trivial, rfl⟩ rfl) rfl ?_
 refine WPL.q (q_mv (v := .tup _) rfl) rfl ?_
 refine WPL.q (q_extract rfl rfl) rfl ?_
 refine WPL.q (q_extract rfl rfl) rfl ?_
 refine WPL.q (q_nilCheck rfl) rfl ?_
 refine WPL.s (s_store sz23 rfl rfl rfl rfl rfl) ?_
 refine WPL.nilW ?_
 refine W.now ?_
 refine InBlock.n ?_
 refine Then.n ?_
 refine WP.region ?_
 refine WPL.q (q_nm (q_add rfl rfl) (fold_int (b := 1) (by decide))) rfl ?_
 refine WPL.q (q_mv (v := .lit (.int _ _)) rfl) rfl ?_
 refine WPL.nilW ?_
 refine W.now ?_
 refine Then.n ?_
 refine WPI.round ?_
 refine WP.seq ?_
 refine WP.region ?_
 refine WPL.q (q_lss rfl rfl) rfl ?_
 refine WPL.nilW ?_
 refine W.now ?_
 refine Then.n ?_
 refine WP.seq ?_
 refine WP.condT rfl ?_
 refine WP.skipW ?_
 refine W.now ?_
 refine Then.n ?_
 refine WP.seq ?_
 refine WP.block ?_
 refine WP.seq ?_
 refine WP.region ?_
 refine WPL.q (q_index_sl (o := 1) sl85 rfl rfl rfl rfl) rfl ?_
 refine WPL.q (q_load sc59 rfl rfl rfl) rfl ?_
 refine WPL.q (q_as (v := .ptr _ _) rfl) rfl ?_
 refine WPL.nilW ?_
 refine W.now ?_
 refine Then.n ?_
 refine WP.seq ?_
 refine WP.seq ?_
 refine WP.region ?_
 refine WPL.q (q_mv (v := .ptr _ _) rfl) rfl ?_
 refine WPL.q (q_nilCheck rfl) rfl ?_
 refine WPL.q (q_load_ag ag23 rfl rfl (Nat.le_of_ble_eq_true rfl)) rfl ?_
 refine WPL.d (d_buildSlice (ds := ([(⟨x5613, x5614⟩ : S_api_Dec)] : List S_api_Dec)) (R := rdS_api_Dec) li113 rfl rfl rfl rfl rfl (JoinRows.cons (l := [.lit (.int .i64 x5613), .lit (.int .i64 x5614)]) (Joins.via (Joins.cons Joins.sc (Joins.cons Joins.sc Joins.unit))) rfl JoinRows.nil) rfl rfl) rfl ?_
 obtain ⟨x5709, h5707, H⟩ := bnd H
 refine WPL.c (runs_call (s := []) (t := []) (N := 7) (bor := [6]) fn47 rfl (s_dec_ranged k ([(⟨x5613, x5614⟩ : S_api_Dec)] : List S_api_Dec) x5709 h5707) ⟨rfl, trivial, by decide, rfl, trivial⟩ rfl ⟨trivial, rfl, rfl, trivial⟩ (.row rfl rfl .nil) rfl trivial rfl) rfl ?_
 refine WPL.q (q_not rfl) rfl ?_
 refine WPL.nilW ?_
 refine W.now ?_
 refine Then.n ?_
 refine WP.cond (t := (!x5709)) rfl (fun hb5709 => ?_) (fun hb5709 => ?_)
 · replace H := cnt hb5709 H
   refine WP.seq ?_
   refine WP.region ?_
   refine WPL.q (q_as (v := .lit (.bool _)) rfl) rfl ?_
   refine WPL.nilW ?_
   refine W.now ?_
   refine Then.n ?_
   refine WP.retW ?_
   have q0 := (Prod.mk.inj (Option.some.inj H)).1
   have q1 := (Prod.mk.inj (Prod.mk.inj (Option.some.inj H)).2).1
   have q2 := (Prod.mk.inj (Prod.mk.inj (Prod.mk.inj (Option.some.inj H)).2).2).1
   have q3 := (Prod.mk.inj (Prod.mk.inj (Prod.mk.inj (Prod.mk.inj (Option.some.inj H)).2).2).2).1
   have q4 := (Prod.mk.inj (Prod.mk.inj (Prod.mk.inj (Prod.mk.inj (Option.some.inj H)).2).2).2).2
   subst q0
   subst q1
   subst q2
   subst q3
   subst q4
   exact W.now (Then.r (InBlock.r (Then.r (Then.r (InBlock.r (Then.r (BodyR.mkR trivial rfl [0, 1, 2] ⟨rfl, rfl⟩ ⟨rfl, ⟨⟨⟨trivial, .inr ⟨rfl, rfl, rfl⟩⟩, .inr ⟨rfl, rfl, rfl⟩⟩, .inr ⟨rfl, rfl, rfl⟩⟩, by decide, rfl, ⟨⟨⟨trivial, rfl⟩, rfl⟩, rfl⟩⟩ rfl rfl)))))))
 replace H := cnf hb5709 H
 refine WP.skipW ?_
 refine W.now ?_
 refine Then.n ?_
 refine WP.region ?_
 refine WPL.q (q_mv (v := .ptr _ _) rfl) rfl ?_
 refine WPL.q (q_mv (v := .ptr _ _) rfl) rfl ?_
 refine WPL.q (q_nilCheck rfl) rfl ?_
 refine WPL.q (q_load_ag ag23 rfl rfl (Nat.le_of_ble_eq_true rfl)) rfl ?_
 obtain ⟨x5712, h5710, H⟩ := bnd H
 refine WPL.c (runs_call (s := []) (t := [7]) (N := 8) (bor := []) fn48 rfl (s_dec_of k x5613 x5614 x5712 h5710) ⟨rfl, trivial, by decide, rfl, trivial⟩ rfl trivial (.ren rfl rfl .nil) rfl ⟨trivial, rfl⟩ rfl) rfl ?_
 obtain ⟨⟨x5714, x5715, x5716⟩, h5712, H⟩ := bnd H
 refine WPL.c (runs_call (s := []) (t := [8]) (N := 9) (bor := []) fn18 rfl (s_dec_num_tell k (decide (x5613 < 0)) 0 x5712 x5614 x5714 x5715 x5716 h5712) ⟨rfl, trivial, by decide, rfl, trivial⟩ rfl trivial (.ren rfl rfl .nil) rfl ⟨trivial, rfl⟩ rfl) rfl ?_
 refine WPL.q (q_mv (v := .tup _) rfl) rfl ?_
 refine WPL.q (q_extract rfl rfl) rfl ?_
 refine WPL.q (q_extract rfl rfl) rfl ?_
 refine WPL.q (q_nilCheck rfl) rfl ?_
 refine WPL.s (s_store sz23 rfl rfl rfl rfl rfl) ?_
 refine WPL.nilW ?_
 refine W.now ?_
 refine InBlock.n ?_
 refine Then.n ?_
 refine WP.region ?_
 refine WPL.q (q_nm (q_add rfl rfl) (fold_int (b := 2) (by decide))) rfl ?_
 refine WPL.q (q_mv (v := .lit (.int _ _)) rfl) rfl ?_
 refine WPL.nilW ?_
 refine W.now ?_
 refine Then.n ?_
 refine WPI.round ?_
 refine WP.seq ?_
 refine WP.region ?_
 refine WPL.q (q_lss rfl rfl) rfl ?_
 refine WPL.nilW ?_
 refine W.now ?_
 refine Then.n ?_
 refine WP.seq ?_
 refine WP.condF rfl ?_
 refine WP.exitW ?_
 refine W.now ?_
 refine Then.x ?_
 refine Then.x ?_
 refine InBlock.x0 ?_
 refine Then.n ?_
 refine WP.seq ?_
 refine WP.region ?_
 refine WPL.q (q_as (v := .lit (.bool _)) rfl) rfl ?_
 refine WPL.nilW ?_
 refine W.now ?_
 refine Then.n ?_
 refine WP.retW ?_
 have q0 := (Prod.mk.inj (Option.some.inj H)).1
 have q1 := (Prod.mk.inj (Prod.mk.inj (Option.some.inj H)).2).1
 have q2 := (Prod.mk.inj (Prod.mk.inj (Prod.mk.inj (Option.some.inj H)).2).2).1
 have q3 := (Prod.mk.inj (Prod.mk.inj (Prod.mk.inj (Prod.mk.inj (Option.some.inj H)).2).2).2).1
 have q4 := (Prod.mk.inj (Prod.mk.inj (Prod.mk.inj (Prod.mk.inj (Option.some.inj H)).2).2).2).2
 subst q0
 subst q1
 subst q2
 subst q3
 subst q4
 exact W.now (BodyR.mkR trivial rfl [0, 1, 2] ⟨rfl, rfl⟩ ⟨rfl, ⟨⟨⟨trivial, .inr ⟨rfl, rfl, rfl⟩⟩, .inr ⟨rfl, rfl, rfl⟩⟩, .inr ⟨rfl, rfl, rfl⟩⟩, by decide, rfl, ⟨⟨⟨trivial, rfl⟩, rfl⟩, rfl⟩⟩ rfl rfl)
set_option maxRecDepth 100000 in
set_option maxHeartbeats 4000000 in
theorem s_dec_even (k : Nat) (x5731 : Int) (x5732 : Int) (x5733 : Int) (x5734 : Int) (x5903 : Bool) (x5904 : Int) (x5905 : Int) (x5906 : Int) (x5907 : Int) (x5908 : Int) (x5909 : Int) (H : g_dec_even k x5731 x5732 x5733 x5734 = some (x5903, x5904, x5905, x5906, x5907, x5908, x5909)) : Go.Q.Spec Tryd.prog 56 0 [.agg [.lit (.int .i64 x5731), .lit (.int .i64 x5732)], .agg [.lit (.int .i64 x5733), .lit (.int .i64 x5734)]] Mem.nil (fun o M => o = .ret (.tup [.agg [.lit (.bool (decide (x5731 < 0))), .lit (.int .u64 x5904), .lit (.int .u64 x5905), .lit (.int .i64 x5906)], .agg [.lit (.bool (decide (x5733 < 0))), .lit (.int .u64 x5907), .lit (.int .u64 x5908), .lit (.int .i64 x5909)], .lit (.bool x5903)]) ∧ M = ((Mem.nil.push (.cells 48 [.lit (.bool (decide (x5731 < 0))), .lit (.int .u64 x5904), .lit (.int .u64 x5905), .lit (.int .i64 x5906)])).push (.cells 48 [.lit (.bool (decide (x5733 < 0))), .lit (.int .u64 x5907), .lit (.int .u64 x5908), .lit (.int .i64 x5909)]))) := by
 unfold g_dec_even at H
 refine Go.Q.Spec.of_bodyR (az := [(48, 4)]) (rs := [.cell 4 48, .cell 5 48, .tmp 6]) (nt := 73) Tryd.func56 rfl rfl (by intro t T h; simp at h; rcases h with ⟨rfl, rfl⟩ | ⟨rfl, rfl⟩ <;> first | exact ag48 | exact ag48) rfl rfl fun cx hnp => ?_
 refine WP.seq ?_
 refine WP.region ?_
 refine WPL.d (d_box rfl rfl) rfl ?_
 refine WPL.d (d_box rfl rfl) rfl ?_
 refine WPL.d (d_alloc ze48 rfl) rfl ?_
 refine WPL.d (d_alloc ze48 rfl) rfl ?_
 refine WPL.q (q_as (v := .lit (.bool _)) rfl) rfl ?_
 refine WPL.nilW ?_
 refine W.now ?_
 refine Then.n ?_
 refine WP.seq ?_
 obtain ⟨⟨x5974, x5975⟩, H6039, H⟩ := bnd H
 refine WP.monoW (Q := fun x E M => x = .normal ∧ E = ((((Env.none.upd 4 (.ptr 0 0)).upd 5 (.ptr 1 0)).upd 7 (.ptr 2 0)).upd 8 (.ptr 3 0)) ∧ M = ((((Mem.nil.push (.cells 48 [.lit (.bool false), .lit (.int .u64 0), .lit (.int .u64 0), .lit (.int .i64 0)])).push (.cells 48 [.lit (.bool false), .lit (.int .u64 0), .lit (.int .u64 0), .lit (.int .i64 0)])).push (.cells 48 [.lit (.bool (decide (x5731 < 0))), .lit (.int .u64 0), .lit (.int .u64 x5974), .lit (.int .i64 x5732)])).push (.cells 48 [.lit (.bool (decide (x5733 < 0))), .lit (.int .u64 0), .lit (.int .u64 x5975), .lit (.int .i64 x5734)]))) ?_ ?_
 · clear H
   have H := H6039
   clear H6039
   refine WP.regionD' 8 [0, 1] [] mixed rfl ?_
   refine WPD.take 0 rfl (by kernel_rfl) (q_load_ag ag23 rfl rfl (Nat.le_of_ble_eq_true rfl)) rfl rfl ?_
   refine WPD.take 2 rfl (by kernel_rfl) (q_load_ag ag23 rfl rfl (Nat.le_of_ble_eq_true rfl)) rfl rfl ?_
   refine WPD.of3 1 4 5 (by kernel_rfl) ?_ ?_ ?_
   · obtain ⟨x6009, h6007, H⟩ := bnd H
     refine WPD1.eff 1 [0, 1] [] rfl (runs_call (s := []) (t := [4]) (N := 5) (bor := []) fn48 rfl (s_dec_of k x5731 x5732 x6009 h6007) ⟨rfl, trivial, by decide, rfl, trivial⟩ rfl trivial (.ren rfl rfl .nil) rfl ⟨trivial, rfl⟩ rfl) rfl rfl ?_
     refine WPD.of3 3 4 5 (by kernel_rfl) ?_ ?_ ?_
     · obtain ⟨x6011, h6009, H⟩ := bnd H
       refine WPD1.eff 3 [0, 1] [] rfl (runs_call (s := []) (t := [5]) (N := 6) (bor := []) fn48 rfl (s_dec_of k x5733 x5734 x6011 h6009) ⟨rfl, trivial, by decide, rfl, trivial⟩ rfl trivial (.ren rfl rfl .nil) rfl ⟨trivial, rfl⟩ rfl) rfl rfl ?_
       refine WPD.of2 4 5 (by kernel_rfl) ?_ ?_
       · refine WPD1.eff 4 [0, 1] [] rfl (Does.runs (d_alloc ze48 rfl)) rfl rfl ?_
         refine WPD.eff 5 [0, 1] [] rfl (by kernel_rfl) (Does.runs (d_alloc ze48 rfl)) rfl rfl ?_
         refine WPD.effS 6 [0, 1] [] rfl (by kernel_rfl) (s_store sz48 rfl rfl rfl rfl rfl) rfl ?_
         refine WPD.effS 7 [0, 1] [] rfl (by kernel_rfl) (s_store sz48 rfl rfl rfl rfl rfl) rfl ?_
         refine WPD.doneW (by kernel_rfl) ?_
         have q0 := (Prod.mk.inj (Option.some.inj H)).1
         have q1 := (Prod.mk.inj (Option.some.inj H)).2
         subst q0
         subst q1
         exact W.wk [2, 3, 6, 7] hnp ⟨rfl, rfl, rfl⟩ ⟨rfl, ⟨⟨⟨⟨trivial, .inr ⟨rfl, rfl, rfl⟩⟩, .inr ⟨rfl, rfl, rfl⟩⟩, .inr ⟨rfl, rfl, rfl⟩⟩, .inr ⟨rfl, rfl, rfl⟩⟩, by decide, rfl, trivial⟩ (LeE.upd rfl rfl (LeE.upd rfl rfl (LeE.upd rfl rfl (LeE.upd rfl rfl (LeE.none rfl rfl))))) rfl
       refine WPD1.eff 5 [0, 1] [] rfl (Does.runs (d_alloc ze48 rfl)) rfl rfl ?_
       refine WPD.eff 4 [0, 1] [] rfl (by kernel_rfl) (Does.runs (d_alloc ze48 rfl)) rfl rfl ?_
       refine WPD.effS 6 [0, 1] [] rfl (by kernel_rfl) (s_store sz48 rfl rfl rfl rfl rfl) rfl ?_
       refine WPD.effS 7 [0, 1] [] rfl (by kernel_rfl) (s_store sz48 rfl rfl rfl rfl rfl) rfl ?_
       refine WPD.doneW (by kernel_rfl) ?_
       have q0 := (Prod.mk.inj (Option.some.inj H)).1
       have q1 := (Prod.mk.inj (Option.some.inj H)).2
       subst q0
       subst q1
       exact W.wk [2, 3, 7, 6] hnp ⟨rfl, rfl, rfl⟩ ⟨rfl, ⟨⟨⟨⟨trivial, .inr ⟨rfl, rfl, rfl⟩⟩, .inr ⟨rfl, rfl, rfl⟩⟩, .inr ⟨rfl, rfl, rfl⟩⟩, .inr ⟨rfl, rfl, rfl⟩⟩, by decide, rfl, trivial⟩ (LeE.upd rfl rfl (LeE.upd rfl rfl (LeE.upd rfl rfl (LeE.upd rfl rfl (LeE.none rfl rfl))))) rfl
     · refine WPD1.eff 4 [0, 1] [] rfl (Does.runs (d_alloc ze48 rfl)) rfl rfl ?_
       refine WPD.of2 3 5 (by kernel_rfl) ?_ ?_
       · obtain ⟨x6013, h6011, H⟩ := bnd H
         refine WPD1.eff 3 [0, 1] [] rfl (runs_call (s := []) (t := [6]) (N := 7) (bor := []) fn48 rfl (s_dec_of k x5733 x5734 x6013 h6011) ⟨rfl, trivial, by decide, rfl, trivial⟩ rfl trivial (.ren rfl rfl .nil) rfl ⟨trivial, rfl⟩ rfl) rfl rfl ?_
         refine WPD.eff 5 [0, 1] [] rfl (by kernel_rfl) (Does.runs (d_alloc ze48 rfl)) rfl rfl ?_
         refine WPD.effS 6 [0, 1] [] rfl (by kernel_rfl) (s_store sz48 rfl rfl rfl rfl rfl) rfl ?_
         refine WPD.effS 7 [0, 1] [] rfl (by kernel_rfl) (s_store sz48 rfl rfl rfl rfl rfl) rfl ?_
         refine WPD.doneW (by kernel_rfl) ?_
         have q0 := (Prod.mk.inj (Option.some.inj H)).1
         have q1 := (Prod.mk.inj (Option.some.inj H)).2
         subst q0
         subst q1
         exact W.wk [2, 3, 5, 7] hnp ⟨rfl, rfl, rfl⟩ ⟨rfl, ⟨⟨⟨⟨trivial, .inr ⟨rfl, rfl, rfl⟩⟩, .inr ⟨rfl, rfl, rfl⟩⟩, .inr ⟨rfl, rfl, rfl⟩⟩, .inr ⟨rfl, rfl, rfl⟩⟩, by decide, rfl, trivial⟩ (LeE.upd rfl rfl (LeE.upd rfl rfl (LeE.upd rfl rfl (LeE.upd rfl rfl (LeE.none rfl rfl))))) rfl
       refine WPD1.eff 5 [0, 1] [] rfl (Does.runs (d_alloc ze48 rfl)) rfl rfl ?_
       obtain ⟨x6015, h6013, H⟩ := bnd H
       refine WPD.eff 3 [0, 1] [] rfl (by kernel_rfl) (runs_call (s := []) (t := [7]) (N := 8) (bor := []) fn48 rfl (s_dec_of k x5733 x5734 x6015 h6013) ⟨rfl, trivial, by decide, rfl, trivial⟩ rfl trivial (.ren rfl rfl .nil) rfl ⟨trivial, rfl⟩ rfl) rfl rfl ?_
       refine WPD.effS 6 [0, 1] [] rfl (by kernel_rfl) (s_store sz48 rfl rfl rfl rfl rfl) rfl ?_
       refine WPD.effS 7 [0, 1] [] rfl (by kernel_rfl) (s_store sz48 rfl rfl rfl rfl rfl) rfl ?_
       refine WPD.doneW (by kernel_rfl) ?_
       have q0 := (Prod.mk.inj (Option.some.inj H)).1
       have q1 := (Prod.mk.inj (Option.some.inj H)).2
       subst q0
       subst q1
       exact W.wk [2, 3, 5, 6] hnp ⟨rfl, rfl, rfl⟩ ⟨rfl, ⟨⟨⟨⟨trivial, .inr ⟨rfl, rfl, rfl⟩⟩, .inr ⟨rfl, rfl, rfl⟩⟩, .inr ⟨rfl, rfl, rfl⟩⟩, .inr ⟨rfl, rfl, rfl⟩⟩, by decide, rfl, trivial⟩ (LeE.upd rfl rfl (LeE.upd rfl rfl (LeE.upd rfl rfl (LeE.upd rfl rfl (LeE.none rfl rfl))))) rfl
     refine WPD1.eff 5 [0, 1] [] rfl (Does.runs (d_alloc ze48 rfl)) rfl rfl ?_
     refine WPD.of2 3 4 (by kernel_rfl) ?_ ?_
     · obtain ⟨x6017, h6015, H⟩ := bnd H
       refine WPD1.eff 3 [0, 1] [] rfl (runs_call (s := []) (t := [6]) (N := 7) (bor := []) fn48 rfl (s_dec_of k x5733 x5734 x6017 h6015) ⟨rfl, trivial, by decide, rfl, trivial⟩ rfl trivial (.ren rfl rfl .nil) rfl ⟨trivial, rfl⟩ rfl) rfl rfl ?_
       refine WPD.eff 4 [0, 1] [] rfl (by kernel_rfl) (Does.runs (d_alloc ze48 rfl)) rfl rfl ?_
       refine WPD.effS 6 [0, 1] [] rfl (by kernel_rfl) (s_store sz48 rfl rfl rfl rfl rfl) rfl ?_
       refine WPD.effS 7 [0, 1] [] rfl (by kernel_rfl) (s_store sz48 rfl rfl rfl rfl rfl) rfl ?_
       refine WPD.doneW (by kernel_rfl) ?_
       have q0 := (Prod.mk.inj (Option.some.inj H)).1
       have q1 := (Prod.mk.inj (Option.some.inj H)).2
       subst q0
       subst q1
       exact W.wk [2, 3, 7, 5] hnp ⟨rfl, rfl, rfl⟩ ⟨rfl, ⟨⟨⟨⟨trivial, .inr ⟨rfl, rfl, rfl⟩⟩, .inr ⟨rfl, rfl, rfl⟩⟩, .inr ⟨rfl, rfl, rfl⟩⟩, .inr ⟨rfl, rfl, rfl⟩⟩, by decide, rfl, trivial⟩ (LeE.upd rfl rfl (LeE.upd rfl rfl (LeE.upd rfl rfl (LeE.upd rfl rfl (LeE.none rfl rfl))))) rfl
     refine WPD1.eff 4 [0, 1] [] rfl (Does.runs (d_alloc ze48 rfl)) rfl rfl ?_
     obtain ⟨x6019, h6017, H⟩ := bnd H
     refine WPD.eff 3 [0, 1] [] rfl (by kernel_rfl) (runs_call (s := []) (t := [7]) (N := 8) (bor := []) fn48 rfl (s_dec_of k x5733 x5734 x6019 h6017) ⟨rfl, trivial, by decide, rfl, trivial⟩ rfl trivial (.ren rfl rfl .nil) rfl ⟨trivial, rfl⟩ rfl) rfl rfl ?_
     refine WPD.effS 6 [0, 1] [] rfl (by kernel_rfl) (s_store sz48 rfl rfl rfl rfl rfl) rfl ?_
     refine WPD.effS 7 [0, 1] [] rfl (by kernel_rfl) (s_store sz48 rfl rfl rfl rfl rfl) rfl ?_
     refine WPD.doneW (by kernel_rfl) ?_
     have q0 := (Prod.mk.inj (Option.some.inj H)).1
     have q1 := (Prod.mk.inj (Option.some.inj H)).2
     subst q0
     subst q1
     exact W.wk [2, 3, 6, 5] hnp ⟨rfl, rfl, rfl⟩ ⟨rfl, ⟨⟨⟨⟨trivial, .inr ⟨rfl, rfl, rfl⟩⟩, .inr ⟨rfl, rfl, rfl⟩⟩, .inr ⟨rfl, rfl, rfl⟩⟩, .inr ⟨rfl, rfl, rfl⟩⟩, by decide, rfl, trivial⟩ (LeE.upd rfl rfl (LeE.upd rfl rfl (LeE.upd rfl rfl (LeE.upd rfl rfl (LeE.none rfl rfl))))) rfl
   · refine WPD1.eff 4 [0, 1] [] rfl (Does.runs (d_alloc ze48 rfl)) rfl rfl ?_
     refine WPD.of2 1 5 (by kernel_rfl) ?_ ?_
     · obtain ⟨x6021, h6019, H⟩ := bnd H
       refine WPD1.eff 1 [0, 1] [] rfl (runs_call (s := []) (t := [5]) (N := 6) (bor := []) fn48 rfl (s_dec_of k x5731 x5732 x6021 h6019) ⟨rfl, trivial, by decide, rfl, trivial⟩ rfl trivial (.ren rfl rfl .nil) rfl ⟨trivial, rfl⟩ rfl) rfl rfl ?_
       refine WPD.of2 3 5 (by kernel_rfl) ?_ ?_
       · obtain ⟨x6023, h6021, H⟩ := bnd H
         refine WPD1.eff 3 [0, 1] [] rfl (runs_call (s := []) (t := [6]) (N := 7) (bor := []) fn48 rfl (s_dec_of k x5733 x5734 x6023 h6021) ⟨rfl, trivial, by decide, rfl, trivial⟩ rfl trivial (.ren rfl rfl .nil) rfl ⟨trivial, rfl⟩ rfl) rfl rfl ?_
         refine WPD.eff 5 [0, 1] [] rfl (by kernel_rfl) (Does.runs (d_alloc ze48 rfl)) rfl rfl ?_
         refine WPD.effS 6 [0, 1] [] rfl (by kernel_rfl) (s_store sz48 rfl rfl rfl rfl rfl) rfl ?_
         refine WPD.effS 7 [0, 1] [] rfl (by kernel_rfl) (s_store sz48 rfl rfl rfl rfl rfl) rfl ?_
         refine WPD.doneW (by kernel_rfl) ?_
         have q0 := (Prod.mk.inj (Option.some.inj H)).1
         have q1 := (Prod.mk.inj (Option.some.inj H)).2
         subst q0
         subst q1
         exact W.wk [2, 3, 4, 7] hnp ⟨rfl, rfl, rfl⟩ ⟨rfl, ⟨⟨⟨⟨trivial, .inr ⟨rfl, rfl, rfl⟩⟩, .inr ⟨rfl, rfl, rfl⟩⟩, .inr ⟨rfl, rfl, rfl⟩⟩, .inr ⟨rfl, rfl, rfl⟩⟩, by decide, rfl, trivial⟩ (LeE.upd rfl rfl (LeE.upd rfl rfl (LeE.upd rfl rfl (LeE.upd rfl rfl (LeE.none rfl rfl))))) rfl
       refine WPD1.eff 5 [0, 1] [] rfl (Does.runs (d_alloc ze48 rfl)) rfl rfl ?_
       obtain ⟨x6025, h6023, H⟩ := bnd H
       refine WPD.eff 3 [0, 1] [] rfl (by kernel_rfl) (runs_call (s := []) (t := [7]) (N := 8) (bor := []) fn48 rfl (s_dec_of k x5733 x5734 x6025 h6023) ⟨rfl, trivial, by decide, rfl, trivial⟩ rfl trivial (.ren rfl rfl .nil) rfl ⟨trivial, rfl⟩ rfl) rfl rfl ?_
       refine WPD.effS 6 [0, 1] [] rfl (by kernel_rfl) (s_store sz48 rfl rfl rfl rfl rfl) rfl ?_
       refine WPD.effS 7 [0, 1] [] rfl (by kernel_rfl) (s_store sz48 rfl rfl rfl rfl rfl) rfl ?_
       refine WPD.doneW (by kernel_rfl) ?_
       have q0 := (Prod.mk.inj (Option.some.inj H)).1
       have q1 := (Prod.mk.inj (Option.some.inj H)).2
       subst q0
       subst q1
       exact W.wk [2, 3, 4, 6] hnp ⟨rfl, rfl, rfl⟩ ⟨rfl, ⟨⟨⟨⟨trivial, .inr ⟨rfl, rfl, rfl⟩⟩, .inr ⟨rfl, rfl, rfl⟩⟩, .inr ⟨rfl, rfl, rfl⟩⟩, .inr ⟨rfl, rfl, rfl⟩⟩, by decide, rfl, trivial⟩ (LeE.upd rfl rfl (LeE.upd rfl rfl (LeE.upd rfl rfl (LeE.upd rfl rfl (LeE.none rfl rfl))))) rfl
     refine WPD1.eff 5 [0, 1] [] rfl (Does.runs (d_alloc ze48 rfl)) rfl rfl ?_
     obtain ⟨x6027, h6025, H⟩ := bnd H
     refine WPD.eff 1 [0, 1] [] rfl (by kernel_rfl) (runs_call (s := []) (t := [6]) (N := 7) (bor := []) fn48 rfl (s_dec_of k x5731 x5732 x6027 h6025) ⟨rfl, trivial, by decide, rfl, trivial⟩ rfl trivial (.ren rfl rfl .nil) rfl ⟨trivial, rfl⟩ rfl) rfl rfl ?_
     obtain ⟨x6029, h6027, H⟩ := bnd H
     refine WPD.eff 3 [0, 1] [] rfl (by kernel_rfl) (runs_call (s := []) (t := [7]) (N := 8) (bor := []) fn48 rfl (s_dec_of k x5733 x5734 x6029 h6027) ⟨rfl, trivial, by decide, rfl, trivial⟩ rfl trivial (.ren rfl rfl .nil) rfl ⟨trivial, rfl⟩ rfl) rfl rfl ?_
     refine WPD.effS 6 [0, 1] [] rfl (by kernel_rfl) (s_store sz48 rfl rfl rfl rfl rfl) rfl ?_
     refine WPD.effS 7 [0, 1] [] rfl (by kernel_rfl) (s_store sz48 rfl rfl rfl rfl rfl) rfl ?_
     refine WPD.doneW (by kernel_rfl) ?_
     have q0 := (Prod.mk.inj (Option.some.inj H)).1
     have q1 := (Prod.mk.inj (Option.some.inj H)).2
     subst q0
     subst q1
     exact W.wk [2, 3, 4, 5] hnp ⟨rfl, rfl, rfl⟩ ⟨rfl, ⟨⟨⟨⟨trivial, .inr ⟨rfl, rfl, rfl⟩⟩, .inr ⟨rfl, rfl, rfl⟩⟩, .inr ⟨rfl, rfl, rfl⟩⟩, .inr ⟨rfl, rfl, rfl⟩⟩, by decide, rfl, trivial⟩ (LeE.upd rfl rfl (LeE.upd rfl rfl (LeE.upd rfl rfl (LeE.upd rfl rfl (LeE.none rfl rfl))))) rfl
   refine WPD1.eff 5 [0, 1] [] rfl (Does.runs (d_alloc ze48 rfl)) rfl rfl ?_
   refine WPD.of2 1 4 (by kernel_rfl) ?_ ?_
   · obtain ⟨x6031, h6029, H⟩ := bnd H
     refine WPD1.eff 1 [0, 1] [] rfl (runs_call (s := []) (t := [5]) (N := 6) (bor := []) fn48 rfl (s_dec_of k x5731 x5732 x6031 h6029) ⟨rfl, trivial, by decide, rfl, trivial⟩ rfl trivial (.ren rfl rfl .nil) rfl ⟨trivial, rfl⟩ rfl) rfl rfl ?_
     refine WPD.of2 3 4 (by kernel_rfl) ?_ ?_
     · obtain ⟨x6033, h6031, H⟩ := bnd H
       refine WPD1.eff 3 [0, 1] [] rfl (runs_call (s := []) (t := [6]) (N := 7) (bor := []) fn48 rfl (s_dec_of k x5733 x5734 x6033 h6031) ⟨rfl, trivial, by decide, rfl, trivial⟩ rfl trivial (.ren rfl rfl .nil) rfl ⟨trivial, rfl⟩ rfl) rfl rfl ?_
       refine WPD.eff 4 [0, 1] [] rfl (by kernel_rfl) (Does.runs (d_alloc ze48 rfl)) rfl rfl ?_
       refine WPD.effS 6 [0, 1] [] rfl (by kernel_rfl) (s_store sz48 rfl rfl rfl rfl rfl) rfl ?_
       refine WPD.effS 7 [0, 1] [] rfl (by kernel_rfl) (s_store sz48 rfl rfl rfl rfl rfl) rfl ?_
       refine WPD.doneW (by kernel_rfl) ?_
       have q0 := (Prod.mk.inj (Option.some.inj H)).1
       have q1 := (Prod.mk.inj (Option.some.inj H)).2
       subst q0
       subst q1
       exact W.wk [2, 3, 7, 4] hnp ⟨rfl, rfl, rfl⟩ ⟨rfl, ⟨⟨⟨⟨trivial, .inr ⟨rfl, rfl, rfl⟩⟩, .inr ⟨rfl, rfl, rfl⟩⟩, .inr ⟨rfl, rfl, rfl⟩⟩, .inr ⟨rfl, rfl, rfl⟩⟩, by decide, rfl, trivial⟩ (LeE.upd rfl rfl (LeE.upd rfl rfl (LeE.upd rfl rfl (LeE.upd rfl rfl (LeE.none rfl rfl))))) rfl
     refine WPD1.eff 4 [0, 1] [] rfl (Does.runs (d_alloc ze48 rfl)) rfl rfl ?_
     obtain ⟨x6035, h6033, H⟩ := bnd H
     refine WPD.eff 3 [0, 1] [] rfl (by kernel_rfl) (runs_call (s := []) (t := [7]) (N := 8) (bor := []) fn48 rfl (s_dec_of k x5733 x5734 x6035 h6033) ⟨rfl, trivial, by decide, rfl, trivial⟩ rfl trivial (.ren rfl rfl .nil) rfl ⟨trivial, rfl⟩ rfl) rfl rfl ?_
     refine WPD.effS 6 [0, 1] [] rfl (by kernel_rfl) (s_store sz48 rfl rfl rfl rfl rfl) rfl ?_
     refine WPD.effS 7 [0, 1] [] rfl (by kernel_rfl) (s_store sz48 rfl rfl rfl rfl rfl) rfl ?_
     refine WPD.doneW (by kernel_rfl) ?_
     have q0 := (Prod.mk.inj (Option.some.inj H)).1
     have q1 := (Prod.mk.inj (Option.some.inj H)).2
     subst q0
     subst q1
     exact W.wk [2, 3, 6, 4] hnp ⟨rfl, rfl, rfl⟩ ⟨rfl, ⟨⟨⟨⟨trivial, .inr ⟨rfl, rfl, rfl⟩⟩, .inr ⟨rfl, rfl, rfl⟩⟩, .inr ⟨rfl, rfl, rfl⟩⟩, .inr ⟨rfl, rfl, rfl⟩⟩, by decide, rfl, trivial⟩ (LeE.upd rfl rfl (LeE.upd rfl rfl (LeE.upd rfl rfl (LeE.upd rfl rfl (LeE.none rfl rfl))))) rfl
   refine WPD1.eff 4 [0, 1] [] rfl (Does.runs (d_alloc ze48 rfl)) rfl rfl ?_
   obtain ⟨x6037, h6035, H⟩ := bnd H
   refine WPD.eff 1 [0, 1] [] rfl (by kernel_rfl) (runs_call (s := []) (t := [6]) (N := 7) (bor := []) fn48 rfl (s_dec_of k x5731 x5732 x6037 h6035) ⟨rfl, trivial, by decide, rfl, trivial⟩ rfl trivial (.ren rfl rfl .nil) rfl ⟨trivial, rfl⟩ rfl) rfl rfl ?_
   obtain ⟨x6039, h6037, H⟩ := bnd H
   refine WPD.eff 3 [0, 1] [] rfl (by kernel_rfl) (runs_call (s := []) (t := [7]) (N := 8) (bor := []) fn48 rfl (s_dec_of k x5733 x5734 x6039 h6037) ⟨rfl, trivial, by decide, rfl, trivial⟩ rfl trivial (.ren rfl rfl .nil) rfl ⟨trivial, rfl⟩ rfl) rfl rfl ?_
   refine WPD.effS 6 [0, 1] [] rfl (by kernel_rfl) (s_store sz48 rfl rfl rfl rfl rfl) rfl ?_
   refine WPD.effS 7 [0, 1] [] rfl (by kernel_rfl) (s_store sz48 rfl rfl rfl rfl rfl) rfl ?_
   refine WPD.doneW (by kernel_rfl) ?_
   have q0 := (Prod.mk.inj (Option.some.inj H)).1
   have q1 := (Prod.mk.inj (Option.some.inj H)).2
   subst q0
   subst q1
   exact W.wk [2, 3, 5, 4] hnp ⟨rfl, rfl, rfl⟩ ⟨rfl, ⟨⟨⟨⟨trivial, .inr ⟨rfl, rfl, rfl⟩⟩, .inr ⟨rfl, rfl, rfl⟩⟩, .inr ⟨rfl, rfl, rfl⟩⟩, .inr ⟨rfl, rfl, rfl⟩⟩, by decide, rfl, trivial⟩ (LeE.upd rfl rfl (LeE.upd rfl rfl (LeE.upd rfl rfl (LeE.upd rfl rfl (LeE.none rfl rfl))))) rfl
 rintro _ _ _ ⟨rfl, rfl, rfl⟩
 refine W.now ?_
 refine Then.n ?_
 refine WP.seq ?_
 refine WP.region ?_
 refine WPL.q (q_as (v := .lit (.bool _)) rfl) rfl ?_
 refine WPL.nilW ?_
 refine W.now ?_
 refine Then.n ?_
 refine WP.seq ?_
 obtain ⟨⟨x6055, x6056, x6057, x6058, x6059, x6060, x6061⟩, H6075, H⟩ := bnd H
 refine WP.monoW (Q := fun x E M => x = .normal ∧ E = (((((Env.none.upd 4 (.ptr 0 0)).upd 5 (.ptr 1 0)).upd 7 (.ptr 2 0)).upd 8 (.ptr 3 0)).upd 9 (.lit (.bool x6055))) ∧ M = ((((Mem.nil.push (.cells 48 [.lit (.bool false), .lit (.int .u64 0), .lit (.int .u64 0), .lit (.int .i64 0)])).push (.cells 48 [.lit (.bool false), .lit (.int .u64 0), .lit (.int .u64 0), .lit (.int .i64 0)])).push (.cells 48 [.lit (.bool (decide (x5731 < 0))), .lit (.int .u64 x6056), .lit (.int .u64 x6057), .lit (.int .i64 x6058)])).push (.cells 48 [.lit (.bool (decide (x5733 < 0))), .lit (.int .u64 x6059), .lit (.int .u64 x6060), .lit (.int .i64 x6061)]))) ?_ ?_
 · clear H
   have H := H6075
   clear H6075
   refine WP.block ?_
   refine WP.seq ?_
   refine WP.region ?_
   refine WPL.q (q_fieldAddr fi48_1 rfl rfl) rfl ?_
   refine WPL.q (q_load_ag ag43 rfl rfl (Nat.le_of_ble_eq_true rfl)) rfl ?_
   obtain ⟨_, h6061, H⟩ := bnd H
   refine WPL.c (runs_call (s := []) (t := []) (N := 4) (bor := []) fn43 rfl (s_dec_wide_zero k 0 x5974 h6061) ⟨rfl, trivial, by decide, rfl, trivial⟩ rfl trivial (.ren rfl rfl .nil) rfl trivial rfl) rfl ?_
   refine WPL.q (q_as (v := .lit (.bool _)) rfl) rfl ?_
   refine WPL.nilW ?_
   refine W.now ?_
   refine Then.n ?_
   refine WP.cond (t := (decide ((bits .or .u64 0 x5974) = 0))) rfl (fun hb6062 => ?_) (fun hb6062 => ?_)
   · replace H := cnt hb6062 H
     refine WP.region ?_
     refine WPL.q (q_fieldAddr fi48_2 rfl rfl) rfl ?_
     refine WPL.q (q_load sc3 rfl rfl rfl) rfl ?_
     refine WPL.q (q_fieldAddr fi48_2 rfl rfl) rfl ?_
     refine WPL.s (s_store sz3 rfl rfl rfl rfl rfl) ?_
     refine WPL.nilW ?_
     have q0 := (Prod.mk.inj (Option.some.inj H)).1
     have q1 := (Prod.mk.inj (Prod.mk.inj (Option.some.inj H)).2).1
     have q2 := (Prod.mk.inj (Prod.mk.inj (Prod.mk.inj (Option.some.inj H)).2).2).1
     have q3 := (Prod.mk.inj (Prod.mk.inj (Prod.mk.inj (Prod.mk.inj (Option.some.inj H)).2).2).2).1
     have q4 := (Prod.mk.inj (Prod.mk.inj (Prod.mk.inj (Prod.mk.inj (Prod.mk.inj (Option.some.inj H)).2).2).2).2).1
     have q5 := (Prod.mk.inj (Prod.mk.inj (Prod.mk.inj (Prod.mk.inj (Prod.mk.inj (Prod.mk.inj (Option.some.inj H)).2).2).2).2).2).1
     have q6 := (Prod.mk.inj (Prod.mk.inj (Prod.mk.inj (Prod.mk.inj (Prod.mk.inj (Prod.mk.inj (Option.some.inj H)).2).2).2).2).2).2
     subst q0
     subst q1
     subst q2
     subst q3
     subst q4
     subst q5
     subst q6
     exact W.wk [0, 1, 2, 3] hnp (InBlock.n ⟨rfl, rfl, rfl⟩) ⟨rfl, ⟨⟨⟨⟨trivial, .inr ⟨rfl, rfl, rfl⟩⟩, .inr ⟨rfl, rfl, rfl⟩⟩, .inr ⟨rfl, rfl, rfl⟩⟩, .inr ⟨rfl, rfl, rfl⟩⟩, by decide, rfl, trivial⟩ (LeE.upd rfl rfl (LeE.upd rfl rfl (LeE.upd rfl rfl (LeE.upd rfl rfl (LeE.upd rfl rfl (LeE.none rfl rfl)))))) rfl
   replace H := cnf hb6062 H
   refine WP.seq ?_
   refine WP.region ?_
   refine WPL.q (q_fieldAddr fi48_1 rfl rfl) rfl ?_
   refine WPL.q (q_load_ag ag43 rfl rfl (Nat.le_of_ble_eq_true rfl)) rfl ?_
   obtain ⟨_, h6063, H⟩ := bnd H
   refine WPL.c (runs_call (s := []) (t := []) (N := 4) (bor := []) fn43 rfl (s_dec_wide_zero k 0 x5975 h6063) ⟨rfl, trivial, by decide, rfl, trivial⟩ rfl trivial (.ren rfl rfl .nil) rfl trivial rfl) rfl ?_
   refine WPL.q (q_as (v := .lit (.bool _)) rfl) rfl ?_
   refine WPL.nilW ?_
   refine W.now ?_
   refine Then.n ?_
   refine WP.cond (t := (decide ((bits .or .u64 0 x5975) = 0))) rfl (fun hb6064 => ?_) (fun hb6064 => ?_)
   · replace H := cnt hb6064 H
     refine WP.region ?_
     refine WPL.q (q_fieldAddr fi48_2 rfl rfl) rfl ?_
     refine WPL.q (q_load sc3 rfl rfl rfl) rfl ?_
     refine WPL.q (q_fieldAddr fi48_2 rfl rfl) rfl ?_
     refine WPL.s (s_store sz3 rfl rfl rfl rfl rfl) ?_
     refine WPL.nilW ?_
     have q0 := (Prod.mk.inj (Option.some.inj H)).1
     have q1 := (Prod.mk.inj (Prod.mk.inj (Option.some.inj H)).2).1
     have q2 := (Prod.mk.inj (Prod.mk.inj (Prod.mk.inj (Option.some.inj H)).2).2).1
     have q3 := (Prod.mk.inj (Prod.mk.inj (Prod.mk.inj (Prod.mk.inj (Option.some.inj H)).2).2).2).1
     have q4 := (Prod.mk.inj (Prod.mk.inj (Prod.mk.inj (Prod.mk.inj (Prod.mk.inj (Option.some.inj H)).2).2).2).2).1
     have q5 := (Prod.mk.inj (Prod.mk.inj (Prod.mk.inj (Prod.mk.inj (Prod.mk.inj (Prod.mk.inj (Option.some.inj H)).2).2).2).2).2).1
     have q6 := (Prod.mk.inj (Prod.mk.inj (Prod.mk.inj (Prod.mk.inj (Prod.mk.inj (Prod.mk.inj (Option.some.inj H)).2).2).2).2).2).2
     subst q0
     subst q1
     subst q2
     subst q3
     subst q4
     subst q5
     subst q6
     exact W.wk [0, 1, 2, 3] hnp (InBlock.n ⟨rfl, rfl, rfl⟩) ⟨rfl, ⟨⟨⟨⟨trivial, .inr ⟨rfl, rfl, rfl⟩⟩, .inr ⟨rfl, rfl, rfl⟩⟩, .inr ⟨rfl, rfl, rfl⟩⟩, .inr ⟨rfl, rfl, rfl⟩⟩, by decide, rfl, trivial⟩ (LeE.upd rfl rfl (LeE.upd rfl rfl (LeE.upd rfl rfl (LeE.upd rfl rfl (LeE.upd rfl rfl (LeE.none rfl rfl)))))) rfl
   replace H := cnf hb6064 H
   refine WP.seq ?_
   refine WP.region ?_
   refine WPL.q (q_fieldAddr fi48_2 rfl rfl) rfl ?_
   refine WPL.q (q_load sc3 rfl rfl rfl) rfl ?_
   refine WPL.q (q_fieldAddr fi48_2 rfl rfl) rfl ?_
   refine WPL.q (q_load sc3 rfl rfl rfl) rfl ?_
   refine WPL.q (q_gtr rfl rfl) rfl ?_
   refine WPL.q (q_as (v := .lit (.bool _)) rfl) rfl ?_
   refine WPL.nilW ?_
   refine W.now ?_
   refine Then.n ?_
   refine WP.cond (t := (decide (x5734 < x5732))) rfl (fun hb6065 => ?_) (fun hb6065 => ?_)
   · replace H := cnt hb6065 H
     refine WP.seq ?_
     refine WP.region ?_
     refine WPL.q (q_fieldAddr fi48_1 rfl rfl) rfl ?_
     refine WPL.q (q_load_ag ag43 rfl rfl (Nat.le_of_ble_eq_true rfl)) rfl ?_
     refine WPL.q (q_fieldAddr fi48_2 rfl rfl) rfl ?_
     refine WPL.q (q_load sc3 rfl rfl rfl) rfl ?_
     refine WPL.q (q_fieldAddr fi48_2 rfl rfl) rfl ?_
     refine WPL.q (q_load sc3 rfl rfl rfl) rfl ?_
     refine WPL.q (q_sub rfl rfl) rfl ?_
     obtain ⟨⟨x6068, x6069, x6070⟩, h6066, H⟩ := bnd H
     refine WPL.c (runs_call (s := []) (t := [4]) (N := 5) (bor := []) fn45 rfl (s_dec_wide_tens k 0 x5974 (IntKind.wrap .i64 (x5732 - x5734)) x6068 x6069 x6070 h6066) ⟨rfl, trivial, by decide, rfl, trivial⟩ rfl trivial (.ren rfl rfl (.ren rfl rfl .nil)) rfl ⟨trivial, rfl⟩ rfl) rfl ?_
     refine WPL.q (q_mv (v := .tup _) rfl) rfl ?_
     refine WPL.q (q_extract rfl rfl) rfl ?_
     refine WPL.q (q_extract rfl rfl) rfl ?_
     refine WPL.q (q_fieldAddr fi48_1 rfl rfl) rfl ?_
     refine WPL.s (s_store sz43 rfl rfl rfl rfl rfl) ?_
     refine WPL.q (q_as (v := .lit (.bool _)) rfl) rfl ?_
     refine WPL.nilW ?_
     refine W.now ?_
     refine Then.n ?_
     refine WP.region ?_
     refine WPL.q (q_fieldAddr fi48_2 rfl rfl) rfl ?_
     refine WPL.q (q_load sc3 rfl rfl rfl) rfl ?_
     refine WPL.q (q_fieldAddr fi48_2 rfl rfl) rfl ?_
     refine WPL.s (s_store sz3 rfl rfl rfl rfl rfl) ?_
     refine WPL.nilW ?_
     have q0 := (Prod.mk.inj (Option.some.inj H)).1
     have q1 := (Prod.mk.inj (Prod.mk.inj (Option.some.inj H)).2).1
     have q2 := (Prod.mk.inj (Prod.mk.inj (Prod.mk.inj (Option.some.inj H)).2).2).1
     have q3 := (Prod.mk.inj (Prod.mk.inj (Prod.mk.inj (Prod.mk.inj (Option.some.inj H)).2).2).2).1
     have q4 := (Prod.mk.inj (Prod.mk.inj (Prod.mk.inj (Prod.mk.inj (Prod.mk.inj (Option.some.inj H)).2).2).2).2).1
     have q5 := (Prod.mk.inj (Prod.mk.inj (Prod.mk.inj (Prod.mk.inj (Prod.mk.inj (Prod.mk.inj (Option.some.inj H)).2).2).2).2).2).1
     have q6 := (Prod.mk.inj (Prod.mk.inj (Prod.mk.inj (Prod.mk.inj (Prod.mk.inj (Prod.mk.inj (Option.some.inj H)).2).2).2).2).2).2
     subst q0
     subst q1
     subst q2
     subst q3
     subst q4
     subst q5
     subst q6
     exact W.wk [0, 1, 2, 3] hnp (InBlock.n ⟨rfl, rfl, rfl⟩) ⟨rfl, ⟨⟨⟨⟨trivial, .inr ⟨rfl, rfl, rfl⟩⟩, .inr ⟨rfl, rfl, rfl⟩⟩, .inr ⟨rfl, rfl, rfl⟩⟩, .inr ⟨rfl, rfl, rfl⟩⟩, by decide, rfl, trivial⟩ (LeE.upd rfl rfl (LeE.upd rfl rfl (LeE.upd rfl rfl (LeE.upd rfl rfl (LeE.upd rfl rfl (LeE.none rfl rfl)))))) rfl
   replace H := cnf hb6065 H
   refine WP.seq ?_
   refine WP.region ?_
   refine WPL.q (q_fieldAddr fi48_2 rfl rfl) rfl ?_
   refine WPL.q (q_load sc3 rfl rfl rfl) rfl ?_
   refine WPL.q (q_fieldAddr fi48_2 rfl rfl) rfl ?_
   refine WPL.q (q_load sc3 rfl rfl rfl) rfl ?_
   refine WPL.q (q_gtr rfl rfl) rfl ?_
   refine WPL.q (q_as (v := .lit (.bool _)) rfl) rfl ?_
   refine WPL.nilW ?_
   refine W.now ?_
   refine Then.n ?_
   refine WP.cond (t := (decide (x5732 < x5734))) rfl (fun hb6070 => ?_) (fun hb6070 => ?_)
   · replace H := cnt hb6070 H
     refine WP.seq ?_
     refine WP.region ?_
     refine WPL.q (q_fieldAddr fi48_1 rfl rfl) rfl ?_
     refine WPL.q (q_load_ag ag43 rfl rfl (Nat.le_of_ble_eq_true rfl)) rfl ?_
     refine WPL.q (q_fieldAddr fi48_2 rfl rfl) rfl ?_
     refine WPL.q (q_load sc3 rfl rfl rfl) rfl ?_
     refine WPL.q (q_fieldAddr fi48_2 rfl rfl) rfl ?_
     refine WPL.q (q_load sc3 rfl rfl rfl) rfl ?_
     refine WPL.q (q_sub rfl rfl) rfl ?_
     obtain ⟨⟨x6073, x6074, x6075⟩, h6071, H⟩ := bnd H
     refine WPL.c (runs_call (s := []) (t := [4]) (N := 5) (bor := []) fn45 rfl (s_dec_wide_tens k 0 x5975 (IntKind.wrap .i64 (x5734 - x5732)) x6073 x6074 x6075 h6071) ⟨rfl, trivial, by decide, rfl, trivial⟩ rfl trivial (.ren rfl rfl (.ren rfl rfl .nil)) rfl ⟨trivial, rfl⟩ rfl) rfl ?_
     refine WPL.q (q_mv (v := .tup _) rfl) rfl ?_
     refine WPL.q (q_extract rfl rfl) rfl ?_
     refine WPL.q (q_extract rfl rfl) rfl ?_
     refine WPL.q (q_fieldAddr fi48_1 rfl rfl) rfl ?_
     refine WPL.s (s_store sz43 rfl rfl rfl rfl rfl) ?_
     refine WPL.q (q_as (v := .lit (.bool _)) rfl) rfl ?_
     refine WPL.nilW ?_
     refine W.now ?_
     refine Then.n ?_
     refine WP.region ?_
     refine WPL.q (q_fieldAddr fi48_2 rfl rfl) rfl ?_
     refine WPL.q (q_load sc3 rfl rfl rfl) rfl ?_
     refine WPL.q (q_fieldAddr fi48_2 rfl rfl) rfl ?_
     refine WPL.s (s_store sz3 rfl rfl rfl rfl rfl) ?_
     refine WPL.nilW ?_
     have q0 := (Prod.mk.inj (Option.some.inj H)).1
     have q1 := (Prod.mk.inj (Prod.mk.inj (Option.some.inj H)).2).1
     have q2 := (Prod.mk.inj (Prod.mk.inj (Prod.mk.inj (Option.some.inj H)).2).2).1
     have q3 := (Prod.mk.inj (Prod.mk.inj (Prod.mk.inj (Prod.mk.inj (Option.some.inj H)).2).2).2).1
     have q4 := (Prod.mk.inj (Prod.mk.inj (Prod.mk.inj (Prod.mk.inj (Prod.mk.inj (Option.some.inj H)).2).2).2).2).1
     have q5 := (Prod.mk.inj (Prod.mk.inj (Prod.mk.inj (Prod.mk.inj (Prod.mk.inj (Prod.mk.inj (Option.some.inj H)).2).2).2).2).2).1
     have q6 := (Prod.mk.inj (Prod.mk.inj (Prod.mk.inj (Prod.mk.inj (Prod.mk.inj (Prod.mk.inj (Option.some.inj H)).2).2).2).2).2).2
     subst q0
     subst q1
     subst q2
     subst q3
     subst q4
     subst q5
     subst q6
     exact W.wk [0, 1, 2, 3] hnp (InBlock.n ⟨rfl, rfl, rfl⟩) ⟨rfl, ⟨⟨⟨⟨trivial, .inr ⟨rfl, rfl, rfl⟩⟩, .inr ⟨rfl, rfl, rfl⟩⟩, .inr ⟨rfl, rfl, rfl⟩⟩, .inr ⟨rfl, rfl, rfl⟩⟩, by decide, rfl, trivial⟩ (LeE.upd rfl rfl (LeE.upd rfl rfl (LeE.upd rfl rfl (LeE.upd rfl rfl (LeE.upd rfl rfl (LeE.none rfl rfl)))))) rfl
   replace H := cnf hb6070 H
   refine WP.skipW ?_
   have q0 := (Prod.mk.inj (Option.some.inj H)).1
   have q1 := (Prod.mk.inj (Prod.mk.inj (Option.some.inj H)).2).1
   have q2 := (Prod.mk.inj (Prod.mk.inj (Prod.mk.inj (Option.some.inj H)).2).2).1
   have q3 := (Prod.mk.inj (Prod.mk.inj (Prod.mk.inj (Prod.mk.inj (Option.some.inj H)).2).2).2).1
   have q4 := (Prod.mk.inj (Prod.mk.inj (Prod.mk.inj (Prod.mk.inj (Prod.mk.inj (Option.some.inj H)).2).2).2).2).1
   have q5 := (Prod.mk.inj (Prod.mk.inj (Prod.mk.inj (Prod.mk.inj (Prod.mk.inj (Prod.mk.inj (Option.some.inj H)).2).2).2).2).2).1
   have q6 := (Prod.mk.inj (Prod.mk.inj (Prod.mk.inj (Prod.mk.inj (Prod.mk.inj (Prod.mk.inj (Option.some.inj H)).2).2).2).2).2).2
   subst q0
   subst q1
   subst q2
   subst q3
   subst q4
   subst q5
   subst q6
   exact W.wk [0, 1, 2, 3] hnp (InBlock.n ⟨rfl, rfl, rfl⟩) ⟨rfl, ⟨⟨⟨⟨trivial, .inr ⟨rfl, rfl, rfl⟩⟩, .inr ⟨rfl, rfl, rfl⟩⟩, .inr ⟨rfl, rfl, rfl⟩⟩, .inr ⟨rfl, rfl, rfl⟩⟩, by decide, rfl, trivial⟩ (LeE.upd rfl rfl (LeE.upd rfl rfl (LeE.upd rfl rfl (LeE.upd rfl rfl (LeE.upd rfl rfl (LeE.none rfl rfl)))))) rfl
 rintro _ _ _ ⟨rfl, rfl, rfl⟩
 refine W.now ?_
 refine Then.n ?_
 refine WP.seq ?_
 refine WP.regionD' 6 [2, 3] [] mixed rfl ?_
 refine WPD.takeT 2 rfl (by kernel_rfl) (q_mv (v := .lit (.bool _)) rfl) rfl ?_
 refine WPD.take 0 rfl (by kernel_rfl) (q_load_ag ag48 rfl rfl (Nat.le_of_ble_eq_true rfl)) rfl rfl ?_
 refine WPD.take 1 rfl (by kernel_rfl) (q_load_ag ag48 rfl rfl (Nat.le_of_ble_eq_true rfl)) rfl rfl ?_
 refine WPD.effS 3 [2, 3] [] rfl (by kernel_rfl) (s_store sz48 rfl rfl rfl rfl rfl) rfl ?_
 refine WPD.effS 4 [2, 3] [] rfl (by kernel_rfl) (s_store sz48 rfl rfl rfl rfl rfl) rfl ?_
 refine WPD.takeT 5 rfl (by kernel_rfl) (q_as (v := .lit (.bool _)) rfl) rfl ?_
 refine WPD.doneW (by kernel_rfl) ?_
 refine W.now ?_
 refine Then.n ?_
 refine WP.retW ?_
 have q0 := (Prod.mk.inj (Option.some.inj H)).1
 have q1 := (Prod.mk.inj (Prod.mk.inj (Option.some.inj H)).2).1
 have q2 := (Prod.mk.inj (Prod.mk.inj (Prod.mk.inj (Option.some.inj H)).2).2).1
 have q3 := (Prod.mk.inj (Prod.mk.inj (Prod.mk.inj (Prod.mk.inj (Option.some.inj H)).2).2).2).1
 have q4 := (Prod.mk.inj (Prod.mk.inj (Prod.mk.inj (Prod.mk.inj (Prod.mk.inj (Option.some.inj H)).2).2).2).2).1
 have q5 := (Prod.mk.inj (Prod.mk.inj (Prod.mk.inj (Prod.mk.inj (Prod.mk.inj (Prod.mk.inj (Option.some.inj H)).2).2).2).2).2).1
 have q6 := (Prod.mk.inj (Prod.mk.inj (Prod.mk.inj (Prod.mk.inj (Prod.mk.inj (Prod.mk.inj (Option.some.inj H)).2).2).2).2).2).2
 subst q0
 subst q1
 subst q2
 subst q3
 subst q4
 subst q5
 subst q6
 exact W.now (BodyR.mkR trivial rfl [0, 1] ⟨rfl, rfl⟩ ⟨rfl, ⟨⟨trivial, .inr ⟨rfl, rfl, rfl⟩⟩, .inr ⟨rfl, rfl, rfl⟩⟩, by decide, rfl, trivial⟩ rfl rfl)
end Go.Proofs.YtdbeblgfccjbgaaDoor.W
