/- DecOrder: whatever the input, the law returns true, and the input reads as it did. -/
import Derived.Test.YtdbeblgfccjbgaaSDecOrdere
import Derived.Test.YtdbeblgfccjbgaaRows
import Derived.JoinedCond
import Derived.WalkKit
import Derived.ProofKit
import Derived.OpenShut
import Derived.ShutString
import Derived.ChangeOld
import Derived.Below
import Derived.Carry
import Derived.SizedLaws
import Derived.KernelRfl
namespace Go.Proofs.Ytdbeblgfccjbgaa.decOrder
open Go Go.Q Go.Proofs Go.Proofs.Ytdbeblgfccjbgaa.W Go.ChangeShapes Go.WideShapes Go.ChangeAt Go.RowKit
open Go.ChangeMaps (open_string shut_string)
set_option linter.unusedVariables false
theorem own : ownKnob Try.prog.godebug = none := by kernel_rfl
theorem laidOut : laidOutB Try.prog = true := by kernel_rfl
theorem op3 : Opn Try.prog 3 (Rd.int .i64) (fun n => (Lit.int .i64 n).wf = true) (fun n => 1) := Opn.int Try.underlying3 (by kernel_rfl)
theorem op2 : Opn Try.prog 2 (Rd.int .i64) (fun n => (Lit.int .i64 n).wf = true) (fun n => 1) := Opn.int Try.underlying2 (by kernel_rfl)
theorem op23 : Opn Try.prog 23 rdS_api_Dec (fun n => ((Lit.int .i64 n.fC).wf = true) ∧ ((Lit.int .i64 n.fE).wf = true) ∧ True) (fun n => ((1) + ((1) + (0))) + 1) := Opn.struct (P := Try.prog) (t := 23) (g := fun (x : S_api_Dec) => (x.fC, (x.fE, ()))) (fun d => (⟨d.1, d.2.1⟩ : S_api_Dec)) (fun d => rfl) Try.underlying23 rfl (by kernel_rfl) (OpnP.cons op2 rfl (OpnP.cons op3 rfl OpnP.nil))
set_option maxRecDepth 100000 in
theorem lifted (os : Os) (started : os.Started) (H : Type) (enc : TypeId × Value → H) :
    ReturnsInHanded {} Try.checked os 5 .any (Rows.decOrderSpec.pre6 enc Try.prog Try.f5 Rows.decOrderRow.domain false) (Rows.decOrderSpec.post enc Try.prog Try.f5 false true false false) := by
  refine returnsInHanded_of_change_sized (C := Try.checked) own started (by kernel_rfl) Try.func5
    (ChangeSpec.witness6 (enc := enc) (C := Try.checked) false ⟨#[], #[.agg #[.int .i64 0, .int .i64 0], .agg #[.int .i64 0, .int .i64 0], .agg #[.int .i64 0, .int .i64 0], .int .i64 0], []⟩ 8 (by kernel_rfl) (by kernel_rfl) (by kernel_rfl) (by kernel_rfl)) ?_
  intro W base args ds gs before hval0 hW hcnd hsz0 _
  have hsz : (DataW.weightsEach Try.prog (Try.f5.params.toList ++ Rows.decOrderSpec.plain.varTypes Try.prog) (ds ++ gs)).all (· ≤ reachBytes) = true := hsz0
  have hval : ∀ (j : Nat) t v, Try.f5.params[j]? = some t → args[j]? = some v → Value.okWide Try.prog W .any base t v := hval0
  have hW' := hW
  obtain ⟨p, q, hA0, hV, rfl, hfz, hnd⟩ := hW
  have hA : DataW.TrodAll enc Try.prog W 0 (fun _ => true) true Try.f5.params.toList args.toList ds p := hA0
  rw [Try.params5] at hA hval hsz
  obtain ⟨v0, vs0, d0, ds0, p0, q0, hargs, rfl, rfl, h0, r0⟩ := trodAll_cons hA
  obtain ⟨v1, vs1, d1, ds1, p1, q1, rfl, rfl, rfl, h1, r1⟩ := trodAll_cons r0
  obtain ⟨v2, vs2, d2, ds2, p2, q2, rfl, rfl, rfl, h2, r2⟩ := trodAll_cons r1
  obtain ⟨v3, vs3, d3, ds3, p3, q3, rfl, rfl, rfl, h3, r3⟩ := trodAll_cons r2
  obtain ⟨rfl, rfl, rfl⟩ := trodAll_nil r3
  obtain rfl : args = #[v0, v1, v2, v3] := by cases args; simp_all
  obtain ⟨rfl, rfl⟩ := trodVars_none hV
  obtain ⟨c0, rfl, _⟩ := okWide_struct Try.underlying23 (hval 0 23 v0 rfl rfl)
  have k0 := h0
  have lt0 : ∀ x ∈ p0, x.block < W.heap.size := by obtain ⟨m, hm⟩ := k0; exact DataW.trod_lt m _ _ _ hm
  obtain ⟨fuel0, hf0⟩ := h0
  obtain ⟨z0, e0, w0, m0⟩ := op23.2 H enc W fuel0 _ _ hf0
  obtain ⟨c1, rfl, _⟩ := okWide_struct Try.underlying23 (hval 1 23 v1 rfl rfl)
  have k1 := h1
  have lt1 : ∀ x ∈ p1, x.block < W.heap.size := by obtain ⟨m, hm⟩ := k1; exact DataW.trod_lt m _ _ _ hm
  obtain ⟨fuel1, hf1⟩ := h1
  obtain ⟨z1, e1, w1, m1⟩ := op23.2 H enc W fuel1 _ _ hf1
  obtain ⟨c2, rfl, _⟩ := okWide_struct Try.underlying23 (hval 2 23 v2 rfl rfl)
  have k2 := h2
  have lt2 : ∀ x ∈ p2, x.block < W.heap.size := by obtain ⟨m, hm⟩ := k2; exact DataW.trod_lt m _ _ _ hm
  obtain ⟨fuel2, hf2⟩ := h2
  obtain ⟨z2, e2, w2, m2⟩ := op23.2 H enc W fuel2 _ _ hf2
  obtain ⟨a3, rfl, rfl, rfl, w3⟩ := open_int Try.underlying3 (hval 3 3 v3 rfl rfl) h3
  clear hA0 hval0 hsz0 hsz
  obtain ⟨k, hk⟩ := decOrder z0 z1 z2 a3 w0 w1 w2 w3
  refine Calls.mono (Go.Q.Spec.law (s_quirelaw09_DecOrder k z0.fC z0.fE z1.fC z1.fE z2.fC z2.fE a3 true hk) (vs := [(.agg c0), (.agg c1), (.agg c2), (.int .i64 a3)]) (W := W) ⟨_, _, rfl, (by simp only [Val]; exact ⟨c0.toList, by simp, S_api_Dec.sp (b := false) _ _ (by simp only [Nv.mem_false]; exact e0), (rdS_api_Dec).one e0⟩), ⟨_, _, rfl, (by simp only [Val]; exact ⟨c1.toList, by simp, S_api_Dec.sp (b := false) _ _ (by simp only [Nv.mem_false]; exact e1), (rdS_api_Dec).one e1⟩), ⟨_, _, rfl, (by simp only [Val]; exact ⟨c2.toList, by simp, S_api_Dec.sp (b := false) _ _ (by simp only [Nv.mem_false]; exact e2), (rdS_api_Dec).one e2⟩), ⟨_, _, rfl, rfl, rfl⟩⟩⟩⟩) fun e W' ⟨he, bel⟩ => ?_
  subst he
  exact ⟨_, rfl, _, _, _, [], _, [], hW', trodAll_mk1 (shut_bool Try.underlying4 _), (trodAll_cons_mk (Below.trod laidOut (by kernel_rfl) (of_decide_eq_true (by kernel_rfl)) k0 bel lt0) (trodAll_cons_mk (Below.trod laidOut (by kernel_rfl) (of_decide_eq_true (by kernel_rfl)) k1 bel lt1) (trodAll_cons_mk (Below.trod laidOut (by kernel_rfl) (of_decide_eq_true (by kernel_rfl)) k2 bel lt2) (trodAll_cons_mk (shut_int Try.underlying3 w3) trodAll_mk0)))), rfl, bel.frame _, fun h => by cases h⟩
theorem over : Rows.decOrderRow.holds Try.pinned (OpenSpec.ofChange Rows.decOrderSpec) :=
  OpenClaim.holds_of_wide 5 Try.f5 rfl rfl rfl rfl rfl rfl rfl ⟨rfl, rfl, rfl, rfl, rfl⟩ rfl rfl rfl rfl rfl (by kernel_rfl) Try.func5 (by kernel_rfl)
    (of_decide_eq_true (by kernel_rfl)) (by unfold Func.isWrapper; first | (rw [if_pos (by decide +kernel)]; kernel_rfl) | (rw [if_neg (by decide +kernel)]; exact ⟨rfl, rfl⟩))
    (fun os started H enc _ => lifted os started H enc)
theorem proved : Rows.DecOrderSaid := over
end Go.Proofs.Ytdbeblgfccjbgaa.decOrder
namespace Go.Proofs.Ytdbeblgfccjbgaa
/-- The row, under a short name. -/
theorem decOrder_holds : Rows.DecOrderSaid := decOrder.proved
#print axioms decOrder_holds
end Go.Proofs.Ytdbeblgfccjbgaa
