/- DecLaws: whatever the input, the law returns true, and the input reads as it did. -/
import Derived.Test.YtdbeblgfccjbgaaSDecLawse
import Derived.Test.YtdbeblgfccjbgaaRows
import Derived.JoinedCond
import Derived.WalkKit
import Derived.ProofKit
import Derived.OpenShut
import Derived.ShutString
import Derived.ChangeOld
import Derived.Below
import Derived.Carry
import Derived.SizedLaws
import Derived.KernelRfl
namespace Go.Proofs.Ytdbeblgfccjbgaa.decLaws
open Go Go.Q Go.Proofs Go.Proofs.Ytdbeblgfccjbgaa.W Go.ChangeShapes Go.WideShapes Go.ChangeAt Go.RowKit
open Go.ChangeMaps (open_string shut_string)
set_option linter.unusedVariables false
theorem own : ownKnob Try.prog.godebug = none := by kernel_rfl
theorem laidOut : laidOutB Try.prog = true := by kernel_rfl
theorem op3 : Opn Try.prog 3 (Rd.int .i64) (fun n => (Lit.int .i64 n).wf = true) (fun n => 1) := Opn.int Try.underlying3 (by kernel_rfl)
theorem op2 : Opn Try.prog 2 (Rd.int .i64) (fun n => (Lit.int .i64 n).wf = true) (fun n => 1) := Opn.int Try.underlying2 (by kernel_rfl)
theorem op23 : Opn Try.prog 23 rdS_api_Dec (fun n => ((Lit.int .i64 n.fC).wf = true) ∧ ((Lit.int .i64 n.fE).wf = true) ∧ True) (fun n => ((1) + ((1) + (0))) + 1) := Opn.struct (P := Try.prog) (t := 23) (g := fun (x : S_api_Dec) => (x.fC, (x.fE, ()))) (fun d => (⟨d.1, d.2.1⟩ : S_api_Dec)) (fun d => rfl) Try.underlying23 rfl (by kernel_rfl) (OpnP.cons op2 rfl (OpnP.cons op3 rfl OpnP.nil))
set_option maxRecDepth 100000 in
theorem lifted (os : Os) (started : os.Started) (H : Type) (enc : TypeId × Value → H) :
    ReturnsInHanded {} Try.checked os 6 .any (Rows.decLawsSpec.pre6 enc Try.prog Try.f6 Rows.decLawsRow.domain false) (Rows.decLawsSpec.post enc Try.prog Try.f6 false true false false) := by
  refine returnsInHanded_of_change_sized (C := Try.checked) own started (by kernel_rfl) Try.func6
    (ChangeSpec.witness6 (enc := enc) (C := Try.checked) false ⟨#[], #[.agg #[.int .i64 0, .int .i64 0], .agg #[.int .i64 0, .int .i64 0]], []⟩ 8 (by kernel_rfl) (by kernel_rfl) (by kernel_rfl) (by kernel_rfl)) ?_
  intro W base args ds gs before hval0 hW hcnd hsz0 _
  have hsz : (DataW.weightsEach Try.prog (Try.f6.params.toList ++ Rows.decLawsSpec.plain.varTypes Try.prog) (ds ++ gs)).all (· ≤ reachBytes) = true := hsz0
  have hval : ∀ (j : Nat) t v, Try.f6.params[j]? = some t → args[j]? = some v → Value.okWide Try.prog W .any base t v := hval0
  have hW' := hW
  obtain ⟨p, q, hA0, hV, rfl, hfz, hnd⟩ := hW
  have hA : DataW.TrodAll enc Try.prog W 0 (fun _ => true) true Try.f6.params.toList args.toList ds p := hA0
  rw [Try.params6] at hA hval hsz
  obtain ⟨v0, vs0, d0, ds0, p0, q0, hargs, rfl, rfl, h0, r0⟩ := trodAll_cons hA
  obtain ⟨v1, vs1, d1, ds1, p1, q1, rfl, rfl, rfl, h1, r1⟩ := trodAll_cons r0
  obtain ⟨rfl, rfl, rfl⟩ := trodAll_nil r1
  obtain rfl : args = #[v0, v1] := by cases args; simp_all
  obtain ⟨rfl, rfl⟩ := trodVars_none hV
  obtain ⟨c0, rfl, _⟩ := okWide_struct Try.underlying23 (hval 0 23 v0 rfl rfl)
  have k0 := h0
  have lt0 : ∀ x ∈ p0, x.block < W.heap.size := by obtain ⟨m, hm⟩ := k0; exact DataW.trod_lt m _ _ _ hm
  obtain ⟨fuel0, hf0⟩ := h0
  obtain ⟨z0, e0, w0, m0⟩ := op23.2 H enc W fuel0 _ _ hf0
  obtain ⟨c1, rfl, _⟩ := okWide_struct Try.underlying23 (hval 1 23 v1 rfl rfl)
  have k1 := h1
  have lt1 : ∀ x ∈ p1, x.block < W.heap.size := by obtain ⟨m, hm⟩ := k1; exact DataW.trod_lt m _ _ _ hm
  obtain ⟨fuel1, hf1⟩ := h1
  obtain ⟨z1, e1, w1, m1⟩ := op23.2 H enc W fuel1 _ _ hf1
  clear hA0 hval0 hsz0 hsz
  obtain ⟨k, hk⟩ := decLaws z0 z1 w0 w1
  refine Calls.mono (Go.Q.Spec.law (s_quirelaw09_DecLaws k z0.fC z0.fE z1.fC z1.fE true hk) (vs := [(.agg c0), (.agg c1)]) (W := W) ⟨_, _, rfl, (by simp only [Val]; exact ⟨c0.toList, by simp, S_api_Dec.sp (b := false) _ _ (by simp only [Nv.mem_false]; exact e0), (rdS_api_Dec).one e0⟩), ⟨_, _, rfl, (by simp only [Val]; exact ⟨c1.toList, by simp, S_api_Dec.sp (b := false) _ _ (by simp only [Nv.mem_false]; exact e1), (rdS_api_Dec).one e1⟩), rfl⟩⟩) fun e W' ⟨he, bel⟩ => ?_
  subst he
  exact ⟨_, rfl, _, _, _, [], _, [], hW', trodAll_mk1 (shut_bool Try.underlying4 _), (trodAll_cons_mk (Below.trod laidOut (by kernel_rfl) (of_decide_eq_true (by kernel_rfl)) k0 bel lt0) (trodAll_cons_mk (Below.trod laidOut (by kernel_rfl) (of_decide_eq_true (by kernel_rfl)) k1 bel lt1) trodAll_mk0)), rfl, bel.frame _, fun h => by cases h⟩
theorem over : Rows.decLawsRow.holds Try.pinned (OpenSpec.ofChange Rows.decLawsSpec) :=
  OpenClaim.holds_of_wide 6 Try.f6 rfl rfl rfl rfl rfl rfl rfl ⟨rfl, rfl, rfl, rfl, rfl⟩ rfl rfl rfl rfl rfl (by kernel_rfl) Try.func6 (by kernel_rfl)
    (of_decide_eq_true (by kernel_rfl)) (by unfold Func.isWrapper; first | (rw [if_pos (by decide +kernel)]; kernel_rfl) | (rw [if_neg (by decide +kernel)]; exact ⟨rfl, rfl⟩))
    (fun os started H enc _ => lifted os started H enc)
theorem proved : Rows.DecLawsSaid := over
end Go.Proofs.Ytdbeblgfccjbgaa.decLaws
namespace Go.Proofs.Ytdbeblgfccjbgaa
/-- The row, under a short name. -/
theorem decLaws_holds : Rows.DecLawsSaid := decLaws.proved
#print axioms decLaws_holds
end Go.Proofs.Ytdbeblgfccjbgaa
