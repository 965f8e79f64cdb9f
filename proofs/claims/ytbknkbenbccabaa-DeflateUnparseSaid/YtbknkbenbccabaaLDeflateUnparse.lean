/- DeflateUnparse: whatever the input, the law returns true, and the input reads as it did. -/
import Derived.Test.YtbknkbenbccabaaRows
import Derived.Test.YtbknkbenbccabaaFc5
import Derived.Test.YtbknkbenbccabaaGa
import Derived.JoinedCond
import Derived.WalkKit
import Derived.ProofKit
import Derived.OpenShut
import Derived.ShutString
import Derived.ChangeOld
import Derived.Below
import Derived.Carry
import Derived.SizedLaws
import Derived.KernelRfl
namespace Go.Proofs.Ytbknkbenbccabaa.deflateUnparse
open Go Go.Q Go.Proofs Go.Proofs.Ytbknkbenbccabaa.W Go.ChangeShapes Go.WideShapes Go.ChangeAt Go.RowKit
open Go.ChangeMaps (open_string shut_string)
set_option linter.unusedVariables false
theorem own : ownKnob Try.prog.godebug = none := by kernel_rfl
theorem laidOut : laidOutB Try.prog = true := by kernel_rfl
theorem op3 : Opn Try.prog 3 (Rd.int .i64) (fun n => (Lit.int .i64 n).wf = true) (fun n => 1) := Opn.int Try.underlying3 (by kernel_rfl)
theorem op43 : Opn Try.prog 43 rdS_quireref04_Item (fun n => ((Lit.int .i64 n.fByte).wf = true) ∧ ((Lit.int .i64 n.fLen).wf = true) ∧ ((Lit.int .i64 n.fDist).wf = true) ∧ True) (fun n => ((1) + ((1) + ((1) + (0)))) + 1) := Opn.struct (P := Try.prog) (t := 43) (g := fun (x : S_quireref04_Item) => (x.fByte, (x.fLen, (x.fDist, ())))) (fun d => (⟨d.1, d.2.1, d.2.2.1⟩ : S_quireref04_Item)) (fun d => rfl) Try.underlying43 rfl (by kernel_rfl) (OpnP.cons op3 rfl (OpnP.cons op3 rfl (OpnP.cons op3 rfl OpnP.nil)))
theorem op40 : Opn Try.prog 40 (Rd.slice rdS_quireref04_Item) (fun n => n.length ≤ maxLen ∧ ∀ x ∈ n, ((Lit.int .i64 x.fByte).wf = true) ∧ ((Lit.int .i64 x.fLen).wf = true) ∧ ((Lit.int .i64 x.fDist).wf = true) ∧ True) (fun n => msum (fun x => ((1) + ((1) + ((1) + (0)))) + 1) n + 1) := Opn.slice Try.underlying40 (by kernel_rfl) op43 rfl
set_option maxRecDepth 100000 in
theorem lifted (os : Os) (started : os.Started) (H : Type) (enc : TypeId × Value → H) :
    ReturnsInHanded {} Try.checked os 8 .any (Rows.deflateUnparseSpec.pre6 enc Try.prog Try.f8 Rows.deflateUnparseRow.domain false) (Rows.deflateUnparseSpec.post enc Try.prog Try.f8 false true false false) := by
  refine returnsInHanded_of_change_sized (C := Try.checked) own started (by kernel_rfl) Try.func8
    (ChangeSpec.witness6 (enc := enc) (C := Try.checked) false ⟨#[], #[.slice none 0 0], []⟩ 8 (by kernel_rfl) (by kernel_rfl) (by kernel_rfl) (by kernel_rfl)) ?_
  intro W base args ds gs before hval0 hW hcnd hsz0 _
  have hsz : (DataW.weightsEach Try.prog (Try.f8.params.toList ++ Rows.deflateUnparseSpec.plain.varTypes Try.prog) (ds ++ gs)).all (· ≤ reachBytes) = true := hsz0
  have hval : ∀ (j : Nat) t v, Try.f8.params[j]? = some t → args[j]? = some v → Value.okWide Try.prog W .any base t v := hval0
  have hW' := hW
  obtain ⟨p, q, hA0, hV, rfl, hfz, hnd⟩ := hW
  have hA : DataW.TrodAll enc Try.prog W 0 (fun _ => true) true Try.f8.params.toList args.toList ds p := hA0
  rw [Try.params8] at hA hval hsz
  obtain ⟨v0, vs0, d0, ds0, p0, q0, hargs, rfl, rfl, h0, r0⟩ := trodAll_cons hA
  obtain ⟨rfl, rfl, rfl⟩ := trodAll_nil r0
  obtain rfl : args = #[v0] := by cases args; simp_all
  obtain ⟨rfl, rfl⟩ := trodVars_none hV
  obtain ⟨a0, len0, cap0, rfl⟩ := okWide_slice Try.underlying40 (hval 0 40 v0 rfl rfl)
  have k0 := h0
  have lt0 : ∀ x ∈ p0, x.block < W.heap.size := by obtain ⟨m, hm⟩ := k0; exact DataW.trod_lt m _ _ _ hm
  obtain ⟨fuel0, hf0⟩ := h0
  obtain ⟨z0, e0, w0, m0⟩ := op40.2 H enc W fuel0 _ _ hf0
  have u0 : z0.length * 24 ≤ 140737488351232 := by
    rcases slice_weight Try.underlying40 hf0 e0 with h | ⟨elems, spare, hx, hn⟩
    · rw [h]; decide
    · have z := sized_slice hsz (j := 0) (t := 40) rfl (congrArg some hx) Try.underlying40
      rw [show Try.prog.bytesOf 43 = 24 from by kernel_rfl] at z
      have z2 : reachBytes = 140737488351232 := by decide
      rw [Nat.add_mul, hn] at z
      omega
  clear hA0 hval0 hsz0 hsz
  obtain ⟨k, hk⟩ := Go.Proofs.Ytbknkbenbccabaa.W.deflateUnparse z0 w0 u0
  refine Calls.mono (Go.Q.Spec.law (s_quirelaw04_DeflateUnparse k z0 true hk) (vs := [(.slice a0 len0 cap0)]) (W := W) ⟨_, _, rfl, (by simp only [Val, Nv.mem_false]; exact e0), rfl⟩) fun e W' ⟨he, bel⟩ => ?_
  subst he
  exact ⟨_, rfl, _, _, _, [], _, [], hW', trodAll_mk1 (shut_bool Try.underlying4 _), (trodAll_cons_mk (Below.trod laidOut (by kernel_rfl) (of_decide_eq_true (by kernel_rfl)) k0 bel lt0) trodAll_mk0), rfl, bel.frame _, fun h => by cases h⟩
theorem over : Rows.deflateUnparseRow.holds Try.pinned (OpenSpec.ofChange Rows.deflateUnparseSpec) :=
  OpenClaim.holds_of_wide 8 Try.f8 rfl rfl rfl rfl rfl rfl rfl ⟨rfl, rfl, rfl, rfl, rfl⟩ rfl rfl rfl rfl rfl (by kernel_rfl) Try.func8 (by kernel_rfl)
    (of_decide_eq_true (by kernel_rfl)) (by unfold Func.isWrapper; first | (rw [if_pos (by decide +kernel)]; kernel_rfl) | (rw [if_neg (by decide +kernel)]; exact ⟨rfl, rfl⟩))
    (fun os started H enc _ => lifted os started H enc)
theorem proved : Rows.DeflateUnparseSaid := over
end Go.Proofs.Ytbknkbenbccabaa.deflateUnparse
namespace Go.Proofs.Ytbknkbenbccabaa
/-- The row, under a short name. -/
theorem deflateUnparse_holds : Rows.DeflateUnparseSaid := deflateUnparse.proved
#print axioms deflateUnparse_holds
end Go.Proofs.Ytbknkbenbccabaa
