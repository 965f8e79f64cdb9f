/- DeflateRow: whatever the input, the law returns true, and the input reads as it did. -/
import Derived.Test.YtbknkbenbccabaaRows
import Derived.Test.YtbknkbenbccabaaFc3
import Derived.Test.YtbknkbenbccabaaGa
import Derived.JoinedCond
import Derived.WalkKit
import Derived.ProofKit
import Derived.OpenShut
import Derived.ShutString
import Derived.ChangeOld
import Derived.Below
import Derived.Carry
import Derived.SizedLaws
import Derived.KernelRfl
namespace Go.Proofs.Ytbknkbenbccabaa.deflateRow
open Go Go.Q Go.Proofs Go.Proofs.Ytbknkbenbccabaa.W Go.ChangeShapes Go.WideShapes Go.ChangeAt Go.RowKit
open Go.ChangeMaps (open_string shut_string)
set_option linter.unusedVariables false
theorem own : ownKnob Try.prog.godebug = none := by kernel_rfl
theorem laidOut : laidOutB Try.prog = true := by kernel_rfl
theorem op3 : Opn Try.prog 3 (Rd.int .i64) (fun n => (Lit.int .i64 n).wf = true) (fun n => 1) := Opn.int Try.underlying3 (by kernel_rfl)
theorem op32 : Opn Try.prog 32 (Rd.slice (Rd.int .i64)) (fun n => n.length ≤ maxLen ∧ ∀ x ∈ n, (Lit.int .i64 x).wf = true) (fun n => msum (fun x => 1) n + 1) := Opn.slice Try.underlying32 (by kernel_rfl) op3 rfl
set_option maxRecDepth 100000 in
theorem lifted (os : Os) (started : os.Started) (H : Type) (enc : TypeId × Value → H) :
    ReturnsInHanded {} Try.checked os 6 .any (Rows.deflateRowSpec.pre6 enc Try.prog Try.f6 Rows.deflateRowRow.domain false) (Rows.deflateRowSpec.post enc Try.prog Try.f6 false true false false) := by
  refine returnsInHanded_of_change_sized (C := Try.checked) own started (by kernel_rfl) Try.func6
    (ChangeSpec.witness6 (enc := enc) (C := Try.checked) false ⟨#[], #[.slice none 0 0], []⟩ 8 (by kernel_rfl) (by kernel_rfl) (by kernel_rfl) (by kernel_rfl)) ?_
  intro W base args ds gs before hval0 hW hcnd hsz0 _
  have hsz : (DataW.weightsEach Try.prog (Try.f6.params.toList ++ Rows.deflateRowSpec.plain.varTypes Try.prog) (ds ++ gs)).all (· ≤ reachBytes) = true := hsz0
  have hval : ∀ (j : Nat) t v, Try.f6.params[j]? = some t → args[j]? = some v → Value.okWide Try.prog W .any base t v := hval0
  have hW' := hW
  obtain ⟨p, q, hA0, hV, rfl, hfz, hnd⟩ := hW
  have hA : DataW.TrodAll enc Try.prog W 0 (fun _ => true) true Try.f6.params.toList args.toList ds p := hA0
  rw [Try.params6] at hA hval hsz
  obtain ⟨v0, vs0, d0, ds0, p0, q0, hargs, rfl, rfl, h0, r0⟩ := trodAll_cons hA
  obtain ⟨rfl, rfl, rfl⟩ := trodAll_nil r0
  obtain rfl : args = #[v0] := by cases args; simp_all
  obtain ⟨rfl, rfl⟩ := trodVars_none hV
  obtain ⟨a0, len0, cap0, rfl⟩ := okWide_slice Try.underlying32 (hval 0 32 v0 rfl rfl)
  have k0 := h0
  have lt0 : ∀ x ∈ p0, x.block < W.heap.size := by obtain ⟨m, hm⟩ := k0; exact DataW.trod_lt m _ _ _ hm
  obtain ⟨fuel0, hf0⟩ := h0
  obtain ⟨z0, e0, w0, m0⟩ := op32.2 H enc W fuel0 _ _ hf0
  have u0 : z0.length * 8 ≤ 140737488351232 := by
    rcases slice_weight Try.underlying32 hf0 e0 with h | ⟨elems, spare, hx, hn⟩
    · rw [h]; decide
    · have z := sized_slice hsz (j := 0) (t := 32) rfl (congrArg some hx) Try.underlying32
      rw [show Try.prog.bytesOf 3 = 8 from by kernel_rfl] at z
      have z2 : reachBytes = 140737488351232 := by decide
      rw [Nat.add_mul, hn] at z
      omega
  clear hA0 hval0 hsz0 hsz
  obtain ⟨k, hk⟩ := Go.Proofs.Ytbknkbenbccabaa.W.deflateRow z0 w0 u0
  refine Calls.mono (Go.Q.Spec.law (s_quirelaw04_DeflateRow k z0 true hk) (vs := [(.slice a0 len0 cap0)]) (W := W) ⟨_, _, rfl, (by simp only [Val, Nv.mem_false]; exact e0), rfl⟩) fun e W' ⟨he, bel⟩ => ?_
  subst he
  exact ⟨_, rfl, _, _, _, [], _, [], hW', trodAll_mk1 (shut_bool Try.underlying4 _), (trodAll_cons_mk (Below.trod laidOut (by kernel_rfl) (of_decide_eq_true (by kernel_rfl)) k0 bel lt0) trodAll_mk0), rfl, bel.frame _, fun h => by cases h⟩
theorem over : Rows.deflateRowRow.holds Try.pinned (OpenSpec.ofChange Rows.deflateRowSpec) :=
  OpenClaim.holds_of_wide 6 Try.f6 rfl rfl rfl rfl rfl rfl rfl ⟨rfl, rfl, rfl, rfl, rfl⟩ rfl rfl rfl rfl rfl (by kernel_rfl) Try.func6 (by kernel_rfl)
    (of_decide_eq_true (by kernel_rfl)) (by unfold Func.isWrapper; first | (rw [if_pos (by decide +kernel)]; kernel_rfl) | (rw [if_neg (by decide +kernel)]; exact ⟨rfl, rfl⟩))
    (fun os started H enc _ => lifted os started H enc)
theorem proved : Rows.DeflateRowSaid := over
end Go.Proofs.Ytbknkbenbccabaa.deflateRow
namespace Go.Proofs.Ytbknkbenbccabaa
/-- The row, under a short name. -/
theorem deflateRow_holds : Rows.DeflateRowSaid := deflateRow.proved
#print axioms deflateRow_holds
end Go.Proofs.Ytbknkbenbccabaa
