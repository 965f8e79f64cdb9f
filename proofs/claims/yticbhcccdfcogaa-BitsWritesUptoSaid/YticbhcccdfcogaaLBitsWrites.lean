/- BitsWrites: whatever the input (of bulk at most 1048576), the law returns true, and the input reads as it did. -/
import Derived.Test.YticbhcccdfcogaaRows
import Derived.Test.YticbhcccdfcogaaFc2
import Derived.Test.YticbhcccdfcogaaGf
import Derived.JoinedCond
import Derived.WalkKit
import Derived.ProofKit
import Derived.OpenShut
import Derived.ShutString
import Derived.ChangeOld
import Derived.Below
import Derived.Carry
import Derived.SizedLaws
import Derived.KernelRfl
namespace Go.Proofs.Yticbhcccdfcogaa.bitsWrites
open Go Go.Q Go.Proofs Go.Proofs.Yticbhcccdfcogaa.W Go.ChangeShapes Go.WideShapes Go.ChangeAt Go.RowKit
open Go.ChangeMaps (open_string shut_string)
set_option linter.unusedVariables false
theorem own : ownKnob Try.prog.godebug = none := by kernel_rfl
theorem laidOut : laidOutB Try.prog = true := by kernel_rfl
theorem op5 : Opn Try.prog 5 (Rd.int .u8) (fun n => (Lit.int .u8 n).wf = true) (fun n => 1) := Opn.int Try.underlying5 (by kernel_rfl)
theorem op23 : Opn Try.prog 23 (Rd.slice (Rd.int .u8)) (fun n => n.length ≤ maxLen ∧ ∀ x ∈ n, (Lit.int .u8 x).wf = true) (fun n => msum (fun x => 1) n + 1) := Opn.slice Try.underlying23 (by kernel_rfl) op5 rfl
theorem op22 : Opn Try.prog 22 (Rd.int .u32) (fun n => (Lit.int .u32 n).wf = true) (fun n => 1) := Opn.int Try.underlying22 (by kernel_rfl)
theorem op3 : Opn Try.prog 3 (Rd.int .i64) (fun n => (Lit.int .i64 n).wf = true) (fun n => 1) := Opn.int Try.underlying3 (by kernel_rfl)
theorem op34 : Opn Try.prog 34 rdS34Op (fun n => ((Lit.int .i64 n.fKind).wf = true) ∧ ((Lit.int .i64 n.fN).wf = true) ∧ ((Lit.int .u32 n.fV).wf = true) ∧ (n.fB.length ≤ maxLen ∧ ∀ x ∈ n.fB, (Lit.int .u8 x).wf = true) ∧ True) (fun n => ((1) + ((1) + ((1) + ((msum (fun x => 1) n.fB + 1) + (0))))) + 1) := Opn.struct (P := Try.prog) (t := 34) (g := fun (x : S34Op) => (x.fKind, (x.fN, (x.fV, (x.fB, ()))))) (fun d => (⟨d.1, d.2.1, d.2.2.1, d.2.2.2.1⟩ : S34Op)) (fun d => rfl) Try.underlying34 rfl (by kernel_rfl) (OpnP.cons op3 rfl (OpnP.cons op3 rfl (OpnP.cons op22 rfl (OpnP.cons op23 rfl OpnP.nil))))
theorem op28 : Opn Try.prog 28 (Rd.slice rdS34Op) (fun n => n.length ≤ maxLen ∧ ∀ x ∈ n, ((Lit.int .i64 x.fKind).wf = true) ∧ ((Lit.int .i64 x.fN).wf = true) ∧ ((Lit.int .u32 x.fV).wf = true) ∧ (x.fB.length ≤ maxLen ∧ ∀ y ∈ x.fB, (Lit.int .u8 y).wf = true) ∧ True) (fun n => msum (fun x => ((1) + ((1) + ((1) + ((msum (fun y => 1) x.fB + 1) + (0))))) + 1) n + 1) := Opn.slice Try.underlying28 (by kernel_rfl) op34 rfl
def meas (H : Type) : Meas H where
  u := Rows.uptoBulk
  ua := Rows.uptoBulkAll
  nil := by simp [Rows.uptoBulk]
  lit := fun l => by cases l <;> simp [Rows.uptoBulk]
  str := fun b => by simp [Rows.uptoBulk]
  ptr := fun d => by simp [Rows.uptoBulk]
  slice := fun e s => by simp [Rows.uptoBulk]
  agg := fun l => by simp [Rows.uptoBulk]
  cons := fun d r => by simp [Rows.uptoBulkAll]
set_option maxRecDepth 100000 in
theorem lifted (os : Os) (started : os.Started) (H : Type) (enc : TypeId × Value → H) (F0 : Stop.Interp) :
    ReturnsInHanded {} Try.checked os 5 .any ((Rows.OpenSpec.upto Rows.bitsWritesSpec).pre6 enc Try.prog Try.f5 Rows.bitsWritesUptoRow.domain false) (((Rows.OpenSpec.upto Rows.bitsWritesSpec).at F0).post enc Try.prog Try.f5 false true false false) := by
  refine returnsInHanded_of_cond (C := Try.checked) (s := (Rows.OpenSpec.upto Rows.bitsWritesSpec)) (k := Rows.uptoSmall) rfl own started (by kernel_rfl) Try.func5
    (OpenSpec.witness (enc := enc) (C := Try.checked) (s := (Rows.OpenSpec.upto Rows.bitsWritesSpec)) (k := Rows.uptoSmall) rfl false ⟨#[], #[.slice none 0 0], []⟩ 8 (by kernel_rfl) (by kernel_rfl) (by kernel_rfl)
      (x := ([.nil], [], [])) (by kernel_rfl) (by kernel_rfl) (by kernel_rfl)) ?_
  intro W base args ds gs before hval0 hW _ hsz _
  have hval : ∀ (j : Nat) t v, Try.f5.params[j]? = some t → args[j]? = some v → Value.okWide Try.prog W .any base t v := hval0
  have hW' := hW
  obtain ⟨p, q, hA0, hV, rfl, hfz, hnd⟩ := hW
  have hA : DataW.TrodAll enc Try.prog W 0 (fun _ => true) true Try.f5.params.toList args.toList ds p := hA0
  rw [Try.params5] at hA hval
  obtain ⟨v0, vs0, d0, ds0, p0, q0, hargs, rfl, rfl, h0, r0⟩ := trodAll_cons hA
  obtain ⟨rfl, rfl, rfl⟩ := trodAll_nil r0
  obtain rfl : args = #[v0] := by cases args; simp_all
  obtain ⟨rfl, rfl⟩ := trodVars_none hV
  obtain ⟨a0, len0, cap0, rfl⟩ := okWide_slice Try.underlying28 (hval 0 28 v0 rfl rfl)
  have k0 := h0
  have lt0 : ∀ x ∈ p0, x.block < W.heap.size := by obtain ⟨m, hm⟩ := k0; exact DataW.trod_lt m _ _ _ hm
  obtain ⟨fuel0, hf0⟩ := h0
  obtain ⟨z0, e0, w0, m0⟩ := op28.2 H enc W fuel0 _ _ hf0
  have ub : Rows.uptoBulkAll ([d0]) ≤ 1048576 := of_decide_eq_true hsz
  simp only [Rows.uptoBulkAll] at ub
  have m0' := m0 (meas H)
  have m0'' : msum (fun x => ((1) + ((1) + ((1) + ((msum (fun y => 1) x.fB + 1) + (0))))) + 1) z0 + 1 ≤ 1048576 := Nat.le_trans m0' (by show Rows.uptoBulk d0 ≤ _; omega)
  clear hA0 hval0
  obtain ⟨k, hk⟩ := Go.Proofs.Yticbhcccdfcogaa.W.bitsWrites z0 w0 m0''
  refine Calls.mono (Go.Q.Spec.law (s5 k z0 true hk) (vs := [(.slice a0 len0 cap0)]) (W := W) ⟨_, _, rfl, (by simp only [Val, Nv.mem_false]; exact e0), rfl⟩) fun e W' ⟨he, bel⟩ => ?_
  subst he
  exact ⟨_, rfl, _, _, _, [], _, [], hW', trodAll_mk1 (shut_bool Try.underlying4 _), (trodAll_cons_mk (Below.trod laidOut (by kernel_rfl) (of_decide_eq_true (by kernel_rfl)) k0 bel lt0) trodAll_mk0), rfl, bel.frame _, fun h => by cases h⟩
theorem over : Rows.bitsWritesUptoRow.holds Try.pinned (Rows.OpenSpec.upto Rows.bitsWritesSpec) :=
  OpenClaim.holds_of_cond 5 Try.f5 rfl rfl rfl rfl rfl rfl rfl ⟨rfl, rfl, rfl, rfl, rfl⟩ rfl rfl rfl rfl rfl (by kernel_rfl) Try.func5 (by kernel_rfl)
    (of_decide_eq_true (by kernel_rfl)) (by unfold Func.isWrapper; first | (rw [if_pos (by decide +kernel)]; kernel_rfl) | (rw [if_neg (by decide +kernel)]; exact ⟨rfl, rfl⟩))
    (fun os started H enc _ F0 => lifted os started H enc F0)
theorem proved : Rows.BitsWritesUptoSaid := over
end Go.Proofs.Yticbhcccdfcogaa.bitsWrites
namespace Go.Proofs.Yticbhcccdfcogaa
/-- The row, under a short name. -/
theorem bitsWrites_holds : Rows.BitsWritesUptoSaid := bitsWrites.proved
#print axioms bitsWrites_holds
end Go.Proofs.Yticbhcccdfcogaa
