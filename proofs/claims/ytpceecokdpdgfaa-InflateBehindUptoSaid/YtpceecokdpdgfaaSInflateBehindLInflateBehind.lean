/- InflateBehind: whatever the input (of bulk at most 1048576), the law returns true, and the input reads as it did. -/
import Derived.Test.YtpceecokdpdgfaaSInflateBehinde
import Derived.Test.YtpceecokdpdgfaaRows
import Derived.JoinedCond
import Derived.WalkKit
import Derived.ProofKit
import Derived.OpenShut
import Derived.ShutString
import Derived.ChangeOld
import Derived.Below
import Derived.Carry
import Derived.SizedLaws
import Derived.KernelRfl
namespace Go.Proofs.Ytpceecokdpdgfaa.inflateBehind
open Go Go.Q Go.Proofs Go.Proofs.Ytpceecokdpdgfaa.W Go.ChangeShapes Go.WideShapes Go.ChangeAt Go.RowKit
open Go.ChangeMaps (open_string shut_string)
set_option linter.unusedVariables false
theorem own : ownKnob Try.prog.godebug = none := by kernel_rfl
theorem laidOut : laidOutB Try.prog = true := by kernel_rfl
theorem op5 : Opn Try.prog 5 (Rd.int .u8) (fun n => (Lit.int .u8 n).wf = true) (fun n => 1) := Opn.int Try.underlying5 (by kernel_rfl)
theorem op29 : Opn Try.prog 29 (Rd.slice (Rd.int .u8)) (fun n => n.length ≤ maxLen ∧ ∀ x ∈ n, (Lit.int .u8 x).wf = true) (fun n => msum (fun x => 1) n + 1) := Opn.slice Try.underlying29 (by kernel_rfl) op5 rfl
def meas (H : Type) : Meas H where
  u := Rows.uptoBulk
  ua := Rows.uptoBulkAll
  nil := by simp [Rows.uptoBulk]
  lit := fun l => by cases l <;> simp [Rows.uptoBulk]
  str := fun b => by simp [Rows.uptoBulk]
  ptr := fun d => by simp [Rows.uptoBulk]
  slice := fun e s => by simp [Rows.uptoBulk]
  agg := fun l => by simp [Rows.uptoBulk]
  cons := fun d r => by simp [Rows.uptoBulkAll]
set_option maxRecDepth 100000 in
theorem lifted (os : Os) (started : os.Started) (H : Type) (enc : TypeId × Value → H) (F0 : Stop.Interp) :
    ReturnsInHanded {} Try.checked os 4 .any ((Rows.OpenSpec.upto Rows.inflateBehindSpec).pre6 enc Try.prog Try.f4 Rows.inflateBehindUptoRow.domain false) (((Rows.OpenSpec.upto Rows.inflateBehindSpec).at F0).post enc Try.prog Try.f4 false true false false) := by
  refine returnsInHanded_of_cond (C := Try.checked) (s := (Rows.OpenSpec.upto Rows.inflateBehindSpec)) (k := Rows.uptoSmall) rfl own started (by kernel_rfl) Try.func4
    (OpenSpec.witness (enc := enc) (C := Try.checked) (s := (Rows.OpenSpec.upto Rows.inflateBehindSpec)) (k := Rows.uptoSmall) rfl false ⟨#[], #[.slice none 0 0, .slice none 0 0, .int .i64 0], []⟩ 8 (by kernel_rfl) (by kernel_rfl) (by kernel_rfl)
      (x := ([.nil, .nil, .lit (.int .i64 0)], [], [])) (by kernel_rfl) (by kernel_rfl) (by kernel_rfl)) ?_
  intro W base args ds gs before hval0 hW _ hsz _
  have hval : ∀ (j : Nat) t v, Try.f4.params[j]? = some t → args[j]? = some v → Value.okWide Try.prog W .any base t v := hval0
  have hW' := hW
  obtain ⟨p, q, hA0, hV, rfl, hfz, hnd⟩ := hW
  have hA : DataW.TrodAll enc Try.prog W 0 (fun _ => true) true Try.f4.params.toList args.toList ds p := hA0
  rw [Try.params4] at hA hval
  obtain ⟨v0, vs0, d0, ds0, p0, q0, hargs, rfl, rfl, h0, r0⟩ := trodAll_cons hA
  obtain ⟨v1, vs1, d1, ds1, p1, q1, rfl, rfl, rfl, h1, r1⟩ := trodAll_cons r0
  obtain ⟨v2, vs2, d2, ds2, p2, q2, rfl, rfl, rfl, h2, r2⟩ := trodAll_cons r1
  obtain ⟨rfl, rfl, rfl⟩ := trodAll_nil r2
  obtain rfl : args = #[v0, v1, v2] := by cases args; simp_all
  obtain ⟨rfl, rfl⟩ := trodVars_none hV
  obtain ⟨a0, len0, cap0, rfl⟩ := okWide_slice Try.underlying29 (hval 0 29 v0 rfl rfl)
  have k0 := h0
  have lt0 : ∀ x ∈ p0, x.block < W.heap.size := by obtain ⟨m, hm⟩ := k0; exact DataW.trod_lt m _ _ _ hm
  obtain ⟨fuel0, hf0⟩ := h0
  obtain ⟨z0, e0, w0, m0⟩ := op29.2 H enc W fuel0 _ _ hf0
  obtain ⟨a1, len1, cap1, rfl⟩ := okWide_slice Try.underlying29 (hval 1 29 v1 rfl rfl)
  have k1 := h1
  have lt1 : ∀ x ∈ p1, x.block < W.heap.size := by obtain ⟨m, hm⟩ := k1; exact DataW.trod_lt m _ _ _ hm
  obtain ⟨fuel1, hf1⟩ := h1
  obtain ⟨z1, e1, w1, m1⟩ := op29.2 H enc W fuel1 _ _ hf1
  obtain ⟨a2, rfl, rfl, rfl, w2⟩ := open_int Try.underlying3 (hval 2 3 v2 rfl rfl) h2
  have ub : Rows.uptoBulkAll ([d0, d1, .lit (.int .i64 a2)]) ≤ 1048576 := of_decide_eq_true hsz
  simp only [Rows.uptoBulkAll] at ub
  have m0' := m0 (meas H)
  have m0'' : msum (fun x => 1) z0 + 1 ≤ 1048576 := Nat.le_trans m0' (by show Rows.uptoBulk d0 ≤ _; omega)
  have m1' := m1 (meas H)
  have m1'' : msum (fun x => 1) z1 + 1 ≤ 1048576 := Nat.le_trans m1' (by show Rows.uptoBulk d1 ≤ _; omega)
  clear hA0 hval0
  obtain ⟨k, hk⟩ := behind z0 z1 a2 w0 w1 w2 m0'' m1''
  refine Calls.mono (Go.Q.Spec.law (s_quirelaw03_InflateBehind k z0 z1 a2 true hk) (vs := [(.slice a0 len0 cap0), (.slice a1 len1 cap1), (.int .i64 a2)]) (W := W) ⟨_, _, rfl, (by simp only [Val, Nv.mem_false]; exact e0), ⟨_, _, rfl, (by simp only [Val, Nv.mem_false]; exact e1), ⟨_, _, rfl, rfl, rfl⟩⟩⟩) fun e W' ⟨he, bel⟩ => ?_
  subst he
  exact ⟨_, rfl, _, _, _, [], _, [], hW', trodAll_mk1 (shut_bool Try.underlying4 _), (trodAll_cons_mk (Below.trod laidOut (by kernel_rfl) (of_decide_eq_true (by kernel_rfl)) k0 bel lt0) (trodAll_cons_mk (Below.trod laidOut (by kernel_rfl) (of_decide_eq_true (by kernel_rfl)) k1 bel lt1) (trodAll_cons_mk (shut_int Try.underlying3 w2) trodAll_mk0))), rfl, bel.frame _, fun h => by cases h⟩
theorem over : Rows.inflateBehindUptoRow.holds Try.pinned (Rows.OpenSpec.upto Rows.inflateBehindSpec) :=
  OpenClaim.holds_of_cond 4 Try.f4 rfl rfl rfl rfl rfl rfl rfl ⟨rfl, rfl, rfl, rfl, rfl⟩ rfl rfl rfl rfl rfl (by kernel_rfl) Try.func4 (by kernel_rfl)
    (of_decide_eq_true (by kernel_rfl)) (by unfold Func.isWrapper; first | (rw [if_pos (by decide +kernel)]; kernel_rfl) | (rw [if_neg (by decide +kernel)]; exact ⟨rfl, rfl⟩))
    (fun os started H enc _ F0 => lifted os started H enc F0)
theorem proved : Rows.InflateBehindUptoSaid := over
end Go.Proofs.Ytpceecokdpdgfaa.inflateBehind
namespace Go.Proofs.Ytpceecokdpdgfaa
/-- The row, under a short name. -/
theorem inflateBehind_holds : Rows.InflateBehindUptoSaid := inflateBehind.proved
#print axioms inflateBehind_holds
end Go.Proofs.Ytpceecokdpdgfaa
