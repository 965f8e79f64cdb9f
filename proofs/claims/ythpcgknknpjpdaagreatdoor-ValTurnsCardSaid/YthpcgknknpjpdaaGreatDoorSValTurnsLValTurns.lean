/- ValTurns: whatever the input, the law returns true, and the input reads as it did; the library's tables hold what they hold. -/
import Derived.Test.YthpcgknknpjpdaaGreatDoorSValTurnsf
import Derived.Test.YthpcgknknpjpdaaGreatDoorCards
import Derived.Test.YthpcgknknpjpdaaGreatDoorTie
import Derived.JoinedCond
import Derived.WalkKit
import Derived.ProofKit
import Derived.OpenShut
import Derived.ShutString
import Derived.ChangeOld
import Derived.Below
import Derived.Carry
import Derived.SizedLaws
import Derived.KernelRfl
import Derived.Deep.DeepHandedRow
import Derived.Lib.LaidTab
namespace Go.Proofs.YthpcgknknpjpdaaGreatDoor.valTurns
open Go Go.Q Go.Proofs Go.Proofs.YthpcgknknpjpdaaGreatDoor.W Go.ChangeShapes Go.WideShapes Go.ChangeAt Go.RowKit
open Go.ChangeMaps (open_string shut_string)
set_option linter.unusedVariables false
theorem own : ownKnob Tryz.prog.godebug = none := by kernel_rfl
theorem laidOut : laidOutB Tryz.prog = true := by kernel_rfl
theorem op3 : Opn Tryz.prog 3 (Rd.int .i64) (fun n => (Lit.int .i64 n).wf = true) (fun n => 1) := Opn.int Tryz.underlying3 (by kernel_rfl)
theorem op4 : Opn Tryz.prog 4 Rd.bool (fun n => True) (fun n => 1) := Opn.bool Tryz.underlying4 (by kernel_rfl)
theorem op9 : Opn Tryz.prog 9 Rd.str (fun n => n.size ≤ maxLen) (fun n => n.size + 1) := Opn.str Tryz.underlying9 (by kernel_rfl)
theorem op2 : Opn Tryz.prog 2 (Rd.int .i64) (fun n => (Lit.int .i64 n).wf = true) (fun n => 1) := Opn.int Tryz.underlying2 (by kernel_rfl)
theorem op23 : Opn Tryz.prog 23 rdS_api_Dec (fun n => ((Lit.int .i64 n.fC).wf = true) ∧ ((Lit.int .i64 n.fE).wf = true) ∧ True) (fun n => ((1) + ((1) + (0))) + 1) := Opn.struct (P := Tryz.prog) (t := 23) (g := fun (x : S_api_Dec) => (x.fC, (x.fE, ()))) (fun d => (⟨d.1, d.2.1⟩ : S_api_Dec)) (fun d => rfl) Tryz.underlying23 rfl (by kernel_rfl) (OpnP.cons op2 rfl (OpnP.cons op3 rfl OpnP.nil))
theorem op29 : Opn Tryz.prog 29 rdS_api_Value (fun n => ((Lit.int .i64 n.fKind).wf = true) ∧ (((Lit.int .i64 n.fN.fC).wf = true) ∧ ((Lit.int .i64 n.fN.fE).wf = true) ∧ True) ∧ (n.fS.size ≤ maxLen) ∧ (True) ∧ ((Lit.int .i64 n.fE).wf = true) ∧ True) (fun n => ((1) + ((((1) + ((1) + (0))) + 1) + ((n.fS.size + 1) + ((1) + ((1) + (0)))))) + 1) := Opn.struct (P := Tryz.prog) (t := 29) (g := fun (x : S_api_Value) => (x.fKind, (x.fN, (x.fS, (x.fB, (x.fE, ())))))) (fun d => (⟨d.1, d.2.1, d.2.2.1, d.2.2.2.1, d.2.2.2.2.1⟩ : S_api_Value)) (fun d => rfl) Tryz.underlying29 rfl (by kernel_rfl) (OpnP.cons op3 rfl (OpnP.cons op23 rfl (OpnP.cons op9 rfl (OpnP.cons op4 rfl (OpnP.cons op3 rfl OpnP.nil)))))
set_option maxRecDepth 100000 in
theorem contract (H : Type) (enc : TypeId × Value → H) (W : World) (base : Nat) (args : Array Value) (ds gs : List (DataW H)) (before : List MemPlace)
    (hval0 : ∀ (j : Nat) t v, Tryz.f7.params[j]? = some t → args[j]? = some v → Value.okWide Tryz.prog W .any base t v)
    (hW : DataW.Whole enc Tryz.prog Tryz.f7.params.toList Rows.valTurnsSpec.vars false W args.toList ds gs before) (hL : laidMetH Tryz.prog Rows.valTurnsRow.laid W) (hsz0 : (DataW.weightsEach Tryz.prog (Tryz.f7.params.toList ++ Rows.valTurnsSpec.plain.varTypes Tryz.prog) (ds ++ gs)).all (· ≤ reachBytes) = true) :
    Calls Tryz.prog 7 args W fun e W' => ∃ v, e = .returned v ∧ Rows.valTurnsSpec.post enc Tryz.prog Tryz.f7 false true false false W args v W' := by
  have hval : ∀ (j : Nat) t v, Tryz.f7.params[j]? = some t → args[j]? = some v → Value.okWide Tryz.prog W .any base t v := hval0
  have hW' := hW
  obtain ⟨p, q, hA0, hV, rfl, hfz, hnd⟩ := hW
  have hA : DataW.TrodAll enc Tryz.prog W 0 (fun _ => true) true Tryz.f7.params.toList args.toList ds p := hA0
  have hsz : (DataW.weightsEach Tryz.prog (Tryz.f7.params.toList ++ Rows.valTurnsSpec.plain.varTypes Tryz.prog) (ds ++ gs)).all (· ≤ reachBytes) = true := hsz0
  rw [Tryz.params7] at hA hval hsz
  obtain ⟨v0, vs0, d0, ds0, p0, q0, hargs, rfl, rfl, h0, r0⟩ := trodAll_cons hA
  obtain ⟨rfl, rfl, rfl⟩ := trodAll_nil r0
  obtain rfl : args = #[v0] := by cases args; simp_all
  obtain ⟨rfl, rfl⟩ := trodVars_none hV
  obtain ⟨c0, rfl, _⟩ := okWide_struct Tryz.underlying29 (hval 0 29 v0 rfl rfl)
  have k0 := h0
  have lt0 : ∀ x ∈ p0, x.block < W.heap.size := by obtain ⟨m, hm⟩ := k0; exact DataW.trod_lt m _ _ _ hm
  obtain ⟨fuel0, hf0⟩ := h0
  obtain ⟨z0, e0, w0, m0⟩ := op29.2 H enc W fuel0 _ _ hf0
  clear hA0 hval0 hsz0 hsz
  obtain ⟨k, hk⟩ := valTurns z0 w0
  refine Calls.mono (Go.Q.Spec.law (s_quirelaw13_ValTurns k z0.fKind z0.fN.fC z0.fN.fE z0.fS z0.fB z0.fE true hk) (vs := [(.agg c0)]) (W := W) ⟨_, _, rfl, (by simp only [Val]; exact ⟨c0.toList, by simp, S_api_Value.sp (b := false) _ _ (by simp only [Nv.mem_false]; exact e0), (rdS_api_Value).one e0⟩), rfl⟩ (htb hL)) fun e W' ⟨he, bel⟩ => ?_
  subst he
  exact ⟨_, rfl, _, _, _, [], _, [], hW', trodAll_mk1 (shut_bool Tryz.underlying4 _), (trodAll_cons_mk (Below.trod laidOut (by kernel_rfl) (of_decide_eq_true (by kernel_rfl)) k0 bel lt0) trodAll_mk0), rfl, bel.frame _, fun h => by cases h⟩
noncomputable def laidWorld (os : Os) : World :=
  { World.holding Tryz.prog os ⟨#[], #[], []⟩ with heap := ((World.holding Tryz.prog os ⟨#[], #[], []⟩).heap.modify 0 fun | .cells _ t fz => .cells (tab0.map (Value.int .u8)).toArray t fz | o => o).modify 1 fun | .cells _ t fz => .cells vs1.toArray t fz | o => o }
theorem laid_met (os : Os) : laidMet Tryz.prog Rows.valTurnsRow.laid ((laidWorld os).forCall (fun _ _ => 0) ⟨#[], #[.agg #[.int .i64 0, .int .i64 0, .int .i64 0, .string (ByteArray.mk #[]), .bool false, .int .i64 0]], []⟩).memory :=
  laidMet_of_run' 8 (by kernel_rfl) (by kernel_rfl)
theorem reads (os : Os) {H : Type} (enc : TypeId × Value → H) : ∃ places, DataW.whole enc Tryz.prog ((laidWorld os).forCall (fun _ _ => 0) ⟨#[], #[.agg #[.int .i64 0, .int .i64 0, .int .i64 0, .string (ByteArray.mk #[]), .bool false, .int .i64 0]], []⟩).memory Tryz.f7.params.toList Rows.valTurnsSpec.vars false (#[.agg #[.int .i64 0, .int .i64 0, .int .i64 0, .string (ByteArray.mk #[]), .bool false, .int .i64 0]] : Array Value).toList 8 = some ([.agg [.lit (.int .i64 0), .agg [.lit (.int .i64 0), .lit (.int .i64 0)], .lit (.string []), .lit (.bool false), .lit (.int .i64 0)]], [], places) :=
  ⟨[], by kernel_rfl⟩
set_option maxRecDepth 100000 in
theorem lifted (os : Os) (started : os.Started) (H : Type) (enc : TypeId × Value → H) (F0 : Stop.Interp) :
    ReturnsInHanded {} Tryz.checked os 7 .any ((OpenSpec.ofChange Rows.valTurnsSpec).preRow enc Tryz.prog Tryz.f7 Rows.valTurnsRow.domain false Rows.valTurnsRow.laid) (((OpenSpec.ofChange Rows.valTurnsSpec).at F0).post enc Tryz.prog Tryz.f7 false true false false) := by
  obtain ⟨places, hx⟩ := reads os enc
  refine returnsInHanded_of_row (C := Tryz.checked) (s := OpenSpec.ofChange Rows.valTurnsSpec) own started (by kernel_rfl) Tryz.func7
    (witness_row_at (enc := enc) (C := Tryz.checked) false (laidWorld os) #[.agg #[.int .i64 0, .int .i64 0, .int .i64 0, .string (ByteArray.mk #[]), .bool false, .int .i64 0]] rfl (by kernel_rfl) (by kernel_rfl) (by kernel_rfl)
      (OpenSpec.preRow_of_cond 8 hx (by kernel_rfl) (fun k hk => by cases hk) (by kernel_rfl) (laid_met os))) ?_
  intro W base args ds gs before hval hW _ _ hz hL _ _
  exact contract H enc W base args ds gs before hval hW hL hz
theorem said : Rows.ValTurnsSaid :=
  OpenClaim.holds_of_cond 7 Tryz.f7 rfl rfl rfl rfl rfl rfl rfl ⟨rfl, rfl, rfl, rfl, rfl⟩ rfl rfl rfl rfl rfl (by kernel_rfl) Tryz.func7 (by kernel_rfl)
    (of_decide_eq_true (by kernel_rfl)) (by unfold Func.isWrapper; first | (rw [if_pos (by decide +kernel)]; kernel_rfl) | (rw [if_neg (by decide +kernel)]; exact ⟨rfl, rfl⟩))
    (fun os started H enc _ F0 => by rw [OpenClaim.pre_eq_preRow]; exact lifted os started H enc F0)
theorem plain (f : FuncId) (fn : Func) (hf : Tryz.pinned.checked.prog.funcNamed "quire/quirelaw13.ValTurns" = some f) (hfn : Tryz.pinned.checked.prog.funcs[f]? = some fn) :
    false = Tryz.pinned.checked.prog.looks [] ∧ ∀ (j : Nat) t, fn.params[j]? = some t → Tryz.pinned.checked.prog.wantsStandIn t = false := by
  obtain rfl : f = 7 := Option.some.inj ((show Tryz.prog.funcNamed "quire/quirelaw13.ValTurns" = some 7 by kernel_rfl).symm.trans hf) |>.symm
  obtain rfl : fn = Tryz.f7 := (Option.some.inj (Tryz.func7.symm.trans hfn)).symm
  refine ⟨by kernel_rfl, fun j t ht => ?_⟩
  rw [Tryz.params7] at ht
  have hm : t ∈ [29] := by simpa using Array.mem_of_getElem? ht
  have hall : ([29].all fun u => !Tryz.prog.wantsStandIn u) = true := by kernel_rfl
  exact (show Tryz.prog.wantsStandIn t = false by simpa using List.all_eq_true.1 hall t hm)
theorem card : Rows.ValTurnsCardSaid :=
  Claim7.holds_tied_plain_at .later [] _ _ _ _ said (fun _ h => by cases h) (by kernel_rfl) (fun _ h => by cases h) valTurns_row_tie rfl ⟨rfl, rfl⟩ (by kernel_rfl) rfl plain (by kernel_rfl)
end Go.Proofs.YthpcgknknpjpdaaGreatDoor.valTurns
namespace Go.Proofs.YthpcgknknpjpdaaGreatDoor
/-- The tied card, under a short name. -/
theorem valTurns_holds : Rows.ValTurnsCardSaid := valTurns.card
#print axioms valTurns_holds
end Go.Proofs.YthpcgknknpjpdaaGreatDoor
