/- ValBins: whatever the input, the law returns true, and the input reads as it did; the library's tables hold what they hold. -/
import Derived.Test.YthpcgknknpjpdaaGreatDoorSValBinsg
import Derived.Test.YthpcgknknpjpdaaGreatDoorCards
import Derived.Test.YthpcgknknpjpdaaGreatDoorTie
import Derived.JoinedCond
import Derived.WalkKit
import Derived.ProofKit
import Derived.OpenShut
import Derived.ShutString
import Derived.ChangeOld
import Derived.Below
import Derived.Carry
import Derived.SizedLaws
import Derived.KernelRfl
import Derived.Deep.DeepHandedRow
import Derived.Lib.LaidTab
namespace Go.Proofs.YthpcgknknpjpdaaGreatDoor.valBins
open Go Go.Q Go.Proofs Go.Proofs.YthpcgknknpjpdaaGreatDoor.W Go.ChangeShapes Go.WideShapes Go.ChangeAt Go.RowKit
open Go.ChangeMaps (open_string shut_string)
set_option linter.unusedVariables false
theorem own : ownKnob Tryz.prog.godebug = none := by kernel_rfl
theorem laidOut : laidOutB Tryz.prog = true := by kernel_rfl
theorem op3 : Opn Tryz.prog 3 (Rd.int .i64) (fun n => (Lit.int .i64 n).wf = true) (fun n => 1) := Opn.int Tryz.underlying3 (by kernel_rfl)
theorem op4 : Opn Tryz.prog 4 Rd.bool (fun n => True) (fun n => 1) := Opn.bool Tryz.underlying4 (by kernel_rfl)
theorem op9 : Opn Tryz.prog 9 Rd.str (fun n => n.size ≤ maxLen) (fun n => n.size + 1) := Opn.str Tryz.underlying9 (by kernel_rfl)
theorem op2 : Opn Tryz.prog 2 (Rd.int .i64) (fun n => (Lit.int .i64 n).wf = true) (fun n => 1) := Opn.int Tryz.underlying2 (by kernel_rfl)
theorem op23 : Opn Tryz.prog 23 rdS_api_Dec (fun n => ((Lit.int .i64 n.fC).wf = true) ∧ ((Lit.int .i64 n.fE).wf = true) ∧ True) (fun n => ((1) + ((1) + (0))) + 1) := Opn.struct (P := Tryz.prog) (t := 23) (g := fun (x : S_api_Dec) => (x.fC, (x.fE, ()))) (fun d => (⟨d.1, d.2.1⟩ : S_api_Dec)) (fun d => rfl) Tryz.underlying23 rfl (by kernel_rfl) (OpnP.cons op2 rfl (OpnP.cons op3 rfl OpnP.nil))
theorem op29 : Opn Tryz.prog 29 rdS_api_Value (fun n => ((Lit.int .i64 n.fKind).wf = true) ∧ (((Lit.int .i64 n.fN.fC).wf = true) ∧ ((Lit.int .i64 n.fN.fE).wf = true) ∧ True) ∧ (n.fS.size ≤ maxLen) ∧ (True) ∧ ((Lit.int .i64 n.fE).wf = true) ∧ True) (fun n => ((1) + ((((1) + ((1) + (0))) + 1) + ((n.fS.size + 1) + ((1) + ((1) + (0)))))) + 1) := Opn.struct (P := Tryz.prog) (t := 29) (g := fun (x : S_api_Value) => (x.fKind, (x.fN, (x.fS, (x.fB, (x.fE, ())))))) (fun d => (⟨d.1, d.2.1, d.2.2.1, d.2.2.2.1, d.2.2.2.2.1⟩ : S_api_Value)) (fun d => rfl) Tryz.underlying29 rfl (by kernel_rfl) (OpnP.cons op3 rfl (OpnP.cons op23 rfl (OpnP.cons op9 rfl (OpnP.cons op4 rfl (OpnP.cons op3 rfl OpnP.nil)))))
set_option maxRecDepth 100000 in
theorem contract (H : Type) (enc : TypeId × Value → H) (W : World) (base : Nat) (args : Array Value) (ds gs : List (DataW H)) (before : List MemPlace)
    (hval0 : ∀ (j : Nat) t v, Tryz.f6.params[j]? = some t → args[j]? = some v → Value.okWide Tryz.prog W .any base t v)
    (hW : DataW.Whole enc Tryz.prog Tryz.f6.params.toList Rows.valBinsSpec.vars false W args.toList ds gs before) (hL : laidMetH Tryz.prog Rows.valBinsRow.laid W) (hsz0 : (DataW.weightsEach Tryz.prog (Tryz.f6.params.toList ++ Rows.valBinsSpec.plain.varTypes Tryz.prog) (ds ++ gs)).all (· ≤ reachBytes) = true) :
    Calls Tryz.prog 6 args W fun e W' => ∃ v, e = .returned v ∧ Rows.valBinsSpec.post enc Tryz.prog Tryz.f6 false true false false W args v W' := by
  have hval : ∀ (j : Nat) t v, Tryz.f6.params[j]? = some t → args[j]? = some v → Value.okWide Tryz.prog W .any base t v := hval0
  have hW' := hW
  obtain ⟨p, q, hA0, hV, rfl, hfz, hnd⟩ := hW
  have hA : DataW.TrodAll enc Tryz.prog W 0 (fun _ => true) true Tryz.f6.params.toList args.toList ds p := hA0
  have hsz : (DataW.weightsEach Tryz.prog (Tryz.f6.params.toList ++ Rows.valBinsSpec.plain.varTypes Tryz.prog) (ds ++ gs)).all (· ≤ reachBytes) = true := hsz0
  rw [Tryz.params6] at hA hval hsz
  obtain ⟨v0, vs0, d0, ds0, p0, q0, hargs, rfl, rfl, h0, r0⟩ := trodAll_cons hA
  obtain ⟨v1, vs1, d1, ds1, p1, q1, rfl, rfl, rfl, h1, r1⟩ := trodAll_cons r0
  obtain ⟨v2, vs2, d2, ds2, p2, q2, rfl, rfl, rfl, h2, r2⟩ := trodAll_cons r1
  obtain ⟨rfl, rfl, rfl⟩ := trodAll_nil r2
  obtain rfl : args = #[v0, v1, v2] := by cases args; simp_all
  obtain ⟨rfl, rfl⟩ := trodVars_none hV
  obtain ⟨a0, rfl, rfl, rfl, w0⟩ := open_int Tryz.underlying3 (hval 0 3 v0 rfl rfl) h0
  obtain ⟨c1, rfl, _⟩ := okWide_struct Tryz.underlying29 (hval 1 29 v1 rfl rfl)
  have k1 := h1
  have lt1 : ∀ x ∈ p1, x.block < W.heap.size := by obtain ⟨m, hm⟩ := k1; exact DataW.trod_lt m _ _ _ hm
  obtain ⟨fuel1, hf1⟩ := h1
  obtain ⟨z1, e1, w1, m1⟩ := op29.2 H enc W fuel1 _ _ hf1
  obtain ⟨c2, rfl, _⟩ := okWide_struct Tryz.underlying29 (hval 2 29 v2 rfl rfl)
  have k2 := h2
  have lt2 : ∀ x ∈ p2, x.block < W.heap.size := by obtain ⟨m, hm⟩ := k2; exact DataW.trod_lt m _ _ _ hm
  obtain ⟨fuel2, hf2⟩ := h2
  obtain ⟨z2, e2, w2, m2⟩ := op29.2 H enc W fuel2 _ _ hf2
  clear hA0 hval0 hsz0 hsz
  obtain ⟨k, hk⟩ := valBins a0 z1 z2 w0 w1 w2
  refine Calls.mono (Go.Q.Spec.law (s_quirelaw13_ValBins k a0 z1.fKind z1.fN.fC z1.fN.fE z1.fS z1.fB z1.fE z2.fKind z2.fN.fC z2.fN.fE z2.fS z2.fB z2.fE true hk) (vs := [(.int .i64 a0), (.agg c1), (.agg c2)]) (W := W) ⟨_, _, rfl, rfl, ⟨_, _, rfl, (by simp only [Val]; exact ⟨c1.toList, by simp, S_api_Value.sp (b := false) _ _ (by simp only [Nv.mem_false]; exact e1), (rdS_api_Value).one e1⟩), ⟨_, _, rfl, (by simp only [Val]; exact ⟨c2.toList, by simp, S_api_Value.sp (b := false) _ _ (by simp only [Nv.mem_false]; exact e2), (rdS_api_Value).one e2⟩), rfl⟩⟩⟩ (htb hL)) fun e W' ⟨he, bel⟩ => ?_
  subst he
  exact ⟨_, rfl, _, _, _, [], _, [], hW', trodAll_mk1 (shut_bool Tryz.underlying4 _), (trodAll_cons_mk (shut_int Tryz.underlying3 w0) (trodAll_cons_mk (Below.trod laidOut (by kernel_rfl) (of_decide_eq_true (by kernel_rfl)) k1 bel lt1) (trodAll_cons_mk (Below.trod laidOut (by kernel_rfl) (of_decide_eq_true (by kernel_rfl)) k2 bel lt2) trodAll_mk0))), rfl, bel.frame _, fun h => by cases h⟩
noncomputable def laidWorld (os : Os) : World :=
  { World.holding Tryz.prog os ⟨#[], #[], []⟩ with heap := ((World.holding Tryz.prog os ⟨#[], #[], []⟩).heap.modify 0 fun | .cells _ t fz => .cells (tab0.map (Value.int .u8)).toArray t fz | o => o).modify 1 fun | .cells _ t fz => .cells vs1.toArray t fz | o => o }
theorem laid_met (os : Os) : laidMet Tryz.prog Rows.valBinsRow.laid ((laidWorld os).forCall (fun _ _ => 0) ⟨#[], #[.int .i64 0, .agg #[.int .i64 0, .int .i64 0, .int .i64 0, .string (ByteArray.mk #[]), .bool false, .int .i64 0], .agg #[.int .i64 0, .int .i64 0, .int .i64 0, .string (ByteArray.mk #[]), .bool false, .int .i64 0]], []⟩).memory :=
  laidMet_of_run' 8 (by kernel_rfl) (by kernel_rfl)
theorem reads (os : Os) {H : Type} (enc : TypeId × Value → H) : ∃ places, DataW.whole enc Tryz.prog ((laidWorld os).forCall (fun _ _ => 0) ⟨#[], #[.int .i64 0, .agg #[.int .i64 0, .int .i64 0, .int .i64 0, .string (ByteArray.mk #[]), .bool false, .int .i64 0], .agg #[.int .i64 0, .int .i64 0, .int .i64 0, .string (ByteArray.mk #[]), .bool false, .int .i64 0]], []⟩).memory Tryz.f6.params.toList Rows.valBinsSpec.vars false (#[.int .i64 0, .agg #[.int .i64 0, .int .i64 0, .int .i64 0, .string (ByteArray.mk #[]), .bool false, .int .i64 0], .agg #[.int .i64 0, .int .i64 0, .int .i64 0, .string (ByteArray.mk #[]), .bool false, .int .i64 0]] : Array Value).toList 8 = some ([.lit (.int .i64 0), .agg [.lit (.int .i64 0), .agg [.lit (.int .i64 0), .lit (.int .i64 0)], .lit (.string []), .lit (.bool false), .lit (.int .i64 0)], .agg [.lit (.int .i64 0), .agg [.lit (.int .i64 0), .lit (.int .i64 0)], .lit (.string []), .lit (.bool false), .lit (.int .i64 0)]], [], places) :=
  ⟨[], by kernel_rfl⟩
set_option maxRecDepth 100000 in
theorem lifted (os : Os) (started : os.Started) (H : Type) (enc : TypeId × Value → H) (F0 : Stop.Interp) :
    ReturnsInHanded {} Tryz.checked os 6 .any ((OpenSpec.ofChange Rows.valBinsSpec).preRow enc Tryz.prog Tryz.f6 Rows.valBinsRow.domain false Rows.valBinsRow.laid) (((OpenSpec.ofChange Rows.valBinsSpec).at F0).post enc Tryz.prog Tryz.f6 false true false false) := by
  obtain ⟨places, hx⟩ := reads os enc
  refine returnsInHanded_of_row (C := Tryz.checked) (s := OpenSpec.ofChange Rows.valBinsSpec) own started (by kernel_rfl) Tryz.func6
    (witness_row_at (enc := enc) (C := Tryz.checked) false (laidWorld os) #[.int .i64 0, .agg #[.int .i64 0, .int .i64 0, .int .i64 0, .string (ByteArray.mk #[]), .bool false, .int .i64 0], .agg #[.int .i64 0, .int .i64 0, .int .i64 0, .string (ByteArray.mk #[]), .bool false, .int .i64 0]] rfl (by kernel_rfl) (by kernel_rfl) (by kernel_rfl)
      (OpenSpec.preRow_of_cond 8 hx (by kernel_rfl) (fun k hk => by cases hk) (by kernel_rfl) (laid_met os))) ?_
  intro W base args ds gs before hval hW _ _ hz hL _ _
  exact contract H enc W base args ds gs before hval hW hL hz
theorem said : Rows.ValBinsSaid :=
  OpenClaim.holds_of_cond 6 Tryz.f6 rfl rfl rfl rfl rfl rfl rfl ⟨rfl, rfl, rfl, rfl, rfl⟩ rfl rfl rfl rfl rfl (by kernel_rfl) Tryz.func6 (by kernel_rfl)
    (of_decide_eq_true (by kernel_rfl)) (by unfold Func.isWrapper; first | (rw [if_pos (by decide +kernel)]; kernel_rfl) | (rw [if_neg (by decide +kernel)]; exact ⟨rfl, rfl⟩))
    (fun os started H enc _ F0 => by rw [OpenClaim.pre_eq_preRow]; exact lifted os started H enc F0)
theorem plain (f : FuncId) (fn : Func) (hf : Tryz.pinned.checked.prog.funcNamed "quire/quirelaw13.ValBins" = some f) (hfn : Tryz.pinned.checked.prog.funcs[f]? = some fn) :
    false = Tryz.pinned.checked.prog.looks [] ∧ ∀ (j : Nat) t, fn.params[j]? = some t → Tryz.pinned.checked.prog.wantsStandIn t = false := by
  obtain rfl : f = 6 := Option.some.inj ((show Tryz.prog.funcNamed "quire/quirelaw13.ValBins" = some 6 by kernel_rfl).symm.trans hf) |>.symm
  obtain rfl : fn = Tryz.f6 := (Option.some.inj (Tryz.func6.symm.trans hfn)).symm
  refine ⟨by kernel_rfl, fun j t ht => ?_⟩
  rw [Tryz.params6] at ht
  have hm : t ∈ [3, 29, 29] := by simpa using Array.mem_of_getElem? ht
  have hall : ([3, 29, 29].all fun u => !Tryz.prog.wantsStandIn u) = true := by kernel_rfl
  exact (show Tryz.prog.wantsStandIn t = false by simpa using List.all_eq_true.1 hall t hm)
theorem card : Rows.ValBinsCardSaid :=
  Claim7.holds_tied_plain_at .later [] _ _ _ _ said (fun _ h => by cases h) (by kernel_rfl) (fun _ h => by cases h) valBins_row_tie rfl ⟨rfl, rfl⟩ (by kernel_rfl) rfl plain (by kernel_rfl)
end Go.Proofs.YthpcgknknpjpdaaGreatDoor.valBins
namespace Go.Proofs.YthpcgknknpjpdaaGreatDoor
/-- The tied card, under a short name. -/
theorem valBins_holds : Rows.ValBinsCardSaid := valBins.card
#print axioms valBins_holds
end Go.Proofs.YthpcgknknpjpdaaGreatDoor
