/- The pure part of HuffCost and HuffNils; what lengths are right. -/
import Derived.Test.YthgbompoldmhmaaFm
import Derived.Test.YthgbompoldmhmaaQs
import Derived.KernelRfl
namespace Go.Proofs.Ythgbompoldmhmaa.W
open Go Go.Q Go.Proofs
set_option linter.unusedVariables false
set_option linter.unusedSimpArgs false

theorem alive {k : Nat} (hk : 64 ≤ k) : f10 k = some true := (f10_mono hk).h _ (by kernel_rfl)

theorem f18_l0_eq (k : Nat) (a b : List Int) (m : Int) (hm : m = if (b.length : Int) < a.length then (b.length : Int) else a.length) : ∀ (n : Nat) (s i : Int), f18_l0 k a b m n s i = f12_l0 k a b n s i := by
  intro n
  induction n with
  | zero => intro s i; rfl
  | succ n ih =>
    intro s i
    rw [f18_l0.eq_2, f12_l0.eq_2]
    have hc : decide (i < m) = (bif decide (i < (a.length : Int)) then decide (i < (b.length : Int)) else false) := by
      by_cases h1 : i < (a.length : Int)
      · by_cases h2 : i < (b.length : Int)
        · rw [dt h1, dt h2, dt (by rw [hm]; split <;> omega)]; rfl
        · rw [dt h1, df h2, df (by rw [hm]; split <;> omega)]; rfl
      · rw [df h1, df (by rw [hm]; split <;> omega)]; rfl
    rw [hc]
    simp only [Option.bind_some]
    cases decide (i < (a.length : Int)) with
    | false => rfl
    | true =>
      simp only [cond_true, Option.bind_some]
      cases decide (i < (b.length : Int)) with
      | false => rfl
      | true =>
        simp only [cond_true]
        congr 1
        funext y
        cases y with
        | inl x => exact ih _ _
        | inr _ => rfl

theorem f12_l0_some (k : Nat) (a b : List Int) (ha : a.length ≤ 9223372036854775806) : ∀ (n : Nat) (s : Int) (i : Nat), a.length - i < n → Ret (f12_l0 k a b n s i) fun _ => True := by
  intro n
  induction n with
  | zero => intro s i h; omega
  | succ n ih =>
    intro s i hn
    rw [f12_l0.eq_2]
    simp only [Option.bind_some, bd]
    by_cases h1 : (i : Int) < (a.length : Int)
    · rw [if_pos h1]
      by_cases h2 : (i : Int) < (b.length : Int)
      · rw [dt h2]
        have e1 : ix a (i : Int) = some a[i] := ix_nat (by omega)
        have e2 : ix b (i : Int) = some b[i] := ix_nat (by omega)
        have hi : IntKind.wrap .i64 ((i : Int) + 1) = ((i + 1 : Nat) : Int) := by rw [wi (by omega) (by omega)]; omega
        simp only [cond_true, Option.bind_some, e1, e2, hi]
        refine Ret.bind (p := fun _ => True) ?_ fun y _ => ?_
        · repeat' first | exact Ret.pure trivial | refine Ret.bind (p := fun _ => True) ?_ fun _ _ => ?_ | refine Ret.cond (fun _ => ?_) (fun _ => ?_) | split
        · cases y with
          | inl s' => exact ih s' (i + 1) (by omega)
          | inr _ => exact Ret.pure trivial
      · rw [df h2]; exact Ret.pure trivial
    · rw [if_neg h1]; exact Ret.pure trivial

/-- What lengths cost: the same. -/
theorem huffCost (a b : List Int) (ha : a.length ≤ maxLen ∧ ∀ x ∈ a, (Lit.int .i64 x).wf = true) (hb : b.length ≤ maxLen ∧ ∀ x ∈ b, (Lit.int .i64 x).wf = true) (ua : a.length * 8 ≤ 140737488351232) (ub : b.length * 8 ≤ 140737488351232) : ∃ k, f6 k a b = some true := by
  obtain ⟨r, h1, _⟩ := f12_l0_some (a.length + 64) a b (by omega) (a.length + 64) 0 0 (by omega)
  refine ⟨a.length + 64, ?_⟩
  have e : f18 (a.length + 64) a b = f12 (a.length + 64) a b := by
    unfold f18 f12
    simp only [Option.bind_some]
    rw [f18_l0_eq _ _ _ _ rfl]
  have h2 : Ret (f12 (a.length + 64) a b) fun _ => True := by
    unfold f12
    have h1' : f12_l0 (a.length + 64) a b (a.length + 64) 0 0 = some r := h1
    rw [h1', Option.bind_some]
    cases r <;> exact Ret.pure trivial
  obtain ⟨v, h2, _⟩ := h2
  unfold f6
  rw [e, h2]
  simp only [Option.bind_some, decide_true, cond_true, alive (show 64 ≤ a.length + 64 by omega)]

theorem huffNils (b : List Int) (hb : b.length ≤ maxLen ∧ ∀ x ∈ b, (Lit.int .u8 x).wf = true) (ub : b.length * 1 ≤ 140737488351232) : ∃ k, f8 k b = some true := by
  refine ⟨64, ?_⟩
  have h : f19 64 ([1, 1] : List Int) = some (Sum.inr ([0, 2, 0, 0, 0, 0, 0, 0, 0, 0, 0, 0, 0, 0, 0, 0], [0, 1])) := by kernel_rfl
  unfold f8 f20 f34
  rw [dt (show (List.length ([] : List Int) + List.length b) * 1 ≤ 140737488355328 by simp; omega)]
  simp only [cond_true, Option.bind_some, h, f21, f21c, alive (Nat.le_refl 64)]
end Go.Proofs.Ythgbompoldmhmaa.W
