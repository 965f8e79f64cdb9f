/- What a function comes to: rules for plain proofs. -/
import Derived.Test.YtnbjdgamindikaaDoorQr
namespace Go.Q
open Go
set_option linter.unusedVariables false
set_option linter.unusedSimpArgs false

/-- There is a result, of which something holds. -/
def Ret.{u} {α : Type u} (x : Option α) (p : α → Prop) : Prop := ∃ r, x = some r ∧ p r
section
universe u v
variable {α : Type u} {β : Type v} {x y : Option α} {p q : α → Prop} {r : α}
theorem Ret.pure (h : p r) : Ret (some r) p := ⟨r, rfl, h⟩
theorem Ret.bind {f : α → Option β} {q : β → Prop} (h : Ret x p) (k : ∀ a, p a → Ret (f a) q) : Ret (x.bind f) q := by
  obtain ⟨a, rfl, ha⟩ := h
  exact k a ha
theorem Ret.cond {b : Bool} (h : b = true → Ret x p) (k : b = false → Ret y p) : Ret (bif b then x else y) p := by
  cases b with
  | true => exact h rfl
  | false => exact k rfl
theorem Ret.ite {c : Prop} [Decidable c] (h : c → Ret x p) (k : ¬ c → Ret y p) : Ret (if c then x else y) p := by
  split
  · exact h (by assumption)
  · exact k (by assumption)
theorem Ret.mono (h : Ret x p) (k : ∀ a, p a → q a) : Ret x q := let ⟨r, h1, h2⟩ := h; ⟨r, h1, k r h2⟩
theorem Ret.eq (h : x = some r) (k : p r) : Ret x p := ⟨r, h, k⟩
theorem Ret.some (h : Ret x p) : ∃ r, x = Option.some r := let ⟨r, h1, _⟩ := h; ⟨r, h1⟩
end
theorem bd {α : Type} {c : Prop} [Decidable c] {x y : α} : (bif decide c then x else y) = if c then x else y := by
  by_cases h : c <;> simp [h]
theorem bnd' {α : Type} {c : Prop} [Decidable c] {x y : α} : (bif !decide c then x else y) = if c then y else x := by
  by_cases h : c <;> simp [h]
theorem bt {α : Type} {x y : α} : (bif true then x else y) = x := rfl
theorem bf {α : Type} {x y : α} : (bif false then x else y) = y := rfl
theorem ix_int {α : Type} {l : List α} {i : Int} (h0 : 0 ≤ i) (h : i < l.length) : ix l i = some (l[i.toNat]'(by omega)) := by
  unfold ix
  rw [if_pos h0, List.getElem?_eq_getElem]
theorem ix_out {α : Type} {l : List α} {i : Int} (h : i < 0 ∨ (l.length : Int) ≤ i) : ix l i = none := by
  unfold ix
  split
  · rw [List.getElem?_eq_none (by omega)]
  · rfl
theorem tm (a b : Nat) : Int.tmod (a : Int) (b : Int) = ((a % b : Nat) : Int) := rfl
theorem td (a b : Nat) : Int.tdiv (a : Int) (b : Int) = ((a / b : Nat) : Int) := rfl
end Go.Q
