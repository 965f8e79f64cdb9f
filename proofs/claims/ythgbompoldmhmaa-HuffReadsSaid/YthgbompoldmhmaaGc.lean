/- Which codes the symbols have: program and document agree. -/
import Derived.Test.YthgbompoldmhmaaGb
namespace Go.Proofs.Ythgbompoldmhmaa.W
open Go Go.Q Go.Proofs
set_option linter.unusedVariables false
set_option linter.unusedSimpArgs false

/-- The symbols of one length, from a place on: the next code, and the codes. -/
def codesOf (c : Int) : List Int → Int → Nat → List Int → Int × List Int
  | [], nx, _, out => (nx, out)
  | x :: l, nx, i, out => if x = c then codesOf c l (IntKind.wrap .u32 (nx + 1)) (i + 1) (out.set i nx) else codesOf c l nx (i + 1) out
theorem codesOf_length (c : Int) : ∀ (l : List Int) (nx : Int) (i : Nat) (out : List Int), (codesOf c l nx i out).2.length = out.length
  | [], _, _, _ => rfl
  | x :: l, nx, i, out => by
    unfold codesOf
    split
    · rw [codesOf_length]; simp
    · exact codesOf_length c l _ _ _

theorem f14_l1_eq (k : Nat) (l : List Int) (hl : l.length ≤ 320) (c : Int) : ∀ (n i : Nat) (out : List Int) (nx : Int), out.length = l.length → i ≤ l.length → l.length - i < n →
    f14_l1 k l c n i out nx = some (Sum.inr ((codesOf c (l.drop i) nx i out).2, (codesOf c (l.drop i) nx i out).1)) := by
  intro n
  induction n with
  | zero => intro i out nx _ _ h; omega
  | succ n ih =>
    intro i out nx ho hi hn
    rw [f14_l1.eq_2]
    simp only [Option.bind_some, bd]
    by_cases h : i < l.length
    · have e : ix l (i : Int) = some l[i] := ix_nat h
      have e2 : ix out (i : Int) = some (out[i]'(by omega)) := ix_nat (by omega)
      rw [if_pos (by omega), drop_cons h, e]
      simp only [Option.bind_some, e2]
      by_cases hc : l[i] = c
      · rw [if_pos hc]
        simp only [Option.bind_some, Bool.not_true, bf, Int.toNat_natCast]
        rw [wsucc (by omega), ih (i + 1) _ _ (by simpa using ho) (by omega) (by omega)]
        simp only [codesOf, if_pos hc]
      · rw [if_neg hc]
        simp only [Option.bind_some, bf]
        rw [wsucc (by omega), ih (i + 1) _ _ ho (by omega) (by omega)]
        simp only [codesOf, if_neg hc]
    · rw [if_neg (by omega), List.drop_of_length_le (by omega)]
      rfl

theorem f15_l1_eq (k : Nat) (l : List Int) (hl : l.length ≤ 320) (c : Int) : ∀ (n i : Nat) (out : List Int) (nx : Int), out.length = l.length → i ≤ l.length → l.length - i < n →
    f15_l1 k l c n nx i out = some (codesOf c (l.drop i) nx i out) := by
  intro n
  induction n with
  | zero => intro i out nx _ _ h; omega
  | succ n ih =>
    intro i out nx ho hi hn
    rw [f15_l1.eq_2]
    simp only [Option.bind_some, bd]
    by_cases h : i < l.length
    · have e : ix l (i : Int) = some l[i] := ix_nat h
      have e2 : ix out (i : Int) = some (out[i]'(by omega)) := ix_nat (by omega)
      rw [if_pos (by omega), drop_cons h, e]
      simp only [Option.bind_some, e2]
      by_cases hc : l[i] = c
      · rw [if_pos hc]
        simp only [Option.bind_some, Int.toNat_natCast]
        rw [wsucc (by omega), ih (i + 1) _ _ (by simpa using ho) (by omega) (by omega)]
        simp only [codesOf, if_pos hc]
      · rw [if_neg hc]
        simp only [Option.bind_some]
        rw [wsucc (by omega), ih (i + 1) _ _ ho (by omega) (by omega)]
        simp only [codesOf, if_neg hc]
    · rw [if_neg (by omega), List.drop_of_length_le (by omega)]
      rfl

/-- All codes: lengths c, c + 1, .. of so many. -/
def codesFrom (l : List Int) : Nat → Int → Int → List Int → List Int
  | 0, _, _, out => out
  | m + 1, c, nx, out => codesFrom l m (c + 1) (codesOf c l (shlI .u32 nx 1) 0 out).1 (codesOf c l (shlI .u32 nx 1) 0 out).2
theorem codesFrom_length (l : List Int) : ∀ (m : Nat) (c nx : Int) (out : List Int), (codesFrom l m c nx out).length = out.length
  | 0, _, _, _ => rfl
  | m + 1, c, nx, out => by rw [codesFrom, codesFrom_length, codesOf_length]

theorem f14_l0_eq (k : Nat) (l : List Int) (hl : l.length ≤ 320) (hk : 330 ≤ k) : ∀ (n m : Nat) (c nx : Int) (out : List Int), out.length = l.length → c + m = 16 → m ≤ 15 → m < n → f14_l0 k l n c out nx = some (codesFrom l m c nx out) := by
  intro n
  induction n with
  | zero => intro m c nx out _ _ _ h; omega
  | succ n ih =>
    intro m c nx out ho hc h15 hm
    rw [f14_l0.eq_2]
    cases m with
    | zero => rw [bd, if_neg (by omega)]; rfl
    | succ m =>
      have e := f14_l1_eq k l hl c k 0 out (shlI .u32 nx 1) ho (by omega) (by omega)
      rw [List.drop_zero] at e
      have e' : f14_l1 k l c k 0 out (shlI .u32 nx 1) = _ := e
      rw [bd, if_pos (by omega), e']
      simp only [f33, Option.bind_some]
      rw [wi (by omega) (by omega), ih m (c + 1) _ _ (by rw [codesOf_length]; exact ho) (by omega) (by omega) (by omega)]
      rfl
theorem f15_l0_eq (k : Nat) (l : List Int) (hl : l.length ≤ 320) (hk : 330 ≤ k) : ∀ (n m : Nat) (c nx : Int) (out : List Int), out.length = l.length → c + m = 16 → m ≤ 15 → m < n → f15_l0 k l n nx c out = some (codesFrom l m c nx out) := by
  intro n
  induction n with
  | zero => intro m c nx out _ _ _ h; omega
  | succ n ih =>
    intro m c nx out ho hc h15 hm
    rw [f15_l0.eq_2]
    cases m with
    | zero => rw [bd, if_neg (by omega)]; rfl
    | succ m =>
      have e := f15_l1_eq k l hl c k 0 out (shlI .u32 nx 1) ho (by omega) (by omega)
      rw [List.drop_zero] at e
      have e' : f15_l1 k l c k (shlI .u32 nx 1) 0 out = _ := e
      rw [bd, if_pos (by omega), e']
      simp only [Option.bind_some]
      rw [wi (by omega) (by omega), ih m (c + 1) _ _ (by rw [codesOf_length]; exact ho) (by omega) (by omega) (by omega)]
      rfl

/-- The codes of lengths. -/
def codesL (l : List Int) : List Int × Int := if (judge l).2 = 0 then (codesFrom l 15 1 0 (List.replicate l.length 0), 0) else ([], (judge l).2)
theorem codesL_length {l : List Int} (h : (codesL l).2 = 0) : (codesL l).1.length = l.length := by
  unfold codesL at *
  by_cases h0 : (judge l).2 = 0
  · rw [if_pos h0]; simp [codesFrom_length]
  · rw [if_neg h0] at h; exact absurd h h0

theorem f14_eq {k : Nat} {l : List Int} (hk : 330 ≤ k) : f14 k l = some (codesL l) := by
  unfold f14 codesL
  rw [f32_eq hk]
  simp only [Option.bind_some, bnd', bd]
  by_cases h : (judge l).2 = 0
  · have hl := (judge_ok h).1
    have e := f14_l0_eq k l hl hk k 15 1 0 (List.replicate l.length 0) (by simp) (by omega) (by omega) (by omega)
    rw [if_pos h, if_pos h, if_pos (by omega), Int.toNat_natCast, e]
    rfl
  · rw [if_neg h, if_neg h]
theorem f15_eq {k : Nat} {l : List Int} (hk : 330 ≤ k) : f15 k l = some (codesL l) := by
  unfold f15 codesL
  rw [f11_eq hk]
  simp only [Option.bind_some, bnd', bd]
  by_cases h : (judge l).2 = 0
  · have hl := (judge_ok h).1
    have e := f15_l0_eq k l hl hk k 15 1 0 (List.replicate l.length 0) (by simp) (by omega) (by omega) (by omega)
    rw [if_pos h, if_pos h, if_pos (by omega), Int.toNat_natCast, e]
    rfl
  · rw [if_neg h, if_neg h]

theorem f5_l0_same (k : Nat) (c : List Int) (hc : c.length ≤ 320) : ∀ (n i : Nat), i ≤ c.length → c.length - i < n → f5_l0 k c c n i = some (Sum.inr ()) := by
  intro n
  induction n with
  | zero => intro i _ h; omega
  | succ n ih =>
    intro i hi hn
    rw [f5_l0.eq_2]
    simp only [Option.bind_some, bd]
    by_cases h : i < c.length
    · have e : ix c (i : Int) = some c[i] := ix_nat h
      rw [if_pos (by omega), e]
      simp only [Option.bind_some, decide_true, Bool.not_true, bf]
      rw [wsucc (by omega)]
      exact ih (i + 1) (by omega) (by omega)
    · rw [if_neg (by omega)]

theorem codesL_le (l : List Int) : (codesL l).1.length ≤ 320 := by
  unfold codesL
  by_cases h : (judge l).2 = 0
  · rw [if_pos h]; simp [codesFrom_length]; exact (judge_ok h).1
  · rw [if_neg h]; simp

theorem huffCodes (l : List Int) (hl : l.length ≤ maxLen ∧ ∀ x ∈ l, (Lit.int .i64 x).wf = true) (ul : l.length * 8 ≤ 140737488351232) : ∃ k, f5 k l = some true := by
  refine ⟨400, ?_⟩
  have e := f5_l0_same 400 (codesL l).1 (codesL_le l) 400 0 (by omega) (by have := codesL_le l; omega)
  have e' : f5_l0 400 (codesL l).1 (codesL l).1 400 0 = _ := e
  unfold f5
  rw [f14_eq (by omega), f15_eq (by omega), f16_eq (by omega), f17_eq (by omega)]
  simp only [Option.bind_some, decide_true, Bool.not_true, bf, beq_self_eq_true, e', alive (show 64 ≤ 400 by omega)]
end Go.Proofs.Ythgbompoldmhmaa.W
