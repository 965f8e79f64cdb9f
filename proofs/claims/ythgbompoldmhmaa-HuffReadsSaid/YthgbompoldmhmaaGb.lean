/- Which lengths are right: program and document agree. -/
import Derived.Test.YthgbompoldmhmaaGa
namespace Go.Proofs.Ythgbompoldmhmaa.W
open Go Go.Q Go.Proofs
set_option linter.unusedVariables false
set_option linter.unusedSimpArgs false

/-- What a length takes of the room. -/
def wt (x : Int) : Int := if 0 < x then 2 ^ (15 - x.toNat) else 0
def there (x : Int) : Int := if 0 < x then 1 else 0
def sumW : List Int → Int
  | [] => 0
  | x :: l => wt x + sumW l
def cntL : List Int → Int
  | [] => 0
  | x :: l => there x + cntL l
def badX (x : Int) : Prop := x < 0 ∨ 15 < x
instance (x : Int) : Decidable (badX x) := by unfold badX; infer_instance
def badL (l : List Int) : Prop := ∃ x ∈ l, badX x
instance (l : List Int) : Decidable (badL l) := by unfold badL; infer_instance

theorem pow15 {x : Int} (h0 : 0 < x) (h1 : x ≤ 15) : 1 ≤ (2 : Int) ^ (15 - x.toNat) ∧ (2 : Int) ^ (15 - x.toNat) ≤ 16384 := by
  have : ∃ n : Nat, x.toNat = n ∧ 1 ≤ n ∧ n ≤ 15 := ⟨x.toNat, rfl, by omega, by omega⟩
  obtain ⟨n, hn, h2, h3⟩ := this
  rw [hn]
  obtain rfl | rfl | rfl | rfl | rfl | rfl | rfl | rfl | rfl | rfl | rfl | rfl | rfl | rfl | rfl : n = 1 ∨ n = 2 ∨ n = 3 ∨ n = 4 ∨ n = 5 ∨ n = 6 ∨ n = 7 ∨ n = 8 ∨ n = 9 ∨ n = 10 ∨ n = 11 ∨ n = 12 ∨ n = 13 ∨ n = 14 ∨ n = 15 := by omega
  all_goals decide
theorem wt_le {x : Int} (h : ¬ badX x) : 0 ≤ wt x ∧ wt x ≤ 16384 := by
  unfold badX at h
  unfold wt
  split
  · have := pow15 (x := x) (by omega) (by omega); omega
  · omega
theorem there_le (x : Int) : 0 ≤ there x ∧ there x ≤ 1 := by unfold there; split <;> omega

theorem shl1 {b : Nat} (h : b ≤ 15) : shlI .i64 1 (b : Int) = 2 ^ b := by
  obtain rfl | rfl | rfl | rfl | rfl | rfl | rfl | rfl | rfl | rfl | rfl | rfl | rfl | rfl | rfl | rfl : b = 0 ∨ b = 1 ∨ b = 2 ∨ b = 3 ∨ b = 4 ∨ b = 5 ∨ b = 6 ∨ b = 7 ∨ b = 8 ∨ b = 9 ∨ b = 10 ∨ b = 11 ∨ b = 12 ∨ b = 13 ∨ b = 14 ∨ b = 15 := by omega
  all_goals rfl
theorem shlw {x : Int} (h0 : 0 < x) (h1 : x ≤ 15) : shlI .i64 1 (15 - x) = 2 ^ (15 - x.toNat) := by
  rw [show (15 : Int) - x = ((15 - x.toNat : Nat) : Int) by omega]
  exact shl1 (by omega)

theorem drop_cons {α : Type} {l : List α} {i : Nat} (h : i < l.length) : l.drop i = l[i] :: l.drop (i + 1) := List.drop_eq_getElem_cons h
theorem badL_cons {x : Int} {l : List Int} : badL (x :: l) ↔ badX x ∨ badL l := by simp [badL]
theorem wsucc {i : Nat} (h : i < 9223372036854775807) : IntKind.wrap .i64 ((i : Int) + 1) = ((i + 1 : Nat) : Int) := by rw [wi (by omega) (by omega)]; omega

theorem f32_l0_eq (k : Nat) (l : List Int) (hl : l.length ≤ 320) : ∀ (n i : Nat) (a m : Int), i ≤ l.length → l.length - i < n → -100000000 + 16384 * ((l.length : Int) - i) ≤ a → a ≤ 100000000 → 0 ≤ m → m ≤ i →
    f32_l0 k l n a m i = some (if badL (l.drop i) then Sum.inl () else Sum.inr (a - sumW (l.drop i), m + cntL (l.drop i))) := by
  intro n
  induction n with
  | zero => intro i a m _ h; omega
  | succ n ih =>
    intro i a m hi hn ha1 ha2 hm0 hm
    rw [f32_l0.eq_2]
    simp only [Option.bind_some, bd]
    by_cases h : i < l.length
    · have e : ix l (i : Int) = some l[i] := ix_nat h
      rw [if_pos (by omega), e, drop_cons h]
      simp only [Option.bind_some, badL_cons, sumW, cntL]
      generalize hx : l[i] = x
      by_cases hb : badX x
      · have hb' : (if x < 0 then some true else some (decide (15 < x))) = some true := by
          unfold badX at hb
          split
          · rfl
          · rw [dt (by omega)]
        rw [hb', if_pos (Or.inl hb : badX x ∨ badL (l.drop (i + 1)))]
        rfl
      · have hb' : (if x < 0 then some true else some (decide (15 < x))) = some false := by
          unfold badX at hb
          rw [if_neg (by omega), df (by omega)]
        have hw := wt_le hb
        unfold badX at hb
        rw [hb']
        simp only [Option.bind_some, bf, or_iff_right (show ¬ badX x by unfold badX; exact hb)]
        unfold wt there at *
        by_cases h0 : 0 < x
        · rw [if_pos h0] at hw
          rw [if_pos h0, wi (n := 15 - x) (by omega) (by omega), if_pos (by omega), shlw h0 (by omega), if_pos h0, if_pos h0]
          rw [wi (n := a - 2 ^ (15 - x.toNat)) (by omega) (by omega), wi (n := m + 1) (by omega) (by omega), wsucc (by omega)]
          simp only [Option.bind_some]
          rw [ih (i + 1) _ _ (by omega) (by omega) (by omega) (by omega) (by omega) (by omega)]
          simp only [Int.sub_sub, Int.add_assoc]
        · rw [if_neg h0, if_neg h0, if_neg h0, wsucc (by omega)]
          simp only [Option.bind_some]
          rw [ih (i + 1) _ _ (by omega) (by omega) (by omega) (by omega) (by omega) (by omega)]
          simp only [Int.zero_add]
    · rw [if_neg (by omega), List.drop_of_length_le (by omega), if_neg (by simp [badL])]
      simp [sumW, cntL]

/-- The chapter's judgement. -/
def judge (l : List Int) : Bool × Int :=
  if 320 < l.length then (false, 1) else if badL l then (false, 1) else if sumW l = 32768 then (true, 0) else if cntL l = 0 ∨ cntL l = 1 ∧ sumW l = 16384 then (false, 0) else (false, 11)

theorem sumW_le : ∀ {l : List Int}, ¬ badL l → 0 ≤ sumW l ∧ sumW l ≤ 16384 * (l.length : Int)
  | [], _ => by simp [sumW]
  | x :: l, h => by
    rw [badL_cons, not_or] at h
    have h1 := wt_le h.1
    have h2 := sumW_le h.2
    simp only [sumW, List.length_cons]
    omega
theorem cntL_le : ∀ (l : List Int), 0 ≤ cntL l ∧ cntL l ≤ (l.length : Int)
  | [] => by simp [cntL]
  | x :: l => by
    have h1 := there_le x
    have h2 := cntL_le l
    simp only [cntL, List.length_cons]
    omega

theorem f32_eq {k : Nat} {l : List Int} (hk : 330 ≤ k) : f32 k l = some (judge l) := by
  unfold f32 judge
  simp only [Option.bind_some, bd]
  by_cases h : 320 < l.length
  · rw [if_pos (by omega), if_pos h]
  · rw [if_neg (by omega), if_neg h]
    have e := f32_l0_eq k l (by omega) k 0 32768 0 (by omega) (by omega) (by omega) (by omega) (by omega) (by omega)
    rw [List.drop_zero] at e
    have e' : f32_l0 k l k 32768 0 0 = _ := e
    rw [e']
    by_cases hb : badL l
    · rw [if_pos hb, if_pos hb]; rfl
    · have hs := sumW_le hb
      rw [if_neg hb, if_neg hb]
      simp only [Option.bind_some, Int.zero_add]
      by_cases h1 : sumW l = 32768
      · rw [if_pos (by omega), if_pos h1]
      · rw [if_neg (by omega), if_neg h1]
        by_cases h2 : cntL l = 0
        · rw [if_pos h2, dt h2, if_pos (.inl h2)]; rfl
        · rw [if_neg h2]
          by_cases h3 : cntL l = 1
          · rw [if_pos h3]
            by_cases h4 : sumW l = 16384
            · rw [dt (by omega), if_pos (.inr ⟨h3, h4⟩)]; rfl
            · rw [df (by omega), if_neg (by omega)]; rfl
          · rw [if_neg h3, if_neg (by omega)]; rfl

theorem f30_l0_eq (k : Nat) (l : List Int) (hl : l.length ≤ 320) (hb : ¬ badL l) : ∀ (n i : Nat) (a m : Int), i ≤ l.length → l.length - i < n → 0 ≤ a → a ≤ 16384 * i → 0 ≤ m → m ≤ i →
    f30_l0 k l n a m i = some (a + sumW (l.drop i), m + cntL (l.drop i)) := by
  intro n
  induction n with
  | zero => intro i a m _ h; omega
  | succ n ih =>
    intro i a m hi hn ha1 ha2 hm0 hm
    rw [f30_l0.eq_2]
    simp only [Option.bind_some, bd]
    by_cases h : i < l.length
    · have e : ix l (i : Int) = some l[i] := ix_nat h
      have hx' : ¬ badX l[i] := fun hx => hb ⟨_, List.getElem_mem h, hx⟩
      rw [if_pos (by omega), drop_cons h]
      simp only [e, Option.bind_some, sumW, cntL]
      generalize hx : l[i] = x at *
      have hw := wt_le hx'
      unfold badX at hx'
      unfold wt there at *
      by_cases h0 : 0 < x
      · rw [if_pos h0] at hw
        rw [if_pos h0, wi (n := 15 - x) (by omega) (by omega), wu64 (by omega) (by omega), if_pos (by omega), shlw h0 (by omega), if_pos h0, if_pos h0]
        rw [wi (n := a + 2 ^ (15 - x.toNat)) (by omega) (by omega), wi (n := m + 1) (by omega) (by omega), wsucc (by omega)]
        simp only [Option.bind_some]
        rw [ih (i + 1) _ _ (by omega) (by omega) (by omega) (by omega) (by omega) (by omega)]
        simp only [Int.add_assoc]
      · rw [if_neg h0, if_neg h0, if_neg h0, wsucc (by omega)]
        simp only [Option.bind_some]
        rw [ih (i + 1) _ _ (by omega) (by omega) (by omega) (by omega) (by omega) (by omega)]
        simp only [Int.zero_add]
    · rw [if_neg (by omega), List.drop_of_length_le (by omega)]
      simp [sumW, cntL]

theorem f30_eq {k : Nat} {l : List Int} (hk : 330 ≤ k) (hl : l.length ≤ 320) (hb : ¬ badL l) : f30 k l = some (sumW l, cntL l) := by
  unfold f30
  have e := f30_l0_eq k l hl hb k 0 0 0 (by omega) (by omega) (by omega) (by omega) (by omega) (by omega)
  rw [List.drop_zero] at e
  have e' : f30_l0 k l k 0 0 0 = _ := e
  rw [e']
  simp

theorem f11_l0_eq (k : Nat) (l : List Int) (hl : l.length ≤ 320) : ∀ (n i : Nat), i ≤ l.length → l.length - i < n → f11_l0 k l n i = some (if badL (l.drop i) then Sum.inl () else Sum.inr ()) := by
  intro n
  induction n with
  | zero => intro i _ h; omega
  | succ n ih =>
    intro i hi hn
    rw [f11_l0.eq_2]
    simp only [Option.bind_some, bd]
    by_cases h : i < l.length
    · have e : ix l (i : Int) = some l[i] := ix_nat h
      rw [if_pos (by omega), drop_cons h]
      simp only [e, Option.bind_some, badL_cons]
      generalize hx : l[i] = x
      by_cases hb : badX x
      · have hb' : (if x < 0 then some true else some (decide (15 < x))) = some true := by
          unfold badX at hb
          split
          · rfl
          · rw [dt (by omega)]
        rw [hb', if_pos (Or.inl hb : badX x ∨ badL (l.drop (i + 1)))]
        rfl
      · have hb' : (if x < 0 then some true else some (decide (15 < x))) = some false := by
          unfold badX at hb
          rw [if_neg (by omega), df (by omega)]
        rw [hb', wsucc (by omega)]
        simp only [Option.bind_some, bf, or_iff_right hb]
        exact ih (i + 1) (by omega) (by omega)
    · rw [if_neg (by omega), List.drop_of_length_le (by omega), if_neg (by simp [badL])]

theorem f11_eq {k : Nat} {l : List Int} (hk : 330 ≤ k) : f11 k l = some (judge l).2 := by
  unfold f11 judge
  simp only [Option.bind_some, bd]
  by_cases h : 320 < l.length
  · rw [if_pos (by omega), if_pos h]
  · rw [if_neg (by omega), if_neg h]
    have e := f11_l0_eq k l (by omega) k 0 (by omega) (by omega)
    rw [List.drop_zero] at e
    have e' : f11_l0 k l k 0 = _ := e
    rw [e']
    by_cases hb : badL l
    · rw [if_pos hb, if_pos hb]; rfl
    · rw [if_neg hb, if_neg hb]
      simp only [Option.bind_some, f30_eq hk (show l.length ≤ 320 by omega) hb]
      by_cases h1 : sumW l = 32768
      · rw [if_pos h1, if_pos h1]; rfl
      · rw [if_neg h1, if_neg h1]
        by_cases h2 : cntL l = 0
        · rw [if_pos h2, if_pos (.inl h2)]; rfl
        · rw [if_neg h2]
          by_cases h3 : cntL l = 1
          · rw [if_pos h3]
            by_cases h4 : sumW l = 16384
            · rw [dt h4, if_pos (.inr ⟨h3, h4⟩)]; rfl
            · rw [df h4, if_neg (by omega)]; rfl
          · rw [if_neg h3, if_neg (by omega)]; rfl

theorem f16_eq {k : Nat} {l : List Int} (hk : 330 ≤ k) : f16 k l = some (judge l).1 := by
  unfold f16
  rw [f32_eq hk]
  rfl
theorem f17_eq {k : Nat} {l : List Int} (hk : 330 ≤ k) : f17 k l = some (judge l).1 := by
  unfold f17
  rw [f11_eq hk]
  simp only [Option.bind_some, bnd']
  unfold judge
  by_cases h : 320 < l.length
  · rw [if_pos h]; rfl
  · rw [if_neg h]
    by_cases hb : badL l
    · rw [if_pos hb]; rfl
    · rw [if_neg hb, f30_eq hk (by omega) hb]
      by_cases h1 : sumW l = 32768
      · rw [if_pos h1]; simp [h1]
      · rw [if_neg h1]
        by_cases h2 : cntL l = 0 ∨ cntL l = 1 ∧ sumW l = 16384
        · rw [if_pos h2]; simp [h1]
        · rw [if_neg h2]; rfl

theorem judge_ok {l : List Int} (h : (judge l).2 = 0) : l.length ≤ 320 ∧ ¬ badL l ∧ (sumW l = 32768 ∨ cntL l = 0 ∨ cntL l = 1 ∧ sumW l = 16384) := by
  unfold judge at h
  by_cases h0 : 320 < l.length
  · rw [if_pos h0] at h; cases h
  · rw [if_neg h0] at h
    by_cases hb : badL l
    · rw [if_pos hb] at h; cases h
    · rw [if_neg hb] at h
      refine ⟨by omega, hb, ?_⟩
      by_cases h1 : sumW l = 32768
      · exact .inl h1
      · rw [if_neg h1] at h
        by_cases h2 : cntL l = 0 ∨ cntL l = 1 ∧ sumW l = 16384
        · exact .inr h2
        · rw [if_neg h2] at h; cases h
end Go.Proofs.Ythgbompoldmhmaa.W
