/- A decoder: how many codes of each length there are, and the symbols in the order of their codes. -/
import Derived.Test.YthgbompoldmhmaaGe
namespace Go.Proofs.Ythgbompoldmhmaa.W
open Go Go.Q Go.Proofs
set_option linter.unusedVariables false
set_option linter.unusedSimpArgs false

/-- Where a length stands. -/
def ixs (c : Int) : List Int → Nat → List Int
  | [], _ => []
  | x :: l, i => if x = c then (i : Int) :: ixs c l (i + 1) else ixs c l (i + 1)
theorem ixs_length (c : Int) : ∀ (l : List Int) (i : Nat), (ixs c l i).length = l.count c
  | [], _ => rfl
  | x :: l, i => by
    unfold ixs
    by_cases hx : x = c
    · subst hx; rw [if_pos rfl, List.count_cons_self]; simp [ixs_length]
    · rw [if_neg hx, List.count_cons_of_ne hx, ixs_length]
theorem ixs_get (c : Int) : ∀ (l : List Int) (i r : Nat), r < l.count c → ∃ j, ∃ h : j < l.length, (ixs c l i)[r]? = some ((i + j : Nat) : Int) ∧ l[j] = c ∧ (l.take j).count c = r
  | [], _, _, h => by simp at h
  | x :: l, i, r, h => by
    unfold ixs
    by_cases hx : x = c
    · subst hx
      rw [if_pos rfl]
      cases r with
      | zero => exact ⟨0, by simp, by simp, rfl, by simp⟩
      | succ r =>
        rw [List.count_cons_self] at h
        obtain ⟨j, hj, h1, h2, h3⟩ := ixs_get x l (i + 1) r (by omega)
        refine ⟨j + 1, by simp; omega, ?_, by simpa using h2, by rw [List.take_succ_cons, List.count_cons_self, h3]⟩
        rw [List.getElem?_cons_succ, h1]
        congr 2; omega
    · rw [List.count_cons_of_ne hx] at h
      rw [if_neg hx]
      obtain ⟨j, hj, h1, h2, h3⟩ := ixs_get c l (i + 1) r h
      refine ⟨j + 1, by simp; omega, ?_, by simpa using h2, by rw [List.take_succ_cons, List.count_cons_of_ne hx, h3]⟩
      rw [h1]
      congr 2; omega

theorem f19_l1_ok (k : Nat) (l : List Int) (hl : l.length ≤ 320) (c : Nat) (hc : c < 16) : ∀ (n i : Nat) (cs sy : List Int), i ≤ l.length → l.length - i < n → sy.length + (l.length - i) ≤ 100000 → 0 ≤ cs.getD c 0 → cs.getD c 0 + (l.length - i : Nat) ≤ 100000 →
    Ret (f19_l1 k l c n i cs sy) fun r => ∃ cs', r = Sum.inr (cs', sy ++ ixs c (l.drop i) i) ∧ ∀ d, d < 16 → cs'.getD d 0 = cs.getD d 0 + if d = c then ((l.drop i).count (c : Int) : Int) else 0 := by
  intro n
  induction n with
  | zero => intro i cs sy _ h; omega
  | succ n ih =>
    intro i cs sy hi hn hsy h0 hcs
    rw [f19_l1.eq_2]
    simp only [Option.bind_some, bd]
    by_cases h : i < l.length
    · have e : ix l (i : Int) = some l[i] := ix_nat h
      rw [if_pos (by omega), e, drop_cons h]
      simp only [Option.bind_some]
      by_cases hx : l[i] = (c : Int)
      · rw [if_pos hx, if_pos (by omega), if_pos (by omega), if_pos (by simp; omega), Int.toNat_natCast, wi (n := cs.getD c 0 + 1) (by omega) (by omega), wsucc (by omega)]
        simp only [Option.bind_some, Bool.not_true, bf]
        obtain ⟨r, h1, cs', rfl, h3⟩ := ih (i + 1) (setD 0 cs 16 c (cs.getD c 0 + 1)) (sy ++ [(i : Int)]) (by omega) (by omega) (by simp; omega) (by rw [setD_get hc, if_pos rfl]; omega) (by rw [setD_get hc, if_pos rfl]; omega)
        refine ⟨_, h1, cs', by simp [ixs, hx], fun d hd => ?_⟩
        rw [h3 d hd, setD_get hd, hx, List.count_cons_self]
        split
        · rename_i hdc; subst hdc; omega
        · omega
      · rw [if_neg hx, wsucc (by omega)]
        simp only [Option.bind_some, bf]
        obtain ⟨r, h1, cs', rfl, h3⟩ := ih (i + 1) cs sy (by omega) (by omega) (by omega) h0 (by omega)
        refine ⟨_, h1, cs', by simp [ixs, hx], fun d hd => ?_⟩
        rw [h3 d hd, List.count_cons_of_ne hx]
    · rw [if_neg (by omega)]
      refine Ret.pure ⟨cs, by rw [List.drop_of_length_le (by omega)]; simp [ixs], fun d hd => ?_⟩
      rw [List.drop_of_length_le (by omega)]
      simp

/-- The symbols of lengths c, c + 1, ... -/
def symsFrom (l : List Int) : Nat → Nat → List Int
  | 0, _ => []
  | m + 1, c => ixs c l 0 ++ symsFrom l m (c + 1)

theorem f19_l0_ok (k : Nat) (l : List Int) (hl : l.length ≤ 320) (hk : 330 ≤ k) : ∀ (n m c : Nat) (cs sy : List Int), c + m = 16 → m < n → sy.length + 320 * m ≤ 90000 → (∀ d, d < 16 → 0 ≤ cs.getD d 0 ∧ cs.getD d 0 ≤ 320 * c) →
    Ret (f19_l0 k l n cs sy c) fun r => ∃ cs', r = (cs', sy ++ symsFrom l m c) ∧ ∀ d, d < 16 → cs'.getD d 0 = cs.getD d 0 + if c ≤ d then (cn l d : Int) else 0 := by
  intro n
  induction n with
  | zero => intro m c cs sy _ h; omega
  | succ n ih =>
    intro m c cs sy hc hm hsy hcs
    rw [f19_l0.eq_2, bd]
    cases m with
    | zero => rw [if_neg (by omega)]; exact Ret.pure ⟨cs, by simp [symsFrom], fun d hd => by rw [if_neg (by omega)]; omega⟩
    | succ m =>
      have h0 := hcs c (by omega)
      obtain ⟨r, h1, cs1, rfl, h3⟩ := f19_l1_ok k l hl c (by omega) k 0 cs sy (by omega) (by omega) (by omega) h0.1 (by omega)
      have h1' : f19_l1 k l c k 0 cs sy = _ := h1
      rw [if_pos (by omega), h1', wi (by omega) (by omega)]
      simp only [f33, Option.bind_some, List.drop_zero] at h3 ⊢
      rw [show (c : Int) + 1 = ((c + 1 : Nat) : Int) by omega]
      have hle : ∀ d, cn l d ≤ 320 := fun d => Nat.le_trans List.count_le_length hl
      have hlc : (ixs c l 0).length ≤ 320 := by rw [ixs_length]; exact hle c
      obtain ⟨r, g1, cs2, rfl, g3⟩ := ih m (c + 1) cs1 (sy ++ ixs c l 0) (by omega) (by omega) (by simp; omega) (fun d hd => by
        have := h3 d hd
        have h5 := hcs d hd
        have h6 := hle c
        simp only [cn] at h6
        rw [this]
        split <;> omega)
      refine ⟨_, g1, cs2, by simp [symsFrom], fun d hd => ?_⟩
      rw [g3 d hd, h3 d hd]
      by_cases hd' : d = c
      · subst hd'; rw [if_pos rfl, if_neg (by omega), if_pos (by omega)]; simp [cn]
      · rw [if_neg hd']
        by_cases h7 : c ≤ d
        · rw [if_pos (by omega), if_pos h7]; omega
        · rw [if_neg (by omega), if_neg h7]; omega

/-- A decoder of lengths. -/
structure Dec (l : List Int) (cs sy : List Int) : Prop where
  cs : ∀ d, 1 ≤ d → d ≤ 15 → cs.getD d 0 = (cn l d : Int)
  sy : sy = symsFrom l 15 1

theorem f19_ok {k : Nat} (hk : 330 ≤ k) {l : List Int} : if (judge l).2 = 0 then ∃ cs sy, f19 k l = some (Sum.inr (cs, sy)) ∧ Dec l cs sy else f19 k l = some (Sum.inl (judge l).2) := by
  have e : f19 k l = (if (judge l).2 = 0 then ((f19_l0 k l k (List.replicate 16 (0 : Int)) ([] : List Int) 1).bind fun (x7571, x7572) => some (Sum.inr (x7571, x7572))) else some (Sum.inl (judge l).2)) := by
    unfold f19
    rw [f32_eq hk]
    simp only [Option.bind_some, bnd']
  by_cases h : (judge l).2 = 0
  · rw [if_pos h] at e ⊢
    have hz : ∀ d, d < 16 → (List.replicate 16 (0 : Int)).getD d 0 = 0 := by
      intro d hd
      rw [List.getD_eq_getElem?_getD, List.getElem?_replicate, if_pos hd]; rfl
    obtain ⟨r, h1, cs, rfl, h3⟩ := f19_l0_ok k l (judge_ok h).1 hk k 15 1 (List.replicate 16 (0 : Int)) [] (by omega) (by omega) (by simp) (fun d hd => by rw [hz d hd]; omega)
    have h1' : f19_l0 k l k (List.replicate 16 (0 : Int)) [] 1 = _ := h1
    refine ⟨cs, _, by rw [e, h1']; rfl, fun d h1 h2 => ?_, rfl⟩
    rw [h3 d (by omega), hz d (by omega), if_pos (by omega), Int.zero_add]
  · rw [if_neg h] at e ⊢; exact e

/-- How many symbols have shorter codes. -/
def ah (l : List Int) : Nat → Nat
  | 0 => 0
  | c + 1 => if c = 0 then 0 else ah l c + cn l c
theorem ah_le (l : List Int) : ∀ (b a : Nat), a ≤ b → ah l a ≤ ah l b
  | 0, a, h => by have : a = 0 := by omega
                  subst this; exact Nat.le_refl _
  | b + 1, a, h => by
    by_cases hab : a = b + 1
    · subst hab; exact Nat.le_refl _
    · refine Nat.le_trans (ah_le l b a (by omega)) ?_
      simp only [ah]
      split
      · rename_i hb; subst hb; simp [ah]
      · omega
theorem symsFrom_length (l : List Int) : ∀ (m c : Nat), 1 ≤ c → ah l c + (symsFrom l m c).length = ah l (c + m)
  | 0, c, _ => by simp [symsFrom]
  | m + 1, c, h => by
    have ih := symsFrom_length l m (c + 1) (by omega)
    have e : ah l (c + 1) = ah l c + cn l c := by simp only [ah, if_neg (show ¬ c = 0 by omega)]
    rw [symsFrom, List.length_append, ixs_length, show c + (m + 1) = c + 1 + m by omega, ← ih, e]
    simp only [cn]; omega
theorem symsFrom_get (l : List Int) : ∀ (m c d r : Nat), 1 ≤ c → c ≤ d → d < c + m → r < cn l d → (symsFrom l m c)[ah l d - ah l c + r]? = (ixs d l 0)[r]?
  | 0, c, d, r, _, _, h, _ => by omega
  | m + 1, c, d, r, h1, hcd, hd, hr => by
    have e : ah l (c + 1) = ah l c + cn l c := by simp only [ah, if_neg (show ¬ c = 0 by omega)]
    rw [symsFrom]
    by_cases h : c = d
    · subst h
      rw [Nat.sub_self, Nat.zero_add, List.getElem?_append_left (by rw [ixs_length]; exact hr)]
    · have ih := symsFrom_get l m (c + 1) d r (by omega) (by omega) (by omega) hr
      have h2 := ah_le l d (c + 1) (by omega)
      rw [List.getElem?_append_right (by rw [ixs_length]; simp only [cn] at e; omega), ixs_length, ← ih]
      congr 1
      simp only [cn] at e; omega

/-- The symbol of a code. -/
theorem sym_get {l : List Int} {d r : Nat} (h1 : 1 ≤ d) (h15 : d ≤ 15) (hr : r < cn l d) : ∃ j, ∃ h : j < l.length, (symsFrom l 15 1)[ah l d + r]? = some (j : Int) ∧ l[j] = (d : Int) ∧ (l.take j).count (d : Int) = r := by
  have e := symsFrom_get l 15 1 d r (by omega) h1 (by omega) hr
  obtain ⟨j, hj, g1, g2, g3⟩ := ixs_get (d : Int) l 0 r hr
  refine ⟨j, hj, ?_, g2, g3⟩
  have h0 : ah l 1 = 0 := rfl
  rw [h0, Nat.sub_zero] at e
  rw [e, g1, Nat.zero_add]
end Go.Proofs.Ythgbompoldmhmaa.W
