/- A decoder. -/
import Derived.Test.YthgbompoldmhmabPh2
import Derived.Test.YthgbompoldmhmabQs
import Derived.KernelRfl
namespace Go.Proofs.Ythgbompoldmhmab.W
open Go Go.Q Go.Proofs
set_option linter.unusedVariables false
set_option linter.unusedSimpArgs false

/-- Where a length stands. -/
def ixs (c : Int) : List Int → Nat → List Int
  | [], _ => []
  | x :: l, i => if x = c then (i : Int) :: ixs c l (i + 1) else ixs c l (i + 1)
theorem ixs_length (c : Int) : ∀ (l : List Int) (i : Nat), (ixs c l i).length = l.count c
  | [], _ => rfl
  | x :: l, i => by
    unfold ixs
    by_cases hx : x = c
    · subst hx; rw [if_pos rfl, List.count_cons_self]; simp [ixs_length]
    · rw [if_neg hx, List.count_cons_of_ne hx, ixs_length]
theorem ixs_get (c : Int) : ∀ (l : List Int) (i r : Nat), r < l.count c → ∃ j, ∃ h : j < l.length, (ixs c l i)[r]? = some ((i + j : Nat) : Int) ∧ l[j] = c ∧ (l.take j).count c = r
  | [], _, _, h => by simp at h
  | x :: l, i, r, h => by
    unfold ixs
    by_cases hx : x = c
    · subst hx
      rw [if_pos rfl]
      cases r with
      | zero => exact ⟨0, by simp, by simp, rfl, by simp⟩
      | succ r =>
        rw [List.count_cons_self] at h
        obtain ⟨j, hj, h1, h2, h3⟩ := ixs_get x l (i + 1) r (by omega)
        refine ⟨j + 1, by simp; omega, ?_, by simpa using h2, by rw [List.take_succ_cons, List.count_cons_self, h3]⟩
        rw [List.getElem?_cons_succ, h1]
        congr 2; omega
    · rw [List.count_cons_of_ne hx] at h
      rw [if_neg hx]
      obtain ⟨j, hj, h1, h2, h3⟩ := ixs_get c l (i + 1) r h
      refine ⟨j + 1, by simp; omega, ?_, by simpa using h2, by rw [List.take_succ_cons, List.count_cons_of_ne hx, h3]⟩
      rw [h1]
      congr 2; omega
theorem g_huff_New_l1_ok (k : Nat) (l : List Int) (hl : l.length ≤ 320) (c : Nat) (hc : c < 16) : ∀ (n i : Nat) (cs sy : List Int), i ≤ l.length → l.length - i < n → sy.length + (l.length - i) ≤ 100000 → 0 ≤ cs.getD c 0 → cs.getD c 0 + (l.length - i : Nat) ≤ 100000 →
    Ret (g_huff_New_l1 k l c n i cs sy) fun r => ∃ cs', r = Sum.inr (cs', sy ++ ixs c (l.drop i) i) ∧ ∀ d, d < 16 → cs'.getD d 0 = cs.getD d 0 + if d = c then ((l.drop i).count (c : Int) : Int) else 0 := by
  intro n
  induction n with
  | zero => intro i cs sy _ h; omega
  | succ n ih =>
    intro i cs sy hi hn hsy h0 hcs
    rw [g_huff_New_l1.eq_2]
    simp only [Option.bind_some, bd]
    by_cases h : i < l.length
    · have e : ix l (i : Int) = some l[i] := ix_nat h
      rw [if_pos (by omega), e, drop_cons h]
      simp only [Option.bind_some]
      by_cases hx : l[i] = (c : Int)
      · rw [if_pos hx, if_pos (by omega), if_pos (by omega), if_pos (by simp; omega), Int.toNat_natCast, wi (n := cs.getD c 0 + 1) (by omega) (by omega), wsucc (by omega)]
        simp only [Option.bind_some, Bool.not_true, bf]
        obtain ⟨r, h1, cs', rfl, h3⟩ := ih (i + 1) (setD 0 cs 16 c (cs.getD c 0 + 1)) (sy ++ [(i : Int)]) (by omega) (by omega) (by simp; omega) (by rw [setD_get hc, if_pos rfl]; omega) (by rw [setD_get hc, if_pos rfl]; omega)
        refine ⟨_, h1, cs', by simp [ixs, hx], fun d hd => ?_⟩
        rw [h3 d hd, setD_get hd, hx, List.count_cons_self]
        split
        · rename_i hdc; subst hdc; omega
        · omega
      · rw [if_neg hx, wsucc (by omega)]
        simp only [Option.bind_some, bf]
        obtain ⟨r, h1, cs', rfl, h3⟩ := ih (i + 1) cs sy (by omega) (by omega) (by omega) h0 (by omega)
        refine ⟨_, h1, cs', by simp [ixs, hx], fun d hd => ?_⟩
        rw [h3 d hd, List.count_cons_of_ne hx]
    · rw [if_neg (by omega)]
      refine Ret.pure ⟨cs, by rw [List.drop_of_length_le (by omega)]; simp [ixs], fun d hd => ?_⟩
      rw [List.drop_of_length_le (by omega)]
      simp
/-- The symbols of lengths c, c + 1, ... -/
def symsFrom (l : List Int) : Nat → Nat → List Int
  | 0, _ => []
  | m + 1, c => ixs c l 0 ++ symsFrom l m (c + 1)
theorem g_huff_New_l0_ok (k : Nat) (l : List Int) (hl : l.length ≤ 320) (hk : 330 ≤ k) : ∀ (n m c : Nat) (cs sy : List Int), c + m = 16 → m < n → sy.length + 320 * m ≤ 90000 → (∀ d, d < 16 → 0 ≤ cs.getD d 0 ∧ cs.getD d 0 ≤ 320 * c) →
    Ret (g_huff_New_l0 k l n cs sy c) fun r => ∃ cs', r = (cs', sy ++ symsFrom l m c) ∧ ∀ d, d < 16 → cs'.getD d 0 = cs.getD d 0 + if c ≤ d then (cn l d : Int) else 0 := by
  intro n
  induction n with
  | zero => intro m c cs sy _ h; omega
  | succ n ih =>
    intro m c cs sy hc hm hsy hcs
    rw [g_huff_New_l0.eq_2, bd]
    cases m with
    | zero => rw [if_neg (by omega)]; exact Ret.pure ⟨cs, by simp [symsFrom], fun d hd => by rw [if_neg (by omega)]; omega⟩
    | succ m =>
      have h0 := hcs c (by omega)
      obtain ⟨r, h1, cs1, rfl, h3⟩ := g_huff_New_l1_ok k l hl c (by omega) k 0 cs sy (by omega) (by omega) (by omega) h0.1 (by omega)
      have h1' : g_huff_New_l1 k l c k 0 cs sy = _ := h1
      rw [if_pos (by omega), h1', wi (by omega) (by omega)]
      simp only [g_huff_of, Option.bind_some, List.drop_zero] at h3 ⊢
      rw [show (c : Int) + 1 = ((c + 1 : Nat) : Int) by omega]
      have hle : ∀ d, cn l d ≤ 320 := fun d => Nat.le_trans List.count_le_length hl
      have hlc : (ixs c l 0).length ≤ 320 := by rw [ixs_length]; exact hle c
      obtain ⟨r, g1, cs2, rfl, g3⟩ := ih m (c + 1) cs1 (sy ++ ixs c l 0) (by omega) (by omega) (by simp; omega) (fun d hd => by
        have := h3 d hd
        have h5 := hcs d hd
        have h6 := hle c
        simp only [cn] at h6
        rw [this]
        split <;> omega)
      refine ⟨_, g1, cs2, by simp [symsFrom], fun d hd => ?_⟩
      rw [g3 d hd, h3 d hd]
      by_cases hd' : d = c
      · subst hd'; rw [if_pos rfl, if_neg (by omega), if_pos (by omega)]; simp [cn]
      · rw [if_neg hd']
        by_cases h7 : c ≤ d
        · rw [if_pos (by omega), if_pos h7]; omega
        · rw [if_neg (by omega), if_neg h7]; omega
/-- A decoder of lengths. -/
structure Dec (l : List Int) (cs sy : List Int) : Prop where
  cs : ∀ d, 1 ≤ d → d ≤ 15 → cs.getD d 0 = (cn l d : Int)
  sy : sy = symsFrom l 15 1
theorem g_huff_New_ok {k : Nat} (hk : 330 ≤ k) {l : List Int} : if (judge l).2 = 0 then ∃ cs sy, g_huff_New k l = some (Sum.inr (cs, sy)) ∧ Dec l cs sy else g_huff_New k l = some (Sum.inl (judge l).2) := by
  have e : g_huff_New k l = (if (judge l).2 = 0 then ((g_huff_New_l0 k l k (List.replicate 16 (0 : Int)) ([] : List Int) 1).bind fun (x7571, x7572) => some (Sum.inr (x7571, x7572))) else some (Sum.inl (judge l).2)) := by
    unfold g_huff_New
    rw [g_huff_judged_eq hk]
    simp only [Option.bind_some, bnd']
  by_cases h : (judge l).2 = 0
  · rw [if_pos h] at e ⊢
    have hz : ∀ d, d < 16 → (List.replicate 16 (0 : Int)).getD d 0 = 0 := by
      intro d hd
      rw [List.getD_eq_getElem?_getD, List.getElem?_replicate, if_pos hd]; rfl
    obtain ⟨r, h1, cs, rfl, h3⟩ := g_huff_New_l0_ok k l (judge_ok h).1 hk k 15 1 (List.replicate 16 (0 : Int)) [] (by omega) (by omega) (by simp) (fun d hd => by rw [hz d hd]; omega)
    have h1' : g_huff_New_l0 k l k (List.replicate 16 (0 : Int)) [] 1 = _ := h1
    refine ⟨cs, _, by rw [e, h1']; rfl, fun d h1 h2 => ?_, rfl⟩
    rw [h3 d (by omega), hz d (by omega), if_pos (by omega), Int.zero_add]
  · rw [if_neg h] at e ⊢; exact e
/-- How many symbols have shorter codes. -/
def ah (l : List Int) : Nat → Nat
  | 0 => 0
  | c + 1 => if c = 0 then 0 else ah l c + cn l c
theorem ah_le (l : List Int) : ∀ (b a : Nat), a ≤ b → ah l a ≤ ah l b
  | 0, a, h => by have : a = 0 := by omega
                  subst this; exact Nat.le_refl _
  | b + 1, a, h => by
    by_cases hab : a = b + 1
    · subst hab; exact Nat.le_refl _
    · refine Nat.le_trans (ah_le l b a (by omega)) ?_
      simp only [ah]
      split
      · rename_i hb; subst hb; simp [ah]
      · omega
theorem symsFrom_length (l : List Int) : ∀ (m c : Nat), 1 ≤ c → ah l c + (symsFrom l m c).length = ah l (c + m)
  | 0, c, _ => by simp [symsFrom]
  | m + 1, c, h => by
    have ih := symsFrom_length l m (c + 1) (by omega)
    have e : ah l (c + 1) = ah l c + cn l c := by simp only [ah, if_neg (show ¬ c = 0 by omega)]
    rw [symsFrom, List.length_append, ixs_length, show c + (m + 1) = c + 1 + m by omega, ← ih, e]
    simp only [cn]; omega
theorem symsFrom_get (l : List Int) : ∀ (m c d r : Nat), 1 ≤ c → c ≤ d → d < c + m → r < cn l d → (symsFrom l m c)[ah l d - ah l c + r]? = (ixs d l 0)[r]?
  | 0, c, d, r, _, _, h, _ => by omega
  | m + 1, c, d, r, h1, hcd, hd, hr => by
    have e : ah l (c + 1) = ah l c + cn l c := by simp only [ah, if_neg (show ¬ c = 0 by omega)]
    rw [symsFrom]
    by_cases h : c = d
    · subst h
      rw [Nat.sub_self, Nat.zero_add, List.getElem?_append_left (by rw [ixs_length]; exact hr)]
    · have ih := symsFrom_get l m (c + 1) d r (by omega) (by omega) (by omega) hr
      have h2 := ah_le l d (c + 1) (by omega)
      rw [List.getElem?_append_right (by rw [ixs_length]; simp only [cn] at e; omega), ixs_length, ← ih]
      congr 1
      simp only [cn] at e; omega
/-- The symbol of a code. -/
theorem sym_get {l : List Int} {d r : Nat} (h1 : 1 ≤ d) (h15 : d ≤ 15) (hr : r < cn l d) : ∃ j, ∃ h : j < l.length, (symsFrom l 15 1)[ah l d + r]? = some (j : Int) ∧ l[j] = (d : Int) ∧ (l.take j).count (d : Int) = r := by
  have e := symsFrom_get l 15 1 d r (by omega) h1 (by omega) hr
  obtain ⟨j, hj, g1, g2, g3⟩ := ixs_get (d : Int) l 0 r hr
  refine ⟨j, hj, ?_, g2, g3⟩
  have h0 : ah l 1 = 0 := rfl
  rw [h0, Nat.sub_zero] at e
  rw [e, g1, Nat.zero_add]
/-- The room of all. -/
abbrev tot (l : List Int) : Nat := sr l 16
theorem sr_step (l : List Int) {c : Nat} (h : 1 ≤ c) : sr l (c + 1) = sr l c + cn l c * 2 ^ (15 - c) := by simp only [sr, if_neg (show ¬ c = 0 by omega)]
theorem g_huff_Decoder_begins_l0_ok (k : Nat) (l : List Int) (cs : List Int) (hcs : ∀ d, 1 ≤ d → d ≤ 15 → cs.getD d 0 = (cn l d : Int)) (hl : l.length ≤ 320) (q : Nat) (hq : 1 ≤ q) : ∀ (n m : Nat) (room : Nat), q ≤ m + 1 → m ≤ 15 → m + 2 - q ≤ n → room ≤ 1000 → (∀ x : Nat, x < room ↔ x * 2 ^ (15 - m) < tot l - sr l (m + 1)) →
    Ret (g_huff_Decoder_begins_l0 k q cs n room m) fun r => ∃ R : Nat, r = (R : Int) ∧ ∀ x : Nat, x < R ↔ x * 2 ^ (16 - q) < tot l - sr l q := by
  intro n
  induction n with
  | zero => intro m room h1 h2 h3; omega
  | succ n ih =>
    intro m room h1 h2 h3 hr hx
    rw [g_huff_Decoder_begins_l0.eq_2, bd]
    by_cases h : q ≤ m
    · have hc := hcs m (by omega) h2
      have hle : cn l m ≤ 320 := Nat.le_trans List.count_le_length hl
      rw [if_pos (by omega), bd, if_pos (by omega), Int.toNat_natCast, hc]
      simp only [Option.bind_some]
      rw [wi (n := (room : Int) + (cn l m : Int)) (by omega) (by omega), wi (n := (room : Int) + (cn l m : Int) + 1) (by omega) (by omega)]
      have e1 : Int.tdiv ((room : Int) + (cn l m : Int) + 1) 2 = (((room + cn l m + 1) / 2 : Nat) : Int) := by
        rw [show (room : Int) + (cn l m : Int) + 1 = ((room + cn l m + 1 : Nat) : Int) by omega]; rfl
      rw [e1, wi (by omega) (by omega), wi (n := (m : Int) - 1) (by omega) (by omega), show (m : Int) - 1 = ((m - 1 : Nat) : Int) by omega]
      refine ih (m - 1) _ (by omega) (by omega) (by omega) (by omega) fun x => ?_
      have hs := sr_step l (c := m) (by omega)
      have hm := sr_mono l 16 (m + 1) (by omega)
      rw [show m - 1 + 1 = m by omega, show 15 - (m - 1) = (15 - m) + 1 by omega, Nat.pow_succ]
      have h0 : 0 < 2 ^ (15 - m) := Nat.two_pow_pos _
      generalize 2 ^ (15 - m) = p at *
      have e2 : x < (room + cn l m + 1) / 2 ↔ 2 * x < room + cn l m := by omega
      rw [e2]
      have e3 : tot l - sr l m = (tot l - sr l (m + 1)) + cn l m * p := by simp only [tot] at *; omega
      rw [e3, show x * (p * 2) = (2 * x) * p by rw [Nat.mul_comm p 2, ← Nat.mul_assoc, Nat.mul_comm x 2]]
      by_cases h6 : 2 * x < cn l m
      · have h7 : 2 * x * p < cn l m * p := Nat.mul_lt_mul_of_pos_right h6 h0
        constructor <;> intro _ <;> omega
      · have h7 := hx (2 * x - cn l m)
        rw [Nat.sub_mul] at h7
        have h8 : cn l m * p ≤ 2 * x * p := Nat.mul_le_mul_right _ (by omega)
        constructor
        · intro h9
          have := h7.1 (by omega)
          omega
        · intro h9
          have := h7.2 (by omega)
          omega
    · rw [if_neg (by omega)]
      have : q = m + 1 := by omega
      subst this
      exact Ret.pure ⟨room, rfl, fun x => by rw [show 16 - (m + 1) = 15 - m by omega]; exact hx x⟩
/-- Some code goes on from these bits. -/
def goesOn (l : List Int) (n v : Nat) : Prop := ∃ i, ∃ h : i < l.length, (n : Int) ≤ l[i] ∧ cd l i / 2 ^ (l[i].toNat - n + 1) = v
theorem cd_lt {l : List Int} {i : Nat} (hi : i < l.length) {c : Nat} (h1 : 1 ≤ c) (hc : l[i] = (c : Int)) (h15 : c ≤ 15) : sr l c ≤ cd l i * 2 ^ (15 - c) ∧ (cd l i + 1) * 2 ^ (15 - c) ≤ sr l (c + 1) := by
  have ei : l.getD i 0 = l[i] := by rw [List.getD_eq_getElem?_getD, List.getElem?_eq_getElem hi]; rfl
  unfold cd
  rw [ei, hc, Int.toNat_natCast]
  have e := hf_sr l c h1 h15
  have h5 : (l.take i).count (c : Int) + 1 ≤ cn l c := by
    have := count_take_lt (l := l) (i := i) (k := l.length) hi hi hc
    rw [List.take_length] at this
    exact this
  refine ⟨by rw [← e]; exact Nat.mul_le_mul_right _ (by omega), ?_⟩
  rw [sr_step l h1, ← e, ← Nat.add_mul]
  exact Nat.mul_le_mul_right _ (by omega)
theorem pow_split {n c : Nat} (h : n ≤ c) (h1 : 1 ≤ n) (h15 : c ≤ 15) : 2 ^ (16 - n) = 2 ^ (c - n + 1) * 2 ^ (15 - c) := by rw [← Nat.pow_add]; congr 1; omega
theorem goesOn_iff {l : List Int} (hb : ¬ badL l) {n v : Nat} (h1 : 1 ≤ n) (h15 : n ≤ 15) (hv : sr l n ≤ v * 2 ^ (16 - n)) : goesOn l n v ↔ v * 2 ^ (16 - n) < tot l := by
  constructor
  · rintro ⟨i, hi, h2, h3⟩
    have hx : ¬ badX l[i] := fun hx => hb ⟨_, List.getElem_mem hi, hx⟩
    unfold badX at hx
    obtain ⟨c, hc⟩ : ∃ c : Nat, l[i] = (c : Int) := ⟨l[i].toNat, by omega⟩
    rw [hc, Int.toNat_natCast] at h3
    rw [hc] at h2 hx
    have h4 := (cd_lt hi (by omega) hc (by omega)).2
    have h5 := sr_mono l 16 (c + 1) (by omega)
    rw [pow_split (n := n) (c := c) (by omega) h1 (by omega), ← Nat.mul_assoc]
    have h6 : v * 2 ^ (c - n + 1) ≤ cd l i := by rw [← h3]; exact Nat.div_mul_le_self _ _
    have h7 : v * 2 ^ (c - n + 1) * 2 ^ (15 - c) ≤ cd l i * 2 ^ (15 - c) := Nat.mul_le_mul_right _ h6
    have h8 : 0 < 2 ^ (15 - c) := Nat.two_pow_pos _
    rw [Nat.add_mul, Nat.one_mul] at h4
    simp only [tot]; omega
  · intro h
    -- the length whose codes are there
    have hex : ∀ (m c : Nat), c + m = 16 → n ≤ c → sr l c ≤ v * 2 ^ (16 - n) → ∃ d, n ≤ d ∧ d ≤ 15 ∧ sr l d ≤ v * 2 ^ (16 - n) ∧ v * 2 ^ (16 - n) < sr l (d + 1) := by
      intro m
      induction m with
      | zero => intro c hc _ hs; have : c = 16 := by omega
                subst this; simp only [tot] at h; omega
      | succ m ih =>
        intro c hc hnc hs
        by_cases h2 : v * 2 ^ (16 - n) < sr l (c + 1)
        · exact ⟨c, hnc, by omega, hs, h2⟩
        · exact ih (c + 1) (by omega) (by omega) (by omega)
    obtain ⟨d, hd1, hd2, hd3, hd4⟩ := hex (16 - n) n (by omega) (Nat.le_refl _) hv
    have hp : 0 < 2 ^ (15 - d) := Nat.two_pow_pos _
    have hs := hf_sr l d (by omega) hd2
    have hq := pow_split (n := n) (c := d) hd1 h1 hd2
    rw [hq, ← Nat.mul_assoc] at hd3 hd4
    rw [← hs] at hd3
    rw [sr_step l (by omega), ← hs, ← Nat.add_mul] at hd4
    have k1 := Nat.le_of_mul_le_mul_right hd3 hp
    have k2 := Nat.lt_of_mul_lt_mul_right hd4
    obtain ⟨j, hj, _, g2, g3⟩ := sym_get (l := l) (d := d) (r := v * 2 ^ (d - n + 1) - 2 * hf l d) (by omega) hd2 (by omega)
    refine ⟨j, hj, by rw [g2]; omega, ?_⟩
    have ej : l.getD j 0 = l[j] := by rw [List.getD_eq_getElem?_getD, List.getElem?_eq_getElem hj]; rfl
    have : cd l j = v * 2 ^ (d - n + 1) := by
      unfold cd
      rw [ej, g2, Int.toNat_natCast, g3]; omega
    rw [this, g2, Int.toNat_natCast]
    exact Nat.mul_div_cancel _ (Nat.two_pow_pos _)
end Go.Proofs.Ythgbompoldmhmab.W
