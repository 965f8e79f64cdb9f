/- The next symbol: program and document agree. -/
import Derived.Test.YthgbompoldmhmaaGf
namespace Go.Proofs.Ythgbompoldmhmaa.W
open Go Go.Q Go.Proofs
set_option linter.unusedVariables false
set_option linter.unusedSimpArgs false

/-- The room of all. -/
abbrev tot (l : List Int) : Nat := sr l 16

theorem sr_step (l : List Int) {c : Nat} (h : 1 ≤ c) : sr l (c + 1) = sr l c + cn l c * 2 ^ (15 - c) := by simp only [sr, if_neg (show ¬ c = 0 by omega)]

theorem f36_l0_ok (k : Nat) (l : List Int) (cs : List Int) (hcs : ∀ d, 1 ≤ d → d ≤ 15 → cs.getD d 0 = (cn l d : Int)) (hl : l.length ≤ 320) (q : Nat) (hq : 1 ≤ q) : ∀ (n m : Nat) (room : Nat), q ≤ m + 1 → m ≤ 15 → m + 2 - q ≤ n → room ≤ 1000 → (∀ x : Nat, x < room ↔ x * 2 ^ (15 - m) < tot l - sr l (m + 1)) →
    Ret (f36_l0 k q cs n room m) fun r => ∃ R : Nat, r = (R : Int) ∧ ∀ x : Nat, x < R ↔ x * 2 ^ (16 - q) < tot l - sr l q := by
  intro n
  induction n with
  | zero => intro m room h1 h2 h3; omega
  | succ n ih =>
    intro m room h1 h2 h3 hr hx
    rw [f36_l0.eq_2, bd]
    by_cases h : q ≤ m
    · have hc := hcs m (by omega) h2
      have hle : cn l m ≤ 320 := Nat.le_trans List.count_le_length hl
      rw [if_pos (by omega), bd, if_pos (by omega), Int.toNat_natCast, hc]
      simp only [Option.bind_some]
      rw [wi (n := (room : Int) + (cn l m : Int)) (by omega) (by omega), wi (n := (room : Int) + (cn l m : Int) + 1) (by omega) (by omega)]
      have e1 : Int.tdiv ((room : Int) + (cn l m : Int) + 1) 2 = (((room + cn l m + 1) / 2 : Nat) : Int) := by
        rw [show (room : Int) + (cn l m : Int) + 1 = ((room + cn l m + 1 : Nat) : Int) by omega]; rfl
      rw [e1, wi (by omega) (by omega), wi (n := (m : Int) - 1) (by omega) (by omega), show (m : Int) - 1 = ((m - 1 : Nat) : Int) by omega]
      refine ih (m - 1) _ (by omega) (by omega) (by omega) (by omega) fun x => ?_
      have hs := sr_step l (c := m) (by omega)
      have hm := sr_mono l 16 (m + 1) (by omega)
      rw [show m - 1 + 1 = m by omega, show 15 - (m - 1) = (15 - m) + 1 by omega, Nat.pow_succ]
      have h0 : 0 < 2 ^ (15 - m) := Nat.two_pow_pos _
      generalize 2 ^ (15 - m) = p at *
      have e2 : x < (room + cn l m + 1) / 2 ↔ 2 * x < room + cn l m := by omega
      rw [e2]
      have e3 : tot l - sr l m = (tot l - sr l (m + 1)) + cn l m * p := by simp only [tot] at *; omega
      rw [e3, show x * (p * 2) = (2 * x) * p by rw [Nat.mul_comm p 2, ← Nat.mul_assoc, Nat.mul_comm x 2]]
      by_cases h6 : 2 * x < cn l m
      · have h7 : 2 * x * p < cn l m * p := Nat.mul_lt_mul_of_pos_right h6 h0
        constructor <;> intro _ <;> omega
      · have h7 := hx (2 * x - cn l m)
        rw [Nat.sub_mul] at h7
        have h8 : cn l m * p ≤ 2 * x * p := Nat.mul_le_mul_right _ (by omega)
        constructor
        · intro h9
          have := h7.1 (by omega)
          omega
        · intro h9
          have := h7.2 (by omega)
          omega
    · rw [if_neg (by omega)]
      have : q = m + 1 := by omega
      subst this
      exact Ret.pure ⟨room, rfl, fun x => by rw [show 16 - (m + 1) = 15 - m by omega]; exact hx x⟩

/-- Some code goes on from these bits. -/
def goesOn (l : List Int) (n v : Nat) : Prop := ∃ i, ∃ h : i < l.length, (n : Int) ≤ l[i] ∧ cd l i / 2 ^ (l[i].toNat - n + 1) = v

theorem cd_lt {l : List Int} {i : Nat} (hi : i < l.length) {c : Nat} (h1 : 1 ≤ c) (hc : l[i] = (c : Int)) (h15 : c ≤ 15) : sr l c ≤ cd l i * 2 ^ (15 - c) ∧ (cd l i + 1) * 2 ^ (15 - c) ≤ sr l (c + 1) := by
  have ei : l.getD i 0 = l[i] := by rw [List.getD_eq_getElem?_getD, List.getElem?_eq_getElem hi]; rfl
  unfold cd
  rw [ei, hc, Int.toNat_natCast]
  have e := hf_sr l c h1 h15
  have h5 : (l.take i).count (c : Int) + 1 ≤ cn l c := by
    have := count_take_lt (l := l) (i := i) (k := l.length) hi hi hc
    rw [List.take_length] at this
    exact this
  refine ⟨by rw [← e]; exact Nat.mul_le_mul_right _ (by omega), ?_⟩
  rw [sr_step l h1, ← e, ← Nat.add_mul]
  exact Nat.mul_le_mul_right _ (by omega)

theorem pow_split {n c : Nat} (h : n ≤ c) (h1 : 1 ≤ n) (h15 : c ≤ 15) : 2 ^ (16 - n) = 2 ^ (c - n + 1) * 2 ^ (15 - c) := by rw [← Nat.pow_add]; congr 1; omega

theorem goesOn_iff {l : List Int} (hb : ¬ badL l) {n v : Nat} (h1 : 1 ≤ n) (h15 : n ≤ 15) (hv : sr l n ≤ v * 2 ^ (16 - n)) : goesOn l n v ↔ v * 2 ^ (16 - n) < tot l := by
  constructor
  · rintro ⟨i, hi, h2, h3⟩
    have hx : ¬ badX l[i] := fun hx => hb ⟨_, List.getElem_mem hi, hx⟩
    unfold badX at hx
    obtain ⟨c, hc⟩ : ∃ c : Nat, l[i] = (c : Int) := ⟨l[i].toNat, by omega⟩
    rw [hc, Int.toNat_natCast] at h3
    rw [hc] at h2 hx
    have h4 := (cd_lt hi (by omega) hc (by omega)).2
    have h5 := sr_mono l 16 (c + 1) (by omega)
    rw [pow_split (n := n) (c := c) (by omega) h1 (by omega), ← Nat.mul_assoc]
    have h6 : v * 2 ^ (c - n + 1) ≤ cd l i := by rw [← h3]; exact Nat.div_mul_le_self _ _
    have h7 : v * 2 ^ (c - n + 1) * 2 ^ (15 - c) ≤ cd l i * 2 ^ (15 - c) := Nat.mul_le_mul_right _ h6
    have h8 : 0 < 2 ^ (15 - c) := Nat.two_pow_pos _
    rw [Nat.add_mul, Nat.one_mul] at h4
    simp only [tot]; omega
  · intro h
    -- the length whose codes are there
    have hex : ∀ (m c : Nat), c + m = 16 → n ≤ c → sr l c ≤ v * 2 ^ (16 - n) → ∃ d, n ≤ d ∧ d ≤ 15 ∧ sr l d ≤ v * 2 ^ (16 - n) ∧ v * 2 ^ (16 - n) < sr l (d + 1) := by
      intro m
      induction m with
      | zero => intro c hc _ hs; have : c = 16 := by omega
                subst this; simp only [tot] at h; omega
      | succ m ih =>
        intro c hc hnc hs
        by_cases h2 : v * 2 ^ (16 - n) < sr l (c + 1)
        · exact ⟨c, hnc, by omega, hs, h2⟩
        · exact ih (c + 1) (by omega) (by omega) (by omega)
    obtain ⟨d, hd1, hd2, hd3, hd4⟩ := hex (16 - n) n (by omega) (Nat.le_refl _) hv
    have hp : 0 < 2 ^ (15 - d) := Nat.two_pow_pos _
    have hs := hf_sr l d (by omega) hd2
    have hq := pow_split (n := n) (c := d) hd1 h1 hd2
    rw [hq, ← Nat.mul_assoc] at hd3 hd4
    rw [← hs] at hd3
    rw [sr_step l (by omega), ← hs, ← Nat.add_mul] at hd4
    have k1 := Nat.le_of_mul_le_mul_right hd3 hp
    have k2 := Nat.lt_of_mul_lt_mul_right hd4
    obtain ⟨j, hj, _, g2, g3⟩ := sym_get (l := l) (d := d) (r := v * 2 ^ (d - n + 1) - 2 * hf l d) (by omega) hd2 (by omega)
    refine ⟨j, hj, by rw [g2]; omega, ?_⟩
    have ej : l.getD j 0 = l[j] := by rw [List.getD_eq_getElem?_getD, List.getElem?_eq_getElem hj]; rfl
    have : cd l j = v * 2 ^ (d - n + 1) := by
      unfold cd
      rw [ej, g2, Int.toNat_natCast, g3]; omega
    rw [this, g2, Int.toNat_natCast]
    exact Nat.mul_div_cancel _ (Nat.two_pow_pos _)

/-- Does the document see a code that goes on? -/
theorem f22_l1_ok (k : Nat) (l : List Int) (h : (judge l).2 = 0) (n v : Nat) (h1 : 1 ≤ n) (h15 : n ≤ 15) : ∀ (f i : Nat) (b : Bool), i ≤ l.length → l.length - i < f →
    ∃ b', f22_l1 k l (codesL l).1 v n f b i = some b' ∧ (b' = true ↔ b = true ∨ ∃ j, i ≤ j ∧ ∃ h : j < l.length, (n : Int) ≤ l[j] ∧ cd l j / 2 ^ (l[j].toNat - n + 1) = v) := by
  obtain ⟨hl, hb, hk⟩ := judge_ok h
  intro f
  induction f with
  | zero => intro i b _ h; omega
  | succ f ih =>
    intro i b hi hn
    rw [f22_l1.eq_2]
    simp only [Option.bind_some, bd]
    by_cases hil : i < l.length
    · have ei : ix l (i : Int) = some l[i] := ix_nat hil
      have hx : ¬ badX l[i] := fun hx => hb ⟨_, List.getElem_mem hil, hx⟩
      unfold badX at hx
      rw [if_pos (by omega), ei, wsucc (by omega)]
      simp only [Option.bind_some]
      have split : (∃ j, i ≤ j ∧ ∃ h : j < l.length, (n : Int) ≤ l[j] ∧ cd l j / 2 ^ (l[j].toNat - n + 1) = v) ↔ ((n : Int) ≤ l[i] ∧ cd l i / 2 ^ (l[i].toNat - n + 1) = v) ∨ ∃ j, i + 1 ≤ j ∧ ∃ h : j < l.length, (n : Int) ≤ l[j] ∧ cd l j / 2 ^ (l[j].toNat - n + 1) = v := by
        constructor
        · rintro ⟨j, hij, hj, g⟩
          rcases Nat.eq_or_lt_of_le hij with rfl | h2
          · exact .inl g
          · exact .inr ⟨j, h2, hj, g⟩
        · rintro (g | ⟨j, hij, hj, g⟩)
          · exact ⟨i, Nat.le_refl _, hil, g⟩
          · exact ⟨j, by omega, hj, g⟩
      cases b with
      | true =>
        obtain ⟨b', g1, g2⟩ := ih (i + 1) true (by omega) (by omega)
        refine ⟨b', by simpa using g1, ?_⟩
        rw [g2]; simp
      | false =>
        simp only [bf]
        by_cases hle : (n : Int) ≤ l[i]
        · have ec : ix (codesL l).1 (i : Int) = some (cd l i : Int) := by
            unfold ix; rw [if_pos (by omega), Int.toNat_natCast]; exact codesL_get h hil (by omega)
          have e1 : IntKind.wrap .u64 (IntKind.wrap .i64 (IntKind.wrap .i64 (l[i] - n) + 1)) = ((l[i].toNat - n + 1 : Nat) : Int) := by
            rw [wi (n := l[i] - n) (by omega) (by omega), wi (n := l[i] - n + 1) (by omega) (by omega), wu64 (by omega) (by omega)]; omega
          rw [if_pos hle, ec]
          simp only [Option.bind_some, e1]
          rw [if_pos (by omega), shr32 (by omega)]
          simp only [Option.bind_some]
          obtain ⟨b', g1, g2⟩ := ih (i + 1) (decide (((cd l i / 2 ^ (l[i].toNat - n + 1) : Nat) : Int) = (v : Int))) (by omega) (by omega)
          refine ⟨b', g1, ?_⟩
          rw [g2, split, decide_eq_true_eq, Int.ofNat_inj]
          simp [hle]
        · rw [if_neg hle]
          simp only [Option.bind_some]
          obtain ⟨b', g1, g2⟩ := ih (i + 1) false (by omega) (by omega)
          refine ⟨b', g1, ?_⟩
          rw [g2, split]
          simp [hle]
    · rw [if_neg (by omega)]
      refine ⟨b, rfl, ?_⟩
      constructor
      · exact .inl
      · rintro (g | ⟨j, h1, h2, _⟩)
        · exact g
        · omega

/-- Which symbol has just this code? -/
theorem f22_l2_ok (k : Nat) (l : List Int) (h : (judge l).2 = 0) (n v b w : Nat) (h1 : 1 ≤ n) (hw : bits .or .u32 (shlI .u32 (v : Int) 1) (b : Int) = (w : Int)) : ∀ (f i : Nat), i ≤ l.length → l.length - i < f → (∀ j (hj : j < l.length), j < i → ¬ (l[j] = (n : Int) ∧ cd l j = w)) →
    (∃ j, ∃ hj : j < l.length, l[j] = (n : Int) ∧ cd l j = w ∧ f22_l2 k l (codesL l).1 v n b f i = some (Sum.inl (j : Int))) ∨ ((∀ j (hj : j < l.length), ¬ (l[j] = (n : Int) ∧ cd l j = w)) ∧ f22_l2 k l (codesL l).1 v n b f i = some (Sum.inr ())) := by
  obtain ⟨hl, hb, hk⟩ := judge_ok h
  intro f
  induction f with
  | zero => intro i _ h; omega
  | succ f ih =>
    intro i hi hn hno
    rw [f22_l2.eq_2]
    simp only [Option.bind_some, bd]
    by_cases hil : i < l.length
    · have ei : ix l (i : Int) = some l[i] := ix_nat hil
      rw [if_pos (by omega), ei, wsucc (by omega)]
      simp only [Option.bind_some]
      have next : ¬ (l[i] = (n : Int) ∧ cd l i = w) → ∀ j (hj : j < l.length), j < i + 1 → ¬ (l[j] = (n : Int) ∧ cd l j = w) := by
        intro hni j hj hji
        rcases Nat.eq_or_lt_of_le (Nat.le_of_lt_succ hji) with rfl | h2
        · exact hni
        · exact hno j hj h2
      by_cases hle : l[i] = (n : Int)
      · have ec : ix (codesL l).1 (i : Int) = some (cd l i : Int) := by
          unfold ix; rw [if_pos (by omega), Int.toNat_natCast]; exact codesL_get h hil (by omega)
        rw [if_pos hle, ec]
        simp only [Option.bind_some, hw]
        by_cases he : cd l i = w
        · rw [dt (by omega)]
          exact .inl ⟨i, hil, hle, he, rfl⟩
        · rw [df (by omega)]
          exact ih (i + 1) (by omega) (by omega) (next fun h => he h.2)
      · rw [if_neg hle]
        simp only [Option.bind_some, bf]
        exact ih (i + 1) (by omega) (by omega) (next fun h => hle h.1)
    · rw [if_neg (by omega)]
      exact .inr ⟨fun j hj => hno j hj (by omega), rfl⟩
end Go.Proofs.Ythgbompoldmhmaa.W
