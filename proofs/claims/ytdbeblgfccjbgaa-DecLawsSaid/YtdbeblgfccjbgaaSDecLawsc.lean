/- Texts joined: part 3 of what LDecLaws stands on. -/
import Derived.Test.YtdbeblgfccjbgaaSDecLawsb
import Derived.Test.YtdbeblgfccjbgaaProg
namespace Go.Proofs.Ytdbeblgfccjbgaa.W
open Go Go.Q Go.Proofs Go.Dz
set_option linter.unusedVariables false
set_option linter.unusedSimpArgs false
def lenTab : List Int := strInts (ByteArray.mk #[0, 1, 2, 2, 3, 3, 3, 3, 4, 4, 4, 4, 4, 4, 4, 4, 5, 5, 5, 5, 5, 5, 5, 5, 5, 5, 5, 5, 5, 5, 5, 5, 6, 6, 6, 6, 6, 6, 6, 6, 6, 6, 6, 6, 6, 6, 6, 6, 6, 6, 6, 6, 6, 6, 6, 6, 6, 6, 6, 6, 6, 6, 6, 6, 7, 7, 7, 7, 7, 7, 7, 7, 7, 7, 7, 7, 7, 7, 7, 7, 7, 7, 7, 7, 7, 7, 7, 7, 7, 7, 7, 7, 7, 7, 7, 7, 7, 7, 7, 7, 7, 7, 7, 7, 7, 7, 7, 7, 7, 7, 7, 7, 7, 7, 7, 7, 7, 7, 7, 7, 7, 7, 7, 7, 7, 7, 7, 7, 8, 8, 8, 8, 8, 8, 8, 8, 8, 8, 8, 8, 8, 8, 8, 8, 8, 8, 8, 8, 8, 8, 8, 8, 8, 8, 8, 8, 8, 8, 8, 8, 8, 8, 8, 8, 8, 8, 8, 8, 8, 8, 8, 8, 8, 8, 8, 8, 8, 8, 8, 8, 8, 8, 8, 8, 8, 8, 8, 8, 8, 8, 8, 8, 8, 8, 8, 8, 8, 8, 8, 8, 8, 8, 8, 8, 8, 8, 8, 8, 8, 8, 8, 8, 8, 8, 8, 8, 8, 8, 8, 8, 8, 8, 8, 8, 8, 8, 8, 8, 8, 8, 8, 8, 8, 8, 8, 8, 8, 8, 8, 8, 8, 8, 8, 8, 8, 8, 8, 8, 8, 8, 8, 8, 8, 8, 8, 8])
theorem lenTab_all : ((List.range 256).all fun i => match ix lenTab (i : Int) with
    | some v => decide (0 ≤ v ∧ v ≤ 8 ∧ i < 2 ^ v.toNat ∧ (i ≠ 0 → 2 ^ v.toNat ≤ 2 * i))
    | none => false) = true := by kernel_rfl
theorem lenTab_at {i : Nat} (h : i < 256) : ∃ v : Nat, ix lenTab (i : Int) = some (v : Int) ∧ v ≤ 8 ∧ i < 2 ^ v ∧ (i ≠ 0 → 2 ^ v ≤ 2 * i) := by
  have := List.all_eq_true.1 lenTab_all i (List.mem_range.2 h)
  cases hv : ix lenTab (i : Int) with
  | none => rw [hv] at this; cases this
  | some v =>
    rw [hv] at this
    simp only [decide_eq_true_eq] at this
    exact ⟨v.toNat, by rw [Int.toNat_of_nonneg this.1], by omega, this.2.2.1, this.2.2.2⟩
set_option maxRecDepth 100000 in
/-- How many bits a number has. -/
theorem len64 (k : Nat) {x : Nat} (hx : x < 18446744073709551616) (h0 : x ≠ 0) : ∃ n : Nat, g_math_bits_Len64 k (x : Int) = some (n : Int) ∧ n ≤ 64 ∧ x < 2 ^ n ∧ 2 ^ n ≤ 2 * x := by
  unfold g_math_bits_Len64
  have hl : ∀ z, ix (strInts (ByteArray.mk #[0, 1, 2, 2, 3, 3, 3, 3, 4, 4, 4, 4, 4, 4, 4, 4, 5, 5, 5, 5, 5, 5, 5, 5, 5, 5, 5, 5, 5, 5, 5, 5, 6, 6, 6, 6, 6, 6, 6, 6, 6, 6, 6, 6, 6, 6, 6, 6, 6, 6, 6, 6, 6, 6, 6, 6, 6, 6, 6, 6, 6, 6, 6, 6, 7, 7, 7, 7, 7, 7, 7, 7, 7, 7, 7, 7, 7, 7, 7, 7, 7, 7, 7, 7, 7, 7, 7, 7, 7, 7, 7, 7, 7, 7, 7, 7, 7, 7, 7, 7, 7, 7, 7, 7, 7, 7, 7, 7, 7, 7, 7, 7, 7, 7, 7, 7, 7, 7, 7, 7, 7, 7, 7, 7, 7, 7, 7, 7, 8, 8, 8, 8, 8, 8, 8, 8, 8, 8, 8, 8, 8, 8, 8, 8, 8, 8, 8, 8, 8, 8, 8, 8, 8, 8, 8, 8, 8, 8, 8, 8, 8, 8, 8, 8, 8, 8, 8, 8, 8, 8, 8, 8, 8, 8, 8, 8, 8, 8, 8, 8, 8, 8, 8, 8, 8, 8, 8, 8, 8, 8, 8, 8, 8, 8, 8, 8, 8, 8, 8, 8, 8, 8, 8, 8, 8, 8, 8, 8, 8, 8, 8, 8, 8, 8, 8, 8, 8, 8, 8, 8, 8, 8, 8, 8, 8, 8, 8, 8, 8, 8, 8, 8, 8, 8, 8, 8, 8, 8, 8, 8, 8, 8, 8, 8, 8, 8, 8, 8, 8, 8, 8, 8, 8, 8, 8, 8])) z = ix lenTab z := fun _ => rfl
  simp only [hl, bd]
  -- the three halvings
  obtain ⟨y, s, hy, hys, h1⟩ : ∃ y s : Nat, (if (4294967296 : Int) ≤ (x : Int) then some (shrI .u64 (x : Int) 32, (32 : Int)) else some ((x : Int), 0)) = some ((y : Int), (s : Int)) ∧ (s ≤ 32) ∧ y ≠ 0 ∧ y < 4294967296 ∧ y * 2 ^ s ≤ x ∧ x < (y + 1) * 2 ^ s := by
    by_cases h : (4294967296 : Int) ≤ (x : Int)
    · refine ⟨x / 4294967296, 32, ?_, by decide, ?_⟩
      · rw [if_pos h, shr32]; rfl
      · simp only [show (2 : Nat) ^ 32 = 4294967296 from rfl]; omega
    · exact ⟨x, 0, by rw [if_neg h]; rfl, by decide, by simp; omega⟩
  obtain ⟨z, t, hz, hzt, h2⟩ : ∃ z t : Nat, (if (65536 : Int) ≤ (y : Int) then some (shrI .u64 (y : Int) 16, IntKind.wrap .i64 ((s : Int) + 16)) else some ((y : Int), (s : Int))) = some ((z : Int), (t : Int)) ∧ (t ≤ 48) ∧ z ≠ 0 ∧ z < 65536 ∧ z * 2 ^ t ≤ x ∧ x < (z + 1) * 2 ^ t := by
    by_cases h : (65536 : Int) ≤ (y : Int)
    · refine ⟨y / 65536, s + 16, ?_, by omega, by omega, by omega, ?_, ?_⟩
      · rw [if_pos h, wi (by omega) (by omega), show (16 : Int) = ((16 : Nat) : Int) from rfl, shrN y (s := 16) (by decide)]; rfl
      · refine Nat.le_trans ?_ h1.2.2.1
        rw [Nat.pow_add, Nat.mul_comm (2 ^ s), ← Nat.mul_assoc]
        exact Nat.mul_le_mul_right _ (by simp only [show (2 : Nat) ^ 16 = 65536 from rfl]; omega)
      · refine Nat.lt_of_lt_of_le h1.2.2.2 ?_
        rw [Nat.pow_add, Nat.mul_comm (2 ^ s), ← Nat.mul_assoc]
        exact Nat.mul_le_mul_right _ (by simp only [show (2 : Nat) ^ 16 = 65536 from rfl]; omega)
    · exact ⟨y, s, by rw [if_neg h], by omega, by omega, by omega, h1.2.2⟩
  obtain ⟨u, v, hu, huv, h3⟩ : ∃ u v : Nat, (if (256 : Int) ≤ (z : Int) then some (shrI .u64 (z : Int) 8, IntKind.wrap .i64 ((t : Int) + 8)) else some ((z : Int), (t : Int))) = some ((u : Int), (v : Int)) ∧ (v ≤ 56) ∧ u ≠ 0 ∧ u < 256 ∧ u * 2 ^ v ≤ x ∧ x < (u + 1) * 2 ^ v := by
    by_cases h : (256 : Int) ≤ (z : Int)
    · refine ⟨z / 256, t + 8, ?_, by omega, by omega, by omega, ?_, ?_⟩
      · rw [if_pos h, wi (by omega) (by omega), show (8 : Int) = ((8 : Nat) : Int) from rfl, shrN z (s := 8) (by decide)]; rfl
      · refine Nat.le_trans ?_ h2.2.2.1
        rw [Nat.pow_add, Nat.mul_comm (2 ^ t), ← Nat.mul_assoc]
        exact Nat.mul_le_mul_right _ (by simp only [show (2 : Nat) ^ 8 = 256 from rfl]; omega)
      · refine Nat.lt_of_lt_of_le h2.2.2.2 ?_
        rw [Nat.pow_add, Nat.mul_comm (2 ^ t), ← Nat.mul_assoc]
        exact Nat.mul_le_mul_right _ (by simp only [show (2 : Nat) ^ 8 = 256 from rfl]; omega)
    · exact ⟨z, t, by rw [if_neg h], by omega, by omega, by omega, h2.2.2⟩
  obtain ⟨w, hw, hw8, hw1, hw2⟩ := lenTab_at h3.2.1
  refine ⟨v + w, ?_, by omega, ?_, ?_⟩
  · rw [hy, Option.bind_some, hz, Option.bind_some, hu, Option.bind_some, wu8 (by omega) (by omega), hw]
    simp only [Option.bind_some]
    rw [wi (n := (w : Int)) (by omega) (by omega), wi (by omega) (by omega)]
    simp
  · refine Nat.lt_of_lt_of_le h3.2.2.2 ?_
    rw [Nat.pow_add, Nat.mul_comm]
    exact Nat.mul_le_mul_left _ (by omega)
  · rw [Nat.pow_add, Nat.mul_comm]
    have := Nat.mul_le_mul_right (2 ^ v) (hw2 h3.1)
    have h4 := h3.2.2.1
    rw [Nat.mul_assoc] at this
    omega
theorem lz64 (k : Nat) {y : Nat} (hy : y < 18446744073709551616) (h0 : y ≠ 0) : ∃ s : Nat, g_math_bits_LeadingZeros64 k (y : Int) = some (s : Int) ∧ s ≤ 63 ∧ y * 2 ^ s < 18446744073709551616 ∧ 9223372036854775808 ≤ y * 2 ^ s := by
  obtain ⟨n, h1, h2, h3, h4⟩ := len64 k hy h0
  have hn : 1 ≤ n := by
    rcases Nat.eq_zero_or_pos n with rfl | h
    · simp at h3; omega
    · exact h
  refine ⟨64 - n, ?_, by omega, ?_, ?_⟩
  · unfold g_math_bits_LeadingZeros64
    rw [h1, Option.bind_some, wi (by omega) (by omega)]
    congr 1
    omega
  · have : y * 2 ^ (64 - n) < 2 ^ n * 2 ^ (64 - n) := Nat.mul_lt_mul_of_pos_right h3 (Nat.two_pow_pos _)
    rw [← Nat.pow_add, show n + (64 - n) = 64 by omega] at this
    exact this
  · have : 2 ^ n * 2 ^ (64 - n) ≤ 2 * y * 2 ^ (64 - n) := Nat.mul_le_mul_right _ h4
    rw [← Nat.pow_add, show n + (64 - n) = 64 by omega, Nat.mul_assoc] at this
    simp only [show (2 : Nat) ^ 64 = 18446744073709551616 from rfl] at this
    omega
end Go.Proofs.Ytdbeblgfccjbgaa.W
namespace Go.Proofs.Ytdbeblgfccjbgaa.W
open Go Go.Q Go.Proofs Go.Dz
set_option linter.unusedVariables false
set_option linter.unusedSimpArgs false
theorem div_l0 (k : Nat) {y e u : Nat} (hy : y < 18446744073709551616) (hn : 9223372036854775808 ≤ y) (he : e < 18446744073709551616) (hu : u < y) : ∀ (n q r : Nat), 4294967296 ≤ r + n * 2147483648 → r < 4294967296 → q * (y / 4294967296) + r = u → q ≤ 4294967297 → (u * 4294967296 + e / 4294967296) / y ≤ q →
    g_math_bits_Div64_l0 k (y : Int) (e : Int) n (q : Int) (r : Int) = some (((u * 4294967296 + e / 4294967296) / y : Nat) : Int) := by
  intro n
  induction n with
  | zero => intro q r h1 h2; omega
  | succ n ih =>
    intro q r h1 h2 h3 h4 h5
    rw [g_math_bits_Div64_l0.eq_2]
    have hyB : y / 4294967296 < 4294967296 := by omega
    have hd : e / 4294967296 < 4294967296 := by omega
    have hm : q * (y % 4294967296) ≤ 4294967297 * 4294967295 := Nat.mul_le_mul h4 (by omega)
    simp only [bd, and32 hy, shr32, Option.bind_some, ← Int.natCast_mul, ← Int.natCast_add]
    rw [wUl (n := q * (y % 4294967296)) (by omega), show (4294967296 : Int) * (r : Int) = ((4294967296 * r : Nat) : Int) from rfl, wUl (n := 4294967296 * r) (by omega), ← Int.natCast_add, wUl (n := 4294967296 * r + e / 4294967296) (by omega), wUl (n := r + y / 4294967296) (by omega)]
    have go : ∀ b : Bool, (b = decide (4294967296 ≤ q ∨ 4294967296 * r + e / 4294967296 < q * (y % 4294967296))) → ((some b).bind fun x437 => (bif x437 then (if (4294967296 : Int) ≤ ((r + y / 4294967296 : Nat) : Int) then some (IntKind.wrap .u64 ((q : Int) - 1)) else (g_math_bits_Div64_l0 k (y : Int) (e : Int) n (IntKind.wrap .u64 ((q : Int) - 1)) ((r + y / 4294967296 : Nat) : Int))) else some (q : Int))) = some (((u * 4294967296 + e / 4294967296) / y : Nat) : Int) := by
      rintro b rfl
      rw [Option.bind_some]
      by_cases hc : 4294967296 ≤ q ∨ 4294967296 * r + e / 4294967296 < q * (y % 4294967296)
      · rw [dt hc, bt]
        have hlt := est_gt (B := 4294967296) (by decide) hu hd h3 hc
        have hq : 1 ≤ q := Nat.lt_of_le_of_lt (Nat.zero_le _) hlt
        obtain ⟨q', rfl⟩ : ∃ q', q = q' + 1 := ⟨q - 1, by omega⟩
        have e3 : q' * (y / 4294967296) + (r + y / 4294967296) = u := by
          rw [Nat.add_mul] at h3; omega
        rw [show (((q' + 1 : Nat) : Int) - 1) = ((q' : Nat) : Int) by omega, wUl (n := q') (by omega)]
        by_cases hb : 4294967296 ≤ r + y / 4294967296
        · rw [if_pos (by omega)]
          have := est_stop (B := 4294967296) (y := y) (d := e / 4294967296) (by decide) (by omega) e3 (by omega) hb
          congr 1
          omega
        · rw [if_neg (by omega)]
          exact ih q' (r + y / 4294967296) (by omega) (by omega) e3 (by omega) (by omega)
      · rw [df hc, bf]
        have := est_le (B := 4294967296) (y := y) (u := u) (d := e / 4294967296) (q := q) (r := r) (by decide) (by omega) h3 (by omega)
        congr 1
        omega
    by_cases hq : 4294967296 ≤ q
    · rw [if_pos (by omega)]
      exact go true (by rw [dt (.inl hq)])
    · rw [if_neg (by omega)]
      refine go _ ?_
      congr 1
      exact propext ⟨fun h => .inr (by omega), fun h => by omega⟩
theorem div_l1 (k : Nat) {y e u : Nat} (hy : y < 18446744073709551616) (hn : 9223372036854775808 ≤ y) (he : e < 18446744073709551616) (hu : u < y) : ∀ (n q r : Nat), 4294967296 ≤ r + n * 2147483648 → r < 4294967296 → q * (y / 4294967296) + r = u → q ≤ 4294967297 → (u * 4294967296 + e % 4294967296) / y ≤ q →
    g_math_bits_Div64_l1 k (y : Int) (e : Int) n (r : Int) (q : Int) = some (((u * 4294967296 + e % 4294967296) / y : Nat) : Int) := by
  intro n
  induction n with
  | zero => intro q r h1 h2; omega
  | succ n ih =>
    intro q r h1 h2 h3 h4 h5
    rw [g_math_bits_Div64_l1.eq_2]
    have hyB : y / 4294967296 < 4294967296 := by omega
    have hd : e % 4294967296 < 4294967296 := by omega
    have hm : q * (y % 4294967296) ≤ 4294967297 * 4294967295 := Nat.mul_le_mul h4 (by omega)
    simp only [bd, and32 hy, and32 he, shr32, Option.bind_some, ← Int.natCast_mul, ← Int.natCast_add]
    rw [wUl (n := q * (y % 4294967296)) (by omega), show (4294967296 : Int) * (r : Int) = ((4294967296 * r : Nat) : Int) from rfl, wUl (n := 4294967296 * r) (by omega), ← Int.natCast_add, wUl (n := 4294967296 * r + e % 4294967296) (by omega), wUl (n := r + y / 4294967296) (by omega)]
    have go : ∀ b : Bool, (b = decide (4294967296 ≤ q ∨ 4294967296 * r + e % 4294967296 < q * (y % 4294967296))) → ((some b).bind fun x437 => (bif x437 then (if (4294967296 : Int) ≤ ((r + y / 4294967296 : Nat) : Int) then some (IntKind.wrap .u64 ((q : Int) - 1)) else (g_math_bits_Div64_l1 k (y : Int) (e : Int) n ((r + y / 4294967296 : Nat) : Int) (IntKind.wrap .u64 ((q : Int) - 1)))) else some (q : Int))) = some (((u * 4294967296 + e % 4294967296) / y : Nat) : Int) := by
      rintro b rfl
      rw [Option.bind_some]
      by_cases hc : 4294967296 ≤ q ∨ 4294967296 * r + e % 4294967296 < q * (y % 4294967296)
      · rw [dt hc, bt]
        have hlt := est_gt (B := 4294967296) (by decide) hu hd h3 hc
        have hq : 1 ≤ q := Nat.lt_of_le_of_lt (Nat.zero_le _) hlt
        obtain ⟨q', rfl⟩ : ∃ q', q = q' + 1 := ⟨q - 1, by omega⟩
        have e3 : q' * (y / 4294967296) + (r + y / 4294967296) = u := by
          rw [Nat.add_mul] at h3; omega
        rw [show (((q' + 1 : Nat) : Int) - 1) = ((q' : Nat) : Int) by omega, wUl (n := q') (by omega)]
        by_cases hb : 4294967296 ≤ r + y / 4294967296
        · rw [if_pos (by omega)]
          have := est_stop (B := 4294967296) (y := y) (d := e % 4294967296) (by decide) (by omega) e3 (by omega) hb
          congr 1
          omega
        · rw [if_neg (by omega)]
          exact ih q' (r + y / 4294967296) (by omega) (by omega) e3 (by omega) (by omega)
      · rw [df hc, bf]
        have := est_le (B := 4294967296) (y := y) (u := u) (d := e % 4294967296) (q := q) (r := r) (by decide) (by omega) h3 (by omega)
        congr 1
        omega
    by_cases hq : 4294967296 ≤ q
    · rw [if_pos (by omega)]
      exact go true (by rw [dt (.inl hq)])
    · rw [if_neg (by omega)]
      refine go _ ?_
      congr 1
      exact propext ⟨fun h => .inr (by omega), fun h => by omega⟩
theorem digit_lt {y u d : Nat} (hu : u < y) (hd : d < 4294967296) : (u * 4294967296 + d) / y < 4294967296 := by
  rw [Nat.div_lt_iff_lt_mul (by omega)]
  have : (u + 1) * 4294967296 ≤ y * 4294967296 := Nat.mul_le_mul_right _ hu
  omega
/-- A quotient of twice as many bits. -/
theorem div64 (k : Nat) (hk : 3 ≤ k) {hi lo y : Nat} (hlo : lo < 18446744073709551616) (hy : y < 18446744073709551616) (h : hi < y) : g_math_bits_Div64 k (hi : Int) (lo : Int) (y : Int) =
    some ((((hi * 18446744073709551616 + lo) / y : Nat) : Int), (((hi * 18446744073709551616 + lo) % y : Nat) : Int)) := by
  unfold g_math_bits_Div64
  simp only [bd]
  rw [if_neg (show ¬ ((y : Int) = 0) by omega), if_neg (show ¬ ((y : Int) ≤ (hi : Int)) by omega)]
  by_cases h0 : hi = 0
  · subst h0
    have e0 : ((y : Int) == 0) = false := by rw [beq_eq_false_iff_ne]; omega
    rw [if_pos (show ((0 : Nat) : Int) = 0 from rfl), e0]
    simp only [Bool.not_false, cond_true, td, tm, Nat.zero_mul, Nat.zero_add]
    have : lo / y ≤ lo := Nat.div_le_self _ _
    rw [wUl (by omega)]
  · rw [if_neg (by omega)]
    obtain ⟨s, h1, h2, h3, h4⟩ := lz64 k hy (by omega)
    rw [h1, Option.bind_some, wUl (n := s) (by omega)]
    simp only [if_pos (show (0 : Int) ≤ (s : Int) by omega), Option.bind_some, shlN _ (show s ≤ 64 by omega)]
    have e64 : IntKind.wrap .u64 (64 - (s : Int)) = ((64 - s : Nat) : Int) := by
      rw [show (64 - (s : Int)) = ((64 - s : Nat) : Int) by omega, wUl (by omega)]
    rw [e64]
    simp only [if_pos (show (0 : Int) ≤ ((64 - s : Nat) : Int) by omega), shrN _ (show 64 - s ≤ 64 by omega)]
    rw [Nat.mod_eq_of_lt h3]
    have hp : 2 ^ s * 2 ^ (64 - s) = 18446744073709551616 := by rw [← Nat.pow_add, show s + (64 - s) = 64 by omega]
    have hps := Nat.two_pow_pos s
    have hhi : hi * 2 ^ s < y * 2 ^ s := Nat.mul_lt_mul_of_pos_right h hps
    -- the number, moved to the left
    have hlos : lo * 2 ^ s = lo / 2 ^ (64 - s) * 18446744073709551616 + lo * 2 ^ s % 18446744073709551616 := by
      have e1 : lo * 2 ^ s / 18446744073709551616 = lo / 2 ^ (64 - s) := by
        rw [← hp, Nat.mul_comm lo, Nat.mul_div_mul_left _ _ hps]
      rw [← e1]; omega
    have hloq : lo / 2 ^ (64 - s) < 2 ^ s := by
      rw [Nat.div_lt_iff_lt_mul (Nat.two_pow_pos _), hp]; exact hlo
    rw [Nat.mod_eq_of_lt (show hi * 2 ^ s < 18446744073709551616 by omega), orN (show hi * 2 ^ s < 18446744073709551616 by omega) hloq (by have : lo / 2 ^ (64 - s) ≤ lo := Nat.div_le_self _ _; omega)]
    have hN : (hi * 18446744073709551616 + lo) * 2 ^ s = (hi * 2 ^ s + lo / 2 ^ (64 - s)) * 18446744073709551616 + lo * 2 ^ s % 18446744073709551616 := by
      rw [Nat.add_mul, Nat.mul_right_comm, Nat.add_mul]; omega
    have hu : hi * 2 ^ s + lo / 2 ^ (64 - s) < y * 2 ^ s := by
      have : (hi + 1) * 2 ^ s ≤ y * 2 ^ s := Nat.mul_le_mul_right _ h
      rw [Nat.add_mul] at this
      omega
    have hq : (hi * 18446744073709551616 + lo) / y = (hi * 18446744073709551616 + lo) * 2 ^ s / (y * 2 ^ s) := (Nat.mul_div_mul_right _ _ hps).symm
    have hr : (hi * 18446744073709551616 + lo) % y * 2 ^ s = (hi * 18446744073709551616 + lo) * 2 ^ s % (y * 2 ^ s) := (Nat.mul_mod_mul_right _ _ _).symm
    rw [hN] at hq hr
    have he : lo * 2 ^ s % 18446744073709551616 < 18446744073709551616 := Nat.mod_lt _ (by decide)
    have hrs : (hi * 18446744073709551616 + lo) % y = ((hi * 2 ^ s + lo / 2 ^ (64 - s)) * 18446744073709551616 + lo * 2 ^ s % 18446744073709551616) % (y * 2 ^ s) / 2 ^ s := by
      rw [← hr, Nat.mul_div_cancel _ hps]
    rw [hq, hrs]
    clear hq hr hrs hN hhi hlos hloq
    generalize hi * 2 ^ s + lo / 2 ^ (64 - s) = u at *
    generalize lo * 2 ^ s % 18446744073709551616 = e at *
    generalize y * 2 ^ s = z at *
    have hzB : z / 4294967296 < 4294967296 := by omega
    have hz1 : 2147483648 ≤ z / 4294967296 := by omega
    have ez : (((z / 4294967296 : Nat) : Int) == 0) = false := by rw [beq_eq_false_iff_ne]; omega
    -- one digit
    have dig : ∀ (v d : Nat), v < z → d < 4294967296 → (v / (z / 4294967296) ≤ 4294967297) ∧ (v * 4294967296 + d) / z ≤ v / (z / 4294967296) ∧ v / (z / 4294967296) * (z / 4294967296) + (v - v / (z / 4294967296) * (z / 4294967296)) = v ∧ v - v / (z / 4294967296) * (z / 4294967296) < 4294967296 ∧ v / (z / 4294967296) * (z / 4294967296) ≤ v := by
      intro v d hv hd
      have a1 := est_first (B := 4294967296) hv (by decide) (by omega)
      have a2 := est_ge (B := 4294967296) (y := z) (u := v) (d := d) (by decide) (by omega) hd
      have a3 := Nat.div_mul_le_self v (z / 4294967296)
      have a4 : v % (z / 4294967296) < z / 4294967296 := Nat.mod_lt _ (by omega)
      have a5 := Nat.div_add_mod v (z / 4294967296)
      rw [Nat.mul_comm] at a5
      exact ⟨a1, a2, by omega, by omega, a3⟩
    have step : ∀ (v d : Nat), v < z → d < 4294967296 → (v * 4294967296 + d) / z * z + (v * 4294967296 + d) % z = v * 4294967296 + d ∧ (v * 4294967296 + d) % z < z := by
      intro v d hv hd
      have := Nat.div_add_mod (v * 4294967296 + d) z
      rw [Nat.mul_comm] at this
      exact ⟨this, Nat.mod_lt _ (by omega)⟩
    have modU : ∀ (v d q : Nat), v < z → d < 4294967296 → q = (v * 4294967296 + d) / z → IntKind.wrap .u64 (IntKind.wrap .u64 ((IntKind.wrap .u64 ((v : Int) * 4294967296)) + (d : Int)) - IntKind.wrap .u64 (((q : Nat) : Int) * ((z : Nat) : Int))) = (((v * 4294967296 + d) % z : Nat) : Int) := by
      intro v d q hv hd hq
      obtain ⟨s1, s2⟩ := step v d hv hd
      rw [← hq] at s1
      rw [← Int.natCast_mul]
      simp only [wUi]
      generalize q * z = m at *
      generalize (v * 4294967296 + d) % z = w at *
      omega
    obtain ⟨d1, d2, d3, d4, d5⟩ := dig u (e / 4294967296) hu (by omega)
    rw [shr32, ez]
    simp only [Bool.not_false, cond_true, td]
    rw [wUl (n := u / (z / 4294967296)) (by omega)]
    simp only [Option.bind_some, ← Int.natCast_mul]
    rw [wUl (n := u / (z / 4294967296) * (z / 4294967296)) (by omega), show ((u : Int) - ((u / (z / 4294967296) * (z / 4294967296) : Nat) : Int)) = ((u - u / (z / 4294967296) * (z / 4294967296) : Nat) : Int) by omega, wUl (n := u - _) (by omega)]
    rw [div_l0 k h3 h4 he hu k _ _ (by omega) d4 d3 d1 d2]
    simp only [Option.bind_some, shr32]
    have m1 := modU u (e / 4294967296) _ hu (by omega) rfl
    rw [m1]
    obtain ⟨s1, s2⟩ := step u (e / 4294967296) hu (by omega)
    have g1 := digit_lt hu (show e / 4294967296 < 4294967296 by omega)
    have t := two_digits (B := 4294967296) (y := z) (u := u) (d1 := e / 4294967296) (d0 := e % 4294967296) (by omega)
    have eN : (u * 4294967296 + e / 4294967296) * 4294967296 + e % 4294967296 = u * 18446744073709551616 + e := by omega
    rw [eN] at t
    rw [t.1, t.2]
    clear t eN m1 s1
    obtain ⟨v, hv⟩ : ∃ v, v = (u * 4294967296 + e / 4294967296) % z := ⟨_, rfl⟩
    obtain ⟨q1, hq1⟩ : ∃ v, v = (u * 4294967296 + e / 4294967296) / z := ⟨_, rfl⟩
    rw [← hv] at s2
    rw [← hq1] at g1
    rw [← hv, ← hq1]
    clear d1 d2 d3 d4 d5 hv hq1
    obtain ⟨c1, c2, c3, c4, c5⟩ := dig v (e % 4294967296) s2 (by omega)
    simp only [td]
    rw [wUl (n := v / (z / 4294967296)) (by omega)]
    simp only [Option.bind_some, ← Int.natCast_mul]
    rw [wUl (n := v / (z / 4294967296) * (z / 4294967296)) (by omega), show ((v : Int) - ((v / (z / 4294967296) * (z / 4294967296) : Nat) : Int)) = ((v - v / (z / 4294967296) * (z / 4294967296) : Nat) : Int) by omega, wUl (n := v - _) (by omega)]
    rw [div_l1 k h3 h4 he s2 k _ _ (by omega) c4 c3 c1 c2]
    simp only [Option.bind_some, and32 he]
    have m2 := modU v (e % 4294967296) _ s2 (by omega) rfl
    have g2 := digit_lt s2 (show e % 4294967296 < 4294967296 by omega)
    rw [m2, shrN _ (by omega)]
    obtain ⟨q0, hq0⟩ : ∃ w, w = (v * 4294967296 + e % 4294967296) / z := ⟨_, rfl⟩
    rw [← hq0] at g2
    rw [← hq0]
    clear c1 c2 c3 c4 c5 m2
    have f1 : (q1 : Int) * 4294967296 = ((q1 * 4294967296 : Nat) : Int) := by simp
    have f2 : IntKind.wrap .u64 ((q1 : Int) * 4294967296) = ((q1 * 4294967296 : Nat) : Int) := by rw [f1]; exact wUl (by omega)
    have f3 : IntKind.wrap .u64 (IntKind.wrap .u64 ((q1 : Int) * 4294967296) + (q0 : Int)) = ((q1 * 4294967296 + q0 : Nat) : Int) := by rw [f2, ← Int.natCast_add]; exact wUl (by omega)
    rw [f3]
end Go.Proofs.Ytdbeblgfccjbgaa.W
namespace Go.Proofs.Ytdbeblgfccjbgaa.W
open Go Go.Q Go.Proofs Go.Dz
set_option linter.unusedVariables false
set_option linter.unusedSimpArgs false
/-- The halves of a number. -/
def wh (v : Nat) : Int := ((v / 18446744073709551616 : Nat) : Int)
def wl (v : Nat) : Int := ((v % 18446744073709551616 : Nat) : Int)
/-- Two to the 128. -/
abbrev UU : Nat := 340282366920938463463374607431768211456
theorem wh_small {v : Nat} (h : v < 18446744073709551616) : wh v = 0 := by unfold wh; rw [Nat.div_eq_of_lt h]; rfl
theorem wl_small {v : Nat} (h : v < 18446744073709551616) : wl v = (v : Int) := by unfold wl; rw [Nat.mod_eq_of_lt h]
theorem wh_lt {v : Nat} (h : v < UU) : v / 18446744073709551616 < 18446744073709551616 := by unfold UU at h; omega
theorem wide_zero (k : Nat) (a b : Int) : g_dec_wide_zero k a b = some () := rfl
theorem wide_or {v : Nat} (h : v < UU) : (bits .or .u64 (wh v) (wl v) = 0) ↔ v = 0 := by
  unfold wh wl
  rw [or0 (wh_lt h) (Nat.mod_lt _ (by decide))]
  omega
theorem wide_or_small {v : Nat} (h : v < 18446744073709551616) : (bits .or .u64 0 (v : Int) = 0) ↔ v = 0 := by
  have := or0 (a := 0) (b := v) (by decide) h
  rw [show ((0 : Nat) : Int) = 0 from rfl] at this
  rw [this]
  omega
theorem add64_eq (a b c : Nat) : add64 (a : Int) (b : Int) (c : Int) = (((((a + b + c) % 18446744073709551616 : Nat)) : Int), (((a + b + c) / 18446744073709551616 : Nat) : Int)) := by
  simp [add64, Extern.MathBitsCarry.m64]
theorem sub64_eq (a b c : Nat) : sub64 (a : Int) (b : Int) (c : Int) = (((((a + 18446744073709551616 - b - c) % 18446744073709551616 : Nat)) : Int), ((if a < b + c then 1 else 0 : Nat) : Int)) := by
  simp [sub64, Extern.MathBitsCarry.m64]
theorem wide_times (k : Nat) {v n : Nat} (hv : v < UU) (hn : n < 4294967296) : ∃ x : Int, g_dec_wide_times k (wh v) (wl v) (n : Int) = some (decide (v * n < UU), x) ∧ (v * n < UU → x = wh (v * n)) := by
  unfold g_dec_wide_times
  have h1 := wh_lt hv
  have h2 := Nat.mod_lt v (show 0 < 18446744073709551616 by decide)
  have e : v = v / 18446744073709551616 * 18446744073709551616 + v % 18446744073709551616 := by omega
  unfold wh wl
  rw [mul64 k h2 (by omega), Option.bind_some, mul64 k h1 (by omega), Option.bind_some, ← Int.natCast_mul, wU, show (0 : Int) = ((0 : Nat) : Int) from rfl, add64_eq]
  generalize hA : v / 18446744073709551616 = a at *
  generalize hB : v % 18446744073709551616 = b at *
  have hp : a * n ≤ 18446744073709551615 * n := Nat.mul_le_mul_right _ (by omega)
  have hq : b * n ≤ 18446744073709551615 * n := Nat.mul_le_mul_right _ (by omega)
  have ev : v * n = a * n * 18446744073709551616 + b * n := by rw [e, Nat.add_mul, Nat.mul_right_comm]
  rw [ev]
  simp only [Option.bind_some]
  have hov : a * n / 18446744073709551616 ≤ 4294967295 := by omega
  generalize a * n = p at *
  generalize b * n = q at *
  rw [← Int.natCast_add, wUl (by omega)]
  refine ⟨(((q / 18446744073709551616 + p % 18446744073709551616 + 0) % 18446744073709551616 : Nat) : Int), ?_, fun hlt => ?_⟩
  · refine congrArg some (Prod.ext ?_ rfl)
    simp only [decide_eq_decide]
    unfold UU
    omega
  · unfold UU at hlt
    congr 1
    omega
theorem wide_times_lo {v n : Nat} : IntKind.wrap .u64 (wl v * (n : Int)) = wl (v * n) := by
  unfold wl
  rw [← Int.natCast_mul, wU]
  congr 1
  simp [Nat.mul_mod]
/-- One digit off. -/
theorem wide_by (k : Nat) (hk : 3 ≤ k) {v : Nat} (hv : v < UU) : g_dec_wide_by k (wh v) (wl v) 10 = some (((v % 10 : Nat) : Int), wh (v / 10), wl (v / 10)) := by
  unfold g_dec_wide_by
  have h1 := wh_lt hv
  have h2 := Nat.mod_lt v (show 0 < 18446744073709551616 by decide)
  unfold wh wl
  have d1 := div64 k hk (hi := 0) (lo := v / 18446744073709551616) (y := 10) h1 (by decide) (by decide)
  rw [show ((0 : Nat) : Int) = 0 from rfl, show ((10 : Nat) : Int) = 10 from rfl] at d1
  rw [d1, Option.bind_some]
  simp only [Nat.zero_mul, Nat.zero_add]
  have d2 := div64 k hk (hi := v / 18446744073709551616 % 10) (lo := v % 18446744073709551616) (y := 10) h2 (by decide) (Nat.mod_lt _ (by decide))
  rw [show ((10 : Nat) : Int) = 10 from rfl] at d2
  rw [d2, Option.bind_some]
  congr 2
  · congr 1; omega
  · congr 2
    · omega
    · omega
/-- Times ten, so often. -/
theorem wide_tens_l0 (k : Nat) {m : Nat} : ∀ (n i v : Nat), i ≤ m → m - i + 1 < n → m < 1000000 → v < UU → ∃ (b : Bool) (x y : Int), g_dec_wide_tens_l0 k (m : Int) n true (i : Int) (wh v) (wl v) = some (b, x, y) ∧
    (b = true → v * 10 ^ (m - i) < UU ∧ x = wh (v * 10 ^ (m - i)) ∧ y = wl (v * 10 ^ (m - i))) ∧ (b = false → UU ≤ v * 10 ^ (m - i)) := by
  intro n
  induction n with
  | zero => intro i v _ h; omega
  | succ n ih =>
    intro i v hi hn hm hv
    rw [g_dec_wide_tens_l0.eq_2]
    simp only [bd, wide_zero, Option.bind_some, cond_true]
    by_cases him : i < m
    · rw [if_pos (by omega), Option.bind_some]
      by_cases h0 : v = 0
      · rw [dt ((wide_or hv).2 h0)]
        refine ⟨true, wh v, wl v, rfl, fun _ => ?_, fun h => by cases h⟩
        rw [h0]; simp
      · rw [df (fun h => h0 ((wide_or hv).1 h))]
        obtain ⟨x, h1, h2⟩ := wide_times k hv (n := 10) (by decide)
        simp only [Bool.not_false, cond_true]
        rw [show (10 : Int) = ((10 : Nat) : Int) from rfl, h1, Option.bind_some, wi (by omega) (by omega), wide_times_lo]
        by_cases hlt : v * 10 < UU
        · rw [dt hlt, h2 hlt, show ((i : Int) + 1) = ((i + 1 : Nat) : Int) by omega]
          have e : v * 10 ^ (m - i) = v * 10 * 10 ^ (m - (i + 1)) := by
            rw [show m - i = (m - (i + 1)) + 1 by omega, Nat.pow_succ, Nat.mul_assoc, Nat.mul_comm 10]
          rw [e]
          exact ih (i + 1) (v * 10) (by omega) (by omega) hm hlt
        · rw [df hlt]
          have hbig : UU ≤ v * 10 ^ (m - i) := by
            obtain ⟨j, hj⟩ : ∃ j, m - i = j + 1 := ⟨m - i - 1, by omega⟩
            rw [hj, Nat.pow_succ, Nat.mul_comm (10 ^ j), ← Nat.mul_assoc]
            exact Nat.le_trans (Nat.le_of_not_lt hlt) (Nat.le_mul_of_pos_right _ (Nat.pow_pos (by decide)))
          obtain ⟨n', rfl⟩ : ∃ n', n = n' + 1 := ⟨n - 1, by omega⟩
          rw [g_dec_wide_tens_l0.eq_2]
          refine ⟨false, x, wl (v * 10), ?_, (fun h => by cases h), fun _ => hbig⟩
          simp only [cond_false, bd]
          split <;> rfl
    · rw [if_neg (by omega)]
      refine ⟨true, wh v, wl v, rfl, fun _ => ?_, fun h => by cases h⟩
      rw [show m - i = 0 by omega]; simp [hv]
theorem wide_tens (k : Nat) {v m : Nat} (hv : v < UU) (hm : m < 1000000) (hk : m + 2 ≤ k) : ∃ (b : Bool) (x y : Int), g_dec_wide_tens k (wh v) (wl v) (m : Int) = some (b, x, y) ∧
    (b = true → v * 10 ^ m < UU ∧ x = wh (v * 10 ^ m) ∧ y = wl (v * 10 ^ m)) ∧ (b = false → UU ≤ v * 10 ^ m) := by
  unfold g_dec_wide_tens
  obtain ⟨b, x, y, h1, h2, h3⟩ := wide_tens_l0 k (m := m) k 0 v (Nat.zero_le _) (by omega) hm hv
  rw [show ((0 : Nat) : Int) = 0 from rfl] at h1
  rw [h1]
  exact ⟨b, x, y, rfl, h2, h3⟩
/-- Which is more. -/
def cmpN (v w : Nat) : Int := if v = w then 0 else if v < w then -1 else 1
theorem wide_cmp (k : Nat) {v w : Nat} (hv : v < UU) (hw : w < UU) : g_dec_wide_cmp k (wh v) (wl v) (wh w) (wl w) = some (cmpN v w) := by
  unfold g_dec_wide_cmp cmpN
  simp only [Option.bind_some, bd, Bool.and_true]
  unfold wh wl
  have h1 := wh_lt hv
  have h2 := wh_lt hw
  by_cases h : v = w
  · subst h; simp
  · rw [if_neg h]
    have hne : (decide (((v / 18446744073709551616 : Nat) : Int) = ((w / 18446744073709551616 : Nat) : Int)) && decide (((v % 18446744073709551616 : Nat) : Int) = ((w % 18446744073709551616 : Nat) : Int))) = false := by
      rw [Bool.and_eq_false_iff]
      by_cases h3 : v / 18446744073709551616 = w / 18446744073709551616
      · exact .inr (df (by omega))
      · exact .inl (df (by omega))
    rw [hne, bf]
    by_cases hlt : v < w
    · rw [if_pos hlt]
      by_cases h3 : v / 18446744073709551616 < w / 18446744073709551616
      · rw [if_pos (by omega)]; rfl
      · rw [if_neg (by omega), if_pos (by omega), Option.bind_some, dt (by omega)]; rfl
    · rw [if_neg hlt]
      by_cases h3 : v / 18446744073709551616 = w / 18446744073709551616
      · rw [if_neg (by omega), if_pos (by omega), Option.bind_some, df (by omega)]; rfl
      · rw [if_neg (by omega), if_neg (by omega)]; rfl
theorem wide_plus (k : Nat) {v w : Nat} (hv : v < UU) (hw : w < UU) : g_dec_wide_plus k (wh v) (wl v) (wh w) (wl w) = some (decide (v + w < UU)) := by
  unfold g_dec_wide_plus
  have h1 := wh_lt hv
  have h2 := wh_lt hw
  unfold wh wl
  rw [show (0 : Int) = ((0 : Nat) : Int) from rfl, add64_eq]
  simp only
  rw [add64_eq]
  simp only [Int.toNat_natCast, bd]
  rw [if_pos (by omega), Option.bind_some]
  congr 1
  rw [decide_eq_decide]
  unfold UU
  omega
theorem wide_plus_val {v w : Nat} (hv : v < UU) (hw : w < UU) (h : v + w < UU) : (add64 (wh v) (wh w) ((add64 (wl v) (wl w) 0).2)).1 = wh (v + w) ∧ (add64 (wl v) (wl w) 0).1 = wl (v + w) := by
  have h1 := wh_lt hv
  have h2 := wh_lt hw
  unfold wh wl
  rw [show (0 : Int) = ((0 : Nat) : Int) from rfl, add64_eq]
  simp only
  rw [add64_eq]
  simp only
  unfold UU at h
  constructor
  · congr 1; omega
  · congr 1; omega
theorem wide_less (k : Nat) {v w : Nat} : g_dec_wide_less k (wh v) (wl v) (wh w) (wl w) = some () := by
  unfold g_dec_wide_less
  unfold wl
  rw [show (0 : Int) = ((0 : Nat) : Int) from rfl, sub64_eq]
  simp only [Int.toNat_natCast, bd]
  rw [if_pos (by split <;> omega)]
theorem wide_less_val {v w : Nat} (hv : v < UU) (h : w ≤ v) : (sub64 (wh v) (wh w) ((sub64 (wl v) (wl w) 0).2)).1 = wh (v - w) ∧ (sub64 (wl v) (wl w) 0).1 = wl (v - w) := by
  have h1 := wh_lt hv
  have h2 := wh_lt (Nat.lt_of_le_of_lt h hv)
  unfold wh wl
  rw [show (0 : Int) = ((0 : Nat) : Int) from rfl, sub64_eq]
  simp only
  rw [sub64_eq]
  simp only
  constructor
  · congr 1
    split <;> omega
  · congr 1; omega
end Go.Proofs.Ytdbeblgfccjbgaa.W
namespace Go.Proofs.Ytdbeblgfccjbgaa.W
open Go Go.Q Go.Proofs Go.Dz
set_option linter.unusedVariables false
set_option linter.unusedSimpArgs false
def sgn (neg : Bool) (v : Nat) : Int := if neg then -(v : Int) else (v : Int)
theorem sgn_mul {neg : Bool} {v w : Nat} : sgn neg (v * w) = sgn neg v * (w : Int) := by
  cases neg <;> simp [sgn, Int.neg_mul]
theorem sgn_zero {neg : Bool} : sgn neg 0 = 0 := by cases neg <;> simp [sgn]
theorem sgn_ne {neg : Bool} {v : Nat} (h : v ≠ 0) : sgn neg v ≠ 0 := by cases neg <;> simp [sgn] <;> omega
theorem sgn_dvd {neg : Bool} {v : Nat} : (10 : Int) ∣ sgn neg v ↔ v % 10 = 0 := by
  cases neg <;> simp [sgn] <;> omega
theorem sgn_abs {neg : Bool} {v : Nat} : (sgn neg v).natAbs = v := by cases neg <;> simp [sgn]
theorem tell_l0 (k : Nat) (hk : 3 ≤ k) : ∀ (d n v : Nat) (e : Int), d ≤ n → v ≠ 0 → v < UU → v < 10 ^ d → -4000 ≤ e → e + d ≤ 5000 → ∃ (w j : Nat), v = w * 10 ^ j ∧ w % 10 ≠ 0 ∧ j ≤ d ∧
    g_dec_num_tell_l0 k n ((v % 10 : Nat) : Int) (wh v) (wl v) e (wh (v / 10)) (wl (v / 10)) = some (wh w, wl w, e + j) := by
  intro d
  induction d with
  | zero => intro n v e _ h0 _ h; simp at h; omega
  | succ d ih =>
    intro n v e hdn h0 hU h he1 he2
    obtain ⟨n, rfl⟩ : ∃ n', n = n' + 1 := ⟨n - 1, by omega⟩
    rw [g_dec_num_tell_l0.eq_2]
    simp only [bd]
    by_cases hr : v % 10 = 0
    · rw [if_pos (by omega), wide_by k hk (v := v / 10) (by unfold UU at *; omega), Option.bind_some]
      rw [Nat.pow_succ] at h
      obtain ⟨w, j, h1, h2, h3, h4⟩ := ih n (v / 10) (e + 1) (by omega) (by omega) (by unfold UU at *; omega) (by omega) (by omega) (by omega)
      refine ⟨w, j + 1, ?_, h2, by omega, ?_⟩
      · rw [Nat.pow_succ, ← Nat.mul_assoc, ← h1]; omega
      · rw [wi (by omega) (by omega)]
        simp only
        rw [h4]
        congr 3
        omega
    · rw [if_neg (by omega)]
      exact ⟨v, 0, by simp, hr, by omega, by simp⟩
/-- The greatest size. -/
def topN (neg : Bool) : Nat := if neg then 9223372036854775808 else 9223372036854775807
theorem in_range {neg : Bool} {w : Nat} : (-9223372036854775808 ≤ sgn neg w ∧ sgn neg w ≤ 9223372036854775807) ↔ w ≤ topN neg := by
  cases neg <;> simp [sgn, topN] <;> omega
theorem neg_wrap {u : Nat} (h : u ≤ 9223372036854775808) : IntKind.wrap .i64 (0 - (IntKind.wrap .i64 (u : Int))) = -(u : Int) := by
  rw [IntKind.wrap_i64, IntKind.wrap_i64]; omega
theorem num_tell (k : Nat) (hk : 60 ≤ k) {neg : Bool} {v : Nat} {e : Int} (hv : v < UU) (he1 : -4000 ≤ e) (he2 : e ≤ 4000) : ∃ er c x : Int, g_dec_num_tell k neg (wh v) (wl v) e = some (er, c, x) ∧ Tells (· = val (sgn neg v) e) ((c, x), er) := by
  unfold g_dec_num_tell
  simp only [wide_zero, Option.bind_some, bd]
  by_cases h0 : v = 0
  · rw [if_pos ((wide_or hv).2 h0)]
    refine ⟨0, 0, 0, rfl, ?_⟩
    rw [h0, sgn_zero]
    exact tells_zero
  · rw [if_neg (fun h => h0 ((wide_or hv).1 h)), wide_by k (by omega) hv, Option.bind_some]
    obtain ⟨w, j, h1, h2, h3, h4⟩ := tell_l0 k (by omega) 39 k v e (by omega) h0 hv (Nat.lt_of_lt_of_le hv (by decide)) (by omega) (by omega)
    simp only
    rw [h4, Option.bind_some]
    have hwv : w ≤ v := by rw [h1]; exact Nat.le_mul_of_pos_right _ (Nat.pow_pos (by decide))
    have hw : w < UU := Nat.lt_of_le_of_lt hwv hv
    have hw0 : w ≠ 0 := by rintro rfl; simp at h2
    have hval : val (sgn neg v) e = val (sgn neg w) (e + j) := by
      rw [h1, sgn_mul]
      have : ((10 ^ j : Nat) : Int) = (10 : Int) ^ j := by simp
      rw [this, val_shift (by omega)]
    rw [hval]
    have hm : sgn neg w ≠ 0 := sgn_ne hw0
    have hd : ¬ (10 : Int) ∣ sgn neg w := fun h => h2 (sgn_dvd.1 h)
    clear hval h1 h4 h0 hv hwv
    generalize he' : e + (j : Int) = f at *
    have hf : -4000 ≤ f ∧ f ≤ 4039 := by omega
    clear he' he1 he2 h3
    -- what comes behind the size is known
    have top : ((bif neg then some (IntKind.wrap .u64 (9223372036854775807 + 1)) else some 9223372036854775807) : Option Int) = some ((topN neg : Nat) : Int) := by
      cases neg
      · rfl
      · simp only [cond_true]
        have : IntKind.wrap .u64 (9223372036854775807 + 1) = 9223372036854775808 := by decide
        rw [this]; rfl
    have fin : ∀ (u t : Nat) (x : Int), u = w * 10 ^ t → u < UU → x = (if f > 18 then 18 else f) → (t : Int) = f - x → ∃ er c x' : Int,
        (((bif (!true) then some true else if x < -18 then some true else if 0 < wh u then some true else some (decide (((topN neg : Nat) : Int) < wl u))) : Option Bool).bind fun x889 =>
          bif x889 then some (30, 0, 0) else (((bif neg then some (IntKind.wrap .i64 (0 - (IntKind.wrap .i64 (wl u)))) else some (IntKind.wrap .i64 (wl u))) : Option Int).bind fun x897 => some (0, x897, x))) = some (er, c, x') ∧ Tells (· = val (sgn neg w) f) ((c, x'), er) := by
      intro u t x hu huU hx ht
      have hsu : sgn neg u = sgn neg w * 10 ^ (f - x).toNat := by
        rw [hu, sgn_mul, show (f - x).toNat = t by omega]; simp
      rw [Bool.not_true, bf]
      by_cases hx18 : x < -18
      · rw [if_pos hx18, Option.bind_some, bt]
        refine ⟨30, 0, 0, rfl, tells_none hm hd (by omega) (.inl ?_)⟩
        split at hx <;> omega
      · rw [if_neg hx18]
        have hb : ((if 0 < wh u then some true else some (decide (((topN neg : Nat) : Int) < wl u))) : Option Bool) = some (decide (topN neg < u)) := by
          have htn : topN neg < 18446744073709551616 := by unfold topN; split <;> decide
          unfold wh wl
          by_cases hh : u / 18446744073709551616 = 0
          · rw [if_neg (by omega)]
            congr 1
            rw [decide_eq_decide]
            omega
          · rw [if_pos (by omega), dt (by omega)]
        rw [hb, Option.bind_some]
        by_cases hu2 : topN neg < u
        · rw [dt hu2, bt]
          refine ⟨30, 0, 0, rfl, ?_⟩
          have hnr : ¬ (-9223372036854775808 ≤ sgn neg u ∧ sgn neg u ≤ 9223372036854775807) := by rw [in_range]; omega
          by_cases hf18 : f > 18
          · rw [if_pos hf18] at hx
            subst hx
            rw [hsu] at hnr
            exact tells_none hm hd (by omega) (.inr hnr)
          · rw [if_neg hf18] at hx
            subst hx
            have ht0 : t = 0 := by omega
            subst ht0
            rw [hsu] at hnr
            refine tells_none hm hd (by omega) (.inr ?_)
            rw [show (x - 18).toNat = (x - x).toNat by omega]
            exact hnr
        · rw [df hu2, bf]
          have hr := in_range.2 (Nat.le_of_not_lt hu2)
          have ht2 : topN neg ≤ 9223372036854775808 := by unfold topN; split <;> decide
          rw [wl_small (show u < 18446744073709551616 by omega)]
          refine ⟨0, sgn neg u, x, ?_, tells_some hm hd (by omega) ⟨hx, hsu, by omega, hr.1, hr.2⟩⟩
          cases neg
          · simp only [sgn, Bool.false_eq_true, if_false] at hr ⊢
            rw [bf, wi (n := (u : Int)) (by omega) (by omega)]; rfl
          · simp only [sgn, if_true, cond_true, Option.bind_some] at hr ⊢
            rw [neg_wrap (Nat.le_trans (Nat.le_of_not_lt hu2) ht2)]
    by_cases hf18 : 18 < f
    · rw [if_pos hf18, wi (n := f - 18) (by omega) (by omega)]
      obtain ⟨m, hm40⟩ : ∃ m : Nat, (if (40 : Int) < f - 18 then (40 : Int) else f - 18) = (m : Int) := ⟨(if (40 : Int) < f - 18 then (40 : Int) else f - 18).toNat, by split <;> omega⟩
      have hm' : (f ≤ 58 ∧ (m : Int) = f - 18) ∨ (58 < f ∧ m = 40) := by split at hm40 <;> omega
      rw [hm40]
      simp only [Option.bind_some]
      obtain ⟨b, x, y, t1, t2, t3⟩ := wide_tens k (m := m) hw (by omega) (by omega)
      rw [t1]
      simp only [Option.bind_some]
      -- too great
      have big : UU ≤ w * 10 ^ (f - 18).toNat → Tells (· = val (sgn neg w) f) ((0, 0), 30) := by
        intro hb
        refine tells_none hm hd (by omega) (.inr ?_)
        have : sgn neg w * 10 ^ (f - 18).toNat = sgn neg (w * 10 ^ (f - 18).toNat) := by rw [sgn_mul]; simp
        rw [this, in_range]
        unfold UU at hb
        have ht2 : topN neg ≤ 9223372036854775808 := by unfold topN; split <;> decide
        omega
      by_cases hf58 : 58 < f
      · rw [if_pos hf58, Option.bind_some]
        simp only [top, Option.bind_some, Bool.not_false, cond_true]
        refine ⟨30, 0, 0, rfl, big ?_⟩
        have h41 : 10 ^ 41 ≤ 10 ^ (f - 18).toNat := Nat.pow_le_pow_right (by decide) (by omega)
        have : 1 * 10 ^ 41 ≤ w * 10 ^ (f - 18).toNat := Nat.mul_le_mul (by omega) h41
        exact Nat.le_trans (by decide) this
      · rw [if_neg hf58, Option.bind_some]
        have hmf : (f - 18).toNat = m := by omega
        cases b with
        | false =>
          simp only [top, Option.bind_some, Bool.not_false, cond_true]
          exact ⟨30, 0, 0, rfl, big (by rw [hmf]; exact t3 rfl)⟩
        | true =>
          obtain ⟨u1, u2, u3⟩ := t2 rfl
          simp only [top, Option.bind_some, u2, u3]
          exact fin _ m 18 rfl u1 (by rw [if_pos hf18]) (by omega)
    · rw [if_neg hf18, Option.bind_some]
      simp only [top, Option.bind_some]
      exact fin w 0 f (by simp) hw (by rw [if_neg (by omega)]) (by omega)
end Go.Proofs.Ytdbeblgfccjbgaa.W
namespace Go.Proofs.Ytdbeblgfccjbgaa.W
open Go Go.Q Go.Proofs Go.Dz
set_option linter.unusedVariables false
set_option linter.unusedSimpArgs false
theorem getD_ix {l : List Int} {i : Nat} (h : i < l.length) : ix l (i : Int) = some (l.getD i 0) := by
  rw [ix_nat h, List.getD_eq_getElem?_getD, List.getElem?_eq_getElem h]; rfl
theorem trim_l0 (k : Nat) {l : List Int} (hl : l.length ≤ 100000) : ∀ (n m : Nat), m < n → m ≤ l.length → (∀ i, m ≤ i → i < l.length → l.getD i 0 = 0) →
    ∃ r : Nat, g_quireref09_trim_l0 k l n (m : Int) = some (r : Int) ∧ r ≤ l.length ∧ (∀ i, r ≤ i → i < l.length → l.getD i 0 = 0) ∧ (r ≠ 0 → l.getD (r - 1) 0 ≠ 0) := by
  intro n
  induction n with
  | zero => intro m h; omega
  | succ n ih =>
    intro m h1 h2 h3
    rw [g_quireref09_trim_l0.eq_2]
    simp only [bd]
    by_cases hm : m = 0
    · subst hm
      exact ⟨0, by simp, by omega, h3, fun h => absurd rfl h⟩
    · obtain ⟨j, rfl⟩ : ∃ j, m = j + 1 := ⟨m - 1, by omega⟩
      rw [if_pos (by omega), show (((j + 1 : Nat) : Int) - 1) = (j : Int) by omega, wi (by omega) (by omega), getD_ix (by omega)]
      simp only [Option.bind_some]
      by_cases hz : l.getD j 0 = 0
      · rw [dt hz, bt]
        refine ih j (by omega) (by omega) fun i hi hl => ?_
        by_cases hij : i = j
        · subst hij; exact hz
        · exact h3 i (by omega) hl
      · rw [df hz, bf]
        exact ⟨j + 1, rfl, h2, h3, fun _ => hz⟩
theorem trim (k : Nat) {neg : Bool} {l : List Int} (hl : l.length ≤ 100000) (hd : Dig l) (hk : l.length < k) : g_quireref09_trim k neg l = some (neg && decide (nval l ≠ 0), digs (nval l)) := by
  unfold g_quireref09_trim
  obtain ⟨r, h1, h2, h3, h4⟩ := trim_l0 k hl k l.length (by omega) (Nat.le_refl _) (fun i hi hl => by omega)
  rw [h1, Option.bind_some]
  have hn := digs_nval hd h2 h3 h4
  simp only [bd]
  by_cases hr : r = 0
  · subst hr
    rw [if_pos (by simp)]
    have : nval l = 0 := by rw [← nval_digs (nval l), hn]; rfl
    rw [this, digs_zero]; simp
  · rw [if_neg (by omega), if_pos (by omega), if_pos (by simp; omega)]
    have hne : nval l ≠ 0 := by
      intro h0
      rw [h0, digs_zero] at hn
      have := congrArg List.length hn
      simp at this
      omega
    rw [hn]
    simp [hne]
theorem at_ (k : Nat) (neg : Bool) (l : List Int) (i : Nat) : g_quireref09_at k neg l (i : Int) = some (l.getD i 0) := by
  unfold g_quireref09_at
  simp only [bd]
  rw [if_pos (by omega)]
  simp only [Option.bind_some]
  by_cases h : i < l.length
  · rw [dt (by omega), bt, getD_ix h]; rfl
  · rw [df (by omega), bf, List.getD_eq_getElem?_getD, List.getElem?_eq_none (by omega)]; rfl
/-- A digit, in numbers. -/
theorem step10 (n i : Nat) : n / 10 ^ i = 10 * (n / 10 ^ (i + 1)) + n / 10 ^ i % 10 := by
  rw [Nat.pow_succ, ← Nat.div_div_eq_div_mul]; omega
theorem gone10 {n i : Nat} (h : (digs n).length ≤ i) : n / 10 ^ i = 0 := by
  rw [Nat.div_eq_of_lt]
  exact Nat.lt_of_lt_of_le digs_lt (Nat.pow_le_pow_right (by decide) h)
theorem sum_l0 (k : Nat) (p q : Bool) {a b : Nat} (ha : (digs a).length ≤ 10000) (hb : (digs b).length ≤ 10000) : ∀ (n i c : Nat) (acc : List Int), i ≤ (digs a).length + (digs b).length + 1 → (digs a).length + (digs b).length + 1 < n + i → c ≤ 1 → acc.length = i → Dig acc →
    nval acc + 10 ^ i * (c + a / 10 ^ i + b / 10 ^ i) = a + b → (i ≤ (digs a).length ∨ i ≤ (digs b).length ∨ c = 0) →
    ∃ r, g_quireref09_sum_l0 k p (digs a) q (digs b) n (c : Int) (i : Int) acc = some r ∧ Dig r ∧ nval r = a + b ∧ r.length ≤ (digs a).length + (digs b).length + 1 := by
  intro n
  induction n with
  | zero => intro i c acc h1 h2; omega
  | succ n ih =>
    intro i c acc h1 h2 hc hlen hd hv hz
    rw [g_quireref09_sum_l0.eq_2]
    simp only [Option.bind_some, bd]
    by_cases hle : i ≤ (digs a).length ∨ i ≤ (digs b).length
    · have e1 : (if (i : Int) ≤ (((digs a).length : Nat) : Int) then some true else some (decide ((i : Int) ≤ (((digs b).length : Nat) : Int)))) = some true := by
        rcases hle with h | h
        · rw [if_pos (by omega)]
        · rw [dt (by omega)]; simp
      rw [e1, Option.bind_some, bt, at_, at_, digs_at, digs_at]
      simp only [Option.bind_some]
      have sa := step10 a i
      have sb := step10 b i
      have la : a / 10 ^ i % 10 < 10 := Nat.mod_lt _ (by decide)
      have lb : b / 10 ^ i % 10 < 10 := Nat.mod_lt _ (by decide)
      -- no digit behind
      have hz' : i ≤ (digs a).length ∧ i + 1 ≤ (digs a).length ∨ i + 1 ≤ (digs b).length ∨ (a / 10 ^ i % 10 + b / 10 ^ i % 10 + c) / 10 = 0 := by
        by_cases h3 : i + 1 ≤ (digs a).length
        · exact .inl ⟨by omega, h3⟩
        · by_cases h4 : i + 1 ≤ (digs b).length
          · exact .inr (.inl h4)
          · have z1 := gone10 (n := a) (i := i) (by omega)
            have z2 := gone10 (n := b) (i := i) (by omega)
            rw [z1, z2]
            exact .inr (.inr (by omega))
      generalize a / 10 ^ i % 10 = x at *
      generalize b / 10 ^ i % 10 = y at *
      rw [← Int.natCast_add, wi (n := ((x + y : Nat) : Int)) (by omega) (by omega), ← Int.natCast_add, wi (n := ((x + y + c : Nat) : Int)) (by omega) (by omega)]
      simp only [show (10 : Int) = ((10 : Nat) : Int) from rfl, tm, td]
      rw [if_pos (by simp; omega), wi (n := (i : Int) + 1) (by omega) (by omega), show ((i : Int) + 1) = ((i + 1 : Nat) : Int) by omega, wi (n := (((x + y + c) / 10 : Nat) : Int)) (by omega) (by omega)]
      refine ih (i + 1) ((x + y + c) / 10) _ (by omega) (by omega) (by omega) (by simp [hlen]) (hd.app (Dig.cons (by omega) (by omega) Dig.nil)) ?_ (by omega)
      rw [nval_app, hlen]
      simp only [nval, Int.toNat_natCast, Nat.mul_zero, Nat.add_zero]
      rw [← hv, sa, sb, Nat.pow_succ, Nat.add_assoc, Nat.mul_assoc, ← Nat.mul_add]
      congr 2
      omega
    · have e1 : (if (i : Int) ≤ (((digs a).length : Nat) : Int) then some true else some (decide ((i : Int) ≤ (((digs b).length : Nat) : Int)))) = some false := by
        rw [if_neg (by omega), df (by omega)]
      rw [e1, Option.bind_some, bf]
      refine ⟨acc, rfl, hd, ?_, by omega⟩
      have z1 := gone10 (n := a) (i := i) (by omega)
      have z2 := gone10 (n := b) (i := i) (by omega)
      have hc0 : c = 0 := by omega
      rw [z1, z2, hc0] at hv
      simpa using hv
theorem sum_ (k : Nat) (p q : Bool) {a b : Nat} (ha : (digs a).length ≤ 10000) (hb : (digs b).length ≤ 10000) (hk : 30000 ≤ k) : ∃ r, g_quireref09_sum k p (digs a) q (digs b) = some r ∧ Dig r ∧ nval r = a + b ∧ r.length ≤ (digs a).length + (digs b).length + 1 := by
  unfold g_quireref09_sum
  obtain ⟨r, h1, h2, h3, h4⟩ := sum_l0 k p q ha hb k 0 0 [] (by omega) (by omega) (by omega) rfl Dig.nil (by simp [nval]) (by omega)
  rw [show ((0 : Nat) : Int) = 0 from rfl] at h1
  rw [h1]
  exact ⟨r, rfl, h2, h3, h4⟩
theorem more_l0 (k : Nat) (p q : Bool) {a b : Nat} (ha : (digs a).length ≤ 10000) (hb : (digs b).length ≤ 10000) : ∀ (n i : Nat), i < n → i ≤ 30000 → a / 10 ^ i = b / 10 ^ i →
    (cmpN a b = 0 → g_quireref09_more_l0 k p (digs a) q (digs b) n ((i : Int) - 1) = some (Sum.inr ())) ∧ (cmpN a b ≠ 0 → g_quireref09_more_l0 k p (digs a) q (digs b) n ((i : Int) - 1) = some (Sum.inl (cmpN a b))) := by
  intro n
  induction n with
  | zero => intro i h; omega
  | succ n ih =>
    intro i h1 h2 h3
    rw [g_quireref09_more_l0.eq_2]
    simp only [bd]
    by_cases h0 : i = 0
    · subst h0
      have : a = b := by simpa using h3
      subst this
      rw [if_neg (by omega)]
      simp [cmpN]
    · obtain ⟨j, rfl⟩ : ∃ j, i = j + 1 := ⟨i - 1, by omega⟩
      rw [show ((j + 1 : Nat) : Int) - 1 = (j : Int) by omega, if_pos (by omega)]
      simp only [at_, digs_at, Option.bind_some]
      have sa := step10 a j
      have sb := step10 b j
      have hgt : ∀ {x y : Nat}, y / 10 ^ j < x / 10 ^ j → y < x := fun h => by
        apply Nat.lt_of_not_le
        intro hle
        have := Nat.div_le_div_right (c := 10 ^ j) hle
        omega
      by_cases hlt : b / 10 ^ j % 10 < a / 10 ^ j % 10
      · rw [if_pos (by omega)]
        have := hgt (x := a) (y := b) (by omega)
        have hc : cmpN a b = 1 := by unfold cmpN; rw [if_neg (by omega), if_neg (by omega)]
        rw [hc]; simp
      · rw [if_neg (by omega)]
        by_cases hlt2 : a / 10 ^ j % 10 < b / 10 ^ j % 10
        · rw [if_pos (by omega)]
          have := hgt (x := b) (y := a) (by omega)
          have hc : cmpN a b = -1 := by unfold cmpN; rw [if_neg (by omega), if_pos (by omega)]
          rw [hc]; simp
        · rw [if_neg (by omega), wi (by omega) (by omega)]
          exact ih j (by omega) (by omega) (by omega)
theorem more (k : Nat) (p q : Bool) {a b : Nat} (ha : (digs a).length ≤ 10000) (hb : (digs b).length ≤ 10000) (hk : 30000 ≤ k) : g_quireref09_more k p (digs a) q (digs b) = some (cmpN a b) := by
  unfold g_quireref09_more
  rw [wi (by omega) (by omega), Option.bind_some]
  have z1 := gone10 (n := a) (i := (digs a).length + (digs b).length + 1) (by omega)
  have z2 := gone10 (n := b) (i := (digs a).length + (digs b).length + 1) (by omega)
  obtain ⟨h1, h2⟩ := more_l0 k p q ha hb k ((digs a).length + (digs b).length + 1) (by omega) (by omega) (by rw [z1, z2])
  rw [show (((digs a).length + (digs b).length + 1 : Nat) : Int) - 1 = (((digs a).length : Nat) : Int) + (((digs b).length : Nat) : Int) by omega] at h1 h2
  by_cases h : cmpN a b = 0
  · rw [h1 h, h]; rfl
  · rw [h2 h]; rfl
theorem less_l0 (k : Nat) (p q : Bool) {a b : Nat} (ha : (digs a).length ≤ 10000) (hb : (digs b).length ≤ 10000) (hab : b ≤ a) : ∀ (n i c : Nat) (acc : List Int), i ≤ (digs a).length → (digs a).length < n + i → c ≤ 1 → acc.length = i → Dig acc →
    nval acc + 10 ^ i * (a / 10 ^ i) + b = a + 10 ^ i * (b / 10 ^ i + c) →
    ∃ r, g_quireref09_less_l0 k p (digs a) q (digs b) n (c : Int) (i : Int) acc = some r ∧ Dig r ∧ nval r = a - b ∧ r.length ≤ (digs a).length := by
  intro n
  induction n with
  | zero => intro i c acc h1 h2; omega
  | succ n ih =>
    intro i c acc h1 h2 hc hlen hd hv
    rw [g_quireref09_less_l0.eq_2]
    simp only [Option.bind_some, bd]
    by_cases hle : i < (digs a).length
    · rw [if_pos (by omega), at_, at_, digs_at, digs_at]
      simp only [Option.bind_some]
      have sa := step10 a i
      have sb := step10 b i
      have la : a / 10 ^ i % 10 < 10 := Nat.mod_lt _ (by decide)
      have lb : b / 10 ^ i % 10 < 10 := Nat.mod_lt _ (by decide)
      rw [sa, sb] at hv
      generalize a / 10 ^ i % 10 = x at *
      generalize b / 10 ^ i % 10 = y at *
      rw [wi (n := (x : Int) - y) (by omega) (by omega), wi (n := (x : Int) - y - c) (by omega) (by omega)]
      obtain ⟨z, c', hz, hzc, hz9, hc'⟩ : ∃ z c' : Nat, (if (x : Int) - y - c < 0 then some ((1 : Int), IntKind.wrap .i64 ((x : Int) - y - c + 10)) else some (0, (x : Int) - y - c)) = some ((c' : Int), (z : Int)) ∧ z + y + c = x + 10 * c' ∧ z ≤ 9 ∧ c' ≤ 1 := by
        by_cases hn : (x : Int) - y - c < 0
        · exact ⟨x + 10 - y - c, 1, by rw [if_pos hn, wi (by omega) (by omega)]; congr 2; omega, by omega, by omega, by omega⟩
        · exact ⟨x - y - c, 0, by rw [if_neg hn]; congr 2; omega, by omega, by omega, by omega⟩
      rw [hz, Option.bind_some]
      simp only
      rw [if_pos (by simp; omega), wi (n := (i : Int) + 1) (by omega) (by omega), show ((i : Int) + 1) = ((i + 1 : Nat) : Int) by omega]
      refine ih (i + 1) c' _ (by omega) (by omega) hc' (by simp [hlen]) (hd.app (Dig.cons (by omega) (by omega) Dig.nil)) ?_
      rw [nval_app, hlen]
      simp only [nval, Int.toNat_natCast, Nat.mul_zero, Nat.add_zero]
      generalize a / 10 ^ (i + 1) = A at *
      generalize b / 10 ^ (i + 1) = B at *
      rw [Nat.pow_succ, Nat.mul_assoc, Nat.mul_assoc]
      have t1 : 10 ^ i * (10 * A + x) = 10 ^ i * (10 * A) + 10 ^ i * x := Nat.mul_add _ _ _
      have t2 : 10 ^ i * (10 * B + y + c) = 10 ^ i * (10 * B) + 10 ^ i * y + 10 ^ i * c := by rw [Nat.mul_add, Nat.mul_add]
      have t3 : 10 ^ i * (10 * (B + c')) = 10 ^ i * (10 * B) + 10 ^ i * (10 * c') := by rw [Nat.mul_add 10, Nat.mul_add]
      have t4 : 10 ^ i * (z + y + c) = 10 ^ i * (x + 10 * c') := by rw [hzc]
      rw [Nat.mul_add, Nat.mul_add, Nat.mul_add] at t4
      rw [t1, t2] at hv
      rw [t3]
      omega
    · rw [if_neg (by omega)]
      refine ⟨acc, rfl, hd, ?_, by omega⟩
      have hi : i = (digs a).length := by omega
      have z1 := gone10 (n := a) (i := i) (by omega)
      have z2 : b / 10 ^ i = 0 := by
        have := Nat.div_le_div_right (c := 10 ^ i) hab
        rw [z1] at this
        exact Nat.le_zero.1 this
      rw [z1, z2] at hv
      have hlt := nval_lt hd
      rw [hlen] at hlt
      have hc0 : c = 0 := by
        rcases Nat.lt_or_ge 0 c with h | h
        · have : c = 1 := by omega
          subst this
          simp at hv
          omega
        · omega
      rw [hc0] at hv
      simp at hv
      omega
theorem less_ (k : Nat) (p q : Bool) {a b : Nat} (ha : (digs a).length ≤ 10000) (hb : (digs b).length ≤ 10000) (hab : b ≤ a) (hk : 30000 ≤ k) : ∃ r, g_quireref09_less k p (digs a) q (digs b) = some r ∧ Dig r ∧ nval r = a - b ∧ r.length ≤ (digs a).length := by
  unfold g_quireref09_less
  obtain ⟨r, h1, h2, h3, h4⟩ := less_l0 k p q ha hb hab k 0 0 [] (by omega) (by omega) (by omega) rfl Dig.nil (by simp [nval])
  rw [show ((0 : Nat) : Int) = 0 from rfl] at h1
  rw [h1]
  exact ⟨r, rfl, h2, h3, h4⟩
theorem cmpN_nonneg {a b : Nat} : 0 ≤ cmpN a b ↔ b ≤ a := by
  unfold cmpN
  by_cases h : a = b
  · rw [if_pos h]; omega
  · rw [if_neg h]
    by_cases h2 : a < b
    · rw [if_pos h2]; omega
    · rw [if_neg h2]; omega
/-- How many digits a number has. -/
abbrev nd (x : Int) : Nat := (digs x.natAbs).length
theorem plus (k : Nat) {x y : Int} (hx : nd x ≤ 10000) (hy : nd y ≤ 10000) (hk : 30000 ≤ k) : g_quireref09_Plus k (decide (x < 0)) (digs x.natAbs) (decide (y < 0)) (digs y.natAbs) = some (decide (x + y < 0), digs (x + y).natAbs) := by
  unfold g_quireref09_Plus
  have hx' : (digs x.natAbs).length ≤ 10000 := hx
  have hy' : (digs y.natAbs).length ≤ 10000 := hy
  by_cases hs : (decide (x < 0)) = (decide (y < 0))
  · rw [hs, beq_self_eq_true, bt]
    obtain ⟨r, h1, h2, h3, h4⟩ := sum_ k (decide (y < 0)) (decide (y < 0)) hx hy hk
    rw [h1, Option.bind_some, trim k (by omega) h2 (by omega), h3]
    simp only [Option.bind_some]
    have hab : x.natAbs + y.natAbs = (x + y).natAbs := by
      rw [decide_eq_decide] at hs
      omega
    rw [hab]
    congr 2
    rw [decide_eq_decide] at hs
    rw [Bool.eq_iff_iff]
    simp only [Bool.and_eq_true, decide_eq_true_eq]
    omega
  · have hb : ((decide (x < 0)) == (decide (y < 0))) = false := by rw [beq_eq_false_iff_ne]; exact hs
    rw [hb, bf, more k _ _ hx hy hk, Option.bind_some]
    simp only [bd]
    have hs' : ¬ (x < 0 ↔ y < 0) := fun h => hs (by rw [decide_eq_decide]; exact h)
    by_cases hc : y.natAbs ≤ x.natAbs
    · have h0 : 0 ≤ cmpN x.natAbs y.natAbs := cmpN_nonneg.2 hc
      rw [if_pos h0]
      obtain ⟨r, h1, h2, h3, h4⟩ := less_ k (decide (x < 0)) (decide (y < 0)) hx hy hc hk
      rw [h1, Option.bind_some, trim k (by omega) h2 (by omega), h3]
      simp only [Option.bind_some]
      have hab : x.natAbs - y.natAbs = (x + y).natAbs := by omega
      rw [hab]
      congr 2
      rw [Bool.eq_iff_iff]
      simp only [Bool.and_eq_true, decide_eq_true_eq]
      omega
    · have h0 : ¬ 0 ≤ cmpN x.natAbs y.natAbs := fun h => hc (cmpN_nonneg.1 h)
      rw [if_neg h0]
      obtain ⟨r, h1, h2, h3, h4⟩ := less_ k (decide (y < 0)) (decide (x < 0)) hy hx (by omega) hk
      rw [h1, Option.bind_some, trim k (by omega) h2 (by omega), h3]
      simp only [Option.bind_some]
      have hab : y.natAbs - x.natAbs = (x + y).natAbs := by omega
      rw [hab]
      congr 2
      rw [Bool.eq_iff_iff]
      simp only [Bool.and_eq_true, decide_eq_true_eq]
      omega
theorem shift (k : Nat) {x : Int} {n : Nat} (hx : nd x ≤ 10000) (hn : n ≤ 10000) (hk : 30000 ≤ k) : g_quireref09_Shift k (decide (x < 0)) (digs x.natAbs) (n : Int) = some (decide (x * 10 ^ n < 0), digs (x * 10 ^ n).natAbs) := by
  unfold g_quireref09_Shift
  have hx' : (digs x.natAbs).length ≤ 10000 := hx
  simp only [bd]
  rw [if_pos (by omega), if_pos (by simp; omega)]
  have hd : Dig (List.replicate (Int.toNat (n : Int)) (0 : Int) ++ digs x.natAbs) := by
    refine Dig.app (fun d hd => ?_) (digs_dig _)
    rw [List.eq_of_mem_replicate hd]; omega
  have hv : nval (List.replicate (Int.toNat (n : Int)) (0 : Int) ++ digs x.natAbs) = (x * 10 ^ n).natAbs := by
    have h0 : ∀ m, nval (List.replicate m (0 : Int)) = 0 := by
      intro m
      induction m with
      | zero => rfl
      | succ m ih => rw [List.replicate_succ, nval, ih]; rfl
    rw [nval_app, h0, nval_digs, Int.natAbs_mul]
    simp [Int.natAbs_pow, Nat.mul_comm]
  rw [trim k (by simp; omega) hd (by simp; omega), hv]
  simp only [Option.bind_some]
  congr 2
  have hp := p10 n
  rw [Bool.eq_iff_iff]
  simp only [Bool.and_eq_true, decide_eq_true_eq]
  by_cases h0 : x < 0
  · have : x * 10 ^ n < 0 := Int.mul_neg_of_neg_of_pos h0 hp
    omega
  · have : 0 ≤ x * 10 ^ n := Int.mul_nonneg (show 0 ≤ x by omega) (Int.le_of_lt hp)
    omega
theorem of_l0 (k : Nat) : ∀ (d n : Nat) (c : Int) (acc : List Int), d ≤ n → c.natAbs < 10 ^ d → -9223372036854775808 ≤ c → c ≤ 9223372036854775807 → acc.length + d ≤ 1000 →
    g_quireref09_Of_l0 k (n + 1) c acc = some (acc ++ digs c.natAbs) := by
  intro d
  induction d with
  | zero =>
    intro n c acc h1 h2 _ _ _
    have : c = 0 := by simp at h2; omega
    subst this
    rw [g_quireref09_Of_l0.eq_2]
    simp [digs_zero]
  | succ d ih =>
    intro n c acc h1 h2 h3 h4 h5
    rw [g_quireref09_Of_l0.eq_2]
    by_cases h0 : c = 0
    · subst h0; simp [digs_zero]
    · rw [df h0]
      simp only [Bool.not_false, cond_true, bd]
      rw [Nat.pow_succ] at h2
      have hm : (if Int.tmod c 10 < 0 then ((some (IntKind.wrap .i64 (0 - Int.tmod c 10))).bind fun x1439 => some x1439) else some (Int.tmod c 10)) = some ((c.natAbs % 10 : Nat) : Int) := by
        have ht := Int.tmod_eq_emod (a := c) (b := 10)
        by_cases hneg : Int.tmod c 10 < 0
        · rw [if_pos hneg, Option.bind_some]
          rw [wi (by split at ht <;> omega) (by split at ht <;> omega)]
          congr 1
          split at ht <;> omega
        · rw [if_neg hneg]
          congr 1
          split at ht <;> omega
      rw [hm]
      simp only [Option.bind_some]
      have hq := Int.tdiv_eq_ediv (a := c) (b := 10)
      rw [show Int.sign 10 = 1 from rfl] at hq
      have hq2 : (Int.tdiv c 10).natAbs = c.natAbs / 10 ∧ -9223372036854775808 ≤ Int.tdiv c 10 ∧ Int.tdiv c 10 ≤ 9223372036854775807 := by split at hq <;> (rw [hq]; omega)
      rw [if_pos (by simp; omega), wi hq2.2.1 hq2.2.2]
      obtain ⟨n, rfl⟩ : ∃ n', n = n' + 1 := ⟨n - 1, by omega⟩
      rw [ih n _ _ (by omega) (by omega) hq2.2.1 hq2.2.2 (by simp; omega), hq2.1, digs_pos (n := c.natAbs) (by omega)]
      simp
theorem of_ (k : Nat) (hk : 30 ≤ k) {c : Int} (h1 : -9223372036854775808 ≤ c) (h2 : c ≤ 9223372036854775807) : g_quireref09_Of k c = some (digs c.natAbs) := by
  unfold g_quireref09_Of
  obtain ⟨k', rfl⟩ : ∃ k', k = k' + 1 := ⟨k - 1, by omega⟩
  rw [of_l0 (k' + 1) 20 k' c [] (by omega) (by omega) h1 h2 (by simp)]
  simp
theorem nd_i64 {c : Int} (h1 : -9223372036854775808 ≤ c) (h2 : c ≤ 9223372036854775807) : nd c ≤ 19 := digs_len_le (by omega)
end Go.Proofs.Ytdbeblgfccjbgaa.W
namespace Go.Proofs.Ytdbeblgfccjbgaa.W
open Go Go.Q Go.Proofs Go.Dz
set_option linter.unusedVariables false
set_option linter.unusedSimpArgs false
theorem nval_set : ∀ {l : List Int} {j : Nat} {x : Int}, j < l.length → nval (l.set j x) + 10 ^ j * (l.getD j 0).toNat = nval l + 10 ^ j * x.toNat
  | [], j, x, h => by simp at h
  | d :: l, 0, x, h => by simp [nval]; omega
  | d :: l, j + 1, x, h => by
    have := nval_set (l := l) (j := j) (x := x) (by simpa using h)
    simp only [List.set_cons_succ, nval, List.getD_cons_succ, Nat.pow_succ]
    have e1 : 10 ^ j * 10 * (l.getD j 0).toNat = 10 * (10 ^ j * (l.getD j 0).toNat) := by rw [Nat.mul_comm (10 ^ j) 10, Nat.mul_assoc]
    have e2 : 10 ^ j * 10 * x.toNat = 10 * (10 ^ j * x.toNat) := by rw [Nat.mul_comm (10 ^ j) 10, Nat.mul_assoc]
    rw [e1, e2]
    omega
theorem getD_set {l : List Int} {j t : Nat} {x : Int} (h : j < l.length) : (l.set j x).getD t 0 = if t = j then x else l.getD t 0 := by
  simp only [List.getD_eq_getElem?_getD]
  by_cases e : t = j
  · subst e; simp [h]
  · rw [if_neg e, List.getElem?_set_ne (by omega)]
theorem getD_bnd {l : List Int} {t : Nat} {B : Int} (h : ∀ x ∈ l, 0 ≤ x ∧ x ≤ B) (hB : 0 ≤ B) : 0 ≤ l.getD t 0 ∧ l.getD t 0 ≤ B := by
  rw [List.getD_eq_getElem?_getD]
  by_cases ht : t < l.length
  · rw [List.getElem?_eq_getElem ht]; exact h _ (List.getElem_mem ht)
  · rw [List.getElem?_eq_none (by omega)]; exact ⟨Int.le_refl _, hB⟩
theorem mem_getD {l : List Int} {x : Int} (h : x ∈ l) : ∃ t, t < l.length ∧ l.getD t 0 = x := by
  obtain ⟨t, ht, rfl⟩ := List.mem_iff_getElem.1 h
  exact ⟨t, ht, by rw [List.getD_eq_getElem?_getD, List.getElem?_eq_getElem ht]; rfl⟩
theorem nval_ge {l : List Int} {t : Nat} : 10 ^ t * (l.getD t 0).toNat ≤ nval l := by
  by_cases ht : t < l.length
  · have := nval_set (l := l) (j := t) (x := 0) ht
    simp only [Int.toNat_zero, Nat.mul_zero, Nat.add_zero] at this
    omega
  · rw [List.getD_eq_getElem?_getD, List.getElem?_eq_none (by omega)]; simp
theorem nval_zeros : ∀ m, nval (List.replicate m (0 : Int)) = 0 := by
  intro m
  induction m with
  | zero => rfl
  | succ m ih => rw [List.replicate_succ, nval, ih]; rfl
/-- One row of a product. -/
theorem times_l1 (k : Nat) {a b i : Nat} (hi : i < (digs a).length) (ha : (digs a).length ≤ 5000) (hb : (digs b).length ≤ 5000) : ∀ (n j : Nat) (d : List Int), j ≤ (digs b).length → (digs b).length < n + j → d.length = (digs a).length + (digs b).length + 1 →
    (∀ t, 0 ≤ d.getD t 0 ∧ d.getD t 0 ≤ 90) → (∀ t, i + j ≤ t → d.getD t 0 ≤ 9) →
    ∃ r, g_quireref09_Times_l1 k (digs a) (digs b) (i : Int) n (j : Int) d = some r ∧ r.length = d.length ∧ (∀ t, 0 ≤ r.getD t 0 ∧ r.getD t 0 ≤ 90) ∧ nval r = nval d + 10 ^ (i + j) * (a / 10 ^ i % 10 * (b / 10 ^ j)) := by
  intro n
  induction n with
  | zero => intro j d h1 h2; omega
  | succ n ih =>
    intro j d h1 h2 hl h90 h9
    rw [g_quireref09_Times_l1.eq_2]
    simp only [Option.bind_some]
    by_cases hj : j < (digs b).length
    · rw [dt (by omega), bt, ← Int.natCast_add, wi (n := ((i + j : Nat) : Int)) (by omega) (by omega), getD_ix (by omega), getD_ix hi, getD_ix hj, digs_at, digs_at]
      simp only [Option.bind_some]
      have sb := step10 b j
      have la : a / 10 ^ i % 10 < 10 := Nat.mod_lt _ (by decide)
      have lb : b / 10 ^ j % 10 < 10 := Nat.mod_lt _ (by decide)
      have hxy : a / 10 ^ i % 10 * (b / 10 ^ j % 10) ≤ 9 * 9 := Nat.mul_le_mul (by omega) (by omega)
      generalize a / 10 ^ i % 10 = x at *
      generalize b / 10 ^ j % 10 = y at *
      rw [sb, Nat.mul_add, Nat.mul_left_comm _ 10]
      have hz := h90 (i + j)
      have hz9 := h9 (i + j) (Nat.le_refl _)
      rw [← Int.natCast_mul, wi (n := ((x * y : Nat) : Int)) (by omega) (by omega), wi (n := d.getD (i + j) 0 + ((x * y : Nat) : Int)) (by omega) (by omega), wi (n := (j : Int) + 1) (by omega) (by omega), Int.toNat_natCast, show ((j : Int) + 1) = ((j + 1 : Nat) : Int) by omega]
      have hlt : i + j < d.length := by omega
      obtain ⟨r, r1, r2, r3, r4⟩ := ih (j + 1) (d.set (i + j) (d.getD (i + j) 0 + ((x * y : Nat) : Int))) (by omega) (by omega) (by simp [hl])
        (fun t => by rw [getD_set hlt]; have := h90 t; split <;> omega) (fun t ht => by rw [getD_set hlt, if_neg (by omega)]; exact h9 t (by omega))
      refine ⟨r, r1, by simpa using r2, r3, ?_⟩
      rw [r4]
      have hs := nval_set (l := d) (j := i + j) (x := d.getD (i + j) 0 + ((x * y : Nat) : Int)) hlt
      rw [show (d.getD (i + j) 0 + ((x * y : Nat) : Int)).toNat = (d.getD (i + j) 0).toNat + x * y by omega, Nat.mul_add] at hs
      rw [← Nat.add_assoc, Nat.pow_succ, Nat.mul_assoc (10 ^ (i + j)) 10, Nat.mul_add]
      omega
    · rw [df (by omega), bf]
      have hz : b / 10 ^ j = 0 := gone10 (by omega)
      exact ⟨d, rfl, rfl, h90, by rw [hz]; simp⟩
/-- What is carried. -/
theorem times_l2 (k : Nat) {L V : Nat} (hL : L ≤ 20000) (hV : V < 10 ^ L) : ∀ (n t : Nat) (d : List Int), t < L → L < n + t → d.length = L → (∀ u, 0 ≤ d.getD u 0) → (∀ u, u < t → d.getD u 0 ≤ 9) → d.getD t 0 ≤ 100 → (∀ u, t < u → d.getD u 0 ≤ 90) → nval d = V →
    ∃ r, g_quireref09_Times_l2 k n (t : Int) d = some r ∧ r.length = L ∧ Dig r ∧ nval r = V := by
  intro n
  induction n with
  | zero => intro t d h1 h2; omega
  | succ n ih =>
    intro t d h1 h2 hl h0 h9 h100 h90 hv
    rw [g_quireref09_Times_l2.eq_2]
    simp only [Option.bind_some]
    rw [wi (n := (t : Int) + 1) (by omega) (by omega), show ((t : Int) + 1) = ((t + 1 : Nat) : Int) by omega]
    by_cases hj : t + 1 < L
    · rw [dt (by omega), bt, getD_ix (by omega), getD_ix (by omega)]
      simp only [Option.bind_some, Int.toNat_natCast]
      have a0 := h0 t
      have b0 := h0 (t + 1)
      have b9 := h90 (t + 1) (by omega)
      obtain ⟨x, hx⟩ : ∃ x : Nat, d.getD t 0 = (x : Int) := ⟨(d.getD t 0).toNat, by omega⟩
      obtain ⟨y, hy⟩ : ∃ y : Nat, d.getD (t + 1) 0 = (y : Int) := ⟨(d.getD (t + 1) 0).toNat, by omega⟩
      rw [hx, hy, show (10 : Int) = ((10 : Nat) : Int) from rfl, td, wi (n := ((x / 10 : Nat) : Int)) (by omega) (by omega), ← Int.natCast_add, wi (n := ((y + x / 10 : Nat) : Int)) (by omega) (by omega)]
      rw [getD_ix (by simp; omega), getD_set (by omega), if_neg (by omega), hx]
      simp only [Option.bind_some, tm]
      have e1 := nval_set (l := d) (j := t + 1) (x := ((y + x / 10 : Nat) : Int)) (by omega)
      have e2 := nval_set (l := d.set (t + 1) ((y + x / 10 : Nat) : Int)) (j := t) (x := ((x % 10 : Nat) : Int)) (by simp; omega)
      rw [getD_set (by omega), if_neg (by omega), hx] at e2
      rw [hy] at e1
      simp only [Int.toNat_natCast] at e1 e2
      refine ih (t + 1) _ hj (by omega) (by simp [hl]) (fun u => ?_) (fun u hu => ?_) ?_ (fun u hu => ?_) ?_
      · rw [getD_set (by simp; omega), getD_set (by omega)]
        have := h0 u
        split
        · omega
        · split <;> omega
      · rw [getD_set (by simp; omega), getD_set (by omega)]
        have := h9 u
        split
        · omega
        · rw [if_neg (by omega)]; exact this (by omega)
      · rw [getD_set (by simp; omega), getD_set (by omega), if_neg (by omega), if_pos rfl]
        omega
      · rw [getD_set (by simp; omega), getD_set (by omega), if_neg (by omega), if_neg (by omega)]
        exact h90 u (by omega)
      · rw [Nat.mul_add, Nat.pow_succ, Nat.mul_assoc] at e1
        have e3 : 10 ^ t * x = 10 ^ t * (10 * (x / 10)) + 10 ^ t * (x % 10) := by rw [← Nat.mul_add, show 10 * (x / 10) + x % 10 = x by omega]
        have e4 : 10 ^ t * (10 * (x / 10)) = 10 ^ t * 10 * (x / 10) := (Nat.mul_assoc _ _ _).symm
        have e5 : 10 ^ t * (10 * y) = 10 ^ t * 10 * y := (Nat.mul_assoc _ _ _).symm
        omega
    · rw [df (by omega), bf]
      have htL : t = L - 1 := by omega
      refine ⟨d, rfl, hl, ?_, hv⟩
      intro z hz
      obtain ⟨u, hu, rfl⟩ := mem_getD hz
      refine ⟨h0 u, ?_⟩
      by_cases hut : u < t
      · exact h9 u hut
      · have hu2 : u = t := by omega
        subst hu2
        have h5 := nval_ge (l := d) (t := u)
        rw [hv] at h5
        have h6 : 10 ^ L = 10 ^ u * 10 := by rw [← Nat.pow_succ]; congr 1; omega
        rw [h6] at hV
        have h7 : 10 ^ u * (d.getD u 0).toNat < 10 ^ u * 10 := Nat.lt_of_le_of_lt h5 hV
        have := Nat.lt_of_mul_lt_mul_left h7
        omega
theorem times_l0 (k : Nat) {a b : Nat} (ha : (digs a).length ≤ 5000) (hb : (digs b).length ≤ 5000) (hk : 30000 ≤ k) : ∀ (n i : Nat) (d : List Int), i ≤ (digs a).length → (digs a).length < n + i → d.length = (digs a).length + (digs b).length + 1 → Dig d →
    nval d + 10 ^ i * (a / 10 ^ i * b) = a * b → ∃ r, g_quireref09_Times_l0 k (digs a) (digs b) n (i : Int) d = some r ∧ r.length = d.length ∧ Dig r ∧ nval r = a * b := by
  intro n
  induction n with
  | zero => intro i d h1 h2; omega
  | succ n ih =>
    intro i d h1 h2 hl hd hv
    rw [g_quireref09_Times_l0.eq_2]
    simp only [Option.bind_some]
    by_cases hi : i < (digs a).length
    · rw [dt (by omega), bt]
      have h9 : ∀ t, 0 ≤ d.getD t 0 ∧ d.getD t 0 ≤ 9 := fun t => getD_bnd hd (by omega)
      obtain ⟨r, r1, r2, r3, r4⟩ := times_l1 k (b := b) hi ha hb k 0 d (by omega) (by omega) hl (fun t => by have := h9 t; omega) (fun t _ => (h9 t).2)
      rw [show ((0 : Nat) : Int) = 0 from rfl] at r1
      rw [r1, Option.bind_some]
      have sa := step10 a i
      have hab : a * b < 10 ^ (r.length) := by
        rw [r2, hl, Nat.pow_succ, Nat.pow_add]
        have h1 : a < 10 ^ (digs a).length := digs_lt
        have h2 : b < 10 ^ (digs b).length := digs_lt
        have := Nat.mul_lt_mul_of_le_of_lt (Nat.le_of_lt h1) h2 (Nat.pos_of_ne_zero (by have := Nat.pow_pos (n := (digs a).length) (show 0 < 10 by decide); omega))
        omega
      have hnew : nval r + 10 ^ (i + 1) * (a / 10 ^ (i + 1) * b) = a * b := by
        rw [r4, ← hv]
        simp only [Nat.add_zero, Nat.pow_zero, Nat.div_one]
        rw [Nat.pow_succ, Nat.mul_assoc (10 ^ i) 10, Nat.add_assoc, ← Nat.mul_add]
        congr 2
        rw [Nat.mul_comm (10 ^ i) 10] at *
        conv => rhs; rw [sa]
        rw [Nat.pow_succ, Nat.mul_comm (10 ^ i) 10, Nat.add_mul, Nat.mul_assoc]
        omega
      obtain ⟨s, s1, s2, s3, s4⟩ := times_l2 k (L := r.length) (V := nval r) (by omega) (by omega) k 0 r (by omega) (by omega) rfl (fun u => (r3 u).1) (fun u hu => by omega) (by have := r3 0; omega) (fun u _ => (r3 u).2) rfl
      rw [show ((0 : Nat) : Int) = 0 from rfl] at s1
      rw [s1, Option.bind_some, wi (by omega) (by omega), show ((i : Int) + 1) = ((i + 1 : Nat) : Int) by omega]
      obtain ⟨q, q1, q2, q3, q4⟩ := ih (i + 1) s (by omega) (by omega) (by omega) s3 (by rw [s4]; exact hnew)
      exact ⟨q, q1, by omega, q3, q4⟩
    · rw [df (by omega), bf]
      have z : a / 10 ^ i = 0 := gone10 (by omega)
      rw [z] at hv
      exact ⟨d, rfl, rfl, hd, by simpa using hv⟩
theorem times (k : Nat) {x y : Int} (hx : nd x ≤ 5000) (hy : nd y ≤ 5000) (hk : 30000 ≤ k) : g_quireref09_Times k (decide (x < 0)) (digs x.natAbs) (decide (y < 0)) (digs y.natAbs) = some (decide (x * y < 0), digs (x * y).natAbs) := by
  unfold g_quireref09_Times
  have hx' : (digs x.natAbs).length ≤ 5000 := hx
  have hy' : (digs y.natAbs).length ≤ 5000 := hy
  rw [← Int.natCast_add, wi (n := (((digs x.natAbs).length + (digs y.natAbs).length : Nat) : Int)) (by omega) (by omega), Option.bind_some, wi (by omega) (by omega)]
  simp only [bd]
  rw [if_pos (by omega)]
  obtain ⟨r, r1, r2, r3, r4⟩ := times_l0 k hx hy hk k 0 (List.replicate ((((digs x.natAbs).length + (digs y.natAbs).length : Nat) : Int) + 1).toNat 0) (by omega) (by omega) (by simp; omega) (fun d hd => by rw [List.eq_of_mem_replicate hd]; omega) (by rw [nval_zeros]; simp)
  rw [show ((0 : Nat) : Int) = 0 from rfl] at r1
  rw [r1, Option.bind_some]
  simp only [List.length_replicate] at r2
  rw [trim k (by omega) r3 (by omega), r4, Option.bind_some, Int.natAbs_mul]
  congr 2
  rw [Bool.eq_iff_iff]
  simp only [Bool.and_eq_true, decide_eq_true_eq, Bool.not_eq_true', beq_eq_false_iff_ne, ne_eq, decide_eq_decide]
  have hz : x.natAbs * y.natAbs = 0 ↔ x = 0 ∨ y = 0 := by rw [Nat.mul_eq_zero]; omega
  rw [hz]
  by_cases h1 : x < 0
  · by_cases h2 : y < 0
    · have := Int.mul_pos_of_neg_of_neg h1 h2; omega
    · by_cases h3 : y = 0
      · subst h3; simp
      · have := Int.mul_neg_of_neg_of_pos h1 (show 0 < y by omega); omega
  · by_cases h2 : y < 0
    · by_cases h3 : x = 0
      · subst h3; simp
      · have := Int.mul_neg_of_pos_of_neg (show 0 < x by omega) h2; omega
    · have := Int.mul_nonneg (show 0 ≤ x by omega) (show 0 ≤ y by omega); omega
end Go.Proofs.Ytdbeblgfccjbgaa.W
namespace Go.Proofs.Ytdbeblgfccjbgaa.W
open Go Go.Q Go.Proofs Go.Dz
set_option linter.unusedVariables false
set_option linter.unusedSimpArgs false
theorem quo_l1 (k : Nat) {b i : Nat} (hb0 : 0 < b) (hb : (digs b).length ≤ 9000) (hk : 30000 ≤ k) : ∀ (t n r : Nat) (q : List Int), t < n → r / b = t → (digs r).length ≤ 9001 → i < q.length → 0 ≤ q.getD i 0 → q.getD i 0 + t ≤ 1000 →
    g_quireref09_Quo_l1 k (digs b) (i : Int) n q false (digs r) = some (q.set i (q.getD i 0 + t), false, digs (r % b)) := by
  intro t
  induction t with
  | zero =>
    intro n r q hn ht hr hi h0 h1
    obtain ⟨n, rfl⟩ : ∃ n', n = n' + 1 := ⟨n - 1, by omega⟩
    rw [g_quireref09_Quo_l1.eq_2, more k _ _ (by omega) (by omega) hk, Option.bind_some]
    simp only [bd]
    have hlt : r < b := (Nat.div_eq_zero_iff_lt hb0).1 ht
    rw [if_neg (by rw [cmpN_nonneg]; omega), Nat.mod_eq_of_lt hlt]
    have : q.set i (q.getD i 0 + ((0 : Nat) : Int)) = q := by
      apply List.ext_getElem?
      intro j
      by_cases hj : j = i
      · subst hj
        rw [List.getElem?_set_self hi, List.getElem?_eq_getElem hi, List.getD_eq_getElem?_getD, List.getElem?_eq_getElem hi]
        simp
      · rw [List.getElem?_set_ne (by omega)]
    rw [this]
  | succ t ih =>
    intro n r q hn ht hr hi h0 h1
    obtain ⟨n, rfl⟩ : ∃ n', n = n' + 1 := ⟨n - 1, by omega⟩
    rw [g_quireref09_Quo_l1.eq_2, more k _ _ (by omega) (by omega) hk, Option.bind_some]
    simp only [bd]
    have hle : b ≤ r := by
      apply Nat.le_of_not_lt
      intro h
      rw [Nat.div_eq_of_lt h] at ht
      omega
    rw [if_pos (cmpN_nonneg.2 hle)]
    obtain ⟨s, s1, s2, s3, s4⟩ := less_ k false false (a := r) (b := b) (by omega) (by omega) hle hk
    rw [s1, Option.bind_some, trim k (by omega) s2 (by omega), s3, Option.bind_some, getD_ix hi]
    simp only [Option.bind_some, Bool.false_and, Int.toNat_natCast]
    rw [wi (by omega) (by omega)]
    have hs : (digs (r - b)).length ≤ 9001 := Nat.le_trans (digs_len_le (Nat.lt_of_le_of_lt (Nat.sub_le _ _) digs_lt)) hr
    have ht' : (r - b) / b = t := by
      have : r = (r - b) + b := by omega
      rw [this, Nat.add_div_right _ hb0] at ht
      omega
    rw [ih n (r - b) (q.set i (q.getD i 0 + 1)) (by omega) ht' hs (by simpa using hi) (by rw [getD_set hi, if_pos rfl]; omega) (by rw [getD_set hi, if_pos rfl]; omega)]
    rw [getD_set hi, if_pos rfl, List.set_set, show q.getD i 0 + 1 + (t : Int) = q.getD i 0 + ((t + 1 : Nat) : Int) by omega]
    have hm : r % b = (r - b) % b := by
      have : r = (r - b) + b := by omega
      conv => lhs; rw [this]
      rw [Nat.add_mod_right]
    rw [hm]
theorem quo_l0 (k : Nat) {a b : Nat} (hb0 : 0 < b) (ha : (digs a).length ≤ 9000) (hb : (digs b).length ≤ 9000) (hk : 30000 ≤ k) : ∀ (n i r : Nat) (q : List Int), i < n → i ≤ (digs a).length → q.length = (digs a).length → Dig q → (∀ t, t < i → q.getD t 0 = 0) →
    r = a / 10 ^ i % b → nval q = 10 ^ i * (a / 10 ^ i / b) →
    ∃ q', g_quireref09_Quo_l0 k (digs a) (digs b) n ((i : Int) - 1) q false (digs r) = some (q', false, digs (a % b)) ∧ q'.length = (digs a).length ∧ Dig q' ∧ nval q' = a / b := by
  intro n
  induction n with
  | zero => intro i r q h; omega
  | succ n ih =>
    intro i r q h1 h2 hl hd hz hr hv
    rw [g_quireref09_Quo_l0.eq_2]
    simp only [bd]
    by_cases h0 : i = 0
    · subst h0
      rw [if_neg (by omega)]
      simp only [Nat.pow_zero, Nat.div_one, Nat.one_mul] at hr hv
      exact ⟨q, by rw [hr], hl, hd, hv⟩
    · obtain ⟨j, rfl⟩ : ∃ j, i = j + 1 := ⟨i - 1, by omega⟩
      rw [show ((j + 1 : Nat) : Int) - 1 = (j : Int) by omega, if_pos (by omega), getD_ix (by omega), digs_at, Option.bind_some]
      have hrb : r < b := by rw [hr]; exact Nat.mod_lt _ hb0
      have hnr : (digs r).length ≤ (digs b).length := digs_len_le (Nat.lt_trans hrb digs_lt)
      have hs := shift k (x := (r : Int)) (n := 1) (by simpa [nd] using (show (digs r).length ≤ 10000 by omega)) (by omega) hk
      rw [df (show ¬ ((r : Int) < 0) by omega), Int.natAbs_natCast, show ((1 : Nat) : Int) = 1 from rfl] at hs
      rw [hs, Option.bind_some]
      have sa := step10 a j
      have la : a / 10 ^ j % 10 < 10 := Nat.mod_lt _ (by decide)
      have hq1 : a / 10 ^ (j + 1) = b * (a / 10 ^ (j + 1) / b) + r := by rw [hr]; exact (Nat.div_add_mod _ _).symm
      generalize hx : a / 10 ^ j % 10 = x at *
      simp only
      rw [of_ k (by omega) (by omega) (by omega)]
      simp only [Option.bind_some, Int.natAbs_natCast]
      have h10 : (r : Int) * 10 ^ 1 = ((r * 10 : Nat) : Int) := by simp
      have hn10 : (digs (r * 10)).length ≤ (digs b).length + 1 := digs_len_le (by
        rw [Nat.pow_succ]
        exact Nat.mul_lt_mul_of_pos_right (Nat.lt_trans hrb digs_lt) (by decide))
      have hp := plus k (x := ((r * 10 : Nat) : Int)) (y := (x : Int)) (by unfold nd; rw [Int.natAbs_natCast]; omega) (by unfold nd; rw [Int.natAbs_natCast]; have := digs_len_le (n := x) (m := 1) (by omega); omega) hk
      rw [Int.natAbs_natCast, Int.natAbs_natCast] at hp
      rw [h10, Int.natAbs_natCast, hp, Option.bind_some, ← Int.natCast_add, Int.natAbs_natCast, df (show ¬ (((r * 10 + x : Nat) : Int) < 0) by omega)]
      simp only
      have hrx : r * 10 + x < 10 * b := by omega
      have ht9 : (r * 10 + x) / b ≤ 9 := by
        have : (r * 10 + x) / b < 10 := (Nat.div_lt_iff_lt_mul hb0).2 hrx
        omega
      have hnrx : (digs (r * 10 + x)).length ≤ 9001 := by
        have : (digs (r * 10 + x)).length ≤ (digs b).length + 1 := digs_len_le (by
          rw [Nat.pow_succ]
          have := digs_lt (n := b)
          have : 10 * b ≤ 10 * (10 ^ (digs b).length) := Nat.mul_le_mul_left _ (Nat.le_of_lt this)
          omega)
        omega
      have hqj : q.getD j 0 = 0 := hz j (by omega)
      rw [quo_l1 k hb0 hb hk _ k (r * 10 + x) q (by omega) rfl hnrx (by omega) (by omega) (by omega), Option.bind_some, hqj]
      simp only
      have hjl : j < q.length := by omega
      have hdiv : a / 10 ^ j = b * (10 * (a / 10 ^ (j + 1) / b)) + (r * 10 + x) := by
        rw [sa]
        conv => lhs; rw [hq1]
        rw [Nat.mul_add, Nat.mul_left_comm]
        omega
      have hdb : a / 10 ^ j / b = 10 * (a / 10 ^ (j + 1) / b) + (r * 10 + x) / b := by
        rw [hdiv, Nat.mul_add_div hb0]
      have hmb : a / 10 ^ j % b = (r * 10 + x) % b := by
        rw [hdiv, Nat.mul_add_mod]
      rw [wi (by omega) (by omega)]
      refine ih j ((r * 10 + x) % b) _ (by omega) (by omega) (by simpa using hl) ?_ ?_ hmb.symm ?_
      · intro z hz'
        obtain ⟨u, hu, rfl⟩ := mem_getD hz'
        rw [getD_set hjl]
        split
        · rw [Int.zero_add]
          exact ⟨Int.natCast_nonneg _, Int.ofNat_le.2 ht9⟩
        · exact getD_bnd hd (by omega)
      · intro t ht
        rw [getD_set hjl, if_neg (by omega)]
        exact hz t (by omega)
      · have hs := nval_set (l := q) (j := j) (x := (0 : Int) + (((r * 10 + x) / b : Nat) : Int)) hjl
        rw [hqj] at hs
        simp only [Int.toNat_zero, Nat.mul_zero, Nat.add_zero, Int.zero_add, Int.toNat_natCast] at hs
        rw [Int.zero_add, hs, hv, hdb, Nat.pow_succ, Nat.mul_add, Nat.mul_assoc]
/-- A quotient, and what is left. -/
theorem quo (k : Nat) (p s : Bool) {a b : Nat} (hb0 : 0 < b) (ha : (digs a).length ≤ 9000) (hb : (digs b).length ≤ 9000) (hk : 30000 ≤ k) : g_quireref09_Quo k p (digs a) s (digs b) = some (false, digs (a / b), false, digs (a % b)) := by
  unfold g_quireref09_Quo
  simp only [bd]
  rw [if_pos (by omega), wi (by omega) (by omega), Option.bind_some]
  have z : a / 10 ^ (digs a).length = 0 := gone10 (Nat.le_refl _)
  obtain ⟨q, q1, q2, q3, q4⟩ := quo_l0 k hb0 ha hb hk k (digs a).length 0 (List.replicate (Int.toNat (((digs a).length : Nat) : Int)) 0) (by omega) (Nat.le_refl _) (by simp) (fun d hd => by rw [List.eq_of_mem_replicate hd]; omega)
    (fun t ht => by
      rw [List.getD_eq_getElem?_getD]
      by_cases h : t < (List.replicate (Int.toNat (((digs a).length : Nat) : Int)) (0 : Int)).length
      · rw [List.getElem?_eq_getElem h]; simp
      · rw [List.getElem?_eq_none (by omega)]; rfl) (by rw [z]; simp) (by rw [z, nval_zeros]; simp)
  rw [digs_zero] at q1
  rw [q1, Option.bind_some]
  simp only
  rw [trim k (by omega) q3 (by omega), q4, Option.bind_some]
  rfl
theorem len_pos {n : Nat} (h : n ≠ 0) : 0 < (digs n).length := by
  rw [digs_pos h]; simp
theorem len10 {w : Nat} (h : w ≠ 0) : (digs (w * 10)).length = (digs w).length + 1 := by
  rw [digs_pos (by omega), List.length_cons, Nat.mul_div_cancel _ (by decide)]
theorem num (k : Nat) {c e : Int} (hk : 30 ≤ k) (h1 : -9223372036854775808 ≤ c) (h2 : c ≤ 9223372036854775807) : g_quireref09_num k c e = some (decide (-18 ≤ e ∧ e ≤ 18), digs c.natAbs) := by
  unfold g_quireref09_num
  rw [of_ k hk h1 h2]
  simp only [Option.bind_some, bd]
  by_cases h : -18 ≤ e
  · rw [if_pos h]
    simp only [Option.bind_some]
    congr 2
    rw [decide_eq_decide]; omega
  · rw [if_neg h, df (by omega)]; rfl
theorem two_l0 (k : Nat) (y : Int) (hk : 30000 ≤ k) : ∀ (t m : Nat) (x e : Int), t < m → nd x + t ≤ 9000 → -10000 ≤ y → y ≤ 10000 → (e - y).toNat = t →
    g_quireref09_two_l0 k y m (decide (x < 0)) (digs x.natAbs) e = some (decide (x * 10 ^ t < 0), digs (x * 10 ^ t).natAbs, e - t) := by
  intro t
  induction t with
  | zero =>
    intro m x e hm hx _ _ ht
    obtain ⟨m, rfl⟩ : ∃ m', m = m' + 1 := ⟨m - 1, by omega⟩
    rw [g_quireref09_two_l0.eq_2]
    simp only [bd]
    rw [if_neg (by omega)]
    simp
  | succ t ih =>
    intro m x e hm hx hy1 hy2 ht
    obtain ⟨m, rfl⟩ : ∃ m', m = m' + 1 := ⟨m - 1, by omega⟩
    rw [g_quireref09_two_l0.eq_2]
    simp only [bd]
    have hs := shift k (x := x) (n := 1) (by omega) (by omega) hk
    rw [show ((1 : Nat) : Int) = 1 from rfl] at hs
    rw [if_pos (by omega), hs, Option.bind_some, wi (by omega) (by omega)]
    have h10 : (x * 10 ^ 1).natAbs = x.natAbs * 10 := by rw [Int.natAbs_mul]; rfl
    have hnd : nd (x * 10 ^ 1) ≤ nd x + 1 := by
      unfold nd
      rw [h10]
      by_cases hz : x.natAbs = 0
      · rw [hz]; simp [digs_zero]
      · rw [len10 hz]; omega
    simp only
    rw [ih m (x * 10 ^ 1) (e - 1) (by omega) (by omega) hy1 hy2 (by omega), Int.mul_assoc, ← Int.pow_add, Nat.add_comm 1 t]
    congr 3
    omega
theorem two_l1 (k : Nat) (y : Int) (hk : 30000 ≤ k) : ∀ (t m : Nat) (x e : Int), t < m → nd x + t ≤ 9000 → -10000 ≤ y → y ≤ 10000 → (e - y).toNat = t →
    g_quireref09_two_l1 k y m (decide (x < 0)) (digs x.natAbs) e = some (decide (x * 10 ^ t < 0), digs (x * 10 ^ t).natAbs, e - t) := by
  intro t
  induction t with
  | zero =>
    intro m x e hm hx _ _ ht
    obtain ⟨m, rfl⟩ : ∃ m', m = m' + 1 := ⟨m - 1, by omega⟩
    rw [g_quireref09_two_l1.eq_2]
    simp only [bd]
    rw [if_neg (by omega)]
    simp
  | succ t ih =>
    intro m x e hm hx hy1 hy2 ht
    obtain ⟨m, rfl⟩ : ∃ m', m = m' + 1 := ⟨m - 1, by omega⟩
    rw [g_quireref09_two_l1.eq_2]
    simp only [bd]
    have hs := shift k (x := x) (n := 1) (by omega) (by omega) hk
    rw [show ((1 : Nat) : Int) = 1 from rfl] at hs
    rw [if_pos (by omega), hs, Option.bind_some, wi (by omega) (by omega)]
    have h10 : (x * 10 ^ 1).natAbs = x.natAbs * 10 := by rw [Int.natAbs_mul]; rfl
    have hnd : nd (x * 10 ^ 1) ≤ nd x + 1 := by
      unfold nd
      rw [h10]
      by_cases hz : x.natAbs = 0
      · rw [hz]; simp [digs_zero]
      · rw [len10 hz]; omega
    simp only
    rw [ih m (x * 10 ^ 1) (e - 1) (by omega) (by omega) hy1 hy2 (by omega), Int.mul_assoc, ← Int.pow_add, Nat.add_comm 1 t]
    congr 3
    omega
/-- Two numbers with one exponent. -/
theorem two (k : Nat) {c e d f : Int} (hk : 30000 ≤ k) (h1 : -9223372036854775808 ≤ c) (h2 : c ≤ 9223372036854775807) (h3 : -9223372036854775808 ≤ d) (h4 : d ≤ 9223372036854775807) :
    if (-18 ≤ e ∧ e ≤ 18) ∧ (-18 ≤ f ∧ f ≤ 18) then ∃ s t : Nat, s ≤ 36 ∧ t ≤ 36 ∧ e - s = f - t ∧ g_quireref09_two k c e d f = some (true, decide (c * 10 ^ s < 0), digs (c * 10 ^ s).natAbs, e - s, decide (d * 10 ^ t < 0), digs (d * 10 ^ t).natAbs, e - s)
    else ∃ r, g_quireref09_two k c e d f = some (false, r) := by
  unfold g_quireref09_two
  rw [num k (by omega) h1 h2, num k (by omega) h3 h4]
  simp only [Option.bind_some]
  have n1 := nd_i64 h1 h2
  have n2 := nd_i64 h3 h4
  by_cases he : -18 ≤ e ∧ e ≤ 18
  · by_cases hf : -18 ≤ f ∧ f ≤ 18
    · rw [if_pos ⟨he, hf⟩, dt he, dt hf]
      simp only [Bool.not_true, cond_false, Option.bind_some]
      refine ⟨(e - f).toNat, (f - (e - (e - f).toNat)).toNat, by omega, by omega, by omega, ?_⟩
      rw [two_l0 k f hk (e - f).toNat k c e (by omega) (by omega) (by omega) (by omega) rfl, Option.bind_some]
      simp only
      rw [two_l1 k _ hk (f - (e - (e - f).toNat)).toNat k d f (by omega) (by omega) (by omega) (by omega) rfl, Option.bind_some]
      simp only
      rw [show f - (((f - (e - (e - f).toNat)).toNat : Nat) : Int) = e - (((e - f).toNat : Nat) : Int) by omega]
    · rw [if_neg (fun h => hf h.2), dt he, df hf]
      exact ⟨_, rfl⟩
  · rw [if_neg (fun h => he h.1), df he]
    exact ⟨_, rfl⟩
end Go.Proofs.Ytdbeblgfccjbgaa.W
namespace Go.Proofs.Ytdbeblgfccjbgaa.W
open Go Go.Q Go.Proofs Go.Dz
set_option linter.unusedVariables false
set_option linter.unusedSimpArgs false
theorem canon_exists {c : Int} (hc : I64 c) : ∀ (n : Nat) (e : Int), (18 - e).toNat = n → Rng e → ∀ c, I64 c → ∃ c' x', Canon c' x' ∧ val c' x' = val c e := by
  intro n
  induction n with
  | zero =>
    intro e h he c hc
    unfold Rng at he
    unfold I64 at hc
    by_cases h0 : c = 0
    · exact ⟨0, 0, .inl ⟨rfl, rfl⟩, by rw [h0, val_zero, val_zero]⟩
    · exact ⟨c, e, .inr ⟨h0, he.1, he.2, hc.1, hc.2, .inl (by omega)⟩, rfl⟩
  | succ n ih =>
    intro e h he c hc
    unfold Rng at he
    unfold I64 at hc
    by_cases h0 : c = 0
    · exact ⟨0, 0, .inl ⟨rfl, rfl⟩, by rw [h0, val_zero, val_zero]⟩
    · by_cases hd : (10 : Int) ∣ c
      · obtain ⟨c1, rfl⟩ := hd
        obtain ⟨c', x', h1, h2⟩ := ih (e + 1) (by omega) (by unfold Rng; omega) c1 (by unfold I64; omega)
        refine ⟨c', x', h1, ?_⟩
        have := val_shift (m := c1) (e := e) (j := 1) (by omega)
        rw [h2, Int.mul_comm 10 c1]
        exact this.symm
      · exact ⟨c, e, .inr ⟨h0, he.1, he.2, hc.1, hc.2, .inr hd⟩, rfl⟩
theorem size_eq (k : Nat) {c : Int} (hc : I64 c) : g_dec_size k c = some ((c.natAbs : Nat) : Int) := by
  unfold g_dec_size
  unfold I64 at hc
  simp only [bd, Option.bind_some]
  by_cases h : c < 0
  · rw [if_pos h]
    have : IntKind.wrap .u64 (0 - IntKind.wrap .u64 c) = ((c.natAbs : Nat) : Int) := by rw [wUi, wUi]; omega
    rw [this]
  · rw [if_neg h]
    have : IntKind.wrap .u64 c = ((c.natAbs : Nat) : Int) := by rw [wUi]; omega
    rw [this]
theorem of_eq (k : Nat) {c e : Int} (hc : I64 c) : g_dec_of k c e = some ((c.natAbs : Nat) : Int) := by
  unfold g_dec_of; rw [size_eq k hc]; rfl
theorem ranged_eq (k : Nat) (hk : 3 ≤ k) {c e : Int} : g_dec_ranged k ([(⟨c, e⟩ : S_api_Dec)] : List S_api_Dec) = some (decide (Rng e)) := by
  unfold g_dec_ranged
  obtain ⟨k, rfl⟩ : ∃ k', k = k' + 2 := ⟨k - 2, by omega⟩
  rw [g_dec_ranged_l0.eq_2]
  have e1 : ix ([(⟨c, e⟩ : S_api_Dec)] : List S_api_Dec) 0 = some ⟨c, e⟩ := rfl
  have e2 : IntKind.wrap .i64 (0 + 1) = 1 := by decide
  have e3 : decide ((0 : Int) < (([(⟨c, e⟩ : S_api_Dec)].length : Nat) : Int)) = true := rfl
  have e4 : decide ((1 : Int) < (([(⟨c, e⟩ : S_api_Dec)].length : Nat) : Int)) = false := rfl
  rw [Option.bind_some, e3, bt, e1, Option.bind_some, e2]
  simp only [bd]
  by_cases h1 : e < -18
  · rw [if_pos h1, df (show ¬ Rng e by unfold Rng; omega)]; rfl
  · rw [if_neg h1]
    by_cases h2 : 18 < e
    · rw [dt h2, df (show ¬ Rng e by unfold Rng; omega)]; rfl
    · rw [df h2, dt (show Rng e by unfold Rng; omega), Option.bind_some, bf, g_dec_ranged_l0.eq_2, Option.bind_some, e4]; rfl
theorem sgn_self (c : Int) : sgn (decide (c < 0)) c.natAbs = c := by
  unfold sgn; by_cases h : c < 0 <;> simp [h] <;> omega
theorem abs_lt {c : Int} (hc : I64 c) : c.natAbs < 18446744073709551616 := by unfold I64 at hc; omega
/-- A number of the program, from its sign and size. -/
theorem tell_abs (k : Nat) (hk : 60 ≤ k) {neg : Bool} {n : Nat} {e : Int} (hn : n < 18446744073709551616) (he : -4000 ≤ e ∧ e ≤ 4000) : ∃ er c x : Int, g_dec_num_tell k neg 0 (n : Int) e = some (er, c, x) ∧ Tells (· = val (sgn neg n) e) ((c, x), er) := by
  have := num_tell k hk (neg := neg) (v := n) (e := e) (by unfold UU; omega) he.1 he.2
  rwa [wh_small hn, wl_small hn] at this
theorem tell_ok (k : Nat) (hk : 60 ≤ k) {c e : Int} (hc : I64 c) (he : Rng e) : ∃ c' e' : Int, g_dec_num_tell k (decide (c < 0)) 0 ((c.natAbs : Nat) : Int) e = some (0, c', e') ∧ Canon c' e' ∧ val c' e' = val c e := by
  obtain ⟨er, c', x', h1, h2⟩ := tell_abs k hk (neg := decide (c < 0)) (n := c.natAbs) (e := e) (abs_lt hc) (by unfold Rng at he; omega)
  rw [sgn_self] at h2
  rcases h2 with ⟨h3, h4, h5⟩ | ⟨h3, h4⟩
  · simp only at h3 h4 h5
    exact ⟨c', x', by rw [h1, h3], h4, h5⟩
  · obtain ⟨c2, x2, h5, h6⟩ := canon_exists hc _ e rfl he c hc
    exact absurd h6 (h4 _ _ h5)
theorem clean (k : Nat) (hk : 60 ≤ k) {c e d f : Int} (hc : I64 c) (hd : I64 d) : if Rng e ∧ Rng f then ∃ c' e' d' f' : Int, g_dec_clean k c e d f = some (true, c', e', d', f') ∧ Canon c' e' ∧ val c' e' = val c e ∧ Canon d' f' ∧ val d' f' = val d f
    else ∃ r, g_dec_clean k c e d f = some (false, r) := by
  unfold g_dec_clean
  rw [ranged_eq k (by omega), Option.bind_some]
  by_cases he : Rng e
  · rw [dt he]
    obtain ⟨c', e', h1, h2, h3⟩ := tell_ok k hk hc he
    rw [of_eq k hc]
    simp only [Bool.not_true, cond_false, Option.bind_some]
    rw [h1, Option.bind_some]
    simp only
    rw [ranged_eq k (by omega), Option.bind_some]
    by_cases hf : Rng f
    · rw [if_pos ⟨he, hf⟩, dt hf]
      obtain ⟨d', f', h4, h5, h6⟩ := tell_ok k hk hd hf
      rw [of_eq k hd]
      simp only [Bool.not_true, cond_false, Option.bind_some]
      rw [h4]
      exact ⟨c', e', d', f', rfl, h2, h3, h5, h6⟩
    · rw [if_neg (fun h => hf h.2), df hf]
      exact ⟨_, rfl⟩
  · rw [if_neg (fun h => he h.1), df he]
    exact ⟨_, rfl⟩
/-- Two numbers with one exponent. -/
structure Even (c e d f : Int) (X Y : Nat) (g : Int) : Prop where
  hx : X < UU
  hy : Y < UU
  hg : Rng g
  vx : val (sgn (decide (c < 0)) X) g = val c e
  vy : val (sgn (decide (d < 0)) Y) g = val d f
  last : (X < 18446744073709551616 ∧ Y < 18446744073709551616) ∨ (X % 10 = 0 ∧ Y % 10 ≠ 0) ∨ (X % 10 ≠ 0 ∧ Y % 10 = 0)
/-- No right Dec is a number so great with a last digit. -/
theorem none_big {m g : Int} (hd : ¬ (10 : Int) ∣ m) (hm : 18446744073709551616 ≤ m.natAbs) (hg : Rng g) : ∀ c x, Canon c x → ¬ val c x = val m g := by
  intro c x hc e
  unfold Rng at hg
  obtain ⟨h1, h2, h3, h4, h5⟩ := (canon_iff (by omega) hd (by omega)).1 ⟨hc, e⟩
  rw [if_neg (by omega)] at h1
  subst h1
  simp at h2
  omega
theorem lastd {c x : Int} (h : Canon c x) (h0 : c ≠ 0) (hx : x < 18) : ¬ (10 : Int) ∣ c := by
  rcases h with ⟨h1, _⟩ | ⟨_, _, _, _, _, h1 | h1⟩
  · exact absurd h1 h0
  · omega
  · exact h1
theorem abs_dvd {c : Int} : c.natAbs % 10 = 0 ↔ (10 : Int) ∣ c := by omega
theorem even (k : Nat) (hk : 60 ≤ k) {c e d f : Int} (hc : Canon c e) (hd : Canon d f) :
    (∃ X Y g, g_dec_even k c e d f = some (true, wh X, wl X, g, wh Y, wl Y, g) ∧ Even c e d f X Y g) ∨
    (∃ r, g_dec_even k c e d f = some (false, r) ∧ e ≠ f ∧ c ≠ 0 ∧ d ≠ 0 ∧ (f < e → UU ≤ c.natAbs * 10 ^ (e - f).toNat) ∧ (e < f → UU ≤ d.natAbs * 10 ^ (f - e).toNat) ∧ ∀ s : Int, (s = 1 ∨ s = -1) → ∀ c' x', Canon c' x' → ¬ val c' x' = val c e + s * val d f) := by
  unfold g_dec_even
  have ac := abs_lt hc.i64
  have ad := abs_lt hd.i64
  have re := hc.rg
  have rf := hd.rg
  have re' := hc.rng
  have rf' := hd.rng
  rw [of_eq k hc.i64, of_eq k hd.i64]
  simp only [Option.bind_some, wide_zero, bd]
  have vc : val (sgn (decide (c < 0)) c.natAbs) e = val c e := by rw [sgn_self]
  have vd : val (sgn (decide (d < 0)) d.natAbs) f = val d f := by rw [sgn_self]
  have small : ∀ {n : Nat}, n < 18446744073709551616 → n < UU := fun h => by unfold UU; omega
  by_cases h0 : c = 0
  · rw [if_pos ((wide_or_small ac).2 (by omega)), Option.bind_some]
    refine .inl ⟨c.natAbs, d.natAbs, f, ?_, ⟨small ac, small ad, rf, ?_, vd, .inl ⟨ac, ad⟩⟩⟩
    · rw [wh_small ac, wl_small ac, wh_small ad, wl_small ad]
    · rw [h0]; simp [sgn, val_zero]
  · rw [if_neg (fun h => h0 (by have := (wide_or_small ac).1 h; omega))]
    by_cases h1 : d = 0
    · rw [if_pos ((wide_or_small ad).2 (by omega)), Option.bind_some]
      refine .inl ⟨c.natAbs, d.natAbs, e, ?_, ⟨small ac, small ad, re, vc, ?_, .inl ⟨ac, ad⟩⟩⟩
      · rw [wh_small ac, wl_small ac, wh_small ad, wl_small ad]
      · rw [h1]; simp [sgn, val_zero]
    · rw [if_neg (fun h => h1 (by have := (wide_or_small ad).1 h; omega))]
      by_cases h2 : f < e
      · rw [if_pos h2, wi (by omega) (by omega)]
        obtain ⟨m, hm⟩ : ∃ m : Nat, e - f = (m : Int) := ⟨(e - f).toNat, by omega⟩
        obtain ⟨b, x, y, t1, t2, t3⟩ := wide_tens k (v := c.natAbs) (m := m) (small ac) (by omega) (by omega)
        rw [wh_small ac, wl_small ac] at t1
        rw [hm, t1]
        simp only [Option.bind_some]
        have vx : val (sgn (decide (c < 0)) (c.natAbs * 10 ^ m)) f = val c e := by
          rw [sgn_mul, sgn_self, show ((10 ^ m : Nat) : Int) = (10 : Int) ^ m by simp, val_shift (by omega), show f + (m : Int) = e by omega]
        have hdd : ¬ (10 : Int) ∣ d := lastd hd h1 (by omega)
        have hdd' : d.natAbs % 10 ≠ 0 := fun h => hdd (abs_dvd.1 h)
        have h10 : (c.natAbs * 10 ^ m) % 10 = 0 := by
          obtain ⟨m', rfl⟩ : ∃ m', m = m' + 1 := ⟨m - 1, by omega⟩
          rw [Nat.pow_succ, ← Nat.mul_assoc, Nat.mul_mod_left]
        cases b with
        | true =>
          obtain ⟨u1, u2, u3⟩ := t2 rfl
          refine .inl ⟨c.natAbs * 10 ^ m, d.natAbs, f, ?_, ⟨u1, small ad, rf, vx, vd, .inr (.inl ⟨h10, hdd'⟩)⟩⟩
          rw [u2, u3, wh_small ad, wl_small ad]
        | false =>
          have hbig := t3 rfl
          refine .inr ⟨_, rfl, by omega, h0, h1, fun _ => by first | exact hbig | (rw [hm]; exact hbig), fun h => by omega, ?_⟩
          intro s hs c' x' hcx he
          rw [← vx, ← vd, sgn_self] at he
          have e2 : val (sgn (decide (c < 0)) (c.natAbs * 10 ^ m)) f + s * val d f = val (sgn (decide (c < 0)) (c.natAbs * 10 ^ m) + s * d) f := by
            rw [val_add]; unfold val; rw [Int.mul_assoc]
          rw [e2] at he
          have hX := @sgn_abs (decide (c < 0)) (c.natAbs * 10 ^ m)
          have hX10 := (@sgn_dvd (decide (c < 0)) (c.natAbs * 10 ^ m)).2 h10
          generalize sgn (decide (c < 0)) (c.natAbs * 10 ^ m) = w at *
          unfold UU at hbig
          refine none_big (m := w + s * d) ?_ ?_ rf _ _ hcx he
          · rcases hs with rfl | rfl <;> omega
          · rcases hs with rfl | rfl <;> omega
      · rw [if_neg h2]
        by_cases h3 : e < f
        · rw [if_pos h3, wi (by omega) (by omega)]
          obtain ⟨m, hm⟩ : ∃ m : Nat, f - e = (m : Int) := ⟨(f - e).toNat, by omega⟩
          obtain ⟨b, x, y, t1, t2, t3⟩ := wide_tens k (v := d.natAbs) (m := m) (small ad) (by omega) (by omega)
          rw [wh_small ad, wl_small ad] at t1
          rw [hm, t1]
          simp only [Option.bind_some]
          have vy : val (sgn (decide (d < 0)) (d.natAbs * 10 ^ m)) e = val d f := by
            rw [sgn_mul, sgn_self, show ((10 ^ m : Nat) : Int) = (10 : Int) ^ m by simp, val_shift (by omega), show e + (m : Int) = f by omega]
          have hcc : ¬ (10 : Int) ∣ c := lastd hc h0 (by omega)
          have hcc' : c.natAbs % 10 ≠ 0 := fun h => hcc (abs_dvd.1 h)
          have h10 : (d.natAbs * 10 ^ m) % 10 = 0 := by
            obtain ⟨m', rfl⟩ : ∃ m', m = m' + 1 := ⟨m - 1, by omega⟩
            rw [Nat.pow_succ, ← Nat.mul_assoc, Nat.mul_mod_left]
          cases b with
          | true =>
            obtain ⟨u1, u2, u3⟩ := t2 rfl
            refine .inl ⟨c.natAbs, d.natAbs * 10 ^ m, e, ?_, ⟨small ac, u1, re, vc, vy, .inr (.inr ⟨hcc', h10⟩)⟩⟩
            rw [u2, u3, wh_small ac, wl_small ac]
          | false =>
            have hbig := t3 rfl
            refine .inr ⟨_, rfl, by omega, h0, h1, fun h => by omega, fun _ => by first | exact hbig | (rw [hm]; exact hbig), ?_⟩
            intro s hs c' x' hcx he
            rw [← vy, ← vc, sgn_self] at he
            have e2 : val c e + s * val (sgn (decide (d < 0)) (d.natAbs * 10 ^ m)) e = val (c + s * sgn (decide (d < 0)) (d.natAbs * 10 ^ m)) e := by
              rw [val_add]; unfold val; rw [Int.mul_assoc]
            rw [e2] at he
            have hX := @sgn_abs (decide (d < 0)) (d.natAbs * 10 ^ m)
            have hX10 := (@sgn_dvd (decide (d < 0)) (d.natAbs * 10 ^ m)).2 h10
            generalize sgn (decide (d < 0)) (d.natAbs * 10 ^ m) = w at *
            unfold UU at hbig
            refine none_big (m := c + s * w) ?_ ?_ re _ _ hcx he
            · rcases hs with rfl | rfl <;> omega
            · rcases hs with rfl | rfl <;> omega
        · rw [if_neg h3, Option.bind_some]
          have hef : e = f := by omega
          subst hef
          exact .inl ⟨c.natAbs, d.natAbs, e, by rw [wh_small ac, wl_small ac, wh_small ad, wl_small ad], ⟨small ac, small ad, re, vc, vd, .inl ⟨ac, ad⟩⟩⟩
end Go.Proofs.Ytdbeblgfccjbgaa.W
namespace Go.Proofs.Ytdbeblgfccjbgaa.W
open Go Go.Q Go.Proofs Go.Dz
set_option linter.unusedVariables false
set_option linter.unusedSimpArgs false
/-- An answer: the right Dec of a number, where the exponents may be so. -/
def Sp (R : Prop) [Decidable R] (p : Int → Prop) (g : Option (Int × Int × Int)) : Prop := if R then ∃ er c x : Int, g = some (er, c, x) ∧ Tells p ((c, x), er) else g = some (1, 0, 0)
theorem Sp.eq {R : Prop} [Decidable R] {p : Int → Prop} {g g' : Option (Int × Int × Int)} (hp : ∀ a b, p a → p b → a = b) (h : Sp R p g) (h' : Sp R p g') : ∃ r, g = some r ∧ g' = some r := by
  unfold Sp at h h'
  by_cases hR : R
  · rw [if_pos hR] at h h'
    obtain ⟨er, c, x, h1, h2⟩ := h
    obtain ⟨er', c', x', h3, h4⟩ := h'
    have := Tells.uniq hp h2 h4
    simp only [Prod.mk.injEq] at this
    obtain ⟨⟨rfl, rfl⟩, rfl⟩ := this
    exact ⟨_, h1, h3⟩
  · rw [if_neg hR] at h h'
    exact ⟨_, h, h'⟩
theorem Sp.congr {R : Prop} [Decidable R] {p q : Int → Prop} {g : Option (Int × Int × Int)} (h : Sp R p g) (hq : R → ∀ a, p a ↔ q a) : Sp R q g := by
  unfold Sp at *
  by_cases hR : R
  · rw [if_pos hR] at *
    obtain ⟨er, c, x, h1, h2⟩ := h
    exact ⟨er, c, x, h1, h2.congr (hq hR)⟩
  · rwa [if_neg hR] at *
theorem Tells.none {p : Int → Prop} (h : ∀ c x, Canon c x → ¬ p (val c x)) : Tells p ((0, 0), 30) := .inr ⟨rfl, h⟩
theorem sgn_add {neg : Bool} {X Y : Nat} : sgn neg (X + Y) = sgn neg X + sgn neg Y := by cases neg <;> simp [sgn] <;> omega
theorem sgn_sub {neg : Bool} {X Y : Nat} (h : Y ≤ X) : sgn neg (X - Y) = sgn neg X - sgn neg Y := by cases neg <;> simp [sgn] <;> omega
theorem sgn_not {neg : Bool} {X : Nat} : sgn (!neg) X = - sgn neg X := by cases neg <;> simp [sgn]
theorem sum_last {c e d f : Int} {X Y : Nat} {g : Int} (h : Even c e d f X Y g) (hov : UU ≤ X + Y) {neg : Bool} : ∀ c' x', Canon c' x' → ¬ val c' x' = val (sgn neg (X + Y)) g := by
  have h1 := h.hx
  have h2 := h.hy
  unfold UU at *
  refine none_big ?_ (by rw [sgn_abs]; omega) h.hg
  rw [sgn_dvd]
  rcases h.last with h3 | h3 | h3 <;> omega
/-- The middle of sums. -/
theorem tell_num (k : Nat) (hk : 60 ≤ k) {neg : Bool} {V : Nat} {g v : Int} (hV : V < UU) (hg : Rng g) (hv : val (sgn neg V) g = v) : ∃ er c x : Int, g_dec_num_tell k neg (wh V) (wl V) g = some (er, c, x) ∧ Tells (· = v) ((c, x), er) := by
  rw [← hv]
  unfold Rng at hg
  exact num_tell k hk hV (by omega) (by omega)
theorem dec_Add (k : Nat) (hk : 60 ≤ k) {c e d f : Int} (hc : I64 c) (hd : I64 d) : Sp (Rng e ∧ Rng f) (· = val c e + val d f) (g_dec_Add k c e d f) := by
  unfold Sp g_dec_Add
  have hcl := clean k hk (e := e) (f := f) hc hd
  by_cases hR : Rng e ∧ Rng f
  · rw [if_pos hR] at hcl ⊢
    obtain ⟨c', e', d', f', h1, h2, h3, h4, h5⟩ := hcl
    rw [h1, ← h3, ← h5]
    simp only [Option.bind_some, Bool.not_true, cond_false]
    rcases even k hk h2 h4 with ⟨X, Y, g, g1, g2⟩ | ⟨r, g1, _, _, _, _, _, g2⟩
    · rw [g1]
      simp only [Option.bind_some, Bool.not_true, cond_false]
      rw [← g2.vx, ← g2.vy]
      by_cases hs : decide (c' < 0) = decide (d' < 0)
      · rw [hs, beq_self_eq_true, bt, wide_plus k g2.hx g2.hy, Option.bind_some, Option.bind_some]
        simp only
        rw [← val_add, ← sgn_add]
        by_cases hov : X + Y < UU
        · rw [dt hov, Bool.not_true, bf]
          obtain ⟨v1, v2⟩ := wide_plus_val g2.hx g2.hy hov
          rw [v1, v2]
          obtain ⟨er, c, x, t1, t2⟩ := tell_num k hk hov g2.hg rfl
          rw [t1]
          exact ⟨er, c, x, rfl, t2⟩
        · rw [df hov, Bool.not_false, bt]
          exact ⟨30, 0, 0, rfl, Tells.none (sum_last g2 (Nat.le_of_not_lt hov))⟩
      · have hb : ((decide (c' < 0)) == (decide (d' < 0))) = false := by rw [beq_eq_false_iff_ne]; exact hs
        have hn : decide (d' < 0) = !decide (c' < 0) := by
          rw [← Bool.eq_not_of_ne (Ne.symm hs)]
        rw [hb, bf, wide_cmp k g2.hx g2.hy, Option.bind_some]
        by_cases hc' : Y ≤ X
        · obtain ⟨v1, v2⟩ := wide_less_val g2.hx hc'
          rw [v1, v2, dt (cmpN_nonneg.2 hc'), bt, wide_less]
          simp only [Option.bind_some, Bool.not_true, cond_false]
          obtain ⟨er, c, x, t1, t2⟩ := tell_num k hk (V := X - Y) (neg := decide (c' < 0)) (Nat.lt_of_le_of_lt (Nat.sub_le _ _) g2.hx) g2.hg rfl
          rw [t1]
          refine ⟨er, c, x, rfl, ?_⟩
          rw [hn, sgn_not, val_neg, ← Int.sub_eq_add_neg, ← val_sub, ← sgn_sub hc']
          exact t2
        · obtain ⟨v1, v2⟩ := wide_less_val g2.hy (show X ≤ Y by omega)
          rw [v1, v2, df (fun h => hc' (cmpN_nonneg.1 h)), bf, wide_less]
          simp only [Option.bind_some, Bool.not_true, cond_false]
          obtain ⟨er, c, x, t1, t2⟩ := tell_num k hk (V := Y - X) (neg := decide (d' < 0)) (Nat.lt_of_le_of_lt (Nat.sub_le _ _) g2.hy) g2.hg rfl
          rw [t1]
          refine ⟨er, c, x, rfl, ?_⟩
          have hn' : decide (c' < 0) = !decide (d' < 0) := by rw [hn, Bool.not_not]
          rw [hn', sgn_not, val_neg, Int.add_comm, ← Int.sub_eq_add_neg, ← val_sub, ← sgn_sub (show X ≤ Y by omega)]
          exact t2
    · rw [g1]
      simp only [Option.bind_some, Bool.not_false, cond_true]
      refine ⟨30, 0, 0, rfl, Tells.none fun c x hcx he => g2 1 (.inl rfl) c x hcx ?_⟩
      rw [he, Int.one_mul]
  · rw [if_neg hR] at hcl ⊢
    obtain ⟨r, h1⟩ := hcl
    rw [h1]
    rfl
theorem dec_lowest (k : Nat) (hk : 60 ≤ k) {c e d f : Int} (hc : Canon c e) (hd : Canon d f) (hlow : d = -9223372036854775808) : ∃ er c' x : Int, g_dec_lowest k c e d f = some (er, c', x) ∧ Tells (· = val c e - val d f) ((c', x), er) := by
  unfold g_dec_lowest
  have hdn : decide (d < 0) = true := dt (by omega)
  rcases even k hk hc hd with ⟨X, Y, g, g1, g2⟩ | ⟨r, g1, _, _, _, _, _, g2⟩
  · rw [g1]
    simp only [Option.bind_some, Bool.not_true, cond_false]
    rw [← g2.vx, ← g2.vy, hdn]
    by_cases hc0 : c < 0
    · rw [dt hc0, bt, wide_cmp k g2.hx g2.hy, Option.bind_some]
      by_cases hc' : Y ≤ X
      · obtain ⟨v1, v2⟩ := wide_less_val g2.hx hc'
        rw [v1, v2, dt (cmpN_nonneg.2 hc'), bt, wide_less]
        simp only [Option.bind_some]
        obtain ⟨er, c, x, t1, t2⟩ := tell_num k hk (V := X - Y) (neg := true) (by have := g2.hx; omega) g2.hg rfl
        rw [t1]
        refine ⟨er, c, x, rfl, ?_⟩
        rw [← val_sub, ← sgn_sub hc']
        exact t2
      · obtain ⟨v1, v2⟩ := wide_less_val g2.hy (show X ≤ Y by omega)
        rw [v1, v2, df (fun h => hc' (cmpN_nonneg.1 h)), bf, wide_less]
        simp only [Option.bind_some]
        obtain ⟨er, c, x, t1, t2⟩ := tell_num k hk (V := Y - X) (neg := false) (by have := g2.hy; omega) g2.hg rfl
        rw [t1]
        refine ⟨er, c, x, rfl, ?_⟩
        rw [← val_sub, show sgn true X - sgn true Y = sgn false (Y - X) by simp [sgn]; omega]
        exact t2
    · rw [df hc0, bf, wide_plus k g2.hx g2.hy, Option.bind_some]
      rw [← val_sub, show sgn false X - sgn true Y = sgn false (X + Y) by simp [sgn]]
      by_cases hov : X + Y < UU
      · rw [dt hov, Bool.not_true, bf]
        obtain ⟨v1, v2⟩ := wide_plus_val g2.hx g2.hy hov
        rw [v1, v2]
        obtain ⟨er, c, x, t1, t2⟩ := tell_num k hk (neg := false) hov g2.hg rfl
        rw [t1]
        exact ⟨er, c, x, rfl, t2⟩
      · rw [df hov, Bool.not_false, bt]
        exact ⟨30, 0, 0, rfl, Tells.none (sum_last g2 (Nat.le_of_not_lt hov))⟩
  · rw [g1]
    simp only [Option.bind_some, Bool.not_false, cond_true]
    refine ⟨30, 0, 0, rfl, Tells.none fun c x hcx he => g2 (-1) (.inr rfl) c x hcx ?_⟩
    rw [he]
    omega
theorem dec_Sub (k : Nat) (hk : 60 ≤ k) {c e d f : Int} (hc : I64 c) (hd : I64 d) : Sp (Rng e ∧ Rng f) (· = val c e - val d f) (g_dec_Sub k c e d f) := by
  unfold Sp g_dec_Sub
  have hcl := clean k hk (e := e) (f := f) hc hd
  by_cases hR : Rng e ∧ Rng f
  · rw [if_pos hR] at hcl ⊢
    obtain ⟨c', e', d', f', h1, h2, h3, h4, h5⟩ := hcl
    rw [h1, ← h3, ← h5]
    simp only [Option.bind_some, Bool.not_true, cond_false, bd]
    by_cases hlow : d' = -9223372036854775808
    · rw [if_pos hlow]
      obtain ⟨er, c, x, t1, t2⟩ := dec_lowest k hk h2 h4 hlow
      rw [t1]
      exact ⟨er, c, x, rfl, t2⟩
    · rw [if_neg hlow]
      have hd' := h4.i64
      unfold I64 at hd'
      rw [Int.zero_sub, wi (by omega) (by omega)]
      have := dec_Add k hk (e := e') (f := f') (d := -d') h2.i64 (by unfold I64; omega)
      unfold Sp at this
      rw [if_pos ⟨h2.rg, h4.rg⟩] at this
      obtain ⟨er, c, x, t1, t2⟩ := this
      rw [t1]
      refine ⟨er, c, x, rfl, ?_⟩
      rw [val_neg, ← Int.sub_eq_add_neg] at t2
      exact t2
  · rw [if_neg hR] at hcl ⊢
    obtain ⟨r, h1⟩ := hcl
    rw [h1]
    rfl
/-- Products of numbers. -/
theorem val_mul {c e d f : Int} (he : -200000 ≤ e) (hf : -200000 ≤ f) : val c e * val d f = val (c * d) (e + f) * 10 ^ 500000 := by
  unfold val
  have e1 : ∀ p q : Int, c * p * (d * q) = c * d * (p * q) := fun p q => by rw [Int.mul_assoc, Int.mul_left_comm p, ← Int.mul_assoc]
  rw [e1, ← Int.pow_add, Int.mul_assoc (c * d), ← Int.pow_add, show (e + 500000).toNat + (f + 500000).toNat = (e + f + 500000).toNat + 500000 by omega]
theorem ten_pos : (0 : Int) < 10 ^ 500000 := p10 500000
theorem val_mul_eq {c e d f c' e' d' f' : Int} (he : -200000 ≤ e) (hf : -200000 ≤ f) (he' : -200000 ≤ e') (hf' : -200000 ≤ f') (h1 : val c' e' = val c e) (h2 : val d' f' = val d f) : val (c' * d') (e' + f') = val (c * d) (e + f) := by
  have a := val_mul (c := c) (d := d) he hf
  have b := val_mul (c := c') (d := d') he' hf'
  rw [h1, h2, a] at b
  exact (Int.eq_of_mul_eq_mul_right (Int.ne_of_gt ten_pos) b).symm
theorem sgn_prod {c d : Int} : sgn (!(decide (c < 0) == decide (d < 0))) (c.natAbs * d.natAbs) = c * d := by
  have h1 := sgn_self c
  have h2 := sgn_self d
  have : sgn (!(decide (c < 0) == decide (d < 0))) (c.natAbs * d.natAbs) = sgn (decide (c < 0)) c.natAbs * sgn (decide (d < 0)) d.natAbs := by
    cases decide (c < 0) <;> cases decide (d < 0) <;> simp [sgn, Int.neg_mul, Int.mul_neg]
  rw [this, h1, h2]
theorem dec_Mul (k : Nat) (hk : 60 ≤ k) {c e d f : Int} (hc : I64 c) (hd : I64 d) : Sp (Rng e ∧ Rng f) (· = val (c * d) (e + f)) (g_dec_Mul k c e d f) := by
  unfold Sp g_dec_Mul
  have hcl := clean k hk (e := e) (f := f) hc hd
  by_cases hR : Rng e ∧ Rng f
  · rw [if_pos hR] at hcl ⊢
    obtain ⟨c', e', d', f', h1, h2, h3, h4, h5⟩ := hcl
    have r1 := h2.rng
    have r2 := h4.rng
    have ac : c'.natAbs ≤ 9223372036854775808 := by omega
    have ad : d'.natAbs ≤ 9223372036854775808 := by omega
    rw [h1]
    simp only [Option.bind_some, Bool.not_true, cond_false]
    rw [size_eq k h2.i64, size_eq k h4.i64]
    simp only [Option.bind_some]
    have hm := Nat.mul_le_mul ac ad
    rw [mul64 k (by omega) (by omega)]
    simp only [Option.bind_some]
    rw [← Int.natCast_mul, wU, wi (by omega) (by omega)]
    have hV : c'.natAbs * d'.natAbs < UU := by unfold UU; omega
    obtain ⟨er, c2, x, t1, t2⟩ := num_tell k hk (neg := !(decide (c' < 0) == decide (d' < 0))) (v := c'.natAbs * d'.natAbs) (e := e' + f') hV (by omega) (by omega)
    unfold wh wl at t1
    rw [t1]
    refine ⟨er, c2, x, rfl, ?_⟩
    rw [sgn_prod, val_mul_eq (c := c) (e := e) (d := d) (f := f) (by have := hR.1; unfold Rng at this; omega) (by have := hR.2; unfold Rng at this; omega) (by omega) (by omega) h3 h5] at t2
    exact t2
  · rw [if_neg hR] at hcl ⊢
    obtain ⟨r, h1⟩ := hcl
    rw [h1]
    rfl
theorem eq_fun (v : Int) : ∀ a b : Int, a = v → b = v → a = b := fun a b h k => h.trans k.symm
end Go.Proofs.Ytdbeblgfccjbgaa.W
namespace Go.Proofs.Ytdbeblgfccjbgaa.W
open Go Go.Q Go.Proofs Go.Dz
set_option linter.unusedVariables false
set_option linter.unusedSimpArgs false
theorem alive {k : Nat} (hk : 64 ≤ k) : g_quirelaw09_alive k = some true := (g_quirelaw09_alive_mono hk).h _ (by kernel_rfl)
theorem i64_I {c : Int} (h : (Lit.int .i64 c).wf = true) : I64 c := i64_wf h
end Go.Proofs.Ytdbeblgfccjbgaa.W
namespace Go.Proofs.Ytdbeblgfccjbgaa.W
open Go Go.Q Go.Proofs Go.Dz
set_option linter.unusedVariables false
set_option linter.unusedSimpArgs false
theorem gcd_loop (k : Nat) : ∀ (m n x y : Nat), 2 * m + 1 ≤ n → y < 2 ^ m → g_dec_Div_l0 k n (x : Int) (y : Int) = some ((Nat.gcd x y : Nat) : Int) := by
  intro m
  induction m with
  | zero =>
    intro n x y hn hy
    obtain ⟨n, rfl⟩ : ∃ n', n = n' + 1 := ⟨n - 1, by omega⟩
    have : y = 0 := by simp at hy; omega
    subst this
    rw [g_dec_Div_l0.eq_2]
    simp
  | succ m ih =>
    intro n x y hn hy
    obtain ⟨n, rfl⟩ : ∃ n', n = n' + 2 := ⟨n - 2, by omega⟩
    rw [g_dec_Div_l0.eq_2]
    by_cases h0 : y = 0
    · subst h0; simp
    · have e0 : ((y : Int) == 0) = false := by rw [beq_eq_false_iff_ne]; omega
      rw [df (by omega), Bool.not_false, bt, e0, Bool.not_false, bt, tm, g_dec_Div_l0.eq_2]
      have hr : x % y < y := Nat.mod_lt _ (by omega)
      by_cases h1 : x % y = 0
      · rw [h1, dt (by rfl), Bool.not_true, bf]
        rw [Nat.gcd_comm, Nat.gcd_rec, h1, Nat.gcd_zero_left]
      · have e1 : (((x % y : Nat) : Int) == 0) = false := by rw [beq_eq_false_iff_ne]; omega
        rw [df (by omega), Bool.not_false, bt, e1, Bool.not_false, bt, tm]
        have h2 : y % (x % y) < x % y := Nat.mod_lt _ (by omega)
        have h3 := Nat.div_add_mod y (x % y)
        have h4 : 1 ≤ y / (x % y) := Nat.div_pos (by omega) (by omega)
        have h5 : (x % y) * 1 ≤ (x % y) * (y / (x % y)) := Nat.mul_le_mul_left _ h4
        rw [Nat.pow_succ] at hy
        rw [ih n (x % y) (y % (x % y)) (by omega) (by omega)]
        congr 2
        conv => rhs; rw [Nat.gcd_comm, Nat.gcd_rec, Nat.gcd_rec]
        rw [Nat.gcd_comm]
theorem factors_loop (k : Nat) {f : Nat} (hf : 2 ≤ f) : ∀ (m n v c : Nat), m < n → v ≠ 0 → v < 2 ^ m → v < 18446744073709551616 → c + m ≤ 1000 → ∃ w j : Nat, v = w * f ^ j ∧ w % f ≠ 0 ∧ j ≤ m ∧ w ≠ 0 ∧
    g_dec_factors_l0 k (f : Int) n (v : Int) (c : Int) = some ((w : Int), ((c + j : Nat) : Int)) := by
  intro m
  induction m with
  | zero => intro n v c _ h0 h; simp at h; omega
  | succ m ih =>
    intro n v c hn h0 hv hU hc
    obtain ⟨n, rfl⟩ : ∃ n', n = n' + 1 := ⟨n - 1, by omega⟩
    rw [g_dec_factors_l0.eq_2]
    have e0 : ((f : Int) == 0) = false := by rw [beq_eq_false_iff_ne]; omega
    rw [e0, Bool.not_false, bt, tm]
    by_cases h : v % f = 0
    · rw [dt (by omega), bt, bt, td]
      have hle : v / f ≤ v / 2 := Nat.div_le_div_left hf (by decide)
      have hvf : v = v / f * f := by have := Nat.div_add_mod v f; rw [Nat.mul_comm] at this; omega
      have hne : v / f ≠ 0 := by intro h0'; rw [h0'] at hvf; omega
      rw [wUl (by omega), wi (by omega) (by omega), show ((c : Int) + 1) = ((c + 1 : Nat) : Int) by omega]
      rw [Nat.pow_succ] at hv
      obtain ⟨w, j, h1, h2, h3, h4, h5⟩ := ih n (v / f) (c + 1) (by omega) hne (by omega) (by omega) (by omega)
      refine ⟨w, j + 1, ?_, h2, by omega, h4, ?_⟩
      · rw [Nat.pow_succ, ← Nat.mul_assoc, ← h1]; exact hvf
      · rw [h5]; congr 3; omega
    · rw [df (by omega), bf]
      exact ⟨v, 0, by simp, h, by omega, h0, by simp⟩
theorem factors (k : Nat) {f v : Nat} (hk : 65 ≤ k) (hf : 2 ≤ f) (h0 : v ≠ 0) (hU : v < 18446744073709551616) : ∃ w j : Nat, v = w * f ^ j ∧ w % f ≠ 0 ∧ j ≤ 64 ∧ w ≠ 0 ∧ g_dec_factors k (v : Int) (f : Int) = some ((j : Int), (w : Int)) := by
  unfold g_dec_factors
  obtain ⟨w, j, h1, h2, h3, h4, h5⟩ := factors_loop k hf 64 k v 0 (by omega) h0 (by simpa using hU) hU (by omega)
  rw [show ((0 : Nat) : Int) = 0 from rfl, Nat.zero_add] at h5
  rw [h5]
  exact ⟨w, j, h1, h2, h3, h4, rfl⟩
/-- Times a factor, so often. -/
theorem twos_l1 (k : Nat) {a b m : Nat} (hm : b - a = m) (hb : b ≤ 1000) (ha : a ≤ b) : ∀ (n i v : Nat), i ≤ m → m - i + 1 < n → v < UU → ∃ (o : Bool) (x y : Int), g_dec_Div_l1 k (a : Int) (b : Int) n true (i : Int) (wh v) (wl v) = some (o, x, y) ∧
    (o = true → v * 2 ^ (m - i) < UU ∧ x = wh (v * 2 ^ (m - i)) ∧ y = wl (v * 2 ^ (m - i))) ∧ (o = false → UU ≤ v * 2 ^ (m - i)) := by
  intro n
  induction n with
  | zero => intro i v _ h; omega
  | succ n ih =>
    intro i v hi hn hv
    rw [g_dec_Div_l1.eq_2, wi (n := (b : Int) - a) (by omega) (by omega)]
    simp only [Option.bind_some]
    by_cases him : i < m
    · rw [dt (by omega), bt, Option.bind_some, bt]
      obtain ⟨x, h1, h2⟩ := wide_times k hv (n := 2) (by decide)
      have w1 := @wide_times_lo v 2
      rw [show ((2 : Nat) : Int) = 2 from rfl] at h1 w1
      rw [h1, Option.bind_some, wi (by omega) (by omega), w1]
      by_cases hlt : v * 2 < UU
      · rw [dt hlt, h2 hlt, show ((i : Int) + 1) = ((i + 1 : Nat) : Int) by omega]
        have e : v * 2 ^ (m - i) = v * 2 * 2 ^ (m - (i + 1)) := by
          rw [show m - i = (m - (i + 1)) + 1 by omega, Nat.pow_succ, Nat.mul_assoc, Nat.mul_comm 2]
        rw [e]
        exact ih (i + 1) (v * 2) (by omega) (by omega) hlt
      · rw [df hlt]
        have hbig : UU ≤ v * 2 ^ (m - i) := by
          obtain ⟨j, hj⟩ : ∃ j, m - i = j + 1 := ⟨m - i - 1, by omega⟩
          rw [hj, Nat.pow_succ, Nat.mul_comm (2 ^ j), ← Nat.mul_assoc]
          exact Nat.le_trans (Nat.le_of_not_lt hlt) (Nat.le_mul_of_pos_right _ (Nat.pow_pos (by decide)))
        obtain ⟨n', rfl⟩ : ∃ n', n = n' + 1 := ⟨n - 1, by omega⟩
        rw [g_dec_Div_l1.eq_2]
        refine ⟨false, x, wl (v * 2), ?_, (fun h => by cases h), fun _ => hbig⟩
        simp only [Option.bind_some]
        generalize decide (((i : Int) + 1) < IntKind.wrap .i64 ((b : Int) - a)) = q
        cases q <;> rfl
    · rw [df (by omega), bf, Option.bind_some, bf]
      refine ⟨true, wh v, wl v, rfl, fun _ => ?_, fun h => by cases h⟩
      rw [show m - i = 0 by omega]; simp [hv]
theorem fives_false (k : Nat) {a b x y : Int} (n : Nat) : g_dec_Div_l2 k a b (n + 1) false 0 x y = some (false, x, y) := by
  rw [g_dec_Div_l2.eq_2]
  simp only [Option.bind_some]
  generalize decide ((0 : Int) < IntKind.wrap .i64 (b - a)) = q
  cases q <;> rfl
theorem fives_l2 (k : Nat) {a b m : Nat} (hm : b - a = m) (hb : b ≤ 1000) (ha : a ≤ b) : ∀ (n i v : Nat), i ≤ m → m - i + 1 < n → v < UU → ∃ (o : Bool) (x y : Int), g_dec_Div_l2 k (a : Int) (b : Int) n true (i : Int) (wh v) (wl v) = some (o, x, y) ∧
    (o = true → v * 5 ^ (m - i) < UU ∧ x = wh (v * 5 ^ (m - i)) ∧ y = wl (v * 5 ^ (m - i))) ∧ (o = false → UU ≤ v * 5 ^ (m - i)) := by
  intro n
  induction n with
  | zero => intro i v _ h; omega
  | succ n ih =>
    intro i v hi hn hv
    rw [g_dec_Div_l2.eq_2, wi (n := (b : Int) - a) (by omega) (by omega)]
    simp only [Option.bind_some]
    by_cases him : i < m
    · rw [dt (by omega), bt, Option.bind_some, bt]
      obtain ⟨x, h1, h2⟩ := wide_times k hv (n := 5) (by decide)
      have w1 := @wide_times_lo v 5
      rw [show ((5 : Nat) : Int) = 5 from rfl] at h1 w1
      rw [h1, Option.bind_some, wi (by omega) (by omega), w1]
      by_cases hlt : v * 5 < UU
      · rw [dt hlt, h2 hlt, show ((i : Int) + 1) = ((i + 1 : Nat) : Int) by omega]
        have e : v * 5 ^ (m - i) = v * 5 * 5 ^ (m - (i + 1)) := by
          rw [show m - i = (m - (i + 1)) + 1 by omega, Nat.pow_succ, Nat.mul_assoc, Nat.mul_comm 5]
        rw [e]
        exact ih (i + 1) (v * 5) (by omega) (by omega) hlt
      · rw [df hlt]
        have hbig : UU ≤ v * 5 ^ (m - i) := by
          obtain ⟨j, hj⟩ : ∃ j, m - i = j + 1 := ⟨m - i - 1, by omega⟩
          rw [hj, Nat.pow_succ, Nat.mul_comm (5 ^ j), ← Nat.mul_assoc]
          exact Nat.le_trans (Nat.le_of_not_lt hlt) (Nat.le_mul_of_pos_right _ (Nat.pow_pos (by decide)))
        obtain ⟨n', rfl⟩ : ∃ n', n = n' + 1 := ⟨n - 1, by omega⟩
        rw [g_dec_Div_l2.eq_2]
        refine ⟨false, x, wl (v * 5), ?_, (fun h => by cases h), fun _ => hbig⟩
        simp only [Option.bind_some]
        generalize decide (((i : Int) + 1) < IntKind.wrap .i64 ((b : Int) - a)) = q
        cases q <;> rfl
    · rw [df (by omega), bf, Option.bind_some, bf]
      refine ⟨true, wh v, wl v, rfl, fun _ => ?_, fun h => by cases h⟩
      rw [show m - i = 0 by omega]; simp [hv]
end Go.Proofs.Ytdbeblgfccjbgaa.W
namespace Go.Proofs.Ytdbeblgfccjbgaa.W
open Go Go.Q Go.Proofs Go.Dz
set_option linter.unusedVariables false
set_option linter.unusedSimpArgs false
theorem cop2 {m : Nat} (h : m % 2 ≠ 0) : Nat.Coprime m 2 := by
  have h1 := Nat.gcd_dvd_right m 2
  have h2 := Nat.gcd_dvd_left m 2
  have h3 := Nat.le_of_dvd (by decide) h1
  unfold Nat.Coprime
  generalize Nat.gcd m 2 = g at *
  obtain ⟨a, ha⟩ := h1
  obtain ⟨b, hb⟩ := h2
  rcases (by omega : g = 0 ∨ g = 1 ∨ g = 2) with rfl | rfl | rfl <;> omega
theorem cop5 {m : Nat} (h : m % 5 ≠ 0) : Nat.Coprime m 5 := by
  have h1 := Nat.gcd_dvd_right m 5
  have h2 := Nat.gcd_dvd_left m 5
  have h3 := Nat.le_of_dvd (by decide) h1
  unfold Nat.Coprime
  generalize Nat.gcd m 5 = g at *
  obtain ⟨a, ha⟩ := h1
  obtain ⟨b, hb⟩ := h2
  rcases (by omega : g = 0 ∨ g = 1 ∨ g = 2 ∨ g = 3 ∨ g = 4 ∨ g = 5) with rfl | rfl | rfl | rfl | rfl | rfl <;> omega
theorem cop10 {m : Nat} (h2 : m % 2 ≠ 0) (h5 : m % 5 ≠ 0) (n : Nat) : Nat.Coprime m (10 ^ n) := (Nat.Coprime.mul_right (cop2 h2) (cop5 h5)).pow_right n
theorem dvd5 {a b : Nat} (h : (a * b) % 5 = 0) (ha : a % 5 ≠ 0) : b % 5 = 0 := by
  have := (cop5 ha).symm.dvd_of_dvd_mul_left (Nat.dvd_of_mod_eq_zero h)
  exact Nat.mod_eq_zero_of_dvd this
theorem pow_mod5 {n : Nat} : 2 ^ n % 5 ≠ 0 := by
  induction n with
  | zero => decide
  | succ n ih => rw [Nat.pow_succ]; omega
theorem pow_mod2 {n : Nat} : 5 ^ n % 2 = 1 := by
  induction n with
  | zero => decide
  | succ n ih => rw [Nat.pow_succ]; omega
/-- An answer of a division. -/
def SpD (R : Prop) [Decidable R] (z : Prop) [Decidable z] (p : Int → Prop) (g : Option (Int × Int × Int)) : Prop :=
  if R then (if z then g = some (31, 0, 0) else ∃ er c x : Int, g = some (er, c, x) ∧ Tells p ((c, x), er)) else g = some (1, 0, 0)
theorem SpD.eq {R : Prop} [Decidable R] {z : Prop} [Decidable z] {p : Int → Prop} {g g' : Option (Int × Int × Int)} (hp : ¬ z → ∀ a b, p a → p b → a = b) (h : SpD R z p g) (h' : SpD R z p g') : ∃ r, g = some r ∧ g' = some r := by
  unfold SpD at h h'
  by_cases hR : R
  · rw [if_pos hR] at h h'
    by_cases hz : z
    · rw [if_pos hz] at h h'
      exact ⟨_, h, h'⟩
    · rw [if_neg hz] at h h'
      obtain ⟨er, c, x, h1, h2⟩ := h
      obtain ⟨er', c', x', h3, h4⟩ := h'
      have := Tells.uniq (hp hz) h2 h4
      simp only [Prod.mk.injEq] at this
      obtain ⟨⟨rfl, rfl⟩, rfl⟩ := this
      exact ⟨_, h1, h3⟩
  · rw [if_neg hR] at h h'
    exact ⟨_, h, h'⟩
/-- What a quotient is, all of it times 10 to the 500000. -/
def Quot (A B V : Int) : Prop := V * B = A * 10 ^ 500000
theorem quot_fun {A B : Int} (h : B ≠ 0) : ∀ a b, Quot A B a → Quot A B b → a = b := fun a b ha hb => Int.eq_of_mul_eq_mul_right h (ha.trans hb.symm)
theorem quot_iff {c e d f C X : Int} (he : -200000 ≤ X) (hf : -200000 ≤ f) : Quot (val c e) (val d f) (val C X) ↔ val (C * d) (X + f) = val c e := by
  unfold Quot
  rw [val_mul he hf]
  exact ⟨fun h => Int.eq_of_mul_eq_mul_right (Int.ne_of_gt ten_pos) h, fun h => by rw [h]⟩
theorem quot_is {A B V0 : Int} (hB : B ≠ 0) (h : Quot A B V0) : ∀ V, V = V0 ↔ Quot A B V := fun V => ⟨fun e => e ▸ h, fun k => quot_fun hB _ _ k h⟩
theorem val_ne {c e : Int} (h : c ≠ 0) : val c e ≠ 0 := fun k => h (val_eq_zero k)
/-- No right Dec of so great a number. -/
theorem none_huge {m g : Int} (hd : ¬ (10 : Int) ∣ m) (hm : 18446744073709551616 ≤ m.natAbs) (hg : -500000 ≤ g) : ∀ c x, Canon c x → ¬ val c x = val m g := by
  intro c x hc e
  obtain ⟨h1, h2, h3, h4, h5⟩ := (canon_iff (by omega) hd hg).1 ⟨hc, e⟩
  have h6 : c.natAbs = m.natAbs * 10 ^ (g - x).toNat := by rw [h2, Int.natAbs_mul, Int.natAbs_pow]; rfl
  have h7 : m.natAbs * 1 ≤ m.natAbs * 10 ^ (g - x).toNat := Nat.mul_le_mul_left _ (Nat.pow_pos (by decide))
  omega
theorem val_abs {c e : Int} : (val c e).natAbs = c.natAbs * 10 ^ (e + 500000).toNat := by unfold val; rw [Int.natAbs_mul, Int.natAbs_pow]; rfl
theorem sgn_x (p q : Bool) (w y : Nat) : sgn (!(p == q)) w * sgn q y = sgn p (w * y) := by
  cases p <;> cases q <;> simp [sgn, Int.neg_mul, Int.mul_neg]
theorem dec_Div (k : Nat) (hk : 200 ≤ k) {c e d f : Int} (hc : I64 c) (hd : I64 d) : SpD (Rng e ∧ Rng f) (d = 0) (Quot (val c e) (val d f)) (g_dec_Div k c e d f) := by
  unfold SpD g_dec_Div
  have hcl := clean k (by omega) (e := e) (f := f) hc hd
  by_cases hR : Rng e ∧ Rng f
  · rw [if_pos hR] at hcl ⊢
    obtain ⟨c', e', d', f', h1, h2, h3, h4, h5⟩ := hcl
    rw [h1, ← h3, ← h5]
    simp only [Option.bind_some, Bool.not_true, cond_false]
    have re := h2.rng
    have rf := h4.rng
    have hd0 : d' = 0 ↔ d = 0 := by
      constructor
      · intro h; rw [h, val_zero] at h5; exact val_eq_zero h5.symm
      · intro h; rw [h, val_zero] at h5; exact val_eq_zero h5
    by_cases hz : d = 0
    · rw [if_pos hz, dt (hd0.2 hz), bt]
    · have hz' : d' ≠ 0 := fun h => hz (hd0.1 h)
      rw [if_neg hz, df hz', bf]
      by_cases hc0 : c' = 0
      · rw [dt hc0, bt]
        refine ⟨0, 0, 0, rfl, .inl ⟨rfl, .inl ⟨rfl, rfl⟩, ?_⟩⟩
        unfold Quot
        rw [hc0, val_zero, val_zero, Int.zero_mul, Int.zero_mul]
      · rw [df hc0, bf, size_eq k h2.i64, size_eq k h4.i64]
        simp only [Option.bind_some]
        have ac := abs_lt h2.i64
        have ad := abs_lt h4.i64
        have hx0 : c'.natAbs ≠ 0 := by omega
        have hy0 : d'.natAbs ≠ 0 := by omega
        rw [gcd_loop k 64 k c'.natAbs d'.natAbs (by omega) (by simpa using ad), Option.bind_some]
        have hg0 : 0 < Nat.gcd c'.natAbs d'.natAbs := Nat.gcd_pos_of_pos_left _ (by omega)
        have hcop := Nat.coprime_div_gcd_div_gcd hg0
        have hx' : c'.natAbs = c'.natAbs / Nat.gcd c'.natAbs d'.natAbs * Nat.gcd c'.natAbs d'.natAbs := (Nat.div_mul_cancel (Nat.gcd_dvd_left _ _)).symm
        have hy' : d'.natAbs = d'.natAbs / Nat.gcd c'.natAbs d'.natAbs * Nat.gcd c'.natAbs d'.natAbs := (Nat.div_mul_cancel (Nat.gcd_dvd_right _ _)).symm
        have eg : (((Nat.gcd c'.natAbs d'.natAbs : Nat) : Int) == 0) = false := by rw [beq_eq_false_iff_ne]; omega
        simp only [eg, Bool.not_false, cond_true, td]
        have xle : c'.natAbs / Nat.gcd c'.natAbs d'.natAbs ≤ c'.natAbs := Nat.div_le_self _ _
        have yle : d'.natAbs / Nat.gcd c'.natAbs d'.natAbs ≤ d'.natAbs := Nat.div_le_self _ _
        generalize Nat.gcd c'.natAbs d'.natAbs = g at *
        obtain ⟨X, hX⟩ : ∃ X, X = c'.natAbs / g := ⟨_, rfl⟩
        obtain ⟨Y, hY⟩ : ∃ Y, Y = d'.natAbs / g := ⟨_, rfl⟩
        rw [← hX] at hcop hx' xle ⊢
        rw [← hY] at hcop hy' yle ⊢
        have hX0 : X ≠ 0 := by intro h; rw [h] at hx'; simp at hx'; omega
        have hY0 : Y ≠ 0 := by intro h; rw [h] at hy'; simp at hy'; omega
        rw [wUl (n := Y) (by omega), wUl (n := X) (by omega)]
        obtain ⟨Y1, t, a1, a2, a3, a4, a5⟩ := factors k (f := 2) (v := Y) (by omega) (by decide) hY0 (by omega)
        obtain ⟨r, v, b1, b2, b3, b4, b5⟩ := factors k (f := 5) (v := Y1) (by omega) (by decide) a4 (by
          have : Y1 * 1 ≤ Y1 * 2 ^ t := Nat.mul_le_mul_left _ (Nat.two_pow_pos t)
          omega)
        rw [show ((2 : Nat) : Int) = 2 from rfl] at a5
        rw [show ((5 : Nat) : Int) = 5 from rfl] at b5
        rw [a5, Option.bind_some]
        simp only
        rw [b5, Option.bind_some]
        simp only
        -- the equation, without signs
        have eqn : ∀ C W : Int, Canon C W → Quot (val c' e') (val d' f') (val C W) → ∃ m1 m2 : Nat, C.natAbs * Y * 10 ^ m1 = X * 10 ^ m2 := by
          intro C W hC hq
          have rC := hC.rng
          rw [quot_iff (by omega) (by omega)] at hq
          have := congrArg Int.natAbs hq
          rw [val_abs, val_abs, Int.natAbs_mul] at this
          refine ⟨(W + f' + 500000).toNat, (e' + 500000).toNat, ?_⟩
          rw [hx', hy'] at this
          have h6 : C.natAbs * Y * 10 ^ (W + f' + 500000).toNat * g = X * 10 ^ (e' + 500000).toNat * g := by
            rw [Nat.mul_right_comm _ _ g, Nat.mul_assoc C.natAbs, this, Nat.mul_right_comm]
          exact Nat.eq_of_mul_eq_mul_right hg0 h6
        by_cases hr : r = 1
        · rw [hr, dt (by rfl), Bool.not_true, bf]
          have hYY : Y = 2 ^ t * 5 ^ v := by rw [a1, b1, hr, Nat.one_mul, Nat.mul_comm]
          obtain ⟨K, hK⟩ : ∃ K : Nat, (if (v : Int) > (t : Int) then (v : Int) else (t : Int)) = (K : Int) ∧ t ≤ K ∧ v ≤ K ∧ (K = t ∨ K = v) ∧ K ≤ 64 := by
            by_cases h : v > t
            · exact ⟨v, by rw [if_pos (by omega)], by omega, by omega, .inr rfl, b3⟩
            · exact ⟨t, by rw [if_neg (by omega)], by omega, by omega, .inl rfl, a3⟩
          obtain ⟨hK1, hK2, hK3, hK4, hK5⟩ := hK
          rw [hK1]
          have hXU : X < UU := by unfold UU; omega
          obtain ⟨o1, x1, y1, l1, l2, l3⟩ := twos_l1 k (a := t) (b := K) (m := K - t) rfl (by omega) hK2 k 0 X (by omega) (by omega) hXU
          rw [wh_small (by omega), wl_small (by omega), show ((0 : Nat) : Int) = 0 from rfl] at l1
          rw [l1, Option.bind_some]
          simp only [Nat.sub_zero] at l2 l3 ⊢
          -- the number
          have hW : X * 2 ^ (K - t) * 5 ^ (K - v) * d'.natAbs = c'.natAbs * 10 ^ K := by
            rw [hy', hYY, hx', show (10 : Nat) = 2 * 5 from rfl, Nat.mul_pow]
            have p2 : 2 ^ K = 2 ^ (K - t) * 2 ^ t := by rw [← Nat.pow_add]; congr 1; omega
            have p5 : 5 ^ K = 5 ^ (K - v) * 5 ^ v := by rw [← Nat.pow_add]; congr 1; omega
            rw [p2, p5]
            simp only [Nat.mul_assoc, Nat.mul_comm, Nat.mul_left_comm]
          have hsg : ∀ w : Nat, sgn (!(decide (c' < 0) == decide (d' < 0))) w * d' = sgn (decide (c' < 0)) (w * d'.natAbs) := by
            intro w
            have h2 := sgn_x (decide (c' < 0)) (decide (d' < 0)) w d'.natAbs
            rw [sgn_self] at h2
            exact h2
          have hQ : Quot (val c' e') (val d' f') (val (sgn (!(decide (c' < 0) == decide (d' < 0))) (X * 2 ^ (K - t) * 5 ^ (K - v))) (e' - f' - K)) := by
            rw [quot_iff (by omega) (by omega), hsg, hW, sgn_mul, sgn_self, show ((10 ^ K : Nat) : Int) = (10 : Int) ^ K by simp, val_shift (by omega), show e' - f' - (K : Int) + f' + K = e' by omega]
          have hiff := quot_is (val_ne hz') hQ
          -- too great
          have big : UU ≤ X * 2 ^ (K - t) * 5 ^ (K - v) → ∃ er c x : Int, (some (30, 0, 0) : Option (Int × Int × Int)) = some (er, c, x) ∧ Tells (Quot (val c' e') (val d' f')) ((c, x), er) := by
            intro hb
            refine ⟨30, 0, 0, rfl, Tells.none fun C W hC hq => ?_⟩
            have := (hiff _).2 hq
            refine none_huge ?_ (by rw [sgn_abs]; unfold UU at hb; omega) (by omega) C W hC this
            rw [sgn_dvd]
            intro h10
            by_cases hK0 : K = 0
            · have e1 : K - t = 0 := by omega
              have e2 : K - v = 0 := by omega
              rw [e1, e2] at hb
              simp at hb
              omega
            · by_cases htv : v ≤ t
              · -- an even divisor
                have hKt : K = t := by omega
                have e1 : K - t = 0 := by omega
                rw [e1, Nat.pow_zero, Nat.mul_one] at h10
                have p5 := @pow_mod2 (K - v)
                have hXe : X % 2 = 0 := by
                  have h2 : (X * 5 ^ (K - v)) % 2 = 0 := by omega
                  rw [Nat.mul_mod, p5] at h2
                  omega
                have hYe : Y % 2 = 0 := by
                  obtain ⟨t', rfl⟩ : ∃ t', t = t' + 1 := ⟨t - 1, by omega⟩
                  rw [a1, Nat.pow_succ, ← Nat.mul_assoc]; omega
                have := Nat.dvd_gcd (Nat.dvd_of_mod_eq_zero hXe) (Nat.dvd_of_mod_eq_zero hYe)
                rw [hcop] at this
                have := Nat.le_of_dvd (by decide) this
                omega
              · have hKv : K = v := by omega
                have e1 : K - v = 0 := by omega
                rw [e1, Nat.pow_zero, Nat.mul_one] at h10
                have hX5 : X % 5 = 0 := by
                  have h5 : (2 ^ (K - t) * X) % 5 = 0 := by rw [Nat.mul_comm]; omega
                  exact dvd5 h5 pow_mod5
                have hY5 : Y % 5 = 0 := by
                  obtain ⟨v', rfl⟩ : ∃ v', v = v' + 1 := ⟨v - 1, by omega⟩
                  rw [hYY, Nat.pow_succ, ← Nat.mul_assoc]; omega
                have := Nat.dvd_gcd (Nat.dvd_of_mod_eq_zero hX5) (Nat.dvd_of_mod_eq_zero hY5)
                rw [hcop] at this
                have := Nat.le_of_dvd (by decide) this
                omega
          cases o1 with
          | false =>
            obtain ⟨k', rfl⟩ : ∃ k', k = k' + 1 := ⟨k - 1, by omega⟩
            rw [fives_false, Option.bind_some]
            simp only [Bool.not_false, cond_true]
            exact big (Nat.le_trans (l3 rfl) (Nat.le_mul_of_pos_right _ (Nat.pow_pos (by decide))))
          | true =>
            obtain ⟨u1, u2, u3⟩ := l2 rfl
            obtain ⟨o2, x2, y2, q1, q2, q3⟩ := fives_l2 k (a := v) (b := K) (m := K - v) rfl (by omega) hK3 k 0 (X * 2 ^ (K - t)) (by omega) (by omega) u1
            rw [show ((0 : Nat) : Int) = 0 from rfl] at q1
            rw [u2, u3, q1, Option.bind_some]
            simp only [Nat.sub_zero] at q2 q3 ⊢
            cases o2 with
            | false =>
              simp only [Bool.not_false, cond_true]
              exact big (q3 rfl)
            | true =>
              obtain ⟨w1, w2, w3⟩ := q2 rfl
              simp only [Bool.not_true, cond_false, Option.bind_some]
              rw [w2, w3, wi (n := e' - f') (by omega) (by omega), wi (by omega) (by omega)]
              obtain ⟨er, c2, x3, s1, s2⟩ := num_tell k (by omega) (neg := !(decide (c' < 0) == decide (d' < 0))) (e := e' - f' - K) w1 (by omega) (by omega)
              rw [s1]
              exact ⟨er, c2, x3, rfl, s2.congr hiff⟩
        · rw [df (by omega), Bool.not_false, bt]
          refine ⟨30, 0, 0, rfl, Tells.none fun C W hC hq => ?_⟩
          obtain ⟨m1, m2, h6⟩ := eqn C W hC hq
          have hYd : Y ∣ X * 10 ^ m2 := ⟨C.natAbs * 10 ^ m1, by rw [← h6, Nat.mul_left_comm, Nat.mul_assoc]⟩
          have hY10 : Y ∣ 10 ^ m2 := hcop.symm.dvd_of_dvd_mul_left hYd
          have hrY : r ∣ Y := ⟨5 ^ v * 2 ^ t, by rw [a1, b1, Nat.mul_assoc]⟩
          have hr2 : r % 2 ≠ 0 := by
            intro h
            apply a2
            rw [b1, Nat.mul_mod, h]; simp
          exact hr ((cop10 hr2 b2 m2).eq_one_of_dvd (Nat.dvd_trans hrY hY10))
  · rw [if_neg hR] at hcl ⊢
    obtain ⟨r, h1⟩ := hcl
    rw [h1]
    rfl
end Go.Proofs.Ytdbeblgfccjbgaa.W
namespace Go.Proofs.Ytdbeblgfccjbgaa.W
open Go Go.Q Go.Proofs Go.Dz
set_option linter.unusedVariables false
set_option linter.unusedSimpArgs false
theorem left_l0 (k : Nat) (hk : 3 ≤ k) {x y : Nat} {e f : Int} (hy : y < 18446744073709551616) (hy0 : y ≠ 0) {m : Nat} (hm : e - f = m) (hm' : m ≤ 1000) : ∀ (n i : Nat), i ≤ m → m - i < n →
    g_dec_left_l0 k e (y : Int) f n ((x * 10 ^ i % y : Nat) : Int) (i : Int) = some ((x * 10 ^ m % y : Nat) : Int) := by
  intro n
  induction n with
  | zero => intro i _ h; omega
  | succ n ih =>
    intro i hi hn
    rw [g_dec_left_l0.eq_2, hm, wi (n := (m : Int)) (by omega) (by omega), Option.bind_some]
    have hr : x * 10 ^ i % y < y := Nat.mod_lt _ (by omega)
    by_cases him : i < m
    · have e0 : ((y : Int) == 0) = false := by rw [beq_eq_false_iff_ne]; omega
      have m1 := mul64 k (x := x * 10 ^ i % y) (y := 10) (by omega) (by decide)
      rw [show ((10 : Nat) : Int) = 10 from rfl] at m1
      rw [dt (by omega), bt, m1, Option.bind_some, e0, Bool.not_false, bt, tm, show ((x * 10 ^ i % y : Nat) : Int) * 10 = ((x * 10 ^ i % y * 10 : Nat) : Int) by simp, wU]
      rw [div64 k hk (Nat.mod_lt _ (by decide)) hy (Nat.mod_lt _ (by omega)), Option.bind_some, wi (by omega) (by omega), show ((i : Int) + 1) = ((i + 1 : Nat) : Int) by omega]
      have hv : (x * 10 ^ i % y * 10 / 18446744073709551616 % y * 18446744073709551616 + x * 10 ^ i % y * 10 % 18446744073709551616) % y = x * 10 ^ (i + 1) % y := by
        have e1 : (x * 10 ^ i % y * 10) % y = x * 10 ^ (i + 1) % y := by
          rw [Nat.mod_mul_mod, Nat.pow_succ, Nat.mul_assoc]
        rw [← e1]
        generalize x * 10 ^ i % y * 10 = z at *
        conv => rhs; rw [← Nat.div_add_mod' z 18446744073709551616]
        rw [Nat.add_mod, Nat.mod_mul_mod, ← Nat.add_mod]
      simp only
      rw [hv]
      exact ih (i + 1) (by omega) (by omega)
    · rw [df (by omega), bf]
      congr 3
      have : i = m := by omega
      rw [this]
theorem sgn_le {neg : Bool} {w n : Nat} (h : w ≤ n) (hn : I64 (sgn neg n)) : I64 (sgn neg w) := by
  unfold I64 at *
  cases neg <;> simp [sgn] at hn ⊢ <;> omega
theorem left (k : Nat) (hk : 60 ≤ k) {c e d f : Int} (hc : Canon c e) (hd : Canon d f) (hd0 : d ≠ 0) : ∃ (w : Nat) (E : Int), g_dec_left k (decide (c < 0)) 0 ((c.natAbs : Nat) : Int) e (decide (d < 0)) 0 ((d.natAbs : Nat) : Int) f = some (0, (w : Int), E) ∧ w < 18446744073709551616 ∧ I64 (sgn (decide (c < 0)) w) ∧ Rng E ∧
    w * 10 ^ (E + 500000).toNat = (val c e).natAbs % (val d f).natAbs := by
  unfold g_dec_left
  have ac := abs_lt hc.i64
  have ad := abs_lt hd.i64
  have re := hc.rng
  have rf := hd.rng
  have e0 : (((d.natAbs : Nat) : Int) == 0) = false := by rw [beq_eq_false_iff_ne]; omega
  by_cases hfe : f ≤ e
  · rw [dt hfe, bt, e0, Bool.not_false, bt, tm]
    obtain ⟨m, hm⟩ : ∃ m : Nat, e - f = (m : Int) := ⟨(e - f).toNat, by omega⟩
    have := left_l0 k (by omega) (x := c.natAbs) ad (by omega) hm (by omega) k 0 (by omega) (by omega)
    rw [Nat.pow_zero, Nat.mul_one, show ((0 : Nat) : Int) = 0 from rfl] at this
    rw [this]
    have hr : c.natAbs * 10 ^ m % d.natAbs < d.natAbs := Nat.mod_lt _ (by omega)
    refine ⟨_, f, rfl, by omega, ?_, hd.rg, ?_⟩
    · unfold I64 sgn; split <;> omega
    · rw [val_abs, val_abs, show (e + 500000).toNat = m + (f + 500000).toNat by omega, Nat.pow_add, ← Nat.mul_assoc, Nat.mul_mod_mul_right]
  · rw [df hfe, bf]
    obtain ⟨m, hm⟩ : ∃ m : Nat, f - e = (m : Int) := ⟨(f - e).toNat, by omega⟩
    rw [wi (by omega) (by omega), hm]
    obtain ⟨b, x, y, t1, t2, t3⟩ := wide_tens k (v := d.natAbs) (m := m) (by unfold UU; omega) (by omega) (by omega)
    rw [wh_small ad, wl_small ad] at t1
    rw [t1, Option.bind_some]
    simp only
    have hB : (val d f).natAbs = d.natAbs * 10 ^ m * 10 ^ (e + 500000).toNat := by
      rw [val_abs, show (f + 500000).toNat = m + (e + 500000).toNat by omega, Nat.pow_add, Nat.mul_assoc]
    have hA : (val c e).natAbs = c.natAbs * 10 ^ (e + 500000).toNat := val_abs
    have self : I64 (sgn (decide (c < 0)) c.natAbs) := by rw [sgn_self]; exact hc.i64
    rw [hA, hB, Nat.mul_mod_mul_right]
    have ret : c.natAbs < d.natAbs * 10 ^ m → ∃ (w : Nat) (E : Int), (some (0, ((c.natAbs : Nat) : Int), e) : Option (Int × Int × Int)) = some (0, (w : Int), E) ∧ w < 18446744073709551616 ∧ I64 (sgn (decide (c < 0)) w) ∧ Rng E ∧ w * 10 ^ (E + 500000).toNat = c.natAbs % (d.natAbs * 10 ^ m) * 10 ^ (e + 500000).toNat := by
      intro h
      exact ⟨c.natAbs, e, rfl, ac, self, hc.rg, by rw [Nat.mod_eq_of_lt h]⟩
    cases b with
    | false =>
      simp only [Bool.not_false, cond_true, Option.bind_some]
      exact ret (by have := t3 rfl; unfold UU at this; omega)
    | true =>
      obtain ⟨u1, u2, u3⟩ := t2 rfl
      simp only [Bool.not_true, cond_false]
      have hcm := wide_cmp k (v := d.natAbs * 10 ^ m) (w := c.natAbs) u1 (by unfold UU; omega)
      rw [wh_small ac, wl_small ac] at hcm
      rw [u2, u3, hcm, Option.bind_some, Option.bind_some]
      have hpos : (0 < cmpN (d.natAbs * 10 ^ m) c.natAbs) ↔ c.natAbs < d.natAbs * 10 ^ m := by
        unfold cmpN
        by_cases h1 : d.natAbs * 10 ^ m = c.natAbs
        · rw [if_pos h1]; omega
        · rw [if_neg h1]
          by_cases h2 : d.natAbs * 10 ^ m < c.natAbs
          · rw [if_pos h2]; omega
          · rw [if_neg h2]; omega
      by_cases hlt : c.natAbs < d.natAbs * 10 ^ m
      · rw [dt (hpos.2 hlt), bt]
        exact ret hlt
      · rw [df (fun h => hlt (hpos.1 h)), bf, wl_small (show d.natAbs * 10 ^ m < 18446744073709551616 by omega)]
        have hne : d.natAbs * 10 ^ m ≠ 0 := Nat.ne_of_gt (Nat.mul_pos (by omega) (Nat.pow_pos (by decide)))
        have e2 : (((d.natAbs * 10 ^ m : Nat) : Int) == 0) = false := by rw [beq_eq_false_iff_ne]; omega
        rw [e2, Bool.not_false, bt, tm]
        have hle : c.natAbs % (d.natAbs * 10 ^ m) ≤ c.natAbs := Nat.mod_le _ _
        refine ⟨_, e, rfl, by omega, ?_, hc.rg, rfl⟩
        exact sgn_le hle self
end Go.Proofs.Ytdbeblgfccjbgaa.W
namespace Go.Proofs.Ytdbeblgfccjbgaa.W
open Go Go.Q Go.Proofs Go.Dz
set_option linter.unusedVariables false
set_option linter.unusedSimpArgs false
/-- The whole number that a number is, where it is one of at most 2 to the 53. -/
def Whole (V : Int) (r : Int × Bool) : Prop := (r.1.natAbs ≤ 9007199254740992 ∧ r.2 = true ∧ V = val r.1 0) ∨ (r = (0, false) ∧ ∀ n : Int, n.natAbs ≤ 9007199254740992 → V ≠ val n 0)
theorem Whole.uniq {V : Int} {r s : Int × Bool} (h : Whole V r) (k : Whole V s) : r = s := by
  obtain ⟨a, b⟩ := r
  obtain ⟨c, d⟩ := s
  rcases h with ⟨h1, h2, h3⟩ | ⟨h1, h2⟩ <;> rcases k with ⟨k1, k2, k3⟩ | ⟨k1, k2⟩
  · simp only at *
    rw [h3] at k3
    rw [val_inj k3, h2, k2]
  · exact absurd h3 (k2 _ h1)
  · exact absurd k3 (h2 _ k1)
  · rw [h1, k1]
/-- An answer of Int. -/
def SpI (R : Prop) [Decidable R] (V : Int) (g : Option (Int × Bool)) : Prop := if R then ∃ n b, g = some (n, b) ∧ Whole V (n, b) else g = some (0, false)
theorem SpI.eq {R : Prop} [Decidable R] {V : Int} {g g' : Option (Int × Bool)} (h : SpI R V g) (k : SpI R V g') : ∃ r, g = some r ∧ g' = some r := by
  unfold SpI at *
  by_cases hR : R
  · rw [if_pos hR] at h k
    obtain ⟨n, b, h1, h2⟩ := h
    obtain ⟨m, c, h3, h4⟩ := k
    have := h2.uniq h4
    exact ⟨_, h1, this ▸ h3⟩
  · rw [if_neg hR] at h k
    exact ⟨_, h, k⟩
end Go.Proofs.Ytdbeblgfccjbgaa.W
namespace Go.Proofs.Ytdbeblgfccjbgaa.W
open Go Go.Q Go.Proofs Go.Dz
set_option linter.unusedVariables false
set_option linter.unusedSimpArgs false
theorem ipow_ne {m : Int} {i : Nat} (h : m ≠ 0) : m ^ i ≠ 0 := by
  induction i with
  | zero => simp
  | succ i ih =>
    rw [Int.pow_succ]
    intro k
    rcases Int.mul_eq_zero.1 k with k | k
    · exact ih k
    · exact h k
/-- A power. -/
def pv (c e : Int) (n : Nat) : Int := val (c ^ n) (e * n)
theorem pv_zero {c e : Int} : pv c e 0 = val 1 0 := by unfold pv; simp
theorem pv_succ_mul {c e : Int} {n : Nat} (he : -2000 ≤ e) (hn : -200000 ≤ e * n) : val (c ^ n) (e * n) * val c e = pv c e (n + 1) * 10 ^ 500000 := by
  unfold pv
  rw [val_mul (by omega) (by omega), ← Int.pow_succ]
  congr 2
  rw [Int.natCast_add, Int.mul_add]; simp
theorem pv_congr {c e c' e' : Int} (he : -18 ≤ e ∧ e ≤ 18) (he' : -18 ≤ e' ∧ e' ≤ 18) (h : val c' e' = val c e) : ∀ n, n ≤ 100 → pv c' e' n = pv c e n := by
  intro n
  induction n with
  | zero => intro _; rw [pv_zero, pv_zero]
  | succ n ih =>
    intro hn
    have i1 := ih (by omega)
    have b1 : -18 * (100 : Int) ≤ e * (n : Int) := by
      have := Int.mul_le_mul_of_nonneg_right he.1 (show (0 : Int) ≤ n by omega); omega
    have b2 : -18 * (100 : Int) ≤ e' * (n : Int) := by
      have := Int.mul_le_mul_of_nonneg_right he'.1 (show (0 : Int) ≤ n by omega); omega
    have a1 := pv_succ_mul (c := c) (e := e) (n := n) (by omega) (by omega)
    have a2 := pv_succ_mul (c := c') (e := e') (n := n) (by omega) (by omega)
    rw [h] at a2
    unfold pv at i1
    rw [i1, a1] at a2
    exact (Int.eq_of_mul_eq_mul_right (Int.ne_of_gt ten_pos) a2).symm
end Go.Proofs.Ytdbeblgfccjbgaa.W
namespace Go.Proofs.Ytdbeblgfccjbgaa.W
open Go Go.Q Go.Proofs Go.Dz
set_option linter.unusedVariables false
set_option linter.unusedSimpArgs false
/-- What a power by a whole number is. -/
def IsPow (c e n V : Int) : Prop := if 0 ≤ n then V = pv c e n.toNat else V * pv c e (-n).toNat = val 1 0 * 10 ^ 500000
theorem pv_ne {c e : Int} {n : Nat} (h : c ≠ 0) : pv c e n ≠ 0 := val_ne (ipow_ne h)
theorem isPow_fun {c e n : Int} (h : c ≠ 0 ∨ 0 ≤ n) : ∀ a b, IsPow c e n a → IsPow c e n b → a = b := by
  intro a b ha hb
  unfold IsPow at *
  by_cases hn : 0 ≤ n
  · rw [if_pos hn] at ha hb; rw [ha, hb]
  · rw [if_neg hn] at ha hb
    exact Int.eq_of_mul_eq_mul_right (pv_ne (h.resolve_right hn)) (ha.trans hb.symm)
def PowAns (c e : Int) (r : Int × Bool) (g : Option (Int × Int × Int)) : Prop :=
  if r.2 = false ∨ r.1 < -64 ∨ 64 < r.1 then g = some (30, 0, 0) else if c = 0 ∧ r.1 < 0 then g = some (31, 0, 0) else ∃ er C X : Int, g = some (er, C, X) ∧ Tells (IsPow c e r.1) ((C, X), er)
theorem PowAns.eq {c e : Int} {r : Int × Bool} {g g' : Option (Int × Int × Int)} (h : PowAns c e r g) (h' : PowAns c e r g') : ∃ s, g = some s ∧ g' = some s := by
  unfold PowAns at *
  by_cases h1 : r.2 = false ∨ r.1 < -64 ∨ 64 < r.1
  · rw [if_pos h1] at h h'; exact ⟨_, h, h'⟩
  · rw [if_neg h1] at h h'
    by_cases h2 : c = 0 ∧ r.1 < 0
    · rw [if_pos h2] at h h'; exact ⟨_, h, h'⟩
    · rw [if_neg h2] at h h'
      obtain ⟨er, C, X, k1, k2⟩ := h
      obtain ⟨er', C', X', k3, k4⟩ := h'
      have := Tells.uniq (isPow_fun (by omega)) k2 k4
      simp only [Prod.mk.injEq] at this
      obtain ⟨⟨rfl, rfl⟩, rfl⟩ := this
      exact ⟨_, k1, k3⟩
theorem PowAns.congr {c e c' e' : Int} {r : Int × Bool} {g : Option (Int × Int × Int)} (he : -18 ≤ e ∧ e ≤ 18) (he' : -18 ≤ e' ∧ e' ≤ 18) (hv : val c' e' = val c e) (h : PowAns c' e' r g) : PowAns c e r g := by
  unfold PowAns at *
  have h0 : c' = 0 ↔ c = 0 := by
    constructor
    · intro h; rw [h, val_zero] at hv; exact val_eq_zero hv.symm
    · intro h; rw [h, val_zero] at hv; exact val_eq_zero hv
  by_cases h1 : r.2 = false ∨ r.1 < -64 ∨ 64 < r.1
  · rwa [if_pos h1] at h ⊢
  · rw [if_neg h1] at h ⊢
    simp only [h0] at h
    by_cases h2 : c = 0 ∧ r.1 < 0
    · rwa [if_pos h2] at h ⊢
    · rw [if_neg h2] at h ⊢
      obtain ⟨er, C, X, k1, k2⟩ := h
      refine ⟨er, C, X, k1, k2.congr fun a => ?_⟩
      unfold IsPow
      rw [pv_congr he he' hv _ (by omega), pv_congr he he' hv _ (by omega)]
end Go.Proofs.Ytdbeblgfccjbgaa.W
namespace Go.Proofs.Ytdbeblgfccjbgaa.W
open Go Go.Q Go.Proofs Go.Dz
set_option linter.unusedVariables false
set_option linter.unusedSimpArgs false
end Go.Proofs.Ytdbeblgfccjbgaa.W
namespace Go.Proofs.Ytdbeblgfccjbgaa.W
open Go Go.Q Go.Proofs Go.Dz
set_option linter.unusedVariables false
set_option linter.unusedSimpArgs false
def cmpI (A B : Int) : Int := if A = B then 0 else if A < B then -1 else 1
theorem cmpI_self {A : Int} : cmpI A A = 0 := by unfold cmpI; rw [if_pos rfl]
theorem cmpI_rng {A B : Int} : -1 ≤ cmpI A B ∧ cmpI A B ≤ 1 := by
  unfold cmpI; split
  · omega
  · split <;> omega
theorem cmpI_le {A B : Int} : cmpI A B ≤ 0 ↔ A ≤ B := by
  unfold cmpI
  by_cases h : A = B
  · rw [if_pos h]; omega
  · rw [if_neg h]; by_cases h2 : A < B
    · rw [if_pos h2]; omega
    · rw [if_neg h2]; omega
theorem cmpI_lt {A B : Int} : cmpI A B < 0 ↔ A < B := by
  unfold cmpI
  by_cases h : A = B
  · rw [if_pos h]; omega
  · rw [if_neg h]; by_cases h2 : A < B
    · rw [if_pos h2]; omega
    · rw [if_neg h2]; omega
theorem cmpI_zero {A B : Int} : cmpI A B = 0 ↔ A = B := by
  unfold cmpI
  by_cases h : A = B
  · rw [if_pos h]; simp [h]
  · rw [if_neg h]; by_cases h2 : A < B
    · rw [if_pos h2]; omega
    · rw [if_neg h2]; omega
theorem digits_l0 (k : Nat) : ∀ (m n v c : Nat), (digs v).length = m → m < n → c + m ≤ 1000 → v < 18446744073709551616 → g_dec_digits_l0 k n (v : Int) (c : Int) = some ((c + m : Nat) : Int) := by
  intro m
  induction m with
  | zero =>
    intro n v c hl hn hc hv
    obtain ⟨n, rfl⟩ : ∃ n', n = n' + 1 := ⟨n - 1, by omega⟩
    have : v = 0 := digs_len0.1 hl
    subst this
    rw [g_dec_digits_l0.eq_2, df (by omega)]; rfl
  | succ m ih =>
    intro n v c hl hn hc hv
    obtain ⟨n, rfl⟩ : ∃ n', n = n' + 1 := ⟨n - 1, by omega⟩
    have h0 : v ≠ 0 := by intro h; rw [h, digs_zero] at hl; simp at hl
    rw [digs_pos h0, List.length_cons] at hl
    rw [g_dec_digits_l0.eq_2, dt (by omega), bt, show (10 : Int) = ((10 : Nat) : Int) from rfl, td, wUl (by omega), wi (by omega) (by omega), show ((c : Int) + 1) = ((c + 1 : Nat) : Int) by omega]
    rw [ih n (v / 10) (c + 1) (by omega) (by omega) (by omega) (by omega)]
    congr 2
    omega
theorem digits (k : Nat) (hk : 100 ≤ k) {v : Nat} (hv : v < 18446744073709551616) : g_dec_digits k (v : Int) = some (((digs v).length : Nat) : Int) := by
  unfold g_dec_digits
  have hl : (digs v).length ≤ 20 := digs_len_le (by omega)
  have := digits_l0 k (digs v).length k v 0 rfl (by omega) (by omega) hv
  rw [show ((0 : Nat) : Int) = 0 from rfl, Nat.zero_add] at this
  rw [this]; rfl
theorem sign_eq (k : Nat) {c e : Int} : g_dec_sign k c e = some (cmpI c 0) := by
  unfold g_dec_sign cmpI
  simp only [bd]
  by_cases h : c < 0
  · rw [if_pos h, if_neg (by omega), if_pos h]
  · rw [if_neg h]
    by_cases h2 : 0 < c
    · rw [if_pos h2, if_neg (by omega), if_neg h]
    · rw [if_neg h2, if_pos (by omega)]
theorem cmp_val {c d g : Int} : cmpI (val c g) (val d g) = cmpI c d := by
  unfold cmpI
  by_cases h : c = d
  · rw [if_pos h, if_pos (by rw [h])]
  · rw [if_neg h, if_neg (fun k => h (val_inj k))]
    by_cases h2 : c < d
    · rw [if_pos h2, if_pos (val_lt.2 h2)]
    · rw [if_neg h2, if_neg (fun k => h2 (val_lt.1 k))]
theorem val_sign {c e : Int} : cmpI (val c e) 0 = cmpI c 0 := by
  have := @cmp_val c 0 e
  rwa [val_zero] at this
theorem clamp {x : Int} (h : -1000000 ≤ x ∧ x ≤ 1000000) : (if (1 : Int) < (if (-1 : Int) > x then (-1 : Int) else x) then (1 : Int) else (if (-1 : Int) > x then (-1 : Int) else x)) = cmpI x 0 := by
  unfold cmpI
  by_cases h2 : (-1 : Int) > x
  · simp only [if_pos h2]
    rw [if_neg (by omega), if_neg (by omega), if_pos (by omega)]
  · simp only [if_neg h2]
    by_cases h3 : (1 : Int) < x
    · rw [if_pos h3, if_neg (by omega), if_neg (by omega)]
    · rw [if_neg h3]
      by_cases h4 : x = 0
      · rw [if_pos h4]; exact h4
      · rw [if_neg h4]
        by_cases h5 : x < 0
        · rw [if_pos h5]; omega
        · rw [if_neg h5]; omega
/-- The order of numbers of one sign, by their sizes. -/
theorem cmp_size {A B : Int} {s : Int} (hA : cmpI A 0 = s) (hB : cmpI B 0 = s) (h0 : s ≠ 0) : cmpI A B = s * cmpI A.natAbs B.natAbs := by
  have a1 := @cmpI_lt A 0
  have b1 := @cmpI_lt B 0
  have a0 := @cmpI_zero A 0
  have b0 := @cmpI_zero B 0
  have ar := @cmpI_rng A 0
  have e1 := @cmpI_lt A B
  have e0 := @cmpI_zero A B
  have er := @cmpI_rng A B
  have f1 := @cmpI_lt (A.natAbs : Int) (B.natAbs : Int)
  have f0 := @cmpI_zero (A.natAbs : Int) (B.natAbs : Int)
  have fr := @cmpI_rng (A.natAbs : Int) (B.natAbs : Int)
  generalize cmpI A 0 = p at *
  generalize cmpI B 0 = q at *
  generalize cmpI A B = r at *
  generalize cmpI (A.natAbs : Int) (B.natAbs : Int) = t at *
  rcases (by omega : s = 1 ∨ s = -1) with h | h
  · rw [h, Int.one_mul]; omega
  · rw [h]; omega
theorem cmpN_I {a b : Nat} : cmpN a b = cmpI (a : Int) (b : Int) := by
  unfold cmpN cmpI
  by_cases h : a = b
  · rw [if_pos h, if_pos (show (a : Int) = b by omega)]
  · rw [if_neg h, if_neg (show ¬ (a : Int) = b by omega)]
    by_cases h2 : a < b
    · rw [if_pos h2, if_pos (show (a : Int) < b by omega)]
    · rw [if_neg h2, if_neg (show ¬ (a : Int) < b by omega)]
theorem size_gt {c e d f : Int} (hc : c ≠ 0) (he : -200000 ≤ e) (hf : -200000 ≤ f) (h : ((digs d.natAbs).length : Int) + f < (digs c.natAbs).length + e) : (val d f).natAbs < (val c e).natAbs := by
  rw [val_abs, val_abs]
  have h1 := digs_ge (n := c.natAbs) (by omega)
  have h2 := digs_lt (n := d.natAbs)
  have hp := len_pos (n := c.natAbs) (by omega)
  have a1 : d.natAbs * 10 ^ (f + 500000).toNat < 10 ^ (digs d.natAbs).length * 10 ^ (f + 500000).toNat := Nat.mul_lt_mul_of_pos_right h2 (Nat.pow_pos (by decide))
  have a2 : 10 ^ ((digs c.natAbs).length - 1) * 10 ^ (e + 500000).toNat ≤ c.natAbs * 10 ^ (e + 500000).toNat := Nat.mul_le_mul_right _ h1
  rw [← Nat.pow_add] at a1 a2
  have a3 : 10 ^ ((digs d.natAbs).length + (f + 500000).toNat) ≤ 10 ^ ((digs c.natAbs).length - 1 + (e + 500000).toNat) := Nat.pow_le_pow_right (by decide) (by omega)
  exact Nat.lt_of_lt_of_le a1 (Nat.le_trans a3 a2)
theorem dec_Cmp (k : Nat) (hk : 100 ≤ k) {c e d f : Int} (hc : I64 c) (hd : I64 d) : g_dec_Cmp k c e d f = some (if Rng e ∧ Rng f then cmpI (val c e) (val d f) else 0) := by
  unfold g_dec_Cmp
  have hcl := clean k (by omega) (e := e) (f := f) hc hd
  by_cases hR : Rng e ∧ Rng f
  · rw [if_pos hR] at hcl ⊢
    obtain ⟨c', e', d', f', h1, h2, h3, h4, h5⟩ := hcl
    rw [h1, ← h3, ← h5]
    simp only [Option.bind_some, Bool.not_true, cond_false]
    rw [sign_eq, sign_eq]
    simp only [Option.bind_some]
    have r1 := @cmpI_rng c' 0
    have r2 := @cmpI_rng d' 0
    have re := h2.rng
    have rf := h4.rng
    have ac := abs_lt h2.i64
    have ad := abs_lt h4.i64
    have s1 := @val_sign c' e'
    have s2 := @val_sign d' f'
    have l1 := @cmpI_lt c' 0
    have l2 := @cmpI_lt d' 0
    have z1 := @cmpI_zero c' 0
    have z2 := @cmpI_zero d' 0
    by_cases hst : cmpI c' 0 = cmpI d' 0
    · rw [dt hst, Bool.not_true, bf, Option.bind_some]
      by_cases h0 : cmpI c' 0 = 0
      · rw [dt h0, bt, wi (by omega) (by omega), clamp (by omega)]
        congr 1
        have : c' = 0 := z1.1 h0
        have hd0 : d' = 0 := z2.1 (by omega)
        rw [this, hd0, val_zero, val_zero, cmpI_self]; rfl
      · rw [df h0, bf, size_eq k h2.i64, size_eq k h4.i64]
        simp only [Option.bind_some]
        rw [digits k hk ac, digits k hk ad]
        simp only [Option.bind_some]
        have n1 : (digs c'.natAbs).length ≤ 20 := digs_len_le (by omega)
        have n2 : (digs d'.natAbs).length ≤ 20 := digs_len_le (by omega)
        rw [wi (n := (((digs c'.natAbs).length : Nat) : Int) + e') (by omega) (by omega), wi (n := (((digs d'.natAbs).length : Nat) : Int) + f') (by omega) (by omega)]
        have hc0 : c' ≠ 0 := fun h => h0 (z1.2 h)
        have hd0 : d' ≠ 0 := fun h => h0 (by rw [hst]; exact z2.2 h)
        have hcs := cmp_size (A := val c' e') (B := val d' f') s1 (by rw [s2, ← hst]) h0
        rw [hcs]
        by_cases hpq : (((digs c'.natAbs).length : Nat) : Int) + e' = (((digs d'.natAbs).length : Nat) : Int) + f'
        · rw [dt hpq, Bool.not_true, bf]
          rcases even k (by omega) h2 h4 with ⟨X, Y, g, g1, g2⟩ | ⟨r, g1, hne, _, _, b1, b2, _⟩
          · rw [g1]
            simp only [Option.bind_some]
            rw [wide_cmp k g2.hx g2.hy, Option.bind_some]
            have hr : -1 ≤ cmpN X Y ∧ cmpN X Y ≤ 1 := by rw [cmpN_I]; exact cmpI_rng
            have hsz : cmpI ((val c' e').natAbs : Int) ((val d' f').natAbs : Int) = cmpN X Y := by
              rw [← g2.vx, ← g2.vy, val_abs, val_abs, sgn_abs, sgn_abs, cmpN_I]
              have := @cmp_val (X : Int) (Y : Int) g
              unfold val at this
              rw [← this]
              simp
            rw [hsz]
            generalize cmpN X Y = t at *
            generalize cmpI c' 0 = s at *
            congr 1
            rw [wi]
            · rcases (by omega : s = -1 ∨ s = 0 ∨ s = 1) with rfl | rfl | rfl <;> omega
            · rcases (by omega : s = -1 ∨ s = 0 ∨ s = 1) with rfl | rfl | rfl <;> omega
          · exfalso
            have h1' := digs_lt (n := c'.natAbs)
            have h2' := digs_lt (n := d'.natAbs)
            have p20 : (10 : Nat) ^ 20 = 100000000000000000000 := by decide
            rcases (by omega : f' < e' ∨ e' < f') with hlt | hlt
            · have b := b1 hlt
              have : c'.natAbs * 10 ^ (e' - f').toNat < 10 ^ (digs c'.natAbs).length * 10 ^ (e' - f').toNat := Nat.mul_lt_mul_of_pos_right h1' (Nat.pow_pos (by decide))
              rw [← Nat.pow_add] at this
              have h3' : 10 ^ ((digs c'.natAbs).length + (e' - f').toNat) ≤ 10 ^ 20 := Nat.pow_le_pow_right (by decide) (by omega)
              unfold UU at b
              omega
            · have b := b2 hlt
              have : d'.natAbs * 10 ^ (f' - e').toNat < 10 ^ (digs d'.natAbs).length * 10 ^ (f' - e').toNat := Nat.mul_lt_mul_of_pos_right h2' (Nat.pow_pos (by decide))
              rw [← Nat.pow_add] at this
              have h3' : 10 ^ ((digs d'.natAbs).length + (f' - e').toNat) ≤ 10 ^ 20 := Nat.pow_le_pow_right (by decide) (by omega)
              unfold UU at b
              omega
        · rw [df hpq, Bool.not_false, bt, wi (n := (((digs c'.natAbs).length : Nat) : Int) + e' - ((((digs d'.natAbs).length : Nat) : Int) + f')) (by omega) (by omega), clamp (by omega)]
          congr 1
          have hsz : cmpI ((val c' e').natAbs : Int) ((val d' f').natAbs : Int) = cmpI ((((digs c'.natAbs).length : Nat) : Int) + e' - ((((digs d'.natAbs).length : Nat) : Int) + f')) 0 := by
            by_cases hgt : (((digs d'.natAbs).length : Nat) : Int) + f' < (((digs c'.natAbs).length : Nat) : Int) + e'
            · have := size_gt hc0 (by omega) (by omega) hgt
              have x1 := @cmpI_le ((val c' e').natAbs : Int) ((val d' f').natAbs : Int)
              have x2 := @cmpI_rng ((val c' e').natAbs : Int) ((val d' f').natAbs : Int)
              have y1 := @cmpI_le ((((digs c'.natAbs).length : Nat) : Int) + e' - ((((digs d'.natAbs).length : Nat) : Int) + f')) 0
              have y2 := @cmpI_rng ((((digs c'.natAbs).length : Nat) : Int) + e' - ((((digs d'.natAbs).length : Nat) : Int) + f')) 0
              omega
            · have := size_gt (c := d') (e := f') (d := c') (f := e') hd0 (by omega) (by omega) (by omega)
              have x1 := @cmpI_lt ((val c' e').natAbs : Int) ((val d' f').natAbs : Int)
              have x2 := @cmpI_rng ((val c' e').natAbs : Int) ((val d' f').natAbs : Int)
              have y1 := @cmpI_lt ((((digs c'.natAbs).length : Nat) : Int) + e' - ((((digs d'.natAbs).length : Nat) : Int) + f')) 0
              have y2 := @cmpI_rng ((((digs c'.natAbs).length : Nat) : Int) + e' - ((((digs d'.natAbs).length : Nat) : Int) + f')) 0
              omega
          rw [hsz]
          have hr := @cmpI_rng ((((digs c'.natAbs).length : Nat) : Int) + e' - ((((digs d'.natAbs).length : Nat) : Int) + f')) 0
          generalize cmpI ((((digs c'.natAbs).length : Nat) : Int) + e' - ((((digs d'.natAbs).length : Nat) : Int) + f')) 0 = t at *
          generalize cmpI c' 0 = s at *
          rw [wi]
          · rcases (by omega : s = -1 ∨ s = 0 ∨ s = 1) with rfl | rfl | rfl <;> omega
          · rcases (by omega : s = -1 ∨ s = 0 ∨ s = 1) with rfl | rfl | rfl <;> omega
    · rw [df hst, Bool.not_false, bt, Option.bind_some, bt, wi (by omega) (by omega), clamp (by omega)]
      congr 1
      have v1 := @cmpI_lt (val c' e') 0
      have v2 := @cmpI_lt (val d' f') 0
      have v3 := @cmpI_zero (val c' e') 0
      have v4 := @cmpI_zero (val d' f') 0
      rw [s1] at v1 v3
      rw [s2] at v2 v4
      have w1 := @cmpI_lt (cmpI c' 0 - cmpI d' 0) 0
      have w2 := @cmpI_zero (cmpI c' 0 - cmpI d' 0) 0
      have w3 := @cmpI_rng (cmpI c' 0 - cmpI d' 0) 0
      have u1 := @cmpI_lt (val c' e') (val d' f')
      have u2 := @cmpI_zero (val c' e') (val d' f')
      have u3 := @cmpI_rng (val c' e') (val d' f')
      omega
  · rw [if_neg hR] at hcl ⊢
    obtain ⟨r, h1⟩ := hcl
    rw [h1]
    rfl
end Go.Proofs.Ytdbeblgfccjbgaa.W
namespace Go.Proofs.Ytdbeblgfccjbgaa.W
open Go Go.Q Go.Proofs Go.Dz
set_option linter.unusedVariables false
set_option linter.unusedSimpArgs false
theorem cut (k : Nat) (hk : 2000 ≤ k) {c : Int} {m : Nat} (hc : I64 c) (hm : m ≤ 1000) : ∃ q r p : Nat, g_dec_cut k c (m : Int) = some ((q : Int), (r : Int), (p : Int)) ∧ p < 18446744073709551616 ∧ r < 18446744073709551616 ∧ q ≤ 9223372036854775808 ∧ (p = 0 → q = 0 ∧ 18446744073709551616 ≤ 10 ^ m) ∧ (0 < p → p = 10 ^ m ∧ q = c.natAbs / p ∧ r = c.natAbs % p) := by
  unfold g_dec_cut
  obtain ⟨b, x, y, t1, t2, t3⟩ := wide_tens k (v := 1) (m := m) (by decide) (by omega) (by omega)
  rw [wh_small (by decide), wl_small (by decide), show ((1 : Nat) : Int) = 1 from rfl] at t1
  rw [t1, Option.bind_some]
  simp only [Nat.one_mul] at t2 t3 ⊢
  have ac := abs_lt hc
  have ac' : c.natAbs ≤ 9223372036854775808 := by unfold I64 at hc; omega
  rw [size_eq k hc]
  simp only [Option.bind_some]
  have none : 18446744073709551616 ≤ 10 ^ m → ∃ q r p : Nat, (some (0, ((c.natAbs : Nat) : Int), 0) : Option (Int × Int × Int)) = some ((q : Int), (r : Int), (p : Int)) ∧ p < 18446744073709551616 ∧ r < 18446744073709551616 ∧ q ≤ 9223372036854775808 ∧ (p = 0 → q = 0 ∧ 18446744073709551616 ≤ 10 ^ m) ∧ (0 < p → p = 10 ^ m ∧ q = c.natAbs / p ∧ r = c.natAbs % p) := fun h =>
    ⟨0, c.natAbs, 0, rfl, by decide, ac, by omega, fun _ => ⟨rfl, h⟩, fun h => by omega⟩
  cases b with
  | false =>
    simp only [Bool.not_false, cond_true, Option.bind_some]
    exact none (by have := t3 rfl; unfold UU at this; omega)
  | true =>
    obtain ⟨u1, u2, u3⟩ := t2 rfl
    simp only [Bool.not_true, cond_false, Option.bind_some]
    rw [u2, u3]
    by_cases hU : 10 ^ m < 18446744073709551616
    · have hp := Nat.pow_pos (n := m) (show 0 < 10 by decide)
      have e0 : (((10 ^ m : Nat) : Int) == 0) = false := by rw [beq_eq_false_iff_ne]; omega
      rw [wh_small hU, wl_small hU, df (by omega), bf, e0, Bool.not_false, bt, bt, td, tm]
      have hle : c.natAbs / 10 ^ m ≤ c.natAbs := Nat.div_le_self _ _
      rw [wUl (by omega)]
      exact ⟨_, _, _, rfl, hU, Nat.lt_trans (Nat.mod_lt _ hp) hU, by omega, fun h => by omega, fun _ => ⟨rfl, rfl, rfl⟩⟩
    · have : 0 < wh (10 ^ m) := by unfold wh; omega
      rw [dt this, bt]
      exact none (by omega)
theorem Sp.ok {R : Prop} [Decidable R] {p : Int → Prop} {g : Option (Int × Int × Int)} (h : Sp R p g) : ∃ er c x : Int, g = some (er, c, x) ∧ (er = 0 → R ∧ Canon c x ∧ p (val c x)) := by
  unfold Sp at h
  by_cases hR : R
  · rw [if_pos hR] at h
    obtain ⟨er, c, x, h1, h2⟩ := h
    refine ⟨er, c, x, h1, fun h0 => ⟨hR, ?_⟩⟩
    rcases h2 with ⟨_, h3, h4⟩ | ⟨h3, _⟩
    · exact ⟨h3, h4⟩
    · simp only [Prod.mk.injEq] at h3; omega
  · rw [if_neg hR] at h
    exact ⟨1, 0, 0, h, fun h => by omega⟩
end Go.Proofs.Ytdbeblgfccjbgaa.W
namespace Go.Proofs.Ytdbeblgfccjbgaa.W
open Go Go.Q Go.Proofs Go.Dz
set_option linter.unusedVariables false
set_option linter.unusedSimpArgs false
theorem dec_Right (k : Nat) (hk : 60 ≤ k) {c e : Int} (hc : Canon c e) : g_dec_Right k c e = some true := by
  unfold g_dec_Right
  obtain ⟨c', e', h1, h2, h3⟩ := tell_ok k hk hc.i64 hc.rg
  obtain ⟨rfl, rfl⟩ := h2.uniq hc h3
  rw [of_eq k hc.i64, Option.bind_some, h1, Option.bind_some]
  simp only
  rw [ranged_eq k (by omega), dt hc.rg, Option.bind_some, bt]
  simp
theorem dec_Make (k : Nat) (hk : 60 ≤ k) {c e : Int} (hc : I64 c) (he : Rng e) : ∃ c' e' : Int, g_dec_Make k c e = some (0, c', e') ∧ Canon c' e' ∧ val c' e' = val c e := by
  unfold g_dec_Make
  obtain ⟨c', e', h1, h2, h3⟩ := tell_ok k hk hc he
  have he' := he
  unfold Rng at he'
  have hg : ((bif (!(decide (c = 0))) then (bif (decide (e < (-100))) then some true else some (decide (100 < e))) else some false) : Option Bool) = some false := by
    rw [df (show ¬ e < -100 by omega), df (show ¬ 100 < e by omega)]
    cases decide (c = 0) <;> rfl
  rw [hg, Option.bind_some, bf, size_eq k hc, Option.bind_some, h1]
  exact ⟨c', e', rfl, h2, h3⟩
theorem canon_is {R : Prop} [Decidable R] {v c e : Int} {g : Option (Int × Int × Int)} (h : Sp R (· = v) g) (hR : R) (hc : Canon c e) (hv : val c e = v) : g = some (0, c, e) := by
  unfold Sp at h
  rw [if_pos hR] at h
  obtain ⟨er, c', x', h1, h2⟩ := h
  rcases h2 with ⟨h3, h4, h5⟩ | ⟨_, h4⟩
  · simp only at h3 h4 h5
    obtain ⟨rfl, rfl⟩ := h4.uniq hc (by rw [h5, hv])
    rw [h1, h3]
  · exact absurd hv (h4 _ _ hc)
theorem decLaws (a b : S_api_Dec) (ha : ((Lit.int .i64 a.fC).wf = true) ∧ ((Lit.int .i64 a.fE).wf = true) ∧ True) (hb : ((Lit.int .i64 b.fC).wf = true) ∧ ((Lit.int .i64 b.fE).wf = true) ∧ True) : ∃ k, g_quirelaw09_DecLaws k a.fC a.fE b.fC b.fE = some true := by
  refine ⟨3000, ?_⟩
  have ia := i64_I ha.1
  have ib := i64_I hb.1
  have hcomm : ∀ p : Int → Prop, ∀ g, Sp (Rng b.fE ∧ Rng a.fE) p g → Sp (Rng a.fE ∧ Rng b.fE) p g := by
    intro p g h
    unfold Sp at *
    by_cases hR : Rng a.fE ∧ Rng b.fE
    · rw [if_pos ⟨hR.2, hR.1⟩] at h; rw [if_pos hR]; exact h
    · rw [if_neg (fun k => hR ⟨k.2, k.1⟩)] at h; rw [if_neg hR]; exact h
  have A1 := dec_Add 3000 (by decide) (e := a.fE) (f := b.fE) ia ib
  have A2 := hcomm _ _ (dec_Add 3000 (by decide) (e := b.fE) (f := a.fE) ib ia)
  rw [Int.add_comm (val b.fC b.fE)] at A2
  obtain ⟨⟨r1, r2, r3⟩, p1, p2⟩ := Sp.eq (eq_fun _) A1 A2
  have M1 := dec_Mul 3000 (by decide) (e := a.fE) (f := b.fE) ia ib
  have M2 := hcomm _ _ (dec_Mul 3000 (by decide) (e := b.fE) (f := a.fE) ib ia)
  rw [Int.mul_comm b.fC, Int.add_comm b.fE] at M2
  obtain ⟨⟨s1, s2, s3⟩, p3, p4⟩ := Sp.eq (eq_fun _) M1 M2
  unfold g_quirelaw09_DecLaws
  rw [p1, p2, p3, p4]
  simp only [Option.bind_some, decide_true, Bool.and_true, Bool.not_true, cond_false]
  rw [alive (by decide)]
  simp only [Option.bind_some, Bool.not_true, cond_false]
  have k1 := A1.ok
  rw [p1] at k1
  obtain ⟨q1, q2, q3, e1, k1⟩ := k1
  simp only [Option.some.injEq, Prod.mk.injEq] at e1
  obtain ⟨rfl, rfl, rfl⟩ := e1
  have k2 := M1.ok
  rw [p3] at k2
  obtain ⟨q1, q2, q3, e1, k2⟩ := k2
  simp only [Option.some.injEq, Prod.mk.injEq] at e1
  obtain ⟨rfl, rfl, rfl⟩ := e1
  have part1 : ((((bif (decide (r1 = 0)) then ((g_dec_Right 3000 r2 r3).bind fun x11365 => (bif (!x11365) then some (Sum.inl ()) else ((g_dec_Sub 3000 r2 r3 b.fC b.fE).bind fun x => ((g_dec_Make 3000 a.fC a.fE).bind fun y => (((bif (!(decide (x.1 = 0))) then some true else (bif (!(decide (y.1 = 0))) then some true else some (!((decide (x.2.1 = y.2.1)) && (decide (x.2.2 = y.2.2)))))) : Option Bool).bind fun x11378 => (bif x11378 then some (Sum.inl ()) else some (Sum.inr ()))))))) else some (Sum.inr ())) : Option (Unit ⊕ Unit)))) = some (Sum.inr ()) := by
    by_cases z : r1 = 0
    · rw [dt z, bt]
      obtain ⟨hR, hc, hv⟩ := k1 z
      obtain ⟨c', e', m1, m2, m3⟩ := dec_Make 3000 (by decide) ia hR.1
      have hS := dec_Sub 3000 (by decide) (e := r3) (f := b.fE) hc.i64 ib
      have hS' := canon_is hS ⟨hc.rg, hR.2⟩ m2 (by rw [m3, hv]; omega)
      rw [dec_Right 3000 (by decide) hc, Option.bind_some, Bool.not_true, bf, hS', m1]
      simp
    · rw [df z]; rfl
  rw [part1, Option.bind_some]
  simp only
  by_cases z : s1 = 0
  · rw [dt z, bt]
    obtain ⟨hR, hc, hv⟩ := k2 z
    have hsgn : g_dec_Sign 3000 b.fC b.fE = some (cmpI b.fC 0) := by
      unfold g_dec_Sign
      rw [dec_Cmp 3000 (by decide) ib (by unfold I64; omega), if_pos ⟨hR.2, by unfold Rng; omega⟩, val_zero, val_sign]; rfl
    rw [hsgn, Option.bind_some, Option.bind_some]
    by_cases hb0 : b.fC = 0
    · rw [dt (by rw [hb0, cmpI_self]), Bool.not_true, bf]
    · rw [df (fun h => hb0 (cmpI_zero.1 h)), Bool.not_false, bt]
      obtain ⟨c', e', m1, m2, m3⟩ := dec_Make 3000 (by decide) ia hR.1
      have hD := dec_Div 3000 (by decide) (e := s3) (f := b.fE) hc.i64 ib
      unfold SpD at hD
      rw [if_pos ⟨hc.rg, hR.2⟩, if_neg hb0] at hD
      obtain ⟨er, C, X, d1, d2⟩ := hD
      have ra := hR.1
      have rb := hR.2
      unfold Rng at ra rb
      have hQ : Quot (val s2 s3) (val b.fC b.fE) (val c' e') := by
        unfold Quot
        rw [m3, hv]
        exact val_mul (by omega) (by omega)
      have : ((C, X), er) = ((c', e'), (0 : Int)) := by
        refine Tells.uniq (quot_fun (val_ne hb0)) d2 (.inl ⟨rfl, m2, hQ⟩)
      simp only [Prod.mk.injEq] at this
      obtain ⟨⟨rfl, rfl⟩, rfl⟩ := this
      rw [d1, m1]
      simp only [Option.bind_some]
      rw [dec_Right 3000 (by decide) hc]
      simp
  · rw [df z, bf, Option.bind_some, bf]
end Go.Proofs.Ytdbeblgfccjbgaa.W
namespace Go.Proofs.Ytdbeblgfccjbgaa.W
open Go Go.Q Go.Proofs
set_option linter.unusedVariables false
set_option linter.unusedSimpArgs false
set_option maxRecDepth 100000
theorem mixed : Try.prog.follows .mixedOrders = true := rfl
theorem ag23 : Ag Try.prog 23 2 := ⟨_, Try.t23, Try.underlying23, rfl, rfl, trivial⟩
theorem ze23 : ZeroIs Try.prog 23 [.int .i64 0, .int .i64 0] := ⟨⟨Try.t23, _, rfl, rfl, rfl⟩, by intro v hv; simp only [List.mem_cons, List.not_mem_nil, or_false] at hv; (try rcases hv with rfl | rfl) <;> (subst_vars; rfl)⟩
theorem sz37 : SzIs Try.prog 37 1 := ⟨Try.t37, rfl, rfl⟩
theorem li81 : LitIs Try.prog 81 37 1 [.pointer none] := ⟨Try.underlying81, ⟨Try.t37, _, rfl, rfl, rfl, rfl⟩, by intro v hv; simp at hv; (try rcases hv with rfl | hv) <;> first | rfl | (subst hv; rfl) | simp_all [Value.oneCell']⟩
theorem sl81 : SlIs Try.prog 81 37 1 := ⟨Try.underlying81, sz37⟩
theorem sc37 : Sc Try.prog 37 := ⟨_, Try.t37, Try.underlying37, rfl, rfl, trivial⟩
theorem sz23 : SzIs Try.prog 23 2 := ⟨Try.t23, rfl, rfl⟩
theorem li91 : LitIs Try.prog 91 23 2 [.int .i64 0, .int .i64 0] := ⟨Try.underlying91, ⟨Try.t23, _, rfl, rfl, rfl, rfl⟩, by intro v hv; simp at hv; (try rcases hv with rfl | hv) <;> first | rfl | (subst hv; rfl) | simp_all [Value.oneCell']⟩
theorem sl91 : SlIs Try.prog 91 23 2 := ⟨Try.underlying91, sz23⟩
theorem fi23_1 : FieldIs Try.prog 23 1 1 3 1 := ⟨_, _, Try.t3, Try.underlying23, rfl, rfl, rfl, rfl, rfl⟩
theorem sc3 : Sc Try.prog 3 := ⟨_, Try.t3, Try.underlying3, rfl, rfl, trivial⟩
theorem fn52 : FnIs Try.prog 52 := ⟨_, Try.func52, rfl, by kernel_rfl⟩
theorem ze47 : ZeroIs Try.prog 47 [.bool false, .int .u64 0, .int .u64 0, .int .i64 0] := ⟨⟨Try.t47, _, rfl, rfl, rfl⟩, by intro v hv; simp only [List.mem_cons, List.not_mem_nil, or_false] at hv; (try rcases hv with rfl | rfl | rfl | rfl) <;> (subst_vars; rfl)⟩
theorem fi23_0 : FieldIs Try.prog 23 0 0 2 1 := ⟨_, _, Try.t2, Try.underlying23, rfl, rfl, rfl, rfl, rfl⟩
theorem sc2 : Sc Try.prog 2 := ⟨_, Try.t2, Try.underlying2, rfl, rfl, trivial⟩
theorem fn28 : FnIs Try.prog 28 := ⟨_, Try.func28, rfl, by kernel_rfl⟩
theorem bu43 : BuildIs Try.prog 43 (placeOf [(0, 1), (1, 1)]) [.int .u64 0, .int .u64 0] := BuildIs.struct (it := Try.t43) rfl Try.underlying43 rfl rfl rfl (by intro v hv; simp only [List.mem_cons, List.not_mem_nil, or_false] at hv; (try rcases hv with rfl | rfl) <;> (subst_vars; rfl))
theorem bu47 : BuildIs Try.prog 47 (placeOf [(0, 1), (1, 2), (3, 1)]) [.bool false, .int .u64 0, .int .u64 0, .int .i64 0] := BuildIs.struct (it := Try.t47) rfl Try.underlying47 rfl rfl rfl (by intro v hv; simp only [List.mem_cons, List.not_mem_nil, or_false] at hv; (try rcases hv with rfl | rfl | rfl | rfl) <;> (subst_vars; rfl))
theorem sz47 : SzIs Try.prog 47 4 := ⟨Try.t47, rfl, rfl⟩
theorem ag47 : Ag Try.prog 47 4 := ⟨_, Try.t47, Try.underlying47, rfl, rfl, trivial⟩
theorem fn38 : FnIs Try.prog 38 := ⟨_, Try.func38, rfl, by kernel_rfl⟩
theorem fi47_1 : FieldIs Try.prog 47 1 1 43 2 := ⟨_, _, Try.t43, Try.underlying47, rfl, rfl, rfl, rfl, rfl⟩
theorem ag43 : Ag Try.prog 43 2 := ⟨_, Try.t43, Try.underlying43, rfl, rfl, trivial⟩
theorem fi43_0 : FieldIs Try.prog 43 0 0 38 1 := ⟨_, _, Try.t38, Try.underlying43, rfl, rfl, rfl, rfl, rfl⟩
theorem sc38 : Sc Try.prog 38 := ⟨_, Try.t38, Try.underlying38, rfl, rfl, trivial⟩
theorem fi43_1 : FieldIs Try.prog 43 1 1 38 1 := ⟨_, _, Try.t38, Try.underlying43, rfl, rfl, rfl, rfl, rfl⟩
theorem fn58 : FnIs Try.prog 58 := ⟨_, Try.func58, rfl, by kernel_rfl⟩
theorem bu23 : BuildIs Try.prog 23 (placeOf [(0, 1), (1, 1)]) [.int .i64 0, .int .i64 0] := BuildIs.struct (it := Try.t23) rfl Try.underlying23 rfl rfl rfl (by intro v hv; simp only [List.mem_cons, List.not_mem_nil, or_false] at hv; (try rcases hv with rfl | rfl) <;> (subst_vars; rfl))
theorem ze43 : ZeroIs Try.prog 43 [.int .u64 0, .int .u64 0] := ⟨⟨Try.t43, _, rfl, rfl, rfl⟩, by intro v hv; simp only [List.mem_cons, List.not_mem_nil, or_false] at hv; (try rcases hv with rfl | rfl) <;> (subst_vars; rfl)⟩
theorem fn76 : FnIs Try.prog 76 := ⟨_, Try.func76, rfl, by kernel_rfl⟩
theorem fn69 : FnIs Try.prog 69 := ⟨_, Try.func69, rfl, by kernel_rfl⟩
theorem fn64 : FnIs Try.prog 64 := ⟨_, Try.func64, rfl, by kernel_rfl⟩
theorem sz43 : SzIs Try.prog 43 2 := ⟨Try.t43, rfl, rfl⟩
theorem fn59 : FnIs Try.prog 59 := ⟨_, Try.func59, rfl, by kernel_rfl⟩
theorem fi47_2 : FieldIs Try.prog 47 2 3 3 1 := ⟨_, _, Try.t3, Try.underlying47, rfl, rfl, rfl, rfl, rfl⟩
theorem sz3 : SzIs Try.prog 3 1 := ⟨Try.t3, rfl, rfl⟩
theorem fn53 : FnIs Try.prog 53 := ⟨_, Try.func53, rfl, by kernel_rfl⟩
theorem ex57 : ExtIs Try.prog 57 add64S := ⟨_, Try.func57, rfl, by kernel_rfl, by kernel_rfl, by kernel_rfl⟩
theorem fn30 : FnIs Try.prog 30 := ⟨_, Try.func30, rfl, by kernel_rfl⟩
theorem fn60 : FnIs Try.prog 60 := ⟨_, Try.func60, rfl, by kernel_rfl⟩
theorem fi47_0 : FieldIs Try.prog 47 0 0 4 1 := ⟨_, _, Try.t4, Try.underlying47, rfl, rfl, rfl, rfl, rfl⟩
theorem sc4 : Sc Try.prog 4 := ⟨_, Try.t4, Try.underlying4, rfl, rfl, trivial⟩
theorem fn31 : FnIs Try.prog 31 := ⟨_, Try.func31, rfl, by kernel_rfl⟩
theorem fn27 : FnIs Try.prog 27 := ⟨_, Try.func27, rfl, by kernel_rfl⟩
theorem fn29 : FnIs Try.prog 29 := ⟨_, Try.func29, rfl, by kernel_rfl⟩
theorem fn7 : FnIs Try.prog 7 := ⟨_, Try.func7, rfl, by kernel_rfl⟩
theorem sz4 : SzIs Try.prog 4 1 := ⟨Try.t4, rfl, rfl⟩
theorem eg23 : Try.prog.eqGuardType Try.prog.depth 23 = false := by kernel_rfl
theorem eq23 {a0 : Int} {a1 : Int} {b0 : Int} {b1 : Int} : EqV Try.prog 9 23 (.agg [.int .i64 a0, .int .i64 a1].toArray) (.agg [.int .i64 b0, .int .i64 b1].toArray) ((decide (a0 = b0)) && ((decide (a1 = b1)) && true)) := (EqV.struct Try.underlying23 (by kernel_rfl) (EqF.sc (by rfl) sc2 rfl rfl (EqV.int Try.underlying2) (EqF.sc (by rfl) sc3 rfl rfl (EqV.int Try.underlying3) EqF.nil)))
theorem eg43 : Try.prog.eqGuardType Try.prog.depth 43 = false := by kernel_rfl
theorem eq43 {a0 : Int} {a1 : Int} {b0 : Int} {b1 : Int} : EqV Try.prog 9 43 (.agg [.int .u64 a0, .int .u64 a1].toArray) (.agg [.int .u64 b0, .int .u64 b1].toArray) ((decide (a0 = b0)) && ((decide (a1 = b1)) && true)) := (EqV.struct Try.underlying43 (by kernel_rfl) (EqF.sc (by rfl) sc38 rfl rfl (EqV.int Try.underlying38) (EqF.sc (by rfl) sc38 rfl rfl (EqV.int Try.underlying38) EqF.nil)))
theorem fn48 : FnIs Try.prog 48 := ⟨_, Try.func48, rfl, by kernel_rfl⟩
theorem fn37 : FnIs Try.prog 37 := ⟨_, Try.func37, rfl, by kernel_rfl⟩
theorem fn46 : FnIs Try.prog 46 := ⟨_, Try.func46, rfl, by kernel_rfl⟩
theorem fn47 : FnIs Try.prog 47 := ⟨_, Try.func47, rfl, by kernel_rfl⟩
theorem ex67 : ExtIs Try.prog 67 sub64S := ⟨_, Try.func67, rfl, by kernel_rfl, by kernel_rfl, by kernel_rfl⟩
theorem fn49 : FnIs Try.prog 49 := ⟨_, Try.func49, rfl, by kernel_rfl⟩
theorem fn14 : FnIs Try.prog 14 := ⟨_, Try.func14, rfl, by kernel_rfl⟩
theorem fn9 : FnIs Try.prog 9 := ⟨_, Try.func9, rfl, by kernel_rfl⟩
theorem fn20 : FnIs Try.prog 20 := ⟨_, Try.func20, rfl, by kernel_rfl⟩
theorem fn25 : FnIs Try.prog 25 := ⟨_, Try.func25, rfl, by kernel_rfl⟩
theorem sz5 : SzIs Try.prog 5 1 := ⟨Try.t5, rfl, rfl⟩
theorem li89 : LitIs Try.prog 89 5 1 [.int .u8 0] := ⟨Try.underlying89, ⟨Try.t5, _, rfl, rfl, rfl, rfl⟩, by intro v hv; simp at hv; (try rcases hv with rfl | hv) <;> first | rfl | (subst hv; rfl) | simp_all [Value.oneCell']⟩
theorem cn9 : Conc Try.prog 9 := ⟨_, Try.underlying9, trivial⟩
theorem fn70 : FnIs Try.prog 70 := ⟨_, Try.func70, rfl, by kernel_rfl⟩
theorem fn78 : FnIs Try.prog 78 := ⟨_, Try.func78, rfl, by kernel_rfl⟩
theorem fn71 : FnIs Try.prog 71 := ⟨_, Try.func71, rfl, by kernel_rfl⟩
theorem ze101 : ZeroIs Try.prog 101 [.pointer none, .slice none 0 0] := ⟨⟨Try.t101, _, rfl, rfl, rfl⟩, by intro v hv; simp only [List.mem_cons, List.not_mem_nil, or_false] at hv; (try rcases hv with rfl | rfl) <;> (subst_vars; rfl)⟩
theorem fi101_0 : FieldIs Try.prog 101 0 0 99 1 := ⟨_, _, Try.t99, Try.underlying101, rfl, rfl, rfl, rfl, rfl⟩
theorem sc99 : Sc Try.prog 99 := ⟨_, Try.t99, Try.underlying99, rfl, rfl, trivial⟩
theorem in101 : ∃ j, Try.prog.info? 101 = some j ∧ (j.size == 0) = false := ⟨Try.t101, rfl, rfl⟩
theorem ex81 : ExtIs Try.prog 81 Extern.AbiNoEscape.same := ⟨_, Try.func81, rfl, by kernel_rfl, by kernel_rfl, by kernel_rfl⟩
theorem te101 : ∃ j, Try.prog.info? 101 = some j := ⟨Try.t101, rfl⟩
theorem sz99 : SzIs Try.prog 99 1 := ⟨Try.t99, rfl, rfl⟩
theorem fn79 : FnIs Try.prog 79 := ⟨_, Try.func79, rfl, by kernel_rfl⟩
theorem fi101_1 : FieldIs Try.prog 101 1 1 89 1 := ⟨_, _, Try.t89, Try.underlying101, rfl, rfl, rfl, rfl, rfl⟩
theorem sc89 : Sc Try.prog 89 := ⟨_, Try.t89, Try.underlying89, rfl, rfl, trivial⟩
theorem sl89 : SlIs Try.prog 89 5 1 := ⟨Try.underlying89, sz5⟩
theorem ex82 : ExtIs Try.prog 82 (Extern.BytealgMakeNoZero.makeNoZero #[3] #[89]) := ⟨_, Try.func82, rfl, by kernel_rfl, by kernel_rfl, by kernel_rfl⟩
theorem sz89 : SzIs Try.prog 89 1 := ⟨Try.t89, rfl, rfl⟩
theorem fn80 : FnIs Try.prog 80 := ⟨_, Try.func80, rfl, by kernel_rfl⟩
theorem fn72 : FnIs Try.prog 72 := ⟨_, Try.func72, rfl, by kernel_rfl⟩
theorem ap89 : ApIs Try.prog 89 5 1 1 := ⟨Try.underlying89, ⟨Try.t5, _, rfl, rfl, rfl, rfl, rfl⟩, by decide, by decide⟩
theorem fn73 : FnIs Try.prog 73 := ⟨_, Try.func73, rfl, by kernel_rfl⟩
theorem fn74 : FnIs Try.prog 74 := ⟨_, Try.func74, rfl, by kernel_rfl⟩
theorem fn75 : FnIs Try.prog 75 := ⟨_, Try.func75, rfl, by kernel_rfl⟩
theorem fn66 : FnIs Try.prog 66 := ⟨_, Try.func66, rfl, by kernel_rfl⟩
theorem fn45 : FnIs Try.prog 45 := ⟨_, Try.func45, rfl, by kernel_rfl⟩
theorem fn13 : FnIs Try.prog 13 := ⟨_, Try.func13, rfl, by kernel_rfl⟩
theorem fn50 : FnIs Try.prog 50 := ⟨_, Try.func50, rfl, by kernel_rfl⟩
theorem sz2 : SzIs Try.prog 2 1 := ⟨Try.t2, rfl, rfl⟩
theorem fn16 : FnIs Try.prog 16 := ⟨_, Try.func16, rfl, by kernel_rfl⟩
theorem fn54 : FnIs Try.prog 54 := ⟨_, Try.func54, rfl, by kernel_rfl⟩
theorem fn55 : FnIs Try.prog 55 := ⟨_, Try.func55, rfl, by kernel_rfl⟩
theorem fn22 : FnIs Try.prog 22 := ⟨_, Try.func22, rfl, by kernel_rfl⟩
theorem fn24 : FnIs Try.prog 24 := ⟨_, Try.func24, rfl, by kernel_rfl⟩
theorem fn26 : FnIs Try.prog 26 := ⟨_, Try.func26, rfl, by kernel_rfl⟩
end Go.Proofs.Ytdbeblgfccjbgaa.W
