/- Whole numbers as bit vectors. -/
import Derived.Test.YtnbjdgamindikaaDoorQo
namespace Go.Q
open Go
set_option linter.unusedVariables false
set_option linter.unusedSimpArgs false

section
variable {k : IntKind}
theorem wrap_ofInt (hs : k.signed = false) (n : Int) : k.wrap n = ((BitVec.ofInt k.bits n).toNat : Int) := by
  have h2 : (0 : Int) < 2 ^ k.bits := Int.pow_pos (by decide)
  simp only [IntKind.wrap, hs, Bool.false_and, Bool.false_eq_true, if_false, BitVec.toNat_ofInt]
  rw [Int.toNat_of_nonneg]
  · simp
  · exact Int.emod_nonneg _ (by simp; omega)
theorem wrap_nat (hs : k.signed = false) (b : BitVec k.bits) : k.wrap (b.toNat : Int) = (b.toNat : Int) := by
  rw [wrap_ofInt hs, BitVec.ofInt_natCast, BitVec.ofNat_toNat]
  simp
theorem ofInt_toNat (b : BitVec k.bits) : BitVec.ofInt k.bits (b.toNat : Int) = b := by
  rw [BitVec.ofInt_natCast, BitVec.ofNat_toNat]; simp
theorem bv_and (hs : k.signed = false) (a b : BitVec k.bits) : bits .and k (a.toNat : Int) (b.toNat : Int) = ((a &&& b).toNat : Int) := by
  simp only [bits, ofInt_toNat, wrap_nat hs]
theorem bv_or (hs : k.signed = false) (a b : BitVec k.bits) : bits .or k (a.toNat : Int) (b.toNat : Int) = ((a ||| b).toNat : Int) := by
  simp only [bits, ofInt_toNat, wrap_nat hs]
theorem bv_xor (hs : k.signed = false) (a b : BitVec k.bits) : bits .xor k (a.toNat : Int) (b.toNat : Int) = ((a ^^^ b).toNat : Int) := by
  simp only [bits, ofInt_toNat, wrap_nat hs]
theorem bv_andNot (hs : k.signed = false) (a b : BitVec k.bits) : bits .andNot k (a.toNat : Int) (b.toNat : Int) = ((a &&& ~~~b).toNat : Int) := by
  simp only [bits, ofInt_toNat, wrap_nat hs]
theorem bv_add (hs : k.signed = false) (a b : BitVec k.bits) : k.wrap ((a.toNat : Int) + (b.toNat : Int)) = ((a + b).toNat : Int) := by
  rw [wrap_ofInt hs, BitVec.ofInt_add, ofInt_toNat, ofInt_toNat]
theorem bv_mul (hs : k.signed = false) (a b : BitVec k.bits) : k.wrap ((a.toNat : Int) * (b.toNat : Int)) = ((a * b).toNat : Int) := by
  rw [wrap_ofInt hs, BitVec.ofInt_mul, ofInt_toNat, ofInt_toNat]
theorem bv_neg (hs : k.signed = false) (a : BitVec k.bits) : k.wrap (0 - (a.toNat : Int)) = ((-a).toNat : Int) := by
  rw [wrap_ofInt hs, Int.zero_sub, BitVec.ofInt_neg, ofInt_toNat]
theorem bv_sub (hs : k.signed = false) (a b : BitVec k.bits) : k.wrap ((a.toNat : Int) - (b.toNat : Int)) = ((a - b).toNat : Int) := by
  rw [wrap_ofInt hs, Int.sub_eq_add_neg, BitVec.ofInt_add, BitVec.ofInt_neg, ofInt_toNat, ofInt_toNat, BitVec.sub_eq_add_neg]
theorem bv_shr (a : BitVec k.bits) (n : Int) : shrI k (a.toNat : Int) n = ((a >>> n.toNat).toNat : Int) := by
  unfold shrI
  have hp : (0 : Int) ≤ 2 ^ (min n.toNat k.bits) := Int.pow_nonneg (by decide)
  rw [Int.fdiv_eq_ediv_of_nonneg _ hp, BitVec.toNat_ushiftRight, Nat.shiftRight_eq_div_pow]
  by_cases h : n.toNat ≤ k.bits
  · rw [Nat.min_eq_left h]; simp
  · rw [Nat.min_eq_right (by omega)]
    have h1 : a.toNat / 2 ^ k.bits = 0 := Nat.div_eq_of_lt a.isLt
    have h2 : a.toNat / 2 ^ n.toNat = 0 := Nat.div_eq_of_lt (Nat.lt_of_lt_of_le a.isLt (Nat.pow_le_pow_right (by decide) (by omega)))
    rw [h2]
    have : (a.toNat : Int) / 2 ^ k.bits = ((a.toNat / 2 ^ k.bits : Nat) : Int) := by simp
    rw [this, h1]
theorem bv_shl (hs : k.signed = false) (a : BitVec k.bits) (n : Int) : shlI k (a.toNat : Int) n = ((a <<< n.toNat).toNat : Int) := by
  unfold shlI
  have h1 : ((a.toNat : Int) * 2 ^ (min n.toNat k.bits)) = ((a.toNat * 2 ^ (min n.toNat k.bits) : Nat) : Int) := by simp
  rw [h1, wrap_ofInt hs, BitVec.ofInt_natCast, BitVec.toNat_ofNat, BitVec.toNat_shiftLeft, Nat.shiftLeft_eq]
  by_cases h : n.toNat ≤ k.bits
  · rw [Nat.min_eq_left h]
  · rw [Nat.min_eq_right (by omega)]
    have e1 : a.toNat * 2 ^ k.bits % 2 ^ k.bits = 0 := Nat.mul_mod_left _ _
    have e2 : a.toNat * 2 ^ n.toNat % 2 ^ k.bits = 0 := by
      have : 2 ^ n.toNat = 2 ^ (n.toNat - k.bits) * 2 ^ k.bits := by rw [← Nat.pow_add]; congr 1; omega
      rw [this, ← Nat.mul_assoc]; exact Nat.mul_mod_left _ _
    rw [e1, e2]
end
/-- A number of a kind, as its bits. -/
theorem wf_bv {k : IntKind} (hs : k.signed = false) {n : Int} (h : (Lit.int k n).wf = true) : ∃ b : BitVec k.bits, n = (b.toNat : Int) := by
  simp only [Lit.wf, IntKind.min, IntKind.max, hs, Bool.false_eq_true, if_false, Bool.and_eq_true, decide_eq_true_eq] at h
  refine ⟨BitVec.ofInt k.bits n, ?_⟩
  rw [BitVec.toNat_ofInt, Int.toNat_of_nonneg]
  · rw [Int.emod_eq_of_lt h.1]; simp; omega
  · have h2 : (0 : Int) < 2 ^ k.bits := Int.pow_pos (by decide)
    exact Int.emod_nonneg _ (by simp; omega)
theorem u32_bv {n : Int} (h : (Lit.int .u32 n).wf = true) : ∃ b : BitVec 32, n = (b.toNat : Int) := wf_bv (k := .u32) rfl h
theorem u8_bv {n : Int} (h : (Lit.int .u8 n).wf = true) : ∃ b : BitVec 8, n = (b.toNat : Int) := wf_bv (k := .u8) rfl h
theorem u64_bv {n : Int} (h : (Lit.int .u64 n).wf = true) : ∃ b : BitVec 64, n = (b.toNat : Int) := wf_bv (k := .u64) rfl h
theorem u16_bv {n : Int} (h : (Lit.int .u16 n).wf = true) : ∃ b : BitVec 16, n = (b.toNat : Int) := wf_bv (k := .u16) rfl h
theorem u8_and (a b : BitVec 8) : bits .and .u8 (a.toNat : Int) (b.toNat : Int) = ((a &&& b).toNat : Int) := bv_and (k := .u8) rfl a b
theorem u8_or (a b : BitVec 8) : bits .or .u8 (a.toNat : Int) (b.toNat : Int) = ((a ||| b).toNat : Int) := bv_or (k := .u8) rfl a b
theorem u8_xor (a b : BitVec 8) : bits .xor .u8 (a.toNat : Int) (b.toNat : Int) = ((a ^^^ b).toNat : Int) := bv_xor (k := .u8) rfl a b
theorem u8_add (a b : BitVec 8) : IntKind.wrap .u8 ((a.toNat : Int) + (b.toNat : Int)) = ((a + b).toNat : Int) := bv_add (k := .u8) rfl a b
theorem u8_sub (a b : BitVec 8) : IntKind.wrap .u8 ((a.toNat : Int) - (b.toNat : Int)) = ((a - b).toNat : Int) := bv_sub (k := .u8) rfl a b
theorem u8_mul (a b : BitVec 8) : IntKind.wrap .u8 ((a.toNat : Int) * (b.toNat : Int)) = ((a * b).toNat : Int) := bv_mul (k := .u8) rfl a b
theorem u8_neg (a : BitVec 8) : IntKind.wrap .u8 (0 - (a.toNat : Int)) = ((-a).toNat : Int) := bv_neg (k := .u8) rfl a
theorem u8_shr (a : BitVec 8) (n : Int) : shrI .u8 (a.toNat : Int) n = ((a >>> n.toNat).toNat : Int) := bv_shr (k := .u8) a n
theorem u8_shl (a : BitVec 8) (n : Int) : shlI .u8 (a.toNat : Int) n = ((a <<< n.toNat).toNat : Int) := bv_shl (k := .u8) rfl a n
theorem u8_of_u8 (a : BitVec 8) : IntKind.wrap .u8 (a.toNat : Int) = ((a.setWidth 8).toNat : Int) := by
  rw [wrap_ofInt (k := .u8) rfl, BitVec.ofInt_natCast]; simp only [IntKind.bits, BitVec.toNat_ofNat, BitVec.toNat_setWidth]
theorem u8_of_u16 (a : BitVec 16) : IntKind.wrap .u8 (a.toNat : Int) = ((a.setWidth 8).toNat : Int) := by
  rw [wrap_ofInt (k := .u8) rfl, BitVec.ofInt_natCast]; simp only [IntKind.bits, BitVec.toNat_ofNat, BitVec.toNat_setWidth]
theorem u8_of_u32 (a : BitVec 32) : IntKind.wrap .u8 (a.toNat : Int) = ((a.setWidth 8).toNat : Int) := by
  rw [wrap_ofInt (k := .u8) rfl, BitVec.ofInt_natCast]; simp only [IntKind.bits, BitVec.toNat_ofNat, BitVec.toNat_setWidth]
theorem u8_of_u64 (a : BitVec 64) : IntKind.wrap .u8 (a.toNat : Int) = ((a.setWidth 8).toNat : Int) := by
  rw [wrap_ofInt (k := .u8) rfl, BitVec.ofInt_natCast]; simp only [IntKind.bits, BitVec.toNat_ofNat, BitVec.toNat_setWidth]
theorem u16_and (a b : BitVec 16) : bits .and .u16 (a.toNat : Int) (b.toNat : Int) = ((a &&& b).toNat : Int) := bv_and (k := .u16) rfl a b
theorem u16_or (a b : BitVec 16) : bits .or .u16 (a.toNat : Int) (b.toNat : Int) = ((a ||| b).toNat : Int) := bv_or (k := .u16) rfl a b
theorem u16_xor (a b : BitVec 16) : bits .xor .u16 (a.toNat : Int) (b.toNat : Int) = ((a ^^^ b).toNat : Int) := bv_xor (k := .u16) rfl a b
theorem u16_add (a b : BitVec 16) : IntKind.wrap .u16 ((a.toNat : Int) + (b.toNat : Int)) = ((a + b).toNat : Int) := bv_add (k := .u16) rfl a b
theorem u16_sub (a b : BitVec 16) : IntKind.wrap .u16 ((a.toNat : Int) - (b.toNat : Int)) = ((a - b).toNat : Int) := bv_sub (k := .u16) rfl a b
theorem u16_mul (a b : BitVec 16) : IntKind.wrap .u16 ((a.toNat : Int) * (b.toNat : Int)) = ((a * b).toNat : Int) := bv_mul (k := .u16) rfl a b
theorem u16_neg (a : BitVec 16) : IntKind.wrap .u16 (0 - (a.toNat : Int)) = ((-a).toNat : Int) := bv_neg (k := .u16) rfl a
theorem u16_shr (a : BitVec 16) (n : Int) : shrI .u16 (a.toNat : Int) n = ((a >>> n.toNat).toNat : Int) := bv_shr (k := .u16) a n
theorem u16_shl (a : BitVec 16) (n : Int) : shlI .u16 (a.toNat : Int) n = ((a <<< n.toNat).toNat : Int) := bv_shl (k := .u16) rfl a n
theorem u16_of_u8 (a : BitVec 8) : IntKind.wrap .u16 (a.toNat : Int) = ((a.setWidth 16).toNat : Int) := by
  rw [wrap_ofInt (k := .u16) rfl, BitVec.ofInt_natCast]; simp only [IntKind.bits, BitVec.toNat_ofNat, BitVec.toNat_setWidth]
theorem u16_of_u16 (a : BitVec 16) : IntKind.wrap .u16 (a.toNat : Int) = ((a.setWidth 16).toNat : Int) := by
  rw [wrap_ofInt (k := .u16) rfl, BitVec.ofInt_natCast]; simp only [IntKind.bits, BitVec.toNat_ofNat, BitVec.toNat_setWidth]
theorem u16_of_u32 (a : BitVec 32) : IntKind.wrap .u16 (a.toNat : Int) = ((a.setWidth 16).toNat : Int) := by
  rw [wrap_ofInt (k := .u16) rfl, BitVec.ofInt_natCast]; simp only [IntKind.bits, BitVec.toNat_ofNat, BitVec.toNat_setWidth]
theorem u16_of_u64 (a : BitVec 64) : IntKind.wrap .u16 (a.toNat : Int) = ((a.setWidth 16).toNat : Int) := by
  rw [wrap_ofInt (k := .u16) rfl, BitVec.ofInt_natCast]; simp only [IntKind.bits, BitVec.toNat_ofNat, BitVec.toNat_setWidth]
theorem u32_and (a b : BitVec 32) : bits .and .u32 (a.toNat : Int) (b.toNat : Int) = ((a &&& b).toNat : Int) := bv_and (k := .u32) rfl a b
theorem u32_or (a b : BitVec 32) : bits .or .u32 (a.toNat : Int) (b.toNat : Int) = ((a ||| b).toNat : Int) := bv_or (k := .u32) rfl a b
theorem u32_xor (a b : BitVec 32) : bits .xor .u32 (a.toNat : Int) (b.toNat : Int) = ((a ^^^ b).toNat : Int) := bv_xor (k := .u32) rfl a b
theorem u32_add (a b : BitVec 32) : IntKind.wrap .u32 ((a.toNat : Int) + (b.toNat : Int)) = ((a + b).toNat : Int) := bv_add (k := .u32) rfl a b
theorem u32_sub (a b : BitVec 32) : IntKind.wrap .u32 ((a.toNat : Int) - (b.toNat : Int)) = ((a - b).toNat : Int) := bv_sub (k := .u32) rfl a b
theorem u32_mul (a b : BitVec 32) : IntKind.wrap .u32 ((a.toNat : Int) * (b.toNat : Int)) = ((a * b).toNat : Int) := bv_mul (k := .u32) rfl a b
theorem u32_neg (a : BitVec 32) : IntKind.wrap .u32 (0 - (a.toNat : Int)) = ((-a).toNat : Int) := bv_neg (k := .u32) rfl a
theorem u32_shr (a : BitVec 32) (n : Int) : shrI .u32 (a.toNat : Int) n = ((a >>> n.toNat).toNat : Int) := bv_shr (k := .u32) a n
theorem u32_shl (a : BitVec 32) (n : Int) : shlI .u32 (a.toNat : Int) n = ((a <<< n.toNat).toNat : Int) := bv_shl (k := .u32) rfl a n
theorem u32_of_u8 (a : BitVec 8) : IntKind.wrap .u32 (a.toNat : Int) = ((a.setWidth 32).toNat : Int) := by
  rw [wrap_ofInt (k := .u32) rfl, BitVec.ofInt_natCast]; simp only [IntKind.bits, BitVec.toNat_ofNat, BitVec.toNat_setWidth]
theorem u32_of_u16 (a : BitVec 16) : IntKind.wrap .u32 (a.toNat : Int) = ((a.setWidth 32).toNat : Int) := by
  rw [wrap_ofInt (k := .u32) rfl, BitVec.ofInt_natCast]; simp only [IntKind.bits, BitVec.toNat_ofNat, BitVec.toNat_setWidth]
theorem u32_of_u32 (a : BitVec 32) : IntKind.wrap .u32 (a.toNat : Int) = ((a.setWidth 32).toNat : Int) := by
  rw [wrap_ofInt (k := .u32) rfl, BitVec.ofInt_natCast]; simp only [IntKind.bits, BitVec.toNat_ofNat, BitVec.toNat_setWidth]
theorem u32_of_u64 (a : BitVec 64) : IntKind.wrap .u32 (a.toNat : Int) = ((a.setWidth 32).toNat : Int) := by
  rw [wrap_ofInt (k := .u32) rfl, BitVec.ofInt_natCast]; simp only [IntKind.bits, BitVec.toNat_ofNat, BitVec.toNat_setWidth]
theorem u64_and (a b : BitVec 64) : bits .and .u64 (a.toNat : Int) (b.toNat : Int) = ((a &&& b).toNat : Int) := bv_and (k := .u64) rfl a b
theorem u64_or (a b : BitVec 64) : bits .or .u64 (a.toNat : Int) (b.toNat : Int) = ((a ||| b).toNat : Int) := bv_or (k := .u64) rfl a b
theorem u64_xor (a b : BitVec 64) : bits .xor .u64 (a.toNat : Int) (b.toNat : Int) = ((a ^^^ b).toNat : Int) := bv_xor (k := .u64) rfl a b
theorem u64_add (a b : BitVec 64) : IntKind.wrap .u64 ((a.toNat : Int) + (b.toNat : Int)) = ((a + b).toNat : Int) := bv_add (k := .u64) rfl a b
theorem u64_sub (a b : BitVec 64) : IntKind.wrap .u64 ((a.toNat : Int) - (b.toNat : Int)) = ((a - b).toNat : Int) := bv_sub (k := .u64) rfl a b
theorem u64_mul (a b : BitVec 64) : IntKind.wrap .u64 ((a.toNat : Int) * (b.toNat : Int)) = ((a * b).toNat : Int) := bv_mul (k := .u64) rfl a b
theorem u64_neg (a : BitVec 64) : IntKind.wrap .u64 (0 - (a.toNat : Int)) = ((-a).toNat : Int) := bv_neg (k := .u64) rfl a
theorem u64_shr (a : BitVec 64) (n : Int) : shrI .u64 (a.toNat : Int) n = ((a >>> n.toNat).toNat : Int) := bv_shr (k := .u64) a n
theorem u64_shl (a : BitVec 64) (n : Int) : shlI .u64 (a.toNat : Int) n = ((a <<< n.toNat).toNat : Int) := bv_shl (k := .u64) rfl a n
theorem u64_of_u8 (a : BitVec 8) : IntKind.wrap .u64 (a.toNat : Int) = ((a.setWidth 64).toNat : Int) := by
  rw [wrap_ofInt (k := .u64) rfl, BitVec.ofInt_natCast]; simp only [IntKind.bits, BitVec.toNat_ofNat, BitVec.toNat_setWidth]
theorem u64_of_u16 (a : BitVec 16) : IntKind.wrap .u64 (a.toNat : Int) = ((a.setWidth 64).toNat : Int) := by
  rw [wrap_ofInt (k := .u64) rfl, BitVec.ofInt_natCast]; simp only [IntKind.bits, BitVec.toNat_ofNat, BitVec.toNat_setWidth]
theorem u64_of_u32 (a : BitVec 32) : IntKind.wrap .u64 (a.toNat : Int) = ((a.setWidth 64).toNat : Int) := by
  rw [wrap_ofInt (k := .u64) rfl, BitVec.ofInt_natCast]; simp only [IntKind.bits, BitVec.toNat_ofNat, BitVec.toNat_setWidth]
theorem u64_of_u64 (a : BitVec 64) : IntKind.wrap .u64 (a.toNat : Int) = ((a.setWidth 64).toNat : Int) := by
  rw [wrap_ofInt (k := .u64) rfl, BitVec.ofInt_natCast]; simp only [IntKind.bits, BitVec.toNat_ofNat, BitVec.toNat_setWidth]

theorem wi {n : Int} (h1 : -9223372036854775808 ≤ n) (h2 : n ≤ 9223372036854775807) : IntKind.wrap .i64 n = n := by
  rw [IntKind.wrap_i64]; omega
theorem wi32 {n : Int} (h1 : -2147483648 ≤ n) (h2 : n ≤ 2147483647) : IntKind.wrap .i32 n = n := by
  rw [IntKind.wrap_i32]; omega
theorem wu8 {n : Int} (h1 : 0 ≤ n) (h2 : n ≤ 255) : IntKind.wrap .u8 n = n := by
  have : IntKind.wrap .u8 n = n % 256 := by simp [IntKind.wrap, IntKind.bits, IntKind.signed]
  rw [this]; omega
theorem wu16 {n : Int} (h1 : 0 ≤ n) (h2 : n ≤ 65535) : IntKind.wrap .u16 n = n := by
  have : IntKind.wrap .u16 n = n % 65536 := by simp [IntKind.wrap, IntKind.bits, IntKind.signed]
  rw [this]; omega
theorem wu32 {n : Int} (h1 : 0 ≤ n) (h2 : n ≤ 4294967295) : IntKind.wrap .u32 n = n := by
  have : IntKind.wrap .u32 n = n % 4294967296 := by simp [IntKind.wrap, IntKind.bits, IntKind.signed]
  rw [this]; omega
theorem wu64 {n : Int} (h1 : 0 ≤ n) (h2 : n ≤ 18446744073709551615) : IntKind.wrap .u64 n = n := by
  have : IntKind.wrap .u64 n = n % 18446744073709551616 := by simp [IntKind.wrap, IntKind.bits, IntKind.signed]
  rw [this]; omega
theorem i64_wf {n : Int} (h : (Lit.int .i64 n).wf = true) : -9223372036854775808 ≤ n ∧ n ≤ 9223372036854775807 := by
  simp only [Lit.wf, IntKind.min, IntKind.max, IntKind.signed, IntKind.bits, if_true, Bool.and_eq_true, decide_eq_true_eq] at h
  simpa using h
theorem ix_nat {α : Type} {l : List α} {i : Nat} (h : i < l.length) : ix l (i : Int) = some l[i] := by
  simp [ix, h]
theorem dt {p : Prop} [Decidable p] (h : p) : decide p = true := decide_eq_true h
theorem df {p : Prop} [Decidable p] (h : ¬ p) : decide p = false := decide_eq_false h
end Go.Q
