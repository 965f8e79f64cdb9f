/- A bit out of bytes. -/
import Derived.Test.YthgbompoldmhmabPh1
import Derived.Test.YthgbompoldmhmabQs
import Derived.KernelRfl
namespace Go.Proofs.Ythgbompoldmhmab.W
open Go Go.Q Go.Proofs
set_option linter.unusedVariables false
set_option linter.unusedSimpArgs false

def okB (b : List Int) : Prop := ∀ x ∈ b, 0 ≤ x ∧ x ≤ 255
/-- A bit of bytes. -/
def tk (B : List Int) (a : Nat) : Nat := (B.getD (a / 8) 0).toNat / 2 ^ (a % 8) % 2
theorem tk_le (B : List Int) (a : Nat) : tk B a ≤ 1 := by unfold tk; omega
theorem byte_bit {x : Int} (h : 0 ≤ x ∧ x ≤ 255) {p : Nat} (hp : p ≤ 7) : bits .and .u32 (IntKind.wrap .u32 (shrI .u8 x (p : Int))) 1 = ((x.toNat / 2 ^ p % 2 : Nat) : Int) := by
  obtain ⟨b, rfl⟩ : ∃ b : BitVec 8, x = (b.toNat : Int) := ⟨BitVec.ofNat 8 x.toNat, by simp; omega⟩
  rw [u8_shr, u32_of_u8, show (1 : Int) = ((1#32).toNat : Int) from rfl, u32_and, Int.toNat_natCast, Int.toNat_natCast]
  congr 1
  rw [BitVec.toNat_and, BitVec.toNat_setWidth, BitVec.toNat_ushiftRight, Nat.shiftRight_eq_div_pow, show (1#32).toNat = 1 from rfl, Nat.and_one_is_mod, Nat.mod_mod_of_dvd _ (by decide)]
theorem byte_bit64 {x : Int} (h : 0 ≤ x ∧ x ≤ 255) {p : Nat} (hp : p ≤ 7) : IntKind.wrap .u32 (bits .and .u64 (bits .or .u64 0 (shlI .u64 (IntKind.wrap .u64 (shrI .u8 x (p : Int))) 0)) 1) = ((x.toNat / 2 ^ p % 2 : Nat) : Int) := by
  obtain ⟨b, rfl⟩ : ∃ b : BitVec 8, x = (b.toNat : Int) := ⟨BitVec.ofNat 8 x.toNat, by simp; omega⟩
  rw [u8_shr, u64_of_u8, show (1 : Int) = ((1#64).toNat : Int) from rfl, show (0 : Int) = ((0#64).toNat : Int) from rfl, u64_shl, u64_or, u64_and, u32_of_u64, Int.toNat_natCast, Int.toNat_natCast]
  congr 1
  rw [BitVec.toNat_setWidth, BitVec.toNat_and, show (1#64).toNat = 1 from rfl, Nat.and_one_is_mod, BitVec.toNat_or, BitVec.toNat_shiftLeft, BitVec.toNat_setWidth, BitVec.toNat_ushiftRight, Nat.shiftRight_eq_div_pow]
  have hb := b.isLt
  have h2 : b.toNat / 2 ^ p ≤ b.toNat := Nat.div_le_self _ _
  simp only [show (0#64).toNat = 0 from rfl, Int.toNat_natCast, Int.toNat_zero, Nat.shiftLeft_zero, Nat.zero_or]
  rw [Nat.mod_eq_of_lt (show b.toNat / 2 ^ p < 2 ^ 64 by omega), Nat.mod_eq_of_lt (show b.toNat / 2 ^ p < 2 ^ 64 by omega)]
  omega
theorem g_bits_Reader_Take_eq (k : Nat) (hk : 10 ≤ k) (B : List Int) (hB : okB B) (hl : B.length ≤ 140737488355328) (a : Nat) (ha : a ≤ 8 * B.length) :
    g_bits_Reader_Take k 1 (B.drop (a / 8)) ((a % 8 : Nat) : Int) = if a < 8 * B.length then some ((tk B a : Int), 0, B.drop ((a + 1) / 8), (((a + 1) % 8 : Nat) : Int)) else some (0, 10, B.drop (a / 8), ((a % 8 : Nat) : Int)) := by
  unfold g_bits_Reader_Take g_bits_Reader_Left
  simp only [Option.bind_some, bd]
  rw [if_neg (by omega), df (by omega)]
  simp only [Option.bind_some, bf, List.length_drop]
  rw [wi (n := 8 * ((B.length - a / 8 : Nat) : Int)) (by omega) (by omega), wi (n := 8 * ((B.length - a / 8 : Nat) : Int) - ((a % 8 : Nat) : Int)) (by omega) (by omega)]
  by_cases h : a < 8 * B.length
  · rw [if_neg (by omega), if_pos h]
    obtain ⟨k, rfl⟩ : ∃ k', k = k' + 2 := ⟨k - 2, by omega⟩
    have hi : a / 8 < B.length := by omega
    have e1 : ix (B.drop (a / 8)) 0 = some B[a / 8] := by
      unfold ix
      rw [if_pos (by omega), Int.toNat_zero, List.getElem?_drop, Nat.add_zero, List.getElem?_eq_getElem hi]
    rw [g_bits_Reader_Take_l0.eq_2]
    simp only [Option.bind_some, bd]
    rw [if_pos (by omega), e1]
    simp only [Option.bind_some]
    rw [if_pos (by omega), if_pos (by omega)]
    have hv : IntKind.wrap .u32 (bits .and .u64 (bits .or .u64 0 (shlI .u64 (IntKind.wrap .u64 (shrI .u8 B[a / 8] ((a % 8 : Nat) : Int))) 0)) 1) = (tk B a : Int) := by
      rw [byte_bit64 (hB _ (List.getElem_mem hi)) (by omega)]
      simp [tk, List.getD_eq_getElem?_getD, List.getElem?_eq_getElem hi]
    have hm : IntKind.wrap .u64 (shlI .u64 1 1 - 1) = 1 := by decide
    have hmin : (if (1 : Int) - 0 < 8 - ((a % 8 : Nat) : Int) then (1 : Int) - 0 else 8 - ((a % 8 : Nat) : Int)) = 1 := by split <;> omega
    rw [wi (n := (1 : Int) - 0) (by omega) (by omega), wi (n := (8 : Int) - ((a % 8 : Nat) : Int)) (by omega) (by omega), hmin, wi (n := ((a % 8 : Nat) : Int) + 1) (by omega) (by omega), wi (n := (0 : Int) + 1) (by omega) (by omega)]
    have fin : ∀ v b p, g_bits_Reader_Take_l0 (k + 2) 1 (k + 1) v (0 + 1) b p = some (v, b, p) := by
      intro v b p
      rw [g_bits_Reader_Take_l0.eq_2, bd, if_neg (by omega)]
    by_cases h8 : a % 8 = 7
    · rw [if_pos (by omega), if_pos (by simp; omega), fin]
      simp only [Option.bind_some]
      rw [if_pos (by omega), hm, hv]
      have e3 : (a + 1) / 8 = a / 8 + 1 := by omega
      have e4 : (a + 1) % 8 = 0 := by omega
      rw [e3, e4, Int.toNat_natCast, List.take_length, show Int.toNat 1 = 1 from rfl, List.drop_drop]
      rfl
    · rw [if_neg (by omega), fin]
      simp only [Option.bind_some]
      rw [if_pos (by omega), hm, hv]
      have e3 : (a + 1) / 8 = a / 8 := by omega
      have e4 : (a + 1) % 8 = a % 8 + 1 := by omega
      rw [e3, e4]
      rfl
  · rw [if_pos (by omega), if_neg h]
theorem shl64 {n : Nat} (h : n ≤ 65536) : shlI .i64 (n : Int) 1 = ((2 * n : Nat) : Int) := by
  show IntKind.wrap .i64 ((n : Int) * 2) = _
  rw [wi (by omega) (by omega)]
  omega
theorem or_bit {v b : Nat} (hb : b ≤ 1) : 2 * v ||| b = 2 * v + b := by
  rcases Nat.le_one_iff_eq_zero_or_eq_one.1 hb with rfl | rfl
  · simp
  · apply Nat.eq_of_testBit_eq
    intro i
    rw [Nat.testBit_or]
    cases i with
    | zero => simp [Nat.testBit_zero]
    | succ i => rw [Nat.testBit_succ, Nat.testBit_succ, Nat.testBit_succ, show 2 * v / 2 = v by omega, show (2 * v + 1) / 2 = v by omega]; simp
theorem or_bit64 {v b : Nat} (hv : v ≤ 65536) (hb : b ≤ 1) : bits .or .i64 (((2 * v : Nat) : Int)) (b : Int) = ((2 * v + b : Nat) : Int) := by
  have e : bits .or .i64 (((2 * v : Nat) : Int)) (b : Int) = IntKind.wrap .i64 ((BitVec.ofInt 64 ((2 * v : Nat) : Int) ||| BitVec.ofInt 64 (b : Int)).toNat : Int) := rfl
  rw [e, BitVec.ofInt_natCast, BitVec.ofInt_natCast, BitVec.toNat_or, BitVec.toNat_ofNat, BitVec.toNat_ofNat, Nat.mod_eq_of_lt (by omega), Nat.mod_eq_of_lt (by omega), or_bit hb, wi (by omega) (by omega)]
end Go.Proofs.Ythgbompoldmhmab.W
