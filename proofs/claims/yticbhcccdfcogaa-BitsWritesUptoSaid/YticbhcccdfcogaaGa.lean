/- The pure part of BitsNumbers. -/
import Derived.Test.YticbhcccdfcogaaFm
import Derived.Test.YticbhcccdfcogaaQp
import Derived.KernelRfl
namespace Go.Proofs.Yticbhcccdfcogaa.W
open Go Go.Q Go.Proofs
set_option linter.unusedVariables false
set_option linter.unusedSimpArgs false

theorem alive {k : Nat} (hk : 64 ≤ k) : f11 k = some true := (f11_mono hk).h _ (by kernel_rfl)

def swap8 (b : BitVec 32) : BitVec 32 := ((b >>> 8) &&& 16711935#32) ||| ((b &&& 16711935#32) <<< 8)
def swap16 (b : BitVec 32) : BitVec 32 := (b >>> 16) ||| (b <<< 16)
def swap1 (b : BitVec 32) : BitVec 32 := ((b >>> 1) &&& 1431655765#32) ||| ((b &&& 1431655765#32) <<< 1)
def swap2 (b : BitVec 32) : BitVec 32 := ((b >>> 2) &&& 858993459#32) ||| ((b &&& 858993459#32) <<< 2)
def swap4 (b : BitVec 32) : BitVec 32 := ((b >>> 4) &&& 252645135#32) ||| ((b &&& 252645135#32) <<< 4)

theorem f36_eq (k : Nat) (b : BitVec 32) : f36 k (b.toNat : Int) = some ((swap16 (swap8 b)).toNat : Int) := by
  unfold f36
  rw [show (16711935 : Int) = ((16711935#32).toNat : Int) from rfl]
  simp only [Option.bind_some, u32_and, u32_or, u32_shr, u32_shl]
  rfl
theorem f32_eq (k : Nat) (b : BitVec 32) : f32 k (b.toNat : Int) = some ((swap16 (swap8 (swap4 (swap2 (swap1 b))))).toNat : Int) := by
  unfold f32
  rw [show (1431655765 : Int) = ((1431655765#32).toNat : Int) from rfl, show (858993459 : Int) = ((858993459#32).toNat : Int) from rfl, show (252645135 : Int) = ((252645135#32).toNat : Int) from rfl]
  simp only [Option.bind_some, u32_and, u32_or, u32_shr, u32_shl, f36_eq]
  rfl

theorem bit_swap1 (b : BitVec 32) {i : Nat} (h : i < 32) : (swap1 b).getLsbD i = b.getLsbD (if i % 2 < 1 then i + 1 else i - 1) := by
  obtain rfl | rfl | rfl | rfl | rfl | rfl | rfl | rfl | rfl | rfl | rfl | rfl | rfl | rfl | rfl | rfl | rfl | rfl | rfl | rfl | rfl | rfl | rfl | rfl | rfl | rfl | rfl | rfl | rfl | rfl | rfl | rfl : i = 0 ∨ i = 1 ∨ i = 2 ∨ i = 3 ∨ i = 4 ∨ i = 5 ∨ i = 6 ∨ i = 7 ∨ i = 8 ∨ i = 9 ∨ i = 10 ∨ i = 11 ∨ i = 12 ∨ i = 13 ∨ i = 14 ∨ i = 15 ∨ i = 16 ∨ i = 17 ∨ i = 18 ∨ i = 19 ∨ i = 20 ∨ i = 21 ∨ i = 22 ∨ i = 23 ∨ i = 24 ∨ i = 25 ∨ i = 26 ∨ i = 27 ∨ i = 28 ∨ i = 29 ∨ i = 30 ∨ i = 31 := by omega
  all_goals simp [swap1]
theorem bit_swap2 (b : BitVec 32) {i : Nat} (h : i < 32) : (swap2 b).getLsbD i = b.getLsbD (if i % 4 < 2 then i + 2 else i - 2) := by
  obtain rfl | rfl | rfl | rfl | rfl | rfl | rfl | rfl | rfl | rfl | rfl | rfl | rfl | rfl | rfl | rfl | rfl | rfl | rfl | rfl | rfl | rfl | rfl | rfl | rfl | rfl | rfl | rfl | rfl | rfl | rfl | rfl : i = 0 ∨ i = 1 ∨ i = 2 ∨ i = 3 ∨ i = 4 ∨ i = 5 ∨ i = 6 ∨ i = 7 ∨ i = 8 ∨ i = 9 ∨ i = 10 ∨ i = 11 ∨ i = 12 ∨ i = 13 ∨ i = 14 ∨ i = 15 ∨ i = 16 ∨ i = 17 ∨ i = 18 ∨ i = 19 ∨ i = 20 ∨ i = 21 ∨ i = 22 ∨ i = 23 ∨ i = 24 ∨ i = 25 ∨ i = 26 ∨ i = 27 ∨ i = 28 ∨ i = 29 ∨ i = 30 ∨ i = 31 := by omega
  all_goals simp [swap2]
theorem bit_swap4 (b : BitVec 32) {i : Nat} (h : i < 32) : (swap4 b).getLsbD i = b.getLsbD (if i % 8 < 4 then i + 4 else i - 4) := by
  obtain rfl | rfl | rfl | rfl | rfl | rfl | rfl | rfl | rfl | rfl | rfl | rfl | rfl | rfl | rfl | rfl | rfl | rfl | rfl | rfl | rfl | rfl | rfl | rfl | rfl | rfl | rfl | rfl | rfl | rfl | rfl | rfl : i = 0 ∨ i = 1 ∨ i = 2 ∨ i = 3 ∨ i = 4 ∨ i = 5 ∨ i = 6 ∨ i = 7 ∨ i = 8 ∨ i = 9 ∨ i = 10 ∨ i = 11 ∨ i = 12 ∨ i = 13 ∨ i = 14 ∨ i = 15 ∨ i = 16 ∨ i = 17 ∨ i = 18 ∨ i = 19 ∨ i = 20 ∨ i = 21 ∨ i = 22 ∨ i = 23 ∨ i = 24 ∨ i = 25 ∨ i = 26 ∨ i = 27 ∨ i = 28 ∨ i = 29 ∨ i = 30 ∨ i = 31 := by omega
  all_goals simp [swap4]
theorem bit_swap8 (b : BitVec 32) {i : Nat} (h : i < 32) : (swap8 b).getLsbD i = b.getLsbD (if i % 16 < 8 then i + 8 else i - 8) := by
  obtain rfl | rfl | rfl | rfl | rfl | rfl | rfl | rfl | rfl | rfl | rfl | rfl | rfl | rfl | rfl | rfl | rfl | rfl | rfl | rfl | rfl | rfl | rfl | rfl | rfl | rfl | rfl | rfl | rfl | rfl | rfl | rfl : i = 0 ∨ i = 1 ∨ i = 2 ∨ i = 3 ∨ i = 4 ∨ i = 5 ∨ i = 6 ∨ i = 7 ∨ i = 8 ∨ i = 9 ∨ i = 10 ∨ i = 11 ∨ i = 12 ∨ i = 13 ∨ i = 14 ∨ i = 15 ∨ i = 16 ∨ i = 17 ∨ i = 18 ∨ i = 19 ∨ i = 20 ∨ i = 21 ∨ i = 22 ∨ i = 23 ∨ i = 24 ∨ i = 25 ∨ i = 26 ∨ i = 27 ∨ i = 28 ∨ i = 29 ∨ i = 30 ∨ i = 31 := by omega
  all_goals simp [swap8]
theorem bit_swap16 (b : BitVec 32) {i : Nat} (h : i < 32) : (swap16 b).getLsbD i = b.getLsbD (if i % 32 < 16 then i + 16 else i - 16) := by
  obtain rfl | rfl | rfl | rfl | rfl | rfl | rfl | rfl | rfl | rfl | rfl | rfl | rfl | rfl | rfl | rfl | rfl | rfl | rfl | rfl | rfl | rfl | rfl | rfl | rfl | rfl | rfl | rfl | rfl | rfl | rfl | rfl : i = 0 ∨ i = 1 ∨ i = 2 ∨ i = 3 ∨ i = 4 ∨ i = 5 ∨ i = 6 ∨ i = 7 ∨ i = 8 ∨ i = 9 ∨ i = 10 ∨ i = 11 ∨ i = 12 ∨ i = 13 ∨ i = 14 ∨ i = 15 ∨ i = 16 ∨ i = 17 ∨ i = 18 ∨ i = 19 ∨ i = 20 ∨ i = 21 ∨ i = 22 ∨ i = 23 ∨ i = 24 ∨ i = 25 ∨ i = 26 ∨ i = 27 ∨ i = 28 ∨ i = 29 ∨ i = 30 ∨ i = 31 := by omega
  all_goals simp [swap16]
theorem rev_bit (b : BitVec 32) {i : Nat} (h : i < 32) : (swap16 (swap8 (swap4 (swap2 (swap1 b))))).getLsbD i = b.getLsbD (31 - i) := by
  rw [bit_swap16 _ h]
  obtain rfl | rfl | rfl | rfl | rfl | rfl | rfl | rfl | rfl | rfl | rfl | rfl | rfl | rfl | rfl | rfl | rfl | rfl | rfl | rfl | rfl | rfl | rfl | rfl | rfl | rfl | rfl | rfl | rfl | rfl | rfl | rfl : i = 0 ∨ i = 1 ∨ i = 2 ∨ i = 3 ∨ i = 4 ∨ i = 5 ∨ i = 6 ∨ i = 7 ∨ i = 8 ∨ i = 9 ∨ i = 10 ∨ i = 11 ∨ i = 12 ∨ i = 13 ∨ i = 14 ∨ i = 15 ∨ i = 16 ∨ i = 17 ∨ i = 18 ∨ i = 19 ∨ i = 20 ∨ i = 21 ∨ i = 22 ∨ i = 23 ∨ i = 24 ∨ i = 25 ∨ i = 26 ∨ i = 27 ∨ i = 28 ∨ i = 29 ∨ i = 30 ∨ i = 31 := by omega
  all_goals simp (disch := decide) only [Nat.reduceMod, Nat.reduceLT, Nat.reduceMul, reduceIte, Nat.reduceAdd, Nat.reduceSub, bit_swap8, bit_swap4, bit_swap2, bit_swap1]

def rev (b : BitVec 32) : BitVec 32 := swap16 (swap8 (swap4 (swap2 (swap1 b))))
/-- A number cut to 0 .. 32. -/
def cut (n : Int) : Nat := if n < 0 then 0 else if n > 32 then 32 else n.toNat
theorem cut_le (n : Int) : cut n ≤ 32 := by unfold cut; split <;> (try split) <;> omega

theorem f7_eq (k : Nat) (b : BitVec 32) (n : Int) : f7 k (b.toNat : Int) n = some (((((rev b).setWidth 64) >>> (32 - cut n)).setWidth 32).toNat : Int) := by
  have hc := cut_le n
  have e1 : (if (32 : Int) < (if (0 : Int) > n then (0 : Int) else n) then (32 : Int) else (if (0 : Int) > n then (0 : Int) else n)) = (cut n : Int) := by
    unfold cut
    split <;> split <;> (try split) <;> omega
  unfold f7
  rw [e1]
  simp only [Option.bind_some, f32_eq]
  rw [wi (by omega) (by omega), wu64 (by omega) (by omega), dt (show (0 : Int) ≤ 32 - (cut n : Int) by omega)]
  simp only [cond_true, u64_of_u32, u64_shr, u32_of_u64]
  rw [show ((32 : Int) - (cut n : Int)).toNat = 32 - cut n by omega]
  rfl

theorem f8_l0_eq (k : Nat) (b : BitVec 32) (n : Int) : ∀ (m i : Nat) (out : BitVec 32), i ≤ cut n → cut n - i < m → (∀ j, out.getLsbD j = (decide (j < i) && b.getLsbD (i - 1 - j))) →
    ∃ r : BitVec 32, f8_l0 k (b.toNat : Int) n m (out.toNat : Int) (i : Int) = some (r.toNat : Int) ∧ ∀ j, r.getLsbD j = (decide (j < cut n) && b.getLsbD (cut n - 1 - j)) := by
  intro m
  induction m with
  | zero => intro i out _ h; omega
  | succ m ih =>
    intro i out hi hm hout
    rw [f8_l0.eq_2]
    have hc := cut_le n
    by_cases h : i < cut n
    · have h1 : (i : Int) < n := by unfold cut at h; split at h <;> (try split at h) <;> omega
      rw [dt h1, dt (show (i : Int) < 32 by omega)]
      simp only [cond_true, Option.bind_some]
      rw [wu64 (by omega) (by omega), dt (show (0 : Int) ≤ (i : Int) by omega), show (1 : Int) = ((1#32).toNat : Int) from rfl]
      simp only [cond_true, Option.bind_some, u32_shr, u32_and, u32_shl, u32_or]
      rw [show ((1#32).toNat : Int) = 1 from rfl, wi (by omega) (by omega), show (i : Int) + 1 = ((i + 1 : Nat) : Int) from rfl]
      refine ih (i + 1) _ (by omega) (by omega) fun j => ?_
      simp only [BitVec.getLsbD_or, BitVec.getLsbD_shiftLeft, BitVec.getLsbD_and, BitVec.getLsbD_ushiftRight, hout]
      rcases Nat.eq_zero_or_pos j with rfl | hj
      · simp
      · have e0 : (1#32).getLsbD j = false := by
          rw [BitVec.getLsbD_one]
          simp; omega
        rw [e0, Bool.and_false, Bool.or_false]
        by_cases hj2 : j < i + 1
        · have h5 : ¬ j < 1 := by omega
          simp [show j < 32 by omega, show ¬ j < 1 by omega, show j - 1 < i by omega, hj2, show i - 1 - (j - 1) = i + 1 - 1 - j by omega, h5]
        · simp [show ¬ j - 1 < i by omega, hj2]
    · have hie : i = cut n := by omega
      have : (bif decide ((i : Int) < n) then some (decide ((i : Int) < 32)) else some false) = some false := by
        by_cases h1 : (i : Int) < n
        · rw [dt h1, df (show ¬ (i : Int) < 32 by unfold cut at hie; split at hie <;> (try split at hie) <;> omega)]; rfl
        · rw [df h1]; rfl
      rw [this]
      simp only [Option.bind_some, cond_false]
      exact ⟨out, rfl, fun j => by rw [hout, hie]⟩

theorem rev_eq (k : Nat) (b : BitVec 32) (n : Int) (hk : 40 ≤ k) : ∃ r, f7 k (b.toNat : Int) n = some r ∧ f8 k (b.toNat : Int) n = some r := by
  have hc := cut_le n
  obtain ⟨r, h1, h2⟩ := f8_l0_eq k b n k 0 0#32 (by omega) (by omega) (by simp)
  refine ⟨_, f7_eq k b n, ?_⟩
  unfold f8
  rw [show (0 : Int) = ((0#32).toNat : Int) from rfl] at *
  rw [show f8_l0 k (b.toNat : Int) n k ((0#32).toNat : Int) ((0#32).toNat : Int) = some (r.toNat : Int) from h1]
  simp only [Option.bind_some]
  congr 3
  apply BitVec.eq_of_getLsbD_eq
  intro i hi
  rw [h2, BitVec.getLsbD_setWidth, BitVec.getLsbD_ushiftRight, BitVec.getLsbD_setWidth]
  by_cases hic : i < cut n
  · rw [show rev b = swap16 (swap8 (swap4 (swap2 (swap1 b)))) from rfl, rev_bit b (by omega)]
    simp [hic, hi, show 32 - cut n + i < 64 by omega, show 31 - (32 - cut n + i) = cut n - 1 - i by omega]
  · rw [BitVec.getLsbD_of_ge (rev b) _ (by omega)]
    simp [hic]

def crcStep (x : BitVec 32) : BitVec 32 := (x >>> 1) ^^^ (3988292384#32 &&& -(x &&& 1#32))
def crcIt : Nat → BitVec 32 → BitVec 32
  | 0, x => x
  | n + 1, x => crcIt n (crcStep x)
theorem one_and (x : BitVec 32) : x &&& 1#32 = 0#32 ∨ x &&& 1#32 = 1#32 := by
  rcases Nat.mod_two_eq_zero_or_one x.toNat with h | h
  · left; apply BitVec.eq_of_toNat_eq; simp [Nat.and_one_is_mod, h]
  · right; apply BitVec.eq_of_toNat_eq; simp [Nat.and_one_is_mod, h]

theorem f9_l1_eq (k : Nat) : ∀ (m i : Nat) (x : BitVec 32), i ≤ 8 → 8 - i < m → f9_l1 k m (x.toNat : Int) (i : Int) = some ((crcIt (8 - i) x).toNat : Int)
  | 0, _, _, _, h => by omega
  | m + 1, i, x, hi, hm => by
    rw [f9_l1.eq_2]
    by_cases h : i < 8
    · rw [dt (show (i : Int) < 8 by omega), show (3988292384 : Int) = ((3988292384#32).toNat : Int) from rfl, show bits .and .u32 (x.toNat : Int) 1 = bits .and .u32 (x.toNat : Int) ((1#32).toNat : Int) from rfl]
      simp only [cond_true, Option.bind_some, u32_and, u32_neg, u32_shr, u32_xor]
      rw [wi (by omega) (by omega), show (i : Int) + 1 = ((i + 1 : Nat) : Int) from rfl]
      rw [f9_l1_eq k m (i + 1) _ (by omega) (by omega), show 8 - i = (8 - (i + 1)) + 1 by omega]
      rfl
    · rw [df (show ¬ (i : Int) < 8 by omega), show 8 - i = 0 by omega]
      rfl
theorem f10_l1_eq (k : Nat) : ∀ (m i : Nat) (x : BitVec 32), i ≤ 8 → 8 - i < m → f10_l1 k m (x.toNat : Int) (i : Int) = some ((crcIt (8 - i) x).toNat : Int)
  | 0, _, _, _, h => by omega
  | m + 1, i, x, hi, hm => by
    rw [f10_l1.eq_2]
    by_cases h : i < 8
    · rw [dt (show (i : Int) < 8 by omega), show bits .and .u32 (x.toNat : Int) 1 = bits .and .u32 (x.toNat : Int) ((1#32).toNat : Int) from rfl, show (3988292384 : Int) = ((3988292384#32).toNat : Int) from rfl]
      simp only [cond_true, Option.bind_some, u32_and, u32_shr, u32_xor]
      rw [wi (by omega) (by omega), show (i : Int) + 1 = ((i + 1 : Nat) : Int) from rfl]
      have key : (bif decide (((x &&& 1#32).toNat : Int) = 1) then some (((x >>> (1 : Int).toNat) ^^^ 3988292384#32).toNat : Int) else some ((x >>> (1 : Int).toNat).toNat : Int)) = some ((crcStep x).toNat : Int) := by
        rcases one_and x with h1 | h1
        · rw [h1]; unfold crcStep; rw [h1]; simp
        · rw [h1]; unfold crcStep; rw [h1]
          rw [show -(1#32) = BitVec.allOnes 32 from by decide, BitVec.and_allOnes]
          rfl
      rw [key]
      simp only [Option.bind_some]
      rw [f10_l1_eq k m (i + 1) _ (by omega) (by omega), show 8 - i = (8 - (i + 1)) + 1 by omega]
      rfl
    · rw [df (show ¬ (i : Int) < 8 by omega), show 8 - i = 0 by omega]
      rfl

def crcRow : List Int → BitVec 32 → BitVec 32
  | [], x => x
  | c :: l, x => crcRow l (crcIt 8 (x ^^^ BitVec.ofInt 32 c))
theorem u32_wrap (c : Int) : IntKind.wrap .u32 c = ((BitVec.ofInt 32 c).toNat : Int) := wrap_ofInt (k := .u32) rfl c

theorem f9_l0_eq (k : Nat) (l : List Int) (hk : 9 ≤ k) (hl : l.length ≤ 9223372036854775807) : ∀ (m i : Nat) (x : BitVec 32), i ≤ l.length → l.length - i < m → f9_l0 k l m (x.toNat : Int) (i : Int) = some ((crcRow (l.drop i) x).toNat : Int)
  | 0, _, _, _, h => by omega
  | m + 1, i, x, hi, hm => by
    rw [f9_l0.eq_2]
    by_cases h : i < l.length
    · rw [dt (show (i : Int) < ((l.length : Nat) : Int) by omega), ix_nat h]
      simp only [cond_true, Option.bind_some, u32_wrap, u32_xor]
      rw [show f9_l1 k k _ 0 = _ from f9_l1_eq k k 0 _ (by omega) (by omega)]
      simp only [Option.bind_some]
      rw [wi (by omega) (by omega), show (i : Int) + 1 = ((i + 1 : Nat) : Int) from rfl, f9_l0_eq k l hk hl m (i + 1) _ (by omega) (by omega), List.drop_eq_getElem_cons h]
      rfl
    · rw [df (show ¬ (i : Int) < ((l.length : Nat) : Int) by omega), List.drop_of_length_le (by omega)]
      rfl
theorem f10_l0_eq (k : Nat) (l : List Int) (hk : 9 ≤ k) (hl : l.length ≤ 9223372036854775807) : ∀ (m i : Nat) (x : BitVec 32), i ≤ l.length → l.length - i < m → f10_l0 k l m (x.toNat : Int) (i : Int) = some ((crcRow (l.drop i) x).toNat : Int)
  | 0, _, _, _, h => by omega
  | m + 1, i, x, hi, hm => by
    rw [f10_l0.eq_2]
    by_cases h : i < l.length
    · rw [dt (show (i : Int) < ((l.length : Nat) : Int) by omega), ix_nat h]
      simp only [cond_true, Option.bind_some, u32_wrap, u32_xor]
      rw [show f10_l1 k k _ 0 = _ from f10_l1_eq k k 0 _ (by omega) (by omega)]
      simp only [Option.bind_some]
      rw [wi (by omega) (by omega), show (i : Int) + 1 = ((i + 1 : Nat) : Int) from rfl, f10_l0_eq k l hk hl m (i + 1) _ (by omega) (by omega), List.drop_eq_getElem_cons h]
      rfl
    · rw [df (show ¬ (i : Int) < ((l.length : Nat) : Int) by omega), List.drop_of_length_le (by omega)]
      rfl
theorem crc_eq (k : Nat) (l : List Int) (hk : 9 ≤ k) (hl : l.length ≤ 9223372036854775807) (hkl : l.length < k) : ∃ r, f9 k l = some r ∧ f10 k l = some r := by
  refine ⟨bits .xor .u32 (if IntKind.signed .u32 then -1 else IntKind.max .u32) ((crcRow l 4294967295#32).toNat : Int), ?_, ?_⟩
  · unfold f9
    rw [show f9_l0 k l k 4294967295 0 = _ from f9_l0_eq k l hk hl k 0 4294967295#32 (by omega) (by omega)]
    rfl
  · unfold f10
    rw [show f10_l0 k l k 4294967295 0 = _ from f10_l0_eq k l hk hl k 0 4294967295#32 (by omega) (by omega)]
    rfl

theorem bitsNumbers (a b : Int) (l : List Int) (ha : (Lit.int .u32 a).wf = true) (hb : (Lit.int .i64 b).wf = true) (hl : l.length ≤ maxLen ∧ ∀ x ∈ l, (Lit.int .u8 x).wf = true) : ∃ k, f3 k a b l = some true := by
  obtain ⟨v, rfl⟩ := u32_bv ha
  have hl' : l.length ≤ 9223372036854775807 := hl.1
  refine ⟨l.length + 64, ?_⟩
  obtain ⟨r, h1, h2⟩ := rev_eq (l.length + 64) v b (by omega)
  obtain ⟨c, h3, h4⟩ := crc_eq (l.length + 64) l (by omega) hl' (by omega)
  unfold f3
  simp only [h1, h2, h3, h4, Option.bind_some, decide_true, cond_true, alive (show 64 ≤ l.length + 64 by omega)]
end Go.Proofs.Yticbhcccdfcogaa.W
