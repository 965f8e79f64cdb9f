/- Bits turned round and written. -/
import Derived.Test.YthgbompoldmhmabPh2
namespace Go.Proofs.Ythgbompoldmhmab.W
open Go Go.Q Go.Proofs
set_option linter.unusedVariables false
set_option linter.unusedSimpArgs false

def swap8 (b : BitVec 32) : BitVec 32 := ((b >>> 8) &&& 16711935#32) ||| ((b &&& 16711935#32) <<< 8)
def swap16 (b : BitVec 32) : BitVec 32 := (b >>> 16) ||| (b <<< 16)
def swap1 (b : BitVec 32) : BitVec 32 := ((b >>> 1) &&& 1431655765#32) ||| ((b &&& 1431655765#32) <<< 1)
def swap2 (b : BitVec 32) : BitVec 32 := ((b >>> 2) &&& 858993459#32) ||| ((b &&& 858993459#32) <<< 2)
def swap4 (b : BitVec 32) : BitVec 32 := ((b >>> 4) &&& 252645135#32) ||| ((b &&& 252645135#32) <<< 4)

theorem g_math_bits_ReverseBytes32_eq (k : Nat) (b : BitVec 32) : g_math_bits_ReverseBytes32 k (b.toNat : Int) = some ((swap16 (swap8 b)).toNat : Int) := by
  unfold g_math_bits_ReverseBytes32
  rw [show (16711935 : Int) = ((16711935#32).toNat : Int) from rfl]
  simp only [Option.bind_some, u32_and, u32_or, u32_shr, u32_shl]
  rfl
theorem g_math_bits_Reverse32_eq (k : Nat) (b : BitVec 32) : g_math_bits_Reverse32 k (b.toNat : Int) = some ((swap16 (swap8 (swap4 (swap2 (swap1 b))))).toNat : Int) := by
  unfold g_math_bits_Reverse32
  rw [show (1431655765 : Int) = ((1431655765#32).toNat : Int) from rfl, show (858993459 : Int) = ((858993459#32).toNat : Int) from rfl, show (252645135 : Int) = ((252645135#32).toNat : Int) from rfl]
  simp only [Option.bind_some, u32_and, u32_or, u32_shr, u32_shl, g_math_bits_ReverseBytes32_eq]
  rfl

theorem bit_swap1 (b : BitVec 32) {i : Nat} (h : i < 32) : (swap1 b).getLsbD i = b.getLsbD (if i % 2 < 1 then i + 1 else i - 1) := by
  obtain rfl | rfl | rfl | rfl | rfl | rfl | rfl | rfl | rfl | rfl | rfl | rfl | rfl | rfl | rfl | rfl | rfl | rfl | rfl | rfl | rfl | rfl | rfl | rfl | rfl | rfl | rfl | rfl | rfl | rfl | rfl | rfl : i = 0 ∨ i = 1 ∨ i = 2 ∨ i = 3 ∨ i = 4 ∨ i = 5 ∨ i = 6 ∨ i = 7 ∨ i = 8 ∨ i = 9 ∨ i = 10 ∨ i = 11 ∨ i = 12 ∨ i = 13 ∨ i = 14 ∨ i = 15 ∨ i = 16 ∨ i = 17 ∨ i = 18 ∨ i = 19 ∨ i = 20 ∨ i = 21 ∨ i = 22 ∨ i = 23 ∨ i = 24 ∨ i = 25 ∨ i = 26 ∨ i = 27 ∨ i = 28 ∨ i = 29 ∨ i = 30 ∨ i = 31 := by omega
  all_goals simp [swap1]
theorem bit_swap2 (b : BitVec 32) {i : Nat} (h : i < 32) : (swap2 b).getLsbD i = b.getLsbD (if i % 4 < 2 then i + 2 else i - 2) := by
  obtain rfl | rfl | rfl | rfl | rfl | rfl | rfl | rfl | rfl | rfl | rfl | rfl | rfl | rfl | rfl | rfl | rfl | rfl | rfl | rfl | rfl | rfl | rfl | rfl | rfl | rfl | rfl | rfl | rfl | rfl | rfl | rfl : i = 0 ∨ i = 1 ∨ i = 2 ∨ i = 3 ∨ i = 4 ∨ i = 5 ∨ i = 6 ∨ i = 7 ∨ i = 8 ∨ i = 9 ∨ i = 10 ∨ i = 11 ∨ i = 12 ∨ i = 13 ∨ i = 14 ∨ i = 15 ∨ i = 16 ∨ i = 17 ∨ i = 18 ∨ i = 19 ∨ i = 20 ∨ i = 21 ∨ i = 22 ∨ i = 23 ∨ i = 24 ∨ i = 25 ∨ i = 26 ∨ i = 27 ∨ i = 28 ∨ i = 29 ∨ i = 30 ∨ i = 31 := by omega
  all_goals simp [swap2]
theorem bit_swap4 (b : BitVec 32) {i : Nat} (h : i < 32) : (swap4 b).getLsbD i = b.getLsbD (if i % 8 < 4 then i + 4 else i - 4) := by
  obtain rfl | rfl | rfl | rfl | rfl | rfl | rfl | rfl | rfl | rfl | rfl | rfl | rfl | rfl | rfl | rfl | rfl | rfl | rfl | rfl | rfl | rfl | rfl | rfl | rfl | rfl | rfl | rfl | rfl | rfl | rfl | rfl : i = 0 ∨ i = 1 ∨ i = 2 ∨ i = 3 ∨ i = 4 ∨ i = 5 ∨ i = 6 ∨ i = 7 ∨ i = 8 ∨ i = 9 ∨ i = 10 ∨ i = 11 ∨ i = 12 ∨ i = 13 ∨ i = 14 ∨ i = 15 ∨ i = 16 ∨ i = 17 ∨ i = 18 ∨ i = 19 ∨ i = 20 ∨ i = 21 ∨ i = 22 ∨ i = 23 ∨ i = 24 ∨ i = 25 ∨ i = 26 ∨ i = 27 ∨ i = 28 ∨ i = 29 ∨ i = 30 ∨ i = 31 := by omega
  all_goals simp [swap4]
theorem bit_swap8 (b : BitVec 32) {i : Nat} (h : i < 32) : (swap8 b).getLsbD i = b.getLsbD (if i % 16 < 8 then i + 8 else i - 8) := by
  obtain rfl | rfl | rfl | rfl | rfl | rfl | rfl | rfl | rfl | rfl | rfl | rfl | rfl | rfl | rfl | rfl | rfl | rfl | rfl | rfl | rfl | rfl | rfl | rfl | rfl | rfl | rfl | rfl | rfl | rfl | rfl | rfl : i = 0 ∨ i = 1 ∨ i = 2 ∨ i = 3 ∨ i = 4 ∨ i = 5 ∨ i = 6 ∨ i = 7 ∨ i = 8 ∨ i = 9 ∨ i = 10 ∨ i = 11 ∨ i = 12 ∨ i = 13 ∨ i = 14 ∨ i = 15 ∨ i = 16 ∨ i = 17 ∨ i = 18 ∨ i = 19 ∨ i = 20 ∨ i = 21 ∨ i = 22 ∨ i = 23 ∨ i = 24 ∨ i = 25 ∨ i = 26 ∨ i = 27 ∨ i = 28 ∨ i = 29 ∨ i = 30 ∨ i = 31 := by omega
  all_goals simp [swap8]
theorem bit_swap16 (b : BitVec 32) {i : Nat} (h : i < 32) : (swap16 b).getLsbD i = b.getLsbD (if i % 32 < 16 then i + 16 else i - 16) := by
  obtain rfl | rfl | rfl | rfl | rfl | rfl | rfl | rfl | rfl | rfl | rfl | rfl | rfl | rfl | rfl | rfl | rfl | rfl | rfl | rfl | rfl | rfl | rfl | rfl | rfl | rfl | rfl | rfl | rfl | rfl | rfl | rfl : i = 0 ∨ i = 1 ∨ i = 2 ∨ i = 3 ∨ i = 4 ∨ i = 5 ∨ i = 6 ∨ i = 7 ∨ i = 8 ∨ i = 9 ∨ i = 10 ∨ i = 11 ∨ i = 12 ∨ i = 13 ∨ i = 14 ∨ i = 15 ∨ i = 16 ∨ i = 17 ∨ i = 18 ∨ i = 19 ∨ i = 20 ∨ i = 21 ∨ i = 22 ∨ i = 23 ∨ i = 24 ∨ i = 25 ∨ i = 26 ∨ i = 27 ∨ i = 28 ∨ i = 29 ∨ i = 30 ∨ i = 31 := by omega
  all_goals simp [swap16]
theorem rev_bit (b : BitVec 32) {i : Nat} (h : i < 32) : (swap16 (swap8 (swap4 (swap2 (swap1 b))))).getLsbD i = b.getLsbD (31 - i) := by
  rw [bit_swap16 _ h]
  obtain rfl | rfl | rfl | rfl | rfl | rfl | rfl | rfl | rfl | rfl | rfl | rfl | rfl | rfl | rfl | rfl | rfl | rfl | rfl | rfl | rfl | rfl | rfl | rfl | rfl | rfl | rfl | rfl | rfl | rfl | rfl | rfl : i = 0 ∨ i = 1 ∨ i = 2 ∨ i = 3 ∨ i = 4 ∨ i = 5 ∨ i = 6 ∨ i = 7 ∨ i = 8 ∨ i = 9 ∨ i = 10 ∨ i = 11 ∨ i = 12 ∨ i = 13 ∨ i = 14 ∨ i = 15 ∨ i = 16 ∨ i = 17 ∨ i = 18 ∨ i = 19 ∨ i = 20 ∨ i = 21 ∨ i = 22 ∨ i = 23 ∨ i = 24 ∨ i = 25 ∨ i = 26 ∨ i = 27 ∨ i = 28 ∨ i = 29 ∨ i = 30 ∨ i = 31 := by omega
  all_goals simp (disch := decide) only [Nat.reduceMod, Nat.reduceLT, Nat.reduceMul, reduceIte, Nat.reduceAdd, Nat.reduceSub, bit_swap8, bit_swap4, bit_swap2, bit_swap1]

def rev (b : BitVec 32) : BitVec 32 := swap16 (swap8 (swap4 (swap2 (swap1 b))))
/-- A number cut to 0 .. 32. -/
def cut (n : Int) : Nat := if n < 0 then 0 else if n > 32 then 32 else n.toNat
theorem cut_le (n : Int) : cut n ≤ 32 := by unfold cut; split <;> (try split) <;> omega

theorem g_bits_Reverse_eq (k : Nat) (b : BitVec 32) (n : Int) : g_bits_Reverse k (b.toNat : Int) n = some (((((rev b).setWidth 64) >>> (32 - cut n)).setWidth 32).toNat : Int) := by
  have hc := cut_le n
  have e1 : (if (32 : Int) < (if (0 : Int) > n then (0 : Int) else n) then (32 : Int) else (if (0 : Int) > n then (0 : Int) else n)) = (cut n : Int) := by
    unfold cut
    split <;> split <;> (try split) <;> omega
  unfold g_bits_Reverse
  simp only [Option.bind_some]
  rw [e1]
  simp only [Option.bind_some, g_math_bits_Reverse32_eq]
  rw [wi (by omega) (by omega), wu64 (by omega) (by omega), dt (show (0 : Int) ≤ 32 - (cut n : Int) by omega)]
  simp only [cond_true, u64_of_u32, u64_shr, u32_of_u64]
  rw [show ((32 : Int) - (cut n : Int)).toNat = 32 - cut n by omega]
  rfl

def bitAt (b : List Int) (i : Nat) : Bool := (BitVec.ofInt 8 (b.getD (i / 8) 0)).getLsbD (i % 8)

theorem okB_bv {x : Int} (h : 0 ≤ x ∧ x ≤ 255) : x = ((BitVec.ofInt 8 x).toNat : Int) := by
  rw [BitVec.toNat_ofInt, Int.toNat_of_nonneg (by simp; omega)]
  simp; omega
theorem ok_toNat (v : BitVec 8) : 0 ≤ (v.toNat : Int) ∧ (v.toNat : Int) ≤ 255 := by
  have := v.isLt
  omega

/-- What a writer holds. -/
structure Wr (n : Int) (b : List Int) (B : List Bool) : Prop where
  n : n = (B.length : Int)
  l : b.length = (B.length + 7) / 8
  ok : okB b
  bit : ∀ i, bitAt b i = B.getD i false

theorem Wr.nil : Wr 0 [] [] := ⟨rfl, rfl, by simp [okB], fun i => by simp [bitAt]⟩

theorem ofInt8_toNat (v : BitVec 8) : BitVec.ofInt 8 (v.toNat : Int) = v := by
  rw [BitVec.ofInt_natCast, BitVec.ofNat_toNat]; simp

/-- One bit more. -/
theorem Wr.step {n : Int} {b : List Int} {B : List Bool} (h : Wr n b B) {b1 : List Int} (h1 : b1 = if B.length % 8 = 0 then b ++ [0] else b) (c : BitVec 8) (hc : ∀ j, 0 < j → c.getLsbD j = false) {x : BitVec 8} (hx : b1.getD (B.length / 8) 0 = (x.toNat : Int)) :
    Wr (n + 1) (b1.set (B.length / 8) ((x ||| (c <<< (B.length % 8))).toNat : Int)) (B ++ [c.getLsbD 0]) := by
  have hl : b1.length = B.length / 8 + 1 := by
    rw [h1]
    have := h.l
    split
    · simp; omega
    · omega
  have hb1 : ∀ i, bitAt b1 i = bitAt b i := by
    intro i
    rw [h1]
    split
    · unfold bitAt
      congr 2
      simp only [List.getD_eq_getElem?_getD, List.getElem?_append]
      split
      · rfl
      · rename_i hge
        rw [List.getElem?_eq_none (l := b) (by omega)]
        cases hq : i / 8 - b.length with
        | zero => rfl
        | succ q => rfl
    · rfl
  refine ⟨by rw [h.n]; simp, by simp only [List.length_set, hl, List.length_append, List.length_cons, List.length_nil]; omega, ?_, ?_⟩
  · intro y hy
    rcases List.mem_or_eq_of_mem_set hy with hy | rfl
    · rw [h1] at hy
      split at hy
      · rcases List.mem_append.1 hy with hy | hy
        · exact h.ok y hy
        · simp at hy; subst hy; omega
      · exact h.ok y hy
    · exact ok_toNat _
  · intro i
    by_cases hi : i / 8 = B.length / 8
    · have e1 : bitAt (b1.set (B.length / 8) ((x ||| (c <<< (B.length % 8))).toNat : Int)) i = (x ||| (c <<< (B.length % 8))).getLsbD (i % 8) := by
        unfold bitAt
        rw [hi, List.getD_eq_getElem?_getD, List.getElem?_set_self (by omega), Option.getD_some, ofInt8_toNat]
      have e2 : x.getLsbD (i % 8) = B.getD i false := by
        rw [← h.bit, ← hb1]
        unfold bitAt
        rw [hi, hx, ofInt8_toNat]
      rw [e1, BitVec.getLsbD_or, e2, BitVec.getLsbD_shiftLeft]
      simp only [List.getD_eq_getElem?_getD, List.getElem?_append]
      rcases Nat.lt_trichotomy i B.length with h2 | h2 | h2
      · rw [if_pos h2]
        have : i % 8 < B.length % 8 := by omega
        simp [this]
      · rw [if_neg (by omega)]
        subst h2
        simp [show B.length % 8 < 8 by omega]
      · rw [if_neg (by omega), List.getElem?_eq_none (by omega), List.getElem?_eq_none (by simp; omega)]
        rw [hc _ (by omega)]
        simp
    · have e1 : bitAt (b1.set (B.length / 8) ((x ||| (c <<< (B.length % 8))).toNat : Int)) i = bitAt b1 i := by
        unfold bitAt
        rw [List.getD_eq_getElem?_getD, List.getElem?_set_ne (Ne.symm hi), ← List.getD_eq_getElem?_getD]
      rw [e1, hb1, h.bit]
      simp only [List.getD_eq_getElem?_getD, List.getElem?_append]
      split
      · rfl
      · rename_i hge
        have : B.length < i := by
          rcases Nat.lt_or_ge B.length i with h3 | h3
          · exact h3
          · exfalso; apply hi; congr 1; omega
        rw [List.getElem?_eq_none (by omega), List.getElem?_eq_none (by simp; omega)]

def bitsOf (v : BitVec 32) (c : Nat) : List Bool := (List.range c).map v.getLsbD
theorem bitsOf_length (v : BitVec 32) (c : Nat) : (bitsOf v c).length = c := by simp [bitsOf]
theorem bitsOf_drop (v : BitVec 32) {c i : Nat} (h : i < c) : (bitsOf v c).drop i = v.getLsbD i :: (bitsOf v c).drop (i + 1) := by
  rw [List.drop_eq_getElem_cons (by rw [bitsOf_length]; exact h)]
  simp [bitsOf]

theorem tm8 (a : Nat) : Int.tmod (a : Int) 8 = ((a % 8 : Nat) : Int) := rfl

theorem g_bits_Writer_Put__b_l0_eq (k : Nat) (v : BitVec 32) (c : Nat) (hc : c ≤ 32) : ∀ (m i : Nat) (n : Int) (b : List Int) (B : List Bool), Wr n b B → i ≤ c → c - i < m → B.length + (c - i) ≤ 1125899906842000 →
    ∃ n' b', g_bits_Writer_Put__b_l0 k (v.toNat : Int) (c : Int) m (i : Int) n b = some (Sum.inr (n', b')) ∧ Wr n' b' (B ++ (bitsOf v c).drop i) := by
  intro m
  induction m with
  | zero => intro i n b B _ _ h; omega
  | succ m ih =>
    intro i n b B hw hi hm hB
    rw [g_bits_Writer_Put__b_l0.eq_2]
    by_cases h : i < c
    · rw [dt (show (i : Int) < (c : Int) by omega), dt (show (0 : Int) ≤ (i : Int) by omega)]
      have hn := hw.n
      have hl := hw.l
      subst hn
      let b1 : List Int := if B.length % 8 = 0 then b ++ [0] else b
      have hb1l : b1.length = B.length / 8 + 1 := by
        show (if B.length % 8 = 0 then b ++ [0] else b).length = _
        split
        · simp; omega
        · omega
      have e1 : (bif decide (Int.tmod (B.length : Int) 8 = 0) then (bif decide ((List.length b + List.length [(0 : Int)]) * 1 ≤ 140737488355328) then some (b ++ [0]) else none) else some b) = some b1 := by
        rw [tm8]
        show _ = some (if B.length % 8 = 0 then b ++ [0] else b)
        by_cases h0 : B.length % 8 = 0
        · rw [dt (show ((B.length % 8 : Nat) : Int) = 0 by omega), dt (show (List.length b + List.length [(0 : Int)]) * 1 ≤ 140737488355328 by simp; omega), if_pos h0]; rfl
        · rw [df (show ¬ ((B.length % 8 : Nat) : Int) = 0 by omega), if_neg h0]; rfl
      have hlt : B.length / 8 < b1.length := by omega
      have hok1 : okB b1 := by
        intro y hy
        have hy' : y ∈ (if B.length % 8 = 0 then b ++ [0] else b) := hy
        split at hy'
        · rcases List.mem_append.1 hy' with hy | hy
          · exact hw.ok y hy
          · simp at hy; subst hy; omega
        · exact hw.ok y hy'
      have hx := okB_bv (hok1 _ (List.getElem_mem hlt))
      have e2 : bits .and .u8 (IntKind.wrap .u8 (shrI .u32 (v.toNat : Int) (i : Int))) 1 = (((v >>> i).setWidth 8 &&& 1#8).toNat : Int) := by
        rw [u32_shr, u8_of_u32, show (1 : Int) = ((1#8).toNat : Int) from rfl, u8_and]; rfl
      rw [e1, e2]
      simp only [cond_true, Option.bind_some]
      rw [wi (by omega) (by omega), show (((b1.length : Nat) : Int) - 1) = ((B.length / 8 : Nat) : Int) by omega, ix_nat hlt]
      simp only [Option.bind_some, tm8]
      rw [dt (show (0 : Int) ≤ ((B.length % 8 : Nat) : Int) by omega)]
      simp only [cond_true, Bool.not_true, cond_false]
      rw [hx, u8_shl, u8_or, wi (by omega) (by omega), wi (by omega) (by omega), Int.toNat_natCast, Int.toNat_natCast]
      have hst := hw.step (b1 := b1) rfl ((v >>> i).setWidth 8 &&& 1#8) (fun j hj => by
        rw [BitVec.getLsbD_and, BitVec.getLsbD_one]; simp; omega) (x := BitVec.ofInt 8 b1[B.length / 8]) (by
        rw [← hx, List.getD_eq_getElem?_getD, List.getElem?_eq_getElem hlt]; rfl)
      obtain ⟨n', b', h1, h2⟩ := ih (i + 1) _ _ _ hst (by omega) (by omega) (by simp; omega)
      refine ⟨n', b', h1, ?_⟩
      have hbit : ((v >>> i).setWidth 8 &&& 1#8).getLsbD 0 = v.getLsbD i := by simp
      rw [hbit, List.append_assoc] at h2
      rw [bitsOf_drop v h]
      exact h2
    · rw [df (show ¬ (i : Int) < (c : Int) by omega)]
      have : i = c := by omega
      subst this
      refine ⟨n, b, rfl, ?_⟩
      rw [List.drop_of_length_le (by rw [bitsOf_length]; omega), List.append_nil]
      exact hw

theorem g_bits_Writer_Put__b_bad (k : Nat) (v c n : Int) (b : List Int) (h : ¬ (0 ≤ c ∧ c ≤ 32)) : g_bits_Writer_Put__b k v c n b = some (1, n, b) := by
  unfold g_bits_Writer_Put__b
  have : (bif decide (c < 0) then some true else some (decide (32 < c))) = some true := by
    by_cases h0 : c < 0
    · rw [dt h0]; rfl
    · rw [df h0, dt (show 32 < c by omega)]; rfl
  rw [this]; rfl
theorem not_bad {c : Int} (h : 0 ≤ c ∧ c ≤ 32) : (bif decide (c < 0) then some true else some (decide (32 < c))) = some false := by
  rw [df (show ¬ c < 0 by omega), df (show ¬ 32 < c by omega)]; rfl
theorem g_bits_Writer_Put__b_ok {k : Nat} (hk : 40 ≤ k) (v : BitVec 32) (c : Nat) (hc : c ≤ 32) {n : Int} {b : List Int} {B : List Bool} (hw : Wr n b B) (hB : B.length + c ≤ 1125899906842000) :
    ∃ n' b', g_bits_Writer_Put__b k (v.toNat : Int) (c : Int) n b = some (0, n', b') ∧ Wr n' b' (B ++ bitsOf v c) := by
  obtain ⟨n', b', h1, h2⟩ := g_bits_Writer_Put__b_l0_eq k v c hc k 0 n b B hw (by omega) (by omega) (by omega)
  refine ⟨n', b', ?_, h2⟩
  unfold g_bits_Writer_Put__b
  rw [not_bad (by omega)]
  simp only [Option.bind_some, cond_false, g_bits_each]
  rw [show g_bits_Writer_Put__b_l0 k (v.toNat : Int) (c : Int) k 0 n b = _ from h1]
  rfl
theorem g_bits_Reverse_bits (k : Nat) (b : BitVec 32) (n : Int) : ∃ r : BitVec 32, g_bits_Reverse k (b.toNat : Int) n = some (r.toNat : Int) ∧ ∀ j, r.getLsbD j = (decide (j < cut n) && b.getLsbD (cut n - 1 - j)) := by
  have hc := cut_le n
  refine ⟨_, g_bits_Reverse_eq k b n, fun i => ?_⟩
  rw [BitVec.getLsbD_setWidth, BitVec.getLsbD_ushiftRight, BitVec.getLsbD_setWidth]
  by_cases hic : i < cut n
  · rw [show rev b = swap16 (swap8 (swap4 (swap2 (swap1 b)))) from rfl, rev_bit b (by omega)]
    simp [hic, show i < 32 by omega, show 32 - cut n + i < 64 by omega, show 31 - (32 - cut n + i) = cut n - 1 - i by omega]
  · by_cases hi : i < 32
    · rw [BitVec.getLsbD_of_ge (rev b) _ (by omega)]
      simp [hic]
    · simp [hic, hi]

end Go.Proofs.Ythgbompoldmhmab.W
