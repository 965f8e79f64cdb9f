/- Bits written and taken: what writer and reader hold. -/
import Derived.Test.YticbhcccdfcogaaGa
namespace Go.Proofs.Yticbhcccdfcogaa.W
open Go Go.Q Go.Proofs
set_option linter.unusedVariables false
set_option linter.unusedSimpArgs false

def bitAt (b : List Int) (i : Nat) : Bool := (BitVec.ofInt 8 (b.getD (i / 8) 0)).getLsbD (i % 8)
def okB (b : List Int) : Prop := ∀ x ∈ b, 0 ≤ x ∧ x ≤ 255

theorem okB_bv {x : Int} (h : 0 ≤ x ∧ x ≤ 255) : x = ((BitVec.ofInt 8 x).toNat : Int) := by
  rw [BitVec.toNat_ofInt, Int.toNat_of_nonneg (by simp; omega)]
  simp; omega
theorem ok_toNat (v : BitVec 8) : 0 ≤ (v.toNat : Int) ∧ (v.toNat : Int) ≤ 255 := by
  have := v.isLt
  omega

/-- What a writer holds. -/
structure Wr (n : Int) (b : List Int) (B : List Bool) : Prop where
  n : n = (B.length : Int)
  l : b.length = (B.length + 7) / 8
  ok : okB b
  bit : ∀ i, bitAt b i = B.getD i false

theorem Wr.nil : Wr 0 [] [] := ⟨rfl, rfl, by simp [okB], fun i => by simp [bitAt]⟩

theorem ofInt8_toNat (v : BitVec 8) : BitVec.ofInt 8 (v.toNat : Int) = v := by
  rw [BitVec.ofInt_natCast, BitVec.ofNat_toNat]; simp

/-- One bit more. -/
theorem Wr.step {n : Int} {b : List Int} {B : List Bool} (h : Wr n b B) {b1 : List Int} (h1 : b1 = if B.length % 8 = 0 then b ++ [0] else b) (c : BitVec 8) (hc : ∀ j, 0 < j → c.getLsbD j = false) {x : BitVec 8} (hx : b1.getD (B.length / 8) 0 = (x.toNat : Int)) :
    Wr (n + 1) (b1.set (B.length / 8) ((x ||| (c <<< (B.length % 8))).toNat : Int)) (B ++ [c.getLsbD 0]) := by
  have hl : b1.length = B.length / 8 + 1 := by
    rw [h1]
    have := h.l
    split
    · simp; omega
    · omega
  have hb1 : ∀ i, bitAt b1 i = bitAt b i := by
    intro i
    rw [h1]
    split
    · unfold bitAt
      congr 2
      simp only [List.getD_eq_getElem?_getD, List.getElem?_append]
      split
      · rfl
      · rename_i hge
        rw [List.getElem?_eq_none (l := b) (by omega)]
        cases hq : i / 8 - b.length with
        | zero => rfl
        | succ q => rfl
    · rfl
  refine ⟨by rw [h.n]; simp, by simp only [List.length_set, hl, List.length_append, List.length_cons, List.length_nil]; omega, ?_, ?_⟩
  · intro y hy
    rcases List.mem_or_eq_of_mem_set hy with hy | rfl
    · rw [h1] at hy
      split at hy
      · rcases List.mem_append.1 hy with hy | hy
        · exact h.ok y hy
        · simp at hy; subst hy; omega
      · exact h.ok y hy
    · exact ok_toNat _
  · intro i
    by_cases hi : i / 8 = B.length / 8
    · have e1 : bitAt (b1.set (B.length / 8) ((x ||| (c <<< (B.length % 8))).toNat : Int)) i = (x ||| (c <<< (B.length % 8))).getLsbD (i % 8) := by
        unfold bitAt
        rw [hi, List.getD_eq_getElem?_getD, List.getElem?_set_self (by omega), Option.getD_some, ofInt8_toNat]
      have e2 : x.getLsbD (i % 8) = B.getD i false := by
        rw [← h.bit, ← hb1]
        unfold bitAt
        rw [hi, hx, ofInt8_toNat]
      rw [e1, BitVec.getLsbD_or, e2, BitVec.getLsbD_shiftLeft]
      simp only [List.getD_eq_getElem?_getD, List.getElem?_append]
      rcases Nat.lt_trichotomy i B.length with h2 | h2 | h2
      · rw [if_pos h2]
        have : i % 8 < B.length % 8 := by omega
        simp [this]
      · rw [if_neg (by omega)]
        subst h2
        simp [show B.length % 8 < 8 by omega]
      · rw [if_neg (by omega), List.getElem?_eq_none (by omega), List.getElem?_eq_none (by simp; omega)]
        rw [hc _ (by omega)]
        simp
    · have e1 : bitAt (b1.set (B.length / 8) ((x ||| (c <<< (B.length % 8))).toNat : Int)) i = bitAt b1 i := by
        unfold bitAt
        rw [List.getD_eq_getElem?_getD, List.getElem?_set_ne (Ne.symm hi), ← List.getD_eq_getElem?_getD]
      rw [e1, hb1, h.bit]
      simp only [List.getD_eq_getElem?_getD, List.getElem?_append]
      split
      · rfl
      · rename_i hge
        have : B.length < i := by
          rcases Nat.lt_or_ge B.length i with h3 | h3
          · exact h3
          · exfalso; apply hi; congr 1; omega
        rw [List.getElem?_eq_none (by omega), List.getElem?_eq_none (by simp; omega)]

def bitsOf (v : BitVec 32) (c : Nat) : List Bool := (List.range c).map v.getLsbD
theorem bitsOf_length (v : BitVec 32) (c : Nat) : (bitsOf v c).length = c := by simp [bitsOf]
theorem bitsOf_drop (v : BitVec 32) {c i : Nat} (h : i < c) : (bitsOf v c).drop i = v.getLsbD i :: (bitsOf v c).drop (i + 1) := by
  rw [List.drop_eq_getElem_cons (by rw [bitsOf_length]; exact h)]
  simp [bitsOf]

theorem tm8 (a : Nat) : Int.tmod (a : Int) 8 = ((a % 8 : Nat) : Int) := rfl

theorem f13_l0_eq (k : Nat) (v : BitVec 32) (c : Nat) (hc : c ≤ 32) : ∀ (m i : Nat) (n : Int) (b : List Int) (B : List Bool), Wr n b B → i ≤ c → c - i < m → B.length + (c - i) ≤ 1125899906842000 →
    ∃ n' b', f13_l0 k (v.toNat : Int) (c : Int) m (i : Int) n b = some (Sum.inr (n', b')) ∧ Wr n' b' (B ++ (bitsOf v c).drop i) := by
  intro m
  induction m with
  | zero => intro i n b B _ _ h; omega
  | succ m ih =>
    intro i n b B hw hi hm hB
    rw [f13_l0.eq_2]
    by_cases h : i < c
    · rw [dt (show (i : Int) < (c : Int) by omega), dt (show (0 : Int) ≤ (i : Int) by omega)]
      have hn := hw.n
      have hl := hw.l
      subst hn
      let b1 : List Int := if B.length % 8 = 0 then b ++ [0] else b
      have hb1l : b1.length = B.length / 8 + 1 := by
        show (if B.length % 8 = 0 then b ++ [0] else b).length = _
        split
        · simp; omega
        · omega
      have e1 : (bif decide (Int.tmod (B.length : Int) 8 = 0) then (bif decide ((List.length b + List.length [(0 : Int)]) * 1 ≤ 140737488355328) then some (b ++ [0]) else none) else some b) = some b1 := by
        rw [tm8]
        show _ = some (if B.length % 8 = 0 then b ++ [0] else b)
        by_cases h0 : B.length % 8 = 0
        · rw [dt (show ((B.length % 8 : Nat) : Int) = 0 by omega), dt (show (List.length b + List.length [(0 : Int)]) * 1 ≤ 140737488355328 by simp; omega), if_pos h0]; rfl
        · rw [df (show ¬ ((B.length % 8 : Nat) : Int) = 0 by omega), if_neg h0]; rfl
      have hlt : B.length / 8 < b1.length := by omega
      have hok1 : okB b1 := by
        intro y hy
        have hy' : y ∈ (if B.length % 8 = 0 then b ++ [0] else b) := hy
        split at hy'
        · rcases List.mem_append.1 hy' with hy | hy
          · exact hw.ok y hy
          · simp at hy; subst hy; omega
        · exact hw.ok y hy'
      have hx := okB_bv (hok1 _ (List.getElem_mem hlt))
      have e2 : bits .and .u8 (IntKind.wrap .u8 (shrI .u32 (v.toNat : Int) (i : Int))) 1 = (((v >>> i).setWidth 8 &&& 1#8).toNat : Int) := by
        rw [u32_shr, u8_of_u32, show (1 : Int) = ((1#8).toNat : Int) from rfl, u8_and]; rfl
      rw [e1, e2]
      simp only [cond_true, Option.bind_some]
      rw [wi (by omega) (by omega), show (((b1.length : Nat) : Int) - 1) = ((B.length / 8 : Nat) : Int) by omega, ix_nat hlt]
      simp only [Option.bind_some, tm8]
      rw [dt (show (0 : Int) ≤ ((B.length % 8 : Nat) : Int) by omega)]
      simp only [cond_true, Bool.not_true, cond_false]
      rw [hx, u8_shl, u8_or, wi (by omega) (by omega), wi (by omega) (by omega), Int.toNat_natCast, Int.toNat_natCast]
      have hst := hw.step (b1 := b1) rfl ((v >>> i).setWidth 8 &&& 1#8) (fun j hj => by
        rw [BitVec.getLsbD_and, BitVec.getLsbD_one]; simp; omega) (x := BitVec.ofInt 8 b1[B.length / 8]) (by
        rw [← hx, List.getD_eq_getElem?_getD, List.getElem?_eq_getElem hlt]; rfl)
      obtain ⟨n', b', h1, h2⟩ := ih (i + 1) _ _ _ hst (by omega) (by omega) (by simp; omega)
      refine ⟨n', b', h1, ?_⟩
      have hbit : ((v >>> i).setWidth 8 &&& 1#8).getLsbD 0 = v.getLsbD i := by simp
      rw [hbit, List.append_assoc] at h2
      rw [bitsOf_drop v h]
      exact h2
    · rw [df (show ¬ (i : Int) < (c : Int) by omega)]
      have : i = c := by omega
      subst this
      refine ⟨n, b, rfl, ?_⟩
      rw [List.drop_of_length_le (by rw [bitsOf_length]; omega), List.append_nil]
      exact hw

theorem f13_bad (k : Nat) (v c n : Int) (b : List Int) (h : ¬ (0 ≤ c ∧ c ≤ 32)) : f13 k v c n b = some (1, n, b) := by
  unfold f13
  have : (bif decide (c < 0) then some true else some (decide (32 < c))) = some true := by
    by_cases h0 : c < 0
    · rw [dt h0]; rfl
    · rw [df h0, dt (show 32 < c by omega)]; rfl
  rw [this]; rfl
theorem not_bad {c : Int} (h : 0 ≤ c ∧ c ≤ 32) : (bif decide (c < 0) then some true else some (decide (32 < c))) = some false := by
  rw [df (show ¬ c < 0 by omega), df (show ¬ 32 < c by omega)]; rfl
theorem f13_ok {k : Nat} (hk : 40 ≤ k) (v : BitVec 32) (c : Nat) (hc : c ≤ 32) {n : Int} {b : List Int} {B : List Bool} (hw : Wr n b B) (hB : B.length + c ≤ 1125899906842000) :
    ∃ n' b', f13 k (v.toNat : Int) (c : Int) n b = some (0, n', b') ∧ Wr n' b' (B ++ bitsOf v c) := by
  obtain ⟨n', b', h1, h2⟩ := f13_l0_eq k v c hc k 0 n b B hw (by omega) (by omega) (by omega)
  refine ⟨n', b', ?_, h2⟩
  unfold f13
  rw [not_bad (by omega)]
  simp only [Option.bind_some, cond_false, f33]
  rw [show f13_l0 k (v.toNat : Int) (c : Int) k 0 n b = _ from h1]
  rfl
end Go.Proofs.Yticbhcccdfcogaa.W
