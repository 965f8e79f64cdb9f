/- Bits and bytes written: BitsWrites. -/
import Derived.Test.YticbhcccdfcogaaGd
namespace Go.Proofs.Yticbhcccdfcogaa.W
open Go Go.Q Go.Proofs
set_option linter.unusedVariables false
set_option linter.unusedSimpArgs false

def ib (c : Bool) : Int := if c then 1 else 0
def pad (B : List Bool) : List Bool := B ++ List.replicate ((8 - B.length % 8) % 8) false
theorem pad_length (B : List Bool) : (pad B).length = 8 * ((B.length + 7) / 8) := by simp [pad]; omega
theorem pad_le (B : List Bool) : (pad B).length ≤ B.length + 7 := by rw [pad_length]; omega

theorem Wr.pad {n : Int} {b : List Int} {B : List Bool} (h : Wr n b B) : Wr ((8 * b.length : Nat) : Int) b (pad B) := by
  have hl := h.l
  refine ⟨by rw [pad_length, hl], by rw [pad_length, hl]; omega, h.ok, fun i => ?_⟩
  rw [h.bit]
  simp only [W.pad, List.getD_eq_getElem?_getD, List.getElem?_append]
  split
  · rfl
  · rename_i hge
    rw [List.getElem?_eq_none (l := B) (by omega)]
    cases hq : (List.replicate ((8 - B.length % 8) % 8) false)[i - B.length]? with
    | none => rfl
    | some x =>
      have := List.mem_of_getElem? hq
      simp at this
      simp [this.2]

theorem Wr.bytes {b : List Int} {B : List Bool} (h : Wr ((8 * b.length : Nat) : Int) b B) {d : List Int} (hd : okB d) : Wr ((8 * (b ++ d).length : Nat) : Int) (b ++ d) (B ++ bitsOfBytes d) := by
  have hn := h.n
  have hBl : B.length = 8 * b.length := by omega
  refine ⟨by simp [bob_length, hBl]; omega, by simp only [List.length_append, bob_length, hBl]; omega, ?_, fun i => ?_⟩
  · intro x hx
    rcases List.mem_append.1 hx with hx | hx
    · exact h.ok x hx
    · exact hd x hx
  · by_cases hi : i < 8 * b.length
    · have e1 : bitAt (b ++ d) i = bitAt b i := by
        unfold bitAt
        simp only [List.getD_eq_getElem?_getD]
        rw [List.getElem?_append_left (by omega)]
      rw [e1, h.bit]
      simp only [List.getD_eq_getElem?_getD]
      rw [List.getElem?_append_left (by omega)]
    · have e1 : bitAt (b ++ d) i = bitAt d (i - 8 * b.length) := by
        unfold bitAt
        simp only [List.getD_eq_getElem?_getD]
        rw [List.getElem?_append_right (by omega), show i / 8 - b.length = (i - 8 * b.length) / 8 by omega, show i % 8 = (i - 8 * b.length) % 8 by omega]
      rw [e1]
      simp only [List.getD_eq_getElem?_getD]
      rw [List.getElem?_append_right (by omega), hBl]
      by_cases hj : i - 8 * b.length < 8 * d.length
      · have := bob_getD d _ hj
        simp only [List.getD_eq_getElem?_getD] at this
        exact this.symm
      · rw [List.getElem?_eq_none (by rw [bob_length]; omega)]
        unfold bitAt
        rw [List.getD_eq_getElem?_getD, List.getElem?_eq_none (by omega)]
        simp

theorem Wr.unique {n n' : Int} {b b' : List Int} {B : List Bool} (h : Wr n b B) (h' : Wr n' b' B) : b = b' := by
  have e := h.l.trans h'.l.symm
  apply List.ext_getElem e
  intro i h1 h2
  rw [okB_bv (h.ok _ (List.getElem_mem h1)), okB_bv (h'.ok _ (List.getElem_mem h2))]
  congr 2
  apply BitVec.eq_of_getLsbD_eq
  intro j hj
  have k1 := h.bit (8 * i + j)
  have k2 := h'.bit (8 * i + j)
  rw [← k2] at k1
  unfold bitAt at k1
  rw [show (8 * i + j) / 8 = i by omega, show (8 * i + j) % 8 = j by omega] at k1
  simpa [List.getD_eq_getElem?_getD, h1, h2] using k1

theorem ib_bv (c : Bool) : ib c = ((if c then 1#8 else 0#8 : BitVec 8).toNat : Int) := by cases c <;> rfl

/-- The reference writer's Put. -/
theorem f18_l0_eq (k : Nat) (v : BitVec 32) (c : Nat) (hc : c ≤ 32) : ∀ (m i : Nat) (B : List Bool), i ≤ c → c - i < m → B.length + (c - i) ≤ 140737488355000 →
    f18_l0 k (v.toNat : Int) (c : Int) m (i : Int) (B.map ib) = some ((B ++ (bitsOf v c).drop i).map ib) := by
  intro m
  induction m with
  | zero => intro i B _ h; omega
  | succ m ih =>
    intro i B hi hm hB
    rw [f18_l0.eq_2]
    by_cases h : i < c
    · rw [dt (show (i : Int) < (c : Int) by omega), wu64 (by omega) (by omega), dt (show (0 : Int) ≤ (i : Int) by omega)]
      simp only [cond_true, Option.bind_some]
      rw [dt (show (List.length (B.map ib) + List.length ([bits .and .u8 (IntKind.wrap .u8 (shrI .u32 (v.toNat : Int) (i : Int))) 1] : List Int)) * 1 ≤ 140737488355328 by simp; omega)]
      have e2 : bits .and .u8 (IntKind.wrap .u8 (shrI .u32 (v.toNat : Int) (i : Int))) 1 = ib (v.getLsbD i) := by
        rw [u32_shr, u8_of_u32, show (1 : Int) = ((1#8).toNat : Int) from rfl, u8_and, ib_bv]
        congr 2
        apply BitVec.eq_of_getLsbD_eq
        intro j hj
        rw [BitVec.getLsbD_and, BitVec.getLsbD_one, Int.toNat_natCast]
        by_cases hj0 : j = 0
        · subst hj0; cases hv : v.getLsbD i <;> simp [hv]
        · cases v.getLsbD i <;> simp [hj0, show ¬ j = 0 from hj0, BitVec.getLsbD_one]
      rw [e2]
      simp only [cond_true]
      rw [wi (by omega) (by omega), show (i : Int) + 1 = ((i + 1 : Nat) : Int) from rfl, show B.map ib ++ [ib (v.getLsbD i)] = (B ++ [v.getLsbD i]).map ib by simp]
      rw [ih (i + 1) _ (by omega) (by omega) (by simp; omega), List.append_assoc, bitsOf_drop v h]
      rfl
    · rw [df (show ¬ (i : Int) < (c : Int) by omega), List.drop_of_length_le (by rw [bitsOf_length]; omega), List.append_nil]
      rfl
theorem f18_ok {k : Nat} (hk : 40 ≤ k) (v : BitVec 32) (c : Nat) (hc : c ≤ 32) {B : List Bool} (hB : B.length ≤ 140737488354000) : f18 k (v.toNat : Int) (c : Int) (B.map ib) = some (0, (B ++ bitsOf v c).map ib) := by
  unfold f18
  rw [not_bad (by omega)]
  simp only [Option.bind_some, cond_false]
  rw [show f18_l0 k (v.toNat : Int) (c : Int) k 0 (B.map ib) = _ from f18_l0_eq k v c hc k 0 B (by omega) (by omega) (by omega)]
  rfl
theorem f18_bad (k : Nat) (v c : Int) (b : List Int) (h : ¬ (0 ≤ c ∧ c ≤ 32)) : f18 k v c b = some (1, b) := by
  unfold f18; rw [is_bad h]; rfl

/-- The reference writer's Align. -/
theorem f20_l0_eq (k : Nat) : ∀ (m : Nat) (B : List Bool), (8 - B.length % 8) % 8 < m → B.length ≤ 140737488354000 → f20_l0 k m (B.map ib) = some ((pad B).map ib) := by
  intro m
  induction m with
  | zero => intro B h; omega
  | succ m ih =>
    intro B hm hB
    rw [f20_l0.eq_2, List.length_map, tm8]
    simp only [Option.bind_some]
    by_cases h : B.length % 8 = 0
    · rw [dt (show ((B.length % 8 : Nat) : Int) = 0 by omega)]
      simp [pad, h]
    · rw [df (show ¬ ((B.length % 8 : Nat) : Int) = 0 by omega), dt (show (B.length + List.length ([0] : List Int)) * 1 ≤ 140737488355328 by simp; omega)]
      simp only [Bool.not_false, cond_true]
      rw [show B.map ib ++ [0] = (B ++ [false]).map ib by simp [ib]]
      by_cases h2 : B.length % 8 = 7
      · rw [ih _ (by simp; omega) (by simp; omega)]
        simp [pad, h2, show (B.length + 1) % 8 = 0 by omega]
      · rw [ih _ (by simp; omega) (by simp; omega)]
        congr 2
        simp only [pad, List.length_append, List.length_cons, List.length_nil, List.append_assoc]
        rw [show (8 - B.length % 8) % 8 = (8 - (B.length + 1) % 8) % 8 + 1 by omega, List.replicate_succ]
        rfl
theorem f20_eq {k : Nat} (hk : 40 ≤ k) {B : List Bool} (hB : B.length ≤ 140737488354000) : f20 k (B.map ib) = some ((pad B).map ib) := by
  unfold f20
  rw [f20_l0_eq k k B (by omega) hB]; rfl

theorem bob_cons (c : Int) (d : List Int) : bitsOfBytes (c :: d) = bitsOf (BitVec.ofInt 32 c) 8 ++ bitsOfBytes d := by
  apply List.ext_getElem (by simp [bob_length, bitsOf_length]; omega)
  intro i h1 h2
  rw [List.getElem_append]
  split
  · rename_i hi
    rw [bitsOf_length] at hi
    simp only [bitsOfBytes, bitsOf, List.getElem_map, List.getElem_range]
    unfold bitAt
    rw [show i / 8 = 0 by omega, show i % 8 = i by omega]
    have e : BitVec.ofInt 8 c = (BitVec.ofInt 32 c).setWidth 8 := by
      apply BitVec.eq_of_toNat_eq
      rw [BitVec.toNat_setWidth, BitVec.toNat_ofInt, BitVec.toNat_ofInt]
      simp; omega
    show (BitVec.ofInt 8 c).getLsbD i = _
    rw [e, BitVec.getLsbD_setWidth]
    simp [hi]
  · rename_i hi
    rw [bitsOf_length] at hi
    simp only [bitsOfBytes, List.getElem_map, List.getElem_range, bitsOf_length]
    unfold bitAt
    rw [show i / 8 = (i - 8) / 8 + 1 by omega, show i % 8 = (i - 8) % 8 by omega]
    rfl

theorem f22_l0_eq {k : Nat} (hk : 40 ≤ k) (d : List Int) (hd : d.length ≤ 1048576) : ∀ (m i : Nat) (B : List Bool), i ≤ d.length → d.length - i < m → B.length + 8 * (d.length - i) ≤ 140737488353000 →
    f22_l0 k d m (i : Int) (B.map ib) = some ((B ++ bitsOfBytes (d.drop i)).map ib) := by
  intro m
  induction m with
  | zero => intro i B _ h; omega
  | succ m ih =>
    intro i B hi hm hB
    rw [f22_l0.eq_2]
    by_cases h : i < d.length
    · rw [dt (show (i : Int) < ((d.length : Nat) : Int) by omega), ix_nat h]
      simp only [cond_true, Option.bind_some, u32_wrap]
      rw [show f18 k ((BitVec.ofInt 32 d[i]).toNat : Int) 8 (B.map ib) = _ from f18_ok hk (BitVec.ofInt 32 d[i]) 8 (by omega) (by omega)]
      simp only [Option.bind_some]
      rw [wi (by omega) (by omega), show (i : Int) + 1 = ((i + 1 : Nat) : Int) from rfl, ih (i + 1) _ (by omega) (by omega) (by simp [bitsOf_length]; omega), List.drop_eq_getElem_cons h, bob_cons, List.append_assoc]
    · rw [df (show ¬ (i : Int) < ((d.length : Nat) : Int) by omega), List.drop_of_length_le (by omega)]
      simp [bitsOfBytes]

/-- The reference writer's Done packs the bits. -/
theorem f25_l0_eq (k : Nat) (B : List Bool) (hB : B.length ≤ 1000000000) : ∀ (m i : Nat) (out : List Int), Wr (i : Int) out (B.take i) → i ≤ B.length → B.length - i < m → ∃ out', f25_l0 k (B.map ib) m (i : Int) out = some out' ∧ Wr (B.length : Int) out' B := by
  intro m
  induction m with
  | zero => intro i out _ _ h; omega
  | succ m ih =>
    intro i out hw hi hm
    rw [f25_l0.eq_2]
    by_cases h : i < B.length
    · have htl : (B.take i).length = i := by simp; omega
      have hl := hw.l
      rw [htl] at hl
      let b1 : List Int := if (B.take i).length % 8 = 0 then out ++ [0] else out
      have hb1l : b1.length = i / 8 + 1 := by
        show (if (B.take i).length % 8 = 0 then out ++ [0] else out).length = _
        rw [htl]
        split
        · simp; omega
        · omega
      rw [List.length_map, dt (show (i : Int) < ((B.length : Nat) : Int) by omega), tm8, show Int.tdiv (i : Int) 8 = ((i / 8 : Nat) : Int) from rfl, wi (n := ((i / 8 : Nat) : Int)) (by omega) (by omega)]
      simp only [cond_true, Option.bind_some]
      have e1 : (bif decide (((i % 8 : Nat) : Int) = 0) then (bif decide ((List.length out + List.length ([0] : List Int)) * 1 ≤ 140737488355328) then some (out ++ ([0] : List Int)) else none) else some out) = some b1 := by
        show _ = some (if (B.take i).length % 8 = 0 then out ++ [0] else out)
        rw [htl]
        by_cases h0 : i % 8 = 0
        · rw [dt (show ((i % 8 : Nat) : Int) = 0 by omega), dt (show (List.length out + List.length ([0] : List Int)) * 1 ≤ 140737488355328 by simp; omega), if_pos h0]; rfl
        · rw [df (show ¬ ((i % 8 : Nat) : Int) = 0 by omega), if_neg h0]; rfl
      have hlt : i / 8 < b1.length := by omega
      have hok1 : okB b1 := by
        intro y hy
        have hy' : y ∈ (if (B.take i).length % 8 = 0 then out ++ [0] else out) := hy
        split at hy'
        · rcases List.mem_append.1 hy' with hy | hy
          · exact hw.ok y hy
          · simp at hy; subst hy; omega
        · exact hw.ok y hy'
      have hx := okB_bv (hok1 _ (List.getElem_mem hlt))
      rw [e1]
      simp only [Option.bind_some]
      rw [ix_nat hlt, show ix (B.map ib) (i : Int) = some (ib B[i]) by rw [ix_nat (by simpa using h)]; simp, wu64 (by omega) (by omega), dt (show (0 : Int) ≤ ((i % 8 : Nat) : Int) by omega)]
      simp only [cond_true, Option.bind_some]
      rw [hx, ib_bv, u8_shl, u8_or, wi (by omega) (by omega), Int.toNat_natCast, Int.toNat_natCast]
      have hst := hw.step (b1 := b1) rfl (if B[i] then 1#8 else 0#8) (fun j hj => by
        cases B[i] <;> simp [BitVec.getLsbD_one]; omega) (x := BitVec.ofInt 8 b1[i / 8]) (by
        rw [htl, ← hx, List.getD_eq_getElem?_getD, List.getElem?_eq_getElem hlt]; rfl)
      rw [htl] at hst
      have hbit : (if B[i] then 1#8 else 0#8 : BitVec 8).getLsbD 0 = B[i] := by cases B[i] <;> rfl
      rw [hbit, show B.take i ++ [B[i]] = B.take (i + 1) by rw [List.take_succ_eq_append_getElem h]] at hst
      exact ih (i + 1) _ hst (by omega) (by omega)
    · rw [List.length_map, df (show ¬ (i : Int) < ((B.length : Nat) : Int) by omega)]
      have : i = B.length := by omega
      subst this
      rw [List.take_length] at hw
      exact ⟨out, rfl, hw⟩
theorem f25_eq {k : Nat} {n : Int} {b : List Int} {B : List Bool} (h : Wr n b B) (hB : B.length ≤ 1000000000) (hk : B.length < k) : f25 k (B.map ib) = some b := by
  obtain ⟨out, h1, h2⟩ := f25_l0_eq k B hB k 0 [] (by simpa using Wr.nil) (by omega) (by omega)
  unfold f25
  rw [show f25_l0 k (B.map ib) k 0 [] = _ from h1, h2.unique h]
  rfl
end Go.Proofs.Yticbhcccdfcogaa.W
