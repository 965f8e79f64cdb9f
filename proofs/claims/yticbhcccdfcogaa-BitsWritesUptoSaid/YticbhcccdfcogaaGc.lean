/- Bits taken again: BitsBack. -/
import Derived.Test.YticbhcccdfcogaaGb
namespace Go.Proofs.Yticbhcccdfcogaa.W
open Go Go.Q Go.Proofs
set_option linter.unusedVariables false
set_option linter.unusedSimpArgs false

/-- What a reader has left. -/
structure Rr (b : List Int) (p : Nat) (B : List Bool) : Prop where
  lt : p < 8
  l : 8 * b.length = p + B.length
  ok : okB b
  bit : ∀ i, i < B.length → B.getD i false = bitAt b (p + i)

theorem Rr.drop {b : List Int} {p : Nat} {B : List Bool} (h : Rr b p B) {t : Nat} (ht : t ≤ B.length) (hp : p + t < 8) : Rr b (p + t) (B.drop t) := by
  have hl := h.l
  refine ⟨hp, by simp; omega, h.ok, fun i hi => ?_⟩
  have := h.bit (t + i) (by simp at hi; omega)
  rw [show p + t + i = p + (t + i) by omega, ← this]
  simp [List.getD_eq_getElem?_getD]
theorem Rr.drop8 {b : List Int} {p : Nat} {B : List Bool} (h : Rr b p B) {t : Nat} (ht : t ≤ B.length) (hp : p + t = 8) : Rr (b.drop 1) 0 (B.drop t) := by
  have hl := h.l
  refine ⟨by omega, by simp; omega, fun x hx => h.ok x (List.mem_of_mem_drop hx), fun i hi => ?_⟩
  have := h.bit (t + i) (by simp at hi; omega)
  simp only [List.getD_eq_getElem?_getD, List.getElem?_drop] at this ⊢
  rw [this, show p + (t + i) = 8 + i by omega]
  unfold bitAt
  simp only [List.getD_eq_getElem?_getD, List.getElem?_drop]
  rw [show (8 + i) / 8 = 1 + (0 + i) / 8 by omega, show (8 + i) % 8 = (0 + i) % 8 by omega]

theorem f17_eq (k : Nat) {b : List Int} {p : Nat} {B : List Bool} (h : Rr b p B) (hb : b.length ≤ 140737488355328) : f17 k b (p : Int) = some (B.length : Int) := by
  unfold f17
  have := h.l
  have := h.lt
  simp only [Option.bind_some]
  rw [wi (n := 8 * ((b.length : Nat) : Int)) (by omega) (by omega), wi (by omega) (by omega)]
  congr 1; omega

theorem min_eq' (a b : Nat) : (if ((a : Nat) : Int) < (b : Int) then (a : Int) else (b : Int)) = ((min a b : Nat) : Int) := by
  split <;> omega

theorem f16_l0_eq (k c : Nat) (hc : c ≤ 32) (B0 : List Bool) (hB0 : c ≤ B0.length) : ∀ (m got : Nat) (out : BitVec 64) (b : List Int) (p : Nat), Rr b p (B0.drop got) → b.length ≤ 140737488355328 → got ≤ c → c - got < m →
    (∀ j, j < got → out.getLsbD j = B0.getD j false) → (got < c → ∀ j, got ≤ j → out.getLsbD j = false) →
    ∃ (out' : BitVec 64) (b' : List Int) (p' : Nat), f16_l0 k (c : Int) m (out.toNat : Int) (got : Int) b (p : Int) = some ((out'.toNat : Int), b', (p' : Int)) ∧ Rr b' p' (B0.drop c) ∧ b'.length ≤ 140737488355328 ∧ (∀ j, j < c → out'.getLsbD j = B0.getD j false) ∧ ∃ t, b' = b.drop t := by
  intro m
  induction m with
  | zero => intro got out b p _ _ _ h; omega
  | succ m ih =>
    intro got out b p hr hbl hg hm ho1 ho2
    rw [f16_l0.eq_2]
    have hp := hr.lt
    have hrl := hr.l
    simp only [List.length_drop] at hrl
    by_cases h : got < c
    · have hpos : 0 < b.length := by omega
      have hx := okB_bv (hr.ok _ (List.getElem_mem hpos))
      rw [dt (show (got : Int) < (c : Int) by omega), show ix b 0 = some b[0] from ix_nat hpos]
      simp only [cond_true, Option.bind_some]
      rw [dt (show (0 : Int) ≤ (p : Int) by omega), dt (show (0 : Int) ≤ (got : Int) by omega)]
      simp only [cond_true, Option.bind_some]
      rw [hx, u8_shr, u64_of_u8, u64_shl, u64_or]
      rw [wi (n := (c : Int) - (got : Int)) (by omega) (by omega), wi (n := 8 - (p : Int)) (by omega) (by omega), show (c : Int) - (got : Int) = ((c - got : Nat) : Int) by omega, show 8 - (p : Int) = ((8 - p : Nat) : Int) by omega, min_eq',
        wi (by omega) (by omega), wi (by omega) (by omega)]
      generalize ht : min (c - got) (8 - p) = t
      have ht1 : 0 < t := by omega
      have ht2 : t ≤ c - got := by omega
      have ht3 : p + t ≤ 8 := by omega
      have hx0 : b.getD 0 0 = b[0] := by rw [List.getD_eq_getElem?_getD, List.getElem?_eq_getElem hpos]; rfl
      let out' : BitVec 64 := out ||| (((BitVec.ofInt 8 b[0]) >>> p).setWidth 64 <<< got)
      have hout' : out ||| (((BitVec.ofInt 8 b[0]) >>> (p : Int).toNat).setWidth 64 <<< (got : Int).toNat) = out' := rfl
      rw [hout']
      have n1 : ∀ j, j < got + t → out'.getLsbD j = B0.getD j false := by
        intro j hj
        simp only [out', BitVec.getLsbD_or, BitVec.getLsbD_shiftLeft, BitVec.getLsbD_setWidth, BitVec.getLsbD_ushiftRight]
        by_cases hjg : j < got
        · rw [ho1 j hjg]; simp [hjg]
        · rw [ho2 h j (by omega)]
          have hb := hr.bit (j - got) (by simp; omega)
          simp only [List.getD_eq_getElem?_getD, List.getElem?_drop] at hb ⊢
          rw [show got + (j - got) = j by omega] at hb
          rw [hb]
          unfold bitAt
          rw [show (p + (j - got)) / 8 = 0 by omega, show (p + (j - got)) % 8 = p + (j - got) by omega, hx0]
          simp [show j < 64 by omega, hjg, show j - got < 64 by omega]
      have n2 : got + t < c → ∀ j, got + t ≤ j → out'.getLsbD j = false := by
        intro hlt j hj
        have : p + t = 8 := by omega
        simp only [out', BitVec.getLsbD_or, BitVec.getLsbD_shiftLeft, BitVec.getLsbD_setWidth, BitVec.getLsbD_ushiftRight]
        rw [ho2 h j (by omega), BitVec.getLsbD_of_ge (BitVec.ofInt 8 b[0]) (p + (j - got)) (by omega)]
        simp
      have hd : (B0.drop got).drop t = B0.drop (got + t) := by rw [List.drop_drop]
      by_cases h8 : p + t = 8
      · rw [dt (show (p : Int) + (t : Int) = 8 by omega)]
        simp only [cond_true]
        rw [dt (show 0 ≤ (1 : Int) ∧ (1 : Int) ≤ ((b.length : Nat) : Int) ∧ ((b.length : Nat) : Int) ≤ ((b.length : Nat) : Int) by omega)]
        simp only [cond_true, Int.toNat_natCast, List.take_length]
        have hr' := hr.drop8 (t := t) (by simp; omega) h8
        rw [hd] at hr'
        obtain ⟨o2, b2, p2, g1, g2, g3, g4, t2, g5⟩ := ih (got + t) out' (b.drop 1) 0 hr' (by simp; omega) (by omega) (by omega) n1 n2
        exact ⟨o2, b2, p2, g1, g2, g3, g4, 1 + t2, by rw [g5, List.drop_drop]⟩
      · rw [df (show ¬ (p : Int) + (t : Int) = 8 by omega)]
        simp only [cond_false]
        have hr' := hr.drop (t := t) (by simp; omega) (by omega)
        rw [hd] at hr'
        exact ih (got + t) out' b (p + t) hr' hbl (by omega) (by omega) n1 n2
    · rw [df (show ¬ (got : Int) < (c : Int) by omega)]
      have : got = c := by omega
      subst this
      exact ⟨out, b, p, rfl, hr, hbl, ho1, 0, rfl⟩

theorem mask64 (c : Nat) (hc : c ≤ 32) (j : Nat) : ((1#64 <<< c) - 1#64).getLsbD j = decide (j < c) := by
  have h1 : (1#64 <<< c) - 1#64 = BitVec.ofNat 64 (2 ^ c - 1) := by
    apply BitVec.eq_of_toNat_eq
    have h2 : 2 ^ c ≤ 2 ^ 32 := Nat.pow_le_pow_right (by decide) hc
    have h3 : 0 < 2 ^ c := Nat.pow_pos (by decide)
    simp only [BitVec.toNat_sub, BitVec.toNat_shiftLeft, BitVec.toNat_ofNat, Nat.shiftLeft_eq]
    generalize 2 ^ c = z at *
    omega
  rw [h1, BitVec.getLsbD_ofNat]
  by_cases hj : j < 64
  · simp [hj, Nat.testBit_two_pow_sub_one]
  · have : ¬ j < c := by omega
    simp [hj, this]
theorem mask32 (c : Nat) (hc : c < 32) (j : Nat) : ((1#32 <<< c) - 1#32).getLsbD j = decide (j < c) := by
  have h1 : (1#32 <<< c) - 1#32 = BitVec.ofNat 32 (2 ^ c - 1) := by
    apply BitVec.eq_of_toNat_eq
    have h2 : 2 ^ c ≤ 2 ^ 31 := Nat.pow_le_pow_right (by decide) (by omega)
    have h3 : 0 < 2 ^ c := Nat.pow_pos (by decide)
    simp only [BitVec.toNat_sub, BitVec.toNat_shiftLeft, BitVec.toNat_ofNat, Nat.shiftLeft_eq]
    generalize 2 ^ c = z at *
    omega
  rw [h1, BitVec.getLsbD_ofNat]
  by_cases hj : j < 32
  · simp [hj, Nat.testBit_two_pow_sub_one]
  · have : ¬ j < c := by omega
    simp [hj, this]

theorem is_bad {c : Int} (h : ¬ (0 ≤ c ∧ c ≤ 32)) : (bif decide (c < 0) then some true else some (decide (32 < c))) = some true := by
  by_cases h0 : c < 0
  · rw [dt h0]; rfl
  · rw [df h0, dt (show 32 < c by omega)]; rfl
theorem f16_bad (k : Nat) (c p : Int) (b : List Int) (h : ¬ (0 ≤ c ∧ c ≤ 32)) : f16 k c b p = some (0, 1, b, p) := by
  unfold f16
  rw [is_bad h]; rfl
theorem f16_less (k c : Nat) (hc : c ≤ 32) {b : List Int} {p : Nat} {B : List Bool} (h : Rr b p B) (hb : b.length ≤ 140737488355328) (hl : B.length < c) : f16 k (c : Int) b (p : Int) = some (0, 10, b, (p : Int)) := by
  unfold f16
  rw [not_bad (by omega)]
  simp only [Option.bind_some, cond_false, f17_eq k h hb]
  rw [dt (show (B.length : Int) < (c : Int) by omega)]; rfl
theorem f16_ok {k c : Nat} (hk : 40 ≤ k) (hc : c ≤ 32) {b : List Int} {p : Nat} {B : List Bool} (h : Rr b p B) (hb : b.length ≤ 140737488355328) (hl : c ≤ B.length) :
    ∃ (r : BitVec 32) (b' : List Int) (p' : Nat), f16 k (c : Int) b (p : Int) = some ((r.toNat : Int), 0, b', (p' : Int)) ∧ Rr b' p' (B.drop c) ∧ b'.length ≤ 140737488355328 ∧ (∀ j, r.getLsbD j = (decide (j < c) && B.getD j false)) ∧ ∃ t, b' = b.drop t := by
  obtain ⟨out, b', p', h1, h2, h3, h4, h5⟩ := f16_l0_eq k c hc B hl k 0 0#64 b p (by simpa using h) hb (by omega) (by omega) (by omega) (by simp)
  refine ⟨((out &&& ((1#64 <<< c) - 1#64)).setWidth 32), b', p', ?_, h2, h3, fun j => ?_, h5⟩
  · unfold f16
    rw [not_bad (by omega)]
    simp only [Option.bind_some, cond_false, f17_eq k h hb]
    rw [df (show ¬ (B.length : Int) < (c : Int) by omega), show f16_l0 k (c : Int) k 0 0 b (p : Int) = _ from h1, dt (show (0 : Int) ≤ (c : Int) by omega)]
    simp only [Option.bind_some, cond_false, cond_true]
    rw [show (1 : Int) = ((1#64).toNat : Int) from rfl, u64_shl, u64_sub, u64_and, u32_of_u64]
    rfl
  · rw [BitVec.getLsbD_setWidth, BitVec.getLsbD_and, mask64 c hc]
    by_cases hj : j < c
    · rw [h4 j hj]; simp [hj, show j < 32 by omega]
    · simp [hj]

/-- Turned round, bit by bit. -/
theorem f7_bits (k : Nat) (b : BitVec 32) (n : Int) : ∃ r : BitVec 32, f7 k (b.toNat : Int) n = some (r.toNat : Int) ∧ ∀ j, r.getLsbD j = (decide (j < cut n) && b.getLsbD (cut n - 1 - j)) := by
  have hc := cut_le n
  refine ⟨_, f7_eq k b n, fun i => ?_⟩
  rw [BitVec.getLsbD_setWidth, BitVec.getLsbD_ushiftRight, BitVec.getLsbD_setWidth]
  by_cases hic : i < cut n
  · rw [show rev b = swap16 (swap8 (swap4 (swap2 (swap1 b)))) from rfl, rev_bit b (by omega)]
    simp [hic, show i < 32 by omega, show 32 - cut n + i < 64 by omega, show 31 - (32 - cut n + i) = cut n - 1 - i by omega]
  · by_cases hi : i < 32
    · rw [BitVec.getLsbD_of_ge (rev b) _ (by omega)]
      simp [hic]
    · simp [hic, hi]
theorem f7_twice (k : Nat) (b : BitVec 32) (c : Nat) (hc : c ≤ 32) (hb : ∀ j, c ≤ j → b.getLsbD j = false) : ∃ r : BitVec 32, f7 k (b.toNat : Int) (c : Int) = some (r.toNat : Int) ∧ f7 k (r.toNat : Int) (c : Int) = some (b.toNat : Int) := by
  obtain ⟨r, h1, h2⟩ := f7_bits k b c
  obtain ⟨s, h3, h4⟩ := f7_bits k r c
  refine ⟨r, h1, ?_⟩
  rw [h3]
  congr 3
  apply BitVec.eq_of_getLsbD_eq
  intro i hi
  have hcut : cut (c : Int) = c := by unfold cut; split <;> (try split) <;> omega
  rw [h4, h2, hcut]
  by_cases hic : i < c
  · simp [hic, show c - 1 - i < c by omega, show c - 1 - (c - 1 - i) = i by omega]
  · simp [hic, hb i (by omega)]

def itemBits (o : S34Op) : List Bool := if 0 ≤ o.fN ∧ o.fN ≤ 32 then bitsOf (BitVec.ofInt 32 o.fV) o.fN.toNat else []
def allBits (l : List S34Op) : List Bool := (l.map itemBits).flatten
theorem itemBits_le (o : S34Op) : (itemBits o).length ≤ 32 := by
  unfold itemBits
  split
  · rw [bitsOf_length]; omega
  · simp
theorem allBits_drop (l : List S34Op) {i : Nat} (h : i < l.length) : allBits (l.drop i) = itemBits l[i] ++ allBits (l.drop (i + 1)) := by
  rw [List.drop_eq_getElem_cons h]; rfl
theorem allBits_le (l : List S34Op) : (allBits l).length ≤ 32 * l.length := by
  induction l with
  | nil => simp [allBits]
  | cons o l ih =>
    have := itemBits_le o
    simp only [allBits, List.map_cons, List.flatten_cons, List.length_append, List.length_cons] at ih ⊢
    omega

def okOp (o : S34Op) : Prop := (Lit.int .u32 o.fV).wf = true

theorem f4_l0_eq {k : Nat} (hk : 40 ≤ k) (l : List S34Op) (hl : l.length ≤ 2932031007403) (hok : ∀ o ∈ l, okOp o) : ∀ (m i : Nat) (n : Int) (b : List Int) (B : List Bool), Wr n b B → i ≤ l.length → l.length - i < m → B.length + 32 * (l.length - i) ≤ 1125899906841000 →
    ∃ n' b', f4_l0 k l m (i : Int) n b = some (n', b') ∧ Wr n' b' (B ++ allBits (l.drop i)) := by
  intro m
  induction m with
  | zero => intro i n b B _ _ h; omega
  | succ m ih =>
    intro i n b B hw hi hm hB
    rw [f4_l0.eq_2]
    by_cases h : i < l.length
    · rw [dt (show (i : Int) < ((l.length : Nat) : Int) by omega), ix_nat h]
      simp only [cond_true, Option.bind_some]
      have hib := itemBits_le l[i]
      rw [allBits_drop l h, ← List.append_assoc]
      have key : ∃ a n' b', f13 k l[i].fV l[i].fN n b = some (a, n', b') ∧ Wr n' b' (B ++ itemBits l[i]) := by
        by_cases hn : 0 ≤ l[i].fN ∧ l[i].fN ≤ 32
        · obtain ⟨v, hv⟩ := u32_bv (hok _ (List.getElem_mem h))
          obtain ⟨n', b', h1, h2⟩ := f13_ok hk v l[i].fN.toNat (by omega) hw (by omega)
          rw [Int.toNat_of_nonneg hn.1, ← hv] at h1
          refine ⟨_, n', b', h1, ?_⟩
          unfold itemBits
          rw [if_pos hn, hv, BitVec.ofInt_natCast, BitVec.ofNat_toNat, BitVec.setWidth_eq]
          exact h2
        · refine ⟨_, n, b, f13_bad k _ _ n b hn, ?_⟩
          unfold itemBits
          rw [if_neg hn, List.append_nil]; exact hw
      obtain ⟨a, n', b', h1, h2⟩ := key
      rw [h1]
      simp only [Option.bind_some]
      rw [wi (by omega) (by omega), show (i : Int) + 1 = ((i + 1 : Nat) : Int) from rfl]
      exact ih (i + 1) n' b' _ h2 (by omega) (by omega) (by simp only [List.length_append]; omega)
    · rw [df (show ¬ (i : Int) < ((l.length : Nat) : Int) by omega), List.drop_of_length_le (by omega)]
      exact ⟨n, b, rfl, by simpa [allBits] using hw⟩

theorem f4_l1_eq {k : Nat} (hk : 40 ≤ k) (l : List S34Op) (hl : l.length ≤ 2932031007403) (hok : ∀ o ∈ l, okOp o) (R : List Bool) (hR : R.length < 8) : ∀ (m i : Nat) (b : List Int) (p : Nat), Rr b p (allBits (l.drop i) ++ R) → b.length ≤ 140737488355328 → i ≤ l.length → l.length - i < m →
    ∃ (b' : List Int) (p' : Nat), f4_l1 k l m (i : Int) b (p : Int) = some (Sum.inr (b', (p' : Int))) ∧ Rr b' p' R ∧ b'.length ≤ 140737488355328 := by
  intro m
  induction m with
  | zero => intro i b p _ _ _ h; omega
  | succ m ih =>
    intro i b p hr hb hi hm
    rw [f4_l1.eq_2]
    by_cases h : i < l.length
    · rw [dt (show (i : Int) < ((l.length : Nat) : Int) by omega), ix_nat h]
      simp only [cond_true, Option.bind_some]
      rw [allBits_drop l h, List.append_assoc] at hr
      obtain ⟨v, hv⟩ := u32_bv (hok _ (List.getElem_mem h))
      by_cases hn : 0 ≤ l[i].fN ∧ l[i].fN ≤ 32
      · obtain ⟨c, hc⟩ : ∃ c : Nat, l[i].fN = (c : Int) := ⟨l[i].fN.toNat, by omega⟩
        have hib : itemBits l[i] = bitsOf v c := by
          unfold itemBits
          rw [if_pos hn, hv, hc, BitVec.ofInt_natCast, BitVec.ofNat_toNat, BitVec.setWidth_eq, Int.toNat_natCast]
        rw [hib] at hr
        obtain ⟨r, b', p', h1, h2, h3, h4, _⟩ := f16_ok hk (c := c) (by omega) hr hb (by simp [bitsOf_length])
        rw [List.drop_left' (bitsOf_length v c)] at h2
        rw [hc, h1]
        simp only [Option.bind_some]
        rw [not_bad (by omega)]
        simp only [Option.bind_some, cond_false]
        rw [hv]
        have hrb : ∀ j, r.getLsbD j = (decide (j < c) && v.getLsbD j) := by
          intro j
          rw [h4]
          by_cases hj : j < c
          · simp [hj, bitsOf, List.getD_eq_getElem?_getD, List.getElem?_append]
          · simp [hj]
        have hwant : (bif decide ((c : Int) < 32) then (bif decide (0 ≤ IntKind.wrap .u64 (c : Int)) then ((some (IntKind.wrap .u32 ((shlI .u32 1 (IntKind.wrap .u64 (c : Int))) - 1))).bind fun x => some (bits .and .u32 (v.toNat : Int) x)) else none) else some (v.toNat : Int)) = some (r.toNat : Int) := by
          by_cases hc32 : c < 32
          · rw [dt (show (c : Int) < 32 by omega), wu64 (by omega) (by omega), dt (show (0 : Int) ≤ (c : Int) by omega), show (1 : Int) = ((1#32).toNat : Int) from rfl]
            simp only [cond_true, Option.bind_some, u32_shl, u32_sub, u32_and]
            congr 3
            apply BitVec.eq_of_getLsbD_eq
            intro j hj
            rw [BitVec.getLsbD_and, Int.toNat_natCast, mask32 c hc32, hrb, Bool.and_comm]
          · rw [df (show ¬ (c : Int) < 32 by omega)]
            simp only [cond_false]
            congr 3
            apply BitVec.eq_of_getLsbD_eq
            intro j hj
            rw [hrb]; simp [show j < c by omega]
        simp only [Option.bind_some] at hwant
        rw [hwant]
        obtain ⟨s, h5, h6⟩ := f7_twice k r c (by omega) (fun j hj => by rw [hrb]; simp [show ¬ j < c by omega])
        simp only [Option.bind_some, h5, h6, decide_true, Bool.not_true, cond_false]
        rw [wi (by omega) (by omega), show (i : Int) + 1 = ((i + 1 : Nat) : Int) from rfl]
        exact ih (i + 1) b' p' h2 h3 (by omega) (by omega)
      · have hib : itemBits l[i] = [] := by unfold itemBits; rw [if_neg hn]
        rw [hib, List.nil_append] at hr
        rw [f16_bad k _ _ b hn]
        simp only [Option.bind_some]
        rw [is_bad hn]
        simp only [Option.bind_some, cond_true, decide_true, Bool.not_true, cond_false]
        rw [wi (by omega) (by omega), show (i : Int) + 1 = ((i + 1 : Nat) : Int) from rfl]
        exact ih (i + 1) b p hr hb (by omega) (by omega)
    · rw [df (show ¬ (i : Int) < ((l.length : Nat) : Int) by omega)]
      rw [List.drop_of_length_le (by omega)] at hr
      exact ⟨b, p, rfl, by simpa [allBits] using hr, hb⟩

/-- What was written is read. -/
theorem Wr.reader {n : Int} {b : List Int} {B : List Bool} (h : Wr n b B) : ∃ R : List Bool, R.length < 8 ∧ Rr b 0 (B ++ R) := by
  have hl := h.l
  refine ⟨List.replicate (8 * b.length - B.length) false, by simp; omega, by omega, by simp; omega, h.ok, fun i hi => ?_⟩
  rw [Nat.zero_add, h.bit]
  simp only [List.getD_eq_getElem?_getD, List.getElem?_append]
  split
  · rfl
  · rename_i hge
    rw [List.getElem?_eq_none (l := B) (by omega)]
    cases hq : (List.replicate (8 * b.length - B.length) false)[i - B.length]? with
    | none => rfl
    | some x =>
      have := List.mem_of_getElem? hq
      simp at this
      simp [this.2]

theorem bitsBack (l : List S34Op) (h : l.length ≤ maxLen ∧ ∀ x ∈ l, ((Lit.int .i64 x.fKind).wf = true) ∧ ((Lit.int .i64 x.fN).wf = true) ∧ ((Lit.int .u32 x.fV).wf = true) ∧ (x.fB.length ≤ maxLen ∧ ∀ y ∈ x.fB, (Lit.int .u8 y).wf = true) ∧ True) (hs : l.length * 48 ≤ 140737488351232) : ∃ k, f4 k l = some true := by
  have hl : l.length ≤ 2932031007403 := by omega
  have hok : ∀ o ∈ l, okOp o := fun o ho => (h.2 o ho).2.2.1
  refine ⟨l.length + 64, ?_⟩
  have hk : 40 ≤ l.length + 64 := by omega
  have hab := allBits_le l
  obtain ⟨n', b', h1, h2⟩ := f4_l0_eq hk l hl hok (l.length + 64) 0 0 [] [] Wr.nil (by omega) (by omega) (by simp; omega)
  simp only [List.drop_zero, List.nil_append] at h2
  have hbl : b'.length ≤ 140737488355328 := by have := h2.l; omega
  obtain ⟨R, hR, hr⟩ := h2.reader
  obtain ⟨b'', p'', h3, h4, h5⟩ := f4_l1_eq hk l hl hok R hR (l.length + 64) 0 b' 0 (by simpa using hr) hbl (by omega) (by omega)
  unfold f4
  simp only [f12, alive (show 64 ≤ l.length + 64 by omega), Option.bind_some, Bool.not_true, cond_false]
  rw [show f4_l0 (l.length + 64) l (l.length + 64) 0 0 [] = _ from h1]
  simp only [Option.bind_some, f15, f34, f14b, f34b]
  rw [dt (show (List.length ([] : List Int) + List.length b') * 1 ≤ 140737488355328 by simpa using hbl)]
  simp only [cond_true, Option.bind_some]
  rw [dt (show (List.length ([] : List Int) + List.length b') * 1 ≤ 140737488355328 by simpa using hbl)]
  simp only [cond_true, Option.bind_some]
  rw [show f4_l1 (l.length + 64) l (l.length + 64) 0 b' 0 = _ from h3]
  simp only [Option.bind_some, f17_eq _ h4 h5]
  rw [dt (show (R.length : Int) < 8 by omega)]
end Go.Proofs.Yticbhcccdfcogaa.W
