/- Bits read from any bytes: BitsReads. -/
import Derived.Test.YticbhcccdfcogaaGc
namespace Go.Proofs.Yticbhcccdfcogaa.W
open Go Go.Q Go.Proofs
set_option linter.unusedVariables false
set_option linter.unusedSimpArgs false

def bitsOfBytes (d : List Int) : List Bool := (List.range (8 * d.length)).map (bitAt d)
theorem bob_length (d : List Int) : (bitsOfBytes d).length = 8 * d.length := by simp [bitsOfBytes]
theorem bob_getD (d : List Int) (i : Nat) (h : i < 8 * d.length) : (bitsOfBytes d).getD i false = bitAt d i := by
  simp [bitsOfBytes, List.getD_eq_getElem?_getD, h]

/-- Both readers stand at one place. -/
structure Rel (d b : List Int) (p pos : Nat) : Prop where
  q : ∃ q, b = d.drop q ∧ q ≤ d.length ∧ pos = 8 * q + p
  lt : p < 8
  le : pos ≤ 8 * d.length

theorem Rel.rr {d b : List Int} {p pos : Nat} (h : Rel d b p pos) (hd : okB d) : Rr b p ((bitsOfBytes d).drop pos) := by
  obtain ⟨q, rfl, h1, h2⟩ := h.q
  have hle := h.le
  refine ⟨h.lt, by simp [bob_length]; omega, fun x hx => hd x (List.mem_of_mem_drop hx), fun i hi => ?_⟩
  simp only [List.length_drop, bob_length] at hi
  have := bob_getD d (pos + i) (by omega)
  simp only [List.getD_eq_getElem?_getD, List.getElem?_drop] at this ⊢
  rw [this]
  unfold bitAt
  simp only [List.getD_eq_getElem?_getD, List.getElem?_drop]
  rw [h2, show (8 * q + p + i) / 8 = q + (p + i) / 8 by omega, show (8 * q + p + i) % 8 = (p + i) % 8 by omega]

theorem Rel.of {d b b' : List Int} {p p' pos c : Nat} (h : Rel d b p pos) (hr : Rr b' p' ((bitsOfBytes d).drop (pos + c))) (hc : pos + c ≤ 8 * d.length) (ht : ∃ t, b' = b.drop t) : Rel d b' p' (pos + c) := by
  obtain ⟨q, rfl, h1, h2⟩ := h.q
  obtain ⟨t, rfl⟩ := ht
  have hl := hr.l
  have hp := hr.lt
  simp only [List.length_drop, bob_length] at hl
  rw [List.drop_drop] at *
  by_cases hq : q + t ≤ d.length
  · exact ⟨⟨q + t, rfl, hq, by omega⟩, hp, hc⟩
  · refine ⟨⟨d.length, ?_, Nat.le_refl _, by omega⟩, hp, hc⟩
    rw [List.drop_of_length_le (by omega), List.drop_of_length_le (Nat.le_refl _)]

theorem f31_eq (k : Nat) {d : List Int} {pos : Nat} (h : pos ≤ 8 * d.length) (hd : d.length ≤ 140737488351232) : f31 k d (pos : Int) = some ((8 * d.length - pos : Nat) : Int) := by
  unfold f31
  simp only [Option.bind_some]
  rw [wi (n := 8 * ((d.length : Nat) : Int)) (by omega) (by omega), wi (by omega) (by omega)]
  congr 1; omega

theorem f35_eq (k : Nat) {d : List Int} (hd : d.length ≤ 140737488351232) (hok : okB d) (z : Int) {i : Nat} (h : i < 8 * d.length) : ∃ c : BitVec 32, f35 k (i : Int) d z = some (c.toNat : Int) ∧ (∀ j, c.getLsbD j = (decide (j = 0) && bitAt d i)) := by
  have hlt : i / 8 < d.length := by omega
  have hx := okB_bv (hok _ (List.getElem_mem hlt))
  refine ⟨((BitVec.ofInt 8 d[i / 8]) >>> (i % 8)).setWidth 32 &&& 1#32, ?_, fun j => ?_⟩
  · unfold f35
    have e1 : Int.tdiv (i : Int) 8 = ((i / 8 : Nat) : Int) := rfl
    have e2 : Int.tmod (i : Int) 8 = ((i % 8 : Nat) : Int) := rfl
    rw [e1, e2, wi (by omega) (by omega), ix_nat hlt, wu64 (by omega) (by omega)]
    simp only [Option.bind_some]
    rw [dt (show (0 : Int) ≤ ((i % 8 : Nat) : Int) by omega), hx, show (1 : Int) = ((1#32).toNat : Int) from rfl]
    simp only [cond_true, Option.bind_some, u8_shr, u32_of_u8, u32_and, ofInt8_toNat]
    rfl
  · rw [BitVec.getLsbD_and, BitVec.getLsbD_one, BitVec.getLsbD_setWidth, BitVec.getLsbD_ushiftRight]
    unfold bitAt
    rw [List.getD_eq_getElem?_getD, List.getElem?_eq_getElem hlt]
    by_cases hj : j = 0
    · subst hj; simp
    · simp [hj]

theorem f26_l0_eq (k c : Nat) (hc : c ≤ 32) {d : List Int} (hd : d.length ≤ 140737488351232) (hok : okB d) {pos : Nat} (hp : pos + c ≤ 8 * d.length) : ∀ (m i : Nat) (out : BitVec 32), i ≤ c → c - i < m → (∀ j, out.getLsbD j = (decide (j < i) && bitAt d (pos + j))) →
    ∃ r : BitVec 32, f26_l0 k (c : Int) d (pos : Int) m (out.toNat : Int) (i : Int) = some (r.toNat : Int) ∧ ∀ j, r.getLsbD j = (decide (j < c) && bitAt d (pos + j)) := by
  intro m
  induction m with
  | zero => intro i out _ h; omega
  | succ m ih =>
    intro i out hi hm ho
    rw [f26_l0.eq_2]
    by_cases h : i < c
    · obtain ⟨x, h1, h2⟩ := f35_eq k hd hok (pos : Int) (i := pos + i) (by omega)
      rw [dt (show (i : Int) < (c : Int) by omega), wi (n := (pos : Int) + (i : Int)) (by omega) (by omega), show (pos : Int) + (i : Int) = ((pos + i : Nat) : Int) from rfl, h1]
      simp only [cond_true, Option.bind_some]
      rw [wu64 (by omega) (by omega), dt (show (0 : Int) ≤ (i : Int) by omega), u32_shl, u32_or, wi (by omega) (by omega), show (i : Int) + 1 = ((i + 1 : Nat) : Int) from rfl]
      simp only [cond_true]
      refine ih (i + 1) _ (by omega) (by omega) fun j => ?_
      rw [BitVec.getLsbD_or, BitVec.getLsbD_shiftLeft, ho, h2, Int.toNat_natCast]
      rcases Nat.lt_trichotomy j i with h3 | h3 | h3
      · simp [h3, show j < i + 1 by omega]
      · subst h3; simp [show j < 32 by omega]
      · simp [show ¬ j < i by omega, show ¬ j < i + 1 by omega, show ¬ j - i = 0 by omega]
    · rw [df (show ¬ (i : Int) < (c : Int) by omega)]
      have : i = c := by omega
      subst this
      exact ⟨out, rfl, ho⟩

theorem f26_bad (k : Nat) (c pos : Int) (d : List Int) (h : ¬ (0 ≤ c ∧ c ≤ 32)) : f26 k c d pos = some (0, 1, pos) := by
  unfold f26; rw [is_bad h]; rfl
theorem f26_less (k c : Nat) (hc : c ≤ 32) {d : List Int} {pos : Nat} (h : pos ≤ 8 * d.length) (hd : d.length ≤ 140737488351232) (hl : 8 * d.length - pos < c) : f26 k (c : Int) d (pos : Int) = some (0, 10, (pos : Int)) := by
  unfold f26
  rw [not_bad (by omega)]
  simp only [Option.bind_some, cond_false, f31_eq k h hd]
  rw [dt (show ((8 * d.length - pos : Nat) : Int) < (c : Int) by omega)]; rfl
theorem f26_ok {k c : Nat} (hk : 40 ≤ k) (hc : c ≤ 32) {d : List Int} {pos : Nat} (hp : pos + c ≤ 8 * d.length) (hd : d.length ≤ 140737488351232) (hok : okB d) :
    ∃ r : BitVec 32, f26 k (c : Int) d (pos : Int) = some ((r.toNat : Int), 0, ((pos + c : Nat) : Int)) ∧ ∀ j, r.getLsbD j = (decide (j < c) && bitAt d (pos + j)) := by
  obtain ⟨r, h1, h2⟩ := f26_l0_eq k c hc hd hok hp k 0 0#32 (by omega) (by omega) (by simp)
  refine ⟨r, ?_, h2⟩
  unfold f26
  rw [not_bad (by omega)]
  simp only [Option.bind_some, cond_false, f31_eq k (show pos ≤ 8 * d.length by omega) hd]
  rw [df (show ¬ ((8 * d.length - pos : Nat) : Int) < (c : Int) by omega), show f26_l0 k (c : Int) d (pos : Int) k 0 0 = _ from h1]
  simp only [Option.bind_some, cond_false]
  rw [wi (by omega) (by omega)]; rfl

/-- Taking bits, by both. -/
theorem take_same {k : Nat} (hk : 40 ≤ k) {d b : List Int} {p pos : Nat} (h : Rel d b p pos) (hok : okB d) (hd : d.length ≤ 140737488351232) (c : Int) :
    ∃ v e b' p' pos', f16 k c b (p : Int) = some (v, e, b', ((p' : Nat) : Int)) ∧ f26 k c d (pos : Int) = some (v, e, ((pos' : Nat) : Int)) ∧ Rel d b' p' pos' := by
  by_cases hc : 0 ≤ c ∧ c ≤ 32
  · obtain ⟨c, rfl⟩ : ∃ n : Nat, c = n := ⟨c.toNat, by omega⟩
    have hrr := h.rr hok
    have hb : b.length ≤ 140737488355328 := by obtain ⟨q, rfl, _⟩ := h.q; simp; omega
    have hle := h.le
    by_cases hl : 8 * d.length - pos < c
    · exact ⟨0, 10, b, p, pos, f16_less k c (by omega) hrr hb (by simp [bob_length]; omega), f26_less k c (by omega) h.le hd hl, h⟩
    · obtain ⟨r, b', p', h1, h2, h3, h4, h5⟩ := f16_ok hk (c := c) (by omega) hrr hb (by simp [bob_length]; omega)
      obtain ⟨r', g1, g2⟩ := f26_ok hk (c := c) (by omega) (d := d) (pos := pos) (by omega) hd hok
      rw [List.drop_drop] at h2
      have : r = r' := by
        apply BitVec.eq_of_getLsbD_eq
        intro j hj
        rw [h4, g2]
        by_cases hjc : j < c
        · have := bob_getD d (pos + j) (by omega)
          simp only [List.getD_eq_getElem?_getD, List.getElem?_drop] at this ⊢
          rw [this]
        · simp [hjc]
      subst this
      exact ⟨_, _, b', p', pos + c, h1, g1, h.of h2 (by omega) h5⟩
  · exact ⟨0, 1, b, p, pos, f16_bad k c _ b hc, f26_bad k c _ d hc, h⟩

theorem f28_eq (k : Nat) (d : List Int) {pos : Nat} (h : pos ≤ 2251799813620000) : f28 k d (pos : Int) = some (((pos + 7) / 8 * 8 : Nat) : Int) := by
  unfold f28
  rw [wi (n := (pos : Int) + 7) (by omega) (by omega), show Int.tdiv ((pos : Int) + 7) 8 = (((pos + 7) / 8 : Nat) : Int) from rfl, wi (by omega) (by omega)]
  simp only [Option.bind_some]
  rw [wi (by omega) (by omega)]; rfl

/-- To the next byte, by both. -/
theorem align_same {k : Nat} {d b : List Int} {p pos : Nat} (h : Rel d b p pos) (hd : d.length ≤ 140737488351232) :
    ∃ b' pos', f27 k b (p : Int) = some (b', 0) ∧ f28 k d (pos : Int) = some ((pos' : Nat) : Int) ∧ Rel d b' 0 pos' := by
  obtain ⟨q, hb, hq, hpos⟩ := h.q
  have hle := h.le
  have hlt := h.lt
  refine ⟨if 0 < p then b.drop 1 else b, (pos + 7) / 8 * 8, ?_, f28_eq k d (by omega), ?_⟩
  · unfold f27
    by_cases h0 : 0 < p
    · have hbl : 1 ≤ b.length := by rw [hb]; simp; omega
      rw [dt (show (0 : Int) < (p : Int) by omega)]
      simp only [cond_true]
      rw [dt (show 0 ≤ (1 : Int) ∧ (1 : Int) ≤ ((b.length : Nat) : Int) ∧ ((b.length : Nat) : Int) ≤ ((b.length : Nat) : Int) by omega), if_pos h0]
      simp
    · rw [df (show ¬ (0 : Int) < (p : Int) by omega), if_neg h0]
      have : p = 0 := by omega
      subst this; rfl
  · by_cases h0 : 0 < p
    · rw [if_pos h0]
      exact ⟨⟨q + 1, by rw [hb, List.drop_drop], by omega, by omega⟩, by omega, by omega⟩
    · rw [if_neg h0]
      exact ⟨⟨q, hb, hq, by omega⟩, by omega, by omega⟩

/-- Whole bytes, by both. -/
theorem bytes_same {k : Nat} {d b : List Int} {p pos : Nat} (h : Rel d b p pos) (hd : d.length ≤ 140737488351232) (c : Int) :
    ∃ v e b' p' pos', f29 k c b (p : Int) = some (v, e, b', ((p' : Nat) : Int)) ∧ f30 k c d (pos : Int) = some (v, e, ((pos' : Nat) : Int)) ∧ Rel d b' p' pos' := by
  by_cases hc : c < 0
  · refine ⟨[], 1, b, p, pos, ?_, ?_, h⟩
    · unfold f29; rw [dt hc]; rfl
    · unfold f30; rw [dt hc]; rfl
  · obtain ⟨c, rfl⟩ : ∃ n : Nat, c = n := ⟨c.toNat, by omega⟩
    obtain ⟨b1, pos1, h1, h2, h3⟩ := align_same (k := k) h hd
    obtain ⟨q, hb, hq, hpos⟩ := h3.q
    have hle := h3.le
    have hbl : b1.length = d.length - q := by rw [hb]; simp
    unfold f29 f30
    rw [df hc]
    simp only [cond_false, h1, h2, Option.bind_some, f31_eq k hle hd]
    have e1 : Int.tdiv ((8 * d.length - pos1 : Nat) : Int) 8 = ((b1.length : Nat) : Int) := by
      rw [show Int.tdiv ((8 * d.length - pos1 : Nat) : Int) 8 = (((8 * d.length - pos1) / 8 : Nat) : Int) from rfl]; omega
    have e2 : Int.tdiv (pos1 : Int) 8 = (q : Int) := by
      rw [show Int.tdiv (pos1 : Int) 8 = ((pos1 / 8 : Nat) : Int) from rfl]; omega
    rw [e1, e2, wi (n := ((b1.length : Nat) : Int)) (by omega) (by omega), wi (n := (q : Int)) (by omega) (by omega)]
    by_cases hl : b1.length < c
    · rw [dt (show ((b1.length : Nat) : Int) < (c : Int) by omega)]
      exact ⟨[], 10, b1, 0, pos1, rfl, rfl, h3⟩
    · rw [df (show ¬ ((b1.length : Nat) : Int) < (c : Int) by omega), wi (n := (q : Int) + (c : Int)) (by omega) (by omega), wi (n := 8 * (c : Int)) (by omega) (by omega), wi (by omega) (by omega)]
      simp only [cond_false]
      rw [dt (show 0 ≤ (0 : Int) ∧ (0 : Int) ≤ (c : Int) ∧ (c : Int) ≤ ((b1.length : Nat) : Int) by omega), dt (show 0 ≤ (c : Int) ∧ (c : Int) ≤ ((b1.length : Nat) : Int) ∧ ((b1.length : Nat) : Int) ≤ ((b1.length : Nat) : Int) by omega),
        dt (show 0 ≤ (q : Int) ∧ (q : Int) ≤ (q : Int) + (c : Int) ∧ (q : Int) + (c : Int) ≤ ((d.length : Nat) : Int) by omega)]
      simp only [cond_true, f34b, Int.toNat_natCast, List.take_length, Int.toNat_zero, List.drop_zero, List.length_nil, Nat.zero_add, List.nil_append]
      rw [show ((q : Int) + (c : Int)).toNat = q + c by omega]
      have e3 : (d.take (q + c)).drop q = b1.take c := by rw [hb, List.drop_take]; congr 1; omega
      rw [e3, dt (show (b1.take c).length * 1 ≤ 140737488355328 by simp; omega)]
      simp only [cond_true, Option.bind_some]
      refine ⟨b1.take c, 0, b1.drop c, 0, pos1 + 8 * c, rfl, by simp, ⟨q + c, by rw [hb, List.drop_drop], by omega, by omega⟩, by omega, by omega⟩

theorem f24_refl (k : Nat) (a : List Int) : f24 k a a = some true := by unfold f24; simp

theorem f6_l0_eq {k : Nat} (hk : 40 ≤ k) (d : List Int) (hok : okB d) (hd : d.length ≤ 140737488351232) (l : List S34Op) (hl : l.length ≤ 2932031007403) : ∀ (m i : Nat) (b : List Int) (p pos : Nat), Rel d b p pos → i ≤ l.length → l.length - i < m →
    ∃ r, f6_l0 k d l m (i : Int) b (p : Int) (pos : Int) = some (Sum.inr r) := by
  intro m
  induction m with
  | zero => intro i b p pos _ _ h; omega
  | succ m ih =>
    intro i b p pos hr hi hm
    rw [f6_l0.eq_2]
    by_cases h : i < l.length
    · rw [dt (show (i : Int) < ((l.length : Nat) : Int) by omega), ix_nat h]
      simp only [cond_true, Option.bind_some]
      have hstep : ∀ (b' : List Int) (p' pos' : Nat), Rel d b' p' pos' → ∃ r, ((f17 k b' (p' : Int)).bind fun x => (f31 k d (pos' : Int)).bind fun y => bif !decide (x = y) then some (Sum.inl ()) else f6_l0 k d l m (IntKind.wrap .i64 ((i : Int) + 1)) b' (p' : Int) (pos' : Int)) = some (Sum.inr r) := by
        intro b' p' pos' hr'
        have hbl : b'.length ≤ 140737488355328 := by obtain ⟨q, rfl, _⟩ := hr'.q; simp; omega
        rw [f17_eq k (hr'.rr hok) hbl, f31_eq k hr'.le hd]
        simp only [Option.bind_some, List.length_drop, bob_length, decide_true, Bool.not_true, cond_false]
        rw [wi (by omega) (by omega)]
        exact ih (i + 1) b' p' pos' hr' (by omega) (by omega)
      by_cases k1 : l[i].fKind = 1
      · obtain ⟨v, e, b', p', pos', h1, h2, h3⟩ := take_same hk hr hok hd l[i].fN
        simp only [k1, decide_true, cond_true, h1, h2, Option.bind_some, Bool.not_true, cond_false]
        exact hstep b' p' pos' h3
      · rw [df k1]
        by_cases k2 : l[i].fKind = 2
        · obtain ⟨b', pos', h1, h2, h3⟩ := align_same (k := k) hr hd
          simp only [k2, decide_true, cond_true, cond_false, h1, h2, Option.bind_some, Bool.not_true]
          exact hstep b' 0 pos' h3
        · rw [df k2]
          by_cases k3 : l[i].fKind = 3
          · obtain ⟨v, e, b', p', pos', h1, h2, h3⟩ := bytes_same (k := k) hr hd l[i].fN
            simp only [k3, decide_true, cond_true, cond_false, h1, h2, Option.bind_some, Bool.not_true, f24_refl]
            exact hstep b' p' pos' h3
          · rw [df k3]
            simp only [cond_false, Option.bind_some]
            exact hstep b p pos hr
    · rw [df (show ¬ (i : Int) < ((l.length : Nat) : Int) by omega)]
      exact ⟨(), rfl⟩

theorem bitsReads (d : List Int) (l : List S34Op) (hd : d.length ≤ maxLen ∧ ∀ x ∈ d, (Lit.int .u8 x).wf = true)
    (h : l.length ≤ maxLen ∧ ∀ x ∈ l, ((Lit.int .i64 x.fKind).wf = true) ∧ ((Lit.int .i64 x.fN).wf = true) ∧ ((Lit.int .u32 x.fV).wf = true) ∧ (x.fB.length ≤ maxLen ∧ ∀ y ∈ x.fB, (Lit.int .u8 y).wf = true) ∧ True)
    (hds : d.length * 1 ≤ 140737488351232) (hs : l.length * 48 ≤ 140737488351232) : ∃ k, f6 k d l = some true := by
  have hok : okB d := fun x hx => by
    obtain ⟨v, rfl⟩ := u8_bv (hd.2 x hx)
    exact ok_toNat v
  refine ⟨l.length + 64, ?_⟩
  obtain ⟨r, h1⟩ := f6_l0_eq (k := l.length + 64) (by omega) d hok (by omega) l (by omega) (l.length + 64) 0 d 0 0 ⟨⟨0, rfl, by omega, rfl⟩, by omega, by omega⟩ (by omega) (by omega)
  unfold f6
  simp only [f14b, f34b]
  rw [dt (show (List.length ([] : List Int) + List.length d) * 1 ≤ 140737488355328 by simp; omega)]
  simp only [cond_true, alive (show 64 ≤ l.length + 64 by omega), Option.bind_some, Bool.not_true, cond_false]
  rw [show f6_l0 (l.length + 64) d l (l.length + 64) 0 d 0 0 = _ from h1]
  rfl
end Go.Proofs.Yticbhcccdfcogaa.W
