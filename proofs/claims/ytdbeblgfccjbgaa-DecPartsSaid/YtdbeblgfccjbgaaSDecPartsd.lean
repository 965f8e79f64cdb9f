/- Texts joined: part 4 of what LDecParts stands on. -/
import Derived.Test.YtdbeblgfccjbgaaSDecPartsc
import Derived.Test.YtdbeblgfccjbgaaProg
namespace Go.Proofs.Ytdbeblgfccjbgaa.W
open Go Go.Q Go.Proofs Go.Dz
set_option linter.unusedVariables false
set_option linter.unusedSimpArgs false
theorem npow_mod {m i : Nat} (h : m % 10 ≠ 0) : m ^ i % 10 ≠ 0 := by
  by_cases h2 : m % 2 = 0
  · have h5 : m % 5 ≠ 0 := by omega
    have : m ^ i % 5 ≠ 0 := by
      induction i with
      | zero => simp
      | succ i ih =>
        intro h0
        rw [Nat.pow_succ] at h0
        exact h5 (dvd5 h0 ih)
    omega
  · have : m ^ i % 2 = 1 := by
      induction i with
      | zero => simp
      | succ i ih => rw [Nat.pow_succ, Nat.mul_mod, ih]; omega
    omega
theorem ipow_dvd {m : Int} {i : Nat} (h : ¬ (10 : Int) ∣ m) : ¬ (10 : Int) ∣ m ^ i := by
  have h1 : m.natAbs % 10 ≠ 0 := fun k => h (abs_dvd.1 k)
  have := npow_mod (i := i) h1
  rw [← Int.natAbs_pow] at this
  exact fun k => this (abs_dvd.2 k)
theorem ipow_ne {m : Int} {i : Nat} (h : m ≠ 0) : m ^ i ≠ 0 := by
  induction i with
  | zero => simp
  | succ i ih =>
    rw [Int.pow_succ]
    intro k
    rcases Int.mul_eq_zero.1 k with k | k
    · exact ih k
    · exact h k
theorem strip : ∀ (n : Nat) (M : Int), M.natAbs ≤ n → M ≠ 0 → ∃ (m : Int) (j : Nat), M = m * 10 ^ j ∧ ¬ (10 : Int) ∣ m ∧ m ≠ 0 := by
  intro n
  induction n with
  | zero => intro M h h0; omega
  | succ n ih =>
    intro M h h0
    by_cases hd : (10 : Int) ∣ M
    · obtain ⟨a, rfl⟩ := hd
      obtain ⟨m, j, h1, h2, h3⟩ := ih a (by omega) (by omega)
      refine ⟨m, j + 1, ?_, h2, h3⟩
      rw [Int.pow_succ, ← Int.mul_assoc, ← h1, Int.mul_comm]
    · exact ⟨M, 0, by simp, hd, h0⟩
/-- There is a right Dec of a number. -/
def Told (V : Int) : Prop := ∃ c x, Canon c x ∧ val c x = V
/-- A power. -/
def pv (c e : Int) (n : Nat) : Int := val (c ^ n) (e * n)
theorem pv_zero {c e : Int} : pv c e 0 = val 1 0 := by unfold pv; simp
theorem pv_one {c e : Int} : pv c e 1 = val c e := by
  unfold pv
  rw [show c ^ 1 = c by rw [Int.pow_succ, Int.pow_zero, Int.one_mul]]
  simp
theorem pv_strip {m G M F : Int} {j n : Nat} (hM : M = m * 10 ^ j) (hG : G = F + j) (hb : -400000 ≤ F * n) : pv M F n = pv m G n := by
  unfold pv
  rw [hM, Int.mul_pow, ← Int.pow_mul, val_shift (by omega), hG]
  congr 1
  rw [Int.natCast_mul, Int.add_mul]
theorem pow10_ne (t : Nat) : 10 ^ t ≠ 9223372036854775808 := by
  by_cases h : t ≤ 18
  · have : 10 ^ t ≤ 10 ^ 18 := Nat.pow_le_pow_right (by decide) h
    have h2 : (10 : Nat) ^ 18 = 1000000000000000000 := by decide
    omega
  · have : 10 ^ 19 ≤ 10 ^ t := Nat.pow_le_pow_right (by decide) (by omega)
    have h2 : (10 : Nat) ^ 19 = 10000000000000000000 := by decide
    omega
theorem told_iff {m g : Int} (hm : m ≠ 0) (hd : ¬ (10 : Int) ∣ m) (hg : -500000 ≤ g) : Told (val m g) ↔ -18 ≤ g ∧ I64 (m * 10 ^ (g - 18).toNat) := by
  constructor
  · rintro ⟨c, x, h1, h2⟩
    obtain ⟨a, b, d1, d2, d3⟩ := (canon_iff hm hd hg).1 ⟨h1, h2⟩
    by_cases h18 : g > 18
    · rw [if_pos h18] at a
      subst a
      exact ⟨by omega, by rw [← b]; exact ⟨d2, d3⟩⟩
    · rw [if_neg h18] at a
      subst a
      have : (x - 18).toNat = (x - x).toNat := by omega
      exact ⟨d1, by rw [this, ← b]; exact ⟨d2, d3⟩⟩
  · rintro ⟨h1, h2⟩
    by_cases h18 : g > 18
    · exact ⟨_, 18, (canon_iff hm hd hg).2 ⟨by rw [if_pos h18], rfl, by omega, h2.1, h2.2⟩⟩
    · refine ⟨m * 10 ^ (g - g).toNat, g, (canon_iff hm hd hg).2 ⟨by rw [if_neg h18], rfl, h1, ?_⟩⟩
      rw [show (g - g).toNat = (g - 18).toNat by omega]
      exact h2
/-- Lesser powers can be told too. -/
theorem told_pred {M F : Int} {i : Nat} (hM : M ≠ 0) (hF1 : -2000 ≤ F) (hF2 : F ≤ 2000) (hi : i ≤ 100) (h : Told (pv M F (i + 1))) : Told (pv M F i) := by
  by_cases hi0 : i = 0
  · subst hi0
    rw [pv_zero]
    exact ⟨1, 0, .inr ⟨by omega, by omega, by omega, by omega, by omega, .inr (by omega)⟩, rfl⟩
  obtain ⟨m, j, h1, h2, h3⟩ := strip _ M (Nat.le_refl _) hM
  have b1 : -2000 * (100 : Int) ≤ F * (i : Int) := by
    have := Int.mul_le_mul_of_nonneg_right hF1 (show (0 : Int) ≤ i by omega)
    omega
  have e1 : F * ((i + 1 : Nat) : Int) = F * i + F := by rw [Int.natCast_add, Int.mul_add]; simp
  rw [pv_strip h1 rfl (by rw [e1]; omega)] at h
  rw [pv_strip h1 rfl (by omega)]
  obtain ⟨G, hG⟩ : ∃ G : Int, G = F + j := ⟨_, rfl⟩
  rw [← hG] at h ⊢
  have e2 : G * ((i + 1 : Nat) : Int) = G * i + G := by rw [Int.natCast_add, Int.mul_add]; simp
  have e3 : G * (i : Int) = F * i + j * i := by rw [hG, Int.add_mul]
  have hji : (0 : Int) ≤ (j : Int) * i := Int.mul_nonneg (by omega) (by omega)
  unfold pv at h ⊢
  rw [told_iff (ipow_ne h3) (ipow_dvd h2) (by rw [e2]; omega), e2] at h
  rw [told_iff (ipow_ne h3) (ipow_dvd h2) (by omega)]
  obtain ⟨k1, k2⟩ := h
  have hm1 : 1 ≤ m.natAbs := by omega
  have hGi : 0 ≤ G → 0 ≤ G * (i : Int) := fun h => Int.mul_nonneg h (by omega)
  have hGi' : G < 0 → G * (i : Int) ≤ G := fun h => by
    have := Int.mul_le_mul_of_nonpos_left (show G ≤ 0 by omega) (show (1 : Int) ≤ i by omega)
    omega
  refine ⟨?_, ?_⟩
  · by_cases h0 : 0 ≤ G
    · have := hGi h0; omega
    · omega
  · -- sizes
    have ht : (G * i - 18).toNat ≤ (G * i + G - 18).toNat := by
      by_cases h0 : 0 ≤ G
      · omega
      · have := hGi' (by omega); omega
    obtain ⟨t, ht0⟩ : ∃ t, t = (G * (i : Int) - 18).toNat := ⟨_, rfl⟩
    obtain ⟨s, hs0⟩ : ∃ s, (G * (i : Int) + G - 18).toNat = t + s := ⟨(G * (i : Int) + G - 18).toNat - t, by omega⟩
    rw [← ht0]
    rw [hs0] at k2
    have a1 : (m ^ (i + 1) * 10 ^ (t + s)).natAbs = m.natAbs ^ i * 10 ^ t * (m.natAbs * 10 ^ s) := by
      rw [Int.natAbs_mul, Int.natAbs_pow, Int.natAbs_pow, show (10 : Int).natAbs = 10 from rfl, Nat.pow_succ, Nat.pow_add]
      simp only [Nat.mul_assoc, Nat.mul_comm, Nat.mul_left_comm]
    have a0 : (m ^ i * 10 ^ t).natAbs = m.natAbs ^ i * 10 ^ t := by
      rw [Int.natAbs_mul, Int.natAbs_pow, Int.natAbs_pow, show (10 : Int).natAbs = 10 from rfl]
    have k3 : m.natAbs ^ i * 10 ^ t * (m.natAbs * 10 ^ s) ≤ 9223372036854775808 := by rw [← a1]; unfold I64 at k2; omega
    have k4 : m.natAbs ^ i * 10 ^ t < 9223372036854775808 := by
      by_cases hm : m.natAbs = 1
      · rw [hm] at k3 ⊢
        simp only [Nat.one_pow, Nat.one_mul] at k3 ⊢
        have := pow10_ne t
        have h5 : 10 ^ t * 1 ≤ 10 ^ t * 10 ^ s := Nat.mul_le_mul_left _ (Nat.pow_pos (by decide))
        omega
      · have h5 : m.natAbs ^ i * 10 ^ t * 2 ≤ m.natAbs ^ i * 10 ^ t * (m.natAbs * 10 ^ s) := by
          refine Nat.mul_le_mul_left _ ?_
          have : m.natAbs * 1 ≤ m.natAbs * 10 ^ s := Nat.mul_le_mul_left _ (Nat.pow_pos (by decide))
          omega
        omega
    unfold I64
    omega
theorem told_le {M F : Int} {i : Nat} (hM : M ≠ 0) (hF1 : -2000 ≤ F) (hF2 : F ≤ 2000) : ∀ n, i ≤ n → n ≤ 101 → Told (pv M F n) → Told (pv M F i) := by
  intro n
  induction n with
  | zero => intro h _ k; have : i = 0 := by omega
            rw [this]; exact k
  | succ n ih =>
    intro h hn k
    by_cases hi : i = n + 1
    · rw [hi]; exact k
    · exact ih (by omega) (by omega) (told_pred hM hF1 hF2 (by omega) k)
theorem pv_succ_mul {c e : Int} {n : Nat} (he : -2000 ≤ e) (hn : -200000 ≤ e * n) : val (c ^ n) (e * n) * val c e = pv c e (n + 1) * 10 ^ 500000 := by
  unfold pv
  rw [val_mul (by omega) (by omega), ← Int.pow_succ]
  congr 2
  rw [Int.natCast_add, Int.mul_add]; simp
theorem pv_congr {c e c' e' : Int} (he : -18 ≤ e ∧ e ≤ 18) (he' : -18 ≤ e' ∧ e' ≤ 18) (h : val c' e' = val c e) : ∀ n, n ≤ 100 → pv c' e' n = pv c e n := by
  intro n
  induction n with
  | zero => intro _; rw [pv_zero, pv_zero]
  | succ n ih =>
    intro hn
    have i1 := ih (by omega)
    have b1 : -18 * (100 : Int) ≤ e * (n : Int) := by
      have := Int.mul_le_mul_of_nonneg_right he.1 (show (0 : Int) ≤ n by omega); omega
    have b2 : -18 * (100 : Int) ≤ e' * (n : Int) := by
      have := Int.mul_le_mul_of_nonneg_right he'.1 (show (0 : Int) ≤ n by omega); omega
    have a1 := pv_succ_mul (c := c) (e := e) (n := n) (by omega) (by omega)
    have a2 := pv_succ_mul (c := c') (e := e') (n := n) (by omega) (by omega)
    rw [h] at a2
    unfold pv at i1
    rw [i1, a1] at a2
    exact (Int.eq_of_mul_eq_mul_right (Int.ne_of_gt ten_pos) a2).symm
/-- Powers of two numbers whose product is one. -/
theorem pv_inv {A E B F : Int} (hE : -2000 ≤ E) (hF : -2000 ≤ F) (h : val A E * val B F = val 1 0 * 10 ^ 500000) : ∀ n, n ≤ 100 → pv A E n * pv B F n = val 1 0 * 10 ^ 500000 := by
  have h1 : val 1 0 = 10 ^ 500000 := by
    unfold val
    rw [Int.one_mul, show ((0 : Int) + 500000).toNat = 500000 from rfl]
  intro n
  induction n with
  | zero => intro _; rw [pv_zero, pv_zero, h1]
  | succ n ih =>
    intro hn
    have i1 := ih (by omega)
    have b1 : -2000 * (100 : Int) ≤ E * (n : Int) := by
      have := Int.mul_le_mul_of_nonneg_right hE (show (0 : Int) ≤ n by omega); omega
    have b2 : -2000 * (100 : Int) ≤ F * (n : Int) := by
      have := Int.mul_le_mul_of_nonneg_right hF (show (0 : Int) ≤ n by omega); omega
    have a1 := pv_succ_mul (c := A) (e := E) (n := n) (by omega) (by omega)
    have a2 := pv_succ_mul (c := B) (e := F) (n := n) (by omega) (by omega)
    unfold pv at i1
    generalize val (A ^ n) (E * n) = p at *
    generalize val (B ^ n) (F * n) = q at *
    generalize pv A E (n + 1) = P at *
    generalize pv B F (n + 1) = Q at *
    rw [h1] at i1 h ⊢
    have hT := ten_pos
    generalize (10 : Int) ^ 500000 = T at *
    have e1 : P * Q * T * T = T * T * T * T := by
      have s1 : P * Q * T * T = (P * T) * (Q * T) := by simp only [Int.mul_assoc, Int.mul_comm, Int.mul_left_comm]
      have s2 : (p * val A E) * (q * val B F) = (p * q) * (val A E * val B F) := by simp only [Int.mul_assoc, Int.mul_comm, Int.mul_left_comm]
      rw [s1, ← a1, ← a2, s2, i1, h]
      simp only [Int.mul_assoc]
    exact Int.eq_of_mul_eq_mul_right (Int.ne_of_gt hT) (Int.eq_of_mul_eq_mul_right (Int.ne_of_gt hT) e1)
end Go.Proofs.Ytdbeblgfccjbgaa.W
namespace Go.Proofs.Ytdbeblgfccjbgaa.W
open Go Go.Q Go.Proofs Go.Dz
set_option linter.unusedVariables false
set_option linter.unusedSimpArgs false
/-- What a power by a whole number is. -/
def IsPow (c e n V : Int) : Prop := if 0 ≤ n then V = pv c e n.toNat else V * pv c e (-n).toNat = val 1 0 * 10 ^ 500000
theorem pv_ne {c e : Int} {n : Nat} (h : c ≠ 0) : pv c e n ≠ 0 := val_ne (ipow_ne h)
theorem isPow_fun {c e n : Int} (h : c ≠ 0 ∨ 0 ≤ n) : ∀ a b, IsPow c e n a → IsPow c e n b → a = b := by
  intro a b ha hb
  unfold IsPow at *
  by_cases hn : 0 ≤ n
  · rw [if_pos hn] at ha hb; rw [ha, hb]
  · rw [if_neg hn] at ha hb
    exact Int.eq_of_mul_eq_mul_right (pv_ne (h.resolve_right hn)) (ha.trans hb.symm)
def PowAns (c e : Int) (r : Int × Bool) (g : Option (Int × Int × Int)) : Prop :=
  if r.2 = false ∨ r.1 < -64 ∨ 64 < r.1 then g = some (30, 0, 0) else if c = 0 ∧ r.1 < 0 then g = some (31, 0, 0) else ∃ er C X : Int, g = some (er, C, X) ∧ Tells (IsPow c e r.1) ((C, X), er)
theorem PowAns.eq {c e : Int} {r : Int × Bool} {g g' : Option (Int × Int × Int)} (h : PowAns c e r g) (h' : PowAns c e r g') : ∃ s, g = some s ∧ g' = some s := by
  unfold PowAns at *
  by_cases h1 : r.2 = false ∨ r.1 < -64 ∨ 64 < r.1
  · rw [if_pos h1] at h h'; exact ⟨_, h, h'⟩
  · rw [if_neg h1] at h h'
    by_cases h2 : c = 0 ∧ r.1 < 0
    · rw [if_pos h2] at h h'; exact ⟨_, h, h'⟩
    · rw [if_neg h2] at h h'
      obtain ⟨er, C, X, k1, k2⟩ := h
      obtain ⟨er', C', X', k3, k4⟩ := h'
      have := Tells.uniq (isPow_fun (by omega)) k2 k4
      simp only [Prod.mk.injEq] at this
      obtain ⟨⟨rfl, rfl⟩, rfl⟩ := this
      exact ⟨_, k1, k3⟩
theorem PowAns.congr {c e c' e' : Int} {r : Int × Bool} {g : Option (Int × Int × Int)} (he : -18 ≤ e ∧ e ≤ 18) (he' : -18 ≤ e' ∧ e' ≤ 18) (hv : val c' e' = val c e) (h : PowAns c' e' r g) : PowAns c e r g := by
  unfold PowAns at *
  have h0 : c' = 0 ↔ c = 0 := by
    constructor
    · intro h; rw [h, val_zero] at hv; exact val_eq_zero hv.symm
    · intro h; rw [h, val_zero] at hv; exact val_eq_zero hv
  by_cases h1 : r.2 = false ∨ r.1 < -64 ∨ 64 < r.1
  · rwa [if_pos h1] at h ⊢
  · rw [if_neg h1] at h ⊢
    simp only [h0] at h
    by_cases h2 : c = 0 ∧ r.1 < 0
    · rwa [if_pos h2] at h ⊢
    · rw [if_neg h2] at h ⊢
      obtain ⟨er, C, X, k1, k2⟩ := h
      refine ⟨er, C, X, k1, k2.congr fun a => ?_⟩
      unfold IsPow
      rw [pv_congr he he' hv _ (by omega), pv_congr he he' hv _ (by omega)]
theorem rng_mul {e : Int} (he : -18 ≤ e ∧ e ≤ 18) {n : Nat} (hn : n ≤ 100) : -1800 ≤ e * n ∧ e * n ≤ 1800 := by
  have h1 := Int.mul_le_mul_of_nonneg_right he.1 (show (0 : Int) ≤ n by omega)
  have h2 := Int.mul_le_mul_of_nonneg_right he.2 (show (0 : Int) ≤ n by omega)
  omega
theorem pow_l0 (k : Nat) (hk : 200 ≤ k) {n : Nat} {c e : Int} (hc : Canon c e) (hn : n ≤ 64) : ∀ (m i : Nat) (p q : Int), i ≤ n → n - i + 1 < m → Canon p q → val p q = pv c e i →
    ∃ er C X : Int, g_dec_Pow_l0 k (n : Int) c e m 0 (i : Int) p q = some (er, C, X) ∧ Tells (· = pv c e n) ((C, X), er) := by
  intro m
  induction m with
  | zero => intro i p q _ h; omega
  | succ m ih =>
    intro i p q hi hm hp hv
    rw [g_dec_Pow_l0.eq_2]
    by_cases hin : i < n
    · rw [dt (by omega), bt, dt (show (0 : Int) = 0 from rfl), Option.bind_some, bt]
      have hmul := dec_Mul k (by omega) (e := q) (f := e) hp.i64 hc.i64
      unfold Sp at hmul
      rw [if_pos ⟨hp.rg, hc.rg⟩] at hmul
      obtain ⟨er, C, X, t1, t2⟩ := hmul
      rw [t1, Option.bind_some, wi (by omega) (by omega), show ((i : Int) + 1) = ((i + 1 : Nat) : Int) by omega]
      have rc := hc.rng
      have rp := hp.rng
      have bi := rng_mul ⟨rc.1, rc.2.1⟩ (n := i) (by omega)
      have hnext : val (p * c) (q + e) = pv c e (i + 1) := by
        have a1 := pv_succ_mul (c := c) (e := e) (n := i) (by omega) (by omega)
        have a2 := val_mul (c := p) (d := c) (e := q) (f := e) (by omega) (by omega)
        unfold pv at hv
        rw [hv, a1] at a2
        exact (Int.eq_of_mul_eq_mul_right (Int.ne_of_gt ten_pos) a2).symm
      rw [hnext] at t2
      rcases t2 with ⟨t3, t4, t5⟩ | ⟨t3, t4⟩
      · simp only at t3 t4 t5
        subst t3
        exact ih (i + 1) C X (by omega) (by omega) t4 t5
      · simp only [Prod.mk.injEq] at t3
        obtain ⟨⟨rfl, rfl⟩, rfl⟩ := t3
        obtain ⟨m, rfl⟩ : ∃ m', m = m' + 1 := ⟨m - 1, by omega⟩
        simp only
        rw [g_dec_Pow_l0.eq_2]
        have hno : ¬ Told (pv c e (i + 1)) := fun ⟨a, b, h1, h2⟩ => t4 a b h1 h2
        have hc0 : c ≠ 0 := by
          rintro rfl
          apply hno
          refine ⟨0, 0, .inl ⟨rfl, rfl⟩, ?_⟩
          unfold pv
          rw [Int.pow_succ, Int.mul_zero, val_zero, val_zero]
        refine ⟨30, 0, 0, ?_, Tells.none fun a b h1 h2 => hno (told_le hc0 (by omega) (by omega) n (by omega) (by omega) ⟨a, b, h1, h2⟩)⟩
        have : decide ((30 : Int) = 0) = false := by decide
        rw [this]
        cases decide (((i + 1 : Nat) : Int) < (n : Int)) <;> rfl
    · rw [df (by omega), bf, Option.bind_some, bf]
      have : i = n := by omega
      subst this
      exact ⟨0, p, q, rfl, .inl ⟨rfl, hp, hv⟩⟩
theorem canon_one : Canon 1 0 := .inr ⟨by omega, by omega, by omega, by omega, by omega, .inr (by omega)⟩
theorem dec_Pow (k : Nat) (hk : 200 ≤ k) {c e d f : Int} (hc : I64 c) (hd : I64 d) : if Rng e ∧ Rng f then ∀ r, Whole (val d f) r → PowAns c e r (g_dec_Pow k c e d f) else g_dec_Pow k c e d f = some (1, 0, 0) := by
  unfold g_dec_Pow
  have hcl := clean k (by omega) (e := e) (f := f) hc hd
  by_cases hR : Rng e ∧ Rng f
  · rw [if_pos hR] at hcl ⊢
    intro r hr
    obtain ⟨c', e', d', f', h1, h2, h3, h4, h5⟩ := hcl
    have re := h2.rng
    refine PowAns.congr hR.1 h2.rg h3 ?_
    rw [h1]
    simp only [Option.bind_some, Bool.not_true, cond_false]
    have hI := dec_Int k (by omega) (e := f') h4.i64
    unfold SpI at hI
    rw [if_pos h4.rg, h5] at hI
    obtain ⟨n, b, i1, i2⟩ := hI
    have := i2.uniq hr
    subst this
    rw [i1]
    simp only [Option.bind_some]
    unfold PowAns
    simp only
    by_cases hb : b = false
    · subst hb
      rw [if_pos (.inl rfl)]; rfl
    · have hb' : b = true := by cases b <;> simp at hb ⊢
      subst hb'
      rw [Bool.not_true, bf]
      by_cases hlo : n < -64
      · rw [if_pos (.inr (.inl hlo)), dt hlo]; rfl
      · rw [df hlo, bf, Option.bind_some]
        by_cases hhi : 64 < n
        · rw [if_pos (.inr (.inr hhi)), dt hhi]; rfl
        · rw [df hhi, bf, if_neg (show ¬ (true = false ∨ n < -64 ∨ 64 < n) by simp; omega)]
          by_cases hn : n < 0
          · rw [dt hn, bt]
            obtain ⟨m, hm⟩ : ∃ m : Nat, n = -(m : Int) := ⟨(-n).toNat, by omega⟩
            have hD := dec_Div k hk (c := 1) (e := 0) (f := e') canon_one.i64 h2.i64
            unfold SpD at hD
            rw [if_pos ⟨canon_one.rg, h2.rg⟩] at hD
            by_cases hc0 : c' = 0
            · rw [if_pos ⟨hc0, hn⟩]
              rw [if_pos hc0] at hD
              rw [hD]; rfl
            · rw [if_neg (fun h => hc0 h.1)]
              rw [if_neg hc0] at hD
              obtain ⟨er, C, X, t1, t2⟩ := hD
              rw [t1]
              simp only [Option.bind_some]
              have hIs : ∀ V, IsPow c' e' n V ↔ V * pv c' e' m = val 1 0 * 10 ^ 500000 := by
                intro V
                unfold IsPow
                rw [if_neg (by omega), show (-n).toNat = m by omega]
              rcases t2 with ⟨t3, t4, t5⟩ | ⟨t3, t4⟩
              · simp only at t3 t4 t5
                subst t3
                simp only [decide_true, Bool.not_true, cond_false, Option.bind_some]
                rw [wi (by omega) (by omega), show (0 - n) = (m : Int) by omega]
                obtain ⟨er, C2, X2, s1, s2⟩ := pow_l0 k hk (n := m) t4 (by omega) k 0 1 0 (by omega) (by omega) canon_one (by rw [pv_zero])
                rw [show ((0 : Nat) : Int) = 0 from rfl] at s1
                rw [s1]
                refine ⟨er, C2, X2, rfl, s2.congr fun a => ?_⟩
                rw [hIs]
                have rX := t4.rng
                have hinv := pv_inv (A := C) (E := X) (B := c') (F := e') (by omega) (by omega) t5 m (by omega)
                constructor
                · intro ha; rw [ha]; exact hinv
                · intro ha; exact Int.eq_of_mul_eq_mul_right (pv_ne hc0) (ha.trans hinv.symm)
              · simp only [Prod.mk.injEq] at t3
                obtain ⟨⟨rfl, rfl⟩, rfl⟩ := t3
                have : decide ((30 : Int) = 0) = false := by decide
                simp only [this, Bool.not_false, cond_true, Option.bind_some]
                refine ⟨30, 0, 0, rfl, Tells.none fun C X hCX hp => ?_⟩
                rw [hIs] at hp
                have rX := hCX.rng
                obtain ⟨m, rfl⟩ : ∃ m', m = m' + 1 := ⟨m - 1, by omega⟩
                have bm := rng_mul ⟨re.1, re.2.1⟩ (n := m) (by omega)
                -- the number itself, with one more factor
                have hC0 : C ≠ 0 := by
                  rintro rfl
                  rw [val_zero, Int.zero_mul] at hp
                  exact absurd hp.symm (Int.ne_of_gt (Int.mul_pos (by unfold val; exact Int.mul_pos (by decide) (p10 _)) ten_pos))
                have hM0 : C * c' ^ m ≠ 0 := by
                  intro h
                  rcases Int.mul_eq_zero.1 h with h | h
                  · exact hC0 h
                  · exact ipow_ne hc0 h
                have hu : val (C * c' ^ m) (X + e' * m) * val c' e' = val 1 0 * 10 ^ 500000 := by
                  have a1 := val_mul (c := C) (d := c' ^ m) (e := X) (f := e' * m) (by omega) (by omega)
                  have a2 := pv_succ_mul (c := c') (e := e') (n := m) (by omega) (by omega)
                  have hT := ten_pos
                  apply Int.eq_of_mul_eq_mul_right (Int.ne_of_gt hT)
                  rw [Int.mul_right_comm, ← a1, Int.mul_assoc, a2, ← Int.mul_assoc, hp]
                have hinv := pv_inv (A := C * c' ^ m) (E := X + e' * m) (B := c') (F := e') (by omega) (by omega) hu (m + 1) (by omega)
                have heq : pv (C * c' ^ m) (X + e' * m) (m + 1) = val C X := Int.eq_of_mul_eq_mul_right (pv_ne hc0) (hinv.trans hp.symm)
                have hT : Told (pv (C * c' ^ m) (X + e' * m) 1) := told_le hM0 (by omega) (by omega) (m + 1) (by omega) (by omega) ⟨C, X, hCX, heq.symm⟩
                rw [pv_one] at hT
                obtain ⟨a, b, q1, q2⟩ := hT
                exact t4 a b q1 (by rw [q2]; exact hu)
          · rw [df hn, bf, if_neg (by omega), Option.bind_some]
            obtain ⟨m, rfl⟩ : ∃ m : Nat, n = (m : Int) := ⟨n.toNat, by omega⟩
            obtain ⟨er, C2, X2, s1, s2⟩ := pow_l0 k hk (n := m) h2 (by omega) k 0 1 0 (by omega) (by omega) canon_one (by rw [pv_zero])
            rw [show ((0 : Nat) : Int) = 0 from rfl] at s1
            simp only
            rw [s1]
            refine ⟨er, C2, X2, rfl, s2.congr fun a => ?_⟩
            unfold IsPow
            rw [if_pos (by omega), Int.toNat_natCast]
  · rw [if_neg hR] at hcl ⊢
    obtain ⟨r, h1⟩ := hcl
    rw [h1]
    rfl
end Go.Proofs.Ytdbeblgfccjbgaa.W
namespace Go.Proofs.Ytdbeblgfccjbgaa.W
open Go Go.Q Go.Proofs Go.Dz
set_option linter.unusedVariables false
set_option linter.unusedSimpArgs false
theorem ref_pow_l0 (k : Nat) (hk : 30000 ≤ k) {c e : Int} {n : Nat} (hc : nd c ≤ 19) (hn : n ≤ 64) (he : -18 ≤ e ∧ e ≤ 18) : ∀ (m i : Nat), i ≤ n → n - i < m →
    g_quireref09_Pow_l0 k c e (digs c.natAbs) (n : Int) m (i : Int) (decide (c ^ i < 0)) (digs (c ^ i).natAbs) (e * i) = some (decide (c ^ n < 0), digs (c ^ n).natAbs, e * n) := by
  have hb : ∀ i, nd (c ^ i) ≤ 19 * i + 1 := by
    intro i
    induction i with
    | zero => rw [Int.pow_zero]; unfold nd; exact digs_len_le (by decide)
    | succ i ih =>
      rw [Int.pow_succ]
      have := @nd_prod (c ^ i) c
      omega
  intro m
  induction m with
  | zero => intro i _ h; omega
  | succ m ih =>
    intro i hi hm
    rw [g_quireref09_Pow_l0.eq_2]
    by_cases hin : i < n
    · have b := rng_mul he (n := i) (by omega)
      have hbi := hb i
      rw [dt (by omega), bt, times k (by omega) (by omega) hk, Option.bind_some, wi (by omega) (by omega), wi (by omega) (by omega), ← Int.pow_succ]
      have e1 : e * (i : Int) + e = e * ((i + 1 : Nat) : Int) := by rw [Int.natCast_add, Int.mul_add]; simp
      simp only
      rw [e1, show ((i : Int) + 1) = ((i + 1 : Nat) : Int) by omega]
      exact ih (i + 1) (by omega) (by omega)
    · rw [df (by omega), bf]
      have : i = n := by omega
      rw [this]
theorem Pow_l1 (k : Nat) {neg : Bool} (hk : 30000 ≤ k) : ∀ (d m n : Nat) (e : Int), d ≤ m → n ≠ 0 → (digs n).length ≤ d → d ≤ 10000 → -20000 ≤ e → e + d ≤ 30000 → ∃ w j : Nat, n = w * 10 ^ j ∧ w % 10 ≠ 0 ∧ j ≤ d ∧ w ≠ 0 ∧ (digs w).length ≤ d ∧
    g_quireref09_Pow_l1 k m neg (digs n) e = some (neg, digs w, e + j) := by
  intro d
  induction d with
  | zero => intro m n e _ h0 h; have := len_pos h0; omega
  | succ d ih =>
    intro m n e hm h0 hl hd he1 he2
    obtain ⟨m, rfl⟩ : ∃ m', m = m' + 1 := ⟨m - 1, by omega⟩
    rw [g_quireref09_Pow_l1.eq_2]
    have hp := len_pos h0
    rw [dt (by omega), Option.bind_some, bt, first_digit h0]
    simp only [Option.bind_some]
    by_cases h10 : n % 10 = 0
    · rw [dt (by omega), bt]
      simp only [bd]
      rw [if_pos (by omega), trim_drop k h0 h10 (by omega) hk, Option.bind_some, wi (by omega) (by omega)]
      have hl' : (digs (n / 10)).length + 1 = (digs n).length := by
        have := congrArg List.length (digs_pos h0)
        simp at this
        omega
      obtain ⟨w, j, h1, h2, h3, h4, h5, h6⟩ := ih m (n / 10) (e + 1) (by omega) (by omega) (by omega) (by omega) (by omega) (by omega)
      refine ⟨w, j + 1, ?_, h2, by omega, h4, by omega, ?_⟩
      · rw [Nat.pow_succ, ← Nat.mul_assoc, ← h1]; omega
      · simp only
        rw [h6]
        congr 3
        omega
    · rw [df (by omega), bf]
      exact ⟨n, 0, by simp, h10, by omega, h0, hl, by simp⟩
theorem dvd_pow5 : ∀ {s m : Nat}, m ∣ 5 ^ s → ∃ v, v ≤ s ∧ m = 5 ^ v := by
  intro s
  induction s with
  | zero => intro m h; exact ⟨0, Nat.le_refl _, Nat.eq_one_of_dvd_one (by simpa using h)⟩
  | succ s ih =>
    intro m h
    by_cases h5 : m % 5 = 0
    · obtain ⟨a, rfl⟩ := Nat.dvd_of_mod_eq_zero h5
      rw [Nat.pow_succ, Nat.mul_comm (5 ^ s)] at h
      obtain ⟨v, hv, rfl⟩ := ih ((Nat.mul_dvd_mul_iff_left (by decide)).1 h)
      exact ⟨v + 1, by omega, by rw [Nat.pow_succ, Nat.mul_comm]⟩
    · rw [Nat.pow_succ, Nat.mul_comm] at h
      obtain ⟨v, hv, e⟩ := ih ((cop5 h5).dvd_of_dvd_mul_left h)
      exact ⟨v, by omega, e⟩
theorem dvd_pow2 : ∀ {s m : Nat}, m ∣ 2 ^ s → ∃ v, v ≤ s ∧ m = 2 ^ v := by
  intro s
  induction s with
  | zero => intro m h; exact ⟨0, Nat.le_refl _, Nat.eq_one_of_dvd_one (by simpa using h)⟩
  | succ s ih =>
    intro m h
    by_cases h2 : m % 2 = 0
    · obtain ⟨a, rfl⟩ := Nat.dvd_of_mod_eq_zero h2
      rw [Nat.pow_succ, Nat.mul_comm (2 ^ s)] at h
      obtain ⟨v, hv, rfl⟩ := ih ((Nat.mul_dvd_mul_iff_left (by decide)).1 h)
      exact ⟨v + 1, by omega, by rw [Nat.pow_succ, Nat.mul_comm]⟩
    · rw [Nat.pow_succ, Nat.mul_comm] at h
      obtain ⟨v, hv, e⟩ := ih ((cop2 h2).dvd_of_dvd_mul_left h)
      exact ⟨v, by omega, e⟩
/-- A divisor of a power of ten, without noughts, and what it leaves. -/
theorem ten_parts {C w s : Nat} (h : C * w = 10 ^ s) (hw : w % 10 ≠ 0) : (∃ v, v ≤ s ∧ w = 5 ^ v ∧ 2 ^ s ∣ C) ∨ (∃ v, v ≤ s ∧ w = 2 ^ v ∧ 5 ^ s ∣ C) := by
  have e : 10 ^ s = 2 ^ s * 5 ^ s := by rw [← Nat.mul_pow]
  rw [e] at h
  by_cases h2 : w % 2 = 0
  · have h5 : w % 5 ≠ 0 := by omega
    have hd : w ∣ 5 ^ s * 2 ^ s := ⟨C, by rw [Nat.mul_comm (5 ^ s), ← h, Nat.mul_comm]⟩
    have hc : Nat.Coprime w (5 ^ s) := (cop5 h5).pow_right s
    obtain ⟨v, h3, h4⟩ := dvd_pow2 (hc.dvd_of_dvd_mul_left hd)
    exact .inr ⟨v, h3, h4, hc.symm.dvd_of_dvd_mul_right ⟨2 ^ s, by rw [h, Nat.mul_comm]⟩⟩
  · have hd : w ∣ 2 ^ s * 5 ^ s := ⟨C, by rw [← h, Nat.mul_comm]⟩
    have hc : Nat.Coprime w (2 ^ s) := (cop2 h2).pow_right s
    obtain ⟨v, h3, h4⟩ := dvd_pow5 (hc.dvd_of_dvd_mul_left hd)
    exact .inl ⟨v, h3, h4, hc.symm.dvd_of_dvd_mul_right ⟨5 ^ s, h⟩⟩
theorem p5_85 : 5 ^ 85 < 10 ^ 60 := by decide
theorem p2_198 : 2 ^ 198 < 10 ^ 60 := by decide
theorem p2_64 : 9223372036854775808 < 2 ^ 86 := by decide
theorem p5_64 : 9223372036854775808 < 5 ^ 199 := by decide
/-- What is one divided by so great a number can't be told; and what is no divisor. -/
theorem inv_none {y C X Q : Int} (hy : ¬ (10 : Int) ∣ y) (hy0 : y ≠ 0) (hC : Canon C X) (hQ : -200000 ≤ Q) (hq : val C X * val y Q = val 1 0 * 10 ^ 500000) : y.natAbs < 10 ^ 60 ∧ 10 ^ 200 % y.natAbs = 0 := by
  have rC := hC.rng
  have h1 : val (C * y) (X + Q) = val 1 0 := (quot_iff (c := 1) (e := 0) (by omega) (by omega)).1 hq
  have h2 := congrArg Int.natAbs h1
  rw [val_abs, val_abs, Int.natAbs_mul] at h2
  have hw : y.natAbs % 10 ≠ 0 := fun k => hy (abs_dvd.1 k)
  have hC0 : C ≠ 0 := by
    rintro rfl
    rw [Int.zero_mul, val_zero] at h1
    exact absurd h1.symm (val_ne (by omega))
  have hone : (1 : Int).natAbs = 1 := rfl
  rw [hone, Nat.one_mul] at h2
  obtain ⟨Z, hZ⟩ : ∃ Z : Nat, Z = 500000 := ⟨_, rfl⟩
  have e0 : ((0 : Int) + 500000).toNat = Z := by omega
  rw [e0] at h2
  by_cases hs : 0 ≤ X + Q
  · -- one alone
    have e1 : (X + Q + 500000).toNat = (X + Q).toNat + Z := by omega
    rw [e1, Nat.pow_add, ← Nat.mul_assoc] at h2
    have h3 : C.natAbs * y.natAbs * 10 ^ (X + Q).toNat = 1 := Nat.eq_of_mul_eq_mul_right (Nat.pow_pos (show 0 < 10 by decide)) (h2.trans (Nat.one_mul _).symm)
    have h4 := Nat.eq_one_of_mul_eq_one_right h3
    have h5 := Nat.eq_one_of_mul_eq_one_left h4
    rw [h5]
    exact ⟨by decide, Nat.mod_one _⟩
  · obtain ⟨s, hs⟩ : ∃ s : Nat, X + Q = -(s : Int) := ⟨(-(X + Q)).toNat, by omega⟩
    have e1 : Z = s + (X + Q + 500000).toNat := by omega
    rw [e1, Nat.pow_add] at h2
    have h3 : C.natAbs * y.natAbs = 10 ^ s := Nat.eq_of_mul_eq_mul_right (Nat.pow_pos (show 0 < 10 by decide)) h2
    have hCb : C.natAbs ≤ 9223372036854775808 := by omega
    rcases ten_parts h3 hw with ⟨v, v1, v2, v3⟩ | ⟨v, v1, v2, v3⟩
    · have hle := Nat.le_of_dvd (by omega) v3
      have hs86 : s < 86 := by
        apply Nat.lt_of_not_le
        intro h
        have := Nat.pow_le_pow_right (show 0 < 2 by decide) h
        have := p2_64
        omega
      rw [v2]
      refine ⟨Nat.lt_of_le_of_lt (Nat.pow_le_pow_right (by decide) (show v ≤ 85 by omega)) p5_85, ?_⟩
      apply Nat.mod_eq_zero_of_dvd
      rw [show (10 : Nat) = 5 * 2 from rfl, Nat.mul_pow]
      exact Nat.dvd_trans (Nat.pow_dvd_pow 5 (by omega)) (Nat.dvd_mul_right _ _)
    · have hle := Nat.le_of_dvd (by omega) v3
      have hs199 : s < 199 := by
        apply Nat.lt_of_not_le
        intro h
        have := Nat.pow_le_pow_right (show 0 < 5 by decide) h
        have := p5_64
        omega
      rw [v2]
      refine ⟨Nat.lt_of_le_of_lt (Nat.pow_le_pow_right (by decide) (show v ≤ 198 by omega)) p2_198, ?_⟩
      apply Nat.mod_eq_zero_of_dvd
      rw [show (10 : Nat) = 2 * 5 from rfl, Nat.mul_pow]
      exact Nat.dvd_trans (Nat.pow_dvd_pow 2 (by omega)) (Nat.dvd_mul_right _ _)
theorem ref_Pow (k : Nat) (hk : 30000 ≤ k) {c e d f : Int} (hc : I64 c) (hd : I64 d) : if Rng e ∧ Rng f then ∀ r, Whole (val d f) r → PowAns c e r (g_quireref09_Pow k c e d f) else g_quireref09_Pow k c e d f = some (1, 0, 0) := by
  unfold g_quireref09_Pow
  rw [num k (by omega) hc.1 hc.2, num k (by omega) hd.1 hd.2]
  simp only [Option.bind_some]
  have n1 := nd_i64 hc.1 hc.2
  by_cases he : Rng e
  · have he' := he
    unfold Rng at he'
    rw [dt he', Bool.not_true, bf]
    by_cases hf : Rng f
    · have hf' := hf
      unfold Rng at hf'
      rw [if_pos ⟨he, hf⟩, dt hf', Bool.not_true, Option.bind_some, bf]
      intro r hr
      have hI := ref_Int k hk (e := f) hd
      unfold SpI at hI
      rw [if_pos hf] at hI
      obtain ⟨n, b, i1, i2⟩ := hI
      have := i2.uniq hr
      subst this
      rw [i1]
      simp only [Option.bind_some]
      unfold PowAns
      simp only
      by_cases hb : b = false
      · subst hb
        rw [if_pos (.inl rfl)]; rfl
      · have hb' : b = true := by cases b <;> simp at hb ⊢
        subst hb'
        rw [Bool.not_true, bf]
        by_cases hlo : n < -64
        · rw [if_pos (.inr (.inl hlo)), dt hlo]; rfl
        · rw [df hlo, bf, Option.bind_some]
          by_cases hhi : 64 < n
          · rw [if_pos (.inr (.inr hhi)), dt hhi]; rfl
          · rw [df hhi, bf, if_neg (show ¬ (true = false ∨ n < -64 ∨ 64 < n) by simp; omega), len_dec]
            have h1 : g_quireref09_Of k 1 = some (digs (c ^ 0).natAbs) := by rw [Int.pow_zero]; exact of_ k (by omega) (c := 1) (by omega) (by omega)
            have hb1 : ∀ i, nd (c ^ i) ≤ 19 * i + 1 := by
              intro i
              induction i with
              | zero => rw [Int.pow_zero]; unfold nd; exact digs_len_le (by decide)
              | succ i ih =>
                rw [Int.pow_succ]
                have := @nd_prod (c ^ i) c
                omega
            by_cases hn : n < 0
            · by_cases hc0 : c = 0
              · rw [if_pos ⟨hc0, hn⟩, dt (by omega), bt, dt hn]; rfl
              · rw [if_neg (fun h => hc0 h.1), df (by omega), bf, Option.bind_some, bf, dt hn, bt, wi (by omega) (by omega), Option.bind_some, h1, Option.bind_some]
                obtain ⟨m, hm⟩ : ∃ m : Nat, n = -(m : Int) := ⟨(-n).toNat, by omega⟩
                have hl := ref_pow_l0 k hk (n := m) n1 (by omega) he' k 0 (by omega) (by omega)
                rw [show ((0 : Nat) : Int) = 0 from rfl, Int.mul_zero] at hl
                rw [show (0 - n) = (m : Int) by omega]
                have hz : decide ((1 : Nat) < 0) = decide (c ^ 0 < 0) := by rw [Int.pow_zero]; rfl
                rw [hz, hl, Option.bind_some]
                simp only
                rw [df (by omega), bf]
                have hbm := hb1 m
                have hP0 := ipow_ne (i := m) hc0
                have bm := rng_mul he' (n := m) (by omega)
                have hIs : ∀ V, IsPow c e n V ↔ V * val (c ^ m) (e * m) = val 1 0 * 10 ^ 500000 := by
                  intro V
                  unfold IsPow pv
                  rw [if_neg (by omega), show (-n).toNat = m by omega]
                generalize c ^ m = P at *
                generalize e * (m : Int) = E at *
                have hPl : (digs P.natAbs).length ≤ 1300 := by unfold nd at hbm; omega
                obtain ⟨w, j, a1, a2, a3, a4, a5, a6⟩ := Pow_l1 k (neg := decide (P < 0)) hk (digs P.natAbs).length k P.natAbs E (by omega) (by omega) (Nat.le_refl _) (by omega) (by omega) (by omega)
                rw [a6, Option.bind_some]
                simp only
                obtain ⟨y, hy⟩ : ∃ y : Int, y = sgn (decide (P < 0)) w := ⟨_, rfl⟩
                have hyw : y.natAbs = w := by rw [hy, sgn_abs]
                have hy0 : y ≠ 0 := by omega
                have hPy : P = y * 10 ^ j := by
                  have : P = sgn (decide (P < 0)) P.natAbs := (sgn_self P).symm
                  rw [this, a1, sgn_mul, ← hy]
                  simp
                have hneg : decide (P < 0) = decide (y < 0) := by
                  rw [hy]; exact (sgn_sign (by rw [← hy]; exact hy0)).symm
                have hdy : ¬ (10 : Int) ∣ y := by rw [hy, sgn_dvd]; exact a2
                clear hy
                subst hyw
                have hval : val P E = val y (E + j) := by
                  conv => lhs; rw [hPy]
                  exact val_shift (by omega)
                rw [hval] at hIs
                rw [hneg]
                have none : (¬ (y.natAbs < 10 ^ 60 ∧ 10 ^ 200 % y.natAbs = 0)) → ∃ er C X : Int, (some (30, 0, 0) : Option (Int × Int × Int)) = some (er, C, X) ∧ Tells (IsPow c e n) ((C, X), er) := by
                  intro h
                  refine ⟨30, 0, 0, rfl, Tells.none fun C X hCX hp => h ?_⟩
                  rw [hIs] at hp
                  exact inv_none hdy hy0 hCX (by omega) hp
                by_cases h60 : 60 < (digs y.natAbs).length
                · rw [dt (by omega), bt]
                  refine none fun h => ?_
                  have := digs_len_le h.1
                  omega
                · obtain ⟨N, hN⟩ : ∃ N : Nat, N = 200 := ⟨_, rfl⟩
                  rw [← hN] at none
                  have hs := shift k (x := c ^ 0) (n := N) (by have := hb1 0; omega) (by omega) hk
                  rw [df (by omega), bf, show (200 : Int) = (N : Int) by omega, Option.bind_some, hs]
                  simp only [Option.bind_some]
                  have hTn : (c ^ 0 * 10 ^ N).natAbs = 10 ^ N := by rw [Int.pow_zero, Int.one_mul, Int.natAbs_pow]; rfl
                  have hTl : (digs (10 ^ N)).length ≤ 300 := by
                    obtain ⟨L, hL⟩ : ∃ L : Nat, L = 300 := ⟨_, rfl⟩
                    have := digs_len_le (n := 10 ^ N) (m := L) (Nat.pow_lt_pow_right (by decide) (by omega))
                    omega
                  rw [hTn, quo k _ _ (by omega) (by omega) (by omega) hk]
                  simp only [Option.bind_some]
                  rw [len_dec']
                  by_cases hr0 : 10 ^ N % y.natAbs = 0
                  · rw [df (by omega), bf, wi (n := 0 - (E + j)) (by omega) (by omega), wi (by omega) (by omega)]
                    have hq : 10 ^ N / y.natAbs * y.natAbs = 10 ^ N := by
                      have := Nat.div_add_mod (10 ^ N) y.natAbs
                      rw [Nat.mul_comm] at this
                      omega
                    have hql : (digs (10 ^ N / y.natAbs)).length ≤ 300 := Nat.le_trans (digs_le (Nat.div_le_self _ _)) hTl
                    generalize 10 ^ N / y.natAbs = q at *
                    rw [trim_sgn k (by omega) hk]
                    simp only [Option.bind_some]
                    obtain ⟨er, c2, x, t1, t2⟩ := Tell k (x := sgn (decide (y < 0)) q) (e := 0 - (E + j) - N) (by unfold nd; rw [sgn_abs]; omega) (by omega) (by omega) hk
                    rw [t1]
                    refine ⟨er, c2, x, rfl, t2.congr fun V => ?_⟩
                    rw [hIs]
                    have hprod : sgn (decide (y < 0)) q * y = 10 ^ N := by
                      have h2 := sgn_x false (decide (y < 0)) q y.natAbs
                      rw [sgn_self, hq] at h2
                      have h3 : sgn (!(false == decide (y < 0))) q = sgn (decide (y < 0)) q := by cases decide (y < 0) <;> rfl
                      rw [h3] at h2
                      rw [h2]
                      simp [sgn]
                    have hQ : val (sgn (decide (y < 0)) q) (0 - (E + j) - N) * val y (E + j) = val 1 0 * 10 ^ 500000 := by
                      refine (quot_iff (c := 1) (e := 0) (by omega) (by omega)).2 ?_
                      rw [hprod]
                      have := val_shift (m := 1) (e := -(N : Int)) (j := N) (by omega)
                      rw [Int.one_mul, show -(N : Int) + N = 0 by omega] at this
                      rw [show 0 - (E + (j : Int)) - N + (E + j) = -(N : Int) by omega]
                      exact this
                    constructor
                    · intro ha; rw [ha]; exact hQ
                    · intro ha; exact Int.eq_of_mul_eq_mul_right (val_ne hy0) (ha.trans hQ.symm)
                  · rw [dt hr0, bt]
                    exact none fun h => hr0 h.2
            · rw [if_neg (fun h => hn h.2)]
              obtain ⟨m, rfl⟩ : ∃ m : Nat, n = (m : Int) := ⟨n.toNat, by omega⟩
              have hx : ((bif decide (c.natAbs = 0) then some (decide ((m : Int) < 0)) else some false) : Option Bool) = some false := by
                rw [df hn]; cases decide (c.natAbs = 0) <;> rfl
              rw [hx, Option.bind_some, bf, df hn, bf, Option.bind_some, h1, Option.bind_some]
              have hl := ref_pow_l0 k hk (n := m) n1 (by omega) he' k 0 (by omega) (by omega)
              rw [show ((0 : Nat) : Int) = 0 from rfl, Int.mul_zero] at hl
              have hz : decide ((1 : Nat) < 0) = decide (c ^ 0 < 0) := by rw [Int.pow_zero]; rfl
              rw [hz, hl, Option.bind_some]
              simp only
              rw [dt (by omega), bt]
              have hbm := hb1 m
              have bm := rng_mul he' (n := m) (by omega)
              obtain ⟨er, c2, x, t1, t2⟩ := Tell k (x := c ^ m) (e := e * m) (by omega) (by omega) (by omega) hk
              rw [t1]
              refine ⟨er, c2, x, rfl, t2.congr fun a => ?_⟩
              unfold IsPow pv
              rw [if_pos (by omega), Int.toNat_natCast]
    · rw [if_neg (fun h => hf h.2), df (show ¬ (-18 ≤ f ∧ f ≤ 18) from hf)]; rfl
  · rw [if_neg (fun h => he h.1), df (show ¬ (-18 ≤ e ∧ e ≤ 18) from he)]; rfl
theorem decParts (a b : S_api_Dec) (ha : ((Lit.int .i64 a.fC).wf = true) ∧ ((Lit.int .i64 a.fE).wf = true) ∧ True) (hb : ((Lit.int .i64 b.fC).wf = true) ∧ ((Lit.int .i64 b.fE).wf = true) ∧ True) : ∃ k, g_quirelaw09_DecParts k a.fC a.fE b.fC b.fE = some true := by
  refine ⟨30000, ?_⟩
  have hk : 30000 ≤ 30000 := Nat.le_refl _
  have ic := i64_I ha.1
  have id := i64_I hb.1
  obtain ⟨⟨r1, r2, r3⟩, p1, p2⟩ := SpD.eq (fun h => quot_fun (val_ne h)) (dec_Div 30000 (e := a.fE) (f := b.fE) (by decide) ic id) (ref_Div 30000 hk ic id)
  obtain ⟨⟨s1, s2, s3⟩, p3, p4⟩ := SpD.eq (fun _ => eq_fun _) (dec_Mod 30000 (e := a.fE) (f := b.fE) (by decide) ic id) (ref_Mod 30000 hk ic id)
  obtain ⟨⟨t1, t2, t3⟩, p5, p6⟩ : ∃ r, g_dec_Pow 30000 a.fC a.fE b.fC b.fE = some r ∧ g_quireref09_Pow 30000 a.fC a.fE b.fC b.fE = some r := by
    have h1 := dec_Pow 30000 (e := a.fE) (f := b.fE) (by decide) ic id
    have h2 := ref_Pow 30000 (e := a.fE) (f := b.fE) hk ic id
    by_cases hR : Rng a.fE ∧ Rng b.fE
    · rw [if_pos hR] at h1 h2
      have hI := ref_Int 30000 (e := b.fE) hk id
      unfold SpI at hI
      rw [if_pos hR.2] at hI
      obtain ⟨n, b, _, hw⟩ := hI
      exact (h1 _ hw).eq (h2 _ hw)
    · rw [if_neg hR] at h1 h2
      exact ⟨_, h1, h2⟩
  unfold g_quirelaw09_DecParts
  rw [p1, p2]
  simp only [Option.bind_some, decide_true, Bool.and_true, Bool.not_true, cond_false]
  rw [p3, p4]
  simp only [Option.bind_some, decide_true, Bool.and_true, Bool.not_true, cond_false]
  rw [p5, p6]
  simp only [Option.bind_some, decide_true, Bool.and_true, cond_true]
  rw [alive (by decide)]
  rfl
end Go.Proofs.Ytdbeblgfccjbgaa.W
namespace Go.Proofs.Ytdbeblgfccjbgaa.W
open Go Go.Q Go.Proofs
set_option linter.unusedVariables false
set_option linter.unusedSimpArgs false
set_option maxRecDepth 100000
theorem mixed : Try.prog.follows .mixedOrders = true := rfl
theorem ag23 : Ag Try.prog 23 2 := ⟨_, Try.t23, Try.underlying23, rfl, rfl, trivial⟩
theorem ze23 : ZeroIs Try.prog 23 [.int .i64 0, .int .i64 0] := ⟨⟨Try.t23, _, rfl, rfl, rfl⟩, by intro v hv; simp only [List.mem_cons, List.not_mem_nil, or_false] at hv; (try rcases hv with rfl | rfl) <;> (subst_vars; rfl)⟩
theorem sz37 : SzIs Try.prog 37 1 := ⟨Try.t37, rfl, rfl⟩
theorem li81 : LitIs Try.prog 81 37 1 [.pointer none] := ⟨Try.underlying81, ⟨Try.t37, _, rfl, rfl, rfl, rfl⟩, by intro v hv; simp at hv; (try rcases hv with rfl | hv) <;> first | rfl | (subst hv; rfl) | simp_all [Value.oneCell']⟩
theorem sl81 : SlIs Try.prog 81 37 1 := ⟨Try.underlying81, sz37⟩
theorem sc37 : Sc Try.prog 37 := ⟨_, Try.t37, Try.underlying37, rfl, rfl, trivial⟩
theorem sz23 : SzIs Try.prog 23 2 := ⟨Try.t23, rfl, rfl⟩
theorem li91 : LitIs Try.prog 91 23 2 [.int .i64 0, .int .i64 0] := ⟨Try.underlying91, ⟨Try.t23, _, rfl, rfl, rfl, rfl⟩, by intro v hv; simp at hv; (try rcases hv with rfl | hv) <;> first | rfl | (subst hv; rfl) | simp_all [Value.oneCell']⟩
theorem sl91 : SlIs Try.prog 91 23 2 := ⟨Try.underlying91, sz23⟩
theorem fi23_1 : FieldIs Try.prog 23 1 1 3 1 := ⟨_, _, Try.t3, Try.underlying23, rfl, rfl, rfl, rfl, rfl⟩
theorem sc3 : Sc Try.prog 3 := ⟨_, Try.t3, Try.underlying3, rfl, rfl, trivial⟩
theorem fn52 : FnIs Try.prog 52 := ⟨_, Try.func52, rfl, by kernel_rfl⟩
theorem ze47 : ZeroIs Try.prog 47 [.bool false, .int .u64 0, .int .u64 0, .int .i64 0] := ⟨⟨Try.t47, _, rfl, rfl, rfl⟩, by intro v hv; simp only [List.mem_cons, List.not_mem_nil, or_false] at hv; (try rcases hv with rfl | rfl | rfl | rfl) <;> (subst_vars; rfl)⟩
theorem fi23_0 : FieldIs Try.prog 23 0 0 2 1 := ⟨_, _, Try.t2, Try.underlying23, rfl, rfl, rfl, rfl, rfl⟩
theorem sc2 : Sc Try.prog 2 := ⟨_, Try.t2, Try.underlying2, rfl, rfl, trivial⟩
theorem fn28 : FnIs Try.prog 28 := ⟨_, Try.func28, rfl, by kernel_rfl⟩
theorem bu43 : BuildIs Try.prog 43 (placeOf [(0, 1), (1, 1)]) [.int .u64 0, .int .u64 0] := BuildIs.struct (it := Try.t43) rfl Try.underlying43 rfl rfl rfl (by intro v hv; simp only [List.mem_cons, List.not_mem_nil, or_false] at hv; (try rcases hv with rfl | rfl) <;> (subst_vars; rfl))
theorem bu47 : BuildIs Try.prog 47 (placeOf [(0, 1), (1, 2), (3, 1)]) [.bool false, .int .u64 0, .int .u64 0, .int .i64 0] := BuildIs.struct (it := Try.t47) rfl Try.underlying47 rfl rfl rfl (by intro v hv; simp only [List.mem_cons, List.not_mem_nil, or_false] at hv; (try rcases hv with rfl | rfl | rfl | rfl) <;> (subst_vars; rfl))
theorem sz47 : SzIs Try.prog 47 4 := ⟨Try.t47, rfl, rfl⟩
theorem ag47 : Ag Try.prog 47 4 := ⟨_, Try.t47, Try.underlying47, rfl, rfl, trivial⟩
theorem fn38 : FnIs Try.prog 38 := ⟨_, Try.func38, rfl, by kernel_rfl⟩
theorem fi47_1 : FieldIs Try.prog 47 1 1 43 2 := ⟨_, _, Try.t43, Try.underlying47, rfl, rfl, rfl, rfl, rfl⟩
theorem ag43 : Ag Try.prog 43 2 := ⟨_, Try.t43, Try.underlying43, rfl, rfl, trivial⟩
theorem fi43_0 : FieldIs Try.prog 43 0 0 38 1 := ⟨_, _, Try.t38, Try.underlying43, rfl, rfl, rfl, rfl, rfl⟩
theorem sc38 : Sc Try.prog 38 := ⟨_, Try.t38, Try.underlying38, rfl, rfl, trivial⟩
theorem fi43_1 : FieldIs Try.prog 43 1 1 38 1 := ⟨_, _, Try.t38, Try.underlying43, rfl, rfl, rfl, rfl, rfl⟩
theorem fn58 : FnIs Try.prog 58 := ⟨_, Try.func58, rfl, by kernel_rfl⟩
theorem bu23 : BuildIs Try.prog 23 (placeOf [(0, 1), (1, 1)]) [.int .i64 0, .int .i64 0] := BuildIs.struct (it := Try.t23) rfl Try.underlying23 rfl rfl rfl (by intro v hv; simp only [List.mem_cons, List.not_mem_nil, or_false] at hv; (try rcases hv with rfl | rfl) <;> (subst_vars; rfl))
theorem ze43 : ZeroIs Try.prog 43 [.int .u64 0, .int .u64 0] := ⟨⟨Try.t43, _, rfl, rfl, rfl⟩, by intro v hv; simp only [List.mem_cons, List.not_mem_nil, or_false] at hv; (try rcases hv with rfl | rfl) <;> (subst_vars; rfl)⟩
theorem fn76 : FnIs Try.prog 76 := ⟨_, Try.func76, rfl, by kernel_rfl⟩
theorem fn69 : FnIs Try.prog 69 := ⟨_, Try.func69, rfl, by kernel_rfl⟩
theorem fn64 : FnIs Try.prog 64 := ⟨_, Try.func64, rfl, by kernel_rfl⟩
theorem sz43 : SzIs Try.prog 43 2 := ⟨Try.t43, rfl, rfl⟩
theorem fn59 : FnIs Try.prog 59 := ⟨_, Try.func59, rfl, by kernel_rfl⟩
theorem fi47_2 : FieldIs Try.prog 47 2 3 3 1 := ⟨_, _, Try.t3, Try.underlying47, rfl, rfl, rfl, rfl, rfl⟩
theorem sz3 : SzIs Try.prog 3 1 := ⟨Try.t3, rfl, rfl⟩
theorem fn53 : FnIs Try.prog 53 := ⟨_, Try.func53, rfl, by kernel_rfl⟩
theorem ex57 : ExtIs Try.prog 57 add64S := ⟨_, Try.func57, rfl, by kernel_rfl, by kernel_rfl, by kernel_rfl⟩
theorem fn30 : FnIs Try.prog 30 := ⟨_, Try.func30, rfl, by kernel_rfl⟩
theorem fn60 : FnIs Try.prog 60 := ⟨_, Try.func60, rfl, by kernel_rfl⟩
theorem fi47_0 : FieldIs Try.prog 47 0 0 4 1 := ⟨_, _, Try.t4, Try.underlying47, rfl, rfl, rfl, rfl, rfl⟩
theorem sc4 : Sc Try.prog 4 := ⟨_, Try.t4, Try.underlying4, rfl, rfl, trivial⟩
theorem fn31 : FnIs Try.prog 31 := ⟨_, Try.func31, rfl, by kernel_rfl⟩
theorem fn27 : FnIs Try.prog 27 := ⟨_, Try.func27, rfl, by kernel_rfl⟩
theorem fn29 : FnIs Try.prog 29 := ⟨_, Try.func29, rfl, by kernel_rfl⟩
theorem fn7 : FnIs Try.prog 7 := ⟨_, Try.func7, rfl, by kernel_rfl⟩
theorem ze53 : ZeroIs Try.prog 53 [.bool false, .slice none 0 0, .int .i64 0] := ⟨⟨Try.t53, _, rfl, rfl, rfl⟩, by intro v hv; simp only [List.mem_cons, List.not_mem_nil, or_false] at hv; (try rcases hv with rfl | rfl | rfl) <;> (subst_vars; rfl)⟩
theorem ze51 : ZeroIs Try.prog 51 [.bool false, .slice none 0 0] := ⟨⟨Try.t51, _, rfl, rfl, rfl⟩, by intro v hv; simp only [List.mem_cons, List.not_mem_nil, or_false] at hv; (try rcases hv with rfl | rfl) <;> (subst_vars; rfl)⟩
theorem li49 : LitIs Try.prog 49 3 1 [.int .i64 0] := ⟨Try.underlying49, ⟨Try.t3, _, rfl, rfl, rfl, rfl⟩, by intro v hv; simp at hv; (try rcases hv with rfl | hv) <;> first | rfl | (subst hv; rfl) | simp_all [Value.oneCell']⟩
theorem ap49 : ApIs Try.prog 49 3 1 8 := ⟨Try.underlying49, ⟨Try.t3, _, rfl, rfl, rfl, rfl, rfl⟩, by decide, by decide⟩
theorem sl49 : SlIs Try.prog 49 3 1 := ⟨Try.underlying49, sz3⟩
theorem bu51 : BuildIs Try.prog 51 (placeOf [(0, 1), (1, 1)]) [.bool false, .slice none 0 0] := BuildIs.struct (it := Try.t51) rfl Try.underlying51 rfl rfl rfl (by intro v hv; simp only [List.mem_cons, List.not_mem_nil, or_false] at hv; (try rcases hv with rfl | rfl) <;> (subst_vars; rfl))
theorem sz51 : SzIs Try.prog 51 2 := ⟨Try.t51, rfl, rfl⟩
theorem ag51 : Ag Try.prog 51 2 := ⟨_, Try.t51, Try.underlying51, rfl, rfl, trivial⟩
theorem fn43 : FnIs Try.prog 43 := ⟨_, Try.func43, rfl, by kernel_rfl⟩
theorem bu53 : BuildIs Try.prog 53 (placeOf [(0, 2), (2, 1)]) [.bool false, .slice none 0 0, .int .i64 0] := BuildIs.struct (it := Try.t53) rfl Try.underlying53 rfl rfl rfl (by intro v hv; simp only [List.mem_cons, List.not_mem_nil, or_false] at hv; (try rcases hv with rfl | rfl | rfl) <;> (subst_vars; rfl))
theorem sz53 : SzIs Try.prog 53 3 := ⟨Try.t53, rfl, rfl⟩
theorem ag53 : Ag Try.prog 53 3 := ⟨_, Try.t53, Try.underlying53, rfl, rfl, trivial⟩
theorem fn32 : FnIs Try.prog 32 := ⟨_, Try.func32, rfl, by kernel_rfl⟩
theorem fi53_0 : FieldIs Try.prog 53 0 0 51 2 := ⟨_, _, Try.t51, Try.underlying53, rfl, rfl, rfl, rfl, rfl⟩
theorem fi51_1 : FieldIs Try.prog 51 1 1 49 1 := ⟨_, _, Try.t49, Try.underlying51, rfl, rfl, rfl, rfl, rfl⟩
theorem sc49 : Sc Try.prog 49 := ⟨_, Try.t49, Try.underlying49, rfl, rfl, trivial⟩
theorem fi51_0 : FieldIs Try.prog 51 0 0 4 1 := ⟨_, _, Try.t4, Try.underlying51, rfl, rfl, rfl, rfl, rfl⟩
theorem by3 : ∃ i, Try.prog.info? 3 = some i ∧ i.bytes = 8 := ⟨Try.t3, rfl, rfl⟩
theorem fn36 : FnIs Try.prog 36 := ⟨_, Try.func36, rfl, by kernel_rfl⟩
theorem fn34 : FnIs Try.prog 34 := ⟨_, Try.func34, rfl, by kernel_rfl⟩
theorem fn68 : FnIs Try.prog 68 := ⟨_, Try.func68, rfl, by kernel_rfl⟩
theorem fn65 : FnIs Try.prog 65 := ⟨_, Try.func65, rfl, by kernel_rfl⟩
theorem fn61 : FnIs Try.prog 61 := ⟨_, Try.func61, rfl, by kernel_rfl⟩
theorem fn62 : FnIs Try.prog 62 := ⟨_, Try.func62, rfl, by kernel_rfl⟩
theorem fn40 : FnIs Try.prog 40 := ⟨_, Try.func40, rfl, by kernel_rfl⟩
theorem fn33 : FnIs Try.prog 33 := ⟨_, Try.func33, rfl, by kernel_rfl⟩
theorem sz4 : SzIs Try.prog 4 1 := ⟨Try.t4, rfl, rfl⟩
theorem fi53_1 : FieldIs Try.prog 53 1 2 3 1 := ⟨_, _, Try.t3, Try.underlying53, rfl, rfl, rfl, rfl, rfl⟩
theorem fn63 : FnIs Try.prog 63 := ⟨_, Try.func63, rfl, by kernel_rfl⟩
theorem fn35 : FnIs Try.prog 35 := ⟨_, Try.func35, rfl, by kernel_rfl⟩
theorem fn8 : FnIs Try.prog 8 := ⟨_, Try.func8, rfl, by kernel_rfl⟩
theorem eg23 : Try.prog.eqGuardType Try.prog.depth 23 = false := by kernel_rfl
theorem eq23 {a0 : Int} {a1 : Int} {b0 : Int} {b1 : Int} : EqV Try.prog 9 23 (.agg [.int .i64 a0, .int .i64 a1].toArray) (.agg [.int .i64 b0, .int .i64 b1].toArray) ((decide (a0 = b0)) && ((decide (a1 = b1)) && true)) := (EqV.struct Try.underlying23 (by kernel_rfl) (EqF.sc (by rfl) sc2 rfl rfl (EqV.int Try.underlying2) (EqF.sc (by rfl) sc3 rfl rfl (EqV.int Try.underlying3) EqF.nil)))
theorem eg43 : Try.prog.eqGuardType Try.prog.depth 43 = false := by kernel_rfl
theorem eq43 {a0 : Int} {a1 : Int} {b0 : Int} {b1 : Int} : EqV Try.prog 9 43 (.agg [.int .u64 a0, .int .u64 a1].toArray) (.agg [.int .u64 b0, .int .u64 b1].toArray) ((decide (a0 = b0)) && ((decide (a1 = b1)) && true)) := (EqV.struct Try.underlying43 (by kernel_rfl) (EqF.sc (by rfl) sc38 rfl rfl (EqV.int Try.underlying38) (EqF.sc (by rfl) sc38 rfl rfl (EqV.int Try.underlying38) EqF.nil)))
theorem fn48 : FnIs Try.prog 48 := ⟨_, Try.func48, rfl, by kernel_rfl⟩
theorem fn37 : FnIs Try.prog 37 := ⟨_, Try.func37, rfl, by kernel_rfl⟩
theorem fn46 : FnIs Try.prog 46 := ⟨_, Try.func46, rfl, by kernel_rfl⟩
theorem fn47 : FnIs Try.prog 47 := ⟨_, Try.func47, rfl, by kernel_rfl⟩
theorem ex67 : ExtIs Try.prog 67 sub64S := ⟨_, Try.func67, rfl, by kernel_rfl, by kernel_rfl, by kernel_rfl⟩
theorem fn49 : FnIs Try.prog 49 := ⟨_, Try.func49, rfl, by kernel_rfl⟩
theorem fn14 : FnIs Try.prog 14 := ⟨_, Try.func14, rfl, by kernel_rfl⟩
theorem fn9 : FnIs Try.prog 9 := ⟨_, Try.func9, rfl, by kernel_rfl⟩
theorem fn39 : FnIs Try.prog 39 := ⟨_, Try.func39, rfl, by kernel_rfl⟩
theorem fn10 : FnIs Try.prog 10 := ⟨_, Try.func10, rfl, by kernel_rfl⟩
theorem fn41 : FnIs Try.prog 41 := ⟨_, Try.func41, rfl, by kernel_rfl⟩
theorem fn20 : FnIs Try.prog 20 := ⟨_, Try.func20, rfl, by kernel_rfl⟩
theorem fn11 : FnIs Try.prog 11 := ⟨_, Try.func11, rfl, by kernel_rfl⟩
theorem fn42 : FnIs Try.prog 42 := ⟨_, Try.func42, rfl, by kernel_rfl⟩
theorem fn44 : FnIs Try.prog 44 := ⟨_, Try.func44, rfl, by kernel_rfl⟩
theorem fn12 : FnIs Try.prog 12 := ⟨_, Try.func12, rfl, by kernel_rfl⟩
theorem fn25 : FnIs Try.prog 25 := ⟨_, Try.func25, rfl, by kernel_rfl⟩
theorem sz5 : SzIs Try.prog 5 1 := ⟨Try.t5, rfl, rfl⟩
theorem li89 : LitIs Try.prog 89 5 1 [.int .u8 0] := ⟨Try.underlying89, ⟨Try.t5, _, rfl, rfl, rfl, rfl⟩, by intro v hv; simp at hv; (try rcases hv with rfl | hv) <;> first | rfl | (subst hv; rfl) | simp_all [Value.oneCell']⟩
theorem cn9 : Conc Try.prog 9 := ⟨_, Try.underlying9, trivial⟩
theorem fn70 : FnIs Try.prog 70 := ⟨_, Try.func70, rfl, by kernel_rfl⟩
theorem fn78 : FnIs Try.prog 78 := ⟨_, Try.func78, rfl, by kernel_rfl⟩
theorem fn71 : FnIs Try.prog 71 := ⟨_, Try.func71, rfl, by kernel_rfl⟩
theorem ze101 : ZeroIs Try.prog 101 [.pointer none, .slice none 0 0] := ⟨⟨Try.t101, _, rfl, rfl, rfl⟩, by intro v hv; simp only [List.mem_cons, List.not_mem_nil, or_false] at hv; (try rcases hv with rfl | rfl) <;> (subst_vars; rfl)⟩
theorem fi101_0 : FieldIs Try.prog 101 0 0 99 1 := ⟨_, _, Try.t99, Try.underlying101, rfl, rfl, rfl, rfl, rfl⟩
theorem sc99 : Sc Try.prog 99 := ⟨_, Try.t99, Try.underlying99, rfl, rfl, trivial⟩
theorem in101 : ∃ j, Try.prog.info? 101 = some j ∧ (j.size == 0) = false := ⟨Try.t101, rfl, rfl⟩
theorem ex81 : ExtIs Try.prog 81 Extern.AbiNoEscape.same := ⟨_, Try.func81, rfl, by kernel_rfl, by kernel_rfl, by kernel_rfl⟩
theorem te101 : ∃ j, Try.prog.info? 101 = some j := ⟨Try.t101, rfl⟩
theorem sz99 : SzIs Try.prog 99 1 := ⟨Try.t99, rfl, rfl⟩
theorem fn79 : FnIs Try.prog 79 := ⟨_, Try.func79, rfl, by kernel_rfl⟩
theorem fi101_1 : FieldIs Try.prog 101 1 1 89 1 := ⟨_, _, Try.t89, Try.underlying101, rfl, rfl, rfl, rfl, rfl⟩
theorem sc89 : Sc Try.prog 89 := ⟨_, Try.t89, Try.underlying89, rfl, rfl, trivial⟩
theorem sl89 : SlIs Try.prog 89 5 1 := ⟨Try.underlying89, sz5⟩
theorem ex82 : ExtIs Try.prog 82 (Extern.BytealgMakeNoZero.makeNoZero #[3] #[89]) := ⟨_, Try.func82, rfl, by kernel_rfl, by kernel_rfl, by kernel_rfl⟩
theorem sz89 : SzIs Try.prog 89 1 := ⟨Try.t89, rfl, rfl⟩
theorem fn80 : FnIs Try.prog 80 := ⟨_, Try.func80, rfl, by kernel_rfl⟩
theorem fn72 : FnIs Try.prog 72 := ⟨_, Try.func72, rfl, by kernel_rfl⟩
theorem ap89 : ApIs Try.prog 89 5 1 1 := ⟨Try.underlying89, ⟨Try.t5, _, rfl, rfl, rfl, rfl, rfl⟩, by decide, by decide⟩
theorem fn73 : FnIs Try.prog 73 := ⟨_, Try.func73, rfl, by kernel_rfl⟩
theorem fn74 : FnIs Try.prog 74 := ⟨_, Try.func74, rfl, by kernel_rfl⟩
theorem fn75 : FnIs Try.prog 75 := ⟨_, Try.func75, rfl, by kernel_rfl⟩
theorem fn66 : FnIs Try.prog 66 := ⟨_, Try.func66, rfl, by kernel_rfl⟩
theorem fn45 : FnIs Try.prog 45 := ⟨_, Try.func45, rfl, by kernel_rfl⟩
theorem fn13 : FnIs Try.prog 13 := ⟨_, Try.func13, rfl, by kernel_rfl⟩
end Go.Proofs.Ytdbeblgfccjbgaa.W
namespace Go.Proofs.Ytdbeblgfccjbgaa.W
open Go Go.Q Go.Proofs
set_option linter.unusedVariables false
set_option linter.unusedSimpArgs false
set_option maxRecDepth 100000 in
set_option maxHeartbeats 4000000 in
theorem s_dec_ranged (k : Nat) (x18 : (List S_api_Dec)) (x53 : Bool) (H : g_dec_ranged k x18 = some x53) : Go.Q.Spec Try.prog 52 0 [.ro (Rd.slice rdS_api_Dec) true x18] Mem.nil (fun o M => o = .ret (.lit (.bool x53)) ∧ M = Mem.nil) := by
 unfold g_dec_ranged at H
 refine Go.Q.Spec.of_bodyR (az := []) (rs := [.tmp 2]) (nt := 20) Try.func52 rfl rfl (by intro t T h; simp at h) rfl rfl fun cx hnp => ?_
 refine WP.seq ?_
 refine WP.region ?_
 refine WPL.q (q_as (v := .lit (.bool _)) rfl) rfl ?_
 refine WPL.nilW ?_
 refine W.now ?_
 refine Then.n ?_
 refine WP.seq ?_
 refine WP.seq ?_
 refine WP.region ?_
 refine WPL.q (q_mv (v := .ro _ _ _) rfl) rfl ?_
 refine WPL.q (q_len_ro sl91 rfl) rfl ?_
 refine WPL.q (q_mv (v := .lit (.int _ _)) rfl) rfl ?_
 refine WPL.nilW ?_
 refine W.now ?_
 refine Then.n ?_
 refine WP.block ?_
 refine WP.cv (Cv.weak (E' := (((Env.none.upd 5 (.ro (Rd.slice rdS_api_Dec) true x18)).upd 6 (.lit (.int .i64 ((List.length x18 : Nat) : Int)))).upd 7 (.lit (.int .i64 0)))) (M' := Mem.nil) [] hnp ⟨rfl, trivial, by decide, rfl, trivial⟩ (LeE.upd rfl rfl (LeE.upd rfl rfl (LeE.upd rfl rfl (LeE.none rfl rfl))))) ?_
 obtain ⟨y101, H99, H⟩ := bnd H
 refine WP.monoW (Q := fun x E M => match (generalizing := false) y101 with | (Sum.inl _) => x = .ret ∧ E = (Env.none.upd 2 (.lit (.bool false))) ∧ M = Mem.nil | (Sum.inr _) => x = .exit 0 ∧ E = Env.none ∧ M = Mem.nil) ?_ ?_
 · refine WP.loop (β := Int) (fun n b => g_dec_ranged_l0 k x18 n b = some y101) (fun b => (((Env.none.upd 5 (.ro (Rd.slice rdS_api_Dec) true x18)).upd 6 (.lit (.int .i64 ((List.length x18 : Nat) : Int)))).upd 7 (.lit (.int .i64 b)))) (fun b => Mem.nil) k 0 H99 rfl rfl ?_
   rintro n x69 H
   obtain _ | n := n
   · exact nf rfl H
   rw [g_dec_ranged_l0.eq_2] at H
   show WP _ _ _ _ (((Env.none.upd 5 (.ro (Rd.slice rdS_api_Dec) true x18)).upd 6 (.lit (.int .i64 ((List.length x18 : Nat) : Int)))).upd 7 (.lit (.int .i64 x69))) Mem.nil _
   refine WP.seq ?_
   refine WP.region ?_
   obtain ⟨x85, h85, H⟩ := bnd H
   refine WPL.q (q_nm (q_lss rfl rfl) (nm_bool h85)) rfl ?_
   refine WPL.nilW ?_
   refine W.now ?_
   refine Then.n ?_
   refine WP.seq ?_
   refine WP.cond (t := x85) rfl (fun hb86 => ?_) (fun hb86 => ?_)
   · replace H := cnt hb86 H
     refine WP.skipW ?_
     refine W.now ?_
     refine Then.n ?_
     refine WP.seq ?_
     refine WP.block ?_
     refine WP.seq ?_
     refine WP.region ?_
     obtain ⟨x94, h94, H⟩ := bnd H
     refine WPL.q (q_index_ro sl91 rfl rfl rfl h94) rfl ?_
     refine WPL.q (q_load_roag ag23 rfl rfl S_api_Dec.sp) rfl ?_
     refine WPL.d (d_alloc ze23 rfl) rfl ?_
     refine WPL.s (s_store sz23 rfl rfl rfl rfl rfl) ?_
     refine WPL.nilW ?_
     refine W.now ?_
     refine Then.n ?_
     refine WP.seq ?_
     obtain ⟨x96, H97, H⟩ := bnd H
     refine WP.monoW (Q := fun x E M => x = .normal ∧ E = ((((Env.none.upd 5 (.ro (Rd.slice rdS_api_Dec) true x18)).upd 6 (.lit (.int .i64 ((List.length x18 : Nat) : Int)))).upd 7 (.lit (.int .i64 x69))).upd 18 (.lit (.bool x96))) ∧ M = Mem.nil) ?_ ?_
     · clear H
       have H := H97
       clear H97
       refine WP.region ?_
       refine WPL.q (q_fieldAddr fi23_1 rfl rfl) rfl ?_
       refine WPL.q (q_load sc3 rfl rfl rfl) rfl ?_
       refine WPL.q (q_lss rfl rfl) rfl ?_
       refine WPL.q (q_mv (v := .lit (.bool _)) rfl) rfl ?_
       refine WPL.split (t := 14) (b := (decide (x94.fE < (-18)))) rfl (fun hb96 => ?_) (fun hb96 => ?_)
       · replace H := cnt hb96 H
         refine WPL.skipg (b' := true) rfl rfl (lb hb96) rfl rfl ?_
         refine WPL.skipg (b' := true) rfl rfl (lb hb96) rfl rfl ?_
         refine WPL.skipg (b' := true) rfl rfl (lb hb96) rfl rfl ?_
         refine WPL.q (q_pickT (v := .lit (.bool _)) (lb hb96) rfl) rfl ?_
         refine WPL.nilW ?_
         have q0 := (Option.some.inj H)
         subst q0
         exact W.wk [] hnp ⟨rfl, rfl, rfl⟩ ⟨rfl, trivial, by decide, rfl, trivial⟩ (LeE.upd rfl rfl (LeE.upd rfl rfl (LeE.upd rfl rfl (LeE.upd rfl rfl (LeE.none rfl rfl))))) rfl
       replace H := cnf hb96 H
       refine WPL.qg rfl rfl (lb hb96) (q_fieldAddr fi23_1 rfl rfl) rfl ?_
       refine WPL.qg rfl rfl (lb hb96) (q_load sc3 rfl rfl rfl) rfl ?_
       refine WPL.qg rfl rfl (lb hb96) (q_gtr rfl rfl) rfl ?_
       refine WPL.q (q_pickF (v := .lit (.bool _)) (lb hb96) rfl) rfl ?_
       refine WPL.nilW ?_
       have q0 := (Option.some.inj H)
       subst q0
       exact W.wk [] hnp ⟨rfl, rfl, rfl⟩ ⟨rfl, trivial, by decide, rfl, trivial⟩ (LeE.upd rfl rfl (LeE.upd rfl rfl (LeE.upd rfl rfl (LeE.upd rfl rfl (LeE.none rfl rfl))))) rfl
     rintro _ _ _ ⟨rfl, rfl, rfl⟩
     refine W.now ?_
     refine Then.n ?_
     refine WP.cond (t := x96) rfl (fun hb98 => ?_) (fun hb98 => ?_)
     · replace H := cnt hb98 H
       refine WP.seq ?_
       refine WP.region ?_
       refine WPL.q (q_as (v := .lit (.bool _)) rfl) rfl ?_
       refine WPL.nilW ?_
       refine W.now ?_
       refine Then.n ?_
       refine WP.retW ?_
       have q0 := Option.some.inj H
       subst q0
       exact W.wk [] hnp (InBlock.r (Then.r (Then.r ⟨rfl, rfl, rfl⟩))) ⟨rfl, trivial, by decide, rfl, trivial⟩ (LeE.upd rfl rfl (LeE.none rfl rfl)) rfl
     replace H := cnf hb98 H
     refine WP.skipW ?_
     refine W.now ?_
     refine InBlock.n ?_
     refine Then.n ?_
     refine WP.region ?_
     refine WPL.q (q_add rfl rfl) rfl ?_
     refine WPL.q (q_mv (v := .lit (.int _ _)) rfl) rfl ?_
     refine WPL.nilW ?_
     exact W.wk [] hnp (Then.n ⟨n, (IntKind.wrap .i64 (x69 + 1)), Nat.lt_succ_self n, H, rfl, rfl⟩) ⟨rfl, trivial, by decide, rfl, trivial⟩ (LeE.upd rfl rfl (LeE.upd rfl rfl (LeE.upd rfl rfl (LeE.none rfl rfl)))) rfl
   replace H := cnf hb86 H
   refine WP.exitW ?_
   have q0 := Option.some.inj H
   subst q0
   exact W.wk [] hnp (Then.x (Then.x ⟨rfl, rfl, rfl⟩)) ⟨rfl, trivial, by decide, rfl, trivial⟩ (LeE.none rfl rfl) rfl
 rcases y101 with _ | _
 · rintro _ _ _ ⟨rfl, rfl, rfl⟩
   have q0 := (Option.some.inj H)
   subst q0
   exact W.now (InBlock.r (Then.r (BodyR.mkR trivial rfl [] ⟨rfl, rfl⟩ ⟨rfl, trivial, by decide, rfl, trivial⟩ rfl rfl)))
 rintro _ _ _ ⟨rfl, rfl, rfl⟩
 refine W.now ?_
 refine InBlock.x0 ?_
 refine Then.n ?_
 refine WP.seq ?_
 refine WP.region ?_
 refine WPL.q (q_as (v := .lit (.bool _)) rfl) rfl ?_
 refine WPL.nilW ?_
 refine W.now ?_
 refine Then.n ?_
 refine WP.retW ?_
 have q0 := (Option.some.inj H)
 subst q0
 exact W.now (BodyR.mkR trivial rfl [] ⟨rfl, rfl⟩ ⟨rfl, trivial, by decide, rfl, trivial⟩ rfl rfl)
set_option maxRecDepth 100000 in
set_option maxHeartbeats 4000000 in
theorem s_dec_size (k : Nat) (x111 : Int) (x117 : Int) (H : g_dec_size k x111 = some x117) : Go.Q.Spec Try.prog 28 0 [.lit (.int .i64 x111)] Mem.nil (fun o M => o = .ret (.lit (.int .u64 x117)) ∧ M = Mem.nil) := by
 unfold g_dec_size at H
 refine Go.Q.Spec.of_bodyR (az := []) (rs := [.tmp 2]) (nt := 10) Try.func28 rfl rfl (by intro t T h; simp at h) rfl rfl fun cx hnp => ?_
 refine WP.seq ?_
 refine WP.region ?_
 refine WPL.q (q_as (v := .lit (.int _ _)) rfl) rfl ?_
 refine WPL.nilW ?_
 refine W.now ?_
 refine Then.n ?_
 refine WP.seq ?_
 refine WP.seq ?_
 refine WP.region ?_
 refine WPL.q (q_mv (v := .lit (.int _ _)) rfl) rfl ?_
 refine WPL.q (q_lss rfl rfl) rfl ?_
 refine WPL.nilW ?_
 refine W.now ?_
 refine Then.n ?_
 refine WP.cond (t := (decide (x111 < 0))) rfl (fun hb119 => ?_) (fun hb119 => ?_)
 · replace H := cnt hb119 H
   refine WP.seq ?_
   refine WP.region ?_
   refine WPL.q (q_mv (v := .lit (.int _ _)) rfl) rfl ?_
   refine WPL.q (q_conv Try.underlying2 Try.underlying38 rfl) rfl ?_
   obtain ⟨x121, h121, H⟩ := bnd H
   refine WPL.q (q_nm (q_neg rfl) (nm_int h121)) rfl ?_
   refine WPL.q (q_as (v := .lit (.int _ _)) rfl) rfl ?_
   refine WPL.nilW ?_
   refine W.now ?_
   refine Then.n ?_
   refine WP.retW ?_
   have q0 := (Option.some.inj H)
   subst q0
   exact W.now (Then.r (BodyR.mkR trivial rfl [] ⟨rfl, rfl⟩ ⟨rfl, trivial, by decide, rfl, trivial⟩ rfl rfl))
 replace H := cnf hb119 H
 refine WP.skipW ?_
 refine W.now ?_
 refine Then.n ?_
 refine WP.seq ?_
 refine WP.region ?_
 refine WPL.q (q_mv (v := .lit (.int _ _)) rfl) rfl ?_
 refine WPL.q (q_conv Try.underlying2 Try.underlying38 rfl) rfl ?_
 refine WPL.q (q_as (v := .lit (.int _ _)) rfl) rfl ?_
 refine WPL.nilW ?_
 refine W.now ?_
 refine Then.n ?_
 refine WP.retW ?_
 have q0 := (Option.some.inj H)
 subst q0
 exact W.now (BodyR.mkR trivial rfl [] ⟨rfl, rfl⟩ ⟨rfl, trivial, by decide, rfl, trivial⟩ rfl rfl)
set_option maxRecDepth 100000 in
set_option maxHeartbeats 4000000 in
theorem s_dec_of (k : Nat) (x108 : Int) (x109 : Int) (x126 : Int) (H : g_dec_of k x108 x109 = some x126) : Go.Q.Spec Try.prog 38 0 [.agg [.lit (.int .i64 x108), .lit (.int .i64 x109)]] Mem.nil (fun o M => o = .ret (.agg [.lit (.bool (decide (x108 < 0))), .lit (.int .u64 0), .lit (.int .u64 x126), .lit (.int .i64 x109)]) ∧ M = (Mem.nil.push (.cells 47 [.lit (.bool (decide (x108 < 0))), .lit (.int .u64 0), .lit (.int .u64 x126), .lit (.int .i64 x109)]))) := by
 unfold g_dec_of at H
 refine Go.Q.Spec.of_bodyR (az := [(47, 4)]) (rs := [.cell 2 47]) (nt := 13) Try.func38 rfl rfl (by intro t T h; simp at h; rcases h with ⟨rfl, rfl⟩ <;> first | exact ag47) rfl rfl fun cx hnp => ?_
 refine WP.seq ?_
 refine WP.region ?_
 refine WPL.d (d_box rfl rfl) rfl ?_
 refine WPL.d (d_alloc ze47 rfl) rfl ?_
 refine WPL.nilW ?_
 refine W.now ?_
 refine Then.n ?_
 refine WP.seq ?_
 refine WP.regionD' 11 [0] [] mixed rfl ?_
 refine WPD.takeT 0 rfl (by kernel_rfl) (q_fieldAddr fi23_0 rfl rfl) rfl ?_
 refine WPD.takeT 3 rfl (by kernel_rfl) (q_fieldAddr fi23_0 rfl rfl) rfl ?_
 refine WPD.takeT 7 rfl (by kernel_rfl) (q_fieldAddr fi23_1 rfl rfl) rfl ?_
 refine WPD.take 1 rfl (by kernel_rfl) (q_load sc2 rfl rfl rfl) rfl rfl ?_
 refine WPD.takeT 2 rfl (by kernel_rfl) (q_lss rfl rfl) rfl ?_
 refine WPD.take 4 rfl (by kernel_rfl) (q_load sc2 rfl rfl rfl) rfl rfl ?_
 refine WPD.take 8 rfl (by kernel_rfl) (q_load sc3 rfl rfl rfl) rfl rfl ?_
 obtain ⟨x130, h128, H⟩ := bnd H
 refine WPD.eff 5 [0] [] rfl (by kernel_rfl) (runs_call (s := []) (t := []) (N := 2) (bor := []) fn28 rfl (s_dec_size k x108 x130 h128) ⟨rfl, trivial, by decide, rfl, trivial⟩ rfl trivial (.ren rfl rfl .nil) rfl trivial rfl) rfl rfl ?_
 refine WPD.takeT 6 rfl (by kernel_rfl) (q_build bu43 rfl) rfl ?_
 refine WPD.takeT 9 rfl (by kernel_rfl) (q_build bu47 rfl) rfl ?_
 refine WPD.effS 10 [0] [] rfl (by kernel_rfl) (s_store sz47 rfl rfl rfl rfl rfl) rfl ?_
 refine WPD.doneW (by kernel_rfl) ?_
 refine W.now ?_
 refine Then.n ?_
 refine WP.retW ?_
 have q0 := (Option.some.inj H)
 subst q0
 exact W.now (BodyR.mkR trivial rfl [1] ⟨rfl, rfl⟩ ⟨rfl, ⟨trivial, .inr ⟨rfl, rfl, rfl⟩⟩, by decide, rfl, trivial⟩ rfl rfl)
set_option maxRecDepth 100000 in
set_option maxHeartbeats 4000000 in
theorem s_dec_wide_zero (k : Nat) (x138 : Int) (x139 : Int) (H : g_dec_wide_zero k x138 x139 = some ()) : Go.Q.Spec Try.prog 58 0 [.agg [.lit (.int .u64 x138), .lit (.int .u64 x139)]] Mem.nil (fun o M => o = .ret (.lit (.bool (decide ((bits .or .u64 x138 x139) = 0)))) ∧ M = Mem.nil) := by
 unfold g_dec_wide_zero at H
 refine Go.Q.Spec.of_bodyR (az := []) (rs := [.tmp 2]) (nt := 9) Try.func58 rfl rfl (by intro t T h; simp at h) rfl rfl fun cx hnp => ?_
 refine WP.seq ?_
 refine WP.region ?_
 refine WPL.d (d_box rfl rfl) rfl ?_
 refine WPL.q (q_as (v := .lit (.bool _)) rfl) rfl ?_
 refine WPL.nilW ?_
 refine W.now ?_
 refine Then.n ?_
 refine WP.seq ?_
 refine WP.region ?_
 refine WPL.q (q_fieldAddr fi43_0 rfl rfl) rfl ?_
 refine WPL.q (q_load sc38 rfl rfl rfl) rfl ?_
 refine WPL.q (q_fieldAddr fi43_1 rfl rfl) rfl ?_
 refine WPL.q (q_load sc38 rfl rfl rfl) rfl ?_
 refine WPL.q (q_or rfl rfl) rfl ?_
 refine WPL.q (q_eql rfl rfl) rfl ?_
 refine WPL.q (q_as (v := .lit (.bool _)) rfl) rfl ?_
 refine WPL.nilW ?_
 refine W.now ?_
 refine Then.n ?_
 refine WP.retW ?_
 exact W.now (BodyR.mkR trivial rfl [] ⟨rfl, rfl⟩ ⟨rfl, trivial, by decide, rfl, trivial⟩ rfl rfl)
set_option maxRecDepth 100000 in
set_option maxHeartbeats 4000000 in
theorem s_math_bits_Len64 (k : Nat) (x169 : Int) (x188 : Int) (H : g_math_bits_Len64 k x169 = some x188) : Go.Q.Spec Try.prog 76 0 [.lit (.int .u64 x169)] Mem.nil (fun o M => o = .ret (.lit (.int .i64 x188)) ∧ M = Mem.nil) := by
 unfold g_math_bits_Len64 at H
 refine Go.Q.Spec.of_bodyR (az := []) (rs := [.tmp 2]) (nt := 25) Try.func76 rfl rfl (by intro t T h; simp at h) rfl rfl fun cx hnp => ?_
 refine WP.seq ?_
 refine WP.region ?_
 refine WPL.q (q_as (v := .lit (.int _ _)) rfl) rfl ?_
 refine WPL.nilW ?_
 refine W.now ?_
 refine Then.n ?_
 refine WP.seq ?_
 obtain ⟨⟨x190, x191⟩, H192, H⟩ := bnd H
 refine WP.monoW (Q := fun x E M => x = .normal ∧ E = ((Env.none.upd 0 (.lit (.int .u64 x190))).upd 2 (.lit (.int .i64 x191))) ∧ M = Mem.nil) ?_ ?_
 · clear H
   have H := H192
   clear H192
   refine WP.seq ?_
   refine WP.region ?_
   refine WPL.q (q_mv (v := .lit (.int _ _)) rfl) rfl ?_
   refine WPL.q (q_geq rfl rfl) rfl ?_
   refine WPL.nilW ?_
   refine W.now ?_
   refine Then.n ?_
   refine WP.cond (t := (decide (4294967296 ≤ x169))) rfl (fun hb191 => ?_) (fun hb191 => ?_)
   · replace H := cnt hb191 H
     refine WP.seq ?_
     refine WP.region ?_
     refine WPL.q (q_mv (v := .lit (.int _ _)) rfl) rfl ?_
     refine WPL.q (q_shr rfl rfl rfl) rfl ?_
     refine WPL.q (q_as (v := .lit (.int _ _)) rfl) rfl ?_
     refine WPL.nilW ?_
     refine W.now ?_
     refine Then.n ?_
     refine WP.region ?_
     refine WPL.q (q_as (v := .lit (.int _ _)) rfl) rfl ?_
     refine WPL.nilW ?_
     have q0 := (Prod.mk.inj (Option.some.inj H)).1
     have q1 := (Prod.mk.inj (Option.some.inj H)).2
     subst q0
     subst q1
     exact W.wk [] hnp ⟨rfl, rfl, rfl⟩ ⟨rfl, trivial, by decide, rfl, trivial⟩ (LeE.upd rfl rfl (LeE.upd rfl rfl (LeE.none rfl rfl))) rfl
   replace H := cnf hb191 H
   refine WP.skipW ?_
   have q0 := (Prod.mk.inj (Option.some.inj H)).1
   have q1 := (Prod.mk.inj (Option.some.inj H)).2
   subst q0
   subst q1
   exact W.wk [] hnp ⟨rfl, rfl, rfl⟩ ⟨rfl, trivial, by decide, rfl, trivial⟩ (LeE.upd rfl rfl (LeE.upd rfl rfl (LeE.none rfl rfl))) rfl
 rintro _ _ _ ⟨rfl, rfl, rfl⟩
 refine W.now ?_
 refine Then.n ?_
 refine WP.seq ?_
 obtain ⟨⟨x195, x196⟩, H197, H⟩ := bnd H
 refine WP.monoW (Q := fun x E M => x = .normal ∧ E = ((Env.none.upd 0 (.lit (.int .u64 x195))).upd 2 (.lit (.int .i64 x196))) ∧ M = Mem.nil) ?_ ?_
 · clear H
   have H := H197
   clear H197
   refine WP.seq ?_
   refine WP.region ?_
   refine WPL.q (q_mv (v := .lit (.int _ _)) rfl) rfl ?_
   refine WPL.q (q_geq rfl rfl) rfl ?_
   refine WPL.nilW ?_
   refine W.now ?_
   refine Then.n ?_
   refine WP.cond (t := (decide (65536 ≤ x190))) rfl (fun hb196 => ?_) (fun hb196 => ?_)
   · replace H := cnt hb196 H
     refine WP.seq ?_
     refine WP.region ?_
     refine WPL.q (q_mv (v := .lit (.int _ _)) rfl) rfl ?_
     refine WPL.q (q_shr rfl rfl rfl) rfl ?_
     refine WPL.q (q_as (v := .lit (.int _ _)) rfl) rfl ?_
     refine WPL.nilW ?_
     refine W.now ?_
     refine Then.n ?_
     refine WP.region ?_
     refine WPL.q (q_mv (v := .lit (.int _ _)) rfl) rfl ?_
     refine WPL.q (q_add rfl rfl) rfl ?_
     refine WPL.q (q_as (v := .lit (.int _ _)) rfl) rfl ?_
     refine WPL.nilW ?_
     have q0 := (Prod.mk.inj (Option.some.inj H)).1
     have q1 := (Prod.mk.inj (Option.some.inj H)).2
     subst q0
     subst q1
     exact W.wk [] hnp ⟨rfl, rfl, rfl⟩ ⟨rfl, trivial, by decide, rfl, trivial⟩ (LeE.upd rfl rfl (LeE.upd rfl rfl (LeE.none rfl rfl))) rfl
   replace H := cnf hb196 H
   refine WP.skipW ?_
   have q0 := (Prod.mk.inj (Option.some.inj H)).1
   have q1 := (Prod.mk.inj (Option.some.inj H)).2
   subst q0
   subst q1
   exact W.wk [] hnp ⟨rfl, rfl, rfl⟩ ⟨rfl, trivial, by decide, rfl, trivial⟩ (LeE.upd rfl rfl (LeE.upd rfl rfl (LeE.none rfl rfl))) rfl
 rintro _ _ _ ⟨rfl, rfl, rfl⟩
 refine W.now ?_
 refine Then.n ?_
 refine WP.seq ?_
 obtain ⟨⟨x200, x201⟩, H202, H⟩ := bnd H
 refine WP.monoW (Q := fun x E M => x = .normal ∧ E = ((Env.none.upd 0 (.lit (.int .u64 x200))).upd 2 (.lit (.int .i64 x201))) ∧ M = Mem.nil) ?_ ?_
 · clear H
   have H := H202
   clear H202
   refine WP.seq ?_
   refine WP.region ?_
   refine WPL.q (q_mv (v := .lit (.int _ _)) rfl) rfl ?_
   refine WPL.q (q_geq rfl rfl) rfl ?_
   refine WPL.nilW ?_
   refine W.now ?_
   refine Then.n ?_
   refine WP.cond (t := (decide (256 ≤ x195))) rfl (fun hb201 => ?_) (fun hb201 => ?_)
   · replace H := cnt hb201 H
     refine WP.seq ?_
     refine WP.region ?_
     refine WPL.q (q_mv (v := .lit (.int _ _)) rfl) rfl ?_
     refine WPL.q (q_shr rfl rfl rfl) rfl ?_
     refine WPL.q (q_as (v := .lit (.int _ _)) rfl) rfl ?_
     refine WPL.nilW ?_
     refine W.now ?_
     refine Then.n ?_
     refine WP.region ?_
     refine WPL.q (q_mv (v := .lit (.int _ _)) rfl) rfl ?_
     refine WPL.q (q_add rfl rfl) rfl ?_
     refine WPL.q (q_as (v := .lit (.int _ _)) rfl) rfl ?_
     refine WPL.nilW ?_
     have q0 := (Prod.mk.inj (Option.some.inj H)).1
     have q1 := (Prod.mk.inj (Option.some.inj H)).2
     subst q0
     subst q1
     exact W.wk [] hnp ⟨rfl, rfl, rfl⟩ ⟨rfl, trivial, by decide, rfl, trivial⟩ (LeE.upd rfl rfl (LeE.upd rfl rfl (LeE.none rfl rfl))) rfl
   replace H := cnf hb201 H
   refine WP.skipW ?_
   have q0 := (Prod.mk.inj (Option.some.inj H)).1
   have q1 := (Prod.mk.inj (Option.some.inj H)).2
   subst q0
   subst q1
   exact W.wk [] hnp ⟨rfl, rfl, rfl⟩ ⟨rfl, trivial, by decide, rfl, trivial⟩ (LeE.upd rfl rfl (LeE.upd rfl rfl (LeE.none rfl rfl))) rfl
 rintro _ _ _ ⟨rfl, rfl, rfl⟩
 refine W.now ?_
 refine Then.n ?_
 refine WP.seq ?_
 refine WP.region ?_
 refine WPL.q (q_mv (v := .lit (.int _ _)) rfl) rfl ?_
 refine WPL.q (q_mv (v := .lit (.int _ _)) rfl) rfl ?_
 refine WPL.q (q_conv Try.underlying38 Try.underlying5 rfl) rfl ?_
 obtain ⟨x204, h204, H⟩ := bnd H
 refine WPL.q (q_index_str Try.underlying9 rfl rfl h204) rfl ?_
 refine WPL.q (q_conv Try.underlying5 Try.underlying3 rfl) rfl ?_
 obtain ⟨x205, h205, H⟩ := bnd H
 refine WPL.q (q_nm (q_add rfl rfl) (nm_int h205)) rfl ?_
 refine WPL.q (q_as (v := .lit (.int _ _)) rfl) rfl ?_
 refine WPL.nilW ?_
 refine W.now ?_
 refine Then.n ?_
 refine WP.retW ?_
 have q0 := (Option.some.inj H)
 subst q0
 exact W.now (BodyR.mkR trivial rfl [] ⟨rfl, rfl⟩ ⟨rfl, trivial, by decide, rfl, trivial⟩ rfl rfl)
set_option maxRecDepth 100000 in
set_option maxHeartbeats 4000000 in
theorem s_math_bits_LeadingZeros64 (k : Nat) (x167 : Int) (x208 : Int) (H : g_math_bits_LeadingZeros64 k x167 = some x208) : Go.Q.Spec Try.prog 69 0 [.lit (.int .u64 x167)] Mem.nil (fun o M => o = .ret (.lit (.int .i64 x208)) ∧ M = Mem.nil) := by
 unfold g_math_bits_LeadingZeros64 at H
 refine Go.Q.Spec.of_bodyR (az := []) (rs := [.tmp 2]) (nt := 6) Try.func69 rfl rfl (by intro t T h; simp at h) rfl rfl fun cx hnp => ?_
 refine WP.seq ?_
 refine WP.region ?_
 refine WPL.q (q_as (v := .lit (.int _ _)) rfl) rfl ?_
 refine WPL.nilW ?_
 refine W.now ?_
 refine Then.n ?_
 refine WP.seq ?_
 refine WP.region ?_
 refine WPL.q (q_mv (v := .lit (.int _ _)) rfl) rfl ?_
 obtain ⟨x210, h208, H⟩ := bnd H
 refine WPL.c (runs_call (s := []) (t := []) (N := 0) (bor := []) fn76 rfl (s_math_bits_Len64 k x167 x210 h208) ⟨rfl, trivial, by decide, rfl, trivial⟩ rfl trivial (.ren rfl rfl .nil) rfl trivial rfl) rfl ?_
 refine WPL.q (q_sub rfl rfl) rfl ?_
 refine WPL.q (q_as (v := .lit (.int _ _)) rfl) rfl ?_
 refine WPL.nilW ?_
 refine W.now ?_
 refine Then.n ?_
 refine WP.retW ?_
 have q0 := (Option.some.inj H)
 subst q0
 exact W.now (BodyR.mkR trivial rfl [] ⟨rfl, rfl⟩ ⟨rfl, trivial, by decide, rfl, trivial⟩ rfl rfl)
set_option maxRecDepth 100000 in
set_option maxHeartbeats 4000000 in
theorem s_math_bits_Div64 (k : Nat) (x149 : Int) (x150 : Int) (x151 : Int) (x341 : Int) (x342 : Int) (H : g_math_bits_Div64 k x149 x150 x151 = some (x341, x342)) : Go.Q.Spec Try.prog 64 0 [.lit (.int .u64 x149), .lit (.int .u64 x150), .lit (.int .u64 x151)] Mem.nil (fun o M => o = .ret (.tup [.lit (.int .u64 x341), .lit (.int .u64 x342)]) ∧ M = Mem.nil) := by
 unfold g_math_bits_Div64 at H
 refine Go.Q.Spec.of_bodyR (az := []) (rs := [.tmp 6, .tmp 7]) (nt := 135) Try.func64 rfl rfl (by intro t T h; simp at h) rfl rfl fun cx hnp => ?_
 refine WP.seq ?_
 refine WP.region ?_
 refine WPL.q (q_as (v := .lit (.int _ _)) rfl) rfl ?_
 refine WPL.q (q_as (v := .lit (.int _ _)) rfl) rfl ?_
 refine WPL.nilW ?_
 refine W.now ?_
 refine Then.n ?_
 refine WP.seq ?_
 refine WP.seq ?_
 refine WP.region ?_
 refine WPL.q (q_mv (v := .lit (.int _ _)) rfl) rfl ?_
 refine WPL.q (q_eql rfl rfl) rfl ?_
 refine WPL.nilW ?_
 refine W.now ?_
 refine Then.n ?_
 refine WP.cond (t := (decide (x151 = 0))) rfl (fun hb343 => ?_) (fun hb343 => ?_)
 · replace H := cnt hb343 H
   refine WP.region ?_
   exact nf rfl H
 replace H := cnf hb343 H
 refine WP.skipW ?_
 refine W.now ?_
 refine Then.n ?_
 refine WP.seq ?_
 refine WP.seq ?_
 refine WP.region ?_
 refine WPL.q (q_mv (v := .lit (.int _ _)) rfl) rfl ?_
 refine WPL.q (q_mv (v := .lit (.int _ _)) rfl) rfl ?_
 refine WPL.q (q_leq rfl rfl) rfl ?_
 refine WPL.nilW ?_
 refine W.now ?_
 refine Then.n ?_
 refine WP.cond (t := (decide (x151 ≤ x149))) rfl (fun hb345 => ?_) (fun hb345 => ?_)
 · replace H := cnt hb345 H
   refine WP.region ?_
   exact nf rfl H
 replace H := cnf hb345 H
 refine WP.skipW ?_
 refine W.now ?_
 refine Then.n ?_
 refine WP.seq ?_
 refine WP.seq ?_
 refine WP.region ?_
 refine WPL.q (q_mv (v := .lit (.int _ _)) rfl) rfl ?_
 refine WPL.q (q_eql rfl rfl) rfl ?_
 refine WPL.nilW ?_
 refine W.now ?_
 refine Then.n ?_
 refine WP.cond (t := (decide (x149 = 0))) rfl (fun hb351 => ?_) (fun hb351 => ?_)
 · replace H := cnt hb351 H
   refine WP.seq ?_
   refine WP.regionD' 8 [] [] mixed rfl ?_
   refine WPD.takeT 0 rfl (by kernel_rfl) (q_mv (v := .lit (.int _ _)) rfl) rfl ?_
   refine WPD.takeT 1 rfl (by kernel_rfl) (q_mv (v := .lit (.int _ _)) rfl) rfl ?_
   obtain ⟨h354, H⟩ := grd H
   refine WPD.takeT 2 rfl (by kernel_rfl) (q_quo rfl rfl (bnot h354)) rfl ?_
   refine WPD.takeT 3 rfl (by kernel_rfl) (q_mv (v := .lit (.int _ _)) rfl) rfl ?_
   refine WPD.takeT 4 rfl (by kernel_rfl) (q_mv (v := .lit (.int _ _)) rfl) rfl ?_
   obtain ⟨h355, H⟩ := grd H
   refine WPD.takeT 5 rfl (by kernel_rfl) (q_rem rfl rfl (bnot h355)) rfl ?_
   refine WPD.takeT 6 rfl (by kernel_rfl) (q_as (v := .lit (.int _ _)) rfl) rfl ?_
   refine WPD.takeT 7 rfl (by kernel_rfl) (q_as (v := .lit (.int _ _)) rfl) rfl ?_
   refine WPD.doneW (by kernel_rfl) ?_
   refine W.now ?_
   refine Then.n ?_
   refine WP.retW ?_
   have q0 := (Prod.mk.inj (Option.some.inj H)).1
   have q1 := (Prod.mk.inj (Option.some.inj H)).2
   subst q0
   subst q1
   exact W.now (Then.r (BodyR.mkR trivial rfl [] ⟨rfl, rfl⟩ ⟨rfl, trivial, by decide, rfl, trivial⟩ rfl rfl))
 replace H := cnf hb351 H
 refine WP.skipW ?_
 refine W.now ?_
 refine Then.n ?_
 refine WP.seq ?_
 refine WP.region ?_
 refine WPL.q (q_mv (v := .lit (.int _ _)) rfl) rfl ?_
 obtain ⟨x358, h356, H⟩ := bnd H
 refine WPL.c (runs_call (s := []) (t := []) (N := 0) (bor := []) fn69 rfl (s_math_bits_LeadingZeros64 k x151 x358 h356) ⟨rfl, trivial, by decide, rfl, trivial⟩ rfl trivial (.ren rfl rfl .nil) rfl trivial rfl) rfl ?_
 refine WPL.q (q_conv Try.underlying3 Try.underlying92 rfl) rfl ?_
 refine WPL.q (q_as (v := .lit (.int _ _)) rfl) rfl ?_
 refine WPL.nilW ?_
 refine W.now ?_
 refine Then.n ?_
 refine WP.seq ?_
 refine WP.region ?_
 refine WPL.q (q_mv (v := .lit (.int _ _)) rfl) rfl ?_
 refine WPL.q (q_mv (v := .lit (.int _ _)) rfl) rfl ?_
 obtain ⟨h358, H⟩ := grd H
 obtain ⟨x360, h360, H⟩ := bnd H
 refine WPL.q (q_nm (q_shl rfl rfl h358) (nm_int h360)) rfl ?_
 refine WPL.q (q_as (v := .lit (.int _ _)) rfl) rfl ?_
 refine WPL.nilW ?_
 refine W.now ?_
 refine Then.n ?_
 refine WP.seq ?_
 refine WP.region ?_
 refine WPL.q (q_mv (v := .lit (.int _ _)) rfl) rfl ?_
 refine WPL.q (q_shr rfl rfl rfl) rfl ?_
 refine WPL.q (q_as (v := .lit (.int _ _)) rfl) rfl ?_
 refine WPL.nilW ?_
 refine W.now ?_
 refine Then.n ?_
 refine WP.seq ?_
 refine WP.region ?_
 refine WPL.q (q_mv (v := .lit (.int _ _)) rfl) rfl ?_
 refine WPL.q (q_and rfl rfl) rfl ?_
 refine WPL.q (q_as (v := .lit (.int _ _)) rfl) rfl ?_
 refine WPL.nilW ?_
 refine W.now ?_
 refine Then.n ?_
 refine WP.seq ?_
 refine WP.region ?_
 refine WPL.q (q_mv (v := .lit (.int _ _)) rfl) rfl ?_
 refine WPL.q (q_mv (v := .lit (.int _ _)) rfl) rfl ?_
 obtain ⟨h360, H⟩ := grd H
 obtain ⟨x362, h362, H⟩ := bnd H
 refine WPL.q (q_nm (q_shl rfl rfl h360) (nm_int h362)) rfl ?_
 refine WPL.q (q_mv (v := .lit (.int _ _)) rfl) rfl ?_
 refine WPL.q (q_mv (v := .lit (.int _ _)) rfl) rfl ?_
 obtain ⟨x363, h363, H⟩ := bnd H
 refine WPL.q (q_nm (q_sub rfl rfl) (nm_int h363)) rfl ?_
 obtain ⟨h363, H⟩ := grd H
 refine WPL.q (q_shr rfl rfl h363) rfl ?_
 refine WPL.q (q_or rfl rfl) rfl ?_
 refine WPL.q (q_as (v := .lit (.int _ _)) rfl) rfl ?_
 refine WPL.nilW ?_
 refine W.now ?_
 refine Then.n ?_
 refine WP.seq ?_
 refine WP.region ?_
 refine WPL.q (q_mv (v := .lit (.int _ _)) rfl) rfl ?_
 refine WPL.q (q_mv (v := .lit (.int _ _)) rfl) rfl ?_
 obtain ⟨h364, H⟩ := grd H
 obtain ⟨x366, h366, H⟩ := bnd H
 refine WPL.q (q_nm (q_shl rfl rfl h364) (nm_int h366)) rfl ?_
 refine WPL.q (q_as (v := .lit (.int _ _)) rfl) rfl ?_
 refine WPL.nilW ?_
 refine W.now ?_
 refine Then.n ?_
 refine WP.seq ?_
 refine WP.region ?_
 refine WPL.q (q_mv (v := .lit (.int _ _)) rfl) rfl ?_
 refine WPL.q (q_shr rfl rfl rfl) rfl ?_
 refine WPL.q (q_as (v := .lit (.int _ _)) rfl) rfl ?_
 refine WPL.nilW ?_
 refine W.now ?_
 refine Then.n ?_
 refine WP.seq ?_
 refine WP.region ?_
 refine WPL.q (q_mv (v := .lit (.int _ _)) rfl) rfl ?_
 refine WPL.q (q_and rfl rfl) rfl ?_
 refine WPL.q (q_as (v := .lit (.int _ _)) rfl) rfl ?_
 refine WPL.nilW ?_
 refine W.now ?_
 refine Then.n ?_
 refine WP.seq ?_
 refine WP.region ?_
 refine WPL.q (q_mv (v := .lit (.int _ _)) rfl) rfl ?_
 refine WPL.q (q_mv (v := .lit (.int _ _)) rfl) rfl ?_
 obtain ⟨h366, H⟩ := grd H
 obtain ⟨x368, h368, H⟩ := bnd H
 refine WPL.q (q_nm (q_quo rfl rfl (bnot h366)) (nm_int h368)) rfl ?_
 refine WPL.q (q_as (v := .lit (.int _ _)) rfl) rfl ?_
 refine WPL.nilW ?_
 refine W.now ?_
 refine Then.n ?_
 refine WP.seq ?_
 refine WP.region ?_
 refine WPL.q (q_mv (v := .lit (.int _ _)) rfl) rfl ?_
 refine WPL.q (q_mv (v := .lit (.int _ _)) rfl) rfl ?_
 refine WPL.q (q_mv (v := .lit (.int _ _)) rfl) rfl ?_
 obtain ⟨x369, h369, H⟩ := bnd H
 refine WPL.q (q_nm (q_mul rfl rfl) (nm_int h369)) rfl ?_
 obtain ⟨x370, h370, H⟩ := bnd H
 refine WPL.q (q_nm (q_sub rfl rfl) (nm_int h370)) rfl ?_
 refine WPL.q (q_as (v := .lit (.int _ _)) rfl) rfl ?_
 refine WPL.nilW ?_
 refine W.now ?_
 refine Then.n ?_
 refine WP.seq ?_
 refine WP.block ?_
 refine WP.cv (Cv.weak (E' := (((((((((Env.none.upd 2 (.lit (.int .u64 x360))).upd 8 (.lit (.int .u64 (IntKind.wrap .u64 x358)))).upd 9 (.lit (.int .u64 (shrI .u64 x360 32)))).upd 10 (.lit (.int .u64 (bits .and .u64 x360 4294967295)))).upd 11 (.lit (.int .u64 (bits .or .u64 x362 (shrI .u64 x150 x363))))).upd 13 (.lit (.int .u64 (shrI .u64 x366 32)))).upd 14 (.lit (.int .u64 (bits .and .u64 x366 4294967295)))).upd 15 (.lit (.int .u64 x368))).upd 16 (.lit (.int .u64 x370)))) (M' := Mem.nil) [] hnp ⟨rfl, trivial, by decide, rfl, trivial⟩ (LeE.upd rfl rfl (LeE.upd rfl rfl (LeE.upd rfl rfl (LeE.upd rfl rfl (LeE.upd rfl rfl (LeE.upd rfl rfl (LeE.upd rfl rfl (LeE.upd rfl rfl (LeE.upd rfl rfl (LeE.none rfl rfl))))))))))) ?_
 obtain ⟨x421, H445, H⟩ := bnd H
 refine WP.monoW (Q := fun x E M => x = .exit 0 ∧ E = ((((((((Env.none.upd 2 (.lit (.int .u64 x360))).upd 8 (.lit (.int .u64 (IntKind.wrap .u64 x358)))).upd 9 (.lit (.int .u64 (shrI .u64 x360 32)))).upd 10 (.lit (.int .u64 (bits .and .u64 x360 4294967295)))).upd 11 (.lit (.int .u64 (bits .or .u64 x362 (shrI .u64 x150 x363))))).upd 13 (.lit (.int .u64 (shrI .u64 x366 32)))).upd 14 (.lit (.int .u64 (bits .and .u64 x366 4294967295)))).upd 15 (.lit (.int .u64 x421))) ∧ M = Mem.nil) ?_ ?_
 · refine WP.loop (β := Int × Int) (fun n b => g_math_bits_Div64_l0 k x360 x366 n b.1 b.2 = some x421) (fun b => (((((((((Env.none.upd 2 (.lit (.int .u64 x360))).upd 8 (.lit (.int .u64 (IntKind.wrap .u64 x358)))).upd 9 (.lit (.int .u64 (shrI .u64 x360 32)))).upd 10 (.lit (.int .u64 (bits .and .u64 x360 4294967295)))).upd 11 (.lit (.int .u64 (bits .or .u64 x362 (shrI .u64 x150 x363))))).upd 13 (.lit (.int .u64 (shrI .u64 x366 32)))).upd 14 (.lit (.int .u64 (bits .and .u64 x366 4294967295)))).upd 15 (.lit (.int .u64 b.1))).upd 16 (.lit (.int .u64 b.2)))) (fun b => Mem.nil) k (x368, x370) H445 rfl rfl ?_
   rintro n ⟨x395, x396⟩ H
   obtain _ | n := n
   · exact nf rfl H
   rw [g_math_bits_Div64_l0.eq_2] at H
   show WP _ _ _ _ (((((((((Env.none.upd 2 (.lit (.int .u64 x360))).upd 8 (.lit (.int .u64 (IntKind.wrap .u64 x358)))).upd 9 (.lit (.int .u64 (shrI .u64 x360 32)))).upd 10 (.lit (.int .u64 (bits .and .u64 x360 4294967295)))).upd 11 (.lit (.int .u64 (bits .or .u64 x362 (shrI .u64 x150 x363))))).upd 13 (.lit (.int .u64 (shrI .u64 x366 32)))).upd 14 (.lit (.int .u64 (bits .and .u64 x366 4294967295)))).upd 15 (.lit (.int .u64 x395))).upd 16 (.lit (.int .u64 x396))) Mem.nil _
   refine WP.seq ?_
   refine WP.seq ?_
   obtain ⟨x437, H441, H⟩ := bnd H
   refine WP.monoW (Q := fun x E M => x = .normal ∧ E = ((((((((((Env.none.upd 2 (.lit (.int .u64 x360))).upd 8 (.lit (.int .u64 (IntKind.wrap .u64 x358)))).upd 9 (.lit (.int .u64 (shrI .u64 x360 32)))).upd 10 (.lit (.int .u64 (bits .and .u64 x360 4294967295)))).upd 11 (.lit (.int .u64 (bits .or .u64 x362 (shrI .u64 x150 x363))))).upd 13 (.lit (.int .u64 (shrI .u64 x366 32)))).upd 14 (.lit (.int .u64 (bits .and .u64 x366 4294967295)))).upd 15 (.lit (.int .u64 x395))).upd 16 (.lit (.int .u64 x396))).upd 78 (.lit (.bool x437))) ∧ M = Mem.nil) ?_ ?_
   · clear H
     have H := H441
     clear H441
     refine WP.region ?_
     refine WPL.q (q_mv (v := .lit (.int _ _)) rfl) rfl ?_
     refine WPL.q (q_geq rfl rfl) rfl ?_
     refine WPL.q (q_mv (v := .lit (.bool _)) rfl) rfl ?_
     refine WPL.split (t := 69) (b := (decide (4294967296 ≤ x395))) rfl (fun hb437 => ?_) (fun hb437 => ?_)
     · replace H := cnt hb437 H
       refine WPL.skipg (b' := true) rfl rfl (lb hb437) rfl rfl ?_
       refine WPL.skipg (b' := true) rfl rfl (lb hb437) rfl rfl ?_
       refine WPL.skipg (b' := true) rfl rfl (lb hb437) rfl rfl ?_
       refine WPL.skipg (b' := true) rfl rfl (lb hb437) rfl rfl ?_
       refine WPL.skipg (b' := true) rfl rfl (lb hb437) rfl rfl ?_
       refine WPL.skipg (b' := true) rfl rfl (lb hb437) rfl rfl ?_
       refine WPL.skipg (b' := true) rfl rfl (lb hb437) rfl rfl ?_
       refine WPL.skipg (b' := true) rfl rfl (lb hb437) rfl rfl ?_
       refine WPL.q (q_pickT (v := .lit (.bool _)) (lb hb437) rfl) rfl ?_
       refine WPL.nilW ?_
       have q0 := (Option.some.inj H)
       subst q0
       exact W.wk [] hnp ⟨rfl, rfl, rfl⟩ ⟨rfl, trivial, by decide, rfl, trivial⟩ (LeE.upd rfl rfl (LeE.upd rfl rfl (LeE.upd rfl rfl (LeE.upd rfl rfl (LeE.upd rfl rfl (LeE.upd rfl rfl (LeE.upd rfl rfl (LeE.upd rfl rfl (LeE.upd rfl rfl (LeE.upd rfl rfl (LeE.none rfl rfl))))))))))) rfl
     replace H := cnf hb437 H
     refine WPL.qg rfl rfl (lb hb437) (q_mv (v := .lit (.int _ _)) rfl) rfl ?_
     refine WPL.qg rfl rfl (lb hb437) (q_mv (v := .lit (.int _ _)) rfl) rfl ?_
     obtain ⟨x439, h439, H⟩ := bnd H
     refine WPL.qg rfl rfl (lb hb437) (q_nm (q_mul rfl rfl) (nm_int h439)) rfl ?_
     refine WPL.qg rfl rfl (lb hb437) (q_mv (v := .lit (.int _ _)) rfl) rfl ?_
     obtain ⟨x440, h440, H⟩ := bnd H
     refine WPL.qg rfl rfl (lb hb437) (q_nm (q_mul rfl rfl) (nm_int h440)) rfl ?_
     refine WPL.qg rfl rfl (lb hb437) (q_mv (v := .lit (.int _ _)) rfl) rfl ?_
     obtain ⟨x441, h441, H⟩ := bnd H
     refine WPL.qg rfl rfl (lb hb437) (q_nm (q_add rfl rfl) (nm_int h441)) rfl ?_
     refine WPL.qg rfl rfl (lb hb437) (q_gtr rfl rfl) rfl ?_
     refine WPL.q (q_pickF (v := .lit (.bool _)) (lb hb437) rfl) rfl ?_
     refine WPL.nilW ?_
     have q0 := (Option.some.inj H)
     subst q0
     exact W.wk [] hnp ⟨rfl, rfl, rfl⟩ ⟨rfl, trivial, by decide, rfl, trivial⟩ (LeE.upd rfl rfl (LeE.upd rfl rfl (LeE.upd rfl rfl (LeE.upd rfl rfl (LeE.upd rfl rfl (LeE.upd rfl rfl (LeE.upd rfl rfl (LeE.upd rfl rfl (LeE.upd rfl rfl (LeE.upd rfl rfl (LeE.none rfl rfl))))))))))) rfl
   rintro _ _ _ ⟨rfl, rfl, rfl⟩
   refine W.now ?_
   refine Then.n ?_
   refine WP.cond (t := x437) rfl (fun hb442 => ?_) (fun hb442 => ?_)
   · replace H := cnt hb442 H
     refine WP.skipW ?_
     refine W.now ?_
     refine Then.n ?_
     refine WP.block ?_
     refine WP.seq ?_
     refine WP.region ?_
     refine WPL.q (q_mv (v := .lit (.int _ _)) rfl) rfl ?_
     refine WPL.q (q_sub rfl rfl) rfl ?_
     refine WPL.q (q_as (v := .lit (.int _ _)) rfl) rfl ?_
     refine WPL.nilW ?_
     refine W.now ?_
     refine Then.n ?_
     refine WP.seq ?_
     refine WP.region ?_
     refine WPL.q (q_mv (v := .lit (.int _ _)) rfl) rfl ?_
     refine WPL.q (q_mv (v := .lit (.int _ _)) rfl) rfl ?_
     obtain ⟨x444, h444, H⟩ := bnd H
     refine WPL.q (q_nm (q_add rfl rfl) (nm_int h444)) rfl ?_
     refine WPL.q (q_as (v := .lit (.int _ _)) rfl) rfl ?_
     refine WPL.nilW ?_
     refine W.now ?_
     refine Then.n ?_
     refine WP.seq ?_
     refine WP.region ?_
     refine WPL.q (q_mv (v := .lit (.int _ _)) rfl) rfl ?_
     refine WPL.q (q_geq rfl rfl) rfl ?_
     refine WPL.nilW ?_
     refine W.now ?_
     refine Then.n ?_
     refine WP.cond (t := (decide (4294967296 ≤ x444))) rfl (fun hb444 => ?_) (fun hb444 => ?_)
     · replace H := cnt hb444 H
       refine WP.exitW ?_
       have q0 := (Option.some.inj H)
       subst q0
       exact W.wk [] hnp (InBlock.x rfl (Then.x ⟨rfl, rfl, rfl⟩)) ⟨rfl, trivial, by decide, rfl, trivial⟩ (LeE.upd rfl rfl (LeE.upd rfl rfl (LeE.upd rfl rfl (LeE.upd rfl rfl (LeE.upd rfl rfl (LeE.upd rfl rfl (LeE.upd rfl rfl (LeE.upd rfl rfl (LeE.none rfl rfl))))))))) rfl
     replace H := cnf hb444 H
     refine WP.skipW ?_
     exact W.wk [] hnp (InBlock.n (Then.n ⟨n, ((IntKind.wrap .u64 (x395 - 1)), x444), Nat.lt_succ_self n, H, rfl, rfl⟩)) ⟨rfl, trivial, by decide, rfl, trivial⟩ (LeE.upd rfl rfl (LeE.upd rfl rfl (LeE.upd rfl rfl (LeE.upd rfl rfl (LeE.upd rfl rfl (LeE.upd rfl rfl (LeE.upd rfl rfl (LeE.upd rfl rfl (LeE.upd rfl rfl (LeE.none rfl rfl)))))))))) rfl
   replace H := cnf hb442 H
   refine WP.exitW ?_
   have q0 := (Option.some.inj H)
   subst q0
   exact W.wk [] hnp (Then.x (Then.x ⟨rfl, rfl, rfl⟩)) ⟨rfl, trivial, by decide, rfl, trivial⟩ (LeE.upd rfl rfl (LeE.upd rfl rfl (LeE.upd rfl rfl (LeE.upd rfl rfl (LeE.upd rfl rfl (LeE.upd rfl rfl (LeE.upd rfl rfl (LeE.upd rfl rfl (LeE.none rfl rfl))))))))) rfl
 rintro _ _ _ ⟨rfl, rfl, rfl⟩
 refine W.now ?_
 refine InBlock.x0 ?_
 refine Then.n ?_
 refine WP.seq ?_
 refine WP.region ?_
 refine WPL.q (q_mv (v := .lit (.int _ _)) rfl) rfl ?_
 obtain ⟨x447, h447, H⟩ := bnd H
 refine WPL.q (q_nm (q_mul rfl rfl) (nm_int h447)) rfl ?_
 refine WPL.q (q_mv (v := .lit (.int _ _)) rfl) rfl ?_
 obtain ⟨x448, h448, H⟩ := bnd H
 refine WPL.q (q_nm (q_add rfl rfl) (nm_int h448)) rfl ?_
 refine WPL.q (q_mv (v := .lit (.int _ _)) rfl) rfl ?_
 refine WPL.q (q_mv (v := .lit (.int _ _)) rfl) rfl ?_
 refine WPL.q (q_mul rfl rfl) rfl ?_
 obtain ⟨x449, h449, H⟩ := bnd H
 refine WPL.q (q_nm (q_sub rfl rfl) (nm_int h449)) rfl ?_
 refine WPL.q (q_as (v := .lit (.int _ _)) rfl) rfl ?_
 refine WPL.nilW ?_
 refine W.now ?_
 refine Then.n ?_
 refine WP.seq ?_
 refine WP.region ?_
 refine WPL.q (q_mv (v := .lit (.int _ _)) rfl) rfl ?_
 refine WPL.q (q_mv (v := .lit (.int _ _)) rfl) rfl ?_
 obtain ⟨h449, H⟩ := grd H
 obtain ⟨x451, h451, H⟩ := bnd H
 refine WPL.q (q_nm (q_quo rfl rfl (bnot h449)) (nm_int h451)) rfl ?_
 refine WPL.q (q_as (v := .lit (.int _ _)) rfl) rfl ?_
 refine WPL.nilW ?_
 refine W.now ?_
 refine Then.n ?_
 refine WP.seq ?_
 refine WP.region ?_
 refine WPL.q (q_mv (v := .lit (.int _ _)) rfl) rfl ?_
 refine WPL.q (q_mv (v := .lit (.int _ _)) rfl) rfl ?_
 refine WPL.q (q_mv (v := .lit (.int _ _)) rfl) rfl ?_
 obtain ⟨x452, h452, H⟩ := bnd H
 refine WPL.q (q_nm (q_mul rfl rfl) (nm_int h452)) rfl ?_
 refine WPL.q (q_sub rfl rfl) rfl ?_
 refine WPL.q (q_as (v := .lit (.int _ _)) rfl) rfl ?_
 refine WPL.nilW ?_
 refine W.now ?_
 refine Then.n ?_
 refine WP.seq ?_
 refine WP.block ?_
 refine WP.cv (Cv.weak (E' := (((((((((Env.none.upd 2 (.lit (.int .u64 x360))).upd 8 (.lit (.int .u64 (IntKind.wrap .u64 x358)))).upd 9 (.lit (.int .u64 (shrI .u64 x360 32)))).upd 10 (.lit (.int .u64 (bits .and .u64 x360 4294967295)))).upd 14 (.lit (.int .u64 (bits .and .u64 x366 4294967295)))).upd 15 (.lit (.int .u64 x421))).upd 16 (.lit (.int .u64 (IntKind.wrap .u64 (x449 - x452))))).upd 17 (.lit (.int .u64 x449))).upd 18 (.lit (.int .u64 x451)))) (M' := Mem.nil) [] hnp ⟨rfl, trivial, by decide, rfl, trivial⟩ (LeE.upd rfl rfl (LeE.upd rfl rfl (LeE.upd rfl rfl (LeE.upd rfl rfl (LeE.upd rfl rfl (LeE.upd rfl rfl (LeE.upd rfl rfl (LeE.upd rfl rfl (LeE.upd rfl rfl (LeE.none rfl rfl))))))))))) ?_
 obtain ⟨x503, H527, H⟩ := bnd H
 refine WP.monoW (Q := fun x E M => x = .exit 2 ∧ E = ((((((Env.none.upd 2 (.lit (.int .u64 x360))).upd 8 (.lit (.int .u64 (IntKind.wrap .u64 x358)))).upd 14 (.lit (.int .u64 (bits .and .u64 x366 4294967295)))).upd 15 (.lit (.int .u64 x421))).upd 17 (.lit (.int .u64 x449))).upd 18 (.lit (.int .u64 x503))) ∧ M = Mem.nil) ?_ ?_
 · refine WP.loop (β := Int × Int) (fun n b => g_math_bits_Div64_l1 k x360 x366 n b.1 b.2 = some x503) (fun b => (((((((((Env.none.upd 2 (.lit (.int .u64 x360))).upd 8 (.lit (.int .u64 (IntKind.wrap .u64 x358)))).upd 9 (.lit (.int .u64 (shrI .u64 x360 32)))).upd 10 (.lit (.int .u64 (bits .and .u64 x360 4294967295)))).upd 14 (.lit (.int .u64 (bits .and .u64 x366 4294967295)))).upd 15 (.lit (.int .u64 x421))).upd 16 (.lit (.int .u64 b.1))).upd 17 (.lit (.int .u64 x449))).upd 18 (.lit (.int .u64 b.2)))) (fun b => Mem.nil) k ((IntKind.wrap .u64 (x449 - x452)), x451) H527 rfl rfl ?_
   rintro n ⟨x477, x478⟩ H
   obtain _ | n := n
   · exact nf rfl H
   rw [g_math_bits_Div64_l1.eq_2] at H
   show WP _ _ _ _ (((((((((Env.none.upd 2 (.lit (.int .u64 x360))).upd 8 (.lit (.int .u64 (IntKind.wrap .u64 x358)))).upd 9 (.lit (.int .u64 (shrI .u64 x360 32)))).upd 10 (.lit (.int .u64 (bits .and .u64 x360 4294967295)))).upd 14 (.lit (.int .u64 (bits .and .u64 x366 4294967295)))).upd 15 (.lit (.int .u64 x421))).upd 16 (.lit (.int .u64 x477))).upd 17 (.lit (.int .u64 x449))).upd 18 (.lit (.int .u64 x478))) Mem.nil _
   refine WP.seq ?_
   refine WP.seq ?_
   obtain ⟨x519, H523, H⟩ := bnd H
   refine WP.monoW (Q := fun x E M => x = .normal ∧ E = ((((((((((Env.none.upd 2 (.lit (.int .u64 x360))).upd 8 (.lit (.int .u64 (IntKind.wrap .u64 x358)))).upd 9 (.lit (.int .u64 (shrI .u64 x360 32)))).upd 10 (.lit (.int .u64 (bits .and .u64 x360 4294967295)))).upd 14 (.lit (.int .u64 (bits .and .u64 x366 4294967295)))).upd 15 (.lit (.int .u64 x421))).upd 16 (.lit (.int .u64 x477))).upd 17 (.lit (.int .u64 x449))).upd 18 (.lit (.int .u64 x478))).upd 113 (.lit (.bool x519))) ∧ M = Mem.nil) ?_ ?_
   · clear H
     have H := H523
     clear H523
     refine WP.region ?_
     refine WPL.q (q_mv (v := .lit (.int _ _)) rfl) rfl ?_
     refine WPL.q (q_geq rfl rfl) rfl ?_
     refine WPL.q (q_mv (v := .lit (.bool _)) rfl) rfl ?_
     refine WPL.split (t := 104) (b := (decide (4294967296 ≤ x478))) rfl (fun hb519 => ?_) (fun hb519 => ?_)
     · replace H := cnt hb519 H
       refine WPL.skipg (b' := true) rfl rfl (lb hb519) rfl rfl ?_
       refine WPL.skipg (b' := true) rfl rfl (lb hb519) rfl rfl ?_
       refine WPL.skipg (b' := true) rfl rfl (lb hb519) rfl rfl ?_
       refine WPL.skipg (b' := true) rfl rfl (lb hb519) rfl rfl ?_
       refine WPL.skipg (b' := true) rfl rfl (lb hb519) rfl rfl ?_
       refine WPL.skipg (b' := true) rfl rfl (lb hb519) rfl rfl ?_
       refine WPL.skipg (b' := true) rfl rfl (lb hb519) rfl rfl ?_
       refine WPL.skipg (b' := true) rfl rfl (lb hb519) rfl rfl ?_
       refine WPL.q (q_pickT (v := .lit (.bool _)) (lb hb519) rfl) rfl ?_
       refine WPL.nilW ?_
       have q0 := (Option.some.inj H)
       subst q0
       exact W.wk [] hnp ⟨rfl, rfl, rfl⟩ ⟨rfl, trivial, by decide, rfl, trivial⟩ (LeE.upd rfl rfl (LeE.upd rfl rfl (LeE.upd rfl rfl (LeE.upd rfl rfl (LeE.upd rfl rfl (LeE.upd rfl rfl (LeE.upd rfl rfl (LeE.upd rfl rfl (LeE.upd rfl rfl (LeE.upd rfl rfl (LeE.none rfl rfl))))))))))) rfl
     replace H := cnf hb519 H
     refine WPL.qg rfl rfl (lb hb519) (q_mv (v := .lit (.int _ _)) rfl) rfl ?_
     refine WPL.qg rfl rfl (lb hb519) (q_mv (v := .lit (.int _ _)) rfl) rfl ?_
     obtain ⟨x521, h521, H⟩ := bnd H
     refine WPL.qg rfl rfl (lb hb519) (q_nm (q_mul rfl rfl) (nm_int h521)) rfl ?_
     refine WPL.qg rfl rfl (lb hb519) (q_mv (v := .lit (.int _ _)) rfl) rfl ?_
     obtain ⟨x522, h522, H⟩ := bnd H
     refine WPL.qg rfl rfl (lb hb519) (q_nm (q_mul rfl rfl) (nm_int h522)) rfl ?_
     refine WPL.qg rfl rfl (lb hb519) (q_mv (v := .lit (.int _ _)) rfl) rfl ?_
     obtain ⟨x523, h523, H⟩ := bnd H
     refine WPL.qg rfl rfl (lb hb519) (q_nm (q_add rfl rfl) (nm_int h523)) rfl ?_
     refine WPL.qg rfl rfl (lb hb519) (q_gtr rfl rfl) rfl ?_
     refine WPL.q (q_pickF (v := .lit (.bool _)) (lb hb519) rfl) rfl ?_
     refine WPL.nilW ?_
     have q0 := (Option.some.inj H)
     subst q0
     exact W.wk [] hnp ⟨rfl, rfl, rfl⟩ ⟨rfl, trivial, by decide, rfl, trivial⟩ (LeE.upd rfl rfl (LeE.upd rfl rfl (LeE.upd rfl rfl (LeE.upd rfl rfl (LeE.upd rfl rfl (LeE.upd rfl rfl (LeE.upd rfl rfl (LeE.upd rfl rfl (LeE.upd rfl rfl (LeE.upd rfl rfl (LeE.none rfl rfl))))))))))) rfl
   rintro _ _ _ ⟨rfl, rfl, rfl⟩
   refine W.now ?_
   refine Then.n ?_
   refine WP.cond (t := x519) rfl (fun hb524 => ?_) (fun hb524 => ?_)
   · replace H := cnt hb524 H
     refine WP.skipW ?_
     refine W.now ?_
     refine Then.n ?_
     refine WP.block ?_
     refine WP.seq ?_
     refine WP.region ?_
     refine WPL.q (q_mv (v := .lit (.int _ _)) rfl) rfl ?_
     refine WPL.q (q_sub rfl rfl) rfl ?_
     refine WPL.q (q_as (v := .lit (.int _ _)) rfl) rfl ?_
     refine WPL.nilW ?_
     refine W.now ?_
     refine Then.n ?_
     refine WP.seq ?_
     refine WP.region ?_
     refine WPL.q (q_mv (v := .lit (.int _ _)) rfl) rfl ?_
     refine WPL.q (q_mv (v := .lit (.int _ _)) rfl) rfl ?_
     obtain ⟨x526, h526, H⟩ := bnd H
     refine WPL.q (q_nm (q_add rfl rfl) (nm_int h526)) rfl ?_
     refine WPL.q (q_as (v := .lit (.int _ _)) rfl) rfl ?_
     refine WPL.nilW ?_
     refine W.now ?_
     refine Then.n ?_
     refine WP.seq ?_
     refine WP.region ?_
     refine WPL.q (q_mv (v := .lit (.int _ _)) rfl) rfl ?_
     refine WPL.q (q_geq rfl rfl) rfl ?_
     refine WPL.nilW ?_
     refine W.now ?_
     refine Then.n ?_
     refine WP.cond (t := (decide (4294967296 ≤ x526))) rfl (fun hb526 => ?_) (fun hb526 => ?_)
     · replace H := cnt hb526 H
       refine WP.exitW ?_
       have q0 := (Option.some.inj H)
       subst q0
       exact W.wk [] hnp (InBlock.x rfl (Then.x ⟨rfl, rfl, rfl⟩)) ⟨rfl, trivial, by decide, rfl, trivial⟩ (LeE.upd rfl rfl (LeE.upd rfl rfl (LeE.upd rfl rfl (LeE.upd rfl rfl (LeE.upd rfl rfl (LeE.upd rfl rfl (LeE.none rfl rfl))))))) rfl
     replace H := cnf hb526 H
     refine WP.skipW ?_
     exact W.wk [] hnp (InBlock.n (Then.n ⟨n, (x526, (IntKind.wrap .u64 (x478 - 1))), Nat.lt_succ_self n, H, rfl, rfl⟩)) ⟨rfl, trivial, by decide, rfl, trivial⟩ (LeE.upd rfl rfl (LeE.upd rfl rfl (LeE.upd rfl rfl (LeE.upd rfl rfl (LeE.upd rfl rfl (LeE.upd rfl rfl (LeE.upd rfl rfl (LeE.upd rfl rfl (LeE.upd rfl rfl (LeE.none rfl rfl)))))))))) rfl
   replace H := cnf hb524 H
   refine WP.exitW ?_
   have q0 := (Option.some.inj H)
   subst q0
   exact W.wk [] hnp (Then.x (Then.x ⟨rfl, rfl, rfl⟩)) ⟨rfl, trivial, by decide, rfl, trivial⟩ (LeE.upd rfl rfl (LeE.upd rfl rfl (LeE.upd rfl rfl (LeE.upd rfl rfl (LeE.upd rfl rfl (LeE.upd rfl rfl (LeE.none rfl rfl))))))) rfl
 rintro _ _ _ ⟨rfl, rfl, rfl⟩
 refine W.now ?_
 refine InBlock.x0 ?_
 refine Then.n ?_
 refine WP.seq ?_
 refine WP.region ?_
 refine WPL.q (q_mv (v := .lit (.int _ _)) rfl) rfl ?_
 obtain ⟨x529, h529, H⟩ := bnd H
 refine WPL.q (q_nm (q_mul rfl rfl) (nm_int h529)) rfl ?_
 refine WPL.q (q_mv (v := .lit (.int _ _)) rfl) rfl ?_
 refine WPL.q (q_add rfl rfl) rfl ?_
 refine WPL.q (q_mv (v := .lit (.int _ _)) rfl) rfl ?_
 obtain ⟨x530, h530, H⟩ := bnd H
 refine WPL.q (q_nm (q_mul rfl rfl) (nm_int h530)) rfl ?_
 refine WPL.q (q_mv (v := .lit (.int _ _)) rfl) rfl ?_
 obtain ⟨x531, h531, H⟩ := bnd H
 refine WPL.q (q_nm (q_add rfl rfl) (nm_int h531)) rfl ?_
 refine WPL.q (q_mv (v := .lit (.int _ _)) rfl) rfl ?_
 refine WPL.q (q_mv (v := .lit (.int _ _)) rfl) rfl ?_
 refine WPL.q (q_mul rfl rfl) rfl ?_
 obtain ⟨x532, h532, H⟩ := bnd H
 refine WPL.q (q_nm (q_sub rfl rfl) (nm_int h532)) rfl ?_
 refine WPL.q (q_mv (v := .lit (.int _ _)) rfl) rfl ?_
 obtain ⟨h532, H⟩ := grd H
 obtain ⟨x534, h534, H⟩ := bnd H
 refine WPL.q (q_nm (q_shr rfl rfl h532) (nm_int h534)) rfl ?_
 refine WPL.q (q_as (v := .lit (.int _ _)) rfl) rfl ?_
 refine WPL.q (q_as (v := .lit (.int _ _)) rfl) rfl ?_
 refine WPL.nilW ?_
 refine W.now ?_
 refine Then.n ?_
 refine WP.retW ?_
 have q0 := (Prod.mk.inj (Option.some.inj H)).1
 have q1 := (Prod.mk.inj (Option.some.inj H)).2
 subst q0
 subst q1
 exact W.now (BodyR.mkR trivial rfl [] ⟨rfl, rfl⟩ ⟨rfl, trivial, by decide, rfl, trivial⟩ rfl rfl)
set_option maxRecDepth 100000 in
set_option maxHeartbeats 4000000 in
theorem s_dec_wide_by (k : Nat) (x145 : Int) (x146 : Int) (x147 : Int) (x541 : Int) (x542 : Int) (x543 : Int) (H : g_dec_wide_by k x145 x146 x147 = some (x541, x542, x543)) : Go.Q.Spec Try.prog 59 0 [.agg [.lit (.int .u64 x145), .lit (.int .u64 x146)], .lit (.int .u64 x147)] Mem.nil (fun o M => o = .ret (.tup [.agg [.lit (.int .u64 x542), .lit (.int .u64 x543)], .lit (.int .u64 x541)]) ∧ M = (Mem.nil.push (.cells 43 [.lit (.int .u64 x542), .lit (.int .u64 x543)]))) := by
 unfold g_dec_wide_by at H
 refine Go.Q.Spec.of_bodyR (az := [(43, 2)]) (rs := [.cell 4 43, .tmp 5]) (nt := 28) Try.func59 rfl rfl (by intro t T h; simp at h; rcases h with ⟨rfl, rfl⟩ <;> first | exact ag43) rfl rfl fun cx hnp => ?_
 refine WP.seq ?_
 refine WP.region ?_
 refine WPL.d (d_box rfl rfl) rfl ?_
 refine WPL.d (d_alloc ze43 rfl) rfl ?_
 refine WPL.q (q_as (v := .lit (.int _ _)) rfl) rfl ?_
 refine WPL.nilW ?_
 refine W.now ?_
 refine Then.n ?_
 refine WP.seq ?_
 refine WP.region ?_
 refine WPL.q (q_fieldAddr fi43_0 rfl rfl) rfl ?_
 refine WPL.q (q_load sc38 rfl rfl rfl) rfl ?_
 refine WPL.q (q_mv (v := .lit (.int _ _)) rfl) rfl ?_
 obtain ⟨⟨x545, x546⟩, h543, H⟩ := bnd H
 refine WPL.c (runs_call (s := []) (t := []) (N := 2) (bor := []) fn64 rfl (s_math_bits_Div64 k 0 x145 x147 x545 x546 h543) ⟨rfl, trivial, by decide, rfl, trivial⟩ rfl trivial (.ren rfl rfl (.ren rfl rfl (.ren rfl rfl .nil))) rfl trivial rfl) rfl ?_
 refine WPL.q (q_mv (v := .tup _) rfl) rfl ?_
 refine WPL.q (q_extract rfl rfl) rfl ?_
 refine WPL.q (q_extract rfl rfl) rfl ?_
 refine WPL.q (q_as (v := .lit (.int _ _)) rfl) rfl ?_
 refine WPL.q (q_as (v := .lit (.int _ _)) rfl) rfl ?_
 refine WPL.nilW ?_
 refine W.now ?_
 refine Then.n ?_
 refine WP.seq ?_
 refine WP.region ?_
 refine WPL.q (q_mv (v := .lit (.int _ _)) rfl) rfl ?_
 refine WPL.q (q_fieldAddr fi43_1 rfl rfl) rfl ?_
 refine WPL.q (q_load sc38 rfl rfl rfl) rfl ?_
 refine WPL.q (q_mv (v := .lit (.int _ _)) rfl) rfl ?_
 obtain ⟨⟨x548, x549⟩, h546, H⟩ := bnd H
 refine WPL.c (runs_call (s := []) (t := []) (N := 2) (bor := []) fn64 rfl (s_math_bits_Div64 k x546 x146 x147 x548 x549 h546) ⟨rfl, trivial, by decide, rfl, trivial⟩ rfl trivial (.ren rfl rfl (.ren rfl rfl (.ren rfl rfl .nil))) rfl trivial rfl) rfl ?_
 refine WPL.q (q_mv (v := .tup _) rfl) rfl ?_
 refine WPL.q (q_extract rfl rfl) rfl ?_
 refine WPL.q (q_extract rfl rfl) rfl ?_
 refine WPL.q (q_as (v := .lit (.int _ _)) rfl) rfl ?_
 refine WPL.q (q_as (v := .lit (.int _ _)) rfl) rfl ?_
 refine WPL.nilW ?_
 refine W.now ?_
 refine Then.n ?_
 refine WP.seq ?_
 refine WP.region ?_
 refine WPL.q (q_mv (v := .lit (.int _ _)) rfl) rfl ?_
 refine WPL.q (q_mv (v := .lit (.int _ _)) rfl) rfl ?_
 refine WPL.q (q_build bu43 rfl) rfl ?_
 refine WPL.q (q_mv (v := .lit (.int _ _)) rfl) rfl ?_
 refine WPL.s (s_store sz43 rfl rfl rfl rfl rfl) ?_
 refine WPL.q (q_as (v := .lit (.int _ _)) rfl) rfl ?_
 refine WPL.nilW ?_
 refine W.now ?_
 refine Then.n ?_
 refine WP.retW ?_
 have q0 := (Prod.mk.inj (Option.some.inj H)).1
 have q1 := (Prod.mk.inj (Prod.mk.inj (Option.some.inj H)).2).1
 have q2 := (Prod.mk.inj (Prod.mk.inj (Option.some.inj H)).2).2
 subst q0
 subst q1
 subst q2
 exact W.now (BodyR.mkR trivial rfl [1] ⟨rfl, rfl⟩ ⟨rfl, ⟨trivial, .inr ⟨rfl, rfl, rfl⟩⟩, by decide, rfl, trivial⟩ rfl rfl)
set_option maxRecDepth 100000 in
set_option maxHeartbeats 4000000 in
theorem s_math_bits_Mul64 (k : Nat) (x604 : Int) (x605 : Int) (x615 : Int) (H : g_math_bits_Mul64 k x604 x605 = some x615) : Go.Q.Spec Try.prog 53 0 [.lit (.int .u64 x604), .lit (.int .u64 x605)] Mem.nil (fun o M => o = .ret (.tup [.lit (.int .u64 x615), .lit (.int .u64 (IntKind.wrap .u64 (x604 * x605)))]) ∧ M = Mem.nil) := by
 unfold g_math_bits_Mul64 at H
 refine Go.Q.Spec.of_bodyR (az := []) (rs := [.tmp 4, .tmp 5]) (nt := 51) Try.func53 rfl rfl (by intro t T h; simp at h) rfl rfl fun cx hnp => ?_
 refine WP.seq ?_
 refine WP.region ?_
 refine WPL.q (q_as (v := .lit (.int _ _)) rfl) rfl ?_
 refine WPL.q (q_as (v := .lit (.int _ _)) rfl) rfl ?_
 refine WPL.nilW ?_
 refine W.now ?_
 refine Then.n ?_
 refine WP.seq ?_
 refine WP.region ?_
 refine WPL.q (q_mv (v := .lit (.int _ _)) rfl) rfl ?_
 refine WPL.q (q_and rfl rfl) rfl ?_
 refine WPL.q (q_as (v := .lit (.int _ _)) rfl) rfl ?_
 refine WPL.nilW ?_
 refine W.now ?_
 refine Then.n ?_
 refine WP.seq ?_
 refine WP.region ?_
 refine WPL.q (q_mv (v := .lit (.int _ _)) rfl) rfl ?_
 refine WPL.q (q_shr rfl rfl rfl) rfl ?_
 refine WPL.q (q_as (v := .lit (.int _ _)) rfl) rfl ?_
 refine WPL.nilW ?_
 refine W.now ?_
 refine Then.n ?_
 refine WP.seq ?_
 refine WP.region ?_
 refine WPL.q (q_mv (v := .lit (.int _ _)) rfl) rfl ?_
 refine WPL.q (q_and rfl rfl) rfl ?_
 refine WPL.q (q_as (v := .lit (.int _ _)) rfl) rfl ?_
 refine WPL.nilW ?_
 refine W.now ?_
 refine Then.n ?_
 refine WP.seq ?_
 refine WP.region ?_
 refine WPL.q (q_mv (v := .lit (.int _ _)) rfl) rfl ?_
 refine WPL.q (q_shr rfl rfl rfl) rfl ?_
 refine WPL.q (q_as (v := .lit (.int _ _)) rfl) rfl ?_
 refine WPL.nilW ?_
 refine W.now ?_
 refine Then.n ?_
 refine WP.seq ?_
 refine WP.region ?_
 refine WPL.q (q_mv (v := .lit (.int _ _)) rfl) rfl ?_
 refine WPL.q (q_mv (v := .lit (.int _ _)) rfl) rfl ?_
 obtain ⟨x616, h616, H⟩ := bnd H
 refine WPL.q (q_nm (q_mul rfl rfl) (nm_int h616)) rfl ?_
 refine WPL.q (q_as (v := .lit (.int _ _)) rfl) rfl ?_
 refine WPL.nilW ?_
 refine W.now ?_
 refine Then.n ?_
 refine WP.seq ?_
 refine WP.region ?_
 refine WPL.q (q_mv (v := .lit (.int _ _)) rfl) rfl ?_
 refine WPL.q (q_mv (v := .lit (.int _ _)) rfl) rfl ?_
 obtain ⟨x617, h617, H⟩ := bnd H
 refine WPL.q (q_nm (q_mul rfl rfl) (nm_int h617)) rfl ?_
 refine WPL.q (q_mv (v := .lit (.int _ _)) rfl) rfl ?_
 refine WPL.q (q_shr rfl rfl rfl) rfl ?_
 obtain ⟨x618, h618, H⟩ := bnd H
 refine WPL.q (q_nm (q_add rfl rfl) (nm_int h618)) rfl ?_
 refine WPL.q (q_as (v := .lit (.int _ _)) rfl) rfl ?_
 refine WPL.nilW ?_
 refine W.now ?_
 refine Then.n ?_
 refine WP.seq ?_
 refine WP.region ?_
 refine WPL.q (q_mv (v := .lit (.int _ _)) rfl) rfl ?_
 refine WPL.q (q_and rfl rfl) rfl ?_
 refine WPL.q (q_as (v := .lit (.int _ _)) rfl) rfl ?_
 refine WPL.nilW ?_
 refine W.now ?_
 refine Then.n ?_
 refine WP.seq ?_
 refine WP.region ?_
 refine WPL.q (q_mv (v := .lit (.int _ _)) rfl) rfl ?_
 refine WPL.q (q_shr rfl rfl rfl) rfl ?_
 refine WPL.q (q_as (v := .lit (.int _ _)) rfl) rfl ?_
 refine WPL.nilW ?_
 refine W.now ?_
 refine Then.n ?_
 refine WP.seq ?_
 refine WP.region ?_
 refine WPL.q (q_mv (v := .lit (.int _ _)) rfl) rfl ?_
 refine WPL.q (q_mv (v := .lit (.int _ _)) rfl) rfl ?_
 refine WPL.q (q_mv (v := .lit (.int _ _)) rfl) rfl ?_
 obtain ⟨x619, h619, H⟩ := bnd H
 refine WPL.q (q_nm (q_mul rfl rfl) (nm_int h619)) rfl ?_
 obtain ⟨x620, h620, H⟩ := bnd H
 refine WPL.q (q_nm (q_add rfl rfl) (nm_int h620)) rfl ?_
 refine WPL.q (q_as (v := .lit (.int _ _)) rfl) rfl ?_
 refine WPL.nilW ?_
 refine W.now ?_
 refine Then.n ?_
 refine WP.seq ?_
 refine WP.region ?_
 refine WPL.q (q_mv (v := .lit (.int _ _)) rfl) rfl ?_
 refine WPL.q (q_mv (v := .lit (.int _ _)) rfl) rfl ?_
 obtain ⟨x621, h621, H⟩ := bnd H
 refine WPL.q (q_nm (q_mul rfl rfl) (nm_int h621)) rfl ?_
 refine WPL.q (q_mv (v := .lit (.int _ _)) rfl) rfl ?_
 obtain ⟨x622, h622, H⟩ := bnd H
 refine WPL.q (q_nm (q_add rfl rfl) (nm_int h622)) rfl ?_
 refine WPL.q (q_mv (v := .lit (.int _ _)) rfl) rfl ?_
 refine WPL.q (q_shr rfl rfl rfl) rfl ?_
 obtain ⟨x623, h623, H⟩ := bnd H
 refine WPL.q (q_nm (q_add rfl rfl) (nm_int h623)) rfl ?_
 refine WPL.q (q_as (v := .lit (.int _ _)) rfl) rfl ?_
 refine WPL.nilW ?_
 refine W.now ?_
 refine Then.n ?_
 refine WP.seq ?_
 refine WP.region ?_
 refine WPL.q (q_mv (v := .lit (.int _ _)) rfl) rfl ?_
 refine WPL.q (q_mv (v := .lit (.int _ _)) rfl) rfl ?_
 refine WPL.q (q_mul rfl rfl) rfl ?_
 refine WPL.q (q_as (v := .lit (.int _ _)) rfl) rfl ?_
 refine WPL.nilW ?_
 refine W.now ?_
 refine Then.n ?_
 refine WP.retW ?_
 have q0 := (Option.some.inj H)
 subst q0
 exact W.now (BodyR.mkR trivial rfl [] ⟨rfl, rfl⟩ ⟨rfl, trivial, by decide, rfl, trivial⟩ rfl rfl)
set_option maxRecDepth 100000 in
set_option maxHeartbeats 4000000 in
theorem s_dec_wide_times (k : Nat) (x600 : Int) (x601 : Int) (x602 : Int) (x629 : Bool) (x630 : Int) (H : g_dec_wide_times k x600 x601 x602 = some (x629, x630)) : Go.Q.Spec Try.prog 30 0 [.agg [.lit (.int .u64 x600), .lit (.int .u64 x601)], .lit (.int .u64 x602)] Mem.nil (fun o M => o = .ret (.tup [.agg [.lit (.int .u64 x630), .lit (.int .u64 (IntKind.wrap .u64 (x601 * x602)))], .lit (.bool x629)]) ∧ M = (Mem.nil.push (.cells 43 [.lit (.int .u64 x630), .lit (.int .u64 (IntKind.wrap .u64 (x601 * x602)))]))) := by
 unfold g_dec_wide_times at H
 refine Go.Q.Spec.of_bodyR (az := [(43, 2)]) (rs := [.cell 4 43, .tmp 5]) (nt := 39) Try.func30 rfl rfl (by intro t T h; simp at h; rcases h with ⟨rfl, rfl⟩ <;> first | exact ag43) rfl rfl fun cx hnp => ?_
 refine WP.seq ?_
 refine WP.region ?_
 refine WPL.d (d_box rfl rfl) rfl ?_
 refine WPL.d (d_alloc ze43 rfl) rfl ?_
 refine WPL.q (q_as (v := .lit (.bool _)) rfl) rfl ?_
 refine WPL.nilW ?_
 refine W.now ?_
 refine Then.n ?_
 refine WP.seq ?_
 refine WP.region ?_
 refine WPL.q (q_fieldAddr fi43_1 rfl rfl) rfl ?_
 refine WPL.q (q_load sc38 rfl rfl rfl) rfl ?_
 refine WPL.q (q_mv (v := .lit (.int _ _)) rfl) rfl ?_
 obtain ⟨x632, h630, H⟩ := bnd H
 refine WPL.c (runs_call (s := []) (t := []) (N := 2) (bor := []) fn53 rfl (s_math_bits_Mul64 k x601 x602 x632 h630) ⟨rfl, trivial, by decide, rfl, trivial⟩ rfl trivial (.ren rfl rfl (.ren rfl rfl .nil)) rfl trivial rfl) rfl ?_
 refine WPL.q (q_mv (v := .tup _) rfl) rfl ?_
 refine WPL.q (q_extract rfl rfl) rfl ?_
 refine WPL.q (q_extract rfl rfl) rfl ?_
 refine WPL.q (q_as (v := .lit (.int _ _)) rfl) rfl ?_
 refine WPL.q (q_as (v := .lit (.int _ _)) rfl) rfl ?_
 refine WPL.nilW ?_
 refine W.now ?_
 refine Then.n ?_
 refine WP.seq ?_
 refine WP.region ?_
 refine WPL.q (q_fieldAddr fi43_0 rfl rfl) rfl ?_
 refine WPL.q (q_load sc38 rfl rfl rfl) rfl ?_
 refine WPL.q (q_mv (v := .lit (.int _ _)) rfl) rfl ?_
 obtain ⟨x634, h632, H⟩ := bnd H
 refine WPL.c (runs_call (s := []) (t := []) (N := 2) (bor := []) fn53 rfl (s_math_bits_Mul64 k x600 x602 x634 h632) ⟨rfl, trivial, by decide, rfl, trivial⟩ rfl trivial (.ren rfl rfl (.ren rfl rfl .nil)) rfl trivial rfl) rfl ?_
 refine WPL.q (q_mv (v := .tup _) rfl) rfl ?_
 refine WPL.q (q_extract rfl rfl) rfl ?_
 refine WPL.q (q_extract rfl rfl) rfl ?_
 refine WPL.q (q_as (v := .lit (.int _ _)) rfl) rfl ?_
 refine WPL.q (q_as (v := .lit (.int _ _)) rfl) rfl ?_
 refine WPL.nilW ?_
 refine W.now ?_
 refine Then.n ?_
 refine WP.seq ?_
 refine WP.region ?_
 refine WPL.q (q_mv (v := .lit (.int _ _)) rfl) rfl ?_
 refine WPL.q (q_mv (v := .lit (.int _ _)) rfl) rfl ?_
 refine WPL.q (q_add64 ex57 rfl rfl rfl rfl rfl) rfl ?_
 refine WPL.q (q_mv (v := .tup _) rfl) rfl ?_
 refine WPL.q (q_extract rfl rfl) rfl ?_
 refine WPL.q (q_extract rfl rfl) rfl ?_
 refine WPL.q (q_as (v := .lit (.int _ _)) rfl) rfl ?_
 refine WPL.q (q_as (v := .lit (.int _ _)) rfl) rfl ?_
 refine WPL.nilW ?_
 refine W.now ?_
 refine Then.n ?_
 refine WP.seq ?_
 refine WP.region ?_
 refine WPL.q (q_mv (v := .lit (.int _ _)) rfl) rfl ?_
 refine WPL.q (q_mv (v := .lit (.int _ _)) rfl) rfl ?_
 refine WPL.q (q_build bu43 rfl) rfl ?_
 refine WPL.q (q_mv (v := .lit (.int _ _)) rfl) rfl ?_
 refine WPL.q (q_mv (v := .lit (.int _ _)) rfl) rfl ?_
 obtain ⟨x635, h635, H⟩ := bnd H
 refine WPL.q (q_nm (q_add rfl rfl) (nm_int h635)) rfl ?_
 refine WPL.q (q_eql rfl rfl) rfl ?_
 refine WPL.s (s_store sz43 rfl rfl rfl rfl rfl) ?_
 refine WPL.q (q_as (v := .lit (.bool _)) rfl) rfl ?_
 refine WPL.nilW ?_
 refine W.now ?_
 refine Then.n ?_
 refine WP.retW ?_
 have q0 := (Prod.mk.inj (Option.some.inj H)).1
 have q1 := (Prod.mk.inj (Option.some.inj H)).2
 subst q0
 subst q1
 exact W.now (BodyR.mkR trivial rfl [1] ⟨rfl, rfl⟩ ⟨rfl, ⟨trivial, .inr ⟨rfl, rfl, rfl⟩⟩, by decide, rfl, trivial⟩ rfl rfl)
set_option maxRecDepth 100000 in
set_option maxHeartbeats 4000000 in
theorem s_dec_wide_tens (k : Nat) (x578 : Int) (x579 : Int) (x580 : Int) (x672 : Bool) (x673 : Int) (x674 : Int) (H : g_dec_wide_tens k x578 x579 x580 = some (x672, x673, x674)) : Go.Q.Spec Try.prog 60 0 [.agg [.lit (.int .u64 x578), .lit (.int .u64 x579)], .lit (.int .i64 x580)] Mem.nil (fun o M => o = .ret (.tup [.agg [.lit (.int .u64 x673), .lit (.int .u64 x674)], .lit (.bool x672)]) ∧ M = (Mem.nil.push (.cells 43 [.lit (.int .u64 x673), .lit (.int .u64 x674)]))) := by
 unfold g_dec_wide_tens at H
 refine Go.Q.Spec.of_bodyR (az := [(43, 2)]) (rs := [.cell 4 43, .tmp 5]) (nt := 28) Try.func60 rfl rfl (by intro t T h; simp at h; rcases h with ⟨rfl, rfl⟩ <;> first | exact ag43) rfl rfl fun cx hnp => ?_
 refine WP.seq ?_
 refine WP.region ?_
 refine WPL.d (d_box rfl rfl) rfl ?_
 refine WPL.d (d_alloc ze43 rfl) rfl ?_
 refine WPL.q (q_as (v := .lit (.bool _)) rfl) rfl ?_
 refine WPL.nilW ?_
 refine W.now ?_
 refine Then.n ?_
 refine WP.seq ?_
 refine WP.region ?_
 refine WPL.q (q_as (v := .lit (.bool _)) rfl) rfl ?_
 refine WPL.nilW ?_
 refine W.now ?_
 refine Then.n ?_
 refine WP.seq ?_
 refine WP.seq ?_
 refine WP.region ?_
 refine WPL.q (q_as (v := .lit (.int _ _)) rfl) rfl ?_
 refine WPL.nilW ?_
 refine W.now ?_
 refine Then.n ?_
 refine WP.block ?_
 refine WP.cv (Cv.weak (E' := (((((Env.none.upd 1 (.lit (.int .i64 x580))).upd 2 (.ptr 0 0)).upd 4 (.ptr 1 0)).upd 6 (.lit (.bool true))).upd 7 (.lit (.int .i64 0)))) (M' := ((Mem.nil.push (.cells 43 [.lit (.int .u64 x578), .lit (.int .u64 x579)])).push (.cells 43 [.lit (.int .u64 0), .lit (.int .u64 0)]))) [0, 1] hnp ⟨rfl, ⟨⟨trivial, .inr ⟨rfl, rfl, rfl⟩⟩, .inr ⟨rfl, rfl, rfl⟩⟩, by decide, rfl, trivial⟩ (LeE.upd rfl rfl (LeE.upd rfl rfl (LeE.upd rfl rfl (LeE.upd rfl rfl (LeE.upd rfl rfl (LeE.none rfl rfl))))))) ?_
 obtain ⟨⟨x725, x726, x727⟩, H752, H⟩ := bnd H
 refine WP.monoW (Q := fun x E M => x = .exit 0 ∧ E = (((Env.none.upd 2 (.ptr 0 0)).upd 4 (.ptr 1 0)).upd 6 (.lit (.bool x725))) ∧ M = ((Mem.nil.push (.cells 43 [.lit (.int .u64 x726), .lit (.int .u64 x727)])).push (.cells 43 [.lit (.int .u64 0), .lit (.int .u64 0)]))) ?_ ?_
 · refine WP.loop (β := Bool × Int × Int × Int) (fun n b => g_dec_wide_tens_l0 k x580 n b.1 b.2.1 b.2.2.1 b.2.2.2 = some (x725, x726, x727)) (fun b => (((((Env.none.upd 1 (.lit (.int .i64 x580))).upd 2 (.ptr 0 0)).upd 4 (.ptr 1 0)).upd 6 (.lit (.bool b.1))).upd 7 (.lit (.int .i64 b.2.1)))) (fun b => ((Mem.nil.push (.cells 43 [.lit (.int .u64 b.2.2.1), .lit (.int .u64 b.2.2.2)])).push (.cells 43 [.lit (.int .u64 0), .lit (.int .u64 0)]))) k (true, 0, x578, x579) H752 rfl rfl ?_
   rintro n ⟨x696, x697, x698, x699⟩ H
   obtain _ | n := n
   · exact nf rfl H
   rw [g_dec_wide_tens_l0.eq_2] at H
   show WP _ _ _ _ (((((Env.none.upd 1 (.lit (.int .i64 x580))).upd 2 (.ptr 0 0)).upd 4 (.ptr 1 0)).upd 6 (.lit (.bool x696))).upd 7 (.lit (.int .i64 x697))) ((Mem.nil.push (.cells 43 [.lit (.int .u64 x698), .lit (.int .u64 x699)])).push (.cells 43 [.lit (.int .u64 0), .lit (.int .u64 0)])) _
   refine WP.seq ?_
   refine WP.seq ?_
   obtain ⟨x743, H747, H⟩ := bnd H
   refine WP.monoW (Q := fun x E M => x = .normal ∧ E = ((((((Env.none.upd 1 (.lit (.int .i64 x580))).upd 2 (.ptr 0 0)).upd 4 (.ptr 1 0)).upd 6 (.lit (.bool x696))).upd 7 (.lit (.int .i64 x697))).upd 18 (.lit (.bool x743))) ∧ M = ((Mem.nil.push (.cells 43 [.lit (.int .u64 x698), .lit (.int .u64 x699)])).push (.cells 43 [.lit (.int .u64 0), .lit (.int .u64 0)]))) ?_ ?_
   · clear H
     have H := H747
     clear H747
     refine WP.region ?_
     refine WPL.q (q_mv (v := .lit (.int _ _)) rfl) rfl ?_
     refine WPL.q (q_mv (v := .lit (.int _ _)) rfl) rfl ?_
     refine WPL.q (q_lss rfl rfl) rfl ?_
     refine WPL.q (q_mv (v := .lit (.bool _)) rfl) rfl ?_
     refine WPL.split (t := 11) (b := (decide (x697 < x580))) rfl (fun hb743 => ?_) (fun hb743 => ?_)
     · replace H := cnt hb743 H
       refine WPL.qg rfl rfl (lb hb743) (q_mv (v := .lit (.bool _)) rfl) rfl ?_
       refine WPL.q (q_pickT (v := .lit (.bool _)) (lb hb743) rfl) rfl ?_
       refine WPL.q (q_mv (v := .lit (.bool _)) rfl) rfl ?_
       refine WPL.split (t := 14) (b := x696) rfl (fun hb744 => ?_) (fun hb744 => ?_)
       · replace H := cnt hb744 H
         refine WPL.qg rfl rfl (lb hb744) (q_load_ag ag43 rfl rfl (Nat.le_of_ble_eq_true rfl)) rfl ?_
         obtain ⟨_, h745, H⟩ := bnd H
         refine WPL.cg rfl rfl (lb hb744) (runs_call (s := []) (t := []) (N := 2) (bor := []) fn58 rfl (s_dec_wide_zero k x698 x699 h745) ⟨rfl, trivial, by decide, rfl, trivial⟩ rfl trivial (.ren rfl rfl .nil) rfl trivial rfl) rfl ?_
         obtain ⟨x747, h747, H⟩ := bnd H
         refine WPL.qg rfl rfl (lb hb744) (q_nm (q_not rfl) (nm_bool h747)) rfl ?_
         refine WPL.q (q_pickT (v := .lit (.bool _)) (lb hb744) rfl) rfl ?_
         refine WPL.nilW ?_
         have q0 := (Option.some.inj H)
         subst q0
         exact W.wk [0, 1] hnp ⟨rfl, rfl, rfl⟩ ⟨rfl, ⟨⟨trivial, .inr ⟨rfl, rfl, rfl⟩⟩, .inr ⟨rfl, rfl, rfl⟩⟩, by decide, rfl, trivial⟩ (LeE.upd rfl rfl (LeE.upd rfl rfl (LeE.upd rfl rfl (LeE.upd rfl rfl (LeE.upd rfl rfl (LeE.upd rfl rfl (LeE.none rfl rfl))))))) rfl
       replace H := cnf hb744 H
       refine WPL.skipg (b' := false) rfl rfl (lb hb744) rfl rfl ?_
       refine WPL.skipg (b' := false) rfl rfl (lb hb744) rfl rfl ?_
       refine WPL.skipg (b' := false) rfl rfl (lb hb744) rfl rfl ?_
       refine WPL.q (q_pickF (v := .lit (.bool _)) (lb hb744) rfl) rfl ?_
       refine WPL.nilW ?_
       have q0 := (Option.some.inj H)
       subst q0
       exact W.wk [0, 1] hnp ⟨rfl, rfl, rfl⟩ ⟨rfl, ⟨⟨trivial, .inr ⟨rfl, rfl, rfl⟩⟩, .inr ⟨rfl, rfl, rfl⟩⟩, by decide, rfl, trivial⟩ (LeE.upd rfl rfl (LeE.upd rfl rfl (LeE.upd rfl rfl (LeE.upd rfl rfl (LeE.upd rfl rfl (LeE.upd rfl rfl (LeE.none rfl rfl))))))) rfl
     replace H := cnf hb743 H
     refine WPL.skipg (b' := false) rfl rfl (lb hb743) rfl rfl ?_
     refine WPL.q (q_pickF (v := .lit (.bool _)) (lb hb743) rfl) rfl ?_
     refine WPL.q (q_mv (v := .lit (.bool _)) rfl) rfl ?_
     refine WPL.skipg (b' := false) rfl rfl rfl rfl rfl ?_
     refine WPL.skipg (b' := false) rfl rfl rfl rfl rfl ?_
     refine WPL.skipg (b' := false) rfl rfl rfl rfl rfl ?_
     refine WPL.q (q_pickF (v := .lit (.bool _)) rfl rfl) rfl ?_
     refine WPL.nilW ?_
     have q0 := (Option.some.inj H)
     subst q0
     exact W.wk [0, 1] hnp ⟨rfl, rfl, rfl⟩ ⟨rfl, ⟨⟨trivial, .inr ⟨rfl, rfl, rfl⟩⟩, .inr ⟨rfl, rfl, rfl⟩⟩, by decide, rfl, trivial⟩ (LeE.upd rfl rfl (LeE.upd rfl rfl (LeE.upd rfl rfl (LeE.upd rfl rfl (LeE.upd rfl rfl (LeE.upd rfl rfl (LeE.none rfl rfl))))))) rfl
   rintro _ _ _ ⟨rfl, rfl, rfl⟩
   refine W.now ?_
   refine Then.n ?_
   refine WP.cond (t := x743) rfl (fun hb748 => ?_) (fun hb748 => ?_)
   · replace H := cnt hb748 H
     refine WP.skipW ?_
     refine W.now ?_
     refine Then.n ?_
     refine WP.seq ?_
     refine WP.block ?_
     refine WP.region ?_
     refine WPL.q (q_load_ag ag43 rfl rfl (Nat.le_of_ble_eq_true rfl)) rfl ?_
     obtain ⟨⟨x751, x752⟩, h749, H⟩ := bnd H
     refine WPL.c (runs_call (s := []) (t := [2]) (N := 3) (bor := []) fn30 rfl (s_dec_wide_times k x698 x699 10 x751 x752 h749) ⟨rfl, trivial, by decide, rfl, trivial⟩ rfl trivial (.ren rfl rfl (.ren rfl rfl .nil)) rfl ⟨trivial, rfl⟩ rfl) rfl ?_
     refine WPL.q (q_mv (v := .tup _) rfl) rfl ?_
     refine WPL.q (q_extract rfl rfl) rfl ?_
     refine WPL.q (q_extract rfl rfl) rfl ?_
     refine WPL.s (s_store sz43 rfl rfl rfl rfl rfl) ?_
     refine WPL.q (q_as (v := .lit (.bool _)) rfl) rfl ?_
     refine WPL.nilW ?_
     refine W.now ?_
     refine InBlock.n ?_
     refine Then.n ?_
     refine WP.region ?_
     refine WPL.q (q_mv (v := .lit (.int _ _)) rfl) rfl ?_
     refine WPL.q (q_add rfl rfl) rfl ?_
     refine WPL.q (q_as (v := .lit (.int _ _)) rfl) rfl ?_
     refine WPL.nilW ?_
     exact W.wk [0, 1] hnp (Then.n ⟨n, (x751, (IntKind.wrap .i64 (x697 + 1)), x752, (IntKind.wrap .u64 (x699 * 10))), Nat.lt_succ_self n, H, rfl, rfl⟩) ⟨rfl, ⟨⟨trivial, .inr ⟨rfl, rfl, rfl⟩⟩, .inr ⟨rfl, rfl, rfl⟩⟩, by decide, rfl, trivial⟩ (LeE.upd rfl rfl (LeE.upd rfl rfl (LeE.upd rfl rfl (LeE.upd rfl rfl (LeE.upd rfl rfl (LeE.none rfl rfl)))))) rfl
   replace H := cnf hb748 H
   refine WP.exitW ?_
   have q0 := (Prod.mk.inj (Option.some.inj H)).1
   have q1 := (Prod.mk.inj (Prod.mk.inj (Option.some.inj H)).2).1
   have q2 := (Prod.mk.inj (Prod.mk.inj (Option.some.inj H)).2).2
   subst q0
   subst q1
   subst q2
   exact W.wk [0, 1] hnp (Then.x (Then.x ⟨rfl, rfl, rfl⟩)) ⟨rfl, ⟨⟨trivial, .inr ⟨rfl, rfl, rfl⟩⟩, .inr ⟨rfl, rfl, rfl⟩⟩, by decide, rfl, trivial⟩ (LeE.upd rfl rfl (LeE.upd rfl rfl (LeE.upd rfl rfl (LeE.none rfl rfl)))) rfl
 rintro _ _ _ ⟨rfl, rfl, rfl⟩
 refine W.now ?_
 refine InBlock.x0 ?_
 refine Then.n ?_
 refine WP.seq ?_
 refine WP.region ?_
 refine WPL.q (q_load_ag ag43 rfl rfl (Nat.le_of_ble_eq_true rfl)) rfl ?_
 refine WPL.q (q_mv (v := .lit (.bool _)) rfl) rfl ?_
 refine WPL.s (s_store sz43 rfl rfl rfl rfl rfl) ?_
 refine WPL.q (q_as (v := .lit (.bool _)) rfl) rfl ?_
 refine WPL.nilW ?_
 refine W.now ?_
 refine Then.n ?_
 refine WP.retW ?_
 have q0 := (Prod.mk.inj (Option.some.inj H)).1
 have q1 := (Prod.mk.inj (Prod.mk.inj (Option.some.inj H)).2).1
 have q2 := (Prod.mk.inj (Prod.mk.inj (Option.some.inj H)).2).2
 subst q0
 subst q1
 subst q2
 exact W.now (BodyR.mkR trivial rfl [1] ⟨rfl, rfl⟩ ⟨rfl, ⟨trivial, .inr ⟨rfl, rfl, rfl⟩⟩, by decide, rfl, trivial⟩ rfl rfl)
end Go.Proofs.Ytdbeblgfccjbgaa.W
namespace Go.Proofs.Ytdbeblgfccjbgaa.W
open Go Go.Q Go.Proofs
set_option linter.unusedVariables false
set_option linter.unusedSimpArgs false
set_option maxRecDepth 100000 in
set_option maxHeartbeats 4000000 in
theorem s_dec_num_tell (k : Nat) (x133 : Bool) (x134 : Int) (x135 : Int) (x136 : Int) (x807 : Int) (x808 : Int) (x809 : Int) (H : g_dec_num_tell k x133 x134 x135 x136 = some (x807, x808, x809)) : Go.Q.Spec Try.prog 31 0 [.agg [.lit (.bool x133), .lit (.int .u64 x134), .lit (.int .u64 x135), .lit (.int .i64 x136)]] Mem.nil (fun o M => o = .ret (.tup [.agg [.lit (.int .i64 x808), .lit (.int .i64 x809)], .lit (.int .i64 x807)]) ∧ M = (Mem.nil.push (.cells 23 [.lit (.int .i64 x808), .lit (.int .i64 x809)]))) := by
 unfold g_dec_num_tell at H
 refine Go.Q.Spec.of_bodyR (az := [(23, 2)]) (rs := [.cell 2 23, .tmp 3]) (nt := 89) Try.func31 rfl rfl (by intro t T h; simp at h; rcases h with ⟨rfl, rfl⟩ <;> first | exact ag23) rfl rfl fun cx hnp => ?_
 refine WP.seq ?_
 refine WP.region ?_
 refine WPL.d (d_box rfl rfl) rfl ?_
 refine WPL.d (d_alloc ze23 rfl) rfl ?_
 refine WPL.q (q_as (v := .lit (.int _ _)) rfl) rfl ?_
 refine WPL.nilW ?_
 refine W.now ?_
 refine Then.n ?_
 refine WP.seq ?_
 refine WP.seq ?_
 refine WP.region ?_
 refine WPL.q (q_fieldAddr fi47_1 rfl rfl) rfl ?_
 refine WPL.q (q_load_ag ag43 rfl rfl (Nat.le_of_ble_eq_true rfl)) rfl ?_
 obtain ⟨_, h811, H⟩ := bnd H
 refine WPL.c (runs_call (s := []) (t := []) (N := 2) (bor := []) fn58 rfl (s_dec_wide_zero k x134 x135 h811) ⟨rfl, trivial, by decide, rfl, trivial⟩ rfl trivial (.ren rfl rfl .nil) rfl trivial rfl) rfl ?_
 refine WPL.nilW ?_
 refine W.now ?_
 refine Then.n ?_
 refine WP.cond (t := (decide ((bits .or .u64 x134 x135) = 0))) rfl (fun hb812 => ?_) (fun hb812 => ?_)
 · replace H := cnt hb812 H
   refine WP.seq ?_
   refine WP.region ?_
   refine WPL.q (q_build bu23 rfl) rfl ?_
   refine WPL.s (s_store sz23 rfl rfl rfl rfl rfl) ?_
   refine WPL.q (q_as (v := .lit (.int _ _)) rfl) rfl ?_
   refine WPL.nilW ?_
   refine W.now ?_
   refine Then.n ?_
   refine WP.retW ?_
   have q0 := (Prod.mk.inj (Option.some.inj H)).1
   have q1 := (Prod.mk.inj (Prod.mk.inj (Option.some.inj H)).2).1
   have q2 := (Prod.mk.inj (Prod.mk.inj (Option.some.inj H)).2).2
   subst q0
   subst q1
   subst q2
   exact W.now (Then.r (BodyR.mkR trivial rfl [1] ⟨rfl, rfl⟩ ⟨rfl, ⟨trivial, .inr ⟨rfl, rfl, rfl⟩⟩, by decide, rfl, trivial⟩ rfl rfl))
 replace H := cnf hb812 H
 refine WP.skipW ?_
 refine W.now ?_
 refine Then.n ?_
 refine WP.seq ?_
 refine WP.seq ?_
 refine WP.region ?_
 refine WPL.q (q_fieldAddr fi47_1 rfl rfl) rfl ?_
 refine WPL.q (q_load_ag ag43 rfl rfl (Nat.le_of_ble_eq_true rfl)) rfl ?_
 obtain ⟨⟨x815, x816, x817⟩, h813, H⟩ := bnd H
 refine WPL.c (runs_call (s := []) (t := [2]) (N := 3) (bor := []) fn59 rfl (s_dec_wide_by k x134 x135 10 x815 x816 x817 h813) ⟨rfl, trivial, by decide, rfl, trivial⟩ rfl trivial (.ren rfl rfl (.ren rfl rfl .nil)) rfl ⟨trivial, rfl⟩ rfl) rfl ?_
 refine WPL.q (q_mv (v := .tup _) rfl) rfl ?_
 refine WPL.q (q_extract rfl rfl) rfl ?_
 refine WPL.q (q_extract rfl rfl) rfl ?_
 refine WPL.d (d_alloc ze43 rfl) rfl ?_
 refine WPL.s (s_store sz43 rfl rfl rfl rfl rfl) ?_
 refine WPL.q (q_as (v := .lit (.int _ _)) rfl) rfl ?_
 refine WPL.nilW ?_
 refine W.now ?_
 refine Then.n ?_
 refine WP.block ?_
 refine WP.cv (Cv.weak (E' := ((((Env.none.upd 1 (.ptr 0 0)).upd 2 (.ptr 1 0)).upd 4 (.ptr 2 0)).upd 5 (.lit (.int .u64 x815)))) (M' := (((Mem.nil.push (.cells 47 [.lit (.bool x133), .lit (.int .u64 x134), .lit (.int .u64 x135), .lit (.int .i64 x136)])).push (.cells 23 [.lit (.int .i64 0), .lit (.int .i64 0)])).push (.cells 43 [.lit (.int .u64 x816), .lit (.int .u64 x817)]))) [0, 1, 3] hnp ⟨rfl, ⟨⟨⟨trivial, .inr ⟨rfl, rfl, rfl⟩⟩, .inr ⟨rfl, rfl, rfl⟩⟩, .inr ⟨rfl, rfl, rfl⟩⟩, by decide, rfl, trivial⟩ (LeE.upd rfl rfl (LeE.upd rfl rfl (LeE.upd rfl rfl (LeE.upd rfl rfl (LeE.none rfl rfl)))))) ?_
 obtain ⟨⟨x836, x837, x838⟩, H844, H⟩ := bnd H
 refine WP.monoW (Q := fun x E M => x = .exit 0 ∧ E = ((Env.none.upd 1 (.ptr 0 0)).upd 2 (.ptr 1 0)) ∧ M = ((Mem.nil.push (.cells 47 [.lit (.bool x133), .lit (.int .u64 x836), .lit (.int .u64 x837), .lit (.int .i64 x838)])).push (.cells 23 [.lit (.int .i64 0), .lit (.int .i64 0)]))) ?_ ?_
 · refine WP.loop (β := Int × Int × Int × Int × Int × Int) (fun n b => g_dec_num_tell_l0 k n b.1 b.2.1 b.2.2.1 b.2.2.2.1 b.2.2.2.2.1 b.2.2.2.2.2 = some (x836, x837, x838)) (fun b => ((((Env.none.upd 1 (.ptr 0 0)).upd 2 (.ptr 1 0)).upd 4 (.ptr 2 0)).upd 5 (.lit (.int .u64 b.1)))) (fun b => (((Mem.nil.push (.cells 47 [.lit (.bool x133), .lit (.int .u64 b.2.1), .lit (.int .u64 b.2.2.1), .lit (.int .i64 b.2.2.2.1)])).push (.cells 23 [.lit (.int .i64 0), .lit (.int .i64 0)])).push (.cells 43 [.lit (.int .u64 b.2.2.2.2.1), .lit (.int .u64 b.2.2.2.2.2)]))) k (x815, x134, x135, x136, x816, x817) H844 rfl rfl ?_
   rintro n ⟨x824, x825, x826, x827, x828, x829⟩ H
   obtain _ | n := n
   · exact nf rfl H
   rw [g_dec_num_tell_l0.eq_2] at H
   show WP _ _ _ _ ((((Env.none.upd 1 (.ptr 0 0)).upd 2 (.ptr 1 0)).upd 4 (.ptr 2 0)).upd 5 (.lit (.int .u64 x824))) (((Mem.nil.push (.cells 47 [.lit (.bool x133), .lit (.int .u64 x825), .lit (.int .u64 x826), .lit (.int .i64 x827)])).push (.cells 23 [.lit (.int .i64 0), .lit (.int .i64 0)])).push (.cells 43 [.lit (.int .u64 x828), .lit (.int .u64 x829)])) _
   refine WP.seq ?_
   refine WP.seq ?_
   refine WP.region ?_
   refine WPL.q (q_mv (v := .lit (.int _ _)) rfl) rfl ?_
   refine WPL.q (q_eql rfl rfl) rfl ?_
   refine WPL.nilW ?_
   refine W.now ?_
   refine Then.n ?_
   refine WP.cond (t := (decide (x824 = 0))) rfl (fun hb839 => ?_) (fun hb839 => ?_)
   · replace H := cnt hb839 H
     refine WP.skipW ?_
     refine W.now ?_
     refine Then.n ?_
     refine WP.seq ?_
     refine WP.block ?_
     refine WP.seq ?_
     refine WP.region ?_
     refine WPL.q (q_load_ag ag43 rfl rfl (Nat.le_of_ble_eq_true rfl)) rfl ?_
     refine WPL.q (q_fieldAddr fi47_1 rfl rfl) rfl ?_
     refine WPL.s (s_store sz43 rfl rfl rfl rfl rfl) ?_
     refine WPL.nilW ?_
     refine W.now ?_
     refine Then.n ?_
     refine WP.region ?_
     refine WPL.q (q_fieldAddr fi47_2 rfl rfl) rfl ?_
     refine WPL.q (q_load sc3 rfl rfl rfl) rfl ?_
     refine WPL.q (q_add rfl rfl) rfl ?_
     refine WPL.q (q_fieldAddr fi47_2 rfl rfl) rfl ?_
     refine WPL.s (s_store sz3 rfl rfl rfl rfl rfl) ?_
     refine WPL.nilW ?_
     refine W.now ?_
     refine InBlock.n ?_
     refine Then.n ?_
     refine WP.seq ?_
     refine WP.seq ?_
     refine WP.region ?_
     refine WPL.q (q_load_ag ag43 rfl rfl (Nat.le_of_ble_eq_true rfl)) rfl ?_
     refine WPL.nilW ?_
     refine W.now ?_
     refine Then.n ?_
     refine WP.region ?_
     refine WPL.d (d_alloc ze43 rfl) rfl ?_
     refine WPL.s (s_store sz43 rfl rfl rfl rfl rfl) ?_
     refine WPL.nilW ?_
     refine W.now ?_
     refine Then.n ?_
     refine WP.region ?_
     refine WPL.q (q_fieldAddr fi47_1 rfl rfl) rfl ?_
     refine WPL.q (q_load_ag ag43 rfl rfl (Nat.le_of_ble_eq_true rfl)) rfl ?_
     obtain ⟨⟨x842, x843, x844⟩, h840, H⟩ := bnd H
     refine WPL.c (runs_call (s := []) (t := [4]) (N := 5) (bor := []) fn59 rfl (s_dec_wide_by k x828 x829 10 x842 x843 x844 h840) ⟨rfl, trivial, by decide, rfl, trivial⟩ rfl trivial (.ren rfl rfl (.ren rfl rfl .nil)) rfl ⟨trivial, rfl⟩ rfl) rfl ?_
     refine WPL.q (q_mv (v := .tup _) rfl) rfl ?_
     refine WPL.q (q_extract rfl rfl) rfl ?_
     refine WPL.q (q_extract rfl rfl) rfl ?_
     refine WPL.s (s_store sz43 rfl rfl rfl rfl rfl) ?_
     refine WPL.q (q_as (v := .lit (.int _ _)) rfl) rfl ?_
     refine WPL.nilW ?_
     exact W.wk [0, 1, 3] hnp (Then.n ⟨n, (x842, x828, x829, (IntKind.wrap .i64 (x827 + 1)), x843, x844), Nat.lt_succ_self n, H, rfl, rfl⟩) ⟨rfl, ⟨⟨⟨trivial, .inr ⟨rfl, rfl, rfl⟩⟩, .inr ⟨rfl, rfl, rfl⟩⟩, .inr ⟨rfl, rfl, rfl⟩⟩, by decide, rfl, trivial⟩ (LeE.upd rfl rfl (LeE.upd rfl rfl (LeE.upd rfl rfl (LeE.upd rfl rfl (LeE.none rfl rfl))))) rfl
   replace H := cnf hb839 H
   refine WP.exitW ?_
   have q0 := (Prod.mk.inj (Option.some.inj H)).1
   have q1 := (Prod.mk.inj (Prod.mk.inj (Option.some.inj H)).2).1
   have q2 := (Prod.mk.inj (Prod.mk.inj (Option.some.inj H)).2).2
   subst q0
   subst q1
   subst q2
   exact W.wk [0, 1] hnp (Then.x (Then.x ⟨rfl, rfl, rfl⟩)) ⟨rfl, ⟨⟨trivial, .inr ⟨rfl, rfl, rfl⟩⟩, .inr ⟨rfl, rfl, rfl⟩⟩, by decide, rfl, trivial⟩ (LeE.upd rfl rfl (LeE.upd rfl rfl (LeE.none rfl rfl))) rfl
 rintro _ _ _ ⟨rfl, rfl, rfl⟩
 refine W.now ?_
 refine InBlock.x0 ?_
 refine Then.n ?_
 refine WP.seq ?_
 refine WP.region ?_
 refine WPL.q (q_as (v := .lit (.bool _)) rfl) rfl ?_
 refine WPL.nilW ?_
 refine W.now ?_
 refine Then.n ?_
 refine WP.seq ?_
 obtain ⟨⟨x856, x857, x858, x859⟩, H869, H⟩ := bnd H
 refine WP.monoW (Q := fun x E M => x = .normal ∧ E = (((Env.none.upd 1 (.ptr 0 0)).upd 2 (.ptr 1 0)).upd 6 (.lit (.bool x856))) ∧ M = ((Mem.nil.push (.cells 47 [.lit (.bool x133), .lit (.int .u64 x857), .lit (.int .u64 x858), .lit (.int .i64 x859)])).push (.cells 23 [.lit (.int .i64 0), .lit (.int .i64 0)]))) ?_ ?_
 · clear H
   have H := H869
   clear H869
   refine WP.seq ?_
   refine WP.region ?_
   refine WPL.q (q_fieldAddr fi47_2 rfl rfl) rfl ?_
   refine WPL.q (q_load sc3 rfl rfl rfl) rfl ?_
   refine WPL.q (q_gtr rfl rfl) rfl ?_
   refine WPL.nilW ?_
   refine W.now ?_
   refine Then.n ?_
   refine WP.cond (t := (decide (18 < x838))) rfl (fun hb859 => ?_) (fun hb859 => ?_)
   · replace H := cnt hb859 H
     refine WP.seq ?_
     refine WP.region ?_
     refine WPL.q (q_fieldAddr fi47_1 rfl rfl) rfl ?_
     refine WPL.q (q_load_ag ag43 rfl rfl (Nat.le_of_ble_eq_true rfl)) rfl ?_
     refine WPL.q (q_fieldAddr fi47_2 rfl rfl) rfl ?_
     refine WPL.q (q_load sc3 rfl rfl rfl) rfl ?_
     refine WPL.q (q_sub rfl rfl) rfl ?_
     obtain ⟨x861, h861, H⟩ := bnd H
     refine WPL.q (q_nm (q_min rfl rfl) (nm_int h861)) rfl ?_
     obtain ⟨⟨x863, x864, x865⟩, h861, H⟩ := bnd H
     refine WPL.c (runs_call (s := []) (t := [2]) (N := 3) (bor := []) fn60 rfl (s_dec_wide_tens k x836 x837 x861 x863 x864 x865 h861) ⟨rfl, trivial, by decide, rfl, trivial⟩ rfl trivial (.ren rfl rfl (.ren rfl rfl .nil)) rfl ⟨trivial, rfl⟩ rfl) rfl ?_
     refine WPL.q (q_mv (v := .tup _) rfl) rfl ?_
     refine WPL.q (q_extract rfl rfl) rfl ?_
     refine WPL.q (q_extract rfl rfl) rfl ?_
     refine WPL.q (q_fieldAddr fi47_1 rfl rfl) rfl ?_
     refine WPL.s (s_store sz43 rfl rfl rfl rfl rfl) ?_
     refine WPL.q (q_as (v := .lit (.bool _)) rfl) rfl ?_
     refine WPL.nilW ?_
     refine W.now ?_
     refine Then.n ?_
     refine WP.seq ?_
     obtain ⟨x867, H868, H⟩ := bnd H
     refine WP.monoW (Q := fun x E M => x = .normal ∧ E = (((Env.none.upd 1 (.ptr 0 0)).upd 2 (.ptr 1 0)).upd 6 (.lit (.bool x867))) ∧ M = ((Mem.nil.push (.cells 47 [.lit (.bool x133), .lit (.int .u64 x864), .lit (.int .u64 x865), .lit (.int .i64 x838)])).push (.cells 23 [.lit (.int .i64 0), .lit (.int .i64 0)]))) ?_ ?_
     · clear H
       have H := H868
       clear H868
       refine WP.seq ?_
       refine WP.region ?_
       refine WPL.q (q_fieldAddr fi47_2 rfl rfl) rfl ?_
       refine WPL.q (q_load sc3 rfl rfl rfl) rfl ?_
       refine WPL.q (q_gtr rfl rfl) rfl ?_
       refine WPL.nilW ?_
       refine W.now ?_
       refine Then.n ?_
       refine WP.cond (t := (decide (58 < x838))) rfl (fun hb867 => ?_) (fun hb867 => ?_)
       · replace H := cnt hb867 H
         refine WP.region ?_
         refine WPL.q (q_as (v := .lit (.bool _)) rfl) rfl ?_
         refine WPL.nilW ?_
         have q0 := (Option.some.inj H)
         subst q0
         exact W.wk [0, 1] hnp ⟨rfl, rfl, rfl⟩ ⟨rfl, ⟨⟨trivial, .inr ⟨rfl, rfl, rfl⟩⟩, .inr ⟨rfl, rfl, rfl⟩⟩, by decide, rfl, trivial⟩ (LeE.upd rfl rfl (LeE.upd rfl rfl (LeE.upd rfl rfl (LeE.none rfl rfl)))) rfl
       replace H := cnf hb867 H
       refine WP.skipW ?_
       have q0 := (Option.some.inj H)
       subst q0
       exact W.wk [0, 1] hnp ⟨rfl, rfl, rfl⟩ ⟨rfl, ⟨⟨trivial, .inr ⟨rfl, rfl, rfl⟩⟩, .inr ⟨rfl, rfl, rfl⟩⟩, by decide, rfl, trivial⟩ (LeE.upd rfl rfl (LeE.upd rfl rfl (LeE.upd rfl rfl (LeE.none rfl rfl)))) rfl
     rintro _ _ _ ⟨rfl, rfl, rfl⟩
     refine W.now ?_
     refine Then.n ?_
     refine WP.region ?_
     refine WPL.q (q_fieldAddr fi47_2 rfl rfl) rfl ?_
     refine WPL.s (s_store sz3 rfl rfl rfl rfl rfl) ?_
     refine WPL.nilW ?_
     have q0 := (Prod.mk.inj (Option.some.inj H)).1
     have q1 := (Prod.mk.inj (Prod.mk.inj (Option.some.inj H)).2).1
     have q2 := (Prod.mk.inj (Prod.mk.inj (Prod.mk.inj (Option.some.inj H)).2).2).1
     have q3 := (Prod.mk.inj (Prod.mk.inj (Prod.mk.inj (Option.some.inj H)).2).2).2
     subst q0
     subst q1
     subst q2
     subst q3
     exact W.wk [0, 1] hnp ⟨rfl, rfl, rfl⟩ ⟨rfl, ⟨⟨trivial, .inr ⟨rfl, rfl, rfl⟩⟩, .inr ⟨rfl, rfl, rfl⟩⟩, by decide, rfl, trivial⟩ (LeE.upd rfl rfl (LeE.upd rfl rfl (LeE.upd rfl rfl (LeE.none rfl rfl)))) rfl
   replace H := cnf hb859 H
   refine WP.skipW ?_
   have q0 := (Prod.mk.inj (Option.some.inj H)).1
   have q1 := (Prod.mk.inj (Prod.mk.inj (Option.some.inj H)).2).1
   have q2 := (Prod.mk.inj (Prod.mk.inj (Prod.mk.inj (Option.some.inj H)).2).2).1
   have q3 := (Prod.mk.inj (Prod.mk.inj (Prod.mk.inj (Option.some.inj H)).2).2).2
   subst q0
   subst q1
   subst q2
   subst q3
   exact W.wk [0, 1] hnp ⟨rfl, rfl, rfl⟩ ⟨rfl, ⟨⟨trivial, .inr ⟨rfl, rfl, rfl⟩⟩, .inr ⟨rfl, rfl, rfl⟩⟩, by decide, rfl, trivial⟩ (LeE.upd rfl rfl (LeE.upd rfl rfl (LeE.upd rfl rfl (LeE.none rfl rfl)))) rfl
 rintro _ _ _ ⟨rfl, rfl, rfl⟩
 refine W.now ?_
 refine Then.n ?_
 refine WP.seq ?_
 refine WP.region ?_
 refine WPL.q (q_as (v := .lit (.int _ _)) rfl) rfl ?_
 refine WPL.nilW ?_
 refine W.now ?_
 refine Then.n ?_
 refine WP.seq ?_
 obtain ⟨x873, H875, H⟩ := bnd H
 refine WP.monoW (Q := fun x E M => x = .normal ∧ E = ((((Env.none.upd 1 (.ptr 0 0)).upd 2 (.ptr 1 0)).upd 6 (.lit (.bool x856))).upd 7 (.lit (.int .u64 x873))) ∧ M = ((Mem.nil.push (.cells 47 [.lit (.bool x133), .lit (.int .u64 x857), .lit (.int .u64 x858), .lit (.int .i64 x859)])).push (.cells 23 [.lit (.int .i64 0), .lit (.int .i64 0)]))) ?_ ?_
 · clear H
   have H := H875
   clear H875
   refine WP.seq ?_
   refine WP.region ?_
   refine WPL.q (q_fieldAddr fi47_0 rfl rfl) rfl ?_
   refine WPL.q (q_load sc4 rfl rfl rfl) rfl ?_
   refine WPL.nilW ?_
   refine W.now ?_
   refine Then.n ?_
   refine WP.cond (t := x133) rfl (fun hb873 => ?_) (fun hb873 => ?_)
   · replace H := cnt hb873 H
     refine WP.region ?_
     refine WPL.q (q_mv (v := .lit (.int _ _)) rfl) rfl ?_
     obtain ⟨x875, h875, H⟩ := bnd H
     refine WPL.q (q_nm (q_add rfl rfl) (nm_int h875)) rfl ?_
     refine WPL.q (q_as (v := .lit (.int _ _)) rfl) rfl ?_
     refine WPL.nilW ?_
     have q0 := (Option.some.inj H)
     subst q0
     exact W.wk [0, 1] hnp ⟨rfl, rfl, rfl⟩ ⟨rfl, ⟨⟨trivial, .inr ⟨rfl, rfl, rfl⟩⟩, .inr ⟨rfl, rfl, rfl⟩⟩, by decide, rfl, trivial⟩ (LeE.upd rfl rfl (LeE.upd rfl rfl (LeE.upd rfl rfl (LeE.upd rfl rfl (LeE.none rfl rfl))))) rfl
   replace H := cnf hb873 H
   refine WP.skipW ?_
   have q0 := (Option.some.inj H)
   subst q0
   exact W.wk [0, 1] hnp ⟨rfl, rfl, rfl⟩ ⟨rfl, ⟨⟨trivial, .inr ⟨rfl, rfl, rfl⟩⟩, .inr ⟨rfl, rfl, rfl⟩⟩, by decide, rfl, trivial⟩ (LeE.upd rfl rfl (LeE.upd rfl rfl (LeE.upd rfl rfl (LeE.upd rfl rfl (LeE.none rfl rfl))))) rfl
 rintro _ _ _ ⟨rfl, rfl, rfl⟩
 refine W.now ?_
 refine Then.n ?_
 refine WP.seq ?_
 refine WP.seq ?_
 obtain ⟨x889, H892, H⟩ := bnd H
 refine WP.monoW (Q := fun x E M => x = .normal ∧ E = (((Env.none.upd 1 (.ptr 0 0)).upd 2 (.ptr 1 0)).upd 75 (.lit (.bool x889))) ∧ M = ((Mem.nil.push (.cells 47 [.lit (.bool x133), .lit (.int .u64 x857), .lit (.int .u64 x858), .lit (.int .i64 x859)])).push (.cells 23 [.lit (.int .i64 0), .lit (.int .i64 0)]))) ?_ ?_
 · clear H
   have H := H892
   clear H892
   refine WP.region ?_
   refine WPL.q (q_mv (v := .lit (.bool _)) rfl) rfl ?_
   refine WPL.q (q_not rfl) rfl ?_
   refine WPL.q (q_mv (v := .lit (.bool _)) rfl) rfl ?_
   refine WPL.split (t := 58) (b := (!x856)) rfl (fun hb889 => ?_) (fun hb889 => ?_)
   · replace H := cnt hb889 H
     refine WPL.skipg (b' := true) rfl rfl (lb hb889) rfl rfl ?_
     refine WPL.skipg (b' := true) rfl rfl (lb hb889) rfl rfl ?_
     refine WPL.skipg (b' := true) rfl rfl (lb hb889) rfl rfl ?_
     refine WPL.q (q_pickT (v := .lit (.bool _)) (lb hb889) rfl) rfl ?_
     refine WPL.q (q_mv (v := .lit (.bool _)) rfl) rfl ?_
     refine WPL.skipg (b' := true) rfl rfl rfl rfl rfl ?_
     refine WPL.skipg (b' := true) rfl rfl rfl rfl rfl ?_
     refine WPL.skipg (b' := true) rfl rfl rfl rfl rfl ?_
     refine WPL.skipg (b' := true) rfl rfl rfl rfl rfl ?_
     refine WPL.q (q_pickT (v := .lit (.bool _)) rfl rfl) rfl ?_
     refine WPL.q (q_mv (v := .lit (.bool _)) rfl) rfl ?_
     refine WPL.skipg (b' := true) rfl rfl rfl rfl rfl ?_
     refine WPL.skipg (b' := true) rfl rfl rfl rfl rfl ?_
     refine WPL.skipg (b' := true) rfl rfl rfl rfl rfl ?_
     refine WPL.skipg (b' := true) rfl rfl rfl rfl rfl ?_
     refine WPL.skipg (b' := true) rfl rfl rfl rfl rfl ?_
     refine WPL.q (q_pickT (v := .lit (.bool _)) rfl rfl) rfl ?_
     refine WPL.nilW ?_
     have q0 := (Option.some.inj H)
     subst q0
     exact W.wk [0, 1] hnp ⟨rfl, rfl, rfl⟩ ⟨rfl, ⟨⟨trivial, .inr ⟨rfl, rfl, rfl⟩⟩, .inr ⟨rfl, rfl, rfl⟩⟩, by decide, rfl, trivial⟩ (LeE.upd rfl rfl (LeE.upd rfl rfl (LeE.upd rfl rfl (LeE.none rfl rfl)))) rfl
   replace H := cnf hb889 H
   refine WPL.qg rfl rfl (lb hb889) (q_fieldAddr fi47_2 rfl rfl) rfl ?_
   refine WPL.qg rfl rfl (lb hb889) (q_load sc3 rfl rfl rfl) rfl ?_
   refine WPL.qg rfl rfl (lb hb889) (q_lss rfl rfl) rfl ?_
   refine WPL.q (q_pickF (v := .lit (.bool _)) (lb hb889) rfl) rfl ?_
   refine WPL.q (q_mv (v := .lit (.bool _)) rfl) rfl ?_
   refine WPL.split (t := 63) (b := (decide (x859 < (-18)))) rfl (fun hb890 => ?_) (fun hb890 => ?_)
   · replace H := cnt hb890 H
     refine WPL.skipg (b' := true) rfl rfl (lb hb890) rfl rfl ?_
     refine WPL.skipg (b' := true) rfl rfl (lb hb890) rfl rfl ?_
     refine WPL.skipg (b' := true) rfl rfl (lb hb890) rfl rfl ?_
     refine WPL.skipg (b' := true) rfl rfl (lb hb890) rfl rfl ?_
     refine WPL.q (q_pickT (v := .lit (.bool _)) (lb hb890) rfl) rfl ?_
     refine WPL.q (q_mv (v := .lit (.bool _)) rfl) rfl ?_
     refine WPL.skipg (b' := true) rfl rfl rfl rfl rfl ?_
     refine WPL.skipg (b' := true) rfl rfl rfl rfl rfl ?_
     refine WPL.skipg (b' := true) rfl rfl rfl rfl rfl ?_
     refine WPL.skipg (b' := true) rfl rfl rfl rfl rfl ?_
     refine WPL.skipg (b' := true) rfl rfl rfl rfl rfl ?_
     refine WPL.q (q_pickT (v := .lit (.bool _)) rfl rfl) rfl ?_
     refine WPL.nilW ?_
     have q0 := (Option.some.inj H)
     subst q0
     exact W.wk [0, 1] hnp ⟨rfl, rfl, rfl⟩ ⟨rfl, ⟨⟨trivial, .inr ⟨rfl, rfl, rfl⟩⟩, .inr ⟨rfl, rfl, rfl⟩⟩, by decide, rfl, trivial⟩ (LeE.upd rfl rfl (LeE.upd rfl rfl (LeE.upd rfl rfl (LeE.none rfl rfl)))) rfl
   replace H := cnf hb890 H
   refine WPL.qg rfl rfl (lb hb890) (q_fieldAddr fi47_1 rfl rfl) rfl ?_
   refine WPL.qg rfl rfl (lb hb890) (q_fieldAddr fi43_0 rfl rfl) rfl ?_
   refine WPL.qg rfl rfl (lb hb890) (q_load sc38 rfl rfl rfl) rfl ?_
   refine WPL.qg rfl rfl (lb hb890) (q_gtr rfl rfl) rfl ?_
   refine WPL.q (q_pickF (v := .lit (.bool _)) (lb hb890) rfl) rfl ?_
   refine WPL.q (q_mv (v := .lit (.bool _)) rfl) rfl ?_
   refine WPL.split (t := 69) (b := (decide (0 < x857))) rfl (fun hb891 => ?_) (fun hb891 => ?_)
   · replace H := cnt hb891 H
     refine WPL.skipg (b' := true) rfl rfl (lb hb891) rfl rfl ?_
     refine WPL.skipg (b' := true) rfl rfl (lb hb891) rfl rfl ?_
     refine WPL.skipg (b' := true) rfl rfl (lb hb891) rfl rfl ?_
     refine WPL.skipg (b' := true) rfl rfl (lb hb891) rfl rfl ?_
     refine WPL.skipg (b' := true) rfl rfl (lb hb891) rfl rfl ?_
     refine WPL.q (q_pickT (v := .lit (.bool _)) (lb hb891) rfl) rfl ?_
     refine WPL.nilW ?_
     have q0 := (Option.some.inj H)
     subst q0
     exact W.wk [0, 1] hnp ⟨rfl, rfl, rfl⟩ ⟨rfl, ⟨⟨trivial, .inr ⟨rfl, rfl, rfl⟩⟩, .inr ⟨rfl, rfl, rfl⟩⟩, by decide, rfl, trivial⟩ (LeE.upd rfl rfl (LeE.upd rfl rfl (LeE.upd rfl rfl (LeE.none rfl rfl)))) rfl
   replace H := cnf hb891 H
   refine WPL.qg rfl rfl (lb hb891) (q_fieldAddr fi47_1 rfl rfl) rfl ?_
   refine WPL.qg rfl rfl (lb hb891) (q_fieldAddr fi43_1 rfl rfl) rfl ?_
   refine WPL.qg rfl rfl (lb hb891) (q_load sc38 rfl rfl rfl) rfl ?_
   refine WPL.qg rfl rfl (lb hb891) (q_mv (v := .lit (.int _ _)) rfl) rfl ?_
   refine WPL.qg rfl rfl (lb hb891) (q_gtr rfl rfl) rfl ?_
   refine WPL.q (q_pickF (v := .lit (.bool _)) (lb hb891) rfl) rfl ?_
   refine WPL.nilW ?_
   have q0 := (Option.some.inj H)
   subst q0
   exact W.wk [0, 1] hnp ⟨rfl, rfl, rfl⟩ ⟨rfl, ⟨⟨trivial, .inr ⟨rfl, rfl, rfl⟩⟩, .inr ⟨rfl, rfl, rfl⟩⟩, by decide, rfl, trivial⟩ (LeE.upd rfl rfl (LeE.upd rfl rfl (LeE.upd rfl rfl (LeE.none rfl rfl)))) rfl
 rintro _ _ _ ⟨rfl, rfl, rfl⟩
 refine W.now ?_
 refine Then.n ?_
 refine WP.cond (t := x889) rfl (fun hb893 => ?_) (fun hb893 => ?_)
 · replace H := cnt hb893 H
   refine WP.seq ?_
   refine WP.region ?_
   refine WPL.q (q_build bu23 rfl) rfl ?_
   refine WPL.s (s_store sz23 rfl rfl rfl rfl rfl) ?_
   refine WPL.q (q_as (v := .lit (.int _ _)) rfl) rfl ?_
   refine WPL.nilW ?_
   refine W.now ?_
   refine Then.n ?_
   refine WP.retW ?_
   have q0 := (Prod.mk.inj (Option.some.inj H)).1
   have q1 := (Prod.mk.inj (Prod.mk.inj (Option.some.inj H)).2).1
   have q2 := (Prod.mk.inj (Prod.mk.inj (Option.some.inj H)).2).2
   subst q0
   subst q1
   subst q2
   exact W.now (Then.r (BodyR.mkR trivial rfl [1] ⟨rfl, rfl⟩ ⟨rfl, ⟨trivial, .inr ⟨rfl, rfl, rfl⟩⟩, by decide, rfl, trivial⟩ rfl rfl))
 replace H := cnf hb893 H
 refine WP.skipW ?_
 refine W.now ?_
 refine Then.n ?_
 refine WP.seq ?_
 refine WP.region ?_
 refine WPL.q (q_fieldAddr fi47_1 rfl rfl) rfl ?_
 refine WPL.q (q_fieldAddr fi43_1 rfl rfl) rfl ?_
 refine WPL.q (q_load sc38 rfl rfl rfl) rfl ?_
 refine WPL.q (q_conv Try.underlying38 Try.underlying2 rfl) rfl ?_
 refine WPL.q (q_as (v := .lit (.int _ _)) rfl) rfl ?_
 refine WPL.nilW ?_
 refine W.now ?_
 refine Then.n ?_
 refine WP.seq ?_
 obtain ⟨x897, H899, H⟩ := bnd H
 refine WP.monoW (Q := fun x E M => x = .normal ∧ E = (((Env.none.upd 1 (.ptr 0 0)).upd 2 (.ptr 1 0)).upd 8 (.lit (.int .i64 x897))) ∧ M = ((Mem.nil.push (.cells 47 [.lit (.bool x133), .lit (.int .u64 x857), .lit (.int .u64 x858), .lit (.int .i64 x859)])).push (.cells 23 [.lit (.int .i64 0), .lit (.int .i64 0)]))) ?_ ?_
 · clear H
   have H := H899
   clear H899
   refine WP.seq ?_
   refine WP.region ?_
   refine WPL.q (q_fieldAddr fi47_0 rfl rfl) rfl ?_
   refine WPL.q (q_load sc4 rfl rfl rfl) rfl ?_
   refine WPL.nilW ?_
   refine W.now ?_
   refine Then.n ?_
   refine WP.cond (t := x133) rfl (fun hb897 => ?_) (fun hb897 => ?_)
   · replace H := cnt hb897 H
     refine WP.region ?_
     refine WPL.q (q_mv (v := .lit (.int _ _)) rfl) rfl ?_
     obtain ⟨x899, h899, H⟩ := bnd H
     refine WPL.q (q_nm (q_neg rfl) (nm_int h899)) rfl ?_
     refine WPL.q (q_as (v := .lit (.int _ _)) rfl) rfl ?_
     refine WPL.nilW ?_
     have q0 := (Option.some.inj H)
     subst q0
     exact W.wk [0, 1] hnp ⟨rfl, rfl, rfl⟩ ⟨rfl, ⟨⟨trivial, .inr ⟨rfl, rfl, rfl⟩⟩, .inr ⟨rfl, rfl, rfl⟩⟩, by decide, rfl, trivial⟩ (LeE.upd rfl rfl (LeE.upd rfl rfl (LeE.upd rfl rfl (LeE.none rfl rfl)))) rfl
   replace H := cnf hb897 H
   refine WP.skipW ?_
   have q0 := (Option.some.inj H)
   subst q0
   exact W.wk [0, 1] hnp ⟨rfl, rfl, rfl⟩ ⟨rfl, ⟨⟨trivial, .inr ⟨rfl, rfl, rfl⟩⟩, .inr ⟨rfl, rfl, rfl⟩⟩, by decide, rfl, trivial⟩ (LeE.upd rfl rfl (LeE.upd rfl rfl (LeE.upd rfl rfl (LeE.none rfl rfl)))) rfl
 rintro _ _ _ ⟨rfl, rfl, rfl⟩
 refine W.now ?_
 refine Then.n ?_
 refine WP.seq ?_
 refine WP.region ?_
 refine WPL.q (q_mv (v := .lit (.int _ _)) rfl) rfl ?_
 refine WPL.q (q_fieldAddr fi47_2 rfl rfl) rfl ?_
 refine WPL.q (q_load sc3 rfl rfl rfl) rfl ?_
 refine WPL.q (q_build bu23 rfl) rfl ?_
 refine WPL.s (s_store sz23 rfl rfl rfl rfl rfl) ?_
 refine WPL.q (q_as (v := .lit (.int _ _)) rfl) rfl ?_
 refine WPL.nilW ?_
 refine W.now ?_
 refine Then.n ?_
 refine WP.retW ?_
 have q0 := (Prod.mk.inj (Option.some.inj H)).1
 have q1 := (Prod.mk.inj (Prod.mk.inj (Option.some.inj H)).2).1
 have q2 := (Prod.mk.inj (Prod.mk.inj (Option.some.inj H)).2).2
 subst q0
 subst q1
 subst q2
 exact W.now (BodyR.mkR trivial rfl [1] ⟨rfl, rfl⟩ ⟨rfl, ⟨trivial, .inr ⟨rfl, rfl, rfl⟩⟩, by decide, rfl, trivial⟩ rfl rfl)
set_option maxRecDepth 100000 in
set_option maxHeartbeats 4000000 in
theorem s_dec_clean (k : Nat) (x13 : Int) (x14 : Int) (x15 : Int) (x16 : Int) (x941 : Bool) (x942 : Int) (x943 : Int) (x944 : Int) (x945 : Int) (H : g_dec_clean k x13 x14 x15 x16 = some (x941, x942, x943, x944, x945)) : Go.Q.Spec Try.prog 27 3 [.sl 0 1 0 2] (((Mem.nil.push (.cells 37 [.ptr 1 0, .ptr 2 0])).push (.cells 23 [.lit (.int .i64 x13), .lit (.int .i64 x14)])).push (.cells 23 [.lit (.int .i64 x15), .lit (.int .i64 x16)])) (fun o M => o = .ret (.lit (.bool x941)) ∧ M = (((Mem.nil.push (.cells 37 [.ptr 1 0, .ptr 2 0])).push (.cells 23 [.lit (.int .i64 x942), .lit (.int .i64 x943)])).push (.cells 23 [.lit (.int .i64 x944), .lit (.int .i64 x945)]))) := by
 unfold g_dec_clean at H
 refine Go.Q.Spec.of_bodyR (az := []) (rs := [.tmp 2]) (nt := 28) Try.func27 rfl rfl (by intro t T h; simp at h) rfl rfl fun cx hnp => ?_
 refine WP.seq ?_
 refine WP.region ?_
 refine WPL.q (q_as (v := .lit (.bool _)) rfl) rfl ?_
 refine WPL.nilW ?_
 refine W.now ?_
 refine Then.n ?_
 refine WP.seq ?_
 refine WP.seq ?_
 refine WP.region ?_
 refine WPL.q (q_mv (v := .sl _ _ _ _) rfl) rfl ?_
 refine WPL.q (q_len_sl (k := 2) sl81 rfl rfl) rfl ?_
 refine WPL.q (q_mv (v := .lit (.int _ _)) rfl) rfl ?_
 refine WPL.nilW ?_
 refine W.now ?_
 refine Then.n ?_
 refine WP.block ?_
 refine WP.loopU ?_
 refine WPI.round ?_
 refine WP.seq ?_
 refine WP.region ?_
 refine WPL.q (q_lss rfl rfl) rfl ?_
 refine WPL.nilW ?_
 refine W.now ?_
 refine Then.n ?_
 refine WP.seq ?_
 refine WP.condT rfl ?_
 refine WP.skipW ?_
 refine W.now ?_
 refine Then.n ?_
 refine WP.seq ?_
 refine WP.block ?_
 refine WP.seq ?_
 refine WP.region ?_
 refine WPL.q (q_index_sl (o := 0) sl81 rfl rfl rfl rfl) rfl ?_
 refine WPL.q (q_load sc37 rfl rfl rfl) rfl ?_
 refine WPL.q (q_as (v := .ptr _ _) rfl) rfl ?_
 refine WPL.nilW ?_
 refine W.now ?_
 refine Then.n ?_
 refine WP.seq ?_
 refine WP.seq ?_
 refine WP.region ?_
 refine WPL.q (q_mv (v := .ptr _ _) rfl) rfl ?_
 refine WPL.q (q_nilCheck rfl) rfl ?_
 refine WPL.q (q_load_ag ag23 rfl rfl (Nat.le_of_ble_eq_true rfl)) rfl ?_
 refine WPL.d (d_buildSlice (ds := ([(⟨x13, x14⟩ : S_api_Dec)] : List S_api_Dec)) (R := rdS_api_Dec) li91 rfl rfl rfl rfl rfl (JoinRows.cons (l := [.lit (.int .i64 x13), .lit (.int .i64 x14)]) (Joins.via (Joins.cons Joins.sc (Joins.cons Joins.sc Joins.unit))) rfl JoinRows.nil) rfl rfl) rfl ?_
 obtain ⟨x962, h960, H⟩ := bnd H
 refine WPL.c (runs_call (s := []) (t := []) (N := 4) (bor := [3]) fn52 rfl (s_dec_ranged k ([(⟨x13, x14⟩ : S_api_Dec)] : List S_api_Dec) x962 h960) ⟨rfl, trivial, by decide, rfl, trivial⟩ rfl ⟨trivial, rfl, rfl, trivial⟩ (.row rfl rfl .nil) rfl trivial rfl) rfl ?_
 refine WPL.q (q_not rfl) rfl ?_
 refine WPL.nilW ?_
 refine W.now ?_
 refine Then.n ?_
 refine WP.cond (t := (!x962)) rfl (fun hb962 => ?_) (fun hb962 => ?_)
 · replace H := cnt hb962 H
   refine WP.seq ?_
   refine WP.region ?_
   refine WPL.q (q_as (v := .lit (.bool _)) rfl) rfl ?_
   refine WPL.nilW ?_
   refine W.now ?_
   refine Then.n ?_
   refine WP.retW ?_
   have q0 := (Prod.mk.inj (Option.some.inj H)).1
   have q1 := (Prod.mk.inj (Prod.mk.inj (Option.some.inj H)).2).1
   have q2 := (Prod.mk.inj (Prod.mk.inj (Prod.mk.inj (Option.some.inj H)).2).2).1
   have q3 := (Prod.mk.inj (Prod.mk.inj (Prod.mk.inj (Prod.mk.inj (Option.some.inj H)).2).2).2).1
   have q4 := (Prod.mk.inj (Prod.mk.inj (Prod.mk.inj (Prod.mk.inj (Option.some.inj H)).2).2).2).2
   subst q0
   subst q1
   subst q2
   subst q3
   subst q4
   exact W.now (Then.r (InBlock.r (Then.r (Then.r (InBlock.r (Then.r (BodyR.mkR trivial rfl [0, 1, 2] ⟨rfl, rfl⟩ ⟨rfl, ⟨⟨⟨trivial, .inr ⟨rfl, rfl, rfl⟩⟩, .inr ⟨rfl, rfl, rfl⟩⟩, .inr ⟨rfl, rfl, rfl⟩⟩, by decide, rfl, ⟨⟨⟨trivial, rfl⟩, rfl⟩, rfl⟩⟩ rfl rfl)))))))
 replace H := cnf hb962 H
 refine WP.skipW ?_
 refine W.now ?_
 refine Then.n ?_
 refine WP.region ?_
 refine WPL.q (q_mv (v := .ptr _ _) rfl) rfl ?_
 refine WPL.q (q_mv (v := .ptr _ _) rfl) rfl ?_
 refine WPL.q (q_nilCheck rfl) rfl ?_
 refine WPL.q (q_load_ag ag23 rfl rfl (Nat.le_of_ble_eq_true rfl)) rfl ?_
 obtain ⟨x965, h963, H⟩ := bnd H
 refine WPL.c (runs_call (s := []) (t := [4]) (N := 5) (bor := []) fn38 rfl (s_dec_of k x13 x14 x965 h963) ⟨rfl, trivial, by decide, rfl, trivial⟩ rfl trivial (.ren rfl rfl .nil) rfl ⟨trivial, rfl⟩ rfl) rfl ?_
 obtain ⟨⟨x967, x968, x969⟩, h965, H⟩ := bnd H
 refine WPL.c (runs_call (s := []) (t := [5]) (N := 6) (bor := []) fn31 rfl (s_dec_num_tell k (decide (x13 < 0)) 0 x965 x14 x967 x968 x969 h965) ⟨rfl, trivial, by decide, rfl, trivial⟩ rfl trivial (.ren rfl rfl .nil) rfl ⟨trivial, rfl⟩ rfl) rfl ?_
 refine WPL.q (q_mv (v := .tup _) rfl) rfl ?_
 refine WPL.q (q_extract rfl rfl) rfl ?_
 refine WPL.q (q_extract rfl rfl) rfl ?_
 refine WPL.q (q_nilCheck rfl) rfl ?_
 refine WPL.s (s_store sz23 rfl rfl rfl rfl rfl) ?_
 refine WPL.nilW ?_
 refine W.now ?_
 refine InBlock.n ?_
 refine Then.n ?_
 refine WP.region ?_
 refine WPL.q (q_nm (q_add rfl rfl) (fold_int (b := 1) (by decide))) rfl ?_
 refine WPL.q (q_mv (v := .lit (.int _ _)) rfl) rfl ?_
 refine WPL.nilW ?_
 refine W.now ?_
 refine Then.n ?_
 refine WPI.round ?_
 refine WP.seq ?_
 refine WP.region ?_
 refine WPL.q (q_lss rfl rfl) rfl ?_
 refine WPL.nilW ?_
 refine W.now ?_
 refine Then.n ?_
 refine WP.seq ?_
 refine WP.condT rfl ?_
 refine WP.skipW ?_
 refine W.now ?_
 refine Then.n ?_
 refine WP.seq ?_
 refine WP.block ?_
 refine WP.seq ?_
 refine WP.region ?_
 refine WPL.q (q_index_sl (o := 1) sl81 rfl rfl rfl rfl) rfl ?_
 refine WPL.q (q_load sc37 rfl rfl rfl) rfl ?_
 refine WPL.q (q_as (v := .ptr _ _) rfl) rfl ?_
 refine WPL.nilW ?_
 refine W.now ?_
 refine Then.n ?_
 refine WP.seq ?_
 refine WP.seq ?_
 refine WP.region ?_
 refine WPL.q (q_mv (v := .ptr _ _) rfl) rfl ?_
 refine WPL.q (q_nilCheck rfl) rfl ?_
 refine WPL.q (q_load_ag ag23 rfl rfl (Nat.le_of_ble_eq_true rfl)) rfl ?_
 refine WPL.d (d_buildSlice (ds := ([(⟨x15, x16⟩ : S_api_Dec)] : List S_api_Dec)) (R := rdS_api_Dec) li91 rfl rfl rfl rfl rfl (JoinRows.cons (l := [.lit (.int .i64 x15), .lit (.int .i64 x16)]) (Joins.via (Joins.cons Joins.sc (Joins.cons Joins.sc Joins.unit))) rfl JoinRows.nil) rfl rfl) rfl ?_
 obtain ⟨x986, h984, H⟩ := bnd H
 refine WPL.c (runs_call (s := []) (t := []) (N := 7) (bor := [6]) fn52 rfl (s_dec_ranged k ([(⟨x15, x16⟩ : S_api_Dec)] : List S_api_Dec) x986 h984) ⟨rfl, trivial, by decide, rfl, trivial⟩ rfl ⟨trivial, rfl, rfl, trivial⟩ (.row rfl rfl .nil) rfl trivial rfl) rfl ?_
 refine WPL.q (q_not rfl) rfl ?_
 refine WPL.nilW ?_
 refine W.now ?_
 refine Then.n ?_
 refine WP.cond (t := (!x986)) rfl (fun hb986 => ?_) (fun hb986 => ?_)
 · replace H := cnt hb986 H
   refine WP.seq ?_
   refine WP.region ?_
   refine WPL.q (q_as (v := .lit (.bool _)) rfl) rfl ?_
   refine WPL.nilW ?_
   refine W.now ?_
   refine Then.n ?_
   refine WP.retW ?_
   have q0 := (Prod.mk.inj (Option.some.inj H)).1
   have q1 := (Prod.mk.inj (Prod.mk.inj (Option.some.inj H)).2).1
   have q2 := (Prod.mk.inj (Prod.mk.inj (Prod.mk.inj (Option.some.inj H)).2).2).1
   have q3 := (Prod.mk.inj (Prod.mk.inj (Prod.mk.inj (Prod.mk.inj (Option.some.inj H)).2).2).2).1
   have q4 := (Prod.mk.inj (Prod.mk.inj (Prod.mk.inj (Prod.mk.inj (Option.some.inj H)).2).2).2).2
   subst q0
   subst q1
   subst q2
   subst q3
   subst q4
   exact W.now (Then.r (InBlock.r (Then.r (Then.r (InBlock.r (Then.r (BodyR.mkR trivial rfl [0, 1, 2] ⟨rfl, rfl⟩ ⟨rfl, ⟨⟨⟨trivial, .inr ⟨rfl, rfl, rfl⟩⟩, .inr ⟨rfl, rfl, rfl⟩⟩, .inr ⟨rfl, rfl, rfl⟩⟩, by decide, rfl, ⟨⟨⟨trivial, rfl⟩, rfl⟩, rfl⟩⟩ rfl rfl)))))))
 replace H := cnf hb986 H
 refine WP.skipW ?_
 refine W.now ?_
 refine Then.n ?_
 refine WP.region ?_
 refine WPL.q (q_mv (v := .ptr _ _) rfl) rfl ?_
 refine WPL.q (q_mv (v := .ptr _ _) rfl) rfl ?_
 refine WPL.q (q_nilCheck rfl) rfl ?_
 refine WPL.q (q_load_ag ag23 rfl rfl (Nat.le_of_ble_eq_true rfl)) rfl ?_
 obtain ⟨x989, h987, H⟩ := bnd H
 refine WPL.c (runs_call (s := []) (t := [7]) (N := 8) (bor := []) fn38 rfl (s_dec_of k x15 x16 x989 h987) ⟨rfl, trivial, by decide, rfl, trivial⟩ rfl trivial (.ren rfl rfl .nil) rfl ⟨trivial, rfl⟩ rfl) rfl ?_
 obtain ⟨⟨x991, x992, x993⟩, h989, H⟩ := bnd H
 refine WPL.c (runs_call (s := []) (t := [8]) (N := 9) (bor := []) fn31 rfl (s_dec_num_tell k (decide (x15 < 0)) 0 x989 x16 x991 x992 x993 h989) ⟨rfl, trivial, by decide, rfl, trivial⟩ rfl trivial (.ren rfl rfl .nil) rfl ⟨trivial, rfl⟩ rfl) rfl ?_
 refine WPL.q (q_mv (v := .tup _) rfl) rfl ?_
 refine WPL.q (q_extract rfl rfl) rfl ?_
 refine WPL.q (q_extract rfl rfl) rfl ?_
 refine WPL.q (q_nilCheck rfl) rfl ?_
 refine WPL.s (s_store sz23 rfl rfl rfl rfl rfl) ?_
 refine WPL.nilW ?_
 refine W.now ?_
 refine InBlock.n ?_
 refine Then.n ?_
 refine WP.region ?_
 refine WPL.q (q_nm (q_add rfl rfl) (fold_int (b := 2) (by decide))) rfl ?_
 refine WPL.q (q_mv (v := .lit (.int _ _)) rfl) rfl ?_
 refine WPL.nilW ?_
 refine W.now ?_
 refine Then.n ?_
 refine WPI.round ?_
 refine WP.seq ?_
 refine WP.region ?_
 refine WPL.q (q_lss rfl rfl) rfl ?_
 refine WPL.nilW ?_
 refine W.now ?_
 refine Then.n ?_
 refine WP.seq ?_
 refine WP.condF rfl ?_
 refine WP.exitW ?_
 refine W.now ?_
 refine Then.x ?_
 refine Then.x ?_
 refine InBlock.x0 ?_
 refine Then.n ?_
 refine WP.seq ?_
 refine WP.region ?_
 refine WPL.q (q_as (v := .lit (.bool _)) rfl) rfl ?_
 refine WPL.nilW ?_
 refine W.now ?_
 refine Then.n ?_
 refine WP.retW ?_
 have q0 := (Prod.mk.inj (Option.some.inj H)).1
 have q1 := (Prod.mk.inj (Prod.mk.inj (Option.some.inj H)).2).1
 have q2 := (Prod.mk.inj (Prod.mk.inj (Prod.mk.inj (Option.some.inj H)).2).2).1
 have q3 := (Prod.mk.inj (Prod.mk.inj (Prod.mk.inj (Prod.mk.inj (Option.some.inj H)).2).2).2).1
 have q4 := (Prod.mk.inj (Prod.mk.inj (Prod.mk.inj (Prod.mk.inj (Option.some.inj H)).2).2).2).2
 subst q0
 subst q1
 subst q2
 subst q3
 subst q4
 exact W.now (BodyR.mkR trivial rfl [0, 1, 2] ⟨rfl, rfl⟩ ⟨rfl, ⟨⟨⟨trivial, .inr ⟨rfl, rfl, rfl⟩⟩, .inr ⟨rfl, rfl, rfl⟩⟩, .inr ⟨rfl, rfl, rfl⟩⟩, by decide, rfl, ⟨⟨⟨trivial, rfl⟩, rfl⟩, rfl⟩⟩ rfl rfl)
set_option maxRecDepth 100000 in
set_option maxHeartbeats 4000000 in
theorem s_dec_factors (k : Nat) (x1033 : Int) (x1034 : Int) (x1051 : Int) (x1052 : Int) (H : g_dec_factors k x1033 x1034 = some (x1051, x1052)) : Go.Q.Spec Try.prog 29 0 [.lit (.int .u64 x1033), .lit (.int .u64 x1034)] Mem.nil (fun o M => o = .ret (.tup [.lit (.int .i64 x1051), .lit (.int .u64 x1052)]) ∧ M = Mem.nil) := by
 unfold g_dec_factors at H
 refine Go.Q.Spec.of_bodyR (az := []) (rs := [.tmp 4, .tmp 5]) (nt := 18) Try.func29 rfl rfl (by intro t T h; simp at h) rfl rfl fun cx hnp => ?_
 refine WP.seq ?_
 refine WP.region ?_
 refine WPL.q (q_as (v := .lit (.int _ _)) rfl) rfl ?_
 refine WPL.q (q_as (v := .lit (.int _ _)) rfl) rfl ?_
 refine WPL.nilW ?_
 refine W.now ?_
 refine Then.n ?_
 refine WP.seq ?_
 refine WP.region ?_
 refine WPL.q (q_as (v := .lit (.int _ _)) rfl) rfl ?_
 refine WPL.nilW ?_
 refine W.now ?_
 refine Then.n ?_
 refine WP.seq ?_
 refine WP.block ?_
 refine WP.cv (Cv.weak (E' := (((Env.none.upd 0 (.lit (.int .u64 x1033))).upd 1 (.lit (.int .u64 x1034))).upd 6 (.lit (.int .i64 0)))) (M' := Mem.nil) [] hnp ⟨rfl, trivial, by decide, rfl, trivial⟩ (LeE.upd rfl rfl (LeE.upd rfl rfl (LeE.upd rfl rfl (LeE.none rfl rfl))))) ?_
 obtain ⟨⟨x1065, x1066⟩, H1071, H⟩ := bnd H
 refine WP.monoW (Q := fun x E M => x = .exit 0 ∧ E = ((Env.none.upd 0 (.lit (.int .u64 x1065))).upd 6 (.lit (.int .i64 x1066))) ∧ M = Mem.nil) ?_ ?_
 · refine WP.loop (β := Int × Int) (fun n b => g_dec_factors_l0 k x1034 n b.1 b.2 = some (x1065, x1066)) (fun b => (((Env.none.upd 0 (.lit (.int .u64 b.1))).upd 1 (.lit (.int .u64 x1034))).upd 6 (.lit (.int .i64 b.2)))) (fun b => Mem.nil) k (x1033, 0) H1071 rfl rfl ?_
   rintro n ⟨x1058, x1059⟩ H
   obtain _ | n := n
   · exact nf rfl H
   rw [g_dec_factors_l0.eq_2] at H
   show WP _ _ _ _ (((Env.none.upd 0 (.lit (.int .u64 x1058))).upd 1 (.lit (.int .u64 x1034))).upd 6 (.lit (.int .i64 x1059))) Mem.nil _
   refine WP.seq ?_
   refine WP.seq ?_
   refine WP.region ?_
   refine WPL.q (q_mv (v := .lit (.int _ _)) rfl) rfl ?_
   refine WPL.q (q_mv (v := .lit (.int _ _)) rfl) rfl ?_
   obtain ⟨h1068, H⟩ := grd H
   refine WPL.q (q_rem rfl rfl (bnot h1068)) rfl ?_
   refine WPL.q (q_eql rfl rfl) rfl ?_
   refine WPL.nilW ?_
   refine W.now ?_
   refine Then.n ?_
   refine WP.cond (t := (decide ((Int.tmod x1058 x1034) = 0))) rfl (fun hb1069 => ?_) (fun hb1069 => ?_)
   · replace H := cnt hb1069 H
     refine WP.skipW ?_
     refine W.now ?_
     refine Then.n ?_
     refine WP.block ?_
     refine WP.seq ?_
     refine WP.region ?_
     refine WPL.q (q_mv (v := .lit (.int _ _)) rfl) rfl ?_
     refine WPL.q (q_mv (v := .lit (.int _ _)) rfl) rfl ?_
     obtain ⟨h1070, H⟩ := grd H
     refine WPL.q (q_quo rfl rfl (bnot h1070)) rfl ?_
     refine WPL.q (q_as (v := .lit (.int _ _)) rfl) rfl ?_
     refine WPL.nilW ?_
     refine W.now ?_
     refine Then.n ?_
     refine WP.region ?_
     refine WPL.q (q_mv (v := .lit (.int _ _)) rfl) rfl ?_
     refine WPL.q (q_add rfl rfl) rfl ?_
     refine WPL.q (q_as (v := .lit (.int _ _)) rfl) rfl ?_
     refine WPL.nilW ?_
     exact W.wk [] hnp (InBlock.n (Then.n ⟨n, ((IntKind.wrap .u64 (Int.tdiv x1058 x1034)), (IntKind.wrap .i64 (x1059 + 1))), Nat.lt_succ_self n, H, rfl, rfl⟩)) ⟨rfl, trivial, by decide, rfl, trivial⟩ (LeE.upd rfl rfl (LeE.upd rfl rfl (LeE.upd rfl rfl (LeE.none rfl rfl)))) rfl
   replace H := cnf hb1069 H
   refine WP.exitW ?_
   have q0 := (Prod.mk.inj (Option.some.inj H)).1
   have q1 := (Prod.mk.inj (Option.some.inj H)).2
   subst q0
   subst q1
   exact W.wk [] hnp (Then.x (Then.x ⟨rfl, rfl, rfl⟩)) ⟨rfl, trivial, by decide, rfl, trivial⟩ (LeE.upd rfl rfl (LeE.upd rfl rfl (LeE.none rfl rfl))) rfl
 rintro _ _ _ ⟨rfl, rfl, rfl⟩
 refine W.now ?_
 refine InBlock.x0 ?_
 refine Then.n ?_
 refine WP.seq ?_
 refine WP.region ?_
 refine WPL.q (q_mv (v := .lit (.int _ _)) rfl) rfl ?_
 refine WPL.q (q_mv (v := .lit (.int _ _)) rfl) rfl ?_
 refine WPL.q (q_as (v := .lit (.int _ _)) rfl) rfl ?_
 refine WPL.q (q_as (v := .lit (.int _ _)) rfl) rfl ?_
 refine WPL.nilW ?_
 refine W.now ?_
 refine Then.n ?_
 refine WP.retW ?_
 have q0 := (Prod.mk.inj (Option.some.inj H)).1
 have q1 := (Prod.mk.inj (Option.some.inj H)).2
 subst q0
 subst q1
 exact W.now (BodyR.mkR trivial rfl [] ⟨rfl, rfl⟩ ⟨rfl, trivial, by decide, rfl, trivial⟩ rfl rfl)
set_option maxRecDepth 100000 in
set_option maxHeartbeats 4000000 in
theorem s_dec_Div (k : Nat) (x8 : Int) (x9 : Int) (x10 : Int) (x11 : Int) (x1175 : Int) (x1176 : Int) (x1177 : Int) (H : g_dec_Div k x8 x9 x10 x11 = some (x1175, x1176, x1177)) : Go.Q.Spec Try.prog 7 0 [.agg [.lit (.int .i64 x8), .lit (.int .i64 x9)], .agg [.lit (.int .i64 x10), .lit (.int .i64 x11)]] Mem.nil (fun o M => o = .ret (.tup [.agg [.lit (.int .i64 x1176), .lit (.int .i64 x1177)], .lit (.int .i64 x1175)]) ∧ M = (Mem.nil.push (.cells 23 [.lit (.int .i64 x1176), .lit (.int .i64 x1177)]))) := by
 unfold g_dec_Div at H
 refine Go.Q.Spec.of_bodyR (az := [(23, 2)]) (rs := [.cell 4 23, .tmp 5]) (nt := 118) Try.func7 rfl rfl (by intro t T h; simp at h; rcases h with ⟨rfl, rfl⟩ <;> first | exact ag23) rfl rfl fun cx hnp => ?_
 refine WP.seq ?_
 refine WP.region ?_
 refine WPL.d (d_box rfl rfl) rfl ?_
 refine WPL.d (d_box rfl rfl) rfl ?_
 refine WPL.d (d_alloc ze23 rfl) rfl ?_
 refine WPL.q (q_as (v := .lit (.int _ _)) rfl) rfl ?_
 refine WPL.nilW ?_
 refine W.now ?_
 refine Then.n ?_
 refine WP.seq ?_
 refine WP.seq ?_
 refine WP.region ?_
 refine WPL.d (d_buildCells li81 rfl rfl rfl rfl rfl) rfl ?_
 obtain ⟨⟨x1186, x1187, x1188, x1189, x1190⟩, h1184, H⟩ := bnd H
 refine WPL.c (runs_call (s := [3, 0, 1]) (t := [3, 0, 1]) (N := 4) (bor := []) fn27 rfl (s_dec_clean k x8 x9 x10 x11 x1186 x1187 x1188 x1189 x1190 h1184) ⟨rfl, ⟨⟨⟨trivial, .inr ⟨rfl, rfl, rfl⟩⟩, .inr ⟨rfl, rfl, rfl⟩⟩, .inr ⟨rfl, rfl, rfl⟩⟩, by decide, rfl, trivial⟩ rfl trivial (.ren rfl rfl .nil) rfl ⟨⟨⟨trivial, rfl⟩, rfl⟩, rfl⟩ rfl) rfl ?_
 refine WPL.q (q_not rfl) rfl ?_
 refine WPL.nilW ?_
 refine W.now ?_
 refine Then.n ?_
 refine WP.cond (t := (!x1186)) rfl (fun hb1190 => ?_) (fun hb1190 => ?_)
 · replace H := cnt hb1190 H
   refine WP.seq ?_
   refine WP.region ?_
   refine WPL.q (q_build bu23 rfl) rfl ?_
   refine WPL.s (s_store sz23 rfl rfl rfl rfl rfl) ?_
   refine WPL.q (q_as (v := .lit (.int _ _)) rfl) rfl ?_
   refine WPL.nilW ?_
   refine W.now ?_
   refine Then.n ?_
   refine WP.retW ?_
   have q0 := (Prod.mk.inj (Option.some.inj H)).1
   have q1 := (Prod.mk.inj (Prod.mk.inj (Option.some.inj H)).2).1
   have q2 := (Prod.mk.inj (Prod.mk.inj (Option.some.inj H)).2).2
   subst q0
   subst q1
   subst q2
   exact W.now (Then.r (BodyR.mkR trivial rfl [2] ⟨rfl, rfl⟩ ⟨rfl, ⟨trivial, .inr ⟨rfl, rfl, rfl⟩⟩, by decide, rfl, trivial⟩ rfl rfl))
 replace H := cnf hb1190 H
 refine WP.skipW ?_
 refine W.now ?_
 refine Then.n ?_
 refine WP.seq ?_
 refine WP.seq ?_
 refine WP.region ?_
 refine WPL.q (q_fieldAddr fi23_0 rfl rfl) rfl ?_
 refine WPL.q (q_load sc2 rfl rfl rfl) rfl ?_
 refine WPL.q (q_eql rfl rfl) rfl ?_
 refine WPL.nilW ?_
 refine W.now ?_
 refine Then.n ?_
 refine WP.cond (t := (decide (x1189 = 0))) rfl (fun hb1192 => ?_) (fun hb1192 => ?_)
 · replace H := cnt hb1192 H
   refine WP.seq ?_
   refine WP.region ?_
   refine WPL.q (q_build bu23 rfl) rfl ?_
   refine WPL.s (s_store sz23 rfl rfl rfl rfl rfl) ?_
   refine WPL.q (q_as (v := .lit (.int _ _)) rfl) rfl ?_
   refine WPL.nilW ?_
   refine W.now ?_
   refine Then.n ?_
   refine WP.retW ?_
   have q0 := (Prod.mk.inj (Option.some.inj H)).1
   have q1 := (Prod.mk.inj (Prod.mk.inj (Option.some.inj H)).2).1
   have q2 := (Prod.mk.inj (Prod.mk.inj (Option.some.inj H)).2).2
   subst q0
   subst q1
   subst q2
   exact W.now (Then.r (BodyR.mkR trivial rfl [2] ⟨rfl, rfl⟩ ⟨rfl, ⟨trivial, .inr ⟨rfl, rfl, rfl⟩⟩, by decide, rfl, trivial⟩ rfl rfl))
 replace H := cnf hb1192 H
 refine WP.skipW ?_
 refine W.now ?_
 refine Then.n ?_
 refine WP.seq ?_
 refine WP.seq ?_
 refine WP.region ?_
 refine WPL.q (q_fieldAddr fi23_0 rfl rfl) rfl ?_
 refine WPL.q (q_load sc2 rfl rfl rfl) rfl ?_
 refine WPL.q (q_eql rfl rfl) rfl ?_
 refine WPL.nilW ?_
 refine W.now ?_
 refine Then.n ?_
 refine WP.cond (t := (decide (x1187 = 0))) rfl (fun hb1194 => ?_) (fun hb1194 => ?_)
 · replace H := cnt hb1194 H
   refine WP.seq ?_
   refine WP.region ?_
   refine WPL.q (q_build bu23 rfl) rfl ?_
   refine WPL.s (s_store sz23 rfl rfl rfl rfl rfl) ?_
   refine WPL.q (q_as (v := .lit (.int _ _)) rfl) rfl ?_
   refine WPL.nilW ?_
   refine W.now ?_
   refine Then.n ?_
   refine WP.retW ?_
   have q0 := (Prod.mk.inj (Option.some.inj H)).1
   have q1 := (Prod.mk.inj (Prod.mk.inj (Option.some.inj H)).2).1
   have q2 := (Prod.mk.inj (Prod.mk.inj (Option.some.inj H)).2).2
   subst q0
   subst q1
   subst q2
   exact W.now (Then.r (BodyR.mkR trivial rfl [2] ⟨rfl, rfl⟩ ⟨rfl, ⟨trivial, .inr ⟨rfl, rfl, rfl⟩⟩, by decide, rfl, trivial⟩ rfl rfl))
 replace H := cnf hb1194 H
 refine WP.skipW ?_
 refine W.now ?_
 refine Then.n ?_
 refine WP.seq ?_
 refine WP.regionD' 8 [0, 1] [] mixed rfl ?_
 refine WPD.takeT 0 rfl (by kernel_rfl) (q_fieldAddr fi23_0 rfl rfl) rfl ?_
 refine WPD.takeT 3 rfl (by kernel_rfl) (q_fieldAddr fi23_0 rfl rfl) rfl ?_
 refine WPD.take 1 rfl (by kernel_rfl) (q_load sc2 rfl rfl rfl) rfl rfl ?_
 refine WPD.take 4 rfl (by kernel_rfl) (q_load sc2 rfl rfl rfl) rfl rfl ?_
 obtain ⟨x1201, h1199, H⟩ := bnd H
 refine WPD.eff 2 [0, 1] [] rfl (by kernel_rfl) (runs_call (s := []) (t := []) (N := 4) (bor := []) fn28 rfl (s_dec_size k x1187 x1201 h1199) ⟨rfl, trivial, by decide, rfl, trivial⟩ rfl trivial (.ren rfl rfl .nil) rfl trivial rfl) rfl rfl ?_
 obtain ⟨x1203, h1201, H⟩ := bnd H
 refine WPD.eff 5 [0, 1] [] rfl (by kernel_rfl) (runs_call (s := []) (t := []) (N := 4) (bor := []) fn28 rfl (s_dec_size k x1189 x1203 h1201) ⟨rfl, trivial, by decide, rfl, trivial⟩ rfl trivial (.ren rfl rfl .nil) rfl trivial rfl) rfl rfl ?_
 refine WPD.takeT 6 rfl (by kernel_rfl) (q_as (v := .lit (.int _ _)) rfl) rfl ?_
 refine WPD.takeT 7 rfl (by kernel_rfl) (q_as (v := .lit (.int _ _)) rfl) rfl ?_
 refine WPD.doneW (by kernel_rfl) ?_
 refine W.now ?_
 refine Then.n ?_
 refine WP.seq ?_
 refine WP.region ?_
 refine WPL.q (q_mv (v := .lit (.int _ _)) rfl) rfl ?_
 refine WPL.q (q_mv (v := .lit (.int _ _)) rfl) rfl ?_
 refine WPL.q (q_as (v := .lit (.int _ _)) rfl) rfl ?_
 refine WPL.q (q_as (v := .lit (.int _ _)) rfl) rfl ?_
 refine WPL.nilW ?_
 refine W.now ?_
 refine Then.n ?_
 refine WP.seq ?_
 refine WP.block ?_
 refine WP.cv (Cv.weak (E' := (((((((Env.none.upd 2 (.ptr 0 0)).upd 3 (.ptr 1 0)).upd 4 (.ptr 2 0)).upd 6 (.lit (.int .u64 x1201))).upd 7 (.lit (.int .u64 x1203))).upd 8 (.lit (.int .u64 x1201))).upd 9 (.lit (.int .u64 x1203)))) (M' := (((Mem.nil.push (.cells 23 [.lit (.int .i64 x1187), .lit (.int .i64 x1188)])).push (.cells 23 [.lit (.int .i64 x1189), .lit (.int .i64 x1190)])).push (.cells 23 [.lit (.int .i64 0), .lit (.int .i64 0)]))) [0, 1, 2] hnp ⟨rfl, ⟨⟨⟨trivial, .inr ⟨rfl, rfl, rfl⟩⟩, .inr ⟨rfl, rfl, rfl⟩⟩, .inr ⟨rfl, rfl, rfl⟩⟩, by decide, rfl, trivial⟩ (LeE.upd rfl rfl (LeE.upd rfl rfl (LeE.upd rfl rfl (LeE.upd rfl rfl (LeE.upd rfl rfl (LeE.upd rfl rfl (LeE.upd rfl rfl (LeE.none rfl rfl))))))))) ?_
 obtain ⟨x1214, H1218, H⟩ := bnd H
 refine WP.monoW (Q := fun x E M => x = .exit 0 ∧ E = ((((((Env.none.upd 2 (.ptr 0 0)).upd 3 (.ptr 1 0)).upd 4 (.ptr 2 0)).upd 6 (.lit (.int .u64 x1201))).upd 7 (.lit (.int .u64 x1203))).upd 8 (.lit (.int .u64 x1214))) ∧ M = (((Mem.nil.push (.cells 23 [.lit (.int .i64 x1187), .lit (.int .i64 x1188)])).push (.cells 23 [.lit (.int .i64 x1189), .lit (.int .i64 x1190)])).push (.cells 23 [.lit (.int .i64 0), .lit (.int .i64 0)]))) ?_ ?_
 · refine WP.loop (β := Int × Int) (fun n b => g_dec_Div_l0 k n b.1 b.2 = some x1214) (fun b => (((((((Env.none.upd 2 (.ptr 0 0)).upd 3 (.ptr 1 0)).upd 4 (.ptr 2 0)).upd 6 (.lit (.int .u64 x1201))).upd 7 (.lit (.int .u64 x1203))).upd 8 (.lit (.int .u64 b.1))).upd 9 (.lit (.int .u64 b.2)))) (fun b => (((Mem.nil.push (.cells 23 [.lit (.int .i64 x1187), .lit (.int .i64 x1188)])).push (.cells 23 [.lit (.int .i64 x1189), .lit (.int .i64 x1190)])).push (.cells 23 [.lit (.int .i64 0), .lit (.int .i64 0)]))) k (x1201, x1203) H1218 rfl rfl ?_
   rintro n ⟨x1208, x1209⟩ H
   obtain _ | n := n
   · exact nf rfl H
   rw [g_dec_Div_l0.eq_2] at H
   show WP _ _ _ _ (((((((Env.none.upd 2 (.ptr 0 0)).upd 3 (.ptr 1 0)).upd 4 (.ptr 2 0)).upd 6 (.lit (.int .u64 x1201))).upd 7 (.lit (.int .u64 x1203))).upd 8 (.lit (.int .u64 x1208))).upd 9 (.lit (.int .u64 x1209))) (((Mem.nil.push (.cells 23 [.lit (.int .i64 x1187), .lit (.int .i64 x1188)])).push (.cells 23 [.lit (.int .i64 x1189), .lit (.int .i64 x1190)])).push (.cells 23 [.lit (.int .i64 0), .lit (.int .i64 0)])) _
   refine WP.seq ?_
   refine WP.seq ?_
   refine WP.region ?_
   refine WPL.q (q_mv (v := .lit (.int _ _)) rfl) rfl ?_
   refine WPL.q (q_neq rfl rfl) rfl ?_
   refine WPL.nilW ?_
   refine W.now ?_
   refine Then.n ?_
   refine WP.cond (t := (!decide (x1209 = 0))) rfl (fun hb1215 => ?_) (fun hb1215 => ?_)
   · replace H := cnt hb1215 H
     refine WP.skipW ?_
     refine W.now ?_
     refine Then.n ?_
     refine WP.block ?_
     refine WP.regionD' 6 [] [] mixed rfl ?_
     refine WPD.takeT 0 rfl (by kernel_rfl) (q_mv (v := .lit (.int _ _)) rfl) rfl ?_
     refine WPD.takeT 1 rfl (by kernel_rfl) (q_mv (v := .lit (.int _ _)) rfl) rfl ?_
     refine WPD.takeT 2 rfl (by kernel_rfl) (q_mv (v := .lit (.int _ _)) rfl) rfl ?_
     obtain ⟨h1217, H⟩ := grd H
     refine WPD.takeT 3 rfl (by kernel_rfl) (q_rem rfl rfl (bnot h1217)) rfl ?_
     refine WPD.takeT 4 rfl (by kernel_rfl) (q_as (v := .lit (.int _ _)) rfl) rfl ?_
     refine WPD.takeT 5 rfl (by kernel_rfl) (q_as (v := .lit (.int _ _)) rfl) rfl ?_
     refine WPD.doneW (by kernel_rfl) ?_
     exact W.wk [0, 1, 2] hnp (InBlock.n (Then.n ⟨n, (x1209, (Int.tmod x1208 x1209)), Nat.lt_succ_self n, H, rfl, rfl⟩)) ⟨rfl, ⟨⟨⟨trivial, .inr ⟨rfl, rfl, rfl⟩⟩, .inr ⟨rfl, rfl, rfl⟩⟩, .inr ⟨rfl, rfl, rfl⟩⟩, by decide, rfl, trivial⟩ (LeE.upd rfl rfl (LeE.upd rfl rfl (LeE.upd rfl rfl (LeE.upd rfl rfl (LeE.upd rfl rfl (LeE.upd rfl rfl (LeE.upd rfl rfl (LeE.none rfl rfl)))))))) rfl
   replace H := cnf hb1215 H
   refine WP.exitW ?_
   have q0 := (Option.some.inj H)
   subst q0
   exact W.wk [0, 1, 2] hnp (Then.x (Then.x ⟨rfl, rfl, rfl⟩)) ⟨rfl, ⟨⟨⟨trivial, .inr ⟨rfl, rfl, rfl⟩⟩, .inr ⟨rfl, rfl, rfl⟩⟩, .inr ⟨rfl, rfl, rfl⟩⟩, by decide, rfl, trivial⟩ (LeE.upd rfl rfl (LeE.upd rfl rfl (LeE.upd rfl rfl (LeE.upd rfl rfl (LeE.upd rfl rfl (LeE.upd rfl rfl (LeE.none rfl rfl))))))) rfl
 rintro _ _ _ ⟨rfl, rfl, rfl⟩
 refine W.now ?_
 refine InBlock.x0 ?_
 refine Then.n ?_
 refine WP.seq ?_
 refine WP.region ?_
 refine WPL.q (q_mv (v := .lit (.int _ _)) rfl) rfl ?_
 refine WPL.q (q_mv (v := .lit (.int _ _)) rfl) rfl ?_
 obtain ⟨h1219, H⟩ := grd H
 refine WPL.q (q_quo rfl rfl (bnot h1219)) rfl ?_
 obtain ⟨⟨x1222, x1223⟩, h1220, H⟩ := bnd H
 refine WPL.c (runs_call (s := []) (t := []) (N := 3) (bor := []) fn29 rfl (s_dec_factors k (IntKind.wrap .u64 (Int.tdiv x1203 x1214)) 2 x1222 x1223 h1220) ⟨rfl, trivial, by decide, rfl, trivial⟩ rfl trivial (.ren rfl rfl (.ren rfl rfl .nil)) rfl trivial rfl) rfl ?_
 refine WPL.q (q_mv (v := .tup _) rfl) rfl ?_
 refine WPL.q (q_extract rfl rfl) rfl ?_
 refine WPL.q (q_extract rfl rfl) rfl ?_
 refine WPL.q (q_as (v := .lit (.int _ _)) rfl) rfl ?_
 refine WPL.q (q_as (v := .lit (.int _ _)) rfl) rfl ?_
 refine WPL.nilW ?_
 refine W.now ?_
 refine Then.n ?_
 refine WP.seq ?_
 refine WP.region ?_
 refine WPL.q (q_mv (v := .lit (.int _ _)) rfl) rfl ?_
 obtain ⟨⟨x1225, x1226⟩, h1223, H⟩ := bnd H
 refine WPL.c (runs_call (s := []) (t := []) (N := 3) (bor := []) fn29 rfl (s_dec_factors k x1223 5 x1225 x1226 h1223) ⟨rfl, trivial, by decide, rfl, trivial⟩ rfl trivial (.ren rfl rfl (.ren rfl rfl .nil)) rfl trivial rfl) rfl ?_
 refine WPL.q (q_mv (v := .tup _) rfl) rfl ?_
 refine WPL.q (q_extract rfl rfl) rfl ?_
 refine WPL.q (q_extract rfl rfl) rfl ?_
 refine WPL.q (q_as (v := .lit (.int _ _)) rfl) rfl ?_
 refine WPL.q (q_as (v := .lit (.int _ _)) rfl) rfl ?_
 refine WPL.nilW ?_
 refine W.now ?_
 refine Then.n ?_
 refine WP.seq ?_
 refine WP.seq ?_
 refine WP.region ?_
 refine WPL.q (q_mv (v := .lit (.int _ _)) rfl) rfl ?_
 refine WPL.q (q_neq rfl rfl) rfl ?_
 refine WPL.nilW ?_
 refine W.now ?_
 refine Then.n ?_
 refine WP.cond (t := (!decide (x1226 = 1))) rfl (fun hb1227 => ?_) (fun hb1227 => ?_)
 · replace H := cnt hb1227 H
   refine WP.seq ?_
   refine WP.region ?_
   refine WPL.q (q_build bu23 rfl) rfl ?_
   refine WPL.s (s_store sz23 rfl rfl rfl rfl rfl) ?_
   refine WPL.q (q_as (v := .lit (.int _ _)) rfl) rfl ?_
   refine WPL.nilW ?_
   refine W.now ?_
   refine Then.n ?_
   refine WP.retW ?_
   have q0 := (Prod.mk.inj (Option.some.inj H)).1
   have q1 := (Prod.mk.inj (Prod.mk.inj (Option.some.inj H)).2).1
   have q2 := (Prod.mk.inj (Prod.mk.inj (Option.some.inj H)).2).2
   subst q0
   subst q1
   subst q2
   exact W.now (Then.r (BodyR.mkR trivial rfl [2] ⟨rfl, rfl⟩ ⟨rfl, ⟨trivial, .inr ⟨rfl, rfl, rfl⟩⟩, by decide, rfl, trivial⟩ rfl rfl))
 replace H := cnf hb1227 H
 refine WP.skipW ?_
 refine W.now ?_
 refine Then.n ?_
 refine WP.seq ?_
 refine WP.region ?_
 refine WPL.q (q_mv (v := .lit (.int _ _)) rfl) rfl ?_
 refine WPL.q (q_mv (v := .lit (.int _ _)) rfl) rfl ?_
 obtain ⟨x1229, h1229, H⟩ := bnd H
 refine WPL.q (q_nm (q_max rfl rfl) (nm_int h1229)) rfl ?_
 refine WPL.q (q_as (v := .lit (.int _ _)) rfl) rfl ?_
 refine WPL.nilW ?_
 refine W.now ?_
 refine Then.n ?_
 refine WP.seq ?_
 refine WP.region ?_
 refine WPL.q (q_mv (v := .lit (.int _ _)) rfl) rfl ?_
 refine WPL.q (q_mv (v := .lit (.int _ _)) rfl) rfl ?_
 obtain ⟨h1229, H⟩ := grd H
 refine WPL.q (q_quo rfl rfl (bnot h1229)) rfl ?_
 refine WPL.q (q_build bu43 rfl) rfl ?_
 refine WPL.d (d_alloc ze43 rfl) rfl ?_
 refine WPL.s (s_store sz43 rfl rfl rfl rfl rfl) ?_
 refine WPL.q (q_as (v := .lit (.bool _)) rfl) rfl ?_
 refine WPL.nilW ?_
 refine W.now ?_
 refine Then.n ?_
 refine WP.seq ?_
 refine WP.seq ?_
 refine WP.region ?_
 refine WPL.q (q_as (v := .lit (.int _ _)) rfl) rfl ?_
 refine WPL.nilW ?_
 refine W.now ?_
 refine Then.n ?_
 refine WP.block ?_
 refine WP.cv (Cv.weak (E' := (((((((((Env.none.upd 2 (.ptr 0 0)).upd 3 (.ptr 1 0)).upd 4 (.ptr 2 0)).upd 10 (.lit (.int .i64 x1222))).upd 12 (.lit (.int .i64 x1225))).upd 13 (.lit (.int .i64 x1229))).upd 14 (.ptr 3 0)).upd 15 (.lit (.bool true))).upd 16 (.lit (.int .i64 0)))) (M' := ((((Mem.nil.push (.cells 23 [.lit (.int .i64 x1187), .lit (.int .i64 x1188)])).push (.cells 23 [.lit (.int .i64 x1189), .lit (.int .i64 x1190)])).push (.cells 23 [.lit (.int .i64 0), .lit (.int .i64 0)])).push (.cells 43 [.lit (.int .u64 0), .lit (.int .u64 (IntKind.wrap .u64 (Int.tdiv x1201 x1214)))]))) [0, 1, 2, 3] hnp ⟨rfl, ⟨⟨⟨⟨trivial, .inr ⟨rfl, rfl, rfl⟩⟩, .inr ⟨rfl, rfl, rfl⟩⟩, .inr ⟨rfl, rfl, rfl⟩⟩, .inr ⟨rfl, rfl, rfl⟩⟩, by decide, rfl, trivial⟩ (LeE.upd rfl rfl (LeE.upd rfl rfl (LeE.upd rfl rfl (LeE.upd rfl rfl (LeE.upd rfl rfl (LeE.upd rfl rfl (LeE.upd rfl rfl (LeE.upd rfl rfl (LeE.upd rfl rfl (LeE.none rfl rfl))))))))))) ?_
 obtain ⟨⟨x1269, x1270, x1271⟩, H1288, H⟩ := bnd H
 refine WP.monoW (Q := fun x E M => x = .exit 2 ∧ E = (((((((Env.none.upd 2 (.ptr 0 0)).upd 3 (.ptr 1 0)).upd 4 (.ptr 2 0)).upd 12 (.lit (.int .i64 x1225))).upd 13 (.lit (.int .i64 x1229))).upd 14 (.ptr 3 0)).upd 15 (.lit (.bool x1269))) ∧ M = ((((Mem.nil.push (.cells 23 [.lit (.int .i64 x1187), .lit (.int .i64 x1188)])).push (.cells 23 [.lit (.int .i64 x1189), .lit (.int .i64 x1190)])).push (.cells 23 [.lit (.int .i64 0), .lit (.int .i64 0)])).push (.cells 43 [.lit (.int .u64 x1270), .lit (.int .u64 x1271)]))) ?_ ?_
 · refine WP.loop (β := Bool × Int × Int × Int) (fun n b => g_dec_Div_l1 k x1222 x1229 n b.1 b.2.1 b.2.2.1 b.2.2.2 = some (x1269, x1270, x1271)) (fun b => (((((((((Env.none.upd 2 (.ptr 0 0)).upd 3 (.ptr 1 0)).upd 4 (.ptr 2 0)).upd 10 (.lit (.int .i64 x1222))).upd 12 (.lit (.int .i64 x1225))).upd 13 (.lit (.int .i64 x1229))).upd 14 (.ptr 3 0)).upd 15 (.lit (.bool b.1))).upd 16 (.lit (.int .i64 b.2.1)))) (fun b => ((((Mem.nil.push (.cells 23 [.lit (.int .i64 x1187), .lit (.int .i64 x1188)])).push (.cells 23 [.lit (.int .i64 x1189), .lit (.int .i64 x1190)])).push (.cells 23 [.lit (.int .i64 0), .lit (.int .i64 0)])).push (.cells 43 [.lit (.int .u64 b.2.2.1), .lit (.int .u64 b.2.2.2)]))) k (true, 0, 0, (IntKind.wrap .u64 (Int.tdiv x1201 x1214))) H1288 rfl rfl ?_
   rintro n ⟨x1248, x1249, x1250, x1251⟩ H
   obtain _ | n := n
   · exact nf rfl H
   rw [g_dec_Div_l1.eq_2] at H
   show WP _ _ _ _ (((((((((Env.none.upd 2 (.ptr 0 0)).upd 3 (.ptr 1 0)).upd 4 (.ptr 2 0)).upd 10 (.lit (.int .i64 x1222))).upd 12 (.lit (.int .i64 x1225))).upd 13 (.lit (.int .i64 x1229))).upd 14 (.ptr 3 0)).upd 15 (.lit (.bool x1248))).upd 16 (.lit (.int .i64 x1249))) ((((Mem.nil.push (.cells 23 [.lit (.int .i64 x1187), .lit (.int .i64 x1188)])).push (.cells 23 [.lit (.int .i64 x1189), .lit (.int .i64 x1190)])).push (.cells 23 [.lit (.int .i64 0), .lit (.int .i64 0)])).push (.cells 43 [.lit (.int .u64 x1250), .lit (.int .u64 x1251)])) _
   refine WP.seq ?_
   refine WP.seq ?_
   obtain ⟨x1281, H1283, H⟩ := bnd H
   refine WP.monoW (Q := fun x E M => x = .normal ∧ E = ((((((((((Env.none.upd 2 (.ptr 0 0)).upd 3 (.ptr 1 0)).upd 4 (.ptr 2 0)).upd 10 (.lit (.int .i64 x1222))).upd 12 (.lit (.int .i64 x1225))).upd 13 (.lit (.int .i64 x1229))).upd 14 (.ptr 3 0)).upd 15 (.lit (.bool x1248))).upd 16 (.lit (.int .i64 x1249))).upd 73 (.lit (.bool x1281))) ∧ M = ((((Mem.nil.push (.cells 23 [.lit (.int .i64 x1187), .lit (.int .i64 x1188)])).push (.cells 23 [.lit (.int .i64 x1189), .lit (.int .i64 x1190)])).push (.cells 23 [.lit (.int .i64 0), .lit (.int .i64 0)])).push (.cells 43 [.lit (.int .u64 x1250), .lit (.int .u64 x1251)]))) ?_ ?_
   · clear H
     have H := H1283
     clear H1283
     refine WP.region ?_
     refine WPL.q (q_mv (v := .lit (.int _ _)) rfl) rfl ?_
     refine WPL.q (q_mv (v := .lit (.int _ _)) rfl) rfl ?_
     refine WPL.q (q_mv (v := .lit (.int _ _)) rfl) rfl ?_
     refine WPL.q (q_sub rfl rfl) rfl ?_
     obtain ⟨x1282, h1282, H⟩ := bnd H
     refine WPL.q (q_nm (q_lss rfl rfl) (nm_bool h1282)) rfl ?_
     refine WPL.q (q_mv (v := .lit (.bool _)) rfl) rfl ?_
     refine WPL.split (t := 71) (b := x1282) rfl (fun hb1282 => ?_) (fun hb1282 => ?_)
     · replace H := cnt hb1282 H
       refine WPL.qg rfl rfl (lb hb1282) (q_mv (v := .lit (.bool _)) rfl) rfl ?_
       refine WPL.q (q_pickT (v := .lit (.bool _)) (lb hb1282) rfl) rfl ?_
       refine WPL.nilW ?_
       have q0 := (Option.some.inj H)
       subst q0
       exact W.wk [0, 1, 2, 3] hnp ⟨rfl, rfl, rfl⟩ ⟨rfl, ⟨⟨⟨⟨trivial, .inr ⟨rfl, rfl, rfl⟩⟩, .inr ⟨rfl, rfl, rfl⟩⟩, .inr ⟨rfl, rfl, rfl⟩⟩, .inr ⟨rfl, rfl, rfl⟩⟩, by decide, rfl, trivial⟩ (LeE.upd rfl rfl (LeE.upd rfl rfl (LeE.upd rfl rfl (LeE.upd rfl rfl (LeE.upd rfl rfl (LeE.upd rfl rfl (LeE.upd rfl rfl (LeE.upd rfl rfl (LeE.upd rfl rfl (LeE.upd rfl rfl (LeE.none rfl rfl))))))))))) rfl
     replace H := cnf hb1282 H
     refine WPL.skipg (b' := false) rfl rfl (lb hb1282) rfl rfl ?_
     refine WPL.q (q_pickF (v := .lit (.bool _)) (lb hb1282) rfl) rfl ?_
     refine WPL.nilW ?_
     have q0 := (Option.some.inj H)
     subst q0
     exact W.wk [0, 1, 2, 3] hnp ⟨rfl, rfl, rfl⟩ ⟨rfl, ⟨⟨⟨⟨trivial, .inr ⟨rfl, rfl, rfl⟩⟩, .inr ⟨rfl, rfl, rfl⟩⟩, .inr ⟨rfl, rfl, rfl⟩⟩, .inr ⟨rfl, rfl, rfl⟩⟩, by decide, rfl, trivial⟩ (LeE.upd rfl rfl (LeE.upd rfl rfl (LeE.upd rfl rfl (LeE.upd rfl rfl (LeE.upd rfl rfl (LeE.upd rfl rfl (LeE.upd rfl rfl (LeE.upd rfl rfl (LeE.upd rfl rfl (LeE.upd rfl rfl (LeE.none rfl rfl))))))))))) rfl
   rintro _ _ _ ⟨rfl, rfl, rfl⟩
   refine W.now ?_
   refine Then.n ?_
   refine WP.cond (t := x1281) rfl (fun hb1284 => ?_) (fun hb1284 => ?_)
   · replace H := cnt hb1284 H
     refine WP.skipW ?_
     refine W.now ?_
     refine Then.n ?_
     refine WP.seq ?_
     refine WP.block ?_
     refine WP.region ?_
     refine WPL.q (q_load_ag ag43 rfl rfl (Nat.le_of_ble_eq_true rfl)) rfl ?_
     obtain ⟨⟨x1287, x1288⟩, h1285, H⟩ := bnd H
     refine WPL.c (runs_call (s := []) (t := [4]) (N := 5) (bor := []) fn30 rfl (s_dec_wide_times k x1250 x1251 2 x1287 x1288 h1285) ⟨rfl, trivial, by decide, rfl, trivial⟩ rfl trivial (.ren rfl rfl (.ren rfl rfl .nil)) rfl ⟨trivial, rfl⟩ rfl) rfl ?_
     refine WPL.q (q_mv (v := .tup _) rfl) rfl ?_
     refine WPL.q (q_extract rfl rfl) rfl ?_
     refine WPL.q (q_extract rfl rfl) rfl ?_
     refine WPL.s (s_store sz43 rfl rfl rfl rfl rfl) ?_
     refine WPL.q (q_as (v := .lit (.bool _)) rfl) rfl ?_
     refine WPL.nilW ?_
     refine W.now ?_
     refine InBlock.n ?_
     refine Then.n ?_
     refine WP.region ?_
     refine WPL.q (q_mv (v := .lit (.int _ _)) rfl) rfl ?_
     refine WPL.q (q_add rfl rfl) rfl ?_
     refine WPL.q (q_as (v := .lit (.int _ _)) rfl) rfl ?_
     refine WPL.nilW ?_
     exact W.wk [0, 1, 2, 3] hnp (Then.n ⟨n, (x1287, (IntKind.wrap .i64 (x1249 + 1)), x1288, (IntKind.wrap .u64 (x1251 * 2))), Nat.lt_succ_self n, H, rfl, rfl⟩) ⟨rfl, ⟨⟨⟨⟨trivial, .inr ⟨rfl, rfl, rfl⟩⟩, .inr ⟨rfl, rfl, rfl⟩⟩, .inr ⟨rfl, rfl, rfl⟩⟩, .inr ⟨rfl, rfl, rfl⟩⟩, by decide, rfl, trivial⟩ (LeE.upd rfl rfl (LeE.upd rfl rfl (LeE.upd rfl rfl (LeE.upd rfl rfl (LeE.upd rfl rfl (LeE.upd rfl rfl (LeE.upd rfl rfl (LeE.upd rfl rfl (LeE.upd rfl rfl (LeE.none rfl rfl)))))))))) rfl
   replace H := cnf hb1284 H
   refine WP.exitW ?_
   have q0 := (Prod.mk.inj (Option.some.inj H)).1
   have q1 := (Prod.mk.inj (Prod.mk.inj (Option.some.inj H)).2).1
   have q2 := (Prod.mk.inj (Prod.mk.inj (Option.some.inj H)).2).2
   subst q0
   subst q1
   subst q2
   exact W.wk [0, 1, 2, 3] hnp (Then.x (Then.x ⟨rfl, rfl, rfl⟩)) ⟨rfl, ⟨⟨⟨⟨trivial, .inr ⟨rfl, rfl, rfl⟩⟩, .inr ⟨rfl, rfl, rfl⟩⟩, .inr ⟨rfl, rfl, rfl⟩⟩, .inr ⟨rfl, rfl, rfl⟩⟩, by decide, rfl, trivial⟩ (LeE.upd rfl rfl (LeE.upd rfl rfl (LeE.upd rfl rfl (LeE.upd rfl rfl (LeE.upd rfl rfl (LeE.upd rfl rfl (LeE.upd rfl rfl (LeE.none rfl rfl)))))))) rfl
 rintro _ _ _ ⟨rfl, rfl, rfl⟩
 refine W.now ?_
 refine InBlock.x0 ?_
 refine Then.n ?_
 refine WP.seq ?_
 refine WP.seq ?_
 refine WP.region ?_
 refine WPL.q (q_as (v := .lit (.int _ _)) rfl) rfl ?_
 refine WPL.nilW ?_
 refine W.now ?_
 refine Then.n ?_
 refine WP.block ?_
 refine WP.cv (Cv.weak (E' := ((((((((Env.none.upd 2 (.ptr 0 0)).upd 3 (.ptr 1 0)).upd 4 (.ptr 2 0)).upd 12 (.lit (.int .i64 x1225))).upd 13 (.lit (.int .i64 x1229))).upd 14 (.ptr 3 0)).upd 15 (.lit (.bool x1269))).upd 17 (.lit (.int .i64 0)))) (M' := ((((Mem.nil.push (.cells 23 [.lit (.int .i64 x1187), .lit (.int .i64 x1188)])).push (.cells 23 [.lit (.int .i64 x1189), .lit (.int .i64 x1190)])).push (.cells 23 [.lit (.int .i64 0), .lit (.int .i64 0)])).push (.cells 43 [.lit (.int .u64 x1270), .lit (.int .u64 x1271)]))) [0, 1, 2, 3] hnp ⟨rfl, ⟨⟨⟨⟨trivial, .inr ⟨rfl, rfl, rfl⟩⟩, .inr ⟨rfl, rfl, rfl⟩⟩, .inr ⟨rfl, rfl, rfl⟩⟩, .inr ⟨rfl, rfl, rfl⟩⟩, by decide, rfl, trivial⟩ (LeE.upd rfl rfl (LeE.upd rfl rfl (LeE.upd rfl rfl (LeE.upd rfl rfl (LeE.upd rfl rfl (LeE.upd rfl rfl (LeE.upd rfl rfl (LeE.upd rfl rfl (LeE.none rfl rfl)))))))))) ?_
 obtain ⟨⟨x1328, x1329, x1330⟩, H1347, H⟩ := bnd H
 refine WP.monoW (Q := fun x E M => x = .exit 4 ∧ E = ((((((Env.none.upd 2 (.ptr 0 0)).upd 3 (.ptr 1 0)).upd 4 (.ptr 2 0)).upd 13 (.lit (.int .i64 x1229))).upd 14 (.ptr 3 0)).upd 15 (.lit (.bool x1328))) ∧ M = ((((Mem.nil.push (.cells 23 [.lit (.int .i64 x1187), .lit (.int .i64 x1188)])).push (.cells 23 [.lit (.int .i64 x1189), .lit (.int .i64 x1190)])).push (.cells 23 [.lit (.int .i64 0), .lit (.int .i64 0)])).push (.cells 43 [.lit (.int .u64 x1329), .lit (.int .u64 x1330)]))) ?_ ?_
 · refine WP.loop (β := Bool × Int × Int × Int) (fun n b => g_dec_Div_l2 k x1225 x1229 n b.1 b.2.1 b.2.2.1 b.2.2.2 = some (x1328, x1329, x1330)) (fun b => ((((((((Env.none.upd 2 (.ptr 0 0)).upd 3 (.ptr 1 0)).upd 4 (.ptr 2 0)).upd 12 (.lit (.int .i64 x1225))).upd 13 (.lit (.int .i64 x1229))).upd 14 (.ptr 3 0)).upd 15 (.lit (.bool b.1))).upd 17 (.lit (.int .i64 b.2.1)))) (fun b => ((((Mem.nil.push (.cells 23 [.lit (.int .i64 x1187), .lit (.int .i64 x1188)])).push (.cells 23 [.lit (.int .i64 x1189), .lit (.int .i64 x1190)])).push (.cells 23 [.lit (.int .i64 0), .lit (.int .i64 0)])).push (.cells 43 [.lit (.int .u64 b.2.2.1), .lit (.int .u64 b.2.2.2)]))) k (x1269, 0, x1270, x1271) H1347 rfl rfl ?_
   rintro n ⟨x1307, x1308, x1309, x1310⟩ H
   obtain _ | n := n
   · exact nf rfl H
   rw [g_dec_Div_l2.eq_2] at H
   show WP _ _ _ _ ((((((((Env.none.upd 2 (.ptr 0 0)).upd 3 (.ptr 1 0)).upd 4 (.ptr 2 0)).upd 12 (.lit (.int .i64 x1225))).upd 13 (.lit (.int .i64 x1229))).upd 14 (.ptr 3 0)).upd 15 (.lit (.bool x1307))).upd 17 (.lit (.int .i64 x1308))) ((((Mem.nil.push (.cells 23 [.lit (.int .i64 x1187), .lit (.int .i64 x1188)])).push (.cells 23 [.lit (.int .i64 x1189), .lit (.int .i64 x1190)])).push (.cells 23 [.lit (.int .i64 0), .lit (.int .i64 0)])).push (.cells 43 [.lit (.int .u64 x1309), .lit (.int .u64 x1310)])) _
   refine WP.seq ?_
   refine WP.seq ?_
   obtain ⟨x1340, H1342, H⟩ := bnd H
   refine WP.monoW (Q := fun x E M => x = .normal ∧ E = (((((((((Env.none.upd 2 (.ptr 0 0)).upd 3 (.ptr 1 0)).upd 4 (.ptr 2 0)).upd 12 (.lit (.int .i64 x1225))).upd 13 (.lit (.int .i64 x1229))).upd 14 (.ptr 3 0)).upd 15 (.lit (.bool x1307))).upd 17 (.lit (.int .i64 x1308))).upd 88 (.lit (.bool x1340))) ∧ M = ((((Mem.nil.push (.cells 23 [.lit (.int .i64 x1187), .lit (.int .i64 x1188)])).push (.cells 23 [.lit (.int .i64 x1189), .lit (.int .i64 x1190)])).push (.cells 23 [.lit (.int .i64 0), .lit (.int .i64 0)])).push (.cells 43 [.lit (.int .u64 x1309), .lit (.int .u64 x1310)]))) ?_ ?_
   · clear H
     have H := H1342
     clear H1342
     refine WP.region ?_
     refine WPL.q (q_mv (v := .lit (.int _ _)) rfl) rfl ?_
     refine WPL.q (q_mv (v := .lit (.int _ _)) rfl) rfl ?_
     refine WPL.q (q_mv (v := .lit (.int _ _)) rfl) rfl ?_
     refine WPL.q (q_sub rfl rfl) rfl ?_
     obtain ⟨x1341, h1341, H⟩ := bnd H
     refine WPL.q (q_nm (q_lss rfl rfl) (nm_bool h1341)) rfl ?_
     refine WPL.q (q_mv (v := .lit (.bool _)) rfl) rfl ?_
     refine WPL.split (t := 86) (b := x1341) rfl (fun hb1341 => ?_) (fun hb1341 => ?_)
     · replace H := cnt hb1341 H
       refine WPL.qg rfl rfl (lb hb1341) (q_mv (v := .lit (.bool _)) rfl) rfl ?_
       refine WPL.q (q_pickT (v := .lit (.bool _)) (lb hb1341) rfl) rfl ?_
       refine WPL.nilW ?_
       have q0 := (Option.some.inj H)
       subst q0
       exact W.wk [0, 1, 2, 3] hnp ⟨rfl, rfl, rfl⟩ ⟨rfl, ⟨⟨⟨⟨trivial, .inr ⟨rfl, rfl, rfl⟩⟩, .inr ⟨rfl, rfl, rfl⟩⟩, .inr ⟨rfl, rfl, rfl⟩⟩, .inr ⟨rfl, rfl, rfl⟩⟩, by decide, rfl, trivial⟩ (LeE.upd rfl rfl (LeE.upd rfl rfl (LeE.upd rfl rfl (LeE.upd rfl rfl (LeE.upd rfl rfl (LeE.upd rfl rfl (LeE.upd rfl rfl (LeE.upd rfl rfl (LeE.upd rfl rfl (LeE.none rfl rfl)))))))))) rfl
     replace H := cnf hb1341 H
     refine WPL.skipg (b' := false) rfl rfl (lb hb1341) rfl rfl ?_
     refine WPL.q (q_pickF (v := .lit (.bool _)) (lb hb1341) rfl) rfl ?_
     refine WPL.nilW ?_
     have q0 := (Option.some.inj H)
     subst q0
     exact W.wk [0, 1, 2, 3] hnp ⟨rfl, rfl, rfl⟩ ⟨rfl, ⟨⟨⟨⟨trivial, .inr ⟨rfl, rfl, rfl⟩⟩, .inr ⟨rfl, rfl, rfl⟩⟩, .inr ⟨rfl, rfl, rfl⟩⟩, .inr ⟨rfl, rfl, rfl⟩⟩, by decide, rfl, trivial⟩ (LeE.upd rfl rfl (LeE.upd rfl rfl (LeE.upd rfl rfl (LeE.upd rfl rfl (LeE.upd rfl rfl (LeE.upd rfl rfl (LeE.upd rfl rfl (LeE.upd rfl rfl (LeE.upd rfl rfl (LeE.none rfl rfl)))))))))) rfl
   rintro _ _ _ ⟨rfl, rfl, rfl⟩
   refine W.now ?_
   refine Then.n ?_
   refine WP.cond (t := x1340) rfl (fun hb1343 => ?_) (fun hb1343 => ?_)
   · replace H := cnt hb1343 H
     refine WP.skipW ?_
     refine W.now ?_
     refine Then.n ?_
     refine WP.seq ?_
     refine WP.block ?_
     refine WP.region ?_
     refine WPL.q (q_load_ag ag43 rfl rfl (Nat.le_of_ble_eq_true rfl)) rfl ?_
     obtain ⟨⟨x1346, x1347⟩, h1344, H⟩ := bnd H
     refine WPL.c (runs_call (s := []) (t := [4]) (N := 5) (bor := []) fn30 rfl (s_dec_wide_times k x1309 x1310 5 x1346 x1347 h1344) ⟨rfl, trivial, by decide, rfl, trivial⟩ rfl trivial (.ren rfl rfl (.ren rfl rfl .nil)) rfl ⟨trivial, rfl⟩ rfl) rfl ?_
     refine WPL.q (q_mv (v := .tup _) rfl) rfl ?_
     refine WPL.q (q_extract rfl rfl) rfl ?_
     refine WPL.q (q_extract rfl rfl) rfl ?_
     refine WPL.s (s_store sz43 rfl rfl rfl rfl rfl) ?_
     refine WPL.q (q_as (v := .lit (.bool _)) rfl) rfl ?_
     refine WPL.nilW ?_
     refine W.now ?_
     refine InBlock.n ?_
     refine Then.n ?_
     refine WP.region ?_
     refine WPL.q (q_mv (v := .lit (.int _ _)) rfl) rfl ?_
     refine WPL.q (q_add rfl rfl) rfl ?_
     refine WPL.q (q_as (v := .lit (.int _ _)) rfl) rfl ?_
     refine WPL.nilW ?_
     exact W.wk [0, 1, 2, 3] hnp (Then.n ⟨n, (x1346, (IntKind.wrap .i64 (x1308 + 1)), x1347, (IntKind.wrap .u64 (x1310 * 5))), Nat.lt_succ_self n, H, rfl, rfl⟩) ⟨rfl, ⟨⟨⟨⟨trivial, .inr ⟨rfl, rfl, rfl⟩⟩, .inr ⟨rfl, rfl, rfl⟩⟩, .inr ⟨rfl, rfl, rfl⟩⟩, .inr ⟨rfl, rfl, rfl⟩⟩, by decide, rfl, trivial⟩ (LeE.upd rfl rfl (LeE.upd rfl rfl (LeE.upd rfl rfl (LeE.upd rfl rfl (LeE.upd rfl rfl (LeE.upd rfl rfl (LeE.upd rfl rfl (LeE.upd rfl rfl (LeE.none rfl rfl))))))))) rfl
   replace H := cnf hb1343 H
   refine WP.exitW ?_
   have q0 := (Prod.mk.inj (Option.some.inj H)).1
   have q1 := (Prod.mk.inj (Prod.mk.inj (Option.some.inj H)).2).1
   have q2 := (Prod.mk.inj (Prod.mk.inj (Option.some.inj H)).2).2
   subst q0
   subst q1
   subst q2
   exact W.wk [0, 1, 2, 3] hnp (Then.x (Then.x ⟨rfl, rfl, rfl⟩)) ⟨rfl, ⟨⟨⟨⟨trivial, .inr ⟨rfl, rfl, rfl⟩⟩, .inr ⟨rfl, rfl, rfl⟩⟩, .inr ⟨rfl, rfl, rfl⟩⟩, .inr ⟨rfl, rfl, rfl⟩⟩, by decide, rfl, trivial⟩ (LeE.upd rfl rfl (LeE.upd rfl rfl (LeE.upd rfl rfl (LeE.upd rfl rfl (LeE.upd rfl rfl (LeE.upd rfl rfl (LeE.none rfl rfl))))))) rfl
 rintro _ _ _ ⟨rfl, rfl, rfl⟩
 refine W.now ?_
 refine InBlock.x0 ?_
 refine Then.n ?_
 refine WP.seq ?_
 refine WP.seq ?_
 refine WP.region ?_
 refine WPL.q (q_mv (v := .lit (.bool _)) rfl) rfl ?_
 refine WPL.q (q_not rfl) rfl ?_
 refine WPL.nilW ?_
 refine W.now ?_
 refine Then.n ?_
 refine WP.cond (t := (!x1328)) rfl (fun hb1349 => ?_) (fun hb1349 => ?_)
 · replace H := cnt hb1349 H
   refine WP.seq ?_
   refine WP.region ?_
   refine WPL.q (q_build bu23 rfl) rfl ?_
   refine WPL.s (s_store sz23 rfl rfl rfl rfl rfl) ?_
   refine WPL.q (q_as (v := .lit (.int _ _)) rfl) rfl ?_
   refine WPL.nilW ?_
   refine W.now ?_
   refine Then.n ?_
   refine WP.retW ?_
   have q0 := (Prod.mk.inj (Option.some.inj H)).1
   have q1 := (Prod.mk.inj (Prod.mk.inj (Option.some.inj H)).2).1
   have q2 := (Prod.mk.inj (Prod.mk.inj (Option.some.inj H)).2).2
   subst q0
   subst q1
   subst q2
   exact W.now (Then.r (BodyR.mkR trivial rfl [2] ⟨rfl, rfl⟩ ⟨rfl, ⟨trivial, .inr ⟨rfl, rfl, rfl⟩⟩, by decide, rfl, trivial⟩ rfl rfl))
 replace H := cnf hb1349 H
 refine WP.skipW ?_
 refine W.now ?_
 refine Then.n ?_
 refine WP.seq ?_
 refine WP.region ?_
 refine WPL.q (q_fieldAddr fi23_0 rfl rfl) rfl ?_
 refine WPL.q (q_load sc2 rfl rfl rfl) rfl ?_
 refine WPL.q (q_lss rfl rfl) rfl ?_
 refine WPL.q (q_fieldAddr fi23_0 rfl rfl) rfl ?_
 refine WPL.q (q_load sc2 rfl rfl rfl) rfl ?_
 refine WPL.q (q_lss rfl rfl) rfl ?_
 obtain ⟨x1351, h1351, H⟩ := bnd H
 refine WPL.q (q_nm (q_neqb Try.underlying4 rfl rfl) (nm_bool h1351)) rfl ?_
 refine WPL.q (q_load_ag ag43 rfl rfl (Nat.le_of_ble_eq_true rfl)) rfl ?_
 refine WPL.q (q_fieldAddr fi23_1 rfl rfl) rfl ?_
 refine WPL.q (q_load sc3 rfl rfl rfl) rfl ?_
 refine WPL.q (q_fieldAddr fi23_1 rfl rfl) rfl ?_
 refine WPL.q (q_load sc3 rfl rfl rfl) rfl ?_
 refine WPL.q (q_sub rfl rfl) rfl ?_
 refine WPL.q (q_mv (v := .lit (.int _ _)) rfl) rfl ?_
 obtain ⟨x1352, h1352, H⟩ := bnd H
 refine WPL.q (q_nm (q_sub rfl rfl) (nm_int h1352)) rfl ?_
 refine WPL.q (q_build bu47 rfl) rfl ?_
 obtain ⟨⟨x1354, x1355, x1356⟩, h1352, H⟩ := bnd H
 refine WPL.c (runs_call (s := []) (t := [4]) (N := 5) (bor := []) fn31 rfl (s_dec_num_tell k x1351 x1329 x1330 x1352 x1354 x1355 x1356 h1352) ⟨rfl, trivial, by decide, rfl, trivial⟩ rfl trivial (.ren rfl rfl .nil) rfl ⟨trivial, rfl⟩ rfl) rfl ?_
 refine WPL.q (q_extract rfl rfl) rfl ?_
 refine WPL.q (q_extract rfl rfl) rfl ?_
 refine WPL.s (s_store sz23 rfl rfl rfl rfl rfl) ?_
 refine WPL.q (q_as (v := .lit (.int _ _)) rfl) rfl ?_
 refine WPL.nilW ?_
 refine W.now ?_
 refine Then.n ?_
 refine WP.retW ?_
 have q0 := (Prod.mk.inj (Option.some.inj H)).1
 have q1 := (Prod.mk.inj (Prod.mk.inj (Option.some.inj H)).2).1
 have q2 := (Prod.mk.inj (Prod.mk.inj (Option.some.inj H)).2).2
 subst q0
 subst q1
 subst q2
 exact W.now (BodyR.mkR trivial rfl [2] ⟨rfl, rfl⟩ ⟨rfl, ⟨trivial, .inr ⟨rfl, rfl, rfl⟩⟩, by decide, rfl, trivial⟩ rfl rfl)
end Go.Proofs.Ytdbeblgfccjbgaa.W
