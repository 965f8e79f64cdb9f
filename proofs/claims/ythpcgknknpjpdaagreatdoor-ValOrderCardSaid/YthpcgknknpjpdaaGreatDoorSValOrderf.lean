/- Texts joined: part 6 of what LValOrder stands on. -/
import Derived.Test.YthpcgknknpjpdaaGreatDoorSValOrdere
import Derived.Test.YthpcgknknpjpdaaGreatDoorRows
import Derived.Lib.LaidTab
import Derived.MakeChecks
import Derived.ChangeSame
namespace Go.Proofs.YthpcgknknpjpdaaGreatDoor.W
open Go Go.Q Go.Proofs Go.Dz
set_option linter.unusedVariables false
set_option linter.unusedSimpArgs false
def sgn (neg : Bool) (v : Nat) : Int := if neg then -(v : Int) else (v : Int)
theorem sgn_mul {neg : Bool} {v w : Nat} : sgn neg (v * w) = sgn neg v * (w : Int) := by
  cases neg <;> simp [sgn, Int.neg_mul]
theorem sgn_zero {neg : Bool} : sgn neg 0 = 0 := by cases neg <;> simp [sgn]
theorem sgn_ne {neg : Bool} {v : Nat} (h : v ≠ 0) : sgn neg v ≠ 0 := by cases neg <;> simp [sgn] <;> omega
theorem sgn_dvd {neg : Bool} {v : Nat} : (10 : Int) ∣ sgn neg v ↔ v % 10 = 0 := by
  cases neg <;> simp [sgn] <;> omega
theorem sgn_abs {neg : Bool} {v : Nat} : (sgn neg v).natAbs = v := by cases neg <;> simp [sgn]
theorem tell_l0 (k : Nat) (hk : 3 ≤ k) : ∀ (d n v : Nat) (e : Int), d ≤ n → v ≠ 0 → v < UU → v < 10 ^ d → -4000 ≤ e → e + d ≤ 5000 → ∃ (w j : Nat), v = w * 10 ^ j ∧ w % 10 ≠ 0 ∧ j ≤ d ∧
    g_dec_num_tell_l0 k n ((v % 10 : Nat) : Int) (wh v) (wl v) e (wh (v / 10)) (wl (v / 10)) = some (wh w, wl w, e + j) := by
  intro d
  induction d with
  | zero => intro n v e _ h0 _ h; simp at h; omega
  | succ d ih =>
    intro n v e hdn h0 hU h he1 he2
    obtain ⟨n, rfl⟩ : ∃ n', n = n' + 1 := ⟨n - 1, by omega⟩
    rw [g_dec_num_tell_l0.eq_2]
    simp only [bd]
    by_cases hr : v % 10 = 0
    · rw [if_pos (by omega), wide_by k hk (v := v / 10) (by unfold UU at *; omega), Option.bind_some]
      rw [Nat.pow_succ] at h
      obtain ⟨w, j, h1, h2, h3, h4⟩ := ih n (v / 10) (e + 1) (by omega) (by omega) (by unfold UU at *; omega) (by omega) (by omega) (by omega)
      refine ⟨w, j + 1, ?_, h2, by omega, ?_⟩
      · rw [Nat.pow_succ, ← Nat.mul_assoc, ← h1]; omega
      · rw [wi (by omega) (by omega)]
        simp only
        rw [h4]
        congr 3
        omega
    · rw [if_neg (by omega)]
      exact ⟨v, 0, by simp, hr, by omega, by simp⟩
/-- The greatest size. -/
def topN (neg : Bool) : Nat := if neg then 9223372036854775808 else 9223372036854775807
theorem in_range {neg : Bool} {w : Nat} : (-9223372036854775808 ≤ sgn neg w ∧ sgn neg w ≤ 9223372036854775807) ↔ w ≤ topN neg := by
  cases neg <;> simp [sgn, topN] <;> omega
theorem neg_wrap {u : Nat} (h : u ≤ 9223372036854775808) : IntKind.wrap .i64 (0 - (IntKind.wrap .i64 (u : Int))) = -(u : Int) := by
  rw [IntKind.wrap_i64, IntKind.wrap_i64]; omega
theorem num_tell (k : Nat) (hk : 60 ≤ k) {neg : Bool} {v : Nat} {e : Int} (hv : v < UU) (he1 : -4000 ≤ e) (he2 : e ≤ 4000) : ∃ er c x : Int, g_dec_num_tell k neg (wh v) (wl v) e = some (er, c, x) ∧ Tells (· = val (sgn neg v) e) ((c, x), er) := by
  unfold g_dec_num_tell
  simp only [wide_zero, Option.bind_some, bd]
  by_cases h0 : v = 0
  · rw [if_pos ((wide_or hv).2 h0)]
    refine ⟨0, 0, 0, rfl, ?_⟩
    rw [h0, sgn_zero]
    exact tells_zero
  · rw [if_neg (fun h => h0 ((wide_or hv).1 h)), wide_by k (by omega) hv, Option.bind_some]
    obtain ⟨w, j, h1, h2, h3, h4⟩ := tell_l0 k (by omega) 39 k v e (by omega) h0 hv (Nat.lt_of_lt_of_le hv (by decide)) (by omega) (by omega)
    simp only
    rw [h4, Option.bind_some]
    have hwv : w ≤ v := by rw [h1]; exact Nat.le_mul_of_pos_right _ (Nat.pow_pos (by decide))
    have hw : w < UU := Nat.lt_of_le_of_lt hwv hv
    have hw0 : w ≠ 0 := by rintro rfl; simp at h2
    have hval : val (sgn neg v) e = val (sgn neg w) (e + j) := by
      rw [h1, sgn_mul]
      have : ((10 ^ j : Nat) : Int) = (10 : Int) ^ j := by simp
      rw [this, val_shift (by omega)]
    rw [hval]
    have hm : sgn neg w ≠ 0 := sgn_ne hw0
    have hd : ¬ (10 : Int) ∣ sgn neg w := fun h => h2 (sgn_dvd.1 h)
    clear hval h1 h4 h0 hv hwv
    generalize he' : e + (j : Int) = f at *
    have hf : -4000 ≤ f ∧ f ≤ 4039 := by omega
    clear he' he1 he2 h3
    -- what comes behind the size is known
    have top : ((bif neg then some (IntKind.wrap .u64 (9223372036854775807 + 1)) else some 9223372036854775807) : Option Int) = some ((topN neg : Nat) : Int) := by
      cases neg
      · rfl
      · simp only [cond_true]
        have : IntKind.wrap .u64 (9223372036854775807 + 1) = 9223372036854775808 := by decide
        rw [this]; rfl
    have fin : ∀ (u t : Nat) (x : Int), u = w * 10 ^ t → u < UU → x = (if f > 18 then 18 else f) → (t : Int) = f - x → ∃ er c x' : Int,
        (((bif (!true) then some true else if x < -18 then some true else if 0 < wh u then some true else some (decide (((topN neg : Nat) : Int) < wl u))) : Option Bool).bind fun x889 =>
          bif x889 then some (30, 0, 0) else (((bif neg then some (IntKind.wrap .i64 (0 - (IntKind.wrap .i64 (wl u)))) else some (IntKind.wrap .i64 (wl u))) : Option Int).bind fun x897 => some (0, x897, x))) = some (er, c, x') ∧ Tells (· = val (sgn neg w) f) ((c, x'), er) := by
      intro u t x hu huU hx ht
      have hsu : sgn neg u = sgn neg w * 10 ^ (f - x).toNat := by
        rw [hu, sgn_mul, show (f - x).toNat = t by omega]; simp
      rw [Bool.not_true, bf]
      by_cases hx18 : x < -18
      · rw [if_pos hx18, Option.bind_some, bt]
        refine ⟨30, 0, 0, rfl, tells_none hm hd (by omega) (.inl ?_)⟩
        split at hx <;> omega
      · rw [if_neg hx18]
        have hb : ((if 0 < wh u then some true else some (decide (((topN neg : Nat) : Int) < wl u))) : Option Bool) = some (decide (topN neg < u)) := by
          have htn : topN neg < 18446744073709551616 := by unfold topN; split <;> decide
          unfold wh wl
          by_cases hh : u / 18446744073709551616 = 0
          · rw [if_neg (by omega)]
            congr 1
            rw [decide_eq_decide]
            omega
          · rw [if_pos (by omega), dt (by omega)]
        rw [hb, Option.bind_some]
        by_cases hu2 : topN neg < u
        · rw [dt hu2, bt]
          refine ⟨30, 0, 0, rfl, ?_⟩
          have hnr : ¬ (-9223372036854775808 ≤ sgn neg u ∧ sgn neg u ≤ 9223372036854775807) := by rw [in_range]; omega
          by_cases hf18 : f > 18
          · rw [if_pos hf18] at hx
            subst hx
            rw [hsu] at hnr
            exact tells_none hm hd (by omega) (.inr hnr)
          · rw [if_neg hf18] at hx
            subst hx
            have ht0 : t = 0 := by omega
            subst ht0
            rw [hsu] at hnr
            refine tells_none hm hd (by omega) (.inr ?_)
            rw [show (x - 18).toNat = (x - x).toNat by omega]
            exact hnr
        · rw [df hu2, bf]
          have hr := in_range.2 (Nat.le_of_not_lt hu2)
          have ht2 : topN neg ≤ 9223372036854775808 := by unfold topN; split <;> decide
          rw [wl_small (show u < 18446744073709551616 by omega)]
          refine ⟨0, sgn neg u, x, ?_, tells_some hm hd (by omega) ⟨hx, hsu, by omega, hr.1, hr.2⟩⟩
          cases neg
          · simp only [sgn, Bool.false_eq_true, if_false] at hr ⊢
            rw [bf, wi (n := (u : Int)) (by omega) (by omega)]; rfl
          · simp only [sgn, if_true, cond_true, Option.bind_some] at hr ⊢
            rw [neg_wrap (Nat.le_trans (Nat.le_of_not_lt hu2) ht2)]
    by_cases hf18 : 18 < f
    · rw [if_pos hf18, wi (n := f - 18) (by omega) (by omega)]
      obtain ⟨m, hm40⟩ : ∃ m : Nat, (if (40 : Int) < f - 18 then (40 : Int) else f - 18) = (m : Int) := ⟨(if (40 : Int) < f - 18 then (40 : Int) else f - 18).toNat, by split <;> omega⟩
      have hm' : (f ≤ 58 ∧ (m : Int) = f - 18) ∨ (58 < f ∧ m = 40) := by split at hm40 <;> omega
      rw [hm40]
      simp only [Option.bind_some]
      obtain ⟨b, x, y, t1, t2, t3⟩ := wide_tens k (m := m) hw (by omega) (by omega)
      rw [t1]
      simp only [Option.bind_some]
      -- too great
      have big : UU ≤ w * 10 ^ (f - 18).toNat → Tells (· = val (sgn neg w) f) ((0, 0), 30) := by
        intro hb
        refine tells_none hm hd (by omega) (.inr ?_)
        have : sgn neg w * 10 ^ (f - 18).toNat = sgn neg (w * 10 ^ (f - 18).toNat) := by rw [sgn_mul]; simp
        rw [this, in_range]
        unfold UU at hb
        have ht2 : topN neg ≤ 9223372036854775808 := by unfold topN; split <;> decide
        omega
      by_cases hf58 : 58 < f
      · rw [if_pos hf58, Option.bind_some]
        simp only [top, Option.bind_some, Bool.not_false, cond_true]
        refine ⟨30, 0, 0, rfl, big ?_⟩
        have h41 : 10 ^ 41 ≤ 10 ^ (f - 18).toNat := Nat.pow_le_pow_right (by decide) (by omega)
        have : 1 * 10 ^ 41 ≤ w * 10 ^ (f - 18).toNat := Nat.mul_le_mul (by omega) h41
        exact Nat.le_trans (by decide) this
      · rw [if_neg hf58, Option.bind_some]
        have hmf : (f - 18).toNat = m := by omega
        cases b with
        | false =>
          simp only [top, Option.bind_some, Bool.not_false, cond_true]
          exact ⟨30, 0, 0, rfl, big (by rw [hmf]; exact t3 rfl)⟩
        | true =>
          obtain ⟨u1, u2, u3⟩ := t2 rfl
          simp only [top, Option.bind_some, u2, u3]
          exact fin _ m 18 rfl u1 (by rw [if_pos hf18]) (by omega)
    · rw [if_neg hf18, Option.bind_some]
      simp only [top, Option.bind_some]
      exact fin w 0 f (by simp) hw (by rw [if_neg (by omega)]) (by omega)
end Go.Proofs.YthpcgknknpjpdaaGreatDoor.W
namespace Go.Proofs.YthpcgknknpjpdaaGreatDoor.W
open Go Go.Q Go.Proofs Go.Dz
set_option linter.unusedVariables false
set_option linter.unusedSimpArgs false
theorem len_pos {n : Nat} (h : n ≠ 0) : 0 < (digs n).length := by
  rw [digs_pos h]; simp
end Go.Proofs.YthpcgknknpjpdaaGreatDoor.W
namespace Go.Proofs.YthpcgknknpjpdaaGreatDoor.W
open Go Go.Q Go.Proofs Go.Dz
set_option linter.unusedVariables false
set_option linter.unusedSimpArgs false
theorem canon_exists {c : Int} (hc : I64 c) : ∀ (n : Nat) (e : Int), (18 - e).toNat = n → Rng e → ∀ c, I64 c → ∃ c' x', Canon c' x' ∧ val c' x' = val c e := by
  intro n
  induction n with
  | zero =>
    intro e h he c hc
    unfold Rng at he
    unfold I64 at hc
    by_cases h0 : c = 0
    · exact ⟨0, 0, .inl ⟨rfl, rfl⟩, by rw [h0, val_zero, val_zero]⟩
    · exact ⟨c, e, .inr ⟨h0, he.1, he.2, hc.1, hc.2, .inl (by omega)⟩, rfl⟩
  | succ n ih =>
    intro e h he c hc
    unfold Rng at he
    unfold I64 at hc
    by_cases h0 : c = 0
    · exact ⟨0, 0, .inl ⟨rfl, rfl⟩, by rw [h0, val_zero, val_zero]⟩
    · by_cases hd : (10 : Int) ∣ c
      · obtain ⟨c1, rfl⟩ := hd
        obtain ⟨c', x', h1, h2⟩ := ih (e + 1) (by omega) (by unfold Rng; omega) c1 (by unfold I64; omega)
        refine ⟨c', x', h1, ?_⟩
        have := val_shift (m := c1) (e := e) (j := 1) (by omega)
        rw [h2, Int.mul_comm 10 c1]
        exact this.symm
      · exact ⟨c, e, .inr ⟨h0, he.1, he.2, hc.1, hc.2, .inr hd⟩, rfl⟩
theorem size_eq (k : Nat) {c : Int} (hc : I64 c) : g_dec_size k c = some ((c.natAbs : Nat) : Int) := by
  unfold g_dec_size
  unfold I64 at hc
  simp only [bd, Option.bind_some]
  by_cases h : c < 0
  · rw [if_pos h]
    have : IntKind.wrap .u64 (0 - IntKind.wrap .u64 c) = ((c.natAbs : Nat) : Int) := by rw [wUi, wUi]; omega
    rw [this]
  · rw [if_neg h]
    have : IntKind.wrap .u64 c = ((c.natAbs : Nat) : Int) := by rw [wUi]; omega
    rw [this]
theorem of_eq (k : Nat) {c e : Int} (hc : I64 c) : g_dec_of k c e = some ((c.natAbs : Nat) : Int) := by
  unfold g_dec_of; rw [size_eq k hc]; rfl
theorem ranged_eq (k : Nat) (hk : 3 ≤ k) {c e : Int} : g_dec_ranged k ([(⟨c, e⟩ : S_api_Dec)] : List S_api_Dec) = some (decide (Rng e)) := by
  unfold g_dec_ranged
  obtain ⟨k, rfl⟩ : ∃ k', k = k' + 2 := ⟨k - 2, by omega⟩
  rw [g_dec_ranged_l0.eq_2]
  have e1 : ix ([(⟨c, e⟩ : S_api_Dec)] : List S_api_Dec) 0 = some ⟨c, e⟩ := rfl
  have e2 : IntKind.wrap .i64 (0 + 1) = 1 := by decide
  have e3 : decide ((0 : Int) < (([(⟨c, e⟩ : S_api_Dec)].length : Nat) : Int)) = true := rfl
  have e4 : decide ((1 : Int) < (([(⟨c, e⟩ : S_api_Dec)].length : Nat) : Int)) = false := rfl
  rw [Option.bind_some, e3, bt, e1, Option.bind_some, e2]
  simp only [bd]
  by_cases h1 : e < -18
  · rw [if_pos h1, df (show ¬ Rng e by unfold Rng; omega)]; rfl
  · rw [if_neg h1]
    by_cases h2 : 18 < e
    · rw [dt h2, df (show ¬ Rng e by unfold Rng; omega)]; rfl
    · rw [df h2, dt (show Rng e by unfold Rng; omega), Option.bind_some, bf, g_dec_ranged_l0.eq_2, Option.bind_some, e4]; rfl
theorem sgn_self (c : Int) : sgn (decide (c < 0)) c.natAbs = c := by
  unfold sgn; by_cases h : c < 0 <;> simp [h] <;> omega
theorem abs_lt {c : Int} (hc : I64 c) : c.natAbs < 18446744073709551616 := by unfold I64 at hc; omega
/-- A number of the program, from its sign and size. -/
theorem tell_abs (k : Nat) (hk : 60 ≤ k) {neg : Bool} {n : Nat} {e : Int} (hn : n < 18446744073709551616) (he : -4000 ≤ e ∧ e ≤ 4000) : ∃ er c x : Int, g_dec_num_tell k neg 0 (n : Int) e = some (er, c, x) ∧ Tells (· = val (sgn neg n) e) ((c, x), er) := by
  have := num_tell k hk (neg := neg) (v := n) (e := e) (by unfold UU; omega) he.1 he.2
  rwa [wh_small hn, wl_small hn] at this
theorem tell_ok (k : Nat) (hk : 60 ≤ k) {c e : Int} (hc : I64 c) (he : Rng e) : ∃ c' e' : Int, g_dec_num_tell k (decide (c < 0)) 0 ((c.natAbs : Nat) : Int) e = some (0, c', e') ∧ Canon c' e' ∧ val c' e' = val c e := by
  obtain ⟨er, c', x', h1, h2⟩ := tell_abs k hk (neg := decide (c < 0)) (n := c.natAbs) (e := e) (abs_lt hc) (by unfold Rng at he; omega)
  rw [sgn_self] at h2
  rcases h2 with ⟨h3, h4, h5⟩ | ⟨h3, h4⟩
  · simp only at h3 h4 h5
    exact ⟨c', x', by rw [h1, h3], h4, h5⟩
  · obtain ⟨c2, x2, h5, h6⟩ := canon_exists hc _ e rfl he c hc
    exact absurd h6 (h4 _ _ h5)
theorem clean (k : Nat) (hk : 60 ≤ k) {c e d f : Int} (hc : I64 c) (hd : I64 d) : if Rng e ∧ Rng f then ∃ c' e' d' f' : Int, g_dec_clean k c e d f = some (true, c', e', d', f') ∧ Canon c' e' ∧ val c' e' = val c e ∧ Canon d' f' ∧ val d' f' = val d f
    else ∃ r, g_dec_clean k c e d f = some (false, r) := by
  unfold g_dec_clean
  rw [ranged_eq k (by omega), Option.bind_some]
  by_cases he : Rng e
  · rw [dt he]
    obtain ⟨c', e', h1, h2, h3⟩ := tell_ok k hk hc he
    rw [of_eq k hc]
    simp only [Bool.not_true, cond_false, Option.bind_some]
    rw [h1, Option.bind_some]
    simp only
    rw [ranged_eq k (by omega), Option.bind_some]
    by_cases hf : Rng f
    · rw [if_pos ⟨he, hf⟩, dt hf]
      obtain ⟨d', f', h4, h5, h6⟩ := tell_ok k hk hd hf
      rw [of_eq k hd]
      simp only [Bool.not_true, cond_false, Option.bind_some]
      rw [h4]
      exact ⟨c', e', d', f', rfl, h2, h3, h5, h6⟩
    · rw [if_neg (fun h => hf h.2), df hf]
      exact ⟨_, rfl⟩
  · rw [if_neg (fun h => he h.1), df he]
    exact ⟨_, rfl⟩
/-- Two numbers with one exponent. -/
structure Even (c e d f : Int) (X Y : Nat) (g : Int) : Prop where
  hx : X < UU
  hy : Y < UU
  hg : Rng g
  vx : val (sgn (decide (c < 0)) X) g = val c e
  vy : val (sgn (decide (d < 0)) Y) g = val d f
  last : (X < 18446744073709551616 ∧ Y < 18446744073709551616) ∨ (X % 10 = 0 ∧ Y % 10 ≠ 0) ∨ (X % 10 ≠ 0 ∧ Y % 10 = 0)
/-- No right Dec is a number so great with a last digit. -/
theorem none_big {m g : Int} (hd : ¬ (10 : Int) ∣ m) (hm : 18446744073709551616 ≤ m.natAbs) (hg : Rng g) : ∀ c x, Canon c x → ¬ val c x = val m g := by
  intro c x hc e
  unfold Rng at hg
  obtain ⟨h1, h2, h3, h4, h5⟩ := (canon_iff (by omega) hd (by omega)).1 ⟨hc, e⟩
  rw [if_neg (by omega)] at h1
  subst h1
  simp at h2
  omega
theorem lastd {c x : Int} (h : Canon c x) (h0 : c ≠ 0) (hx : x < 18) : ¬ (10 : Int) ∣ c := by
  rcases h with ⟨h1, _⟩ | ⟨_, _, _, _, _, h1 | h1⟩
  · exact absurd h1 h0
  · omega
  · exact h1
theorem abs_dvd {c : Int} : c.natAbs % 10 = 0 ↔ (10 : Int) ∣ c := by omega
theorem even (k : Nat) (hk : 60 ≤ k) {c e d f : Int} (hc : Canon c e) (hd : Canon d f) :
    (∃ X Y g, g_dec_even k c e d f = some (true, wh X, wl X, g, wh Y, wl Y, g) ∧ Even c e d f X Y g) ∨
    (∃ r, g_dec_even k c e d f = some (false, r) ∧ e ≠ f ∧ c ≠ 0 ∧ d ≠ 0 ∧ (f < e → UU ≤ c.natAbs * 10 ^ (e - f).toNat) ∧ (e < f → UU ≤ d.natAbs * 10 ^ (f - e).toNat) ∧ ∀ s : Int, (s = 1 ∨ s = -1) → ∀ c' x', Canon c' x' → ¬ val c' x' = val c e + s * val d f) := by
  unfold g_dec_even
  have ac := abs_lt hc.i64
  have ad := abs_lt hd.i64
  have re := hc.rg
  have rf := hd.rg
  have re' := hc.rng
  have rf' := hd.rng
  rw [of_eq k hc.i64, of_eq k hd.i64]
  simp only [Option.bind_some, wide_zero, bd]
  have vc : val (sgn (decide (c < 0)) c.natAbs) e = val c e := by rw [sgn_self]
  have vd : val (sgn (decide (d < 0)) d.natAbs) f = val d f := by rw [sgn_self]
  have small : ∀ {n : Nat}, n < 18446744073709551616 → n < UU := fun h => by unfold UU; omega
  by_cases h0 : c = 0
  · rw [if_pos ((wide_or_small ac).2 (by omega)), Option.bind_some]
    refine .inl ⟨c.natAbs, d.natAbs, f, ?_, ⟨small ac, small ad, rf, ?_, vd, .inl ⟨ac, ad⟩⟩⟩
    · rw [wh_small ac, wl_small ac, wh_small ad, wl_small ad]
    · rw [h0]; simp [sgn, val_zero]
  · rw [if_neg (fun h => h0 (by have := (wide_or_small ac).1 h; omega))]
    by_cases h1 : d = 0
    · rw [if_pos ((wide_or_small ad).2 (by omega)), Option.bind_some]
      refine .inl ⟨c.natAbs, d.natAbs, e, ?_, ⟨small ac, small ad, re, vc, ?_, .inl ⟨ac, ad⟩⟩⟩
      · rw [wh_small ac, wl_small ac, wh_small ad, wl_small ad]
      · rw [h1]; simp [sgn, val_zero]
    · rw [if_neg (fun h => h1 (by have := (wide_or_small ad).1 h; omega))]
      by_cases h2 : f < e
      · rw [if_pos h2, wi (by omega) (by omega)]
        obtain ⟨m, hm⟩ : ∃ m : Nat, e - f = (m : Int) := ⟨(e - f).toNat, by omega⟩
        obtain ⟨b, x, y, t1, t2, t3⟩ := wide_tens k (v := c.natAbs) (m := m) (small ac) (by omega) (by omega)
        rw [wh_small ac, wl_small ac] at t1
        rw [hm, t1]
        simp only [Option.bind_some]
        have vx : val (sgn (decide (c < 0)) (c.natAbs * 10 ^ m)) f = val c e := by
          rw [sgn_mul, sgn_self, show ((10 ^ m : Nat) : Int) = (10 : Int) ^ m by simp, val_shift (by omega), show f + (m : Int) = e by omega]
        have hdd : ¬ (10 : Int) ∣ d := lastd hd h1 (by omega)
        have hdd' : d.natAbs % 10 ≠ 0 := fun h => hdd (abs_dvd.1 h)
        have h10 : (c.natAbs * 10 ^ m) % 10 = 0 := by
          obtain ⟨m', rfl⟩ : ∃ m', m = m' + 1 := ⟨m - 1, by omega⟩
          rw [Nat.pow_succ, ← Nat.mul_assoc, Nat.mul_mod_left]
        cases b with
        | true =>
          obtain ⟨u1, u2, u3⟩ := t2 rfl
          refine .inl ⟨c.natAbs * 10 ^ m, d.natAbs, f, ?_, ⟨u1, small ad, rf, vx, vd, .inr (.inl ⟨h10, hdd'⟩)⟩⟩
          rw [u2, u3, wh_small ad, wl_small ad]
        | false =>
          have hbig := t3 rfl
          refine .inr ⟨_, rfl, by omega, h0, h1, fun _ => by first | exact hbig | (rw [hm]; exact hbig), fun h => by omega, ?_⟩
          intro s hs c' x' hcx he
          rw [← vx, ← vd, sgn_self] at he
          have e2 : val (sgn (decide (c < 0)) (c.natAbs * 10 ^ m)) f + s * val d f = val (sgn (decide (c < 0)) (c.natAbs * 10 ^ m) + s * d) f := by
            rw [val_add]; unfold val; rw [Int.mul_assoc]
          rw [e2] at he
          have hX := @sgn_abs (decide (c < 0)) (c.natAbs * 10 ^ m)
          have hX10 := (@sgn_dvd (decide (c < 0)) (c.natAbs * 10 ^ m)).2 h10
          generalize sgn (decide (c < 0)) (c.natAbs * 10 ^ m) = w at *
          unfold UU at hbig
          refine none_big (m := w + s * d) ?_ ?_ rf _ _ hcx he
          · rcases hs with rfl | rfl <;> omega
          · rcases hs with rfl | rfl <;> omega
      · rw [if_neg h2]
        by_cases h3 : e < f
        · rw [if_pos h3, wi (by omega) (by omega)]
          obtain ⟨m, hm⟩ : ∃ m : Nat, f - e = (m : Int) := ⟨(f - e).toNat, by omega⟩
          obtain ⟨b, x, y, t1, t2, t3⟩ := wide_tens k (v := d.natAbs) (m := m) (small ad) (by omega) (by omega)
          rw [wh_small ad, wl_small ad] at t1
          rw [hm, t1]
          simp only [Option.bind_some]
          have vy : val (sgn (decide (d < 0)) (d.natAbs * 10 ^ m)) e = val d f := by
            rw [sgn_mul, sgn_self, show ((10 ^ m : Nat) : Int) = (10 : Int) ^ m by simp, val_shift (by omega), show e + (m : Int) = f by omega]
          have hcc : ¬ (10 : Int) ∣ c := lastd hc h0 (by omega)
          have hcc' : c.natAbs % 10 ≠ 0 := fun h => hcc (abs_dvd.1 h)
          have h10 : (d.natAbs * 10 ^ m) % 10 = 0 := by
            obtain ⟨m', rfl⟩ : ∃ m', m = m' + 1 := ⟨m - 1, by omega⟩
            rw [Nat.pow_succ, ← Nat.mul_assoc, Nat.mul_mod_left]
          cases b with
          | true =>
            obtain ⟨u1, u2, u3⟩ := t2 rfl
            refine .inl ⟨c.natAbs, d.natAbs * 10 ^ m, e, ?_, ⟨small ac, u1, re, vc, vy, .inr (.inr ⟨hcc', h10⟩)⟩⟩
            rw [u2, u3, wh_small ac, wl_small ac]
          | false =>
            have hbig := t3 rfl
            refine .inr ⟨_, rfl, by omega, h0, h1, fun h => by omega, fun _ => by first | exact hbig | (rw [hm]; exact hbig), ?_⟩
            intro s hs c' x' hcx he
            rw [← vy, ← vc, sgn_self] at he
            have e2 : val c e + s * val (sgn (decide (d < 0)) (d.natAbs * 10 ^ m)) e = val (c + s * sgn (decide (d < 0)) (d.natAbs * 10 ^ m)) e := by
              rw [val_add]; unfold val; rw [Int.mul_assoc]
            rw [e2] at he
            have hX := @sgn_abs (decide (d < 0)) (d.natAbs * 10 ^ m)
            have hX10 := (@sgn_dvd (decide (d < 0)) (d.natAbs * 10 ^ m)).2 h10
            generalize sgn (decide (d < 0)) (d.natAbs * 10 ^ m) = w at *
            unfold UU at hbig
            refine none_big (m := c + s * w) ?_ ?_ re _ _ hcx he
            · rcases hs with rfl | rfl <;> omega
            · rcases hs with rfl | rfl <;> omega
        · rw [if_neg h3, Option.bind_some]
          have hef : e = f := by omega
          subst hef
          exact .inl ⟨c.natAbs, d.natAbs, e, by rw [wh_small ac, wl_small ac, wh_small ad, wl_small ad], ⟨small ac, small ad, re, vc, vd, .inl ⟨ac, ad⟩⟩⟩
end Go.Proofs.YthpcgknknpjpdaaGreatDoor.W
namespace Go.Proofs.YthpcgknknpjpdaaGreatDoor.W
open Go Go.Q Go.Proofs Go.Dz
set_option linter.unusedVariables false
set_option linter.unusedSimpArgs false
theorem i64_I {c : Int} (h : (Lit.int .i64 c).wf = true) : I64 c := i64_wf h
end Go.Proofs.YthpcgknknpjpdaaGreatDoor.W
namespace Go.Proofs.YthpcgknknpjpdaaGreatDoor.W
open Go Go.Q Go.Proofs Go.Dz
set_option linter.unusedVariables false
set_option linter.unusedSimpArgs false
theorem val_abs {c e : Int} : (val c e).natAbs = c.natAbs * 10 ^ (e + 500000).toNat := by unfold val; rw [Int.natAbs_mul, Int.natAbs_pow]; rfl
end Go.Proofs.YthpcgknknpjpdaaGreatDoor.W
namespace Go.Proofs.YthpcgknknpjpdaaGreatDoor.W
open Go Go.Q Go.Proofs Go.Dz
set_option linter.unusedVariables false
set_option linter.unusedSimpArgs false
def cmpI (A B : Int) : Int := if A = B then 0 else if A < B then -1 else 1
theorem cmpI_swap {A B : Int} : cmpI B A = 0 - cmpI A B := by
  unfold cmpI
  by_cases h : A = B
  · rw [if_pos h, if_pos h.symm]; rfl
  · rw [if_neg h, if_neg (Ne.symm h)]
    by_cases h2 : A < B
    · rw [if_pos h2, if_neg (by omega)]; rfl
    · rw [if_neg h2, if_pos (by omega)]; rfl
theorem cmpI_self {A : Int} : cmpI A A = 0 := by unfold cmpI; rw [if_pos rfl]
theorem cmpI_rng {A B : Int} : -1 ≤ cmpI A B ∧ cmpI A B ≤ 1 := by
  unfold cmpI; split
  · omega
  · split <;> omega
theorem cmpI_le {A B : Int} : cmpI A B ≤ 0 ↔ A ≤ B := by
  unfold cmpI
  by_cases h : A = B
  · rw [if_pos h]; omega
  · rw [if_neg h]; by_cases h2 : A < B
    · rw [if_pos h2]; omega
    · rw [if_neg h2]; omega
theorem cmpI_lt {A B : Int} : cmpI A B < 0 ↔ A < B := by
  unfold cmpI
  by_cases h : A = B
  · rw [if_pos h]; omega
  · rw [if_neg h]; by_cases h2 : A < B
    · rw [if_pos h2]; omega
    · rw [if_neg h2]; omega
theorem cmpI_zero {A B : Int} : cmpI A B = 0 ↔ A = B := by
  unfold cmpI
  by_cases h : A = B
  · rw [if_pos h]; simp [h]
  · rw [if_neg h]; by_cases h2 : A < B
    · rw [if_pos h2]; omega
    · rw [if_neg h2]; omega
theorem digits_l0 (k : Nat) : ∀ (m n v c : Nat), (digs v).length = m → m < n → c + m ≤ 1000 → v < 18446744073709551616 → g_dec_digits_l0 k n (v : Int) (c : Int) = some ((c + m : Nat) : Int) := by
  intro m
  induction m with
  | zero =>
    intro n v c hl hn hc hv
    obtain ⟨n, rfl⟩ : ∃ n', n = n' + 1 := ⟨n - 1, by omega⟩
    have : v = 0 := digs_len0.1 hl
    subst this
    rw [g_dec_digits_l0.eq_2, df (by omega)]; rfl
  | succ m ih =>
    intro n v c hl hn hc hv
    obtain ⟨n, rfl⟩ : ∃ n', n = n' + 1 := ⟨n - 1, by omega⟩
    have h0 : v ≠ 0 := by intro h; rw [h, digs_zero] at hl; simp at hl
    rw [digs_pos h0, List.length_cons] at hl
    rw [g_dec_digits_l0.eq_2, dt (by omega), bt, show (10 : Int) = ((10 : Nat) : Int) from rfl, td, wUl (by omega), wi (by omega) (by omega), show ((c : Int) + 1) = ((c + 1 : Nat) : Int) by omega]
    rw [ih n (v / 10) (c + 1) (by omega) (by omega) (by omega) (by omega)]
    congr 2
    omega
theorem digits (k : Nat) (hk : 100 ≤ k) {v : Nat} (hv : v < 18446744073709551616) : g_dec_digits k (v : Int) = some (((digs v).length : Nat) : Int) := by
  unfold g_dec_digits
  have hl : (digs v).length ≤ 20 := digs_len_le (by omega)
  have := digits_l0 k (digs v).length k v 0 rfl (by omega) (by omega) hv
  rw [show ((0 : Nat) : Int) = 0 from rfl, Nat.zero_add] at this
  rw [this]; rfl
theorem sign_eq (k : Nat) {c e : Int} : g_dec_sign k c e = some (cmpI c 0) := by
  unfold g_dec_sign cmpI
  simp only [bd]
  by_cases h : c < 0
  · rw [if_pos h, if_neg (by omega), if_pos h]
  · rw [if_neg h]
    by_cases h2 : 0 < c
    · rw [if_pos h2, if_neg (by omega), if_neg h]
    · rw [if_neg h2, if_pos (by omega)]
theorem cmp_val {c d g : Int} : cmpI (val c g) (val d g) = cmpI c d := by
  unfold cmpI
  by_cases h : c = d
  · rw [if_pos h, if_pos (by rw [h])]
  · rw [if_neg h, if_neg (fun k => h (val_inj k))]
    by_cases h2 : c < d
    · rw [if_pos h2, if_pos (val_lt.2 h2)]
    · rw [if_neg h2, if_neg (fun k => h2 (val_lt.1 k))]
theorem val_sign {c e : Int} : cmpI (val c e) 0 = cmpI c 0 := by
  have := @cmp_val c 0 e
  rwa [val_zero] at this
theorem clamp {x : Int} (h : -1000000 ≤ x ∧ x ≤ 1000000) : (if (1 : Int) < (if (-1 : Int) > x then (-1 : Int) else x) then (1 : Int) else (if (-1 : Int) > x then (-1 : Int) else x)) = cmpI x 0 := by
  unfold cmpI
  by_cases h2 : (-1 : Int) > x
  · simp only [if_pos h2]
    rw [if_neg (by omega), if_neg (by omega), if_pos (by omega)]
  · simp only [if_neg h2]
    by_cases h3 : (1 : Int) < x
    · rw [if_pos h3, if_neg (by omega), if_neg (by omega)]
    · rw [if_neg h3]
      by_cases h4 : x = 0
      · rw [if_pos h4]; exact h4
      · rw [if_neg h4]
        by_cases h5 : x < 0
        · rw [if_pos h5]; omega
        · rw [if_neg h5]; omega
/-- The order of numbers of one sign, by their sizes. -/
theorem cmp_size {A B : Int} {s : Int} (hA : cmpI A 0 = s) (hB : cmpI B 0 = s) (h0 : s ≠ 0) : cmpI A B = s * cmpI A.natAbs B.natAbs := by
  have a1 := @cmpI_lt A 0
  have b1 := @cmpI_lt B 0
  have a0 := @cmpI_zero A 0
  have b0 := @cmpI_zero B 0
  have ar := @cmpI_rng A 0
  have e1 := @cmpI_lt A B
  have e0 := @cmpI_zero A B
  have er := @cmpI_rng A B
  have f1 := @cmpI_lt (A.natAbs : Int) (B.natAbs : Int)
  have f0 := @cmpI_zero (A.natAbs : Int) (B.natAbs : Int)
  have fr := @cmpI_rng (A.natAbs : Int) (B.natAbs : Int)
  generalize cmpI A 0 = p at *
  generalize cmpI B 0 = q at *
  generalize cmpI A B = r at *
  generalize cmpI (A.natAbs : Int) (B.natAbs : Int) = t at *
  rcases (by omega : s = 1 ∨ s = -1) with h | h
  · rw [h, Int.one_mul]; omega
  · rw [h]; omega
theorem cmpN_I {a b : Nat} : cmpN a b = cmpI (a : Int) (b : Int) := by
  unfold cmpN cmpI
  by_cases h : a = b
  · rw [if_pos h, if_pos (show (a : Int) = b by omega)]
  · rw [if_neg h, if_neg (show ¬ (a : Int) = b by omega)]
    by_cases h2 : a < b
    · rw [if_pos h2, if_pos (show (a : Int) < b by omega)]
    · rw [if_neg h2, if_neg (show ¬ (a : Int) < b by omega)]
theorem size_gt {c e d f : Int} (hc : c ≠ 0) (he : -200000 ≤ e) (hf : -200000 ≤ f) (h : ((digs d.natAbs).length : Int) + f < (digs c.natAbs).length + e) : (val d f).natAbs < (val c e).natAbs := by
  rw [val_abs, val_abs]
  have h1 := digs_ge (n := c.natAbs) (by omega)
  have h2 := digs_lt (n := d.natAbs)
  have hp := len_pos (n := c.natAbs) (by omega)
  have a1 : d.natAbs * 10 ^ (f + 500000).toNat < 10 ^ (digs d.natAbs).length * 10 ^ (f + 500000).toNat := Nat.mul_lt_mul_of_pos_right h2 (Nat.pow_pos (by decide))
  have a2 : 10 ^ ((digs c.natAbs).length - 1) * 10 ^ (e + 500000).toNat ≤ c.natAbs * 10 ^ (e + 500000).toNat := Nat.mul_le_mul_right _ h1
  rw [← Nat.pow_add] at a1 a2
  have a3 : 10 ^ ((digs d.natAbs).length + (f + 500000).toNat) ≤ 10 ^ ((digs c.natAbs).length - 1 + (e + 500000).toNat) := Nat.pow_le_pow_right (by decide) (by omega)
  exact Nat.lt_of_lt_of_le a1 (Nat.le_trans a3 a2)
theorem dec_Cmp (k : Nat) (hk : 100 ≤ k) {c e d f : Int} (hc : I64 c) (hd : I64 d) : g_dec_Cmp k c e d f = some (if Rng e ∧ Rng f then cmpI (val c e) (val d f) else 0) := by
  unfold g_dec_Cmp
  have hcl := clean k (by omega) (e := e) (f := f) hc hd
  by_cases hR : Rng e ∧ Rng f
  · rw [if_pos hR] at hcl ⊢
    obtain ⟨c', e', d', f', h1, h2, h3, h4, h5⟩ := hcl
    rw [h1, ← h3, ← h5]
    simp only [Option.bind_some, Bool.not_true, cond_false]
    rw [sign_eq, sign_eq]
    simp only [Option.bind_some]
    have r1 := @cmpI_rng c' 0
    have r2 := @cmpI_rng d' 0
    have re := h2.rng
    have rf := h4.rng
    have ac := abs_lt h2.i64
    have ad := abs_lt h4.i64
    have s1 := @val_sign c' e'
    have s2 := @val_sign d' f'
    have l1 := @cmpI_lt c' 0
    have l2 := @cmpI_lt d' 0
    have z1 := @cmpI_zero c' 0
    have z2 := @cmpI_zero d' 0
    by_cases hst : cmpI c' 0 = cmpI d' 0
    · rw [dt hst, Bool.not_true, bf, Option.bind_some]
      by_cases h0 : cmpI c' 0 = 0
      · rw [dt h0, bt, wi (by omega) (by omega), clamp (by omega)]
        congr 1
        have : c' = 0 := z1.1 h0
        have hd0 : d' = 0 := z2.1 (by omega)
        rw [this, hd0, val_zero, val_zero, cmpI_self]; rfl
      · rw [df h0, bf, size_eq k h2.i64, size_eq k h4.i64]
        simp only [Option.bind_some]
        rw [digits k hk ac, digits k hk ad]
        simp only [Option.bind_some]
        have n1 : (digs c'.natAbs).length ≤ 20 := digs_len_le (by omega)
        have n2 : (digs d'.natAbs).length ≤ 20 := digs_len_le (by omega)
        rw [wi (n := (((digs c'.natAbs).length : Nat) : Int) + e') (by omega) (by omega), wi (n := (((digs d'.natAbs).length : Nat) : Int) + f') (by omega) (by omega)]
        have hc0 : c' ≠ 0 := fun h => h0 (z1.2 h)
        have hd0 : d' ≠ 0 := fun h => h0 (by rw [hst]; exact z2.2 h)
        have hcs := cmp_size (A := val c' e') (B := val d' f') s1 (by rw [s2, ← hst]) h0
        rw [hcs]
        by_cases hpq : (((digs c'.natAbs).length : Nat) : Int) + e' = (((digs d'.natAbs).length : Nat) : Int) + f'
        · rw [dt hpq, Bool.not_true, bf]
          rcases even k (by omega) h2 h4 with ⟨X, Y, g, g1, g2⟩ | ⟨r, g1, hne, _, _, b1, b2, _⟩
          · rw [g1]
            simp only [Option.bind_some]
            rw [wide_cmp k g2.hx g2.hy, Option.bind_some]
            have hr : -1 ≤ cmpN X Y ∧ cmpN X Y ≤ 1 := by rw [cmpN_I]; exact cmpI_rng
            have hsz : cmpI ((val c' e').natAbs : Int) ((val d' f').natAbs : Int) = cmpN X Y := by
              rw [← g2.vx, ← g2.vy, val_abs, val_abs, sgn_abs, sgn_abs, cmpN_I]
              have := @cmp_val (X : Int) (Y : Int) g
              unfold val at this
              rw [← this]
              simp
            rw [hsz]
            generalize cmpN X Y = t at *
            generalize cmpI c' 0 = s at *
            congr 1
            rw [wi]
            · rcases (by omega : s = -1 ∨ s = 0 ∨ s = 1) with rfl | rfl | rfl <;> omega
            · rcases (by omega : s = -1 ∨ s = 0 ∨ s = 1) with rfl | rfl | rfl <;> omega
          · exfalso
            have h1' := digs_lt (n := c'.natAbs)
            have h2' := digs_lt (n := d'.natAbs)
            have p20 : (10 : Nat) ^ 20 = 100000000000000000000 := by decide
            rcases (by omega : f' < e' ∨ e' < f') with hlt | hlt
            · have b := b1 hlt
              have : c'.natAbs * 10 ^ (e' - f').toNat < 10 ^ (digs c'.natAbs).length * 10 ^ (e' - f').toNat := Nat.mul_lt_mul_of_pos_right h1' (Nat.pow_pos (by decide))
              rw [← Nat.pow_add] at this
              have h3' : 10 ^ ((digs c'.natAbs).length + (e' - f').toNat) ≤ 10 ^ 20 := Nat.pow_le_pow_right (by decide) (by omega)
              unfold UU at b
              omega
            · have b := b2 hlt
              have : d'.natAbs * 10 ^ (f' - e').toNat < 10 ^ (digs d'.natAbs).length * 10 ^ (f' - e').toNat := Nat.mul_lt_mul_of_pos_right h2' (Nat.pow_pos (by decide))
              rw [← Nat.pow_add] at this
              have h3' : 10 ^ ((digs d'.natAbs).length + (f' - e').toNat) ≤ 10 ^ 20 := Nat.pow_le_pow_right (by decide) (by omega)
              unfold UU at b
              omega
        · rw [df hpq, Bool.not_false, bt, wi (n := (((digs c'.natAbs).length : Nat) : Int) + e' - ((((digs d'.natAbs).length : Nat) : Int) + f')) (by omega) (by omega), clamp (by omega)]
          congr 1
          have hsz : cmpI ((val c' e').natAbs : Int) ((val d' f').natAbs : Int) = cmpI ((((digs c'.natAbs).length : Nat) : Int) + e' - ((((digs d'.natAbs).length : Nat) : Int) + f')) 0 := by
            by_cases hgt : (((digs d'.natAbs).length : Nat) : Int) + f' < (((digs c'.natAbs).length : Nat) : Int) + e'
            · have := size_gt hc0 (by omega) (by omega) hgt
              have x1 := @cmpI_le ((val c' e').natAbs : Int) ((val d' f').natAbs : Int)
              have x2 := @cmpI_rng ((val c' e').natAbs : Int) ((val d' f').natAbs : Int)
              have y1 := @cmpI_le ((((digs c'.natAbs).length : Nat) : Int) + e' - ((((digs d'.natAbs).length : Nat) : Int) + f')) 0
              have y2 := @cmpI_rng ((((digs c'.natAbs).length : Nat) : Int) + e' - ((((digs d'.natAbs).length : Nat) : Int) + f')) 0
              omega
            · have := size_gt (c := d') (e := f') (d := c') (f := e') hd0 (by omega) (by omega) (by omega)
              have x1 := @cmpI_lt ((val c' e').natAbs : Int) ((val d' f').natAbs : Int)
              have x2 := @cmpI_rng ((val c' e').natAbs : Int) ((val d' f').natAbs : Int)
              have y1 := @cmpI_lt ((((digs c'.natAbs).length : Nat) : Int) + e' - ((((digs d'.natAbs).length : Nat) : Int) + f')) 0
              have y2 := @cmpI_rng ((((digs c'.natAbs).length : Nat) : Int) + e' - ((((digs d'.natAbs).length : Nat) : Int) + f')) 0
              omega
          rw [hsz]
          have hr := @cmpI_rng ((((digs c'.natAbs).length : Nat) : Int) + e' - ((((digs d'.natAbs).length : Nat) : Int) + f')) 0
          generalize cmpI ((((digs c'.natAbs).length : Nat) : Int) + e' - ((((digs d'.natAbs).length : Nat) : Int) + f')) 0 = t at *
          generalize cmpI c' 0 = s at *
          rw [wi]
          · rcases (by omega : s = -1 ∨ s = 0 ∨ s = 1) with rfl | rfl | rfl <;> omega
          · rcases (by omega : s = -1 ∨ s = 0 ∨ s = 1) with rfl | rfl | rfl <;> omega
    · rw [df hst, Bool.not_false, bt, Option.bind_some, bt, wi (by omega) (by omega), clamp (by omega)]
      congr 1
      have v1 := @cmpI_lt (val c' e') 0
      have v2 := @cmpI_lt (val d' f') 0
      have v3 := @cmpI_zero (val c' e') 0
      have v4 := @cmpI_zero (val d' f') 0
      rw [s1] at v1 v3
      rw [s2] at v2 v4
      have w1 := @cmpI_lt (cmpI c' 0 - cmpI d' 0) 0
      have w2 := @cmpI_zero (cmpI c' 0 - cmpI d' 0) 0
      have w3 := @cmpI_rng (cmpI c' 0 - cmpI d' 0) 0
      have u1 := @cmpI_lt (val c' e') (val d' f')
      have u2 := @cmpI_zero (val c' e') (val d' f')
      have u3 := @cmpI_rng (val c' e') (val d' f')
      omega
  · rw [if_neg hR] at hcl ⊢
    obtain ⟨r, h1⟩ := hcl
    rw [h1]
    rfl
end Go.Proofs.YthpcgknknpjpdaaGreatDoor.W
namespace Go.Proofs.YthpcgknknpjpdaaGreatDoor.W
open Go Go.Q Go.Proofs Go.Dz
set_option linter.unusedVariables false
set_option linter.unusedSimpArgs false
theorem dec_Right (k : Nat) (hk : 60 ≤ k) {c e : Int} (hc : Canon c e) : g_dec_Right k c e = some true := by
  unfold g_dec_Right
  obtain ⟨c', e', h1, h2, h3⟩ := tell_ok k hk hc.i64 hc.rg
  obtain ⟨rfl, rfl⟩ := h2.uniq hc h3
  rw [of_eq k hc.i64, Option.bind_some, h1, Option.bind_some]
  simp only
  rw [ranged_eq k (by omega), dt hc.rg, Option.bind_some, bt]
  simp
end Go.Proofs.YthpcgknknpjpdaaGreatDoor.W
namespace Go.Proofs.YthpcgknknpjpdaaGreatDoor.W
open Go Go.Q Go.Proofs
set_option linter.unusedVariables false
set_option linter.unusedSimpArgs false
def chru (c : Nat) : Prop := c ≤ 1114111 ∧ ¬ (55296 ≤ c ∧ c ≤ 57343)
instance (c : Nat) : Decidable (chru c) := by unfold chru; infer_instance
theorem toN {n : Nat} (h : n < 256) : (UInt8.ofNat n).toNat = n := by
  rw [UInt8.toNat_ofNat']; omega
theorem wu8 {n : Int} (h0 : 0 ≤ n) (h1 : n < 256) : IntKind.wrap .u8 n = n := by
  unfold IntKind.wrap; simp [IntKind.signed, IntKind.bits]; omega
end Go.Proofs.YthpcgknknpjpdaaGreatDoor.W
namespace Go.Proofs.YthpcgknknpjpdaaGreatDoor.W
open Go Go.Q Go.Proofs
set_option linter.unusedVariables false
set_option linter.unusedSimpArgs false
instance (l : List UInt8) (c w : Nat) : Decidable (okL l c w) := by unfold okL; infer_instance
end Go.Proofs.YthpcgknknpjpdaaGreatDoor.W
namespace Go.Proofs.YthpcgknknpjpdaaGreatDoor.W
open Go Go.Q Go.Proofs
set_option linter.unusedVariables false
set_option linter.unusedSimpArgs false
/-- The places at which characters begin: what is left there. -/
def sufs (l : List UInt8) : List (List UInt8) := if h : 0 < l.length then l :: sufs (l.drop (decL l).2) else []
termination_by l.length
decreasing_by
  have := decL_w h
  rw [List.length_drop]
  omega
theorem sufs_nil : sufs [] = [] := by rw [sufs]; rfl
theorem sufs_cons {l : List UInt8} (h : 0 < l.length) : sufs l = l :: sufs (l.drop (decL l).2) := by rw [sufs, dif_pos h]
def validL (l : List UInt8) : Bool := (sufs l).all isL
theorem validL_nil : validL [] = true := by rw [validL, sufs_nil]; rfl
theorem validL_cons {l : List UInt8} (h : 0 < l.length) : validL l = (isL l && validL (l.drop (decL l).2)) := by rw [validL, sufs_cons h]; rfl
theorem nil_of_len {l : List UInt8} (h : ¬ 0 < l.length) : l = [] := by
  cases l with
  | nil => rfl
  | cons a t => simp at h
theorem dec1 {l : List UInt8} (h : 0 < l.length) (hb : byt l 0 < 128) : decL l = (byt l 0, 1) := decL_of (.inl ⟨rfl, h, rfl, hb⟩)
theorem isL_of {l : List UInt8} {c w : Nat} (h : okL l c w) : isL l = true := by
  have h0 : 0 < l.length := by have := okL_w h; omega
  rw [isL_iff h0, decL_of h]; exact h
theorem valid_skip {l : List UInt8} : ∀ (m : Nat), m ≤ l.length → (∀ i, i < m → byt l i < 128) → validL (l.drop m) = validL l := by
  intro m
  induction m with
  | zero => intro _ _; rfl
  | succ m ih =>
    intro h1 h2
    have hl : 0 < (l.drop m).length := by rw [List.length_drop]; omega
    have hb : byt (l.drop m) 0 < 128 := by rw [byt_drop]; exact h2 (m + 0) (by omega)
    rw [← ih (by omega) (fun i hi => h2 i (by omega)), validL_cons hl, dec1 hl hb, isL_of (.inl ⟨rfl, hl, rfl, hb⟩), Bool.true_and, List.drop_drop]
theorem L_drop {s : ByteArray} {i : Nat} : L (s.extract i (Int.toNat ((ByteArray.size s : Nat) : Int))) = (L s).drop i := by
  rw [L_extract, Int.toNat_natCast, L_size, ← List.length_drop, List.take_length]
theorem sizeL {s : ByteArray} : ((ByteArray.size s : Nat) : Int) = ((L s).length : Int) := by rw [L_size]
def bv (l : List UInt8) (i : Nat) : BitVec 8 := (l.getD i 0).toBitVec
theorem bv_byt (l : List UInt8) (i : Nat) : (byt l i : Int) = ((bv l i).toNat : Int) := rfl
/-- Eight bytes as one number. -/
def wd (l : List UInt8) : BitVec 64 :=
  (((((bv l 0).setWidth 64 ||| ((bv l 1).setWidth 64 <<< 8)) ||| ((bv l 2).setWidth 64 <<< 16)) ||| ((bv l 3).setWidth 64 <<< 24)) ||| ((bv l 4).setWidth 64 <<< 32) ||| ((bv l 5).setWidth 64 <<< 40)) ||| ((bv l 6).setWidth 64 <<< 48) ||| ((bv l 7).setWidth 64 <<< 56)
theorem word_eq {k : Nat} {s : ByteArray} (h : 8 ≤ (L s).length) : g_u8_word_string k s = some ((wd (L s)).toNat : Int) := by
  unfold g_u8_word_string wd
  have hi : ∀ i : Nat, i < 8 → ix (strInts s) (i : Int) = some ((bv (L s) i).toNat : Int) := fun i hi => by rw [strInts_L, ix_I (by omega), bv_byt]
  rw [show ix (strInts s) 0 = _ from hi 0 (by omega), show ix (strInts s) 1 = _ from hi 1 (by omega), show ix (strInts s) 2 = _ from hi 2 (by omega), show ix (strInts s) 3 = _ from hi 3 (by omega),
    show ix (strInts s) 4 = _ from hi 4 (by omega), show ix (strInts s) 5 = _ from hi 5 (by omega), show ix (strInts s) 6 = _ from hi 6 (by omega), show ix (strInts s) 7 = _ from hi 7 (by omega)]
  simp only [Option.bind_some, u64_of_u8, u64_shl, u64_or]
  rfl
theorem bit7 {b : BitVec 8} (h : b.getLsbD 7 = false) : b.toNat < 128 := by
  have h1 := b.isLt
  rw [BitVec.getLsbD, Nat.testBit_eq_decide_div_mod_eq] at h
  simp at h
  omega
theorem wd_asc {l : List UInt8} (h : wd l &&& 0x8080808080808080#64 = 0#64) : ∀ i, i < 8 → byt l i < 128 := by
  have key : ∀ i, i < 8 → (bv l i).getLsbD 7 = false := by
    intro i hi
    have g := congrArg (fun x : BitVec 64 => x.getLsbD (8 * i + 7)) h
    obtain rfl | rfl | rfl | rfl | rfl | rfl | rfl | rfl : i = 0 ∨ i = 1 ∨ i = 2 ∨ i = 3 ∨ i = 4 ∨ i = 5 ∨ i = 6 ∨ i = 7 := by omega
    all_goals (unfold wd at g; simp [BitVec.getLsbD_or, BitVec.getLsbD_and, BitVec.getLsbD_shiftLeft, BitVec.getLsbD_setWidth] at g; simpa using g)
  intro i hi
  exact bit7 (key i hi)
theorem and_mask (a : BitVec 64) : bits .and .u64 (a.toNat : Int) 9259542123273814144 = ((a &&& 0x8080808080808080#64).toNat : Int) := by
  have := u64_and a 0x8080808080808080#64
  exact this
theorem mask0 {a : BitVec 64} (h : ((a &&& 0x8080808080808080#64).toNat : Int) = 0) : a &&& 0x8080808080808080#64 = 0#64 := by
  apply BitVec.eq_of_toNat_eq
  rw [BitVec.toNat_zero]
  omega
theorem mask_or {a b : BitVec 64} (h : (a ||| b) &&& 0x8080808080808080#64 = 0#64) : a &&& 0x8080808080808080#64 = 0#64 ∧ b &&& 0x8080808080808080#64 = 0#64 := by
  have key : ∀ i, (hi : i < 64) → ((a &&& 0x8080808080808080#64)[i] = false ∧ (b &&& 0x8080808080808080#64)[i] = false) := by
    intro i hi
    have g := congrArg (fun x : BitVec 64 => x[i]) h
    simp only [BitVec.getElem_and, BitVec.getElem_or, BitVec.getElem_zero] at g ⊢
    revert g
    cases a[i] <;> cases b[i] <;> cases (0x8080808080808080#64)[i] <;> simp
  constructor
  · apply BitVec.eq_of_getElem_eq
    intro i hi
    rw [(key i hi).1, BitVec.getElem_zero]
  · apply BitVec.eq_of_getElem_eq
    intro i hi
    rw [(key i hi).2, BitVec.getElem_zero]
theorem asc_drop {l : List UInt8} {p m : Nat} (h : ∀ i, i < m → byt (l.drop p) i < 128) : ∀ i, p ≤ i → i < p + m → byt l i < 128 := by
  intro i h1 h2
  have := h (i - p) (by omega)
  rwa [byt_drop, show p + (i - p) = i by omega] at this
theorem l1_valid {k : Nat} : ∀ (n : Nat) (s : ByteArray), (L s).length < n → Ret (g_u8_ValidString_l1 k n s) fun r => validL (L r) = validL (L s) ∧ (L r).length ≤ (L s).length := by
  intro n
  induction n with
  | zero => intro s h; omega
  | succ n ih =>
    intro s hn
    rw [g_u8_ValidString_l1.eq_2]
    simp only [Option.bind_some, sizeL]
    by_cases h32 : 32 < (L s).length
    · rw [dt (show (32 : Int) < ((L s).length : Int) by omega), dt (show 0 ≤ (8 : Int) ∧ (8 : Int) ≤ ((L s).length : Int) ∧ ((L s).length : Int) ≤ ((L s).length : Int) by omega), dt (show 0 ≤ (16 : Int) ∧ (16 : Int) ≤ ((L s).length : Int) ∧ ((L s).length : Int) ≤ ((L s).length : Int) by omega),
        dt (show 0 ≤ (24 : Int) ∧ (24 : Int) ≤ ((L s).length : Int) ∧ ((L s).length : Int) ≤ ((L s).length : Int) by omega), dt (show 0 ≤ (32 : Int) ∧ (32 : Int) ≤ ((L s).length : Int) ∧ ((L s).length : Int) ≤ ((L s).length : Int) by omega)]
      have hd : ∀ p : Nat, L (s.extract p (Int.toNat ((L s).length : Int))) = (L s).drop p := fun p => by rw [← sizeL, L_drop]
      have hw : ∀ p : Nat, p + 8 ≤ (L s).length → g_u8_word_string k (s.extract p (Int.toNat ((L s).length : Int))) = some ((wd ((L s).drop p)).toNat : Int) := fun p hp => by
        rw [word_eq (by rw [hd, List.length_drop]; omega), hd]
      simp only [bt]
      rw [word_eq (by omega), show g_u8_word_string k (s.extract (Int.toNat 8) (Int.toNat ((L s).length : Int))) = _ from hw 8 (by omega), show g_u8_word_string k (s.extract (Int.toNat 16) (Int.toNat ((L s).length : Int))) = _ from hw 16 (by omega), show g_u8_word_string k (s.extract (Int.toNat 24) (Int.toNat ((L s).length : Int))) = _ from hw 24 (by omega)]
      simp only [Option.bind_some, u64_or, and_mask]
      by_cases hz : ((((wd (L s) ||| wd ((L s).drop 8)) ||| (wd ((L s).drop 16) ||| wd ((L s).drop 24))) &&& 0x8080808080808080#64).toNat : Int) = 0
      · rw [dt hz]
        simp only [bt]
        obtain ⟨m1, m2⟩ := mask_or (mask0 hz)
        obtain ⟨m3, m4⟩ := mask_or m1
        obtain ⟨m5, m6⟩ := mask_or m2
        have a0 := wd_asc m3; have a1 := asc_drop (wd_asc m4); have a2 := asc_drop (wd_asc m5); have a3 := asc_drop (wd_asc m6)
        have hall : ∀ i, i < 32 → byt (L s) i < 128 := by
          intro i hi
          by_cases i1 : i < 8
          · exact a0 i i1
          · by_cases i2 : i < 16
            · exact a1 i (by omega) (by omega)
            · by_cases i3 : i < 24
              · exact a2 i (by omega) (by omega)
              · exact a3 i (by omega) (by omega)
        have hsk := valid_skip 32 (by omega) hall
        have h3 := hd 32
        refine Ret.mono (ih (s.extract (Int.toNat 32) (Int.toNat ((L s).length : Int))) ?_) ?_
        · show (L (s.extract 32 (Int.toNat ((L s).length : Int)))).length < n
          rw [h3, List.length_drop]; omega
        · rintro r ⟨r1, r2⟩
          have r1' : validL (L r) = validL (L (s.extract 32 (Int.toNat ((L s).length : Int)))) := r1
          have r2' : (L r).length ≤ (L (s.extract 32 (Int.toNat ((L s).length : Int)))).length := r2
          rw [h3] at r1' r2'
          rw [List.length_drop] at r2'
          exact ⟨r1'.trans hsk, by omega⟩
      · rw [df hz]
        exact Ret.pure ⟨rfl, Nat.le_refl _⟩
    · rw [df (show ¬ (32 : Int) < ((L s).length : Int) by omega)]
      exact Ret.pure ⟨rfl, Nat.le_refl _⟩
def szOf (b : Nat) : Int := IntKind.wrap .i64 (bits .and .u8 (List.getD tab0 b (0 : Int)) 7)
def ixOf (b : Nat) : Int := shrI .u8 (List.getD tab0 b (0 : Int)) 4
def tck (b : Nat) : Bool :=
  if b < 194 ∨ 244 < b then szOf b == 1 && (decide (0 ≤ ixOf b ∧ ixOf b < 16)) else if b < 224 then szOf b == 2 && ixOf b == 0 else if b = 224 then szOf b == 3 && ixOf b == 1 else if b = 237 then szOf b == 3 && ixOf b == 2
  else if b < 240 then szOf b == 3 && ixOf b == 0 else if b = 240 then szOf b == 4 && ixOf b == 3 else if b = 244 then szOf b == 4 && ixOf b == 4 else szOf b == 4 && ixOf b == 0
theorem tck_all : ((List.range 128).all fun i => tck (i + 128)) = true := by kernel_rfl
theorem tck_at {b : Nat} (h1 : 128 ≤ b) (h2 : b < 256) : tck b = true := by
  have := List.all_eq_true.1 tck_all (b - 128) (by simp; omega)
  rwa [show b - 128 + 128 = b by omega] at this
end Go.Proofs.YthpcgknknpjpdaaGreatDoor.W
namespace Go.Proofs.YthpcgknknpjpdaaGreatDoor.W
open Go Go.Q Go.Proofs
set_option linter.unusedVariables false
set_option linter.unusedSimpArgs false
theorem cutOk {a n : Int} (h0 : 0 ≤ a) (h1 : a ≤ n) : decide (0 ≤ a ∧ a ≤ n ∧ n ≤ n) = true := dt ⟨h0, h1, Int.le_refl n⟩
theorem hdL (s : ByteArray) (p : Nat) : L (s.extract p (Int.toNat ((L s).length : Int))) = (L s).drop p := by rw [← sizeL, L_drop]
/-- Behind a byte below 128. -/
theorem mid {k : Nat} (s : ByteArray) (hk : (L s).length < k) : Ret (((some (decide (8 < ((ByteArray.size s : Nat) : Int)))).bind fun x8401 => (bif x8401 then ((g_u8_word_string k s).bind fun x8404 => ((some (bits .and .u64 x8404 9259542123273814144)).bind fun x8405 => some (decide (x8405 = 0)))) else some false)).bind fun x8400 =>
    (bif x8400 then (bif (decide (0 ≤ (8 : Int) ∧ (8 : Int) ≤ ((ByteArray.size s : Nat) : Int) ∧ ((ByteArray.size s : Nat) : Int) ≤ ((ByteArray.size s : Nat) : Int))) then ((some (ByteArray.extract s (Int.toNat 8) (Int.toNat ((ByteArray.size s : Nat) : Int)))).bind fun x8409 => (((some (decide (16 < ((ByteArray.size x8409 : Nat) : Int)))).bind fun x8438 => (bif x8438 then (bif (decide (0 ≤ (8 : Int) ∧ (8 : Int) ≤ ((ByteArray.size x8409 : Nat) : Int) ∧ ((ByteArray.size x8409 : Nat) : Int) ≤ ((ByteArray.size x8409 : Nat) : Int))) then ((some (ByteArray.extract x8409 (Int.toNat 8) (Int.toNat ((ByteArray.size x8409 : Nat) : Int)))).bind fun x8441 => ((g_u8_word_string k x8409).bind fun x8443 => ((g_u8_word_string k x8441).bind fun x8445 => ((some (bits .and .u64 (bits .or .u64 x8443 x8445) 9259542123273814144)).bind fun x8446 => some (decide (x8446 = 0)))))) else none) else some false)).bind fun x8428 => (bif x8428 then (bif (decide (0 ≤ (16 : Int) ∧ (16 : Int) ≤ ((ByteArray.size x8409 : Nat) : Int) ∧ ((ByteArray.size x8409 : Nat) : Int) ≤ ((ByteArray.size x8409 : Nat) : Int))) then ((some (ByteArray.extract x8409 (Int.toNat 16) (Int.toNat ((ByteArray.size x8409 : Nat) : Int)))).bind fun x8450 => ((g_u8_ValidString_l1 k k x8450).bind fun x8756 => some x8756)) else none) else some x8409))) else none) else some s))
    fun r => validL (L r) = validL (L s) ∧ (L r).length ≤ (L s).length := by
  simp only [Option.bind_some, sizeL]
  by_cases h8 : 8 < (L s).length
  · rw [dt (show (8 : Int) < ((L s).length : Int) by omega)]
    simp only [bt]
    rw [word_eq (by omega)]
    simp only [Option.bind_some, and_mask]
    by_cases hz : ((wd (L s) &&& 0x8080808080808080#64).toNat : Int) = 0
    · rw [dt hz]
      simp only [bt]
      rw [cutOk (by omega) (by omega)]
      simp only [bt]
      have e8 : L (s.extract (Int.toNat 8) (Int.toNat ((L s).length : Int))) = (L s).drop 8 := hdL s 8
      have hs8 := valid_skip 8 (by omega) (wd_asc (mask0 hz))
      generalize s.extract (Int.toNat 8) (Int.toNat ((L s).length : Int)) = u at *
      have hul : (L u).length = (L s).length - 8 := by rw [e8, List.length_drop]
      rw [← e8] at hs8
      by_cases h16 : 16 < (L u).length
      · rw [dt (show (16 : Int) < ((L u).length : Int) by omega), cutOk (a := 8) (by omega) (by omega), cutOk (a := 16) (by omega) (by omega)]
        simp only [bt]
        have e9 : L (u.extract (Int.toNat 8) (Int.toNat ((L u).length : Int))) = (L u).drop 8 := hdL u 8
        rw [word_eq (by omega), word_eq (by rw [e9, List.length_drop]; omega), e9]
        simp only [Option.bind_some, u64_or, and_mask]
        by_cases hz2 : (((wd (L u) ||| wd ((L u).drop 8)) &&& 0x8080808080808080#64).toNat : Int) = 0
        · rw [dt hz2]
          simp only [bt]
          obtain ⟨m1, m2⟩ := mask_or (mask0 hz2)
          have a0 := wd_asc m1; have a1 := asc_drop (wd_asc m2)
          have hsk := valid_skip (l := L u) 16 (by omega) (fun i hi => by
            by_cases i1 : i < 8
            · exact a0 i i1
            · exact a1 i (by omega) (by omega))
          have e16 : L (u.extract (Int.toNat 16) (Int.toNat ((L u).length : Int))) = (L u).drop 16 := hdL u 16
          obtain ⟨r, h1, h2, h3⟩ := l1_valid (k := k) k (u.extract (Int.toNat 16) (Int.toNat ((L u).length : Int))) (by rw [e16, List.length_drop]; omega)
          rw [h1]
          refine Ret.pure ⟨?_, ?_⟩
          · rw [h2, e16, hsk, hs8]
          · rw [e16, List.length_drop] at h3; omega
        · rw [df hz2]
          exact Ret.pure ⟨hs8, by omega⟩
      · rw [df (show ¬ (16 : Int) < ((L u).length : Int) by omega)]
        exact Ret.pure ⟨hs8, by omega⟩
    · rw [df hz]
      exact Ret.pure ⟨rfl, Nat.le_refl _⟩
  · rw [df (show ¬ (8 : Int) < ((L s).length : Int) by omega)]
    exact Ret.pure ⟨rfl, Nat.le_refl _⟩
theorem ixL {s : ByteArray} {i : Nat} (h : i < (L s).length) : ix (strInts s) (i : Int) = some (byt (L s) i : Int) := by rw [strInts_L, ix_I h]
/-- What the tables say of a first byte. -/
theorem tabs_at {b : Nat} (h1 : 128 ≤ b) (h2 : b < 256) : 0 ≤ ixOf b ∧ ixOf b < 16 ∧
    ((b < 194 ∨ 244 < b) ∧ szOf b = 1 ∨ (194 ≤ b ∧ b < 224 ∧ szOf b = 2 ∧ ixOf b = 0) ∨ (b = 224 ∧ szOf b = 3 ∧ ixOf b = 1) ∨ (b = 237 ∧ szOf b = 3 ∧ ixOf b = 2) ∨ (224 < b ∧ b < 240 ∧ b ≠ 237 ∧ szOf b = 3 ∧ ixOf b = 0) ∨ (b = 240 ∧ szOf b = 4 ∧ ixOf b = 3) ∨ (b = 244 ∧ szOf b = 4 ∧ ixOf b = 4) ∨ (240 < b ∧ b < 244 ∧ szOf b = 4 ∧ ixOf b = 0)) := by
  have h := tck_at h1 h2
  unfold tck at h
  revert h
  generalize szOf b = sz
  generalize ixOf b = i
  intro h
  split at h
  · simp only [Bool.and_eq_true, beq_iff_eq, decide_eq_true_eq] at h; exact ⟨by omega, by omega, .inl ⟨by omega, by omega⟩⟩
  · split at h
    · simp only [Bool.and_eq_true, beq_iff_eq, decide_eq_true_eq] at h; exact ⟨by omega, by omega, .inr (.inl ⟨by omega, by omega, by omega, by omega⟩)⟩
    · split at h
      · simp only [Bool.and_eq_true, beq_iff_eq, decide_eq_true_eq] at h; exact ⟨by omega, by omega, .inr (.inr (.inl ⟨by omega, by omega, by omega⟩))⟩
      · split at h
        · simp only [Bool.and_eq_true, beq_iff_eq, decide_eq_true_eq] at h; exact ⟨by omega, by omega, .inr (.inr (.inr (.inl ⟨by omega, by omega, by omega⟩)))⟩
        · split at h
          · simp only [Bool.and_eq_true, beq_iff_eq, decide_eq_true_eq] at h; exact ⟨by omega, by omega, .inr (.inr (.inr (.inr (.inl ⟨by omega, by omega, by omega, by omega, by omega⟩))))⟩
          · split at h
            · simp only [Bool.and_eq_true, beq_iff_eq, decide_eq_true_eq] at h; exact ⟨by omega, by omega, .inr (.inr (.inr (.inr (.inr (.inl ⟨by omega, by omega, by omega⟩)))))⟩
            · split at h
              · simp only [Bool.and_eq_true, beq_iff_eq, decide_eq_true_eq] at h; exact ⟨by omega, by omega, .inr (.inr (.inr (.inr (.inr (.inr (.inl ⟨by omega, by omega, by omega⟩))))))⟩
              · simp only [Bool.and_eq_true, beq_iff_eq, decide_eq_true_eq] at h; exact ⟨by omega, by omega, .inr (.inr (.inr (.inr (.inr (.inr (.inr ⟨by omega, by omega, by omega, by omega⟩))))))⟩
def lo (i : Int) : Int := if i = 1 then 160 else if i = 3 then 144 else 128
def hi (i : Int) : Int := if i = 2 then 159 else if i = 4 then 143 else 191
theorem tabA_at {i : Int} (h0 : 0 ≤ i) (h1 : i ≤ 4) : ((List.getD tabA (Int.toNat i) (default : S_unicode_utf8_acceptRange))).flo = lo i ∧ ((List.getD tabA (Int.toNat i) (default : S_unicode_utf8_acceptRange))).fhi = hi i := by
  obtain rfl | rfl | rfl | rfl | rfl : i = 0 ∨ i = 1 ∨ i = 2 ∨ i = 3 ∨ i = 4 := by omega
  all_goals exact ⟨rfl, rfl⟩
theorem bad_isL {l : List UInt8} (h0 : 0 < l.length) (h : ∀ c w, ¬ okL l c w) : validL l = false := by
  rw [validL_cons h0]
  have : isL l = false := by
    apply Bool.eq_false_iff.2
    intro h'
    exact h _ _ ((isL_iff h0).1 h')
  rw [this]; rfl
theorem good_isL {l : List UInt8} {c w : Nat} (h : okL l c w) : validL l = validL (l.drop w) := by
  have h0 : 0 < l.length := by have := okL_w h; omega
  rw [validL_cons h0, isL_of h, decL_of h]; rfl
theorem okL_inv {l : List UInt8} {c w : Nat} (h : okL l c w) : byt l 0 < 128 ∨ (194 ≤ byt l 0 ∧ byt l 0 < 224 ∧ 2 ≤ l.length ∧ 128 ≤ byt l 1 ∧ byt l 1 ≤ 191) ∨
    (224 ≤ byt l 0 ∧ byt l 0 < 240 ∧ 3 ≤ l.length ∧ 128 ≤ byt l 1 ∧ byt l 1 ≤ 191 ∧ 128 ≤ byt l 2 ∧ byt l 2 ≤ 191 ∧ (byt l 0 = 224 → 160 ≤ byt l 1) ∧ (byt l 0 = 237 → byt l 1 ≤ 159)) ∨
    (240 ≤ byt l 0 ∧ byt l 0 ≤ 244 ∧ 4 ≤ l.length ∧ 128 ≤ byt l 1 ∧ byt l 1 ≤ 191 ∧ 128 ≤ byt l 2 ∧ byt l 2 ≤ 191 ∧ 128 ≤ byt l 3 ∧ byt l 3 ≤ 191 ∧ (byt l 0 = 240 → 144 ≤ byt l 1) ∧ (byt l 0 = 244 → byt l 1 ≤ 143)) := by
  rcases h with ⟨rfl, h⟩ | ⟨rfl, h⟩ | ⟨rfl, h⟩ | ⟨rfl, h⟩
  · exact .inl (by omega)
  · exact .inr (.inl ⟨by omega, by omega, by omega, by omega, by omega⟩)
  · exact .inr (.inr (.inl ⟨by omega, by omega, by omega, by omega, by omega, by omega, by omega, by omega, by omega⟩))
  · exact .inr (.inr (.inr ⟨by omega, by omega, by omega, by omega, by omega, by omega, by omega, by omega, by omega, by omega, by omega⟩))
theorem ok2 {l : List UInt8} (h : 2 ≤ l.length) (a0 : 194 ≤ byt l 0 ∧ byt l 0 < 224) (a1 : 128 ≤ byt l 1 ∧ byt l 1 ≤ 191) : okL l ((byt l 0 - 192) * 64 + (byt l 1 - 128)) 2 :=
  .inr (.inl ⟨rfl, h, by omega, by omega, by omega, by omega⟩)
theorem ok3u {l : List UInt8} (h : 3 ≤ l.length) (a0 : 224 ≤ byt l 0 ∧ byt l 0 < 240) (a1 : 128 ≤ byt l 1 ∧ byt l 1 ≤ 191) (a2 : 128 ≤ byt l 2 ∧ byt l 2 ≤ 191) (l1 : byt l 0 = 224 → 160 ≤ byt l 1) (l2 : byt l 0 = 237 → byt l 1 ≤ 159) :
    okL l ((byt l 0 - 224) * 4096 + (byt l 1 - 128) * 64 + (byt l 2 - 128)) 3 :=
  .inr (.inr (.inl ⟨rfl, h, by omega, by omega, by omega, by omega, by omega, by omega⟩))
theorem ok4 {l : List UInt8} (h : 4 ≤ l.length) (a0 : 240 ≤ byt l 0 ∧ byt l 0 ≤ 244) (a1 : 128 ≤ byt l 1 ∧ byt l 1 ≤ 191) (a2 : 128 ≤ byt l 2 ∧ byt l 2 ≤ 191) (a3 : 128 ≤ byt l 3 ∧ byt l 3 ≤ 191) (l1 : byt l 0 = 240 → 144 ≤ byt l 1) (l2 : byt l 0 = 244 → byt l 1 ≤ 143) :
    okL l ((byt l 0 - 240) * 262144 + (byt l 1 - 128) * 4096 + (byt l 2 - 128) * 64 + (byt l 3 - 128)) 4 :=
  .inr (.inr (.inr ⟨rfl, h, by omega, by omega, by omega, by omega, by omega, by omega⟩))
theorem err2 {s : ByteArray} {i : Int} (i0 : 0 ≤ i) (i4 : i ≤ 4) :
    (((some (decide (((L s).length : Int) < 2))).bind fun x8982 => (bif x8982 then some true else ((ix (strInts s) 1).bind fun x8984 => ((some (decide (x8984 < ((List.getD tabA (Int.toNat i) (default : S_unicode_utf8_acceptRange))).flo))).bind fun x8985 => (bif x8985 then some true else ((ix (strInts s) 1).bind fun x8987 => ((some (decide (((List.getD tabA (Int.toNat i) (default : S_unicode_utf8_acceptRange))).fhi < x8987))).bind fun x8988 => some x8988))))))) : Option Bool) =
      some (decide ((L s).length < 2 ∨ (byt (L s) 1 : Int) < lo i ∨ hi i < (byt (L s) 1 : Int))) := by
  rw [(tabA_at i0 i4).1, (tabA_at i0 i4).2]
  by_cases h : (L s).length < 2
  · rw [Option.bind_some, dt (show ((L s).length : Int) < 2 by omega), dt (.inl h)]; rfl
  · rw [Option.bind_some, df (show ¬ ((L s).length : Int) < 2 by omega), show ix (strInts s) 1 = _ from ixL (i := 1) (by omega)]
    simp only [bf, Option.bind_some, oS]
    congr 1
    apply Bool.eq_iff_iff.2
    simp only [Bool.or_eq_true, decide_eq_true_eq]
    omega
theorem err3 {s : ByteArray} {i : Int} (i0 : 0 ≤ i) (i4 : i ≤ 4) :
    (((some (decide (((L s).length : Int) < 3))).bind fun x9088 => (bif x9088 then some true else ((ix (strInts s) 1).bind fun x9090 => ((some (decide (x9090 < ((List.getD tabA (Int.toNat i) (default : S_unicode_utf8_acceptRange))).flo))).bind fun x9091 => (bif x9091 then some true else ((ix (strInts s) 1).bind fun x9093 => ((some (decide (((List.getD tabA (Int.toNat i) (default : S_unicode_utf8_acceptRange))).fhi < x9093))).bind fun x9094 => (bif x9094 then some true else ((ix (strInts s) 2).bind fun x9096 => (bif (decide (x9096 < 128)) then some true else ((ix (strInts s) 2).bind fun x9098 => some (decide (191 < x9098))))))))))))) : Option Bool) =
      some (decide ((L s).length < 3 ∨ (byt (L s) 1 : Int) < lo i ∨ hi i < (byt (L s) 1 : Int) ∨ byt (L s) 2 < 128 ∨ 191 < byt (L s) 2)) := by
  rw [(tabA_at i0 i4).1, (tabA_at i0 i4).2]
  by_cases h : (L s).length < 3
  · rw [Option.bind_some, dt (show ((L s).length : Int) < 3 by omega), dt (.inl h)]; rfl
  · rw [Option.bind_some, df (show ¬ ((L s).length : Int) < 3 by omega), show ix (strInts s) 1 = _ from ixL (i := 1) (by omega), show ix (strInts s) 2 = _ from ixL (i := 2) (by omega)]
    simp only [bf, Option.bind_some, oS]
    congr 1
    apply Bool.eq_iff_iff.2
    simp only [Bool.or_eq_true, decide_eq_true_eq]
    omega
theorem err4 {s : ByteArray} {i : Int} (i0 : 0 ≤ i) (i4 : i ≤ 4) :
    (((some (decide (((L s).length : Int) < 4))).bind fun x9226 => (bif x9226 then some true else ((ix (strInts s) 1).bind fun x9228 => ((some (decide (x9228 < ((List.getD tabA (Int.toNat i) (default : S_unicode_utf8_acceptRange))).flo))).bind fun x9229 => (bif x9229 then some true else ((ix (strInts s) 1).bind fun x9231 => ((some (decide (((List.getD tabA (Int.toNat i) (default : S_unicode_utf8_acceptRange))).fhi < x9231))).bind fun x9232 => (bif x9232 then some true else ((ix (strInts s) 2).bind fun x9234 => (bif (decide (x9234 < 128)) then some true else ((ix (strInts s) 2).bind fun x9236 => (bif (decide (191 < x9236)) then some true else ((ix (strInts s) 3).bind fun x9238 => (bif (decide (x9238 < 128)) then some true else ((ix (strInts s) 3).bind fun x9240 => some (decide (191 < x9240))))))))))))))))) : Option Bool) =
      some (decide ((L s).length < 4 ∨ (byt (L s) 1 : Int) < lo i ∨ hi i < (byt (L s) 1 : Int) ∨ byt (L s) 2 < 128 ∨ 191 < byt (L s) 2 ∨ byt (L s) 3 < 128 ∨ 191 < byt (L s) 3)) := by
  rw [(tabA_at i0 i4).1, (tabA_at i0 i4).2]
  by_cases h : (L s).length < 4
  · rw [Option.bind_some, dt (show ((L s).length : Int) < 4 by omega), dt (.inl h)]; rfl
  · rw [Option.bind_some, df (show ¬ ((L s).length : Int) < 4 by omega), show ix (strInts s) 1 = _ from ixL (i := 1) (by omega), show ix (strInts s) 2 = _ from ixL (i := 2) (by omega), show ix (strInts s) 3 = _ from ixL (i := 3) (by omega)]
    simp only [bf, Option.bind_some, oS]
    congr 1
    apply Bool.eq_iff_iff.2
    simp only [Bool.or_eq_true, decide_eq_true_eq]
    omega
theorem lib_valid {k : Nat} : ∀ (n : Nat) (s : ByteArray), (L s).length < n → (L s).length < k → g_u8_ValidString_l0 k n s = some (if validL (L s) = true then Sum.inr () else Sum.inl ()) := by
  intro n
  induction n with
  | zero => intro s h; omega
  | succ n ih =>
    intro s hn hk
    rw [g_u8_ValidString_l0.eq_2]
    by_cases h0 : 0 < (L s).length
    · rw [Option.bind_some, dt (show (0 : Int) < ((ByteArray.size s : Nat) : Int) by rw [sizeL]; omega)]
      simp only [bt]
      rw [show ix (strInts s) 0 = _ from ixL (i := 0) h0, Option.bind_some]
      have b0 := byt_lt (L s) 0; have b1 := byt_lt (L s) 1; have b2 := byt_lt (L s) 2; have b3 := byt_lt (L s) 3
      have hgo : ∀ (w : Nat), w ≤ (L s).length → 1 ≤ w → g_u8_ValidString_l0 k n (s.extract w (Int.toNat ((ByteArray.size s : Nat) : Int))) = some (if validL ((L s).drop w) = true then Sum.inr () else Sum.inl ()) := by
        intro w hw h1
        have := ih (s.extract w (Int.toNat ((ByteArray.size s : Nat) : Int))) (by rw [L_drop, List.length_drop]; omega) (by rw [L_drop, List.length_drop]; omega)
        rwa [L_drop] at this
      by_cases ha : byt (L s) 0 < 128
      · rw [dt (show ((byt (L s) 0 : Nat) : Int) < 128 by omega)]
        simp only [bt]
        rw [show decide (0 ≤ (1 : Int) ∧ (1 : Int) ≤ ((ByteArray.size s : Nat) : Int) ∧ ((ByteArray.size s : Nat) : Int) ≤ ((ByteArray.size s : Nat) : Int)) = true from cutOk (by omega) (by rw [sizeL]; omega)]
        simp only [bt]
        have e1 : L (s.extract (Int.toNat 1) (Int.toNat ((ByteArray.size s : Nat) : Int))) = (L s).drop 1 := L_drop
        obtain ⟨r, h1, h2, h3⟩ := mid (k := k) (s.extract (Int.toNat 1) (Int.toNat ((ByteArray.size s : Nat) : Int))) (by rw [e1, List.length_drop]; omega)
        rw [Option.bind_some, h1, Option.bind_some]
        rw [e1, List.length_drop] at h3
        rw [ih r (by omega) (by omega), h2, e1, valid_skip 1 h0 (fun i hi => by
          have : i = 0 := by omega
          subst this; exact ha)]
      · rw [df (show ¬ ((byt (L s) 0 : Nat) : Int) < 128 by omega)]
        simp only [bf]
        rw [dt (show 0 ≤ ((byt (L s) 0 : Nat) : Int) ∧ ((byt (L s) 0 : Nat) : Int) < 256 by omega)]
        simp only [bt, Option.bind_some, Int.toNat_natCast]
        rw [show IntKind.wrap .i64 (bits .and .u8 (List.getD tab0 (byt (L s) 0) (0 : Int)) 7) = szOf (byt (L s) 0) from rfl, show shrI .u8 (List.getD tab0 (byt (L s) 0) (0 : Int)) 4 = ixOf (byt (L s) 0) from rfl]
        obtain ⟨i0, i1, hcase⟩ := tabs_at (b := byt (L s) 0) (by omega) b0
        revert i0 i1 hcase
        generalize szOf (byt (L s) 0) = sz
        generalize ixOf (byt (L s) 0) = i
        intro i0 i1 hcase
        rw [dt (show 0 ≤ i ∧ i < 16 from ⟨i0, i1⟩)]
        simp only [bt, sizeL] at hgo ⊢
        have hcut : ∀ w : Nat, w ≤ (L s).length → decide (0 ≤ (w : Int) ∧ (w : Int) ≤ ((L s).length : Int) ∧ ((L s).length : Int) ≤ ((L s).length : Int)) = true := fun w hw => cutOk (by omega) (by omega)
        by_cases s2 : sz = 2
        · have i4 : i ≤ 4 := by omega
          have hlo : lo i = 128 ∧ hi i = 191 := by have : i = 0 := by omega
                                                   subst this; exact ⟨rfl, rfl⟩
          rw [dt s2]
          simp only [bt]
          have e := err2 (s := s) i0 i4
          simp only [Option.bind_some] at e
          rw [e, Option.bind_some]
          by_cases hc : (L s).length < 2 ∨ (byt (L s) 1 : Int) < lo i ∨ hi i < (byt (L s) 1 : Int)
          · rw [dt hc, bad_isL h0 (fun c w h => by rcases okL_inv h with h | h | h | h <;> omega)]; rfl
          · rw [df hc, show decide (0 ≤ (2 : Int) ∧ (2 : Int) ≤ ((L s).length : Int) ∧ ((L s).length : Int) ≤ ((L s).length : Int)) = true from hcut 2 (by omega), good_isL (l := L s) (c := (byt (L s) 0 - 192) * 64 + (byt (L s) 1 - 128)) (w := 2) (ok2 (by omega) ⟨by omega, by omega⟩ ⟨by omega, by omega⟩)]
            exact hgo 2 (by omega) (by omega)
        · rw [df s2]
          simp only [bf]
          by_cases s3 : sz = 3
          · have i4 : i ≤ 4 := by omega
            rw [dt s3]
            simp only [bt]
            have e := err3 (s := s) i0 i4
            simp only [Option.bind_some] at e
            rw [e, Option.bind_some]
            have hlo : (byt (L s) 0 = 224 ∧ lo i = 160 ∧ hi i = 191) ∨ (byt (L s) 0 = 237 ∧ lo i = 128 ∧ hi i = 159) ∨ (224 < byt (L s) 0 ∧ byt (L s) 0 < 240 ∧ byt (L s) 0 ≠ 237 ∧ lo i = 128 ∧ hi i = 191) := by
              have : i = 1 ∧ byt (L s) 0 = 224 ∨ i = 2 ∧ byt (L s) 0 = 237 ∨ i = 0 ∧ (224 < byt (L s) 0 ∧ byt (L s) 0 < 240 ∧ byt (L s) 0 ≠ 237) := by omega
              rcases this with ⟨rfl, h⟩ | ⟨rfl, h⟩ | ⟨rfl, h⟩
              · exact .inl ⟨h, rfl, rfl⟩
              · exact .inr (.inl ⟨h, rfl, rfl⟩)
              · exact .inr (.inr ⟨h.1, h.2.1, h.2.2, rfl, rfl⟩)
            by_cases hc : (L s).length < 3 ∨ (byt (L s) 1 : Int) < lo i ∨ hi i < (byt (L s) 1 : Int) ∨ byt (L s) 2 < 128 ∨ 191 < byt (L s) 2
            · rw [dt hc, bad_isL h0 (fun c w h => by rcases okL_inv h with h | h | h | h <;> omega)]; rfl
            · rw [df hc, show decide (0 ≤ (3 : Int) ∧ (3 : Int) ≤ ((L s).length : Int) ∧ ((L s).length : Int) ≤ ((L s).length : Int)) = true from hcut 3 (by omega), good_isL (l := L s) (c := (byt (L s) 0 - 224) * 4096 + (byt (L s) 1 - 128) * 64 + (byt (L s) 2 - 128)) (w := 3) (ok3u (by omega) ⟨by omega, by omega⟩ ⟨by omega, by omega⟩ ⟨by omega, by omega⟩ (by omega) (by omega))]
              exact hgo 3 (by omega) (by omega)
          · rw [df s3]
            simp only [bf]
            by_cases s4 : sz = 4
            · have i4 : i ≤ 4 := by omega
              rw [dt s4]
              simp only [bt]
              have e := err4 (s := s) i0 i4
              simp only [Option.bind_some] at e
              rw [e, Option.bind_some]
              have hlo : (byt (L s) 0 = 240 ∧ lo i = 144 ∧ hi i = 191) ∨ (byt (L s) 0 = 244 ∧ lo i = 128 ∧ hi i = 143) ∨ (240 < byt (L s) 0 ∧ byt (L s) 0 < 244 ∧ lo i = 128 ∧ hi i = 191) := by
                have : i = 3 ∧ byt (L s) 0 = 240 ∨ i = 4 ∧ byt (L s) 0 = 244 ∨ i = 0 ∧ (240 < byt (L s) 0 ∧ byt (L s) 0 < 244) := by omega
                rcases this with ⟨rfl, h⟩ | ⟨rfl, h⟩ | ⟨rfl, h⟩
                · exact .inl ⟨h, rfl, rfl⟩
                · exact .inr (.inl ⟨h, rfl, rfl⟩)
                · exact .inr (.inr ⟨h.1, h.2, rfl, rfl⟩)
              by_cases hc : (L s).length < 4 ∨ (byt (L s) 1 : Int) < lo i ∨ hi i < (byt (L s) 1 : Int) ∨ byt (L s) 2 < 128 ∨ 191 < byt (L s) 2 ∨ byt (L s) 3 < 128 ∨ 191 < byt (L s) 3
              · rw [dt hc, bad_isL h0 (fun c w h => by rcases okL_inv h with h | h | h | h <;> omega)]; rfl
              · rw [df hc, show decide (0 ≤ (4 : Int) ∧ (4 : Int) ≤ ((L s).length : Int) ∧ ((L s).length : Int) ≤ ((L s).length : Int)) = true from hcut 4 (by omega), good_isL (l := L s) (c := (byt (L s) 0 - 240) * 262144 + (byt (L s) 1 - 128) * 4096 + (byt (L s) 2 - 128) * 64 + (byt (L s) 3 - 128)) (w := 4) (ok4 (by omega) ⟨by omega, by omega⟩ ⟨by omega, by omega⟩ ⟨by omega, by omega⟩ ⟨by omega, by omega⟩ (by omega) (by omega))]
                exact hgo 4 (by omega) (by omega)
            · rw [df s4, bad_isL h0 (fun c w h => by rcases okL_inv h with h | h | h | h <;> omega)]; rfl
    · rw [Option.bind_some, df (show ¬ (0 : Int) < ((ByteArray.size s : Nat) : Int) by rw [sizeL]; omega), nil_of_len h0, validL_nil]
      rfl
end Go.Proofs.YthpcgknknpjpdaaGreatDoor.W
namespace Go.Proofs.YthpcgknknpjpdaaGreatDoor.W
open Go Go.Q Go.Proofs
set_option linter.unusedVariables false
set_option linter.unusedSimpArgs false
/-- May XML not have it? -/
def badX (t : List UInt8) : Bool := decide ((decL t).1 < 32 ∧ (decL t).1 ≠ 9 ∧ (decL t).1 ≠ 10 ∧ (decL t).1 ≠ 13 ∨ (decL t).1 = 65534 ∨ (decL t).1 = 65535)
theorem utfValid {k : Nat} {s : ByteArray} (hk : (L s).length < k) : g_u8_ValidString k s = some (validL (L s)) := by
  unfold g_u8_ValidString
  rw [lib_valid k s hk hk]
  cases validL (L s) <;> rfl
theorem pos_step {s : ByteArray} {p : Nat} (h : p < (L s).length) : 0 < ((L s).drop p).length ∧ ((L s).drop p).drop (decL ((L s).drop p)).2 = (L s).drop (p + (decL ((L s).drop p)).2) ∧ 1 ≤ (decL ((L s).drop p)).2 ∧ p + (decL ((L s).drop p)).2 ≤ (L s).length := by
  have h0 : 0 < ((L s).drop p).length := by rw [List.length_drop]; omega
  have hw := decL_w h0
  rw [List.length_drop] at hw
  exact ⟨h0, List.drop_drop .., hw.1, by omega⟩
theorem xml_go {k : Nat} {s : ByteArray} : ∀ (n p : Nat), p ≤ (L s).length → (L s).length - p < n → g_utf_Xml_l0 k s n p = some (if (sufs ((L s).drop p)).any badX = true then Sum.inl () else Sum.inr ()) := by
  intro n
  induction n with
  | zero => intro p _ h; omega
  | succ n ih =>
    intro p hp hn
    rw [g_utf_Xml_l0.eq_2]
    by_cases h : p < (L s).length
    · obtain ⟨h0, h1, h2, h3⟩ := pos_step h
      rw [dt (show p < s.size by rw [L_size]; exact h), decode_L, sufs_cons h0, List.any_cons, h1]
      have hih := ih (p + (decL ((L s).drop p)).2) h3 (by omega)
      simp only [bt, Option.bind_some, sS]
      simp only [bP, Bool.or_eq_true, decide_eq_true_eq]
      rw [hih]
      generalize (sufs ((L s).drop (p + (decL ((L s).drop p)).2))).any badX = b
      unfold badX
      generalize (decL ((L s).drop p)).1 = c
      by_cases c1 : ((c : Nat) : Int) = 9 ∨ ((c : Nat) : Int) = 10 ∨ ((c : Nat) : Int) = 13
      · rw [if_pos (by omega), df (show ¬ (c < 32 ∧ c ≠ 9 ∧ c ≠ 10 ∧ c ≠ 13 ∨ c = 65534 ∨ c = 65535) by omega)]
        simp
      · rw [if_neg (by omega)]
        by_cases c2 : ((c : Nat) : Int) < 32 ∨ ((c : Nat) : Int) = 65534 ∨ ((c : Nat) : Int) = 65535
        · rw [if_pos (by omega), dt (show (c < 32 ∧ c ≠ 9 ∧ c ≠ 10 ∧ c ≠ 13 ∨ c = 65534 ∨ c = 65535) by omega)]
          simp
        · rw [if_neg (by omega), df (show ¬ (c < 32 ∧ c ≠ 9 ∧ c ≠ 10 ∧ c ≠ 13 ∨ c = 65534 ∨ c = 65535) by omega)]
          simp
    · rw [df (show ¬ p < s.size by rw [L_size]; exact h), nil_of_len (l := (L s).drop p) (by rw [List.length_drop]; omega), sufs_nil]
      rfl
def xmlL (l : List UInt8) : Int := if validL l && !((sufs l).any badX) then 0 else 20
theorem utfXml {k : Nat} {s : ByteArray} (hk : (L s).length < k) : g_utf_Xml k s = some (xmlL (L s)) := by
  unfold g_utf_Xml xmlL
  rw [utfValid hk, Option.bind_some]
  cases hv : validL (L s) with
  | false => rfl
  | true =>
    simp only [Bool.not_true, bf]
    have := xml_go (k := k) (s := s) k 0 (by omega) (by omega)
    rw [List.drop_zero] at this
    rw [this]
    cases (sufs (L s)).any badX <;> rfl
end Go.Proofs.YthpcgknknpjpdaaGreatDoor.W
namespace Go.Proofs.YthpcgknknpjpdaaGreatDoor.W
open Go Go.Q Go.Proofs
set_option linter.unusedVariables false
set_option linter.unusedSimpArgs false
/-- A byte of a range, moved. -/
def mp (f t b : Int) (c : UInt8) : UInt8 := if f ≤ (c.toNat : Int) ∧ (c.toNat : Int) ≤ t then UInt8.ofNat ((c.toNat : Int) + b).toNat else c
theorem set_step {l : List UInt8} {g : UInt8 → UInt8} {i : Nat} (h : i < l.length) (v : Int) (hv : v = ((g l[i]).toNat : Int)) : List.set (I ((l.take i).map g ++ l.drop i)) i v = I ((l.take (i + 1)).map g ++ l.drop (i + 1)) := by
  have h1 : ((l.take i).map g).length = i := by simp; omega
  rw [List.take_succ_eq_append_getElem h, List.map_append, List.drop_eq_getElem_cons h, I_append, I_append, I_append, List.set_append_right _ _ (by simp [I]; omega)]
  have h2 : (I ((l.take i).map g)).length = i := by rw [I_length, h1]
  rw [h2, Nat.sub_self, List.append_assoc, hv]
  rfl
theorem keep_step {l : List UInt8} {g : UInt8 → UInt8} {i : Nat} (h : i < l.length) (hg : g l[i] = l[i]) : (l.take i).map g ++ l.drop i = (l.take (i + 1)).map g ++ l.drop (i + 1) := by
  rw [List.take_succ_eq_append_getElem h, List.map_append, List.drop_eq_getElem_cons h, List.append_assoc]
  simp [hg]
theorem turned_go {k : Nat} {s : ByteArray} {f t b : Int} (hs : (L s).length ≤ 1048576) (h0 : 0 ≤ f + b) (h1 : t + b ≤ 255) (hb : -1000 ≤ b ∧ b ≤ 1000) : ∀ (n i : Nat), i ≤ (L s).length → (L s).length - i < n →
    g_utf_turned_l0 k s f t b n i (I (((L s).take i).map (mp f t b) ++ (L s).drop i)) = some (I ((L s).map (mp f t b))) := by
  intro n
  induction n with
  | zero => intro i _ h; omega
  | succ n ih =>
    intro i hi hn
    rw [g_utf_turned_l0.eq_2]
    have hlen : (List.length (strInts s) : Int) = ((L s).length : Int) := by rw [strInts_L, I_length]
    by_cases h : i < (L s).length
    · have hbl : (((L s).take i).map (mp f t b) ++ (L s).drop i).length = (L s).length := by simp; omega
      have hby : byt (((L s).take i).map (mp f t b) ++ (L s).drop i) i = ((L s)[i]).toNat := by
        unfold byt
        rw [List.getD_eq_getElem?_getD, List.getElem?_append_right (by simp; omega)]
        simp [Nat.min_eq_left (Nat.le_of_lt h), List.getElem?_eq_getElem h]
      have hc := (L s)[i].toNat_lt
      rw [Option.bind_some, dt (show (i : Int) < ((List.length (strInts s) : Nat) : Int) by rw [hlen]; omega), bt, ix_I (by rw [hbl]; exact h), hby]
      simp only [Option.bind_some, aS]
      rw [wi (n := (i : Int) + 1) (by omega) (by omega), show ((i : Int) + 1) = ((i + 1 : Nat) : Int) by omega, wi (n := (((L s)[i]).toNat : Int)) (by omega) (by omega), wi (n := (((L s)[i]).toNat : Int) + b) (by omega) (by omega)]
      by_cases hin : f ≤ (((L s)[i]).toNat : Int) ∧ (((L s)[i]).toNat : Int) ≤ t
      · rw [dt hin.1, dt hin.2]
        simp only [Bool.and_true, bt, Option.bind_some]
        rw [show Int.toNat (i : Int) = i from rfl, Go.Q.wu8 (by omega) (by omega), set_step (g := mp f t b) h]
        · exact ih (i + 1) (by omega) (by omega)
        · unfold mp
          rw [if_pos hin, toN (by omega)]
          omega
      · have hx : (decide (f ≤ (((L s)[i]).toNat : Int)) && decide ((((L s)[i]).toNat : Int) ≤ t)) = false := by
          apply Bool.eq_false_iff.2
          intro h'
          simp only [Bool.and_eq_true, decide_eq_true_eq] at h'
          exact hin h'
        rw [hx]
        simp only [bf, Option.bind_some]
        rw [keep_step (g := mp f t b) h (by unfold mp; rw [if_neg hin])]
        exact ih (i + 1) (by omega) (by omega)
    · rw [Option.bind_some, df (show ¬ (i : Int) < ((List.length (strInts s) : Nat) : Int) by rw [hlen]; omega), bf, List.take_of_length_le (by omega), List.drop_of_length_le (by omega), List.append_nil]
theorem utfTurned {k : Nat} {s : ByteArray} {f t b : Int} (hs : (L s).length ≤ 1048576) (hk : (L s).length < k) (h0 : 0 ≤ f + b) (h1 : t + b ≤ 255) (hb : -1000 ≤ b ∧ b ≤ 1000) : g_utf_turned k s f t b = some (strOf (I ((L s).map (mp f t b)))) := by
  unfold g_utf_turned
  rw [dt (show s.size ≤ 140737488355328 by rw [L_size]; omega), bt]
  have := turned_go (k := k) hs h0 h1 hb k 0 (by omega) (by omega)
  have this' : g_utf_turned_l0 k s f t b k 0 (strInts s) = some (I ((L s).map (mp f t b))) := this
  rw [this']; rfl
theorem utfLower {k : Nat} {s : ByteArray} (hs : (L s).length ≤ 1048576) (hk : (L s).length < k) : g_utf_Lower k s = some (strOf (I ((L s).map (mp 65 90 32)))) := by
  unfold g_utf_Lower
  rw [utfTurned hs hk (by omega) (by omega) (by omega)]; rfl
end Go.Proofs.YthpcgknknpjpdaaGreatDoor.W
namespace Go.Proofs.YthpcgknknpjpdaaGreatDoor.W
open Go Go.Q Go.Proofs Go.Dz
set_option linter.unusedVariables false
set_option linter.unusedSimpArgs false
/-- The string of a list of bytes. -/
def B (l : List UInt8) : ByteArray := ByteArray.mk l.toArray
end Go.Proofs.YthpcgknknpjpdaaGreatDoor.W
namespace Go.Proofs.YthpcgknknpjpdaaGreatDoor.W
open Go Go.Q Go.Proofs Go.Dz
set_option linter.unusedVariables false
set_option linter.unusedSimpArgs false
theorem bifd {α : Type} (p : Prop) [Decidable p] (x y : α) : (bif decide p then x else y) = if p then x else y := by by_cases h : p <;> simp [h]
end Go.Proofs.YthpcgknknpjpdaaGreatDoor.W
namespace Go.Proofs.YthpcgknknpjpdaaGreatDoor.W
open Go Go.Q Go.Proofs Go.Dz
set_option linter.unusedVariables false
set_option linter.unusedSimpArgs false
/-- The byte of a digit. -/
def db (d : Nat) : UInt8 := UInt8.ofNat (48 + d % 10)
/-- The last t digits of n. -/
def dt (n : Nat) : Nat → List UInt8
  | 0 => []
  | t + 1 => db (n / 10 ^ t) :: dt n t
end Go.Proofs.YthpcgknknpjpdaaGreatDoor.W
namespace Go.Proofs.YthpcgknknpjpdaaGreatDoor.W
open Go Go.Q Go.Proofs Go.Dz
set_option linter.unusedVariables false
set_option linter.unusedSimpArgs false
instance (c x : Int) : Decidable (Canon c x) := by unfold Canon; infer_instance
theorem tell_l0_any (k : Nat) (hk : 3 ≤ k) : ∀ (d n v : Nat) (e : Int), d ≤ n → v ≠ 0 → v < UU → v < 10 ^ d → -9223372036854775808 ≤ e → e ≤ 9223372036854775807 → ∃ (w : Nat) (e' : Int), w < UU ∧ -9223372036854775808 ≤ e' ∧ e' ≤ 9223372036854775807 ∧
    g_dec_num_tell_l0 k n ((v % 10 : Nat) : Int) (wh v) (wl v) e (wh (v / 10)) (wl (v / 10)) = some (wh w, wl w, e') := by
  intro d
  induction d with
  | zero => intro n v e _ h0 _ h; simp at h; omega
  | succ d ih =>
    intro n v e hdn h0 hU h he1 he2
    obtain ⟨n, rfl⟩ : ∃ n', n = n' + 1 := ⟨n - 1, by omega⟩
    rw [g_dec_num_tell_l0.eq_2]
    simp only [bd]
    by_cases hr : v % 10 = 0
    · rw [if_pos (by omega), wide_by k hk (v := v / 10) (by unfold UU at *; omega), Option.bind_some]
      rw [Nat.pow_succ] at h
      exact ih n (v / 10) (IntKind.wrap .i64 (e + 1)) (by omega) (by omega) (by unfold UU at *; omega) (by omega) (by rw [IntKind.wrap_i64]; omega) (by rw [IntKind.wrap_i64]; omega)
    · rw [if_neg (by omega)]
      exact ⟨v, e, hU, he1, he2, rfl⟩
theorem tot3 {x : Option (Int × Int × Int)} (h : ∃ r, x = some r) : ∃ a b c, x = some (a, b, c) := by
  obtain ⟨⟨a, b, c⟩, h⟩ := h
  exact ⟨a, b, c, h⟩
theorem tot_if {p q : Prop} [Decidable p] [Decidable q] (b : Bool) (u v : Int × Int × Int) : ∃ r, ((if p then some true else if q then some true else some b).bind fun x => (bif x then some u else some v)) = some r := by
  by_cases hp : p
  · rw [if_pos hp]; exact ⟨_, rfl⟩
  · rw [if_neg hp]
    by_cases hq : q
    · rw [if_pos hq]; exact ⟨_, rfl⟩
    · rw [if_neg hq]; cases b <;> exact ⟨_, rfl⟩
theorem tell_any (k : Nat) (hk : 60 ≤ k) (neg : Bool) {v : Nat} (hv : v < UU) (e : Int) (he : I64 e) : ∃ a b c, g_dec_num_tell k neg (wh v) (wl v) e = some (a, b, c) := by
  unfold g_dec_num_tell
  simp only [wide_zero, Option.bind_some, bd]
  by_cases h0 : v = 0
  · rw [if_pos ((wide_or hv).2 h0)]; exact ⟨_, _, _, rfl⟩
  · rw [if_neg (fun h => h0 ((wide_or hv).1 h)), wide_by k (by omega) hv, Option.bind_some]
    obtain ⟨w, e', hw, h1, h2, h4⟩ := tell_l0_any k (by omega) 39 k v e (by omega) h0 hv (Nat.lt_of_lt_of_le hv (by decide)) he.1 he.2
    simp only
    rw [h4, Option.bind_some]
    simp only
    by_cases h18 : 18 < e'
    · rw [if_pos h18, wi (n := e' - 18) (by omega) (by omega)]
      obtain ⟨m, hm, hm2⟩ : ∃ m : Nat, (if (40 : Int) < e' - 18 then (40 : Int) else e' - 18) = (m : Int) ∧ m ≤ 40 := by
        split
        · exact ⟨40, rfl, by omega⟩
        · exact ⟨(e' - 18).toNat, by omega, by omega⟩
      obtain ⟨b, x, y, ht, _⟩ := wide_tens k hw (m := m) (by omega) (by omega)
      simp only [Option.bind_some, hm, ht]
      by_cases h58 : (58 : Int) < e'
      · rw [if_pos h58]
        refine tot3 ?_
        cases neg <;> simp [Option.bind_some]
      · rw [if_neg h58]
        refine tot3 ?_
        cases neg <;> simp only [Option.bind_some, cond_true, cond_false] <;> cases b <;> simp only [Bool.not_true, Bool.not_false, cond_true, cond_false, Option.bind_some] <;> (try exact ⟨_, rfl⟩) <;> exact tot_if _ _ _
    · rw [if_neg h18]
      refine tot3 ?_
      cases neg <;> simp only [Option.bind_some, cond_true, cond_false, Bool.not_true] <;> exact tot_if _ _ _
theorem right_dec (k : Nat) (hk : 60 ≤ k) {c e : Int} (hc : I64 c) (he : I64 e) : g_dec_Right k c e = some (decide (Canon c e)) := by
  by_cases hcan : Canon c e
  · rw [dec_Right k hk hcan, Go.Q.dt hcan]
  · rw [df hcan]
    unfold g_dec_Right
    rw [of_eq k hc, Option.bind_some]
    by_cases hr : Rng e
    · obtain ⟨c', e', h1, h2, h3⟩ := tell_ok k hk hc hr
      rw [h1, Option.bind_some]
      simp only
      rw [ranged_eq k (by omega), Go.Q.dt hr, Option.bind_some, bt]
      simp only [decide_true, cond_true, Option.bind_some, Bool.and_true]
      have : ¬ (c' = c ∧ e' = e) := fun ⟨a, b⟩ => hcan (a ▸ b ▸ h2)
      have : (decide (c' = c) && decide (e' = e)) = false := by simpa using this
      rw [this]
    · obtain ⟨a, b, d, h1⟩ := tell_any k hk (decide (c < 0)) (v := c.natAbs) (by have := abs_lt hc; unfold UU; omega) e he
      rw [wh_small (abs_lt hc), wl_small (abs_lt hc)] at h1
      rw [h1, Option.bind_some]
      simp only
      rw [ranged_eq k (by omega), df hr, Option.bind_some, bf]
      rfl
end Go.Proofs.YthpcgknknpjpdaaGreatDoor.W
namespace Go.Proofs.YthpcgknknpjpdaaGreatDoor.W
open Go Go.Q Go.Proofs Go.Dz
set_option linter.unusedVariables false
set_option linter.unusedSimpArgs false
abbrev V := Int × Int × Int × ByteArray × Bool × Int
abbrev E0 : ByteArray := ByteArray.mk #[]
abbrev NM : List ByteArray := [(ByteArray.mk #[]), (ByteArray.mk #[35, 68, 73, 86, 47, 48, 33]), (ByteArray.mk #[35, 86, 65, 76, 85, 69, 33]), (ByteArray.mk #[35, 82, 69, 70, 33]), (ByteArray.mk #[35, 78, 65, 77, 69, 63]), (ByteArray.mk #[35, 78, 85, 77, 33]), (ByteArray.mk #[35, 78, 47, 65]), (ByteArray.mk #[35, 67, 89, 67, 76, 69, 33])]
theorem beqL (a b : ByteArray) : (a.toList == b.toList) = decide (a = b) := by
  rw [L_toList, L_toList]
  by_cases h : a = b
  · subst h; simp
  · rw [decide_eq_false h]
    have : ¬ L a = L b := fun k => h (L_ext k)
    simpa using this
def errV (code : Int) : Int := if 1 ≤ code ∧ code ≤ 7 then code else 2
def eV (code : Int) : V := (4, 0, 0, E0, false, errV code)
theorem val_ErrName (k : Nat) (code : Int) : g_val_ErrName k code = some (if 0 ≤ code ∧ code ≤ 7 then NM.getD code.toNat E0 else E0) := by
  unfold g_val_ErrName
  by_cases h0 : code < 0
  · rw [decide_eq_true h0, if_neg (by omega)]; rfl
  · rw [decide_eq_false h0, bf]
    simp only [g_val_names, Option.bind_some]
    by_cases h8 : 7 < code
    · rw [decide_eq_true (show ((List.length NM : Nat) : Int) ≤ code by show (8 : Int) ≤ code; omega), if_neg (by omega)]; rfl
    · rw [decide_eq_false (show ¬ ((List.length NM : Nat) : Int) ≤ code by show ¬ (8 : Int) ≤ code; omega), if_pos (by omega)]
      simp only [cond_false]
      obtain ⟨n, rfl⟩ : ∃ n : Nat, code = (n : Int) := ⟨code.toNat, by omega⟩
      rw [ix_nat (show n < NM.length by show n < 8; omega)]
      simp only [Option.bind_some, Int.toNat_natCast]
      rw [List.getD_eq_getElem?_getD, List.getElem?_eq_getElem (show n < NM.length by show n < 8; omega)]
      rfl
theorem nm_nil {n : Nat} (h : n ≤ 7) : NM.getD n E0 = E0 ↔ n = 0 := by
  have : ∀ n, n < 8 → (decide (L (NM.getD n E0) = []) = decide (n = 0)) := by
    intro n hn
    match n, hn with
    | 0, _ => rfl
    | 1, _ => rfl
    | 2, _ => rfl
    | 3, _ => rfl
    | 4, _ => rfl
    | 5, _ => rfl
    | 6, _ => rfl
    | 7, _ => rfl
  have := decide_eq_decide.1 (this n (by omega))
  exact ⟨fun k => this.1 (by rw [k]; rfl), fun k => L_ext (by rw [this.2 k]; rfl)⟩
theorem val_Err (k : Nat) (code : Int) : g_val_Err k code = some (errV code) := by
  unfold g_val_Err errV
  rw [val_ErrName]
  by_cases h : 0 ≤ code ∧ code ≤ 7
  · rw [if_pos h]
    simp only [Option.bind_some]
    obtain ⟨n, rfl⟩ : ∃ n : Nat, code = (n : Int) := ⟨code.toNat, by omega⟩
    rw [Int.toNat_natCast, beqL]
    by_cases hn : n = 0
    · rw [decide_eq_true ((nm_nil (by omega)).2 hn), if_neg (by omega)]; rfl
    · rw [decide_eq_false (fun k => hn ((nm_nil (by omega)).1 k)), if_pos (by omega)]
      rfl
  · rw [if_neg h, if_neg (by omega)]
    simp only [Option.bind_some]
    rw [beqL, decide_eq_true rfl]
    rfl
def okS (s : ByteArray) : Bool := decide (s.size ≤ 255) && decide (xmlL (L s) = 0)
def strV (s : ByteArray) : Int × ByteArray × Int := if okS s then (2, s, 0) else (4, E0, 2)
theorem val_Str (k : Nat) (hk : 300 ≤ k) (s : ByteArray) : g_val_Str k s = some (strV s) := by
  unfold g_val_Str strV okS
  rw [val_Err]
  by_cases h : s.size ≤ 255
  · rw [decide_eq_false (show ¬ (255 : Int) < ((s.size : Nat) : Int) by omega), utfXml (by rw [← L_size]; omega)]
    by_cases hx : xmlL (L s) = 0
    · simp [h, hx]
    · simp [h, hx]; rfl
  · rw [decide_eq_true (show (255 : Int) < ((s.size : Nat) : Int) by omega)]
    simp [h]; rfl
inductive Rt : V → Prop where
  | empty : Rt (0, 0, 0, E0, false, 0)
  | num {c e : Int} (h : Canon c e) : Rt (1, c, e, E0, false, 0)
  | text {s : ByteArray} (h : okS s = true) : Rt (2, 0, 0, s, false, 0)
  | bool (b : Bool) : Rt (3, 0, 0, E0, b, 0)
  | err {r : Int} (h : 1 ≤ r ∧ r ≤ 7) : Rt (4, 0, 0, E0, false, r)
def rightV (v : V) : Bool :=
  if v.1 = 0 then decide (v = (0, 0, 0, E0, false, 0)) else if v.1 = 1 then decide (Canon v.2.1 v.2.2.1) && decide (v = (1, v.2.1, v.2.2.1, E0, false, 0))
  else if v.1 = 2 then okS v.2.2.2.1 && decide (v = (2, 0, 0, v.2.2.2.1, false, 0)) else if v.1 = 3 then decide (v = (3, 0, 0, E0, v.2.2.2.2.1, 0))
  else if v.1 = 4 then decide (1 ≤ v.2.2.2.2.2 ∧ v.2.2.2.2.2 ≤ 7) && decide (v = (4, 0, 0, E0, false, v.2.2.2.2.2)) else false
theorem rightV_rt {v : V} (h : rightV v = true) : Rt v := by
  obtain ⟨k, c, e, s, b, r⟩ := v
  unfold rightV at h
  simp only at h
  split at h
  · rw [decide_eq_true_eq] at h; rw [h]; exact .empty
  split at h
  · rw [Bool.and_eq_true, decide_eq_true_eq, decide_eq_true_eq] at h; rw [h.2]; exact .num h.1
  split at h
  · rw [Bool.and_eq_true, decide_eq_true_eq] at h; rw [h.2]; exact .text h.1
  split at h
  · rw [decide_eq_true_eq] at h; rw [h]; exact .bool _
  split at h
  · rw [Bool.and_eq_true, decide_eq_true_eq, decide_eq_true_eq] at h; rw [h.2]; exact .err h.1
  · cases h
def cleanV (v : V) : V := if rightV v then v else eV 2
theorem clean_rt (v : V) : Rt (cleanV v) := by
  unfold cleanV
  by_cases h : rightV v = true
  · rw [if_pos h]; exact rightV_rt h
  · rw [if_neg h]; exact .err (by decide)
end Go.Proofs.YthpcgknknpjpdaaGreatDoor.W
namespace Go.Proofs.YthpcgknknpjpdaaGreatDoor.W
open Go Go.Q Go.Proofs Go.Dz
set_option linter.unusedVariables false
set_option linter.unusedSimpArgs false
theorem val_Right (n : Nat) (hn : 300 ≤ n) {k c e : Int} {s : ByteArray} {b : Bool} {r : Int} (hc : I64 c) (he : I64 e) : g_val_Right n k c e s b r = some (rightV (k, c, e, s, b, r)) := by
  unfold g_val_Right rightV
  simp only [beqL, val_Err, val_Str n hn, right_dec n (by omega) hc he, Option.bind_some]
  by_cases h0 : k = 0
  · subst h0
    cases b <;> simp [Bool.and_assoc]
  by_cases h3 : k = 3
  · subst h3
    cases b <;> simp [Bool.and_assoc]
  by_cases h1 : k = 1
  · subst h1
    by_cases hcan : Canon c e <;> simp [hcan, Bool.and_assoc]
  by_cases h2 : k = 2
  · subst h2
    unfold strV
    cases hs : okS s <;> simp [hs, Bool.and_assoc]
  by_cases h4 : k = 4
  · subst h4
    unfold errV
    by_cases hr : 1 ≤ r ∧ r ≤ 7
    · simp [hr, Bool.and_assoc]
    · simp [hr, Bool.and_assoc]
      omega
  · simp [h0, h1, h2, h3, h4]
theorem val_clean (n : Nat) (hn : 300 ≤ n) {k c e : Int} {s : ByteArray} {b : Bool} {r : Int} (hc : I64 c) (he : I64 e) : g_val_clean n k c e s b r = some (cleanV (k, c, e, s, b, r)) := by
  unfold g_val_clean cleanV
  rw [val_Right n hn hc he, val_Err, Option.bind_some]
  cases rightV (k, c, e, s, b, r) <;> rfl
theorem i64_0 : I64 0 := by unfold I64; omega
end Go.Proofs.YthpcgknknpjpdaaGreatDoor.W
namespace Go.Proofs.YthpcgknknpjpdaaGreatDoor.W
open Go Go.Q Go.Proofs Go.Dz
set_option linter.unusedVariables false
set_option linter.unusedSimpArgs false
theorem alive {k : Nat} (hk : 40000 ≤ k) : g_quirelaw13_alive k = some true := (g_quirelaw13_alive_mono hk).h _ (by kernel_rfl)
theorem okS_size {s : ByteArray} (h : okS s = true) : s.size ≤ 255 := by
  unfold okS at h
  rw [Bool.and_eq_true, decide_eq_true_eq] at h
  exact h.1
end Go.Proofs.YthpcgknknpjpdaaGreatDoor.W
namespace Go.Proofs.YthpcgknknpjpdaaGreatDoor.W
open Go Go.Q Go.Proofs Go.Dz
set_option linter.unusedVariables false
set_option linter.unusedSimpArgs false
theorem bl_irr : ∀ l : List UInt8, Op.bytesLess l l = false
  | [] => rfl
  | a :: l => by simp [Op.bytesLess, bl_irr l]
theorem bl_tri : ∀ a b : List UInt8, Op.bytesLess a b = true ∨ a = b ∨ Op.bytesLess b a = true
  | [], [] => .inr (.inl rfl)
  | [], b :: l => .inl rfl
  | a :: l, [] => .inr (.inr rfl)
  | a :: l, b :: m => by
    rcases bl_tri l m with h | h | h
    · by_cases h1 : a < b
      · left; simp [Op.bytesLess, h1]
      · by_cases h2 : b < a
        · right; right; simp [Op.bytesLess, h2]
        · have : a = b := UInt8.le_antisymm (UInt8.not_lt.1 h2) (UInt8.not_lt.1 h1)
          subst this
          left; simp [Op.bytesLess, h]
    · by_cases h1 : a < b
      · left; simp [Op.bytesLess, h1]
      · by_cases h2 : b < a
        · right; right; simp [Op.bytesLess, h2]
        · have : a = b := UInt8.le_antisymm (UInt8.not_lt.1 h2) (UInt8.not_lt.1 h1)
          subst this
          right; left; rw [h]
    · by_cases h1 : a < b
      · left; simp [Op.bytesLess, h1]
      · by_cases h2 : b < a
        · right; right; simp [Op.bytesLess, h2]
        · have : a = b := UInt8.le_antisymm (UInt8.not_lt.1 h2) (UInt8.not_lt.1 h1)
          subst this
          right; right; simp [Op.bytesLess, h]
theorem bl_trans : ∀ a b c : List UInt8, Op.bytesLess a b = true → Op.bytesLess b c = true → Op.bytesLess a c = true
  | [], _, [], h1, h2 => by cases ‹List UInt8› <;> simp [Op.bytesLess] at h1 h2
  | [], _, _ :: _, _, _ => rfl
  | a :: l, [], _, h1, _ => by simp [Op.bytesLess] at h1
  | a :: l, b :: m, [], _, h2 => by simp [Op.bytesLess] at h2
  | a :: l, b :: m, c :: n, h1, h2 => by
    simp only [Op.bytesLess, Bool.or_eq_true, Bool.and_eq_true, decide_eq_true_eq, beq_iff_eq] at h1 h2 ⊢
    rcases h1 with h1 | ⟨rfl, h1⟩
    · rcases h2 with h2 | ⟨rfl, h2⟩
      · exact .inl (UInt8.lt_trans h1 h2)
      · exact .inl h1
    · rcases h2 with h2 | ⟨rfl, h2⟩
      · exact .inl h2
      · exact .inr ⟨rfl, bl_trans l m n h1 h2⟩
theorem bl_asymm {a b : List UInt8} (h : Op.bytesLess a b = true) : Op.bytesLess b a = false := by
  cases h2 : Op.bytesLess b a with
  | false => rfl
  | true => have := bl_trans a b a h h2; rw [bl_irr] at this; cases this
/-- An order, as an answer below, at or above nought. -/
structure Cm {α : Type} (f : α → α → Int) : Prop where
  swap : ∀ a b, f b a = - f a b
  self : ∀ a, f a a = 0
  le : ∀ a b c, f a b ≤ 0 → f b c ≤ 0 → f a c ≤ 0
  rng : ∀ a b, -1 ≤ f a b ∧ f a b ≤ 1
def cmpZ (a b : Int) : Int := if a < b then -1 else if b < a then 1 else 0
def cmpS (a b : List UInt8) : Int := if Op.bytesLess a b = true then -1 else if a = b then 0 else 1
theorem cmZ : Cm cmpZ := ⟨fun a b => by unfold cmpZ; split <;> split <;> (try split) <;> omega, fun a => by unfold cmpZ; simp, fun a b c h1 h2 => by
  unfold cmpZ at *
  split <;> (try split) <;> (try omega), fun a b => by unfold cmpZ; split <;> (try split) <;> omega⟩
theorem cmpS_le {a b : List UInt8} : cmpS a b ≤ 0 ↔ Op.bytesLess a b = true ∨ a = b := by
  unfold cmpS
  split
  · rename_i h; simp [h]
  · rename_i h
    split
    · rename_i h2; simp [h2]
    · rename_i h2; simp [h, h2]
theorem cmS : Cm cmpS := ⟨fun a b => by
    unfold cmpS
    rcases bl_tri a b with h | h | h
    · rw [if_pos h, bl_asymm h, if_neg (by simp), if_neg (by rintro rfl; rw [bl_irr] at h; cases h)]; rfl
    · subst h; rw [bl_irr]; simp
    · rw [if_pos h, bl_asymm h, if_neg (by simp), if_neg (by rintro rfl; rw [bl_irr] at h; cases h)], fun a => by unfold cmpS; rw [bl_irr]; simp, fun a b c h1 h2 => by
    rw [cmpS_le] at *
    rcases h1 with h1 | rfl
    · rcases h2 with h2 | rfl
      · exact .inl (bl_trans _ _ _ h1 h2)
      · exact .inl h1
    · exact h2, fun a b => by unfold cmpS; split <;> (try split) <;> omega⟩
theorem cmI : Cm cmpI := ⟨fun a b => by rw [cmpI_swap]; omega, fun a => cmpI_self, fun a b c h1 h2 => by rw [cmpI_le] at *; omega, fun a b => cmpI_rng⟩
def orI (a b : Int) : Int := if a ≠ 0 then a else b
theorem Cm.on {α β : Type} {f : α → α → Int} (h : Cm f) (g : β → α) : Cm (fun a b => f (g a) (g b)) := ⟨fun a b => h.swap _ _, fun a => h.self _, fun a b c => h.le _ _ _, fun a b => h.rng _ _⟩
theorem Cm.zero {α : Type} {f : α → α → Int} (h : Cm f) {a b c : α} (h1 : f a b ≤ 0) (h2 : f b c ≤ 0) (h0 : f a c = 0) : f a b = 0 ∧ f b c = 0 := by
  have s := h.swap a c
  have s1 := h.swap b c
  have s2 := h.swap a b
  have k1 := h.le c a b (by omega) h1
  have k2 := h.le b c a h2 (by omega)
  omega
theorem Cm.or {α : Type} {f g : α → α → Int} (hf : Cm f) (hg : Cm g) : Cm (fun a b => orI (f a b) (g a b)) := by
  refine ⟨fun a b => ?_, fun a => ?_, fun a b c h1 h2 => ?_, fun a b => ?_⟩
  · have s := hf.swap a b; have t := hg.swap a b
    unfold orI
    split <;> split <;> omega
  · unfold orI; rw [hf.self, hg.self]; rfl
  · unfold orI at *
    have k1 : f a b ≤ 0 := by split at h1 <;> omega
    have k2 : f b c ≤ 0 := by split at h2 <;> omega
    have k3 := hf.le a b c k1 k2
    by_cases h0 : f a c = 0
    · obtain ⟨z1, z2⟩ := hf.zero k1 k2 h0
      rw [if_neg (by omega)] at h1 h2 ⊢
      exact hg.le a b c h1 h2
    · rw [if_pos h0]; exact k3
  · unfold orI
    split
    · exact hf.rng a b
    · exact hg.rng a b
theorem cmp_int (k : Nat) (a b : Int) : g_cmp_Compare_int k a b = some (cmpZ a b) := by
  unfold g_cmp_Compare_int cmpZ g_cmp_isNaN_int
  simp only [Option.bind_some, decide_true, Bool.not_true, cond_false, bifd]
  split
  · rfl
  · split <;> rfl
theorem cmp_str (k : Nat) (a b : ByteArray) : g_cmp_Compare_string k a b = some (cmpS a.toList b.toList) := by
  unfold g_cmp_Compare_string cmpS g_cmp_isNaN_string
  simp only [Option.bind_some, beq_self_eq_true, Bool.not_true, cond_false]
  cases h : Op.bytesLess a.toList b.toList with
  | true => simp
  | false =>
    by_cases h2 : a.toList = b.toList
    · simp [h2]
    · have h3 : (a.toList == b.toList) = false := by simpa using h2
      simp [h2, h3]
theorem cmp_or (k : Nat) (hk : 10 ≤ k) (a b c d : Int) : g_cmp_Or_int k ([a, b, c, d] : List Int) = some (orI a (orI b (orI c d))) := by
  obtain ⟨k, rfl⟩ : ∃ k', k = k' + 5 := ⟨k - 5, by omega⟩
  have key : ∀ (n : Nat) (i : Nat) (hi : i < 4), g_cmp_Or_int_l0 (k + 5) ([a, b, c, d] : List Int) (n + 1) (i : Int) = if [a, b, c, d][i] ≠ 0 then some (.inl [a, b, c, d][i]) else g_cmp_Or_int_l0 (k + 5) ([a, b, c, d] : List Int) n ((i + 1 : Nat) : Int) := by
    intro n i hi
    rw [g_cmp_Or_int_l0.eq_2]
    simp only [Option.bind_some, bifd]
    rw [if_pos (show (i : Int) < (([a, b, c, d].length : Nat) : Int) by show (i : Int) < 4; omega), ix_nat (show i < [a, b, c, d].length from hi)]
    simp only [Option.bind_some]
    rw [wi (by omega) (by omega), show (i : Int) + 1 = ((i + 1 : Nat) : Int) by omega]
    by_cases h : [a, b, c, d][i] = 0
    · simp [h]
    · simp [h]
  have last : ∀ n, g_cmp_Or_int_l0 (k + 5) ([a, b, c, d] : List Int) (n + 1) 4 = some (.inr ()) := fun n => rfl
  unfold g_cmp_Or_int orI
  have e0 := key (k + 4) 0 (by omega)
  rw [show ((0 : Nat) : Int) = 0 from rfl, key _ 1 (by omega), key _ 2 (by omega), key _ 3 (by omega), show ((3 + 1 : Nat) : Int) = 4 from rfl, last] at e0
  rw [show g_cmp_Or_int_l0 (k + 5) ([a, b, c, d] : List Int) (k + 5) 0 = _ from e0]
  simp only [List.getElem_cons_zero, List.getElem_cons_succ]
  split
  · rfl
  split
  · rfl
  split
  · rfl
  split
  · rename_i h; rfl
  · rename_i h; simp at h; simp [h]
def bes (a b : V) : V := if a.1 = 0 ∧ b.1 ≠ 0 then (b.1, 0, 0, E0, false, 0) else a
theorem val_beside (n : Nat) (k c e : Int) (s : ByteArray) (b : Bool) (r k' c' e' : Int) (s' : ByteArray) (b' : Bool) (r' : Int) : g_val_beside n k c e s b r k' c' e' s' b' r' = some (bes (k, c, e, s, b, r) (k', c', e', s', b', r')) := by
  unfold g_val_beside bes
  by_cases h : k = 0
  · by_cases h' : k' = 0
    · simp [h, h']
    · simp [h, h']
  · simp [h]
def lowL (s : ByteArray) : List UInt8 := (strOf (I ((L s).map (mp 65 90 32)))).toList
def onesZ (b : Bool) : Int := if b then 1 else 0
def cmpF (a b : V) : Int := orI (cmpZ a.1 b.1) (orI (cmpI (val a.2.1 a.2.2.1) (val b.2.1 b.2.2.1)) (orI (cmpS (lowL a.2.2.2.1) (lowL b.2.2.2.1)) (cmpZ (onesZ a.2.2.2.2.1) (onesZ b.2.2.2.2.1))))
theorem cmF : Cm cmpF := (cmZ.on (fun v : V => v.1)).or ((cmI.on (fun v : V => val v.2.1 v.2.2.1)).or ((cmS.on (fun v : V => lowL v.2.2.2.1)).or (cmZ.on (fun v : V => onesZ v.2.2.2.2.1))))
def cmpV (a b : V) : Int := if a.1 = 4 ∨ b.1 = 4 then 0 else cmpF (bes a b) (bes b a)
/-- What is compared is small. -/
def Sm (v : V) : Prop := I64 v.2.1 ∧ Rng v.2.2.1 ∧ v.2.2.2.1.size ≤ 255
theorem rng0 : Rng 0 := by unfold Rng; omega
theorem Rt.sm {v : V} (h : Rt v) : Sm v := by
  cases h with
  | empty => exact ⟨i64_0, rng0, by decide⟩
  | num h => exact ⟨h.i64, h.rg, by show E0.size ≤ 255; decide⟩
  | text h => exact ⟨i64_0, rng0, okS_size h⟩
  | bool b => exact ⟨i64_0, rng0, by show E0.size ≤ 255; decide⟩
  | err h => exact ⟨i64_0, rng0, by show E0.size ≤ 255; decide⟩
theorem bes_sm {a b : V} (h : Rt a) : Sm (bes a b) := by
  unfold bes
  split
  · exact ⟨i64_0, rng0, by show E0.size ≤ 255; decide⟩
  · exact h.sm
theorem val_Cmp (n : Nat) (hn : 40000 ≤ n) {k c e : Int} {s : ByteArray} {b : Bool} {r : Int} (hc : I64 c) (he : I64 e) {k' c' e' : Int} {s' : ByteArray} {b' : Bool} {r' : Int} (hc' : I64 c') (he' : I64 e') :
    g_val_Cmp n k c e s b r k' c' e' s' b' r' = some (cmpV (cleanV (k, c, e, s, b, r)) (cleanV (k', c', e', s', b', r'))) := by
  unfold g_val_Cmp
  rw [val_clean n (by omega) hc he, val_clean n (by omega) hc' he']
  have h1 := clean_rt (k, c, e, s, b, r)
  have h2 := clean_rt (k', c', e', s', b', r')
  generalize cleanV (k, c, e, s, b, r) = v at h1 ⊢
  generalize cleanV (k', c', e', s', b', r') = w at h2 ⊢
  obtain ⟨k, c, e, s, b, r⟩ := v
  obtain ⟨k', c', e', s', b', r'⟩ := w
  simp only [Option.bind_some, val_beside]
  have g1 := bes_sm (b := (k', c', e', s', b', r')) h1
  have g2 := bes_sm (b := (k, c, e, s, b, r)) h2
  unfold cmpV
  by_cases h4 : k = 4
  · simp [h4]
  · by_cases h4' : k' = 4
    · simp [h4, h4']
    · rw [decide_eq_false h4, decide_eq_false h4', if_neg (by simp [h4, h4'])]
      simp only [cond_false, Option.bind_some]
      generalize bes (k, c, e, s, b, r) (k', c', e', s', b', r') = x at g1 ⊢
      generalize bes (k', c', e', s', b', r') (k, c, e, s, b, r) = y at g2 ⊢
      obtain ⟨k, c, e, s, b, r⟩ := x
      obtain ⟨k', c', e', s', b', r'⟩ := y
      obtain ⟨i1, j1, s1⟩ := g1
      obtain ⟨i2, j2, s2⟩ := g2
      simp only at i1 j1 s1 i2 j2 s2
      have z1 := L_size s
      have z2 := L_size s'
      have hd := dec_Cmp n (by omega) (c := c) (e := e) (d := c') (f := e') i1 i2
      rw [if_pos ⟨j1, j2⟩] at hd
      simp only [cmp_int, hd, utfLower (k := n) (s := s) (by omega) (by omega), utfLower (k := n) (s := s') (by omega) (by omega), cmp_str, Option.bind_some, g_val_ones, cmp_or n (by omega), cmpF, lowL]
      have ho : ∀ b : Bool, (bif b then some (1 : Int) else some 0) = some (onesZ b) := fun b => by cases b <;> rfl
      simp only [ho, Option.bind_some, cmp_int, cmp_or n (by omega)]
theorem order (k c e : Int) (s : ByteArray) (b : Bool) (r : Int) (hc : I64 c) (he : I64 e) (k' c' e' : Int) (s' : ByteArray) (b' : Bool) (r' : Int) (hc' : I64 c') (he' : I64 e')
    (k'' c'' e'' : Int) (s'' : ByteArray) (b'' : Bool) (r'' : Int) (hc'' : I64 c'') (he'' : I64 e'') : g_quirelaw13_ValOrder 40000 k c e s b r k' c' e' s' b' r' k'' c'' e'' s'' b'' r'' = some true := by
  have odd : ∀ (k c e : Int) (s : ByteArray) (b : Bool) (r : Int), I64 c → I64 e → g_quirelaw13_ValOrder_1 40000 k c e s b r = some (!(rightV (k, c, e, s, b, r)) || decide (k = 4) || decide (k = 0)) := by
    intro k c e s b r hc he
    unfold g_quirelaw13_ValOrder_1
    rw [val_Right 40000 (by decide) hc he]
    cases rightV (k, c, e, s, b, r) with
    | false => rfl
    | true => by_cases h4 : k = 4 <;> simp [h4]
  unfold g_quirelaw13_ValOrder
  rw [odd _ _ _ _ _ _ hc he, odd _ _ _ _ _ _ hc' he', odd _ _ _ _ _ _ hc'' he'']
  have hal := alive (Nat.le_refl 40000)
  simp only [Option.bind_some]
  cases h1 : (!(rightV (k, c, e, s, b, r)) || decide (k = 4) || decide (k = 0)) with
  | true => simp only [cond_true, Option.bind_some, hal]
  | false =>
    cases h2 : (!(rightV (k', c', e', s', b', r')) || decide (k' = 4) || decide (k' = 0)) with
    | true => simp only [cond_true, cond_false, Option.bind_some, hal]
    | false =>
      cases h3 : (!(rightV (k'', c'', e'', s'', b'', r'')) || decide (k'' = 4) || decide (k'' = 0)) with
      | true => simp only [cond_true, cond_false, Option.bind_some, hal]
      | false =>
        simp only [Bool.or_eq_false_iff, Bool.not_eq_false', decide_eq_false_iff_not] at h1 h2 h3
        obtain ⟨⟨r1, f1⟩, z1⟩ := h1
        obtain ⟨⟨r2, f2⟩, z2⟩ := h2
        obtain ⟨⟨r3, f3⟩, z3⟩ := h3
        have cl : ∀ {v : V}, rightV v = true → cleanV v = v := fun h => by unfold cleanV; rw [if_pos h]
        have cf : ∀ {v w : V}, rightV v = true → rightV w = true → v.1 ≠ 4 → w.1 ≠ 4 → v.1 ≠ 0 → w.1 ≠ 0 → cmpV (cleanV v) (cleanV w) = cmpF v w := by
          intro v w hv hw a1 a2 a3 a4
          rw [cl hv, cl hw]
          unfold cmpV bes
          rw [if_neg (by simp [a1, a2]), if_neg (by simp [a3]), if_neg (by simp [a4])]
        rw [val_Cmp 40000 (by decide) hc he hc' he', val_Cmp 40000 (by decide) hc' he' hc'' he'', val_Cmp 40000 (by decide) hc he hc'' he'', val_Cmp 40000 (by decide) hc' he' hc he, val_Cmp 40000 (by decide) hc he hc he]
        rw [cf r1 r2 f1 f2 z1 z2, cf r2 r3 f2 f3 z2 z3, cf r1 r3 f1 f3 z1 z3, cf r2 r1 f2 f1 z2 z1, cf r1 r1 f1 f1 z1 z1]
        have s1 := cmF.swap (k, c, e, s, b, r) (k', c', e', s', b', r')
        have s2 := cmF.self (k, c, e, s, b, r)
        have s3 := cmF.le (k, c, e, s, b, r) (k', c', e', s', b', r') (k'', c'', e'', s'', b'', r'')
        have s4 := cmF.le (k'', c'', e'', s'', b'', r'') (k', c', e', s', b', r') (k, c, e, s, b, r)
        have s5 := cmF.swap (k, c, e, s, b, r) (k'', c'', e'', s'', b'', r'')
        have s6 := cmF.swap (k', c', e', s', b', r') (k'', c'', e'', s'', b'', r'')
        have s7 := cmF.rng (k, c, e, s, b, r) (k', c', e', s', b', r')
        generalize cmpF (k, c, e, s, b, r) (k', c', e', s', b', r') = x at *
        generalize cmpF (k', c', e', s', b', r') (k'', c'', e'', s'', b'', r'') = y at *
        generalize cmpF (k, c, e, s, b, r) (k'', c'', e'', s'', b'', r'') = z at *
        generalize cmpF (k', c', e', s', b', r') (k, c, e, s, b, r) = x' at *
        generalize cmpF (k, c, e, s, b, r) (k, c, e, s, b, r) = w at *
        simp only [cond_false, Option.bind_some, hal]
        rw [wi (by omega) (by omega), decide_eq_true (show x' = 0 - x by omega), decide_eq_true s2]
        simp only [cond_true]
        by_cases hx : x ≤ 0
        · rw [decide_eq_true hx]
          simp only [cond_true]
          by_cases hy : y ≤ 0
          · rw [decide_eq_true hy, decide_eq_false (show ¬ 0 < z by have := s3 hx hy; omega)]
            simp only [cond_true, Bool.not_false]
            by_cases hx0 : x = 0
            · rw [decide_eq_true hx0]
              by_cases hy0 : y = 0
              · rw [decide_eq_true hy0, decide_eq_true (show z = 0 by have := s3 hx hy; have := s4 (by omega) (by omega); omega)]
                rfl
              · rw [decide_eq_false hy0]; rfl
            · rw [decide_eq_false hx0]; rfl
          · rw [decide_eq_false hy]
            simp only [cond_false]
            by_cases hx0 : x = 0
            · rw [decide_eq_true hx0, decide_eq_false (show ¬ y = 0 by omega)]; rfl
            · rw [decide_eq_false hx0]; rfl
        · rw [decide_eq_false hx, decide_eq_false (show ¬ x = 0 by omega)]
          rfl
theorem valOrder (a b c : S_api_Value) (ha : ((Lit.int .i64 a.fKind).wf = true) ∧ (((Lit.int .i64 a.fN.fC).wf = true) ∧ ((Lit.int .i64 a.fN.fE).wf = true) ∧ True) ∧ (a.fS.size ≤ maxLen) ∧ (True) ∧ ((Lit.int .i64 a.fE).wf = true) ∧ True) (hb : ((Lit.int .i64 b.fKind).wf = true) ∧ (((Lit.int .i64 b.fN.fC).wf = true) ∧ ((Lit.int .i64 b.fN.fE).wf = true) ∧ True) ∧ (b.fS.size ≤ maxLen) ∧ (True) ∧ ((Lit.int .i64 b.fE).wf = true) ∧ True) (hc : ((Lit.int .i64 c.fKind).wf = true) ∧ (((Lit.int .i64 c.fN.fC).wf = true) ∧ ((Lit.int .i64 c.fN.fE).wf = true) ∧ True) ∧ (c.fS.size ≤ maxLen) ∧ (True) ∧ ((Lit.int .i64 c.fE).wf = true) ∧ True) : ∃ k, g_quirelaw13_ValOrder k a.fKind a.fN.fC a.fN.fE a.fS a.fB a.fE b.fKind b.fN.fC b.fN.fE b.fS b.fB b.fE c.fKind c.fN.fC c.fN.fE c.fS c.fB c.fE = some true := ⟨_, order _ _ _ _ _ _ (i64_I ha.2.1.1) (i64_I ha.2.1.2.1) _ _ _ _ _ _ (i64_I hb.2.1.1) (i64_I hb.2.1.2.1) _ _ _ _ _ _ (i64_I hc.2.1.1) (i64_I hc.2.1.2.1)⟩
end Go.Proofs.YthpcgknknpjpdaaGreatDoor.W
namespace Go.Proofs.YthpcgknknpjpdaaGreatDoor.W
open Go Go.Q Go.Proofs
set_option linter.unusedVariables false
set_option linter.unusedSimpArgs false
set_option maxRecDepth 100000
theorem var_heap {P : Program} {w : World} {n : String} {g : Nat} {cs : Array Value} (hg : P.globalNamed n = some g) (h : w.var? P n = some cs) : ∃ t z, w.heap[g]? = some (.cells cs t z) := by
  simp only [World.var?, hg, Option.bind_some] at h
  split at h
  · rename_i c t z hx
    simp only [Option.some.injEq] at h
    subst h
    exact ⟨_, _, hx⟩
  · cases h
/-- An array of structs of two whole numbers. -/
theorem cells_of_tab2 {H : Type} {enc : TypeId × Value → H} {P : Program} {w : World} {base : Nat} {sp : Nat → Bool} {held : Bool} {fuel : Nat} {t e : TypeId} {f0 f1 : Field} {n : Nat} {k0 k1 : IntKind} {cs : List Value} {zs : List (Int × Int)} {p : List MemPlace}
    (ht : P.underlying t = some (.array n e)) (he : P.underlying e = some (.struct #[f0, f1])) (h0 : P.underlying f0.type = some (.int k0)) (h1 : P.underlying f1.type = some (.int k1)) (o0 : f0.offset = 0) (o1 : f1.offset = 1) (c0 : P.cellsOf f0.type = 1) (c1 : P.cellsOf f1.type = 1) (hce : P.cellsOf e = 2) (hct : P.cellsOf t = n * 2)
    (h : DataW.trod enc P w base sp held fuel t cs = some (.agg (zs.map fun z => .agg [.lit (.int k0 z.1), .lit (.int k1 z.2)]), p)) : cs = zs.flatMap fun z => [Value.int k0 z.1, Value.int k1 z.2] := by
  cases fuel with
  | zero => simp [DataW.trod] at h
  | succ fuel =>
    simp only [DataW.trod, ht, hce, hct] at h
    split at h
    · rename_i hl
      obtain ⟨xs, hm, hx⟩ := Option.map_eq_some_iff.1 h
      have hxs : xs.map (·.1) = zs.map fun z => (DataW.agg [.lit (.int k0 z.1), .lit (.int k1 z.2)] : DataW H) := by
        have := congrArg Prod.fst hx
        simpa using this
      have hxl : xs.length = n := by simpa using Lib.mapM_length hm
      have hzl : zs.length = n := by
        have := congrArg List.length hxs
        simp at this
        omega
      have key : ∀ i, i < n → ∃ z, zs[i]? = some z ∧ (cs.drop (i * 2)).take 2 = [Value.int k0 z.1, Value.int k1 z.2] := by
        intro i hi
        obtain ⟨b, hb, hf⟩ := Lib.mapM_at hm i i (by simp [hi])
        obtain ⟨y0, y1, m, rfl, hlen, g0, g1⟩ := Go.ChangeShapes.trod_struct2 he hf
        rw [o0, c0] at g0
        rw [o1, c1] at g1
        obtain ⟨z0, hc0, e0, _⟩ := DataW.trod_int h0 g0
        obtain ⟨z1, hc1, e1, _⟩ := DataW.trod_int h1 g1
        subst e0 e1
        have h2 : (xs.map (·.1))[i]? = some (DataW.agg [.lit (.int k0 z0), .lit (.int k1 z1)] : DataW H) := by simp [hb]
        rw [hxs, List.getElem?_map, Option.map_eq_some_iff] at h2
        obtain ⟨z, hz, he2⟩ := h2
        simp at he2
        refine ⟨z, hz, ?_⟩
        rw [he2.1, he2.2]
        rw [hce] at hlen
        generalize (cs.drop (i * 2)).take 2 = u at *
        match u, hlen with
        | [a, b], _ =>
          simp at hc0 hc1
          rw [hc0, hc1]
      have all : ∀ (m : Nat) (zs : List (Int × Int)) (cs : List Value), zs.length = m → cs.length = m * 2 → (∀ i, i < m → ∃ z, zs[i]? = some z ∧ (cs.drop (i * 2)).take 2 = [Value.int k0 z.1, Value.int k1 z.2]) → cs = zs.flatMap fun z => [Value.int k0 z.1, Value.int k1 z.2] := by
        intro m
        induction m with
        | zero =>
          intro zs cs hz hc _
          have : zs = [] := List.eq_nil_of_length_eq_zero hz
          subst this
          simpa using List.eq_nil_of_length_eq_zero hc
        | succ m ih =>
          intro zs cs hz hc hk
          match zs, hz with
          | z :: zs, hz =>
            obtain ⟨z', hz', hk0⟩ := hk 0 (by omega)
            simp at hz' hk0
            subst hz'
            match cs, hc with
            | a :: b :: cs, hc =>
              simp at hk0
              rw [hk0.1, hk0.2, List.flatMap_cons, ← ih zs cs (by simpa using hz) (by simp at hc; omega) fun i hi => ?_]
              · rfl
              · obtain ⟨y, hy1, hy2⟩ := hk (i + 1) (by omega)
                refine ⟨y, by simpa using hy1, ?_⟩
                rw [show (i + 1) * 2 = i * 2 + 1 + 1 by omega] at hy2
                simpa using hy2
            | [], hc => simp at hc
            | [a], hc => simp at hc; omega
      exact all n zs cs hzl hl key
    · cases h
theorem gAcc : Tryz.prog.globalNamed "unicode/utf8.acceptRanges" = some 1 := by kernel_rfl
theorem gFirst : Tryz.prog.globalNamed "unicode/utf8.first" = some 0 := by kernel_rfl
theorem tAcc : (Tryz.prog.globals[1]?).map (·.type) = some 136 := by kernel_rfl
theorem tFirst : (Tryz.prog.globals[0]?).map (·.type) = some 133 := by kernel_rfl
theorem htb {W : World} (h : laidMetH Tryz.prog [("unicode/utf8.acceptRanges", Rows.laid_unicode_utf8_acceptRanges), ("unicode/utf8.first", Rows.laid_unicode_utf8_first)] W) :
    ∀ g l, tabs g = some l → ∃ c t z, W.heap[g]? = some (.cells c t z) ∧ c.toList.take l.length = l := by
  rw [MakeChecks.laidMetH_plain _ _ _ (by kernel_rfl)] at h
  obtain ⟨ps, ⟨g0, t0, cs0, f0, p0, q0, hg0, ht0, hv0, hd0, ⟨g1, t1, cs1, f1, p1, q1, hg1, ht1, hv1, hd1, _, _⟩, _⟩, _, _⟩ := h
  obtain rfl := Option.some.inj (gAcc.symm.trans hg0)
  obtain rfl := Option.some.inj (gFirst.symm.trans hg1)
  obtain rfl := Option.some.inj (tAcc.symm.trans ht0)
  obtain rfl := Option.some.inj (tFirst.symm.trans ht1)
  have e0 : cs0.toList = vs1 := cells_of_tab2 (zs := tab1) Tryz.underlying136 Tryz.underlying135 Tryz.underlying5 Tryz.underlying5 rfl rfl (by kernel_rfl) (by kernel_rfl) (by kernel_rfl) (by kernel_rfl) hd0
  have hf : Rows.laid_unicode_utf8_first = Lib.tabData .u8 tab0 := by kernel_rfl
  rw [hf] at hd1
  have e1 : cs1.toList = tab0.map (Value.int .u8) := Lib.cells_of_tab Tryz.underlying133 Tryz.underlying5 (by kernel_rfl) (by kernel_rfl) hd1
  obtain ⟨ta, za, ha⟩ := var_heap gAcc hv0
  obtain ⟨tf, zf, hf⟩ := var_heap gFirst hv1
  intro g l hl
  unfold tabs at hl
  split at hl
  · rename_i hg; subst hg
    cases hl
    exact ⟨cs1, tf, zf, hf, by rw [e1, List.take_length]⟩
  · split at hl
    · rename_i hg; subst hg
      cases hl
      exact ⟨cs0, ta, za, ha, by rw [e0, List.take_length]⟩
    · cases hl
end Go.Proofs.YthpcgknknpjpdaaGreatDoor.W
