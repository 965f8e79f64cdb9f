/- Texts joined: part 3 of what LDecBack stands on. -/
import Derived.Test.YtdbeblgfccjbgaaDoorSDecBackb
import Derived.Test.YtdbeblgfccjbgaaDoorProg
namespace Go.Proofs.YtdbeblgfccjbgaaDoor.W
open Go Go.Q Go.Proofs Go.Dz
set_option linter.unusedVariables false
set_option linter.unusedSimpArgs false
theorem left_l0 (k : Nat) (hk : 3 ≤ k) {x y : Nat} {e f : Int} (hy : y < 18446744073709551616) (hy0 : y ≠ 0) {m : Nat} (hm : e - f = m) (hm' : m ≤ 1000) : ∀ (n i : Nat), i ≤ m → m - i < n →
    g_dec_left_l0 k e (y : Int) f n ((x * 10 ^ i % y : Nat) : Int) (i : Int) = some ((x * 10 ^ m % y : Nat) : Int) := by
  intro n
  induction n with
  | zero => intro i _ h; omega
  | succ n ih =>
    intro i hi hn
    rw [g_dec_left_l0.eq_2, hm, wi (n := (m : Int)) (by omega) (by omega), Option.bind_some]
    have hr : x * 10 ^ i % y < y := Nat.mod_lt _ (by omega)
    by_cases him : i < m
    · have e0 : ((y : Int) == 0) = false := by rw [beq_eq_false_iff_ne]; omega
      have m1 := mul64 k (x := x * 10 ^ i % y) (y := 10) (by omega) (by decide)
      rw [show ((10 : Nat) : Int) = 10 from rfl] at m1
      rw [dt (by omega), bt, m1, Option.bind_some, e0, Bool.not_false, bt, tm, show ((x * 10 ^ i % y : Nat) : Int) * 10 = ((x * 10 ^ i % y * 10 : Nat) : Int) by simp, wU]
      rw [div64 k hk (Nat.mod_lt _ (by decide)) hy (Nat.mod_lt _ (by omega)), Option.bind_some, wi (by omega) (by omega), show ((i : Int) + 1) = ((i + 1 : Nat) : Int) by omega]
      have hv : (x * 10 ^ i % y * 10 / 18446744073709551616 % y * 18446744073709551616 + x * 10 ^ i % y * 10 % 18446744073709551616) % y = x * 10 ^ (i + 1) % y := by
        have e1 : (x * 10 ^ i % y * 10) % y = x * 10 ^ (i + 1) % y := by
          rw [Nat.mod_mul_mod, Nat.pow_succ, Nat.mul_assoc]
        rw [← e1]
        generalize x * 10 ^ i % y * 10 = z at *
        conv => rhs; rw [← Nat.div_add_mod' z 18446744073709551616]
        rw [Nat.add_mod, Nat.mod_mul_mod, ← Nat.add_mod]
      simp only
      rw [hv]
      exact ih (i + 1) (by omega) (by omega)
    · rw [df (by omega), bf]
      congr 3
      have : i = m := by omega
      rw [this]
theorem sgn_le {neg : Bool} {w n : Nat} (h : w ≤ n) (hn : I64 (sgn neg n)) : I64 (sgn neg w) := by
  unfold I64 at *
  cases neg <;> simp [sgn] at hn ⊢ <;> omega
theorem left (k : Nat) (hk : 60 ≤ k) {c e d f : Int} (hc : Canon c e) (hd : Canon d f) (hd0 : d ≠ 0) : ∃ (w : Nat) (E : Int), g_dec_left k (decide (c < 0)) 0 ((c.natAbs : Nat) : Int) e (decide (d < 0)) 0 ((d.natAbs : Nat) : Int) f = some (0, (w : Int), E) ∧ w < 18446744073709551616 ∧ I64 (sgn (decide (c < 0)) w) ∧ Rng E ∧
    w * 10 ^ (E + 500000).toNat = (val c e).natAbs % (val d f).natAbs := by
  unfold g_dec_left
  have ac := abs_lt hc.i64
  have ad := abs_lt hd.i64
  have re := hc.rng
  have rf := hd.rng
  have e0 : (((d.natAbs : Nat) : Int) == 0) = false := by rw [beq_eq_false_iff_ne]; omega
  by_cases hfe : f ≤ e
  · rw [dt hfe, bt, e0, Bool.not_false, bt, tm]
    obtain ⟨m, hm⟩ : ∃ m : Nat, e - f = (m : Int) := ⟨(e - f).toNat, by omega⟩
    have := left_l0 k (by omega) (x := c.natAbs) ad (by omega) hm (by omega) k 0 (by omega) (by omega)
    rw [Nat.pow_zero, Nat.mul_one, show ((0 : Nat) : Int) = 0 from rfl] at this
    rw [this]
    have hr : c.natAbs * 10 ^ m % d.natAbs < d.natAbs := Nat.mod_lt _ (by omega)
    refine ⟨_, f, rfl, by omega, ?_, hd.rg, ?_⟩
    · unfold I64 sgn; split <;> omega
    · rw [val_abs, val_abs, show (e + 500000).toNat = m + (f + 500000).toNat by omega, Nat.pow_add, ← Nat.mul_assoc, Nat.mul_mod_mul_right]
  · rw [df hfe, bf]
    obtain ⟨m, hm⟩ : ∃ m : Nat, f - e = (m : Int) := ⟨(f - e).toNat, by omega⟩
    rw [wi (by omega) (by omega), hm]
    obtain ⟨b, x, y, t1, t2, t3⟩ := wide_tens k (v := d.natAbs) (m := m) (by unfold UU; omega) (by omega) (by omega)
    rw [wh_small ad, wl_small ad] at t1
    rw [t1, Option.bind_some]
    simp only
    have hB : (val d f).natAbs = d.natAbs * 10 ^ m * 10 ^ (e + 500000).toNat := by
      rw [val_abs, show (f + 500000).toNat = m + (e + 500000).toNat by omega, Nat.pow_add, Nat.mul_assoc]
    have hA : (val c e).natAbs = c.natAbs * 10 ^ (e + 500000).toNat := val_abs
    have self : I64 (sgn (decide (c < 0)) c.natAbs) := by rw [sgn_self]; exact hc.i64
    rw [hA, hB, Nat.mul_mod_mul_right]
    have ret : c.natAbs < d.natAbs * 10 ^ m → ∃ (w : Nat) (E : Int), (some (0, ((c.natAbs : Nat) : Int), e) : Option (Int × Int × Int)) = some (0, (w : Int), E) ∧ w < 18446744073709551616 ∧ I64 (sgn (decide (c < 0)) w) ∧ Rng E ∧ w * 10 ^ (E + 500000).toNat = c.natAbs % (d.natAbs * 10 ^ m) * 10 ^ (e + 500000).toNat := by
      intro h
      exact ⟨c.natAbs, e, rfl, ac, self, hc.rg, by rw [Nat.mod_eq_of_lt h]⟩
    cases b with
    | false =>
      simp only [Bool.not_false, cond_true, Option.bind_some]
      exact ret (by have := t3 rfl; unfold UU at this; omega)
    | true =>
      obtain ⟨u1, u2, u3⟩ := t2 rfl
      simp only [Bool.not_true, cond_false]
      have hcm := wide_cmp k (v := d.natAbs * 10 ^ m) (w := c.natAbs) u1 (by unfold UU; omega)
      rw [wh_small ac, wl_small ac] at hcm
      rw [u2, u3, hcm, Option.bind_some, Option.bind_some]
      have hpos : (0 < cmpN (d.natAbs * 10 ^ m) c.natAbs) ↔ c.natAbs < d.natAbs * 10 ^ m := by
        unfold cmpN
        by_cases h1 : d.natAbs * 10 ^ m = c.natAbs
        · rw [if_pos h1]; omega
        · rw [if_neg h1]
          by_cases h2 : d.natAbs * 10 ^ m < c.natAbs
          · rw [if_pos h2]; omega
          · rw [if_neg h2]; omega
      by_cases hlt : c.natAbs < d.natAbs * 10 ^ m
      · rw [dt (hpos.2 hlt), bt]
        exact ret hlt
      · rw [df (fun h => hlt (hpos.1 h)), bf, wl_small (show d.natAbs * 10 ^ m < 18446744073709551616 by omega)]
        have hne : d.natAbs * 10 ^ m ≠ 0 := Nat.ne_of_gt (Nat.mul_pos (by omega) (Nat.pow_pos (by decide)))
        have e2 : (((d.natAbs * 10 ^ m : Nat) : Int) == 0) = false := by rw [beq_eq_false_iff_ne]; omega
        rw [e2, Bool.not_false, bt, tm]
        have hle : c.natAbs % (d.natAbs * 10 ^ m) ≤ c.natAbs := Nat.mod_le _ _
        refine ⟨_, e, rfl, by omega, ?_, hc.rg, rfl⟩
        exact sgn_le hle self
end Go.Proofs.YtdbeblgfccjbgaaDoor.W
namespace Go.Proofs.YtdbeblgfccjbgaaDoor.W
open Go Go.Q Go.Proofs Go.Dz
set_option linter.unusedVariables false
set_option linter.unusedSimpArgs false
/-- The whole number that a number is, where it is one of at most 2 to the 53. -/
def Whole (V : Int) (r : Int × Bool) : Prop := (r.1.natAbs ≤ 9007199254740992 ∧ r.2 = true ∧ V = val r.1 0) ∨ (r = (0, false) ∧ ∀ n : Int, n.natAbs ≤ 9007199254740992 → V ≠ val n 0)
theorem Whole.uniq {V : Int} {r s : Int × Bool} (h : Whole V r) (k : Whole V s) : r = s := by
  obtain ⟨a, b⟩ := r
  obtain ⟨c, d⟩ := s
  rcases h with ⟨h1, h2, h3⟩ | ⟨h1, h2⟩ <;> rcases k with ⟨k1, k2, k3⟩ | ⟨k1, k2⟩
  · simp only at *
    rw [h3] at k3
    rw [val_inj k3, h2, k2]
  · exact absurd h3 (k2 _ h1)
  · exact absurd k3 (h2 _ k1)
  · rw [h1, k1]
end Go.Proofs.YtdbeblgfccjbgaaDoor.W
namespace Go.Proofs.YtdbeblgfccjbgaaDoor.W
open Go Go.Q Go.Proofs Go.Dz
set_option linter.unusedVariables false
set_option linter.unusedSimpArgs false
/-- A power. -/
def pv (c e : Int) (n : Nat) : Int := val (c ^ n) (e * n)
theorem pv_zero {c e : Int} : pv c e 0 = val 1 0 := by unfold pv; simp
theorem pv_succ_mul {c e : Int} {n : Nat} (he : -2000 ≤ e) (hn : -200000 ≤ e * n) : val (c ^ n) (e * n) * val c e = pv c e (n + 1) * 10 ^ 500000 := by
  unfold pv
  rw [val_mul (by omega) (by omega), ← Int.pow_succ]
  congr 2
  rw [Int.natCast_add, Int.mul_add]; simp
theorem pv_congr {c e c' e' : Int} (he : -18 ≤ e ∧ e ≤ 18) (he' : -18 ≤ e' ∧ e' ≤ 18) (h : val c' e' = val c e) : ∀ n, n ≤ 100 → pv c' e' n = pv c e n := by
  intro n
  induction n with
  | zero => intro _; rw [pv_zero, pv_zero]
  | succ n ih =>
    intro hn
    have i1 := ih (by omega)
    have b1 : -18 * (100 : Int) ≤ e * (n : Int) := by
      have := Int.mul_le_mul_of_nonneg_right he.1 (show (0 : Int) ≤ n by omega); omega
    have b2 : -18 * (100 : Int) ≤ e' * (n : Int) := by
      have := Int.mul_le_mul_of_nonneg_right he'.1 (show (0 : Int) ≤ n by omega); omega
    have a1 := pv_succ_mul (c := c) (e := e) (n := n) (by omega) (by omega)
    have a2 := pv_succ_mul (c := c') (e := e') (n := n) (by omega) (by omega)
    rw [h] at a2
    unfold pv at i1
    rw [i1, a1] at a2
    exact (Int.eq_of_mul_eq_mul_right (Int.ne_of_gt ten_pos) a2).symm
end Go.Proofs.YtdbeblgfccjbgaaDoor.W
namespace Go.Proofs.YtdbeblgfccjbgaaDoor.W
open Go Go.Q Go.Proofs Go.Dz
set_option linter.unusedVariables false
set_option linter.unusedSimpArgs false
/-- What a power by a whole number is. -/
def IsPow (c e n V : Int) : Prop := if 0 ≤ n then V = pv c e n.toNat else V * pv c e (-n).toNat = val 1 0 * 10 ^ 500000
def PowAns (c e : Int) (r : Int × Bool) (g : Option (Int × Int × Int)) : Prop :=
  if r.2 = false ∨ r.1 < -64 ∨ 64 < r.1 then g = some (30, 0, 0) else if c = 0 ∧ r.1 < 0 then g = some (31, 0, 0) else ∃ er C X : Int, g = some (er, C, X) ∧ Tells (IsPow c e r.1) ((C, X), er)
theorem PowAns.congr {c e c' e' : Int} {r : Int × Bool} {g : Option (Int × Int × Int)} (he : -18 ≤ e ∧ e ≤ 18) (he' : -18 ≤ e' ∧ e' ≤ 18) (hv : val c' e' = val c e) (h : PowAns c' e' r g) : PowAns c e r g := by
  unfold PowAns at *
  have h0 : c' = 0 ↔ c = 0 := by
    constructor
    · intro h; rw [h, val_zero] at hv; exact val_eq_zero hv.symm
    · intro h; rw [h, val_zero] at hv; exact val_eq_zero hv
  by_cases h1 : r.2 = false ∨ r.1 < -64 ∨ 64 < r.1
  · rwa [if_pos h1] at h ⊢
  · rw [if_neg h1] at h ⊢
    simp only [h0] at h
    by_cases h2 : c = 0 ∧ r.1 < 0
    · rwa [if_pos h2] at h ⊢
    · rw [if_neg h2] at h ⊢
      obtain ⟨er, C, X, k1, k2⟩ := h
      refine ⟨er, C, X, k1, k2.congr fun a => ?_⟩
      unfold IsPow
      rw [pv_congr he he' hv _ (by omega), pv_congr he he' hv _ (by omega)]
end Go.Proofs.YtdbeblgfccjbgaaDoor.W
namespace Go.Proofs.YtdbeblgfccjbgaaDoor.W
open Go Go.Q Go.Proofs Go.Dz
set_option linter.unusedVariables false
set_option linter.unusedSimpArgs false
end Go.Proofs.YtdbeblgfccjbgaaDoor.W
namespace Go.Proofs.YtdbeblgfccjbgaaDoor.W
open Go Go.Q Go.Proofs Go.Dz
set_option linter.unusedVariables false
set_option linter.unusedSimpArgs false
end Go.Proofs.YtdbeblgfccjbgaaDoor.W
namespace Go.Proofs.YtdbeblgfccjbgaaDoor.W
open Go Go.Q Go.Proofs Go.Dz
set_option linter.unusedVariables false
set_option linter.unusedSimpArgs false
theorem Sp.ok {R : Prop} [Decidable R] {p : Int → Prop} {g : Option (Int × Int × Int)} (h : Sp R p g) : ∃ er c x : Int, g = some (er, c, x) ∧ (er = 0 → R ∧ Canon c x ∧ p (val c x)) := by
  unfold Sp at h
  by_cases hR : R
  · rw [if_pos hR] at h
    obtain ⟨er, c, x, h1, h2⟩ := h
    refine ⟨er, c, x, h1, fun h0 => ⟨hR, ?_⟩⟩
    rcases h2 with ⟨_, h3, h4⟩ | ⟨h3, _⟩
    · exact ⟨h3, h4⟩
    · simp only [Prod.mk.injEq] at h3; omega
  · rw [if_neg hR] at h
    exact ⟨1, 0, 0, h, fun h => by omega⟩
end Go.Proofs.YtdbeblgfccjbgaaDoor.W
namespace Go.Proofs.YtdbeblgfccjbgaaDoor.W
open Go Go.Q Go.Proofs Go.Dz
set_option linter.unusedVariables false
set_option linter.unusedSimpArgs false
theorem dec_Make (k : Nat) (hk : 60 ≤ k) {c e : Int} (hc : I64 c) (he : Rng e) : ∃ c' e' : Int, g_dec_Make k c e = some (0, c', e') ∧ Canon c' e' ∧ val c' e' = val c e := by
  unfold g_dec_Make
  obtain ⟨c', e', h1, h2, h3⟩ := tell_ok k hk hc he
  have he' := he
  unfold Rng at he'
  have hg : ((bif (!(decide (c = 0))) then (bif (decide (e < (-100))) then some true else some (decide (100 < e))) else some false) : Option Bool) = some false := by
    rw [df (show ¬ e < -100 by omega), df (show ¬ 100 < e by omega)]
    cases decide (c = 0) <;> rfl
  rw [hg, Option.bind_some, bf, size_eq k hc, Option.bind_some, h1]
  exact ⟨c', e', rfl, h2, h3⟩
end Go.Proofs.YtdbeblgfccjbgaaDoor.W
namespace Go.Proofs.YtdbeblgfccjbgaaDoor.W
open Go Go.Q Go.Proofs Go.Dz
set_option linter.unusedVariables false
set_option linter.unusedSimpArgs false
/-- The string of a list of bytes. -/
def B (l : List UInt8) : ByteArray := ByteArray.mk l.toArray
theorem L_B (l : List UInt8) : L (B l) = l := L_mk l
theorem B_L (s : ByteArray) : B (L s) = s := L_ext (L_B _)
theorem B_size (l : List UInt8) : (B l).size = l.length := by rw [L_size, L_B]
theorem B_ints (l : List UInt8) : strInts (B l) = I l := by rw [strInts_L, L_B]
theorem B_list (l : List UInt8) : (B l).toList = l := by rw [L_toList, L_B]
theorem B_ext (l : List UInt8) (i j : Nat) : (B l).extract i j = B ((l.drop i).take (j - i)) := L_ext (by rw [L_extract, L_B, L_B])
theorem B_app (a b : List UInt8) : B a ++ B b = B (a ++ b) := L_ext (by rw [L_append, L_B, L_B, L_B])
theorem B_nil : ByteArray.mk #[] = B [] := rfl
theorem beq_nil (l : List UInt8) : (l == ([] : List UInt8)) = l.isEmpty := by cases l <;> rfl
/-- One given byte ahead. -/
def cut1 (c : UInt8) : List UInt8 → Bool × List UInt8
  | [] => (false, [])
  | b :: r => if b = c then (true, r) else (false, b :: r)
theorem take_eq (k : Nat) (c : UInt8) (l : List UInt8) (hl : l.length ≤ 9223372036854775807) : g_dec_parser_take k (B [c]) (B l) = some ((cut1 c l).1, B (cut1 c l).2) := by
  unfold g_dec_parser_take g_strings_CutPrefix g_internal_stringslite_CutPrefix g_internal_stringslite_HasPrefix
  simp only [B_size, B_list, B_ext, Option.bind_some, List.length_cons, List.length_nil]
  cases l with
  | nil => simp [cut1]
  | cons b r =>
    have h1 : ((0 + 1 : Nat) : Int) ≤ ((r.length + 1 : Nat) : Int) := by omega
    have h2 : (0 : Int) ≤ 0 ∧ (0 : Int) ≤ ((0 + 1 : Nat) : Int) ∧ ((0 + 1 : Nat) : Int) ≤ ((r.length + 1 : Nat) : Int) := by omega
    have h3 : (0 : Int) ≤ ((0 + 1 : Nat) : Int) ∧ ((0 + 1 : Nat) : Int) ≤ ((r.length + 1 : Nat) : Int) ∧ ((r.length + 1 : Nat) : Int) ≤ ((r.length + 1 : Nat) : Int) := by omega
    simp only [List.length_cons, decide_eq_true h1, decide_eq_true h2, decide_eq_true h3, cond_true, Option.bind_some]
    unfold cut1
    by_cases hb : b = c
    · simp [hb]
    · have : (b == c) = false := by simp [hb]
      simp [hb, this]
def isd (b : UInt8) : Bool := decide (48 ≤ b.toNat) && decide (b.toNat ≤ 57)
def tw (l : List UInt8) : List UInt8 := l.takeWhile isd
def dw (l : List UInt8) : List UInt8 := l.dropWhile isd
theorem tw_dw (l : List UInt8) : tw l ++ dw l = l := List.takeWhile_append_dropWhile
theorem drop_tw (l : List UInt8) : l.drop (tw l).length = dw l := by
  conv => lhs; arg 2; rw [← tw_dw l]
  exact List.drop_left
theorem take_tw (l : List UInt8) : l.take (tw l).length = tw l := by
  conv => lhs; arg 2; rw [← tw_dw l]
  exact List.take_left
theorem tw_len (l : List UInt8) : (tw l).length + (dw l).length = l.length := by rw [← List.length_append, tw_dw]
theorem tw_all (l : List UInt8) : ∀ b ∈ tw l, isd b = true := by
  unfold tw
  induction l with
  | nil => intro b hb; cases hb
  | cons a r ih =>
    intro b hb
    rw [List.takeWhile_cons] at hb
    split at hb
    · rcases List.mem_cons.1 hb with rfl | h
      · assumption
      · exact ih b h
    · cases hb
theorem drop_cases (l : List UInt8) (i : Nat) (hi : i ≤ l.length) : (i = l.length ∧ l.drop i = []) ∨ (i < l.length ∧ ∃ b, l.drop i = b :: l.drop (i + 1) ∧ ix (I l) (i : Int) = some (b.toNat : Int)) := by
  rcases Nat.lt_or_ge i l.length with h | h
  · refine .inr ⟨h, l[i], List.drop_eq_getElem_cons h, ?_⟩
    rw [ix_I h]
    simp [byt, h]
  · exact .inl ⟨by omega, List.drop_eq_nil_of_le h⟩
theorem tw_cons (b : UInt8) (r : List UInt8) : tw (b :: r) = if isd b then b :: tw r else [] := by unfold tw; rw [List.takeWhile_cons]
theorem dw_cons (b : UInt8) (r : List UInt8) : dw (b :: r) = if isd b then dw r else b :: r := by unfold dw; rw [List.dropWhile_cons]
theorem isd_bif (b : UInt8) : (bif (decide ((48 : Int) ≤ (b.toNat : Int))) then some (decide ((b.toNat : Int) ≤ 57)) else some false) = some (isd b) := by
  unfold isd
  by_cases h : 48 ≤ b.toNat
  · have h' : (48 : Int) ≤ (b.toNat : Int) := by omega
    simp only [decide_eq_true h', decide_eq_true h, cond_true, Bool.true_and]
    congr 1
    rw [decide_eq_decide]
    omega
  · have h' : ¬ (48 : Int) ≤ (b.toNat : Int) := by omega
    simp [decide_eq_false h', decide_eq_false h]
theorem some_l0 (k : Nat) (l : List UInt8) (hl : l.length ≤ 140737488351232) : ∀ n i : Nat, i ≤ l.length → l.length < n + i → g_dec_parser_some_l0 k (B l) n (i : Int) = some ((i + (tw (l.drop i)).length : Nat) : Int)
  | 0, i, h, h' => by omega
  | n + 1, i, h, h' => by
    unfold g_dec_parser_some_l0
    simp only [B_size, B_ints, Option.bind_some]
    rcases drop_cases l i h with ⟨e, e'⟩ | ⟨e, b, e1, e2⟩
    · rw [decide_eq_false (by omega), e']
      simp [tw]
    · rw [decide_eq_true (by omega), cond_true, e2]
      simp only [Option.bind_some, isd_bif]
      rw [e1, tw_cons]
      cases isd b with
      | false => simp
      | true =>
        simp only [cond_true, if_true]
        rw [show IntKind.wrap .i64 ((i : Int) + 1) = ((i + 1 : Nat) : Int) from by rw [wi (by omega) (by omega)]; omega, some_l0 k l hl n (i + 1) (by omega) (by omega), List.length_cons]
        congr 2
        omega
theorem some_eq (k : Nat) (l : List UInt8) (hl : l.length ≤ 140737488351232) (hk : l.length < k) : g_dec_parser_some k (B l) = some (B (tw l), B (dw l)) := by
  have ht := tw_len l
  unfold g_dec_parser_some
  rw [show (0 : Int) = ((0 : Nat) : Int) from rfl, some_l0 k l hl k 0 (by omega) (by omega), List.drop_zero]
  simp only [Option.bind_some, B_size, Nat.zero_add, B_ext]
  rw [decide_eq_true (by omega), cond_true, decide_eq_true (by omega), cond_true, Int.toNat_natCast, Int.toNat_natCast, Int.toNat_natCast]
  simp only [List.drop_zero, Nat.sub_zero, take_tw, drop_tw]
  rw [List.take_of_length_le (by omega)]
end Go.Proofs.YtdbeblgfccjbgaaDoor.W
namespace Go.Proofs.YtdbeblgfccjbgaaDoor.W
open Go Go.Q Go.Proofs Go.Dz
set_option linter.unusedVariables false
set_option linter.unusedSimpArgs false
/-- Noughts ahead, cut off. -/
def lz : List UInt8 → List UInt8
  | [] => []
  | b :: r => if b = 48 then lz r else b :: r
/-- Noughts behind, cut off. -/
def rz (l : List UInt8) : List UInt8 := (lz l.reverse).reverse
theorem lz_len (l : List UInt8) : (lz l).length ≤ l.length := by
  induction l with
  | nil => exact Nat.le_refl _
  | cons b r ih => unfold lz; split <;> simp <;> omega
theorem rz_len (l : List UInt8) : (rz l).length ≤ l.length := by have := lz_len l.reverse; unfold rz; simpa using this
theorem rz_snoc (l : List UInt8) (b : UInt8) : rz (l ++ [b]) = if b = 48 then rz l else l ++ [b] := by
  unfold rz
  rw [List.reverse_append]
  show (lz (b :: l.reverse)).reverse = _
  rw [lz]
  split <;> simp
theorem u8_eq (b c : UInt8) : (decide ((b.toNat : Int) = (c.toNat : Int))) = decide (b = c) := by
  rw [decide_eq_decide]
  constructor
  · intro h; exact UInt8.toNat_inj.1 (by omega)
  · rintro rfl; rfl
theorem u8_48 (b : UInt8) : (decide ((b.toNat : Int) = 48)) = decide (b = 48) := u8_eq b 48
theorem bifd {α : Type} (p : Prop) [Decidable p] (x y : α) : (bif decide p then x else y) = if p then x else y := by by_cases h : p <;> simp [h]
theorem trimL_l0 (k : Nat) : ∀ (n : Nat) (l : List UInt8), l.length < n → l.length ≤ 140737488351232 → g_strings_trimLeftByte_l0 k 48 n (B l) = some (B (lz l))
  | 0, l, h, _ => by omega
  | n + 1, [], h, _ => by unfold g_strings_trimLeftByte_l0; simp [B_size, lz]
  | n + 1, b :: r, h, hl => by
    unfold g_strings_trimLeftByte_l0
    simp only [B_size, B_ints, Option.bind_some]
    rw [decide_eq_true (by simp only [List.length_cons]; omega), cond_true, show ix (I (b :: r)) 0 = some (b.toNat : Int) from rfl]
    rw [lz]
    simp only [Option.bind_some, u8_48]
    rw [bifd]
    split
    · rw [bifd, if_pos (by simp only [List.length_cons]; omega), B_ext]
      rw [show (Int.toNat 1) = 1 from rfl, List.drop_one, List.tail_cons, Int.toNat_natCast, List.take_of_length_le (by simp only [List.length_cons]; omega), trimL_l0 k n r (by simp only [List.length_cons] at h; omega) (by simp only [List.length_cons] at hl; omega)]
    · rfl
theorem is48 : ix (strInts (B [48])) 0 = some 48 := rfl
theorem TrimLeft_eq (k : Nat) (l : List UInt8) (hl : l.length ≤ 140737488351232) (hk : l.length < k) : g_strings_TrimLeft k (B l) (B [48]) = some (B (lz l)) := by
  unfold g_strings_TrimLeft
  simp only [B_list, B_nil, beq_nil, Option.bind_some]
  cases l with
  | nil => rfl
  | cons b r =>
    simp only [List.isEmpty_cons, cond_false, Option.bind_some, is48, B_size]
    rw [decide_eq_true (by rfl), cond_true, decide_eq_true (by decide)]
    simp only [Option.bind_some, cond_true]
    unfold g_strings_trimLeftByte
    rw [trimL_l0 k k _ hk hl]
    rfl
theorem trimR_l0 (k : Nat) : ∀ (n : Nat) (l : List UInt8), l.length < n → l.length ≤ 140737488351232 → g_strings_trimRightByte_l0 k 48 n (B l) = some (B (rz l))
  | 0, l, h, _ => by omega
  | n + 1, l, h, hl => by
    rcases List.eq_nil_or_concat l with rfl | ⟨r, b, rfl⟩
    · unfold g_strings_trimRightByte_l0; simp [B_size, rz, lz]
    · rw [List.concat_eq_append] at *
      simp only [List.length_append, List.length_cons, List.length_nil] at h hl
      unfold g_strings_trimRightByte_l0
      simp only [B_size, B_ints, Option.bind_some, List.length_append, List.length_cons, List.length_nil]
      rw [decide_eq_true (by omega), cond_true, wi (by omega) (by omega), show ((r.length + (0 + 1) : Nat) : Int) - 1 = (r.length : Int) by omega, ix_I (by simp)]
      have hb : byt (r ++ [b]) r.length = b.toNat := by simp [byt]
      simp only [Option.bind_some, hb, u8_48, bifd, rz_snoc]
      split
      · rw [if_pos (by omega), B_ext]
        simp only [Int.toNat_natCast, Int.toNat_zero, List.drop_zero, Nat.sub_zero, List.take_left]
        exact trimR_l0 k n r (by omega) (by omega)
      · rfl
theorem TrimRight_eq (k : Nat) (l : List UInt8) (hl : l.length ≤ 140737488351232) (hk : l.length < k) : g_strings_TrimRight k (B l) (B [48]) = some (B (rz l)) := by
  unfold g_strings_TrimRight
  simp only [B_list, B_nil, beq_nil, Option.bind_some]
  cases l with
  | nil => rfl
  | cons b r =>
    simp only [List.isEmpty_cons, cond_false, Option.bind_some, is48, B_size]
    rw [decide_eq_true (by rfl), cond_true, decide_eq_true (by decide)]
    simp only [Option.bind_some, cond_true]
    unfold g_strings_trimRightByte
    rw [trimR_l0 k k _ hk hl]
    rfl
/-- The value of digits behind a value. -/
def dg (b : UInt8) : Nat := b.toNat - 48
def dvf (a : Nat) (l : List UInt8) : Nat := l.foldl (fun a b => a * 10 + dg b) a
theorem dvf_nil (a : Nat) : dvf a [] = a := rfl
theorem dvf_cons (a : Nat) (b : UInt8) (r : List UInt8) : dvf a (b :: r) = dvf (a * 10 + dg b) r := by unfold dvf; exact List.foldl_cons ..
def dv (l : List UInt8) : Nat := dvf 0 l
theorem dvf_eq (a : Nat) (l : List UInt8) : dvf a l = a * 10 ^ l.length + dv l := by
  induction l generalizing a with
  | nil => simp [dvf_nil, dv]
  | cons b r ih =>
    unfold dv
    rw [dvf_cons, dvf_cons, ih, ih (0 * 10 + dg b), List.length_cons, Nat.pow_succ, Nat.add_mul, Nat.zero_mul, Nat.zero_add, Nat.mul_assoc, Nat.mul_comm 10]
    omega
theorem dv_cons (b : UInt8) (r : List UInt8) : dv (b :: r) = dg b * 10 ^ r.length + dv r := by
  conv => lhs; unfold dv
  rw [dvf_cons, dvf_eq, Nat.zero_mul, Nat.zero_add]
theorem dv_app (l r : List UInt8) : dv (l ++ r) = dv l * 10 ^ r.length + dv r := by
  induction l with
  | nil => simp [dvf_nil, dv]
  | cons b l ih => rw [List.cons_append, dv_cons, dv_cons, ih, List.length_append, Nat.pow_add, Nat.add_mul, Nat.mul_assoc]; omega
def Digs (l : List UInt8) : Prop := ∀ b ∈ l, isd b = true
theorem isd_le' {b : UInt8} (h : isd b = true) : 48 ≤ b.toNat ∧ b.toNat ≤ 57 := by
  unfold isd at h
  rw [Bool.and_eq_true, decide_eq_true_iff, decide_eq_true_iff] at h
  exact h
theorem isd_le {b : UInt8} (h : isd b = true) : 48 ≤ b.toNat ∧ b.toNat ≤ 57 ∧ dg b + 48 = b.toNat := by have := isd_le' h; unfold dg; omega
theorem dv_lt {l : List UInt8} (h : Digs l) : dv l < 10 ^ l.length := by
  induction l with
  | nil => simp [dvf_nil, dv]
  | cons b r ih =>
    have h1 := isd_le (h b (List.mem_cons_self ..))
    have h2 := ih fun c hc => h c (List.mem_cons_of_mem _ hc)
    rw [dv_cons, List.length_cons, Nat.pow_succ]
    have : dg b * 10 ^ r.length ≤ 9 * 10 ^ r.length := Nat.mul_le_mul_right _ (by omega)
    omega
theorem w8d {n : Nat} (h : n < 256) : IntKind.wrap .u8 (n : Int) = (n : Int) := by
  have : IntKind.wrap .u8 (n : Int) = (n : Int) % 256 := by simp [IntKind.wrap, IntKind.bits, IntKind.signed]
  rw [this]; omega
theorem w64d {n : Nat} (h : n < 18446744073709551616) : IntKind.wrap .u64 (n : Int) = (n : Int) := by
  rw [wU]; omega
theorem dig_wrap {b : UInt8} (h : isd b = true) : IntKind.wrap .i64 (IntKind.wrap .u8 ((b.toNat : Int) - 48)) = ((dg b : Nat) : Int) := by
  have := isd_le h
  rw [show (b.toNat : Int) - 48 = ((dg b : Nat) : Int) by omega, w8d (by omega), wi (by omega) (by omega)]
theorem dvf_le (a : Nat) (l : List UInt8) : a ≤ dvf a l := by
  rw [dvf_eq]
  have : a * 1 ≤ a * 10 ^ l.length := Nat.mul_le_mul_left _ (Nat.pow_pos (by decide))
  omega
theorem drop_digs {l : List UInt8} (h : Digs l) (i : Nat) : Digs (l.drop i) := fun b hb => h b (List.mem_of_mem_drop hb)
theorem exp_l0 (k : Nat) (l : List UInt8) (hd : Digs l) (hl : l.length ≤ 3) : ∀ n i a : Nat, i ≤ l.length → l.length < n + i → dvf a (l.drop i) < 1000 → g_dec_Parse_l0 k (B l) n (i : Int) (a : Int) = some ((dvf a (l.drop i) : Nat) : Int)
  | 0, i, a, h, h', _ => by omega
  | n + 1, i, a, h, h', hb => by
    unfold g_dec_Parse_l0
    simp only [B_size, B_ints, Option.bind_some]
    rcases drop_cases l i h with ⟨e, e'⟩ | ⟨e, b, e1, e2⟩
    · rw [decide_eq_false (by omega), e']
      rfl
    · have hi : isd b = true := drop_digs hd i b (by rw [e1]; exact List.mem_cons_self ..)
      rw [e1] at hb ⊢
      rw [dvf_cons] at hb ⊢
      have hle := dvf_le (a * 10 + dg b) (l.drop (i + 1))
      rw [decide_eq_true (by omega), cond_true, e2]
      simp only [Option.bind_some, dig_wrap hi]
      rw [wi (n := 10 * (a : Int)) (by omega) (by omega), wi (by omega) (by omega), wi (by omega) (by omega), show 10 * (a : Int) + ((dg b : Nat) : Int) = ((a * 10 + dg b : Nat) : Int) by omega, show (i : Int) + 1 = ((i + 1 : Nat) : Int) by omega]
      exact exp_l0 k l hd hl n (i + 1) _ (by omega) (by omega) hb
theorem wide_l1 (k : Nat) (l : List UInt8) (hd : Digs l) (hl : l.length ≤ 30) : ∀ n i v : Nat, i ≤ l.length → l.length < n + i → dvf v (l.drop i) < UU → g_dec_Parse_l1 k (B l) n (i : Int) (wh v) (wl v) = some (wh (dvf v (l.drop i)), wl (dvf v (l.drop i)))
  | 0, i, v, h, h', _ => by omega
  | n + 1, i, v, h, h', hb => by
    unfold g_dec_Parse_l1
    simp only [B_size, B_ints, Option.bind_some]
    rcases drop_cases l i h with ⟨e, e'⟩ | ⟨e, b, e1, e2⟩
    · rw [decide_eq_false (by omega), e']
      rfl
    · have hi : isd b = true := drop_digs hd i b (by rw [e1]; exact List.mem_cons_self ..)
      rw [e1] at hb ⊢
      rw [dvf_cons] at hb ⊢
      have hle := dvf_le (v * 10 + dg b) (l.drop (i + 1))
      have h1 : v * 10 + dg b < UU := by omega
      have hv : v < UU := by omega
      have hi9 := isd_le hi
      have hc : dg b < 18446744073709551616 := by omega
      have hcU : dg b < UU := by omega
      obtain ⟨x, hx, hx'⟩ := wide_times k (v := v) (n := 10) hv (by decide)
      obtain rfl := hx' (by omega)
      rw [decide_eq_true (by omega), cond_true, e2]
      simp only [Option.bind_some, dig_wrap hi]
      rw [show ((10 : Nat) : Int) = 10 from rfl] at hx
      rw [hx, show wl v * (10 : Int) = wl v * ((10 : Nat) : Int) from rfl, wide_times_lo]
      simp only [Option.bind_some]
      have hw : IntKind.wrap .u64 ((dg b : Nat) : Int) = wl (dg b) := by
        rw [wl_small hc]
        exact w64d hc
      have h0 : (0 : Int) = wh (dg b) := (wh_small hc).symm
      have hp := wide_plus k (v := v * 10) (w := dg b) (by omega) hcU
      obtain ⟨hq1, hq2⟩ := wide_plus_val (v := v * 10) (w := dg b) (by omega) hcU h1
      rw [← h0] at hp hq1
      rw [hw, hp]
      simp only [Option.bind_some, hq1, hq2]
      rw [wi (by omega) (by omega), show (i : Int) + 1 = ((i + 1 : Nat) : Int) by omega]
      exact wide_l1 k l hd hl n (i + 1) _ (by omega) (by omega) hb
end Go.Proofs.YtdbeblgfccjbgaaDoor.W
namespace Go.Proofs.YtdbeblgfccjbgaaDoor.W
open Go Go.Q Go.Proofs Go.Dz
set_option linter.unusedVariables false
set_option linter.unusedSimpArgs false
/-- The exponent. -/
def PX (ex ok : Bool) (l : List UInt8) : Bool × List UInt8 × Int :=
  if ex then
    let m := cut1 45 l
    let r := if m.1 then m.2 else (cut1 43 m.2).2
    let o := ok && (decide (1 ≤ (tw r).length) && decide ((tw r).length ≤ 3))
    (o, dw r, if o then (if m.1 then -((dv (tw r) : Nat) : Int) else ((dv (tw r) : Nat) : Int)) else 0)
  else (ok, l, 0)
/-- The part behind the point. -/
def PP (ok : Bool) (l : List UInt8) : List UInt8 × Bool × List UInt8 :=
  let p := cut1 46 l
  if p.1 then (tw p.2, ok && !(tw p.2).isEmpty, dw p.2) else ([], ok, p.2)
/-- e or E. -/
def PE (l : List UInt8) : Bool × List UInt8 :=
  let x := cut1 101 l
  if x.1 then x else cut1 69 x.2
/-- What stands in a text: the sign, the digits, the exponent of the last of them. -/
def PL (l : List UInt8) : Option (Bool × List UInt8 × Int) :=
  let a := cut1 45 l
  let p := PP (decide (l.length ≤ 255) && !(tw a.2).isEmpty) (dw a.2)
  let y := PE p.2.2
  let z := PX y.1 p.2.1 y.2
  if z.1 && z.2.1.isEmpty then some (a.1, tw a.2 ++ p.1, z.2.2 - (p.1.length : Int)) else none
theorem cut1_len (c : UInt8) (l : List UInt8) : (cut1 c l).2.length ≤ l.length := by
  cases l with
  | nil => exact Nat.le_refl _
  | cons b r => rw [cut1]; split <;> simp
theorem tw_le (l : List UInt8) : (tw l).length ≤ l.length := by have := tw_len l; omega
theorem dw_le (l : List UInt8) : (dw l).length ≤ l.length := by have := tw_len l; omega
theorem PP_len (ok : Bool) (l : List UInt8) : (PP ok l).1.length ≤ l.length ∧ (PP ok l).2.2.length ≤ l.length := by
  have h1 := cut1_len 46 l
  have h2 := tw_le (cut1 46 l).2
  have h3 := dw_le (cut1 46 l).2
  unfold PP
  dsimp only
  split
  · dsimp only; omega
  · dsimp only; rw [List.length_nil]; omega
theorem PE_len (l : List UInt8) : (PE l).2.length ≤ l.length := by
  have h1 := cut1_len 101 l
  have h2 := cut1_len 69 (cut1 101 l).2
  unfold PE
  dsimp only
  split <;> omega
theorem tw_digs (l : List UInt8) : Digs (tw l) := tw_all l
theorem PP_digs (ok : Bool) (l : List UInt8) : Digs (PP ok l).1 := by
  unfold PP
  dsimp only
  split
  · exact tw_digs _
  · intro b hb; cases hb
theorem lz_nz (l : List UInt8) : lz l = [] ∨ ∃ b r, lz l = b :: r ∧ b ≠ 48 := by
  induction l with
  | nil => exact .inl rfl
  | cons b r ih =>
    rw [lz]
    split
    · exact ih
    · exact .inr ⟨b, r, rfl, by assumption⟩
theorem lz_dv (l : List UInt8) : dv (lz l) = dv l := by
  induction l with
  | nil => rfl
  | cons b r ih =>
    rw [lz]
    split
    · subst_vars
      rw [ih, dv_cons, show dg 48 = 0 from rfl, Nat.zero_mul, Nat.zero_add]
    · rfl
theorem lz_digs {l : List UInt8} (h : Digs l) : Digs (lz l) := by
  induction l with
  | nil => exact h
  | cons b r ih =>
    rw [lz]
    split
    · exact ih fun c hc => h c (List.mem_cons_of_mem _ hc)
    · exact h
theorem rz_digs {l : List UInt8} (h : Digs l) : Digs (rz l) := fun b hb => by
  unfold rz at hb
  exact lz_digs (l := l.reverse) (fun c hc => h c (List.mem_reverse.1 hc)) b (List.mem_reverse.1 hb)
theorem snocI {P : List UInt8 → Prop} (h0 : P []) (h1 : ∀ l b, P l → P (l ++ [b])) : ∀ n (l : List UInt8), l.length = n → P l
  | 0, l, h => by cases l with
    | nil => exact h0
    | cons _ _ => cases h
  | n + 1, l, h => by
    rcases List.eq_nil_or_concat l with rfl | ⟨r, b, rfl⟩
    · cases h
    · rw [List.concat_eq_append] at *
      exact h1 r b (snocI h0 h1 n r (by simp at h; omega))
theorem rz_dv (l : List UInt8) : dv l = dv (rz l) * 10 ^ (l.length - (rz l).length) := by
  refine snocI (P := fun l => dv l = dv (rz l) * 10 ^ (l.length - (rz l).length)) (by rfl) (fun l b ih => ?_) _ l rfl
  rw [rz_snoc]
  split
  · subst_vars
    have := rz_len l
    rw [dv_app, dv_cons, show dg 48 = 0 from rfl, ih, List.length_append, List.length_cons, List.length_nil, show l.length + (0 + 1) - (rz l).length = l.length - (rz l).length + 1 by omega, Nat.pow_succ]
    rw [show dv [] = 0 from rfl, Nat.mul_assoc]
    simp
    rw [Nat.pow_succ]
  · simp
theorem rz_last (l : List UInt8) : rz l = [] ∨ ∃ r b, rz l = r ++ [b] ∧ b ≠ 48 := by
  refine snocI (P := fun l => rz l = [] ∨ ∃ r b, rz l = r ++ [b] ∧ b ≠ 48) (.inl rfl) (fun l b ih => ?_) _ l rfl
  rw [rz_snoc]
  split
  · exact ih
  · exact .inr ⟨l, b, rfl, by assumption⟩
theorem rz_head {b : UInt8} {r : List UInt8} (hb : b ≠ 48) : ∃ r', rz (b :: r) = b :: r' := by
  have h := rz_len (b :: r)
  suffices ∀ n (l : List UInt8), l.length = n → (∃ r, l = b :: r) → ∃ r', rz l = b :: r' from this _ _ rfl ⟨r, rfl⟩
  intro n l hn
  refine snocI (P := fun l => (∃ r, l = b :: r) → ∃ r', rz l = b :: r') (fun ⟨r, h⟩ => by cases h) (fun l c ih hr => ?_) n l hn
  rw [rz_snoc]
  obtain ⟨r, hr⟩ := hr
  cases l with
  | nil =>
    obtain ⟨rfl, rfl⟩ : c = b ∧ [] = r := by simpa using hr
    rw [if_neg hb]
    exact ⟨[], rfl⟩
  | cons d t =>
    obtain ⟨rfl, rfl⟩ : d = b ∧ t ++ [c] = r := by simpa using hr
    split
    · exact ih ⟨t, rfl⟩
    · exact ⟨t ++ [c], rfl⟩
theorem dg_ne {b : UInt8} (h : isd b = true) (hb : b ≠ 48) : 1 ≤ dg b ∧ dg b ≤ 9 := by
  have h1 := isd_le h
  have : b.toNat ≠ 48 := fun e => hb (UInt8.toNat_inj.1 e)
  omega
/-- The value of the digits that are left: not divided by ten, and as great as their number says. -/
theorem short_val {l : List UInt8} (h : Digs l) : rz (lz l) = [] ∨ (dv (rz (lz l)) % 10 ≠ 0 ∧ 10 ^ ((rz (lz l)).length - 1) ≤ dv (rz (lz l))) := by
  rcases lz_nz l with e | ⟨b, r, e, hb⟩
  · rw [e]; exact .inl rfl
  · right
    obtain ⟨r', hr'⟩ := rz_head (r := r) hb
    have hd : Digs (rz (lz l)) := rz_digs (lz_digs h)
    constructor
    · rcases rz_last (lz l) with e2 | ⟨q, c, e2, hc⟩
      · rw [e, hr'] at e2; cases e2
      · have := dg_ne (hd c (by rw [e2]; simp)) hc
        rw [e2, dv_app, dv_cons]
        simp only [List.length_cons, List.length_nil, Nat.zero_add, Nat.pow_one, Nat.pow_zero, Nat.mul_one]
        rw [show dv [] = 0 from rfl]
        omega
    · rw [e, hr'] at hd ⊢
      have := dg_ne (hd b (List.mem_cons_self ..)) hb
      rw [dv_cons, List.length_cons, Nat.add_sub_cancel]
      have h2 : 1 * 10 ^ r'.length ≤ dg b * 10 ^ r'.length := Nat.mul_le_mul_right _ this.1
      omega
end Go.Proofs.YtdbeblgfccjbgaaDoor.W
namespace Go.Proofs.YtdbeblgfccjbgaaDoor.W
open Go Go.Q Go.Proofs Go.Dz
set_option linter.unusedVariables false
set_option linter.unusedSimpArgs false
/-- What a reading of a text tells. -/
def Says (g : Option (Int × Int × Int)) : Option (Bool × List UInt8 × Int) → Prop
  | none => g = some (40, 0, 0)
  | some (neg, ds, e) => ∃ er c y : Int, g = some (er, c, y) ∧ Tells (· = val (sgn neg (dv ds)) e) ((c, y), er)
theorem e45 : (ByteArray.mk #[45] : ByteArray) = B [45] := rfl
theorem e46 : (ByteArray.mk #[46] : ByteArray) = B [46] := rfl
theorem e101 : (ByteArray.mk #[101] : ByteArray) = B [101] := rfl
theorem e69 : (ByteArray.mk #[69] : ByteArray) = B [69] := rfl
theorem e43 : (ByteArray.mk #[43] : ByteArray) = B [43] := rfl
theorem e48 : (ByteArray.mk #[48] : ByteArray) = B [48] := rfl
theorem pow_UU : (10 : Nat) ^ 30 ≤ UU := by decide
/-- The digits, read. -/
theorem dec_value (k : Nat) (hk : 60 ≤ k) (neg : Bool) (ds : List UInt8) (e : Int) (hd : Digs ds) (hn : ds.length ≤ 300) (hk2 : 300 < k) (he : -3000 ≤ e ∧ e ≤ 3000) :
    ∃ er c y : Int, (if (30 : Int) < (((rz (lz ds)).length : Nat) : Int) then some ((30 : Int), (0 : Int), (0 : Int)) else ((g_dec_Parse_l1 k (B (rz (lz ds))) k 0 0 0).bind fun (x2719, x2720) => ((g_dec_num_tell k neg x2719 x2720 (e + (((lz ds).length : Nat) - ((rz (lz ds)).length : Nat) : Int))).bind fun (x2742, x2743, x2744) => some (x2742, x2743, x2744)))) = some (er, c, y) ∧ Tells (· = val (sgn neg (dv ds)) e) ((c, y), er) := by
  have hl1 := lz_len ds
  have hl2 := rz_len (lz ds)
  have hv : val (sgn neg (dv ds)) e = val (sgn neg (dv (rz (lz ds)))) (e + (((lz ds).length : Nat) - ((rz (lz ds)).length : Nat) : Int)) := by
    rw [← lz_dv ds, rz_dv (lz ds), sgn_mul]
    conv => lhs; rw [show ((10 ^ ((lz ds).length - (rz (lz ds)).length) : Nat) : Int) = (10 : Int) ^ ((lz ds).length - (rz (lz ds)).length) by simp]
    rw [val_shift (by omega)]
    congr 1
    omega
  rw [hv]
  have hdd : Digs (rz (lz ds)) := rz_digs (lz_digs hd)
  have hsv := short_val hd
  have hf : -4000 ≤ e + (((lz ds).length : Nat) - ((rz (lz ds)).length : Nat) : Int) ∧ e + (((lz ds).length : Nat) - ((rz (lz ds)).length : Nat) : Int) ≤ 4000 := by omega
  generalize e + (((lz ds).length : Nat) - ((rz (lz ds)).length : Nat) : Int) = f at *
  generalize hS : rz (lz ds) = S at *
  split
  · rename_i h30
    rcases hsv with rfl | ⟨h1, h2⟩
    · simp at h30
    · refine ⟨30, 0, 0, rfl, ?_⟩
      have h10 : 10 ^ 30 ≤ dv S := Nat.le_trans (Nat.pow_le_pow_right (by decide) (by omega)) h2
      refine tells_none (sgn_ne (by omega)) (fun h => h1 (sgn_dvd.1 h)) (by omega) (.inr fun h => ?_)
      have ha : (sgn neg (dv S) * 10 ^ (f - 18).toNat).natAbs ≤ 9223372036854775808 := by omega
      rw [Int.natAbs_mul, sgn_abs] at ha
      have hp : 1 ≤ ((10 : Int) ^ (f - 18).toNat).natAbs := by have := p10 (f - 18).toNat; omega
      have : dv S * 1 ≤ dv S * ((10 : Int) ^ (f - 18).toNat).natAbs := Nat.mul_le_mul_left _ hp
      omega
  · rename_i h30
    have hU : dv S < UU := Nat.lt_of_lt_of_le (dv_lt hdd) (Nat.le_trans (Nat.pow_le_pow_right (by decide) (by omega)) pow_UU)
    have hr := wide_l1 k S hdd (by omega) k 0 0 (by omega) (by omega) hU
    rw [show ((0 : Nat) : Int) = 0 from rfl, show wh 0 = 0 from wh_small (by decide), show wl 0 = 0 from wl_small (by decide)] at hr
    rw [hr]
    simp only [Option.bind_some]
    obtain ⟨er, c, y, h1, h2⟩ := num_tell k hk (neg := neg) (v := dv S) (e := f) hU hf.1 hf.2
    have : dvf 0 (List.drop 0 S) = dv S := rfl
    rw [this, h1]
    exact ⟨er, c, y, rfl, h2⟩
theorem exp_eq (k : Nat) {l : List UInt8} (hd : Digs l) (hl : l.length ≤ 3) (hk : 3 < k) : g_dec_Parse_l0 k (B l) k 0 0 = some ((dv l : Nat) : Int) := by
  have hlt := dv_lt hd
  have hp : 10 ^ l.length ≤ 10 ^ 3 := Nat.pow_le_pow_right (by decide) hl
  exact exp_l0 k l hd hl k 0 0 (by omega) (by omega) (by show dv l < 1000; omega)
theorem dv3 {l : List UInt8} (hd : Digs l) (hl : l.length ≤ 3) : dv l < 1000 := by
  have hlt := dv_lt hd
  have hp : 10 ^ l.length ≤ 10 ^ 3 := Nat.pow_le_pow_right (by decide) hl
  omega
theorem PX_e (ex ok : Bool) (l : List UInt8) : -1000 ≤ (PX ex ok l).2.2 ∧ (PX ex ok l).2.2 ≤ 1000 := by
  unfold PX
  dsimp only
  split
  · dsimp only
    generalize (if (cut1 45 l).1 = true then (cut1 45 l).2 else (cut1 43 (cut1 45 l).2).2) = r
    by_cases h : (ok && (decide (1 ≤ (tw r).length) && decide ((tw r).length ≤ 3))) = true
    · rw [if_pos h]
      rw [Bool.and_eq_true, Bool.and_eq_true, decide_eq_true_iff, decide_eq_true_iff] at h
      have := dv3 (tw_digs _) h.2.2
      split <;> omega
    · rw [if_neg h]; omega
  · dsimp only; omega
def dec_tail (k : Nat) (x2391 : Bool) (x2394 x2413 : ByteArray) (x2531 : Bool) (x2532 : ByteArray) (x2533 : Int) : Option (Int × Int × Int) := (((bif (!x2531) then some true else ((some (!(x2532.toList == (ByteArray.mk #[]).toList))).bind fun x2662 => some x2662)) : Option Bool).bind fun x2660 => (bif x2660 then some (40, 0, 0) else (bif (decide (ByteArray.size x2394 + ByteArray.size x2413 ≤ 9223372036854775807)) then ((g_strings_TrimLeft k (x2394 ++ x2413) (ByteArray.mk #[48])).bind fun x2667 => ((some (IntKind.wrap .i64 (x2533 - ((ByteArray.size x2413 : Nat) : Int)))).bind fun x2668 => ((g_strings_TrimRight k x2667 (ByteArray.mk #[48])).bind fun x2670 => ((some (IntKind.wrap .i64 (((ByteArray.size x2667 : Nat) : Int) - ((ByteArray.size x2670 : Nat) : Int)))).bind fun x2671 => ((some (decide (30 < ((ByteArray.size x2670 : Nat) : Int)))).bind fun x2674 => (bif x2674 then some (30, 0, 0) else ((g_dec_values k x2670).bind fun _ => ((g_dec_Parse_l1 k x2670 k 0 0 0).bind fun (x2719, x2720) => ((g_dec_num_tell k x2391 x2719 x2720 (IntKind.wrap .i64 (x2668 + x2671))).bind fun (x2742, x2743, x2744) => some (x2742, x2743, x2744)))))))))) else none)))
def dec_exp (k : Nat) (x2414 x2541 : Bool) (x2542 : ByteArray) : Option (Bool × ByteArray × Int) := (bif x2541 then ((g_dec_parser_take k (ByteArray.mk #[45]) x2542).bind fun (x2553, x2554) => (((bif (!x2553) then ((g_dec_parser_take k (ByteArray.mk #[43]) x2554).bind fun (x2562, x2563) => some x2563) else some x2554) : Option ByteArray).bind fun x2559 => ((g_dec_parser_some k x2559).bind fun (x2566, x2567) => (((bif x2414 then ((some (decide (1 ≤ ((ByteArray.size x2566 : Nat) : Int)))).bind fun x2574 => (bif x2574 then ((some (decide (((ByteArray.size x2566 : Nat) : Int) ≤ 3))).bind fun x2576 => some x2576) else some false)) else some false) : Option Bool).bind fun x2572 => (((bif x2572 then ((g_dec_values k x2566).bind fun _ => ((g_dec_Parse_l0 k x2566 k 0 0).bind fun x2635 => some x2635)) else some 0) : Option Int).bind fun x2607 => (bif x2553 then some (x2572, x2567, (IntKind.wrap .i64 (0 - x2607))) else some (x2572, x2567, x2607))))))) else some (x2414, x2542, 0))
def dec_pt (k : Nat) (x2399 x2417 : Bool) (x2418 : ByteArray) : Option (ByteArray × Bool × ByteArray) := (bif x2417 then ((g_dec_parser_some k x2418).bind fun (x2421, x2422) => (bif x2399 then ((some (!(x2421.toList == (ByteArray.mk #[]).toList))).bind fun x2424 => some (x2421, x2424, x2422)) else some (x2421, false, x2422))) else some ((ByteArray.mk #[]), x2399, x2418))
theorem dec_Parse_is (k : Nat) (x7 : ByteArray) : g_dec_Parse k x7 = ((g_dec_parser_take k (ByteArray.mk #[45]) x7).bind fun (x2391, x2392) => ((g_dec_parser_some k x2392).bind fun (x2394, x2395) => ((((some (decide (((ByteArray.size x7 : Nat) : Int) ≤ 255))).bind fun x2400 => (bif x2400 then ((some (!(x2394.toList == (ByteArray.mk #[]).toList))).bind fun x2402 => some x2402) else some false)) : Option Bool).bind fun x2399 => ((((g_dec_parser_take k (ByteArray.mk #[46]) x2395).bind fun (x2417, x2418) => (dec_pt k x2399 x2417 x2418)) : Option (ByteArray × Bool × ByteArray)).bind fun (x2413, x2414, x2415) => ((((((g_dec_parser_take k (ByteArray.mk #[101]) x2415).bind fun (x2544, x2545) => (bif x2544 then some (true, x2545) else ((g_dec_parser_take k (ByteArray.mk #[69]) x2545).bind fun (x2548, x2549) => some (x2548, x2549)))) : Option (Bool × ByteArray)).bind fun (x2541, x2542) => (dec_exp k x2414 x2541 x2542)) : Option (Bool × ByteArray × Int)).bind fun (x2531, x2532, x2533) => (dec_tail k x2391 x2394 x2413 x2531 x2532 x2533)))))) := rfl
theorem pt_eq (k : Nat) (ok : Bool) (l2 : List UInt8) (hl : l2.length ≤ 140737488351232) (hk : l2.length < k) : dec_pt k ok (cut1 46 l2).1 (B (cut1 46 l2).2) = some (B (PP ok l2).1, (PP ok l2).2.1, B (PP ok l2).2.2) := by
  have h := cut1_len 46 l2
  unfold dec_pt PP
  rw [some_eq k _ (by omega) (by omega)]
  rcases cut1 46 l2 with ⟨pb, l3⟩
  cases pb <;> cases ok <;> simp [B_list, beq_nil, B_nil]
theorem ok3 {o : Bool} {n : Nat} : (bif o then (bif (decide (1 ≤ ((n : Nat) : Int))) then some (decide (((n : Nat) : Int) ≤ 3)) else some false) else some false) = some (o && (decide (1 ≤ n) && decide (n ≤ 3))) := by
  have h1 : decide (1 ≤ ((n : Nat) : Int)) = decide (1 ≤ n) := by rw [decide_eq_decide]; omega
  have h2 : decide (((n : Nat) : Int) ≤ 3) = decide (n ≤ 3) := by rw [decide_eq_decide]; omega
  rw [h1, h2]
  cases o
  · rfl
  · cases decide (1 ≤ n) <;> rfl
theorem exp_part (k : Nat) (ok ex : Bool) (l : List UInt8) (hl : l.length ≤ 140737488351232) (hk : l.length < k) (hk2 : 1000 < k) : dec_exp k ok ex (B l) = some ((PX ex ok l).1, B (PX ex ok l).2.1, (PX ex ok l).2.2) := by
  unfold dec_exp PX
  cases ex with
  | false => rfl
  | true =>
    have h := cut1_len 45 l
    simp only [cond_true, e45, e43]
    rw [take_eq k 45 l (by omega)]
    simp only [Option.bind_some, if_true]
    rcases hc : cut1 45 l with ⟨mi, l6⟩
    rw [hc] at h
    simp only at h ⊢
    have h' := cut1_len 43 l6
    have hr : (bif (!mi) then ((g_dec_parser_take k (B [43]) (B l6)).bind fun (x2562, x2563) => some x2563) else some (B l6)) = some (B (if mi = true then l6 else (cut1 43 l6).2)) := by
      rw [take_eq k 43 l6 (by omega)]
      cases mi <;> rfl
    rw [hr]
    have hle : (if mi = true then l6 else (cut1 43 l6).2).length ≤ l.length := by split <;> omega
    generalize (if mi = true then l6 else (cut1 43 l6).2) = r at *
    simp only [Option.bind_some]
    rw [some_eq k r (by omega) (by omega)]
    simp only [Option.bind_some, B_size]
    rw [ok3]
    simp only [Option.bind_some]
    by_cases ho : (ok && (decide (1 ≤ (tw r).length) && decide ((tw r).length ≤ 3))) = true
    · rw [ho]
      rw [Bool.and_eq_true, Bool.and_eq_true, decide_eq_true_iff, decide_eq_true_iff] at ho
      have h3 := dv3 (tw_digs r) ho.2.2
      simp only [cond_true, if_true]
      rw [exp_eq k (tw_digs r) ho.2.2 (by omega)]
      simp only [g_dec_values, Option.bind_some]
      rw [wi (by omega) (by omega), Int.zero_sub]
      cases mi <;> rfl
    · rw [Bool.not_eq_true] at ho
      rw [ho]
      cases mi <;> rfl
theorem tail_part (k : Nat) (hk : 400 ≤ k) (neg : Bool) (W P : List UInt8) (o : Bool) (r : List UInt8) (e : Int) (hW : Digs W) (hP : Digs P) (hn : o = true → W.length + P.length ≤ 300) (he : -1000 ≤ e ∧ e ≤ 1000) :
    Says (dec_tail k neg (B W) (B P) o (B r) e) (if o && r.isEmpty then some (neg, W ++ P, e - (P.length : Int)) else none) := by
  unfold dec_tail
  simp only [B_list, e48, B_nil, beq_nil]
  cases o with
  | false => exact rfl
  | true =>
    cases hr : r.isEmpty with
    | false => exact rfl
    | true =>
      have hn := hn rfl
      have hd : Digs (W ++ P) := fun b hb => (List.mem_append.1 hb).elim (hW b) (hP b)
      have hl : (W ++ P).length ≤ 300 := by rw [List.length_append]; exact hn
      have hl1 := lz_len (W ++ P)
      have hl2 := rz_len (lz (W ++ P))
      simp only [Bool.not_true, cond_false, Option.bind_some, Bool.and_true, if_true, B_size]
      rw [decide_eq_true (by omega), cond_true, B_app, TrimLeft_eq k _ (by omega) (by omega)]
      simp only [Option.bind_some]
      rw [TrimRight_eq k _ (by omega) (by omega)]
      simp only [Option.bind_some, B_size, g_dec_values]
      rw [bifd, wi (n := e - (P.length : Int)) (by omega) (by omega), wi (n := ((lz (W ++ P)).length : Int) - _) (by omega) (by omega), wi (by omega) (by omega)]
      exact dec_value k (by omega) neg (W ++ P) (e - (P.length : Int)) hd (by omega) (by omega) (by omega)
theorem dec_Parse (k : Nat) (l : List UInt8) (hl : l.length ≤ 140737488351232) (hk : l.length < k) (hk2 : 1000 < k) : Says (g_dec_Parse k (B l)) (PL l) := by
  rw [dec_Parse_is]
  simp only [e45, e46, e101, e69]
  have a1 := cut1_len 45 l
  have a2 := tw_len (cut1 45 l).2
  rw [take_eq k 45 l (by omega)]
  simp only [Option.bind_some]
  rw [some_eq k _ (by omega) (by omega)]
  simp only [Option.bind_some, B_size, B_list, beq_nil, B_nil]
  rw [take_eq k 46 _ (by omega)]
  simp only [Option.bind_some]
  unfold PL
  dsimp only
  have hWd := tw_digs (cut1 45 l).2
  generalize tw (cut1 45 l).2 = W at *
  generalize dw (cut1 45 l).2 = l2 at *
  generalize (cut1 45 l).1 = neg at *
  have b0 : (bif decide ((l.length : Int) ≤ 255) then some (!W.isEmpty) else some false) = some (decide (l.length ≤ 255) && !W.isEmpty) := by
    by_cases h : l.length ≤ 255
    · rw [decide_eq_true (by omega : (l.length : Int) ≤ 255), decide_eq_true h]; rfl
    · rw [decide_eq_false (by omega : ¬ (l.length : Int) ≤ 255), decide_eq_false h]; rfl
  rw [b0]
  simp only [Option.bind_some]
  have hokl : (decide (l.length ≤ 255) && !W.isEmpty) = true → l.length ≤ 255 := fun h => of_decide_eq_true (Bool.and_eq_true _ _ ▸ h : _ ∧ _).1
  generalize (decide (l.length ≤ 255) && !W.isEmpty) = ok at *
  have hp := PP_len ok l2
  have hpd := PP_digs ok l2
  have hpo : (PP ok l2).2.1 = true → ok = true := by
    unfold PP; dsimp only
    split
    · dsimp only; intro h; exact (Bool.and_eq_true _ _ ▸ h : _ ∧ _).1
    · exact id
  rw [pt_eq k ok l2 (by omega) (by omega)]
  simp only [Option.bind_some]
  generalize (PP ok l2).1 = P at *
  generalize (PP ok l2).2.1 = ok2 at *
  generalize (PP ok l2).2.2 = l4 at *
  have hE := PE_len l4
  have b2 : ((g_dec_parser_take k (B [101]) (B l4)).bind fun (x2544, x2545) => (bif x2544 then some (true, x2545) else ((g_dec_parser_take k (B [69]) x2545).bind fun (x2548, x2549) => some (x2548, x2549)))) = some ((PE l4).1, B (PE l4).2) := by
    have h := cut1_len 101 l4
    rw [take_eq k 101 l4 (by omega)]
    simp only [Option.bind_some]
    rw [take_eq k 69 _ (by omega)]
    unfold PE
    rcases cut1 101 l4 with ⟨b, l5⟩
    cases b <;> rfl
  rw [b2]
  simp only [Option.bind_some]
  rw [exp_part k _ _ _ (by omega) (by omega) hk2]
  simp only [Option.bind_some]
  have hx : (PX (PE l4).1 ok2 (PE l4).2).1 = true → ok2 = true := by
    unfold PX; dsimp only
    split
    · dsimp only; intro h; exact (Bool.and_eq_true _ _ ▸ h : _ ∧ _).1
    · exact id
  refine tail_part k (by omega) neg W P _ _ _ hWd hpd (fun h => ?_) (PX_e _ _ _)
  have := hokl (hpo (hx h))
  omega
end Go.Proofs.YtdbeblgfccjbgaaDoor.W
namespace Go.Proofs.YtdbeblgfccjbgaaDoor.W
open Go Go.Q Go.Proofs Go.Dz
set_option linter.unusedVariables false
set_option linter.unusedSimpArgs false
end Go.Proofs.YtdbeblgfccjbgaaDoor.W
namespace Go.Proofs.YtdbeblgfccjbgaaDoor.W
open Go Go.Q Go.Proofs Go.Dz
set_option linter.unusedVariables false
set_option linter.unusedSimpArgs false
theorem u8_45 (b : UInt8) : (decide ((b.toNat : Int) = 45)) = decide (b = 45) := u8_eq b 45
theorem u8_46 (b : UInt8) : (decide ((b.toNat : Int) = 46)) = decide (b = 46) := u8_eq b 46
theorem isEmpty_len {l : List UInt8} : l.isEmpty = decide (l.length = 0) := by cases l <;> rfl
end Go.Proofs.YtdbeblgfccjbgaaDoor.W
namespace Go.Proofs.YtdbeblgfccjbgaaDoor.W
open Go Go.Q Go.Proofs Go.Dz
set_option linter.unusedVariables false
set_option linter.unusedSimpArgs false
/-- The byte of a digit. -/
def db (d : Nat) : UInt8 := UInt8.ofNat (48 + d % 10)
theorem db_nat (d : Nat) : (db d).toNat = 48 + d % 10 := by
  unfold db
  rw [UInt8.toNat_ofNat']
  omega
theorem db_dg (d : Nat) : dg (db d) = d % 10 := by unfold dg; rw [db_nat]; omega
theorem db_isd (d : Nat) : isd (db d) = true := by
  unfold isd
  rw [db_nat, decide_eq_true (by omega), decide_eq_true (by omega)]
  rfl
/-- The last t digits of n. -/
def dt (n : Nat) : Nat → List UInt8
  | 0 => []
  | t + 1 => db (n / 10 ^ t) :: dt n t
theorem dt_len (n : Nat) : ∀ t, (dt n t).length = t
  | 0 => rfl
  | t + 1 => by rw [dt, List.length_cons, dt_len n t]
theorem dt_digs (n : Nat) : ∀ t, Digs (dt n t)
  | 0 => fun b hb => by cases hb
  | t + 1 => fun b hb => by
    rw [dt] at hb
    rcases List.mem_cons.1 hb with rfl | h
    · exact db_isd _
    · exact dt_digs n t b h
theorem dt_app (n b : Nat) : ∀ a, dt n (a + b) = dt (n / 10 ^ b) a ++ dt n b
  | 0 => by rw [Nat.zero_add]; rfl
  | a + 1 => by
    rw [show a + 1 + b = a + b + 1 by omega, dt, dt, dt_app n b a, Nat.div_div_eq_div_mul, Nat.pow_add, Nat.mul_comm]
    rfl
theorem dt_dv (n : Nat) : ∀ t, dv (dt n t) = n % 10 ^ t
  | 0 => by rw [Nat.pow_zero, Nat.mod_one]; rfl
  | t + 1 => by
    rw [dt, dv_cons, dt_len, dt_dv n t, db_dg, Nat.pow_succ, Nat.mod_mul, Nat.mul_comm, Nat.add_comm]
theorem dt_zeros {n : Nat} : ∀ t, n = 0 → dt n t = List.replicate t 48
  | 0, _ => rfl
  | t + 1, h => by
    subst h
    rw [dt, dt_zeros t rfl, List.replicate_succ]
    congr 1
    rw [Nat.zero_div]
    rfl
theorem dt_mul (n b : Nat) : ∀ t, t ≤ b → dt (n * 10 ^ b) t = List.replicate t 48
  | 0, _ => rfl
  | t + 1, h => by
    rw [dt, dt_mul n b t (by omega), List.replicate_succ]
    congr 1
    apply UInt8.toNat_inj.1
    have : n * 10 ^ b / 10 ^ t = n * 10 ^ (b - t - 1) * 10 := by
      rw [show b = b - t - 1 + 1 + t by omega, Nat.pow_add, ← Nat.mul_assoc, Nat.mul_div_cancel _ (Nat.pow_pos (by decide)), Nat.pow_succ, ← Nat.mul_assoc, show b - t - 1 + 1 + t - t - 1 = b - t - 1 by omega]
    rw [this, db_nat, Nat.mul_mod_left]
    rfl
theorem digs_len_div {n : Nat} (h : n ≠ 0) : (digs n).length = (digs (n / 10)).length + 1 := by rw [digs_pos h, List.length_cons]
theorem strOf_one {d : Nat} (h : d < 256) : strOf ([(d : Int)] : List Int) = B [UInt8.ofNat d] := L_ext (by rw [L_strOf, L_B]; simp)
theorem print_l0 (k : Nat) : ∀ (m n : Nat) (s : List UInt8), n < 18446744073709551616 → (digs n).length < m → (digs n).length + s.length ≤ 1000 → g_dec_Print_l0 k m (B s) (n : Int) = some (B (dt n (digs n).length ++ s))
  | 0, n, s, _, h, _ => by omega
  | m + 1, n, s, hn, h, hs => by
    unfold g_dec_Print_l0
    by_cases h0 : n = 0
    · subst h0
      rw [decide_eq_false (by omega), digs_zero]
      rfl
    · have hl := digs_len_div h0
      rw [decide_eq_true (by omega), cond_true, show Int.tmod (n : Int) 10 = ((n % 10 : Nat) : Int) from rfl, show Int.tdiv (n : Int) 10 = ((n / 10 : Nat) : Int) from rfl, show (48 : Int) + ((n % 10 : Nat) : Int) = ((48 + n % 10 : Nat) : Int) by omega, w64d (by omega), w64d (by omega)]
      simp only [Option.bind_some]
      rw [w8d (by omega), strOf_one (by omega), B_app, B_size, B_size]
      rw [decide_eq_true (by simp only [List.length_cons, List.length_nil]; omega), cond_true, print_l0 k m (n / 10) _ (by omega) (by omega) (by simp only [List.length_append, List.length_cons, List.length_nil]; omega)]
      congr 2
      rw [hl, dt_app n 1]
      simp only [Nat.pow_one, dt, Nat.pow_zero, Nat.div_one, List.append_assoc, List.cons_append, List.nil_append]
      congr 2
theorem Print_l0 (k : Nat) {n : Nat} (hn : n < 18446744073709551616) (hk : 60 ≤ k) : g_dec_Print_l0 k k (B []) (n : Int) = some (B (dt n (digs n).length)) := by
  have h20 : (digs n).length ≤ 20 := digs_len_le (Nat.lt_of_lt_of_le hn (by decide))
  rw [print_l0 k k n [] hn (by omega) (by simp; omega), List.append_nil]
theorem rep_all : ((List.range 65).all fun n => match g_strings_Repeat 70 (B [48]) (n : Int) with | some s => s.toList == List.replicate n 48 | none => false) = true := by decide +kernel
/-- Noughts, repeated. -/
theorem rep_eq (k : Nat) (hk : 70 ≤ k) {n : Nat} (hn : n ≤ 64) : g_strings_Repeat k (B [48]) (n : Int) = some (B (List.replicate n 48)) := by
  have h := List.all_eq_true.1 rep_all n (List.mem_range.2 (by omega))
  refine (g_strings_Repeat_mono hk).h _ ?_
  cases hg : g_strings_Repeat 70 (B [48]) (n : Int) with
  | none => rw [hg] at h; cases h
  | some s =>
    rw [hg] at h
    have h' : s.toList = List.replicate n 48 := by simpa using h
    rw [L_toList] at h'
    rw [← h', B_L]
end Go.Proofs.YtdbeblgfccjbgaaDoor.W
namespace Go.Proofs.YtdbeblgfccjbgaaDoor.W
open Go Go.Q Go.Proofs Go.Dz
set_option linter.unusedVariables false
set_option linter.unusedSimpArgs false
/-- m, with a point ahead of the last j digits. -/
def TX (m j : Nat) : List UInt8 := dt (m / 10 ^ j) (max (digs m).length (1 + j) - j) ++ (if j = 0 then [] else 46 :: dt m j)
/-- A number, written. -/
def NX (c e : Int) : List UInt8 := (if c < 0 then [45] else []) ++ TX (c.natAbs * 10 ^ e.toNat) (-e).toNat
theorem digs_mul {n : Nat} (h : n ≠ 0) : ∀ t, (digs (n * 10 ^ t)).length = (digs n).length + t
  | 0 => by rw [Nat.pow_zero, Nat.mul_one]; rfl
  | t + 1 => by
    have h0 : n * 10 ^ t ≠ 0 := Nat.mul_ne_zero h (Nat.ne_of_gt (Nat.pow_pos (by decide)))
    rw [Nat.pow_succ, ← Nat.mul_assoc, digs_len_div (Nat.mul_ne_zero h0 (by decide)), Nat.mul_div_cancel _ (by decide), digs_mul h t]
    rfl
theorem dt_pad {n : Nat} (a : Nat) : dt n (a + (digs n).length) = List.replicate a 48 ++ dt n (digs n).length := by
  rw [dt_app, dt_zeros a (Nat.div_eq_of_lt digs_lt)]
def pr_body (k : Nat) (x5106 : ByteArray) (x5090 x5091 : Int) : Option ByteArray := (bif (decide (x5090 = 0)) then some (ByteArray.mk #[48]) else (bif (decide (0 < x5091)) then ((g_strings_Repeat k (ByteArray.mk #[48]) x5091).bind fun x5145 => (bif (decide (ByteArray.size x5106 + ByteArray.size x5145 ≤ 9223372036854775807)) then some (x5106 ++ x5145) else none)) else (bif (decide (x5091 < 0)) then ((some (IntKind.wrap .i64 ((IntKind.wrap .i64 (1 - x5091)) - ((ByteArray.size x5106 : Nat) : Int)))).bind fun x5148 => ((some (if (0 : Int) > x5148 then (0 : Int) else x5148)).bind fun x5149 => ((g_strings_Repeat k (ByteArray.mk #[48]) x5149).bind fun x5151 => (bif (decide (ByteArray.size x5151 + ByteArray.size x5106 ≤ 9223372036854775807)) then ((some ((ByteArray.size (x5151 ++ x5106) : Nat) : Int)).bind fun x5163 => ((some ((ByteArray.size (x5151 ++ x5106) : Nat) : Int)).bind fun x5164 => (bif (decide (0 ≤ (0 : Int) ∧ (0 : Int) ≤ (IntKind.wrap .i64 (x5163 + x5091)) ∧ (IntKind.wrap .i64 (x5163 + x5091)) ≤ ((ByteArray.size (x5151 ++ x5106) : Nat) : Int))) then ((some (ByteArray.extract (x5151 ++ x5106) (Int.toNat 0) (Int.toNat (IntKind.wrap .i64 (x5163 + x5091))))).bind fun x5166 => (bif (decide (ByteArray.size x5166 + ByteArray.size (ByteArray.mk #[46]) ≤ 9223372036854775807)) then (bif (decide (0 ≤ ((IntKind.wrap .i64 (x5164 + x5091)) : Int) ∧ ((IntKind.wrap .i64 (x5164 + x5091)) : Int) ≤ ((ByteArray.size (x5151 ++ x5106) : Nat) : Int) ∧ ((ByteArray.size (x5151 ++ x5106) : Nat) : Int) ≤ ((ByteArray.size (x5151 ++ x5106) : Nat) : Int))) then ((some (ByteArray.extract (x5151 ++ x5106) (Int.toNat (IntKind.wrap .i64 (x5164 + x5091))) (Int.toNat ((ByteArray.size (x5151 ++ x5106) : Nat) : Int)))).bind fun x5169 => (bif (decide (ByteArray.size (x5166 ++ (ByteArray.mk #[46])) + ByteArray.size x5169 ≤ 9223372036854775807)) then some ((x5166 ++ (ByteArray.mk #[46])) ++ x5169) else none)) else none) else none)) else none))) else none)))) else some x5106)))
theorem dec_Print_is (k : Nat) (x4453 x4454 : Int) : g_dec_Print k x4453 x4454 = ((g_dec_clean__b k x4453 x4454).bind fun (x5089, x5090, x5091) => (bif (!x5089) then some (ByteArray.mk #[63]) else ((g_dec_size k x5090).bind fun x5094 => ((g_dec_Print_l0 k k (ByteArray.mk #[]) x5094).bind fun x5106 => (((pr_body k x5106 x5090 x5091) : Option ByteArray).bind fun x5141 => (((bif (decide (x5090 < 0)) then (bif (decide (ByteArray.size (ByteArray.mk #[45]) + ByteArray.size x5141 ≤ 9223372036854775807)) then some ((ByteArray.mk #[45]) ++ x5141) else none) else some x5141) : Option ByteArray).bind fun x5174 => some x5174)))))) := rfl
theorem print_tail (k : Nat) (hk : 100 ≤ k) {n : Nat} {c e : Int} (hn : n = c.natAbs) (hc : Canon c e) : pr_body k (B (dt n (digs n).length)) c e = some (B (TX (n * 10 ^ e.toNat) (-e).toNat)) := by
  unfold pr_body
  simp only [e48, e46]
  have hr := hc.rng
  have h20 : (digs n).length ≤ 20 := digs_len_le (by have := hc.i64; unfold I64 at this; omega)
  by_cases h0 : c = 0
  · have he : e = 0 := by rcases hc with ⟨_, h⟩ | ⟨h, _⟩ <;> simp_all
    subst h0 he
    have : n = 0 := by rw [hn]; rfl
    subst this
    rw [decide_eq_true rfl, cond_true]
    unfold TX
    rw [show (0 : Nat) * 10 ^ (0 : Int).toNat = 0 from Nat.zero_mul _, digs_zero]
    rfl
  · have hn0 : n ≠ 0 := by omega
    have hlp := len_pos hn0
    rw [decide_eq_false h0, cond_false]
    by_cases h1 : 0 < e
    · obtain ⟨t, rfl⟩ : ∃ t : Nat, e = (t : Int) := ⟨e.toNat, by omega⟩
      rw [decide_eq_true h1, cond_true, rep_eq k (by omega) (by omega)]
      simp only [Option.bind_some, B_size, B_app]
      rw [decide_eq_true (by rw [dt_len, List.length_replicate]; omega), cond_true]
      congr 2
      unfold TX
      rw [show (-(t : Int)).toNat = 0 by omega, Int.toNat_natCast, digs_mul hn0, if_pos rfl, Nat.pow_zero, Nat.div_one, List.append_nil, show max ((digs n).length + t) (1 + 0) - 0 = (digs n).length + t by omega, dt_app, dt_mul n t t (Nat.le_refl _), Nat.mul_div_cancel _ (Nat.pow_pos (by decide))]
    · rw [decide_eq_false h1, cond_false]
      by_cases h2 : e < 0
      · obtain ⟨j, rfl⟩ : ∃ j : Nat, e = -(j : Int) := ⟨(-e).toNat, by omega⟩
        obtain ⟨a, ha, ha', hz⟩ : ∃ a : Nat, max (digs n).length (1 + j) = a + (digs n).length ∧ a ≤ 30 ∧ (if (0 : Int) > 1 - -(j : Int) - ((digs n).length : Int) then (0 : Int) else 1 - -(j : Int) - ((digs n).length : Int)) = (a : Int) := by
          refine ⟨max (digs n).length (1 + j) - (digs n).length, by omega, by omega, ?_⟩
          split <;> omega
        rw [decide_eq_true h2, cond_true, B_size, dt_len, wi (n := 1 - -(j : Int)) (by omega) (by omega), wi (by omega) (by omega)]
        simp only [Option.bind_some]
        rw [hz, rep_eq k (by omega) (by omega)]
        simp only [Option.bind_some, B_app, ← dt_pad, B_size, dt_len, List.length_replicate, B_ext]
        rw [decide_eq_true (by omega), cond_true, ← ha]
        generalize hm : max (digs n).length (1 + j) = t at *
        rw [wi (by omega) (by omega), show (t : Int) + -(j : Int) = ((t - j : Nat) : Int) by omega, decide_eq_true (by omega), cond_true]
        rw [decide_eq_true (by simp [dt_len]; omega), cond_true, decide_eq_true (by omega), cond_true, decide_eq_true (by simp [dt_len]; omega), cond_true]
        congr 2
        unfold TX
        rw [show (-(j : Int)).toNat = 0 by omega, show (-(-(j : Int))).toNat = j by omega, Nat.pow_zero, Nat.mul_one, hm, if_neg (by omega)]
        simp only [Int.toNat_natCast, Int.toNat_zero, Nat.sub_zero, List.drop_zero]
        have hsp : dt n t = dt (n / 10 ^ j) (t - j) ++ dt n j := by rw [← dt_app, show t - j + j = t by omega]
        rw [hsp, List.take_left' (dt_len _ _), List.drop_left' (dt_len _ _), List.take_of_length_le (by rw [dt_len]; omega), List.append_assoc]
        rfl
      · have he : e = 0 := by omega
        subst he
        rw [decide_eq_false h2, cond_false]
        congr 2
        unfold TX
        rw [show (-(0 : Int)).toNat = 0 from rfl, show (0 : Int).toNat = 0 from rfl, Nat.pow_zero, Nat.mul_one, Nat.div_one, if_pos rfl, List.append_nil, show max (digs n).length (1 + 0) - 0 = (digs n).length by omega]
theorem TX_len {c e : Int} (h : Canon c e) : (TX (c.natAbs * 10 ^ e.toNat) (-e).toNat).length ≤ 39 := by
  have hr := h.rng
  have h20 : (digs c.natAbs).length ≤ 19 := digs_len_le (by have := h.i64; unfold I64 at this; omega)
  unfold TX
  rw [List.length_append, dt_len]
  by_cases h0 : c = 0
  · have he : e = 0 := by rcases h with ⟨_, h⟩ | ⟨h, _⟩ <;> simp_all
    subst h0 he
    rw [show (0 : Int).natAbs * 10 ^ (0 : Int).toNat = 0 from Nat.zero_mul _, digs_zero]
    decide
  · rw [digs_mul (by omega)]
    split
    · rw [List.length_nil]; omega
    · rw [List.length_cons, dt_len]; omega
theorem dec_Print (k : Nat) (hk : 100 ≤ k) {c e : Int} (hc : I64 c) : if Rng e then ∃ c' e' : Int, Canon c' e' ∧ val c' e' = val c e ∧ g_dec_Print k c e = some (B (NX c' e')) else g_dec_Print k c e = some (B [63]) := by
  have h := clean1 k (by omega) (c := c) (e := e) hc
  rw [dec_Print_is]
  split
  · rename_i hr
    rw [if_pos hr] at h
    obtain ⟨c', e', h1, h2, h3⟩ := h
    refine ⟨c', e', h2, h3, ?_⟩
    have hlt := abs_lt h2.i64
    have h20 : (digs c'.natAbs).length ≤ 20 := digs_len_le (by have := h2.i64; unfold I64 at this; omega)
    have hrg := h2.rng
    rw [h1]
    simp only [Option.bind_some, Bool.not_true, cond_false]
    rw [size_eq k h2.i64]
    simp only [Option.bind_some, B_nil, e48, e46, e45]
    rw [Print_l0 k hlt (by omega)]
    simp only [Option.bind_some]
    rw [print_tail k hk (n := c'.natAbs) rfl h2]
    simp only [Option.bind_some, B_size, B_app]
    unfold NX
    by_cases hn : c' < 0
    · rw [decide_eq_true hn, if_pos hn, cond_true]
      have := TX_len h2
      rw [decide_eq_true (by simp only [List.length_cons, List.length_nil]; omega)]
      rfl
    · rw [decide_eq_false hn, if_neg hn]
      rfl
  · rename_i hr
    rw [if_neg hr] at h
    obtain ⟨r, h1⟩ := h
    rw [h1]
    rfl
end Go.Proofs.YtdbeblgfccjbgaaDoor.W
namespace Go.Proofs.YtdbeblgfccjbgaaDoor.W
open Go Go.Q Go.Proofs Go.Dz
set_option linter.unusedVariables false
set_option linter.unusedSimpArgs false
end Go.Proofs.YtdbeblgfccjbgaaDoor.W
namespace Go.Proofs.YtdbeblgfccjbgaaDoor.W
open Go Go.Q Go.Proofs Go.Dz
set_option linter.unusedVariables false
set_option linter.unusedSimpArgs false
theorem tw_app {A r : List UInt8} (hA : Digs A) (hr : r = [] ∨ ∃ b t, r = b :: t ∧ isd b = false) : tw (A ++ r) = A ∧ dw (A ++ r) = r := by
  induction A with
  | nil =>
    rcases hr with rfl | ⟨b, t, rfl, hb⟩
    · exact ⟨rfl, rfl⟩
    · rw [List.nil_append, tw_cons, dw_cons, hb]; exact ⟨rfl, rfl⟩
  | cons a A ih =>
    have ha := hA a (List.mem_cons_self ..)
    obtain ⟨h1, h2⟩ := ih fun b hb => hA b (List.mem_cons_of_mem _ hb)
    rw [List.cons_append, tw_cons, dw_cons, ha, if_pos rfl, if_pos rfl, h1, h2]
    exact ⟨rfl, rfl⟩
theorem Digs.nil : Digs [] := fun b hb => by cases hb
theorem cut1_dig {c : UInt8} (hc : isd c = false) {A r : List UInt8} (hA : Digs A) (h0 : A ≠ []) : cut1 c (A ++ r) = (false, A ++ r) := by
  cases A with
  | nil => exact absurd rfl h0
  | cons a A =>
    rw [List.cons_append, cut1, if_neg]
    rintro rfl
    rw [hA a (List.mem_cons_self ..)] at hc
    cases hc
theorem dt_ne {n t : Nat} (h : 0 < t) : dt n t ≠ [] := fun e => by have := dt_len n t; rw [e] at this; simp at this; omega
theorem NX_len {c e : Int} (h : Canon c e) : (NX c e).length ≤ 40 ∧ 0 < (NX c e).length := by
  have h1 := TX_len h
  have h2 : 0 < (TX (c.natAbs * 10 ^ e.toNat) (-e).toNat).length := by
    unfold TX
    rw [List.length_append, dt_len]
    omega
  unfold NX
  rw [List.length_append]
  split <;> simp only [List.length_cons, List.length_nil] <;> omega
theorem PL_NX {c e : Int} (h : Canon c e) : ∃ ds : List UInt8, PL (NX c e) = some (decide (c < 0), ds, -(((-e).toNat : Nat) : Int)) ∧ dv ds = c.natAbs * 10 ^ e.toNat := by
  have hlen := (NX_len h).1
  unfold PL
  have hlt := digs_lt (n := c.natAbs * 10 ^ e.toNat)
  have hN : NX c e = (if c < 0 then [45] else []) ++ TX (c.natAbs * 10 ^ e.toNat) (-e).toNat := rfl
  generalize c.natAbs * 10 ^ e.toNat = m at *
  generalize (-e).toNat = j at *
  unfold TX at hN
  have ht : 0 < max (digs m).length (1 + j) - j := by omega
  have hmt : m < 10 ^ max (digs m).length (1 + j) := Nat.lt_of_lt_of_le hlt (Nat.pow_le_pow_right (by decide) (by omega))
  have hjt : max (digs m).length (1 + j) - j + j = max (digs m).length (1 + j) := by omega
  generalize hT : max (digs m).length (1 + j) = t at *
  have hW : Digs (dt (m / 10 ^ j) (t - j)) := dt_digs _ _
  have hW0 : dt (m / 10 ^ j) (t - j) ≠ [] := dt_ne ht
  have hcut : cut1 45 (NX c e) = (decide (c < 0), dt (m / 10 ^ j) (t - j) ++ (if j = 0 then [] else 46 :: dt m j)) := by
    rw [hN]
    by_cases hc : c < 0
    · rw [if_pos hc, decide_eq_true hc]
      rfl
    · rw [if_neg hc, decide_eq_false hc, List.nil_append, cut1_dig (by decide) hW hW0]
  dsimp only
  rw [hcut]
  dsimp only
  have hsp := tw_app (A := dt (m / 10 ^ j) (t - j)) (r := if j = 0 then [] else 46 :: dt m j) hW (by
    by_cases hj : j = 0
    · exact .inl (if_pos hj)
    · rw [if_neg hj]; exact .inr ⟨46, _, rfl, by decide⟩)
  rw [hsp.1, hsp.2, decide_eq_true (show (NX c e).length ≤ 255 by omega), isEmpty_len, decide_eq_false (by rw [dt_len]; omega)]
  simp only [Bool.not_false, Bool.and_true]
  by_cases hj : j = 0
  · subst hj
    rw [if_pos rfl]
    refine ⟨dt (m / 10 ^ 0) (t - 0), ?_, ?_⟩
    · have : PP true [] = ([], true, []) := rfl
      rw [this]
      have h2 : PE [] = (false, []) := rfl
      dsimp only
      rw [h2]
      simp [PX]
    · rw [dt_dv, Nat.pow_zero, Nat.div_one, Nat.sub_zero, Nat.mod_eq_of_lt hmt]
  · rw [if_neg hj]
    refine ⟨dt (m / 10 ^ j) (t - j) ++ dt m j, ?_, ?_⟩
    · have hj2 := tw_app (A := dt m j) (r := []) (dt_digs _ _) (.inl rfl)
      rw [List.append_nil] at hj2
      have : PP true (46 :: dt m j) = (dt m j, true, []) := by
        unfold PP
        dsimp only
        rw [cut1, if_pos rfl]
        dsimp only
        rw [if_pos rfl, hj2.1, hj2.2, isEmpty_len, decide_eq_false (by rw [dt_len]; omega)]
        rfl
      rw [this]
      have h2 : PE [] = (false, []) := rfl
      dsimp only
      rw [h2]
      simp [PX, dt_len]
    · rw [← dt_app, hjt, dt_dv, Nat.mod_eq_of_lt hmt]
theorem NX_back (k : Nat) (hk : 30000 ≤ k) {c e : Int} (h : Canon c e) : g_dec_Parse k (B (NX c e)) = some (0, c, e) := by
  have hl := (NX_len h).1
  obtain ⟨ds, h1, h2⟩ := PL_NX h
  have hp := dec_Parse k (NX c e) (by omega) (by omega) (by omega)
  rw [h1] at hp
  obtain ⟨er, c2, y, h3, h4⟩ := hp
  have hrg := h.rng
  have hv : val (sgn (decide (c < 0)) (dv ds)) (-(((-e).toNat : Nat) : Int)) = val c e := by
    rw [h2, sgn_mul, sgn_self, show ((10 ^ e.toNat : Nat) : Int) = (10 : Int) ^ e.toNat by simp, val_shift (by omega)]
    congr 1
    omega
  rw [hv] at h4
  have := Tells.uniq (fun a b ha hb => ha.trans hb.symm) h4 (.inl ⟨rfl, h, rfl⟩ : Tells (· = val c e) ((c, e), 0))
  simp only [Prod.mk.injEq] at this
  obtain ⟨⟨rfl, rfl⟩, rfl⟩ := this
  exact h3
/-- What a written number is made of. -/
def chr (b : UInt8) : Prop := b = 45 ∨ b = 46 ∨ isd b = true
theorem NX_chr {c e : Int} : ∀ b ∈ NX c e, chr b := by
  intro b hb
  unfold NX TX at hb
  rcases List.mem_append.1 hb with h | h
  · split at h
    · left; simpa using h
    · cases h
  · rcases List.mem_append.1 h with h | h
    · exact .inr (.inr (dt_digs _ _ b h))
    · split at h
      · cases h
      · rcases List.mem_cons.1 h with h | h
        · exact .inr (.inl h)
        · exact .inr (.inr (dt_digs _ _ b h))
theorem back_l0 (k : Nat) {l : List UInt8} (hl : l.length ≤ 100) (hc : ∀ b ∈ l, chr b) : ∀ n i : Nat, i ≤ l.length → l.length < n + i → g_quirelaw09_DecBack_l0 k (B l) n (i : Int) = some (Sum.inr ())
  | 0, i, h, h' => by omega
  | n + 1, i, h, h' => by
    unfold g_quirelaw09_DecBack_l0
    simp only [B_size, B_ints, Option.bind_some]
    rcases drop_cases l i h with ⟨e, e'⟩ | ⟨e, b, e1, e2⟩
    · rw [decide_eq_false (by omega)]
      rfl
    · rw [decide_eq_true (by omega), cond_true, e2]
      have hb : chr b := hc b (List.mem_of_mem_drop (i := i) (by rw [e1]; exact List.mem_cons_self ..))
      simp only [Option.bind_some, u8_45, u8_46]
      have hg : (bif (!decide (b = 45)) then (bif (!decide (b = 46)) then (bif (decide ((b.toNat : Int) < 48)) then some true else some (decide (57 < (b.toNat : Int)))) else some false) else some false) = some false := by
        rcases hb with rfl | rfl | hb
        · rfl
        · rfl
        · have := isd_le hb
          rw [decide_eq_false (show ¬ (b.toNat : Int) < 48 by omega), decide_eq_false (show ¬ 57 < (b.toNat : Int) by omega)]
          cases decide (b = 45) <;> cases decide (b = 46) <;> rfl
      rw [hg]
      simp only [Option.bind_some, cond_false]
      rw [wi (by omega) (by omega), show (i : Int) + 1 = ((i + 1 : Nat) : Int) by omega]
      exact back_l0 k hl hc n (i + 1) (by omega) (by omega)
theorem Make_any (k : Nat) (hk : 60 ≤ k) {c e : Int} (hc : I64 c) : ∃ r, g_dec_Make k c e = some r := by
  unfold g_dec_Make
  rw [size_eq k hc]
  by_cases h0 : c = 0
  · subst h0
    exact ⟨_, rfl⟩
  · by_cases h1 : e < -100
    · rw [decide_eq_false h0, decide_eq_true h1]; exact ⟨_, rfl⟩
    · by_cases h2 : 100 < e
      · rw [decide_eq_false h0, decide_eq_false h1, decide_eq_true h2]; exact ⟨_, rfl⟩
      · rw [decide_eq_false h0, decide_eq_false h1, decide_eq_false h2]
        obtain ⟨er, c', x', h3, h4⟩ := tell_abs k hk (neg := decide (c < 0)) (n := c.natAbs) (e := e) (abs_lt hc) (by omega)
        simp only [Bool.not_false, cond_true, cond_false, Option.bind_some]
        rw [h3]
        exact ⟨_, rfl⟩
theorem decBack (a : S_api_Dec) (ha : ((Lit.int .i64 a.fC).wf = true) ∧ ((Lit.int .i64 a.fE).wf = true) ∧ True) : ∃ k, g_quirelaw09_DecBack k a.fC a.fE = some true := by
  refine ⟨30000, ?_⟩
  have ic := i64_I ha.1
  have hp := dec_Print 30000 (by decide) (e := a.fE) ic
  unfold g_quirelaw09_DecBack
  split at hp
  · rename_i hr
    obtain ⟨c, e, h1, h2, h3⟩ := hp
    obtain ⟨c', e', h4, h5, h6⟩ := dec_Make 30000 (by decide) ic hr
    obtain ⟨rfl, rfl⟩ := h1.uniq h5 (h2.trans h6.symm)
    have hlen := NX_len h1
    rw [h3, h4]
    unfold Rng at hr
    simp only [Option.bind_some]
    rw [decide_eq_false (show ¬ a.fE < -18 by omega), decide_eq_false (show ¬ 18 < a.fE by omega)]
    simp only [cond_false, Option.bind_some]
    rw [NX_back 30000 (by decide) h1]
    simp only [Option.bind_some, decide_true, Bool.and_true, Bool.not_true, cond_false, B_size]
    rw [decide_eq_false (show ¬ (((NX c e).length : Nat) : Int) = 0 by omega), decide_eq_false (show ¬ 40 < (((NX c e).length : Nat) : Int) by omega), alive (by decide)]
    simp only [Option.bind_some, cond_false, Bool.not_true]
    rw [show (0 : Int) = ((0 : Nat) : Int) from rfl, back_l0 30000 (by omega) NX_chr 30000 0 (by omega) (by omega)]
    rfl
  · rename_i hr
    obtain ⟨⟨r1, r2, r3⟩, h4⟩ := Make_any 30000 (by decide) (c := a.fC) (e := a.fE) ic
    rw [hp, h4]
    simp only [Option.bind_some]
    have hg : (bif (decide (a.fE < (-18))) then some true else some (decide (18 < a.fE))) = some true := by
      unfold Rng at hr
      by_cases h1 : a.fE < -18
      · rw [decide_eq_true h1]; rfl
      · rw [decide_eq_false h1, decide_eq_true (by omega)]; rfl
    rw [hg]
    simp only [Option.bind_some, cond_true]
    rw [show ((B [63]).toList == (ByteArray.mk #[63]).toList) = true from by rw [show ByteArray.mk #[63] = B [63] from rfl]; simp, cond_true, alive (by decide)]
    rfl
end Go.Proofs.YtdbeblgfccjbgaaDoor.W
namespace Go.Proofs.YtdbeblgfccjbgaaDoor.W
open Go Go.Q Go.Proofs
set_option linter.unusedVariables false
set_option linter.unusedSimpArgs false
set_option maxRecDepth 100000
theorem mixed : Tryd.prog.follows .mixedOrders = true := rfl
theorem ze23 : ZeroIs Tryd.prog 23 [.int .i64 0, .int .i64 0] := ⟨⟨Tryd.t23, _, rfl, rfl, rfl⟩, by intro v hv; simp only [List.mem_cons, List.not_mem_nil, or_false] at hv; (try rcases hv with rfl | rfl) <;> (subst_vars; rfl)⟩
theorem bu34 : BuildIs Tryd.prog 34 (placeOf [(0, 1)]) [.string (ByteArray.mk #[])] := BuildIs.struct (it := Tryd.t34) rfl Tryd.underlying34 rfl rfl rfl (by intro v hv; simp only [List.mem_cons, List.not_mem_nil, or_false] at hv; (try rcases hv with rfl) <;> (subst_vars; rfl))
theorem fi34_0 : FieldIs Tryd.prog 34 0 0 9 1 := ⟨_, _, Tryd.t9, Tryd.underlying34, rfl, rfl, rfl, rfl, rfl⟩
theorem sc9 : Sc Tryd.prog 9 := ⟨_, Tryd.t9, Tryd.underlying9, rfl, rfl, trivial⟩
theorem fn69 : FnIs Tryd.prog 69 := ⟨_, Tryd.func69, rfl, by kernel_rfl⟩
theorem fn61 : FnIs Tryd.prog 61 := ⟨_, Tryd.func61, rfl, by kernel_rfl⟩
theorem fn32 : FnIs Tryd.prog 32 := ⟨_, Tryd.func32, rfl, by kernel_rfl⟩
theorem sz9 : SzIs Tryd.prog 9 1 := ⟨Tryd.t9, rfl, rfl⟩
theorem fn11 : FnIs Tryd.prog 11 := ⟨_, Tryd.func11, rfl, by kernel_rfl⟩
theorem fn12 : FnIs Tryd.prog 12 := ⟨_, Tryd.func12, rfl, by kernel_rfl⟩
theorem ze3 : ZeroIs Tryd.prog 3 [.int .i64 0] := ⟨⟨Tryd.t3, _, rfl, rfl, rfl⟩, by intro v hv; simp only [List.mem_cons, List.not_mem_nil, or_false] at hv; (try rcases hv with rfl) <;> (subst_vars; rfl)⟩
theorem sz3 : SzIs Tryd.prog 3 1 := ⟨Tryd.t3, rfl, rfl⟩
theorem fn13 : FnIs Tryd.prog 13 := ⟨_, Tryd.func13, rfl, by kernel_rfl⟩
theorem sc3 : Sc Tryd.prog 3 := ⟨_, Tryd.t3, Tryd.underlying3, rfl, rfl, trivial⟩
theorem bu23 : BuildIs Tryd.prog 23 (placeOf [(0, 1), (1, 1)]) [.int .i64 0, .int .i64 0] := BuildIs.struct (it := Tryd.t23) rfl Tryd.underlying23 rfl rfl rfl (by intro v hv; simp only [List.mem_cons, List.not_mem_nil, or_false] at hv; (try rcases hv with rfl | rfl) <;> (subst_vars; rfl))
theorem sz23 : SzIs Tryd.prog 23 2 := ⟨Tryd.t23, rfl, rfl⟩
theorem fn34 : FnIs Tryd.prog 34 := ⟨_, Tryd.func34, rfl, by kernel_rfl⟩
theorem fn14 : FnIs Tryd.prog 14 := ⟨_, Tryd.func14, rfl, by kernel_rfl⟩
theorem fn38 : FnIs Tryd.prog 38 := ⟨_, Tryd.func38, rfl, by kernel_rfl⟩
theorem fn15 : FnIs Tryd.prog 15 := ⟨_, Tryd.func15, rfl, by kernel_rfl⟩
theorem bu43 : BuildIs Tryd.prog 43 (placeOf [(0, 1), (1, 1)]) [.int .u64 0, .int .u64 0] := BuildIs.struct (it := Tryd.t43) rfl Tryd.underlying43 rfl rfl rfl (by intro v hv; simp only [List.mem_cons, List.not_mem_nil, or_false] at hv; (try rcases hv with rfl | rfl) <;> (subst_vars; rfl))
theorem ze43 : ZeroIs Tryd.prog 43 [.int .u64 0, .int .u64 0] := ⟨⟨Tryd.t43, _, rfl, rfl, rfl⟩, by intro v hv; simp only [List.mem_cons, List.not_mem_nil, or_false] at hv; (try rcases hv with rfl | rfl) <;> (subst_vars; rfl)⟩
theorem sz43 : SzIs Tryd.prog 43 2 := ⟨Tryd.t43, rfl, rfl⟩
theorem ag43 : Ag Tryd.prog 43 2 := ⟨_, Tryd.t43, Tryd.underlying43, rfl, rfl, trivial⟩
theorem fi43_1 : FieldIs Tryd.prog 43 1 1 41 1 := ⟨_, _, Tryd.t41, Tryd.underlying43, rfl, rfl, rfl, rfl, rfl⟩
theorem sc41 : Sc Tryd.prog 41 := ⟨_, Tryd.t41, Tryd.underlying41, rfl, rfl, trivial⟩
theorem fn41 : FnIs Tryd.prog 41 := ⟨_, Tryd.func41, rfl, by kernel_rfl⟩
theorem fi43_0 : FieldIs Tryd.prog 43 0 0 41 1 := ⟨_, _, Tryd.t41, Tryd.underlying43, rfl, rfl, rfl, rfl, rfl⟩
theorem ex42 : ExtIs Tryd.prog 42 add64S := ⟨_, Tryd.func42, rfl, by kernel_rfl, by kernel_rfl, by kernel_rfl⟩
theorem fn16 : FnIs Tryd.prog 16 := ⟨_, Tryd.func16, rfl, by kernel_rfl⟩
theorem fn17 : FnIs Tryd.prog 17 := ⟨_, Tryd.func17, rfl, by kernel_rfl⟩
theorem bu48 : BuildIs Tryd.prog 48 (placeOf [(0, 1), (1, 2), (3, 1)]) [.bool false, .int .u64 0, .int .u64 0, .int .i64 0] := BuildIs.struct (it := Tryd.t48) rfl Tryd.underlying48 rfl rfl rfl (by intro v hv; simp only [List.mem_cons, List.not_mem_nil, or_false] at hv; (try rcases hv with rfl | rfl | rfl | rfl) <;> (subst_vars; rfl))
theorem fi48_1 : FieldIs Tryd.prog 48 1 1 43 2 := ⟨_, _, Tryd.t43, Tryd.underlying48, rfl, rfl, rfl, rfl, rfl⟩
theorem fn43 : FnIs Tryd.prog 43 := ⟨_, Tryd.func43, rfl, by kernel_rfl⟩
theorem fn83 : FnIs Tryd.prog 83 := ⟨_, Tryd.func83, rfl, by kernel_rfl⟩
theorem fn76 : FnIs Tryd.prog 76 := ⟨_, Tryd.func76, rfl, by kernel_rfl⟩
theorem fn66 : FnIs Tryd.prog 66 := ⟨_, Tryd.func66, rfl, by kernel_rfl⟩
theorem fn44 : FnIs Tryd.prog 44 := ⟨_, Tryd.func44, rfl, by kernel_rfl⟩
theorem fi48_2 : FieldIs Tryd.prog 48 2 3 3 1 := ⟨_, _, Tryd.t3, Tryd.underlying48, rfl, rfl, rfl, rfl, rfl⟩
theorem fn45 : FnIs Tryd.prog 45 := ⟨_, Tryd.func45, rfl, by kernel_rfl⟩
theorem fi48_0 : FieldIs Tryd.prog 48 0 0 4 1 := ⟨_, _, Tryd.t4, Tryd.underlying48, rfl, rfl, rfl, rfl, rfl⟩
theorem sc4 : Sc Tryd.prog 4 := ⟨_, Tryd.t4, Tryd.underlying4, rfl, rfl, trivial⟩
theorem ag23 : Ag Tryd.prog 23 2 := ⟨_, Tryd.t23, Tryd.underlying23, rfl, rfl, trivial⟩
theorem fn18 : FnIs Tryd.prog 18 := ⟨_, Tryd.func18, rfl, by kernel_rfl⟩
theorem fn5 : FnIs Tryd.prog 5 := ⟨_, Tryd.func5, rfl, by kernel_rfl⟩
theorem sz4 : SzIs Tryd.prog 4 1 := ⟨Tryd.t4, rfl, rfl⟩
theorem sc2 : Sc Tryd.prog 2 := ⟨_, Tryd.t2, Tryd.underlying2, rfl, rfl, trivial⟩
theorem eg23 : Tryd.prog.eqGuardType Tryd.prog.depth 23 = false := by kernel_rfl
theorem eq23 {a0 : Int} {a1 : Int} {b0 : Int} {b1 : Int} : EqV Tryd.prog 9 23 (.agg [.int .i64 a0, .int .i64 a1].toArray) (.agg [.int .i64 b0, .int .i64 b1].toArray) ((decide (a0 = b0)) && ((decide (a1 = b1)) && true)) := (EqV.struct Tryd.underlying23 (by kernel_rfl) (EqF.sc (by rfl) sc2 rfl rfl (EqV.int Tryd.underlying2) (EqF.sc (by rfl) sc3 rfl rfl (EqV.int Tryd.underlying3) EqF.nil)))
theorem sz59 : SzIs Tryd.prog 59 1 := ⟨Tryd.t59, rfl, rfl⟩
theorem li85 : LitIs Tryd.prog 85 59 1 [.pointer none] := ⟨Tryd.underlying85, ⟨Tryd.t59, _, rfl, rfl, rfl, rfl⟩, by intro v hv; simp at hv; (try rcases hv with rfl | hv) <;> first | rfl | (subst hv; rfl) | simp_all [Value.oneCell']⟩
theorem sl85 : SlIs Tryd.prog 85 59 1 := ⟨Tryd.underlying85, sz59⟩
theorem sc59 : Sc Tryd.prog 59 := ⟨_, Tryd.t59, Tryd.underlying59, rfl, rfl, trivial⟩
theorem li113 : LitIs Tryd.prog 113 23 2 [.int .i64 0, .int .i64 0] := ⟨Tryd.underlying113, ⟨Tryd.t23, _, rfl, rfl, rfl, rfl⟩, by intro v hv; simp at hv; (try rcases hv with rfl | hv) <;> first | rfl | (subst hv; rfl) | simp_all [Value.oneCell']⟩
theorem sl113 : SlIs Tryd.prog 113 23 2 := ⟨Tryd.underlying113, sz23⟩
theorem fi23_1 : FieldIs Tryd.prog 23 1 1 3 1 := ⟨_, _, Tryd.t3, Tryd.underlying23, rfl, rfl, rfl, rfl, rfl⟩
theorem fn47 : FnIs Tryd.prog 47 := ⟨_, Tryd.func47, rfl, by kernel_rfl⟩
theorem ze48 : ZeroIs Tryd.prog 48 [.bool false, .int .u64 0, .int .u64 0, .int .i64 0] := ⟨⟨Tryd.t48, _, rfl, rfl, rfl⟩, by intro v hv; simp only [List.mem_cons, List.not_mem_nil, or_false] at hv; (try rcases hv with rfl | rfl | rfl | rfl) <;> (subst_vars; rfl)⟩
theorem fi23_0 : FieldIs Tryd.prog 23 0 0 2 1 := ⟨_, _, Tryd.t2, Tryd.underlying23, rfl, rfl, rfl, rfl, rfl⟩
theorem fn23 : FnIs Tryd.prog 23 := ⟨_, Tryd.func23, rfl, by kernel_rfl⟩
theorem sz48 : SzIs Tryd.prog 48 4 := ⟨Tryd.t48, rfl, rfl⟩
theorem ag48 : Ag Tryd.prog 48 4 := ⟨_, Tryd.t48, Tryd.underlying48, rfl, rfl, trivial⟩
theorem fn48 : FnIs Tryd.prog 48 := ⟨_, Tryd.func48, rfl, by kernel_rfl⟩
theorem fn22 : FnIs Tryd.prog 22 := ⟨_, Tryd.func22, rfl, by kernel_rfl⟩
theorem li61 : LitIs Tryd.prog 61 5 1 [.int .u8 0] := ⟨Tryd.underlying61, ⟨Tryd.t5, _, rfl, rfl, rfl, rfl⟩, by intro v hv; simp at hv; (try rcases hv with rfl | hv) <;> first | rfl | (subst hv; rfl) | simp_all [Value.oneCell']⟩
theorem cn9 : Conc Tryd.prog 9 := ⟨_, Tryd.underlying9, trivial⟩
theorem fn49 : FnIs Tryd.prog 49 := ⟨_, Tryd.func49, rfl, by kernel_rfl⟩
theorem fn50 : FnIs Tryd.prog 50 := ⟨_, Tryd.func50, rfl, by kernel_rfl⟩
theorem ze94 : ZeroIs Tryd.prog 94 [.pointer none, .slice none 0 0] := ⟨⟨Tryd.t94, _, rfl, rfl, rfl⟩, by intro v hv; simp only [List.mem_cons, List.not_mem_nil, or_false] at hv; (try rcases hv with rfl | rfl) <;> (subst_vars; rfl)⟩
theorem fn24 : FnIs Tryd.prog 24 := ⟨_, Tryd.func24, rfl, by kernel_rfl⟩
theorem fn7 : FnIs Tryd.prog 7 := ⟨_, Tryd.func7, rfl, by kernel_rfl⟩
theorem fn10 : FnIs Tryd.prog 10 := ⟨_, Tryd.func10, rfl, by kernel_rfl⟩
theorem fn56 : FnIs Tryd.prog 56 := ⟨_, Tryd.func56, rfl, by kernel_rfl⟩
theorem eg43 : Tryd.prog.eqGuardType Tryd.prog.depth 43 = false := by kernel_rfl
theorem eq43 {a0 : Int} {a1 : Int} {b0 : Int} {b1 : Int} : EqV Tryd.prog 9 43 (.agg [.int .u64 a0, .int .u64 a1].toArray) (.agg [.int .u64 b0, .int .u64 b1].toArray) ((decide (a0 = b0)) && ((decide (a1 = b1)) && true)) := (EqV.struct Tryd.underlying43 (by kernel_rfl) (EqF.sc (by rfl) sc41 rfl rfl (EqV.int Tryd.underlying41) (EqF.sc (by rfl) sc41 rfl rfl (EqV.int Tryd.underlying41) EqF.nil)))
theorem fn57 : FnIs Tryd.prog 57 := ⟨_, Tryd.func57, rfl, by kernel_rfl⟩
theorem ex72 : ExtIs Tryd.prog 72 sub64S := ⟨_, Tryd.func72, rfl, by kernel_rfl, by kernel_rfl, by kernel_rfl⟩
theorem fn58 : FnIs Tryd.prog 58 := ⟨_, Tryd.func58, rfl, by kernel_rfl⟩
theorem fn29 : FnIs Tryd.prog 29 := ⟨_, Tryd.func29, rfl, by kernel_rfl⟩
theorem fn59 : FnIs Tryd.prog 59 := ⟨_, Tryd.func59, rfl, by kernel_rfl⟩
theorem fn30 : FnIs Tryd.prog 30 := ⟨_, Tryd.func30, rfl, by kernel_rfl⟩
theorem fn60 : FnIs Tryd.prog 60 := ⟨_, Tryd.func60, rfl, by kernel_rfl⟩
theorem fn31 : FnIs Tryd.prog 31 := ⟨_, Tryd.func31, rfl, by kernel_rfl⟩
theorem fn9 : FnIs Tryd.prog 9 := ⟨_, Tryd.func9, rfl, by kernel_rfl⟩
end Go.Proofs.YtdbeblgfccjbgaaDoor.W
namespace Go.Proofs.YtdbeblgfccjbgaaDoor.W
open Go Go.Q Go.Proofs
set_option linter.unusedVariables false
set_option linter.unusedSimpArgs false
set_option maxRecDepth 100000 in
set_option maxHeartbeats 4000000 in
theorem s_internal_stringslite_HasPrefix (k : Nat) (x18 : ByteArray) (x19 : ByteArray) (x31 : Bool) (H : g_internal_stringslite_HasPrefix k x18 x19 = some x31) : Go.Q.Spec Tryd.prog 69 0 [.lit (.string x18), .lit (.string x19)] Mem.nil (fun o M => o = .ret (.lit (.bool x31)) ∧ M = Mem.nil) := by
 unfold g_internal_stringslite_HasPrefix at H
 refine Go.Q.Spec.of_bodyR (az := []) (rs := [.tmp 4]) (nt := 18) Tryd.func69 rfl rfl (by intro t T h; simp at h) rfl rfl fun cx hnp => ?_
 refine WP.seq ?_
 refine WP.region ?_
 refine WPL.q (q_as (v := .lit (.bool _)) rfl) rfl ?_
 refine WPL.nilW ?_
 refine W.now ?_
 refine Then.n ?_
 refine WP.seq ?_
 obtain ⟨x36, H40, H⟩ := bnd H
 refine WP.monoW (Q := fun x E M => x = .normal ∧ E = (Env.none.upd 4 (.lit (.bool x36))) ∧ M = Mem.nil) ?_ ?_
 · clear H
   have H := H40
   clear H40
   refine WP.region ?_
   refine WPL.q (q_mv (v := .lit (.string _)) rfl) rfl ?_
   refine WPL.q (q_len_str Tryd.underlying9 rfl) rfl ?_
   refine WPL.q (q_mv (v := .lit (.string _)) rfl) rfl ?_
   refine WPL.q (q_len_str Tryd.underlying9 rfl) rfl ?_
   obtain ⟨x37, h37, H⟩ := bnd H
   refine WPL.q (q_nm (q_geq rfl rfl) (nm_bool h37)) rfl ?_
   refine WPL.q (q_mv (v := .lit (.bool _)) rfl) rfl ?_
   refine WPL.split (t := 10) (b := x37) rfl (fun hb37 => ?_) (fun hb37 => ?_)
   · replace H := cnt hb37 H
     refine WPL.qg rfl rfl (lb hb37) (q_mv (v := .lit (.string _)) rfl) rfl ?_
     refine WPL.qg rfl rfl (lb hb37) (q_mv (v := .lit (.string _)) rfl) rfl ?_
     refine WPL.qg rfl rfl (lb hb37) (q_len_str Tryd.underlying9 rfl) rfl ?_
     obtain ⟨h38, H⟩ := grd H
     obtain ⟨x40, h40, H⟩ := bnd H
     refine WPL.qg rfl rfl (lb hb37) (q_nm (q_slice_str (i := 0) (j := ((ByteArray.size x19 : Nat) : Int)) Tryd.underlying9 rfl rfl ⟨_, rfl⟩ h38) (nm_str h40)) rfl ?_
     refine WPL.qg rfl rfl (lb hb37) (q_mv (v := .lit (.string _)) rfl) rfl ?_
     refine WPL.qg rfl rfl (lb hb37) (q_eqls rfl rfl) rfl ?_
     refine WPL.q (q_pickT (v := .lit (.bool _)) (lb hb37) rfl) rfl ?_
     refine WPL.q (q_as (v := .lit (.bool _)) rfl) rfl ?_
     refine WPL.nilW ?_
     have q0 := (Option.some.inj H)
     subst q0
     exact W.wk [] hnp ⟨rfl, rfl, rfl⟩ ⟨rfl, trivial, by decide, rfl, trivial⟩ (LeE.upd rfl rfl (LeE.none rfl rfl)) rfl
   replace H := cnf hb37 H
   refine WPL.skipg (b' := false) rfl rfl (lb hb37) rfl rfl ?_
   refine WPL.skipg (b' := false) rfl rfl (lb hb37) rfl rfl ?_
   refine WPL.skipg (b' := false) rfl rfl (lb hb37) rfl rfl ?_
   refine WPL.skipg (b' := false) rfl rfl (lb hb37) rfl rfl ?_
   refine WPL.skipg (b' := false) rfl rfl (lb hb37) rfl rfl ?_
   refine WPL.skipg (b' := false) rfl rfl (lb hb37) rfl rfl ?_
   refine WPL.q (q_pickF (v := .lit (.bool _)) (lb hb37) rfl) rfl ?_
   refine WPL.q (q_as (v := .lit (.bool _)) rfl) rfl ?_
   refine WPL.nilW ?_
   have q0 := (Option.some.inj H)
   subst q0
   exact W.wk [] hnp ⟨rfl, rfl, rfl⟩ ⟨rfl, trivial, by decide, rfl, trivial⟩ (LeE.upd rfl rfl (LeE.none rfl rfl)) rfl
 rintro _ _ _ ⟨rfl, rfl, rfl⟩
 refine W.now ?_
 refine Then.n ?_
 refine WP.retW ?_
 have q0 := (Option.some.inj H)
 subst q0
 exact W.now (BodyR.mkR trivial rfl [] ⟨rfl, rfl⟩ ⟨rfl, trivial, by decide, rfl, trivial⟩ rfl rfl)
set_option maxRecDepth 100000 in
set_option maxHeartbeats 4000000 in
theorem s_internal_stringslite_CutPrefix (k : Nat) (x15 : ByteArray) (x16 : ByteArray) (x50 : ByteArray) (x51 : Bool) (H : g_internal_stringslite_CutPrefix k x15 x16 = some (x50, x51)) : Go.Q.Spec Tryd.prog 61 0 [.lit (.string x15), .lit (.string x16)] Mem.nil (fun o M => o = .ret (.tup [.lit (.string x50), .lit (.bool x51)]) ∧ M = Mem.nil) := by
 unfold g_internal_stringslite_CutPrefix at H
 refine Go.Q.Spec.of_bodyR (az := []) (rs := [.tmp 4, .tmp 5]) (nt := 15) Tryd.func61 rfl rfl (by intro t T h; simp at h) rfl rfl fun cx hnp => ?_
 refine WP.seq ?_
 refine WP.region ?_
 refine WPL.q (q_as (v := .lit (.string _)) rfl) rfl ?_
 refine WPL.q (q_as (v := .lit (.bool _)) rfl) rfl ?_
 refine WPL.nilW ?_
 refine W.now ?_
 refine Then.n ?_
 refine WP.seq ?_
 refine WP.seq ?_
 refine WP.region ?_
 refine WPL.q (q_mv (v := .lit (.string _)) rfl) rfl ?_
 refine WPL.q (q_mv (v := .lit (.string _)) rfl) rfl ?_
 obtain ⟨x56, h54, H⟩ := bnd H
 refine WPL.c (runs_call (s := []) (t := []) (N := 0) (bor := []) fn69 rfl (s_internal_stringslite_HasPrefix k x15 x16 x56 h54) ⟨rfl, trivial, by decide, rfl, trivial⟩ rfl trivial (.ren rfl rfl (.ren rfl rfl .nil)) rfl trivial rfl) rfl ?_
 refine WPL.q (q_not rfl) rfl ?_
 refine WPL.nilW ?_
 refine W.now ?_
 refine Then.n ?_
 refine WP.cond (t := (!x56)) rfl (fun hb56 => ?_) (fun hb56 => ?_)
 · replace H := cnt hb56 H
   refine WP.seq ?_
   refine WP.region ?_
   refine WPL.q (q_mv (v := .lit (.string _)) rfl) rfl ?_
   refine WPL.q (q_as (v := .lit (.string _)) rfl) rfl ?_
   refine WPL.q (q_as (v := .lit (.bool _)) rfl) rfl ?_
   refine WPL.nilW ?_
   refine W.now ?_
   refine Then.n ?_
   refine WP.retW ?_
   have q0 := (Prod.mk.inj (Option.some.inj H)).1
   have q1 := (Prod.mk.inj (Option.some.inj H)).2
   subst q0
   subst q1
   exact W.now (Then.r (BodyR.mkR trivial rfl [] ⟨rfl, rfl⟩ ⟨rfl, trivial, by decide, rfl, trivial⟩ rfl rfl))
 replace H := cnf hb56 H
 refine WP.skipW ?_
 refine W.now ?_
 refine Then.n ?_
 refine WP.seq ?_
 refine WP.region ?_
 refine WPL.q (q_mv (v := .lit (.string _)) rfl) rfl ?_
 refine WPL.q (q_mv (v := .lit (.string _)) rfl) rfl ?_
 refine WPL.q (q_len_str Tryd.underlying9 rfl) rfl ?_
 obtain ⟨h57, H⟩ := grd H
 obtain ⟨x59, h59, H⟩ := bnd H
 refine WPL.q (q_nm (q_slice_str (i := ((ByteArray.size x16 : Nat) : Int)) (j := ((ByteArray.size x15 : Nat) : Int)) Tryd.underlying9 rfl ⟨_, rfl⟩ rfl h57) (nm_str h59)) rfl ?_
 refine WPL.q (q_as (v := .lit (.string _)) rfl) rfl ?_
 refine WPL.q (q_as (v := .lit (.bool _)) rfl) rfl ?_
 refine WPL.nilW ?_
 refine W.now ?_
 refine Then.n ?_
 refine WP.retW ?_
 have q0 := (Prod.mk.inj (Option.some.inj H)).1
 have q1 := (Prod.mk.inj (Option.some.inj H)).2
 subst q0
 subst q1
 exact W.now (BodyR.mkR trivial rfl [] ⟨rfl, rfl⟩ ⟨rfl, trivial, by decide, rfl, trivial⟩ rfl rfl)
set_option maxRecDepth 100000 in
set_option maxHeartbeats 4000000 in
theorem s_strings_CutPrefix (k : Nat) (x12 : ByteArray) (x13 : ByteArray) (x63 : ByteArray) (x64 : Bool) (H : g_strings_CutPrefix k x12 x13 = some (x63, x64)) : Go.Q.Spec Tryd.prog 32 0 [.lit (.string x12), .lit (.string x13)] Mem.nil (fun o M => o = .ret (.tup [.lit (.string x63), .lit (.bool x64)]) ∧ M = Mem.nil) := by
 unfold g_strings_CutPrefix at H
 refine Go.Q.Spec.of_bodyR (az := []) (rs := [.tmp 4, .tmp 5]) (nt := 11) Tryd.func32 rfl rfl (by intro t T h; simp at h) rfl rfl fun cx hnp => ?_
 refine WP.seq ?_
 refine WP.region ?_
 refine WPL.q (q_as (v := .lit (.string _)) rfl) rfl ?_
 refine WPL.q (q_as (v := .lit (.bool _)) rfl) rfl ?_
 refine WPL.nilW ?_
 refine W.now ?_
 refine Then.n ?_
 refine WP.seq ?_
 refine WP.region ?_
 refine WPL.q (q_mv (v := .lit (.string _)) rfl) rfl ?_
 refine WPL.q (q_mv (v := .lit (.string _)) rfl) rfl ?_
 obtain ⟨⟨x66, x67⟩, h64, H⟩ := bnd H
 refine WPL.c (runs_call (s := []) (t := []) (N := 0) (bor := []) fn61 rfl (s_internal_stringslite_CutPrefix k x12 x13 x66 x67 h64) ⟨rfl, trivial, by decide, rfl, trivial⟩ rfl trivial (.ren rfl rfl (.ren rfl rfl .nil)) rfl trivial rfl) rfl ?_
 refine WPL.q (q_extract rfl rfl) rfl ?_
 refine WPL.q (q_extract rfl rfl) rfl ?_
 refine WPL.q (q_as (v := .lit (.string _)) rfl) rfl ?_
 refine WPL.q (q_as (v := .lit (.bool _)) rfl) rfl ?_
 refine WPL.nilW ?_
 refine W.now ?_
 refine Then.n ?_
 refine WP.retW ?_
 have q0 := (Prod.mk.inj (Option.some.inj H)).1
 have q1 := (Prod.mk.inj (Option.some.inj H)).2
 subst q0
 subst q1
 exact W.now (BodyR.mkR trivial rfl [] ⟨rfl, rfl⟩ ⟨rfl, trivial, by decide, rfl, trivial⟩ rfl rfl)
set_option maxRecDepth 100000 in
set_option maxHeartbeats 4000000 in
theorem s_dec_parser_take (k : Nat) (x9 : ByteArray) (x10 : ByteArray) (x71 : Bool) (x72 : ByteArray) (H : g_dec_parser_take k x9 x10 = some (x71, x72)) : Go.Q.Spec Tryd.prog 11 1 [.ptr 0 0, .lit (.string x9)] (Mem.nil.push (.cells 34 [.lit (.string x10)])) (fun o M => o = .ret (.lit (.bool x71)) ∧ M = (Mem.nil.push (.cells 34 [.lit (.string x72)]))) := by
 unfold g_dec_parser_take at H
 refine Go.Q.Spec.of_bodyR (az := []) (rs := [.tmp 4]) (nt := 21) Tryd.func11 rfl rfl (by intro t T h; simp at h) rfl rfl fun cx hnp => ?_
 refine WP.seq ?_
 refine WP.region ?_
 refine WPL.q (q_as (v := .lit (.bool _)) rfl) rfl ?_
 refine WPL.nilW ?_
 refine W.now ?_
 refine Then.n ?_
 refine WP.seq ?_
 refine WP.region ?_
 refine WPL.q (q_mv (v := .ptr _ _) rfl) rfl ?_
 refine WPL.q (q_nilCheck rfl) rfl ?_
 refine WPL.q (q_fieldAddr fi34_0 rfl rfl) rfl ?_
 refine WPL.q (q_load sc9 rfl rfl rfl) rfl ?_
 refine WPL.q (q_mv (v := .lit (.string _)) rfl) rfl ?_
 obtain ⟨⟨x74, x75⟩, h72, H⟩ := bnd H
 refine WPL.c (runs_call (s := []) (t := []) (N := 1) (bor := []) fn32 rfl (s_strings_CutPrefix k x10 x9 x74 x75 h72) ⟨rfl, trivial, by decide, rfl, trivial⟩ rfl trivial (.ren rfl rfl (.ren rfl rfl .nil)) rfl trivial rfl) rfl ?_
 refine WPL.q (q_mv (v := .tup _) rfl) rfl ?_
 refine WPL.q (q_extract rfl rfl) rfl ?_
 refine WPL.q (q_extract rfl rfl) rfl ?_
 refine WPL.q (q_as (v := .lit (.string _)) rfl) rfl ?_
 refine WPL.q (q_as (v := .lit (.bool _)) rfl) rfl ?_
 refine WPL.nilW ?_
 refine W.now ?_
 refine Then.n ?_
 refine WP.seq ?_
 refine WP.region ?_
 refine WPL.q (q_mv (v := .ptr _ _) rfl) rfl ?_
 refine WPL.q (q_mv (v := .lit (.string _)) rfl) rfl ?_
 refine WPL.q (q_nilCheck rfl) rfl ?_
 refine WPL.q (q_fieldAddr fi34_0 rfl rfl) rfl ?_
 refine WPL.s (s_store sz9 rfl rfl rfl rfl rfl) ?_
 refine WPL.nilW ?_
 refine W.now ?_
 refine Then.n ?_
 refine WP.seq ?_
 refine WP.region ?_
 refine WPL.q (q_mv (v := .lit (.bool _)) rfl) rfl ?_
 refine WPL.q (q_as (v := .lit (.bool _)) rfl) rfl ?_
 refine WPL.nilW ?_
 refine W.now ?_
 refine Then.n ?_
 refine WP.retW ?_
 have q0 := (Prod.mk.inj (Option.some.inj H)).1
 have q1 := (Prod.mk.inj (Option.some.inj H)).2
 subst q0
 subst q1
 exact W.now (BodyR.mkR trivial rfl [0] ⟨rfl, rfl⟩ ⟨rfl, ⟨trivial, .inr ⟨rfl, rfl, rfl⟩⟩, by decide, rfl, ⟨trivial, rfl⟩⟩ rfl rfl)
set_option maxRecDepth 100000 in
set_option maxHeartbeats 4000000 in
theorem s_dec_parser_some (k : Nat) (x79 : ByteArray) (x139 : ByteArray) (x140 : ByteArray) (H : g_dec_parser_some k x79 = some (x139, x140)) : Go.Q.Spec Tryd.prog 12 1 [.ptr 0 0] (Mem.nil.push (.cells 34 [.lit (.string x79)])) (fun o M => o = .ret (.lit (.string x139)) ∧ M = (Mem.nil.push (.cells 34 [.lit (.string x140)]))) := by
 unfold g_dec_parser_some at H
 refine Go.Q.Spec.of_bodyR (az := []) (rs := [.tmp 2]) (nt := 48) Tryd.func12 rfl rfl (by intro t T h; simp at h) rfl rfl fun cx hnp => ?_
 refine WP.seq ?_
 refine WP.region ?_
 refine WPL.q (q_as (v := .lit (.string _)) rfl) rfl ?_
 refine WPL.nilW ?_
 refine W.now ?_
 refine Then.n ?_
 refine WP.seq ?_
 refine WP.region ?_
 refine WPL.q (q_as (v := .lit (.int _ _)) rfl) rfl ?_
 refine WPL.nilW ?_
 refine W.now ?_
 refine Then.n ?_
 refine WP.seq ?_
 refine WP.block ?_
 refine WP.cv (Cv.weak (E' := ((Env.none.upd 0 (.ptr 0 0)).upd 3 (.lit (.int .i64 0)))) (M' := (Mem.nil.push (.cells 34 [.lit (.string x79)]))) [0] hnp ⟨rfl, ⟨trivial, .inr ⟨rfl, rfl, rfl⟩⟩, by decide, rfl, ⟨trivial, rfl⟩⟩ (LeE.upd rfl rfl (LeE.upd rfl rfl (LeE.none rfl rfl)))) ?_
 obtain ⟨x194, H220, H⟩ := bnd H
 refine WP.monoW (Q := fun x E M => x = .exit 0 ∧ E = ((Env.none.upd 0 (.ptr 0 0)).upd 3 (.lit (.int .i64 x194))) ∧ M = (Mem.nil.push (.cells 34 [.lit (.string x79)]))) ?_ ?_
 · refine WP.loop (β := Int) (fun n b => g_dec_parser_some_l0 k x79 n b = some x194) (fun b => ((Env.none.upd 0 (.ptr 0 0)).upd 3 (.lit (.int .i64 b)))) (fun b => (Mem.nil.push (.cells 34 [.lit (.string x79)]))) k 0 H220 rfl rfl ?_
   rintro n x167 H
   obtain _ | n := n
   · exact nf rfl H
   rw [g_dec_parser_some_l0.eq_2] at H
   show WP _ _ _ _ ((Env.none.upd 0 (.ptr 0 0)).upd 3 (.lit (.int .i64 x167))) (Mem.nil.push (.cells 34 [.lit (.string x79)])) _
   refine WP.seq ?_
   refine WP.seq ?_
   obtain ⟨x213, H218, H⟩ := bnd H
   refine WP.monoW (Q := fun x E M => x = .normal ∧ E = (((Env.none.upd 0 (.ptr 0 0)).upd 3 (.lit (.int .i64 x167))).upd 29 (.lit (.bool x213))) ∧ M = (Mem.nil.push (.cells 34 [.lit (.string x79)]))) ?_ ?_
   · clear H
     have H := H218
     clear H218
     refine WP.region ?_
     refine WPL.q (q_mv (v := .lit (.int _ _)) rfl) rfl ?_
     refine WPL.q (q_mv (v := .ptr _ _) rfl) rfl ?_
     refine WPL.q (q_nilCheck rfl) rfl ?_
     refine WPL.q (q_fieldAddr fi34_0 rfl rfl) rfl ?_
     refine WPL.q (q_load sc9 rfl rfl rfl) rfl ?_
     refine WPL.q (q_len_str Tryd.underlying9 rfl) rfl ?_
     obtain ⟨x214, h214, H⟩ := bnd H
     refine WPL.q (q_nm (q_lss rfl rfl) (nm_bool h214)) rfl ?_
     refine WPL.q (q_mv (v := .lit (.bool _)) rfl) rfl ?_
     refine WPL.split (t := 12) (b := x214) rfl (fun hb214 => ?_) (fun hb214 => ?_)
     · replace H := cnt hb214 H
       refine WPL.qg rfl rfl (lb hb214) (q_mv (v := .ptr _ _) rfl) rfl ?_
       refine WPL.qg rfl rfl (lb hb214) (q_nilCheck rfl) rfl ?_
       refine WPL.qg rfl rfl (lb hb214) (q_fieldAddr fi34_0 rfl rfl) rfl ?_
       refine WPL.qg rfl rfl (lb hb214) (q_load sc9 rfl rfl rfl) rfl ?_
       refine WPL.qg rfl rfl (lb hb214) (q_mv (v := .lit (.int _ _)) rfl) rfl ?_
       obtain ⟨x216, h216, H⟩ := bnd H
       refine WPL.qg rfl rfl (lb hb214) (q_index_str Tryd.underlying9 rfl rfl h216) rfl ?_
       refine WPL.qg rfl rfl (lb hb214) (q_geq rfl rfl) rfl ?_
       refine WPL.q (q_pickT (v := .lit (.bool _)) (lb hb214) rfl) rfl ?_
       refine WPL.q (q_mv (v := .lit (.bool _)) rfl) rfl ?_
       refine WPL.split (t := 21) (b := (decide (48 ≤ x216))) rfl (fun hb216 => ?_) (fun hb216 => ?_)
       · replace H := cnt hb216 H
         refine WPL.qg rfl rfl (lb hb216) (q_mv (v := .ptr _ _) rfl) rfl ?_
         refine WPL.qg rfl rfl (lb hb216) (q_nilCheck rfl) rfl ?_
         refine WPL.qg rfl rfl (lb hb216) (q_fieldAddr fi34_0 rfl rfl) rfl ?_
         refine WPL.qg rfl rfl (lb hb216) (q_load sc9 rfl rfl rfl) rfl ?_
         refine WPL.qg rfl rfl (lb hb216) (q_mv (v := .lit (.int _ _)) rfl) rfl ?_
         obtain ⟨x218, h218, H⟩ := bnd H
         refine WPL.qg rfl rfl (lb hb216) (q_index_str Tryd.underlying9 rfl rfl h218) rfl ?_
         refine WPL.qg rfl rfl (lb hb216) (q_leq rfl rfl) rfl ?_
         refine WPL.q (q_pickT (v := .lit (.bool _)) (lb hb216) rfl) rfl ?_
         refine WPL.nilW ?_
         have q0 := (Option.some.inj H)
         subst q0
         exact W.wk [0] hnp ⟨rfl, rfl, rfl⟩ ⟨rfl, ⟨trivial, .inr ⟨rfl, rfl, rfl⟩⟩, by decide, rfl, ⟨trivial, rfl⟩⟩ (LeE.upd rfl rfl (LeE.upd rfl rfl (LeE.upd rfl rfl (LeE.none rfl rfl)))) rfl
       replace H := cnf hb216 H
       refine WPL.skipg (b' := false) rfl rfl (lb hb216) rfl rfl ?_
       refine WPL.skipg (b' := false) rfl rfl (lb hb216) rfl rfl ?_
       refine WPL.skipg (b' := false) rfl rfl (lb hb216) rfl rfl ?_
       refine WPL.skipg (b' := false) rfl rfl (lb hb216) rfl rfl ?_
       refine WPL.skipg (b' := false) rfl rfl (lb hb216) rfl rfl ?_
       refine WPL.skipg (b' := false) rfl rfl (lb hb216) rfl rfl ?_
       refine WPL.skipg (b' := false) rfl rfl (lb hb216) rfl rfl ?_
       refine WPL.q (q_pickF (v := .lit (.bool _)) (lb hb216) rfl) rfl ?_
       refine WPL.nilW ?_
       have q0 := (Option.some.inj H)
       subst q0
       exact W.wk [0] hnp ⟨rfl, rfl, rfl⟩ ⟨rfl, ⟨trivial, .inr ⟨rfl, rfl, rfl⟩⟩, by decide, rfl, ⟨trivial, rfl⟩⟩ (LeE.upd rfl rfl (LeE.upd rfl rfl (LeE.upd rfl rfl (LeE.none rfl rfl)))) rfl
     replace H := cnf hb214 H
     refine WPL.skipg (b' := false) rfl rfl (lb hb214) rfl rfl ?_
     refine WPL.skipg (b' := false) rfl rfl (lb hb214) rfl rfl ?_
     refine WPL.skipg (b' := false) rfl rfl (lb hb214) rfl rfl ?_
     refine WPL.skipg (b' := false) rfl rfl (lb hb214) rfl rfl ?_
     refine WPL.skipg (b' := false) rfl rfl (lb hb214) rfl rfl ?_
     refine WPL.skipg (b' := false) rfl rfl (lb hb214) rfl rfl ?_
     refine WPL.skipg (b' := false) rfl rfl (lb hb214) rfl rfl ?_
     refine WPL.q (q_pickF (v := .lit (.bool _)) (lb hb214) rfl) rfl ?_
     refine WPL.q (q_mv (v := .lit (.bool _)) rfl) rfl ?_
     refine WPL.skipg (b' := false) rfl rfl rfl rfl rfl ?_
     refine WPL.skipg (b' := false) rfl rfl rfl rfl rfl ?_
     refine WPL.skipg (b' := false) rfl rfl rfl rfl rfl ?_
     refine WPL.skipg (b' := false) rfl rfl rfl rfl rfl ?_
     refine WPL.skipg (b' := false) rfl rfl rfl rfl rfl ?_
     refine WPL.skipg (b' := false) rfl rfl rfl rfl rfl ?_
     refine WPL.skipg (b' := false) rfl rfl rfl rfl rfl ?_
     refine WPL.q (q_pickF (v := .lit (.bool _)) rfl rfl) rfl ?_
     refine WPL.nilW ?_
     have q0 := (Option.some.inj H)
     subst q0
     exact W.wk [0] hnp ⟨rfl, rfl, rfl⟩ ⟨rfl, ⟨trivial, .inr ⟨rfl, rfl, rfl⟩⟩, by decide, rfl, ⟨trivial, rfl⟩⟩ (LeE.upd rfl rfl (LeE.upd rfl rfl (LeE.upd rfl rfl (LeE.none rfl rfl)))) rfl
   rintro _ _ _ ⟨rfl, rfl, rfl⟩
   refine W.now ?_
   refine Then.n ?_
   refine WP.cond (t := x213) rfl (fun hb219 => ?_) (fun hb219 => ?_)
   · replace H := cnt hb219 H
     refine WP.skipW ?_
     refine W.now ?_
     refine Then.n ?_
     refine WP.block ?_
     refine WP.region ?_
     refine WPL.q (q_mv (v := .lit (.int _ _)) rfl) rfl ?_
     refine WPL.q (q_add rfl rfl) rfl ?_
     refine WPL.q (q_as (v := .lit (.int _ _)) rfl) rfl ?_
     refine WPL.nilW ?_
     exact W.wk [0] hnp (InBlock.n (Then.n ⟨n, (IntKind.wrap .i64 (x167 + 1)), Nat.lt_succ_self n, H, rfl, rfl⟩)) ⟨rfl, ⟨trivial, .inr ⟨rfl, rfl, rfl⟩⟩, by decide, rfl, ⟨trivial, rfl⟩⟩ (LeE.upd rfl rfl (LeE.upd rfl rfl (LeE.none rfl rfl))) rfl
   replace H := cnf hb219 H
   refine WP.exitW ?_
   have q0 := (Option.some.inj H)
   subst q0
   exact W.wk [0] hnp (Then.x (Then.x ⟨rfl, rfl, rfl⟩)) ⟨rfl, ⟨trivial, .inr ⟨rfl, rfl, rfl⟩⟩, by decide, rfl, ⟨trivial, rfl⟩⟩ (LeE.upd rfl rfl (LeE.upd rfl rfl (LeE.none rfl rfl))) rfl
 rintro _ _ _ ⟨rfl, rfl, rfl⟩
 refine W.now ?_
 refine InBlock.x0 ?_
 refine Then.n ?_
 refine WP.seq ?_
 refine WP.region ?_
 refine WPL.q (q_mv (v := .ptr _ _) rfl) rfl ?_
 refine WPL.q (q_nilCheck rfl) rfl ?_
 refine WPL.q (q_fieldAddr fi34_0 rfl rfl) rfl ?_
 refine WPL.q (q_load sc9 rfl rfl rfl) rfl ?_
 refine WPL.q (q_mv (v := .lit (.int _ _)) rfl) rfl ?_
 obtain ⟨h221, H⟩ := grd H
 refine WPL.q (q_slice_str (i := 0) (j := x194) Tryd.underlying9 rfl rfl ⟨_, rfl⟩ h221) rfl ?_
 refine WPL.q (q_as (v := .lit (.string _)) rfl) rfl ?_
 refine WPL.nilW ?_
 refine W.now ?_
 refine Then.n ?_
 refine WP.seq ?_
 refine WP.region ?_
 refine WPL.q (q_mv (v := .ptr _ _) rfl) rfl ?_
 refine WPL.q (q_mv (v := .ptr _ _) rfl) rfl ?_
 refine WPL.q (q_nilCheck rfl) rfl ?_
 refine WPL.q (q_fieldAddr fi34_0 rfl rfl) rfl ?_
 refine WPL.q (q_load sc9 rfl rfl rfl) rfl ?_
 refine WPL.q (q_mv (v := .lit (.int _ _)) rfl) rfl ?_
 obtain ⟨h222, H⟩ := grd H
 obtain ⟨x224, h224, H⟩ := bnd H
 refine WPL.q (q_nm (q_slice_str (i := x194) (j := ((ByteArray.size x79 : Nat) : Int)) Tryd.underlying9 rfl ⟨_, rfl⟩ rfl h222) (nm_str h224)) rfl ?_
 refine WPL.q (q_nilCheck rfl) rfl ?_
 refine WPL.q (q_fieldAddr fi34_0 rfl rfl) rfl ?_
 refine WPL.s (s_store sz9 rfl rfl rfl rfl rfl) ?_
 refine WPL.nilW ?_
 refine W.now ?_
 refine Then.n ?_
 refine WP.seq ?_
 refine WP.region ?_
 refine WPL.q (q_mv (v := .lit (.string _)) rfl) rfl ?_
 refine WPL.q (q_as (v := .lit (.string _)) rfl) rfl ?_
 refine WPL.nilW ?_
 refine W.now ?_
 refine Then.n ?_
 refine WP.retW ?_
 have q0 := (Prod.mk.inj (Option.some.inj H)).1
 have q1 := (Prod.mk.inj (Option.some.inj H)).2
 subst q0
 subst q1
 exact W.now (BodyR.mkR trivial rfl [0] ⟨rfl, rfl⟩ ⟨rfl, ⟨trivial, .inr ⟨rfl, rfl, rfl⟩⟩, by decide, rfl, ⟨trivial, rfl⟩⟩ rfl rfl)
set_option maxRecDepth 100000 in
set_option maxHeartbeats 4000000 in
theorem s_dec_values (k : Nat) (x303 : ByteArray) (H : g_dec_values k x303 = some ()) : Go.Q.Spec Tryd.prog 13 0 [.lit (.string x303)] Mem.nil (fun o M => o = .ret (.fn 33 [.ptr 0 0]) ∧ M = (Mem.nil.push (.cells 9 [.lit (.string x303)]))) := by
 unfold g_dec_values at H
 refine Go.Q.Spec.of_bodyR (az := []) (rs := [.tmp 2]) (nt := 4) Tryd.func13 rfl rfl (by intro t T h; simp at h) rfl rfl fun cx hnp => ?_
 refine WP.seq ?_
 refine WP.region ?_
 refine WPL.d (d_box rfl rfl) rfl ?_
 refine WPL.q (q_as (v := .lit _) rfl) rfl ?_
 refine WPL.nilW ?_
 refine W.now ?_
 refine Then.n ?_
 refine WP.seq ?_
 refine WP.region ?_
 refine WPL.q (q_makeFunc) rfl ?_
 refine WPL.q (q_as (v := .fn _ _) rfl) rfl ?_
 refine WPL.nilW ?_
 refine W.now ?_
 refine Then.n ?_
 refine WP.retW ?_
 exact W.now (BodyR.mkR trivial rfl [0] ⟨rfl, rfl⟩ ⟨rfl, ⟨trivial, .inr ⟨rfl, rfl, rfl⟩⟩, by decide, rfl, trivial⟩ rfl rfl)
set_option maxRecDepth 100000 in
set_option maxHeartbeats 4000000 in
theorem s_strings_trimLeftByte (k : Nat) (x520 : ByteArray) (x521 : Int) (x566 : ByteArray) (H : g_strings_trimLeftByte k x520 x521 = some x566) : Go.Q.Spec Tryd.prog 34 0 [.lit (.string x520), .lit (.int .u8 x521)] Mem.nil (fun o M => o = .ret (.lit (.string x566)) ∧ M = Mem.nil) := by
 unfold g_strings_trimLeftByte at H
 refine Go.Q.Spec.of_bodyR (az := []) (rs := [.tmp 4]) (nt := 17) Tryd.func34 rfl rfl (by intro t T h; simp at h) rfl rfl fun cx hnp => ?_
 refine WP.seq ?_
 refine WP.region ?_
 refine WPL.q (q_as (v := .lit (.string _)) rfl) rfl ?_
 refine WPL.nilW ?_
 refine W.now ?_
 refine Then.n ?_
 refine WP.seq ?_
 refine WP.block ?_
 refine WP.cv (Cv.weak (E' := ((Env.none.upd 0 (.lit (.string x520))).upd 1 (.lit (.int .u8 x521)))) (M' := Mem.nil) [] hnp ⟨rfl, trivial, by decide, rfl, trivial⟩ (LeE.upd rfl rfl (LeE.upd rfl rfl (LeE.none rfl rfl)))) ?_
 obtain ⟨x608, H628, H⟩ := bnd H
 refine WP.monoW (Q := fun x E M => x = .exit 0 ∧ E = (Env.none.upd 0 (.lit (.string x608))) ∧ M = Mem.nil) ?_ ?_
 · refine WP.loop (β := ByteArray) (fun n b => g_strings_trimLeftByte_l0 k x521 n b = some x608) (fun b => ((Env.none.upd 0 (.lit (.string b))).upd 1 (.lit (.int .u8 x521)))) (fun b => Mem.nil) k x520 H628 rfl rfl ?_
   rintro n x587 H
   obtain _ | n := n
   · exact nf rfl H
   rw [g_strings_trimLeftByte_l0.eq_2] at H
   show WP _ _ _ _ ((Env.none.upd 0 (.lit (.string x587))).upd 1 (.lit (.int .u8 x521))) Mem.nil _
   refine WP.seq ?_
   refine WP.seq ?_
   obtain ⟨x621, H624, H⟩ := bnd H
   refine WP.monoW (Q := fun x E M => x = .normal ∧ E = (((Env.none.upd 0 (.lit (.string x587))).upd 1 (.lit (.int .u8 x521))).upd 13 (.lit (.bool x621))) ∧ M = Mem.nil) ?_ ?_
   · clear H
     have H := H624
     clear H624
     refine WP.region ?_
     refine WPL.q (q_mv (v := .lit (.string _)) rfl) rfl ?_
     refine WPL.q (q_len_str Tryd.underlying9 rfl) rfl ?_
     obtain ⟨x622, h622, H⟩ := bnd H
     refine WPL.q (q_nm (q_gtr rfl rfl) (nm_bool h622)) rfl ?_
     refine WPL.q (q_mv (v := .lit (.bool _)) rfl) rfl ?_
     refine WPL.split (t := 8) (b := x622) rfl (fun hb622 => ?_) (fun hb622 => ?_)
     · replace H := cnt hb622 H
       refine WPL.qg rfl rfl (lb hb622) (q_mv (v := .lit (.string _)) rfl) rfl ?_
       obtain ⟨x624, h624, H⟩ := bnd H
       refine WPL.qg rfl rfl (lb hb622) (q_index_str Tryd.underlying9 rfl rfl h624) rfl ?_
       refine WPL.qg rfl rfl (lb hb622) (q_mv (v := .lit (.int _ _)) rfl) rfl ?_
       refine WPL.qg rfl rfl (lb hb622) (q_eql rfl rfl) rfl ?_
       refine WPL.q (q_pickT (v := .lit (.bool _)) (lb hb622) rfl) rfl ?_
       refine WPL.nilW ?_
       have q0 := (Option.some.inj H)
       subst q0
       exact W.wk [] hnp ⟨rfl, rfl, rfl⟩ ⟨rfl, trivial, by decide, rfl, trivial⟩ (LeE.upd rfl rfl (LeE.upd rfl rfl (LeE.upd rfl rfl (LeE.none rfl rfl)))) rfl
     replace H := cnf hb622 H
     refine WPL.skipg (b' := false) rfl rfl (lb hb622) rfl rfl ?_
     refine WPL.skipg (b' := false) rfl rfl (lb hb622) rfl rfl ?_
     refine WPL.skipg (b' := false) rfl rfl (lb hb622) rfl rfl ?_
     refine WPL.skipg (b' := false) rfl rfl (lb hb622) rfl rfl ?_
     refine WPL.q (q_pickF (v := .lit (.bool _)) (lb hb622) rfl) rfl ?_
     refine WPL.nilW ?_
     have q0 := (Option.some.inj H)
     subst q0
     exact W.wk [] hnp ⟨rfl, rfl, rfl⟩ ⟨rfl, trivial, by decide, rfl, trivial⟩ (LeE.upd rfl rfl (LeE.upd rfl rfl (LeE.upd rfl rfl (LeE.none rfl rfl)))) rfl
   rintro _ _ _ ⟨rfl, rfl, rfl⟩
   refine W.now ?_
   refine Then.n ?_
   refine WP.cond (t := x621) rfl (fun hb625 => ?_) (fun hb625 => ?_)
   · replace H := cnt hb625 H
     refine WP.skipW ?_
     refine W.now ?_
     refine Then.n ?_
     refine WP.block ?_
     refine WP.region ?_
     refine WPL.q (q_mv (v := .lit (.string _)) rfl) rfl ?_
     obtain ⟨h626, H⟩ := grd H
     obtain ⟨x628, h628, H⟩ := bnd H
     refine WPL.q (q_nm (q_slice_str (i := 1) (j := ((ByteArray.size x587 : Nat) : Int)) Tryd.underlying9 rfl ⟨_, rfl⟩ rfl h626) (nm_str h628)) rfl ?_
     refine WPL.q (q_as (v := .lit (.string _)) rfl) rfl ?_
     refine WPL.nilW ?_
     exact W.wk [] hnp (InBlock.n (Then.n ⟨n, x628, Nat.lt_succ_self n, H, rfl, rfl⟩)) ⟨rfl, trivial, by decide, rfl, trivial⟩ (LeE.upd rfl rfl (LeE.upd rfl rfl (LeE.none rfl rfl))) rfl
   replace H := cnf hb625 H
   refine WP.exitW ?_
   have q0 := (Option.some.inj H)
   subst q0
   exact W.wk [] hnp (Then.x (Then.x ⟨rfl, rfl, rfl⟩)) ⟨rfl, trivial, by decide, rfl, trivial⟩ (LeE.upd rfl rfl (LeE.none rfl rfl)) rfl
 rintro _ _ _ ⟨rfl, rfl, rfl⟩
 refine W.now ?_
 refine InBlock.x0 ?_
 refine Then.n ?_
 refine WP.seq ?_
 refine WP.region ?_
 refine WPL.q (q_mv (v := .lit (.string _)) rfl) rfl ?_
 refine WPL.q (q_as (v := .lit (.string _)) rfl) rfl ?_
 refine WPL.nilW ?_
 refine W.now ?_
 refine Then.n ?_
 refine WP.retW ?_
 have q0 := (Option.some.inj H)
 subst q0
 exact W.now (BodyR.mkR trivial rfl [] ⟨rfl, rfl⟩ ⟨rfl, trivial, by decide, rfl, trivial⟩ rfl rfl)
set_option maxRecDepth 100000 in
set_option maxHeartbeats 4000000 in
theorem s_strings_TrimLeft (k : Nat) (x489 : ByteArray) (x490 : ByteArray) (x644 : ByteArray) (H : g_strings_TrimLeft k x489 x490 = some x644) : Go.Q.Spec Tryd.prog 14 0 [.lit (.string x489), .lit (.string x490)] Mem.nil (fun o M => o = .ret (.lit (.string x644)) ∧ M = Mem.nil) := by
 unfold g_strings_TrimLeft at H
 refine Go.Q.Spec.of_bodyR (az := []) (rs := [.tmp 4]) (nt := 37) Tryd.func14 rfl rfl (by intro t T h; simp at h) rfl rfl fun cx hnp => ?_
 refine WP.seq ?_
 refine WP.region ?_
 refine WPL.q (q_as (v := .lit (.string _)) rfl) rfl ?_
 refine WPL.nilW ?_
 refine W.now ?_
 refine Then.n ?_
 refine WP.seq ?_
 refine WP.seq ?_
 obtain ⟨x657, H660, H⟩ := bnd H
 refine WP.monoW (Q := fun x E M => x = .normal ∧ E = (((Env.none.upd 0 (.lit (.string x489))).upd 1 (.lit (.string x490))).upd 12 (.lit (.bool x657))) ∧ M = Mem.nil) ?_ ?_
 · clear H
   have H := H660
   clear H660
   refine WP.region ?_
   refine WPL.q (q_mv (v := .lit (.string _)) rfl) rfl ?_
   obtain ⟨x658, h658, H⟩ := bnd H
   refine WPL.q (q_nm (q_eqls rfl rfl) (nm_bool h658)) rfl ?_
   refine WPL.q (q_mv (v := .lit (.bool _)) rfl) rfl ?_
   refine WPL.split (t := 9) (b := x658) rfl (fun hb658 => ?_) (fun hb658 => ?_)
   · replace H := cnt hb658 H
     refine WPL.skipg (b' := true) rfl rfl (lb hb658) rfl rfl ?_
     refine WPL.skipg (b' := true) rfl rfl (lb hb658) rfl rfl ?_
     refine WPL.q (q_pickT (v := .lit (.bool _)) (lb hb658) rfl) rfl ?_
     refine WPL.nilW ?_
     have q0 := (Option.some.inj H)
     subst q0
     exact W.wk [] hnp ⟨rfl, rfl, rfl⟩ ⟨rfl, trivial, by decide, rfl, trivial⟩ (LeE.upd rfl rfl (LeE.upd rfl rfl (LeE.upd rfl rfl (LeE.none rfl rfl)))) rfl
   replace H := cnf hb658 H
   refine WPL.qg rfl rfl (lb hb658) (q_mv (v := .lit (.string _)) rfl) rfl ?_
   obtain ⟨x660, h660, H⟩ := bnd H
   refine WPL.qg rfl rfl (lb hb658) (q_nm (q_eqls rfl rfl) (nm_bool h660)) rfl ?_
   refine WPL.q (q_pickF (v := .lit (.bool _)) (lb hb658) rfl) rfl ?_
   refine WPL.nilW ?_
   have q0 := (Option.some.inj H)
   subst q0
   exact W.wk [] hnp ⟨rfl, rfl, rfl⟩ ⟨rfl, trivial, by decide, rfl, trivial⟩ (LeE.upd rfl rfl (LeE.upd rfl rfl (LeE.upd rfl rfl (LeE.none rfl rfl)))) rfl
 rintro _ _ _ ⟨rfl, rfl, rfl⟩
 refine W.now ?_
 refine Then.n ?_
 refine WP.cond (t := x657) rfl (fun hb661 => ?_) (fun hb661 => ?_)
 · replace H := cnt hb661 H
   refine WP.seq ?_
   refine WP.region ?_
   refine WPL.q (q_mv (v := .lit (.string _)) rfl) rfl ?_
   refine WPL.q (q_as (v := .lit (.string _)) rfl) rfl ?_
   refine WPL.nilW ?_
   refine W.now ?_
   refine Then.n ?_
   refine WP.retW ?_
   have q0 := (Option.some.inj H)
   subst q0
   exact W.now (Then.r (BodyR.mkR trivial rfl [] ⟨rfl, rfl⟩ ⟨rfl, trivial, by decide, rfl, trivial⟩ rfl rfl))
 replace H := cnf hb661 H
 refine WP.skipW ?_
 refine W.now ?_
 refine Then.n ?_
 refine WP.seq ?_
 refine WP.seq ?_
 obtain ⟨x678, H681, H⟩ := bnd H
 refine WP.monoW (Q := fun x E M => x = .normal ∧ E = (((Env.none.upd 0 (.lit (.string x489))).upd 1 (.lit (.string x490))).upd 21 (.lit (.bool x678))) ∧ M = Mem.nil) ?_ ?_
 · clear H
   have H := H681
   clear H681
   refine WP.region ?_
   refine WPL.q (q_mv (v := .lit (.string _)) rfl) rfl ?_
   refine WPL.q (q_len_str Tryd.underlying9 rfl) rfl ?_
   obtain ⟨x679, h679, H⟩ := bnd H
   refine WPL.q (q_nm (q_eql rfl rfl) (nm_bool h679)) rfl ?_
   refine WPL.q (q_mv (v := .lit (.bool _)) rfl) rfl ?_
   refine WPL.split (t := 17) (b := x679) rfl (fun hb679 => ?_) (fun hb679 => ?_)
   · replace H := cnt hb679 H
     refine WPL.qg rfl rfl (lb hb679) (q_mv (v := .lit (.string _)) rfl) rfl ?_
     obtain ⟨x681, h681, H⟩ := bnd H
     refine WPL.qg rfl rfl (lb hb679) (q_index_str Tryd.underlying9 rfl rfl h681) rfl ?_
     refine WPL.qg rfl rfl (lb hb679) (q_lss rfl rfl) rfl ?_
     refine WPL.q (q_pickT (v := .lit (.bool _)) (lb hb679) rfl) rfl ?_
     refine WPL.nilW ?_
     have q0 := (Option.some.inj H)
     subst q0
     exact W.wk [] hnp ⟨rfl, rfl, rfl⟩ ⟨rfl, trivial, by decide, rfl, trivial⟩ (LeE.upd rfl rfl (LeE.upd rfl rfl (LeE.upd rfl rfl (LeE.none rfl rfl)))) rfl
   replace H := cnf hb679 H
   refine WPL.skipg (b' := false) rfl rfl (lb hb679) rfl rfl ?_
   refine WPL.skipg (b' := false) rfl rfl (lb hb679) rfl rfl ?_
   refine WPL.skipg (b' := false) rfl rfl (lb hb679) rfl rfl ?_
   refine WPL.q (q_pickF (v := .lit (.bool _)) (lb hb679) rfl) rfl ?_
   refine WPL.nilW ?_
   have q0 := (Option.some.inj H)
   subst q0
   exact W.wk [] hnp ⟨rfl, rfl, rfl⟩ ⟨rfl, trivial, by decide, rfl, trivial⟩ (LeE.upd rfl rfl (LeE.upd rfl rfl (LeE.upd rfl rfl (LeE.none rfl rfl)))) rfl
 rintro _ _ _ ⟨rfl, rfl, rfl⟩
 refine W.now ?_
 refine Then.n ?_
 refine WP.cond (t := x678) rfl (fun hb682 => ?_) (fun hb682 => ?_)
 · replace H := cnt hb682 H
   refine WP.seq ?_
   refine WP.region ?_
   refine WPL.q (q_mv (v := .lit (.string _)) rfl) rfl ?_
   refine WPL.q (q_mv (v := .lit (.string _)) rfl) rfl ?_
   obtain ⟨x684, h684, H⟩ := bnd H
   refine WPL.q (q_index_str Tryd.underlying9 rfl rfl h684) rfl ?_
   obtain ⟨x686, h684, H⟩ := bnd H
   refine WPL.c (runs_call (s := []) (t := []) (N := 0) (bor := []) fn34 rfl (s_strings_trimLeftByte k x489 x684 x686 h684) ⟨rfl, trivial, by decide, rfl, trivial⟩ rfl trivial (.ren rfl rfl (.ren rfl rfl .nil)) rfl trivial rfl) rfl ?_
   refine WPL.q (q_as (v := .lit (.string _)) rfl) rfl ?_
   refine WPL.nilW ?_
   refine W.now ?_
   refine Then.n ?_
   refine WP.retW ?_
   have q0 := (Option.some.inj H)
   subst q0
   exact W.now (Then.r (BodyR.mkR trivial rfl [] ⟨rfl, rfl⟩ ⟨rfl, trivial, by decide, rfl, trivial⟩ rfl rfl))
 replace H := cnf hb682 H
 refine WP.skipW ?_
 refine W.now ?_
 refine Then.n ?_
 refine WP.seq ?_
 refine WP.seq ?_
 refine WP.region ?_
 refine WPL.q (q_mv (v := .lit (.string _)) rfl) rfl ?_
 exact nf rfl H
set_option maxRecDepth 100000 in
set_option maxHeartbeats 4000000 in
theorem s_strings_trimRightByte (k : Nat) (x721 : ByteArray) (x722 : Int) (x775 : ByteArray) (H : g_strings_trimRightByte k x721 x722 = some x775) : Go.Q.Spec Tryd.prog 38 0 [.lit (.string x721), .lit (.int .u8 x722)] Mem.nil (fun o M => o = .ret (.lit (.string x775)) ∧ M = Mem.nil) := by
 unfold g_strings_trimRightByte at H
 refine Go.Q.Spec.of_bodyR (az := []) (rs := [.tmp 4]) (nt := 23) Tryd.func38 rfl rfl (by intro t T h; simp at h) rfl rfl fun cx hnp => ?_
 refine WP.seq ?_
 refine WP.region ?_
 refine WPL.q (q_as (v := .lit (.string _)) rfl) rfl ?_
 refine WPL.nilW ?_
 refine W.now ?_
 refine Then.n ?_
 refine WP.seq ?_
 refine WP.block ?_
 refine WP.cv (Cv.weak (E' := ((Env.none.upd 0 (.lit (.string x721))).upd 1 (.lit (.int .u8 x722)))) (M' := Mem.nil) [] hnp ⟨rfl, trivial, by decide, rfl, trivial⟩ (LeE.upd rfl rfl (LeE.upd rfl rfl (LeE.none rfl rfl)))) ?_
 obtain ⟨x825, H849, H⟩ := bnd H
 refine WP.monoW (Q := fun x E M => x = .exit 0 ∧ E = (Env.none.upd 0 (.lit (.string x825))) ∧ M = Mem.nil) ?_ ?_
 · refine WP.loop (β := ByteArray) (fun n b => g_strings_trimRightByte_l0 k x722 n b = some x825) (fun b => ((Env.none.upd 0 (.lit (.string b))).upd 1 (.lit (.int .u8 x722)))) (fun b => Mem.nil) k x721 H849 rfl rfl ?_
   rintro n x800 H
   obtain _ | n := n
   · exact nf rfl H
   rw [g_strings_trimRightByte_l0.eq_2] at H
   show WP _ _ _ _ ((Env.none.upd 0 (.lit (.string x800))).upd 1 (.lit (.int .u8 x722))) Mem.nil _
   refine WP.seq ?_
   refine WP.seq ?_
   obtain ⟨x841, H845, H⟩ := bnd H
   refine WP.monoW (Q := fun x E M => x = .normal ∧ E = (((Env.none.upd 0 (.lit (.string x800))).upd 1 (.lit (.int .u8 x722))).upd 16 (.lit (.bool x841))) ∧ M = Mem.nil) ?_ ?_
   · clear H
     have H := H845
     clear H845
     refine WP.region ?_
     refine WPL.q (q_mv (v := .lit (.string _)) rfl) rfl ?_
     refine WPL.q (q_len_str Tryd.underlying9 rfl) rfl ?_
     obtain ⟨x842, h842, H⟩ := bnd H
     refine WPL.q (q_nm (q_gtr rfl rfl) (nm_bool h842)) rfl ?_
     refine WPL.q (q_mv (v := .lit (.bool _)) rfl) rfl ?_
     refine WPL.split (t := 8) (b := x842) rfl (fun hb842 => ?_) (fun hb842 => ?_)
     · replace H := cnt hb842 H
       refine WPL.qg rfl rfl (lb hb842) (q_mv (v := .lit (.string _)) rfl) rfl ?_
       refine WPL.qg rfl rfl (lb hb842) (q_mv (v := .lit (.string _)) rfl) rfl ?_
       refine WPL.qg rfl rfl (lb hb842) (q_len_str Tryd.underlying9 rfl) rfl ?_
       obtain ⟨x844, h844, H⟩ := bnd H
       refine WPL.qg rfl rfl (lb hb842) (q_nm (q_sub rfl rfl) (nm_int h844)) rfl ?_
       obtain ⟨x845, h845, H⟩ := bnd H
       refine WPL.qg rfl rfl (lb hb842) (q_index_str Tryd.underlying9 rfl rfl h845) rfl ?_
       refine WPL.qg rfl rfl (lb hb842) (q_mv (v := .lit (.int _ _)) rfl) rfl ?_
       refine WPL.qg rfl rfl (lb hb842) (q_eql rfl rfl) rfl ?_
       refine WPL.q (q_pickT (v := .lit (.bool _)) (lb hb842) rfl) rfl ?_
       refine WPL.nilW ?_
       have q0 := (Option.some.inj H)
       subst q0
       exact W.wk [] hnp ⟨rfl, rfl, rfl⟩ ⟨rfl, trivial, by decide, rfl, trivial⟩ (LeE.upd rfl rfl (LeE.upd rfl rfl (LeE.upd rfl rfl (LeE.none rfl rfl)))) rfl
     replace H := cnf hb842 H
     refine WPL.skipg (b' := false) rfl rfl (lb hb842) rfl rfl ?_
     refine WPL.skipg (b' := false) rfl rfl (lb hb842) rfl rfl ?_
     refine WPL.skipg (b' := false) rfl rfl (lb hb842) rfl rfl ?_
     refine WPL.skipg (b' := false) rfl rfl (lb hb842) rfl rfl ?_
     refine WPL.skipg (b' := false) rfl rfl (lb hb842) rfl rfl ?_
     refine WPL.skipg (b' := false) rfl rfl (lb hb842) rfl rfl ?_
     refine WPL.skipg (b' := false) rfl rfl (lb hb842) rfl rfl ?_
     refine WPL.q (q_pickF (v := .lit (.bool _)) (lb hb842) rfl) rfl ?_
     refine WPL.nilW ?_
     have q0 := (Option.some.inj H)
     subst q0
     exact W.wk [] hnp ⟨rfl, rfl, rfl⟩ ⟨rfl, trivial, by decide, rfl, trivial⟩ (LeE.upd rfl rfl (LeE.upd rfl rfl (LeE.upd rfl rfl (LeE.none rfl rfl)))) rfl
   rintro _ _ _ ⟨rfl, rfl, rfl⟩
   refine W.now ?_
   refine Then.n ?_
   refine WP.cond (t := x841) rfl (fun hb846 => ?_) (fun hb846 => ?_)
   · replace H := cnt hb846 H
     refine WP.skipW ?_
     refine W.now ?_
     refine Then.n ?_
     refine WP.block ?_
     refine WP.region ?_
     refine WPL.q (q_mv (v := .lit (.string _)) rfl) rfl ?_
     refine WPL.q (q_mv (v := .lit (.string _)) rfl) rfl ?_
     refine WPL.q (q_len_str Tryd.underlying9 rfl) rfl ?_
     obtain ⟨x848, h848, H⟩ := bnd H
     refine WPL.q (q_nm (q_sub rfl rfl) (nm_int h848)) rfl ?_
     obtain ⟨h848, H⟩ := grd H
     refine WPL.q (q_slice_str (i := 0) (j := x848) Tryd.underlying9 rfl rfl ⟨_, rfl⟩ h848) rfl ?_
     refine WPL.q (q_as (v := .lit (.string _)) rfl) rfl ?_
     refine WPL.nilW ?_
     exact W.wk [] hnp (InBlock.n (Then.n ⟨n, (ByteArray.extract x800 (Int.toNat 0) (Int.toNat x848)), Nat.lt_succ_self n, H, rfl, rfl⟩)) ⟨rfl, trivial, by decide, rfl, trivial⟩ (LeE.upd rfl rfl (LeE.upd rfl rfl (LeE.none rfl rfl))) rfl
   replace H := cnf hb846 H
   refine WP.exitW ?_
   have q0 := (Option.some.inj H)
   subst q0
   exact W.wk [] hnp (Then.x (Then.x ⟨rfl, rfl, rfl⟩)) ⟨rfl, trivial, by decide, rfl, trivial⟩ (LeE.upd rfl rfl (LeE.none rfl rfl)) rfl
 rintro _ _ _ ⟨rfl, rfl, rfl⟩
 refine W.now ?_
 refine InBlock.x0 ?_
 refine Then.n ?_
 refine WP.seq ?_
 refine WP.region ?_
 refine WPL.q (q_mv (v := .lit (.string _)) rfl) rfl ?_
 refine WPL.q (q_as (v := .lit (.string _)) rfl) rfl ?_
 refine WPL.nilW ?_
 refine W.now ?_
 refine Then.n ?_
 refine WP.retW ?_
 have q0 := (Option.some.inj H)
 subst q0
 exact W.now (BodyR.mkR trivial rfl [] ⟨rfl, rfl⟩ ⟨rfl, trivial, by decide, rfl, trivial⟩ rfl rfl)
set_option maxRecDepth 100000 in
set_option maxHeartbeats 4000000 in
theorem s_strings_TrimRight (k : Nat) (x690 : ByteArray) (x691 : ByteArray) (x865 : ByteArray) (H : g_strings_TrimRight k x690 x691 = some x865) : Go.Q.Spec Tryd.prog 15 0 [.lit (.string x690), .lit (.string x691)] Mem.nil (fun o M => o = .ret (.lit (.string x865)) ∧ M = Mem.nil) := by
 unfold g_strings_TrimRight at H
 refine Go.Q.Spec.of_bodyR (az := []) (rs := [.tmp 4]) (nt := 37) Tryd.func15 rfl rfl (by intro t T h; simp at h) rfl rfl fun cx hnp => ?_
 refine WP.seq ?_
 refine WP.region ?_
 refine WPL.q (q_as (v := .lit (.string _)) rfl) rfl ?_
 refine WPL.nilW ?_
 refine W.now ?_
 refine Then.n ?_
 refine WP.seq ?_
 refine WP.seq ?_
 obtain ⟨x878, H881, H⟩ := bnd H
 refine WP.monoW (Q := fun x E M => x = .normal ∧ E = (((Env.none.upd 0 (.lit (.string x690))).upd 1 (.lit (.string x691))).upd 12 (.lit (.bool x878))) ∧ M = Mem.nil) ?_ ?_
 · clear H
   have H := H881
   clear H881
   refine WP.region ?_
   refine WPL.q (q_mv (v := .lit (.string _)) rfl) rfl ?_
   obtain ⟨x879, h879, H⟩ := bnd H
   refine WPL.q (q_nm (q_eqls rfl rfl) (nm_bool h879)) rfl ?_
   refine WPL.q (q_mv (v := .lit (.bool _)) rfl) rfl ?_
   refine WPL.split (t := 9) (b := x879) rfl (fun hb879 => ?_) (fun hb879 => ?_)
   · replace H := cnt hb879 H
     refine WPL.skipg (b' := true) rfl rfl (lb hb879) rfl rfl ?_
     refine WPL.skipg (b' := true) rfl rfl (lb hb879) rfl rfl ?_
     refine WPL.q (q_pickT (v := .lit (.bool _)) (lb hb879) rfl) rfl ?_
     refine WPL.nilW ?_
     have q0 := (Option.some.inj H)
     subst q0
     exact W.wk [] hnp ⟨rfl, rfl, rfl⟩ ⟨rfl, trivial, by decide, rfl, trivial⟩ (LeE.upd rfl rfl (LeE.upd rfl rfl (LeE.upd rfl rfl (LeE.none rfl rfl)))) rfl
   replace H := cnf hb879 H
   refine WPL.qg rfl rfl (lb hb879) (q_mv (v := .lit (.string _)) rfl) rfl ?_
   obtain ⟨x881, h881, H⟩ := bnd H
   refine WPL.qg rfl rfl (lb hb879) (q_nm (q_eqls rfl rfl) (nm_bool h881)) rfl ?_
   refine WPL.q (q_pickF (v := .lit (.bool _)) (lb hb879) rfl) rfl ?_
   refine WPL.nilW ?_
   have q0 := (Option.some.inj H)
   subst q0
   exact W.wk [] hnp ⟨rfl, rfl, rfl⟩ ⟨rfl, trivial, by decide, rfl, trivial⟩ (LeE.upd rfl rfl (LeE.upd rfl rfl (LeE.upd rfl rfl (LeE.none rfl rfl)))) rfl
 rintro _ _ _ ⟨rfl, rfl, rfl⟩
 refine W.now ?_
 refine Then.n ?_
 refine WP.cond (t := x878) rfl (fun hb882 => ?_) (fun hb882 => ?_)
 · replace H := cnt hb882 H
   refine WP.seq ?_
   refine WP.region ?_
   refine WPL.q (q_mv (v := .lit (.string _)) rfl) rfl ?_
   refine WPL.q (q_as (v := .lit (.string _)) rfl) rfl ?_
   refine WPL.nilW ?_
   refine W.now ?_
   refine Then.n ?_
   refine WP.retW ?_
   have q0 := (Option.some.inj H)
   subst q0
   exact W.now (Then.r (BodyR.mkR trivial rfl [] ⟨rfl, rfl⟩ ⟨rfl, trivial, by decide, rfl, trivial⟩ rfl rfl))
 replace H := cnf hb882 H
 refine WP.skipW ?_
 refine W.now ?_
 refine Then.n ?_
 refine WP.seq ?_
 refine WP.seq ?_
 obtain ⟨x899, H902, H⟩ := bnd H
 refine WP.monoW (Q := fun x E M => x = .normal ∧ E = (((Env.none.upd 0 (.lit (.string x690))).upd 1 (.lit (.string x691))).upd 21 (.lit (.bool x899))) ∧ M = Mem.nil) ?_ ?_
 · clear H
   have H := H902
   clear H902
   refine WP.region ?_
   refine WPL.q (q_mv (v := .lit (.string _)) rfl) rfl ?_
   refine WPL.q (q_len_str Tryd.underlying9 rfl) rfl ?_
   obtain ⟨x900, h900, H⟩ := bnd H
   refine WPL.q (q_nm (q_eql rfl rfl) (nm_bool h900)) rfl ?_
   refine WPL.q (q_mv (v := .lit (.bool _)) rfl) rfl ?_
   refine WPL.split (t := 17) (b := x900) rfl (fun hb900 => ?_) (fun hb900 => ?_)
   · replace H := cnt hb900 H
     refine WPL.qg rfl rfl (lb hb900) (q_mv (v := .lit (.string _)) rfl) rfl ?_
     obtain ⟨x902, h902, H⟩ := bnd H
     refine WPL.qg rfl rfl (lb hb900) (q_index_str Tryd.underlying9 rfl rfl h902) rfl ?_
     refine WPL.qg rfl rfl (lb hb900) (q_lss rfl rfl) rfl ?_
     refine WPL.q (q_pickT (v := .lit (.bool _)) (lb hb900) rfl) rfl ?_
     refine WPL.nilW ?_
     have q0 := (Option.some.inj H)
     subst q0
     exact W.wk [] hnp ⟨rfl, rfl, rfl⟩ ⟨rfl, trivial, by decide, rfl, trivial⟩ (LeE.upd rfl rfl (LeE.upd rfl rfl (LeE.upd rfl rfl (LeE.none rfl rfl)))) rfl
   replace H := cnf hb900 H
   refine WPL.skipg (b' := false) rfl rfl (lb hb900) rfl rfl ?_
   refine WPL.skipg (b' := false) rfl rfl (lb hb900) rfl rfl ?_
   refine WPL.skipg (b' := false) rfl rfl (lb hb900) rfl rfl ?_
   refine WPL.q (q_pickF (v := .lit (.bool _)) (lb hb900) rfl) rfl ?_
   refine WPL.nilW ?_
   have q0 := (Option.some.inj H)
   subst q0
   exact W.wk [] hnp ⟨rfl, rfl, rfl⟩ ⟨rfl, trivial, by decide, rfl, trivial⟩ (LeE.upd rfl rfl (LeE.upd rfl rfl (LeE.upd rfl rfl (LeE.none rfl rfl)))) rfl
 rintro _ _ _ ⟨rfl, rfl, rfl⟩
 refine W.now ?_
 refine Then.n ?_
 refine WP.cond (t := x899) rfl (fun hb903 => ?_) (fun hb903 => ?_)
 · replace H := cnt hb903 H
   refine WP.seq ?_
   refine WP.region ?_
   refine WPL.q (q_mv (v := .lit (.string _)) rfl) rfl ?_
   refine WPL.q (q_mv (v := .lit (.string _)) rfl) rfl ?_
   obtain ⟨x905, h905, H⟩ := bnd H
   refine WPL.q (q_index_str Tryd.underlying9 rfl rfl h905) rfl ?_
   obtain ⟨x907, h905, H⟩ := bnd H
   refine WPL.c (runs_call (s := []) (t := []) (N := 0) (bor := []) fn38 rfl (s_strings_trimRightByte k x690 x905 x907 h905) ⟨rfl, trivial, by decide, rfl, trivial⟩ rfl trivial (.ren rfl rfl (.ren rfl rfl .nil)) rfl trivial rfl) rfl ?_
   refine WPL.q (q_as (v := .lit (.string _)) rfl) rfl ?_
   refine WPL.nilW ?_
   refine W.now ?_
   refine Then.n ?_
   refine WP.retW ?_
   have q0 := (Option.some.inj H)
   subst q0
   exact W.now (Then.r (BodyR.mkR trivial rfl [] ⟨rfl, rfl⟩ ⟨rfl, trivial, by decide, rfl, trivial⟩ rfl rfl))
 replace H := cnf hb903 H
 refine WP.skipW ?_
 refine W.now ?_
 refine Then.n ?_
 refine WP.seq ?_
 refine WP.seq ?_
 refine WP.region ?_
 refine WPL.q (q_mv (v := .lit (.string _)) rfl) rfl ?_
 exact nf rfl H
set_option maxRecDepth 100000 in
set_option maxHeartbeats 4000000 in
theorem s_math_bits_Mul64 (k : Nat) (x927 : Int) (x928 : Int) (x938 : Int) (H : g_math_bits_Mul64 k x927 x928 = some x938) : Go.Q.Spec Tryd.prog 41 0 [.lit (.int .u64 x927), .lit (.int .u64 x928)] Mem.nil (fun o M => o = .ret (.tup [.lit (.int .u64 x938), .lit (.int .u64 (IntKind.wrap .u64 (x927 * x928)))]) ∧ M = Mem.nil) := by
 unfold g_math_bits_Mul64 at H
 refine Go.Q.Spec.of_bodyR (az := []) (rs := [.tmp 4, .tmp 5]) (nt := 51) Tryd.func41 rfl rfl (by intro t T h; simp at h) rfl rfl fun cx hnp => ?_
 refine WP.seq ?_
 refine WP.region ?_
 refine WPL.q (q_as (v := .lit (.int _ _)) rfl) rfl ?_
 refine WPL.q (q_as (v := .lit (.int _ _)) rfl) rfl ?_
 refine WPL.nilW ?_
 refine W.now ?_
 refine Then.n ?_
 refine WP.seq ?_
 refine WP.region ?_
 refine WPL.q (q_mv (v := .lit (.int _ _)) rfl) rfl ?_
 refine WPL.q (q_and rfl rfl) rfl ?_
 refine WPL.q (q_as (v := .lit (.int _ _)) rfl) rfl ?_
 refine WPL.nilW ?_
 refine W.now ?_
 refine Then.n ?_
 refine WP.seq ?_
 refine WP.region ?_
 refine WPL.q (q_mv (v := .lit (.int _ _)) rfl) rfl ?_
 refine WPL.q (q_shr rfl rfl rfl) rfl ?_
 refine WPL.q (q_as (v := .lit (.int _ _)) rfl) rfl ?_
 refine WPL.nilW ?_
 refine W.now ?_
 refine Then.n ?_
 refine WP.seq ?_
 refine WP.region ?_
 refine WPL.q (q_mv (v := .lit (.int _ _)) rfl) rfl ?_
 refine WPL.q (q_and rfl rfl) rfl ?_
 refine WPL.q (q_as (v := .lit (.int _ _)) rfl) rfl ?_
 refine WPL.nilW ?_
 refine W.now ?_
 refine Then.n ?_
 refine WP.seq ?_
 refine WP.region ?_
 refine WPL.q (q_mv (v := .lit (.int _ _)) rfl) rfl ?_
 refine WPL.q (q_shr rfl rfl rfl) rfl ?_
 refine WPL.q (q_as (v := .lit (.int _ _)) rfl) rfl ?_
 refine WPL.nilW ?_
 refine W.now ?_
 refine Then.n ?_
 refine WP.seq ?_
 refine WP.region ?_
 refine WPL.q (q_mv (v := .lit (.int _ _)) rfl) rfl ?_
 refine WPL.q (q_mv (v := .lit (.int _ _)) rfl) rfl ?_
 obtain ⟨x939, h939, H⟩ := bnd H
 refine WPL.q (q_nm (q_mul rfl rfl) (nm_int h939)) rfl ?_
 refine WPL.q (q_as (v := .lit (.int _ _)) rfl) rfl ?_
 refine WPL.nilW ?_
 refine W.now ?_
 refine Then.n ?_
 refine WP.seq ?_
 refine WP.region ?_
 refine WPL.q (q_mv (v := .lit (.int _ _)) rfl) rfl ?_
 refine WPL.q (q_mv (v := .lit (.int _ _)) rfl) rfl ?_
 obtain ⟨x940, h940, H⟩ := bnd H
 refine WPL.q (q_nm (q_mul rfl rfl) (nm_int h940)) rfl ?_
 refine WPL.q (q_mv (v := .lit (.int _ _)) rfl) rfl ?_
 refine WPL.q (q_shr rfl rfl rfl) rfl ?_
 obtain ⟨x941, h941, H⟩ := bnd H
 refine WPL.q (q_nm (q_add rfl rfl) (nm_int h941)) rfl ?_
 refine WPL.q (q_as (v := .lit (.int _ _)) rfl) rfl ?_
 refine WPL.nilW ?_
 refine W.now ?_
 refine Then.n ?_
 refine WP.seq ?_
 refine WP.region ?_
 refine WPL.q (q_mv (v := .lit (.int _ _)) rfl) rfl ?_
 refine WPL.q (q_and rfl rfl) rfl ?_
 refine WPL.q (q_as (v := .lit (.int _ _)) rfl) rfl ?_
 refine WPL.nilW ?_
 refine W.now ?_
 refine Then.n ?_
 refine WP.seq ?_
 refine WP.region ?_
 refine WPL.q (q_mv (v := .lit (.int _ _)) rfl) rfl ?_
 refine WPL.q (q_shr rfl rfl rfl) rfl ?_
 refine WPL.q (q_as (v := .lit (.int _ _)) rfl) rfl ?_
 refine WPL.nilW ?_
 refine W.now ?_
 refine Then.n ?_
 refine WP.seq ?_
 refine WP.region ?_
 refine WPL.q (q_mv (v := .lit (.int _ _)) rfl) rfl ?_
 refine WPL.q (q_mv (v := .lit (.int _ _)) rfl) rfl ?_
 refine WPL.q (q_mv (v := .lit (.int _ _)) rfl) rfl ?_
 obtain ⟨x942, h942, H⟩ := bnd H
 refine WPL.q (q_nm (q_mul rfl rfl) (nm_int h942)) rfl ?_
 obtain ⟨x943, h943, H⟩ := bnd H
 refine WPL.q (q_nm (q_add rfl rfl) (nm_int h943)) rfl ?_
 refine WPL.q (q_as (v := .lit (.int _ _)) rfl) rfl ?_
 refine WPL.nilW ?_
 refine W.now ?_
 refine Then.n ?_
 refine WP.seq ?_
 refine WP.region ?_
 refine WPL.q (q_mv (v := .lit (.int _ _)) rfl) rfl ?_
 refine WPL.q (q_mv (v := .lit (.int _ _)) rfl) rfl ?_
 obtain ⟨x944, h944, H⟩ := bnd H
 refine WPL.q (q_nm (q_mul rfl rfl) (nm_int h944)) rfl ?_
 refine WPL.q (q_mv (v := .lit (.int _ _)) rfl) rfl ?_
 obtain ⟨x945, h945, H⟩ := bnd H
 refine WPL.q (q_nm (q_add rfl rfl) (nm_int h945)) rfl ?_
 refine WPL.q (q_mv (v := .lit (.int _ _)) rfl) rfl ?_
 refine WPL.q (q_shr rfl rfl rfl) rfl ?_
 obtain ⟨x946, h946, H⟩ := bnd H
 refine WPL.q (q_nm (q_add rfl rfl) (nm_int h946)) rfl ?_
 refine WPL.q (q_as (v := .lit (.int _ _)) rfl) rfl ?_
 refine WPL.nilW ?_
 refine W.now ?_
 refine Then.n ?_
 refine WP.seq ?_
 refine WP.region ?_
 refine WPL.q (q_mv (v := .lit (.int _ _)) rfl) rfl ?_
 refine WPL.q (q_mv (v := .lit (.int _ _)) rfl) rfl ?_
 refine WPL.q (q_mul rfl rfl) rfl ?_
 refine WPL.q (q_as (v := .lit (.int _ _)) rfl) rfl ?_
 refine WPL.nilW ?_
 refine W.now ?_
 refine Then.n ?_
 refine WP.retW ?_
 have q0 := (Option.some.inj H)
 subst q0
 exact W.now (BodyR.mkR trivial rfl [] ⟨rfl, rfl⟩ ⟨rfl, trivial, by decide, rfl, trivial⟩ rfl rfl)
set_option maxRecDepth 100000 in
set_option maxHeartbeats 4000000 in
theorem s_dec_wide_times (k : Nat) (x923 : Int) (x924 : Int) (x925 : Int) (x952 : Bool) (x953 : Int) (H : g_dec_wide_times k x923 x924 x925 = some (x952, x953)) : Go.Q.Spec Tryd.prog 16 0 [.agg [.lit (.int .u64 x923), .lit (.int .u64 x924)], .lit (.int .u64 x925)] Mem.nil (fun o M => o = .ret (.tup [.agg [.lit (.int .u64 x953), .lit (.int .u64 (IntKind.wrap .u64 (x924 * x925)))], .lit (.bool x952)]) ∧ M = (Mem.nil.push (.cells 43 [.lit (.int .u64 x953), .lit (.int .u64 (IntKind.wrap .u64 (x924 * x925)))]))) := by
 unfold g_dec_wide_times at H
 refine Go.Q.Spec.of_bodyR (az := [(43, 2)]) (rs := [.cell 4 43, .tmp 5]) (nt := 39) Tryd.func16 rfl rfl (by intro t T h; simp at h; rcases h with ⟨rfl, rfl⟩ <;> first | exact ag43) rfl rfl fun cx hnp => ?_
 refine WP.seq ?_
 refine WP.region ?_
 refine WPL.d (d_box rfl rfl) rfl ?_
 refine WPL.d (d_alloc ze43 rfl) rfl ?_
 refine WPL.q (q_as (v := .lit (.bool _)) rfl) rfl ?_
 refine WPL.nilW ?_
 refine W.now ?_
 refine Then.n ?_
 refine WP.seq ?_
 refine WP.region ?_
 refine WPL.q (q_fieldAddr fi43_1 rfl rfl) rfl ?_
 refine WPL.q (q_load sc41 rfl rfl rfl) rfl ?_
 refine WPL.q (q_mv (v := .lit (.int _ _)) rfl) rfl ?_
 obtain ⟨x955, h953, H⟩ := bnd H
 refine WPL.c (runs_call (s := []) (t := []) (N := 2) (bor := []) fn41 rfl (s_math_bits_Mul64 k x924 x925 x955 h953) ⟨rfl, trivial, by decide, rfl, trivial⟩ rfl trivial (.ren rfl rfl (.ren rfl rfl .nil)) rfl trivial rfl) rfl ?_
 refine WPL.q (q_mv (v := .tup _) rfl) rfl ?_
 refine WPL.q (q_extract rfl rfl) rfl ?_
 refine WPL.q (q_extract rfl rfl) rfl ?_
 refine WPL.q (q_as (v := .lit (.int _ _)) rfl) rfl ?_
 refine WPL.q (q_as (v := .lit (.int _ _)) rfl) rfl ?_
 refine WPL.nilW ?_
 refine W.now ?_
 refine Then.n ?_
 refine WP.seq ?_
 refine WP.region ?_
 refine WPL.q (q_fieldAddr fi43_0 rfl rfl) rfl ?_
 refine WPL.q (q_load sc41 rfl rfl rfl) rfl ?_
 refine WPL.q (q_mv (v := .lit (.int _ _)) rfl) rfl ?_
 obtain ⟨x957, h955, H⟩ := bnd H
 refine WPL.c (runs_call (s := []) (t := []) (N := 2) (bor := []) fn41 rfl (s_math_bits_Mul64 k x923 x925 x957 h955) ⟨rfl, trivial, by decide, rfl, trivial⟩ rfl trivial (.ren rfl rfl (.ren rfl rfl .nil)) rfl trivial rfl) rfl ?_
 refine WPL.q (q_mv (v := .tup _) rfl) rfl ?_
 refine WPL.q (q_extract rfl rfl) rfl ?_
 refine WPL.q (q_extract rfl rfl) rfl ?_
 refine WPL.q (q_as (v := .lit (.int _ _)) rfl) rfl ?_
 refine WPL.q (q_as (v := .lit (.int _ _)) rfl) rfl ?_
 refine WPL.nilW ?_
 refine W.now ?_
 refine Then.n ?_
 refine WP.seq ?_
 refine WP.region ?_
 refine WPL.q (q_mv (v := .lit (.int _ _)) rfl) rfl ?_
 refine WPL.q (q_mv (v := .lit (.int _ _)) rfl) rfl ?_
 refine WPL.q (q_add64 ex42 rfl rfl rfl rfl rfl) rfl ?_
 refine WPL.q (q_mv (v := .tup _) rfl) rfl ?_
 refine WPL.q (q_extract rfl rfl) rfl ?_
 refine WPL.q (q_extract rfl rfl) rfl ?_
 refine WPL.q (q_as (v := .lit (.int _ _)) rfl) rfl ?_
 refine WPL.q (q_as (v := .lit (.int _ _)) rfl) rfl ?_
 refine WPL.nilW ?_
 refine W.now ?_
 refine Then.n ?_
 refine WP.seq ?_
 refine WP.region ?_
 refine WPL.q (q_mv (v := .lit (.int _ _)) rfl) rfl ?_
 refine WPL.q (q_mv (v := .lit (.int _ _)) rfl) rfl ?_
 refine WPL.q (q_build bu43 rfl) rfl ?_
 refine WPL.q (q_mv (v := .lit (.int _ _)) rfl) rfl ?_
 refine WPL.q (q_mv (v := .lit (.int _ _)) rfl) rfl ?_
 obtain ⟨x958, h958, H⟩ := bnd H
 refine WPL.q (q_nm (q_add rfl rfl) (nm_int h958)) rfl ?_
 refine WPL.q (q_eql rfl rfl) rfl ?_
 refine WPL.s (s_store sz43 rfl rfl rfl rfl rfl) ?_
 refine WPL.q (q_as (v := .lit (.bool _)) rfl) rfl ?_
 refine WPL.nilW ?_
 refine W.now ?_
 refine Then.n ?_
 refine WP.retW ?_
 have q0 := (Prod.mk.inj (Option.some.inj H)).1
 have q1 := (Prod.mk.inj (Option.some.inj H)).2
 subst q0
 subst q1
 exact W.now (BodyR.mkR trivial rfl [1] ⟨rfl, rfl⟩ ⟨rfl, ⟨trivial, .inr ⟨rfl, rfl, rfl⟩⟩, by decide, rfl, trivial⟩ rfl rfl)
set_option maxRecDepth 100000 in
set_option maxHeartbeats 4000000 in
theorem s_dec_wide_plus (k : Nat) (x962 : Int) (x963 : Int) (x964 : Int) (x965 : Int) (x969 : Bool) (H : g_dec_wide_plus k x962 x963 x964 x965 = some x969) : Go.Q.Spec Tryd.prog 17 0 [.agg [.lit (.int .u64 x962), .lit (.int .u64 x963)], .agg [.lit (.int .u64 x964), .lit (.int .u64 x965)]] Mem.nil (fun o M => o = .ret (.tup [.agg [.lit (.int .u64 ((add64 x962 x964 ((add64 x963 x965 0).2)).1)), .lit (.int .u64 ((add64 x963 x965 0).1))], .lit (.bool x969)]) ∧ M = (Mem.nil.push (.cells 43 [.lit (.int .u64 ((add64 x962 x964 ((add64 x963 x965 0).2)).1)), .lit (.int .u64 ((add64 x963 x965 0).1))]))) := by
 unfold g_dec_wide_plus at H
 refine Go.Q.Spec.of_bodyR (az := [(43, 2)]) (rs := [.cell 4 43, .tmp 5]) (nt := 31) Tryd.func17 rfl rfl (by intro t T h; simp at h; rcases h with ⟨rfl, rfl⟩ <;> first | exact ag43) rfl rfl fun cx hnp => ?_
 refine WP.seq ?_
 refine WP.region ?_
 refine WPL.d (d_box rfl rfl) rfl ?_
 refine WPL.d (d_box rfl rfl) rfl ?_
 refine WPL.d (d_alloc ze43 rfl) rfl ?_
 refine WPL.q (q_as (v := .lit (.bool _)) rfl) rfl ?_
 refine WPL.nilW ?_
 refine W.now ?_
 refine Then.n ?_
 refine WP.seq ?_
 refine WP.region ?_
 refine WPL.q (q_fieldAddr fi43_1 rfl rfl) rfl ?_
 refine WPL.q (q_load sc41 rfl rfl rfl) rfl ?_
 refine WPL.q (q_fieldAddr fi43_1 rfl rfl) rfl ?_
 refine WPL.q (q_load sc41 rfl rfl rfl) rfl ?_
 refine WPL.q (q_add64 ex42 rfl rfl rfl rfl rfl) rfl ?_
 refine WPL.q (q_mv (v := .tup _) rfl) rfl ?_
 refine WPL.q (q_extract rfl rfl) rfl ?_
 refine WPL.q (q_extract rfl rfl) rfl ?_
 refine WPL.q (q_as (v := .lit (.int _ _)) rfl) rfl ?_
 refine WPL.q (q_as (v := .lit (.int _ _)) rfl) rfl ?_
 refine WPL.nilW ?_
 refine W.now ?_
 refine Then.n ?_
 refine WP.seq ?_
 refine WP.region ?_
 refine WPL.q (q_fieldAddr fi43_0 rfl rfl) rfl ?_
 refine WPL.q (q_load sc41 rfl rfl rfl) rfl ?_
 refine WPL.q (q_fieldAddr fi43_0 rfl rfl) rfl ?_
 refine WPL.q (q_load sc41 rfl rfl rfl) rfl ?_
 refine WPL.q (q_mv (v := .lit (.int _ _)) rfl) rfl ?_
 obtain ⟨h969, H⟩ := grd H
 refine WPL.q (q_add64 ex42 rfl rfl rfl rfl h969) rfl ?_
 refine WPL.q (q_mv (v := .tup _) rfl) rfl ?_
 refine WPL.q (q_extract rfl rfl) rfl ?_
 refine WPL.q (q_extract rfl rfl) rfl ?_
 refine WPL.q (q_as (v := .lit (.int _ _)) rfl) rfl ?_
 refine WPL.q (q_as (v := .lit (.int _ _)) rfl) rfl ?_
 refine WPL.nilW ?_
 refine W.now ?_
 refine Then.n ?_
 refine WP.seq ?_
 refine WP.region ?_
 refine WPL.q (q_mv (v := .lit (.int _ _)) rfl) rfl ?_
 refine WPL.q (q_mv (v := .lit (.int _ _)) rfl) rfl ?_
 refine WPL.q (q_build bu43 rfl) rfl ?_
 refine WPL.q (q_mv (v := .lit (.int _ _)) rfl) rfl ?_
 obtain ⟨x971, h971, H⟩ := bnd H
 refine WPL.q (q_nm (q_eql rfl rfl) (nm_bool h971)) rfl ?_
 refine WPL.s (s_store sz43 rfl rfl rfl rfl rfl) ?_
 refine WPL.q (q_as (v := .lit (.bool _)) rfl) rfl ?_
 refine WPL.nilW ?_
 refine W.now ?_
 refine Then.n ?_
 refine WP.retW ?_
 have q0 := (Option.some.inj H)
 subst q0
 exact W.now (BodyR.mkR trivial rfl [2] ⟨rfl, rfl⟩ ⟨rfl, ⟨trivial, .inr ⟨rfl, rfl, rfl⟩⟩, by decide, rfl, trivial⟩ rfl rfl)
set_option maxRecDepth 100000 in
set_option maxHeartbeats 4000000 in
theorem s_dec_wide_zero (k : Nat) (x1012 : Int) (x1013 : Int) (H : g_dec_wide_zero k x1012 x1013 = some ()) : Go.Q.Spec Tryd.prog 43 0 [.agg [.lit (.int .u64 x1012), .lit (.int .u64 x1013)]] Mem.nil (fun o M => o = .ret (.lit (.bool (decide ((bits .or .u64 x1012 x1013) = 0)))) ∧ M = Mem.nil) := by
 unfold g_dec_wide_zero at H
 refine Go.Q.Spec.of_bodyR (az := []) (rs := [.tmp 2]) (nt := 9) Tryd.func43 rfl rfl (by intro t T h; simp at h) rfl rfl fun cx hnp => ?_
 refine WP.seq ?_
 refine WP.region ?_
 refine WPL.d (d_box rfl rfl) rfl ?_
 refine WPL.q (q_as (v := .lit (.bool _)) rfl) rfl ?_
 refine WPL.nilW ?_
 refine W.now ?_
 refine Then.n ?_
 refine WP.seq ?_
 refine WP.region ?_
 refine WPL.q (q_fieldAddr fi43_0 rfl rfl) rfl ?_
 refine WPL.q (q_load sc41 rfl rfl rfl) rfl ?_
 refine WPL.q (q_fieldAddr fi43_1 rfl rfl) rfl ?_
 refine WPL.q (q_load sc41 rfl rfl rfl) rfl ?_
 refine WPL.q (q_or rfl rfl) rfl ?_
 refine WPL.q (q_eql rfl rfl) rfl ?_
 refine WPL.q (q_as (v := .lit (.bool _)) rfl) rfl ?_
 refine WPL.nilW ?_
 refine W.now ?_
 refine Then.n ?_
 refine WP.retW ?_
 exact W.now (BodyR.mkR trivial rfl [] ⟨rfl, rfl⟩ ⟨rfl, trivial, by decide, rfl, trivial⟩ rfl rfl)
set_option maxRecDepth 100000 in
set_option maxHeartbeats 4000000 in
theorem s_math_bits_Len64 (k : Nat) (x1043 : Int) (x1062 : Int) (H : g_math_bits_Len64 k x1043 = some x1062) : Go.Q.Spec Tryd.prog 83 0 [.lit (.int .u64 x1043)] Mem.nil (fun o M => o = .ret (.lit (.int .i64 x1062)) ∧ M = Mem.nil) := by
 unfold g_math_bits_Len64 at H
 refine Go.Q.Spec.of_bodyR (az := []) (rs := [.tmp 2]) (nt := 25) Tryd.func83 rfl rfl (by intro t T h; simp at h) rfl rfl fun cx hnp => ?_
 refine WP.seq ?_
 refine WP.region ?_
 refine WPL.q (q_as (v := .lit (.int _ _)) rfl) rfl ?_
 refine WPL.nilW ?_
 refine W.now ?_
 refine Then.n ?_
 refine WP.seq ?_
 obtain ⟨⟨x1064, x1065⟩, H1066, H⟩ := bnd H
 refine WP.monoW (Q := fun x E M => x = .normal ∧ E = ((Env.none.upd 0 (.lit (.int .u64 x1064))).upd 2 (.lit (.int .i64 x1065))) ∧ M = Mem.nil) ?_ ?_
 · clear H
   have H := H1066
   clear H1066
   refine WP.seq ?_
   refine WP.region ?_
   refine WPL.q (q_mv (v := .lit (.int _ _)) rfl) rfl ?_
   refine WPL.q (q_geq rfl rfl) rfl ?_
   refine WPL.nilW ?_
   refine W.now ?_
   refine Then.n ?_
   refine WP.cond (t := (decide (4294967296 ≤ x1043))) rfl (fun hb1065 => ?_) (fun hb1065 => ?_)
   · replace H := cnt hb1065 H
     refine WP.seq ?_
     refine WP.region ?_
     refine WPL.q (q_mv (v := .lit (.int _ _)) rfl) rfl ?_
     refine WPL.q (q_shr rfl rfl rfl) rfl ?_
     refine WPL.q (q_as (v := .lit (.int _ _)) rfl) rfl ?_
     refine WPL.nilW ?_
     refine W.now ?_
     refine Then.n ?_
     refine WP.region ?_
     refine WPL.q (q_as (v := .lit (.int _ _)) rfl) rfl ?_
     refine WPL.nilW ?_
     have q0 := (Prod.mk.inj (Option.some.inj H)).1
     have q1 := (Prod.mk.inj (Option.some.inj H)).2
     subst q0
     subst q1
     exact W.wk [] hnp ⟨rfl, rfl, rfl⟩ ⟨rfl, trivial, by decide, rfl, trivial⟩ (LeE.upd rfl rfl (LeE.upd rfl rfl (LeE.none rfl rfl))) rfl
   replace H := cnf hb1065 H
   refine WP.skipW ?_
   have q0 := (Prod.mk.inj (Option.some.inj H)).1
   have q1 := (Prod.mk.inj (Option.some.inj H)).2
   subst q0
   subst q1
   exact W.wk [] hnp ⟨rfl, rfl, rfl⟩ ⟨rfl, trivial, by decide, rfl, trivial⟩ (LeE.upd rfl rfl (LeE.upd rfl rfl (LeE.none rfl rfl))) rfl
 rintro _ _ _ ⟨rfl, rfl, rfl⟩
 refine W.now ?_
 refine Then.n ?_
 refine WP.seq ?_
 obtain ⟨⟨x1069, x1070⟩, H1071, H⟩ := bnd H
 refine WP.monoW (Q := fun x E M => x = .normal ∧ E = ((Env.none.upd 0 (.lit (.int .u64 x1069))).upd 2 (.lit (.int .i64 x1070))) ∧ M = Mem.nil) ?_ ?_
 · clear H
   have H := H1071
   clear H1071
   refine WP.seq ?_
   refine WP.region ?_
   refine WPL.q (q_mv (v := .lit (.int _ _)) rfl) rfl ?_
   refine WPL.q (q_geq rfl rfl) rfl ?_
   refine WPL.nilW ?_
   refine W.now ?_
   refine Then.n ?_
   refine WP.cond (t := (decide (65536 ≤ x1064))) rfl (fun hb1070 => ?_) (fun hb1070 => ?_)
   · replace H := cnt hb1070 H
     refine WP.seq ?_
     refine WP.region ?_
     refine WPL.q (q_mv (v := .lit (.int _ _)) rfl) rfl ?_
     refine WPL.q (q_shr rfl rfl rfl) rfl ?_
     refine WPL.q (q_as (v := .lit (.int _ _)) rfl) rfl ?_
     refine WPL.nilW ?_
     refine W.now ?_
     refine Then.n ?_
     refine WP.region ?_
     refine WPL.q (q_mv (v := .lit (.int _ _)) rfl) rfl ?_
     refine WPL.q (q_add rfl rfl) rfl ?_
     refine WPL.q (q_as (v := .lit (.int _ _)) rfl) rfl ?_
     refine WPL.nilW ?_
     have q0 := (Prod.mk.inj (Option.some.inj H)).1
     have q1 := (Prod.mk.inj (Option.some.inj H)).2
     subst q0
     subst q1
     exact W.wk [] hnp ⟨rfl, rfl, rfl⟩ ⟨rfl, trivial, by decide, rfl, trivial⟩ (LeE.upd rfl rfl (LeE.upd rfl rfl (LeE.none rfl rfl))) rfl
   replace H := cnf hb1070 H
   refine WP.skipW ?_
   have q0 := (Prod.mk.inj (Option.some.inj H)).1
   have q1 := (Prod.mk.inj (Option.some.inj H)).2
   subst q0
   subst q1
   exact W.wk [] hnp ⟨rfl, rfl, rfl⟩ ⟨rfl, trivial, by decide, rfl, trivial⟩ (LeE.upd rfl rfl (LeE.upd rfl rfl (LeE.none rfl rfl))) rfl
 rintro _ _ _ ⟨rfl, rfl, rfl⟩
 refine W.now ?_
 refine Then.n ?_
 refine WP.seq ?_
 obtain ⟨⟨x1074, x1075⟩, H1076, H⟩ := bnd H
 refine WP.monoW (Q := fun x E M => x = .normal ∧ E = ((Env.none.upd 0 (.lit (.int .u64 x1074))).upd 2 (.lit (.int .i64 x1075))) ∧ M = Mem.nil) ?_ ?_
 · clear H
   have H := H1076
   clear H1076
   refine WP.seq ?_
   refine WP.region ?_
   refine WPL.q (q_mv (v := .lit (.int _ _)) rfl) rfl ?_
   refine WPL.q (q_geq rfl rfl) rfl ?_
   refine WPL.nilW ?_
   refine W.now ?_
   refine Then.n ?_
   refine WP.cond (t := (decide (256 ≤ x1069))) rfl (fun hb1075 => ?_) (fun hb1075 => ?_)
   · replace H := cnt hb1075 H
     refine WP.seq ?_
     refine WP.region ?_
     refine WPL.q (q_mv (v := .lit (.int _ _)) rfl) rfl ?_
     refine WPL.q (q_shr rfl rfl rfl) rfl ?_
     refine WPL.q (q_as (v := .lit (.int _ _)) rfl) rfl ?_
     refine WPL.nilW ?_
     refine W.now ?_
     refine Then.n ?_
     refine WP.region ?_
     refine WPL.q (q_mv (v := .lit (.int _ _)) rfl) rfl ?_
     refine WPL.q (q_add rfl rfl) rfl ?_
     refine WPL.q (q_as (v := .lit (.int _ _)) rfl) rfl ?_
     refine WPL.nilW ?_
     have q0 := (Prod.mk.inj (Option.some.inj H)).1
     have q1 := (Prod.mk.inj (Option.some.inj H)).2
     subst q0
     subst q1
     exact W.wk [] hnp ⟨rfl, rfl, rfl⟩ ⟨rfl, trivial, by decide, rfl, trivial⟩ (LeE.upd rfl rfl (LeE.upd rfl rfl (LeE.none rfl rfl))) rfl
   replace H := cnf hb1075 H
   refine WP.skipW ?_
   have q0 := (Prod.mk.inj (Option.some.inj H)).1
   have q1 := (Prod.mk.inj (Option.some.inj H)).2
   subst q0
   subst q1
   exact W.wk [] hnp ⟨rfl, rfl, rfl⟩ ⟨rfl, trivial, by decide, rfl, trivial⟩ (LeE.upd rfl rfl (LeE.upd rfl rfl (LeE.none rfl rfl))) rfl
 rintro _ _ _ ⟨rfl, rfl, rfl⟩
 refine W.now ?_
 refine Then.n ?_
 refine WP.seq ?_
 refine WP.region ?_
 refine WPL.q (q_mv (v := .lit (.int _ _)) rfl) rfl ?_
 refine WPL.q (q_mv (v := .lit (.int _ _)) rfl) rfl ?_
 refine WPL.q (q_conv Tryd.underlying41 Tryd.underlying5 rfl) rfl ?_
 obtain ⟨x1078, h1078, H⟩ := bnd H
 refine WPL.q (q_index_str Tryd.underlying9 rfl rfl h1078) rfl ?_
 refine WPL.q (q_conv Tryd.underlying5 Tryd.underlying3 rfl) rfl ?_
 obtain ⟨x1079, h1079, H⟩ := bnd H
 refine WPL.q (q_nm (q_add rfl rfl) (nm_int h1079)) rfl ?_
 refine WPL.q (q_as (v := .lit (.int _ _)) rfl) rfl ?_
 refine WPL.nilW ?_
 refine W.now ?_
 refine Then.n ?_
 refine WP.retW ?_
 have q0 := (Option.some.inj H)
 subst q0
 exact W.now (BodyR.mkR trivial rfl [] ⟨rfl, rfl⟩ ⟨rfl, trivial, by decide, rfl, trivial⟩ rfl rfl)
end Go.Proofs.YtdbeblgfccjbgaaDoor.W
namespace Go.Proofs.YtdbeblgfccjbgaaDoor.W
open Go Go.Q Go.Proofs
set_option linter.unusedVariables false
set_option linter.unusedSimpArgs false
set_option maxRecDepth 100000 in
set_option maxHeartbeats 4000000 in
theorem s_math_bits_LeadingZeros64 (k : Nat) (x1041 : Int) (x1082 : Int) (H : g_math_bits_LeadingZeros64 k x1041 = some x1082) : Go.Q.Spec Tryd.prog 76 0 [.lit (.int .u64 x1041)] Mem.nil (fun o M => o = .ret (.lit (.int .i64 x1082)) ∧ M = Mem.nil) := by
 unfold g_math_bits_LeadingZeros64 at H
 refine Go.Q.Spec.of_bodyR (az := []) (rs := [.tmp 2]) (nt := 6) Tryd.func76 rfl rfl (by intro t T h; simp at h) rfl rfl fun cx hnp => ?_
 refine WP.seq ?_
 refine WP.region ?_
 refine WPL.q (q_as (v := .lit (.int _ _)) rfl) rfl ?_
 refine WPL.nilW ?_
 refine W.now ?_
 refine Then.n ?_
 refine WP.seq ?_
 refine WP.region ?_
 refine WPL.q (q_mv (v := .lit (.int _ _)) rfl) rfl ?_
 obtain ⟨x1084, h1082, H⟩ := bnd H
 refine WPL.c (runs_call (s := []) (t := []) (N := 0) (bor := []) fn83 rfl (s_math_bits_Len64 k x1041 x1084 h1082) ⟨rfl, trivial, by decide, rfl, trivial⟩ rfl trivial (.ren rfl rfl .nil) rfl trivial rfl) rfl ?_
 refine WPL.q (q_sub rfl rfl) rfl ?_
 refine WPL.q (q_as (v := .lit (.int _ _)) rfl) rfl ?_
 refine WPL.nilW ?_
 refine W.now ?_
 refine Then.n ?_
 refine WP.retW ?_
 have q0 := (Option.some.inj H)
 subst q0
 exact W.now (BodyR.mkR trivial rfl [] ⟨rfl, rfl⟩ ⟨rfl, trivial, by decide, rfl, trivial⟩ rfl rfl)
set_option maxRecDepth 100000 in
set_option maxHeartbeats 4000000 in
theorem s_math_bits_Div64 (k : Nat) (x1023 : Int) (x1024 : Int) (x1025 : Int) (x1215 : Int) (x1216 : Int) (H : g_math_bits_Div64 k x1023 x1024 x1025 = some (x1215, x1216)) : Go.Q.Spec Tryd.prog 66 0 [.lit (.int .u64 x1023), .lit (.int .u64 x1024), .lit (.int .u64 x1025)] Mem.nil (fun o M => o = .ret (.tup [.lit (.int .u64 x1215), .lit (.int .u64 x1216)]) ∧ M = Mem.nil) := by
 unfold g_math_bits_Div64 at H
 refine Go.Q.Spec.of_bodyR (az := []) (rs := [.tmp 6, .tmp 7]) (nt := 135) Tryd.func66 rfl rfl (by intro t T h; simp at h) rfl rfl fun cx hnp => ?_
 refine WP.seq ?_
 refine WP.region ?_
 refine WPL.q (q_as (v := .lit (.int _ _)) rfl) rfl ?_
 refine WPL.q (q_as (v := .lit (.int _ _)) rfl) rfl ?_
 refine WPL.nilW ?_
 refine W.now ?_
 refine Then.n ?_
 refine WP.seq ?_
 refine WP.seq ?_
 refine WP.region ?_
 refine WPL.q (q_mv (v := .lit (.int _ _)) rfl) rfl ?_
 refine WPL.q (q_eql rfl rfl) rfl ?_
 refine WPL.nilW ?_
 refine W.now ?_
 refine Then.n ?_
 refine WP.cond (t := (decide (x1025 = 0))) rfl (fun hb1217 => ?_) (fun hb1217 => ?_)
 · replace H := cnt hb1217 H
   refine WP.region ?_
   exact nf rfl H
 replace H := cnf hb1217 H
 refine WP.skipW ?_
 refine W.now ?_
 refine Then.n ?_
 refine WP.seq ?_
 refine WP.seq ?_
 refine WP.region ?_
 refine WPL.q (q_mv (v := .lit (.int _ _)) rfl) rfl ?_
 refine WPL.q (q_mv (v := .lit (.int _ _)) rfl) rfl ?_
 refine WPL.q (q_leq rfl rfl) rfl ?_
 refine WPL.nilW ?_
 refine W.now ?_
 refine Then.n ?_
 refine WP.cond (t := (decide (x1025 ≤ x1023))) rfl (fun hb1219 => ?_) (fun hb1219 => ?_)
 · replace H := cnt hb1219 H
   refine WP.region ?_
   exact nf rfl H
 replace H := cnf hb1219 H
 refine WP.skipW ?_
 refine W.now ?_
 refine Then.n ?_
 refine WP.seq ?_
 refine WP.seq ?_
 refine WP.region ?_
 refine WPL.q (q_mv (v := .lit (.int _ _)) rfl) rfl ?_
 refine WPL.q (q_eql rfl rfl) rfl ?_
 refine WPL.nilW ?_
 refine W.now ?_
 refine Then.n ?_
 refine WP.cond (t := (decide (x1023 = 0))) rfl (fun hb1225 => ?_) (fun hb1225 => ?_)
 · replace H := cnt hb1225 H
   refine WP.seq ?_
   refine WP.regionD' 8 [] [] mixed rfl ?_
   refine WPD.takeT 0 rfl (by kernel_rfl) (q_mv (v := .lit (.int _ _)) rfl) rfl ?_
   refine WPD.takeT 1 rfl (by kernel_rfl) (q_mv (v := .lit (.int _ _)) rfl) rfl ?_
   obtain ⟨h1228, H⟩ := grd H
   refine WPD.takeT 2 rfl (by kernel_rfl) (q_quo rfl rfl (bnot h1228)) rfl ?_
   refine WPD.takeT 3 rfl (by kernel_rfl) (q_mv (v := .lit (.int _ _)) rfl) rfl ?_
   refine WPD.takeT 4 rfl (by kernel_rfl) (q_mv (v := .lit (.int _ _)) rfl) rfl ?_
   obtain ⟨h1229, H⟩ := grd H
   refine WPD.takeT 5 rfl (by kernel_rfl) (q_rem rfl rfl (bnot h1229)) rfl ?_
   refine WPD.takeT 6 rfl (by kernel_rfl) (q_as (v := .lit (.int _ _)) rfl) rfl ?_
   refine WPD.takeT 7 rfl (by kernel_rfl) (q_as (v := .lit (.int _ _)) rfl) rfl ?_
   refine WPD.doneW (by kernel_rfl) ?_
   refine W.now ?_
   refine Then.n ?_
   refine WP.retW ?_
   have q0 := (Prod.mk.inj (Option.some.inj H)).1
   have q1 := (Prod.mk.inj (Option.some.inj H)).2
   subst q0
   subst q1
   exact W.now (Then.r (BodyR.mkR trivial rfl [] ⟨rfl, rfl⟩ ⟨rfl, trivial, by decide, rfl, trivial⟩ rfl rfl))
 replace H := cnf hb1225 H
 refine WP.skipW ?_
 refine W.now ?_
 refine Then.n ?_
 refine WP.seq ?_
 refine WP.region ?_
 refine WPL.q (q_mv (v := .lit (.int _ _)) rfl) rfl ?_
 obtain ⟨x1232, h1230, H⟩ := bnd H
 refine WPL.c (runs_call (s := []) (t := []) (N := 0) (bor := []) fn76 rfl (s_math_bits_LeadingZeros64 k x1025 x1232 h1230) ⟨rfl, trivial, by decide, rfl, trivial⟩ rfl trivial (.ren rfl rfl .nil) rfl trivial rfl) rfl ?_
 refine WPL.q (q_conv Tryd.underlying3 Tryd.underlying88 rfl) rfl ?_
 refine WPL.q (q_as (v := .lit (.int _ _)) rfl) rfl ?_
 refine WPL.nilW ?_
 refine W.now ?_
 refine Then.n ?_
 refine WP.seq ?_
 refine WP.region ?_
 refine WPL.q (q_mv (v := .lit (.int _ _)) rfl) rfl ?_
 refine WPL.q (q_mv (v := .lit (.int _ _)) rfl) rfl ?_
 obtain ⟨h1232, H⟩ := grd H
 obtain ⟨x1234, h1234, H⟩ := bnd H
 refine WPL.q (q_nm (q_shl rfl rfl h1232) (nm_int h1234)) rfl ?_
 refine WPL.q (q_as (v := .lit (.int _ _)) rfl) rfl ?_
 refine WPL.nilW ?_
 refine W.now ?_
 refine Then.n ?_
 refine WP.seq ?_
 refine WP.region ?_
 refine WPL.q (q_mv (v := .lit (.int _ _)) rfl) rfl ?_
 refine WPL.q (q_shr rfl rfl rfl) rfl ?_
 refine WPL.q (q_as (v := .lit (.int _ _)) rfl) rfl ?_
 refine WPL.nilW ?_
 refine W.now ?_
 refine Then.n ?_
 refine WP.seq ?_
 refine WP.region ?_
 refine WPL.q (q_mv (v := .lit (.int _ _)) rfl) rfl ?_
 refine WPL.q (q_and rfl rfl) rfl ?_
 refine WPL.q (q_as (v := .lit (.int _ _)) rfl) rfl ?_
 refine WPL.nilW ?_
 refine W.now ?_
 refine Then.n ?_
 refine WP.seq ?_
 refine WP.region ?_
 refine WPL.q (q_mv (v := .lit (.int _ _)) rfl) rfl ?_
 refine WPL.q (q_mv (v := .lit (.int _ _)) rfl) rfl ?_
 obtain ⟨h1234, H⟩ := grd H
 obtain ⟨x1236, h1236, H⟩ := bnd H
 refine WPL.q (q_nm (q_shl rfl rfl h1234) (nm_int h1236)) rfl ?_
 refine WPL.q (q_mv (v := .lit (.int _ _)) rfl) rfl ?_
 refine WPL.q (q_mv (v := .lit (.int _ _)) rfl) rfl ?_
 obtain ⟨x1237, h1237, H⟩ := bnd H
 refine WPL.q (q_nm (q_sub rfl rfl) (nm_int h1237)) rfl ?_
 obtain ⟨h1237, H⟩ := grd H
 refine WPL.q (q_shr rfl rfl h1237) rfl ?_
 refine WPL.q (q_or rfl rfl) rfl ?_
 refine WPL.q (q_as (v := .lit (.int _ _)) rfl) rfl ?_
 refine WPL.nilW ?_
 refine W.now ?_
 refine Then.n ?_
 refine WP.seq ?_
 refine WP.region ?_
 refine WPL.q (q_mv (v := .lit (.int _ _)) rfl) rfl ?_
 refine WPL.q (q_mv (v := .lit (.int _ _)) rfl) rfl ?_
 obtain ⟨h1238, H⟩ := grd H
 obtain ⟨x1240, h1240, H⟩ := bnd H
 refine WPL.q (q_nm (q_shl rfl rfl h1238) (nm_int h1240)) rfl ?_
 refine WPL.q (q_as (v := .lit (.int _ _)) rfl) rfl ?_
 refine WPL.nilW ?_
 refine W.now ?_
 refine Then.n ?_
 refine WP.seq ?_
 refine WP.region ?_
 refine WPL.q (q_mv (v := .lit (.int _ _)) rfl) rfl ?_
 refine WPL.q (q_shr rfl rfl rfl) rfl ?_
 refine WPL.q (q_as (v := .lit (.int _ _)) rfl) rfl ?_
 refine WPL.nilW ?_
 refine W.now ?_
 refine Then.n ?_
 refine WP.seq ?_
 refine WP.region ?_
 refine WPL.q (q_mv (v := .lit (.int _ _)) rfl) rfl ?_
 refine WPL.q (q_and rfl rfl) rfl ?_
 refine WPL.q (q_as (v := .lit (.int _ _)) rfl) rfl ?_
 refine WPL.nilW ?_
 refine W.now ?_
 refine Then.n ?_
 refine WP.seq ?_
 refine WP.region ?_
 refine WPL.q (q_mv (v := .lit (.int _ _)) rfl) rfl ?_
 refine WPL.q (q_mv (v := .lit (.int _ _)) rfl) rfl ?_
 obtain ⟨h1240, H⟩ := grd H
 obtain ⟨x1242, h1242, H⟩ := bnd H
 refine WPL.q (q_nm (q_quo rfl rfl (bnot h1240)) (nm_int h1242)) rfl ?_
 refine WPL.q (q_as (v := .lit (.int _ _)) rfl) rfl ?_
 refine WPL.nilW ?_
 refine W.now ?_
 refine Then.n ?_
 refine WP.seq ?_
 refine WP.region ?_
 refine WPL.q (q_mv (v := .lit (.int _ _)) rfl) rfl ?_
 refine WPL.q (q_mv (v := .lit (.int _ _)) rfl) rfl ?_
 refine WPL.q (q_mv (v := .lit (.int _ _)) rfl) rfl ?_
 obtain ⟨x1243, h1243, H⟩ := bnd H
 refine WPL.q (q_nm (q_mul rfl rfl) (nm_int h1243)) rfl ?_
 obtain ⟨x1244, h1244, H⟩ := bnd H
 refine WPL.q (q_nm (q_sub rfl rfl) (nm_int h1244)) rfl ?_
 refine WPL.q (q_as (v := .lit (.int _ _)) rfl) rfl ?_
 refine WPL.nilW ?_
 refine W.now ?_
 refine Then.n ?_
 refine WP.seq ?_
 refine WP.block ?_
 refine WP.cv (Cv.weak (E' := (((((((((Env.none.upd 2 (.lit (.int .u64 x1234))).upd 8 (.lit (.int .u64 (IntKind.wrap .u64 x1232)))).upd 9 (.lit (.int .u64 (shrI .u64 x1234 32)))).upd 10 (.lit (.int .u64 (bits .and .u64 x1234 4294967295)))).upd 11 (.lit (.int .u64 (bits .or .u64 x1236 (shrI .u64 x1024 x1237))))).upd 13 (.lit (.int .u64 (shrI .u64 x1240 32)))).upd 14 (.lit (.int .u64 (bits .and .u64 x1240 4294967295)))).upd 15 (.lit (.int .u64 x1242))).upd 16 (.lit (.int .u64 x1244)))) (M' := Mem.nil) [] hnp ⟨rfl, trivial, by decide, rfl, trivial⟩ (LeE.upd rfl rfl (LeE.upd rfl rfl (LeE.upd rfl rfl (LeE.upd rfl rfl (LeE.upd rfl rfl (LeE.upd rfl rfl (LeE.upd rfl rfl (LeE.upd rfl rfl (LeE.upd rfl rfl (LeE.none rfl rfl))))))))))) ?_
 obtain ⟨x1295, H1319, H⟩ := bnd H
 refine WP.monoW (Q := fun x E M => x = .exit 0 ∧ E = ((((((((Env.none.upd 2 (.lit (.int .u64 x1234))).upd 8 (.lit (.int .u64 (IntKind.wrap .u64 x1232)))).upd 9 (.lit (.int .u64 (shrI .u64 x1234 32)))).upd 10 (.lit (.int .u64 (bits .and .u64 x1234 4294967295)))).upd 11 (.lit (.int .u64 (bits .or .u64 x1236 (shrI .u64 x1024 x1237))))).upd 13 (.lit (.int .u64 (shrI .u64 x1240 32)))).upd 14 (.lit (.int .u64 (bits .and .u64 x1240 4294967295)))).upd 15 (.lit (.int .u64 x1295))) ∧ M = Mem.nil) ?_ ?_
 · refine WP.loop (β := Int × Int) (fun n b => g_math_bits_Div64_l0 k x1234 x1240 n b.1 b.2 = some x1295) (fun b => (((((((((Env.none.upd 2 (.lit (.int .u64 x1234))).upd 8 (.lit (.int .u64 (IntKind.wrap .u64 x1232)))).upd 9 (.lit (.int .u64 (shrI .u64 x1234 32)))).upd 10 (.lit (.int .u64 (bits .and .u64 x1234 4294967295)))).upd 11 (.lit (.int .u64 (bits .or .u64 x1236 (shrI .u64 x1024 x1237))))).upd 13 (.lit (.int .u64 (shrI .u64 x1240 32)))).upd 14 (.lit (.int .u64 (bits .and .u64 x1240 4294967295)))).upd 15 (.lit (.int .u64 b.1))).upd 16 (.lit (.int .u64 b.2)))) (fun b => Mem.nil) k (x1242, x1244) H1319 rfl rfl ?_
   rintro n ⟨x1269, x1270⟩ H
   obtain _ | n := n
   · exact nf rfl H
   rw [g_math_bits_Div64_l0.eq_2] at H
   show WP _ _ _ _ (((((((((Env.none.upd 2 (.lit (.int .u64 x1234))).upd 8 (.lit (.int .u64 (IntKind.wrap .u64 x1232)))).upd 9 (.lit (.int .u64 (shrI .u64 x1234 32)))).upd 10 (.lit (.int .u64 (bits .and .u64 x1234 4294967295)))).upd 11 (.lit (.int .u64 (bits .or .u64 x1236 (shrI .u64 x1024 x1237))))).upd 13 (.lit (.int .u64 (shrI .u64 x1240 32)))).upd 14 (.lit (.int .u64 (bits .and .u64 x1240 4294967295)))).upd 15 (.lit (.int .u64 x1269))).upd 16 (.lit (.int .u64 x1270))) Mem.nil _
   refine WP.seq ?_
   refine WP.seq ?_
   obtain ⟨x1311, H1315, H⟩ := bnd H
   refine WP.monoW (Q := fun x E M => x = .normal ∧ E = ((((((((((Env.none.upd 2 (.lit (.int .u64 x1234))).upd 8 (.lit (.int .u64 (IntKind.wrap .u64 x1232)))).upd 9 (.lit (.int .u64 (shrI .u64 x1234 32)))).upd 10 (.lit (.int .u64 (bits .and .u64 x1234 4294967295)))).upd 11 (.lit (.int .u64 (bits .or .u64 x1236 (shrI .u64 x1024 x1237))))).upd 13 (.lit (.int .u64 (shrI .u64 x1240 32)))).upd 14 (.lit (.int .u64 (bits .and .u64 x1240 4294967295)))).upd 15 (.lit (.int .u64 x1269))).upd 16 (.lit (.int .u64 x1270))).upd 78 (.lit (.bool x1311))) ∧ M = Mem.nil) ?_ ?_
   · clear H
     have H := H1315
     clear H1315
     refine WP.region ?_
     refine WPL.q (q_mv (v := .lit (.int _ _)) rfl) rfl ?_
     refine WPL.q (q_geq rfl rfl) rfl ?_
     refine WPL.q (q_mv (v := .lit (.bool _)) rfl) rfl ?_
     refine WPL.split (t := 69) (b := (decide (4294967296 ≤ x1269))) rfl (fun hb1311 => ?_) (fun hb1311 => ?_)
     · replace H := cnt hb1311 H
       refine WPL.skipg (b' := true) rfl rfl (lb hb1311) rfl rfl ?_
       refine WPL.skipg (b' := true) rfl rfl (lb hb1311) rfl rfl ?_
       refine WPL.skipg (b' := true) rfl rfl (lb hb1311) rfl rfl ?_
       refine WPL.skipg (b' := true) rfl rfl (lb hb1311) rfl rfl ?_
       refine WPL.skipg (b' := true) rfl rfl (lb hb1311) rfl rfl ?_
       refine WPL.skipg (b' := true) rfl rfl (lb hb1311) rfl rfl ?_
       refine WPL.skipg (b' := true) rfl rfl (lb hb1311) rfl rfl ?_
       refine WPL.skipg (b' := true) rfl rfl (lb hb1311) rfl rfl ?_
       refine WPL.q (q_pickT (v := .lit (.bool _)) (lb hb1311) rfl) rfl ?_
       refine WPL.nilW ?_
       have q0 := (Option.some.inj H)
       subst q0
       exact W.wk [] hnp ⟨rfl, rfl, rfl⟩ ⟨rfl, trivial, by decide, rfl, trivial⟩ (LeE.upd rfl rfl (LeE.upd rfl rfl (LeE.upd rfl rfl (LeE.upd rfl rfl (LeE.upd rfl rfl (LeE.upd rfl rfl (LeE.upd rfl rfl (LeE.upd rfl rfl (LeE.upd rfl rfl (LeE.upd rfl rfl (LeE.none rfl rfl))))))))))) rfl
     replace H := cnf hb1311 H
     refine WPL.qg rfl rfl (lb hb1311) (q_mv (v := .lit (.int _ _)) rfl) rfl ?_
     refine WPL.qg rfl rfl (lb hb1311) (q_mv (v := .lit (.int _ _)) rfl) rfl ?_
     obtain ⟨x1313, h1313, H⟩ := bnd H
     refine WPL.qg rfl rfl (lb hb1311) (q_nm (q_mul rfl rfl) (nm_int h1313)) rfl ?_
     refine WPL.qg rfl rfl (lb hb1311) (q_mv (v := .lit (.int _ _)) rfl) rfl ?_
     obtain ⟨x1314, h1314, H⟩ := bnd H
     refine WPL.qg rfl rfl (lb hb1311) (q_nm (q_mul rfl rfl) (nm_int h1314)) rfl ?_
     refine WPL.qg rfl rfl (lb hb1311) (q_mv (v := .lit (.int _ _)) rfl) rfl ?_
     obtain ⟨x1315, h1315, H⟩ := bnd H
     refine WPL.qg rfl rfl (lb hb1311) (q_nm (q_add rfl rfl) (nm_int h1315)) rfl ?_
     refine WPL.qg rfl rfl (lb hb1311) (q_gtr rfl rfl) rfl ?_
     refine WPL.q (q_pickF (v := .lit (.bool _)) (lb hb1311) rfl) rfl ?_
     refine WPL.nilW ?_
     have q0 := (Option.some.inj H)
     subst q0
     exact W.wk [] hnp ⟨rfl, rfl, rfl⟩ ⟨rfl, trivial, by decide, rfl, trivial⟩ (LeE.upd rfl rfl (LeE.upd rfl rfl (LeE.upd rfl rfl (LeE.upd rfl rfl (LeE.upd rfl rfl (LeE.upd rfl rfl (LeE.upd rfl rfl (LeE.upd rfl rfl (LeE.upd rfl rfl (LeE.upd rfl rfl (LeE.none rfl rfl))))))))))) rfl
   rintro _ _ _ ⟨rfl, rfl, rfl⟩
   refine W.now ?_
   refine Then.n ?_
   refine WP.cond (t := x1311) rfl (fun hb1316 => ?_) (fun hb1316 => ?_)
   · replace H := cnt hb1316 H
     refine WP.skipW ?_
     refine W.now ?_
     refine Then.n ?_
     refine WP.block ?_
     refine WP.seq ?_
     refine WP.region ?_
     refine WPL.q (q_mv (v := .lit (.int _ _)) rfl) rfl ?_
     refine WPL.q (q_sub rfl rfl) rfl ?_
     refine WPL.q (q_as (v := .lit (.int _ _)) rfl) rfl ?_
     refine WPL.nilW ?_
     refine W.now ?_
     refine Then.n ?_
     refine WP.seq ?_
     refine WP.region ?_
     refine WPL.q (q_mv (v := .lit (.int _ _)) rfl) rfl ?_
     refine WPL.q (q_mv (v := .lit (.int _ _)) rfl) rfl ?_
     obtain ⟨x1318, h1318, H⟩ := bnd H
     refine WPL.q (q_nm (q_add rfl rfl) (nm_int h1318)) rfl ?_
     refine WPL.q (q_as (v := .lit (.int _ _)) rfl) rfl ?_
     refine WPL.nilW ?_
     refine W.now ?_
     refine Then.n ?_
     refine WP.seq ?_
     refine WP.region ?_
     refine WPL.q (q_mv (v := .lit (.int _ _)) rfl) rfl ?_
     refine WPL.q (q_geq rfl rfl) rfl ?_
     refine WPL.nilW ?_
     refine W.now ?_
     refine Then.n ?_
     refine WP.cond (t := (decide (4294967296 ≤ x1318))) rfl (fun hb1318 => ?_) (fun hb1318 => ?_)
     · replace H := cnt hb1318 H
       refine WP.exitW ?_
       have q0 := (Option.some.inj H)
       subst q0
       exact W.wk [] hnp (InBlock.x rfl (Then.x ⟨rfl, rfl, rfl⟩)) ⟨rfl, trivial, by decide, rfl, trivial⟩ (LeE.upd rfl rfl (LeE.upd rfl rfl (LeE.upd rfl rfl (LeE.upd rfl rfl (LeE.upd rfl rfl (LeE.upd rfl rfl (LeE.upd rfl rfl (LeE.upd rfl rfl (LeE.none rfl rfl))))))))) rfl
     replace H := cnf hb1318 H
     refine WP.skipW ?_
     exact W.wk [] hnp (InBlock.n (Then.n ⟨n, ((IntKind.wrap .u64 (x1269 - 1)), x1318), Nat.lt_succ_self n, H, rfl, rfl⟩)) ⟨rfl, trivial, by decide, rfl, trivial⟩ (LeE.upd rfl rfl (LeE.upd rfl rfl (LeE.upd rfl rfl (LeE.upd rfl rfl (LeE.upd rfl rfl (LeE.upd rfl rfl (LeE.upd rfl rfl (LeE.upd rfl rfl (LeE.upd rfl rfl (LeE.none rfl rfl)))))))))) rfl
   replace H := cnf hb1316 H
   refine WP.exitW ?_
   have q0 := (Option.some.inj H)
   subst q0
   exact W.wk [] hnp (Then.x (Then.x ⟨rfl, rfl, rfl⟩)) ⟨rfl, trivial, by decide, rfl, trivial⟩ (LeE.upd rfl rfl (LeE.upd rfl rfl (LeE.upd rfl rfl (LeE.upd rfl rfl (LeE.upd rfl rfl (LeE.upd rfl rfl (LeE.upd rfl rfl (LeE.upd rfl rfl (LeE.none rfl rfl))))))))) rfl
 rintro _ _ _ ⟨rfl, rfl, rfl⟩
 refine W.now ?_
 refine InBlock.x0 ?_
 refine Then.n ?_
 refine WP.seq ?_
 refine WP.region ?_
 refine WPL.q (q_mv (v := .lit (.int _ _)) rfl) rfl ?_
 obtain ⟨x1321, h1321, H⟩ := bnd H
 refine WPL.q (q_nm (q_mul rfl rfl) (nm_int h1321)) rfl ?_
 refine WPL.q (q_mv (v := .lit (.int _ _)) rfl) rfl ?_
 obtain ⟨x1322, h1322, H⟩ := bnd H
 refine WPL.q (q_nm (q_add rfl rfl) (nm_int h1322)) rfl ?_
 refine WPL.q (q_mv (v := .lit (.int _ _)) rfl) rfl ?_
 refine WPL.q (q_mv (v := .lit (.int _ _)) rfl) rfl ?_
 refine WPL.q (q_mul rfl rfl) rfl ?_
 obtain ⟨x1323, h1323, H⟩ := bnd H
 refine WPL.q (q_nm (q_sub rfl rfl) (nm_int h1323)) rfl ?_
 refine WPL.q (q_as (v := .lit (.int _ _)) rfl) rfl ?_
 refine WPL.nilW ?_
 refine W.now ?_
 refine Then.n ?_
 refine WP.seq ?_
 refine WP.region ?_
 refine WPL.q (q_mv (v := .lit (.int _ _)) rfl) rfl ?_
 refine WPL.q (q_mv (v := .lit (.int _ _)) rfl) rfl ?_
 obtain ⟨h1323, H⟩ := grd H
 obtain ⟨x1325, h1325, H⟩ := bnd H
 refine WPL.q (q_nm (q_quo rfl rfl (bnot h1323)) (nm_int h1325)) rfl ?_
 refine WPL.q (q_as (v := .lit (.int _ _)) rfl) rfl ?_
 refine WPL.nilW ?_
 refine W.now ?_
 refine Then.n ?_
 refine WP.seq ?_
 refine WP.region ?_
 refine WPL.q (q_mv (v := .lit (.int _ _)) rfl) rfl ?_
 refine WPL.q (q_mv (v := .lit (.int _ _)) rfl) rfl ?_
 refine WPL.q (q_mv (v := .lit (.int _ _)) rfl) rfl ?_
 obtain ⟨x1326, h1326, H⟩ := bnd H
 refine WPL.q (q_nm (q_mul rfl rfl) (nm_int h1326)) rfl ?_
 refine WPL.q (q_sub rfl rfl) rfl ?_
 refine WPL.q (q_as (v := .lit (.int _ _)) rfl) rfl ?_
 refine WPL.nilW ?_
 refine W.now ?_
 refine Then.n ?_
 refine WP.seq ?_
 refine WP.block ?_
 refine WP.cv (Cv.weak (E' := (((((((((Env.none.upd 2 (.lit (.int .u64 x1234))).upd 8 (.lit (.int .u64 (IntKind.wrap .u64 x1232)))).upd 9 (.lit (.int .u64 (shrI .u64 x1234 32)))).upd 10 (.lit (.int .u64 (bits .and .u64 x1234 4294967295)))).upd 14 (.lit (.int .u64 (bits .and .u64 x1240 4294967295)))).upd 15 (.lit (.int .u64 x1295))).upd 16 (.lit (.int .u64 (IntKind.wrap .u64 (x1323 - x1326))))).upd 17 (.lit (.int .u64 x1323))).upd 18 (.lit (.int .u64 x1325)))) (M' := Mem.nil) [] hnp ⟨rfl, trivial, by decide, rfl, trivial⟩ (LeE.upd rfl rfl (LeE.upd rfl rfl (LeE.upd rfl rfl (LeE.upd rfl rfl (LeE.upd rfl rfl (LeE.upd rfl rfl (LeE.upd rfl rfl (LeE.upd rfl rfl (LeE.upd rfl rfl (LeE.none rfl rfl))))))))))) ?_
 obtain ⟨x1377, H1401, H⟩ := bnd H
 refine WP.monoW (Q := fun x E M => x = .exit 2 ∧ E = ((((((Env.none.upd 2 (.lit (.int .u64 x1234))).upd 8 (.lit (.int .u64 (IntKind.wrap .u64 x1232)))).upd 14 (.lit (.int .u64 (bits .and .u64 x1240 4294967295)))).upd 15 (.lit (.int .u64 x1295))).upd 17 (.lit (.int .u64 x1323))).upd 18 (.lit (.int .u64 x1377))) ∧ M = Mem.nil) ?_ ?_
 · refine WP.loop (β := Int × Int) (fun n b => g_math_bits_Div64_l1 k x1234 x1240 n b.1 b.2 = some x1377) (fun b => (((((((((Env.none.upd 2 (.lit (.int .u64 x1234))).upd 8 (.lit (.int .u64 (IntKind.wrap .u64 x1232)))).upd 9 (.lit (.int .u64 (shrI .u64 x1234 32)))).upd 10 (.lit (.int .u64 (bits .and .u64 x1234 4294967295)))).upd 14 (.lit (.int .u64 (bits .and .u64 x1240 4294967295)))).upd 15 (.lit (.int .u64 x1295))).upd 16 (.lit (.int .u64 b.1))).upd 17 (.lit (.int .u64 x1323))).upd 18 (.lit (.int .u64 b.2)))) (fun b => Mem.nil) k ((IntKind.wrap .u64 (x1323 - x1326)), x1325) H1401 rfl rfl ?_
   rintro n ⟨x1351, x1352⟩ H
   obtain _ | n := n
   · exact nf rfl H
   rw [g_math_bits_Div64_l1.eq_2] at H
   show WP _ _ _ _ (((((((((Env.none.upd 2 (.lit (.int .u64 x1234))).upd 8 (.lit (.int .u64 (IntKind.wrap .u64 x1232)))).upd 9 (.lit (.int .u64 (shrI .u64 x1234 32)))).upd 10 (.lit (.int .u64 (bits .and .u64 x1234 4294967295)))).upd 14 (.lit (.int .u64 (bits .and .u64 x1240 4294967295)))).upd 15 (.lit (.int .u64 x1295))).upd 16 (.lit (.int .u64 x1351))).upd 17 (.lit (.int .u64 x1323))).upd 18 (.lit (.int .u64 x1352))) Mem.nil _
   refine WP.seq ?_
   refine WP.seq ?_
   obtain ⟨x1393, H1397, H⟩ := bnd H
   refine WP.monoW (Q := fun x E M => x = .normal ∧ E = ((((((((((Env.none.upd 2 (.lit (.int .u64 x1234))).upd 8 (.lit (.int .u64 (IntKind.wrap .u64 x1232)))).upd 9 (.lit (.int .u64 (shrI .u64 x1234 32)))).upd 10 (.lit (.int .u64 (bits .and .u64 x1234 4294967295)))).upd 14 (.lit (.int .u64 (bits .and .u64 x1240 4294967295)))).upd 15 (.lit (.int .u64 x1295))).upd 16 (.lit (.int .u64 x1351))).upd 17 (.lit (.int .u64 x1323))).upd 18 (.lit (.int .u64 x1352))).upd 113 (.lit (.bool x1393))) ∧ M = Mem.nil) ?_ ?_
   · clear H
     have H := H1397
     clear H1397
     refine WP.region ?_
     refine WPL.q (q_mv (v := .lit (.int _ _)) rfl) rfl ?_
     refine WPL.q (q_geq rfl rfl) rfl ?_
     refine WPL.q (q_mv (v := .lit (.bool _)) rfl) rfl ?_
     refine WPL.split (t := 104) (b := (decide (4294967296 ≤ x1352))) rfl (fun hb1393 => ?_) (fun hb1393 => ?_)
     · replace H := cnt hb1393 H
       refine WPL.skipg (b' := true) rfl rfl (lb hb1393) rfl rfl ?_
       refine WPL.skipg (b' := true) rfl rfl (lb hb1393) rfl rfl ?_
       refine WPL.skipg (b' := true) rfl rfl (lb hb1393) rfl rfl ?_
       refine WPL.skipg (b' := true) rfl rfl (lb hb1393) rfl rfl ?_
       refine WPL.skipg (b' := true) rfl rfl (lb hb1393) rfl rfl ?_
       refine WPL.skipg (b' := true) rfl rfl (lb hb1393) rfl rfl ?_
       refine WPL.skipg (b' := true) rfl rfl (lb hb1393) rfl rfl ?_
       refine WPL.skipg (b' := true) rfl rfl (lb hb1393) rfl rfl ?_
       refine WPL.q (q_pickT (v := .lit (.bool _)) (lb hb1393) rfl) rfl ?_
       refine WPL.nilW ?_
       have q0 := (Option.some.inj H)
       subst q0
       exact W.wk [] hnp ⟨rfl, rfl, rfl⟩ ⟨rfl, trivial, by decide, rfl, trivial⟩ (LeE.upd rfl rfl (LeE.upd rfl rfl (LeE.upd rfl rfl (LeE.upd rfl rfl (LeE.upd rfl rfl (LeE.upd rfl rfl (LeE.upd rfl rfl (LeE.upd rfl rfl (LeE.upd rfl rfl (LeE.upd rfl rfl (LeE.none rfl rfl))))))))))) rfl
     replace H := cnf hb1393 H
     refine WPL.qg rfl rfl (lb hb1393) (q_mv (v := .lit (.int _ _)) rfl) rfl ?_
     refine WPL.qg rfl rfl (lb hb1393) (q_mv (v := .lit (.int _ _)) rfl) rfl ?_
     obtain ⟨x1395, h1395, H⟩ := bnd H
     refine WPL.qg rfl rfl (lb hb1393) (q_nm (q_mul rfl rfl) (nm_int h1395)) rfl ?_
     refine WPL.qg rfl rfl (lb hb1393) (q_mv (v := .lit (.int _ _)) rfl) rfl ?_
     obtain ⟨x1396, h1396, H⟩ := bnd H
     refine WPL.qg rfl rfl (lb hb1393) (q_nm (q_mul rfl rfl) (nm_int h1396)) rfl ?_
     refine WPL.qg rfl rfl (lb hb1393) (q_mv (v := .lit (.int _ _)) rfl) rfl ?_
     obtain ⟨x1397, h1397, H⟩ := bnd H
     refine WPL.qg rfl rfl (lb hb1393) (q_nm (q_add rfl rfl) (nm_int h1397)) rfl ?_
     refine WPL.qg rfl rfl (lb hb1393) (q_gtr rfl rfl) rfl ?_
     refine WPL.q (q_pickF (v := .lit (.bool _)) (lb hb1393) rfl) rfl ?_
     refine WPL.nilW ?_
     have q0 := (Option.some.inj H)
     subst q0
     exact W.wk [] hnp ⟨rfl, rfl, rfl⟩ ⟨rfl, trivial, by decide, rfl, trivial⟩ (LeE.upd rfl rfl (LeE.upd rfl rfl (LeE.upd rfl rfl (LeE.upd rfl rfl (LeE.upd rfl rfl (LeE.upd rfl rfl (LeE.upd rfl rfl (LeE.upd rfl rfl (LeE.upd rfl rfl (LeE.upd rfl rfl (LeE.none rfl rfl))))))))))) rfl
   rintro _ _ _ ⟨rfl, rfl, rfl⟩
   refine W.now ?_
   refine Then.n ?_
   refine WP.cond (t := x1393) rfl (fun hb1398 => ?_) (fun hb1398 => ?_)
   · replace H := cnt hb1398 H
     refine WP.skipW ?_
     refine W.now ?_
     refine Then.n ?_
     refine WP.block ?_
     refine WP.seq ?_
     refine WP.region ?_
     refine WPL.q (q_mv (v := .lit (.int _ _)) rfl) rfl ?_
     refine WPL.q (q_sub rfl rfl) rfl ?_
     refine WPL.q (q_as (v := .lit (.int _ _)) rfl) rfl ?_
     refine WPL.nilW ?_
     refine W.now ?_
     refine Then.n ?_
     refine WP.seq ?_
     refine WP.region ?_
     refine WPL.q (q_mv (v := .lit (.int _ _)) rfl) rfl ?_
     refine WPL.q (q_mv (v := .lit (.int _ _)) rfl) rfl ?_
     obtain ⟨x1400, h1400, H⟩ := bnd H
     refine WPL.q (q_nm (q_add rfl rfl) (nm_int h1400)) rfl ?_
     refine WPL.q (q_as (v := .lit (.int _ _)) rfl) rfl ?_
     refine WPL.nilW ?_
     refine W.now ?_
     refine Then.n ?_
     refine WP.seq ?_
     refine WP.region ?_
     refine WPL.q (q_mv (v := .lit (.int _ _)) rfl) rfl ?_
     refine WPL.q (q_geq rfl rfl) rfl ?_
     refine WPL.nilW ?_
     refine W.now ?_
     refine Then.n ?_
     refine WP.cond (t := (decide (4294967296 ≤ x1400))) rfl (fun hb1400 => ?_) (fun hb1400 => ?_)
     · replace H := cnt hb1400 H
       refine WP.exitW ?_
       have q0 := (Option.some.inj H)
       subst q0
       exact W.wk [] hnp (InBlock.x rfl (Then.x ⟨rfl, rfl, rfl⟩)) ⟨rfl, trivial, by decide, rfl, trivial⟩ (LeE.upd rfl rfl (LeE.upd rfl rfl (LeE.upd rfl rfl (LeE.upd rfl rfl (LeE.upd rfl rfl (LeE.upd rfl rfl (LeE.none rfl rfl))))))) rfl
     replace H := cnf hb1400 H
     refine WP.skipW ?_
     exact W.wk [] hnp (InBlock.n (Then.n ⟨n, (x1400, (IntKind.wrap .u64 (x1352 - 1))), Nat.lt_succ_self n, H, rfl, rfl⟩)) ⟨rfl, trivial, by decide, rfl, trivial⟩ (LeE.upd rfl rfl (LeE.upd rfl rfl (LeE.upd rfl rfl (LeE.upd rfl rfl (LeE.upd rfl rfl (LeE.upd rfl rfl (LeE.upd rfl rfl (LeE.upd rfl rfl (LeE.upd rfl rfl (LeE.none rfl rfl)))))))))) rfl
   replace H := cnf hb1398 H
   refine WP.exitW ?_
   have q0 := (Option.some.inj H)
   subst q0
   exact W.wk [] hnp (Then.x (Then.x ⟨rfl, rfl, rfl⟩)) ⟨rfl, trivial, by decide, rfl, trivial⟩ (LeE.upd rfl rfl (LeE.upd rfl rfl (LeE.upd rfl rfl (LeE.upd rfl rfl (LeE.upd rfl rfl (LeE.upd rfl rfl (LeE.none rfl rfl))))))) rfl
 rintro _ _ _ ⟨rfl, rfl, rfl⟩
 refine W.now ?_
 refine InBlock.x0 ?_
 refine Then.n ?_
 refine WP.seq ?_
 refine WP.region ?_
 refine WPL.q (q_mv (v := .lit (.int _ _)) rfl) rfl ?_
 obtain ⟨x1403, h1403, H⟩ := bnd H
 refine WPL.q (q_nm (q_mul rfl rfl) (nm_int h1403)) rfl ?_
 refine WPL.q (q_mv (v := .lit (.int _ _)) rfl) rfl ?_
 refine WPL.q (q_add rfl rfl) rfl ?_
 refine WPL.q (q_mv (v := .lit (.int _ _)) rfl) rfl ?_
 obtain ⟨x1404, h1404, H⟩ := bnd H
 refine WPL.q (q_nm (q_mul rfl rfl) (nm_int h1404)) rfl ?_
 refine WPL.q (q_mv (v := .lit (.int _ _)) rfl) rfl ?_
 obtain ⟨x1405, h1405, H⟩ := bnd H
 refine WPL.q (q_nm (q_add rfl rfl) (nm_int h1405)) rfl ?_
 refine WPL.q (q_mv (v := .lit (.int _ _)) rfl) rfl ?_
 refine WPL.q (q_mv (v := .lit (.int _ _)) rfl) rfl ?_
 refine WPL.q (q_mul rfl rfl) rfl ?_
 obtain ⟨x1406, h1406, H⟩ := bnd H
 refine WPL.q (q_nm (q_sub rfl rfl) (nm_int h1406)) rfl ?_
 refine WPL.q (q_mv (v := .lit (.int _ _)) rfl) rfl ?_
 obtain ⟨h1406, H⟩ := grd H
 obtain ⟨x1408, h1408, H⟩ := bnd H
 refine WPL.q (q_nm (q_shr rfl rfl h1406) (nm_int h1408)) rfl ?_
 refine WPL.q (q_as (v := .lit (.int _ _)) rfl) rfl ?_
 refine WPL.q (q_as (v := .lit (.int _ _)) rfl) rfl ?_
 refine WPL.nilW ?_
 refine W.now ?_
 refine Then.n ?_
 refine WP.retW ?_
 have q0 := (Prod.mk.inj (Option.some.inj H)).1
 have q1 := (Prod.mk.inj (Option.some.inj H)).2
 subst q0
 subst q1
 exact W.now (BodyR.mkR trivial rfl [] ⟨rfl, rfl⟩ ⟨rfl, trivial, by decide, rfl, trivial⟩ rfl rfl)
set_option maxRecDepth 100000 in
set_option maxHeartbeats 4000000 in
theorem s_dec_wide_by (k : Nat) (x1019 : Int) (x1020 : Int) (x1021 : Int) (x1415 : Int) (x1416 : Int) (x1417 : Int) (H : g_dec_wide_by k x1019 x1020 x1021 = some (x1415, x1416, x1417)) : Go.Q.Spec Tryd.prog 44 0 [.agg [.lit (.int .u64 x1019), .lit (.int .u64 x1020)], .lit (.int .u64 x1021)] Mem.nil (fun o M => o = .ret (.tup [.agg [.lit (.int .u64 x1416), .lit (.int .u64 x1417)], .lit (.int .u64 x1415)]) ∧ M = (Mem.nil.push (.cells 43 [.lit (.int .u64 x1416), .lit (.int .u64 x1417)]))) := by
 unfold g_dec_wide_by at H
 refine Go.Q.Spec.of_bodyR (az := [(43, 2)]) (rs := [.cell 4 43, .tmp 5]) (nt := 28) Tryd.func44 rfl rfl (by intro t T h; simp at h; rcases h with ⟨rfl, rfl⟩ <;> first | exact ag43) rfl rfl fun cx hnp => ?_
 refine WP.seq ?_
 refine WP.region ?_
 refine WPL.d (d_box rfl rfl) rfl ?_
 refine WPL.d (d_alloc ze43 rfl) rfl ?_
 refine WPL.q (q_as (v := .lit (.int _ _)) rfl) rfl ?_
 refine WPL.nilW ?_
 refine W.now ?_
 refine Then.n ?_
 refine WP.seq ?_
 refine WP.region ?_
 refine WPL.q (q_fieldAddr fi43_0 rfl rfl) rfl ?_
 refine WPL.q (q_load sc41 rfl rfl rfl) rfl ?_
 refine WPL.q (q_mv (v := .lit (.int _ _)) rfl) rfl ?_
 obtain ⟨⟨x1419, x1420⟩, h1417, H⟩ := bnd H
 refine WPL.c (runs_call (s := []) (t := []) (N := 2) (bor := []) fn66 rfl (s_math_bits_Div64 k 0 x1019 x1021 x1419 x1420 h1417) ⟨rfl, trivial, by decide, rfl, trivial⟩ rfl trivial (.ren rfl rfl (.ren rfl rfl (.ren rfl rfl .nil))) rfl trivial rfl) rfl ?_
 refine WPL.q (q_mv (v := .tup _) rfl) rfl ?_
 refine WPL.q (q_extract rfl rfl) rfl ?_
 refine WPL.q (q_extract rfl rfl) rfl ?_
 refine WPL.q (q_as (v := .lit (.int _ _)) rfl) rfl ?_
 refine WPL.q (q_as (v := .lit (.int _ _)) rfl) rfl ?_
 refine WPL.nilW ?_
 refine W.now ?_
 refine Then.n ?_
 refine WP.seq ?_
 refine WP.region ?_
 refine WPL.q (q_mv (v := .lit (.int _ _)) rfl) rfl ?_
 refine WPL.q (q_fieldAddr fi43_1 rfl rfl) rfl ?_
 refine WPL.q (q_load sc41 rfl rfl rfl) rfl ?_
 refine WPL.q (q_mv (v := .lit (.int _ _)) rfl) rfl ?_
 obtain ⟨⟨x1422, x1423⟩, h1420, H⟩ := bnd H
 refine WPL.c (runs_call (s := []) (t := []) (N := 2) (bor := []) fn66 rfl (s_math_bits_Div64 k x1420 x1020 x1021 x1422 x1423 h1420) ⟨rfl, trivial, by decide, rfl, trivial⟩ rfl trivial (.ren rfl rfl (.ren rfl rfl (.ren rfl rfl .nil))) rfl trivial rfl) rfl ?_
 refine WPL.q (q_mv (v := .tup _) rfl) rfl ?_
 refine WPL.q (q_extract rfl rfl) rfl ?_
 refine WPL.q (q_extract rfl rfl) rfl ?_
 refine WPL.q (q_as (v := .lit (.int _ _)) rfl) rfl ?_
 refine WPL.q (q_as (v := .lit (.int _ _)) rfl) rfl ?_
 refine WPL.nilW ?_
 refine W.now ?_
 refine Then.n ?_
 refine WP.seq ?_
 refine WP.region ?_
 refine WPL.q (q_mv (v := .lit (.int _ _)) rfl) rfl ?_
 refine WPL.q (q_mv (v := .lit (.int _ _)) rfl) rfl ?_
 refine WPL.q (q_build bu43 rfl) rfl ?_
 refine WPL.q (q_mv (v := .lit (.int _ _)) rfl) rfl ?_
 refine WPL.s (s_store sz43 rfl rfl rfl rfl rfl) ?_
 refine WPL.q (q_as (v := .lit (.int _ _)) rfl) rfl ?_
 refine WPL.nilW ?_
 refine W.now ?_
 refine Then.n ?_
 refine WP.retW ?_
 have q0 := (Prod.mk.inj (Option.some.inj H)).1
 have q1 := (Prod.mk.inj (Prod.mk.inj (Option.some.inj H)).2).1
 have q2 := (Prod.mk.inj (Prod.mk.inj (Option.some.inj H)).2).2
 subst q0
 subst q1
 subst q2
 exact W.now (BodyR.mkR trivial rfl [1] ⟨rfl, rfl⟩ ⟨rfl, ⟨trivial, .inr ⟨rfl, rfl, rfl⟩⟩, by decide, rfl, trivial⟩ rfl rfl)
set_option maxRecDepth 100000 in
set_option maxHeartbeats 4000000 in
theorem s_dec_wide_tens (k : Nat) (x1452 : Int) (x1453 : Int) (x1454 : Int) (x1510 : Bool) (x1511 : Int) (x1512 : Int) (H : g_dec_wide_tens k x1452 x1453 x1454 = some (x1510, x1511, x1512)) : Go.Q.Spec Tryd.prog 45 0 [.agg [.lit (.int .u64 x1452), .lit (.int .u64 x1453)], .lit (.int .i64 x1454)] Mem.nil (fun o M => o = .ret (.tup [.agg [.lit (.int .u64 x1511), .lit (.int .u64 x1512)], .lit (.bool x1510)]) ∧ M = (Mem.nil.push (.cells 43 [.lit (.int .u64 x1511), .lit (.int .u64 x1512)]))) := by
 unfold g_dec_wide_tens at H
 refine Go.Q.Spec.of_bodyR (az := [(43, 2)]) (rs := [.cell 4 43, .tmp 5]) (nt := 28) Tryd.func45 rfl rfl (by intro t T h; simp at h; rcases h with ⟨rfl, rfl⟩ <;> first | exact ag43) rfl rfl fun cx hnp => ?_
 refine WP.seq ?_
 refine WP.region ?_
 refine WPL.d (d_box rfl rfl) rfl ?_
 refine WPL.d (d_alloc ze43 rfl) rfl ?_
 refine WPL.q (q_as (v := .lit (.bool _)) rfl) rfl ?_
 refine WPL.nilW ?_
 refine W.now ?_
 refine Then.n ?_
 refine WP.seq ?_
 refine WP.region ?_
 refine WPL.q (q_as (v := .lit (.bool _)) rfl) rfl ?_
 refine WPL.nilW ?_
 refine W.now ?_
 refine Then.n ?_
 refine WP.seq ?_
 refine WP.seq ?_
 refine WP.region ?_
 refine WPL.q (q_as (v := .lit (.int _ _)) rfl) rfl ?_
 refine WPL.nilW ?_
 refine W.now ?_
 refine Then.n ?_
 refine WP.block ?_
 refine WP.cv (Cv.weak (E' := (((((Env.none.upd 1 (.lit (.int .i64 x1454))).upd 2 (.ptr 0 0)).upd 4 (.ptr 1 0)).upd 6 (.lit (.bool true))).upd 7 (.lit (.int .i64 0)))) (M' := ((Mem.nil.push (.cells 43 [.lit (.int .u64 x1452), .lit (.int .u64 x1453)])).push (.cells 43 [.lit (.int .u64 0), .lit (.int .u64 0)]))) [0, 1] hnp ⟨rfl, ⟨⟨trivial, .inr ⟨rfl, rfl, rfl⟩⟩, .inr ⟨rfl, rfl, rfl⟩⟩, by decide, rfl, trivial⟩ (LeE.upd rfl rfl (LeE.upd rfl rfl (LeE.upd rfl rfl (LeE.upd rfl rfl (LeE.upd rfl rfl (LeE.none rfl rfl))))))) ?_
 obtain ⟨⟨x1563, x1564, x1565⟩, H1590, H⟩ := bnd H
 refine WP.monoW (Q := fun x E M => x = .exit 0 ∧ E = (((Env.none.upd 2 (.ptr 0 0)).upd 4 (.ptr 1 0)).upd 6 (.lit (.bool x1563))) ∧ M = ((Mem.nil.push (.cells 43 [.lit (.int .u64 x1564), .lit (.int .u64 x1565)])).push (.cells 43 [.lit (.int .u64 0), .lit (.int .u64 0)]))) ?_ ?_
 · refine WP.loop (β := Bool × Int × Int × Int) (fun n b => g_dec_wide_tens_l0 k x1454 n b.1 b.2.1 b.2.2.1 b.2.2.2 = some (x1563, x1564, x1565)) (fun b => (((((Env.none.upd 1 (.lit (.int .i64 x1454))).upd 2 (.ptr 0 0)).upd 4 (.ptr 1 0)).upd 6 (.lit (.bool b.1))).upd 7 (.lit (.int .i64 b.2.1)))) (fun b => ((Mem.nil.push (.cells 43 [.lit (.int .u64 b.2.2.1), .lit (.int .u64 b.2.2.2)])).push (.cells 43 [.lit (.int .u64 0), .lit (.int .u64 0)]))) k (true, 0, x1452, x1453) H1590 rfl rfl ?_
   rintro n ⟨x1534, x1535, x1536, x1537⟩ H
   obtain _ | n := n
   · exact nf rfl H
   rw [g_dec_wide_tens_l0.eq_2] at H
   show WP _ _ _ _ (((((Env.none.upd 1 (.lit (.int .i64 x1454))).upd 2 (.ptr 0 0)).upd 4 (.ptr 1 0)).upd 6 (.lit (.bool x1534))).upd 7 (.lit (.int .i64 x1535))) ((Mem.nil.push (.cells 43 [.lit (.int .u64 x1536), .lit (.int .u64 x1537)])).push (.cells 43 [.lit (.int .u64 0), .lit (.int .u64 0)])) _
   refine WP.seq ?_
   refine WP.seq ?_
   obtain ⟨x1581, H1585, H⟩ := bnd H
   refine WP.monoW (Q := fun x E M => x = .normal ∧ E = ((((((Env.none.upd 1 (.lit (.int .i64 x1454))).upd 2 (.ptr 0 0)).upd 4 (.ptr 1 0)).upd 6 (.lit (.bool x1534))).upd 7 (.lit (.int .i64 x1535))).upd 18 (.lit (.bool x1581))) ∧ M = ((Mem.nil.push (.cells 43 [.lit (.int .u64 x1536), .lit (.int .u64 x1537)])).push (.cells 43 [.lit (.int .u64 0), .lit (.int .u64 0)]))) ?_ ?_
   · clear H
     have H := H1585
     clear H1585
     refine WP.region ?_
     refine WPL.q (q_mv (v := .lit (.int _ _)) rfl) rfl ?_
     refine WPL.q (q_mv (v := .lit (.int _ _)) rfl) rfl ?_
     refine WPL.q (q_lss rfl rfl) rfl ?_
     refine WPL.q (q_mv (v := .lit (.bool _)) rfl) rfl ?_
     refine WPL.split (t := 11) (b := (decide (x1535 < x1454))) rfl (fun hb1581 => ?_) (fun hb1581 => ?_)
     · replace H := cnt hb1581 H
       refine WPL.qg rfl rfl (lb hb1581) (q_mv (v := .lit (.bool _)) rfl) rfl ?_
       refine WPL.q (q_pickT (v := .lit (.bool _)) (lb hb1581) rfl) rfl ?_
       refine WPL.q (q_mv (v := .lit (.bool _)) rfl) rfl ?_
       refine WPL.split (t := 14) (b := x1534) rfl (fun hb1582 => ?_) (fun hb1582 => ?_)
       · replace H := cnt hb1582 H
         refine WPL.qg rfl rfl (lb hb1582) (q_load_ag ag43 rfl rfl (Nat.le_of_ble_eq_true rfl)) rfl ?_
         obtain ⟨_, h1583, H⟩ := bnd H
         refine WPL.cg rfl rfl (lb hb1582) (runs_call (s := []) (t := []) (N := 2) (bor := []) fn43 rfl (s_dec_wide_zero k x1536 x1537 h1583) ⟨rfl, trivial, by decide, rfl, trivial⟩ rfl trivial (.ren rfl rfl .nil) rfl trivial rfl) rfl ?_
         obtain ⟨x1585, h1585, H⟩ := bnd H
         refine WPL.qg rfl rfl (lb hb1582) (q_nm (q_not rfl) (nm_bool h1585)) rfl ?_
         refine WPL.q (q_pickT (v := .lit (.bool _)) (lb hb1582) rfl) rfl ?_
         refine WPL.nilW ?_
         have q0 := (Option.some.inj H)
         subst q0
         exact W.wk [0, 1] hnp ⟨rfl, rfl, rfl⟩ ⟨rfl, ⟨⟨trivial, .inr ⟨rfl, rfl, rfl⟩⟩, .inr ⟨rfl, rfl, rfl⟩⟩, by decide, rfl, trivial⟩ (LeE.upd rfl rfl (LeE.upd rfl rfl (LeE.upd rfl rfl (LeE.upd rfl rfl (LeE.upd rfl rfl (LeE.upd rfl rfl (LeE.none rfl rfl))))))) rfl
       replace H := cnf hb1582 H
       refine WPL.skipg (b' := false) rfl rfl (lb hb1582) rfl rfl ?_
       refine WPL.skipg (b' := false) rfl rfl (lb hb1582) rfl rfl ?_
       refine WPL.skipg (b' := false) rfl rfl (lb hb1582) rfl rfl ?_
       refine WPL.q (q_pickF (v := .lit (.bool _)) (lb hb1582) rfl) rfl ?_
       refine WPL.nilW ?_
       have q0 := (Option.some.inj H)
       subst q0
       exact W.wk [0, 1] hnp ⟨rfl, rfl, rfl⟩ ⟨rfl, ⟨⟨trivial, .inr ⟨rfl, rfl, rfl⟩⟩, .inr ⟨rfl, rfl, rfl⟩⟩, by decide, rfl, trivial⟩ (LeE.upd rfl rfl (LeE.upd rfl rfl (LeE.upd rfl rfl (LeE.upd rfl rfl (LeE.upd rfl rfl (LeE.upd rfl rfl (LeE.none rfl rfl))))))) rfl
     replace H := cnf hb1581 H
     refine WPL.skipg (b' := false) rfl rfl (lb hb1581) rfl rfl ?_
     refine WPL.q (q_pickF (v := .lit (.bool _)) (lb hb1581) rfl) rfl ?_
     refine WPL.q (q_mv (v := .lit (.bool _)) rfl) rfl ?_
     refine WPL.skipg (b' := false) rfl rfl rfl rfl rfl ?_
     refine WPL.skipg (b' := false) rfl rfl rfl rfl rfl ?_
     refine WPL.skipg (b' := false) rfl rfl rfl rfl rfl ?_
     refine WPL.q (q_pickF (v := .lit (.bool _)) rfl rfl) rfl ?_
     refine WPL.nilW ?_
     have q0 := (Option.some.inj H)
     subst q0
     exact W.wk [0, 1] hnp ⟨rfl, rfl, rfl⟩ ⟨rfl, ⟨⟨trivial, .inr ⟨rfl, rfl, rfl⟩⟩, .inr ⟨rfl, rfl, rfl⟩⟩, by decide, rfl, trivial⟩ (LeE.upd rfl rfl (LeE.upd rfl rfl (LeE.upd rfl rfl (LeE.upd rfl rfl (LeE.upd rfl rfl (LeE.upd rfl rfl (LeE.none rfl rfl))))))) rfl
   rintro _ _ _ ⟨rfl, rfl, rfl⟩
   refine W.now ?_
   refine Then.n ?_
   refine WP.cond (t := x1581) rfl (fun hb1586 => ?_) (fun hb1586 => ?_)
   · replace H := cnt hb1586 H
     refine WP.skipW ?_
     refine W.now ?_
     refine Then.n ?_
     refine WP.seq ?_
     refine WP.block ?_
     refine WP.region ?_
     refine WPL.q (q_load_ag ag43 rfl rfl (Nat.le_of_ble_eq_true rfl)) rfl ?_
     obtain ⟨⟨x1589, x1590⟩, h1587, H⟩ := bnd H
     refine WPL.c (runs_call (s := []) (t := [2]) (N := 3) (bor := []) fn16 rfl (s_dec_wide_times k x1536 x1537 10 x1589 x1590 h1587) ⟨rfl, trivial, by decide, rfl, trivial⟩ rfl trivial (.ren rfl rfl (.ren rfl rfl .nil)) rfl ⟨trivial, rfl⟩ rfl) rfl ?_
     refine WPL.q (q_mv (v := .tup _) rfl) rfl ?_
     refine WPL.q (q_extract rfl rfl) rfl ?_
     refine WPL.q (q_extract rfl rfl) rfl ?_
     refine WPL.s (s_store sz43 rfl rfl rfl rfl rfl) ?_
     refine WPL.q (q_as (v := .lit (.bool _)) rfl) rfl ?_
     refine WPL.nilW ?_
     refine W.now ?_
     refine InBlock.n ?_
     refine Then.n ?_
     refine WP.region ?_
     refine WPL.q (q_mv (v := .lit (.int _ _)) rfl) rfl ?_
     refine WPL.q (q_add rfl rfl) rfl ?_
     refine WPL.q (q_as (v := .lit (.int _ _)) rfl) rfl ?_
     refine WPL.nilW ?_
     exact W.wk [0, 1] hnp (Then.n ⟨n, (x1589, (IntKind.wrap .i64 (x1535 + 1)), x1590, (IntKind.wrap .u64 (x1537 * 10))), Nat.lt_succ_self n, H, rfl, rfl⟩) ⟨rfl, ⟨⟨trivial, .inr ⟨rfl, rfl, rfl⟩⟩, .inr ⟨rfl, rfl, rfl⟩⟩, by decide, rfl, trivial⟩ (LeE.upd rfl rfl (LeE.upd rfl rfl (LeE.upd rfl rfl (LeE.upd rfl rfl (LeE.upd rfl rfl (LeE.none rfl rfl)))))) rfl
   replace H := cnf hb1586 H
   refine WP.exitW ?_
   have q0 := (Prod.mk.inj (Option.some.inj H)).1
   have q1 := (Prod.mk.inj (Prod.mk.inj (Option.some.inj H)).2).1
   have q2 := (Prod.mk.inj (Prod.mk.inj (Option.some.inj H)).2).2
   subst q0
   subst q1
   subst q2
   exact W.wk [0, 1] hnp (Then.x (Then.x ⟨rfl, rfl, rfl⟩)) ⟨rfl, ⟨⟨trivial, .inr ⟨rfl, rfl, rfl⟩⟩, .inr ⟨rfl, rfl, rfl⟩⟩, by decide, rfl, trivial⟩ (LeE.upd rfl rfl (LeE.upd rfl rfl (LeE.upd rfl rfl (LeE.none rfl rfl)))) rfl
 rintro _ _ _ ⟨rfl, rfl, rfl⟩
 refine W.now ?_
 refine InBlock.x0 ?_
 refine Then.n ?_
 refine WP.seq ?_
 refine WP.region ?_
 refine WPL.q (q_load_ag ag43 rfl rfl (Nat.le_of_ble_eq_true rfl)) rfl ?_
 refine WPL.q (q_mv (v := .lit (.bool _)) rfl) rfl ?_
 refine WPL.s (s_store sz43 rfl rfl rfl rfl rfl) ?_
 refine WPL.q (q_as (v := .lit (.bool _)) rfl) rfl ?_
 refine WPL.nilW ?_
 refine W.now ?_
 refine Then.n ?_
 refine WP.retW ?_
 have q0 := (Prod.mk.inj (Option.some.inj H)).1
 have q1 := (Prod.mk.inj (Prod.mk.inj (Option.some.inj H)).2).1
 have q2 := (Prod.mk.inj (Prod.mk.inj (Option.some.inj H)).2).2
 subst q0
 subst q1
 subst q2
 exact W.now (BodyR.mkR trivial rfl [1] ⟨rfl, rfl⟩ ⟨rfl, ⟨trivial, .inr ⟨rfl, rfl, rfl⟩⟩, by decide, rfl, trivial⟩ rfl rfl)
set_option maxRecDepth 100000 in
set_option maxHeartbeats 4000000 in
theorem s_dec_num_tell (k : Nat) (x1007 : Bool) (x1008 : Int) (x1009 : Int) (x1010 : Int) (x1645 : Int) (x1646 : Int) (x1647 : Int) (H : g_dec_num_tell k x1007 x1008 x1009 x1010 = some (x1645, x1646, x1647)) : Go.Q.Spec Tryd.prog 18 0 [.agg [.lit (.bool x1007), .lit (.int .u64 x1008), .lit (.int .u64 x1009), .lit (.int .i64 x1010)]] Mem.nil (fun o M => o = .ret (.tup [.agg [.lit (.int .i64 x1646), .lit (.int .i64 x1647)], .lit (.int .i64 x1645)]) ∧ M = (Mem.nil.push (.cells 23 [.lit (.int .i64 x1646), .lit (.int .i64 x1647)]))) := by
 unfold g_dec_num_tell at H
 refine Go.Q.Spec.of_bodyR (az := [(23, 2)]) (rs := [.cell 2 23, .tmp 3]) (nt := 89) Tryd.func18 rfl rfl (by intro t T h; simp at h; rcases h with ⟨rfl, rfl⟩ <;> first | exact ag23) rfl rfl fun cx hnp => ?_
 refine WP.seq ?_
 refine WP.region ?_
 refine WPL.d (d_box rfl rfl) rfl ?_
 refine WPL.d (d_alloc ze23 rfl) rfl ?_
 refine WPL.q (q_as (v := .lit (.int _ _)) rfl) rfl ?_
 refine WPL.nilW ?_
 refine W.now ?_
 refine Then.n ?_
 refine WP.seq ?_
 refine WP.seq ?_
 refine WP.region ?_
 refine WPL.q (q_fieldAddr fi48_1 rfl rfl) rfl ?_
 refine WPL.q (q_load_ag ag43 rfl rfl (Nat.le_of_ble_eq_true rfl)) rfl ?_
 obtain ⟨_, h1649, H⟩ := bnd H
 refine WPL.c (runs_call (s := []) (t := []) (N := 2) (bor := []) fn43 rfl (s_dec_wide_zero k x1008 x1009 h1649) ⟨rfl, trivial, by decide, rfl, trivial⟩ rfl trivial (.ren rfl rfl .nil) rfl trivial rfl) rfl ?_
 refine WPL.nilW ?_
 refine W.now ?_
 refine Then.n ?_
 refine WP.cond (t := (decide ((bits .or .u64 x1008 x1009) = 0))) rfl (fun hb1650 => ?_) (fun hb1650 => ?_)
 · replace H := cnt hb1650 H
   refine WP.seq ?_
   refine WP.region ?_
   refine WPL.q (q_build bu23 rfl) rfl ?_
   refine WPL.s (s_store sz23 rfl rfl rfl rfl rfl) ?_
   refine WPL.q (q_as (v := .lit (.int _ _)) rfl) rfl ?_
   refine WPL.nilW ?_
   refine W.now ?_
   refine Then.n ?_
   refine WP.retW ?_
   have q0 := (Prod.mk.inj (Option.some.inj H)).1
   have q1 := (Prod.mk.inj (Prod.mk.inj (Option.some.inj H)).2).1
   have q2 := (Prod.mk.inj (Prod.mk.inj (Option.some.inj H)).2).2
   subst q0
   subst q1
   subst q2
   exact W.now (Then.r (BodyR.mkR trivial rfl [1] ⟨rfl, rfl⟩ ⟨rfl, ⟨trivial, .inr ⟨rfl, rfl, rfl⟩⟩, by decide, rfl, trivial⟩ rfl rfl))
 replace H := cnf hb1650 H
 refine WP.skipW ?_
 refine W.now ?_
 refine Then.n ?_
 refine WP.seq ?_
 refine WP.seq ?_
 refine WP.region ?_
 refine WPL.q (q_fieldAddr fi48_1 rfl rfl) rfl ?_
 refine WPL.q (q_load_ag ag43 rfl rfl (Nat.le_of_ble_eq_true rfl)) rfl ?_
 obtain ⟨⟨x1653, x1654, x1655⟩, h1651, H⟩ := bnd H
 refine WPL.c (runs_call (s := []) (t := [2]) (N := 3) (bor := []) fn44 rfl (s_dec_wide_by k x1008 x1009 10 x1653 x1654 x1655 h1651) ⟨rfl, trivial, by decide, rfl, trivial⟩ rfl trivial (.ren rfl rfl (.ren rfl rfl .nil)) rfl ⟨trivial, rfl⟩ rfl) rfl ?_
 refine WPL.q (q_mv (v := .tup _) rfl) rfl ?_
 refine WPL.q (q_extract rfl rfl) rfl ?_
 refine WPL.q (q_extract rfl rfl) rfl ?_
 refine WPL.d (d_alloc ze43 rfl) rfl ?_
 refine WPL.s (s_store sz43 rfl rfl rfl rfl rfl) ?_
 refine WPL.q (q_as (v := .lit (.int _ _)) rfl) rfl ?_
 refine WPL.nilW ?_
 refine W.now ?_
 refine Then.n ?_
 refine WP.block ?_
 refine WP.cv (Cv.weak (E' := ((((Env.none.upd 1 (.ptr 0 0)).upd 2 (.ptr 1 0)).upd 4 (.ptr 2 0)).upd 5 (.lit (.int .u64 x1653)))) (M' := (((Mem.nil.push (.cells 48 [.lit (.bool x1007), .lit (.int .u64 x1008), .lit (.int .u64 x1009), .lit (.int .i64 x1010)])).push (.cells 23 [.lit (.int .i64 0), .lit (.int .i64 0)])).push (.cells 43 [.lit (.int .u64 x1654), .lit (.int .u64 x1655)]))) [0, 1, 3] hnp ⟨rfl, ⟨⟨⟨trivial, .inr ⟨rfl, rfl, rfl⟩⟩, .inr ⟨rfl, rfl, rfl⟩⟩, .inr ⟨rfl, rfl, rfl⟩⟩, by decide, rfl, trivial⟩ (LeE.upd rfl rfl (LeE.upd rfl rfl (LeE.upd rfl rfl (LeE.upd rfl rfl (LeE.none rfl rfl)))))) ?_
 obtain ⟨⟨x1674, x1675, x1676⟩, H1682, H⟩ := bnd H
 refine WP.monoW (Q := fun x E M => x = .exit 0 ∧ E = ((Env.none.upd 1 (.ptr 0 0)).upd 2 (.ptr 1 0)) ∧ M = ((Mem.nil.push (.cells 48 [.lit (.bool x1007), .lit (.int .u64 x1674), .lit (.int .u64 x1675), .lit (.int .i64 x1676)])).push (.cells 23 [.lit (.int .i64 0), .lit (.int .i64 0)]))) ?_ ?_
 · refine WP.loop (β := Int × Int × Int × Int × Int × Int) (fun n b => g_dec_num_tell_l0 k n b.1 b.2.1 b.2.2.1 b.2.2.2.1 b.2.2.2.2.1 b.2.2.2.2.2 = some (x1674, x1675, x1676)) (fun b => ((((Env.none.upd 1 (.ptr 0 0)).upd 2 (.ptr 1 0)).upd 4 (.ptr 2 0)).upd 5 (.lit (.int .u64 b.1)))) (fun b => (((Mem.nil.push (.cells 48 [.lit (.bool x1007), .lit (.int .u64 b.2.1), .lit (.int .u64 b.2.2.1), .lit (.int .i64 b.2.2.2.1)])).push (.cells 23 [.lit (.int .i64 0), .lit (.int .i64 0)])).push (.cells 43 [.lit (.int .u64 b.2.2.2.2.1), .lit (.int .u64 b.2.2.2.2.2)]))) k (x1653, x1008, x1009, x1010, x1654, x1655) H1682 rfl rfl ?_
   rintro n ⟨x1662, x1663, x1664, x1665, x1666, x1667⟩ H
   obtain _ | n := n
   · exact nf rfl H
   rw [g_dec_num_tell_l0.eq_2] at H
   show WP _ _ _ _ ((((Env.none.upd 1 (.ptr 0 0)).upd 2 (.ptr 1 0)).upd 4 (.ptr 2 0)).upd 5 (.lit (.int .u64 x1662))) (((Mem.nil.push (.cells 48 [.lit (.bool x1007), .lit (.int .u64 x1663), .lit (.int .u64 x1664), .lit (.int .i64 x1665)])).push (.cells 23 [.lit (.int .i64 0), .lit (.int .i64 0)])).push (.cells 43 [.lit (.int .u64 x1666), .lit (.int .u64 x1667)])) _
   refine WP.seq ?_
   refine WP.seq ?_
   refine WP.region ?_
   refine WPL.q (q_mv (v := .lit (.int _ _)) rfl) rfl ?_
   refine WPL.q (q_eql rfl rfl) rfl ?_
   refine WPL.nilW ?_
   refine W.now ?_
   refine Then.n ?_
   refine WP.cond (t := (decide (x1662 = 0))) rfl (fun hb1677 => ?_) (fun hb1677 => ?_)
   · replace H := cnt hb1677 H
     refine WP.skipW ?_
     refine W.now ?_
     refine Then.n ?_
     refine WP.seq ?_
     refine WP.block ?_
     refine WP.seq ?_
     refine WP.region ?_
     refine WPL.q (q_load_ag ag43 rfl rfl (Nat.le_of_ble_eq_true rfl)) rfl ?_
     refine WPL.q (q_fieldAddr fi48_1 rfl rfl) rfl ?_
     refine WPL.s (s_store sz43 rfl rfl rfl rfl rfl) ?_
     refine WPL.nilW ?_
     refine W.now ?_
     refine Then.n ?_
     refine WP.region ?_
     refine WPL.q (q_fieldAddr fi48_2 rfl rfl) rfl ?_
     refine WPL.q (q_load sc3 rfl rfl rfl) rfl ?_
     refine WPL.q (q_add rfl rfl) rfl ?_
     refine WPL.q (q_fieldAddr fi48_2 rfl rfl) rfl ?_
     refine WPL.s (s_store sz3 rfl rfl rfl rfl rfl) ?_
     refine WPL.nilW ?_
     refine W.now ?_
     refine InBlock.n ?_
     refine Then.n ?_
     refine WP.seq ?_
     refine WP.seq ?_
     refine WP.region ?_
     refine WPL.q (q_load_ag ag43 rfl rfl (Nat.le_of_ble_eq_true rfl)) rfl ?_
     refine WPL.nilW ?_
     refine W.now ?_
     refine Then.n ?_
     refine WP.region ?_
     refine WPL.d (d_alloc ze43 rfl) rfl ?_
     refine WPL.s (s_store sz43 rfl rfl rfl rfl rfl) ?_
     refine WPL.nilW ?_
     refine W.now ?_
     refine Then.n ?_
     refine WP.region ?_
     refine WPL.q (q_fieldAddr fi48_1 rfl rfl) rfl ?_
     refine WPL.q (q_load_ag ag43 rfl rfl (Nat.le_of_ble_eq_true rfl)) rfl ?_
     obtain ⟨⟨x1680, x1681, x1682⟩, h1678, H⟩ := bnd H
     refine WPL.c (runs_call (s := []) (t := [4]) (N := 5) (bor := []) fn44 rfl (s_dec_wide_by k x1666 x1667 10 x1680 x1681 x1682 h1678) ⟨rfl, trivial, by decide, rfl, trivial⟩ rfl trivial (.ren rfl rfl (.ren rfl rfl .nil)) rfl ⟨trivial, rfl⟩ rfl) rfl ?_
     refine WPL.q (q_mv (v := .tup _) rfl) rfl ?_
     refine WPL.q (q_extract rfl rfl) rfl ?_
     refine WPL.q (q_extract rfl rfl) rfl ?_
     refine WPL.s (s_store sz43 rfl rfl rfl rfl rfl) ?_
     refine WPL.q (q_as (v := .lit (.int _ _)) rfl) rfl ?_
     refine WPL.nilW ?_
     exact W.wk [0, 1, 3] hnp (Then.n ⟨n, (x1680, x1666, x1667, (IntKind.wrap .i64 (x1665 + 1)), x1681, x1682), Nat.lt_succ_self n, H, rfl, rfl⟩) ⟨rfl, ⟨⟨⟨trivial, .inr ⟨rfl, rfl, rfl⟩⟩, .inr ⟨rfl, rfl, rfl⟩⟩, .inr ⟨rfl, rfl, rfl⟩⟩, by decide, rfl, trivial⟩ (LeE.upd rfl rfl (LeE.upd rfl rfl (LeE.upd rfl rfl (LeE.upd rfl rfl (LeE.none rfl rfl))))) rfl
   replace H := cnf hb1677 H
   refine WP.exitW ?_
   have q0 := (Prod.mk.inj (Option.some.inj H)).1
   have q1 := (Prod.mk.inj (Prod.mk.inj (Option.some.inj H)).2).1
   have q2 := (Prod.mk.inj (Prod.mk.inj (Option.some.inj H)).2).2
   subst q0
   subst q1
   subst q2
   exact W.wk [0, 1] hnp (Then.x (Then.x ⟨rfl, rfl, rfl⟩)) ⟨rfl, ⟨⟨trivial, .inr ⟨rfl, rfl, rfl⟩⟩, .inr ⟨rfl, rfl, rfl⟩⟩, by decide, rfl, trivial⟩ (LeE.upd rfl rfl (LeE.upd rfl rfl (LeE.none rfl rfl))) rfl
 rintro _ _ _ ⟨rfl, rfl, rfl⟩
 refine W.now ?_
 refine InBlock.x0 ?_
 refine Then.n ?_
 refine WP.seq ?_
 refine WP.region ?_
 refine WPL.q (q_as (v := .lit (.bool _)) rfl) rfl ?_
 refine WPL.nilW ?_
 refine W.now ?_
 refine Then.n ?_
 refine WP.seq ?_
 obtain ⟨⟨x1694, x1695, x1696, x1697⟩, H1707, H⟩ := bnd H
 refine WP.monoW (Q := fun x E M => x = .normal ∧ E = (((Env.none.upd 1 (.ptr 0 0)).upd 2 (.ptr 1 0)).upd 6 (.lit (.bool x1694))) ∧ M = ((Mem.nil.push (.cells 48 [.lit (.bool x1007), .lit (.int .u64 x1695), .lit (.int .u64 x1696), .lit (.int .i64 x1697)])).push (.cells 23 [.lit (.int .i64 0), .lit (.int .i64 0)]))) ?_ ?_
 · clear H
   have H := H1707
   clear H1707
   refine WP.seq ?_
   refine WP.region ?_
   refine WPL.q (q_fieldAddr fi48_2 rfl rfl) rfl ?_
   refine WPL.q (q_load sc3 rfl rfl rfl) rfl ?_
   refine WPL.q (q_gtr rfl rfl) rfl ?_
   refine WPL.nilW ?_
   refine W.now ?_
   refine Then.n ?_
   refine WP.cond (t := (decide (18 < x1676))) rfl (fun hb1697 => ?_) (fun hb1697 => ?_)
   · replace H := cnt hb1697 H
     refine WP.seq ?_
     refine WP.region ?_
     refine WPL.q (q_fieldAddr fi48_1 rfl rfl) rfl ?_
     refine WPL.q (q_load_ag ag43 rfl rfl (Nat.le_of_ble_eq_true rfl)) rfl ?_
     refine WPL.q (q_fieldAddr fi48_2 rfl rfl) rfl ?_
     refine WPL.q (q_load sc3 rfl rfl rfl) rfl ?_
     refine WPL.q (q_sub rfl rfl) rfl ?_
     obtain ⟨x1699, h1699, H⟩ := bnd H
     refine WPL.q (q_nm (q_min rfl rfl) (nm_int h1699)) rfl ?_
     obtain ⟨⟨x1701, x1702, x1703⟩, h1699, H⟩ := bnd H
     refine WPL.c (runs_call (s := []) (t := [2]) (N := 3) (bor := []) fn45 rfl (s_dec_wide_tens k x1674 x1675 x1699 x1701 x1702 x1703 h1699) ⟨rfl, trivial, by decide, rfl, trivial⟩ rfl trivial (.ren rfl rfl (.ren rfl rfl .nil)) rfl ⟨trivial, rfl⟩ rfl) rfl ?_
     refine WPL.q (q_mv (v := .tup _) rfl) rfl ?_
     refine WPL.q (q_extract rfl rfl) rfl ?_
     refine WPL.q (q_extract rfl rfl) rfl ?_
     refine WPL.q (q_fieldAddr fi48_1 rfl rfl) rfl ?_
     refine WPL.s (s_store sz43 rfl rfl rfl rfl rfl) ?_
     refine WPL.q (q_as (v := .lit (.bool _)) rfl) rfl ?_
     refine WPL.nilW ?_
     refine W.now ?_
     refine Then.n ?_
     refine WP.seq ?_
     obtain ⟨x1705, H1706, H⟩ := bnd H
     refine WP.monoW (Q := fun x E M => x = .normal ∧ E = (((Env.none.upd 1 (.ptr 0 0)).upd 2 (.ptr 1 0)).upd 6 (.lit (.bool x1705))) ∧ M = ((Mem.nil.push (.cells 48 [.lit (.bool x1007), .lit (.int .u64 x1702), .lit (.int .u64 x1703), .lit (.int .i64 x1676)])).push (.cells 23 [.lit (.int .i64 0), .lit (.int .i64 0)]))) ?_ ?_
     · clear H
       have H := H1706
       clear H1706
       refine WP.seq ?_
       refine WP.region ?_
       refine WPL.q (q_fieldAddr fi48_2 rfl rfl) rfl ?_
       refine WPL.q (q_load sc3 rfl rfl rfl) rfl ?_
       refine WPL.q (q_gtr rfl rfl) rfl ?_
       refine WPL.nilW ?_
       refine W.now ?_
       refine Then.n ?_
       refine WP.cond (t := (decide (58 < x1676))) rfl (fun hb1705 => ?_) (fun hb1705 => ?_)
       · replace H := cnt hb1705 H
         refine WP.region ?_
         refine WPL.q (q_as (v := .lit (.bool _)) rfl) rfl ?_
         refine WPL.nilW ?_
         have q0 := (Option.some.inj H)
         subst q0
         exact W.wk [0, 1] hnp ⟨rfl, rfl, rfl⟩ ⟨rfl, ⟨⟨trivial, .inr ⟨rfl, rfl, rfl⟩⟩, .inr ⟨rfl, rfl, rfl⟩⟩, by decide, rfl, trivial⟩ (LeE.upd rfl rfl (LeE.upd rfl rfl (LeE.upd rfl rfl (LeE.none rfl rfl)))) rfl
       replace H := cnf hb1705 H
       refine WP.skipW ?_
       have q0 := (Option.some.inj H)
       subst q0
       exact W.wk [0, 1] hnp ⟨rfl, rfl, rfl⟩ ⟨rfl, ⟨⟨trivial, .inr ⟨rfl, rfl, rfl⟩⟩, .inr ⟨rfl, rfl, rfl⟩⟩, by decide, rfl, trivial⟩ (LeE.upd rfl rfl (LeE.upd rfl rfl (LeE.upd rfl rfl (LeE.none rfl rfl)))) rfl
     rintro _ _ _ ⟨rfl, rfl, rfl⟩
     refine W.now ?_
     refine Then.n ?_
     refine WP.region ?_
     refine WPL.q (q_fieldAddr fi48_2 rfl rfl) rfl ?_
     refine WPL.s (s_store sz3 rfl rfl rfl rfl rfl) ?_
     refine WPL.nilW ?_
     have q0 := (Prod.mk.inj (Option.some.inj H)).1
     have q1 := (Prod.mk.inj (Prod.mk.inj (Option.some.inj H)).2).1
     have q2 := (Prod.mk.inj (Prod.mk.inj (Prod.mk.inj (Option.some.inj H)).2).2).1
     have q3 := (Prod.mk.inj (Prod.mk.inj (Prod.mk.inj (Option.some.inj H)).2).2).2
     subst q0
     subst q1
     subst q2
     subst q3
     exact W.wk [0, 1] hnp ⟨rfl, rfl, rfl⟩ ⟨rfl, ⟨⟨trivial, .inr ⟨rfl, rfl, rfl⟩⟩, .inr ⟨rfl, rfl, rfl⟩⟩, by decide, rfl, trivial⟩ (LeE.upd rfl rfl (LeE.upd rfl rfl (LeE.upd rfl rfl (LeE.none rfl rfl)))) rfl
   replace H := cnf hb1697 H
   refine WP.skipW ?_
   have q0 := (Prod.mk.inj (Option.some.inj H)).1
   have q1 := (Prod.mk.inj (Prod.mk.inj (Option.some.inj H)).2).1
   have q2 := (Prod.mk.inj (Prod.mk.inj (Prod.mk.inj (Option.some.inj H)).2).2).1
   have q3 := (Prod.mk.inj (Prod.mk.inj (Prod.mk.inj (Option.some.inj H)).2).2).2
   subst q0
   subst q1
   subst q2
   subst q3
   exact W.wk [0, 1] hnp ⟨rfl, rfl, rfl⟩ ⟨rfl, ⟨⟨trivial, .inr ⟨rfl, rfl, rfl⟩⟩, .inr ⟨rfl, rfl, rfl⟩⟩, by decide, rfl, trivial⟩ (LeE.upd rfl rfl (LeE.upd rfl rfl (LeE.upd rfl rfl (LeE.none rfl rfl)))) rfl
 rintro _ _ _ ⟨rfl, rfl, rfl⟩
 refine W.now ?_
 refine Then.n ?_
 refine WP.seq ?_
 refine WP.region ?_
 refine WPL.q (q_as (v := .lit (.int _ _)) rfl) rfl ?_
 refine WPL.nilW ?_
 refine W.now ?_
 refine Then.n ?_
 refine WP.seq ?_
 obtain ⟨x1711, H1713, H⟩ := bnd H
 refine WP.monoW (Q := fun x E M => x = .normal ∧ E = ((((Env.none.upd 1 (.ptr 0 0)).upd 2 (.ptr 1 0)).upd 6 (.lit (.bool x1694))).upd 7 (.lit (.int .u64 x1711))) ∧ M = ((Mem.nil.push (.cells 48 [.lit (.bool x1007), .lit (.int .u64 x1695), .lit (.int .u64 x1696), .lit (.int .i64 x1697)])).push (.cells 23 [.lit (.int .i64 0), .lit (.int .i64 0)]))) ?_ ?_
 · clear H
   have H := H1713
   clear H1713
   refine WP.seq ?_
   refine WP.region ?_
   refine WPL.q (q_fieldAddr fi48_0 rfl rfl) rfl ?_
   refine WPL.q (q_load sc4 rfl rfl rfl) rfl ?_
   refine WPL.nilW ?_
   refine W.now ?_
   refine Then.n ?_
   refine WP.cond (t := x1007) rfl (fun hb1711 => ?_) (fun hb1711 => ?_)
   · replace H := cnt hb1711 H
     refine WP.region ?_
     refine WPL.q (q_mv (v := .lit (.int _ _)) rfl) rfl ?_
     obtain ⟨x1713, h1713, H⟩ := bnd H
     refine WPL.q (q_nm (q_add rfl rfl) (nm_int h1713)) rfl ?_
     refine WPL.q (q_as (v := .lit (.int _ _)) rfl) rfl ?_
     refine WPL.nilW ?_
     have q0 := (Option.some.inj H)
     subst q0
     exact W.wk [0, 1] hnp ⟨rfl, rfl, rfl⟩ ⟨rfl, ⟨⟨trivial, .inr ⟨rfl, rfl, rfl⟩⟩, .inr ⟨rfl, rfl, rfl⟩⟩, by decide, rfl, trivial⟩ (LeE.upd rfl rfl (LeE.upd rfl rfl (LeE.upd rfl rfl (LeE.upd rfl rfl (LeE.none rfl rfl))))) rfl
   replace H := cnf hb1711 H
   refine WP.skipW ?_
   have q0 := (Option.some.inj H)
   subst q0
   exact W.wk [0, 1] hnp ⟨rfl, rfl, rfl⟩ ⟨rfl, ⟨⟨trivial, .inr ⟨rfl, rfl, rfl⟩⟩, .inr ⟨rfl, rfl, rfl⟩⟩, by decide, rfl, trivial⟩ (LeE.upd rfl rfl (LeE.upd rfl rfl (LeE.upd rfl rfl (LeE.upd rfl rfl (LeE.none rfl rfl))))) rfl
 rintro _ _ _ ⟨rfl, rfl, rfl⟩
 refine W.now ?_
 refine Then.n ?_
 refine WP.seq ?_
 refine WP.seq ?_
 obtain ⟨x1727, H1730, H⟩ := bnd H
 refine WP.monoW (Q := fun x E M => x = .normal ∧ E = (((Env.none.upd 1 (.ptr 0 0)).upd 2 (.ptr 1 0)).upd 75 (.lit (.bool x1727))) ∧ M = ((Mem.nil.push (.cells 48 [.lit (.bool x1007), .lit (.int .u64 x1695), .lit (.int .u64 x1696), .lit (.int .i64 x1697)])).push (.cells 23 [.lit (.int .i64 0), .lit (.int .i64 0)]))) ?_ ?_
 · clear H
   have H := H1730
   clear H1730
   refine WP.region ?_
   refine WPL.q (q_mv (v := .lit (.bool _)) rfl) rfl ?_
   refine WPL.q (q_not rfl) rfl ?_
   refine WPL.q (q_mv (v := .lit (.bool _)) rfl) rfl ?_
   refine WPL.split (t := 58) (b := (!x1694)) rfl (fun hb1727 => ?_) (fun hb1727 => ?_)
   · replace H := cnt hb1727 H
     refine WPL.skipg (b' := true) rfl rfl (lb hb1727) rfl rfl ?_
     refine WPL.skipg (b' := true) rfl rfl (lb hb1727) rfl rfl ?_
     refine WPL.skipg (b' := true) rfl rfl (lb hb1727) rfl rfl ?_
     refine WPL.q (q_pickT (v := .lit (.bool _)) (lb hb1727) rfl) rfl ?_
     refine WPL.q (q_mv (v := .lit (.bool _)) rfl) rfl ?_
     refine WPL.skipg (b' := true) rfl rfl rfl rfl rfl ?_
     refine WPL.skipg (b' := true) rfl rfl rfl rfl rfl ?_
     refine WPL.skipg (b' := true) rfl rfl rfl rfl rfl ?_
     refine WPL.skipg (b' := true) rfl rfl rfl rfl rfl ?_
     refine WPL.q (q_pickT (v := .lit (.bool _)) rfl rfl) rfl ?_
     refine WPL.q (q_mv (v := .lit (.bool _)) rfl) rfl ?_
     refine WPL.skipg (b' := true) rfl rfl rfl rfl rfl ?_
     refine WPL.skipg (b' := true) rfl rfl rfl rfl rfl ?_
     refine WPL.skipg (b' := true) rfl rfl rfl rfl rfl ?_
     refine WPL.skipg (b' := true) rfl rfl rfl rfl rfl ?_
     refine WPL.skipg (b' := true) rfl rfl rfl rfl rfl ?_
     refine WPL.q (q_pickT (v := .lit (.bool _)) rfl rfl) rfl ?_
     refine WPL.nilW ?_
     have q0 := (Option.some.inj H)
     subst q0
     exact W.wk [0, 1] hnp ⟨rfl, rfl, rfl⟩ ⟨rfl, ⟨⟨trivial, .inr ⟨rfl, rfl, rfl⟩⟩, .inr ⟨rfl, rfl, rfl⟩⟩, by decide, rfl, trivial⟩ (LeE.upd rfl rfl (LeE.upd rfl rfl (LeE.upd rfl rfl (LeE.none rfl rfl)))) rfl
   replace H := cnf hb1727 H
   refine WPL.qg rfl rfl (lb hb1727) (q_fieldAddr fi48_2 rfl rfl) rfl ?_
   refine WPL.qg rfl rfl (lb hb1727) (q_load sc3 rfl rfl rfl) rfl ?_
   refine WPL.qg rfl rfl (lb hb1727) (q_lss rfl rfl) rfl ?_
   refine WPL.q (q_pickF (v := .lit (.bool _)) (lb hb1727) rfl) rfl ?_
   refine WPL.q (q_mv (v := .lit (.bool _)) rfl) rfl ?_
   refine WPL.split (t := 63) (b := (decide (x1697 < (-18)))) rfl (fun hb1728 => ?_) (fun hb1728 => ?_)
   · replace H := cnt hb1728 H
     refine WPL.skipg (b' := true) rfl rfl (lb hb1728) rfl rfl ?_
     refine WPL.skipg (b' := true) rfl rfl (lb hb1728) rfl rfl ?_
     refine WPL.skipg (b' := true) rfl rfl (lb hb1728) rfl rfl ?_
     refine WPL.skipg (b' := true) rfl rfl (lb hb1728) rfl rfl ?_
     refine WPL.q (q_pickT (v := .lit (.bool _)) (lb hb1728) rfl) rfl ?_
     refine WPL.q (q_mv (v := .lit (.bool _)) rfl) rfl ?_
     refine WPL.skipg (b' := true) rfl rfl rfl rfl rfl ?_
     refine WPL.skipg (b' := true) rfl rfl rfl rfl rfl ?_
     refine WPL.skipg (b' := true) rfl rfl rfl rfl rfl ?_
     refine WPL.skipg (b' := true) rfl rfl rfl rfl rfl ?_
     refine WPL.skipg (b' := true) rfl rfl rfl rfl rfl ?_
     refine WPL.q (q_pickT (v := .lit (.bool _)) rfl rfl) rfl ?_
     refine WPL.nilW ?_
     have q0 := (Option.some.inj H)
     subst q0
     exact W.wk [0, 1] hnp ⟨rfl, rfl, rfl⟩ ⟨rfl, ⟨⟨trivial, .inr ⟨rfl, rfl, rfl⟩⟩, .inr ⟨rfl, rfl, rfl⟩⟩, by decide, rfl, trivial⟩ (LeE.upd rfl rfl (LeE.upd rfl rfl (LeE.upd rfl rfl (LeE.none rfl rfl)))) rfl
   replace H := cnf hb1728 H
   refine WPL.qg rfl rfl (lb hb1728) (q_fieldAddr fi48_1 rfl rfl) rfl ?_
   refine WPL.qg rfl rfl (lb hb1728) (q_fieldAddr fi43_0 rfl rfl) rfl ?_
   refine WPL.qg rfl rfl (lb hb1728) (q_load sc41 rfl rfl rfl) rfl ?_
   refine WPL.qg rfl rfl (lb hb1728) (q_gtr rfl rfl) rfl ?_
   refine WPL.q (q_pickF (v := .lit (.bool _)) (lb hb1728) rfl) rfl ?_
   refine WPL.q (q_mv (v := .lit (.bool _)) rfl) rfl ?_
   refine WPL.split (t := 69) (b := (decide (0 < x1695))) rfl (fun hb1729 => ?_) (fun hb1729 => ?_)
   · replace H := cnt hb1729 H
     refine WPL.skipg (b' := true) rfl rfl (lb hb1729) rfl rfl ?_
     refine WPL.skipg (b' := true) rfl rfl (lb hb1729) rfl rfl ?_
     refine WPL.skipg (b' := true) rfl rfl (lb hb1729) rfl rfl ?_
     refine WPL.skipg (b' := true) rfl rfl (lb hb1729) rfl rfl ?_
     refine WPL.skipg (b' := true) rfl rfl (lb hb1729) rfl rfl ?_
     refine WPL.q (q_pickT (v := .lit (.bool _)) (lb hb1729) rfl) rfl ?_
     refine WPL.nilW ?_
     have q0 := (Option.some.inj H)
     subst q0
     exact W.wk [0, 1] hnp ⟨rfl, rfl, rfl⟩ ⟨rfl, ⟨⟨trivial, .inr ⟨rfl, rfl, rfl⟩⟩, .inr ⟨rfl, rfl, rfl⟩⟩, by decide, rfl, trivial⟩ (LeE.upd rfl rfl (LeE.upd rfl rfl (LeE.upd rfl rfl (LeE.none rfl rfl)))) rfl
   replace H := cnf hb1729 H
   refine WPL.qg rfl rfl (lb hb1729) (q_fieldAddr fi48_1 rfl rfl) rfl ?_
   refine WPL.qg rfl rfl (lb hb1729) (q_fieldAddr fi43_1 rfl rfl) rfl ?_
   refine WPL.qg rfl rfl (lb hb1729) (q_load sc41 rfl rfl rfl) rfl ?_
   refine WPL.qg rfl rfl (lb hb1729) (q_mv (v := .lit (.int _ _)) rfl) rfl ?_
   refine WPL.qg rfl rfl (lb hb1729) (q_gtr rfl rfl) rfl ?_
   refine WPL.q (q_pickF (v := .lit (.bool _)) (lb hb1729) rfl) rfl ?_
   refine WPL.nilW ?_
   have q0 := (Option.some.inj H)
   subst q0
   exact W.wk [0, 1] hnp ⟨rfl, rfl, rfl⟩ ⟨rfl, ⟨⟨trivial, .inr ⟨rfl, rfl, rfl⟩⟩, .inr ⟨rfl, rfl, rfl⟩⟩, by decide, rfl, trivial⟩ (LeE.upd rfl rfl (LeE.upd rfl rfl (LeE.upd rfl rfl (LeE.none rfl rfl)))) rfl
 rintro _ _ _ ⟨rfl, rfl, rfl⟩
 refine W.now ?_
 refine Then.n ?_
 refine WP.cond (t := x1727) rfl (fun hb1731 => ?_) (fun hb1731 => ?_)
 · replace H := cnt hb1731 H
   refine WP.seq ?_
   refine WP.region ?_
   refine WPL.q (q_build bu23 rfl) rfl ?_
   refine WPL.s (s_store sz23 rfl rfl rfl rfl rfl) ?_
   refine WPL.q (q_as (v := .lit (.int _ _)) rfl) rfl ?_
   refine WPL.nilW ?_
   refine W.now ?_
   refine Then.n ?_
   refine WP.retW ?_
   have q0 := (Prod.mk.inj (Option.some.inj H)).1
   have q1 := (Prod.mk.inj (Prod.mk.inj (Option.some.inj H)).2).1
   have q2 := (Prod.mk.inj (Prod.mk.inj (Option.some.inj H)).2).2
   subst q0
   subst q1
   subst q2
   exact W.now (Then.r (BodyR.mkR trivial rfl [1] ⟨rfl, rfl⟩ ⟨rfl, ⟨trivial, .inr ⟨rfl, rfl, rfl⟩⟩, by decide, rfl, trivial⟩ rfl rfl))
 replace H := cnf hb1731 H
 refine WP.skipW ?_
 refine W.now ?_
 refine Then.n ?_
 refine WP.seq ?_
 refine WP.region ?_
 refine WPL.q (q_fieldAddr fi48_1 rfl rfl) rfl ?_
 refine WPL.q (q_fieldAddr fi43_1 rfl rfl) rfl ?_
 refine WPL.q (q_load sc41 rfl rfl rfl) rfl ?_
 refine WPL.q (q_conv Tryd.underlying41 Tryd.underlying2 rfl) rfl ?_
 refine WPL.q (q_as (v := .lit (.int _ _)) rfl) rfl ?_
 refine WPL.nilW ?_
 refine W.now ?_
 refine Then.n ?_
 refine WP.seq ?_
 obtain ⟨x1735, H1737, H⟩ := bnd H
 refine WP.monoW (Q := fun x E M => x = .normal ∧ E = (((Env.none.upd 1 (.ptr 0 0)).upd 2 (.ptr 1 0)).upd 8 (.lit (.int .i64 x1735))) ∧ M = ((Mem.nil.push (.cells 48 [.lit (.bool x1007), .lit (.int .u64 x1695), .lit (.int .u64 x1696), .lit (.int .i64 x1697)])).push (.cells 23 [.lit (.int .i64 0), .lit (.int .i64 0)]))) ?_ ?_
 · clear H
   have H := H1737
   clear H1737
   refine WP.seq ?_
   refine WP.region ?_
   refine WPL.q (q_fieldAddr fi48_0 rfl rfl) rfl ?_
   refine WPL.q (q_load sc4 rfl rfl rfl) rfl ?_
   refine WPL.nilW ?_
   refine W.now ?_
   refine Then.n ?_
   refine WP.cond (t := x1007) rfl (fun hb1735 => ?_) (fun hb1735 => ?_)
   · replace H := cnt hb1735 H
     refine WP.region ?_
     refine WPL.q (q_mv (v := .lit (.int _ _)) rfl) rfl ?_
     obtain ⟨x1737, h1737, H⟩ := bnd H
     refine WPL.q (q_nm (q_neg rfl) (nm_int h1737)) rfl ?_
     refine WPL.q (q_as (v := .lit (.int _ _)) rfl) rfl ?_
     refine WPL.nilW ?_
     have q0 := (Option.some.inj H)
     subst q0
     exact W.wk [0, 1] hnp ⟨rfl, rfl, rfl⟩ ⟨rfl, ⟨⟨trivial, .inr ⟨rfl, rfl, rfl⟩⟩, .inr ⟨rfl, rfl, rfl⟩⟩, by decide, rfl, trivial⟩ (LeE.upd rfl rfl (LeE.upd rfl rfl (LeE.upd rfl rfl (LeE.none rfl rfl)))) rfl
   replace H := cnf hb1735 H
   refine WP.skipW ?_
   have q0 := (Option.some.inj H)
   subst q0
   exact W.wk [0, 1] hnp ⟨rfl, rfl, rfl⟩ ⟨rfl, ⟨⟨trivial, .inr ⟨rfl, rfl, rfl⟩⟩, .inr ⟨rfl, rfl, rfl⟩⟩, by decide, rfl, trivial⟩ (LeE.upd rfl rfl (LeE.upd rfl rfl (LeE.upd rfl rfl (LeE.none rfl rfl)))) rfl
 rintro _ _ _ ⟨rfl, rfl, rfl⟩
 refine W.now ?_
 refine Then.n ?_
 refine WP.seq ?_
 refine WP.region ?_
 refine WPL.q (q_mv (v := .lit (.int _ _)) rfl) rfl ?_
 refine WPL.q (q_fieldAddr fi48_2 rfl rfl) rfl ?_
 refine WPL.q (q_load sc3 rfl rfl rfl) rfl ?_
 refine WPL.q (q_build bu23 rfl) rfl ?_
 refine WPL.s (s_store sz23 rfl rfl rfl rfl rfl) ?_
 refine WPL.q (q_as (v := .lit (.int _ _)) rfl) rfl ?_
 refine WPL.nilW ?_
 refine W.now ?_
 refine Then.n ?_
 refine WP.retW ?_
 have q0 := (Prod.mk.inj (Option.some.inj H)).1
 have q1 := (Prod.mk.inj (Prod.mk.inj (Option.some.inj H)).2).1
 have q2 := (Prod.mk.inj (Prod.mk.inj (Option.some.inj H)).2).2
 subst q0
 subst q1
 subst q2
 exact W.now (BodyR.mkR trivial rfl [1] ⟨rfl, rfl⟩ ⟨rfl, ⟨trivial, .inr ⟨rfl, rfl, rfl⟩⟩, by decide, rfl, trivial⟩ rfl rfl)
end Go.Proofs.YtdbeblgfccjbgaaDoor.W
