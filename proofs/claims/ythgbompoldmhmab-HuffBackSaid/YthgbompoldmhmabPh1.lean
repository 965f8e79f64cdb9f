/- Right lengths and their codes. -/
import Derived.Test.YthgbompoldmhmabFm
import Derived.Test.YthgbompoldmhmabQs
import Derived.KernelRfl
namespace Go.Proofs.Ythgbompoldmhmab.W
open Go Go.Q Go.Proofs
set_option linter.unusedVariables false
set_option linter.unusedSimpArgs false

/-- What a length takes of the room. -/
def wt (x : Int) : Int := if 0 < x then 2 ^ (15 - x.toNat) else 0
def there (x : Int) : Int := if 0 < x then 1 else 0
def sumW : List Int → Int
  | [] => 0
  | x :: l => wt x + sumW l
def cntL : List Int → Int
  | [] => 0
  | x :: l => there x + cntL l
def badX (x : Int) : Prop := x < 0 ∨ 15 < x
instance (x : Int) : Decidable (badX x) := by unfold badX; infer_instance
def badL (l : List Int) : Prop := ∃ x ∈ l, badX x
instance (l : List Int) : Decidable (badL l) := by unfold badL; infer_instance
theorem pow15 {x : Int} (h0 : 0 < x) (h1 : x ≤ 15) : 1 ≤ (2 : Int) ^ (15 - x.toNat) ∧ (2 : Int) ^ (15 - x.toNat) ≤ 16384 := by
  have : ∃ n : Nat, x.toNat = n ∧ 1 ≤ n ∧ n ≤ 15 := ⟨x.toNat, rfl, by omega, by omega⟩
  obtain ⟨n, hn, h2, h3⟩ := this
  rw [hn]
  obtain rfl | rfl | rfl | rfl | rfl | rfl | rfl | rfl | rfl | rfl | rfl | rfl | rfl | rfl | rfl : n = 1 ∨ n = 2 ∨ n = 3 ∨ n = 4 ∨ n = 5 ∨ n = 6 ∨ n = 7 ∨ n = 8 ∨ n = 9 ∨ n = 10 ∨ n = 11 ∨ n = 12 ∨ n = 13 ∨ n = 14 ∨ n = 15 := by omega
  all_goals decide
theorem wt_le {x : Int} (h : ¬ badX x) : 0 ≤ wt x ∧ wt x ≤ 16384 := by
  unfold badX at h
  unfold wt
  split
  · have := pow15 (x := x) (by omega) (by omega); omega
  · omega
theorem there_le (x : Int) : 0 ≤ there x ∧ there x ≤ 1 := by unfold there; split <;> omega
theorem shl1 {b : Nat} (h : b ≤ 15) : shlI .i64 1 (b : Int) = 2 ^ b := by
  obtain rfl | rfl | rfl | rfl | rfl | rfl | rfl | rfl | rfl | rfl | rfl | rfl | rfl | rfl | rfl | rfl : b = 0 ∨ b = 1 ∨ b = 2 ∨ b = 3 ∨ b = 4 ∨ b = 5 ∨ b = 6 ∨ b = 7 ∨ b = 8 ∨ b = 9 ∨ b = 10 ∨ b = 11 ∨ b = 12 ∨ b = 13 ∨ b = 14 ∨ b = 15 := by omega
  all_goals rfl
theorem shlw {x : Int} (h0 : 0 < x) (h1 : x ≤ 15) : shlI .i64 1 (15 - x) = 2 ^ (15 - x.toNat) := by
  rw [show (15 : Int) - x = ((15 - x.toNat : Nat) : Int) by omega]
  exact shl1 (by omega)
theorem drop_cons {α : Type} {l : List α} {i : Nat} (h : i < l.length) : l.drop i = l[i] :: l.drop (i + 1) := List.drop_eq_getElem_cons h
theorem badL_cons {x : Int} {l : List Int} : badL (x :: l) ↔ badX x ∨ badL l := by simp [badL]
theorem wsucc {i : Nat} (h : i < 9223372036854775807) : IntKind.wrap .i64 ((i : Int) + 1) = ((i + 1 : Nat) : Int) := by rw [wi (by omega) (by omega)]; omega
theorem g_huff_judged_l0_eq (k : Nat) (l : List Int) (hl : l.length ≤ 320) : ∀ (n i : Nat) (a m : Int), i ≤ l.length → l.length - i < n → -100000000 + 16384 * ((l.length : Int) - i) ≤ a → a ≤ 100000000 → 0 ≤ m → m ≤ i →
    g_huff_judged_l0 k l n a m i = some (if badL (l.drop i) then Sum.inl () else Sum.inr (a - sumW (l.drop i), m + cntL (l.drop i))) := by
  intro n
  induction n with
  | zero => intro i a m _ h; omega
  | succ n ih =>
    intro i a m hi hn ha1 ha2 hm0 hm
    rw [g_huff_judged_l0.eq_2]
    simp only [Option.bind_some, bd]
    by_cases h : i < l.length
    · have e : ix l (i : Int) = some l[i] := ix_nat h
      rw [if_pos (by omega), e, drop_cons h]
      simp only [Option.bind_some, badL_cons, sumW, cntL]
      generalize hx : l[i] = x
      by_cases hb : badX x
      · have hb' : (if x < 0 then some true else some (decide (15 < x))) = some true := by
          unfold badX at hb
          split
          · rfl
          · rw [dt (by omega)]
        rw [hb', if_pos (Or.inl hb : badX x ∨ badL (l.drop (i + 1)))]
        rfl
      · have hb' : (if x < 0 then some true else some (decide (15 < x))) = some false := by
          unfold badX at hb
          rw [if_neg (by omega), df (by omega)]
        have hw := wt_le hb
        unfold badX at hb
        rw [hb']
        simp only [Option.bind_some, bf, or_iff_right (show ¬ badX x by unfold badX; exact hb)]
        unfold wt there at *
        by_cases h0 : 0 < x
        · rw [if_pos h0] at hw
          rw [if_pos h0, wi (n := 15 - x) (by omega) (by omega), if_pos (by omega), shlw h0 (by omega), if_pos h0, if_pos h0]
          rw [wi (n := a - 2 ^ (15 - x.toNat)) (by omega) (by omega), wi (n := m + 1) (by omega) (by omega), wsucc (by omega)]
          simp only [Option.bind_some]
          rw [ih (i + 1) _ _ (by omega) (by omega) (by omega) (by omega) (by omega) (by omega)]
          simp only [Int.sub_sub, Int.add_assoc]
        · rw [if_neg h0, if_neg h0, if_neg h0, wsucc (by omega)]
          simp only [Option.bind_some]
          rw [ih (i + 1) _ _ (by omega) (by omega) (by omega) (by omega) (by omega) (by omega)]
          simp only [Int.zero_add]
    · rw [if_neg (by omega), List.drop_of_length_le (by omega), if_neg (by simp [badL])]
      simp [sumW, cntL]
/-- The chapter's judgement. -/
def judge (l : List Int) : Bool × Int :=
  if 320 < l.length then (false, 1) else if badL l then (false, 1) else if sumW l = 32768 then (true, 0) else if cntL l = 0 ∨ cntL l = 1 ∧ sumW l = 16384 then (false, 0) else (false, 11)
theorem sumW_le : ∀ {l : List Int}, ¬ badL l → 0 ≤ sumW l ∧ sumW l ≤ 16384 * (l.length : Int)
  | [], _ => by simp [sumW]
  | x :: l, h => by
    rw [badL_cons, not_or] at h
    have h1 := wt_le h.1
    have h2 := sumW_le h.2
    simp only [sumW, List.length_cons]
    omega
theorem cntL_le : ∀ (l : List Int), 0 ≤ cntL l ∧ cntL l ≤ (l.length : Int)
  | [] => by simp [cntL]
  | x :: l => by
    have h1 := there_le x
    have h2 := cntL_le l
    simp only [cntL, List.length_cons]
    omega
theorem g_huff_judged_eq {k : Nat} {l : List Int} (hk : 330 ≤ k) : g_huff_judged k l = some (judge l) := by
  unfold g_huff_judged judge
  simp only [Option.bind_some, bd]
  by_cases h : 320 < l.length
  · rw [if_pos (by omega), if_pos h]
  · rw [if_neg (by omega), if_neg h]
    have e := g_huff_judged_l0_eq k l (by omega) k 0 32768 0 (by omega) (by omega) (by omega) (by omega) (by omega) (by omega)
    rw [List.drop_zero] at e
    have e' : g_huff_judged_l0 k l k 32768 0 0 = _ := e
    rw [e']
    by_cases hb : badL l
    · rw [if_pos hb, if_pos hb]; rfl
    · have hs := sumW_le hb
      rw [if_neg hb, if_neg hb]
      simp only [Option.bind_some, Int.zero_add]
      by_cases h1 : sumW l = 32768
      · rw [if_pos (by omega), if_pos h1]
      · rw [if_neg (by omega), if_neg h1]
        by_cases h2 : cntL l = 0
        · rw [if_pos h2, dt h2, if_pos (.inl h2)]; rfl
        · rw [if_neg h2]
          by_cases h3 : cntL l = 1
          · rw [if_pos h3]
            by_cases h4 : sumW l = 16384
            · rw [dt (by omega), if_pos (.inr ⟨h3, h4⟩)]; rfl
            · rw [df (by omega), if_neg (by omega)]; rfl
          · rw [if_neg h3, if_neg (by omega)]; rfl
theorem judge_ok {l : List Int} (h : (judge l).2 = 0) : l.length ≤ 320 ∧ ¬ badL l ∧ (sumW l = 32768 ∨ cntL l = 0 ∨ cntL l = 1 ∧ sumW l = 16384) := by
  unfold judge at h
  by_cases h0 : 320 < l.length
  · rw [if_pos h0] at h; cases h
  · rw [if_neg h0] at h
    by_cases hb : badL l
    · rw [if_pos hb] at h; cases h
    · rw [if_neg hb] at h
      refine ⟨by omega, hb, ?_⟩
      by_cases h1 : sumW l = 32768
      · exact .inl h1
      · rw [if_neg h1] at h
        by_cases h2 : cntL l = 0 ∨ cntL l = 1 ∧ sumW l = 16384
        · exact .inr h2
        · rw [if_neg h2] at h; cases h
/-- The symbols of one length, from a place on: the next code, and the codes. -/
def codesOf (c : Int) : List Int → Int → Nat → List Int → Int × List Int
  | [], nx, _, out => (nx, out)
  | x :: l, nx, i, out => if x = c then codesOf c l (IntKind.wrap .u32 (nx + 1)) (i + 1) (out.set i nx) else codesOf c l nx (i + 1) out
theorem codesOf_length (c : Int) : ∀ (l : List Int) (nx : Int) (i : Nat) (out : List Int), (codesOf c l nx i out).2.length = out.length
  | [], _, _, _ => rfl
  | x :: l, nx, i, out => by
    unfold codesOf
    split
    · rw [codesOf_length]; simp
    · exact codesOf_length c l _ _ _
theorem g_huff_Codes_l1_eq (k : Nat) (l : List Int) (hl : l.length ≤ 320) (c : Int) : ∀ (n i : Nat) (out : List Int) (nx : Int), out.length = l.length → i ≤ l.length → l.length - i < n →
    g_huff_Codes_l1 k l c n i out nx = some (Sum.inr ((codesOf c (l.drop i) nx i out).2, (codesOf c (l.drop i) nx i out).1)) := by
  intro n
  induction n with
  | zero => intro i out nx _ _ h; omega
  | succ n ih =>
    intro i out nx ho hi hn
    rw [g_huff_Codes_l1.eq_2]
    simp only [Option.bind_some, bd]
    by_cases h : i < l.length
    · have e : ix l (i : Int) = some l[i] := ix_nat h
      have e2 : ix out (i : Int) = some (out[i]'(by omega)) := ix_nat (by omega)
      rw [if_pos (by omega), drop_cons h, e]
      simp only [Option.bind_some, e2]
      by_cases hc : l[i] = c
      · rw [if_pos hc]
        simp only [Option.bind_some, Bool.not_true, bf, Int.toNat_natCast]
        rw [wsucc (by omega), ih (i + 1) _ _ (by simpa using ho) (by omega) (by omega)]
        simp only [codesOf, if_pos hc]
      · rw [if_neg hc]
        simp only [Option.bind_some, bf]
        rw [wsucc (by omega), ih (i + 1) _ _ ho (by omega) (by omega)]
        simp only [codesOf, if_neg hc]
    · rw [if_neg (by omega), List.drop_of_length_le (by omega)]
      rfl
/-- All codes: lengths c, c + 1, .. of so many. -/
def codesFrom (l : List Int) : Nat → Int → Int → List Int → List Int
  | 0, _, _, out => out
  | m + 1, c, nx, out => codesFrom l m (c + 1) (codesOf c l (shlI .u32 nx 1) 0 out).1 (codesOf c l (shlI .u32 nx 1) 0 out).2
theorem codesFrom_length (l : List Int) : ∀ (m : Nat) (c nx : Int) (out : List Int), (codesFrom l m c nx out).length = out.length
  | 0, _, _, _ => rfl
  | m + 1, c, nx, out => by rw [codesFrom, codesFrom_length, codesOf_length]
theorem g_huff_Codes_l0_eq (k : Nat) (l : List Int) (hl : l.length ≤ 320) (hk : 330 ≤ k) : ∀ (n m : Nat) (c nx : Int) (out : List Int), out.length = l.length → c + m = 16 → m ≤ 15 → m < n → g_huff_Codes_l0 k l n c out nx = some (codesFrom l m c nx out) := by
  intro n
  induction n with
  | zero => intro m c nx out _ _ _ h; omega
  | succ n ih =>
    intro m c nx out ho hc h15 hm
    rw [g_huff_Codes_l0.eq_2]
    cases m with
    | zero => rw [bd, if_neg (by omega)]; rfl
    | succ m =>
      have e := g_huff_Codes_l1_eq k l hl c k 0 out (shlI .u32 nx 1) ho (by omega) (by omega)
      rw [List.drop_zero] at e
      have e' : g_huff_Codes_l1 k l c k 0 out (shlI .u32 nx 1) = _ := e
      rw [bd, if_pos (by omega), e']
      simp only [g_huff_of, Option.bind_some]
      rw [wi (by omega) (by omega), ih m (c + 1) _ _ (by rw [codesOf_length]; exact ho) (by omega) (by omega) (by omega)]
      rfl
/-- The codes of lengths. -/
def codesL (l : List Int) : List Int × Int := if (judge l).2 = 0 then (codesFrom l 15 1 0 (List.replicate l.length 0), 0) else ([], (judge l).2)
theorem codesL_length {l : List Int} (h : (codesL l).2 = 0) : (codesL l).1.length = l.length := by
  unfold codesL at *
  by_cases h0 : (judge l).2 = 0
  · rw [if_pos h0]; simp [codesFrom_length]
  · rw [if_neg h0] at h; exact absurd h h0
theorem g_huff_Codes_eq {k : Nat} {l : List Int} (hk : 330 ≤ k) : g_huff_Codes k l = some (codesL l) := by
  unfold g_huff_Codes codesL
  rw [g_huff_judged_eq hk]
  simp only [Option.bind_some, bnd', bd]
  by_cases h : (judge l).2 = 0
  · have hl := (judge_ok h).1
    have e := g_huff_Codes_l0_eq k l hl hk k 15 1 0 (List.replicate l.length 0) (by simp) (by omega) (by omega) (by omega)
    rw [if_pos h, if_pos h, if_pos (by omega), Int.toNat_natCast, e]
    rfl
  · rw [if_neg h, if_neg h]
theorem codesL_le (l : List Int) : (codesL l).1.length ≤ 320 := by
  unfold codesL
  by_cases h : (judge l).2 = 0
  · rw [if_pos h]; simp [codesFrom_length]; exact (judge_ok h).1
  · rw [if_neg h]; simp
/-- How many have a length. -/
abbrev cn (l : List Int) (c : Nat) : Nat := l.count (c : Int)
/-- Half of the first code of a length. -/
def hf (l : List Int) : Nat → Nat
  | 0 => 0
  | c + 1 => if c = 0 then 0 else 2 * hf l c + cn l c
/-- The room that shorter lengths take. -/
def sr (l : List Int) : Nat → Nat
  | 0 => 0
  | c + 1 => if c = 0 then 0 else sr l c + cn l c * 2 ^ (15 - c)
theorem hf_sr (l : List Int) : ∀ (c : Nat), 1 ≤ c → c ≤ 15 → 2 * hf l c * 2 ^ (15 - c) = sr l c
  | 0, h, _ => by omega
  | c + 1, _, h => by
    by_cases hc : c = 0
    · subst hc; simp [hf, sr]
    · have ih := hf_sr l c (by omega) (by omega)
      have e : 2 ^ (15 - c) = 2 * 2 ^ (15 - (c + 1)) := by
        rw [show 15 - c = (15 - (c + 1)) + 1 by omega, Nat.pow_succ]; omega
      simp only [hf, sr, if_neg hc]
      rw [← ih, e]
      generalize 2 ^ (15 - (c + 1)) = p
      generalize hf l c = h
      generalize cn l c = n
      rw [Nat.mul_add, Nat.add_mul]
      simp only [Nat.mul_assoc, Nat.mul_left_comm, Nat.mul_comm]
theorem sr_mono (l : List Int) : ∀ (b a : Nat), a ≤ b → sr l a ≤ sr l b
  | 0, a, h => by have : a = 0 := by omega
                  subst this; exact Nat.le_refl _
  | b + 1, a, h => by
    by_cases hab : a = b + 1
    · subst hab; exact Nat.le_refl _
    · refine Nat.le_trans (sr_mono l b a (by omega)) ?_
      simp only [sr]
      split
      · rename_i hb; subst hb; simp [sr]
      · omega
theorem sr_cons (x : Int) (l : List Int) (hx : ¬ badX x) : ∀ (c : Nat), c ≤ 16 → sr (x :: l) c = sr l c + if 0 < x ∧ x < c then 2 ^ (15 - x.toNat) else 0
  | 0, _ => by unfold badX at hx; rw [if_neg (by omega)]; simp [sr]
  | c + 1, h => by
    have ih := sr_cons x l hx c (by omega)
    unfold badX at hx
    by_cases hc : c = 0
    · subst hc; simp [sr]; omega
    · simp only [sr, if_neg hc, ih, cn, List.count_cons]
      by_cases hxc : x = (c : Int)
      · subst hxc
        rw [if_neg (show ¬ (0 < (c : Int) ∧ (c : Int) < (c : Int)) by omega), if_pos (show 0 < (c : Int) ∧ (c : Int) < ((c + 1 : Nat) : Int) by omega), if_pos (show ((c : Int) == (c : Int)) = true by simp), Int.toNat_natCast, Nat.add_mul]
        omega
      · rw [if_neg (show ¬ (x == (c : Int)) = true by simpa using hxc), Nat.add_zero]
        by_cases h2 : 0 < x ∧ x < c
        · rw [if_pos h2, if_pos (show 0 < x ∧ x < ((c + 1 : Nat) : Int) by omega)]; omega
        · rw [if_neg h2, if_neg (show ¬ (0 < x ∧ x < ((c + 1 : Nat) : Int)) by omega)]; omega
theorem sr_all : ∀ {l : List Int}, ¬ badL l → (sr l 16 : Int) = sumW l
  | [], _ => by decide
  | x :: l, h => by
    rw [badL_cons, not_or] at h
    have ih := sr_all h.2
    have hx := h.1
    rw [sr_cons x l hx 16 (by omega)]
    simp only [sumW, wt]
    unfold badX at hx
    by_cases h0 : 0 < x
    · rw [if_pos ⟨h0, by omega⟩, if_pos h0, Int.natCast_add, ih, Int.natCast_pow]; simp; omega
    · rw [if_neg (by omega), if_neg h0]; omega
/-- A symbol's code. -/
def cd (l : List Int) (i : Nat) : Nat := 2 * hf l (l.getD i 0).toNat + (l.take i).count (l.getD i 0)
theorem codesOf_spec (c : Int) : ∀ (l : List Int) (nx i : Nat) (out : List Int), nx + l.count c < 4294967296 → i + l.length ≤ out.length →
    (codesOf c l nx i out).1 = ((nx + l.count c : Nat) : Int) ∧ ∀ j, (codesOf c l nx i out).2[j]? = if i ≤ j ∧ l[j - i]? = some c then some ((nx + (l.take (j - i)).count c : Nat) : Int) else out[j]?
  | [], nx, i, out, _, _ => by simp [codesOf]
  | x :: l, nx, i, out, h, hl => by
    unfold codesOf
    simp only [List.length_cons] at hl
    by_cases hx : x = c
    · subst hx
      simp only [List.count_cons_self] at h
      rw [if_pos rfl, show IntKind.wrap .u32 ((nx : Int) + 1) = ((nx + 1 : Nat) : Int) by rw [wu32 (by omega) (by omega)]; omega]
      obtain ⟨h1, h2⟩ := codesOf_spec x l (nx + 1) (i + 1) (out.set i nx) (by omega) (by simp; omega)
      refine ⟨by rw [h1, List.count_cons_self]; omega, fun j => ?_⟩
      rw [h2]
      by_cases hij : i ≤ j
      · rcases Nat.eq_or_lt_of_le hij with rfl | hij'
        · rw [if_neg (by omega), if_pos (by simp)]
          simp [show i < out.length by omega]
        · have e : j - i = (j - (i + 1)) + 1 := by omega
          rw [e, List.getElem?_cons_succ, List.take_succ_cons, List.count_cons_self]
          by_cases hc : l[j - (i + 1)]? = some x
          · rw [if_pos ⟨by omega, hc⟩, if_pos ⟨hij, hc⟩]; congr 2; omega
          · rw [if_neg (fun h => hc h.2), if_neg (fun h => hc h.2), List.getElem?_set_ne (by omega)]
      · rw [if_neg (by omega), if_neg (by omega), List.getElem?_set_ne (by omega)]
    · rw [List.count_cons_of_ne hx] at h
      rw [if_neg hx]
      obtain ⟨h1, h2⟩ := codesOf_spec c l nx (i + 1) out h (by omega)
      refine ⟨by rw [h1, List.count_cons_of_ne hx], fun j => ?_⟩
      rw [h2]
      by_cases hij : i ≤ j
      · rcases Nat.eq_or_lt_of_le hij with rfl | hij'
        · rw [if_neg (by omega), if_neg (by simp [hx])]
        · have e : j - i = (j - (i + 1)) + 1 := by omega
          rw [e, List.getElem?_cons_succ, List.take_succ_cons, List.count_cons_of_ne hx]
          by_cases hc : l[j - (i + 1)]? = some c
          · rw [if_pos ⟨by omega, hc⟩, if_pos ⟨hij, hc⟩]
          · rw [if_neg (fun h => hc h.2), if_neg (fun h => hc h.2)]
      · rw [if_neg (by omega), if_neg (by omega)]
theorem shl32 {n : Nat} (h : n ≤ 65536) : shlI .u32 (n : Int) 1 = ((2 * n : Nat) : Int) := by
  show IntKind.wrap .u32 ((n : Int) * 2) = _
  rw [wu32 (by omega) (by omega)]
  omega
/-- What codes are bounded by. -/
theorem hf_le {l : List Int} (hs : sr l 16 ≤ 32768) {c : Nat} (h1 : 1 ≤ c) (h15 : c ≤ 15) : (2 * hf l c + cn l c) * 2 ^ (15 - c) ≤ 32768 := by
  have e : sr l (c + 1) = (2 * hf l c + cn l c) * 2 ^ (15 - c) := by
    simp only [sr, if_neg (show ¬ c = 0 by omega), ← hf_sr l c h1 h15, Nat.add_mul]
  rw [← e]
  exact Nat.le_trans (sr_mono l 16 (c + 1) (by omega)) hs
theorem hf_small {l : List Int} (hs : sr l 16 ≤ 32768) {c : Nat} (h1 : 1 ≤ c) (h15 : c ≤ 15) : 2 * hf l c + cn l c ≤ 32768 := by
  have := hf_le hs h1 h15
  have hp : 1 ≤ 2 ^ (15 - c) := Nat.one_le_two_pow
  have := Nat.mul_le_mul_left (2 * hf l c + cn l c) hp
  omega
theorem codesFrom_spec (l : List Int) (hs : sr l 16 ≤ 32768) : ∀ (m c : Nat) (out : List Int), c + m = 16 → 1 ≤ c → out.length = l.length →
    ∀ j, (codesFrom l m c (hf l c) out)[j]? = if j < l.length ∧ (c : Int) ≤ l.getD j 0 ∧ l.getD j 0 ≤ 15 then some (cd l j : Int) else out[j]?
  | 0, c, out, hc, _, _, j => by
    rw [if_neg (by omega)]; rfl
  | m + 1, c, out, hc, h1, ho, j => by
    have hsm := hf_small hs h1 (by omega)
    rw [codesFrom, shl32 (by omega)]
    obtain ⟨e1, e2⟩ := codesOf_spec (c : Int) l (2 * hf l c) 0 out (by show 2 * hf l c + cn l c < _; omega) (by omega)
    rw [show (c : Int) + 1 = ((c + 1 : Nat) : Int) by omega, e1]
    have e3 : 2 * hf l c + l.count (c : Int) = hf l (c + 1) := by simp only [hf, if_neg (show ¬ c = 0 by omega)]
    rw [e3, codesFrom_spec l hs m (c + 1) _ (by omega) (by omega) (by rw [codesOf_length]; exact ho) j, e2 j]
    simp only [Nat.zero_le, true_and, Nat.sub_zero]
    by_cases hj : j < l.length
    · have eg : l.getD j 0 = l[j] := by rw [List.getD_eq_getElem?_getD, List.getElem?_eq_getElem hj]; rfl
      rw [List.getElem?_eq_getElem hj]
      by_cases hlc : l[j] = (c : Int)
      · rw [if_neg (by rw [eg]; omega), if_pos (by rw [hlc]), if_pos ⟨hj, by rw [eg]; omega⟩]
        simp only [cd, eg, hlc, Int.toNat_natCast]
      · rw [if_neg (show ¬ some l[j] = some (c : Int) by simpa using hlc)]
        by_cases h2 : (c : Int) ≤ l.getD j 0 ∧ l.getD j 0 ≤ 15
        · rw [if_pos ⟨hj, by rw [eg] at *; omega⟩, if_pos ⟨hj, h2⟩]
        · rw [if_neg (by rw [eg] at *; omega), if_neg (fun h => h2 h.2)]
    · rw [if_neg (fun h => hj h.1), if_neg (by rw [List.getElem?_eq_none (by omega)]; simp), if_neg (fun h => hj h.1)]
/-- The codes, one by one. -/
theorem codesL_get {l : List Int} (h : (judge l).2 = 0) {j : Nat} (hj : j < l.length) (h0 : 0 < l[j]) : (codesL l).1[j]? = some (cd l j : Int) := by
  obtain ⟨hl, hb, hk⟩ := judge_ok h
  have hs : sr l 16 ≤ 32768 := by
    have := sr_all hb
    have h16 := (sumW_le hb).2
    rcases hk with h1 | h1 | h1
    · omega
    · have : ∀ (l : List Int), cntL l = 0 → sumW l = 0 := by
        intro l
        induction l with
        | nil => intro _; rfl
        | cons x l ih =>
          intro h
          have h1 := there_le x
          have h2 := cntL_le l
          simp only [cntL] at h
          have h3 := ih (by omega)
          have h4 : there x = 0 := by omega
          unfold there at h4
          split at h4
          · omega
          · rename_i h5; simp only [sumW, wt, if_neg h5, h3]; rfl
      have := this l h1
      omega
    · omega
  unfold codesL
  rw [if_pos h]
  have hx : ¬ badX l[j] := fun hx => hb ⟨_, List.getElem_mem hj, hx⟩
  unfold badX at hx
  have eg : l.getD j 0 = l[j] := by rw [List.getD_eq_getElem?_getD, List.getElem?_eq_getElem hj]; rfl
  have := codesFrom_spec l hs 15 1 (List.replicate l.length 0) (by omega) (by omega) (by simp) j
  rw [if_pos ⟨hj, by rw [eg]; omega⟩] at this
  exact this
theorem count_take_lt {l : List Int} {i k : Nat} {c : Int} (hik : i < k) (hk : i < l.length) (hc : l[i] = c) : (l.take i).count c < (l.take k).count c := by
  have e : l.take k = l.take i ++ (l.take k).drop i := by
    have := List.take_append_drop i (l.take k)
    rw [List.take_take, Nat.min_eq_left (by omega)] at this
    exact this.symm
  rw [e, List.count_append]
  have : 0 < ((l.take k).drop i).count c := by
    rw [List.count_pos_iff]
    refine List.mem_iff_getElem?.2 ⟨0, ?_⟩
    rw [List.getElem?_drop, List.getElem?_take_of_lt (by omega), Nat.add_zero, List.getElem?_eq_getElem hk, hc]
  omega
theorem count_take_le (l : List Int) (i : Nat) (c : Int) : (l.take i).count c ≤ l.count c := (List.take_sublist i l).count_le c
/-- No code is the beginning of another one. -/
theorem cd_prefix {l : List Int} {i k : Nat} (hi : i < l.length) (hk : k < l.length) (hne : i ≠ k) (h0 : 0 < l[i]) (hle : l[i] ≤ l[k]) (h15 : l[k] ≤ 15) : cd l k / 2 ^ (l[k].toNat - l[i].toNat) ≠ cd l i := by
  have ei : l.getD i 0 = l[i] := by rw [List.getD_eq_getElem?_getD, List.getElem?_eq_getElem hi]; rfl
  have ek : l.getD k 0 = l[k] := by rw [List.getD_eq_getElem?_getD, List.getElem?_eq_getElem hk]; rfl
  unfold cd
  rw [ei, ek]
  obtain ⟨a, ha⟩ : ∃ a : Nat, l[i] = (a : Int) := ⟨l[i].toNat, by omega⟩
  obtain ⟨b, hb⟩ : ∃ b : Nat, l[k] = (b : Int) := ⟨l[k].toNat, by omega⟩
  rw [ha] at h0
  rw [ha, hb] at hle
  rw [hb] at h15
  rw [ha, hb]
  simp only [Int.toNat_natCast]
  by_cases hab : a = b
  · subst hab
    rw [Nat.sub_self, Nat.pow_zero, Nat.div_one]
    rcases Nat.lt_or_gt_of_ne hne with h | h
    · have := count_take_lt h hi ha; omega
    · have := count_take_lt h hk hb; omega
  · have hlt : a < b := by omega
    have h1 := hf_sr l b (by omega) (by omega)
    have h2 := hf_sr l a (by omega) (by omega)
    have h3 := sr_mono l b (a + 1) (by omega)
    have h4 : sr l (a + 1) = sr l a + cn l a * 2 ^ (15 - a) := by simp only [sr, if_neg (show ¬ a = 0 by omega)]
    have h5 : (l.take i).count (a : Int) + 1 ≤ cn l a := by
      have := count_take_lt (l := l) (i := i) (k := l.length) hi hi ha
      rw [List.take_length] at this
      exact this
    have hp : 2 ^ (15 - a) = 2 ^ (b - a) * 2 ^ (15 - b) := by rw [← Nat.pow_add]; congr 1; omega
    have hq : 0 < 2 ^ (15 - b) := Nat.two_pow_pos _
    have h6 : (2 * hf l a + (l.take i).count (a : Int) + 1) * 2 ^ (15 - a) ≤ 2 * hf l b * 2 ^ (15 - b) := by
      rw [h1]
      refine Nat.le_trans ?_ h3
      rw [h4, ← h2, ← Nat.add_mul]
      exact Nat.mul_le_mul_right _ (by omega)
    have h7 : (2 * hf l a + (l.take i).count (a : Int) + 1) * 2 ^ (b - a) ≤ 2 * hf l b := by
      rw [hp, ← Nat.mul_assoc] at h6
      exact Nat.le_of_mul_le_mul_right h6 hq
    have h8 : (2 * hf l a + (l.take i).count (a : Int) + 1) ≤ (2 * hf l b + (l.take k).count (b : Int)) / 2 ^ (b - a) := by
      rw [Nat.le_div_iff_mul_le (Nat.two_pow_pos _)]
      omega
    omega
theorem shr32 {n m : Nat} (h : m ≤ 15) : shrI .u32 (n : Int) (m : Int) = ((n / 2 ^ m : Nat) : Int) := by
  unfold shrI
  rw [Int.toNat_natCast, show min m IntKind.u32.bits = m by simp [IntKind.bits]; omega, Int.natCast_ediv, Int.natCast_pow]
  rw [Int.fdiv_eq_ediv_of_nonneg _ (Int.pow_nonneg (by decide))]
  rfl
end Go.Proofs.Ythgbompoldmhmab.W
