/- What the codes of right lengths are: none is the beginning of another one. -/
import Derived.Test.YthgbompoldmhmaaGc
namespace Go.Proofs.Ythgbompoldmhmaa.W
open Go Go.Q Go.Proofs
set_option linter.unusedVariables false
set_option linter.unusedSimpArgs false

/-- How many have a length. -/
abbrev cn (l : List Int) (c : Nat) : Nat := l.count (c : Int)
/-- Half of the first code of a length. -/
def hf (l : List Int) : Nat → Nat
  | 0 => 0
  | c + 1 => if c = 0 then 0 else 2 * hf l c + cn l c
/-- The room that shorter lengths take. -/
def sr (l : List Int) : Nat → Nat
  | 0 => 0
  | c + 1 => if c = 0 then 0 else sr l c + cn l c * 2 ^ (15 - c)

theorem hf_sr (l : List Int) : ∀ (c : Nat), 1 ≤ c → c ≤ 15 → 2 * hf l c * 2 ^ (15 - c) = sr l c
  | 0, h, _ => by omega
  | c + 1, _, h => by
    by_cases hc : c = 0
    · subst hc; simp [hf, sr]
    · have ih := hf_sr l c (by omega) (by omega)
      have e : 2 ^ (15 - c) = 2 * 2 ^ (15 - (c + 1)) := by
        rw [show 15 - c = (15 - (c + 1)) + 1 by omega, Nat.pow_succ]; omega
      simp only [hf, sr, if_neg hc]
      rw [← ih, e]
      generalize 2 ^ (15 - (c + 1)) = p
      generalize hf l c = h
      generalize cn l c = n
      rw [Nat.mul_add, Nat.add_mul]
      simp only [Nat.mul_assoc, Nat.mul_left_comm, Nat.mul_comm]

theorem sr_mono (l : List Int) : ∀ (b a : Nat), a ≤ b → sr l a ≤ sr l b
  | 0, a, h => by have : a = 0 := by omega
                  subst this; exact Nat.le_refl _
  | b + 1, a, h => by
    by_cases hab : a = b + 1
    · subst hab; exact Nat.le_refl _
    · refine Nat.le_trans (sr_mono l b a (by omega)) ?_
      simp only [sr]
      split
      · rename_i hb; subst hb; simp [sr]
      · omega

theorem sr_cons (x : Int) (l : List Int) (hx : ¬ badX x) : ∀ (c : Nat), c ≤ 16 → sr (x :: l) c = sr l c + if 0 < x ∧ x < c then 2 ^ (15 - x.toNat) else 0
  | 0, _ => by unfold badX at hx; rw [if_neg (by omega)]; simp [sr]
  | c + 1, h => by
    have ih := sr_cons x l hx c (by omega)
    unfold badX at hx
    by_cases hc : c = 0
    · subst hc; simp [sr]; omega
    · simp only [sr, if_neg hc, ih, cn, List.count_cons]
      by_cases hxc : x = (c : Int)
      · subst hxc
        rw [if_neg (show ¬ (0 < (c : Int) ∧ (c : Int) < (c : Int)) by omega), if_pos (show 0 < (c : Int) ∧ (c : Int) < ((c + 1 : Nat) : Int) by omega), if_pos (show ((c : Int) == (c : Int)) = true by simp), Int.toNat_natCast, Nat.add_mul]
        omega
      · rw [if_neg (show ¬ (x == (c : Int)) = true by simpa using hxc), Nat.add_zero]
        by_cases h2 : 0 < x ∧ x < c
        · rw [if_pos h2, if_pos (show 0 < x ∧ x < ((c + 1 : Nat) : Int) by omega)]; omega
        · rw [if_neg h2, if_neg (show ¬ (0 < x ∧ x < ((c + 1 : Nat) : Int)) by omega)]; omega

theorem sr_all : ∀ {l : List Int}, ¬ badL l → (sr l 16 : Int) = sumW l
  | [], _ => by decide
  | x :: l, h => by
    rw [badL_cons, not_or] at h
    have ih := sr_all h.2
    have hx := h.1
    rw [sr_cons x l hx 16 (by omega)]
    simp only [sumW, wt]
    unfold badX at hx
    by_cases h0 : 0 < x
    · rw [if_pos ⟨h0, by omega⟩, if_pos h0, Int.natCast_add, ih, Int.natCast_pow]; simp; omega
    · rw [if_neg (by omega), if_neg h0]; omega

/-- A symbol's code. -/
def cd (l : List Int) (i : Nat) : Nat := 2 * hf l (l.getD i 0).toNat + (l.take i).count (l.getD i 0)

theorem codesOf_spec (c : Int) : ∀ (l : List Int) (nx i : Nat) (out : List Int), nx + l.count c < 4294967296 → i + l.length ≤ out.length →
    (codesOf c l nx i out).1 = ((nx + l.count c : Nat) : Int) ∧ ∀ j, (codesOf c l nx i out).2[j]? = if i ≤ j ∧ l[j - i]? = some c then some ((nx + (l.take (j - i)).count c : Nat) : Int) else out[j]?
  | [], nx, i, out, _, _ => by simp [codesOf]
  | x :: l, nx, i, out, h, hl => by
    unfold codesOf
    simp only [List.length_cons] at hl
    by_cases hx : x = c
    · subst hx
      simp only [List.count_cons_self] at h
      rw [if_pos rfl, show IntKind.wrap .u32 ((nx : Int) + 1) = ((nx + 1 : Nat) : Int) by rw [wu32 (by omega) (by omega)]; omega]
      obtain ⟨h1, h2⟩ := codesOf_spec x l (nx + 1) (i + 1) (out.set i nx) (by omega) (by simp; omega)
      refine ⟨by rw [h1, List.count_cons_self]; omega, fun j => ?_⟩
      rw [h2]
      by_cases hij : i ≤ j
      · rcases Nat.eq_or_lt_of_le hij with rfl | hij'
        · rw [if_neg (by omega), if_pos (by simp)]
          simp [show i < out.length by omega]
        · have e : j - i = (j - (i + 1)) + 1 := by omega
          rw [e, List.getElem?_cons_succ, List.take_succ_cons, List.count_cons_self]
          by_cases hc : l[j - (i + 1)]? = some x
          · rw [if_pos ⟨by omega, hc⟩, if_pos ⟨hij, hc⟩]; congr 2; omega
          · rw [if_neg (fun h => hc h.2), if_neg (fun h => hc h.2), List.getElem?_set_ne (by omega)]
      · rw [if_neg (by omega), if_neg (by omega), List.getElem?_set_ne (by omega)]
    · rw [List.count_cons_of_ne hx] at h
      rw [if_neg hx]
      obtain ⟨h1, h2⟩ := codesOf_spec c l nx (i + 1) out h (by omega)
      refine ⟨by rw [h1, List.count_cons_of_ne hx], fun j => ?_⟩
      rw [h2]
      by_cases hij : i ≤ j
      · rcases Nat.eq_or_lt_of_le hij with rfl | hij'
        · rw [if_neg (by omega), if_neg (by simp [hx])]
        · have e : j - i = (j - (i + 1)) + 1 := by omega
          rw [e, List.getElem?_cons_succ, List.take_succ_cons, List.count_cons_of_ne hx]
          by_cases hc : l[j - (i + 1)]? = some c
          · rw [if_pos ⟨by omega, hc⟩, if_pos ⟨hij, hc⟩]
          · rw [if_neg (fun h => hc h.2), if_neg (fun h => hc h.2)]
      · rw [if_neg (by omega), if_neg (by omega)]

theorem shl32 {n : Nat} (h : n ≤ 65536) : shlI .u32 (n : Int) 1 = ((2 * n : Nat) : Int) := by
  show IntKind.wrap .u32 ((n : Int) * 2) = _
  rw [wu32 (by omega) (by omega)]
  omega

/-- What codes are bounded by. -/
theorem hf_le {l : List Int} (hs : sr l 16 ≤ 32768) {c : Nat} (h1 : 1 ≤ c) (h15 : c ≤ 15) : (2 * hf l c + cn l c) * 2 ^ (15 - c) ≤ 32768 := by
  have e : sr l (c + 1) = (2 * hf l c + cn l c) * 2 ^ (15 - c) := by
    simp only [sr, if_neg (show ¬ c = 0 by omega), ← hf_sr l c h1 h15, Nat.add_mul]
  rw [← e]
  exact Nat.le_trans (sr_mono l 16 (c + 1) (by omega)) hs
theorem hf_small {l : List Int} (hs : sr l 16 ≤ 32768) {c : Nat} (h1 : 1 ≤ c) (h15 : c ≤ 15) : 2 * hf l c + cn l c ≤ 32768 := by
  have := hf_le hs h1 h15
  have hp : 1 ≤ 2 ^ (15 - c) := Nat.one_le_two_pow
  have := Nat.mul_le_mul_left (2 * hf l c + cn l c) hp
  omega

theorem codesFrom_spec (l : List Int) (hs : sr l 16 ≤ 32768) : ∀ (m c : Nat) (out : List Int), c + m = 16 → 1 ≤ c → out.length = l.length →
    ∀ j, (codesFrom l m c (hf l c) out)[j]? = if j < l.length ∧ (c : Int) ≤ l.getD j 0 ∧ l.getD j 0 ≤ 15 then some (cd l j : Int) else out[j]?
  | 0, c, out, hc, _, _, j => by
    rw [if_neg (by omega)]; rfl
  | m + 1, c, out, hc, h1, ho, j => by
    have hsm := hf_small hs h1 (by omega)
    rw [codesFrom, shl32 (by omega)]
    obtain ⟨e1, e2⟩ := codesOf_spec (c : Int) l (2 * hf l c) 0 out (by show 2 * hf l c + cn l c < _; omega) (by omega)
    rw [show (c : Int) + 1 = ((c + 1 : Nat) : Int) by omega, e1]
    have e3 : 2 * hf l c + l.count (c : Int) = hf l (c + 1) := by simp only [hf, if_neg (show ¬ c = 0 by omega)]
    rw [e3, codesFrom_spec l hs m (c + 1) _ (by omega) (by omega) (by rw [codesOf_length]; exact ho) j, e2 j]
    simp only [Nat.zero_le, true_and, Nat.sub_zero]
    by_cases hj : j < l.length
    · have eg : l.getD j 0 = l[j] := by rw [List.getD_eq_getElem?_getD, List.getElem?_eq_getElem hj]; rfl
      rw [List.getElem?_eq_getElem hj]
      by_cases hlc : l[j] = (c : Int)
      · rw [if_neg (by rw [eg]; omega), if_pos (by rw [hlc]), if_pos ⟨hj, by rw [eg]; omega⟩]
        simp only [cd, eg, hlc, Int.toNat_natCast]
      · rw [if_neg (show ¬ some l[j] = some (c : Int) by simpa using hlc)]
        by_cases h2 : (c : Int) ≤ l.getD j 0 ∧ l.getD j 0 ≤ 15
        · rw [if_pos ⟨hj, by rw [eg] at *; omega⟩, if_pos ⟨hj, h2⟩]
        · rw [if_neg (by rw [eg] at *; omega), if_neg (fun h => h2 h.2)]
    · rw [if_neg (fun h => hj h.1), if_neg (by rw [List.getElem?_eq_none (by omega)]; simp), if_neg (fun h => hj h.1)]

/-- The codes, one by one. -/
theorem codesL_get {l : List Int} (h : (judge l).2 = 0) {j : Nat} (hj : j < l.length) (h0 : 0 < l[j]) : (codesL l).1[j]? = some (cd l j : Int) := by
  obtain ⟨hl, hb, hk⟩ := judge_ok h
  have hs : sr l 16 ≤ 32768 := by
    have := sr_all hb
    have h16 := (sumW_le hb).2
    rcases hk with h1 | h1 | h1
    · omega
    · have : ∀ (l : List Int), cntL l = 0 → sumW l = 0 := by
        intro l
        induction l with
        | nil => intro _; rfl
        | cons x l ih =>
          intro h
          have h1 := there_le x
          have h2 := cntL_le l
          simp only [cntL] at h
          have h3 := ih (by omega)
          have h4 : there x = 0 := by omega
          unfold there at h4
          split at h4
          · omega
          · rename_i h5; simp only [sumW, wt, if_neg h5, h3]; rfl
      have := this l h1
      omega
    · omega
  unfold codesL
  rw [if_pos h]
  have hx : ¬ badX l[j] := fun hx => hb ⟨_, List.getElem_mem hj, hx⟩
  unfold badX at hx
  have eg : l.getD j 0 = l[j] := by rw [List.getD_eq_getElem?_getD, List.getElem?_eq_getElem hj]; rfl
  have := codesFrom_spec l hs 15 1 (List.replicate l.length 0) (by omega) (by omega) (by simp) j
  rw [if_pos ⟨hj, by rw [eg]; omega⟩] at this
  exact this

theorem count_take_lt {l : List Int} {i k : Nat} {c : Int} (hik : i < k) (hk : i < l.length) (hc : l[i] = c) : (l.take i).count c < (l.take k).count c := by
  have e : l.take k = l.take i ++ (l.take k).drop i := by
    have := List.take_append_drop i (l.take k)
    rw [List.take_take, Nat.min_eq_left (by omega)] at this
    exact this.symm
  rw [e, List.count_append]
  have : 0 < ((l.take k).drop i).count c := by
    rw [List.count_pos_iff]
    refine List.mem_iff_getElem?.2 ⟨0, ?_⟩
    rw [List.getElem?_drop, List.getElem?_take_of_lt (by omega), Nat.add_zero, List.getElem?_eq_getElem hk, hc]
  omega

theorem count_take_le (l : List Int) (i : Nat) (c : Int) : (l.take i).count c ≤ l.count c := (List.take_sublist i l).count_le c

/-- No code is the beginning of another one. -/
theorem cd_prefix {l : List Int} {i k : Nat} (hi : i < l.length) (hk : k < l.length) (hne : i ≠ k) (h0 : 0 < l[i]) (hle : l[i] ≤ l[k]) (h15 : l[k] ≤ 15) : cd l k / 2 ^ (l[k].toNat - l[i].toNat) ≠ cd l i := by
  have ei : l.getD i 0 = l[i] := by rw [List.getD_eq_getElem?_getD, List.getElem?_eq_getElem hi]; rfl
  have ek : l.getD k 0 = l[k] := by rw [List.getD_eq_getElem?_getD, List.getElem?_eq_getElem hk]; rfl
  unfold cd
  rw [ei, ek]
  obtain ⟨a, ha⟩ : ∃ a : Nat, l[i] = (a : Int) := ⟨l[i].toNat, by omega⟩
  obtain ⟨b, hb⟩ : ∃ b : Nat, l[k] = (b : Int) := ⟨l[k].toNat, by omega⟩
  rw [ha] at h0
  rw [ha, hb] at hle
  rw [hb] at h15
  rw [ha, hb]
  simp only [Int.toNat_natCast]
  by_cases hab : a = b
  · subst hab
    rw [Nat.sub_self, Nat.pow_zero, Nat.div_one]
    rcases Nat.lt_or_gt_of_ne hne with h | h
    · have := count_take_lt h hi ha; omega
    · have := count_take_lt h hk hb; omega
  · have hlt : a < b := by omega
    have h1 := hf_sr l b (by omega) (by omega)
    have h2 := hf_sr l a (by omega) (by omega)
    have h3 := sr_mono l b (a + 1) (by omega)
    have h4 : sr l (a + 1) = sr l a + cn l a * 2 ^ (15 - a) := by simp only [sr, if_neg (show ¬ a = 0 by omega)]
    have h5 : (l.take i).count (a : Int) + 1 ≤ cn l a := by
      have := count_take_lt (l := l) (i := i) (k := l.length) hi hi ha
      rw [List.take_length] at this
      exact this
    have hp : 2 ^ (15 - a) = 2 ^ (b - a) * 2 ^ (15 - b) := by rw [← Nat.pow_add]; congr 1; omega
    have hq : 0 < 2 ^ (15 - b) := Nat.two_pow_pos _
    have h6 : (2 * hf l a + (l.take i).count (a : Int) + 1) * 2 ^ (15 - a) ≤ 2 * hf l b * 2 ^ (15 - b) := by
      rw [h1]
      refine Nat.le_trans ?_ h3
      rw [h4, ← h2, ← Nat.add_mul]
      exact Nat.mul_le_mul_right _ (by omega)
    have h7 : (2 * hf l a + (l.take i).count (a : Int) + 1) * 2 ^ (b - a) ≤ 2 * hf l b := by
      rw [hp, ← Nat.mul_assoc] at h6
      exact Nat.le_of_mul_le_mul_right h6 hq
    have h8 : (2 * hf l a + (l.take i).count (a : Int) + 1) ≤ (2 * hf l b + (l.take k).count (b : Int)) / 2 ^ (b - a) := by
      rw [Nat.le_div_iff_mul_le (Nat.two_pow_pos _)]
      omega
    omega

theorem shr32 {n m : Nat} (h : m ≤ 15) : shrI .u32 (n : Int) (m : Int) = ((n / 2 ^ m : Nat) : Int) := by
  unfold shrI
  rw [Int.toNat_natCast, show min m IntKind.u32.bits = m by simp [IntKind.bits]; omega, Int.natCast_ediv, Int.natCast_pow]
  rw [Int.fdiv_eq_ediv_of_nonneg _ (Int.pow_nonneg (by decide))]
  rfl

theorem f4_l1_ok (k : Nat) (l : List Int) (h : (judge l).2 = 0) (i : Nat) (hi : i < l.length) : ∀ (n j : Nat), j ≤ l.length → l.length - j < n → f4_l1 k l (codesL l).1 i n j = some (Sum.inr ()) := by
  obtain ⟨hl, hb, hk⟩ := judge_ok h
  have hcl := codesL_length (l := l) (by unfold codesL; rw [if_pos h])
  intro n
  induction n with
  | zero => intro j _ h; omega
  | succ n ih =>
    intro j hj hn
    rw [f4_l1.eq_2]
    simp only [Option.bind_some, bd, bnd']
    by_cases hjl : j < l.length
    · have ei : ix l (i : Int) = some l[i] := ix_nat hi
      have ej : ix l (j : Int) = some l[j] := ix_nat hjl
      have hbi : ¬ badX l[i] := fun hx => hb ⟨_, List.getElem_mem hi, hx⟩
      have hbj : ¬ badX l[j] := fun hx => hb ⟨_, List.getElem_mem hjl, hx⟩
      unfold badX at hbi hbj
      have key : (if (i : Int) = (j : Int) then some false
        else (ix l (i : Int)).bind fun x5334 => if 0 < x5334 then (ix l (j : Int)).bind fun x5336 => (ix l (i : Int)).bind fun x5337 => if x5337 ≤ x5336 then (ix (codesL l).1 (j : Int)).bind fun x5339 => (ix l (j : Int)).bind fun x5340 => (ix l (i : Int)).bind fun x5341 =>
          if 0 ≤ IntKind.wrap .u64 (IntKind.wrap .i64 (x5340 - x5341)) then (ix (codesL l).1 (i : Int)).bind fun x5344 => some (decide (shrI .u32 x5339 (IntKind.wrap .u64 (IntKind.wrap .i64 (x5340 - x5341))) = x5344)) else none else some false else some false) = some false := by
        by_cases hij : (i : Int) = (j : Int)
        · rw [if_pos hij]
        · rw [if_neg hij, ei, ej]
          simp only [Option.bind_some]
          by_cases h0 : 0 < l[i]
          · rw [if_pos h0]
            by_cases hle : l[i] ≤ l[j]
            · have e1 : ix (codesL l).1 (i : Int) = some (cd l i : Int) := by
                unfold ix; rw [if_pos (by omega), Int.toNat_natCast]; exact codesL_get h hi h0
              have e2 : ix (codesL l).1 (j : Int) = some (cd l j : Int) := by
                unfold ix; rw [if_pos (by omega), Int.toNat_natCast]; exact codesL_get h hjl (by omega)
              rw [if_pos hle, e1, e2]
              simp only [Option.bind_some]
              rw [wi (n := l[j] - l[i]) (by omega) (by omega), wu64 (by omega) (by omega), if_pos (by omega), show l[j] - l[i] = ((l[j].toNat - l[i].toNat : Nat) : Int) by omega, shr32 (by omega), df]
              intro he
              exact cd_prefix hi hjl (by omega) h0 hle (by omega) (by omega)
            · rw [if_neg hle]
          · rw [if_neg h0]
      rw [if_pos (by omega), key, wsucc (by omega)]
      simp only [Option.bind_some, bf]
      exact ih (j + 1) (by omega) (by omega)
    · rw [if_neg (by omega)]

theorem f4_l0_ok (k : Nat) (hk : 400 ≤ k) (l : List Int) (h : (judge l).2 = 0) : ∀ (n i : Nat), i ≤ l.length → l.length - i < n → f4_l0 k l (codesL l).1 n i = some (Sum.inr ()) := by
  have hl := (judge_ok h).1
  intro n
  induction n with
  | zero => intro i _ h; omega
  | succ n ih =>
    intro i hi hn
    rw [f4_l0.eq_2]
    simp only [Option.bind_some, bd]
    by_cases hil : i < l.length
    · have e := f4_l1_ok k l h i hil k 0 (by omega) (by omega)
      have e' : f4_l1 k l (codesL l).1 i k 0 = _ := e
      rw [if_pos (by omega), e', wsucc (by omega)]
      exact ih (i + 1) (by omega) (by omega)
    · rw [if_neg (by omega)]

theorem huffPrefix (l : List Int) (hl : l.length ≤ maxLen ∧ ∀ x ∈ l, (Lit.int .i64 x).wf = true) (ul : l.length * 8 ≤ 140737488351232) : ∃ k, f4 k l = some true := by
  refine ⟨400, ?_⟩
  unfold f4
  rw [f14_eq (by omega)]
  simp only [Option.bind_some, bnd', bd, alive (show 64 ≤ 400 by omega)]
  by_cases h : (judge l).2 = 0
  · have h' : (codesL l).2 = 0 := by unfold codesL; rw [if_pos h]
    have e := f4_l0_ok 400 (by omega) l h 400 0 (by omega) (by have := (judge_ok h).1; omega)
    have e' : f4_l0 400 l (codesL l).1 400 0 = _ := e
    rw [if_pos h', e']
    rfl
  · have h' : ¬ (codesL l).2 = 0 := by unfold codesL; rw [if_neg h]; exact h
    have h2 : (codesL l).1 = [] := by unfold codesL; rw [if_neg h]
    rw [if_neg h', h2]
    rfl
end Go.Proofs.Ythgbompoldmhmaa.W
