/- A symbol is read out of the bits of its code. -/
import Derived.Test.YthgbompoldmhmabPh3
namespace Go.Proofs.Ythgbompoldmhmab.W
open Go Go.Q Go.Proofs
set_option linter.unusedVariables false
set_option linter.unusedSimpArgs false

theorem tot_le {l : List Int} (h : (judge l).2 = 0) : tot l ≤ 32768 := by
  obtain ⟨hl, hb, hjk⟩ := judge_ok h
  have e := sr_all hb
  rcases hjk with h1 | h1 | h1
  · simp only [tot]; omega
  · have : ∀ (l : List Int), cntL l = 0 → sumW l = 0 := by
      intro l
      induction l with
      | nil => intro _; rfl
      | cons x l ih =>
        intro h
        have h1 := there_le x
        have h2 := cntL_le l
        simp only [cntL] at h
        have h3 := ih (by omega)
        have h4 : there x = 0 := by omega
        unfold there at h4
        split at h4
        · omega
        · rename_i h5; simp only [sumW, wt, if_neg h5, h3]; rfl
    have := this l h1
    simp only [tot]; omega
  · simp only [tot]; omega

theorem ah_bound {l : List Int} (hl : l.length ≤ 320) : ah l 16 ≤ 4800 := by
  have hle : ∀ d, cn l d ≤ 320 := fun d => Nat.le_trans List.count_le_length hl
  have h3 : ∀ c, 1 ≤ c → ah l c ≤ 320 * (c - 1) := by
    intro c
    induction c with
    | zero => intro h; omega
    | succ c ihc =>
      intro _
      by_cases hc0 : c = 0
      · subst hc0; simp [ah]
      · have := ihc (by omega); have := hle c; simp only [ah, if_neg hc0]; omega
  have := h3 16 (by omega)
  omega

theorem Dec.len {l cs sy : List Int} (hd : Dec l cs sy) : sy.length = ah l 16 := by
  have := symsFrom_length l 15 1 (by omega)
  rw [hd.sy]
  simpa [ah] using this

theorem two_testBit (c L n : Nat) (h : n < L) : c / 2 ^ (L - (n + 1)) = 2 * (c / 2 ^ (L - n)) + (c.testBit (L - 1 - n)).toNat := by
  have e : L - n = (L - (n + 1)) + 1 := by omega
  have e2 : L - 1 - n = L - (n + 1) := by omega
  rw [e, e2, Nat.pow_succ, ← Nat.div_div_eq_div_mul, Nat.testBit_eq_decide_div_mod_eq]
  generalize c / 2 ^ (L - (n + 1)) = q
  by_cases hq : q % 2 = 1
  · simp [hq]; omega
  · simp [hq]; omega

theorem dec_sym (k : Nat) (hk : 400 ≤ k) (l : List Int) (h : (judge l).2 = 0) (cs sy : List Int) (hd : Dec l cs sy) (B : List Int) (hB : okB B) (hBl : B.length ≤ 140737488355328) (s L : Nat) (hs : s < l.length) (hL : l[s] = (L : Int)) (hL1 : 1 ≤ L) :
    ∀ (m n a f : Nat), n + m = L → 1 ≤ n → a + (m + 1) ≤ 8 * B.length → (∀ j, j ≤ m → tk B (a + j) = ((cd l s).testBit (L - n - j)).toNat) → m < f →
    g_huff_Decoder_Next__b_l0 k cs sy f ((cd l s / 2 ^ (L - n + 1) : Nat) : Int) (hf l n) (ah l n) n (B.drop (a / 8)) ((a % 8 : Nat) : Int) = some (Sum.inr ((s : Int), B.drop ((a + m + 1) / 8), (((a + m + 1) % 8 : Nat) : Int))) := by
  obtain ⟨hl, hb, hjk⟩ := judge_ok h
  have hs16 := tot_le h
  have hx : ¬ badX l[s] := fun hx => hb ⟨_, List.getElem_mem hs, hx⟩
  unfold badX at hx
  have hL15 : L ≤ 15 := by omega
  have hcd := cd_lt hs hL1 hL hL15
  have hsy := hd.len
  have hah16 := ah_bound hl
  have es : l.getD s 0 = l[s] := by rw [List.getD_eq_getElem?_getD, List.getElem?_eq_getElem hs]; rfl
  have ecd : cd l s = 2 * hf l L + (l.take s).count (L : Int) := by
    unfold cd
    rw [es, hL, Int.toNat_natCast]
  have hcnt : (l.take s).count (L : Int) < cn l L := by
    have := count_take_lt (l := l) (i := s) (k := l.length) hs hs hL
    rw [List.take_length] at this
    exact this
  have hcdl : cd l s < 32768 := by
    have := hf_small hs16 hL1 hL15
    omega
  intro m
  induction m with
  | zero =>
    intro n a f hn h1 ha ht hf1
    have hn' : n = L := by omega
    subst hn'
    obtain ⟨f, rfl⟩ : ∃ g, f = g + 1 := ⟨f - 1, by omega⟩
    have hahn : ah l (n + 1) = ah l n + cn l n := by simp only [ah, if_neg (show ¬ n = 0 by omega)]
    have hah := ah_le l 16 (n + 1) (by omega)
    have hhs := hf_small hs16 h1 hL15
    have hc := hd.cs n h1 hL15
    have hbit := ht 0 (Nat.le_refl _)
    rw [Nat.add_zero] at hbit
    have hsplit := two_testBit (cd l s) (n + 1) n (by omega)
    rw [Nat.sub_self, Nat.pow_zero, Nat.div_one, show n + 1 - n = n - n + 1 by omega, show n + 1 - 1 - n = n - n - 0 by omega, ← hbit] at hsplit
    have hb1 := tk_le B a
    generalize hv : cd l s / 2 ^ (n - n + 1) = v at *
    rw [g_huff_Decoder_Next__b_l0.eq_2]
    simp only [bd, bnd', Option.bind_some]
    rw [if_pos (show (n : Int) ≤ 15 by omega), hsy, if_neg (by omega), g_bits_Reader_Take_eq k (by omega) B hB hBl a (by omega), if_pos (by omega)]
    simp only [Option.bind_some, if_true]
    have hi : bits .or .i64 (shlI .i64 (v : Int) 1) (IntKind.wrap .i64 (tk B a : Int)) = ((cd l s : Nat) : Int) := by
      rw [shl64 (by omega), wi (by omega) (by omega), or_bit64 (by omega) hb1, hsplit]
    rw [hi, shl64 (n := hf l n) (by omega), wi (n := ((cd l s : Nat) : Int) - ((2 * hf l n : Nat) : Int)) (by omega) (by omega)]
    rw [if_pos (show 0 ≤ (n : Int) ∧ (n : Int) < 16 by omega), Int.toNat_natCast, hc, if_pos (show ((cd l s : Nat) : Int) - ((2 * hf l n : Nat) : Int) < (cn l n : Int) by omega)]
    obtain ⟨j, hj, s1, s2, s3⟩ := sym_get (l := l) (d := n) (r := cd l s - 2 * hf l n) h1 hL15 (by omega)
    have hjs : j = s := by
      rcases Nat.lt_trichotomy j s with h5 | h5 | h5
      · have := count_take_lt h5 hj s2; omega
      · exact h5
      · have := count_take_lt h5 hs hL; omega
    subst hjs
    have es : ix sy (IntKind.wrap .i64 ((ah l n : Int) + (((cd l j : Nat) : Int) - ((2 * hf l n : Nat) : Int)))) = some (j : Int) := by
      rw [wi (by omega) (by omega), show (ah l n : Int) + (((cd l j : Nat) : Int) - ((2 * hf l n : Nat) : Int)) = ((ah l n + (cd l j - 2 * hf l n) : Nat) : Int) by omega]
      unfold ix
      rw [if_pos (by omega), Int.toNat_natCast, hd.sy]
      exact s1
    rw [es]
    rfl
  | succ m ih =>
    intro n a f hn h1 ha ht hf1
    obtain ⟨f, rfl⟩ : ∃ g, f = g + 1 := ⟨f - 1, by omega⟩
    have hn15 : n < 15 := by omega
    have hahn : ah l (n + 1) = ah l n + cn l n := by simp only [ah, if_neg (show ¬ n = 0 by omega)]
    have hahL : ah l (L + 1) = ah l L + cn l L := by simp only [ah, if_neg (show ¬ L = 0 by omega)]
    have hah1 := ah_le l L (n + 1) (by omega)
    have hah2 := ah_le l 16 (L + 1) (by omega)
    have hhs := hf_small hs16 h1 (by omega)
    have hc := hd.cs n h1 (by omega)
    have hcn : cn l n ≤ 320 := Nat.le_trans List.count_le_length hl
    have hbit := ht 0 (by omega)
    rw [Nat.add_zero] at hbit
    have hsplit := two_testBit (cd l s) (L + 1) n (by omega)
    rw [show L + 1 - (n + 1) = L - n by omega, show L + 1 - n = L - n + 1 by omega, show L + 1 - 1 - n = L - n - 0 by omega, ← hbit] at hsplit
    have hb1 := tk_le B a
    have hvle : cd l s / 2 ^ (L - n + 1) ≤ cd l s := Nat.div_le_self _ _
    -- the bits so far
    have hpl : 2 ^ (15 - n) = 2 ^ (L - n) * 2 ^ (15 - L) := by rw [← Nat.pow_add]; congr 1; omega
    have hq : 0 < 2 ^ (15 - L) := Nat.two_pow_pos _
    have hhf1 : hf l (n + 1) = 2 * hf l n + cn l n := by simp only [hf, if_neg (show ¬ n = 0 by omega)]
    have hhf := hf_sr l n h1 (by omega)
    have hsr1 : hf l (n + 1) * 2 ^ (15 - n) = sr l (n + 1) := by rw [hhf1, Nat.add_mul, hhf, sr_step l h1]
    have hsrL := sr_mono l L (n + 1) (by omega)
    have hge : hf l (n + 1) ≤ cd l s / 2 ^ (L - n) := by
      rw [Nat.le_div_iff_mul_le (Nat.two_pow_pos _)]
      have : hf l (n + 1) * 2 ^ (L - n) * 2 ^ (15 - L) ≤ cd l s * 2 ^ (15 - L) := by
        rw [Nat.mul_assoc, ← hpl, hsr1]; omega
      exact Nat.le_of_mul_le_mul_right this hq
    have hlt : cd l s / 2 ^ (L - n) * 2 ^ (15 - n) < tot l := by
      rw [hpl, ← Nat.mul_assoc]
      have h1' : cd l s / 2 ^ (L - n) * 2 ^ (L - n) ≤ cd l s := Nat.div_mul_le_self _ _
      have h2' := Nat.mul_le_mul_right (2 ^ (15 - L)) h1'
      have h3' := hcd.2
      rw [Nat.add_mul, Nat.one_mul] at h3'
      have h4' := sr_mono l 16 (L + 1) (by omega)
      simp only [tot]; omega
    have hv1le : cd l s / 2 ^ (L - n) ≤ cd l s := Nat.div_le_self _ _
    have ihn := ih (n + 1) (a + 1) f (by omega) (by omega) (by omega) (fun j hj => by
      rw [show a + 1 + j = a + (j + 1) by omega, ht (j + 1) (by omega)]
      congr 2; omega) (by omega)
    rw [show L - (n + 1) + 1 = L - n by omega, show a + 1 + m + 1 = a + (m + 1) + 1 by omega] at ihn
    generalize hv : cd l s / 2 ^ (L - n + 1) = v at *
    generalize hv1 : cd l s / 2 ^ (L - n) = v1 at *
    rw [g_huff_Decoder_Next__b_l0.eq_2]
    simp only [bd, bnd', Option.bind_some]
    rw [if_pos (show (n : Int) ≤ 15 by omega), hsy, if_neg (by omega), g_bits_Reader_Take_eq k (by omega) B hB hBl a (by omega), if_pos (by omega)]
    simp only [Option.bind_some, if_true]
    have hi : bits .or .i64 (shlI .i64 (v : Int) 1) (IntKind.wrap .i64 (tk B a : Int)) = (v1 : Int) := by
      rw [shl64 (by omega), wi (by omega) (by omega), or_bit64 (by omega) hb1, hsplit]
    rw [hi, shl64 (n := hf l n) (by omega), wi (n := (v1 : Int) - ((2 * hf l n : Nat) : Int)) (by omega) (by omega)]
    rw [if_pos (show 0 ≤ (n : Int) ∧ (n : Int) < 16 by omega), Int.toNat_natCast, hc, if_neg (show ¬ (v1 : Int) - ((2 * hf l n : Nat) : Int) < (cn l n : Int) by omega)]
    rw [if_pos (show 0 ≤ (n : Int) ∧ (n : Int) < 16 by omega), if_pos (show 0 ≤ (n : Int) ∧ (n : Int) < 16 by omega)]
    have w1 : IntKind.wrap .i64 (((2 * hf l n : Nat) : Int) + (cn l n : Int)) = ((hf l (n + 1) : Nat) : Int) := by rw [wi (by omega) (by omega)]; omega
    have w2 : IntKind.wrap .i64 ((ah l n : Int) + (cn l n : Int)) = ((ah l (n + 1) : Nat) : Int) := by rw [wi (by omega) (by omega)]; omega
    have w3 : IntKind.wrap .i64 ((n : Int) + 1) = ((n + 1 : Nat) : Int) := by rw [wi (by omega) (by omega)]; omega
    simp only [w1, w2, w3, Option.bind_some]
    rw [wi (n := (v1 : Int) - ((hf l (n + 1) : Nat) : Int)) (by omega) (by omega)]
    have hroom : ∃ R : Nat, g_huff_Decoder_begins_l0 k ((n + 1 : Nat) : Int) cs k 0 15 = some (R : Int) ∧ ∀ x : Nat, x < R ↔ x * 2 ^ (16 - (n + 1)) < tot l - sr l (n + 1) := by
      obtain ⟨r, k1, R, rfl, k2⟩ := g_huff_Decoder_begins_l0_ok k l cs hd.cs hl (n + 1) (by omega) k 15 0 (by omega) (by omega) (by omega) (by omega) (fun x => by simp [tot])
      exact ⟨R, k1, k2⟩
    obtain ⟨R, r1, r2⟩ := hroom
    have hgo : v1 - hf l (n + 1) < R := by
      rw [r2, show 16 - (n + 1) = 15 - n by omega, Nat.sub_mul, hsr1]
      have h9 : sr l (n + 1) ≤ v1 * 2 ^ (15 - n) := by rw [← hsr1]; exact Nat.mul_le_mul_right _ hge
      simp only [tot] at *; omega
    have e36 : g_huff_Decoder_begins k ((v1 : Int) - ((hf l (n + 1) : Nat) : Int)) ((n + 1 : Nat) : Int) cs sy = some true := by
      unfold g_huff_Decoder_begins
      rw [r1]
      simp only [Option.bind_some]
      congr 1
      rw [decide_eq_true_eq]
      omega
    rw [e36]
    simp only [Option.bind_some, Bool.not_true, bf]
    exact ihn

/-- A symbol out of its code's bits. -/
theorem dec_next (k : Nat) (hk : 400 ≤ k) (l : List Int) (h : (judge l).2 = 0) (cs sy : List Int) (hd : Dec l cs sy) (B : List Int) (hB : okB B) (hBl : B.length ≤ 140737488355328) (s L a : Nat) (hs : s < l.length) (hL : l[s] = (L : Int)) (hL1 : 1 ≤ L)
    (ha : a + L ≤ 8 * B.length) (ht : ∀ j, j < L → tk B (a + j) = ((cd l s).testBit (L - 1 - j)).toNat) :
    g_huff_Decoder_Next__b k cs (B.drop (a / 8)) ((a % 8 : Nat) : Int) sy = some ((s : Int), 0, B.drop ((a + L) / 8), (((a + L) % 8 : Nat) : Int)) := by
  have hx : ¬ badX l[s] := fun hx => (judge_ok h).2.1 ⟨_, List.getElem_mem hs, hx⟩
  unfold badX at hx
  have hs16 := tot_le h
  have key := dec_sym k hk l h cs sy hd B hB hBl s L hs hL hL1 (L - 1) 1 a k (by omega) (by omega) (by omega) (fun j hj => by rw [ht j (by omega)]) (by omega)
  have hz : cd l s / 2 ^ (L - 1 + 1) = 0 := by
    apply Nat.div_eq_of_lt
    have hcd := (cd_lt hs hL1 hL (by omega)).2
    have h4 := sr_mono l 16 (L + 1) (by omega)
    simp only [tot] at hs16
    have h5 : (cd l s + 1) * 2 ^ (15 - L) ≤ 2 ^ L * 2 ^ (15 - L) := by
      rw [← Nat.pow_add, show L + (15 - L) = 15 by omega]; omega
    have := Nat.le_of_mul_le_mul_right h5 (Nat.two_pow_pos _)
    rw [show L - 1 + 1 = L by omega]; omega
  rw [hz, show a + (L - 1) + 1 = a + L by omega] at key
  have e : g_huff_Decoder_Next__b k cs (B.drop (a / 8)) ((a % 8 : Nat) : Int) sy = ((g_huff_Decoder_Next__b_l0 k cs sy k ((0 : Nat) : Int) ((hf l 1 : Nat) : Int) ((ah l 1 : Nat) : Int) ((1 : Nat) : Int) (B.drop (a / 8)) ((a % 8 : Nat) : Int)).bind fun y => match y with | (Sum.inl (x, _, _)) => some (0, x, (B.drop (a / 8)), ((a % 8 : Nat) : Int)) | (Sum.inr (x, y, z)) => some (x, 0, y, z)) := rfl
  rw [e, key]
  rfl
end Go.Proofs.Ythgbompoldmhmab.W
