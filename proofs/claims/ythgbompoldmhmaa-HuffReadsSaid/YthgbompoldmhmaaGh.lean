/- HuffReads: the pure part. -/
import Derived.Test.YthgbompoldmhmaaGg
namespace Go.Proofs.Ythgbompoldmhmaa.W
open Go Go.Q Go.Proofs
set_option linter.unusedVariables false
set_option linter.unusedSimpArgs false

theorem shl64 {n : Nat} (h : n ≤ 65536) : shlI .i64 (n : Int) 1 = ((2 * n : Nat) : Int) := by
  show IntKind.wrap .i64 ((n : Int) * 2) = _
  rw [wi (by omega) (by omega)]
  omega

theorem or_bit {v b : Nat} (hb : b ≤ 1) : 2 * v ||| b = 2 * v + b := by
  rcases Nat.le_one_iff_eq_zero_or_eq_one.1 hb with rfl | rfl
  · simp
  · apply Nat.eq_of_testBit_eq
    intro i
    rw [Nat.testBit_or]
    cases i with
    | zero => simp [Nat.testBit_zero]
    | succ i => rw [Nat.testBit_succ, Nat.testBit_succ, Nat.testBit_succ, show 2 * v / 2 = v by omega, show (2 * v + 1) / 2 = v by omega]; simp

theorem or_bit64 {v b : Nat} (hv : v ≤ 65536) (hb : b ≤ 1) : bits .or .i64 (((2 * v : Nat) : Int)) (b : Int) = ((2 * v + b : Nat) : Int) := by
  have e : bits .or .i64 (((2 * v : Nat) : Int)) (b : Int) = IntKind.wrap .i64 ((BitVec.ofInt 64 ((2 * v : Nat) : Int) ||| BitVec.ofInt 64 (b : Int)).toNat : Int) := rfl
  rw [e, BitVec.ofInt_natCast, BitVec.ofInt_natCast, BitVec.toNat_or, BitVec.toNat_ofNat, BitVec.toNat_ofNat, Nat.mod_eq_of_lt (by omega), Nat.mod_eq_of_lt (by omega), or_bit hb, wi (by omega) (by omega)]
theorem or_bit32 {v b : Nat} (hv : v ≤ 65536) (hb : b ≤ 1) : bits .or .u32 (shlI .u32 (v : Int) 1) (b : Int) = ((2 * v + b : Nat) : Int) := by
  rw [shl32 hv]
  have e : bits .or .u32 (((2 * v : Nat) : Int)) (b : Int) = IntKind.wrap .u32 ((BitVec.ofInt 32 ((2 * v : Nat) : Int) ||| BitVec.ofInt 32 (b : Int)).toNat : Int) := rfl
  rw [e, BitVec.ofInt_natCast, BitVec.ofInt_natCast, BitVec.toNat_or, BitVec.toNat_ofNat, BitVec.toNat_ofNat, Nat.mod_eq_of_lt (by omega), Nat.mod_eq_of_lt (by omega), or_bit hb, wu32 (by omega) (by omega)]

/-- What the program's and the document's search come to, from a length on. -/
inductive Both (l : List Int) (B : List Int) (a0 : Nat) : Option ((Int × (List Int) × Int) ⊕ (Int × (List Int) × Int)) → Option ((Int × Int × Int) ⊕ Int) → Prop
  | err (e : Int) (b : List Int) (p : Int) (he : e ≠ 0) : Both l B a0 (some (Sum.inl (e, b, p))) (some (Sum.inl (0, e, (a0 : Int))))
  | end_ (b : List Int) (p a : Int) : Both l B a0 (some (Sum.inl (11, b, p))) (some (Sum.inr a))
  | sym (s : Int) (a : Nat) (ha : a ≤ 8 * B.length) : Both l B a0 (some (Sum.inr (s, B.drop (a / 8), ((a % 8 : Nat) : Int)))) (some (Sum.inl (s, 0, (a : Int))))

theorem next_ok (k : Nat) (hk : 400 ≤ k) (l : List Int) (h : (judge l).2 = 0) (cs sy : List Int) (hd : Dec l cs sy) (B : List Int) (hB : okB B) (hBl : B.length ≤ 140737488355328) (a0 : Nat) :
    ∀ (m n v a f1 f2 : Nat), n + m = 16 → 1 ≤ n → v < 2 ^ (n - 1) → sr l n ≤ v * 2 ^ (16 - n) → a ≤ 8 * B.length → (n = 1 ∨ n = 16 ∨ v * 2 ^ (16 - n) < tot l) → m < f1 → m < f2 →
    Both l B a0 (f21d_l0 k cs sy f1 v (hf l n) (ah l n) n (B.drop (a / 8)) ((a % 8 : Nat) : Int)) (f22_l0 k l (codesL l).1 B a0 f2 v n a) := by
  obtain ⟨hl, hb, hjk⟩ := judge_ok h
  have hs : tot l ≤ 32768 := by
    have e := sr_all hb
    rcases hjk with h1 | h1 | h1
    · simp only [tot]; omega
    · have : ∀ (l : List Int), cntL l = 0 → sumW l = 0 := by
        intro l
        induction l with
        | nil => intro _; rfl
        | cons x l ih =>
          intro h
          have h1 := there_le x
          have h2 := cntL_le l
          simp only [cntL] at h
          have h3 := ih (by omega)
          have h4 : there x = 0 := by omega
          unfold there at h4
          split at h4
          · omega
          · rename_i h5; simp only [sumW, wt, if_neg h5, h3]; rfl
      have := this l h1
      simp only [tot]; omega
    · simp only [tot]; omega
  intro m
  induction m with
  | zero =>
    intro n v a f1 f2 hn h1 hv hsr ha hgo hf1 hf2
    have : n = 16 := by omega
    subst this
    obtain ⟨f1, rfl⟩ : ∃ f, f1 = f + 1 := ⟨f1 - 1, by omega⟩
    obtain ⟨f2, rfl⟩ : ∃ f, f2 = f + 1 := ⟨f2 - 1, by omega⟩
    rw [f21d_l0.eq_2, f22_l0.eq_2, bd, bd, if_neg (by omega), if_neg (by omega)]
    exact .end_ _ _ _
  | succ m ih =>
    intro n v a f1 f2 hn h1 hv hsr ha hgo hf1 hf2
    obtain ⟨f1, rfl⟩ : ∃ f, f1 = f + 1 := ⟨f1 - 1, by omega⟩
    obtain ⟨f2, rfl⟩ : ∃ f, f2 = f + 1 := ⟨f2 - 1, by omega⟩
    have h15 : n ≤ 15 := by omega
    have hpv : 2 ^ (n - 1) ≤ 16384 := by
      have : 2 ^ (n - 1) ≤ 2 ^ 14 := Nat.pow_le_pow_right (by decide) (by omega)
      omega
    have hhf := hf_sr l n h1 h15
    have hp : 2 ^ (16 - n) = 2 * 2 ^ (15 - n) := by rw [show 16 - n = (15 - n) + 1 by omega, Nat.pow_succ]; omega
    have hq : 0 < 2 ^ (15 - n) := Nat.two_pow_pos _
    have hfv : hf l n ≤ v := by
      rw [hp, ← hhf] at hsr
      have : hf l n * (2 * 2 ^ (15 - n)) ≤ v * (2 * 2 ^ (15 - n)) := by
        rw [show hf l n * (2 * 2 ^ (15 - n)) = 2 * hf l n * 2 ^ (15 - n) by rw [Nat.mul_comm 2 (hf l n), Nat.mul_assoc]]; exact hsr
      exact Nat.le_of_mul_le_mul_right this (by omega)
    have hc := hd.cs n h1 h15
    have hcn : cn l n ≤ 320 := Nat.le_trans List.count_le_length hl
    have hsy : sy.length = ah l 16 := by
      have := symsFrom_length l 15 1 (by omega)
      rw [hd.sy]
      simpa [ah] using this
    have hah := ah_le l 16 (n + 1) (by omega)
    have hahn : ah l (n + 1) = ah l n + cn l n := by simp only [ah, if_neg (show ¬ n = 0 by omega)]
    have hah16 : ah l 16 ≤ 4800 := by
      have hle : ∀ d, cn l d ≤ 320 := fun d => Nat.le_trans List.count_le_length hl
      have : ∀ c, ah l c ≤ 320 * c := by
        intro c
        induction c with
        | zero => simp [ah]
        | succ c ihc => simp only [ah]; have := hle c; split <;> omega
      have := this 16
      have h2 : ah l 16 = ah l 15 + cn l 15 := by simp [ah]
      have h3 : ∀ c, 1 ≤ c → ah l c ≤ 320 * (c - 1) := by
        intro c
        induction c with
        | zero => intro h; omega
        | succ c ihc =>
          intro _
          by_cases hc0 : c = 0
          · subst hc0; simp [ah]
          · have := ihc (by omega); have := hle c; simp only [ah, if_neg hc0]; omega
      have := h3 16 (by omega)
      omega
    -- when no symbol is left
    have hgoes := goesOn_iff (v := v) hb h1 h15 hsr
    have hleft : ah l n = ah l 16 ↔ ¬ v * 2 ^ (16 - n) < tot l := by
      have back : ∀ (q c : Nat), c + q = 16 → 1 ≤ c → (ah l c = ah l 16 ↔ sr l c = sr l 16) := by
        intro q
        induction q with
        | zero => intro c hc _; have : c = 16 := by omega
                  subst this; simp
        | succ q ihq =>
          intro c hc h1c
          have e1 : ah l (c + 1) = ah l c + cn l c := by simp only [ah, if_neg (show ¬ c = 0 by omega)]
          have e2 := sr_step l h1c
          have e3 := ah_le l 16 (c + 1) (by omega)
          have e4 := sr_mono l 16 (c + 1) (by omega)
          have i := ihq (c + 1) (by omega) (by omega)
          have hq : 0 < 2 ^ (15 - c) := Nat.two_pow_pos _
          constructor
          · intro h
            have : cn l c = 0 := by omega
            rw [this] at e1 e2
            rw [← i.1 (by omega)]; omega
          · intro h
            have h0 : cn l c * 2 ^ (15 - c) = 0 := by omega
            have : cn l c = 0 := by
              rcases Nat.mul_eq_zero.1 h0 with h | h
              · exact h
              · omega
            have := i.2 (by omega)
            omega
      have b := back (m + 1) n (by omega) h1
      have hsn := sr_mono l 16 n (by omega)
      rw [b]
      rcases hgo with rfl | h16 | h2
      · have hv0 : v = 0 := by simpa using hv
        subst hv0
        have h1z : sr l 1 = 0 := rfl
        rw [h1z]
        simp only [tot, Nat.zero_mul]; omega
      · omega
      · simp only [tot] at *; omega
    rw [f21d_l0.eq_2, f22_l0.eq_2]
    simp only [bd, bnd', Option.bind_some]
    rw [if_pos (show (n : Int) ≤ 15 by omega), if_pos (show (n : Int) ≤ 15 by omega)]
    obtain ⟨b', g1, g2⟩ := f22_l1_ok k l h n v h1 h15 k 0 false (by omega) (by omega)
    have g1' : f22_l1 k l (codesL l).1 v n k false 0 = some b' := g1
    have g3 : b' = true ↔ v * 2 ^ (16 - n) < tot l := by
      rw [g2, ← hgoes]
      simp [goesOn]
    rw [g1', hsy]
    simp only [Option.bind_some]
    by_cases hcont : v * 2 ^ (16 - n) < tot l
    · have hb' : b' = true := g3.2 hcont
      subst hb'
      rw [if_neg (fun h => (hleft.1 (by omega)) hcont), f35_eq k (by omega) B hB hBl a ha, f37_eq k (by omega) B hB hBl a ha]
      simp only [Bool.not_true, bf]
      by_cases hend : a < 8 * B.length
      · rw [if_pos hend, if_pos hend]
        simp only [Option.bind_some, if_true]
        have hbit := tk_le B a
        generalize hbv : tk B a = b at *
        have hu : bits .or .u32 (shlI .u32 (v : Int) 1) (b : Int) = ((2 * v + b : Nat) : Int) := or_bit32 (by omega) hbit
        rw [hu]
        have hi : bits .or .i64 (shlI .i64 (v : Int) 1) (IntKind.wrap .i64 (b : Int)) = ((2 * v + b : Nat) : Int) := by
          rw [shl64 (by omega), wi (by omega) (by omega)]; exact or_bit64 (by omega) hbit
        rw [hi, shl64 (n := hf l n) (by omega), wi (n := ((2 * v + b : Nat) : Int) - ((2 * hf l n : Nat) : Int)) (by omega) (by omega)]
        rw [if_pos (show 0 ≤ (n : Int) ∧ (n : Int) < 16 by omega), Int.toNat_natCast, hc]
        have hk2 := f22_l2_ok k l h n v b (2 * v + b) h1 hu k 0 (by omega) (by omega) (fun j hj hj0 => by omega)
        have huniq : ∀ j (hj : j < l.length), l[j] = (n : Int) → cd l j = 2 * hf l n + (l.take j).count (n : Int) := by
          intro j hj hn'
          have ej : l.getD j 0 = l[j] := by rw [List.getD_eq_getElem?_getD, List.getElem?_eq_getElem hj]; rfl
          unfold cd
          rw [ej, hn', Int.toNat_natCast]
        by_cases hfound : 2 * v + b - 2 * hf l n < cn l n
        · -- found
          obtain ⟨j, hj, s1, s2, s3⟩ := sym_get (l := l) (d := n) (r := 2 * v + b - 2 * hf l n) h1 h15 hfound
          have hcdj : cd l j = 2 * v + b := by rw [huniq j hj s2, s3]; omega
          rcases hk2 with ⟨j', hj', t1, t2, t3⟩ | ⟨t1, _⟩
          · have hjj : j' = j := by
              rw [huniq j' hj' t1] at t2
              have t4 : (l.take j').count (n : Int) = (l.take j).count (n : Int) := by omega
              rcases Nat.lt_trichotomy j' j with h5 | h5 | h5
              · have := count_take_lt h5 hj' t1; omega
              · exact h5
              · have := count_take_lt h5 hj s2; omega
            subst hjj
            have t3' : f22_l2 k l (codesL l).1 v n b k 0 = _ := t3
            rw [t3', if_pos (show ((2 * v + b : Nat) : Int) - ((2 * hf l n : Nat) : Int) < (cn l n : Int) by omega)]
            have es : ix sy (IntKind.wrap .i64 ((ah l n : Int) + (((2 * v + b : Nat) : Int) - ((2 * hf l n : Nat) : Int)))) = some (j' : Int) := by
              rw [wi (by omega) (by omega), show (ah l n : Int) + (((2 * v + b : Nat) : Int) - ((2 * hf l n : Nat) : Int)) = ((ah l n + (2 * v + b - 2 * hf l n) : Nat) : Int) by omega]
              unfold ix
              rw [if_pos (by omega), Int.toNat_natCast, hd.sy]
              exact s1
            simp only [Option.bind_some, es]
            exact .sym _ (a + 1) (by omega)
          · exact absurd ⟨s2, hcdj⟩ (t1 j hj)
        · -- not found
          rcases hk2 with ⟨j', hj', t1, t2, t3⟩ | ⟨_, t3⟩
          · rw [huniq j' hj' t1] at t2
            have := count_take_lt (l := l) (i := j') (k := l.length) hj' hj' t1
            rw [List.take_length] at this
            simp only [cn] at hfound
            omega
          · have t3' : f22_l2 k l (codesL l).1 v n b k 0 = _ := t3
            have hf1 : hf l (n + 1) = 2 * hf l n + cn l n := by simp only [hf, if_neg (show ¬ n = 0 by omega)]
            rw [t3', if_neg (show ¬ ((2 * v + b : Nat) : Int) - ((2 * hf l n : Nat) : Int) < (cn l n : Int) by omega), if_pos (show 0 ≤ (n : Int) ∧ (n : Int) < 16 by omega), if_pos (show 0 ≤ (n : Int) ∧ (n : Int) < 16 by omega)]
            simp only [Option.bind_some]
            have w1 : IntKind.wrap .i64 (((2 * hf l n : Nat) : Int) + (cn l n : Int)) = ((hf l (n + 1) : Nat) : Int) := by rw [wi (by omega) (by omega)]; omega
            have w2 : IntKind.wrap .i64 ((ah l n : Int) + (cn l n : Int)) = ((ah l (n + 1) : Nat) : Int) := by rw [wi (by omega) (by omega)]; omega
            have w3 : IntKind.wrap .i64 ((n : Int) + 1) = ((n + 1 : Nat) : Int) := by rw [wi (by omega) (by omega)]; omega
            rw [w1, w2, w3, wi (n := ((2 * v + b : Nat) : Int) - ((hf l (n + 1) : Nat) : Int)) (by omega) (by omega)]
            -- the room of longer codes
            have hroom : ∃ R : Nat, f36_l0 k ((n + 1 : Nat) : Int) cs k 0 15 = some (R : Int) ∧ ∀ x : Nat, x < R ↔ x * 2 ^ (16 - (n + 1)) < tot l - sr l (n + 1) := by
              obtain ⟨r, k1, R, rfl, k2⟩ := f36_l0_ok k l cs hd.cs hl (n + 1) (by omega) k 15 0 (by omega) (by omega) (by omega) (by omega) (fun x => by simp [tot])
              exact ⟨R, k1, k2⟩
            obtain ⟨R, r1, r2⟩ := hroom
            have e36 : f36 k (((2 * v + b : Nat) : Int) - ((hf l (n + 1) : Nat) : Int)) ((n + 1 : Nat) : Int) cs sy = some (decide (2 * v + b - hf l (n + 1) < R)) := by
              unfold f36
              rw [r1]
              simp only [Option.bind_some]
              congr 1
              rw [decide_eq_decide]
              omega
            rw [e36]
            simp only [Option.bind_some, bnd']
            have hp1 : 16 - (n + 1) = 15 - n := by omega
            have hsr1 : sr l (n + 1) ≤ (2 * v + b) * 2 ^ (16 - (n + 1)) := by
              rw [hp1, sr_step l h1, ← hhf, ← Nat.add_mul]
              exact Nat.mul_le_mul_right _ (by omega)
            have hv1 : 2 * v + b < 2 ^ (n + 1 - 1) := by
              have : 2 ^ (n + 1 - 1) = 2 * 2 ^ (n - 1) := by rw [show n + 1 - 1 = (n - 1) + 1 by omega, Nat.pow_succ]; omega
              omega
            have hrel : 2 * v + b - hf l (n + 1) < R ↔ (2 * v + b) * 2 ^ (16 - (n + 1)) < tot l := by
              rw [r2, hp1, Nat.sub_mul]
              have e5 : hf l (n + 1) * 2 ^ (15 - n) = sr l (n + 1) := by rw [hf1, Nat.add_mul, hhf, sr_step l h1]
              rw [e5]
              have := sr_mono l 16 (n + 1) (by omega)
              rw [hp1] at hsr1
              simp only [tot]; omega
            by_cases hgo1 : 2 * v + b - hf l (n + 1) < R
            · rw [if_pos hgo1]
              exact ih (n + 1) (2 * v + b) (a + 1) f1 f2 (by omega) (by omega) hv1 hsr1 (by omega) (.inr (.inr (hrel.1 hgo1))) (by omega) (by omega)
            · rw [if_neg hgo1]
              by_cases hn15 : n = 15
              · subst hn15
                obtain ⟨f2, rfl⟩ : ∃ f, f2 = f + 1 := ⟨f2 - 1, by omega⟩
                rw [f22_l0.eq_2, bd, if_neg (by omega)]
                exact .end_ _ _ _
              · -- the document sees at its next step that none goes on
                obtain ⟨f2, rfl⟩ : ∃ f, f2 = f + 1 := ⟨f2 - 1, by omega⟩
                obtain ⟨b2, q1, q2⟩ := f22_l1_ok k l h (n + 1) (2 * v + b) (by omega) (by omega) k 0 false (by omega) (by omega)
                have q1' : f22_l1 k l (codesL l).1 ((2 * v + b : Nat) : Int) ((n + 1 : Nat) : Int) k false 0 = some b2 := q1
                have q3 : b2 = false := by
                  cases b2 with
                  | false => rfl
                  | true =>
                    exfalso
                    have q4 := q2.1 rfl
                    have q5 : goesOn l (n + 1) (2 * v + b) := by
                      rcases q4 with q4 | ⟨j, _, q4⟩
                      · cases q4
                      · exact ⟨j, q4⟩
                    exact hgo1 (hrel.2 ((goesOn_iff hb (by omega) (by omega) hsr1).1 q5))
                subst q3
                rw [f22_l0.eq_2, bd, if_pos (by omega), q1']
                simp only [Option.bind_some, Bool.not_false, bt]
                exact .err 11 _ _ (by decide)
      · rw [if_neg hend, if_neg hend]
        simp only [Option.bind_some]
        rw [if_neg (by decide), if_neg (by decide)]
        exact .err 10 _ _ (by decide)
    · have hb' : b' = false := by
        cases b' with
        | false => rfl
        | true => exact absurd (g3.1 rfl) hcont
      subst hb'
      rw [if_pos (by have := hleft.2 hcont; omega)]
      simp only [Bool.not_false, bt]
      exact .err 11 _ _ (by decide)
end Go.Proofs.Ythgbompoldmhmaa.W
