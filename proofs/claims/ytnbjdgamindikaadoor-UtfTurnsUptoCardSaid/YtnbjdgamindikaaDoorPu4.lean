/- Right texts: the library's loop. -/
import Derived.Test.YtnbjdgamindikaaDoorPu3
namespace Go.Proofs.YtnbjdgamindikaaDoor.W
open Go Go.Q Go.Proofs
set_option linter.unusedVariables false
set_option linter.unusedSimpArgs false

theorem cutOk {a n : Int} (h0 : 0 ≤ a) (h1 : a ≤ n) : decide (0 ≤ a ∧ a ≤ n ∧ n ≤ n) = true := dt ⟨h0, h1, Int.le_refl n⟩
theorem hdL (s : ByteArray) (p : Nat) : L (s.extract p (Int.toNat ((L s).length : Int))) = (L s).drop p := by rw [← sizeL, L_drop]
theorem asc1 {s : ByteArray} {k : Nat} (h : 8 ≤ (L s).length) : ((g_unicode_utf8_word_string k s).bind fun x => ((some (bits .and .u64 x 9259542123273814144)).bind fun y => some (decide (y = 0)))) = some (decide (((wd (L s) &&& 0x8080808080808080#64).toNat : Int) = 0)) := by
  rw [word_eq h]
  simp only [Option.bind_some, and_mask]

/-- Behind a byte below 128. -/
theorem mid {k : Nat} (s : ByteArray) (hk : (L s).length < k) : Ret (((some (decide (8 < ((ByteArray.size s : Nat) : Int)))).bind fun x8401 => (bif x8401 then ((g_unicode_utf8_word_string k s).bind fun x8404 => ((some (bits .and .u64 x8404 9259542123273814144)).bind fun x8405 => some (decide (x8405 = 0)))) else some false)).bind fun x8400 =>
    (bif x8400 then (bif (decide (0 ≤ (8 : Int) ∧ (8 : Int) ≤ ((ByteArray.size s : Nat) : Int) ∧ ((ByteArray.size s : Nat) : Int) ≤ ((ByteArray.size s : Nat) : Int))) then ((some (ByteArray.extract s (Int.toNat 8) (Int.toNat ((ByteArray.size s : Nat) : Int)))).bind fun x8409 => (((some (decide (16 < ((ByteArray.size x8409 : Nat) : Int)))).bind fun x8438 => (bif x8438 then (bif (decide (0 ≤ (8 : Int) ∧ (8 : Int) ≤ ((ByteArray.size x8409 : Nat) : Int) ∧ ((ByteArray.size x8409 : Nat) : Int) ≤ ((ByteArray.size x8409 : Nat) : Int))) then ((some (ByteArray.extract x8409 (Int.toNat 8) (Int.toNat ((ByteArray.size x8409 : Nat) : Int)))).bind fun x8441 => ((g_unicode_utf8_word_string k x8409).bind fun x8443 => ((g_unicode_utf8_word_string k x8441).bind fun x8445 => ((some (bits .and .u64 (bits .or .u64 x8443 x8445) 9259542123273814144)).bind fun x8446 => some (decide (x8446 = 0)))))) else none) else some false)).bind fun x8428 => (bif x8428 then (bif (decide (0 ≤ (16 : Int) ∧ (16 : Int) ≤ ((ByteArray.size x8409 : Nat) : Int) ∧ ((ByteArray.size x8409 : Nat) : Int) ≤ ((ByteArray.size x8409 : Nat) : Int))) then ((some (ByteArray.extract x8409 (Int.toNat 16) (Int.toNat ((ByteArray.size x8409 : Nat) : Int)))).bind fun x8450 => ((g_unicode_utf8_ValidString_l1 k k x8450).bind fun x8756 => some x8756)) else none) else some x8409))) else none) else some s))
    fun r => validL (L r) = validL (L s) ∧ (L r).length ≤ (L s).length := by
  simp only [Option.bind_some, sizeL]
  by_cases h8 : 8 < (L s).length
  · rw [dt (show (8 : Int) < ((L s).length : Int) by omega)]
    simp only [bt]
    rw [word_eq (by omega)]
    simp only [Option.bind_some, and_mask]
    by_cases hz : ((wd (L s) &&& 0x8080808080808080#64).toNat : Int) = 0
    · rw [dt hz]
      simp only [bt]
      rw [cutOk (by omega) (by omega)]
      simp only [bt]
      have e8 : L (s.extract (Int.toNat 8) (Int.toNat ((L s).length : Int))) = (L s).drop 8 := hdL s 8
      have hs8 := valid_skip 8 (by omega) (wd_asc (mask0 hz))
      generalize s.extract (Int.toNat 8) (Int.toNat ((L s).length : Int)) = u at *
      have hul : (L u).length = (L s).length - 8 := by rw [e8, List.length_drop]
      rw [← e8] at hs8
      by_cases h16 : 16 < (L u).length
      · rw [dt (show (16 : Int) < ((L u).length : Int) by omega), cutOk (a := 8) (by omega) (by omega), cutOk (a := 16) (by omega) (by omega)]
        simp only [bt]
        have e9 : L (u.extract (Int.toNat 8) (Int.toNat ((L u).length : Int))) = (L u).drop 8 := hdL u 8
        rw [word_eq (by omega), word_eq (by rw [e9, List.length_drop]; omega), e9]
        simp only [Option.bind_some, u64_or, and_mask]
        by_cases hz2 : (((wd (L u) ||| wd ((L u).drop 8)) &&& 0x8080808080808080#64).toNat : Int) = 0
        · rw [dt hz2]
          simp only [bt]
          obtain ⟨m1, m2⟩ := mask_or (mask0 hz2)
          have a0 := wd_asc m1; have a1 := asc_drop (wd_asc m2)
          have hsk := valid_skip (l := L u) 16 (by omega) (fun i hi => by
            by_cases i1 : i < 8
            · exact a0 i i1
            · exact a1 i (by omega) (by omega))
          have e16 : L (u.extract (Int.toNat 16) (Int.toNat ((L u).length : Int))) = (L u).drop 16 := hdL u 16
          obtain ⟨r, h1, h2, h3⟩ := l1_valid (k := k) k (u.extract (Int.toNat 16) (Int.toNat ((L u).length : Int))) (by rw [e16, List.length_drop]; omega)
          rw [h1]
          refine Ret.pure ⟨?_, ?_⟩
          · rw [h2, e16, hsk, hs8]
          · rw [e16, List.length_drop] at h3; omega
        · rw [df hz2]
          exact Ret.pure ⟨hs8, by omega⟩
      · rw [df (show ¬ (16 : Int) < ((L u).length : Int) by omega)]
        exact Ret.pure ⟨hs8, by omega⟩
    · rw [df hz]
      exact Ret.pure ⟨rfl, Nat.le_refl _⟩
  · rw [df (show ¬ (8 : Int) < ((L s).length : Int) by omega)]
    exact Ret.pure ⟨rfl, Nat.le_refl _⟩

theorem ixL {s : ByteArray} {i : Nat} (h : i < (L s).length) : ix (strInts s) (i : Int) = some (byt (L s) i : Int) := by rw [strInts_L, ix_I h]
/-- What the tables say of a first byte. -/
theorem tabs_at {b : Nat} (h1 : 128 ≤ b) (h2 : b < 256) : 0 ≤ ixOf b ∧ ixOf b < 16 ∧
    ((b < 194 ∨ 244 < b) ∧ szOf b = 1 ∨ (194 ≤ b ∧ b < 224 ∧ szOf b = 2 ∧ ixOf b = 0) ∨ (b = 224 ∧ szOf b = 3 ∧ ixOf b = 1) ∨ (b = 237 ∧ szOf b = 3 ∧ ixOf b = 2) ∨ (224 < b ∧ b < 240 ∧ b ≠ 237 ∧ szOf b = 3 ∧ ixOf b = 0) ∨ (b = 240 ∧ szOf b = 4 ∧ ixOf b = 3) ∨ (b = 244 ∧ szOf b = 4 ∧ ixOf b = 4) ∨ (240 < b ∧ b < 244 ∧ szOf b = 4 ∧ ixOf b = 0)) := by
  have h := tck_at h1 h2
  unfold tck at h
  revert h
  generalize szOf b = sz
  generalize ixOf b = i
  intro h
  split at h
  · simp only [Bool.and_eq_true, beq_iff_eq, decide_eq_true_eq] at h; exact ⟨by omega, by omega, .inl ⟨by omega, by omega⟩⟩
  · split at h
    · simp only [Bool.and_eq_true, beq_iff_eq, decide_eq_true_eq] at h; exact ⟨by omega, by omega, .inr (.inl ⟨by omega, by omega, by omega, by omega⟩)⟩
    · split at h
      · simp only [Bool.and_eq_true, beq_iff_eq, decide_eq_true_eq] at h; exact ⟨by omega, by omega, .inr (.inr (.inl ⟨by omega, by omega, by omega⟩))⟩
      · split at h
        · simp only [Bool.and_eq_true, beq_iff_eq, decide_eq_true_eq] at h; exact ⟨by omega, by omega, .inr (.inr (.inr (.inl ⟨by omega, by omega, by omega⟩)))⟩
        · split at h
          · simp only [Bool.and_eq_true, beq_iff_eq, decide_eq_true_eq] at h; exact ⟨by omega, by omega, .inr (.inr (.inr (.inr (.inl ⟨by omega, by omega, by omega, by omega, by omega⟩))))⟩
          · split at h
            · simp only [Bool.and_eq_true, beq_iff_eq, decide_eq_true_eq] at h; exact ⟨by omega, by omega, .inr (.inr (.inr (.inr (.inr (.inl ⟨by omega, by omega, by omega⟩)))))⟩
            · split at h
              · simp only [Bool.and_eq_true, beq_iff_eq, decide_eq_true_eq] at h; exact ⟨by omega, by omega, .inr (.inr (.inr (.inr (.inr (.inr (.inl ⟨by omega, by omega, by omega⟩))))))⟩
              · simp only [Bool.and_eq_true, beq_iff_eq, decide_eq_true_eq] at h; exact ⟨by omega, by omega, .inr (.inr (.inr (.inr (.inr (.inr (.inr ⟨by omega, by omega, by omega, by omega⟩))))))⟩
def lo (i : Int) : Int := if i = 1 then 160 else if i = 3 then 144 else 128
def hi (i : Int) : Int := if i = 2 then 159 else if i = 4 then 143 else 191
theorem tabA_at {i : Int} (h0 : 0 ≤ i) (h1 : i ≤ 4) : ((List.getD tabA (Int.toNat i) (default : S_unicode_utf8_acceptRange))).flo = lo i ∧ ((List.getD tabA (Int.toNat i) (default : S_unicode_utf8_acceptRange))).fhi = hi i := by
  obtain rfl | rfl | rfl | rfl | rfl : i = 0 ∨ i = 1 ∨ i = 2 ∨ i = 3 ∨ i = 4 := by omega
  all_goals exact ⟨rfl, rfl⟩

theorem bad_isL {l : List UInt8} (h0 : 0 < l.length) (h : ∀ c w, ¬ okL l c w) : validL l = false := by
  rw [validL_cons h0]
  have : isL l = false := by
    apply Bool.eq_false_iff.2
    intro h'
    exact h _ _ ((isL_iff h0).1 h')
  rw [this]; rfl
theorem good_isL {l : List UInt8} {c w : Nat} (h : okL l c w) : validL l = validL (l.drop w) := by
  have h0 : 0 < l.length := by have := okL_w h; omega
  rw [validL_cons h0, isL_of h, decL_of h]; rfl

theorem okL_inv {l : List UInt8} {c w : Nat} (h : okL l c w) : byt l 0 < 128 ∨ (194 ≤ byt l 0 ∧ byt l 0 < 224 ∧ 2 ≤ l.length ∧ 128 ≤ byt l 1 ∧ byt l 1 ≤ 191) ∨
    (224 ≤ byt l 0 ∧ byt l 0 < 240 ∧ 3 ≤ l.length ∧ 128 ≤ byt l 1 ∧ byt l 1 ≤ 191 ∧ 128 ≤ byt l 2 ∧ byt l 2 ≤ 191 ∧ (byt l 0 = 224 → 160 ≤ byt l 1) ∧ (byt l 0 = 237 → byt l 1 ≤ 159)) ∨
    (240 ≤ byt l 0 ∧ byt l 0 ≤ 244 ∧ 4 ≤ l.length ∧ 128 ≤ byt l 1 ∧ byt l 1 ≤ 191 ∧ 128 ≤ byt l 2 ∧ byt l 2 ≤ 191 ∧ 128 ≤ byt l 3 ∧ byt l 3 ≤ 191 ∧ (byt l 0 = 240 → 144 ≤ byt l 1) ∧ (byt l 0 = 244 → byt l 1 ≤ 143)) := by
  rcases h with ⟨rfl, h⟩ | ⟨rfl, h⟩ | ⟨rfl, h⟩ | ⟨rfl, h⟩
  · exact .inl (by omega)
  · exact .inr (.inl ⟨by omega, by omega, by omega, by omega, by omega⟩)
  · exact .inr (.inr (.inl ⟨by omega, by omega, by omega, by omega, by omega, by omega, by omega, by omega, by omega⟩))
  · exact .inr (.inr (.inr ⟨by omega, by omega, by omega, by omega, by omega, by omega, by omega, by omega, by omega, by omega, by omega⟩))
theorem ok2 {l : List UInt8} (h : 2 ≤ l.length) (a0 : 194 ≤ byt l 0 ∧ byt l 0 < 224) (a1 : 128 ≤ byt l 1 ∧ byt l 1 ≤ 191) : okL l ((byt l 0 - 192) * 64 + (byt l 1 - 128)) 2 :=
  .inr (.inl ⟨rfl, h, by omega, by omega, by omega, by omega⟩)
theorem ok3 {l : List UInt8} (h : 3 ≤ l.length) (a0 : 224 ≤ byt l 0 ∧ byt l 0 < 240) (a1 : 128 ≤ byt l 1 ∧ byt l 1 ≤ 191) (a2 : 128 ≤ byt l 2 ∧ byt l 2 ≤ 191) (l1 : byt l 0 = 224 → 160 ≤ byt l 1) (l2 : byt l 0 = 237 → byt l 1 ≤ 159) :
    okL l ((byt l 0 - 224) * 4096 + (byt l 1 - 128) * 64 + (byt l 2 - 128)) 3 :=
  .inr (.inr (.inl ⟨rfl, h, by omega, by omega, by omega, by omega, by omega, by omega⟩))
theorem ok4 {l : List UInt8} (h : 4 ≤ l.length) (a0 : 240 ≤ byt l 0 ∧ byt l 0 ≤ 244) (a1 : 128 ≤ byt l 1 ∧ byt l 1 ≤ 191) (a2 : 128 ≤ byt l 2 ∧ byt l 2 ≤ 191) (a3 : 128 ≤ byt l 3 ∧ byt l 3 ≤ 191) (l1 : byt l 0 = 240 → 144 ≤ byt l 1) (l2 : byt l 0 = 244 → byt l 1 ≤ 143) :
    okL l ((byt l 0 - 240) * 262144 + (byt l 1 - 128) * 4096 + (byt l 2 - 128) * 64 + (byt l 3 - 128)) 4 :=
  .inr (.inr (.inr ⟨rfl, h, by omega, by omega, by omega, by omega, by omega, by omega⟩))

theorem err2 {s : ByteArray} {i : Int} (i0 : 0 ≤ i) (i4 : i ≤ 4) :
    (((some (decide (((L s).length : Int) < 2))).bind fun x8982 => (bif x8982 then some true else ((ix (strInts s) 1).bind fun x8984 => ((some (decide (x8984 < ((List.getD tabA (Int.toNat i) (default : S_unicode_utf8_acceptRange))).flo))).bind fun x8985 => (bif x8985 then some true else ((ix (strInts s) 1).bind fun x8987 => ((some (decide (((List.getD tabA (Int.toNat i) (default : S_unicode_utf8_acceptRange))).fhi < x8987))).bind fun x8988 => some x8988))))))) : Option Bool) =
      some (decide ((L s).length < 2 ∨ (byt (L s) 1 : Int) < lo i ∨ hi i < (byt (L s) 1 : Int))) := by
  rw [(tabA_at i0 i4).1, (tabA_at i0 i4).2]
  by_cases h : (L s).length < 2
  · rw [Option.bind_some, dt (show ((L s).length : Int) < 2 by omega), dt (.inl h)]; rfl
  · rw [Option.bind_some, df (show ¬ ((L s).length : Int) < 2 by omega), show ix (strInts s) 1 = _ from ixL (i := 1) (by omega)]
    simp only [bf, Option.bind_some, oS]
    congr 1
    apply Bool.eq_iff_iff.2
    simp only [Bool.or_eq_true, decide_eq_true_eq]
    omega
theorem err3 {s : ByteArray} {i : Int} (i0 : 0 ≤ i) (i4 : i ≤ 4) :
    (((some (decide (((L s).length : Int) < 3))).bind fun x9088 => (bif x9088 then some true else ((ix (strInts s) 1).bind fun x9090 => ((some (decide (x9090 < ((List.getD tabA (Int.toNat i) (default : S_unicode_utf8_acceptRange))).flo))).bind fun x9091 => (bif x9091 then some true else ((ix (strInts s) 1).bind fun x9093 => ((some (decide (((List.getD tabA (Int.toNat i) (default : S_unicode_utf8_acceptRange))).fhi < x9093))).bind fun x9094 => (bif x9094 then some true else ((ix (strInts s) 2).bind fun x9096 => (bif (decide (x9096 < 128)) then some true else ((ix (strInts s) 2).bind fun x9098 => some (decide (191 < x9098))))))))))))) : Option Bool) =
      some (decide ((L s).length < 3 ∨ (byt (L s) 1 : Int) < lo i ∨ hi i < (byt (L s) 1 : Int) ∨ byt (L s) 2 < 128 ∨ 191 < byt (L s) 2)) := by
  rw [(tabA_at i0 i4).1, (tabA_at i0 i4).2]
  by_cases h : (L s).length < 3
  · rw [Option.bind_some, dt (show ((L s).length : Int) < 3 by omega), dt (.inl h)]; rfl
  · rw [Option.bind_some, df (show ¬ ((L s).length : Int) < 3 by omega), show ix (strInts s) 1 = _ from ixL (i := 1) (by omega), show ix (strInts s) 2 = _ from ixL (i := 2) (by omega)]
    simp only [bf, Option.bind_some, oS]
    congr 1
    apply Bool.eq_iff_iff.2
    simp only [Bool.or_eq_true, decide_eq_true_eq]
    omega
theorem err4 {s : ByteArray} {i : Int} (i0 : 0 ≤ i) (i4 : i ≤ 4) :
    (((some (decide (((L s).length : Int) < 4))).bind fun x9226 => (bif x9226 then some true else ((ix (strInts s) 1).bind fun x9228 => ((some (decide (x9228 < ((List.getD tabA (Int.toNat i) (default : S_unicode_utf8_acceptRange))).flo))).bind fun x9229 => (bif x9229 then some true else ((ix (strInts s) 1).bind fun x9231 => ((some (decide (((List.getD tabA (Int.toNat i) (default : S_unicode_utf8_acceptRange))).fhi < x9231))).bind fun x9232 => (bif x9232 then some true else ((ix (strInts s) 2).bind fun x9234 => (bif (decide (x9234 < 128)) then some true else ((ix (strInts s) 2).bind fun x9236 => (bif (decide (191 < x9236)) then some true else ((ix (strInts s) 3).bind fun x9238 => (bif (decide (x9238 < 128)) then some true else ((ix (strInts s) 3).bind fun x9240 => some (decide (191 < x9240))))))))))))))))) : Option Bool) =
      some (decide ((L s).length < 4 ∨ (byt (L s) 1 : Int) < lo i ∨ hi i < (byt (L s) 1 : Int) ∨ byt (L s) 2 < 128 ∨ 191 < byt (L s) 2 ∨ byt (L s) 3 < 128 ∨ 191 < byt (L s) 3)) := by
  rw [(tabA_at i0 i4).1, (tabA_at i0 i4).2]
  by_cases h : (L s).length < 4
  · rw [Option.bind_some, dt (show ((L s).length : Int) < 4 by omega), dt (.inl h)]; rfl
  · rw [Option.bind_some, df (show ¬ ((L s).length : Int) < 4 by omega), show ix (strInts s) 1 = _ from ixL (i := 1) (by omega), show ix (strInts s) 2 = _ from ixL (i := 2) (by omega), show ix (strInts s) 3 = _ from ixL (i := 3) (by omega)]
    simp only [bf, Option.bind_some, oS]
    congr 1
    apply Bool.eq_iff_iff.2
    simp only [Bool.or_eq_true, decide_eq_true_eq]
    omega
theorem lib_valid {k : Nat} : ∀ (n : Nat) (s : ByteArray), (L s).length < n → (L s).length < k → g_unicode_utf8_ValidString_l0 k n s = some (if validL (L s) = true then Sum.inr () else Sum.inl ()) := by
  intro n
  induction n with
  | zero => intro s h; omega
  | succ n ih =>
    intro s hn hk
    rw [g_unicode_utf8_ValidString_l0.eq_2]
    by_cases h0 : 0 < (L s).length
    · rw [Option.bind_some, dt (show (0 : Int) < ((ByteArray.size s : Nat) : Int) by rw [sizeL]; omega)]
      simp only [bt]
      rw [show ix (strInts s) 0 = _ from ixL (i := 0) h0, Option.bind_some]
      have b0 := byt_lt (L s) 0; have b1 := byt_lt (L s) 1; have b2 := byt_lt (L s) 2; have b3 := byt_lt (L s) 3
      have hgo : ∀ (w : Nat), w ≤ (L s).length → 1 ≤ w → g_unicode_utf8_ValidString_l0 k n (s.extract w (Int.toNat ((ByteArray.size s : Nat) : Int))) = some (if validL ((L s).drop w) = true then Sum.inr () else Sum.inl ()) := by
        intro w hw h1
        have := ih (s.extract w (Int.toNat ((ByteArray.size s : Nat) : Int))) (by rw [L_drop, List.length_drop]; omega) (by rw [L_drop, List.length_drop]; omega)
        rwa [L_drop] at this
      by_cases ha : byt (L s) 0 < 128
      · rw [dt (show ((byt (L s) 0 : Nat) : Int) < 128 by omega)]
        simp only [bt]
        rw [show decide (0 ≤ (1 : Int) ∧ (1 : Int) ≤ ((ByteArray.size s : Nat) : Int) ∧ ((ByteArray.size s : Nat) : Int) ≤ ((ByteArray.size s : Nat) : Int)) = true from cutOk (by omega) (by rw [sizeL]; omega)]
        simp only [bt]
        have e1 : L (s.extract (Int.toNat 1) (Int.toNat ((ByteArray.size s : Nat) : Int))) = (L s).drop 1 := L_drop
        obtain ⟨r, h1, h2, h3⟩ := mid (k := k) (s.extract (Int.toNat 1) (Int.toNat ((ByteArray.size s : Nat) : Int))) (by rw [e1, List.length_drop]; omega)
        rw [Option.bind_some, h1, Option.bind_some]
        rw [e1, List.length_drop] at h3
        rw [ih r (by omega) (by omega), h2, e1, valid_skip 1 h0 (fun i hi => by
          have : i = 0 := by omega
          subst this; exact ha)]
      · rw [df (show ¬ ((byt (L s) 0 : Nat) : Int) < 128 by omega)]
        simp only [bf]
        rw [dt (show 0 ≤ ((byt (L s) 0 : Nat) : Int) ∧ ((byt (L s) 0 : Nat) : Int) < 256 by omega)]
        simp only [bt, Option.bind_some, Int.toNat_natCast]
        rw [show IntKind.wrap .i64 (bits .and .u8 (List.getD tab0 (byt (L s) 0) (0 : Int)) 7) = szOf (byt (L s) 0) from rfl, show shrI .u8 (List.getD tab0 (byt (L s) 0) (0 : Int)) 4 = ixOf (byt (L s) 0) from rfl]
        obtain ⟨i0, i1, hcase⟩ := tabs_at (b := byt (L s) 0) (by omega) b0
        revert i0 i1 hcase
        generalize szOf (byt (L s) 0) = sz
        generalize ixOf (byt (L s) 0) = i
        intro i0 i1 hcase
        rw [dt (show 0 ≤ i ∧ i < 16 from ⟨i0, i1⟩)]
        simp only [bt, sizeL] at hgo ⊢
        have hcut : ∀ w : Nat, w ≤ (L s).length → decide (0 ≤ (w : Int) ∧ (w : Int) ≤ ((L s).length : Int) ∧ ((L s).length : Int) ≤ ((L s).length : Int)) = true := fun w hw => cutOk (by omega) (by omega)
        by_cases s2 : sz = 2
        · have i4 : i ≤ 4 := by omega
          have hlo : lo i = 128 ∧ hi i = 191 := by have : i = 0 := by omega
                                                   subst this; exact ⟨rfl, rfl⟩
          rw [dt s2]
          simp only [bt]
          have e := err2 (s := s) i0 i4
          simp only [Option.bind_some] at e
          rw [e, Option.bind_some]
          by_cases hc : (L s).length < 2 ∨ (byt (L s) 1 : Int) < lo i ∨ hi i < (byt (L s) 1 : Int)
          · rw [dt hc, bad_isL h0 (fun c w h => by rcases okL_inv h with h | h | h | h <;> omega)]; rfl
          · rw [df hc, show decide (0 ≤ (2 : Int) ∧ (2 : Int) ≤ ((L s).length : Int) ∧ ((L s).length : Int) ≤ ((L s).length : Int)) = true from hcut 2 (by omega), good_isL (l := L s) (c := (byt (L s) 0 - 192) * 64 + (byt (L s) 1 - 128)) (w := 2) (ok2 (by omega) ⟨by omega, by omega⟩ ⟨by omega, by omega⟩)]
            exact hgo 2 (by omega) (by omega)
        · rw [df s2]
          simp only [bf]
          by_cases s3 : sz = 3
          · have i4 : i ≤ 4 := by omega
            rw [dt s3]
            simp only [bt]
            have e := err3 (s := s) i0 i4
            simp only [Option.bind_some] at e
            rw [e, Option.bind_some]
            have hlo : (byt (L s) 0 = 224 ∧ lo i = 160 ∧ hi i = 191) ∨ (byt (L s) 0 = 237 ∧ lo i = 128 ∧ hi i = 159) ∨ (224 < byt (L s) 0 ∧ byt (L s) 0 < 240 ∧ byt (L s) 0 ≠ 237 ∧ lo i = 128 ∧ hi i = 191) := by
              have : i = 1 ∧ byt (L s) 0 = 224 ∨ i = 2 ∧ byt (L s) 0 = 237 ∨ i = 0 ∧ (224 < byt (L s) 0 ∧ byt (L s) 0 < 240 ∧ byt (L s) 0 ≠ 237) := by omega
              rcases this with ⟨rfl, h⟩ | ⟨rfl, h⟩ | ⟨rfl, h⟩
              · exact .inl ⟨h, rfl, rfl⟩
              · exact .inr (.inl ⟨h, rfl, rfl⟩)
              · exact .inr (.inr ⟨h.1, h.2.1, h.2.2, rfl, rfl⟩)
            by_cases hc : (L s).length < 3 ∨ (byt (L s) 1 : Int) < lo i ∨ hi i < (byt (L s) 1 : Int) ∨ byt (L s) 2 < 128 ∨ 191 < byt (L s) 2
            · rw [dt hc, bad_isL h0 (fun c w h => by rcases okL_inv h with h | h | h | h <;> omega)]; rfl
            · rw [df hc, show decide (0 ≤ (3 : Int) ∧ (3 : Int) ≤ ((L s).length : Int) ∧ ((L s).length : Int) ≤ ((L s).length : Int)) = true from hcut 3 (by omega), good_isL (l := L s) (c := (byt (L s) 0 - 224) * 4096 + (byt (L s) 1 - 128) * 64 + (byt (L s) 2 - 128)) (w := 3) (ok3 (by omega) ⟨by omega, by omega⟩ ⟨by omega, by omega⟩ ⟨by omega, by omega⟩ (by omega) (by omega))]
              exact hgo 3 (by omega) (by omega)
          · rw [df s3]
            simp only [bf]
            by_cases s4 : sz = 4
            · have i4 : i ≤ 4 := by omega
              rw [dt s4]
              simp only [bt]
              have e := err4 (s := s) i0 i4
              simp only [Option.bind_some] at e
              rw [e, Option.bind_some]
              have hlo : (byt (L s) 0 = 240 ∧ lo i = 144 ∧ hi i = 191) ∨ (byt (L s) 0 = 244 ∧ lo i = 128 ∧ hi i = 143) ∨ (240 < byt (L s) 0 ∧ byt (L s) 0 < 244 ∧ lo i = 128 ∧ hi i = 191) := by
                have : i = 3 ∧ byt (L s) 0 = 240 ∨ i = 4 ∧ byt (L s) 0 = 244 ∨ i = 0 ∧ (240 < byt (L s) 0 ∧ byt (L s) 0 < 244) := by omega
                rcases this with ⟨rfl, h⟩ | ⟨rfl, h⟩ | ⟨rfl, h⟩
                · exact .inl ⟨h, rfl, rfl⟩
                · exact .inr (.inl ⟨h, rfl, rfl⟩)
                · exact .inr (.inr ⟨h.1, h.2, rfl, rfl⟩)
              by_cases hc : (L s).length < 4 ∨ (byt (L s) 1 : Int) < lo i ∨ hi i < (byt (L s) 1 : Int) ∨ byt (L s) 2 < 128 ∨ 191 < byt (L s) 2 ∨ byt (L s) 3 < 128 ∨ 191 < byt (L s) 3
              · rw [dt hc, bad_isL h0 (fun c w h => by rcases okL_inv h with h | h | h | h <;> omega)]; rfl
              · rw [df hc, show decide (0 ≤ (4 : Int) ∧ (4 : Int) ≤ ((L s).length : Int) ∧ ((L s).length : Int) ≤ ((L s).length : Int)) = true from hcut 4 (by omega), good_isL (l := L s) (c := (byt (L s) 0 - 240) * 262144 + (byt (L s) 1 - 128) * 4096 + (byt (L s) 2 - 128) * 64 + (byt (L s) 3 - 128)) (w := 4) (ok4 (by omega) ⟨by omega, by omega⟩ ⟨by omega, by omega⟩ ⟨by omega, by omega⟩ ⟨by omega, by omega⟩ (by omega) (by omega))]
                exact hgo 4 (by omega) (by omega)
            · rw [df s4, bad_isL h0 (fun c w h => by rcases okL_inv h with h | h | h | h <;> omega)]; rfl
    · rw [Option.bind_some, df (show ¬ (0 : Int) < ((ByteArray.size s : Nat) : Int) by rw [sizeL]; omega), nil_of_len h0, validL_nil]
      rfl
end Go.Proofs.YtnbjdgamindikaaDoor.W
