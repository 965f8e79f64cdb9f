/- Characters of texts. -/
import Derived.Test.YtnbjdgamindikaaDoorPu4
namespace Go.Proofs.YtnbjdgamindikaaDoor.W
open Go Go.Q Go.Proofs
set_option linter.unusedVariables false
set_option linter.unusedSimpArgs false

def runesL (l : List UInt8) : List Int := (sufs l).map fun t => ((decL t).1 : Int)
theorem runesL_nil : runesL [] = [] := by rw [runesL, sufs_nil]; rfl
theorem runesL_cons {l : List UInt8} (h : 0 < l.length) : runesL l = ((decL l).1 : Int) :: runesL (l.drop (decL l).2) := by rw [runesL, sufs_cons h]; rfl
theorem runesL_len (l : List UInt8) : (runesL l).length ≤ l.length := by rw [runesL, List.length_map]; exact sufs_len l
/-- May XML not have it? -/
def badX (t : List UInt8) : Bool := decide ((decL t).1 < 32 ∧ (decL t).1 ≠ 9 ∧ (decL t).1 ≠ 10 ∧ (decL t).1 ≠ 13 ∨ (decL t).1 = 65534 ∨ (decL t).1 = 65535)

theorem utfValid {k : Nat} {s : ByteArray} (hk : (L s).length < k) : g_unicode_utf8_ValidString k s = some (validL (L s)) := by
  unfold g_unicode_utf8_ValidString
  rw [lib_valid k s hk hk]
  cases validL (L s) <;> rfl
theorem utfValid' {k : Nat} {s : ByteArray} (hk : (L s).length < k) : g_utf_Valid k s = some (validL (L s)) := by
  unfold g_utf_Valid
  rw [utfValid hk]; rfl
theorem refValid' {k : Nat} {s : ByteArray} (h6 : 6 ≤ k) (hk : (L s).length < k) : g_quireref06_Valid k s = some (validL (L s)) := by
  unfold g_quireref06_Valid
  rw [refValid h6 k s hk]
  cases validL (L s) <;> rfl

theorem pos_step {s : ByteArray} {p : Nat} (h : p < (L s).length) : 0 < ((L s).drop p).length ∧ ((L s).drop p).drop (decL ((L s).drop p)).2 = (L s).drop (p + (decL ((L s).drop p)).2) ∧ 1 ≤ (decL ((L s).drop p)).2 ∧ p + (decL ((L s).drop p)).2 ≤ (L s).length := by
  have h0 : 0 < ((L s).drop p).length := by rw [List.length_drop]; omega
  have hw := decL_w h0
  rw [List.length_drop] at hw
  exact ⟨h0, List.drop_drop .., hw.1, by omega⟩

theorem xml_go {k : Nat} {s : ByteArray} : ∀ (n p : Nat), p ≤ (L s).length → (L s).length - p < n → g_utf_Xml_l0 k s n p = some (if (sufs ((L s).drop p)).any badX = true then Sum.inl () else Sum.inr ()) := by
  intro n
  induction n with
  | zero => intro p _ h; omega
  | succ n ih =>
    intro p hp hn
    rw [g_utf_Xml_l0.eq_2]
    by_cases h : p < (L s).length
    · obtain ⟨h0, h1, h2, h3⟩ := pos_step h
      rw [dt (show p < s.size by rw [L_size]; exact h), decode_L, sufs_cons h0, List.any_cons, h1]
      have hih := ih (p + (decL ((L s).drop p)).2) h3 (by omega)
      simp only [bt, Option.bind_some, sS]
      simp only [bP, Bool.or_eq_true, decide_eq_true_eq]
      rw [hih]
      generalize (sufs ((L s).drop (p + (decL ((L s).drop p)).2))).any badX = b
      unfold badX
      generalize (decL ((L s).drop p)).1 = c
      by_cases c1 : ((c : Nat) : Int) = 9 ∨ ((c : Nat) : Int) = 10 ∨ ((c : Nat) : Int) = 13
      · rw [if_pos (by omega), df (show ¬ (c < 32 ∧ c ≠ 9 ∧ c ≠ 10 ∧ c ≠ 13 ∨ c = 65534 ∨ c = 65535) by omega)]
        simp
      · rw [if_neg (by omega)]
        by_cases c2 : ((c : Nat) : Int) < 32 ∨ ((c : Nat) : Int) = 65534 ∨ ((c : Nat) : Int) = 65535
        · rw [if_pos (by omega), dt (show (c < 32 ∧ c ≠ 9 ∧ c ≠ 10 ∧ c ≠ 13 ∨ c = 65534 ∨ c = 65535) by omega)]
          simp
        · rw [if_neg (by omega), df (show ¬ (c < 32 ∧ c ≠ 9 ∧ c ≠ 10 ∧ c ≠ 13 ∨ c = 65534 ∨ c = 65535) by omega)]
          simp
    · rw [df (show ¬ p < s.size by rw [L_size]; exact h), nil_of_len (l := (L s).drop p) (by rw [List.length_drop]; omega), sufs_nil]
      rfl
def xmlL (l : List UInt8) : Int := if validL l && !((sufs l).any badX) then 0 else 20
theorem utfXml {k : Nat} {s : ByteArray} (hk : (L s).length < k) : g_utf_Xml k s = some (xmlL (L s)) := by
  unfold g_utf_Xml xmlL
  rw [utfValid hk, Option.bind_some]
  cases hv : validL (L s) with
  | false => rfl
  | true =>
    simp only [Bool.not_true, bf]
    have := xml_go (k := k) (s := s) k 0 (by omega) (by omega)
    rw [List.drop_zero] at this
    rw [this]
    cases (sufs (L s)).any badX <;> rfl

theorem refXml_go {k : Nat} (hk : 6 ≤ k) : ∀ (n : Nat) (s : ByteArray), (L s).length < n → g_quireref06_Xml_l0 k n s = some (if (validL (L s) && !((sufs (L s)).any badX)) = true then Sum.inr () else Sum.inl ()) := by
  intro n
  induction n with
  | zero => intro s h; omega
  | succ n ih =>
    intro s hn
    rw [g_quireref06_Xml_l0.eq_2]
    simp only [Option.bind_some, sizeL]
    by_cases h0 : 0 < (L s).length
    · have hw := decL_w h0
      rw [dt (show (0 : Int) < ((L s).length : Int) by omega), first_eq hk h0]
      have hrec := ih (s.extract (Int.toNat ((decL (L s)).2 : Int)) (Int.toNat ((ByteArray.size s : Nat) : Int))) (by rw [L_drop, List.length_drop]; omega)
      rw [L_drop, sizeL] at hrec
      rw [show (Int.toNat ((decL (L s)).2 : Int)) = (decL (L s)).2 from rfl] at hrec
      rw [validL_cons h0, sufs_cons h0, List.any_cons]
      simp only [bt, Option.bind_some, cS]
      rw [dt (show 0 ≤ (((decL (L s)).2 : Nat) : Int) ∧ (((decL (L s)).2 : Nat) : Int) ≤ ((L s).length : Int) ∧ ((L s).length : Int) ≤ ((L s).length : Int) by omega)]
      have hrec' : g_quireref06_Xml_l0 k n (s.extract (Int.toNat ((decL (L s)).2 : Int)) (Int.toNat ((L s).length : Int))) = _ := hrec
      rw [hrec']
      generalize validL ((L s).drop (decL (L s)).2) = v
      generalize (sufs ((L s).drop (decL (L s)).2)).any badX = b
      generalize isL (L s) = q
      unfold badX
      generalize (decL (L s)).1 = c
      have e : (bif !q then true else bif decide (((c : Nat) : Int) < 32) then bif !decide (((c : Nat) : Int) = 9) then bif !decide (((c : Nat) : Int) = 10) then bif !decide (((c : Nat) : Int) = 13) then true else bif decide (((c : Nat) : Int) = 65534) then true else decide (((c : Nat) : Int) = 65535) else bif decide (((c : Nat) : Int) = 65534) then true else decide (((c : Nat) : Int) = 65535) else bif decide (((c : Nat) : Int) = 65534) then true else decide (((c : Nat) : Int) = 65535) else bif decide (((c : Nat) : Int) = 65534) then true else decide (((c : Nat) : Int) = 65535)) =
          (!q || decide (c < 32 ∧ c ≠ 9 ∧ c ≠ 10 ∧ c ≠ 13 ∨ c = 65534 ∨ c = 65535)) := by
        cases q with
        | false => rfl
        | true =>
          by_cases c1 : c < 32
          · by_cases c2 : c = 9
            · subst c2; rfl
            · by_cases c3 : c = 10
              · subst c3; rfl
              · by_cases c4 : c = 13
                · subst c4; rfl
                · rw [dt (show ((c : Nat) : Int) < 32 by omega), df (show ¬ ((c : Nat) : Int) = 9 by omega), df (show ¬ ((c : Nat) : Int) = 10 by omega), df (show ¬ ((c : Nat) : Int) = 13 by omega), dt (show (c < 32 ∧ c ≠ 9 ∧ c ≠ 10 ∧ c ≠ 13 ∨ c = 65534 ∨ c = 65535) by omega)]; rfl
          · rw [df (show ¬ ((c : Nat) : Int) < 32 by omega)]
            simp only [bf, Bool.not_true, Bool.false_or]
            by_cases c5 : c = 65534
            · subst c5; rfl
            · rw [df (show ¬ ((c : Nat) : Int) = 65534 by omega)]
              simp only [bf]
              exact decide_eq_decide.2 (by omega)
      rw [e]
      generalize decide (c < 32 ∧ c ≠ 9 ∧ c ≠ 10 ∧ c ≠ 13 ∨ c = 65534 ∨ c = 65535) = z
      cases q <;> cases z <;> cases v <;> cases b <;> rfl
    · rw [df (by omega), nil_of_len h0, validL_nil, sufs_nil]
      rfl
theorem refXml {k : Nat} {s : ByteArray} (h6 : 6 ≤ k) (hk : (L s).length < k) : g_quireref06_Xml k s = some (xmlL (L s)) := by
  unfold g_quireref06_Xml xmlL
  rw [refXml_go h6 k s hk]
  cases validL (L s) && !((sufs (L s)).any badX) <;> rfl

theorem runes_go {k : Nat} {s : ByteArray} (hs : (L s).length ≤ 1048576) : ∀ (n p : Nat) (o : List Int), p ≤ (L s).length → (L s).length - p < n → o.length ≤ p → g_utf_Runes_l0 k s n o p = some (o ++ runesL ((L s).drop p)) := by
  intro n
  induction n with
  | zero => intro p _ _ h; omega
  | succ n ih =>
    intro p o hp hn ho
    rw [g_utf_Runes_l0.eq_2]
    by_cases h : p < (L s).length
    · obtain ⟨h0, h1, h2, h3⟩ := pos_step h
      have hc := decL_c h0
      rw [dt (show p < s.size by rw [L_size]; exact h), decode_L, wi (by omega) (by omega)]
      simp only [bt, Option.bind_some]
      rw [dt (by simp; omega), bt, ih _ _ h3 (by omega) (by simp; omega), runesL_cons h0, h1]
      simp
    · rw [df (show ¬ p < s.size by rw [L_size]; exact h), nil_of_len (l := (L s).drop p) (by rw [List.length_drop]; omega), runesL_nil]
      simp [bf]
theorem utfRunes {k : Nat} {s : ByteArray} (hs : (L s).length ≤ 1048576) (hk : (L s).length < k) : g_utf_Runes k s = some (runesL (L s)) := by
  unfold g_utf_Runes
  have := runes_go (k := k) hs k 0 [] (by omega) (by omega) (by simp)
  rw [List.drop_zero, List.nil_append] at this
  have this' : g_utf_Runes_l0 k s k [] 0 = some (runesL (L s)) := this
  rw [this']; rfl
theorem refRunes_go {k : Nat} (hk : 6 ≤ k) : ∀ (n : Nat) (s : ByteArray) (o : List Int), (L s).length < n → o.length + (L s).length ≤ 1048576 → g_quireref06_Runes_l0 k n s o = some (o ++ runesL (L s)) := by
  intro n
  induction n with
  | zero => intro s _ h; omega
  | succ n ih =>
    intro s o hn ho
    rw [g_quireref06_Runes_l0.eq_2]
    simp only [Option.bind_some, sizeL]
    by_cases h0 : 0 < (L s).length
    · have hw := decL_w h0
      rw [dt (show (0 : Int) < ((L s).length : Int) by omega), first_eq hk h0]
      simp only [bt, Option.bind_some]
      have e : L (s.extract (Int.toNat ((decL (L s)).2 : Int)) (Int.toNat ((L s).length : Int))) = (L s).drop (decL (L s)).2 := hdL s _
      rw [dt (by simp; omega), cutOk (a := (((decL (L s)).2 : Nat) : Int)) (by omega) (by omega)]
      simp only [bt]
      rw [ih _ _ (by rw [e, List.length_drop]; omega) (by rw [e, List.length_drop]; simp; omega), e, runesL_cons h0]
      simp
    · rw [df (by omega), nil_of_len h0, runesL_nil]
      simp [bf]
theorem refRunes {k : Nat} {s : ByteArray} (h6 : 6 ≤ k) (hs : (L s).length ≤ 1048576) (hk : (L s).length < k) : g_quireref06_Runes k s = some (runesL (L s)) := by
  unfold g_quireref06_Runes
  have := refRunes_go h6 k s [] hk (by simpa using hs)
  rw [List.nil_append] at this
  have this' : g_quireref06_Runes_l0 k k s [] = some (runesL (L s)) := this
  rw [this']; rfl
theorem count_go {k : Nat} {s : ByteArray} (hs : (L s).length ≤ 100000000) : ∀ (n p : Nat) (m : Nat), p ≤ (L s).length → (L s).length - p < n → m ≤ p → g_unicode_utf8_RuneCountInString_l0 k s n m p = some ((m + (runesL ((L s).drop p)).length : Nat) : Int) := by
  intro n
  induction n with
  | zero => intro p _ _ h; omega
  | succ n ih =>
    intro p m hp hn hm
    rw [g_unicode_utf8_RuneCountInString_l0.eq_2]
    by_cases h : p < (L s).length
    · obtain ⟨h0, h1, h2, h3⟩ := pos_step h
      rw [dt (show p < s.size by rw [L_size]; exact h), decode_L, wi (by omega) (by omega)]
      simp only [bt]
      rw [show ((m : Int) + 1) = ((m + 1 : Nat) : Int) by omega, ih _ _ h3 (by omega) (by omega), runesL_cons h0, h1, List.length_cons]
      congr 1; omega
    · rw [df (show ¬ p < s.size by rw [L_size]; exact h), nil_of_len (l := (L s).drop p) (by rw [List.length_drop]; omega), runesL_nil]
      simp [bf]
theorem utfCount {k : Nat} {s : ByteArray} (hs : (L s).length ≤ 100000000) (hk : (L s).length < k) : g_utf_Count k s = some ((runesL (L s)).length : Int) := by
  unfold g_utf_Count g_unicode_utf8_RuneCountInString
  have := count_go (k := k) hs k 0 0 (by omega) (by omega) (by omega)
  rw [List.drop_zero, Nat.zero_add] at this
  have this' : g_unicode_utf8_RuneCountInString_l0 k s k 0 0 = some ((runesL (L s)).length : Int) := this
  rw [this']; rfl
theorem ints_go {k : Nat} (a : List Int) (ha : a.length ≤ 1048576) : ∀ (n i : Nat), i ≤ a.length → a.length - i < n → g_quirelaw06_ints_l0 k a a n i = some (Sum.inr ()) := by
  intro n
  induction n with
  | zero => intro i _ h; omega
  | succ n ih =>
    intro i hi hn
    rw [g_quirelaw06_ints_l0.eq_2]
    by_cases h : i < a.length
    · rw [Option.bind_some, dt (show (i : Int) < ((List.length a : Nat) : Int) by omega), bt, ix_nat h, wi (by omega) (by omega), show ((i : Int) + 1) = ((i + 1 : Nat) : Int) by omega]
      simp only [Option.bind_some, decide_true, Bool.not_true, bf]
      exact ih (i + 1) (by omega) (by omega)
    · rw [Option.bind_some, df (show ¬ (i : Int) < ((List.length a : Nat) : Int) by omega)]
      rfl
theorem ints_same {k : Nat} {a : List Int} (ha : a.length ≤ 1048576) (hk : a.length < k) : g_quirelaw06_ints k a a = some true := by
  unfold g_quirelaw06_ints
  have := ints_go (k := k) a ha k 0 (by omega) (by omega)
  have this' : g_quirelaw06_ints_l0 k a a k 0 = some (Sum.inr ()) := this
  rw [this']
  simp
end Go.Proofs.YtnbjdgamindikaaDoor.W
