/- Texts out of characters; characters cut out. -/
import Derived.Test.YtnbjdgamindikaaDoorPu6
namespace Go.Proofs.YtnbjdgamindikaaDoor.W
open Go Go.Q Go.Proofs
set_option linter.unusedVariables false
set_option linter.unusedSimpArgs false

/-- The character that is written for a number. -/
def cn (x : Int) : Nat := if 0 ≤ x ∧ chr x.toNat then x.toNat else 65533
theorem cn_chr (x : Int) : chr (cn x) := by
  unfold cn
  split
  · rename_i h; exact h.2
  · decide
def textL (l : List Int) : List UInt8 := l.flatMap fun x => wrL (cn x)
theorem textL_nil : textL [] = [] := rfl
theorem textL_cons (x : Int) (l : List Int) : textL (x :: l) = wrL (cn x) ++ textL l := by simp [textL]
theorem textL_append (a b : List Int) : textL (a ++ b) = textL a ++ textL b := by simp [textL]
theorem textL_len (l : List Int) : (textL l).length ≤ 4 * l.length := by
  induction l with
  | nil => simp [textL_nil]
  | cons x l ih =>
    have := (wrL_len (cn x)).2
    rw [textL_cons, List.length_append, List.length_cons]; omega

theorem builderString {k : Nat} {b : Bool} (t : List UInt8) : ((g_strings_Builder_String k b (I t)).bind fun y => match y with | (Sum.inl _) => some ByteArray.empty | (Sum.inr _) => some (strOf (I t))) = some (strOf (I t)) := by
  unfold g_strings_Builder_String
  by_cases h : List.length (I t) = 0
  · rw [dt h]
    have : t = [] := by
      have h' := h
      rw [I_length] at h'
      exact List.eq_nil_of_length_eq_zero h'
    subst this
    rfl
  · rw [df h]; rfl

theorem text_char {k : Nat} (x : Int) : ((bif (decide (0 ≤ x)) then (bif (decide (x ≤ 1114111)) then ((g_unicode_utf8_ValidRune k (IntKind.wrap .i32 x)).bind fun x14294 => some x14294) else some false) else some false).bind fun x14290 => (bif x14290 then some (IntKind.wrap .i32 x) else some 65533)) = some ((cn x : Nat) : Int) := by
  unfold cn
  by_cases h0 : 0 ≤ x
  · by_cases h1 : x ≤ 1114111
    · have hw : IntKind.wrap .i32 x = x := wi32 (by omega) (by omega)
      rw [dt h0, dt h1, hw]
      unfold g_unicode_utf8_ValidRune
      simp only [bt, cS, aS, Option.bind_some]
      by_cases hc : chr x.toNat
      · have hc' := hc
        unfold chr at hc'
        rw [if_pos ⟨h0, hc⟩]
        by_cases h2 : x < 55296
        · rw [dt h0, dt h2]
          simp
          omega
        · rw [df h2, dt (show 57343 < x by omega), dt h1]
          cases decide (0 ≤ x) <;> (simp; omega)
      · have hc' := hc
        unfold chr at hc'
        rw [if_neg (fun h => hc h.2), df (show ¬ x < 55296 by omega), df (show ¬ 57343 < x by omega)]
        cases decide (0 ≤ x) <;> simp
    · rw [dt h0, df h1, if_neg (fun h => by have := h.2; unfold chr at this; omega)]; rfl
  · rw [df h0, if_neg (fun h => h0 h.1)]; rfl

theorem text_go {k : Nat} (l : List Int) (hl : l.length ≤ 1048576) : ∀ (n i : Nat) (b : Bool), i ≤ l.length → l.length - i < n → ∃ b', g_utf_Text_l0 k l n i b (I (textL (l.take i))) = some (b', I (textL l)) := by
  intro n
  induction n with
  | zero => intro i _ _ h; omega
  | succ n ih =>
    intro i b hi hn
    rw [g_utf_Text_l0.eq_2]
    by_cases h : i < l.length
    · rw [Option.bind_some, dt (show (i : Int) < ((List.length l : Nat) : Int) by omega), bt, ix_nat h, Option.bind_some, text_char, Option.bind_some]
      have hlen := textL_len (l.take i)
      rw [List.length_take] at hlen
      obtain ⟨z, hz⟩ := writeRune (k := k) (c := cn l[i]) (b := b) (o := I (textL (l.take i))) (cn_chr _) (by rw [I_length]; omega)
      rw [hz, Option.bind_some, wi (by omega) (by omega), show ((i : Int) + 1) = ((i + 1 : Nat) : Int) by omega]
      obtain ⟨b', hb⟩ := ih (i + 1) true (by omega) (by omega)
      refine ⟨b', ?_⟩
      rw [← hb]
      congr 1
      rw [List.take_succ_eq_append_getElem h, textL_append, ← I_append]
      simp [textL_cons, textL_nil]
    · refine ⟨b, ?_⟩
      rw [Option.bind_some, df (show ¬ (i : Int) < ((List.length l : Nat) : Int) by omega), bf, List.take_of_length_le (by omega)]
theorem utfText {k : Nat} {l : List Int} (hl : l.length ≤ 1048576) (hk : l.length < k) : g_utf_Text k l = some (strOf (I (textL l))) := by
  unfold g_utf_Text
  obtain ⟨b, hb⟩ := text_go (k := k) l hl k 0 false (by omega) (by omega)
  have hb' : g_utf_Text_l0 k l k 0 false [] = some (b, I (textL l)) := hb
  rw [hb', Option.bind_some]
  exact builderString _
theorem refText_go {k : Nat} (l : List Int) (hl : l.length ≤ 1048576) : ∀ (n i : Nat), i ≤ l.length → l.length - i < n → g_quireref06_Text_l0 k l n i (I (textL (l.take i))) = some (I (textL l)) := by
  intro n
  induction n with
  | zero => intro i _ h; omega
  | succ n ih =>
    intro i hi hn
    rw [g_quireref06_Text_l0.eq_2]
    by_cases h : i < l.length
    · have hlen := textL_len (l.take i)
      rw [List.length_take] at hlen
      have hw := (wrL_len (cn l[i])).2
      rw [Option.bind_some, dt (show (i : Int) < ((List.length l : Nat) : Int) by omega), bt, ix_nat h, Option.bind_some, Write_eq, Option.bind_some]
      have e : (if 0 ≤ l[i] ∧ chr l[i].toNat then l[i].toNat else 65533) = cn l[i] := rfl
      rw [e, dt (by rw [I_length, I_length]; omega), bt, wi (by omega) (by omega), show ((i : Int) + 1) = ((i + 1 : Nat) : Int) by omega]
      rw [← ih (i + 1) (by omega) (by omega)]
      congr 1
      rw [List.take_succ_eq_append_getElem h, textL_append, ← I_append]
      simp [textL_cons, textL_nil]
    · rw [Option.bind_some, df (show ¬ (i : Int) < ((List.length l : Nat) : Int) by omega), bf, List.take_of_length_le (by omega)]
theorem refText {k : Nat} {l : List Int} (hl : l.length ≤ 1048576) (hk : l.length < k) : g_quireref06_Text k l = some (strOf (I (textL l))) := by
  unfold g_quireref06_Text
  have hb := refText_go (k := k) l hl k 0 (by omega) (by omega)
  have hb' : g_quireref06_Text_l0 k l k 0 [] = some (I (textL l)) := hb
  rw [hb']; rfl

/-! ### Cuts -/
/-- What is left of characters that begin at number a. -/
def cutG (f n : Nat) : Nat → List Int → List Int
  | _, [] => []
  | a, c :: r => (if f ≤ a ∧ a - f < n then [c] else []) ++ cutG f n (a + 1) r
theorem cutG_eq (f n : Nat) : ∀ (r : List Int) (a : Nat), cutG f n a r = (r.drop (f - a)).take (n - (a - f))
  | [], a => by simp [cutG]
  | c :: r, a => by
    rw [cutG, cutG_eq f n r (a + 1)]
    by_cases h : f ≤ a
    · rw [show f - a = 0 by omega, show f - (a + 1) = 0 by omega, List.drop_zero, List.drop_zero]
      by_cases h2 : a - f < n
      · rw [if_pos ⟨h, h2⟩, show n - (a - f) = (n - (a + 1 - f)) + 1 by omega, List.take_succ_cons]; rfl
      · rw [if_neg (fun h' => h2 h'.2), show n - (a - f) = 0 by omega, show n - (a + 1 - f) = 0 by omega]; rfl
    · rw [if_neg (fun h' => h h'.1), show f - a = (f - (a + 1)) + 1 by omega, List.drop_succ_cons, show a - f = 0 by omega, show a + 1 - f = 0 by omega]; rfl
theorem runes_chr {l : List UInt8} (h : 0 < l.length) : cn ((decL l).1 : Int) = (decL l).1 := by
  have := decL_c h
  unfold cn
  rw [if_pos]
  · rfl
  · exact ⟨by omega, this⟩

theorem cut_go {k : Nat} {s : ByteArray} (hs : (L s).length ≤ 1048576) {f n : Int} (hf : 0 ≤ f ∧ f ≤ 9223372036854775807) (hn : n ≤ 9223372036854775807) : ∀ (m p a : Nat) (b : Bool) (o : List UInt8), p ≤ (L s).length → (L s).length - p < m → a ≤ p → o.length ≤ 4 * a →
    ∃ b', g_utf_Cut_l0 k s n f m a b (I o) p = some (b', I (o ++ textL (cutG f.toNat n.toNat a (runesL ((L s).drop p))))) := by
  intro m
  induction m with
  | zero => intro p a _ _ _ h; omega
  | succ m ih =>
    intro p a b o hp hm ha ho
    rw [g_utf_Cut_l0.eq_2]
    by_cases h : p < (L s).length
    · obtain ⟨h0, h1, h2, h3⟩ := pos_step h
      have hc := decL_c h0
      rw [dt (show p < s.size by rw [L_size]; exact h), decode_L, bt, runesL_cons h0, h1, cutG, textL_append]
      rw [wi (n := (a : Int) + 1) (by omega) (by omega), show ((a : Int) + 1) = ((a + 1 : Nat) : Int) by omega]
      by_cases hin : f.toNat ≤ a ∧ a - f.toNat < n.toNat
      · rw [if_pos hin, dt (show f ≤ (a : Int) by omega), bt, wi (by omega) (by omega), dt (show (a : Int) - f < n by omega)]
        simp only [Option.bind_some, bt]
        obtain ⟨z, hz⟩ := writeRune (k := k) (c := (decL ((L s).drop p)).1) (b := b) (o := I o) hc (by rw [I_length]; omega)
        rw [hz]
        simp only [Option.bind_some]
        have hw := (wrL_len (decL ((L s).drop p)).1).2
        obtain ⟨b', hb⟩ := ih (p + (decL ((L s).drop p)).2) (a + 1) true (o ++ wrL (decL ((L s).drop p)).1) h3 (by omega) (by omega) (by rw [List.length_append]; omega)
        refine ⟨b', ?_⟩
        rw [← I_append, hb, textL_cons, textL_nil, runes_chr h0, List.append_nil, List.append_assoc]
      · rw [if_neg hin]
        have e : ((bif decide (f ≤ (a : Int)) then (some (decide (IntKind.wrap .i64 ((a : Int) - f) < n))).bind fun x => some x else some false) : Option Bool) = some false := by
          by_cases h4 : f ≤ (a : Int)
          · rw [dt h4, bt, wi (by omega) (by omega), df (show ¬ (a : Int) - f < n by omega)]; rfl
          · rw [df h4]; rfl
        rw [e, Option.bind_some, bf, Option.bind_some]
        obtain ⟨b', hb⟩ := ih (p + (decL ((L s).drop p)).2) (a + 1) b o h3 (by omega) (by omega) (by omega)
        exact ⟨b', hb⟩
    · refine ⟨b, ?_⟩
      rw [df (show ¬ p < s.size by rw [L_size]; exact h), bf, nil_of_len (l := (L s).drop p) (by rw [List.length_drop]; omega), runesL_nil]
      simp [cutG, textL_nil]
theorem utfCut {k : Nat} {s : ByteArray} {f n : Int} (hs : (L s).length ≤ 1048576) (hk : (L s).length < k) (hf : f ≤ 9223372036854775807) (hn : n ≤ 9223372036854775807) : g_utf_Cut k s f n = some (strOf (I (textL (((runesL (L s)).drop f.toNat).take n.toNat)))) := by
  unfold g_utf_Cut
  obtain ⟨f', hf'⟩ : ∃ f' : Int, (if (0 : Int) > f then (0 : Int) else f) = f' := ⟨_, rfl⟩
  have h1 : 0 ≤ f' ∧ f' ≤ 9223372036854775807 ∧ f'.toNat = f.toNat := by rw [← hf']; split <;> omega
  obtain ⟨b, hb⟩ := cut_go (k := k) hs (f := f') (n := n) ⟨h1.1, h1.2.1⟩ hn k 0 0 false [] (by omega) (by omega) (by omega) (by simp)
  rw [List.drop_zero, List.nil_append, cutG_eq] at hb
  have hb' : g_utf_Cut_l0 k s n f' k 0 false [] 0 = some (b, I (textL (((runesL (L s)).drop (f'.toNat - 0)).take (n.toNat - (0 - f'.toNat))))) := hb
  rw [hf', Option.bind_some, hb', Option.bind_some]
  rw [show f'.toNat - 0 = f.toNat by omega, show n.toNat - (0 - f'.toNat) = n.toNat by omega]
  exact builderString _
end Go.Proofs.YtnbjdgamindikaaDoor.W
