/- More rounds tell the same. -/
import Derived.Test.YtnbjdgamindikaaDoorFa
namespace Go.Proofs.YtnbjdgamindikaaDoor.W
open Go Go.Q Go.Proofs
set_option linter.unusedVariables false
set_option linter.unusedSimpArgs false
theorem g_unicode_utf8_word_string_mono {k k' : Nat} (hk : k ≤ k') {x18 : ByteArray} : Le (g_unicode_utf8_word_string k x18) (g_unicode_utf8_word_string k' x18) := by
  unfold g_unicode_utf8_word_string
  repeat' first | (with_reducible exact Le.rfl) | (with_reducible refine Le.bind ?_ ?_) | (with_reducible refine Le.cond ?_ ?_) | intro _ | split
theorem g_unicode_utf8_ValidString_l1_mono {k k' : Nat} (hk : k ≤ k') : ∀ {n n' : Nat} (hn : n ≤ n') {y0 : ByteArray}, Le (g_unicode_utf8_ValidString_l1 k n y0) (g_unicode_utf8_ValidString_l1 k' n' y0)
  | 0, _, _ => Le.none rfl
  | n + 1, 0, h => absurd h (Nat.not_succ_le_zero n)
  | n + 1, n' + 1, hn => by
    rw [g_unicode_utf8_ValidString_l1.eq_2, g_unicode_utf8_ValidString_l1.eq_2]
    repeat' first | (with_reducible exact Le.rfl) | (with_reducible exact g_unicode_utf8_word_string_mono hk) | (with_reducible exact g_unicode_utf8_ValidString_l1_eqs_mono hk) | (with_reducible exact g_unicode_utf8_ValidString_l1_mono hk (Nat.le_of_succ_le_succ hn)) | (with_reducible refine Le.bind ?_ ?_) | (with_reducible refine Le.cond ?_ ?_) | intro _ | split
theorem g_unicode_utf8_ValidString_l0_mono {k k' : Nat} (hk : k ≤ k') : ∀ {n n' : Nat} (hn : n ≤ n') {y0 : ByteArray}, Le (g_unicode_utf8_ValidString_l0 k n y0) (g_unicode_utf8_ValidString_l0 k' n' y0)
  | 0, _, _ => Le.none rfl
  | n + 1, 0, h => absurd h (Nat.not_succ_le_zero n)
  | n + 1, n' + 1, hn => by
    rw [g_unicode_utf8_ValidString_l0.eq_2, g_unicode_utf8_ValidString_l0.eq_2]
    repeat' first | (with_reducible exact Le.rfl) | (with_reducible exact g_unicode_utf8_word_string_mono hk) | (with_reducible exact g_unicode_utf8_ValidString_l1_mono hk hk) | (with_reducible exact g_unicode_utf8_ValidString_l0_eqs_mono hk) | (with_reducible exact g_unicode_utf8_ValidString_l0_mono hk (Nat.le_of_succ_le_succ hn)) | (with_reducible refine Le.bind ?_ ?_) | (with_reducible refine Le.cond ?_ ?_) | intro _ | split
theorem g_unicode_utf8_ValidString_mono {k k' : Nat} (hk : k ≤ k') {x6 : ByteArray} : Le (g_unicode_utf8_ValidString k x6) (g_unicode_utf8_ValidString k' x6) := by
  unfold g_unicode_utf8_ValidString
  repeat' first | (with_reducible exact Le.rfl) | (with_reducible exact g_unicode_utf8_ValidString_l0_mono hk hk) | (with_reducible refine Le.bind ?_ ?_) | (with_reducible refine Le.cond ?_ ?_) | intro _ | split
theorem g_utf_Valid_mono {k k' : Nat} (hk : k ≤ k') {x4 : ByteArray} : Le (g_utf_Valid k x4) (g_utf_Valid k' x4) := by
  unfold g_utf_Valid
  repeat' first | (with_reducible exact Le.rfl) | (with_reducible exact g_unicode_utf8_ValidString_mono hk) | (with_reducible refine Le.bind ?_ ?_) | (with_reducible refine Le.cond ?_ ?_) | intro _ | split
theorem g_quireref06_char_mono {k k' : Nat} (hk : k ≤ k') {x9272 : Int} : Le (g_quireref06_char k x9272) (g_quireref06_char k' x9272) := by
  unfold g_quireref06_char
  repeat' first | (with_reducible exact Le.rfl) | (with_reducible refine Le.bind ?_ ?_) | (with_reducible refine Le.cond ?_ ?_) | intro _ | split
theorem g_quireref06_Write_mono {k k' : Nat} (hk : k ≤ k') {x9295 : Int} : Le (g_quireref06_Write k x9295) (g_quireref06_Write k' x9295) := by
  unfold g_quireref06_Write
  repeat' first | (with_reducible exact Le.rfl) | (with_reducible exact g_quireref06_char_mono hk) | (with_reducible refine Le.bind ?_ ?_) | (with_reducible refine Le.cond ?_ ?_) | intro _ | split
theorem g_quireref06_first_l1_mono {k k' : Nat} (hk : k ≤ k') {x9260 : ByteArray} {x9696 : Int} : ∀ {n n' : Nat} (hn : n ≤ n') {y0 : Int} {y1 : Int}, Le (g_quireref06_first_l1 k x9260 x9696 n y0 y1) (g_quireref06_first_l1 k' x9260 x9696 n' y0 y1)
  | 0, _, _ => Le.none rfl
  | n + 1, 0, h => absurd h (Nat.not_succ_le_zero n)
  | n + 1, n' + 1, hn => by
    rw [g_quireref06_first_l1.eq_2, g_quireref06_first_l1.eq_2]
    repeat' first | (with_reducible exact Le.rfl) | (with_reducible exact g_quireref06_first_l1_eqs_mono hk) | (with_reducible exact g_quireref06_first_l1_mono hk (Nat.le_of_succ_le_succ hn)) | (with_reducible refine Le.bind ?_ ?_) | (with_reducible refine Le.cond ?_ ?_) | intro _ | split
theorem g_quireref06_first_l0_mono {k k' : Nat} (hk : k ≤ k') {x9260 : ByteArray} : ∀ {n n' : Nat} (hn : n ≤ n') {y0 : Int}, Le (g_quireref06_first_l0 k x9260 n y0) (g_quireref06_first_l0 k' x9260 n' y0)
  | 0, _, _ => Le.none rfl
  | n + 1, 0, h => absurd h (Nat.not_succ_le_zero n)
  | n + 1, n' + 1, hn => by
    rw [g_quireref06_first_l0.eq_2, g_quireref06_first_l0.eq_2]
    repeat' first | (with_reducible exact Le.rfl) | (with_reducible exact g_quireref06_first_l1_mono hk hk) | (with_reducible exact g_quireref06_char_mono hk) | (with_reducible exact g_quireref06_Write_mono hk) | (with_reducible exact g_quireref06_first_l0_eqs_mono hk) | (with_reducible exact g_quireref06_first_l0_mono hk (Nat.le_of_succ_le_succ hn)) | (with_reducible refine Le.bind ?_ ?_) | (with_reducible refine Le.cond ?_ ?_) | intro _ | split
theorem g_quireref06_first_mono {k k' : Nat} (hk : k ≤ k') {x9260 : ByteArray} : Le (g_quireref06_first k x9260) (g_quireref06_first k' x9260) := by
  unfold g_quireref06_first
  repeat' first | (with_reducible exact Le.rfl) | (with_reducible exact g_quireref06_first_l0_mono hk hk) | (with_reducible refine Le.bind ?_ ?_) | (with_reducible refine Le.cond ?_ ?_) | intro _ | split
theorem g_quireref06_Valid_l0_mono {k k' : Nat} (hk : k ≤ k') : ∀ {n n' : Nat} (hn : n ≤ n') {y0 : ByteArray}, Le (g_quireref06_Valid_l0 k n y0) (g_quireref06_Valid_l0 k' n' y0)
  | 0, _, _ => Le.none rfl
  | n + 1, 0, h => absurd h (Nat.not_succ_le_zero n)
  | n + 1, n' + 1, hn => by
    rw [g_quireref06_Valid_l0.eq_2, g_quireref06_Valid_l0.eq_2]
    repeat' first | (with_reducible exact Le.rfl) | (with_reducible exact g_quireref06_first_mono hk) | (with_reducible exact g_quireref06_Valid_l0_eqs_mono hk) | (with_reducible exact g_quireref06_Valid_l0_mono hk (Nat.le_of_succ_le_succ hn)) | (with_reducible refine Le.bind ?_ ?_) | (with_reducible refine Le.cond ?_ ?_) | intro _ | split
theorem g_quireref06_Valid_mono {k k' : Nat} (hk : k ≤ k') {x9254 : ByteArray} : Le (g_quireref06_Valid k x9254) (g_quireref06_Valid k' x9254) := by
  unfold g_quireref06_Valid
  repeat' first | (with_reducible exact Le.rfl) | (with_reducible exact g_quireref06_Valid_l0_mono hk hk) | (with_reducible refine Le.bind ?_ ?_) | (with_reducible refine Le.cond ?_ ?_) | intro _ | split
theorem g_utf_Xml_l0_mono {k k' : Nat} (hk : k ≤ k') {x10087 : ByteArray} : ∀ {n n' : Nat} (hn : n ≤ n') {y0 : Nat}, Le (g_utf_Xml_l0 k x10087 n y0) (g_utf_Xml_l0 k' x10087 n' y0)
  | 0, _, _ => Le.none rfl
  | n + 1, 0, h => absurd h (Nat.not_succ_le_zero n)
  | n + 1, n' + 1, hn => by
    rw [g_utf_Xml_l0.eq_2, g_utf_Xml_l0.eq_2]
    repeat' first | (with_reducible exact Le.rfl) | (with_reducible exact g_utf_Xml_l0_eqs_mono hk) | (with_reducible exact g_utf_Xml_l0_mono hk (Nat.le_of_succ_le_succ hn)) | (with_reducible refine Le.bind ?_ ?_) | (with_reducible refine Le.cond ?_ ?_) | intro _ | split
theorem g_utf_Xml_mono {k k' : Nat} (hk : k ≤ k') {x10087 : ByteArray} : Le (g_utf_Xml k x10087) (g_utf_Xml k' x10087) := by
  unfold g_utf_Xml
  repeat' first | (with_reducible exact Le.rfl) | (with_reducible exact g_unicode_utf8_ValidString_mono hk) | (with_reducible exact g_utf_Xml_l0_mono hk hk) | (with_reducible refine Le.bind ?_ ?_) | (with_reducible refine Le.cond ?_ ?_) | intro _ | split
theorem g_quireref06_Xml_l0_mono {k k' : Nat} (hk : k ≤ k') : ∀ {n n' : Nat} (hn : n ≤ n') {y0 : ByteArray}, Le (g_quireref06_Xml_l0 k n y0) (g_quireref06_Xml_l0 k' n' y0)
  | 0, _, _ => Le.none rfl
  | n + 1, 0, h => absurd h (Nat.not_succ_le_zero n)
  | n + 1, n' + 1, hn => by
    rw [g_quireref06_Xml_l0.eq_2, g_quireref06_Xml_l0.eq_2]
    repeat' first | (with_reducible exact Le.rfl) | (with_reducible exact g_quireref06_first_mono hk) | (with_reducible exact g_quireref06_Xml_l0_eqs_mono hk) | (with_reducible exact g_quireref06_Xml_l0_mono hk (Nat.le_of_succ_le_succ hn)) | (with_reducible refine Le.bind ?_ ?_) | (with_reducible refine Le.cond ?_ ?_) | intro _ | split
theorem g_quireref06_Xml_mono {k k' : Nat} (hk : k ≤ k') {x10245 : ByteArray} : Le (g_quireref06_Xml k x10245) (g_quireref06_Xml k' x10245) := by
  unfold g_quireref06_Xml
  repeat' first | (with_reducible exact Le.rfl) | (with_reducible exact g_quireref06_Xml_l0_mono hk hk) | (with_reducible refine Le.bind ?_ ?_) | (with_reducible refine Le.cond ?_ ?_) | intro _ | split
theorem g_utf_Runes_l0_mono {k k' : Nat} (hk : k ≤ k') {x10517 : ByteArray} : ∀ {n n' : Nat} (hn : n ≤ n') {y0 : (List Int)} {y1 : Nat}, Le (g_utf_Runes_l0 k x10517 n y0 y1) (g_utf_Runes_l0 k' x10517 n' y0 y1)
  | 0, _, _ => Le.none rfl
  | n + 1, 0, h => absurd h (Nat.not_succ_le_zero n)
  | n + 1, n' + 1, hn => by
    rw [g_utf_Runes_l0.eq_2, g_utf_Runes_l0.eq_2]
    repeat' first | (with_reducible exact Le.rfl) | (with_reducible exact g_utf_Runes_l0_eqs_mono hk) | (with_reducible exact g_utf_Runes_l0_mono hk (Nat.le_of_succ_le_succ hn)) | (with_reducible refine Le.bind ?_ ?_) | (with_reducible refine Le.cond ?_ ?_) | intro _ | split
theorem g_utf_Runes_mono {k k' : Nat} (hk : k ≤ k') {x10517 : ByteArray} : Le (g_utf_Runes k x10517) (g_utf_Runes k' x10517) := by
  unfold g_utf_Runes
  repeat' first | (with_reducible exact Le.rfl) | (with_reducible exact g_utf_Runes_l0_mono hk hk) | (with_reducible refine Le.bind ?_ ?_) | (with_reducible refine Le.cond ?_ ?_) | intro _ | split
theorem g_quireref06_Runes_l0_mono {k k' : Nat} (hk : k ≤ k') : ∀ {n n' : Nat} (hn : n ≤ n') {y0 : ByteArray} {y1 : (List Int)}, Le (g_quireref06_Runes_l0 k n y0 y1) (g_quireref06_Runes_l0 k' n' y0 y1)
  | 0, _, _ => Le.none rfl
  | n + 1, 0, h => absurd h (Nat.not_succ_le_zero n)
  | n + 1, n' + 1, hn => by
    rw [g_quireref06_Runes_l0.eq_2, g_quireref06_Runes_l0.eq_2]
    repeat' first | (with_reducible exact Le.rfl) | (with_reducible exact g_quireref06_first_mono hk) | (with_reducible exact g_quireref06_Runes_l0_eqs_mono hk) | (with_reducible exact g_quireref06_Runes_l0_mono hk (Nat.le_of_succ_le_succ hn)) | (with_reducible refine Le.bind ?_ ?_) | (with_reducible refine Le.cond ?_ ?_) | intro _ | split
theorem g_quireref06_Runes_mono {k k' : Nat} (hk : k ≤ k') {x10551 : ByteArray} : Le (g_quireref06_Runes k x10551) (g_quireref06_Runes k' x10551) := by
  unfold g_quireref06_Runes
  repeat' first | (with_reducible exact Le.rfl) | (with_reducible exact g_quireref06_Runes_l0_mono hk hk) | (with_reducible refine Le.bind ?_ ?_) | (with_reducible refine Le.cond ?_ ?_) | intro _ | split
theorem g_quirelaw06_ints_l0_mono {k k' : Nat} (hk : k ≤ k') {x10641 : (List Int)} {x10642 : (List Int)} : ∀ {n n' : Nat} (hn : n ≤ n') {y0 : Int}, Le (g_quirelaw06_ints_l0 k x10641 x10642 n y0) (g_quirelaw06_ints_l0 k' x10641 x10642 n' y0)
  | 0, _, _ => Le.none rfl
  | n + 1, 0, h => absurd h (Nat.not_succ_le_zero n)
  | n + 1, n' + 1, hn => by
    rw [g_quirelaw06_ints_l0.eq_2, g_quirelaw06_ints_l0.eq_2]
    repeat' first | (with_reducible exact Le.rfl) | (with_reducible exact g_quirelaw06_ints_l0_eqs_mono hk) | (with_reducible exact g_quirelaw06_ints_l0_mono hk (Nat.le_of_succ_le_succ hn)) | (with_reducible refine Le.bind ?_ ?_) | (with_reducible refine Le.cond ?_ ?_) | intro _ | split
theorem g_quirelaw06_ints_mono {k k' : Nat} (hk : k ≤ k') {x10641 : (List Int)} {x10642 : (List Int)} : Le (g_quirelaw06_ints k x10641 x10642) (g_quirelaw06_ints k' x10641 x10642) := by
  unfold g_quirelaw06_ints
  repeat' first | (with_reducible exact Le.rfl) | (with_reducible exact g_quirelaw06_ints_l0_mono hk hk) | (with_reducible refine Le.bind ?_ ?_) | (with_reducible refine Le.cond ?_ ?_) | intro _ | split
theorem g_unicode_utf8_RuneCountInString_l0_mono {k k' : Nat} (hk : k ≤ k') {x10734 : ByteArray} : ∀ {n n' : Nat} (hn : n ≤ n') {y0 : Int} {y1 : Nat}, Le (g_unicode_utf8_RuneCountInString_l0 k x10734 n y0 y1) (g_unicode_utf8_RuneCountInString_l0 k' x10734 n' y0 y1)
  | 0, _, _ => Le.none rfl
  | n + 1, 0, h => absurd h (Nat.not_succ_le_zero n)
  | n + 1, n' + 1, hn => by
    rw [g_unicode_utf8_RuneCountInString_l0.eq_2, g_unicode_utf8_RuneCountInString_l0.eq_2]
    repeat' first | (with_reducible exact Le.rfl) | (with_reducible exact g_unicode_utf8_RuneCountInString_l0_eqs_mono hk) | (with_reducible exact g_unicode_utf8_RuneCountInString_l0_mono hk (Nat.le_of_succ_le_succ hn)) | (with_reducible refine Le.bind ?_ ?_) | (with_reducible refine Le.cond ?_ ?_) | intro _ | split
theorem g_unicode_utf8_RuneCountInString_mono {k k' : Nat} (hk : k ≤ k') {x10734 : ByteArray} : Le (g_unicode_utf8_RuneCountInString k x10734) (g_unicode_utf8_RuneCountInString k' x10734) := by
  unfold g_unicode_utf8_RuneCountInString
  repeat' first | (with_reducible exact Le.rfl) | (with_reducible exact g_unicode_utf8_RuneCountInString_l0_mono hk hk) | (with_reducible refine Le.bind ?_ ?_) | (with_reducible refine Le.cond ?_ ?_) | intro _ | split
theorem g_utf_Count_mono {k k' : Nat} (hk : k ≤ k') {x10732 : ByteArray} : Le (g_utf_Count k x10732) (g_utf_Count k' x10732) := by
  unfold g_utf_Count
  repeat' first | (with_reducible exact Le.rfl) | (with_reducible exact g_unicode_utf8_RuneCountInString_mono hk) | (with_reducible refine Le.bind ?_ ?_) | (with_reducible refine Le.cond ?_ ?_) | intro _ | split
theorem g_strings_Builder_copyCheck_mono {k k' : Nat} (hk : k ≤ k') : Le (g_strings_Builder_copyCheck k) (g_strings_Builder_copyCheck k') := by
  unfold g_strings_Builder_copyCheck
  repeat' first | (with_reducible exact Le.rfl) | (with_reducible refine Le.bind ?_ ?_) | (with_reducible refine Le.cond ?_ ?_) | intro _ | split
theorem g_unicode_utf8_appendRuneNonASCII_mono {k k' : Nat} (hk : k ≤ k') {x10796 : Int} : Le (g_unicode_utf8_appendRuneNonASCII k x10796) (g_unicode_utf8_appendRuneNonASCII k' x10796) := by
  unfold g_unicode_utf8_appendRuneNonASCII
  repeat' first | (with_reducible exact Le.rfl) | (with_reducible refine Le.bind ?_ ?_) | (with_reducible refine Le.cond ?_ ?_) | intro _ | split
theorem g_unicode_utf8_AppendRune_mono {k k' : Nat} (hk : k ≤ k') {x10788 : Int} : Le (g_unicode_utf8_AppendRune k x10788) (g_unicode_utf8_AppendRune k' x10788) := by
  unfold g_unicode_utf8_AppendRune
  repeat' first | (with_reducible exact Le.rfl) | (with_reducible exact g_unicode_utf8_appendRuneNonASCII_mono hk) | (with_reducible refine Le.bind ?_ ?_) | (with_reducible refine Le.cond ?_ ?_) | intro _ | split
theorem g_strings_Builder_WriteRune_mono {k k' : Nat} (hk : k ≤ k') {x10784 : Int} : Le (g_strings_Builder_WriteRune k x10784) (g_strings_Builder_WriteRune k' x10784) := by
  unfold g_strings_Builder_WriteRune
  repeat' first | (with_reducible exact Le.rfl) | (with_reducible exact g_strings_Builder_copyCheck_mono hk) | (with_reducible exact g_unicode_utf8_AppendRune_mono hk) | (with_reducible refine Le.bind ?_ ?_) | (with_reducible refine Le.cond ?_ ?_) | intro _ | split
theorem g_strings_Builder_copyCheck__b_mono {k k' : Nat} (hk : k ≤ k') {x10921 : Bool} {x10922 : (List Int)} : Le (g_strings_Builder_copyCheck__b k x10921 x10922) (g_strings_Builder_copyCheck__b k' x10921 x10922) := by
  unfold g_strings_Builder_copyCheck__b
  repeat' first | (with_reducible exact Le.rfl) | (with_reducible refine Le.bind ?_ ?_) | (with_reducible refine Le.cond ?_ ?_) | intro _ | split
theorem g_unicode_utf8_appendRuneNonASCII__b_mono {k k' : Nat} (hk : k ≤ k') {x10938 : Int} {x10939 : (List Int)} : Le (g_unicode_utf8_appendRuneNonASCII__b k x10938 x10939) (g_unicode_utf8_appendRuneNonASCII__b k' x10938 x10939) := by
  unfold g_unicode_utf8_appendRuneNonASCII__b
  repeat' first | (with_reducible exact Le.rfl) | (with_reducible refine Le.bind ?_ ?_) | (with_reducible refine Le.cond ?_ ?_) | intro _ | split
theorem g_unicode_utf8_AppendRune__b_mono {k k' : Nat} (hk : k ≤ k') {x10929 : Int} {x10930 : (List Int)} : Le (g_unicode_utf8_AppendRune__b k x10929 x10930) (g_unicode_utf8_AppendRune__b k' x10929 x10930) := by
  unfold g_unicode_utf8_AppendRune__b
  repeat' first | (with_reducible exact Le.rfl) | (with_reducible exact g_unicode_utf8_appendRuneNonASCII__b_mono hk) | (with_reducible refine Le.bind ?_ ?_) | (with_reducible refine Le.cond ?_ ?_) | intro _ | split
theorem g_strings_Builder_WriteRune__b_mono {k k' : Nat} (hk : k ≤ k') {x10917 : Int} {x10918 : Bool} {x10919 : (List Int)} : Le (g_strings_Builder_WriteRune__b k x10917 x10918 x10919) (g_strings_Builder_WriteRune__b k' x10917 x10918 x10919) := by
  unfold g_strings_Builder_WriteRune__b
  repeat' first | (with_reducible exact Le.rfl) | (with_reducible exact g_strings_Builder_copyCheck__b_mono hk) | (with_reducible exact g_unicode_utf8_AppendRune__b_mono hk) | (with_reducible refine Le.bind ?_ ?_) | (with_reducible refine Le.cond ?_ ?_) | intro _ | split
theorem g_strings_Builder_String_mono {k k' : Nat} (hk : k ≤ k') {x11089 : Bool} {x11090 : (List Int)} : Le (g_strings_Builder_String k x11089 x11090) (g_strings_Builder_String k' x11089 x11090) := by
  unfold g_strings_Builder_String
  repeat' first | (with_reducible exact Le.rfl) | (with_reducible refine Le.bind ?_ ?_) | (with_reducible refine Le.cond ?_ ?_) | intro _ | split
theorem g_utf_Cut_l0_mono {k k' : Nat} (hk : k ≤ k') {x10771 : ByteArray} {x10773 : Int} {x11099 : Int} : ∀ {n n' : Nat} (hn : n ≤ n') {y0 : Int} {y1 : Bool} {y2 : (List Int)} {y3 : Nat}, Le (g_utf_Cut_l0 k x10771 x10773 x11099 n y0 y1 y2 y3) (g_utf_Cut_l0 k' x10771 x10773 x11099 n' y0 y1 y2 y3)
  | 0, _, _ => Le.none rfl
  | n + 1, 0, h => absurd h (Nat.not_succ_le_zero n)
  | n + 1, n' + 1, hn => by
    rw [g_utf_Cut_l0.eq_2, g_utf_Cut_l0.eq_2]
    repeat' first | (with_reducible exact Le.rfl) | (with_reducible exact g_strings_Builder_WriteRune__b_mono hk) | (with_reducible exact g_utf_Cut_l0_eqs_mono hk) | (with_reducible exact g_utf_Cut_l0_mono hk (Nat.le_of_succ_le_succ hn)) | (with_reducible refine Le.bind ?_ ?_) | (with_reducible refine Le.cond ?_ ?_) | intro _ | split
theorem g_utf_Cut_mono {k k' : Nat} (hk : k ≤ k') {x10771 : ByteArray} {x10772 : Int} {x10773 : Int} : Le (g_utf_Cut k x10771 x10772 x10773) (g_utf_Cut k' x10771 x10772 x10773) := by
  unfold g_utf_Cut
  repeat' first | (with_reducible exact Le.rfl) | (with_reducible exact g_utf_Cut_l0_mono hk hk) | (with_reducible exact g_strings_Builder_String_mono hk) | (with_reducible refine Le.bind ?_ ?_) | (with_reducible refine Le.cond ?_ ?_) | intro _ | split
theorem g_strings_splitSeq_mono {k k' : Nat} (hk : k ≤ k') {x11220 : ByteArray} {x11221 : ByteArray} {x11222 : Int} : Le (g_strings_splitSeq k x11220 x11221 x11222) (g_strings_splitSeq k' x11220 x11221 x11222) := by
  unfold g_strings_splitSeq
  repeat' first | (with_reducible exact Le.rfl) | (with_reducible refine Le.bind ?_ ?_) | (with_reducible refine Le.cond ?_ ?_) | intro _ | split
theorem g_strings_SplitSeq_mono {k k' : Nat} (hk : k ≤ k') {x11217 : ByteArray} {x11218 : ByteArray} : Le (g_strings_SplitSeq k x11217 x11218) (g_strings_SplitSeq k' x11217 x11218) := by
  unfold g_strings_SplitSeq
  repeat' first | (with_reducible exact Le.rfl) | (with_reducible exact g_strings_splitSeq_mono hk) | (with_reducible refine Le.bind ?_ ?_) | (with_reducible refine Le.cond ?_ ?_) | intro _ | split
theorem g_unicode_utf8_decodeRuneInStringSlow_mono {k k' : Nat} (hk : k ≤ k') {x11254 : ByteArray} : Le (g_unicode_utf8_decodeRuneInStringSlow k x11254) (g_unicode_utf8_decodeRuneInStringSlow k' x11254) := by
  unfold g_unicode_utf8_decodeRuneInStringSlow
  repeat' first | (with_reducible exact Le.rfl) | (with_reducible refine Le.bind ?_ ?_) | (with_reducible refine Le.cond ?_ ?_) | intro _ | split
theorem g_unicode_utf8_DecodeRuneInString_mono {k k' : Nat} (hk : k ≤ k') {x11242 : ByteArray} : Le (g_unicode_utf8_DecodeRuneInString k x11242) (g_unicode_utf8_DecodeRuneInString k' x11242) := by
  unfold g_unicode_utf8_DecodeRuneInString
  repeat' first | (with_reducible exact Le.rfl) | (with_reducible exact g_unicode_utf8_decodeRuneInStringSlow_mono hk) | (with_reducible refine Le.bind ?_ ?_) | (with_reducible refine Le.cond ?_ ?_) | intro _ | split
theorem g_internal_stringslite_IndexByte_mono {k k' : Nat} (hk : k ≤ k') {x11600 : ByteArray} {x11601 : Int} : Le (g_internal_stringslite_IndexByte k x11600 x11601) (g_internal_stringslite_IndexByte k' x11600 x11601) := by
  unfold g_internal_stringslite_IndexByte
  repeat' first | (with_reducible exact Le.rfl) | (with_reducible refine Le.bind ?_ ?_) | (with_reducible refine Le.cond ?_ ?_) | intro _ | split
theorem g_internal_stringslite_Index_mono {k k' : Nat} (hk : k ≤ k') {x11587 : ByteArray} {x11588 : ByteArray} : Le (g_internal_stringslite_Index k x11587 x11588) (g_internal_stringslite_Index k' x11587 x11588) := by
  unfold g_internal_stringslite_Index
  repeat' first | (with_reducible exact Le.rfl) | (with_reducible exact g_internal_stringslite_IndexByte_mono hk) | (with_reducible refine Le.bind ?_ ?_) | (with_reducible refine Le.cond ?_ ?_) | intro _ | split
theorem g_strings_Index_mono {k k' : Nat} (hk : k ≤ k') {x11584 : ByteArray} {x11585 : ByteArray} : Le (g_strings_Index k x11584 x11585) (g_strings_Index k' x11584 x11585) := by
  unfold g_strings_Index
  repeat' first | (with_reducible exact Le.rfl) | (with_reducible exact g_internal_stringslite_Index_mono hk) | (with_reducible refine Le.bind ?_ ?_) | (with_reducible refine Le.cond ?_ ?_) | intro _ | split
theorem g_slices_AppendSeq_string_string_l0_mono {k k' : Nat} (hk : k ≤ k') : ∀ {n n' : Nat} (hn : n ≤ n') {y0 : ByteArray} {y1 : (List ByteArray)}, Le (g_slices_AppendSeq_string_string_l0 k n y0 y1) (g_slices_AppendSeq_string_string_l0 k' n' y0 y1)
  | 0, _, _ => Le.none rfl
  | n + 1, 0, h => absurd h (Nat.not_succ_le_zero n)
  | n + 1, n' + 1, hn => by
    rw [g_slices_AppendSeq_string_string_l0.eq_2, g_slices_AppendSeq_string_string_l0.eq_2]
    repeat' first | (with_reducible exact Le.rfl) | (with_reducible exact g_unicode_utf8_DecodeRuneInString_mono hk) | (with_reducible exact g_slices_AppendSeq_string_string_l0_eqs_mono hk) | (with_reducible exact g_slices_AppendSeq_string_string_l0_mono hk (Nat.le_of_succ_le_succ hn)) | (with_reducible refine Le.bind ?_ ?_) | (with_reducible refine Le.cond ?_ ?_) | intro _ | split
theorem g_slices_AppendSeq_string_string_l1_mono {k k' : Nat} (hk : k ≤ k') {x11231 : ByteArray} {x11233 : Int} : ∀ {n n' : Nat} (hn : n ≤ n') {y0 : ByteArray} {y1 : (List ByteArray)}, Le (g_slices_AppendSeq_string_string_l1 k x11231 x11233 n y0 y1) (g_slices_AppendSeq_string_string_l1 k' x11231 x11233 n' y0 y1)
  | 0, _, _ => Le.none rfl
  | n + 1, 0, h => absurd h (Nat.not_succ_le_zero n)
  | n + 1, n' + 1, hn => by
    rw [g_slices_AppendSeq_string_string_l1.eq_2, g_slices_AppendSeq_string_string_l1.eq_2]
    repeat' first | (with_reducible exact Le.rfl) | (with_reducible exact g_strings_Index_mono hk) | (with_reducible exact g_slices_AppendSeq_string_string_l1_eqs_mono hk) | (with_reducible exact g_slices_AppendSeq_string_string_l1_mono hk (Nat.le_of_succ_le_succ hn)) | (with_reducible refine Le.bind ?_ ?_) | (with_reducible refine Le.cond ?_ ?_) | intro _ | split
theorem g_slices_AppendSeq_string_string_mono {k k' : Nat} (hk : k ≤ k') {x11231 : ByteArray} {x11232 : ByteArray} {x11233 : Int} : Le (g_slices_AppendSeq_string_string k x11231 x11232 x11233) (g_slices_AppendSeq_string_string k' x11231 x11232 x11233) := by
  unfold g_slices_AppendSeq_string_string
  repeat' first | (with_reducible exact Le.rfl) | (with_reducible exact g_slices_AppendSeq_string_string_l0_mono hk hk) | (with_reducible exact g_slices_AppendSeq_string_string_l1_mono hk hk) | (with_reducible refine Le.bind ?_ ?_) | (with_reducible refine Le.cond ?_ ?_) | intro _ | split
theorem g_slices_Collect_string_mono {k k' : Nat} (hk : k ≤ k') {x11227 : ByteArray} {x11228 : ByteArray} {x11229 : Int} : Le (g_slices_Collect_string k x11227 x11228 x11229) (g_slices_Collect_string k' x11227 x11228 x11229) := by
  unfold g_slices_Collect_string
  repeat' first | (with_reducible exact Le.rfl) | (with_reducible exact g_slices_AppendSeq_string_string_mono hk) | (with_reducible refine Le.bind ?_ ?_) | (with_reducible refine Le.cond ?_ ?_) | intro _ | split
theorem g_utf_Trim_1_mono {k k' : Nat} (hk : k ≤ k') {x11897 : ByteArray} : Le (g_utf_Trim_1 k x11897) (g_utf_Trim_1 k' x11897) := by
  unfold g_utf_Trim_1
  repeat' first | (with_reducible exact Le.rfl) | (with_reducible refine Le.bind ?_ ?_) | (with_reducible refine Le.cond ?_ ?_) | intro _ | split
theorem g_slices_IndexFunc_string_string_l0_mono {k k' : Nat} (hk : k ≤ k') {x11891 : (List ByteArray)} : ∀ {n n' : Nat} (hn : n ≤ n') {y0 : Int}, Le (g_slices_IndexFunc_string_string_l0 k x11891 n y0) (g_slices_IndexFunc_string_string_l0 k' x11891 n' y0)
  | 0, _, _ => Le.none rfl
  | n + 1, 0, h => absurd h (Nat.not_succ_le_zero n)
  | n + 1, n' + 1, hn => by
    rw [g_slices_IndexFunc_string_string_l0.eq_2, g_slices_IndexFunc_string_string_l0.eq_2]
    repeat' first | (with_reducible exact Le.rfl) | (with_reducible exact g_utf_Trim_1_mono hk) | (with_reducible exact g_slices_IndexFunc_string_string_l0_eqs_mono hk) | (with_reducible exact g_slices_IndexFunc_string_string_l0_mono hk (Nat.le_of_succ_le_succ hn)) | (with_reducible refine Le.bind ?_ ?_) | (with_reducible refine Le.cond ?_ ?_) | intro _ | split
theorem g_slices_IndexFunc_string_string_mono {k k' : Nat} (hk : k ≤ k') {x11891 : (List ByteArray)} : Le (g_slices_IndexFunc_string_string k x11891) (g_slices_IndexFunc_string_string k' x11891) := by
  unfold g_slices_IndexFunc_string_string
  repeat' first | (with_reducible exact Le.rfl) | (with_reducible exact g_slices_IndexFunc_string_string_l0_mono hk hk) | (with_reducible refine Le.bind ?_ ?_) | (with_reducible refine Le.cond ?_ ?_) | intro _ | split
theorem g_slices_DeleteFunc_string_string_l0_mono {k k' : Nat} (hk : k ≤ k') : ∀ {n n' : Nat} (hn : n ≤ n') {y0 : Int} {y1 : Int} {y2 : (List ByteArray)}, Le (g_slices_DeleteFunc_string_string_l0 k n y0 y1 y2) (g_slices_DeleteFunc_string_string_l0 k' n' y0 y1 y2)
  | 0, _, _ => Le.none rfl
  | n + 1, 0, h => absurd h (Nat.not_succ_le_zero n)
  | n + 1, n' + 1, hn => by
    rw [g_slices_DeleteFunc_string_string_l0.eq_2, g_slices_DeleteFunc_string_string_l0.eq_2]
    repeat' first | (with_reducible exact Le.rfl) | (with_reducible exact g_utf_Trim_1_mono hk) | (with_reducible exact g_slices_DeleteFunc_string_string_l0_eqs_mono hk) | (with_reducible exact g_slices_DeleteFunc_string_string_l0_mono hk (Nat.le_of_succ_le_succ hn)) | (with_reducible refine Le.bind ?_ ?_) | (with_reducible refine Le.cond ?_ ?_) | intro _ | split
theorem g_slices_DeleteFunc_string_string_mono {k k' : Nat} (hk : k ≤ k') {x11889 : (List ByteArray)} : Le (g_slices_DeleteFunc_string_string k x11889) (g_slices_DeleteFunc_string_string k' x11889) := by
  unfold g_slices_DeleteFunc_string_string
  repeat' first | (with_reducible exact Le.rfl) | (with_reducible exact g_slices_IndexFunc_string_string_mono hk) | (with_reducible exact g_slices_DeleteFunc_string_string_l0_mono hk hk) | (with_reducible refine Le.bind ?_ ?_) | (with_reducible refine Le.cond ?_ ?_) | intro _ | split
theorem g_strings_Builder_grow_mono {k k' : Nat} (hk : k ≤ k') {x12169 : Int} : Le (g_strings_Builder_grow k x12169) (g_strings_Builder_grow k' x12169) := by
  unfold g_strings_Builder_grow
  repeat' first | (with_reducible exact Le.rfl) | (with_reducible refine Le.bind ?_ ?_) | (with_reducible refine Le.cond ?_ ?_) | intro _ | split
theorem g_strings_Builder_Grow_mono {k k' : Nat} (hk : k ≤ k') {x12161 : Int} : Le (g_strings_Builder_Grow k x12161) (g_strings_Builder_Grow k' x12161) := by
  unfold g_strings_Builder_Grow
  repeat' first | (with_reducible exact Le.rfl) | (with_reducible exact g_strings_Builder_copyCheck_mono hk) | (with_reducible exact g_strings_Builder_grow_mono hk) | (with_reducible refine Le.bind ?_ ?_) | (with_reducible refine Le.cond ?_ ?_) | intro _ | split
theorem g_strings_Builder_copyCheck__c_mono {k k' : Nat} (hk : k ≤ k') {x12202 : (List Int)} : Le (g_strings_Builder_copyCheck__c k x12202) (g_strings_Builder_copyCheck__c k' x12202) := by
  unfold g_strings_Builder_copyCheck__c
  repeat' first | (with_reducible exact Le.rfl) | (with_reducible refine Le.bind ?_ ?_) | (with_reducible refine Le.cond ?_ ?_) | intro _ | split
theorem g_strings_Builder_WriteString_mono {k k' : Nat} (hk : k ≤ k') {x12199 : ByteArray} {x12200 : (List Int)} : Le (g_strings_Builder_WriteString k x12199 x12200) (g_strings_Builder_WriteString k' x12199 x12200) := by
  unfold g_strings_Builder_WriteString
  repeat' first | (with_reducible exact Le.rfl) | (with_reducible exact g_strings_Builder_copyCheck__c_mono hk) | (with_reducible refine Le.bind ?_ ?_) | (with_reducible refine Le.cond ?_ ?_) | intro _ | split
theorem g_strings_Builder_String__b_mono {k k' : Nat} (hk : k ≤ k') {x12225 : (List Int)} : Le (g_strings_Builder_String__b k x12225) (g_strings_Builder_String__b k' x12225) := by
  unfold g_strings_Builder_String__b
  repeat' first | (with_reducible exact Le.rfl) | (with_reducible refine Le.bind ?_ ?_) | (with_reducible refine Le.cond ?_ ?_) | intro _ | split
theorem g_strings_Join_l0_mono {k k' : Nat} (hk : k ≤ k') {x12076 : (List ByteArray)} : ∀ {n n' : Nat} (hn : n ≤ n') {y0 : Int} {y1 : Int}, Le (g_strings_Join_l0 k x12076 n y0 y1) (g_strings_Join_l0 k' x12076 n' y0 y1)
  | 0, _, _ => Le.none rfl
  | n + 1, 0, h => absurd h (Nat.not_succ_le_zero n)
  | n + 1, n' + 1, hn => by
    rw [g_strings_Join_l0.eq_2, g_strings_Join_l0.eq_2]
    repeat' first | (with_reducible exact Le.rfl) | (with_reducible exact g_strings_Join_l0_eqs_mono hk) | (with_reducible exact g_strings_Join_l0_mono hk (Nat.le_of_succ_le_succ hn)) | (with_reducible refine Le.bind ?_ ?_) | (with_reducible refine Le.cond ?_ ?_) | intro _ | split
theorem g_strings_Join_l1_mono {k k' : Nat} (hk : k ≤ k') {x12076 : (List ByteArray)} {x12077 : ByteArray} {x12339 : Int} : ∀ {n n' : Nat} (hn : n ≤ n') {y0 : Int} {y1 : (List Int)}, Le (g_strings_Join_l1 k x12076 x12077 x12339 n y0 y1) (g_strings_Join_l1 k' x12076 x12077 x12339 n' y0 y1)
  | 0, _, _ => Le.none rfl
  | n + 1, 0, h => absurd h (Nat.not_succ_le_zero n)
  | n + 1, n' + 1, hn => by
    rw [g_strings_Join_l1.eq_2, g_strings_Join_l1.eq_2]
    repeat' first | (with_reducible exact Le.rfl) | (with_reducible exact g_strings_Builder_WriteString_mono hk) | (with_reducible exact g_strings_Join_l1_eqs_mono hk) | (with_reducible exact g_strings_Join_l1_mono hk (Nat.le_of_succ_le_succ hn)) | (with_reducible refine Le.bind ?_ ?_) | (with_reducible refine Le.cond ?_ ?_) | intro _ | split
theorem g_strings_Join_mono {k k' : Nat} (hk : k ≤ k') {x12076 : (List ByteArray)} {x12077 : ByteArray} : Le (g_strings_Join k x12076 x12077) (g_strings_Join k' x12076 x12077) := by
  unfold g_strings_Join
  repeat' first | (with_reducible exact Le.rfl) | (with_reducible exact g_strings_Join_l0_mono hk hk) | (with_reducible exact g_strings_Builder_Grow_mono hk) | (with_reducible exact g_strings_Builder_WriteString_mono hk) | (with_reducible exact g_strings_Join_l1_mono hk hk) | (with_reducible exact g_strings_Builder_String__b_mono hk) | (with_reducible refine Le.bind ?_ ?_) | (with_reducible refine Le.cond ?_ ?_) | intro _ | split
theorem g_utf_Trim_mono {k k' : Nat} (hk : k ≤ k') {x11215 : ByteArray} : Le (g_utf_Trim k x11215) (g_utf_Trim k' x11215) := by
  unfold g_utf_Trim
  repeat' first | (with_reducible exact Le.rfl) | (with_reducible exact g_strings_SplitSeq_mono hk) | (with_reducible exact g_slices_Collect_string_mono hk) | (with_reducible exact g_slices_DeleteFunc_string_string_mono hk) | (with_reducible exact g_strings_Join_mono hk) | (with_reducible refine Le.bind ?_ ?_) | (with_reducible refine Le.cond ?_ ?_) | intro _ | split
theorem g_quirelaw06_alive_mono {k k' : Nat} (hk : k ≤ k') : Le (g_quirelaw06_alive k) (g_quirelaw06_alive k') := by
  unfold g_quirelaw06_alive
  repeat' first | (with_reducible exact Le.rfl) | (with_reducible exact g_utf_Valid_mono hk) | (with_reducible exact g_utf_Cut_mono hk) | (with_reducible exact g_utf_Trim_mono hk) | (with_reducible exact g_utf_Count_mono hk) | (with_reducible exact g_utf_Xml_mono hk) | (with_reducible refine Le.bind ?_ ?_) | (with_reducible refine Le.cond ?_ ?_) | intro _ | split
theorem g_quirelaw06_UtfTexts_mono {k k' : Nat} (hk : k ≤ k') {x2 : ByteArray} : Le (g_quirelaw06_UtfTexts k x2) (g_quirelaw06_UtfTexts k' x2) := by
  unfold g_quirelaw06_UtfTexts
  repeat' first | (with_reducible exact Le.rfl) | (with_reducible exact g_utf_Valid_mono hk) | (with_reducible exact g_quireref06_Valid_mono hk) | (with_reducible exact g_utf_Xml_mono hk) | (with_reducible exact g_quireref06_Xml_mono hk) | (with_reducible exact g_utf_Runes_mono hk) | (with_reducible exact g_quireref06_Runes_mono hk) | (with_reducible exact g_quirelaw06_ints_mono hk) | (with_reducible exact g_utf_Count_mono hk) | (with_reducible exact g_quirelaw06_alive_mono hk) | (with_reducible refine Le.bind ?_ ?_) | (with_reducible refine Le.cond ?_ ?_) | intro _ | split
theorem g_utf_turned_l0_mono {k k' : Nat} (hk : k ≤ k') {x12544 : ByteArray} {x12545 : Int} {x12546 : Int} {x12547 : Int} : ∀ {n n' : Nat} (hn : n ≤ n') {y0 : Int} {y1 : (List Int)}, Le (g_utf_turned_l0 k x12544 x12545 x12546 x12547 n y0 y1) (g_utf_turned_l0 k' x12544 x12545 x12546 x12547 n' y0 y1)
  | 0, _, _ => Le.none rfl
  | n + 1, 0, h => absurd h (Nat.not_succ_le_zero n)
  | n + 1, n' + 1, hn => by
    rw [g_utf_turned_l0.eq_2, g_utf_turned_l0.eq_2]
    repeat' first | (with_reducible exact Le.rfl) | (with_reducible exact g_utf_turned_l0_eqs_mono hk) | (with_reducible exact g_utf_turned_l0_mono hk (Nat.le_of_succ_le_succ hn)) | (with_reducible refine Le.bind ?_ ?_) | (with_reducible refine Le.cond ?_ ?_) | intro _ | split
theorem g_utf_turned_mono {k k' : Nat} (hk : k ≤ k') {x12544 : ByteArray} {x12545 : Int} {x12546 : Int} {x12547 : Int} : Le (g_utf_turned k x12544 x12545 x12546 x12547) (g_utf_turned k' x12544 x12545 x12546 x12547) := by
  unfold g_utf_turned
  repeat' first | (with_reducible exact Le.rfl) | (with_reducible exact g_utf_turned_l0_mono hk hk) | (with_reducible refine Le.bind ?_ ?_) | (with_reducible refine Le.cond ?_ ?_) | intro _ | split
theorem g_utf_Lower_mono {k k' : Nat} (hk : k ≤ k') {x12542 : ByteArray} : Le (g_utf_Lower k x12542) (g_utf_Lower k' x12542) := by
  unfold g_utf_Lower
  repeat' first | (with_reducible exact Le.rfl) | (with_reducible exact g_utf_turned_mono hk) | (with_reducible refine Le.bind ?_ ?_) | (with_reducible refine Le.cond ?_ ?_) | intro _ | split
theorem g_utf_Upper_mono {k k' : Nat} (hk : k ≤ k') {x12672 : ByteArray} : Le (g_utf_Upper k x12672) (g_utf_Upper k' x12672) := by
  unfold g_utf_Upper
  repeat' first | (with_reducible exact Le.rfl) | (with_reducible exact g_utf_turned_mono hk) | (with_reducible refine Le.bind ?_ ?_) | (with_reducible refine Le.cond ?_ ?_) | intro _ | split
theorem g_quirelaw06_UtfTwice_mono {k k' : Nat} (hk : k ≤ k') {x12535 : ByteArray} : Le (g_quirelaw06_UtfTwice k x12535) (g_quirelaw06_UtfTwice k' x12535) := by
  unfold g_quirelaw06_UtfTwice
  repeat' first | (with_reducible exact Le.rfl) | (with_reducible exact g_utf_Trim_mono hk) | (with_reducible exact g_utf_Lower_mono hk) | (with_reducible exact g_utf_Upper_mono hk) | (with_reducible exact g_quirelaw06_alive_mono hk) | (with_reducible refine Le.bind ?_ ?_) | (with_reducible refine Le.cond ?_ ?_) | intro _ | split
theorem g_quireref06_turned_l0_mono {k k' : Nat} (hk : k ≤ k') {x12782 : ByteArray} {x12783 : Int} {x12784 : Int} : ∀ {n n' : Nat} (hn : n ≤ n') {y0 : Int} {y1 : (List Int)}, Le (g_quireref06_turned_l0 k x12782 x12783 x12784 n y0 y1) (g_quireref06_turned_l0 k' x12782 x12783 x12784 n' y0 y1)
  | 0, _, _ => Le.none rfl
  | n + 1, 0, h => absurd h (Nat.not_succ_le_zero n)
  | n + 1, n' + 1, hn => by
    rw [g_quireref06_turned_l0.eq_2, g_quireref06_turned_l0.eq_2]
    repeat' first | (with_reducible exact Le.rfl) | (with_reducible exact g_quireref06_turned_l0_eqs_mono hk) | (with_reducible exact g_quireref06_turned_l0_mono hk (Nat.le_of_succ_le_succ hn)) | (with_reducible refine Le.bind ?_ ?_) | (with_reducible refine Le.cond ?_ ?_) | intro _ | split
theorem g_quireref06_turned_mono {k k' : Nat} (hk : k ≤ k') {x12782 : ByteArray} {x12783 : Int} {x12784 : Int} : Le (g_quireref06_turned k x12782 x12783 x12784) (g_quireref06_turned k' x12782 x12783 x12784) := by
  unfold g_quireref06_turned
  repeat' first | (with_reducible exact Le.rfl) | (with_reducible exact g_quireref06_turned_l0_mono hk hk) | (with_reducible refine Le.bind ?_ ?_) | (with_reducible refine Le.cond ?_ ?_) | intro _ | split
theorem g_quireref06_Upper_mono {k k' : Nat} (hk : k ≤ k') {x12780 : ByteArray} : Le (g_quireref06_Upper k x12780) (g_quireref06_Upper k' x12780) := by
  unfold g_quireref06_Upper
  repeat' first | (with_reducible exact Le.rfl) | (with_reducible exact g_quireref06_turned_mono hk) | (with_reducible refine Le.bind ?_ ?_) | (with_reducible refine Le.cond ?_ ?_) | intro _ | split
theorem g_quireref06_Lower_mono {k k' : Nat} (hk : k ≤ k') {x13085 : ByteArray} : Le (g_quireref06_Lower k x13085) (g_quireref06_Lower k' x13085) := by
  unfold g_quireref06_Lower
  repeat' first | (with_reducible exact Le.rfl) | (with_reducible exact g_quireref06_turned_mono hk) | (with_reducible refine Le.bind ?_ ?_) | (with_reducible refine Le.cond ?_ ?_) | intro _ | split
theorem g_quireref06_Trim_l0_mono {k k' : Nat} (hk : k ≤ k') {x13097 : ByteArray} : ∀ {n n' : Nat} (hn : n ≤ n') {y0 : Int} {y1 : (List Int)}, Le (g_quireref06_Trim_l0 k x13097 n y0 y1) (g_quireref06_Trim_l0 k' x13097 n' y0 y1)
  | 0, _, _ => Le.none rfl
  | n + 1, 0, h => absurd h (Nat.not_succ_le_zero n)
  | n + 1, n' + 1, hn => by
    rw [g_quireref06_Trim_l0.eq_2, g_quireref06_Trim_l0.eq_2]
    repeat' first | (with_reducible exact Le.rfl) | (with_reducible exact g_quireref06_Trim_l0_eqs_mono hk) | (with_reducible exact g_quireref06_Trim_l0_mono hk (Nat.le_of_succ_le_succ hn)) | (with_reducible refine Le.bind ?_ ?_) | (with_reducible refine Le.cond ?_ ?_) | intro _ | split
theorem g_quireref06_Trim_mono {k k' : Nat} (hk : k ≤ k') {x13097 : ByteArray} : Le (g_quireref06_Trim k x13097) (g_quireref06_Trim k' x13097) := by
  unfold g_quireref06_Trim
  repeat' first | (with_reducible exact Le.rfl) | (with_reducible exact g_quireref06_Trim_l0_mono hk hk) | (with_reducible refine Le.bind ?_ ?_) | (with_reducible refine Le.cond ?_ ?_) | intro _ | split
theorem g_utf_Less_mono {k k' : Nat} (hk : k ≤ k') {x13595 : ByteArray} {x13596 : ByteArray} : Le (g_utf_Less k x13595 x13596) (g_utf_Less k' x13595 x13596) := by
  unfold g_utf_Less
  repeat' first | (with_reducible exact Le.rfl) | (with_reducible refine Le.bind ?_ ?_) | (with_reducible refine Le.cond ?_ ?_) | intro _ | split
theorem g_quirelaw06_UtfTurns_mono {k k' : Nat} (hk : k ≤ k') {x12775 : ByteArray} {x12776 : ByteArray} : Le (g_quirelaw06_UtfTurns k x12775 x12776) (g_quirelaw06_UtfTurns k' x12775 x12776) := by
  unfold g_quirelaw06_UtfTurns
  repeat' first | (with_reducible exact Le.rfl) | (with_reducible exact g_utf_Upper_mono hk) | (with_reducible exact g_quireref06_Upper_mono hk) | (with_reducible exact g_utf_Lower_mono hk) | (with_reducible exact g_quireref06_Lower_mono hk) | (with_reducible exact g_utf_Trim_mono hk) | (with_reducible exact g_quireref06_Trim_mono hk) | (with_reducible exact g_utf_Less_mono hk) | (with_reducible exact g_quirelaw06_alive_mono hk) | (with_reducible refine Le.bind ?_ ?_) | (with_reducible refine Le.cond ?_ ?_) | intro _ | split
theorem g_quireref06_Text_l0_mono {k k' : Nat} (hk : k ≤ k') {x13706 : (List Int)} : ∀ {n n' : Nat} (hn : n ≤ n') {y0 : Int} {y1 : (List Int)}, Le (g_quireref06_Text_l0 k x13706 n y0 y1) (g_quireref06_Text_l0 k' x13706 n' y0 y1)
  | 0, _, _ => Le.none rfl
  | n + 1, 0, h => absurd h (Nat.not_succ_le_zero n)
  | n + 1, n' + 1, hn => by
    rw [g_quireref06_Text_l0.eq_2, g_quireref06_Text_l0.eq_2]
    repeat' first | (with_reducible exact Le.rfl) | (with_reducible exact g_quireref06_Write_mono hk) | (with_reducible exact g_quireref06_Text_l0_eqs_mono hk) | (with_reducible exact g_quireref06_Text_l0_mono hk (Nat.le_of_succ_le_succ hn)) | (with_reducible refine Le.bind ?_ ?_) | (with_reducible refine Le.cond ?_ ?_) | intro _ | split
theorem g_quireref06_Text_mono {k k' : Nat} (hk : k ≤ k') {x13706 : (List Int)} : Le (g_quireref06_Text k x13706) (g_quireref06_Text k' x13706) := by
  unfold g_quireref06_Text
  repeat' first | (with_reducible exact Le.rfl) | (with_reducible exact g_quireref06_Text_l0_mono hk hk) | (with_reducible refine Le.bind ?_ ?_) | (with_reducible refine Le.cond ?_ ?_) | intro _ | split
theorem g_quireref06_Cut_mono {k k' : Nat} (hk : k ≤ k') {x13679 : ByteArray} {x13680 : Int} {x13681 : Int} : Le (g_quireref06_Cut k x13679 x13680 x13681) (g_quireref06_Cut k' x13679 x13680 x13681) := by
  unfold g_quireref06_Cut
  repeat' first | (with_reducible exact Le.rfl) | (with_reducible exact g_quireref06_Runes_mono hk) | (with_reducible exact g_quireref06_Text_mono hk) | (with_reducible refine Le.bind ?_ ?_) | (with_reducible refine Le.cond ?_ ?_) | intro _ | split
theorem g_unicode_utf8_ValidRune_mono {k k' : Nat} (hk : k ≤ k') {x13828 : Int} : Le (g_unicode_utf8_ValidRune k x13828) (g_unicode_utf8_ValidRune k' x13828) := by
  unfold g_unicode_utf8_ValidRune
  repeat' first | (with_reducible exact Le.rfl) | (with_reducible refine Le.bind ?_ ?_) | (with_reducible refine Le.cond ?_ ?_) | intro _ | split
theorem g_utf_Text_l0_mono {k k' : Nat} (hk : k ≤ k') {x13820 : (List Int)} : ∀ {n n' : Nat} (hn : n ≤ n') {y0 : Int} {y1 : Bool} {y2 : (List Int)}, Le (g_utf_Text_l0 k x13820 n y0 y1 y2) (g_utf_Text_l0 k' x13820 n' y0 y1 y2)
  | 0, _, _ => Le.none rfl
  | n + 1, 0, h => absurd h (Nat.not_succ_le_zero n)
  | n + 1, n' + 1, hn => by
    rw [g_utf_Text_l0.eq_2, g_utf_Text_l0.eq_2]
    repeat' first | (with_reducible exact Le.rfl) | (with_reducible exact g_unicode_utf8_ValidRune_mono hk) | (with_reducible exact g_strings_Builder_WriteRune__b_mono hk) | (with_reducible exact g_utf_Text_l0_eqs_mono hk) | (with_reducible exact g_utf_Text_l0_mono hk (Nat.le_of_succ_le_succ hn)) | (with_reducible refine Le.bind ?_ ?_) | (with_reducible refine Le.cond ?_ ?_) | intro _ | split
theorem g_utf_Text_mono {k k' : Nat} (hk : k ≤ k') {x13820 : (List Int)} : Le (g_utf_Text k x13820) (g_utf_Text k' x13820) := by
  unfold g_utf_Text
  repeat' first | (with_reducible exact Le.rfl) | (with_reducible exact g_utf_Text_l0_mono hk hk) | (with_reducible exact g_strings_Builder_String_mono hk) | (with_reducible refine Le.bind ?_ ?_) | (with_reducible refine Le.cond ?_ ?_) | intro _ | split
theorem g_quirelaw06_UtfCuts_mono {k k' : Nat} (hk : k ≤ k') {x13672 : ByteArray} {x13673 : Int} {x13674 : Int} {x13675 : (List Int)} : Le (g_quirelaw06_UtfCuts k x13672 x13673 x13674 x13675) (g_quirelaw06_UtfCuts k' x13672 x13673 x13674 x13675) := by
  unfold g_quirelaw06_UtfCuts
  repeat' first | (with_reducible exact Le.rfl) | (with_reducible exact g_utf_Cut_mono hk) | (with_reducible exact g_quireref06_Cut_mono hk) | (with_reducible exact g_utf_Text_mono hk) | (with_reducible exact g_quireref06_Text_mono hk) | (with_reducible exact g_quirelaw06_alive_mono hk) | (with_reducible refine Le.bind ?_ ?_) | (with_reducible refine Le.cond ?_ ?_) | intro _ | split
theorem g_quirelaw06_UtfBack_mono {k k' : Nat} (hk : k ≤ k') {x14356 : ByteArray} {x14357 : (List Int)} {x14358 : Int} : Le (g_quirelaw06_UtfBack k x14356 x14357 x14358) (g_quirelaw06_UtfBack k' x14356 x14357 x14358) := by
  unfold g_quirelaw06_UtfBack
  repeat' first | (with_reducible exact Le.rfl) | (with_reducible exact g_utf_Text_mono hk) | (with_reducible exact g_utf_Valid_mono hk) | (with_reducible exact g_utf_Count_mono hk) | (with_reducible exact g_utf_Runes_mono hk) | (with_reducible exact g_quirelaw06_alive_mono hk) | (with_reducible exact g_utf_Cut_mono hk) | (with_reducible refine Le.bind ?_ ?_) | (with_reducible refine Le.cond ?_ ?_) | intro _ | split
end Go.Proofs.YtnbjdgamindikaaDoor.W
