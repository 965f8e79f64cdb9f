/- Texts joined: part 3 of what LValOrder stands on. -/
import Derived.Test.YthpcgknknpjpdaaGreatDoorSValOrderb
import Derived.Test.YthpcgknknpjpdaaGreatDoorProg
namespace Go.Proofs.YthpcgknknpjpdaaGreatDoor.W
open Go Go.Q Go.Proofs
set_option linter.unusedVariables false
set_option linter.unusedSimpArgs false
theorem g_val_names_mono {k k' : Nat} (hk : k ≤ k') : Le (g_val_names k) (g_val_names k') := by
  unfold g_val_names
  repeat' first | (with_reducible first | exact Le.rfl | refine Le.bind ?_ ?_ | refine Le.cond ?_ ?_) | intro _ | split
theorem g_sc_Index_string_string_l0_mono {k k' : Nat} (hk : k ≤ k') {x1 : (List ByteArray)} {x2 : ByteArray} : ∀ {n n' : Nat} (hn : n ≤ n') {y1 : Int}, Le (g_sc_Index_string_string_l0 k x1 x2 n y1) (g_sc_Index_string_string_l0 k' x1 x2 n' y1)
  | 0, _, _ => Le.none rfl
  | n + 1, 0, h => absurd h (Nat.not_succ_le_zero n)
  | n + 1, n' + 1, hn => by
    rw [g_sc_Index_string_string_l0.eq_2, g_sc_Index_string_string_l0.eq_2]
    repeat' first | (with_reducible exact Le.rfl) | (with_reducible exact g_sc_Index_string_string_l0_eqs_mono hk) | (with_reducible exact g_sc_Index_string_string_l0_mono hk (Nat.le_of_succ_le_succ hn)) | (with_reducible refine Le.bind ?_ ?_) | (with_reducible refine Le.cond ?_ ?_) | intro _ | split
theorem g_sc_Index_string_string_mono {k k' : Nat} (hk : k ≤ k') {x1 : (List ByteArray)} {x2 : ByteArray} : Le (g_sc_Index_string_string k x1 x2) (g_sc_Index_string_string k' x1 x2) := by
  unfold g_sc_Index_string_string
  repeat' first | (with_reducible exact Le.rfl) | (with_reducible exact g_sc_Index_string_string_l0_mono hk hk) | (with_reducible refine Le.bind ?_ ?_) | (with_reducible refine Le.cond ?_ ?_) | intro _ | split
theorem g_val_ErrCode_mono {k k' : Nat} (hk : k ≤ k') {x1 : ByteArray} : Le (g_val_ErrCode k x1) (g_val_ErrCode k' x1) := by
  unfold g_val_ErrCode
  repeat' first | (with_reducible exact Le.rfl) | (with_reducible exact g_val_names_mono hk) | (with_reducible exact g_sc_Index_string_string_mono hk) | (with_reducible refine Le.bind ?_ ?_) | (with_reducible refine Le.cond ?_ ?_) | intro _ | split
theorem g_val_ErrName_mono {k k' : Nat} (hk : k ≤ k') {x1 : Int} : Le (g_val_ErrName k x1) (g_val_ErrName k' x1) := by
  unfold g_val_ErrName
  repeat' first | (with_reducible exact Le.rfl) | (with_reducible exact g_val_names_mono hk) | (with_reducible refine Le.bind ?_ ?_) | (with_reducible refine Le.cond ?_ ?_) | intro _ | split
theorem g_val_Err_mono {k k' : Nat} (hk : k ≤ k') {x1 : Int} : Le (g_val_Err k x1) (g_val_Err k' x1) := by
  unfold g_val_Err
  repeat' first | (with_reducible exact Le.rfl) | (with_reducible exact g_val_ErrName_mono hk) | (with_reducible refine Le.bind ?_ ?_) | (with_reducible refine Le.cond ?_ ?_) | intro _ | split
theorem g_dec_size_mono {k k' : Nat} (hk : k ≤ k') {x1 : Int} : Le (g_dec_size k x1) (g_dec_size k' x1) := by
  unfold g_dec_size
  repeat' first | (with_reducible first | exact Le.rfl | refine Le.bind ?_ ?_ | refine Le.cond ?_ ?_) | intro _ | split
theorem g_dec_of_mono {k k' : Nat} (hk : k ≤ k') {x1 : Int} {x2 : Int} : Le (g_dec_of k x1 x2) (g_dec_of k' x1 x2) := by
  unfold g_dec_of
  repeat' first | (with_reducible exact Le.rfl) | (with_reducible exact g_dec_size_mono hk) | (with_reducible refine Le.bind ?_ ?_) | (with_reducible refine Le.cond ?_ ?_) | intro _ | split
theorem g_dec_wide_zero_mono {k k' : Nat} (hk : k ≤ k') {x1 : Int} {x2 : Int} : Le (g_dec_wide_zero k x1 x2) (g_dec_wide_zero k' x1 x2) := by
  unfold g_dec_wide_zero
  repeat' first | (with_reducible first | exact Le.rfl | refine Le.bind ?_ ?_ | refine Le.cond ?_ ?_) | intro _ | split
theorem g_mb_Len64_mono {k k' : Nat} (hk : k ≤ k') {x1 : Int} : Le (g_mb_Len64 k x1) (g_mb_Len64 k' x1) := by
  unfold g_mb_Len64
  repeat' first | (with_reducible first | exact Le.rfl | refine Le.bind ?_ ?_ | refine Le.cond ?_ ?_) | intro _ | split
theorem g_mb_LeadingZeros64_mono {k k' : Nat} (hk : k ≤ k') {x1 : Int} : Le (g_mb_LeadingZeros64 k x1) (g_mb_LeadingZeros64 k' x1) := by
  unfold g_mb_LeadingZeros64
  repeat' first | (with_reducible exact Le.rfl) | (with_reducible exact g_mb_Len64_mono hk) | (with_reducible refine Le.bind ?_ ?_) | (with_reducible refine Le.cond ?_ ?_) | intro _ | split
theorem g_mb_Div64_l0_mono {k k' : Nat} (hk : k ≤ k') {x1 : Int} {x2 : Int} : ∀ {n n' : Nat} (hn : n ≤ n') {y1 : Int} {y2 : Int}, Le (g_mb_Div64_l0 k x1 x2 n y1 y2) (g_mb_Div64_l0 k' x1 x2 n' y1 y2)
  | 0, _, _ => Le.none rfl
  | n + 1, 0, h => absurd h (Nat.not_succ_le_zero n)
  | n + 1, n' + 1, hn => by
    rw [g_mb_Div64_l0.eq_2, g_mb_Div64_l0.eq_2]
    repeat' first | (with_reducible exact Le.rfl) | (with_reducible exact g_mb_Div64_l0_eqs_mono hk) | (with_reducible exact g_mb_Div64_l0_mono hk (Nat.le_of_succ_le_succ hn)) | (with_reducible refine Le.bind ?_ ?_) | (with_reducible refine Le.cond ?_ ?_) | intro _ | split
theorem g_mb_Div64_l1_mono {k k' : Nat} (hk : k ≤ k') {x1 : Int} {x2 : Int} : ∀ {n n' : Nat} (hn : n ≤ n') {y1 : Int} {y2 : Int}, Le (g_mb_Div64_l1 k x1 x2 n y1 y2) (g_mb_Div64_l1 k' x1 x2 n' y1 y2)
  | 0, _, _ => Le.none rfl
  | n + 1, 0, h => absurd h (Nat.not_succ_le_zero n)
  | n + 1, n' + 1, hn => by
    rw [g_mb_Div64_l1.eq_2, g_mb_Div64_l1.eq_2]
    repeat' first | (with_reducible exact Le.rfl) | (with_reducible exact g_mb_Div64_l1_eqs_mono hk) | (with_reducible exact g_mb_Div64_l1_mono hk (Nat.le_of_succ_le_succ hn)) | (with_reducible refine Le.bind ?_ ?_) | (with_reducible refine Le.cond ?_ ?_) | intro _ | split
theorem g_mb_Div64_mono {k k' : Nat} (hk : k ≤ k') {x1 : Int} {x2 : Int} {x3 : Int} : Le (g_mb_Div64 k x1 x2 x3) (g_mb_Div64 k' x1 x2 x3) := by
  unfold g_mb_Div64
  repeat' first | (with_reducible exact Le.rfl) | (with_reducible exact g_mb_LeadingZeros64_mono hk) | (with_reducible exact g_mb_Div64_l0_mono hk hk) | (with_reducible exact g_mb_Div64_l1_mono hk hk) | (with_reducible refine Le.bind ?_ ?_) | (with_reducible refine Le.cond ?_ ?_) | intro _ | split
theorem g_dec_wide_by_mono {k k' : Nat} (hk : k ≤ k') {x1 : Int} {x2 : Int} {x3 : Int} : Le (g_dec_wide_by k x1 x2 x3) (g_dec_wide_by k' x1 x2 x3) := by
  unfold g_dec_wide_by
  repeat' first | (with_reducible exact Le.rfl) | (with_reducible exact g_mb_Div64_mono hk) | (with_reducible refine Le.bind ?_ ?_) | (with_reducible refine Le.cond ?_ ?_) | intro _ | split
theorem g_mb_Mul64_mono {k k' : Nat} (hk : k ≤ k') {x1 : Int} {x2 : Int} : Le (g_mb_Mul64 k x1 x2) (g_mb_Mul64 k' x1 x2) := by
  unfold g_mb_Mul64
  repeat' first | (with_reducible first | exact Le.rfl | refine Le.bind ?_ ?_ | refine Le.cond ?_ ?_) | intro _ | split
theorem g_dec_wide_times_mono {k k' : Nat} (hk : k ≤ k') {x1 : Int} {x2 : Int} {x3 : Int} : Le (g_dec_wide_times k x1 x2 x3) (g_dec_wide_times k' x1 x2 x3) := by
  unfold g_dec_wide_times
  repeat' first | (with_reducible exact Le.rfl) | (with_reducible exact g_mb_Mul64_mono hk) | (with_reducible refine Le.bind ?_ ?_) | (with_reducible refine Le.cond ?_ ?_) | intro _ | split
theorem g_dec_wide_tens_l0_mono {k k' : Nat} (hk : k ≤ k') {x1 : Int} : ∀ {n n' : Nat} (hn : n ≤ n') {y1 : Bool} {y2 : Int} {y3 : Int} {y4 : Int}, Le (g_dec_wide_tens_l0 k x1 n y1 y2 y3 y4) (g_dec_wide_tens_l0 k' x1 n' y1 y2 y3 y4)
  | 0, _, _ => Le.none rfl
  | n + 1, 0, h => absurd h (Nat.not_succ_le_zero n)
  | n + 1, n' + 1, hn => by
    rw [g_dec_wide_tens_l0.eq_2, g_dec_wide_tens_l0.eq_2]
    repeat' first | (with_reducible exact Le.rfl) | (with_reducible exact g_dec_wide_zero_mono hk) | (with_reducible exact g_dec_wide_times_mono hk) | (with_reducible exact g_dec_wide_tens_l0_eqs_mono hk) | (with_reducible exact g_dec_wide_tens_l0_mono hk (Nat.le_of_succ_le_succ hn)) | (with_reducible refine Le.bind ?_ ?_) | (with_reducible refine Le.cond ?_ ?_) | intro _ | split
theorem g_dec_wide_tens_mono {k k' : Nat} (hk : k ≤ k') {x1 : Int} {x2 : Int} {x3 : Int} : Le (g_dec_wide_tens k x1 x2 x3) (g_dec_wide_tens k' x1 x2 x3) := by
  unfold g_dec_wide_tens
  repeat' first | (with_reducible exact Le.rfl) | (with_reducible exact g_dec_wide_tens_l0_mono hk hk) | (with_reducible refine Le.bind ?_ ?_) | (with_reducible refine Le.cond ?_ ?_) | intro _ | split
theorem g_dec_num_tell_l0_mono {k k' : Nat} (hk : k ≤ k') : ∀ {n n' : Nat} (hn : n ≤ n') {y1 : Int} {y2 : Int} {y3 : Int} {y4 : Int} {y5 : Int} {y6 : Int}, Le (g_dec_num_tell_l0 k n y1 y2 y3 y4 y5 y6) (g_dec_num_tell_l0 k' n' y1 y2 y3 y4 y5 y6)
  | 0, _, _ => Le.none rfl
  | n + 1, 0, h => absurd h (Nat.not_succ_le_zero n)
  | n + 1, n' + 1, hn => by
    rw [g_dec_num_tell_l0.eq_2, g_dec_num_tell_l0.eq_2]
    repeat' first | (with_reducible exact Le.rfl) | (with_reducible exact g_dec_wide_by_mono hk) | (with_reducible exact g_dec_num_tell_l0_eqs_mono hk) | (with_reducible exact g_dec_num_tell_l0_mono hk (Nat.le_of_succ_le_succ hn)) | (with_reducible refine Le.bind ?_ ?_) | (with_reducible refine Le.cond ?_ ?_) | intro _ | split
theorem g_dec_num_tell_mono {k k' : Nat} (hk : k ≤ k') {x1 : Bool} {x2 : Int} {x3 : Int} {x4 : Int} : Le (g_dec_num_tell k x1 x2 x3 x4) (g_dec_num_tell k' x1 x2 x3 x4) := by
  unfold g_dec_num_tell
  repeat' first | (with_reducible exact Le.rfl) | (with_reducible exact g_dec_wide_zero_mono hk) | (with_reducible exact g_dec_wide_by_mono hk) | (with_reducible exact g_dec_num_tell_l0_mono hk hk) | (with_reducible exact g_dec_wide_tens_mono hk) | (with_reducible refine Le.bind ?_ ?_) | (with_reducible refine Le.cond ?_ ?_) | intro _ | split
theorem g_dec_ranged_l0_mono {k k' : Nat} (hk : k ≤ k') {x1 : (List S_api_Dec)} : ∀ {n n' : Nat} (hn : n ≤ n') {y1 : Int}, Le (g_dec_ranged_l0 k x1 n y1) (g_dec_ranged_l0 k' x1 n' y1)
  | 0, _, _ => Le.none rfl
  | n + 1, 0, h => absurd h (Nat.not_succ_le_zero n)
  | n + 1, n' + 1, hn => by
    rw [g_dec_ranged_l0.eq_2, g_dec_ranged_l0.eq_2]
    repeat' first | (with_reducible exact Le.rfl) | (with_reducible exact g_dec_ranged_l0_eqs_mono hk) | (with_reducible exact g_dec_ranged_l0_mono hk (Nat.le_of_succ_le_succ hn)) | (with_reducible refine Le.bind ?_ ?_) | (with_reducible refine Le.cond ?_ ?_) | intro _ | split
theorem g_dec_ranged_mono {k k' : Nat} (hk : k ≤ k') {x1 : (List S_api_Dec)} : Le (g_dec_ranged k x1) (g_dec_ranged k' x1) := by
  unfold g_dec_ranged
  repeat' first | (with_reducible exact Le.rfl) | (with_reducible exact g_dec_ranged_l0_mono hk hk) | (with_reducible refine Le.bind ?_ ?_) | (with_reducible refine Le.cond ?_ ?_) | intro _ | split
theorem g_dec_Right_mono {k k' : Nat} (hk : k ≤ k') {x1 : Int} {x2 : Int} : Le (g_dec_Right k x1 x2) (g_dec_Right k' x1 x2) := by
  unfold g_dec_Right
  repeat' first | (with_reducible exact Le.rfl) | (with_reducible exact g_dec_of_mono hk) | (with_reducible exact g_dec_num_tell_mono hk) | (with_reducible exact g_dec_ranged_mono hk) | (with_reducible refine Le.bind ?_ ?_) | (with_reducible refine Le.cond ?_ ?_) | intro _ | split
theorem g_val_Of_mono {k k' : Nat} (hk : k ≤ k') {x1 : Int} {x2 : Int} {x3 : Int} : Le (g_val_Of k x1 x2 x3) (g_val_Of k' x1 x2 x3) := by
  unfold g_val_Of
  repeat' first | (with_reducible exact Le.rfl) | (with_reducible exact g_val_Err_mono hk) | (with_reducible exact g_dec_Right_mono hk) | (with_reducible refine Le.bind ?_ ?_) | (with_reducible refine Le.cond ?_ ?_) | intro _ | split
theorem g_u8_word_string_mono {k k' : Nat} (hk : k ≤ k') {x1 : ByteArray} : Le (g_u8_word_string k x1) (g_u8_word_string k' x1) := by
  unfold g_u8_word_string
  repeat' first | (with_reducible first | exact Le.rfl | refine Le.bind ?_ ?_ | refine Le.cond ?_ ?_) | intro _ | split
theorem g_u8_ValidString_l1_mono {k k' : Nat} (hk : k ≤ k') : ∀ {n n' : Nat} (hn : n ≤ n') {y1 : ByteArray}, Le (g_u8_ValidString_l1 k n y1) (g_u8_ValidString_l1 k' n' y1)
  | 0, _, _ => Le.none rfl
  | n + 1, 0, h => absurd h (Nat.not_succ_le_zero n)
  | n + 1, n' + 1, hn => by
    rw [g_u8_ValidString_l1.eq_2, g_u8_ValidString_l1.eq_2]
    repeat' first | (with_reducible exact Le.rfl) | (with_reducible exact g_u8_word_string_mono hk) | (with_reducible exact g_u8_ValidString_l1_eqs_mono hk) | (with_reducible exact g_u8_ValidString_l1_mono hk (Nat.le_of_succ_le_succ hn)) | (with_reducible refine Le.bind ?_ ?_) | (with_reducible refine Le.cond ?_ ?_) | intro _ | split
theorem g_u8_ValidString_l0_mono {k k' : Nat} (hk : k ≤ k') : ∀ {n n' : Nat} (hn : n ≤ n') {y1 : ByteArray}, Le (g_u8_ValidString_l0 k n y1) (g_u8_ValidString_l0 k' n' y1)
  | 0, _, _ => Le.none rfl
  | n + 1, 0, h => absurd h (Nat.not_succ_le_zero n)
  | n + 1, n' + 1, hn => by
    rw [g_u8_ValidString_l0.eq_2, g_u8_ValidString_l0.eq_2]
    repeat' first | (with_reducible exact Le.rfl) | (with_reducible exact g_u8_word_string_mono hk) | (with_reducible exact g_u8_ValidString_l1_mono hk hk) | (with_reducible exact g_u8_ValidString_l0_eqs_mono hk) | (with_reducible exact g_u8_ValidString_l0_mono hk (Nat.le_of_succ_le_succ hn)) | (with_reducible refine Le.bind ?_ ?_) | (with_reducible refine Le.cond ?_ ?_) | intro _ | split
theorem g_u8_ValidString_mono {k k' : Nat} (hk : k ≤ k') {x1 : ByteArray} : Le (g_u8_ValidString k x1) (g_u8_ValidString k' x1) := by
  unfold g_u8_ValidString
  repeat' first | (with_reducible exact Le.rfl) | (with_reducible exact g_u8_ValidString_l0_mono hk hk) | (with_reducible refine Le.bind ?_ ?_) | (with_reducible refine Le.cond ?_ ?_) | intro _ | split
theorem g_utf_Xml_l0_mono {k k' : Nat} (hk : k ≤ k') {x1 : ByteArray} : ∀ {n n' : Nat} (hn : n ≤ n') {y1 : Nat}, Le (g_utf_Xml_l0 k x1 n y1) (g_utf_Xml_l0 k' x1 n' y1)
  | 0, _, _ => Le.none rfl
  | n + 1, 0, h => absurd h (Nat.not_succ_le_zero n)
  | n + 1, n' + 1, hn => by
    rw [g_utf_Xml_l0.eq_2, g_utf_Xml_l0.eq_2]
    repeat' first | (with_reducible exact Le.rfl) | (with_reducible exact g_utf_Xml_l0_eqs_mono hk) | (with_reducible exact g_utf_Xml_l0_mono hk (Nat.le_of_succ_le_succ hn)) | (with_reducible refine Le.bind ?_ ?_) | (with_reducible refine Le.cond ?_ ?_) | intro _ | split
theorem g_utf_Xml_mono {k k' : Nat} (hk : k ≤ k') {x1 : ByteArray} : Le (g_utf_Xml k x1) (g_utf_Xml k' x1) := by
  unfold g_utf_Xml
  repeat' first | (with_reducible exact Le.rfl) | (with_reducible exact g_u8_ValidString_mono hk) | (with_reducible exact g_utf_Xml_l0_mono hk hk) | (with_reducible refine Le.bind ?_ ?_) | (with_reducible refine Le.cond ?_ ?_) | intro _ | split
theorem g_val_Str_mono {k k' : Nat} (hk : k ≤ k') {x1 : ByteArray} : Le (g_val_Str k x1) (g_val_Str k' x1) := by
  unfold g_val_Str
  repeat' first | (with_reducible exact Le.rfl) | (with_reducible exact g_utf_Xml_mono hk) | (with_reducible exact g_val_Err_mono hk) | (with_reducible refine Le.bind ?_ ?_) | (with_reducible refine Le.cond ?_ ?_) | intro _ | split
theorem g_sl_HasPrefix_mono {k k' : Nat} (hk : k ≤ k') {x1 : ByteArray} {x2 : ByteArray} : Le (g_sl_HasPrefix k x1 x2) (g_sl_HasPrefix k' x1 x2) := by
  unfold g_sl_HasPrefix
  repeat' first | (with_reducible first | exact Le.rfl | refine Le.bind ?_ ?_ | refine Le.cond ?_ ?_) | intro _ | split
theorem g_sl_CutPrefix_mono {k k' : Nat} (hk : k ≤ k') {x1 : ByteArray} {x2 : ByteArray} : Le (g_sl_CutPrefix k x1 x2) (g_sl_CutPrefix k' x1 x2) := by
  unfold g_sl_CutPrefix
  repeat' first | (with_reducible exact Le.rfl) | (with_reducible exact g_sl_HasPrefix_mono hk) | (with_reducible refine Le.bind ?_ ?_) | (with_reducible refine Le.cond ?_ ?_) | intro _ | split
theorem g_st_CutPrefix_mono {k k' : Nat} (hk : k ≤ k') {x1 : ByteArray} {x2 : ByteArray} : Le (g_st_CutPrefix k x1 x2) (g_st_CutPrefix k' x1 x2) := by
  unfold g_st_CutPrefix
  repeat' first | (with_reducible exact Le.rfl) | (with_reducible exact g_sl_CutPrefix_mono hk) | (with_reducible refine Le.bind ?_ ?_) | (with_reducible refine Le.cond ?_ ?_) | intro _ | split
theorem g_dec_parser_take_mono {k k' : Nat} (hk : k ≤ k') {x1 : ByteArray} {x2 : ByteArray} : Le (g_dec_parser_take k x1 x2) (g_dec_parser_take k' x1 x2) := by
  unfold g_dec_parser_take
  repeat' first | (with_reducible exact Le.rfl) | (with_reducible exact g_st_CutPrefix_mono hk) | (with_reducible refine Le.bind ?_ ?_) | (with_reducible refine Le.cond ?_ ?_) | intro _ | split
theorem g_dec_parser_some_l0_mono {k k' : Nat} (hk : k ≤ k') {x1 : ByteArray} : ∀ {n n' : Nat} (hn : n ≤ n') {y1 : Int}, Le (g_dec_parser_some_l0 k x1 n y1) (g_dec_parser_some_l0 k' x1 n' y1)
  | 0, _, _ => Le.none rfl
  | n + 1, 0, h => absurd h (Nat.not_succ_le_zero n)
  | n + 1, n' + 1, hn => by
    rw [g_dec_parser_some_l0.eq_2, g_dec_parser_some_l0.eq_2]
    repeat' first | (with_reducible exact Le.rfl) | (with_reducible exact g_dec_parser_some_l0_eqs_mono hk) | (with_reducible exact g_dec_parser_some_l0_mono hk (Nat.le_of_succ_le_succ hn)) | (with_reducible refine Le.bind ?_ ?_) | (with_reducible refine Le.cond ?_ ?_) | intro _ | split
theorem g_dec_parser_some_mono {k k' : Nat} (hk : k ≤ k') {x1 : ByteArray} : Le (g_dec_parser_some k x1) (g_dec_parser_some k' x1) := by
  unfold g_dec_parser_some
  repeat' first | (with_reducible exact Le.rfl) | (with_reducible exact g_dec_parser_some_l0_mono hk hk) | (with_reducible refine Le.bind ?_ ?_) | (with_reducible refine Le.cond ?_ ?_) | intro _ | split
theorem g_dec_values_mono {k k' : Nat} (hk : k ≤ k') {x1 : ByteArray} : Le (g_dec_values k x1) (g_dec_values k' x1) := by
  unfold g_dec_values
  repeat' first | (with_reducible first | exact Le.rfl | refine Le.bind ?_ ?_ | refine Le.cond ?_ ?_) | intro _ | split
theorem g_st_trimLeftByte_l0_mono {k k' : Nat} (hk : k ≤ k') {x1 : Int} : ∀ {n n' : Nat} (hn : n ≤ n') {y1 : ByteArray}, Le (g_st_trimLeftByte_l0 k x1 n y1) (g_st_trimLeftByte_l0 k' x1 n' y1)
  | 0, _, _ => Le.none rfl
  | n + 1, 0, h => absurd h (Nat.not_succ_le_zero n)
  | n + 1, n' + 1, hn => by
    rw [g_st_trimLeftByte_l0.eq_2, g_st_trimLeftByte_l0.eq_2]
    repeat' first | (with_reducible exact Le.rfl) | (with_reducible exact g_st_trimLeftByte_l0_eqs_mono hk) | (with_reducible exact g_st_trimLeftByte_l0_mono hk (Nat.le_of_succ_le_succ hn)) | (with_reducible refine Le.bind ?_ ?_) | (with_reducible refine Le.cond ?_ ?_) | intro _ | split
theorem g_st_trimLeftByte_mono {k k' : Nat} (hk : k ≤ k') {x1 : ByteArray} {x2 : Int} : Le (g_st_trimLeftByte k x1 x2) (g_st_trimLeftByte k' x1 x2) := by
  unfold g_st_trimLeftByte
  repeat' first | (with_reducible exact Le.rfl) | (with_reducible exact g_st_trimLeftByte_l0_mono hk hk) | (with_reducible refine Le.bind ?_ ?_) | (with_reducible refine Le.cond ?_ ?_) | intro _ | split
theorem g_st_TrimLeft_mono {k k' : Nat} (hk : k ≤ k') {x1 : ByteArray} {x2 : ByteArray} : Le (g_st_TrimLeft k x1 x2) (g_st_TrimLeft k' x1 x2) := by
  unfold g_st_TrimLeft
  repeat' first | (with_reducible exact Le.rfl) | (with_reducible exact g_st_trimLeftByte_mono hk) | (with_reducible refine Le.bind ?_ ?_) | (with_reducible refine Le.cond ?_ ?_) | intro _ | split
theorem g_st_trimRightByte_l0_mono {k k' : Nat} (hk : k ≤ k') {x1 : Int} : ∀ {n n' : Nat} (hn : n ≤ n') {y1 : ByteArray}, Le (g_st_trimRightByte_l0 k x1 n y1) (g_st_trimRightByte_l0 k' x1 n' y1)
  | 0, _, _ => Le.none rfl
  | n + 1, 0, h => absurd h (Nat.not_succ_le_zero n)
  | n + 1, n' + 1, hn => by
    rw [g_st_trimRightByte_l0.eq_2, g_st_trimRightByte_l0.eq_2]
    repeat' first | (with_reducible exact Le.rfl) | (with_reducible exact g_st_trimRightByte_l0_eqs_mono hk) | (with_reducible exact g_st_trimRightByte_l0_mono hk (Nat.le_of_succ_le_succ hn)) | (with_reducible refine Le.bind ?_ ?_) | (with_reducible refine Le.cond ?_ ?_) | intro _ | split
theorem g_st_trimRightByte_mono {k k' : Nat} (hk : k ≤ k') {x1 : ByteArray} {x2 : Int} : Le (g_st_trimRightByte k x1 x2) (g_st_trimRightByte k' x1 x2) := by
  unfold g_st_trimRightByte
  repeat' first | (with_reducible exact Le.rfl) | (with_reducible exact g_st_trimRightByte_l0_mono hk hk) | (with_reducible refine Le.bind ?_ ?_) | (with_reducible refine Le.cond ?_ ?_) | intro _ | split
theorem g_st_TrimRight_mono {k k' : Nat} (hk : k ≤ k') {x1 : ByteArray} {x2 : ByteArray} : Le (g_st_TrimRight k x1 x2) (g_st_TrimRight k' x1 x2) := by
  unfold g_st_TrimRight
  repeat' first | (with_reducible exact Le.rfl) | (with_reducible exact g_st_trimRightByte_mono hk) | (with_reducible refine Le.bind ?_ ?_) | (with_reducible refine Le.cond ?_ ?_) | intro _ | split
theorem g_dec_wide_plus_mono {k k' : Nat} (hk : k ≤ k') {x1 : Int} {x2 : Int} {x3 : Int} {x4 : Int} : Le (g_dec_wide_plus k x1 x2 x3 x4) (g_dec_wide_plus k' x1 x2 x3 x4) := by
  unfold g_dec_wide_plus
  repeat' first | (with_reducible first | exact Le.rfl | refine Le.bind ?_ ?_ | refine Le.cond ?_ ?_) | intro _ | split
theorem g_dec_Parse_l0_mono {k k' : Nat} (hk : k ≤ k') {x1 : ByteArray} : ∀ {n n' : Nat} (hn : n ≤ n') {y1 : Int} {y2 : Int}, Le (g_dec_Parse_l0 k x1 n y1 y2) (g_dec_Parse_l0 k' x1 n' y1 y2)
  | 0, _, _ => Le.none rfl
  | n + 1, 0, h => absurd h (Nat.not_succ_le_zero n)
  | n + 1, n' + 1, hn => by
    rw [g_dec_Parse_l0.eq_2, g_dec_Parse_l0.eq_2]
    repeat' first | (with_reducible exact Le.rfl) | (with_reducible exact g_dec_Parse_l0_eqs_mono hk) | (with_reducible exact g_dec_Parse_l0_mono hk (Nat.le_of_succ_le_succ hn)) | (with_reducible refine Le.bind ?_ ?_) | (with_reducible refine Le.cond ?_ ?_) | intro _ | split
theorem g_dec_Parse_l1_mono {k k' : Nat} (hk : k ≤ k') {x1 : ByteArray} : ∀ {n n' : Nat} (hn : n ≤ n') {y1 : Int} {y2 : Int} {y3 : Int}, Le (g_dec_Parse_l1 k x1 n y1 y2 y3) (g_dec_Parse_l1 k' x1 n' y1 y2 y3)
  | 0, _, _ => Le.none rfl
  | n + 1, 0, h => absurd h (Nat.not_succ_le_zero n)
  | n + 1, n' + 1, hn => by
    rw [g_dec_Parse_l1.eq_2, g_dec_Parse_l1.eq_2]
    repeat' first | (with_reducible exact Le.rfl) | (with_reducible exact g_dec_wide_times_mono hk) | (with_reducible exact g_dec_wide_plus_mono hk) | (with_reducible exact g_dec_Parse_l1_eqs_mono hk) | (with_reducible exact g_dec_Parse_l1_mono hk (Nat.le_of_succ_le_succ hn)) | (with_reducible refine Le.bind ?_ ?_) | (with_reducible refine Le.cond ?_ ?_) | intro _ | split
theorem g_dec_Parse_mono {k k' : Nat} (hk : k ≤ k') {x1 : ByteArray} : Le (g_dec_Parse k x1) (g_dec_Parse k' x1) := by
  unfold g_dec_Parse
  repeat' first | (with_reducible exact Le.rfl) | (with_reducible exact g_dec_parser_take_mono hk) | (with_reducible exact g_dec_parser_some_mono hk) | (with_reducible exact g_dec_values_mono hk) | (with_reducible exact g_dec_Parse_l0_mono hk hk) | (with_reducible exact g_st_TrimLeft_mono hk) | (with_reducible exact g_st_TrimRight_mono hk) | (with_reducible exact g_dec_Parse_l1_mono hk hk) | (with_reducible exact g_dec_num_tell_mono hk) | (with_reducible refine Le.bind ?_ ?_) | (with_reducible refine Le.cond ?_ ?_) | intro _ | split
theorem g_val_Truth_mono {k k' : Nat} (hk : k ≤ k') {x1 : Bool} : Le (g_val_Truth k x1) (g_val_Truth k' x1) := by
  unfold g_val_Truth
  repeat' first | (with_reducible first | exact Le.rfl | refine Le.bind ?_ ?_ | refine Le.cond ?_ ?_) | intro _ | split
theorem g_sl_TrimPrefix_mono {k k' : Nat} (hk : k ≤ k') {x1 : ByteArray} {x2 : ByteArray} : Le (g_sl_TrimPrefix k x1 x2) (g_sl_TrimPrefix k' x1 x2) := by
  unfold g_sl_TrimPrefix
  repeat' first | (with_reducible exact Le.rfl) | (with_reducible exact g_sl_HasPrefix_mono hk) | (with_reducible refine Le.bind ?_ ?_) | (with_reducible refine Le.cond ?_ ?_) | intro _ | split
theorem g_st_TrimPrefix_mono {k k' : Nat} (hk : k ≤ k') {x1 : ByteArray} {x2 : ByteArray} : Le (g_st_TrimPrefix k x1 x2) (g_st_TrimPrefix k' x1 x2) := by
  unfold g_st_TrimPrefix
  repeat' first | (with_reducible exact Le.rfl) | (with_reducible exact g_sl_TrimPrefix_mono hk) | (with_reducible refine Le.bind ?_ ?_) | (with_reducible refine Le.cond ?_ ?_) | intro _ | split
theorem g_val_Typed_mono {k k' : Nat} (hk : k ≤ k') {x1 : ByteArray} : Le (g_val_Typed k x1) (g_val_Typed k' x1) := by
  unfold g_val_Typed
  repeat' first | (with_reducible exact Le.rfl) | (with_reducible exact g_val_ErrCode_mono hk) | (with_reducible exact g_dec_Parse_mono hk) | (with_reducible exact g_val_Truth_mono hk) | (with_reducible exact g_val_Err_mono hk) | (with_reducible exact g_val_Of_mono hk) | (with_reducible exact g_st_TrimPrefix_mono hk) | (with_reducible exact g_val_Str_mono hk) | (with_reducible refine Le.bind ?_ ?_) | (with_reducible refine Le.cond ?_ ?_) | intro _ | split
theorem g_val_Right_mono {k k' : Nat} (hk : k ≤ k') {x1 : Int} {x2 : Int} {x3 : Int} {x4 : ByteArray} {x5 : Bool} {x6 : Int} : Le (g_val_Right k x1 x2 x3 x4 x5 x6) (g_val_Right k' x1 x2 x3 x4 x5 x6) := by
  unfold g_val_Right
  repeat' first | (with_reducible exact Le.rfl) | (with_reducible exact g_dec_Right_mono hk) | (with_reducible exact g_val_Str_mono hk) | (with_reducible exact g_val_Err_mono hk) | (with_reducible refine Le.bind ?_ ?_) | (with_reducible refine Le.cond ?_ ?_) | intro _ | split
theorem g_val_clean_mono {k k' : Nat} (hk : k ≤ k') {x1 : Int} {x2 : Int} {x3 : Int} {x4 : ByteArray} {x5 : Bool} {x6 : Int} : Le (g_val_clean k x1 x2 x3 x4 x5 x6) (g_val_clean k' x1 x2 x3 x4 x5 x6) := by
  unfold g_val_clean
  repeat' first | (with_reducible exact Le.rfl) | (with_reducible exact g_val_Right_mono hk) | (with_reducible exact g_val_Err_mono hk) | (with_reducible refine Le.bind ?_ ?_) | (with_reducible refine Le.cond ?_ ?_) | intro _ | split
theorem g_st_Trim_mono {k k' : Nat} (hk : k ≤ k') {x1 : ByteArray} {x2 : ByteArray} : Le (g_st_Trim k x1 x2) (g_st_Trim k' x1 x2) := by
  unfold g_st_Trim
  repeat' first | (with_reducible exact Le.rfl) | (with_reducible exact g_st_trimRightByte_mono hk) | (with_reducible exact g_st_trimLeftByte_mono hk) | (with_reducible refine Le.bind ?_ ?_) | (with_reducible refine Le.cond ?_ ?_) | intro _ | split
theorem g_val_Num_mono {k k' : Nat} (hk : k ≤ k') {x1 : Int} {x2 : Int} {x3 : Int} {x4 : ByteArray} {x5 : Bool} {x6 : Int} : Le (g_val_Num k x1 x2 x3 x4 x5 x6) (g_val_Num k' x1 x2 x3 x4 x5 x6) := by
  unfold g_val_Num
  repeat' first | (with_reducible exact Le.rfl) | (with_reducible exact g_val_clean_mono hk) | (with_reducible exact g_val_Of_mono hk) | (with_reducible exact g_st_Trim_mono hk) | (with_reducible exact g_dec_Parse_mono hk) | (with_reducible exact g_val_Err_mono hk) | (with_reducible refine Le.bind ?_ ?_) | (with_reducible refine Le.cond ?_ ?_) | intro _ | split
theorem g_dec_clean_mono {k k' : Nat} (hk : k ≤ k') {x1 : Int} {x2 : Int} {x3 : Int} {x4 : Int} : Le (g_dec_clean k x1 x2 x3 x4) (g_dec_clean k' x1 x2 x3 x4) := by
  unfold g_dec_clean
  repeat' first | (with_reducible exact Le.rfl) | (with_reducible exact g_dec_ranged_mono hk) | (with_reducible exact g_dec_of_mono hk) | (with_reducible exact g_dec_num_tell_mono hk) | (with_reducible refine Le.bind ?_ ?_) | (with_reducible refine Le.cond ?_ ?_) | intro _ | split
theorem g_dec_even_mono {k k' : Nat} (hk : k ≤ k') {x1 : Int} {x2 : Int} {x3 : Int} {x4 : Int} : Le (g_dec_even k x1 x2 x3 x4) (g_dec_even k' x1 x2 x3 x4) := by
  unfold g_dec_even
  repeat' first | (with_reducible exact Le.rfl) | (with_reducible exact g_dec_of_mono hk) | (with_reducible exact g_dec_wide_zero_mono hk) | (with_reducible exact g_dec_wide_tens_mono hk) | (with_reducible refine Le.bind ?_ ?_) | (with_reducible refine Le.cond ?_ ?_) | intro _ | split
theorem g_dec_wide_cmp_mono {k k' : Nat} (hk : k ≤ k') {x1 : Int} {x2 : Int} {x3 : Int} {x4 : Int} : Le (g_dec_wide_cmp k x1 x2 x3 x4) (g_dec_wide_cmp k' x1 x2 x3 x4) := by
  unfold g_dec_wide_cmp
  repeat' first | (with_reducible first | exact Le.rfl | refine Le.bind ?_ ?_ | refine Le.cond ?_ ?_) | intro _ | split
theorem g_dec_wide_less_mono {k k' : Nat} (hk : k ≤ k') {x1 : Int} {x2 : Int} {x3 : Int} {x4 : Int} : Le (g_dec_wide_less k x1 x2 x3 x4) (g_dec_wide_less k' x1 x2 x3 x4) := by
  unfold g_dec_wide_less
  repeat' first | (with_reducible first | exact Le.rfl | refine Le.bind ?_ ?_ | refine Le.cond ?_ ?_) | intro _ | split
theorem g_dec_Add_mono {k k' : Nat} (hk : k ≤ k') {x1 : Int} {x2 : Int} {x3 : Int} {x4 : Int} : Le (g_dec_Add k x1 x2 x3 x4) (g_dec_Add k' x1 x2 x3 x4) := by
  unfold g_dec_Add
  repeat' first | (with_reducible exact Le.rfl) | (with_reducible exact g_dec_clean_mono hk) | (with_reducible exact g_dec_even_mono hk) | (with_reducible exact g_dec_wide_plus_mono hk) | (with_reducible exact g_dec_wide_cmp_mono hk) | (with_reducible exact g_dec_wide_less_mono hk) | (with_reducible exact g_dec_num_tell_mono hk) | (with_reducible refine Le.bind ?_ ?_) | (with_reducible refine Le.cond ?_ ?_) | intro _ | split
theorem g_dec_factors_l0_mono {k k' : Nat} (hk : k ≤ k') {x1 : Int} : ∀ {n n' : Nat} (hn : n ≤ n') {y1 : Int} {y2 : Int}, Le (g_dec_factors_l0 k x1 n y1 y2) (g_dec_factors_l0 k' x1 n' y1 y2)
  | 0, _, _ => Le.none rfl
  | n + 1, 0, h => absurd h (Nat.not_succ_le_zero n)
  | n + 1, n' + 1, hn => by
    rw [g_dec_factors_l0.eq_2, g_dec_factors_l0.eq_2]
    repeat' first | (with_reducible exact Le.rfl) | (with_reducible exact g_dec_factors_l0_eqs_mono hk) | (with_reducible exact g_dec_factors_l0_mono hk (Nat.le_of_succ_le_succ hn)) | (with_reducible refine Le.bind ?_ ?_) | (with_reducible refine Le.cond ?_ ?_) | intro _ | split
theorem g_dec_factors_mono {k k' : Nat} (hk : k ≤ k') {x1 : Int} {x2 : Int} : Le (g_dec_factors k x1 x2) (g_dec_factors k' x1 x2) := by
  unfold g_dec_factors
  repeat' first | (with_reducible exact Le.rfl) | (with_reducible exact g_dec_factors_l0_mono hk hk) | (with_reducible refine Le.bind ?_ ?_) | (with_reducible refine Le.cond ?_ ?_) | intro _ | split
theorem g_dec_Div_l0_mono {k k' : Nat} (hk : k ≤ k') : ∀ {n n' : Nat} (hn : n ≤ n') {y1 : Int} {y2 : Int}, Le (g_dec_Div_l0 k n y1 y2) (g_dec_Div_l0 k' n' y1 y2)
  | 0, _, _ => Le.none rfl
  | n + 1, 0, h => absurd h (Nat.not_succ_le_zero n)
  | n + 1, n' + 1, hn => by
    rw [g_dec_Div_l0.eq_2, g_dec_Div_l0.eq_2]
    repeat' first | (with_reducible exact Le.rfl) | (with_reducible exact g_dec_Div_l0_eqs_mono hk) | (with_reducible exact g_dec_Div_l0_mono hk (Nat.le_of_succ_le_succ hn)) | (with_reducible refine Le.bind ?_ ?_) | (with_reducible refine Le.cond ?_ ?_) | intro _ | split
theorem g_dec_Div_l1_mono {k k' : Nat} (hk : k ≤ k') {x1 : Int} {x2 : Int} : ∀ {n n' : Nat} (hn : n ≤ n') {y1 : Bool} {y2 : Int} {y3 : Int} {y4 : Int}, Le (g_dec_Div_l1 k x1 x2 n y1 y2 y3 y4) (g_dec_Div_l1 k' x1 x2 n' y1 y2 y3 y4)
  | 0, _, _ => Le.none rfl
  | n + 1, 0, h => absurd h (Nat.not_succ_le_zero n)
  | n + 1, n' + 1, hn => by
    rw [g_dec_Div_l1.eq_2, g_dec_Div_l1.eq_2]
    repeat' first | (with_reducible exact Le.rfl) | (with_reducible exact g_dec_wide_times_mono hk) | (with_reducible exact g_dec_Div_l1_eqs_mono hk) | (with_reducible exact g_dec_Div_l1_mono hk (Nat.le_of_succ_le_succ hn)) | (with_reducible refine Le.bind ?_ ?_) | (with_reducible refine Le.cond ?_ ?_) | intro _ | split
theorem g_dec_Div_l2_mono {k k' : Nat} (hk : k ≤ k') {x1 : Int} {x2 : Int} : ∀ {n n' : Nat} (hn : n ≤ n') {y1 : Bool} {y2 : Int} {y3 : Int} {y4 : Int}, Le (g_dec_Div_l2 k x1 x2 n y1 y2 y3 y4) (g_dec_Div_l2 k' x1 x2 n' y1 y2 y3 y4)
  | 0, _, _ => Le.none rfl
  | n + 1, 0, h => absurd h (Nat.not_succ_le_zero n)
  | n + 1, n' + 1, hn => by
    rw [g_dec_Div_l2.eq_2, g_dec_Div_l2.eq_2]
    repeat' first | (with_reducible exact Le.rfl) | (with_reducible exact g_dec_wide_times_mono hk) | (with_reducible exact g_dec_Div_l2_eqs_mono hk) | (with_reducible exact g_dec_Div_l2_mono hk (Nat.le_of_succ_le_succ hn)) | (with_reducible refine Le.bind ?_ ?_) | (with_reducible refine Le.cond ?_ ?_) | intro _ | split
theorem g_dec_Div_mono {k k' : Nat} (hk : k ≤ k') {x1 : Int} {x2 : Int} {x3 : Int} {x4 : Int} : Le (g_dec_Div k x1 x2 x3 x4) (g_dec_Div k' x1 x2 x3 x4) := by
  unfold g_dec_Div
  repeat' first | (with_reducible exact Le.rfl) | (with_reducible exact g_dec_clean_mono hk) | (with_reducible exact g_dec_size_mono hk) | (with_reducible exact g_dec_Div_l0_mono hk hk) | (with_reducible exact g_dec_factors_mono hk) | (with_reducible exact g_dec_Div_l1_mono hk hk) | (with_reducible exact g_dec_Div_l2_mono hk hk) | (with_reducible exact g_dec_num_tell_mono hk) | (with_reducible refine Le.bind ?_ ?_) | (with_reducible refine Le.cond ?_ ?_) | intro _ | split
theorem g_val_sum_mono {k k' : Nat} (hk : k ≤ k') {x1 : Int} {x2 : Int} {x3 : Int} {x4 : Int} {x5 : Int} : Le (g_val_sum k x1 x2 x3 x4 x5) (g_val_sum k' x1 x2 x3 x4 x5) := by
  unfold g_val_sum
  repeat' first | (with_reducible exact Le.rfl) | (with_reducible exact g_dec_Add_mono hk) | (with_reducible exact g_dec_Div_mono hk) | (with_reducible refine Le.bind ?_ ?_) | (with_reducible refine Le.cond ?_ ?_) | intro _ | split
theorem g_dec_clean__b_mono {k k' : Nat} (hk : k ≤ k') {x1 : Int} {x2 : Int} : Le (g_dec_clean__b k x1 x2) (g_dec_clean__b k' x1 x2) := by
  unfold g_dec_clean__b
  repeat' first | (with_reducible exact Le.rfl) | (with_reducible exact g_dec_ranged_mono hk) | (with_reducible exact g_dec_of_mono hk) | (with_reducible exact g_dec_num_tell_mono hk) | (with_reducible refine Le.bind ?_ ?_) | (with_reducible refine Le.cond ?_ ?_) | intro _ | split
theorem g_mb_Mul_mono {k k' : Nat} (hk : k ≤ k') {x1 : Int} {x2 : Int} : Le (g_mb_Mul k x1 x2) (g_mb_Mul k' x1 x2) := by
  unfold g_mb_Mul
  repeat' first | (with_reducible exact Le.rfl) | (with_reducible exact g_mb_Mul64_mono hk) | (with_reducible refine Le.bind ?_ ?_) | (with_reducible refine Le.cond ?_ ?_) | intro _ | split
theorem g_st_HasPrefix_mono {k k' : Nat} (hk : k ≤ k') {x1 : ByteArray} {x2 : ByteArray} : Le (g_st_HasPrefix k x1 x2) (g_st_HasPrefix k' x1 x2) := by
  unfold g_st_HasPrefix
  repeat' first | (with_reducible exact Le.rfl) | (with_reducible exact g_sl_HasPrefix_mono hk) | (with_reducible refine Le.bind ?_ ?_) | (with_reducible refine Le.cond ?_ ?_) | intro _ | split
theorem g_st_Repeat_mono {k k' : Nat} (hk : k ≤ k') {x1 : ByteArray} {x2 : Int} : Le (g_st_Repeat k x1 x2) (g_st_Repeat k' x1 x2) := by
  unfold g_st_Repeat
  repeat' first | (with_reducible exact Le.rfl) | (with_reducible exact g_mb_Mul_mono hk) | (with_reducible exact g_st_HasPrefix_mono hk) | (with_reducible refine Le.bind ?_ ?_) | (with_reducible refine Le.cond ?_ ?_) | intro _ | split
theorem g_dec_Print_l0_mono {k k' : Nat} (hk : k ≤ k') : ∀ {n n' : Nat} (hn : n ≤ n') {y1 : ByteArray} {y2 : Int}, Le (g_dec_Print_l0 k n y1 y2) (g_dec_Print_l0 k' n' y1 y2)
  | 0, _, _ => Le.none rfl
  | n + 1, 0, h => absurd h (Nat.not_succ_le_zero n)
  | n + 1, n' + 1, hn => by
    rw [g_dec_Print_l0.eq_2, g_dec_Print_l0.eq_2]
    repeat' first | (with_reducible exact Le.rfl) | (with_reducible exact g_dec_Print_l0_eqs_mono hk) | (with_reducible exact g_dec_Print_l0_mono hk (Nat.le_of_succ_le_succ hn)) | (with_reducible refine Le.bind ?_ ?_) | (with_reducible refine Le.cond ?_ ?_) | intro _ | split
theorem g_dec_Print_mono {k k' : Nat} (hk : k ≤ k') {x1 : Int} {x2 : Int} : Le (g_dec_Print k x1 x2) (g_dec_Print k' x1 x2) := by
  unfold g_dec_Print
  repeat' first | (with_reducible exact Le.rfl) | (with_reducible exact g_dec_clean__b_mono hk) | (with_reducible exact g_dec_size_mono hk) | (with_reducible exact g_dec_Print_l0_mono hk hk) | (with_reducible exact g_st_Repeat_mono hk) | (with_reducible refine Le.bind ?_ ?_) | (with_reducible refine Le.cond ?_ ?_) | intro _ | split
theorem g_val_Show_mono {k k' : Nat} (hk : k ≤ k') {x1 : Int} {x2 : Int} {x3 : Int} {x4 : ByteArray} {x5 : Bool} {x6 : Int} : Le (g_val_Show k x1 x2 x3 x4 x5 x6) (g_val_Show k' x1 x2 x3 x4 x5 x6) := by
  unfold g_val_Show
  repeat' first | (with_reducible exact Le.rfl) | (with_reducible exact g_val_clean_mono hk) | (with_reducible exact g_dec_Print_mono hk) | (with_reducible exact g_val_ErrName_mono hk) | (with_reducible refine Le.bind ?_ ?_) | (with_reducible refine Le.cond ?_ ?_) | intro _ | split
theorem g_val_beside_mono {k k' : Nat} (hk : k ≤ k') {x1 : Int} {x2 : Int} {x3 : Int} {x4 : ByteArray} {x5 : Bool} {x6 : Int} {x7 : Int} {x8 : Int} {x9 : Int} {x10 : ByteArray} {x11 : Bool} {x12 : Int} : Le (g_val_beside k x1 x2 x3 x4 x5 x6 x7 x8 x9 x10 x11 x12) (g_val_beside k' x1 x2 x3 x4 x5 x6 x7 x8 x9 x10 x11 x12) := by
  unfold g_val_beside
  repeat' first | (with_reducible first | exact Le.rfl | refine Le.bind ?_ ?_ | refine Le.cond ?_ ?_) | intro _ | split
theorem g_cmp_isNaN_int_mono {k k' : Nat} (hk : k ≤ k') {x1 : Int} : Le (g_cmp_isNaN_int k x1) (g_cmp_isNaN_int k' x1) := by
  unfold g_cmp_isNaN_int
  repeat' first | (with_reducible first | exact Le.rfl | refine Le.bind ?_ ?_ | refine Le.cond ?_ ?_) | intro _ | split
theorem g_cmp_Compare_int_mono {k k' : Nat} (hk : k ≤ k') {x1 : Int} {x2 : Int} : Le (g_cmp_Compare_int k x1 x2) (g_cmp_Compare_int k' x1 x2) := by
  unfold g_cmp_Compare_int
  repeat' first | (with_reducible exact Le.rfl) | (with_reducible exact g_cmp_isNaN_int_mono hk) | (with_reducible refine Le.bind ?_ ?_) | (with_reducible refine Le.cond ?_ ?_) | intro _ | split
theorem g_dec_sign_mono {k k' : Nat} (hk : k ≤ k') {x1 : Int} {x2 : Int} : Le (g_dec_sign k x1 x2) (g_dec_sign k' x1 x2) := by
  unfold g_dec_sign
  repeat' first | (with_reducible first | exact Le.rfl | refine Le.bind ?_ ?_ | refine Le.cond ?_ ?_) | intro _ | split
theorem g_dec_digits_l0_mono {k k' : Nat} (hk : k ≤ k') : ∀ {n n' : Nat} (hn : n ≤ n') {y1 : Int} {y2 : Int}, Le (g_dec_digits_l0 k n y1 y2) (g_dec_digits_l0 k' n' y1 y2)
  | 0, _, _ => Le.none rfl
  | n + 1, 0, h => absurd h (Nat.not_succ_le_zero n)
  | n + 1, n' + 1, hn => by
    rw [g_dec_digits_l0.eq_2, g_dec_digits_l0.eq_2]
    repeat' first | (with_reducible exact Le.rfl) | (with_reducible exact g_dec_digits_l0_eqs_mono hk) | (with_reducible exact g_dec_digits_l0_mono hk (Nat.le_of_succ_le_succ hn)) | (with_reducible refine Le.bind ?_ ?_) | (with_reducible refine Le.cond ?_ ?_) | intro _ | split
theorem g_dec_digits_mono {k k' : Nat} (hk : k ≤ k') {x1 : Int} : Le (g_dec_digits k x1) (g_dec_digits k' x1) := by
  unfold g_dec_digits
  repeat' first | (with_reducible exact Le.rfl) | (with_reducible exact g_dec_digits_l0_mono hk hk) | (with_reducible refine Le.bind ?_ ?_) | (with_reducible refine Le.cond ?_ ?_) | intro _ | split
theorem g_dec_Cmp_mono {k k' : Nat} (hk : k ≤ k') {x1 : Int} {x2 : Int} {x3 : Int} {x4 : Int} : Le (g_dec_Cmp k x1 x2 x3 x4) (g_dec_Cmp k' x1 x2 x3 x4) := by
  unfold g_dec_Cmp
  repeat' first | (with_reducible exact Le.rfl) | (with_reducible exact g_dec_clean_mono hk) | (with_reducible exact g_dec_sign_mono hk) | (with_reducible exact g_dec_size_mono hk) | (with_reducible exact g_dec_digits_mono hk) | (with_reducible exact g_dec_even_mono hk) | (with_reducible exact g_dec_wide_cmp_mono hk) | (with_reducible refine Le.bind ?_ ?_) | (with_reducible refine Le.cond ?_ ?_) | intro _ | split
theorem g_utf_turned_l0_mono {k k' : Nat} (hk : k ≤ k') {x1 : ByteArray} {x2 : Int} {x3 : Int} {x4 : Int} : ∀ {n n' : Nat} (hn : n ≤ n') {y1 : Int} {y2 : (List Int)}, Le (g_utf_turned_l0 k x1 x2 x3 x4 n y1 y2) (g_utf_turned_l0 k' x1 x2 x3 x4 n' y1 y2)
  | 0, _, _ => Le.none rfl
  | n + 1, 0, h => absurd h (Nat.not_succ_le_zero n)
  | n + 1, n' + 1, hn => by
    rw [g_utf_turned_l0.eq_2, g_utf_turned_l0.eq_2]
    repeat' first | (with_reducible exact Le.rfl) | (with_reducible exact g_utf_turned_l0_eqs_mono hk) | (with_reducible exact g_utf_turned_l0_mono hk (Nat.le_of_succ_le_succ hn)) | (with_reducible refine Le.bind ?_ ?_) | (with_reducible refine Le.cond ?_ ?_) | intro _ | split
theorem g_utf_turned_mono {k k' : Nat} (hk : k ≤ k') {x1 : ByteArray} {x2 : Int} {x3 : Int} {x4 : Int} : Le (g_utf_turned k x1 x2 x3 x4) (g_utf_turned k' x1 x2 x3 x4) := by
  unfold g_utf_turned
  repeat' first | (with_reducible exact Le.rfl) | (with_reducible exact g_utf_turned_l0_mono hk hk) | (with_reducible refine Le.bind ?_ ?_) | (with_reducible refine Le.cond ?_ ?_) | intro _ | split
theorem g_utf_Lower_mono {k k' : Nat} (hk : k ≤ k') {x1 : ByteArray} : Le (g_utf_Lower k x1) (g_utf_Lower k' x1) := by
  unfold g_utf_Lower
  repeat' first | (with_reducible exact Le.rfl) | (with_reducible exact g_utf_turned_mono hk) | (with_reducible refine Le.bind ?_ ?_) | (with_reducible refine Le.cond ?_ ?_) | intro _ | split
theorem g_cmp_isNaN_string_mono {k k' : Nat} (hk : k ≤ k') {x1 : ByteArray} : Le (g_cmp_isNaN_string k x1) (g_cmp_isNaN_string k' x1) := by
  unfold g_cmp_isNaN_string
  repeat' first | (with_reducible first | exact Le.rfl | refine Le.bind ?_ ?_ | refine Le.cond ?_ ?_) | intro _ | split
theorem g_cmp_Compare_string_mono {k k' : Nat} (hk : k ≤ k') {x1 : ByteArray} {x2 : ByteArray} : Le (g_cmp_Compare_string k x1 x2) (g_cmp_Compare_string k' x1 x2) := by
  unfold g_cmp_Compare_string
  repeat' first | (with_reducible exact Le.rfl) | (with_reducible exact g_cmp_isNaN_string_mono hk) | (with_reducible refine Le.bind ?_ ?_) | (with_reducible refine Le.cond ?_ ?_) | intro _ | split
theorem g_val_ones_mono {k k' : Nat} (hk : k ≤ k') {x1 : Bool} : Le (g_val_ones k x1) (g_val_ones k' x1) := by
  unfold g_val_ones
  repeat' first | (with_reducible first | exact Le.rfl | refine Le.bind ?_ ?_ | refine Le.cond ?_ ?_) | intro _ | split
theorem g_cmp_Or_int_l0_mono {k k' : Nat} (hk : k ≤ k') {x1 : (List Int)} : ∀ {n n' : Nat} (hn : n ≤ n') {y1 : Int}, Le (g_cmp_Or_int_l0 k x1 n y1) (g_cmp_Or_int_l0 k' x1 n' y1)
  | 0, _, _ => Le.none rfl
  | n + 1, 0, h => absurd h (Nat.not_succ_le_zero n)
  | n + 1, n' + 1, hn => by
    rw [g_cmp_Or_int_l0.eq_2, g_cmp_Or_int_l0.eq_2]
    repeat' first | (with_reducible exact Le.rfl) | (with_reducible exact g_cmp_Or_int_l0_eqs_mono hk) | (with_reducible exact g_cmp_Or_int_l0_mono hk (Nat.le_of_succ_le_succ hn)) | (with_reducible refine Le.bind ?_ ?_) | (with_reducible refine Le.cond ?_ ?_) | intro _ | split
theorem g_cmp_Or_int_mono {k k' : Nat} (hk : k ≤ k') {x1 : (List Int)} : Le (g_cmp_Or_int k x1) (g_cmp_Or_int k' x1) := by
  unfold g_cmp_Or_int
  repeat' first | (with_reducible exact Le.rfl) | (with_reducible exact g_cmp_Or_int_l0_mono hk hk) | (with_reducible refine Le.bind ?_ ?_) | (with_reducible refine Le.cond ?_ ?_) | intro _ | split
theorem g_val_Cmp_mono {k k' : Nat} (hk : k ≤ k') {x1 : Int} {x2 : Int} {x3 : Int} {x4 : ByteArray} {x5 : Bool} {x6 : Int} {x7 : Int} {x8 : Int} {x9 : Int} {x10 : ByteArray} {x11 : Bool} {x12 : Int} : Le (g_val_Cmp k x1 x2 x3 x4 x5 x6 x7 x8 x9 x10 x11 x12) (g_val_Cmp k' x1 x2 x3 x4 x5 x6 x7 x8 x9 x10 x11 x12) := by
  unfold g_val_Cmp
  repeat' first | (with_reducible exact Le.rfl) | (with_reducible exact g_val_clean_mono hk) | (with_reducible exact g_val_beside_mono hk) | (with_reducible exact g_cmp_Compare_int_mono hk) | (with_reducible exact g_dec_Cmp_mono hk) | (with_reducible exact g_utf_Lower_mono hk) | (with_reducible exact g_cmp_Compare_string_mono hk) | (with_reducible exact g_val_ones_mono hk) | (with_reducible exact g_cmp_Or_int_mono hk) | (with_reducible refine Le.bind ?_ ?_) | (with_reducible refine Le.cond ?_ ?_) | intro _ | split
theorem g_val_Bin_mono {k k' : Nat} (hk : k ≤ k') {x1 : Int} {x2 : Int} {x3 : Int} {x4 : Int} {x5 : ByteArray} {x6 : Bool} {x7 : Int} {x8 : Int} {x9 : Int} {x10 : Int} {x11 : ByteArray} {x12 : Bool} {x13 : Int} : Le (g_val_Bin k x1 x2 x3 x4 x5 x6 x7 x8 x9 x10 x11 x12 x13) (g_val_Bin k' x1 x2 x3 x4 x5 x6 x7 x8 x9 x10 x11 x12 x13) := by
  unfold g_val_Bin
  repeat' first | (with_reducible exact Le.rfl) | (with_reducible exact g_val_clean_mono hk) | (with_reducible exact g_val_Num_mono hk) | (with_reducible exact g_val_sum_mono hk) | (with_reducible exact g_val_Of_mono hk) | (with_reducible exact g_val_Show_mono hk) | (with_reducible exact g_val_Str_mono hk) | (with_reducible exact g_val_Cmp_mono hk) | (with_reducible exact g_val_Truth_mono hk) | (with_reducible exact g_val_Err_mono hk) | (with_reducible refine Le.bind ?_ ?_) | (with_reducible refine Le.cond ?_ ?_) | intro _ | split
theorem g_quirelaw13_num_mono {k k' : Nat} (hk : k ≤ k') {x1 : Int} : Le (g_quirelaw13_num k x1) (g_quirelaw13_num k' x1) := by
  unfold g_quirelaw13_num
  repeat' first | (with_reducible first | exact Le.rfl | refine Le.bind ?_ ?_ | refine Le.cond ?_ ?_) | intro _ | split
theorem g_quirelaw13_alive_mono {k k' : Nat} (hk : k ≤ k') : Le (g_quirelaw13_alive k) (g_quirelaw13_alive k') := by
  unfold g_quirelaw13_alive
  repeat' first | (with_reducible exact Le.rfl) | (with_reducible exact g_val_Str_mono hk) | (with_reducible exact g_val_Truth_mono hk) | (with_reducible exact g_val_Bin_mono hk) | (with_reducible exact g_quirelaw13_num_mono hk) | (with_reducible exact g_val_Err_mono hk) | (with_reducible exact g_val_Cmp_mono hk) | (with_reducible exact g_val_Typed_mono hk) | (with_reducible exact g_val_Show_mono hk) | (with_reducible refine Le.bind ?_ ?_) | (with_reducible refine Le.cond ?_ ?_) | intro _ | split
end Go.Proofs.YthpcgknknpjpdaaGreatDoor.W
namespace Go.Proofs.YthpcgknknpjpdaaGreatDoor.W
open Go Go.Q Go.Proofs
set_option linter.unusedVariables false
set_option linter.unusedSimpArgs false
set_option maxRecDepth 100000
theorem mixed : Tryz.prog.follows .mixedOrders = true := rfl
theorem rowsA {m : Ro} : rows rdS_unicode_utf8_acceptRange m tabA vs1 := by
  have : ∀ l : List (Int × Int), rows rdS_unicode_utf8_acceptRange m (l.map fun p => ⟨p.1, p.2⟩) (l.flatMap fun p => [Value.int .u8 p.1, Value.int .u8 p.2]) := by
    intro l
    induction l with
    | nil => trivial
    | cons p l ih => exact ⟨⟨[_], [_], rfl, rfl, [_], [], rfl, rfl, rfl⟩, ih⟩
  exact this tab1
theorem sz9 : SzIs Tryz.prog 9 1 := ⟨Tryz.t9, rfl, rfl⟩
theorem li26 : LitIs Tryz.prog 26 9 1 [.string (ByteArray.mk #[])] := ⟨Tryz.underlying26, ⟨Tryz.t9, _, rfl, rfl, rfl, rfl⟩, by intro v hv; simp at hv; (try rcases hv with rfl | hv) <;> first | rfl | (subst hv; rfl) | simp_all [Value.oneCell']⟩
theorem fn44 : FnIs Tryz.prog 44 := ⟨_, Tryz.func44, rfl, by kernel_rfl⟩
theorem sl26 : SlIs Tryz.prog 26 9 1 := ⟨Tryz.underlying26, sz9⟩
theorem sc9 : Sc Tryz.prog 9 := ⟨_, Tryz.t9, Tryz.underlying9, rfl, rfl, trivial⟩
theorem fn43 : FnIs Tryz.prog 43 := ⟨_, Tryz.func43, rfl, by kernel_rfl⟩
theorem fn9 : FnIs Tryz.prog 9 := ⟨_, Tryz.func9, rfl, by kernel_rfl⟩
theorem ag23 : Ag Tryz.prog 23 2 := ⟨_, Tryz.t23, Tryz.underlying23, rfl, rfl, trivial⟩
theorem ze29 : ZeroIs Tryz.prog 29 [.int .i64 0, .int .i64 0, .int .i64 0, .string (ByteArray.mk #[]), .bool false, .int .i64 0] := ⟨⟨Tryz.t29, _, rfl, rfl, rfl⟩, by intro v hv; simp only [List.mem_cons, List.not_mem_nil, or_false] at hv; (try rcases hv with rfl | rfl | rfl | rfl | rfl | rfl) <;> (subst_vars; rfl)⟩
theorem fn18 : FnIs Tryz.prog 18 := ⟨_, Tryz.func18, rfl, by kernel_rfl⟩
theorem bu29 : BuildIs Tryz.prog 29 (placeOf [(0, 1), (1, 2), (3, 1), (4, 1), (5, 1)]) [.int .i64 0, .int .i64 0, .int .i64 0, .string (ByteArray.mk #[]), .bool false, .int .i64 0] := BuildIs.struct (it := Tryz.t29) rfl Tryz.underlying29 rfl rfl rfl (by intro v hv; simp only [List.mem_cons, List.not_mem_nil, or_false] at hv; (try rcases hv with rfl | rfl | rfl | rfl | rfl | rfl) <;> (subst_vars; rfl))
theorem sz29 : SzIs Tryz.prog 29 6 := ⟨Tryz.t29, rfl, rfl⟩
theorem ag29 : Ag Tryz.prog 29 6 := ⟨_, Tryz.t29, Tryz.underlying29, rfl, rfl, trivial⟩
theorem fn16 : FnIs Tryz.prog 16 := ⟨_, Tryz.func16, rfl, by kernel_rfl⟩
theorem ze71 : ZeroIs Tryz.prog 71 [.bool false, .int .u64 0, .int .u64 0, .int .i64 0] := ⟨⟨Tryz.t71, _, rfl, rfl, rfl⟩, by intro v hv; simp only [List.mem_cons, List.not_mem_nil, or_false] at hv; (try rcases hv with rfl | rfl | rfl | rfl) <;> (subst_vars; rfl)⟩
theorem fi23_0 : FieldIs Tryz.prog 23 0 0 2 1 := ⟨_, _, Tryz.t2, Tryz.underlying23, rfl, rfl, rfl, rfl, rfl⟩
theorem sc2 : Sc Tryz.prog 2 := ⟨_, Tryz.t2, Tryz.underlying2, rfl, rfl, trivial⟩
theorem fi23_1 : FieldIs Tryz.prog 23 1 1 3 1 := ⟨_, _, Tryz.t3, Tryz.underlying23, rfl, rfl, rfl, rfl, rfl⟩
theorem sc3 : Sc Tryz.prog 3 := ⟨_, Tryz.t3, Tryz.underlying3, rfl, rfl, trivial⟩
theorem fn102 : FnIs Tryz.prog 102 := ⟨_, Tryz.func102, rfl, by kernel_rfl⟩
theorem bu69 : BuildIs Tryz.prog 69 (placeOf [(0, 1), (1, 1)]) [.int .u64 0, .int .u64 0] := BuildIs.struct (it := Tryz.t69) rfl Tryz.underlying69 rfl rfl rfl (by intro v hv; simp only [List.mem_cons, List.not_mem_nil, or_false] at hv; (try rcases hv with rfl | rfl) <;> (subst_vars; rfl))
theorem bu71 : BuildIs Tryz.prog 71 (placeOf [(0, 1), (1, 2), (3, 1)]) [.bool false, .int .u64 0, .int .u64 0, .int .i64 0] := BuildIs.struct (it := Tryz.t71) rfl Tryz.underlying71 rfl rfl rfl (by intro v hv; simp only [List.mem_cons, List.not_mem_nil, or_false] at hv; (try rcases hv with rfl | rfl | rfl | rfl) <;> (subst_vars; rfl))
theorem sz71 : SzIs Tryz.prog 71 4 := ⟨Tryz.t71, rfl, rfl⟩
theorem ag71 : Ag Tryz.prog 71 4 := ⟨_, Tryz.t71, Tryz.underlying71, rfl, rfl, trivial⟩
theorem fn81 : FnIs Tryz.prog 81 := ⟨_, Tryz.func81, rfl, by kernel_rfl⟩
theorem ze23 : ZeroIs Tryz.prog 23 [.int .i64 0, .int .i64 0] := ⟨⟨Tryz.t23, _, rfl, rfl, rfl⟩, by intro v hv; simp only [List.mem_cons, List.not_mem_nil, or_false] at hv; (try rcases hv with rfl | rfl) <;> (subst_vars; rfl)⟩
theorem fi71_1 : FieldIs Tryz.prog 71 1 1 69 2 := ⟨_, _, Tryz.t69, Tryz.underlying71, rfl, rfl, rfl, rfl, rfl⟩
theorem ag69 : Ag Tryz.prog 69 2 := ⟨_, Tryz.t69, Tryz.underlying69, rfl, rfl, trivial⟩
theorem fi69_0 : FieldIs Tryz.prog 69 0 0 67 1 := ⟨_, _, Tryz.t67, Tryz.underlying69, rfl, rfl, rfl, rfl, rfl⟩
theorem sc67 : Sc Tryz.prog 67 := ⟨_, Tryz.t67, Tryz.underlying67, rfl, rfl, trivial⟩
theorem fi69_1 : FieldIs Tryz.prog 69 1 1 67 1 := ⟨_, _, Tryz.t67, Tryz.underlying69, rfl, rfl, rfl, rfl, rfl⟩
theorem fn131 : FnIs Tryz.prog 131 := ⟨_, Tryz.func131, rfl, by kernel_rfl⟩
theorem bu23 : BuildIs Tryz.prog 23 (placeOf [(0, 1), (1, 1)]) [.int .i64 0, .int .i64 0] := BuildIs.struct (it := Tryz.t23) rfl Tryz.underlying23 rfl rfl rfl (by intro v hv; simp only [List.mem_cons, List.not_mem_nil, or_false] at hv; (try rcases hv with rfl | rfl) <;> (subst_vars; rfl))
theorem sz23 : SzIs Tryz.prog 23 2 := ⟨Tryz.t23, rfl, rfl⟩
theorem ze69 : ZeroIs Tryz.prog 69 [.int .u64 0, .int .u64 0] := ⟨⟨Tryz.t69, _, rfl, rfl, rfl⟩, by intro v hv; simp only [List.mem_cons, List.not_mem_nil, or_false] at hv; (try rcases hv with rfl | rfl) <;> (subst_vars; rfl)⟩
theorem fn176 : FnIs Tryz.prog 176 := ⟨_, Tryz.func176, rfl, by kernel_rfl⟩
theorem fn169 : FnIs Tryz.prog 169 := ⟨_, Tryz.func169, rfl, by kernel_rfl⟩
theorem fn158 : FnIs Tryz.prog 158 := ⟨_, Tryz.func158, rfl, by kernel_rfl⟩
theorem sz69 : SzIs Tryz.prog 69 2 := ⟨Tryz.t69, rfl, rfl⟩
theorem fn132 : FnIs Tryz.prog 132 := ⟨_, Tryz.func132, rfl, by kernel_rfl⟩
theorem fi71_2 : FieldIs Tryz.prog 71 2 3 3 1 := ⟨_, _, Tryz.t3, Tryz.underlying71, rfl, rfl, rfl, rfl, rfl⟩
theorem sz3 : SzIs Tryz.prog 3 1 := ⟨Tryz.t3, rfl, rfl⟩
theorem fn121 : FnIs Tryz.prog 121 := ⟨_, Tryz.func121, rfl, by kernel_rfl⟩
theorem ex139 : ExtIs Tryz.prog 139 add64S := ⟨_, Tryz.func139, rfl, by kernel_rfl, by kernel_rfl, by kernel_rfl⟩
theorem fn93 : FnIs Tryz.prog 93 := ⟨_, Tryz.func93, rfl, by kernel_rfl⟩
theorem fn133 : FnIs Tryz.prog 133 := ⟨_, Tryz.func133, rfl, by kernel_rfl⟩
theorem fi71_0 : FieldIs Tryz.prog 71 0 0 4 1 := ⟨_, _, Tryz.t4, Tryz.underlying71, rfl, rfl, rfl, rfl, rfl⟩
theorem sc4 : Sc Tryz.prog 4 := ⟨_, Tryz.t4, Tryz.underlying4, rfl, rfl, trivial⟩
theorem fn82 : FnIs Tryz.prog 82 := ⟨_, Tryz.func82, rfl, by kernel_rfl⟩
theorem li130 : LitIs Tryz.prog 130 23 2 [.int .i64 0, .int .i64 0] := ⟨Tryz.underlying130, ⟨Tryz.t23, _, rfl, rfl, rfl, rfl⟩, by intro v hv; simp at hv; (try rcases hv with rfl | hv) <;> first | rfl | (subst hv; rfl) | simp_all [Value.oneCell']⟩
theorem sl130 : SlIs Tryz.prog 130 23 2 := ⟨Tryz.underlying130, sz23⟩
theorem fn83 : FnIs Tryz.prog 83 := ⟨_, Tryz.func83, rfl, by kernel_rfl⟩
theorem eg23 : Tryz.prog.eqGuardType Tryz.prog.depth 23 = false := by kernel_rfl
theorem eq23 {a0 : Int} {a1 : Int} {b0 : Int} {b1 : Int} : EqV Tryz.prog 9 23 (.agg [.int .i64 a0, .int .i64 a1].toArray) (.agg [.int .i64 b0, .int .i64 b1].toArray) ((decide (a0 = b0)) && ((decide (a1 = b1)) && true)) := (EqV.struct Tryz.underlying23 (by kernel_rfl) (EqF.sc (by rfl) sc2 rfl rfl (EqV.int Tryz.underlying2) (EqF.sc (by rfl) sc3 rfl rfl (EqV.int Tryz.underlying3) EqF.nil)))
theorem fn45 : FnIs Tryz.prog 45 := ⟨_, Tryz.func45, rfl, by kernel_rfl⟩
theorem fn12 : FnIs Tryz.prog 12 := ⟨_, Tryz.func12, rfl, by kernel_rfl⟩
theorem li76 : LitIs Tryz.prog 76 3 1 [.int .i64 0] := ⟨Tryz.underlying76, ⟨Tryz.t3, _, rfl, rfl, rfl, rfl⟩, by intro v hv; simp at hv; (try rcases hv with rfl | hv) <;> first | rfl | (subst hv; rfl) | simp_all [Value.oneCell']⟩
theorem sl76 : SlIs Tryz.prog 76 3 1 := ⟨Tryz.underlying76, sz3⟩
theorem sz4 : SzIs Tryz.prog 4 1 := ⟨Tryz.t4, rfl, rfl⟩
theorem eg29 : Tryz.prog.eqGuardType Tryz.prog.depth 29 = false := by kernel_rfl
theorem eq29 {a0 : Int} {a1 : Int} {a2 : Int} {a3 : ByteArray} {a4 : Bool} {a5 : Int} {b0 : Int} {b1 : Int} {b2 : Int} {b3 : ByteArray} {b4 : Bool} {b5 : Int} : EqV Tryz.prog 9 29 (.agg [.int .i64 a0, .int .i64 a1, .int .i64 a2, .string a3, .bool a4, .int .i64 a5].toArray) (.agg [.int .i64 b0, .int .i64 b1, .int .i64 b2, .string b3, .bool b4, .int .i64 b5].toArray) ((decide (a0 = b0)) && (((decide (a1 = b1)) && ((decide (a2 = b2)) && true)) && ((ByteArray.toList a3 == ByteArray.toList b3) && ((a4 == b4) && ((decide (a5 = b5)) && true))))) := (EqV.struct Tryz.underlying29 (by kernel_rfl) (EqF.sc (by rfl) sc3 rfl rfl (EqV.int Tryz.underlying3) (EqF.ag (us := [.int .i64 a1, .int .i64 a2]) (vs := [.int .i64 b1, .int .i64 b2]) (by rfl) ag23 rfl rfl (EqV.struct Tryz.underlying23 (by kernel_rfl) (EqF.sc (by rfl) sc2 rfl rfl (EqV.int Tryz.underlying2) (EqF.sc (by rfl) sc3 rfl rfl (EqV.int Tryz.underlying3) EqF.nil))) (EqF.sc (by rfl) sc9 rfl rfl (EqV.str Tryz.underlying9) (EqF.sc (by rfl) sc4 rfl rfl (EqV.bool Tryz.underlying4) (EqF.sc (by rfl) sc3 rfl rfl (EqV.int Tryz.underlying3) EqF.nil))))))
theorem fn135 : FnIs Tryz.prog 135 := ⟨_, Tryz.func135, rfl, by kernel_rfl⟩
theorem sz5 : SzIs Tryz.prog 5 1 := ⟨Tryz.t5, rfl, rfl⟩
theorem ar133 : ArIs Tryz.prog 133 5 256 1 := ⟨Tryz.underlying133, sz5⟩
theorem tb0 (m : Ro) : (Rd.array 256 (Rd.int .u8) (0 : Int)).ok m tab0 (tab0.map (Value.int .u8)) := array_rows (rows_ints _) rfl rfl
theorem sc5 : Sc Tryz.prog 5 := ⟨_, Tryz.t5, Tryz.underlying5, rfl, rfl, trivial⟩
theorem sz135 : SzIs Tryz.prog 135 2 := ⟨Tryz.t135, rfl, rfl⟩
theorem ar136 : ArIs Tryz.prog 136 135 16 2 := ⟨Tryz.underlying136, sz135⟩
theorem tb1 (m : Ro) : (Rd.array 16 rdS_unicode_utf8_acceptRange (default : S_unicode_utf8_acceptRange)).ok m tabA vs1 := array_rows (rowsA) rfl rfl
theorem ag135 : Ag Tryz.prog 135 2 := ⟨_, Tryz.t135, Tryz.underlying135, rfl, rfl, trivial⟩
theorem ze135 : ZeroIs Tryz.prog 135 [.int .u8 0, .int .u8 0] := ⟨⟨Tryz.t135, _, rfl, rfl, rfl⟩, by intro v hv; simp only [List.mem_cons, List.not_mem_nil, or_false] at hv; (try rcases hv with rfl | rfl) <;> (subst_vars; rfl)⟩
theorem fi135_0 : FieldIs Tryz.prog 135 0 0 5 1 := ⟨_, _, Tryz.t5, Tryz.underlying135, rfl, rfl, rfl, rfl, rfl⟩
theorem fi135_1 : FieldIs Tryz.prog 135 1 1 5 1 := ⟨_, _, Tryz.t5, Tryz.underlying135, rfl, rfl, rfl, rfl, rfl⟩
theorem fn86 : FnIs Tryz.prog 86 := ⟨_, Tryz.func86, rfl, by kernel_rfl⟩
theorem fn47 : FnIs Tryz.prog 47 := ⟨_, Tryz.func47, rfl, by kernel_rfl⟩
theorem fn14 : FnIs Tryz.prog 14 := ⟨_, Tryz.func14, rfl, by kernel_rfl⟩
theorem li104 : LitIs Tryz.prog 104 5 1 [.int .u8 0] := ⟨Tryz.underlying104, ⟨Tryz.t5, _, rfl, rfl, rfl, rfl⟩, by intro v hv; simp at hv; (try rcases hv with rfl | hv) <;> first | rfl | (subst hv; rfl) | simp_all [Value.oneCell']⟩
theorem bu84 : BuildIs Tryz.prog 84 (placeOf [(0, 1)]) [.string (ByteArray.mk #[])] := BuildIs.struct (it := Tryz.t84) rfl Tryz.underlying84 rfl rfl rfl (by intro v hv; simp only [List.mem_cons, List.not_mem_nil, or_false] at hv; (try rcases hv with rfl) <;> (subst_vars; rfl))
theorem fi84_0 : FieldIs Tryz.prog 84 0 0 9 1 := ⟨_, _, Tryz.t9, Tryz.underlying84, rfl, rfl, rfl, rfl, rfl⟩
theorem fn140 : FnIs Tryz.prog 140 := ⟨_, Tryz.func140, rfl, by kernel_rfl⟩
theorem fn161 : FnIs Tryz.prog 161 := ⟨_, Tryz.func161, rfl, by kernel_rfl⟩
theorem fn137 : FnIs Tryz.prog 137 := ⟨_, Tryz.func137, rfl, by kernel_rfl⟩
theorem fn88 : FnIs Tryz.prog 88 := ⟨_, Tryz.func88, rfl, by kernel_rfl⟩
theorem fn89 : FnIs Tryz.prog 89 := ⟨_, Tryz.func89, rfl, by kernel_rfl⟩
theorem ze3 : ZeroIs Tryz.prog 3 [.int .i64 0] := ⟨⟨Tryz.t3, _, rfl, rfl, rfl⟩, by intro v hv; simp only [List.mem_cons, List.not_mem_nil, or_false] at hv; (try rcases hv with rfl) <;> (subst_vars; rfl)⟩
theorem fn90 : FnIs Tryz.prog 90 := ⟨_, Tryz.func90, rfl, by kernel_rfl⟩
theorem fn122 : FnIs Tryz.prog 122 := ⟨_, Tryz.func122, rfl, by kernel_rfl⟩
theorem fn91 : FnIs Tryz.prog 91 := ⟨_, Tryz.func91, rfl, by kernel_rfl⟩
theorem fn123 : FnIs Tryz.prog 123 := ⟨_, Tryz.func123, rfl, by kernel_rfl⟩
theorem fn92 : FnIs Tryz.prog 92 := ⟨_, Tryz.func92, rfl, by kernel_rfl⟩
theorem fn94 : FnIs Tryz.prog 94 := ⟨_, Tryz.func94, rfl, by kernel_rfl⟩
theorem fn49 : FnIs Tryz.prog 49 := ⟨_, Tryz.func49, rfl, by kernel_rfl⟩
theorem fn21 : FnIs Tryz.prog 21 := ⟨_, Tryz.func21, rfl, by kernel_rfl⟩
theorem fn95 : FnIs Tryz.prog 95 := ⟨_, Tryz.func95, rfl, by kernel_rfl⟩
theorem fn50 : FnIs Tryz.prog 50 := ⟨_, Tryz.func50, rfl, by kernel_rfl⟩
theorem fn19 : FnIs Tryz.prog 19 := ⟨_, Tryz.func19, rfl, by kernel_rfl⟩
theorem fi29_0 : FieldIs Tryz.prog 29 0 0 3 1 := ⟨_, _, Tryz.t3, Tryz.underlying29, rfl, rfl, rfl, rfl, rfl⟩
theorem fi29_3 : FieldIs Tryz.prog 29 3 4 4 1 := ⟨_, _, Tryz.t4, Tryz.underlying29, rfl, rfl, rfl, rfl, rfl⟩
theorem fi29_1 : FieldIs Tryz.prog 29 1 1 23 2 := ⟨_, _, Tryz.t23, Tryz.underlying29, rfl, rfl, rfl, rfl, rfl⟩
theorem fi29_2 : FieldIs Tryz.prog 29 2 3 9 1 := ⟨_, _, Tryz.t9, Tryz.underlying29, rfl, rfl, rfl, rfl, rfl⟩
theorem fi29_4 : FieldIs Tryz.prog 29 4 5 3 1 := ⟨_, _, Tryz.t3, Tryz.underlying29, rfl, rfl, rfl, rfl, rfl⟩
theorem fn25 : FnIs Tryz.prog 25 := ⟨_, Tryz.func25, rfl, by kernel_rfl⟩
theorem fn53 : FnIs Tryz.prog 53 := ⟨_, Tryz.func53, rfl, by kernel_rfl⟩
theorem sz2 : SzIs Tryz.prog 2 1 := ⟨Tryz.t2, rfl, rfl⟩
theorem fn76 : FnIs Tryz.prog 76 := ⟨_, Tryz.func76, rfl, by kernel_rfl⟩
theorem fn36 : FnIs Tryz.prog 36 := ⟨_, Tryz.func36, rfl, by kernel_rfl⟩
theorem sz96 : SzIs Tryz.prog 96 1 := ⟨Tryz.t96, rfl, rfl⟩
theorem li144 : LitIs Tryz.prog 144 96 1 [.pointer none] := ⟨Tryz.underlying144, ⟨Tryz.t96, _, rfl, rfl, rfl, rfl⟩, by intro v hv; simp at hv; (try rcases hv with rfl | hv) <;> first | rfl | (subst hv; rfl) | simp_all [Value.oneCell']⟩
theorem sl144 : SlIs Tryz.prog 144 96 1 := ⟨Tryz.underlying144, sz96⟩
theorem sc96 : Sc Tryz.prog 96 := ⟨_, Tryz.t96, Tryz.underlying96, rfl, rfl, trivial⟩
theorem fn99 : FnIs Tryz.prog 99 := ⟨_, Tryz.func99, rfl, by kernel_rfl⟩
theorem fn103 : FnIs Tryz.prog 103 := ⟨_, Tryz.func103, rfl, by kernel_rfl⟩
theorem eg69 : Tryz.prog.eqGuardType Tryz.prog.depth 69 = false := by kernel_rfl
theorem eq69 {a0 : Int} {a1 : Int} {b0 : Int} {b1 : Int} : EqV Tryz.prog 9 69 (.agg [.int .u64 a0, .int .u64 a1].toArray) (.agg [.int .u64 b0, .int .u64 b1].toArray) ((decide (a0 = b0)) && ((decide (a1 = b1)) && true)) := (EqV.struct Tryz.underlying69 (by kernel_rfl) (EqF.sc (by rfl) sc67 rfl rfl (EqV.int Tryz.underlying67) (EqF.sc (by rfl) sc67 rfl rfl (EqV.int Tryz.underlying67) EqF.nil)))
theorem fn104 : FnIs Tryz.prog 104 := ⟨_, Tryz.func104, rfl, by kernel_rfl⟩
theorem ex165 : ExtIs Tryz.prog 165 sub64S := ⟨_, Tryz.func165, rfl, by kernel_rfl, by kernel_rfl, by kernel_rfl⟩
theorem fn147 : FnIs Tryz.prog 147 := ⟨_, Tryz.func147, rfl, by kernel_rfl⟩
theorem fn108 : FnIs Tryz.prog 108 := ⟨_, Tryz.func108, rfl, by kernel_rfl⟩
theorem fn149 : FnIs Tryz.prog 149 := ⟨_, Tryz.func149, rfl, by kernel_rfl⟩
theorem fn110 : FnIs Tryz.prog 110 := ⟨_, Tryz.func110, rfl, by kernel_rfl⟩
theorem fn62 : FnIs Tryz.prog 62 := ⟨_, Tryz.func62, rfl, by kernel_rfl⟩
theorem cn9 : Conc Tryz.prog 9 := ⟨_, Tryz.underlying9, trivial⟩
theorem fn141 : FnIs Tryz.prog 141 := ⟨_, Tryz.func141, rfl, by kernel_rfl⟩
theorem fn142 : FnIs Tryz.prog 142 := ⟨_, Tryz.func142, rfl, by kernel_rfl⟩
theorem ze149 : ZeroIs Tryz.prog 149 [.pointer none, .slice none 0 0] := ⟨⟨Tryz.t149, _, rfl, rfl, rfl⟩, by intro v hv; simp only [List.mem_cons, List.not_mem_nil, or_false] at hv; (try rcases hv with rfl | rfl) <;> (subst_vars; rfl)⟩
theorem fn107 : FnIs Tryz.prog 107 := ⟨_, Tryz.func107, rfl, by kernel_rfl⟩
theorem fn61 : FnIs Tryz.prog 61 := ⟨_, Tryz.func61, rfl, by kernel_rfl⟩
theorem fn27 : FnIs Tryz.prog 27 := ⟨_, Tryz.func27, rfl, by kernel_rfl⟩
theorem fn54 : FnIs Tryz.prog 54 := ⟨_, Tryz.func54, rfl, by kernel_rfl⟩
theorem fn98 : FnIs Tryz.prog 98 := ⟨_, Tryz.func98, rfl, by kernel_rfl⟩
theorem fn56 : FnIs Tryz.prog 56 := ⟨_, Tryz.func56, rfl, by kernel_rfl⟩
theorem fn100 : FnIs Tryz.prog 100 := ⟨_, Tryz.func100, rfl, by kernel_rfl⟩
theorem fn101 : FnIs Tryz.prog 101 := ⟨_, Tryz.func101, rfl, by kernel_rfl⟩
theorem fn57 : FnIs Tryz.prog 57 := ⟨_, Tryz.func57, rfl, by kernel_rfl⟩
theorem sl104 : SlIs Tryz.prog 104 5 1 := ⟨Tryz.underlying104, sz5⟩
theorem fn106 : FnIs Tryz.prog 106 := ⟨_, Tryz.func106, rfl, by kernel_rfl⟩
theorem fn59 : FnIs Tryz.prog 59 := ⟨_, Tryz.func59, rfl, by kernel_rfl⟩
theorem fn105 : FnIs Tryz.prog 105 := ⟨_, Tryz.func105, rfl, by kernel_rfl⟩
theorem fn58 : FnIs Tryz.prog 58 := ⟨_, Tryz.func58, rfl, by kernel_rfl⟩
theorem fn60 : FnIs Tryz.prog 60 := ⟨_, Tryz.func60, rfl, by kernel_rfl⟩
theorem fn55 : FnIs Tryz.prog 55 := ⟨_, Tryz.func55, rfl, by kernel_rfl⟩
theorem fn26 : FnIs Tryz.prog 26 := ⟨_, Tryz.func26, rfl, by kernel_rfl⟩
theorem fn28 : FnIs Tryz.prog 28 := ⟨_, Tryz.func28, rfl, by kernel_rfl⟩
theorem fn52 : FnIs Tryz.prog 52 := ⟨_, Tryz.func52, rfl, by kernel_rfl⟩
theorem fn23 : FnIs Tryz.prog 23 := ⟨_, Tryz.func23, rfl, by kernel_rfl⟩
theorem fn24 : FnIs Tryz.prog 24 := ⟨_, Tryz.func24, rfl, by kernel_rfl⟩
end Go.Proofs.YthpcgknknpjpdaaGreatDoor.W
namespace Go.Proofs.YthpcgknknpjpdaaGreatDoor.W
open Go Go.Q Go.Proofs
set_option linter.unusedVariables false
set_option linter.unusedSimpArgs false
set_option maxRecDepth 100000
set_option maxHeartbeats 4000000
theorem s_val_names (k : Nat) (H : g_val_names k = some ()) : Go.Q.Spec Tryz.prog 44 0 [] Mem.nil (fun o M => o = .ret (.ro (Rd.slice Rd.str) false ([(ByteArray.mk #[]), (ByteArray.mk #[35, 68, 73, 86, 47, 48, 33]), (ByteArray.mk #[35, 86, 65, 76, 85, 69, 33]), (ByteArray.mk #[35, 82, 69, 70, 33]), (ByteArray.mk #[35, 78, 65, 77, 69, 63]), (ByteArray.mk #[35, 78, 85, 77, 33]), (ByteArray.mk #[35, 78, 47, 65]), (ByteArray.mk #[35, 67, 89, 67, 76, 69, 33])] : List ByteArray)) ∧ M = Mem.nil) := by
 unfold g_val_names at H
 refine Go.Q.Spec.of_bodyR (az := []) (rs := [.tmp 0]) (nt := 2) Tryz.func44 rfl rfl (by intro t T h; simp at h) rfl rfl fun cx hnp => ?_
 refine WP.sr ?_
 refine WPL.qq (q_as (v := .lit _) rfl) ?_
 refine WPL.nx ?_
 refine WP.sr ?_
 refine WPL.d (d_buildSlice (ds := ([(ByteArray.mk #[]), (ByteArray.mk #[35, 68, 73, 86, 47, 48, 33]), (ByteArray.mk #[35, 86, 65, 76, 85, 69, 33]), (ByteArray.mk #[35, 82, 69, 70, 33]), (ByteArray.mk #[35, 78, 65, 77, 69, 63]), (ByteArray.mk #[35, 78, 85, 77, 33]), (ByteArray.mk #[35, 78, 47, 65]), (ByteArray.mk #[35, 67, 89, 67, 76, 69, 33])] : List ByteArray)) (R := Rd.str) li26 rfl rfl rfl rfl rfl (JoinRows.cons1 Joins.sc rfl (JoinRows.cons1 Joins.sc rfl (JoinRows.cons1 Joins.sc rfl (JoinRows.cons1 Joins.sc rfl (JoinRows.cons1 Joins.sc rfl (JoinRows.cons1 Joins.sc rfl (JoinRows.cons1 Joins.sc rfl (JoinRows.cons1 Joins.sc rfl JoinRows.nil)))))))) rfl rfl) rfl ?_
 refine WPL.qq (q_as (v := .whole _) rfl) ?_
 refine WPL.nx ?_
 refine WP.retW ?_
 refine W.cv (Cv.frzRow (i := 0) rfl rfl hnp rfl rfl) rfl ?_
 exact W.now (BodyR.mkR trivial rfl [] ⟨rfl, rfl⟩ ⟨rfl, trivial, by decide, rfl, trivial⟩ rfl rfl)
theorem s_sc_Index_string_string (k : Nat) (x1 : (List ByteArray)) (x2 : ByteArray) (x3 : Int) (H : g_sc_Index_string_string k x1 x2 = some x3) : Go.Q.Spec Tryz.prog 43 0 [.ro (Rd.slice Rd.str) false x1, .lit (.string x2)] Mem.nil (fun o M => o = .ret (.lit (.int .i64 x3)) ∧ M = Mem.nil) := by
 unfold g_sc_Index_string_string at H
 refine Go.Q.Spec.of_bodyR (az := []) (rs := [.tmp 4]) (nt := 19) Tryz.func43 rfl rfl (by intro t T h; simp at h) rfl rfl fun cx hnp => ?_
 refine WP.sr ?_
 refine WPL.qq (q_as (v := .lit (.int _ _)) rfl) ?_
 refine WPL.nx ?_
 refine WP.seq ?_
 refine WP.sr ?_
 refine WPL.qq (q_mv (v := .ro _ _ _) rfl) ?_
 refine WPL.qq (q_len_ro sl26 rfl) ?_
 refine WPL.qq (q_mv (v := .lit (.int _ _)) rfl) ?_
 refine WPL.nx ?_
 refine WP.block ?_
 refine WP.cv (Cv.weak (E' := ((((Env.none.upd 0 (.ro (Rd.slice Rd.str) false x1)).upd 1 (.lit (.string x2))).upd 7 (.lit (.int .i64 ((List.length x1 : Nat) : Int)))).upd 8 (.lit (.int .i64 0)))) (M' := Mem.nil) [] hnp ⟨rfl, trivial, by decide, rfl, trivial⟩ (LeE.u (LeE.u (LeE.u (LeE.u (LeE.none rfl rfl)))))) ?_
 obtain ⟨y1, H1, H⟩ := bnd H
 refine WP.monoW (Q := fun x E M => match (generalizing := false) y1 with | (Sum.inl x4) => x = .ret ∧ E = (Env.none.upd 4 (.lit (.int .i64 x4))) ∧ M = Mem.nil | (Sum.inr _) => x = .exit 0 ∧ E = Env.none ∧ M = Mem.nil) ?_ ?_
 · refine WP.loop (β := Int) (fun n b => g_sc_Index_string_string_l0 k x1 x2 n b = some y1) (fun b => ((((Env.none.upd 0 (.ro (Rd.slice Rd.str) false x1)).upd 1 (.lit (.string x2))).upd 7 (.lit (.int .i64 ((List.length x1 : Nat) : Int)))).upd 8 (.lit (.int .i64 b)))) (fun b => Mem.nil) k 0 H1 rfl rfl ?_
   rintro n x5 H
   obtain _ | n := n
   · exact nf rfl H
   rw [g_sc_Index_string_string_l0.eq_2] at H
   show WP _ _ _ _ ((((Env.none.upd 0 (.ro (Rd.slice Rd.str) false x1)).upd 1 (.lit (.string x2))).upd 7 (.lit (.int .i64 ((List.length x1 : Nat) : Int)))).upd 8 (.lit (.int .i64 x5))) Mem.nil _
   refine WP.sr ?_
   obtain ⟨x6, h1, H⟩ := bnd H
   refine WPL.qq (q_nm (q_lss rfl rfl) (nm_bool h1)) ?_
   refine WPL.nx ?_
   refine WP.seq ?_
   refine WP.cond (t := x6) rfl (fun hb1 => ?_) (fun hb1 => ?_)
   · replace H := cnt hb1 H
     refine WP.skipW ?_
     refine W.now ?_
     refine Then.n ?_
     refine WP.seq ?_
     refine WP.block ?_
     refine WP.sr ?_
     refine WPL.qq (q_mv (v := .lit (.int _ _)) rfl) ?_
     refine WPL.qq (q_as (v := .lit (.int _ _)) rfl) ?_
     refine WPL.nx ?_
     refine WP.sr ?_
     refine WPL.qq (q_mv (v := .lit (.string _)) rfl) ?_
     refine WPL.qq (q_mv (v := .ro _ _ _) rfl) ?_
     refine WPL.qq (q_mv (v := .lit (.int _ _)) rfl) ?_
     obtain ⟨x7, h2, H⟩ := bnd H
     refine WPL.qq (q_index_ro sl26 rfl rfl rfl h2) ?_
     refine WPL.qq (q_load_sc sc9 rfl) ?_
     refine WPL.qq (q_eqls rfl rfl) ?_
     refine WPL.nx ?_
     refine WP.cond (t := (x2.toList == x7.toList)) rfl (fun hb2 => ?_) (fun hb2 => ?_)
     · replace H := cnt hb2 H
       refine WP.sr ?_
       refine WPL.qq (q_mv (v := .lit (.int _ _)) rfl) ?_
       refine WPL.qq (q_as (v := .lit (.int _ _)) rfl) ?_
       refine WPL.nx ?_
       refine WP.retW ?_
       have q0 := j1 H
       subst q0
       exact W.wk [] hnp (InBlock.r (Then.r (Then.r r3))) ⟨rfl, trivial, by decide, rfl, trivial⟩ (LeE.u (LeE.none rfl rfl)) rfl
     replace H := cnf hb2 H
     refine WP.skipW ?_
     refine W.now ?_
     refine InBlock.n ?_
     refine Then.n ?_
     refine WP.region ?_
     refine WPL.qq (q_add rfl rfl) ?_
     refine WPL.qq (q_mv (v := .lit (.int _ _)) rfl) ?_
     refine WPL.nilW ?_
     exact W.wk [] hnp (Then.n ⟨n, (IntKind.wrap .i64 (x5 + 1)), Nat.lt_succ_self n, H, rfl, rfl⟩) ⟨rfl, trivial, by decide, rfl, trivial⟩ (LeE.u (LeE.u (LeE.u (LeE.u (LeE.none rfl rfl))))) rfl
   replace H := cnf hb1 H
   refine WP.exitW ?_
   have q0 := j1 H
   subst q0
   exact W.wk [] hnp (Then.x (Then.x r3)) ⟨rfl, trivial, by decide, rfl, trivial⟩ (LeE.none rfl rfl) rfl
 rcases y1 with x4 | _
 · rintro _ _ _ ⟨rfl, rfl, rfl⟩
   have q0 := j1 H
   subst q0
   exact W.now (InBlock.r (Then.r (BodyR.mkR trivial rfl [] ⟨rfl, rfl⟩ ⟨rfl, trivial, by decide, rfl, trivial⟩ rfl rfl)))
 rintro _ _ _ ⟨rfl, rfl, rfl⟩
 refine W.now ?_
 refine InBlock.x0 ?_
 refine Then.n ?_
 refine WP.sr ?_
 refine WPL.qq (q_as (v := .lit (.int _ _)) rfl) ?_
 refine WPL.nx ?_
 refine WP.retW ?_
 have q0 := j1 H
 subst q0
 exact W.now (BodyR.mkR trivial rfl [] ⟨rfl, rfl⟩ ⟨rfl, trivial, by decide, rfl, trivial⟩ rfl rfl)
theorem s_val_ErrCode (k : Nat) (x1 : ByteArray) (x2 : Int) (x3 : Bool) (H : g_val_ErrCode k x1 = some (x2, x3)) : Go.Q.Spec Tryz.prog 9 0 [.lit (.string x1)] Mem.nil (fun o M => o = .ret (.tup [.lit (.int .i64 x2), .lit (.bool x3)]) ∧ M = Mem.nil) := by
 unfold g_val_ErrCode at H
 refine Go.Q.Spec.of_bodyR (az := []) (rs := [.tmp 2, .tmp 3]) (nt := 12) Tryz.func9 rfl rfl (by intro t T h; simp at h) rfl rfl fun cx hnp => ?_
 refine WP.sr ?_
 refine WPL.qq (q_as (v := .lit (.int _ _)) rfl) ?_
 refine WPL.qq (q_as (v := .lit (.bool _)) rfl) ?_
 refine WPL.nx ?_
 refine WP.sr ?_
 obtain ⟨_, h1, H⟩ := bnd H
 refine WPL.c (runs_call (s := []) (t := []) (N := 0) (bor := []) fn44 rfl (s_val_names k h1) ⟨rfl, trivial, by decide, rfl, trivial⟩ rfl trivial .nil rfl trivial rfl) rfl ?_
 refine WPL.qq (q_mv (v := .lit (.string _)) rfl) ?_
 obtain ⟨x4, h2, H⟩ := bnd H
 refine WPL.c (runs_call (s := []) (t := []) (N := 0) (bor := []) fn43 rfl (s_sc_Index_string_string k ([(ByteArray.mk #[]), (ByteArray.mk #[35, 68, 73, 86, 47, 48, 33]), (ByteArray.mk #[35, 86, 65, 76, 85, 69, 33]), (ByteArray.mk #[35, 82, 69, 70, 33]), (ByteArray.mk #[35, 78, 65, 77, 69, 63]), (ByteArray.mk #[35, 78, 85, 77, 33]), (ByteArray.mk #[35, 78, 47, 65]), (ByteArray.mk #[35, 67, 89, 67, 76, 69, 33])] : List ByteArray) x1 x4 h2) ⟨rfl, trivial, by decide, rfl, trivial⟩ rfl trivial (.ren rfl rfl (.ren rfl rfl .nil)) rfl trivial rfl) rfl ?_
 refine WPL.qq (q_as (v := .lit (.int _ _)) rfl) ?_
 refine WPL.nx ?_
 refine WP.sr ?_
 refine WPL.qq (q_mv (v := .lit (.int _ _)) rfl) ?_
 obtain ⟨x5, h3, H⟩ := bnd H
 refine WPL.qq (q_nm (q_max rfl rfl) (nm_int h3)) ?_
 refine WPL.qq (q_mv (v := .lit (.int _ _)) rfl) ?_
 refine WPL.qq (q_gtr rfl rfl) ?_
 refine WPL.qq (q_as (v := .lit (.int _ _)) rfl) ?_
 refine WPL.qq (q_as (v := .lit (.bool _)) rfl) ?_
 refine WPL.nx ?_
 refine WP.retW ?_
 obtain ⟨rfl, rfl⟩ := j2 H
 exact W.now (BodyR.mkR trivial rfl [] ⟨rfl, rfl⟩ ⟨rfl, trivial, by decide, rfl, trivial⟩ rfl rfl)
theorem s_val_ErrName (k : Nat) (x1 : Int) (x2 : ByteArray) (H : g_val_ErrName k x1 = some x2) : Go.Q.Spec Tryz.prog 18 0 [.lit (.int .i64 x1)] Mem.nil (fun o M => o = .ret (.lit (.string x2)) ∧ M = Mem.nil) := by
 unfold g_val_ErrName at H
 refine Go.Q.Spec.of_bodyR (az := []) (rs := [.tmp 2]) (nt := 15) Tryz.func18 rfl rfl (by intro t T h; simp at h) rfl rfl fun cx hnp => ?_
 refine WP.sr ?_
 refine WPL.qq (q_as (v := .lit (.string _)) rfl) ?_
 refine WPL.nx ?_
 refine WP.seq ?_
 refine WP.seq ?_
 obtain ⟨x3, H1, H⟩ := bnd H
 refine WP.monoW (Q := fun x E M => x = .normal ∧ E = ((Env.none.upd 0 (.lit (.int .i64 x1))).upd 10 (.lit (.bool x3))) ∧ M = Mem.nil) ?_ ?_
 · clear H
   have H := H1
   clear H1
   refine WP.region ?_
   refine WPL.qq (q_mv (v := .lit (.int _ _)) rfl) ?_
   refine WPL.qq (q_lss rfl rfl) ?_
   refine WPL.qq (q_mv (v := .lit (.bool _)) rfl) ?_
   refine WPL.split (t := 5) (b := (decide (x1 < 0))) rfl (fun hb1 => ?_) (fun hb1 => ?_)
   · replace H := cnt hb1 H
     refine WPL.sg true rfl (lb hb1) ?_
     refine WPL.sg true rfl (lb hb1) ?_
     refine WPL.sg true rfl (lb hb1) ?_
     refine WPL.sg true rfl (lb hb1) ?_
     refine WPL.qq (q_pickT (v := .lit (.bool _)) (lb hb1) rfl) ?_
     refine WPL.nilW ?_
     have q0 := j1 H
     subst q0
     exact W.wk [] hnp r3 ⟨rfl, trivial, by decide, rfl, trivial⟩ (LeE.u (LeE.u (LeE.none rfl rfl))) rfl
   replace H := cnf hb1 H
   refine WPL.gq rfl (lb hb1) (q_mv (v := .lit (.int _ _)) rfl) ?_
   obtain ⟨_, h1, H⟩ := bnd H
   refine WPL.cg rfl rfl (lb hb1) (runs_call (s := []) (t := []) (N := 0) (bor := []) fn44 rfl (s_val_names k h1) ⟨rfl, trivial, by decide, rfl, trivial⟩ rfl trivial .nil rfl trivial rfl) rfl ?_
   obtain ⟨x4, h2, H⟩ := bnd H
   refine WPL.gq rfl (lb hb1) (q_nm (q_len_ro sl26 rfl) (nm_int h2)) ?_
   refine WPL.gq rfl (lb hb1) (q_geq rfl rfl) ?_
   refine WPL.qq (q_pickF (v := .lit (.bool _)) (lb hb1) rfl) ?_
   refine WPL.nilW ?_
   have q0 := j1 H
   subst q0
   exact W.wk [] hnp r3 ⟨rfl, trivial, by decide, rfl, trivial⟩ (LeE.u (LeE.u (LeE.none rfl rfl))) rfl
 rintro _ _ _ ⟨rfl, rfl, rfl⟩
 refine W.now ?_
 refine Then.n ?_
 refine WP.cond (t := x3) rfl (fun hb2 => ?_) (fun hb2 => ?_)
 · replace H := cnt hb2 H
   refine WP.sr ?_
   refine WPL.qq (q_as (v := .lit (.string _)) rfl) ?_
   refine WPL.nx ?_
   refine WP.retW ?_
   have q0 := j1 H
   subst q0
   exact W.now (Then.r (BodyR.mkR trivial rfl [] ⟨rfl, rfl⟩ ⟨rfl, trivial, by decide, rfl, trivial⟩ rfl rfl))
 replace H := cnf hb2 H
 refine WP.skipW ?_
 refine W.now ?_
 refine Then.n ?_
 refine WP.sr ?_
 obtain ⟨_, h3, H⟩ := bnd H
 refine WPL.c (runs_call (s := []) (t := []) (N := 0) (bor := []) fn44 rfl (s_val_names k h3) ⟨rfl, trivial, by decide, rfl, trivial⟩ rfl trivial .nil rfl trivial rfl) rfl ?_
 refine WPL.qq (q_mv (v := .lit (.int _ _)) rfl) ?_
 obtain ⟨x5, h4, H⟩ := bnd H
 refine WPL.qq (q_index_ro sl26 rfl rfl rfl h4) ?_
 refine WPL.qq (q_load_sc sc9 rfl) ?_
 refine WPL.qq (q_as (v := .lit (.string _)) rfl) ?_
 refine WPL.nx ?_
 refine WP.retW ?_
 have q0 := j1 H
 subst q0
 exact W.now (BodyR.mkR trivial rfl [] ⟨rfl, rfl⟩ ⟨rfl, trivial, by decide, rfl, trivial⟩ rfl rfl)
theorem s_val_Err (k : Nat) (x1 : Int) (x2 : Int) (H : g_val_Err k x1 = some x2) : Go.Q.Spec Tryz.prog 16 0 [.lit (.int .i64 x1)] Mem.nil (fun o M => o = .ret (.agg [.lit (.int .i64 4), .lit (.int .i64 0), .lit (.int .i64 0), .lit (.string (ByteArray.mk #[])), .lit (.bool false), .lit (.int .i64 x2)]) ∧ M = (Mem.nil.push (.cells 29 [.lit (.int .i64 4), .lit (.int .i64 0), .lit (.int .i64 0), .lit (.string (ByteArray.mk #[])), .lit (.bool false), .lit (.int .i64 x2)]))) := by
 unfold g_val_Err at H
 refine Go.Q.Spec.of_bodyR (az := [(29, 6)]) (rs := [.cell 2 29]) (nt := 8) Tryz.func16 rfl rfl (by intro t T h; simp at h; rcases h with ⟨rfl, rfl⟩ <;> first | exact ag29) rfl rfl fun cx hnp => ?_
 refine WP.sr ?_
 refine WPL.d (d_alloc ze29 rfl) rfl ?_
 refine WPL.nx ?_
 refine WP.seq ?_
 obtain ⟨x3, H1, H⟩ := bnd H
 refine WP.monoW (Q := fun x E M => x = .normal ∧ E = ((Env.none.upd 0 (.lit (.int .i64 x3))).upd 2 (.ptr 0 0)) ∧ M = (Mem.nil.push (.cells 29 [.lit (.int .i64 0), .lit (.int .i64 0), .lit (.int .i64 0), .lit (.string (ByteArray.mk #[])), .lit (.bool false), .lit (.int .i64 0)]))) ?_ ?_
 · clear H
   have H := H1
   clear H1
   refine WP.sr ?_
   refine WPL.qq (q_mv (v := .lit (.int _ _)) rfl) ?_
   obtain ⟨x4, h1, H⟩ := bnd H
   refine WPL.c (runs_call (s := []) (t := []) (N := 1) (bor := []) fn18 rfl (s_val_ErrName k x1 x4 h1) ⟨rfl, trivial, by decide, rfl, trivial⟩ rfl trivial (.ren rfl rfl .nil) rfl trivial rfl) rfl ?_
   obtain ⟨x5, h2, H⟩ := bnd H
   refine WPL.qq (q_nm (q_eqls rfl rfl) (nm_bool h2)) ?_
   refine WPL.nx ?_
   refine WP.cond (t := x5) rfl (fun hb1 => ?_) (fun hb1 => ?_)
   · replace H := cnt hb1 H
     refine WP.region ?_
     refine WPL.qq (q_as (v := .lit (.int _ _)) rfl) ?_
     refine WPL.nilW ?_
     have q0 := j1 H
     subst q0
     exact W.wk [0] hnp r3 ⟨rfl, AA1, by decide, rfl, trivial⟩ (LeE.u (LeE.u (LeE.none rfl rfl))) rfl
   replace H := cnf hb1 H
   refine WP.skipW ?_
   have q0 := j1 H
   subst q0
   exact W.wk [0] hnp r3 ⟨rfl, AA1, by decide, rfl, trivial⟩ (LeE.u (LeE.u (LeE.none rfl rfl))) rfl
 rintro _ _ _ ⟨rfl, rfl, rfl⟩
 refine W.now ?_
 refine Then.n ?_
 refine WP.sr ?_
 refine WPL.qq (q_mv (v := .lit (.int _ _)) rfl) ?_
 refine WPL.qq (q_build bu29 rfl) ?_
 refine WPL.s (s_store sz29 rfl rfl rfl rfl rfl) ?_
 refine WPL.nx ?_
 refine WP.retW ?_
 have q0 := j1 H
 subst q0
 exact W.now (BodyR.mkR trivial rfl [0] ⟨rfl, rfl⟩ ⟨rfl, AA1, by decide, rfl, trivial⟩ rfl rfl)
theorem s_dec_size (k : Nat) (x1 : Int) (x2 : Int) (H : g_dec_size k x1 = some x2) : Go.Q.Spec Tryz.prog 102 0 [.lit (.int .i64 x1)] Mem.nil (fun o M => o = .ret (.lit (.int .u64 x2)) ∧ M = Mem.nil) := by
 unfold g_dec_size at H
 refine Go.Q.Spec.of_bodyR (az := []) (rs := [.tmp 2]) (nt := 10) Tryz.func102 rfl rfl (by intro t T h; simp at h) rfl rfl fun cx hnp => ?_
 refine WP.sr ?_
 refine WPL.qq (q_as (v := .lit (.int _ _)) rfl) ?_
 refine WPL.nx ?_
 refine WP.seq ?_
 refine WP.sr ?_
 refine WPL.qq (q_mv (v := .lit (.int _ _)) rfl) ?_
 refine WPL.qq (q_lss rfl rfl) ?_
 refine WPL.nx ?_
 refine WP.cond (t := (decide (x1 < 0))) rfl (fun hb1 => ?_) (fun hb1 => ?_)
 · replace H := cnt hb1 H
   refine WP.sr ?_
   refine WPL.qq (q_mv (v := .lit (.int _ _)) rfl) ?_
   refine WPL.qq (q_conv Tryz.underlying2 Tryz.underlying67 rfl) ?_
   obtain ⟨x3, h1, H⟩ := bnd H
   refine WPL.qq (q_nm (q_neg rfl) (nm_int h1)) ?_
   refine WPL.qq (q_as (v := .lit (.int _ _)) rfl) ?_
   refine WPL.nx ?_
   refine WP.retW ?_
   have q0 := j1 H
   subst q0
   exact W.now (Then.r (BodyR.mkR trivial rfl [] ⟨rfl, rfl⟩ ⟨rfl, trivial, by decide, rfl, trivial⟩ rfl rfl))
 replace H := cnf hb1 H
 refine WP.skipW ?_
 refine W.now ?_
 refine Then.n ?_
 refine WP.sr ?_
 refine WPL.qq (q_mv (v := .lit (.int _ _)) rfl) ?_
 refine WPL.qq (q_conv Tryz.underlying2 Tryz.underlying67 rfl) ?_
 refine WPL.qq (q_as (v := .lit (.int _ _)) rfl) ?_
 refine WPL.nx ?_
 refine WP.retW ?_
 have q0 := j1 H
 subst q0
 exact W.now (BodyR.mkR trivial rfl [] ⟨rfl, rfl⟩ ⟨rfl, trivial, by decide, rfl, trivial⟩ rfl rfl)
theorem s_dec_of (k : Nat) (x1 : Int) (x2 : Int) (x3 : Int) (H : g_dec_of k x1 x2 = some x3) : Go.Q.Spec Tryz.prog 81 0 [.agg [.lit (.int .i64 x1), .lit (.int .i64 x2)]] Mem.nil (fun o M => o = .ret (.agg [.lit (.bool (decide (x1 < 0))), .lit (.int .u64 0), .lit (.int .u64 x3), .lit (.int .i64 x2)]) ∧ M = (Mem.nil.push (.cells 71 [.lit (.bool (decide (x1 < 0))), .lit (.int .u64 0), .lit (.int .u64 x3), .lit (.int .i64 x2)]))) := by
 unfold g_dec_of at H
 refine Go.Q.Spec.of_bodyR (az := [(71, 4)]) (rs := [.cell 2 71]) (nt := 13) Tryz.func81 rfl rfl (by intro t T h; simp at h; rcases h with ⟨rfl, rfl⟩ <;> first | exact ag71) rfl rfl fun cx hnp => ?_
 refine WP.sr ?_
 refine WPL.d (d_box rfl rfl) rfl ?_
 refine WPL.d (d_alloc ze71 rfl) rfl ?_
 refine WPL.nx ?_
 refine WP.seq ?_
 refine WP.regionD' 11 [0] [] mixed rfl ?_
 refine WPD.tT 0 rfl (q_fieldAddr fi23_0 rfl rfl) ?_
 refine WPD.tT 3 rfl (q_fieldAddr fi23_0 rfl rfl) ?_
 refine WPD.tT 7 rfl (q_fieldAddr fi23_1 rfl rfl) ?_
 refine WPD.take 1 rfl (by kernel_rfl) (q_load sc2 rfl rfl rfl) rfl rfl ?_
 refine WPD.tT 2 rfl (q_lss rfl rfl) ?_
 refine WPD.take 4 rfl (by kernel_rfl) (q_load sc2 rfl rfl rfl) rfl rfl ?_
 refine WPD.take 8 rfl (by kernel_rfl) (q_load sc3 rfl rfl rfl) rfl rfl ?_
 obtain ⟨x4, h1, H⟩ := bnd H
 refine WPD.ef 5 [0] [] rfl (runs_call (s := []) (t := []) (N := 2) (bor := []) fn102 rfl (s_dec_size k x1 x4 h1) ⟨rfl, trivial, by decide, rfl, trivial⟩ rfl trivial (.ren rfl rfl .nil) rfl trivial rfl) ?_
 refine WPD.tT 6 rfl (q_build bu69 rfl) ?_
 refine WPD.tT 9 rfl (q_build bu71 rfl) ?_
 refine WPD.effS 10 [0] [] rfl (by kernel_rfl) (s_store sz71 rfl rfl rfl rfl rfl) rfl ?_
 refine WPD.doneW (by kernel_rfl) ?_
 refine W.now ?_
 refine Then.n ?_
 refine WP.retW ?_
 have q0 := j1 H
 subst q0
 exact W.now (BodyR.mkR trivial rfl [1] ⟨rfl, rfl⟩ ⟨rfl, AA1, by decide, rfl, trivial⟩ rfl rfl)
theorem s_dec_wide_zero (k : Nat) (x1 : Int) (x2 : Int) (H : g_dec_wide_zero k x1 x2 = some ()) : Go.Q.Spec Tryz.prog 131 0 [.agg [.lit (.int .u64 x1), .lit (.int .u64 x2)]] Mem.nil (fun o M => o = .ret (.lit (.bool (decide ((bits .or .u64 x1 x2) = 0)))) ∧ M = Mem.nil) := by
 unfold g_dec_wide_zero at H
 refine Go.Q.Spec.of_bodyR (az := []) (rs := [.tmp 2]) (nt := 9) Tryz.func131 rfl rfl (by intro t T h; simp at h) rfl rfl fun cx hnp => ?_
 refine WP.sr ?_
 refine WPL.d (d_box rfl rfl) rfl ?_
 refine WPL.qq (q_as (v := .lit (.bool _)) rfl) ?_
 refine WPL.nx ?_
 refine WP.sr ?_
 refine WPL.qq (q_fieldAddr fi69_0 rfl rfl) ?_
 refine WPL.qq (q_load sc67 rfl rfl rfl) ?_
 refine WPL.qq (q_fieldAddr fi69_1 rfl rfl) ?_
 refine WPL.qq (q_load sc67 rfl rfl rfl) ?_
 refine WPL.qq (q_or rfl rfl) ?_
 refine WPL.qq (q_eql rfl rfl) ?_
 refine WPL.qq (q_as (v := .lit (.bool _)) rfl) ?_
 refine WPL.nx ?_
 refine WP.retW ?_
 exact W.now (BodyR.mkR trivial rfl [] ⟨rfl, rfl⟩ ⟨rfl, trivial, by decide, rfl, trivial⟩ rfl rfl)
theorem s_mb_Len64 (k : Nat) (x1 : Int) (x2 : Int) (H : g_mb_Len64 k x1 = some x2) : Go.Q.Spec Tryz.prog 176 0 [.lit (.int .u64 x1)] Mem.nil (fun o M => o = .ret (.lit (.int .i64 x2)) ∧ M = Mem.nil) := by
 unfold g_mb_Len64 at H
 refine Go.Q.Spec.of_bodyR (az := []) (rs := [.tmp 2]) (nt := 25) Tryz.func176 rfl rfl (by intro t T h; simp at h) rfl rfl fun cx hnp => ?_
 refine WP.sr ?_
 refine WPL.qq (q_as (v := .lit (.int _ _)) rfl) ?_
 refine WPL.nx ?_
 refine WP.seq ?_
 obtain ⟨⟨x3, x4⟩, H1, H⟩ := bnd H
 refine WP.monoW (Q := fun x E M => x = .normal ∧ E = ((Env.none.upd 0 (.lit (.int .u64 x3))).upd 2 (.lit (.int .i64 x4))) ∧ M = Mem.nil) ?_ ?_
 · clear H
   have H := H1
   clear H1
   refine WP.sr ?_
   refine WPL.qq (q_mv (v := .lit (.int _ _)) rfl) ?_
   refine WPL.qq (q_geq rfl rfl) ?_
   refine WPL.nx ?_
   refine WP.cond (t := (decide (4294967296 ≤ x1))) rfl (fun hb1 => ?_) (fun hb1 => ?_)
   · replace H := cnt hb1 H
     refine WP.sr ?_
     refine WPL.qq (q_mv (v := .lit (.int _ _)) rfl) ?_
     refine WPL.qq (q_shr rfl rfl rfl) ?_
     refine WPL.qq (q_as (v := .lit (.int _ _)) rfl) ?_
     refine WPL.nx ?_
     refine WP.region ?_
     refine WPL.qq (q_as (v := .lit (.int _ _)) rfl) ?_
     refine WPL.nilW ?_
     obtain ⟨rfl, rfl⟩ := j2 H
     exact W.wk [] hnp r3 ⟨rfl, trivial, by decide, rfl, trivial⟩ (LeE.u (LeE.u (LeE.none rfl rfl))) rfl
   replace H := cnf hb1 H
   refine WP.skipW ?_
   obtain ⟨rfl, rfl⟩ := j2 H
   exact W.wk [] hnp r3 ⟨rfl, trivial, by decide, rfl, trivial⟩ (LeE.u (LeE.u (LeE.none rfl rfl))) rfl
 rintro _ _ _ ⟨rfl, rfl, rfl⟩
 refine W.now ?_
 refine Then.n ?_
 refine WP.seq ?_
 obtain ⟨⟨x5, x6⟩, H2, H⟩ := bnd H
 refine WP.monoW (Q := fun x E M => x = .normal ∧ E = ((Env.none.upd 0 (.lit (.int .u64 x5))).upd 2 (.lit (.int .i64 x6))) ∧ M = Mem.nil) ?_ ?_
 · clear H
   have H := H2
   clear H2
   refine WP.sr ?_
   refine WPL.qq (q_mv (v := .lit (.int _ _)) rfl) ?_
   refine WPL.qq (q_geq rfl rfl) ?_
   refine WPL.nx ?_
   refine WP.cond (t := (decide (65536 ≤ x3))) rfl (fun hb2 => ?_) (fun hb2 => ?_)
   · replace H := cnt hb2 H
     refine WP.sr ?_
     refine WPL.qq (q_mv (v := .lit (.int _ _)) rfl) ?_
     refine WPL.qq (q_shr rfl rfl rfl) ?_
     refine WPL.qq (q_as (v := .lit (.int _ _)) rfl) ?_
     refine WPL.nx ?_
     refine WP.region ?_
     refine WPL.qq (q_mv (v := .lit (.int _ _)) rfl) ?_
     refine WPL.qq (q_add rfl rfl) ?_
     refine WPL.qq (q_as (v := .lit (.int _ _)) rfl) ?_
     refine WPL.nilW ?_
     obtain ⟨rfl, rfl⟩ := j2 H
     exact W.wk [] hnp r3 ⟨rfl, trivial, by decide, rfl, trivial⟩ (LeE.u (LeE.u (LeE.none rfl rfl))) rfl
   replace H := cnf hb2 H
   refine WP.skipW ?_
   obtain ⟨rfl, rfl⟩ := j2 H
   exact W.wk [] hnp r3 ⟨rfl, trivial, by decide, rfl, trivial⟩ (LeE.u (LeE.u (LeE.none rfl rfl))) rfl
 rintro _ _ _ ⟨rfl, rfl, rfl⟩
 refine W.now ?_
 refine Then.n ?_
 refine WP.seq ?_
 obtain ⟨⟨x7, x8⟩, H3, H⟩ := bnd H
 refine WP.monoW (Q := fun x E M => x = .normal ∧ E = ((Env.none.upd 0 (.lit (.int .u64 x7))).upd 2 (.lit (.int .i64 x8))) ∧ M = Mem.nil) ?_ ?_
 · clear H
   have H := H3
   clear H3
   refine WP.sr ?_
   refine WPL.qq (q_mv (v := .lit (.int _ _)) rfl) ?_
   refine WPL.qq (q_geq rfl rfl) ?_
   refine WPL.nx ?_
   refine WP.cond (t := (decide (256 ≤ x5))) rfl (fun hb3 => ?_) (fun hb3 => ?_)
   · replace H := cnt hb3 H
     refine WP.sr ?_
     refine WPL.qq (q_mv (v := .lit (.int _ _)) rfl) ?_
     refine WPL.qq (q_shr rfl rfl rfl) ?_
     refine WPL.qq (q_as (v := .lit (.int _ _)) rfl) ?_
     refine WPL.nx ?_
     refine WP.region ?_
     refine WPL.qq (q_mv (v := .lit (.int _ _)) rfl) ?_
     refine WPL.qq (q_add rfl rfl) ?_
     refine WPL.qq (q_as (v := .lit (.int _ _)) rfl) ?_
     refine WPL.nilW ?_
     obtain ⟨rfl, rfl⟩ := j2 H
     exact W.wk [] hnp r3 ⟨rfl, trivial, by decide, rfl, trivial⟩ (LeE.u (LeE.u (LeE.none rfl rfl))) rfl
   replace H := cnf hb3 H
   refine WP.skipW ?_
   obtain ⟨rfl, rfl⟩ := j2 H
   exact W.wk [] hnp r3 ⟨rfl, trivial, by decide, rfl, trivial⟩ (LeE.u (LeE.u (LeE.none rfl rfl))) rfl
 rintro _ _ _ ⟨rfl, rfl, rfl⟩
 refine W.now ?_
 refine Then.n ?_
 refine WP.sr ?_
 refine WPL.qq (q_mv (v := .lit (.int _ _)) rfl) ?_
 refine WPL.qq (q_mv (v := .lit (.int _ _)) rfl) ?_
 refine WPL.qq (q_conv Tryz.underlying67 Tryz.underlying5 rfl) ?_
 obtain ⟨x9, h1, H⟩ := bnd H
 refine WPL.qq (q_index_str Tryz.underlying9 rfl rfl h1) ?_
 refine WPL.qq (q_conv Tryz.underlying5 Tryz.underlying3 rfl) ?_
 obtain ⟨x10, h2, H⟩ := bnd H
 refine WPL.qq (q_nm (q_add rfl rfl) (nm_int h2)) ?_
 refine WPL.qq (q_as (v := .lit (.int _ _)) rfl) ?_
 refine WPL.nx ?_
 refine WP.retW ?_
 have q0 := j1 H
 subst q0
 exact W.now (BodyR.mkR trivial rfl [] ⟨rfl, rfl⟩ ⟨rfl, trivial, by decide, rfl, trivial⟩ rfl rfl)
theorem s_mb_LeadingZeros64 (k : Nat) (x1 : Int) (x2 : Int) (H : g_mb_LeadingZeros64 k x1 = some x2) : Go.Q.Spec Tryz.prog 169 0 [.lit (.int .u64 x1)] Mem.nil (fun o M => o = .ret (.lit (.int .i64 x2)) ∧ M = Mem.nil) := by
 unfold g_mb_LeadingZeros64 at H
 refine Go.Q.Spec.of_bodyR (az := []) (rs := [.tmp 2]) (nt := 6) Tryz.func169 rfl rfl (by intro t T h; simp at h) rfl rfl fun cx hnp => ?_
 refine WP.sr ?_
 refine WPL.qq (q_as (v := .lit (.int _ _)) rfl) ?_
 refine WPL.nx ?_
 refine WP.sr ?_
 refine WPL.qq (q_mv (v := .lit (.int _ _)) rfl) ?_
 obtain ⟨x3, h1, H⟩ := bnd H
 refine WPL.c (runs_call (s := []) (t := []) (N := 0) (bor := []) fn176 rfl (s_mb_Len64 k x1 x3 h1) ⟨rfl, trivial, by decide, rfl, trivial⟩ rfl trivial (.ren rfl rfl .nil) rfl trivial rfl) rfl ?_
 refine WPL.qq (q_sub rfl rfl) ?_
 refine WPL.qq (q_as (v := .lit (.int _ _)) rfl) ?_
 refine WPL.nx ?_
 refine WP.retW ?_
 have q0 := j1 H
 subst q0
 exact W.now (BodyR.mkR trivial rfl [] ⟨rfl, rfl⟩ ⟨rfl, trivial, by decide, rfl, trivial⟩ rfl rfl)
theorem s_mb_Div64 (k : Nat) (x1 : Int) (x2 : Int) (x3 : Int) (x4 : Int) (x5 : Int) (H : g_mb_Div64 k x1 x2 x3 = some (x4, x5)) : Go.Q.Spec Tryz.prog 158 0 [.lit (.int .u64 x1), .lit (.int .u64 x2), .lit (.int .u64 x3)] Mem.nil (fun o M => o = .ret (.tup [.lit (.int .u64 x4), .lit (.int .u64 x5)]) ∧ M = Mem.nil) := by
 unfold g_mb_Div64 at H
 refine Go.Q.Spec.of_bodyR (az := []) (rs := [.tmp 6, .tmp 7]) (nt := 135) Tryz.func158 rfl rfl (by intro t T h; simp at h) rfl rfl fun cx hnp => ?_
 refine WP.sr ?_
 refine WPL.qq (q_as (v := .lit (.int _ _)) rfl) ?_
 refine WPL.qq (q_as (v := .lit (.int _ _)) rfl) ?_
 refine WPL.nx ?_
 refine WP.seq ?_
 refine WP.sr ?_
 refine WPL.qq (q_mv (v := .lit (.int _ _)) rfl) ?_
 refine WPL.qq (q_eql rfl rfl) ?_
 refine WPL.nx ?_
 refine WP.cond (t := (decide (x3 = 0))) rfl (fun hb1 => ?_) (fun hb1 => ?_)
 · replace H := cnt hb1 H
   refine WP.region ?_
   exact nf rfl H
 replace H := cnf hb1 H
 refine WP.skipW ?_
 refine W.now ?_
 refine Then.n ?_
 refine WP.seq ?_
 refine WP.sr ?_
 refine WPL.qq (q_mv (v := .lit (.int _ _)) rfl) ?_
 refine WPL.qq (q_mv (v := .lit (.int _ _)) rfl) ?_
 refine WPL.qq (q_leq rfl rfl) ?_
 refine WPL.nx ?_
 refine WP.cond (t := (decide (x3 ≤ x1))) rfl (fun hb2 => ?_) (fun hb2 => ?_)
 · replace H := cnt hb2 H
   refine WP.region ?_
   exact nf rfl H
 replace H := cnf hb2 H
 refine WP.skipW ?_
 refine W.now ?_
 refine Then.n ?_
 refine WP.seq ?_
 refine WP.sr ?_
 refine WPL.qq (q_mv (v := .lit (.int _ _)) rfl) ?_
 refine WPL.qq (q_eql rfl rfl) ?_
 refine WPL.nx ?_
 refine WP.cond (t := (decide (x1 = 0))) rfl (fun hb3 => ?_) (fun hb3 => ?_)
 · replace H := cnt hb3 H
   refine WP.seq ?_
   refine WP.regionD' 8 [] [] mixed rfl ?_
   refine WPD.tT 0 rfl (q_mv (v := .lit (.int _ _)) rfl) ?_
   refine WPD.tT 1 rfl (q_mv (v := .lit (.int _ _)) rfl) ?_
   obtain ⟨h1, H⟩ := grd H
   refine WPD.tT 2 rfl (q_quo rfl rfl (bnot h1)) ?_
   refine WPD.tT 3 rfl (q_mv (v := .lit (.int _ _)) rfl) ?_
   refine WPD.tT 4 rfl (q_mv (v := .lit (.int _ _)) rfl) ?_
   obtain ⟨h2, H⟩ := grd H
   refine WPD.tT 5 rfl (q_rem rfl rfl (bnot h2)) ?_
   refine WPD.tT 6 rfl (q_as (v := .lit (.int _ _)) rfl) ?_
   refine WPD.tT 7 rfl (q_as (v := .lit (.int _ _)) rfl) ?_
   refine WPD.doneW (by kernel_rfl) ?_
   refine W.now ?_
   refine Then.n ?_
   refine WP.retW ?_
   obtain ⟨rfl, rfl⟩ := j2 H
   exact W.now (Then.r (BodyR.mkR trivial rfl [] ⟨rfl, rfl⟩ ⟨rfl, trivial, by decide, rfl, trivial⟩ rfl rfl))
 replace H := cnf hb3 H
 refine WP.skipW ?_
 refine W.now ?_
 refine Then.n ?_
 refine WP.sr ?_
 refine WPL.qq (q_mv (v := .lit (.int _ _)) rfl) ?_
 obtain ⟨x6, h3, H⟩ := bnd H
 refine WPL.c (runs_call (s := []) (t := []) (N := 0) (bor := []) fn169 rfl (s_mb_LeadingZeros64 k x3 x6 h3) ⟨rfl, trivial, by decide, rfl, trivial⟩ rfl trivial (.ren rfl rfl .nil) rfl trivial rfl) rfl ?_
 refine WPL.qq (q_conv Tryz.underlying3 Tryz.underlying137 rfl) ?_
 refine WPL.qq (q_as (v := .lit (.int _ _)) rfl) ?_
 refine WPL.nx ?_
 refine WP.sr ?_
 refine WPL.qq (q_mv (v := .lit (.int _ _)) rfl) ?_
 refine WPL.qq (q_mv (v := .lit (.int _ _)) rfl) ?_
 obtain ⟨h4, H⟩ := grd H
 obtain ⟨x7, h5, H⟩ := bnd H
 refine WPL.qq (q_nm (q_shl rfl rfl h4) (nm_int h5)) ?_
 refine WPL.qq (q_as (v := .lit (.int _ _)) rfl) ?_
 refine WPL.nx ?_
 refine WP.sr ?_
 refine WPL.qq (q_mv (v := .lit (.int _ _)) rfl) ?_
 refine WPL.qq (q_shr rfl rfl rfl) ?_
 refine WPL.qq (q_as (v := .lit (.int _ _)) rfl) ?_
 refine WPL.nx ?_
 refine WP.sr ?_
 refine WPL.qq (q_mv (v := .lit (.int _ _)) rfl) ?_
 refine WPL.qq (q_and rfl rfl) ?_
 refine WPL.qq (q_as (v := .lit (.int _ _)) rfl) ?_
 refine WPL.nx ?_
 refine WP.sr ?_
 refine WPL.qq (q_mv (v := .lit (.int _ _)) rfl) ?_
 refine WPL.qq (q_mv (v := .lit (.int _ _)) rfl) ?_
 obtain ⟨h5, H⟩ := grd H
 obtain ⟨x8, h6, H⟩ := bnd H
 refine WPL.qq (q_nm (q_shl rfl rfl h5) (nm_int h6)) ?_
 refine WPL.qq (q_mv (v := .lit (.int _ _)) rfl) ?_
 refine WPL.qq (q_mv (v := .lit (.int _ _)) rfl) ?_
 obtain ⟨x9, h7, H⟩ := bnd H
 refine WPL.qq (q_nm (q_sub rfl rfl) (nm_int h7)) ?_
 obtain ⟨h7, H⟩ := grd H
 refine WPL.qq (q_shr rfl rfl h7) ?_
 refine WPL.qq (q_or rfl rfl) ?_
 refine WPL.qq (q_as (v := .lit (.int _ _)) rfl) ?_
 refine WPL.nx ?_
 refine WP.sr ?_
 refine WPL.qq (q_mv (v := .lit (.int _ _)) rfl) ?_
 refine WPL.qq (q_mv (v := .lit (.int _ _)) rfl) ?_
 obtain ⟨h8, H⟩ := grd H
 obtain ⟨x10, h9, H⟩ := bnd H
 refine WPL.qq (q_nm (q_shl rfl rfl h8) (nm_int h9)) ?_
 refine WPL.qq (q_as (v := .lit (.int _ _)) rfl) ?_
 refine WPL.nx ?_
 refine WP.sr ?_
 refine WPL.qq (q_mv (v := .lit (.int _ _)) rfl) ?_
 refine WPL.qq (q_shr rfl rfl rfl) ?_
 refine WPL.qq (q_as (v := .lit (.int _ _)) rfl) ?_
 refine WPL.nx ?_
 refine WP.sr ?_
 refine WPL.qq (q_mv (v := .lit (.int _ _)) rfl) ?_
 refine WPL.qq (q_and rfl rfl) ?_
 refine WPL.qq (q_as (v := .lit (.int _ _)) rfl) ?_
 refine WPL.nx ?_
 refine WP.sr ?_
 refine WPL.qq (q_mv (v := .lit (.int _ _)) rfl) ?_
 refine WPL.qq (q_mv (v := .lit (.int _ _)) rfl) ?_
 obtain ⟨h9, H⟩ := grd H
 obtain ⟨x11, h10, H⟩ := bnd H
 refine WPL.qq (q_nm (q_quo rfl rfl (bnot h9)) (nm_int h10)) ?_
 refine WPL.qq (q_as (v := .lit (.int _ _)) rfl) ?_
 refine WPL.nx ?_
 refine WP.sr ?_
 refine WPL.qq (q_mv (v := .lit (.int _ _)) rfl) ?_
 refine WPL.qq (q_mv (v := .lit (.int _ _)) rfl) ?_
 refine WPL.qq (q_mv (v := .lit (.int _ _)) rfl) ?_
 obtain ⟨x12, h11, H⟩ := bnd H
 refine WPL.qq (q_nm (q_mul rfl rfl) (nm_int h11)) ?_
 obtain ⟨x13, h12, H⟩ := bnd H
 refine WPL.qq (q_nm (q_sub rfl rfl) (nm_int h12)) ?_
 refine WPL.qq (q_as (v := .lit (.int _ _)) rfl) ?_
 refine WPL.nx ?_
 refine WP.seq ?_
 refine WP.block ?_
 refine WP.cv (Cv.weak (E' := (((((((((Env.none.upd 2 (.lit (.int .u64 x7))).upd 8 (.lit (.int .u64 (IntKind.wrap .u64 x6)))).upd 9 (.lit (.int .u64 (shrI .u64 x7 32)))).upd 10 (.lit (.int .u64 (bits .and .u64 x7 4294967295)))).upd 11 (.lit (.int .u64 (bits .or .u64 x8 (shrI .u64 x2 x9))))).upd 13 (.lit (.int .u64 (shrI .u64 x10 32)))).upd 14 (.lit (.int .u64 (bits .and .u64 x10 4294967295)))).upd 15 (.lit (.int .u64 x11))).upd 16 (.lit (.int .u64 x13)))) (M' := Mem.nil) [] hnp ⟨rfl, trivial, by decide, rfl, trivial⟩ (LeE.u (LeE.u (LeE.u (LeE.u (LeE.u (LeE.u (LeE.u (LeE.u (LeE.u (LeE.none rfl rfl))))))))))) ?_
 obtain ⟨x14, H1, H⟩ := bnd H
 refine WP.monoW (Q := fun x E M => x = .exit 0 ∧ E = ((((((((Env.none.upd 2 (.lit (.int .u64 x7))).upd 8 (.lit (.int .u64 (IntKind.wrap .u64 x6)))).upd 9 (.lit (.int .u64 (shrI .u64 x7 32)))).upd 10 (.lit (.int .u64 (bits .and .u64 x7 4294967295)))).upd 11 (.lit (.int .u64 (bits .or .u64 x8 (shrI .u64 x2 x9))))).upd 13 (.lit (.int .u64 (shrI .u64 x10 32)))).upd 14 (.lit (.int .u64 (bits .and .u64 x10 4294967295)))).upd 15 (.lit (.int .u64 x14))) ∧ M = Mem.nil) ?_ ?_
 · refine WP.loop (β := Int × Int) (fun n b => g_mb_Div64_l0 k x7 x10 n b.1 b.2 = some x14) (fun b => (((((((((Env.none.upd 2 (.lit (.int .u64 x7))).upd 8 (.lit (.int .u64 (IntKind.wrap .u64 x6)))).upd 9 (.lit (.int .u64 (shrI .u64 x7 32)))).upd 10 (.lit (.int .u64 (bits .and .u64 x7 4294967295)))).upd 11 (.lit (.int .u64 (bits .or .u64 x8 (shrI .u64 x2 x9))))).upd 13 (.lit (.int .u64 (shrI .u64 x10 32)))).upd 14 (.lit (.int .u64 (bits .and .u64 x10 4294967295)))).upd 15 (.lit (.int .u64 b.1))).upd 16 (.lit (.int .u64 b.2)))) (fun b => Mem.nil) k (x11, x13) H1 rfl rfl ?_
   rintro n ⟨x15, x16⟩ H
   obtain _ | n := n
   · exact nf rfl H
   rw [g_mb_Div64_l0.eq_2] at H
   show WP _ _ _ _ (((((((((Env.none.upd 2 (.lit (.int .u64 x7))).upd 8 (.lit (.int .u64 (IntKind.wrap .u64 x6)))).upd 9 (.lit (.int .u64 (shrI .u64 x7 32)))).upd 10 (.lit (.int .u64 (bits .and .u64 x7 4294967295)))).upd 11 (.lit (.int .u64 (bits .or .u64 x8 (shrI .u64 x2 x9))))).upd 13 (.lit (.int .u64 (shrI .u64 x10 32)))).upd 14 (.lit (.int .u64 (bits .and .u64 x10 4294967295)))).upd 15 (.lit (.int .u64 x15))).upd 16 (.lit (.int .u64 x16))) Mem.nil _
   refine WP.seq ?_
   refine WP.seq ?_
   obtain ⟨x17, H2, H⟩ := bnd H
   refine WP.monoW (Q := fun x E M => x = .normal ∧ E = ((((((((((Env.none.upd 2 (.lit (.int .u64 x7))).upd 8 (.lit (.int .u64 (IntKind.wrap .u64 x6)))).upd 9 (.lit (.int .u64 (shrI .u64 x7 32)))).upd 10 (.lit (.int .u64 (bits .and .u64 x7 4294967295)))).upd 11 (.lit (.int .u64 (bits .or .u64 x8 (shrI .u64 x2 x9))))).upd 13 (.lit (.int .u64 (shrI .u64 x10 32)))).upd 14 (.lit (.int .u64 (bits .and .u64 x10 4294967295)))).upd 15 (.lit (.int .u64 x15))).upd 16 (.lit (.int .u64 x16))).upd 78 (.lit (.bool x17))) ∧ M = Mem.nil) ?_ ?_
   · clear H
     have H := H2
     clear H2
     refine WP.region ?_
     refine WPL.qq (q_mv (v := .lit (.int _ _)) rfl) ?_
     refine WPL.qq (q_geq rfl rfl) ?_
     refine WPL.qq (q_mv (v := .lit (.bool _)) rfl) ?_
     refine WPL.split (t := 69) (b := (decide (4294967296 ≤ x15))) rfl (fun hb4 => ?_) (fun hb4 => ?_)
     · replace H := cnt hb4 H
       refine WPL.sg true rfl (lb hb4) ?_
       refine WPL.sg true rfl (lb hb4) ?_
       refine WPL.sg true rfl (lb hb4) ?_
       refine WPL.sg true rfl (lb hb4) ?_
       refine WPL.sg true rfl (lb hb4) ?_
       refine WPL.sg true rfl (lb hb4) ?_
       refine WPL.sg true rfl (lb hb4) ?_
       refine WPL.sg true rfl (lb hb4) ?_
       refine WPL.qq (q_pickT (v := .lit (.bool _)) (lb hb4) rfl) ?_
       refine WPL.nilW ?_
       have q0 := j1 H
       subst q0
       exact W.wk [] hnp r3 ⟨rfl, trivial, by decide, rfl, trivial⟩ (LeE.u (LeE.u (LeE.u (LeE.u (LeE.u (LeE.u (LeE.u (LeE.u (LeE.u (LeE.u (LeE.none rfl rfl))))))))))) rfl
     replace H := cnf hb4 H
     refine WPL.gq rfl (lb hb4) (q_mv (v := .lit (.int _ _)) rfl) ?_
     refine WPL.gq rfl (lb hb4) (q_mv (v := .lit (.int _ _)) rfl) ?_
     obtain ⟨x18, h13, H⟩ := bnd H
     refine WPL.gq rfl (lb hb4) (q_nm (q_mul rfl rfl) (nm_int h13)) ?_
     refine WPL.gq rfl (lb hb4) (q_mv (v := .lit (.int _ _)) rfl) ?_
     obtain ⟨x19, h14, H⟩ := bnd H
     refine WPL.gq rfl (lb hb4) (q_nm (q_mul rfl rfl) (nm_int h14)) ?_
     refine WPL.gq rfl (lb hb4) (q_mv (v := .lit (.int _ _)) rfl) ?_
     obtain ⟨x20, h15, H⟩ := bnd H
     refine WPL.gq rfl (lb hb4) (q_nm (q_add rfl rfl) (nm_int h15)) ?_
     refine WPL.gq rfl (lb hb4) (q_gtr rfl rfl) ?_
     refine WPL.qq (q_pickF (v := .lit (.bool _)) (lb hb4) rfl) ?_
     refine WPL.nilW ?_
     have q0 := j1 H
     subst q0
     exact W.wk [] hnp r3 ⟨rfl, trivial, by decide, rfl, trivial⟩ (LeE.u (LeE.u (LeE.u (LeE.u (LeE.u (LeE.u (LeE.u (LeE.u (LeE.u (LeE.u (LeE.none rfl rfl))))))))))) rfl
   rintro _ _ _ ⟨rfl, rfl, rfl⟩
   refine W.now ?_
   refine Then.n ?_
   refine WP.cond (t := x17) rfl (fun hb5 => ?_) (fun hb5 => ?_)
   · replace H := cnt hb5 H
     refine WP.skipW ?_
     refine W.now ?_
     refine Then.n ?_
     refine WP.block ?_
     refine WP.sr ?_
     refine WPL.qq (q_mv (v := .lit (.int _ _)) rfl) ?_
     refine WPL.qq (q_sub rfl rfl) ?_
     refine WPL.qq (q_as (v := .lit (.int _ _)) rfl) ?_
     refine WPL.nx ?_
     refine WP.sr ?_
     refine WPL.qq (q_mv (v := .lit (.int _ _)) rfl) ?_
     refine WPL.qq (q_mv (v := .lit (.int _ _)) rfl) ?_
     obtain ⟨x21, h16, H⟩ := bnd H
     refine WPL.qq (q_nm (q_add rfl rfl) (nm_int h16)) ?_
     refine WPL.qq (q_as (v := .lit (.int _ _)) rfl) ?_
     refine WPL.nx ?_
     refine WP.sr ?_
     refine WPL.qq (q_mv (v := .lit (.int _ _)) rfl) ?_
     refine WPL.qq (q_geq rfl rfl) ?_
     refine WPL.nx ?_
     refine WP.cond (t := (decide (4294967296 ≤ x21))) rfl (fun hb6 => ?_) (fun hb6 => ?_)
     · replace H := cnt hb6 H
       refine WP.exitW ?_
       have q0 := j1 H
       subst q0
       exact W.wk [] hnp (InBlock.x rfl (Then.x r3)) ⟨rfl, trivial, by decide, rfl, trivial⟩ (LeE.u (LeE.u (LeE.u (LeE.u (LeE.u (LeE.u (LeE.u (LeE.u (LeE.none rfl rfl))))))))) rfl
     replace H := cnf hb6 H
     refine WP.skipW ?_
     exact W.wk [] hnp (InBlock.n (Then.n ⟨n, ((IntKind.wrap .u64 (x15 - 1)), x21), Nat.lt_succ_self n, H, rfl, rfl⟩)) ⟨rfl, trivial, by decide, rfl, trivial⟩ (LeE.u (LeE.u (LeE.u (LeE.u (LeE.u (LeE.u (LeE.u (LeE.u (LeE.u (LeE.none rfl rfl)))))))))) rfl
   replace H := cnf hb5 H
   refine WP.exitW ?_
   have q0 := j1 H
   subst q0
   exact W.wk [] hnp (Then.x (Then.x r3)) ⟨rfl, trivial, by decide, rfl, trivial⟩ (LeE.u (LeE.u (LeE.u (LeE.u (LeE.u (LeE.u (LeE.u (LeE.u (LeE.none rfl rfl))))))))) rfl
 rintro _ _ _ ⟨rfl, rfl, rfl⟩
 refine W.now ?_
 refine InBlock.x0 ?_
 refine Then.n ?_
 refine WP.sr ?_
 refine WPL.qq (q_mv (v := .lit (.int _ _)) rfl) ?_
 obtain ⟨x22, h17, H⟩ := bnd H
 refine WPL.qq (q_nm (q_mul rfl rfl) (nm_int h17)) ?_
 refine WPL.qq (q_mv (v := .lit (.int _ _)) rfl) ?_
 obtain ⟨x23, h18, H⟩ := bnd H
 refine WPL.qq (q_nm (q_add rfl rfl) (nm_int h18)) ?_
 refine WPL.qq (q_mv (v := .lit (.int _ _)) rfl) ?_
 refine WPL.qq (q_mv (v := .lit (.int _ _)) rfl) ?_
 refine WPL.qq (q_mul rfl rfl) ?_
 obtain ⟨x24, h19, H⟩ := bnd H
 refine WPL.qq (q_nm (q_sub rfl rfl) (nm_int h19)) ?_
 refine WPL.qq (q_as (v := .lit (.int _ _)) rfl) ?_
 refine WPL.nx ?_
 refine WP.sr ?_
 refine WPL.qq (q_mv (v := .lit (.int _ _)) rfl) ?_
 refine WPL.qq (q_mv (v := .lit (.int _ _)) rfl) ?_
 obtain ⟨h19, H⟩ := grd H
 obtain ⟨x25, h20, H⟩ := bnd H
 refine WPL.qq (q_nm (q_quo rfl rfl (bnot h19)) (nm_int h20)) ?_
 refine WPL.qq (q_as (v := .lit (.int _ _)) rfl) ?_
 refine WPL.nx ?_
 refine WP.sr ?_
 refine WPL.qq (q_mv (v := .lit (.int _ _)) rfl) ?_
 refine WPL.qq (q_mv (v := .lit (.int _ _)) rfl) ?_
 refine WPL.qq (q_mv (v := .lit (.int _ _)) rfl) ?_
 obtain ⟨x26, h21, H⟩ := bnd H
 refine WPL.qq (q_nm (q_mul rfl rfl) (nm_int h21)) ?_
 refine WPL.qq (q_sub rfl rfl) ?_
 refine WPL.qq (q_as (v := .lit (.int _ _)) rfl) ?_
 refine WPL.nx ?_
 refine WP.seq ?_
 refine WP.block ?_
 refine WP.cv (Cv.weak (E' := (((((((((Env.none.upd 2 (.lit (.int .u64 x7))).upd 8 (.lit (.int .u64 (IntKind.wrap .u64 x6)))).upd 9 (.lit (.int .u64 (shrI .u64 x7 32)))).upd 10 (.lit (.int .u64 (bits .and .u64 x7 4294967295)))).upd 14 (.lit (.int .u64 (bits .and .u64 x10 4294967295)))).upd 15 (.lit (.int .u64 x14))).upd 16 (.lit (.int .u64 (IntKind.wrap .u64 (x24 - x26))))).upd 17 (.lit (.int .u64 x24))).upd 18 (.lit (.int .u64 x25)))) (M' := Mem.nil) [] hnp ⟨rfl, trivial, by decide, rfl, trivial⟩ (LeE.u (LeE.u (LeE.u (LeE.u (LeE.u (LeE.u (LeE.u (LeE.u (LeE.u (LeE.none rfl rfl))))))))))) ?_
 obtain ⟨x27, H3, H⟩ := bnd H
 refine WP.monoW (Q := fun x E M => x = .exit 2 ∧ E = ((((((Env.none.upd 2 (.lit (.int .u64 x7))).upd 8 (.lit (.int .u64 (IntKind.wrap .u64 x6)))).upd 14 (.lit (.int .u64 (bits .and .u64 x10 4294967295)))).upd 15 (.lit (.int .u64 x14))).upd 17 (.lit (.int .u64 x24))).upd 18 (.lit (.int .u64 x27))) ∧ M = Mem.nil) ?_ ?_
 · refine WP.loop (β := Int × Int) (fun n b => g_mb_Div64_l1 k x7 x10 n b.1 b.2 = some x27) (fun b => (((((((((Env.none.upd 2 (.lit (.int .u64 x7))).upd 8 (.lit (.int .u64 (IntKind.wrap .u64 x6)))).upd 9 (.lit (.int .u64 (shrI .u64 x7 32)))).upd 10 (.lit (.int .u64 (bits .and .u64 x7 4294967295)))).upd 14 (.lit (.int .u64 (bits .and .u64 x10 4294967295)))).upd 15 (.lit (.int .u64 x14))).upd 16 (.lit (.int .u64 b.1))).upd 17 (.lit (.int .u64 x24))).upd 18 (.lit (.int .u64 b.2)))) (fun b => Mem.nil) k ((IntKind.wrap .u64 (x24 - x26)), x25) H3 rfl rfl ?_
   rintro n ⟨x28, x29⟩ H
   obtain _ | n := n
   · exact nf rfl H
   rw [g_mb_Div64_l1.eq_2] at H
   show WP _ _ _ _ (((((((((Env.none.upd 2 (.lit (.int .u64 x7))).upd 8 (.lit (.int .u64 (IntKind.wrap .u64 x6)))).upd 9 (.lit (.int .u64 (shrI .u64 x7 32)))).upd 10 (.lit (.int .u64 (bits .and .u64 x7 4294967295)))).upd 14 (.lit (.int .u64 (bits .and .u64 x10 4294967295)))).upd 15 (.lit (.int .u64 x14))).upd 16 (.lit (.int .u64 x28))).upd 17 (.lit (.int .u64 x24))).upd 18 (.lit (.int .u64 x29))) Mem.nil _
   refine WP.seq ?_
   refine WP.seq ?_
   obtain ⟨x30, H4, H⟩ := bnd H
   refine WP.monoW (Q := fun x E M => x = .normal ∧ E = ((((((((((Env.none.upd 2 (.lit (.int .u64 x7))).upd 8 (.lit (.int .u64 (IntKind.wrap .u64 x6)))).upd 9 (.lit (.int .u64 (shrI .u64 x7 32)))).upd 10 (.lit (.int .u64 (bits .and .u64 x7 4294967295)))).upd 14 (.lit (.int .u64 (bits .and .u64 x10 4294967295)))).upd 15 (.lit (.int .u64 x14))).upd 16 (.lit (.int .u64 x28))).upd 17 (.lit (.int .u64 x24))).upd 18 (.lit (.int .u64 x29))).upd 113 (.lit (.bool x30))) ∧ M = Mem.nil) ?_ ?_
   · clear H
     have H := H4
     clear H4
     refine WP.region ?_
     refine WPL.qq (q_mv (v := .lit (.int _ _)) rfl) ?_
     refine WPL.qq (q_geq rfl rfl) ?_
     refine WPL.qq (q_mv (v := .lit (.bool _)) rfl) ?_
     refine WPL.split (t := 104) (b := (decide (4294967296 ≤ x29))) rfl (fun hb7 => ?_) (fun hb7 => ?_)
     · replace H := cnt hb7 H
       refine WPL.sg true rfl (lb hb7) ?_
       refine WPL.sg true rfl (lb hb7) ?_
       refine WPL.sg true rfl (lb hb7) ?_
       refine WPL.sg true rfl (lb hb7) ?_
       refine WPL.sg true rfl (lb hb7) ?_
       refine WPL.sg true rfl (lb hb7) ?_
       refine WPL.sg true rfl (lb hb7) ?_
       refine WPL.sg true rfl (lb hb7) ?_
       refine WPL.qq (q_pickT (v := .lit (.bool _)) (lb hb7) rfl) ?_
       refine WPL.nilW ?_
       have q0 := j1 H
       subst q0
       exact W.wk [] hnp r3 ⟨rfl, trivial, by decide, rfl, trivial⟩ (LeE.u (LeE.u (LeE.u (LeE.u (LeE.u (LeE.u (LeE.u (LeE.u (LeE.u (LeE.u (LeE.none rfl rfl))))))))))) rfl
     replace H := cnf hb7 H
     refine WPL.gq rfl (lb hb7) (q_mv (v := .lit (.int _ _)) rfl) ?_
     refine WPL.gq rfl (lb hb7) (q_mv (v := .lit (.int _ _)) rfl) ?_
     obtain ⟨x31, h22, H⟩ := bnd H
     refine WPL.gq rfl (lb hb7) (q_nm (q_mul rfl rfl) (nm_int h22)) ?_
     refine WPL.gq rfl (lb hb7) (q_mv (v := .lit (.int _ _)) rfl) ?_
     obtain ⟨x32, h23, H⟩ := bnd H
     refine WPL.gq rfl (lb hb7) (q_nm (q_mul rfl rfl) (nm_int h23)) ?_
     refine WPL.gq rfl (lb hb7) (q_mv (v := .lit (.int _ _)) rfl) ?_
     obtain ⟨x33, h24, H⟩ := bnd H
     refine WPL.gq rfl (lb hb7) (q_nm (q_add rfl rfl) (nm_int h24)) ?_
     refine WPL.gq rfl (lb hb7) (q_gtr rfl rfl) ?_
     refine WPL.qq (q_pickF (v := .lit (.bool _)) (lb hb7) rfl) ?_
     refine WPL.nilW ?_
     have q0 := j1 H
     subst q0
     exact W.wk [] hnp r3 ⟨rfl, trivial, by decide, rfl, trivial⟩ (LeE.u (LeE.u (LeE.u (LeE.u (LeE.u (LeE.u (LeE.u (LeE.u (LeE.u (LeE.u (LeE.none rfl rfl))))))))))) rfl
   rintro _ _ _ ⟨rfl, rfl, rfl⟩
   refine W.now ?_
   refine Then.n ?_
   refine WP.cond (t := x30) rfl (fun hb8 => ?_) (fun hb8 => ?_)
   · replace H := cnt hb8 H
     refine WP.skipW ?_
     refine W.now ?_
     refine Then.n ?_
     refine WP.block ?_
     refine WP.sr ?_
     refine WPL.qq (q_mv (v := .lit (.int _ _)) rfl) ?_
     refine WPL.qq (q_sub rfl rfl) ?_
     refine WPL.qq (q_as (v := .lit (.int _ _)) rfl) ?_
     refine WPL.nx ?_
     refine WP.sr ?_
     refine WPL.qq (q_mv (v := .lit (.int _ _)) rfl) ?_
     refine WPL.qq (q_mv (v := .lit (.int _ _)) rfl) ?_
     obtain ⟨x34, h25, H⟩ := bnd H
     refine WPL.qq (q_nm (q_add rfl rfl) (nm_int h25)) ?_
     refine WPL.qq (q_as (v := .lit (.int _ _)) rfl) ?_
     refine WPL.nx ?_
     refine WP.sr ?_
     refine WPL.qq (q_mv (v := .lit (.int _ _)) rfl) ?_
     refine WPL.qq (q_geq rfl rfl) ?_
     refine WPL.nx ?_
     refine WP.cond (t := (decide (4294967296 ≤ x34))) rfl (fun hb9 => ?_) (fun hb9 => ?_)
     · replace H := cnt hb9 H
       refine WP.exitW ?_
       have q0 := j1 H
       subst q0
       exact W.wk [] hnp (InBlock.x rfl (Then.x r3)) ⟨rfl, trivial, by decide, rfl, trivial⟩ (LeE.u (LeE.u (LeE.u (LeE.u (LeE.u (LeE.u (LeE.none rfl rfl))))))) rfl
     replace H := cnf hb9 H
     refine WP.skipW ?_
     exact W.wk [] hnp (InBlock.n (Then.n ⟨n, (x34, (IntKind.wrap .u64 (x29 - 1))), Nat.lt_succ_self n, H, rfl, rfl⟩)) ⟨rfl, trivial, by decide, rfl, trivial⟩ (LeE.u (LeE.u (LeE.u (LeE.u (LeE.u (LeE.u (LeE.u (LeE.u (LeE.u (LeE.none rfl rfl)))))))))) rfl
   replace H := cnf hb8 H
   refine WP.exitW ?_
   have q0 := j1 H
   subst q0
   exact W.wk [] hnp (Then.x (Then.x r3)) ⟨rfl, trivial, by decide, rfl, trivial⟩ (LeE.u (LeE.u (LeE.u (LeE.u (LeE.u (LeE.u (LeE.none rfl rfl))))))) rfl
 rintro _ _ _ ⟨rfl, rfl, rfl⟩
 refine W.now ?_
 refine InBlock.x0 ?_
 refine Then.n ?_
 refine WP.sr ?_
 refine WPL.qq (q_mv (v := .lit (.int _ _)) rfl) ?_
 obtain ⟨x35, h26, H⟩ := bnd H
 refine WPL.qq (q_nm (q_mul rfl rfl) (nm_int h26)) ?_
 refine WPL.qq (q_mv (v := .lit (.int _ _)) rfl) ?_
 refine WPL.qq (q_add rfl rfl) ?_
 refine WPL.qq (q_mv (v := .lit (.int _ _)) rfl) ?_
 obtain ⟨x36, h27, H⟩ := bnd H
 refine WPL.qq (q_nm (q_mul rfl rfl) (nm_int h27)) ?_
 refine WPL.qq (q_mv (v := .lit (.int _ _)) rfl) ?_
 obtain ⟨x37, h28, H⟩ := bnd H
 refine WPL.qq (q_nm (q_add rfl rfl) (nm_int h28)) ?_
 refine WPL.qq (q_mv (v := .lit (.int _ _)) rfl) ?_
 refine WPL.qq (q_mv (v := .lit (.int _ _)) rfl) ?_
 refine WPL.qq (q_mul rfl rfl) ?_
 obtain ⟨x38, h29, H⟩ := bnd H
 refine WPL.qq (q_nm (q_sub rfl rfl) (nm_int h29)) ?_
 refine WPL.qq (q_mv (v := .lit (.int _ _)) rfl) ?_
 obtain ⟨h29, H⟩ := grd H
 obtain ⟨x39, h30, H⟩ := bnd H
 refine WPL.qq (q_nm (q_shr rfl rfl h29) (nm_int h30)) ?_
 refine WPL.qq (q_as (v := .lit (.int _ _)) rfl) ?_
 refine WPL.qq (q_as (v := .lit (.int _ _)) rfl) ?_
 refine WPL.nx ?_
 refine WP.retW ?_
 obtain ⟨rfl, rfl⟩ := j2 H
 exact W.now (BodyR.mkR trivial rfl [] ⟨rfl, rfl⟩ ⟨rfl, trivial, by decide, rfl, trivial⟩ rfl rfl)
end Go.Proofs.YthpcgknknpjpdaaGreatDoor.W
namespace Go.Proofs.YthpcgknknpjpdaaGreatDoor.W
open Go Go.Q Go.Proofs
set_option linter.unusedVariables false
set_option linter.unusedSimpArgs false
set_option maxRecDepth 100000
set_option maxHeartbeats 4000000
theorem s_dec_wide_by (k : Nat) (x1 : Int) (x2 : Int) (x3 : Int) (x4 : Int) (x5 : Int) (x6 : Int) (H : g_dec_wide_by k x1 x2 x3 = some (x4, x5, x6)) : Go.Q.Spec Tryz.prog 132 0 [.agg [.lit (.int .u64 x1), .lit (.int .u64 x2)], .lit (.int .u64 x3)] Mem.nil (fun o M => o = .ret (.tup [.agg [.lit (.int .u64 x5), .lit (.int .u64 x6)], .lit (.int .u64 x4)]) ∧ M = (Mem.nil.push (.cells 69 [.lit (.int .u64 x5), .lit (.int .u64 x6)]))) := by
 unfold g_dec_wide_by at H
 refine Go.Q.Spec.of_bodyR (az := [(69, 2)]) (rs := [.cell 4 69, .tmp 5]) (nt := 28) Tryz.func132 rfl rfl (by intro t T h; simp at h; rcases h with ⟨rfl, rfl⟩ <;> first | exact ag69) rfl rfl fun cx hnp => ?_
 refine WP.sr ?_
 refine WPL.d (d_box rfl rfl) rfl ?_
 refine WPL.d (d_alloc ze69 rfl) rfl ?_
 refine WPL.qq (q_as (v := .lit (.int _ _)) rfl) ?_
 refine WPL.nx ?_
 refine WP.sr ?_
 refine WPL.qq (q_fieldAddr fi69_0 rfl rfl) ?_
 refine WPL.qq (q_load sc67 rfl rfl rfl) ?_
 refine WPL.qq (q_mv (v := .lit (.int _ _)) rfl) ?_
 obtain ⟨⟨x7, x8⟩, h1, H⟩ := bnd H
 refine WPL.c (runs_call (s := []) (t := []) (N := 2) (bor := []) fn158 rfl (s_mb_Div64 k 0 x1 x3 x7 x8 h1) ⟨rfl, trivial, by decide, rfl, trivial⟩ rfl trivial (.ren rfl rfl (.ren rfl rfl (.ren rfl rfl .nil))) rfl trivial rfl) rfl ?_
 refine WPL.qq (q_mv (v := .tup _) rfl) ?_
 refine WPL.qq (q_extract rfl rfl) ?_
 refine WPL.qq (q_extract rfl rfl) ?_
 refine WPL.qq (q_as (v := .lit (.int _ _)) rfl) ?_
 refine WPL.qq (q_as (v := .lit (.int _ _)) rfl) ?_
 refine WPL.nx ?_
 refine WP.sr ?_
 refine WPL.qq (q_mv (v := .lit (.int _ _)) rfl) ?_
 refine WPL.qq (q_fieldAddr fi69_1 rfl rfl) ?_
 refine WPL.qq (q_load sc67 rfl rfl rfl) ?_
 refine WPL.qq (q_mv (v := .lit (.int _ _)) rfl) ?_
 obtain ⟨⟨x9, x10⟩, h2, H⟩ := bnd H
 refine WPL.c (runs_call (s := []) (t := []) (N := 2) (bor := []) fn158 rfl (s_mb_Div64 k x8 x2 x3 x9 x10 h2) ⟨rfl, trivial, by decide, rfl, trivial⟩ rfl trivial (.ren rfl rfl (.ren rfl rfl (.ren rfl rfl .nil))) rfl trivial rfl) rfl ?_
 refine WPL.qq (q_mv (v := .tup _) rfl) ?_
 refine WPL.qq (q_extract rfl rfl) ?_
 refine WPL.qq (q_extract rfl rfl) ?_
 refine WPL.qq (q_as (v := .lit (.int _ _)) rfl) ?_
 refine WPL.qq (q_as (v := .lit (.int _ _)) rfl) ?_
 refine WPL.nx ?_
 refine WP.sr ?_
 refine WPL.qq (q_mv (v := .lit (.int _ _)) rfl) ?_
 refine WPL.qq (q_mv (v := .lit (.int _ _)) rfl) ?_
 refine WPL.qq (q_build bu69 rfl) ?_
 refine WPL.qq (q_mv (v := .lit (.int _ _)) rfl) ?_
 refine WPL.s (s_store sz69 rfl rfl rfl rfl rfl) ?_
 refine WPL.qq (q_as (v := .lit (.int _ _)) rfl) ?_
 refine WPL.nx ?_
 refine WP.retW ?_
 obtain ⟨rfl, rfl, rfl⟩ := j3 H
 exact W.now (BodyR.mkR trivial rfl [1] ⟨rfl, rfl⟩ ⟨rfl, AA1, by decide, rfl, trivial⟩ rfl rfl)
theorem s_mb_Mul64 (k : Nat) (x1 : Int) (x2 : Int) (x3 : Int) (H : g_mb_Mul64 k x1 x2 = some x3) : Go.Q.Spec Tryz.prog 121 0 [.lit (.int .u64 x1), .lit (.int .u64 x2)] Mem.nil (fun o M => o = .ret (.tup [.lit (.int .u64 x3), .lit (.int .u64 (IntKind.wrap .u64 (x1 * x2)))]) ∧ M = Mem.nil) := by
 unfold g_mb_Mul64 at H
 refine Go.Q.Spec.of_bodyR (az := []) (rs := [.tmp 4, .tmp 5]) (nt := 51) Tryz.func121 rfl rfl (by intro t T h; simp at h) rfl rfl fun cx hnp => ?_
 refine WP.sr ?_
 refine WPL.qq (q_as (v := .lit (.int _ _)) rfl) ?_
 refine WPL.qq (q_as (v := .lit (.int _ _)) rfl) ?_
 refine WPL.nx ?_
 refine WP.sr ?_
 refine WPL.qq (q_mv (v := .lit (.int _ _)) rfl) ?_
 refine WPL.qq (q_and rfl rfl) ?_
 refine WPL.qq (q_as (v := .lit (.int _ _)) rfl) ?_
 refine WPL.nx ?_
 refine WP.sr ?_
 refine WPL.qq (q_mv (v := .lit (.int _ _)) rfl) ?_
 refine WPL.qq (q_shr rfl rfl rfl) ?_
 refine WPL.qq (q_as (v := .lit (.int _ _)) rfl) ?_
 refine WPL.nx ?_
 refine WP.sr ?_
 refine WPL.qq (q_mv (v := .lit (.int _ _)) rfl) ?_
 refine WPL.qq (q_and rfl rfl) ?_
 refine WPL.qq (q_as (v := .lit (.int _ _)) rfl) ?_
 refine WPL.nx ?_
 refine WP.sr ?_
 refine WPL.qq (q_mv (v := .lit (.int _ _)) rfl) ?_
 refine WPL.qq (q_shr rfl rfl rfl) ?_
 refine WPL.qq (q_as (v := .lit (.int _ _)) rfl) ?_
 refine WPL.nx ?_
 refine WP.sr ?_
 refine WPL.qq (q_mv (v := .lit (.int _ _)) rfl) ?_
 refine WPL.qq (q_mv (v := .lit (.int _ _)) rfl) ?_
 obtain ⟨x4, h1, H⟩ := bnd H
 refine WPL.qq (q_nm (q_mul rfl rfl) (nm_int h1)) ?_
 refine WPL.qq (q_as (v := .lit (.int _ _)) rfl) ?_
 refine WPL.nx ?_
 refine WP.sr ?_
 refine WPL.qq (q_mv (v := .lit (.int _ _)) rfl) ?_
 refine WPL.qq (q_mv (v := .lit (.int _ _)) rfl) ?_
 obtain ⟨x5, h2, H⟩ := bnd H
 refine WPL.qq (q_nm (q_mul rfl rfl) (nm_int h2)) ?_
 refine WPL.qq (q_mv (v := .lit (.int _ _)) rfl) ?_
 refine WPL.qq (q_shr rfl rfl rfl) ?_
 obtain ⟨x6, h3, H⟩ := bnd H
 refine WPL.qq (q_nm (q_add rfl rfl) (nm_int h3)) ?_
 refine WPL.qq (q_as (v := .lit (.int _ _)) rfl) ?_
 refine WPL.nx ?_
 refine WP.sr ?_
 refine WPL.qq (q_mv (v := .lit (.int _ _)) rfl) ?_
 refine WPL.qq (q_and rfl rfl) ?_
 refine WPL.qq (q_as (v := .lit (.int _ _)) rfl) ?_
 refine WPL.nx ?_
 refine WP.sr ?_
 refine WPL.qq (q_mv (v := .lit (.int _ _)) rfl) ?_
 refine WPL.qq (q_shr rfl rfl rfl) ?_
 refine WPL.qq (q_as (v := .lit (.int _ _)) rfl) ?_
 refine WPL.nx ?_
 refine WP.sr ?_
 refine WPL.qq (q_mv (v := .lit (.int _ _)) rfl) ?_
 refine WPL.qq (q_mv (v := .lit (.int _ _)) rfl) ?_
 refine WPL.qq (q_mv (v := .lit (.int _ _)) rfl) ?_
 obtain ⟨x7, h4, H⟩ := bnd H
 refine WPL.qq (q_nm (q_mul rfl rfl) (nm_int h4)) ?_
 obtain ⟨x8, h5, H⟩ := bnd H
 refine WPL.qq (q_nm (q_add rfl rfl) (nm_int h5)) ?_
 refine WPL.qq (q_as (v := .lit (.int _ _)) rfl) ?_
 refine WPL.nx ?_
 refine WP.sr ?_
 refine WPL.qq (q_mv (v := .lit (.int _ _)) rfl) ?_
 refine WPL.qq (q_mv (v := .lit (.int _ _)) rfl) ?_
 obtain ⟨x9, h6, H⟩ := bnd H
 refine WPL.qq (q_nm (q_mul rfl rfl) (nm_int h6)) ?_
 refine WPL.qq (q_mv (v := .lit (.int _ _)) rfl) ?_
 obtain ⟨x10, h7, H⟩ := bnd H
 refine WPL.qq (q_nm (q_add rfl rfl) (nm_int h7)) ?_
 refine WPL.qq (q_mv (v := .lit (.int _ _)) rfl) ?_
 refine WPL.qq (q_shr rfl rfl rfl) ?_
 obtain ⟨x11, h8, H⟩ := bnd H
 refine WPL.qq (q_nm (q_add rfl rfl) (nm_int h8)) ?_
 refine WPL.qq (q_as (v := .lit (.int _ _)) rfl) ?_
 refine WPL.nx ?_
 refine WP.sr ?_
 refine WPL.qq (q_mv (v := .lit (.int _ _)) rfl) ?_
 refine WPL.qq (q_mv (v := .lit (.int _ _)) rfl) ?_
 refine WPL.qq (q_mul rfl rfl) ?_
 refine WPL.qq (q_as (v := .lit (.int _ _)) rfl) ?_
 refine WPL.nx ?_
 refine WP.retW ?_
 have q0 := j1 H
 subst q0
 exact W.now (BodyR.mkR trivial rfl [] ⟨rfl, rfl⟩ ⟨rfl, trivial, by decide, rfl, trivial⟩ rfl rfl)
theorem s_dec_wide_times (k : Nat) (x1 : Int) (x2 : Int) (x3 : Int) (x4 : Bool) (x5 : Int) (H : g_dec_wide_times k x1 x2 x3 = some (x4, x5)) : Go.Q.Spec Tryz.prog 93 0 [.agg [.lit (.int .u64 x1), .lit (.int .u64 x2)], .lit (.int .u64 x3)] Mem.nil (fun o M => o = .ret (.tup [.agg [.lit (.int .u64 x5), .lit (.int .u64 (IntKind.wrap .u64 (x2 * x3)))], .lit (.bool x4)]) ∧ M = (Mem.nil.push (.cells 69 [.lit (.int .u64 x5), .lit (.int .u64 (IntKind.wrap .u64 (x2 * x3)))]))) := by
 unfold g_dec_wide_times at H
 refine Go.Q.Spec.of_bodyR (az := [(69, 2)]) (rs := [.cell 4 69, .tmp 5]) (nt := 39) Tryz.func93 rfl rfl (by intro t T h; simp at h; rcases h with ⟨rfl, rfl⟩ <;> first | exact ag69) rfl rfl fun cx hnp => ?_
 refine WP.sr ?_
 refine WPL.d (d_box rfl rfl) rfl ?_
 refine WPL.d (d_alloc ze69 rfl) rfl ?_
 refine WPL.qq (q_as (v := .lit (.bool _)) rfl) ?_
 refine WPL.nx ?_
 refine WP.sr ?_
 refine WPL.qq (q_fieldAddr fi69_1 rfl rfl) ?_
 refine WPL.qq (q_load sc67 rfl rfl rfl) ?_
 refine WPL.qq (q_mv (v := .lit (.int _ _)) rfl) ?_
 obtain ⟨x6, h1, H⟩ := bnd H
 refine WPL.c (runs_call (s := []) (t := []) (N := 2) (bor := []) fn121 rfl (s_mb_Mul64 k x2 x3 x6 h1) ⟨rfl, trivial, by decide, rfl, trivial⟩ rfl trivial (.ren rfl rfl (.ren rfl rfl .nil)) rfl trivial rfl) rfl ?_
 refine WPL.qq (q_mv (v := .tup _) rfl) ?_
 refine WPL.qq (q_extract rfl rfl) ?_
 refine WPL.qq (q_extract rfl rfl) ?_
 refine WPL.qq (q_as (v := .lit (.int _ _)) rfl) ?_
 refine WPL.qq (q_as (v := .lit (.int _ _)) rfl) ?_
 refine WPL.nx ?_
 refine WP.sr ?_
 refine WPL.qq (q_fieldAddr fi69_0 rfl rfl) ?_
 refine WPL.qq (q_load sc67 rfl rfl rfl) ?_
 refine WPL.qq (q_mv (v := .lit (.int _ _)) rfl) ?_
 obtain ⟨x7, h2, H⟩ := bnd H
 refine WPL.c (runs_call (s := []) (t := []) (N := 2) (bor := []) fn121 rfl (s_mb_Mul64 k x1 x3 x7 h2) ⟨rfl, trivial, by decide, rfl, trivial⟩ rfl trivial (.ren rfl rfl (.ren rfl rfl .nil)) rfl trivial rfl) rfl ?_
 refine WPL.qq (q_mv (v := .tup _) rfl) ?_
 refine WPL.qq (q_extract rfl rfl) ?_
 refine WPL.qq (q_extract rfl rfl) ?_
 refine WPL.qq (q_as (v := .lit (.int _ _)) rfl) ?_
 refine WPL.qq (q_as (v := .lit (.int _ _)) rfl) ?_
 refine WPL.nx ?_
 refine WP.sr ?_
 refine WPL.qq (q_mv (v := .lit (.int _ _)) rfl) ?_
 refine WPL.qq (q_mv (v := .lit (.int _ _)) rfl) ?_
 refine WPL.qq (q_add64 ex139 rfl rfl rfl rfl rfl) ?_
 refine WPL.qq (q_mv (v := .tup _) rfl) ?_
 refine WPL.qq (q_extract rfl rfl) ?_
 refine WPL.qq (q_extract rfl rfl) ?_
 refine WPL.qq (q_as (v := .lit (.int _ _)) rfl) ?_
 refine WPL.qq (q_as (v := .lit (.int _ _)) rfl) ?_
 refine WPL.nx ?_
 refine WP.sr ?_
 refine WPL.qq (q_mv (v := .lit (.int _ _)) rfl) ?_
 refine WPL.qq (q_mv (v := .lit (.int _ _)) rfl) ?_
 refine WPL.qq (q_build bu69 rfl) ?_
 refine WPL.qq (q_mv (v := .lit (.int _ _)) rfl) ?_
 refine WPL.qq (q_mv (v := .lit (.int _ _)) rfl) ?_
 obtain ⟨x8, h3, H⟩ := bnd H
 refine WPL.qq (q_nm (q_add rfl rfl) (nm_int h3)) ?_
 refine WPL.qq (q_eql rfl rfl) ?_
 refine WPL.s (s_store sz69 rfl rfl rfl rfl rfl) ?_
 refine WPL.qq (q_as (v := .lit (.bool _)) rfl) ?_
 refine WPL.nx ?_
 refine WP.retW ?_
 obtain ⟨rfl, rfl⟩ := j2 H
 exact W.now (BodyR.mkR trivial rfl [1] ⟨rfl, rfl⟩ ⟨rfl, AA1, by decide, rfl, trivial⟩ rfl rfl)
theorem s_dec_wide_tens (k : Nat) (x1 : Int) (x2 : Int) (x3 : Int) (x4 : Bool) (x5 : Int) (x6 : Int) (H : g_dec_wide_tens k x1 x2 x3 = some (x4, x5, x6)) : Go.Q.Spec Tryz.prog 133 0 [.agg [.lit (.int .u64 x1), .lit (.int .u64 x2)], .lit (.int .i64 x3)] Mem.nil (fun o M => o = .ret (.tup [.agg [.lit (.int .u64 x5), .lit (.int .u64 x6)], .lit (.bool x4)]) ∧ M = (Mem.nil.push (.cells 69 [.lit (.int .u64 x5), .lit (.int .u64 x6)]))) := by
 unfold g_dec_wide_tens at H
 refine Go.Q.Spec.of_bodyR (az := [(69, 2)]) (rs := [.cell 4 69, .tmp 5]) (nt := 28) Tryz.func133 rfl rfl (by intro t T h; simp at h; rcases h with ⟨rfl, rfl⟩ <;> first | exact ag69) rfl rfl fun cx hnp => ?_
 refine WP.sr ?_
 refine WPL.d (d_box rfl rfl) rfl ?_
 refine WPL.d (d_alloc ze69 rfl) rfl ?_
 refine WPL.qq (q_as (v := .lit (.bool _)) rfl) ?_
 refine WPL.nx ?_
 refine WP.sr ?_
 refine WPL.qq (q_as (v := .lit (.bool _)) rfl) ?_
 refine WPL.nx ?_
 refine WP.seq ?_
 refine WP.sr ?_
 refine WPL.qq (q_as (v := .lit (.int _ _)) rfl) ?_
 refine WPL.nx ?_
 refine WP.block ?_
 refine WP.cv (Cv.weak (E' := (((((Env.none.upd 1 (.lit (.int .i64 x3))).upd 2 (.ptr 0 0)).upd 4 (.ptr 1 0)).upd 6 (.lit (.bool true))).upd 7 (.lit (.int .i64 0)))) (M' := ((Mem.nil.push (.cells 69 [.lit (.int .u64 x1), .lit (.int .u64 x2)])).push (.cells 69 [.lit (.int .u64 0), .lit (.int .u64 0)]))) [0, 1] hnp ⟨rfl, AA2, by decide, rfl, trivial⟩ (LeE.u (LeE.u (LeE.u (LeE.u (LeE.u (LeE.none rfl rfl))))))) ?_
 obtain ⟨⟨x7, x8, x9⟩, H1, H⟩ := bnd H
 refine WP.monoW (Q := fun x E M => x = .exit 0 ∧ E = (((Env.none.upd 2 (.ptr 0 0)).upd 4 (.ptr 1 0)).upd 6 (.lit (.bool x7))) ∧ M = ((Mem.nil.push (.cells 69 [.lit (.int .u64 x8), .lit (.int .u64 x9)])).push (.cells 69 [.lit (.int .u64 0), .lit (.int .u64 0)]))) ?_ ?_
 · refine WP.loop (β := Bool × Int × Int × Int) (fun n b => g_dec_wide_tens_l0 k x3 n b.1 b.2.1 b.2.2.1 b.2.2.2 = some (x7, x8, x9)) (fun b => (((((Env.none.upd 1 (.lit (.int .i64 x3))).upd 2 (.ptr 0 0)).upd 4 (.ptr 1 0)).upd 6 (.lit (.bool b.1))).upd 7 (.lit (.int .i64 b.2.1)))) (fun b => ((Mem.nil.push (.cells 69 [.lit (.int .u64 b.2.2.1), .lit (.int .u64 b.2.2.2)])).push (.cells 69 [.lit (.int .u64 0), .lit (.int .u64 0)]))) k (true, 0, x1, x2) H1 rfl rfl ?_
   rintro n ⟨x10, x11, x12, x13⟩ H
   obtain _ | n := n
   · exact nf rfl H
   rw [g_dec_wide_tens_l0.eq_2] at H
   show WP _ _ _ _ (((((Env.none.upd 1 (.lit (.int .i64 x3))).upd 2 (.ptr 0 0)).upd 4 (.ptr 1 0)).upd 6 (.lit (.bool x10))).upd 7 (.lit (.int .i64 x11))) ((Mem.nil.push (.cells 69 [.lit (.int .u64 x12), .lit (.int .u64 x13)])).push (.cells 69 [.lit (.int .u64 0), .lit (.int .u64 0)])) _
   refine WP.seq ?_
   refine WP.seq ?_
   obtain ⟨x14, H2, H⟩ := bnd H
   refine WP.monoW (Q := fun x E M => x = .normal ∧ E = ((((((Env.none.upd 1 (.lit (.int .i64 x3))).upd 2 (.ptr 0 0)).upd 4 (.ptr 1 0)).upd 6 (.lit (.bool x10))).upd 7 (.lit (.int .i64 x11))).upd 18 (.lit (.bool x14))) ∧ M = ((Mem.nil.push (.cells 69 [.lit (.int .u64 x12), .lit (.int .u64 x13)])).push (.cells 69 [.lit (.int .u64 0), .lit (.int .u64 0)]))) ?_ ?_
   · clear H
     have H := H2
     clear H2
     refine WP.region ?_
     refine WPL.qq (q_mv (v := .lit (.int _ _)) rfl) ?_
     refine WPL.qq (q_mv (v := .lit (.int _ _)) rfl) ?_
     refine WPL.qq (q_lss rfl rfl) ?_
     refine WPL.qq (q_mv (v := .lit (.bool _)) rfl) ?_
     refine WPL.split (t := 11) (b := (decide (x11 < x3))) rfl (fun hb1 => ?_) (fun hb1 => ?_)
     · replace H := cnt hb1 H
       refine WPL.gq rfl (lb hb1) (q_mv (v := .lit (.bool _)) rfl) ?_
       refine WPL.qq (q_pickT (v := .lit (.bool _)) (lb hb1) rfl) ?_
       refine WPL.qq (q_mv (v := .lit (.bool _)) rfl) ?_
       refine WPL.split (t := 14) (b := x10) rfl (fun hb2 => ?_) (fun hb2 => ?_)
       · replace H := cnt hb2 H
         refine WPL.gq rfl (lb hb2) (q_load_ag ag69 rfl rfl (Nat.le_of_ble_eq_true rfl)) ?_
         obtain ⟨_, h1, H⟩ := bnd H
         refine WPL.cg rfl rfl (lb hb2) (runs_call (s := []) (t := []) (N := 2) (bor := []) fn131 rfl (s_dec_wide_zero k x12 x13 h1) ⟨rfl, trivial, by decide, rfl, trivial⟩ rfl trivial (.ren rfl rfl .nil) rfl trivial rfl) rfl ?_
         obtain ⟨x15, h2, H⟩ := bnd H
         refine WPL.gq rfl (lb hb2) (q_nm (q_not rfl) (nm_bool h2)) ?_
         refine WPL.qq (q_pickT (v := .lit (.bool _)) (lb hb2) rfl) ?_
         refine WPL.nilW ?_
         have q0 := j1 H
         subst q0
         exact W.wk [0, 1] hnp r3 ⟨rfl, AA2, by decide, rfl, trivial⟩ (LeE.u (LeE.u (LeE.u (LeE.u (LeE.u (LeE.u (LeE.none rfl rfl))))))) rfl
       replace H := cnf hb2 H
       refine WPL.sg false rfl (lb hb2) ?_
       refine WPL.sg false rfl (lb hb2) ?_
       refine WPL.sg false rfl (lb hb2) ?_
       refine WPL.qq (q_pickF (v := .lit (.bool _)) (lb hb2) rfl) ?_
       refine WPL.nilW ?_
       have q0 := j1 H
       subst q0
       exact W.wk [0, 1] hnp r3 ⟨rfl, AA2, by decide, rfl, trivial⟩ (LeE.u (LeE.u (LeE.u (LeE.u (LeE.u (LeE.u (LeE.none rfl rfl))))))) rfl
     replace H := cnf hb1 H
     refine WPL.sg false rfl (lb hb1) ?_
     refine WPL.qq (q_pickF (v := .lit (.bool _)) (lb hb1) rfl) ?_
     refine WPL.qq (q_mv (v := .lit (.bool _)) rfl) ?_
     refine WPL.sg false rfl rfl ?_
     refine WPL.sg false rfl rfl ?_
     refine WPL.sg false rfl rfl ?_
     refine WPL.qq (q_pickF (v := .lit (.bool _)) rfl rfl) ?_
     refine WPL.nilW ?_
     have q0 := j1 H
     subst q0
     exact W.wk [0, 1] hnp r3 ⟨rfl, AA2, by decide, rfl, trivial⟩ (LeE.u (LeE.u (LeE.u (LeE.u (LeE.u (LeE.u (LeE.none rfl rfl))))))) rfl
   rintro _ _ _ ⟨rfl, rfl, rfl⟩
   refine W.now ?_
   refine Then.n ?_
   refine WP.cond (t := x14) rfl (fun hb3 => ?_) (fun hb3 => ?_)
   · replace H := cnt hb3 H
     refine WP.skipW ?_
     refine W.now ?_
     refine Then.n ?_
     refine WP.seq ?_
     refine WP.block ?_
     refine WP.region ?_
     refine WPL.qq (q_load_ag ag69 rfl rfl (Nat.le_of_ble_eq_true rfl)) ?_
     obtain ⟨⟨x16, x17⟩, h3, H⟩ := bnd H
     refine WPL.c (runs_call (s := []) (t := [2]) (N := 3) (bor := []) fn93 rfl (s_dec_wide_times k x12 x13 10 x16 x17 h3) ⟨rfl, trivial, by decide, rfl, trivial⟩ rfl trivial (.ren rfl rfl (.ren rfl rfl .nil)) rfl BB1 rfl) rfl ?_
     refine WPL.qq (q_mv (v := .tup _) rfl) ?_
     refine WPL.qq (q_extract rfl rfl) ?_
     refine WPL.qq (q_extract rfl rfl) ?_
     refine WPL.s (s_store sz69 rfl rfl rfl rfl rfl) ?_
     refine WPL.qq (q_as (v := .lit (.bool _)) rfl) ?_
     refine WPL.nilW ?_
     refine W.now ?_
     refine InBlock.n ?_
     refine Then.n ?_
     refine WP.region ?_
     refine WPL.qq (q_mv (v := .lit (.int _ _)) rfl) ?_
     refine WPL.qq (q_add rfl rfl) ?_
     refine WPL.qq (q_as (v := .lit (.int _ _)) rfl) ?_
     refine WPL.nilW ?_
     exact W.wk [0, 1] hnp (Then.n ⟨n, (x16, (IntKind.wrap .i64 (x11 + 1)), x17, (IntKind.wrap .u64 (x13 * 10))), Nat.lt_succ_self n, H, rfl, rfl⟩) ⟨rfl, AA2, by decide, rfl, trivial⟩ (LeE.u (LeE.u (LeE.u (LeE.u (LeE.u (LeE.none rfl rfl)))))) rfl
   replace H := cnf hb3 H
   refine WP.exitW ?_
   obtain ⟨rfl, rfl, rfl⟩ := j3 H
   exact W.wk [0, 1] hnp (Then.x (Then.x r3)) ⟨rfl, AA2, by decide, rfl, trivial⟩ (LeE.u (LeE.u (LeE.u (LeE.none rfl rfl)))) rfl
 rintro _ _ _ ⟨rfl, rfl, rfl⟩
 refine W.now ?_
 refine InBlock.x0 ?_
 refine Then.n ?_
 refine WP.sr ?_
 refine WPL.qq (q_load_ag ag69 rfl rfl (Nat.le_of_ble_eq_true rfl)) ?_
 refine WPL.qq (q_mv (v := .lit (.bool _)) rfl) ?_
 refine WPL.s (s_store sz69 rfl rfl rfl rfl rfl) ?_
 refine WPL.qq (q_as (v := .lit (.bool _)) rfl) ?_
 refine WPL.nx ?_
 refine WP.retW ?_
 obtain ⟨rfl, rfl, rfl⟩ := j3 H
 exact W.now (BodyR.mkR trivial rfl [1] ⟨rfl, rfl⟩ ⟨rfl, AA1, by decide, rfl, trivial⟩ rfl rfl)
theorem s_dec_num_tell (k : Nat) (x1 : Bool) (x2 : Int) (x3 : Int) (x4 : Int) (x5 : Int) (x6 : Int) (x7 : Int) (H : g_dec_num_tell k x1 x2 x3 x4 = some (x5, x6, x7)) : Go.Q.Spec Tryz.prog 82 0 [.agg [.lit (.bool x1), .lit (.int .u64 x2), .lit (.int .u64 x3), .lit (.int .i64 x4)]] Mem.nil (fun o M => o = .ret (.tup [.agg [.lit (.int .i64 x6), .lit (.int .i64 x7)], .lit (.int .i64 x5)]) ∧ M = (Mem.nil.push (.cells 23 [.lit (.int .i64 x6), .lit (.int .i64 x7)]))) := by
 unfold g_dec_num_tell at H
 refine Go.Q.Spec.of_bodyR (az := [(23, 2)]) (rs := [.cell 2 23, .tmp 3]) (nt := 89) Tryz.func82 rfl rfl (by intro t T h; simp at h; rcases h with ⟨rfl, rfl⟩ <;> first | exact ag23) rfl rfl fun cx hnp => ?_
 refine WP.sr ?_
 refine WPL.d (d_box rfl rfl) rfl ?_
 refine WPL.d (d_alloc ze23 rfl) rfl ?_
 refine WPL.qq (q_as (v := .lit (.int _ _)) rfl) ?_
 refine WPL.nx ?_
 refine WP.seq ?_
 refine WP.sr ?_
 refine WPL.qq (q_fieldAddr fi71_1 rfl rfl) ?_
 refine WPL.qq (q_load_ag ag69 rfl rfl (Nat.le_of_ble_eq_true rfl)) ?_
 obtain ⟨_, h1, H⟩ := bnd H
 refine WPL.c (runs_call (s := []) (t := []) (N := 2) (bor := []) fn131 rfl (s_dec_wide_zero k x2 x3 h1) ⟨rfl, trivial, by decide, rfl, trivial⟩ rfl trivial (.ren rfl rfl .nil) rfl trivial rfl) rfl ?_
 refine WPL.nx ?_
 refine WP.cond (t := (decide ((bits .or .u64 x2 x3) = 0))) rfl (fun hb1 => ?_) (fun hb1 => ?_)
 · replace H := cnt hb1 H
   refine WP.sr ?_
   refine WPL.qq (q_build bu23 rfl) ?_
   refine WPL.s (s_store sz23 rfl rfl rfl rfl rfl) ?_
   refine WPL.qq (q_as (v := .lit (.int _ _)) rfl) ?_
   refine WPL.nx ?_
   refine WP.retW ?_
   obtain ⟨rfl, rfl, rfl⟩ := j3 H
   exact W.now (Then.r (BodyR.mkR trivial rfl [1] ⟨rfl, rfl⟩ ⟨rfl, AA1, by decide, rfl, trivial⟩ rfl rfl))
 replace H := cnf hb1 H
 refine WP.skipW ?_
 refine W.now ?_
 refine Then.n ?_
 refine WP.seq ?_
 refine WP.sr ?_
 refine WPL.qq (q_fieldAddr fi71_1 rfl rfl) ?_
 refine WPL.qq (q_load_ag ag69 rfl rfl (Nat.le_of_ble_eq_true rfl)) ?_
 obtain ⟨⟨x8, x9, x10⟩, h2, H⟩ := bnd H
 refine WPL.c (runs_call (s := []) (t := [2]) (N := 3) (bor := []) fn132 rfl (s_dec_wide_by k x2 x3 10 x8 x9 x10 h2) ⟨rfl, trivial, by decide, rfl, trivial⟩ rfl trivial (.ren rfl rfl (.ren rfl rfl .nil)) rfl BB1 rfl) rfl ?_
 refine WPL.qq (q_mv (v := .tup _) rfl) ?_
 refine WPL.qq (q_extract rfl rfl) ?_
 refine WPL.qq (q_extract rfl rfl) ?_
 refine WPL.d (d_alloc ze69 rfl) rfl ?_
 refine WPL.s (s_store sz69 rfl rfl rfl rfl rfl) ?_
 refine WPL.qq (q_as (v := .lit (.int _ _)) rfl) ?_
 refine WPL.nx ?_
 refine WP.block ?_
 refine WP.cv (Cv.weak (E' := ((((Env.none.upd 1 (.ptr 0 0)).upd 2 (.ptr 1 0)).upd 4 (.ptr 2 0)).upd 5 (.lit (.int .u64 x8)))) (M' := (((Mem.nil.push (.cells 71 [.lit (.bool x1), .lit (.int .u64 x2), .lit (.int .u64 x3), .lit (.int .i64 x4)])).push (.cells 23 [.lit (.int .i64 0), .lit (.int .i64 0)])).push (.cells 69 [.lit (.int .u64 x9), .lit (.int .u64 x10)]))) [0, 1, 3] hnp ⟨rfl, AA3, by decide, rfl, trivial⟩ (LeE.u (LeE.u (LeE.u (LeE.u (LeE.none rfl rfl)))))) ?_
 obtain ⟨⟨x11, x12, x13⟩, H1, H⟩ := bnd H
 refine WP.monoW (Q := fun x E M => x = .exit 0 ∧ E = ((Env.none.upd 1 (.ptr 0 0)).upd 2 (.ptr 1 0)) ∧ M = ((Mem.nil.push (.cells 71 [.lit (.bool x1), .lit (.int .u64 x11), .lit (.int .u64 x12), .lit (.int .i64 x13)])).push (.cells 23 [.lit (.int .i64 0), .lit (.int .i64 0)]))) ?_ ?_
 · refine WP.loop (β := Int × Int × Int × Int × Int × Int) (fun n b => g_dec_num_tell_l0 k n b.1 b.2.1 b.2.2.1 b.2.2.2.1 b.2.2.2.2.1 b.2.2.2.2.2 = some (x11, x12, x13)) (fun b => ((((Env.none.upd 1 (.ptr 0 0)).upd 2 (.ptr 1 0)).upd 4 (.ptr 2 0)).upd 5 (.lit (.int .u64 b.1)))) (fun b => (((Mem.nil.push (.cells 71 [.lit (.bool x1), .lit (.int .u64 b.2.1), .lit (.int .u64 b.2.2.1), .lit (.int .i64 b.2.2.2.1)])).push (.cells 23 [.lit (.int .i64 0), .lit (.int .i64 0)])).push (.cells 69 [.lit (.int .u64 b.2.2.2.2.1), .lit (.int .u64 b.2.2.2.2.2)]))) k (x8, x2, x3, x4, x9, x10) H1 rfl rfl ?_
   rintro n ⟨x14, x15, x16, x17, x18, x19⟩ H
   obtain _ | n := n
   · exact nf rfl H
   rw [g_dec_num_tell_l0.eq_2] at H
   show WP _ _ _ _ ((((Env.none.upd 1 (.ptr 0 0)).upd 2 (.ptr 1 0)).upd 4 (.ptr 2 0)).upd 5 (.lit (.int .u64 x14))) (((Mem.nil.push (.cells 71 [.lit (.bool x1), .lit (.int .u64 x15), .lit (.int .u64 x16), .lit (.int .i64 x17)])).push (.cells 23 [.lit (.int .i64 0), .lit (.int .i64 0)])).push (.cells 69 [.lit (.int .u64 x18), .lit (.int .u64 x19)])) _
   refine WP.seq ?_
   refine WP.sr ?_
   refine WPL.qq (q_mv (v := .lit (.int _ _)) rfl) ?_
   refine WPL.qq (q_eql rfl rfl) ?_
   refine WPL.nx ?_
   refine WP.cond (t := (decide (x14 = 0))) rfl (fun hb2 => ?_) (fun hb2 => ?_)
   · replace H := cnt hb2 H
     refine WP.skipW ?_
     refine W.now ?_
     refine Then.n ?_
     refine WP.seq ?_
     refine WP.block ?_
     refine WP.sr ?_
     refine WPL.qq (q_load_ag ag69 rfl rfl (Nat.le_of_ble_eq_true rfl)) ?_
     refine WPL.qq (q_fieldAddr fi71_1 rfl rfl) ?_
     refine WPL.s (s_store sz69 rfl rfl rfl rfl rfl) ?_
     refine WPL.nx ?_
     refine WP.region ?_
     refine WPL.qq (q_fieldAddr fi71_2 rfl rfl) ?_
     refine WPL.qq (q_load sc3 rfl rfl rfl) ?_
     refine WPL.qq (q_add rfl rfl) ?_
     refine WPL.qq (q_fieldAddr fi71_2 rfl rfl) ?_
     refine WPL.s (s_store sz3 rfl rfl rfl rfl rfl) ?_
     refine WPL.nilW ?_
     refine W.now ?_
     refine InBlock.n ?_
     refine Then.n ?_
     refine WP.seq ?_
     refine WP.sr ?_
     refine WPL.qq (q_load_ag ag69 rfl rfl (Nat.le_of_ble_eq_true rfl)) ?_
     refine WPL.nx ?_
     refine WP.region ?_
     refine WPL.d (d_alloc ze69 rfl) rfl ?_
     refine WPL.s (s_store sz69 rfl rfl rfl rfl rfl) ?_
     refine WPL.nx ?_
     refine WP.region ?_
     refine WPL.qq (q_fieldAddr fi71_1 rfl rfl) ?_
     refine WPL.qq (q_load_ag ag69 rfl rfl (Nat.le_of_ble_eq_true rfl)) ?_
     obtain ⟨⟨x20, x21, x22⟩, h3, H⟩ := bnd H
     refine WPL.c (runs_call (s := []) (t := [4]) (N := 5) (bor := []) fn132 rfl (s_dec_wide_by k x18 x19 10 x20 x21 x22 h3) ⟨rfl, trivial, by decide, rfl, trivial⟩ rfl trivial (.ren rfl rfl (.ren rfl rfl .nil)) rfl BB1 rfl) rfl ?_
     refine WPL.qq (q_mv (v := .tup _) rfl) ?_
     refine WPL.qq (q_extract rfl rfl) ?_
     refine WPL.qq (q_extract rfl rfl) ?_
     refine WPL.s (s_store sz69 rfl rfl rfl rfl rfl) ?_
     refine WPL.qq (q_as (v := .lit (.int _ _)) rfl) ?_
     refine WPL.nilW ?_
     exact W.wk [0, 1, 3] hnp (Then.n ⟨n, (x20, x18, x19, (IntKind.wrap .i64 (x17 + 1)), x21, x22), Nat.lt_succ_self n, H, rfl, rfl⟩) ⟨rfl, AA3, by decide, rfl, trivial⟩ (LeE.u (LeE.u (LeE.u (LeE.u (LeE.none rfl rfl))))) rfl
   replace H := cnf hb2 H
   refine WP.exitW ?_
   obtain ⟨rfl, rfl, rfl⟩ := j3 H
   exact W.wk [0, 1] hnp (Then.x (Then.x r3)) ⟨rfl, AA2, by decide, rfl, trivial⟩ (LeE.u (LeE.u (LeE.none rfl rfl))) rfl
 rintro _ _ _ ⟨rfl, rfl, rfl⟩
 refine W.now ?_
 refine InBlock.x0 ?_
 refine Then.n ?_
 refine WP.sr ?_
 refine WPL.qq (q_as (v := .lit (.bool _)) rfl) ?_
 refine WPL.nx ?_
 refine WP.seq ?_
 obtain ⟨⟨x23, x24, x25, x26⟩, H2, H⟩ := bnd H
 refine WP.monoW (Q := fun x E M => x = .normal ∧ E = (((Env.none.upd 1 (.ptr 0 0)).upd 2 (.ptr 1 0)).upd 6 (.lit (.bool x23))) ∧ M = ((Mem.nil.push (.cells 71 [.lit (.bool x1), .lit (.int .u64 x24), .lit (.int .u64 x25), .lit (.int .i64 x26)])).push (.cells 23 [.lit (.int .i64 0), .lit (.int .i64 0)]))) ?_ ?_
 · clear H
   have H := H2
   clear H2
   refine WP.sr ?_
   refine WPL.qq (q_fieldAddr fi71_2 rfl rfl) ?_
   refine WPL.qq (q_load sc3 rfl rfl rfl) ?_
   refine WPL.qq (q_gtr rfl rfl) ?_
   refine WPL.nx ?_
   refine WP.cond (t := (decide (18 < x13))) rfl (fun hb3 => ?_) (fun hb3 => ?_)
   · replace H := cnt hb3 H
     refine WP.sr ?_
     refine WPL.qq (q_fieldAddr fi71_1 rfl rfl) ?_
     refine WPL.qq (q_load_ag ag69 rfl rfl (Nat.le_of_ble_eq_true rfl)) ?_
     refine WPL.qq (q_fieldAddr fi71_2 rfl rfl) ?_
     refine WPL.qq (q_load sc3 rfl rfl rfl) ?_
     refine WPL.qq (q_sub rfl rfl) ?_
     obtain ⟨x27, h4, H⟩ := bnd H
     refine WPL.qq (q_nm (q_min rfl rfl) (nm_int h4)) ?_
     obtain ⟨⟨x28, x29, x30⟩, h4, H⟩ := bnd H
     refine WPL.c (runs_call (s := []) (t := [2]) (N := 3) (bor := []) fn133 rfl (s_dec_wide_tens k x11 x12 x27 x28 x29 x30 h4) ⟨rfl, trivial, by decide, rfl, trivial⟩ rfl trivial (.ren rfl rfl (.ren rfl rfl .nil)) rfl BB1 rfl) rfl ?_
     refine WPL.qq (q_mv (v := .tup _) rfl) ?_
     refine WPL.qq (q_extract rfl rfl) ?_
     refine WPL.qq (q_extract rfl rfl) ?_
     refine WPL.qq (q_fieldAddr fi71_1 rfl rfl) ?_
     refine WPL.s (s_store sz69 rfl rfl rfl rfl rfl) ?_
     refine WPL.qq (q_as (v := .lit (.bool _)) rfl) ?_
     refine WPL.nx ?_
     refine WP.seq ?_
     obtain ⟨x31, H3, H⟩ := bnd H
     refine WP.monoW (Q := fun x E M => x = .normal ∧ E = (((Env.none.upd 1 (.ptr 0 0)).upd 2 (.ptr 1 0)).upd 6 (.lit (.bool x31))) ∧ M = ((Mem.nil.push (.cells 71 [.lit (.bool x1), .lit (.int .u64 x29), .lit (.int .u64 x30), .lit (.int .i64 x13)])).push (.cells 23 [.lit (.int .i64 0), .lit (.int .i64 0)]))) ?_ ?_
     · clear H
       have H := H3
       clear H3
       refine WP.sr ?_
       refine WPL.qq (q_fieldAddr fi71_2 rfl rfl) ?_
       refine WPL.qq (q_load sc3 rfl rfl rfl) ?_
       refine WPL.qq (q_gtr rfl rfl) ?_
       refine WPL.nx ?_
       refine WP.cond (t := (decide (58 < x13))) rfl (fun hb4 => ?_) (fun hb4 => ?_)
       · replace H := cnt hb4 H
         refine WP.region ?_
         refine WPL.qq (q_as (v := .lit (.bool _)) rfl) ?_
         refine WPL.nilW ?_
         have q0 := j1 H
         subst q0
         exact W.wk [0, 1] hnp r3 ⟨rfl, AA2, by decide, rfl, trivial⟩ (LeE.u (LeE.u (LeE.u (LeE.none rfl rfl)))) rfl
       replace H := cnf hb4 H
       refine WP.skipW ?_
       have q0 := j1 H
       subst q0
       exact W.wk [0, 1] hnp r3 ⟨rfl, AA2, by decide, rfl, trivial⟩ (LeE.u (LeE.u (LeE.u (LeE.none rfl rfl)))) rfl
     rintro _ _ _ ⟨rfl, rfl, rfl⟩
     refine W.now ?_
     refine Then.n ?_
     refine WP.region ?_
     refine WPL.qq (q_fieldAddr fi71_2 rfl rfl) ?_
     refine WPL.s (s_store sz3 rfl rfl rfl rfl rfl) ?_
     refine WPL.nilW ?_
     obtain ⟨rfl, rfl, rfl, rfl⟩ := j4 H
     exact W.wk [0, 1] hnp r3 ⟨rfl, AA2, by decide, rfl, trivial⟩ (LeE.u (LeE.u (LeE.u (LeE.none rfl rfl)))) rfl
   replace H := cnf hb3 H
   refine WP.skipW ?_
   obtain ⟨rfl, rfl, rfl, rfl⟩ := j4 H
   exact W.wk [0, 1] hnp r3 ⟨rfl, AA2, by decide, rfl, trivial⟩ (LeE.u (LeE.u (LeE.u (LeE.none rfl rfl)))) rfl
 rintro _ _ _ ⟨rfl, rfl, rfl⟩
 refine W.now ?_
 refine Then.n ?_
 refine WP.sr ?_
 refine WPL.qq (q_as (v := .lit (.int _ _)) rfl) ?_
 refine WPL.nx ?_
 refine WP.seq ?_
 obtain ⟨x32, H4, H⟩ := bnd H
 refine WP.monoW (Q := fun x E M => x = .normal ∧ E = ((((Env.none.upd 1 (.ptr 0 0)).upd 2 (.ptr 1 0)).upd 6 (.lit (.bool x23))).upd 7 (.lit (.int .u64 x32))) ∧ M = ((Mem.nil.push (.cells 71 [.lit (.bool x1), .lit (.int .u64 x24), .lit (.int .u64 x25), .lit (.int .i64 x26)])).push (.cells 23 [.lit (.int .i64 0), .lit (.int .i64 0)]))) ?_ ?_
 · clear H
   have H := H4
   clear H4
   refine WP.sr ?_
   refine WPL.qq (q_fieldAddr fi71_0 rfl rfl) ?_
   refine WPL.qq (q_load sc4 rfl rfl rfl) ?_
   refine WPL.nx ?_
   refine WP.cond (t := x1) rfl (fun hb5 => ?_) (fun hb5 => ?_)
   · replace H := cnt hb5 H
     refine WP.region ?_
     refine WPL.qq (q_mv (v := .lit (.int _ _)) rfl) ?_
     obtain ⟨x33, h5, H⟩ := bnd H
     refine WPL.qq (q_nm (q_add rfl rfl) (nm_int h5)) ?_
     refine WPL.qq (q_as (v := .lit (.int _ _)) rfl) ?_
     refine WPL.nilW ?_
     have q0 := j1 H
     subst q0
     exact W.wk [0, 1] hnp r3 ⟨rfl, AA2, by decide, rfl, trivial⟩ (LeE.u (LeE.u (LeE.u (LeE.u (LeE.none rfl rfl))))) rfl
   replace H := cnf hb5 H
   refine WP.skipW ?_
   have q0 := j1 H
   subst q0
   exact W.wk [0, 1] hnp r3 ⟨rfl, AA2, by decide, rfl, trivial⟩ (LeE.u (LeE.u (LeE.u (LeE.u (LeE.none rfl rfl))))) rfl
 rintro _ _ _ ⟨rfl, rfl, rfl⟩
 refine W.now ?_
 refine Then.n ?_
 refine WP.seq ?_
 refine WP.seq ?_
 obtain ⟨x34, H5, H⟩ := bnd H
 refine WP.monoW (Q := fun x E M => x = .normal ∧ E = (((Env.none.upd 1 (.ptr 0 0)).upd 2 (.ptr 1 0)).upd 75 (.lit (.bool x34))) ∧ M = ((Mem.nil.push (.cells 71 [.lit (.bool x1), .lit (.int .u64 x24), .lit (.int .u64 x25), .lit (.int .i64 x26)])).push (.cells 23 [.lit (.int .i64 0), .lit (.int .i64 0)]))) ?_ ?_
 · clear H
   have H := H5
   clear H5
   refine WP.region ?_
   refine WPL.qq (q_mv (v := .lit (.bool _)) rfl) ?_
   refine WPL.qq (q_not rfl) ?_
   refine WPL.qq (q_mv (v := .lit (.bool _)) rfl) ?_
   refine WPL.split (t := 58) (b := (!x23)) rfl (fun hb6 => ?_) (fun hb6 => ?_)
   · replace H := cnt hb6 H
     refine WPL.sg true rfl (lb hb6) ?_
     refine WPL.sg true rfl (lb hb6) ?_
     refine WPL.sg true rfl (lb hb6) ?_
     refine WPL.qq (q_pickT (v := .lit (.bool _)) (lb hb6) rfl) ?_
     refine WPL.qq (q_mv (v := .lit (.bool _)) rfl) ?_
     refine WPL.sg true rfl rfl ?_
     refine WPL.sg true rfl rfl ?_
     refine WPL.sg true rfl rfl ?_
     refine WPL.sg true rfl rfl ?_
     refine WPL.qq (q_pickT (v := .lit (.bool _)) rfl rfl) ?_
     refine WPL.qq (q_mv (v := .lit (.bool _)) rfl) ?_
     refine WPL.sg true rfl rfl ?_
     refine WPL.sg true rfl rfl ?_
     refine WPL.sg true rfl rfl ?_
     refine WPL.sg true rfl rfl ?_
     refine WPL.sg true rfl rfl ?_
     refine WPL.qq (q_pickT (v := .lit (.bool _)) rfl rfl) ?_
     refine WPL.nilW ?_
     have q0 := j1 H
     subst q0
     exact W.wk [0, 1] hnp r3 ⟨rfl, AA2, by decide, rfl, trivial⟩ (LeE.u (LeE.u (LeE.u (LeE.none rfl rfl)))) rfl
   replace H := cnf hb6 H
   refine WPL.gq rfl (lb hb6) (q_fieldAddr fi71_2 rfl rfl) ?_
   refine WPL.gq rfl (lb hb6) (q_load sc3 rfl rfl rfl) ?_
   refine WPL.gq rfl (lb hb6) (q_lss rfl rfl) ?_
   refine WPL.qq (q_pickF (v := .lit (.bool _)) (lb hb6) rfl) ?_
   refine WPL.qq (q_mv (v := .lit (.bool _)) rfl) ?_
   refine WPL.split (t := 63) (b := (decide (x26 < (-18)))) rfl (fun hb7 => ?_) (fun hb7 => ?_)
   · replace H := cnt hb7 H
     refine WPL.sg true rfl (lb hb7) ?_
     refine WPL.sg true rfl (lb hb7) ?_
     refine WPL.sg true rfl (lb hb7) ?_
     refine WPL.sg true rfl (lb hb7) ?_
     refine WPL.qq (q_pickT (v := .lit (.bool _)) (lb hb7) rfl) ?_
     refine WPL.qq (q_mv (v := .lit (.bool _)) rfl) ?_
     refine WPL.sg true rfl rfl ?_
     refine WPL.sg true rfl rfl ?_
     refine WPL.sg true rfl rfl ?_
     refine WPL.sg true rfl rfl ?_
     refine WPL.sg true rfl rfl ?_
     refine WPL.qq (q_pickT (v := .lit (.bool _)) rfl rfl) ?_
     refine WPL.nilW ?_
     have q0 := j1 H
     subst q0
     exact W.wk [0, 1] hnp r3 ⟨rfl, AA2, by decide, rfl, trivial⟩ (LeE.u (LeE.u (LeE.u (LeE.none rfl rfl)))) rfl
   replace H := cnf hb7 H
   refine WPL.gq rfl (lb hb7) (q_fieldAddr fi71_1 rfl rfl) ?_
   refine WPL.gq rfl (lb hb7) (q_fieldAddr fi69_0 rfl rfl) ?_
   refine WPL.gq rfl (lb hb7) (q_load sc67 rfl rfl rfl) ?_
   refine WPL.gq rfl (lb hb7) (q_gtr rfl rfl) ?_
   refine WPL.qq (q_pickF (v := .lit (.bool _)) (lb hb7) rfl) ?_
   refine WPL.qq (q_mv (v := .lit (.bool _)) rfl) ?_
   refine WPL.split (t := 69) (b := (decide (0 < x24))) rfl (fun hb8 => ?_) (fun hb8 => ?_)
   · replace H := cnt hb8 H
     refine WPL.sg true rfl (lb hb8) ?_
     refine WPL.sg true rfl (lb hb8) ?_
     refine WPL.sg true rfl (lb hb8) ?_
     refine WPL.sg true rfl (lb hb8) ?_
     refine WPL.sg true rfl (lb hb8) ?_
     refine WPL.qq (q_pickT (v := .lit (.bool _)) (lb hb8) rfl) ?_
     refine WPL.nilW ?_
     have q0 := j1 H
     subst q0
     exact W.wk [0, 1] hnp r3 ⟨rfl, AA2, by decide, rfl, trivial⟩ (LeE.u (LeE.u (LeE.u (LeE.none rfl rfl)))) rfl
   replace H := cnf hb8 H
   refine WPL.gq rfl (lb hb8) (q_fieldAddr fi71_1 rfl rfl) ?_
   refine WPL.gq rfl (lb hb8) (q_fieldAddr fi69_1 rfl rfl) ?_
   refine WPL.gq rfl (lb hb8) (q_load sc67 rfl rfl rfl) ?_
   refine WPL.gq rfl (lb hb8) (q_mv (v := .lit (.int _ _)) rfl) ?_
   refine WPL.gq rfl (lb hb8) (q_gtr rfl rfl) ?_
   refine WPL.qq (q_pickF (v := .lit (.bool _)) (lb hb8) rfl) ?_
   refine WPL.nilW ?_
   have q0 := j1 H
   subst q0
   exact W.wk [0, 1] hnp r3 ⟨rfl, AA2, by decide, rfl, trivial⟩ (LeE.u (LeE.u (LeE.u (LeE.none rfl rfl)))) rfl
 rintro _ _ _ ⟨rfl, rfl, rfl⟩
 refine W.now ?_
 refine Then.n ?_
 refine WP.cond (t := x34) rfl (fun hb9 => ?_) (fun hb9 => ?_)
 · replace H := cnt hb9 H
   refine WP.sr ?_
   refine WPL.qq (q_build bu23 rfl) ?_
   refine WPL.s (s_store sz23 rfl rfl rfl rfl rfl) ?_
   refine WPL.qq (q_as (v := .lit (.int _ _)) rfl) ?_
   refine WPL.nx ?_
   refine WP.retW ?_
   obtain ⟨rfl, rfl, rfl⟩ := j3 H
   exact W.now (Then.r (BodyR.mkR trivial rfl [1] ⟨rfl, rfl⟩ ⟨rfl, AA1, by decide, rfl, trivial⟩ rfl rfl))
 replace H := cnf hb9 H
 refine WP.skipW ?_
 refine W.now ?_
 refine Then.n ?_
 refine WP.sr ?_
 refine WPL.qq (q_fieldAddr fi71_1 rfl rfl) ?_
 refine WPL.qq (q_fieldAddr fi69_1 rfl rfl) ?_
 refine WPL.qq (q_load sc67 rfl rfl rfl) ?_
 refine WPL.qq (q_conv Tryz.underlying67 Tryz.underlying2 rfl) ?_
 refine WPL.qq (q_as (v := .lit (.int _ _)) rfl) ?_
 refine WPL.nx ?_
 refine WP.seq ?_
 obtain ⟨x35, H6, H⟩ := bnd H
 refine WP.monoW (Q := fun x E M => x = .normal ∧ E = (((Env.none.upd 1 (.ptr 0 0)).upd 2 (.ptr 1 0)).upd 8 (.lit (.int .i64 x35))) ∧ M = ((Mem.nil.push (.cells 71 [.lit (.bool x1), .lit (.int .u64 x24), .lit (.int .u64 x25), .lit (.int .i64 x26)])).push (.cells 23 [.lit (.int .i64 0), .lit (.int .i64 0)]))) ?_ ?_
 · clear H
   have H := H6
   clear H6
   refine WP.sr ?_
   refine WPL.qq (q_fieldAddr fi71_0 rfl rfl) ?_
   refine WPL.qq (q_load sc4 rfl rfl rfl) ?_
   refine WPL.nx ?_
   refine WP.cond (t := x1) rfl (fun hb10 => ?_) (fun hb10 => ?_)
   · replace H := cnt hb10 H
     refine WP.region ?_
     refine WPL.qq (q_mv (v := .lit (.int _ _)) rfl) ?_
     obtain ⟨x36, h6, H⟩ := bnd H
     refine WPL.qq (q_nm (q_neg rfl) (nm_int h6)) ?_
     refine WPL.qq (q_as (v := .lit (.int _ _)) rfl) ?_
     refine WPL.nilW ?_
     have q0 := j1 H
     subst q0
     exact W.wk [0, 1] hnp r3 ⟨rfl, AA2, by decide, rfl, trivial⟩ (LeE.u (LeE.u (LeE.u (LeE.none rfl rfl)))) rfl
   replace H := cnf hb10 H
   refine WP.skipW ?_
   have q0 := j1 H
   subst q0
   exact W.wk [0, 1] hnp r3 ⟨rfl, AA2, by decide, rfl, trivial⟩ (LeE.u (LeE.u (LeE.u (LeE.none rfl rfl)))) rfl
 rintro _ _ _ ⟨rfl, rfl, rfl⟩
 refine W.now ?_
 refine Then.n ?_
 refine WP.sr ?_
 refine WPL.qq (q_mv (v := .lit (.int _ _)) rfl) ?_
 refine WPL.qq (q_fieldAddr fi71_2 rfl rfl) ?_
 refine WPL.qq (q_load sc3 rfl rfl rfl) ?_
 refine WPL.qq (q_build bu23 rfl) ?_
 refine WPL.s (s_store sz23 rfl rfl rfl rfl rfl) ?_
 refine WPL.qq (q_as (v := .lit (.int _ _)) rfl) ?_
 refine WPL.nx ?_
 refine WP.retW ?_
 obtain ⟨rfl, rfl, rfl⟩ := j3 H
 exact W.now (BodyR.mkR trivial rfl [1] ⟨rfl, rfl⟩ ⟨rfl, AA1, by decide, rfl, trivial⟩ rfl rfl)
theorem s_dec_ranged (k : Nat) (x1 : (List S_api_Dec)) (x2 : Bool) (H : g_dec_ranged k x1 = some x2) : Go.Q.Spec Tryz.prog 83 0 [.ro (Rd.slice rdS_api_Dec) true x1] Mem.nil (fun o M => o = .ret (.lit (.bool x2)) ∧ M = Mem.nil) := by
 unfold g_dec_ranged at H
 refine Go.Q.Spec.of_bodyR (az := []) (rs := [.tmp 2]) (nt := 20) Tryz.func83 rfl rfl (by intro t T h; simp at h) rfl rfl fun cx hnp => ?_
 refine WP.sr ?_
 refine WPL.qq (q_as (v := .lit (.bool _)) rfl) ?_
 refine WPL.nx ?_
 refine WP.seq ?_
 refine WP.sr ?_
 refine WPL.qq (q_mv (v := .ro _ _ _) rfl) ?_
 refine WPL.qq (q_len_ro sl130 rfl) ?_
 refine WPL.qq (q_mv (v := .lit (.int _ _)) rfl) ?_
 refine WPL.nx ?_
 refine WP.block ?_
 refine WP.cv (Cv.weak (E' := (((Env.none.upd 5 (.ro (Rd.slice rdS_api_Dec) true x1)).upd 6 (.lit (.int .i64 ((List.length x1 : Nat) : Int)))).upd 7 (.lit (.int .i64 0)))) (M' := Mem.nil) [] hnp ⟨rfl, trivial, by decide, rfl, trivial⟩ (LeE.u (LeE.u (LeE.u (LeE.none rfl rfl))))) ?_
 obtain ⟨y1, H1, H⟩ := bnd H
 refine WP.monoW (Q := fun x E M => match (generalizing := false) y1 with | (Sum.inl _) => x = .ret ∧ E = (Env.none.upd 2 (.lit (.bool false))) ∧ M = Mem.nil | (Sum.inr _) => x = .exit 0 ∧ E = Env.none ∧ M = Mem.nil) ?_ ?_
 · refine WP.loop (β := Int) (fun n b => g_dec_ranged_l0 k x1 n b = some y1) (fun b => (((Env.none.upd 5 (.ro (Rd.slice rdS_api_Dec) true x1)).upd 6 (.lit (.int .i64 ((List.length x1 : Nat) : Int)))).upd 7 (.lit (.int .i64 b)))) (fun b => Mem.nil) k 0 H1 rfl rfl ?_
   rintro n x3 H
   obtain _ | n := n
   · exact nf rfl H
   rw [g_dec_ranged_l0.eq_2] at H
   show WP _ _ _ _ (((Env.none.upd 5 (.ro (Rd.slice rdS_api_Dec) true x1)).upd 6 (.lit (.int .i64 ((List.length x1 : Nat) : Int)))).upd 7 (.lit (.int .i64 x3))) Mem.nil _
   refine WP.sr ?_
   obtain ⟨x4, h1, H⟩ := bnd H
   refine WPL.qq (q_nm (q_lss rfl rfl) (nm_bool h1)) ?_
   refine WPL.nx ?_
   refine WP.seq ?_
   refine WP.cond (t := x4) rfl (fun hb1 => ?_) (fun hb1 => ?_)
   · replace H := cnt hb1 H
     refine WP.skipW ?_
     refine W.now ?_
     refine Then.n ?_
     refine WP.seq ?_
     refine WP.block ?_
     refine WP.sr ?_
     obtain ⟨x5, h2, H⟩ := bnd H
     refine WPL.qq (q_index_ro sl130 rfl rfl rfl h2) ?_
     refine WPL.qq (q_load_roag ag23 rfl rfl S_api_Dec.sp) ?_
     refine WPL.d (d_alloc ze23 rfl) rfl ?_
     refine WPL.s (s_store sz23 rfl rfl rfl rfl rfl) ?_
     refine WPL.nx ?_
     refine WP.seq ?_
     obtain ⟨x6, H2, H⟩ := bnd H
     refine WP.monoW (Q := fun x E M => x = .normal ∧ E = ((((Env.none.upd 5 (.ro (Rd.slice rdS_api_Dec) true x1)).upd 6 (.lit (.int .i64 ((List.length x1 : Nat) : Int)))).upd 7 (.lit (.int .i64 x3))).upd 18 (.lit (.bool x6))) ∧ M = Mem.nil) ?_ ?_
     · clear H
       have H := H2
       clear H2
       refine WP.region ?_
       refine WPL.qq (q_fieldAddr fi23_1 rfl rfl) ?_
       refine WPL.qq (q_load sc3 rfl rfl rfl) ?_
       refine WPL.qq (q_lss rfl rfl) ?_
       refine WPL.qq (q_mv (v := .lit (.bool _)) rfl) ?_
       refine WPL.split (t := 14) (b := (decide (x5.fE < (-18)))) rfl (fun hb2 => ?_) (fun hb2 => ?_)
       · replace H := cnt hb2 H
         refine WPL.sg true rfl (lb hb2) ?_
         refine WPL.sg true rfl (lb hb2) ?_
         refine WPL.sg true rfl (lb hb2) ?_
         refine WPL.qq (q_pickT (v := .lit (.bool _)) (lb hb2) rfl) ?_
         refine WPL.nilW ?_
         have q0 := j1 H
         subst q0
         exact W.wk [] hnp r3 ⟨rfl, trivial, by decide, rfl, trivial⟩ (LeE.u (LeE.u (LeE.u (LeE.u (LeE.none rfl rfl))))) rfl
       replace H := cnf hb2 H
       refine WPL.gq rfl (lb hb2) (q_fieldAddr fi23_1 rfl rfl) ?_
       refine WPL.gq rfl (lb hb2) (q_load sc3 rfl rfl rfl) ?_
       refine WPL.gq rfl (lb hb2) (q_gtr rfl rfl) ?_
       refine WPL.qq (q_pickF (v := .lit (.bool _)) (lb hb2) rfl) ?_
       refine WPL.nilW ?_
       have q0 := j1 H
       subst q0
       exact W.wk [] hnp r3 ⟨rfl, trivial, by decide, rfl, trivial⟩ (LeE.u (LeE.u (LeE.u (LeE.u (LeE.none rfl rfl))))) rfl
     rintro _ _ _ ⟨rfl, rfl, rfl⟩
     refine W.now ?_
     refine Then.n ?_
     refine WP.cond (t := x6) rfl (fun hb3 => ?_) (fun hb3 => ?_)
     · replace H := cnt hb3 H
       refine WP.sr ?_
       refine WPL.qq (q_as (v := .lit (.bool _)) rfl) ?_
       refine WPL.nx ?_
       refine WP.retW ?_
       have q0 := j1 H
       subst q0
       exact W.wk [] hnp (InBlock.r (Then.r (Then.r r3))) ⟨rfl, trivial, by decide, rfl, trivial⟩ (LeE.u (LeE.none rfl rfl)) rfl
     replace H := cnf hb3 H
     refine WP.skipW ?_
     refine W.now ?_
     refine InBlock.n ?_
     refine Then.n ?_
     refine WP.region ?_
     refine WPL.qq (q_add rfl rfl) ?_
     refine WPL.qq (q_mv (v := .lit (.int _ _)) rfl) ?_
     refine WPL.nilW ?_
     exact W.wk [] hnp (Then.n ⟨n, (IntKind.wrap .i64 (x3 + 1)), Nat.lt_succ_self n, H, rfl, rfl⟩) ⟨rfl, trivial, by decide, rfl, trivial⟩ (LeE.u (LeE.u (LeE.u (LeE.none rfl rfl)))) rfl
   replace H := cnf hb1 H
   refine WP.exitW ?_
   have q0 := j1 H
   subst q0
   exact W.wk [] hnp (Then.x (Then.x r3)) ⟨rfl, trivial, by decide, rfl, trivial⟩ (LeE.none rfl rfl) rfl
 rcases y1 with _ | _
 · rintro _ _ _ ⟨rfl, rfl, rfl⟩
   have q0 := j1 H
   subst q0
   exact W.now (InBlock.r (Then.r (BodyR.mkR trivial rfl [] ⟨rfl, rfl⟩ ⟨rfl, trivial, by decide, rfl, trivial⟩ rfl rfl)))
 rintro _ _ _ ⟨rfl, rfl, rfl⟩
 refine W.now ?_
 refine InBlock.x0 ?_
 refine Then.n ?_
 refine WP.sr ?_
 refine WPL.qq (q_as (v := .lit (.bool _)) rfl) ?_
 refine WPL.nx ?_
 refine WP.retW ?_
 have q0 := j1 H
 subst q0
 exact W.now (BodyR.mkR trivial rfl [] ⟨rfl, rfl⟩ ⟨rfl, trivial, by decide, rfl, trivial⟩ rfl rfl)
theorem s_dec_Right (k : Nat) (x1 : Int) (x2 : Int) (x3 : Bool) (H : g_dec_Right k x1 x2 = some x3) : Go.Q.Spec Tryz.prog 45 0 [.agg [.lit (.int .i64 x1), .lit (.int .i64 x2)]] Mem.nil (fun o M => o = .ret (.lit (.bool x3)) ∧ M = Mem.nil) := by
 unfold g_dec_Right at H
 refine Go.Q.Spec.of_bodyR (az := []) (rs := [.tmp 2]) (nt := 23) Tryz.func45 rfl rfl (by intro t T h; simp at h) rfl rfl fun cx hnp => ?_
 refine WP.sr ?_
 refine WPL.d (d_box rfl rfl) rfl ?_
 refine WPL.qq (q_as (v := .lit (.bool _)) rfl) ?_
 refine WPL.nx ?_
 refine WP.sr ?_
 refine WPL.qq (q_load_ag ag23 rfl rfl (Nat.le_of_ble_eq_true rfl)) ?_
 obtain ⟨x4, h1, H⟩ := bnd H
 refine WPL.c (runs_call (s := []) (t := [1]) (N := 2) (bor := []) fn81 rfl (s_dec_of k x1 x2 x4 h1) ⟨rfl, trivial, by decide, rfl, trivial⟩ rfl trivial (.ren rfl rfl .nil) rfl BB1 rfl) rfl ?_
 obtain ⟨⟨x5, x6, x7⟩, h2, H⟩ := bnd H
 refine WPL.c (runs_call (s := []) (t := [2]) (N := 3) (bor := []) fn82 rfl (s_dec_num_tell k (decide (x1 < 0)) 0 x4 x2 x5 x6 x7 h2) ⟨rfl, trivial, by decide, rfl, trivial⟩ rfl trivial (.ren rfl rfl .nil) rfl BB1 rfl) rfl ?_
 refine WPL.qq (q_mv (v := .tup _) rfl) ?_
 refine WPL.qq (q_extract rfl rfl) ?_
 refine WPL.qq (q_extract rfl rfl) ?_
 refine WPL.d (d_alloc ze23 rfl) rfl ?_
 refine WPL.s (s_store sz23 rfl rfl rfl rfl rfl) ?_
 refine WPL.qq (q_as (v := .lit (.int _ _)) rfl) ?_
 refine WPL.nx ?_
 refine WP.seq ?_
 obtain ⟨x8, H1, H⟩ := bnd H
 refine WP.monoW (Q := fun x E M => x = .normal ∧ E = (Env.none.upd 2 (.lit (.bool x8))) ∧ M = Mem.nil) ?_ ?_
 · clear H
   have H := H1
   clear H1
   refine WP.region ?_
   refine WPL.qq (q_load_ag ag23 rfl rfl (Nat.le_of_ble_eq_true rfl)) ?_
   refine WPL.d (d_buildSlice (ds := ([(⟨x1, x2⟩ : S_api_Dec)] : List S_api_Dec)) (R := rdS_api_Dec) li130 rfl rfl rfl rfl rfl (JoinRows.cons (l := [.lit (.int .i64 x1), .lit (.int .i64 x2)]) (Joins.via (Joins.cons Joins.sc (Joins.cons Joins.sc Joins.unit))) rfl JoinRows.nil) rfl rfl) rfl ?_
   obtain ⟨x9, h3, H⟩ := bnd H
   refine WPL.c (runs_call (s := []) (t := []) (N := 5) (bor := [4]) fn83 rfl (s_dec_ranged k ([(⟨x1, x2⟩ : S_api_Dec)] : List S_api_Dec) x9 h3) ⟨rfl, trivial, by decide, rfl, trivial⟩ rfl ⟨trivial, rfl, rfl, trivial⟩ (.row rfl rfl .nil) rfl trivial rfl) rfl ?_
   refine WPL.qq (q_mv (v := .lit (.bool _)) rfl) ?_
   refine WPL.split (t := 14) (b := x9) rfl (fun hb1 => ?_) (fun hb1 => ?_)
   · replace H := cnt hb1 H
     refine WPL.gq rfl (lb hb1) (q_mv (v := .lit (.int _ _)) rfl) ?_
     refine WPL.gq rfl (lb hb1) (q_eql rfl rfl) ?_
     refine WPL.qq (q_pickT (v := .lit (.bool _)) (lb hb1) rfl) ?_
     refine WPL.qq (q_mv (v := .lit (.bool _)) rfl) ?_
     refine WPL.split (t := 18) (b := (decide (x5 = 0))) rfl (fun hb2 => ?_) (fun hb2 => ?_)
     · replace H := cnt hb2 H
       refine WPL.gq rfl (lb hb2) (q_load_ag ag23 rfl rfl (Nat.le_of_ble_eq_true rfl)) ?_
       refine WPL.gq rfl (lb hb2) (q_load_ag ag23 rfl rfl (Nat.le_of_ble_eq_true rfl)) ?_
       obtain ⟨x10, h4, H⟩ := bnd H
       refine WPL.gq rfl (lb hb2) (q_nm (q_eqlAg (xs := [(.int .i64 x6), (.int .i64 x7)]) (ys := [(.int .i64 x1), (.int .i64 x2)]) (n := 9) rfl eg23 rfl rfl eq23) (nm_bool h4)) ?_
       refine WPL.qq (q_pickT (v := .lit (.bool _)) (lb hb2) rfl) ?_
       refine WPL.qq (q_as (v := .lit (.bool _)) rfl) ?_
       refine WPL.nilW ?_
       have q0 := j1 H
       subst q0
       exact W.wk [] hnp r3 ⟨rfl, trivial, by decide, rfl, trivial⟩ (LeE.u (LeE.none rfl rfl)) rfl
     replace H := cnf hb2 H
     refine WPL.sg false rfl (lb hb2) ?_
     refine WPL.sg false rfl (lb hb2) ?_
     refine WPL.sg false rfl (lb hb2) ?_
     refine WPL.qq (q_pickF (v := .lit (.bool _)) (lb hb2) rfl) ?_
     refine WPL.qq (q_as (v := .lit (.bool _)) rfl) ?_
     refine WPL.nilW ?_
     have q0 := j1 H
     subst q0
     exact W.wk [] hnp r3 ⟨rfl, trivial, by decide, rfl, trivial⟩ (LeE.u (LeE.none rfl rfl)) rfl
   replace H := cnf hb1 H
   refine WPL.sg false rfl (lb hb1) ?_
   refine WPL.sg false rfl (lb hb1) ?_
   refine WPL.qq (q_pickF (v := .lit (.bool _)) (lb hb1) rfl) ?_
   refine WPL.qq (q_mv (v := .lit (.bool _)) rfl) ?_
   refine WPL.sg false rfl rfl ?_
   refine WPL.sg false rfl rfl ?_
   refine WPL.sg false rfl rfl ?_
   refine WPL.qq (q_pickF (v := .lit (.bool _)) rfl rfl) ?_
   refine WPL.qq (q_as (v := .lit (.bool _)) rfl) ?_
   refine WPL.nilW ?_
   have q0 := j1 H
   subst q0
   exact W.wk [] hnp r3 ⟨rfl, trivial, by decide, rfl, trivial⟩ (LeE.u (LeE.none rfl rfl)) rfl
 rintro _ _ _ ⟨rfl, rfl, rfl⟩
 refine W.now ?_
 refine Then.n ?_
 refine WP.retW ?_
 have q0 := j1 H
 subst q0
 exact W.now (BodyR.mkR trivial rfl [] ⟨rfl, rfl⟩ ⟨rfl, trivial, by decide, rfl, trivial⟩ rfl rfl)
theorem s_val_Of (k : Nat) (x1 : Int) (x2 : Int) (x3 : Int) (x4 : Int) (x5 : Int) (x6 : Int) (x7 : Int) (H : g_val_Of k x1 x2 x3 = some (x4, x5, x6, x7)) : Go.Q.Spec Tryz.prog 12 0 [.agg [.lit (.int .i64 x1), .lit (.int .i64 x2)], .lit (.int .i64 x3)] Mem.nil (fun o M => o = .ret (.agg [.lit (.int .i64 x4), .lit (.int .i64 x5), .lit (.int .i64 x6), .lit (.string (ByteArray.mk #[])), .lit (.bool false), .lit (.int .i64 x7)]) ∧ M = (Mem.nil.push (.cells 29 [.lit (.int .i64 x4), .lit (.int .i64 x5), .lit (.int .i64 x6), .lit (.string (ByteArray.mk #[])), .lit (.bool false), .lit (.int .i64 x7)]))) := by
 unfold g_val_Of at H
 refine Go.Q.Spec.of_bodyR (az := [(29, 6)]) (rs := [.cell 4 29]) (nt := 20) Tryz.func12 rfl rfl (by intro t T h; simp at h; rcases h with ⟨rfl, rfl⟩ <;> first | exact ag29) rfl rfl fun cx hnp => ?_
 refine WP.sr ?_
 refine WPL.d (d_box rfl rfl) rfl ?_
 refine WPL.d (d_alloc ze29 rfl) rfl ?_
 refine WPL.nx ?_
 refine WP.seq ?_
 refine WP.block ?_
 refine WP.sr ?_
 refine WPL.qq (q_mv (v := .lit (.int _ _)) rfl) ?_
 refine WPL.qq (q_eql rfl rfl) ?_
 refine WPL.qq (q_as (v := .lit (.bool _)) rfl) ?_
 refine WPL.nx ?_
 refine WP.cond (t := (decide (x3 = 31))) rfl (fun hb1 => ?_) (fun hb1 => ?_)
 · replace H := cnt hb1 H
   refine WP.sr ?_
   obtain ⟨x8, h1, H⟩ := bnd H
   refine WPL.c (runs_call (s := []) (t := [2]) (N := 3) (bor := []) fn16 rfl (s_val_Err k 1 x8 h1) ⟨rfl, trivial, by decide, rfl, trivial⟩ rfl trivial (.ren rfl rfl .nil) rfl BB1 rfl) rfl ?_
   refine WPL.s (s_store sz29 rfl rfl rfl rfl rfl) ?_
   refine WPL.nx ?_
   refine WP.retW ?_
   obtain ⟨rfl, rfl, rfl, rfl⟩ := j4 H
   exact W.now (InBlock.r (Then.r (BodyR.mkR trivial rfl [1] ⟨rfl, rfl⟩ ⟨rfl, AA1, by decide, rfl, trivial⟩ rfl rfl)))
 replace H := cnf hb1 H
 refine WP.seq ?_
 obtain ⟨x9, H1, H⟩ := bnd H
 refine WP.monoW (Q := fun x E M => x = .normal ∧ E = (((Env.none.upd 2 (.ptr 0 0)).upd 4 (.ptr 1 0)).upd 9 (.lit (.bool x9))) ∧ M = ((Mem.nil.push (.cells 23 [.lit (.int .i64 x1), .lit (.int .i64 x2)])).push (.cells 29 [.lit (.int .i64 0), .lit (.int .i64 0), .lit (.int .i64 0), .lit (.string (ByteArray.mk #[])), .lit (.bool false), .lit (.int .i64 0)]))) ?_ ?_
 · clear H
   have H := H1
   clear H1
   refine WP.region ?_
   refine WPL.qq (q_mv (v := .lit (.int _ _)) rfl) ?_
   refine WPL.qq (q_neq rfl rfl) ?_
   refine WPL.qq (q_mv (v := .lit (.bool _)) rfl) ?_
   refine WPL.split (t := 12) (b := (!decide (x3 = 0))) rfl (fun hb2 => ?_) (fun hb2 => ?_)
   · replace H := cnt hb2 H
     refine WPL.sg true rfl (lb hb2) ?_
     refine WPL.sg true rfl (lb hb2) ?_
     refine WPL.sg true rfl (lb hb2) ?_
     refine WPL.qq (q_pickT (v := .lit (.bool _)) (lb hb2) rfl) ?_
     refine WPL.qq (q_as (v := .lit (.bool _)) rfl) ?_
     refine WPL.nilW ?_
     have q0 := j1 H
     subst q0
     exact W.wk [0, 1] hnp r3 ⟨rfl, AA2, by decide, rfl, trivial⟩ (LeE.u (LeE.u (LeE.u (LeE.none rfl rfl)))) rfl
   replace H := cnf hb2 H
   refine WPL.gq rfl (lb hb2) (q_load_ag ag23 rfl rfl (Nat.le_of_ble_eq_true rfl)) ?_
   obtain ⟨x10, h2, H⟩ := bnd H
   refine WPL.cg rfl rfl (lb hb2) (runs_call (s := []) (t := []) (N := 2) (bor := []) fn45 rfl (s_dec_Right k x1 x2 x10 h2) ⟨rfl, trivial, by decide, rfl, trivial⟩ rfl trivial (.ren rfl rfl .nil) rfl trivial rfl) rfl ?_
   refine WPL.gq rfl (lb hb2) (q_not rfl) ?_
   refine WPL.qq (q_pickF (v := .lit (.bool _)) (lb hb2) rfl) ?_
   refine WPL.qq (q_as (v := .lit (.bool _)) rfl) ?_
   refine WPL.nilW ?_
   have q0 := j1 H
   subst q0
   exact W.wk [0, 1] hnp r3 ⟨rfl, AA2, by decide, rfl, trivial⟩ (LeE.u (LeE.u (LeE.u (LeE.none rfl rfl)))) rfl
 rintro _ _ _ ⟨rfl, rfl, rfl⟩
 refine W.now ?_
 refine Then.n ?_
 refine WP.cond (t := x9) rfl (fun hb3 => ?_) (fun hb3 => ?_)
 · replace H := cnt hb3 H
   refine WP.sr ?_
   obtain ⟨x11, h3, H⟩ := bnd H
   refine WPL.c (runs_call (s := []) (t := [2]) (N := 3) (bor := []) fn16 rfl (s_val_Err k 5 x11 h3) ⟨rfl, trivial, by decide, rfl, trivial⟩ rfl trivial (.ren rfl rfl .nil) rfl BB1 rfl) rfl ?_
   refine WPL.s (s_store sz29 rfl rfl rfl rfl rfl) ?_
   refine WPL.nx ?_
   refine WP.retW ?_
   obtain ⟨rfl, rfl, rfl, rfl⟩ := j4 H
   exact W.now (InBlock.r (Then.r (BodyR.mkR trivial rfl [1] ⟨rfl, rfl⟩ ⟨rfl, AA1, by decide, rfl, trivial⟩ rfl rfl)))
 replace H := cnf hb3 H
 refine WP.skipW ?_
 refine W.now ?_
 refine InBlock.n ?_
 refine Then.n ?_
 refine WP.sr ?_
 refine WPL.qq (q_load_ag ag23 rfl rfl (Nat.le_of_ble_eq_true rfl)) ?_
 refine WPL.qq (q_build bu29 rfl) ?_
 refine WPL.s (s_store sz29 rfl rfl rfl rfl rfl) ?_
 refine WPL.nx ?_
 refine WP.retW ?_
 obtain ⟨rfl, rfl, rfl, rfl⟩ := j4 H
 exact W.now (BodyR.mkR trivial rfl [1] ⟨rfl, rfl⟩ ⟨rfl, AA1, by decide, rfl, trivial⟩ rfl rfl)
end Go.Proofs.YthpcgknknpjpdaaGreatDoor.W
namespace Go.Proofs.YthpcgknknpjpdaaGreatDoor.W
open Go Go.Q Go.Proofs
set_option linter.unusedVariables false
set_option linter.unusedSimpArgs false
set_option maxRecDepth 100000
set_option maxHeartbeats 4000000
theorem s_u8_word_string (k : Nat) (x1 : ByteArray) (x2 : Int) (H : g_u8_word_string k x1 = some x2) : Go.Q.Spec Tryz.prog 135 0 [.lit (.string x1)] Mem.nil (fun o M => o = .ret (.lit (.int .u64 x2)) ∧ M = Mem.nil) := by
 unfold g_u8_word_string at H
 refine Go.Q.Spec.of_bodyR (az := []) (rs := [.tmp 2]) (nt := 59) Tryz.func135 rfl rfl (by intro t T h; simp at h) rfl rfl fun cx hnp => ?_
 refine WP.sr ?_
 refine WPL.qq (q_as (v := .lit (.int _ _)) rfl) ?_
 refine WPL.nx ?_
 refine WP.seq ?_
 refine WP.condF rfl ?_
 refine WP.skipW ?_
 refine W.now ?_
 refine Then.n ?_
 refine WP.seq ?_
 refine WP.regionD' 39 [] [] mixed rfl ?_
 refine WPD.tT 0 rfl (q_mv (v := .lit (.string _)) rfl) ?_
 obtain ⟨x3, h1, H⟩ := bnd H
 refine WPD.tT 1 rfl (q_index_str Tryz.underlying9 rfl rfl h1) ?_
 refine WPD.tT 2 rfl (q_conv Tryz.underlying5 Tryz.underlying67 rfl) ?_
 refine WPD.tT 3 rfl (q_mv (v := .lit (.string _)) rfl) ?_
 obtain ⟨x4, h2, H⟩ := bnd H
 refine WPD.tT 4 rfl (q_index_str Tryz.underlying9 rfl rfl h2) ?_
 refine WPD.tT 5 rfl (q_conv Tryz.underlying5 Tryz.underlying67 rfl) ?_
 refine WPD.tT 6 rfl (q_shl rfl rfl rfl) ?_
 obtain ⟨x5, h3, H⟩ := bnd H
 refine WPD.tT 7 rfl (q_nm (q_or rfl rfl) (nm_int h3)) ?_
 refine WPD.tT 8 rfl (q_mv (v := .lit (.string _)) rfl) ?_
 obtain ⟨x6, h4, H⟩ := bnd H
 refine WPD.tT 9 rfl (q_index_str Tryz.underlying9 rfl rfl h4) ?_
 refine WPD.tT 10 rfl (q_conv Tryz.underlying5 Tryz.underlying67 rfl) ?_
 obtain ⟨x7, h5, H⟩ := bnd H
 refine WPD.tT 11 rfl (q_nm (q_shl rfl rfl rfl) (nm_int h5)) ?_
 refine WPD.tT 12 rfl (q_or rfl rfl) ?_
 refine WPD.tT 13 rfl (q_mv (v := .lit (.string _)) rfl) ?_
 obtain ⟨x8, h6, H⟩ := bnd H
 refine WPD.tT 14 rfl (q_index_str Tryz.underlying9 rfl rfl h6) ?_
 refine WPD.tT 15 rfl (q_conv Tryz.underlying5 Tryz.underlying67 rfl) ?_
 obtain ⟨x9, h7, H⟩ := bnd H
 refine WPD.tT 16 rfl (q_nm (q_shl rfl rfl rfl) (nm_int h7)) ?_
 obtain ⟨x10, h8, H⟩ := bnd H
 refine WPD.tT 17 rfl (q_nm (q_or rfl rfl) (nm_int h8)) ?_
 refine WPD.tT 18 rfl (q_mv (v := .lit (.string _)) rfl) ?_
 obtain ⟨x11, h9, H⟩ := bnd H
 refine WPD.tT 19 rfl (q_index_str Tryz.underlying9 rfl rfl h9) ?_
 refine WPD.tT 20 rfl (q_conv Tryz.underlying5 Tryz.underlying67 rfl) ?_
 obtain ⟨x12, h10, H⟩ := bnd H
 refine WPD.tT 21 rfl (q_nm (q_shl rfl rfl rfl) (nm_int h10)) ?_
 refine WPD.tT 22 rfl (q_or rfl rfl) ?_
 refine WPD.tT 23 rfl (q_mv (v := .lit (.string _)) rfl) ?_
 obtain ⟨x13, h11, H⟩ := bnd H
 refine WPD.tT 24 rfl (q_index_str Tryz.underlying9 rfl rfl h11) ?_
 refine WPD.tT 25 rfl (q_conv Tryz.underlying5 Tryz.underlying67 rfl) ?_
 obtain ⟨x14, h12, H⟩ := bnd H
 refine WPD.tT 26 rfl (q_nm (q_shl rfl rfl rfl) (nm_int h12)) ?_
 obtain ⟨x15, h13, H⟩ := bnd H
 refine WPD.tT 27 rfl (q_nm (q_or rfl rfl) (nm_int h13)) ?_
 refine WPD.tT 28 rfl (q_mv (v := .lit (.string _)) rfl) ?_
 obtain ⟨x16, h14, H⟩ := bnd H
 refine WPD.tT 29 rfl (q_index_str Tryz.underlying9 rfl rfl h14) ?_
 refine WPD.tT 30 rfl (q_conv Tryz.underlying5 Tryz.underlying67 rfl) ?_
 obtain ⟨x17, h15, H⟩ := bnd H
 refine WPD.tT 31 rfl (q_nm (q_shl rfl rfl rfl) (nm_int h15)) ?_
 refine WPD.tT 32 rfl (q_or rfl rfl) ?_
 refine WPD.tT 33 rfl (q_mv (v := .lit (.string _)) rfl) ?_
 obtain ⟨x18, h16, H⟩ := bnd H
 refine WPD.tT 34 rfl (q_index_str Tryz.underlying9 rfl rfl h16) ?_
 refine WPD.tT 35 rfl (q_conv Tryz.underlying5 Tryz.underlying67 rfl) ?_
 obtain ⟨x19, h17, H⟩ := bnd H
 refine WPD.tT 36 rfl (q_nm (q_shl rfl rfl rfl) (nm_int h17)) ?_
 obtain ⟨x20, h18, H⟩ := bnd H
 refine WPD.tT 37 rfl (q_nm (q_or rfl rfl) (nm_int h18)) ?_
 refine WPD.tT 38 rfl (q_as (v := .lit (.int _ _)) rfl) ?_
 refine WPD.doneW (by kernel_rfl) ?_
 refine W.now ?_
 refine Then.n ?_
 refine WP.retW ?_
 have q0 := j1 H
 subst q0
 exact W.now (BodyR.mkR trivial rfl [] ⟨rfl, rfl⟩ ⟨rfl, trivial, by decide, rfl, trivial⟩ rfl rfl)
theorem s_u8_ValidString (k : Nat) (x1 : ByteArray) (x2 : Bool) (H : g_u8_ValidString k x1 = some x2) : Go.Q.Spec Tryz.prog 86 0 [.lit (.string x1)] Mem.nil (fun o M => o = .ret (.lit (.bool x2)) ∧ M = Mem.nil) := by
 unfold g_u8_ValidString at H
 refine Go.Q.Spec.of_bodyR (az := []) (rs := [.tmp 2]) (nt := 169) Tryz.func86 rfl rfl (by intro t T h; simp at h) rfl rfl fun cx hnp => ?_
 refine WP.sr ?_
 refine WPL.qq (q_as (v := .lit (.bool _)) rfl) ?_
 refine WPL.nx ?_
 refine WP.seq ?_
 refine WP.block ?_
 refine WP.cv (Cv.weak (E' := (Env.none.upd 0 (.lit (.string x1)))) (M' := Mem.nil) [] hnp ⟨rfl, trivial, by decide, rfl, trivial⟩ (LeE.u (LeE.none rfl rfl))) ?_
 obtain ⟨y1, H1, H⟩ := bnd H
 refine WP.monoW (Q := fun x E M => match (generalizing := false) y1 with | (Sum.inl _) => x = .ret ∧ E = (Env.none.upd 2 (.lit (.bool false))) ∧ M = Mem.nil | (Sum.inr _) => x = .exit 0 ∧ E = Env.none ∧ M = Mem.nil) ?_ ?_
 · refine WP.loop (β := ByteArray) (fun n b => g_u8_ValidString_l0 k n b = some y1) (fun b => (Env.none.upd 0 (.lit (.string b)))) (fun b => Mem.nil) k x1 H1 rfl rfl ?_
   rintro n x3 H
   obtain _ | n := n
   · exact nf rfl H
   rw [g_u8_ValidString_l0.eq_2] at H
   show WP _ _ _ _ (Env.none.upd 0 (.lit (.string x3))) Mem.nil _
   refine WP.seq ?_
   refine WP.sr ?_
   refine WPL.qq (q_mv (v := .lit (.string _)) rfl) ?_
   refine WPL.qq (q_len_str Tryz.underlying9 rfl) ?_
   obtain ⟨x4, h1, H⟩ := bnd H
   refine WPL.qq (q_nm (q_gtr rfl rfl) (nm_bool h1)) ?_
   refine WPL.nx ?_
   refine WP.cond (t := x4) rfl (fun hb1 => ?_) (fun hb1 => ?_)
   · replace H := cnt hb1 H
     refine WP.skipW ?_
     refine W.now ?_
     refine Then.n ?_
     refine WP.block ?_
     refine WP.sr ?_
     refine WPL.qq (q_mv (v := .lit (.string _)) rfl) ?_
     obtain ⟨x5, h2, H⟩ := bnd H
     refine WPL.qq (q_index_str Tryz.underlying9 rfl rfl h2) ?_
     refine WPL.qq (q_as (v := .lit (.int _ _)) rfl) ?_
     refine WPL.nx ?_
     refine WP.seq ?_
     refine WP.sr ?_
     refine WPL.qq (q_mv (v := .lit (.int _ _)) rfl) ?_
     refine WPL.qq (q_lss rfl rfl) ?_
     refine WPL.nx ?_
     refine WP.cond (t := (decide (x5 < 128))) rfl (fun hb2 => ?_) (fun hb2 => ?_)
     · replace H := cnt hb2 H
       refine WP.sr ?_
       refine WPL.qq (q_mv (v := .lit (.string _)) rfl) ?_
       obtain ⟨h3, H⟩ := grd H
       obtain ⟨x6, h4, H⟩ := bnd H
       refine WPL.qq (q_nm (q_slice_str (i := 1) (j := ((ByteArray.size x3 : Nat) : Int)) Tryz.underlying9 rfl ⟨_, rfl⟩ rfl h3) (nm_str h4)) ?_
       refine WPL.qq (q_as (v := .lit (.string _)) rfl) ?_
       refine WPL.nx ?_
       refine WP.seq ?_
       obtain ⟨x7, H2, H⟩ := bnd H
       refine WP.monoW (Q := fun x E M => x = .normal ∧ E = (Env.none.upd 0 (.lit (.string x7))) ∧ M = Mem.nil) ?_ ?_
       · clear H
         have H := H2
         clear H2
         refine WP.seq ?_
         obtain ⟨x8, H3, H⟩ := bnd H
         refine WP.monoW (Q := fun x E M => x = .normal ∧ E = ((Env.none.upd 0 (.lit (.string x6))).upd 24 (.lit (.bool x8))) ∧ M = Mem.nil) ?_ ?_
         · clear H
           have H := H3
           clear H3
           refine WP.region ?_
           refine WPL.qq (q_mv (v := .lit (.string _)) rfl) ?_
           refine WPL.qq (q_len_str Tryz.underlying9 rfl) ?_
           obtain ⟨x9, h5, H⟩ := bnd H
           refine WPL.qq (q_nm (q_gtr rfl rfl) (nm_bool h5)) ?_
           refine WPL.qq (q_mv (v := .lit (.bool _)) rfl) ?_
           refine WPL.split (t := 19) (b := x9) rfl (fun hb3 => ?_) (fun hb3 => ?_)
           · replace H := cnt hb3 H
             refine WPL.gq rfl (lb hb3) (q_mv (v := .lit (.string _)) rfl) ?_
             obtain ⟨x10, h6, H⟩ := bnd H
             refine WPL.cg rfl rfl (lb hb3) (runs_call (s := []) (t := []) (N := 0) (bor := []) fn135 rfl (s_u8_word_string k x6 x10 h6) ⟨rfl, trivial, by decide, rfl, trivial⟩ rfl trivial (.ren rfl rfl .nil) rfl trivial rfl) rfl ?_
             obtain ⟨x11, h7, H⟩ := bnd H
             refine WPL.gq rfl (lb hb3) (q_nm (q_and rfl rfl) (nm_int h7)) ?_
             refine WPL.gq rfl (lb hb3) (q_eql rfl rfl) ?_
             refine WPL.qq (q_pickT (v := .lit (.bool _)) (lb hb3) rfl) ?_
             refine WPL.nilW ?_
             have q0 := j1 H
             subst q0
             exact W.wk [] hnp r3 ⟨rfl, trivial, by decide, rfl, trivial⟩ (LeE.u (LeE.u (LeE.none rfl rfl))) rfl
           replace H := cnf hb3 H
           refine WPL.sg false rfl (lb hb3) ?_
           refine WPL.sg false rfl (lb hb3) ?_
           refine WPL.sg false rfl (lb hb3) ?_
           refine WPL.sg false rfl (lb hb3) ?_
           refine WPL.qq (q_pickF (v := .lit (.bool _)) (lb hb3) rfl) ?_
           refine WPL.nilW ?_
           have q0 := j1 H
           subst q0
           exact W.wk [] hnp r3 ⟨rfl, trivial, by decide, rfl, trivial⟩ (LeE.u (LeE.u (LeE.none rfl rfl))) rfl
         rintro _ _ _ ⟨rfl, rfl, rfl⟩
         refine W.now ?_
         refine Then.n ?_
         refine WP.cond (t := x8) rfl (fun hb4 => ?_) (fun hb4 => ?_)
         · replace H := cnt hb4 H
           refine WP.sr ?_
           refine WPL.qq (q_mv (v := .lit (.string _)) rfl) ?_
           obtain ⟨h8, H⟩ := grd H
           obtain ⟨x12, h9, H⟩ := bnd H
           refine WPL.qq (q_nm (q_slice_str (i := 8) (j := ((ByteArray.size x6 : Nat) : Int)) Tryz.underlying9 rfl ⟨_, rfl⟩ rfl h8) (nm_str h9)) ?_
           refine WPL.qq (q_as (v := .lit (.string _)) rfl) ?_
           refine WPL.nx ?_
           refine WP.seq ?_
           obtain ⟨x13, H4, H⟩ := bnd H
           refine WP.monoW (Q := fun x E M => x = .normal ∧ E = ((Env.none.upd 0 (.lit (.string x12))).upd 39 (.lit (.bool x13))) ∧ M = Mem.nil) ?_ ?_
           · clear H
             have H := H4
             clear H4
             refine WP.regionD' 13 [] [] mixed rfl ?_
             refine WPD.tT 0 rfl (q_mv (v := .lit (.string _)) rfl) ?_
             refine WPD.tT 1 rfl (q_len_str Tryz.underlying9 rfl) ?_
             obtain ⟨x14, h10, H⟩ := bnd H
             refine WPD.tT 2 rfl (q_nm (q_gtr rfl rfl) (nm_bool h10)) ?_
             refine WPD.tT 3 rfl (q_mv (v := .lit (.bool _)) rfl) ?_
             refine WPD.split (t := 30) (b := x14) rfl (fun hb5 => ?_) (fun hb5 => ?_)
             · replace H := cnt hb5 H
               refine WPD.takegT 4 rfl (by kernel_rfl) rfl rfl (lb hb5) (q_mv (v := .lit (.string _)) rfl) rfl ?_
               refine WPD.takegT 6 rfl (by kernel_rfl) rfl rfl (lb hb5) (q_mv (v := .lit (.string _)) rfl) rfl ?_
               obtain ⟨h11, H⟩ := grd H
               obtain ⟨x15, h12, H⟩ := bnd H
               refine WPD.takegT 7 rfl (by kernel_rfl) rfl rfl (lb hb5) (q_nm (q_slice_str (i := 8) (j := ((ByteArray.size x12 : Nat) : Int)) Tryz.underlying9 rfl ⟨_, rfl⟩ rfl h11) (nm_str h12)) rfl ?_
               obtain ⟨x16, h12, H⟩ := bnd H
               refine WPD.effg 5 [] [] rfl (by kernel_rfl) rfl rfl (lb hb5) (runs_call (s := []) (t := []) (N := 0) (bor := []) fn135 rfl (s_u8_word_string k x12 x16 h12) ⟨rfl, trivial, by decide, rfl, trivial⟩ rfl trivial (.ren rfl rfl .nil) rfl trivial rfl) rfl rfl ?_
               obtain ⟨x17, h13, H⟩ := bnd H
               refine WPD.effg 8 [] [] rfl (by kernel_rfl) rfl rfl (lb hb5) (runs_call (s := []) (t := []) (N := 0) (bor := []) fn135 rfl (s_u8_word_string k x15 x17 h13) ⟨rfl, trivial, by decide, rfl, trivial⟩ rfl trivial (.ren rfl rfl .nil) rfl trivial rfl) rfl rfl ?_
               refine WPD.takegT 9 rfl (by kernel_rfl) rfl rfl (lb hb5) (q_or rfl rfl) rfl ?_
               obtain ⟨x18, h14, H⟩ := bnd H
               refine WPD.takegT 10 rfl (by kernel_rfl) rfl rfl (lb hb5) (q_nm (q_and rfl rfl) (nm_int h14)) rfl ?_
               refine WPD.takegT 11 rfl (by kernel_rfl) rfl rfl (lb hb5) (q_eql rfl rfl) rfl ?_
               refine WPD.tT 12 rfl (q_pickT (v := .lit (.bool _)) (lb hb5) rfl) ?_
               refine WPD.doneW (by kernel_rfl) ?_
               have q0 := j1 H
               subst q0
               exact W.wk [] hnp r3 ⟨rfl, trivial, by decide, rfl, trivial⟩ (LeE.u (LeE.u (LeE.none rfl rfl))) rfl
             replace H := cnf hb5 H
             refine WPD.ps false 4 rfl rfl (lb hb5) ?_
             refine WPD.ps false 5 rfl rfl (lb hb5) ?_
             refine WPD.ps false 6 rfl rfl (lb hb5) ?_
             refine WPD.ps false 7 rfl rfl (lb hb5) ?_
             refine WPD.ps false 8 rfl rfl (lb hb5) ?_
             refine WPD.ps false 9 rfl rfl (lb hb5) ?_
             refine WPD.ps false 10 rfl rfl (lb hb5) ?_
             refine WPD.ps false 11 rfl rfl (lb hb5) ?_
             refine WPD.tT 12 rfl (q_pickF (v := .lit (.bool _)) (lb hb5) rfl) ?_
             refine WPD.doneW (by kernel_rfl) ?_
             have q0 := j1 H
             subst q0
             exact W.wk [] hnp r3 ⟨rfl, trivial, by decide, rfl, trivial⟩ (LeE.u (LeE.u (LeE.none rfl rfl))) rfl
           rintro _ _ _ ⟨rfl, rfl, rfl⟩
           refine W.now ?_
           refine Then.n ?_
           refine WP.cond (t := x13) rfl (fun hb6 => ?_) (fun hb6 => ?_)
           · replace H := cnt hb6 H
             refine WP.sr ?_
             refine WPL.qq (q_mv (v := .lit (.string _)) rfl) ?_
             obtain ⟨h15, H⟩ := grd H
             obtain ⟨x19, h16, H⟩ := bnd H
             refine WPL.qq (q_nm (q_slice_str (i := 16) (j := ((ByteArray.size x12 : Nat) : Int)) Tryz.underlying9 rfl ⟨_, rfl⟩ rfl h15) (nm_str h16)) ?_
             refine WPL.qq (q_as (v := .lit (.string _)) rfl) ?_
             refine WPL.nx ?_
             refine WP.block ?_
             refine WP.cv (Cv.weak (E' := (Env.none.upd 0 (.lit (.string x19)))) (M' := Mem.nil) [] hnp ⟨rfl, trivial, by decide, rfl, trivial⟩ (LeE.u (LeE.none rfl rfl))) ?_
             obtain ⟨x20, H5, H⟩ := bnd H
             refine WP.monoW (Q := fun x E M => x = .exit 2 ∧ E = (Env.none.upd 0 (.lit (.string x20))) ∧ M = Mem.nil) ?_ ?_
             · refine WP.loop (β := ByteArray) (fun n b => g_u8_ValidString_l1 k n b = some x20) (fun b => (Env.none.upd 0 (.lit (.string b)))) (fun b => Mem.nil) k x19 H5 rfl rfl ?_
               rintro n x21 H
               obtain _ | n := n
               · exact nf rfl H
               rw [g_u8_ValidString_l1.eq_2] at H
               show WP _ _ _ _ (Env.none.upd 0 (.lit (.string x21))) Mem.nil _
               refine WP.seq ?_
               refine WP.seq ?_
               obtain ⟨x22, H6, H⟩ := bnd H
               refine WP.monoW (Q := fun x E M => x = .normal ∧ E = ((Env.none.upd 0 (.lit (.string x21))).upd 62 (.lit (.bool x22))) ∧ M = Mem.nil) ?_ ?_
               · clear H
                 have H := H6
                 clear H6
                 refine WP.regionD' 21 [] [] mixed rfl ?_
                 refine WPD.tT 0 rfl (q_mv (v := .lit (.string _)) rfl) ?_
                 refine WPD.tT 1 rfl (q_len_str Tryz.underlying9 rfl) ?_
                 obtain ⟨x23, h17, H⟩ := bnd H
                 refine WPD.tT 2 rfl (q_nm (q_gtr rfl rfl) (nm_bool h17)) ?_
                 refine WPD.tT 3 rfl (q_mv (v := .lit (.bool _)) rfl) ?_
                 refine WPD.split (t := 45) (b := x23) rfl (fun hb7 => ?_) (fun hb7 => ?_)
                 · replace H := cnt hb7 H
                   refine WPD.takegT 4 rfl (by kernel_rfl) rfl rfl (lb hb7) (q_mv (v := .lit (.string _)) rfl) rfl ?_
                   refine WPD.takegT 6 rfl (by kernel_rfl) rfl rfl (lb hb7) (q_mv (v := .lit (.string _)) rfl) rfl ?_
                   obtain ⟨h18, H⟩ := grd H
                   obtain ⟨x24, h19, H⟩ := bnd H
                   refine WPD.takegT 7 rfl (by kernel_rfl) rfl rfl (lb hb7) (q_nm (q_slice_str (i := 8) (j := ((ByteArray.size x21 : Nat) : Int)) Tryz.underlying9 rfl ⟨_, rfl⟩ rfl h18) (nm_str h19)) rfl ?_
                   refine WPD.takegT 10 rfl (by kernel_rfl) rfl rfl (lb hb7) (q_mv (v := .lit (.string _)) rfl) rfl ?_
                   obtain ⟨h19, H⟩ := grd H
                   obtain ⟨x25, h20, H⟩ := bnd H
                   refine WPD.takegT 11 rfl (by kernel_rfl) rfl rfl (lb hb7) (q_nm (q_slice_str (i := 16) (j := ((ByteArray.size x21 : Nat) : Int)) Tryz.underlying9 rfl ⟨_, rfl⟩ rfl h19) (nm_str h20)) rfl ?_
                   refine WPD.takegT 13 rfl (by kernel_rfl) rfl rfl (lb hb7) (q_mv (v := .lit (.string _)) rfl) rfl ?_
                   obtain ⟨h20, H⟩ := grd H
                   obtain ⟨x26, h21, H⟩ := bnd H
                   refine WPD.takegT 14 rfl (by kernel_rfl) rfl rfl (lb hb7) (q_nm (q_slice_str (i := 24) (j := ((ByteArray.size x21 : Nat) : Int)) Tryz.underlying9 rfl ⟨_, rfl⟩ rfl h20) (nm_str h21)) rfl ?_
                   obtain ⟨x27, h21, H⟩ := bnd H
                   refine WPD.effg 5 [] [] rfl (by kernel_rfl) rfl rfl (lb hb7) (runs_call (s := []) (t := []) (N := 0) (bor := []) fn135 rfl (s_u8_word_string k x21 x27 h21) ⟨rfl, trivial, by decide, rfl, trivial⟩ rfl trivial (.ren rfl rfl .nil) rfl trivial rfl) rfl rfl ?_
                   obtain ⟨x28, h22, H⟩ := bnd H
                   refine WPD.effg 8 [] [] rfl (by kernel_rfl) rfl rfl (lb hb7) (runs_call (s := []) (t := []) (N := 0) (bor := []) fn135 rfl (s_u8_word_string k x24 x28 h22) ⟨rfl, trivial, by decide, rfl, trivial⟩ rfl trivial (.ren rfl rfl .nil) rfl trivial rfl) rfl rfl ?_
                   refine WPD.takegT 9 rfl (by kernel_rfl) rfl rfl (lb hb7) (q_or rfl rfl) rfl ?_
                   obtain ⟨x29, h23, H⟩ := bnd H
                   refine WPD.effg 12 [] [] rfl (by kernel_rfl) rfl rfl (lb hb7) (runs_call (s := []) (t := []) (N := 0) (bor := []) fn135 rfl (s_u8_word_string k x25 x29 h23) ⟨rfl, trivial, by decide, rfl, trivial⟩ rfl trivial (.ren rfl rfl .nil) rfl trivial rfl) rfl rfl ?_
                   obtain ⟨x30, h24, H⟩ := bnd H
                   refine WPD.effg 15 [] [] rfl (by kernel_rfl) rfl rfl (lb hb7) (runs_call (s := []) (t := []) (N := 0) (bor := []) fn135 rfl (s_u8_word_string k x26 x30 h24) ⟨rfl, trivial, by decide, rfl, trivial⟩ rfl trivial (.ren rfl rfl .nil) rfl trivial rfl) rfl rfl ?_
                   refine WPD.takegT 16 rfl (by kernel_rfl) rfl rfl (lb hb7) (q_or rfl rfl) rfl ?_
                   obtain ⟨x31, h25, H⟩ := bnd H
                   refine WPD.takegT 17 rfl (by kernel_rfl) rfl rfl (lb hb7) (q_nm (q_or rfl rfl) (nm_int h25)) rfl ?_
                   obtain ⟨x32, h26, H⟩ := bnd H
                   refine WPD.takegT 18 rfl (by kernel_rfl) rfl rfl (lb hb7) (q_nm (q_and rfl rfl) (nm_int h26)) rfl ?_
                   refine WPD.takegT 19 rfl (by kernel_rfl) rfl rfl (lb hb7) (q_eql rfl rfl) rfl ?_
                   refine WPD.tT 20 rfl (q_pickT (v := .lit (.bool _)) (lb hb7) rfl) ?_
                   refine WPD.doneW (by kernel_rfl) ?_
                   have q0 := j1 H
                   subst q0
                   exact W.wk [] hnp r3 ⟨rfl, trivial, by decide, rfl, trivial⟩ (LeE.u (LeE.u (LeE.none rfl rfl))) rfl
                 replace H := cnf hb7 H
                 refine WPD.ps false 4 rfl rfl (lb hb7) ?_
                 refine WPD.ps false 5 rfl rfl (lb hb7) ?_
                 refine WPD.ps false 6 rfl rfl (lb hb7) ?_
                 refine WPD.ps false 7 rfl rfl (lb hb7) ?_
                 refine WPD.ps false 8 rfl rfl (lb hb7) ?_
                 refine WPD.ps false 9 rfl rfl (lb hb7) ?_
                 refine WPD.ps false 10 rfl rfl (lb hb7) ?_
                 refine WPD.ps false 11 rfl rfl (lb hb7) ?_
                 refine WPD.ps false 12 rfl rfl (lb hb7) ?_
                 refine WPD.ps false 13 rfl rfl (lb hb7) ?_
                 refine WPD.ps false 14 rfl rfl (lb hb7) ?_
                 refine WPD.ps false 15 rfl rfl (lb hb7) ?_
                 refine WPD.ps false 16 rfl rfl (lb hb7) ?_
                 refine WPD.ps false 17 rfl rfl (lb hb7) ?_
                 refine WPD.ps false 18 rfl rfl (lb hb7) ?_
                 refine WPD.ps false 19 rfl rfl (lb hb7) ?_
                 refine WPD.tT 20 rfl (q_pickF (v := .lit (.bool _)) (lb hb7) rfl) ?_
                 refine WPD.doneW (by kernel_rfl) ?_
                 have q0 := j1 H
                 subst q0
                 exact W.wk [] hnp r3 ⟨rfl, trivial, by decide, rfl, trivial⟩ (LeE.u (LeE.u (LeE.none rfl rfl))) rfl
               rintro _ _ _ ⟨rfl, rfl, rfl⟩
               refine W.now ?_
               refine Then.n ?_
               refine WP.cond (t := x22) rfl (fun hb8 => ?_) (fun hb8 => ?_)
               · replace H := cnt hb8 H
                 refine WP.skipW ?_
                 refine W.now ?_
                 refine Then.n ?_
                 refine WP.block ?_
                 refine WP.region ?_
                 refine WPL.qq (q_mv (v := .lit (.string _)) rfl) ?_
                 obtain ⟨h27, H⟩ := grd H
                 obtain ⟨x33, h28, H⟩ := bnd H
                 refine WPL.qq (q_nm (q_slice_str (i := 32) (j := ((ByteArray.size x21 : Nat) : Int)) Tryz.underlying9 rfl ⟨_, rfl⟩ rfl h27) (nm_str h28)) ?_
                 refine WPL.qq (q_as (v := .lit (.string _)) rfl) ?_
                 refine WPL.nilW ?_
                 exact W.wk [] hnp (InBlock.n (Then.n ⟨n, x33, Nat.lt_succ_self n, H, rfl, rfl⟩)) ⟨rfl, trivial, by decide, rfl, trivial⟩ (LeE.u (LeE.none rfl rfl)) rfl
               replace H := cnf hb8 H
               refine WP.exitW ?_
               have q0 := j1 H
               subst q0
               exact W.wk [] hnp (Then.x (Then.x r3)) ⟨rfl, trivial, by decide, rfl, trivial⟩ (LeE.u (LeE.none rfl rfl)) rfl
             rintro _ _ _ ⟨rfl, rfl, rfl⟩
             have q0 := j1 H
             subst q0
             exact W.wk [] hnp (InBlock.x0 r3) ⟨rfl, trivial, by decide, rfl, trivial⟩ (LeE.u (LeE.none rfl rfl)) rfl
           replace H := cnf hb6 H
           refine WP.skipW ?_
           have q0 := j1 H
           subst q0
           exact W.wk [] hnp r3 ⟨rfl, trivial, by decide, rfl, trivial⟩ (LeE.u (LeE.none rfl rfl)) rfl
         replace H := cnf hb4 H
         refine WP.skipW ?_
         have q0 := j1 H
         subst q0
         exact W.wk [] hnp r3 ⟨rfl, trivial, by decide, rfl, trivial⟩ (LeE.u (LeE.none rfl rfl)) rfl
       rintro _ _ _ ⟨rfl, rfl, rfl⟩
       refine W.now ?_
       refine Then.n ?_
       refine WP.exitW ?_
       exact W.wk [] hnp (Then.x (InBlock.x0 (Then.n ⟨n, x7, Nat.lt_succ_self n, H, rfl, rfl⟩))) ⟨rfl, trivial, by decide, rfl, trivial⟩ (LeE.u (LeE.none rfl rfl)) rfl
     replace H := cnf hb2 H
     refine WP.skipW ?_
     refine W.now ?_
     refine Then.n ?_
     refine WP.sr ?_
     refine WPL.qq (q_mv (v := .lit (.int _ _)) rfl) ?_
     obtain ⟨h29, H⟩ := grd H
     refine WPL.qq (q_indexTab ar133 rfl rfl tb0 rfl h29) ?_
     refine WPL.qq (q_load_sc sc5 rfl) ?_
     refine WPL.qq (q_as (v := .lit (.int _ _)) rfl) ?_
     refine WPL.nx ?_
     refine WP.sr ?_
     refine WPL.qq (q_mv (v := .lit (.int _ _)) rfl) ?_
     obtain ⟨x34, h30, H⟩ := bnd H
     refine WPL.qq (q_nm (q_and rfl rfl) (nm_int h30)) ?_
     refine WPL.qq (q_conv Tryz.underlying5 Tryz.underlying3 rfl) ?_
     refine WPL.qq (q_as (v := .lit (.int _ _)) rfl) ?_
     refine WPL.nx ?_
     refine WP.sr ?_
     refine WPL.qq (q_mv (v := .lit (.int _ _)) rfl) ?_
     obtain ⟨x35, h31, H⟩ := bnd H
     refine WPL.qq (q_nm (q_shr rfl rfl rfl) (nm_int h31)) ?_
     obtain ⟨h31, H⟩ := grd H
     refine WPL.qq (q_indexTab ar136 rfl rfl tb1 rfl h31) ?_
     refine WPL.qq (q_load_roag ag135 rfl rfl S_unicode_utf8_acceptRange.sp) ?_
     refine WPL.d (d_alloc ze135 rfl) rfl ?_
     refine WPL.s (s_store sz135 rfl rfl rfl rfl rfl) ?_
     refine WPL.nx ?_
     refine WP.sr ?_
     refine WPL.qq (q_mv (v := .lit (.int _ _)) rfl) ?_
     refine WPL.nx ?_
     refine WP.block ?_
     refine WP.sr ?_
     obtain ⟨x36, h32, H⟩ := bnd H
     refine WPL.qq (q_nm (q_eql rfl rfl) (nm_bool h32)) ?_
     refine WPL.qq (q_as (v := .lit (.bool _)) rfl) ?_
     refine WPL.nx ?_
     refine WP.cond (t := x36) rfl (fun hb9 => ?_) (fun hb9 => ?_)
     · replace H := cnt hb9 H
       refine WP.seq ?_
       refine WP.seq ?_
       obtain ⟨x37, H7, H⟩ := bnd H
       refine WP.monoW (Q := fun x E M => x = .normal ∧ E = ((Env.none.upd 0 (.lit (.string x3))).upd 94 (.lit (.bool x37))) ∧ M = Mem.nil) ?_ ?_
       · clear H
         have H := H7
         clear H7
         refine WP.regionD' 17 [0] [] mixed rfl ?_
         refine WPD.tT 0 rfl (q_mv (v := .lit (.string _)) rfl) ?_
         refine WPD.tT 1 rfl (q_len_str Tryz.underlying9 rfl) ?_
         obtain ⟨x38, h33, H⟩ := bnd H
         refine WPD.tT 2 rfl (q_nm (q_lss rfl rfl) (nm_bool h33)) ?_
         refine WPD.tT 3 rfl (q_mv (v := .lit (.bool _)) rfl) ?_
         refine WPD.split (t := 81) (b := x38) rfl (fun hb10 => ?_) (fun hb10 => ?_)
         · replace H := cnt hb10 H
           refine WPD.ps true 4 rfl rfl (lb hb10) ?_
           refine WPD.ps true 5 rfl rfl (lb hb10) ?_
           refine WPD.ps true 6 rfl rfl (lb hb10) ?_
           refine WPD.ps true 7 rfl rfl (lb hb10) ?_
           refine WPD.ps true 8 rfl rfl (lb hb10) ?_
           refine WPD.tT 9 rfl (q_pickT (v := .lit (.bool _)) (lb hb10) rfl) ?_
           refine WPD.tT 10 rfl (q_mv (v := .lit (.bool _)) rfl) ?_
           refine WPD.ps true 11 rfl rfl rfl ?_
           refine WPD.ps true 12 rfl rfl rfl ?_
           refine WPD.ps true 13 rfl rfl rfl ?_
           refine WPD.ps true 14 rfl rfl rfl ?_
           refine WPD.ps true 15 rfl rfl rfl ?_
           refine WPD.tT 16 rfl (q_pickT (v := .lit (.bool _)) rfl rfl) ?_
           refine WPD.doneW (by kernel_rfl) ?_
           have q0 := j1 H
           subst q0
           exact W.wk [] hnp r3 ⟨rfl, trivial, by decide, rfl, trivial⟩ (LeE.u (LeE.u (LeE.none rfl rfl))) rfl
         replace H := cnf hb10 H
         refine WPD.takegT 4 rfl (by kernel_rfl) rfl rfl (lb hb10) (q_mv (v := .lit (.string _)) rfl) rfl ?_
         obtain ⟨x39, h34, H⟩ := bnd H
         refine WPD.takegT 5 rfl (by kernel_rfl) rfl rfl (lb hb10) (q_index_str Tryz.underlying9 rfl rfl h34) rfl ?_
         refine WPD.takegT 6 rfl (by kernel_rfl) rfl rfl (lb hb10) (q_fieldAddr fi135_0 rfl rfl) rfl ?_
         refine WPD.takeg 7 rfl (by kernel_rfl) rfl rfl (lb hb10) (q_load sc5 rfl rfl rfl) rfl rfl ?_
         obtain ⟨x40, h35, H⟩ := bnd H
         refine WPD.takegT 8 rfl (by kernel_rfl) rfl rfl (lb hb10) (q_nm (q_lss rfl rfl) (nm_bool h35)) rfl ?_
         refine WPD.tT 9 rfl (q_pickF (v := .lit (.bool _)) (lb hb10) rfl) ?_
         refine WPD.tT 10 rfl (q_mv (v := .lit (.bool _)) rfl) ?_
         refine WPD.split (t := 88) (b := x40) rfl (fun hb11 => ?_) (fun hb11 => ?_)
         · replace H := cnt hb11 H
           refine WPD.ps true 11 rfl rfl (lb hb11) ?_
           refine WPD.ps true 12 rfl rfl (lb hb11) ?_
           refine WPD.ps true 13 rfl rfl (lb hb11) ?_
           refine WPD.ps true 14 rfl rfl (lb hb11) ?_
           refine WPD.ps true 15 rfl rfl (lb hb11) ?_
           refine WPD.tT 16 rfl (q_pickT (v := .lit (.bool _)) (lb hb11) rfl) ?_
           refine WPD.doneW (by kernel_rfl) ?_
           have q0 := j1 H
           subst q0
           exact W.wk [] hnp r3 ⟨rfl, trivial, by decide, rfl, trivial⟩ (LeE.u (LeE.u (LeE.none rfl rfl))) rfl
         replace H := cnf hb11 H
         refine WPD.takegT 11 rfl (by kernel_rfl) rfl rfl (lb hb11) (q_fieldAddr fi135_1 rfl rfl) rfl ?_
         refine WPD.takegT 13 rfl (by kernel_rfl) rfl rfl (lb hb11) (q_mv (v := .lit (.string _)) rfl) rfl ?_
         obtain ⟨x41, h36, H⟩ := bnd H
         refine WPD.takegT 14 rfl (by kernel_rfl) rfl rfl (lb hb11) (q_index_str Tryz.underlying9 rfl rfl h36) rfl ?_
         refine WPD.takeg 12 rfl (by kernel_rfl) rfl rfl (lb hb11) (q_load sc5 rfl rfl rfl) rfl rfl ?_
         obtain ⟨x42, h37, H⟩ := bnd H
         refine WPD.takegT 15 rfl (by kernel_rfl) rfl rfl (lb hb11) (q_nm (q_lss rfl rfl) (nm_bool h37)) rfl ?_
         refine WPD.tT 16 rfl (q_pickF (v := .lit (.bool _)) (lb hb11) rfl) ?_
         refine WPD.doneW (by kernel_rfl) ?_
         have q0 := j1 H
         subst q0
         exact W.wk [] hnp r3 ⟨rfl, trivial, by decide, rfl, trivial⟩ (LeE.u (LeE.u (LeE.none rfl rfl))) rfl
       rintro _ _ _ ⟨rfl, rfl, rfl⟩
       refine W.now ?_
       refine Then.n ?_
       refine WP.cond (t := x37) rfl (fun hb12 => ?_) (fun hb12 => ?_)
       · replace H := cnt hb12 H
         refine WP.sr ?_
         refine WPL.qq (q_as (v := .lit (.bool _)) rfl) ?_
         refine WPL.nx ?_
         refine WP.retW ?_
         have q0 := j1 H
         subst q0
         exact W.wk [] hnp (Then.r (InBlock.r (InBlock.r (Then.r r3)))) ⟨rfl, trivial, by decide, rfl, trivial⟩ (LeE.u (LeE.none rfl rfl)) rfl
       replace H := cnf hb12 H
       refine WP.skipW ?_
       refine W.now ?_
       refine Then.n ?_
       refine WP.region ?_
       refine WPL.qq (q_mv (v := .lit (.string _)) rfl) ?_
       obtain ⟨h38, H⟩ := grd H
       obtain ⟨x43, h39, H⟩ := bnd H
       refine WPL.qq (q_nm (q_slice_str (i := 2) (j := ((ByteArray.size x3 : Nat) : Int)) Tryz.underlying9 rfl ⟨_, rfl⟩ rfl h38) (nm_str h39)) ?_
       refine WPL.qq (q_as (v := .lit (.string _)) rfl) ?_
       refine WPL.nilW ?_
       exact W.wk [] hnp (InBlock.n (InBlock.n (Then.n ⟨n, x43, Nat.lt_succ_self n, H, rfl, rfl⟩))) ⟨rfl, trivial, by decide, rfl, trivial⟩ (LeE.u (LeE.none rfl rfl)) rfl
     replace H := cnf hb9 H
     refine WP.sr ?_
     obtain ⟨x44, h40, H⟩ := bnd H
     refine WPL.qq (q_nm (q_eql rfl rfl) (nm_bool h40)) ?_
     refine WPL.qq (q_as (v := .lit (.bool _)) rfl) ?_
     refine WPL.nx ?_
     refine WP.cond (t := x44) rfl (fun hb13 => ?_) (fun hb13 => ?_)
     · replace H := cnt hb13 H
       refine WP.seq ?_
       refine WP.seq ?_
       obtain ⟨x45, H8, H⟩ := bnd H
       refine WP.monoW (Q := fun x E M => x = .normal ∧ E = ((Env.none.upd 0 (.lit (.string x3))).upd 125 (.lit (.bool x45))) ∧ M = Mem.nil) ?_ ?_
       · clear H
         have H := H8
         clear H8
         refine WP.regionD' 27 [0] [] mixed rfl ?_
         refine WPD.tT 0 rfl (q_mv (v := .lit (.string _)) rfl) ?_
         refine WPD.tT 1 rfl (q_len_str Tryz.underlying9 rfl) ?_
         obtain ⟨x46, h41, H⟩ := bnd H
         refine WPD.tT 2 rfl (q_nm (q_lss rfl rfl) (nm_bool h41)) ?_
         refine WPD.tT 3 rfl (q_mv (v := .lit (.bool _)) rfl) ?_
         refine WPD.split (t := 102) (b := x46) rfl (fun hb14 => ?_) (fun hb14 => ?_)
         · replace H := cnt hb14 H
           refine WPD.ps true 4 rfl rfl (lb hb14) ?_
           refine WPD.ps true 5 rfl rfl (lb hb14) ?_
           refine WPD.ps true 6 rfl rfl (lb hb14) ?_
           refine WPD.ps true 7 rfl rfl (lb hb14) ?_
           refine WPD.ps true 8 rfl rfl (lb hb14) ?_
           refine WPD.tT 9 rfl (q_pickT (v := .lit (.bool _)) (lb hb14) rfl) ?_
           refine WPD.tT 10 rfl (q_mv (v := .lit (.bool _)) rfl) ?_
           refine WPD.ps true 11 rfl rfl rfl ?_
           refine WPD.ps true 12 rfl rfl rfl ?_
           refine WPD.ps true 13 rfl rfl rfl ?_
           refine WPD.ps true 14 rfl rfl rfl ?_
           refine WPD.ps true 15 rfl rfl rfl ?_
           refine WPD.tT 16 rfl (q_pickT (v := .lit (.bool _)) rfl rfl) ?_
           refine WPD.tT 17 rfl (q_mv (v := .lit (.bool _)) rfl) ?_
           refine WPD.ps true 18 rfl rfl rfl ?_
           refine WPD.ps true 19 rfl rfl rfl ?_
           refine WPD.ps true 20 rfl rfl rfl ?_
           refine WPD.tT 21 rfl (q_pickT (v := .lit (.bool _)) rfl rfl) ?_
           refine WPD.tT 22 rfl (q_mv (v := .lit (.bool _)) rfl) ?_
           refine WPD.ps true 23 rfl rfl rfl ?_
           refine WPD.ps true 24 rfl rfl rfl ?_
           refine WPD.ps true 25 rfl rfl rfl ?_
           refine WPD.tT 26 rfl (q_pickT (v := .lit (.bool _)) rfl rfl) ?_
           refine WPD.doneW (by kernel_rfl) ?_
           have q0 := j1 H
           subst q0
           exact W.wk [] hnp r3 ⟨rfl, trivial, by decide, rfl, trivial⟩ (LeE.u (LeE.u (LeE.none rfl rfl))) rfl
         replace H := cnf hb14 H
         refine WPD.takegT 4 rfl (by kernel_rfl) rfl rfl (lb hb14) (q_mv (v := .lit (.string _)) rfl) rfl ?_
         obtain ⟨x47, h42, H⟩ := bnd H
         refine WPD.takegT 5 rfl (by kernel_rfl) rfl rfl (lb hb14) (q_index_str Tryz.underlying9 rfl rfl h42) rfl ?_
         refine WPD.takegT 6 rfl (by kernel_rfl) rfl rfl (lb hb14) (q_fieldAddr fi135_0 rfl rfl) rfl ?_
         refine WPD.takeg 7 rfl (by kernel_rfl) rfl rfl (lb hb14) (q_load sc5 rfl rfl rfl) rfl rfl ?_
         obtain ⟨x48, h43, H⟩ := bnd H
         refine WPD.takegT 8 rfl (by kernel_rfl) rfl rfl (lb hb14) (q_nm (q_lss rfl rfl) (nm_bool h43)) rfl ?_
         refine WPD.tT 9 rfl (q_pickF (v := .lit (.bool _)) (lb hb14) rfl) ?_
         refine WPD.tT 10 rfl (q_mv (v := .lit (.bool _)) rfl) ?_
         refine WPD.split (t := 109) (b := x48) rfl (fun hb15 => ?_) (fun hb15 => ?_)
         · replace H := cnt hb15 H
           refine WPD.ps true 11 rfl rfl (lb hb15) ?_
           refine WPD.ps true 12 rfl rfl (lb hb15) ?_
           refine WPD.ps true 13 rfl rfl (lb hb15) ?_
           refine WPD.ps true 14 rfl rfl (lb hb15) ?_
           refine WPD.ps true 15 rfl rfl (lb hb15) ?_
           refine WPD.tT 16 rfl (q_pickT (v := .lit (.bool _)) (lb hb15) rfl) ?_
           refine WPD.tT 17 rfl (q_mv (v := .lit (.bool _)) rfl) ?_
           refine WPD.ps true 18 rfl rfl rfl ?_
           refine WPD.ps true 19 rfl rfl rfl ?_
           refine WPD.ps true 20 rfl rfl rfl ?_
           refine WPD.tT 21 rfl (q_pickT (v := .lit (.bool _)) rfl rfl) ?_
           refine WPD.tT 22 rfl (q_mv (v := .lit (.bool _)) rfl) ?_
           refine WPD.ps true 23 rfl rfl rfl ?_
           refine WPD.ps true 24 rfl rfl rfl ?_
           refine WPD.ps true 25 rfl rfl rfl ?_
           refine WPD.tT 26 rfl (q_pickT (v := .lit (.bool _)) rfl rfl) ?_
           refine WPD.doneW (by kernel_rfl) ?_
           have q0 := j1 H
           subst q0
           exact W.wk [] hnp r3 ⟨rfl, trivial, by decide, rfl, trivial⟩ (LeE.u (LeE.u (LeE.none rfl rfl))) rfl
         replace H := cnf hb15 H
         refine WPD.takegT 11 rfl (by kernel_rfl) rfl rfl (lb hb15) (q_fieldAddr fi135_1 rfl rfl) rfl ?_
         refine WPD.takegT 13 rfl (by kernel_rfl) rfl rfl (lb hb15) (q_mv (v := .lit (.string _)) rfl) rfl ?_
         obtain ⟨x49, h44, H⟩ := bnd H
         refine WPD.takegT 14 rfl (by kernel_rfl) rfl rfl (lb hb15) (q_index_str Tryz.underlying9 rfl rfl h44) rfl ?_
         refine WPD.takeg 12 rfl (by kernel_rfl) rfl rfl (lb hb15) (q_load sc5 rfl rfl rfl) rfl rfl ?_
         obtain ⟨x50, h45, H⟩ := bnd H
         refine WPD.takegT 15 rfl (by kernel_rfl) rfl rfl (lb hb15) (q_nm (q_lss rfl rfl) (nm_bool h45)) rfl ?_
         refine WPD.tT 16 rfl (q_pickF (v := .lit (.bool _)) (lb hb15) rfl) ?_
         refine WPD.tT 17 rfl (q_mv (v := .lit (.bool _)) rfl) ?_
         refine WPD.split (t := 116) (b := x50) rfl (fun hb16 => ?_) (fun hb16 => ?_)
         · replace H := cnt hb16 H
           refine WPD.ps true 18 rfl rfl (lb hb16) ?_
           refine WPD.ps true 19 rfl rfl (lb hb16) ?_
           refine WPD.ps true 20 rfl rfl (lb hb16) ?_
           refine WPD.tT 21 rfl (q_pickT (v := .lit (.bool _)) (lb hb16) rfl) ?_
           refine WPD.tT 22 rfl (q_mv (v := .lit (.bool _)) rfl) ?_
           refine WPD.ps true 23 rfl rfl rfl ?_
           refine WPD.ps true 24 rfl rfl rfl ?_
           refine WPD.ps true 25 rfl rfl rfl ?_
           refine WPD.tT 26 rfl (q_pickT (v := .lit (.bool _)) rfl rfl) ?_
           refine WPD.doneW (by kernel_rfl) ?_
           have q0 := j1 H
           subst q0
           exact W.wk [] hnp r3 ⟨rfl, trivial, by decide, rfl, trivial⟩ (LeE.u (LeE.u (LeE.none rfl rfl))) rfl
         replace H := cnf hb16 H
         refine WPD.takegT 18 rfl (by kernel_rfl) rfl rfl (lb hb16) (q_mv (v := .lit (.string _)) rfl) rfl ?_
         obtain ⟨x51, h46, H⟩ := bnd H
         refine WPD.takegT 19 rfl (by kernel_rfl) rfl rfl (lb hb16) (q_index_str Tryz.underlying9 rfl rfl h46) rfl ?_
         refine WPD.takegT 20 rfl (by kernel_rfl) rfl rfl (lb hb16) (q_lss rfl rfl) rfl ?_
         refine WPD.tT 21 rfl (q_pickF (v := .lit (.bool _)) (lb hb16) rfl) ?_
         refine WPD.tT 22 rfl (q_mv (v := .lit (.bool _)) rfl) ?_
         refine WPD.split (t := 121) (b := (decide (x51 < 128))) rfl (fun hb17 => ?_) (fun hb17 => ?_)
         · replace H := cnt hb17 H
           refine WPD.ps true 23 rfl rfl (lb hb17) ?_
           refine WPD.ps true 24 rfl rfl (lb hb17) ?_
           refine WPD.ps true 25 rfl rfl (lb hb17) ?_
           refine WPD.tT 26 rfl (q_pickT (v := .lit (.bool _)) (lb hb17) rfl) ?_
           refine WPD.doneW (by kernel_rfl) ?_
           have q0 := j1 H
           subst q0
           exact W.wk [] hnp r3 ⟨rfl, trivial, by decide, rfl, trivial⟩ (LeE.u (LeE.u (LeE.none rfl rfl))) rfl
         replace H := cnf hb17 H
         refine WPD.takegT 23 rfl (by kernel_rfl) rfl rfl (lb hb17) (q_mv (v := .lit (.string _)) rfl) rfl ?_
         obtain ⟨x52, h47, H⟩ := bnd H
         refine WPD.takegT 24 rfl (by kernel_rfl) rfl rfl (lb hb17) (q_index_str Tryz.underlying9 rfl rfl h47) rfl ?_
         refine WPD.takegT 25 rfl (by kernel_rfl) rfl rfl (lb hb17) (q_lss rfl rfl) rfl ?_
         refine WPD.tT 26 rfl (q_pickF (v := .lit (.bool _)) (lb hb17) rfl) ?_
         refine WPD.doneW (by kernel_rfl) ?_
         have q0 := j1 H
         subst q0
         exact W.wk [] hnp r3 ⟨rfl, trivial, by decide, rfl, trivial⟩ (LeE.u (LeE.u (LeE.none rfl rfl))) rfl
       rintro _ _ _ ⟨rfl, rfl, rfl⟩
       refine W.now ?_
       refine Then.n ?_
       refine WP.cond (t := x45) rfl (fun hb18 => ?_) (fun hb18 => ?_)
       · replace H := cnt hb18 H
         refine WP.sr ?_
         refine WPL.qq (q_as (v := .lit (.bool _)) rfl) ?_
         refine WPL.nx ?_
         refine WP.retW ?_
         have q0 := j1 H
         subst q0
         exact W.wk [] hnp (Then.r (InBlock.r (InBlock.r (Then.r r3)))) ⟨rfl, trivial, by decide, rfl, trivial⟩ (LeE.u (LeE.none rfl rfl)) rfl
       replace H := cnf hb18 H
       refine WP.skipW ?_
       refine W.now ?_
       refine Then.n ?_
       refine WP.region ?_
       refine WPL.qq (q_mv (v := .lit (.string _)) rfl) ?_
       obtain ⟨h48, H⟩ := grd H
       obtain ⟨x53, h49, H⟩ := bnd H
       refine WPL.qq (q_nm (q_slice_str (i := 3) (j := ((ByteArray.size x3 : Nat) : Int)) Tryz.underlying9 rfl ⟨_, rfl⟩ rfl h48) (nm_str h49)) ?_
       refine WPL.qq (q_as (v := .lit (.string _)) rfl) ?_
       refine WPL.nilW ?_
       exact W.wk [] hnp (InBlock.n (InBlock.n (Then.n ⟨n, x53, Nat.lt_succ_self n, H, rfl, rfl⟩))) ⟨rfl, trivial, by decide, rfl, trivial⟩ (LeE.u (LeE.none rfl rfl)) rfl
     replace H := cnf hb13 H
     refine WP.sr ?_
     obtain ⟨x54, h50, H⟩ := bnd H
     refine WPL.qq (q_nm (q_eql rfl rfl) (nm_bool h50)) ?_
     refine WPL.qq (q_as (v := .lit (.bool _)) rfl) ?_
     refine WPL.nx ?_
     refine WP.cond (t := x54) rfl (fun hb19 => ?_) (fun hb19 => ?_)
     · replace H := cnt hb19 H
       refine WP.seq ?_
       refine WP.seq ?_
       obtain ⟨x55, H9, H⟩ := bnd H
       refine WP.monoW (Q := fun x E M => x = .normal ∧ E = ((Env.none.upd 0 (.lit (.string x3))).upd 166 (.lit (.bool x55))) ∧ M = Mem.nil) ?_ ?_
       · clear H
         have H := H9
         clear H9
         refine WP.regionD' 37 [0] [] mixed rfl ?_
         refine WPD.tT 0 rfl (q_mv (v := .lit (.string _)) rfl) ?_
         refine WPD.tT 1 rfl (q_len_str Tryz.underlying9 rfl) ?_
         obtain ⟨x56, h51, H⟩ := bnd H
         refine WPD.tT 2 rfl (q_nm (q_lss rfl rfl) (nm_bool h51)) ?_
         refine WPD.tT 3 rfl (q_mv (v := .lit (.bool _)) rfl) ?_
         refine WPD.split (t := 133) (b := x56) rfl (fun hb20 => ?_) (fun hb20 => ?_)
         · replace H := cnt hb20 H
           refine WPD.ps true 4 rfl rfl (lb hb20) ?_
           refine WPD.ps true 5 rfl rfl (lb hb20) ?_
           refine WPD.ps true 6 rfl rfl (lb hb20) ?_
           refine WPD.ps true 7 rfl rfl (lb hb20) ?_
           refine WPD.ps true 8 rfl rfl (lb hb20) ?_
           refine WPD.tT 9 rfl (q_pickT (v := .lit (.bool _)) (lb hb20) rfl) ?_
           refine WPD.tT 10 rfl (q_mv (v := .lit (.bool _)) rfl) ?_
           refine WPD.ps true 11 rfl rfl rfl ?_
           refine WPD.ps true 12 rfl rfl rfl ?_
           refine WPD.ps true 13 rfl rfl rfl ?_
           refine WPD.ps true 14 rfl rfl rfl ?_
           refine WPD.ps true 15 rfl rfl rfl ?_
           refine WPD.tT 16 rfl (q_pickT (v := .lit (.bool _)) rfl rfl) ?_
           refine WPD.tT 17 rfl (q_mv (v := .lit (.bool _)) rfl) ?_
           refine WPD.ps true 18 rfl rfl rfl ?_
           refine WPD.ps true 19 rfl rfl rfl ?_
           refine WPD.ps true 20 rfl rfl rfl ?_
           refine WPD.tT 21 rfl (q_pickT (v := .lit (.bool _)) rfl rfl) ?_
           refine WPD.tT 22 rfl (q_mv (v := .lit (.bool _)) rfl) ?_
           refine WPD.ps true 23 rfl rfl rfl ?_
           refine WPD.ps true 24 rfl rfl rfl ?_
           refine WPD.ps true 25 rfl rfl rfl ?_
           refine WPD.tT 26 rfl (q_pickT (v := .lit (.bool _)) rfl rfl) ?_
           refine WPD.tT 27 rfl (q_mv (v := .lit (.bool _)) rfl) ?_
           refine WPD.ps true 28 rfl rfl rfl ?_
           refine WPD.ps true 29 rfl rfl rfl ?_
           refine WPD.ps true 30 rfl rfl rfl ?_
           refine WPD.tT 31 rfl (q_pickT (v := .lit (.bool _)) rfl rfl) ?_
           refine WPD.tT 32 rfl (q_mv (v := .lit (.bool _)) rfl) ?_
           refine WPD.ps true 33 rfl rfl rfl ?_
           refine WPD.ps true 34 rfl rfl rfl ?_
           refine WPD.ps true 35 rfl rfl rfl ?_
           refine WPD.tT 36 rfl (q_pickT (v := .lit (.bool _)) rfl rfl) ?_
           refine WPD.doneW (by kernel_rfl) ?_
           have q0 := j1 H
           subst q0
           exact W.wk [] hnp r3 ⟨rfl, trivial, by decide, rfl, trivial⟩ (LeE.u (LeE.u (LeE.none rfl rfl))) rfl
         replace H := cnf hb20 H
         refine WPD.takegT 4 rfl (by kernel_rfl) rfl rfl (lb hb20) (q_mv (v := .lit (.string _)) rfl) rfl ?_
         obtain ⟨x57, h52, H⟩ := bnd H
         refine WPD.takegT 5 rfl (by kernel_rfl) rfl rfl (lb hb20) (q_index_str Tryz.underlying9 rfl rfl h52) rfl ?_
         refine WPD.takegT 6 rfl (by kernel_rfl) rfl rfl (lb hb20) (q_fieldAddr fi135_0 rfl rfl) rfl ?_
         refine WPD.takeg 7 rfl (by kernel_rfl) rfl rfl (lb hb20) (q_load sc5 rfl rfl rfl) rfl rfl ?_
         obtain ⟨x58, h53, H⟩ := bnd H
         refine WPD.takegT 8 rfl (by kernel_rfl) rfl rfl (lb hb20) (q_nm (q_lss rfl rfl) (nm_bool h53)) rfl ?_
         refine WPD.tT 9 rfl (q_pickF (v := .lit (.bool _)) (lb hb20) rfl) ?_
         refine WPD.tT 10 rfl (q_mv (v := .lit (.bool _)) rfl) ?_
         refine WPD.split (t := 140) (b := x58) rfl (fun hb21 => ?_) (fun hb21 => ?_)
         · replace H := cnt hb21 H
           refine WPD.ps true 11 rfl rfl (lb hb21) ?_
           refine WPD.ps true 12 rfl rfl (lb hb21) ?_
           refine WPD.ps true 13 rfl rfl (lb hb21) ?_
           refine WPD.ps true 14 rfl rfl (lb hb21) ?_
           refine WPD.ps true 15 rfl rfl (lb hb21) ?_
           refine WPD.tT 16 rfl (q_pickT (v := .lit (.bool _)) (lb hb21) rfl) ?_
           refine WPD.tT 17 rfl (q_mv (v := .lit (.bool _)) rfl) ?_
           refine WPD.ps true 18 rfl rfl rfl ?_
           refine WPD.ps true 19 rfl rfl rfl ?_
           refine WPD.ps true 20 rfl rfl rfl ?_
           refine WPD.tT 21 rfl (q_pickT (v := .lit (.bool _)) rfl rfl) ?_
           refine WPD.tT 22 rfl (q_mv (v := .lit (.bool _)) rfl) ?_
           refine WPD.ps true 23 rfl rfl rfl ?_
           refine WPD.ps true 24 rfl rfl rfl ?_
           refine WPD.ps true 25 rfl rfl rfl ?_
           refine WPD.tT 26 rfl (q_pickT (v := .lit (.bool _)) rfl rfl) ?_
           refine WPD.tT 27 rfl (q_mv (v := .lit (.bool _)) rfl) ?_
           refine WPD.ps true 28 rfl rfl rfl ?_
           refine WPD.ps true 29 rfl rfl rfl ?_
           refine WPD.ps true 30 rfl rfl rfl ?_
           refine WPD.tT 31 rfl (q_pickT (v := .lit (.bool _)) rfl rfl) ?_
           refine WPD.tT 32 rfl (q_mv (v := .lit (.bool _)) rfl) ?_
           refine WPD.ps true 33 rfl rfl rfl ?_
           refine WPD.ps true 34 rfl rfl rfl ?_
           refine WPD.ps true 35 rfl rfl rfl ?_
           refine WPD.tT 36 rfl (q_pickT (v := .lit (.bool _)) rfl rfl) ?_
           refine WPD.doneW (by kernel_rfl) ?_
           have q0 := j1 H
           subst q0
           exact W.wk [] hnp r3 ⟨rfl, trivial, by decide, rfl, trivial⟩ (LeE.u (LeE.u (LeE.none rfl rfl))) rfl
         replace H := cnf hb21 H
         refine WPD.takegT 11 rfl (by kernel_rfl) rfl rfl (lb hb21) (q_fieldAddr fi135_1 rfl rfl) rfl ?_
         refine WPD.takegT 13 rfl (by kernel_rfl) rfl rfl (lb hb21) (q_mv (v := .lit (.string _)) rfl) rfl ?_
         obtain ⟨x59, h54, H⟩ := bnd H
         refine WPD.takegT 14 rfl (by kernel_rfl) rfl rfl (lb hb21) (q_index_str Tryz.underlying9 rfl rfl h54) rfl ?_
         refine WPD.takeg 12 rfl (by kernel_rfl) rfl rfl (lb hb21) (q_load sc5 rfl rfl rfl) rfl rfl ?_
         obtain ⟨x60, h55, H⟩ := bnd H
         refine WPD.takegT 15 rfl (by kernel_rfl) rfl rfl (lb hb21) (q_nm (q_lss rfl rfl) (nm_bool h55)) rfl ?_
         refine WPD.tT 16 rfl (q_pickF (v := .lit (.bool _)) (lb hb21) rfl) ?_
         refine WPD.tT 17 rfl (q_mv (v := .lit (.bool _)) rfl) ?_
         refine WPD.split (t := 147) (b := x60) rfl (fun hb22 => ?_) (fun hb22 => ?_)
         · replace H := cnt hb22 H
           refine WPD.ps true 18 rfl rfl (lb hb22) ?_
           refine WPD.ps true 19 rfl rfl (lb hb22) ?_
           refine WPD.ps true 20 rfl rfl (lb hb22) ?_
           refine WPD.tT 21 rfl (q_pickT (v := .lit (.bool _)) (lb hb22) rfl) ?_
           refine WPD.tT 22 rfl (q_mv (v := .lit (.bool _)) rfl) ?_
           refine WPD.ps true 23 rfl rfl rfl ?_
           refine WPD.ps true 24 rfl rfl rfl ?_
           refine WPD.ps true 25 rfl rfl rfl ?_
           refine WPD.tT 26 rfl (q_pickT (v := .lit (.bool _)) rfl rfl) ?_
           refine WPD.tT 27 rfl (q_mv (v := .lit (.bool _)) rfl) ?_
           refine WPD.ps true 28 rfl rfl rfl ?_
           refine WPD.ps true 29 rfl rfl rfl ?_
           refine WPD.ps true 30 rfl rfl rfl ?_
           refine WPD.tT 31 rfl (q_pickT (v := .lit (.bool _)) rfl rfl) ?_
           refine WPD.tT 32 rfl (q_mv (v := .lit (.bool _)) rfl) ?_
           refine WPD.ps true 33 rfl rfl rfl ?_
           refine WPD.ps true 34 rfl rfl rfl ?_
           refine WPD.ps true 35 rfl rfl rfl ?_
           refine WPD.tT 36 rfl (q_pickT (v := .lit (.bool _)) rfl rfl) ?_
           refine WPD.doneW (by kernel_rfl) ?_
           have q0 := j1 H
           subst q0
           exact W.wk [] hnp r3 ⟨rfl, trivial, by decide, rfl, trivial⟩ (LeE.u (LeE.u (LeE.none rfl rfl))) rfl
         replace H := cnf hb22 H
         refine WPD.takegT 18 rfl (by kernel_rfl) rfl rfl (lb hb22) (q_mv (v := .lit (.string _)) rfl) rfl ?_
         obtain ⟨x61, h56, H⟩ := bnd H
         refine WPD.takegT 19 rfl (by kernel_rfl) rfl rfl (lb hb22) (q_index_str Tryz.underlying9 rfl rfl h56) rfl ?_
         refine WPD.takegT 20 rfl (by kernel_rfl) rfl rfl (lb hb22) (q_lss rfl rfl) rfl ?_
         refine WPD.tT 21 rfl (q_pickF (v := .lit (.bool _)) (lb hb22) rfl) ?_
         refine WPD.tT 22 rfl (q_mv (v := .lit (.bool _)) rfl) ?_
         refine WPD.split (t := 152) (b := (decide (x61 < 128))) rfl (fun hb23 => ?_) (fun hb23 => ?_)
         · replace H := cnt hb23 H
           refine WPD.ps true 23 rfl rfl (lb hb23) ?_
           refine WPD.ps true 24 rfl rfl (lb hb23) ?_
           refine WPD.ps true 25 rfl rfl (lb hb23) ?_
           refine WPD.tT 26 rfl (q_pickT (v := .lit (.bool _)) (lb hb23) rfl) ?_
           refine WPD.tT 27 rfl (q_mv (v := .lit (.bool _)) rfl) ?_
           refine WPD.ps true 28 rfl rfl rfl ?_
           refine WPD.ps true 29 rfl rfl rfl ?_
           refine WPD.ps true 30 rfl rfl rfl ?_
           refine WPD.tT 31 rfl (q_pickT (v := .lit (.bool _)) rfl rfl) ?_
           refine WPD.tT 32 rfl (q_mv (v := .lit (.bool _)) rfl) ?_
           refine WPD.ps true 33 rfl rfl rfl ?_
           refine WPD.ps true 34 rfl rfl rfl ?_
           refine WPD.ps true 35 rfl rfl rfl ?_
           refine WPD.tT 36 rfl (q_pickT (v := .lit (.bool _)) rfl rfl) ?_
           refine WPD.doneW (by kernel_rfl) ?_
           have q0 := j1 H
           subst q0
           exact W.wk [] hnp r3 ⟨rfl, trivial, by decide, rfl, trivial⟩ (LeE.u (LeE.u (LeE.none rfl rfl))) rfl
         replace H := cnf hb23 H
         refine WPD.takegT 23 rfl (by kernel_rfl) rfl rfl (lb hb23) (q_mv (v := .lit (.string _)) rfl) rfl ?_
         obtain ⟨x62, h57, H⟩ := bnd H
         refine WPD.takegT 24 rfl (by kernel_rfl) rfl rfl (lb hb23) (q_index_str Tryz.underlying9 rfl rfl h57) rfl ?_
         refine WPD.takegT 25 rfl (by kernel_rfl) rfl rfl (lb hb23) (q_lss rfl rfl) rfl ?_
         refine WPD.tT 26 rfl (q_pickF (v := .lit (.bool _)) (lb hb23) rfl) ?_
         refine WPD.tT 27 rfl (q_mv (v := .lit (.bool _)) rfl) ?_
         refine WPD.split (t := 157) (b := (decide (191 < x62))) rfl (fun hb24 => ?_) (fun hb24 => ?_)
         · replace H := cnt hb24 H
           refine WPD.ps true 28 rfl rfl (lb hb24) ?_
           refine WPD.ps true 29 rfl rfl (lb hb24) ?_
           refine WPD.ps true 30 rfl rfl (lb hb24) ?_
           refine WPD.tT 31 rfl (q_pickT (v := .lit (.bool _)) (lb hb24) rfl) ?_
           refine WPD.tT 32 rfl (q_mv (v := .lit (.bool _)) rfl) ?_
           refine WPD.ps true 33 rfl rfl rfl ?_
           refine WPD.ps true 34 rfl rfl rfl ?_
           refine WPD.ps true 35 rfl rfl rfl ?_
           refine WPD.tT 36 rfl (q_pickT (v := .lit (.bool _)) rfl rfl) ?_
           refine WPD.doneW (by kernel_rfl) ?_
           have q0 := j1 H
           subst q0
           exact W.wk [] hnp r3 ⟨rfl, trivial, by decide, rfl, trivial⟩ (LeE.u (LeE.u (LeE.none rfl rfl))) rfl
         replace H := cnf hb24 H
         refine WPD.takegT 28 rfl (by kernel_rfl) rfl rfl (lb hb24) (q_mv (v := .lit (.string _)) rfl) rfl ?_
         obtain ⟨x63, h58, H⟩ := bnd H
         refine WPD.takegT 29 rfl (by kernel_rfl) rfl rfl (lb hb24) (q_index_str Tryz.underlying9 rfl rfl h58) rfl ?_
         refine WPD.takegT 30 rfl (by kernel_rfl) rfl rfl (lb hb24) (q_lss rfl rfl) rfl ?_
         refine WPD.tT 31 rfl (q_pickF (v := .lit (.bool _)) (lb hb24) rfl) ?_
         refine WPD.tT 32 rfl (q_mv (v := .lit (.bool _)) rfl) ?_
         refine WPD.split (t := 162) (b := (decide (x63 < 128))) rfl (fun hb25 => ?_) (fun hb25 => ?_)
         · replace H := cnt hb25 H
           refine WPD.ps true 33 rfl rfl (lb hb25) ?_
           refine WPD.ps true 34 rfl rfl (lb hb25) ?_
           refine WPD.ps true 35 rfl rfl (lb hb25) ?_
           refine WPD.tT 36 rfl (q_pickT (v := .lit (.bool _)) (lb hb25) rfl) ?_
           refine WPD.doneW (by kernel_rfl) ?_
           have q0 := j1 H
           subst q0
           exact W.wk [] hnp r3 ⟨rfl, trivial, by decide, rfl, trivial⟩ (LeE.u (LeE.u (LeE.none rfl rfl))) rfl
         replace H := cnf hb25 H
         refine WPD.takegT 33 rfl (by kernel_rfl) rfl rfl (lb hb25) (q_mv (v := .lit (.string _)) rfl) rfl ?_
         obtain ⟨x64, h59, H⟩ := bnd H
         refine WPD.takegT 34 rfl (by kernel_rfl) rfl rfl (lb hb25) (q_index_str Tryz.underlying9 rfl rfl h59) rfl ?_
         refine WPD.takegT 35 rfl (by kernel_rfl) rfl rfl (lb hb25) (q_lss rfl rfl) rfl ?_
         refine WPD.tT 36 rfl (q_pickF (v := .lit (.bool _)) (lb hb25) rfl) ?_
         refine WPD.doneW (by kernel_rfl) ?_
         have q0 := j1 H
         subst q0
         exact W.wk [] hnp r3 ⟨rfl, trivial, by decide, rfl, trivial⟩ (LeE.u (LeE.u (LeE.none rfl rfl))) rfl
       rintro _ _ _ ⟨rfl, rfl, rfl⟩
       refine W.now ?_
       refine Then.n ?_
       refine WP.cond (t := x55) rfl (fun hb26 => ?_) (fun hb26 => ?_)
       · replace H := cnt hb26 H
         refine WP.sr ?_
         refine WPL.qq (q_as (v := .lit (.bool _)) rfl) ?_
         refine WPL.nx ?_
         refine WP.retW ?_
         have q0 := j1 H
         subst q0
         exact W.wk [] hnp (Then.r (InBlock.r (InBlock.r (Then.r r3)))) ⟨rfl, trivial, by decide, rfl, trivial⟩ (LeE.u (LeE.none rfl rfl)) rfl
       replace H := cnf hb26 H
       refine WP.skipW ?_
       refine W.now ?_
       refine Then.n ?_
       refine WP.region ?_
       refine WPL.qq (q_mv (v := .lit (.string _)) rfl) ?_
       obtain ⟨h60, H⟩ := grd H
       obtain ⟨x65, h61, H⟩ := bnd H
       refine WPL.qq (q_nm (q_slice_str (i := 4) (j := ((ByteArray.size x3 : Nat) : Int)) Tryz.underlying9 rfl ⟨_, rfl⟩ rfl h60) (nm_str h61)) ?_
       refine WPL.qq (q_as (v := .lit (.string _)) rfl) ?_
       refine WPL.nilW ?_
       exact W.wk [] hnp (InBlock.n (InBlock.n (Then.n ⟨n, x65, Nat.lt_succ_self n, H, rfl, rfl⟩))) ⟨rfl, trivial, by decide, rfl, trivial⟩ (LeE.u (LeE.none rfl rfl)) rfl
     replace H := cnf hb19 H
     refine WP.sr ?_
     refine WPL.qq (q_as (v := .lit (.bool _)) rfl) ?_
     refine WPL.nx ?_
     refine WP.retW ?_
     have q0 := j1 H
     subst q0
     exact W.wk [] hnp (InBlock.r (InBlock.r (Then.r r3))) ⟨rfl, trivial, by decide, rfl, trivial⟩ (LeE.u (LeE.none rfl rfl)) rfl
   replace H := cnf hb1 H
   refine WP.exitW ?_
   have q0 := j1 H
   subst q0
   exact W.wk [] hnp (Then.x (Then.x r3)) ⟨rfl, trivial, by decide, rfl, trivial⟩ (LeE.none rfl rfl) rfl
 rcases y1 with _ | _
 · rintro _ _ _ ⟨rfl, rfl, rfl⟩
   have q0 := j1 H
   subst q0
   exact W.now (InBlock.r (Then.r (BodyR.mkR trivial rfl [] ⟨rfl, rfl⟩ ⟨rfl, trivial, by decide, rfl, trivial⟩ rfl rfl)))
 rintro _ _ _ ⟨rfl, rfl, rfl⟩
 refine W.now ?_
 refine InBlock.x0 ?_
 refine Then.n ?_
 refine WP.sr ?_
 refine WPL.qq (q_as (v := .lit (.bool _)) rfl) ?_
 refine WPL.nx ?_
 refine WP.retW ?_
 have q0 := j1 H
 subst q0
 exact W.now (BodyR.mkR trivial rfl [] ⟨rfl, rfl⟩ ⟨rfl, trivial, by decide, rfl, trivial⟩ rfl rfl)
end Go.Proofs.YthpcgknknpjpdaaGreatDoor.W
namespace Go.Proofs.YthpcgknknpjpdaaGreatDoor.W
open Go Go.Q Go.Proofs
set_option linter.unusedVariables false
set_option linter.unusedSimpArgs false
set_option maxRecDepth 100000
set_option maxHeartbeats 4000000
theorem s_utf_Xml (k : Nat) (x1 : ByteArray) (x2 : Int) (H : g_utf_Xml k x1 = some x2) : Go.Q.Spec Tryz.prog 47 0 [.lit (.string x1)] Mem.nil (fun o M => o = .ret (.lit (.int .i64 x2)) ∧ M = Mem.nil) := by
 unfold g_utf_Xml at H
 refine Go.Q.Spec.of_bodyR (az := []) (rs := [.tmp 2]) (nt := 27) Tryz.func47 rfl rfl (by intro t T h; simp at h) rfl rfl fun cx hnp => ?_
 refine WP.sr ?_
 refine WPL.qq (q_as (v := .lit (.int _ _)) rfl) ?_
 refine WPL.nx ?_
 refine WP.seq ?_
 refine WP.sr ?_
 refine WPL.qq (q_mv (v := .lit (.string _)) rfl) ?_
 obtain ⟨x3, h1, H⟩ := bnd H
 refine WPL.c (runs_call (s := []) (t := []) (N := 0) (bor := []) fn86 rfl (s_u8_ValidString k x1 x3 h1) ⟨rfl, trivial, by decide, rfl, trivial⟩ rfl trivial (.ren rfl rfl .nil) rfl trivial rfl) rfl ?_
 refine WPL.qq (q_not rfl) ?_
 refine WPL.nx ?_
 refine WP.cond (t := (!x3)) rfl (fun hb1 => ?_) (fun hb1 => ?_)
 · replace H := cnt hb1 H
   refine WP.sr ?_
   refine WPL.qq (q_as (v := .lit (.int _ _)) rfl) ?_
   refine WPL.nx ?_
   refine WP.retW ?_
   have q0 := j1 H
   subst q0
   exact W.now (Then.r (BodyR.mkR trivial rfl [] ⟨rfl, rfl⟩ ⟨rfl, trivial, by decide, rfl, trivial⟩ rfl rfl))
 replace H := cnf hb1 H
 refine WP.skipW ?_
 refine W.now ?_
 refine Then.n ?_
 refine WP.seq ?_
 refine WP.sr ?_
 refine WPL.qq (q_mv (v := .lit (.string _)) rfl) ?_
 refine WPL.d (d_range Tryz.underlying9 rfl rfl) rfl ?_
 refine WPL.nx ?_
 refine WP.block ?_
 refine WP.cv (Cv.weak (E' := (Env.none.upd 9 (.ptr 0 0))) (M' := (Mem.nil.push (.obj (.stringIter x1 0)))) [0] hnp ⟨rfl, AA1, by decide, rfl, trivial⟩ (LeE.u (LeE.none rfl rfl))) ?_
 obtain ⟨y1, H1, H⟩ := bnd H
 refine WP.monoW (Q := fun x E M => match (generalizing := false) y1 with | (Sum.inl _) => x = .ret ∧ E = (Env.none.upd 2 (.lit (.int .i64 20))) ∧ M = Mem.nil | (Sum.inr _) => x = .exit 0 ∧ E = Env.none ∧ M = Mem.nil) ?_ ?_
 · refine WP.loop (β := Nat) (fun n b => g_utf_Xml_l0 k x1 n b = some y1) (fun b => (Env.none.upd 9 (.ptr 0 0))) (fun b => (Mem.nil.push (.obj (.stringIter x1 b)))) k 0 H1 rfl rfl ?_
   rintro n x4 H
   obtain _ | n := n
   · exact nf rfl H
   rw [g_utf_Xml_l0.eq_2] at H
   show WP _ _ _ _ (Env.none.upd 9 (.ptr 0 0)) (Mem.nil.push (.obj (.stringIter x1 x4))) _
   refine WP.sr ?_
   refine WPL.splitB (decide (x4 < ByteArray.size x1)) (fun hb2 => ?_) (fun hb2 => ?_)
   · replace H := cnt hb2 H
     refine WPL.d (d_next rfl rfl hb2) rfl ?_
     refine WPL.qq (q_extract rfl rfl) ?_
     refine WPL.nx ?_
     refine WP.seq ?_
     refine WP.condT rfl ?_
     refine WP.skipW ?_
     refine W.now ?_
     refine Then.n ?_
     refine WP.block ?_
     refine WP.sr ?_
     refine WPL.qq (q_extract rfl rfl) ?_
     refine WPL.qq (q_as (v := .lit (.int _ _)) rfl) ?_
     refine WPL.nx ?_
     refine WP.block ?_
     refine WP.seq ?_
     obtain ⟨x5, H2, H⟩ := bnd H
     refine WP.monoW (Q := fun x E M => x = .normal ∧ E = (((Env.none.upd 4 (.lit (.int .i32 (((Utf8.decode x1 x4).1 : Nat) : Int)))).upd 9 (.ptr 0 0)).upd 13 (.lit (.bool x5))) ∧ M = (Mem.nil.push (.obj (.stringIter x1 (x4 + (Utf8.decode x1 x4).2))))) ?_ ?_
     · clear H
       have H := H2
       clear H2
       refine WP.sr ?_
       refine WPL.qq (q_mv (v := .lit (.int _ _)) rfl) ?_
       obtain ⟨x6, h2, H⟩ := bnd H
       refine WPL.qq (q_nm (q_eql rfl rfl) (nm_bool h2)) ?_
       refine WPL.qq (q_as (v := .lit (.bool _)) rfl) ?_
       refine WPL.nx ?_
       refine WP.cond (t := x6) rfl (fun hb3 => ?_) (fun hb3 => ?_)
       · replace H := cnt hb3 H
         refine WP.skipW ?_
         have q0 := j1 H
         subst q0
         exact W.wk [0] hnp r3 ⟨rfl, AA1, by decide, rfl, trivial⟩ (LeE.u (LeE.u (LeE.u (LeE.none rfl rfl)))) rfl
       replace H := cnf hb3 H
       refine WP.sr ?_
       refine WPL.qq (q_mv (v := .lit (.int _ _)) rfl) ?_
       obtain ⟨x7, h3, H⟩ := bnd H
       refine WPL.qq (q_nm (q_eql rfl rfl) (nm_bool h3)) ?_
       refine WPL.qq (q_as (v := .lit (.bool _)) rfl) ?_
       refine WPL.nx ?_
       refine WP.cond (t := x7) rfl (fun hb4 => ?_) (fun hb4 => ?_)
       · replace H := cnt hb4 H
         refine WP.skipW ?_
         have q0 := j1 H
         subst q0
         exact W.wk [0] hnp r3 ⟨rfl, AA1, by decide, rfl, trivial⟩ (LeE.u (LeE.u (LeE.u (LeE.none rfl rfl)))) rfl
       replace H := cnf hb4 H
       refine WP.region ?_
       refine WPL.qq (q_mv (v := .lit (.int _ _)) rfl) ?_
       obtain ⟨x8, h4, H⟩ := bnd H
       refine WPL.qq (q_nm (q_eql rfl rfl) (nm_bool h4)) ?_
       refine WPL.qq (q_as (v := .lit (.bool _)) rfl) ?_
       refine WPL.nilW ?_
       have q0 := j1 H
       subst q0
       exact W.wk [0] hnp r3 ⟨rfl, AA1, by decide, rfl, trivial⟩ (LeE.u (LeE.u (LeE.u (LeE.none rfl rfl)))) rfl
     rintro _ _ _ ⟨rfl, rfl, rfl⟩
     refine W.now ?_
     refine Then.n ?_
     refine WP.cond (t := x5) rfl (fun hb5 => ?_) (fun hb5 => ?_)
     · replace H := cnt hb5 H
       refine WP.skipW ?_
       exact W.wk [0] hnp (InBlock.n (InBlock.n (Then.n ⟨n, (x4 + (Utf8.decode x1 x4).2), Nat.lt_succ_self n, H, rfl, rfl⟩))) ⟨rfl, AA1, by decide, rfl, trivial⟩ (LeE.u (LeE.none rfl rfl)) rfl
     replace H := cnf hb5 H
     refine WP.seq ?_
     obtain ⟨x9, H3, H⟩ := bnd H
     refine WP.monoW (Q := fun x E M => x = .normal ∧ E = ((Env.none.upd 9 (.ptr 0 0)).upd 20 (.lit (.bool x9))) ∧ M = (Mem.nil.push (.obj (.stringIter x1 (x4 + (Utf8.decode x1 x4).2))))) ?_ ?_
     · clear H
       have H := H3
       clear H3
       refine WP.sr ?_
       refine WPL.qq (q_mv (v := .lit (.int _ _)) rfl) ?_
       obtain ⟨x10, h5, H⟩ := bnd H
       refine WPL.qq (q_nm (q_lss rfl rfl) (nm_bool h5)) ?_
       refine WPL.qq (q_as (v := .lit (.bool _)) rfl) ?_
       refine WPL.nx ?_
       refine WP.cond (t := x10) rfl (fun hb6 => ?_) (fun hb6 => ?_)
       · replace H := cnt hb6 H
         refine WP.skipW ?_
         have q0 := j1 H
         subst q0
         exact W.wk [0] hnp r3 ⟨rfl, AA1, by decide, rfl, trivial⟩ (LeE.u (LeE.u (LeE.none rfl rfl))) rfl
       replace H := cnf hb6 H
       refine WP.sr ?_
       refine WPL.qq (q_mv (v := .lit (.int _ _)) rfl) ?_
       obtain ⟨x11, h6, H⟩ := bnd H
       refine WPL.qq (q_nm (q_eql rfl rfl) (nm_bool h6)) ?_
       refine WPL.qq (q_as (v := .lit (.bool _)) rfl) ?_
       refine WPL.nx ?_
       refine WP.cond (t := x11) rfl (fun hb7 => ?_) (fun hb7 => ?_)
       · replace H := cnt hb7 H
         refine WP.skipW ?_
         have q0 := j1 H
         subst q0
         exact W.wk [0] hnp r3 ⟨rfl, AA1, by decide, rfl, trivial⟩ (LeE.u (LeE.u (LeE.none rfl rfl))) rfl
       replace H := cnf hb7 H
       refine WP.region ?_
       refine WPL.qq (q_mv (v := .lit (.int _ _)) rfl) ?_
       obtain ⟨x12, h7, H⟩ := bnd H
       refine WPL.qq (q_nm (q_eql rfl rfl) (nm_bool h7)) ?_
       refine WPL.qq (q_as (v := .lit (.bool _)) rfl) ?_
       refine WPL.nilW ?_
       have q0 := j1 H
       subst q0
       exact W.wk [0] hnp r3 ⟨rfl, AA1, by decide, rfl, trivial⟩ (LeE.u (LeE.u (LeE.none rfl rfl))) rfl
     rintro _ _ _ ⟨rfl, rfl, rfl⟩
     refine W.now ?_
     refine Then.n ?_
     refine WP.cond (t := x9) rfl (fun hb8 => ?_) (fun hb8 => ?_)
     · replace H := cnt hb8 H
       refine WP.sr ?_
       refine WPL.qq (q_as (v := .lit (.int _ _)) rfl) ?_
       refine WPL.nx ?_
       refine WP.retW ?_
       have q0 := j1 H
       subst q0
       exact W.wk [] hnp (InBlock.r (InBlock.r (Then.r r3))) ⟨rfl, trivial, by decide, rfl, trivial⟩ (LeE.u (LeE.none rfl rfl)) rfl
     replace H := cnf hb8 H
     refine WP.skipW ?_
     exact W.wk [0] hnp (InBlock.n (InBlock.n (Then.n ⟨n, (x4 + (Utf8.decode x1 x4).2), Nat.lt_succ_self n, H, rfl, rfl⟩))) ⟨rfl, AA1, by decide, rfl, trivial⟩ (LeE.u (LeE.none rfl rfl)) rfl
   replace H := cnf hb2 H
   refine WPL.qq (q_nextEnd rfl rfl hb2) ?_
   refine WPL.qq (q_extract rfl rfl) ?_
   refine WPL.nx ?_
   refine WP.seq ?_
   refine WP.condF rfl ?_
   refine WP.exitW ?_
   have q0 := j1 H
   subst q0
   exact W.wk [] hnp (Then.x (Then.x r3)) ⟨rfl, trivial, by decide, rfl, trivial⟩ (LeE.none rfl rfl) rfl
 rcases y1 with _ | _
 · rintro _ _ _ ⟨rfl, rfl, rfl⟩
   have q0 := j1 H
   subst q0
   exact W.now (InBlock.r (Then.r (BodyR.mkR trivial rfl [] ⟨rfl, rfl⟩ ⟨rfl, trivial, by decide, rfl, trivial⟩ rfl rfl)))
 rintro _ _ _ ⟨rfl, rfl, rfl⟩
 refine W.now ?_
 refine InBlock.x0 ?_
 refine Then.n ?_
 refine WP.sr ?_
 refine WPL.qq (q_as (v := .lit (.int _ _)) rfl) ?_
 refine WPL.nx ?_
 refine WP.retW ?_
 have q0 := j1 H
 subst q0
 exact W.now (BodyR.mkR trivial rfl [] ⟨rfl, rfl⟩ ⟨rfl, trivial, by decide, rfl, trivial⟩ rfl rfl)
theorem s_val_Str (k : Nat) (x1 : ByteArray) (x2 : Int) (x3 : ByteArray) (x4 : Int) (H : g_val_Str k x1 = some (x2, x3, x4)) : Go.Q.Spec Tryz.prog 14 0 [.lit (.string x1)] Mem.nil (fun o M => o = .ret (.agg [.lit (.int .i64 x2), .lit (.int .i64 0), .lit (.int .i64 0), .lit (.string x3), .lit (.bool false), .lit (.int .i64 x4)]) ∧ M = (Mem.nil.push (.cells 29 [.lit (.int .i64 x2), .lit (.int .i64 0), .lit (.int .i64 0), .lit (.string x3), .lit (.bool false), .lit (.int .i64 x4)]))) := by
 unfold g_val_Str at H
 refine Go.Q.Spec.of_bodyR (az := [(29, 6)]) (rs := [.cell 2 29]) (nt := 14) Tryz.func14 rfl rfl (by intro t T h; simp at h; rcases h with ⟨rfl, rfl⟩ <;> first | exact ag29) rfl rfl fun cx hnp => ?_
 refine WP.sr ?_
 refine WPL.d (d_alloc ze29 rfl) rfl ?_
 refine WPL.nx ?_
 refine WP.seq ?_
 refine WP.seq ?_
 obtain ⟨x5, H1, H⟩ := bnd H
 refine WP.monoW (Q := fun x E M => x = .normal ∧ E = (((Env.none.upd 0 (.lit (.string x1))).upd 2 (.ptr 0 0)).upd 10 (.lit (.bool x5))) ∧ M = (Mem.nil.push (.cells 29 [.lit (.int .i64 0), .lit (.int .i64 0), .lit (.int .i64 0), .lit (.string (ByteArray.mk #[])), .lit (.bool false), .lit (.int .i64 0)]))) ?_ ?_
 · clear H
   have H := H1
   clear H1
   refine WP.region ?_
   refine WPL.qq (q_mv (v := .lit (.string _)) rfl) ?_
   refine WPL.qq (q_len_str Tryz.underlying9 rfl) ?_
   obtain ⟨x6, h1, H⟩ := bnd H
   refine WPL.qq (q_nm (q_gtr rfl rfl) (nm_bool h1)) ?_
   refine WPL.qq (q_mv (v := .lit (.bool _)) rfl) ?_
   refine WPL.split (t := 6) (b := x6) rfl (fun hb1 => ?_) (fun hb1 => ?_)
   · replace H := cnt hb1 H
     refine WPL.sg true rfl (lb hb1) ?_
     refine WPL.sg true rfl (lb hb1) ?_
     refine WPL.sg true rfl (lb hb1) ?_
     refine WPL.qq (q_pickT (v := .lit (.bool _)) (lb hb1) rfl) ?_
     refine WPL.nilW ?_
     have q0 := j1 H
     subst q0
     exact W.wk [0] hnp r3 ⟨rfl, AA1, by decide, rfl, trivial⟩ (LeE.u (LeE.u (LeE.u (LeE.none rfl rfl)))) rfl
   replace H := cnf hb1 H
   refine WPL.gq rfl (lb hb1) (q_mv (v := .lit (.string _)) rfl) ?_
   obtain ⟨x7, h2, H⟩ := bnd H
   refine WPL.cg rfl rfl (lb hb1) (runs_call (s := []) (t := []) (N := 1) (bor := []) fn47 rfl (s_utf_Xml k x1 x7 h2) ⟨rfl, trivial, by decide, rfl, trivial⟩ rfl trivial (.ren rfl rfl .nil) rfl trivial rfl) rfl ?_
   refine WPL.gq rfl (lb hb1) (q_neq rfl rfl) ?_
   refine WPL.qq (q_pickF (v := .lit (.bool _)) (lb hb1) rfl) ?_
   refine WPL.nilW ?_
   have q0 := j1 H
   subst q0
   exact W.wk [0] hnp r3 ⟨rfl, AA1, by decide, rfl, trivial⟩ (LeE.u (LeE.u (LeE.u (LeE.none rfl rfl)))) rfl
 rintro _ _ _ ⟨rfl, rfl, rfl⟩
 refine W.now ?_
 refine Then.n ?_
 refine WP.cond (t := x5) rfl (fun hb2 => ?_) (fun hb2 => ?_)
 · replace H := cnt hb2 H
   refine WP.sr ?_
   obtain ⟨x8, h3, H⟩ := bnd H
   refine WPL.c (runs_call (s := []) (t := [1]) (N := 2) (bor := []) fn16 rfl (s_val_Err k 2 x8 h3) ⟨rfl, trivial, by decide, rfl, trivial⟩ rfl trivial (.ren rfl rfl .nil) rfl BB1 rfl) rfl ?_
   refine WPL.s (s_store sz29 rfl rfl rfl rfl rfl) ?_
   refine WPL.nx ?_
   refine WP.retW ?_
   obtain ⟨rfl, rfl, rfl⟩ := j3 H
   exact W.now (Then.r (BodyR.mkR trivial rfl [0] ⟨rfl, rfl⟩ ⟨rfl, AA1, by decide, rfl, trivial⟩ rfl rfl))
 replace H := cnf hb2 H
 refine WP.skipW ?_
 refine W.now ?_
 refine Then.n ?_
 refine WP.sr ?_
 refine WPL.qq (q_mv (v := .lit (.string _)) rfl) ?_
 refine WPL.qq (q_build bu29 rfl) ?_
 refine WPL.s (s_store sz29 rfl rfl rfl rfl rfl) ?_
 refine WPL.nx ?_
 refine WP.retW ?_
 obtain ⟨rfl, rfl, rfl⟩ := j3 H
 exact W.now (BodyR.mkR trivial rfl [0] ⟨rfl, rfl⟩ ⟨rfl, AA1, by decide, rfl, trivial⟩ rfl rfl)
end Go.Proofs.YthpcgknknpjpdaaGreatDoor.W
