/- Texts joined: part 3 of what LInflateBehind stands on. -/
import Derived.Test.YtpceecokdpdgfaaSInflateBehindb
import Derived.Test.YtpceecokdpdgfaaProg
namespace Go.Proofs.Ytpceecokdpdgfaa.W
open Go Go.Q Go.Proofs
set_option linter.unusedVariables false
set_option linter.unusedSimpArgs false
theorem g_inflate_Lit_mono {k k' : Nat} (hk : k ≤ k') {x4 : Int} : Le (g_inflate_Lit k x4) (g_inflate_Lit k' x4) := by
  unfold g_inflate_Lit
  repeat' first | (with_reducible exact Le.rfl) | (with_reducible refine Le.bind ?_ ?_) | (with_reducible refine Le.cond ?_ ?_) | intro _ | split
theorem g_inflate_Dist_mono {k k' : Nat} (hk : k ≤ k') {x133 : Int} : Le (g_inflate_Dist k x133) (g_inflate_Dist k' x133) := by
  unfold g_inflate_Dist
  repeat' first | (with_reducible exact Le.rfl) | (with_reducible refine Le.bind ?_ ?_) | (with_reducible refine Le.cond ?_ ?_) | intro _ | split
theorem g_inflate_laid_l1_mono {k k' : Nat} (hk : k ≤ k') {x364 : S_inflate_run} : ∀ {n n' : Nat} (hn : n ≤ n') {y0 : Int} {y1 : (List Int)}, Le (g_inflate_laid_l1 k x364 n y0 y1) (g_inflate_laid_l1 k' x364 n' y0 y1)
  | 0, _, _ => Le.none rfl
  | n + 1, 0, h => absurd h (Nat.not_succ_le_zero n)
  | n + 1, n' + 1, hn => by
    rw [g_inflate_laid_l1.eq_2, g_inflate_laid_l1.eq_2]
    repeat' first | (with_reducible exact Le.rfl) | (with_reducible exact g_inflate_laid_l1_eqs_mono hk) | (with_reducible exact g_inflate_laid_l1_mono hk (Nat.le_of_succ_le_succ hn)) | (with_reducible refine Le.bind ?_ ?_) | (with_reducible refine Le.cond ?_ ?_) | intro _ | split
theorem g_inflate_laid_l0_mono {k k' : Nat} (hk : k ≤ k') {x261 : (List S_inflate_run)} : ∀ {n n' : Nat} (hn : n ≤ n') {y0 : Int} {y1 : (List Int)}, Le (g_inflate_laid_l0 k x261 n y0 y1) (g_inflate_laid_l0 k' x261 n' y0 y1)
  | 0, _, _ => Le.none rfl
  | n + 1, 0, h => absurd h (Nat.not_succ_le_zero n)
  | n + 1, n' + 1, hn => by
    rw [g_inflate_laid_l0.eq_2, g_inflate_laid_l0.eq_2]
    repeat' first | (with_reducible exact Le.rfl) | (with_reducible exact g_inflate_laid_l1_mono hk hk) | (with_reducible exact g_inflate_laid_l0_eqs_mono hk) | (with_reducible exact g_inflate_laid_l0_mono hk (Nat.le_of_succ_le_succ hn)) | (with_reducible refine Le.bind ?_ ?_) | (with_reducible refine Le.cond ?_ ?_) | intro _ | split
theorem g_inflate_laid_mono {k k' : Nat} (hk : k ≤ k') {x261 : (List S_inflate_run)} : Le (g_inflate_laid k x261) (g_inflate_laid k' x261) := by
  unfold g_inflate_laid
  repeat' first | (with_reducible exact Le.rfl) | (with_reducible exact g_inflate_laid_l0_mono hk hk) | (with_reducible refine Le.bind ?_ ?_) | (with_reducible refine Le.cond ?_ ?_) | intro _ | split
theorem g_inflate_FixedLit_mono {k k' : Nat} (hk : k ≤ k') : Le (g_inflate_FixedLit k) (g_inflate_FixedLit k') := by
  unfold g_inflate_FixedLit
  repeat' first | (with_reducible exact Le.rfl) | (with_reducible exact g_inflate_laid_mono hk) | (with_reducible refine Le.bind ?_ ?_) | (with_reducible refine Le.cond ?_ ?_) | intro _ | split
theorem g_inflate_FixedDist_mono {k k' : Nat} (hk : k ≤ k') : Le (g_inflate_FixedDist k) (g_inflate_FixedDist k') := by
  unfold g_inflate_FixedDist
  repeat' first | (with_reducible exact Le.rfl) | (with_reducible exact g_inflate_laid_mono hk) | (with_reducible refine Le.bind ?_ ?_) | (with_reducible refine Le.cond ?_ ?_) | intro _ | split
theorem g_slices_Clone_byte_byte_mono {k k' : Nat} (hk : k ≤ k') {x697 : (List Int)} : Le (g_slices_Clone_byte_byte k x697) (g_slices_Clone_byte_byte k' x697) := by
  unfold g_slices_Clone_byte_byte
  repeat' first | (with_reducible exact Le.rfl) | (with_reducible refine Le.bind ?_ ?_) | (with_reducible refine Le.cond ?_ ?_) | intro _ | split
theorem g_bits_NewReader_mono {k k' : Nat} (hk : k ≤ k') {x695 : (List Int)} : Le (g_bits_NewReader k x695) (g_bits_NewReader k' x695) := by
  unfold g_bits_NewReader
  repeat' first | (with_reducible exact Le.rfl) | (with_reducible exact g_slices_Clone_byte_byte_mono hk) | (with_reducible refine Le.bind ?_ ?_) | (with_reducible refine Le.cond ?_ ?_) | intro _ | split
theorem g_bits_Reader_Left_mono {k k' : Nat} (hk : k ≤ k') {x727 : (List Int)} {x728 : Int} : Le (g_bits_Reader_Left k x727 x728) (g_bits_Reader_Left k' x727 x728) := by
  unfold g_bits_Reader_Left
  repeat' first | (with_reducible exact Le.rfl) | (with_reducible refine Le.bind ?_ ?_) | (with_reducible refine Le.cond ?_ ?_) | intro _ | split
theorem g_bits_Reader_Take_l0_mono {k k' : Nat} (hk : k ≤ k') {x718 : Int} : ∀ {n n' : Nat} (hn : n ≤ n') {y0 : Int} {y1 : Int} {y2 : (List Int)} {y3 : Int}, Le (g_bits_Reader_Take_l0 k x718 n y0 y1 y2 y3) (g_bits_Reader_Take_l0 k' x718 n' y0 y1 y2 y3)
  | 0, _, _ => Le.none rfl
  | n + 1, 0, h => absurd h (Nat.not_succ_le_zero n)
  | n + 1, n' + 1, hn => by
    rw [g_bits_Reader_Take_l0.eq_2, g_bits_Reader_Take_l0.eq_2]
    repeat' first | (with_reducible exact Le.rfl) | (with_reducible exact g_bits_Reader_Take_l0_eqs_mono hk) | (with_reducible exact g_bits_Reader_Take_l0_mono hk (Nat.le_of_succ_le_succ hn)) | (with_reducible refine Le.bind ?_ ?_) | (with_reducible refine Le.cond ?_ ?_) | intro _ | split
theorem g_bits_Reader_Take_mono {k k' : Nat} (hk : k ≤ k') {x718 : Int} {x719 : (List Int)} {x720 : Int} : Le (g_bits_Reader_Take k x718 x719 x720) (g_bits_Reader_Take k' x718 x719 x720) := by
  unfold g_bits_Reader_Take
  repeat' first | (with_reducible exact Le.rfl) | (with_reducible exact g_bits_Reader_Left_mono hk) | (with_reducible exact g_bits_Reader_Take_l0_mono hk hk) | (with_reducible refine Le.bind ?_ ?_) | (with_reducible refine Le.cond ?_ ?_) | intro _ | split
theorem g_inflate_must_mono {k k' : Nat} (hk : k ≤ k') {x859 : Int} : Le (g_inflate_must k x859) (g_inflate_must k' x859) := by
  unfold g_inflate_must
  repeat' first | (with_reducible exact Le.rfl) | (with_reducible refine Le.bind ?_ ?_) | (with_reducible refine Le.cond ?_ ?_) | intro _ | split
theorem g_inflate_stream_take_mono {k k' : Nat} (hk : k ≤ k') {x712 : Int} {x713 : Int} {x714 : (List Int)} {x715 : Int} {x716 : (List Int)} : Le (g_inflate_stream_take k x712 x713 x714 x715 x716) (g_inflate_stream_take k' x712 x713 x714 x715 x716) := by
  unfold g_inflate_stream_take
  repeat' first | (with_reducible exact Le.rfl) | (with_reducible exact g_bits_Reader_Take_mono hk) | (with_reducible exact g_inflate_must_mono hk) | (with_reducible refine Le.bind ?_ ?_) | (with_reducible refine Le.cond ?_ ?_) | intro _ | split
theorem g_bits_Reader_Align_mono {k k' : Nat} (hk : k ≤ k') {x906 : (List Int)} {x907 : Int} : Le (g_bits_Reader_Align k x906 x907) (g_bits_Reader_Align k' x906 x907) := by
  unfold g_bits_Reader_Align
  repeat' first | (with_reducible exact Le.rfl) | (with_reducible refine Le.bind ?_ ?_) | (with_reducible refine Le.cond ?_ ?_) | intro _ | split
theorem g_slices_Clone_byte_byte__b_mono {k k' : Nat} (hk : k ≤ k') {x923 : (List Int)} : Le (g_slices_Clone_byte_byte__b k x923) (g_slices_Clone_byte_byte__b k' x923) := by
  unfold g_slices_Clone_byte_byte__b
  repeat' first | (with_reducible exact Le.rfl) | (with_reducible refine Le.bind ?_ ?_) | (with_reducible refine Le.cond ?_ ?_) | intro _ | split
theorem g_bits_Reader_Bytes_mono {k k' : Nat} (hk : k ≤ k') {x900 : Int} {x901 : (List Int)} {x902 : Int} : Le (g_bits_Reader_Bytes k x900 x901 x902) (g_bits_Reader_Bytes k' x900 x901 x902) := by
  unfold g_bits_Reader_Bytes
  repeat' first | (with_reducible exact Le.rfl) | (with_reducible exact g_bits_Reader_Align_mono hk) | (with_reducible exact g_slices_Clone_byte_byte__b_mono hk) | (with_reducible refine Le.bind ?_ ?_) | (with_reducible refine Le.cond ?_ ?_) | intro _ | split
theorem g_inflate_stream_bytes_mono {k k' : Nat} (hk : k ≤ k') {x894 : Int} {x895 : Int} {x896 : (List Int)} {x897 : Int} {x898 : (List Int)} : Le (g_inflate_stream_bytes k x894 x895 x896 x897 x898) (g_inflate_stream_bytes k' x894 x895 x896 x897 x898) := by
  unfold g_inflate_stream_bytes
  repeat' first | (with_reducible exact Le.rfl) | (with_reducible exact g_bits_Reader_Bytes_mono hk) | (with_reducible exact g_inflate_must_mono hk) | (with_reducible refine Le.bind ?_ ?_) | (with_reducible refine Le.cond ?_ ?_) | intro _ | split
theorem g_inflate_ask_mono {k k' : Nat} (hk : k ≤ k') {x979 : Bool} {x980 : Int} : Le (g_inflate_ask k x979 x980) (g_inflate_ask k' x979 x980) := by
  unfold g_inflate_ask
  repeat' first | (with_reducible exact Le.rfl) | (with_reducible exact g_inflate_must_mono hk) | (with_reducible refine Le.bind ?_ ?_) | (with_reducible refine Le.cond ?_ ?_) | intro _ | split
theorem g_inflate_stream_room_mono {k k' : Nat} (hk : k ≤ k') {x996 : Int} {x997 : Int} {x998 : (List Int)} {x999 : Int} {x1000 : (List Int)} : Le (g_inflate_stream_room k x996 x997 x998 x999 x1000) (g_inflate_stream_room k' x996 x997 x998 x999 x1000) := by
  unfold g_inflate_stream_room
  repeat' first | (with_reducible exact Le.rfl) | (with_reducible exact g_inflate_ask_mono hk) | (with_reducible refine Le.bind ?_ ?_) | (with_reducible refine Le.cond ?_ ?_) | intro _ | split
theorem g_inflate_stream_stored_mono {k k' : Nat} (hk : k ≤ k') {x889 : Int} {x890 : (List Int)} {x891 : Int} {x892 : (List Int)} : Le (g_inflate_stream_stored k x889 x890 x891 x892) (g_inflate_stream_stored k' x889 x890 x891 x892) := by
  unfold g_inflate_stream_stored
  repeat' first | (with_reducible exact Le.rfl) | (with_reducible exact g_inflate_stream_bytes_mono hk) | (with_reducible exact g_inflate_ask_mono hk) | (with_reducible exact g_inflate_stream_room_mono hk) | (with_reducible refine Le.bind ?_ ?_) | (with_reducible refine Le.cond ?_ ?_) | intro _ | split
theorem g_huff_judged_l0_mono {k k' : Nat} (hk : k ≤ k') {x1129 : (List Int)} : ∀ {n n' : Nat} (hn : n ≤ n') {y0 : Int} {y1 : Int} {y2 : Int}, Le (g_huff_judged_l0 k x1129 n y0 y1 y2) (g_huff_judged_l0 k' x1129 n' y0 y1 y2)
  | 0, _, _ => Le.none rfl
  | n + 1, 0, h => absurd h (Nat.not_succ_le_zero n)
  | n + 1, n' + 1, hn => by
    rw [g_huff_judged_l0.eq_2, g_huff_judged_l0.eq_2]
    repeat' first | (with_reducible exact Le.rfl) | (with_reducible exact g_huff_judged_l0_eqs_mono hk) | (with_reducible exact g_huff_judged_l0_mono hk (Nat.le_of_succ_le_succ hn)) | (with_reducible refine Le.bind ?_ ?_) | (with_reducible refine Le.cond ?_ ?_) | intro _ | split
theorem g_huff_judged_mono {k k' : Nat} (hk : k ≤ k') {x1129 : (List Int)} : Le (g_huff_judged k x1129) (g_huff_judged k' x1129) := by
  unfold g_huff_judged
  repeat' first | (with_reducible exact Le.rfl) | (with_reducible exact g_huff_judged_l0_mono hk hk) | (with_reducible refine Le.bind ?_ ?_) | (with_reducible refine Le.cond ?_ ?_) | intro _ | split
theorem g_huff_of_mono {k k' : Nat} (hk : k ≤ k') {x1370 : (List Int)} {x1371 : Int} : Le (g_huff_of k x1370 x1371) (g_huff_of k' x1370 x1371) := by
  unfold g_huff_of
  repeat' first | (with_reducible exact Le.rfl) | (with_reducible refine Le.bind ?_ ?_) | (with_reducible refine Le.cond ?_ ?_) | intro _ | split
theorem g_huff_New_l1_mono {k k' : Nat} (hk : k ≤ k') {x1127 : (List Int)} {x2069 : Int} : ∀ {n n' : Nat} (hn : n ≤ n') {y0 : Int} {y1 : (List Int)} {y2 : (List Int)}, Le (g_huff_New_l1 k x1127 x2069 n y0 y1 y2) (g_huff_New_l1 k' x1127 x2069 n' y0 y1 y2)
  | 0, _, _ => Le.none rfl
  | n + 1, 0, h => absurd h (Nat.not_succ_le_zero n)
  | n + 1, n' + 1, hn => by
    rw [g_huff_New_l1.eq_2, g_huff_New_l1.eq_2]
    repeat' first | (with_reducible exact Le.rfl) | (with_reducible exact g_huff_New_l1_eqs_mono hk) | (with_reducible exact g_huff_New_l1_mono hk (Nat.le_of_succ_le_succ hn)) | (with_reducible refine Le.bind ?_ ?_) | (with_reducible refine Le.cond ?_ ?_) | intro _ | split
theorem g_huff_New_l0_mono {k k' : Nat} (hk : k ≤ k') {x1127 : (List Int)} : ∀ {n n' : Nat} (hn : n ≤ n') {y0 : (List Int)} {y1 : (List Int)} {y2 : Int}, Le (g_huff_New_l0 k x1127 n y0 y1 y2) (g_huff_New_l0 k' x1127 n' y0 y1 y2)
  | 0, _, _ => Le.none rfl
  | n + 1, 0, h => absurd h (Nat.not_succ_le_zero n)
  | n + 1, n' + 1, hn => by
    rw [g_huff_New_l0.eq_2, g_huff_New_l0.eq_2]
    repeat' first | (with_reducible exact Le.rfl) | (with_reducible exact g_huff_of_mono hk) | (with_reducible exact g_huff_New_l1_mono hk hk) | (with_reducible exact g_huff_New_l0_eqs_mono hk) | (with_reducible exact g_huff_New_l0_mono hk (Nat.le_of_succ_le_succ hn)) | (with_reducible refine Le.bind ?_ ?_) | (with_reducible refine Le.cond ?_ ?_) | intro _ | split
theorem g_huff_New_mono {k k' : Nat} (hk : k ≤ k') {x1127 : (List Int)} : Le (g_huff_New k x1127) (g_huff_New k' x1127) := by
  unfold g_huff_New
  repeat' first | (with_reducible exact Le.rfl) | (with_reducible exact g_huff_judged_mono hk) | (with_reducible exact g_huff_New_l0_mono hk hk) | (with_reducible refine Le.bind ?_ ?_) | (with_reducible refine Le.cond ?_ ?_) | intro _ | split
theorem g_inflate_code_mono {k k' : Nat} (hk : k ≤ k') {x1125 : (List Int)} : Le (g_inflate_code k x1125) (g_inflate_code k' x1125) := by
  unfold g_inflate_code
  repeat' first | (with_reducible exact Le.rfl) | (with_reducible exact g_huff_New_mono hk) | (with_reducible exact g_inflate_must_mono hk) | (with_reducible refine Le.bind ?_ ?_) | (with_reducible refine Le.cond ?_ ?_) | intro _ | split
theorem g_huff_Decoder_begins_l0_mono {k k' : Nat} (hk : k ≤ k') {x2551 : Int} {x2552 : (List Int)} : ∀ {n n' : Nat} (hn : n ≤ n') {y0 : Int} {y1 : Int}, Le (g_huff_Decoder_begins_l0 k x2551 x2552 n y0 y1) (g_huff_Decoder_begins_l0 k' x2551 x2552 n' y0 y1)
  | 0, _, _ => Le.none rfl
  | n + 1, 0, h => absurd h (Nat.not_succ_le_zero n)
  | n + 1, n' + 1, hn => by
    rw [g_huff_Decoder_begins_l0.eq_2, g_huff_Decoder_begins_l0.eq_2]
    repeat' first | (with_reducible exact Le.rfl) | (with_reducible exact g_huff_Decoder_begins_l0_eqs_mono hk) | (with_reducible exact g_huff_Decoder_begins_l0_mono hk (Nat.le_of_succ_le_succ hn)) | (with_reducible refine Le.bind ?_ ?_) | (with_reducible refine Le.cond ?_ ?_) | intro _ | split
theorem g_huff_Decoder_begins_mono {k k' : Nat} (hk : k ≤ k') {x2550 : Int} {x2551 : Int} {x2552 : (List Int)} {x2553 : (List Int)} : Le (g_huff_Decoder_begins k x2550 x2551 x2552 x2553) (g_huff_Decoder_begins k' x2550 x2551 x2552 x2553) := by
  unfold g_huff_Decoder_begins
  repeat' first | (with_reducible exact Le.rfl) | (with_reducible exact g_huff_Decoder_begins_l0_mono hk hk) | (with_reducible refine Le.bind ?_ ?_) | (with_reducible refine Le.cond ?_ ?_) | intro _ | split
theorem g_huff_Decoder_Next_l0_mono {k k' : Nat} (hk : k ≤ k') {x2523 : (List Int)} {x2526 : (List Int)} : ∀ {n n' : Nat} (hn : n ≤ n') {y0 : Int} {y1 : Int} {y2 : Int} {y3 : Int} {y4 : (List Int)} {y5 : Int}, Le (g_huff_Decoder_Next_l0 k x2523 x2526 n y0 y1 y2 y3 y4 y5) (g_huff_Decoder_Next_l0 k' x2523 x2526 n' y0 y1 y2 y3 y4 y5)
  | 0, _, _ => Le.none rfl
  | n + 1, 0, h => absurd h (Nat.not_succ_le_zero n)
  | n + 1, n' + 1, hn => by
    rw [g_huff_Decoder_Next_l0.eq_2, g_huff_Decoder_Next_l0.eq_2]
    repeat' first | (with_reducible exact Le.rfl) | (with_reducible exact g_bits_Reader_Take_mono hk) | (with_reducible exact g_huff_Decoder_begins_mono hk) | (with_reducible exact g_huff_Decoder_Next_l0_eqs_mono hk) | (with_reducible exact g_huff_Decoder_Next_l0_mono hk (Nat.le_of_succ_le_succ hn)) | (with_reducible refine Le.bind ?_ ?_) | (with_reducible refine Le.cond ?_ ?_) | intro _ | split
theorem g_huff_Decoder_Next_mono {k k' : Nat} (hk : k ≤ k') {x2523 : (List Int)} {x2524 : (List Int)} {x2525 : Int} {x2526 : (List Int)} : Le (g_huff_Decoder_Next k x2523 x2524 x2525 x2526) (g_huff_Decoder_Next k' x2523 x2524 x2525 x2526) := by
  unfold g_huff_Decoder_Next
  repeat' first | (with_reducible exact Le.rfl) | (with_reducible exact g_huff_Decoder_Next_l0_mono hk hk) | (with_reducible refine Le.bind ?_ ?_) | (with_reducible refine Le.cond ?_ ?_) | intro _ | split
theorem g_inflate_stream_sym_mono {k k' : Nat} (hk : k ≤ k') {x2516 : Int} {x2517 : (List Int)} {x2518 : Int} {x2519 : (List Int)} {x2520 : (List Int)} {x2521 : (List Int)} : Le (g_inflate_stream_sym k x2516 x2517 x2518 x2519 x2520 x2521) (g_inflate_stream_sym k' x2516 x2517 x2518 x2519 x2520 x2521) := by
  unfold g_inflate_stream_sym
  repeat' first | (with_reducible exact Le.rfl) | (with_reducible exact g_huff_Decoder_Next_mono hk) | (with_reducible exact g_inflate_must_mono hk) | (with_reducible refine Le.bind ?_ ?_) | (with_reducible refine Le.cond ?_ ?_) | intro _ | split
theorem g_inflate_stream_copied_l0_mono {k k' : Nat} (hk : k ≤ k') {x2986 : Int} {x2993 : Int} {x3004 : Int} {x3011 : Int} : ∀ {n n' : Nat} (hn : n ≤ n') {y0 : Int} {y1 : (List Int)}, Le (g_inflate_stream_copied_l0 k x2986 x2993 x3004 x3011 n y0 y1) (g_inflate_stream_copied_l0 k' x2986 x2993 x3004 x3011 n' y0 y1)
  | 0, _, _ => Le.none rfl
  | n + 1, 0, h => absurd h (Nat.not_succ_le_zero n)
  | n + 1, n' + 1, hn => by
    rw [g_inflate_stream_copied_l0.eq_2, g_inflate_stream_copied_l0.eq_2]
    repeat' first | (with_reducible exact Le.rfl) | (with_reducible exact g_inflate_stream_copied_l0_eqs_mono hk) | (with_reducible exact g_inflate_stream_copied_l0_mono hk (Nat.le_of_succ_le_succ hn)) | (with_reducible refine Le.bind ?_ ?_) | (with_reducible refine Le.cond ?_ ?_) | intro _ | split
theorem g_inflate_stream_copied_mono {k k' : Nat} (hk : k ≤ k') {x2906 : Int} {x2907 : Int} {x2908 : (List Int)} {x2909 : Int} {x2910 : (List Int)} {x2911 : (List Int)} {x2912 : (List Int)} : Le (g_inflate_stream_copied k x2906 x2907 x2908 x2909 x2910 x2911 x2912) (g_inflate_stream_copied k' x2906 x2907 x2908 x2909 x2910 x2911 x2912) := by
  unfold g_inflate_stream_copied
  repeat' first | (with_reducible exact Le.rfl) | (with_reducible exact g_inflate_Lit_mono hk) | (with_reducible exact g_inflate_ask_mono hk) | (with_reducible exact g_inflate_stream_take_mono hk) | (with_reducible exact g_inflate_stream_sym_mono hk) | (with_reducible exact g_inflate_Dist_mono hk) | (with_reducible exact g_inflate_stream_room_mono hk) | (with_reducible exact g_inflate_stream_copied_l0_mono hk hk) | (with_reducible refine Le.bind ?_ ?_) | (with_reducible refine Le.cond ?_ ?_) | intro _ | split
theorem g_inflate_stream_coded_l0_mono {k k' : Nat} (hk : k ≤ k') {x2507 : Int} {x2510 : (List Int)} {x2511 : (List Int)} {x2513 : (List Int)} {x2514 : (List Int)} : ∀ {n n' : Nat} (hn : n ≤ n') {y0 : (List Int)} {y1 : Int} {y2 : (List Int)}, Le (g_inflate_stream_coded_l0 k x2507 x2510 x2511 x2513 x2514 n y0 y1 y2) (g_inflate_stream_coded_l0 k' x2507 x2510 x2511 x2513 x2514 n' y0 y1 y2)
  | 0, _, _ => Le.none rfl
  | n + 1, 0, h => absurd h (Nat.not_succ_le_zero n)
  | n + 1, n' + 1, hn => by
    rw [g_inflate_stream_coded_l0.eq_2, g_inflate_stream_coded_l0.eq_2]
    repeat' first | (with_reducible exact Le.rfl) | (with_reducible exact g_inflate_stream_sym_mono hk) | (with_reducible exact g_inflate_stream_room_mono hk) | (with_reducible exact g_inflate_stream_copied_mono hk) | (with_reducible exact g_inflate_stream_coded_l0_eqs_mono hk) | (with_reducible exact g_inflate_stream_coded_l0_mono hk (Nat.le_of_succ_le_succ hn)) | (with_reducible refine Le.bind ?_ ?_) | (with_reducible refine Le.cond ?_ ?_) | intro _ | split
theorem g_inflate_stream_coded_mono {k k' : Nat} (hk : k ≤ k') {x2507 : Int} {x2508 : (List Int)} {x2509 : Int} {x2510 : (List Int)} {x2511 : (List Int)} {x2512 : (List Int)} {x2513 : (List Int)} {x2514 : (List Int)} : Le (g_inflate_stream_coded k x2507 x2508 x2509 x2510 x2511 x2512 x2513 x2514) (g_inflate_stream_coded k' x2507 x2508 x2509 x2510 x2511 x2512 x2513 x2514) := by
  unfold g_inflate_stream_coded
  repeat' first | (with_reducible exact Le.rfl) | (with_reducible exact g_inflate_stream_coded_l0_mono hk hk) | (with_reducible refine Le.bind ?_ ?_) | (with_reducible refine Le.cond ?_ ?_) | intro _ | split
theorem g_huff_Full_mono {k k' : Nat} (hk : k ≤ k') {x3243 : (List Int)} : Le (g_huff_Full k x3243) (g_huff_Full k' x3243) := by
  unfold g_huff_Full
  repeat' first | (with_reducible exact Le.rfl) | (with_reducible exact g_huff_judged_mono hk) | (with_reducible refine Le.bind ?_ ?_) | (with_reducible refine Le.cond ?_ ?_) | intro _ | split
theorem g_inflate_stream_runs_mono {k k' : Nat} (hk : k ≤ k') {x3262 : Int} {x3263 : (List Int)} {x3264 : Int} {x3265 : (List Int)} {x3266 : (List Int)} {x3267 : (List Int)} : Le (g_inflate_stream_runs k x3262 x3263 x3264 x3265 x3266 x3267) (g_inflate_stream_runs k' x3262 x3263 x3264 x3265 x3266 x3267) := by
  unfold g_inflate_stream_runs
  repeat' first | (with_reducible exact Le.rfl) | (with_reducible refine Le.bind ?_ ?_) | (with_reducible refine Le.cond ?_ ?_) | intro _ | split
theorem g_inflate_stream_dynamic_1__b_mono {k k' : Nat} (hk : k ≤ k') {x3377 : (List Int)} : Le (g_inflate_stream_dynamic_1__b k x3377) (g_inflate_stream_dynamic_1__b k' x3377) := by
  unfold g_inflate_stream_dynamic_1__b
  repeat' first | (with_reducible exact Le.rfl) | (with_reducible refine Le.bind ?_ ?_) | (with_reducible refine Le.cond ?_ ?_) | intro _ | split
theorem g_inflate_stream_dynamic_l0_mono {k k' : Nat} (hk : k ≤ k') {x3171 : Int} {x3174 : (List Int)} {x3649 : Int} {x3670 : Int} : ∀ {n n' : Nat} (hn : n ≤ n') {y0 : Int} {y1 : (List Int)} {y2 : Int} {y3 : (List Int)}, Le (g_inflate_stream_dynamic_l0 k x3171 x3174 x3649 x3670 n y0 y1 y2 y3) (g_inflate_stream_dynamic_l0 k' x3171 x3174 x3649 x3670 n' y0 y1 y2 y3)
  | 0, _, _ => Le.none rfl
  | n + 1, 0, h => absurd h (Nat.not_succ_le_zero n)
  | n + 1, n' + 1, hn => by
    rw [g_inflate_stream_dynamic_l0.eq_2, g_inflate_stream_dynamic_l0.eq_2]
    repeat' first | (with_reducible exact Le.rfl) | (with_reducible exact g_inflate_stream_take_mono hk) | (with_reducible exact g_inflate_stream_dynamic_l0_eqs_mono hk) | (with_reducible exact g_inflate_stream_dynamic_l0_mono hk (Nat.le_of_succ_le_succ hn)) | (with_reducible refine Le.bind ?_ ?_) | (with_reducible refine Le.cond ?_ ?_) | intro _ | split
theorem g_inflate_stream_dynamic_l1_mono {k k' : Nat} (hk : k ≤ k') {x3171 : Int} {x3174 : (List Int)} {x3637 : Int} {x3643 : Int} {x3719 : (List Int)} {x3720 : (List Int)} : ∀ {n n' : Nat} (hn : n ≤ n') {y0 : (List Int)} {y1 : Int} {y2 : (List Int)}, Le (g_inflate_stream_dynamic_l1 k x3171 x3174 x3637 x3643 x3719 x3720 n y0 y1 y2) (g_inflate_stream_dynamic_l1 k' x3171 x3174 x3637 x3643 x3719 x3720 n' y0 y1 y2)
  | 0, _, _ => Le.none rfl
  | n + 1, 0, h => absurd h (Nat.not_succ_le_zero n)
  | n + 1, n' + 1, hn => by
    rw [g_inflate_stream_dynamic_l1.eq_2, g_inflate_stream_dynamic_l1.eq_2]
    repeat' first | (with_reducible exact Le.rfl) | (with_reducible exact g_inflate_stream_sym_mono hk) | (with_reducible exact g_inflate_stream_dynamic_1__b_mono hk) | (with_reducible exact g_inflate_ask_mono hk) | (with_reducible exact g_inflate_stream_take_mono hk) | (with_reducible exact g_inflate_laid_mono hk) | (with_reducible exact g_inflate_stream_dynamic_l1_eqs_mono hk) | (with_reducible exact g_inflate_stream_dynamic_l1_mono hk (Nat.le_of_succ_le_succ hn)) | (with_reducible refine Le.bind ?_ ?_) | (with_reducible refine Le.cond ?_ ?_) | intro _ | split
theorem g_inflate_stream_dynamic_mono {k k' : Nat} (hk : k ≤ k') {x3171 : Int} {x3172 : (List Int)} {x3173 : Int} {x3174 : (List Int)} : Le (g_inflate_stream_dynamic k x3171 x3172 x3173 x3174) (g_inflate_stream_dynamic k' x3171 x3172 x3173 x3174) := by
  unfold g_inflate_stream_dynamic
  repeat' first | (with_reducible exact Le.rfl) | (with_reducible exact g_inflate_stream_take_mono hk) | (with_reducible exact g_inflate_ask_mono hk) | (with_reducible exact g_inflate_stream_dynamic_l0_mono hk hk) | (with_reducible exact g_huff_Full_mono hk) | (with_reducible exact g_inflate_code_mono hk) | (with_reducible exact g_inflate_stream_runs_mono hk) | (with_reducible exact g_inflate_stream_dynamic_l1_mono hk hk) | (with_reducible exact g_inflate_stream_coded_mono hk) | (with_reducible refine Le.bind ?_ ?_) | (with_reducible refine Le.cond ?_ ?_) | intro _ | split
theorem g_inflate_stream_all_l0_mono {k k' : Nat} (hk : k ≤ k') {x707 : Int} : ∀ {n n' : Nat} (hn : n ≤ n') {y0 : Int} {y1 : (List Int)} {y2 : Int} {y3 : (List Int)}, Le (g_inflate_stream_all_l0 k x707 n y0 y1 y2 y3) (g_inflate_stream_all_l0 k' x707 n' y0 y1 y2 y3)
  | 0, _, _ => Le.none rfl
  | n + 1, 0, h => absurd h (Nat.not_succ_le_zero n)
  | n + 1, n' + 1, hn => by
    rw [g_inflate_stream_all_l0.eq_2, g_inflate_stream_all_l0.eq_2]
    repeat' first | (with_reducible exact Le.rfl) | (with_reducible exact g_inflate_stream_take_mono hk) | (with_reducible exact g_inflate_stream_stored_mono hk) | (with_reducible exact g_inflate_FixedLit_mono hk) | (with_reducible exact g_inflate_code_mono hk) | (with_reducible exact g_inflate_FixedDist_mono hk) | (with_reducible exact g_inflate_stream_coded_mono hk) | (with_reducible exact g_inflate_stream_dynamic_mono hk) | (with_reducible exact g_inflate_must_mono hk) | (with_reducible exact g_inflate_stream_all_l0_eqs_mono hk) | (with_reducible exact g_inflate_stream_all_l0_mono hk (Nat.le_of_succ_le_succ hn)) | (with_reducible refine Le.bind ?_ ?_) | (with_reducible refine Le.cond ?_ ?_) | intro _ | split
theorem g_inflate_stream_all_mono {k k' : Nat} (hk : k ≤ k') {x707 : Int} {x708 : (List Int)} {x709 : Int} {x710 : (List Int)} : Le (g_inflate_stream_all k x707 x708 x709 x710) (g_inflate_stream_all k' x707 x708 x709 x710) := by
  unfold g_inflate_stream_all
  repeat' first | (with_reducible exact Le.rfl) | (with_reducible exact g_inflate_stream_all_l0_mono hk hk) | (with_reducible refine Le.bind ?_ ?_) | (with_reducible refine Le.cond ?_ ?_) | intro _ | split
theorem g_inflate_Inflate_mono {k k' : Nat} (hk : k ≤ k') {x690 : (List Int)} {x691 : Int} : Le (g_inflate_Inflate k x690 x691) (g_inflate_Inflate k' x690 x691) := by
  unfold g_inflate_Inflate
  repeat' first | (with_reducible exact Le.rfl) | (with_reducible exact g_bits_NewReader_mono hk) | (with_reducible exact g_inflate_stream_all_mono hk) | (with_reducible exact g_bits_Reader_Left_mono hk) | (with_reducible refine Le.bind ?_ ?_) | (with_reducible refine Le.cond ?_ ?_) | intro _ | split
theorem g_bits_NewReader__b_mono {k k' : Nat} (hk : k ≤ k') {x4465 : (List Int)} : Le (g_bits_NewReader__b k x4465) (g_bits_NewReader__b k' x4465) := by
  unfold g_bits_NewReader__b
  repeat' first | (with_reducible exact Le.rfl) | (with_reducible exact g_slices_Clone_byte_byte__b_mono hk) | (with_reducible refine Le.bind ?_ ?_) | (with_reducible refine Le.cond ?_ ?_) | intro _ | split
theorem g_inflate_Inflate__b_mono {k k' : Nat} (hk : k ≤ k') {x4460 : (List Int)} {x4461 : Int} : Le (g_inflate_Inflate__b k x4460 x4461) (g_inflate_Inflate__b k' x4460 x4461) := by
  unfold g_inflate_Inflate__b
  repeat' first | (with_reducible exact Le.rfl) | (with_reducible exact g_bits_NewReader__b_mono hk) | (with_reducible exact g_inflate_stream_all_mono hk) | (with_reducible exact g_bits_Reader_Left_mono hk) | (with_reducible refine Le.bind ?_ ?_) | (with_reducible refine Le.cond ?_ ?_) | intro _ | split
theorem g_quirelaw03_alive_mono {k k' : Nat} (hk : k ≤ k') : Le (g_quirelaw03_alive k) (g_quirelaw03_alive k') := by
  unfold g_quirelaw03_alive
  repeat' first | (with_reducible exact Le.rfl) | (with_reducible exact g_inflate_Inflate_mono hk) | (with_reducible exact g_inflate_Inflate__b_mono hk) | (with_reducible refine Le.bind ?_ ?_) | (with_reducible refine Le.cond ?_ ?_) | intro _ | split
end Go.Proofs.Ytpceecokdpdgfaa.W
namespace Go.Proofs.Ytpceecokdpdgfaa.W
open Go Go.Q Go.Proofs
set_option linter.unusedVariables false
set_option linter.unusedSimpArgs false
set_option maxRecDepth 100000
theorem mixed : Try.prog.follows .mixedOrders = true := rfl
theorem fn6 : FnIs Try.prog 6 := ⟨_, Try.func6, rfl, by kernel_rfl⟩
theorem fn8 : FnIs Try.prog 8 := ⟨_, Try.func8, rfl, by kernel_rfl⟩
theorem bu40 : BuildIs Try.prog 40 (placeOf [(0, 1), (1, 1)]) [.int .i64 0, .int .i64 0] := BuildIs.struct (it := Try.t40) rfl Try.underlying40 rfl rfl rfl (by intro v hv; simp only [List.mem_cons, List.not_mem_nil, or_false] at hv; (try rcases hv with rfl | rfl) <;> (subst_vars; rfl))
theorem sz40 : SzIs Try.prog 40 2 := ⟨Try.t40, rfl, rfl⟩
theorem li49 : LitIs Try.prog 49 40 2 [.int .i64 0, .int .i64 0] := ⟨Try.underlying49, ⟨Try.t40, _, rfl, rfl, rfl, rfl⟩, by intro v hv; simp at hv; (try rcases hv with rfl | hv) <;> first | rfl | (subst hv; rfl) | simp_all [Value.oneCell']⟩
theorem sl49 : SlIs Try.prog 49 40 2 := ⟨Try.underlying49, sz40⟩
theorem ag40 : Ag Try.prog 40 2 := ⟨_, Try.t40, Try.underlying40, rfl, rfl, trivial⟩
theorem ze40 : ZeroIs Try.prog 40 [.int .i64 0, .int .i64 0] := ⟨⟨Try.t40, _, rfl, rfl, rfl⟩, by intro v hv; simp only [List.mem_cons, List.not_mem_nil, or_false] at hv; (try rcases hv with rfl | rfl) <;> (subst_vars; rfl)⟩
theorem fi40_0 : FieldIs Try.prog 40 0 0 3 1 := ⟨_, _, Try.t3, Try.underlying40, rfl, rfl, rfl, rfl, rfl⟩
theorem sc3 : Sc Try.prog 3 := ⟨_, Try.t3, Try.underlying3, rfl, rfl, trivial⟩
theorem fi40_1 : FieldIs Try.prog 40 1 1 3 1 := ⟨_, _, Try.t3, Try.underlying40, rfl, rfl, rfl, rfl, rfl⟩
theorem sz3 : SzIs Try.prog 3 1 := ⟨Try.t3, rfl, rfl⟩
theorem li25 : LitIs Try.prog 25 3 1 [.int .i64 0] := ⟨Try.underlying25, ⟨Try.t3, _, rfl, rfl, rfl, rfl⟩, by intro v hv; simp at hv; (try rcases hv with rfl | hv) <;> first | rfl | (subst hv; rfl) | simp_all [Value.oneCell']⟩
theorem ap25 : ApIs Try.prog 25 3 1 8 := ⟨Try.underlying25, ⟨Try.t3, _, rfl, rfl, rfl, rfl, rfl⟩, by decide, by decide⟩
theorem sl25 : SlIs Try.prog 25 3 1 := ⟨Try.underlying25, sz3⟩
theorem fn20 : FnIs Try.prog 20 := ⟨_, Try.func20, rfl, by kernel_rfl⟩
theorem fn11 : FnIs Try.prog 11 := ⟨_, Try.func11, rfl, by kernel_rfl⟩
theorem fn13 : FnIs Try.prog 13 := ⟨_, Try.func13, rfl, by kernel_rfl⟩
theorem sz5 : SzIs Try.prog 5 1 := ⟨Try.t5, rfl, rfl⟩
theorem li29 : LitIs Try.prog 29 5 1 [.int .u8 0] := ⟨Try.underlying29, ⟨Try.t5, _, rfl, rfl, rfl, rfl⟩, by intro v hv; simp at hv; (try rcases hv with rfl | hv) <;> first | rfl | (subst hv; rfl) | simp_all [Value.oneCell']⟩
theorem ze29 : ZeroIs Try.prog 29 [.slice none 0 0] := ⟨⟨Try.t29, _, rfl, rfl, rfl⟩, by intro v hv; simp only [List.mem_cons, List.not_mem_nil, or_false] at hv; (try rcases hv with rfl) <;> (subst_vars; rfl)⟩
theorem ze3 : ZeroIs Try.prog 3 [.int .i64 0] := ⟨⟨Try.t3, _, rfl, rfl, rfl⟩, by intro v hv; simp only [List.mem_cons, List.not_mem_nil, or_false] at hv; (try rcases hv with rfl) <;> (subst_vars; rfl)⟩
theorem ze30 : ZeroIs Try.prog 30 [.int .i64 0] := ⟨⟨Try.t30, _, rfl, rfl, rfl⟩, by intro v hv; simp only [List.mem_cons, List.not_mem_nil, or_false] at hv; (try rcases hv with rfl) <;> (subst_vars; rfl)⟩
theorem sz29 : SzIs Try.prog 29 1 := ⟨Try.t29, rfl, rfl⟩
theorem sz30 : SzIs Try.prog 30 1 := ⟨Try.t30, rfl, rfl⟩
theorem ap29 : ApIs Try.prog 29 5 1 1 := ⟨Try.underlying29, ⟨Try.t5, _, rfl, rfl, rfl, rfl, rfl⟩, by decide, by decide⟩
theorem sl29 : SlIs Try.prog 29 5 1 := ⟨Try.underlying29, sz5⟩
theorem fn25 : FnIs Try.prog 25 := ⟨_, Try.func25, rfl, by kernel_rfl⟩
theorem bu52 : BuildIs Try.prog 52 (placeOf [(0, 1), (1, 1)]) [.slice none 0 0, .int .i64 0] := BuildIs.struct (it := Try.t52) rfl Try.underlying52 rfl rfl rfl (by intro v hv; simp only [List.mem_cons, List.not_mem_nil, or_false] at hv; (try rcases hv with rfl | rfl) <;> (subst_vars; rfl))
theorem fn21 : FnIs Try.prog 21 := ⟨_, Try.func21, rfl, by kernel_rfl⟩
theorem bu45 : BuildIs Try.prog 45 (placeOf [(0, 1), (1, 1), (2, 1)]) [.pointer none, .slice none 0 0, .int .i64 0] := BuildIs.struct (it := Try.t45) rfl Try.underlying45 rfl rfl rfl (by intro v hv; simp only [List.mem_cons, List.not_mem_nil, or_false] at hv; (try rcases hv with rfl | rfl | rfl) <;> (subst_vars; rfl))
theorem fi45_0 : FieldIs Try.prog 45 0 0 42 1 := ⟨_, _, Try.t42, Try.underlying45, rfl, rfl, rfl, rfl, rfl⟩
theorem sc42 : Sc Try.prog 42 := ⟨_, Try.t42, Try.underlying42, rfl, rfl, trivial⟩
theorem fi52_0 : FieldIs Try.prog 52 0 0 29 1 := ⟨_, _, Try.t29, Try.underlying52, rfl, rfl, rfl, rfl, rfl⟩
theorem sc29 : Sc Try.prog 29 := ⟨_, Try.t29, Try.underlying29, rfl, rfl, trivial⟩
theorem fi52_1 : FieldIs Try.prog 52 1 1 3 1 := ⟨_, _, Try.t3, Try.underlying52, rfl, rfl, rfl, rfl, rfl⟩
theorem fn24 : FnIs Try.prog 24 := ⟨_, Try.func24, rfl, by kernel_rfl⟩
theorem sc5 : Sc Try.prog 5 := ⟨_, Try.t5, Try.underlying5, rfl, rfl, trivial⟩
theorem fn32 : FnIs Try.prog 32 := ⟨_, Try.func32, rfl, by kernel_rfl⟩
theorem cn46 : Conc Try.prog 46 := ⟨_, Try.underlying46, trivial⟩
theorem fn31 : FnIs Try.prog 31 := ⟨_, Try.func31, rfl, by kernel_rfl⟩
theorem fn26 : FnIs Try.prog 26 := ⟨_, Try.func26, rfl, by kernel_rfl⟩
theorem fn47 : FnIs Try.prog 47 := ⟨_, Try.func47, rfl, by kernel_rfl⟩
theorem fn42 : FnIs Try.prog 42 := ⟨_, Try.func42, rfl, by kernel_rfl⟩
theorem fn33 : FnIs Try.prog 33 := ⟨_, Try.func33, rfl, by kernel_rfl⟩
theorem fn34 : FnIs Try.prog 34 := ⟨_, Try.func34, rfl, by kernel_rfl⟩
theorem fi45_2 : FieldIs Try.prog 45 2 2 3 1 := ⟨_, _, Try.t3, Try.underlying45, rfl, rfl, rfl, rfl, rfl⟩
theorem fi45_1 : FieldIs Try.prog 45 1 1 29 1 := ⟨_, _, Try.t29, Try.underlying45, rfl, rfl, rfl, rfl, rfl⟩
theorem fn35 : FnIs Try.prog 35 := ⟨_, Try.func35, rfl, by kernel_rfl⟩
theorem fn27 : FnIs Try.prog 27 := ⟨_, Try.func27, rfl, by kernel_rfl⟩
theorem fn44 : FnIs Try.prog 44 := ⟨_, Try.func44, rfl, by kernel_rfl⟩
theorem bu82 : BuildIs Try.prog 82 (placeOf [(0, 16), (16, 1)]) [.int .i64 0, .int .i64 0, .int .i64 0, .int .i64 0, .int .i64 0, .int .i64 0, .int .i64 0, .int .i64 0, .int .i64 0, .int .i64 0, .int .i64 0, .int .i64 0, .int .i64 0, .int .i64 0, .int .i64 0, .int .i64 0, .slice none 0 0] := BuildIs.struct (it := Try.t82) rfl Try.underlying82 rfl rfl rfl (by intro v hv; simp only [List.mem_cons, List.not_mem_nil, or_false] at hv; (try rcases hv with rfl | rfl | rfl | rfl | rfl | rfl | rfl | rfl | rfl | rfl | rfl | rfl | rfl | rfl | rfl | rfl | rfl) <;> (subst_vars; rfl))
theorem ze54 : ZeroIs Try.prog 54 [.pointer none] := ⟨⟨Try.t54, _, rfl, rfl, rfl⟩, by intro v hv; simp only [List.mem_cons, List.not_mem_nil, or_false] at hv; (try rcases hv with rfl) <;> (subst_vars; rfl)⟩
theorem sz54 : SzIs Try.prog 54 1 := ⟨Try.t54, rfl, rfl⟩
theorem fn45 : FnIs Try.prog 45 := ⟨_, Try.func45, rfl, by kernel_rfl⟩
theorem sc25 : Sc Try.prog 25 := ⟨_, Try.t25, Try.underlying25, rfl, rfl, trivial⟩
theorem sc54 : Sc Try.prog 54 := ⟨_, Try.t54, Try.underlying54, rfl, rfl, trivial⟩
theorem fi82_0 : FieldIs Try.prog 82 0 0 80 16 := ⟨_, _, Try.t80, Try.underlying82, rfl, rfl, rfl, rfl, rfl⟩
theorem ar80 : ArIs Try.prog 80 3 16 1 := ⟨Try.underlying80, sz3⟩
theorem fi82_1 : FieldIs Try.prog 82 1 16 25 1 := ⟨_, _, Try.t25, Try.underlying82, rfl, rfl, rfl, rfl, rfl⟩
theorem sz25 : SzIs Try.prog 25 1 := ⟨Try.t25, rfl, rfl⟩
theorem fn38 : FnIs Try.prog 38 := ⟨_, Try.func38, rfl, by kernel_rfl⟩
theorem fn29 : FnIs Try.prog 29 := ⟨_, Try.func29, rfl, by kernel_rfl⟩
theorem ag52 : Ag Try.prog 52 2 := ⟨_, Try.t52, Try.underlying52, rfl, rfl, trivial⟩
theorem ze52 : ZeroIs Try.prog 52 [.slice none 0 0, .int .i64 0] := ⟨⟨Try.t52, _, rfl, rfl, rfl⟩, by intro v hv; simp only [List.mem_cons, List.not_mem_nil, or_false] at hv; (try rcases hv with rfl | rfl) <;> (subst_vars; rfl)⟩
theorem sz52 : SzIs Try.prog 52 2 := ⟨Try.t52, rfl, rfl⟩
theorem fn48 : FnIs Try.prog 48 := ⟨_, Try.func48, rfl, by kernel_rfl⟩
theorem fn43 : FnIs Try.prog 43 := ⟨_, Try.func43, rfl, by kernel_rfl⟩
theorem fn36 : FnIs Try.prog 36 := ⟨_, Try.func36, rfl, by kernel_rfl⟩
theorem fn37 : FnIs Try.prog 37 := ⟨_, Try.func37, rfl, by kernel_rfl⟩
theorem fn28 : FnIs Try.prog 28 := ⟨_, Try.func28, rfl, by kernel_rfl⟩
theorem bu67 : BuildIs Try.prog 67 (placeAt 1) [.int .i64 0, .int .i64 0, .int .i64 0, .int .i64 0, .int .i64 0, .int .i64 0, .int .i64 0, .int .i64 0, .int .i64 0, .int .i64 0, .int .i64 0, .int .i64 0, .int .i64 0, .int .i64 0, .int .i64 0, .int .i64 0, .int .i64 0, .int .i64 0, .int .i64 0] := BuildIs.array (it := Try.t67) (ie := Try.t3) rfl Try.underlying67 rfl rfl rfl rfl (fun v hv => List.all_eq_true.1 (show ([.int .i64 0, .int .i64 0, .int .i64 0, .int .i64 0, .int .i64 0, .int .i64 0, .int .i64 0, .int .i64 0, .int .i64 0, .int .i64 0, .int .i64 0, .int .i64 0, .int .i64 0, .int .i64 0, .int .i64 0, .int .i64 0, .int .i64 0, .int .i64 0, .int .i64 0] : List Value).all (fun v => v.oneCell') = true from rfl) v hv)
theorem ze67 : ZeroIs Try.prog 67 [.int .i64 0, .int .i64 0, .int .i64 0, .int .i64 0, .int .i64 0, .int .i64 0, .int .i64 0, .int .i64 0, .int .i64 0, .int .i64 0, .int .i64 0, .int .i64 0, .int .i64 0, .int .i64 0, .int .i64 0, .int .i64 0, .int .i64 0, .int .i64 0, .int .i64 0] := ⟨⟨Try.t67, _, rfl, rfl, rfl⟩, by intro v hv; simp only [List.mem_cons, List.not_mem_nil, or_false] at hv; (try rcases hv with rfl | rfl | rfl | rfl | rfl | rfl | rfl | rfl | rfl | rfl | rfl | rfl | rfl | rfl | rfl | rfl | rfl | rfl | rfl) <;> (subst_vars; rfl)⟩
theorem sz67 : SzIs Try.prog 67 19 := ⟨Try.t67, rfl, rfl⟩
theorem ar67 : ArIs Try.prog 67 3 19 1 := ⟨Try.underlying67, sz3⟩
theorem fn39 : FnIs Try.prog 39 := ⟨_, Try.func39, rfl, by kernel_rfl⟩
theorem ze25 : ZeroIs Try.prog 25 [.slice none 0 0] := ⟨⟨Try.t25, _, rfl, rfl, rfl⟩, by intro v hv; simp only [List.mem_cons, List.not_mem_nil, or_false] at hv; (try rcases hv with rfl) <;> (subst_vars; rfl)⟩
theorem fn41 : FnIs Try.prog 41 := ⟨_, Try.func41, rfl, by kernel_rfl⟩
theorem sc41 : Sc Try.prog 41 := ⟨_, Try.t41, Try.underlying41, rfl, rfl, trivial⟩
theorem sc69 : Sc Try.prog 69 := ⟨_, Try.t69, Try.underlying69, rfl, rfl, trivial⟩
theorem fn40 : FnIs Try.prog 40 := ⟨_, Try.func40, rfl, by kernel_rfl⟩
theorem fn30 : FnIs Try.prog 30 := ⟨_, Try.func30, rfl, by kernel_rfl⟩
theorem fn23 : FnIs Try.prog 23 := ⟨_, Try.func23, rfl, by kernel_rfl⟩
theorem sc30 : Sc Try.prog 30 := ⟨_, Try.t30, Try.underlying30, rfl, rfl, trivial⟩
theorem fn16 : FnIs Try.prog 16 := ⟨_, Try.func16, rfl, by kernel_rfl⟩
theorem fn15 : FnIs Try.prog 15 := ⟨_, Try.func15, rfl, by kernel_rfl⟩
theorem fn17 : FnIs Try.prog 17 := ⟨_, Try.func17, rfl, by kernel_rfl⟩
end Go.Proofs.Ytpceecokdpdgfaa.W
namespace Go.Proofs.Ytpceecokdpdgfaa.W
open Go Go.Q Go.Proofs
set_option linter.unusedVariables false
set_option linter.unusedSimpArgs false
set_option maxRecDepth 100000 in
set_option maxHeartbeats 4000000 in
theorem s_inflate_Lit (k : Nat) (x4 : Int) (x24 : Int) (x25 : Int) (x26 : Bool) (H : g_inflate_Lit k x4 = some (x24, x25, x26)) : Go.Q.Spec Try.prog 6 0 [.lit (.int .i64 x4)] Mem.nil (fun o M => o = .ret (.tup [.lit (.int .i64 x24), .lit (.int .i64 x25), .lit (.bool x26)]) ∧ M = Mem.nil) := by
 unfold g_inflate_Lit at H
 refine Go.Q.Spec.of_bodyR (az := []) (rs := [.tmp 2, .tmp 3, .tmp 4]) (nt := 31) Try.func6 rfl rfl (by intro t T h; simp at h) rfl rfl fun cx hnp => ?_
 refine WP.seq ?_
 refine WP.region ?_
 refine WPL.q (q_as (v := .lit (.int _ _)) rfl) rfl ?_
 refine WPL.q (q_as (v := .lit (.int _ _)) rfl) rfl ?_
 refine WPL.q (q_as (v := .lit (.bool _)) rfl) rfl ?_
 refine WPL.nilW ?_
 refine W.now ?_
 refine Then.n ?_
 refine WP.seq ?_
 refine WP.block ?_
 refine WP.seq ?_
 obtain ⟨x35, H36, H⟩ := bnd H
 refine WP.monoW (Q := fun x E M => x = .normal ∧ E = ((Env.none.upd 0 (.lit (.int .i64 x4))).upd 5 (.lit (.bool x35))) ∧ M = Mem.nil) ?_ ?_
 · clear H
   have H := H36
   clear H36
   refine WP.region ?_
   refine WPL.q (q_mv (v := .lit (.int _ _)) rfl) rfl ?_
   refine WPL.q (q_lss rfl rfl) rfl ?_
   refine WPL.q (q_mv (v := .lit (.bool _)) rfl) rfl ?_
   refine WPL.split (t := 8) (b := (decide (x4 < 257))) rfl (fun hb35 => ?_) (fun hb35 => ?_)
   · replace H := cnt hb35 H
     refine WPL.skipg (b' := true) rfl rfl (lb hb35) rfl rfl (.inl trivial) ?_
     refine WPL.skipg (b' := true) rfl rfl (lb hb35) rfl rfl (.inl trivial) ?_
     refine WPL.q (q_pickT (v := .lit (.bool _)) (lb hb35) rfl) rfl ?_
     refine WPL.q (q_as (v := .lit (.bool _)) rfl) rfl ?_
     refine WPL.nilW ?_
     have q0 := (Option.some.inj H)
     subst q0
     exact W.wk [] hnp ⟨rfl, rfl, rfl⟩ ⟨rfl, trivial, by decide, rfl, trivial⟩ (LeE.upd rfl rfl (LeE.upd rfl rfl (LeE.none rfl rfl))) rfl
   replace H := cnf hb35 H
   refine WPL.qg rfl rfl (lb hb35) (q_mv (v := .lit (.int _ _)) rfl) rfl ?_
   refine WPL.qg rfl rfl (lb hb35) (q_gtr rfl rfl) rfl ?_
   refine WPL.q (q_pickF (v := .lit (.bool _)) (lb hb35) rfl) rfl ?_
   refine WPL.q (q_as (v := .lit (.bool _)) rfl) rfl ?_
   refine WPL.nilW ?_
   have q0 := (Option.some.inj H)
   subst q0
   exact W.wk [] hnp ⟨rfl, rfl, rfl⟩ ⟨rfl, trivial, by decide, rfl, trivial⟩ (LeE.upd rfl rfl (LeE.upd rfl rfl (LeE.none rfl rfl))) rfl
 rintro _ _ _ ⟨rfl, rfl, rfl⟩
 refine W.now ?_
 refine Then.n ?_
 refine WP.cond (t := x35) rfl (fun hb37 => ?_) (fun hb37 => ?_)
 · replace H := cnt hb37 H
   refine WP.seq ?_
   refine WP.region ?_
   refine WPL.q (q_as (v := .lit (.int _ _)) rfl) rfl ?_
   refine WPL.q (q_as (v := .lit (.int _ _)) rfl) rfl ?_
   refine WPL.q (q_as (v := .lit (.bool _)) rfl) rfl ?_
   refine WPL.nilW ?_
   refine W.now ?_
   refine Then.n ?_
   refine WP.retW ?_
   have q0 := (Prod.mk.inj (Option.some.inj H)).1
   have q1 := (Prod.mk.inj (Prod.mk.inj (Option.some.inj H)).2).1
   have q2 := (Prod.mk.inj (Prod.mk.inj (Option.some.inj H)).2).2
   subst q0
   subst q1
   subst q2
   exact W.now (InBlock.r (Then.r (BodyR.mkR trivial rfl [] ⟨rfl, rfl⟩ ⟨rfl, trivial, by decide, rfl, trivial⟩ rfl rfl)))
 replace H := cnf hb37 H
 refine WP.seq ?_
 refine WP.region ?_
 refine WPL.q (q_mv (v := .lit (.int _ _)) rfl) rfl ?_
 refine WPL.q (q_eql rfl rfl) rfl ?_
 refine WPL.q (q_as (v := .lit (.bool _)) rfl) rfl ?_
 refine WPL.nilW ?_
 refine W.now ?_
 refine Then.n ?_
 refine WP.cond (t := (decide (x4 = 285))) rfl (fun hb38 => ?_) (fun hb38 => ?_)
 · replace H := cnt hb38 H
   refine WP.seq ?_
   refine WP.region ?_
   refine WPL.q (q_as (v := .lit (.int _ _)) rfl) rfl ?_
   refine WPL.q (q_as (v := .lit (.int _ _)) rfl) rfl ?_
   refine WPL.q (q_as (v := .lit (.bool _)) rfl) rfl ?_
   refine WPL.nilW ?_
   refine W.now ?_
   refine Then.n ?_
   refine WP.retW ?_
   have q0 := (Prod.mk.inj (Option.some.inj H)).1
   have q1 := (Prod.mk.inj (Prod.mk.inj (Option.some.inj H)).2).1
   have q2 := (Prod.mk.inj (Prod.mk.inj (Option.some.inj H)).2).2
   subst q0
   subst q1
   subst q2
   exact W.now (InBlock.r (Then.r (BodyR.mkR trivial rfl [] ⟨rfl, rfl⟩ ⟨rfl, trivial, by decide, rfl, trivial⟩ rfl rfl)))
 replace H := cnf hb38 H
 refine WP.seq ?_
 refine WP.region ?_
 refine WPL.q (q_mv (v := .lit (.int _ _)) rfl) rfl ?_
 refine WPL.q (q_lss rfl rfl) rfl ?_
 refine WPL.q (q_as (v := .lit (.bool _)) rfl) rfl ?_
 refine WPL.nilW ?_
 refine W.now ?_
 refine Then.n ?_
 refine WP.cond (t := (decide (x4 < 265))) rfl (fun hb39 => ?_) (fun hb39 => ?_)
 · replace H := cnt hb39 H
   refine WP.seq ?_
   refine WP.region ?_
   refine WPL.q (q_mv (v := .lit (.int _ _)) rfl) rfl ?_
   refine WPL.q (q_sub rfl rfl) rfl ?_
   refine WPL.q (q_as (v := .lit (.int _ _)) rfl) rfl ?_
   refine WPL.q (q_as (v := .lit (.int _ _)) rfl) rfl ?_
   refine WPL.q (q_as (v := .lit (.bool _)) rfl) rfl ?_
   refine WPL.nilW ?_
   refine W.now ?_
   refine Then.n ?_
   refine WP.retW ?_
   have q0 := (Prod.mk.inj (Option.some.inj H)).1
   have q1 := (Prod.mk.inj (Prod.mk.inj (Option.some.inj H)).2).1
   have q2 := (Prod.mk.inj (Prod.mk.inj (Option.some.inj H)).2).2
   subst q0
   subst q1
   subst q2
   exact W.now (InBlock.r (Then.r (BodyR.mkR trivial rfl [] ⟨rfl, rfl⟩ ⟨rfl, trivial, by decide, rfl, trivial⟩ rfl rfl)))
 replace H := cnf hb39 H
 refine WP.skipW ?_
 refine W.now ?_
 refine InBlock.n ?_
 refine Then.n ?_
 refine WP.seq ?_
 refine WP.region ?_
 refine WPL.q (q_mv (v := .lit (.int _ _)) rfl) rfl ?_
 refine WPL.q (q_sub rfl rfl) rfl ?_
 obtain ⟨x41, h41, H⟩ := bnd H
 refine WPL.q (q_nm (q_quo rfl rfl rfl) (nm_int h41)) rfl ?_
 refine WPL.q (q_as (v := .lit (.int _ _)) rfl) rfl ?_
 refine WPL.nilW ?_
 refine W.now ?_
 refine Then.n ?_
 refine WP.seq ?_
 refine WP.region ?_
 refine WPL.q (q_mv (v := .lit (.int _ _)) rfl) rfl ?_
 refine WPL.q (q_sub rfl rfl) rfl ?_
 obtain ⟨x42, h42, H⟩ := bnd H
 refine WPL.q (q_nm (q_rem rfl rfl rfl) (nm_int h42)) rfl ?_
 refine WPL.q (q_add rfl rfl) rfl ?_
 refine WPL.q (q_mv (v := .lit (.int _ _)) rfl) rfl ?_
 obtain ⟨h42, H⟩ := grd H
 obtain ⟨x44, h44, H⟩ := bnd H
 refine WPL.q (q_nm (q_shl rfl rfl h42) (nm_int h44)) rfl ?_
 refine WPL.q (q_add rfl rfl) rfl ?_
 refine WPL.q (q_mv (v := .lit (.int _ _)) rfl) rfl ?_
 refine WPL.q (q_as (v := .lit (.int _ _)) rfl) rfl ?_
 refine WPL.q (q_as (v := .lit (.int _ _)) rfl) rfl ?_
 refine WPL.q (q_as (v := .lit (.bool _)) rfl) rfl ?_
 refine WPL.nilW ?_
 refine W.now ?_
 refine Then.n ?_
 refine WP.retW ?_
 have q0 := (Prod.mk.inj (Option.some.inj H)).1
 have q1 := (Prod.mk.inj (Prod.mk.inj (Option.some.inj H)).2).1
 have q2 := (Prod.mk.inj (Prod.mk.inj (Option.some.inj H)).2).2
 subst q0
 subst q1
 subst q2
 exact W.now (BodyR.mkR trivial rfl [] ⟨rfl, rfl⟩ ⟨rfl, trivial, by decide, rfl, trivial⟩ rfl rfl)
set_option maxRecDepth 100000 in
set_option maxHeartbeats 4000000 in
theorem s_inflate_Dist (k : Nat) (x133 : Int) (x151 : Int) (x152 : Int) (x153 : Bool) (H : g_inflate_Dist k x133 = some (x151, x152, x153)) : Go.Q.Spec Try.prog 8 0 [.lit (.int .i64 x133)] Mem.nil (fun o M => o = .ret (.tup [.lit (.int .i64 x151), .lit (.int .i64 x152), .lit (.bool x153)]) ∧ M = Mem.nil) := by
 unfold g_inflate_Dist at H
 refine Go.Q.Spec.of_bodyR (az := []) (rs := [.tmp 2, .tmp 3, .tmp 4]) (nt := 27) Try.func8 rfl rfl (by intro t T h; simp at h) rfl rfl fun cx hnp => ?_
 refine WP.seq ?_
 refine WP.region ?_
 refine WPL.q (q_as (v := .lit (.int _ _)) rfl) rfl ?_
 refine WPL.q (q_as (v := .lit (.int _ _)) rfl) rfl ?_
 refine WPL.q (q_as (v := .lit (.bool _)) rfl) rfl ?_
 refine WPL.nilW ?_
 refine W.now ?_
 refine Then.n ?_
 refine WP.seq ?_
 refine WP.block ?_
 refine WP.seq ?_
 obtain ⟨x161, H162, H⟩ := bnd H
 refine WP.monoW (Q := fun x E M => x = .normal ∧ E = ((Env.none.upd 0 (.lit (.int .i64 x133))).upd 5 (.lit (.bool x161))) ∧ M = Mem.nil) ?_ ?_
 · clear H
   have H := H162
   clear H162
   refine WP.region ?_
   refine WPL.q (q_mv (v := .lit (.int _ _)) rfl) rfl ?_
   refine WPL.q (q_lss rfl rfl) rfl ?_
   refine WPL.q (q_mv (v := .lit (.bool _)) rfl) rfl ?_
   refine WPL.split (t := 8) (b := (decide (x133 < 0))) rfl (fun hb161 => ?_) (fun hb161 => ?_)
   · replace H := cnt hb161 H
     refine WPL.skipg (b' := true) rfl rfl (lb hb161) rfl rfl (.inl trivial) ?_
     refine WPL.skipg (b' := true) rfl rfl (lb hb161) rfl rfl (.inl trivial) ?_
     refine WPL.q (q_pickT (v := .lit (.bool _)) (lb hb161) rfl) rfl ?_
     refine WPL.q (q_as (v := .lit (.bool _)) rfl) rfl ?_
     refine WPL.nilW ?_
     have q0 := (Option.some.inj H)
     subst q0
     exact W.wk [] hnp ⟨rfl, rfl, rfl⟩ ⟨rfl, trivial, by decide, rfl, trivial⟩ (LeE.upd rfl rfl (LeE.upd rfl rfl (LeE.none rfl rfl))) rfl
   replace H := cnf hb161 H
   refine WPL.qg rfl rfl (lb hb161) (q_mv (v := .lit (.int _ _)) rfl) rfl ?_
   refine WPL.qg rfl rfl (lb hb161) (q_gtr rfl rfl) rfl ?_
   refine WPL.q (q_pickF (v := .lit (.bool _)) (lb hb161) rfl) rfl ?_
   refine WPL.q (q_as (v := .lit (.bool _)) rfl) rfl ?_
   refine WPL.nilW ?_
   have q0 := (Option.some.inj H)
   subst q0
   exact W.wk [] hnp ⟨rfl, rfl, rfl⟩ ⟨rfl, trivial, by decide, rfl, trivial⟩ (LeE.upd rfl rfl (LeE.upd rfl rfl (LeE.none rfl rfl))) rfl
 rintro _ _ _ ⟨rfl, rfl, rfl⟩
 refine W.now ?_
 refine Then.n ?_
 refine WP.cond (t := x161) rfl (fun hb163 => ?_) (fun hb163 => ?_)
 · replace H := cnt hb163 H
   refine WP.seq ?_
   refine WP.region ?_
   refine WPL.q (q_as (v := .lit (.int _ _)) rfl) rfl ?_
   refine WPL.q (q_as (v := .lit (.int _ _)) rfl) rfl ?_
   refine WPL.q (q_as (v := .lit (.bool _)) rfl) rfl ?_
   refine WPL.nilW ?_
   refine W.now ?_
   refine Then.n ?_
   refine WP.retW ?_
   have q0 := (Prod.mk.inj (Option.some.inj H)).1
   have q1 := (Prod.mk.inj (Prod.mk.inj (Option.some.inj H)).2).1
   have q2 := (Prod.mk.inj (Prod.mk.inj (Option.some.inj H)).2).2
   subst q0
   subst q1
   subst q2
   exact W.now (InBlock.r (Then.r (BodyR.mkR trivial rfl [] ⟨rfl, rfl⟩ ⟨rfl, trivial, by decide, rfl, trivial⟩ rfl rfl)))
 replace H := cnf hb163 H
 refine WP.seq ?_
 refine WP.region ?_
 refine WPL.q (q_mv (v := .lit (.int _ _)) rfl) rfl ?_
 refine WPL.q (q_lss rfl rfl) rfl ?_
 refine WPL.q (q_as (v := .lit (.bool _)) rfl) rfl ?_
 refine WPL.nilW ?_
 refine W.now ?_
 refine Then.n ?_
 refine WP.cond (t := (decide (x133 < 4))) rfl (fun hb164 => ?_) (fun hb164 => ?_)
 · replace H := cnt hb164 H
   refine WP.seq ?_
   refine WP.region ?_
   refine WPL.q (q_mv (v := .lit (.int _ _)) rfl) rfl ?_
   refine WPL.q (q_add rfl rfl) rfl ?_
   refine WPL.q (q_as (v := .lit (.int _ _)) rfl) rfl ?_
   refine WPL.q (q_as (v := .lit (.int _ _)) rfl) rfl ?_
   refine WPL.q (q_as (v := .lit (.bool _)) rfl) rfl ?_
   refine WPL.nilW ?_
   refine W.now ?_
   refine Then.n ?_
   refine WP.retW ?_
   have q0 := (Prod.mk.inj (Option.some.inj H)).1
   have q1 := (Prod.mk.inj (Prod.mk.inj (Option.some.inj H)).2).1
   have q2 := (Prod.mk.inj (Prod.mk.inj (Option.some.inj H)).2).2
   subst q0
   subst q1
   subst q2
   exact W.now (InBlock.r (Then.r (BodyR.mkR trivial rfl [] ⟨rfl, rfl⟩ ⟨rfl, trivial, by decide, rfl, trivial⟩ rfl rfl)))
 replace H := cnf hb164 H
 refine WP.skipW ?_
 refine W.now ?_
 refine InBlock.n ?_
 refine Then.n ?_
 refine WP.seq ?_
 refine WP.region ?_
 refine WPL.q (q_mv (v := .lit (.int _ _)) rfl) rfl ?_
 refine WPL.q (q_quo rfl rfl rfl) rfl ?_
 obtain ⟨x166, h166, H⟩ := bnd H
 refine WPL.q (q_nm (q_sub rfl rfl) (nm_int h166)) rfl ?_
 refine WPL.q (q_as (v := .lit (.int _ _)) rfl) rfl ?_
 refine WPL.nilW ?_
 refine W.now ?_
 refine Then.n ?_
 refine WP.seq ?_
 refine WP.region ?_
 refine WPL.q (q_mv (v := .lit (.int _ _)) rfl) rfl ?_
 refine WPL.q (q_rem rfl rfl rfl) rfl ?_
 obtain ⟨x167, h167, H⟩ := bnd H
 refine WPL.q (q_nm (q_add rfl rfl) (nm_int h167)) rfl ?_
 refine WPL.q (q_mv (v := .lit (.int _ _)) rfl) rfl ?_
 obtain ⟨h167, H⟩ := grd H
 refine WPL.q (q_shl rfl rfl h167) rfl ?_
 obtain ⟨x169, h169, H⟩ := bnd H
 refine WPL.q (q_nm (q_add rfl rfl) (nm_int h169)) rfl ?_
 refine WPL.q (q_mv (v := .lit (.int _ _)) rfl) rfl ?_
 refine WPL.q (q_as (v := .lit (.int _ _)) rfl) rfl ?_
 refine WPL.q (q_as (v := .lit (.int _ _)) rfl) rfl ?_
 refine WPL.q (q_as (v := .lit (.bool _)) rfl) rfl ?_
 refine WPL.nilW ?_
 refine W.now ?_
 refine Then.n ?_
 refine WP.retW ?_
 have q0 := (Prod.mk.inj (Option.some.inj H)).1
 have q1 := (Prod.mk.inj (Prod.mk.inj (Option.some.inj H)).2).1
 have q2 := (Prod.mk.inj (Prod.mk.inj (Option.some.inj H)).2).2
 subst q0
 subst q1
 subst q2
 exact W.now (BodyR.mkR trivial rfl [] ⟨rfl, rfl⟩ ⟨rfl, trivial, by decide, rfl, trivial⟩ rfl rfl)
set_option maxRecDepth 100000 in
set_option maxHeartbeats 4000000 in
theorem s_inflate_laid (k : Nat) (x261 : (List S_inflate_run)) (x312 : (List Int)) (H : g_inflate_laid k x261 = some x312) : Go.Q.Spec Try.prog 20 0 [.ro (Rd.slice rdS_inflate_run) true x261] Mem.nil (fun o M => o = .ret (.ro (Rd.slice (Rd.int .i64)) false x312) ∧ M = Mem.nil) := by
 unfold g_inflate_laid at H
 refine Go.Q.Spec.of_bodyR (az := []) (rs := [.tmp 2]) (nt := 24) Try.func20 rfl rfl (by intro t T h; simp at h) rfl rfl fun cx hnp => ?_
 refine WP.seq ?_
 refine WP.region ?_
 refine WPL.q (q_as (v := .lit _) rfl) rfl ?_
 refine WPL.nilW ?_
 refine W.now ?_
 refine Then.n ?_
 refine WP.seq ?_
 refine WP.region ?_
 refine WPL.q (q_as (v := .lit _) rfl) rfl ?_
 refine WPL.nilW ?_
 refine W.now ?_
 refine Then.n ?_
 refine WP.seq ?_
 refine WP.seq ?_
 refine WP.region ?_
 refine WPL.q (q_mv (v := .ro _ _ _) rfl) rfl ?_
 refine WPL.q (q_len_ro sl49 rfl) rfl ?_
 refine WPL.q (q_mv (v := .lit (.int _ _)) rfl) rfl ?_
 refine WPL.nilW ?_
 refine W.now ?_
 refine Then.n ?_
 refine WP.block ?_
 refine WP.cv (Cv.vir 3 (Rd.int .i64) (N := 0) rfl 3 rfl) ?_
 refine WP.cv (Cv.weak (E' := ((((Env.none.upd 3 (.whole 0)).upd 6 (.ro (Rd.slice rdS_inflate_run) true x261)).upd 7 (.lit (.int .i64 ((List.length x261 : Nat) : Int)))).upd 8 (.lit (.int .i64 0)))) (M' := (Mem.nil.push (.row 3 (Rd.int .i64) ([] : List Int)))) [0] hnp ⟨rfl, ⟨trivial, .inr ⟨rfl, rfl, rfl⟩⟩, by decide, rfl, trivial⟩ (LeE.upd rfl rfl (LeE.upd rfl rfl (LeE.upd rfl rfl (LeE.upd rfl rfl (LeE.none rfl rfl)))))) ?_
 obtain ⟨x360, H377, H⟩ := bnd H
 refine WP.monoW (Q := fun x E M => x = .exit 0 ∧ E = (Env.none.upd 3 (.whole 0)) ∧ M = (Mem.nil.push (.row 3 (Rd.int .i64) x360))) ?_ ?_
 · refine WP.loop (β := Int × (List Int)) (fun n b => g_inflate_laid_l0 k x261 n b.1 b.2 = some x360) (fun b => ((((Env.none.upd 3 (.whole 0)).upd 6 (.ro (Rd.slice rdS_inflate_run) true x261)).upd 7 (.lit (.int .i64 ((List.length x261 : Nat) : Int)))).upd 8 (.lit (.int .i64 b.1)))) (fun b => (Mem.nil.push (.row 3 (Rd.int .i64) b.2))) k (0, ([] : List Int)) H377 rfl rfl ?_
   rintro n ⟨x344, x345⟩ H
   obtain _ | n := n
   · exact nf rfl H
   rw [g_inflate_laid_l0.eq_2] at H
   show WP _ _ _ _ ((((Env.none.upd 3 (.whole 0)).upd 6 (.ro (Rd.slice rdS_inflate_run) true x261)).upd 7 (.lit (.int .i64 ((List.length x261 : Nat) : Int)))).upd 8 (.lit (.int .i64 x344))) (Mem.nil.push (.row 3 (Rd.int .i64) x345)) _
   refine WP.seq ?_
   refine WP.region ?_
   obtain ⟨x361, h361, H⟩ := bnd H
   refine WPL.q (q_nm (q_lss rfl rfl) (nm_bool h361)) rfl ?_
   refine WPL.nilW ?_
   refine W.now ?_
   refine Then.n ?_
   refine WP.seq ?_
   refine WP.cond (t := x361) rfl (fun hb362 => ?_) (fun hb362 => ?_)
   · replace H := cnt hb362 H
     refine WP.skipW ?_
     refine W.now ?_
     refine Then.n ?_
     refine WP.seq ?_
     refine WP.block ?_
     refine WP.seq ?_
     refine WP.region ?_
     obtain ⟨x364, h364, H⟩ := bnd H
     refine WPL.q (q_index_ro sl49 rfl rfl rfl h364) rfl ?_
     refine WPL.q (q_load_roag ag40 rfl rfl S_inflate_run.sp) rfl ?_
     refine WPL.d (d_alloc ze40 rfl) rfl ?_
     refine WPL.s (s_store sz40 rfl rfl rfl rfl rfl) ?_
     refine WPL.nilW ?_
     refine W.now ?_
     refine Then.n ?_
     refine WP.seq ?_
     refine WP.region ?_
     refine WPL.q (q_fieldAddr fi40_0 rfl rfl) rfl ?_
     refine WPL.q (q_load sc3 rfl rfl rfl) rfl ?_
     refine WPL.q (q_mv (v := .lit (.int _ _)) rfl) rfl ?_
     refine WPL.nilW ?_
     refine W.now ?_
     refine Then.n ?_
     refine WP.block ?_
     refine WP.cv (Cv.weak (E' := (((((((Env.none.upd 3 (.whole 0)).upd 5 (.ptr 1 0)).upd 6 (.ro (Rd.slice rdS_inflate_run) true x261)).upd 7 (.lit (.int .i64 ((List.length x261 : Nat) : Int)))).upd 8 (.lit (.int .i64 x344))).upd 13 (.lit (.int .i64 x364.fmany))).upd 14 (.lit (.int .i64 0)))) (M' := ((Mem.nil.push (.row 3 (Rd.int .i64) x345)).push (.cells 40 [.lit (.int .i64 x364.fmany), .lit (.int .i64 x364.flength)]))) [0, 1] hnp ⟨rfl, ⟨⟨trivial, .inr ⟨rfl, rfl, rfl⟩⟩, .inr ⟨rfl, rfl, rfl⟩⟩, by decide, rfl, trivial⟩ (LeE.upd rfl rfl (LeE.upd rfl rfl (LeE.upd rfl rfl (LeE.upd rfl rfl (LeE.upd rfl rfl (LeE.upd rfl rfl (LeE.upd rfl rfl (LeE.none rfl rfl))))))))) ?_
     obtain ⟨x373, H376, H⟩ := bnd H
     refine WP.monoW (Q := fun x E M => x = .exit 2 ∧ E = ((((Env.none.upd 3 (.whole 0)).upd 6 (.ro (Rd.slice rdS_inflate_run) true x261)).upd 7 (.lit (.int .i64 ((List.length x261 : Nat) : Int)))).upd 8 (.lit (.int .i64 x344))) ∧ M = (Mem.nil.push (.row 3 (Rd.int .i64) x373))) ?_ ?_
     · refine WP.loop (β := Int × (List Int)) (fun n b => g_inflate_laid_l1 k x364 n b.1 b.2 = some x373) (fun b => (((((((Env.none.upd 3 (.whole 0)).upd 5 (.ptr 1 0)).upd 6 (.ro (Rd.slice rdS_inflate_run) true x261)).upd 7 (.lit (.int .i64 ((List.length x261 : Nat) : Int)))).upd 8 (.lit (.int .i64 x344))).upd 13 (.lit (.int .i64 x364.fmany))).upd 14 (.lit (.int .i64 b.1)))) (fun b => ((Mem.nil.push (.row 3 (Rd.int .i64) b.2)).push (.cells 40 [.lit (.int .i64 x364.fmany), .lit (.int .i64 x364.flength)]))) k (0, x345) H376 rfl rfl ?_
       rintro n ⟨x368, x369⟩ H
       obtain _ | n := n
       · exact nf rfl H
       rw [g_inflate_laid_l1.eq_2] at H
       show WP _ _ _ _ (((((((Env.none.upd 3 (.whole 0)).upd 5 (.ptr 1 0)).upd 6 (.ro (Rd.slice rdS_inflate_run) true x261)).upd 7 (.lit (.int .i64 ((List.length x261 : Nat) : Int)))).upd 8 (.lit (.int .i64 x344))).upd 13 (.lit (.int .i64 x364.fmany))).upd 14 (.lit (.int .i64 x368))) ((Mem.nil.push (.row 3 (Rd.int .i64) x369)).push (.cells 40 [.lit (.int .i64 x364.fmany), .lit (.int .i64 x364.flength)])) _
       refine WP.seq ?_
       refine WP.region ?_
       refine WPL.q (q_lss rfl rfl) rfl ?_
       refine WPL.nilW ?_
       refine W.now ?_
       refine Then.n ?_
       refine WP.seq ?_
       refine WP.cond (t := (decide (x368 < x364.fmany))) rfl (fun hb374 => ?_) (fun hb374 => ?_)
       · replace H := cnt hb374 H
         refine WP.skipW ?_
         refine W.now ?_
         refine Then.n ?_
         refine WP.seq ?_
         refine WP.block ?_
         refine WP.region ?_
         refine WPL.q (q_mv (v := .whole _) rfl) rfl ?_
         refine WPL.q (q_fieldAddr fi40_1 rfl rfl) rfl ?_
         refine WPL.q (q_load sc3 rfl rfl rfl) rfl ?_
         refine WPL.d (d_buildSlice (ds := ([x364.flength] : List Int)) (R := (Rd.int .i64)) li25 rfl rfl rfl rfl rfl (JoinRows.cons1 Joins.sc rfl JoinRows.nil) rfl rfl) rfl ?_
         obtain ⟨h375, H⟩ := grd H
         refine WPL.d (d_append ap25 rfl rfl rfl rfl (src_row sl25 rfl rfl) h375 rfl) rfl ?_
         refine WPL.q (q_as (v := .whole _) rfl) rfl ?_
         refine WPL.nilW ?_
         refine W.now ?_
         refine InBlock.n ?_
         refine Then.n ?_
         refine WP.region ?_
         refine WPL.q (q_add rfl rfl) rfl ?_
         refine WPL.q (q_mv (v := .lit (.int _ _)) rfl) rfl ?_
         refine WPL.nilW ?_
         exact W.wk [3, 1] hnp (Then.n ⟨n, ((IntKind.wrap .i64 (x368 + 1)), (x369 ++ ([x364.flength] : List Int))), Nat.lt_succ_self n, H, rfl, rfl⟩) ⟨rfl, ⟨⟨trivial, .inr ⟨rfl, rfl, rfl⟩⟩, .inr ⟨rfl, rfl, rfl⟩⟩, by decide, rfl, trivial⟩ (LeE.upd rfl rfl (LeE.upd rfl rfl (LeE.upd rfl rfl (LeE.upd rfl rfl (LeE.upd rfl rfl (LeE.upd rfl rfl (LeE.upd rfl rfl (LeE.none rfl rfl)))))))) rfl
       replace H := cnf hb374 H
       refine WP.exitW ?_
       have q0 := (Option.some.inj H)
       subst q0
       exact W.wk [0] hnp (Then.x (Then.x ⟨rfl, rfl, rfl⟩)) ⟨rfl, ⟨trivial, .inr ⟨rfl, rfl, rfl⟩⟩, by decide, rfl, trivial⟩ (LeE.upd rfl rfl (LeE.upd rfl rfl (LeE.upd rfl rfl (LeE.upd rfl rfl (LeE.none rfl rfl))))) rfl
     rintro _ _ _ ⟨rfl, rfl, rfl⟩
     refine W.now ?_
     refine InBlock.x0 ?_
     refine InBlock.n ?_
     refine Then.n ?_
     refine WP.region ?_
     refine WPL.q (q_add rfl rfl) rfl ?_
     refine WPL.q (q_mv (v := .lit (.int _ _)) rfl) rfl ?_
     refine WPL.nilW ?_
     exact W.wk [0] hnp (Then.n ⟨n, ((IntKind.wrap .i64 (x344 + 1)), x373), Nat.lt_succ_self n, H, rfl, rfl⟩) ⟨rfl, ⟨trivial, .inr ⟨rfl, rfl, rfl⟩⟩, by decide, rfl, trivial⟩ (LeE.upd rfl rfl (LeE.upd rfl rfl (LeE.upd rfl rfl (LeE.upd rfl rfl (LeE.none rfl rfl))))) rfl
   replace H := cnf hb362 H
   refine WP.exitW ?_
   have q0 := (Option.some.inj H)
   subst q0
   exact W.wk [0] hnp (Then.x (Then.x ⟨rfl, rfl, rfl⟩)) ⟨rfl, ⟨trivial, .inr ⟨rfl, rfl, rfl⟩⟩, by decide, rfl, trivial⟩ (LeE.upd rfl rfl (LeE.none rfl rfl)) rfl
 rintro _ _ _ ⟨rfl, rfl, rfl⟩
 refine W.now ?_
 refine InBlock.x0 ?_
 refine Then.n ?_
 refine WP.seq ?_
 refine WP.region ?_
 refine WPL.q (q_mv (v := .whole _) rfl) rfl ?_
 refine WPL.q (q_as (v := .whole _) rfl) rfl ?_
 refine WPL.nilW ?_
 refine W.now ?_
 refine Then.n ?_
 refine WP.retW ?_
 refine W.cv (Cv.frzRow (i := 0) rfl rfl hnp rfl rfl) rfl ?_
 have q0 := (Option.some.inj H)
 subst q0
 exact W.now (BodyR.mkR trivial rfl [] ⟨rfl, rfl⟩ ⟨rfl, trivial, by decide, rfl, trivial⟩ rfl rfl)
set_option maxRecDepth 100000 in
set_option maxHeartbeats 4000000 in
theorem s_inflate_FixedLit (k : Nat) (x381 : (List Int)) (H : g_inflate_FixedLit k = some x381) : Go.Q.Spec Try.prog 11 0 [] Mem.nil (fun o M => o = .ret (.ro (Rd.slice (Rd.int .i64)) false x381) ∧ M = Mem.nil) := by
 unfold g_inflate_FixedLit at H
 refine Go.Q.Spec.of_bodyR (az := []) (rs := [.tmp 0]) (nt := 7) Try.func11 rfl rfl (by intro t T h; simp at h) rfl rfl fun cx hnp => ?_
 refine WP.seq ?_
 refine WP.region ?_
 refine WPL.q (q_as (v := .lit _) rfl) rfl ?_
 refine WPL.nilW ?_
 refine W.now ?_
 refine Then.n ?_
 refine WP.seq ?_
 refine WP.region ?_
 refine WPL.q (q_build bu40 rfl) rfl ?_
 refine WPL.q (q_build bu40 rfl) rfl ?_
 refine WPL.q (q_build bu40 rfl) rfl ?_
 refine WPL.q (q_build bu40 rfl) rfl ?_
 refine WPL.d (d_buildSlice (ds := ([(⟨144, 8⟩ : S_inflate_run), (⟨112, 9⟩ : S_inflate_run), (⟨24, 7⟩ : S_inflate_run), (⟨8, 8⟩ : S_inflate_run)] : List S_inflate_run)) (R := rdS_inflate_run) li49 rfl rfl rfl rfl rfl (JoinRows.cons (l := [.lit (.int .i64 144), .lit (.int .i64 8)]) (Joins.via (Joins.cons Joins.sc (Joins.cons Joins.sc Joins.unit))) rfl (JoinRows.cons (l := [.lit (.int .i64 112), .lit (.int .i64 9)]) (Joins.via (Joins.cons Joins.sc (Joins.cons Joins.sc Joins.unit))) rfl (JoinRows.cons (l := [.lit (.int .i64 24), .lit (.int .i64 7)]) (Joins.via (Joins.cons Joins.sc (Joins.cons Joins.sc Joins.unit))) rfl (JoinRows.cons (l := [.lit (.int .i64 8), .lit (.int .i64 8)]) (Joins.via (Joins.cons Joins.sc (Joins.cons Joins.sc Joins.unit))) rfl JoinRows.nil)))) rfl rfl) rfl ?_
 obtain ⟨x383, h381, H⟩ := bnd H
 refine WPL.c (runs_call (s := []) (t := []) (N := 1) (bor := [0]) fn20 rfl (s_inflate_laid k ([(⟨144, 8⟩ : S_inflate_run), (⟨112, 9⟩ : S_inflate_run), (⟨24, 7⟩ : S_inflate_run), (⟨8, 8⟩ : S_inflate_run)] : List S_inflate_run) x383 h381) ⟨rfl, trivial, by decide, rfl, trivial⟩ rfl ⟨trivial, rfl, rfl, trivial⟩ (.row rfl rfl .nil) rfl trivial rfl) rfl ?_
 refine WPL.q (q_as (v := .ro _ _ _) rfl) rfl ?_
 refine WPL.nilW ?_
 refine W.now ?_
 refine Then.n ?_
 refine WP.retW ?_
 have q0 := (Option.some.inj H)
 subst q0
 exact W.now (BodyR.mkR trivial rfl [] ⟨rfl, rfl⟩ ⟨rfl, trivial, by decide, rfl, trivial⟩ rfl rfl)
end Go.Proofs.Ytpceecokdpdgfaa.W
namespace Go.Proofs.Ytpceecokdpdgfaa.W
open Go Go.Q Go.Proofs
set_option linter.unusedVariables false
set_option linter.unusedSimpArgs false
set_option maxRecDepth 100000 in
set_option maxHeartbeats 4000000 in
theorem s_inflate_FixedDist (k : Nat) (x656 : (List Int)) (H : g_inflate_FixedDist k = some x656) : Go.Q.Spec Try.prog 13 0 [] Mem.nil (fun o M => o = .ret (.ro (Rd.slice (Rd.int .i64)) false x656) ∧ M = Mem.nil) := by
 unfold g_inflate_FixedDist at H
 refine Go.Q.Spec.of_bodyR (az := []) (rs := [.tmp 0]) (nt := 4) Try.func13 rfl rfl (by intro t T h; simp at h) rfl rfl fun cx hnp => ?_
 refine WP.seq ?_
 refine WP.region ?_
 refine WPL.q (q_as (v := .lit _) rfl) rfl ?_
 refine WPL.nilW ?_
 refine W.now ?_
 refine Then.n ?_
 refine WP.seq ?_
 refine WP.region ?_
 refine WPL.q (q_build bu40 rfl) rfl ?_
 refine WPL.d (d_buildSlice (ds := ([(⟨32, 5⟩ : S_inflate_run)] : List S_inflate_run)) (R := rdS_inflate_run) li49 rfl rfl rfl rfl rfl (JoinRows.cons (l := [.lit (.int .i64 32), .lit (.int .i64 5)]) (Joins.via (Joins.cons Joins.sc (Joins.cons Joins.sc Joins.unit))) rfl JoinRows.nil) rfl rfl) rfl ?_
 obtain ⟨x658, h656, H⟩ := bnd H
 refine WPL.c (runs_call (s := []) (t := []) (N := 1) (bor := [0]) fn20 rfl (s_inflate_laid k ([(⟨32, 5⟩ : S_inflate_run)] : List S_inflate_run) x658 h656) ⟨rfl, trivial, by decide, rfl, trivial⟩ rfl ⟨trivial, rfl, rfl, trivial⟩ (.row rfl rfl .nil) rfl trivial rfl) rfl ?_
 refine WPL.q (q_as (v := .ro _ _ _) rfl) rfl ?_
 refine WPL.nilW ?_
 refine W.now ?_
 refine Then.n ?_
 refine WP.retW ?_
 have q0 := (Option.some.inj H)
 subst q0
 exact W.now (BodyR.mkR trivial rfl [] ⟨rfl, rfl⟩ ⟨rfl, trivial, by decide, rfl, trivial⟩ rfl rfl)
set_option maxRecDepth 100000 in
set_option maxHeartbeats 4000000 in
theorem s_slices_Clone_byte_byte (k : Nat) (x697 : List Int) (x698 : List Int) (H : g_slices_Clone_byte_byte k x697 = some x698) : Go.Q.Spec Try.prog 25 0 [.ro (Rd.slice (Rd.int .u8)) true x697] Mem.nil (fun o M => o = .ret (.ro (Rd.slice (Rd.int .u8)) false x698) ∧ M = Mem.nil) := by
  unfold g_slices_Clone_byte_byte at H
  obtain ⟨h, H⟩ := grd H
  have q0 := Option.some.inj H
  subst q0
  refine Go.Q.Spec.of_bodyR (az := []) (rs := [.tmp 2]) (nt := 8) Try.func25 rfl rfl (by intro t T h; simp at h) rfl rfl fun cx hnp => ?_
  refine WP.seq ?_
  refine WP.region ?_
  refine WPL.q (q_as (v := .lit _) rfl) rfl ?_
  refine WPL.nilW ?_
  refine W.now ?_
  refine Then.n ?_
  refine WP.seq ?_
  refine WP.seq ?_
  refine WP.region ?_
  refine WPL.q (q_mv (v := .ro _ _ _) rfl) rfl ?_
  refine WPL.eqlNil Try.underlying29 rfl rfl fun nb hnb => ?_
  refine WPL.nilW ?_
  refine W.now ?_
  refine Then.n ?_
  refine WP.cond (t := nb) rfl (fun hb => ?_) (fun hb => ?_)
  · have h0 := hnb hb
    subst h0
    refine WP.seq ?_
    refine WP.region ?_
    refine WPL.q (q_as (v := .lit _) rfl) rfl ?_
    refine WPL.nilW ?_
    refine W.now ?_
    refine Then.n ?_
    refine WP.retW ?_
    refine W.cv (Cv.nilRo (Rd.int .u8) false 2 rfl) rfl ?_
    refine W.now ?_
    refine Then.r ?_
    exact ⟨trivial, _, rfl, [], (.ro (Rd.slice (Rd.int .u8)) false ([] : List Int)), Mem.nil, ⟨rfl, trivial, by decide, rfl, trivial⟩, rfl, rfl, rfl, rfl⟩
  · refine WP.skipW ?_
    refine W.now ?_
    refine Then.n ?_
    refine WP.seq ?_
    refine WP.region ?_
    refine WPL.d (d_buildSlice (ds := ([] : List Int)) (R := (Rd.int .u8)) li29 rfl rfl rfl rfl rfl JoinRows.nil rfl rfl) rfl ?_
    refine WPL.q (q_mv (v := .ro _ _ _) rfl) rfl ?_
    refine WPL.d (d_append ap29 rfl rfl rfl rfl (src_bor sl29 Rd.flat_sc rfl) h rfl) rfl ?_
    refine WPL.q (q_as (v := .whole _) rfl) rfl ?_
    refine WPL.nilW ?_
    refine W.now ?_
    refine Then.n ?_
    refine WP.retW ?_
    refine W.cv (Cv.frzRow (i := 1) rfl rfl hnp rfl rfl) rfl ?_
    refine W.now ?_
    exact ⟨trivial, _, rfl, [], (.ro (Rd.slice (Rd.int .u8)) false x697), Mem.nil, ⟨rfl, trivial, by decide, rfl, trivial⟩, rfl, rfl, rfl, rfl⟩
set_option maxRecDepth 100000 in
set_option maxHeartbeats 4000000 in
theorem s_bits_NewReader (k : Nat) (x695 : (List Int)) (x701 : (List Int)) (H : g_bits_NewReader k x695 = some x701) : Go.Q.Spec Try.prog 21 0 [.ro (Rd.slice (Rd.int .u8)) true x695] Mem.nil (fun o M => o = .ret (.ptr 0 0) ∧ M = (Mem.nil.push (.cells 52 [.ro (Rd.slice (Rd.int .u8)) false x701, .lit (.int .i64 0)]))) := by
 unfold g_bits_NewReader at H
 refine Go.Q.Spec.of_bodyR (az := []) (rs := [.tmp 2]) (nt := 7) Try.func21 rfl rfl (by intro t T h; simp at h) rfl rfl fun cx hnp => ?_
 refine WP.seq ?_
 refine WP.region ?_
 refine WPL.q (q_as (v := .lit _) rfl) rfl ?_
 refine WPL.nilW ?_
 refine W.now ?_
 refine Then.n ?_
 refine WP.seq ?_
 refine WP.region ?_
 refine WPL.q (q_mv (v := .ro _ _ _) rfl) rfl ?_
 obtain ⟨x703, h701, H⟩ := bnd H
 refine WPL.c (runs_call (s := []) (t := []) (N := 0) (bor := []) fn25 rfl (s_slices_Clone_byte_byte k x695 x703 h701) ⟨rfl, trivial, by decide, rfl, trivial⟩ rfl trivial (.ren rfl rfl .nil) rfl trivial rfl) rfl ?_
 refine WPL.q (q_build bu52 rfl) rfl ?_
 refine WPL.d (d_box rfl rfl) rfl ?_
 refine WPL.q (q_as (v := .ptr _ _) rfl) rfl ?_
 refine WPL.nilW ?_
 refine W.now ?_
 refine Then.n ?_
 refine WP.retW ?_
 have q0 := (Option.some.inj H)
 subst q0
 exact W.now (BodyR.mkR trivial rfl [0] ⟨rfl, rfl⟩ ⟨rfl, ⟨trivial, .inr ⟨rfl, rfl, rfl⟩⟩, by decide, rfl, trivial⟩ rfl rfl)
set_option maxRecDepth 100000 in
set_option maxHeartbeats 4000000 in
theorem s_bits_Reader_Left (k : Nat) (x727 : (List Int)) (x728 : Int) (x732 : Int) (H : g_bits_Reader_Left k x727 x728 = some x732) : Go.Q.Spec Try.prog 24 1 [.ptr 0 0] (Mem.nil.push (.cells 52 [.ro (Rd.slice (Rd.int .u8)) false x727, .lit (.int .i64 x728)])) (fun o M => o = .ret (.lit (.int .i64 x732)) ∧ M = (Mem.nil.push (.cells 52 [.ro (Rd.slice (Rd.int .u8)) false x727, .lit (.int .i64 x728)]))) := by
 unfold g_bits_Reader_Left at H
 refine Go.Q.Spec.of_bodyR (az := []) (rs := [.tmp 2]) (nt := 16) Try.func24 rfl rfl (by intro t T h; simp at h) rfl rfl fun cx hnp => ?_
 refine WP.seq ?_
 refine WP.region ?_
 refine WPL.q (q_as (v := .lit (.int _ _)) rfl) rfl ?_
 refine WPL.nilW ?_
 refine W.now ?_
 refine Then.n ?_
 refine WP.seq ?_
 refine WP.seq ?_
 refine WP.region ?_
 refine WPL.q (q_mv (v := .ptr _ _) rfl) rfl ?_
 refine WPL.q (q_eqlp Try.underlying42 rfl) rfl ?_
 refine WPL.nilW ?_
 refine W.now ?_
 refine Then.n ?_
 refine WP.condF rfl ?_
 refine WP.skipW ?_
 refine W.now ?_
 refine Then.n ?_
 refine WP.seq ?_
 refine WP.regionD' 12 [0] [] mixed rfl ?_
 refine WPD.takeT 0 rfl (by kernel_rfl) (q_mv (v := .ptr _ _) rfl) rfl ?_
 refine WPD.takeT 1 rfl (by kernel_rfl) (q_nilCheck rfl) rfl ?_
 refine WPD.takeT 2 rfl (by kernel_rfl) (q_fieldAddr fi52_0 rfl rfl) rfl ?_
 refine WPD.takeT 6 rfl (by kernel_rfl) (q_mv (v := .ptr _ _) rfl) rfl ?_
 refine WPD.takeT 7 rfl (by kernel_rfl) (q_nilCheck rfl) rfl ?_
 refine WPD.takeT 8 rfl (by kernel_rfl) (q_fieldAddr fi52_1 rfl rfl) rfl ?_
 refine WPD.take 3 rfl (by kernel_rfl) (q_load sc29 rfl rfl rfl) rfl rfl ?_
 refine WPD.takeT 4 rfl (by kernel_rfl) (q_len_ro sl29 rfl) rfl ?_
 obtain ⟨x734, h734, H⟩ := bnd H
 refine WPD.takeT 5 rfl (by kernel_rfl) (q_nm (q_mul rfl rfl) (nm_int h734)) rfl ?_
 refine WPD.take 9 rfl (by kernel_rfl) (q_load sc3 rfl rfl rfl) rfl rfl ?_
 refine WPD.takeT 10 rfl (by kernel_rfl) (q_sub rfl rfl) rfl ?_
 refine WPD.takeT 11 rfl (by kernel_rfl) (q_as (v := .lit (.int _ _)) rfl) rfl ?_
 refine WPD.doneW (by kernel_rfl) ?_
 refine W.now ?_
 refine Then.n ?_
 refine WP.retW ?_
 have q0 := (Option.some.inj H)
 subst q0
 exact W.now (BodyR.mkR trivial rfl [0] ⟨rfl, rfl⟩ ⟨rfl, ⟨trivial, .inr ⟨rfl, rfl, rfl⟩⟩, by decide, rfl, ⟨trivial, rfl⟩⟩ rfl rfl)
set_option maxRecDepth 100000 in
set_option maxHeartbeats 4000000 in
theorem s_bits_Reader_Take (k : Nat) (x718 : Int) (x719 : (List Int)) (x720 : Int) (x783 : Int) (x784 : Int) (x785 : (List Int)) (x786 : Int) (H : g_bits_Reader_Take k x718 x719 x720 = some (x783, x784, x785, x786)) : Go.Q.Spec Try.prog 32 1 [.ptr 0 0, .lit (.int .i64 x718)] (Mem.nil.push (.cells 52 [.ro (Rd.slice (Rd.int .u8)) false x719, .lit (.int .i64 x720)])) (fun o M => o = .ret (.tup [.lit (.int .u32 x783), .lit (.int .i64 x784)]) ∧ M = (Mem.nil.push (.cells 52 [.ro (Rd.slice (Rd.int .u8)) false x785, .lit (.int .i64 x786)]))) := by
 unfold g_bits_Reader_Take at H
 refine Go.Q.Spec.of_bodyR (az := []) (rs := [.tmp 4, .tmp 5]) (nt := 85) Try.func32 rfl rfl (by intro t T h; simp at h) rfl rfl fun cx hnp => ?_
 refine WP.seq ?_
 refine WP.region ?_
 refine WPL.q (q_as (v := .lit (.int _ _)) rfl) rfl ?_
 refine WPL.q (q_as (v := .lit (.int _ _)) rfl) rfl ?_
 refine WPL.nilW ?_
 refine W.now ?_
 refine Then.n ?_
 refine WP.seq ?_
 refine WP.block ?_
 refine WP.seq ?_
 refine WP.region ?_
 refine WPL.q (q_mv (v := .ptr _ _) rfl) rfl ?_
 refine WPL.q (q_eqlp Try.underlying42 rfl) rfl ?_
 refine WPL.q (q_as (v := .lit (.bool _)) rfl) rfl ?_
 refine WPL.nilW ?_
 refine W.now ?_
 refine Then.n ?_
 refine WP.condF rfl ?_
 refine WP.seq ?_
 obtain ⟨x796, H797, H⟩ := bnd H
 refine WP.monoW (Q := fun x E M => x = .normal ∧ E = (((Env.none.upd 0 (.ptr 0 0)).upd 1 (.lit (.int .i64 x718))).upd 12 (.lit (.bool x796))) ∧ M = (Mem.nil.push (.cells 52 [.ro (Rd.slice (Rd.int .u8)) false x719, .lit (.int .i64 x720)]))) ?_ ?_
 · clear H
   have H := H797
   clear H797
   refine WP.region ?_
   refine WPL.q (q_mv (v := .lit (.int _ _)) rfl) rfl ?_
   refine WPL.q (q_lss rfl rfl) rfl ?_
   refine WPL.q (q_mv (v := .lit (.bool _)) rfl) rfl ?_
   refine WPL.split (t := 15) (b := (decide (x718 < 0))) rfl (fun hb796 => ?_) (fun hb796 => ?_)
   · replace H := cnt hb796 H
     refine WPL.skipg (b' := true) rfl rfl (lb hb796) rfl rfl (.inl trivial) ?_
     refine WPL.skipg (b' := true) rfl rfl (lb hb796) rfl rfl (.inl trivial) ?_
     refine WPL.q (q_pickT (v := .lit (.bool _)) (lb hb796) rfl) rfl ?_
     refine WPL.q (q_as (v := .lit (.bool _)) rfl) rfl ?_
     refine WPL.nilW ?_
     have q0 := (Option.some.inj H)
     subst q0
     exact W.wk [0] hnp ⟨rfl, rfl, rfl⟩ ⟨rfl, ⟨trivial, .inr ⟨rfl, rfl, rfl⟩⟩, by decide, rfl, ⟨trivial, rfl⟩⟩ (LeE.upd rfl rfl (LeE.upd rfl rfl (LeE.upd rfl rfl (LeE.none rfl rfl)))) rfl
   replace H := cnf hb796 H
   refine WPL.qg rfl rfl (lb hb796) (q_mv (v := .lit (.int _ _)) rfl) rfl ?_
   refine WPL.qg rfl rfl (lb hb796) (q_gtr rfl rfl) rfl ?_
   refine WPL.q (q_pickF (v := .lit (.bool _)) (lb hb796) rfl) rfl ?_
   refine WPL.q (q_as (v := .lit (.bool _)) rfl) rfl ?_
   refine WPL.nilW ?_
   have q0 := (Option.some.inj H)
   subst q0
   exact W.wk [0] hnp ⟨rfl, rfl, rfl⟩ ⟨rfl, ⟨trivial, .inr ⟨rfl, rfl, rfl⟩⟩, by decide, rfl, ⟨trivial, rfl⟩⟩ (LeE.upd rfl rfl (LeE.upd rfl rfl (LeE.upd rfl rfl (LeE.none rfl rfl)))) rfl
 rintro _ _ _ ⟨rfl, rfl, rfl⟩
 refine W.now ?_
 refine Then.n ?_
 refine WP.cond (t := x796) rfl (fun hb798 => ?_) (fun hb798 => ?_)
 · replace H := cnt hb798 H
   refine WP.seq ?_
   refine WP.region ?_
   refine WPL.q (q_as (v := .lit (.int _ _)) rfl) rfl ?_
   refine WPL.q (q_as (v := .lit (.int _ _)) rfl) rfl ?_
   refine WPL.nilW ?_
   refine W.now ?_
   refine Then.n ?_
   refine WP.retW ?_
   have q0 := (Prod.mk.inj (Option.some.inj H)).1
   have q1 := (Prod.mk.inj (Prod.mk.inj (Option.some.inj H)).2).1
   have q2 := (Prod.mk.inj (Prod.mk.inj (Prod.mk.inj (Option.some.inj H)).2).2).1
   have q3 := (Prod.mk.inj (Prod.mk.inj (Prod.mk.inj (Option.some.inj H)).2).2).2
   subst q0
   subst q1
   subst q2
   subst q3
   exact W.now (InBlock.r (Then.r (BodyR.mkR trivial rfl [0] ⟨rfl, rfl⟩ ⟨rfl, ⟨trivial, .inr ⟨rfl, rfl, rfl⟩⟩, by decide, rfl, ⟨trivial, rfl⟩⟩ rfl rfl)))
 replace H := cnf hb798 H
 refine WP.seq ?_
 refine WP.region ?_
 refine WPL.q (q_mv (v := .lit (.int _ _)) rfl) rfl ?_
 refine WPL.q (q_mv (v := .ptr _ _) rfl) rfl ?_
 obtain ⟨x801, h799, H⟩ := bnd H
 refine WPL.c (runs_call (s := [0]) (t := [0]) (N := 1) (bor := []) fn24 rfl (s_bits_Reader_Left k x719 x720 x801 h799) ⟨rfl, ⟨trivial, .inr ⟨rfl, rfl, rfl⟩⟩, by decide, rfl, trivial⟩ rfl trivial (.ren rfl rfl .nil) rfl ⟨trivial, rfl⟩ rfl) rfl ?_
 refine WPL.q (q_gtr rfl rfl) rfl ?_
 refine WPL.q (q_as (v := .lit (.bool _)) rfl) rfl ?_
 refine WPL.nilW ?_
 refine W.now ?_
 refine Then.n ?_
 refine WP.cond (t := (decide (x801 < x718))) rfl (fun hb801 => ?_) (fun hb801 => ?_)
 · replace H := cnt hb801 H
   refine WP.seq ?_
   refine WP.region ?_
   refine WPL.q (q_as (v := .lit (.int _ _)) rfl) rfl ?_
   refine WPL.q (q_as (v := .lit (.int _ _)) rfl) rfl ?_
   refine WPL.nilW ?_
   refine W.now ?_
   refine Then.n ?_
   refine WP.retW ?_
   have q0 := (Prod.mk.inj (Option.some.inj H)).1
   have q1 := (Prod.mk.inj (Prod.mk.inj (Option.some.inj H)).2).1
   have q2 := (Prod.mk.inj (Prod.mk.inj (Prod.mk.inj (Option.some.inj H)).2).2).1
   have q3 := (Prod.mk.inj (Prod.mk.inj (Prod.mk.inj (Option.some.inj H)).2).2).2
   subst q0
   subst q1
   subst q2
   subst q3
   exact W.now (InBlock.r (Then.r (BodyR.mkR trivial rfl [0] ⟨rfl, rfl⟩ ⟨rfl, ⟨trivial, .inr ⟨rfl, rfl, rfl⟩⟩, by decide, rfl, ⟨trivial, rfl⟩⟩ rfl rfl)))
 replace H := cnf hb801 H
 refine WP.skipW ?_
 refine W.now ?_
 refine InBlock.n ?_
 refine Then.n ?_
 refine WP.seq ?_
 refine WP.region ?_
 refine WPL.q (q_as (v := .lit (.int _ _)) rfl) rfl ?_
 refine WPL.q (q_as (v := .lit (.int _ _)) rfl) rfl ?_
 refine WPL.nilW ?_
 refine W.now ?_
 refine Then.n ?_
 refine WP.seq ?_
 refine WP.block ?_
 refine WP.cv (Cv.weak (E' := ((((Env.none.upd 0 (.ptr 0 0)).upd 1 (.lit (.int .i64 x718))).upd 6 (.lit (.int .u64 0))).upd 7 (.lit (.int .i64 0)))) (M' := (Mem.nil.push (.cells 52 [.ro (Rd.slice (Rd.int .u8)) false x719, .lit (.int .i64 x720)]))) [0] hnp ⟨rfl, ⟨trivial, .inr ⟨rfl, rfl, rfl⟩⟩, by decide, rfl, ⟨trivial, rfl⟩⟩ (LeE.upd rfl rfl (LeE.upd rfl rfl (LeE.upd rfl rfl (LeE.upd rfl rfl (LeE.none rfl rfl)))))) ?_
 obtain ⟨⟨x833, x834, x835⟩, H849, H⟩ := bnd H
 refine WP.monoW (Q := fun x E M => x = .exit 1 ∧ E = ((Env.none.upd 1 (.lit (.int .i64 x718))).upd 6 (.lit (.int .u64 x833))) ∧ M = (Mem.nil.push (.cells 52 [.ro (Rd.slice (Rd.int .u8)) false x834, .lit (.int .i64 x835)]))) ?_ ?_
 · refine WP.loop (β := Int × Int × (List Int) × Int) (fun n b => g_bits_Reader_Take_l0 k x718 n b.1 b.2.1 b.2.2.1 b.2.2.2 = some (x833, x834, x835)) (fun b => ((((Env.none.upd 0 (.ptr 0 0)).upd 1 (.lit (.int .i64 x718))).upd 6 (.lit (.int .u64 b.1))).upd 7 (.lit (.int .i64 b.2.1)))) (fun b => (Mem.nil.push (.cells 52 [.ro (Rd.slice (Rd.int .u8)) false b.2.2.1, .lit (.int .i64 b.2.2.2)]))) k (0, 0, x719, x720) H849 rfl rfl ?_
   rintro n ⟨x815, x816, x817, x818⟩ H
   obtain _ | n := n
   · exact nf rfl H
   rw [g_bits_Reader_Take_l0.eq_2] at H
   show WP _ _ _ _ ((((Env.none.upd 0 (.ptr 0 0)).upd 1 (.lit (.int .i64 x718))).upd 6 (.lit (.int .u64 x815))).upd 7 (.lit (.int .i64 x816))) (Mem.nil.push (.cells 52 [.ro (Rd.slice (Rd.int .u8)) false x817, .lit (.int .i64 x818)])) _
   refine WP.seq ?_
   refine WP.seq ?_
   refine WP.region ?_
   refine WPL.q (q_mv (v := .lit (.int _ _)) rfl) rfl ?_
   refine WPL.q (q_mv (v := .lit (.int _ _)) rfl) rfl ?_
   refine WPL.q (q_lss rfl rfl) rfl ?_
   refine WPL.nilW ?_
   refine W.now ?_
   refine Then.n ?_
   refine WP.cond (t := (decide (x816 < x718))) rfl (fun hb836 => ?_) (fun hb836 => ?_)
   · replace H := cnt hb836 H
     refine WP.skipW ?_
     refine W.now ?_
     refine Then.n ?_
     refine WP.block ?_
     refine WP.seq ?_
     refine WP.regionD' 17 [0] [] mixed rfl ?_
     refine WPD.takeT 0 rfl (by kernel_rfl) (q_mv (v := .lit (.int _ _)) rfl) rfl ?_
     refine WPD.takeT 1 rfl (by kernel_rfl) (q_mv (v := .ptr _ _) rfl) rfl ?_
     refine WPD.takeT 2 rfl (by kernel_rfl) (q_nilCheck rfl) rfl ?_
     refine WPD.takeT 3 rfl (by kernel_rfl) (q_fieldAddr fi52_0 rfl rfl) rfl ?_
     refine WPD.takeT 7 rfl (by kernel_rfl) (q_mv (v := .ptr _ _) rfl) rfl ?_
     refine WPD.takeT 8 rfl (by kernel_rfl) (q_nilCheck rfl) rfl ?_
     refine WPD.takeT 9 rfl (by kernel_rfl) (q_fieldAddr fi52_1 rfl rfl) rfl ?_
     refine WPD.takeT 13 rfl (by kernel_rfl) (q_mv (v := .lit (.int _ _)) rfl) rfl ?_
     refine WPD.take 4 rfl (by kernel_rfl) (q_load sc29 rfl rfl rfl) rfl rfl ?_
     obtain ⟨x842, h842, H⟩ := bnd H
     refine WPD.takeT 5 rfl (by kernel_rfl) (q_index_ro sl29 rfl rfl rfl h842) rfl ?_
     refine WPD.takeT 6 rfl (by kernel_rfl) (q_load_sc sc5 rfl) rfl ?_
     refine WPD.take 10 rfl (by kernel_rfl) (q_load sc3 rfl rfl rfl) rfl rfl ?_
     obtain ⟨h842, H⟩ := grd H
     refine WPD.takeT 11 rfl (by kernel_rfl) (q_shr rfl rfl h842) rfl ?_
     refine WPD.takeT 12 rfl (by kernel_rfl) (q_conv Try.underlying5 Try.underlying73 rfl) rfl ?_
     obtain ⟨h843, H⟩ := grd H
     obtain ⟨x845, h845, H⟩ := bnd H
     refine WPD.takeT 14 rfl (by kernel_rfl) (q_nm (q_shl rfl rfl h843) (nm_int h845)) rfl ?_
     refine WPD.takeT 15 rfl (by kernel_rfl) (q_or rfl rfl) rfl ?_
     refine WPD.takeT 16 rfl (by kernel_rfl) (q_as (v := .lit (.int _ _)) rfl) rfl ?_
     refine WPD.doneW (by kernel_rfl) ?_
     refine W.now ?_
     refine Then.n ?_
     refine WP.seq ?_
     refine WP.region ?_
     refine WPL.q (q_mv (v := .ptr _ _) rfl) rfl ?_
     refine WPL.q (q_nilCheck rfl) rfl ?_
     refine WPL.q (q_fieldAddr fi52_1 rfl rfl) rfl ?_
     refine WPL.q (q_load sc3 rfl rfl rfl) rfl ?_
     refine WPL.q (q_sub rfl rfl) rfl ?_
     refine WPL.q (q_mv (v := .lit (.int _ _)) rfl) rfl ?_
     refine WPL.q (q_mv (v := .lit (.int _ _)) rfl) rfl ?_
     refine WPL.q (q_sub rfl rfl) rfl ?_
     obtain ⟨x846, h846, H⟩ := bnd H
     refine WPL.q (q_nm (q_min rfl rfl) (nm_int h846)) rfl ?_
     refine WPL.q (q_as (v := .lit (.int _ _)) rfl) rfl ?_
     refine WPL.nilW ?_
     refine W.now ?_
     refine Then.n ?_
     refine WP.seq ?_
     refine WP.region ?_
     refine WPL.q (q_mv (v := .lit (.int _ _)) rfl) rfl ?_
     refine WPL.q (q_mv (v := .lit (.int _ _)) rfl) rfl ?_
     refine WPL.q (q_add rfl rfl) rfl ?_
     refine WPL.q (q_as (v := .lit (.int _ _)) rfl) rfl ?_
     refine WPL.nilW ?_
     refine W.now ?_
     refine Then.n ?_
     refine WP.seq ?_
     refine WP.region ?_
     refine WPL.q (q_mv (v := .ptr _ _) rfl) rfl ?_
     refine WPL.q (q_nilCheck rfl) rfl ?_
     refine WPL.q (q_fieldAddr fi52_1 rfl rfl) rfl ?_
     refine WPL.q (q_load sc3 rfl rfl rfl) rfl ?_
     refine WPL.q (q_mv (v := .lit (.int _ _)) rfl) rfl ?_
     refine WPL.q (q_add rfl rfl) rfl ?_
     refine WPL.q (q_nilCheck rfl) rfl ?_
     refine WPL.q (q_fieldAddr fi52_1 rfl rfl) rfl ?_
     refine WPL.s (s_store sz3 rfl rfl rfl rfl rfl) ?_
     refine WPL.nilW ?_
     refine W.now ?_
     refine Then.n ?_
     refine WP.seq ?_
     refine WP.region ?_
     refine WPL.q (q_mv (v := .ptr _ _) rfl) rfl ?_
     refine WPL.q (q_nilCheck rfl) rfl ?_
     refine WPL.q (q_fieldAddr fi52_1 rfl rfl) rfl ?_
     refine WPL.q (q_load sc3 rfl rfl rfl) rfl ?_
     obtain ⟨x847, h847, H⟩ := bnd H
     refine WPL.q (q_nm (q_eql rfl rfl) (nm_bool h847)) rfl ?_
     refine WPL.nilW ?_
     refine W.now ?_
     refine Then.n ?_
     refine WP.cond (t := x847) rfl (fun hb847 => ?_) (fun hb847 => ?_)
     · replace H := cnt hb847 H
       refine WP.region ?_
       refine WPL.q (q_mv (v := .ptr _ _) rfl) rfl ?_
       refine WPL.q (q_mv (v := .ptr _ _) rfl) rfl ?_
       refine WPL.q (q_mv (v := .ptr _ _) rfl) rfl ?_
       refine WPL.q (q_nilCheck rfl) rfl ?_
       refine WPL.q (q_fieldAddr fi52_0 rfl rfl) rfl ?_
       refine WPL.q (q_load sc29 rfl rfl rfl) rfl ?_
       obtain ⟨h848, H⟩ := grd H
       refine WPL.q (q_slice_ro (i := 1) (j := ((List.length x817 : Nat) : Int)) sl29 rfl rfl ⟨_, rfl⟩ rfl h848) rfl ?_
       refine WPL.q (q_nilCheck rfl) rfl ?_
       refine WPL.q (q_fieldAddr fi52_0 rfl rfl) rfl ?_
       refine WPL.s (s_store sz29 rfl rfl rfl rfl rfl) ?_
       refine WPL.q (q_nilCheck rfl) rfl ?_
       refine WPL.q (q_fieldAddr fi52_1 rfl rfl) rfl ?_
       refine WPL.s (s_store sz3 rfl rfl rfl rfl rfl) ?_
       refine WPL.nilW ?_
       exact W.wk [0] hnp (InBlock.n (Then.n ⟨n, ((bits .or .u64 x815 x845), (IntKind.wrap .i64 (x816 + x846)), (List.drop (Int.toNat 1) (List.take (Int.toNat ((List.length x817 : Nat) : Int)) x817)), 0), Nat.lt_succ_self n, H, rfl, rfl⟩)) ⟨rfl, ⟨trivial, .inr ⟨rfl, rfl, rfl⟩⟩, by decide, rfl, ⟨trivial, rfl⟩⟩ (LeE.upd rfl rfl (LeE.upd rfl rfl (LeE.upd rfl rfl (LeE.upd rfl rfl (LeE.none rfl rfl))))) rfl
     replace H := cnf hb847 H
     refine WP.skipW ?_
     exact W.wk [0] hnp (InBlock.n (Then.n ⟨n, ((bits .or .u64 x815 x845), (IntKind.wrap .i64 (x816 + x846)), x817, (IntKind.wrap .i64 (x818 + x846))), Nat.lt_succ_self n, H, rfl, rfl⟩)) ⟨rfl, ⟨trivial, .inr ⟨rfl, rfl, rfl⟩⟩, by decide, rfl, ⟨trivial, rfl⟩⟩ (LeE.upd rfl rfl (LeE.upd rfl rfl (LeE.upd rfl rfl (LeE.upd rfl rfl (LeE.none rfl rfl))))) rfl
   replace H := cnf hb836 H
   refine WP.exitW ?_
   have q0 := (Prod.mk.inj (Option.some.inj H)).1
   have q1 := (Prod.mk.inj (Prod.mk.inj (Option.some.inj H)).2).1
   have q2 := (Prod.mk.inj (Prod.mk.inj (Option.some.inj H)).2).2
   subst q0
   subst q1
   subst q2
   exact W.wk [0] hnp (Then.x (Then.x ⟨rfl, rfl, rfl⟩)) ⟨rfl, ⟨trivial, .inr ⟨rfl, rfl, rfl⟩⟩, by decide, rfl, ⟨trivial, rfl⟩⟩ (LeE.upd rfl rfl (LeE.upd rfl rfl (LeE.none rfl rfl))) rfl
 rintro _ _ _ ⟨rfl, rfl, rfl⟩
 refine W.now ?_
 refine InBlock.x0 ?_
 refine Then.n ?_
 refine WP.seq ?_
 refine WP.region ?_
 refine WPL.q (q_mv (v := .lit (.int _ _)) rfl) rfl ?_
 refine WPL.q (q_mv (v := .lit (.int _ _)) rfl) rfl ?_
 obtain ⟨h850, H⟩ := grd H
 refine WPL.q (q_shl rfl rfl h850) rfl ?_
 obtain ⟨x852, h852, H⟩ := bnd H
 refine WPL.q (q_nm (q_sub rfl rfl) (nm_int h852)) rfl ?_
 refine WPL.q (q_and rfl rfl) rfl ?_
 obtain ⟨x853, h853, H⟩ := bnd H
 refine WPL.q (q_nm (q_conv Try.underlying73 Try.underlying57 rfl) (nm_int h853)) rfl ?_
 refine WPL.q (q_as (v := .lit (.int _ _)) rfl) rfl ?_
 refine WPL.q (q_as (v := .lit (.int _ _)) rfl) rfl ?_
 refine WPL.nilW ?_
 refine W.now ?_
 refine Then.n ?_
 refine WP.retW ?_
 have q0 := (Prod.mk.inj (Option.some.inj H)).1
 have q1 := (Prod.mk.inj (Prod.mk.inj (Option.some.inj H)).2).1
 have q2 := (Prod.mk.inj (Prod.mk.inj (Prod.mk.inj (Option.some.inj H)).2).2).1
 have q3 := (Prod.mk.inj (Prod.mk.inj (Prod.mk.inj (Option.some.inj H)).2).2).2
 subst q0
 subst q1
 subst q2
 subst q3
 exact W.now (BodyR.mkR trivial rfl [0] ⟨rfl, rfl⟩ ⟨rfl, ⟨trivial, .inr ⟨rfl, rfl, rfl⟩⟩, by decide, rfl, ⟨trivial, rfl⟩⟩ rfl rfl)
set_option maxRecDepth 100000 in
set_option maxHeartbeats 4000000 in
theorem s_inflate_must (k : Nat) (x859 : Int) (r : (Unit ⊕ Unit)) (H : g_inflate_must k x859 = some r) : Go.Q.Spec Try.prog 31 0 [.lit (.int .i64 x859)] Mem.nil (fun o M => match (generalizing := false) r with | (Sum.inl _) => o = .pan (.ifc 46 (.lit (.int .i64 x859))) ∧ M = Mem.nil | (Sum.inr _) => o = .ret (.tup []) ∧ M = Mem.nil) := by
 unfold g_inflate_must at H
 refine Go.Q.Spec.of_bodyR (az := []) (rs := []) (nt := 6) Try.func31 rfl rfl (by intro t T h; simp at h) rfl rfl fun cx hnp => ?_
 refine WP.seq ?_
 refine WP.region ?_
 refine WPL.q (q_mv (v := .lit (.int _ _)) rfl) rfl ?_
 refine WPL.q (q_neq rfl rfl) rfl ?_
 refine WPL.nilW ?_
 refine W.now ?_
 refine Then.n ?_
 refine WP.cond (t := (!decide (x859 = 0))) rfl (fun hb861 => ?_) (fun hb861 => ?_)
 · replace H := cnt hb861 H
   refine WP.region ?_
   refine WPL.q (q_mv (v := .lit (.int _ _)) rfl) rfl ?_
   refine WPL.q (q_mki cn46) rfl ?_
   refine WPL.pW (runs_panic rfl) ?_
   have q0 := Option.some.inj H
   subst q0
   exact W.now (BodyR.mkP trivial [] ⟨rfl, rfl⟩ ⟨rfl, trivial, by decide, rfl, trivial⟩ rfl rfl)
 replace H := cnf hb861 H
 refine WP.skipW ?_
 have q0 := Option.some.inj H
 subst q0
 exact W.now (BodyR.mkN trivial rfl [] ⟨rfl, rfl⟩ ⟨rfl, trivial, by decide, rfl, trivial⟩ rfl rfl)
set_option maxRecDepth 100000 in
set_option maxHeartbeats 4000000 in
theorem s_inflate_stream_take (k : Nat) (x712 : Int) (x713 : Int) (x714 : (List Int)) (x715 : Int) (x716 : (List Int)) (r : (Int ⊕ (Int × (List Int) × Int))) (H : g_inflate_stream_take k x712 x713 x714 x715 x716 = some r) : Go.Q.Spec Try.prog 26 2 [.ptr 0 0, .lit (.int .i64 x712)] (((Mem.nil.push (.cells 45 [.ptr 1 0, .whole 2, .lit (.int .i64 x713)])).push (.cells 52 [.ro (Rd.slice (Rd.int .u8)) false x714, .lit (.int .i64 x715)])).push (.row 5 (Rd.int .u8) x716)) (fun o M => match (generalizing := false) r with | (Sum.inl x865) => o = .pan (.ifc 46 (.lit (.int .i64 x865))) ∧ M = ((Mem.nil.push (.gone)).push (.gone)) | (Sum.inr (x866, x867, x868)) => o = .ret (.lit (.int .i64 x866)) ∧ M = (((Mem.nil.push (.cells 45 [.ptr 1 0, .whole 2, .lit (.int .i64 x713)])).push (.cells 52 [.ro (Rd.slice (Rd.int .u8)) false x867, .lit (.int .i64 x868)])).push (.row 5 (Rd.int .u8) x716))) := by
 unfold g_inflate_stream_take at H
 refine Go.Q.Spec.of_bodyR (az := []) (rs := [.tmp 4]) (nt := 20) Try.func26 rfl rfl (by intro t T h; simp at h) rfl rfl fun cx hnp => ?_
 refine WP.seq ?_
 refine WP.region ?_
 refine WPL.q (q_as (v := .lit (.int _ _)) rfl) rfl ?_
 refine WPL.nilW ?_
 refine W.now ?_
 refine Then.n ?_
 refine WP.seq ?_
 refine WP.region ?_
 refine WPL.q (q_mv (v := .ptr _ _) rfl) rfl ?_
 refine WPL.q (q_nilCheck rfl) rfl ?_
 refine WPL.q (q_fieldAddr fi45_0 rfl rfl) rfl ?_
 refine WPL.q (q_load sc42 rfl rfl rfl) rfl ?_
 refine WPL.q (q_mv (v := .lit (.int _ _)) rfl) rfl ?_
 obtain ⟨⟨x870, x871, x872, x873⟩, h868, H⟩ := bnd H
 refine WPL.c (runs_call (s := [1]) (t := [1]) (N := 3) (bor := []) fn32 rfl (s_bits_Reader_Take k x712 x714 x715 x870 x871 x872 x873 h868) ⟨rfl, ⟨trivial, .inr ⟨rfl, rfl, rfl⟩⟩, by decide, rfl, trivial⟩ rfl trivial (.ren rfl rfl (.ren rfl rfl .nil)) rfl ⟨trivial, rfl⟩ rfl) rfl ?_
 refine WPL.q (q_mv (v := .tup _) rfl) rfl ?_
 refine WPL.q (q_extract rfl rfl) rfl ?_
 refine WPL.q (q_extract rfl rfl) rfl ?_
 refine WPL.q (q_as (v := .lit (.int _ _)) rfl) rfl ?_
 refine WPL.q (q_as (v := .lit (.int _ _)) rfl) rfl ?_
 refine WPL.nilW ?_
 refine W.now ?_
 refine Then.n ?_
 refine WP.seq ?_
 refine WP.region ?_
 refine WPL.q (q_mv (v := .lit (.int _ _)) rfl) rfl ?_
 obtain ⟨y875, h873, H⟩ := bnd H
 rcases y875 with _ | _
 · refine WPL.pW (runs_callP (s := []) (t := []) (N := 3) (bor := []) fn31 rfl (s_inflate_must k x871 (Sum.inl ()) h873) ⟨rfl, trivial, by decide, rfl, trivial⟩ rfl trivial (.ren rfl rfl .nil) rfl trivial rfl) ?_
   have q0 := Option.some.inj H
   subst q0
   exact W.now (Then.p (BodyR.mkP trivial [0, 1] ⟨rfl, rfl⟩ ⟨rfl, ⟨⟨trivial, .inl rfl⟩, .inl rfl⟩, by decide, rfl, ⟨⟨trivial, rfl⟩, rfl⟩⟩ rfl rfl))
 refine WPL.c (runs_call (s := []) (t := []) (N := 3) (bor := []) fn31 rfl (s_inflate_must k x871 (Sum.inr ()) h873) ⟨rfl, trivial, by decide, rfl, trivial⟩ rfl trivial (.ren rfl rfl .nil) rfl trivial rfl) rfl ?_
 refine WPL.nilW ?_
 refine W.now ?_
 refine Then.n ?_
 refine WP.seq ?_
 refine WP.region ?_
 refine WPL.q (q_mv (v := .lit (.int _ _)) rfl) rfl ?_
 refine WPL.q (q_conv Try.underlying57 Try.underlying3 rfl) rfl ?_
 refine WPL.q (q_as (v := .lit (.int _ _)) rfl) rfl ?_
 refine WPL.nilW ?_
 refine W.now ?_
 refine Then.n ?_
 refine WP.retW ?_
 have q0 := Option.some.inj H
 subst q0
 exact W.now (BodyR.mkR trivial rfl [0, 1, 2] ⟨rfl, rfl⟩ ⟨rfl, ⟨⟨⟨trivial, .inr ⟨rfl, rfl, rfl⟩⟩, .inr ⟨rfl, rfl, rfl⟩⟩, .inr ⟨rfl, rfl, rfl⟩⟩, by decide, rfl, ⟨⟨trivial, rfl⟩, rfl⟩⟩ rfl rfl)
set_option maxRecDepth 100000 in
set_option maxHeartbeats 4000000 in
theorem s_bits_Reader_Align (k : Nat) (x906 : (List Int)) (x907 : Int) (x911 : (List Int)) (x912 : Int) (H : g_bits_Reader_Align k x906 x907 = some (x911, x912)) : Go.Q.Spec Try.prog 47 1 [.ptr 0 0] (Mem.nil.push (.cells 52 [.ro (Rd.slice (Rd.int .u8)) false x906, .lit (.int .i64 x907)])) (fun o M => o = .ret (.tup []) ∧ M = (Mem.nil.push (.cells 52 [.ro (Rd.slice (Rd.int .u8)) false x911, .lit (.int .i64 x912)]))) := by
 unfold g_bits_Reader_Align at H
 refine Go.Q.Spec.of_bodyR (az := []) (rs := []) (nt := 22) Try.func47 rfl rfl (by intro t T h; simp at h) rfl rfl fun cx hnp => ?_
 refine WP.seq ?_
 refine WP.region ?_
 refine WPL.q (q_mv (v := .ptr _ _) rfl) rfl ?_
 refine WPL.q (q_neqp Try.underlying42 rfl) rfl ?_
 refine WPL.q (q_mv (v := .lit (.bool _)) rfl) rfl ?_
 refine WPL.qg rfl rfl rfl (q_mv (v := .ptr _ _) rfl) rfl ?_
 refine WPL.qg rfl rfl rfl (q_nilCheck rfl) rfl ?_
 refine WPL.qg rfl rfl rfl (q_fieldAddr fi52_1 rfl rfl) rfl ?_
 refine WPL.qg rfl rfl rfl (q_load sc3 rfl rfl rfl) rfl ?_
 refine WPL.qg rfl rfl rfl (q_gtr rfl rfl) rfl ?_
 refine WPL.q (q_pickT (v := .lit (.bool _)) rfl rfl) rfl ?_
 refine WPL.nilW ?_
 refine W.now ?_
 refine Then.n ?_
 refine WP.cond (t := (decide (0 < x907))) rfl (fun hb912 => ?_) (fun hb912 => ?_)
 · replace H := cnt hb912 H
   refine WP.region ?_
   refine WPL.q (q_mv (v := .ptr _ _) rfl) rfl ?_
   refine WPL.q (q_mv (v := .ptr _ _) rfl) rfl ?_
   refine WPL.q (q_mv (v := .ptr _ _) rfl) rfl ?_
   refine WPL.q (q_nilCheck rfl) rfl ?_
   refine WPL.q (q_fieldAddr fi52_0 rfl rfl) rfl ?_
   refine WPL.q (q_load sc29 rfl rfl rfl) rfl ?_
   obtain ⟨h913, H⟩ := grd H
   refine WPL.q (q_slice_ro (i := 1) (j := ((List.length x906 : Nat) : Int)) sl29 rfl rfl ⟨_, rfl⟩ rfl h913) rfl ?_
   refine WPL.q (q_nilCheck rfl) rfl ?_
   refine WPL.q (q_fieldAddr fi52_0 rfl rfl) rfl ?_
   refine WPL.s (s_store sz29 rfl rfl rfl rfl rfl) ?_
   refine WPL.q (q_nilCheck rfl) rfl ?_
   refine WPL.q (q_fieldAddr fi52_1 rfl rfl) rfl ?_
   refine WPL.s (s_store sz3 rfl rfl rfl rfl rfl) ?_
   refine WPL.nilW ?_
   have q0 := (Prod.mk.inj (Option.some.inj H)).1
   have q1 := (Prod.mk.inj (Option.some.inj H)).2
   subst q0
   subst q1
   exact W.now (BodyR.mkN trivial rfl [0] ⟨rfl, rfl⟩ ⟨rfl, ⟨trivial, .inr ⟨rfl, rfl, rfl⟩⟩, by decide, rfl, ⟨trivial, rfl⟩⟩ rfl rfl)
 replace H := cnf hb912 H
 refine WP.skipW ?_
 have q0 := (Prod.mk.inj (Option.some.inj H)).1
 have q1 := (Prod.mk.inj (Option.some.inj H)).2
 subst q0
 subst q1
 exact W.now (BodyR.mkN trivial rfl [0] ⟨rfl, rfl⟩ ⟨rfl, ⟨trivial, .inr ⟨rfl, rfl, rfl⟩⟩, by decide, rfl, ⟨trivial, rfl⟩⟩ rfl rfl)
set_option maxRecDepth 100000 in
set_option maxHeartbeats 4000000 in
theorem s_slices_Clone_byte_byte__b (k : Nat) (x923 : List Int) (x924 : List Int) (H : g_slices_Clone_byte_byte__b k x923 = some x924) : Go.Q.Spec Try.prog 25 0 [.ro (Rd.slice (Rd.int .u8)) false x923] Mem.nil (fun o M => o = .ret (.ro (Rd.slice (Rd.int .u8)) false x924) ∧ M = Mem.nil) := by
  unfold g_slices_Clone_byte_byte__b at H
  obtain ⟨h, H⟩ := grd H
  have q0 := Option.some.inj H
  subst q0
  refine Go.Q.Spec.of_bodyR (az := []) (rs := [.tmp 2]) (nt := 8) Try.func25 rfl rfl (by intro t T h; simp at h) rfl rfl fun cx hnp => ?_
  refine WP.seq ?_
  refine WP.region ?_
  refine WPL.q (q_as (v := .lit _) rfl) rfl ?_
  refine WPL.nilW ?_
  refine W.now ?_
  refine Then.n ?_
  refine WP.seq ?_
  refine WP.seq ?_
  refine WP.region ?_
  refine WPL.q (q_mv (v := .ro _ _ _) rfl) rfl ?_
  refine WPL.eqlNil Try.underlying29 rfl rfl fun nb hnb => ?_
  refine WPL.nilW ?_
  refine W.now ?_
  refine Then.n ?_
  refine WP.cond (t := nb) rfl (fun hb => ?_) (fun hb => ?_)
  · have h0 := hnb hb
    subst h0
    refine WP.seq ?_
    refine WP.region ?_
    refine WPL.q (q_as (v := .lit _) rfl) rfl ?_
    refine WPL.nilW ?_
    refine W.now ?_
    refine Then.n ?_
    refine WP.retW ?_
    refine W.cv (Cv.nilRo (Rd.int .u8) false 2 rfl) rfl ?_
    refine W.now ?_
    refine Then.r ?_
    exact ⟨trivial, _, rfl, [], (.ro (Rd.slice (Rd.int .u8)) false ([] : List Int)), Mem.nil, ⟨rfl, trivial, by decide, rfl, trivial⟩, rfl, rfl, rfl, rfl⟩
  · refine WP.skipW ?_
    refine W.now ?_
    refine Then.n ?_
    refine WP.seq ?_
    refine WP.region ?_
    refine WPL.d (d_buildSlice (ds := ([] : List Int)) (R := (Rd.int .u8)) li29 rfl rfl rfl rfl rfl JoinRows.nil rfl rfl) rfl ?_
    refine WPL.q (q_mv (v := .ro _ _ _) rfl) rfl ?_
    refine WPL.d (d_append ap29 rfl rfl rfl rfl (src_ro sl29 rfl) h rfl) rfl ?_
    refine WPL.q (q_as (v := .whole _) rfl) rfl ?_
    refine WPL.nilW ?_
    refine W.now ?_
    refine Then.n ?_
    refine WP.retW ?_
    refine W.cv (Cv.frzRow (i := 1) rfl rfl hnp rfl rfl) rfl ?_
    refine W.now ?_
    exact ⟨trivial, _, rfl, [], (.ro (Rd.slice (Rd.int .u8)) false x923), Mem.nil, ⟨rfl, trivial, by decide, rfl, trivial⟩, rfl, rfl, rfl, rfl⟩
set_option maxRecDepth 100000 in
set_option maxHeartbeats 4000000 in
theorem s_bits_Reader_Bytes (k : Nat) (x900 : Int) (x901 : (List Int)) (x902 : Int) (x928 : (List Int)) (x929 : Int) (x930 : (List Int)) (x931 : Int) (H : g_bits_Reader_Bytes k x900 x901 x902 = some (x928, x929, x930, x931)) : Go.Q.Spec Try.prog 42 1 [.ptr 0 0, .lit (.int .i64 x900)] (Mem.nil.push (.cells 52 [.ro (Rd.slice (Rd.int .u8)) false x901, .lit (.int .i64 x902)])) (fun o M => o = .ret (.tup [.ro (Rd.slice (Rd.int .u8)) false x928, .lit (.int .i64 x929)]) ∧ M = (Mem.nil.push (.cells 52 [.ro (Rd.slice (Rd.int .u8)) false x930, .lit (.int .i64 x931)]))) := by
 unfold g_bits_Reader_Bytes at H
 refine Go.Q.Spec.of_bodyR (az := []) (rs := [.tmp 4, .tmp 5]) (nt := 37) Try.func42 rfl rfl (by intro t T h; simp at h) rfl rfl fun cx hnp => ?_
 refine WP.seq ?_
 refine WP.region ?_
 refine WPL.q (q_as (v := .lit _) rfl) rfl ?_
 refine WPL.q (q_as (v := .lit (.int _ _)) rfl) rfl ?_
 refine WPL.nilW ?_
 refine W.now ?_
 refine Then.n ?_
 refine WP.seq ?_
 refine WP.seq ?_
 refine WP.region ?_
 refine WPL.q (q_mv (v := .ptr _ _) rfl) rfl ?_
 refine WPL.q (q_eqlp Try.underlying42 rfl) rfl ?_
 refine WPL.nilW ?_
 refine W.now ?_
 refine Then.n ?_
 refine WP.condF rfl ?_
 refine WP.skipW ?_
 refine W.now ?_
 refine Then.n ?_
 refine WP.seq ?_
 refine WP.seq ?_
 refine WP.region ?_
 refine WPL.q (q_mv (v := .lit (.int _ _)) rfl) rfl ?_
 refine WPL.q (q_lss rfl rfl) rfl ?_
 refine WPL.nilW ?_
 refine W.now ?_
 refine Then.n ?_
 refine WP.cond (t := (decide (x900 < 0))) rfl (fun hb932 => ?_) (fun hb932 => ?_)
 · replace H := cnt hb932 H
   refine WP.seq ?_
   refine WP.region ?_
   refine WPL.q (q_as (v := .lit _) rfl) rfl ?_
   refine WPL.q (q_as (v := .lit (.int _ _)) rfl) rfl ?_
   refine WPL.nilW ?_
   refine W.now ?_
   refine Then.n ?_
   refine WP.retW ?_
   refine W.cv (Cv.nilRo (Rd.int .u8) false 4 rfl) rfl ?_
   have q0 := (Prod.mk.inj (Option.some.inj H)).1
   have q1 := (Prod.mk.inj (Prod.mk.inj (Option.some.inj H)).2).1
   have q2 := (Prod.mk.inj (Prod.mk.inj (Prod.mk.inj (Option.some.inj H)).2).2).1
   have q3 := (Prod.mk.inj (Prod.mk.inj (Prod.mk.inj (Option.some.inj H)).2).2).2
   subst q0
   subst q1
   subst q2
   subst q3
   exact W.now (Then.r (BodyR.mkR trivial rfl [0] ⟨rfl, rfl⟩ ⟨rfl, ⟨trivial, .inr ⟨rfl, rfl, rfl⟩⟩, by decide, rfl, ⟨trivial, rfl⟩⟩ rfl rfl))
 replace H := cnf hb932 H
 refine WP.skipW ?_
 refine W.now ?_
 refine Then.n ?_
 refine WP.seq ?_
 refine WP.region ?_
 refine WPL.q (q_mv (v := .ptr _ _) rfl) rfl ?_
 obtain ⟨⟨x935, x936⟩, h933, H⟩ := bnd H
 refine WPL.c (runs_call (s := [0]) (t := [0]) (N := 1) (bor := []) fn47 rfl (s_bits_Reader_Align k x901 x902 x935 x936 h933) ⟨rfl, ⟨trivial, .inr ⟨rfl, rfl, rfl⟩⟩, by decide, rfl, trivial⟩ rfl trivial (.ren rfl rfl .nil) rfl ⟨trivial, rfl⟩ rfl) rfl ?_
 refine WPL.nilW ?_
 refine W.now ?_
 refine Then.n ?_
 refine WP.seq ?_
 refine WP.seq ?_
 refine WP.region ?_
 refine WPL.q (q_mv (v := .lit (.int _ _)) rfl) rfl ?_
 refine WPL.q (q_mv (v := .ptr _ _) rfl) rfl ?_
 refine WPL.q (q_nilCheck rfl) rfl ?_
 refine WPL.q (q_fieldAddr fi52_0 rfl rfl) rfl ?_
 refine WPL.q (q_load sc29 rfl rfl rfl) rfl ?_
 refine WPL.q (q_len_ro sl29 rfl) rfl ?_
 obtain ⟨x939, h939, H⟩ := bnd H
 refine WPL.q (q_nm (q_gtr rfl rfl) (nm_bool h939)) rfl ?_
 refine WPL.nilW ?_
 refine W.now ?_
 refine Then.n ?_
 refine WP.cond (t := x939) rfl (fun hb939 => ?_) (fun hb939 => ?_)
 · replace H := cnt hb939 H
   refine WP.seq ?_
   refine WP.region ?_
   refine WPL.q (q_as (v := .lit _) rfl) rfl ?_
   refine WPL.q (q_as (v := .lit (.int _ _)) rfl) rfl ?_
   refine WPL.nilW ?_
   refine W.now ?_
   refine Then.n ?_
   refine WP.retW ?_
   refine W.cv (Cv.nilRo (Rd.int .u8) false 4 rfl) rfl ?_
   have q0 := (Prod.mk.inj (Option.some.inj H)).1
   have q1 := (Prod.mk.inj (Prod.mk.inj (Option.some.inj H)).2).1
   have q2 := (Prod.mk.inj (Prod.mk.inj (Prod.mk.inj (Option.some.inj H)).2).2).1
   have q3 := (Prod.mk.inj (Prod.mk.inj (Prod.mk.inj (Option.some.inj H)).2).2).2
   subst q0
   subst q1
   subst q2
   subst q3
   exact W.now (Then.r (BodyR.mkR trivial rfl [0] ⟨rfl, rfl⟩ ⟨rfl, ⟨trivial, .inr ⟨rfl, rfl, rfl⟩⟩, by decide, rfl, ⟨trivial, rfl⟩⟩ rfl rfl))
 replace H := cnf hb939 H
 refine WP.skipW ?_
 refine W.now ?_
 refine Then.n ?_
 refine WP.seq ?_
 refine WP.region ?_
 refine WPL.q (q_mv (v := .ptr _ _) rfl) rfl ?_
 refine WPL.q (q_nilCheck rfl) rfl ?_
 refine WPL.q (q_fieldAddr fi52_0 rfl rfl) rfl ?_
 refine WPL.q (q_load sc29 rfl rfl rfl) rfl ?_
 refine WPL.q (q_mv (v := .lit (.int _ _)) rfl) rfl ?_
 obtain ⟨h940, H⟩ := grd H
 refine WPL.q (q_slice_ro (i := 0) (j := x900) sl29 rfl rfl rfl ⟨_, rfl⟩ h940) rfl ?_
 obtain ⟨x943, h941, H⟩ := bnd H
 refine WPL.c (runs_call (s := []) (t := []) (N := 1) (bor := []) fn25 rfl (s_slices_Clone_byte_byte__b k (List.drop (Int.toNat 0) (List.take (Int.toNat x900) x935)) x943 h941) ⟨rfl, trivial, by decide, rfl, trivial⟩ rfl trivial (.ren rfl rfl .nil) rfl trivial rfl) rfl ?_
 refine WPL.q (q_as (v := .ro _ _ _) rfl) rfl ?_
 refine WPL.nilW ?_
 refine W.now ?_
 refine Then.n ?_
 refine WP.seq ?_
 refine WP.region ?_
 refine WPL.q (q_mv (v := .ptr _ _) rfl) rfl ?_
 refine WPL.q (q_mv (v := .ptr _ _) rfl) rfl ?_
 refine WPL.q (q_nilCheck rfl) rfl ?_
 refine WPL.q (q_fieldAddr fi52_0 rfl rfl) rfl ?_
 refine WPL.q (q_load sc29 rfl rfl rfl) rfl ?_
 refine WPL.q (q_mv (v := .lit (.int _ _)) rfl) rfl ?_
 obtain ⟨h943, H⟩ := grd H
 refine WPL.q (q_slice_ro (i := x900) (j := ((List.length x935 : Nat) : Int)) sl29 rfl rfl ⟨_, rfl⟩ rfl h943) rfl ?_
 refine WPL.q (q_nilCheck rfl) rfl ?_
 refine WPL.q (q_fieldAddr fi52_0 rfl rfl) rfl ?_
 refine WPL.s (s_store sz29 rfl rfl rfl rfl rfl) ?_
 refine WPL.nilW ?_
 refine W.now ?_
 refine Then.n ?_
 refine WP.seq ?_
 refine WP.region ?_
 refine WPL.q (q_mv (v := .ro _ _ _) rfl) rfl ?_
 refine WPL.q (q_as (v := .ro _ _ _) rfl) rfl ?_
 refine WPL.q (q_as (v := .lit (.int _ _)) rfl) rfl ?_
 refine WPL.nilW ?_
 refine W.now ?_
 refine Then.n ?_
 refine WP.retW ?_
 have q0 := (Prod.mk.inj (Option.some.inj H)).1
 have q1 := (Prod.mk.inj (Prod.mk.inj (Option.some.inj H)).2).1
 have q2 := (Prod.mk.inj (Prod.mk.inj (Prod.mk.inj (Option.some.inj H)).2).2).1
 have q3 := (Prod.mk.inj (Prod.mk.inj (Prod.mk.inj (Option.some.inj H)).2).2).2
 subst q0
 subst q1
 subst q2
 subst q3
 exact W.now (BodyR.mkR trivial rfl [0] ⟨rfl, rfl⟩ ⟨rfl, ⟨trivial, .inr ⟨rfl, rfl, rfl⟩⟩, by decide, rfl, ⟨trivial, rfl⟩⟩ rfl rfl)
set_option maxRecDepth 100000 in
set_option maxHeartbeats 4000000 in
theorem s_inflate_stream_bytes (k : Nat) (x894 : Int) (x895 : Int) (x896 : (List Int)) (x897 : Int) (x898 : (List Int)) (r : (Int ⊕ ((List Int) × (List Int) × Int))) (H : g_inflate_stream_bytes k x894 x895 x896 x897 x898 = some r) : Go.Q.Spec Try.prog 33 3 [.ptr 0 0, .lit (.int .i64 x894)] (((Mem.nil.push (.cells 45 [.ptr 1 0, .whole 2, .lit (.int .i64 x895)])).push (.cells 52 [.ro (Rd.slice (Rd.int .u8)) false x896, .lit (.int .i64 x897)])).push (.row 5 (Rd.int .u8) x898)) (fun o M => match (generalizing := false) r with | (Sum.inl x952) => o = .pan (.ifc 46 (.lit (.int .i64 x952))) ∧ M = (((Mem.nil.push (.gone)).push (.gone)).push (.gone)) | (Sum.inr (x953, x954, x955)) => o = .ret (.ro (Rd.slice (Rd.int .u8)) false x953) ∧ M = (((Mem.nil.push (.cells 45 [.ptr 1 0, .whole 2, .lit (.int .i64 x895)])).push (.cells 52 [.ro (Rd.slice (Rd.int .u8)) false x954, .lit (.int .i64 x955)])).push (.row 5 (Rd.int .u8) x898))) := by
 unfold g_inflate_stream_bytes at H
 refine Go.Q.Spec.of_bodyR (az := []) (rs := [.tmp 4]) (nt := 19) Try.func33 rfl rfl (by intro t T h; simp at h) rfl rfl fun cx hnp => ?_
 refine WP.seq ?_
 refine WP.region ?_
 refine WPL.q (q_as (v := .lit _) rfl) rfl ?_
 refine WPL.nilW ?_
 refine W.now ?_
 refine Then.n ?_
 refine WP.seq ?_
 refine WP.region ?_
 refine WPL.q (q_mv (v := .ptr _ _) rfl) rfl ?_
 refine WPL.q (q_nilCheck rfl) rfl ?_
 refine WPL.q (q_fieldAddr fi45_0 rfl rfl) rfl ?_
 refine WPL.q (q_load sc42 rfl rfl rfl) rfl ?_
 refine WPL.q (q_mv (v := .lit (.int _ _)) rfl) rfl ?_
 obtain ⟨⟨x957, x958, x959, x960⟩, h955, H⟩ := bnd H
 refine WPL.c (runs_call (s := [1]) (t := [1]) (N := 3) (bor := []) fn42 rfl (s_bits_Reader_Bytes k x894 x896 x897 x957 x958 x959 x960 h955) ⟨rfl, ⟨trivial, .inr ⟨rfl, rfl, rfl⟩⟩, by decide, rfl, trivial⟩ rfl trivial (.ren rfl rfl (.ren rfl rfl .nil)) rfl ⟨trivial, rfl⟩ rfl) rfl ?_
 refine WPL.q (q_mv (v := .tup _) rfl) rfl ?_
 refine WPL.q (q_extract rfl rfl) rfl ?_
 refine WPL.q (q_extract rfl rfl) rfl ?_
 refine WPL.q (q_as (v := .ro _ _ _) rfl) rfl ?_
 refine WPL.q (q_as (v := .lit (.int _ _)) rfl) rfl ?_
 refine WPL.nilW ?_
 refine W.now ?_
 refine Then.n ?_
 refine WP.seq ?_
 refine WP.region ?_
 refine WPL.q (q_mv (v := .lit (.int _ _)) rfl) rfl ?_
 obtain ⟨y962, h960, H⟩ := bnd H
 rcases y962 with _ | _
 · refine WPL.pW (runs_callP (s := []) (t := []) (N := 3) (bor := []) fn31 rfl (s_inflate_must k x958 (Sum.inl ()) h960) ⟨rfl, trivial, by decide, rfl, trivial⟩ rfl trivial (.ren rfl rfl .nil) rfl trivial rfl) ?_
   have q0 := Option.some.inj H
   subst q0
   exact W.now (Then.p (BodyR.mkP trivial [0, 1, 2] ⟨rfl, rfl⟩ ⟨rfl, ⟨⟨⟨trivial, .inl rfl⟩, .inl rfl⟩, .inl rfl⟩, by decide, rfl, ⟨⟨⟨trivial, rfl⟩, rfl⟩, rfl⟩⟩ rfl rfl))
 refine WPL.c (runs_call (s := []) (t := []) (N := 3) (bor := []) fn31 rfl (s_inflate_must k x958 (Sum.inr ()) h960) ⟨rfl, trivial, by decide, rfl, trivial⟩ rfl trivial (.ren rfl rfl .nil) rfl trivial rfl) rfl ?_
 refine WPL.nilW ?_
 refine W.now ?_
 refine Then.n ?_
 refine WP.seq ?_
 refine WP.region ?_
 refine WPL.q (q_mv (v := .ro _ _ _) rfl) rfl ?_
 refine WPL.q (q_as (v := .ro _ _ _) rfl) rfl ?_
 refine WPL.nilW ?_
 refine W.now ?_
 refine Then.n ?_
 refine WP.retW ?_
 have q0 := Option.some.inj H
 subst q0
 exact W.now (BodyR.mkR trivial rfl [0, 1, 2] ⟨rfl, rfl⟩ ⟨rfl, ⟨⟨⟨trivial, .inr ⟨rfl, rfl, rfl⟩⟩, .inr ⟨rfl, rfl, rfl⟩⟩, .inr ⟨rfl, rfl, rfl⟩⟩, by decide, rfl, ⟨⟨⟨trivial, rfl⟩, rfl⟩, rfl⟩⟩ rfl rfl)
set_option maxRecDepth 100000 in
set_option maxHeartbeats 4000000 in
theorem s_inflate_ask (k : Nat) (x979 : Bool) (x980 : Int) (r : (Unit ⊕ Unit)) (H : g_inflate_ask k x979 x980 = some r) : Go.Q.Spec Try.prog 34 0 [.lit (.bool x979), .lit (.int .i64 x980)] Mem.nil (fun o M => match (generalizing := false) r with | (Sum.inl _) => o = .pan (.ifc 46 (.lit (.int .i64 x980))) ∧ M = Mem.nil | (Sum.inr _) => o = .ret (.tup []) ∧ M = Mem.nil) := by
 unfold g_inflate_ask at H
 refine Go.Q.Spec.of_bodyR (az := []) (rs := []) (nt := 8) Try.func34 rfl rfl (by intro t T h; simp at h) rfl rfl fun cx hnp => ?_
 refine WP.seq ?_
 refine WP.region ?_
 refine WPL.q (q_mv (v := .lit (.bool _)) rfl) rfl ?_
 refine WPL.q (q_not rfl) rfl ?_
 refine WPL.nilW ?_
 refine W.now ?_
 refine Then.n ?_
 refine WP.cond (t := (!x979)) rfl (fun hb984 => ?_) (fun hb984 => ?_)
 · replace H := cnt hb984 H
   refine WP.region ?_
   refine WPL.q (q_mv (v := .lit (.int _ _)) rfl) rfl ?_
   obtain ⟨y987, h985, H⟩ := bnd H
   rcases y987 with _ | _
   · refine WPL.pW (runs_callP (s := []) (t := []) (N := 0) (bor := []) fn31 rfl (s_inflate_must k x980 (Sum.inl ()) h985) ⟨rfl, trivial, by decide, rfl, trivial⟩ rfl trivial (.ren rfl rfl .nil) rfl trivial rfl) ?_
     have q0 := Option.some.inj H
     subst q0
     exact W.now (BodyR.mkP trivial [] ⟨rfl, rfl⟩ ⟨rfl, trivial, by decide, rfl, trivial⟩ rfl rfl)
   refine WPL.c (runs_call (s := []) (t := []) (N := 0) (bor := []) fn31 rfl (s_inflate_must k x980 (Sum.inr ()) h985) ⟨rfl, trivial, by decide, rfl, trivial⟩ rfl trivial (.ren rfl rfl .nil) rfl trivial rfl) rfl ?_
   refine WPL.nilW ?_
   have q0 := Option.some.inj H
   subst q0
   exact W.now (BodyR.mkN trivial rfl [] ⟨rfl, rfl⟩ ⟨rfl, trivial, by decide, rfl, trivial⟩ rfl rfl)
 replace H := cnf hb984 H
 refine WP.skipW ?_
 have q0 := Option.some.inj H
 subst q0
 exact W.now (BodyR.mkN trivial rfl [] ⟨rfl, rfl⟩ ⟨rfl, trivial, by decide, rfl, trivial⟩ rfl rfl)
set_option maxRecDepth 100000 in
set_option maxHeartbeats 4000000 in
theorem s_inflate_stream_room (k : Nat) (x996 : Int) (x997 : Int) (x998 : (List Int)) (x999 : Int) (x1000 : (List Int)) (r : (Unit ⊕ Unit)) (H : g_inflate_stream_room k x996 x997 x998 x999 x1000 = some r) : Go.Q.Spec Try.prog 35 2 [.ptr 0 0, .lit (.int .i64 x996)] (((Mem.nil.push (.cells 45 [.ptr 1 0, .whole 2, .lit (.int .i64 x997)])).push (.cells 52 [.ro (Rd.slice (Rd.int .u8)) false x998, .lit (.int .i64 x999)])).push (.row 5 (Rd.int .u8) x1000)) (fun o M => match (generalizing := false) r with | (Sum.inl _) => o = .pan (.ifc 46 (.lit (.int .i64 3))) ∧ M = ((Mem.nil.push (.gone)).push (.gone)) | (Sum.inr _) => o = .ret (.tup []) ∧ M = (((Mem.nil.push (.cells 45 [.ptr 1 0, .whole 2, .lit (.int .i64 x997)])).push (.cells 52 [.ro (Rd.slice (Rd.int .u8)) false x998, .lit (.int .i64 x999)])).push (.row 5 (Rd.int .u8) x1000))) := by
 unfold g_inflate_stream_room at H
 refine Go.Q.Spec.of_bodyR (az := []) (rs := []) (nt := 17) Try.func35 rfl rfl (by intro t T h; simp at h) rfl rfl fun cx hnp => ?_
 refine WP.regionD' 13 [0] [] mixed rfl ?_
 refine WPD.takeT 0 rfl (by kernel_rfl) (q_mv (v := .lit (.int _ _)) rfl) rfl ?_
 refine WPD.takeT 1 rfl (by kernel_rfl) (q_mv (v := .ptr _ _) rfl) rfl ?_
 refine WPD.takeT 2 rfl (by kernel_rfl) (q_nilCheck rfl) rfl ?_
 refine WPD.takeT 3 rfl (by kernel_rfl) (q_fieldAddr fi45_2 rfl rfl) rfl ?_
 refine WPD.takeT 5 rfl (by kernel_rfl) (q_mv (v := .ptr _ _) rfl) rfl ?_
 refine WPD.takeT 6 rfl (by kernel_rfl) (q_nilCheck rfl) rfl ?_
 refine WPD.takeT 7 rfl (by kernel_rfl) (q_fieldAddr fi45_1 rfl rfl) rfl ?_
 refine WPD.take 4 rfl (by kernel_rfl) (q_load sc3 rfl rfl rfl) rfl rfl ?_
 refine WPD.take 8 rfl (by kernel_rfl) (q_load sc29 rfl rfl rfl) rfl rfl ?_
 refine WPD.takeT 9 rfl (by kernel_rfl) (q_len_row sl29 rfl rfl) rfl ?_
 obtain ⟨x1011, h1011, H⟩ := bnd H
 refine WPD.takeT 10 rfl (by kernel_rfl) (q_nm (q_sub rfl rfl) (nm_int h1011)) rfl ?_
 refine WPD.takeT 11 rfl (by kernel_rfl) (q_leq rfl rfl) rfl ?_
 obtain ⟨y1013, h1011, H⟩ := bnd H
 rcases y1013 with _ | _
 · refine WPD.pW 12 rfl (by kernel_rfl) (runs_callP (s := []) (t := []) (N := 3) (bor := []) fn34 rfl (s_inflate_ask k (decide (x996 ≤ x1011)) 3 (Sum.inl ()) h1011) ⟨rfl, trivial, by decide, rfl, trivial⟩ rfl trivial (.ren rfl rfl (.ren rfl rfl .nil)) rfl trivial rfl) ?_
   have q0 := Option.some.inj H
   subst q0
   exact W.now (BodyR.mkP trivial [0, 1] ⟨rfl, rfl⟩ ⟨rfl, ⟨⟨trivial, .inl rfl⟩, .inl rfl⟩, by decide, rfl, ⟨⟨trivial, rfl⟩, rfl⟩⟩ rfl rfl)
 refine WPD.eff 12 [0] [] rfl (by kernel_rfl) (runs_call (s := []) (t := []) (N := 3) (bor := []) fn34 rfl (s_inflate_ask k (decide (x996 ≤ x1011)) 3 (Sum.inr ()) h1011) ⟨rfl, trivial, by decide, rfl, trivial⟩ rfl trivial (.ren rfl rfl (.ren rfl rfl .nil)) rfl trivial rfl) rfl rfl ?_
 refine WPD.doneW (by kernel_rfl) ?_
 have q0 := Option.some.inj H
 subst q0
 exact W.now (BodyR.mkN trivial rfl [0, 1, 2] ⟨rfl, rfl⟩ ⟨rfl, ⟨⟨⟨trivial, .inr ⟨rfl, rfl, rfl⟩⟩, .inr ⟨rfl, rfl, rfl⟩⟩, .inr ⟨rfl, rfl, rfl⟩⟩, by decide, rfl, ⟨⟨trivial, rfl⟩, rfl⟩⟩ rfl rfl)
set_option maxRecDepth 100000 in
set_option maxHeartbeats 4000000 in
theorem s_inflate_stream_stored (k : Nat) (x889 : Int) (x890 : (List Int)) (x891 : Int) (x892 : (List Int)) (r : (Int ⊕ ((List Int) × Int × (List Int)))) (H : g_inflate_stream_stored k x889 x890 x891 x892 = some r) : Go.Q.Spec Try.prog 27 2 [.ptr 0 0] (((Mem.nil.push (.cells 45 [.ptr 1 0, .whole 2, .lit (.int .i64 x889)])).push (.cells 52 [.ro (Rd.slice (Rd.int .u8)) false x890, .lit (.int .i64 x891)])).push (.row 5 (Rd.int .u8) x892)) (fun o M => match (generalizing := false) r with | (Sum.inl x1051) => o = .pan (.ifc 46 (.lit (.int .i64 x1051))) ∧ M = ((Mem.nil.push (.gone)).push (.gone)) | (Sum.inr (x1052, x1053, x1054)) => o = .ret (.tup []) ∧ M = (((Mem.nil.push (.cells 45 [.ptr 1 0, .whole 2, .lit (.int .i64 x889)])).push (.cells 52 [.ro (Rd.slice (Rd.int .u8)) false x1052, .lit (.int .i64 x1053)])).push (.row 5 (Rd.int .u8) x1054))) := by
 unfold g_inflate_stream_stored at H
 refine Go.Q.Spec.of_bodyR (az := []) (rs := []) (nt := 44) Try.func27 rfl rfl (by intro t T h; simp at h) rfl rfl fun cx hnp => ?_
 refine WP.seq ?_
 refine WP.region ?_
 refine WPL.q (q_mv (v := .ptr _ _) rfl) rfl ?_
 obtain ⟨y1060, h1054, H⟩ := bnd H
 rcases y1060 with x1056 | ⟨x1057, x1058, x1059⟩
 · refine WPL.pW (runs_callP (s := [0, 1, 2]) (t := [0, 1, 2]) (N := 3) (bor := []) fn33 rfl (s_inflate_stream_bytes k 4 x889 x890 x891 x892 (Sum.inl x1056) h1054) ⟨rfl, ⟨⟨⟨trivial, .inr ⟨rfl, rfl, rfl⟩⟩, .inr ⟨rfl, rfl, rfl⟩⟩, .inr ⟨rfl, rfl, rfl⟩⟩, by decide, rfl, trivial⟩ rfl trivial (.ren rfl rfl (.ren rfl rfl .nil)) rfl ⟨⟨⟨trivial, rfl⟩, rfl⟩, rfl⟩ rfl) ?_
   have q0 := Option.some.inj H
   subst q0
   exact W.now (Then.p (BodyR.mkP trivial [0, 1] ⟨rfl, rfl⟩ ⟨rfl, ⟨⟨trivial, .inl rfl⟩, .inl rfl⟩, by decide, rfl, ⟨⟨trivial, rfl⟩, rfl⟩⟩ rfl rfl))
 refine WPL.c (runs_call (s := [0, 1, 2]) (t := [0, 1, 2]) (N := 3) (bor := []) fn33 rfl (s_inflate_stream_bytes k 4 x889 x890 x891 x892 (Sum.inr (x1057, x1058, x1059)) h1054) ⟨rfl, ⟨⟨⟨trivial, .inr ⟨rfl, rfl, rfl⟩⟩, .inr ⟨rfl, rfl, rfl⟩⟩, .inr ⟨rfl, rfl, rfl⟩⟩, by decide, rfl, trivial⟩ rfl trivial (.ren rfl rfl (.ren rfl rfl .nil)) rfl ⟨⟨⟨trivial, rfl⟩, rfl⟩, rfl⟩ rfl) rfl ?_
 refine WPL.q (q_as (v := .ro _ _ _) rfl) rfl ?_
 refine WPL.nilW ?_
 refine W.now ?_
 refine Then.n ?_
 refine WP.seq ?_
 refine WP.regionD' 11 [] [] mixed rfl ?_
 refine WPD.takeT 0 rfl (by kernel_rfl) (q_mv (v := .ro _ _ _) rfl) rfl ?_
 obtain ⟨x1064, h1064, H⟩ := bnd H
 refine WPD.takeT 1 rfl (by kernel_rfl) (q_index_ro sl29 rfl rfl rfl h1064) rfl ?_
 refine WPD.takeT 2 rfl (by kernel_rfl) (q_load_sc sc5 rfl) rfl ?_
 refine WPD.takeT 3 rfl (by kernel_rfl) (q_conv Try.underlying5 Try.underlying3 rfl) rfl ?_
 refine WPD.takeT 4 rfl (by kernel_rfl) (q_mv (v := .ro _ _ _) rfl) rfl ?_
 obtain ⟨x1065, h1065, H⟩ := bnd H
 refine WPD.takeT 5 rfl (by kernel_rfl) (q_index_ro sl29 rfl rfl rfl h1065) rfl ?_
 refine WPD.takeT 6 rfl (by kernel_rfl) (q_load_sc sc5 rfl) rfl ?_
 refine WPD.takeT 7 rfl (by kernel_rfl) (q_conv Try.underlying5 Try.underlying3 rfl) rfl ?_
 refine WPD.takeT 8 rfl (by kernel_rfl) (q_shl rfl rfl rfl) rfl ?_
 obtain ⟨x1066, h1066, H⟩ := bnd H
 refine WPD.takeT 9 rfl (by kernel_rfl) (q_nm (q_or rfl rfl) (nm_int h1066)) rfl ?_
 refine WPD.takeT 10 rfl (by kernel_rfl) (q_as (v := .lit (.int _ _)) rfl) rfl ?_
 refine WPD.doneW (by kernel_rfl) ?_
 refine W.now ?_
 refine Then.n ?_
 refine WP.seq ?_
 refine WP.regionD' 14 [] [] mixed rfl ?_
 refine WPD.takeT 0 rfl (by kernel_rfl) (q_mv (v := .lit (.int _ _)) rfl) rfl ?_
 refine WPD.takeT 1 rfl (by kernel_rfl) (q_xor rfl rfl) rfl ?_
 refine WPD.takeT 2 rfl (by kernel_rfl) (q_mv (v := .ro _ _ _) rfl) rfl ?_
 obtain ⟨x1073, h1073, H⟩ := bnd H
 refine WPD.takeT 3 rfl (by kernel_rfl) (q_index_ro sl29 rfl rfl rfl h1073) rfl ?_
 refine WPD.takeT 4 rfl (by kernel_rfl) (q_load_sc sc5 rfl) rfl ?_
 refine WPD.takeT 5 rfl (by kernel_rfl) (q_conv Try.underlying5 Try.underlying3 rfl) rfl ?_
 refine WPD.takeT 6 rfl (by kernel_rfl) (q_mv (v := .ro _ _ _) rfl) rfl ?_
 obtain ⟨x1074, h1074, H⟩ := bnd H
 refine WPD.takeT 7 rfl (by kernel_rfl) (q_index_ro sl29 rfl rfl rfl h1074) rfl ?_
 refine WPD.takeT 8 rfl (by kernel_rfl) (q_load_sc sc5 rfl) rfl ?_
 refine WPD.takeT 9 rfl (by kernel_rfl) (q_conv Try.underlying5 Try.underlying3 rfl) rfl ?_
 refine WPD.takeT 10 rfl (by kernel_rfl) (q_shl rfl rfl rfl) rfl ?_
 obtain ⟨x1075, h1075, H⟩ := bnd H
 refine WPD.takeT 11 rfl (by kernel_rfl) (q_nm (q_or rfl rfl) (nm_int h1075)) rfl ?_
 obtain ⟨x1076, h1076, H⟩ := bnd H
 refine WPD.takeT 12 rfl (by kernel_rfl) (q_nm (q_eql rfl rfl) (nm_bool h1076)) rfl ?_
 obtain ⟨y1078, h1076, H⟩ := bnd H
 rcases y1078 with _ | _
 · refine WPD.pW 13 rfl (by kernel_rfl) (runs_callP (s := []) (t := []) (N := 3) (bor := []) fn34 rfl (s_inflate_ask k x1076 12 (Sum.inl ()) h1076) ⟨rfl, trivial, by decide, rfl, trivial⟩ rfl trivial (.ren rfl rfl (.ren rfl rfl .nil)) rfl trivial rfl) ?_
   have q0 := Option.some.inj H
   subst q0
   exact W.now (Then.p (BodyR.mkP trivial [0, 1] ⟨rfl, rfl⟩ ⟨rfl, ⟨⟨trivial, .inl rfl⟩, .inl rfl⟩, by decide, rfl, ⟨⟨trivial, rfl⟩, rfl⟩⟩ rfl rfl))
 refine WPD.eff 13 [] [] rfl (by kernel_rfl) (runs_call (s := []) (t := []) (N := 3) (bor := []) fn34 rfl (s_inflate_ask k x1076 12 (Sum.inr ()) h1076) ⟨rfl, trivial, by decide, rfl, trivial⟩ rfl trivial (.ren rfl rfl (.ren rfl rfl .nil)) rfl trivial rfl) rfl rfl ?_
 refine WPD.doneW (by kernel_rfl) ?_
 refine W.now ?_
 refine Then.n ?_
 refine WP.seq ?_
 refine WP.region ?_
 refine WPL.q (q_mv (v := .ptr _ _) rfl) rfl ?_
 refine WPL.q (q_mv (v := .lit (.int _ _)) rfl) rfl ?_
 obtain ⟨y1080, h1078, H⟩ := bnd H
 rcases y1080 with _ | _
 · refine WPL.pW (runs_callP (s := [0, 1, 2]) (t := [0, 1]) (N := 3) (bor := []) fn35 rfl (s_inflate_stream_room k x1066 x889 x1058 x1059 x892 (Sum.inl ()) h1078) ⟨rfl, ⟨⟨⟨trivial, .inr ⟨rfl, rfl, rfl⟩⟩, .inr ⟨rfl, rfl, rfl⟩⟩, .inr ⟨rfl, rfl, rfl⟩⟩, by decide, rfl, trivial⟩ rfl trivial (.ren rfl rfl (.ren rfl rfl .nil)) rfl ⟨⟨trivial, rfl⟩, rfl⟩ rfl) ?_
   have q0 := Option.some.inj H
   subst q0
   exact W.now (Then.p (BodyR.mkP trivial [0, 1] ⟨rfl, rfl⟩ ⟨rfl, ⟨⟨trivial, .inl rfl⟩, .inl rfl⟩, by decide, rfl, ⟨⟨trivial, rfl⟩, rfl⟩⟩ rfl rfl))
 refine WPL.c (runs_call (s := [0, 1, 2]) (t := [0, 1, 3]) (N := 4) (bor := []) fn35 rfl (s_inflate_stream_room k x1066 x889 x1058 x1059 x892 (Sum.inr ()) h1078) ⟨rfl, ⟨⟨⟨trivial, .inr ⟨rfl, rfl, rfl⟩⟩, .inr ⟨rfl, rfl, rfl⟩⟩, .inr ⟨rfl, rfl, rfl⟩⟩, by decide, rfl, trivial⟩ rfl trivial (.ren rfl rfl (.ren rfl rfl .nil)) rfl ⟨⟨⟨trivial, rfl⟩, rfl⟩, rfl⟩ rfl) rfl ?_
 refine WPL.nilW ?_
 refine W.now ?_
 refine Then.n ?_
 refine WP.regionD' 12 [0] [7] mixed rfl ?_
 refine WPD.takeT 0 rfl (by kernel_rfl) (q_mv (v := .ptr _ _) rfl) rfl ?_
 refine WPD.takeT 1 rfl (by kernel_rfl) (q_mv (v := .ptr _ _) rfl) rfl ?_
 refine WPD.takeT 2 rfl (by kernel_rfl) (q_nilCheck rfl) rfl ?_
 refine WPD.takeT 3 rfl (by kernel_rfl) (q_fieldAddr fi45_1 rfl rfl) rfl ?_
 refine WPD.takeT 5 rfl (by kernel_rfl) (q_mv (v := .ptr _ _) rfl) rfl ?_
 refine WPD.takeT 6 rfl (by kernel_rfl) (q_mv (v := .lit (.int _ _)) rfl) rfl ?_
 refine WPD.of2 4 7 (by kernel_rfl) ?_ ?_
 · refine WPD1.eff 4 [0] [7] rfl (Does.runs (Quiet.does (q_load sc29 rfl rfl rfl))) rfl rfl ?_
   obtain ⟨y1107, h1101, H⟩ := bnd H
   rcases y1107 with x1103 | ⟨x1104, x1105, x1106⟩
   · refine WPD.pW 7 rfl (by kernel_rfl) (runs_callP (s := [0, 1, 3]) (t := [0, 1, 3]) (N := 4) (bor := []) fn33 rfl (s_inflate_stream_bytes k x1066 x889 x1058 x1059 x892 (Sum.inl x1103) h1101) ⟨rfl, ⟨⟨⟨trivial, .inr ⟨rfl, rfl, rfl⟩⟩, .inr ⟨rfl, rfl, rfl⟩⟩, .inr ⟨rfl, rfl, rfl⟩⟩, by decide, rfl, trivial⟩ rfl trivial (.ren rfl rfl (.ren rfl rfl .nil)) rfl ⟨⟨⟨trivial, rfl⟩, rfl⟩, rfl⟩ rfl) ?_
     have q0 := Option.some.inj H
     subst q0
     exact W.now (BodyR.mkP trivial [0, 1] ⟨rfl, rfl⟩ ⟨rfl, ⟨⟨trivial, .inl rfl⟩, .inl rfl⟩, by decide, rfl, ⟨⟨trivial, rfl⟩, rfl⟩⟩ rfl rfl)
   refine WPD.eff 7 [] [] rfl (by kernel_rfl) (runs_call (s := [0, 1, 3]) (t := [0, 1, 3]) (N := 4) (bor := []) fn33 rfl (s_inflate_stream_bytes k x1066 x889 x1058 x1059 x892 (Sum.inr (x1104, x1105, x1106)) h1101) ⟨rfl, ⟨⟨⟨trivial, .inr ⟨rfl, rfl, rfl⟩⟩, .inr ⟨rfl, rfl, rfl⟩⟩, .inr ⟨rfl, rfl, rfl⟩⟩, by decide, rfl, trivial⟩ rfl trivial (.ren rfl rfl (.ren rfl rfl .nil)) rfl ⟨⟨⟨trivial, rfl⟩, rfl⟩, rfl⟩ rfl) rfl rfl ?_
   obtain ⟨h1107, H⟩ := grd H
   refine WPD.eff 8 [] [] rfl (by kernel_rfl) (Does.runs (d_append ap29 rfl rfl rfl rfl (src_ro sl29 rfl) h1107 rfl)) rfl rfl ?_
   refine WPD.takeT 9 rfl (by kernel_rfl) (q_nilCheck rfl) rfl ?_
   refine WPD.takeT 10 rfl (by kernel_rfl) (q_fieldAddr fi45_1 rfl rfl) rfl ?_
   refine WPD.effS 11 [] [] rfl (by kernel_rfl) (s_store sz29 rfl rfl rfl rfl rfl) rfl ?_
   refine WPD.doneW (by kernel_rfl) ?_
   have q0 := Option.some.inj H
   subst q0
   exact W.now (BodyR.mkN trivial rfl [0, 1, 4] ⟨rfl, rfl⟩ ⟨rfl, ⟨⟨⟨trivial, .inr ⟨rfl, rfl, rfl⟩⟩, .inr ⟨rfl, rfl, rfl⟩⟩, .inr ⟨rfl, rfl, rfl⟩⟩, by decide, rfl, ⟨⟨trivial, rfl⟩, rfl⟩⟩ rfl rfl)
 obtain ⟨y1114, h1108, H⟩ := bnd H
 rcases y1114 with x1110 | ⟨x1111, x1112, x1113⟩
 · refine WPD1.pW 7 rfl (runs_callP (s := [0, 1, 3]) (t := [0, 1, 3]) (N := 4) (bor := []) fn33 rfl (s_inflate_stream_bytes k x1066 x889 x1058 x1059 x892 (Sum.inl x1110) h1108) ⟨rfl, ⟨⟨⟨trivial, .inr ⟨rfl, rfl, rfl⟩⟩, .inr ⟨rfl, rfl, rfl⟩⟩, .inr ⟨rfl, rfl, rfl⟩⟩, by decide, rfl, trivial⟩ rfl trivial (.ren rfl rfl (.ren rfl rfl .nil)) rfl ⟨⟨⟨trivial, rfl⟩, rfl⟩, rfl⟩ rfl) ?_
   have q0 := Option.some.inj H
   subst q0
   exact W.now (BodyR.mkP trivial [0, 1] ⟨rfl, rfl⟩ ⟨rfl, ⟨⟨trivial, .inl rfl⟩, .inl rfl⟩, by decide, rfl, ⟨⟨trivial, rfl⟩, rfl⟩⟩ rfl rfl)
 refine WPD1.eff 7 [0] [11] rfl (runs_call (s := [0, 1, 3]) (t := [0, 1, 3]) (N := 4) (bor := []) fn33 rfl (s_inflate_stream_bytes k x1066 x889 x1058 x1059 x892 (Sum.inr (x1111, x1112, x1113)) h1108) ⟨rfl, ⟨⟨⟨trivial, .inr ⟨rfl, rfl, rfl⟩⟩, .inr ⟨rfl, rfl, rfl⟩⟩, .inr ⟨rfl, rfl, rfl⟩⟩, by decide, rfl, trivial⟩ rfl trivial (.ren rfl rfl (.ren rfl rfl .nil)) rfl ⟨⟨⟨trivial, rfl⟩, rfl⟩, rfl⟩ rfl) rfl rfl ?_
 refine WPD.take 4 rfl (by kernel_rfl) (q_load sc29 rfl rfl rfl) rfl rfl ?_
 obtain ⟨h1114, H⟩ := grd H
 refine WPD.eff 8 [0] [11] rfl (by kernel_rfl) (Does.runs (d_append ap29 rfl rfl rfl rfl (src_ro sl29 rfl) h1114 rfl)) rfl rfl ?_
 refine WPD.takeT 9 rfl (by kernel_rfl) (q_nilCheck rfl) rfl ?_
 refine WPD.takeT 10 rfl (by kernel_rfl) (q_fieldAddr fi45_1 rfl rfl) rfl ?_
 refine WPD.effS 11 [] [] rfl (by kernel_rfl) (s_store sz29 rfl rfl rfl rfl rfl) rfl ?_
 refine WPD.doneW (by kernel_rfl) ?_
 have q0 := Option.some.inj H
 subst q0
 exact W.now (BodyR.mkN trivial rfl [0, 1, 4] ⟨rfl, rfl⟩ ⟨rfl, ⟨⟨⟨trivial, .inr ⟨rfl, rfl, rfl⟩⟩, .inr ⟨rfl, rfl, rfl⟩⟩, .inr ⟨rfl, rfl, rfl⟩⟩, by decide, rfl, ⟨⟨trivial, rfl⟩, rfl⟩⟩ rfl rfl)
end Go.Proofs.Ytpceecokdpdgfaa.W
namespace Go.Proofs.Ytpceecokdpdgfaa.W
open Go Go.Q Go.Proofs
set_option linter.unusedVariables false
set_option linter.unusedSimpArgs false
set_option maxRecDepth 100000 in
set_option maxHeartbeats 4000000 in
theorem s_huff_judged (k : Nat) (x1129 : (List Int)) (x1228 : Bool) (x1229 : Int) (H : g_huff_judged k x1129 = some (x1228, x1229)) : Go.Q.Spec Try.prog 44 0 [.ro (Rd.slice (Rd.int .i64)) false x1129] Mem.nil (fun o M => o = .ret (.tup [.lit (.bool x1228), .lit (.int .i64 x1229)]) ∧ M = Mem.nil) := by
 unfold g_huff_judged at H
 refine Go.Q.Spec.of_bodyR (az := []) (rs := [.tmp 2, .tmp 3]) (nt := 45) Try.func44 rfl rfl (by intro t T h; simp at h) rfl rfl fun cx hnp => ?_
 refine WP.seq ?_
 refine WP.region ?_
 refine WPL.q (q_as (v := .lit (.bool _)) rfl) rfl ?_
 refine WPL.q (q_as (v := .lit (.int _ _)) rfl) rfl ?_
 refine WPL.nilW ?_
 refine W.now ?_
 refine Then.n ?_
 refine WP.seq ?_
 refine WP.seq ?_
 refine WP.region ?_
 refine WPL.q (q_mv (v := .ro _ _ _) rfl) rfl ?_
 refine WPL.q (q_len_ro sl25 rfl) rfl ?_
 obtain ⟨x1232, h1232, H⟩ := bnd H
 refine WPL.q (q_nm (q_gtr rfl rfl) (nm_bool h1232)) rfl ?_
 refine WPL.nilW ?_
 refine W.now ?_
 refine Then.n ?_
 refine WP.cond (t := x1232) rfl (fun hb1232 => ?_) (fun hb1232 => ?_)
 · replace H := cnt hb1232 H
   refine WP.seq ?_
   refine WP.region ?_
   refine WPL.q (q_as (v := .lit (.bool _)) rfl) rfl ?_
   refine WPL.q (q_as (v := .lit (.int _ _)) rfl) rfl ?_
   refine WPL.nilW ?_
   refine W.now ?_
   refine Then.n ?_
   refine WP.retW ?_
   have q0 := (Prod.mk.inj (Option.some.inj H)).1
   have q1 := (Prod.mk.inj (Option.some.inj H)).2
   subst q0
   subst q1
   exact W.now (Then.r (BodyR.mkR trivial rfl [] ⟨rfl, rfl⟩ ⟨rfl, trivial, by decide, rfl, trivial⟩ rfl rfl))
 replace H := cnf hb1232 H
 refine WP.skipW ?_
 refine W.now ?_
 refine Then.n ?_
 refine WP.seq ?_
 refine WP.region ?_
 refine WPL.q (q_as (v := .lit (.int _ _)) rfl) rfl ?_
 refine WPL.q (q_as (v := .lit (.int _ _)) rfl) rfl ?_
 refine WPL.nilW ?_
 refine W.now ?_
 refine Then.n ?_
 refine WP.seq ?_
 refine WP.seq ?_
 refine WP.region ?_
 refine WPL.q (q_mv (v := .ro _ _ _) rfl) rfl ?_
 refine WPL.q (q_len_ro sl25 rfl) rfl ?_
 refine WPL.q (q_mv (v := .lit (.int _ _)) rfl) rfl ?_
 refine WPL.nilW ?_
 refine W.now ?_
 refine Then.n ?_
 refine WP.block ?_
 refine WP.cv (Cv.weak (E' := (((((Env.none.upd 4 (.lit (.int .i64 32768))).upd 5 (.lit (.int .i64 0))).upd 11 (.ro (Rd.slice (Rd.int .i64)) false x1129)).upd 12 (.lit (.int .i64 ((List.length x1129 : Nat) : Int)))).upd 13 (.lit (.int .i64 0)))) (M' := Mem.nil) [] hnp ⟨rfl, trivial, by decide, rfl, trivial⟩ (LeE.upd rfl rfl (LeE.upd rfl rfl (LeE.upd rfl rfl (LeE.upd rfl rfl (LeE.upd rfl rfl (LeE.none rfl rfl))))))) ?_
 obtain ⟨y1345, H1343, H⟩ := bnd H
 refine WP.monoW (Q := fun x E M => match (generalizing := false) y1345 with | (Sum.inl _) => x = .ret ∧ E = ((Env.none.upd 2 (.lit (.bool false))).upd 3 (.lit (.int .i64 1))) ∧ M = Mem.nil | (Sum.inr (x1307, x1308)) => x = .exit 0 ∧ E = ((Env.none.upd 4 (.lit (.int .i64 x1307))).upd 5 (.lit (.int .i64 x1308))) ∧ M = Mem.nil) ?_ ?_
 · refine WP.loop (β := Int × Int × Int) (fun n b => g_huff_judged_l0 k x1129 n b.1 b.2.1 b.2.2 = some y1345) (fun b => (((((Env.none.upd 4 (.lit (.int .i64 b.1))).upd 5 (.lit (.int .i64 b.2.1))).upd 11 (.ro (Rd.slice (Rd.int .i64)) false x1129)).upd 12 (.lit (.int .i64 ((List.length x1129 : Nat) : Int)))).upd 13 (.lit (.int .i64 b.2.2)))) (fun b => Mem.nil) k (32768, 0, 0) H1343 rfl rfl ?_
   rintro n ⟨x1269, x1270, x1271⟩ H
   obtain _ | n := n
   · exact nf rfl H
   rw [g_huff_judged_l0.eq_2] at H
   show WP _ _ _ _ (((((Env.none.upd 4 (.lit (.int .i64 x1269))).upd 5 (.lit (.int .i64 x1270))).upd 11 (.ro (Rd.slice (Rd.int .i64)) false x1129)).upd 12 (.lit (.int .i64 ((List.length x1129 : Nat) : Int)))).upd 13 (.lit (.int .i64 x1271))) Mem.nil _
   refine WP.seq ?_
   refine WP.region ?_
   obtain ⟨x1309, h1309, H⟩ := bnd H
   refine WPL.q (q_nm (q_lss rfl rfl) (nm_bool h1309)) rfl ?_
   refine WPL.nilW ?_
   refine W.now ?_
   refine Then.n ?_
   refine WP.seq ?_
   refine WP.cond (t := x1309) rfl (fun hb1310 => ?_) (fun hb1310 => ?_)
   · replace H := cnt hb1310 H
     refine WP.skipW ?_
     refine W.now ?_
     refine Then.n ?_
     refine WP.seq ?_
     obtain ⟨y1343, H1341, H⟩ := bnd H
     refine WP.monoW (Q := fun x E M => match (generalizing := false) y1343 with | (Sum.inl _) => x = .ret ∧ E = ((Env.none.upd 2 (.lit (.bool false))).upd 3 (.lit (.int .i64 1))) ∧ M = Mem.nil | (Sum.inr (x1326, x1327)) => x = .normal ∧ E = (((((Env.none.upd 4 (.lit (.int .i64 x1326))).upd 5 (.lit (.int .i64 x1327))).upd 11 (.ro (Rd.slice (Rd.int .i64)) false x1129)).upd 12 (.lit (.int .i64 ((List.length x1129 : Nat) : Int)))).upd 13 (.lit (.int .i64 x1271))) ∧ M = Mem.nil) ?_ ?_
     · clear H
       have H := H1341
       clear H1341
       refine WP.block ?_
       refine WP.seq ?_
       refine WP.region ?_
       obtain ⟨x1328, h1328, H⟩ := bnd H
       refine WPL.q (q_index_ro sl25 rfl rfl rfl h1328) rfl ?_
       refine WPL.q (q_load_sc sc3 rfl) rfl ?_
       refine WPL.q (q_as (v := .lit (.int _ _)) rfl) rfl ?_
       refine WPL.nilW ?_
       refine W.now ?_
       refine Then.n ?_
       refine WP.seq ?_
       refine WP.seq ?_
       obtain ⟨x1335, H1336, H⟩ := bnd H
       refine WP.monoW (Q := fun x E M => x = .normal ∧ E = (((((((Env.none.upd 4 (.lit (.int .i64 x1269))).upd 5 (.lit (.int .i64 x1270))).upd 7 (.lit (.int .i64 x1328))).upd 11 (.ro (Rd.slice (Rd.int .i64)) false x1129)).upd 12 (.lit (.int .i64 ((List.length x1129 : Nat) : Int)))).upd 13 (.lit (.int .i64 x1271))).upd 22 (.lit (.bool x1335))) ∧ M = Mem.nil) ?_ ?_
       · clear H
         have H := H1336
         clear H1336
         refine WP.region ?_
         refine WPL.q (q_mv (v := .lit (.int _ _)) rfl) rfl ?_
         refine WPL.q (q_lss rfl rfl) rfl ?_
         refine WPL.q (q_mv (v := .lit (.bool _)) rfl) rfl ?_
         refine WPL.split (t := 19) (b := (decide (x1328 < 0))) rfl (fun hb1335 => ?_) (fun hb1335 => ?_)
         · replace H := cnt hb1335 H
           refine WPL.skipg (b' := true) rfl rfl (lb hb1335) rfl rfl (.inl trivial) ?_
           refine WPL.skipg (b' := true) rfl rfl (lb hb1335) rfl rfl (.inl trivial) ?_
           refine WPL.q (q_pickT (v := .lit (.bool _)) (lb hb1335) rfl) rfl ?_
           refine WPL.nilW ?_
           have q0 := (Option.some.inj H)
           subst q0
           exact W.wk [] hnp ⟨rfl, rfl, rfl⟩ ⟨rfl, trivial, by decide, rfl, trivial⟩ (LeE.upd rfl rfl (LeE.upd rfl rfl (LeE.upd rfl rfl (LeE.upd rfl rfl (LeE.upd rfl rfl (LeE.upd rfl rfl (LeE.upd rfl rfl (LeE.none rfl rfl)))))))) rfl
         replace H := cnf hb1335 H
         refine WPL.qg rfl rfl (lb hb1335) (q_mv (v := .lit (.int _ _)) rfl) rfl ?_
         refine WPL.qg rfl rfl (lb hb1335) (q_gtr rfl rfl) rfl ?_
         refine WPL.q (q_pickF (v := .lit (.bool _)) (lb hb1335) rfl) rfl ?_
         refine WPL.nilW ?_
         have q0 := (Option.some.inj H)
         subst q0
         exact W.wk [] hnp ⟨rfl, rfl, rfl⟩ ⟨rfl, trivial, by decide, rfl, trivial⟩ (LeE.upd rfl rfl (LeE.upd rfl rfl (LeE.upd rfl rfl (LeE.upd rfl rfl (LeE.upd rfl rfl (LeE.upd rfl rfl (LeE.upd rfl rfl (LeE.none rfl rfl)))))))) rfl
       rintro _ _ _ ⟨rfl, rfl, rfl⟩
       refine W.now ?_
       refine Then.n ?_
       refine WP.cond (t := x1335) rfl (fun hb1337 => ?_) (fun hb1337 => ?_)
       · replace H := cnt hb1337 H
         refine WP.seq ?_
         refine WP.region ?_
         refine WPL.q (q_as (v := .lit (.bool _)) rfl) rfl ?_
         refine WPL.q (q_as (v := .lit (.int _ _)) rfl) rfl ?_
         refine WPL.nilW ?_
         refine W.now ?_
         refine Then.n ?_
         refine WP.retW ?_
         have q0 := Option.some.inj H
         subst q0
         exact W.wk [] hnp (Then.r (InBlock.r ⟨rfl, rfl, rfl⟩)) ⟨rfl, trivial, by decide, rfl, trivial⟩ (LeE.upd rfl rfl (LeE.upd rfl rfl (LeE.none rfl rfl))) rfl
       replace H := cnf hb1337 H
       refine WP.skipW ?_
       refine W.now ?_
       refine Then.n ?_
       refine WP.seq ?_
       refine WP.region ?_
       refine WPL.q (q_mv (v := .lit (.int _ _)) rfl) rfl ?_
       refine WPL.q (q_gtr rfl rfl) rfl ?_
       refine WPL.nilW ?_
       refine W.now ?_
       refine Then.n ?_
       refine WP.cond (t := (decide (0 < x1328))) rfl (fun hb1338 => ?_) (fun hb1338 => ?_)
       · replace H := cnt hb1338 H
         refine WP.seq ?_
         refine WP.region ?_
         refine WPL.q (q_mv (v := .lit (.int _ _)) rfl) rfl ?_
         refine WPL.q (q_mv (v := .lit (.int _ _)) rfl) rfl ?_
         refine WPL.q (q_sub rfl rfl) rfl ?_
         obtain ⟨h1339, H⟩ := grd H
         obtain ⟨x1341, h1341, H⟩ := bnd H
         refine WPL.q (q_nm (q_shl rfl rfl h1339) (nm_int h1341)) rfl ?_
         refine WPL.q (q_sub rfl rfl) rfl ?_
         refine WPL.q (q_as (v := .lit (.int _ _)) rfl) rfl ?_
         refine WPL.nilW ?_
         refine W.now ?_
         refine Then.n ?_
         refine WP.region ?_
         refine WPL.q (q_mv (v := .lit (.int _ _)) rfl) rfl ?_
         refine WPL.q (q_add rfl rfl) rfl ?_
         refine WPL.q (q_as (v := .lit (.int _ _)) rfl) rfl ?_
         refine WPL.nilW ?_
         have q0 := Option.some.inj H
         subst q0
         exact W.wk [] hnp (InBlock.n ⟨rfl, rfl, rfl⟩) ⟨rfl, trivial, by decide, rfl, trivial⟩ (LeE.upd rfl rfl (LeE.upd rfl rfl (LeE.upd rfl rfl (LeE.upd rfl rfl (LeE.upd rfl rfl (LeE.none rfl rfl)))))) rfl
       replace H := cnf hb1338 H
       refine WP.skipW ?_
       have q0 := Option.some.inj H
       subst q0
       exact W.wk [] hnp (InBlock.n ⟨rfl, rfl, rfl⟩) ⟨rfl, trivial, by decide, rfl, trivial⟩ (LeE.upd rfl rfl (LeE.upd rfl rfl (LeE.upd rfl rfl (LeE.upd rfl rfl (LeE.upd rfl rfl (LeE.none rfl rfl)))))) rfl
     rcases y1343 with _ | ⟨x1326, x1327⟩
     · rintro _ _ _ ⟨rfl, rfl, rfl⟩
       have q0 := Option.some.inj H
       subst q0
       exact W.wk [] hnp (Then.r (Then.r ⟨rfl, rfl, rfl⟩)) ⟨rfl, trivial, by decide, rfl, trivial⟩ (LeE.upd rfl rfl (LeE.upd rfl rfl (LeE.none rfl rfl))) rfl
     rintro _ _ _ ⟨rfl, rfl, rfl⟩
     refine W.now ?_
     refine Then.n ?_
     refine WP.region ?_
     refine WPL.q (q_add rfl rfl) rfl ?_
     refine WPL.q (q_mv (v := .lit (.int _ _)) rfl) rfl ?_
     refine WPL.nilW ?_
     exact W.wk [] hnp (Then.n ⟨n, (x1326, x1327, (IntKind.wrap .i64 (x1271 + 1))), Nat.lt_succ_self n, H, rfl, rfl⟩) ⟨rfl, trivial, by decide, rfl, trivial⟩ (LeE.upd rfl rfl (LeE.upd rfl rfl (LeE.upd rfl rfl (LeE.upd rfl rfl (LeE.upd rfl rfl (LeE.none rfl rfl)))))) rfl
   replace H := cnf hb1310 H
   refine WP.exitW ?_
   have q0 := Option.some.inj H
   subst q0
   exact W.wk [] hnp (Then.x (Then.x ⟨rfl, rfl, rfl⟩)) ⟨rfl, trivial, by decide, rfl, trivial⟩ (LeE.upd rfl rfl (LeE.upd rfl rfl (LeE.none rfl rfl))) rfl
 rcases y1345 with _ | ⟨x1307, x1308⟩
 · rintro _ _ _ ⟨rfl, rfl, rfl⟩
   have q0 := (Prod.mk.inj (Option.some.inj H)).1
   have q1 := (Prod.mk.inj (Option.some.inj H)).2
   subst q0
   subst q1
   exact W.now (InBlock.r (Then.r (BodyR.mkR trivial rfl [] ⟨rfl, rfl⟩ ⟨rfl, trivial, by decide, rfl, trivial⟩ rfl rfl)))
 rintro _ _ _ ⟨rfl, rfl, rfl⟩
 refine W.now ?_
 refine InBlock.x0 ?_
 refine Then.n ?_
 refine WP.seq ?_
 refine WP.block ?_
 refine WP.seq ?_
 refine WP.region ?_
 refine WPL.q (q_mv (v := .lit (.int _ _)) rfl) rfl ?_
 refine WPL.q (q_eql rfl rfl) rfl ?_
 refine WPL.q (q_as (v := .lit (.bool _)) rfl) rfl ?_
 refine WPL.nilW ?_
 refine W.now ?_
 refine Then.n ?_
 refine WP.cond (t := (decide (x1307 = 0))) rfl (fun hb1353 => ?_) (fun hb1353 => ?_)
 · replace H := cnt hb1353 H
   refine WP.seq ?_
   refine WP.region ?_
   refine WPL.q (q_as (v := .lit (.bool _)) rfl) rfl ?_
   refine WPL.q (q_as (v := .lit (.int _ _)) rfl) rfl ?_
   refine WPL.nilW ?_
   refine W.now ?_
   refine Then.n ?_
   refine WP.retW ?_
   have q0 := (Prod.mk.inj (Option.some.inj H)).1
   have q1 := (Prod.mk.inj (Option.some.inj H)).2
   subst q0
   subst q1
   exact W.now (InBlock.r (Then.r (BodyR.mkR trivial rfl [] ⟨rfl, rfl⟩ ⟨rfl, trivial, by decide, rfl, trivial⟩ rfl rfl)))
 replace H := cnf hb1353 H
 refine WP.seq ?_
 obtain ⟨x1357, H1359, H⟩ := bnd H
 refine WP.monoW (Q := fun x E M => x = .normal ∧ E = (Env.none.upd 36 (.lit (.bool x1357))) ∧ M = Mem.nil) ?_ ?_
 · clear H
   have H := H1359
   clear H1359
   refine WP.seq ?_
   refine WP.region ?_
   refine WPL.q (q_mv (v := .lit (.int _ _)) rfl) rfl ?_
   refine WPL.q (q_eql rfl rfl) rfl ?_
   refine WPL.q (q_as (v := .lit (.bool _)) rfl) rfl ?_
   refine WPL.nilW ?_
   refine W.now ?_
   refine Then.n ?_
   refine WP.cond (t := (decide (x1308 = 0))) rfl (fun hb1357 => ?_) (fun hb1357 => ?_)
   · replace H := cnt hb1357 H
     refine WP.skipW ?_
     have q0 := (Option.some.inj H)
     subst q0
     exact W.wk [] hnp ⟨rfl, rfl, rfl⟩ ⟨rfl, trivial, by decide, rfl, trivial⟩ (LeE.upd rfl rfl (LeE.none rfl rfl)) rfl
   replace H := cnf hb1357 H
   refine WP.region ?_
   refine WPL.q (q_mv (v := .lit (.int _ _)) rfl) rfl ?_
   refine WPL.q (q_eql rfl rfl) rfl ?_
   refine WPL.q (q_mv (v := .lit (.bool _)) rfl) rfl ?_
   refine WPL.split (t := 41) (b := (decide (x1308 = 1))) rfl (fun hb1358 => ?_) (fun hb1358 => ?_)
   · replace H := cnt hb1358 H
     refine WPL.qg rfl rfl (lb hb1358) (q_mv (v := .lit (.int _ _)) rfl) rfl ?_
     refine WPL.qg rfl rfl (lb hb1358) (q_eql rfl rfl) rfl ?_
     refine WPL.q (q_pickT (v := .lit (.bool _)) (lb hb1358) rfl) rfl ?_
     refine WPL.q (q_as (v := .lit (.bool _)) rfl) rfl ?_
     refine WPL.nilW ?_
     have q0 := (Option.some.inj H)
     subst q0
     exact W.wk [] hnp ⟨rfl, rfl, rfl⟩ ⟨rfl, trivial, by decide, rfl, trivial⟩ (LeE.upd rfl rfl (LeE.none rfl rfl)) rfl
   replace H := cnf hb1358 H
   refine WPL.skipg (b' := false) rfl rfl (lb hb1358) rfl rfl (.inl trivial) ?_
   refine WPL.skipg (b' := false) rfl rfl (lb hb1358) rfl rfl (.inl trivial) ?_
   refine WPL.q (q_pickF (v := .lit (.bool _)) (lb hb1358) rfl) rfl ?_
   refine WPL.q (q_as (v := .lit (.bool _)) rfl) rfl ?_
   refine WPL.nilW ?_
   have q0 := (Option.some.inj H)
   subst q0
   exact W.wk [] hnp ⟨rfl, rfl, rfl⟩ ⟨rfl, trivial, by decide, rfl, trivial⟩ (LeE.upd rfl rfl (LeE.none rfl rfl)) rfl
 rintro _ _ _ ⟨rfl, rfl, rfl⟩
 refine W.now ?_
 refine Then.n ?_
 refine WP.cond (t := x1357) rfl (fun hb1360 => ?_) (fun hb1360 => ?_)
 · replace H := cnt hb1360 H
   refine WP.seq ?_
   refine WP.region ?_
   refine WPL.q (q_as (v := .lit (.bool _)) rfl) rfl ?_
   refine WPL.q (q_as (v := .lit (.int _ _)) rfl) rfl ?_
   refine WPL.nilW ?_
   refine W.now ?_
   refine Then.n ?_
   refine WP.retW ?_
   have q0 := (Prod.mk.inj (Option.some.inj H)).1
   have q1 := (Prod.mk.inj (Option.some.inj H)).2
   subst q0
   subst q1
   exact W.now (InBlock.r (Then.r (BodyR.mkR trivial rfl [] ⟨rfl, rfl⟩ ⟨rfl, trivial, by decide, rfl, trivial⟩ rfl rfl)))
 replace H := cnf hb1360 H
 refine WP.skipW ?_
 refine W.now ?_
 refine InBlock.n ?_
 refine Then.n ?_
 refine WP.seq ?_
 refine WP.region ?_
 refine WPL.q (q_as (v := .lit (.bool _)) rfl) rfl ?_
 refine WPL.q (q_as (v := .lit (.int _ _)) rfl) rfl ?_
 refine WPL.nilW ?_
 refine W.now ?_
 refine Then.n ?_
 refine WP.retW ?_
 have q0 := (Prod.mk.inj (Option.some.inj H)).1
 have q1 := (Prod.mk.inj (Option.some.inj H)).2
 subst q0
 subst q1
 exact W.now (BodyR.mkR trivial rfl [] ⟨rfl, rfl⟩ ⟨rfl, trivial, by decide, rfl, trivial⟩ rfl rfl)
set_option maxRecDepth 100000 in
set_option maxHeartbeats 4000000 in
theorem s_huff_of (k : Nat) (x1370 : (List Int)) (x1371 : Int) (H : g_huff_of k x1370 x1371 = some ()) : Go.Q.Spec Try.prog 45 0 [.ro (Rd.slice (Rd.int .i64)) false x1370, .lit (.int .i64 x1371)] Mem.nil (fun o M => o = .ret (.fn 49 [.ptr 0 0, .ptr 1 0]) ∧ M = ((Mem.nil.push (.cells 25 [.ro (Rd.slice (Rd.int .i64)) false x1370])).push (.cells 3 [.lit (.int .i64 x1371)]))) := by
 unfold g_huff_of at H
 refine Go.Q.Spec.of_bodyR (az := []) (rs := [.tmp 4]) (nt := 6) Try.func45 rfl rfl (by intro t T h; simp at h) rfl rfl fun cx hnp => ?_
 refine WP.seq ?_
 refine WP.region ?_
 refine WPL.d (d_box rfl rfl) rfl ?_
 refine WPL.d (d_box rfl rfl) rfl ?_
 refine WPL.q (q_as (v := .lit _) rfl) rfl ?_
 refine WPL.nilW ?_
 refine W.now ?_
 refine Then.n ?_
 refine WP.seq ?_
 refine WP.region ?_
 refine WPL.q (q_makeFunc) rfl ?_
 refine WPL.q (q_as (v := .fn _ _) rfl) rfl ?_
 refine WPL.nilW ?_
 refine W.now ?_
 refine Then.n ?_
 refine WP.retW ?_
 exact W.now (BodyR.mkR trivial rfl [0, 1] ⟨rfl, rfl⟩ ⟨rfl, ⟨⟨trivial, .inr ⟨rfl, rfl, rfl⟩⟩, .inr ⟨rfl, rfl, rfl⟩⟩, by decide, rfl, trivial⟩ rfl rfl)
set_option maxRecDepth 100000 in
set_option maxHeartbeats 4000000 in
theorem s_huff_New (k : Nat) (x1127 : (List Int)) (r : (Int ⊕ ((List Int) × (List Int)))) (H : g_huff_New k x1127 = some r) : Go.Q.Spec Try.prog 38 0 [.ro (Rd.slice (Rd.int .i64)) false x1127] Mem.nil (fun o M => match (generalizing := false) r with | (Sum.inl x1799) => o = .ret (.tup [.lit (.pointer none), .lit (.int .i64 x1799)]) ∧ M = Mem.nil | (Sum.inr (x1800, x1801)) => o = .ret (.tup [.ptr 0 0, .lit (.int .i64 0)]) ∧ M = ((Mem.nil.push (.cells 82 [.lit (.int .i64 (List.getD x1800 0 (0 : Int))), .lit (.int .i64 (List.getD x1800 1 (0 : Int))), .lit (.int .i64 (List.getD x1800 2 (0 : Int))), .lit (.int .i64 (List.getD x1800 3 (0 : Int))), .lit (.int .i64 (List.getD x1800 4 (0 : Int))), .lit (.int .i64 (List.getD x1800 5 (0 : Int))), .lit (.int .i64 (List.getD x1800 6 (0 : Int))), .lit (.int .i64 (List.getD x1800 7 (0 : Int))), .lit (.int .i64 (List.getD x1800 8 (0 : Int))), .lit (.int .i64 (List.getD x1800 9 (0 : Int))), .lit (.int .i64 (List.getD x1800 10 (0 : Int))), .lit (.int .i64 (List.getD x1800 11 (0 : Int))), .lit (.int .i64 (List.getD x1800 12 (0 : Int))), .lit (.int .i64 (List.getD x1800 13 (0 : Int))), .lit (.int .i64 (List.getD x1800 14 (0 : Int))), .lit (.int .i64 (List.getD x1800 15 (0 : Int))), .whole 1])).push (.row 3 (Rd.int .i64) x1801))) := by
 unfold g_huff_New at H
 refine Go.Q.Spec.of_bodyR (az := []) (rs := [.tmp 2, .tmp 3]) (nt := 49) Try.func38 rfl rfl (by intro t T h; simp at h) rfl rfl fun cx hnp => ?_
 refine WP.seq ?_
 refine WP.region ?_
 refine WPL.q (q_as (v := .lit _) rfl) rfl ?_
 refine WPL.q (q_as (v := .lit (.int _ _)) rfl) rfl ?_
 refine WPL.nilW ?_
 refine W.now ?_
 refine Then.n ?_
 refine WP.seq ?_
 refine WP.seq ?_
 refine WP.region ?_
 refine WPL.q (q_mv (v := .ro _ _ _) rfl) rfl ?_
 obtain ⟨⟨x1807, x1808⟩, h1805, H⟩ := bnd H
 refine WPL.c (runs_call (s := []) (t := []) (N := 0) (bor := []) fn44 rfl (s_huff_judged k x1127 x1807 x1808 h1805) ⟨rfl, trivial, by decide, rfl, trivial⟩ rfl trivial (.ren rfl rfl .nil) rfl trivial rfl) rfl ?_
 refine WPL.q (q_mv (v := .tup _) rfl) rfl ?_
 refine WPL.q (q_extract rfl rfl) rfl ?_
 refine WPL.q (q_extract rfl rfl) rfl ?_
 refine WPL.q (q_as (v := .lit (.bool _)) rfl) rfl ?_
 refine WPL.q (q_as (v := .lit (.int _ _)) rfl) rfl ?_
 refine WPL.nilW ?_
 refine W.now ?_
 refine Then.n ?_
 refine WP.seq ?_
 refine WP.region ?_
 refine WPL.q (q_mv (v := .lit (.int _ _)) rfl) rfl ?_
 refine WPL.q (q_neq rfl rfl) rfl ?_
 refine WPL.nilW ?_
 refine W.now ?_
 refine Then.n ?_
 refine WP.cond (t := (!decide (x1808 = 0))) rfl (fun hb1808 => ?_) (fun hb1808 => ?_)
 · replace H := cnt hb1808 H
   refine WP.seq ?_
   refine WP.region ?_
   refine WPL.q (q_mv (v := .lit (.int _ _)) rfl) rfl ?_
   refine WPL.q (q_as (v := .lit _) rfl) rfl ?_
   refine WPL.q (q_as (v := .lit (.int _ _)) rfl) rfl ?_
   refine WPL.nilW ?_
   refine W.now ?_
   refine Then.n ?_
   refine WP.retW ?_
   have q0 := Option.some.inj H
   subst q0
   exact W.now (Then.r (BodyR.mkR trivial rfl [] ⟨rfl, rfl⟩ ⟨rfl, trivial, by decide, rfl, trivial⟩ rfl rfl))
 replace H := cnf hb1808 H
 refine WP.skipW ?_
 refine W.now ?_
 refine Then.n ?_
 refine WP.seq ?_
 refine WP.region ?_
 refine WPL.q (q_build bu82 rfl) rfl ?_
 refine WPL.d (d_box rfl rfl) rfl ?_
 refine WPL.d (d_alloc ze54 rfl) rfl ?_
 refine WPL.s (s_store sz54 rfl rfl rfl rfl rfl) ?_
 refine WPL.nilW ?_
 refine W.now ?_
 refine Then.n ?_
 refine WP.seq ?_
 refine WP.seq ?_
 refine WP.region ?_
 refine WPL.d (d_alloc ze3 rfl) rfl ?_
 refine WPL.s (s_store sz3 rfl rfl rfl rfl rfl) ?_
 refine WPL.nilW ?_
 refine W.now ?_
 refine Then.n ?_
 refine WP.block ?_
 refine WP.cv (Cv.nullMark (N := 3) rfl rfl) ?_
 refine WP.cv (Cv.virC 3 (Rd.int .i64) (N := 4) rfl rfl (i := 0) (off := 16) rfl rfl) ?_
 refine WP.cv (Cv.weak (E' := ((((⟨fun _ => .any, [4], [], []⟩ : Env).upd 0 (.ro (Rd.slice (Rd.int .i64)) false x1127)).upd 6 (.ptr 0 0)).upd 7 (.ptr 3 0))) (M' := (((((Mem.nil.push (.cells 54 [.ptr 1 0])).push (.cells 82 [.lit (.int .i64 (List.getD (List.replicate 16 (0 : Int)) 0 (0 : Int))), .lit (.int .i64 (List.getD (List.replicate 16 (0 : Int)) 1 (0 : Int))), .lit (.int .i64 (List.getD (List.replicate 16 (0 : Int)) 2 (0 : Int))), .lit (.int .i64 (List.getD (List.replicate 16 (0 : Int)) 3 (0 : Int))), .lit (.int .i64 (List.getD (List.replicate 16 (0 : Int)) 4 (0 : Int))), .lit (.int .i64 (List.getD (List.replicate 16 (0 : Int)) 5 (0 : Int))), .lit (.int .i64 (List.getD (List.replicate 16 (0 : Int)) 6 (0 : Int))), .lit (.int .i64 (List.getD (List.replicate 16 (0 : Int)) 7 (0 : Int))), .lit (.int .i64 (List.getD (List.replicate 16 (0 : Int)) 8 (0 : Int))), .lit (.int .i64 (List.getD (List.replicate 16 (0 : Int)) 9 (0 : Int))), .lit (.int .i64 (List.getD (List.replicate 16 (0 : Int)) 10 (0 : Int))), .lit (.int .i64 (List.getD (List.replicate 16 (0 : Int)) 11 (0 : Int))), .lit (.int .i64 (List.getD (List.replicate 16 (0 : Int)) 12 (0 : Int))), .lit (.int .i64 (List.getD (List.replicate 16 (0 : Int)) 13 (0 : Int))), .lit (.int .i64 (List.getD (List.replicate 16 (0 : Int)) 14 (0 : Int))), .lit (.int .i64 (List.getD (List.replicate 16 (0 : Int)) 15 (0 : Int))), .whole 2])).push (.row 3 (Rd.int .i64) ([] : List Int))).push (.cells 3 [.lit (.int .i64 1)])).push (.bag))) [1, 0, 4, 2, 3] hnp ⟨rfl, ⟨⟨⟨⟨⟨trivial, .inr ⟨rfl, rfl, rfl⟩⟩, .inr ⟨rfl, rfl, rfl⟩⟩, .inr ⟨rfl, rfl, rfl⟩⟩, .inr ⟨rfl, rfl, rfl⟩⟩, .inr ⟨rfl, rfl, rfl⟩⟩, by decide, rfl, trivial⟩ (LeE.upd rfl rfl (LeE.upd rfl rfl (LeE.upd rfl rfl (LeE.noneD rfl rfl .nil))))) ?_
 obtain ⟨⟨x2233, x2234⟩, H2472, H⟩ := bnd H
 refine WP.monoW (Q := fun x E M => x = .exit 0 ∧ E = ((⟨fun _ => .any, [3], [], []⟩ : Env).upd 6 (.ptr 0 0)) ∧ M = ((((Mem.nil.push (.cells 54 [.ptr 1 0])).push (.cells 82 [.lit (.int .i64 (List.getD x2233 0 (0 : Int))), .lit (.int .i64 (List.getD x2233 1 (0 : Int))), .lit (.int .i64 (List.getD x2233 2 (0 : Int))), .lit (.int .i64 (List.getD x2233 3 (0 : Int))), .lit (.int .i64 (List.getD x2233 4 (0 : Int))), .lit (.int .i64 (List.getD x2233 5 (0 : Int))), .lit (.int .i64 (List.getD x2233 6 (0 : Int))), .lit (.int .i64 (List.getD x2233 7 (0 : Int))), .lit (.int .i64 (List.getD x2233 8 (0 : Int))), .lit (.int .i64 (List.getD x2233 9 (0 : Int))), .lit (.int .i64 (List.getD x2233 10 (0 : Int))), .lit (.int .i64 (List.getD x2233 11 (0 : Int))), .lit (.int .i64 (List.getD x2233 12 (0 : Int))), .lit (.int .i64 (List.getD x2233 13 (0 : Int))), .lit (.int .i64 (List.getD x2233 14 (0 : Int))), .lit (.int .i64 (List.getD x2233 15 (0 : Int))), .whole 2])).push (.row 3 (Rd.int .i64) x2234)).push (.bag))) ?_ ?_
 · refine WP.loop (β := (List Int) × (List Int) × Int) (fun n b => g_huff_New_l0 k x1127 n b.1 b.2.1 b.2.2 = some (x2233, x2234)) (fun b => ((((⟨fun _ => .any, [4], [], []⟩ : Env).upd 0 (.ro (Rd.slice (Rd.int .i64)) false x1127)).upd 6 (.ptr 0 0)).upd 7 (.ptr 3 0))) (fun b => (((((Mem.nil.push (.cells 54 [.ptr 1 0])).push (.cells 82 [.lit (.int .i64 (List.getD b.1 0 (0 : Int))), .lit (.int .i64 (List.getD b.1 1 (0 : Int))), .lit (.int .i64 (List.getD b.1 2 (0 : Int))), .lit (.int .i64 (List.getD b.1 3 (0 : Int))), .lit (.int .i64 (List.getD b.1 4 (0 : Int))), .lit (.int .i64 (List.getD b.1 5 (0 : Int))), .lit (.int .i64 (List.getD b.1 6 (0 : Int))), .lit (.int .i64 (List.getD b.1 7 (0 : Int))), .lit (.int .i64 (List.getD b.1 8 (0 : Int))), .lit (.int .i64 (List.getD b.1 9 (0 : Int))), .lit (.int .i64 (List.getD b.1 10 (0 : Int))), .lit (.int .i64 (List.getD b.1 11 (0 : Int))), .lit (.int .i64 (List.getD b.1 12 (0 : Int))), .lit (.int .i64 (List.getD b.1 13 (0 : Int))), .lit (.int .i64 (List.getD b.1 14 (0 : Int))), .lit (.int .i64 (List.getD b.1 15 (0 : Int))), .whole 2])).push (.row 3 (Rd.int .i64) b.2.1)).push (.cells 3 [.lit (.int .i64 b.2.2)])).push (.bag))) k ((List.replicate 16 (0 : Int)), ([] : List Int), 1) H2472 rfl rfl ?_
   rintro n ⟨x2067, x2068, x2069⟩ H
   obtain _ | n := n
   · exact nf rfl H
   rw [g_huff_New_l0.eq_2] at H
   show WP _ _ _ _ ((((⟨fun _ => .any, [4], [], []⟩ : Env).upd 0 (.ro (Rd.slice (Rd.int .i64)) false x1127)).upd 6 (.ptr 0 0)).upd 7 (.ptr 3 0)) (((((Mem.nil.push (.cells 54 [.ptr 1 0])).push (.cells 82 [.lit (.int .i64 (List.getD x2067 0 (0 : Int))), .lit (.int .i64 (List.getD x2067 1 (0 : Int))), .lit (.int .i64 (List.getD x2067 2 (0 : Int))), .lit (.int .i64 (List.getD x2067 3 (0 : Int))), .lit (.int .i64 (List.getD x2067 4 (0 : Int))), .lit (.int .i64 (List.getD x2067 5 (0 : Int))), .lit (.int .i64 (List.getD x2067 6 (0 : Int))), .lit (.int .i64 (List.getD x2067 7 (0 : Int))), .lit (.int .i64 (List.getD x2067 8 (0 : Int))), .lit (.int .i64 (List.getD x2067 9 (0 : Int))), .lit (.int .i64 (List.getD x2067 10 (0 : Int))), .lit (.int .i64 (List.getD x2067 11 (0 : Int))), .lit (.int .i64 (List.getD x2067 12 (0 : Int))), .lit (.int .i64 (List.getD x2067 13 (0 : Int))), .lit (.int .i64 (List.getD x2067 14 (0 : Int))), .lit (.int .i64 (List.getD x2067 15 (0 : Int))), .whole 2])).push (.row 3 (Rd.int .i64) x2068)).push (.cells 3 [.lit (.int .i64 x2069)])).push (.bag)) _
   refine WP.seq ?_
   refine WP.seq ?_
   refine WP.region ?_
   refine WPL.q (q_load sc3 rfl rfl rfl) rfl ?_
   refine WPL.q (q_leq rfl rfl) rfl ?_
   refine WPL.nilW ?_
   refine W.now ?_
   refine Then.n ?_
   refine WP.cond (t := (decide (x2069 ≤ 15))) rfl (fun hb2235 => ?_) (fun hb2235 => ?_)
   · replace H := cnt hb2235 H
     refine WP.skipW ?_
     refine W.now ?_
     refine Then.n ?_
     refine WP.seq ?_
     refine WP.block ?_
     refine WP.seq ?_
     refine WP.region ?_
     refine WPL.q (q_mv (v := .ro _ _ _) rfl) rfl ?_
     refine WPL.q (q_load sc3 rfl rfl rfl) rfl ?_
     obtain ⟨_, h2236, H⟩ := bnd H
     refine WPL.c (runs_call (s := []) (t := [5, 6]) (N := 7) (bor := []) fn45 rfl (s_huff_of k x1127 x2069 h2236) ⟨rfl, trivial, by decide, rfl, trivial⟩ rfl trivial (.ren rfl rfl (.ren rfl rfl .nil)) rfl ⟨⟨trivial, rfl⟩, rfl⟩ rfl) rfl ?_
     refine WPL.nilW ?_
     refine W.now ?_
     refine Then.n ?_
     refine WP.block ?_
     refine WP.range (nti := 23) (n := 7) rfl rfl Try.func49 rfl (by kernel_rfl) rfl rfl rfl rfl fun l_2237 r_2237 aC2237 hp2237 ha2237 hb2237 ht2237 hs2237 hf2237 => ?_
     refine WP.seq ?_
     refine WP.region ?_
     refine WPL.q (q_load sc25 rfl rfl rfl) rfl ?_
     refine WPL.q (q_len_ro sl25 rfl) rfl ?_
     refine WPL.q (q_mv (v := .lit (.int _ _)) rfl) rfl ?_
     refine WPL.nilW ?_
     refine W.now ?_
     refine Then.n ?_
     refine WP.block ?_
     refine WP.cv (Cv.weak (E' := ((((((⟨fun _ => .any, [], [⟨aC2237, (((((Env.none.upd 0 (.ro (Rd.slice (Rd.int .i64)) false x1127)).upd 6 (.ptr 1 0)).upd 7 (.ptr 4 0)).upd 25 (.fn 49 [.ptr 5 0, .ptr 0 0]))).v, [6, 7], some (8, l_2237)⟩], []⟩ : Env).upd 0 (.lit (.func (.yield l_2237) #[] #[]))).upd 2 (.ptr 0 0)).upd 6 (.ro (Rd.slice (Rd.int .i64)) false x1127)).upd 7 (.lit (.int .i64 ((List.length x1127 : Nat) : Int)))).upd 8 (.lit (.int .i64 0)))) (M' := (((((((((Mem.nil.push (.cells 3 [.lit (.int .i64 x2069)])).push (.cells 54 [.ptr 2 0])).push (.cells 82 [.lit (.int .i64 (List.getD x2067 0 (0 : Int))), .lit (.int .i64 (List.getD x2067 1 (0 : Int))), .lit (.int .i64 (List.getD x2067 2 (0 : Int))), .lit (.int .i64 (List.getD x2067 3 (0 : Int))), .lit (.int .i64 (List.getD x2067 4 (0 : Int))), .lit (.int .i64 (List.getD x2067 5 (0 : Int))), .lit (.int .i64 (List.getD x2067 6 (0 : Int))), .lit (.int .i64 (List.getD x2067 7 (0 : Int))), .lit (.int .i64 (List.getD x2067 8 (0 : Int))), .lit (.int .i64 (List.getD x2067 9 (0 : Int))), .lit (.int .i64 (List.getD x2067 10 (0 : Int))), .lit (.int .i64 (List.getD x2067 11 (0 : Int))), .lit (.int .i64 (List.getD x2067 12 (0 : Int))), .lit (.int .i64 (List.getD x2067 13 (0 : Int))), .lit (.int .i64 (List.getD x2067 14 (0 : Int))), .lit (.int .i64 (List.getD x2067 15 (0 : Int))), .whole 3])).push (.row 3 (Rd.int .i64) x2068)).push (.cells 3 [.lit (.int .i64 x2069)])).push (.cells 25 [.ro (Rd.slice (Rd.int .i64)) false x1127])).push (.obj (Obj.deferred (some [])))).push (.bag)).push (.obj (lp r_2237 .ready none)))) [6, 0, 1, 2, 3, 5, 7, 4, 8] hnp ⟨rfl, ⟨⟨⟨⟨⟨⟨⟨⟨⟨trivial, .inr ⟨rfl, rfl, rfl⟩⟩, .inr ⟨rfl, rfl, rfl⟩⟩, .inr ⟨rfl, rfl, rfl⟩⟩, .inr ⟨rfl, rfl, rfl⟩⟩, .inr ⟨rfl, rfl, rfl⟩⟩, .inr ⟨rfl, rfl, rfl⟩⟩, .inr ⟨rfl, rfl, rfl⟩⟩, .inr ⟨rfl, rfl, rfl⟩⟩, .inr ⟨rfl, rfl, rfl⟩⟩, by decide, rfl, trivial⟩ (LeE.upd rfl rfl (LeE.upd rfl rfl (LeE.upd rfl rfl (LeE.upd rfl rfl (LeE.upd rfl rfl (LeE.noneD rfl rfl (.cons ⟨rfl, (LeV.upd rfl rfl (LeV.upd rfl rfl (LeV.upd rfl rfl (LeV.upd rfl rfl LeV.none)))), rfl, rfl, rfl, rfl⟩ .nil)))))))) ?_
     obtain ⟨y2472, H2470, H⟩ := bnd H
     refine WP.monoW (Q := fun x E M => match (generalizing := false) y2472 with | (Sum.inl (x2392, x2393)) => x = .ret ∧ E = (⟨fun _ => .any, [], [⟨aC2237, (((((Env.none.upd 0 (.ro (Rd.slice (Rd.int .i64)) false x1127)).upd 6 (.ptr 0 0)).upd 7 (.ptr 3 0)).upd 25 (.fn 49 [.ptr 4 0, .ptr 5 0]))).v, [6, 7], some (8, l_2237)⟩], []⟩ : Env) ∧ M = (((((((((Mem.nil.push (.cells 54 [.ptr 1 0])).push (.cells 82 [.lit (.int .i64 (List.getD x2392 0 (0 : Int))), .lit (.int .i64 (List.getD x2392 1 (0 : Int))), .lit (.int .i64 (List.getD x2392 2 (0 : Int))), .lit (.int .i64 (List.getD x2392 3 (0 : Int))), .lit (.int .i64 (List.getD x2392 4 (0 : Int))), .lit (.int .i64 (List.getD x2392 5 (0 : Int))), .lit (.int .i64 (List.getD x2392 6 (0 : Int))), .lit (.int .i64 (List.getD x2392 7 (0 : Int))), .lit (.int .i64 (List.getD x2392 8 (0 : Int))), .lit (.int .i64 (List.getD x2392 9 (0 : Int))), .lit (.int .i64 (List.getD x2392 10 (0 : Int))), .lit (.int .i64 (List.getD x2392 11 (0 : Int))), .lit (.int .i64 (List.getD x2392 12 (0 : Int))), .lit (.int .i64 (List.getD x2392 13 (0 : Int))), .lit (.int .i64 (List.getD x2392 14 (0 : Int))), .lit (.int .i64 (List.getD x2392 15 (0 : Int))), .whole 2])).push (.row 3 (Rd.int .i64) x2393)).push (.cells 3 [.lit (.int .i64 x2069)])).push (.cells 25 [.ro (Rd.slice (Rd.int .i64)) false x1127])).push (.cells 3 [.lit (.int .i64 x2069)])).push (.obj (Obj.deferred (some [])))).push (.bag)).push (.obj (lp r_2237 .ready none))) | (Sum.inr (x2394, x2395)) => x = .exit 0 ∧ E = (⟨fun _ => .any, [], [⟨aC2237, (((((Env.none.upd 0 (.ro (Rd.slice (Rd.int .i64)) false x1127)).upd 6 (.ptr 0 0)).upd 7 (.ptr 3 0)).upd 25 (.fn 49 [.ptr 4 0, .ptr 5 0]))).v, [6, 7], some (8, l_2237)⟩], []⟩ : Env) ∧ M = (((((((((Mem.nil.push (.cells 54 [.ptr 1 0])).push (.cells 82 [.lit (.int .i64 (List.getD x2394 0 (0 : Int))), .lit (.int .i64 (List.getD x2394 1 (0 : Int))), .lit (.int .i64 (List.getD x2394 2 (0 : Int))), .lit (.int .i64 (List.getD x2394 3 (0 : Int))), .lit (.int .i64 (List.getD x2394 4 (0 : Int))), .lit (.int .i64 (List.getD x2394 5 (0 : Int))), .lit (.int .i64 (List.getD x2394 6 (0 : Int))), .lit (.int .i64 (List.getD x2394 7 (0 : Int))), .lit (.int .i64 (List.getD x2394 8 (0 : Int))), .lit (.int .i64 (List.getD x2394 9 (0 : Int))), .lit (.int .i64 (List.getD x2394 10 (0 : Int))), .lit (.int .i64 (List.getD x2394 11 (0 : Int))), .lit (.int .i64 (List.getD x2394 12 (0 : Int))), .lit (.int .i64 (List.getD x2394 13 (0 : Int))), .lit (.int .i64 (List.getD x2394 14 (0 : Int))), .lit (.int .i64 (List.getD x2394 15 (0 : Int))), .whole 2])).push (.row 3 (Rd.int .i64) x2395)).push (.cells 3 [.lit (.int .i64 x2069)])).push (.cells 25 [.ro (Rd.slice (Rd.int .i64)) false x1127])).push (.cells 3 [.lit (.int .i64 x2069)])).push (.obj (Obj.deferred (some [])))).push (.bag)).push (.obj (lp r_2237 .ready none)))) ?_ ?_
     · refine WP.loop (β := Int × (List Int) × (List Int)) (fun n b => g_huff_New_l1 k x1127 x2069 n b.1 b.2.1 b.2.2 = some y2472) (fun b => ((((((⟨fun _ => .any, [], [⟨aC2237, (((((Env.none.upd 0 (.ro (Rd.slice (Rd.int .i64)) false x1127)).upd 6 (.ptr 1 0)).upd 7 (.ptr 4 0)).upd 25 (.fn 49 [.ptr 5 0, .ptr 0 0]))).v, [6, 7], some (8, l_2237)⟩], []⟩ : Env).upd 0 (.lit (.func (.yield l_2237) #[] #[]))).upd 2 (.ptr 0 0)).upd 6 (.ro (Rd.slice (Rd.int .i64)) false x1127)).upd 7 (.lit (.int .i64 ((List.length x1127 : Nat) : Int)))).upd 8 (.lit (.int .i64 b.1)))) (fun b => (((((((((Mem.nil.push (.cells 3 [.lit (.int .i64 x2069)])).push (.cells 54 [.ptr 2 0])).push (.cells 82 [.lit (.int .i64 (List.getD b.2.1 0 (0 : Int))), .lit (.int .i64 (List.getD b.2.1 1 (0 : Int))), .lit (.int .i64 (List.getD b.2.1 2 (0 : Int))), .lit (.int .i64 (List.getD b.2.1 3 (0 : Int))), .lit (.int .i64 (List.getD b.2.1 4 (0 : Int))), .lit (.int .i64 (List.getD b.2.1 5 (0 : Int))), .lit (.int .i64 (List.getD b.2.1 6 (0 : Int))), .lit (.int .i64 (List.getD b.2.1 7 (0 : Int))), .lit (.int .i64 (List.getD b.2.1 8 (0 : Int))), .lit (.int .i64 (List.getD b.2.1 9 (0 : Int))), .lit (.int .i64 (List.getD b.2.1 10 (0 : Int))), .lit (.int .i64 (List.getD b.2.1 11 (0 : Int))), .lit (.int .i64 (List.getD b.2.1 12 (0 : Int))), .lit (.int .i64 (List.getD b.2.1 13 (0 : Int))), .lit (.int .i64 (List.getD b.2.1 14 (0 : Int))), .lit (.int .i64 (List.getD b.2.1 15 (0 : Int))), .whole 3])).push (.row 3 (Rd.int .i64) b.2.2)).push (.cells 3 [.lit (.int .i64 x2069)])).push (.cells 25 [.ro (Rd.slice (Rd.int .i64)) false x1127])).push (.obj (Obj.deferred (some [])))).push (.bag)).push (.obj (lp r_2237 .ready none)))) k (0, x2067, x2068) H2470 rfl rfl ?_
       rintro n ⟨x2314, x2315, x2316⟩ H
       obtain _ | n := n
       · exact nf rfl H
       rw [g_huff_New_l1.eq_2] at H
       show WP _ _ _ _ ((((((⟨fun _ => .any, [], [⟨aC2237, (((((Env.none.upd 0 (.ro (Rd.slice (Rd.int .i64)) false x1127)).upd 6 (.ptr 1 0)).upd 7 (.ptr 4 0)).upd 25 (.fn 49 [.ptr 5 0, .ptr 0 0]))).v, [6, 7], some (8, l_2237)⟩], []⟩ : Env).upd 0 (.lit (.func (.yield l_2237) #[] #[]))).upd 2 (.ptr 0 0)).upd 6 (.ro (Rd.slice (Rd.int .i64)) false x1127)).upd 7 (.lit (.int .i64 ((List.length x1127 : Nat) : Int)))).upd 8 (.lit (.int .i64 x2314))) (((((((((Mem.nil.push (.cells 3 [.lit (.int .i64 x2069)])).push (.cells 54 [.ptr 2 0])).push (.cells 82 [.lit (.int .i64 (List.getD x2315 0 (0 : Int))), .lit (.int .i64 (List.getD x2315 1 (0 : Int))), .lit (.int .i64 (List.getD x2315 2 (0 : Int))), .lit (.int .i64 (List.getD x2315 3 (0 : Int))), .lit (.int .i64 (List.getD x2315 4 (0 : Int))), .lit (.int .i64 (List.getD x2315 5 (0 : Int))), .lit (.int .i64 (List.getD x2315 6 (0 : Int))), .lit (.int .i64 (List.getD x2315 7 (0 : Int))), .lit (.int .i64 (List.getD x2315 8 (0 : Int))), .lit (.int .i64 (List.getD x2315 9 (0 : Int))), .lit (.int .i64 (List.getD x2315 10 (0 : Int))), .lit (.int .i64 (List.getD x2315 11 (0 : Int))), .lit (.int .i64 (List.getD x2315 12 (0 : Int))), .lit (.int .i64 (List.getD x2315 13 (0 : Int))), .lit (.int .i64 (List.getD x2315 14 (0 : Int))), .lit (.int .i64 (List.getD x2315 15 (0 : Int))), .whole 3])).push (.row 3 (Rd.int .i64) x2316)).push (.cells 3 [.lit (.int .i64 x2069)])).push (.cells 25 [.ro (Rd.slice (Rd.int .i64)) false x1127])).push (.obj (Obj.deferred (some [])))).push (.bag)).push (.obj (lp r_2237 .ready none))) _
       refine WP.seq ?_
       refine WP.region ?_
       obtain ⟨x2396, h2396, H⟩ := bnd H
       refine WPL.q (q_nm (q_lss rfl rfl) (nm_bool h2396)) rfl ?_
       refine WPL.nilW ?_
       refine W.now ?_
       refine Then.n ?_
       refine WP.seq ?_
       refine WP.cond (t := x2396) rfl (fun hb2397 => ?_) (fun hb2397 => ?_)
       · replace H := cnt hb2397 H
         refine WP.skipW ?_
         refine W.now ?_
         refine Then.n ?_
         refine WP.seq ?_
         refine WP.block ?_
         refine WP.seq ?_
         refine WP.region ?_
         refine WPL.q (q_mv (v := .lit (.int _ _)) rfl) rfl ?_
         obtain ⟨x2435, h2435, H⟩ := bnd H
         refine WPL.q (q_index_ro sl25 rfl rfl rfl h2435) rfl ?_
         refine WPL.q (q_load_sc sc3 rfl) rfl ?_
         refine WPL.q (q_as (v := .lit (.int _ _)) rfl) rfl ?_
         refine WPL.q (q_as (v := .lit (.int _ _)) rfl) rfl ?_
         refine WPL.nilW ?_
         refine W.now ?_
         refine Then.n ?_
         refine WP.seq ?_
         obtain ⟨⟨x2451, x2452, x2453⟩, H2468, H⟩ := bnd H
         refine WP.monoW (Q := fun x E M => x = .normal ∧ E = (((((((⟨fun _ => .any, [], [⟨aC2237, (((((Env.none.upd 0 (.ro (Rd.slice (Rd.int .i64)) false x1127)).upd 6 (.ptr 1 0)).upd 7 (.ptr 4 0)).upd 25 (.fn 49 [.ptr 5 0, .ptr 0 0]))).v, [6, 7], some (8, l_2237)⟩], []⟩ : Env).upd 0 (.lit (.func (.yield l_2237) #[] #[]))).upd 2 (.ptr 0 0)).upd 6 (.ro (Rd.slice (Rd.int .i64)) false x1127)).upd 7 (.lit (.int .i64 ((List.length x1127 : Nat) : Int)))).upd 8 (.lit (.int .i64 x2314))).upd 21 (.lit (.bool x2451))) ∧ M = (((((((((Mem.nil.push (.cells 3 [.lit (.int .i64 x2069)])).push (.cells 54 [.ptr 2 0])).push (.cells 82 [.lit (.int .i64 (List.getD x2452 0 (0 : Int))), .lit (.int .i64 (List.getD x2452 1 (0 : Int))), .lit (.int .i64 (List.getD x2452 2 (0 : Int))), .lit (.int .i64 (List.getD x2452 3 (0 : Int))), .lit (.int .i64 (List.getD x2452 4 (0 : Int))), .lit (.int .i64 (List.getD x2452 5 (0 : Int))), .lit (.int .i64 (List.getD x2452 6 (0 : Int))), .lit (.int .i64 (List.getD x2452 7 (0 : Int))), .lit (.int .i64 (List.getD x2452 8 (0 : Int))), .lit (.int .i64 (List.getD x2452 9 (0 : Int))), .lit (.int .i64 (List.getD x2452 10 (0 : Int))), .lit (.int .i64 (List.getD x2452 11 (0 : Int))), .lit (.int .i64 (List.getD x2452 12 (0 : Int))), .lit (.int .i64 (List.getD x2452 13 (0 : Int))), .lit (.int .i64 (List.getD x2452 14 (0 : Int))), .lit (.int .i64 (List.getD x2452 15 (0 : Int))), .whole 3])).push (.row 3 (Rd.int .i64) x2453)).push (.cells 3 [.lit (.int .i64 x2069)])).push (.cells 25 [.ro (Rd.slice (Rd.int .i64)) false x1127])).push (.obj (Obj.deferred (some [])))).push (.bag)).push (.obj (lp r_2237 .ready none)))) ?_ ?_
         · clear H
           have H := H2468
           clear H2468
           refine WP.region ?_
           refine WPL.q (q_mv (v := .lit (.int _ _)) rfl) rfl ?_
           refine WPL.q (q_load sc3 rfl rfl rfl) rfl ?_
           refine WPL.q (q_eql rfl rfl) rfl ?_
           refine WPL.q (q_mv (v := .lit (.bool _)) rfl) rfl ?_
           refine WPL.split (t := 16) (b := (decide (x2435 = x2069))) rfl (fun hb2453 => ?_) (fun hb2453 => ?_)
           · replace H := cnt hb2453 H
             refine WPL.qg rfl rfl (lb hb2453) (q_mv (v := .lit _) rfl) rfl ?_
             refine WPL.qg rfl rfl (lb hb2453) (q_mv (v := .lit (.int _ _)) rfl) rfl ?_
             refine WPL.yg rfl rfl rfl rfl hp2237 ha2237 hb2237 ht2237 hs2237 hf2237 rfl rfl rfl rfl rfl (lb hb2453) fun aI2454 => ?_
             refine WP.region ?_
             refine WPL.q (q_as (v := .lit (.int _ _)) rfl) rfl ?_
             refine WPL.nilW ?_
             refine W.now ?_
             refine ⟨rfl, rfl, _, _, _, _, _, _, rfl, rfl, ?_⟩
             refine WP.block ?_
             refine WP.seq ?_
             refine WP.regionD' 11 [1, 2, 4] [10] mixed rfl ?_
             refine WPD.take 0 rfl (by kernel_rfl) (q_load sc54 rfl rfl rfl) rfl rfl ?_
             refine WPD.takeT 2 rfl (by kernel_rfl) (q_nilCheck rfl) rfl ?_
             refine WPD.takeT 3 rfl (by kernel_rfl) (q_fieldAddr fi82_0 rfl rfl) rfl ?_
             refine WPD.takeT 7 rfl (by kernel_rfl) (q_nilCheck rfl) rfl ?_
             refine WPD.takeT 8 rfl (by kernel_rfl) (q_fieldAddr fi82_0 rfl rfl) rfl ?_
             refine WPD.take 1 rfl (by kernel_rfl) (q_load sc3 rfl rfl rfl) rfl rfl ?_
             obtain ⟨h2462, H⟩ := grd H
             refine WPD.takeT 4 rfl (by kernel_rfl) (q_indexArr ar80 rfl rfl h2462 rfl) rfl ?_
             refine WPD.take 5 rfl (by kernel_rfl) (q_load_arr (f := (fun z : Int => AVal.lit (.int .i64 z))) (d0 := (0 : Int)) (xs := x2315) (n := 16) (off := 0) (j := (Int.toNat x2069)) sc3 rfl rfl rfl (natlt h2462) (addone _ _)) rfl rfl ?_
             obtain ⟨x2464, h2464, H⟩ := bnd H
             refine WPD.takeT 6 rfl (by kernel_rfl) (q_nm (q_add rfl rfl) (nm_int h2464)) rfl ?_
             obtain ⟨h2464, H⟩ := grd H
             refine WPD.takeT 9 rfl (by kernel_rfl) (q_indexArr ar80 rfl rfl h2464 rfl) rfl ?_
             refine WPD.effS 10 [] [] rfl (by kernel_rfl) (s_store_arr (f := (fun z : Int => AVal.lit (.int .i64 z))) (d0 := (0 : Int)) (xs := x2315) (n := 16) (off := 0) (j := (Int.toNat x2069)) (v := x2464) sz3 rfl rfl rfl rfl rfl (natlt h2464) (addone _ _)) rfl ?_
             refine WPD.doneW (by kernel_rfl) ?_
             refine W.now ?_
             refine Then.n ?_
             refine WP.regionD' 11 [1, 2] [10] mixed rfl ?_
             refine WPD.takeT 5 rfl (by kernel_rfl) (q_mv (v := .lit (.int _ _)) rfl) rfl ?_
             refine WPD.take 0 rfl (by kernel_rfl) (q_load sc54 rfl rfl rfl) rfl rfl ?_
             refine WPD.take 1 rfl (by kernel_rfl) (q_load sc54 rfl rfl rfl) rfl rfl ?_
             refine WPD.takeT 2 rfl (by kernel_rfl) (q_nilCheck rfl) rfl ?_
             refine WPD.takeT 3 rfl (by kernel_rfl) (q_fieldAddr fi82_1 rfl rfl) rfl ?_
             refine WPD.take 4 rfl (by kernel_rfl) (q_load sc25 rfl rfl rfl) rfl rfl ?_
             refine WPD.eff 6 [1, 2] [10] rfl (by kernel_rfl) (Does.runs (d_buildSlice (ds := ([x2314] : List Int)) (R := (Rd.int .i64)) li25 rfl rfl rfl rfl rfl (JoinRows.cons1 Joins.sc rfl JoinRows.nil) rfl rfl)) rfl rfl ?_
             obtain ⟨h2467, H⟩ := grd H
             refine WPD.eff 7 [1, 2] [10] rfl (by kernel_rfl) (Does.runs (d_append ap25 rfl rfl rfl rfl (src_row sl25 rfl rfl) h2467 rfl)) rfl rfl ?_
             refine WPD.takeT 8 rfl (by kernel_rfl) (q_nilCheck rfl) rfl ?_
             refine WPD.takeT 9 rfl (by kernel_rfl) (q_fieldAddr fi82_1 rfl rfl) rfl ?_
             refine WPD.effS 10 [] [] rfl (by kernel_rfl) (s_store sz25 rfl rfl rfl rfl rfl) rfl ?_
             refine WPD.doneW (by kernel_rfl) ?_
             refine W.now ?_
             refine InBlock.n ?_
             refine ⟨rfl, _, _, _, _, _, _, rfl, rfl, _, rfl, ?_⟩
             refine WPL.qg rfl rfl (lb hb2453) (q_not rfl) rfl ?_
             refine WPL.q (q_pickT (v := .lit (.bool _)) (lb hb2453) rfl) rfl ?_
             refine WPL.nilW ?_
             have q0 := (Prod.mk.inj (Option.some.inj H)).1
             have q1 := (Prod.mk.inj (Prod.mk.inj (Option.some.inj H)).2).1
             have q2 := (Prod.mk.inj (Prod.mk.inj (Option.some.inj H)).2).2
             subst q0
             subst q1
             subst q2
             exact W.wk [0, 1, 2, 10, 4, 5, 6, 7, 8] hnp ⟨rfl, rfl, rfl⟩ ⟨rfl, ⟨⟨⟨⟨⟨⟨⟨⟨⟨trivial, .inr ⟨rfl, rfl, rfl⟩⟩, .inr ⟨rfl, rfl, rfl⟩⟩, .inr ⟨rfl, rfl, rfl⟩⟩, .inr ⟨rfl, rfl, rfl⟩⟩, .inr ⟨rfl, rfl, rfl⟩⟩, .inr ⟨rfl, rfl, rfl⟩⟩, .inr ⟨rfl, rfl, rfl⟩⟩, .inr ⟨rfl, rfl, rfl⟩⟩, .inr ⟨rfl, rfl, rfl⟩⟩, by decide, rfl, trivial⟩ (LeE.upd rfl rfl (LeE.upd rfl rfl (LeE.upd rfl rfl (LeE.upd rfl rfl (LeE.upd rfl rfl (LeE.upd rfl rfl (LeE.noneD rfl rfl (.cons ⟨rfl, (LeV.upd rfl rfl (LeV.upd rfl rfl (LeV.upd rfl rfl (LeV.upd rfl rfl LeV.none)))), rfl, rfl, rfl, rfl⟩ .nil)))))))) rfl
           replace H := cnf hb2453 H
           refine WPL.skipg (b' := false) rfl rfl (lb hb2453) rfl rfl (.inl trivial) ?_
           refine WPL.skipg (b' := false) rfl rfl (lb hb2453) rfl rfl (.inl trivial) ?_
           refine WPL.skipg (b' := false) rfl rfl (lb hb2453) rfl rfl (SkipOkE.und rfl) ?_
           refine WPL.skipg (b' := false) rfl rfl (lb hb2453) rfl rfl (.inl trivial) ?_
           refine WPL.q (q_pickF (v := .lit (.bool _)) (lb hb2453) rfl) rfl ?_
           refine WPL.nilW ?_
           have q0 := (Prod.mk.inj (Option.some.inj H)).1
           have q1 := (Prod.mk.inj (Prod.mk.inj (Option.some.inj H)).2).1
           have q2 := (Prod.mk.inj (Prod.mk.inj (Option.some.inj H)).2).2
           subst q0
           subst q1
           subst q2
           exact W.wk [0, 1, 2, 3, 4, 5, 6, 7, 8] hnp ⟨rfl, rfl, rfl⟩ ⟨rfl, ⟨⟨⟨⟨⟨⟨⟨⟨⟨trivial, .inr ⟨rfl, rfl, rfl⟩⟩, .inr ⟨rfl, rfl, rfl⟩⟩, .inr ⟨rfl, rfl, rfl⟩⟩, .inr ⟨rfl, rfl, rfl⟩⟩, .inr ⟨rfl, rfl, rfl⟩⟩, .inr ⟨rfl, rfl, rfl⟩⟩, .inr ⟨rfl, rfl, rfl⟩⟩, .inr ⟨rfl, rfl, rfl⟩⟩, .inr ⟨rfl, rfl, rfl⟩⟩, by decide, rfl, trivial⟩ (LeE.upd rfl rfl (LeE.upd rfl rfl (LeE.upd rfl rfl (LeE.upd rfl rfl (LeE.upd rfl rfl (LeE.upd rfl rfl (LeE.noneD rfl rfl (.cons ⟨rfl, (LeV.upd rfl rfl (LeV.upd rfl rfl (LeV.upd rfl rfl (LeV.upd rfl rfl LeV.none)))), rfl, rfl, rfl, rfl⟩ .nil)))))))) rfl
         rintro _ _ _ ⟨rfl, rfl, rfl⟩
         refine W.now ?_
         refine Then.n ?_
         refine WP.cond (t := x2451) rfl (fun hb2469 => ?_) (fun hb2469 => ?_)
         · replace H := cnt hb2469 H
           refine WP.retW ?_
           have q0 := Option.some.inj H
           subst q0
           exact W.wk [1, 2, 3, 4, 5, 0, 6, 7, 8] hnp (InBlock.r (Then.r (Then.r ⟨rfl, rfl, rfl⟩))) ⟨rfl, ⟨⟨⟨⟨⟨⟨⟨⟨⟨trivial, .inr ⟨rfl, rfl, rfl⟩⟩, .inr ⟨rfl, rfl, rfl⟩⟩, .inr ⟨rfl, rfl, rfl⟩⟩, .inr ⟨rfl, rfl, rfl⟩⟩, .inr ⟨rfl, rfl, rfl⟩⟩, .inr ⟨rfl, rfl, rfl⟩⟩, .inr ⟨rfl, rfl, rfl⟩⟩, .inr ⟨rfl, rfl, rfl⟩⟩, .inr ⟨rfl, rfl, rfl⟩⟩, by decide, rfl, trivial⟩ (LeE.noneD rfl rfl (.cons ⟨rfl, (LeV.upd rfl rfl (LeV.upd rfl rfl (LeV.upd rfl rfl (LeV.upd rfl rfl LeV.none)))), rfl, rfl, rfl, rfl⟩ .nil)) rfl
         replace H := cnf hb2469 H
         refine WP.skipW ?_
         refine W.now ?_
         refine InBlock.n ?_
         refine Then.n ?_
         refine WP.region ?_
         refine WPL.q (q_add rfl rfl) rfl ?_
         refine WPL.q (q_mv (v := .lit (.int _ _)) rfl) rfl ?_
         refine WPL.nilW ?_
         exact W.wk [0, 1, 2, 3, 4, 5, 6, 7, 8] hnp (Then.n ⟨n, ((IntKind.wrap .i64 (x2314 + 1)), x2452, x2453), Nat.lt_succ_self n, H, rfl, rfl⟩) ⟨rfl, ⟨⟨⟨⟨⟨⟨⟨⟨⟨trivial, .inr ⟨rfl, rfl, rfl⟩⟩, .inr ⟨rfl, rfl, rfl⟩⟩, .inr ⟨rfl, rfl, rfl⟩⟩, .inr ⟨rfl, rfl, rfl⟩⟩, .inr ⟨rfl, rfl, rfl⟩⟩, .inr ⟨rfl, rfl, rfl⟩⟩, .inr ⟨rfl, rfl, rfl⟩⟩, .inr ⟨rfl, rfl, rfl⟩⟩, .inr ⟨rfl, rfl, rfl⟩⟩, by decide, rfl, trivial⟩ (LeE.upd rfl rfl (LeE.upd rfl rfl (LeE.upd rfl rfl (LeE.upd rfl rfl (LeE.upd rfl rfl (LeE.noneD rfl rfl (.cons ⟨rfl, (LeV.upd rfl rfl (LeV.upd rfl rfl (LeV.upd rfl rfl (LeV.upd rfl rfl LeV.none)))), rfl, rfl, rfl, rfl⟩ .nil))))))) rfl
       replace H := cnf hb2397 H
       refine WP.exitW ?_
       have q0 := Option.some.inj H
       subst q0
       exact W.wk [1, 2, 3, 4, 5, 0, 6, 7, 8] hnp (Then.x (Then.x ⟨rfl, rfl, rfl⟩)) ⟨rfl, ⟨⟨⟨⟨⟨⟨⟨⟨⟨trivial, .inr ⟨rfl, rfl, rfl⟩⟩, .inr ⟨rfl, rfl, rfl⟩⟩, .inr ⟨rfl, rfl, rfl⟩⟩, .inr ⟨rfl, rfl, rfl⟩⟩, .inr ⟨rfl, rfl, rfl⟩⟩, .inr ⟨rfl, rfl, rfl⟩⟩, .inr ⟨rfl, rfl, rfl⟩⟩, .inr ⟨rfl, rfl, rfl⟩⟩, .inr ⟨rfl, rfl, rfl⟩⟩, by decide, rfl, trivial⟩ (LeE.noneD rfl rfl (.cons ⟨rfl, (LeV.upd rfl rfl (LeV.upd rfl rfl (LeV.upd rfl rfl (LeV.upd rfl rfl LeV.none)))), rfl, rfl, rfl, rfl⟩ .nil)) rfl
     rcases y2472 with ⟨x2392, x2393⟩ | ⟨x2394, x2395⟩
     · rintro _ _ _ ⟨rfl, rfl, rfl⟩
       refine W.now ?_
       refine InBlock.r ?_
       refine ⟨trivial, _, _, _, _, rfl, _, _, rfl, (fun h => by cases h), ?_⟩
       refine W.cv (Cv.absorb (N := 9) (j := 6) (i := 7) rfl rfl rfl rfl) rfl ?_
       refine W.now ?_
       refine InBlock.n ?_
       refine InBlock.n ?_
       refine Then.n ?_
       refine WP.seq ?_
       refine WP.seq ?_
       refine WP.region ?_
       refine WPL.q (q_load sc3 rfl rfl rfl) rfl ?_
       refine WPL.nilW ?_
       refine W.now ?_
       refine Then.n ?_
       refine WP.region ?_
       refine WPL.d (d_alloc ze3 rfl) rfl ?_
       refine WPL.s (s_store sz3 rfl rfl rfl rfl rfl) ?_
       refine WPL.nilW ?_
       refine W.now ?_
       refine Then.n ?_
       refine WP.region ?_
       refine WPL.q (q_load sc3 rfl rfl rfl) rfl ?_
       refine WPL.q (q_add rfl rfl) rfl ?_
       refine WPL.s (s_store sz3 rfl rfl rfl rfl rfl) ?_
       refine WPL.nilW ?_
       exact W.wk [0, 1, 2, 10, 9] hnp (Then.n ⟨n, (x2392, x2393, (IntKind.wrap .i64 (x2069 + 1))), Nat.lt_succ_self n, H, rfl, rfl⟩) ⟨rfl, ⟨⟨⟨⟨⟨trivial, .inr ⟨rfl, rfl, rfl⟩⟩, .inr ⟨rfl, rfl, rfl⟩⟩, .inr ⟨rfl, rfl, rfl⟩⟩, .inr ⟨rfl, rfl, rfl⟩⟩, .inr ⟨rfl, rfl, rfl⟩⟩, by decide, rfl, trivial⟩ (LeE.upd rfl rfl (LeE.upd rfl rfl (LeE.upd rfl rfl (LeE.noneD rfl rfl .nil)))) rfl
     rintro _ _ _ ⟨rfl, rfl, rfl⟩
     refine W.now ?_
     refine InBlock.x0 ?_
     refine ⟨trivial, _, _, _, _, rfl, _, _, rfl, (fun h => by cases h), ?_⟩
     refine W.cv (Cv.absorb (N := 9) (j := 6) (i := 7) rfl rfl rfl rfl) rfl ?_
     refine W.now ?_
     refine InBlock.n ?_
     refine InBlock.n ?_
     refine Then.n ?_
     refine WP.seq ?_
     refine WP.seq ?_
     refine WP.region ?_
     refine WPL.q (q_load sc3 rfl rfl rfl) rfl ?_
     refine WPL.nilW ?_
     refine W.now ?_
     refine Then.n ?_
     refine WP.region ?_
     refine WPL.d (d_alloc ze3 rfl) rfl ?_
     refine WPL.s (s_store sz3 rfl rfl rfl rfl rfl) ?_
     refine WPL.nilW ?_
     refine W.now ?_
     refine Then.n ?_
     refine WP.region ?_
     refine WPL.q (q_load sc3 rfl rfl rfl) rfl ?_
     refine WPL.q (q_add rfl rfl) rfl ?_
     refine WPL.s (s_store sz3 rfl rfl rfl rfl rfl) ?_
     refine WPL.nilW ?_
     exact W.wk [0, 1, 2, 10, 9] hnp (Then.n ⟨n, (x2394, x2395, (IntKind.wrap .i64 (x2069 + 1))), Nat.lt_succ_self n, H, rfl, rfl⟩) ⟨rfl, ⟨⟨⟨⟨⟨trivial, .inr ⟨rfl, rfl, rfl⟩⟩, .inr ⟨rfl, rfl, rfl⟩⟩, .inr ⟨rfl, rfl, rfl⟩⟩, .inr ⟨rfl, rfl, rfl⟩⟩, .inr ⟨rfl, rfl, rfl⟩⟩, by decide, rfl, trivial⟩ (LeE.upd rfl rfl (LeE.upd rfl rfl (LeE.upd rfl rfl (LeE.noneD rfl rfl .nil)))) rfl
   replace H := cnf hb2235 H
   refine WP.exitW ?_
   have q0 := (Prod.mk.inj (Option.some.inj H)).1
   have q1 := (Prod.mk.inj (Option.some.inj H)).2
   subst q0
   subst q1
   exact W.wk [0, 1, 2, 4] hnp (Then.x (Then.x ⟨rfl, rfl, rfl⟩)) ⟨rfl, ⟨⟨⟨⟨trivial, .inr ⟨rfl, rfl, rfl⟩⟩, .inr ⟨rfl, rfl, rfl⟩⟩, .inr ⟨rfl, rfl, rfl⟩⟩, .inr ⟨rfl, rfl, rfl⟩⟩, by decide, rfl, trivial⟩ (LeE.upd rfl rfl (LeE.noneD rfl rfl .nil)) rfl
 rintro _ _ _ ⟨rfl, rfl, rfl⟩
 refine W.now ?_
 refine InBlock.x0 ?_
 refine Then.n ?_
 refine WP.seq ?_
 refine WP.region ?_
 refine WPL.q (q_load sc54 rfl rfl rfl) rfl ?_
 refine WPL.q (q_as (v := .ptr _ _) rfl) rfl ?_
 refine WPL.q (q_as (v := .lit (.int _ _)) rfl) rfl ?_
 refine WPL.nilW ?_
 refine W.now ?_
 refine Then.n ?_
 refine WP.retW ?_
 have q0 := Option.some.inj H
 subst q0
 exact W.now (BodyR.mkR ⟨.inr rfl, trivial⟩ rfl [1, 2] ⟨rfl, rfl⟩ ⟨rfl, ⟨⟨trivial, .inr ⟨rfl, rfl, rfl⟩⟩, .inr ⟨rfl, rfl, rfl⟩⟩, by decide, rfl, trivial⟩ rfl rfl)
set_option maxRecDepth 100000 in
set_option maxHeartbeats 4000000 in
theorem s_inflate_code (k : Nat) (x1125 : (List Int)) (r : (Int ⊕ ((List Int) × (List Int)))) (H : g_inflate_code k x1125 = some r) : Go.Q.Spec Try.prog 29 0 [.ro (Rd.slice (Rd.int .i64)) false x1125] Mem.nil (fun o M => match (generalizing := false) r with | (Sum.inl x2483) => o = .pan (.ifc 46 (.lit (.int .i64 x2483))) ∧ M = Mem.nil | (Sum.inr (x2484, x2485)) => o = .ret (.ptr 0 0) ∧ M = ((Mem.nil.push (.cells 82 [.lit (.int .i64 (List.getD x2484 0 (0 : Int))), .lit (.int .i64 (List.getD x2484 1 (0 : Int))), .lit (.int .i64 (List.getD x2484 2 (0 : Int))), .lit (.int .i64 (List.getD x2484 3 (0 : Int))), .lit (.int .i64 (List.getD x2484 4 (0 : Int))), .lit (.int .i64 (List.getD x2484 5 (0 : Int))), .lit (.int .i64 (List.getD x2484 6 (0 : Int))), .lit (.int .i64 (List.getD x2484 7 (0 : Int))), .lit (.int .i64 (List.getD x2484 8 (0 : Int))), .lit (.int .i64 (List.getD x2484 9 (0 : Int))), .lit (.int .i64 (List.getD x2484 10 (0 : Int))), .lit (.int .i64 (List.getD x2484 11 (0 : Int))), .lit (.int .i64 (List.getD x2484 12 (0 : Int))), .lit (.int .i64 (List.getD x2484 13 (0 : Int))), .lit (.int .i64 (List.getD x2484 14 (0 : Int))), .lit (.int .i64 (List.getD x2484 15 (0 : Int))), .whole 1])).push (.row 3 (Rd.int .i64) x2485))) := by
 unfold g_inflate_code at H
 refine Go.Q.Spec.of_bodyR (az := []) (rs := [.tmp 2]) (nt := 13) Try.func29 rfl rfl (by intro t T h; simp at h) rfl rfl fun cx hnp => ?_
 refine WP.seq ?_
 refine WP.region ?_
 refine WPL.q (q_as (v := .lit _) rfl) rfl ?_
 refine WPL.nilW ?_
 refine W.now ?_
 refine Then.n ?_
 refine WP.seq ?_
 refine WP.region ?_
 refine WPL.q (q_mv (v := .ro _ _ _) rfl) rfl ?_
 obtain ⟨y2490, h2485, H⟩ := bnd H
 rcases y2490 with x2487 | ⟨x2488, x2489⟩
 · refine WPL.c (runs_call (s := []) (t := []) (N := 0) (bor := []) fn38 rfl (s_huff_New k x1125 (Sum.inl x2487) h2485) ⟨rfl, trivial, by decide, rfl, trivial⟩ rfl trivial (.ren rfl rfl .nil) rfl trivial rfl) rfl ?_
   refine WPL.q (q_mv (v := .tup _) rfl) rfl ?_
   refine WPL.q (q_extract rfl rfl) rfl ?_
   refine WPL.q (q_extract rfl rfl) rfl ?_
   refine WPL.q (q_as (v := .lit _) rfl) rfl ?_
   refine WPL.q (q_as (v := .lit (.int _ _)) rfl) rfl ?_
   refine WPL.nilW ?_
   refine W.now ?_
   refine Then.n ?_
   refine WP.seq ?_
   refine WP.region ?_
   refine WPL.q (q_mv (v := .lit (.int _ _)) rfl) rfl ?_
   obtain ⟨y2492, h2490, H⟩ := bnd H
   rcases y2492 with _ | _
   · refine WPL.pW (runs_callP (s := []) (t := []) (N := 0) (bor := []) fn31 rfl (s_inflate_must k x2487 (Sum.inl ()) h2490) ⟨rfl, trivial, by decide, rfl, trivial⟩ rfl trivial (.ren rfl rfl .nil) rfl trivial rfl) ?_
     have q0 := Option.some.inj H
     subst q0
     exact W.now (Then.p (BodyR.mkP trivial [] ⟨rfl, rfl⟩ ⟨rfl, trivial, by decide, rfl, trivial⟩ rfl rfl))
   refine WPL.c (runs_call (s := []) (t := []) (N := 0) (bor := []) fn31 rfl (s_inflate_must k x2487 (Sum.inr ()) h2490) ⟨rfl, trivial, by decide, rfl, trivial⟩ rfl trivial (.ren rfl rfl .nil) rfl trivial rfl) rfl ?_
   refine WPL.nilW ?_
   refine W.now ?_
   refine Then.n ?_
   refine WP.seq ?_
   refine WP.region ?_
   refine WPL.q (q_mv (v := .lit _) rfl) rfl ?_
   refine WPL.q (q_as (v := .lit _) rfl) rfl ?_
   refine WPL.nilW ?_
   refine W.now ?_
   refine Then.n ?_
   refine WP.retW ?_
   exact nf rfl H
 refine WPL.c (runs_call (s := []) (t := [0, 1]) (N := 2) (bor := []) fn38 rfl (s_huff_New k x1125 (Sum.inr (x2488, x2489)) h2485) ⟨rfl, trivial, by decide, rfl, trivial⟩ rfl trivial (.ren rfl rfl .nil) rfl ⟨⟨trivial, rfl⟩, rfl⟩ rfl) rfl ?_
 refine WPL.q (q_mv (v := .tup _) rfl) rfl ?_
 refine WPL.q (q_extract rfl rfl) rfl ?_
 refine WPL.q (q_extract rfl rfl) rfl ?_
 refine WPL.q (q_as (v := .ptr _ _) rfl) rfl ?_
 refine WPL.q (q_as (v := .lit (.int _ _)) rfl) rfl ?_
 refine WPL.nilW ?_
 refine W.now ?_
 refine Then.n ?_
 refine WP.seq ?_
 refine WP.region ?_
 refine WPL.q (q_mv (v := .lit (.int _ _)) rfl) rfl ?_
 obtain ⟨y2494, h2492, H⟩ := bnd H
 rcases y2494 with _ | _
 · refine WPL.pW (runs_callP (s := []) (t := []) (N := 2) (bor := []) fn31 rfl (s_inflate_must k 0 (Sum.inl ()) h2492) ⟨rfl, trivial, by decide, rfl, trivial⟩ rfl trivial (.ren rfl rfl .nil) rfl trivial rfl) ?_
   have q0 := Option.some.inj H
   subst q0
   exact W.now (Then.p (BodyR.mkP trivial [] ⟨rfl, rfl⟩ ⟨rfl, trivial, by decide, rfl, trivial⟩ rfl rfl))
 refine WPL.c (runs_call (s := []) (t := []) (N := 2) (bor := []) fn31 rfl (s_inflate_must k 0 (Sum.inr ()) h2492) ⟨rfl, trivial, by decide, rfl, trivial⟩ rfl trivial (.ren rfl rfl .nil) rfl trivial rfl) rfl ?_
 refine WPL.nilW ?_
 refine W.now ?_
 refine Then.n ?_
 refine WP.seq ?_
 refine WP.region ?_
 refine WPL.q (q_mv (v := .ptr _ _) rfl) rfl ?_
 refine WPL.q (q_as (v := .ptr _ _) rfl) rfl ?_
 refine WPL.nilW ?_
 refine W.now ?_
 refine Then.n ?_
 refine WP.retW ?_
 have q0 := Option.some.inj H
 subst q0
 exact W.now (BodyR.mkR trivial rfl [0, 1] ⟨rfl, rfl⟩ ⟨rfl, ⟨⟨trivial, .inr ⟨rfl, rfl, rfl⟩⟩, .inr ⟨rfl, rfl, rfl⟩⟩, by decide, rfl, trivial⟩ rfl rfl)
set_option maxRecDepth 100000 in
set_option maxHeartbeats 4000000 in
theorem s_huff_Decoder_begins (k : Nat) (x2550 : Int) (x2551 : Int) (x2552 : (List Int)) (x2553 : (List Int)) (x2568 : Bool) (H : g_huff_Decoder_begins k x2550 x2551 x2552 x2553 = some x2568) : Go.Q.Spec Try.prog 48 1 [.ptr 0 0, .lit (.int .i64 x2550), .lit (.int .i64 x2551)] ((Mem.nil.push (.cells 82 [.lit (.int .i64 (List.getD x2552 0 (0 : Int))), .lit (.int .i64 (List.getD x2552 1 (0 : Int))), .lit (.int .i64 (List.getD x2552 2 (0 : Int))), .lit (.int .i64 (List.getD x2552 3 (0 : Int))), .lit (.int .i64 (List.getD x2552 4 (0 : Int))), .lit (.int .i64 (List.getD x2552 5 (0 : Int))), .lit (.int .i64 (List.getD x2552 6 (0 : Int))), .lit (.int .i64 (List.getD x2552 7 (0 : Int))), .lit (.int .i64 (List.getD x2552 8 (0 : Int))), .lit (.int .i64 (List.getD x2552 9 (0 : Int))), .lit (.int .i64 (List.getD x2552 10 (0 : Int))), .lit (.int .i64 (List.getD x2552 11 (0 : Int))), .lit (.int .i64 (List.getD x2552 12 (0 : Int))), .lit (.int .i64 (List.getD x2552 13 (0 : Int))), .lit (.int .i64 (List.getD x2552 14 (0 : Int))), .lit (.int .i64 (List.getD x2552 15 (0 : Int))), .whole 1])).push (.row 3 (Rd.int .i64) x2553)) (fun o M => o = .ret (.lit (.bool x2568)) ∧ M = ((Mem.nil.push (.cells 82 [.lit (.int .i64 (List.getD x2552 0 (0 : Int))), .lit (.int .i64 (List.getD x2552 1 (0 : Int))), .lit (.int .i64 (List.getD x2552 2 (0 : Int))), .lit (.int .i64 (List.getD x2552 3 (0 : Int))), .lit (.int .i64 (List.getD x2552 4 (0 : Int))), .lit (.int .i64 (List.getD x2552 5 (0 : Int))), .lit (.int .i64 (List.getD x2552 6 (0 : Int))), .lit (.int .i64 (List.getD x2552 7 (0 : Int))), .lit (.int .i64 (List.getD x2552 8 (0 : Int))), .lit (.int .i64 (List.getD x2552 9 (0 : Int))), .lit (.int .i64 (List.getD x2552 10 (0 : Int))), .lit (.int .i64 (List.getD x2552 11 (0 : Int))), .lit (.int .i64 (List.getD x2552 12 (0 : Int))), .lit (.int .i64 (List.getD x2552 13 (0 : Int))), .lit (.int .i64 (List.getD x2552 14 (0 : Int))), .lit (.int .i64 (List.getD x2552 15 (0 : Int))), .whole 1])).push (.row 3 (Rd.int .i64) x2553))) := by
 unfold g_huff_Decoder_begins at H
 refine Go.Q.Spec.of_bodyR (az := []) (rs := [.tmp 6]) (nt := 27) Try.func48 rfl rfl (by intro t T h; simp at h) rfl rfl fun cx hnp => ?_
 refine WP.seq ?_
 refine WP.region ?_
 refine WPL.q (q_as (v := .lit (.bool _)) rfl) rfl ?_
 refine WPL.nilW ?_
 refine W.now ?_
 refine Then.n ?_
 refine WP.seq ?_
 refine WP.region ?_
 refine WPL.q (q_as (v := .lit (.int _ _)) rfl) rfl ?_
 refine WPL.nilW ?_
 refine W.now ?_
 refine Then.n ?_
 refine WP.seq ?_
 refine WP.seq ?_
 refine WP.region ?_
 refine WPL.q (q_as (v := .lit (.int _ _)) rfl) rfl ?_
 refine WPL.nilW ?_
 refine W.now ?_
 refine Then.n ?_
 refine WP.block ?_
 refine WP.cv (Cv.weak (E' := (((((Env.none.upd 0 (.ptr 0 0)).upd 1 (.lit (.int .i64 x2550))).upd 2 (.lit (.int .i64 x2551))).upd 7 (.lit (.int .i64 0))).upd 8 (.lit (.int .i64 15)))) (M' := ((Mem.nil.push (.cells 82 [.lit (.int .i64 (List.getD x2552 0 (0 : Int))), .lit (.int .i64 (List.getD x2552 1 (0 : Int))), .lit (.int .i64 (List.getD x2552 2 (0 : Int))), .lit (.int .i64 (List.getD x2552 3 (0 : Int))), .lit (.int .i64 (List.getD x2552 4 (0 : Int))), .lit (.int .i64 (List.getD x2552 5 (0 : Int))), .lit (.int .i64 (List.getD x2552 6 (0 : Int))), .lit (.int .i64 (List.getD x2552 7 (0 : Int))), .lit (.int .i64 (List.getD x2552 8 (0 : Int))), .lit (.int .i64 (List.getD x2552 9 (0 : Int))), .lit (.int .i64 (List.getD x2552 10 (0 : Int))), .lit (.int .i64 (List.getD x2552 11 (0 : Int))), .lit (.int .i64 (List.getD x2552 12 (0 : Int))), .lit (.int .i64 (List.getD x2552 13 (0 : Int))), .lit (.int .i64 (List.getD x2552 14 (0 : Int))), .lit (.int .i64 (List.getD x2552 15 (0 : Int))), .whole 1])).push (.row 3 (Rd.int .i64) x2553))) [0, 1] hnp ⟨rfl, ⟨⟨trivial, .inr ⟨rfl, rfl, rfl⟩⟩, .inr ⟨rfl, rfl, rfl⟩⟩, by decide, rfl, ⟨trivial, rfl⟩⟩ (LeE.upd rfl rfl (LeE.upd rfl rfl (LeE.upd rfl rfl (LeE.upd rfl rfl (LeE.upd rfl rfl (LeE.none rfl rfl))))))) ?_
 obtain ⟨x2580, H2585, H⟩ := bnd H
 refine WP.monoW (Q := fun x E M => x = .exit 0 ∧ E = ((Env.none.upd 1 (.lit (.int .i64 x2550))).upd 7 (.lit (.int .i64 x2580))) ∧ M = ((Mem.nil.push (.cells 82 [.lit (.int .i64 (List.getD x2552 0 (0 : Int))), .lit (.int .i64 (List.getD x2552 1 (0 : Int))), .lit (.int .i64 (List.getD x2552 2 (0 : Int))), .lit (.int .i64 (List.getD x2552 3 (0 : Int))), .lit (.int .i64 (List.getD x2552 4 (0 : Int))), .lit (.int .i64 (List.getD x2552 5 (0 : Int))), .lit (.int .i64 (List.getD x2552 6 (0 : Int))), .lit (.int .i64 (List.getD x2552 7 (0 : Int))), .lit (.int .i64 (List.getD x2552 8 (0 : Int))), .lit (.int .i64 (List.getD x2552 9 (0 : Int))), .lit (.int .i64 (List.getD x2552 10 (0 : Int))), .lit (.int .i64 (List.getD x2552 11 (0 : Int))), .lit (.int .i64 (List.getD x2552 12 (0 : Int))), .lit (.int .i64 (List.getD x2552 13 (0 : Int))), .lit (.int .i64 (List.getD x2552 14 (0 : Int))), .lit (.int .i64 (List.getD x2552 15 (0 : Int))), .whole 1])).push (.row 3 (Rd.int .i64) x2553))) ?_ ?_
 · refine WP.loop (β := Int × Int) (fun n b => g_huff_Decoder_begins_l0 k x2551 x2552 n b.1 b.2 = some x2580) (fun b => (((((Env.none.upd 0 (.ptr 0 0)).upd 1 (.lit (.int .i64 x2550))).upd 2 (.lit (.int .i64 x2551))).upd 7 (.lit (.int .i64 b.1))).upd 8 (.lit (.int .i64 b.2)))) (fun b => ((Mem.nil.push (.cells 82 [.lit (.int .i64 (List.getD x2552 0 (0 : Int))), .lit (.int .i64 (List.getD x2552 1 (0 : Int))), .lit (.int .i64 (List.getD x2552 2 (0 : Int))), .lit (.int .i64 (List.getD x2552 3 (0 : Int))), .lit (.int .i64 (List.getD x2552 4 (0 : Int))), .lit (.int .i64 (List.getD x2552 5 (0 : Int))), .lit (.int .i64 (List.getD x2552 6 (0 : Int))), .lit (.int .i64 (List.getD x2552 7 (0 : Int))), .lit (.int .i64 (List.getD x2552 8 (0 : Int))), .lit (.int .i64 (List.getD x2552 9 (0 : Int))), .lit (.int .i64 (List.getD x2552 10 (0 : Int))), .lit (.int .i64 (List.getD x2552 11 (0 : Int))), .lit (.int .i64 (List.getD x2552 12 (0 : Int))), .lit (.int .i64 (List.getD x2552 13 (0 : Int))), .lit (.int .i64 (List.getD x2552 14 (0 : Int))), .lit (.int .i64 (List.getD x2552 15 (0 : Int))), .whole 1])).push (.row 3 (Rd.int .i64) x2553))) k (0, 15) H2585 rfl rfl ?_
   rintro n ⟨x2573, x2574⟩ H
   obtain _ | n := n
   · exact nf rfl H
   rw [g_huff_Decoder_begins_l0.eq_2] at H
   show WP _ _ _ _ (((((Env.none.upd 0 (.ptr 0 0)).upd 1 (.lit (.int .i64 x2550))).upd 2 (.lit (.int .i64 x2551))).upd 7 (.lit (.int .i64 x2573))).upd 8 (.lit (.int .i64 x2574))) ((Mem.nil.push (.cells 82 [.lit (.int .i64 (List.getD x2552 0 (0 : Int))), .lit (.int .i64 (List.getD x2552 1 (0 : Int))), .lit (.int .i64 (List.getD x2552 2 (0 : Int))), .lit (.int .i64 (List.getD x2552 3 (0 : Int))), .lit (.int .i64 (List.getD x2552 4 (0 : Int))), .lit (.int .i64 (List.getD x2552 5 (0 : Int))), .lit (.int .i64 (List.getD x2552 6 (0 : Int))), .lit (.int .i64 (List.getD x2552 7 (0 : Int))), .lit (.int .i64 (List.getD x2552 8 (0 : Int))), .lit (.int .i64 (List.getD x2552 9 (0 : Int))), .lit (.int .i64 (List.getD x2552 10 (0 : Int))), .lit (.int .i64 (List.getD x2552 11 (0 : Int))), .lit (.int .i64 (List.getD x2552 12 (0 : Int))), .lit (.int .i64 (List.getD x2552 13 (0 : Int))), .lit (.int .i64 (List.getD x2552 14 (0 : Int))), .lit (.int .i64 (List.getD x2552 15 (0 : Int))), .whole 1])).push (.row 3 (Rd.int .i64) x2553)) _
   refine WP.seq ?_
   refine WP.seq ?_
   refine WP.region ?_
   refine WPL.q (q_mv (v := .lit (.int _ _)) rfl) rfl ?_
   refine WPL.q (q_mv (v := .lit (.int _ _)) rfl) rfl ?_
   refine WPL.q (q_geq rfl rfl) rfl ?_
   refine WPL.nilW ?_
   refine W.now ?_
   refine Then.n ?_
   refine WP.cond (t := (decide (x2551 ≤ x2574))) rfl (fun hb2581 => ?_) (fun hb2581 => ?_)
   · replace H := cnt hb2581 H
     refine WP.skipW ?_
     refine W.now ?_
     refine Then.n ?_
     refine WP.seq ?_
     refine WP.block ?_
     refine WP.region ?_
     refine WPL.q (q_mv (v := .lit (.int _ _)) rfl) rfl ?_
     refine WPL.q (q_mv (v := .ptr _ _) rfl) rfl ?_
     refine WPL.q (q_mv (v := .lit (.int _ _)) rfl) rfl ?_
     refine WPL.q (q_nilCheck rfl) rfl ?_
     refine WPL.q (q_fieldAddr fi82_0 rfl rfl) rfl ?_
     obtain ⟨h2582, H⟩ := grd H
     refine WPL.q (q_indexArr ar80 rfl rfl h2582 rfl) rfl ?_
     refine WPL.q (q_load_arr (f := (fun z : Int => AVal.lit (.int .i64 z))) (d0 := (0 : Int)) (xs := x2552) (n := 16) (off := 0) (j := (Int.toNat x2574)) sc3 rfl rfl rfl (natlt h2582) (addone _ _)) rfl ?_
     obtain ⟨x2584, h2584, H⟩ := bnd H
     refine WPL.q (q_nm (q_add rfl rfl) (nm_int h2584)) rfl ?_
     refine WPL.q (q_add rfl rfl) rfl ?_
     obtain ⟨x2585, h2585, H⟩ := bnd H
     refine WPL.q (q_nm (q_quo rfl rfl rfl) (nm_int h2585)) rfl ?_
     refine WPL.q (q_as (v := .lit (.int _ _)) rfl) rfl ?_
     refine WPL.nilW ?_
     refine W.now ?_
     refine InBlock.n ?_
     refine Then.n ?_
     refine WP.region ?_
     refine WPL.q (q_mv (v := .lit (.int _ _)) rfl) rfl ?_
     refine WPL.q (q_sub rfl rfl) rfl ?_
     refine WPL.q (q_as (v := .lit (.int _ _)) rfl) rfl ?_
     refine WPL.nilW ?_
     exact W.wk [0, 1] hnp (Then.n ⟨n, (x2585, (IntKind.wrap .i64 (x2574 - 1))), Nat.lt_succ_self n, H, rfl, rfl⟩) ⟨rfl, ⟨⟨trivial, .inr ⟨rfl, rfl, rfl⟩⟩, .inr ⟨rfl, rfl, rfl⟩⟩, by decide, rfl, ⟨trivial, rfl⟩⟩ (LeE.upd rfl rfl (LeE.upd rfl rfl (LeE.upd rfl rfl (LeE.upd rfl rfl (LeE.upd rfl rfl (LeE.none rfl rfl)))))) rfl
   replace H := cnf hb2581 H
   refine WP.exitW ?_
   have q0 := (Option.some.inj H)
   subst q0
   exact W.wk [0, 1] hnp (Then.x (Then.x ⟨rfl, rfl, rfl⟩)) ⟨rfl, ⟨⟨trivial, .inr ⟨rfl, rfl, rfl⟩⟩, .inr ⟨rfl, rfl, rfl⟩⟩, by decide, rfl, ⟨trivial, rfl⟩⟩ (LeE.upd rfl rfl (LeE.upd rfl rfl (LeE.none rfl rfl))) rfl
 rintro _ _ _ ⟨rfl, rfl, rfl⟩
 refine W.now ?_
 refine InBlock.x0 ?_
 refine Then.n ?_
 refine WP.seq ?_
 refine WP.region ?_
 refine WPL.q (q_mv (v := .lit (.int _ _)) rfl) rfl ?_
 refine WPL.q (q_mv (v := .lit (.int _ _)) rfl) rfl ?_
 refine WPL.q (q_lss rfl rfl) rfl ?_
 refine WPL.q (q_as (v := .lit (.bool _)) rfl) rfl ?_
 refine WPL.nilW ?_
 refine W.now ?_
 refine Then.n ?_
 refine WP.retW ?_
 have q0 := (Option.some.inj H)
 subst q0
 exact W.now (BodyR.mkR trivial rfl [0, 1] ⟨rfl, rfl⟩ ⟨rfl, ⟨⟨trivial, .inr ⟨rfl, rfl, rfl⟩⟩, .inr ⟨rfl, rfl, rfl⟩⟩, by decide, rfl, ⟨trivial, rfl⟩⟩ rfl rfl)
end Go.Proofs.Ytpceecokdpdgfaa.W
