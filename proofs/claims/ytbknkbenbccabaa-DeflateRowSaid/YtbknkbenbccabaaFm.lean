/- More rounds tell the same. -/
import Derived.Test.YtbknkbenbccabaaFa
namespace Go.Proofs.Ytbknkbenbccabaa.W
open Go Go.Q Go.Proofs
set_option linter.unusedVariables false
set_option linter.unusedSimpArgs false
theorem g_deflate_Lengths_2_mono {k k' : Nat} (hk : k ≤ k') {x8 : Int} {x9 : (List Int)} : Le (g_deflate_Lengths_2 k x8 x9) (g_deflate_Lengths_2 k' x8 x9) := by
  unfold g_deflate_Lengths_2
  repeat' first | (with_reducible exact Le.rfl) | (with_reducible refine Le.bind ?_ ?_) | (with_reducible refine Le.cond ?_ ?_) | intro _ | split
theorem g_deflate_Lengths_1_mono {k k' : Nat} (hk : k ≤ k') {x96 : Int} {x97 : Int} : Le (g_deflate_Lengths_1 k x96 x97) (g_deflate_Lengths_1 k' x96 x97) := by
  unfold g_deflate_Lengths_1
  repeat' first | (with_reducible exact Le.rfl) | (with_reducible refine Le.bind ?_ ?_) | (with_reducible refine Le.cond ?_ ?_) | intro _ | split
theorem g_deflate_Lengths_1__b_mono {k k' : Nat} (hk : k ≤ k') {x139 : Int} {x140 : Int} {x141 : (List Int)} {x142 : (List Int)} : Le (g_deflate_Lengths_1__b k x139 x140 x141 x142) (g_deflate_Lengths_1__b k' x139 x140 x141 x142) := by
  unfold g_deflate_Lengths_1__b
  repeat' first | (with_reducible exact Le.rfl) | (with_reducible refine Le.bind ?_ ?_) | (with_reducible refine Le.cond ?_ ?_) | intro _ | split
theorem g_deflate_Lengths_1__c_mono {k k' : Nat} (hk : k ≤ k') {x249 : Int} {x250 : Int} {x251 : (List Int)} : Le (g_deflate_Lengths_1__c k x249 x250 x251) (g_deflate_Lengths_1__c k' x249 x250 x251) := by
  unfold g_deflate_Lengths_1__c
  repeat' first | (with_reducible exact Le.rfl) | (with_reducible refine Le.bind ?_ ?_) | (with_reducible refine Le.cond ?_ ?_) | intro _ | split
theorem g_deflate_Lengths_l1_mono {k k' : Nat} (hk : k ≤ k') {x4 : (List Int)} {x771 : Int} {x868 : Int} : ∀ {n n' : Nat} (hn : n ≤ n') {y0 : Int}, Le (g_deflate_Lengths_l1 k x4 x771 x868 n y0) (g_deflate_Lengths_l1 k' x4 x771 x868 n' y0)
  | 0, _, _ => Le.none rfl
  | n + 1, 0, h => absurd h (Nat.not_succ_le_zero n)
  | n + 1, n' + 1, hn => by
    rw [g_deflate_Lengths_l1.eq_2, g_deflate_Lengths_l1.eq_2]
    repeat' first | (with_reducible exact Le.rfl) | (with_reducible exact g_deflate_Lengths_2_mono hk) | (with_reducible exact g_deflate_Lengths_l1_eqs_mono hk) | (with_reducible exact g_deflate_Lengths_l1_mono hk (Nat.le_of_succ_le_succ hn)) | (with_reducible refine Le.bind ?_ ?_) | (with_reducible refine Le.cond ?_ ?_) | intro _ | split
theorem g_deflate_Lengths_l0_mono {k k' : Nat} (hk : k ≤ k') {x4 : (List Int)} : ∀ {n n' : Nat} (hn : n ≤ n') {y0 : Int} {y1 : (List Int)} {y2 : (List Int)}, Le (g_deflate_Lengths_l0 k x4 n y0 y1 y2) (g_deflate_Lengths_l0 k' x4 n' y0 y1 y2)
  | 0, _, _ => Le.none rfl
  | n + 1, 0, h => absurd h (Nat.not_succ_le_zero n)
  | n + 1, n' + 1, hn => by
    rw [g_deflate_Lengths_l0.eq_2, g_deflate_Lengths_l0.eq_2]
    repeat' first | (with_reducible exact Le.rfl) | (with_reducible exact g_deflate_Lengths_2_mono hk) | (with_reducible exact g_deflate_Lengths_l1_mono hk hk) | (with_reducible exact g_deflate_Lengths_1__b_mono hk) | (with_reducible exact g_deflate_Lengths_l0_eqs_mono hk) | (with_reducible exact g_deflate_Lengths_l0_mono hk (Nat.le_of_succ_le_succ hn)) | (with_reducible refine Le.bind ?_ ?_) | (with_reducible refine Le.cond ?_ ?_) | intro _ | split
theorem g_deflate_Lengths_mono {k k' : Nat} (hk : k ≤ k') {x4 : (List Int)} : Le (g_deflate_Lengths k x4) (g_deflate_Lengths k' x4) := by
  unfold g_deflate_Lengths
  repeat' first | (with_reducible exact Le.rfl) | (with_reducible exact g_deflate_Lengths_l0_mono hk hk) | (with_reducible refine Le.bind ?_ ?_) | (with_reducible refine Le.cond ?_ ?_) | intro _ | split
theorem g_quireref04_Row_l1_mono {k k' : Nat} (hk : k ≤ k') {x2786 : Int} {x2787 : Int} : ∀ {n n' : Nat} (hn : n ≤ n') {y0 : Int} {y1 : (List Int)}, Le (g_quireref04_Row_l1 k x2786 x2787 n y0 y1) (g_quireref04_Row_l1 k' x2786 x2787 n' y0 y1)
  | 0, _, _ => Le.none rfl
  | n + 1, 0, h => absurd h (Nat.not_succ_le_zero n)
  | n + 1, n' + 1, hn => by
    rw [g_quireref04_Row_l1.eq_2, g_quireref04_Row_l1.eq_2]
    repeat' first | (with_reducible exact Le.rfl) | (with_reducible exact g_quireref04_Row_l1_eqs_mono hk) | (with_reducible exact g_quireref04_Row_l1_mono hk (Nat.le_of_succ_le_succ hn)) | (with_reducible refine Le.bind ?_ ?_) | (with_reducible refine Le.cond ?_ ?_) | intro _ | split
theorem g_quireref04_Row_l0_mono {k k' : Nat} (hk : k ≤ k') {x978 : (List Int)} {x979 : (List Int)} : ∀ {n n' : Nat} (hn : n ≤ n') {y0 : Int} {y1 : (List Int)}, Le (g_quireref04_Row_l0 k x978 x979 n y0 y1) (g_quireref04_Row_l0 k' x978 x979 n' y0 y1)
  | 0, _, _ => Le.none rfl
  | n + 1, 0, h => absurd h (Nat.not_succ_le_zero n)
  | n + 1, n' + 1, hn => by
    rw [g_quireref04_Row_l0.eq_2, g_quireref04_Row_l0.eq_2]
    repeat' first | (with_reducible exact Le.rfl) | (with_reducible exact g_quireref04_Row_l1_mono hk hk) | (with_reducible exact g_quireref04_Row_l0_eqs_mono hk) | (with_reducible exact g_quireref04_Row_l0_mono hk (Nat.le_of_succ_le_succ hn)) | (with_reducible refine Le.bind ?_ ?_) | (with_reducible refine Le.cond ?_ ?_) | intro _ | split
theorem g_quireref04_Row_mono {k k' : Nat} (hk : k ≤ k') {x978 : (List Int)} {x979 : (List Int)} : Le (g_quireref04_Row k x978 x979) (g_quireref04_Row k' x978 x979) := by
  unfold g_quireref04_Row
  repeat' first | (with_reducible exact Le.rfl) | (with_reducible exact g_quireref04_Row_l0_mono hk hk) | (with_reducible refine Le.bind ?_ ?_) | (with_reducible refine Le.cond ?_ ?_) | intro _ | split
theorem g_bits_NewWriter_mono {k k' : Nat} (hk : k ≤ k') : Le (g_bits_NewWriter k) (g_bits_NewWriter k') := by
  unfold g_bits_NewWriter
  repeat' first | (with_reducible exact Le.rfl) | (with_reducible refine Le.bind ?_ ?_) | (with_reducible refine Le.cond ?_ ?_) | intro _ | split
theorem g_bits_each_mono {k k' : Nat} (hk : k ≤ k') {x2839 : Int} {x2840 : Int} : Le (g_bits_each k x2839 x2840) (g_bits_each k' x2839 x2840) := by
  unfold g_bits_each
  repeat' first | (with_reducible exact Le.rfl) | (with_reducible refine Le.bind ?_ ?_) | (with_reducible refine Le.cond ?_ ?_) | intro _ | split
theorem g_bits_Writer_Put_l0_mono {k k' : Nat} (hk : k ≤ k') {x2827 : Int} {x2828 : Int} : ∀ {n n' : Nat} (hn : n ≤ n') {y0 : Int} {y1 : Int} {y2 : (List Int)}, Le (g_bits_Writer_Put_l0 k x2827 x2828 n y0 y1 y2) (g_bits_Writer_Put_l0 k' x2827 x2828 n' y0 y1 y2)
  | 0, _, _ => Le.none rfl
  | n + 1, 0, h => absurd h (Nat.not_succ_le_zero n)
  | n + 1, n' + 1, hn => by
    rw [g_bits_Writer_Put_l0.eq_2, g_bits_Writer_Put_l0.eq_2]
    repeat' first | (with_reducible exact Le.rfl) | (with_reducible exact g_bits_Writer_Put_l0_eqs_mono hk) | (with_reducible exact g_bits_Writer_Put_l0_mono hk (Nat.le_of_succ_le_succ hn)) | (with_reducible refine Le.bind ?_ ?_) | (with_reducible refine Le.cond ?_ ?_) | intro _ | split
theorem g_bits_Writer_Put_mono {k k' : Nat} (hk : k ≤ k') {x2827 : Int} {x2828 : Int} {x2829 : Int} : Le (g_bits_Writer_Put k x2827 x2828 x2829) (g_bits_Writer_Put k' x2827 x2828 x2829) := by
  unfold g_bits_Writer_Put
  repeat' first | (with_reducible exact Le.rfl) | (with_reducible exact g_bits_each_mono hk) | (with_reducible exact g_bits_Writer_Put_l0_mono hk hk) | (with_reducible refine Le.bind ?_ ?_) | (with_reducible refine Le.cond ?_ ?_) | intro _ | split
theorem g_bits_Writer_Align_mono {k k' : Nat} (hk : k ≤ k') {x3263 : Int} {x3264 : (List Int)} : Le (g_bits_Writer_Align k x3263 x3264) (g_bits_Writer_Align k' x3263 x3264) := by
  unfold g_bits_Writer_Align
  repeat' first | (with_reducible exact Le.rfl) | (with_reducible refine Le.bind ?_ ?_) | (with_reducible refine Le.cond ?_ ?_) | intro _ | split
theorem g_bits_Writer_Put__b_l0_mono {k k' : Nat} (hk : k ≤ k') {x3271 : Int} {x3272 : Int} : ∀ {n n' : Nat} (hn : n ≤ n') {y0 : Int} {y1 : Int} {y2 : (List Int)}, Le (g_bits_Writer_Put__b_l0 k x3271 x3272 n y0 y1 y2) (g_bits_Writer_Put__b_l0 k' x3271 x3272 n' y0 y1 y2)
  | 0, _, _ => Le.none rfl
  | n + 1, 0, h => absurd h (Nat.not_succ_le_zero n)
  | n + 1, n' + 1, hn => by
    rw [g_bits_Writer_Put__b_l0.eq_2, g_bits_Writer_Put__b_l0.eq_2]
    repeat' first | (with_reducible exact Le.rfl) | (with_reducible exact g_bits_Writer_Put__b_l0_eqs_mono hk) | (with_reducible exact g_bits_Writer_Put__b_l0_mono hk (Nat.le_of_succ_le_succ hn)) | (with_reducible refine Le.bind ?_ ?_) | (with_reducible refine Le.cond ?_ ?_) | intro _ | split
theorem g_bits_Writer_Put__b_mono {k k' : Nat} (hk : k ≤ k') {x3271 : Int} {x3272 : Int} {x3273 : Int} {x3274 : (List Int)} : Le (g_bits_Writer_Put__b k x3271 x3272 x3273 x3274) (g_bits_Writer_Put__b k' x3271 x3272 x3273 x3274) := by
  unfold g_bits_Writer_Put__b
  repeat' first | (with_reducible exact Le.rfl) | (with_reducible exact g_bits_each_mono hk) | (with_reducible exact g_bits_Writer_Put__b_l0_mono hk hk) | (with_reducible refine Le.bind ?_ ?_) | (with_reducible refine Le.cond ?_ ?_) | intro _ | split
theorem g_bits_Writer_Bytes_mono {k k' : Nat} (hk : k ≤ k') {x3603 : (List Int)} {x3604 : Int} {x3605 : (List Int)} : Le (g_bits_Writer_Bytes k x3603 x3604 x3605) (g_bits_Writer_Bytes k' x3603 x3604 x3605) := by
  unfold g_bits_Writer_Bytes
  repeat' first | (with_reducible exact Le.rfl) | (with_reducible refine Le.bind ?_ ?_) | (with_reducible refine Le.cond ?_ ?_) | intro _ | split
theorem g_slices_Clone_byte_byte_mono {k k' : Nat} (hk : k ≤ k') {x3757 : (List Int)} : Le (g_slices_Clone_byte_byte k x3757) (g_slices_Clone_byte_byte k' x3757) := by
  unfold g_slices_Clone_byte_byte
  repeat' first | (with_reducible exact Le.rfl) | (with_reducible refine Le.bind ?_ ?_) | (with_reducible refine Le.cond ?_ ?_) | intro _ | split
theorem g_bits_Writer_Done_mono {k k' : Nat} (hk : k ≤ k') {x3754 : Int} {x3755 : (List Int)} : Le (g_bits_Writer_Done k x3754 x3755) (g_bits_Writer_Done k' x3754 x3755) := by
  unfold g_bits_Writer_Done
  repeat' first | (with_reducible exact Le.rfl) | (with_reducible exact g_slices_Clone_byte_byte_mono hk) | (with_reducible refine Le.bind ?_ ?_) | (with_reducible refine Le.cond ?_ ?_) | intro _ | split
theorem g_deflate_stored_l0_mono {k k' : Nat} (hk : k ≤ k') : ∀ {n n' : Nat} (hn : n ≤ n') {y0 : (List Int)} {y1 : Bool} {y2 : Int} {y3 : (List Int)}, Le (g_deflate_stored_l0 k n y0 y1 y2 y3) (g_deflate_stored_l0 k' n' y0 y1 y2 y3)
  | 0, _, _ => Le.none rfl
  | n + 1, 0, h => absurd h (Nat.not_succ_le_zero n)
  | n + 1, n' + 1, hn => by
    rw [g_deflate_stored_l0.eq_2, g_deflate_stored_l0.eq_2]
    repeat' first | (with_reducible exact Le.rfl) | (with_reducible exact g_bits_Writer_Put__b_mono hk) | (with_reducible exact g_bits_Writer_Align_mono hk) | (with_reducible exact g_bits_Writer_Bytes_mono hk) | (with_reducible exact g_deflate_stored_l0_eqs_mono hk) | (with_reducible exact g_deflate_stored_l0_mono hk (Nat.le_of_succ_le_succ hn)) | (with_reducible refine Le.bind ?_ ?_) | (with_reducible refine Le.cond ?_ ?_) | intro _ | split
theorem g_deflate_stored_mono {k k' : Nat} (hk : k ≤ k') {x2818 : (List Int)} : Le (g_deflate_stored k x2818) (g_deflate_stored k' x2818) := by
  unfold g_deflate_stored
  repeat' first | (with_reducible exact Le.rfl) | (with_reducible exact g_bits_NewWriter_mono hk) | (with_reducible exact g_deflate_stored_l0_mono hk hk) | (with_reducible exact g_bits_Writer_Done_mono hk) | (with_reducible refine Le.bind ?_ ?_) | (with_reducible refine Le.cond ?_ ?_) | intro _ | split
theorem g_deflate_Deflate_mono {k k' : Nat} (hk : k ≤ k') {x2805 : (List Int)} {x2806 : Int} : Le (g_deflate_Deflate k x2805 x2806) (g_deflate_Deflate k' x2805 x2806) := by
  unfold g_deflate_Deflate
  repeat' first | (with_reducible exact Le.rfl) | (with_reducible exact g_deflate_stored_mono hk) | (with_reducible refine Le.bind ?_ ?_) | (with_reducible refine Le.cond ?_ ?_) | intro _ | split
theorem g_quirelaw01_Same_mono {k k' : Nat} (hk : k ≤ k') {x4013 : (List Int)} {x4014 : (List Int)} : Le (g_quirelaw01_Same k x4013 x4014) (g_quirelaw01_Same k' x4013 x4014) := by
  unfold g_quirelaw01_Same
  repeat' first | (with_reducible exact Le.rfl) | (with_reducible refine Le.bind ?_ ?_) | (with_reducible refine Le.cond ?_ ?_) | intro _ | split
theorem g_quirelaw04_alive_mono {k k' : Nat} (hk : k ≤ k') : Le (g_quirelaw04_alive k) (g_quirelaw04_alive k') := by
  unfold g_quirelaw04_alive
  repeat' first | (with_reducible exact Le.rfl) | (with_reducible exact g_deflate_Deflate_mono hk) | (with_reducible exact g_quirelaw01_Same_mono hk) | (with_reducible refine Le.bind ?_ ?_) | (with_reducible refine Le.cond ?_ ?_) | intro _ | split
theorem g_quirelaw04_DeflateRow_l0_mono {k k' : Nat} (hk : k ≤ k') {x2 : (List Int)} {x4119 : (List Int)} : ∀ {n n' : Nat} (hn : n ≤ n') {y0 : Int}, Le (g_quirelaw04_DeflateRow_l0 k x2 x4119 n y0) (g_quirelaw04_DeflateRow_l0 k' x2 x4119 n' y0)
  | 0, _, _ => Le.none rfl
  | n + 1, 0, h => absurd h (Nat.not_succ_le_zero n)
  | n + 1, n' + 1, hn => by
    rw [g_quirelaw04_DeflateRow_l0.eq_2, g_quirelaw04_DeflateRow_l0.eq_2]
    repeat' first | (with_reducible exact Le.rfl) | (with_reducible exact g_quirelaw04_DeflateRow_l0_eqs_mono hk) | (with_reducible exact g_quirelaw04_DeflateRow_l0_mono hk (Nat.le_of_succ_le_succ hn)) | (with_reducible refine Le.bind ?_ ?_) | (with_reducible refine Le.cond ?_ ?_) | intro _ | split
theorem g_quirelaw04_DeflateRow_mono {k k' : Nat} (hk : k ≤ k') {x2 : (List Int)} : Le (g_quirelaw04_DeflateRow k x2) (g_quirelaw04_DeflateRow k' x2) := by
  unfold g_quirelaw04_DeflateRow
  repeat' first | (with_reducible exact Le.rfl) | (with_reducible exact g_deflate_Lengths_mono hk) | (with_reducible exact g_quireref04_Row_mono hk) | (with_reducible exact g_quirelaw04_alive_mono hk) | (with_reducible exact g_quirelaw04_DeflateRow_l0_mono hk hk) | (with_reducible refine Le.bind ?_ ?_) | (with_reducible refine Le.cond ?_ ?_) | intro _ | split
theorem g_deflate_Unparse_l1_mono {k k' : Nat} (hk : k ≤ k') {x4777 : S_deflate_Item} : ∀ {n n' : Nat} (hn : n ≤ n') {y0 : Int} {y1 : (List Int)}, Le (g_deflate_Unparse_l1 k x4777 n y0 y1) (g_deflate_Unparse_l1 k' x4777 n' y0 y1)
  | 0, _, _ => Le.none rfl
  | n + 1, 0, h => absurd h (Nat.not_succ_le_zero n)
  | n + 1, n' + 1, hn => by
    rw [g_deflate_Unparse_l1.eq_2, g_deflate_Unparse_l1.eq_2]
    repeat' first | (with_reducible exact Le.rfl) | (with_reducible exact g_deflate_Unparse_l1_eqs_mono hk) | (with_reducible exact g_deflate_Unparse_l1_mono hk (Nat.le_of_succ_le_succ hn)) | (with_reducible refine Le.bind ?_ ?_) | (with_reducible refine Le.cond ?_ ?_) | intro _ | split
theorem g_deflate_Unparse_l0_mono {k k' : Nat} (hk : k ≤ k') {x4263 : (List S_deflate_Item)} : ∀ {n n' : Nat} (hn : n ≤ n') {y0 : Int} {y1 : (List Int)}, Le (g_deflate_Unparse_l0 k x4263 n y0 y1) (g_deflate_Unparse_l0 k' x4263 n' y0 y1)
  | 0, _, _ => Le.none rfl
  | n + 1, 0, h => absurd h (Nat.not_succ_le_zero n)
  | n + 1, n' + 1, hn => by
    rw [g_deflate_Unparse_l0.eq_2, g_deflate_Unparse_l0.eq_2]
    repeat' first | (with_reducible exact Le.rfl) | (with_reducible exact g_deflate_Unparse_l1_mono hk hk) | (with_reducible exact g_deflate_Unparse_l0_eqs_mono hk) | (with_reducible exact g_deflate_Unparse_l0_mono hk (Nat.le_of_succ_le_succ hn)) | (with_reducible refine Le.bind ?_ ?_) | (with_reducible refine Le.cond ?_ ?_) | intro _ | split
theorem g_deflate_Unparse_mono {k k' : Nat} (hk : k ≤ k') {x4263 : (List S_deflate_Item)} : Le (g_deflate_Unparse k x4263) (g_deflate_Unparse k' x4263) := by
  unfold g_deflate_Unparse
  repeat' first | (with_reducible exact Le.rfl) | (with_reducible exact g_deflate_Unparse_l0_mono hk hk) | (with_reducible refine Le.bind ?_ ?_) | (with_reducible refine Le.cond ?_ ?_) | intro _ | split
theorem g_quireref04_Unparse_l1_mono {k k' : Nat} (hk : k ≤ k') {x5945 : S_quireref04_Item} : ∀ {n n' : Nat} (hn : n ≤ n') {y0 : Int} {y1 : (List Int)}, Le (g_quireref04_Unparse_l1 k x5945 n y0 y1) (g_quireref04_Unparse_l1 k' x5945 n' y0 y1)
  | 0, _, _ => Le.none rfl
  | n + 1, 0, h => absurd h (Nat.not_succ_le_zero n)
  | n + 1, n' + 1, hn => by
    rw [g_quireref04_Unparse_l1.eq_2, g_quireref04_Unparse_l1.eq_2]
    repeat' first | (with_reducible exact Le.rfl) | (with_reducible exact g_quireref04_Unparse_l1_eqs_mono hk) | (with_reducible exact g_quireref04_Unparse_l1_mono hk (Nat.le_of_succ_le_succ hn)) | (with_reducible refine Le.bind ?_ ?_) | (with_reducible refine Le.cond ?_ ?_) | intro _ | split
theorem g_quireref04_Unparse_l0_mono {k k' : Nat} (hk : k ≤ k') {x4827 : (List S_quireref04_Item)} : ∀ {n n' : Nat} (hn : n ≤ n') {y0 : Int} {y1 : (List Int)}, Le (g_quireref04_Unparse_l0 k x4827 n y0 y1) (g_quireref04_Unparse_l0 k' x4827 n' y0 y1)
  | 0, _, _ => Le.none rfl
  | n + 1, 0, h => absurd h (Nat.not_succ_le_zero n)
  | n + 1, n' + 1, hn => by
    rw [g_quireref04_Unparse_l0.eq_2, g_quireref04_Unparse_l0.eq_2]
    repeat' first | (with_reducible exact Le.rfl) | (with_reducible exact g_quireref04_Unparse_l1_mono hk hk) | (with_reducible exact g_quireref04_Unparse_l0_eqs_mono hk) | (with_reducible exact g_quireref04_Unparse_l0_mono hk (Nat.le_of_succ_le_succ hn)) | (with_reducible refine Le.bind ?_ ?_) | (with_reducible refine Le.cond ?_ ?_) | intro _ | split
theorem g_quireref04_Unparse_mono {k k' : Nat} (hk : k ≤ k') {x4827 : (List S_quireref04_Item)} : Le (g_quireref04_Unparse k x4827) (g_quireref04_Unparse k' x4827) := by
  unfold g_quireref04_Unparse
  repeat' first | (with_reducible exact Le.rfl) | (with_reducible exact g_quireref04_Unparse_l0_mono hk hk) | (with_reducible refine Le.bind ?_ ?_) | (with_reducible refine Le.cond ?_ ?_) | intro _ | split
theorem g_quirelaw04_DeflateUnparse_l0_mono {k k' : Nat} (hk : k ≤ k') {x4227 : (List S_quireref04_Item)} : ∀ {n n' : Nat} (hn : n ≤ n') {y0 : Int} {y1 : (List S_deflate_Item)}, Le (g_quirelaw04_DeflateUnparse_l0 k x4227 n y0 y1) (g_quirelaw04_DeflateUnparse_l0 k' x4227 n' y0 y1)
  | 0, _, _ => Le.none rfl
  | n + 1, 0, h => absurd h (Nat.not_succ_le_zero n)
  | n + 1, n' + 1, hn => by
    rw [g_quirelaw04_DeflateUnparse_l0.eq_2, g_quirelaw04_DeflateUnparse_l0.eq_2]
    repeat' first | (with_reducible exact Le.rfl) | (with_reducible exact g_quirelaw04_DeflateUnparse_l0_eqs_mono hk) | (with_reducible exact g_quirelaw04_DeflateUnparse_l0_mono hk (Nat.le_of_succ_le_succ hn)) | (with_reducible refine Le.bind ?_ ?_) | (with_reducible refine Le.cond ?_ ?_) | intro _ | split
theorem g_quirelaw04_DeflateUnparse_mono {k k' : Nat} (hk : k ≤ k') {x4227 : (List S_quireref04_Item)} : Le (g_quirelaw04_DeflateUnparse k x4227) (g_quirelaw04_DeflateUnparse k' x4227) := by
  unfold g_quirelaw04_DeflateUnparse
  repeat' first | (with_reducible exact Le.rfl) | (with_reducible exact g_quirelaw04_DeflateUnparse_l0_mono hk hk) | (with_reducible exact g_deflate_Unparse_mono hk) | (with_reducible exact g_quireref04_Unparse_mono hk) | (with_reducible exact g_quirelaw01_Same_mono hk) | (with_reducible exact g_quirelaw04_alive_mono hk) | (with_reducible refine Le.bind ?_ ?_) | (with_reducible refine Le.cond ?_ ?_) | intro _ | split
end Go.Proofs.Ytbknkbenbccabaa.W
