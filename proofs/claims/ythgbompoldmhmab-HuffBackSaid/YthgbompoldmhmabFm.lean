/- More rounds tell the same. -/
import Derived.Test.YthgbompoldmhmabFa
namespace Go.Proofs.Ythgbompoldmhmab.W
open Go Go.Q Go.Proofs
set_option linter.unusedVariables false
set_option linter.unusedSimpArgs false
theorem g_huff_judged_l0_mono {k k' : Nat} (hk : k ≤ k') {x8 : (List Int)} : ∀ {n n' : Nat} (hn : n ≤ n') {y0 : Int} {y1 : Int} {y2 : Int}, Le (g_huff_judged_l0 k x8 n y0 y1 y2) (g_huff_judged_l0 k' x8 n' y0 y1 y2)
  | 0, _, _ => Le.none rfl
  | n + 1, 0, h => absurd h (Nat.not_succ_le_zero n)
  | n + 1, n' + 1, hn => by
    rw [g_huff_judged_l0.eq_2, g_huff_judged_l0.eq_2]
    repeat' first | (with_reducible exact Le.rfl) | (with_reducible exact g_huff_judged_l0_eqs_mono hk) | (with_reducible exact g_huff_judged_l0_mono hk (Nat.le_of_succ_le_succ hn)) | (with_reducible refine Le.bind ?_ ?_) | (with_reducible refine Le.cond ?_ ?_) | intro _ | split
theorem g_huff_judged_mono {k k' : Nat} (hk : k ≤ k') {x8 : (List Int)} : Le (g_huff_judged k x8) (g_huff_judged k' x8) := by
  unfold g_huff_judged
  repeat' first | (with_reducible exact Le.rfl) | (with_reducible exact g_huff_judged_l0_mono hk hk) | (with_reducible refine Le.bind ?_ ?_) | (with_reducible refine Le.cond ?_ ?_) | intro _ | split
theorem g_huff_of_mono {k k' : Nat} (hk : k ≤ k') {x188 : (List Int)} {x189 : Int} : Le (g_huff_of k x188 x189) (g_huff_of k' x188 x189) := by
  unfold g_huff_of
  repeat' first | (with_reducible exact Le.rfl) | (with_reducible refine Le.bind ?_ ?_) | (with_reducible refine Le.cond ?_ ?_) | intro _ | split
theorem g_huff_Codes_l1_mono {k k' : Nat} (hk : k ≤ k') {x6 : (List Int)} {x510 : Int} : ∀ {n n' : Nat} (hn : n ≤ n') {y0 : Int} {y1 : (List Int)} {y2 : Int}, Le (g_huff_Codes_l1 k x6 x510 n y0 y1 y2) (g_huff_Codes_l1 k' x6 x510 n' y0 y1 y2)
  | 0, _, _ => Le.none rfl
  | n + 1, 0, h => absurd h (Nat.not_succ_le_zero n)
  | n + 1, n' + 1, hn => by
    rw [g_huff_Codes_l1.eq_2, g_huff_Codes_l1.eq_2]
    repeat' first | (with_reducible exact Le.rfl) | (with_reducible exact g_huff_Codes_l1_eqs_mono hk) | (with_reducible exact g_huff_Codes_l1_mono hk (Nat.le_of_succ_le_succ hn)) | (with_reducible refine Le.bind ?_ ?_) | (with_reducible refine Le.cond ?_ ?_) | intro _ | split
theorem g_huff_Codes_l0_mono {k k' : Nat} (hk : k ≤ k') {x6 : (List Int)} : ∀ {n n' : Nat} (hn : n ≤ n') {y0 : Int} {y1 : (List Int)} {y2 : Int}, Le (g_huff_Codes_l0 k x6 n y0 y1 y2) (g_huff_Codes_l0 k' x6 n' y0 y1 y2)
  | 0, _, _ => Le.none rfl
  | n + 1, 0, h => absurd h (Nat.not_succ_le_zero n)
  | n + 1, n' + 1, hn => by
    rw [g_huff_Codes_l0.eq_2, g_huff_Codes_l0.eq_2]
    repeat' first | (with_reducible exact Le.rfl) | (with_reducible exact g_huff_of_mono hk) | (with_reducible exact g_huff_Codes_l1_mono hk hk) | (with_reducible exact g_huff_Codes_l0_eqs_mono hk) | (with_reducible exact g_huff_Codes_l0_mono hk (Nat.le_of_succ_le_succ hn)) | (with_reducible refine Le.bind ?_ ?_) | (with_reducible refine Le.cond ?_ ?_) | intro _ | split
theorem g_huff_Codes_mono {k k' : Nat} (hk : k ≤ k') {x6 : (List Int)} : Le (g_huff_Codes k x6) (g_huff_Codes k' x6) := by
  unfold g_huff_Codes
  repeat' first | (with_reducible exact Le.rfl) | (with_reducible exact g_huff_judged_mono hk) | (with_reducible exact g_huff_Codes_l0_mono hk hk) | (with_reducible refine Le.bind ?_ ?_) | (with_reducible refine Le.cond ?_ ?_) | intro _ | split
theorem g_huff_New_l1_mono {k k' : Nat} (hk : k ≤ k') {x663 : (List Int)} {x1315 : Int} : ∀ {n n' : Nat} (hn : n ≤ n') {y0 : Int} {y1 : (List Int)} {y2 : (List Int)}, Le (g_huff_New_l1 k x663 x1315 n y0 y1 y2) (g_huff_New_l1 k' x663 x1315 n' y0 y1 y2)
  | 0, _, _ => Le.none rfl
  | n + 1, 0, h => absurd h (Nat.not_succ_le_zero n)
  | n + 1, n' + 1, hn => by
    rw [g_huff_New_l1.eq_2, g_huff_New_l1.eq_2]
    repeat' first | (with_reducible exact Le.rfl) | (with_reducible exact g_huff_New_l1_eqs_mono hk) | (with_reducible exact g_huff_New_l1_mono hk (Nat.le_of_succ_le_succ hn)) | (with_reducible refine Le.bind ?_ ?_) | (with_reducible refine Le.cond ?_ ?_) | intro _ | split
theorem g_huff_New_l0_mono {k k' : Nat} (hk : k ≤ k') {x663 : (List Int)} : ∀ {n n' : Nat} (hn : n ≤ n') {y0 : (List Int)} {y1 : (List Int)} {y2 : Int}, Le (g_huff_New_l0 k x663 n y0 y1 y2) (g_huff_New_l0 k' x663 n' y0 y1 y2)
  | 0, _, _ => Le.none rfl
  | n + 1, 0, h => absurd h (Nat.not_succ_le_zero n)
  | n + 1, n' + 1, hn => by
    rw [g_huff_New_l0.eq_2, g_huff_New_l0.eq_2]
    repeat' first | (with_reducible exact Le.rfl) | (with_reducible exact g_huff_of_mono hk) | (with_reducible exact g_huff_New_l1_mono hk hk) | (with_reducible exact g_huff_New_l0_eqs_mono hk) | (with_reducible exact g_huff_New_l0_mono hk (Nat.le_of_succ_le_succ hn)) | (with_reducible refine Le.bind ?_ ?_) | (with_reducible refine Le.cond ?_ ?_) | intro _ | split
theorem g_huff_New_mono {k k' : Nat} (hk : k ≤ k') {x663 : (List Int)} : Le (g_huff_New k x663) (g_huff_New k' x663) := by
  unfold g_huff_New
  repeat' first | (with_reducible exact Le.rfl) | (with_reducible exact g_huff_judged_mono hk) | (with_reducible exact g_huff_New_l0_mono hk hk) | (with_reducible refine Le.bind ?_ ?_) | (with_reducible refine Le.cond ?_ ?_) | intro _ | split
theorem g_cmp_isNaN_int_mono {k k' : Nat} (hk : k ≤ k') {x2501 : Int} : Le (g_cmp_isNaN_int k x2501) (g_cmp_isNaN_int k' x2501) := by
  unfold g_cmp_isNaN_int
  repeat' first | (with_reducible exact Le.rfl) | (with_reducible refine Le.bind ?_ ?_) | (with_reducible refine Le.cond ?_ ?_) | intro _ | split
theorem g_cmp_Compare_int_mono {k k' : Nat} (hk : k ≤ k') {x2498 : Int} {x2499 : Int} : Le (g_cmp_Compare_int k x2498 x2499) (g_cmp_Compare_int k' x2498 x2499) := by
  unfold g_cmp_Compare_int
  repeat' first | (with_reducible exact Le.rfl) | (with_reducible exact g_cmp_isNaN_int_mono hk) | (with_reducible refine Le.bind ?_ ?_) | (with_reducible refine Le.cond ?_ ?_) | intro _ | split
theorem g_huff_Lengths_1_mono {k k' : Nat} (hk : k ≤ k') {x2493 : Int} {x2494 : (List Int)} {x2495 : Int} {x2496 : (List Int)} : Le (g_huff_Lengths_1 k x2493 x2494 x2495 x2496) (g_huff_Lengths_1 k' x2493 x2494 x2495 x2496) := by
  unfold g_huff_Lengths_1
  repeat' first | (with_reducible exact Le.rfl) | (with_reducible exact g_cmp_Compare_int_mono hk) | (with_reducible refine Le.bind ?_ ?_) | (with_reducible refine Le.cond ?_ ?_) | intro _ | split
theorem g_slices_insertionSortCmpFunc_huff_coin_l1_mono {k k' : Nat} (hk : k ≤ k') {x2477 : Int} : ∀ {n n' : Nat} (hn : n ≤ n') {y0 : Int} {y1 : (List S_huff_coin)}, Le (g_slices_insertionSortCmpFunc_huff_coin_l1 k x2477 n y0 y1) (g_slices_insertionSortCmpFunc_huff_coin_l1 k' x2477 n' y0 y1)
  | 0, _, _ => Le.none rfl
  | n + 1, 0, h => absurd h (Nat.not_succ_le_zero n)
  | n + 1, n' + 1, hn => by
    rw [g_slices_insertionSortCmpFunc_huff_coin_l1.eq_2, g_slices_insertionSortCmpFunc_huff_coin_l1.eq_2]
    repeat' first | (with_reducible exact Le.rfl) | (with_reducible exact g_huff_Lengths_1_mono hk) | (with_reducible exact g_slices_insertionSortCmpFunc_huff_coin_l1_eqs_mono hk) | (with_reducible exact g_slices_insertionSortCmpFunc_huff_coin_l1_mono hk (Nat.le_of_succ_le_succ hn)) | (with_reducible refine Le.bind ?_ ?_) | (with_reducible refine Le.cond ?_ ?_) | intro _ | split
theorem g_slices_insertionSortCmpFunc_huff_coin_l0_mono {k k' : Nat} (hk : k ≤ k') {x2477 : Int} {x2478 : Int} : ∀ {n n' : Nat} (hn : n ≤ n') {y0 : Int} {y1 : (List S_huff_coin)}, Le (g_slices_insertionSortCmpFunc_huff_coin_l0 k x2477 x2478 n y0 y1) (g_slices_insertionSortCmpFunc_huff_coin_l0 k' x2477 x2478 n' y0 y1)
  | 0, _, _ => Le.none rfl
  | n + 1, 0, h => absurd h (Nat.not_succ_le_zero n)
  | n + 1, n' + 1, hn => by
    rw [g_slices_insertionSortCmpFunc_huff_coin_l0.eq_2, g_slices_insertionSortCmpFunc_huff_coin_l0.eq_2]
    repeat' first | (with_reducible exact Le.rfl) | (with_reducible exact g_slices_insertionSortCmpFunc_huff_coin_l1_mono hk hk) | (with_reducible exact g_slices_insertionSortCmpFunc_huff_coin_l0_eqs_mono hk) | (with_reducible exact g_slices_insertionSortCmpFunc_huff_coin_l0_mono hk (Nat.le_of_succ_le_succ hn)) | (with_reducible refine Le.bind ?_ ?_) | (with_reducible refine Le.cond ?_ ?_) | intro _ | split
theorem g_slices_insertionSortCmpFunc_huff_coin_mono {k k' : Nat} (hk : k ≤ k') {x2477 : Int} {x2478 : Int} {x2479 : (List S_huff_coin)} : Le (g_slices_insertionSortCmpFunc_huff_coin k x2477 x2478 x2479) (g_slices_insertionSortCmpFunc_huff_coin k' x2477 x2478 x2479) := by
  unfold g_slices_insertionSortCmpFunc_huff_coin
  repeat' first | (with_reducible exact Le.rfl) | (with_reducible exact g_slices_insertionSortCmpFunc_huff_coin_l0_mono hk hk) | (with_reducible refine Le.bind ?_ ?_) | (with_reducible refine Le.cond ?_ ?_) | intro _ | split
theorem g_slices_swapRangeCmpFunc_huff_coin_l0_mono {k k' : Nat} (hk : k ≤ k') {x3680 : Int} {x3681 : Int} {x3682 : Int} : ∀ {n n' : Nat} (hn : n ≤ n') {y0 : Int} {y1 : (List S_huff_coin)}, Le (g_slices_swapRangeCmpFunc_huff_coin_l0 k x3680 x3681 x3682 n y0 y1) (g_slices_swapRangeCmpFunc_huff_coin_l0 k' x3680 x3681 x3682 n' y0 y1)
  | 0, _, _ => Le.none rfl
  | n + 1, 0, h => absurd h (Nat.not_succ_le_zero n)
  | n + 1, n' + 1, hn => by
    rw [g_slices_swapRangeCmpFunc_huff_coin_l0.eq_2, g_slices_swapRangeCmpFunc_huff_coin_l0.eq_2]
    repeat' first | (with_reducible exact Le.rfl) | (with_reducible exact g_slices_swapRangeCmpFunc_huff_coin_l0_eqs_mono hk) | (with_reducible exact g_slices_swapRangeCmpFunc_huff_coin_l0_mono hk (Nat.le_of_succ_le_succ hn)) | (with_reducible refine Le.bind ?_ ?_) | (with_reducible refine Le.cond ?_ ?_) | intro _ | split
theorem g_slices_swapRangeCmpFunc_huff_coin_mono {k k' : Nat} (hk : k ≤ k') {x3680 : Int} {x3681 : Int} {x3682 : Int} {x3683 : (List S_huff_coin)} : Le (g_slices_swapRangeCmpFunc_huff_coin k x3680 x3681 x3682 x3683) (g_slices_swapRangeCmpFunc_huff_coin k' x3680 x3681 x3682 x3683) := by
  unfold g_slices_swapRangeCmpFunc_huff_coin
  repeat' first | (with_reducible exact Le.rfl) | (with_reducible exact g_slices_swapRangeCmpFunc_huff_coin_l0_mono hk hk) | (with_reducible refine Le.bind ?_ ?_) | (with_reducible refine Le.cond ?_ ?_) | intro _ | split
theorem g_slices_rotateCmpFunc_huff_coin_l0_mono {k k' : Nat} (hk : k ≤ k') {x3672 : Int} : ∀ {n n' : Nat} (hn : n ≤ n') {y0 : Int} {y1 : Int} {y2 : (List S_huff_coin)}, Le (g_slices_rotateCmpFunc_huff_coin_l0 k x3672 n y0 y1 y2) (g_slices_rotateCmpFunc_huff_coin_l0 k' x3672 n' y0 y1 y2)
  | 0, _, _ => Le.none rfl
  | n + 1, 0, h => absurd h (Nat.not_succ_le_zero n)
  | n + 1, n' + 1, hn => by
    rw [g_slices_rotateCmpFunc_huff_coin_l0.eq_2, g_slices_rotateCmpFunc_huff_coin_l0.eq_2]
    repeat' first | (with_reducible exact Le.rfl) | (with_reducible exact g_slices_swapRangeCmpFunc_huff_coin_mono hk) | (with_reducible exact g_slices_rotateCmpFunc_huff_coin_l0_eqs_mono hk) | (with_reducible exact g_slices_rotateCmpFunc_huff_coin_l0_mono hk (Nat.le_of_succ_le_succ hn)) | (with_reducible refine Le.bind ?_ ?_) | (with_reducible refine Le.cond ?_ ?_) | intro _ | split
theorem g_slices_rotateCmpFunc_huff_coin_mono {k k' : Nat} (hk : k ≤ k') {x3671 : Int} {x3672 : Int} {x3673 : Int} {x3674 : (List S_huff_coin)} : Le (g_slices_rotateCmpFunc_huff_coin k x3671 x3672 x3673 x3674) (g_slices_rotateCmpFunc_huff_coin k' x3671 x3672 x3673 x3674) := by
  unfold g_slices_rotateCmpFunc_huff_coin
  repeat' first | (with_reducible exact Le.rfl) | (with_reducible exact g_slices_rotateCmpFunc_huff_coin_l0_mono hk hk) | (with_reducible exact g_slices_swapRangeCmpFunc_huff_coin_mono hk) | (with_reducible refine Le.bind ?_ ?_) | (with_reducible refine Le.cond ?_ ?_) | intro _ | split
theorem g_slices_symMergeCmpFunc_huff_coin_l0_mono {k k' : Nat} (hk : k ≤ k') {x3375 : Int} {x3378 : (List S_huff_coin)} : ∀ {n n' : Nat} (hn : n ≤ n') {y0 : Int} {y1 : Int}, Le (g_slices_symMergeCmpFunc_huff_coin_l0 k x3375 x3378 n y0 y1) (g_slices_symMergeCmpFunc_huff_coin_l0 k' x3375 x3378 n' y0 y1)
  | 0, _, _ => Le.none rfl
  | n + 1, 0, h => absurd h (Nat.not_succ_le_zero n)
  | n + 1, n' + 1, hn => by
    rw [g_slices_symMergeCmpFunc_huff_coin_l0.eq_2, g_slices_symMergeCmpFunc_huff_coin_l0.eq_2]
    repeat' first | (with_reducible exact Le.rfl) | (with_reducible exact g_huff_Lengths_1_mono hk) | (with_reducible exact g_slices_symMergeCmpFunc_huff_coin_l0_eqs_mono hk) | (with_reducible exact g_slices_symMergeCmpFunc_huff_coin_l0_mono hk (Nat.le_of_succ_le_succ hn)) | (with_reducible refine Le.bind ?_ ?_) | (with_reducible refine Le.cond ?_ ?_) | intro _ | split
theorem g_slices_symMergeCmpFunc_huff_coin_l1_mono {k k' : Nat} (hk : k ≤ k') {x4271 : Int} : ∀ {n n' : Nat} (hn : n ≤ n') {y0 : Int} {y1 : (List S_huff_coin)}, Le (g_slices_symMergeCmpFunc_huff_coin_l1 k x4271 n y0 y1) (g_slices_symMergeCmpFunc_huff_coin_l1 k' x4271 n' y0 y1)
  | 0, _, _ => Le.none rfl
  | n + 1, 0, h => absurd h (Nat.not_succ_le_zero n)
  | n + 1, n' + 1, hn => by
    rw [g_slices_symMergeCmpFunc_huff_coin_l1.eq_2, g_slices_symMergeCmpFunc_huff_coin_l1.eq_2]
    repeat' first | (with_reducible exact Le.rfl) | (with_reducible exact g_slices_symMergeCmpFunc_huff_coin_l1_eqs_mono hk) | (with_reducible exact g_slices_symMergeCmpFunc_huff_coin_l1_mono hk (Nat.le_of_succ_le_succ hn)) | (with_reducible refine Le.bind ?_ ?_) | (with_reducible refine Le.cond ?_ ?_) | intro _ | split
theorem g_slices_symMergeCmpFunc_huff_coin_l2_mono {k k' : Nat} (hk : k ≤ k') {x3376 : Int} {x3378 : (List S_huff_coin)} : ∀ {n n' : Nat} (hn : n ≤ n') {y0 : Int} {y1 : Int}, Le (g_slices_symMergeCmpFunc_huff_coin_l2 k x3376 x3378 n y0 y1) (g_slices_symMergeCmpFunc_huff_coin_l2 k' x3376 x3378 n' y0 y1)
  | 0, _, _ => Le.none rfl
  | n + 1, 0, h => absurd h (Nat.not_succ_le_zero n)
  | n + 1, n' + 1, hn => by
    rw [g_slices_symMergeCmpFunc_huff_coin_l2.eq_2, g_slices_symMergeCmpFunc_huff_coin_l2.eq_2]
    repeat' first | (with_reducible exact Le.rfl) | (with_reducible exact g_huff_Lengths_1_mono hk) | (with_reducible exact g_slices_symMergeCmpFunc_huff_coin_l2_eqs_mono hk) | (with_reducible exact g_slices_symMergeCmpFunc_huff_coin_l2_mono hk (Nat.le_of_succ_le_succ hn)) | (with_reducible refine Le.bind ?_ ?_) | (with_reducible refine Le.cond ?_ ?_) | intro _ | split
theorem g_slices_symMergeCmpFunc_huff_coin_l3_mono {k k' : Nat} (hk : k ≤ k') {x4420 : Int} : ∀ {n n' : Nat} (hn : n ≤ n') {y0 : Int} {y1 : (List S_huff_coin)}, Le (g_slices_symMergeCmpFunc_huff_coin_l3 k x4420 n y0 y1) (g_slices_symMergeCmpFunc_huff_coin_l3 k' x4420 n' y0 y1)
  | 0, _, _ => Le.none rfl
  | n + 1, 0, h => absurd h (Nat.not_succ_le_zero n)
  | n + 1, n' + 1, hn => by
    rw [g_slices_symMergeCmpFunc_huff_coin_l3.eq_2, g_slices_symMergeCmpFunc_huff_coin_l3.eq_2]
    repeat' first | (with_reducible exact Le.rfl) | (with_reducible exact g_slices_symMergeCmpFunc_huff_coin_l3_eqs_mono hk) | (with_reducible exact g_slices_symMergeCmpFunc_huff_coin_l3_mono hk (Nat.le_of_succ_le_succ hn)) | (with_reducible refine Le.bind ?_ ?_) | (with_reducible refine Le.cond ?_ ?_) | intro _ | split
theorem g_slices_symMergeCmpFunc_huff_coin_l4_mono {k k' : Nat} (hk : k ≤ k') {x3378 : (List S_huff_coin)} {x4478 : Int} : ∀ {n n' : Nat} (hn : n ≤ n') {y0 : Int} {y1 : Int}, Le (g_slices_symMergeCmpFunc_huff_coin_l4 k x3378 x4478 n y0 y1) (g_slices_symMergeCmpFunc_huff_coin_l4 k' x3378 x4478 n' y0 y1)
  | 0, _, _ => Le.none rfl
  | n + 1, 0, h => absurd h (Nat.not_succ_le_zero n)
  | n + 1, n' + 1, hn => by
    rw [g_slices_symMergeCmpFunc_huff_coin_l4.eq_2, g_slices_symMergeCmpFunc_huff_coin_l4.eq_2]
    repeat' first | (with_reducible exact Le.rfl) | (with_reducible exact g_huff_Lengths_1_mono hk) | (with_reducible exact g_slices_symMergeCmpFunc_huff_coin_l4_eqs_mono hk) | (with_reducible exact g_slices_symMergeCmpFunc_huff_coin_l4_mono hk (Nat.le_of_succ_le_succ hn)) | (with_reducible refine Le.bind ?_ ?_) | (with_reducible refine Le.cond ?_ ?_) | intro _ | split
theorem h_slices_symMergeCmpFunc_huff_coin_mono {rc3379 rc3379' : Int → Int → Int → (List S_huff_coin) → Option (List S_huff_coin)} (hrc3379 : ∀ (x3375 : Int) (x3376 : Int) (x3377 : Int) (x3378 : (List S_huff_coin)), Le (rc3379 x3375 x3376 x3377 x3378) (rc3379' x3375 x3376 x3377 x3378)) {k k' : Nat} (hk : k ≤ k') {x3375 : Int} {x3376 : Int} {x3377 : Int} {x3378 : (List S_huff_coin)} : Le (h_slices_symMergeCmpFunc_huff_coin rc3379 k x3375 x3376 x3377 x3378) (h_slices_symMergeCmpFunc_huff_coin rc3379' k' x3375 x3376 x3377 x3378) := by
  unfold h_slices_symMergeCmpFunc_huff_coin
  repeat' first | (with_reducible exact Le.rfl) | (with_reducible exact g_slices_symMergeCmpFunc_huff_coin_l0_mono hk hk) | (with_reducible exact g_slices_symMergeCmpFunc_huff_coin_l1_mono hk hk) | (with_reducible exact g_slices_symMergeCmpFunc_huff_coin_l2_mono hk hk) | (with_reducible exact g_slices_symMergeCmpFunc_huff_coin_l3_mono hk hk) | (with_reducible exact g_slices_symMergeCmpFunc_huff_coin_l4_mono hk hk) | (with_reducible exact g_slices_rotateCmpFunc_huff_coin_mono hk) | (with_reducible exact hrc3379 _ _ _ _) | (with_reducible refine Le.bind ?_ ?_) | (with_reducible refine Le.cond ?_ ?_) | intro _ | split
theorem g_slices_symMergeCmpFunc_huff_coin_mono : ∀ {k k' : Nat} (hk : k ≤ k') {x3375 : Int} {x3376 : Int} {x3377 : Int} {x3378 : (List S_huff_coin)}, Le (g_slices_symMergeCmpFunc_huff_coin k x3375 x3376 x3377 x3378) (g_slices_symMergeCmpFunc_huff_coin k' x3375 x3376 x3377 x3378)
  | 0, _, _ => Le.none rfl
  | k + 1, 0, h => absurd h (Nat.not_succ_le_zero k)
  | k + 1, k' + 1, h => h_slices_symMergeCmpFunc_huff_coin_mono (fun _ _ _ _ => (g_slices_symMergeCmpFunc_huff_coin_mono (Nat.le_of_succ_le_succ h))) (Nat.le_of_succ_le_succ h)
theorem g_slices_stableCmpFunc_huff_coin_l0_mono {k k' : Nat} (hk : k ≤ k') {x2474 : Int} : ∀ {n n' : Nat} (hn : n ≤ n') {y0 : Int} {y1 : Int} {y2 : (List S_huff_coin)}, Le (g_slices_stableCmpFunc_huff_coin_l0 k x2474 n y0 y1 y2) (g_slices_stableCmpFunc_huff_coin_l0 k' x2474 n' y0 y1 y2)
  | 0, _, _ => Le.none rfl
  | n + 1, 0, h => absurd h (Nat.not_succ_le_zero n)
  | n + 1, n' + 1, hn => by
    rw [g_slices_stableCmpFunc_huff_coin_l0.eq_2, g_slices_stableCmpFunc_huff_coin_l0.eq_2]
    repeat' first | (with_reducible exact Le.rfl) | (with_reducible exact g_slices_insertionSortCmpFunc_huff_coin_mono hk) | (with_reducible exact g_slices_stableCmpFunc_huff_coin_l0_eqs_mono hk) | (with_reducible exact g_slices_stableCmpFunc_huff_coin_l0_mono hk (Nat.le_of_succ_le_succ hn)) | (with_reducible refine Le.bind ?_ ?_) | (with_reducible refine Le.cond ?_ ?_) | intro _ | split
theorem g_slices_stableCmpFunc_huff_coin_l2_mono {k k' : Nat} (hk : k ≤ k') {x2474 : Int} {x4662 : Int} : ∀ {n n' : Nat} (hn : n ≤ n') {y0 : Int} {y1 : Int} {y2 : (List S_huff_coin)}, Le (g_slices_stableCmpFunc_huff_coin_l2 k x2474 x4662 n y0 y1 y2) (g_slices_stableCmpFunc_huff_coin_l2 k' x2474 x4662 n' y0 y1 y2)
  | 0, _, _ => Le.none rfl
  | n + 1, 0, h => absurd h (Nat.not_succ_le_zero n)
  | n + 1, n' + 1, hn => by
    rw [g_slices_stableCmpFunc_huff_coin_l2.eq_2, g_slices_stableCmpFunc_huff_coin_l2.eq_2]
    repeat' first | (with_reducible exact Le.rfl) | (with_reducible exact g_slices_symMergeCmpFunc_huff_coin_mono hk) | (with_reducible exact g_slices_stableCmpFunc_huff_coin_l2_eqs_mono hk) | (with_reducible exact g_slices_stableCmpFunc_huff_coin_l2_mono hk (Nat.le_of_succ_le_succ hn)) | (with_reducible refine Le.bind ?_ ?_) | (with_reducible refine Le.cond ?_ ?_) | intro _ | split
theorem g_slices_stableCmpFunc_huff_coin_l1_mono {k k' : Nat} (hk : k ≤ k') {x2474 : Int} : ∀ {n n' : Nat} (hn : n ≤ n') {y0 : Int} {y1 : (List S_huff_coin)}, Le (g_slices_stableCmpFunc_huff_coin_l1 k x2474 n y0 y1) (g_slices_stableCmpFunc_huff_coin_l1 k' x2474 n' y0 y1)
  | 0, _, _ => Le.none rfl
  | n + 1, 0, h => absurd h (Nat.not_succ_le_zero n)
  | n + 1, n' + 1, hn => by
    rw [g_slices_stableCmpFunc_huff_coin_l1.eq_2, g_slices_stableCmpFunc_huff_coin_l1.eq_2]
    repeat' first | (with_reducible exact Le.rfl) | (with_reducible exact g_slices_stableCmpFunc_huff_coin_l2_mono hk hk) | (with_reducible exact g_slices_symMergeCmpFunc_huff_coin_mono hk) | (with_reducible exact g_slices_stableCmpFunc_huff_coin_l1_eqs_mono hk) | (with_reducible exact g_slices_stableCmpFunc_huff_coin_l1_mono hk (Nat.le_of_succ_le_succ hn)) | (with_reducible refine Le.bind ?_ ?_) | (with_reducible refine Le.cond ?_ ?_) | intro _ | split
theorem g_slices_stableCmpFunc_huff_coin_mono {k k' : Nat} (hk : k ≤ k') {x2474 : Int} {x2475 : (List S_huff_coin)} : Le (g_slices_stableCmpFunc_huff_coin k x2474 x2475) (g_slices_stableCmpFunc_huff_coin k' x2474 x2475) := by
  unfold g_slices_stableCmpFunc_huff_coin
  repeat' first | (with_reducible exact Le.rfl) | (with_reducible exact g_slices_stableCmpFunc_huff_coin_l0_mono hk hk) | (with_reducible exact g_slices_insertionSortCmpFunc_huff_coin_mono hk) | (with_reducible exact g_slices_stableCmpFunc_huff_coin_l1_mono hk hk) | (with_reducible refine Le.bind ?_ ?_) | (with_reducible refine Le.cond ?_ ?_) | intro _ | split
theorem g_slices_SortStableFunc_huff_coin_huff_coin_mono {k k' : Nat} (hk : k ≤ k') {x2472 : (List S_huff_coin)} : Le (g_slices_SortStableFunc_huff_coin_huff_coin k x2472) (g_slices_SortStableFunc_huff_coin_huff_coin k' x2472) := by
  unfold g_slices_SortStableFunc_huff_coin_huff_coin
  repeat' first | (with_reducible exact Le.rfl) | (with_reducible exact g_slices_stableCmpFunc_huff_coin_mono hk) | (with_reducible refine Le.bind ?_ ?_) | (with_reducible refine Le.cond ?_ ?_) | intro _ | split
theorem g_slices_Clone_huff_coin_huff_coin_mono {k k' : Nat} (hk : k ≤ k') {x4720 : (List S_huff_coin)} : Le (g_slices_Clone_huff_coin_huff_coin k x4720) (g_slices_Clone_huff_coin_huff_coin k' x4720) := by
  unfold g_slices_Clone_huff_coin_huff_coin
  repeat' first | (with_reducible exact Le.rfl) | (with_reducible refine Le.bind ?_ ?_) | (with_reducible refine Le.cond ?_ ?_) | intro _ | split
theorem g_slices_Grow_int_int_mono {k k' : Nat} (hk : k ≤ k') {x4758 : Int} : Le (g_slices_Grow_int_int k x4758) (g_slices_Grow_int_int k' x4758) := by
  unfold g_slices_Grow_int_int
  repeat' first | (with_reducible exact Le.rfl) | (with_reducible refine Le.bind ?_ ?_) | (with_reducible refine Le.cond ?_ ?_) | intro _ | split
theorem g_slices_Concat_int_int_l0_mono {k k' : Nat} (hk : k ≤ k') {x4742 : (List (List Int))} : ∀ {n n' : Nat} (hn : n ≤ n') {y0 : Int} {y1 : Int}, Le (g_slices_Concat_int_int_l0 k x4742 n y0 y1) (g_slices_Concat_int_int_l0 k' x4742 n' y0 y1)
  | 0, _, _ => Le.none rfl
  | n + 1, 0, h => absurd h (Nat.not_succ_le_zero n)
  | n + 1, n' + 1, hn => by
    rw [g_slices_Concat_int_int_l0.eq_2, g_slices_Concat_int_int_l0.eq_2]
    repeat' first | (with_reducible exact Le.rfl) | (with_reducible exact g_slices_Concat_int_int_l0_eqs_mono hk) | (with_reducible exact g_slices_Concat_int_int_l0_mono hk (Nat.le_of_succ_le_succ hn)) | (with_reducible refine Le.bind ?_ ?_) | (with_reducible refine Le.cond ?_ ?_) | intro _ | split
theorem g_slices_Concat_int_int_l1_mono {k k' : Nat} (hk : k ≤ k') {x4742 : (List (List Int))} : ∀ {n n' : Nat} (hn : n ≤ n') {y0 : Int} {y1 : (List Int)}, Le (g_slices_Concat_int_int_l1 k x4742 n y0 y1) (g_slices_Concat_int_int_l1 k' x4742 n' y0 y1)
  | 0, _, _ => Le.none rfl
  | n + 1, 0, h => absurd h (Nat.not_succ_le_zero n)
  | n + 1, n' + 1, hn => by
    rw [g_slices_Concat_int_int_l1.eq_2, g_slices_Concat_int_int_l1.eq_2]
    repeat' first | (with_reducible exact Le.rfl) | (with_reducible exact g_slices_Concat_int_int_l1_eqs_mono hk) | (with_reducible exact g_slices_Concat_int_int_l1_mono hk (Nat.le_of_succ_le_succ hn)) | (with_reducible refine Le.bind ?_ ?_) | (with_reducible refine Le.cond ?_ ?_) | intro _ | split
theorem g_slices_Concat_int_int_mono {k k' : Nat} (hk : k ≤ k') {x4742 : (List (List Int))} : Le (g_slices_Concat_int_int k x4742) (g_slices_Concat_int_int k' x4742) := by
  unfold g_slices_Concat_int_int
  repeat' first | (with_reducible exact Le.rfl) | (with_reducible exact g_slices_Concat_int_int_l0_mono hk hk) | (with_reducible exact g_slices_Grow_int_int_mono hk) | (with_reducible exact g_slices_Concat_int_int_l1_mono hk hk) | (with_reducible refine Le.bind ?_ ?_) | (with_reducible refine Le.cond ?_ ?_) | intro _ | split
theorem g_huff_Lengths_l0_mono {k k' : Nat} (hk : k ≤ k') {x2363 : (List Int)} : ∀ {n n' : Nat} (hn : n ≤ n') {y0 : Int} {y1 : (List S_huff_coin)}, Le (g_huff_Lengths_l0 k x2363 n y0 y1) (g_huff_Lengths_l0 k' x2363 n' y0 y1)
  | 0, _, _ => Le.none rfl
  | n + 1, 0, h => absurd h (Nat.not_succ_le_zero n)
  | n + 1, n' + 1, hn => by
    rw [g_huff_Lengths_l0.eq_2, g_huff_Lengths_l0.eq_2]
    repeat' first | (with_reducible exact Le.rfl) | (with_reducible exact g_huff_Lengths_l0_eqs_mono hk) | (with_reducible exact g_huff_Lengths_l0_mono hk (Nat.le_of_succ_le_succ hn)) | (with_reducible refine Le.bind ?_ ?_) | (with_reducible refine Le.cond ?_ ?_) | intro _ | split
theorem g_huff_Lengths_l2_mono {k k' : Nat} (hk : k ≤ k') {x5151 : (List S_huff_coin)} : ∀ {n n' : Nat} (hn : n ≤ n') {y0 : Int} {y1 : (List S_huff_coin)}, Le (g_huff_Lengths_l2 k x5151 n y0 y1) (g_huff_Lengths_l2 k' x5151 n' y0 y1)
  | 0, _, _ => Le.none rfl
  | n + 1, 0, h => absurd h (Nat.not_succ_le_zero n)
  | n + 1, n' + 1, hn => by
    rw [g_huff_Lengths_l2.eq_2, g_huff_Lengths_l2.eq_2]
    repeat' first | (with_reducible exact Le.rfl) | (with_reducible exact g_slices_Concat_int_int_mono hk) | (with_reducible exact g_huff_Lengths_l2_eqs_mono hk) | (with_reducible exact g_huff_Lengths_l2_mono hk (Nat.le_of_succ_le_succ hn)) | (with_reducible refine Le.bind ?_ ?_) | (with_reducible refine Le.cond ?_ ?_) | intro _ | split
theorem g_huff_Lengths_l1_mono {k k' : Nat} (hk : k ≤ k') {x2364 : Int} {x5090 : (List S_huff_coin)} : ∀ {n n' : Nat} (hn : n ≤ n') {y0 : Int} {y1 : (List S_huff_coin)}, Le (g_huff_Lengths_l1 k x2364 x5090 n y0 y1) (g_huff_Lengths_l1 k' x2364 x5090 n' y0 y1)
  | 0, _, _ => Le.none rfl
  | n + 1, 0, h => absurd h (Nat.not_succ_le_zero n)
  | n + 1, n' + 1, hn => by
    rw [g_huff_Lengths_l1.eq_2, g_huff_Lengths_l1.eq_2]
    repeat' first | (with_reducible exact Le.rfl) | (with_reducible exact g_slices_Clone_huff_coin_huff_coin_mono hk) | (with_reducible exact g_huff_Lengths_l2_mono hk hk) | (with_reducible exact g_slices_SortStableFunc_huff_coin_huff_coin_mono hk) | (with_reducible exact g_huff_Lengths_l1_eqs_mono hk) | (with_reducible exact g_huff_Lengths_l1_mono hk (Nat.le_of_succ_le_succ hn)) | (with_reducible refine Le.bind ?_ ?_) | (with_reducible refine Le.cond ?_ ?_) | intro _ | split
theorem g_huff_Lengths_l4_mono {k k' : Nat} (hk : k ≤ k') {x5321 : S_huff_coin} : ∀ {n n' : Nat} (hn : n ≤ n') {y0 : Int} {y1 : (List Int)}, Le (g_huff_Lengths_l4 k x5321 n y0 y1) (g_huff_Lengths_l4 k' x5321 n' y0 y1)
  | 0, _, _ => Le.none rfl
  | n + 1, 0, h => absurd h (Nat.not_succ_le_zero n)
  | n + 1, n' + 1, hn => by
    rw [g_huff_Lengths_l4.eq_2, g_huff_Lengths_l4.eq_2]
    repeat' first | (with_reducible exact Le.rfl) | (with_reducible exact g_huff_Lengths_l4_eqs_mono hk) | (with_reducible exact g_huff_Lengths_l4_mono hk (Nat.le_of_succ_le_succ hn)) | (with_reducible refine Le.bind ?_ ?_) | (with_reducible refine Le.cond ?_ ?_) | intro _ | split
theorem g_huff_Lengths_l3_mono {k k' : Nat} (hk : k ≤ k') {x5090 : (List S_huff_coin)} {x5204 : (List S_huff_coin)} : ∀ {n n' : Nat} (hn : n ≤ n') {y0 : Int} {y1 : (List Int)}, Le (g_huff_Lengths_l3 k x5090 x5204 n y0 y1) (g_huff_Lengths_l3 k' x5090 x5204 n' y0 y1)
  | 0, _, _ => Le.none rfl
  | n + 1, 0, h => absurd h (Nat.not_succ_le_zero n)
  | n + 1, n' + 1, hn => by
    rw [g_huff_Lengths_l3.eq_2, g_huff_Lengths_l3.eq_2]
    repeat' first | (with_reducible exact Le.rfl) | (with_reducible exact g_huff_Lengths_l4_mono hk hk) | (with_reducible exact g_huff_Lengths_l3_eqs_mono hk) | (with_reducible exact g_huff_Lengths_l3_mono hk (Nat.le_of_succ_le_succ hn)) | (with_reducible refine Le.bind ?_ ?_) | (with_reducible refine Le.cond ?_ ?_) | intro _ | split
theorem g_huff_Lengths_mono {k k' : Nat} (hk : k ≤ k') {x2363 : (List Int)} {x2364 : Int} : Le (g_huff_Lengths k x2363 x2364) (g_huff_Lengths k' x2363 x2364) := by
  unfold g_huff_Lengths
  repeat' first | (with_reducible exact Le.rfl) | (with_reducible exact g_huff_Lengths_l0_mono hk hk) | (with_reducible exact g_slices_SortStableFunc_huff_coin_huff_coin_mono hk) | (with_reducible exact g_huff_Lengths_l1_mono hk hk) | (with_reducible exact g_huff_Lengths_l3_mono hk hk) | (with_reducible refine Le.bind ?_ ?_) | (with_reducible refine Le.cond ?_ ?_) | intro _ | split
theorem g_quirelaw02_alive_mono {k k' : Nat} (hk : k ≤ k') : Le (g_quirelaw02_alive k) (g_quirelaw02_alive k') := by
  unfold g_quirelaw02_alive
  repeat' first | (with_reducible exact Le.rfl) | (with_reducible exact g_huff_Codes_mono hk) | (with_reducible exact g_huff_Lengths_mono hk) | (with_reducible refine Le.bind ?_ ?_) | (with_reducible refine Le.cond ?_ ?_) | intro _ | split
theorem g_bits_NewWriter_mono {k k' : Nat} (hk : k ≤ k') : Le (g_bits_NewWriter k) (g_bits_NewWriter k') := by
  unfold g_bits_NewWriter
  repeat' first | (with_reducible exact Le.rfl) | (with_reducible refine Le.bind ?_ ?_) | (with_reducible refine Le.cond ?_ ?_) | intro _ | split
theorem g_math_bits_ReverseBytes32_mono {k k' : Nat} (hk : k ≤ k') {x5491 : Int} : Le (g_math_bits_ReverseBytes32 k x5491) (g_math_bits_ReverseBytes32 k' x5491) := by
  unfold g_math_bits_ReverseBytes32
  repeat' first | (with_reducible exact Le.rfl) | (with_reducible refine Le.bind ?_ ?_) | (with_reducible refine Le.cond ?_ ?_) | intro _ | split
theorem g_math_bits_Reverse32_mono {k k' : Nat} (hk : k ≤ k') {x5482 : Int} : Le (g_math_bits_Reverse32 k x5482) (g_math_bits_Reverse32 k' x5482) := by
  unfold g_math_bits_Reverse32
  repeat' first | (with_reducible exact Le.rfl) | (with_reducible exact g_math_bits_ReverseBytes32_mono hk) | (with_reducible refine Le.bind ?_ ?_) | (with_reducible refine Le.cond ?_ ?_) | intro _ | split
theorem g_bits_Reverse_mono {k k' : Nat} (hk : k ≤ k') {x5477 : Int} {x5478 : Int} : Le (g_bits_Reverse k x5477 x5478) (g_bits_Reverse k' x5477 x5478) := by
  unfold g_bits_Reverse
  repeat' first | (with_reducible exact Le.rfl) | (with_reducible exact g_math_bits_Reverse32_mono hk) | (with_reducible refine Le.bind ?_ ?_) | (with_reducible refine Le.cond ?_ ?_) | intro _ | split
theorem g_bits_each_mono {k k' : Nat} (hk : k ≤ k') {x5539 : Int} {x5540 : Int} : Le (g_bits_each k x5539 x5540) (g_bits_each k' x5539 x5540) := by
  unfold g_bits_each
  repeat' first | (with_reducible exact Le.rfl) | (with_reducible refine Le.bind ?_ ?_) | (with_reducible refine Le.cond ?_ ?_) | intro _ | split
theorem g_bits_Writer_Put_l0_mono {k k' : Nat} (hk : k ≤ k') {x5527 : Int} {x5528 : Int} : ∀ {n n' : Nat} (hn : n ≤ n') {y0 : Int} {y1 : Int} {y2 : (List Int)}, Le (g_bits_Writer_Put_l0 k x5527 x5528 n y0 y1 y2) (g_bits_Writer_Put_l0 k' x5527 x5528 n' y0 y1 y2)
  | 0, _, _ => Le.none rfl
  | n + 1, 0, h => absurd h (Nat.not_succ_le_zero n)
  | n + 1, n' + 1, hn => by
    rw [g_bits_Writer_Put_l0.eq_2, g_bits_Writer_Put_l0.eq_2]
    repeat' first | (with_reducible exact Le.rfl) | (with_reducible exact g_bits_Writer_Put_l0_eqs_mono hk) | (with_reducible exact g_bits_Writer_Put_l0_mono hk (Nat.le_of_succ_le_succ hn)) | (with_reducible refine Le.bind ?_ ?_) | (with_reducible refine Le.cond ?_ ?_) | intro _ | split
theorem g_bits_Writer_Put_mono {k k' : Nat} (hk : k ≤ k') {x5527 : Int} {x5528 : Int} {x5529 : Int} : Le (g_bits_Writer_Put k x5527 x5528 x5529) (g_bits_Writer_Put k' x5527 x5528 x5529) := by
  unfold g_bits_Writer_Put
  repeat' first | (with_reducible exact Le.rfl) | (with_reducible exact g_bits_each_mono hk) | (with_reducible exact g_bits_Writer_Put_l0_mono hk hk) | (with_reducible refine Le.bind ?_ ?_) | (with_reducible refine Le.cond ?_ ?_) | intro _ | split
theorem g_bits_Writer_Put__b_l0_mono {k k' : Nat} (hk : k ≤ k') {x6025 : Int} {x6026 : Int} : ∀ {n n' : Nat} (hn : n ≤ n') {y0 : Int} {y1 : Int} {y2 : (List Int)}, Le (g_bits_Writer_Put__b_l0 k x6025 x6026 n y0 y1 y2) (g_bits_Writer_Put__b_l0 k' x6025 x6026 n' y0 y1 y2)
  | 0, _, _ => Le.none rfl
  | n + 1, 0, h => absurd h (Nat.not_succ_le_zero n)
  | n + 1, n' + 1, hn => by
    rw [g_bits_Writer_Put__b_l0.eq_2, g_bits_Writer_Put__b_l0.eq_2]
    repeat' first | (with_reducible exact Le.rfl) | (with_reducible exact g_bits_Writer_Put__b_l0_eqs_mono hk) | (with_reducible exact g_bits_Writer_Put__b_l0_mono hk (Nat.le_of_succ_le_succ hn)) | (with_reducible refine Le.bind ?_ ?_) | (with_reducible refine Le.cond ?_ ?_) | intro _ | split
theorem g_bits_Writer_Put__b_mono {k k' : Nat} (hk : k ≤ k') {x6025 : Int} {x6026 : Int} {x6027 : Int} {x6028 : (List Int)} : Le (g_bits_Writer_Put__b k x6025 x6026 x6027 x6028) (g_bits_Writer_Put__b k' x6025 x6026 x6027 x6028) := by
  unfold g_bits_Writer_Put__b
  repeat' first | (with_reducible exact Le.rfl) | (with_reducible exact g_bits_each_mono hk) | (with_reducible exact g_bits_Writer_Put__b_l0_mono hk hk) | (with_reducible refine Le.bind ?_ ?_) | (with_reducible refine Le.cond ?_ ?_) | intro _ | split
theorem g_slices_Clone_byte_byte_mono {k k' : Nat} (hk : k ≤ k') {x6472 : (List Int)} : Le (g_slices_Clone_byte_byte k x6472) (g_slices_Clone_byte_byte k' x6472) := by
  unfold g_slices_Clone_byte_byte
  repeat' first | (with_reducible exact Le.rfl) | (with_reducible refine Le.bind ?_ ?_) | (with_reducible refine Le.cond ?_ ?_) | intro _ | split
theorem g_bits_Writer_Done_mono {k k' : Nat} (hk : k ≤ k') {x6469 : Int} {x6470 : (List Int)} : Le (g_bits_Writer_Done k x6469 x6470) (g_bits_Writer_Done k' x6469 x6470) := by
  unfold g_bits_Writer_Done
  repeat' first | (with_reducible exact Le.rfl) | (with_reducible exact g_slices_Clone_byte_byte_mono hk) | (with_reducible refine Le.bind ?_ ?_) | (with_reducible refine Le.cond ?_ ?_) | intro _ | split
theorem g_slices_Clone_byte_byte__b_mono {k k' : Nat} (hk : k ≤ k') {x6483 : (List Int)} : Le (g_slices_Clone_byte_byte__b k x6483) (g_slices_Clone_byte_byte__b k' x6483) := by
  unfold g_slices_Clone_byte_byte__b
  repeat' first | (with_reducible exact Le.rfl) | (with_reducible refine Le.bind ?_ ?_) | (with_reducible refine Le.cond ?_ ?_) | intro _ | split
theorem g_bits_NewReader_mono {k k' : Nat} (hk : k ≤ k') {x6481 : (List Int)} : Le (g_bits_NewReader k x6481) (g_bits_NewReader k' x6481) := by
  unfold g_bits_NewReader
  repeat' first | (with_reducible exact Le.rfl) | (with_reducible exact g_slices_Clone_byte_byte__b_mono hk) | (with_reducible refine Le.bind ?_ ?_) | (with_reducible refine Le.cond ?_ ?_) | intro _ | split
theorem g_huff_Decoder_Next_mono {k k' : Nat} (hk : k ≤ k') {x6494 : (List Int)} {x6495 : Int} : Le (g_huff_Decoder_Next k x6494 x6495) (g_huff_Decoder_Next k' x6494 x6495) := by
  unfold g_huff_Decoder_Next
  repeat' first | (with_reducible exact Le.rfl) | (with_reducible refine Le.bind ?_ ?_) | (with_reducible refine Le.cond ?_ ?_) | intro _ | split
theorem g_bits_Reader_Left_mono {k k' : Nat} (hk : k ≤ k') {x6501 : (List Int)} {x6502 : Int} : Le (g_bits_Reader_Left k x6501 x6502) (g_bits_Reader_Left k' x6501 x6502) := by
  unfold g_bits_Reader_Left
  repeat' first | (with_reducible exact Le.rfl) | (with_reducible refine Le.bind ?_ ?_) | (with_reducible refine Le.cond ?_ ?_) | intro _ | split
theorem g_bits_Reader_Take_l0_mono {k k' : Nat} (hk : k ≤ k') {x6747 : Int} : ∀ {n n' : Nat} (hn : n ≤ n') {y0 : Int} {y1 : Int} {y2 : (List Int)} {y3 : Int}, Le (g_bits_Reader_Take_l0 k x6747 n y0 y1 y2 y3) (g_bits_Reader_Take_l0 k' x6747 n' y0 y1 y2 y3)
  | 0, _, _ => Le.none rfl
  | n + 1, 0, h => absurd h (Nat.not_succ_le_zero n)
  | n + 1, n' + 1, hn => by
    rw [g_bits_Reader_Take_l0.eq_2, g_bits_Reader_Take_l0.eq_2]
    repeat' first | (with_reducible exact Le.rfl) | (with_reducible exact g_bits_Reader_Take_l0_eqs_mono hk) | (with_reducible exact g_bits_Reader_Take_l0_mono hk (Nat.le_of_succ_le_succ hn)) | (with_reducible refine Le.bind ?_ ?_) | (with_reducible refine Le.cond ?_ ?_) | intro _ | split
theorem g_bits_Reader_Take_mono {k k' : Nat} (hk : k ≤ k') {x6747 : Int} {x6748 : (List Int)} {x6749 : Int} : Le (g_bits_Reader_Take k x6747 x6748 x6749) (g_bits_Reader_Take k' x6747 x6748 x6749) := by
  unfold g_bits_Reader_Take
  repeat' first | (with_reducible exact Le.rfl) | (with_reducible exact g_bits_Reader_Left_mono hk) | (with_reducible exact g_bits_Reader_Take_l0_mono hk hk) | (with_reducible refine Le.bind ?_ ?_) | (with_reducible refine Le.cond ?_ ?_) | intro _ | split
theorem g_huff_Decoder_begins_l0_mono {k k' : Nat} (hk : k ≤ k') {x6867 : Int} {x6868 : (List Int)} : ∀ {n n' : Nat} (hn : n ≤ n') {y0 : Int} {y1 : Int}, Le (g_huff_Decoder_begins_l0 k x6867 x6868 n y0 y1) (g_huff_Decoder_begins_l0 k' x6867 x6868 n' y0 y1)
  | 0, _, _ => Le.none rfl
  | n + 1, 0, h => absurd h (Nat.not_succ_le_zero n)
  | n + 1, n' + 1, hn => by
    rw [g_huff_Decoder_begins_l0.eq_2, g_huff_Decoder_begins_l0.eq_2]
    repeat' first | (with_reducible exact Le.rfl) | (with_reducible exact g_huff_Decoder_begins_l0_eqs_mono hk) | (with_reducible exact g_huff_Decoder_begins_l0_mono hk (Nat.le_of_succ_le_succ hn)) | (with_reducible refine Le.bind ?_ ?_) | (with_reducible refine Le.cond ?_ ?_) | intro _ | split
theorem g_huff_Decoder_begins_mono {k k' : Nat} (hk : k ≤ k') {x6866 : Int} {x6867 : Int} {x6868 : (List Int)} {x6869 : (List Int)} : Le (g_huff_Decoder_begins k x6866 x6867 x6868 x6869) (g_huff_Decoder_begins k' x6866 x6867 x6868 x6869) := by
  unfold g_huff_Decoder_begins
  repeat' first | (with_reducible exact Le.rfl) | (with_reducible exact g_huff_Decoder_begins_l0_mono hk hk) | (with_reducible refine Le.bind ?_ ?_) | (with_reducible refine Le.cond ?_ ?_) | intro _ | split
theorem g_huff_Decoder_Next__b_l0_mono {k k' : Nat} (hk : k ≤ k') {x6740 : (List Int)} {x6743 : (List Int)} : ∀ {n n' : Nat} (hn : n ≤ n') {y0 : Int} {y1 : Int} {y2 : Int} {y3 : Int} {y4 : (List Int)} {y5 : Int}, Le (g_huff_Decoder_Next__b_l0 k x6740 x6743 n y0 y1 y2 y3 y4 y5) (g_huff_Decoder_Next__b_l0 k' x6740 x6743 n' y0 y1 y2 y3 y4 y5)
  | 0, _, _ => Le.none rfl
  | n + 1, 0, h => absurd h (Nat.not_succ_le_zero n)
  | n + 1, n' + 1, hn => by
    rw [g_huff_Decoder_Next__b_l0.eq_2, g_huff_Decoder_Next__b_l0.eq_2]
    repeat' first | (with_reducible exact Le.rfl) | (with_reducible exact g_bits_Reader_Take_mono hk) | (with_reducible exact g_huff_Decoder_begins_mono hk) | (with_reducible exact g_huff_Decoder_Next__b_l0_eqs_mono hk) | (with_reducible exact g_huff_Decoder_Next__b_l0_mono hk (Nat.le_of_succ_le_succ hn)) | (with_reducible refine Le.bind ?_ ?_) | (with_reducible refine Le.cond ?_ ?_) | intro _ | split
theorem g_huff_Decoder_Next__b_mono {k k' : Nat} (hk : k ≤ k') {x6740 : (List Int)} {x6741 : (List Int)} {x6742 : Int} {x6743 : (List Int)} : Le (g_huff_Decoder_Next__b k x6740 x6741 x6742 x6743) (g_huff_Decoder_Next__b k' x6740 x6741 x6742 x6743) := by
  unfold g_huff_Decoder_Next__b
  repeat' first | (with_reducible exact Le.rfl) | (with_reducible exact g_huff_Decoder_Next__b_l0_mono hk hk) | (with_reducible refine Le.bind ?_ ?_) | (with_reducible refine Le.cond ?_ ?_) | intro _ | split
theorem g_quirelaw02_HuffBack_l0_mono {k k' : Nat} (hk : k ≤ k') {x3 : (List Int)} {x4 : (List Int)} {x7170 : (List Int)} : ∀ {n n' : Nat} (hn : n ≤ n') {y0 : Int} {y1 : Int} {y2 : (List Int)} {y3 : (List Int)}, Le (g_quirelaw02_HuffBack_l0 k x3 x4 x7170 n y0 y1 y2 y3) (g_quirelaw02_HuffBack_l0 k' x3 x4 x7170 n' y0 y1 y2 y3)
  | 0, _, _ => Le.none rfl
  | n + 1, 0, h => absurd h (Nat.not_succ_le_zero n)
  | n + 1, n' + 1, hn => by
    rw [g_quirelaw02_HuffBack_l0.eq_2, g_quirelaw02_HuffBack_l0.eq_2]
    repeat' first | (with_reducible exact Le.rfl) | (with_reducible exact g_bits_Reverse_mono hk) | (with_reducible exact g_bits_Writer_Put__b_mono hk) | (with_reducible exact g_quirelaw02_HuffBack_l0_eqs_mono hk) | (with_reducible exact g_quirelaw02_HuffBack_l0_mono hk (Nat.le_of_succ_le_succ hn)) | (with_reducible refine Le.bind ?_ ?_) | (with_reducible refine Le.cond ?_ ?_) | intro _ | split
theorem g_quirelaw02_HuffBack_l1_mono {k k' : Nat} (hk : k ≤ k') {x7398 : (List Int)} {x7469 : (List Int)} : ∀ {n n' : Nat} (hn : n ≤ n'), Le (g_quirelaw02_HuffBack_l1 k x7398 x7469 n) (g_quirelaw02_HuffBack_l1 k' x7398 x7469 n')
  | 0, _, _ => Le.none rfl
  | n + 1, 0, h => absurd h (Nat.not_succ_le_zero n)
  | n + 1, n' + 1, hn => by
    rw [g_quirelaw02_HuffBack_l1.eq_2, g_quirelaw02_HuffBack_l1.eq_2]
    repeat' first | (with_reducible exact Le.rfl) | (with_reducible exact g_huff_Decoder_Next_mono hk) | (with_reducible exact g_quirelaw02_HuffBack_l1_eqs_mono hk) | (with_reducible exact g_quirelaw02_HuffBack_l1_mono hk (Nat.le_of_succ_le_succ hn)) | (with_reducible refine Le.bind ?_ ?_) | (with_reducible refine Le.cond ?_ ?_) | intro _ | split
theorem g_quirelaw02_HuffBack_l2_mono {k k' : Nat} (hk : k ≤ k') {x3 : (List Int)} {x4 : (List Int)} {x7170 : (List Int)} : ∀ {n n' : Nat} (hn : n ≤ n') {y0 : Int} {y1 : Int} {y2 : (List Int)} {y3 : (List Int)}, Le (g_quirelaw02_HuffBack_l2 k x3 x4 x7170 n y0 y1 y2 y3) (g_quirelaw02_HuffBack_l2 k' x3 x4 x7170 n' y0 y1 y2 y3)
  | 0, _, _ => Le.none rfl
  | n + 1, 0, h => absurd h (Nat.not_succ_le_zero n)
  | n + 1, n' + 1, hn => by
    rw [g_quirelaw02_HuffBack_l2.eq_2, g_quirelaw02_HuffBack_l2.eq_2]
    repeat' first | (with_reducible exact Le.rfl) | (with_reducible exact g_bits_Reverse_mono hk) | (with_reducible exact g_bits_Writer_Put__b_mono hk) | (with_reducible exact g_quirelaw02_HuffBack_l2_eqs_mono hk) | (with_reducible exact g_quirelaw02_HuffBack_l2_mono hk (Nat.le_of_succ_le_succ hn)) | (with_reducible refine Le.bind ?_ ?_) | (with_reducible refine Le.cond ?_ ?_) | intro _ | split
theorem g_quirelaw02_HuffBack_l3_mono {k k' : Nat} (hk : k ≤ k') {x7174 : (List Int)} {x7175 : (List Int)} {x7703 : (List Int)} : ∀ {n n' : Nat} (hn : n ≤ n') {y0 : Int} {y1 : (List Int)} {y2 : Int}, Le (g_quirelaw02_HuffBack_l3 k x7174 x7175 x7703 n y0 y1 y2) (g_quirelaw02_HuffBack_l3 k' x7174 x7175 x7703 n' y0 y1 y2)
  | 0, _, _ => Le.none rfl
  | n + 1, 0, h => absurd h (Nat.not_succ_le_zero n)
  | n + 1, n' + 1, hn => by
    rw [g_quirelaw02_HuffBack_l3.eq_2, g_quirelaw02_HuffBack_l3.eq_2]
    repeat' first | (with_reducible exact Le.rfl) | (with_reducible exact g_huff_Decoder_Next__b_mono hk) | (with_reducible exact g_quirelaw02_HuffBack_l3_eqs_mono hk) | (with_reducible exact g_quirelaw02_HuffBack_l3_mono hk (Nat.le_of_succ_le_succ hn)) | (with_reducible refine Le.bind ?_ ?_) | (with_reducible refine Le.cond ?_ ?_) | intro _ | split
theorem g_quirelaw02_HuffBack_mono {k k' : Nat} (hk : k ≤ k') {x3 : (List Int)} {x4 : (List Int)} : Le (g_quirelaw02_HuffBack k x3 x4) (g_quirelaw02_HuffBack k' x3 x4) := by
  unfold g_quirelaw02_HuffBack
  repeat' first | (with_reducible exact Le.rfl) | (with_reducible exact g_huff_Codes_mono hk) | (with_reducible exact g_huff_New_mono hk) | (with_reducible exact g_quirelaw02_alive_mono hk) | (with_reducible exact g_bits_NewWriter_mono hk) | (with_reducible exact g_quirelaw02_HuffBack_l0_mono hk hk) | (with_reducible exact g_bits_Writer_Done_mono hk) | (with_reducible exact g_bits_NewReader_mono hk) | (with_reducible exact g_quirelaw02_HuffBack_l1_mono hk hk) | (with_reducible exact g_bits_Reader_Left_mono hk) | (with_reducible exact g_quirelaw02_HuffBack_l2_mono hk hk) | (with_reducible exact g_quirelaw02_HuffBack_l3_mono hk hk) | (with_reducible refine Le.bind ?_ ?_) | (with_reducible refine Le.cond ?_ ?_) | intro _ | split
end Go.Proofs.Ythgbompoldmhmab.W
