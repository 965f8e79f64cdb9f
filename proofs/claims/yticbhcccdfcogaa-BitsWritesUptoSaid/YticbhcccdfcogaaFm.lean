/- More rounds tell the same. -/
import Derived.Test.YticbhcccdfcogaaFa
namespace Go.Proofs.Yticbhcccdfcogaa.W
open Go Go.Q Go.Proofs
set_option linter.unusedVariables false
set_option linter.unusedSimpArgs false
theorem f36_mono {k k' : Nat} (hk : k ≤ k') {x18 : Int} : Le (f36 k x18) (f36 k' x18) := by
  unfold f36
  repeat' first | (with_reducible exact Le.rfl) | (with_reducible refine Le.bind ?_ ?_) | (with_reducible refine Le.cond ?_ ?_) | intro _ | split
theorem f32_mono {k k' : Nat} (hk : k ≤ k') {x10 : Int} : Le (f32 k x10) (f32 k' x10) := by
  unfold f32
  repeat' first | (with_reducible exact Le.rfl) | (with_reducible exact f36_mono hk) | (with_reducible refine Le.bind ?_ ?_) | (with_reducible refine Le.cond ?_ ?_) | intro _ | split
theorem f7_mono {k k' : Nat} (hk : k ≤ k') {x7 : Int} {x8 : Int} : Le (f7 k x7 x8) (f7 k' x7 x8) := by
  unfold f7
  repeat' first | (with_reducible exact Le.rfl) | (with_reducible exact f32_mono hk) | (with_reducible refine Le.bind ?_ ?_) | (with_reducible refine Le.cond ?_ ?_) | intro _ | split
theorem f8_l0_mono {k k' : Nat} (hk : k ≤ k') {x50 : Int} {x51 : Int} : ∀ {n n' : Nat} (hn : n ≤ n') {y0 : Int} {y1 : Int}, Le (f8_l0 k x50 x51 n y0 y1) (f8_l0 k' x50 x51 n' y0 y1)
  | 0, _, _ => Le.none rfl
  | n + 1, 0, h => absurd h (Nat.not_succ_le_zero n)
  | n + 1, n' + 1, hn => by
    rw [f8_l0.eq_2, f8_l0.eq_2]
    repeat' first | (with_reducible exact Le.rfl) | (with_reducible exact f8_l0_mono hk (Nat.le_of_succ_le_succ hn)) | (with_reducible refine Le.bind ?_ ?_) | (with_reducible refine Le.cond ?_ ?_) | intro _ | split
theorem f8_mono {k k' : Nat} (hk : k ≤ k') {x50 : Int} {x51 : Int} : Le (f8 k x50 x51) (f8 k' x50 x51) := by
  unfold f8
  repeat' first | (with_reducible exact Le.rfl) | (with_reducible exact f8_l0_mono hk hk) | (with_reducible refine Le.bind ?_ ?_) | (with_reducible refine Le.cond ?_ ?_) | intro _ | split
theorem f9_l1_mono {k k' : Nat} (hk : k ≤ k') : ∀ {n n' : Nat} (hn : n ≤ n') {y0 : Int} {y1 : Int}, Le (f9_l1 k n y0 y1) (f9_l1 k' n' y0 y1)
  | 0, _, _ => Le.none rfl
  | n + 1, 0, h => absurd h (Nat.not_succ_le_zero n)
  | n + 1, n' + 1, hn => by
    rw [f9_l1.eq_2, f9_l1.eq_2]
    repeat' first | (with_reducible exact Le.rfl) | (with_reducible exact f9_l1_mono hk (Nat.le_of_succ_le_succ hn)) | (with_reducible refine Le.bind ?_ ?_) | (with_reducible refine Le.cond ?_ ?_) | intro _ | split
theorem f9_l0_mono {k k' : Nat} (hk : k ≤ k') {x114 : (List Int)} : ∀ {n n' : Nat} (hn : n ≤ n') {y0 : Int} {y1 : Int}, Le (f9_l0 k x114 n y0 y1) (f9_l0 k' x114 n' y0 y1)
  | 0, _, _ => Le.none rfl
  | n + 1, 0, h => absurd h (Nat.not_succ_le_zero n)
  | n + 1, n' + 1, hn => by
    rw [f9_l0.eq_2, f9_l0.eq_2]
    repeat' first | (with_reducible exact Le.rfl) | (with_reducible exact f9_l1_mono hk hk) | (with_reducible exact f9_l0_mono hk (Nat.le_of_succ_le_succ hn)) | (with_reducible refine Le.bind ?_ ?_) | (with_reducible refine Le.cond ?_ ?_) | intro _ | split
theorem f9_mono {k k' : Nat} (hk : k ≤ k') {x114 : (List Int)} : Le (f9 k x114) (f9 k' x114) := by
  unfold f9
  repeat' first | (with_reducible exact Le.rfl) | (with_reducible exact f9_l0_mono hk hk) | (with_reducible refine Le.bind ?_ ?_) | (with_reducible refine Le.cond ?_ ?_) | intro _ | split
theorem f10_l1_mono {k k' : Nat} (hk : k ≤ k') : ∀ {n n' : Nat} (hn : n ≤ n') {y0 : Int} {y1 : Int}, Le (f10_l1 k n y0 y1) (f10_l1 k' n' y0 y1)
  | 0, _, _ => Le.none rfl
  | n + 1, 0, h => absurd h (Nat.not_succ_le_zero n)
  | n + 1, n' + 1, hn => by
    rw [f10_l1.eq_2, f10_l1.eq_2]
    repeat' first | (with_reducible exact Le.rfl) | (with_reducible exact f10_l1_mono hk (Nat.le_of_succ_le_succ hn)) | (with_reducible refine Le.bind ?_ ?_) | (with_reducible refine Le.cond ?_ ?_) | intro _ | split
theorem f10_l0_mono {k k' : Nat} (hk : k ≤ k') {x185 : (List Int)} : ∀ {n n' : Nat} (hn : n ≤ n') {y0 : Int} {y1 : Int}, Le (f10_l0 k x185 n y0 y1) (f10_l0 k' x185 n' y0 y1)
  | 0, _, _ => Le.none rfl
  | n + 1, 0, h => absurd h (Nat.not_succ_le_zero n)
  | n + 1, n' + 1, hn => by
    rw [f10_l0.eq_2, f10_l0.eq_2]
    repeat' first | (with_reducible exact Le.rfl) | (with_reducible exact f10_l1_mono hk hk) | (with_reducible exact f10_l0_mono hk (Nat.le_of_succ_le_succ hn)) | (with_reducible refine Le.bind ?_ ?_) | (with_reducible refine Le.cond ?_ ?_) | intro _ | split
theorem f10_mono {k k' : Nat} (hk : k ≤ k') {x185 : (List Int)} : Le (f10 k x185) (f10 k' x185) := by
  unfold f10
  repeat' first | (with_reducible exact Le.rfl) | (with_reducible exact f10_l0_mono hk hk) | (with_reducible refine Le.bind ?_ ?_) | (with_reducible refine Le.cond ?_ ?_) | intro _ | split
theorem f12_mono {k k' : Nat} (hk : k ≤ k') : Le (f12 k) (f12 k') := by
  unfold f12
  repeat' first | (with_reducible exact Le.rfl) | (with_reducible refine Le.bind ?_ ?_) | (with_reducible refine Le.cond ?_ ?_) | intro _ | split
theorem f33_mono {k k' : Nat} (hk : k ≤ k') {x297 : Int} {x298 : Int} : Le (f33 k x297 x298) (f33 k' x297 x298) := by
  unfold f33
  repeat' first | (with_reducible exact Le.rfl) | (with_reducible refine Le.bind ?_ ?_) | (with_reducible refine Le.cond ?_ ?_) | intro _ | split
theorem f13_l0_mono {k k' : Nat} (hk : k ≤ k') {x285 : Int} {x286 : Int} : ∀ {n n' : Nat} (hn : n ≤ n') {y0 : Int} {y1 : Int} {y2 : (List Int)}, Le (f13_l0 k x285 x286 n y0 y1 y2) (f13_l0 k' x285 x286 n' y0 y1 y2)
  | 0, _, _ => Le.none rfl
  | n + 1, 0, h => absurd h (Nat.not_succ_le_zero n)
  | n + 1, n' + 1, hn => by
    rw [f13_l0.eq_2, f13_l0.eq_2]
    repeat' first | (with_reducible exact Le.rfl) | (with_reducible exact f13_l0_mono hk (Nat.le_of_succ_le_succ hn)) | (with_reducible refine Le.bind ?_ ?_) | (with_reducible refine Le.cond ?_ ?_) | intro _ | split
theorem f13_mono {k k' : Nat} (hk : k ≤ k') {x285 : Int} {x286 : Int} {x287 : Int} {x288 : (List Int)} : Le (f13 k x285 x286 x287 x288) (f13 k' x285 x286 x287 x288) := by
  unfold f13
  repeat' first | (with_reducible exact Le.rfl) | (with_reducible exact f33_mono hk) | (with_reducible exact f13_l0_mono hk hk) | (with_reducible refine Le.bind ?_ ?_) | (with_reducible refine Le.cond ?_ ?_) | intro _ | split
theorem f34_mono {k k' : Nat} (hk : k ≤ k') {x618 : (List Int)} : Le (f34 k x618) (f34 k' x618) := by
  unfold f34
  repeat' first | (with_reducible exact Le.rfl) | (with_reducible refine Le.bind ?_ ?_) | (with_reducible refine Le.cond ?_ ?_) | intro _ | split
theorem f15_mono {k k' : Nat} (hk : k ≤ k') {x616 : Int} {x617 : (List Int)} : Le (f15 k x616 x617) (f15 k' x616 x617) := by
  unfold f15
  repeat' first | (with_reducible exact Le.rfl) | (with_reducible exact f34_mono hk) | (with_reducible refine Le.bind ?_ ?_) | (with_reducible refine Le.cond ?_ ?_) | intro _ | split
theorem f14_mono {k k' : Nat} (hk : k ≤ k') {x627 : (List Int)} : Le (f14 k x627) (f14 k' x627) := by
  unfold f14
  repeat' first | (with_reducible exact Le.rfl) | (with_reducible exact f34_mono hk) | (with_reducible refine Le.bind ?_ ?_) | (with_reducible refine Le.cond ?_ ?_) | intro _ | split
theorem f17_mono {k k' : Nat} (hk : k ≤ k') {x642 : (List Int)} {x643 : Int} : Le (f17 k x642 x643) (f17 k' x642 x643) := by
  unfold f17
  repeat' first | (with_reducible exact Le.rfl) | (with_reducible refine Le.bind ?_ ?_) | (with_reducible refine Le.cond ?_ ?_) | intro _ | split
theorem f16_l0_mono {k k' : Nat} (hk : k ≤ k') {x635 : Int} : ∀ {n n' : Nat} (hn : n ≤ n') {y0 : Int} {y1 : Int} {y2 : (List Int)} {y3 : Int}, Le (f16_l0 k x635 n y0 y1 y2 y3) (f16_l0 k' x635 n' y0 y1 y2 y3)
  | 0, _, _ => Le.none rfl
  | n + 1, 0, h => absurd h (Nat.not_succ_le_zero n)
  | n + 1, n' + 1, hn => by
    rw [f16_l0.eq_2, f16_l0.eq_2]
    repeat' first | (with_reducible exact Le.rfl) | (with_reducible exact f16_l0_mono hk (Nat.le_of_succ_le_succ hn)) | (with_reducible refine Le.bind ?_ ?_) | (with_reducible refine Le.cond ?_ ?_) | intro _ | split
theorem f16_mono {k k' : Nat} (hk : k ≤ k') {x635 : Int} {x636 : (List Int)} {x637 : Int} : Le (f16 k x635 x636 x637) (f16 k' x635 x636 x637) := by
  unfold f16
  repeat' first | (with_reducible exact Le.rfl) | (with_reducible exact f17_mono hk) | (with_reducible exact f16_l0_mono hk hk) | (with_reducible refine Le.bind ?_ ?_) | (with_reducible refine Le.cond ?_ ?_) | intro _ | split
theorem f11_mono {k k' : Nat} (hk : k ≤ k') : Le (f11 k) (f11 k') := by
  unfold f11
  repeat' first | (with_reducible exact Le.rfl) | (with_reducible exact f12_mono hk) | (with_reducible exact f13_mono hk) | (with_reducible exact f15_mono hk) | (with_reducible exact f14_mono hk) | (with_reducible exact f16_mono hk) | (with_reducible exact f9_mono hk) | (with_reducible exact f7_mono hk) | (with_reducible refine Le.bind ?_ ?_) | (with_reducible refine Le.cond ?_ ?_) | intro _ | split
theorem f3_mono {k k' : Nat} (hk : k ≤ k') {x4 : Int} {x5 : Int} {x6 : (List Int)} : Le (f3 k x4 x5 x6) (f3 k' x4 x5 x6) := by
  unfold f3
  repeat' first | (with_reducible exact Le.rfl) | (with_reducible exact f7_mono hk) | (with_reducible exact f8_mono hk) | (with_reducible exact f9_mono hk) | (with_reducible exact f10_mono hk) | (with_reducible exact f11_mono hk) | (with_reducible refine Le.bind ?_ ?_) | (with_reducible refine Le.cond ?_ ?_) | intro _ | split
theorem f34b_mono {k k' : Nat} (hk : k ≤ k') {x915 : (List Int)} : Le (f34b k x915) (f34b k' x915) := by
  unfold f34b
  repeat' first | (with_reducible exact Le.rfl) | (with_reducible refine Le.bind ?_ ?_) | (with_reducible refine Le.cond ?_ ?_) | intro _ | split
theorem f14b_mono {k k' : Nat} (hk : k ≤ k') {x914 : (List Int)} : Le (f14b k x914) (f14b k' x914) := by
  unfold f14b
  repeat' first | (with_reducible exact Le.rfl) | (with_reducible exact f34b_mono hk) | (with_reducible refine Le.bind ?_ ?_) | (with_reducible refine Le.cond ?_ ?_) | intro _ | split
theorem f4_l0_mono {k k' : Nat} (hk : k ≤ k') {x868 : (List S34Op)} : ∀ {n n' : Nat} (hn : n ≤ n') {y0 : Int} {y1 : Int} {y2 : (List Int)}, Le (f4_l0 k x868 n y0 y1 y2) (f4_l0 k' x868 n' y0 y1 y2)
  | 0, _, _ => Le.none rfl
  | n + 1, 0, h => absurd h (Nat.not_succ_le_zero n)
  | n + 1, n' + 1, hn => by
    rw [f4_l0.eq_2, f4_l0.eq_2]
    repeat' first | (with_reducible exact Le.rfl) | (with_reducible exact f13_mono hk) | (with_reducible exact f4_l0_mono hk (Nat.le_of_succ_le_succ hn)) | (with_reducible refine Le.bind ?_ ?_) | (with_reducible refine Le.cond ?_ ?_) | intro _ | split
theorem f4_l1_mono {k k' : Nat} (hk : k ≤ k') {x868 : (List S34Op)} : ∀ {n n' : Nat} (hn : n ≤ n') {y0 : Int} {y1 : (List Int)} {y2 : Int}, Le (f4_l1 k x868 n y0 y1 y2) (f4_l1 k' x868 n' y0 y1 y2)
  | 0, _, _ => Le.none rfl
  | n + 1, 0, h => absurd h (Nat.not_succ_le_zero n)
  | n + 1, n' + 1, hn => by
    rw [f4_l1.eq_2, f4_l1.eq_2]
    repeat' first | (with_reducible exact Le.rfl) | (with_reducible exact f16_mono hk) | (with_reducible exact f7_mono hk) | (with_reducible exact f4_l1_mono hk (Nat.le_of_succ_le_succ hn)) | (with_reducible refine Le.bind ?_ ?_) | (with_reducible refine Le.cond ?_ ?_) | intro _ | split
theorem f4_mono {k k' : Nat} (hk : k ≤ k') {x868 : (List S34Op)} : Le (f4 k x868) (f4 k' x868) := by
  unfold f4
  repeat' first | (with_reducible exact Le.rfl) | (with_reducible exact f12_mono hk) | (with_reducible exact f11_mono hk) | (with_reducible exact f4_l0_mono hk hk) | (with_reducible exact f15_mono hk) | (with_reducible exact f14b_mono hk) | (with_reducible exact f4_l1_mono hk hk) | (with_reducible exact f17_mono hk) | (with_reducible refine Le.bind ?_ ?_) | (with_reducible refine Le.cond ?_ ?_) | intro _ | split
theorem f18_l0_mono {k k' : Nat} (hk : k ≤ k') {x1402 : Int} {x1403 : Int} : ∀ {n n' : Nat} (hn : n ≤ n') {y0 : Int} {y1 : (List Int)}, Le (f18_l0 k x1402 x1403 n y0 y1) (f18_l0 k' x1402 x1403 n' y0 y1)
  | 0, _, _ => Le.none rfl
  | n + 1, 0, h => absurd h (Nat.not_succ_le_zero n)
  | n + 1, n' + 1, hn => by
    rw [f18_l0.eq_2, f18_l0.eq_2]
    repeat' first | (with_reducible exact Le.rfl) | (with_reducible exact f18_l0_mono hk (Nat.le_of_succ_le_succ hn)) | (with_reducible refine Le.bind ?_ ?_) | (with_reducible refine Le.cond ?_ ?_) | intro _ | split
theorem f18_mono {k k' : Nat} (hk : k ≤ k') {x1402 : Int} {x1403 : Int} {x1404 : (List Int)} : Le (f18 k x1402 x1403 x1404) (f18 k' x1402 x1403 x1404) := by
  unfold f18
  repeat' first | (with_reducible exact Le.rfl) | (with_reducible exact f18_l0_mono hk hk) | (with_reducible refine Le.bind ?_ ?_) | (with_reducible refine Le.cond ?_ ?_) | intro _ | split
theorem f19_mono {k k' : Nat} (hk : k ≤ k') {x1456 : Int} {x1457 : (List Int)} : Le (f19 k x1456 x1457) (f19 k' x1456 x1457) := by
  unfold f19
  repeat' first | (with_reducible exact Le.rfl) | (with_reducible refine Le.bind ?_ ?_) | (with_reducible refine Le.cond ?_ ?_) | intro _ | split
theorem f20_l0_mono {k k' : Nat} (hk : k ≤ k') : ∀ {n n' : Nat} (hn : n ≤ n') {y0 : (List Int)}, Le (f20_l0 k n y0) (f20_l0 k' n' y0)
  | 0, _, _ => Le.none rfl
  | n + 1, 0, h => absurd h (Nat.not_succ_le_zero n)
  | n + 1, n' + 1, hn => by
    rw [f20_l0.eq_2, f20_l0.eq_2]
    repeat' first | (with_reducible exact Le.rfl) | (with_reducible exact f20_l0_mono hk (Nat.le_of_succ_le_succ hn)) | (with_reducible refine Le.bind ?_ ?_) | (with_reducible refine Le.cond ?_ ?_) | intro _ | split
theorem f20_mono {k k' : Nat} (hk : k ≤ k') {x1463 : (List Int)} : Le (f20 k x1463) (f20 k' x1463) := by
  unfold f20
  repeat' first | (with_reducible exact Le.rfl) | (with_reducible exact f20_l0_mono hk hk) | (with_reducible refine Le.bind ?_ ?_) | (with_reducible refine Le.cond ?_ ?_) | intro _ | split
theorem f21_mono {k k' : Nat} (hk : k ≤ k') {x1488 : (List Int)} {x1489 : Int} {x1490 : (List Int)} : Le (f21 k x1488 x1489 x1490) (f21 k' x1488 x1489 x1490) := by
  unfold f21
  repeat' first | (with_reducible exact Le.rfl) | (with_reducible refine Le.bind ?_ ?_) | (with_reducible refine Le.cond ?_ ?_) | intro _ | split
theorem f22_l0_mono {k k' : Nat} (hk : k ≤ k') {x1498 : (List Int)} : ∀ {n n' : Nat} (hn : n ≤ n') {y0 : Int} {y1 : (List Int)}, Le (f22_l0 k x1498 n y0 y1) (f22_l0 k' x1498 n' y0 y1)
  | 0, _, _ => Le.none rfl
  | n + 1, 0, h => absurd h (Nat.not_succ_le_zero n)
  | n + 1, n' + 1, hn => by
    rw [f22_l0.eq_2, f22_l0.eq_2]
    repeat' first | (with_reducible exact Le.rfl) | (with_reducible exact f18_mono hk) | (with_reducible exact f22_l0_mono hk (Nat.le_of_succ_le_succ hn)) | (with_reducible refine Le.bind ?_ ?_) | (with_reducible refine Le.cond ?_ ?_) | intro _ | split
theorem f22_mono {k k' : Nat} (hk : k ≤ k') {x1498 : (List Int)} {x1499 : (List Int)} : Le (f22 k x1498 x1499) (f22 k' x1498 x1499) := by
  unfold f22
  repeat' first | (with_reducible exact Le.rfl) | (with_reducible exact f20_mono hk) | (with_reducible exact f22_l0_mono hk hk) | (with_reducible refine Le.bind ?_ ?_) | (with_reducible refine Le.cond ?_ ?_) | intro _ | split
theorem f23_mono {k k' : Nat} (hk : k ≤ k') {x1572 : Int} {x1573 : (List Int)} : Le (f23 k x1572 x1573) (f23 k' x1572 x1573) := by
  unfold f23
  repeat' first | (with_reducible exact Le.rfl) | (with_reducible refine Le.bind ?_ ?_) | (with_reducible refine Le.cond ?_ ?_) | intro _ | split
theorem f25_l0_mono {k k' : Nat} (hk : k ≤ k') {x1579 : (List Int)} : ∀ {n n' : Nat} (hn : n ≤ n') {y0 : Int} {y1 : (List Int)}, Le (f25_l0 k x1579 n y0 y1) (f25_l0 k' x1579 n' y0 y1)
  | 0, _, _ => Le.none rfl
  | n + 1, 0, h => absurd h (Nat.not_succ_le_zero n)
  | n + 1, n' + 1, hn => by
    rw [f25_l0.eq_2, f25_l0.eq_2]
    repeat' first | (with_reducible exact Le.rfl) | (with_reducible exact f25_l0_mono hk (Nat.le_of_succ_le_succ hn)) | (with_reducible refine Le.bind ?_ ?_) | (with_reducible refine Le.cond ?_ ?_) | intro _ | split
theorem f25_mono {k k' : Nat} (hk : k ≤ k') {x1579 : (List Int)} : Le (f25 k x1579) (f25 k' x1579) := by
  unfold f25
  repeat' first | (with_reducible exact Le.rfl) | (with_reducible exact f25_l0_mono hk hk) | (with_reducible refine Le.bind ?_ ?_) | (with_reducible refine Le.cond ?_ ?_) | intro _ | split
theorem f24_mono {k k' : Nat} (hk : k ≤ k') {x1934 : (List Int)} {x1935 : (List Int)} : Le (f24 k x1934 x1935) (f24 k' x1934 x1935) := by
  unfold f24
  repeat' first | (with_reducible exact Le.rfl) | (with_reducible refine Le.bind ?_ ?_) | (with_reducible refine Le.cond ?_ ?_) | intro _ | split
theorem f5_l0_mono {k k' : Nat} (hk : k ≤ k') {x1385 : (List S34Op)} : ∀ {n n' : Nat} (hn : n ≤ n') {y0 : Int} {y1 : Int} {y2 : (List Int)} {y3 : (List Int)}, Le (f5_l0 k x1385 n y0 y1 y2 y3) (f5_l0 k' x1385 n' y0 y1 y2 y3)
  | 0, _, _ => Le.none rfl
  | n + 1, 0, h => absurd h (Nat.not_succ_le_zero n)
  | n + 1, n' + 1, hn => by
    rw [f5_l0.eq_2, f5_l0.eq_2]
    repeat' first | (with_reducible exact Le.rfl) | (with_reducible exact f13_mono hk) | (with_reducible exact f18_mono hk) | (with_reducible exact f19_mono hk) | (with_reducible exact f20_mono hk) | (with_reducible exact f21_mono hk) | (with_reducible exact f22_mono hk) | (with_reducible exact f23_mono hk) | (with_reducible exact f15_mono hk) | (with_reducible exact f25_mono hk) | (with_reducible exact f24_mono hk) | (with_reducible exact f5_l0_mono hk (Nat.le_of_succ_le_succ hn)) | (with_reducible refine Le.bind ?_ ?_) | (with_reducible refine Le.cond ?_ ?_) | intro _ | split
theorem f5_mono {k k' : Nat} (hk : k ≤ k') {x1385 : (List S34Op)} : Le (f5 k x1385) (f5 k' x1385) := by
  unfold f5
  repeat' first | (with_reducible exact Le.rfl) | (with_reducible exact f12_mono hk) | (with_reducible exact f11_mono hk) | (with_reducible exact f5_l0_mono hk hk) | (with_reducible refine Le.bind ?_ ?_) | (with_reducible refine Le.cond ?_ ?_) | intro _ | split
theorem f31_mono {k k' : Nat} (hk : k ≤ k') {x2958 : (List Int)} {x2959 : Int} : Le (f31 k x2958 x2959) (f31 k' x2958 x2959) := by
  unfold f31
  repeat' first | (with_reducible exact Le.rfl) | (with_reducible refine Le.bind ?_ ?_) | (with_reducible refine Le.cond ?_ ?_) | intro _ | split
theorem f35_mono {k k' : Nat} (hk : k ≤ k') {x2969 : Int} {x2970 : (List Int)} {x2971 : Int} : Le (f35 k x2969 x2970 x2971) (f35 k' x2969 x2970 x2971) := by
  unfold f35
  repeat' first | (with_reducible exact Le.rfl) | (with_reducible refine Le.bind ?_ ?_) | (with_reducible refine Le.cond ?_ ?_) | intro _ | split
theorem f26_l0_mono {k k' : Nat} (hk : k ≤ k') {x2947 : Int} {x2948 : (List Int)} {x2949 : Int} : ∀ {n n' : Nat} (hn : n ≤ n') {y0 : Int} {y1 : Int}, Le (f26_l0 k x2947 x2948 x2949 n y0 y1) (f26_l0 k' x2947 x2948 x2949 n' y0 y1)
  | 0, _, _ => Le.none rfl
  | n + 1, 0, h => absurd h (Nat.not_succ_le_zero n)
  | n + 1, n' + 1, hn => by
    rw [f26_l0.eq_2, f26_l0.eq_2]
    repeat' first | (with_reducible exact Le.rfl) | (with_reducible exact f35_mono hk) | (with_reducible exact f26_l0_mono hk (Nat.le_of_succ_le_succ hn)) | (with_reducible refine Le.bind ?_ ?_) | (with_reducible refine Le.cond ?_ ?_) | intro _ | split
theorem f26_mono {k k' : Nat} (hk : k ≤ k') {x2947 : Int} {x2948 : (List Int)} {x2949 : Int} : Le (f26 k x2947 x2948 x2949) (f26 k' x2947 x2948 x2949) := by
  unfold f26
  repeat' first | (with_reducible exact Le.rfl) | (with_reducible exact f31_mono hk) | (with_reducible exact f26_l0_mono hk hk) | (with_reducible refine Le.bind ?_ ?_) | (with_reducible refine Le.cond ?_ ?_) | intro _ | split
theorem f27_mono {k k' : Nat} (hk : k ≤ k') {x3030 : (List Int)} {x3031 : Int} : Le (f27 k x3030 x3031) (f27 k' x3030 x3031) := by
  unfold f27
  repeat' first | (with_reducible exact Le.rfl) | (with_reducible refine Le.bind ?_ ?_) | (with_reducible refine Le.cond ?_ ?_) | intro _ | split
theorem f28_mono {k k' : Nat} (hk : k ≤ k') {x3039 : (List Int)} {x3040 : Int} : Le (f28 k x3039 x3040) (f28 k' x3039 x3040) := by
  unfold f28
  repeat' first | (with_reducible exact Le.rfl) | (with_reducible refine Le.bind ?_ ?_) | (with_reducible refine Le.cond ?_ ?_) | intro _ | split
theorem f29_mono {k k' : Nat} (hk : k ≤ k') {x3046 : Int} {x3047 : (List Int)} {x3048 : Int} : Le (f29 k x3046 x3047 x3048) (f29 k' x3046 x3047 x3048) := by
  unfold f29
  repeat' first | (with_reducible exact Le.rfl) | (with_reducible exact f27_mono hk) | (with_reducible exact f34b_mono hk) | (with_reducible refine Le.bind ?_ ?_) | (with_reducible refine Le.cond ?_ ?_) | intro _ | split
theorem f30_mono {k k' : Nat} (hk : k ≤ k') {x3076 : Int} {x3077 : (List Int)} {x3078 : Int} : Le (f30 k x3076 x3077 x3078) (f30 k' x3076 x3077 x3078) := by
  unfold f30
  repeat' first | (with_reducible exact Le.rfl) | (with_reducible exact f28_mono hk) | (with_reducible exact f31_mono hk) | (with_reducible refine Le.bind ?_ ?_) | (with_reducible refine Le.cond ?_ ?_) | intro _ | split
theorem f6_l0_mono {k k' : Nat} (hk : k ≤ k') {x2927 : (List Int)} {x2928 : (List S34Op)} : ∀ {n n' : Nat} (hn : n ≤ n') {y0 : Int} {y1 : (List Int)} {y2 : Int} {y3 : Int}, Le (f6_l0 k x2927 x2928 n y0 y1 y2 y3) (f6_l0 k' x2927 x2928 n' y0 y1 y2 y3)
  | 0, _, _ => Le.none rfl
  | n + 1, 0, h => absurd h (Nat.not_succ_le_zero n)
  | n + 1, n' + 1, hn => by
    rw [f6_l0.eq_2, f6_l0.eq_2]
    repeat' first | (with_reducible exact Le.rfl) | (with_reducible exact f16_mono hk) | (with_reducible exact f26_mono hk) | (with_reducible exact f27_mono hk) | (with_reducible exact f28_mono hk) | (with_reducible exact f29_mono hk) | (with_reducible exact f30_mono hk) | (with_reducible exact f24_mono hk) | (with_reducible exact f17_mono hk) | (with_reducible exact f31_mono hk) | (with_reducible exact f6_l0_mono hk (Nat.le_of_succ_le_succ hn)) | (with_reducible refine Le.bind ?_ ?_) | (with_reducible refine Le.cond ?_ ?_) | intro _ | split
theorem f6_mono {k k' : Nat} (hk : k ≤ k') {x2927 : (List Int)} {x2928 : (List S34Op)} : Le (f6 k x2927 x2928) (f6 k' x2927 x2928) := by
  unfold f6
  repeat' first | (with_reducible exact Le.rfl) | (with_reducible exact f14b_mono hk) | (with_reducible exact f11_mono hk) | (with_reducible exact f6_l0_mono hk hk) | (with_reducible refine Le.bind ?_ ?_) | (with_reducible refine Le.cond ?_ ?_) | intro _ | split
end Go.Proofs.Yticbhcccdfcogaa.W
