/- More rounds tell the same. -/
import Derived.Test.YthgbompoldmhmaaFa
namespace Go.Proofs.Ythgbompoldmhmaa.W
open Go Go.Q Go.Proofs
set_option linter.unusedVariables false
set_option linter.unusedSimpArgs false
theorem f32_l0_mono {k k' : Nat} (hk : k ≤ k') {x6 : (List Int)} : ∀ {n n' : Nat} (hn : n ≤ n') {y0 : Int} {y1 : Int} {y2 : Int}, Le (f32_l0 k x6 n y0 y1 y2) (f32_l0 k' x6 n' y0 y1 y2)
  | 0, _, _ => Le.none rfl
  | n + 1, 0, h => absurd h (Nat.not_succ_le_zero n)
  | n + 1, n' + 1, hn => by
    rw [f32_l0.eq_2, f32_l0.eq_2]
    repeat' first | (with_reducible exact Le.rfl) | (with_reducible exact f32_l0_mono hk (Nat.le_of_succ_le_succ hn)) | (with_reducible refine Le.bind ?_ ?_) | (with_reducible refine Le.cond ?_ ?_) | intro _ | split
theorem f32_mono {k k' : Nat} (hk : k ≤ k') {x6 : (List Int)} : Le (f32 k x6) (f32 k' x6) := by
  unfold f32
  repeat' first | (with_reducible exact Le.rfl) | (with_reducible exact f32_l0_mono hk hk) | (with_reducible refine Le.bind ?_ ?_) | (with_reducible refine Le.cond ?_ ?_) | intro _ | split
theorem f33_mono {k k' : Nat} (hk : k ≤ k') {x186 : (List Int)} {x187 : Int} : Le (f33 k x186 x187) (f33 k' x186 x187) := by
  unfold f33
  repeat' first | (with_reducible exact Le.rfl) | (with_reducible refine Le.bind ?_ ?_) | (with_reducible refine Le.cond ?_ ?_) | intro _ | split
theorem f14_l1_mono {k k' : Nat} (hk : k ≤ k') {x4 : (List Int)} {x488 : Int} : ∀ {n n' : Nat} (hn : n ≤ n') {y0 : Int} {y1 : (List Int)} {y2 : Int}, Le (f14_l1 k x4 x488 n y0 y1 y2) (f14_l1 k' x4 x488 n' y0 y1 y2)
  | 0, _, _ => Le.none rfl
  | n + 1, 0, h => absurd h (Nat.not_succ_le_zero n)
  | n + 1, n' + 1, hn => by
    rw [f14_l1.eq_2, f14_l1.eq_2]
    repeat' first | (with_reducible exact Le.rfl) | (with_reducible exact f14_l1_mono hk (Nat.le_of_succ_le_succ hn)) | (with_reducible refine Le.bind ?_ ?_) | (with_reducible refine Le.cond ?_ ?_) | intro _ | split
theorem f14_l0_mono {k k' : Nat} (hk : k ≤ k') {x4 : (List Int)} : ∀ {n n' : Nat} (hn : n ≤ n') {y0 : Int} {y1 : (List Int)} {y2 : Int}, Le (f14_l0 k x4 n y0 y1 y2) (f14_l0 k' x4 n' y0 y1 y2)
  | 0, _, _ => Le.none rfl
  | n + 1, 0, h => absurd h (Nat.not_succ_le_zero n)
  | n + 1, n' + 1, hn => by
    rw [f14_l0.eq_2, f14_l0.eq_2]
    repeat' first | (with_reducible exact Le.rfl) | (with_reducible exact f33_mono hk) | (with_reducible exact f14_l1_mono hk hk) | (with_reducible exact f14_l0_mono hk (Nat.le_of_succ_le_succ hn)) | (with_reducible refine Le.bind ?_ ?_) | (with_reducible refine Le.cond ?_ ?_) | intro _ | split
theorem f14_mono {k k' : Nat} (hk : k ≤ k') {x4 : (List Int)} : Le (f14 k x4) (f14 k' x4) := by
  unfold f14
  repeat' first | (with_reducible exact Le.rfl) | (with_reducible exact f32_mono hk) | (with_reducible exact f14_l0_mono hk hk) | (with_reducible refine Le.bind ?_ ?_) | (with_reducible refine Le.cond ?_ ?_) | intro _ | split
theorem f38_mono {k k' : Nat} (hk : k ≤ k') {x1414 : Int} : Le (f38 k x1414) (f38 k' x1414) := by
  unfold f38
  repeat' first | (with_reducible exact Le.rfl) | (with_reducible refine Le.bind ?_ ?_) | (with_reducible refine Le.cond ?_ ?_) | intro _ | split
theorem f26_mono {k k' : Nat} (hk : k ≤ k') {x1411 : Int} {x1412 : Int} : Le (f26 k x1411 x1412) (f26 k' x1411 x1412) := by
  unfold f26
  repeat' first | (with_reducible exact Le.rfl) | (with_reducible exact f38_mono hk) | (with_reducible refine Le.bind ?_ ?_) | (with_reducible refine Le.cond ?_ ?_) | intro _ | split
theorem f25_mono {k k' : Nat} (hk : k ≤ k') {x1406 : Int} {x1407 : (List Int)} {x1408 : Int} {x1409 : (List Int)} : Le (f25 k x1406 x1407 x1408 x1409) (f25 k' x1406 x1407 x1408 x1409) := by
  unfold f25
  repeat' first | (with_reducible exact Le.rfl) | (with_reducible exact f26_mono hk) | (with_reducible refine Le.bind ?_ ?_) | (with_reducible refine Le.cond ?_ ?_) | intro _ | split
theorem f43_l1_mono {k k' : Nat} (hk : k ≤ k') {x1390 : Int} : ∀ {n n' : Nat} (hn : n ≤ n') {y0 : Int} {y1 : (List S55coin)}, Le (f43_l1 k x1390 n y0 y1) (f43_l1 k' x1390 n' y0 y1)
  | 0, _, _ => Le.none rfl
  | n + 1, 0, h => absurd h (Nat.not_succ_le_zero n)
  | n + 1, n' + 1, hn => by
    rw [f43_l1.eq_2, f43_l1.eq_2]
    repeat' first | (with_reducible exact Le.rfl) | (with_reducible exact f25_mono hk) | (with_reducible exact f43_l1_mono hk (Nat.le_of_succ_le_succ hn)) | (with_reducible refine Le.bind ?_ ?_) | (with_reducible refine Le.cond ?_ ?_) | intro _ | split
theorem f43_l0_mono {k k' : Nat} (hk : k ≤ k') {x1390 : Int} {x1391 : Int} : ∀ {n n' : Nat} (hn : n ≤ n') {y0 : Int} {y1 : (List S55coin)}, Le (f43_l0 k x1390 x1391 n y0 y1) (f43_l0 k' x1390 x1391 n' y0 y1)
  | 0, _, _ => Le.none rfl
  | n + 1, 0, h => absurd h (Nat.not_succ_le_zero n)
  | n + 1, n' + 1, hn => by
    rw [f43_l0.eq_2, f43_l0.eq_2]
    repeat' first | (with_reducible exact Le.rfl) | (with_reducible exact f43_l1_mono hk hk) | (with_reducible exact f43_l0_mono hk (Nat.le_of_succ_le_succ hn)) | (with_reducible refine Le.bind ?_ ?_) | (with_reducible refine Le.cond ?_ ?_) | intro _ | split
theorem f43_mono {k k' : Nat} (hk : k ≤ k') {x1390 : Int} {x1391 : Int} {x1392 : (List S55coin)} : Le (f43 k x1390 x1391 x1392) (f43 k' x1390 x1391 x1392) := by
  unfold f43
  repeat' first | (with_reducible exact Le.rfl) | (with_reducible exact f43_l0_mono hk hk) | (with_reducible refine Le.bind ?_ ?_) | (with_reducible refine Le.cond ?_ ?_) | intro _ | split
theorem f46_l0_mono {k k' : Nat} (hk : k ≤ k') {x2593 : Int} {x2594 : Int} {x2595 : Int} : ∀ {n n' : Nat} (hn : n ≤ n') {y0 : Int} {y1 : (List S55coin)}, Le (f46_l0 k x2593 x2594 x2595 n y0 y1) (f46_l0 k' x2593 x2594 x2595 n' y0 y1)
  | 0, _, _ => Le.none rfl
  | n + 1, 0, h => absurd h (Nat.not_succ_le_zero n)
  | n + 1, n' + 1, hn => by
    rw [f46_l0.eq_2, f46_l0.eq_2]
    repeat' first | (with_reducible exact Le.rfl) | (with_reducible exact f46_l0_mono hk (Nat.le_of_succ_le_succ hn)) | (with_reducible refine Le.bind ?_ ?_) | (with_reducible refine Le.cond ?_ ?_) | intro _ | split
theorem f46_mono {k k' : Nat} (hk : k ≤ k') {x2593 : Int} {x2594 : Int} {x2595 : Int} {x2596 : (List S55coin)} : Le (f46 k x2593 x2594 x2595 x2596) (f46 k' x2593 x2594 x2595 x2596) := by
  unfold f46
  repeat' first | (with_reducible exact Le.rfl) | (with_reducible exact f46_l0_mono hk hk) | (with_reducible refine Le.bind ?_ ?_) | (with_reducible refine Le.cond ?_ ?_) | intro _ | split
theorem f45_l0_mono {k k' : Nat} (hk : k ≤ k') {x2585 : Int} : ∀ {n n' : Nat} (hn : n ≤ n') {y0 : Int} {y1 : Int} {y2 : (List S55coin)}, Le (f45_l0 k x2585 n y0 y1 y2) (f45_l0 k' x2585 n' y0 y1 y2)
  | 0, _, _ => Le.none rfl
  | n + 1, 0, h => absurd h (Nat.not_succ_le_zero n)
  | n + 1, n' + 1, hn => by
    rw [f45_l0.eq_2, f45_l0.eq_2]
    repeat' first | (with_reducible exact Le.rfl) | (with_reducible exact f46_mono hk) | (with_reducible exact f45_l0_mono hk (Nat.le_of_succ_le_succ hn)) | (with_reducible refine Le.bind ?_ ?_) | (with_reducible refine Le.cond ?_ ?_) | intro _ | split
theorem f45_mono {k k' : Nat} (hk : k ≤ k') {x2584 : Int} {x2585 : Int} {x2586 : Int} {x2587 : (List S55coin)} : Le (f45 k x2584 x2585 x2586 x2587) (f45 k' x2584 x2585 x2586 x2587) := by
  unfold f45
  repeat' first | (with_reducible exact Le.rfl) | (with_reducible exact f45_l0_mono hk hk) | (with_reducible exact f46_mono hk) | (with_reducible refine Le.bind ?_ ?_) | (with_reducible refine Le.cond ?_ ?_) | intro _ | split
theorem f44_l0_mono {k k' : Nat} (hk : k ≤ k') {x2288 : Int} {x2291 : (List S55coin)} : ∀ {n n' : Nat} (hn : n ≤ n') {y0 : Int} {y1 : Int}, Le (f44_l0 k x2288 x2291 n y0 y1) (f44_l0 k' x2288 x2291 n' y0 y1)
  | 0, _, _ => Le.none rfl
  | n + 1, 0, h => absurd h (Nat.not_succ_le_zero n)
  | n + 1, n' + 1, hn => by
    rw [f44_l0.eq_2, f44_l0.eq_2]
    repeat' first | (with_reducible exact Le.rfl) | (with_reducible exact f25_mono hk) | (with_reducible exact f44_l0_mono hk (Nat.le_of_succ_le_succ hn)) | (with_reducible refine Le.bind ?_ ?_) | (with_reducible refine Le.cond ?_ ?_) | intro _ | split
theorem f44_l1_mono {k k' : Nat} (hk : k ≤ k') {x3184 : Int} : ∀ {n n' : Nat} (hn : n ≤ n') {y0 : Int} {y1 : (List S55coin)}, Le (f44_l1 k x3184 n y0 y1) (f44_l1 k' x3184 n' y0 y1)
  | 0, _, _ => Le.none rfl
  | n + 1, 0, h => absurd h (Nat.not_succ_le_zero n)
  | n + 1, n' + 1, hn => by
    rw [f44_l1.eq_2, f44_l1.eq_2]
    repeat' first | (with_reducible exact Le.rfl) | (with_reducible exact f44_l1_mono hk (Nat.le_of_succ_le_succ hn)) | (with_reducible refine Le.bind ?_ ?_) | (with_reducible refine Le.cond ?_ ?_) | intro _ | split
theorem f44_l2_mono {k k' : Nat} (hk : k ≤ k') {x2289 : Int} {x2291 : (List S55coin)} : ∀ {n n' : Nat} (hn : n ≤ n') {y0 : Int} {y1 : Int}, Le (f44_l2 k x2289 x2291 n y0 y1) (f44_l2 k' x2289 x2291 n' y0 y1)
  | 0, _, _ => Le.none rfl
  | n + 1, 0, h => absurd h (Nat.not_succ_le_zero n)
  | n + 1, n' + 1, hn => by
    rw [f44_l2.eq_2, f44_l2.eq_2]
    repeat' first | (with_reducible exact Le.rfl) | (with_reducible exact f25_mono hk) | (with_reducible exact f44_l2_mono hk (Nat.le_of_succ_le_succ hn)) | (with_reducible refine Le.bind ?_ ?_) | (with_reducible refine Le.cond ?_ ?_) | intro _ | split
theorem f44_l3_mono {k k' : Nat} (hk : k ≤ k') {x3333 : Int} : ∀ {n n' : Nat} (hn : n ≤ n') {y0 : Int} {y1 : (List S55coin)}, Le (f44_l3 k x3333 n y0 y1) (f44_l3 k' x3333 n' y0 y1)
  | 0, _, _ => Le.none rfl
  | n + 1, 0, h => absurd h (Nat.not_succ_le_zero n)
  | n + 1, n' + 1, hn => by
    rw [f44_l3.eq_2, f44_l3.eq_2]
    repeat' first | (with_reducible exact Le.rfl) | (with_reducible exact f44_l3_mono hk (Nat.le_of_succ_le_succ hn)) | (with_reducible refine Le.bind ?_ ?_) | (with_reducible refine Le.cond ?_ ?_) | intro _ | split
theorem f44_l4_mono {k k' : Nat} (hk : k ≤ k') {x2291 : (List S55coin)} {x3391 : Int} : ∀ {n n' : Nat} (hn : n ≤ n') {y0 : Int} {y1 : Int}, Le (f44_l4 k x2291 x3391 n y0 y1) (f44_l4 k' x2291 x3391 n' y0 y1)
  | 0, _, _ => Le.none rfl
  | n + 1, 0, h => absurd h (Nat.not_succ_le_zero n)
  | n + 1, n' + 1, hn => by
    rw [f44_l4.eq_2, f44_l4.eq_2]
    repeat' first | (with_reducible exact Le.rfl) | (with_reducible exact f25_mono hk) | (with_reducible exact f44_l4_mono hk (Nat.le_of_succ_le_succ hn)) | (with_reducible refine Le.bind ?_ ?_) | (with_reducible refine Le.cond ?_ ?_) | intro _ | split
theorem b44_mono {rc2292 rc2292' : Int → Int → Int → (List S55coin) → Option (List S55coin)} (hrc2292 : ∀ (x2288 : Int) (x2289 : Int) (x2290 : Int) (x2291 : (List S55coin)), Le (rc2292 x2288 x2289 x2290 x2291) (rc2292' x2288 x2289 x2290 x2291)) {k k' : Nat} (hk : k ≤ k') {x2288 : Int} {x2289 : Int} {x2290 : Int} {x2291 : (List S55coin)} : Le (b44 rc2292 k x2288 x2289 x2290 x2291) (b44 rc2292' k' x2288 x2289 x2290 x2291) := by
  unfold b44
  repeat' first | (with_reducible exact Le.rfl) | (with_reducible exact f44_l0_mono hk hk) | (with_reducible exact f44_l1_mono hk hk) | (with_reducible exact f44_l2_mono hk hk) | (with_reducible exact f44_l3_mono hk hk) | (with_reducible exact f44_l4_mono hk hk) | (with_reducible exact f45_mono hk) | (with_reducible exact hrc2292 _ _ _ _) | (with_reducible refine Le.bind ?_ ?_) | (with_reducible refine Le.cond ?_ ?_) | intro _ | split
theorem f44_mono : ∀ {k k' : Nat} (hk : k ≤ k') {x2288 : Int} {x2289 : Int} {x2290 : Int} {x2291 : (List S55coin)}, Le (f44 k x2288 x2289 x2290 x2291) (f44 k' x2288 x2289 x2290 x2291)
  | 0, _, _ => Le.none rfl
  | k + 1, 0, h => absurd h (Nat.not_succ_le_zero k)
  | k + 1, k' + 1, h => b44_mono (fun _ _ _ _ => (f44_mono (Nat.le_of_succ_le_succ h))) (Nat.le_of_succ_le_succ h)
theorem f39_l0_mono {k k' : Nat} (hk : k ≤ k') {x1387 : Int} : ∀ {n n' : Nat} (hn : n ≤ n') {y0 : Int} {y1 : Int} {y2 : (List S55coin)}, Le (f39_l0 k x1387 n y0 y1 y2) (f39_l0 k' x1387 n' y0 y1 y2)
  | 0, _, _ => Le.none rfl
  | n + 1, 0, h => absurd h (Nat.not_succ_le_zero n)
  | n + 1, n' + 1, hn => by
    rw [f39_l0.eq_2, f39_l0.eq_2]
    repeat' first | (with_reducible exact Le.rfl) | (with_reducible exact f43_mono hk) | (with_reducible exact f39_l0_mono hk (Nat.le_of_succ_le_succ hn)) | (with_reducible refine Le.bind ?_ ?_) | (with_reducible refine Le.cond ?_ ?_) | intro _ | split
theorem f39_l2_mono {k k' : Nat} (hk : k ≤ k') {x1387 : Int} {x3575 : Int} : ∀ {n n' : Nat} (hn : n ≤ n') {y0 : Int} {y1 : Int} {y2 : (List S55coin)}, Le (f39_l2 k x1387 x3575 n y0 y1 y2) (f39_l2 k' x1387 x3575 n' y0 y1 y2)
  | 0, _, _ => Le.none rfl
  | n + 1, 0, h => absurd h (Nat.not_succ_le_zero n)
  | n + 1, n' + 1, hn => by
    rw [f39_l2.eq_2, f39_l2.eq_2]
    repeat' first | (with_reducible exact Le.rfl) | (with_reducible exact f44_mono hk) | (with_reducible exact f39_l2_mono hk (Nat.le_of_succ_le_succ hn)) | (with_reducible refine Le.bind ?_ ?_) | (with_reducible refine Le.cond ?_ ?_) | intro _ | split
theorem f39_l1_mono {k k' : Nat} (hk : k ≤ k') {x1387 : Int} : ∀ {n n' : Nat} (hn : n ≤ n') {y0 : Int} {y1 : (List S55coin)}, Le (f39_l1 k x1387 n y0 y1) (f39_l1 k' x1387 n' y0 y1)
  | 0, _, _ => Le.none rfl
  | n + 1, 0, h => absurd h (Nat.not_succ_le_zero n)
  | n + 1, n' + 1, hn => by
    rw [f39_l1.eq_2, f39_l1.eq_2]
    repeat' first | (with_reducible exact Le.rfl) | (with_reducible exact f39_l2_mono hk hk) | (with_reducible exact f44_mono hk) | (with_reducible exact f39_l1_mono hk (Nat.le_of_succ_le_succ hn)) | (with_reducible refine Le.bind ?_ ?_) | (with_reducible refine Le.cond ?_ ?_) | intro _ | split
theorem f39_mono {k k' : Nat} (hk : k ≤ k') {x1387 : Int} {x1388 : (List S55coin)} : Le (f39 k x1387 x1388) (f39 k' x1387 x1388) := by
  unfold f39
  repeat' first | (with_reducible exact Le.rfl) | (with_reducible exact f39_l0_mono hk hk) | (with_reducible exact f43_mono hk) | (with_reducible exact f39_l1_mono hk hk) | (with_reducible refine Le.bind ?_ ?_) | (with_reducible refine Le.cond ?_ ?_) | intro _ | split
theorem f27_mono {k k' : Nat} (hk : k ≤ k') {x1385 : (List S55coin)} : Le (f27 k x1385) (f27 k' x1385) := by
  unfold f27
  repeat' first | (with_reducible exact Le.rfl) | (with_reducible exact f39_mono hk) | (with_reducible refine Le.bind ?_ ?_) | (with_reducible refine Le.cond ?_ ?_) | intro _ | split
theorem f28_mono {k k' : Nat} (hk : k ≤ k') {x3633 : (List S55coin)} : Le (f28 k x3633) (f28 k' x3633) := by
  unfold f28
  repeat' first | (with_reducible exact Le.rfl) | (with_reducible refine Le.bind ?_ ?_) | (with_reducible refine Le.cond ?_ ?_) | intro _ | split
theorem f40_mono {k k' : Nat} (hk : k ≤ k') {x3669 : Int} : Le (f40 k x3669) (f40 k' x3669) := by
  unfold f40
  repeat' first | (with_reducible exact Le.rfl) | (with_reducible refine Le.bind ?_ ?_) | (with_reducible refine Le.cond ?_ ?_) | intro _ | split
theorem f29_l0_mono {k k' : Nat} (hk : k ≤ k') {x3653 : (List (List Int))} : ∀ {n n' : Nat} (hn : n ≤ n') {y0 : Int} {y1 : Int}, Le (f29_l0 k x3653 n y0 y1) (f29_l0 k' x3653 n' y0 y1)
  | 0, _, _ => Le.none rfl
  | n + 1, 0, h => absurd h (Nat.not_succ_le_zero n)
  | n + 1, n' + 1, hn => by
    rw [f29_l0.eq_2, f29_l0.eq_2]
    repeat' first | (with_reducible exact Le.rfl) | (with_reducible exact f29_l0_mono hk (Nat.le_of_succ_le_succ hn)) | (with_reducible refine Le.bind ?_ ?_) | (with_reducible refine Le.cond ?_ ?_) | intro _ | split
theorem f29_l1_mono {k k' : Nat} (hk : k ≤ k') {x3653 : (List (List Int))} : ∀ {n n' : Nat} (hn : n ≤ n') {y0 : Int} {y1 : (List Int)}, Le (f29_l1 k x3653 n y0 y1) (f29_l1 k' x3653 n' y0 y1)
  | 0, _, _ => Le.none rfl
  | n + 1, 0, h => absurd h (Nat.not_succ_le_zero n)
  | n + 1, n' + 1, hn => by
    rw [f29_l1.eq_2, f29_l1.eq_2]
    repeat' first | (with_reducible exact Le.rfl) | (with_reducible exact f29_l1_mono hk (Nat.le_of_succ_le_succ hn)) | (with_reducible refine Le.bind ?_ ?_) | (with_reducible refine Le.cond ?_ ?_) | intro _ | split
theorem f29_mono {k k' : Nat} (hk : k ≤ k') {x3653 : (List (List Int))} : Le (f29 k x3653) (f29 k' x3653) := by
  unfold f29
  repeat' first | (with_reducible exact Le.rfl) | (with_reducible exact f29_l0_mono hk hk) | (with_reducible exact f40_mono hk) | (with_reducible exact f29_l1_mono hk hk) | (with_reducible refine Le.bind ?_ ?_) | (with_reducible refine Le.cond ?_ ?_) | intro _ | split
theorem f9_l0_mono {k k' : Nat} (hk : k ≤ k') {x1276 : (List Int)} : ∀ {n n' : Nat} (hn : n ≤ n') {y0 : Int} {y1 : (List S55coin)}, Le (f9_l0 k x1276 n y0 y1) (f9_l0 k' x1276 n' y0 y1)
  | 0, _, _ => Le.none rfl
  | n + 1, 0, h => absurd h (Nat.not_succ_le_zero n)
  | n + 1, n' + 1, hn => by
    rw [f9_l0.eq_2, f9_l0.eq_2]
    repeat' first | (with_reducible exact Le.rfl) | (with_reducible exact f9_l0_mono hk (Nat.le_of_succ_le_succ hn)) | (with_reducible refine Le.bind ?_ ?_) | (with_reducible refine Le.cond ?_ ?_) | intro _ | split
theorem f9_l2_mono {k k' : Nat} (hk : k ≤ k') {x4060 : (List S55coin)} : ∀ {n n' : Nat} (hn : n ≤ n') {y0 : Int} {y1 : (List S55coin)}, Le (f9_l2 k x4060 n y0 y1) (f9_l2 k' x4060 n' y0 y1)
  | 0, _, _ => Le.none rfl
  | n + 1, 0, h => absurd h (Nat.not_succ_le_zero n)
  | n + 1, n' + 1, hn => by
    rw [f9_l2.eq_2, f9_l2.eq_2]
    repeat' first | (with_reducible exact Le.rfl) | (with_reducible exact f29_mono hk) | (with_reducible exact f9_l2_mono hk (Nat.le_of_succ_le_succ hn)) | (with_reducible refine Le.bind ?_ ?_) | (with_reducible refine Le.cond ?_ ?_) | intro _ | split
theorem f9_l1_mono {k k' : Nat} (hk : k ≤ k') {x1277 : Int} {x4001 : (List S55coin)} : ∀ {n n' : Nat} (hn : n ≤ n') {y0 : Int} {y1 : (List S55coin)}, Le (f9_l1 k x1277 x4001 n y0 y1) (f9_l1 k' x1277 x4001 n' y0 y1)
  | 0, _, _ => Le.none rfl
  | n + 1, 0, h => absurd h (Nat.not_succ_le_zero n)
  | n + 1, n' + 1, hn => by
    rw [f9_l1.eq_2, f9_l1.eq_2]
    repeat' first | (with_reducible exact Le.rfl) | (with_reducible exact f28_mono hk) | (with_reducible exact f9_l2_mono hk hk) | (with_reducible exact f27_mono hk) | (with_reducible exact f9_l1_mono hk (Nat.le_of_succ_le_succ hn)) | (with_reducible refine Le.bind ?_ ?_) | (with_reducible refine Le.cond ?_ ?_) | intro _ | split
theorem f9_l4_mono {k k' : Nat} (hk : k ≤ k') {x4230 : S55coin} : ∀ {n n' : Nat} (hn : n ≤ n') {y0 : Int} {y1 : (List Int)}, Le (f9_l4 k x4230 n y0 y1) (f9_l4 k' x4230 n' y0 y1)
  | 0, _, _ => Le.none rfl
  | n + 1, 0, h => absurd h (Nat.not_succ_le_zero n)
  | n + 1, n' + 1, hn => by
    rw [f9_l4.eq_2, f9_l4.eq_2]
    repeat' first | (with_reducible exact Le.rfl) | (with_reducible exact f9_l4_mono hk (Nat.le_of_succ_le_succ hn)) | (with_reducible refine Le.bind ?_ ?_) | (with_reducible refine Le.cond ?_ ?_) | intro _ | split
theorem f9_l3_mono {k k' : Nat} (hk : k ≤ k') {x4001 : (List S55coin)} {x4113 : (List S55coin)} : ∀ {n n' : Nat} (hn : n ≤ n') {y0 : Int} {y1 : (List Int)}, Le (f9_l3 k x4001 x4113 n y0 y1) (f9_l3 k' x4001 x4113 n' y0 y1)
  | 0, _, _ => Le.none rfl
  | n + 1, 0, h => absurd h (Nat.not_succ_le_zero n)
  | n + 1, n' + 1, hn => by
    rw [f9_l3.eq_2, f9_l3.eq_2]
    repeat' first | (with_reducible exact Le.rfl) | (with_reducible exact f9_l4_mono hk hk) | (with_reducible exact f9_l3_mono hk (Nat.le_of_succ_le_succ hn)) | (with_reducible refine Le.bind ?_ ?_) | (with_reducible refine Le.cond ?_ ?_) | intro _ | split
theorem f9_mono {k k' : Nat} (hk : k ≤ k') {x1276 : (List Int)} {x1277 : Int} : Le (f9 k x1276 x1277) (f9 k' x1276 x1277) := by
  unfold f9
  repeat' first | (with_reducible exact Le.rfl) | (with_reducible exact f9_l0_mono hk hk) | (with_reducible exact f27_mono hk) | (with_reducible exact f9_l1_mono hk hk) | (with_reducible exact f9_l3_mono hk hk) | (with_reducible refine Le.bind ?_ ?_) | (with_reducible refine Le.cond ?_ ?_) | intro _ | split
theorem f10_mono {k k' : Nat} (hk : k ≤ k') : Le (f10 k) (f10 k') := by
  unfold f10
  repeat' first | (with_reducible exact Le.rfl) | (with_reducible exact f14_mono hk) | (with_reducible exact f9_mono hk) | (with_reducible refine Le.bind ?_ ?_) | (with_reducible refine Le.cond ?_ ?_) | intro _ | split
theorem f4_l1_mono {k k' : Nat} (hk : k ≤ k') {x2 : (List Int)} {x4696 : (List Int)} {x4827 : Int} : ∀ {n n' : Nat} (hn : n ≤ n') {y0 : Int}, Le (f4_l1 k x2 x4696 x4827 n y0) (f4_l1 k' x2 x4696 x4827 n' y0)
  | 0, _, _ => Le.none rfl
  | n + 1, 0, h => absurd h (Nat.not_succ_le_zero n)
  | n + 1, n' + 1, hn => by
    rw [f4_l1.eq_2, f4_l1.eq_2]
    repeat' first | (with_reducible exact Le.rfl) | (with_reducible exact f4_l1_mono hk (Nat.le_of_succ_le_succ hn)) | (with_reducible refine Le.bind ?_ ?_) | (with_reducible refine Le.cond ?_ ?_) | intro _ | split
theorem f4_l0_mono {k k' : Nat} (hk : k ≤ k') {x2 : (List Int)} {x4696 : (List Int)} : ∀ {n n' : Nat} (hn : n ≤ n') {y0 : Int}, Le (f4_l0 k x2 x4696 n y0) (f4_l0 k' x2 x4696 n' y0)
  | 0, _, _ => Le.none rfl
  | n + 1, 0, h => absurd h (Nat.not_succ_le_zero n)
  | n + 1, n' + 1, hn => by
    rw [f4_l0.eq_2, f4_l0.eq_2]
    repeat' first | (with_reducible exact Le.rfl) | (with_reducible exact f4_l1_mono hk hk) | (with_reducible exact f4_l0_mono hk (Nat.le_of_succ_le_succ hn)) | (with_reducible refine Le.bind ?_ ?_) | (with_reducible refine Le.cond ?_ ?_) | intro _ | split
theorem f4_mono {k k' : Nat} (hk : k ≤ k') {x2 : (List Int)} : Le (f4 k x2) (f4 k' x2) := by
  unfold f4
  repeat' first | (with_reducible exact Le.rfl) | (with_reducible exact f14_mono hk) | (with_reducible exact f10_mono hk) | (with_reducible exact f4_l0_mono hk hk) | (with_reducible refine Le.bind ?_ ?_) | (with_reducible refine Le.cond ?_ ?_) | intro _ | split
theorem f30_l0_mono {k k' : Nat} (hk : k ≤ k') {x5403 : (List Int)} : ∀ {n n' : Nat} (hn : n ≤ n') {y0 : Int} {y1 : Int} {y2 : Int}, Le (f30_l0 k x5403 n y0 y1 y2) (f30_l0 k' x5403 n' y0 y1 y2)
  | 0, _, _ => Le.none rfl
  | n + 1, 0, h => absurd h (Nat.not_succ_le_zero n)
  | n + 1, n' + 1, hn => by
    rw [f30_l0.eq_2, f30_l0.eq_2]
    repeat' first | (with_reducible exact Le.rfl) | (with_reducible exact f30_l0_mono hk (Nat.le_of_succ_le_succ hn)) | (with_reducible refine Le.bind ?_ ?_) | (with_reducible refine Le.cond ?_ ?_) | intro _ | split
theorem f30_mono {k k' : Nat} (hk : k ≤ k') {x5403 : (List Int)} : Le (f30 k x5403) (f30 k' x5403) := by
  unfold f30
  repeat' first | (with_reducible exact Le.rfl) | (with_reducible exact f30_l0_mono hk hk) | (with_reducible refine Le.bind ?_ ?_) | (with_reducible refine Le.cond ?_ ?_) | intro _ | split
theorem f11_l0_mono {k k' : Nat} (hk : k ≤ k') {x5360 : (List Int)} : ∀ {n n' : Nat} (hn : n ≤ n') {y0 : Int}, Le (f11_l0 k x5360 n y0) (f11_l0 k' x5360 n' y0)
  | 0, _, _ => Le.none rfl
  | n + 1, 0, h => absurd h (Nat.not_succ_le_zero n)
  | n + 1, n' + 1, hn => by
    rw [f11_l0.eq_2, f11_l0.eq_2]
    repeat' first | (with_reducible exact Le.rfl) | (with_reducible exact f11_l0_mono hk (Nat.le_of_succ_le_succ hn)) | (with_reducible refine Le.bind ?_ ?_) | (with_reducible refine Le.cond ?_ ?_) | intro _ | split
theorem f11_mono {k k' : Nat} (hk : k ≤ k') {x5360 : (List Int)} : Le (f11 k x5360) (f11 k' x5360) := by
  unfold f11
  repeat' first | (with_reducible exact Le.rfl) | (with_reducible exact f11_l0_mono hk hk) | (with_reducible exact f30_mono hk) | (with_reducible refine Le.bind ?_ ?_) | (with_reducible refine Le.cond ?_ ?_) | intro _ | split
theorem f15_l1_mono {k k' : Nat} (hk : k ≤ k') {x5358 : (List Int)} {x5684 : Int} : ∀ {n n' : Nat} (hn : n ≤ n') {y0 : Int} {y1 : Int} {y2 : (List Int)}, Le (f15_l1 k x5358 x5684 n y0 y1 y2) (f15_l1 k' x5358 x5684 n' y0 y1 y2)
  | 0, _, _ => Le.none rfl
  | n + 1, 0, h => absurd h (Nat.not_succ_le_zero n)
  | n + 1, n' + 1, hn => by
    rw [f15_l1.eq_2, f15_l1.eq_2]
    repeat' first | (with_reducible exact Le.rfl) | (with_reducible exact f15_l1_mono hk (Nat.le_of_succ_le_succ hn)) | (with_reducible refine Le.bind ?_ ?_) | (with_reducible refine Le.cond ?_ ?_) | intro _ | split
theorem f15_l0_mono {k k' : Nat} (hk : k ≤ k') {x5358 : (List Int)} : ∀ {n n' : Nat} (hn : n ≤ n') {y0 : Int} {y1 : Int} {y2 : (List Int)}, Le (f15_l0 k x5358 n y0 y1 y2) (f15_l0 k' x5358 n' y0 y1 y2)
  | 0, _, _ => Le.none rfl
  | n + 1, 0, h => absurd h (Nat.not_succ_le_zero n)
  | n + 1, n' + 1, hn => by
    rw [f15_l0.eq_2, f15_l0.eq_2]
    repeat' first | (with_reducible exact Le.rfl) | (with_reducible exact f15_l1_mono hk hk) | (with_reducible exact f15_l0_mono hk (Nat.le_of_succ_le_succ hn)) | (with_reducible refine Le.bind ?_ ?_) | (with_reducible refine Le.cond ?_ ?_) | intro _ | split
theorem f15_mono {k k' : Nat} (hk : k ≤ k') {x5358 : (List Int)} : Le (f15 k x5358) (f15 k' x5358) := by
  unfold f15
  repeat' first | (with_reducible exact Le.rfl) | (with_reducible exact f11_mono hk) | (with_reducible exact f15_l0_mono hk hk) | (with_reducible refine Le.bind ?_ ?_) | (with_reducible refine Le.cond ?_ ?_) | intro _ | split
theorem f16_mono {k k' : Nat} (hk : k ≤ k') {x5755 : (List Int)} : Le (f16 k x5755) (f16 k' x5755) := by
  unfold f16
  repeat' first | (with_reducible exact Le.rfl) | (with_reducible exact f32_mono hk) | (with_reducible refine Le.bind ?_ ?_) | (with_reducible refine Le.cond ?_ ?_) | intro _ | split
theorem f17_mono {k k' : Nat} (hk : k ≤ k') {x5766 : (List Int)} : Le (f17 k x5766) (f17 k' x5766) := by
  unfold f17
  repeat' first | (with_reducible exact Le.rfl) | (with_reducible exact f11_mono hk) | (with_reducible exact f30_mono hk) | (with_reducible refine Le.bind ?_ ?_) | (with_reducible refine Le.cond ?_ ?_) | intro _ | split
theorem f5_l0_mono {k k' : Nat} (hk : k ≤ k') {x5837 : (List Int)} {x5840 : (List Int)} : ∀ {n n' : Nat} (hn : n ≤ n') {y0 : Int}, Le (f5_l0 k x5837 x5840 n y0) (f5_l0 k' x5837 x5840 n' y0)
  | 0, _, _ => Le.none rfl
  | n + 1, 0, h => absurd h (Nat.not_succ_le_zero n)
  | n + 1, n' + 1, hn => by
    rw [f5_l0.eq_2, f5_l0.eq_2]
    repeat' first | (with_reducible exact Le.rfl) | (with_reducible exact f5_l0_mono hk (Nat.le_of_succ_le_succ hn)) | (with_reducible refine Le.bind ?_ ?_) | (with_reducible refine Le.cond ?_ ?_) | intro _ | split
theorem f5_mono {k k' : Nat} (hk : k ≤ k') {x5353 : (List Int)} : Le (f5 k x5353) (f5 k' x5353) := by
  unfold f5
  repeat' first | (with_reducible exact Le.rfl) | (with_reducible exact f14_mono hk) | (with_reducible exact f15_mono hk) | (with_reducible exact f16_mono hk) | (with_reducible exact f17_mono hk) | (with_reducible exact f5_l0_mono hk hk) | (with_reducible exact f10_mono hk) | (with_reducible refine Le.bind ?_ ?_) | (with_reducible refine Le.cond ?_ ?_) | intro _ | split
theorem f18_l0_mono {k k' : Nat} (hk : k ≤ k') {x5914 : (List Int)} {x5915 : (List Int)} {x6062 : Int} : ∀ {n n' : Nat} (hn : n ≤ n') {y0 : Int} {y1 : Int}, Le (f18_l0 k x5914 x5915 x6062 n y0 y1) (f18_l0 k' x5914 x5915 x6062 n' y0 y1)
  | 0, _, _ => Le.none rfl
  | n + 1, 0, h => absurd h (Nat.not_succ_le_zero n)
  | n + 1, n' + 1, hn => by
    rw [f18_l0.eq_2, f18_l0.eq_2]
    repeat' first | (with_reducible exact Le.rfl) | (with_reducible exact f18_l0_mono hk (Nat.le_of_succ_le_succ hn)) | (with_reducible refine Le.bind ?_ ?_) | (with_reducible refine Le.cond ?_ ?_) | intro _ | split
theorem f18_mono {k k' : Nat} (hk : k ≤ k') {x5914 : (List Int)} {x5915 : (List Int)} : Le (f18 k x5914 x5915) (f18 k' x5914 x5915) := by
  unfold f18
  repeat' first | (with_reducible exact Le.rfl) | (with_reducible exact f18_l0_mono hk hk) | (with_reducible refine Le.bind ?_ ?_) | (with_reducible refine Le.cond ?_ ?_) | intro _ | split
theorem f12_l0_mono {k k' : Nat} (hk : k ≤ k') {x6277 : (List Int)} {x6278 : (List Int)} : ∀ {n n' : Nat} (hn : n ≤ n') {y0 : Int} {y1 : Int}, Le (f12_l0 k x6277 x6278 n y0 y1) (f12_l0 k' x6277 x6278 n' y0 y1)
  | 0, _, _ => Le.none rfl
  | n + 1, 0, h => absurd h (Nat.not_succ_le_zero n)
  | n + 1, n' + 1, hn => by
    rw [f12_l0.eq_2, f12_l0.eq_2]
    repeat' first | (with_reducible exact Le.rfl) | (with_reducible exact f12_l0_mono hk (Nat.le_of_succ_le_succ hn)) | (with_reducible refine Le.bind ?_ ?_) | (with_reducible refine Le.cond ?_ ?_) | intro _ | split
theorem f12_mono {k k' : Nat} (hk : k ≤ k') {x6277 : (List Int)} {x6278 : (List Int)} : Le (f12 k x6277 x6278) (f12 k' x6277 x6278) := by
  unfold f12
  repeat' first | (with_reducible exact Le.rfl) | (with_reducible exact f12_l0_mono hk hk) | (with_reducible refine Le.bind ?_ ?_) | (with_reducible refine Le.cond ?_ ?_) | intro _ | split
theorem f6_mono {k k' : Nat} (hk : k ≤ k') {x5911 : (List Int)} {x5912 : (List Int)} : Le (f6 k x5911 x5912) (f6 k' x5911 x5912) := by
  unfold f6
  repeat' first | (with_reducible exact Le.rfl) | (with_reducible exact f18_mono hk) | (with_reducible exact f12_mono hk) | (with_reducible exact f10_mono hk) | (with_reducible refine Le.bind ?_ ?_) | (with_reducible refine Le.cond ?_ ?_) | intro _ | split
theorem f34_mono {k k' : Nat} (hk : k ≤ k') {x6752 : (List Int)} : Le (f34 k x6752) (f34 k' x6752) := by
  unfold f34
  repeat' first | (with_reducible exact Le.rfl) | (with_reducible refine Le.bind ?_ ?_) | (with_reducible refine Le.cond ?_ ?_) | intro _ | split
theorem f20_mono {k k' : Nat} (hk : k ≤ k') {x6750 : (List Int)} : Le (f20 k x6750) (f20 k' x6750) := by
  unfold f20
  repeat' first | (with_reducible exact Le.rfl) | (with_reducible exact f34_mono hk) | (with_reducible refine Le.bind ?_ ?_) | (with_reducible refine Le.cond ?_ ?_) | intro _ | split
theorem f21_mono {k k' : Nat} (hk : k ≤ k') {x6761 : (List Int)} {x6762 : Int} : Le (f21 k x6761 x6762) (f21 k' x6761 x6762) := by
  unfold f21
  repeat' first | (with_reducible exact Le.rfl) | (with_reducible refine Le.bind ?_ ?_) | (with_reducible refine Le.cond ?_ ?_) | intro _ | split
theorem f19_l1_mono {k k' : Nat} (hk : k ≤ k') {x6765 : (List Int)} {x7417 : Int} : ∀ {n n' : Nat} (hn : n ≤ n') {y0 : Int} {y1 : (List Int)} {y2 : (List Int)}, Le (f19_l1 k x6765 x7417 n y0 y1 y2) (f19_l1 k' x6765 x7417 n' y0 y1 y2)
  | 0, _, _ => Le.none rfl
  | n + 1, 0, h => absurd h (Nat.not_succ_le_zero n)
  | n + 1, n' + 1, hn => by
    rw [f19_l1.eq_2, f19_l1.eq_2]
    repeat' first | (with_reducible exact Le.rfl) | (with_reducible exact f19_l1_mono hk (Nat.le_of_succ_le_succ hn)) | (with_reducible refine Le.bind ?_ ?_) | (with_reducible refine Le.cond ?_ ?_) | intro _ | split
theorem f19_l0_mono {k k' : Nat} (hk : k ≤ k') {x6765 : (List Int)} : ∀ {n n' : Nat} (hn : n ≤ n') {y0 : (List Int)} {y1 : (List Int)} {y2 : Int}, Le (f19_l0 k x6765 n y0 y1 y2) (f19_l0 k' x6765 n' y0 y1 y2)
  | 0, _, _ => Le.none rfl
  | n + 1, 0, h => absurd h (Nat.not_succ_le_zero n)
  | n + 1, n' + 1, hn => by
    rw [f19_l0.eq_2, f19_l0.eq_2]
    repeat' first | (with_reducible exact Le.rfl) | (with_reducible exact f33_mono hk) | (with_reducible exact f19_l1_mono hk hk) | (with_reducible exact f19_l0_mono hk (Nat.le_of_succ_le_succ hn)) | (with_reducible refine Le.bind ?_ ?_) | (with_reducible refine Le.cond ?_ ?_) | intro _ | split
theorem f19_mono {k k' : Nat} (hk : k ≤ k') {x6765 : (List Int)} : Le (f19 k x6765) (f19 k' x6765) := by
  unfold f19
  repeat' first | (with_reducible exact Le.rfl) | (with_reducible exact f32_mono hk) | (with_reducible exact f19_l0_mono hk hk) | (with_reducible refine Le.bind ?_ ?_) | (with_reducible refine Le.cond ?_ ?_) | intro _ | split
theorem f21b_mono {k k' : Nat} (hk : k ≤ k') : Le (f21b k) (f21b k') := by
  unfold f21b
  repeat' first | (with_reducible exact Le.rfl) | (with_reducible refine Le.bind ?_ ?_) | (with_reducible refine Le.cond ?_ ?_) | intro _ | split
theorem f21c_mono {k k' : Nat} (hk : k ≤ k') {x7809 : (List Int)} {x7810 : (List Int)} : Le (f21c k x7809 x7810) (f21c k' x7809 x7810) := by
  unfold f21c
  repeat' first | (with_reducible exact Le.rfl) | (with_reducible refine Le.bind ?_ ?_) | (with_reducible refine Le.cond ?_ ?_) | intro _ | split
theorem f8_mono {k k' : Nat} (hk : k ≤ k') {x6748 : (List Int)} : Le (f8 k x6748) (f8 k' x6748) := by
  unfold f8
  repeat' first | (with_reducible exact Le.rfl) | (with_reducible exact f20_mono hk) | (with_reducible exact f21_mono hk) | (with_reducible exact f19_mono hk) | (with_reducible exact f21b_mono hk) | (with_reducible exact f10_mono hk) | (with_reducible exact f21c_mono hk) | (with_reducible refine Le.bind ?_ ?_) | (with_reducible refine Le.cond ?_ ?_) | intro _ | split
theorem f24_mono {k k' : Nat} (hk : k ≤ k') {x8994 : (List Int)} {x8995 : Int} : Le (f24 k x8994 x8995) (f24 k' x8994 x8995) := by
  unfold f24
  repeat' first | (with_reducible exact Le.rfl) | (with_reducible refine Le.bind ?_ ?_) | (with_reducible refine Le.cond ?_ ?_) | intro _ | split
theorem f42_mono {k k' : Nat} (hk : k ≤ k') {x9006 : Int} {x9007 : (List Int)} {x9008 : Int} : Le (f42 k x9006 x9007 x9008) (f42 k' x9006 x9007 x9008) := by
  unfold f42
  repeat' first | (with_reducible exact Le.rfl) | (with_reducible refine Le.bind ?_ ?_) | (with_reducible refine Le.cond ?_ ?_) | intro _ | split
theorem f37_l0_mono {k k' : Nat} (hk : k ≤ k') {x8982 : Int} {x8983 : (List Int)} {x8984 : Int} : ∀ {n n' : Nat} (hn : n ≤ n') {y0 : Int} {y1 : Int}, Le (f37_l0 k x8982 x8983 x8984 n y0 y1) (f37_l0 k' x8982 x8983 x8984 n' y0 y1)
  | 0, _, _ => Le.none rfl
  | n + 1, 0, h => absurd h (Nat.not_succ_le_zero n)
  | n + 1, n' + 1, hn => by
    rw [f37_l0.eq_2, f37_l0.eq_2]
    repeat' first | (with_reducible exact Le.rfl) | (with_reducible exact f42_mono hk) | (with_reducible exact f37_l0_mono hk (Nat.le_of_succ_le_succ hn)) | (with_reducible refine Le.bind ?_ ?_) | (with_reducible refine Le.cond ?_ ?_) | intro _ | split
theorem f37_mono {k k' : Nat} (hk : k ≤ k') {x8982 : Int} {x8983 : (List Int)} {x8984 : Int} : Le (f37 k x8982 x8983 x8984) (f37 k' x8982 x8983 x8984) := by
  unfold f37
  repeat' first | (with_reducible exact Le.rfl) | (with_reducible exact f24_mono hk) | (with_reducible exact f37_l0_mono hk hk) | (with_reducible refine Le.bind ?_ ?_) | (with_reducible refine Le.cond ?_ ?_) | intro _ | split
theorem f22_l1_mono {k k' : Nat} (hk : k ≤ k') {x8905 : (List Int)} {x8906 : (List Int)} {x9744 : Int} {x9745 : Int} : ∀ {n n' : Nat} (hn : n ≤ n') {y0 : Bool} {y1 : Int}, Le (f22_l1 k x8905 x8906 x9744 x9745 n y0 y1) (f22_l1 k' x8905 x8906 x9744 x9745 n' y0 y1)
  | 0, _, _ => Le.none rfl
  | n + 1, 0, h => absurd h (Nat.not_succ_le_zero n)
  | n + 1, n' + 1, hn => by
    rw [f22_l1.eq_2, f22_l1.eq_2]
    repeat' first | (with_reducible exact Le.rfl) | (with_reducible exact f22_l1_mono hk (Nat.le_of_succ_le_succ hn)) | (with_reducible refine Le.bind ?_ ?_) | (with_reducible refine Le.cond ?_ ?_) | intro _ | split
theorem f22_l2_mono {k k' : Nat} (hk : k ≤ k') {x8905 : (List Int)} {x8906 : (List Int)} {x9744 : Int} {x9745 : Int} {x10232 : Int} : ∀ {n n' : Nat} (hn : n ≤ n') {y0 : Int}, Le (f22_l2 k x8905 x8906 x9744 x9745 x10232 n y0) (f22_l2 k' x8905 x8906 x9744 x9745 x10232 n' y0)
  | 0, _, _ => Le.none rfl
  | n + 1, 0, h => absurd h (Nat.not_succ_le_zero n)
  | n + 1, n' + 1, hn => by
    rw [f22_l2.eq_2, f22_l2.eq_2]
    repeat' first | (with_reducible exact Le.rfl) | (with_reducible exact f22_l2_mono hk (Nat.le_of_succ_le_succ hn)) | (with_reducible refine Le.bind ?_ ?_) | (with_reducible refine Le.cond ?_ ?_) | intro _ | split
theorem f22_l0_mono {k k' : Nat} (hk : k ≤ k') {x8905 : (List Int)} {x8906 : (List Int)} {x8907 : (List Int)} {x8908 : Int} : ∀ {n n' : Nat} (hn : n ≤ n') {y0 : Int} {y1 : Int} {y2 : Int}, Le (f22_l0 k x8905 x8906 x8907 x8908 n y0 y1 y2) (f22_l0 k' x8905 x8906 x8907 x8908 n' y0 y1 y2)
  | 0, _, _ => Le.none rfl
  | n + 1, 0, h => absurd h (Nat.not_succ_le_zero n)
  | n + 1, n' + 1, hn => by
    rw [f22_l0.eq_2, f22_l0.eq_2]
    repeat' first | (with_reducible exact Le.rfl) | (with_reducible exact f22_l1_mono hk hk) | (with_reducible exact f37_mono hk) | (with_reducible exact f22_l2_mono hk hk) | (with_reducible exact f22_l0_mono hk (Nat.le_of_succ_le_succ hn)) | (with_reducible refine Le.bind ?_ ?_) | (with_reducible refine Le.cond ?_ ?_) | intro _ | split
theorem f22_mono {k k' : Nat} (hk : k ≤ k') {x8905 : (List Int)} {x8906 : (List Int)} {x8907 : (List Int)} {x8908 : Int} : Le (f22 k x8905 x8906 x8907 x8908) (f22 k' x8905 x8906 x8907 x8908) := by
  unfold f22
  repeat' first | (with_reducible exact Le.rfl) | (with_reducible exact f22_l0_mono hk hk) | (with_reducible refine Le.bind ?_ ?_) | (with_reducible refine Le.cond ?_ ?_) | intro _ | split
theorem f23_mono {k k' : Nat} (hk : k ≤ k') {x10313 : (List Int)} {x10314 : Int} : Le (f23 k x10313 x10314) (f23 k' x10313 x10314) := by
  unfold f23
  repeat' first | (with_reducible exact Le.rfl) | (with_reducible refine Le.bind ?_ ?_) | (with_reducible refine Le.cond ?_ ?_) | intro _ | split
theorem f35_l0_mono {k k' : Nat} (hk : k ≤ k') {x10483 : Int} : ∀ {n n' : Nat} (hn : n ≤ n') {y0 : Int} {y1 : Int} {y2 : (List Int)} {y3 : Int}, Le (f35_l0 k x10483 n y0 y1 y2 y3) (f35_l0 k' x10483 n' y0 y1 y2 y3)
  | 0, _, _ => Le.none rfl
  | n + 1, 0, h => absurd h (Nat.not_succ_le_zero n)
  | n + 1, n' + 1, hn => by
    rw [f35_l0.eq_2, f35_l0.eq_2]
    repeat' first | (with_reducible exact Le.rfl) | (with_reducible exact f35_l0_mono hk (Nat.le_of_succ_le_succ hn)) | (with_reducible refine Le.bind ?_ ?_) | (with_reducible refine Le.cond ?_ ?_) | intro _ | split
theorem f35_mono {k k' : Nat} (hk : k ≤ k') {x10483 : Int} {x10484 : (List Int)} {x10485 : Int} : Le (f35 k x10483 x10484 x10485) (f35 k' x10483 x10484 x10485) := by
  unfold f35
  repeat' first | (with_reducible exact Le.rfl) | (with_reducible exact f23_mono hk) | (with_reducible exact f35_l0_mono hk hk) | (with_reducible refine Le.bind ?_ ?_) | (with_reducible refine Le.cond ?_ ?_) | intro _ | split
theorem f36_l0_mono {k k' : Nat} (hk : k ≤ k') {x10603 : Int} {x10604 : (List Int)} : ∀ {n n' : Nat} (hn : n ≤ n') {y0 : Int} {y1 : Int}, Le (f36_l0 k x10603 x10604 n y0 y1) (f36_l0 k' x10603 x10604 n' y0 y1)
  | 0, _, _ => Le.none rfl
  | n + 1, 0, h => absurd h (Nat.not_succ_le_zero n)
  | n + 1, n' + 1, hn => by
    rw [f36_l0.eq_2, f36_l0.eq_2]
    repeat' first | (with_reducible exact Le.rfl) | (with_reducible exact f36_l0_mono hk (Nat.le_of_succ_le_succ hn)) | (with_reducible refine Le.bind ?_ ?_) | (with_reducible refine Le.cond ?_ ?_) | intro _ | split
theorem f36_mono {k k' : Nat} (hk : k ≤ k') {x10602 : Int} {x10603 : Int} {x10604 : (List Int)} {x10605 : (List Int)} : Le (f36 k x10602 x10603 x10604 x10605) (f36 k' x10602 x10603 x10604 x10605) := by
  unfold f36
  repeat' first | (with_reducible exact Le.rfl) | (with_reducible exact f36_l0_mono hk hk) | (with_reducible refine Le.bind ?_ ?_) | (with_reducible refine Le.cond ?_ ?_) | intro _ | split
theorem f21d_l0_mono {k k' : Nat} (hk : k ≤ k') {x10476 : (List Int)} {x10479 : (List Int)} : ∀ {n n' : Nat} (hn : n ≤ n') {y0 : Int} {y1 : Int} {y2 : Int} {y3 : Int} {y4 : (List Int)} {y5 : Int}, Le (f21d_l0 k x10476 x10479 n y0 y1 y2 y3 y4 y5) (f21d_l0 k' x10476 x10479 n' y0 y1 y2 y3 y4 y5)
  | 0, _, _ => Le.none rfl
  | n + 1, 0, h => absurd h (Nat.not_succ_le_zero n)
  | n + 1, n' + 1, hn => by
    rw [f21d_l0.eq_2, f21d_l0.eq_2]
    repeat' first | (with_reducible exact Le.rfl) | (with_reducible exact f35_mono hk) | (with_reducible exact f36_mono hk) | (with_reducible exact f21d_l0_mono hk (Nat.le_of_succ_le_succ hn)) | (with_reducible refine Le.bind ?_ ?_) | (with_reducible refine Le.cond ?_ ?_) | intro _ | split
theorem f21d_mono {k k' : Nat} (hk : k ≤ k') {x10476 : (List Int)} {x10477 : (List Int)} {x10478 : Int} {x10479 : (List Int)} : Le (f21d k x10476 x10477 x10478 x10479) (f21d k' x10476 x10477 x10478 x10479) := by
  unfold f21d
  repeat' first | (with_reducible exact Le.rfl) | (with_reducible exact f21d_l0_mono hk hk) | (with_reducible refine Le.bind ?_ ?_) | (with_reducible refine Le.cond ?_ ?_) | intro _ | split
theorem f7_l0_mono {k k' : Nat} (hk : k ≤ k') {x7838 : (List Int)} {x7839 : (List Int)} {x11011 : (List Int)} {x11034 : (List Int)} : ∀ {n n' : Nat} (hn : n ≤ n') {y0 : Int} {y1 : Int}, Le (f7_l0 k x7838 x7839 x11011 x11034 n y0 y1) (f7_l0 k' x7838 x7839 x11011 x11034 n' y0 y1)
  | 0, _, _ => Le.none rfl
  | n + 1, 0, h => absurd h (Nat.not_succ_le_zero n)
  | n + 1, n' + 1, hn => by
    rw [f7_l0.eq_2, f7_l0.eq_2]
    repeat' first | (with_reducible exact Le.rfl) | (with_reducible exact f21_mono hk) | (with_reducible exact f22_mono hk) | (with_reducible exact f23_mono hk) | (with_reducible exact f24_mono hk) | (with_reducible exact f7_l0_mono hk (Nat.le_of_succ_le_succ hn)) | (with_reducible refine Le.bind ?_ ?_) | (with_reducible refine Le.cond ?_ ?_) | intro _ | split
theorem f7_l1_mono {k k' : Nat} (hk : k ≤ k') {x7838 : (List Int)} {x7839 : (List Int)} {x11007 : (List Int)} {x11008 : (List Int)} {x11239 : (List Int)} : ∀ {n n' : Nat} (hn : n ≤ n') {y0 : Int} {y1 : (List Int)} {y2 : Int} {y3 : Int}, Le (f7_l1 k x7838 x7839 x11007 x11008 x11239 n y0 y1 y2 y3) (f7_l1 k' x7838 x7839 x11007 x11008 x11239 n' y0 y1 y2 y3)
  | 0, _, _ => Le.none rfl
  | n + 1, 0, h => absurd h (Nat.not_succ_le_zero n)
  | n + 1, n' + 1, hn => by
    rw [f7_l1.eq_2, f7_l1.eq_2]
    repeat' first | (with_reducible exact Le.rfl) | (with_reducible exact f21d_mono hk) | (with_reducible exact f22_mono hk) | (with_reducible exact f23_mono hk) | (with_reducible exact f24_mono hk) | (with_reducible exact f7_l1_mono hk (Nat.le_of_succ_le_succ hn)) | (with_reducible refine Le.bind ?_ ?_) | (with_reducible refine Le.cond ?_ ?_) | intro _ | split
theorem f7_mono {k k' : Nat} (hk : k ≤ k') {x7838 : (List Int)} {x7839 : (List Int)} : Le (f7 k x7838 x7839) (f7 k' x7838 x7839) := by
  unfold f7
  repeat' first | (with_reducible exact Le.rfl) | (with_reducible exact f19_mono hk) | (with_reducible exact f15_mono hk) | (with_reducible exact f10_mono hk) | (with_reducible exact f20_mono hk) | (with_reducible exact f7_l0_mono hk hk) | (with_reducible exact f7_l1_mono hk hk) | (with_reducible refine Le.bind ?_ ?_) | (with_reducible refine Le.cond ?_ ?_) | intro _ | split
theorem f31_l1_mono {k k' : Nat} (hk : k ≤ k') {x12406 : (List S65coin)} {x12873 : Int} {x12874 : (List S65coin)} : ∀ {n n' : Nat} (hn : n ≤ n') {y0 : Int}, Le (f31_l1 k x12406 x12873 x12874 n y0) (f31_l1 k' x12406 x12873 x12874 n' y0)
  | 0, _, _ => Le.none rfl
  | n + 1, 0, h => absurd h (Nat.not_succ_le_zero n)
  | n + 1, n' + 1, hn => by
    rw [f31_l1.eq_2, f31_l1.eq_2]
    repeat' first | (with_reducible exact Le.rfl) | (with_reducible exact f31_l1_mono hk (Nat.le_of_succ_le_succ hn)) | (with_reducible refine Le.bind ?_ ?_) | (with_reducible refine Le.cond ?_ ?_) | intro _ | split
theorem f31_l0_mono {k k' : Nat} (hk : k ≤ k') {x12406 : (List S65coin)} : ∀ {n n' : Nat} (hn : n ≤ n') {y0 : Int} {y1 : (List S65coin)}, Le (f31_l0 k x12406 n y0 y1) (f31_l0 k' x12406 n' y0 y1)
  | 0, _, _ => Le.none rfl
  | n + 1, 0, h => absurd h (Nat.not_succ_le_zero n)
  | n + 1, n' + 1, hn => by
    rw [f31_l0.eq_2, f31_l0.eq_2]
    repeat' first | (with_reducible exact Le.rfl) | (with_reducible exact f31_l1_mono hk hk) | (with_reducible exact f31_l0_mono hk (Nat.le_of_succ_le_succ hn)) | (with_reducible refine Le.bind ?_ ?_) | (with_reducible refine Le.cond ?_ ?_) | intro _ | split
theorem f31_mono {k k' : Nat} (hk : k ≤ k') {x12406 : (List S65coin)} : Le (f31 k x12406) (f31 k' x12406) := by
  unfold f31
  repeat' first | (with_reducible exact Le.rfl) | (with_reducible exact f31_l0_mono hk hk) | (with_reducible refine Le.bind ?_ ?_) | (with_reducible refine Le.cond ?_ ?_) | intro _ | split
theorem f13_l0_mono {k k' : Nat} (hk : k ≤ k') {x12363 : (List Int)} : ∀ {n n' : Nat} (hn : n ≤ n') {y0 : Int} {y1 : (List S65coin)}, Le (f13_l0 k x12363 n y0 y1) (f13_l0 k' x12363 n' y0 y1)
  | 0, _, _ => Le.none rfl
  | n + 1, 0, h => absurd h (Nat.not_succ_le_zero n)
  | n + 1, n' + 1, hn => by
    rw [f13_l0.eq_2, f13_l0.eq_2]
    repeat' first | (with_reducible exact Le.rfl) | (with_reducible exact f13_l0_mono hk (Nat.le_of_succ_le_succ hn)) | (with_reducible refine Le.bind ?_ ?_) | (with_reducible refine Le.cond ?_ ?_) | intro _ | split
theorem f13_l2_mono {k k' : Nat} (hk : k ≤ k') {x13550 : (List S65coin)} : ∀ {n n' : Nat} (hn : n ≤ n') {y0 : Int} {y1 : (List S65coin)}, Le (f13_l2 k x13550 n y0 y1) (f13_l2 k' x13550 n' y0 y1)
  | 0, _, _ => Le.none rfl
  | n + 1, 0, h => absurd h (Nat.not_succ_le_zero n)
  | n + 1, n' + 1, hn => by
    rw [f13_l2.eq_2, f13_l2.eq_2]
    repeat' first | (with_reducible exact Le.rfl) | (with_reducible exact f13_l2_mono hk (Nat.le_of_succ_le_succ hn)) | (with_reducible refine Le.bind ?_ ?_) | (with_reducible refine Le.cond ?_ ?_) | intro _ | split
theorem f13_l1_mono {k k' : Nat} (hk : k ≤ k') {x12364 : Int} {x13487 : (List S65coin)} : ∀ {n n' : Nat} (hn : n ≤ n') {y0 : (List S65coin)} {y1 : Int}, Le (f13_l1 k x12364 x13487 n y0 y1) (f13_l1 k' x12364 x13487 n' y0 y1)
  | 0, _, _ => Le.none rfl
  | n + 1, 0, h => absurd h (Nat.not_succ_le_zero n)
  | n + 1, n' + 1, hn => by
    rw [f13_l1.eq_2, f13_l1.eq_2]
    repeat' first | (with_reducible exact Le.rfl) | (with_reducible exact f13_l2_mono hk hk) | (with_reducible exact f31_mono hk) | (with_reducible exact f13_l1_mono hk (Nat.le_of_succ_le_succ hn)) | (with_reducible refine Le.bind ?_ ?_) | (with_reducible refine Le.cond ?_ ?_) | intro _ | split
theorem f13_l4_mono {k k' : Nat} (hk : k ≤ k') {x12363 : (List Int)} {x13614 : (List S65coin)} {x13735 : Int} : ∀ {n n' : Nat} (hn : n ≤ n') {y0 : Int} {y1 : Int}, Le (f13_l4 k x12363 x13614 x13735 n y0 y1) (f13_l4 k' x12363 x13614 x13735 n' y0 y1)
  | 0, _, _ => Le.none rfl
  | n + 1, 0, h => absurd h (Nat.not_succ_le_zero n)
  | n + 1, n' + 1, hn => by
    rw [f13_l4.eq_2, f13_l4.eq_2]
    repeat' first | (with_reducible exact Le.rfl) | (with_reducible exact f13_l4_mono hk (Nat.le_of_succ_le_succ hn)) | (with_reducible refine Le.bind ?_ ?_) | (with_reducible refine Le.cond ?_ ?_) | intro _ | split
theorem f13_l3_mono {k k' : Nat} (hk : k ≤ k') {x12363 : (List Int)} {x13487 : (List S65coin)} {x13614 : (List S65coin)} : ∀ {n n' : Nat} (hn : n ≤ n') {y0 : Int} {y1 : Int}, Le (f13_l3 k x12363 x13487 x13614 n y0 y1) (f13_l3 k' x12363 x13487 x13614 n' y0 y1)
  | 0, _, _ => Le.none rfl
  | n + 1, 0, h => absurd h (Nat.not_succ_le_zero n)
  | n + 1, n' + 1, hn => by
    rw [f13_l3.eq_2, f13_l3.eq_2]
    repeat' first | (with_reducible exact Le.rfl) | (with_reducible exact f13_l4_mono hk hk) | (with_reducible exact f13_l3_mono hk (Nat.le_of_succ_le_succ hn)) | (with_reducible refine Le.bind ?_ ?_) | (with_reducible refine Le.cond ?_ ?_) | intro _ | split
theorem f13_mono {k k' : Nat} (hk : k ≤ k') {x12363 : (List Int)} {x12364 : Int} : Le (f13 k x12363 x12364) (f13 k' x12363 x12364) := by
  unfold f13
  repeat' first | (with_reducible exact Le.rfl) | (with_reducible exact f13_l0_mono hk hk) | (with_reducible exact f31_mono hk) | (with_reducible exact f13_l1_mono hk hk) | (with_reducible exact f13_l3_mono hk hk) | (with_reducible refine Le.bind ?_ ?_) | (with_reducible refine Le.cond ?_ ?_) | intro _ | split
theorem f3_l0_mono {k k' : Nat} (hk : k ≤ k') {x11494 : (List Int)} : ∀ {n n' : Nat} (hn : n ≤ n') {y0 : Int} {y1 : Bool} {y2 : Int}, Le (f3_l0 k x11494 n y0 y1 y2) (f3_l0 k' x11494 n' y0 y1 y2)
  | 0, _, _ => Le.none rfl
  | n + 1, 0, h => absurd h (Nat.not_succ_le_zero n)
  | n + 1, n' + 1, hn => by
    rw [f3_l0.eq_2, f3_l0.eq_2]
    repeat' first | (with_reducible exact Le.rfl) | (with_reducible exact f3_l0_mono hk (Nat.le_of_succ_le_succ hn)) | (with_reducible refine Le.bind ?_ ?_) | (with_reducible refine Le.cond ?_ ?_) | intro _ | split
theorem f3_l1_mono {k k' : Nat} (hk : k ≤ k') {x11494 : (List Int)} {x11495 : Int} {x13825 : (List Int)} : ∀ {n n' : Nat} (hn : n ≤ n') {y0 : Int}, Le (f3_l1 k x11494 x11495 x13825 n y0) (f3_l1 k' x11494 x11495 x13825 n' y0)
  | 0, _, _ => Le.none rfl
  | n + 1, 0, h => absurd h (Nat.not_succ_le_zero n)
  | n + 1, n' + 1, hn => by
    rw [f3_l1.eq_2, f3_l1.eq_2]
    repeat' first | (with_reducible exact Le.rfl) | (with_reducible exact f3_l1_mono hk (Nat.le_of_succ_le_succ hn)) | (with_reducible refine Le.bind ?_ ?_) | (with_reducible refine Le.cond ?_ ?_) | intro _ | split
theorem f3_mono {k k' : Nat} (hk : k ≤ k') {x11494 : (List Int)} {x11495 : Int} : Le (f3 k x11494 x11495) (f3 k' x11494 x11495) := by
  unfold f3
  repeat' first | (with_reducible exact Le.rfl) | (with_reducible exact f9_mono hk) | (with_reducible exact f10_mono hk) | (with_reducible exact f3_l0_mono hk hk) | (with_reducible exact f11_mono hk) | (with_reducible exact f3_l1_mono hk hk) | (with_reducible exact f12_mono hk) | (with_reducible exact f13_mono hk) | (with_reducible refine Le.bind ?_ ?_) | (with_reducible refine Le.cond ?_ ?_) | intro _ | split
end Go.Proofs.Ythgbompoldmhmaa.W
