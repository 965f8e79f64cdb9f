/- Texts joined; utf.Trim. -/
import Derived.Test.YtnbjdgamindikaaDoorPv2
import Derived.Test.YtnbjdgamindikaaDoorPu7
namespace Go.Proofs.YtnbjdgamindikaaDoor.W
open Go Go.Q Go.Proofs
set_option linter.unusedVariables false
set_option linter.unusedSimpArgs false

def joinR : List (List UInt8) → List UInt8
  | [] => []
  | w :: ws => 32 :: w ++ joinR ws
def joinL : List (List UInt8) → List UInt8
  | [] => []
  | w :: ws => w ++ joinR ws
def sumLen : List ByteArray → Nat
  | [] => 0
  | x :: l => (L x).length + sumLen l
theorem sumLen_append (a b : List ByteArray) : sumLen (a ++ b) = sumLen a + sumLen b := by
  induction a with
  | nil => simp [sumLen]
  | cons x a ih => simp only [List.cons_append, sumLen, ih]; omega
theorem sumLen_take (l : List ByteArray) (i : Nat) : sumLen (l.take i) ≤ sumLen l := by
  have := sumLen_append (l.take i) (l.drop i)
  rw [List.take_append_drop] at this
  omega
theorem joinR_append (a b : List (List UInt8)) : joinR (a ++ b) = joinR a ++ joinR b := by
  induction a with
  | nil => rfl
  | cons x a ih => simp [joinR, ih]
theorem joinR_len (l : List ByteArray) : (joinR (l.map L)).length = l.length + sumLen l := by
  induction l with
  | nil => rfl
  | cons x l ih => simp [joinR, sumLen, ih]; omega
theorem jl0 {k : Nat} (l : List ByteArray) (hl : l.length + sumLen l ≤ 4000000) : ∀ (n i : Nat) (m : Nat), i ≤ l.length → l.length - i < n → m ≤ 4000000 + sumLen (l.take i) → g_strings_Join_l0 k l n m i = some ((m + sumLen (l.drop i) : Nat) : Int) := by
  intro n
  induction n with
  | zero => intro i m _ h; omega
  | succ n ih =>
    intro i m hi hn hm
    have ht := sumLen_take l i
    rw [g_strings_Join_l0.eq_2]
    by_cases h : i < l.length
    · have e1 : l.take (i + 1) = l.take i ++ [l[i]] := List.take_succ_eq_append_getElem h
      have e2 : l.drop i = l[i] :: l.drop (i + 1) := List.drop_eq_getElem_cons h
      have s1 : sumLen (l.take (i + 1)) = sumLen (l.take i) + (L l[i]).length := by rw [e1, sumLen_append]; simp [sumLen]
      have s2 : sumLen (l.drop i) = (L l[i]).length + sumLen (l.drop (i + 1)) := by rw [e2]; rfl
      have ht2 := sumLen_take l (i + 1)
      rw [Option.bind_some, dt (show (i : Int) < ((List.length l : Nat) : Int) by omega), bt, ix_nat h, Option.bind_some, sizeL, wi (n := 9223372036854775807 - (m : Int)) (by omega) (by omega), wi (n := (m : Int) + ((L l[i]).length : Int)) (by omega) (by omega), wi (n := (i : Int) + 1) (by omega) (by omega)]
      simp only [Option.bind_some]
      rw [df (by omega), bf, show (m : Int) + ((L l[i]).length : Int) = ((m + (L l[i]).length : Nat) : Int) by omega, show ((i : Int) + 1) = ((i + 1 : Nat) : Int) by omega, ih (i + 1) _ (by omega) (by omega) (by omega), s2]
      congr 1; omega
    · rw [Option.bind_some, df (show ¬ (i : Int) < ((List.length l : Nat) : Int) by omega), bf, List.drop_of_length_le (by omega)]
      rfl
theorem wstr {k : Nat} {x : ByteArray} {o : List Int} (h : o.length + (L x).length ≤ 100000000) : g_strings_Builder_WriteString k x o = some () := by
  unfold g_strings_Builder_WriteString g_strings_Builder_copyCheck__c
  rw [Option.bind_some, dt (by rw [strInts_L, I_length]; omega)]
  rfl
theorem jl1 {k : Nat} (w : ByteArray) (l : List ByteArray) (hl : l.length + sumLen l + (L w).length ≤ 4000000) : ∀ (n i : Nat), i ≤ l.length → l.length - i < n →
    g_strings_Join_l1 k (w :: l) (ByteArray.mk #[32]) (l.length : Int) n i (I (L w ++ joinR ((l.take i).map L))) = some (I (L w ++ joinR (l.map L))) := by
  intro n
  induction n with
  | zero => intro i _ h; omega
  | succ n ih =>
    intro i hi hn
    rw [g_strings_Join_l1.eq_2]
    by_cases h : i < l.length
    · have hd : List.drop (Int.toNat 1) (List.take (Int.toNat ((List.length (w :: l) : Nat) : Int)) (w :: l)) = l := by
        rw [Int.toNat_natCast, List.take_length]; rfl
      have hj := joinR_len (l.take i)
      have ht := sumLen_take l i
      have ht2 := sumLen_take l (i + 1)
      have s1 : sumLen (l.take (i + 1)) = sumLen (l.take i) + (L l[i]).length := by rw [List.take_succ_eq_append_getElem h, sumLen_append]; simp [sumLen]
      rw [List.length_take] at hj
      have h32 : (L (ByteArray.mk #[32])).length = 1 := rfl
      rw [dt (show (i : Int) < (l.length : Int) by omega), bt, hd, ix_nat h, Option.bind_some, wstr (by rw [I_length, List.length_append, h32]; omega), Option.bind_some, wstr (by rw [List.length_append, strInts_L, I_length, I_length, List.length_append, h32]; omega), Option.bind_some, wi (by omega) (by omega), show ((i : Int) + 1) = ((i + 1 : Nat) : Int) by omega]
      rw [← ih (i + 1) (by omega) (by omega)]
      congr 1
      rw [List.take_succ_eq_append_getElem h, List.map_append, joinR_append, strInts_L, strInts_L, ← I_append, ← I_append]
      congr 1
      simp [joinR]
      rfl
    · rw [df (show ¬ (i : Int) < (l.length : Int) by omega), bf, List.take_of_length_le (by omega)]

theorem grow {k : Nat} {n : Int} (h0 : 0 < n) (h1 : n ≤ 100000000) : g_strings_Builder_Grow k n = some () := by
  unfold g_strings_Builder_Grow g_strings_Builder_copyCheck g_strings_Builder_grow
  rw [show IntKind.wrap .i64 (0 - 0) = 0 from rfl, show IntKind.wrap .i64 (2 * 0) = 0 from rfl, Option.bind_some, df (show ¬ n < 0 by omega), bf, dt h0, Option.bind_some, bt, wi (n := 0 + n) (by omega) (by omega), Int.zero_add, Option.bind_some, dt (show 0 ≤ n ∧ n ≤ 140737488355328 by omega), bt]
  rw [dt (by simp; omega), bt, dt (by simp), bt]
  rfl
theorem join {k : Nat} (l : List ByteArray) (hl : l.length + sumLen l ≤ 4000000) (hk : l.length < k) : ∃ r, g_strings_Join k l (ByteArray.mk #[32]) = some r ∧ L r = joinL (l.map L) := by
  unfold g_strings_Join
  have h32 : ((ByteArray.size (ByteArray.mk #[32]) : Nat) : Int) = 1 := rfl
  match l, hl, hk with
  | [], _, _ => exact ⟨_, rfl, rfl⟩
  | [w], _, _ => exact ⟨w, rfl, by simp [joinL, joinR]⟩
  | w :: v :: l, hl, hk =>
    have hlen : (List.length (w :: v :: l) : Int) = (l.length : Int) + 2 := by simp; omega
    have hll : l.length ≤ 4000000 := by simp at hl; omega
    have e1 : Int.tdiv 9223372036854775807 ((l.length : Int) + 1) = ((9223372036854775807 / (l.length + 1) : Nat) : Int) := rfl
    have e2 : 2 ≤ 9223372036854775807 / (l.length + 1) := by
      rw [Nat.le_div_iff_mul_le (by omega)]; omega
    have e3 : 9223372036854775807 / (l.length + 1) ≤ 9223372036854775807 := Nat.div_le_self _ _
    rw [hlen, h32]
    rw [Option.bind_some, df (show ¬ (l.length : Int) + 2 = 0 by omega), bf, Option.bind_some, df (show ¬ (l.length : Int) + 2 = 1 by omega), bf]
    rw [show (decide ((0 : Int) < 1)) = true from rfl, Option.bind_some, bt, wi (n := (l.length : Int) + 2 - 1) (by omega) (by omega), show (l.length : Int) + 2 - 1 = (l.length : Int) + 1 by omega]
    simp only [Option.bind_some]
    rw [show (!((l.length : Int) + 1 == 0)) = true by simp; omega, bt, e1, wi (n := ((9223372036854775807 / (l.length + 1) : Nat) : Int)) (by omega) (by omega), df (show ¬ ((9223372036854775807 / (l.length + 1) : Nat) : Int) ≤ 1 by omega)]
    simp only [Option.bind_some, bf]
    rw [wi (n := 1 * ((l.length : Int) + 1)) (by omega) (by omega), wi (n := 0 + 1 * ((l.length : Int) + 1)) (by omega) (by omega), show 0 + 1 * ((l.length : Int) + 1) = ((l.length + 1 : Nat) : Int) by omega]
    have hj := jl0 (k := k) (w :: v :: l) hl k 0 (l.length + 1) (by omega) (by omega) (by omega)
    rw [List.drop_zero] at hj
    have hj' : g_strings_Join_l0 k (w :: v :: l) k ((l.length + 1 : Nat) : Int) 0 = some ((l.length + 1 + sumLen (w :: v :: l) : Nat) : Int) := hj
    rw [hj', Option.bind_some, grow (by omega) (by omega), Option.bind_some, show ix (w :: v :: l) 0 = some w from rfl, Option.bind_some]
    have hw : (L w).length ≤ sumLen (w :: v :: l) := by simp only [sumLen]; omega
    rw [wstr (by simp; omega), Option.bind_some, dt (by omega), bt]
    have hd : ((List.length (List.drop (Int.toNat 1) (List.take (Int.toNat ((l.length : Int) + 2)) (w :: v :: l))) : Nat) : Int) = ((v :: l).length : Int) := by
      rw [← hlen, Int.toNat_natCast, List.take_length]; rfl
    rw [hd]
    have hgo := jl1 (k := k) w (v :: l) (by simp [sumLen] at hl ⊢; omega) k 0 (by omega) (by simp at hk ⊢; omega)
    have hgo' : g_strings_Join_l1 k (w :: v :: l) (ByteArray.mk #[32]) ((v :: l).length : Int) k 0 (([] : List Int) ++ strInts w) = some (I (L w ++ joinR ((v :: l).map L))) := by
      rw [← hgo]
      congr 1
      simp [joinR, strInts_L]
    rw [hgo', Option.bind_some]
    unfold g_strings_Builder_String__b
    refine ⟨strOf (I (joinL ((w :: v :: l).map L))), ?_, L_strOf_I _⟩
    by_cases hz : List.length (I (L w ++ joinR ((v :: l).map L))) = 0
    · rw [I_length] at hz
      simp [joinR] at hz
    · rw [df hz]; rfl

theorem joinR_no (l : List (List UInt8)) : True := trivial

def sumW : List (List UInt8) → Nat
  | [] => 0
  | w :: ws => w.length + sumW ws
theorem sumLen_W (l : List ByteArray) : sumLen l = sumW (l.map L) := by
  induction l with
  | nil => rfl
  | cons x l ih => simp [sumLen, sumW, ih]
theorem sumW_split : ∀ l : List UInt8, sumW (splitL l) ≤ l.length
  | [] => by simp [splitL, sumW]
  | c :: t => by
    have ih := sumW_split t
    rw [splitL]
    split
    · simp [sumW]; omega
    · split
      · rename_i h; exact absurd h (splitL_ne t)
      · rename_i w ws h
        rw [h] at ih
        simp [sumW] at ih ⊢
        omega
theorem sumLen_filter (p : ByteArray → Bool) : ∀ l : List ByteArray, sumLen (l.filter p) ≤ sumLen l
  | [] => by simp [sumLen]
  | x :: l => by
    have ih := sumLen_filter p l
    rw [List.filter_cons]
    split <;> simp [sumLen] <;> omega
def trimL (l : List UInt8) : List UInt8 := joinL ((splitL l).filter fun w => !decide (w = []))
theorem utfTrim {k : Nat} {s : ByteArray} (hs : (L s).length ≤ 1048576) (hk : (L s).length + 2 < k) : ∃ r, g_utf_Trim k s = some r ∧ L r = trimL (L s) := by
  unfold g_utf_Trim g_strings_SplitSeq g_strings_splitSeq
  simp only [Option.bind_some]
  obtain ⟨r, R, h1, h2, h3⟩ := collect (k := k) (s := s) hs (by omega)
  rw [h1]
  simp only [Option.bind_some]
  rw [deleteFunc R (by omega) (by omega)]
  simp only [Option.bind_some]
  have hf := List.length_filter_le neB R
  have hsum := sumLen_filter neB R
  rw [sumLen_W R, h2] at hsum
  have hsp := sumW_split (L s)
  obtain ⟨q, q1, q2⟩ := join (k := k) (R.filter neB) (by omega) (by omega)
  rw [q1]
  refine ⟨q, rfl, ?_⟩
  rw [q2, trimL, ← h2, List.filter_map]
  rfl
end Go.Proofs.YtnbjdgamindikaaDoor.W
