/- Texts split at blanks; empty ones taken out. -/
import Derived.Test.YtnbjdgamindikaaDoorPv1
namespace Go.Proofs.YtnbjdgamindikaaDoor.W
open Go Go.Q Go.Proofs
set_option linter.unusedVariables false
set_option linter.unusedSimpArgs false

def splitL : List UInt8 → List (List UInt8)
  | [] => [[]]
  | c :: t => if c = 32 then [] :: splitL t else match splitL t with
    | [] => [[c]]
    | w :: ws => (c :: w) :: ws
theorem splitL_ne : ∀ l, splitL l ≠ []
  | [] => by simp [splitL]
  | c :: t => by
    rw [splitL]
    split
    · simp
    · split <;> simp
theorem splitL_no : ∀ (l : List UInt8), (∀ c ∈ l, c ≠ 32) → splitL l = [l]
  | [], _ => rfl
  | c :: t, h => by
    rw [splitL, if_neg (h c (by simp)), splitL_no t (fun x hx => h x (by simp [hx]))]
theorem splitL_at : ∀ (a b : List UInt8), (∀ c ∈ a, c ≠ 32) → splitL (a ++ 32 :: b) = a :: splitL b
  | [], b, _ => by simp [splitL]
  | c :: a, b, h => by
    rw [List.cons_append, splitL, if_neg (h c (by simp)), splitL_at a b (fun x hx => h x (by simp [hx]))]
theorem first32 : ∀ (l : List UInt8), (∀ c ∈ l, c ≠ 32) ∨ ∃ a b, l = a ++ 32 :: b ∧ ∀ c ∈ a, c ≠ 32
  | [] => .inl (by simp)
  | c :: t => by
    by_cases hc : c = 32
    · exact .inr ⟨[], t, by rw [hc]; rfl, by simp⟩
    · rcases first32 t with h | ⟨a, b, h1, h2⟩
      · exact .inl (by intro x hx; simp at hx; rcases hx with rfl | hx; exact hc; exact h x hx)
      · exact .inr ⟨c :: a, b, by rw [h1]; rfl, by intro x hx; simp at hx; rcases hx with rfl | hx; exact hc; exact h2 x hx⟩
theorem getB (s : ByteArray) (i : Nat) : s[i]! = (L s).getD i 0 := by
  by_cases h : i < s.size
  · have h' : i < (L s).length := by rw [← L_size]; exact h
    rw [getElem!_pos s i h, List.getD_eq_getElem?_getD, List.getElem?_eq_getElem h']
    rfl
  · have h' : ¬ i < (L s).length := by rw [← L_size]; exact h
    rw [getElem!_neg s i h, List.getD_eq_getElem?_getD, List.getElem?_eq_none (by omega)]
    rfl
theorem ix_none {s : ByteArray} (h : ∀ c ∈ L s, c ≠ 32) : ixByte s 32 = -1 := by
  unfold ixByte
  have : (List.range s.size).find? (fun i => s[i]! == (32 : Int).toNat.toUInt8) = none := by
    rw [List.find?_eq_none]
    intro i hi
    rw [getB]
    have hi' : i < (L s).length := by rw [← L_size]; simpa using hi
    rw [List.getD_eq_getElem?_getD, List.getElem?_eq_getElem hi']
    have := h _ (List.getElem_mem hi')
    simpa using this
  rw [this]
theorem ix_some {s : ByteArray} {a b : List UInt8} (h : L s = a ++ 32 :: b) (ha : ∀ c ∈ a, c ≠ 32) : ixByte s 32 = (a.length : Int) := by
  unfold ixByte
  have : (List.range s.size).find? (fun i => s[i]! == (32 : Int).toNat.toUInt8) = some a.length := by
    rw [List.find?_range_eq_some]
    refine ⟨?_, ?_, ?_⟩
    · rw [getB, h]; simp
    · simp [L_size, h]
    · intro j hj
      rw [getB, h, List.getD_eq_getElem?_getD, List.getElem?_append_left hj, List.getElem?_eq_getElem hj]
      have := ha _ (List.getElem_mem hj)
      simpa using this
  rw [this]

theorem index_eq {k : Nat} {s : ByteArray} : g_strings_Index k s (ByteArray.mk #[32]) = some (ixByte s 32) := by
  unfold g_strings_Index g_internal_stringslite_Index
  rw [show (decide (((ByteArray.size (ByteArray.mk #[32]) : Nat) : Int) = 0)) = false from rfl, show (decide (((ByteArray.size (ByteArray.mk #[32]) : Nat) : Int) = 1)) = true from rfl]
  simp only [Option.bind_some, bf, bt, beq_toList]
  by_cases h : L (ByteArray.mk #[32]) = L s
  · rw [dt h]
    have : ixByte s 32 = ((([] : List UInt8).length : Nat) : Int) := ix_some (b := []) (by rw [← h]; rfl) (by simp)
    simp only [Option.bind_some, bt, this]
    rfl
  · rw [df h]
    simp only [bf]
    rw [show ix (strInts (ByteArray.mk #[32])) 0 = some 32 from rfl]
    rfl
theorem split_go {k : Nat} : ∀ (n : Nat) (s : ByteArray) (acc : List ByteArray), (L s).length < n → acc.length + (L s).length ≤ 1048576 →
    ∃ r R, g_slices_AppendSeq_string_string_l1 k (ByteArray.mk #[32]) 0 n s acc = some (r, R) ∧ R.map L ++ [L r] = acc.map L ++ splitL (L s) ∧ R.length ≤ acc.length + (L s).length := by
  intro n
  induction n with
  | zero => intro s _ h; omega
  | succ n ih =>
    intro s acc hn hb
    rw [g_slices_AppendSeq_string_string_l1.eq_2, index_eq, Option.bind_some]
    rcases first32 (L s) with h | ⟨a, b, h1, h2⟩
    · rw [ix_none h, dt (show (-1 : Int) < 0 by omega), bt]
      exact ⟨s, acc, rfl, by rw [splitL_no _ h], by omega⟩
    · have hl : (L s).length = a.length + 1 + b.length := by rw [h1]; simp; omega
      rw [ix_some h1 h2, df (show ¬ ((a.length : Nat) : Int) < 0 by omega), bf, wi (n := (a.length : Int) + 0) (by omega) (by omega), Int.add_zero]
      rw [dt (show 0 ≤ (0 : Int) ∧ (0 : Int) ≤ ((a.length : Nat) : Int) ∧ ((a.length : Nat) : Int) ≤ ((ByteArray.size s : Nat) : Int) by rw [L_size]; omega), bt, Option.bind_some]
      rw [dt (by simp; omega), bt, show ((ByteArray.size (ByteArray.mk #[32]) : Nat) : Int) = 1 from rfl, wi (n := (a.length : Int) + 1) (by omega) (by omega), Option.bind_some, sizeL]
      rw [cutOk (by omega) (by omega), bt, Option.bind_some]
      have e1 : L (s.extract (Int.toNat 0) (Int.toNat ((a.length : Nat) : Int))) = a := by
        rw [L_extract, h1]; simp
      have e2 : L (s.extract (Int.toNat (((a.length : Nat) : Int) + 1)) (Int.toNat ((L s).length : Int))) = b := by
        rw [show Int.toNat (((a.length : Nat) : Int) + 1) = a.length + 1 by omega, hdL, h1]
        rw [show a ++ 32 :: b = (a ++ [32]) ++ b by simp, List.drop_append_of_le_length (by simp), List.drop_of_length_le (by simp)]
        rfl
      obtain ⟨r, R, g1, g2, g3⟩ := ih (s.extract (Int.toNat (((a.length : Nat) : Int) + 1)) (Int.toNat ((L s).length : Int))) (acc ++ [s.extract (Int.toNat 0) (Int.toNat ((a.length : Nat) : Int))]) (by rw [e2]; omega) (by rw [e2]; simp; omega)
      rw [e2] at g2 g3
      refine ⟨r, R, g1, ?_, by simp at g3; omega⟩
      rw [g2, List.map_append, h1, splitL_at a b h2]
      simp [e1]
      exact e1
theorem collect {k : Nat} {s : ByteArray} (hs : (L s).length ≤ 1048576) (hk : (L s).length < k) : ∃ r R, g_slices_Collect_string k (ByteArray.mk #[32]) s 0 = some (r, R) ∧ R.map L = splitL (L s) ∧ R.length ≤ (L s).length + 1 := by
  unfold g_slices_Collect_string g_slices_AppendSeq_string_string
  rw [show (decide (((ByteArray.size (ByteArray.mk #[32]) : Nat) : Int) = 0)) = false from rfl]
  simp only [Option.bind_some, bf]
  obtain ⟨r, R, h1, h2, h3⟩ := split_go (k := k) k s [] hk (by simp; omega)
  rw [h1]
  simp only [Option.bind_some]
  simp at h3
  rw [dt (by simp; omega), bt]
  refine ⟨_, _, rfl, ?_, by simp; omega⟩
  rw [List.map_append]
  simpa using h2

def neB (x : ByteArray) : Bool := !decide (L x = [])
theorem isE {k : Nat} {x : ByteArray} : g_utf_Trim_1 k x = some (!neB x) := by
  unfold g_utf_Trim_1 neB
  rw [Option.bind_some, beq_toList]
  simp [L]
theorem idx_go {k : Nat} (l : List ByteArray) (hl : l.length ≤ 2000000) : ∀ (n i : Nat), i ≤ l.length → l.length - i < n → (∀ x ∈ l.take i, neB x = true) →
    (g_slices_IndexFunc_string_string_l0 k l n i = some (Sum.inr ()) ∧ ∀ x ∈ l, neB x = true) ∨ ∃ j, ∃ h : j < l.length, g_slices_IndexFunc_string_string_l0 k l n i = some (Sum.inl (j : Int)) ∧ (∀ x ∈ l.take j, neB x = true) ∧ neB l[j] = false := by
  intro n
  induction n with
  | zero => intro i _ h; omega
  | succ n ih =>
    intro i hi hn ha
    rw [g_slices_IndexFunc_string_string_l0.eq_2]
    by_cases h : i < l.length
    · rw [Option.bind_some, dt (show (i : Int) < ((List.length l : Nat) : Int) by omega), bt, ix_nat h, Option.bind_some, isE, Option.bind_some, wi (by omega) (by omega), show ((i : Int) + 1) = ((i + 1 : Nat) : Int) by omega]
      cases hx : neB l[i] with
      | true =>
        simp only [Bool.not_true, bf]
        refine ih (i + 1) (by omega) (by omega) fun x hx' => ?_
        rw [List.take_succ_eq_append_getElem h, List.mem_append] at hx'
        rcases hx' with h' | h'
        · exact ha x h'
        · simp at h'; subst h'; exact hx
      | false =>
        exact .inr ⟨i, h, rfl, ha, hx⟩
    · rw [Option.bind_some, df (show ¬ (i : Int) < ((List.length l : Nat) : Int) by omega), bf]
      rw [List.take_of_length_le (by omega)] at ha
      exact .inl ⟨rfl, ha⟩
theorem del_go {k : Nat} (l0 : List ByteArray) (hl : l0.length ≤ 2000000) : ∀ (n i j : Nat) (l : List ByteArray), i < j → j ≤ l0.length → l0.length - j < n → l.length = l0.length → l.take i = (l0.take j).filter neB → l.drop j = l0.drop j →
    ∃ i' l', g_slices_DeleteFunc_string_string_l0 k n i j l = some (((i' : Nat) : Int), l') ∧ l'.length = l0.length ∧ i' ≤ l0.length ∧ l'.take i' = l0.filter neB := by
  intro n
  induction n with
  | zero => intro i j l _ _ h; omega
  | succ n ih =>
    intro i j l hij hj hn hll ht hd
    rw [g_slices_DeleteFunc_string_string_l0.eq_2]
    by_cases h : j < l0.length
    · have hjl : j < l.length := by omega
      have hil : i < l.length := by omega
      have hx : l[j] = l0[j] := by
        have := congrArg (·[0]?) hd
        simp [List.getElem?_drop, List.getElem?_eq_getElem hjl, List.getElem?_eq_getElem h] at this
        exact this
      have hd' : l.drop (j + 1) = l0.drop (j + 1) := by
        have := congrArg (List.drop 1) hd
        simpa [List.drop_drop, Nat.add_comm] using this
      rw [Option.bind_some, dt (show (j : Int) < ((List.length l : Nat) : Int) by omega), bt, ix_nat hjl, Option.bind_some, isE, Option.bind_some, ix_nat hil, wi (n := (i : Int) + 1) (by omega) (by omega), wi (n := (j : Int) + 1) (by omega) (by omega), show ((i : Int) + 1) = ((i + 1 : Nat) : Int) by omega, show ((j : Int) + 1) = ((j + 1 : Nat) : Int) by omega]
      rw [hx]
      cases hne : neB l0[j] with
      | true =>
        simp only [Bool.not_true, Bool.not_false, bt, Option.bind_some]
        refine ih (i + 1) (j + 1) (List.set l (Int.toNat (i : Int)) l0[j]) (by omega) (by omega) (by omega) (by simpa using hll) ?_ ?_
        · show (List.set l i l0[j]).take (i + 1) = _
          rw [List.take_succ_eq_append_getElem h, List.filter_append, ← ht, List.take_succ_eq_append_getElem (by simpa using hil)]
          simp [hne, List.take_set_of_le]
        · show (List.set l i l0[j]).drop (j + 1) = _
          rw [List.drop_set_of_lt (by omega), hd']
      | false =>
        simp only [Bool.not_false, Bool.not_true, bf, Option.bind_some]
        refine ih i (j + 1) l (by omega) (by omega) (by omega) hll ?_ hd'
        rw [List.take_succ_eq_append_getElem h, List.filter_append, ← ht]
        simp [hne]
    · rw [Option.bind_some, df (show ¬ (j : Int) < ((List.length l : Nat) : Int) by omega), bf]
      refine ⟨i, l, rfl, hll, by omega, ?_⟩
      rw [ht, List.take_of_length_le (by omega)]
theorem deleteFunc {k : Nat} (l : List ByteArray) (hl : l.length ≤ 2000000) (hk : l.length < k) : g_slices_DeleteFunc_string_string k l = some (l.filter neB) := by
  unfold g_slices_DeleteFunc_string_string g_slices_IndexFunc_string_string
  rcases idx_go (k := k) l hl k 0 (by omega) (by omega) (by simp) with ⟨h1, h2⟩ | ⟨j, hj, h1, h2, h3⟩
  · have h1' : g_slices_IndexFunc_string_string_l0 k l k 0 = some (Sum.inr ()) := h1
    rw [h1']
    simp only [Option.bind_some, decide_true, bt]
    rw [List.filter_eq_self.2 h2]
  · have h1' : g_slices_IndexFunc_string_string_l0 k l k 0 = some (Sum.inl (j : Int)) := h1
    rw [h1']
    simp only [Option.bind_some]
    rw [df (show ¬ ((j : Nat) : Int) = -1 by omega), bf, wi (n := (j : Int) + 1) (by omega) (by omega), show ((j : Int) + 1) = ((j + 1 : Nat) : Int) by omega]
    obtain ⟨i', l', e1, e2, e3, e4⟩ := del_go (k := k) l hl k j (j + 1) l (by omega) (by omega) (by omega) rfl (by rw [List.take_succ_eq_append_getElem hj, List.filter_append, List.filter_eq_self.2 h2]; simp [h3]) rfl
    rw [e1, Option.bind_some]
    rw [dt (show 0 ≤ ((i' : Nat) : Int) ∧ ((i' : Nat) : Int) ≤ ((List.length l' : Nat) : Int) ∧ 0 < List.length l' by omega), bt, dt (by simp; omega), bt]
    congr 1
    rw [Int.toNat_natCast, List.take_append_of_le_length (by simp; omega), List.take_take, Nat.min_self, e4]
end Go.Proofs.YtnbjdgamindikaaDoor.W
