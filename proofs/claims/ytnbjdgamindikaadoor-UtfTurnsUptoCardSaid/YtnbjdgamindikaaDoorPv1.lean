/- Letters turned. -/
import Derived.Test.YtnbjdgamindikaaDoorPu5
namespace Go.Proofs.YtnbjdgamindikaaDoor.W
open Go Go.Q Go.Proofs
set_option linter.unusedVariables false
set_option linter.unusedSimpArgs false

/-- A byte of a range, moved. -/
def mp (f t b : Int) (c : UInt8) : UInt8 := if f ≤ (c.toNat : Int) ∧ (c.toNat : Int) ≤ t then UInt8.ofNat ((c.toNat : Int) + b).toNat else c
theorem set_step {l : List UInt8} {g : UInt8 → UInt8} {i : Nat} (h : i < l.length) (v : Int) (hv : v = ((g l[i]).toNat : Int)) : List.set (I ((l.take i).map g ++ l.drop i)) i v = I ((l.take (i + 1)).map g ++ l.drop (i + 1)) := by
  have h1 : ((l.take i).map g).length = i := by simp; omega
  rw [List.take_succ_eq_append_getElem h, List.map_append, List.drop_eq_getElem_cons h, I_append, I_append, I_append, List.set_append_right _ _ (by simp [I]; omega)]
  have h2 : (I ((l.take i).map g)).length = i := by rw [I_length, h1]
  rw [h2, Nat.sub_self, List.append_assoc, hv]
  rfl
theorem keep_step {l : List UInt8} {g : UInt8 → UInt8} {i : Nat} (h : i < l.length) (hg : g l[i] = l[i]) : (l.take i).map g ++ l.drop i = (l.take (i + 1)).map g ++ l.drop (i + 1) := by
  rw [List.take_succ_eq_append_getElem h, List.map_append, List.drop_eq_getElem_cons h, List.append_assoc]
  simp [hg]
theorem turned_go {k : Nat} {s : ByteArray} {f t b : Int} (hs : (L s).length ≤ 1048576) (h0 : 0 ≤ f + b) (h1 : t + b ≤ 255) (hb : -1000 ≤ b ∧ b ≤ 1000) : ∀ (n i : Nat), i ≤ (L s).length → (L s).length - i < n →
    g_utf_turned_l0 k s f t b n i (I (((L s).take i).map (mp f t b) ++ (L s).drop i)) = some (I ((L s).map (mp f t b))) := by
  intro n
  induction n with
  | zero => intro i _ h; omega
  | succ n ih =>
    intro i hi hn
    rw [g_utf_turned_l0.eq_2]
    have hlen : (List.length (strInts s) : Int) = ((L s).length : Int) := by rw [strInts_L, I_length]
    by_cases h : i < (L s).length
    · have hbl : (((L s).take i).map (mp f t b) ++ (L s).drop i).length = (L s).length := by simp; omega
      have hby : byt (((L s).take i).map (mp f t b) ++ (L s).drop i) i = ((L s)[i]).toNat := by
        unfold byt
        rw [List.getD_eq_getElem?_getD, List.getElem?_append_right (by simp; omega)]
        simp [Nat.min_eq_left (Nat.le_of_lt h), List.getElem?_eq_getElem h]
      have hc := (L s)[i].toNat_lt
      rw [Option.bind_some, dt (show (i : Int) < ((List.length (strInts s) : Nat) : Int) by rw [hlen]; omega), bt, ix_I (by rw [hbl]; exact h), hby]
      simp only [Option.bind_some, aS]
      rw [wi (n := (i : Int) + 1) (by omega) (by omega), show ((i : Int) + 1) = ((i + 1 : Nat) : Int) by omega, wi (n := (((L s)[i]).toNat : Int)) (by omega) (by omega), wi (n := (((L s)[i]).toNat : Int) + b) (by omega) (by omega)]
      by_cases hin : f ≤ (((L s)[i]).toNat : Int) ∧ (((L s)[i]).toNat : Int) ≤ t
      · rw [dt hin.1, dt hin.2]
        simp only [Bool.and_true, bt, Option.bind_some]
        rw [show Int.toNat (i : Int) = i from rfl, Go.Q.wu8 (by omega) (by omega), set_step (g := mp f t b) h]
        · exact ih (i + 1) (by omega) (by omega)
        · unfold mp
          rw [if_pos hin, toN (by omega)]
          omega
      · have hx : (decide (f ≤ (((L s)[i]).toNat : Int)) && decide ((((L s)[i]).toNat : Int) ≤ t)) = false := by
          apply Bool.eq_false_iff.2
          intro h'
          simp only [Bool.and_eq_true, decide_eq_true_eq] at h'
          exact hin h'
        rw [hx]
        simp only [bf, Option.bind_some]
        rw [keep_step (g := mp f t b) h (by unfold mp; rw [if_neg hin])]
        exact ih (i + 1) (by omega) (by omega)
    · rw [Option.bind_some, df (show ¬ (i : Int) < ((List.length (strInts s) : Nat) : Int) by rw [hlen]; omega), bf, List.take_of_length_le (by omega), List.drop_of_length_le (by omega), List.append_nil]
theorem utfTurned {k : Nat} {s : ByteArray} {f t b : Int} (hs : (L s).length ≤ 1048576) (hk : (L s).length < k) (h0 : 0 ≤ f + b) (h1 : t + b ≤ 255) (hb : -1000 ≤ b ∧ b ≤ 1000) : g_utf_turned k s f t b = some (strOf (I ((L s).map (mp f t b)))) := by
  unfold g_utf_turned
  rw [dt (show s.size ≤ 140737488355328 by rw [L_size]; omega), bt]
  have := turned_go (k := k) hs h0 h1 hb k 0 (by omega) (by omega)
  have this' : g_utf_turned_l0 k s f t b k 0 (strInts s) = some (I ((L s).map (mp f t b))) := this
  rw [this']; rfl
theorem utfUpper {k : Nat} {s : ByteArray} (hs : (L s).length ≤ 1048576) (hk : (L s).length < k) : g_utf_Upper k s = some (strOf (I ((L s).map (mp 97 122 (-32))))) := by
  unfold g_utf_Upper
  rw [utfTurned hs hk (by omega) (by omega) (by omega)]; rfl
theorem utfLower {k : Nat} {s : ByteArray} (hs : (L s).length ≤ 1048576) (hk : (L s).length < k) : g_utf_Lower k s = some (strOf (I ((L s).map (mp 65 90 32)))) := by
  unfold g_utf_Lower
  rw [utfTurned hs hk (by omega) (by omega) (by omega)]; rfl
theorem up_low (c : UInt8) : mp 97 122 (-32) (mp 65 90 32 c) = mp 97 122 (-32) c := by
  have hc := c.toNat_lt
  apply u8_ext
  unfold mp
  by_cases h : (65 : Int) ≤ c.toNat ∧ (c.toNat : Int) ≤ 90
  · rw [if_pos h, if_neg (show ¬ ((97 : Int) ≤ c.toNat ∧ (c.toNat : Int) ≤ 122) by omega)]
    have e : (UInt8.ofNat ((c.toNat : Int) + 32).toNat).toNat = c.toNat + 32 := by rw [toN (by omega)]; omega
    rw [e, if_pos (by omega), toN (by omega)]; omega
  · rw [if_neg h]
theorem low_up (c : UInt8) : mp 65 90 32 (mp 97 122 (-32) c) = mp 65 90 32 c := by
  have hc := c.toNat_lt
  apply u8_ext
  unfold mp
  by_cases h : (97 : Int) ≤ c.toNat ∧ (c.toNat : Int) ≤ 122
  · rw [if_pos h, if_neg (show ¬ ((65 : Int) ≤ c.toNat ∧ (c.toNat : Int) ≤ 90) by omega)]
    have e : (UInt8.ofNat ((c.toNat : Int) + -32).toNat).toNat = c.toNat - 32 := by rw [toN (by omega)]; omega
    rw [e, if_pos (by omega), toN (by omega)]; omega
  · rw [if_neg h]

theorem refTurned_go {k : Nat} {s : ByteArray} {f b c0 : Int} (hs : (L s).length ≤ 1048576) (hf : 0 ≤ f ∧ f ≤ 200) (hb : 0 ≤ b ∧ b ≤ 255) (h0 : ∀ x : Nat, f ≤ (x : Int) → (x : Int) ≤ f + 25 → IntKind.wrap .u8 ((x : Int) + b) = x + c0 ∧ 0 ≤ x + c0 ∧ x + c0 ≤ 255) : ∀ (n i : Nat), i ≤ (L s).length → (L s).length - i < n →
    g_quireref06_turned_l0 k s f b n i (I (((L s).take i).map (mp f (f + 25) c0))) = some (I ((L s).map (mp f (f + 25) c0))) := by
  intro n
  induction n with
  | zero => intro i _ h; omega
  | succ n ih =>
    intro i hi hn
    rw [g_quireref06_turned_l0.eq_2]
    by_cases h : i < (L s).length
    · have hc := (L s)[i].toNat_lt
      have hby : byt (L s) i = ((L s)[i]).toNat := by simp [byt, List.getD_eq_getElem?_getD, List.getElem?_eq_getElem h]
      rw [Option.bind_some, dt (show (i : Int) < ((ByteArray.size s : Nat) : Int) by rw [L_size]; omega), bt, strInts_L, ix_I h, hby, Go.Q.wu8 (n := f + 26) (by omega) (by omega), wi (n := (i : Int) + 1) (by omega) (by omega), show ((i : Int) + 1) = ((i + 1 : Nat) : Int) by omega]
      simp only [Option.bind_some, aS]
      have key : ((bif (decide (f ≤ (((L s)[i]).toNat : Int)) && decide ((((L s)[i]).toNat : Int) < f + 26)) then some (IntKind.wrap .u8 ((((L s)[i]).toNat : Int) + b)) else some (((L s)[i]).toNat : Int)) : Option Int) = some (((mp f (f + 25) c0 (L s)[i]).toNat : Nat) : Int) := by
        unfold mp
        by_cases hin : f ≤ (((L s)[i]).toNat : Int) ∧ (((L s)[i]).toNat : Int) ≤ f + 25
        · obtain ⟨e1, e2, e3⟩ := h0 _ hin.1 hin.2
          rw [dt hin.1, dt (show (((L s)[i]).toNat : Int) < f + 26 by omega), if_pos hin, toN (by omega)]
          simp only [Bool.and_true, bt, e1]
          congr 1; omega
        · rw [show (decide (f ≤ (((L s)[i]).toNat : Int)) && decide ((((L s)[i]).toNat : Int) < f + 26)) = false by
            apply Bool.eq_false_iff.2
            intro h'
            simp only [Bool.and_eq_true, decide_eq_true_eq] at h'
            exact hin ⟨h'.1, by omega⟩, if_neg hin]
          rfl
      rw [key]
      simp only [Option.bind_some]
      rw [dt (by simp [I]; omega), bt, ← ih (i + 1) (by omega) (by omega)]
      congr 1
      rw [List.take_succ_eq_append_getElem h, List.map_append, I_append]
      rfl
    · rw [Option.bind_some, df (show ¬ (i : Int) < ((ByteArray.size s : Nat) : Int) by rw [L_size]; omega), bf, List.take_of_length_le (by omega)]
theorem wrap8 (v : Int) : IntKind.wrap .u8 v = v % 256 := by
  unfold IntKind.wrap; simp [IntKind.signed, IntKind.bits]
theorem refUpper {k : Nat} {s : ByteArray} (hs : (L s).length ≤ 1048576) (hk : (L s).length < k) : g_quireref06_Upper k s = some (strOf (I ((L s).map (mp 97 122 (-32))))) := by
  unfold g_quireref06_Upper g_quireref06_turned
  have := refTurned_go (k := k) (f := 97) (b := 224) (c0 := -32) hs (by omega) (by omega) (fun x h1 h2 => by rw [wrap8]; omega) k 0 (by omega) (by omega)
  have this' : g_quireref06_turned_l0 k s 97 224 k 0 [] = some (I ((L s).map (mp 97 122 (-32)))) := this
  rw [this']; rfl
theorem refLower {k : Nat} {s : ByteArray} (hs : (L s).length ≤ 1048576) (hk : (L s).length < k) : g_quireref06_Lower k s = some (strOf (I ((L s).map (mp 65 90 32)))) := by
  unfold g_quireref06_Lower g_quireref06_turned
  have := refTurned_go (k := k) (f := 65) (b := 32) (c0 := 32) hs (by omega) (by omega) (fun x h1 h2 => by rw [wrap8]; omega) k 0 (by omega) (by omega)
  have this' : g_quireref06_turned_l0 k s 65 32 k 0 [] = some (I ((L s).map (mp 65 90 32))) := this
  rw [this']; rfl
end Go.Proofs.YtnbjdgamindikaaDoor.W
