/- The document's Trim: its loop. -/
import Derived.Test.YtnbjdgamindikaaDoorPv4
namespace Go.Proofs.YtnbjdgamindikaaDoor.W
open Go Go.Q Go.Proofs
set_option linter.unusedVariables false
set_option linter.unusedSimpArgs false

theorem fold_len : ∀ (l o : List UInt8), (l.foldl stepT o).length ≤ o.length + l.length
  | [], o => by simp
  | c :: l, o => by
    have := fold_len l (stepT o c)
    have h : (stepT o c).length ≤ o.length + 1 := by unfold stepT; split <;> simp
    rw [List.foldl_cons, List.length_cons]; omega
theorem last_ix {o : List UInt8} (h : o ≠ []) : ix (I o) (((o.length - 1 : Nat)) : Int) = some ((byt o (o.length - 1) : Nat) : Int) := ix_I (by have := List.length_pos_iff.2 h; omega)
theorem last_byt {o : List UInt8} (h : o ≠ []) : (byt o (o.length - 1) = 32) ↔ o.getLast? = some 32 := by
  have hl := List.length_pos_iff.2 h
  rw [List.getLast?_eq_getElem?]
  unfold byt
  rw [List.getD_eq_getElem?_getD, List.getElem?_eq_getElem (by omega)]
  simp only [Option.getD_some, Option.some.injEq]
  constructor
  · intro h'; exact u8_ext h'
  · intro h'; rw [h']; rfl
theorem trim_go {k : Nat} {s : ByteArray} (hs : (L s).length ≤ 1048576) : ∀ (n i : Nat), i ≤ (L s).length → (L s).length - i < n → g_quireref06_Trim_l0 k s n i (I (((L s).take i).foldl stepT [])) = some (I ((L s).foldl stepT [])) := by
  intro n
  induction n with
  | zero => intro i _ h; omega
  | succ n ih =>
    intro i hi hn
    rw [g_quireref06_Trim_l0.eq_2]
    by_cases h : i < (L s).length
    · have hlen := fold_len ((L s).take i) []
      rw [List.length_take, List.length_nil, Nat.zero_add] at hlen
      have hby : byt (L s) i = ((L s)[i]).toNat := by simp [byt, List.getD_eq_getElem?_getD, List.getElem?_eq_getElem h]
      have hnext : ((L s).take (i + 1)).foldl stepT [] = stepT (((L s).take i).foldl stepT []) (L s)[i] := by
        rw [List.take_succ_eq_append_getElem h, List.foldl_append]; rfl
      have hih := ih (i + 1) (by omega) (by omega)
      rw [hnext] at hih
      generalize ((L s).take i).foldl stepT [] = o at *
      rw [Option.bind_some, dt (show (i : Int) < ((ByteArray.size s : Nat) : Int) by rw [L_size]; omega), bt, strInts_L, ix_I h, hby, I_length, wi (n := (i : Int) + 1) (by omega) (by omega), show ((i : Int) + 1) = ((i + 1 : Nat) : Int) by omega]
      simp only [Option.bind_some]
      have hc32 : (((L s)[i].toNat : Int) = 32) ↔ (L s)[i] = 32 := ⟨fun h' => u8_ext (by show _ = 32; omega), fun h' => by rw [h']; rfl⟩
      rw [show stepT o (L s)[i] = (if (L s)[i] = 32 ∧ (o = [] ∨ o.getLast? = some 32) then o else o ++ [(L s)[i]]) from rfl] at hih
      by_cases hc : (L s)[i] = 32
      · rw [dt (hc32.2 hc), bt]
        by_cases ho : o = []
        · subst ho
          rw [dt (show (((([] : List UInt8).length : Nat) : Int) = 0) from rfl)]
          simp only [bt, Option.bind_some]
          rw [if_pos ⟨hc, .inl rfl⟩] at hih
          exact hih
        · have hol := List.length_pos_iff.2 ho
          rw [df (show ¬ ((o.length : Nat) : Int) = 0 by omega)]
          simp only [bf]
          rw [wi (n := ((o.length : Nat) : Int) - 1) (by omega) (by omega), show ((o.length : Nat) : Int) - 1 = ((o.length - 1 : Nat) : Int) by omega, last_ix ho]
          simp only [Option.bind_some]
          have hlb := last_byt ho
          by_cases h32 : byt o (o.length - 1) = 32
          · rw [dt (show ((byt o (o.length - 1) : Nat) : Int) = 32 by omega)]
            simp only [bt, Option.bind_some]
            rw [if_pos ⟨hc, .inr (hlb.1 h32)⟩] at hih
            exact hih
          · rw [df (show ¬ ((byt o (o.length - 1) : Nat) : Int) = 32 by omega)]
            simp only [bf]
            rw [if_neg (fun h' => by rcases h'.2 with h'' | h''; exact ho h''; exact h32 (hlb.2 h''))] at hih
            rw [dt (by simp [I_length]; omega), bt, Option.bind_some, ← hih, I_append]
            rfl
      · rw [df (fun h' => hc (hc32.1 h')), bf]
        simp only [Option.bind_some, bf]
        rw [if_neg (fun h' => hc h'.1)] at hih
        rw [dt (by simp [I_length]; omega), bt, Option.bind_some, ← hih, I_append]
        rfl
    · rw [Option.bind_some, df (show ¬ (i : Int) < ((ByteArray.size s : Nat) : Int) by rw [L_size]; omega), bf, List.take_of_length_le (by omega)]
end Go.Proofs.YtnbjdgamindikaaDoor.W
