/- What letters and blanks become. -/
import Derived.Test.YtnbjdgamindikaaDoorPv5
import Derived.Test.YtnbjdgamindikaaDoorGa
namespace Go.Proofs.YtnbjdgamindikaaDoor.W
open Go Go.Q Go.Proofs
set_option linter.unusedVariables false
set_option linter.unusedSimpArgs false

theorem refTrim {k : Nat} {s : ByteArray} (hs : (L s).length ≤ 1048576) (hk : (L s).length < k) : ∃ r, g_quireref06_Trim k s = some r ∧ L r = trimL (L s) := by
  unfold g_quireref06_Trim
  have h := trim_go (k := k) hs k 0 (by omega) (by omega)
  have h' : g_quireref06_Trim_l0 k s k 0 [] = some (I ((L s).foldl stepT [])) := h
  rw [h', Option.bind_some, ← fold_trim]
  have hlen := fold_len (L s) []
  rw [List.length_nil, Nat.zero_add] at hlen
  generalize (L s).foldl stepT [] = o at *
  unfold stripT
  rw [I_length]
  by_cases ho : o = []
  · subst ho
    exact ⟨strOf (I []), rfl, rfl⟩
  · have hol := List.length_pos_iff.2 ho
    have hlb := last_byt ho
    rw [dt (show (0 : Int) < ((o.length : Nat) : Int) by omega), wi (n := ((o.length : Nat) : Int) - 1) (by omega) (by omega), show ((o.length : Nat) : Int) - 1 = ((o.length - 1 : Nat) : Int) by omega]
    simp only [Option.bind_some, bt]
    rw [last_ix ho]
    simp only [Option.bind_some]
    by_cases h32 : byt o (o.length - 1) = 32
    · rw [dt (show ((byt o (o.length - 1) : Nat) : Int) = 32 by omega), if_pos (hlb.1 h32)]
      simp only [bt]
      rw [dt (by omega), bt]
      refine ⟨_, rfl, ?_⟩
      rw [L_strOf, Int.toNat_natCast, Int.toNat_zero, List.drop_zero, I, ← List.map_take, List.dropLast_eq_take]
      exact (L_strOf _).symm.trans (L_strOf_I _)
    · rw [df (show ¬ ((byt o (o.length - 1) : Nat) : Int) = 32 by omega), if_neg (fun h' => h32 (hlb.2 h'))]
      exact ⟨_, rfl, L_strOf_I _⟩
theorem utfTurns (a b : ByteArray) (ha : a.size ≤ 1048576) (hb : b.size ≤ 1048576) : ∃ k, g_quirelaw06_UtfTurns k a b = some true := by
  rw [L_size] at ha
  obtain ⟨k, hk⟩ : ∃ k : Nat, k = (L a).length + 100 := ⟨_, rfl⟩
  refine ⟨k, ?_⟩
  have hal : g_quirelaw06_alive k = some true := alive (by omega)
  obtain ⟨r, e1, e2⟩ := utfTrim (k := k) (s := a) ha (by omega)
  obtain ⟨q, e3, e4⟩ := refTrim (k := k) (s := a) ha (by omega)
  unfold g_quirelaw06_UtfTurns g_utf_Less
  rw [utfUpper ha (by omega), refUpper ha (by omega), utfLower ha (by omega), refLower ha (by omega), e1, e3, hal]
  simp only [Option.bind_some, beq_toList, e2, e4, decide_true, bt, beq_self_eq_true]
end Go.Proofs.YtnbjdgamindikaaDoor.W
