/- Which bytes are texts, and their characters. -/
import Derived.Test.YtnbjdgamindikaaDoorPu5
namespace Go.Proofs.YtnbjdgamindikaaDoor.W
open Go Go.Q Go.Proofs
set_option linter.unusedVariables false
set_option linter.unusedSimpArgs false

theorem alive {k : Nat} (hk : 64 ≤ k) : g_quirelaw06_alive k = some true := (g_quirelaw06_alive_mono hk).h _ (by kernel_rfl)

theorem utfTexts (s : ByteArray) (hs : s.size ≤ 1048576) : ∃ k, g_quirelaw06_UtfTexts k s = some true := by
  rw [L_size] at hs
  obtain ⟨k, hk⟩ : ∃ k : Nat, k = (L s).length + 100 := ⟨_, rfl⟩
  refine ⟨k, ?_⟩
  have h1 : (L s).length < k := by omega
  have h6 : 6 ≤ k := by omega
  have hr := runesL_len (L s)
  unfold g_quirelaw06_UtfTexts
  rw [utfValid' h1, refValid' h6 h1, utfXml h1, refXml h6 h1, utfRunes hs h1, refRunes h6 hs h1, utfCount (by omega) h1]
  simp only [Option.bind_some, beq_self_eq_true, decide_true, bt]
  rw [ints_same (by omega) (by omega)]
  simp only [Option.bind_some, bt]
  rw [alive (by omega)]
  rfl
end Go.Proofs.YtnbjdgamindikaaDoor.W
