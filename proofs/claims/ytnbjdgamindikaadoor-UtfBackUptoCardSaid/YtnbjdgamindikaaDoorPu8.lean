/- Cuts by the document; characters and texts, there and back. -/
import Derived.Test.YtnbjdgamindikaaDoorPu7
namespace Go.Proofs.YtnbjdgamindikaaDoor.W
open Go Go.Q Go.Proofs
set_option linter.unusedVariables false
set_option linter.unusedSimpArgs false

theorem refCut {k : Nat} {s : ByteArray} {f n : Int} (h6 : 6 ≤ k) (hs : (L s).length ≤ 1048576) (hk : (L s).length < k) (hf : f ≤ 9223372036854775807) (hn : -9223372036854775808 ≤ n ∧ n ≤ 9223372036854775807) : ∃ r, g_quireref06_Cut k s f n = some r ∧ L r = textL (((runesL (L s)).drop f.toNat).take n.toNat) := by
  have hrl := runesL_len (L s)
  unfold g_quireref06_Cut
  rw [refRunes h6 hs hk, Option.bind_some]
  generalize hC : runesL (L s) = C at *
  obtain ⟨f', hf', hf0, hfm, hft⟩ : ∃ f' : Int, (bif decide (f < 0) then some (0 : Int) else some f) = some f' ∧ 0 ≤ f' ∧ f' ≤ 9223372036854775807 ∧ f'.toNat = f.toNat := by
    by_cases h : f < 0
    · exact ⟨0, by rw [dt h]; rfl, by omega, by omega, by omega⟩
    · exact ⟨f, by rw [df h]; rfl, by omega, by omega, rfl⟩
  rw [hf', Option.bind_some]
  simp only [Option.bind_some, oS]
  rw [← hft]
  by_cases hz : n ≤ 0 ∨ (C.length : Int) ≤ f'
  · rw [show (decide (n ≤ 0) || decide (((List.length C : Nat) : Int) ≤ f')) = true by simpa using hz]
    refine ⟨_, rfl, ?_⟩
    rcases hz with hz | hz
    · rw [show n.toNat = 0 by omega]; simp [textL]; rfl
    · rw [List.drop_eq_nil_of_le (by omega)]; simp [textL]; rfl
  · rw [show (decide (n ≤ 0) || decide (((List.length C : Nat) : Int) ≤ f')) = false by simpa using hz]
    simp only [bf]
    rw [wi (n := ((List.length C : Nat) : Int) - f') (by omega) (by omega)]
    by_cases hlt : n < ((List.length C : Nat) : Int) - f'
    · rw [dt hlt, bt, wi (n := f' + n) (by omega) (by omega), dt (show 0 ≤ f' ∧ f' ≤ f' + n ∧ f' + n ≤ ((List.length C : Nat) : Int) by omega), bt]
      rw [refText (by simp; omega) (by simp; omega)]
      refine ⟨_, rfl, ?_⟩
      rw [L_strOf_I]
      congr 1
      rw [List.drop_take, show (f' + n).toNat - f'.toNat = n.toNat by omega]
    · rw [df hlt, bf, cutOk (by omega) (by omega), bt]
      rw [refText (by simp; omega) (by simp; omega)]
      refine ⟨_, rfl, ?_⟩
      rw [L_strOf_I, Int.toNat_natCast, List.take_length, List.take_of_length_le (by simp; omega)]

theorem okL_app {c : Nat} (hc : chr c) (r : List UInt8) : okL (wrL c ++ r) c (wrL c).length := (wrL_okL hc).2 ⟨rfl, by simp, by simp⟩
theorem runes_text : ∀ (l : List Int), runesL (textL l) = l.map fun x => (cn x : Int)
  | [] => by rw [textL_nil, runesL_nil]; rfl
  | x :: l => by
    have h := okL_app (cn_chr x) (textL l)
    have h0 : 0 < (wrL (cn x) ++ textL l).length := by have := okL_w h; omega
    rw [textL_cons, runesL_cons h0, decL_of h, List.map_cons]
    simp only [List.drop_left]
    rw [runes_text l]
theorem valid_text : ∀ (l : List Int), validL (textL l) = true
  | [] => by rw [textL_nil, validL_nil]
  | x :: l => by
    have h := okL_app (cn_chr x) (textL l)
    rw [textL_cons, good_isL h, List.drop_left]
    exact valid_text l
theorem text_runes (l : List UInt8) (hv : validL l = true) : textL (runesL l) = l := by
  by_cases h0 : 0 < l.length
  · have hw := decL_w h0
    rw [validL_cons h0, Bool.and_eq_true] at hv
    have ih := text_runes (l.drop (decL l).2) hv.2
    have hok := (isL_iff h0).1 hv.1
    have hc := decL_c h0
    rw [runesL_cons h0, textL_cons, runes_chr h0, ih, ← ((wrL_okL hc).1 hok).2.2, List.take_append_drop]
  · rw [nil_of_len h0, runesL_nil, textL_nil]
termination_by l.length
decreasing_by
  rw [List.length_drop]
  omega
end Go.Proofs.YtnbjdgamindikaaDoor.W
