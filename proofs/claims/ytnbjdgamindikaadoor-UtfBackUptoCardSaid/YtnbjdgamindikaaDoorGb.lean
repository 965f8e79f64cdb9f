/- Characters cut out of texts, and written. -/
import Derived.Test.YtnbjdgamindikaaDoorPu8
import Derived.Test.YtnbjdgamindikaaDoorGa
namespace Go.Proofs.YtnbjdgamindikaaDoor.W
open Go Go.Q Go.Proofs
set_option linter.unusedVariables false
set_option linter.unusedSimpArgs false

theorem msum_one {α : Type} : ∀ (l : List α), msum (fun _ => 1) l = l.length
  | [] => rfl
  | x :: l => by rw [msum, msum_one l, List.length_cons]; omega

theorem utfCuts (s : ByteArray) (f n : Int) (l : List Int) (hf : (Lit.int .i64 f).wf = true) (hn : (Lit.int .i64 n).wf = true) (hl : l.length ≤ maxLen ∧ ∀ x ∈ l, (Lit.int .i64 x).wf = true) (hs : s.size ≤ 1048576) (ul : msum (fun x => 1) l + 1 ≤ 1048576) : ∃ k, g_quirelaw06_UtfCuts k s f n l = some true := by
  have hll : l.length ≤ 1048576 := by have := msum_one l; omega
  rw [L_size] at hs
  obtain ⟨k, hk⟩ : ∃ k : Nat, k = (L s).length + l.length + 100 := ⟨_, rfl⟩
  refine ⟨k, ?_⟩
  have wf := i64_wf hf; have wn := i64_wf hn
  obtain ⟨r, e1, e2⟩ := refCut (k := k) (s := s) (f := f) (n := n) (by omega) hs (by omega) wf.2 wn
  unfold g_quirelaw06_UtfCuts
  rw [utfCut hs (by omega) wf.2 wn.2, e1, utfText hll (by omega), refText hll (by omega)]
  simp only [Option.bind_some, beq_toList, L_strOf_I, e2, decide_true, bt]
  rw [alive (by omega)]
  rfl
theorem utfBack (s : ByteArray) (l : List Int) (a : Int) (hl : l.length ≤ maxLen ∧ ∀ x ∈ l, (Lit.int .i64 x).wf = true) (ha : (Lit.int .i64 a).wf = true) (hs : s.size ≤ 1048576) (ul : msum (fun x => 1) l + 1 ≤ 1048576) : ∃ k, g_quirelaw06_UtfBack k s l a = some true := by
  have hll : l.length * 4 ≤ 4194304 := by have := msum_one l; omega
  rw [L_size] at hs
  obtain ⟨k, hk⟩ : ∃ k : Nat, k = (L s).length + 4 * l.length + 100 := ⟨_, rfl⟩
  refine ⟨k, ?_⟩
  have hal : g_quirelaw06_alive k = some true := alive (by omega)
  have wa := i64_wf ha
  have ht := textL_len l
  have hrl := runesL_len (L s)
  have eT : L (strOf (I (textL l))) = textL l := L_strOf_I _
  unfold g_quirelaw06_UtfBack
  rw [utfText (by omega) (by omega)]
  simp only [Option.bind_some]
  rw [utfValid' (by rw [eT]; omega), utfCount (s := strOf (I (textL l))) (by rw [eT]; omega) (by rw [eT]; omega), eT, valid_text, runes_text, List.length_map]
  simp only [Option.bind_some, Bool.not_true, bf, decide_true]
  rw [utfValid' (s := s) (by omega), utfRunes hs (by omega), utfCount (s := s) (by omega) (by omega), hal]
  simp only [Option.bind_some]
  rw [utfText (l := runesL (L s)) (by omega) (by omega)]
  simp only [Option.bind_some, beq_toList, L_strOf_I]
  have e : ((bif validL (L s) then (bif !decide (textL (runesL (L s)) = L s) then some true else some (!true)) else some (!true)) : Option Bool) = some false := by
    cases hv : validL (L s) with
    | false => rfl
    | true => rw [text_runes _ hv, dt rfl]; rfl
  rw [e]
  simp only [Option.bind_some, bf]
  by_cases h1 : a < 0
  · rw [dt h1]; rfl
  · rw [df h1, bf]
    by_cases h2 : ((runesL (L s)).length : Int) < a
    · rw [dt h2]; rfl
    · rw [df h2, bf]
      cases hv : validL (L s) with
      | false => rfl
      | true =>
        simp only [Bool.not_true, Option.bind_some, bf]
        rw [utfCut hs (by omega) (by omega) wa.2, utfCut hs (by omega) wa.2 (by omega)]
        simp only [Option.bind_some]
        have hc := textL_len (List.take a.toNat (List.drop (Int.toNat 0) (runesL (L s))))
        have hd := textL_len (List.take (Int.toNat ((runesL (L s)).length : Int)) (List.drop a.toNat (runesL (L s))))
        rw [dt (by rw [L_size, L_size, L_strOf_I, L_strOf_I]; simp at hc hd ⊢; omega), bt, L_append, L_strOf_I, L_strOf_I, ← textL_append]
        simp only [Int.toNat_zero, List.drop_zero, Int.toNat_natCast]
        rw [List.take_of_length_le (l := List.drop a.toNat (runesL (L s))) (by simp), List.take_append_drop, text_runes _ hv, dt rfl]
end Go.Proofs.YtnbjdgamindikaaDoor.W
