/- The document's Trim. -/
import Derived.Test.YtnbjdgamindikaaDoorPv3
namespace Go.Proofs.YtnbjdgamindikaaDoor.W
open Go Go.Q Go.Proofs
set_option linter.unusedVariables false
set_option linter.unusedSimpArgs false

/-- A byte behind what is there. -/
def stepT (o : List UInt8) (c : UInt8) : List UInt8 := if c = 32 ∧ (o = [] ∨ o.getLast? = some 32) then o else o ++ [c]
def stripT (o : List UInt8) : List UInt8 := if o.getLast? = some 32 then o.dropLast else o
def readyT (A : List (List UInt8)) : List UInt8 := if A = [] then [] else joinL A ++ [32]
theorem join_snoc (A : List (List UInt8)) (w : List UInt8) : joinL (A ++ [w]) = readyT A ++ w := by
  cases A with
  | nil => simp [joinL, joinR, readyT]
  | cons a A => simp [joinL, joinR_append, joinR, readyT]
theorem fold_word : ∀ (w o : List UInt8), (∀ c ∈ w, c ≠ 32) → w.foldl stepT o = o ++ w
  | [], o, _ => by simp
  | c :: w, o, h => by
    have hc : c ≠ 32 := h c (by simp)
    rw [List.foldl_cons, show stepT o c = o ++ [c] by unfold stepT; rw [if_neg (fun h' => hc h'.1)], fold_word w _ (fun x hx => h x (by simp [hx]))]
    simp
theorem ready_last (A : List (List UInt8)) : readyT A = [] ∨ (readyT A).getLast? = some 32 := by
  unfold readyT
  split
  · exact .inl rfl
  · exact .inr (by simp)
theorem last_word {w o : List UInt8} (hw : w ≠ []) (h : ∀ c ∈ w, c ≠ 32) : ¬ (o ++ w = [] ∨ (o ++ w).getLast? = some 32) := by
  rintro (h' | h')
  · simp at h'; exact hw h'.2
  · rw [List.getLast?_append] at h'
    cases hl : w.getLast? with
    | none => rw [List.getLast?_eq_none_iff] at hl; exact hw hl
    | some c =>
      rw [hl] at h'
      simp at h'
      exact h c (List.mem_of_getLast? hl) h'
theorem strip_ready (A : List (List UInt8)) : stripT (readyT A) = joinL A := by
  unfold readyT stripT
  split
  · rename_i h; subst h; rfl
  · simp
theorem fold_words : ∀ (ws : List (List UInt8)) (w : List UInt8) (A : List (List UInt8)), (∀ v ∈ w :: ws, ∀ c ∈ v, c ≠ 32) → stripT ((w ++ joinR ws).foldl stepT (readyT A)) = joinL (A ++ (w :: ws).filter fun v => !decide (v = []))
  | [], w, A, h => by
    rw [joinR, List.append_nil, fold_word w _ (h w (by simp))]
    by_cases hw : w = []
    · subst hw
      simp [strip_ready]
    · have hl := last_word (o := readyT A) hw (h w (by simp))
      rw [List.filter_cons, if_pos (by simpa using hw), List.filter_nil, join_snoc]
      unfold stripT
      rw [if_neg (fun h' => hl (.inr h'))]
  | v :: ws, w, A, h => by
    have ih := fun A => fold_words ws v A (fun x hx => h x (by simp at hx ⊢; exact .inr hx))
    rw [joinR, List.foldl_append, fold_word w _ (h w (by simp)), List.cons_append, List.foldl_cons]
    by_cases hw : w = []
    · subst hw
      have e : stepT (readyT A ++ []) 32 = readyT A := by
        unfold stepT
        rw [List.append_nil, if_pos ⟨rfl, ready_last A⟩]
      rw [e, ih A]
      simp
    · have hl := last_word (o := readyT A) hw (h w (by simp))
      have e : stepT (readyT A ++ w) 32 = readyT (A ++ [w]) := by
        unfold stepT
        rw [if_neg (fun h' => hl h'.2), ← join_snoc]
        unfold readyT
        rw [if_neg (by simp)]
      rw [e, ih (A ++ [w]), List.filter_cons (x := w), if_pos (by simpa using hw), List.append_assoc]
      rfl
theorem join_split : ∀ l : List UInt8, ∃ w ws, splitL l = w :: ws ∧ l = w ++ joinR ws
  | [] => ⟨[], [], rfl, rfl⟩
  | c :: t => by
    obtain ⟨w, ws, h1, h2⟩ := join_split t
    rw [splitL]
    by_cases hc : c = 32
    · exact ⟨[], splitL t, by rw [if_pos hc], by rw [h1, joinR, hc, h2]; simp⟩
    · exact ⟨c :: w, ws, by rw [if_neg hc, h1], by rw [h2]; rfl⟩
theorem split_memb : ∀ (l w : List UInt8), w ∈ splitL l → ∀ c ∈ w, c ≠ 32
  | [], w, h => by simp [splitL] at h; subst h; simp
  | c :: t, w, h => by
    have ih := split_memb t
    rw [splitL] at h
    split at h
    · simp at h
      rcases h with rfl | h
      · simp
      · exact ih w h
    · rename_i hc
      split at h
      · simp at h; subst h; simpa using hc
      · rename_i v ws hs
        simp at h
        rcases h with rfl | h
        · intro x hx
          simp at hx
          rcases hx with rfl | hx
          · exact hc
          · exact ih v (by rw [hs]; simp) x hx
        · exact ih w (by rw [hs]; simp [h])
theorem fold_trim (l : List UInt8) : stripT (l.foldl stepT []) = trimL l := by
  obtain ⟨w, ws, h1, h2⟩ := join_split l
  have := fold_words ws w [] (fun v hv => split_memb l v (by rw [h1]; exact hv))
  rw [← h2, List.nil_append, ← h1] at this
  exact this
end Go.Proofs.YtnbjdgamindikaaDoor.W
