/- Trimming and turning twice. -/
import Derived.Test.YtnbjdgamindikaaDoorPv3
import Derived.Test.YtnbjdgamindikaaDoorGa
namespace Go.Proofs.YtnbjdgamindikaaDoor.W
open Go Go.Q Go.Proofs
set_option linter.unusedVariables false
set_option linter.unusedSimpArgs false

theorem split_mem : ∀ (l w : List UInt8), w ∈ splitL l → ∀ c ∈ w, c ≠ 32
  | [], w, h => by simp [splitL] at h; subst h; simp
  | c :: t, w, h => by
    have ih := split_mem t
    rw [splitL] at h
    split at h
    · simp at h
      rcases h with rfl | h
      · simp
      · exact ih w h
    · rename_i hc
      split at h
      · simp at h; subst h; simpa using hc
      · rename_i v ws hs
        simp at h
        rcases h with rfl | h
        · intro x hx
          simp at hx
          rcases hx with rfl | hx
          · exact hc
          · exact ih v (by rw [hs]; simp) x hx
        · exact ih w (by rw [hs]; simp [h])
theorem split_join : ∀ (ws : List (List UInt8)) (w : List UInt8), (∀ v ∈ w :: ws, ∀ c ∈ v, c ≠ 32) → splitL (w ++ joinR ws) = w :: ws
  | [], w, h => by
    rw [joinR, List.append_nil, splitL_no w (h w (by simp))]
  | v :: ws, w, h => by
    rw [joinR, List.cons_append, splitL_at w _ (h w (by simp)), split_join ws v (fun x hx => h x (by simp at hx ⊢; exact .inr hx))]
theorem trim_trim (l : List UInt8) : trimL (trimL l) = trimL l := by
  have hm : ∀ w ∈ (splitL l).filter (fun w => !decide (w = [])), (∀ c ∈ w, c ≠ 32) ∧ w ≠ [] := by
    intro w hw
    rw [List.mem_filter] at hw
    exact ⟨split_mem l w hw.1, by simpa using hw.2⟩
  unfold trimL
  generalize (splitL l).filter (fun w => !decide (w = [])) = ws at *
  cases ws with
  | nil => rfl
  | cons w ws =>
    rw [joinL, split_join ws w (fun v hv => (hm v hv).1), List.filter_eq_self.2 (fun v hv => by simpa using (hm v hv).2), joinL]
theorem trim_len (l : List UInt8) : (trimL l).length ≤ l.length := by
  have h1 : ∀ ws : List (List UInt8), (joinR ws).length = ws.length + sumW ws := by
    intro ws
    induction ws with
    | nil => rfl
    | cons w ws ih => simp [joinR, sumW, ih]; omega
  have h2 : ∀ l : List UInt8, sumW (splitL l) + (splitL l).length ≤ l.length + 1 := by
    intro l
    induction l with
    | nil => simp [splitL, sumW]
    | cons c t ih =>
      rw [splitL]
      split
      · simp [sumW]; omega
      · split
        · rename_i h; exact absurd h (splitL_ne t)
        · rename_i w ws h
          rw [h] at ih
          simp [sumW] at ih ⊢
          omega
  have h3 : ∀ ws : List (List UInt8), sumW (ws.filter fun w => !decide (w = [])) + (ws.filter fun w => !decide (w = [])).length ≤ sumW ws + ws.length := by
    intro ws
    induction ws with
    | nil => simp [sumW]
    | cons w ws ih =>
      rw [List.filter_cons]
      split <;> simp [sumW] <;> omega
  have h4 := h2 l
  have h5 := h3 (splitL l)
  unfold trimL
  generalize (splitL l).filter (fun w => !decide (w = [])) = ws at *
  cases ws with
  | nil => simp [joinL]
  | cons w ws =>
    rw [joinL, List.length_append, h1]
    simp [sumW] at h5
    omega
theorem utfTwice (s : ByteArray) (hs : s.size ≤ 1048576) : ∃ k, g_quirelaw06_UtfTwice k s = some true := by
  rw [L_size] at hs
  obtain ⟨k, hk⟩ : ∃ k : Nat, k = (L s).length + 100 := ⟨_, rfl⟩
  refine ⟨k, ?_⟩
  have hal : g_quirelaw06_alive k = some true := alive (by omega)
  obtain ⟨r, e1, e2⟩ := utfTrim (k := k) (s := s) hs (by omega)
  have hr : (L r).length ≤ (L s).length := by rw [e2]; exact trim_len _
  obtain ⟨q, e3, e4⟩ := utfTrim (k := k) (s := r) (by omega) (by omega)
  unfold g_quirelaw06_UtfTwice
  have mlen : ∀ g : UInt8 → UInt8, (L (strOf (I ((L s).map g)))).length = (L s).length := fun g => by rw [L_strOf_I, List.length_map]
  rw [e1, Option.bind_some, e3, Option.bind_some, beq_toList, e4, e2, trim_trim, dt rfl, bt]
  rw [utfLower hs (by omega), Option.bind_some, utfUpper (s := strOf (I ((L s).map (mp 65 90 32)))) (by rw [mlen]; omega) (by rw [mlen]; omega), Option.bind_some, utfUpper hs (by omega), Option.bind_some, beq_toList, L_strOf_I, L_strOf_I, L_strOf_I, List.map_map]
  rw [dt (by congr 1; funext c; exact up_low c), bt, Option.bind_some]
  rw [utfLower (s := strOf (I ((L s).map (mp 97 122 (-32))))) (by rw [mlen]; omega) (by rw [mlen]; omega), Option.bind_some, Option.bind_some, beq_toList, L_strOf_I, L_strOf_I, L_strOf_I, List.map_map]
  rw [dt (by congr 1; funext c; exact low_up c), bt, Option.bind_some]
  rw [dt (by rw [L_size, L_size, mlen]), Option.bind_some, bt, hal]
  rfl
end Go.Proofs.YtnbjdgamindikaaDoor.W
