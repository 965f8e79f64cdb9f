/- The document's reading and writing of characters. -/
import Derived.Test.YtnbjdgamindikaaDoorFm
import Derived.Test.YtnbjdgamindikaaDoorQy
import Derived.KernelRfl
namespace Go.Proofs.YtnbjdgamindikaaDoor.W
open Go Go.Q Go.Proofs
set_option linter.unusedVariables false
set_option linter.unusedSimpArgs false

/-- A character as bytes. -/
def wrL (c : Nat) : List UInt8 :=
  if c < 128 then [UInt8.ofNat c] else if c < 2048 then [UInt8.ofNat (192 + c / 64), UInt8.ofNat (128 + c % 64)]
  else if c < 65536 then [UInt8.ofNat (224 + c / 4096), UInt8.ofNat (128 + c / 64 % 64), UInt8.ofNat (128 + c % 64)]
  else [UInt8.ofNat (240 + c / 262144), UInt8.ofNat (128 + c / 4096 % 64), UInt8.ofNat (128 + c / 64 % 64), UInt8.ofNat (128 + c % 64)]
def chr (c : Nat) : Prop := c ≤ 1114111 ∧ ¬ (55296 ≤ c ∧ c ≤ 57343)
instance (c : Nat) : Decidable (chr c) := by unfold chr; infer_instance
theorem toN {n : Nat} (h : n < 256) : (UInt8.ofNat n).toNat = n := by
  rw [UInt8.toNat_ofNat']; omega
theorem u8_ext {a b : UInt8} (h : a.toNat = b.toNat) : a = b := UInt8.toNat_inj.1 h
theorem take_byt {l : List UInt8} : ∀ {w : Nat}, w ≤ l.length → ∀ (m : List UInt8), m.length = w → (l.take w = m ↔ ∀ k, k < w → byt l k = (m.getD k 0).toNat) := by
  intro w hw m hm
  constructor
  · rintro h k hk
    rw [← h]
    simp [byt, List.getD_eq_getElem?_getD, List.getElem?_take, hk]
  · intro h
    apply List.ext_getElem
    · simp; omega
    · intro i h1 h2
      have := h i (by omega)
      simp only [byt, List.getD_eq_getElem?_getD] at this
      rw [List.getElem?_eq_getElem (by omega), List.getElem?_eq_getElem (by omega)] at this
      simp only [Option.getD_some] at this
      simp only [List.getElem_take]
      exact u8_ext this
theorem wrL_okL {l : List UInt8} {c w : Nat} (hc : chr c) : okL l c w ↔ w = (wrL c).length ∧ w ≤ l.length ∧ l.take w = wrL c := by
  have hl := @take_byt l w
  unfold chr at hc
  constructor
  · intro h
    unfold okL at h
    rcases h with ⟨rfl, h1, h2⟩ | ⟨rfl, h1, h2⟩ | ⟨rfl, h1, h2⟩ | ⟨rfl, h1, h2⟩
    · have e : wrL c = [UInt8.ofNat c] := by unfold wrL; rw [if_pos (by omega)]
      refine ⟨by rw [e]; rfl, h1, ?_⟩
      rw [e, hl h1 _ rfl]
      intro k hk
      obtain rfl : k = 0 := by omega
      simp only [List.getD_cons_zero]
      rw [toN (by omega)]; omega
    · have e : wrL c = [UInt8.ofNat (192 + c / 64), UInt8.ofNat (128 + c % 64)] := by unfold wrL; rw [if_neg (by omega), if_pos (by omega)]
      refine ⟨by rw [e]; rfl, h1, ?_⟩
      rw [e, hl h1 _ rfl]
      intro k hk
      obtain rfl | rfl : k = 0 ∨ k = 1 := by omega
      all_goals (simp only [List.getD_cons_zero, List.getD_cons_succ]; rw [toN (by omega)]; omega)
    · have e : wrL c = [UInt8.ofNat (224 + c / 4096), UInt8.ofNat (128 + c / 64 % 64), UInt8.ofNat (128 + c % 64)] := by unfold wrL; rw [if_neg (by omega), if_neg (by omega), if_pos (by omega)]
      refine ⟨by rw [e]; rfl, h1, ?_⟩
      rw [e, hl h1 _ rfl]
      intro k hk
      obtain rfl | rfl | rfl : k = 0 ∨ k = 1 ∨ k = 2 := by omega
      all_goals (simp only [List.getD_cons_zero, List.getD_cons_succ]; rw [toN (by omega)]; omega)
    · have e : wrL c = [UInt8.ofNat (240 + c / 262144), UInt8.ofNat (128 + c / 4096 % 64), UInt8.ofNat (128 + c / 64 % 64), UInt8.ofNat (128 + c % 64)] := by unfold wrL; rw [if_neg (by omega), if_neg (by omega), if_neg (by omega)]
      refine ⟨by rw [e]; rfl, h1, ?_⟩
      rw [e, hl h1 _ rfl]
      intro k hk
      obtain rfl | rfl | rfl | rfl : k = 0 ∨ k = 1 ∨ k = 2 ∨ k = 3 := by omega
      all_goals (simp only [List.getD_cons_zero, List.getD_cons_succ]; rw [toN (by omega)]; omega)
  · rintro ⟨rfl, h1, h2⟩
    have h3 := (hl h1 _ rfl).1 h2
    clear h2 hl
    unfold okL
    by_cases c1 : c < 128
    · have e : wrL c = [UInt8.ofNat c] := by unfold wrL; rw [if_pos (by omega)]
      rw [e] at h1 h3 ⊢
      have k0 := h3 0 (by simp)
      simp only [List.getD_cons_zero] at k0
      rw [toN (by omega)] at k0
      simp at h1 ⊢
      omega
    · by_cases c2 : c < 2048
      · have e : wrL c = [UInt8.ofNat (192 + c / 64), UInt8.ofNat (128 + c % 64)] := by unfold wrL; rw [if_neg (by omega), if_pos (by omega)]
        rw [e] at h1 h3 ⊢
        have k0 := h3 0 (by simp); have k1 := h3 1 (by simp)
        simp only [List.getD_cons_zero, List.getD_cons_succ] at k0 k1
        rw [toN (by omega)] at k0 k1
        simp at h1 ⊢
        omega
      · by_cases c3 : c < 65536
        · have e : wrL c = [UInt8.ofNat (224 + c / 4096), UInt8.ofNat (128 + c / 64 % 64), UInt8.ofNat (128 + c % 64)] := by unfold wrL; rw [if_neg (by omega), if_neg (by omega), if_pos (by omega)]
          rw [e] at h1 h3 ⊢
          have k0 := h3 0 (by simp); have k1 := h3 1 (by simp); have k2 := h3 2 (by simp)
          simp only [List.getD_cons_zero, List.getD_cons_succ] at k0 k1 k2
          rw [toN (by omega)] at k0 k1 k2
          simp at h1 ⊢
          omega
        · have e : wrL c = [UInt8.ofNat (240 + c / 262144), UInt8.ofNat (128 + c / 4096 % 64), UInt8.ofNat (128 + c / 64 % 64), UInt8.ofNat (128 + c % 64)] := by unfold wrL; rw [if_neg (by omega), if_neg (by omega), if_neg (by omega)]
          rw [e] at h1 h3 ⊢
          have k0 := h3 0 (by simp); have k1 := h3 1 (by simp); have k2 := h3 2 (by simp); have k3 := h3 3 (by simp)
          simp only [List.getD_cons_zero, List.getD_cons_succ] at k0 k1 k2 k3
          rw [toN (by omega)] at k0 k1 k2 k3
          simp at h1 ⊢
          omega

theorem wu8 {n : Int} (h0 : 0 ≤ n) (h1 : n < 256) : IntKind.wrap .u8 n = n := by
  unfold IntKind.wrap; simp [IntKind.signed, IntKind.bits]; omega
theorem ofI {n : Nat} (h : n < 256) : ((UInt8.ofNat n).toNat : Int) = n := by rw [toN h]

theorem char_eq (k : Nat) (n : Int) : g_quireref06_char k n = some (decide (0 ≤ n ∧ chr n.toNat)) := by
  unfold g_quireref06_char
  by_cases h1 : 0 ≤ n <;> by_cases h2 : n ≤ 1114111 <;> by_cases h3 : 55296 ≤ n <;> by_cases h4 : n ≤ 57343 <;> simp [h1, h2, h3, h4, chr] <;> omega

theorem Write_eq (k : Nat) (n : Int) : g_quireref06_Write k n = some (I (wrL (if 0 ≤ n ∧ chr n.toNat then n.toNat else 65533))) := by
  unfold g_quireref06_Write
  rw [char_eq]
  simp only [Option.bind_some]
  obtain ⟨c, hc, hcc⟩ : ∃ c : Nat, chr c ∧ (if 0 ≤ n ∧ chr n.toNat then n.toNat else 65533) = c ∧ (bif !decide (0 ≤ n ∧ chr n.toNat) then some (65533 : Int) else some n) = some (c : Int) := by
    by_cases h : 0 ≤ n ∧ chr n.toNat
    · refine ⟨n.toNat, h.2, if_pos h, ?_⟩
      rw [dt h]
      simp only [Bool.not_true, bf]
      congr 1; omega
    · exact ⟨65533, by decide, if_neg h, by rw [df h]; rfl⟩
  rw [hcc.1, hcc.2]
  simp only [Option.bind_some, bd]
  clear hcc
  unfold chr at hc
  unfold wrL
  have t1 : Int.tdiv (c : Int) 64 = ((c / 64 : Nat) : Int) := rfl
  have t2 : Int.tmod (c : Int) 64 = ((c % 64 : Nat) : Int) := rfl
  have t3 : Int.tdiv (c : Int) 4096 = ((c / 4096 : Nat) : Int) := rfl
  have t4 : Int.tdiv (c : Int) 262144 = ((c / 262144 : Nat) : Int) := rfl
  have t5 : ∀ m : Nat, Int.tmod (m : Int) 64 = ((m % 64 : Nat) : Int) := fun _ => rfl
  by_cases c1 : c < 128
  · rw [if_pos (by omega), if_pos c1, wu8 (by omega) (by omega)]
    simp only [I, List.map_cons, List.map_nil]
    rw [ofI (by omega)]
  · by_cases c2 : c < 2048
    · rw [if_neg (by omega), if_pos (by omega), if_neg c1, if_pos c2, t1, t2, wi (n := ((c / 64 : Nat) : Int)) (by omega) (by omega), wi (by omega) (by omega), wi (by omega) (by omega), wu8 (by omega) (by omega), wu8 (by omega) (by omega)]
      simp only [I, List.map_cons, List.map_nil]
      rw [ofI (by omega), ofI (by omega)]
      congr 1
    · by_cases c3 : c < 65536
      · rw [if_neg (by omega), if_neg (by omega), if_pos (by omega), if_neg c1, if_neg c2, if_pos c3, t1, t2, t3, wi (n := ((c / 64 : Nat) : Int)) (by omega) (by omega), wi (n := ((c / 4096 : Nat) : Int)) (by omega) (by omega), t5]
        rw [wi (by omega) (by omega), wi (by omega) (by omega), wi (by omega) (by omega), wu8 (by omega) (by omega), wu8 (by omega) (by omega), wu8 (by omega) (by omega)]
        simp only [I, List.map_cons, List.map_nil]
        rw [ofI (by omega), ofI (by omega), ofI (by omega)]
        congr 1
      · rw [if_neg (by omega), if_neg (by omega), if_neg (by omega), if_neg c1, if_neg c2, if_neg c3, t1, t2, t3, t4, wi (n := ((c / 64 : Nat) : Int)) (by omega) (by omega), wi (n := ((c / 4096 : Nat) : Int)) (by omega) (by omega), wi (n := ((c / 262144 : Nat) : Int)) (by omega) (by omega), t5, t5]
        rw [wi (by omega) (by omega), wi (by omega) (by omega), wi (by omega) (by omega), wi (by omega) (by omega), wu8 (by omega) (by omega), wu8 (by omega) (by omega), wu8 (by omega) (by omega), wu8 (by omega) (by omega)]
        simp only [I, List.map_cons, List.map_nil]
        rw [ofI (by omega), ofI (by omega), ofI (by omega), ofI (by omega)]
        congr 1
end Go.Proofs.YtnbjdgamindikaaDoor.W
