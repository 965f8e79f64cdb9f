/- HuffReads: the law. -/
import Derived.Test.YthgbompoldmhmaaGh
namespace Go.Proofs.Ythgbompoldmhmaa.W
open Go Go.Q Go.Proofs
set_option linter.unusedVariables false
set_option linter.unusedSimpArgs false

theorem next_top (k : Nat) (hk : 400 ≤ k) (l : List Int) (h : (judge l).2 = 0) (cs sy : List Int) (hd : Dec l cs sy) (B : List Int) (hB : okB B) (hBl : B.length ≤ 140737488355328) (a : Nat) (ha : a ≤ 8 * B.length) :
    ∃ (s e : Int) (a' : Nat), a' ≤ 8 * B.length ∧ f21d k cs (B.drop (a / 8)) ((a % 8 : Nat) : Int) sy = some (s, e, B.drop (a' / 8), ((a' % 8 : Nat) : Int)) ∧ f22 k l (codesL l).1 B (a : Int) = some (s, e, (a' : Int)) := by
  have key := next_ok k hk l h cs sy hd B hB hBl a 15 1 0 a k k (by omega) (by omega) (by simp) (by simp [sr]) ha (.inl rfl) (by omega) (by omega)
  have e1 : f21d k cs (B.drop (a / 8)) ((a % 8 : Nat) : Int) sy = ((f21d_l0 k cs sy k ((0 : Nat) : Int) ((hf l 1 : Nat) : Int) ((ah l 1 : Nat) : Int) ((1 : Nat) : Int) (B.drop (a / 8)) ((a % 8 : Nat) : Int)).bind fun y10848 => match y10848 with | (Sum.inl (x10797, x10798, x10799)) => some (0, x10797, (B.drop (a / 8)), ((a % 8 : Nat) : Int)) | (Sum.inr (x10800, x10801, x10802)) => some (x10800, 0, x10801, x10802)) := rfl
  have e2 : f22 k l (codesL l).1 B (a : Int) = ((f22_l0 k l (codesL l).1 B (a : Int) k ((0 : Nat) : Int) ((1 : Nat) : Int) (a : Int)).bind fun y10306 => match y10306 with | (Sum.inl (x9995, x9996, x9997)) => some (x9995, x9996, x9997) | (Sum.inr x9998) => some (0, 11, (a : Int))) := rfl
  rw [e1, e2]
  generalize f21d_l0 k cs sy k ((0 : Nat) : Int) ((hf l 1 : Nat) : Int) ((ah l 1 : Nat) : Int) ((1 : Nat) : Int) (B.drop (a / 8)) ((a % 8 : Nat) : Int) = X at *
  generalize f22_l0 k l (codesL l).1 B (a : Int) k ((0 : Nat) : Int) ((1 : Nat) : Int) (a : Int) = Y at *
  cases key with
  | err e b p he => exact ⟨0, e, a, ha, rfl, rfl⟩
  | end_ b p a' => exact ⟨0, 11, a, ha, rfl, rfl⟩
  | sym s a' ha' => exact ⟨s, 0, a', ha', rfl, rfl⟩

theorem f7_l1_ok (k : Nat) (hk : 400 ≤ k) (l : List Int) (h : (judge l).2 = 0) (cs sy : List Int) (hd : Dec l cs sy) (B : List Int) (hB : okB B) (hBl : B.length ≤ 140737488355328) : ∀ (n i a : Nat), i ≤ 4000 → 4000 - i < n → a ≤ 8 * B.length →
    f7_l1 k l B cs sy (codesL l).1 n i (B.drop (a / 8)) ((a % 8 : Nat) : Int) (a : Int) = some (Sum.inl true) ∨ f7_l1 k l B cs sy (codesL l).1 n i (B.drop (a / 8)) ((a % 8 : Nat) : Int) (a : Int) = some (Sum.inr ()) := by
  intro n
  induction n with
  | zero => intro i a _ h; omega
  | succ n ih =>
    intro i a hi hn ha
    rw [f7_l1.eq_2, bd]
    by_cases h4 : i < 4000
    · obtain ⟨s, e, a', ha', e1, e2⟩ := next_top k hk l h cs sy hd B hB hBl a ha
      have e3 : f23 k (B.drop (a' / 8)) ((a' % 8 : Nat) : Int) = some ((8 * B.length - a' : Nat) : Int) := by
        unfold f23
        rw [List.length_drop]
        simp only [Option.bind_some]
        rw [wi (n := 8 * ((B.length - a' / 8 : Nat) : Int)) (by omega) (by omega), wi (by omega) (by omega)]
        congr 1; omega
      have e4 : f24 k B (a' : Int) = some ((8 * B.length - a' : Nat) : Int) := by
        unfold f24
        simp only [Option.bind_some]
        rw [wi (n := 8 * (B.length : Int)) (by omega) (by omega), wi (by omega) (by omega)]
        congr 1; omega
      rw [if_pos (by omega), e1, e2]
      simp only [Option.bind_some, e3, e4, decide_true, Bool.not_true, bf, bnd']
      by_cases he : e = 0
      · rw [if_pos he, wsucc (by omega)]
        exact ih (i + 1) a' (by omega) (by omega) ha'
      · rw [if_neg he]; exact .inl rfl
    · rw [if_neg (by omega)]; exact .inr rfl

theorem huffReads (l B : List Int) (hl : l.length ≤ maxLen ∧ ∀ x ∈ l, (Lit.int .i64 x).wf = true) (hb : B.length ≤ maxLen ∧ ∀ x ∈ B, (Lit.int .u8 x).wf = true) (ul : l.length * 8 ≤ 140737488351232) (ub : B.length * 1 ≤ 140737488351232) : ∃ k, f7 k l B = some true := by
  refine ⟨5000, ?_⟩
  have hB : okB B := fun x hx => by
    obtain ⟨b, rfl⟩ := u8_bv (hb.2 x hx)
    have := b.isLt
    omega
  have e20 : f20 5000 B = some B := by
    unfold f20 f34
    rw [dt (show (List.length ([] : List Int) + List.length B) * 1 ≤ 140737488355328 by simp; omega)]
    rfl
  have h19 := f19_ok (k := 5000) (by omega) (l := l)
  unfold f7
  by_cases h : (judge l).2 = 0
  · rw [if_pos h] at h19
    obtain ⟨cs, sy, e19, hd⟩ := h19
    have hc : (codesL l).2 = 0 := by unfold codesL; rw [if_pos h]
    rw [e19]
    simp only [Option.bind_some, f15_eq (show 330 ≤ 5000 by omega), hc, decide_true, Bool.not_true, bf, beq_self_eq_true, alive (show 64 ≤ 5000 by omega), e20]
    have key := f7_l1_ok 5000 (by omega) l h cs sy hd B hB (by omega) 5000 0 0 (by omega) (by omega) (by omega)
    have key' : f7_l1 5000 l B cs sy (codesL l).1 5000 0 B 0 0 = some (Sum.inl true) ∨ f7_l1 5000 l B cs sy (codesL l).1 5000 0 B 0 0 = some (Sum.inr ()) := key
    rcases key' with e | e <;> rw [e] <;> rfl
  · rw [if_neg h] at h19
    have hc : (codesL l).2 = (judge l).2 := by unfold codesL; rw [if_neg h]
    rw [h19]
    simp only [Option.bind_some, f15_eq (show 330 ≤ 5000 by omega), hc, decide_true, Bool.not_true, bf, df h, Bool.not_false, beq_self_eq_true, alive (show 64 ≤ 5000 by omega), bt]
end Go.Proofs.Ythgbompoldmhmaa.W
