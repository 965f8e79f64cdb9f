/- The document's first character; texts as lists of characters. -/
import Derived.Test.YtnbjdgamindikaaDoorPu1
namespace Go.Proofs.YtnbjdgamindikaaDoor.W
open Go Go.Q Go.Proofs
set_option linter.unusedVariables false
set_option linter.unusedSimpArgs false

instance (l : List UInt8) (c w : Nat) : Decidable (okL l c w) := by unfold okL; infer_instance
/-- What so many bytes tell by the document's rule. -/
def numL (l : List UInt8) (x : Nat) : Int :=
  if x = 1 then byt l 0 else if x = 2 then ((byt l 0 : Int) - 192) * 64 + byt l 1 - 128
  else if x = 3 then (((byt l 0 : Int) - 224) * 64 + byt l 1 - 128) * 64 + byt l 2 - 128
  else ((((byt l 0 : Int) - 240) * 64 + byt l 1 - 128) * 64 + byt l 2 - 128) * 64 + byt l 3 - 128
theorem num_of {l : List UInt8} {c w : Nat} (h : okL l c w) : numL l w = c := by
  unfold okL at h
  unfold numL
  rcases h with ⟨rfl, h⟩ | ⟨rfl, h⟩ | ⟨rfl, h⟩ | ⟨rfl, h⟩
  · rw [if_pos rfl]; omega
  · rw [if_neg (by omega), if_pos rfl]; omega
  · rw [if_neg (by omega), if_neg (by omega), if_pos rfl]; omega
  · rw [if_neg (by omega), if_neg (by omega), if_neg (by omega)]; omega

theorem l1_step {k : Nat} {s : ByteArray} {x m i : Int} {n : Nat} : g_quireref06_first_l1 k s x (n + 1) m i = (if i < x then ((ix (I (L s)) i).bind fun b => g_quireref06_first_l1 k s x n (IntKind.wrap .i64 (IntKind.wrap .i64 (IntKind.wrap .i64 (m * 64) + IntKind.wrap .i64 b) - 128)) (IntKind.wrap .i64 (i + 1))) else some m) := by
  rw [g_quireref06_first_l1.eq_2]
  simp only [bd, Option.bind_some, strInts_L]
theorem l1_go {k : Nat} {s : ByteArray} {x : Nat} {m : Int} {i n : Nat} (hi : i < x) (hx : x ≤ (L s).length) (hx4 : x ≤ 4) (hm : -100000000 ≤ m ∧ m ≤ 100000000) : g_quireref06_first_l1 k s x (n + 1) m i = g_quireref06_first_l1 k s x n (m * 64 + byt (L s) i - 128) ((i + 1 : Nat) : Int) := by
  have hb := byt_lt (L s) i
  rw [l1_step, if_pos (by omega), ix_I (by omega)]
  simp only [Option.bind_some]
  rw [wi (n := m * 64) (by omega) (by omega), wi (n := (byt (L s) i : Int)) (by omega) (by omega), wi (n := m * 64 + (byt (L s) i : Int)) (by omega) (by omega), wi (n := m * 64 + (byt (L s) i : Int) - 128) (by omega) (by omega), wi (n := (i : Int) + 1) (by omega) (by omega)]
  rfl
theorem l1_end {k : Nat} {s : ByteArray} {x m : Int} {n : Nat} {i : Int} (hi : ¬ i < x) : g_quireref06_first_l1 k s x (n + 1) m i = some m := by
  rw [l1_step, if_neg hi]

theorem first_num {k : Nat} {s : ByteArray} {x : Nat} {m : Int} (h1 : 1 ≤ x) (h4 : x ≤ 4) (hx : x ≤ (L s).length) (hm : m = if x = 1 then (byt (L s) 0 : Int) else if x = 2 then (byt (L s) 0 : Int) - 192 else if x = 3 then (byt (L s) 0 : Int) - 224 else (byt (L s) 0 : Int) - 240) (hk : 6 ≤ k) :
    g_quireref06_first_l1 k s x k m 1 = some (numL (L s) x) := by
  obtain ⟨n, hn⟩ : ∃ n, k = n + 6 := ⟨k - 6, by omega⟩
  have b0 := byt_lt (L s) 0; have b1 := byt_lt (L s) 1; have b2 := byt_lt (L s) 2; have b3 := byt_lt (L s) 3
  unfold numL
  have hgo : ∀ j m i, g_quireref06_first_l1 k s x (j + 1) m i = g_quireref06_first_l1 k s x (j + 1) m i := fun _ _ _ => rfl
  obtain rfl | rfl | rfl | rfl : x = 1 ∨ x = 2 ∨ x = 3 ∨ x = 4 := by omega
  · rw [if_pos rfl] at hm ⊢
    subst hm
    show g_quireref06_first_l1 k s _ k _ _ = _
    generalize hk' : k = k' at *
    subst hn
    rw [show n + 6 = (n + 5) + 1 from rfl, l1_end (by omega)]
  · rw [if_neg (by omega), if_pos rfl] at hm ⊢
    have e1 := l1_go (k := k) (s := s) (x := 2) (m := m) (i := 1) (n := n + 5) (by omega) hx (by omega) (by omega)
    have e2 := l1_end (k := k) (s := s) (x := ((2 : Nat) : Int)) (m := m * 64 + byt (L s) 1 - 128) (n := n + 4) (i := ((1 + 1 : Nat) : Int)) (by omega)
    rw [show (g_quireref06_first_l1 k s ((2 : Nat) : Int) k m 1) = g_quireref06_first_l1 k s ((2 : Nat) : Int) ((n + 5) + 1) m ((1 : Nat) : Int) by rw [← hn]; rfl, e1, e2, hm]
  · rw [if_neg (by omega), if_neg (by omega), if_pos rfl] at hm ⊢
    have e1 := l1_go (k := k) (s := s) (x := 3) (m := m) (i := 1) (n := n + 5) (by omega) hx (by omega) (by omega)
    have e2 := l1_go (k := k) (s := s) (x := 3) (m := m * 64 + byt (L s) 1 - 128) (i := 2) (n := n + 4) (by omega) hx (by omega) (by omega)
    have e3 := l1_end (k := k) (s := s) (x := ((3 : Nat) : Int)) (m := (m * 64 + byt (L s) 1 - 128) * 64 + byt (L s) 2 - 128) (n := n + 3) (i := ((2 + 1 : Nat) : Int)) (by omega)
    rw [show (g_quireref06_first_l1 k s ((3 : Nat) : Int) k m 1) = g_quireref06_first_l1 k s ((3 : Nat) : Int) ((n + 5) + 1) m ((1 : Nat) : Int) by rw [← hn]; rfl, e1]
    rw [show ((1 + 1 : Nat) : Int) = ((2 : Nat) : Int) from rfl, e2, e3, hm]
  · rw [if_neg (by omega), if_neg (by omega), if_neg (by omega)] at hm ⊢
    have e1 := l1_go (k := k) (s := s) (x := 4) (m := m) (i := 1) (n := n + 5) (by omega) hx (by omega) (by omega)
    have e2 := l1_go (k := k) (s := s) (x := 4) (m := m * 64 + byt (L s) 1 - 128) (i := 2) (n := n + 4) (by omega) hx (by omega) (by omega)
    have e3 := l1_go (k := k) (s := s) (x := 4) (m := (m * 64 + byt (L s) 1 - 128) * 64 + byt (L s) 2 - 128) (i := 3) (n := n + 3) (by omega) hx (by omega) (by omega)
    have e4 := l1_end (k := k) (s := s) (x := ((4 : Nat) : Int)) (m := ((m * 64 + byt (L s) 1 - 128) * 64 + byt (L s) 2 - 128) * 64 + byt (L s) 3 - 128) (n := n + 2) (i := ((3 + 1 : Nat) : Int)) (by omega)
    rw [show (g_quireref06_first_l1 k s ((4 : Nat) : Int) k m 1) = g_quireref06_first_l1 k s ((4 : Nat) : Int) ((n + 5) + 1) m ((1 : Nat) : Int) by rw [← hn]; rfl, e1]
    rw [show ((1 + 1 : Nat) : Int) = ((2 : Nat) : Int) from rfl, e2, show ((2 + 1 : Nat) : Int) = ((3 : Nat) : Int) from rfl, e3, e4, hm]

/-- The test at so many bytes. -/
theorem first_test {k : Nat} {s : ByteArray} {x : Nat} (h1 : 1 ≤ x) (hx : x ≤ (L s).length) :
    (bif decide (0 ≤ numL (L s) x) then ((g_quireref06_char k (numL (L s) x)).bind fun y => (bif y then (bif (decide (0 ≤ (0 : Int) ∧ (0 : Int) ≤ (x : Int) ∧ (x : Int) ≤ ((ByteArray.size s : Nat) : Int))) then ((g_quireref06_Write k (numL (L s) x)).bind fun z => ((some ((strOf z).toList == (ByteArray.extract s (Int.toNat 0) (Int.toNat (x : Int))).toList)).bind fun q => some q)) else none) else some false)) else some false) =
      some (decide (0 ≤ numL (L s) x ∧ okL (L s) (numL (L s) x).toNat x)) := by
  by_cases h0 : 0 ≤ numL (L s) x
  · rw [dt h0, char_eq]
    simp only [bt, Option.bind_some]
    by_cases hc : chr (numL (L s) x).toNat
    · rw [dt (show 0 ≤ numL (L s) x ∧ chr (numL (L s) x).toNat from ⟨h0, hc⟩), Write_eq, if_pos ⟨h0, hc⟩]
      rw [dt (show 0 ≤ (0 : Int) ∧ (0 : Int) ≤ (x : Int) ∧ (x : Int) ≤ ((ByteArray.size s : Nat) : Int) by rw [L_size]; omega)]
      simp only [bt, Option.bind_some, beq_toList, L_strOf_I, L_extract]
      congr 1
      apply decide_eq_decide.2
      rw [wrL_okL hc]
      simp only [Int.toNat_natCast, Int.toNat_zero, List.drop_zero, Nat.sub_zero]
      constructor
      · intro h
        refine ⟨h0, ?_, hx, h.symm⟩
        have := congrArg List.length h
        rw [List.length_take] at this
        omega
      · rintro ⟨_, _, _, h⟩
        exact h.symm
    · rw [df (fun h => hc h.2)]
      simp only [bf]
      congr 1
      symm
      apply decide_eq_false
      rintro ⟨_, h⟩
      apply hc
      unfold okL at h
      unfold chr
      omega
  · rw [df h0, show (decide (0 ≤ numL (L s) x ∧ okL (L s) (numL (L s) x).toNat x)) = false from decide_eq_false (fun h => h0 h.1)]
    rfl

theorem l0_step {k : Nat} {s : ByteArray} {x n : Nat} (h1 : 1 ≤ x) (h4 : x ≤ 4) (hx : x ≤ (L s).length) (hk : 6 ≤ k) :
    g_quireref06_first_l0 k s (n + 1) x = if okL (L s) (numL (L s) x).toNat x ∧ 0 ≤ numL (L s) x then some (Sum.inl (numL (L s) x, (x : Int))) else g_quireref06_first_l0 k s n ((x + 1 : Nat) : Int) := by
  have b0 := byt_lt (L s) 0
  rw [g_quireref06_first_l0.eq_2]
  rw [dt (show (x : Int) ≤ 4 by omega)]
  simp only [bt, Option.bind_some]
  rw [dt (show (x : Int) ≤ ((ByteArray.size s : Nat) : Int) by rw [L_size]; omega)]
  simp only [bt, strInts_L]
  rw [ix_I0 (by omega)]
  simp only [Option.bind_some, bd]
  rw [wi (n := (byt (L s) 0 : Int)) (by omega) (by omega), wi (n := (byt (L s) 0 : Int) - 192) (by omega) (by omega), wi (n := (byt (L s) 0 : Int) - 224) (by omega) (by omega), wi (n := (byt (L s) 0 : Int) - 240) (by omega) (by omega)]
  have key : ∀ m : Int, (m = if x = 1 then (byt (L s) 0 : Int) else if x = 2 then (byt (L s) 0 : Int) - 192 else if x = 3 then (byt (L s) 0 : Int) - 224 else (byt (L s) 0 : Int) - 240) →
      ((g_quireref06_first_l1 k s x k m 1).bind fun x8808 => ((bif (decide (0 ≤ x8808)) then ((g_quireref06_char k x8808).bind fun x8841 => (bif x8841 then (bif (decide (0 ≤ (0 : Int) ∧ (0 : Int) ≤ (x : Int) ∧ (x : Int) ≤ ((ByteArray.size s : Nat) : Int))) then ((g_quireref06_Write k x8808).bind fun x8845 => ((some ((strOf x8845).toList == (ByteArray.extract s (Int.toNat 0) (Int.toNat (x : Int))).toList)).bind fun x8846 => some x8846)) else none) else some false)) else some false).bind fun x8830 => (bif x8830 then some (Sum.inl (x8808, (x : Int))) else (g_quireref06_first_l0 k s n (IntKind.wrap .i64 ((x : Int) + 1)))))) =
      if okL (L s) (numL (L s) x).toNat x ∧ 0 ≤ numL (L s) x then some (Sum.inl (numL (L s) x, (x : Int))) else g_quireref06_first_l0 k s n ((x + 1 : Nat) : Int) := by
    intro m hm
    rw [first_num h1 h4 hx hm hk, Option.bind_some, first_test h1 hx, Option.bind_some, wi (by omega) (by omega)]
    by_cases h : 0 ≤ numL (L s) x ∧ okL (L s) (numL (L s) x).toNat x
    · rw [dt h, if_pos ⟨h.2, h.1⟩]; rfl
    · rw [df h, if_neg (fun h' => h ⟨h'.2, h'.1⟩)]; rfl
  simp only [bd, Option.bind_some] at key
  obtain rfl | rfl | rfl | rfl : x = 1 ∨ x = 2 ∨ x = 3 ∨ x = 4 := by omega
  · have := key _ rfl
    simpa using this
  · have := key _ rfl
    simpa using this
  · have := key _ rfl
    simpa using this
  · have := key _ rfl
    simpa using this

theorem l0_end {k : Nat} {s : ByteArray} {x n : Nat} (h : ¬ (x ≤ 4 ∧ x ≤ (L s).length)) : g_quireref06_first_l0 k s (n + 1) x = some (Sum.inr ()) := by
  rw [g_quireref06_first_l0.eq_2]
  simp only [aS, Option.bind_some]
  rw [show (decide ((x : Int) ≤ 4) && decide ((x : Int) ≤ ((ByteArray.size s : Nat) : Int))) = false by
    apply Bool.eq_false_iff.2
    intro h'
    simp only [Bool.and_eq_true, decide_eq_true_eq] at h'
    rw [L_size] at h'
    omega]
  rfl

theorem first_go {k : Nat} {s : ByteArray} (hk : 6 ≤ k) (h0 : 0 < (L s).length) : ∀ (n x : Nat), 1 ≤ x → x ≤ 5 → 6 ≤ n + x → (∀ c w, okL (L s) c w → x ≤ w) → g_quireref06_first_l0 k s n x = if isL (L s) = true then some (Sum.inl (((decL (L s)).1 : Int), ((decL (L s)).2 : Int))) else some (Sum.inr ()) := by
  intro n
  induction n with
  | zero => intro x h1 h5 h2 h3; omega
  | succ n ih =>
    intro x h1 h5 h2 h3
    by_cases hx : x ≤ 4 ∧ x ≤ (L s).length
    · rw [l0_step h1 hx.1 hx.2 hk]
      by_cases ho : okL (L s) (numL (L s) x).toNat x ∧ 0 ≤ numL (L s) x
      · have hd := decL_of ho.1
        rw [if_pos ho, if_pos ((isL_iff h0).2 (by rw [hd]; exact ho.1)), hd]
        simp only [Option.some.injEq, Sum.inl.injEq, Prod.mk.injEq]
        exact ⟨by omega, trivial⟩
      · rw [if_neg ho]
        refine ih (x + 1) (by omega) (by omega) (by omega) fun c w hcw => ?_
        have h4 := h3 c w hcw
        by_cases hxw : x = w
        · subst hxw
          have := num_of hcw
          exact absurd ⟨by rw [this]; simpa using hcw, by omega⟩ ho
        · omega
    · rw [l0_end hx, if_neg]
      intro h
      have h := (isL_iff h0).1 h
      have h5 := h3 _ _ h
      have h6 := okL_w h
      omega

theorem first_eq {k : Nat} {s : ByteArray} (hk : 6 ≤ k) (h0 : 0 < (L s).length) : g_quireref06_first k s = some (((decL (L s)).1 : Int), ((decL (L s)).2 : Int), isL (L s)) := by
  unfold g_quireref06_first
  have := first_go (s := s) hk h0 k 1 (by omega) (by omega) (by omega) (fun c w h => (okL_w h).1)
  rw [show (g_quireref06_first_l0 k s k 1) = g_quireref06_first_l0 k s k ((1 : Nat) : Int) from rfl, this]
  cases h : isL (L s) with
  | true => rfl
  | false =>
    have hd : decL (L s) = (65533, 1) := by
      unfold isL at h
      simpa using h
    rw [hd]
    rfl
end Go.Proofs.YtnbjdgamindikaaDoor.W
