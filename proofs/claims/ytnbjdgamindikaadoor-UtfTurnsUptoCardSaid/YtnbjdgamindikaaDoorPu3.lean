/- Right texts: the library's way and the document's. -/
import Derived.Test.YtnbjdgamindikaaDoorPu2
namespace Go.Proofs.YtnbjdgamindikaaDoor.W
open Go Go.Q Go.Proofs
set_option linter.unusedVariables false
set_option linter.unusedSimpArgs false

/-- The places at which characters begin: what is left there. -/
def sufs (l : List UInt8) : List (List UInt8) := if h : 0 < l.length then l :: sufs (l.drop (decL l).2) else []
termination_by l.length
decreasing_by
  have := decL_w h
  rw [List.length_drop]
  omega
theorem sufs_nil : sufs [] = [] := by rw [sufs]; rfl
theorem sufs_cons {l : List UInt8} (h : 0 < l.length) : sufs l = l :: sufs (l.drop (decL l).2) := by rw [sufs, dif_pos h]
theorem sufs_len (l : List UInt8) : (sufs l).length ≤ l.length := by
  by_cases h : 0 < l.length
  · have := decL_w h
    have ih := sufs_len (l.drop (decL l).2)
    rw [sufs_cons h, List.length_cons]
    rw [List.length_drop] at ih
    omega
  · have : l = [] := by
      cases l with
      | nil => rfl
      | cons a t => simp at h
    subst this
    rw [sufs_nil]; simp
termination_by l.length
decreasing_by
  rw [List.length_drop]
  omega
def validL (l : List UInt8) : Bool := (sufs l).all isL
theorem validL_nil : validL [] = true := by rw [validL, sufs_nil]; rfl
theorem validL_cons {l : List UInt8} (h : 0 < l.length) : validL l = (isL l && validL (l.drop (decL l).2)) := by rw [validL, sufs_cons h]; rfl
theorem nil_of_len {l : List UInt8} (h : ¬ 0 < l.length) : l = [] := by
  cases l with
  | nil => rfl
  | cons a t => simp at h

theorem dec1 {l : List UInt8} (h : 0 < l.length) (hb : byt l 0 < 128) : decL l = (byt l 0, 1) := decL_of (.inl ⟨rfl, h, rfl, hb⟩)
theorem isL_of {l : List UInt8} {c w : Nat} (h : okL l c w) : isL l = true := by
  have h0 : 0 < l.length := by have := okL_w h; omega
  rw [isL_iff h0, decL_of h]; exact h
theorem valid_skip {l : List UInt8} : ∀ (m : Nat), m ≤ l.length → (∀ i, i < m → byt l i < 128) → validL (l.drop m) = validL l := by
  intro m
  induction m with
  | zero => intro _ _; rfl
  | succ m ih =>
    intro h1 h2
    have hl : 0 < (l.drop m).length := by rw [List.length_drop]; omega
    have hb : byt (l.drop m) 0 < 128 := by rw [byt_drop]; exact h2 (m + 0) (by omega)
    rw [← ih (by omega) (fun i hi => h2 i (by omega)), validL_cons hl, dec1 hl hb, isL_of (.inl ⟨rfl, hl, rfl, hb⟩), Bool.true_and, List.drop_drop]

theorem L_drop {s : ByteArray} {i : Nat} : L (s.extract i (Int.toNat ((ByteArray.size s : Nat) : Int))) = (L s).drop i := by
  rw [L_extract, Int.toNat_natCast, L_size, ← List.length_drop, List.take_length]
theorem sizeL {s : ByteArray} : ((ByteArray.size s : Nat) : Int) = ((L s).length : Int) := by rw [L_size]

/-- The document's. -/
theorem refValid {k : Nat} (hk : 6 ≤ k) : ∀ (n : Nat) (s : ByteArray), (L s).length < n → g_quireref06_Valid_l0 k n s = some (if validL (L s) = true then Sum.inr () else Sum.inl ()) := by
  intro n
  induction n with
  | zero => intro s h; omega
  | succ n ih =>
    intro s hn
    rw [g_quireref06_Valid_l0.eq_2]
    simp only [Option.bind_some, sizeL]
    by_cases h0 : 0 < (L s).length
    · have hw := decL_w h0
      rw [dt (show (0 : Int) < ((L s).length : Int) by omega), first_eq hk h0]
      simp only [bt, Option.bind_some]
      rw [validL_cons h0]
      cases hv : isL (L s) with
      | false => simp
      | true =>
        simp only [Bool.not_true, bf, Bool.true_and]
        rw [dt (show 0 ≤ (((decL (L s)).2 : Nat) : Int) ∧ (((decL (L s)).2 : Nat) : Int) ≤ ((L s).length : Int) ∧ ((L s).length : Int) ≤ ((L s).length : Int) by omega)]
        simp only [bt]
        have := ih (s.extract (Int.toNat ((decL (L s)).2 : Int)) (Int.toNat ((ByteArray.size s : Nat) : Int))) (by rw [L_drop, List.length_drop]; omega)
        rw [L_drop, sizeL] at this
        exact this
    · have := nil_of_len h0
      rw [df (by omega), this, validL_nil]
      rfl

/-! ### The library's -/
def bv (l : List UInt8) (i : Nat) : BitVec 8 := (l.getD i 0).toBitVec
theorem bv_byt (l : List UInt8) (i : Nat) : (byt l i : Int) = ((bv l i).toNat : Int) := rfl
/-- Eight bytes as one number. -/
def wd (l : List UInt8) : BitVec 64 :=
  (((((bv l 0).setWidth 64 ||| ((bv l 1).setWidth 64 <<< 8)) ||| ((bv l 2).setWidth 64 <<< 16)) ||| ((bv l 3).setWidth 64 <<< 24)) ||| ((bv l 4).setWidth 64 <<< 32) ||| ((bv l 5).setWidth 64 <<< 40)) ||| ((bv l 6).setWidth 64 <<< 48) ||| ((bv l 7).setWidth 64 <<< 56)
theorem word_eq {k : Nat} {s : ByteArray} (h : 8 ≤ (L s).length) : g_unicode_utf8_word_string k s = some ((wd (L s)).toNat : Int) := by
  unfold g_unicode_utf8_word_string wd
  have hi : ∀ i : Nat, i < 8 → ix (strInts s) (i : Int) = some ((bv (L s) i).toNat : Int) := fun i hi => by rw [strInts_L, ix_I (by omega), bv_byt]
  rw [show ix (strInts s) 0 = _ from hi 0 (by omega), show ix (strInts s) 1 = _ from hi 1 (by omega), show ix (strInts s) 2 = _ from hi 2 (by omega), show ix (strInts s) 3 = _ from hi 3 (by omega),
    show ix (strInts s) 4 = _ from hi 4 (by omega), show ix (strInts s) 5 = _ from hi 5 (by omega), show ix (strInts s) 6 = _ from hi 6 (by omega), show ix (strInts s) 7 = _ from hi 7 (by omega)]
  simp only [Option.bind_some, u64_of_u8, u64_shl, u64_or]
  rfl
theorem bit7 {b : BitVec 8} (h : b.getLsbD 7 = false) : b.toNat < 128 := by
  have h1 := b.isLt
  rw [BitVec.getLsbD, Nat.testBit_eq_decide_div_mod_eq] at h
  simp at h
  omega
theorem wd_asc {l : List UInt8} (h : wd l &&& 0x8080808080808080#64 = 0#64) : ∀ i, i < 8 → byt l i < 128 := by
  have key : ∀ i, i < 8 → (bv l i).getLsbD 7 = false := by
    intro i hi
    have g := congrArg (fun x : BitVec 64 => x.getLsbD (8 * i + 7)) h
    obtain rfl | rfl | rfl | rfl | rfl | rfl | rfl | rfl : i = 0 ∨ i = 1 ∨ i = 2 ∨ i = 3 ∨ i = 4 ∨ i = 5 ∨ i = 6 ∨ i = 7 := by omega
    all_goals (unfold wd at g; simp [BitVec.getLsbD_or, BitVec.getLsbD_and, BitVec.getLsbD_shiftLeft, BitVec.getLsbD_setWidth] at g; simpa using g)
  intro i hi
  exact bit7 (key i hi)

theorem and_mask (a : BitVec 64) : bits .and .u64 (a.toNat : Int) 9259542123273814144 = ((a &&& 0x8080808080808080#64).toNat : Int) := by
  have := u64_and a 0x8080808080808080#64
  exact this
theorem mask0 {a : BitVec 64} (h : ((a &&& 0x8080808080808080#64).toNat : Int) = 0) : a &&& 0x8080808080808080#64 = 0#64 := by
  apply BitVec.eq_of_toNat_eq
  rw [BitVec.toNat_zero]
  omega
theorem mask_or {a b : BitVec 64} (h : (a ||| b) &&& 0x8080808080808080#64 = 0#64) : a &&& 0x8080808080808080#64 = 0#64 ∧ b &&& 0x8080808080808080#64 = 0#64 := by
  have key : ∀ i, (hi : i < 64) → ((a &&& 0x8080808080808080#64)[i] = false ∧ (b &&& 0x8080808080808080#64)[i] = false) := by
    intro i hi
    have g := congrArg (fun x : BitVec 64 => x[i]) h
    simp only [BitVec.getElem_and, BitVec.getElem_or, BitVec.getElem_zero] at g ⊢
    revert g
    cases a[i] <;> cases b[i] <;> cases (0x8080808080808080#64)[i] <;> simp
  constructor
  · apply BitVec.eq_of_getElem_eq
    intro i hi
    rw [(key i hi).1, BitVec.getElem_zero]
  · apply BitVec.eq_of_getElem_eq
    intro i hi
    rw [(key i hi).2, BitVec.getElem_zero]

theorem asc_drop {l : List UInt8} {p m : Nat} (h : ∀ i, i < m → byt (l.drop p) i < 128) : ∀ i, p ≤ i → i < p + m → byt l i < 128 := by
  intro i h1 h2
  have := h (i - p) (by omega)
  rwa [byt_drop, show p + (i - p) = i by omega] at this

theorem l1_valid {k : Nat} : ∀ (n : Nat) (s : ByteArray), (L s).length < n → Ret (g_unicode_utf8_ValidString_l1 k n s) fun r => validL (L r) = validL (L s) ∧ (L r).length ≤ (L s).length := by
  intro n
  induction n with
  | zero => intro s h; omega
  | succ n ih =>
    intro s hn
    rw [g_unicode_utf8_ValidString_l1.eq_2]
    simp only [Option.bind_some, sizeL]
    by_cases h32 : 32 < (L s).length
    · rw [dt (show (32 : Int) < ((L s).length : Int) by omega), dt (show 0 ≤ (8 : Int) ∧ (8 : Int) ≤ ((L s).length : Int) ∧ ((L s).length : Int) ≤ ((L s).length : Int) by omega), dt (show 0 ≤ (16 : Int) ∧ (16 : Int) ≤ ((L s).length : Int) ∧ ((L s).length : Int) ≤ ((L s).length : Int) by omega),
        dt (show 0 ≤ (24 : Int) ∧ (24 : Int) ≤ ((L s).length : Int) ∧ ((L s).length : Int) ≤ ((L s).length : Int) by omega), dt (show 0 ≤ (32 : Int) ∧ (32 : Int) ≤ ((L s).length : Int) ∧ ((L s).length : Int) ≤ ((L s).length : Int) by omega)]
      have hd : ∀ p : Nat, L (s.extract p (Int.toNat ((L s).length : Int))) = (L s).drop p := fun p => by rw [← sizeL, L_drop]
      have hw : ∀ p : Nat, p + 8 ≤ (L s).length → g_unicode_utf8_word_string k (s.extract p (Int.toNat ((L s).length : Int))) = some ((wd ((L s).drop p)).toNat : Int) := fun p hp => by
        rw [word_eq (by rw [hd, List.length_drop]; omega), hd]
      simp only [bt]
      rw [word_eq (by omega), show g_unicode_utf8_word_string k (s.extract (Int.toNat 8) (Int.toNat ((L s).length : Int))) = _ from hw 8 (by omega), show g_unicode_utf8_word_string k (s.extract (Int.toNat 16) (Int.toNat ((L s).length : Int))) = _ from hw 16 (by omega), show g_unicode_utf8_word_string k (s.extract (Int.toNat 24) (Int.toNat ((L s).length : Int))) = _ from hw 24 (by omega)]
      simp only [Option.bind_some, u64_or, and_mask]
      by_cases hz : ((((wd (L s) ||| wd ((L s).drop 8)) ||| (wd ((L s).drop 16) ||| wd ((L s).drop 24))) &&& 0x8080808080808080#64).toNat : Int) = 0
      · rw [dt hz]
        simp only [bt]
        obtain ⟨m1, m2⟩ := mask_or (mask0 hz)
        obtain ⟨m3, m4⟩ := mask_or m1
        obtain ⟨m5, m6⟩ := mask_or m2
        have a0 := wd_asc m3; have a1 := asc_drop (wd_asc m4); have a2 := asc_drop (wd_asc m5); have a3 := asc_drop (wd_asc m6)
        have hall : ∀ i, i < 32 → byt (L s) i < 128 := by
          intro i hi
          by_cases i1 : i < 8
          · exact a0 i i1
          · by_cases i2 : i < 16
            · exact a1 i (by omega) (by omega)
            · by_cases i3 : i < 24
              · exact a2 i (by omega) (by omega)
              · exact a3 i (by omega) (by omega)
        have hsk := valid_skip 32 (by omega) hall
        have h3 := hd 32
        refine Ret.mono (ih (s.extract (Int.toNat 32) (Int.toNat ((L s).length : Int))) ?_) ?_
        · show (L (s.extract 32 (Int.toNat ((L s).length : Int)))).length < n
          rw [h3, List.length_drop]; omega
        · rintro r ⟨r1, r2⟩
          have r1' : validL (L r) = validL (L (s.extract 32 (Int.toNat ((L s).length : Int)))) := r1
          have r2' : (L r).length ≤ (L (s.extract 32 (Int.toNat ((L s).length : Int)))).length := r2
          rw [h3] at r1' r2'
          rw [List.length_drop] at r2'
          exact ⟨r1'.trans hsk, by omega⟩
      · rw [df hz]
        exact Ret.pure ⟨rfl, Nat.le_refl _⟩
    · rw [df (show ¬ (32 : Int) < ((L s).length : Int) by omega)]
      exact Ret.pure ⟨rfl, Nat.le_refl _⟩

/-! #### The tables -/
def szOf (b : Nat) : Int := IntKind.wrap .i64 (bits .and .u8 (List.getD tab0 b (0 : Int)) 7)
def ixOf (b : Nat) : Int := shrI .u8 (List.getD tab0 b (0 : Int)) 4
def tck (b : Nat) : Bool :=
  if b < 194 ∨ 244 < b then szOf b == 1 && (decide (0 ≤ ixOf b ∧ ixOf b < 16)) else if b < 224 then szOf b == 2 && ixOf b == 0 else if b = 224 then szOf b == 3 && ixOf b == 1 else if b = 237 then szOf b == 3 && ixOf b == 2
  else if b < 240 then szOf b == 3 && ixOf b == 0 else if b = 240 then szOf b == 4 && ixOf b == 3 else if b = 244 then szOf b == 4 && ixOf b == 4 else szOf b == 4 && ixOf b == 0
theorem tck_all : ((List.range 128).all fun i => tck (i + 128)) = true := by kernel_rfl
theorem tck_at {b : Nat} (h1 : 128 ≤ b) (h2 : b < 256) : tck b = true := by
  have := List.all_eq_true.1 tck_all (b - 128) (by simp; omega)
  rwa [show b - 128 + 128 = b by omega] at this
end Go.Proofs.YtnbjdgamindikaaDoor.W
