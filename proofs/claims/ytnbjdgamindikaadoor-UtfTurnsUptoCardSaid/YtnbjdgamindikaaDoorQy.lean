/- Bytes as lists; how UTF-8 is read, on lists. -/
import Derived.Test.YtnbjdgamindikaaDoorQx
import Derived.Laws.Strings
namespace Go.Q
open Go
set_option linter.unusedVariables false
set_option linter.unusedSimpArgs false

theorem sS {b x : Bool} : (bif b then some b else some x) = some (b || x) := by cases b <;> rfl
theorem cS {α : Type} {b : Bool} {x y : α} : (bif b then some x else some y) = some (bif b then x else y) := by cases b <;> rfl
/-- The bytes of a string. -/
def L (s : ByteArray) : List UInt8 := s.data.toList
theorem L_ext {a b : ByteArray} (h : L a = L b) : a = b := by
  apply ByteArray.ext
  exact Array.ext' h
theorem L_size (s : ByteArray) : s.size = (L s).length := by rw [L, Array.length_toList]; rfl
theorem L_toList (s : ByteArray) : s.toList = L s := ByteArray.toList_eq s
theorem L_extract (s : ByteArray) (i j : Nat) : L (s.extract i j) = ((L s).drop i).take (j - i) := by simp [L]
theorem L_append (a b : ByteArray) : L (a ++ b) = L a ++ L b := by simp [L]
theorem L_empty : L ByteArray.empty = [] := rfl
theorem L_mk (l : List UInt8) : L (ByteArray.mk l.toArray) = l := by simp [L]
theorem L_strOf (l : List Int) : L (strOf l) = l.map fun n => UInt8.ofNat n.toNat := by
  have : ∀ (l : List Int) (acc : ByteArray), L (l.foldl (fun r n => r.push (UInt8.ofNat n.toNat)) acc) = L acc ++ l.map fun n => UInt8.ofNat n.toNat := by
    intro l
    induction l with
    | nil => intro acc; simp
    | cons x l ih => intro acc; rw [List.foldl_cons, ih]; simp [L, ByteArray.push]
  rw [strOf, this, L_empty, List.nil_append]
/-- Bytes as whole numbers. -/
def I (l : List UInt8) : List Int := l.map fun b => (b.toNat : Int)
theorem strInts_L (s : ByteArray) : strInts s = I (L s) := rfl
theorem I_length (l : List UInt8) : (I l).length = l.length := by simp [I]
theorem I_append (a b : List UInt8) : I (a ++ b) = I a ++ I b := by simp [I]
theorem L_strOf_I (l : List UInt8) : L (strOf (I l)) = l := by
  rw [L_strOf, I, List.map_map]
  have : ((fun n : Int => UInt8.ofNat n.toNat) ∘ fun b : UInt8 => (b.toNat : Int)) = id := by
    funext b
    simp
  rw [this, List.map_id]
theorem beq_toList (a b : ByteArray) : (a.toList == b.toList) = decide (L a = L b) := by
  rw [L_toList, L_toList]
  by_cases h : L a = L b
  · simp [h]
  · simp [h]
/-- The k-th byte, or 0. -/
def byt (l : List UInt8) (k : Nat) : Nat := (l.getD k 0).toNat
theorem byt_lt (l : List UInt8) (k : Nat) : byt l k < 256 := (l.getD k 0).toNat_lt
theorem byt_drop (l : List UInt8) (p k : Nat) : byt (l.drop p) k = byt l (p + k) := by
  simp [byt, List.getD_eq_getElem?_getD, List.getElem?_drop]
theorem ix_I {l : List UInt8} {i : Nat} (h : i < l.length) : ix (I l) (i : Int) = some (byt l i : Int) := by
  rw [ix_nat (by simpa [I] using h)]
  simp [I, byt, List.getD_eq_getElem?_getD, List.getElem?_eq_getElem h]
theorem ix_I0 {l : List UInt8} (h : 0 < l.length) : ix (I l) 0 = some (byt l 0 : Int) := ix_I (i := 0) h

/-- A character out of the bytes ahead, and how many these are. -/
def decL (l : List UInt8) : Nat × Nat :=
  let cont (k : Nat) : Bool := decide (k < l.length) && byt l k / 64 == 2
  if byt l 0 < 0x80 then (byt l 0, 1)
  else if byt l 0 / 32 == 6 && cont 1 then
    let c := (byt l 0 % 32) * 64 + byt l 1 % 64
    if c ≥ 0x80 then (c, 2) else (65533, 1)
  else if byt l 0 / 16 == 14 && cont 1 && cont 2 then
    let c := (byt l 0 % 16) * 4096 + (byt l 1 % 64) * 64 + byt l 2 % 64
    if c ≥ 0x800 && Utf8.valid c then (c, 3) else (65533, 1)
  else if byt l 0 / 8 == 30 && cont 1 && cont 2 && cont 3 then
    let c := (byt l 0 % 8) * 262144 + (byt l 1 % 64) * 4096 + (byt l 2 % 64) * 64 + byt l 3 % 64
    if c ≥ 0x10000 && Utf8.valid c then (c, 4) else (65533, 1)
  else (65533, 1)
theorem get!_L (s : ByteArray) (i : Nat) : s.get! i = (L s).getD i 0 := by
  show s.data[i]! = _
  rw [getElem!_def, L, List.getD_eq_getElem?_getD, Array.getElem?_toList]
  cases s.data[i]? <;> rfl
theorem decode_L (s : ByteArray) (p : Nat) : Utf8.decode s p = decL ((L s).drop p) := by
  unfold Utf8.decode decL
  have h1 : ∀ k, (s.get! (p + k)).toNat = byt ((L s).drop p) k := fun k => by rw [byt_drop, get!_L]; rfl
  have h2 : ∀ k, (decide (p + k < s.size)) = decide (k < ((L s).drop p).length) := fun k => by
    rw [L_size, List.length_drop]
    congr 1
    apply propext
    omega
  simp only [h1, h2, Utf8.runeError]

/-- What is well written there: the character and how many bytes. -/
def okL (l : List UInt8) (c w : Nat) : Prop :=
  (w = 1 ∧ 1 ≤ l.length ∧ byt l 0 = c ∧ c < 128) ∨
  (w = 2 ∧ 2 ≤ l.length ∧ 128 ≤ c ∧ c < 2048 ∧ byt l 0 = 192 + c / 64 ∧ byt l 1 = 128 + c % 64) ∨
  (w = 3 ∧ 3 ≤ l.length ∧ 2048 ≤ c ∧ c < 65536 ∧ ¬ (55296 ≤ c ∧ c ≤ 57343) ∧ byt l 0 = 224 + c / 4096 ∧ byt l 1 = 128 + c / 64 % 64 ∧ byt l 2 = 128 + c % 64) ∨
  (w = 4 ∧ 4 ≤ l.length ∧ 65536 ≤ c ∧ c ≤ 1114111 ∧ byt l 0 = 240 + c / 262144 ∧ byt l 1 = 128 + c / 4096 % 64 ∧ byt l 2 = 128 + c / 64 % 64 ∧ byt l 3 = 128 + c % 64)

theorem okL_one {l : List UInt8} {c w c' w' : Nat} (h : okL l c w) (h' : okL l c' w') : c = c' ∧ w = w' := by
  unfold okL at h h'
  rcases h with ⟨rfl, h⟩ | ⟨rfl, h⟩ | ⟨rfl, h⟩ | ⟨rfl, h⟩ <;> rcases h' with ⟨rfl, h'⟩ | ⟨rfl, h'⟩ | ⟨rfl, h'⟩ | ⟨rfl, h'⟩ <;> omega

theorem valid_nat (c : Nat) : Utf8.valid (c : Int) = true ↔ c ≤ 1114111 ∧ ¬ (55296 ≤ c ∧ c ≤ 57343) := by
  unfold Utf8.valid
  simp only [Bool.or_eq_true, Bool.and_eq_true, decide_eq_true_eq]
  omega

/-- Either something is well written there, or one byte is taken as it is. -/
theorem decL_cases {l : List UInt8} (h0 : 0 < l.length) : okL l (decL l).1 (decL l).2 ∨ (decL l = (65533, 1) ∧ ∀ c w, ¬ okL l c w) := by
  have b0 := byt_lt l 0; have b1 := byt_lt l 1; have b2 := byt_lt l 2; have b3 := byt_lt l 3
  unfold decL
  simp only [Bool.and_eq_true, beq_iff_eq, decide_eq_true_eq, ge_iff_le, valid_nat]
  split
  · left; unfold okL; simp; omega
  · split
    · split
      · left; unfold okL; simp; omega
      · right; refine ⟨rfl, fun c w h => ?_⟩; unfold okL at h; omega
    · split
      · split
        · left; unfold okL; simp; omega
        · right; refine ⟨rfl, fun c w h => ?_⟩; unfold okL at h; omega
      · split
        · split
          · left; unfold okL; simp; omega
          · right; refine ⟨rfl, fun c w h => ?_⟩; unfold okL at h; omega
        · right; refine ⟨rfl, fun c w h => ?_⟩; unfold okL at h; omega
theorem decL_of {l : List UInt8} {c w : Nat} (h : okL l c w) : decL l = (c, w) := by
  have h0 : 0 < l.length := by unfold okL at h; omega
  rcases decL_cases h0 with h' | ⟨_, h'⟩
  · obtain ⟨h1, h2⟩ := okL_one h h'
    exact Prod.ext h1.symm h2.symm
  · exact absurd h (h' c w)
theorem okL_w {l : List UInt8} {c w : Nat} (h : okL l c w) : 1 ≤ w ∧ w ≤ 4 ∧ w ≤ l.length := by unfold okL at h; omega
theorem decL_w {l : List UInt8} (h0 : 0 < l.length) : 1 ≤ (decL l).2 ∧ (decL l).2 ≤ 4 ∧ (decL l).2 ≤ l.length := by
  rcases decL_cases h0 with h | ⟨h, _⟩
  · exact okL_w h
  · rw [h]; simp; omega
theorem decL_c {l : List UInt8} (h0 : 0 < l.length) : (decL l).1 ≤ 1114111 ∧ ¬ (55296 ≤ (decL l).1 ∧ (decL l).1 ≤ 57343) := by
  rcases decL_cases h0 with h | ⟨h, _⟩
  · unfold okL at h; omega
  · rw [h]; simp
/-- Is something well written there? -/
def isL (l : List UInt8) : Bool := !(decide (decL l = (65533, 1)))
theorem isL_iff {l : List UInt8} (h0 : 0 < l.length) : isL l = true ↔ okL l (decL l).1 (decL l).2 := by
  unfold isL
  rcases decL_cases h0 with h | ⟨h, h'⟩
  · simp only [h, iff_true, Bool.not_eq_true', decide_eq_false_iff_not]
    intro he
    rw [he] at h
    unfold okL at h
    simp at h
  · simp only [h, decide_true, Bool.not_true, Bool.false_eq_true, false_iff]
    exact h' _ _
end Go.Q
