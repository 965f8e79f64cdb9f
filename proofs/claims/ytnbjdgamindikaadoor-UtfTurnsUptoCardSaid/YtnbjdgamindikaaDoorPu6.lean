/- Characters written. -/
import Derived.Test.YtnbjdgamindikaaDoorPu5
namespace Go.Proofs.YtnbjdgamindikaaDoor.W
open Go Go.Q Go.Proofs
set_option linter.unusedVariables false
set_option linter.unusedSimpArgs false

theorem or8 {a y : Nat} (ha : a < 256) (hy : y < 256) : bits .or .u8 (a : Int) (y : Int) = ((a ||| y : Nat) : Int) := by
  have := u8_or (BitVec.ofNat 8 a) (BitVec.ofNat 8 y)
  simpa [Nat.mod_eq_of_lt ha, Nat.mod_eq_of_lt hy] using this
theorem and8 {a : Nat} (ha : a < 256) : bits .and .u8 (a : Int) 63 = ((a % 64 : Nat) : Int) := by
  have := u8_and (BitVec.ofNat 8 a) 63#8
  have e : a &&& 63 = a % 64 := Nat.and_two_pow_sub_one_eq_mod a 6
  simpa [Nat.mod_eq_of_lt ha, e] using this
theorem shr32 {c : Nat} (n : Nat) (hc : c < 4294967296) : shrI .i32 (c : Int) (n : Int) = ((c >>> n : Nat) : Int) := by
  have h : shrI .i32 ((BitVec.ofNat 32 c).toNat : Int) (n : Int) = (((BitVec.ofNat 32 c) >>> ((n : Int).toNat)).toNat : Int) := bv_shr (k := .i32) (BitVec.ofNat 32 c) n
  have h2 : (BitVec.ofNat 32 c).toNat = c := by rw [BitVec.toNat_ofNat, Nat.mod_eq_of_lt hc]
  rw [BitVec.toNat_ushiftRight, h2] at h
  exact h
theorem w8 (v : Nat) : IntKind.wrap .u8 (v : Int) = ((v % 256 : Nat) : Int) := by
  unfold IntKind.wrap; simp [IntKind.signed, IntKind.bits]
theorem or192 {y : Nat} (h : y < 64) : 192 ||| y = 192 + y := (Nat.shiftLeft_add_eq_or_of_lt (a := 3) (i := 6) (b := y) h).symm
theorem or224 {y : Nat} (h : y < 32) : 224 ||| y = 224 + y := (Nat.shiftLeft_add_eq_or_of_lt (a := 7) (i := 5) (b := y) h).symm
theorem or240 {y : Nat} (h : y < 16) : 240 ||| y = 240 + y := (Nat.shiftLeft_add_eq_or_of_lt (a := 15) (i := 4) (b := y) h).symm
theorem or128 {y : Nat} (h : y < 128) : 128 ||| y = 128 + y := (Nat.shiftLeft_add_eq_or_of_lt (a := 1) (i := 7) (b := y) h).symm
theorem sr6 (c : Nat) : c >>> 6 = c / 64 := Nat.shiftRight_eq_div_pow c 6
theorem sr12 (c : Nat) : c >>> 12 = c / 4096 := Nat.shiftRight_eq_div_pow c 12
theorem sr18 (c : Nat) : c >>> 18 = c / 262144 := Nat.shiftRight_eq_div_pow c 18
theorem or8' {a y : Nat} (ha : a < 256) (hy : y < 256) (h : a ||| y = a + y) : bits .or .u8 (a : Int) (y : Int) = ((a + y : Nat) : Int) := by rw [or8 ha hy, h]

set_option maxRecDepth 100000 in
theorem appendRune {k c : Nat} {o : List Int} (hc : chr c) (ho : o.length ≤ 100000000) : g_unicode_utf8_AppendRune__b k (c : Int) o = some (o ++ I (wrL c)) := by
  unfold chr at hc
  unfold g_unicode_utf8_AppendRune__b
  rw [wu32 (by omega) (by omega)]
  by_cases c1 : c < 128
  · have e : wrL c = [UInt8.ofNat c] := by unfold wrL; rw [if_pos c1]
    rw [Option.bind_some, dt (show (c : Int) ≤ 127 by omega), bt, dt (by simp; omega), bt, e, w8, Nat.mod_eq_of_lt (by omega)]
    simp only [I, List.map_cons, List.map_nil]
    rw [ofI (by omega)]
  · rw [Option.bind_some, df (show ¬ (c : Int) ≤ 127 by omega), bf]
    unfold g_unicode_utf8_appendRuneNonASCII__b
    rw [wu32 (by omega) (by omega)]
    rw [show shrI .i32 (c : Int) 6 = ((c / 64 : Nat) : Int) by rw [← sr6]; exact shr32 6 (by omega), show shrI .i32 (c : Int) 12 = ((c / 4096 : Nat) : Int) by rw [← sr12]; exact shr32 12 (by omega), show shrI .i32 (c : Int) 18 = ((c / 262144 : Nat) : Int) by rw [← sr18]; exact shr32 18 (by omega)]
    simp only [w8]
    rw [and8 (a := c % 256) (by omega), and8 (a := c / 64 % 256) (by omega), and8 (a := c / 4096 % 256) (by omega)]
    simp only [Option.bind_some]
    rw [show (c % 256 % 64) = c % 64 by omega, show (c / 64 % 256 % 64) = c / 64 % 64 by omega, show (c / 4096 % 256 % 64) = c / 4096 % 64 by omega]
    by_cases c2 : c < 2048
    · have e : wrL c = [UInt8.ofNat (192 + c / 64), UInt8.ofNat (128 + c % 64)] := by unfold wrL; rw [if_neg c1, if_pos c2]
      rw [dt (show (c : Int) ≤ 2047 by omega), bt, dt (by simp; omega), bt, e, Nat.mod_eq_of_lt (show c / 64 < 256 by omega)]
      rw [show bits .or .u8 192 ((c / 64 : Nat) : Int) = _ from or8' (a := 192) (by omega) (by omega) (or192 (by omega)), show bits .or .u8 128 ((c % 64 : Nat) : Int) = _ from or8' (a := 128) (by omega) (by omega) (or128 (by omega))]
      simp only [I, List.map_cons, List.map_nil, Option.bind_some]
      rw [ofI (by omega), ofI (by omega)]
    · rw [df (show ¬ (c : Int) ≤ 2047 by omega), bf]
      by_cases c3 : c < 65536
      · have e : wrL c = [UInt8.ofNat (224 + c / 4096), UInt8.ofNat (128 + c / 64 % 64), UInt8.ofNat (128 + c % 64)] := by unfold wrL; rw [if_neg c1, if_neg c2, if_pos c3]
        have hcond : ((bif (decide ((c : Int) < 55296)) then some (decide ((c : Int) < 55296)) else (bif (decide (57343 < (c : Int))) then some (decide ((c : Int) ≤ 65535)) else some false)) : Option Bool) = some true := by
          rw [cS, cS]
          refine congrArg some ?_
          by_cases h : (c : Int) < 55296
          · rw [dt h]; rfl
          · rw [df h, dt (show 57343 < (c : Int) by omega), dt (show (c : Int) ≤ 65535 by omega)]; rfl
        rw [hcond, Option.bind_some, bt, dt (by simp; omega), bt, e, Nat.mod_eq_of_lt (show c / 4096 < 256 by omega)]
        rw [show bits .or .u8 224 ((c / 4096 : Nat) : Int) = _ from or8' (a := 224) (by omega) (by omega) (or224 (by omega)), show bits .or .u8 128 ((c / 64 % 64 : Nat) : Int) = _ from or8' (a := 128) (by omega) (by omega) (or128 (by omega)), show bits .or .u8 128 ((c % 64 : Nat) : Int) = _ from or8' (a := 128) (by omega) (by omega) (or128 (by omega))]
        simp only [I, List.map_cons, List.map_nil, Option.bind_some]
        rw [ofI (by omega), ofI (by omega), ofI (by omega)]
      · have e : wrL c = [UInt8.ofNat (240 + c / 262144), UInt8.ofNat (128 + c / 4096 % 64), UInt8.ofNat (128 + c / 64 % 64), UInt8.ofNat (128 + c % 64)] := by unfold wrL; rw [if_neg c1, if_neg c2, if_neg c3]
        have hcond : ((bif (decide ((c : Int) < 55296)) then some (decide ((c : Int) < 55296)) else (bif (decide (57343 < (c : Int))) then some (decide ((c : Int) ≤ 65535)) else some false)) : Option Bool) = some false := by
          rw [cS, cS]
          refine congrArg some ?_
          rw [df (show ¬ (c : Int) < 55296 by omega), df (show ¬ (c : Int) ≤ 65535 by omega)]
          cases decide (57343 < (c : Int)) <;> rfl
        have hcond2 : ((bif (decide (65535 < (c : Int))) then some (decide ((c : Int) ≤ 1114111)) else some false) : Option Bool) = some true := by
          rw [dt (show 65535 < (c : Int) by omega), dt (show (c : Int) ≤ 1114111 by omega)]; rfl
        rw [hcond, Option.bind_some, bf, hcond2, Option.bind_some, bt, dt (by simp; omega), bt, e, Nat.mod_eq_of_lt (show c / 262144 < 256 by omega)]
        rw [show bits .or .u8 240 ((c / 262144 : Nat) : Int) = _ from or8' (a := 240) (by omega) (by omega) (or240 (by omega)), show bits .or .u8 128 ((c / 4096 % 64 : Nat) : Int) = _ from or8' (a := 128) (by omega) (by omega) (or128 (by omega)), show bits .or .u8 128 ((c / 64 % 64 : Nat) : Int) = _ from or8' (a := 128) (by omega) (by omega) (or128 (by omega)), show bits .or .u8 128 ((c % 64 : Nat) : Int) = _ from or8' (a := 128) (by omega) (by omega) (or128 (by omega))]
        simp only [I, List.map_cons, List.map_nil, Option.bind_some]
        rw [ofI (by omega), ofI (by omega), ofI (by omega), ofI (by omega)]
theorem writeRune {k c : Nat} {b : Bool} {o : List Int} (hc : chr c) (ho : o.length ≤ 100000000) : ∃ z, g_strings_Builder_WriteRune__b k (c : Int) b o = some (z, true, o ++ I (wrL c)) := by
  unfold g_strings_Builder_WriteRune__b g_strings_Builder_copyCheck__b
  rw [appendRune hc ho]
  cases b <;> exact ⟨_, rfl⟩
theorem wrL_len (c : Nat) : 1 ≤ (wrL c).length ∧ (wrL c).length ≤ 4 := by
  unfold wrL
  split
  · simp
  · split
    · simp
    · split <;> simp
end Go.Proofs.YtnbjdgamindikaaDoor.W
