/- Texts joined: part 3 of what LValRight stands on. -/
import Derived.Test.YthpcgknknpjpdaaGreatDoorSValRightb
import Derived.Test.YthpcgknknpjpdaaGreatDoorProg
namespace Go.Proofs.YthpcgknknpjpdaaGreatDoor.W
open Go Go.Q Go.Proofs
set_option linter.unusedVariables false
set_option linter.unusedSimpArgs false
structure S_api_Dec where
  fC : Int
  fE : Int
  deriving Inhabited, DecidableEq
def rdS_api_Dec : Rd S_api_Dec := Rd.via (Rd.pair (Rd.int .i64) (Rd.pair (Rd.int .i64) Rd.unit)) fun x => (x.fC, (x.fE, ()))
theorem S_api_Dec.sp {b : Bool} {d : S_api_Dec} : Splits rdS_api_Dec b d [.lit (.int .i64 d.fC), .lit (.int .i64 d.fE)] := Splits.via (Splits.pair Splits.sc (Splits.pair Splits.sc Splits.unit))
structure S_unicode_utf8_acceptRange where
  flo : Int
  fhi : Int
  deriving Inhabited, DecidableEq
def rdS_unicode_utf8_acceptRange : Rd S_unicode_utf8_acceptRange := Rd.via (Rd.pair (Rd.int .u8) (Rd.pair (Rd.int .u8) Rd.unit)) fun x => (x.flo, (x.fhi, ()))
theorem S_unicode_utf8_acceptRange.sp {b : Bool} {d : S_unicode_utf8_acceptRange} : Splits rdS_unicode_utf8_acceptRange b d [.lit (.int .u8 d.flo), .lit (.int .u8 d.fhi)] := Splits.via (Splits.pair Splits.sc (Splits.pair Splits.sc Splits.unit))
structure S_api_Value where
  fKind : Int
  fN : S_api_Dec
  fS : ByteArray
  fB : Bool
  fE : Int
  deriving Inhabited, DecidableEq
def rdS_api_Value : Rd S_api_Value := Rd.via (Rd.pair (Rd.int .i64) (Rd.pair rdS_api_Dec (Rd.pair Rd.str (Rd.pair Rd.bool (Rd.pair (Rd.int .i64) Rd.unit))))) fun x => (x.fKind, (x.fN, (x.fS, (x.fB, (x.fE, ())))))
theorem S_api_Value.sp {b : Bool} {d : S_api_Value} : Splits rdS_api_Value b d [.lit (.int .i64 d.fKind), .lit (.int .i64 d.fN.fC), .lit (.int .i64 d.fN.fE), .lit (.string d.fS), .lit (.bool d.fB), .lit (.int .i64 d.fE)] := Splits.via (Splits.pair Splits.sc (Splits.pair S_api_Dec.sp (Splits.pair Splits.sc (Splits.pair Splits.sc (Splits.pair Splits.sc Splits.unit)))))
def tabA : List S_unicode_utf8_acceptRange := tab1.map fun p => ⟨p.1, p.2⟩
def g_val_names (k : Nat) : Option Unit := some ()
def g_sc_Index_string_string_l0 (k : Nat) (x1 : (List ByteArray)) (x2 : ByteArray) : Nat → Int → Option (Int ⊕ Unit)
  | 0, _ => none
  | n + 1, x3 => ((some (decide (x3 < ((List.length x1 : Nat) : Int)))).bind fun x4 => (bif x4 then ((ix x1 x3).bind fun x5 => (bif (x2.toList == x5.toList) then some (Sum.inl x3) else (g_sc_Index_string_string_l0 k x1 x2 n (IntKind.wrap .i64 (x3 + 1))))) else some (Sum.inr ())))
theorem g_sc_Index_string_string_l0_eqs : True := by have := @g_sc_Index_string_string_l0.eq_2; trivial
def g_sc_Index_string_string (k : Nat) (x1 : (List ByteArray)) (x2 : ByteArray) : Option Int := (((g_sc_Index_string_string_l0 k x1 x2 k 0) : Option (Int ⊕ Unit)).bind fun y1 => match y1 with | (Sum.inl x3) => some x3 | (Sum.inr _) => some (-1))
def g_val_ErrCode (k : Nat) (x1 : ByteArray) : Option (Int × Bool) := ((g_val_names k).bind fun _ => ((g_sc_Index_string_string k ([(ByteArray.mk #[]), (ByteArray.mk #[35, 68, 73, 86, 47, 48, 33]), (ByteArray.mk #[35, 86, 65, 76, 85, 69, 33]), (ByteArray.mk #[35, 82, 69, 70, 33]), (ByteArray.mk #[35, 78, 65, 77, 69, 63]), (ByteArray.mk #[35, 78, 85, 77, 33]), (ByteArray.mk #[35, 78, 47, 65]), (ByteArray.mk #[35, 67, 89, 67, 76, 69, 33])] : List ByteArray) x1).bind fun x2 => ((some (if (0 : Int) > x2 then (0 : Int) else x2)).bind fun x3 => some (x3, (decide (0 < x2))))))
def g_val_ErrName (k : Nat) (x1 : Int) : Option ByteArray := (((bif (decide (x1 < 0)) then some true else ((g_val_names k).bind fun _ => ((some ((List.length ([(ByteArray.mk #[]), (ByteArray.mk #[35, 68, 73, 86, 47, 48, 33]), (ByteArray.mk #[35, 86, 65, 76, 85, 69, 33]), (ByteArray.mk #[35, 82, 69, 70, 33]), (ByteArray.mk #[35, 78, 65, 77, 69, 63]), (ByteArray.mk #[35, 78, 85, 77, 33]), (ByteArray.mk #[35, 78, 47, 65]), (ByteArray.mk #[35, 67, 89, 67, 76, 69, 33])] : List ByteArray) : Nat) : Int)).bind fun x2 => some (decide (x2 ≤ x1))))) : Option Bool).bind fun x3 => (bif x3 then some (ByteArray.mk #[]) else ((g_val_names k).bind fun _ => ((ix ([(ByteArray.mk #[]), (ByteArray.mk #[35, 68, 73, 86, 47, 48, 33]), (ByteArray.mk #[35, 86, 65, 76, 85, 69, 33]), (ByteArray.mk #[35, 82, 69, 70, 33]), (ByteArray.mk #[35, 78, 65, 77, 69, 63]), (ByteArray.mk #[35, 78, 85, 77, 33]), (ByteArray.mk #[35, 78, 47, 65]), (ByteArray.mk #[35, 67, 89, 67, 76, 69, 33])] : List ByteArray) x1).bind fun x4 => some x4))))
def g_val_Err (k : Nat) (x1 : Int) : Option Int := ((((g_val_ErrName k x1).bind fun x2 => ((some (x2.toList == (ByteArray.mk #[]).toList)).bind fun x3 => (bif x3 then some 2 else some x1))) : Option Int).bind fun x4 => some x4)
def g_dec_size (k : Nat) (x1 : Int) : Option Int := (bif (decide (x1 < 0)) then ((some (IntKind.wrap .u64 (0 - (IntKind.wrap .u64 x1)))).bind fun x2 => some x2) else some (IntKind.wrap .u64 x1))
def g_dec_of (k : Nat) (x1 : Int) (x2 : Int) : Option Int := ((g_dec_size k x1).bind fun x3 => some x3)
def g_dec_wide_zero (k : Nat) (x1 : Int) (x2 : Int) : Option Unit := some ()
def g_mb_Len64 (k : Nat) (x1 : Int) : Option Int := (((bif (decide (4294967296 ≤ x1)) then some ((shrI .u64 x1 32), 32) else some (x1, 0)) : Option (Int × Int)).bind fun (x2, x3) => (((bif (decide (65536 ≤ x2)) then some ((shrI .u64 x2 16), (IntKind.wrap .i64 (x3 + 16))) else some (x2, x3)) : Option (Int × Int)).bind fun (x4, x5) => (((bif (decide (256 ≤ x4)) then some ((shrI .u64 x4 8), (IntKind.wrap .i64 (x5 + 8))) else some (x4, x5)) : Option (Int × Int)).bind fun (x6, x7) => ((ix (strInts (ByteArray.mk #[0, 1, 2, 2, 3, 3, 3, 3, 4, 4, 4, 4, 4, 4, 4, 4, 5, 5, 5, 5, 5, 5, 5, 5, 5, 5, 5, 5, 5, 5, 5, 5, 6, 6, 6, 6, 6, 6, 6, 6, 6, 6, 6, 6, 6, 6, 6, 6, 6, 6, 6, 6, 6, 6, 6, 6, 6, 6, 6, 6, 6, 6, 6, 6, 7, 7, 7, 7, 7, 7, 7, 7, 7, 7, 7, 7, 7, 7, 7, 7, 7, 7, 7, 7, 7, 7, 7, 7, 7, 7, 7, 7, 7, 7, 7, 7, 7, 7, 7, 7, 7, 7, 7, 7, 7, 7, 7, 7, 7, 7, 7, 7, 7, 7, 7, 7, 7, 7, 7, 7, 7, 7, 7, 7, 7, 7, 7, 7, 8, 8, 8, 8, 8, 8, 8, 8, 8, 8, 8, 8, 8, 8, 8, 8, 8, 8, 8, 8, 8, 8, 8, 8, 8, 8, 8, 8, 8, 8, 8, 8, 8, 8, 8, 8, 8, 8, 8, 8, 8, 8, 8, 8, 8, 8, 8, 8, 8, 8, 8, 8, 8, 8, 8, 8, 8, 8, 8, 8, 8, 8, 8, 8, 8, 8, 8, 8, 8, 8, 8, 8, 8, 8, 8, 8, 8, 8, 8, 8, 8, 8, 8, 8, 8, 8, 8, 8, 8, 8, 8, 8, 8, 8, 8, 8, 8, 8, 8, 8, 8, 8, 8, 8, 8, 8, 8, 8, 8, 8, 8, 8, 8, 8, 8, 8, 8, 8, 8, 8, 8, 8, 8, 8, 8, 8, 8, 8])) (IntKind.wrap .u8 x6)).bind fun x8 => ((some (IntKind.wrap .i64 (x7 + (IntKind.wrap .i64 x8)))).bind fun x9 => some x9)))))
def g_mb_LeadingZeros64 (k : Nat) (x1 : Int) : Option Int := ((g_mb_Len64 k x1).bind fun x2 => some (IntKind.wrap .i64 (64 - x2)))
def g_mb_Div64_l0 (k : Nat) (x1 : Int) (x2 : Int) : Nat → Int → Int → Option Int
  | 0, _, _ => none
  | n + 1, x3, x4 => (((bif (decide (4294967296 ≤ x3)) then some true else ((some (IntKind.wrap .u64 (x3 * (bits .and .u64 x1 4294967295)))).bind fun x5 => ((some (IntKind.wrap .u64 (4294967296 * x4))).bind fun x6 => ((some (IntKind.wrap .u64 (x6 + (shrI .u64 x2 32)))).bind fun x7 => some (decide (x7 < x5)))))) : Option Bool).bind fun x8 => (bif x8 then ((some (IntKind.wrap .u64 (x4 + (shrI .u64 x1 32)))).bind fun x9 => (bif (decide (4294967296 ≤ x9)) then some (IntKind.wrap .u64 (x3 - 1)) else (g_mb_Div64_l0 k x1 x2 n (IntKind.wrap .u64 (x3 - 1)) x9))) else some x3))
theorem g_mb_Div64_l0_eqs : True := by have := @g_mb_Div64_l0.eq_2; trivial
def g_mb_Div64_l1 (k : Nat) (x1 : Int) (x2 : Int) : Nat → Int → Int → Option Int
  | 0, _, _ => none
  | n + 1, x3, x4 => (((bif (decide (4294967296 ≤ x4)) then some true else ((some (IntKind.wrap .u64 (x4 * (bits .and .u64 x1 4294967295)))).bind fun x5 => ((some (IntKind.wrap .u64 (4294967296 * x3))).bind fun x6 => ((some (IntKind.wrap .u64 (x6 + (bits .and .u64 x2 4294967295)))).bind fun x7 => some (decide (x7 < x5)))))) : Option Bool).bind fun x8 => (bif x8 then ((some (IntKind.wrap .u64 (x3 + (shrI .u64 x1 32)))).bind fun x9 => (bif (decide (4294967296 ≤ x9)) then some (IntKind.wrap .u64 (x4 - 1)) else (g_mb_Div64_l1 k x1 x2 n x9 (IntKind.wrap .u64 (x4 - 1))))) else some x4))
theorem g_mb_Div64_l1_eqs : True := by have := @g_mb_Div64_l1.eq_2; trivial
def g_mb_Div64 (k : Nat) (x1 : Int) (x2 : Int) (x3 : Int) : Option (Int × Int) := (bif (decide (x3 = 0)) then none else (bif (decide (x3 ≤ x1)) then none else (bif (decide (x1 = 0)) then (bif (!(x3 == 0)) then (bif (!(x3 == 0)) then some ((IntKind.wrap .u64 (Int.tdiv x2 x3)), (Int.tmod x2 x3)) else none) else none) else ((g_mb_LeadingZeros64 k x3).bind fun x4 => (bif (decide (0 ≤ (IntKind.wrap .u64 x4))) then ((some (shlI .u64 x3 (IntKind.wrap .u64 x4))).bind fun x5 => (bif (decide (0 ≤ (IntKind.wrap .u64 x4))) then ((some (shlI .u64 x1 (IntKind.wrap .u64 x4))).bind fun x6 => ((some (IntKind.wrap .u64 (64 - (IntKind.wrap .u64 x4)))).bind fun x7 => (bif (decide (0 ≤ x7)) then (bif (decide (0 ≤ (IntKind.wrap .u64 x4))) then ((some (shlI .u64 x2 (IntKind.wrap .u64 x4))).bind fun x8 => (bif (!((shrI .u64 x5 32) == 0)) then ((some (IntKind.wrap .u64 (Int.tdiv (bits .or .u64 x6 (shrI .u64 x2 x7)) (shrI .u64 x5 32)))).bind fun x9 => ((some (IntKind.wrap .u64 (x9 * (shrI .u64 x5 32)))).bind fun x10 => ((some (IntKind.wrap .u64 ((bits .or .u64 x6 (shrI .u64 x2 x7)) - x10))).bind fun x11 => ((g_mb_Div64_l0 k x5 x8 k x9 x11).bind fun x12 => ((some (IntKind.wrap .u64 ((bits .or .u64 x6 (shrI .u64 x2 x7)) * 4294967296))).bind fun x13 => ((some (IntKind.wrap .u64 (x13 + (shrI .u64 x8 32)))).bind fun x14 => ((some (IntKind.wrap .u64 (x14 - (IntKind.wrap .u64 (x12 * x5))))).bind fun x15 => (bif (!((shrI .u64 x5 32) == 0)) then ((some (IntKind.wrap .u64 (Int.tdiv x15 (shrI .u64 x5 32)))).bind fun x16 => ((some (IntKind.wrap .u64 (x16 * (shrI .u64 x5 32)))).bind fun x17 => ((g_mb_Div64_l1 k x5 x8 k (IntKind.wrap .u64 (x15 - x17)) x16).bind fun x18 => ((some (IntKind.wrap .u64 (x12 * 4294967296))).bind fun x19 => ((some (IntKind.wrap .u64 (x15 * 4294967296))).bind fun x20 => ((some (IntKind.wrap .u64 (x20 + (bits .and .u64 x8 4294967295)))).bind fun x21 => ((some (IntKind.wrap .u64 (x21 - (IntKind.wrap .u64 (x18 * x5))))).bind fun x22 => (bif (decide (0 ≤ (IntKind.wrap .u64 x4))) then ((some (shrI .u64 x22 (IntKind.wrap .u64 x4))).bind fun x23 => some ((IntKind.wrap .u64 (x19 + x18)), x23)) else none)))))))) else none)))))))) else none)) else none) else none))) else none)) else none)))))
def g_dec_wide_by (k : Nat) (x1 : Int) (x2 : Int) (x3 : Int) : Option (Int × Int × Int) := ((g_mb_Div64 k 0 x1 x3).bind fun (x4, x5) => ((g_mb_Div64 k x5 x2 x3).bind fun (x6, x7) => some (x7, x4, x6)))
def g_mb_Mul64 (k : Nat) (x1 : Int) (x2 : Int) : Option Int := ((some (IntKind.wrap .u64 ((bits .and .u64 x1 4294967295) * (bits .and .u64 x2 4294967295)))).bind fun x3 => ((some (IntKind.wrap .u64 ((shrI .u64 x1 32) * (bits .and .u64 x2 4294967295)))).bind fun x4 => ((some (IntKind.wrap .u64 (x4 + (shrI .u64 x3 32)))).bind fun x5 => ((some (IntKind.wrap .u64 ((bits .and .u64 x1 4294967295) * (shrI .u64 x2 32)))).bind fun x6 => ((some (IntKind.wrap .u64 ((bits .and .u64 x5 4294967295) + x6))).bind fun x7 => ((some (IntKind.wrap .u64 ((shrI .u64 x1 32) * (shrI .u64 x2 32)))).bind fun x8 => ((some (IntKind.wrap .u64 (x8 + (shrI .u64 x5 32)))).bind fun x9 => ((some (IntKind.wrap .u64 (x9 + (shrI .u64 x7 32)))).bind fun x10 => some x10))))))))
def g_dec_wide_times (k : Nat) (x1 : Int) (x2 : Int) (x3 : Int) : Option (Bool × Int) := ((g_mb_Mul64 k x2 x3).bind fun x4 => ((g_mb_Mul64 k x1 x3).bind fun x5 => ((some (IntKind.wrap .u64 (x5 + (add64 x4 (IntKind.wrap .u64 (x1 * x3)) 0).2))).bind fun x6 => some ((decide (x6 = 0)), (add64 x4 (IntKind.wrap .u64 (x1 * x3)) 0).1))))
def g_dec_wide_tens_l0 (k : Nat) (x1 : Int) : Nat → Bool → Int → Int → Int → Option (Bool × Int × Int)
  | 0, _, _, _, _ => none
  | n + 1, x2, x3, x4, x5 => (((bif (decide (x3 < x1)) then (bif x2 then ((g_dec_wide_zero k x4 x5).bind fun _ => ((some (!(decide ((bits .or .u64 x4 x5) = 0)))).bind fun x6 => some x6)) else some false) else some false) : Option Bool).bind fun x7 => (bif x7 then ((g_dec_wide_times k x4 x5 10).bind fun (x8, x9) => (g_dec_wide_tens_l0 k x1 n x8 (IntKind.wrap .i64 (x3 + 1)) x9 (IntKind.wrap .u64 (x5 * 10)))) else some (x2, x4, x5)))
theorem g_dec_wide_tens_l0_eqs : True := by have := @g_dec_wide_tens_l0.eq_2; trivial
def g_dec_wide_tens (k : Nat) (x1 : Int) (x2 : Int) (x3 : Int) : Option (Bool × Int × Int) := ((g_dec_wide_tens_l0 k x3 k true 0 x1 x2).bind fun (x4, x5, x6) => some (x4, x5, x6))
def g_dec_num_tell_l0 (k : Nat) : Nat → Int → Int → Int → Int → Int → Int → Option (Int × Int × Int)
  | 0, _, _, _, _, _, _ => none
  | n + 1, x1, x2, x3, x4, x5, x6 => (bif (decide (x1 = 0)) then ((g_dec_wide_by k x5 x6 10).bind fun (x7, x8, x9) => (g_dec_num_tell_l0 k n x7 x5 x6 (IntKind.wrap .i64 (x4 + 1)) x8 x9)) else some (x2, x3, x4))
theorem g_dec_num_tell_l0_eqs : True := by have := @g_dec_num_tell_l0.eq_2; trivial
def g_dec_num_tell (k : Nat) (x1 : Bool) (x2 : Int) (x3 : Int) (x4 : Int) : Option (Int × Int × Int) := ((g_dec_wide_zero k x2 x3).bind fun _ => (bif (decide ((bits .or .u64 x2 x3) = 0)) then some (0, 0, 0) else ((g_dec_wide_by k x2 x3 10).bind fun (x5, x6, x7) => ((g_dec_num_tell_l0 k k x5 x2 x3 x4 x6 x7).bind fun (x8, x9, x10) => (((bif (decide (18 < x10)) then ((some (if (40 : Int) < (IntKind.wrap .i64 (x10 - 18)) then (40 : Int) else (IntKind.wrap .i64 (x10 - 18)))).bind fun x11 => ((g_dec_wide_tens k x8 x9 x11).bind fun (x12, x13, x14) => (((bif (decide (58 < x10)) then some false else some x12) : Option Bool).bind fun x15 => some (x15, x13, x14, 18)))) else some (true, x8, x9, x10)) : Option (Bool × Int × Int × Int)).bind fun (x16, x17, x18, x19) => (((bif x1 then ((some (IntKind.wrap .u64 (9223372036854775807 + 1))).bind fun x20 => some x20) else some 9223372036854775807) : Option Int).bind fun x21 => (((bif (!x16) then some true else (bif (decide (x19 < (-18))) then some true else (bif (decide (0 < x17)) then some true else some (decide (x21 < x18))))) : Option Bool).bind fun x22 => (bif x22 then some (30, 0, 0) else (((bif x1 then ((some (IntKind.wrap .i64 (0 - (IntKind.wrap .i64 x18)))).bind fun x23 => some x23) else some (IntKind.wrap .i64 x18)) : Option Int).bind fun x24 => some (0, x24, x19))))))))))
def g_dec_ranged_l0 (k : Nat) (x1 : (List S_api_Dec)) : Nat → Int → Option (Unit ⊕ Unit)
  | 0, _ => none
  | n + 1, x2 => ((some (decide (x2 < ((List.length x1 : Nat) : Int)))).bind fun x3 => (bif x3 then ((ix x1 x2).bind fun x4 => (((bif (decide (x4.fE < (-18))) then some true else some (decide (18 < x4.fE))) : Option Bool).bind fun x5 => (bif x5 then some (Sum.inl ()) else (g_dec_ranged_l0 k x1 n (IntKind.wrap .i64 (x2 + 1)))))) else some (Sum.inr ())))
theorem g_dec_ranged_l0_eqs : True := by have := @g_dec_ranged_l0.eq_2; trivial
def g_dec_ranged (k : Nat) (x1 : (List S_api_Dec)) : Option Bool := (((g_dec_ranged_l0 k x1 k 0) : Option (Unit ⊕ Unit)).bind fun y1 => match y1 with | (Sum.inl _) => some false | (Sum.inr _) => some true)
def g_dec_Right (k : Nat) (x1 : Int) (x2 : Int) : Option Bool := ((g_dec_of k x1 x2).bind fun x3 => ((g_dec_num_tell k (decide (x1 < 0)) 0 x3 x2).bind fun (x4, x5, x6) => ((((g_dec_ranged k ([(⟨x1, x2⟩ : S_api_Dec)] : List S_api_Dec)).bind fun x7 => (bif x7 then (bif (decide (x4 = 0)) then ((some ((decide (x5 = x1)) && ((decide (x6 = x2)) && true))).bind fun x8 => some x8) else some false) else some false)) : Option Bool).bind fun x9 => some x9)))
def g_val_Of (k : Nat) (x1 : Int) (x2 : Int) (x3 : Int) : Option (Int × Int × Int × Int) := (bif (decide (x3 = 31)) then ((g_val_Err k 1).bind fun x4 => some (4, 0, 0, x4)) else (((bif (!decide (x3 = 0)) then some true else ((g_dec_Right k x1 x2).bind fun x5 => some (!x5))) : Option Bool).bind fun x6 => (bif x6 then ((g_val_Err k 5).bind fun x7 => some (4, 0, 0, x7)) else some (1, x1, x2, 0))))
def g_r9_Of_l0 (k : Nat) : Nat → Int → (List Int) → Option (List Int)
  | 0, _, _ => none
  | n + 1, x1, x2 => (bif (!decide (x1 = 0)) then (((bif (decide ((Int.tmod x1 10) < 0)) then ((some (IntKind.wrap .i64 (0 - (Int.tmod x1 10)))).bind fun x3 => some x3) else some (Int.tmod x1 10)) : Option Int).bind fun x4 => (bif (decide (((List.length x2) + (List.length ([x4] : List Int))) * 8 ≤ 140737488355328)) then (g_r9_Of_l0 k n (IntKind.wrap .i64 (Int.tdiv x1 10)) (x2 ++ ([x4] : List Int))) else none)) else some x2)
theorem g_r9_Of_l0_eqs : True := by have := @g_r9_Of_l0.eq_2; trivial
def g_r9_Of (k : Nat) (x1 : Int) : Option (List Int) := ((g_r9_Of_l0 k k x1 ([] : List Int)).bind fun x2 => some x2)
def g_r9_trim_l0 (k : Nat) (x1 : (List Int)) : Nat → Int → Option Int
  | 0, _ => none
  | n + 1, x2 => (((bif (decide (0 < x2)) then ((ix x1 (IntKind.wrap .i64 (x2 - 1))).bind fun x3 => some (decide (x3 = 0))) else some false) : Option Bool).bind fun x4 => (bif x4 then (g_r9_trim_l0 k x1 n (IntKind.wrap .i64 (x2 - 1))) else some x2))
theorem g_r9_trim_l0_eqs : True := by have := @g_r9_trim_l0.eq_2; trivial
def g_r9_trim (k : Nat) (x1 : Bool) (x2 : (List Int)) : Option (Bool × (List Int)) := ((g_r9_trim_l0 k x2 k ((List.length x2 : Nat) : Int)).bind fun x3 => (bif (decide (x3 = 0)) then some (false, ([] : List Int)) else (bif (decide (0 ≤ (0 : Int) ∧ (0 : Int) ≤ x3 ∧ x3 ≤ ((List.length x2 : Nat) : Int))) then (bif (decide (((List.length ([] : List Int)) + (List.length (List.drop (Int.toNat 0) (List.take (Int.toNat x3) x2)))) * 8 ≤ 140737488355328)) then some (x1, (([] : List Int) ++ (List.drop (Int.toNat 0) (List.take (Int.toNat x3) x2)))) else none) else none)))
def g_r9_Shift (k : Nat) (x1 : Bool) (x2 : (List Int)) (x3 : Int) : Option (Bool × (List Int)) := (bif (decide (0 ≤ (x3 : Int) ∧ (x3 : Int) ≤ x3 ∧ (8 : Int) * x3 ≤ 281474976710656 ∧ (x3 : Int) ≤ 9223372036854775807)) then (bif (decide (((List.length (List.replicate (Int.toNat x3) (0 : Int))) + (List.length x2)) * 8 ≤ 140737488355328)) then ((g_r9_trim k x1 ((List.replicate (Int.toNat x3) (0 : Int)) ++ x2)).bind fun (x4, x5) => some (x4, x5)) else none) else none)
def g_r9_at (k : Nat) (x1 : Bool) (x2 : (List Int)) (x3 : Int) : Option Int := (((bif (decide (0 ≤ x3)) then ((some (decide (x3 < ((List.length x2 : Nat) : Int)))).bind fun x4 => some x4) else some false) : Option Bool).bind fun x5 => (bif x5 then ((ix x2 x3).bind fun x6 => some x6) else some 0))
def g_r9_more_l0 (k : Nat) (x1 : Bool) (x2 : (List Int)) (x3 : Bool) (x4 : (List Int)) : Nat → Int → Option (Int ⊕ Unit)
  | 0, _ => none
  | n + 1, x5 => (bif (decide (0 ≤ x5)) then ((g_r9_at k x1 x2 x5).bind fun x6 => ((g_r9_at k x3 x4 x5).bind fun x7 => (bif (decide (x7 < x6)) then some (Sum.inl 1) else ((g_r9_at k x1 x2 x5).bind fun x8 => ((g_r9_at k x3 x4 x5).bind fun x9 => (bif (decide (x8 < x9)) then some (Sum.inl (-1)) else (g_r9_more_l0 k x1 x2 x3 x4 n (IntKind.wrap .i64 (x5 - 1))))))))) else some (Sum.inr ()))
theorem g_r9_more_l0_eqs : True := by have := @g_r9_more_l0.eq_2; trivial
def g_r9_more (k : Nat) (x1 : Bool) (x2 : (List Int)) (x3 : Bool) (x4 : (List Int)) : Option Int := ((some (IntKind.wrap .i64 (((List.length x2 : Nat) : Int) + ((List.length x4 : Nat) : Int)))).bind fun x5 => (((g_r9_more_l0 k x1 x2 x3 x4 k x5) : Option (Int ⊕ Unit)).bind fun y1 => match y1 with | (Sum.inl x6) => some x6 | (Sum.inr _) => some 0))
def g_r9_fits (k : Nat) (x1 : Bool) (x2 : (List Int)) : Option Bool := ((g_r9_Of k (-9223372036854775808)).bind fun x3 => ((g_r9_more k x1 x2 x1 x3).bind fun x4 => (((bif (decide (x4 < 0)) then some true else (bif (decide (x4 = 0)) then some x1 else some false)) : Option Bool).bind fun x5 => some x5)))
def g_r9_Tell_l0 (k : Nat) : Nat → Int → Bool → (List Int) → Option (Int × Bool × (List Int))
  | 0, _, _, _ => none
  | n + 1, x1, x2, x3 => ((((some (decide (0 < ((List.length x3 : Nat) : Int)))).bind fun x4 => (bif x4 then ((ix x3 0).bind fun x5 => some (decide (x5 = 0))) else some false)) : Option Bool).bind fun x6 => (bif x6 then (bif (decide (0 ≤ (1 : Int) ∧ (1 : Int) ≤ ((List.length x3 : Nat) : Int) ∧ ((List.length x3 : Nat) : Int) ≤ ((List.length x3 : Nat) : Int))) then ((g_r9_trim k x2 (List.drop (Int.toNat 1) (List.take (Int.toNat ((List.length x3 : Nat) : Int)) x3))).bind fun (x7, x8) => (g_r9_Tell_l0 k n (IntKind.wrap .i64 (x1 + 1)) x7 x8)) else none) else some (x1, x2, x3)))
theorem g_r9_Tell_l0_eqs : True := by have := @g_r9_Tell_l0.eq_2; trivial
def g_r9_Tell_l1 (k : Nat) : Nat → Int → Bool → (List Int) → Option (Int × Bool × (List Int))
  | 0, _, _, _ => none
  | n + 1, x1, x2, x3 => (((bif (decide (18 < x1)) then ((some (decide (((List.length x3 : Nat) : Int) < 30))).bind fun x4 => some x4) else some false) : Option Bool).bind fun x5 => (bif x5 then ((g_r9_Shift k x2 x3 1).bind fun (x6, x7) => (g_r9_Tell_l1 k n (IntKind.wrap .i64 (x1 - 1)) x6 x7)) else some (x1, x2, x3)))
theorem g_r9_Tell_l1_eqs : True := by have := @g_r9_Tell_l1.eq_2; trivial
def g_r9_Tell_l2 (k : Nat) (x1 : Bool) (x2 : (List Int)) : Nat → Int → Int → Option Int
  | 0, _, _ => none
  | n + 1, x3, x4 => (bif (decide (0 ≤ x4)) then (((bif x1 then ((ix x2 x4).bind fun x5 => ((some (IntKind.wrap .i64 ((IntKind.wrap .i64 (x3 * 10)) - x5))).bind fun x6 => some x6)) else ((ix x2 x4).bind fun x7 => ((some (IntKind.wrap .i64 ((IntKind.wrap .i64 (x3 * 10)) + x7))).bind fun x8 => some x8))) : Option Int).bind fun x9 => (g_r9_Tell_l2 k x1 x2 n x9 (IntKind.wrap .i64 (x4 - 1)))) else some x3)
theorem g_r9_Tell_l2_eqs : True := by have := @g_r9_Tell_l2.eq_2; trivial
def g_r9_Tell (k : Nat) (x1 : Bool) (x2 : (List Int)) (x3 : Int) : Option (Int × Int × Int) := ((some (decide (((List.length x2 : Nat) : Int) = 0))).bind fun x4 => (bif x4 then some (0, 0, 0) else (bif (decide (60 < x3)) then some (30, 0, 0) else ((g_r9_Tell_l0 k k x3 x1 x2).bind fun (x5, x6, x7) => ((g_r9_Tell_l1 k k x5 x6 x7).bind fun (x8, x9, x10) => (((bif (decide (18 < x8)) then some true else (bif (decide (x8 < (-18))) then some true else ((g_r9_fits k x9 x10).bind fun x11 => some (!x11)))) : Option Bool).bind fun x12 => (bif x12 then some (30, 0, 0) else ((some (IntKind.wrap .i64 (((List.length x10 : Nat) : Int) - 1))).bind fun x13 => ((g_r9_Tell_l2 k x9 x10 k 0 x13).bind fun x14 => some (0, x14, x8))))))))))
def g_u8_word_string (k : Nat) (x1 : ByteArray) : Option Int := ((ix (strInts x1) 0).bind fun x2 => ((ix (strInts x1) 1).bind fun x3 => ((some (bits .or .u64 (IntKind.wrap .u64 x2) (shlI .u64 (IntKind.wrap .u64 x3) 8))).bind fun x4 => ((ix (strInts x1) 2).bind fun x5 => ((some (shlI .u64 (IntKind.wrap .u64 x5) 16)).bind fun x6 => ((ix (strInts x1) 3).bind fun x7 => ((some (shlI .u64 (IntKind.wrap .u64 x7) 24)).bind fun x8 => ((some (bits .or .u64 (bits .or .u64 x4 x6) x8)).bind fun x9 => ((ix (strInts x1) 4).bind fun x10 => ((some (shlI .u64 (IntKind.wrap .u64 x10) 32)).bind fun x11 => ((ix (strInts x1) 5).bind fun x12 => ((some (shlI .u64 (IntKind.wrap .u64 x12) 40)).bind fun x13 => ((some (bits .or .u64 (bits .or .u64 x9 x11) x13)).bind fun x14 => ((ix (strInts x1) 6).bind fun x15 => ((some (shlI .u64 (IntKind.wrap .u64 x15) 48)).bind fun x16 => ((ix (strInts x1) 7).bind fun x17 => ((some (shlI .u64 (IntKind.wrap .u64 x17) 56)).bind fun x18 => ((some (bits .or .u64 (bits .or .u64 x14 x16) x18)).bind fun x19 => some x19))))))))))))))))))
def g_u8_ValidString_l1 (k : Nat) : Nat → ByteArray → Option ByteArray
  | 0, _ => none
  | n + 1, x1 => ((((some (decide (32 < ((ByteArray.size x1 : Nat) : Int)))).bind fun x2 => (bif x2 then (bif (decide (0 ≤ (8 : Int) ∧ (8 : Int) ≤ ((ByteArray.size x1 : Nat) : Int) ∧ ((ByteArray.size x1 : Nat) : Int) ≤ ((ByteArray.size x1 : Nat) : Int))) then ((some (ByteArray.extract x1 (Int.toNat 8) (Int.toNat ((ByteArray.size x1 : Nat) : Int)))).bind fun x3 => (bif (decide (0 ≤ (16 : Int) ∧ (16 : Int) ≤ ((ByteArray.size x1 : Nat) : Int) ∧ ((ByteArray.size x1 : Nat) : Int) ≤ ((ByteArray.size x1 : Nat) : Int))) then ((some (ByteArray.extract x1 (Int.toNat 16) (Int.toNat ((ByteArray.size x1 : Nat) : Int)))).bind fun x4 => (bif (decide (0 ≤ (24 : Int) ∧ (24 : Int) ≤ ((ByteArray.size x1 : Nat) : Int) ∧ ((ByteArray.size x1 : Nat) : Int) ≤ ((ByteArray.size x1 : Nat) : Int))) then ((some (ByteArray.extract x1 (Int.toNat 24) (Int.toNat ((ByteArray.size x1 : Nat) : Int)))).bind fun x5 => ((g_u8_word_string k x1).bind fun x6 => ((g_u8_word_string k x3).bind fun x7 => ((g_u8_word_string k x4).bind fun x8 => ((g_u8_word_string k x5).bind fun x9 => ((some (bits .or .u64 (bits .or .u64 x6 x7) (bits .or .u64 x8 x9))).bind fun x10 => ((some (bits .and .u64 x10 9259542123273814144)).bind fun x11 => some (decide (x11 = 0))))))))) else none)) else none)) else none) else some false)) : Option Bool).bind fun x12 => (bif x12 then (bif (decide (0 ≤ (32 : Int) ∧ (32 : Int) ≤ ((ByteArray.size x1 : Nat) : Int) ∧ ((ByteArray.size x1 : Nat) : Int) ≤ ((ByteArray.size x1 : Nat) : Int))) then ((some (ByteArray.extract x1 (Int.toNat 32) (Int.toNat ((ByteArray.size x1 : Nat) : Int)))).bind fun x13 => (g_u8_ValidString_l1 k n x13)) else none) else some x1))
theorem g_u8_ValidString_l1_eqs : True := by have := @g_u8_ValidString_l1.eq_2; trivial
def g_u8_ValidString_l0 (k : Nat) : Nat → ByteArray → Option (Unit ⊕ Unit)
  | 0, _ => none
  | n + 1, x1 => ((some (decide (0 < ((ByteArray.size x1 : Nat) : Int)))).bind fun x2 => (bif x2 then ((ix (strInts x1) 0).bind fun x3 => (bif (decide (x3 < 128)) then (bif (decide (0 ≤ (1 : Int) ∧ (1 : Int) ≤ ((ByteArray.size x1 : Nat) : Int) ∧ ((ByteArray.size x1 : Nat) : Int) ≤ ((ByteArray.size x1 : Nat) : Int))) then ((some (ByteArray.extract x1 (Int.toNat 1) (Int.toNat ((ByteArray.size x1 : Nat) : Int)))).bind fun x4 => ((((((some (decide (8 < ((ByteArray.size x4 : Nat) : Int)))).bind fun x5 => (bif x5 then ((g_u8_word_string k x4).bind fun x6 => ((some (bits .and .u64 x6 9259542123273814144)).bind fun x7 => some (decide (x7 = 0)))) else some false)) : Option Bool).bind fun x8 => (bif x8 then (bif (decide (0 ≤ (8 : Int) ∧ (8 : Int) ≤ ((ByteArray.size x4 : Nat) : Int) ∧ ((ByteArray.size x4 : Nat) : Int) ≤ ((ByteArray.size x4 : Nat) : Int))) then ((some (ByteArray.extract x4 (Int.toNat 8) (Int.toNat ((ByteArray.size x4 : Nat) : Int)))).bind fun x9 => ((((some (decide (16 < ((ByteArray.size x9 : Nat) : Int)))).bind fun x10 => (bif x10 then (bif (decide (0 ≤ (8 : Int) ∧ (8 : Int) ≤ ((ByteArray.size x9 : Nat) : Int) ∧ ((ByteArray.size x9 : Nat) : Int) ≤ ((ByteArray.size x9 : Nat) : Int))) then ((some (ByteArray.extract x9 (Int.toNat 8) (Int.toNat ((ByteArray.size x9 : Nat) : Int)))).bind fun x11 => ((g_u8_word_string k x9).bind fun x12 => ((g_u8_word_string k x11).bind fun x13 => ((some (bits .and .u64 (bits .or .u64 x12 x13) 9259542123273814144)).bind fun x14 => some (decide (x14 = 0)))))) else none) else some false)) : Option Bool).bind fun x15 => (bif x15 then (bif (decide (0 ≤ (16 : Int) ∧ (16 : Int) ≤ ((ByteArray.size x9 : Nat) : Int) ∧ ((ByteArray.size x9 : Nat) : Int) ≤ ((ByteArray.size x9 : Nat) : Int))) then ((some (ByteArray.extract x9 (Int.toNat 16) (Int.toNat ((ByteArray.size x9 : Nat) : Int)))).bind fun x16 => ((g_u8_ValidString_l1 k k x16).bind fun x17 => some x17)) else none) else some x9))) else none) else some x4)) : Option ByteArray).bind fun x18 => (g_u8_ValidString_l0 k n x18))) else none) else (bif (decide (0 ≤ (x3 : Int) ∧ (x3 : Int) < 256)) then ((some (bits .and .u8 (List.getD tab0 (Int.toNat x3) (0 : Int)) 7)).bind fun x19 => ((some (shrI .u8 (List.getD tab0 (Int.toNat x3) (0 : Int)) 4)).bind fun x20 => (bif (decide (0 ≤ (x20 : Int) ∧ (x20 : Int) < 16)) then ((some (decide ((IntKind.wrap .i64 x19) = 2))).bind fun x21 => (bif x21 then ((((some (decide (((ByteArray.size x1 : Nat) : Int) < 2))).bind fun x22 => (bif x22 then some true else ((ix (strInts x1) 1).bind fun x23 => ((some (decide (x23 < ((List.getD tabA (Int.toNat x20) (default : S_unicode_utf8_acceptRange))).flo))).bind fun x24 => (bif x24 then some true else ((ix (strInts x1) 1).bind fun x25 => ((some (decide (((List.getD tabA (Int.toNat x20) (default : S_unicode_utf8_acceptRange))).fhi < x25))).bind fun x26 => some x26))))))) : Option Bool).bind fun x27 => (bif x27 then some (Sum.inl ()) else (bif (decide (0 ≤ (2 : Int) ∧ (2 : Int) ≤ ((ByteArray.size x1 : Nat) : Int) ∧ ((ByteArray.size x1 : Nat) : Int) ≤ ((ByteArray.size x1 : Nat) : Int))) then ((some (ByteArray.extract x1 (Int.toNat 2) (Int.toNat ((ByteArray.size x1 : Nat) : Int)))).bind fun x28 => (g_u8_ValidString_l0 k n x28)) else none))) else ((some (decide ((IntKind.wrap .i64 x19) = 3))).bind fun x29 => (bif x29 then ((((some (decide (((ByteArray.size x1 : Nat) : Int) < 3))).bind fun x30 => (bif x30 then some true else ((ix (strInts x1) 1).bind fun x31 => ((some (decide (x31 < ((List.getD tabA (Int.toNat x20) (default : S_unicode_utf8_acceptRange))).flo))).bind fun x32 => (bif x32 then some true else ((ix (strInts x1) 1).bind fun x33 => ((some (decide (((List.getD tabA (Int.toNat x20) (default : S_unicode_utf8_acceptRange))).fhi < x33))).bind fun x34 => (bif x34 then some true else ((ix (strInts x1) 2).bind fun x35 => (bif (decide (x35 < 128)) then some true else ((ix (strInts x1) 2).bind fun x36 => some (decide (191 < x36))))))))))))) : Option Bool).bind fun x37 => (bif x37 then some (Sum.inl ()) else (bif (decide (0 ≤ (3 : Int) ∧ (3 : Int) ≤ ((ByteArray.size x1 : Nat) : Int) ∧ ((ByteArray.size x1 : Nat) : Int) ≤ ((ByteArray.size x1 : Nat) : Int))) then ((some (ByteArray.extract x1 (Int.toNat 3) (Int.toNat ((ByteArray.size x1 : Nat) : Int)))).bind fun x38 => (g_u8_ValidString_l0 k n x38)) else none))) else ((some (decide ((IntKind.wrap .i64 x19) = 4))).bind fun x39 => (bif x39 then ((((some (decide (((ByteArray.size x1 : Nat) : Int) < 4))).bind fun x40 => (bif x40 then some true else ((ix (strInts x1) 1).bind fun x41 => ((some (decide (x41 < ((List.getD tabA (Int.toNat x20) (default : S_unicode_utf8_acceptRange))).flo))).bind fun x42 => (bif x42 then some true else ((ix (strInts x1) 1).bind fun x43 => ((some (decide (((List.getD tabA (Int.toNat x20) (default : S_unicode_utf8_acceptRange))).fhi < x43))).bind fun x44 => (bif x44 then some true else ((ix (strInts x1) 2).bind fun x45 => (bif (decide (x45 < 128)) then some true else ((ix (strInts x1) 2).bind fun x46 => (bif (decide (191 < x46)) then some true else ((ix (strInts x1) 3).bind fun x47 => (bif (decide (x47 < 128)) then some true else ((ix (strInts x1) 3).bind fun x48 => some (decide (191 < x48))))))))))))))))) : Option Bool).bind fun x49 => (bif x49 then some (Sum.inl ()) else (bif (decide (0 ≤ (4 : Int) ∧ (4 : Int) ≤ ((ByteArray.size x1 : Nat) : Int) ∧ ((ByteArray.size x1 : Nat) : Int) ≤ ((ByteArray.size x1 : Nat) : Int))) then ((some (ByteArray.extract x1 (Int.toNat 4) (Int.toNat ((ByteArray.size x1 : Nat) : Int)))).bind fun x50 => (g_u8_ValidString_l0 k n x50)) else none))) else some (Sum.inl ()))))))) else none))) else none))) else some (Sum.inr ())))
theorem g_u8_ValidString_l0_eqs : True := by have := @g_u8_ValidString_l0.eq_2; trivial
def g_u8_ValidString (k : Nat) (x1 : ByteArray) : Option Bool := (((g_u8_ValidString_l0 k k x1) : Option (Unit ⊕ Unit)).bind fun y1 => match y1 with | (Sum.inl _) => some false | (Sum.inr _) => some true)
def g_utf_Xml_l0 (k : Nat) (x1 : ByteArray) : Nat → Nat → Option (Unit ⊕ Unit)
  | 0, _ => none
  | n + 1, x2 => (bif (decide (x2 < ByteArray.size x1)) then ((((some (decide ((((Utf8.decode x1 x2).1 : Nat) : Int) = 9))).bind fun x3 => (bif x3 then some x3 else ((some (decide ((((Utf8.decode x1 x2).1 : Nat) : Int) = 10))).bind fun x4 => (bif x4 then some x4 else ((some (decide ((((Utf8.decode x1 x2).1 : Nat) : Int) = 13))).bind fun x5 => some x5))))) : Option Bool).bind fun x6 => (bif x6 then (g_utf_Xml_l0 k x1 n (x2 + (Utf8.decode x1 x2).2)) else ((((some (decide ((((Utf8.decode x1 x2).1 : Nat) : Int) < 32))).bind fun x7 => (bif x7 then some x7 else ((some (decide ((((Utf8.decode x1 x2).1 : Nat) : Int) = 65534))).bind fun x8 => (bif x8 then some x8 else ((some (decide ((((Utf8.decode x1 x2).1 : Nat) : Int) = 65535))).bind fun x9 => some x9))))) : Option Bool).bind fun x10 => (bif x10 then some (Sum.inl ()) else (g_utf_Xml_l0 k x1 n (x2 + (Utf8.decode x1 x2).2)))))) else some (Sum.inr ()))
theorem g_utf_Xml_l0_eqs : True := by have := @g_utf_Xml_l0.eq_2; trivial
def g_utf_Xml (k : Nat) (x1 : ByteArray) : Option Int := ((g_u8_ValidString k x1).bind fun x2 => (bif (!x2) then some 20 else (((g_utf_Xml_l0 k x1 k 0) : Option (Unit ⊕ Unit)).bind fun y1 => match y1 with | (Sum.inl _) => some 20 | (Sum.inr _) => some 0)))
def g_val_Str (k : Nat) (x1 : ByteArray) : Option (Int × ByteArray × Int) := ((((some (decide (255 < ((ByteArray.size x1 : Nat) : Int)))).bind fun x2 => (bif x2 then some true else ((g_utf_Xml k x1).bind fun x3 => some (!decide (x3 = 0))))) : Option Bool).bind fun x4 => (bif x4 then ((g_val_Err k 2).bind fun x5 => some (4, (ByteArray.mk #[]), x5)) else some (2, x1, 0)))
def g_sl_HasPrefix (k : Nat) (x1 : ByteArray) (x2 : ByteArray) : Option Bool := ((((some (decide (((ByteArray.size x2 : Nat) : Int) ≤ ((ByteArray.size x1 : Nat) : Int)))).bind fun x3 => (bif x3 then (bif (decide (0 ≤ (0 : Int) ∧ (0 : Int) ≤ ((ByteArray.size x2 : Nat) : Int) ∧ ((ByteArray.size x2 : Nat) : Int) ≤ ((ByteArray.size x1 : Nat) : Int))) then ((some (ByteArray.extract x1 (Int.toNat 0) (Int.toNat ((ByteArray.size x2 : Nat) : Int)))).bind fun x4 => some (x4.toList == x2.toList)) else none) else some false)) : Option Bool).bind fun x5 => some x5)
def g_sl_CutPrefix (k : Nat) (x1 : ByteArray) (x2 : ByteArray) : Option (ByteArray × Bool) := ((g_sl_HasPrefix k x1 x2).bind fun x3 => (bif (!x3) then some (x1, false) else (bif (decide (0 ≤ (((ByteArray.size x2 : Nat) : Int) : Int) ∧ (((ByteArray.size x2 : Nat) : Int) : Int) ≤ ((ByteArray.size x1 : Nat) : Int) ∧ ((ByteArray.size x1 : Nat) : Int) ≤ ((ByteArray.size x1 : Nat) : Int))) then ((some (ByteArray.extract x1 (Int.toNat ((ByteArray.size x2 : Nat) : Int)) (Int.toNat ((ByteArray.size x1 : Nat) : Int)))).bind fun x4 => some (x4, true)) else none)))
def g_st_CutPrefix (k : Nat) (x1 : ByteArray) (x2 : ByteArray) : Option (ByteArray × Bool) := ((g_sl_CutPrefix k x1 x2).bind fun (x3, x4) => some (x3, x4))
def g_dec_parser_take (k : Nat) (x1 : ByteArray) (x2 : ByteArray) : Option (Bool × ByteArray) := ((g_st_CutPrefix k x2 x1).bind fun (x3, x4) => some (x4, x3))
def g_dec_parser_some_l0 (k : Nat) (x1 : ByteArray) : Nat → Int → Option Int
  | 0, _ => none
  | n + 1, x2 => ((((some (decide (x2 < ((ByteArray.size x1 : Nat) : Int)))).bind fun x3 => (bif x3 then ((ix (strInts x1) x2).bind fun x4 => (bif (decide (48 ≤ x4)) then ((ix (strInts x1) x2).bind fun x5 => some (decide (x5 ≤ 57))) else some false)) else some false)) : Option Bool).bind fun x6 => (bif x6 then (g_dec_parser_some_l0 k x1 n (IntKind.wrap .i64 (x2 + 1))) else some x2))
theorem g_dec_parser_some_l0_eqs : True := by have := @g_dec_parser_some_l0.eq_2; trivial
def g_dec_parser_some (k : Nat) (x1 : ByteArray) : Option (ByteArray × ByteArray) := ((g_dec_parser_some_l0 k x1 k 0).bind fun x2 => (bif (decide (0 ≤ (0 : Int) ∧ (0 : Int) ≤ x2 ∧ x2 ≤ ((ByteArray.size x1 : Nat) : Int))) then (bif (decide (0 ≤ (x2 : Int) ∧ (x2 : Int) ≤ ((ByteArray.size x1 : Nat) : Int) ∧ ((ByteArray.size x1 : Nat) : Int) ≤ ((ByteArray.size x1 : Nat) : Int))) then ((some (ByteArray.extract x1 (Int.toNat x2) (Int.toNat ((ByteArray.size x1 : Nat) : Int)))).bind fun x3 => some ((ByteArray.extract x1 (Int.toNat 0) (Int.toNat x2)), x3)) else none) else none))
def g_dec_values (k : Nat) (x1 : ByteArray) : Option Unit := some ()
def g_st_trimLeftByte_l0 (k : Nat) (x1 : Int) : Nat → ByteArray → Option ByteArray
  | 0, _ => none
  | n + 1, x2 => ((((some (decide (0 < ((ByteArray.size x2 : Nat) : Int)))).bind fun x3 => (bif x3 then ((ix (strInts x2) 0).bind fun x4 => some (decide (x4 = x1))) else some false)) : Option Bool).bind fun x5 => (bif x5 then (bif (decide (0 ≤ (1 : Int) ∧ (1 : Int) ≤ ((ByteArray.size x2 : Nat) : Int) ∧ ((ByteArray.size x2 : Nat) : Int) ≤ ((ByteArray.size x2 : Nat) : Int))) then ((some (ByteArray.extract x2 (Int.toNat 1) (Int.toNat ((ByteArray.size x2 : Nat) : Int)))).bind fun x6 => (g_st_trimLeftByte_l0 k x1 n x6)) else none) else some x2))
theorem g_st_trimLeftByte_l0_eqs : True := by have := @g_st_trimLeftByte_l0.eq_2; trivial
def g_st_trimLeftByte (k : Nat) (x1 : ByteArray) (x2 : Int) : Option ByteArray := ((g_st_trimLeftByte_l0 k x2 k x1).bind fun x3 => some x3)
def g_st_TrimLeft (k : Nat) (x1 : ByteArray) (x2 : ByteArray) : Option ByteArray := ((((some (x1.toList == (ByteArray.mk #[]).toList)).bind fun x3 => (bif x3 then some true else ((some (x2.toList == (ByteArray.mk #[]).toList)).bind fun x4 => some x4))) : Option Bool).bind fun x5 => (bif x5 then some x1 else ((((some (decide (((ByteArray.size x2 : Nat) : Int) = 1))).bind fun x6 => (bif x6 then ((ix (strInts x2) 0).bind fun x7 => some (decide (x7 < 128))) else some false)) : Option Bool).bind fun x8 => (bif x8 then ((ix (strInts x2) 0).bind fun x9 => ((g_st_trimLeftByte k x1 x9).bind fun x10 => some x10)) else none))))
def g_st_trimRightByte_l0 (k : Nat) (x1 : Int) : Nat → ByteArray → Option ByteArray
  | 0, _ => none
  | n + 1, x2 => ((((some (decide (0 < ((ByteArray.size x2 : Nat) : Int)))).bind fun x3 => (bif x3 then ((some (IntKind.wrap .i64 (((ByteArray.size x2 : Nat) : Int) - 1))).bind fun x4 => ((ix (strInts x2) x4).bind fun x5 => some (decide (x5 = x1)))) else some false)) : Option Bool).bind fun x6 => (bif x6 then ((some (IntKind.wrap .i64 (((ByteArray.size x2 : Nat) : Int) - 1))).bind fun x7 => (bif (decide (0 ≤ (0 : Int) ∧ (0 : Int) ≤ x7 ∧ x7 ≤ ((ByteArray.size x2 : Nat) : Int))) then (g_st_trimRightByte_l0 k x1 n (ByteArray.extract x2 (Int.toNat 0) (Int.toNat x7))) else none)) else some x2))
theorem g_st_trimRightByte_l0_eqs : True := by have := @g_st_trimRightByte_l0.eq_2; trivial
def g_st_trimRightByte (k : Nat) (x1 : ByteArray) (x2 : Int) : Option ByteArray := ((g_st_trimRightByte_l0 k x2 k x1).bind fun x3 => some x3)
def g_st_TrimRight (k : Nat) (x1 : ByteArray) (x2 : ByteArray) : Option ByteArray := ((((some (x1.toList == (ByteArray.mk #[]).toList)).bind fun x3 => (bif x3 then some true else ((some (x2.toList == (ByteArray.mk #[]).toList)).bind fun x4 => some x4))) : Option Bool).bind fun x5 => (bif x5 then some x1 else ((((some (decide (((ByteArray.size x2 : Nat) : Int) = 1))).bind fun x6 => (bif x6 then ((ix (strInts x2) 0).bind fun x7 => some (decide (x7 < 128))) else some false)) : Option Bool).bind fun x8 => (bif x8 then ((ix (strInts x2) 0).bind fun x9 => ((g_st_trimRightByte k x1 x9).bind fun x10 => some x10)) else none))))
def g_dec_wide_plus (k : Nat) (x1 : Int) (x2 : Int) (x3 : Int) (x4 : Int) : Option Bool := (bif (decide (Int.toNat ((add64 x2 x4 0).2) ≤ 1)) then ((some (decide ((add64 x1 x3 ((add64 x2 x4 0).2)).2 = 0))).bind fun x5 => some x5) else none)
def g_dec_Parse_l0 (k : Nat) (x1 : ByteArray) : Nat → Int → Int → Option Int
  | 0, _, _ => none
  | n + 1, x2, x3 => ((some (decide (x2 < ((ByteArray.size x1 : Nat) : Int)))).bind fun x4 => (bif x4 then ((ix (strInts x1) x2).bind fun x5 => ((some (IntKind.wrap .i64 (IntKind.wrap .u8 (x5 - 48)))).bind fun x6 => ((some (IntKind.wrap .i64 ((IntKind.wrap .i64 (10 * x3)) + x6))).bind fun x7 => (g_dec_Parse_l0 k x1 n (IntKind.wrap .i64 (x2 + 1)) x7)))) else some x3))
theorem g_dec_Parse_l0_eqs : True := by have := @g_dec_Parse_l0.eq_2; trivial
def g_dec_Parse_l1 (k : Nat) (x1 : ByteArray) : Nat → Int → Int → Int → Option (Int × Int)
  | 0, _, _, _ => none
  | n + 1, x2, x3, x4 => ((some (decide (x2 < ((ByteArray.size x1 : Nat) : Int)))).bind fun x5 => (bif x5 then ((ix (strInts x1) x2).bind fun x6 => ((some (IntKind.wrap .i64 (IntKind.wrap .u8 (x6 - 48)))).bind fun x7 => ((g_dec_wide_times k x3 x4 10).bind fun (x8, x9) => ((g_dec_wide_plus k x9 (IntKind.wrap .u64 (x4 * 10)) 0 (IntKind.wrap .u64 x7)).bind fun x10 => (g_dec_Parse_l1 k x1 n (IntKind.wrap .i64 (x2 + 1)) ((add64 x9 0 ((add64 (IntKind.wrap .u64 (x4 * 10)) (IntKind.wrap .u64 x7) 0).2)).1) ((add64 (IntKind.wrap .u64 (x4 * 10)) (IntKind.wrap .u64 x7) 0).1)))))) else some (x3, x4)))
theorem g_dec_Parse_l1_eqs : True := by have := @g_dec_Parse_l1.eq_2; trivial
def g_dec_Parse (k : Nat) (x1 : ByteArray) : Option (Int × Int × Int) := ((g_dec_parser_take k (ByteArray.mk #[45]) x1).bind fun (x2, x3) => ((g_dec_parser_some k x3).bind fun (x4, x5) => ((((some (decide (((ByteArray.size x1 : Nat) : Int) ≤ 255))).bind fun x6 => (bif x6 then ((some (!(x4.toList == (ByteArray.mk #[]).toList))).bind fun x7 => some x7) else some false)) : Option Bool).bind fun x8 => ((((g_dec_parser_take k (ByteArray.mk #[46]) x5).bind fun (x9, x10) => (bif x9 then ((g_dec_parser_some k x10).bind fun (x11, x12) => (bif x8 then ((some (!(x11.toList == (ByteArray.mk #[]).toList))).bind fun x13 => some (x11, x13, x12)) else some (x11, false, x12))) else some ((ByteArray.mk #[]), x8, x10))) : Option (ByteArray × Bool × ByteArray)).bind fun (x14, x15, x16) => ((((((g_dec_parser_take k (ByteArray.mk #[101]) x16).bind fun (x17, x18) => (bif x17 then some (true, x18) else ((g_dec_parser_take k (ByteArray.mk #[69]) x18).bind fun (x19, x20) => some (x19, x20)))) : Option (Bool × ByteArray)).bind fun (x21, x22) => (bif x21 then ((g_dec_parser_take k (ByteArray.mk #[45]) x22).bind fun (x23, x24) => (((bif (!x23) then ((g_dec_parser_take k (ByteArray.mk #[43]) x24).bind fun (x25, x26) => some x26) else some x24) : Option ByteArray).bind fun x27 => ((g_dec_parser_some k x27).bind fun (x28, x29) => (((bif x15 then ((some (decide (1 ≤ ((ByteArray.size x28 : Nat) : Int)))).bind fun x30 => (bif x30 then ((some (decide (((ByteArray.size x28 : Nat) : Int) ≤ 3))).bind fun x31 => some x31) else some false)) else some false) : Option Bool).bind fun x32 => (((bif x32 then ((g_dec_values k x28).bind fun _ => ((g_dec_Parse_l0 k x28 k 0 0).bind fun x33 => some x33)) else some 0) : Option Int).bind fun x34 => (bif x23 then some (x32, x29, (IntKind.wrap .i64 (0 - x34))) else some (x32, x29, x34))))))) else some (x15, x22, 0))) : Option (Bool × ByteArray × Int)).bind fun (x35, x36, x37) => (((bif (!x35) then some true else ((some (!(x36.toList == (ByteArray.mk #[]).toList))).bind fun x38 => some x38)) : Option Bool).bind fun x39 => (bif x39 then some (40, 0, 0) else (bif (decide (ByteArray.size x4 + ByteArray.size x14 ≤ 9223372036854775807)) then ((g_st_TrimLeft k (x4 ++ x14) (ByteArray.mk #[48])).bind fun x40 => ((some (IntKind.wrap .i64 (x37 - ((ByteArray.size x14 : Nat) : Int)))).bind fun x41 => ((g_st_TrimRight k x40 (ByteArray.mk #[48])).bind fun x42 => ((some (IntKind.wrap .i64 (((ByteArray.size x40 : Nat) : Int) - ((ByteArray.size x42 : Nat) : Int)))).bind fun x43 => ((some (decide (30 < ((ByteArray.size x42 : Nat) : Int)))).bind fun x44 => (bif x44 then some (30, 0, 0) else ((g_dec_values k x42).bind fun _ => ((g_dec_Parse_l1 k x42 k 0 0 0).bind fun (x45, x46) => ((g_dec_num_tell k x2 x45 x46 (IntKind.wrap .i64 (x41 + x43))).bind fun (x47, x48, x49) => some (x47, x48, x49)))))))))) else none))))))))
def g_val_Truth (k : Nat) (x1 : Bool) : Option Unit := some ()
def g_sl_TrimPrefix (k : Nat) (x1 : ByteArray) (x2 : ByteArray) : Option ByteArray := ((g_sl_HasPrefix k x1 x2).bind fun x3 => (bif x3 then (bif (decide (0 ≤ (((ByteArray.size x2 : Nat) : Int) : Int) ∧ (((ByteArray.size x2 : Nat) : Int) : Int) ≤ ((ByteArray.size x1 : Nat) : Int) ∧ ((ByteArray.size x1 : Nat) : Int) ≤ ((ByteArray.size x1 : Nat) : Int))) then ((some (ByteArray.extract x1 (Int.toNat ((ByteArray.size x2 : Nat) : Int)) (Int.toNat ((ByteArray.size x1 : Nat) : Int)))).bind fun x4 => some x4) else none) else some x1))
def g_st_TrimPrefix (k : Nat) (x1 : ByteArray) (x2 : ByteArray) : Option ByteArray := ((g_sl_TrimPrefix k x1 x2).bind fun x3 => some x3)
def g_val_Typed (k : Nat) (x1 : ByteArray) : Option (Int × Int × Int × ByteArray × Bool × Int) := ((g_val_ErrCode k x1).bind fun (x2, x3) => ((g_dec_Parse k x1).bind fun (x4, x5, x6) => ((some (x1.toList == (ByteArray.mk #[]).toList)).bind fun x7 => (bif x7 then some (0, 0, 0, (ByteArray.mk #[]), false, 0) else ((((some (x1.toList == (ByteArray.mk #[84, 82, 85, 69]).toList)).bind fun x8 => (bif x8 then some true else ((some (x1.toList == (ByteArray.mk #[70, 65, 76, 83, 69]).toList)).bind fun x9 => some x9))) : Option Bool).bind fun x10 => (bif x10 then ((some (x1.toList == (ByteArray.mk #[84, 82, 85, 69]).toList)).bind fun x11 => ((g_val_Truth k x11).bind fun _ => some (3, 0, 0, (ByteArray.mk #[]), x11, 0))) else (bif x3 then ((g_val_Err k x2).bind fun x12 => some (4, 0, 0, (ByteArray.mk #[]), false, x12)) else (bif (decide (x4 = 0)) then ((g_val_Of k x5 x6 x4).bind fun (x13, x14, x15, x16) => some (x13, x14, x15, (ByteArray.mk #[]), false, x16)) else ((g_st_TrimPrefix k x1 (ByteArray.mk #[39])).bind fun x17 => ((g_val_Str k x17).bind fun (x18, x19, x20) => some (x18, 0, 0, x19, false, x20)))))))))))
def g_r9_digit (k : Nat) (x1 : Int) : Option Bool := (((bif (decide (48 ≤ x1)) then some (decide (x1 ≤ 57)) else some false) : Option Bool).bind fun x2 => some x2)
def g_r9_Parse_l0 (k : Nat) (x1 : ByteArray) : Nat → Int → (List Int) → Option (Int × (List Int))
  | 0, _, _ => none
  | n + 1, x2, x3 => ((((some (decide (x2 < ((ByteArray.size x1 : Nat) : Int)))).bind fun x4 => (bif x4 then ((ix (strInts x1) x2).bind fun x5 => ((g_r9_digit k x5).bind fun x6 => some x6)) else some false)) : Option Bool).bind fun x7 => (bif x7 then ((ix (strInts x1) x2).bind fun x8 => ((some (IntKind.wrap .i64 (IntKind.wrap .u8 (x8 - 48)))).bind fun x9 => (bif (decide (((List.length x3) + (List.length ([x9] : List Int))) * 8 ≤ 140737488355328)) then (g_r9_Parse_l0 k x1 n (IntKind.wrap .i64 (x2 + 1)) (x3 ++ ([x9] : List Int))) else none))) else some (x2, x3)))
theorem g_r9_Parse_l0_eqs : True := by have := @g_r9_Parse_l0.eq_2; trivial
def g_r9_Parse_l1 (k : Nat) (x1 : ByteArray) : Nat → Int → Int → (List Int) → Option (Int × Int × (List Int))
  | 0, _, _, _ => none
  | n + 1, x2, x3, x4 => ((((some (decide (x2 < ((ByteArray.size x1 : Nat) : Int)))).bind fun x5 => (bif x5 then ((ix (strInts x1) x2).bind fun x6 => ((g_r9_digit k x6).bind fun x7 => some x7)) else some false)) : Option Bool).bind fun x8 => (bif x8 then ((ix (strInts x1) x2).bind fun x9 => ((some (IntKind.wrap .i64 (IntKind.wrap .u8 (x9 - 48)))).bind fun x10 => (bif (decide (((List.length x4) + (List.length ([x10] : List Int))) * 8 ≤ 140737488355328)) then (g_r9_Parse_l1 k x1 n (IntKind.wrap .i64 (x2 + 1)) (IntKind.wrap .i64 (x3 - 1)) (x4 ++ ([x10] : List Int))) else none))) else some (x2, x3, x4)))
theorem g_r9_Parse_l1_eqs : True := by have := @g_r9_Parse_l1.eq_2; trivial
def g_r9_Parse_l2 (k : Nat) (x1 : ByteArray) (x2 : Int) : Nat → Int → Int → Option (Unit ⊕ (Int × Int))
  | 0, _, _ => none
  | n + 1, x3, x4 => ((((some (decide (x3 < ((ByteArray.size x1 : Nat) : Int)))).bind fun x5 => (bif x5 then ((ix (strInts x1) x3).bind fun x6 => ((g_r9_digit k x6).bind fun x7 => some x7)) else some false)) : Option Bool).bind fun x8 => (bif x8 then ((ix (strInts x1) x3).bind fun x9 => ((some (IntKind.wrap .i64 (IntKind.wrap .u8 (x9 - 48)))).bind fun x10 => ((some (IntKind.wrap .i64 ((IntKind.wrap .i64 (x4 * 10)) + x10))).bind fun x11 => ((some (IntKind.wrap .i64 ((IntKind.wrap .i64 (x3 + 1)) - x2))).bind fun x12 => (bif (decide (3 < x12)) then some (Sum.inl ()) else (g_r9_Parse_l2 k x1 x2 n (IntKind.wrap .i64 (x3 + 1)) x11)))))) else some (Sum.inr (x3, x4))))
theorem g_r9_Parse_l2_eqs : True := by have := @g_r9_Parse_l2.eq_2; trivial
def g_r9_Parse_l3 (k : Nat) (x1 : (List Int)) : Nat → Int → (List Int) → Option (List Int)
  | 0, _, _ => none
  | n + 1, x2, x3 => (bif (decide (0 ≤ x2)) then ((ix x1 x2).bind fun x4 => (bif (decide (((List.length x3) + (List.length ([x4] : List Int))) * 8 ≤ 140737488355328)) then (g_r9_Parse_l3 k x1 n (IntKind.wrap .i64 (x2 - 1)) (x3 ++ ([x4] : List Int))) else none)) else some x3)
theorem g_r9_Parse_l3_eqs : True := by have := @g_r9_Parse_l3.eq_2; trivial
def g_r9_Parse (k : Nat) (x1 : ByteArray) : Option (Int × Int × Int) := ((some (decide (255 < ((ByteArray.size x1 : Nat) : Int)))).bind fun x2 => (bif x2 then some (40, 0, 0) else ((((some (decide (0 < ((ByteArray.size x1 : Nat) : Int)))).bind fun x3 => (bif x3 then ((ix (strInts x1) 0).bind fun x4 => some (decide (x4 = 45))) else some false)) : Option Bool).bind fun x5 => (((bif x5 then some 1 else some 0) : Option Int).bind fun x6 => ((g_r9_Parse_l0 k x1 k x6 ([] : List Int)).bind fun (x7, x8) => (bif (decide (x7 = x6)) then some (40, 0, 0) else ((((((some (decide (x7 < ((ByteArray.size x1 : Nat) : Int)))).bind fun x9 => (bif x9 then ((ix (strInts x1) x7).bind fun x10 => some (decide (x10 = 46))) else some false)) : Option Bool).bind fun x11 => (bif x11 then ((g_r9_Parse_l1 k x1 k (IntKind.wrap .i64 (x7 + 1)) 0 x8).bind fun (x12, x13, x14) => ((some (decide (x12 = (IntKind.wrap .i64 (x7 + 1))))).bind fun x15 => (bif x15 then some (Sum.inl ()) else some (Sum.inr (x12, x13, x14))))) else some (Sum.inr (x7, 0, x8)))) : Option (Unit ⊕ (Int × Int × (List Int)))).bind fun y1 => match y1 with | (Sum.inl _) => some (40, 0, 0) | (Sum.inr (x16, x17, x18)) => ((((((some (decide (x16 < ((ByteArray.size x1 : Nat) : Int)))).bind fun x19 => (bif x19 then ((ix (strInts x1) x16).bind fun x20 => (bif (decide (x20 = 101)) then some true else ((ix (strInts x1) x16).bind fun x21 => some (decide (x21 = 69))))) else some false)) : Option Bool).bind fun x22 => (bif x22 then ((((some (decide ((IntKind.wrap .i64 (x16 + 1)) < ((ByteArray.size x1 : Nat) : Int)))).bind fun x23 => (bif x23 then ((ix (strInts x1) (IntKind.wrap .i64 (x16 + 1))).bind fun x24 => some (decide (x24 = 45))) else some false)) : Option Bool).bind fun x25 => ((((((some (decide ((IntKind.wrap .i64 (x16 + 1)) < ((ByteArray.size x1 : Nat) : Int)))).bind fun x26 => (bif x26 then ((ix (strInts x1) (IntKind.wrap .i64 (x16 + 1))).bind fun x27 => (bif (decide (x27 = 45)) then some true else ((ix (strInts x1) (IntKind.wrap .i64 (x16 + 1))).bind fun x28 => some (decide (x28 = 43))))) else some false)) : Option Bool).bind fun x29 => (bif x29 then ((some (IntKind.wrap .i64 ((IntKind.wrap .i64 (x16 + 1)) + 1))).bind fun x30 => some x30) else some (IntKind.wrap .i64 (x16 + 1)))) : Option Int).bind fun x31 => (((g_r9_Parse_l2 k x1 x31 k x31 0) : Option (Unit ⊕ (Int × Int))).bind fun y2 => match y2 with | (Sum.inl _) => some (Sum.inl ()) | (Sum.inr (x32, x33)) => (bif (decide (x32 = x31)) then some (Sum.inl ()) else (((bif x25 then some (IntKind.wrap .i64 (0 - x33)) else some x33) : Option Int).bind fun x34 => some (Sum.inr (x32, (IntKind.wrap .i64 (x17 + x34))))))))) else some (Sum.inr (x16, x17)))) : Option (Unit ⊕ (Int × Int))).bind fun y3 => match y3 with | (Sum.inl _) => some (40, 0, 0) | (Sum.inr (x35, x36)) => ((some (decide (x35 < ((ByteArray.size x1 : Nat) : Int)))).bind fun x37 => (bif x37 then some (40, 0, 0) else ((some (IntKind.wrap .i64 (((List.length x18 : Nat) : Int) - 1))).bind fun x38 => ((g_r9_Parse_l3 k x18 k x38 ([] : List Int)).bind fun x39 => ((g_r9_trim k x5 x39).bind fun (x40, x41) => ((g_r9_Tell k x40 x41 x36).bind fun (x42, x43, x44) => some (x42, x43, x44)))))))))))))))
def g_val_Right (k : Nat) (x1 : Int) (x2 : Int) (x3 : Int) (x4 : ByteArray) (x5 : Bool) (x6 : Int) : Option Bool := (((bif (decide (x1 = 0)) then some (decide (x1 = 0)) else some (decide (x1 = 3))) : Option Bool).bind fun x7 => (bif x7 then (((bif x5 then ((some ((decide (x1 = x1)) && (((decide (x2 = 0)) && ((decide (x3 = 0)) && true)) && ((ByteArray.toList x4 == ByteArray.toList (ByteArray.mk #[])) && ((x5 == (decide (x1 = 3))) && ((decide (x6 = 0)) && true)))))).bind fun x8 => some x8) else ((some ((decide (x1 = x1)) && (((decide (x2 = 0)) && ((decide (x3 = 0)) && true)) && ((ByteArray.toList x4 == ByteArray.toList (ByteArray.mk #[])) && ((x5 == false) && ((decide (x6 = 0)) && true)))))).bind fun x9 => some x9)) : Option Bool).bind fun x10 => some x10) else (bif (decide (x1 = 1)) then ((((g_dec_Right k x2 x3).bind fun x11 => (bif x11 then ((some ((decide (x1 = 1)) && (((decide (x2 = x2)) && ((decide (x3 = x3)) && true)) && ((ByteArray.toList x4 == ByteArray.toList (ByteArray.mk #[])) && ((x5 == false) && ((decide (x6 = 0)) && true)))))).bind fun x12 => some x12) else some false)) : Option Bool).bind fun x13 => some x13) else (bif (decide (x1 = 2)) then ((g_val_Str k x4).bind fun (x14, x15, x16) => ((some ((decide (x1 = x14)) && (((decide (x2 = 0)) && ((decide (x3 = 0)) && true)) && ((ByteArray.toList x4 == ByteArray.toList x15) && ((x5 == false) && ((decide (x6 = x16)) && true)))))).bind fun x17 => some x17)) else (bif (decide (x1 = 4)) then ((g_val_Err k x6).bind fun x18 => ((some ((decide (x1 = 4)) && (((decide (x2 = 0)) && ((decide (x3 = 0)) && true)) && ((ByteArray.toList x4 == ByteArray.toList (ByteArray.mk #[])) && ((x5 == false) && ((decide (x6 = x18)) && true)))))).bind fun x19 => some x19)) else some false)))))
def g_val_clean (k : Nat) (x1 : Int) (x2 : Int) (x3 : Int) (x4 : ByteArray) (x5 : Bool) (x6 : Int) : Option (Int × Int × Int × ByteArray × Bool × Int) := ((g_val_Right k x1 x2 x3 x4 x5 x6).bind fun x7 => (bif x7 then some (x1, x2, x3, x4, x5, x6) else ((g_val_Err k 2).bind fun x8 => some (4, 0, 0, (ByteArray.mk #[]), false, x8))))
def g_st_Trim (k : Nat) (x1 : ByteArray) (x2 : ByteArray) : Option ByteArray := ((((some (x1.toList == (ByteArray.mk #[]).toList)).bind fun x3 => (bif x3 then some true else ((some (x2.toList == (ByteArray.mk #[]).toList)).bind fun x4 => some x4))) : Option Bool).bind fun x5 => (bif x5 then some x1 else ((((some (decide (((ByteArray.size x2 : Nat) : Int) = 1))).bind fun x6 => (bif x6 then ((ix (strInts x2) 0).bind fun x7 => some (decide (x7 < 128))) else some false)) : Option Bool).bind fun x8 => (bif x8 then ((ix (strInts x2) 0).bind fun x9 => ((ix (strInts x2) 0).bind fun x10 => ((g_st_trimRightByte k x1 x9).bind fun x11 => ((g_st_trimLeftByte k x11 x10).bind fun x12 => some x12)))) else none))))
def g_val_Num (k : Nat) (x1 : Int) (x2 : Int) (x3 : Int) (x4 : ByteArray) (x5 : Bool) (x6 : Int) : Option (Int × Int × Int × ByteArray × Bool × Int) := ((g_val_clean k x1 x2 x3 x4 x5 x6).bind fun (x7, x8, x9, x10, x11, x12) => (((bif (decide (x7 = 3)) then (bif x11 then some (Sum.inl 1) else some (Sum.inl 0)) else (bif (decide (x7 = 0)) then some (Sum.inl 0) else (bif (decide (x7 = 2)) then some (Sum.inr (Sum.inl ())) else some (Sum.inr (Sum.inr ()))))) : Option (Int ⊕ (Unit ⊕ Unit))).bind fun y1 => match y1 with | (Sum.inl x13) => ((g_val_Of k x13 0 0).bind fun (x14, x15, x16, x17) => some (x14, x15, x16, (ByteArray.mk #[]), false, x17)) | (Sum.inr (Sum.inl _)) => ((g_st_Trim k x10 (ByteArray.mk #[32])).bind fun x18 => ((g_dec_Parse k x18).bind fun (x19, x20, x21) => (bif (decide (x19 = 40)) then ((g_val_Err k 2).bind fun x22 => some (4, 0, 0, (ByteArray.mk #[]), false, x22)) else ((g_val_Of k x20 x21 x19).bind fun (x23, x24, x25, x26) => some (x23, x24, x25, (ByteArray.mk #[]), false, x26))))) | (Sum.inr (Sum.inr _)) => some (x7, x8, x9, x10, x11, x12)))
def g_dec_clean (k : Nat) (x1 : Int) (x2 : Int) (x3 : Int) (x4 : Int) : Option (Bool × Int × Int × Int × Int) := ((g_dec_ranged k ([(⟨x1, x2⟩ : S_api_Dec)] : List S_api_Dec)).bind fun x5 => (bif (!x5) then some (false, x1, x2, x3, x4) else ((g_dec_of k x1 x2).bind fun x6 => ((g_dec_num_tell k (decide (x1 < 0)) 0 x6 x2).bind fun (x7, x8, x9) => ((g_dec_ranged k ([(⟨x3, x4⟩ : S_api_Dec)] : List S_api_Dec)).bind fun x10 => (bif (!x10) then some (false, x8, x9, x3, x4) else ((g_dec_of k x3 x4).bind fun x11 => ((g_dec_num_tell k (decide (x3 < 0)) 0 x11 x4).bind fun (x12, x13, x14) => some (true, x8, x9, x13, x14)))))))))
def g_dec_even (k : Nat) (x1 : Int) (x2 : Int) (x3 : Int) (x4 : Int) : Option (Bool × Int × Int × Int × Int × Int × Int) := ((((g_dec_of k x1 x2).bind fun x5 => ((g_dec_of k x3 x4).bind fun x6 => some (x5, x6))) : Option (Int × Int)).bind fun (x7, x8) => ((((g_dec_wide_zero k 0 x7).bind fun _ => (bif (decide ((bits .or .u64 0 x7) = 0)) then some (true, 0, x7, x4, 0, x8, x4) else ((g_dec_wide_zero k 0 x8).bind fun _ => (bif (decide ((bits .or .u64 0 x8) = 0)) then some (true, 0, x7, x2, 0, x8, x2) else (bif (decide (x4 < x2)) then ((g_dec_wide_tens k 0 x7 (IntKind.wrap .i64 (x2 - x4))).bind fun (x9, x10, x11) => some (x9, x10, x11, x4, 0, x8, x4)) else (bif (decide (x2 < x4)) then ((g_dec_wide_tens k 0 x8 (IntKind.wrap .i64 (x4 - x2))).bind fun (x12, x13, x14) => some (x12, 0, x7, x2, x13, x14, x2)) else some (true, 0, x7, x2, 0, x8, x4))))))) : Option (Bool × Int × Int × Int × Int × Int × Int)).bind fun (x15, x16, x17, x18, x19, x20, x21) => some (x15, x16, x17, x18, x19, x20, x21)))
def g_dec_wide_cmp (k : Nat) (x1 : Int) (x2 : Int) (x3 : Int) (x4 : Int) : Option Int := ((some ((decide (x1 = x3)) && ((decide (x2 = x4)) && true))).bind fun x5 => (bif x5 then some 0 else (((bif (decide (x1 < x3)) then some true else (bif (decide (x1 = x3)) then some (decide (x2 < x4)) else some false)) : Option Bool).bind fun x6 => (bif x6 then some (-1) else some 1))))
def g_dec_wide_less (k : Nat) (x1 : Int) (x2 : Int) (x3 : Int) (x4 : Int) : Option Unit := (bif (decide (Int.toNat ((sub64 x2 x4 0).2) ≤ 1)) then some () else none)
def g_dec_Add (k : Nat) (x1 : Int) (x2 : Int) (x3 : Int) (x4 : Int) : Option (Int × Int × Int) := ((g_dec_clean k x1 x2 x3 x4).bind fun (x5, x6, x7, x8, x9) => (bif (!x5) then some (1, 0, 0) else ((g_dec_even k x6 x7 x8 x9).bind fun (x10, x11, x12, x13, x14, x15, x16) => (((bif (!x10) then some (Sum.inl ()) else ((some ((decide (x6 < 0)) == (decide (x8 < 0)))).bind fun x17 => (bif x17 then ((g_dec_wide_plus k x11 x12 x14 x15).bind fun x18 => some (Sum.inr (x18, (decide (x6 < 0)), (add64 x11 x14 ((add64 x12 x15 0).2)).1, (add64 x12 x15 0).1))) else ((g_dec_wide_cmp k x11 x12 x14 x15).bind fun x19 => (bif (decide (0 ≤ x19)) then ((g_dec_wide_less k x11 x12 x14 x15).bind fun _ => some (Sum.inr (x10, (decide (x6 < 0)), (sub64 x11 x14 ((sub64 x12 x15 0).2)).1, (sub64 x12 x15 0).1))) else ((g_dec_wide_less k x14 x15 x11 x12).bind fun _ => some (Sum.inr (x10, (decide (x8 < 0)), (sub64 x14 x11 ((sub64 x15 x12 0).2)).1, (sub64 x15 x12 0).1)))))))) : Option (Unit ⊕ (Bool × Bool × Int × Int))).bind fun y1 => match y1 with | (Sum.inl _) => some (30, 0, 0) | (Sum.inr (x20, x21, x22, x23)) => (bif (!x20) then some (30, 0, 0) else ((g_dec_num_tell k x21 x22 x23 x13).bind fun (x24, x25, x26) => some (x24, x25, x26)))))))
def g_dec_lowest (k : Nat) (x1 : Int) (x2 : Int) (x3 : Int) (x4 : Int) : Option (Int × Int × Int) := ((g_dec_even k x1 x2 x3 x4).bind fun (x5, x6, x7, x8, x9, x10, x11) => (bif (!x5) then some (30, 0, 0) else (bif (decide (x1 < 0)) then ((((g_dec_wide_cmp k x6 x7 x9 x10).bind fun x12 => (bif (decide (0 ≤ x12)) then ((g_dec_wide_less k x6 x7 x9 x10).bind fun _ => some ((decide (x1 < 0)), (sub64 x6 x9 ((sub64 x7 x10 0).2)).1, (sub64 x7 x10 0).1)) else ((g_dec_wide_less k x9 x10 x6 x7).bind fun _ => some (false, (sub64 x9 x6 ((sub64 x10 x7 0).2)).1, (sub64 x10 x7 0).1)))) : Option (Bool × Int × Int)).bind fun (x13, x14, x15) => ((g_dec_num_tell k x13 x14 x15 x8).bind fun (x16, x17, x18) => some (x16, x17, x18))) else ((g_dec_wide_plus k x6 x7 x9 x10).bind fun x19 => (bif (!x19) then some (30, 0, 0) else ((g_dec_num_tell k (decide (x1 < 0)) ((add64 x6 x9 ((add64 x7 x10 0).2)).1) ((add64 x7 x10 0).1) x8).bind fun (x20, x21, x22) => some (x20, x21, x22)))))))
def g_dec_Sub (k : Nat) (x1 : Int) (x2 : Int) (x3 : Int) (x4 : Int) : Option (Int × Int × Int) := ((g_dec_clean k x1 x2 x3 x4).bind fun (x5, x6, x7, x8, x9) => (bif (!x5) then some (1, 0, 0) else ((some (decide (x8 = (-9223372036854775808)))).bind fun x10 => (bif x10 then ((g_dec_lowest k x6 x7 x8 x9).bind fun (x11, x12, x13) => some (x11, x12, x13)) else ((g_dec_Add k x6 x7 (IntKind.wrap .i64 (0 - x8)) x9).bind fun (x14, x15, x16) => some (x14, x15, x16))))))
def g_dec_Mul (k : Nat) (x1 : Int) (x2 : Int) (x3 : Int) (x4 : Int) : Option (Int × Int × Int) := ((g_dec_clean k x1 x2 x3 x4).bind fun (x5, x6, x7, x8, x9) => (bif (!x5) then some (1, 0, 0) else ((g_dec_size k x6).bind fun x10 => ((g_dec_size k x8).bind fun x11 => ((g_mb_Mul64 k x10 x11).bind fun x12 => ((some (!((decide (x6 < 0)) == (decide (x8 < 0))))).bind fun x13 => ((g_dec_num_tell k x13 x12 (IntKind.wrap .u64 (x10 * x11)) (IntKind.wrap .i64 (x7 + x9))).bind fun (x14, x15, x16) => some (x14, x15, x16))))))))
def g_dec_factors_l0 (k : Nat) (x1 : Int) : Nat → Int → Int → Option (Int × Int)
  | 0, _, _ => none
  | n + 1, x2, x3 => (bif (!(x1 == 0)) then (bif (decide ((Int.tmod x2 x1) = 0)) then (bif (!(x1 == 0)) then (g_dec_factors_l0 k x1 n (IntKind.wrap .u64 (Int.tdiv x2 x1)) (IntKind.wrap .i64 (x3 + 1))) else none) else some (x2, x3)) else none)
theorem g_dec_factors_l0_eqs : True := by have := @g_dec_factors_l0.eq_2; trivial
def g_dec_factors (k : Nat) (x1 : Int) (x2 : Int) : Option (Int × Int) := ((g_dec_factors_l0 k x2 k x1 0).bind fun (x3, x4) => some (x4, x3))
def g_dec_Div_l0 (k : Nat) : Nat → Int → Int → Option Int
  | 0, _, _ => none
  | n + 1, x1, x2 => (bif (!decide (x2 = 0)) then (bif (!(x2 == 0)) then (g_dec_Div_l0 k n x2 (Int.tmod x1 x2)) else none) else some x1)
theorem g_dec_Div_l0_eqs : True := by have := @g_dec_Div_l0.eq_2; trivial
def g_dec_Div_l1 (k : Nat) (x1 : Int) (x2 : Int) : Nat → Bool → Int → Int → Int → Option (Bool × Int × Int)
  | 0, _, _, _, _ => none
  | n + 1, x3, x4, x5, x6 => ((((some (decide (x4 < (IntKind.wrap .i64 (x2 - x1))))).bind fun x7 => (bif x7 then some x3 else some false)) : Option Bool).bind fun x8 => (bif x8 then ((g_dec_wide_times k x5 x6 2).bind fun (x9, x10) => (g_dec_Div_l1 k x1 x2 n x9 (IntKind.wrap .i64 (x4 + 1)) x10 (IntKind.wrap .u64 (x6 * 2)))) else some (x3, x5, x6)))
theorem g_dec_Div_l1_eqs : True := by have := @g_dec_Div_l1.eq_2; trivial
def g_dec_Div_l2 (k : Nat) (x1 : Int) (x2 : Int) : Nat → Bool → Int → Int → Int → Option (Bool × Int × Int)
  | 0, _, _, _, _ => none
  | n + 1, x3, x4, x5, x6 => ((((some (decide (x4 < (IntKind.wrap .i64 (x2 - x1))))).bind fun x7 => (bif x7 then some x3 else some false)) : Option Bool).bind fun x8 => (bif x8 then ((g_dec_wide_times k x5 x6 5).bind fun (x9, x10) => (g_dec_Div_l2 k x1 x2 n x9 (IntKind.wrap .i64 (x4 + 1)) x10 (IntKind.wrap .u64 (x6 * 5)))) else some (x3, x5, x6)))
theorem g_dec_Div_l2_eqs : True := by have := @g_dec_Div_l2.eq_2; trivial
def g_dec_Div (k : Nat) (x1 : Int) (x2 : Int) (x3 : Int) (x4 : Int) : Option (Int × Int × Int) := ((g_dec_clean k x1 x2 x3 x4).bind fun (x5, x6, x7, x8, x9) => (bif (!x5) then some (1, 0, 0) else (bif (decide (x8 = 0)) then some (31, 0, 0) else (bif (decide (x6 = 0)) then some (0, 0, 0) else ((g_dec_size k x6).bind fun x10 => ((g_dec_size k x8).bind fun x11 => ((g_dec_Div_l0 k k x10 x11).bind fun x12 => (bif (!(x12 == 0)) then ((g_dec_factors k (IntKind.wrap .u64 (Int.tdiv x11 x12)) 2).bind fun (x13, x14) => ((g_dec_factors k x14 5).bind fun (x15, x16) => (bif (!decide (x16 = 1)) then some (30, 0, 0) else ((some (if (x15 : Int) > x13 then (x15 : Int) else x13)).bind fun x17 => (bif (!(x12 == 0)) then ((g_dec_Div_l1 k x13 x17 k true 0 0 (IntKind.wrap .u64 (Int.tdiv x10 x12))).bind fun (x18, x19, x20) => ((g_dec_Div_l2 k x15 x17 k x18 0 x19 x20).bind fun (x21, x22, x23) => (bif (!x21) then some (30, 0, 0) else ((some (!((decide (x6 < 0)) == (decide (x8 < 0))))).bind fun x24 => ((some (IntKind.wrap .i64 ((IntKind.wrap .i64 (x7 - x9)) - x17))).bind fun x25 => ((g_dec_num_tell k x24 x22 x23 x25).bind fun (x26, x27, x28) => some (x26, x27, x28))))))) else none))))) else none))))))))
def g_dec_clean__b (k : Nat) (x1 : Int) (x2 : Int) : Option (Bool × Int × Int) := ((g_dec_ranged k ([(⟨x1, x2⟩ : S_api_Dec)] : List S_api_Dec)).bind fun x3 => (bif (!x3) then some (false, x1, x2) else ((g_dec_of k x1 x2).bind fun x4 => ((g_dec_num_tell k (decide (x1 < 0)) 0 x4 x2).bind fun (x5, x6, x7) => some (true, x6, x7)))))
def g_dec_Int (k : Nat) (x1 : Int) (x2 : Int) : Option (Int × Bool) := ((((g_dec_clean__b k x1 x2).bind fun (x3, x4, x5) => (bif (!x3) then some (true, x4, x5) else some ((decide (x5 < 0)), x4, x5))) : Option (Bool × Int × Int)).bind fun (x6, x7, x8) => (bif x6 then some (0, false) else ((((g_dec_size k x7).bind fun x9 => ((g_dec_wide_tens k 0 x9 x8).bind fun (x10, x11, x12) => some (x10, x11, x12))) : Option (Bool × Int × Int)).bind fun (x13, x14, x15) => (((bif (!x13) then some true else (bif (decide (0 < x14)) then some true else some (decide (9007199254740992 < x15)))) : Option Bool).bind fun x16 => (bif x16 then some (0, false) else (bif (decide (x7 < 0)) then ((some (IntKind.wrap .i64 (0 - (IntKind.wrap .i64 x15)))).bind fun x17 => some (x17, true)) else some ((IntKind.wrap .i64 x15), true)))))))
def g_dec_Pow_l0 (k : Nat) (x1 : Int) (x2 : Int) (x3 : Int) : Nat → Int → Int → Int → Int → Option (Int × Int × Int)
  | 0, _, _, _, _ => none
  | n + 1, x4, x5, x6, x7 => (((bif (decide (x5 < x1)) then some (decide (x4 = 0)) else some false) : Option Bool).bind fun x8 => (bif x8 then ((g_dec_Mul k x6 x7 x2 x3).bind fun (x9, x10, x11) => (g_dec_Pow_l0 k x1 x2 x3 n x9 (IntKind.wrap .i64 (x5 + 1)) x10 x11)) else some (x4, x6, x7)))
theorem g_dec_Pow_l0_eqs : True := by have := @g_dec_Pow_l0.eq_2; trivial
def g_dec_Pow (k : Nat) (x1 : Int) (x2 : Int) (x3 : Int) (x4 : Int) : Option (Int × Int × Int) := ((g_dec_clean k x1 x2 x3 x4).bind fun (x5, x6, x7, x8, x9) => (bif (!x5) then some (1, 0, 0) else ((g_dec_Int k x8 x9).bind fun (x10, x11) => (((bif (!x11) then some true else (bif (decide (x10 < (-64))) then some true else some (decide (64 < x10)))) : Option Bool).bind fun x12 => (bif x12 then some (30, 0, 0) else (((bif (decide (x10 < 0)) then ((g_dec_Div k 1 0 x6 x7).bind fun (x13, x14, x15) => (bif (!decide (x13 = 0)) then some (Sum.inl x13) else some (Sum.inr ((IntKind.wrap .i64 (0 - x10)), x14, x15)))) else some (Sum.inr (x10, x6, x7))) : Option (Int ⊕ (Int × Int × Int))).bind fun y1 => match y1 with | (Sum.inl x16) => some (x16, 0, 0) | (Sum.inr (x17, x18, x19)) => ((g_dec_Pow_l0 k x17 x18 x19 k 0 0 1 0).bind fun (x20, x21, x22) => some (x20, x21, x22))))))))
def g_val_sum (k : Nat) (x1 : Int) (x2 : Int) (x3 : Int) (x4 : Int) (x5 : Int) : Option (Int × Int × Int) := (bif (decide (x1 = 1)) then ((g_dec_Add k x2 x3 x4 x5).bind fun (x6, x7, x8) => some (x6, x7, x8)) else (bif (decide (x1 = 2)) then ((g_dec_Sub k x2 x3 x4 x5).bind fun (x9, x10, x11) => some (x9, x10, x11)) else (bif (decide (x1 = 3)) then ((g_dec_Mul k x2 x3 x4 x5).bind fun (x12, x13, x14) => some (x12, x13, x14)) else (bif (decide (x1 = 4)) then ((g_dec_Div k x2 x3 x4 x5).bind fun (x15, x16, x17) => some (x15, x16, x17)) else ((g_dec_Pow k x2 x3 x4 x5).bind fun (x18, x19, x20) => some (x18, x19, x20))))))
def g_mb_Mul (k : Nat) (x1 : Int) (x2 : Int) : Option Int := ((g_mb_Mul64 k x1 x2).bind fun x3 => some x3)
def g_st_HasPrefix (k : Nat) (x1 : ByteArray) (x2 : ByteArray) : Option Bool := ((g_sl_HasPrefix k x1 x2).bind fun x3 => some x3)
def g_st_Repeat (k : Nat) (x1 : ByteArray) (x2 : Int) : Option ByteArray := (bif (decide (x2 = 0)) then some (ByteArray.mk #[]) else (bif (decide (x2 = 1)) then some x1 else (bif (decide (x2 < 0)) then none else ((some (IntKind.wrap .u64 ((ByteArray.size x1 : Nat) : Int))).bind fun x3 => ((g_mb_Mul k x3 (IntKind.wrap .u64 x2)).bind fun x4 => (((bif (decide (0 < x4)) then some true else ((some (decide (9223372036854775807 < (IntKind.wrap .u64 (x3 * (IntKind.wrap .u64 x2)))))).bind fun x5 => some x5)) : Option Bool).bind fun x6 => (bif x6 then none else ((some (IntKind.wrap .i64 (IntKind.wrap .u64 (x3 * (IntKind.wrap .u64 x2))))).bind fun x7 => ((some (decide (((ByteArray.size x1 : Nat) : Int) = 0))).bind fun x8 => (bif x8 then some (ByteArray.mk #[]) else ((((ix (strInts x1) 0).bind fun x9 => (((bif (decide (x9 = 32)) then some (decide (x9 = 32)) else (bif (decide (x9 = 45)) then some (decide (x9 = 45)) else (bif (decide (x9 = 48)) then some (decide (x9 = 48)) else (bif (decide (x9 = 61)) then some (decide (x9 = 61)) else some (decide (x9 = 9)))))) : Option Bool).bind fun x10 => (bif x10 then (((bif (decide (x7 ≤ 128)) then ((g_st_HasPrefix k (ByteArray.mk #[32, 32, 32, 32, 32, 32, 32, 32, 32, 32, 32, 32, 32, 32, 32, 32, 32, 32, 32, 32, 32, 32, 32, 32, 32, 32, 32, 32, 32, 32, 32, 32, 32, 32, 32, 32, 32, 32, 32, 32, 32, 32, 32, 32, 32, 32, 32, 32, 32, 32, 32, 32, 32, 32, 32, 32, 32, 32, 32, 32, 32, 32, 32, 32, 32, 32, 32, 32, 32, 32, 32, 32, 32, 32, 32, 32, 32, 32, 32, 32, 32, 32, 32, 32, 32, 32, 32, 32, 32, 32, 32, 32, 32, 32, 32, 32, 32, 32, 32, 32, 32, 32, 32, 32, 32, 32, 32, 32, 32, 32, 32, 32, 32, 32, 32, 32, 32, 32, 32, 32, 32, 32, 32, 32, 32, 32, 32, 32]) x1).bind fun x11 => some x11) else some false) : Option Bool).bind fun x12 => (bif x12 then (bif (decide (0 ≤ (0 : Int) ∧ (0 : Int) ≤ x7 ∧ x7 ≤ ((ByteArray.size (ByteArray.mk #[32, 32, 32, 32, 32, 32, 32, 32, 32, 32, 32, 32, 32, 32, 32, 32, 32, 32, 32, 32, 32, 32, 32, 32, 32, 32, 32, 32, 32, 32, 32, 32, 32, 32, 32, 32, 32, 32, 32, 32, 32, 32, 32, 32, 32, 32, 32, 32, 32, 32, 32, 32, 32, 32, 32, 32, 32, 32, 32, 32, 32, 32, 32, 32, 32, 32, 32, 32, 32, 32, 32, 32, 32, 32, 32, 32, 32, 32, 32, 32, 32, 32, 32, 32, 32, 32, 32, 32, 32, 32, 32, 32, 32, 32, 32, 32, 32, 32, 32, 32, 32, 32, 32, 32, 32, 32, 32, 32, 32, 32, 32, 32, 32, 32, 32, 32, 32, 32, 32, 32, 32, 32, 32, 32, 32, 32, 32, 32]) : Nat) : Int))) then ((some (ByteArray.extract (ByteArray.mk #[32, 32, 32, 32, 32, 32, 32, 32, 32, 32, 32, 32, 32, 32, 32, 32, 32, 32, 32, 32, 32, 32, 32, 32, 32, 32, 32, 32, 32, 32, 32, 32, 32, 32, 32, 32, 32, 32, 32, 32, 32, 32, 32, 32, 32, 32, 32, 32, 32, 32, 32, 32, 32, 32, 32, 32, 32, 32, 32, 32, 32, 32, 32, 32, 32, 32, 32, 32, 32, 32, 32, 32, 32, 32, 32, 32, 32, 32, 32, 32, 32, 32, 32, 32, 32, 32, 32, 32, 32, 32, 32, 32, 32, 32, 32, 32, 32, 32, 32, 32, 32, 32, 32, 32, 32, 32, 32, 32, 32, 32, 32, 32, 32, 32, 32, 32, 32, 32, 32, 32, 32, 32, 32, 32, 32, 32, 32, 32]) (Int.toNat 0) (Int.toNat x7))).bind fun x13 => some (Sum.inl x13)) else none) else (((bif (decide (x7 ≤ 128)) then ((g_st_HasPrefix k (ByteArray.mk #[45, 45, 45, 45, 45, 45, 45, 45, 45, 45, 45, 45, 45, 45, 45, 45, 45, 45, 45, 45, 45, 45, 45, 45, 45, 45, 45, 45, 45, 45, 45, 45, 45, 45, 45, 45, 45, 45, 45, 45, 45, 45, 45, 45, 45, 45, 45, 45, 45, 45, 45, 45, 45, 45, 45, 45, 45, 45, 45, 45, 45, 45, 45, 45, 45, 45, 45, 45, 45, 45, 45, 45, 45, 45, 45, 45, 45, 45, 45, 45, 45, 45, 45, 45, 45, 45, 45, 45, 45, 45, 45, 45, 45, 45, 45, 45, 45, 45, 45, 45, 45, 45, 45, 45, 45, 45, 45, 45, 45, 45, 45, 45, 45, 45, 45, 45, 45, 45, 45, 45, 45, 45, 45, 45, 45, 45, 45, 45]) x1).bind fun x14 => some x14) else some false) : Option Bool).bind fun x15 => (bif x15 then (bif (decide (0 ≤ (0 : Int) ∧ (0 : Int) ≤ x7 ∧ x7 ≤ ((ByteArray.size (ByteArray.mk #[45, 45, 45, 45, 45, 45, 45, 45, 45, 45, 45, 45, 45, 45, 45, 45, 45, 45, 45, 45, 45, 45, 45, 45, 45, 45, 45, 45, 45, 45, 45, 45, 45, 45, 45, 45, 45, 45, 45, 45, 45, 45, 45, 45, 45, 45, 45, 45, 45, 45, 45, 45, 45, 45, 45, 45, 45, 45, 45, 45, 45, 45, 45, 45, 45, 45, 45, 45, 45, 45, 45, 45, 45, 45, 45, 45, 45, 45, 45, 45, 45, 45, 45, 45, 45, 45, 45, 45, 45, 45, 45, 45, 45, 45, 45, 45, 45, 45, 45, 45, 45, 45, 45, 45, 45, 45, 45, 45, 45, 45, 45, 45, 45, 45, 45, 45, 45, 45, 45, 45, 45, 45, 45, 45, 45, 45, 45, 45]) : Nat) : Int))) then ((some (ByteArray.extract (ByteArray.mk #[45, 45, 45, 45, 45, 45, 45, 45, 45, 45, 45, 45, 45, 45, 45, 45, 45, 45, 45, 45, 45, 45, 45, 45, 45, 45, 45, 45, 45, 45, 45, 45, 45, 45, 45, 45, 45, 45, 45, 45, 45, 45, 45, 45, 45, 45, 45, 45, 45, 45, 45, 45, 45, 45, 45, 45, 45, 45, 45, 45, 45, 45, 45, 45, 45, 45, 45, 45, 45, 45, 45, 45, 45, 45, 45, 45, 45, 45, 45, 45, 45, 45, 45, 45, 45, 45, 45, 45, 45, 45, 45, 45, 45, 45, 45, 45, 45, 45, 45, 45, 45, 45, 45, 45, 45, 45, 45, 45, 45, 45, 45, 45, 45, 45, 45, 45, 45, 45, 45, 45, 45, 45, 45, 45, 45, 45, 45, 45]) (Int.toNat 0) (Int.toNat x7))).bind fun x16 => some (Sum.inl x16)) else none) else (((bif (decide (x7 ≤ 64)) then ((g_st_HasPrefix k (ByteArray.mk #[48, 48, 48, 48, 48, 48, 48, 48, 48, 48, 48, 48, 48, 48, 48, 48, 48, 48, 48, 48, 48, 48, 48, 48, 48, 48, 48, 48, 48, 48, 48, 48, 48, 48, 48, 48, 48, 48, 48, 48, 48, 48, 48, 48, 48, 48, 48, 48, 48, 48, 48, 48, 48, 48, 48, 48, 48, 48, 48, 48, 48, 48, 48, 48]) x1).bind fun x17 => some x17) else some false) : Option Bool).bind fun x18 => (bif x18 then (bif (decide (0 ≤ (0 : Int) ∧ (0 : Int) ≤ x7 ∧ x7 ≤ ((ByteArray.size (ByteArray.mk #[48, 48, 48, 48, 48, 48, 48, 48, 48, 48, 48, 48, 48, 48, 48, 48, 48, 48, 48, 48, 48, 48, 48, 48, 48, 48, 48, 48, 48, 48, 48, 48, 48, 48, 48, 48, 48, 48, 48, 48, 48, 48, 48, 48, 48, 48, 48, 48, 48, 48, 48, 48, 48, 48, 48, 48, 48, 48, 48, 48, 48, 48, 48, 48]) : Nat) : Int))) then ((some (ByteArray.extract (ByteArray.mk #[48, 48, 48, 48, 48, 48, 48, 48, 48, 48, 48, 48, 48, 48, 48, 48, 48, 48, 48, 48, 48, 48, 48, 48, 48, 48, 48, 48, 48, 48, 48, 48, 48, 48, 48, 48, 48, 48, 48, 48, 48, 48, 48, 48, 48, 48, 48, 48, 48, 48, 48, 48, 48, 48, 48, 48, 48, 48, 48, 48, 48, 48, 48, 48]) (Int.toNat 0) (Int.toNat x7))).bind fun x19 => some (Sum.inl x19)) else none) else (((bif (decide (x7 ≤ 128)) then ((g_st_HasPrefix k (ByteArray.mk #[61, 61, 61, 61, 61, 61, 61, 61, 61, 61, 61, 61, 61, 61, 61, 61, 61, 61, 61, 61, 61, 61, 61, 61, 61, 61, 61, 61, 61, 61, 61, 61, 61, 61, 61, 61, 61, 61, 61, 61, 61, 61, 61, 61, 61, 61, 61, 61, 61, 61, 61, 61, 61, 61, 61, 61, 61, 61, 61, 61, 61, 61, 61, 61, 61, 61, 61, 61, 61, 61, 61, 61, 61, 61, 61, 61, 61, 61, 61, 61, 61, 61, 61, 61, 61, 61, 61, 61, 61, 61, 61, 61, 61, 61, 61, 61, 61, 61, 61, 61, 61, 61, 61, 61, 61, 61, 61, 61, 61, 61, 61, 61, 61, 61, 61, 61, 61, 61, 61, 61, 61, 61, 61, 61, 61, 61, 61, 61]) x1).bind fun x20 => some x20) else some false) : Option Bool).bind fun x21 => (bif x21 then (bif (decide (0 ≤ (0 : Int) ∧ (0 : Int) ≤ x7 ∧ x7 ≤ ((ByteArray.size (ByteArray.mk #[61, 61, 61, 61, 61, 61, 61, 61, 61, 61, 61, 61, 61, 61, 61, 61, 61, 61, 61, 61, 61, 61, 61, 61, 61, 61, 61, 61, 61, 61, 61, 61, 61, 61, 61, 61, 61, 61, 61, 61, 61, 61, 61, 61, 61, 61, 61, 61, 61, 61, 61, 61, 61, 61, 61, 61, 61, 61, 61, 61, 61, 61, 61, 61, 61, 61, 61, 61, 61, 61, 61, 61, 61, 61, 61, 61, 61, 61, 61, 61, 61, 61, 61, 61, 61, 61, 61, 61, 61, 61, 61, 61, 61, 61, 61, 61, 61, 61, 61, 61, 61, 61, 61, 61, 61, 61, 61, 61, 61, 61, 61, 61, 61, 61, 61, 61, 61, 61, 61, 61, 61, 61, 61, 61, 61, 61, 61, 61]) : Nat) : Int))) then ((some (ByteArray.extract (ByteArray.mk #[61, 61, 61, 61, 61, 61, 61, 61, 61, 61, 61, 61, 61, 61, 61, 61, 61, 61, 61, 61, 61, 61, 61, 61, 61, 61, 61, 61, 61, 61, 61, 61, 61, 61, 61, 61, 61, 61, 61, 61, 61, 61, 61, 61, 61, 61, 61, 61, 61, 61, 61, 61, 61, 61, 61, 61, 61, 61, 61, 61, 61, 61, 61, 61, 61, 61, 61, 61, 61, 61, 61, 61, 61, 61, 61, 61, 61, 61, 61, 61, 61, 61, 61, 61, 61, 61, 61, 61, 61, 61, 61, 61, 61, 61, 61, 61, 61, 61, 61, 61, 61, 61, 61, 61, 61, 61, 61, 61, 61, 61, 61, 61, 61, 61, 61, 61, 61, 61, 61, 61, 61, 61, 61, 61, 61, 61, 61, 61]) (Int.toNat 0) (Int.toNat x7))).bind fun x22 => some (Sum.inl x22)) else none) else (((bif (decide (x7 ≤ 64)) then ((g_st_HasPrefix k (ByteArray.mk #[9, 9, 9, 9, 9, 9, 9, 9, 9, 9, 9, 9, 9, 9, 9, 9, 9, 9, 9, 9, 9, 9, 9, 9, 9, 9, 9, 9, 9, 9, 9, 9, 9, 9, 9, 9, 9, 9, 9, 9, 9, 9, 9, 9, 9, 9, 9, 9, 9, 9, 9, 9, 9, 9, 9, 9, 9, 9, 9, 9, 9, 9, 9, 9]) x1).bind fun x23 => some x23) else some false) : Option Bool).bind fun x24 => (bif x24 then (bif (decide (0 ≤ (0 : Int) ∧ (0 : Int) ≤ x7 ∧ x7 ≤ ((ByteArray.size (ByteArray.mk #[9, 9, 9, 9, 9, 9, 9, 9, 9, 9, 9, 9, 9, 9, 9, 9, 9, 9, 9, 9, 9, 9, 9, 9, 9, 9, 9, 9, 9, 9, 9, 9, 9, 9, 9, 9, 9, 9, 9, 9, 9, 9, 9, 9, 9, 9, 9, 9, 9, 9, 9, 9, 9, 9, 9, 9, 9, 9, 9, 9, 9, 9, 9, 9]) : Nat) : Int))) then ((some (ByteArray.extract (ByteArray.mk #[9, 9, 9, 9, 9, 9, 9, 9, 9, 9, 9, 9, 9, 9, 9, 9, 9, 9, 9, 9, 9, 9, 9, 9, 9, 9, 9, 9, 9, 9, 9, 9, 9, 9, 9, 9, 9, 9, 9, 9, 9, 9, 9, 9, 9, 9, 9, 9, 9, 9, 9, 9, 9, 9, 9, 9, 9, 9, 9, 9, 9, 9, 9, 9]) (Int.toNat 0) (Int.toNat x7))).bind fun x25 => some (Sum.inl x25)) else none) else some (Sum.inr ()))))))))))) else some (Sum.inr ())))) : Option (ByteArray ⊕ Unit)).bind fun y1 => match y1 with | (Sum.inl x26) => some x26 | (Sum.inr _) => (((bif (decide (8192 < x7)) then (bif (!(((ByteArray.size x1 : Nat) : Int) == 0)) then ((some (IntKind.wrap .i64 (Int.tdiv 8192 ((ByteArray.size x1 : Nat) : Int)))).bind fun x27 => ((some (IntKind.wrap .i64 (x27 * ((ByteArray.size x1 : Nat) : Int)))).bind fun x28 => (bif (decide (x28 = 0)) then some ((ByteArray.size x1 : Nat) : Int) else some x28))) else none) else some x7) : Option Int).bind fun x29 => none))))))))))))
def g_dec_Print_l0 (k : Nat) : Nat → ByteArray → Int → Option ByteArray
  | 0, _, _ => none
  | n + 1, x1, x2 => (bif (decide (0 < x2)) then ((some (IntKind.wrap .u64 (48 + (Int.tmod x2 10)))).bind fun x3 => (bif (decide (ByteArray.size (strOf ([(IntKind.wrap .u8 x3)] : List Int)) + ByteArray.size x1 ≤ 9223372036854775807)) then (g_dec_Print_l0 k n ((strOf ([(IntKind.wrap .u8 x3)] : List Int)) ++ x1) (IntKind.wrap .u64 (Int.tdiv x2 10))) else none)) else some x1)
theorem g_dec_Print_l0_eqs : True := by have := @g_dec_Print_l0.eq_2; trivial
def g_dec_Print (k : Nat) (x1 : Int) (x2 : Int) : Option ByteArray := ((g_dec_clean__b k x1 x2).bind fun (x3, x4, x5) => (bif (!x3) then some (ByteArray.mk #[63]) else ((g_dec_size k x4).bind fun x6 => ((g_dec_Print_l0 k k (ByteArray.mk #[]) x6).bind fun x7 => (((bif (decide (x4 = 0)) then some (ByteArray.mk #[48]) else (bif (decide (0 < x5)) then ((g_st_Repeat k (ByteArray.mk #[48]) x5).bind fun x8 => (bif (decide (ByteArray.size x7 + ByteArray.size x8 ≤ 9223372036854775807)) then some (x7 ++ x8) else none)) else (bif (decide (x5 < 0)) then ((some (IntKind.wrap .i64 ((IntKind.wrap .i64 (1 - x5)) - ((ByteArray.size x7 : Nat) : Int)))).bind fun x9 => ((some (if (0 : Int) > x9 then (0 : Int) else x9)).bind fun x10 => ((g_st_Repeat k (ByteArray.mk #[48]) x10).bind fun x11 => (bif (decide (ByteArray.size x11 + ByteArray.size x7 ≤ 9223372036854775807)) then ((some ((ByteArray.size (x11 ++ x7) : Nat) : Int)).bind fun x12 => ((some ((ByteArray.size (x11 ++ x7) : Nat) : Int)).bind fun x13 => (bif (decide (0 ≤ (0 : Int) ∧ (0 : Int) ≤ (IntKind.wrap .i64 (x12 + x5)) ∧ (IntKind.wrap .i64 (x12 + x5)) ≤ ((ByteArray.size (x11 ++ x7) : Nat) : Int))) then ((some (ByteArray.extract (x11 ++ x7) (Int.toNat 0) (Int.toNat (IntKind.wrap .i64 (x12 + x5))))).bind fun x14 => (bif (decide (ByteArray.size x14 + ByteArray.size (ByteArray.mk #[46]) ≤ 9223372036854775807)) then (bif (decide (0 ≤ ((IntKind.wrap .i64 (x13 + x5)) : Int) ∧ ((IntKind.wrap .i64 (x13 + x5)) : Int) ≤ ((ByteArray.size (x11 ++ x7) : Nat) : Int) ∧ ((ByteArray.size (x11 ++ x7) : Nat) : Int) ≤ ((ByteArray.size (x11 ++ x7) : Nat) : Int))) then ((some (ByteArray.extract (x11 ++ x7) (Int.toNat (IntKind.wrap .i64 (x13 + x5))) (Int.toNat ((ByteArray.size (x11 ++ x7) : Nat) : Int)))).bind fun x15 => (bif (decide (ByteArray.size (x14 ++ (ByteArray.mk #[46])) + ByteArray.size x15 ≤ 9223372036854775807)) then some ((x14 ++ (ByteArray.mk #[46])) ++ x15) else none)) else none) else none)) else none))) else none)))) else some x7))) : Option ByteArray).bind fun x16 => (((bif (decide (x4 < 0)) then (bif (decide (ByteArray.size (ByteArray.mk #[45]) + ByteArray.size x16 ≤ 9223372036854775807)) then some ((ByteArray.mk #[45]) ++ x16) else none) else some x16) : Option ByteArray).bind fun x17 => some x17))))))
def g_val_Show (k : Nat) (x1 : Int) (x2 : Int) (x3 : Int) (x4 : ByteArray) (x5 : Bool) (x6 : Int) : Option ByteArray := ((g_val_clean k x1 x2 x3 x4 x5 x6).bind fun (x7, x8, x9, x10, x11, x12) => (bif (decide (x7 = 1)) then ((g_dec_Print k x8 x9).bind fun x13 => some x13) else (bif (decide (x7 = 3)) then (bif x11 then some (ByteArray.mk #[84, 82, 85, 69]) else some (ByteArray.mk #[70, 65, 76, 83, 69])) else ((g_val_ErrName k x12).bind fun x14 => (bif (decide (ByteArray.size x10 + ByteArray.size x14 ≤ 9223372036854775807)) then some (x10 ++ x14) else none)))))
def g_val_beside (k : Nat) (x1 : Int) (x2 : Int) (x3 : Int) (x4 : ByteArray) (x5 : Bool) (x6 : Int) (x7 : Int) (x8 : Int) (x9 : Int) (x10 : ByteArray) (x11 : Bool) (x12 : Int) : Option (Int × Int × Int × ByteArray × Bool × Int) := (((bif (decide (x1 = 0)) then some (!decide (x7 = 0)) else some false) : Option Bool).bind fun x13 => (bif x13 then some (x7, 0, 0, (ByteArray.mk #[]), false, 0) else some (x1, x2, x3, x4, x5, x6)))
def g_cmp_isNaN_int (k : Nat) (x1 : Int) : Option Unit := some ()
def g_cmp_Compare_int (k : Nat) (x1 : Int) (x2 : Int) : Option Int := ((g_cmp_isNaN_int k x1).bind fun _ => ((g_cmp_isNaN_int k x2).bind fun _ => (bif (!decide (x1 = x1)) then (bif (!decide (x2 = x2)) then some 0 else some (-1)) else (bif (!decide (x2 = x2)) then some 1 else (bif (decide (x1 < x2)) then some (-1) else (bif (decide (x2 < x1)) then some 1 else some 0))))))
def g_dec_sign (k : Nat) (x1 : Int) (x2 : Int) : Option Int := (bif (decide (x1 < 0)) then some (-1) else (bif (decide (0 < x1)) then some 1 else some 0))
def g_dec_digits_l0 (k : Nat) : Nat → Int → Int → Option Int
  | 0, _, _ => none
  | n + 1, x1, x2 => (bif (decide (0 < x1)) then (g_dec_digits_l0 k n (IntKind.wrap .u64 (Int.tdiv x1 10)) (IntKind.wrap .i64 (x2 + 1))) else some x2)
theorem g_dec_digits_l0_eqs : True := by have := @g_dec_digits_l0.eq_2; trivial
def g_dec_digits (k : Nat) (x1 : Int) : Option Int := ((g_dec_digits_l0 k k x1 0).bind fun x2 => some x2)
def g_dec_Cmp (k : Nat) (x1 : Int) (x2 : Int) (x3 : Int) (x4 : Int) : Option Int := ((g_dec_clean k x1 x2 x3 x4).bind fun (x5, x6, x7, x8, x9) => (bif (!x5) then some 0 else ((g_dec_sign k x6 x7).bind fun x10 => ((g_dec_sign k x8 x9).bind fun x11 => (((bif (!decide (x10 = x11)) then some true else some (decide (x10 = 0))) : Option Bool).bind fun x12 => (bif x12 then ((some (if ((-1) : Int) > (IntKind.wrap .i64 (x10 - x11)) then ((-1) : Int) else (IntKind.wrap .i64 (x10 - x11)))).bind fun x13 => ((some (if (1 : Int) < x13 then (1 : Int) else x13)).bind fun x14 => some x14)) else ((g_dec_size k x6).bind fun x15 => ((g_dec_digits k x15).bind fun x16 => ((g_dec_size k x8).bind fun x17 => ((g_dec_digits k x17).bind fun x18 => ((some (!decide ((IntKind.wrap .i64 (x16 + x7)) = (IntKind.wrap .i64 (x18 + x9))))).bind fun x19 => (bif x19 then ((some (IntKind.wrap .i64 ((IntKind.wrap .i64 (x16 + x7)) - (IntKind.wrap .i64 (x18 + x9))))).bind fun x20 => ((some (if ((-1) : Int) > x20 then ((-1) : Int) else x20)).bind fun x21 => ((some (if (1 : Int) < x21 then (1 : Int) else x21)).bind fun x22 => some (IntKind.wrap .i64 (x10 * x22))))) else ((g_dec_even k x6 x7 x8 x9).bind fun (x23, x24, x25, x26, x27, x28, x29) => ((g_dec_wide_cmp k x24 x25 x27 x28).bind fun x30 => some (IntKind.wrap .i64 (x10 * x30))))))))))))))))
def g_utf_turned_l0 (k : Nat) (x1 : ByteArray) (x2 : Int) (x3 : Int) (x4 : Int) : Nat → Int → (List Int) → Option (List Int)
  | 0, _, _ => none
  | n + 1, x5, x6 => ((some (decide (x5 < ((List.length (strInts x1) : Nat) : Int)))).bind fun x7 => (bif x7 then ((((ix x6 x5).bind fun x8 => (((bif (decide (x2 ≤ x8)) then some (decide (x8 ≤ x3)) else some false) : Option Bool).bind fun x9 => (bif x9 then ((some (IntKind.wrap .i64 ((IntKind.wrap .i64 x8) + x4))).bind fun x10 => ((ix x6 x5).bind fun x11 => some (List.set x6 (Int.toNat x5) (IntKind.wrap .u8 x10)))) else some x6))) : Option (List Int)).bind fun x12 => (g_utf_turned_l0 k x1 x2 x3 x4 n (IntKind.wrap .i64 (x5 + 1)) x12)) else some x6))
theorem g_utf_turned_l0_eqs : True := by have := @g_utf_turned_l0.eq_2; trivial
def g_utf_turned (k : Nat) (x1 : ByteArray) (x2 : Int) (x3 : Int) (x4 : Int) : Option ByteArray := (bif (decide (ByteArray.size x1 ≤ 140737488355328)) then ((g_utf_turned_l0 k x1 x2 x3 x4 k 0 (strInts x1)).bind fun x5 => some (strOf x5)) else none)
def g_utf_Lower (k : Nat) (x1 : ByteArray) : Option ByteArray := ((g_utf_turned k x1 65 90 32).bind fun x2 => some x2)
def g_cmp_isNaN_string (k : Nat) (x1 : ByteArray) : Option Unit := some ()
def g_cmp_Compare_string (k : Nat) (x1 : ByteArray) (x2 : ByteArray) : Option Int := ((g_cmp_isNaN_string k x1).bind fun _ => ((g_cmp_isNaN_string k x2).bind fun _ => (bif (!(x1.toList == x1.toList)) then (bif (!(x2.toList == x2.toList)) then some 0 else some (-1)) else (bif (!(x2.toList == x2.toList)) then some 1 else (bif (Op.bytesLess x1.toList x2.toList) then some (-1) else ((some (!Op.bytesLess x1.toList x2.toList && !(x1.toList == x2.toList))).bind fun x3 => (bif x3 then some 1 else some 0)))))))
def g_val_ones (k : Nat) (x1 : Bool) : Option Int := (bif x1 then some 1 else some 0)
def g_cmp_Or_int_l0 (k : Nat) (x1 : (List Int)) : Nat → Int → Option (Int ⊕ Unit)
  | 0, _ => none
  | n + 1, x2 => ((some (decide (x2 < ((List.length x1 : Nat) : Int)))).bind fun x3 => (bif x3 then ((ix x1 x2).bind fun x4 => (bif (!decide (x4 = 0)) then some (Sum.inl x4) else (g_cmp_Or_int_l0 k x1 n (IntKind.wrap .i64 (x2 + 1))))) else some (Sum.inr ())))
theorem g_cmp_Or_int_l0_eqs : True := by have := @g_cmp_Or_int_l0.eq_2; trivial
def g_cmp_Or_int (k : Nat) (x1 : (List Int)) : Option Int := (((g_cmp_Or_int_l0 k x1 k 0) : Option (Int ⊕ Unit)).bind fun y1 => match y1 with | (Sum.inl x2) => some x2 | (Sum.inr _) => some 0)
def g_val_Cmp (k : Nat) (x1 : Int) (x2 : Int) (x3 : Int) (x4 : ByteArray) (x5 : Bool) (x6 : Int) (x7 : Int) (x8 : Int) (x9 : Int) (x10 : ByteArray) (x11 : Bool) (x12 : Int) : Option Int := ((g_val_clean k x1 x2 x3 x4 x5 x6).bind fun (x13, x14, x15, x16, x17, x18) => ((g_val_clean k x7 x8 x9 x10 x11 x12).bind fun (x19, x20, x21, x22, x23, x24) => (((bif (decide (x13 = 4)) then some true else some (decide (x19 = 4))) : Option Bool).bind fun x25 => (bif x25 then some 0 else ((g_val_beside k x13 x14 x15 x16 x17 x18 x19 x20 x21 x22 x23 x24).bind fun (x26, x27, x28, x29, x30, x31) => ((g_val_beside k x19 x20 x21 x22 x23 x24 x13 x14 x15 x16 x17 x18).bind fun (x32, x33, x34, x35, x36, x37) => ((g_cmp_Compare_int k x26 x32).bind fun x38 => ((g_dec_Cmp k x27 x28 x33 x34).bind fun x39 => ((g_utf_Lower k x29).bind fun x40 => ((g_utf_Lower k x35).bind fun x41 => ((g_cmp_Compare_string k x40 x41).bind fun x42 => ((g_val_ones k x30).bind fun x43 => ((g_val_ones k x36).bind fun x44 => ((g_cmp_Compare_int k x43 x44).bind fun x45 => ((g_cmp_Or_int k ([x38, x39, x42, x45] : List Int)).bind fun x46 => some x46)))))))))))))))
def g_val_Bin (k : Nat) (x1 : Int) (x2 : Int) (x3 : Int) (x4 : Int) (x5 : ByteArray) (x6 : Bool) (x7 : Int) (x8 : Int) (x9 : Int) (x10 : Int) (x11 : ByteArray) (x12 : Bool) (x13 : Int) : Option (Int × Int × Int × ByteArray × Bool × Int) := ((g_val_clean k x2 x3 x4 x5 x6 x7).bind fun (x14, x15, x16, x17, x18, x19) => ((g_val_clean k x8 x9 x10 x11 x12 x13).bind fun (x20, x21, x22, x23, x24, x25) => (((((bif (decide (1 ≤ x1)) then (bif (decide (x1 ≤ 5)) then (bif (!decide (x14 = 4)) then some (!decide (x20 = 4)) else some false) else some false) else some false) : Option Bool).bind fun x26 => (bif x26 then ((g_val_Num k x14 x15 x16 x17 x18 x19).bind fun (x27, x28, x29, x30, x31, x32) => ((g_val_Num k x20 x21 x22 x23 x24 x25).bind fun (x33, x34, x35, x36, x37, x38) => some (x27, x28, x29, x30, x31, x32, x33, x34, x35, x36, x37, x38))) else some (x14, x15, x16, x17, x18, x19, x20, x21, x22, x23, x24, x25))) : Option (Int × Int × Int × ByteArray × Bool × Int × Int × Int × Int × ByteArray × Bool × Int)).bind fun (x39, x40, x41, x42, x43, x44, x45, x46, x47, x48, x49, x50) => (bif (decide (x39 = 4)) then some (x39, x40, x41, x42, x43, x44) else (bif (decide (x45 = 4)) then some (x45, x46, x47, x48, x49, x50) else (((bif (decide (1 ≤ x1)) then some (decide (x1 ≤ 5)) else some false) : Option Bool).bind fun x51 => (bif x51 then ((g_val_sum k x1 x40 x41 x46 x47).bind fun (x52, x53, x54) => ((g_val_Of k x53 x54 x52).bind fun (x55, x56, x57, x58) => some (x55, x56, x57, (ByteArray.mk #[]), false, x58))) else (bif (decide (x1 = 6)) then ((g_val_Show k x39 x40 x41 x42 x43 x44).bind fun x59 => ((g_val_Show k x45 x46 x47 x48 x49 x50).bind fun x60 => (bif (decide (ByteArray.size x59 + ByteArray.size x60 ≤ 9223372036854775807)) then ((g_val_Str k (x59 ++ x60)).bind fun (x61, x62, x63) => some (x61, 0, 0, x62, false, x63)) else none))) else ((g_val_Cmp k x39 x40 x41 x42 x43 x44 x45 x46 x47 x48 x49 x50).bind fun x64 => (bif (decide (x1 = 7)) then ((g_val_Truth k (decide (x64 = 0))).bind fun _ => some (3, 0, 0, (ByteArray.mk #[]), (decide (x64 = 0)), 0)) else (bif (decide (x1 = 8)) then ((g_val_Truth k (!decide (x64 = 0))).bind fun _ => some (3, 0, 0, (ByteArray.mk #[]), (!decide (x64 = 0)), 0)) else (bif (decide (x1 = 9)) then ((g_val_Truth k (decide (x64 < 0))).bind fun _ => some (3, 0, 0, (ByteArray.mk #[]), (decide (x64 < 0)), 0)) else (bif (decide (x1 = 10)) then ((g_val_Truth k (decide (x64 ≤ 0))).bind fun _ => some (3, 0, 0, (ByteArray.mk #[]), (decide (x64 ≤ 0)), 0)) else (bif (decide (x1 = 11)) then ((g_val_Truth k (decide (0 < x64))).bind fun _ => some (3, 0, 0, (ByteArray.mk #[]), (decide (0 < x64)), 0)) else (bif (decide (x1 = 12)) then ((g_val_Truth k (decide (0 ≤ x64))).bind fun _ => some (3, 0, 0, (ByteArray.mk #[]), (decide (0 ≤ x64)), 0)) else ((g_val_Err k 2).bind fun x65 => some (4, 0, 0, (ByteArray.mk #[]), false, x65)))))))))))))))))
def g_quirelaw13_num (k : Nat) (x1 : Int) : Option Unit := some ()
def g_quirelaw13_alive (k : Nat) : Option Bool := ((((g_val_Str k (ByteArray.mk #[50])).bind fun (x1, x2, x3) => ((g_val_Truth k true).bind fun _ => ((g_val_Bin k 1 x1 0 0 x2 false x3 3 0 0 (ByteArray.mk #[]) true 0).bind fun (x4, x5, x6, x7, x8, x9) => ((g_quirelaw13_num k 3).bind fun _ => ((some ((decide (x4 = 1)) && (((decide (x5 = 3)) && ((decide (x6 = 0)) && true)) && ((ByteArray.toList x7 == ByteArray.toList (ByteArray.mk #[])) && ((x8 == false) && ((decide (x9 = 0)) && true)))))).bind fun x10 => (bif x10 then ((g_quirelaw13_num k 1).bind fun _ => ((g_quirelaw13_num k 0).bind fun _ => ((g_val_Bin k 4 1 1 0 (ByteArray.mk #[]) false 0 1 0 0 (ByteArray.mk #[]) false 0).bind fun (x11, x12, x13, x14, x15, x16) => ((g_val_Err k 1).bind fun x17 => ((some ((decide (x11 = 4)) && (((decide (x12 = 0)) && ((decide (x13 = 0)) && true)) && ((ByteArray.toList x14 == ByteArray.toList (ByteArray.mk #[])) && ((x15 == false) && ((decide (x16 = x17)) && true)))))).bind fun x18 => (bif x18 then ((g_val_Str k (ByteArray.mk #[97])).bind fun (x19, x20, x21) => ((g_val_Str k (ByteArray.mk #[65])).bind fun (x22, x23, x24) => ((g_val_Cmp k x19 0 0 x20 false x21 x22 0 0 x23 false x24).bind fun x25 => (bif (decide (x25 = 0)) then ((g_val_Typed k (ByteArray.mk #[39, 49, 50])).bind fun (x26, x27, x28, x29, x30, x31) => ((g_val_Str k (ByteArray.mk #[49, 50])).bind fun (x32, x33, x34) => ((some ((decide (x26 = x32)) && (((decide (x27 = 0)) && ((decide (x28 = 0)) && true)) && ((ByteArray.toList x29 == ByteArray.toList x33) && ((x30 == false) && ((decide (x31 = x34)) && true)))))).bind fun x35 => (bif x35 then ((g_val_Str k (ByteArray.mk #[120])).bind fun (x36, x37, x38) => ((some (x37.toList == (ByteArray.mk #[120]).toList)).bind fun x39 => (bif x39 then ((g_val_Err k 6).bind fun x40 => ((g_val_Show k 4 0 0 (ByteArray.mk #[]) false x40).bind fun x41 => ((some (x41.toList == (ByteArray.mk #[35, 78, 47, 65]).toList)).bind fun x42 => some x42))) else some false))) else some false)))) else some false)))) else some false)))))) else some false)))))) : Option Bool).bind fun x43 => some x43)
def g_dec_Neg (k : Nat) (x1 : Int) (x2 : Int) : Option (Int × Int × Int) := ((g_dec_ranged k ([(⟨x1, x2⟩ : S_api_Dec)] : List S_api_Dec)).bind fun x3 => (bif (!x3) then some (1, 0, 0) else ((g_dec_of k x1 x2).bind fun x4 => ((g_dec_num_tell k (!(decide (x1 < 0))) 0 x4 x2).bind fun (x5, x6, x7) => some (x5, x6, x7)))))
def g_val_Neg (k : Nat) (x1 : Int) (x2 : Int) (x3 : Int) (x4 : ByteArray) (x5 : Bool) (x6 : Int) : Option (Int × Int × Int × ByteArray × Bool × Int) := ((g_val_Num k x1 x2 x3 x4 x5 x6).bind fun (x7, x8, x9, x10, x11, x12) => (bif (decide (x7 = 4)) then some (x7, x8, x9, x10, x11, x12) else ((g_dec_Neg k x8 x9).bind fun (x13, x14, x15) => ((g_val_Of k x14 x15 x13).bind fun (x16, x17, x18, x19) => some (x16, x17, x18, (ByteArray.mk #[]), false, x19)))))
def g_val_Pct (k : Nat) (x1 : Int) (x2 : Int) (x3 : Int) (x4 : ByteArray) (x5 : Bool) (x6 : Int) : Option (Int × Int × Int × ByteArray × Bool × Int) := ((g_val_Num k x1 x2 x3 x4 x5 x6).bind fun (x7, x8, x9, x10, x11, x12) => (bif (decide (x7 = 4)) then some (x7, x8, x9, x10, x11, x12) else ((g_dec_Mul k x8 x9 1 (-2)).bind fun (x13, x14, x15) => ((g_val_Of k x14 x15 x13).bind fun (x16, x17, x18, x19) => some (x16, x17, x18, (ByteArray.mk #[]), false, x19)))))
def g_val_Text (k : Nat) (x1 : Int) (x2 : Int) (x3 : Int) (x4 : ByteArray) (x5 : Bool) (x6 : Int) : Option (Int × Int × Int × ByteArray × Bool × Int) := ((g_val_clean k x1 x2 x3 x4 x5 x6).bind fun (x7, x8, x9, x10, x11, x12) => (bif (decide (x7 = 4)) then some (x7, x8, x9, x10, x11, x12) else ((g_val_Show k x7 x8 x9 x10 x11 x12).bind fun x13 => ((g_val_Str k x13).bind fun (x14, x15, x16) => some (x14, 0, 0, x15, false, x16)))))
def g_utf_Upper (k : Nat) (x1 : ByteArray) : Option ByteArray := ((g_utf_turned k x1 97 122 (-32)).bind fun x2 => some x2)
def g_val_Bool (k : Nat) (x1 : Int) (x2 : Int) (x3 : Int) (x4 : ByteArray) (x5 : Bool) (x6 : Int) : Option (Int × Int × Int × ByteArray × Bool × Int) := ((g_val_clean k x1 x2 x3 x4 x5 x6).bind fun (x7, x8, x9, x10, x11, x12) => (((bif (decide (x7 = 1)) then some (decide (x7 = 1)) else some (decide (x7 = 0))) : Option Bool).bind fun x13 => (bif x13 then ((g_val_Truth k (!decide (x8 = 0))).bind fun _ => some (3, 0, 0, (ByteArray.mk #[]), (!decide (x8 = 0)), 0)) else (bif (decide (x7 = 2)) then ((g_utf_Upper k x10).bind fun x14 => ((some (x14.toList == (ByteArray.mk #[84, 82, 85, 69]).toList)).bind fun x15 => (bif x15 then ((g_val_Truth k true).bind fun _ => some (3, 0, 0, (ByteArray.mk #[]), true, 0)) else ((some (x14.toList == (ByteArray.mk #[70, 65, 76, 83, 69]).toList)).bind fun x16 => (bif x16 then ((g_val_Truth k false).bind fun _ => some (3, 0, 0, (ByteArray.mk #[]), false, 0)) else ((g_val_Err k 2).bind fun x17 => some (4, 0, 0, (ByteArray.mk #[]), false, x17))))))) else some (x7, x8, x9, x10, x11, x12)))))
def g_quirelaw13_ValRight (k : Nat) (x1 : Int) (x2 : Int) (x3 : Int) (x4 : Int) (x5 : ByteArray) (x6 : Bool) (x7 : Int) (x8 : Int) (x9 : Int) (x10 : Int) (x11 : ByteArray) (x12 : Bool) (x13 : Int) (x14 : ByteArray) : Option Bool := ((((g_val_Bin k x1 x2 x3 x4 x5 x6 x7 x8 x9 x10 x11 x12 x13).bind fun (x15, x16, x17, x18, x19, x20) => ((g_val_Right k x15 x16 x17 x18 x19 x20).bind fun x21 => (bif x21 then ((g_val_Num k x2 x3 x4 x5 x6 x7).bind fun (x22, x23, x24, x25, x26, x27) => ((g_val_Right k x22 x23 x24 x25 x26 x27).bind fun x28 => (bif x28 then ((g_val_Text k x2 x3 x4 x5 x6 x7).bind fun (x29, x30, x31, x32, x33, x34) => ((g_val_Right k x29 x30 x31 x32 x33 x34).bind fun x35 => (bif x35 then ((g_val_Bool k x2 x3 x4 x5 x6 x7).bind fun (x36, x37, x38, x39, x40, x41) => ((g_val_Right k x36 x37 x38 x39 x40 x41).bind fun x42 => (bif x42 then ((g_val_Neg k x2 x3 x4 x5 x6 x7).bind fun (x43, x44, x45, x46, x47, x48) => ((g_val_Right k x43 x44 x45 x46 x47 x48).bind fun x49 => (bif x49 then ((g_val_Pct k x2 x3 x4 x5 x6 x7).bind fun (x50, x51, x52, x53, x54, x55) => ((g_val_Right k x50 x51 x52 x53 x54 x55).bind fun x56 => (bif x56 then ((g_val_Typed k x14).bind fun (x57, x58, x59, x60, x61, x62) => ((g_val_Right k x57 x58 x59 x60 x61 x62).bind fun x63 => (bif x63 then ((g_val_Str k x14).bind fun (x64, x65, x66) => ((g_val_Right k x64 0 0 x65 false x66).bind fun x67 => (bif x67 then ((g_val_Err k x1).bind fun x68 => ((g_val_Right k 4 0 0 (ByteArray.mk #[]) false x68).bind fun x69 => (bif x69 then ((g_quirelaw13_alive k).bind fun x70 => some x70) else some false))) else some false))) else some false))) else some false))) else some false))) else some false))) else some false))) else some false))) else some false))) : Option Bool).bind fun x71 => some x71)
end Go.Proofs.YthpcgknknpjpdaaGreatDoor.W
namespace Go.Proofs.YthpcgknknpjpdaaGreatDoor.W
open Go Go.Q Go.Proofs
set_option linter.unusedVariables false
set_option linter.unusedSimpArgs false
theorem g_mb_Mul64_mono {k k' : Nat} (hk : k ≤ k') {x1 : Int} {x2 : Int} : Le (g_mb_Mul64 k x1 x2) (g_mb_Mul64 k' x1 x2) := by
  unfold g_mb_Mul64
  repeat' first | (with_reducible first | exact Le.rfl | refine Le.bind ?_ ?_ | refine Le.cond ?_ ?_) | intro _ | split
theorem g_sl_HasPrefix_mono {k k' : Nat} (hk : k ≤ k') {x1 : ByteArray} {x2 : ByteArray} : Le (g_sl_HasPrefix k x1 x2) (g_sl_HasPrefix k' x1 x2) := by
  unfold g_sl_HasPrefix
  repeat' first | (with_reducible first | exact Le.rfl | refine Le.bind ?_ ?_ | refine Le.cond ?_ ?_) | intro _ | split
theorem g_mb_Mul_mono {k k' : Nat} (hk : k ≤ k') {x1 : Int} {x2 : Int} : Le (g_mb_Mul k x1 x2) (g_mb_Mul k' x1 x2) := by
  unfold g_mb_Mul
  repeat' first | (with_reducible exact Le.rfl) | (with_reducible exact g_mb_Mul64_mono hk) | (with_reducible refine Le.bind ?_ ?_) | (with_reducible refine Le.cond ?_ ?_) | intro _ | split
theorem g_st_HasPrefix_mono {k k' : Nat} (hk : k ≤ k') {x1 : ByteArray} {x2 : ByteArray} : Le (g_st_HasPrefix k x1 x2) (g_st_HasPrefix k' x1 x2) := by
  unfold g_st_HasPrefix
  repeat' first | (with_reducible exact Le.rfl) | (with_reducible exact g_sl_HasPrefix_mono hk) | (with_reducible refine Le.bind ?_ ?_) | (with_reducible refine Le.cond ?_ ?_) | intro _ | split
theorem g_st_Repeat_mono {k k' : Nat} (hk : k ≤ k') {x1 : ByteArray} {x2 : Int} : Le (g_st_Repeat k x1 x2) (g_st_Repeat k' x1 x2) := by
  unfold g_st_Repeat
  repeat' first | (with_reducible exact Le.rfl) | (with_reducible exact g_mb_Mul_mono hk) | (with_reducible exact g_st_HasPrefix_mono hk) | (with_reducible refine Le.bind ?_ ?_) | (with_reducible refine Le.cond ?_ ?_) | intro _ | split
end Go.Proofs.YthpcgknknpjpdaaGreatDoor.W
namespace Go.Proofs.YthpcgknknpjpdaaGreatDoor.W
open Go Go.Q Go.Proofs
set_option linter.unusedVariables false
set_option linter.unusedSimpArgs false
set_option maxRecDepth 100000
theorem mixed : Tryz.prog.follows .mixedOrders = true := rfl
theorem rowsA {m : Ro} : rows rdS_unicode_utf8_acceptRange m tabA vs1 := by
  have : ∀ l : List (Int × Int), rows rdS_unicode_utf8_acceptRange m (l.map fun p => ⟨p.1, p.2⟩) (l.flatMap fun p => [Value.int .u8 p.1, Value.int .u8 p.2]) := by
    intro l
    induction l with
    | nil => trivial
    | cons p l ih => exact ⟨⟨[_], [_], rfl, rfl, [_], [], rfl, rfl, rfl⟩, ih⟩
  exact this tab1
theorem sz9 : SzIs Tryz.prog 9 1 := ⟨Tryz.t9, rfl, rfl⟩
theorem li26 : LitIs Tryz.prog 26 9 1 [.string (ByteArray.mk #[])] := ⟨Tryz.underlying26, ⟨Tryz.t9, _, rfl, rfl, rfl, rfl⟩, by intro v hv; simp at hv; (try rcases hv with rfl | hv) <;> first | rfl | (subst hv; rfl) | simp_all [Value.oneCell']⟩
theorem fn44 : FnIs Tryz.prog 44 := ⟨_, Tryz.func44, rfl, by kernel_rfl⟩
theorem sl26 : SlIs Tryz.prog 26 9 1 := ⟨Tryz.underlying26, sz9⟩
theorem sc9 : Sc Tryz.prog 9 := ⟨_, Tryz.t9, Tryz.underlying9, rfl, rfl, trivial⟩
theorem fn43 : FnIs Tryz.prog 43 := ⟨_, Tryz.func43, rfl, by kernel_rfl⟩
theorem fn9 : FnIs Tryz.prog 9 := ⟨_, Tryz.func9, rfl, by kernel_rfl⟩
theorem ag23 : Ag Tryz.prog 23 2 := ⟨_, Tryz.t23, Tryz.underlying23, rfl, rfl, trivial⟩
theorem ze29 : ZeroIs Tryz.prog 29 [.int .i64 0, .int .i64 0, .int .i64 0, .string (ByteArray.mk #[]), .bool false, .int .i64 0] := ⟨⟨Tryz.t29, _, rfl, rfl, rfl⟩, by intro v hv; simp only [List.mem_cons, List.not_mem_nil, or_false] at hv; (try rcases hv with rfl | rfl | rfl | rfl | rfl | rfl) <;> (subst_vars; rfl)⟩
theorem fn18 : FnIs Tryz.prog 18 := ⟨_, Tryz.func18, rfl, by kernel_rfl⟩
theorem bu29 : BuildIs Tryz.prog 29 (placeOf [(0, 1), (1, 2), (3, 1), (4, 1), (5, 1)]) [.int .i64 0, .int .i64 0, .int .i64 0, .string (ByteArray.mk #[]), .bool false, .int .i64 0] := BuildIs.struct (it := Tryz.t29) rfl Tryz.underlying29 rfl rfl rfl (by intro v hv; simp only [List.mem_cons, List.not_mem_nil, or_false] at hv; (try rcases hv with rfl | rfl | rfl | rfl | rfl | rfl) <;> (subst_vars; rfl))
theorem sz29 : SzIs Tryz.prog 29 6 := ⟨Tryz.t29, rfl, rfl⟩
theorem ag29 : Ag Tryz.prog 29 6 := ⟨_, Tryz.t29, Tryz.underlying29, rfl, rfl, trivial⟩
theorem fn16 : FnIs Tryz.prog 16 := ⟨_, Tryz.func16, rfl, by kernel_rfl⟩
theorem ze71 : ZeroIs Tryz.prog 71 [.bool false, .int .u64 0, .int .u64 0, .int .i64 0] := ⟨⟨Tryz.t71, _, rfl, rfl, rfl⟩, by intro v hv; simp only [List.mem_cons, List.not_mem_nil, or_false] at hv; (try rcases hv with rfl | rfl | rfl | rfl) <;> (subst_vars; rfl)⟩
theorem fi23_0 : FieldIs Tryz.prog 23 0 0 2 1 := ⟨_, _, Tryz.t2, Tryz.underlying23, rfl, rfl, rfl, rfl, rfl⟩
theorem sc2 : Sc Tryz.prog 2 := ⟨_, Tryz.t2, Tryz.underlying2, rfl, rfl, trivial⟩
theorem fi23_1 : FieldIs Tryz.prog 23 1 1 3 1 := ⟨_, _, Tryz.t3, Tryz.underlying23, rfl, rfl, rfl, rfl, rfl⟩
theorem sc3 : Sc Tryz.prog 3 := ⟨_, Tryz.t3, Tryz.underlying3, rfl, rfl, trivial⟩
theorem fn102 : FnIs Tryz.prog 102 := ⟨_, Tryz.func102, rfl, by kernel_rfl⟩
theorem bu69 : BuildIs Tryz.prog 69 (placeOf [(0, 1), (1, 1)]) [.int .u64 0, .int .u64 0] := BuildIs.struct (it := Tryz.t69) rfl Tryz.underlying69 rfl rfl rfl (by intro v hv; simp only [List.mem_cons, List.not_mem_nil, or_false] at hv; (try rcases hv with rfl | rfl) <;> (subst_vars; rfl))
theorem bu71 : BuildIs Tryz.prog 71 (placeOf [(0, 1), (1, 2), (3, 1)]) [.bool false, .int .u64 0, .int .u64 0, .int .i64 0] := BuildIs.struct (it := Tryz.t71) rfl Tryz.underlying71 rfl rfl rfl (by intro v hv; simp only [List.mem_cons, List.not_mem_nil, or_false] at hv; (try rcases hv with rfl | rfl | rfl | rfl) <;> (subst_vars; rfl))
theorem sz71 : SzIs Tryz.prog 71 4 := ⟨Tryz.t71, rfl, rfl⟩
theorem ag71 : Ag Tryz.prog 71 4 := ⟨_, Tryz.t71, Tryz.underlying71, rfl, rfl, trivial⟩
theorem fn81 : FnIs Tryz.prog 81 := ⟨_, Tryz.func81, rfl, by kernel_rfl⟩
theorem ze23 : ZeroIs Tryz.prog 23 [.int .i64 0, .int .i64 0] := ⟨⟨Tryz.t23, _, rfl, rfl, rfl⟩, by intro v hv; simp only [List.mem_cons, List.not_mem_nil, or_false] at hv; (try rcases hv with rfl | rfl) <;> (subst_vars; rfl)⟩
theorem fi71_1 : FieldIs Tryz.prog 71 1 1 69 2 := ⟨_, _, Tryz.t69, Tryz.underlying71, rfl, rfl, rfl, rfl, rfl⟩
theorem ag69 : Ag Tryz.prog 69 2 := ⟨_, Tryz.t69, Tryz.underlying69, rfl, rfl, trivial⟩
theorem fi69_0 : FieldIs Tryz.prog 69 0 0 67 1 := ⟨_, _, Tryz.t67, Tryz.underlying69, rfl, rfl, rfl, rfl, rfl⟩
theorem sc67 : Sc Tryz.prog 67 := ⟨_, Tryz.t67, Tryz.underlying67, rfl, rfl, trivial⟩
theorem fi69_1 : FieldIs Tryz.prog 69 1 1 67 1 := ⟨_, _, Tryz.t67, Tryz.underlying69, rfl, rfl, rfl, rfl, rfl⟩
theorem fn131 : FnIs Tryz.prog 131 := ⟨_, Tryz.func131, rfl, by kernel_rfl⟩
theorem bu23 : BuildIs Tryz.prog 23 (placeOf [(0, 1), (1, 1)]) [.int .i64 0, .int .i64 0] := BuildIs.struct (it := Tryz.t23) rfl Tryz.underlying23 rfl rfl rfl (by intro v hv; simp only [List.mem_cons, List.not_mem_nil, or_false] at hv; (try rcases hv with rfl | rfl) <;> (subst_vars; rfl))
theorem sz23 : SzIs Tryz.prog 23 2 := ⟨Tryz.t23, rfl, rfl⟩
theorem ze69 : ZeroIs Tryz.prog 69 [.int .u64 0, .int .u64 0] := ⟨⟨Tryz.t69, _, rfl, rfl, rfl⟩, by intro v hv; simp only [List.mem_cons, List.not_mem_nil, or_false] at hv; (try rcases hv with rfl | rfl) <;> (subst_vars; rfl)⟩
theorem fn176 : FnIs Tryz.prog 176 := ⟨_, Tryz.func176, rfl, by kernel_rfl⟩
theorem fn169 : FnIs Tryz.prog 169 := ⟨_, Tryz.func169, rfl, by kernel_rfl⟩
theorem fn158 : FnIs Tryz.prog 158 := ⟨_, Tryz.func158, rfl, by kernel_rfl⟩
theorem sz69 : SzIs Tryz.prog 69 2 := ⟨Tryz.t69, rfl, rfl⟩
theorem fn132 : FnIs Tryz.prog 132 := ⟨_, Tryz.func132, rfl, by kernel_rfl⟩
theorem fi71_2 : FieldIs Tryz.prog 71 2 3 3 1 := ⟨_, _, Tryz.t3, Tryz.underlying71, rfl, rfl, rfl, rfl, rfl⟩
theorem sz3 : SzIs Tryz.prog 3 1 := ⟨Tryz.t3, rfl, rfl⟩
theorem fn121 : FnIs Tryz.prog 121 := ⟨_, Tryz.func121, rfl, by kernel_rfl⟩
theorem ex139 : ExtIs Tryz.prog 139 add64S := ⟨_, Tryz.func139, rfl, by kernel_rfl, by kernel_rfl, by kernel_rfl⟩
theorem fn93 : FnIs Tryz.prog 93 := ⟨_, Tryz.func93, rfl, by kernel_rfl⟩
theorem fn133 : FnIs Tryz.prog 133 := ⟨_, Tryz.func133, rfl, by kernel_rfl⟩
theorem fi71_0 : FieldIs Tryz.prog 71 0 0 4 1 := ⟨_, _, Tryz.t4, Tryz.underlying71, rfl, rfl, rfl, rfl, rfl⟩
theorem sc4 : Sc Tryz.prog 4 := ⟨_, Tryz.t4, Tryz.underlying4, rfl, rfl, trivial⟩
theorem fn82 : FnIs Tryz.prog 82 := ⟨_, Tryz.func82, rfl, by kernel_rfl⟩
theorem li130 : LitIs Tryz.prog 130 23 2 [.int .i64 0, .int .i64 0] := ⟨Tryz.underlying130, ⟨Tryz.t23, _, rfl, rfl, rfl, rfl⟩, by intro v hv; simp at hv; (try rcases hv with rfl | hv) <;> first | rfl | (subst hv; rfl) | simp_all [Value.oneCell']⟩
theorem sl130 : SlIs Tryz.prog 130 23 2 := ⟨Tryz.underlying130, sz23⟩
theorem fn83 : FnIs Tryz.prog 83 := ⟨_, Tryz.func83, rfl, by kernel_rfl⟩
theorem eg23 : Tryz.prog.eqGuardType Tryz.prog.depth 23 = false := by kernel_rfl
theorem eq23 {a0 : Int} {a1 : Int} {b0 : Int} {b1 : Int} : EqV Tryz.prog 9 23 (.agg [.int .i64 a0, .int .i64 a1].toArray) (.agg [.int .i64 b0, .int .i64 b1].toArray) ((decide (a0 = b0)) && ((decide (a1 = b1)) && true)) := (EqV.struct Tryz.underlying23 (by kernel_rfl) (EqF.sc (by rfl) sc2 rfl rfl (EqV.int Tryz.underlying2) (EqF.sc (by rfl) sc3 rfl rfl (EqV.int Tryz.underlying3) EqF.nil)))
theorem fn45 : FnIs Tryz.prog 45 := ⟨_, Tryz.func45, rfl, by kernel_rfl⟩
theorem fn12 : FnIs Tryz.prog 12 := ⟨_, Tryz.func12, rfl, by kernel_rfl⟩
theorem li76 : LitIs Tryz.prog 76 3 1 [.int .i64 0] := ⟨Tryz.underlying76, ⟨Tryz.t3, _, rfl, rfl, rfl, rfl⟩, by intro v hv; simp at hv; (try rcases hv with rfl | hv) <;> first | rfl | (subst hv; rfl) | simp_all [Value.oneCell']⟩
theorem sl76 : SlIs Tryz.prog 76 3 1 := ⟨Tryz.underlying76, sz3⟩
theorem sz4 : SzIs Tryz.prog 4 1 := ⟨Tryz.t4, rfl, rfl⟩
theorem eg29 : Tryz.prog.eqGuardType Tryz.prog.depth 29 = false := by kernel_rfl
theorem eq29 {a0 : Int} {a1 : Int} {a2 : Int} {a3 : ByteArray} {a4 : Bool} {a5 : Int} {b0 : Int} {b1 : Int} {b2 : Int} {b3 : ByteArray} {b4 : Bool} {b5 : Int} : EqV Tryz.prog 9 29 (.agg [.int .i64 a0, .int .i64 a1, .int .i64 a2, .string a3, .bool a4, .int .i64 a5].toArray) (.agg [.int .i64 b0, .int .i64 b1, .int .i64 b2, .string b3, .bool b4, .int .i64 b5].toArray) ((decide (a0 = b0)) && (((decide (a1 = b1)) && ((decide (a2 = b2)) && true)) && ((ByteArray.toList a3 == ByteArray.toList b3) && ((a4 == b4) && ((decide (a5 = b5)) && true))))) := (EqV.struct Tryz.underlying29 (by kernel_rfl) (EqF.sc (by rfl) sc3 rfl rfl (EqV.int Tryz.underlying3) (EqF.ag (us := [.int .i64 a1, .int .i64 a2]) (vs := [.int .i64 b1, .int .i64 b2]) (by rfl) ag23 rfl rfl (EqV.struct Tryz.underlying23 (by kernel_rfl) (EqF.sc (by rfl) sc2 rfl rfl (EqV.int Tryz.underlying2) (EqF.sc (by rfl) sc3 rfl rfl (EqV.int Tryz.underlying3) EqF.nil))) (EqF.sc (by rfl) sc9 rfl rfl (EqV.str Tryz.underlying9) (EqF.sc (by rfl) sc4 rfl rfl (EqV.bool Tryz.underlying4) (EqF.sc (by rfl) sc3 rfl rfl (EqV.int Tryz.underlying3) EqF.nil))))))
theorem fn135 : FnIs Tryz.prog 135 := ⟨_, Tryz.func135, rfl, by kernel_rfl⟩
theorem sz5 : SzIs Tryz.prog 5 1 := ⟨Tryz.t5, rfl, rfl⟩
theorem ar133 : ArIs Tryz.prog 133 5 256 1 := ⟨Tryz.underlying133, sz5⟩
theorem tb0 (m : Ro) : (Rd.array 256 (Rd.int .u8) (0 : Int)).ok m tab0 (tab0.map (Value.int .u8)) := array_rows (rows_ints _) rfl rfl
theorem sc5 : Sc Tryz.prog 5 := ⟨_, Tryz.t5, Tryz.underlying5, rfl, rfl, trivial⟩
theorem sz135 : SzIs Tryz.prog 135 2 := ⟨Tryz.t135, rfl, rfl⟩
theorem ar136 : ArIs Tryz.prog 136 135 16 2 := ⟨Tryz.underlying136, sz135⟩
theorem tb1 (m : Ro) : (Rd.array 16 rdS_unicode_utf8_acceptRange (default : S_unicode_utf8_acceptRange)).ok m tabA vs1 := array_rows (rowsA) rfl rfl
theorem ag135 : Ag Tryz.prog 135 2 := ⟨_, Tryz.t135, Tryz.underlying135, rfl, rfl, trivial⟩
theorem ze135 : ZeroIs Tryz.prog 135 [.int .u8 0, .int .u8 0] := ⟨⟨Tryz.t135, _, rfl, rfl, rfl⟩, by intro v hv; simp only [List.mem_cons, List.not_mem_nil, or_false] at hv; (try rcases hv with rfl | rfl) <;> (subst_vars; rfl)⟩
theorem fi135_0 : FieldIs Tryz.prog 135 0 0 5 1 := ⟨_, _, Tryz.t5, Tryz.underlying135, rfl, rfl, rfl, rfl, rfl⟩
theorem fi135_1 : FieldIs Tryz.prog 135 1 1 5 1 := ⟨_, _, Tryz.t5, Tryz.underlying135, rfl, rfl, rfl, rfl, rfl⟩
theorem fn86 : FnIs Tryz.prog 86 := ⟨_, Tryz.func86, rfl, by kernel_rfl⟩
theorem fn47 : FnIs Tryz.prog 47 := ⟨_, Tryz.func47, rfl, by kernel_rfl⟩
theorem fn14 : FnIs Tryz.prog 14 := ⟨_, Tryz.func14, rfl, by kernel_rfl⟩
theorem li104 : LitIs Tryz.prog 104 5 1 [.int .u8 0] := ⟨Tryz.underlying104, ⟨Tryz.t5, _, rfl, rfl, rfl, rfl⟩, by intro v hv; simp at hv; (try rcases hv with rfl | hv) <;> first | rfl | (subst hv; rfl) | simp_all [Value.oneCell']⟩
theorem bu84 : BuildIs Tryz.prog 84 (placeOf [(0, 1)]) [.string (ByteArray.mk #[])] := BuildIs.struct (it := Tryz.t84) rfl Tryz.underlying84 rfl rfl rfl (by intro v hv; simp only [List.mem_cons, List.not_mem_nil, or_false] at hv; (try rcases hv with rfl) <;> (subst_vars; rfl))
theorem fi84_0 : FieldIs Tryz.prog 84 0 0 9 1 := ⟨_, _, Tryz.t9, Tryz.underlying84, rfl, rfl, rfl, rfl, rfl⟩
theorem fn140 : FnIs Tryz.prog 140 := ⟨_, Tryz.func140, rfl, by kernel_rfl⟩
theorem fn161 : FnIs Tryz.prog 161 := ⟨_, Tryz.func161, rfl, by kernel_rfl⟩
theorem fn137 : FnIs Tryz.prog 137 := ⟨_, Tryz.func137, rfl, by kernel_rfl⟩
theorem fn88 : FnIs Tryz.prog 88 := ⟨_, Tryz.func88, rfl, by kernel_rfl⟩
theorem fn89 : FnIs Tryz.prog 89 := ⟨_, Tryz.func89, rfl, by kernel_rfl⟩
theorem ze3 : ZeroIs Tryz.prog 3 [.int .i64 0] := ⟨⟨Tryz.t3, _, rfl, rfl, rfl⟩, by intro v hv; simp only [List.mem_cons, List.not_mem_nil, or_false] at hv; (try rcases hv with rfl) <;> (subst_vars; rfl)⟩
theorem fn90 : FnIs Tryz.prog 90 := ⟨_, Tryz.func90, rfl, by kernel_rfl⟩
theorem fn122 : FnIs Tryz.prog 122 := ⟨_, Tryz.func122, rfl, by kernel_rfl⟩
theorem fn91 : FnIs Tryz.prog 91 := ⟨_, Tryz.func91, rfl, by kernel_rfl⟩
theorem fn123 : FnIs Tryz.prog 123 := ⟨_, Tryz.func123, rfl, by kernel_rfl⟩
theorem fn92 : FnIs Tryz.prog 92 := ⟨_, Tryz.func92, rfl, by kernel_rfl⟩
theorem fn94 : FnIs Tryz.prog 94 := ⟨_, Tryz.func94, rfl, by kernel_rfl⟩
theorem fn49 : FnIs Tryz.prog 49 := ⟨_, Tryz.func49, rfl, by kernel_rfl⟩
theorem fn21 : FnIs Tryz.prog 21 := ⟨_, Tryz.func21, rfl, by kernel_rfl⟩
theorem fn95 : FnIs Tryz.prog 95 := ⟨_, Tryz.func95, rfl, by kernel_rfl⟩
theorem fn50 : FnIs Tryz.prog 50 := ⟨_, Tryz.func50, rfl, by kernel_rfl⟩
theorem fn19 : FnIs Tryz.prog 19 := ⟨_, Tryz.func19, rfl, by kernel_rfl⟩
theorem fi29_0 : FieldIs Tryz.prog 29 0 0 3 1 := ⟨_, _, Tryz.t3, Tryz.underlying29, rfl, rfl, rfl, rfl, rfl⟩
theorem fi29_3 : FieldIs Tryz.prog 29 3 4 4 1 := ⟨_, _, Tryz.t4, Tryz.underlying29, rfl, rfl, rfl, rfl, rfl⟩
theorem fi29_1 : FieldIs Tryz.prog 29 1 1 23 2 := ⟨_, _, Tryz.t23, Tryz.underlying29, rfl, rfl, rfl, rfl, rfl⟩
theorem fi29_2 : FieldIs Tryz.prog 29 2 3 9 1 := ⟨_, _, Tryz.t9, Tryz.underlying29, rfl, rfl, rfl, rfl, rfl⟩
theorem fi29_4 : FieldIs Tryz.prog 29 4 5 3 1 := ⟨_, _, Tryz.t3, Tryz.underlying29, rfl, rfl, rfl, rfl, rfl⟩
theorem fn25 : FnIs Tryz.prog 25 := ⟨_, Tryz.func25, rfl, by kernel_rfl⟩
theorem fn53 : FnIs Tryz.prog 53 := ⟨_, Tryz.func53, rfl, by kernel_rfl⟩
theorem sz2 : SzIs Tryz.prog 2 1 := ⟨Tryz.t2, rfl, rfl⟩
theorem fn76 : FnIs Tryz.prog 76 := ⟨_, Tryz.func76, rfl, by kernel_rfl⟩
theorem fn36 : FnIs Tryz.prog 36 := ⟨_, Tryz.func36, rfl, by kernel_rfl⟩
theorem sz96 : SzIs Tryz.prog 96 1 := ⟨Tryz.t96, rfl, rfl⟩
theorem li144 : LitIs Tryz.prog 144 96 1 [.pointer none] := ⟨Tryz.underlying144, ⟨Tryz.t96, _, rfl, rfl, rfl, rfl⟩, by intro v hv; simp at hv; (try rcases hv with rfl | hv) <;> first | rfl | (subst hv; rfl) | simp_all [Value.oneCell']⟩
theorem sl144 : SlIs Tryz.prog 144 96 1 := ⟨Tryz.underlying144, sz96⟩
theorem sc96 : Sc Tryz.prog 96 := ⟨_, Tryz.t96, Tryz.underlying96, rfl, rfl, trivial⟩
theorem fn99 : FnIs Tryz.prog 99 := ⟨_, Tryz.func99, rfl, by kernel_rfl⟩
theorem fn103 : FnIs Tryz.prog 103 := ⟨_, Tryz.func103, rfl, by kernel_rfl⟩
theorem eg69 : Tryz.prog.eqGuardType Tryz.prog.depth 69 = false := by kernel_rfl
theorem eq69 {a0 : Int} {a1 : Int} {b0 : Int} {b1 : Int} : EqV Tryz.prog 9 69 (.agg [.int .u64 a0, .int .u64 a1].toArray) (.agg [.int .u64 b0, .int .u64 b1].toArray) ((decide (a0 = b0)) && ((decide (a1 = b1)) && true)) := (EqV.struct Tryz.underlying69 (by kernel_rfl) (EqF.sc (by rfl) sc67 rfl rfl (EqV.int Tryz.underlying67) (EqF.sc (by rfl) sc67 rfl rfl (EqV.int Tryz.underlying67) EqF.nil)))
theorem fn104 : FnIs Tryz.prog 104 := ⟨_, Tryz.func104, rfl, by kernel_rfl⟩
theorem ex165 : ExtIs Tryz.prog 165 sub64S := ⟨_, Tryz.func165, rfl, by kernel_rfl, by kernel_rfl, by kernel_rfl⟩
theorem fn147 : FnIs Tryz.prog 147 := ⟨_, Tryz.func147, rfl, by kernel_rfl⟩
theorem fn108 : FnIs Tryz.prog 108 := ⟨_, Tryz.func108, rfl, by kernel_rfl⟩
theorem fn148 : FnIs Tryz.prog 148 := ⟨_, Tryz.func148, rfl, by kernel_rfl⟩
theorem fn109 : FnIs Tryz.prog 109 := ⟨_, Tryz.func109, rfl, by kernel_rfl⟩
theorem fn75 : FnIs Tryz.prog 75 := ⟨_, Tryz.func75, rfl, by kernel_rfl⟩
theorem fn149 : FnIs Tryz.prog 149 := ⟨_, Tryz.func149, rfl, by kernel_rfl⟩
theorem fn110 : FnIs Tryz.prog 110 := ⟨_, Tryz.func110, rfl, by kernel_rfl⟩
theorem fn150 : FnIs Tryz.prog 150 := ⟨_, Tryz.func150, rfl, by kernel_rfl⟩
theorem fn111 : FnIs Tryz.prog 111 := ⟨_, Tryz.func111, rfl, by kernel_rfl⟩
theorem fn62 : FnIs Tryz.prog 62 := ⟨_, Tryz.func62, rfl, by kernel_rfl⟩
theorem cn9 : Conc Tryz.prog 9 := ⟨_, Tryz.underlying9, trivial⟩
theorem fn141 : FnIs Tryz.prog 141 := ⟨_, Tryz.func141, rfl, by kernel_rfl⟩
theorem fn142 : FnIs Tryz.prog 142 := ⟨_, Tryz.func142, rfl, by kernel_rfl⟩
theorem ze149 : ZeroIs Tryz.prog 149 [.pointer none, .slice none 0 0] := ⟨⟨Tryz.t149, _, rfl, rfl, rfl⟩, by intro v hv; simp only [List.mem_cons, List.not_mem_nil, or_false] at hv; (try rcases hv with rfl | rfl) <;> (subst_vars; rfl)⟩
theorem fn107 : FnIs Tryz.prog 107 := ⟨_, Tryz.func107, rfl, by kernel_rfl⟩
theorem fn61 : FnIs Tryz.prog 61 := ⟨_, Tryz.func61, rfl, by kernel_rfl⟩
theorem fn27 : FnIs Tryz.prog 27 := ⟨_, Tryz.func27, rfl, by kernel_rfl⟩
theorem fn54 : FnIs Tryz.prog 54 := ⟨_, Tryz.func54, rfl, by kernel_rfl⟩
theorem fn98 : FnIs Tryz.prog 98 := ⟨_, Tryz.func98, rfl, by kernel_rfl⟩
theorem fn56 : FnIs Tryz.prog 56 := ⟨_, Tryz.func56, rfl, by kernel_rfl⟩
theorem fn100 : FnIs Tryz.prog 100 := ⟨_, Tryz.func100, rfl, by kernel_rfl⟩
theorem fn101 : FnIs Tryz.prog 101 := ⟨_, Tryz.func101, rfl, by kernel_rfl⟩
theorem fn57 : FnIs Tryz.prog 57 := ⟨_, Tryz.func57, rfl, by kernel_rfl⟩
theorem sl104 : SlIs Tryz.prog 104 5 1 := ⟨Tryz.underlying104, sz5⟩
theorem fn106 : FnIs Tryz.prog 106 := ⟨_, Tryz.func106, rfl, by kernel_rfl⟩
theorem fn59 : FnIs Tryz.prog 59 := ⟨_, Tryz.func59, rfl, by kernel_rfl⟩
theorem fn105 : FnIs Tryz.prog 105 := ⟨_, Tryz.func105, rfl, by kernel_rfl⟩
theorem fn58 : FnIs Tryz.prog 58 := ⟨_, Tryz.func58, rfl, by kernel_rfl⟩
theorem fn60 : FnIs Tryz.prog 60 := ⟨_, Tryz.func60, rfl, by kernel_rfl⟩
theorem fn55 : FnIs Tryz.prog 55 := ⟨_, Tryz.func55, rfl, by kernel_rfl⟩
theorem fn26 : FnIs Tryz.prog 26 := ⟨_, Tryz.func26, rfl, by kernel_rfl⟩
theorem fn28 : FnIs Tryz.prog 28 := ⟨_, Tryz.func28, rfl, by kernel_rfl⟩
theorem fn52 : FnIs Tryz.prog 52 := ⟨_, Tryz.func52, rfl, by kernel_rfl⟩
theorem fn23 : FnIs Tryz.prog 23 := ⟨_, Tryz.func23, rfl, by kernel_rfl⟩
theorem fn73 : FnIs Tryz.prog 73 := ⟨_, Tryz.func73, rfl, by kernel_rfl⟩
theorem fn31 : FnIs Tryz.prog 31 := ⟨_, Tryz.func31, rfl, by kernel_rfl⟩
theorem fn33 : FnIs Tryz.prog 33 := ⟨_, Tryz.func33, rfl, by kernel_rfl⟩
theorem fn38 : FnIs Tryz.prog 38 := ⟨_, Tryz.func38, rfl, by kernel_rfl⟩
theorem fn79 : FnIs Tryz.prog 79 := ⟨_, Tryz.func79, rfl, by kernel_rfl⟩
theorem fn40 : FnIs Tryz.prog 40 := ⟨_, Tryz.func40, rfl, by kernel_rfl⟩
end Go.Proofs.YthpcgknknpjpdaaGreatDoor.W
namespace Go.Proofs.YthpcgknknpjpdaaGreatDoor.W
open Go Go.Q Go.Proofs
set_option linter.unusedVariables false
set_option linter.unusedSimpArgs false
set_option maxRecDepth 100000
set_option maxHeartbeats 4000000
theorem s_val_names (k : Nat) (H : g_val_names k = some ()) : Go.Q.Spec Tryz.prog 44 0 [] Mem.nil (fun o M => o = .ret (.ro (Rd.slice Rd.str) false ([(ByteArray.mk #[]), (ByteArray.mk #[35, 68, 73, 86, 47, 48, 33]), (ByteArray.mk #[35, 86, 65, 76, 85, 69, 33]), (ByteArray.mk #[35, 82, 69, 70, 33]), (ByteArray.mk #[35, 78, 65, 77, 69, 63]), (ByteArray.mk #[35, 78, 85, 77, 33]), (ByteArray.mk #[35, 78, 47, 65]), (ByteArray.mk #[35, 67, 89, 67, 76, 69, 33])] : List ByteArray)) ∧ M = Mem.nil) := by
 unfold g_val_names at H
 refine Go.Q.Spec.of_bodyR (az := []) (rs := [.tmp 0]) (nt := 2) Tryz.func44 rfl rfl (by intro t T h; simp at h) rfl rfl fun cx hnp => ?_
 refine WP.sr ?_
 refine WPL.qq (q_as (v := .lit _) rfl) ?_
 refine WPL.nx ?_
 refine WP.sr ?_
 refine WPL.d (d_buildSlice (ds := ([(ByteArray.mk #[]), (ByteArray.mk #[35, 68, 73, 86, 47, 48, 33]), (ByteArray.mk #[35, 86, 65, 76, 85, 69, 33]), (ByteArray.mk #[35, 82, 69, 70, 33]), (ByteArray.mk #[35, 78, 65, 77, 69, 63]), (ByteArray.mk #[35, 78, 85, 77, 33]), (ByteArray.mk #[35, 78, 47, 65]), (ByteArray.mk #[35, 67, 89, 67, 76, 69, 33])] : List ByteArray)) (R := Rd.str) li26 rfl rfl rfl rfl rfl (JoinRows.cons1 Joins.sc rfl (JoinRows.cons1 Joins.sc rfl (JoinRows.cons1 Joins.sc rfl (JoinRows.cons1 Joins.sc rfl (JoinRows.cons1 Joins.sc rfl (JoinRows.cons1 Joins.sc rfl (JoinRows.cons1 Joins.sc rfl (JoinRows.cons1 Joins.sc rfl JoinRows.nil)))))))) rfl rfl) rfl ?_
 refine WPL.qq (q_as (v := .whole _) rfl) ?_
 refine WPL.nx ?_
 refine WP.retW ?_
 refine W.cv (Cv.frzRow (i := 0) rfl rfl hnp rfl rfl) rfl ?_
 exact W.now (BodyR.mkR trivial rfl [] ⟨rfl, rfl⟩ ⟨rfl, trivial, by decide, rfl, trivial⟩ rfl rfl)
theorem s_sc_Index_string_string (k : Nat) (x1 : (List ByteArray)) (x2 : ByteArray) (x3 : Int) (H : g_sc_Index_string_string k x1 x2 = some x3) : Go.Q.Spec Tryz.prog 43 0 [.ro (Rd.slice Rd.str) false x1, .lit (.string x2)] Mem.nil (fun o M => o = .ret (.lit (.int .i64 x3)) ∧ M = Mem.nil) := by
 unfold g_sc_Index_string_string at H
 refine Go.Q.Spec.of_bodyR (az := []) (rs := [.tmp 4]) (nt := 19) Tryz.func43 rfl rfl (by intro t T h; simp at h) rfl rfl fun cx hnp => ?_
 refine WP.sr ?_
 refine WPL.qq (q_as (v := .lit (.int _ _)) rfl) ?_
 refine WPL.nx ?_
 refine WP.seq ?_
 refine WP.sr ?_
 refine WPL.qq (q_mv (v := .ro _ _ _) rfl) ?_
 refine WPL.qq (q_len_ro sl26 rfl) ?_
 refine WPL.qq (q_mv (v := .lit (.int _ _)) rfl) ?_
 refine WPL.nx ?_
 refine WP.block ?_
 refine WP.cv (Cv.weak (E' := ((((Env.none.upd 0 (.ro (Rd.slice Rd.str) false x1)).upd 1 (.lit (.string x2))).upd 7 (.lit (.int .i64 ((List.length x1 : Nat) : Int)))).upd 8 (.lit (.int .i64 0)))) (M' := Mem.nil) [] hnp ⟨rfl, trivial, by decide, rfl, trivial⟩ (LeE.u (LeE.u (LeE.u (LeE.u (LeE.none rfl rfl)))))) ?_
 obtain ⟨y1, H1, H⟩ := bnd H
 refine WP.monoW (Q := fun x E M => match (generalizing := false) y1 with | (Sum.inl x4) => x = .ret ∧ E = (Env.none.upd 4 (.lit (.int .i64 x4))) ∧ M = Mem.nil | (Sum.inr _) => x = .exit 0 ∧ E = Env.none ∧ M = Mem.nil) ?_ ?_
 · refine WP.loop (β := Int) (fun n b => g_sc_Index_string_string_l0 k x1 x2 n b = some y1) (fun b => ((((Env.none.upd 0 (.ro (Rd.slice Rd.str) false x1)).upd 1 (.lit (.string x2))).upd 7 (.lit (.int .i64 ((List.length x1 : Nat) : Int)))).upd 8 (.lit (.int .i64 b)))) (fun b => Mem.nil) k 0 H1 rfl rfl ?_
   rintro n x5 H
   obtain _ | n := n
   · exact nf rfl H
   rw [g_sc_Index_string_string_l0.eq_2] at H
   show WP _ _ _ _ ((((Env.none.upd 0 (.ro (Rd.slice Rd.str) false x1)).upd 1 (.lit (.string x2))).upd 7 (.lit (.int .i64 ((List.length x1 : Nat) : Int)))).upd 8 (.lit (.int .i64 x5))) Mem.nil _
   refine WP.sr ?_
   obtain ⟨x6, h1, H⟩ := bnd H
   refine WPL.qq (q_nm (q_lss rfl rfl) (nm_bool h1)) ?_
   refine WPL.nx ?_
   refine WP.seq ?_
   refine WP.cond (t := x6) rfl (fun hb1 => ?_) (fun hb1 => ?_)
   · replace H := cnt hb1 H
     refine WP.skipW ?_
     refine W.now ?_
     refine Then.n ?_
     refine WP.seq ?_
     refine WP.block ?_
     refine WP.sr ?_
     refine WPL.qq (q_mv (v := .lit (.int _ _)) rfl) ?_
     refine WPL.qq (q_as (v := .lit (.int _ _)) rfl) ?_
     refine WPL.nx ?_
     refine WP.sr ?_
     refine WPL.qq (q_mv (v := .lit (.string _)) rfl) ?_
     refine WPL.qq (q_mv (v := .ro _ _ _) rfl) ?_
     refine WPL.qq (q_mv (v := .lit (.int _ _)) rfl) ?_
     obtain ⟨x7, h2, H⟩ := bnd H
     refine WPL.qq (q_index_ro sl26 rfl rfl rfl h2) ?_
     refine WPL.qq (q_load_sc sc9 rfl) ?_
     refine WPL.qq (q_eqls rfl rfl) ?_
     refine WPL.nx ?_
     refine WP.cond (t := (x2.toList == x7.toList)) rfl (fun hb2 => ?_) (fun hb2 => ?_)
     · replace H := cnt hb2 H
       refine WP.sr ?_
       refine WPL.qq (q_mv (v := .lit (.int _ _)) rfl) ?_
       refine WPL.qq (q_as (v := .lit (.int _ _)) rfl) ?_
       refine WPL.nx ?_
       refine WP.retW ?_
       have q0 := j1 H
       subst q0
       exact W.wk [] hnp (InBlock.r (Then.r (Then.r r3))) ⟨rfl, trivial, by decide, rfl, trivial⟩ (LeE.u (LeE.none rfl rfl)) rfl
     replace H := cnf hb2 H
     refine WP.skipW ?_
     refine W.now ?_
     refine InBlock.n ?_
     refine Then.n ?_
     refine WP.region ?_
     refine WPL.qq (q_add rfl rfl) ?_
     refine WPL.qq (q_mv (v := .lit (.int _ _)) rfl) ?_
     refine WPL.nilW ?_
     exact W.wk [] hnp (Then.n ⟨n, (IntKind.wrap .i64 (x5 + 1)), Nat.lt_succ_self n, H, rfl, rfl⟩) ⟨rfl, trivial, by decide, rfl, trivial⟩ (LeE.u (LeE.u (LeE.u (LeE.u (LeE.none rfl rfl))))) rfl
   replace H := cnf hb1 H
   refine WP.exitW ?_
   have q0 := j1 H
   subst q0
   exact W.wk [] hnp (Then.x (Then.x r3)) ⟨rfl, trivial, by decide, rfl, trivial⟩ (LeE.none rfl rfl) rfl
 rcases y1 with x4 | _
 · rintro _ _ _ ⟨rfl, rfl, rfl⟩
   have q0 := j1 H
   subst q0
   exact W.now (InBlock.r (Then.r (BodyR.mkR trivial rfl [] ⟨rfl, rfl⟩ ⟨rfl, trivial, by decide, rfl, trivial⟩ rfl rfl)))
 rintro _ _ _ ⟨rfl, rfl, rfl⟩
 refine W.now ?_
 refine InBlock.x0 ?_
 refine Then.n ?_
 refine WP.sr ?_
 refine WPL.qq (q_as (v := .lit (.int _ _)) rfl) ?_
 refine WPL.nx ?_
 refine WP.retW ?_
 have q0 := j1 H
 subst q0
 exact W.now (BodyR.mkR trivial rfl [] ⟨rfl, rfl⟩ ⟨rfl, trivial, by decide, rfl, trivial⟩ rfl rfl)
theorem s_val_ErrCode (k : Nat) (x1 : ByteArray) (x2 : Int) (x3 : Bool) (H : g_val_ErrCode k x1 = some (x2, x3)) : Go.Q.Spec Tryz.prog 9 0 [.lit (.string x1)] Mem.nil (fun o M => o = .ret (.tup [.lit (.int .i64 x2), .lit (.bool x3)]) ∧ M = Mem.nil) := by
 unfold g_val_ErrCode at H
 refine Go.Q.Spec.of_bodyR (az := []) (rs := [.tmp 2, .tmp 3]) (nt := 12) Tryz.func9 rfl rfl (by intro t T h; simp at h) rfl rfl fun cx hnp => ?_
 refine WP.sr ?_
 refine WPL.qq (q_as (v := .lit (.int _ _)) rfl) ?_
 refine WPL.qq (q_as (v := .lit (.bool _)) rfl) ?_
 refine WPL.nx ?_
 refine WP.sr ?_
 obtain ⟨_, h1, H⟩ := bnd H
 refine WPL.c (runs_call (s := []) (t := []) (N := 0) (bor := []) fn44 rfl (s_val_names k h1) ⟨rfl, trivial, by decide, rfl, trivial⟩ rfl trivial .nil rfl trivial rfl) rfl ?_
 refine WPL.qq (q_mv (v := .lit (.string _)) rfl) ?_
 obtain ⟨x4, h2, H⟩ := bnd H
 refine WPL.c (runs_call (s := []) (t := []) (N := 0) (bor := []) fn43 rfl (s_sc_Index_string_string k ([(ByteArray.mk #[]), (ByteArray.mk #[35, 68, 73, 86, 47, 48, 33]), (ByteArray.mk #[35, 86, 65, 76, 85, 69, 33]), (ByteArray.mk #[35, 82, 69, 70, 33]), (ByteArray.mk #[35, 78, 65, 77, 69, 63]), (ByteArray.mk #[35, 78, 85, 77, 33]), (ByteArray.mk #[35, 78, 47, 65]), (ByteArray.mk #[35, 67, 89, 67, 76, 69, 33])] : List ByteArray) x1 x4 h2) ⟨rfl, trivial, by decide, rfl, trivial⟩ rfl trivial (.ren rfl rfl (.ren rfl rfl .nil)) rfl trivial rfl) rfl ?_
 refine WPL.qq (q_as (v := .lit (.int _ _)) rfl) ?_
 refine WPL.nx ?_
 refine WP.sr ?_
 refine WPL.qq (q_mv (v := .lit (.int _ _)) rfl) ?_
 obtain ⟨x5, h3, H⟩ := bnd H
 refine WPL.qq (q_nm (q_max rfl rfl) (nm_int h3)) ?_
 refine WPL.qq (q_mv (v := .lit (.int _ _)) rfl) ?_
 refine WPL.qq (q_gtr rfl rfl) ?_
 refine WPL.qq (q_as (v := .lit (.int _ _)) rfl) ?_
 refine WPL.qq (q_as (v := .lit (.bool _)) rfl) ?_
 refine WPL.nx ?_
 refine WP.retW ?_
 obtain ⟨rfl, rfl⟩ := j2 H
 exact W.now (BodyR.mkR trivial rfl [] ⟨rfl, rfl⟩ ⟨rfl, trivial, by decide, rfl, trivial⟩ rfl rfl)
theorem s_val_ErrName (k : Nat) (x1 : Int) (x2 : ByteArray) (H : g_val_ErrName k x1 = some x2) : Go.Q.Spec Tryz.prog 18 0 [.lit (.int .i64 x1)] Mem.nil (fun o M => o = .ret (.lit (.string x2)) ∧ M = Mem.nil) := by
 unfold g_val_ErrName at H
 refine Go.Q.Spec.of_bodyR (az := []) (rs := [.tmp 2]) (nt := 15) Tryz.func18 rfl rfl (by intro t T h; simp at h) rfl rfl fun cx hnp => ?_
 refine WP.sr ?_
 refine WPL.qq (q_as (v := .lit (.string _)) rfl) ?_
 refine WPL.nx ?_
 refine WP.seq ?_
 refine WP.seq ?_
 obtain ⟨x3, H1, H⟩ := bnd H
 refine WP.monoW (Q := fun x E M => x = .normal ∧ E = ((Env.none.upd 0 (.lit (.int .i64 x1))).upd 10 (.lit (.bool x3))) ∧ M = Mem.nil) ?_ ?_
 · clear H
   have H := H1
   clear H1
   refine WP.region ?_
   refine WPL.qq (q_mv (v := .lit (.int _ _)) rfl) ?_
   refine WPL.qq (q_lss rfl rfl) ?_
   refine WPL.qq (q_mv (v := .lit (.bool _)) rfl) ?_
   refine WPL.split (t := 5) (b := (decide (x1 < 0))) rfl (fun hb1 => ?_) (fun hb1 => ?_)
   · replace H := cnt hb1 H
     refine WPL.sg true rfl (lb hb1) ?_
     refine WPL.sg true rfl (lb hb1) ?_
     refine WPL.sg true rfl (lb hb1) ?_
     refine WPL.sg true rfl (lb hb1) ?_
     refine WPL.qq (q_pickT (v := .lit (.bool _)) (lb hb1) rfl) ?_
     refine WPL.nilW ?_
     have q0 := j1 H
     subst q0
     exact W.wk [] hnp r3 ⟨rfl, trivial, by decide, rfl, trivial⟩ (LeE.u (LeE.u (LeE.none rfl rfl))) rfl
   replace H := cnf hb1 H
   refine WPL.gq rfl (lb hb1) (q_mv (v := .lit (.int _ _)) rfl) ?_
   obtain ⟨_, h1, H⟩ := bnd H
   refine WPL.cg rfl rfl (lb hb1) (runs_call (s := []) (t := []) (N := 0) (bor := []) fn44 rfl (s_val_names k h1) ⟨rfl, trivial, by decide, rfl, trivial⟩ rfl trivial .nil rfl trivial rfl) rfl ?_
   obtain ⟨x4, h2, H⟩ := bnd H
   refine WPL.gq rfl (lb hb1) (q_nm (q_len_ro sl26 rfl) (nm_int h2)) ?_
   refine WPL.gq rfl (lb hb1) (q_geq rfl rfl) ?_
   refine WPL.qq (q_pickF (v := .lit (.bool _)) (lb hb1) rfl) ?_
   refine WPL.nilW ?_
   have q0 := j1 H
   subst q0
   exact W.wk [] hnp r3 ⟨rfl, trivial, by decide, rfl, trivial⟩ (LeE.u (LeE.u (LeE.none rfl rfl))) rfl
 rintro _ _ _ ⟨rfl, rfl, rfl⟩
 refine W.now ?_
 refine Then.n ?_
 refine WP.cond (t := x3) rfl (fun hb2 => ?_) (fun hb2 => ?_)
 · replace H := cnt hb2 H
   refine WP.sr ?_
   refine WPL.qq (q_as (v := .lit (.string _)) rfl) ?_
   refine WPL.nx ?_
   refine WP.retW ?_
   have q0 := j1 H
   subst q0
   exact W.now (Then.r (BodyR.mkR trivial rfl [] ⟨rfl, rfl⟩ ⟨rfl, trivial, by decide, rfl, trivial⟩ rfl rfl))
 replace H := cnf hb2 H
 refine WP.skipW ?_
 refine W.now ?_
 refine Then.n ?_
 refine WP.sr ?_
 obtain ⟨_, h3, H⟩ := bnd H
 refine WPL.c (runs_call (s := []) (t := []) (N := 0) (bor := []) fn44 rfl (s_val_names k h3) ⟨rfl, trivial, by decide, rfl, trivial⟩ rfl trivial .nil rfl trivial rfl) rfl ?_
 refine WPL.qq (q_mv (v := .lit (.int _ _)) rfl) ?_
 obtain ⟨x5, h4, H⟩ := bnd H
 refine WPL.qq (q_index_ro sl26 rfl rfl rfl h4) ?_
 refine WPL.qq (q_load_sc sc9 rfl) ?_
 refine WPL.qq (q_as (v := .lit (.string _)) rfl) ?_
 refine WPL.nx ?_
 refine WP.retW ?_
 have q0 := j1 H
 subst q0
 exact W.now (BodyR.mkR trivial rfl [] ⟨rfl, rfl⟩ ⟨rfl, trivial, by decide, rfl, trivial⟩ rfl rfl)
theorem s_val_Err (k : Nat) (x1 : Int) (x2 : Int) (H : g_val_Err k x1 = some x2) : Go.Q.Spec Tryz.prog 16 0 [.lit (.int .i64 x1)] Mem.nil (fun o M => o = .ret (.agg [.lit (.int .i64 4), .lit (.int .i64 0), .lit (.int .i64 0), .lit (.string (ByteArray.mk #[])), .lit (.bool false), .lit (.int .i64 x2)]) ∧ M = (Mem.nil.push (.cells 29 [.lit (.int .i64 4), .lit (.int .i64 0), .lit (.int .i64 0), .lit (.string (ByteArray.mk #[])), .lit (.bool false), .lit (.int .i64 x2)]))) := by
 unfold g_val_Err at H
 refine Go.Q.Spec.of_bodyR (az := [(29, 6)]) (rs := [.cell 2 29]) (nt := 8) Tryz.func16 rfl rfl (by intro t T h; simp at h; rcases h with ⟨rfl, rfl⟩ <;> first | exact ag29) rfl rfl fun cx hnp => ?_
 refine WP.sr ?_
 refine WPL.d (d_alloc ze29 rfl) rfl ?_
 refine WPL.nx ?_
 refine WP.seq ?_
 obtain ⟨x3, H1, H⟩ := bnd H
 refine WP.monoW (Q := fun x E M => x = .normal ∧ E = ((Env.none.upd 0 (.lit (.int .i64 x3))).upd 2 (.ptr 0 0)) ∧ M = (Mem.nil.push (.cells 29 [.lit (.int .i64 0), .lit (.int .i64 0), .lit (.int .i64 0), .lit (.string (ByteArray.mk #[])), .lit (.bool false), .lit (.int .i64 0)]))) ?_ ?_
 · clear H
   have H := H1
   clear H1
   refine WP.sr ?_
   refine WPL.qq (q_mv (v := .lit (.int _ _)) rfl) ?_
   obtain ⟨x4, h1, H⟩ := bnd H
   refine WPL.c (runs_call (s := []) (t := []) (N := 1) (bor := []) fn18 rfl (s_val_ErrName k x1 x4 h1) ⟨rfl, trivial, by decide, rfl, trivial⟩ rfl trivial (.ren rfl rfl .nil) rfl trivial rfl) rfl ?_
   obtain ⟨x5, h2, H⟩ := bnd H
   refine WPL.qq (q_nm (q_eqls rfl rfl) (nm_bool h2)) ?_
   refine WPL.nx ?_
   refine WP.cond (t := x5) rfl (fun hb1 => ?_) (fun hb1 => ?_)
   · replace H := cnt hb1 H
     refine WP.region ?_
     refine WPL.qq (q_as (v := .lit (.int _ _)) rfl) ?_
     refine WPL.nilW ?_
     have q0 := j1 H
     subst q0
     exact W.wk [0] hnp r3 ⟨rfl, AA1, by decide, rfl, trivial⟩ (LeE.u (LeE.u (LeE.none rfl rfl))) rfl
   replace H := cnf hb1 H
   refine WP.skipW ?_
   have q0 := j1 H
   subst q0
   exact W.wk [0] hnp r3 ⟨rfl, AA1, by decide, rfl, trivial⟩ (LeE.u (LeE.u (LeE.none rfl rfl))) rfl
 rintro _ _ _ ⟨rfl, rfl, rfl⟩
 refine W.now ?_
 refine Then.n ?_
 refine WP.sr ?_
 refine WPL.qq (q_mv (v := .lit (.int _ _)) rfl) ?_
 refine WPL.qq (q_build bu29 rfl) ?_
 refine WPL.s (s_store sz29 rfl rfl rfl rfl rfl) ?_
 refine WPL.nx ?_
 refine WP.retW ?_
 have q0 := j1 H
 subst q0
 exact W.now (BodyR.mkR trivial rfl [0] ⟨rfl, rfl⟩ ⟨rfl, AA1, by decide, rfl, trivial⟩ rfl rfl)
theorem s_dec_size (k : Nat) (x1 : Int) (x2 : Int) (H : g_dec_size k x1 = some x2) : Go.Q.Spec Tryz.prog 102 0 [.lit (.int .i64 x1)] Mem.nil (fun o M => o = .ret (.lit (.int .u64 x2)) ∧ M = Mem.nil) := by
 unfold g_dec_size at H
 refine Go.Q.Spec.of_bodyR (az := []) (rs := [.tmp 2]) (nt := 10) Tryz.func102 rfl rfl (by intro t T h; simp at h) rfl rfl fun cx hnp => ?_
 refine WP.sr ?_
 refine WPL.qq (q_as (v := .lit (.int _ _)) rfl) ?_
 refine WPL.nx ?_
 refine WP.seq ?_
 refine WP.sr ?_
 refine WPL.qq (q_mv (v := .lit (.int _ _)) rfl) ?_
 refine WPL.qq (q_lss rfl rfl) ?_
 refine WPL.nx ?_
 refine WP.cond (t := (decide (x1 < 0))) rfl (fun hb1 => ?_) (fun hb1 => ?_)
 · replace H := cnt hb1 H
   refine WP.sr ?_
   refine WPL.qq (q_mv (v := .lit (.int _ _)) rfl) ?_
   refine WPL.qq (q_conv Tryz.underlying2 Tryz.underlying67 rfl) ?_
   obtain ⟨x3, h1, H⟩ := bnd H
   refine WPL.qq (q_nm (q_neg rfl) (nm_int h1)) ?_
   refine WPL.qq (q_as (v := .lit (.int _ _)) rfl) ?_
   refine WPL.nx ?_
   refine WP.retW ?_
   have q0 := j1 H
   subst q0
   exact W.now (Then.r (BodyR.mkR trivial rfl [] ⟨rfl, rfl⟩ ⟨rfl, trivial, by decide, rfl, trivial⟩ rfl rfl))
 replace H := cnf hb1 H
 refine WP.skipW ?_
 refine W.now ?_
 refine Then.n ?_
 refine WP.sr ?_
 refine WPL.qq (q_mv (v := .lit (.int _ _)) rfl) ?_
 refine WPL.qq (q_conv Tryz.underlying2 Tryz.underlying67 rfl) ?_
 refine WPL.qq (q_as (v := .lit (.int _ _)) rfl) ?_
 refine WPL.nx ?_
 refine WP.retW ?_
 have q0 := j1 H
 subst q0
 exact W.now (BodyR.mkR trivial rfl [] ⟨rfl, rfl⟩ ⟨rfl, trivial, by decide, rfl, trivial⟩ rfl rfl)
theorem s_dec_of (k : Nat) (x1 : Int) (x2 : Int) (x3 : Int) (H : g_dec_of k x1 x2 = some x3) : Go.Q.Spec Tryz.prog 81 0 [.agg [.lit (.int .i64 x1), .lit (.int .i64 x2)]] Mem.nil (fun o M => o = .ret (.agg [.lit (.bool (decide (x1 < 0))), .lit (.int .u64 0), .lit (.int .u64 x3), .lit (.int .i64 x2)]) ∧ M = (Mem.nil.push (.cells 71 [.lit (.bool (decide (x1 < 0))), .lit (.int .u64 0), .lit (.int .u64 x3), .lit (.int .i64 x2)]))) := by
 unfold g_dec_of at H
 refine Go.Q.Spec.of_bodyR (az := [(71, 4)]) (rs := [.cell 2 71]) (nt := 13) Tryz.func81 rfl rfl (by intro t T h; simp at h; rcases h with ⟨rfl, rfl⟩ <;> first | exact ag71) rfl rfl fun cx hnp => ?_
 refine WP.sr ?_
 refine WPL.d (d_box rfl rfl) rfl ?_
 refine WPL.d (d_alloc ze71 rfl) rfl ?_
 refine WPL.nx ?_
 refine WP.seq ?_
 refine WP.regionD' 11 [0] [] mixed rfl ?_
 refine WPD.tT 0 rfl (q_fieldAddr fi23_0 rfl rfl) ?_
 refine WPD.tT 3 rfl (q_fieldAddr fi23_0 rfl rfl) ?_
 refine WPD.tT 7 rfl (q_fieldAddr fi23_1 rfl rfl) ?_
 refine WPD.take 1 rfl (by kernel_rfl) (q_load sc2 rfl rfl rfl) rfl rfl ?_
 refine WPD.tT 2 rfl (q_lss rfl rfl) ?_
 refine WPD.take 4 rfl (by kernel_rfl) (q_load sc2 rfl rfl rfl) rfl rfl ?_
 refine WPD.take 8 rfl (by kernel_rfl) (q_load sc3 rfl rfl rfl) rfl rfl ?_
 obtain ⟨x4, h1, H⟩ := bnd H
 refine WPD.ef 5 [0] [] rfl (runs_call (s := []) (t := []) (N := 2) (bor := []) fn102 rfl (s_dec_size k x1 x4 h1) ⟨rfl, trivial, by decide, rfl, trivial⟩ rfl trivial (.ren rfl rfl .nil) rfl trivial rfl) ?_
 refine WPD.tT 6 rfl (q_build bu69 rfl) ?_
 refine WPD.tT 9 rfl (q_build bu71 rfl) ?_
 refine WPD.effS 10 [0] [] rfl (by kernel_rfl) (s_store sz71 rfl rfl rfl rfl rfl) rfl ?_
 refine WPD.doneW (by kernel_rfl) ?_
 refine W.now ?_
 refine Then.n ?_
 refine WP.retW ?_
 have q0 := j1 H
 subst q0
 exact W.now (BodyR.mkR trivial rfl [1] ⟨rfl, rfl⟩ ⟨rfl, AA1, by decide, rfl, trivial⟩ rfl rfl)
theorem s_dec_wide_zero (k : Nat) (x1 : Int) (x2 : Int) (H : g_dec_wide_zero k x1 x2 = some ()) : Go.Q.Spec Tryz.prog 131 0 [.agg [.lit (.int .u64 x1), .lit (.int .u64 x2)]] Mem.nil (fun o M => o = .ret (.lit (.bool (decide ((bits .or .u64 x1 x2) = 0)))) ∧ M = Mem.nil) := by
 unfold g_dec_wide_zero at H
 refine Go.Q.Spec.of_bodyR (az := []) (rs := [.tmp 2]) (nt := 9) Tryz.func131 rfl rfl (by intro t T h; simp at h) rfl rfl fun cx hnp => ?_
 refine WP.sr ?_
 refine WPL.d (d_box rfl rfl) rfl ?_
 refine WPL.qq (q_as (v := .lit (.bool _)) rfl) ?_
 refine WPL.nx ?_
 refine WP.sr ?_
 refine WPL.qq (q_fieldAddr fi69_0 rfl rfl) ?_
 refine WPL.qq (q_load sc67 rfl rfl rfl) ?_
 refine WPL.qq (q_fieldAddr fi69_1 rfl rfl) ?_
 refine WPL.qq (q_load sc67 rfl rfl rfl) ?_
 refine WPL.qq (q_or rfl rfl) ?_
 refine WPL.qq (q_eql rfl rfl) ?_
 refine WPL.qq (q_as (v := .lit (.bool _)) rfl) ?_
 refine WPL.nx ?_
 refine WP.retW ?_
 exact W.now (BodyR.mkR trivial rfl [] ⟨rfl, rfl⟩ ⟨rfl, trivial, by decide, rfl, trivial⟩ rfl rfl)
theorem s_mb_Len64 (k : Nat) (x1 : Int) (x2 : Int) (H : g_mb_Len64 k x1 = some x2) : Go.Q.Spec Tryz.prog 176 0 [.lit (.int .u64 x1)] Mem.nil (fun o M => o = .ret (.lit (.int .i64 x2)) ∧ M = Mem.nil) := by
 unfold g_mb_Len64 at H
 refine Go.Q.Spec.of_bodyR (az := []) (rs := [.tmp 2]) (nt := 25) Tryz.func176 rfl rfl (by intro t T h; simp at h) rfl rfl fun cx hnp => ?_
 refine WP.sr ?_
 refine WPL.qq (q_as (v := .lit (.int _ _)) rfl) ?_
 refine WPL.nx ?_
 refine WP.seq ?_
 obtain ⟨⟨x3, x4⟩, H1, H⟩ := bnd H
 refine WP.monoW (Q := fun x E M => x = .normal ∧ E = ((Env.none.upd 0 (.lit (.int .u64 x3))).upd 2 (.lit (.int .i64 x4))) ∧ M = Mem.nil) ?_ ?_
 · clear H
   have H := H1
   clear H1
   refine WP.sr ?_
   refine WPL.qq (q_mv (v := .lit (.int _ _)) rfl) ?_
   refine WPL.qq (q_geq rfl rfl) ?_
   refine WPL.nx ?_
   refine WP.cond (t := (decide (4294967296 ≤ x1))) rfl (fun hb1 => ?_) (fun hb1 => ?_)
   · replace H := cnt hb1 H
     refine WP.sr ?_
     refine WPL.qq (q_mv (v := .lit (.int _ _)) rfl) ?_
     refine WPL.qq (q_shr rfl rfl rfl) ?_
     refine WPL.qq (q_as (v := .lit (.int _ _)) rfl) ?_
     refine WPL.nx ?_
     refine WP.region ?_
     refine WPL.qq (q_as (v := .lit (.int _ _)) rfl) ?_
     refine WPL.nilW ?_
     obtain ⟨rfl, rfl⟩ := j2 H
     exact W.wk [] hnp r3 ⟨rfl, trivial, by decide, rfl, trivial⟩ (LeE.u (LeE.u (LeE.none rfl rfl))) rfl
   replace H := cnf hb1 H
   refine WP.skipW ?_
   obtain ⟨rfl, rfl⟩ := j2 H
   exact W.wk [] hnp r3 ⟨rfl, trivial, by decide, rfl, trivial⟩ (LeE.u (LeE.u (LeE.none rfl rfl))) rfl
 rintro _ _ _ ⟨rfl, rfl, rfl⟩
 refine W.now ?_
 refine Then.n ?_
 refine WP.seq ?_
 obtain ⟨⟨x5, x6⟩, H2, H⟩ := bnd H
 refine WP.monoW (Q := fun x E M => x = .normal ∧ E = ((Env.none.upd 0 (.lit (.int .u64 x5))).upd 2 (.lit (.int .i64 x6))) ∧ M = Mem.nil) ?_ ?_
 · clear H
   have H := H2
   clear H2
   refine WP.sr ?_
   refine WPL.qq (q_mv (v := .lit (.int _ _)) rfl) ?_
   refine WPL.qq (q_geq rfl rfl) ?_
   refine WPL.nx ?_
   refine WP.cond (t := (decide (65536 ≤ x3))) rfl (fun hb2 => ?_) (fun hb2 => ?_)
   · replace H := cnt hb2 H
     refine WP.sr ?_
     refine WPL.qq (q_mv (v := .lit (.int _ _)) rfl) ?_
     refine WPL.qq (q_shr rfl rfl rfl) ?_
     refine WPL.qq (q_as (v := .lit (.int _ _)) rfl) ?_
     refine WPL.nx ?_
     refine WP.region ?_
     refine WPL.qq (q_mv (v := .lit (.int _ _)) rfl) ?_
     refine WPL.qq (q_add rfl rfl) ?_
     refine WPL.qq (q_as (v := .lit (.int _ _)) rfl) ?_
     refine WPL.nilW ?_
     obtain ⟨rfl, rfl⟩ := j2 H
     exact W.wk [] hnp r3 ⟨rfl, trivial, by decide, rfl, trivial⟩ (LeE.u (LeE.u (LeE.none rfl rfl))) rfl
   replace H := cnf hb2 H
   refine WP.skipW ?_
   obtain ⟨rfl, rfl⟩ := j2 H
   exact W.wk [] hnp r3 ⟨rfl, trivial, by decide, rfl, trivial⟩ (LeE.u (LeE.u (LeE.none rfl rfl))) rfl
 rintro _ _ _ ⟨rfl, rfl, rfl⟩
 refine W.now ?_
 refine Then.n ?_
 refine WP.seq ?_
 obtain ⟨⟨x7, x8⟩, H3, H⟩ := bnd H
 refine WP.monoW (Q := fun x E M => x = .normal ∧ E = ((Env.none.upd 0 (.lit (.int .u64 x7))).upd 2 (.lit (.int .i64 x8))) ∧ M = Mem.nil) ?_ ?_
 · clear H
   have H := H3
   clear H3
   refine WP.sr ?_
   refine WPL.qq (q_mv (v := .lit (.int _ _)) rfl) ?_
   refine WPL.qq (q_geq rfl rfl) ?_
   refine WPL.nx ?_
   refine WP.cond (t := (decide (256 ≤ x5))) rfl (fun hb3 => ?_) (fun hb3 => ?_)
   · replace H := cnt hb3 H
     refine WP.sr ?_
     refine WPL.qq (q_mv (v := .lit (.int _ _)) rfl) ?_
     refine WPL.qq (q_shr rfl rfl rfl) ?_
     refine WPL.qq (q_as (v := .lit (.int _ _)) rfl) ?_
     refine WPL.nx ?_
     refine WP.region ?_
     refine WPL.qq (q_mv (v := .lit (.int _ _)) rfl) ?_
     refine WPL.qq (q_add rfl rfl) ?_
     refine WPL.qq (q_as (v := .lit (.int _ _)) rfl) ?_
     refine WPL.nilW ?_
     obtain ⟨rfl, rfl⟩ := j2 H
     exact W.wk [] hnp r3 ⟨rfl, trivial, by decide, rfl, trivial⟩ (LeE.u (LeE.u (LeE.none rfl rfl))) rfl
   replace H := cnf hb3 H
   refine WP.skipW ?_
   obtain ⟨rfl, rfl⟩ := j2 H
   exact W.wk [] hnp r3 ⟨rfl, trivial, by decide, rfl, trivial⟩ (LeE.u (LeE.u (LeE.none rfl rfl))) rfl
 rintro _ _ _ ⟨rfl, rfl, rfl⟩
 refine W.now ?_
 refine Then.n ?_
 refine WP.sr ?_
 refine WPL.qq (q_mv (v := .lit (.int _ _)) rfl) ?_
 refine WPL.qq (q_mv (v := .lit (.int _ _)) rfl) ?_
 refine WPL.qq (q_conv Tryz.underlying67 Tryz.underlying5 rfl) ?_
 obtain ⟨x9, h1, H⟩ := bnd H
 refine WPL.qq (q_index_str Tryz.underlying9 rfl rfl h1) ?_
 refine WPL.qq (q_conv Tryz.underlying5 Tryz.underlying3 rfl) ?_
 obtain ⟨x10, h2, H⟩ := bnd H
 refine WPL.qq (q_nm (q_add rfl rfl) (nm_int h2)) ?_
 refine WPL.qq (q_as (v := .lit (.int _ _)) rfl) ?_
 refine WPL.nx ?_
 refine WP.retW ?_
 have q0 := j1 H
 subst q0
 exact W.now (BodyR.mkR trivial rfl [] ⟨rfl, rfl⟩ ⟨rfl, trivial, by decide, rfl, trivial⟩ rfl rfl)
theorem s_mb_LeadingZeros64 (k : Nat) (x1 : Int) (x2 : Int) (H : g_mb_LeadingZeros64 k x1 = some x2) : Go.Q.Spec Tryz.prog 169 0 [.lit (.int .u64 x1)] Mem.nil (fun o M => o = .ret (.lit (.int .i64 x2)) ∧ M = Mem.nil) := by
 unfold g_mb_LeadingZeros64 at H
 refine Go.Q.Spec.of_bodyR (az := []) (rs := [.tmp 2]) (nt := 6) Tryz.func169 rfl rfl (by intro t T h; simp at h) rfl rfl fun cx hnp => ?_
 refine WP.sr ?_
 refine WPL.qq (q_as (v := .lit (.int _ _)) rfl) ?_
 refine WPL.nx ?_
 refine WP.sr ?_
 refine WPL.qq (q_mv (v := .lit (.int _ _)) rfl) ?_
 obtain ⟨x3, h1, H⟩ := bnd H
 refine WPL.c (runs_call (s := []) (t := []) (N := 0) (bor := []) fn176 rfl (s_mb_Len64 k x1 x3 h1) ⟨rfl, trivial, by decide, rfl, trivial⟩ rfl trivial (.ren rfl rfl .nil) rfl trivial rfl) rfl ?_
 refine WPL.qq (q_sub rfl rfl) ?_
 refine WPL.qq (q_as (v := .lit (.int _ _)) rfl) ?_
 refine WPL.nx ?_
 refine WP.retW ?_
 have q0 := j1 H
 subst q0
 exact W.now (BodyR.mkR trivial rfl [] ⟨rfl, rfl⟩ ⟨rfl, trivial, by decide, rfl, trivial⟩ rfl rfl)
theorem s_mb_Div64 (k : Nat) (x1 : Int) (x2 : Int) (x3 : Int) (x4 : Int) (x5 : Int) (H : g_mb_Div64 k x1 x2 x3 = some (x4, x5)) : Go.Q.Spec Tryz.prog 158 0 [.lit (.int .u64 x1), .lit (.int .u64 x2), .lit (.int .u64 x3)] Mem.nil (fun o M => o = .ret (.tup [.lit (.int .u64 x4), .lit (.int .u64 x5)]) ∧ M = Mem.nil) := by
 unfold g_mb_Div64 at H
 refine Go.Q.Spec.of_bodyR (az := []) (rs := [.tmp 6, .tmp 7]) (nt := 135) Tryz.func158 rfl rfl (by intro t T h; simp at h) rfl rfl fun cx hnp => ?_
 refine WP.sr ?_
 refine WPL.qq (q_as (v := .lit (.int _ _)) rfl) ?_
 refine WPL.qq (q_as (v := .lit (.int _ _)) rfl) ?_
 refine WPL.nx ?_
 refine WP.seq ?_
 refine WP.sr ?_
 refine WPL.qq (q_mv (v := .lit (.int _ _)) rfl) ?_
 refine WPL.qq (q_eql rfl rfl) ?_
 refine WPL.nx ?_
 refine WP.cond (t := (decide (x3 = 0))) rfl (fun hb1 => ?_) (fun hb1 => ?_)
 · replace H := cnt hb1 H
   refine WP.region ?_
   exact nf rfl H
 replace H := cnf hb1 H
 refine WP.skipW ?_
 refine W.now ?_
 refine Then.n ?_
 refine WP.seq ?_
 refine WP.sr ?_
 refine WPL.qq (q_mv (v := .lit (.int _ _)) rfl) ?_
 refine WPL.qq (q_mv (v := .lit (.int _ _)) rfl) ?_
 refine WPL.qq (q_leq rfl rfl) ?_
 refine WPL.nx ?_
 refine WP.cond (t := (decide (x3 ≤ x1))) rfl (fun hb2 => ?_) (fun hb2 => ?_)
 · replace H := cnt hb2 H
   refine WP.region ?_
   exact nf rfl H
 replace H := cnf hb2 H
 refine WP.skipW ?_
 refine W.now ?_
 refine Then.n ?_
 refine WP.seq ?_
 refine WP.sr ?_
 refine WPL.qq (q_mv (v := .lit (.int _ _)) rfl) ?_
 refine WPL.qq (q_eql rfl rfl) ?_
 refine WPL.nx ?_
 refine WP.cond (t := (decide (x1 = 0))) rfl (fun hb3 => ?_) (fun hb3 => ?_)
 · replace H := cnt hb3 H
   refine WP.seq ?_
   refine WP.regionD' 8 [] [] mixed rfl ?_
   refine WPD.tT 0 rfl (q_mv (v := .lit (.int _ _)) rfl) ?_
   refine WPD.tT 1 rfl (q_mv (v := .lit (.int _ _)) rfl) ?_
   obtain ⟨h1, H⟩ := grd H
   refine WPD.tT 2 rfl (q_quo rfl rfl (bnot h1)) ?_
   refine WPD.tT 3 rfl (q_mv (v := .lit (.int _ _)) rfl) ?_
   refine WPD.tT 4 rfl (q_mv (v := .lit (.int _ _)) rfl) ?_
   obtain ⟨h2, H⟩ := grd H
   refine WPD.tT 5 rfl (q_rem rfl rfl (bnot h2)) ?_
   refine WPD.tT 6 rfl (q_as (v := .lit (.int _ _)) rfl) ?_
   refine WPD.tT 7 rfl (q_as (v := .lit (.int _ _)) rfl) ?_
   refine WPD.doneW (by kernel_rfl) ?_
   refine W.now ?_
   refine Then.n ?_
   refine WP.retW ?_
   obtain ⟨rfl, rfl⟩ := j2 H
   exact W.now (Then.r (BodyR.mkR trivial rfl [] ⟨rfl, rfl⟩ ⟨rfl, trivial, by decide, rfl, trivial⟩ rfl rfl))
 replace H := cnf hb3 H
 refine WP.skipW ?_
 refine W.now ?_
 refine Then.n ?_
 refine WP.sr ?_
 refine WPL.qq (q_mv (v := .lit (.int _ _)) rfl) ?_
 obtain ⟨x6, h3, H⟩ := bnd H
 refine WPL.c (runs_call (s := []) (t := []) (N := 0) (bor := []) fn169 rfl (s_mb_LeadingZeros64 k x3 x6 h3) ⟨rfl, trivial, by decide, rfl, trivial⟩ rfl trivial (.ren rfl rfl .nil) rfl trivial rfl) rfl ?_
 refine WPL.qq (q_conv Tryz.underlying3 Tryz.underlying137 rfl) ?_
 refine WPL.qq (q_as (v := .lit (.int _ _)) rfl) ?_
 refine WPL.nx ?_
 refine WP.sr ?_
 refine WPL.qq (q_mv (v := .lit (.int _ _)) rfl) ?_
 refine WPL.qq (q_mv (v := .lit (.int _ _)) rfl) ?_
 obtain ⟨h4, H⟩ := grd H
 obtain ⟨x7, h5, H⟩ := bnd H
 refine WPL.qq (q_nm (q_shl rfl rfl h4) (nm_int h5)) ?_
 refine WPL.qq (q_as (v := .lit (.int _ _)) rfl) ?_
 refine WPL.nx ?_
 refine WP.sr ?_
 refine WPL.qq (q_mv (v := .lit (.int _ _)) rfl) ?_
 refine WPL.qq (q_shr rfl rfl rfl) ?_
 refine WPL.qq (q_as (v := .lit (.int _ _)) rfl) ?_
 refine WPL.nx ?_
 refine WP.sr ?_
 refine WPL.qq (q_mv (v := .lit (.int _ _)) rfl) ?_
 refine WPL.qq (q_and rfl rfl) ?_
 refine WPL.qq (q_as (v := .lit (.int _ _)) rfl) ?_
 refine WPL.nx ?_
 refine WP.sr ?_
 refine WPL.qq (q_mv (v := .lit (.int _ _)) rfl) ?_
 refine WPL.qq (q_mv (v := .lit (.int _ _)) rfl) ?_
 obtain ⟨h5, H⟩ := grd H
 obtain ⟨x8, h6, H⟩ := bnd H
 refine WPL.qq (q_nm (q_shl rfl rfl h5) (nm_int h6)) ?_
 refine WPL.qq (q_mv (v := .lit (.int _ _)) rfl) ?_
 refine WPL.qq (q_mv (v := .lit (.int _ _)) rfl) ?_
 obtain ⟨x9, h7, H⟩ := bnd H
 refine WPL.qq (q_nm (q_sub rfl rfl) (nm_int h7)) ?_
 obtain ⟨h7, H⟩ := grd H
 refine WPL.qq (q_shr rfl rfl h7) ?_
 refine WPL.qq (q_or rfl rfl) ?_
 refine WPL.qq (q_as (v := .lit (.int _ _)) rfl) ?_
 refine WPL.nx ?_
 refine WP.sr ?_
 refine WPL.qq (q_mv (v := .lit (.int _ _)) rfl) ?_
 refine WPL.qq (q_mv (v := .lit (.int _ _)) rfl) ?_
 obtain ⟨h8, H⟩ := grd H
 obtain ⟨x10, h9, H⟩ := bnd H
 refine WPL.qq (q_nm (q_shl rfl rfl h8) (nm_int h9)) ?_
 refine WPL.qq (q_as (v := .lit (.int _ _)) rfl) ?_
 refine WPL.nx ?_
 refine WP.sr ?_
 refine WPL.qq (q_mv (v := .lit (.int _ _)) rfl) ?_
 refine WPL.qq (q_shr rfl rfl rfl) ?_
 refine WPL.qq (q_as (v := .lit (.int _ _)) rfl) ?_
 refine WPL.nx ?_
 refine WP.sr ?_
 refine WPL.qq (q_mv (v := .lit (.int _ _)) rfl) ?_
 refine WPL.qq (q_and rfl rfl) ?_
 refine WPL.qq (q_as (v := .lit (.int _ _)) rfl) ?_
 refine WPL.nx ?_
 refine WP.sr ?_
 refine WPL.qq (q_mv (v := .lit (.int _ _)) rfl) ?_
 refine WPL.qq (q_mv (v := .lit (.int _ _)) rfl) ?_
 obtain ⟨h9, H⟩ := grd H
 obtain ⟨x11, h10, H⟩ := bnd H
 refine WPL.qq (q_nm (q_quo rfl rfl (bnot h9)) (nm_int h10)) ?_
 refine WPL.qq (q_as (v := .lit (.int _ _)) rfl) ?_
 refine WPL.nx ?_
 refine WP.sr ?_
 refine WPL.qq (q_mv (v := .lit (.int _ _)) rfl) ?_
 refine WPL.qq (q_mv (v := .lit (.int _ _)) rfl) ?_
 refine WPL.qq (q_mv (v := .lit (.int _ _)) rfl) ?_
 obtain ⟨x12, h11, H⟩ := bnd H
 refine WPL.qq (q_nm (q_mul rfl rfl) (nm_int h11)) ?_
 obtain ⟨x13, h12, H⟩ := bnd H
 refine WPL.qq (q_nm (q_sub rfl rfl) (nm_int h12)) ?_
 refine WPL.qq (q_as (v := .lit (.int _ _)) rfl) ?_
 refine WPL.nx ?_
 refine WP.seq ?_
 refine WP.block ?_
 refine WP.cv (Cv.weak (E' := (((((((((Env.none.upd 2 (.lit (.int .u64 x7))).upd 8 (.lit (.int .u64 (IntKind.wrap .u64 x6)))).upd 9 (.lit (.int .u64 (shrI .u64 x7 32)))).upd 10 (.lit (.int .u64 (bits .and .u64 x7 4294967295)))).upd 11 (.lit (.int .u64 (bits .or .u64 x8 (shrI .u64 x2 x9))))).upd 13 (.lit (.int .u64 (shrI .u64 x10 32)))).upd 14 (.lit (.int .u64 (bits .and .u64 x10 4294967295)))).upd 15 (.lit (.int .u64 x11))).upd 16 (.lit (.int .u64 x13)))) (M' := Mem.nil) [] hnp ⟨rfl, trivial, by decide, rfl, trivial⟩ (LeE.u (LeE.u (LeE.u (LeE.u (LeE.u (LeE.u (LeE.u (LeE.u (LeE.u (LeE.none rfl rfl))))))))))) ?_
 obtain ⟨x14, H1, H⟩ := bnd H
 refine WP.monoW (Q := fun x E M => x = .exit 0 ∧ E = ((((((((Env.none.upd 2 (.lit (.int .u64 x7))).upd 8 (.lit (.int .u64 (IntKind.wrap .u64 x6)))).upd 9 (.lit (.int .u64 (shrI .u64 x7 32)))).upd 10 (.lit (.int .u64 (bits .and .u64 x7 4294967295)))).upd 11 (.lit (.int .u64 (bits .or .u64 x8 (shrI .u64 x2 x9))))).upd 13 (.lit (.int .u64 (shrI .u64 x10 32)))).upd 14 (.lit (.int .u64 (bits .and .u64 x10 4294967295)))).upd 15 (.lit (.int .u64 x14))) ∧ M = Mem.nil) ?_ ?_
 · refine WP.loop (β := Int × Int) (fun n b => g_mb_Div64_l0 k x7 x10 n b.1 b.2 = some x14) (fun b => (((((((((Env.none.upd 2 (.lit (.int .u64 x7))).upd 8 (.lit (.int .u64 (IntKind.wrap .u64 x6)))).upd 9 (.lit (.int .u64 (shrI .u64 x7 32)))).upd 10 (.lit (.int .u64 (bits .and .u64 x7 4294967295)))).upd 11 (.lit (.int .u64 (bits .or .u64 x8 (shrI .u64 x2 x9))))).upd 13 (.lit (.int .u64 (shrI .u64 x10 32)))).upd 14 (.lit (.int .u64 (bits .and .u64 x10 4294967295)))).upd 15 (.lit (.int .u64 b.1))).upd 16 (.lit (.int .u64 b.2)))) (fun b => Mem.nil) k (x11, x13) H1 rfl rfl ?_
   rintro n ⟨x15, x16⟩ H
   obtain _ | n := n
   · exact nf rfl H
   rw [g_mb_Div64_l0.eq_2] at H
   show WP _ _ _ _ (((((((((Env.none.upd 2 (.lit (.int .u64 x7))).upd 8 (.lit (.int .u64 (IntKind.wrap .u64 x6)))).upd 9 (.lit (.int .u64 (shrI .u64 x7 32)))).upd 10 (.lit (.int .u64 (bits .and .u64 x7 4294967295)))).upd 11 (.lit (.int .u64 (bits .or .u64 x8 (shrI .u64 x2 x9))))).upd 13 (.lit (.int .u64 (shrI .u64 x10 32)))).upd 14 (.lit (.int .u64 (bits .and .u64 x10 4294967295)))).upd 15 (.lit (.int .u64 x15))).upd 16 (.lit (.int .u64 x16))) Mem.nil _
   refine WP.seq ?_
   refine WP.seq ?_
   obtain ⟨x17, H2, H⟩ := bnd H
   refine WP.monoW (Q := fun x E M => x = .normal ∧ E = ((((((((((Env.none.upd 2 (.lit (.int .u64 x7))).upd 8 (.lit (.int .u64 (IntKind.wrap .u64 x6)))).upd 9 (.lit (.int .u64 (shrI .u64 x7 32)))).upd 10 (.lit (.int .u64 (bits .and .u64 x7 4294967295)))).upd 11 (.lit (.int .u64 (bits .or .u64 x8 (shrI .u64 x2 x9))))).upd 13 (.lit (.int .u64 (shrI .u64 x10 32)))).upd 14 (.lit (.int .u64 (bits .and .u64 x10 4294967295)))).upd 15 (.lit (.int .u64 x15))).upd 16 (.lit (.int .u64 x16))).upd 78 (.lit (.bool x17))) ∧ M = Mem.nil) ?_ ?_
   · clear H
     have H := H2
     clear H2
     refine WP.region ?_
     refine WPL.qq (q_mv (v := .lit (.int _ _)) rfl) ?_
     refine WPL.qq (q_geq rfl rfl) ?_
     refine WPL.qq (q_mv (v := .lit (.bool _)) rfl) ?_
     refine WPL.split (t := 69) (b := (decide (4294967296 ≤ x15))) rfl (fun hb4 => ?_) (fun hb4 => ?_)
     · replace H := cnt hb4 H
       refine WPL.sg true rfl (lb hb4) ?_
       refine WPL.sg true rfl (lb hb4) ?_
       refine WPL.sg true rfl (lb hb4) ?_
       refine WPL.sg true rfl (lb hb4) ?_
       refine WPL.sg true rfl (lb hb4) ?_
       refine WPL.sg true rfl (lb hb4) ?_
       refine WPL.sg true rfl (lb hb4) ?_
       refine WPL.sg true rfl (lb hb4) ?_
       refine WPL.qq (q_pickT (v := .lit (.bool _)) (lb hb4) rfl) ?_
       refine WPL.nilW ?_
       have q0 := j1 H
       subst q0
       exact W.wk [] hnp r3 ⟨rfl, trivial, by decide, rfl, trivial⟩ (LeE.u (LeE.u (LeE.u (LeE.u (LeE.u (LeE.u (LeE.u (LeE.u (LeE.u (LeE.u (LeE.none rfl rfl))))))))))) rfl
     replace H := cnf hb4 H
     refine WPL.gq rfl (lb hb4) (q_mv (v := .lit (.int _ _)) rfl) ?_
     refine WPL.gq rfl (lb hb4) (q_mv (v := .lit (.int _ _)) rfl) ?_
     obtain ⟨x18, h13, H⟩ := bnd H
     refine WPL.gq rfl (lb hb4) (q_nm (q_mul rfl rfl) (nm_int h13)) ?_
     refine WPL.gq rfl (lb hb4) (q_mv (v := .lit (.int _ _)) rfl) ?_
     obtain ⟨x19, h14, H⟩ := bnd H
     refine WPL.gq rfl (lb hb4) (q_nm (q_mul rfl rfl) (nm_int h14)) ?_
     refine WPL.gq rfl (lb hb4) (q_mv (v := .lit (.int _ _)) rfl) ?_
     obtain ⟨x20, h15, H⟩ := bnd H
     refine WPL.gq rfl (lb hb4) (q_nm (q_add rfl rfl) (nm_int h15)) ?_
     refine WPL.gq rfl (lb hb4) (q_gtr rfl rfl) ?_
     refine WPL.qq (q_pickF (v := .lit (.bool _)) (lb hb4) rfl) ?_
     refine WPL.nilW ?_
     have q0 := j1 H
     subst q0
     exact W.wk [] hnp r3 ⟨rfl, trivial, by decide, rfl, trivial⟩ (LeE.u (LeE.u (LeE.u (LeE.u (LeE.u (LeE.u (LeE.u (LeE.u (LeE.u (LeE.u (LeE.none rfl rfl))))))))))) rfl
   rintro _ _ _ ⟨rfl, rfl, rfl⟩
   refine W.now ?_
   refine Then.n ?_
   refine WP.cond (t := x17) rfl (fun hb5 => ?_) (fun hb5 => ?_)
   · replace H := cnt hb5 H
     refine WP.skipW ?_
     refine W.now ?_
     refine Then.n ?_
     refine WP.block ?_
     refine WP.sr ?_
     refine WPL.qq (q_mv (v := .lit (.int _ _)) rfl) ?_
     refine WPL.qq (q_sub rfl rfl) ?_
     refine WPL.qq (q_as (v := .lit (.int _ _)) rfl) ?_
     refine WPL.nx ?_
     refine WP.sr ?_
     refine WPL.qq (q_mv (v := .lit (.int _ _)) rfl) ?_
     refine WPL.qq (q_mv (v := .lit (.int _ _)) rfl) ?_
     obtain ⟨x21, h16, H⟩ := bnd H
     refine WPL.qq (q_nm (q_add rfl rfl) (nm_int h16)) ?_
     refine WPL.qq (q_as (v := .lit (.int _ _)) rfl) ?_
     refine WPL.nx ?_
     refine WP.sr ?_
     refine WPL.qq (q_mv (v := .lit (.int _ _)) rfl) ?_
     refine WPL.qq (q_geq rfl rfl) ?_
     refine WPL.nx ?_
     refine WP.cond (t := (decide (4294967296 ≤ x21))) rfl (fun hb6 => ?_) (fun hb6 => ?_)
     · replace H := cnt hb6 H
       refine WP.exitW ?_
       have q0 := j1 H
       subst q0
       exact W.wk [] hnp (InBlock.x rfl (Then.x r3)) ⟨rfl, trivial, by decide, rfl, trivial⟩ (LeE.u (LeE.u (LeE.u (LeE.u (LeE.u (LeE.u (LeE.u (LeE.u (LeE.none rfl rfl))))))))) rfl
     replace H := cnf hb6 H
     refine WP.skipW ?_
     exact W.wk [] hnp (InBlock.n (Then.n ⟨n, ((IntKind.wrap .u64 (x15 - 1)), x21), Nat.lt_succ_self n, H, rfl, rfl⟩)) ⟨rfl, trivial, by decide, rfl, trivial⟩ (LeE.u (LeE.u (LeE.u (LeE.u (LeE.u (LeE.u (LeE.u (LeE.u (LeE.u (LeE.none rfl rfl)))))))))) rfl
   replace H := cnf hb5 H
   refine WP.exitW ?_
   have q0 := j1 H
   subst q0
   exact W.wk [] hnp (Then.x (Then.x r3)) ⟨rfl, trivial, by decide, rfl, trivial⟩ (LeE.u (LeE.u (LeE.u (LeE.u (LeE.u (LeE.u (LeE.u (LeE.u (LeE.none rfl rfl))))))))) rfl
 rintro _ _ _ ⟨rfl, rfl, rfl⟩
 refine W.now ?_
 refine InBlock.x0 ?_
 refine Then.n ?_
 refine WP.sr ?_
 refine WPL.qq (q_mv (v := .lit (.int _ _)) rfl) ?_
 obtain ⟨x22, h17, H⟩ := bnd H
 refine WPL.qq (q_nm (q_mul rfl rfl) (nm_int h17)) ?_
 refine WPL.qq (q_mv (v := .lit (.int _ _)) rfl) ?_
 obtain ⟨x23, h18, H⟩ := bnd H
 refine WPL.qq (q_nm (q_add rfl rfl) (nm_int h18)) ?_
 refine WPL.qq (q_mv (v := .lit (.int _ _)) rfl) ?_
 refine WPL.qq (q_mv (v := .lit (.int _ _)) rfl) ?_
 refine WPL.qq (q_mul rfl rfl) ?_
 obtain ⟨x24, h19, H⟩ := bnd H
 refine WPL.qq (q_nm (q_sub rfl rfl) (nm_int h19)) ?_
 refine WPL.qq (q_as (v := .lit (.int _ _)) rfl) ?_
 refine WPL.nx ?_
 refine WP.sr ?_
 refine WPL.qq (q_mv (v := .lit (.int _ _)) rfl) ?_
 refine WPL.qq (q_mv (v := .lit (.int _ _)) rfl) ?_
 obtain ⟨h19, H⟩ := grd H
 obtain ⟨x25, h20, H⟩ := bnd H
 refine WPL.qq (q_nm (q_quo rfl rfl (bnot h19)) (nm_int h20)) ?_
 refine WPL.qq (q_as (v := .lit (.int _ _)) rfl) ?_
 refine WPL.nx ?_
 refine WP.sr ?_
 refine WPL.qq (q_mv (v := .lit (.int _ _)) rfl) ?_
 refine WPL.qq (q_mv (v := .lit (.int _ _)) rfl) ?_
 refine WPL.qq (q_mv (v := .lit (.int _ _)) rfl) ?_
 obtain ⟨x26, h21, H⟩ := bnd H
 refine WPL.qq (q_nm (q_mul rfl rfl) (nm_int h21)) ?_
 refine WPL.qq (q_sub rfl rfl) ?_
 refine WPL.qq (q_as (v := .lit (.int _ _)) rfl) ?_
 refine WPL.nx ?_
 refine WP.seq ?_
 refine WP.block ?_
 refine WP.cv (Cv.weak (E' := (((((((((Env.none.upd 2 (.lit (.int .u64 x7))).upd 8 (.lit (.int .u64 (IntKind.wrap .u64 x6)))).upd 9 (.lit (.int .u64 (shrI .u64 x7 32)))).upd 10 (.lit (.int .u64 (bits .and .u64 x7 4294967295)))).upd 14 (.lit (.int .u64 (bits .and .u64 x10 4294967295)))).upd 15 (.lit (.int .u64 x14))).upd 16 (.lit (.int .u64 (IntKind.wrap .u64 (x24 - x26))))).upd 17 (.lit (.int .u64 x24))).upd 18 (.lit (.int .u64 x25)))) (M' := Mem.nil) [] hnp ⟨rfl, trivial, by decide, rfl, trivial⟩ (LeE.u (LeE.u (LeE.u (LeE.u (LeE.u (LeE.u (LeE.u (LeE.u (LeE.u (LeE.none rfl rfl))))))))))) ?_
 obtain ⟨x27, H3, H⟩ := bnd H
 refine WP.monoW (Q := fun x E M => x = .exit 2 ∧ E = ((((((Env.none.upd 2 (.lit (.int .u64 x7))).upd 8 (.lit (.int .u64 (IntKind.wrap .u64 x6)))).upd 14 (.lit (.int .u64 (bits .and .u64 x10 4294967295)))).upd 15 (.lit (.int .u64 x14))).upd 17 (.lit (.int .u64 x24))).upd 18 (.lit (.int .u64 x27))) ∧ M = Mem.nil) ?_ ?_
 · refine WP.loop (β := Int × Int) (fun n b => g_mb_Div64_l1 k x7 x10 n b.1 b.2 = some x27) (fun b => (((((((((Env.none.upd 2 (.lit (.int .u64 x7))).upd 8 (.lit (.int .u64 (IntKind.wrap .u64 x6)))).upd 9 (.lit (.int .u64 (shrI .u64 x7 32)))).upd 10 (.lit (.int .u64 (bits .and .u64 x7 4294967295)))).upd 14 (.lit (.int .u64 (bits .and .u64 x10 4294967295)))).upd 15 (.lit (.int .u64 x14))).upd 16 (.lit (.int .u64 b.1))).upd 17 (.lit (.int .u64 x24))).upd 18 (.lit (.int .u64 b.2)))) (fun b => Mem.nil) k ((IntKind.wrap .u64 (x24 - x26)), x25) H3 rfl rfl ?_
   rintro n ⟨x28, x29⟩ H
   obtain _ | n := n
   · exact nf rfl H
   rw [g_mb_Div64_l1.eq_2] at H
   show WP _ _ _ _ (((((((((Env.none.upd 2 (.lit (.int .u64 x7))).upd 8 (.lit (.int .u64 (IntKind.wrap .u64 x6)))).upd 9 (.lit (.int .u64 (shrI .u64 x7 32)))).upd 10 (.lit (.int .u64 (bits .and .u64 x7 4294967295)))).upd 14 (.lit (.int .u64 (bits .and .u64 x10 4294967295)))).upd 15 (.lit (.int .u64 x14))).upd 16 (.lit (.int .u64 x28))).upd 17 (.lit (.int .u64 x24))).upd 18 (.lit (.int .u64 x29))) Mem.nil _
   refine WP.seq ?_
   refine WP.seq ?_
   obtain ⟨x30, H4, H⟩ := bnd H
   refine WP.monoW (Q := fun x E M => x = .normal ∧ E = ((((((((((Env.none.upd 2 (.lit (.int .u64 x7))).upd 8 (.lit (.int .u64 (IntKind.wrap .u64 x6)))).upd 9 (.lit (.int .u64 (shrI .u64 x7 32)))).upd 10 (.lit (.int .u64 (bits .and .u64 x7 4294967295)))).upd 14 (.lit (.int .u64 (bits .and .u64 x10 4294967295)))).upd 15 (.lit (.int .u64 x14))).upd 16 (.lit (.int .u64 x28))).upd 17 (.lit (.int .u64 x24))).upd 18 (.lit (.int .u64 x29))).upd 113 (.lit (.bool x30))) ∧ M = Mem.nil) ?_ ?_
   · clear H
     have H := H4
     clear H4
     refine WP.region ?_
     refine WPL.qq (q_mv (v := .lit (.int _ _)) rfl) ?_
     refine WPL.qq (q_geq rfl rfl) ?_
     refine WPL.qq (q_mv (v := .lit (.bool _)) rfl) ?_
     refine WPL.split (t := 104) (b := (decide (4294967296 ≤ x29))) rfl (fun hb7 => ?_) (fun hb7 => ?_)
     · replace H := cnt hb7 H
       refine WPL.sg true rfl (lb hb7) ?_
       refine WPL.sg true rfl (lb hb7) ?_
       refine WPL.sg true rfl (lb hb7) ?_
       refine WPL.sg true rfl (lb hb7) ?_
       refine WPL.sg true rfl (lb hb7) ?_
       refine WPL.sg true rfl (lb hb7) ?_
       refine WPL.sg true rfl (lb hb7) ?_
       refine WPL.sg true rfl (lb hb7) ?_
       refine WPL.qq (q_pickT (v := .lit (.bool _)) (lb hb7) rfl) ?_
       refine WPL.nilW ?_
       have q0 := j1 H
       subst q0
       exact W.wk [] hnp r3 ⟨rfl, trivial, by decide, rfl, trivial⟩ (LeE.u (LeE.u (LeE.u (LeE.u (LeE.u (LeE.u (LeE.u (LeE.u (LeE.u (LeE.u (LeE.none rfl rfl))))))))))) rfl
     replace H := cnf hb7 H
     refine WPL.gq rfl (lb hb7) (q_mv (v := .lit (.int _ _)) rfl) ?_
     refine WPL.gq rfl (lb hb7) (q_mv (v := .lit (.int _ _)) rfl) ?_
     obtain ⟨x31, h22, H⟩ := bnd H
     refine WPL.gq rfl (lb hb7) (q_nm (q_mul rfl rfl) (nm_int h22)) ?_
     refine WPL.gq rfl (lb hb7) (q_mv (v := .lit (.int _ _)) rfl) ?_
     obtain ⟨x32, h23, H⟩ := bnd H
     refine WPL.gq rfl (lb hb7) (q_nm (q_mul rfl rfl) (nm_int h23)) ?_
     refine WPL.gq rfl (lb hb7) (q_mv (v := .lit (.int _ _)) rfl) ?_
     obtain ⟨x33, h24, H⟩ := bnd H
     refine WPL.gq rfl (lb hb7) (q_nm (q_add rfl rfl) (nm_int h24)) ?_
     refine WPL.gq rfl (lb hb7) (q_gtr rfl rfl) ?_
     refine WPL.qq (q_pickF (v := .lit (.bool _)) (lb hb7) rfl) ?_
     refine WPL.nilW ?_
     have q0 := j1 H
     subst q0
     exact W.wk [] hnp r3 ⟨rfl, trivial, by decide, rfl, trivial⟩ (LeE.u (LeE.u (LeE.u (LeE.u (LeE.u (LeE.u (LeE.u (LeE.u (LeE.u (LeE.u (LeE.none rfl rfl))))))))))) rfl
   rintro _ _ _ ⟨rfl, rfl, rfl⟩
   refine W.now ?_
   refine Then.n ?_
   refine WP.cond (t := x30) rfl (fun hb8 => ?_) (fun hb8 => ?_)
   · replace H := cnt hb8 H
     refine WP.skipW ?_
     refine W.now ?_
     refine Then.n ?_
     refine WP.block ?_
     refine WP.sr ?_
     refine WPL.qq (q_mv (v := .lit (.int _ _)) rfl) ?_
     refine WPL.qq (q_sub rfl rfl) ?_
     refine WPL.qq (q_as (v := .lit (.int _ _)) rfl) ?_
     refine WPL.nx ?_
     refine WP.sr ?_
     refine WPL.qq (q_mv (v := .lit (.int _ _)) rfl) ?_
     refine WPL.qq (q_mv (v := .lit (.int _ _)) rfl) ?_
     obtain ⟨x34, h25, H⟩ := bnd H
     refine WPL.qq (q_nm (q_add rfl rfl) (nm_int h25)) ?_
     refine WPL.qq (q_as (v := .lit (.int _ _)) rfl) ?_
     refine WPL.nx ?_
     refine WP.sr ?_
     refine WPL.qq (q_mv (v := .lit (.int _ _)) rfl) ?_
     refine WPL.qq (q_geq rfl rfl) ?_
     refine WPL.nx ?_
     refine WP.cond (t := (decide (4294967296 ≤ x34))) rfl (fun hb9 => ?_) (fun hb9 => ?_)
     · replace H := cnt hb9 H
       refine WP.exitW ?_
       have q0 := j1 H
       subst q0
       exact W.wk [] hnp (InBlock.x rfl (Then.x r3)) ⟨rfl, trivial, by decide, rfl, trivial⟩ (LeE.u (LeE.u (LeE.u (LeE.u (LeE.u (LeE.u (LeE.none rfl rfl))))))) rfl
     replace H := cnf hb9 H
     refine WP.skipW ?_
     exact W.wk [] hnp (InBlock.n (Then.n ⟨n, (x34, (IntKind.wrap .u64 (x29 - 1))), Nat.lt_succ_self n, H, rfl, rfl⟩)) ⟨rfl, trivial, by decide, rfl, trivial⟩ (LeE.u (LeE.u (LeE.u (LeE.u (LeE.u (LeE.u (LeE.u (LeE.u (LeE.u (LeE.none rfl rfl)))))))))) rfl
   replace H := cnf hb8 H
   refine WP.exitW ?_
   have q0 := j1 H
   subst q0
   exact W.wk [] hnp (Then.x (Then.x r3)) ⟨rfl, trivial, by decide, rfl, trivial⟩ (LeE.u (LeE.u (LeE.u (LeE.u (LeE.u (LeE.u (LeE.none rfl rfl))))))) rfl
 rintro _ _ _ ⟨rfl, rfl, rfl⟩
 refine W.now ?_
 refine InBlock.x0 ?_
 refine Then.n ?_
 refine WP.sr ?_
 refine WPL.qq (q_mv (v := .lit (.int _ _)) rfl) ?_
 obtain ⟨x35, h26, H⟩ := bnd H
 refine WPL.qq (q_nm (q_mul rfl rfl) (nm_int h26)) ?_
 refine WPL.qq (q_mv (v := .lit (.int _ _)) rfl) ?_
 refine WPL.qq (q_add rfl rfl) ?_
 refine WPL.qq (q_mv (v := .lit (.int _ _)) rfl) ?_
 obtain ⟨x36, h27, H⟩ := bnd H
 refine WPL.qq (q_nm (q_mul rfl rfl) (nm_int h27)) ?_
 refine WPL.qq (q_mv (v := .lit (.int _ _)) rfl) ?_
 obtain ⟨x37, h28, H⟩ := bnd H
 refine WPL.qq (q_nm (q_add rfl rfl) (nm_int h28)) ?_
 refine WPL.qq (q_mv (v := .lit (.int _ _)) rfl) ?_
 refine WPL.qq (q_mv (v := .lit (.int _ _)) rfl) ?_
 refine WPL.qq (q_mul rfl rfl) ?_
 obtain ⟨x38, h29, H⟩ := bnd H
 refine WPL.qq (q_nm (q_sub rfl rfl) (nm_int h29)) ?_
 refine WPL.qq (q_mv (v := .lit (.int _ _)) rfl) ?_
 obtain ⟨h29, H⟩ := grd H
 obtain ⟨x39, h30, H⟩ := bnd H
 refine WPL.qq (q_nm (q_shr rfl rfl h29) (nm_int h30)) ?_
 refine WPL.qq (q_as (v := .lit (.int _ _)) rfl) ?_
 refine WPL.qq (q_as (v := .lit (.int _ _)) rfl) ?_
 refine WPL.nx ?_
 refine WP.retW ?_
 obtain ⟨rfl, rfl⟩ := j2 H
 exact W.now (BodyR.mkR trivial rfl [] ⟨rfl, rfl⟩ ⟨rfl, trivial, by decide, rfl, trivial⟩ rfl rfl)
end Go.Proofs.YthpcgknknpjpdaaGreatDoor.W
namespace Go.Proofs.YthpcgknknpjpdaaGreatDoor.W
open Go Go.Q Go.Proofs
set_option linter.unusedVariables false
set_option linter.unusedSimpArgs false
set_option maxRecDepth 100000
set_option maxHeartbeats 4000000
theorem s_dec_wide_by (k : Nat) (x1 : Int) (x2 : Int) (x3 : Int) (x4 : Int) (x5 : Int) (x6 : Int) (H : g_dec_wide_by k x1 x2 x3 = some (x4, x5, x6)) : Go.Q.Spec Tryz.prog 132 0 [.agg [.lit (.int .u64 x1), .lit (.int .u64 x2)], .lit (.int .u64 x3)] Mem.nil (fun o M => o = .ret (.tup [.agg [.lit (.int .u64 x5), .lit (.int .u64 x6)], .lit (.int .u64 x4)]) ∧ M = (Mem.nil.push (.cells 69 [.lit (.int .u64 x5), .lit (.int .u64 x6)]))) := by
 unfold g_dec_wide_by at H
 refine Go.Q.Spec.of_bodyR (az := [(69, 2)]) (rs := [.cell 4 69, .tmp 5]) (nt := 28) Tryz.func132 rfl rfl (by intro t T h; simp at h; rcases h with ⟨rfl, rfl⟩ <;> first | exact ag69) rfl rfl fun cx hnp => ?_
 refine WP.sr ?_
 refine WPL.d (d_box rfl rfl) rfl ?_
 refine WPL.d (d_alloc ze69 rfl) rfl ?_
 refine WPL.qq (q_as (v := .lit (.int _ _)) rfl) ?_
 refine WPL.nx ?_
 refine WP.sr ?_
 refine WPL.qq (q_fieldAddr fi69_0 rfl rfl) ?_
 refine WPL.qq (q_load sc67 rfl rfl rfl) ?_
 refine WPL.qq (q_mv (v := .lit (.int _ _)) rfl) ?_
 obtain ⟨⟨x7, x8⟩, h1, H⟩ := bnd H
 refine WPL.c (runs_call (s := []) (t := []) (N := 2) (bor := []) fn158 rfl (s_mb_Div64 k 0 x1 x3 x7 x8 h1) ⟨rfl, trivial, by decide, rfl, trivial⟩ rfl trivial (.ren rfl rfl (.ren rfl rfl (.ren rfl rfl .nil))) rfl trivial rfl) rfl ?_
 refine WPL.qq (q_mv (v := .tup _) rfl) ?_
 refine WPL.qq (q_extract rfl rfl) ?_
 refine WPL.qq (q_extract rfl rfl) ?_
 refine WPL.qq (q_as (v := .lit (.int _ _)) rfl) ?_
 refine WPL.qq (q_as (v := .lit (.int _ _)) rfl) ?_
 refine WPL.nx ?_
 refine WP.sr ?_
 refine WPL.qq (q_mv (v := .lit (.int _ _)) rfl) ?_
 refine WPL.qq (q_fieldAddr fi69_1 rfl rfl) ?_
 refine WPL.qq (q_load sc67 rfl rfl rfl) ?_
 refine WPL.qq (q_mv (v := .lit (.int _ _)) rfl) ?_
 obtain ⟨⟨x9, x10⟩, h2, H⟩ := bnd H
 refine WPL.c (runs_call (s := []) (t := []) (N := 2) (bor := []) fn158 rfl (s_mb_Div64 k x8 x2 x3 x9 x10 h2) ⟨rfl, trivial, by decide, rfl, trivial⟩ rfl trivial (.ren rfl rfl (.ren rfl rfl (.ren rfl rfl .nil))) rfl trivial rfl) rfl ?_
 refine WPL.qq (q_mv (v := .tup _) rfl) ?_
 refine WPL.qq (q_extract rfl rfl) ?_
 refine WPL.qq (q_extract rfl rfl) ?_
 refine WPL.qq (q_as (v := .lit (.int _ _)) rfl) ?_
 refine WPL.qq (q_as (v := .lit (.int _ _)) rfl) ?_
 refine WPL.nx ?_
 refine WP.sr ?_
 refine WPL.qq (q_mv (v := .lit (.int _ _)) rfl) ?_
 refine WPL.qq (q_mv (v := .lit (.int _ _)) rfl) ?_
 refine WPL.qq (q_build bu69 rfl) ?_
 refine WPL.qq (q_mv (v := .lit (.int _ _)) rfl) ?_
 refine WPL.s (s_store sz69 rfl rfl rfl rfl rfl) ?_
 refine WPL.qq (q_as (v := .lit (.int _ _)) rfl) ?_
 refine WPL.nx ?_
 refine WP.retW ?_
 obtain ⟨rfl, rfl, rfl⟩ := j3 H
 exact W.now (BodyR.mkR trivial rfl [1] ⟨rfl, rfl⟩ ⟨rfl, AA1, by decide, rfl, trivial⟩ rfl rfl)
theorem s_mb_Mul64 (k : Nat) (x1 : Int) (x2 : Int) (x3 : Int) (H : g_mb_Mul64 k x1 x2 = some x3) : Go.Q.Spec Tryz.prog 121 0 [.lit (.int .u64 x1), .lit (.int .u64 x2)] Mem.nil (fun o M => o = .ret (.tup [.lit (.int .u64 x3), .lit (.int .u64 (IntKind.wrap .u64 (x1 * x2)))]) ∧ M = Mem.nil) := by
 unfold g_mb_Mul64 at H
 refine Go.Q.Spec.of_bodyR (az := []) (rs := [.tmp 4, .tmp 5]) (nt := 51) Tryz.func121 rfl rfl (by intro t T h; simp at h) rfl rfl fun cx hnp => ?_
 refine WP.sr ?_
 refine WPL.qq (q_as (v := .lit (.int _ _)) rfl) ?_
 refine WPL.qq (q_as (v := .lit (.int _ _)) rfl) ?_
 refine WPL.nx ?_
 refine WP.sr ?_
 refine WPL.qq (q_mv (v := .lit (.int _ _)) rfl) ?_
 refine WPL.qq (q_and rfl rfl) ?_
 refine WPL.qq (q_as (v := .lit (.int _ _)) rfl) ?_
 refine WPL.nx ?_
 refine WP.sr ?_
 refine WPL.qq (q_mv (v := .lit (.int _ _)) rfl) ?_
 refine WPL.qq (q_shr rfl rfl rfl) ?_
 refine WPL.qq (q_as (v := .lit (.int _ _)) rfl) ?_
 refine WPL.nx ?_
 refine WP.sr ?_
 refine WPL.qq (q_mv (v := .lit (.int _ _)) rfl) ?_
 refine WPL.qq (q_and rfl rfl) ?_
 refine WPL.qq (q_as (v := .lit (.int _ _)) rfl) ?_
 refine WPL.nx ?_
 refine WP.sr ?_
 refine WPL.qq (q_mv (v := .lit (.int _ _)) rfl) ?_
 refine WPL.qq (q_shr rfl rfl rfl) ?_
 refine WPL.qq (q_as (v := .lit (.int _ _)) rfl) ?_
 refine WPL.nx ?_
 refine WP.sr ?_
 refine WPL.qq (q_mv (v := .lit (.int _ _)) rfl) ?_
 refine WPL.qq (q_mv (v := .lit (.int _ _)) rfl) ?_
 obtain ⟨x4, h1, H⟩ := bnd H
 refine WPL.qq (q_nm (q_mul rfl rfl) (nm_int h1)) ?_
 refine WPL.qq (q_as (v := .lit (.int _ _)) rfl) ?_
 refine WPL.nx ?_
 refine WP.sr ?_
 refine WPL.qq (q_mv (v := .lit (.int _ _)) rfl) ?_
 refine WPL.qq (q_mv (v := .lit (.int _ _)) rfl) ?_
 obtain ⟨x5, h2, H⟩ := bnd H
 refine WPL.qq (q_nm (q_mul rfl rfl) (nm_int h2)) ?_
 refine WPL.qq (q_mv (v := .lit (.int _ _)) rfl) ?_
 refine WPL.qq (q_shr rfl rfl rfl) ?_
 obtain ⟨x6, h3, H⟩ := bnd H
 refine WPL.qq (q_nm (q_add rfl rfl) (nm_int h3)) ?_
 refine WPL.qq (q_as (v := .lit (.int _ _)) rfl) ?_
 refine WPL.nx ?_
 refine WP.sr ?_
 refine WPL.qq (q_mv (v := .lit (.int _ _)) rfl) ?_
 refine WPL.qq (q_and rfl rfl) ?_
 refine WPL.qq (q_as (v := .lit (.int _ _)) rfl) ?_
 refine WPL.nx ?_
 refine WP.sr ?_
 refine WPL.qq (q_mv (v := .lit (.int _ _)) rfl) ?_
 refine WPL.qq (q_shr rfl rfl rfl) ?_
 refine WPL.qq (q_as (v := .lit (.int _ _)) rfl) ?_
 refine WPL.nx ?_
 refine WP.sr ?_
 refine WPL.qq (q_mv (v := .lit (.int _ _)) rfl) ?_
 refine WPL.qq (q_mv (v := .lit (.int _ _)) rfl) ?_
 refine WPL.qq (q_mv (v := .lit (.int _ _)) rfl) ?_
 obtain ⟨x7, h4, H⟩ := bnd H
 refine WPL.qq (q_nm (q_mul rfl rfl) (nm_int h4)) ?_
 obtain ⟨x8, h5, H⟩ := bnd H
 refine WPL.qq (q_nm (q_add rfl rfl) (nm_int h5)) ?_
 refine WPL.qq (q_as (v := .lit (.int _ _)) rfl) ?_
 refine WPL.nx ?_
 refine WP.sr ?_
 refine WPL.qq (q_mv (v := .lit (.int _ _)) rfl) ?_
 refine WPL.qq (q_mv (v := .lit (.int _ _)) rfl) ?_
 obtain ⟨x9, h6, H⟩ := bnd H
 refine WPL.qq (q_nm (q_mul rfl rfl) (nm_int h6)) ?_
 refine WPL.qq (q_mv (v := .lit (.int _ _)) rfl) ?_
 obtain ⟨x10, h7, H⟩ := bnd H
 refine WPL.qq (q_nm (q_add rfl rfl) (nm_int h7)) ?_
 refine WPL.qq (q_mv (v := .lit (.int _ _)) rfl) ?_
 refine WPL.qq (q_shr rfl rfl rfl) ?_
 obtain ⟨x11, h8, H⟩ := bnd H
 refine WPL.qq (q_nm (q_add rfl rfl) (nm_int h8)) ?_
 refine WPL.qq (q_as (v := .lit (.int _ _)) rfl) ?_
 refine WPL.nx ?_
 refine WP.sr ?_
 refine WPL.qq (q_mv (v := .lit (.int _ _)) rfl) ?_
 refine WPL.qq (q_mv (v := .lit (.int _ _)) rfl) ?_
 refine WPL.qq (q_mul rfl rfl) ?_
 refine WPL.qq (q_as (v := .lit (.int _ _)) rfl) ?_
 refine WPL.nx ?_
 refine WP.retW ?_
 have q0 := j1 H
 subst q0
 exact W.now (BodyR.mkR trivial rfl [] ⟨rfl, rfl⟩ ⟨rfl, trivial, by decide, rfl, trivial⟩ rfl rfl)
theorem s_dec_wide_times (k : Nat) (x1 : Int) (x2 : Int) (x3 : Int) (x4 : Bool) (x5 : Int) (H : g_dec_wide_times k x1 x2 x3 = some (x4, x5)) : Go.Q.Spec Tryz.prog 93 0 [.agg [.lit (.int .u64 x1), .lit (.int .u64 x2)], .lit (.int .u64 x3)] Mem.nil (fun o M => o = .ret (.tup [.agg [.lit (.int .u64 x5), .lit (.int .u64 (IntKind.wrap .u64 (x2 * x3)))], .lit (.bool x4)]) ∧ M = (Mem.nil.push (.cells 69 [.lit (.int .u64 x5), .lit (.int .u64 (IntKind.wrap .u64 (x2 * x3)))]))) := by
 unfold g_dec_wide_times at H
 refine Go.Q.Spec.of_bodyR (az := [(69, 2)]) (rs := [.cell 4 69, .tmp 5]) (nt := 39) Tryz.func93 rfl rfl (by intro t T h; simp at h; rcases h with ⟨rfl, rfl⟩ <;> first | exact ag69) rfl rfl fun cx hnp => ?_
 refine WP.sr ?_
 refine WPL.d (d_box rfl rfl) rfl ?_
 refine WPL.d (d_alloc ze69 rfl) rfl ?_
 refine WPL.qq (q_as (v := .lit (.bool _)) rfl) ?_
 refine WPL.nx ?_
 refine WP.sr ?_
 refine WPL.qq (q_fieldAddr fi69_1 rfl rfl) ?_
 refine WPL.qq (q_load sc67 rfl rfl rfl) ?_
 refine WPL.qq (q_mv (v := .lit (.int _ _)) rfl) ?_
 obtain ⟨x6, h1, H⟩ := bnd H
 refine WPL.c (runs_call (s := []) (t := []) (N := 2) (bor := []) fn121 rfl (s_mb_Mul64 k x2 x3 x6 h1) ⟨rfl, trivial, by decide, rfl, trivial⟩ rfl trivial (.ren rfl rfl (.ren rfl rfl .nil)) rfl trivial rfl) rfl ?_
 refine WPL.qq (q_mv (v := .tup _) rfl) ?_
 refine WPL.qq (q_extract rfl rfl) ?_
 refine WPL.qq (q_extract rfl rfl) ?_
 refine WPL.qq (q_as (v := .lit (.int _ _)) rfl) ?_
 refine WPL.qq (q_as (v := .lit (.int _ _)) rfl) ?_
 refine WPL.nx ?_
 refine WP.sr ?_
 refine WPL.qq (q_fieldAddr fi69_0 rfl rfl) ?_
 refine WPL.qq (q_load sc67 rfl rfl rfl) ?_
 refine WPL.qq (q_mv (v := .lit (.int _ _)) rfl) ?_
 obtain ⟨x7, h2, H⟩ := bnd H
 refine WPL.c (runs_call (s := []) (t := []) (N := 2) (bor := []) fn121 rfl (s_mb_Mul64 k x1 x3 x7 h2) ⟨rfl, trivial, by decide, rfl, trivial⟩ rfl trivial (.ren rfl rfl (.ren rfl rfl .nil)) rfl trivial rfl) rfl ?_
 refine WPL.qq (q_mv (v := .tup _) rfl) ?_
 refine WPL.qq (q_extract rfl rfl) ?_
 refine WPL.qq (q_extract rfl rfl) ?_
 refine WPL.qq (q_as (v := .lit (.int _ _)) rfl) ?_
 refine WPL.qq (q_as (v := .lit (.int _ _)) rfl) ?_
 refine WPL.nx ?_
 refine WP.sr ?_
 refine WPL.qq (q_mv (v := .lit (.int _ _)) rfl) ?_
 refine WPL.qq (q_mv (v := .lit (.int _ _)) rfl) ?_
 refine WPL.qq (q_add64 ex139 rfl rfl rfl rfl rfl) ?_
 refine WPL.qq (q_mv (v := .tup _) rfl) ?_
 refine WPL.qq (q_extract rfl rfl) ?_
 refine WPL.qq (q_extract rfl rfl) ?_
 refine WPL.qq (q_as (v := .lit (.int _ _)) rfl) ?_
 refine WPL.qq (q_as (v := .lit (.int _ _)) rfl) ?_
 refine WPL.nx ?_
 refine WP.sr ?_
 refine WPL.qq (q_mv (v := .lit (.int _ _)) rfl) ?_
 refine WPL.qq (q_mv (v := .lit (.int _ _)) rfl) ?_
 refine WPL.qq (q_build bu69 rfl) ?_
 refine WPL.qq (q_mv (v := .lit (.int _ _)) rfl) ?_
 refine WPL.qq (q_mv (v := .lit (.int _ _)) rfl) ?_
 obtain ⟨x8, h3, H⟩ := bnd H
 refine WPL.qq (q_nm (q_add rfl rfl) (nm_int h3)) ?_
 refine WPL.qq (q_eql rfl rfl) ?_
 refine WPL.s (s_store sz69 rfl rfl rfl rfl rfl) ?_
 refine WPL.qq (q_as (v := .lit (.bool _)) rfl) ?_
 refine WPL.nx ?_
 refine WP.retW ?_
 obtain ⟨rfl, rfl⟩ := j2 H
 exact W.now (BodyR.mkR trivial rfl [1] ⟨rfl, rfl⟩ ⟨rfl, AA1, by decide, rfl, trivial⟩ rfl rfl)
theorem s_dec_wide_tens (k : Nat) (x1 : Int) (x2 : Int) (x3 : Int) (x4 : Bool) (x5 : Int) (x6 : Int) (H : g_dec_wide_tens k x1 x2 x3 = some (x4, x5, x6)) : Go.Q.Spec Tryz.prog 133 0 [.agg [.lit (.int .u64 x1), .lit (.int .u64 x2)], .lit (.int .i64 x3)] Mem.nil (fun o M => o = .ret (.tup [.agg [.lit (.int .u64 x5), .lit (.int .u64 x6)], .lit (.bool x4)]) ∧ M = (Mem.nil.push (.cells 69 [.lit (.int .u64 x5), .lit (.int .u64 x6)]))) := by
 unfold g_dec_wide_tens at H
 refine Go.Q.Spec.of_bodyR (az := [(69, 2)]) (rs := [.cell 4 69, .tmp 5]) (nt := 28) Tryz.func133 rfl rfl (by intro t T h; simp at h; rcases h with ⟨rfl, rfl⟩ <;> first | exact ag69) rfl rfl fun cx hnp => ?_
 refine WP.sr ?_
 refine WPL.d (d_box rfl rfl) rfl ?_
 refine WPL.d (d_alloc ze69 rfl) rfl ?_
 refine WPL.qq (q_as (v := .lit (.bool _)) rfl) ?_
 refine WPL.nx ?_
 refine WP.sr ?_
 refine WPL.qq (q_as (v := .lit (.bool _)) rfl) ?_
 refine WPL.nx ?_
 refine WP.seq ?_
 refine WP.sr ?_
 refine WPL.qq (q_as (v := .lit (.int _ _)) rfl) ?_
 refine WPL.nx ?_
 refine WP.block ?_
 refine WP.cv (Cv.weak (E' := (((((Env.none.upd 1 (.lit (.int .i64 x3))).upd 2 (.ptr 0 0)).upd 4 (.ptr 1 0)).upd 6 (.lit (.bool true))).upd 7 (.lit (.int .i64 0)))) (M' := ((Mem.nil.push (.cells 69 [.lit (.int .u64 x1), .lit (.int .u64 x2)])).push (.cells 69 [.lit (.int .u64 0), .lit (.int .u64 0)]))) [0, 1] hnp ⟨rfl, AA2, by decide, rfl, trivial⟩ (LeE.u (LeE.u (LeE.u (LeE.u (LeE.u (LeE.none rfl rfl))))))) ?_
 obtain ⟨⟨x7, x8, x9⟩, H1, H⟩ := bnd H
 refine WP.monoW (Q := fun x E M => x = .exit 0 ∧ E = (((Env.none.upd 2 (.ptr 0 0)).upd 4 (.ptr 1 0)).upd 6 (.lit (.bool x7))) ∧ M = ((Mem.nil.push (.cells 69 [.lit (.int .u64 x8), .lit (.int .u64 x9)])).push (.cells 69 [.lit (.int .u64 0), .lit (.int .u64 0)]))) ?_ ?_
 · refine WP.loop (β := Bool × Int × Int × Int) (fun n b => g_dec_wide_tens_l0 k x3 n b.1 b.2.1 b.2.2.1 b.2.2.2 = some (x7, x8, x9)) (fun b => (((((Env.none.upd 1 (.lit (.int .i64 x3))).upd 2 (.ptr 0 0)).upd 4 (.ptr 1 0)).upd 6 (.lit (.bool b.1))).upd 7 (.lit (.int .i64 b.2.1)))) (fun b => ((Mem.nil.push (.cells 69 [.lit (.int .u64 b.2.2.1), .lit (.int .u64 b.2.2.2)])).push (.cells 69 [.lit (.int .u64 0), .lit (.int .u64 0)]))) k (true, 0, x1, x2) H1 rfl rfl ?_
   rintro n ⟨x10, x11, x12, x13⟩ H
   obtain _ | n := n
   · exact nf rfl H
   rw [g_dec_wide_tens_l0.eq_2] at H
   show WP _ _ _ _ (((((Env.none.upd 1 (.lit (.int .i64 x3))).upd 2 (.ptr 0 0)).upd 4 (.ptr 1 0)).upd 6 (.lit (.bool x10))).upd 7 (.lit (.int .i64 x11))) ((Mem.nil.push (.cells 69 [.lit (.int .u64 x12), .lit (.int .u64 x13)])).push (.cells 69 [.lit (.int .u64 0), .lit (.int .u64 0)])) _
   refine WP.seq ?_
   refine WP.seq ?_
   obtain ⟨x14, H2, H⟩ := bnd H
   refine WP.monoW (Q := fun x E M => x = .normal ∧ E = ((((((Env.none.upd 1 (.lit (.int .i64 x3))).upd 2 (.ptr 0 0)).upd 4 (.ptr 1 0)).upd 6 (.lit (.bool x10))).upd 7 (.lit (.int .i64 x11))).upd 18 (.lit (.bool x14))) ∧ M = ((Mem.nil.push (.cells 69 [.lit (.int .u64 x12), .lit (.int .u64 x13)])).push (.cells 69 [.lit (.int .u64 0), .lit (.int .u64 0)]))) ?_ ?_
   · clear H
     have H := H2
     clear H2
     refine WP.region ?_
     refine WPL.qq (q_mv (v := .lit (.int _ _)) rfl) ?_
     refine WPL.qq (q_mv (v := .lit (.int _ _)) rfl) ?_
     refine WPL.qq (q_lss rfl rfl) ?_
     refine WPL.qq (q_mv (v := .lit (.bool _)) rfl) ?_
     refine WPL.split (t := 11) (b := (decide (x11 < x3))) rfl (fun hb1 => ?_) (fun hb1 => ?_)
     · replace H := cnt hb1 H
       refine WPL.gq rfl (lb hb1) (q_mv (v := .lit (.bool _)) rfl) ?_
       refine WPL.qq (q_pickT (v := .lit (.bool _)) (lb hb1) rfl) ?_
       refine WPL.qq (q_mv (v := .lit (.bool _)) rfl) ?_
       refine WPL.split (t := 14) (b := x10) rfl (fun hb2 => ?_) (fun hb2 => ?_)
       · replace H := cnt hb2 H
         refine WPL.gq rfl (lb hb2) (q_load_ag ag69 rfl rfl (Nat.le_of_ble_eq_true rfl)) ?_
         obtain ⟨_, h1, H⟩ := bnd H
         refine WPL.cg rfl rfl (lb hb2) (runs_call (s := []) (t := []) (N := 2) (bor := []) fn131 rfl (s_dec_wide_zero k x12 x13 h1) ⟨rfl, trivial, by decide, rfl, trivial⟩ rfl trivial (.ren rfl rfl .nil) rfl trivial rfl) rfl ?_
         obtain ⟨x15, h2, H⟩ := bnd H
         refine WPL.gq rfl (lb hb2) (q_nm (q_not rfl) (nm_bool h2)) ?_
         refine WPL.qq (q_pickT (v := .lit (.bool _)) (lb hb2) rfl) ?_
         refine WPL.nilW ?_
         have q0 := j1 H
         subst q0
         exact W.wk [0, 1] hnp r3 ⟨rfl, AA2, by decide, rfl, trivial⟩ (LeE.u (LeE.u (LeE.u (LeE.u (LeE.u (LeE.u (LeE.none rfl rfl))))))) rfl
       replace H := cnf hb2 H
       refine WPL.sg false rfl (lb hb2) ?_
       refine WPL.sg false rfl (lb hb2) ?_
       refine WPL.sg false rfl (lb hb2) ?_
       refine WPL.qq (q_pickF (v := .lit (.bool _)) (lb hb2) rfl) ?_
       refine WPL.nilW ?_
       have q0 := j1 H
       subst q0
       exact W.wk [0, 1] hnp r3 ⟨rfl, AA2, by decide, rfl, trivial⟩ (LeE.u (LeE.u (LeE.u (LeE.u (LeE.u (LeE.u (LeE.none rfl rfl))))))) rfl
     replace H := cnf hb1 H
     refine WPL.sg false rfl (lb hb1) ?_
     refine WPL.qq (q_pickF (v := .lit (.bool _)) (lb hb1) rfl) ?_
     refine WPL.qq (q_mv (v := .lit (.bool _)) rfl) ?_
     refine WPL.sg false rfl rfl ?_
     refine WPL.sg false rfl rfl ?_
     refine WPL.sg false rfl rfl ?_
     refine WPL.qq (q_pickF (v := .lit (.bool _)) rfl rfl) ?_
     refine WPL.nilW ?_
     have q0 := j1 H
     subst q0
     exact W.wk [0, 1] hnp r3 ⟨rfl, AA2, by decide, rfl, trivial⟩ (LeE.u (LeE.u (LeE.u (LeE.u (LeE.u (LeE.u (LeE.none rfl rfl))))))) rfl
   rintro _ _ _ ⟨rfl, rfl, rfl⟩
   refine W.now ?_
   refine Then.n ?_
   refine WP.cond (t := x14) rfl (fun hb3 => ?_) (fun hb3 => ?_)
   · replace H := cnt hb3 H
     refine WP.skipW ?_
     refine W.now ?_
     refine Then.n ?_
     refine WP.seq ?_
     refine WP.block ?_
     refine WP.region ?_
     refine WPL.qq (q_load_ag ag69 rfl rfl (Nat.le_of_ble_eq_true rfl)) ?_
     obtain ⟨⟨x16, x17⟩, h3, H⟩ := bnd H
     refine WPL.c (runs_call (s := []) (t := [2]) (N := 3) (bor := []) fn93 rfl (s_dec_wide_times k x12 x13 10 x16 x17 h3) ⟨rfl, trivial, by decide, rfl, trivial⟩ rfl trivial (.ren rfl rfl (.ren rfl rfl .nil)) rfl BB1 rfl) rfl ?_
     refine WPL.qq (q_mv (v := .tup _) rfl) ?_
     refine WPL.qq (q_extract rfl rfl) ?_
     refine WPL.qq (q_extract rfl rfl) ?_
     refine WPL.s (s_store sz69 rfl rfl rfl rfl rfl) ?_
     refine WPL.qq (q_as (v := .lit (.bool _)) rfl) ?_
     refine WPL.nilW ?_
     refine W.now ?_
     refine InBlock.n ?_
     refine Then.n ?_
     refine WP.region ?_
     refine WPL.qq (q_mv (v := .lit (.int _ _)) rfl) ?_
     refine WPL.qq (q_add rfl rfl) ?_
     refine WPL.qq (q_as (v := .lit (.int _ _)) rfl) ?_
     refine WPL.nilW ?_
     exact W.wk [0, 1] hnp (Then.n ⟨n, (x16, (IntKind.wrap .i64 (x11 + 1)), x17, (IntKind.wrap .u64 (x13 * 10))), Nat.lt_succ_self n, H, rfl, rfl⟩) ⟨rfl, AA2, by decide, rfl, trivial⟩ (LeE.u (LeE.u (LeE.u (LeE.u (LeE.u (LeE.none rfl rfl)))))) rfl
   replace H := cnf hb3 H
   refine WP.exitW ?_
   obtain ⟨rfl, rfl, rfl⟩ := j3 H
   exact W.wk [0, 1] hnp (Then.x (Then.x r3)) ⟨rfl, AA2, by decide, rfl, trivial⟩ (LeE.u (LeE.u (LeE.u (LeE.none rfl rfl)))) rfl
 rintro _ _ _ ⟨rfl, rfl, rfl⟩
 refine W.now ?_
 refine InBlock.x0 ?_
 refine Then.n ?_
 refine WP.sr ?_
 refine WPL.qq (q_load_ag ag69 rfl rfl (Nat.le_of_ble_eq_true rfl)) ?_
 refine WPL.qq (q_mv (v := .lit (.bool _)) rfl) ?_
 refine WPL.s (s_store sz69 rfl rfl rfl rfl rfl) ?_
 refine WPL.qq (q_as (v := .lit (.bool _)) rfl) ?_
 refine WPL.nx ?_
 refine WP.retW ?_
 obtain ⟨rfl, rfl, rfl⟩ := j3 H
 exact W.now (BodyR.mkR trivial rfl [1] ⟨rfl, rfl⟩ ⟨rfl, AA1, by decide, rfl, trivial⟩ rfl rfl)
theorem s_dec_num_tell (k : Nat) (x1 : Bool) (x2 : Int) (x3 : Int) (x4 : Int) (x5 : Int) (x6 : Int) (x7 : Int) (H : g_dec_num_tell k x1 x2 x3 x4 = some (x5, x6, x7)) : Go.Q.Spec Tryz.prog 82 0 [.agg [.lit (.bool x1), .lit (.int .u64 x2), .lit (.int .u64 x3), .lit (.int .i64 x4)]] Mem.nil (fun o M => o = .ret (.tup [.agg [.lit (.int .i64 x6), .lit (.int .i64 x7)], .lit (.int .i64 x5)]) ∧ M = (Mem.nil.push (.cells 23 [.lit (.int .i64 x6), .lit (.int .i64 x7)]))) := by
 unfold g_dec_num_tell at H
 refine Go.Q.Spec.of_bodyR (az := [(23, 2)]) (rs := [.cell 2 23, .tmp 3]) (nt := 89) Tryz.func82 rfl rfl (by intro t T h; simp at h; rcases h with ⟨rfl, rfl⟩ <;> first | exact ag23) rfl rfl fun cx hnp => ?_
 refine WP.sr ?_
 refine WPL.d (d_box rfl rfl) rfl ?_
 refine WPL.d (d_alloc ze23 rfl) rfl ?_
 refine WPL.qq (q_as (v := .lit (.int _ _)) rfl) ?_
 refine WPL.nx ?_
 refine WP.seq ?_
 refine WP.sr ?_
 refine WPL.qq (q_fieldAddr fi71_1 rfl rfl) ?_
 refine WPL.qq (q_load_ag ag69 rfl rfl (Nat.le_of_ble_eq_true rfl)) ?_
 obtain ⟨_, h1, H⟩ := bnd H
 refine WPL.c (runs_call (s := []) (t := []) (N := 2) (bor := []) fn131 rfl (s_dec_wide_zero k x2 x3 h1) ⟨rfl, trivial, by decide, rfl, trivial⟩ rfl trivial (.ren rfl rfl .nil) rfl trivial rfl) rfl ?_
 refine WPL.nx ?_
 refine WP.cond (t := (decide ((bits .or .u64 x2 x3) = 0))) rfl (fun hb1 => ?_) (fun hb1 => ?_)
 · replace H := cnt hb1 H
   refine WP.sr ?_
   refine WPL.qq (q_build bu23 rfl) ?_
   refine WPL.s (s_store sz23 rfl rfl rfl rfl rfl) ?_
   refine WPL.qq (q_as (v := .lit (.int _ _)) rfl) ?_
   refine WPL.nx ?_
   refine WP.retW ?_
   obtain ⟨rfl, rfl, rfl⟩ := j3 H
   exact W.now (Then.r (BodyR.mkR trivial rfl [1] ⟨rfl, rfl⟩ ⟨rfl, AA1, by decide, rfl, trivial⟩ rfl rfl))
 replace H := cnf hb1 H
 refine WP.skipW ?_
 refine W.now ?_
 refine Then.n ?_
 refine WP.seq ?_
 refine WP.sr ?_
 refine WPL.qq (q_fieldAddr fi71_1 rfl rfl) ?_
 refine WPL.qq (q_load_ag ag69 rfl rfl (Nat.le_of_ble_eq_true rfl)) ?_
 obtain ⟨⟨x8, x9, x10⟩, h2, H⟩ := bnd H
 refine WPL.c (runs_call (s := []) (t := [2]) (N := 3) (bor := []) fn132 rfl (s_dec_wide_by k x2 x3 10 x8 x9 x10 h2) ⟨rfl, trivial, by decide, rfl, trivial⟩ rfl trivial (.ren rfl rfl (.ren rfl rfl .nil)) rfl BB1 rfl) rfl ?_
 refine WPL.qq (q_mv (v := .tup _) rfl) ?_
 refine WPL.qq (q_extract rfl rfl) ?_
 refine WPL.qq (q_extract rfl rfl) ?_
 refine WPL.d (d_alloc ze69 rfl) rfl ?_
 refine WPL.s (s_store sz69 rfl rfl rfl rfl rfl) ?_
 refine WPL.qq (q_as (v := .lit (.int _ _)) rfl) ?_
 refine WPL.nx ?_
 refine WP.block ?_
 refine WP.cv (Cv.weak (E' := ((((Env.none.upd 1 (.ptr 0 0)).upd 2 (.ptr 1 0)).upd 4 (.ptr 2 0)).upd 5 (.lit (.int .u64 x8)))) (M' := (((Mem.nil.push (.cells 71 [.lit (.bool x1), .lit (.int .u64 x2), .lit (.int .u64 x3), .lit (.int .i64 x4)])).push (.cells 23 [.lit (.int .i64 0), .lit (.int .i64 0)])).push (.cells 69 [.lit (.int .u64 x9), .lit (.int .u64 x10)]))) [0, 1, 3] hnp ⟨rfl, AA3, by decide, rfl, trivial⟩ (LeE.u (LeE.u (LeE.u (LeE.u (LeE.none rfl rfl)))))) ?_
 obtain ⟨⟨x11, x12, x13⟩, H1, H⟩ := bnd H
 refine WP.monoW (Q := fun x E M => x = .exit 0 ∧ E = ((Env.none.upd 1 (.ptr 0 0)).upd 2 (.ptr 1 0)) ∧ M = ((Mem.nil.push (.cells 71 [.lit (.bool x1), .lit (.int .u64 x11), .lit (.int .u64 x12), .lit (.int .i64 x13)])).push (.cells 23 [.lit (.int .i64 0), .lit (.int .i64 0)]))) ?_ ?_
 · refine WP.loop (β := Int × Int × Int × Int × Int × Int) (fun n b => g_dec_num_tell_l0 k n b.1 b.2.1 b.2.2.1 b.2.2.2.1 b.2.2.2.2.1 b.2.2.2.2.2 = some (x11, x12, x13)) (fun b => ((((Env.none.upd 1 (.ptr 0 0)).upd 2 (.ptr 1 0)).upd 4 (.ptr 2 0)).upd 5 (.lit (.int .u64 b.1)))) (fun b => (((Mem.nil.push (.cells 71 [.lit (.bool x1), .lit (.int .u64 b.2.1), .lit (.int .u64 b.2.2.1), .lit (.int .i64 b.2.2.2.1)])).push (.cells 23 [.lit (.int .i64 0), .lit (.int .i64 0)])).push (.cells 69 [.lit (.int .u64 b.2.2.2.2.1), .lit (.int .u64 b.2.2.2.2.2)]))) k (x8, x2, x3, x4, x9, x10) H1 rfl rfl ?_
   rintro n ⟨x14, x15, x16, x17, x18, x19⟩ H
   obtain _ | n := n
   · exact nf rfl H
   rw [g_dec_num_tell_l0.eq_2] at H
   show WP _ _ _ _ ((((Env.none.upd 1 (.ptr 0 0)).upd 2 (.ptr 1 0)).upd 4 (.ptr 2 0)).upd 5 (.lit (.int .u64 x14))) (((Mem.nil.push (.cells 71 [.lit (.bool x1), .lit (.int .u64 x15), .lit (.int .u64 x16), .lit (.int .i64 x17)])).push (.cells 23 [.lit (.int .i64 0), .lit (.int .i64 0)])).push (.cells 69 [.lit (.int .u64 x18), .lit (.int .u64 x19)])) _
   refine WP.seq ?_
   refine WP.sr ?_
   refine WPL.qq (q_mv (v := .lit (.int _ _)) rfl) ?_
   refine WPL.qq (q_eql rfl rfl) ?_
   refine WPL.nx ?_
   refine WP.cond (t := (decide (x14 = 0))) rfl (fun hb2 => ?_) (fun hb2 => ?_)
   · replace H := cnt hb2 H
     refine WP.skipW ?_
     refine W.now ?_
     refine Then.n ?_
     refine WP.seq ?_
     refine WP.block ?_
     refine WP.sr ?_
     refine WPL.qq (q_load_ag ag69 rfl rfl (Nat.le_of_ble_eq_true rfl)) ?_
     refine WPL.qq (q_fieldAddr fi71_1 rfl rfl) ?_
     refine WPL.s (s_store sz69 rfl rfl rfl rfl rfl) ?_
     refine WPL.nx ?_
     refine WP.region ?_
     refine WPL.qq (q_fieldAddr fi71_2 rfl rfl) ?_
     refine WPL.qq (q_load sc3 rfl rfl rfl) ?_
     refine WPL.qq (q_add rfl rfl) ?_
     refine WPL.qq (q_fieldAddr fi71_2 rfl rfl) ?_
     refine WPL.s (s_store sz3 rfl rfl rfl rfl rfl) ?_
     refine WPL.nilW ?_
     refine W.now ?_
     refine InBlock.n ?_
     refine Then.n ?_
     refine WP.seq ?_
     refine WP.sr ?_
     refine WPL.qq (q_load_ag ag69 rfl rfl (Nat.le_of_ble_eq_true rfl)) ?_
     refine WPL.nx ?_
     refine WP.region ?_
     refine WPL.d (d_alloc ze69 rfl) rfl ?_
     refine WPL.s (s_store sz69 rfl rfl rfl rfl rfl) ?_
     refine WPL.nx ?_
     refine WP.region ?_
     refine WPL.qq (q_fieldAddr fi71_1 rfl rfl) ?_
     refine WPL.qq (q_load_ag ag69 rfl rfl (Nat.le_of_ble_eq_true rfl)) ?_
     obtain ⟨⟨x20, x21, x22⟩, h3, H⟩ := bnd H
     refine WPL.c (runs_call (s := []) (t := [4]) (N := 5) (bor := []) fn132 rfl (s_dec_wide_by k x18 x19 10 x20 x21 x22 h3) ⟨rfl, trivial, by decide, rfl, trivial⟩ rfl trivial (.ren rfl rfl (.ren rfl rfl .nil)) rfl BB1 rfl) rfl ?_
     refine WPL.qq (q_mv (v := .tup _) rfl) ?_
     refine WPL.qq (q_extract rfl rfl) ?_
     refine WPL.qq (q_extract rfl rfl) ?_
     refine WPL.s (s_store sz69 rfl rfl rfl rfl rfl) ?_
     refine WPL.qq (q_as (v := .lit (.int _ _)) rfl) ?_
     refine WPL.nilW ?_
     exact W.wk [0, 1, 3] hnp (Then.n ⟨n, (x20, x18, x19, (IntKind.wrap .i64 (x17 + 1)), x21, x22), Nat.lt_succ_self n, H, rfl, rfl⟩) ⟨rfl, AA3, by decide, rfl, trivial⟩ (LeE.u (LeE.u (LeE.u (LeE.u (LeE.none rfl rfl))))) rfl
   replace H := cnf hb2 H
   refine WP.exitW ?_
   obtain ⟨rfl, rfl, rfl⟩ := j3 H
   exact W.wk [0, 1] hnp (Then.x (Then.x r3)) ⟨rfl, AA2, by decide, rfl, trivial⟩ (LeE.u (LeE.u (LeE.none rfl rfl))) rfl
 rintro _ _ _ ⟨rfl, rfl, rfl⟩
 refine W.now ?_
 refine InBlock.x0 ?_
 refine Then.n ?_
 refine WP.sr ?_
 refine WPL.qq (q_as (v := .lit (.bool _)) rfl) ?_
 refine WPL.nx ?_
 refine WP.seq ?_
 obtain ⟨⟨x23, x24, x25, x26⟩, H2, H⟩ := bnd H
 refine WP.monoW (Q := fun x E M => x = .normal ∧ E = (((Env.none.upd 1 (.ptr 0 0)).upd 2 (.ptr 1 0)).upd 6 (.lit (.bool x23))) ∧ M = ((Mem.nil.push (.cells 71 [.lit (.bool x1), .lit (.int .u64 x24), .lit (.int .u64 x25), .lit (.int .i64 x26)])).push (.cells 23 [.lit (.int .i64 0), .lit (.int .i64 0)]))) ?_ ?_
 · clear H
   have H := H2
   clear H2
   refine WP.sr ?_
   refine WPL.qq (q_fieldAddr fi71_2 rfl rfl) ?_
   refine WPL.qq (q_load sc3 rfl rfl rfl) ?_
   refine WPL.qq (q_gtr rfl rfl) ?_
   refine WPL.nx ?_
   refine WP.cond (t := (decide (18 < x13))) rfl (fun hb3 => ?_) (fun hb3 => ?_)
   · replace H := cnt hb3 H
     refine WP.sr ?_
     refine WPL.qq (q_fieldAddr fi71_1 rfl rfl) ?_
     refine WPL.qq (q_load_ag ag69 rfl rfl (Nat.le_of_ble_eq_true rfl)) ?_
     refine WPL.qq (q_fieldAddr fi71_2 rfl rfl) ?_
     refine WPL.qq (q_load sc3 rfl rfl rfl) ?_
     refine WPL.qq (q_sub rfl rfl) ?_
     obtain ⟨x27, h4, H⟩ := bnd H
     refine WPL.qq (q_nm (q_min rfl rfl) (nm_int h4)) ?_
     obtain ⟨⟨x28, x29, x30⟩, h4, H⟩ := bnd H
     refine WPL.c (runs_call (s := []) (t := [2]) (N := 3) (bor := []) fn133 rfl (s_dec_wide_tens k x11 x12 x27 x28 x29 x30 h4) ⟨rfl, trivial, by decide, rfl, trivial⟩ rfl trivial (.ren rfl rfl (.ren rfl rfl .nil)) rfl BB1 rfl) rfl ?_
     refine WPL.qq (q_mv (v := .tup _) rfl) ?_
     refine WPL.qq (q_extract rfl rfl) ?_
     refine WPL.qq (q_extract rfl rfl) ?_
     refine WPL.qq (q_fieldAddr fi71_1 rfl rfl) ?_
     refine WPL.s (s_store sz69 rfl rfl rfl rfl rfl) ?_
     refine WPL.qq (q_as (v := .lit (.bool _)) rfl) ?_
     refine WPL.nx ?_
     refine WP.seq ?_
     obtain ⟨x31, H3, H⟩ := bnd H
     refine WP.monoW (Q := fun x E M => x = .normal ∧ E = (((Env.none.upd 1 (.ptr 0 0)).upd 2 (.ptr 1 0)).upd 6 (.lit (.bool x31))) ∧ M = ((Mem.nil.push (.cells 71 [.lit (.bool x1), .lit (.int .u64 x29), .lit (.int .u64 x30), .lit (.int .i64 x13)])).push (.cells 23 [.lit (.int .i64 0), .lit (.int .i64 0)]))) ?_ ?_
     · clear H
       have H := H3
       clear H3
       refine WP.sr ?_
       refine WPL.qq (q_fieldAddr fi71_2 rfl rfl) ?_
       refine WPL.qq (q_load sc3 rfl rfl rfl) ?_
       refine WPL.qq (q_gtr rfl rfl) ?_
       refine WPL.nx ?_
       refine WP.cond (t := (decide (58 < x13))) rfl (fun hb4 => ?_) (fun hb4 => ?_)
       · replace H := cnt hb4 H
         refine WP.region ?_
         refine WPL.qq (q_as (v := .lit (.bool _)) rfl) ?_
         refine WPL.nilW ?_
         have q0 := j1 H
         subst q0
         exact W.wk [0, 1] hnp r3 ⟨rfl, AA2, by decide, rfl, trivial⟩ (LeE.u (LeE.u (LeE.u (LeE.none rfl rfl)))) rfl
       replace H := cnf hb4 H
       refine WP.skipW ?_
       have q0 := j1 H
       subst q0
       exact W.wk [0, 1] hnp r3 ⟨rfl, AA2, by decide, rfl, trivial⟩ (LeE.u (LeE.u (LeE.u (LeE.none rfl rfl)))) rfl
     rintro _ _ _ ⟨rfl, rfl, rfl⟩
     refine W.now ?_
     refine Then.n ?_
     refine WP.region ?_
     refine WPL.qq (q_fieldAddr fi71_2 rfl rfl) ?_
     refine WPL.s (s_store sz3 rfl rfl rfl rfl rfl) ?_
     refine WPL.nilW ?_
     obtain ⟨rfl, rfl, rfl, rfl⟩ := j4 H
     exact W.wk [0, 1] hnp r3 ⟨rfl, AA2, by decide, rfl, trivial⟩ (LeE.u (LeE.u (LeE.u (LeE.none rfl rfl)))) rfl
   replace H := cnf hb3 H
   refine WP.skipW ?_
   obtain ⟨rfl, rfl, rfl, rfl⟩ := j4 H
   exact W.wk [0, 1] hnp r3 ⟨rfl, AA2, by decide, rfl, trivial⟩ (LeE.u (LeE.u (LeE.u (LeE.none rfl rfl)))) rfl
 rintro _ _ _ ⟨rfl, rfl, rfl⟩
 refine W.now ?_
 refine Then.n ?_
 refine WP.sr ?_
 refine WPL.qq (q_as (v := .lit (.int _ _)) rfl) ?_
 refine WPL.nx ?_
 refine WP.seq ?_
 obtain ⟨x32, H4, H⟩ := bnd H
 refine WP.monoW (Q := fun x E M => x = .normal ∧ E = ((((Env.none.upd 1 (.ptr 0 0)).upd 2 (.ptr 1 0)).upd 6 (.lit (.bool x23))).upd 7 (.lit (.int .u64 x32))) ∧ M = ((Mem.nil.push (.cells 71 [.lit (.bool x1), .lit (.int .u64 x24), .lit (.int .u64 x25), .lit (.int .i64 x26)])).push (.cells 23 [.lit (.int .i64 0), .lit (.int .i64 0)]))) ?_ ?_
 · clear H
   have H := H4
   clear H4
   refine WP.sr ?_
   refine WPL.qq (q_fieldAddr fi71_0 rfl rfl) ?_
   refine WPL.qq (q_load sc4 rfl rfl rfl) ?_
   refine WPL.nx ?_
   refine WP.cond (t := x1) rfl (fun hb5 => ?_) (fun hb5 => ?_)
   · replace H := cnt hb5 H
     refine WP.region ?_
     refine WPL.qq (q_mv (v := .lit (.int _ _)) rfl) ?_
     obtain ⟨x33, h5, H⟩ := bnd H
     refine WPL.qq (q_nm (q_add rfl rfl) (nm_int h5)) ?_
     refine WPL.qq (q_as (v := .lit (.int _ _)) rfl) ?_
     refine WPL.nilW ?_
     have q0 := j1 H
     subst q0
     exact W.wk [0, 1] hnp r3 ⟨rfl, AA2, by decide, rfl, trivial⟩ (LeE.u (LeE.u (LeE.u (LeE.u (LeE.none rfl rfl))))) rfl
   replace H := cnf hb5 H
   refine WP.skipW ?_
   have q0 := j1 H
   subst q0
   exact W.wk [0, 1] hnp r3 ⟨rfl, AA2, by decide, rfl, trivial⟩ (LeE.u (LeE.u (LeE.u (LeE.u (LeE.none rfl rfl))))) rfl
 rintro _ _ _ ⟨rfl, rfl, rfl⟩
 refine W.now ?_
 refine Then.n ?_
 refine WP.seq ?_
 refine WP.seq ?_
 obtain ⟨x34, H5, H⟩ := bnd H
 refine WP.monoW (Q := fun x E M => x = .normal ∧ E = (((Env.none.upd 1 (.ptr 0 0)).upd 2 (.ptr 1 0)).upd 75 (.lit (.bool x34))) ∧ M = ((Mem.nil.push (.cells 71 [.lit (.bool x1), .lit (.int .u64 x24), .lit (.int .u64 x25), .lit (.int .i64 x26)])).push (.cells 23 [.lit (.int .i64 0), .lit (.int .i64 0)]))) ?_ ?_
 · clear H
   have H := H5
   clear H5
   refine WP.region ?_
   refine WPL.qq (q_mv (v := .lit (.bool _)) rfl) ?_
   refine WPL.qq (q_not rfl) ?_
   refine WPL.qq (q_mv (v := .lit (.bool _)) rfl) ?_
   refine WPL.split (t := 58) (b := (!x23)) rfl (fun hb6 => ?_) (fun hb6 => ?_)
   · replace H := cnt hb6 H
     refine WPL.sg true rfl (lb hb6) ?_
     refine WPL.sg true rfl (lb hb6) ?_
     refine WPL.sg true rfl (lb hb6) ?_
     refine WPL.qq (q_pickT (v := .lit (.bool _)) (lb hb6) rfl) ?_
     refine WPL.qq (q_mv (v := .lit (.bool _)) rfl) ?_
     refine WPL.sg true rfl rfl ?_
     refine WPL.sg true rfl rfl ?_
     refine WPL.sg true rfl rfl ?_
     refine WPL.sg true rfl rfl ?_
     refine WPL.qq (q_pickT (v := .lit (.bool _)) rfl rfl) ?_
     refine WPL.qq (q_mv (v := .lit (.bool _)) rfl) ?_
     refine WPL.sg true rfl rfl ?_
     refine WPL.sg true rfl rfl ?_
     refine WPL.sg true rfl rfl ?_
     refine WPL.sg true rfl rfl ?_
     refine WPL.sg true rfl rfl ?_
     refine WPL.qq (q_pickT (v := .lit (.bool _)) rfl rfl) ?_
     refine WPL.nilW ?_
     have q0 := j1 H
     subst q0
     exact W.wk [0, 1] hnp r3 ⟨rfl, AA2, by decide, rfl, trivial⟩ (LeE.u (LeE.u (LeE.u (LeE.none rfl rfl)))) rfl
   replace H := cnf hb6 H
   refine WPL.gq rfl (lb hb6) (q_fieldAddr fi71_2 rfl rfl) ?_
   refine WPL.gq rfl (lb hb6) (q_load sc3 rfl rfl rfl) ?_
   refine WPL.gq rfl (lb hb6) (q_lss rfl rfl) ?_
   refine WPL.qq (q_pickF (v := .lit (.bool _)) (lb hb6) rfl) ?_
   refine WPL.qq (q_mv (v := .lit (.bool _)) rfl) ?_
   refine WPL.split (t := 63) (b := (decide (x26 < (-18)))) rfl (fun hb7 => ?_) (fun hb7 => ?_)
   · replace H := cnt hb7 H
     refine WPL.sg true rfl (lb hb7) ?_
     refine WPL.sg true rfl (lb hb7) ?_
     refine WPL.sg true rfl (lb hb7) ?_
     refine WPL.sg true rfl (lb hb7) ?_
     refine WPL.qq (q_pickT (v := .lit (.bool _)) (lb hb7) rfl) ?_
     refine WPL.qq (q_mv (v := .lit (.bool _)) rfl) ?_
     refine WPL.sg true rfl rfl ?_
     refine WPL.sg true rfl rfl ?_
     refine WPL.sg true rfl rfl ?_
     refine WPL.sg true rfl rfl ?_
     refine WPL.sg true rfl rfl ?_
     refine WPL.qq (q_pickT (v := .lit (.bool _)) rfl rfl) ?_
     refine WPL.nilW ?_
     have q0 := j1 H
     subst q0
     exact W.wk [0, 1] hnp r3 ⟨rfl, AA2, by decide, rfl, trivial⟩ (LeE.u (LeE.u (LeE.u (LeE.none rfl rfl)))) rfl
   replace H := cnf hb7 H
   refine WPL.gq rfl (lb hb7) (q_fieldAddr fi71_1 rfl rfl) ?_
   refine WPL.gq rfl (lb hb7) (q_fieldAddr fi69_0 rfl rfl) ?_
   refine WPL.gq rfl (lb hb7) (q_load sc67 rfl rfl rfl) ?_
   refine WPL.gq rfl (lb hb7) (q_gtr rfl rfl) ?_
   refine WPL.qq (q_pickF (v := .lit (.bool _)) (lb hb7) rfl) ?_
   refine WPL.qq (q_mv (v := .lit (.bool _)) rfl) ?_
   refine WPL.split (t := 69) (b := (decide (0 < x24))) rfl (fun hb8 => ?_) (fun hb8 => ?_)
   · replace H := cnt hb8 H
     refine WPL.sg true rfl (lb hb8) ?_
     refine WPL.sg true rfl (lb hb8) ?_
     refine WPL.sg true rfl (lb hb8) ?_
     refine WPL.sg true rfl (lb hb8) ?_
     refine WPL.sg true rfl (lb hb8) ?_
     refine WPL.qq (q_pickT (v := .lit (.bool _)) (lb hb8) rfl) ?_
     refine WPL.nilW ?_
     have q0 := j1 H
     subst q0
     exact W.wk [0, 1] hnp r3 ⟨rfl, AA2, by decide, rfl, trivial⟩ (LeE.u (LeE.u (LeE.u (LeE.none rfl rfl)))) rfl
   replace H := cnf hb8 H
   refine WPL.gq rfl (lb hb8) (q_fieldAddr fi71_1 rfl rfl) ?_
   refine WPL.gq rfl (lb hb8) (q_fieldAddr fi69_1 rfl rfl) ?_
   refine WPL.gq rfl (lb hb8) (q_load sc67 rfl rfl rfl) ?_
   refine WPL.gq rfl (lb hb8) (q_mv (v := .lit (.int _ _)) rfl) ?_
   refine WPL.gq rfl (lb hb8) (q_gtr rfl rfl) ?_
   refine WPL.qq (q_pickF (v := .lit (.bool _)) (lb hb8) rfl) ?_
   refine WPL.nilW ?_
   have q0 := j1 H
   subst q0
   exact W.wk [0, 1] hnp r3 ⟨rfl, AA2, by decide, rfl, trivial⟩ (LeE.u (LeE.u (LeE.u (LeE.none rfl rfl)))) rfl
 rintro _ _ _ ⟨rfl, rfl, rfl⟩
 refine W.now ?_
 refine Then.n ?_
 refine WP.cond (t := x34) rfl (fun hb9 => ?_) (fun hb9 => ?_)
 · replace H := cnt hb9 H
   refine WP.sr ?_
   refine WPL.qq (q_build bu23 rfl) ?_
   refine WPL.s (s_store sz23 rfl rfl rfl rfl rfl) ?_
   refine WPL.qq (q_as (v := .lit (.int _ _)) rfl) ?_
   refine WPL.nx ?_
   refine WP.retW ?_
   obtain ⟨rfl, rfl, rfl⟩ := j3 H
   exact W.now (Then.r (BodyR.mkR trivial rfl [1] ⟨rfl, rfl⟩ ⟨rfl, AA1, by decide, rfl, trivial⟩ rfl rfl))
 replace H := cnf hb9 H
 refine WP.skipW ?_
 refine W.now ?_
 refine Then.n ?_
 refine WP.sr ?_
 refine WPL.qq (q_fieldAddr fi71_1 rfl rfl) ?_
 refine WPL.qq (q_fieldAddr fi69_1 rfl rfl) ?_
 refine WPL.qq (q_load sc67 rfl rfl rfl) ?_
 refine WPL.qq (q_conv Tryz.underlying67 Tryz.underlying2 rfl) ?_
 refine WPL.qq (q_as (v := .lit (.int _ _)) rfl) ?_
 refine WPL.nx ?_
 refine WP.seq ?_
 obtain ⟨x35, H6, H⟩ := bnd H
 refine WP.monoW (Q := fun x E M => x = .normal ∧ E = (((Env.none.upd 1 (.ptr 0 0)).upd 2 (.ptr 1 0)).upd 8 (.lit (.int .i64 x35))) ∧ M = ((Mem.nil.push (.cells 71 [.lit (.bool x1), .lit (.int .u64 x24), .lit (.int .u64 x25), .lit (.int .i64 x26)])).push (.cells 23 [.lit (.int .i64 0), .lit (.int .i64 0)]))) ?_ ?_
 · clear H
   have H := H6
   clear H6
   refine WP.sr ?_
   refine WPL.qq (q_fieldAddr fi71_0 rfl rfl) ?_
   refine WPL.qq (q_load sc4 rfl rfl rfl) ?_
   refine WPL.nx ?_
   refine WP.cond (t := x1) rfl (fun hb10 => ?_) (fun hb10 => ?_)
   · replace H := cnt hb10 H
     refine WP.region ?_
     refine WPL.qq (q_mv (v := .lit (.int _ _)) rfl) ?_
     obtain ⟨x36, h6, H⟩ := bnd H
     refine WPL.qq (q_nm (q_neg rfl) (nm_int h6)) ?_
     refine WPL.qq (q_as (v := .lit (.int _ _)) rfl) ?_
     refine WPL.nilW ?_
     have q0 := j1 H
     subst q0
     exact W.wk [0, 1] hnp r3 ⟨rfl, AA2, by decide, rfl, trivial⟩ (LeE.u (LeE.u (LeE.u (LeE.none rfl rfl)))) rfl
   replace H := cnf hb10 H
   refine WP.skipW ?_
   have q0 := j1 H
   subst q0
   exact W.wk [0, 1] hnp r3 ⟨rfl, AA2, by decide, rfl, trivial⟩ (LeE.u (LeE.u (LeE.u (LeE.none rfl rfl)))) rfl
 rintro _ _ _ ⟨rfl, rfl, rfl⟩
 refine W.now ?_
 refine Then.n ?_
 refine WP.sr ?_
 refine WPL.qq (q_mv (v := .lit (.int _ _)) rfl) ?_
 refine WPL.qq (q_fieldAddr fi71_2 rfl rfl) ?_
 refine WPL.qq (q_load sc3 rfl rfl rfl) ?_
 refine WPL.qq (q_build bu23 rfl) ?_
 refine WPL.s (s_store sz23 rfl rfl rfl rfl rfl) ?_
 refine WPL.qq (q_as (v := .lit (.int _ _)) rfl) ?_
 refine WPL.nx ?_
 refine WP.retW ?_
 obtain ⟨rfl, rfl, rfl⟩ := j3 H
 exact W.now (BodyR.mkR trivial rfl [1] ⟨rfl, rfl⟩ ⟨rfl, AA1, by decide, rfl, trivial⟩ rfl rfl)
theorem s_dec_ranged (k : Nat) (x1 : (List S_api_Dec)) (x2 : Bool) (H : g_dec_ranged k x1 = some x2) : Go.Q.Spec Tryz.prog 83 0 [.ro (Rd.slice rdS_api_Dec) true x1] Mem.nil (fun o M => o = .ret (.lit (.bool x2)) ∧ M = Mem.nil) := by
 unfold g_dec_ranged at H
 refine Go.Q.Spec.of_bodyR (az := []) (rs := [.tmp 2]) (nt := 20) Tryz.func83 rfl rfl (by intro t T h; simp at h) rfl rfl fun cx hnp => ?_
 refine WP.sr ?_
 refine WPL.qq (q_as (v := .lit (.bool _)) rfl) ?_
 refine WPL.nx ?_
 refine WP.seq ?_
 refine WP.sr ?_
 refine WPL.qq (q_mv (v := .ro _ _ _) rfl) ?_
 refine WPL.qq (q_len_ro sl130 rfl) ?_
 refine WPL.qq (q_mv (v := .lit (.int _ _)) rfl) ?_
 refine WPL.nx ?_
 refine WP.block ?_
 refine WP.cv (Cv.weak (E' := (((Env.none.upd 5 (.ro (Rd.slice rdS_api_Dec) true x1)).upd 6 (.lit (.int .i64 ((List.length x1 : Nat) : Int)))).upd 7 (.lit (.int .i64 0)))) (M' := Mem.nil) [] hnp ⟨rfl, trivial, by decide, rfl, trivial⟩ (LeE.u (LeE.u (LeE.u (LeE.none rfl rfl))))) ?_
 obtain ⟨y1, H1, H⟩ := bnd H
 refine WP.monoW (Q := fun x E M => match (generalizing := false) y1 with | (Sum.inl _) => x = .ret ∧ E = (Env.none.upd 2 (.lit (.bool false))) ∧ M = Mem.nil | (Sum.inr _) => x = .exit 0 ∧ E = Env.none ∧ M = Mem.nil) ?_ ?_
 · refine WP.loop (β := Int) (fun n b => g_dec_ranged_l0 k x1 n b = some y1) (fun b => (((Env.none.upd 5 (.ro (Rd.slice rdS_api_Dec) true x1)).upd 6 (.lit (.int .i64 ((List.length x1 : Nat) : Int)))).upd 7 (.lit (.int .i64 b)))) (fun b => Mem.nil) k 0 H1 rfl rfl ?_
   rintro n x3 H
   obtain _ | n := n
   · exact nf rfl H
   rw [g_dec_ranged_l0.eq_2] at H
   show WP _ _ _ _ (((Env.none.upd 5 (.ro (Rd.slice rdS_api_Dec) true x1)).upd 6 (.lit (.int .i64 ((List.length x1 : Nat) : Int)))).upd 7 (.lit (.int .i64 x3))) Mem.nil _
   refine WP.sr ?_
   obtain ⟨x4, h1, H⟩ := bnd H
   refine WPL.qq (q_nm (q_lss rfl rfl) (nm_bool h1)) ?_
   refine WPL.nx ?_
   refine WP.seq ?_
   refine WP.cond (t := x4) rfl (fun hb1 => ?_) (fun hb1 => ?_)
   · replace H := cnt hb1 H
     refine WP.skipW ?_
     refine W.now ?_
     refine Then.n ?_
     refine WP.seq ?_
     refine WP.block ?_
     refine WP.sr ?_
     obtain ⟨x5, h2, H⟩ := bnd H
     refine WPL.qq (q_index_ro sl130 rfl rfl rfl h2) ?_
     refine WPL.qq (q_load_roag ag23 rfl rfl S_api_Dec.sp) ?_
     refine WPL.d (d_alloc ze23 rfl) rfl ?_
     refine WPL.s (s_store sz23 rfl rfl rfl rfl rfl) ?_
     refine WPL.nx ?_
     refine WP.seq ?_
     obtain ⟨x6, H2, H⟩ := bnd H
     refine WP.monoW (Q := fun x E M => x = .normal ∧ E = ((((Env.none.upd 5 (.ro (Rd.slice rdS_api_Dec) true x1)).upd 6 (.lit (.int .i64 ((List.length x1 : Nat) : Int)))).upd 7 (.lit (.int .i64 x3))).upd 18 (.lit (.bool x6))) ∧ M = Mem.nil) ?_ ?_
     · clear H
       have H := H2
       clear H2
       refine WP.region ?_
       refine WPL.qq (q_fieldAddr fi23_1 rfl rfl) ?_
       refine WPL.qq (q_load sc3 rfl rfl rfl) ?_
       refine WPL.qq (q_lss rfl rfl) ?_
       refine WPL.qq (q_mv (v := .lit (.bool _)) rfl) ?_
       refine WPL.split (t := 14) (b := (decide (x5.fE < (-18)))) rfl (fun hb2 => ?_) (fun hb2 => ?_)
       · replace H := cnt hb2 H
         refine WPL.sg true rfl (lb hb2) ?_
         refine WPL.sg true rfl (lb hb2) ?_
         refine WPL.sg true rfl (lb hb2) ?_
         refine WPL.qq (q_pickT (v := .lit (.bool _)) (lb hb2) rfl) ?_
         refine WPL.nilW ?_
         have q0 := j1 H
         subst q0
         exact W.wk [] hnp r3 ⟨rfl, trivial, by decide, rfl, trivial⟩ (LeE.u (LeE.u (LeE.u (LeE.u (LeE.none rfl rfl))))) rfl
       replace H := cnf hb2 H
       refine WPL.gq rfl (lb hb2) (q_fieldAddr fi23_1 rfl rfl) ?_
       refine WPL.gq rfl (lb hb2) (q_load sc3 rfl rfl rfl) ?_
       refine WPL.gq rfl (lb hb2) (q_gtr rfl rfl) ?_
       refine WPL.qq (q_pickF (v := .lit (.bool _)) (lb hb2) rfl) ?_
       refine WPL.nilW ?_
       have q0 := j1 H
       subst q0
       exact W.wk [] hnp r3 ⟨rfl, trivial, by decide, rfl, trivial⟩ (LeE.u (LeE.u (LeE.u (LeE.u (LeE.none rfl rfl))))) rfl
     rintro _ _ _ ⟨rfl, rfl, rfl⟩
     refine W.now ?_
     refine Then.n ?_
     refine WP.cond (t := x6) rfl (fun hb3 => ?_) (fun hb3 => ?_)
     · replace H := cnt hb3 H
       refine WP.sr ?_
       refine WPL.qq (q_as (v := .lit (.bool _)) rfl) ?_
       refine WPL.nx ?_
       refine WP.retW ?_
       have q0 := j1 H
       subst q0
       exact W.wk [] hnp (InBlock.r (Then.r (Then.r r3))) ⟨rfl, trivial, by decide, rfl, trivial⟩ (LeE.u (LeE.none rfl rfl)) rfl
     replace H := cnf hb3 H
     refine WP.skipW ?_
     refine W.now ?_
     refine InBlock.n ?_
     refine Then.n ?_
     refine WP.region ?_
     refine WPL.qq (q_add rfl rfl) ?_
     refine WPL.qq (q_mv (v := .lit (.int _ _)) rfl) ?_
     refine WPL.nilW ?_
     exact W.wk [] hnp (Then.n ⟨n, (IntKind.wrap .i64 (x3 + 1)), Nat.lt_succ_self n, H, rfl, rfl⟩) ⟨rfl, trivial, by decide, rfl, trivial⟩ (LeE.u (LeE.u (LeE.u (LeE.none rfl rfl)))) rfl
   replace H := cnf hb1 H
   refine WP.exitW ?_
   have q0 := j1 H
   subst q0
   exact W.wk [] hnp (Then.x (Then.x r3)) ⟨rfl, trivial, by decide, rfl, trivial⟩ (LeE.none rfl rfl) rfl
 rcases y1 with _ | _
 · rintro _ _ _ ⟨rfl, rfl, rfl⟩
   have q0 := j1 H
   subst q0
   exact W.now (InBlock.r (Then.r (BodyR.mkR trivial rfl [] ⟨rfl, rfl⟩ ⟨rfl, trivial, by decide, rfl, trivial⟩ rfl rfl)))
 rintro _ _ _ ⟨rfl, rfl, rfl⟩
 refine W.now ?_
 refine InBlock.x0 ?_
 refine Then.n ?_
 refine WP.sr ?_
 refine WPL.qq (q_as (v := .lit (.bool _)) rfl) ?_
 refine WPL.nx ?_
 refine WP.retW ?_
 have q0 := j1 H
 subst q0
 exact W.now (BodyR.mkR trivial rfl [] ⟨rfl, rfl⟩ ⟨rfl, trivial, by decide, rfl, trivial⟩ rfl rfl)
theorem s_dec_Right (k : Nat) (x1 : Int) (x2 : Int) (x3 : Bool) (H : g_dec_Right k x1 x2 = some x3) : Go.Q.Spec Tryz.prog 45 0 [.agg [.lit (.int .i64 x1), .lit (.int .i64 x2)]] Mem.nil (fun o M => o = .ret (.lit (.bool x3)) ∧ M = Mem.nil) := by
 unfold g_dec_Right at H
 refine Go.Q.Spec.of_bodyR (az := []) (rs := [.tmp 2]) (nt := 23) Tryz.func45 rfl rfl (by intro t T h; simp at h) rfl rfl fun cx hnp => ?_
 refine WP.sr ?_
 refine WPL.d (d_box rfl rfl) rfl ?_
 refine WPL.qq (q_as (v := .lit (.bool _)) rfl) ?_
 refine WPL.nx ?_
 refine WP.sr ?_
 refine WPL.qq (q_load_ag ag23 rfl rfl (Nat.le_of_ble_eq_true rfl)) ?_
 obtain ⟨x4, h1, H⟩ := bnd H
 refine WPL.c (runs_call (s := []) (t := [1]) (N := 2) (bor := []) fn81 rfl (s_dec_of k x1 x2 x4 h1) ⟨rfl, trivial, by decide, rfl, trivial⟩ rfl trivial (.ren rfl rfl .nil) rfl BB1 rfl) rfl ?_
 obtain ⟨⟨x5, x6, x7⟩, h2, H⟩ := bnd H
 refine WPL.c (runs_call (s := []) (t := [2]) (N := 3) (bor := []) fn82 rfl (s_dec_num_tell k (decide (x1 < 0)) 0 x4 x2 x5 x6 x7 h2) ⟨rfl, trivial, by decide, rfl, trivial⟩ rfl trivial (.ren rfl rfl .nil) rfl BB1 rfl) rfl ?_
 refine WPL.qq (q_mv (v := .tup _) rfl) ?_
 refine WPL.qq (q_extract rfl rfl) ?_
 refine WPL.qq (q_extract rfl rfl) ?_
 refine WPL.d (d_alloc ze23 rfl) rfl ?_
 refine WPL.s (s_store sz23 rfl rfl rfl rfl rfl) ?_
 refine WPL.qq (q_as (v := .lit (.int _ _)) rfl) ?_
 refine WPL.nx ?_
 refine WP.seq ?_
 obtain ⟨x8, H1, H⟩ := bnd H
 refine WP.monoW (Q := fun x E M => x = .normal ∧ E = (Env.none.upd 2 (.lit (.bool x8))) ∧ M = Mem.nil) ?_ ?_
 · clear H
   have H := H1
   clear H1
   refine WP.region ?_
   refine WPL.qq (q_load_ag ag23 rfl rfl (Nat.le_of_ble_eq_true rfl)) ?_
   refine WPL.d (d_buildSlice (ds := ([(⟨x1, x2⟩ : S_api_Dec)] : List S_api_Dec)) (R := rdS_api_Dec) li130 rfl rfl rfl rfl rfl (JoinRows.cons (l := [.lit (.int .i64 x1), .lit (.int .i64 x2)]) (Joins.via (Joins.cons Joins.sc (Joins.cons Joins.sc Joins.unit))) rfl JoinRows.nil) rfl rfl) rfl ?_
   obtain ⟨x9, h3, H⟩ := bnd H
   refine WPL.c (runs_call (s := []) (t := []) (N := 5) (bor := [4]) fn83 rfl (s_dec_ranged k ([(⟨x1, x2⟩ : S_api_Dec)] : List S_api_Dec) x9 h3) ⟨rfl, trivial, by decide, rfl, trivial⟩ rfl ⟨trivial, rfl, rfl, trivial⟩ (.row rfl rfl .nil) rfl trivial rfl) rfl ?_
   refine WPL.qq (q_mv (v := .lit (.bool _)) rfl) ?_
   refine WPL.split (t := 14) (b := x9) rfl (fun hb1 => ?_) (fun hb1 => ?_)
   · replace H := cnt hb1 H
     refine WPL.gq rfl (lb hb1) (q_mv (v := .lit (.int _ _)) rfl) ?_
     refine WPL.gq rfl (lb hb1) (q_eql rfl rfl) ?_
     refine WPL.qq (q_pickT (v := .lit (.bool _)) (lb hb1) rfl) ?_
     refine WPL.qq (q_mv (v := .lit (.bool _)) rfl) ?_
     refine WPL.split (t := 18) (b := (decide (x5 = 0))) rfl (fun hb2 => ?_) (fun hb2 => ?_)
     · replace H := cnt hb2 H
       refine WPL.gq rfl (lb hb2) (q_load_ag ag23 rfl rfl (Nat.le_of_ble_eq_true rfl)) ?_
       refine WPL.gq rfl (lb hb2) (q_load_ag ag23 rfl rfl (Nat.le_of_ble_eq_true rfl)) ?_
       obtain ⟨x10, h4, H⟩ := bnd H
       refine WPL.gq rfl (lb hb2) (q_nm (q_eqlAg (xs := [(.int .i64 x6), (.int .i64 x7)]) (ys := [(.int .i64 x1), (.int .i64 x2)]) (n := 9) rfl eg23 rfl rfl eq23) (nm_bool h4)) ?_
       refine WPL.qq (q_pickT (v := .lit (.bool _)) (lb hb2) rfl) ?_
       refine WPL.qq (q_as (v := .lit (.bool _)) rfl) ?_
       refine WPL.nilW ?_
       have q0 := j1 H
       subst q0
       exact W.wk [] hnp r3 ⟨rfl, trivial, by decide, rfl, trivial⟩ (LeE.u (LeE.none rfl rfl)) rfl
     replace H := cnf hb2 H
     refine WPL.sg false rfl (lb hb2) ?_
     refine WPL.sg false rfl (lb hb2) ?_
     refine WPL.sg false rfl (lb hb2) ?_
     refine WPL.qq (q_pickF (v := .lit (.bool _)) (lb hb2) rfl) ?_
     refine WPL.qq (q_as (v := .lit (.bool _)) rfl) ?_
     refine WPL.nilW ?_
     have q0 := j1 H
     subst q0
     exact W.wk [] hnp r3 ⟨rfl, trivial, by decide, rfl, trivial⟩ (LeE.u (LeE.none rfl rfl)) rfl
   replace H := cnf hb1 H
   refine WPL.sg false rfl (lb hb1) ?_
   refine WPL.sg false rfl (lb hb1) ?_
   refine WPL.qq (q_pickF (v := .lit (.bool _)) (lb hb1) rfl) ?_
   refine WPL.qq (q_mv (v := .lit (.bool _)) rfl) ?_
   refine WPL.sg false rfl rfl ?_
   refine WPL.sg false rfl rfl ?_
   refine WPL.sg false rfl rfl ?_
   refine WPL.qq (q_pickF (v := .lit (.bool _)) rfl rfl) ?_
   refine WPL.qq (q_as (v := .lit (.bool _)) rfl) ?_
   refine WPL.nilW ?_
   have q0 := j1 H
   subst q0
   exact W.wk [] hnp r3 ⟨rfl, trivial, by decide, rfl, trivial⟩ (LeE.u (LeE.none rfl rfl)) rfl
 rintro _ _ _ ⟨rfl, rfl, rfl⟩
 refine W.now ?_
 refine Then.n ?_
 refine WP.retW ?_
 have q0 := j1 H
 subst q0
 exact W.now (BodyR.mkR trivial rfl [] ⟨rfl, rfl⟩ ⟨rfl, trivial, by decide, rfl, trivial⟩ rfl rfl)
theorem s_val_Of (k : Nat) (x1 : Int) (x2 : Int) (x3 : Int) (x4 : Int) (x5 : Int) (x6 : Int) (x7 : Int) (H : g_val_Of k x1 x2 x3 = some (x4, x5, x6, x7)) : Go.Q.Spec Tryz.prog 12 0 [.agg [.lit (.int .i64 x1), .lit (.int .i64 x2)], .lit (.int .i64 x3)] Mem.nil (fun o M => o = .ret (.agg [.lit (.int .i64 x4), .lit (.int .i64 x5), .lit (.int .i64 x6), .lit (.string (ByteArray.mk #[])), .lit (.bool false), .lit (.int .i64 x7)]) ∧ M = (Mem.nil.push (.cells 29 [.lit (.int .i64 x4), .lit (.int .i64 x5), .lit (.int .i64 x6), .lit (.string (ByteArray.mk #[])), .lit (.bool false), .lit (.int .i64 x7)]))) := by
 unfold g_val_Of at H
 refine Go.Q.Spec.of_bodyR (az := [(29, 6)]) (rs := [.cell 4 29]) (nt := 20) Tryz.func12 rfl rfl (by intro t T h; simp at h; rcases h with ⟨rfl, rfl⟩ <;> first | exact ag29) rfl rfl fun cx hnp => ?_
 refine WP.sr ?_
 refine WPL.d (d_box rfl rfl) rfl ?_
 refine WPL.d (d_alloc ze29 rfl) rfl ?_
 refine WPL.nx ?_
 refine WP.seq ?_
 refine WP.block ?_
 refine WP.sr ?_
 refine WPL.qq (q_mv (v := .lit (.int _ _)) rfl) ?_
 refine WPL.qq (q_eql rfl rfl) ?_
 refine WPL.qq (q_as (v := .lit (.bool _)) rfl) ?_
 refine WPL.nx ?_
 refine WP.cond (t := (decide (x3 = 31))) rfl (fun hb1 => ?_) (fun hb1 => ?_)
 · replace H := cnt hb1 H
   refine WP.sr ?_
   obtain ⟨x8, h1, H⟩ := bnd H
   refine WPL.c (runs_call (s := []) (t := [2]) (N := 3) (bor := []) fn16 rfl (s_val_Err k 1 x8 h1) ⟨rfl, trivial, by decide, rfl, trivial⟩ rfl trivial (.ren rfl rfl .nil) rfl BB1 rfl) rfl ?_
   refine WPL.s (s_store sz29 rfl rfl rfl rfl rfl) ?_
   refine WPL.nx ?_
   refine WP.retW ?_
   obtain ⟨rfl, rfl, rfl, rfl⟩ := j4 H
   exact W.now (InBlock.r (Then.r (BodyR.mkR trivial rfl [1] ⟨rfl, rfl⟩ ⟨rfl, AA1, by decide, rfl, trivial⟩ rfl rfl)))
 replace H := cnf hb1 H
 refine WP.seq ?_
 obtain ⟨x9, H1, H⟩ := bnd H
 refine WP.monoW (Q := fun x E M => x = .normal ∧ E = (((Env.none.upd 2 (.ptr 0 0)).upd 4 (.ptr 1 0)).upd 9 (.lit (.bool x9))) ∧ M = ((Mem.nil.push (.cells 23 [.lit (.int .i64 x1), .lit (.int .i64 x2)])).push (.cells 29 [.lit (.int .i64 0), .lit (.int .i64 0), .lit (.int .i64 0), .lit (.string (ByteArray.mk #[])), .lit (.bool false), .lit (.int .i64 0)]))) ?_ ?_
 · clear H
   have H := H1
   clear H1
   refine WP.region ?_
   refine WPL.qq (q_mv (v := .lit (.int _ _)) rfl) ?_
   refine WPL.qq (q_neq rfl rfl) ?_
   refine WPL.qq (q_mv (v := .lit (.bool _)) rfl) ?_
   refine WPL.split (t := 12) (b := (!decide (x3 = 0))) rfl (fun hb2 => ?_) (fun hb2 => ?_)
   · replace H := cnt hb2 H
     refine WPL.sg true rfl (lb hb2) ?_
     refine WPL.sg true rfl (lb hb2) ?_
     refine WPL.sg true rfl (lb hb2) ?_
     refine WPL.qq (q_pickT (v := .lit (.bool _)) (lb hb2) rfl) ?_
     refine WPL.qq (q_as (v := .lit (.bool _)) rfl) ?_
     refine WPL.nilW ?_
     have q0 := j1 H
     subst q0
     exact W.wk [0, 1] hnp r3 ⟨rfl, AA2, by decide, rfl, trivial⟩ (LeE.u (LeE.u (LeE.u (LeE.none rfl rfl)))) rfl
   replace H := cnf hb2 H
   refine WPL.gq rfl (lb hb2) (q_load_ag ag23 rfl rfl (Nat.le_of_ble_eq_true rfl)) ?_
   obtain ⟨x10, h2, H⟩ := bnd H
   refine WPL.cg rfl rfl (lb hb2) (runs_call (s := []) (t := []) (N := 2) (bor := []) fn45 rfl (s_dec_Right k x1 x2 x10 h2) ⟨rfl, trivial, by decide, rfl, trivial⟩ rfl trivial (.ren rfl rfl .nil) rfl trivial rfl) rfl ?_
   refine WPL.gq rfl (lb hb2) (q_not rfl) ?_
   refine WPL.qq (q_pickF (v := .lit (.bool _)) (lb hb2) rfl) ?_
   refine WPL.qq (q_as (v := .lit (.bool _)) rfl) ?_
   refine WPL.nilW ?_
   have q0 := j1 H
   subst q0
   exact W.wk [0, 1] hnp r3 ⟨rfl, AA2, by decide, rfl, trivial⟩ (LeE.u (LeE.u (LeE.u (LeE.none rfl rfl)))) rfl
 rintro _ _ _ ⟨rfl, rfl, rfl⟩
 refine W.now ?_
 refine Then.n ?_
 refine WP.cond (t := x9) rfl (fun hb3 => ?_) (fun hb3 => ?_)
 · replace H := cnt hb3 H
   refine WP.sr ?_
   obtain ⟨x11, h3, H⟩ := bnd H
   refine WPL.c (runs_call (s := []) (t := [2]) (N := 3) (bor := []) fn16 rfl (s_val_Err k 5 x11 h3) ⟨rfl, trivial, by decide, rfl, trivial⟩ rfl trivial (.ren rfl rfl .nil) rfl BB1 rfl) rfl ?_
   refine WPL.s (s_store sz29 rfl rfl rfl rfl rfl) ?_
   refine WPL.nx ?_
   refine WP.retW ?_
   obtain ⟨rfl, rfl, rfl, rfl⟩ := j4 H
   exact W.now (InBlock.r (Then.r (BodyR.mkR trivial rfl [1] ⟨rfl, rfl⟩ ⟨rfl, AA1, by decide, rfl, trivial⟩ rfl rfl)))
 replace H := cnf hb3 H
 refine WP.skipW ?_
 refine W.now ?_
 refine InBlock.n ?_
 refine Then.n ?_
 refine WP.sr ?_
 refine WPL.qq (q_load_ag ag23 rfl rfl (Nat.le_of_ble_eq_true rfl)) ?_
 refine WPL.qq (q_build bu29 rfl) ?_
 refine WPL.s (s_store sz29 rfl rfl rfl rfl rfl) ?_
 refine WPL.nx ?_
 refine WP.retW ?_
 obtain ⟨rfl, rfl, rfl, rfl⟩ := j4 H
 exact W.now (BodyR.mkR trivial rfl [1] ⟨rfl, rfl⟩ ⟨rfl, AA1, by decide, rfl, trivial⟩ rfl rfl)
end Go.Proofs.YthpcgknknpjpdaaGreatDoor.W
