/- Texts joined: part 3 of what LValTurns stands on. -/
import Derived.Test.YthpcgknknpjpdaaGreatDoorSValTurnsb
import Derived.Test.YthpcgknknpjpdaaGreatDoorProg
namespace Go.Proofs.YthpcgknknpjpdaaGreatDoor.W
open Go Go.Q Go.Proofs
set_option linter.unusedVariables false
set_option linter.unusedSimpArgs false
structure S_api_Dec where
  fC : Int
  fE : Int
  deriving Inhabited, DecidableEq
def rdS_api_Dec : Rd S_api_Dec := Rd.via (Rd.pair (Rd.int .i64) (Rd.pair (Rd.int .i64) Rd.unit)) fun x => (x.fC, (x.fE, ()))
theorem S_api_Dec.sp {b : Bool} {d : S_api_Dec} : Splits rdS_api_Dec b d [.lit (.int .i64 d.fC), .lit (.int .i64 d.fE)] := Splits.via (Splits.pair Splits.sc (Splits.pair Splits.sc Splits.unit))
structure S_unicode_utf8_acceptRange where
  flo : Int
  fhi : Int
  deriving Inhabited, DecidableEq
def rdS_unicode_utf8_acceptRange : Rd S_unicode_utf8_acceptRange := Rd.via (Rd.pair (Rd.int .u8) (Rd.pair (Rd.int .u8) Rd.unit)) fun x => (x.flo, (x.fhi, ()))
theorem S_unicode_utf8_acceptRange.sp {b : Bool} {d : S_unicode_utf8_acceptRange} : Splits rdS_unicode_utf8_acceptRange b d [.lit (.int .u8 d.flo), .lit (.int .u8 d.fhi)] := Splits.via (Splits.pair Splits.sc (Splits.pair Splits.sc Splits.unit))
structure S_api_Value where
  fKind : Int
  fN : S_api_Dec
  fS : ByteArray
  fB : Bool
  fE : Int
  deriving Inhabited, DecidableEq
def rdS_api_Value : Rd S_api_Value := Rd.via (Rd.pair (Rd.int .i64) (Rd.pair rdS_api_Dec (Rd.pair Rd.str (Rd.pair Rd.bool (Rd.pair (Rd.int .i64) Rd.unit))))) fun x => (x.fKind, (x.fN, (x.fS, (x.fB, (x.fE, ())))))
theorem S_api_Value.sp {b : Bool} {d : S_api_Value} : Splits rdS_api_Value b d [.lit (.int .i64 d.fKind), .lit (.int .i64 d.fN.fC), .lit (.int .i64 d.fN.fE), .lit (.string d.fS), .lit (.bool d.fB), .lit (.int .i64 d.fE)] := Splits.via (Splits.pair Splits.sc (Splits.pair S_api_Dec.sp (Splits.pair Splits.sc (Splits.pair Splits.sc (Splits.pair Splits.sc Splits.unit)))))
def tabA : List S_unicode_utf8_acceptRange := tab1.map fun p => ⟨p.1, p.2⟩
def g_val_names (k : Nat) : Option Unit := some ()
def g_sc_Index_string_string_l0 (k : Nat) (x1 : (List ByteArray)) (x2 : ByteArray) : Nat → Int → Option (Int ⊕ Unit)
  | 0, _ => none
  | n + 1, x3 => ((some (decide (x3 < ((List.length x1 : Nat) : Int)))).bind fun x4 => (bif x4 then ((ix x1 x3).bind fun x5 => (bif (x2.toList == x5.toList) then some (Sum.inl x3) else (g_sc_Index_string_string_l0 k x1 x2 n (IntKind.wrap .i64 (x3 + 1))))) else some (Sum.inr ())))
theorem g_sc_Index_string_string_l0_eqs : True := by have := @g_sc_Index_string_string_l0.eq_2; trivial
def g_sc_Index_string_string (k : Nat) (x1 : (List ByteArray)) (x2 : ByteArray) : Option Int := (((g_sc_Index_string_string_l0 k x1 x2 k 0) : Option (Int ⊕ Unit)).bind fun y1 => match y1 with | (Sum.inl x3) => some x3 | (Sum.inr _) => some (-1))
def g_val_ErrCode (k : Nat) (x1 : ByteArray) : Option (Int × Bool) := ((g_val_names k).bind fun _ => ((g_sc_Index_string_string k ([(ByteArray.mk #[]), (ByteArray.mk #[35, 68, 73, 86, 47, 48, 33]), (ByteArray.mk #[35, 86, 65, 76, 85, 69, 33]), (ByteArray.mk #[35, 82, 69, 70, 33]), (ByteArray.mk #[35, 78, 65, 77, 69, 63]), (ByteArray.mk #[35, 78, 85, 77, 33]), (ByteArray.mk #[35, 78, 47, 65]), (ByteArray.mk #[35, 67, 89, 67, 76, 69, 33])] : List ByteArray) x1).bind fun x2 => ((some (if (0 : Int) > x2 then (0 : Int) else x2)).bind fun x3 => some (x3, (decide (0 < x2))))))
def g_rv_Names (k : Nat) : Option Unit := some ()
def g_val_ErrName (k : Nat) (x1 : Int) : Option ByteArray := (((bif (decide (x1 < 0)) then some true else ((g_val_names k).bind fun _ => ((some ((List.length ([(ByteArray.mk #[]), (ByteArray.mk #[35, 68, 73, 86, 47, 48, 33]), (ByteArray.mk #[35, 86, 65, 76, 85, 69, 33]), (ByteArray.mk #[35, 82, 69, 70, 33]), (ByteArray.mk #[35, 78, 65, 77, 69, 63]), (ByteArray.mk #[35, 78, 85, 77, 33]), (ByteArray.mk #[35, 78, 47, 65]), (ByteArray.mk #[35, 67, 89, 67, 76, 69, 33])] : List ByteArray) : Nat) : Int)).bind fun x2 => some (decide (x2 ≤ x1))))) : Option Bool).bind fun x3 => (bif x3 then some (ByteArray.mk #[]) else ((g_val_names k).bind fun _ => ((ix ([(ByteArray.mk #[]), (ByteArray.mk #[35, 68, 73, 86, 47, 48, 33]), (ByteArray.mk #[35, 86, 65, 76, 85, 69, 33]), (ByteArray.mk #[35, 82, 69, 70, 33]), (ByteArray.mk #[35, 78, 65, 77, 69, 63]), (ByteArray.mk #[35, 78, 85, 77, 33]), (ByteArray.mk #[35, 78, 47, 65]), (ByteArray.mk #[35, 67, 89, 67, 76, 69, 33])] : List ByteArray) x1).bind fun x4 => some x4))))
def g_val_Err (k : Nat) (x1 : Int) : Option Int := ((((g_val_ErrName k x1).bind fun x2 => ((some (x2.toList == (ByteArray.mk #[]).toList)).bind fun x3 => (bif x3 then some 2 else some x1))) : Option Int).bind fun x4 => some x4)
def g_dec_size (k : Nat) (x1 : Int) : Option Int := (bif (decide (x1 < 0)) then ((some (IntKind.wrap .u64 (0 - (IntKind.wrap .u64 x1)))).bind fun x2 => some x2) else some (IntKind.wrap .u64 x1))
def g_dec_of (k : Nat) (x1 : Int) (x2 : Int) : Option Int := ((g_dec_size k x1).bind fun x3 => some x3)
def g_dec_wide_zero (k : Nat) (x1 : Int) (x2 : Int) : Option Unit := some ()
def g_mb_Len64 (k : Nat) (x1 : Int) : Option Int := (((bif (decide (4294967296 ≤ x1)) then some ((shrI .u64 x1 32), 32) else some (x1, 0)) : Option (Int × Int)).bind fun (x2, x3) => (((bif (decide (65536 ≤ x2)) then some ((shrI .u64 x2 16), (IntKind.wrap .i64 (x3 + 16))) else some (x2, x3)) : Option (Int × Int)).bind fun (x4, x5) => (((bif (decide (256 ≤ x4)) then some ((shrI .u64 x4 8), (IntKind.wrap .i64 (x5 + 8))) else some (x4, x5)) : Option (Int × Int)).bind fun (x6, x7) => ((ix (strInts (ByteArray.mk #[0, 1, 2, 2, 3, 3, 3, 3, 4, 4, 4, 4, 4, 4, 4, 4, 5, 5, 5, 5, 5, 5, 5, 5, 5, 5, 5, 5, 5, 5, 5, 5, 6, 6, 6, 6, 6, 6, 6, 6, 6, 6, 6, 6, 6, 6, 6, 6, 6, 6, 6, 6, 6, 6, 6, 6, 6, 6, 6, 6, 6, 6, 6, 6, 7, 7, 7, 7, 7, 7, 7, 7, 7, 7, 7, 7, 7, 7, 7, 7, 7, 7, 7, 7, 7, 7, 7, 7, 7, 7, 7, 7, 7, 7, 7, 7, 7, 7, 7, 7, 7, 7, 7, 7, 7, 7, 7, 7, 7, 7, 7, 7, 7, 7, 7, 7, 7, 7, 7, 7, 7, 7, 7, 7, 7, 7, 7, 7, 8, 8, 8, 8, 8, 8, 8, 8, 8, 8, 8, 8, 8, 8, 8, 8, 8, 8, 8, 8, 8, 8, 8, 8, 8, 8, 8, 8, 8, 8, 8, 8, 8, 8, 8, 8, 8, 8, 8, 8, 8, 8, 8, 8, 8, 8, 8, 8, 8, 8, 8, 8, 8, 8, 8, 8, 8, 8, 8, 8, 8, 8, 8, 8, 8, 8, 8, 8, 8, 8, 8, 8, 8, 8, 8, 8, 8, 8, 8, 8, 8, 8, 8, 8, 8, 8, 8, 8, 8, 8, 8, 8, 8, 8, 8, 8, 8, 8, 8, 8, 8, 8, 8, 8, 8, 8, 8, 8, 8, 8, 8, 8, 8, 8, 8, 8, 8, 8, 8, 8, 8, 8, 8, 8, 8, 8, 8, 8])) (IntKind.wrap .u8 x6)).bind fun x8 => ((some (IntKind.wrap .i64 (x7 + (IntKind.wrap .i64 x8)))).bind fun x9 => some x9)))))
def g_mb_LeadingZeros64 (k : Nat) (x1 : Int) : Option Int := ((g_mb_Len64 k x1).bind fun x2 => some (IntKind.wrap .i64 (64 - x2)))
def g_mb_Div64_l0 (k : Nat) (x1 : Int) (x2 : Int) : Nat → Int → Int → Option Int
  | 0, _, _ => none
  | n + 1, x3, x4 => (((bif (decide (4294967296 ≤ x3)) then some true else ((some (IntKind.wrap .u64 (x3 * (bits .and .u64 x1 4294967295)))).bind fun x5 => ((some (IntKind.wrap .u64 (4294967296 * x4))).bind fun x6 => ((some (IntKind.wrap .u64 (x6 + (shrI .u64 x2 32)))).bind fun x7 => some (decide (x7 < x5)))))) : Option Bool).bind fun x8 => (bif x8 then ((some (IntKind.wrap .u64 (x4 + (shrI .u64 x1 32)))).bind fun x9 => (bif (decide (4294967296 ≤ x9)) then some (IntKind.wrap .u64 (x3 - 1)) else (g_mb_Div64_l0 k x1 x2 n (IntKind.wrap .u64 (x3 - 1)) x9))) else some x3))
theorem g_mb_Div64_l0_eqs : True := by have := @g_mb_Div64_l0.eq_2; trivial
def g_mb_Div64_l1 (k : Nat) (x1 : Int) (x2 : Int) : Nat → Int → Int → Option Int
  | 0, _, _ => none
  | n + 1, x3, x4 => (((bif (decide (4294967296 ≤ x4)) then some true else ((some (IntKind.wrap .u64 (x4 * (bits .and .u64 x1 4294967295)))).bind fun x5 => ((some (IntKind.wrap .u64 (4294967296 * x3))).bind fun x6 => ((some (IntKind.wrap .u64 (x6 + (bits .and .u64 x2 4294967295)))).bind fun x7 => some (decide (x7 < x5)))))) : Option Bool).bind fun x8 => (bif x8 then ((some (IntKind.wrap .u64 (x3 + (shrI .u64 x1 32)))).bind fun x9 => (bif (decide (4294967296 ≤ x9)) then some (IntKind.wrap .u64 (x4 - 1)) else (g_mb_Div64_l1 k x1 x2 n x9 (IntKind.wrap .u64 (x4 - 1))))) else some x4))
theorem g_mb_Div64_l1_eqs : True := by have := @g_mb_Div64_l1.eq_2; trivial
def g_mb_Div64 (k : Nat) (x1 : Int) (x2 : Int) (x3 : Int) : Option (Int × Int) := (bif (decide (x3 = 0)) then none else (bif (decide (x3 ≤ x1)) then none else (bif (decide (x1 = 0)) then (bif (!(x3 == 0)) then (bif (!(x3 == 0)) then some ((IntKind.wrap .u64 (Int.tdiv x2 x3)), (Int.tmod x2 x3)) else none) else none) else ((g_mb_LeadingZeros64 k x3).bind fun x4 => (bif (decide (0 ≤ (IntKind.wrap .u64 x4))) then ((some (shlI .u64 x3 (IntKind.wrap .u64 x4))).bind fun x5 => (bif (decide (0 ≤ (IntKind.wrap .u64 x4))) then ((some (shlI .u64 x1 (IntKind.wrap .u64 x4))).bind fun x6 => ((some (IntKind.wrap .u64 (64 - (IntKind.wrap .u64 x4)))).bind fun x7 => (bif (decide (0 ≤ x7)) then (bif (decide (0 ≤ (IntKind.wrap .u64 x4))) then ((some (shlI .u64 x2 (IntKind.wrap .u64 x4))).bind fun x8 => (bif (!((shrI .u64 x5 32) == 0)) then ((some (IntKind.wrap .u64 (Int.tdiv (bits .or .u64 x6 (shrI .u64 x2 x7)) (shrI .u64 x5 32)))).bind fun x9 => ((some (IntKind.wrap .u64 (x9 * (shrI .u64 x5 32)))).bind fun x10 => ((some (IntKind.wrap .u64 ((bits .or .u64 x6 (shrI .u64 x2 x7)) - x10))).bind fun x11 => ((g_mb_Div64_l0 k x5 x8 k x9 x11).bind fun x12 => ((some (IntKind.wrap .u64 ((bits .or .u64 x6 (shrI .u64 x2 x7)) * 4294967296))).bind fun x13 => ((some (IntKind.wrap .u64 (x13 + (shrI .u64 x8 32)))).bind fun x14 => ((some (IntKind.wrap .u64 (x14 - (IntKind.wrap .u64 (x12 * x5))))).bind fun x15 => (bif (!((shrI .u64 x5 32) == 0)) then ((some (IntKind.wrap .u64 (Int.tdiv x15 (shrI .u64 x5 32)))).bind fun x16 => ((some (IntKind.wrap .u64 (x16 * (shrI .u64 x5 32)))).bind fun x17 => ((g_mb_Div64_l1 k x5 x8 k (IntKind.wrap .u64 (x15 - x17)) x16).bind fun x18 => ((some (IntKind.wrap .u64 (x12 * 4294967296))).bind fun x19 => ((some (IntKind.wrap .u64 (x15 * 4294967296))).bind fun x20 => ((some (IntKind.wrap .u64 (x20 + (bits .and .u64 x8 4294967295)))).bind fun x21 => ((some (IntKind.wrap .u64 (x21 - (IntKind.wrap .u64 (x18 * x5))))).bind fun x22 => (bif (decide (0 ≤ (IntKind.wrap .u64 x4))) then ((some (shrI .u64 x22 (IntKind.wrap .u64 x4))).bind fun x23 => some ((IntKind.wrap .u64 (x19 + x18)), x23)) else none)))))))) else none)))))))) else none)) else none) else none))) else none)) else none)))))
def g_dec_wide_by (k : Nat) (x1 : Int) (x2 : Int) (x3 : Int) : Option (Int × Int × Int) := ((g_mb_Div64 k 0 x1 x3).bind fun (x4, x5) => ((g_mb_Div64 k x5 x2 x3).bind fun (x6, x7) => some (x7, x4, x6)))
def g_mb_Mul64 (k : Nat) (x1 : Int) (x2 : Int) : Option Int := ((some (IntKind.wrap .u64 ((bits .and .u64 x1 4294967295) * (bits .and .u64 x2 4294967295)))).bind fun x3 => ((some (IntKind.wrap .u64 ((shrI .u64 x1 32) * (bits .and .u64 x2 4294967295)))).bind fun x4 => ((some (IntKind.wrap .u64 (x4 + (shrI .u64 x3 32)))).bind fun x5 => ((some (IntKind.wrap .u64 ((bits .and .u64 x1 4294967295) * (shrI .u64 x2 32)))).bind fun x6 => ((some (IntKind.wrap .u64 ((bits .and .u64 x5 4294967295) + x6))).bind fun x7 => ((some (IntKind.wrap .u64 ((shrI .u64 x1 32) * (shrI .u64 x2 32)))).bind fun x8 => ((some (IntKind.wrap .u64 (x8 + (shrI .u64 x5 32)))).bind fun x9 => ((some (IntKind.wrap .u64 (x9 + (shrI .u64 x7 32)))).bind fun x10 => some x10))))))))
def g_dec_wide_times (k : Nat) (x1 : Int) (x2 : Int) (x3 : Int) : Option (Bool × Int) := ((g_mb_Mul64 k x2 x3).bind fun x4 => ((g_mb_Mul64 k x1 x3).bind fun x5 => ((some (IntKind.wrap .u64 (x5 + (add64 x4 (IntKind.wrap .u64 (x1 * x3)) 0).2))).bind fun x6 => some ((decide (x6 = 0)), (add64 x4 (IntKind.wrap .u64 (x1 * x3)) 0).1))))
def g_dec_wide_tens_l0 (k : Nat) (x1 : Int) : Nat → Bool → Int → Int → Int → Option (Bool × Int × Int)
  | 0, _, _, _, _ => none
  | n + 1, x2, x3, x4, x5 => (((bif (decide (x3 < x1)) then (bif x2 then ((g_dec_wide_zero k x4 x5).bind fun _ => ((some (!(decide ((bits .or .u64 x4 x5) = 0)))).bind fun x6 => some x6)) else some false) else some false) : Option Bool).bind fun x7 => (bif x7 then ((g_dec_wide_times k x4 x5 10).bind fun (x8, x9) => (g_dec_wide_tens_l0 k x1 n x8 (IntKind.wrap .i64 (x3 + 1)) x9 (IntKind.wrap .u64 (x5 * 10)))) else some (x2, x4, x5)))
theorem g_dec_wide_tens_l0_eqs : True := by have := @g_dec_wide_tens_l0.eq_2; trivial
def g_dec_wide_tens (k : Nat) (x1 : Int) (x2 : Int) (x3 : Int) : Option (Bool × Int × Int) := ((g_dec_wide_tens_l0 k x3 k true 0 x1 x2).bind fun (x4, x5, x6) => some (x4, x5, x6))
def g_dec_num_tell_l0 (k : Nat) : Nat → Int → Int → Int → Int → Int → Int → Option (Int × Int × Int)
  | 0, _, _, _, _, _, _ => none
  | n + 1, x1, x2, x3, x4, x5, x6 => (bif (decide (x1 = 0)) then ((g_dec_wide_by k x5 x6 10).bind fun (x7, x8, x9) => (g_dec_num_tell_l0 k n x7 x5 x6 (IntKind.wrap .i64 (x4 + 1)) x8 x9)) else some (x2, x3, x4))
theorem g_dec_num_tell_l0_eqs : True := by have := @g_dec_num_tell_l0.eq_2; trivial
def g_dec_num_tell (k : Nat) (x1 : Bool) (x2 : Int) (x3 : Int) (x4 : Int) : Option (Int × Int × Int) := ((g_dec_wide_zero k x2 x3).bind fun _ => (bif (decide ((bits .or .u64 x2 x3) = 0)) then some (0, 0, 0) else ((g_dec_wide_by k x2 x3 10).bind fun (x5, x6, x7) => ((g_dec_num_tell_l0 k k x5 x2 x3 x4 x6 x7).bind fun (x8, x9, x10) => (((bif (decide (18 < x10)) then ((some (if (40 : Int) < (IntKind.wrap .i64 (x10 - 18)) then (40 : Int) else (IntKind.wrap .i64 (x10 - 18)))).bind fun x11 => ((g_dec_wide_tens k x8 x9 x11).bind fun (x12, x13, x14) => (((bif (decide (58 < x10)) then some false else some x12) : Option Bool).bind fun x15 => some (x15, x13, x14, 18)))) else some (true, x8, x9, x10)) : Option (Bool × Int × Int × Int)).bind fun (x16, x17, x18, x19) => (((bif x1 then ((some (IntKind.wrap .u64 (9223372036854775807 + 1))).bind fun x20 => some x20) else some 9223372036854775807) : Option Int).bind fun x21 => (((bif (!x16) then some true else (bif (decide (x19 < (-18))) then some true else (bif (decide (0 < x17)) then some true else some (decide (x21 < x18))))) : Option Bool).bind fun x22 => (bif x22 then some (30, 0, 0) else (((bif x1 then ((some (IntKind.wrap .i64 (0 - (IntKind.wrap .i64 x18)))).bind fun x23 => some x23) else some (IntKind.wrap .i64 x18)) : Option Int).bind fun x24 => some (0, x24, x19))))))))))
def g_dec_ranged_l0 (k : Nat) (x1 : (List S_api_Dec)) : Nat → Int → Option (Unit ⊕ Unit)
  | 0, _ => none
  | n + 1, x2 => ((some (decide (x2 < ((List.length x1 : Nat) : Int)))).bind fun x3 => (bif x3 then ((ix x1 x2).bind fun x4 => (((bif (decide (x4.fE < (-18))) then some true else some (decide (18 < x4.fE))) : Option Bool).bind fun x5 => (bif x5 then some (Sum.inl ()) else (g_dec_ranged_l0 k x1 n (IntKind.wrap .i64 (x2 + 1)))))) else some (Sum.inr ())))
theorem g_dec_ranged_l0_eqs : True := by have := @g_dec_ranged_l0.eq_2; trivial
def g_dec_ranged (k : Nat) (x1 : (List S_api_Dec)) : Option Bool := (((g_dec_ranged_l0 k x1 k 0) : Option (Unit ⊕ Unit)).bind fun y1 => match y1 with | (Sum.inl _) => some false | (Sum.inr _) => some true)
def g_dec_Right (k : Nat) (x1 : Int) (x2 : Int) : Option Bool := ((g_dec_of k x1 x2).bind fun x3 => ((g_dec_num_tell k (decide (x1 < 0)) 0 x3 x2).bind fun (x4, x5, x6) => ((((g_dec_ranged k ([(⟨x1, x2⟩ : S_api_Dec)] : List S_api_Dec)).bind fun x7 => (bif x7 then (bif (decide (x4 = 0)) then ((some ((decide (x5 = x1)) && ((decide (x6 = x2)) && true))).bind fun x8 => some x8) else some false) else some false)) : Option Bool).bind fun x9 => some x9)))
def g_val_Of (k : Nat) (x1 : Int) (x2 : Int) (x3 : Int) : Option (Int × Int × Int × Int) := (bif (decide (x3 = 31)) then ((g_val_Err k 1).bind fun x4 => some (4, 0, 0, x4)) else (((bif (!decide (x3 = 0)) then some true else ((g_dec_Right k x1 x2).bind fun x5 => some (!x5))) : Option Bool).bind fun x6 => (bif x6 then ((g_val_Err k 5).bind fun x7 => some (4, 0, 0, x7)) else some (1, x1, x2, 0))))
def g_rv_Err (k : Nat) (x1 : Int) : Option Int := (((((bif (decide (x1 < 1)) then some true else some (decide (7 < x1))) : Option Bool).bind fun x2 => (bif x2 then some 2 else some x1)) : Option Int).bind fun x3 => some x3)
def g_r9_Of_l0 (k : Nat) : Nat → Int → (List Int) → Option (List Int)
  | 0, _, _ => none
  | n + 1, x1, x2 => (bif (!decide (x1 = 0)) then (((bif (decide ((Int.tmod x1 10) < 0)) then ((some (IntKind.wrap .i64 (0 - (Int.tmod x1 10)))).bind fun x3 => some x3) else some (Int.tmod x1 10)) : Option Int).bind fun x4 => (bif (decide (((List.length x2) + (List.length ([x4] : List Int))) * 8 ≤ 140737488355328)) then (g_r9_Of_l0 k n (IntKind.wrap .i64 (Int.tdiv x1 10)) (x2 ++ ([x4] : List Int))) else none)) else some x2)
theorem g_r9_Of_l0_eqs : True := by have := @g_r9_Of_l0.eq_2; trivial
def g_r9_Of (k : Nat) (x1 : Int) : Option (List Int) := ((g_r9_Of_l0 k k x1 ([] : List Int)).bind fun x2 => some x2)
def g_r9_trim_l0 (k : Nat) (x1 : (List Int)) : Nat → Int → Option Int
  | 0, _ => none
  | n + 1, x2 => (((bif (decide (0 < x2)) then ((ix x1 (IntKind.wrap .i64 (x2 - 1))).bind fun x3 => some (decide (x3 = 0))) else some false) : Option Bool).bind fun x4 => (bif x4 then (g_r9_trim_l0 k x1 n (IntKind.wrap .i64 (x2 - 1))) else some x2))
theorem g_r9_trim_l0_eqs : True := by have := @g_r9_trim_l0.eq_2; trivial
def g_r9_trim (k : Nat) (x1 : Bool) (x2 : (List Int)) : Option (Bool × (List Int)) := ((g_r9_trim_l0 k x2 k ((List.length x2 : Nat) : Int)).bind fun x3 => (bif (decide (x3 = 0)) then some (false, ([] : List Int)) else (bif (decide (0 ≤ (0 : Int) ∧ (0 : Int) ≤ x3 ∧ x3 ≤ ((List.length x2 : Nat) : Int))) then (bif (decide (((List.length ([] : List Int)) + (List.length (List.drop (Int.toNat 0) (List.take (Int.toNat x3) x2)))) * 8 ≤ 140737488355328)) then some (x1, (([] : List Int) ++ (List.drop (Int.toNat 0) (List.take (Int.toNat x3) x2)))) else none) else none)))
def g_r9_Shift (k : Nat) (x1 : Bool) (x2 : (List Int)) (x3 : Int) : Option (Bool × (List Int)) := (bif (decide (0 ≤ (x3 : Int) ∧ (x3 : Int) ≤ x3 ∧ (8 : Int) * x3 ≤ 281474976710656 ∧ (x3 : Int) ≤ 9223372036854775807)) then (bif (decide (((List.length (List.replicate (Int.toNat x3) (0 : Int))) + (List.length x2)) * 8 ≤ 140737488355328)) then ((g_r9_trim k x1 ((List.replicate (Int.toNat x3) (0 : Int)) ++ x2)).bind fun (x4, x5) => some (x4, x5)) else none) else none)
def g_r9_at (k : Nat) (x1 : Bool) (x2 : (List Int)) (x3 : Int) : Option Int := (((bif (decide (0 ≤ x3)) then ((some (decide (x3 < ((List.length x2 : Nat) : Int)))).bind fun x4 => some x4) else some false) : Option Bool).bind fun x5 => (bif x5 then ((ix x2 x3).bind fun x6 => some x6) else some 0))
def g_r9_more_l0 (k : Nat) (x1 : Bool) (x2 : (List Int)) (x3 : Bool) (x4 : (List Int)) : Nat → Int → Option (Int ⊕ Unit)
  | 0, _ => none
  | n + 1, x5 => (bif (decide (0 ≤ x5)) then ((g_r9_at k x1 x2 x5).bind fun x6 => ((g_r9_at k x3 x4 x5).bind fun x7 => (bif (decide (x7 < x6)) then some (Sum.inl 1) else ((g_r9_at k x1 x2 x5).bind fun x8 => ((g_r9_at k x3 x4 x5).bind fun x9 => (bif (decide (x8 < x9)) then some (Sum.inl (-1)) else (g_r9_more_l0 k x1 x2 x3 x4 n (IntKind.wrap .i64 (x5 - 1))))))))) else some (Sum.inr ()))
theorem g_r9_more_l0_eqs : True := by have := @g_r9_more_l0.eq_2; trivial
def g_r9_more (k : Nat) (x1 : Bool) (x2 : (List Int)) (x3 : Bool) (x4 : (List Int)) : Option Int := ((some (IntKind.wrap .i64 (((List.length x2 : Nat) : Int) + ((List.length x4 : Nat) : Int)))).bind fun x5 => (((g_r9_more_l0 k x1 x2 x3 x4 k x5) : Option (Int ⊕ Unit)).bind fun y1 => match y1 with | (Sum.inl x6) => some x6 | (Sum.inr _) => some 0))
def g_r9_fits (k : Nat) (x1 : Bool) (x2 : (List Int)) : Option Bool := ((g_r9_Of k (-9223372036854775808)).bind fun x3 => ((g_r9_more k x1 x2 x1 x3).bind fun x4 => (((bif (decide (x4 < 0)) then some true else (bif (decide (x4 = 0)) then some x1 else some false)) : Option Bool).bind fun x5 => some x5)))
def g_r9_Tell_l0 (k : Nat) : Nat → Int → Bool → (List Int) → Option (Int × Bool × (List Int))
  | 0, _, _, _ => none
  | n + 1, x1, x2, x3 => ((((some (decide (0 < ((List.length x3 : Nat) : Int)))).bind fun x4 => (bif x4 then ((ix x3 0).bind fun x5 => some (decide (x5 = 0))) else some false)) : Option Bool).bind fun x6 => (bif x6 then (bif (decide (0 ≤ (1 : Int) ∧ (1 : Int) ≤ ((List.length x3 : Nat) : Int) ∧ ((List.length x3 : Nat) : Int) ≤ ((List.length x3 : Nat) : Int))) then ((g_r9_trim k x2 (List.drop (Int.toNat 1) (List.take (Int.toNat ((List.length x3 : Nat) : Int)) x3))).bind fun (x7, x8) => (g_r9_Tell_l0 k n (IntKind.wrap .i64 (x1 + 1)) x7 x8)) else none) else some (x1, x2, x3)))
theorem g_r9_Tell_l0_eqs : True := by have := @g_r9_Tell_l0.eq_2; trivial
def g_r9_Tell_l1 (k : Nat) : Nat → Int → Bool → (List Int) → Option (Int × Bool × (List Int))
  | 0, _, _, _ => none
  | n + 1, x1, x2, x3 => (((bif (decide (18 < x1)) then ((some (decide (((List.length x3 : Nat) : Int) < 30))).bind fun x4 => some x4) else some false) : Option Bool).bind fun x5 => (bif x5 then ((g_r9_Shift k x2 x3 1).bind fun (x6, x7) => (g_r9_Tell_l1 k n (IntKind.wrap .i64 (x1 - 1)) x6 x7)) else some (x1, x2, x3)))
theorem g_r9_Tell_l1_eqs : True := by have := @g_r9_Tell_l1.eq_2; trivial
def g_r9_Tell_l2 (k : Nat) (x1 : Bool) (x2 : (List Int)) : Nat → Int → Int → Option Int
  | 0, _, _ => none
  | n + 1, x3, x4 => (bif (decide (0 ≤ x4)) then (((bif x1 then ((ix x2 x4).bind fun x5 => ((some (IntKind.wrap .i64 ((IntKind.wrap .i64 (x3 * 10)) - x5))).bind fun x6 => some x6)) else ((ix x2 x4).bind fun x7 => ((some (IntKind.wrap .i64 ((IntKind.wrap .i64 (x3 * 10)) + x7))).bind fun x8 => some x8))) : Option Int).bind fun x9 => (g_r9_Tell_l2 k x1 x2 n x9 (IntKind.wrap .i64 (x4 - 1)))) else some x3)
theorem g_r9_Tell_l2_eqs : True := by have := @g_r9_Tell_l2.eq_2; trivial
def g_r9_Tell (k : Nat) (x1 : Bool) (x2 : (List Int)) (x3 : Int) : Option (Int × Int × Int) := ((some (decide (((List.length x2 : Nat) : Int) = 0))).bind fun x4 => (bif x4 then some (0, 0, 0) else (bif (decide (60 < x3)) then some (30, 0, 0) else ((g_r9_Tell_l0 k k x3 x1 x2).bind fun (x5, x6, x7) => ((g_r9_Tell_l1 k k x5 x6 x7).bind fun (x8, x9, x10) => (((bif (decide (18 < x8)) then some true else (bif (decide (x8 < (-18))) then some true else ((g_r9_fits k x9 x10).bind fun x11 => some (!x11)))) : Option Bool).bind fun x12 => (bif x12 then some (30, 0, 0) else ((some (IntKind.wrap .i64 (((List.length x10 : Nat) : Int) - 1))).bind fun x13 => ((g_r9_Tell_l2 k x9 x10 k 0 x13).bind fun x14 => some (0, x14, x8))))))))))
def g_r9_Right (k : Nat) (x1 : Int) (x2 : Int) : Option Bool := (((bif (decide (x2 < (-18))) then some true else some (decide (18 < x2))) : Option Bool).bind fun x3 => (bif x3 then some false else ((((g_r9_Of k x1).bind fun x4 => ((g_r9_Tell k (decide (x1 < 0)) x4 x2).bind fun (x5, x6, x7) => some (x5, x6, x7))) : Option (Int × Int × Int)).bind fun (x8, x9, x10) => (((bif (decide (x8 = 0)) then ((some ((decide (x9 = x1)) && ((decide (x10 = x2)) && true))).bind fun x11 => some x11) else some false) : Option Bool).bind fun x12 => some x12))))
def g_rv_Of (k : Nat) (x1 : Int) (x2 : Int) (x3 : Int) : Option (Int × Int × Int × Int) := (bif (decide (x3 = 31)) then ((g_rv_Err k 1).bind fun x4 => some (4, 0, 0, x4)) else (((bif (!decide (x3 = 0)) then some true else ((g_r9_Right k x1 x2).bind fun x5 => some (!x5))) : Option Bool).bind fun x6 => (bif x6 then ((g_rv_Err k 5).bind fun x7 => some (4, 0, 0, x7)) else some (1, x1, x2, 0))))
def g_u8_word_string (k : Nat) (x1 : ByteArray) : Option Int := ((ix (strInts x1) 0).bind fun x2 => ((ix (strInts x1) 1).bind fun x3 => ((some (bits .or .u64 (IntKind.wrap .u64 x2) (shlI .u64 (IntKind.wrap .u64 x3) 8))).bind fun x4 => ((ix (strInts x1) 2).bind fun x5 => ((some (shlI .u64 (IntKind.wrap .u64 x5) 16)).bind fun x6 => ((ix (strInts x1) 3).bind fun x7 => ((some (shlI .u64 (IntKind.wrap .u64 x7) 24)).bind fun x8 => ((some (bits .or .u64 (bits .or .u64 x4 x6) x8)).bind fun x9 => ((ix (strInts x1) 4).bind fun x10 => ((some (shlI .u64 (IntKind.wrap .u64 x10) 32)).bind fun x11 => ((ix (strInts x1) 5).bind fun x12 => ((some (shlI .u64 (IntKind.wrap .u64 x12) 40)).bind fun x13 => ((some (bits .or .u64 (bits .or .u64 x9 x11) x13)).bind fun x14 => ((ix (strInts x1) 6).bind fun x15 => ((some (shlI .u64 (IntKind.wrap .u64 x15) 48)).bind fun x16 => ((ix (strInts x1) 7).bind fun x17 => ((some (shlI .u64 (IntKind.wrap .u64 x17) 56)).bind fun x18 => ((some (bits .or .u64 (bits .or .u64 x14 x16) x18)).bind fun x19 => some x19))))))))))))))))))
def g_u8_ValidString_l1 (k : Nat) : Nat → ByteArray → Option ByteArray
  | 0, _ => none
  | n + 1, x1 => ((((some (decide (32 < ((ByteArray.size x1 : Nat) : Int)))).bind fun x2 => (bif x2 then (bif (decide (0 ≤ (8 : Int) ∧ (8 : Int) ≤ ((ByteArray.size x1 : Nat) : Int) ∧ ((ByteArray.size x1 : Nat) : Int) ≤ ((ByteArray.size x1 : Nat) : Int))) then ((some (ByteArray.extract x1 (Int.toNat 8) (Int.toNat ((ByteArray.size x1 : Nat) : Int)))).bind fun x3 => (bif (decide (0 ≤ (16 : Int) ∧ (16 : Int) ≤ ((ByteArray.size x1 : Nat) : Int) ∧ ((ByteArray.size x1 : Nat) : Int) ≤ ((ByteArray.size x1 : Nat) : Int))) then ((some (ByteArray.extract x1 (Int.toNat 16) (Int.toNat ((ByteArray.size x1 : Nat) : Int)))).bind fun x4 => (bif (decide (0 ≤ (24 : Int) ∧ (24 : Int) ≤ ((ByteArray.size x1 : Nat) : Int) ∧ ((ByteArray.size x1 : Nat) : Int) ≤ ((ByteArray.size x1 : Nat) : Int))) then ((some (ByteArray.extract x1 (Int.toNat 24) (Int.toNat ((ByteArray.size x1 : Nat) : Int)))).bind fun x5 => ((g_u8_word_string k x1).bind fun x6 => ((g_u8_word_string k x3).bind fun x7 => ((g_u8_word_string k x4).bind fun x8 => ((g_u8_word_string k x5).bind fun x9 => ((some (bits .or .u64 (bits .or .u64 x6 x7) (bits .or .u64 x8 x9))).bind fun x10 => ((some (bits .and .u64 x10 9259542123273814144)).bind fun x11 => some (decide (x11 = 0))))))))) else none)) else none)) else none) else some false)) : Option Bool).bind fun x12 => (bif x12 then (bif (decide (0 ≤ (32 : Int) ∧ (32 : Int) ≤ ((ByteArray.size x1 : Nat) : Int) ∧ ((ByteArray.size x1 : Nat) : Int) ≤ ((ByteArray.size x1 : Nat) : Int))) then ((some (ByteArray.extract x1 (Int.toNat 32) (Int.toNat ((ByteArray.size x1 : Nat) : Int)))).bind fun x13 => (g_u8_ValidString_l1 k n x13)) else none) else some x1))
theorem g_u8_ValidString_l1_eqs : True := by have := @g_u8_ValidString_l1.eq_2; trivial
def g_u8_ValidString_l0 (k : Nat) : Nat → ByteArray → Option (Unit ⊕ Unit)
  | 0, _ => none
  | n + 1, x1 => ((some (decide (0 < ((ByteArray.size x1 : Nat) : Int)))).bind fun x2 => (bif x2 then ((ix (strInts x1) 0).bind fun x3 => (bif (decide (x3 < 128)) then (bif (decide (0 ≤ (1 : Int) ∧ (1 : Int) ≤ ((ByteArray.size x1 : Nat) : Int) ∧ ((ByteArray.size x1 : Nat) : Int) ≤ ((ByteArray.size x1 : Nat) : Int))) then ((some (ByteArray.extract x1 (Int.toNat 1) (Int.toNat ((ByteArray.size x1 : Nat) : Int)))).bind fun x4 => ((((((some (decide (8 < ((ByteArray.size x4 : Nat) : Int)))).bind fun x5 => (bif x5 then ((g_u8_word_string k x4).bind fun x6 => ((some (bits .and .u64 x6 9259542123273814144)).bind fun x7 => some (decide (x7 = 0)))) else some false)) : Option Bool).bind fun x8 => (bif x8 then (bif (decide (0 ≤ (8 : Int) ∧ (8 : Int) ≤ ((ByteArray.size x4 : Nat) : Int) ∧ ((ByteArray.size x4 : Nat) : Int) ≤ ((ByteArray.size x4 : Nat) : Int))) then ((some (ByteArray.extract x4 (Int.toNat 8) (Int.toNat ((ByteArray.size x4 : Nat) : Int)))).bind fun x9 => ((((some (decide (16 < ((ByteArray.size x9 : Nat) : Int)))).bind fun x10 => (bif x10 then (bif (decide (0 ≤ (8 : Int) ∧ (8 : Int) ≤ ((ByteArray.size x9 : Nat) : Int) ∧ ((ByteArray.size x9 : Nat) : Int) ≤ ((ByteArray.size x9 : Nat) : Int))) then ((some (ByteArray.extract x9 (Int.toNat 8) (Int.toNat ((ByteArray.size x9 : Nat) : Int)))).bind fun x11 => ((g_u8_word_string k x9).bind fun x12 => ((g_u8_word_string k x11).bind fun x13 => ((some (bits .and .u64 (bits .or .u64 x12 x13) 9259542123273814144)).bind fun x14 => some (decide (x14 = 0)))))) else none) else some false)) : Option Bool).bind fun x15 => (bif x15 then (bif (decide (0 ≤ (16 : Int) ∧ (16 : Int) ≤ ((ByteArray.size x9 : Nat) : Int) ∧ ((ByteArray.size x9 : Nat) : Int) ≤ ((ByteArray.size x9 : Nat) : Int))) then ((some (ByteArray.extract x9 (Int.toNat 16) (Int.toNat ((ByteArray.size x9 : Nat) : Int)))).bind fun x16 => ((g_u8_ValidString_l1 k k x16).bind fun x17 => some x17)) else none) else some x9))) else none) else some x4)) : Option ByteArray).bind fun x18 => (g_u8_ValidString_l0 k n x18))) else none) else (bif (decide (0 ≤ (x3 : Int) ∧ (x3 : Int) < 256)) then ((some (bits .and .u8 (List.getD tab0 (Int.toNat x3) (0 : Int)) 7)).bind fun x19 => ((some (shrI .u8 (List.getD tab0 (Int.toNat x3) (0 : Int)) 4)).bind fun x20 => (bif (decide (0 ≤ (x20 : Int) ∧ (x20 : Int) < 16)) then ((some (decide ((IntKind.wrap .i64 x19) = 2))).bind fun x21 => (bif x21 then ((((some (decide (((ByteArray.size x1 : Nat) : Int) < 2))).bind fun x22 => (bif x22 then some true else ((ix (strInts x1) 1).bind fun x23 => ((some (decide (x23 < ((List.getD tabA (Int.toNat x20) (default : S_unicode_utf8_acceptRange))).flo))).bind fun x24 => (bif x24 then some true else ((ix (strInts x1) 1).bind fun x25 => ((some (decide (((List.getD tabA (Int.toNat x20) (default : S_unicode_utf8_acceptRange))).fhi < x25))).bind fun x26 => some x26))))))) : Option Bool).bind fun x27 => (bif x27 then some (Sum.inl ()) else (bif (decide (0 ≤ (2 : Int) ∧ (2 : Int) ≤ ((ByteArray.size x1 : Nat) : Int) ∧ ((ByteArray.size x1 : Nat) : Int) ≤ ((ByteArray.size x1 : Nat) : Int))) then ((some (ByteArray.extract x1 (Int.toNat 2) (Int.toNat ((ByteArray.size x1 : Nat) : Int)))).bind fun x28 => (g_u8_ValidString_l0 k n x28)) else none))) else ((some (decide ((IntKind.wrap .i64 x19) = 3))).bind fun x29 => (bif x29 then ((((some (decide (((ByteArray.size x1 : Nat) : Int) < 3))).bind fun x30 => (bif x30 then some true else ((ix (strInts x1) 1).bind fun x31 => ((some (decide (x31 < ((List.getD tabA (Int.toNat x20) (default : S_unicode_utf8_acceptRange))).flo))).bind fun x32 => (bif x32 then some true else ((ix (strInts x1) 1).bind fun x33 => ((some (decide (((List.getD tabA (Int.toNat x20) (default : S_unicode_utf8_acceptRange))).fhi < x33))).bind fun x34 => (bif x34 then some true else ((ix (strInts x1) 2).bind fun x35 => (bif (decide (x35 < 128)) then some true else ((ix (strInts x1) 2).bind fun x36 => some (decide (191 < x36))))))))))))) : Option Bool).bind fun x37 => (bif x37 then some (Sum.inl ()) else (bif (decide (0 ≤ (3 : Int) ∧ (3 : Int) ≤ ((ByteArray.size x1 : Nat) : Int) ∧ ((ByteArray.size x1 : Nat) : Int) ≤ ((ByteArray.size x1 : Nat) : Int))) then ((some (ByteArray.extract x1 (Int.toNat 3) (Int.toNat ((ByteArray.size x1 : Nat) : Int)))).bind fun x38 => (g_u8_ValidString_l0 k n x38)) else none))) else ((some (decide ((IntKind.wrap .i64 x19) = 4))).bind fun x39 => (bif x39 then ((((some (decide (((ByteArray.size x1 : Nat) : Int) < 4))).bind fun x40 => (bif x40 then some true else ((ix (strInts x1) 1).bind fun x41 => ((some (decide (x41 < ((List.getD tabA (Int.toNat x20) (default : S_unicode_utf8_acceptRange))).flo))).bind fun x42 => (bif x42 then some true else ((ix (strInts x1) 1).bind fun x43 => ((some (decide (((List.getD tabA (Int.toNat x20) (default : S_unicode_utf8_acceptRange))).fhi < x43))).bind fun x44 => (bif x44 then some true else ((ix (strInts x1) 2).bind fun x45 => (bif (decide (x45 < 128)) then some true else ((ix (strInts x1) 2).bind fun x46 => (bif (decide (191 < x46)) then some true else ((ix (strInts x1) 3).bind fun x47 => (bif (decide (x47 < 128)) then some true else ((ix (strInts x1) 3).bind fun x48 => some (decide (191 < x48))))))))))))))))) : Option Bool).bind fun x49 => (bif x49 then some (Sum.inl ()) else (bif (decide (0 ≤ (4 : Int) ∧ (4 : Int) ≤ ((ByteArray.size x1 : Nat) : Int) ∧ ((ByteArray.size x1 : Nat) : Int) ≤ ((ByteArray.size x1 : Nat) : Int))) then ((some (ByteArray.extract x1 (Int.toNat 4) (Int.toNat ((ByteArray.size x1 : Nat) : Int)))).bind fun x50 => (g_u8_ValidString_l0 k n x50)) else none))) else some (Sum.inl ()))))))) else none))) else none))) else some (Sum.inr ())))
theorem g_u8_ValidString_l0_eqs : True := by have := @g_u8_ValidString_l0.eq_2; trivial
def g_u8_ValidString (k : Nat) (x1 : ByteArray) : Option Bool := (((g_u8_ValidString_l0 k k x1) : Option (Unit ⊕ Unit)).bind fun y1 => match y1 with | (Sum.inl _) => some false | (Sum.inr _) => some true)
def g_utf_Xml_l0 (k : Nat) (x1 : ByteArray) : Nat → Nat → Option (Unit ⊕ Unit)
  | 0, _ => none
  | n + 1, x2 => (bif (decide (x2 < ByteArray.size x1)) then ((((some (decide ((((Utf8.decode x1 x2).1 : Nat) : Int) = 9))).bind fun x3 => (bif x3 then some x3 else ((some (decide ((((Utf8.decode x1 x2).1 : Nat) : Int) = 10))).bind fun x4 => (bif x4 then some x4 else ((some (decide ((((Utf8.decode x1 x2).1 : Nat) : Int) = 13))).bind fun x5 => some x5))))) : Option Bool).bind fun x6 => (bif x6 then (g_utf_Xml_l0 k x1 n (x2 + (Utf8.decode x1 x2).2)) else ((((some (decide ((((Utf8.decode x1 x2).1 : Nat) : Int) < 32))).bind fun x7 => (bif x7 then some x7 else ((some (decide ((((Utf8.decode x1 x2).1 : Nat) : Int) = 65534))).bind fun x8 => (bif x8 then some x8 else ((some (decide ((((Utf8.decode x1 x2).1 : Nat) : Int) = 65535))).bind fun x9 => some x9))))) : Option Bool).bind fun x10 => (bif x10 then some (Sum.inl ()) else (g_utf_Xml_l0 k x1 n (x2 + (Utf8.decode x1 x2).2)))))) else some (Sum.inr ()))
theorem g_utf_Xml_l0_eqs : True := by have := @g_utf_Xml_l0.eq_2; trivial
def g_utf_Xml (k : Nat) (x1 : ByteArray) : Option Int := ((g_u8_ValidString k x1).bind fun x2 => (bif (!x2) then some 20 else (((g_utf_Xml_l0 k x1 k 0) : Option (Unit ⊕ Unit)).bind fun y1 => match y1 with | (Sum.inl _) => some 20 | (Sum.inr _) => some 0)))
def g_val_Str (k : Nat) (x1 : ByteArray) : Option (Int × ByteArray × Int) := ((((some (decide (255 < ((ByteArray.size x1 : Nat) : Int)))).bind fun x2 => (bif x2 then some true else ((g_utf_Xml k x1).bind fun x3 => some (!decide (x3 = 0))))) : Option Bool).bind fun x4 => (bif x4 then ((g_val_Err k 2).bind fun x5 => some (4, (ByteArray.mk #[]), x5)) else some (2, x1, 0)))
def g_r6_char (k : Nat) (x1 : Int) : Option Bool := (((bif (decide (0 ≤ x1)) then (bif (decide (x1 ≤ 1114111)) then (bif (decide (55296 ≤ x1)) then some (!(decide (x1 ≤ 57343))) else some (!false)) else some false) else some false) : Option Bool).bind fun x2 => some x2)
def g_r6_Write (k : Nat) (x1 : Int) : Option (List Int) := ((((g_r6_char k x1).bind fun x2 => (bif (!x2) then some 65533 else some x1)) : Option Int).bind fun x3 => (bif (decide (x3 < 128)) then some ([(IntKind.wrap .u8 x3)] : List Int) else (bif (decide (x3 < 2048)) then ((some (IntKind.wrap .i64 (192 + (IntKind.wrap .i64 (Int.tdiv x3 64))))).bind fun x4 => ((some (IntKind.wrap .i64 (128 + (Int.tmod x3 64)))).bind fun x5 => some ([(IntKind.wrap .u8 x4), (IntKind.wrap .u8 x5)] : List Int))) else (bif (decide (x3 < 65536)) then ((some (IntKind.wrap .i64 (Int.tdiv x3 4096))).bind fun x6 => ((some (IntKind.wrap .u8 (IntKind.wrap .i64 (224 + x6)))).bind fun x7 => ((some (Int.tmod (IntKind.wrap .i64 (Int.tdiv x3 64)) 64)).bind fun x8 => ((some (IntKind.wrap .u8 (IntKind.wrap .i64 (128 + x8)))).bind fun x9 => ((some (IntKind.wrap .i64 (128 + (Int.tmod x3 64)))).bind fun x10 => some ([x7, x9, (IntKind.wrap .u8 x10)] : List Int)))))) else ((some (IntKind.wrap .i64 (Int.tdiv x3 262144))).bind fun x11 => ((some (IntKind.wrap .u8 (IntKind.wrap .i64 (240 + x11)))).bind fun x12 => ((some (IntKind.wrap .i64 (Int.tdiv x3 4096))).bind fun x13 => ((some (IntKind.wrap .i64 (128 + (Int.tmod x13 64)))).bind fun x14 => ((some (Int.tmod (IntKind.wrap .i64 (Int.tdiv x3 64)) 64)).bind fun x15 => ((some (IntKind.wrap .u8 (IntKind.wrap .i64 (128 + x15)))).bind fun x16 => ((some (IntKind.wrap .i64 (128 + (Int.tmod x3 64)))).bind fun x17 => some ([x12, (IntKind.wrap .u8 x14), x16, (IntKind.wrap .u8 x17)] : List Int))))))))))))
def g_r6_first_l1 (k : Nat) (x1 : ByteArray) (x2 : Int) : Nat → Int → Int → Option Int
  | 0, _, _ => none
  | n + 1, x3, x4 => (bif (decide (x4 < x2)) then ((ix (strInts x1) x4).bind fun x5 => ((some (IntKind.wrap .i64 ((IntKind.wrap .i64 (x3 * 64)) + (IntKind.wrap .i64 x5)))).bind fun x6 => (g_r6_first_l1 k x1 x2 n (IntKind.wrap .i64 (x6 - 128)) (IntKind.wrap .i64 (x4 + 1))))) else some x3)
theorem g_r6_first_l1_eqs : True := by have := @g_r6_first_l1.eq_2; trivial
def g_r6_first_l0 (k : Nat) (x1 : ByteArray) : Nat → Int → Option ((Int × Int) ⊕ Unit)
  | 0, _ => none
  | n + 1, x2 => (((bif (decide (x2 ≤ 4)) then ((some (decide (x2 ≤ ((ByteArray.size x1 : Nat) : Int)))).bind fun x3 => some x3) else some false) : Option Bool).bind fun x4 => (bif x4 then ((ix (strInts x1) 0).bind fun x5 => (((bif (decide (x2 = 2)) then ((ix (strInts x1) 0).bind fun x6 => ((some (IntKind.wrap .i64 ((IntKind.wrap .i64 x6) - 192))).bind fun x7 => some x7)) else some (IntKind.wrap .i64 x5)) : Option Int).bind fun x8 => (((bif (decide (x2 = 3)) then ((ix (strInts x1) 0).bind fun x9 => ((some (IntKind.wrap .i64 ((IntKind.wrap .i64 x9) - 224))).bind fun x10 => some x10)) else some x8) : Option Int).bind fun x11 => (((bif (decide (x2 = 4)) then ((ix (strInts x1) 0).bind fun x12 => ((some (IntKind.wrap .i64 ((IntKind.wrap .i64 x12) - 240))).bind fun x13 => some x13)) else some x11) : Option Int).bind fun x14 => ((g_r6_first_l1 k x1 x2 k x14 1).bind fun x15 => (((bif (decide (0 ≤ x15)) then ((g_r6_char k x15).bind fun x16 => (bif x16 then (bif (decide (0 ≤ (0 : Int) ∧ (0 : Int) ≤ x2 ∧ x2 ≤ ((ByteArray.size x1 : Nat) : Int))) then ((g_r6_Write k x15).bind fun x17 => ((some ((strOf x17).toList == (ByteArray.extract x1 (Int.toNat 0) (Int.toNat x2)).toList)).bind fun x18 => some x18)) else none) else some false)) else some false) : Option Bool).bind fun x19 => (bif x19 then some (Sum.inl (x15, x2)) else (g_r6_first_l0 k x1 n (IntKind.wrap .i64 (x2 + 1)))))))))) else some (Sum.inr ())))
theorem g_r6_first_l0_eqs : True := by have := @g_r6_first_l0.eq_2; trivial
def g_r6_first (k : Nat) (x1 : ByteArray) : Option (Int × Int × Bool) := (((g_r6_first_l0 k x1 k 1) : Option ((Int × Int) ⊕ Unit)).bind fun y1 => match y1 with | (Sum.inl (x2, x3)) => some (x2, x3, true) | (Sum.inr _) => some (65533, 1, false))
def g_r6_Xml_l0 (k : Nat) : Nat → ByteArray → Option (Unit ⊕ Unit)
  | 0, _ => none
  | n + 1, x1 => ((some (decide (0 < ((ByteArray.size x1 : Nat) : Int)))).bind fun x2 => (bif x2 then ((g_r6_first k x1).bind fun (x3, x4, x5) => (((bif (!x5) then some true else (bif (decide (x3 < 32)) then (bif (!decide (x3 = 9)) then (bif (!decide (x3 = 10)) then (bif (!decide (x3 = 13)) then some true else (bif (decide (x3 = 65534)) then some true else some (decide (x3 = 65535)))) else (bif (decide (x3 = 65534)) then some true else some (decide (x3 = 65535)))) else (bif (decide (x3 = 65534)) then some true else some (decide (x3 = 65535)))) else (bif (decide (x3 = 65534)) then some true else some (decide (x3 = 65535))))) : Option Bool).bind fun x6 => (bif x6 then some (Sum.inl ()) else (bif (decide (0 ≤ (x4 : Int) ∧ (x4 : Int) ≤ ((ByteArray.size x1 : Nat) : Int) ∧ ((ByteArray.size x1 : Nat) : Int) ≤ ((ByteArray.size x1 : Nat) : Int))) then ((some (ByteArray.extract x1 (Int.toNat x4) (Int.toNat ((ByteArray.size x1 : Nat) : Int)))).bind fun x7 => (g_r6_Xml_l0 k n x7)) else none)))) else some (Sum.inr ())))
theorem g_r6_Xml_l0_eqs : True := by have := @g_r6_Xml_l0.eq_2; trivial
def g_r6_Xml (k : Nat) (x1 : ByteArray) : Option Int := (((g_r6_Xml_l0 k k x1) : Option (Unit ⊕ Unit)).bind fun y1 => match y1 with | (Sum.inl _) => some 20 | (Sum.inr _) => some 0)
def g_rv_text (k : Nat) (x1 : ByteArray) : Option Bool := ((((some (decide (((ByteArray.size x1 : Nat) : Int) ≤ 255))).bind fun x2 => (bif x2 then ((g_r6_Xml k x1).bind fun x3 => some (decide (x3 = 0))) else some false)) : Option Bool).bind fun x4 => some x4)
def g_rv_Str (k : Nat) (x1 : ByteArray) : Option (Int × ByteArray × Int) := ((g_rv_text k x1).bind fun x2 => (bif (!x2) then ((g_rv_Err k 2).bind fun x3 => some (4, (ByteArray.mk #[]), x3)) else some (2, x1, 0)))
def g_sl_HasPrefix (k : Nat) (x1 : ByteArray) (x2 : ByteArray) : Option Bool := ((((some (decide (((ByteArray.size x2 : Nat) : Int) ≤ ((ByteArray.size x1 : Nat) : Int)))).bind fun x3 => (bif x3 then (bif (decide (0 ≤ (0 : Int) ∧ (0 : Int) ≤ ((ByteArray.size x2 : Nat) : Int) ∧ ((ByteArray.size x2 : Nat) : Int) ≤ ((ByteArray.size x1 : Nat) : Int))) then ((some (ByteArray.extract x1 (Int.toNat 0) (Int.toNat ((ByteArray.size x2 : Nat) : Int)))).bind fun x4 => some (x4.toList == x2.toList)) else none) else some false)) : Option Bool).bind fun x5 => some x5)
def g_sl_CutPrefix (k : Nat) (x1 : ByteArray) (x2 : ByteArray) : Option (ByteArray × Bool) := ((g_sl_HasPrefix k x1 x2).bind fun x3 => (bif (!x3) then some (x1, false) else (bif (decide (0 ≤ (((ByteArray.size x2 : Nat) : Int) : Int) ∧ (((ByteArray.size x2 : Nat) : Int) : Int) ≤ ((ByteArray.size x1 : Nat) : Int) ∧ ((ByteArray.size x1 : Nat) : Int) ≤ ((ByteArray.size x1 : Nat) : Int))) then ((some (ByteArray.extract x1 (Int.toNat ((ByteArray.size x2 : Nat) : Int)) (Int.toNat ((ByteArray.size x1 : Nat) : Int)))).bind fun x4 => some (x4, true)) else none)))
def g_st_CutPrefix (k : Nat) (x1 : ByteArray) (x2 : ByteArray) : Option (ByteArray × Bool) := ((g_sl_CutPrefix k x1 x2).bind fun (x3, x4) => some (x3, x4))
def g_dec_parser_take (k : Nat) (x1 : ByteArray) (x2 : ByteArray) : Option (Bool × ByteArray) := ((g_st_CutPrefix k x2 x1).bind fun (x3, x4) => some (x4, x3))
def g_dec_parser_some_l0 (k : Nat) (x1 : ByteArray) : Nat → Int → Option Int
  | 0, _ => none
  | n + 1, x2 => ((((some (decide (x2 < ((ByteArray.size x1 : Nat) : Int)))).bind fun x3 => (bif x3 then ((ix (strInts x1) x2).bind fun x4 => (bif (decide (48 ≤ x4)) then ((ix (strInts x1) x2).bind fun x5 => some (decide (x5 ≤ 57))) else some false)) else some false)) : Option Bool).bind fun x6 => (bif x6 then (g_dec_parser_some_l0 k x1 n (IntKind.wrap .i64 (x2 + 1))) else some x2))
theorem g_dec_parser_some_l0_eqs : True := by have := @g_dec_parser_some_l0.eq_2; trivial
def g_dec_parser_some (k : Nat) (x1 : ByteArray) : Option (ByteArray × ByteArray) := ((g_dec_parser_some_l0 k x1 k 0).bind fun x2 => (bif (decide (0 ≤ (0 : Int) ∧ (0 : Int) ≤ x2 ∧ x2 ≤ ((ByteArray.size x1 : Nat) : Int))) then (bif (decide (0 ≤ (x2 : Int) ∧ (x2 : Int) ≤ ((ByteArray.size x1 : Nat) : Int) ∧ ((ByteArray.size x1 : Nat) : Int) ≤ ((ByteArray.size x1 : Nat) : Int))) then ((some (ByteArray.extract x1 (Int.toNat x2) (Int.toNat ((ByteArray.size x1 : Nat) : Int)))).bind fun x3 => some ((ByteArray.extract x1 (Int.toNat 0) (Int.toNat x2)), x3)) else none) else none))
def g_dec_values (k : Nat) (x1 : ByteArray) : Option Unit := some ()
def g_st_trimLeftByte_l0 (k : Nat) (x1 : Int) : Nat → ByteArray → Option ByteArray
  | 0, _ => none
  | n + 1, x2 => ((((some (decide (0 < ((ByteArray.size x2 : Nat) : Int)))).bind fun x3 => (bif x3 then ((ix (strInts x2) 0).bind fun x4 => some (decide (x4 = x1))) else some false)) : Option Bool).bind fun x5 => (bif x5 then (bif (decide (0 ≤ (1 : Int) ∧ (1 : Int) ≤ ((ByteArray.size x2 : Nat) : Int) ∧ ((ByteArray.size x2 : Nat) : Int) ≤ ((ByteArray.size x2 : Nat) : Int))) then ((some (ByteArray.extract x2 (Int.toNat 1) (Int.toNat ((ByteArray.size x2 : Nat) : Int)))).bind fun x6 => (g_st_trimLeftByte_l0 k x1 n x6)) else none) else some x2))
theorem g_st_trimLeftByte_l0_eqs : True := by have := @g_st_trimLeftByte_l0.eq_2; trivial
def g_st_trimLeftByte (k : Nat) (x1 : ByteArray) (x2 : Int) : Option ByteArray := ((g_st_trimLeftByte_l0 k x2 k x1).bind fun x3 => some x3)
def g_st_TrimLeft (k : Nat) (x1 : ByteArray) (x2 : ByteArray) : Option ByteArray := ((((some (x1.toList == (ByteArray.mk #[]).toList)).bind fun x3 => (bif x3 then some true else ((some (x2.toList == (ByteArray.mk #[]).toList)).bind fun x4 => some x4))) : Option Bool).bind fun x5 => (bif x5 then some x1 else ((((some (decide (((ByteArray.size x2 : Nat) : Int) = 1))).bind fun x6 => (bif x6 then ((ix (strInts x2) 0).bind fun x7 => some (decide (x7 < 128))) else some false)) : Option Bool).bind fun x8 => (bif x8 then ((ix (strInts x2) 0).bind fun x9 => ((g_st_trimLeftByte k x1 x9).bind fun x10 => some x10)) else none))))
def g_st_trimRightByte_l0 (k : Nat) (x1 : Int) : Nat → ByteArray → Option ByteArray
  | 0, _ => none
  | n + 1, x2 => ((((some (decide (0 < ((ByteArray.size x2 : Nat) : Int)))).bind fun x3 => (bif x3 then ((some (IntKind.wrap .i64 (((ByteArray.size x2 : Nat) : Int) - 1))).bind fun x4 => ((ix (strInts x2) x4).bind fun x5 => some (decide (x5 = x1)))) else some false)) : Option Bool).bind fun x6 => (bif x6 then ((some (IntKind.wrap .i64 (((ByteArray.size x2 : Nat) : Int) - 1))).bind fun x7 => (bif (decide (0 ≤ (0 : Int) ∧ (0 : Int) ≤ x7 ∧ x7 ≤ ((ByteArray.size x2 : Nat) : Int))) then (g_st_trimRightByte_l0 k x1 n (ByteArray.extract x2 (Int.toNat 0) (Int.toNat x7))) else none)) else some x2))
theorem g_st_trimRightByte_l0_eqs : True := by have := @g_st_trimRightByte_l0.eq_2; trivial
def g_st_trimRightByte (k : Nat) (x1 : ByteArray) (x2 : Int) : Option ByteArray := ((g_st_trimRightByte_l0 k x2 k x1).bind fun x3 => some x3)
def g_st_TrimRight (k : Nat) (x1 : ByteArray) (x2 : ByteArray) : Option ByteArray := ((((some (x1.toList == (ByteArray.mk #[]).toList)).bind fun x3 => (bif x3 then some true else ((some (x2.toList == (ByteArray.mk #[]).toList)).bind fun x4 => some x4))) : Option Bool).bind fun x5 => (bif x5 then some x1 else ((((some (decide (((ByteArray.size x2 : Nat) : Int) = 1))).bind fun x6 => (bif x6 then ((ix (strInts x2) 0).bind fun x7 => some (decide (x7 < 128))) else some false)) : Option Bool).bind fun x8 => (bif x8 then ((ix (strInts x2) 0).bind fun x9 => ((g_st_trimRightByte k x1 x9).bind fun x10 => some x10)) else none))))
def g_dec_wide_plus (k : Nat) (x1 : Int) (x2 : Int) (x3 : Int) (x4 : Int) : Option Bool := (bif (decide (Int.toNat ((add64 x2 x4 0).2) ≤ 1)) then ((some (decide ((add64 x1 x3 ((add64 x2 x4 0).2)).2 = 0))).bind fun x5 => some x5) else none)
def g_dec_Parse_l0 (k : Nat) (x1 : ByteArray) : Nat → Int → Int → Option Int
  | 0, _, _ => none
  | n + 1, x2, x3 => ((some (decide (x2 < ((ByteArray.size x1 : Nat) : Int)))).bind fun x4 => (bif x4 then ((ix (strInts x1) x2).bind fun x5 => ((some (IntKind.wrap .i64 (IntKind.wrap .u8 (x5 - 48)))).bind fun x6 => ((some (IntKind.wrap .i64 ((IntKind.wrap .i64 (10 * x3)) + x6))).bind fun x7 => (g_dec_Parse_l0 k x1 n (IntKind.wrap .i64 (x2 + 1)) x7)))) else some x3))
theorem g_dec_Parse_l0_eqs : True := by have := @g_dec_Parse_l0.eq_2; trivial
def g_dec_Parse_l1 (k : Nat) (x1 : ByteArray) : Nat → Int → Int → Int → Option (Int × Int)
  | 0, _, _, _ => none
  | n + 1, x2, x3, x4 => ((some (decide (x2 < ((ByteArray.size x1 : Nat) : Int)))).bind fun x5 => (bif x5 then ((ix (strInts x1) x2).bind fun x6 => ((some (IntKind.wrap .i64 (IntKind.wrap .u8 (x6 - 48)))).bind fun x7 => ((g_dec_wide_times k x3 x4 10).bind fun (x8, x9) => ((g_dec_wide_plus k x9 (IntKind.wrap .u64 (x4 * 10)) 0 (IntKind.wrap .u64 x7)).bind fun x10 => (g_dec_Parse_l1 k x1 n (IntKind.wrap .i64 (x2 + 1)) ((add64 x9 0 ((add64 (IntKind.wrap .u64 (x4 * 10)) (IntKind.wrap .u64 x7) 0).2)).1) ((add64 (IntKind.wrap .u64 (x4 * 10)) (IntKind.wrap .u64 x7) 0).1)))))) else some (x3, x4)))
theorem g_dec_Parse_l1_eqs : True := by have := @g_dec_Parse_l1.eq_2; trivial
def g_dec_Parse (k : Nat) (x1 : ByteArray) : Option (Int × Int × Int) := ((g_dec_parser_take k (ByteArray.mk #[45]) x1).bind fun (x2, x3) => ((g_dec_parser_some k x3).bind fun (x4, x5) => ((((some (decide (((ByteArray.size x1 : Nat) : Int) ≤ 255))).bind fun x6 => (bif x6 then ((some (!(x4.toList == (ByteArray.mk #[]).toList))).bind fun x7 => some x7) else some false)) : Option Bool).bind fun x8 => ((((g_dec_parser_take k (ByteArray.mk #[46]) x5).bind fun (x9, x10) => (bif x9 then ((g_dec_parser_some k x10).bind fun (x11, x12) => (bif x8 then ((some (!(x11.toList == (ByteArray.mk #[]).toList))).bind fun x13 => some (x11, x13, x12)) else some (x11, false, x12))) else some ((ByteArray.mk #[]), x8, x10))) : Option (ByteArray × Bool × ByteArray)).bind fun (x14, x15, x16) => ((((((g_dec_parser_take k (ByteArray.mk #[101]) x16).bind fun (x17, x18) => (bif x17 then some (true, x18) else ((g_dec_parser_take k (ByteArray.mk #[69]) x18).bind fun (x19, x20) => some (x19, x20)))) : Option (Bool × ByteArray)).bind fun (x21, x22) => (bif x21 then ((g_dec_parser_take k (ByteArray.mk #[45]) x22).bind fun (x23, x24) => (((bif (!x23) then ((g_dec_parser_take k (ByteArray.mk #[43]) x24).bind fun (x25, x26) => some x26) else some x24) : Option ByteArray).bind fun x27 => ((g_dec_parser_some k x27).bind fun (x28, x29) => (((bif x15 then ((some (decide (1 ≤ ((ByteArray.size x28 : Nat) : Int)))).bind fun x30 => (bif x30 then ((some (decide (((ByteArray.size x28 : Nat) : Int) ≤ 3))).bind fun x31 => some x31) else some false)) else some false) : Option Bool).bind fun x32 => (((bif x32 then ((g_dec_values k x28).bind fun _ => ((g_dec_Parse_l0 k x28 k 0 0).bind fun x33 => some x33)) else some 0) : Option Int).bind fun x34 => (bif x23 then some (x32, x29, (IntKind.wrap .i64 (0 - x34))) else some (x32, x29, x34))))))) else some (x15, x22, 0))) : Option (Bool × ByteArray × Int)).bind fun (x35, x36, x37) => (((bif (!x35) then some true else ((some (!(x36.toList == (ByteArray.mk #[]).toList))).bind fun x38 => some x38)) : Option Bool).bind fun x39 => (bif x39 then some (40, 0, 0) else (bif (decide (ByteArray.size x4 + ByteArray.size x14 ≤ 9223372036854775807)) then ((g_st_TrimLeft k (x4 ++ x14) (ByteArray.mk #[48])).bind fun x40 => ((some (IntKind.wrap .i64 (x37 - ((ByteArray.size x14 : Nat) : Int)))).bind fun x41 => ((g_st_TrimRight k x40 (ByteArray.mk #[48])).bind fun x42 => ((some (IntKind.wrap .i64 (((ByteArray.size x40 : Nat) : Int) - ((ByteArray.size x42 : Nat) : Int)))).bind fun x43 => ((some (decide (30 < ((ByteArray.size x42 : Nat) : Int)))).bind fun x44 => (bif x44 then some (30, 0, 0) else ((g_dec_values k x42).bind fun _ => ((g_dec_Parse_l1 k x42 k 0 0 0).bind fun (x45, x46) => ((g_dec_num_tell k x2 x45 x46 (IntKind.wrap .i64 (x41 + x43))).bind fun (x47, x48, x49) => some (x47, x48, x49)))))))))) else none))))))))
def g_val_Truth (k : Nat) (x1 : Bool) : Option Unit := some ()
def g_sl_TrimPrefix (k : Nat) (x1 : ByteArray) (x2 : ByteArray) : Option ByteArray := ((g_sl_HasPrefix k x1 x2).bind fun x3 => (bif x3 then (bif (decide (0 ≤ (((ByteArray.size x2 : Nat) : Int) : Int) ∧ (((ByteArray.size x2 : Nat) : Int) : Int) ≤ ((ByteArray.size x1 : Nat) : Int) ∧ ((ByteArray.size x1 : Nat) : Int) ≤ ((ByteArray.size x1 : Nat) : Int))) then ((some (ByteArray.extract x1 (Int.toNat ((ByteArray.size x2 : Nat) : Int)) (Int.toNat ((ByteArray.size x1 : Nat) : Int)))).bind fun x4 => some x4) else none) else some x1))
def g_st_TrimPrefix (k : Nat) (x1 : ByteArray) (x2 : ByteArray) : Option ByteArray := ((g_sl_TrimPrefix k x1 x2).bind fun x3 => some x3)
def g_val_Typed (k : Nat) (x1 : ByteArray) : Option (Int × Int × Int × ByteArray × Bool × Int) := ((g_val_ErrCode k x1).bind fun (x2, x3) => ((g_dec_Parse k x1).bind fun (x4, x5, x6) => ((some (x1.toList == (ByteArray.mk #[]).toList)).bind fun x7 => (bif x7 then some (0, 0, 0, (ByteArray.mk #[]), false, 0) else ((((some (x1.toList == (ByteArray.mk #[84, 82, 85, 69]).toList)).bind fun x8 => (bif x8 then some true else ((some (x1.toList == (ByteArray.mk #[70, 65, 76, 83, 69]).toList)).bind fun x9 => some x9))) : Option Bool).bind fun x10 => (bif x10 then ((some (x1.toList == (ByteArray.mk #[84, 82, 85, 69]).toList)).bind fun x11 => ((g_val_Truth k x11).bind fun _ => some (3, 0, 0, (ByteArray.mk #[]), x11, 0))) else (bif x3 then ((g_val_Err k x2).bind fun x12 => some (4, 0, 0, (ByteArray.mk #[]), false, x12)) else (bif (decide (x4 = 0)) then ((g_val_Of k x5 x6 x4).bind fun (x13, x14, x15, x16) => some (x13, x14, x15, (ByteArray.mk #[]), false, x16)) else ((g_st_TrimPrefix k x1 (ByteArray.mk #[39])).bind fun x17 => ((g_val_Str k x17).bind fun (x18, x19, x20) => some (x18, 0, 0, x19, false, x20)))))))))))
def g_rv_Truth (k : Nat) (x1 : Bool) : Option Unit := some ()
def g_r9_digit (k : Nat) (x1 : Int) : Option Bool := (((bif (decide (48 ≤ x1)) then some (decide (x1 ≤ 57)) else some false) : Option Bool).bind fun x2 => some x2)
def g_r9_Parse_l0 (k : Nat) (x1 : ByteArray) : Nat → Int → (List Int) → Option (Int × (List Int))
  | 0, _, _ => none
  | n + 1, x2, x3 => ((((some (decide (x2 < ((ByteArray.size x1 : Nat) : Int)))).bind fun x4 => (bif x4 then ((ix (strInts x1) x2).bind fun x5 => ((g_r9_digit k x5).bind fun x6 => some x6)) else some false)) : Option Bool).bind fun x7 => (bif x7 then ((ix (strInts x1) x2).bind fun x8 => ((some (IntKind.wrap .i64 (IntKind.wrap .u8 (x8 - 48)))).bind fun x9 => (bif (decide (((List.length x3) + (List.length ([x9] : List Int))) * 8 ≤ 140737488355328)) then (g_r9_Parse_l0 k x1 n (IntKind.wrap .i64 (x2 + 1)) (x3 ++ ([x9] : List Int))) else none))) else some (x2, x3)))
theorem g_r9_Parse_l0_eqs : True := by have := @g_r9_Parse_l0.eq_2; trivial
def g_r9_Parse_l1 (k : Nat) (x1 : ByteArray) : Nat → Int → Int → (List Int) → Option (Int × Int × (List Int))
  | 0, _, _, _ => none
  | n + 1, x2, x3, x4 => ((((some (decide (x2 < ((ByteArray.size x1 : Nat) : Int)))).bind fun x5 => (bif x5 then ((ix (strInts x1) x2).bind fun x6 => ((g_r9_digit k x6).bind fun x7 => some x7)) else some false)) : Option Bool).bind fun x8 => (bif x8 then ((ix (strInts x1) x2).bind fun x9 => ((some (IntKind.wrap .i64 (IntKind.wrap .u8 (x9 - 48)))).bind fun x10 => (bif (decide (((List.length x4) + (List.length ([x10] : List Int))) * 8 ≤ 140737488355328)) then (g_r9_Parse_l1 k x1 n (IntKind.wrap .i64 (x2 + 1)) (IntKind.wrap .i64 (x3 - 1)) (x4 ++ ([x10] : List Int))) else none))) else some (x2, x3, x4)))
theorem g_r9_Parse_l1_eqs : True := by have := @g_r9_Parse_l1.eq_2; trivial
def g_r9_Parse_l2 (k : Nat) (x1 : ByteArray) (x2 : Int) : Nat → Int → Int → Option (Unit ⊕ (Int × Int))
  | 0, _, _ => none
  | n + 1, x3, x4 => ((((some (decide (x3 < ((ByteArray.size x1 : Nat) : Int)))).bind fun x5 => (bif x5 then ((ix (strInts x1) x3).bind fun x6 => ((g_r9_digit k x6).bind fun x7 => some x7)) else some false)) : Option Bool).bind fun x8 => (bif x8 then ((ix (strInts x1) x3).bind fun x9 => ((some (IntKind.wrap .i64 (IntKind.wrap .u8 (x9 - 48)))).bind fun x10 => ((some (IntKind.wrap .i64 ((IntKind.wrap .i64 (x4 * 10)) + x10))).bind fun x11 => ((some (IntKind.wrap .i64 ((IntKind.wrap .i64 (x3 + 1)) - x2))).bind fun x12 => (bif (decide (3 < x12)) then some (Sum.inl ()) else (g_r9_Parse_l2 k x1 x2 n (IntKind.wrap .i64 (x3 + 1)) x11)))))) else some (Sum.inr (x3, x4))))
theorem g_r9_Parse_l2_eqs : True := by have := @g_r9_Parse_l2.eq_2; trivial
def g_r9_Parse_l3 (k : Nat) (x1 : (List Int)) : Nat → Int → (List Int) → Option (List Int)
  | 0, _, _ => none
  | n + 1, x2, x3 => (bif (decide (0 ≤ x2)) then ((ix x1 x2).bind fun x4 => (bif (decide (((List.length x3) + (List.length ([x4] : List Int))) * 8 ≤ 140737488355328)) then (g_r9_Parse_l3 k x1 n (IntKind.wrap .i64 (x2 - 1)) (x3 ++ ([x4] : List Int))) else none)) else some x3)
theorem g_r9_Parse_l3_eqs : True := by have := @g_r9_Parse_l3.eq_2; trivial
def g_r9_Parse (k : Nat) (x1 : ByteArray) : Option (Int × Int × Int) := ((some (decide (255 < ((ByteArray.size x1 : Nat) : Int)))).bind fun x2 => (bif x2 then some (40, 0, 0) else ((((some (decide (0 < ((ByteArray.size x1 : Nat) : Int)))).bind fun x3 => (bif x3 then ((ix (strInts x1) 0).bind fun x4 => some (decide (x4 = 45))) else some false)) : Option Bool).bind fun x5 => (((bif x5 then some 1 else some 0) : Option Int).bind fun x6 => ((g_r9_Parse_l0 k x1 k x6 ([] : List Int)).bind fun (x7, x8) => (bif (decide (x7 = x6)) then some (40, 0, 0) else ((((((some (decide (x7 < ((ByteArray.size x1 : Nat) : Int)))).bind fun x9 => (bif x9 then ((ix (strInts x1) x7).bind fun x10 => some (decide (x10 = 46))) else some false)) : Option Bool).bind fun x11 => (bif x11 then ((g_r9_Parse_l1 k x1 k (IntKind.wrap .i64 (x7 + 1)) 0 x8).bind fun (x12, x13, x14) => ((some (decide (x12 = (IntKind.wrap .i64 (x7 + 1))))).bind fun x15 => (bif x15 then some (Sum.inl ()) else some (Sum.inr (x12, x13, x14))))) else some (Sum.inr (x7, 0, x8)))) : Option (Unit ⊕ (Int × Int × (List Int)))).bind fun y1 => match y1 with | (Sum.inl _) => some (40, 0, 0) | (Sum.inr (x16, x17, x18)) => ((((((some (decide (x16 < ((ByteArray.size x1 : Nat) : Int)))).bind fun x19 => (bif x19 then ((ix (strInts x1) x16).bind fun x20 => (bif (decide (x20 = 101)) then some true else ((ix (strInts x1) x16).bind fun x21 => some (decide (x21 = 69))))) else some false)) : Option Bool).bind fun x22 => (bif x22 then ((((some (decide ((IntKind.wrap .i64 (x16 + 1)) < ((ByteArray.size x1 : Nat) : Int)))).bind fun x23 => (bif x23 then ((ix (strInts x1) (IntKind.wrap .i64 (x16 + 1))).bind fun x24 => some (decide (x24 = 45))) else some false)) : Option Bool).bind fun x25 => ((((((some (decide ((IntKind.wrap .i64 (x16 + 1)) < ((ByteArray.size x1 : Nat) : Int)))).bind fun x26 => (bif x26 then ((ix (strInts x1) (IntKind.wrap .i64 (x16 + 1))).bind fun x27 => (bif (decide (x27 = 45)) then some true else ((ix (strInts x1) (IntKind.wrap .i64 (x16 + 1))).bind fun x28 => some (decide (x28 = 43))))) else some false)) : Option Bool).bind fun x29 => (bif x29 then ((some (IntKind.wrap .i64 ((IntKind.wrap .i64 (x16 + 1)) + 1))).bind fun x30 => some x30) else some (IntKind.wrap .i64 (x16 + 1)))) : Option Int).bind fun x31 => (((g_r9_Parse_l2 k x1 x31 k x31 0) : Option (Unit ⊕ (Int × Int))).bind fun y2 => match y2 with | (Sum.inl _) => some (Sum.inl ()) | (Sum.inr (x32, x33)) => (bif (decide (x32 = x31)) then some (Sum.inl ()) else (((bif x25 then some (IntKind.wrap .i64 (0 - x33)) else some x33) : Option Int).bind fun x34 => some (Sum.inr (x32, (IntKind.wrap .i64 (x17 + x34))))))))) else some (Sum.inr (x16, x17)))) : Option (Unit ⊕ (Int × Int))).bind fun y3 => match y3 with | (Sum.inl _) => some (40, 0, 0) | (Sum.inr (x35, x36)) => ((some (decide (x35 < ((ByteArray.size x1 : Nat) : Int)))).bind fun x37 => (bif x37 then some (40, 0, 0) else ((some (IntKind.wrap .i64 (((List.length x18 : Nat) : Int) - 1))).bind fun x38 => ((g_r9_Parse_l3 k x18 k x38 ([] : List Int)).bind fun x39 => ((g_r9_trim k x5 x39).bind fun (x40, x41) => ((g_r9_Tell k x40 x41 x36).bind fun (x42, x43, x44) => some (x42, x43, x44)))))))))))))))
def g_val_Right (k : Nat) (x1 : Int) (x2 : Int) (x3 : Int) (x4 : ByteArray) (x5 : Bool) (x6 : Int) : Option Bool := (((bif (decide (x1 = 0)) then some (decide (x1 = 0)) else some (decide (x1 = 3))) : Option Bool).bind fun x7 => (bif x7 then (((bif x5 then ((some ((decide (x1 = x1)) && (((decide (x2 = 0)) && ((decide (x3 = 0)) && true)) && ((ByteArray.toList x4 == ByteArray.toList (ByteArray.mk #[])) && ((x5 == (decide (x1 = 3))) && ((decide (x6 = 0)) && true)))))).bind fun x8 => some x8) else ((some ((decide (x1 = x1)) && (((decide (x2 = 0)) && ((decide (x3 = 0)) && true)) && ((ByteArray.toList x4 == ByteArray.toList (ByteArray.mk #[])) && ((x5 == false) && ((decide (x6 = 0)) && true)))))).bind fun x9 => some x9)) : Option Bool).bind fun x10 => some x10) else (bif (decide (x1 = 1)) then ((((g_dec_Right k x2 x3).bind fun x11 => (bif x11 then ((some ((decide (x1 = 1)) && (((decide (x2 = x2)) && ((decide (x3 = x3)) && true)) && ((ByteArray.toList x4 == ByteArray.toList (ByteArray.mk #[])) && ((x5 == false) && ((decide (x6 = 0)) && true)))))).bind fun x12 => some x12) else some false)) : Option Bool).bind fun x13 => some x13) else (bif (decide (x1 = 2)) then ((g_val_Str k x4).bind fun (x14, x15, x16) => ((some ((decide (x1 = x14)) && (((decide (x2 = 0)) && ((decide (x3 = 0)) && true)) && ((ByteArray.toList x4 == ByteArray.toList x15) && ((x5 == false) && ((decide (x6 = x16)) && true)))))).bind fun x17 => some x17)) else (bif (decide (x1 = 4)) then ((g_val_Err k x6).bind fun x18 => ((some ((decide (x1 = 4)) && (((decide (x2 = 0)) && ((decide (x3 = 0)) && true)) && ((ByteArray.toList x4 == ByteArray.toList (ByteArray.mk #[])) && ((x5 == false) && ((decide (x6 = x18)) && true)))))).bind fun x19 => some x19)) else some false)))))
def g_val_clean (k : Nat) (x1 : Int) (x2 : Int) (x3 : Int) (x4 : ByteArray) (x5 : Bool) (x6 : Int) : Option (Int × Int × Int × ByteArray × Bool × Int) := ((g_val_Right k x1 x2 x3 x4 x5 x6).bind fun x7 => (bif x7 then some (x1, x2, x3, x4, x5, x6) else ((g_val_Err k 2).bind fun x8 => some (4, 0, 0, (ByteArray.mk #[]), false, x8))))
def g_st_Trim (k : Nat) (x1 : ByteArray) (x2 : ByteArray) : Option ByteArray := ((((some (x1.toList == (ByteArray.mk #[]).toList)).bind fun x3 => (bif x3 then some true else ((some (x2.toList == (ByteArray.mk #[]).toList)).bind fun x4 => some x4))) : Option Bool).bind fun x5 => (bif x5 then some x1 else ((((some (decide (((ByteArray.size x2 : Nat) : Int) = 1))).bind fun x6 => (bif x6 then ((ix (strInts x2) 0).bind fun x7 => some (decide (x7 < 128))) else some false)) : Option Bool).bind fun x8 => (bif x8 then ((ix (strInts x2) 0).bind fun x9 => ((ix (strInts x2) 0).bind fun x10 => ((g_st_trimRightByte k x1 x9).bind fun x11 => ((g_st_trimLeftByte k x11 x10).bind fun x12 => some x12)))) else none))))
def g_val_Num (k : Nat) (x1 : Int) (x2 : Int) (x3 : Int) (x4 : ByteArray) (x5 : Bool) (x6 : Int) : Option (Int × Int × Int × ByteArray × Bool × Int) := ((g_val_clean k x1 x2 x3 x4 x5 x6).bind fun (x7, x8, x9, x10, x11, x12) => (((bif (decide (x7 = 3)) then (bif x11 then some (Sum.inl 1) else some (Sum.inl 0)) else (bif (decide (x7 = 0)) then some (Sum.inl 0) else (bif (decide (x7 = 2)) then some (Sum.inr (Sum.inl ())) else some (Sum.inr (Sum.inr ()))))) : Option (Int ⊕ (Unit ⊕ Unit))).bind fun y1 => match y1 with | (Sum.inl x13) => ((g_val_Of k x13 0 0).bind fun (x14, x15, x16, x17) => some (x14, x15, x16, (ByteArray.mk #[]), false, x17)) | (Sum.inr (Sum.inl _)) => ((g_st_Trim k x10 (ByteArray.mk #[32])).bind fun x18 => ((g_dec_Parse k x18).bind fun (x19, x20, x21) => (bif (decide (x19 = 40)) then ((g_val_Err k 2).bind fun x22 => some (4, 0, 0, (ByteArray.mk #[]), false, x22)) else ((g_val_Of k x20 x21 x19).bind fun (x23, x24, x25, x26) => some (x23, x24, x25, (ByteArray.mk #[]), false, x26))))) | (Sum.inr (Sum.inr _)) => some (x7, x8, x9, x10, x11, x12)))
def g_dec_clean (k : Nat) (x1 : Int) (x2 : Int) (x3 : Int) (x4 : Int) : Option (Bool × Int × Int × Int × Int) := ((g_dec_ranged k ([(⟨x1, x2⟩ : S_api_Dec)] : List S_api_Dec)).bind fun x5 => (bif (!x5) then some (false, x1, x2, x3, x4) else ((g_dec_of k x1 x2).bind fun x6 => ((g_dec_num_tell k (decide (x1 < 0)) 0 x6 x2).bind fun (x7, x8, x9) => ((g_dec_ranged k ([(⟨x3, x4⟩ : S_api_Dec)] : List S_api_Dec)).bind fun x10 => (bif (!x10) then some (false, x8, x9, x3, x4) else ((g_dec_of k x3 x4).bind fun x11 => ((g_dec_num_tell k (decide (x3 < 0)) 0 x11 x4).bind fun (x12, x13, x14) => some (true, x8, x9, x13, x14)))))))))
def g_dec_even (k : Nat) (x1 : Int) (x2 : Int) (x3 : Int) (x4 : Int) : Option (Bool × Int × Int × Int × Int × Int × Int) := ((((g_dec_of k x1 x2).bind fun x5 => ((g_dec_of k x3 x4).bind fun x6 => some (x5, x6))) : Option (Int × Int)).bind fun (x7, x8) => ((((g_dec_wide_zero k 0 x7).bind fun _ => (bif (decide ((bits .or .u64 0 x7) = 0)) then some (true, 0, x7, x4, 0, x8, x4) else ((g_dec_wide_zero k 0 x8).bind fun _ => (bif (decide ((bits .or .u64 0 x8) = 0)) then some (true, 0, x7, x2, 0, x8, x2) else (bif (decide (x4 < x2)) then ((g_dec_wide_tens k 0 x7 (IntKind.wrap .i64 (x2 - x4))).bind fun (x9, x10, x11) => some (x9, x10, x11, x4, 0, x8, x4)) else (bif (decide (x2 < x4)) then ((g_dec_wide_tens k 0 x8 (IntKind.wrap .i64 (x4 - x2))).bind fun (x12, x13, x14) => some (x12, 0, x7, x2, x13, x14, x2)) else some (true, 0, x7, x2, 0, x8, x4))))))) : Option (Bool × Int × Int × Int × Int × Int × Int)).bind fun (x15, x16, x17, x18, x19, x20, x21) => some (x15, x16, x17, x18, x19, x20, x21)))
def g_dec_wide_cmp (k : Nat) (x1 : Int) (x2 : Int) (x3 : Int) (x4 : Int) : Option Int := ((some ((decide (x1 = x3)) && ((decide (x2 = x4)) && true))).bind fun x5 => (bif x5 then some 0 else (((bif (decide (x1 < x3)) then some true else (bif (decide (x1 = x3)) then some (decide (x2 < x4)) else some false)) : Option Bool).bind fun x6 => (bif x6 then some (-1) else some 1))))
def g_dec_wide_less (k : Nat) (x1 : Int) (x2 : Int) (x3 : Int) (x4 : Int) : Option Unit := (bif (decide (Int.toNat ((sub64 x2 x4 0).2) ≤ 1)) then some () else none)
def g_dec_Add (k : Nat) (x1 : Int) (x2 : Int) (x3 : Int) (x4 : Int) : Option (Int × Int × Int) := ((g_dec_clean k x1 x2 x3 x4).bind fun (x5, x6, x7, x8, x9) => (bif (!x5) then some (1, 0, 0) else ((g_dec_even k x6 x7 x8 x9).bind fun (x10, x11, x12, x13, x14, x15, x16) => (((bif (!x10) then some (Sum.inl ()) else ((some ((decide (x6 < 0)) == (decide (x8 < 0)))).bind fun x17 => (bif x17 then ((g_dec_wide_plus k x11 x12 x14 x15).bind fun x18 => some (Sum.inr (x18, (decide (x6 < 0)), (add64 x11 x14 ((add64 x12 x15 0).2)).1, (add64 x12 x15 0).1))) else ((g_dec_wide_cmp k x11 x12 x14 x15).bind fun x19 => (bif (decide (0 ≤ x19)) then ((g_dec_wide_less k x11 x12 x14 x15).bind fun _ => some (Sum.inr (x10, (decide (x6 < 0)), (sub64 x11 x14 ((sub64 x12 x15 0).2)).1, (sub64 x12 x15 0).1))) else ((g_dec_wide_less k x14 x15 x11 x12).bind fun _ => some (Sum.inr (x10, (decide (x8 < 0)), (sub64 x14 x11 ((sub64 x15 x12 0).2)).1, (sub64 x15 x12 0).1)))))))) : Option (Unit ⊕ (Bool × Bool × Int × Int))).bind fun y1 => match y1 with | (Sum.inl _) => some (30, 0, 0) | (Sum.inr (x20, x21, x22, x23)) => (bif (!x20) then some (30, 0, 0) else ((g_dec_num_tell k x21 x22 x23 x13).bind fun (x24, x25, x26) => some (x24, x25, x26)))))))
def g_dec_lowest (k : Nat) (x1 : Int) (x2 : Int) (x3 : Int) (x4 : Int) : Option (Int × Int × Int) := ((g_dec_even k x1 x2 x3 x4).bind fun (x5, x6, x7, x8, x9, x10, x11) => (bif (!x5) then some (30, 0, 0) else (bif (decide (x1 < 0)) then ((((g_dec_wide_cmp k x6 x7 x9 x10).bind fun x12 => (bif (decide (0 ≤ x12)) then ((g_dec_wide_less k x6 x7 x9 x10).bind fun _ => some ((decide (x1 < 0)), (sub64 x6 x9 ((sub64 x7 x10 0).2)).1, (sub64 x7 x10 0).1)) else ((g_dec_wide_less k x9 x10 x6 x7).bind fun _ => some (false, (sub64 x9 x6 ((sub64 x10 x7 0).2)).1, (sub64 x10 x7 0).1)))) : Option (Bool × Int × Int)).bind fun (x13, x14, x15) => ((g_dec_num_tell k x13 x14 x15 x8).bind fun (x16, x17, x18) => some (x16, x17, x18))) else ((g_dec_wide_plus k x6 x7 x9 x10).bind fun x19 => (bif (!x19) then some (30, 0, 0) else ((g_dec_num_tell k (decide (x1 < 0)) ((add64 x6 x9 ((add64 x7 x10 0).2)).1) ((add64 x7 x10 0).1) x8).bind fun (x20, x21, x22) => some (x20, x21, x22)))))))
def g_dec_Sub (k : Nat) (x1 : Int) (x2 : Int) (x3 : Int) (x4 : Int) : Option (Int × Int × Int) := ((g_dec_clean k x1 x2 x3 x4).bind fun (x5, x6, x7, x8, x9) => (bif (!x5) then some (1, 0, 0) else ((some (decide (x8 = (-9223372036854775808)))).bind fun x10 => (bif x10 then ((g_dec_lowest k x6 x7 x8 x9).bind fun (x11, x12, x13) => some (x11, x12, x13)) else ((g_dec_Add k x6 x7 (IntKind.wrap .i64 (0 - x8)) x9).bind fun (x14, x15, x16) => some (x14, x15, x16))))))
def g_dec_Mul (k : Nat) (x1 : Int) (x2 : Int) (x3 : Int) (x4 : Int) : Option (Int × Int × Int) := ((g_dec_clean k x1 x2 x3 x4).bind fun (x5, x6, x7, x8, x9) => (bif (!x5) then some (1, 0, 0) else ((g_dec_size k x6).bind fun x10 => ((g_dec_size k x8).bind fun x11 => ((g_mb_Mul64 k x10 x11).bind fun x12 => ((some (!((decide (x6 < 0)) == (decide (x8 < 0))))).bind fun x13 => ((g_dec_num_tell k x13 x12 (IntKind.wrap .u64 (x10 * x11)) (IntKind.wrap .i64 (x7 + x9))).bind fun (x14, x15, x16) => some (x14, x15, x16))))))))
def g_dec_factors_l0 (k : Nat) (x1 : Int) : Nat → Int → Int → Option (Int × Int)
  | 0, _, _ => none
  | n + 1, x2, x3 => (bif (!(x1 == 0)) then (bif (decide ((Int.tmod x2 x1) = 0)) then (bif (!(x1 == 0)) then (g_dec_factors_l0 k x1 n (IntKind.wrap .u64 (Int.tdiv x2 x1)) (IntKind.wrap .i64 (x3 + 1))) else none) else some (x2, x3)) else none)
theorem g_dec_factors_l0_eqs : True := by have := @g_dec_factors_l0.eq_2; trivial
def g_dec_factors (k : Nat) (x1 : Int) (x2 : Int) : Option (Int × Int) := ((g_dec_factors_l0 k x2 k x1 0).bind fun (x3, x4) => some (x4, x3))
def g_dec_Div_l0 (k : Nat) : Nat → Int → Int → Option Int
  | 0, _, _ => none
  | n + 1, x1, x2 => (bif (!decide (x2 = 0)) then (bif (!(x2 == 0)) then (g_dec_Div_l0 k n x2 (Int.tmod x1 x2)) else none) else some x1)
theorem g_dec_Div_l0_eqs : True := by have := @g_dec_Div_l0.eq_2; trivial
def g_dec_Div_l1 (k : Nat) (x1 : Int) (x2 : Int) : Nat → Bool → Int → Int → Int → Option (Bool × Int × Int)
  | 0, _, _, _, _ => none
  | n + 1, x3, x4, x5, x6 => ((((some (decide (x4 < (IntKind.wrap .i64 (x2 - x1))))).bind fun x7 => (bif x7 then some x3 else some false)) : Option Bool).bind fun x8 => (bif x8 then ((g_dec_wide_times k x5 x6 2).bind fun (x9, x10) => (g_dec_Div_l1 k x1 x2 n x9 (IntKind.wrap .i64 (x4 + 1)) x10 (IntKind.wrap .u64 (x6 * 2)))) else some (x3, x5, x6)))
theorem g_dec_Div_l1_eqs : True := by have := @g_dec_Div_l1.eq_2; trivial
def g_dec_Div_l2 (k : Nat) (x1 : Int) (x2 : Int) : Nat → Bool → Int → Int → Int → Option (Bool × Int × Int)
  | 0, _, _, _, _ => none
  | n + 1, x3, x4, x5, x6 => ((((some (decide (x4 < (IntKind.wrap .i64 (x2 - x1))))).bind fun x7 => (bif x7 then some x3 else some false)) : Option Bool).bind fun x8 => (bif x8 then ((g_dec_wide_times k x5 x6 5).bind fun (x9, x10) => (g_dec_Div_l2 k x1 x2 n x9 (IntKind.wrap .i64 (x4 + 1)) x10 (IntKind.wrap .u64 (x6 * 5)))) else some (x3, x5, x6)))
theorem g_dec_Div_l2_eqs : True := by have := @g_dec_Div_l2.eq_2; trivial
def g_dec_Div (k : Nat) (x1 : Int) (x2 : Int) (x3 : Int) (x4 : Int) : Option (Int × Int × Int) := ((g_dec_clean k x1 x2 x3 x4).bind fun (x5, x6, x7, x8, x9) => (bif (!x5) then some (1, 0, 0) else (bif (decide (x8 = 0)) then some (31, 0, 0) else (bif (decide (x6 = 0)) then some (0, 0, 0) else ((g_dec_size k x6).bind fun x10 => ((g_dec_size k x8).bind fun x11 => ((g_dec_Div_l0 k k x10 x11).bind fun x12 => (bif (!(x12 == 0)) then ((g_dec_factors k (IntKind.wrap .u64 (Int.tdiv x11 x12)) 2).bind fun (x13, x14) => ((g_dec_factors k x14 5).bind fun (x15, x16) => (bif (!decide (x16 = 1)) then some (30, 0, 0) else ((some (if (x15 : Int) > x13 then (x15 : Int) else x13)).bind fun x17 => (bif (!(x12 == 0)) then ((g_dec_Div_l1 k x13 x17 k true 0 0 (IntKind.wrap .u64 (Int.tdiv x10 x12))).bind fun (x18, x19, x20) => ((g_dec_Div_l2 k x15 x17 k x18 0 x19 x20).bind fun (x21, x22, x23) => (bif (!x21) then some (30, 0, 0) else ((some (!((decide (x6 < 0)) == (decide (x8 < 0))))).bind fun x24 => ((some (IntKind.wrap .i64 ((IntKind.wrap .i64 (x7 - x9)) - x17))).bind fun x25 => ((g_dec_num_tell k x24 x22 x23 x25).bind fun (x26, x27, x28) => some (x26, x27, x28))))))) else none))))) else none))))))))
def g_dec_clean__b (k : Nat) (x1 : Int) (x2 : Int) : Option (Bool × Int × Int) := ((g_dec_ranged k ([(⟨x1, x2⟩ : S_api_Dec)] : List S_api_Dec)).bind fun x3 => (bif (!x3) then some (false, x1, x2) else ((g_dec_of k x1 x2).bind fun x4 => ((g_dec_num_tell k (decide (x1 < 0)) 0 x4 x2).bind fun (x5, x6, x7) => some (true, x6, x7)))))
def g_dec_Int (k : Nat) (x1 : Int) (x2 : Int) : Option (Int × Bool) := ((((g_dec_clean__b k x1 x2).bind fun (x3, x4, x5) => (bif (!x3) then some (true, x4, x5) else some ((decide (x5 < 0)), x4, x5))) : Option (Bool × Int × Int)).bind fun (x6, x7, x8) => (bif x6 then some (0, false) else ((((g_dec_size k x7).bind fun x9 => ((g_dec_wide_tens k 0 x9 x8).bind fun (x10, x11, x12) => some (x10, x11, x12))) : Option (Bool × Int × Int)).bind fun (x13, x14, x15) => (((bif (!x13) then some true else (bif (decide (0 < x14)) then some true else some (decide (9007199254740992 < x15)))) : Option Bool).bind fun x16 => (bif x16 then some (0, false) else (bif (decide (x7 < 0)) then ((some (IntKind.wrap .i64 (0 - (IntKind.wrap .i64 x15)))).bind fun x17 => some (x17, true)) else some ((IntKind.wrap .i64 x15), true)))))))
def g_dec_Pow_l0 (k : Nat) (x1 : Int) (x2 : Int) (x3 : Int) : Nat → Int → Int → Int → Int → Option (Int × Int × Int)
  | 0, _, _, _, _ => none
  | n + 1, x4, x5, x6, x7 => (((bif (decide (x5 < x1)) then some (decide (x4 = 0)) else some false) : Option Bool).bind fun x8 => (bif x8 then ((g_dec_Mul k x6 x7 x2 x3).bind fun (x9, x10, x11) => (g_dec_Pow_l0 k x1 x2 x3 n x9 (IntKind.wrap .i64 (x5 + 1)) x10 x11)) else some (x4, x6, x7)))
theorem g_dec_Pow_l0_eqs : True := by have := @g_dec_Pow_l0.eq_2; trivial
def g_dec_Pow (k : Nat) (x1 : Int) (x2 : Int) (x3 : Int) (x4 : Int) : Option (Int × Int × Int) := ((g_dec_clean k x1 x2 x3 x4).bind fun (x5, x6, x7, x8, x9) => (bif (!x5) then some (1, 0, 0) else ((g_dec_Int k x8 x9).bind fun (x10, x11) => (((bif (!x11) then some true else (bif (decide (x10 < (-64))) then some true else some (decide (64 < x10)))) : Option Bool).bind fun x12 => (bif x12 then some (30, 0, 0) else (((bif (decide (x10 < 0)) then ((g_dec_Div k 1 0 x6 x7).bind fun (x13, x14, x15) => (bif (!decide (x13 = 0)) then some (Sum.inl x13) else some (Sum.inr ((IntKind.wrap .i64 (0 - x10)), x14, x15)))) else some (Sum.inr (x10, x6, x7))) : Option (Int ⊕ (Int × Int × Int))).bind fun y1 => match y1 with | (Sum.inl x16) => some (x16, 0, 0) | (Sum.inr (x17, x18, x19)) => ((g_dec_Pow_l0 k x17 x18 x19 k 0 0 1 0).bind fun (x20, x21, x22) => some (x20, x21, x22))))))))
def g_val_sum (k : Nat) (x1 : Int) (x2 : Int) (x3 : Int) (x4 : Int) (x5 : Int) : Option (Int × Int × Int) := (bif (decide (x1 = 1)) then ((g_dec_Add k x2 x3 x4 x5).bind fun (x6, x7, x8) => some (x6, x7, x8)) else (bif (decide (x1 = 2)) then ((g_dec_Sub k x2 x3 x4 x5).bind fun (x9, x10, x11) => some (x9, x10, x11)) else (bif (decide (x1 = 3)) then ((g_dec_Mul k x2 x3 x4 x5).bind fun (x12, x13, x14) => some (x12, x13, x14)) else (bif (decide (x1 = 4)) then ((g_dec_Div k x2 x3 x4 x5).bind fun (x15, x16, x17) => some (x15, x16, x17)) else ((g_dec_Pow k x2 x3 x4 x5).bind fun (x18, x19, x20) => some (x18, x19, x20))))))
def g_mb_Mul (k : Nat) (x1 : Int) (x2 : Int) : Option Int := ((g_mb_Mul64 k x1 x2).bind fun x3 => some x3)
def g_st_HasPrefix (k : Nat) (x1 : ByteArray) (x2 : ByteArray) : Option Bool := ((g_sl_HasPrefix k x1 x2).bind fun x3 => some x3)
def g_st_Repeat (k : Nat) (x1 : ByteArray) (x2 : Int) : Option ByteArray := (bif (decide (x2 = 0)) then some (ByteArray.mk #[]) else (bif (decide (x2 = 1)) then some x1 else (bif (decide (x2 < 0)) then none else ((some (IntKind.wrap .u64 ((ByteArray.size x1 : Nat) : Int))).bind fun x3 => ((g_mb_Mul k x3 (IntKind.wrap .u64 x2)).bind fun x4 => (((bif (decide (0 < x4)) then some true else ((some (decide (9223372036854775807 < (IntKind.wrap .u64 (x3 * (IntKind.wrap .u64 x2)))))).bind fun x5 => some x5)) : Option Bool).bind fun x6 => (bif x6 then none else ((some (IntKind.wrap .i64 (IntKind.wrap .u64 (x3 * (IntKind.wrap .u64 x2))))).bind fun x7 => ((some (decide (((ByteArray.size x1 : Nat) : Int) = 0))).bind fun x8 => (bif x8 then some (ByteArray.mk #[]) else ((((ix (strInts x1) 0).bind fun x9 => (((bif (decide (x9 = 32)) then some (decide (x9 = 32)) else (bif (decide (x9 = 45)) then some (decide (x9 = 45)) else (bif (decide (x9 = 48)) then some (decide (x9 = 48)) else (bif (decide (x9 = 61)) then some (decide (x9 = 61)) else some (decide (x9 = 9)))))) : Option Bool).bind fun x10 => (bif x10 then (((bif (decide (x7 ≤ 128)) then ((g_st_HasPrefix k (ByteArray.mk #[32, 32, 32, 32, 32, 32, 32, 32, 32, 32, 32, 32, 32, 32, 32, 32, 32, 32, 32, 32, 32, 32, 32, 32, 32, 32, 32, 32, 32, 32, 32, 32, 32, 32, 32, 32, 32, 32, 32, 32, 32, 32, 32, 32, 32, 32, 32, 32, 32, 32, 32, 32, 32, 32, 32, 32, 32, 32, 32, 32, 32, 32, 32, 32, 32, 32, 32, 32, 32, 32, 32, 32, 32, 32, 32, 32, 32, 32, 32, 32, 32, 32, 32, 32, 32, 32, 32, 32, 32, 32, 32, 32, 32, 32, 32, 32, 32, 32, 32, 32, 32, 32, 32, 32, 32, 32, 32, 32, 32, 32, 32, 32, 32, 32, 32, 32, 32, 32, 32, 32, 32, 32, 32, 32, 32, 32, 32, 32]) x1).bind fun x11 => some x11) else some false) : Option Bool).bind fun x12 => (bif x12 then (bif (decide (0 ≤ (0 : Int) ∧ (0 : Int) ≤ x7 ∧ x7 ≤ ((ByteArray.size (ByteArray.mk #[32, 32, 32, 32, 32, 32, 32, 32, 32, 32, 32, 32, 32, 32, 32, 32, 32, 32, 32, 32, 32, 32, 32, 32, 32, 32, 32, 32, 32, 32, 32, 32, 32, 32, 32, 32, 32, 32, 32, 32, 32, 32, 32, 32, 32, 32, 32, 32, 32, 32, 32, 32, 32, 32, 32, 32, 32, 32, 32, 32, 32, 32, 32, 32, 32, 32, 32, 32, 32, 32, 32, 32, 32, 32, 32, 32, 32, 32, 32, 32, 32, 32, 32, 32, 32, 32, 32, 32, 32, 32, 32, 32, 32, 32, 32, 32, 32, 32, 32, 32, 32, 32, 32, 32, 32, 32, 32, 32, 32, 32, 32, 32, 32, 32, 32, 32, 32, 32, 32, 32, 32, 32, 32, 32, 32, 32, 32, 32]) : Nat) : Int))) then ((some (ByteArray.extract (ByteArray.mk #[32, 32, 32, 32, 32, 32, 32, 32, 32, 32, 32, 32, 32, 32, 32, 32, 32, 32, 32, 32, 32, 32, 32, 32, 32, 32, 32, 32, 32, 32, 32, 32, 32, 32, 32, 32, 32, 32, 32, 32, 32, 32, 32, 32, 32, 32, 32, 32, 32, 32, 32, 32, 32, 32, 32, 32, 32, 32, 32, 32, 32, 32, 32, 32, 32, 32, 32, 32, 32, 32, 32, 32, 32, 32, 32, 32, 32, 32, 32, 32, 32, 32, 32, 32, 32, 32, 32, 32, 32, 32, 32, 32, 32, 32, 32, 32, 32, 32, 32, 32, 32, 32, 32, 32, 32, 32, 32, 32, 32, 32, 32, 32, 32, 32, 32, 32, 32, 32, 32, 32, 32, 32, 32, 32, 32, 32, 32, 32]) (Int.toNat 0) (Int.toNat x7))).bind fun x13 => some (Sum.inl x13)) else none) else (((bif (decide (x7 ≤ 128)) then ((g_st_HasPrefix k (ByteArray.mk #[45, 45, 45, 45, 45, 45, 45, 45, 45, 45, 45, 45, 45, 45, 45, 45, 45, 45, 45, 45, 45, 45, 45, 45, 45, 45, 45, 45, 45, 45, 45, 45, 45, 45, 45, 45, 45, 45, 45, 45, 45, 45, 45, 45, 45, 45, 45, 45, 45, 45, 45, 45, 45, 45, 45, 45, 45, 45, 45, 45, 45, 45, 45, 45, 45, 45, 45, 45, 45, 45, 45, 45, 45, 45, 45, 45, 45, 45, 45, 45, 45, 45, 45, 45, 45, 45, 45, 45, 45, 45, 45, 45, 45, 45, 45, 45, 45, 45, 45, 45, 45, 45, 45, 45, 45, 45, 45, 45, 45, 45, 45, 45, 45, 45, 45, 45, 45, 45, 45, 45, 45, 45, 45, 45, 45, 45, 45, 45]) x1).bind fun x14 => some x14) else some false) : Option Bool).bind fun x15 => (bif x15 then (bif (decide (0 ≤ (0 : Int) ∧ (0 : Int) ≤ x7 ∧ x7 ≤ ((ByteArray.size (ByteArray.mk #[45, 45, 45, 45, 45, 45, 45, 45, 45, 45, 45, 45, 45, 45, 45, 45, 45, 45, 45, 45, 45, 45, 45, 45, 45, 45, 45, 45, 45, 45, 45, 45, 45, 45, 45, 45, 45, 45, 45, 45, 45, 45, 45, 45, 45, 45, 45, 45, 45, 45, 45, 45, 45, 45, 45, 45, 45, 45, 45, 45, 45, 45, 45, 45, 45, 45, 45, 45, 45, 45, 45, 45, 45, 45, 45, 45, 45, 45, 45, 45, 45, 45, 45, 45, 45, 45, 45, 45, 45, 45, 45, 45, 45, 45, 45, 45, 45, 45, 45, 45, 45, 45, 45, 45, 45, 45, 45, 45, 45, 45, 45, 45, 45, 45, 45, 45, 45, 45, 45, 45, 45, 45, 45, 45, 45, 45, 45, 45]) : Nat) : Int))) then ((some (ByteArray.extract (ByteArray.mk #[45, 45, 45, 45, 45, 45, 45, 45, 45, 45, 45, 45, 45, 45, 45, 45, 45, 45, 45, 45, 45, 45, 45, 45, 45, 45, 45, 45, 45, 45, 45, 45, 45, 45, 45, 45, 45, 45, 45, 45, 45, 45, 45, 45, 45, 45, 45, 45, 45, 45, 45, 45, 45, 45, 45, 45, 45, 45, 45, 45, 45, 45, 45, 45, 45, 45, 45, 45, 45, 45, 45, 45, 45, 45, 45, 45, 45, 45, 45, 45, 45, 45, 45, 45, 45, 45, 45, 45, 45, 45, 45, 45, 45, 45, 45, 45, 45, 45, 45, 45, 45, 45, 45, 45, 45, 45, 45, 45, 45, 45, 45, 45, 45, 45, 45, 45, 45, 45, 45, 45, 45, 45, 45, 45, 45, 45, 45, 45]) (Int.toNat 0) (Int.toNat x7))).bind fun x16 => some (Sum.inl x16)) else none) else (((bif (decide (x7 ≤ 64)) then ((g_st_HasPrefix k (ByteArray.mk #[48, 48, 48, 48, 48, 48, 48, 48, 48, 48, 48, 48, 48, 48, 48, 48, 48, 48, 48, 48, 48, 48, 48, 48, 48, 48, 48, 48, 48, 48, 48, 48, 48, 48, 48, 48, 48, 48, 48, 48, 48, 48, 48, 48, 48, 48, 48, 48, 48, 48, 48, 48, 48, 48, 48, 48, 48, 48, 48, 48, 48, 48, 48, 48]) x1).bind fun x17 => some x17) else some false) : Option Bool).bind fun x18 => (bif x18 then (bif (decide (0 ≤ (0 : Int) ∧ (0 : Int) ≤ x7 ∧ x7 ≤ ((ByteArray.size (ByteArray.mk #[48, 48, 48, 48, 48, 48, 48, 48, 48, 48, 48, 48, 48, 48, 48, 48, 48, 48, 48, 48, 48, 48, 48, 48, 48, 48, 48, 48, 48, 48, 48, 48, 48, 48, 48, 48, 48, 48, 48, 48, 48, 48, 48, 48, 48, 48, 48, 48, 48, 48, 48, 48, 48, 48, 48, 48, 48, 48, 48, 48, 48, 48, 48, 48]) : Nat) : Int))) then ((some (ByteArray.extract (ByteArray.mk #[48, 48, 48, 48, 48, 48, 48, 48, 48, 48, 48, 48, 48, 48, 48, 48, 48, 48, 48, 48, 48, 48, 48, 48, 48, 48, 48, 48, 48, 48, 48, 48, 48, 48, 48, 48, 48, 48, 48, 48, 48, 48, 48, 48, 48, 48, 48, 48, 48, 48, 48, 48, 48, 48, 48, 48, 48, 48, 48, 48, 48, 48, 48, 48]) (Int.toNat 0) (Int.toNat x7))).bind fun x19 => some (Sum.inl x19)) else none) else (((bif (decide (x7 ≤ 128)) then ((g_st_HasPrefix k (ByteArray.mk #[61, 61, 61, 61, 61, 61, 61, 61, 61, 61, 61, 61, 61, 61, 61, 61, 61, 61, 61, 61, 61, 61, 61, 61, 61, 61, 61, 61, 61, 61, 61, 61, 61, 61, 61, 61, 61, 61, 61, 61, 61, 61, 61, 61, 61, 61, 61, 61, 61, 61, 61, 61, 61, 61, 61, 61, 61, 61, 61, 61, 61, 61, 61, 61, 61, 61, 61, 61, 61, 61, 61, 61, 61, 61, 61, 61, 61, 61, 61, 61, 61, 61, 61, 61, 61, 61, 61, 61, 61, 61, 61, 61, 61, 61, 61, 61, 61, 61, 61, 61, 61, 61, 61, 61, 61, 61, 61, 61, 61, 61, 61, 61, 61, 61, 61, 61, 61, 61, 61, 61, 61, 61, 61, 61, 61, 61, 61, 61]) x1).bind fun x20 => some x20) else some false) : Option Bool).bind fun x21 => (bif x21 then (bif (decide (0 ≤ (0 : Int) ∧ (0 : Int) ≤ x7 ∧ x7 ≤ ((ByteArray.size (ByteArray.mk #[61, 61, 61, 61, 61, 61, 61, 61, 61, 61, 61, 61, 61, 61, 61, 61, 61, 61, 61, 61, 61, 61, 61, 61, 61, 61, 61, 61, 61, 61, 61, 61, 61, 61, 61, 61, 61, 61, 61, 61, 61, 61, 61, 61, 61, 61, 61, 61, 61, 61, 61, 61, 61, 61, 61, 61, 61, 61, 61, 61, 61, 61, 61, 61, 61, 61, 61, 61, 61, 61, 61, 61, 61, 61, 61, 61, 61, 61, 61, 61, 61, 61, 61, 61, 61, 61, 61, 61, 61, 61, 61, 61, 61, 61, 61, 61, 61, 61, 61, 61, 61, 61, 61, 61, 61, 61, 61, 61, 61, 61, 61, 61, 61, 61, 61, 61, 61, 61, 61, 61, 61, 61, 61, 61, 61, 61, 61, 61]) : Nat) : Int))) then ((some (ByteArray.extract (ByteArray.mk #[61, 61, 61, 61, 61, 61, 61, 61, 61, 61, 61, 61, 61, 61, 61, 61, 61, 61, 61, 61, 61, 61, 61, 61, 61, 61, 61, 61, 61, 61, 61, 61, 61, 61, 61, 61, 61, 61, 61, 61, 61, 61, 61, 61, 61, 61, 61, 61, 61, 61, 61, 61, 61, 61, 61, 61, 61, 61, 61, 61, 61, 61, 61, 61, 61, 61, 61, 61, 61, 61, 61, 61, 61, 61, 61, 61, 61, 61, 61, 61, 61, 61, 61, 61, 61, 61, 61, 61, 61, 61, 61, 61, 61, 61, 61, 61, 61, 61, 61, 61, 61, 61, 61, 61, 61, 61, 61, 61, 61, 61, 61, 61, 61, 61, 61, 61, 61, 61, 61, 61, 61, 61, 61, 61, 61, 61, 61, 61]) (Int.toNat 0) (Int.toNat x7))).bind fun x22 => some (Sum.inl x22)) else none) else (((bif (decide (x7 ≤ 64)) then ((g_st_HasPrefix k (ByteArray.mk #[9, 9, 9, 9, 9, 9, 9, 9, 9, 9, 9, 9, 9, 9, 9, 9, 9, 9, 9, 9, 9, 9, 9, 9, 9, 9, 9, 9, 9, 9, 9, 9, 9, 9, 9, 9, 9, 9, 9, 9, 9, 9, 9, 9, 9, 9, 9, 9, 9, 9, 9, 9, 9, 9, 9, 9, 9, 9, 9, 9, 9, 9, 9, 9]) x1).bind fun x23 => some x23) else some false) : Option Bool).bind fun x24 => (bif x24 then (bif (decide (0 ≤ (0 : Int) ∧ (0 : Int) ≤ x7 ∧ x7 ≤ ((ByteArray.size (ByteArray.mk #[9, 9, 9, 9, 9, 9, 9, 9, 9, 9, 9, 9, 9, 9, 9, 9, 9, 9, 9, 9, 9, 9, 9, 9, 9, 9, 9, 9, 9, 9, 9, 9, 9, 9, 9, 9, 9, 9, 9, 9, 9, 9, 9, 9, 9, 9, 9, 9, 9, 9, 9, 9, 9, 9, 9, 9, 9, 9, 9, 9, 9, 9, 9, 9]) : Nat) : Int))) then ((some (ByteArray.extract (ByteArray.mk #[9, 9, 9, 9, 9, 9, 9, 9, 9, 9, 9, 9, 9, 9, 9, 9, 9, 9, 9, 9, 9, 9, 9, 9, 9, 9, 9, 9, 9, 9, 9, 9, 9, 9, 9, 9, 9, 9, 9, 9, 9, 9, 9, 9, 9, 9, 9, 9, 9, 9, 9, 9, 9, 9, 9, 9, 9, 9, 9, 9, 9, 9, 9, 9]) (Int.toNat 0) (Int.toNat x7))).bind fun x25 => some (Sum.inl x25)) else none) else some (Sum.inr ()))))))))))) else some (Sum.inr ())))) : Option (ByteArray ⊕ Unit)).bind fun y1 => match y1 with | (Sum.inl x26) => some x26 | (Sum.inr _) => (((bif (decide (8192 < x7)) then (bif (!(((ByteArray.size x1 : Nat) : Int) == 0)) then ((some (IntKind.wrap .i64 (Int.tdiv 8192 ((ByteArray.size x1 : Nat) : Int)))).bind fun x27 => ((some (IntKind.wrap .i64 (x27 * ((ByteArray.size x1 : Nat) : Int)))).bind fun x28 => (bif (decide (x28 = 0)) then some ((ByteArray.size x1 : Nat) : Int) else some x28))) else none) else some x7) : Option Int).bind fun x29 => none))))))))))))
def g_dec_Print_l0 (k : Nat) : Nat → ByteArray → Int → Option ByteArray
  | 0, _, _ => none
  | n + 1, x1, x2 => (bif (decide (0 < x2)) then ((some (IntKind.wrap .u64 (48 + (Int.tmod x2 10)))).bind fun x3 => (bif (decide (ByteArray.size (strOf ([(IntKind.wrap .u8 x3)] : List Int)) + ByteArray.size x1 ≤ 9223372036854775807)) then (g_dec_Print_l0 k n ((strOf ([(IntKind.wrap .u8 x3)] : List Int)) ++ x1) (IntKind.wrap .u64 (Int.tdiv x2 10))) else none)) else some x1)
theorem g_dec_Print_l0_eqs : True := by have := @g_dec_Print_l0.eq_2; trivial
def g_dec_Print (k : Nat) (x1 : Int) (x2 : Int) : Option ByteArray := ((g_dec_clean__b k x1 x2).bind fun (x3, x4, x5) => (bif (!x3) then some (ByteArray.mk #[63]) else ((g_dec_size k x4).bind fun x6 => ((g_dec_Print_l0 k k (ByteArray.mk #[]) x6).bind fun x7 => (((bif (decide (x4 = 0)) then some (ByteArray.mk #[48]) else (bif (decide (0 < x5)) then ((g_st_Repeat k (ByteArray.mk #[48]) x5).bind fun x8 => (bif (decide (ByteArray.size x7 + ByteArray.size x8 ≤ 9223372036854775807)) then some (x7 ++ x8) else none)) else (bif (decide (x5 < 0)) then ((some (IntKind.wrap .i64 ((IntKind.wrap .i64 (1 - x5)) - ((ByteArray.size x7 : Nat) : Int)))).bind fun x9 => ((some (if (0 : Int) > x9 then (0 : Int) else x9)).bind fun x10 => ((g_st_Repeat k (ByteArray.mk #[48]) x10).bind fun x11 => (bif (decide (ByteArray.size x11 + ByteArray.size x7 ≤ 9223372036854775807)) then ((some ((ByteArray.size (x11 ++ x7) : Nat) : Int)).bind fun x12 => ((some ((ByteArray.size (x11 ++ x7) : Nat) : Int)).bind fun x13 => (bif (decide (0 ≤ (0 : Int) ∧ (0 : Int) ≤ (IntKind.wrap .i64 (x12 + x5)) ∧ (IntKind.wrap .i64 (x12 + x5)) ≤ ((ByteArray.size (x11 ++ x7) : Nat) : Int))) then ((some (ByteArray.extract (x11 ++ x7) (Int.toNat 0) (Int.toNat (IntKind.wrap .i64 (x12 + x5))))).bind fun x14 => (bif (decide (ByteArray.size x14 + ByteArray.size (ByteArray.mk #[46]) ≤ 9223372036854775807)) then (bif (decide (0 ≤ ((IntKind.wrap .i64 (x13 + x5)) : Int) ∧ ((IntKind.wrap .i64 (x13 + x5)) : Int) ≤ ((ByteArray.size (x11 ++ x7) : Nat) : Int) ∧ ((ByteArray.size (x11 ++ x7) : Nat) : Int) ≤ ((ByteArray.size (x11 ++ x7) : Nat) : Int))) then ((some (ByteArray.extract (x11 ++ x7) (Int.toNat (IntKind.wrap .i64 (x13 + x5))) (Int.toNat ((ByteArray.size (x11 ++ x7) : Nat) : Int)))).bind fun x15 => (bif (decide (ByteArray.size (x14 ++ (ByteArray.mk #[46])) + ByteArray.size x15 ≤ 9223372036854775807)) then some ((x14 ++ (ByteArray.mk #[46])) ++ x15) else none)) else none) else none)) else none))) else none)))) else some x7))) : Option ByteArray).bind fun x16 => (((bif (decide (x4 < 0)) then (bif (decide (ByteArray.size (ByteArray.mk #[45]) + ByteArray.size x16 ≤ 9223372036854775807)) then some ((ByteArray.mk #[45]) ++ x16) else none) else some x16) : Option ByteArray).bind fun x17 => some x17))))))
def g_val_Show (k : Nat) (x1 : Int) (x2 : Int) (x3 : Int) (x4 : ByteArray) (x5 : Bool) (x6 : Int) : Option ByteArray := ((g_val_clean k x1 x2 x3 x4 x5 x6).bind fun (x7, x8, x9, x10, x11, x12) => (bif (decide (x7 = 1)) then ((g_dec_Print k x8 x9).bind fun x13 => some x13) else (bif (decide (x7 = 3)) then (bif x11 then some (ByteArray.mk #[84, 82, 85, 69]) else some (ByteArray.mk #[70, 65, 76, 83, 69])) else ((g_val_ErrName k x12).bind fun x14 => (bif (decide (ByteArray.size x10 + ByteArray.size x14 ≤ 9223372036854775807)) then some (x10 ++ x14) else none)))))
def g_val_beside (k : Nat) (x1 : Int) (x2 : Int) (x3 : Int) (x4 : ByteArray) (x5 : Bool) (x6 : Int) (x7 : Int) (x8 : Int) (x9 : Int) (x10 : ByteArray) (x11 : Bool) (x12 : Int) : Option (Int × Int × Int × ByteArray × Bool × Int) := (((bif (decide (x1 = 0)) then some (!decide (x7 = 0)) else some false) : Option Bool).bind fun x13 => (bif x13 then some (x7, 0, 0, (ByteArray.mk #[]), false, 0) else some (x1, x2, x3, x4, x5, x6)))
def g_cmp_isNaN_int (k : Nat) (x1 : Int) : Option Unit := some ()
def g_cmp_Compare_int (k : Nat) (x1 : Int) (x2 : Int) : Option Int := ((g_cmp_isNaN_int k x1).bind fun _ => ((g_cmp_isNaN_int k x2).bind fun _ => (bif (!decide (x1 = x1)) then (bif (!decide (x2 = x2)) then some 0 else some (-1)) else (bif (!decide (x2 = x2)) then some 1 else (bif (decide (x1 < x2)) then some (-1) else (bif (decide (x2 < x1)) then some 1 else some 0))))))
def g_dec_sign (k : Nat) (x1 : Int) (x2 : Int) : Option Int := (bif (decide (x1 < 0)) then some (-1) else (bif (decide (0 < x1)) then some 1 else some 0))
def g_dec_digits_l0 (k : Nat) : Nat → Int → Int → Option Int
  | 0, _, _ => none
  | n + 1, x1, x2 => (bif (decide (0 < x1)) then (g_dec_digits_l0 k n (IntKind.wrap .u64 (Int.tdiv x1 10)) (IntKind.wrap .i64 (x2 + 1))) else some x2)
theorem g_dec_digits_l0_eqs : True := by have := @g_dec_digits_l0.eq_2; trivial
def g_dec_digits (k : Nat) (x1 : Int) : Option Int := ((g_dec_digits_l0 k k x1 0).bind fun x2 => some x2)
def g_dec_Cmp (k : Nat) (x1 : Int) (x2 : Int) (x3 : Int) (x4 : Int) : Option Int := ((g_dec_clean k x1 x2 x3 x4).bind fun (x5, x6, x7, x8, x9) => (bif (!x5) then some 0 else ((g_dec_sign k x6 x7).bind fun x10 => ((g_dec_sign k x8 x9).bind fun x11 => (((bif (!decide (x10 = x11)) then some true else some (decide (x10 = 0))) : Option Bool).bind fun x12 => (bif x12 then ((some (if ((-1) : Int) > (IntKind.wrap .i64 (x10 - x11)) then ((-1) : Int) else (IntKind.wrap .i64 (x10 - x11)))).bind fun x13 => ((some (if (1 : Int) < x13 then (1 : Int) else x13)).bind fun x14 => some x14)) else ((g_dec_size k x6).bind fun x15 => ((g_dec_digits k x15).bind fun x16 => ((g_dec_size k x8).bind fun x17 => ((g_dec_digits k x17).bind fun x18 => ((some (!decide ((IntKind.wrap .i64 (x16 + x7)) = (IntKind.wrap .i64 (x18 + x9))))).bind fun x19 => (bif x19 then ((some (IntKind.wrap .i64 ((IntKind.wrap .i64 (x16 + x7)) - (IntKind.wrap .i64 (x18 + x9))))).bind fun x20 => ((some (if ((-1) : Int) > x20 then ((-1) : Int) else x20)).bind fun x21 => ((some (if (1 : Int) < x21 then (1 : Int) else x21)).bind fun x22 => some (IntKind.wrap .i64 (x10 * x22))))) else ((g_dec_even k x6 x7 x8 x9).bind fun (x23, x24, x25, x26, x27, x28, x29) => ((g_dec_wide_cmp k x24 x25 x27 x28).bind fun x30 => some (IntKind.wrap .i64 (x10 * x30))))))))))))))))
def g_utf_turned_l0 (k : Nat) (x1 : ByteArray) (x2 : Int) (x3 : Int) (x4 : Int) : Nat → Int → (List Int) → Option (List Int)
  | 0, _, _ => none
  | n + 1, x5, x6 => ((some (decide (x5 < ((List.length (strInts x1) : Nat) : Int)))).bind fun x7 => (bif x7 then ((((ix x6 x5).bind fun x8 => (((bif (decide (x2 ≤ x8)) then some (decide (x8 ≤ x3)) else some false) : Option Bool).bind fun x9 => (bif x9 then ((some (IntKind.wrap .i64 ((IntKind.wrap .i64 x8) + x4))).bind fun x10 => ((ix x6 x5).bind fun x11 => some (List.set x6 (Int.toNat x5) (IntKind.wrap .u8 x10)))) else some x6))) : Option (List Int)).bind fun x12 => (g_utf_turned_l0 k x1 x2 x3 x4 n (IntKind.wrap .i64 (x5 + 1)) x12)) else some x6))
theorem g_utf_turned_l0_eqs : True := by have := @g_utf_turned_l0.eq_2; trivial
def g_utf_turned (k : Nat) (x1 : ByteArray) (x2 : Int) (x3 : Int) (x4 : Int) : Option ByteArray := (bif (decide (ByteArray.size x1 ≤ 140737488355328)) then ((g_utf_turned_l0 k x1 x2 x3 x4 k 0 (strInts x1)).bind fun x5 => some (strOf x5)) else none)
def g_utf_Lower (k : Nat) (x1 : ByteArray) : Option ByteArray := ((g_utf_turned k x1 65 90 32).bind fun x2 => some x2)
def g_cmp_isNaN_string (k : Nat) (x1 : ByteArray) : Option Unit := some ()
def g_cmp_Compare_string (k : Nat) (x1 : ByteArray) (x2 : ByteArray) : Option Int := ((g_cmp_isNaN_string k x1).bind fun _ => ((g_cmp_isNaN_string k x2).bind fun _ => (bif (!(x1.toList == x1.toList)) then (bif (!(x2.toList == x2.toList)) then some 0 else some (-1)) else (bif (!(x2.toList == x2.toList)) then some 1 else (bif (Op.bytesLess x1.toList x2.toList) then some (-1) else ((some (!Op.bytesLess x1.toList x2.toList && !(x1.toList == x2.toList))).bind fun x3 => (bif x3 then some 1 else some 0)))))))
def g_val_ones (k : Nat) (x1 : Bool) : Option Int := (bif x1 then some 1 else some 0)
def g_cmp_Or_int_l0 (k : Nat) (x1 : (List Int)) : Nat → Int → Option (Int ⊕ Unit)
  | 0, _ => none
  | n + 1, x2 => ((some (decide (x2 < ((List.length x1 : Nat) : Int)))).bind fun x3 => (bif x3 then ((ix x1 x2).bind fun x4 => (bif (!decide (x4 = 0)) then some (Sum.inl x4) else (g_cmp_Or_int_l0 k x1 n (IntKind.wrap .i64 (x2 + 1))))) else some (Sum.inr ())))
theorem g_cmp_Or_int_l0_eqs : True := by have := @g_cmp_Or_int_l0.eq_2; trivial
def g_cmp_Or_int (k : Nat) (x1 : (List Int)) : Option Int := (((g_cmp_Or_int_l0 k x1 k 0) : Option (Int ⊕ Unit)).bind fun y1 => match y1 with | (Sum.inl x2) => some x2 | (Sum.inr _) => some 0)
def g_val_Cmp (k : Nat) (x1 : Int) (x2 : Int) (x3 : Int) (x4 : ByteArray) (x5 : Bool) (x6 : Int) (x7 : Int) (x8 : Int) (x9 : Int) (x10 : ByteArray) (x11 : Bool) (x12 : Int) : Option Int := ((g_val_clean k x1 x2 x3 x4 x5 x6).bind fun (x13, x14, x15, x16, x17, x18) => ((g_val_clean k x7 x8 x9 x10 x11 x12).bind fun (x19, x20, x21, x22, x23, x24) => (((bif (decide (x13 = 4)) then some true else some (decide (x19 = 4))) : Option Bool).bind fun x25 => (bif x25 then some 0 else ((g_val_beside k x13 x14 x15 x16 x17 x18 x19 x20 x21 x22 x23 x24).bind fun (x26, x27, x28, x29, x30, x31) => ((g_val_beside k x19 x20 x21 x22 x23 x24 x13 x14 x15 x16 x17 x18).bind fun (x32, x33, x34, x35, x36, x37) => ((g_cmp_Compare_int k x26 x32).bind fun x38 => ((g_dec_Cmp k x27 x28 x33 x34).bind fun x39 => ((g_utf_Lower k x29).bind fun x40 => ((g_utf_Lower k x35).bind fun x41 => ((g_cmp_Compare_string k x40 x41).bind fun x42 => ((g_val_ones k x30).bind fun x43 => ((g_val_ones k x36).bind fun x44 => ((g_cmp_Compare_int k x43 x44).bind fun x45 => ((g_cmp_Or_int k ([x38, x39, x42, x45] : List Int)).bind fun x46 => some x46)))))))))))))))
def g_val_Bin (k : Nat) (x1 : Int) (x2 : Int) (x3 : Int) (x4 : Int) (x5 : ByteArray) (x6 : Bool) (x7 : Int) (x8 : Int) (x9 : Int) (x10 : Int) (x11 : ByteArray) (x12 : Bool) (x13 : Int) : Option (Int × Int × Int × ByteArray × Bool × Int) := ((g_val_clean k x2 x3 x4 x5 x6 x7).bind fun (x14, x15, x16, x17, x18, x19) => ((g_val_clean k x8 x9 x10 x11 x12 x13).bind fun (x20, x21, x22, x23, x24, x25) => (((((bif (decide (1 ≤ x1)) then (bif (decide (x1 ≤ 5)) then (bif (!decide (x14 = 4)) then some (!decide (x20 = 4)) else some false) else some false) else some false) : Option Bool).bind fun x26 => (bif x26 then ((g_val_Num k x14 x15 x16 x17 x18 x19).bind fun (x27, x28, x29, x30, x31, x32) => ((g_val_Num k x20 x21 x22 x23 x24 x25).bind fun (x33, x34, x35, x36, x37, x38) => some (x27, x28, x29, x30, x31, x32, x33, x34, x35, x36, x37, x38))) else some (x14, x15, x16, x17, x18, x19, x20, x21, x22, x23, x24, x25))) : Option (Int × Int × Int × ByteArray × Bool × Int × Int × Int × Int × ByteArray × Bool × Int)).bind fun (x39, x40, x41, x42, x43, x44, x45, x46, x47, x48, x49, x50) => (bif (decide (x39 = 4)) then some (x39, x40, x41, x42, x43, x44) else (bif (decide (x45 = 4)) then some (x45, x46, x47, x48, x49, x50) else (((bif (decide (1 ≤ x1)) then some (decide (x1 ≤ 5)) else some false) : Option Bool).bind fun x51 => (bif x51 then ((g_val_sum k x1 x40 x41 x46 x47).bind fun (x52, x53, x54) => ((g_val_Of k x53 x54 x52).bind fun (x55, x56, x57, x58) => some (x55, x56, x57, (ByteArray.mk #[]), false, x58))) else (bif (decide (x1 = 6)) then ((g_val_Show k x39 x40 x41 x42 x43 x44).bind fun x59 => ((g_val_Show k x45 x46 x47 x48 x49 x50).bind fun x60 => (bif (decide (ByteArray.size x59 + ByteArray.size x60 ≤ 9223372036854775807)) then ((g_val_Str k (x59 ++ x60)).bind fun (x61, x62, x63) => some (x61, 0, 0, x62, false, x63)) else none))) else ((g_val_Cmp k x39 x40 x41 x42 x43 x44 x45 x46 x47 x48 x49 x50).bind fun x64 => (bif (decide (x1 = 7)) then ((g_val_Truth k (decide (x64 = 0))).bind fun _ => some (3, 0, 0, (ByteArray.mk #[]), (decide (x64 = 0)), 0)) else (bif (decide (x1 = 8)) then ((g_val_Truth k (!decide (x64 = 0))).bind fun _ => some (3, 0, 0, (ByteArray.mk #[]), (!decide (x64 = 0)), 0)) else (bif (decide (x1 = 9)) then ((g_val_Truth k (decide (x64 < 0))).bind fun _ => some (3, 0, 0, (ByteArray.mk #[]), (decide (x64 < 0)), 0)) else (bif (decide (x1 = 10)) then ((g_val_Truth k (decide (x64 ≤ 0))).bind fun _ => some (3, 0, 0, (ByteArray.mk #[]), (decide (x64 ≤ 0)), 0)) else (bif (decide (x1 = 11)) then ((g_val_Truth k (decide (0 < x64))).bind fun _ => some (3, 0, 0, (ByteArray.mk #[]), (decide (0 < x64)), 0)) else (bif (decide (x1 = 12)) then ((g_val_Truth k (decide (0 ≤ x64))).bind fun _ => some (3, 0, 0, (ByteArray.mk #[]), (decide (0 ≤ x64)), 0)) else ((g_val_Err k 2).bind fun x65 => some (4, 0, 0, (ByteArray.mk #[]), false, x65)))))))))))))))))
def g_quirelaw13_num (k : Nat) (x1 : Int) : Option Unit := some ()
def g_quirelaw13_alive (k : Nat) : Option Bool := ((((g_val_Str k (ByteArray.mk #[50])).bind fun (x1, x2, x3) => ((g_val_Truth k true).bind fun _ => ((g_val_Bin k 1 x1 0 0 x2 false x3 3 0 0 (ByteArray.mk #[]) true 0).bind fun (x4, x5, x6, x7, x8, x9) => ((g_quirelaw13_num k 3).bind fun _ => ((some ((decide (x4 = 1)) && (((decide (x5 = 3)) && ((decide (x6 = 0)) && true)) && ((ByteArray.toList x7 == ByteArray.toList (ByteArray.mk #[])) && ((x8 == false) && ((decide (x9 = 0)) && true)))))).bind fun x10 => (bif x10 then ((g_quirelaw13_num k 1).bind fun _ => ((g_quirelaw13_num k 0).bind fun _ => ((g_val_Bin k 4 1 1 0 (ByteArray.mk #[]) false 0 1 0 0 (ByteArray.mk #[]) false 0).bind fun (x11, x12, x13, x14, x15, x16) => ((g_val_Err k 1).bind fun x17 => ((some ((decide (x11 = 4)) && (((decide (x12 = 0)) && ((decide (x13 = 0)) && true)) && ((ByteArray.toList x14 == ByteArray.toList (ByteArray.mk #[])) && ((x15 == false) && ((decide (x16 = x17)) && true)))))).bind fun x18 => (bif x18 then ((g_val_Str k (ByteArray.mk #[97])).bind fun (x19, x20, x21) => ((g_val_Str k (ByteArray.mk #[65])).bind fun (x22, x23, x24) => ((g_val_Cmp k x19 0 0 x20 false x21 x22 0 0 x23 false x24).bind fun x25 => (bif (decide (x25 = 0)) then ((g_val_Typed k (ByteArray.mk #[39, 49, 50])).bind fun (x26, x27, x28, x29, x30, x31) => ((g_val_Str k (ByteArray.mk #[49, 50])).bind fun (x32, x33, x34) => ((some ((decide (x26 = x32)) && (((decide (x27 = 0)) && ((decide (x28 = 0)) && true)) && ((ByteArray.toList x29 == ByteArray.toList x33) && ((x30 == false) && ((decide (x31 = x34)) && true)))))).bind fun x35 => (bif x35 then ((g_val_Str k (ByteArray.mk #[120])).bind fun (x36, x37, x38) => ((some (x37.toList == (ByteArray.mk #[120]).toList)).bind fun x39 => (bif x39 then ((g_val_Err k 6).bind fun x40 => ((g_val_Show k 4 0 0 (ByteArray.mk #[]) false x40).bind fun x41 => ((some (x41.toList == (ByteArray.mk #[35, 78, 47, 65]).toList)).bind fun x42 => some x42))) else some false))) else some false)))) else some false)))) else some false)))))) else some false)))))) : Option Bool).bind fun x43 => some x43)
def g_rv_Right (k : Nat) (x1 : Int) (x2 : Int) (x3 : Int) (x4 : ByteArray) (x5 : Bool) (x6 : Int) : Option Bool := (bif (decide (x1 = 0)) then ((some ((decide (x1 = 0)) && (((decide (x2 = 0)) && ((decide (x3 = 0)) && true)) && ((ByteArray.toList x4 == ByteArray.toList (ByteArray.mk #[])) && ((x5 == false) && ((decide (x6 = 0)) && true)))))).bind fun x7 => some x7) else (bif (decide (x1 = 1)) then ((((g_r9_Right k x2 x3).bind fun x8 => (bif x8 then ((some ((decide (x1 = 1)) && (((decide (x2 = x2)) && ((decide (x3 = x3)) && true)) && ((ByteArray.toList x4 == ByteArray.toList (ByteArray.mk #[])) && ((x5 == false) && ((decide (x6 = 0)) && true)))))).bind fun x9 => some x9) else some false)) : Option Bool).bind fun x10 => some x10) else (bif (decide (x1 = 2)) then ((((g_rv_text k x4).bind fun x11 => (bif x11 then ((some ((decide (x1 = 2)) && (((decide (x2 = 0)) && ((decide (x3 = 0)) && true)) && ((ByteArray.toList x4 == ByteArray.toList x4) && ((x5 == false) && ((decide (x6 = 0)) && true)))))).bind fun x12 => some x12) else some false)) : Option Bool).bind fun x13 => some x13) else (bif (decide (x1 = 3)) then ((some ((decide (x1 = 3)) && (((decide (x2 = 0)) && ((decide (x3 = 0)) && true)) && ((ByteArray.toList x4 == ByteArray.toList (ByteArray.mk #[])) && ((x5 == x5) && ((decide (x6 = 0)) && true)))))).bind fun x14 => some x14) else (bif (decide (x1 = 4)) then (((bif (decide (1 ≤ x6)) then (bif (decide (x6 ≤ 7)) then ((some ((decide (x1 = 4)) && (((decide (x2 = 0)) && ((decide (x3 = 0)) && true)) && ((ByteArray.toList x4 == ByteArray.toList (ByteArray.mk #[])) && ((x5 == false) && ((decide (x6 = x6)) && true)))))).bind fun x15 => some x15) else some false) else some false) : Option Bool).bind fun x16 => some x16) else some false)))))
def g_rv_clean (k : Nat) (x1 : Int) (x2 : Int) (x3 : Int) (x4 : ByteArray) (x5 : Bool) (x6 : Int) : Option (Int × Int × Int × ByteArray × Bool × Int) := ((g_rv_Right k x1 x2 x3 x4 x5 x6).bind fun x7 => (bif (!x7) then ((g_rv_Err k 2).bind fun x8 => some (4, 0, 0, (ByteArray.mk #[]), false, x8)) else some (x1, x2, x3, x4, x5, x6)))
def g_rv_Num_l0 (k : Nat) : Nat → ByteArray → Option ByteArray
  | 0, _ => none
  | n + 1, x1 => ((((some (decide (0 < ((ByteArray.size x1 : Nat) : Int)))).bind fun x2 => (bif x2 then ((ix (strInts x1) 0).bind fun x3 => some (decide (x3 = 32))) else some false)) : Option Bool).bind fun x4 => (bif x4 then (bif (decide (0 ≤ (1 : Int) ∧ (1 : Int) ≤ ((ByteArray.size x1 : Nat) : Int) ∧ ((ByteArray.size x1 : Nat) : Int) ≤ ((ByteArray.size x1 : Nat) : Int))) then ((some (ByteArray.extract x1 (Int.toNat 1) (Int.toNat ((ByteArray.size x1 : Nat) : Int)))).bind fun x5 => (g_rv_Num_l0 k n x5)) else none) else some x1))
theorem g_rv_Num_l0_eqs : True := by have := @g_rv_Num_l0.eq_2; trivial
def g_rv_Num_l1 (k : Nat) : Nat → ByteArray → Option ByteArray
  | 0, _ => none
  | n + 1, x1 => ((((some (decide (0 < ((ByteArray.size x1 : Nat) : Int)))).bind fun x2 => (bif x2 then ((some (IntKind.wrap .i64 (((ByteArray.size x1 : Nat) : Int) - 1))).bind fun x3 => ((ix (strInts x1) x3).bind fun x4 => some (decide (x4 = 32)))) else some false)) : Option Bool).bind fun x5 => (bif x5 then ((some (IntKind.wrap .i64 (((ByteArray.size x1 : Nat) : Int) - 1))).bind fun x6 => (bif (decide (0 ≤ (0 : Int) ∧ (0 : Int) ≤ x6 ∧ x6 ≤ ((ByteArray.size x1 : Nat) : Int))) then (g_rv_Num_l1 k n (ByteArray.extract x1 (Int.toNat 0) (Int.toNat x6))) else none)) else some x1))
theorem g_rv_Num_l1_eqs : True := by have := @g_rv_Num_l1.eq_2; trivial
def g_rv_Num (k : Nat) (x1 : Int) (x2 : Int) (x3 : Int) (x4 : ByteArray) (x5 : Bool) (x6 : Int) : Option (Int × Int × Int × ByteArray × Bool × Int) := ((g_rv_clean k x1 x2 x3 x4 x5 x6).bind fun (x7, x8, x9, x10, x11, x12) => (bif (decide (x7 = 0)) then ((g_rv_Of k 0 0 0).bind fun (x13, x14, x15, x16) => some (x13, x14, x15, (ByteArray.mk #[]), false, x16)) else (bif (decide (x7 = 3)) then (bif x11 then ((g_rv_Of k 1 0 0).bind fun (x17, x18, x19, x20) => some (x17, x18, x19, (ByteArray.mk #[]), false, x20)) else ((g_rv_Of k 0 0 0).bind fun (x21, x22, x23, x24) => some (x21, x22, x23, (ByteArray.mk #[]), false, x24))) else (bif (decide (x7 = 2)) then ((g_rv_Num_l0 k k x10).bind fun x25 => ((g_rv_Num_l1 k k x25).bind fun x26 => ((g_r9_Parse k x26).bind fun (x27, x28, x29) => (bif (decide (x27 = 40)) then ((g_rv_Err k 2).bind fun x30 => some (4, 0, 0, (ByteArray.mk #[]), false, x30)) else ((g_rv_Of k x28 x29 x27).bind fun (x31, x32, x33, x34) => some (x31, x32, x33, (ByteArray.mk #[]), false, x34)))))) else some (x7, x8, x9, x10, x11, x12)))))
def g_r9_num (k : Nat) (x1 : Int) (x2 : Int) : Option (Bool × (List Int)) := ((((g_r9_Of k x1).bind fun x3 => (bif (decide ((-18) ≤ x2)) then some ((decide (x2 ≤ 18)), x3) else some (false, x3))) : Option (Bool × (List Int))).bind fun (x4, x5) => some (x4, x5))
def g_r9_two_l0 (k : Nat) (x1 : Int) : Nat → Bool → (List Int) → Int → Option (Bool × (List Int) × Int)
  | 0, _, _, _ => none
  | n + 1, x2, x3, x4 => (bif (decide (x1 < x4)) then ((g_r9_Shift k x2 x3 1).bind fun (x5, x6) => (g_r9_two_l0 k x1 n x5 x6 (IntKind.wrap .i64 (x4 - 1)))) else some (x2, x3, x4))
theorem g_r9_two_l0_eqs : True := by have := @g_r9_two_l0.eq_2; trivial
def g_r9_two_l1 (k : Nat) (x1 : Int) : Nat → Bool → (List Int) → Int → Option (Bool × (List Int) × Int)
  | 0, _, _, _ => none
  | n + 1, x2, x3, x4 => (bif (decide (x1 < x4)) then ((g_r9_Shift k x2 x3 1).bind fun (x5, x6) => (g_r9_two_l1 k x1 n x5 x6 (IntKind.wrap .i64 (x4 - 1)))) else some (x2, x3, x4))
theorem g_r9_two_l1_eqs : True := by have := @g_r9_two_l1.eq_2; trivial
def g_r9_two (k : Nat) (x1 : Int) (x2 : Int) (x3 : Int) (x4 : Int) : Option (Bool × Bool × (List Int) × Int × Bool × (List Int) × Int) := ((g_r9_num k x1 x2).bind fun (x5, x6) => ((g_r9_num k x3 x4).bind fun (x7, x8) => (((bif (!x5) then some true else some (!x7)) : Option Bool).bind fun x9 => (bif x9 then some (false, false, ([] : List Int), 0, false, ([] : List Int), 0) else ((g_r9_two_l0 k x4 k (decide (x1 < 0)) x6 x2).bind fun (x10, x11, x12) => ((g_r9_two_l1 k x12 k (decide (x3 < 0)) x8 x4).bind fun (x13, x14, x15) => some (true, x10, x11, x12, x13, x14, x15)))))))
def g_r6_turned_l0 (k : Nat) (x1 : ByteArray) (x2 : Int) (x3 : Int) : Nat → Int → (List Int) → Option (List Int)
  | 0, _, _ => none
  | n + 1, x4, x5 => ((some (decide (x4 < ((ByteArray.size x1 : Nat) : Int)))).bind fun x6 => (bif x6 then ((ix (strInts x1) x4).bind fun x7 => (((((bif (decide (x2 ≤ x7)) then ((some (decide (x7 < (IntKind.wrap .u8 (x2 + 26))))).bind fun x8 => some x8) else some false) : Option Bool).bind fun x9 => (bif x9 then some (IntKind.wrap .u8 (x7 + x3)) else some x7)) : Option Int).bind fun x10 => (bif (decide (((List.length x5) + (List.length ([x10] : List Int))) * 1 ≤ 140737488355328)) then (g_r6_turned_l0 k x1 x2 x3 n (IntKind.wrap .i64 (x4 + 1)) (x5 ++ ([x10] : List Int))) else none))) else some x5))
theorem g_r6_turned_l0_eqs : True := by have := @g_r6_turned_l0.eq_2; trivial
def g_r6_turned (k : Nat) (x1 : ByteArray) (x2 : Int) (x3 : Int) : Option ByteArray := ((g_r6_turned_l0 k x1 x2 x3 k 0 ([] : List Int)).bind fun x4 => some (strOf x4))
def g_rv_word (k : Nat) (x1 : Bool) : Option ByteArray := (bif x1 then some (ByteArray.mk #[84, 82, 85, 69]) else some (ByteArray.mk #[70, 65, 76, 83, 69]))
def g_r9_Make (k : Nat) (x1 : Int) (x2 : Int) : Option (Int × Int × Int) := (bif (decide (x1 = 0)) then some (0, 0, 0) else (((bif (decide (x2 < (-100))) then some true else some (decide (100 < x2))) : Option Bool).bind fun x3 => (bif x3 then some (30, 0, 0) else ((g_r9_Of k x1).bind fun x4 => ((g_r9_Tell k (decide (x1 < 0)) x4 x2).bind fun (x5, x6, x7) => some (x5, x6, x7))))))
def g_r9_Print_l0 (k : Nat) : Nat → Bool → (List Int) → Int → Option (Bool × (List Int) × Int)
  | 0, _, _, _ => none
  | n + 1, x1, x2, x3 => (bif (decide (0 < x3)) then ((g_r9_Shift k x1 x2 1).bind fun (x4, x5) => (g_r9_Print_l0 k n x4 x5 (IntKind.wrap .i64 (x3 - 1)))) else some (x1, x2, x3))
theorem g_r9_Print_l0_eqs : True := by have := @g_r9_Print_l0.eq_2; trivial
def g_r9_Print_l1 (k : Nat) (x1 : Bool) (x2 : (List Int)) (x3 : Int) : Nat → Int → (List Int) → Option (List Int)
  | 0, _, _ => none
  | n + 1, x4, x5 => (bif (decide (0 ≤ x4)) then ((((some (IntKind.wrap .i64 ((IntKind.wrap .i64 (0 - x3)) - 1))).bind fun x6 => (bif (decide (x4 = x6)) then (bif (decide (((List.length x5) + (List.length ([46] : List Int))) * 1 ≤ 140737488355328)) then some (x5 ++ ([46] : List Int)) else none) else some x5)) : Option (List Int)).bind fun x7 => ((g_r9_at k x1 x2 x4).bind fun x8 => ((some (IntKind.wrap .u8 (IntKind.wrap .i64 (48 + x8)))).bind fun x9 => (bif (decide (((List.length x7) + (List.length ([x9] : List Int))) * 1 ≤ 140737488355328)) then (g_r9_Print_l1 k x1 x2 x3 n (IntKind.wrap .i64 (x4 - 1)) (x7 ++ ([x9] : List Int))) else none)))) else some x5)
theorem g_r9_Print_l1_eqs : True := by have := @g_r9_Print_l1.eq_2; trivial
def g_r9_Print (k : Nat) (x1 : Int) (x2 : Int) : Option ByteArray := ((g_r9_Make k x1 x2).bind fun (x3, x4, x5) => ((g_r9_num k x1 x2).bind fun (x6, x7) => (((bif (!x6) then some true else some (!decide (x3 = 0))) : Option Bool).bind fun x8 => (bif x8 then some (ByteArray.mk #[63]) else ((g_r9_num k x4 x5).bind fun (x9, x10) => ((g_r9_Print_l0 k k (decide (x4 < 0)) x10 x5).bind fun (x11, x12, x13) => (((bif x11 then (bif (decide (((List.length ([] : List Int)) + (List.length ([45] : List Int))) * 1 ≤ 140737488355328)) then some (([] : List Int) ++ ([45] : List Int)) else none) else some ([] : List Int)) : Option (List Int)).bind fun x14 => ((((some (decide (((List.length x12 : Nat) : Int) < (IntKind.wrap .i64 (1 - x13))))).bind fun x15 => (bif x15 then some (IntKind.wrap .i64 (1 - x13)) else some ((List.length x12 : Nat) : Int))) : Option Int).bind fun x16 => ((g_r9_Print_l1 k x11 x12 x13 k (IntKind.wrap .i64 (x16 - 1)) x14).bind fun x17 => some (strOf x17))))))))))
def g_rv_Text (k : Nat) (x1 : Int) (x2 : Int) (x3 : Int) (x4 : ByteArray) (x5 : Bool) (x6 : Int) : Option (Int × Int × Int × ByteArray × Bool × Int) := ((g_rv_clean k x1 x2 x3 x4 x5 x6).bind fun (x7, x8, x9, x10, x11, x12) => (bif (decide (x7 = 0)) then ((g_rv_Str k (ByteArray.mk #[])).bind fun (x13, x14, x15) => some (x13, 0, 0, x14, false, x15)) else (bif (decide (x7 = 3)) then ((g_rv_word k x11).bind fun x16 => ((g_rv_Str k x16).bind fun (x17, x18, x19) => some (x17, 0, 0, x18, false, x19))) else (bif (decide (x7 = 1)) then ((g_r9_Print k x8 x9).bind fun x20 => ((g_rv_Str k x20).bind fun (x21, x22, x23) => some (x21, 0, 0, x22, false, x23))) else some (x7, x8, x9, x10, x11, x12)))))
def g_val_Text (k : Nat) (x1 : Int) (x2 : Int) (x3 : Int) (x4 : ByteArray) (x5 : Bool) (x6 : Int) : Option (Int × Int × Int × ByteArray × Bool × Int) := ((g_val_clean k x1 x2 x3 x4 x5 x6).bind fun (x7, x8, x9, x10, x11, x12) => (bif (decide (x7 = 4)) then some (x7, x8, x9, x10, x11, x12) else ((g_val_Show k x7 x8 x9 x10 x11 x12).bind fun x13 => ((g_val_Str k x13).bind fun (x14, x15, x16) => some (x14, 0, 0, x15, false, x16)))))
def g_utf_Upper (k : Nat) (x1 : ByteArray) : Option ByteArray := ((g_utf_turned k x1 97 122 (-32)).bind fun x2 => some x2)
def g_val_Bool (k : Nat) (x1 : Int) (x2 : Int) (x3 : Int) (x4 : ByteArray) (x5 : Bool) (x6 : Int) : Option (Int × Int × Int × ByteArray × Bool × Int) := ((g_val_clean k x1 x2 x3 x4 x5 x6).bind fun (x7, x8, x9, x10, x11, x12) => (((bif (decide (x7 = 1)) then some (decide (x7 = 1)) else some (decide (x7 = 0))) : Option Bool).bind fun x13 => (bif x13 then ((g_val_Truth k (!decide (x8 = 0))).bind fun _ => some (3, 0, 0, (ByteArray.mk #[]), (!decide (x8 = 0)), 0)) else (bif (decide (x7 = 2)) then ((g_utf_Upper k x10).bind fun x14 => ((some (x14.toList == (ByteArray.mk #[84, 82, 85, 69]).toList)).bind fun x15 => (bif x15 then ((g_val_Truth k true).bind fun _ => some (3, 0, 0, (ByteArray.mk #[]), true, 0)) else ((some (x14.toList == (ByteArray.mk #[70, 65, 76, 83, 69]).toList)).bind fun x16 => (bif x16 then ((g_val_Truth k false).bind fun _ => some (3, 0, 0, (ByteArray.mk #[]), false, 0)) else ((g_val_Err k 2).bind fun x17 => some (4, 0, 0, (ByteArray.mk #[]), false, x17))))))) else some (x7, x8, x9, x10, x11, x12)))))
def g_r6_Upper (k : Nat) (x1 : ByteArray) : Option ByteArray := ((g_r6_turned k x1 97 224).bind fun x2 => some x2)
def g_rv_Bool (k : Nat) (x1 : Int) (x2 : Int) (x3 : Int) (x4 : ByteArray) (x5 : Bool) (x6 : Int) : Option (Int × Int × Int × ByteArray × Bool × Int) := ((g_rv_clean k x1 x2 x3 x4 x5 x6).bind fun (x7, x8, x9, x10, x11, x12) => (bif (decide (x7 = 0)) then ((g_rv_Truth k false).bind fun _ => some (3, 0, 0, (ByteArray.mk #[]), false, 0)) else (bif (decide (x7 = 1)) then ((g_rv_Truth k (!decide (x8 = 0))).bind fun _ => some (3, 0, 0, (ByteArray.mk #[]), (!decide (x8 = 0)), 0)) else (bif (decide (x7 = 2)) then ((g_r6_Upper k x10).bind fun x13 => ((((some (!(x13.toList == (ByteArray.mk #[84, 82, 85, 69]).toList))).bind fun x14 => (bif x14 then ((some (!(x13.toList == (ByteArray.mk #[70, 65, 76, 83, 69]).toList))).bind fun x15 => some x15) else some false)) : Option Bool).bind fun x16 => (bif x16 then ((g_rv_Err k 2).bind fun x17 => some (4, 0, 0, (ByteArray.mk #[]), false, x17)) else ((some (x13.toList == (ByteArray.mk #[84, 82, 85, 69]).toList)).bind fun x18 => ((g_rv_Truth k x18).bind fun _ => some (3, 0, 0, (ByteArray.mk #[]), x18, 0)))))) else some (x7, x8, x9, x10, x11, x12)))))
def g_rv_Show (k : Nat) (x1 : Int) (x2 : Int) (x3 : Int) (x4 : ByteArray) (x5 : Bool) (x6 : Int) : Option ByteArray := ((g_rv_clean k x1 x2 x3 x4 x5 x6).bind fun (x7, x8, x9, x10, x11, x12) => (bif (decide (x7 = 4)) then ((g_rv_Names k).bind fun _ => ((ix ([(ByteArray.mk #[]), (ByteArray.mk #[35, 68, 73, 86, 47, 48, 33]), (ByteArray.mk #[35, 86, 65, 76, 85, 69, 33]), (ByteArray.mk #[35, 82, 69, 70, 33]), (ByteArray.mk #[35, 78, 65, 77, 69, 63]), (ByteArray.mk #[35, 78, 85, 77, 33]), (ByteArray.mk #[35, 78, 47, 65]), (ByteArray.mk #[35, 67, 89, 67, 76, 69, 33])] : List ByteArray) x12).bind fun x13 => some x13)) else ((g_rv_Text k x7 x8 x9 x10 x11 x12).bind fun (x14, x15, x16, x17, x18, x19) => some x17)))
def g_quirelaw13_ValTurns (k : Nat) (x1 : Int) (x2 : Int) (x3 : Int) (x4 : ByteArray) (x5 : Bool) (x6 : Int) : Option Bool := ((((g_val_Right k x1 x2 x3 x4 x5 x6).bind fun x7 => ((g_rv_Right k x1 x2 x3 x4 x5 x6).bind fun x8 => (bif (x7 == x8) then ((g_val_Num k x1 x2 x3 x4 x5 x6).bind fun (x9, x10, x11, x12, x13, x14) => ((g_rv_Num k x1 x2 x3 x4 x5 x6).bind fun (x15, x16, x17, x18, x19, x20) => ((some ((decide (x9 = x15)) && (((decide (x10 = x16)) && ((decide (x11 = x17)) && true)) && ((ByteArray.toList x12 == ByteArray.toList x18) && ((x13 == x19) && ((decide (x14 = x20)) && true)))))).bind fun x21 => (bif x21 then ((g_val_Text k x1 x2 x3 x4 x5 x6).bind fun (x22, x23, x24, x25, x26, x27) => ((g_rv_Text k x1 x2 x3 x4 x5 x6).bind fun (x28, x29, x30, x31, x32, x33) => ((some ((decide (x22 = x28)) && (((decide (x23 = x29)) && ((decide (x24 = x30)) && true)) && ((ByteArray.toList x25 == ByteArray.toList x31) && ((x26 == x32) && ((decide (x27 = x33)) && true)))))).bind fun x34 => (bif x34 then ((g_val_Bool k x1 x2 x3 x4 x5 x6).bind fun (x35, x36, x37, x38, x39, x40) => ((g_rv_Bool k x1 x2 x3 x4 x5 x6).bind fun (x41, x42, x43, x44, x45, x46) => ((some ((decide (x35 = x41)) && (((decide (x36 = x42)) && ((decide (x37 = x43)) && true)) && ((ByteArray.toList x38 == ByteArray.toList x44) && ((x39 == x45) && ((decide (x40 = x46)) && true)))))).bind fun x47 => (bif x47 then ((g_val_Show k x1 x2 x3 x4 x5 x6).bind fun x48 => ((g_rv_Show k x1 x2 x3 x4 x5 x6).bind fun x49 => (bif (x48.toList == x49.toList) then ((g_quirelaw13_alive k).bind fun x50 => some x50) else some false))) else some false)))) else some false)))) else some false)))) else some false))) : Option Bool).bind fun x51 => some x51)
end Go.Proofs.YthpcgknknpjpdaaGreatDoor.W
namespace Go.Proofs.YthpcgknknpjpdaaGreatDoor.W
open Go Go.Q Go.Proofs
set_option linter.unusedVariables false
set_option linter.unusedSimpArgs false
theorem g_mb_Mul64_mono {k k' : Nat} (hk : k ≤ k') {x1 : Int} {x2 : Int} : Le (g_mb_Mul64 k x1 x2) (g_mb_Mul64 k' x1 x2) := by
  unfold g_mb_Mul64
  repeat' first | (with_reducible first | exact Le.rfl | refine Le.bind ?_ ?_ | refine Le.cond ?_ ?_) | intro _ | split
theorem g_sl_HasPrefix_mono {k k' : Nat} (hk : k ≤ k') {x1 : ByteArray} {x2 : ByteArray} : Le (g_sl_HasPrefix k x1 x2) (g_sl_HasPrefix k' x1 x2) := by
  unfold g_sl_HasPrefix
  repeat' first | (with_reducible first | exact Le.rfl | refine Le.bind ?_ ?_ | refine Le.cond ?_ ?_) | intro _ | split
theorem g_mb_Mul_mono {k k' : Nat} (hk : k ≤ k') {x1 : Int} {x2 : Int} : Le (g_mb_Mul k x1 x2) (g_mb_Mul k' x1 x2) := by
  unfold g_mb_Mul
  repeat' first | (with_reducible exact Le.rfl) | (with_reducible exact g_mb_Mul64_mono hk) | (with_reducible refine Le.bind ?_ ?_) | (with_reducible refine Le.cond ?_ ?_) | intro _ | split
theorem g_st_HasPrefix_mono {k k' : Nat} (hk : k ≤ k') {x1 : ByteArray} {x2 : ByteArray} : Le (g_st_HasPrefix k x1 x2) (g_st_HasPrefix k' x1 x2) := by
  unfold g_st_HasPrefix
  repeat' first | (with_reducible exact Le.rfl) | (with_reducible exact g_sl_HasPrefix_mono hk) | (with_reducible refine Le.bind ?_ ?_) | (with_reducible refine Le.cond ?_ ?_) | intro _ | split
theorem g_st_Repeat_mono {k k' : Nat} (hk : k ≤ k') {x1 : ByteArray} {x2 : Int} : Le (g_st_Repeat k x1 x2) (g_st_Repeat k' x1 x2) := by
  unfold g_st_Repeat
  repeat' first | (with_reducible exact Le.rfl) | (with_reducible exact g_mb_Mul_mono hk) | (with_reducible exact g_st_HasPrefix_mono hk) | (with_reducible refine Le.bind ?_ ?_) | (with_reducible refine Le.cond ?_ ?_) | intro _ | split
end Go.Proofs.YthpcgknknpjpdaaGreatDoor.W
namespace Go.Proofs.YthpcgknknpjpdaaGreatDoor.W
open Go Go.Q Go.Proofs
set_option linter.unusedVariables false
set_option linter.unusedSimpArgs false
set_option maxRecDepth 100000
theorem mixed : Tryz.prog.follows .mixedOrders = true := rfl
theorem rowsA {m : Ro} : rows rdS_unicode_utf8_acceptRange m tabA vs1 := by
  have : ∀ l : List (Int × Int), rows rdS_unicode_utf8_acceptRange m (l.map fun p => ⟨p.1, p.2⟩) (l.flatMap fun p => [Value.int .u8 p.1, Value.int .u8 p.2]) := by
    intro l
    induction l with
    | nil => trivial
    | cons p l ih => exact ⟨⟨[_], [_], rfl, rfl, [_], [], rfl, rfl, rfl⟩, ih⟩
  exact this tab1
theorem sz9 : SzIs Tryz.prog 9 1 := ⟨Tryz.t9, rfl, rfl⟩
theorem li26 : LitIs Tryz.prog 26 9 1 [.string (ByteArray.mk #[])] := ⟨Tryz.underlying26, ⟨Tryz.t9, _, rfl, rfl, rfl, rfl⟩, by intro v hv; simp at hv; (try rcases hv with rfl | hv) <;> first | rfl | (subst hv; rfl) | simp_all [Value.oneCell']⟩
theorem fn44 : FnIs Tryz.prog 44 := ⟨_, Tryz.func44, rfl, by kernel_rfl⟩
theorem sl26 : SlIs Tryz.prog 26 9 1 := ⟨Tryz.underlying26, sz9⟩
theorem sc9 : Sc Tryz.prog 9 := ⟨_, Tryz.t9, Tryz.underlying9, rfl, rfl, trivial⟩
theorem fn43 : FnIs Tryz.prog 43 := ⟨_, Tryz.func43, rfl, by kernel_rfl⟩
theorem fn9 : FnIs Tryz.prog 9 := ⟨_, Tryz.func9, rfl, by kernel_rfl⟩
theorem fn11 : FnIs Tryz.prog 11 := ⟨_, Tryz.func11, rfl, by kernel_rfl⟩
theorem ag23 : Ag Tryz.prog 23 2 := ⟨_, Tryz.t23, Tryz.underlying23, rfl, rfl, trivial⟩
theorem ze29 : ZeroIs Tryz.prog 29 [.int .i64 0, .int .i64 0, .int .i64 0, .string (ByteArray.mk #[]), .bool false, .int .i64 0] := ⟨⟨Tryz.t29, _, rfl, rfl, rfl⟩, by intro v hv; simp only [List.mem_cons, List.not_mem_nil, or_false] at hv; (try rcases hv with rfl | rfl | rfl | rfl | rfl | rfl) <;> (subst_vars; rfl)⟩
theorem fn18 : FnIs Tryz.prog 18 := ⟨_, Tryz.func18, rfl, by kernel_rfl⟩
theorem bu29 : BuildIs Tryz.prog 29 (placeOf [(0, 1), (1, 2), (3, 1), (4, 1), (5, 1)]) [.int .i64 0, .int .i64 0, .int .i64 0, .string (ByteArray.mk #[]), .bool false, .int .i64 0] := BuildIs.struct (it := Tryz.t29) rfl Tryz.underlying29 rfl rfl rfl (by intro v hv; simp only [List.mem_cons, List.not_mem_nil, or_false] at hv; (try rcases hv with rfl | rfl | rfl | rfl | rfl | rfl) <;> (subst_vars; rfl))
theorem sz29 : SzIs Tryz.prog 29 6 := ⟨Tryz.t29, rfl, rfl⟩
theorem ag29 : Ag Tryz.prog 29 6 := ⟨_, Tryz.t29, Tryz.underlying29, rfl, rfl, trivial⟩
theorem fn16 : FnIs Tryz.prog 16 := ⟨_, Tryz.func16, rfl, by kernel_rfl⟩
theorem ze71 : ZeroIs Tryz.prog 71 [.bool false, .int .u64 0, .int .u64 0, .int .i64 0] := ⟨⟨Tryz.t71, _, rfl, rfl, rfl⟩, by intro v hv; simp only [List.mem_cons, List.not_mem_nil, or_false] at hv; (try rcases hv with rfl | rfl | rfl | rfl) <;> (subst_vars; rfl)⟩
theorem fi23_0 : FieldIs Tryz.prog 23 0 0 2 1 := ⟨_, _, Tryz.t2, Tryz.underlying23, rfl, rfl, rfl, rfl, rfl⟩
theorem sc2 : Sc Tryz.prog 2 := ⟨_, Tryz.t2, Tryz.underlying2, rfl, rfl, trivial⟩
theorem fi23_1 : FieldIs Tryz.prog 23 1 1 3 1 := ⟨_, _, Tryz.t3, Tryz.underlying23, rfl, rfl, rfl, rfl, rfl⟩
theorem sc3 : Sc Tryz.prog 3 := ⟨_, Tryz.t3, Tryz.underlying3, rfl, rfl, trivial⟩
theorem fn102 : FnIs Tryz.prog 102 := ⟨_, Tryz.func102, rfl, by kernel_rfl⟩
theorem bu69 : BuildIs Tryz.prog 69 (placeOf [(0, 1), (1, 1)]) [.int .u64 0, .int .u64 0] := BuildIs.struct (it := Tryz.t69) rfl Tryz.underlying69 rfl rfl rfl (by intro v hv; simp only [List.mem_cons, List.not_mem_nil, or_false] at hv; (try rcases hv with rfl | rfl) <;> (subst_vars; rfl))
theorem bu71 : BuildIs Tryz.prog 71 (placeOf [(0, 1), (1, 2), (3, 1)]) [.bool false, .int .u64 0, .int .u64 0, .int .i64 0] := BuildIs.struct (it := Tryz.t71) rfl Tryz.underlying71 rfl rfl rfl (by intro v hv; simp only [List.mem_cons, List.not_mem_nil, or_false] at hv; (try rcases hv with rfl | rfl | rfl | rfl) <;> (subst_vars; rfl))
theorem sz71 : SzIs Tryz.prog 71 4 := ⟨Tryz.t71, rfl, rfl⟩
theorem ag71 : Ag Tryz.prog 71 4 := ⟨_, Tryz.t71, Tryz.underlying71, rfl, rfl, trivial⟩
theorem fn81 : FnIs Tryz.prog 81 := ⟨_, Tryz.func81, rfl, by kernel_rfl⟩
theorem ze23 : ZeroIs Tryz.prog 23 [.int .i64 0, .int .i64 0] := ⟨⟨Tryz.t23, _, rfl, rfl, rfl⟩, by intro v hv; simp only [List.mem_cons, List.not_mem_nil, or_false] at hv; (try rcases hv with rfl | rfl) <;> (subst_vars; rfl)⟩
theorem fi71_1 : FieldIs Tryz.prog 71 1 1 69 2 := ⟨_, _, Tryz.t69, Tryz.underlying71, rfl, rfl, rfl, rfl, rfl⟩
theorem ag69 : Ag Tryz.prog 69 2 := ⟨_, Tryz.t69, Tryz.underlying69, rfl, rfl, trivial⟩
theorem fi69_0 : FieldIs Tryz.prog 69 0 0 67 1 := ⟨_, _, Tryz.t67, Tryz.underlying69, rfl, rfl, rfl, rfl, rfl⟩
theorem sc67 : Sc Tryz.prog 67 := ⟨_, Tryz.t67, Tryz.underlying67, rfl, rfl, trivial⟩
theorem fi69_1 : FieldIs Tryz.prog 69 1 1 67 1 := ⟨_, _, Tryz.t67, Tryz.underlying69, rfl, rfl, rfl, rfl, rfl⟩
theorem fn131 : FnIs Tryz.prog 131 := ⟨_, Tryz.func131, rfl, by kernel_rfl⟩
theorem bu23 : BuildIs Tryz.prog 23 (placeOf [(0, 1), (1, 1)]) [.int .i64 0, .int .i64 0] := BuildIs.struct (it := Tryz.t23) rfl Tryz.underlying23 rfl rfl rfl (by intro v hv; simp only [List.mem_cons, List.not_mem_nil, or_false] at hv; (try rcases hv with rfl | rfl) <;> (subst_vars; rfl))
theorem sz23 : SzIs Tryz.prog 23 2 := ⟨Tryz.t23, rfl, rfl⟩
theorem ze69 : ZeroIs Tryz.prog 69 [.int .u64 0, .int .u64 0] := ⟨⟨Tryz.t69, _, rfl, rfl, rfl⟩, by intro v hv; simp only [List.mem_cons, List.not_mem_nil, or_false] at hv; (try rcases hv with rfl | rfl) <;> (subst_vars; rfl)⟩
theorem fn176 : FnIs Tryz.prog 176 := ⟨_, Tryz.func176, rfl, by kernel_rfl⟩
theorem fn169 : FnIs Tryz.prog 169 := ⟨_, Tryz.func169, rfl, by kernel_rfl⟩
theorem fn158 : FnIs Tryz.prog 158 := ⟨_, Tryz.func158, rfl, by kernel_rfl⟩
theorem sz69 : SzIs Tryz.prog 69 2 := ⟨Tryz.t69, rfl, rfl⟩
theorem fn132 : FnIs Tryz.prog 132 := ⟨_, Tryz.func132, rfl, by kernel_rfl⟩
theorem fi71_2 : FieldIs Tryz.prog 71 2 3 3 1 := ⟨_, _, Tryz.t3, Tryz.underlying71, rfl, rfl, rfl, rfl, rfl⟩
theorem sz3 : SzIs Tryz.prog 3 1 := ⟨Tryz.t3, rfl, rfl⟩
theorem fn121 : FnIs Tryz.prog 121 := ⟨_, Tryz.func121, rfl, by kernel_rfl⟩
theorem ex139 : ExtIs Tryz.prog 139 add64S := ⟨_, Tryz.func139, rfl, by kernel_rfl, by kernel_rfl, by kernel_rfl⟩
theorem fn93 : FnIs Tryz.prog 93 := ⟨_, Tryz.func93, rfl, by kernel_rfl⟩
theorem fn133 : FnIs Tryz.prog 133 := ⟨_, Tryz.func133, rfl, by kernel_rfl⟩
theorem fi71_0 : FieldIs Tryz.prog 71 0 0 4 1 := ⟨_, _, Tryz.t4, Tryz.underlying71, rfl, rfl, rfl, rfl, rfl⟩
theorem sc4 : Sc Tryz.prog 4 := ⟨_, Tryz.t4, Tryz.underlying4, rfl, rfl, trivial⟩
theorem fn82 : FnIs Tryz.prog 82 := ⟨_, Tryz.func82, rfl, by kernel_rfl⟩
theorem li130 : LitIs Tryz.prog 130 23 2 [.int .i64 0, .int .i64 0] := ⟨Tryz.underlying130, ⟨Tryz.t23, _, rfl, rfl, rfl, rfl⟩, by intro v hv; simp at hv; (try rcases hv with rfl | hv) <;> first | rfl | (subst hv; rfl) | simp_all [Value.oneCell']⟩
theorem sl130 : SlIs Tryz.prog 130 23 2 := ⟨Tryz.underlying130, sz23⟩
theorem fn83 : FnIs Tryz.prog 83 := ⟨_, Tryz.func83, rfl, by kernel_rfl⟩
theorem eg23 : Tryz.prog.eqGuardType Tryz.prog.depth 23 = false := by kernel_rfl
theorem eq23 {a0 : Int} {a1 : Int} {b0 : Int} {b1 : Int} : EqV Tryz.prog 9 23 (.agg [.int .i64 a0, .int .i64 a1].toArray) (.agg [.int .i64 b0, .int .i64 b1].toArray) ((decide (a0 = b0)) && ((decide (a1 = b1)) && true)) := (EqV.struct Tryz.underlying23 (by kernel_rfl) (EqF.sc (by rfl) sc2 rfl rfl (EqV.int Tryz.underlying2) (EqF.sc (by rfl) sc3 rfl rfl (EqV.int Tryz.underlying3) EqF.nil)))
theorem fn45 : FnIs Tryz.prog 45 := ⟨_, Tryz.func45, rfl, by kernel_rfl⟩
theorem fn12 : FnIs Tryz.prog 12 := ⟨_, Tryz.func12, rfl, by kernel_rfl⟩
theorem fn17 : FnIs Tryz.prog 17 := ⟨_, Tryz.func17, rfl, by kernel_rfl⟩
theorem ze78 : ZeroIs Tryz.prog 78 [.bool false, .slice none 0 0] := ⟨⟨Tryz.t78, _, rfl, rfl, rfl⟩, by intro v hv; simp only [List.mem_cons, List.not_mem_nil, or_false] at hv; (try rcases hv with rfl | rfl) <;> (subst_vars; rfl)⟩
theorem li76 : LitIs Tryz.prog 76 3 1 [.int .i64 0] := ⟨Tryz.underlying76, ⟨Tryz.t3, _, rfl, rfl, rfl, rfl⟩, by intro v hv; simp at hv; (try rcases hv with rfl | hv) <;> first | rfl | (subst hv; rfl) | simp_all [Value.oneCell']⟩
theorem ap76 : ApIs Tryz.prog 76 3 1 8 := ⟨Tryz.underlying76, ⟨Tryz.t3, _, rfl, rfl, rfl, rfl, rfl⟩, by decide, by decide⟩
theorem sl76 : SlIs Tryz.prog 76 3 1 := ⟨Tryz.underlying76, sz3⟩
theorem bu78 : BuildIs Tryz.prog 78 (placeOf [(0, 1), (1, 1)]) [.bool false, .slice none 0 0] := BuildIs.struct (it := Tryz.t78) rfl Tryz.underlying78 rfl rfl rfl (by intro v hv; simp only [List.mem_cons, List.not_mem_nil, or_false] at hv; (try rcases hv with rfl | rfl) <;> (subst_vars; rfl))
theorem sz78 : SzIs Tryz.prog 78 2 := ⟨Tryz.t78, rfl, rfl⟩
theorem ag78 : Ag Tryz.prog 78 2 := ⟨_, Tryz.t78, Tryz.underlying78, rfl, rfl, trivial⟩
theorem fn85 : FnIs Tryz.prog 85 := ⟨_, Tryz.func85, rfl, by kernel_rfl⟩
theorem bu81 : BuildIs Tryz.prog 81 (placeOf [(0, 2), (2, 1)]) [.bool false, .slice none 0 0, .int .i64 0] := BuildIs.struct (it := Tryz.t81) rfl Tryz.underlying81 rfl rfl rfl (by intro v hv; simp only [List.mem_cons, List.not_mem_nil, or_false] at hv; (try rcases hv with rfl | rfl | rfl) <;> (subst_vars; rfl))
theorem fi81_0 : FieldIs Tryz.prog 81 0 0 78 2 := ⟨_, _, Tryz.t78, Tryz.underlying81, rfl, rfl, rfl, rfl, rfl⟩
theorem fi81_1 : FieldIs Tryz.prog 81 1 2 3 1 := ⟨_, _, Tryz.t3, Tryz.underlying81, rfl, rfl, rfl, rfl, rfl⟩
theorem fi78_1 : FieldIs Tryz.prog 78 1 1 76 1 := ⟨_, _, Tryz.t76, Tryz.underlying78, rfl, rfl, rfl, rfl, rfl⟩
theorem sc76 : Sc Tryz.prog 76 := ⟨_, Tryz.t76, Tryz.underlying76, rfl, rfl, trivial⟩
theorem fi78_0 : FieldIs Tryz.prog 78 0 0 4 1 := ⟨_, _, Tryz.t4, Tryz.underlying78, rfl, rfl, rfl, rfl, rfl⟩
theorem fn97 : FnIs Tryz.prog 97 := ⟨_, Tryz.func97, rfl, by kernel_rfl⟩
theorem by3 : ∃ i, Tryz.prog.info? 3 = some i ∧ i.bytes = 8 := ⟨Tryz.t3, rfl, rfl⟩
theorem fn118 : FnIs Tryz.prog 118 := ⟨_, Tryz.func118, rfl, by kernel_rfl⟩
theorem sz4 : SzIs Tryz.prog 4 1 := ⟨Tryz.t4, rfl, rfl⟩
theorem fn130 : FnIs Tryz.prog 130 := ⟨_, Tryz.func130, rfl, by kernel_rfl⟩
theorem fn152 : FnIs Tryz.prog 152 := ⟨_, Tryz.func152, rfl, by kernel_rfl⟩
theorem fn134 : FnIs Tryz.prog 134 := ⟨_, Tryz.func134, rfl, by kernel_rfl⟩
theorem fn84 : FnIs Tryz.prog 84 := ⟨_, Tryz.func84, rfl, by kernel_rfl⟩
theorem fn46 : FnIs Tryz.prog 46 := ⟨_, Tryz.func46, rfl, by kernel_rfl⟩
theorem fn13 : FnIs Tryz.prog 13 := ⟨_, Tryz.func13, rfl, by kernel_rfl⟩
theorem eg29 : Tryz.prog.eqGuardType Tryz.prog.depth 29 = false := by kernel_rfl
theorem eq29 {a0 : Int} {a1 : Int} {a2 : Int} {a3 : ByteArray} {a4 : Bool} {a5 : Int} {b0 : Int} {b1 : Int} {b2 : Int} {b3 : ByteArray} {b4 : Bool} {b5 : Int} : EqV Tryz.prog 9 29 (.agg [.int .i64 a0, .int .i64 a1, .int .i64 a2, .string a3, .bool a4, .int .i64 a5].toArray) (.agg [.int .i64 b0, .int .i64 b1, .int .i64 b2, .string b3, .bool b4, .int .i64 b5].toArray) ((decide (a0 = b0)) && (((decide (a1 = b1)) && ((decide (a2 = b2)) && true)) && ((ByteArray.toList a3 == ByteArray.toList b3) && ((a4 == b4) && ((decide (a5 = b5)) && true))))) := (EqV.struct Tryz.underlying29 (by kernel_rfl) (EqF.sc (by rfl) sc3 rfl rfl (EqV.int Tryz.underlying3) (EqF.ag (us := [.int .i64 a1, .int .i64 a2]) (vs := [.int .i64 b1, .int .i64 b2]) (by rfl) ag23 rfl rfl (EqV.struct Tryz.underlying23 (by kernel_rfl) (EqF.sc (by rfl) sc2 rfl rfl (EqV.int Tryz.underlying2) (EqF.sc (by rfl) sc3 rfl rfl (EqV.int Tryz.underlying3) EqF.nil))) (EqF.sc (by rfl) sc9 rfl rfl (EqV.str Tryz.underlying9) (EqF.sc (by rfl) sc4 rfl rfl (EqV.bool Tryz.underlying4) (EqF.sc (by rfl) sc3 rfl rfl (EqV.int Tryz.underlying3) EqF.nil))))))
theorem fn135 : FnIs Tryz.prog 135 := ⟨_, Tryz.func135, rfl, by kernel_rfl⟩
theorem sz5 : SzIs Tryz.prog 5 1 := ⟨Tryz.t5, rfl, rfl⟩
theorem ar133 : ArIs Tryz.prog 133 5 256 1 := ⟨Tryz.underlying133, sz5⟩
theorem tb0 (m : Ro) : (Rd.array 256 (Rd.int .u8) (0 : Int)).ok m tab0 (tab0.map (Value.int .u8)) := array_rows (rows_ints _) rfl rfl
theorem sc5 : Sc Tryz.prog 5 := ⟨_, Tryz.t5, Tryz.underlying5, rfl, rfl, trivial⟩
theorem sz135 : SzIs Tryz.prog 135 2 := ⟨Tryz.t135, rfl, rfl⟩
theorem ar136 : ArIs Tryz.prog 136 135 16 2 := ⟨Tryz.underlying136, sz135⟩
theorem tb1 (m : Ro) : (Rd.array 16 rdS_unicode_utf8_acceptRange (default : S_unicode_utf8_acceptRange)).ok m tabA vs1 := array_rows (rowsA) rfl rfl
theorem ag135 : Ag Tryz.prog 135 2 := ⟨_, Tryz.t135, Tryz.underlying135, rfl, rfl, trivial⟩
theorem ze135 : ZeroIs Tryz.prog 135 [.int .u8 0, .int .u8 0] := ⟨⟨Tryz.t135, _, rfl, rfl, rfl⟩, by intro v hv; simp only [List.mem_cons, List.not_mem_nil, or_false] at hv; (try rcases hv with rfl | rfl) <;> (subst_vars; rfl)⟩
theorem fi135_0 : FieldIs Tryz.prog 135 0 0 5 1 := ⟨_, _, Tryz.t5, Tryz.underlying135, rfl, rfl, rfl, rfl, rfl⟩
theorem fi135_1 : FieldIs Tryz.prog 135 1 1 5 1 := ⟨_, _, Tryz.t5, Tryz.underlying135, rfl, rfl, rfl, rfl, rfl⟩
theorem fn86 : FnIs Tryz.prog 86 := ⟨_, Tryz.func86, rfl, by kernel_rfl⟩
theorem fn47 : FnIs Tryz.prog 47 := ⟨_, Tryz.func47, rfl, by kernel_rfl⟩
theorem fn14 : FnIs Tryz.prog 14 := ⟨_, Tryz.func14, rfl, by kernel_rfl⟩
theorem fn159 : FnIs Tryz.prog 159 := ⟨_, Tryz.func159, rfl, by kernel_rfl⟩
theorem li104 : LitIs Tryz.prog 104 5 1 [.int .u8 0] := ⟨Tryz.underlying104, ⟨Tryz.t5, _, rfl, rfl, rfl, rfl⟩, by intro v hv; simp at hv; (try rcases hv with rfl | hv) <;> first | rfl | (subst hv; rfl) | simp_all [Value.oneCell']⟩
theorem fn160 : FnIs Tryz.prog 160 := ⟨_, Tryz.func160, rfl, by kernel_rfl⟩
theorem fn136 : FnIs Tryz.prog 136 := ⟨_, Tryz.func136, rfl, by kernel_rfl⟩
theorem fn87 : FnIs Tryz.prog 87 := ⟨_, Tryz.func87, rfl, by kernel_rfl⟩
theorem fn48 : FnIs Tryz.prog 48 := ⟨_, Tryz.func48, rfl, by kernel_rfl⟩
theorem fn15 : FnIs Tryz.prog 15 := ⟨_, Tryz.func15, rfl, by kernel_rfl⟩
theorem bu84 : BuildIs Tryz.prog 84 (placeOf [(0, 1)]) [.string (ByteArray.mk #[])] := BuildIs.struct (it := Tryz.t84) rfl Tryz.underlying84 rfl rfl rfl (by intro v hv; simp only [List.mem_cons, List.not_mem_nil, or_false] at hv; (try rcases hv with rfl) <;> (subst_vars; rfl))
theorem fi84_0 : FieldIs Tryz.prog 84 0 0 9 1 := ⟨_, _, Tryz.t9, Tryz.underlying84, rfl, rfl, rfl, rfl, rfl⟩
theorem fn140 : FnIs Tryz.prog 140 := ⟨_, Tryz.func140, rfl, by kernel_rfl⟩
theorem fn161 : FnIs Tryz.prog 161 := ⟨_, Tryz.func161, rfl, by kernel_rfl⟩
theorem fn137 : FnIs Tryz.prog 137 := ⟨_, Tryz.func137, rfl, by kernel_rfl⟩
theorem fn88 : FnIs Tryz.prog 88 := ⟨_, Tryz.func88, rfl, by kernel_rfl⟩
theorem fn89 : FnIs Tryz.prog 89 := ⟨_, Tryz.func89, rfl, by kernel_rfl⟩
theorem ze3 : ZeroIs Tryz.prog 3 [.int .i64 0] := ⟨⟨Tryz.t3, _, rfl, rfl, rfl⟩, by intro v hv; simp only [List.mem_cons, List.not_mem_nil, or_false] at hv; (try rcases hv with rfl) <;> (subst_vars; rfl)⟩
theorem fn90 : FnIs Tryz.prog 90 := ⟨_, Tryz.func90, rfl, by kernel_rfl⟩
theorem fn122 : FnIs Tryz.prog 122 := ⟨_, Tryz.func122, rfl, by kernel_rfl⟩
theorem fn91 : FnIs Tryz.prog 91 := ⟨_, Tryz.func91, rfl, by kernel_rfl⟩
theorem fn123 : FnIs Tryz.prog 123 := ⟨_, Tryz.func123, rfl, by kernel_rfl⟩
theorem fn92 : FnIs Tryz.prog 92 := ⟨_, Tryz.func92, rfl, by kernel_rfl⟩
theorem fn94 : FnIs Tryz.prog 94 := ⟨_, Tryz.func94, rfl, by kernel_rfl⟩
theorem fn49 : FnIs Tryz.prog 49 := ⟨_, Tryz.func49, rfl, by kernel_rfl⟩
theorem fn21 : FnIs Tryz.prog 21 := ⟨_, Tryz.func21, rfl, by kernel_rfl⟩
theorem fn95 : FnIs Tryz.prog 95 := ⟨_, Tryz.func95, rfl, by kernel_rfl⟩
theorem fn50 : FnIs Tryz.prog 50 := ⟨_, Tryz.func50, rfl, by kernel_rfl⟩
theorem fn19 : FnIs Tryz.prog 19 := ⟨_, Tryz.func19, rfl, by kernel_rfl⟩
theorem fn22 : FnIs Tryz.prog 22 := ⟨_, Tryz.func22, rfl, by kernel_rfl⟩
theorem ze81 : ZeroIs Tryz.prog 81 [.bool false, .slice none 0 0, .int .i64 0] := ⟨⟨Tryz.t81, _, rfl, rfl, rfl⟩, by intro v hv; simp only [List.mem_cons, List.not_mem_nil, or_false] at hv; (try rcases hv with rfl | rfl | rfl) <;> (subst_vars; rfl)⟩
theorem sz81 : SzIs Tryz.prog 81 3 := ⟨Tryz.t81, rfl, rfl⟩
theorem fn96 : FnIs Tryz.prog 96 := ⟨_, Tryz.func96, rfl, by kernel_rfl⟩
theorem sz76 : SzIs Tryz.prog 76 1 := ⟨Tryz.t76, rfl, rfl⟩
theorem ag81 : Ag Tryz.prog 81 3 := ⟨_, Tryz.t81, Tryz.underlying81, rfl, rfl, trivial⟩
theorem fn51 : FnIs Tryz.prog 51 := ⟨_, Tryz.func51, rfl, by kernel_rfl⟩
theorem fi29_0 : FieldIs Tryz.prog 29 0 0 3 1 := ⟨_, _, Tryz.t3, Tryz.underlying29, rfl, rfl, rfl, rfl, rfl⟩
theorem fi29_3 : FieldIs Tryz.prog 29 3 4 4 1 := ⟨_, _, Tryz.t4, Tryz.underlying29, rfl, rfl, rfl, rfl, rfl⟩
theorem fi29_1 : FieldIs Tryz.prog 29 1 1 23 2 := ⟨_, _, Tryz.t23, Tryz.underlying29, rfl, rfl, rfl, rfl, rfl⟩
theorem fi29_2 : FieldIs Tryz.prog 29 2 3 9 1 := ⟨_, _, Tryz.t9, Tryz.underlying29, rfl, rfl, rfl, rfl, rfl⟩
theorem fi29_4 : FieldIs Tryz.prog 29 4 5 3 1 := ⟨_, _, Tryz.t3, Tryz.underlying29, rfl, rfl, rfl, rfl, rfl⟩
theorem fn25 : FnIs Tryz.prog 25 := ⟨_, Tryz.func25, rfl, by kernel_rfl⟩
theorem fn53 : FnIs Tryz.prog 53 := ⟨_, Tryz.func53, rfl, by kernel_rfl⟩
theorem sz2 : SzIs Tryz.prog 2 1 := ⟨Tryz.t2, rfl, rfl⟩
theorem fn76 : FnIs Tryz.prog 76 := ⟨_, Tryz.func76, rfl, by kernel_rfl⟩
theorem fn36 : FnIs Tryz.prog 36 := ⟨_, Tryz.func36, rfl, by kernel_rfl⟩
theorem sz96 : SzIs Tryz.prog 96 1 := ⟨Tryz.t96, rfl, rfl⟩
theorem li144 : LitIs Tryz.prog 144 96 1 [.pointer none] := ⟨Tryz.underlying144, ⟨Tryz.t96, _, rfl, rfl, rfl, rfl⟩, by intro v hv; simp at hv; (try rcases hv with rfl | hv) <;> first | rfl | (subst hv; rfl) | simp_all [Value.oneCell']⟩
theorem sl144 : SlIs Tryz.prog 144 96 1 := ⟨Tryz.underlying144, sz96⟩
theorem sc96 : Sc Tryz.prog 96 := ⟨_, Tryz.t96, Tryz.underlying96, rfl, rfl, trivial⟩
theorem fn99 : FnIs Tryz.prog 99 := ⟨_, Tryz.func99, rfl, by kernel_rfl⟩
theorem fn103 : FnIs Tryz.prog 103 := ⟨_, Tryz.func103, rfl, by kernel_rfl⟩
theorem eg69 : Tryz.prog.eqGuardType Tryz.prog.depth 69 = false := by kernel_rfl
theorem eq69 {a0 : Int} {a1 : Int} {b0 : Int} {b1 : Int} : EqV Tryz.prog 9 69 (.agg [.int .u64 a0, .int .u64 a1].toArray) (.agg [.int .u64 b0, .int .u64 b1].toArray) ((decide (a0 = b0)) && ((decide (a1 = b1)) && true)) := (EqV.struct Tryz.underlying69 (by kernel_rfl) (EqF.sc (by rfl) sc67 rfl rfl (EqV.int Tryz.underlying67) (EqF.sc (by rfl) sc67 rfl rfl (EqV.int Tryz.underlying67) EqF.nil)))
theorem fn104 : FnIs Tryz.prog 104 := ⟨_, Tryz.func104, rfl, by kernel_rfl⟩
theorem ex165 : ExtIs Tryz.prog 165 sub64S := ⟨_, Tryz.func165, rfl, by kernel_rfl, by kernel_rfl, by kernel_rfl⟩
theorem fn147 : FnIs Tryz.prog 147 := ⟨_, Tryz.func147, rfl, by kernel_rfl⟩
theorem fn108 : FnIs Tryz.prog 108 := ⟨_, Tryz.func108, rfl, by kernel_rfl⟩
theorem fn148 : FnIs Tryz.prog 148 := ⟨_, Tryz.func148, rfl, by kernel_rfl⟩
theorem fn109 : FnIs Tryz.prog 109 := ⟨_, Tryz.func109, rfl, by kernel_rfl⟩
theorem fn75 : FnIs Tryz.prog 75 := ⟨_, Tryz.func75, rfl, by kernel_rfl⟩
theorem fn149 : FnIs Tryz.prog 149 := ⟨_, Tryz.func149, rfl, by kernel_rfl⟩
theorem fn110 : FnIs Tryz.prog 110 := ⟨_, Tryz.func110, rfl, by kernel_rfl⟩
theorem fn150 : FnIs Tryz.prog 150 := ⟨_, Tryz.func150, rfl, by kernel_rfl⟩
theorem fn111 : FnIs Tryz.prog 111 := ⟨_, Tryz.func111, rfl, by kernel_rfl⟩
theorem fn62 : FnIs Tryz.prog 62 := ⟨_, Tryz.func62, rfl, by kernel_rfl⟩
theorem cn9 : Conc Tryz.prog 9 := ⟨_, Tryz.underlying9, trivial⟩
theorem fn141 : FnIs Tryz.prog 141 := ⟨_, Tryz.func141, rfl, by kernel_rfl⟩
theorem fn142 : FnIs Tryz.prog 142 := ⟨_, Tryz.func142, rfl, by kernel_rfl⟩
theorem ze149 : ZeroIs Tryz.prog 149 [.pointer none, .slice none 0 0] := ⟨⟨Tryz.t149, _, rfl, rfl, rfl⟩, by intro v hv; simp only [List.mem_cons, List.not_mem_nil, or_false] at hv; (try rcases hv with rfl | rfl) <;> (subst_vars; rfl)⟩
theorem fn107 : FnIs Tryz.prog 107 := ⟨_, Tryz.func107, rfl, by kernel_rfl⟩
theorem fn61 : FnIs Tryz.prog 61 := ⟨_, Tryz.func61, rfl, by kernel_rfl⟩
theorem fn27 : FnIs Tryz.prog 27 := ⟨_, Tryz.func27, rfl, by kernel_rfl⟩
theorem fn54 : FnIs Tryz.prog 54 := ⟨_, Tryz.func54, rfl, by kernel_rfl⟩
theorem fn98 : FnIs Tryz.prog 98 := ⟨_, Tryz.func98, rfl, by kernel_rfl⟩
theorem fn56 : FnIs Tryz.prog 56 := ⟨_, Tryz.func56, rfl, by kernel_rfl⟩
theorem fn100 : FnIs Tryz.prog 100 := ⟨_, Tryz.func100, rfl, by kernel_rfl⟩
theorem fn101 : FnIs Tryz.prog 101 := ⟨_, Tryz.func101, rfl, by kernel_rfl⟩
theorem fn57 : FnIs Tryz.prog 57 := ⟨_, Tryz.func57, rfl, by kernel_rfl⟩
theorem sl104 : SlIs Tryz.prog 104 5 1 := ⟨Tryz.underlying104, sz5⟩
theorem fn106 : FnIs Tryz.prog 106 := ⟨_, Tryz.func106, rfl, by kernel_rfl⟩
theorem fn59 : FnIs Tryz.prog 59 := ⟨_, Tryz.func59, rfl, by kernel_rfl⟩
theorem fn105 : FnIs Tryz.prog 105 := ⟨_, Tryz.func105, rfl, by kernel_rfl⟩
theorem fn58 : FnIs Tryz.prog 58 := ⟨_, Tryz.func58, rfl, by kernel_rfl⟩
theorem fn60 : FnIs Tryz.prog 60 := ⟨_, Tryz.func60, rfl, by kernel_rfl⟩
theorem fn55 : FnIs Tryz.prog 55 := ⟨_, Tryz.func55, rfl, by kernel_rfl⟩
theorem fn26 : FnIs Tryz.prog 26 := ⟨_, Tryz.func26, rfl, by kernel_rfl⟩
theorem fn28 : FnIs Tryz.prog 28 := ⟨_, Tryz.func28, rfl, by kernel_rfl⟩
theorem fn52 : FnIs Tryz.prog 52 := ⟨_, Tryz.func52, rfl, by kernel_rfl⟩
theorem fn23 : FnIs Tryz.prog 23 := ⟨_, Tryz.func23, rfl, by kernel_rfl⟩
theorem fn35 : FnIs Tryz.prog 35 := ⟨_, Tryz.func35, rfl, by kernel_rfl⟩
theorem fn63 : FnIs Tryz.prog 63 := ⟨_, Tryz.func63, rfl, by kernel_rfl⟩
theorem fn37 : FnIs Tryz.prog 37 := ⟨_, Tryz.func37, rfl, by kernel_rfl⟩
theorem fn115 : FnIs Tryz.prog 115 := ⟨_, Tryz.func115, rfl, by kernel_rfl⟩
theorem ap104 : ApIs Tryz.prog 104 5 1 1 := ⟨Tryz.underlying104, ⟨Tryz.t5, _, rfl, rfl, rfl, rfl, rfl⟩, by decide, by decide⟩
theorem fn120 : FnIs Tryz.prog 120 := ⟨_, Tryz.func120, rfl, by kernel_rfl⟩
theorem fn77 : FnIs Tryz.prog 77 := ⟨_, Tryz.func77, rfl, by kernel_rfl⟩
theorem fn129 : FnIs Tryz.prog 129 := ⟨_, Tryz.func129, rfl, by kernel_rfl⟩
theorem fn78 : FnIs Tryz.prog 78 := ⟨_, Tryz.func78, rfl, by kernel_rfl⟩
theorem fn39 : FnIs Tryz.prog 39 := ⟨_, Tryz.func39, rfl, by kernel_rfl⟩
theorem fn38 : FnIs Tryz.prog 38 := ⟨_, Tryz.func38, rfl, by kernel_rfl⟩
theorem fn79 : FnIs Tryz.prog 79 := ⟨_, Tryz.func79, rfl, by kernel_rfl⟩
theorem fn40 : FnIs Tryz.prog 40 := ⟨_, Tryz.func40, rfl, by kernel_rfl⟩
theorem fn80 : FnIs Tryz.prog 80 := ⟨_, Tryz.func80, rfl, by kernel_rfl⟩
theorem fn41 : FnIs Tryz.prog 41 := ⟨_, Tryz.func41, rfl, by kernel_rfl⟩
theorem fn42 : FnIs Tryz.prog 42 := ⟨_, Tryz.func42, rfl, by kernel_rfl⟩
set_option maxHeartbeats 4000000
theorem xfi {p : Prop} (h : p := by first | with_reducible exact fi23_0 | with_reducible exact fi23_1 | with_reducible exact fi71_1 | with_reducible exact fi69_0 | with_reducible exact fi69_1 | with_reducible exact fi71_2 | with_reducible exact fi71_0 | with_reducible exact fi81_0 | with_reducible exact fi81_1 | with_reducible exact fi78_1 | with_reducible exact fi78_0 | with_reducible exact fi135_0 | with_reducible exact fi135_1 | with_reducible exact fi84_0 | with_reducible exact fi29_0 | with_reducible exact fi29_3 | with_reducible exact fi29_1 | with_reducible exact fi29_2 | with_reducible exact fi29_4) : p := h
theorem xag {p : Prop} (h : p := by first | with_reducible exact ag23 | with_reducible exact ag29 | with_reducible exact ag71 | with_reducible exact ag69 | with_reducible exact ag78 | with_reducible exact ag135 | with_reducible exact ag81 | exact ag23 | exact ag29 | exact ag71 | exact ag69 | exact ag78 | exact ag135 | exact ag81) : p := h
theorem xsc {p : Prop} (h : p := by first | with_reducible exact sc9 | with_reducible exact sc2 | with_reducible exact sc3 | with_reducible exact sc67 | with_reducible exact sc4 | with_reducible exact sc76 | with_reducible exact sc5 | with_reducible exact sc96) : p := h
theorem xbu {p : Prop} (h : p := by first | with_reducible exact bu29 | with_reducible exact bu69 | with_reducible exact bu71 | with_reducible exact bu23 | with_reducible exact bu78 | with_reducible exact bu81 | with_reducible exact bu84 | exact bu29 | exact bu69 | exact bu71 | exact bu23 | exact bu78 | exact bu81 | exact bu84) : p := h
theorem xsz {p : Prop} (h : p := by first | with_reducible exact sz9 | with_reducible exact sz29 | with_reducible exact sz71 | with_reducible exact sz23 | with_reducible exact sz69 | with_reducible exact sz3 | with_reducible exact sz78 | with_reducible exact sz4 | with_reducible exact sz5 | with_reducible exact sz135 | with_reducible exact sz81 | with_reducible exact sz76 | with_reducible exact sz2 | with_reducible exact sz96 | exact sz9 | exact sz29 | exact sz71 | exact sz23 | exact sz69 | exact sz3 | exact sz78 | exact sz4 | exact sz5 | exact sz135 | exact sz81 | exact sz76 | exact sz2 | exact sz96) : p := h
theorem xze {p : Prop} (h : p := by first | with_reducible exact ze29 | with_reducible exact ze71 | with_reducible exact ze23 | with_reducible exact ze69 | with_reducible exact ze78 | with_reducible exact ze135 | with_reducible exact ze3 | with_reducible exact ze81 | with_reducible exact ze149) : p := h
theorem xsl {p : Prop} (h : p := by first | with_reducible exact sl26 | with_reducible exact sl130 | with_reducible exact sl76 | with_reducible exact sl144 | with_reducible exact sl104 | exact sl26 | exact sl130 | exact sl76 | exact sl144 | exact sl104) : p := h
theorem xfn {p : Prop} (h : p := by first | with_reducible exact fn44 | with_reducible exact fn43 | with_reducible exact fn9 | with_reducible exact fn11 | with_reducible exact fn18 | with_reducible exact fn16 | with_reducible exact fn102 | with_reducible exact fn81 | with_reducible exact fn131 | with_reducible exact fn176 | with_reducible exact fn169 | with_reducible exact fn158 | with_reducible exact fn132 | with_reducible exact fn121 | with_reducible exact fn93 | with_reducible exact fn133 | with_reducible exact fn82 | with_reducible exact fn83 | with_reducible exact fn45 | with_reducible exact fn12 | with_reducible exact fn17 | with_reducible exact fn85 | with_reducible exact fn97 | with_reducible exact fn118 | with_reducible exact fn130 | with_reducible exact fn152 | with_reducible exact fn134 | with_reducible exact fn84 | with_reducible exact fn46 | with_reducible exact fn13 | with_reducible exact fn135 | with_reducible exact fn86 | with_reducible exact fn47 | with_reducible exact fn14 | with_reducible exact fn159 | with_reducible exact fn160 | with_reducible exact fn136 | with_reducible exact fn87 | with_reducible exact fn48 | with_reducible exact fn15 | with_reducible exact fn140 | with_reducible exact fn161 | with_reducible exact fn137 | with_reducible exact fn88 | with_reducible exact fn89 | with_reducible exact fn90 | with_reducible exact fn122 | with_reducible exact fn91 | with_reducible exact fn123 | with_reducible exact fn92 | with_reducible exact fn94 | with_reducible exact fn49 | with_reducible exact fn21 | with_reducible exact fn95 | with_reducible exact fn50 | with_reducible exact fn19 | with_reducible exact fn22 | with_reducible exact fn96 | with_reducible exact fn51 | with_reducible exact fn25 | with_reducible exact fn53 | with_reducible exact fn76 | with_reducible exact fn36 | with_reducible exact fn99 | with_reducible exact fn103 | with_reducible exact fn104 | with_reducible exact fn147 | with_reducible exact fn108 | with_reducible exact fn148 | with_reducible exact fn109 | with_reducible exact fn75 | with_reducible exact fn149 | with_reducible exact fn110 | with_reducible exact fn150 | with_reducible exact fn111 | with_reducible exact fn62 | with_reducible exact fn141 | with_reducible exact fn142 | with_reducible exact fn107 | with_reducible exact fn61 | with_reducible exact fn27 | with_reducible exact fn54 | with_reducible exact fn98 | with_reducible exact fn56 | with_reducible exact fn100 | with_reducible exact fn101 | with_reducible exact fn57 | with_reducible exact fn106 | with_reducible exact fn59 | with_reducible exact fn105 | with_reducible exact fn58 | with_reducible exact fn60 | with_reducible exact fn55 | with_reducible exact fn26 | with_reducible exact fn28 | with_reducible exact fn52 | with_reducible exact fn23 | with_reducible exact fn35 | with_reducible exact fn63 | with_reducible exact fn37 | with_reducible exact fn115 | with_reducible exact fn120 | with_reducible exact fn77 | with_reducible exact fn129 | with_reducible exact fn78 | with_reducible exact fn39 | with_reducible exact fn38 | with_reducible exact fn79 | with_reducible exact fn40 | with_reducible exact fn80 | with_reducible exact fn41 | with_reducible exact fn42) : p := h
theorem xud {p : Prop} (h : p := by first | with_reducible exact Tryz.underlying2 | with_reducible exact Tryz.underlying3 | with_reducible exact Tryz.underlying4 | with_reducible exact Tryz.underlying5 | with_reducible exact Tryz.underlying9 | with_reducible exact Tryz.underlying67 | with_reducible exact Tryz.underlying104 | with_reducible exact Tryz.underlying137) : p := h
theorem gv {a : AVal} {b : Bool} (h : a = .lit (.bool b) := by first | rfl | exact lb (by assumption) | exact lb (notT (by assumption)) | exact lb (notF (by assumption))) : a = .lit (.bool b) := h
theorem aq {op : Op} {ty : TypeId} {E : Env} {M : Mem} {st : List Nat} {v : AVal} (h : Quiet Tryz.prog op ty E M st v := by first | ((with_reducible change Quiet _ (.move _) _ _ _ _ _); first | exact q_mv (v := .lit _) rfl | exact q_mv (v := .tup _) rfl | exact q_mv (v := .ptr _ _) rfl | exact q_mv (v := .whole _) rfl | exact q_mv (v := .ro _ _ _) rfl | exact q_mv (v := .fn _ _) rfl | exact q_mv (v := .sl _ _ _ _) rfl | exact q_mv (v := .agg _) rfl | exact q_mv (v := .ifc _ _) rfl) | ((with_reducible change Quiet _ (.assign _) _ _ _ _ _); first | exact q_as (v := .lit _) rfl | exact q_as (v := .tup _) rfl | exact q_as (v := .ptr _ _) rfl | exact q_as (v := .whole _) rfl | exact q_as (v := .ro _ _ _) rfl | exact q_as (v := .fn _ _) rfl | exact q_as (v := .sl _ _ _ _) rfl | exact q_as (v := .agg _) rfl | exact q_as (v := .ifc _ _) rfl) | ((with_reducible change Quiet _ (.fieldAddr _ _ _) _ _ _ _ _); first | exact q_fieldAddr xfi rfl rfl) | ((with_reducible change Quiet _ (.load _ _) _ _ _ _ _); first | exact q_load xsc rfl rfl rfl | exact q_load_ag xag rfl rfl (Nat.le_of_ble_eq_true rfl) | exact q_load_sc xsc rfl) | ((with_reducible change Quiet _ (.extract _ _) _ _ _ _ _); first | exact q_extract rfl rfl) | ((with_reducible change Quiet _ (.pick _ _ _) _ _ _ _ _); first | exact q_pickT (v := .lit _) gv rfl | exact q_pickF (v := .lit _) gv rfl) | ((with_reducible change Quiet _ (.binOp .add _ _ _ _) _ _ _ _ _); first | exact q_add rfl rfl | exact q_concat rfl rfl (by assumption)) | ((with_reducible change Quiet _ (.binOp .sub _ _ _ _) _ _ _ _ _); first | exact q_sub rfl rfl) | ((with_reducible change Quiet _ (.binOp .mul _ _ _ _) _ _ _ _ _); first | exact q_mul rfl rfl) | ((with_reducible change Quiet _ (.binOp .lss _ _ _ _) _ _ _ _ _); first | exact q_lss rfl rfl | exact q_lsss rfl rfl) | ((with_reducible change Quiet _ (.binOp .gtr _ _ _ _) _ _ _ _ _); first | exact q_gtr rfl rfl | exact q_gtrs rfl rfl) | ((with_reducible change Quiet _ (.binOp .leq _ _ _ _) _ _ _ _ _); first | exact q_leq rfl rfl) | ((with_reducible change Quiet _ (.binOp .geq _ _ _ _) _ _ _ _ _); first | exact q_geq rfl rfl) | ((with_reducible change Quiet _ (.binOp .eql _ _ _ _) _ _ _ _ _); first | exact q_eql rfl rfl | exact q_eqls rfl rfl) | ((with_reducible change Quiet _ (.binOp .neq _ _ _ _) _ _ _ _ _); first | exact q_neq rfl rfl | exact q_neqs rfl rfl) | ((with_reducible change Quiet _ (.binOp .or _ _ _ _) _ _ _ _ _); first | exact q_or rfl rfl) | ((with_reducible change Quiet _ (.binOp .and _ _ _ _) _ _ _ _ _); first | exact q_and rfl rfl) | ((with_reducible change Quiet _ (.call _) _ _ _ _ _); first | exact q_min rfl rfl | exact q_max rfl rfl | exact q_len_str xud rfl | exact q_len_ro xsl rfl | exact q_len_row xsl rfl rfl) | ((with_reducible change Quiet _ (.build _ _) _ _ _ _ _); first | exact q_build xbu rfl) | ((with_reducible change Quiet _ (.unOp .not _ _) _ _ _ _ _); first | exact q_not rfl) | ((with_reducible change Quiet _ (.unOp .neg _ _) _ _ _ _ _); first | exact q_neg rfl) | ((with_reducible change Quiet _ (.index _ _ _) _ _ _ _ _); first | exact q_index_str xud rfl rfl (by assumption)) | ((with_reducible change Quiet _ (.convert _ _ _) _ _ _ _ _); first | exact q_conv xud xud rfl) | ((with_reducible change Quiet _ (.nilCheck _) _ _ _ _ _); first | exact q_nilCheck rfl) | ((with_reducible change Quiet _ (.indexAddr _ _ _) _ _ _ _ _); first | exact q_index_ro xsl rfl rfl rfl (by assumption)) | ((with_reducible change Quiet _ (.binOp .shr _ _ _ _) _ _ _ _ _); first | exact q_shr rfl rfl rfl) | ((with_reducible change Quiet _ (.binOp .shl _ _ _ _) _ _ _ _ _); first | exact q_shl rfl rfl rfl) | ((with_reducible change Quiet _ (.binOp .quo _ _ _ _) _ _ _ _ _); first | exact q_quo rfl rfl rfl | exact q_quo rfl rfl (bnot (by assumption))) | ((with_reducible change Quiet _ (.binOp .rem _ _ _ _) _ _ _ _ _); first | exact q_rem rfl rfl rfl | exact q_rem rfl rfl (bnot (by assumption)))) : Quiet Tryz.prog op ty E M st v := h
theorem lm {l : List Nat} {p : Nat} {M M' : Mem} (h : LeM l p M M' := by exact ⟨rfl, by (repeat' first | exact trivial | exact o3 | refine ⟨?_, ?_⟩), by decide, rfl, by (repeat' first | exact trivial | exact rfl | refine ⟨?_, ?_⟩)⟩) : LeM l p M M' := h
theorem le {l : List Nat} {n : Nat} {E E' : Env} (h : LeE l n E E' := by repeat' first | refine LeE.u ?_ | exact LeE.none rfl rfl) : LeE l n E E' := h
section
variable {cx : Cx} {fr : Fr} {Q : Ex → Env → Mem → Prop} {x : Ex} {E E' : Env} {M M' : Mem} {np : Nat}
theorem wq (l : List Nat) (hq : Q x E' M' := by exact r3) (hnp : cx.np = np := by assumption) (hM : LeM l np M M' := by exact lm) (hE : LeE l M'.n E E' := by exact le) (hx : x.plain = true := by rfl) : W cx fr Q x E M := Go.Q.W.wk l hnp hq hM hE hx
theorem mb {az : List (Nat × Nat)} {rs : List ResultVar} {Q : Out → Mem → Prop} {M2 : Mem} {vs : List AVal} {v : AVal} (l : List Nat) (hm : marksOk M E.d := by exact trivial) (hvs : resAll az E (dropMarks M E.d) rs = some vs := by rfl) (hq : Q (.ret v) M2 := by exact ⟨rfl, rfl⟩)
    (hl : LeM l np (dropMarks M E.d) M2 := by exact lm) (h1 : resOut vs = v.ren (sub l) := by rfl) (h2 : (v.under M2.n && E.b.isEmpty) = true := by rfl) : BodyR az rs np Q .ret E M := BodyR.mkR hm hvs l hq hl h1 h2
theorem mo {c : Code} (x0 : Ex) (E0 : Env) (M0 : Mem) (h : WP Tryz.prog cx fr c E M (fun x E M => x = x0 ∧ E = E0 ∧ M = M0)) (k : W cx fr Q x0 E0 M0) : WP Tryz.prog cx fr c E M Q := WP.monoW h (by rintro _ _ _ ⟨rfl, rfl, rfl⟩; exact k)
theorem cd {γ : Type} {c : Operand} {X Y : Code} {t : Bool} {A B : Option γ} {r : γ} (H : (bif t then A else B) = some r) (h1 : t = true → A = some r → WP Tryz.prog cx fr X E M Q) (h2 : t = false → B = some r → WP Tryz.prog cx fr Y E M Q) (hc : E.ev c = .lit (.bool t) := by rfl) : WP Tryz.prog cx fr (.cond c X Y) E M Q := WP.cond hc (fun h => h1 h (cnt h H)) (fun h => h2 h (cnf h H))
section
variable {os : List Oper} {op : Op} {ty : TypeId} {pos : String} {after : Array Edge} {dst : Nat} {v : AVal} {tc st : List Nat} {M' : Mem} {ops : Array Oper} {X : List Nat} {fuel : Nat} {listed : Array Bool} {γ : Type} {A B : Option γ} {r : γ} {b : Bool}
theorem ws (t : Nat) (H : (bif b then A else B) = some r) (h1 : b = true → A = some r → WPL Tryz.prog cx fr ops os E M Q) (h2 : b = false → B = some r → WPL Tryz.prog cx fr ops os E M Q) (hv : E.v t = .lit (.bool b) := by rfl) : WPL Tryz.prog cx fr ops os E M Q := WPL.split hv (fun h => h1 h (cnt h H)) (fun h => h2 h (cnf h H))
theorem ds (t : Nat) (H : (bif b then A else B) = some r) (h1 : b = true → A = some r → WPD Tryz.prog cx fr ops st X fuel listed E M Q) (h2 : b = false → B = some r → WPD Tryz.prog cx fr ops st X fuel listed E M Q) (hv : E.v t = .lit (.bool b) := by rfl) : WPD Tryz.prog cx fr ops st X fuel listed E M Q := WPD.split hv (fun h => h1 h (cnt h H)) (fun h => h2 h (cnf h H))
theorem dT (i : Nat) (k : WPD Tryz.prog cx fr ops st X fuel (listed.setIfInBounds i true) (E.upd dst v) M Q) (ho : ops[i]? = some { dst := some dst, op := op, type := ty, pos := pos, after := after, guard := Option.none } := by rfl) (h : Quiet Tryz.prog op ty E M [] v := by exact aq)
    (hb : takeTB ops X listed i = true := by kernel_rfl) (ht : fr.okd dst = true := by rfl) : WPD Tryz.prog cx fr ops st X (fuel + 1) listed E M Q := WPD.takeT i ho hb h ht k
theorem dK (i : Nat) {st0 : List Nat} (k : WPD Tryz.prog cx fr ops st X fuel (listed.setIfInBounds i true) (E.upd dst v) M Q) (ho : ops[i]? = some { dst := some dst, op := op, type := ty, pos := pos, after := after, guard := Option.none } := by rfl) (h : Quiet Tryz.prog op ty E M st0 v := by exact aq)
    (hb : takeB ops X listed i = true := by kernel_rfl) (hs : (st0.all st.contains) = true := by rfl) (ht : fr.okd dst = true := by rfl) : WPD Tryz.prog cx fr ops st X (fuel + 1) listed E M Q := WPD.take i ho hb h hs ht k
theorem dG (i : Nat) {j t : Nat} {b : Bool} (k : WPD Tryz.prog cx fr ops st X fuel (listed.setIfInBounds i true) (E.upd dst v) M Q) (ho : ops[i]? = some { dst := some dst, op := op, type := ty, pos := pos, after := after, guard := some (j, b) } := by rfl) (hj : (ops[j]?).bind (·.dst) = some t := by rfl) (hv : E.v t = .lit (.bool b) := by exact gv) (h : Quiet Tryz.prog op ty E M [] v := by exact aq)
    (hb : takeTB ops X listed i = true := by kernel_rfl) (htj : Nat.blt t fr.nt = true := by rfl) (ht : fr.okd dst = true := by rfl) : WPD Tryz.prog cx fr ops st X (fuel + 1) listed E M Q := WPD.takegT i ho hb hj htj hv h ht k
theorem dH (i : Nat) {st0 : List Nat} {j t : Nat} {b : Bool} (k : WPD Tryz.prog cx fr ops st X fuel (listed.setIfInBounds i true) (E.upd dst v) M Q) (ho : ops[i]? = some { dst := some dst, op := op, type := ty, pos := pos, after := after, guard := some (j, b) } := by rfl) (hj : (ops[j]?).bind (·.dst) = some t := by rfl) (hv : E.v t = .lit (.bool b) := by exact gv) (h : Quiet Tryz.prog op ty E M st0 v := by exact aq)
    (hb : takeB ops X listed i = true := by kernel_rfl) (htj : Nat.blt t fr.nt = true := by rfl) (hs : (st0.all st.contains) = true := by rfl) (ht : fr.okd dst = true := by rfl) : WPD Tryz.prog cx fr ops st X (fuel + 1) listed E M Q := WPD.takeg i ho hb hj htj hv h hs ht k
theorem dP (b' : Bool) (i : Nat) {j t : Nat} {b : Bool} {d : Option Nat} (k : WPD Tryz.prog cx fr ops st X fuel (listed.setIfInBounds i true) (match (generalizing := false) d with | some d => E.upd d (.lit undef) | none => E) M Q) (ho : ops[i]? = some { dst := d, op := op, type := ty, pos := pos, after := after, guard := some (j, b) } := by rfl)
    (hj : (ops[j]?).bind (·.dst) = some t := by rfl) (hv : E.v t = .lit (.bool b') := by exact gv) (hb : takeTB ops X listed i = true := by kernel_rfl) (htj : Nat.blt t fr.nt = true := by rfl) (hne : (b' == b) = false := by rfl)
    (hd : (match (generalizing := false) d with | some d => fr.okd d | none => true) = true := by rfl) (hsk : SkipOkE Tryz.prog E op := by first | exact .inl trivial | exact .inl (by simp only [SkipOk]; kernel_rfl)) : WPD Tryz.prog cx fr ops st X (fuel + 1) listed E M Q := WPD.ps b' i ho hj hv k hb htj hne hd hsk
theorem dS (i : Nat) (st' X' : List Nat) (k : WPD Tryz.prog cx fr ops st' X' fuel (listed.setIfInBounds i true) E M' Q) (ho : ops[i]? = some { dst := Option.none, op := op, type := ty, pos := pos, after := after, guard := Option.none } := by rfl) (h : DoesS Tryz.prog op ty E M tc M' := by exact s_store xsz rfl rfl rfl rfl rfl)
    (hb : readyIs ops listed i = true := by kernel_rfl) (hs : (X.contains i || (X'.all X.contains && st.all fun j => st'.contains j && Nat.blt j M.n && (M.at_ j).isOwn && !(tc.contains j))) = true := by rfl) : WPD Tryz.prog cx fr ops st X (fuel + 1) listed E M Q := WPD.effS i st' X' ho hb h hs k
theorem dE (i : Nat) (st' X' : List Nat) (ho : ops[i]? = some { dst := some dst, op := op, type := ty, pos := pos, after := after, guard := Option.none }) (h : Runs Tryz.prog op ty E M tc v M') (k : WPD Tryz.prog cx fr ops st' X' fuel (listed.setIfInBounds i true) (E.upd dst v) M' Q) 
    (hb : readyIs ops listed i = true := by kernel_rfl) (hs : (X.contains i || (X'.all X.contains && st.all fun j => st'.contains j && Nat.blt j M.n && (M.at_ j).isOwn && !(tc.contains j))) = true := by rfl) (ht : Nat.blt dst fr.nt = true := by rfl) : WPD Tryz.prog cx fr ops st X (fuel + 1) listed E M Q := WPD.eff i st' X' ho hb h hs ht k
theorem dF (i : Nat) (st' X' : List Nat) {j t : Nat} {b : Bool} (ho : ops[i]? = some { dst := some dst, op := op, type := ty, pos := pos, after := after, guard := some (j, b) }) (h : Runs Tryz.prog op ty E M tc v M') (k : WPD Tryz.prog cx fr ops st' X' fuel (listed.setIfInBounds i true) (E.upd dst v) M' Q)  (hj : (ops[j]?).bind (·.dst) = some t := by rfl) (hv : E.v t = .lit (.bool b) := by exact gv)
    (hb : readyIs ops listed i = true := by kernel_rfl) (htj : Nat.blt t fr.nt = true := by rfl) (hs : (X.contains i || (X'.all X.contains && st.all fun j => st'.contains j && Nat.blt j M.n && (M.at_ j).isOwn && !(tc.contains j))) = true := by rfl) (ht : Nat.blt dst fr.nt = true := by rfl) : WPD Tryz.prog cx fr ops st X (fuel + 1) listed E M Q := WPD.effg i st' X' ho hb hj htj hv h hs ht k
theorem rc (s t : List Nat) (N : Nat) (bor : List Nat) {fo : Operand} {f : FuncId} {cap : List AVal} {np : Nat} {lc : List AVal} {Mc Mc' : Mem} {v : AVal} {args : Array Operand} {tys : Array TypeId} (hspec : Go.Q.Spec Tryz.prog f np lc Mc (fun o M' => o = .ret v ∧ M' = Mc')) (hcal : E.ev fo = .fn f cap := by rfl) (hfn : FnIs Tryz.prog f := by exact xfn) (hM : LeM s 0 M Mc := by exact lm) (hnp : (Nat.ble np Mc.n && noMarks Mc) = true := by rfl) (hbor : borOk M s bor := by first | exact trivial | exact ⟨trivial, rfl, rfl, trivial⟩)
    (hargs : ArgsOk M s bor Mc.n (args.toList.map E.ev ++ cap) lc := by first | exact .ren rfl rfl .nil | exact .ren rfl rfl (.ren rfl rfl .nil) | exact .nil | exact .row rfl rfl .nil | exact .row rfl rfl (.ren rfl rfl .nil)) (htau : tauOk s t np M.n Mc.n Mc'.n N = true := by rfl) (hp : AllLt Mc'.n fun j => (Mc'.at_ j).pers bor.isEmpty = true := by repeat' first | exact trivial | exact rfl | refine ⟨?_, ?_⟩) (hpv : v.pers bor.isEmpty = true := by rfl) :
    Runs Tryz.prog (.call { callee := .value fo, args := args, argTypes := tys }) ty E M s (v.ren (sub t)) (merge M s t Mc' N) := runs_call hfn hcal hspec hM hnp hbor hargs htau hp hpv
theorem sp {P P' : Prop} (p : P') (w : P' → P := by intro p; first | ((with_reducible change WPL _ _ _ _ [] _ _ _); exact WPL.nx p) | ((with_reducible change WPL _ _ _ _ ({ dst := some _, op := _, type := _, pos := _, after := _, guard := Option.none } :: _) _ _ _); exact WPL.qq aq p) | ((with_reducible change WPL _ _ _ _ ({ dst := some _, op := _, type := _, pos := _, after := _, guard := some _ } :: _) _ _ _); first | exact WPL.sg false rfl gv p | exact WPL.gq rfl gv aq p | exact WPL.sg true rfl gv p | exact WPL.skipu rfl rfl rfl rfl (.inl trivial) p) | ((with_reducible change WPL _ _ _ _ ({ dst := Option.none, op := _, type := _, pos := _, after := _, guard := Option.none } :: _) _ _ _); exact WPL.s (s_store xsz rfl rfl rfl rfl rfl) p) | ((with_reducible change WPL _ _ _ _ ({ dst := some _, op := _, type := _, pos := _, after := _, guard := Option.none } :: _) _ _ _); first | exact WPL.d (d_alloc xze rfl) rfl p | exact WPL.d (d_box rfl rfl) rfl p) | ((with_reducible change WP _ _ _ (.seq _ _) _ _ _); exact WP.sr p) | ((with_reducible change WP _ _ _ (.region _ _ _) _ _ _); exact WP.region p) | ((with_reducible change WP _ _ _ (.block _ _) _ _ _); exact WP.block p) | (with_reducible exact WP.retW p) | (with_reducible exact WP.skipW p) | (with_reducible exact WP.exitW p) | (with_reducible exact W.now p) | (with_reducible exact Then.n p) | exact InBlock.x0 p) : P := w p
theorem sn {v v' : AVal} (e : v = v') {P P' : Prop} (p : P') (w : v = v' → P' → P := by intro e p; first | ((with_reducible change WPL _ _ _ _ ({ dst := some _, op := _, type := _, pos := _, after := _, guard := Option.none } :: _) _ _ _); exact WPL.qq (q_nm aq e) p) | exact WPL.gq rfl gv (q_nm aq e) p) : P := w e p
theorem bo {f : FuncId} {fn : Func} {c : Code} {np : Nat} {args : List AVal} {Q : Out → Mem → Prop} (hf : Tryz.prog.funcs[f]? = some fn) (az : List (Nat × Nat)) (rs : List ResultVar) (nt : Nat) (h : ∀ cx, cx.np = np → WP Tryz.prog cx ⟨nt, none, []⟩ c (argsEnv args) M (BodyR az rs np Q)) (hb : fn.body = some c := by rfl) (hr : fn.results.toList = rs := by rfl)
    (hsc : ∀ t T, ResultVar.cell t T ∈ rs → CellOk Tryz.prog az T := by first | (intro t T h; simp at h; done) | (intro t T h; simp at h; rcases h with ⟨rfl, rfl⟩ <;> exact xag)) (hnt : fn.ntmps = nt := by rfl) (ha : Nat.ble args.length nt = true := by rfl) : Go.Q.Spec Tryz.prog f np args M Q := Go.Q.Spec.of_bodyR hf hb hr hsc hnt ha h
end
end
end Go.Proofs.YthpcgknknpjpdaaGreatDoor.W
namespace Go.Proofs.YthpcgknknpjpdaaGreatDoor.W
open Go Go.Q Go.Proofs
set_option linter.unusedVariables false
set_option linter.unusedSimpArgs false
set_option maxRecDepth 100000
set_option maxHeartbeats 4000000
theorem s_val_names (k : Nat) (H : g_val_names k = some ()) : Go.Q.Spec Tryz.prog 44 0 [] Mem.nil (fun o M => o = .ret (.ro (Rd.slice Rd.str) false ([(ByteArray.mk #[]), (ByteArray.mk #[35, 68, 73, 86, 47, 48, 33]), (ByteArray.mk #[35, 86, 65, 76, 85, 69, 33]), (ByteArray.mk #[35, 82, 69, 70, 33]), (ByteArray.mk #[35, 78, 65, 77, 69, 63]), (ByteArray.mk #[35, 78, 85, 77, 33]), (ByteArray.mk #[35, 78, 47, 65]), (ByteArray.mk #[35, 67, 89, 67, 76, 69, 33])] : List ByteArray)) ∧ M = Mem.nil) := by
 unfold g_val_names at H
 refine bo Tryz.func44 [] [.tmp 0] 2 fun cx hnp => ?_
 iterate 4 refine sp ?_
 refine WPL.d (d_buildSlice (ds := ([(ByteArray.mk #[]), (ByteArray.mk #[35, 68, 73, 86, 47, 48, 33]), (ByteArray.mk #[35, 86, 65, 76, 85, 69, 33]), (ByteArray.mk #[35, 82, 69, 70, 33]), (ByteArray.mk #[35, 78, 65, 77, 69, 63]), (ByteArray.mk #[35, 78, 85, 77, 33]), (ByteArray.mk #[35, 78, 47, 65]), (ByteArray.mk #[35, 67, 89, 67, 76, 69, 33])] : List ByteArray)) (R := Rd.str) li26 rfl rfl rfl rfl rfl (JoinRows.cons1 Joins.sc rfl (JoinRows.cons1 Joins.sc rfl (JoinRows.cons1 Joins.sc rfl (JoinRows.cons1 Joins.sc rfl (JoinRows.cons1 Joins.sc rfl (JoinRows.cons1 Joins.sc rfl (JoinRows.cons1 Joins.sc rfl (JoinRows.cons1 Joins.sc rfl JoinRows.nil)))))))) rfl rfl) rfl ?_
 iterate 3 refine sp ?_
 refine W.cv (Cv.frzRow (i := 0) rfl rfl hnp rfl rfl) rfl ?_
 exact W.now (mb [])
theorem s_sc_Index_string_string (k : Nat) (x1 : (List ByteArray)) (x2 : ByteArray) (x3 : Int) (H : g_sc_Index_string_string k x1 x2 = some x3) : Go.Q.Spec Tryz.prog 43 0 [.ro (Rd.slice Rd.str) false x1, .lit (.string x2)] Mem.nil (fun o M => o = .ret (.lit (.int .i64 x3)) ∧ M = Mem.nil) := by
 unfold g_sc_Index_string_string at H
 refine bo Tryz.func43 [] [.tmp 4] 19 fun cx hnp => ?_
 iterate 3 refine sp ?_
 refine WP.seq ?_
 iterate 6 refine sp ?_
 refine WP.cv (Cv.weak (E' := ((((Env.none.upd 0 (.ro (Rd.slice Rd.str) false x1)).upd 1 (.lit (.string x2))).upd 7 (.lit (.int .i64 ((List.length x1 : Nat) : Int)))).upd 8 (.lit (.int .i64 0)))) (M' := Mem.nil) [] hnp ⟨rfl, trivial, by decide, rfl, trivial⟩ (LeE.u (LeE.u (LeE.u (LeE.u (LeE.none rfl rfl)))))) ?_
 obtain ⟨y1, H1, H⟩ := bnd H
 refine WP.monoW (Q := fun x E M => match (generalizing := false) y1 with | (Sum.inl x4) => x = .ret ∧ E = (Env.none.upd 4 (.lit (.int .i64 x4))) ∧ M = Mem.nil | (Sum.inr _) => x = .exit 0 ∧ E = Env.none ∧ M = Mem.nil) ?_ ?_
 · refine WP.loop (β := Int) (fun n b => g_sc_Index_string_string_l0 k x1 x2 n b = some y1) (fun b => ((((Env.none.upd 0 (.ro (Rd.slice Rd.str) false x1)).upd 1 (.lit (.string x2))).upd 7 (.lit (.int .i64 ((List.length x1 : Nat) : Int)))).upd 8 (.lit (.int .i64 b)))) (fun b => Mem.nil) k 0 H1 rfl rfl ?_
   rintro n x5 H
   obtain _ | n := n
   · exact nf rfl H
   rw [g_sc_Index_string_string_l0.eq_2] at H
   show WP _ _ _ _ ((((Env.none.upd 0 (.ro (Rd.slice Rd.str) false x1)).upd 1 (.lit (.string x2))).upd 7 (.lit (.int .i64 ((List.length x1 : Nat) : Int)))).upd 8 (.lit (.int .i64 x5))) Mem.nil _
   refine sp ?_
   obtain ⟨x6, h1, H⟩ := bnd H
   refine sn (nm_bool h1) ?_
   refine sp ?_
   refine WP.seq ?_
   refine cd H (fun hb1 H => ?_) fun hb1 H => ?_
   · iterate 3 refine sp ?_
     refine WP.seq ?_
     iterate 9 refine sp ?_
     obtain ⟨x7, h2, H⟩ := bnd H
     iterate 4 refine sp ?_
     refine cd H (fun hb2 H => ?_) fun hb2 H => ?_
     · iterate 5 refine sp ?_
       have q0 := j1 H
       subst q0
       exact wq [] (InBlock.r (Then.r (Then.r r3)))
     iterate 2 refine sp ?_
     refine InBlock.n ?_
     iterate 4 refine sp ?_
     refine WPL.nilW ?_
     exact wq [] (Then.n ⟨n, (IntKind.wrap .i64 (x5 + 1)), Nat.lt_succ_self n, H, rfl, rfl⟩)
   refine sp ?_
   have q0 := j1 H
   subst q0
   exact wq [] (Then.x (Then.x r3))
 rcases y1 with x4 | _
 · rintro _ _ _ ⟨rfl, rfl, rfl⟩
   have q0 := j1 H
   subst q0
   exact W.now (InBlock.r (Then.r (mb [])))
 rintro _ _ _ ⟨rfl, rfl, rfl⟩
 iterate 7 refine sp ?_
 have q0 := j1 H
 subst q0
 exact W.now (mb [])
theorem s_val_ErrCode (k : Nat) (x1 : ByteArray) (x2 : Int) (x3 : Bool) (H : g_val_ErrCode k x1 = some (x2, x3)) : Go.Q.Spec Tryz.prog 9 0 [.lit (.string x1)] Mem.nil (fun o M => o = .ret (.tup [.lit (.int .i64 x2), .lit (.bool x3)]) ∧ M = Mem.nil) := by
 unfold g_val_ErrCode at H
 refine bo Tryz.func9 [] [.tmp 2, .tmp 3] 12 fun cx hnp => ?_
 iterate 5 refine sp ?_
 obtain ⟨_, h1, H⟩ := bnd H
 refine WPL.c (rc [] [] 0 [] (s_val_names k h1)) rfl ?_
 refine sp ?_
 obtain ⟨x4, h2, H⟩ := bnd H
 refine WPL.c (rc [] [] 0 [] (s_sc_Index_string_string k ([(ByteArray.mk #[]), (ByteArray.mk #[35, 68, 73, 86, 47, 48, 33]), (ByteArray.mk #[35, 86, 65, 76, 85, 69, 33]), (ByteArray.mk #[35, 82, 69, 70, 33]), (ByteArray.mk #[35, 78, 65, 77, 69, 63]), (ByteArray.mk #[35, 78, 85, 77, 33]), (ByteArray.mk #[35, 78, 47, 65]), (ByteArray.mk #[35, 67, 89, 67, 76, 69, 33])] : List ByteArray) x1 x4 h2)) rfl ?_
 iterate 4 refine sp ?_
 obtain ⟨x5, h3, H⟩ := bnd H
 refine sn (nm_int h3) ?_
 iterate 6 refine sp ?_
 obtain ⟨rfl, rfl⟩ := j2 H
 exact W.now (mb [])
theorem s_rv_Names (k : Nat) (H : g_rv_Names k = some ()) : Go.Q.Spec Tryz.prog 11 0 [] Mem.nil (fun o M => o = .ret (.ro (Rd.slice Rd.str) false ([(ByteArray.mk #[]), (ByteArray.mk #[35, 68, 73, 86, 47, 48, 33]), (ByteArray.mk #[35, 86, 65, 76, 85, 69, 33]), (ByteArray.mk #[35, 82, 69, 70, 33]), (ByteArray.mk #[35, 78, 65, 77, 69, 63]), (ByteArray.mk #[35, 78, 85, 77, 33]), (ByteArray.mk #[35, 78, 47, 65]), (ByteArray.mk #[35, 67, 89, 67, 76, 69, 33])] : List ByteArray)) ∧ M = Mem.nil) := by
 unfold g_rv_Names at H
 refine bo Tryz.func11 [] [.tmp 0] 2 fun cx hnp => ?_
 iterate 4 refine sp ?_
 refine WPL.d (d_buildSlice (ds := ([(ByteArray.mk #[]), (ByteArray.mk #[35, 68, 73, 86, 47, 48, 33]), (ByteArray.mk #[35, 86, 65, 76, 85, 69, 33]), (ByteArray.mk #[35, 82, 69, 70, 33]), (ByteArray.mk #[35, 78, 65, 77, 69, 63]), (ByteArray.mk #[35, 78, 85, 77, 33]), (ByteArray.mk #[35, 78, 47, 65]), (ByteArray.mk #[35, 67, 89, 67, 76, 69, 33])] : List ByteArray)) (R := Rd.str) li26 rfl rfl rfl rfl rfl (JoinRows.cons1 Joins.sc rfl (JoinRows.cons1 Joins.sc rfl (JoinRows.cons1 Joins.sc rfl (JoinRows.cons1 Joins.sc rfl (JoinRows.cons1 Joins.sc rfl (JoinRows.cons1 Joins.sc rfl (JoinRows.cons1 Joins.sc rfl (JoinRows.cons1 Joins.sc rfl JoinRows.nil)))))))) rfl rfl) rfl ?_
 iterate 3 refine sp ?_
 refine W.cv (Cv.frzRow (i := 0) rfl rfl hnp rfl rfl) rfl ?_
 exact W.now (mb [])
theorem s_val_ErrName (k : Nat) (x1 : Int) (x2 : ByteArray) (H : g_val_ErrName k x1 = some x2) : Go.Q.Spec Tryz.prog 18 0 [.lit (.int .i64 x1)] Mem.nil (fun o M => o = .ret (.lit (.string x2)) ∧ M = Mem.nil) := by
 unfold g_val_ErrName at H
 refine bo Tryz.func18 [] [.tmp 2] 15 fun cx hnp => ?_
 iterate 3 refine sp ?_
 refine WP.seq ?_
 refine WP.seq ?_
 obtain ⟨x3, H1, H⟩ := bnd H
 refine mo .normal ((Env.none.upd 0 (.lit (.int .i64 x1))).upd 10 (.lit (.bool x3))) Mem.nil ?_ ?_
 · clear H
   have H := H1
   clear H1
   iterate 4 refine sp ?_
   refine ws 5 H (fun hb1 H => ?_) fun hb1 H => ?_
   · iterate 5 refine sp ?_
     refine WPL.nilW ?_
     have q0 := j1 H
     subst q0
     exact wq []
   refine sp ?_
   obtain ⟨_, h1, H⟩ := bnd H
   refine WPL.cg rfl rfl (lb hb1) (rc [] [] 0 [] (s_val_names k h1)) rfl ?_
   obtain ⟨x4, h2, H⟩ := bnd H
   refine sn (nm_int h2) ?_
   iterate 2 refine sp ?_
   refine WPL.nilW ?_
   have q0 := j1 H
   subst q0
   exact wq []
 iterate 2 refine sp ?_
 refine cd H (fun hb2 H => ?_) fun hb2 H => ?_
 · iterate 4 refine sp ?_
   have q0 := j1 H
   subst q0
   exact W.now (Then.r (mb []))
 iterate 4 refine sp ?_
 obtain ⟨_, h3, H⟩ := bnd H
 refine WPL.c (rc [] [] 0 [] (s_val_names k h3)) rfl ?_
 refine sp ?_
 obtain ⟨x5, h4, H⟩ := bnd H
 iterate 5 refine sp ?_
 have q0 := j1 H
 subst q0
 exact W.now (mb [])
theorem s_val_Err (k : Nat) (x1 : Int) (x2 : Int) (H : g_val_Err k x1 = some x2) : Go.Q.Spec Tryz.prog 16 0 [.lit (.int .i64 x1)] Mem.nil (fun o M => o = .ret (.agg [.lit (.int .i64 4), .lit (.int .i64 0), .lit (.int .i64 0), .lit (.string (ByteArray.mk #[])), .lit (.bool false), .lit (.int .i64 x2)]) ∧ M = (Mem.nil.push (.cells 29 [.lit (.int .i64 4), .lit (.int .i64 0), .lit (.int .i64 0), .lit (.string (ByteArray.mk #[])), .lit (.bool false), .lit (.int .i64 x2)]))) := by
 unfold g_val_Err at H
 refine bo Tryz.func16 [(29, 6)] [.cell 2 29] 8 fun cx hnp => ?_
 iterate 3 refine sp ?_
 refine WP.seq ?_
 obtain ⟨x3, H1, H⟩ := bnd H
 refine mo .normal ((Env.none.upd 0 (.lit (.int .i64 x3))).upd 2 (.ptr 0 0)) (Mem.nil.push (.cells 29 [.lit (.int .i64 0), .lit (.int .i64 0), .lit (.int .i64 0), .lit (.string (ByteArray.mk #[])), .lit (.bool false), .lit (.int .i64 0)])) ?_ ?_
 · clear H
   have H := H1
   clear H1
   iterate 2 refine sp ?_
   obtain ⟨x4, h1, H⟩ := bnd H
   refine WPL.c (rc [] [] 1 [] (s_val_ErrName k x1 x4 h1)) rfl ?_
   obtain ⟨x5, h2, H⟩ := bnd H
   refine sn (nm_bool h2) ?_
   refine sp ?_
   refine cd H (fun hb1 H => ?_) fun hb1 H => ?_
   · iterate 2 refine sp ?_
     refine WPL.nilW ?_
     have q0 := j1 H
     subst q0
     exact wq [0]
   refine sp ?_
   have q0 := j1 H
   subst q0
   exact wq [0]
 iterate 8 refine sp ?_
 have q0 := j1 H
 subst q0
 exact W.now (mb [0])
theorem s_dec_size (k : Nat) (x1 : Int) (x2 : Int) (H : g_dec_size k x1 = some x2) : Go.Q.Spec Tryz.prog 102 0 [.lit (.int .i64 x1)] Mem.nil (fun o M => o = .ret (.lit (.int .u64 x2)) ∧ M = Mem.nil) := by
 unfold g_dec_size at H
 refine bo Tryz.func102 [] [.tmp 2] 10 fun cx hnp => ?_
 iterate 3 refine sp ?_
 refine WP.seq ?_
 iterate 4 refine sp ?_
 refine cd H (fun hb1 H => ?_) fun hb1 H => ?_
 · iterate 3 refine sp ?_
   obtain ⟨x3, h1, H⟩ := bnd H
   refine sn (nm_int h1) ?_
   iterate 3 refine sp ?_
   have q0 := j1 H
   subst q0
   exact W.now (Then.r (mb []))
 iterate 9 refine sp ?_
 have q0 := j1 H
 subst q0
 exact W.now (mb [])
theorem s_dec_of (k : Nat) (x1 : Int) (x2 : Int) (x3 : Int) (H : g_dec_of k x1 x2 = some x3) : Go.Q.Spec Tryz.prog 81 0 [.agg [.lit (.int .i64 x1), .lit (.int .i64 x2)]] Mem.nil (fun o M => o = .ret (.agg [.lit (.bool (decide (x1 < 0))), .lit (.int .u64 0), .lit (.int .u64 x3), .lit (.int .i64 x2)]) ∧ M = (Mem.nil.push (.cells 71 [.lit (.bool (decide (x1 < 0))), .lit (.int .u64 0), .lit (.int .u64 x3), .lit (.int .i64 x2)]))) := by
 unfold g_dec_of at H
 refine bo Tryz.func81 [(71, 4)] [.cell 2 71] 13 fun cx hnp => ?_
 iterate 4 refine sp ?_
 refine WP.seq ?_
 refine WP.regionD' 11 [0] [] mixed rfl ?_
 refine dT 0 ?_
 refine dT 3 ?_
 refine dT 7 ?_
 refine dK 1 ?_
 refine dT 2 ?_
 refine dK 4 ?_
 refine dK 8 ?_
 obtain ⟨x4, h1, H⟩ := bnd H
 refine dE 5 [0] [] rfl (rc [] [] 2 [] (s_dec_size k x1 x4 h1)) ?_
 refine dT 6 ?_
 refine dT 9 ?_
 refine dS 10 [0] [] ?_
 refine WPD.doneW (by kernel_rfl) ?_
 iterate 3 refine sp ?_
 have q0 := j1 H
 subst q0
 exact W.now (mb [1])
theorem s_dec_wide_zero (k : Nat) (x1 : Int) (x2 : Int) (H : g_dec_wide_zero k x1 x2 = some ()) : Go.Q.Spec Tryz.prog 131 0 [.agg [.lit (.int .u64 x1), .lit (.int .u64 x2)]] Mem.nil (fun o M => o = .ret (.lit (.bool (decide ((bits .or .u64 x1 x2) = 0)))) ∧ M = Mem.nil) := by
 unfold g_dec_wide_zero at H
 refine bo Tryz.func131 [] [.tmp 2] 9 fun cx hnp => ?_
 iterate 14 refine sp ?_
 exact W.now (mb [])
theorem s_mb_Len64 (k : Nat) (x1 : Int) (x2 : Int) (H : g_mb_Len64 k x1 = some x2) : Go.Q.Spec Tryz.prog 176 0 [.lit (.int .u64 x1)] Mem.nil (fun o M => o = .ret (.lit (.int .i64 x2)) ∧ M = Mem.nil) := by
 unfold g_mb_Len64 at H
 refine bo Tryz.func176 [] [.tmp 2] 25 fun cx hnp => ?_
 iterate 3 refine sp ?_
 refine WP.seq ?_
 obtain ⟨⟨x3, x4⟩, H1, H⟩ := bnd H
 refine mo .normal ((Env.none.upd 0 (.lit (.int .u64 x3))).upd 2 (.lit (.int .i64 x4))) Mem.nil ?_ ?_
 · clear H
   have H := H1
   clear H1
   iterate 4 refine sp ?_
   refine cd H (fun hb1 H => ?_) fun hb1 H => ?_
   · iterate 7 refine sp ?_
     refine WPL.nilW ?_
     obtain ⟨rfl, rfl⟩ := j2 H
     exact wq []
   refine sp ?_
   obtain ⟨rfl, rfl⟩ := j2 H
   exact wq []
 iterate 2 refine sp ?_
 refine WP.seq ?_
 obtain ⟨⟨x5, x6⟩, H2, H⟩ := bnd H
 refine mo .normal ((Env.none.upd 0 (.lit (.int .u64 x5))).upd 2 (.lit (.int .i64 x6))) Mem.nil ?_ ?_
 · clear H
   have H := H2
   clear H2
   iterate 4 refine sp ?_
   refine cd H (fun hb2 H => ?_) fun hb2 H => ?_
   · iterate 9 refine sp ?_
     refine WPL.nilW ?_
     obtain ⟨rfl, rfl⟩ := j2 H
     exact wq []
   refine sp ?_
   obtain ⟨rfl, rfl⟩ := j2 H
   exact wq []
 iterate 2 refine sp ?_
 refine WP.seq ?_
 obtain ⟨⟨x7, x8⟩, H3, H⟩ := bnd H
 refine mo .normal ((Env.none.upd 0 (.lit (.int .u64 x7))).upd 2 (.lit (.int .i64 x8))) Mem.nil ?_ ?_
 · clear H
   have H := H3
   clear H3
   iterate 4 refine sp ?_
   refine cd H (fun hb3 H => ?_) fun hb3 H => ?_
   · iterate 9 refine sp ?_
     refine WPL.nilW ?_
     obtain ⟨rfl, rfl⟩ := j2 H
     exact wq []
   refine sp ?_
   obtain ⟨rfl, rfl⟩ := j2 H
   exact wq []
 iterate 6 refine sp ?_
 obtain ⟨x9, h1, H⟩ := bnd H
 iterate 2 refine sp ?_
 obtain ⟨x10, h2, H⟩ := bnd H
 refine sn (nm_int h2) ?_
 iterate 3 refine sp ?_
 have q0 := j1 H
 subst q0
 exact W.now (mb [])
theorem s_mb_LeadingZeros64 (k : Nat) (x1 : Int) (x2 : Int) (H : g_mb_LeadingZeros64 k x1 = some x2) : Go.Q.Spec Tryz.prog 169 0 [.lit (.int .u64 x1)] Mem.nil (fun o M => o = .ret (.lit (.int .i64 x2)) ∧ M = Mem.nil) := by
 unfold g_mb_LeadingZeros64 at H
 refine bo Tryz.func169 [] [.tmp 2] 6 fun cx hnp => ?_
 iterate 5 refine sp ?_
 obtain ⟨x3, h1, H⟩ := bnd H
 refine WPL.c (rc [] [] 0 [] (s_mb_Len64 k x1 x3 h1)) rfl ?_
 iterate 4 refine sp ?_
 have q0 := j1 H
 subst q0
 exact W.now (mb [])
theorem s_mb_Div64 (k : Nat) (x1 : Int) (x2 : Int) (x3 : Int) (x4 : Int) (x5 : Int) (H : g_mb_Div64 k x1 x2 x3 = some (x4, x5)) : Go.Q.Spec Tryz.prog 158 0 [.lit (.int .u64 x1), .lit (.int .u64 x2), .lit (.int .u64 x3)] Mem.nil (fun o M => o = .ret (.tup [.lit (.int .u64 x4), .lit (.int .u64 x5)]) ∧ M = Mem.nil) := by
 unfold g_mb_Div64 at H
 refine bo Tryz.func158 [] [.tmp 6, .tmp 7] 135 fun cx hnp => ?_
 iterate 4 refine sp ?_
 refine WP.seq ?_
 iterate 4 refine sp ?_
 refine cd H (fun hb1 H => ?_) fun hb1 H => ?_
 · refine sp ?_
   exact nf rfl H
 iterate 3 refine sp ?_
 refine WP.seq ?_
 iterate 5 refine sp ?_
 refine cd H (fun hb2 H => ?_) fun hb2 H => ?_
 · refine sp ?_
   exact nf rfl H
 iterate 3 refine sp ?_
 refine WP.seq ?_
 iterate 4 refine sp ?_
 refine cd H (fun hb3 H => ?_) fun hb3 H => ?_
 · refine WP.seq ?_
   refine WP.regionD' 8 [] [] mixed rfl ?_
   refine dT 0 ?_
   refine dT 1 ?_
   obtain ⟨h1, H⟩ := grd H
   refine dT 2 ?_
   refine dT 3 ?_
   refine dT 4 ?_
   obtain ⟨h2, H⟩ := grd H
   refine dT 5 ?_
   refine dT 6 ?_
   refine dT 7 ?_
   refine WPD.doneW (by kernel_rfl) ?_
   iterate 3 refine sp ?_
   obtain ⟨rfl, rfl⟩ := j2 H
   exact W.now (Then.r (mb []))
 iterate 5 refine sp ?_
 obtain ⟨x6, h3, H⟩ := bnd H
 refine WPL.c (rc [] [] 0 [] (s_mb_LeadingZeros64 k x3 x6 h3)) rfl ?_
 iterate 6 refine sp ?_
 obtain ⟨h4, H⟩ := grd H
 obtain ⟨x7, h5, H⟩ := bnd H
 refine WPL.qq (q_nm (q_shl rfl rfl h4) (nm_int h5)) ?_
 iterate 15 refine sp ?_
 obtain ⟨h5, H⟩ := grd H
 obtain ⟨x8, h6, H⟩ := bnd H
 refine WPL.qq (q_nm (q_shl rfl rfl h5) (nm_int h6)) ?_
 iterate 2 refine sp ?_
 obtain ⟨x9, h7, H⟩ := bnd H
 refine sn (nm_int h7) ?_
 obtain ⟨h7, H⟩ := grd H
 refine WPL.qq (q_shr rfl rfl h7) ?_
 iterate 6 refine sp ?_
 obtain ⟨h8, H⟩ := grd H
 obtain ⟨x10, h9, H⟩ := bnd H
 refine WPL.qq (q_nm (q_shl rfl rfl h8) (nm_int h9)) ?_
 iterate 15 refine sp ?_
 obtain ⟨h9, H⟩ := grd H
 obtain ⟨x11, h10, H⟩ := bnd H
 refine sn (nm_int h10) ?_
 iterate 6 refine sp ?_
 obtain ⟨x12, h11, H⟩ := bnd H
 refine sn (nm_int h11) ?_
 obtain ⟨x13, h12, H⟩ := bnd H
 refine sn (nm_int h12) ?_
 iterate 2 refine sp ?_
 refine WP.seq ?_
 refine sp ?_
 refine WP.cv (Cv.weak (E' := (((((((((Env.none.upd 2 (.lit (.int .u64 x7))).upd 8 (.lit (.int .u64 (IntKind.wrap .u64 x6)))).upd 9 (.lit (.int .u64 (shrI .u64 x7 32)))).upd 10 (.lit (.int .u64 (bits .and .u64 x7 4294967295)))).upd 11 (.lit (.int .u64 (bits .or .u64 x8 (shrI .u64 x2 x9))))).upd 13 (.lit (.int .u64 (shrI .u64 x10 32)))).upd 14 (.lit (.int .u64 (bits .and .u64 x10 4294967295)))).upd 15 (.lit (.int .u64 x11))).upd 16 (.lit (.int .u64 x13)))) (M' := Mem.nil) [] hnp ⟨rfl, trivial, by decide, rfl, trivial⟩ (LeE.u (LeE.u (LeE.u (LeE.u (LeE.u (LeE.u (LeE.u (LeE.u (LeE.u (LeE.none rfl rfl))))))))))) ?_
 obtain ⟨x14, H1, H⟩ := bnd H
 refine mo (.exit 0) ((((((((Env.none.upd 2 (.lit (.int .u64 x7))).upd 8 (.lit (.int .u64 (IntKind.wrap .u64 x6)))).upd 9 (.lit (.int .u64 (shrI .u64 x7 32)))).upd 10 (.lit (.int .u64 (bits .and .u64 x7 4294967295)))).upd 11 (.lit (.int .u64 (bits .or .u64 x8 (shrI .u64 x2 x9))))).upd 13 (.lit (.int .u64 (shrI .u64 x10 32)))).upd 14 (.lit (.int .u64 (bits .and .u64 x10 4294967295)))).upd 15 (.lit (.int .u64 x14))) Mem.nil ?_ ?_
 · refine WP.loop (β := Int × Int) (fun n b => g_mb_Div64_l0 k x7 x10 n b.1 b.2 = some x14) (fun b => (((((((((Env.none.upd 2 (.lit (.int .u64 x7))).upd 8 (.lit (.int .u64 (IntKind.wrap .u64 x6)))).upd 9 (.lit (.int .u64 (shrI .u64 x7 32)))).upd 10 (.lit (.int .u64 (bits .and .u64 x7 4294967295)))).upd 11 (.lit (.int .u64 (bits .or .u64 x8 (shrI .u64 x2 x9))))).upd 13 (.lit (.int .u64 (shrI .u64 x10 32)))).upd 14 (.lit (.int .u64 (bits .and .u64 x10 4294967295)))).upd 15 (.lit (.int .u64 b.1))).upd 16 (.lit (.int .u64 b.2)))) (fun b => Mem.nil) k (x11, x13) H1 rfl rfl ?_
   rintro n ⟨x15, x16⟩ H
   obtain _ | n := n
   · exact nf rfl H
   rw [g_mb_Div64_l0.eq_2] at H
   show WP _ _ _ _ (((((((((Env.none.upd 2 (.lit (.int .u64 x7))).upd 8 (.lit (.int .u64 (IntKind.wrap .u64 x6)))).upd 9 (.lit (.int .u64 (shrI .u64 x7 32)))).upd 10 (.lit (.int .u64 (bits .and .u64 x7 4294967295)))).upd 11 (.lit (.int .u64 (bits .or .u64 x8 (shrI .u64 x2 x9))))).upd 13 (.lit (.int .u64 (shrI .u64 x10 32)))).upd 14 (.lit (.int .u64 (bits .and .u64 x10 4294967295)))).upd 15 (.lit (.int .u64 x15))).upd 16 (.lit (.int .u64 x16))) Mem.nil _
   refine WP.seq ?_
   refine WP.seq ?_
   obtain ⟨x17, H2, H⟩ := bnd H
   refine mo .normal ((((((((((Env.none.upd 2 (.lit (.int .u64 x7))).upd 8 (.lit (.int .u64 (IntKind.wrap .u64 x6)))).upd 9 (.lit (.int .u64 (shrI .u64 x7 32)))).upd 10 (.lit (.int .u64 (bits .and .u64 x7 4294967295)))).upd 11 (.lit (.int .u64 (bits .or .u64 x8 (shrI .u64 x2 x9))))).upd 13 (.lit (.int .u64 (shrI .u64 x10 32)))).upd 14 (.lit (.int .u64 (bits .and .u64 x10 4294967295)))).upd 15 (.lit (.int .u64 x15))).upd 16 (.lit (.int .u64 x16))).upd 78 (.lit (.bool x17))) Mem.nil ?_ ?_
   · clear H
     have H := H2
     clear H2
     iterate 4 refine sp ?_
     refine ws 69 H (fun hb4 H => ?_) fun hb4 H => ?_
     · iterate 9 refine sp ?_
       refine WPL.nilW ?_
       have q0 := j1 H
       subst q0
       exact wq []
     iterate 2 refine sp ?_
     obtain ⟨x18, h13, H⟩ := bnd H
     refine sn (nm_int h13) ?_
     refine sp ?_
     obtain ⟨x19, h14, H⟩ := bnd H
     refine sn (nm_int h14) ?_
     refine sp ?_
     obtain ⟨x20, h15, H⟩ := bnd H
     refine sn (nm_int h15) ?_
     iterate 2 refine sp ?_
     refine WPL.nilW ?_
     have q0 := j1 H
     subst q0
     exact wq []
   iterate 2 refine sp ?_
   refine cd H (fun hb5 H => ?_) fun hb5 H => ?_
   · iterate 12 refine sp ?_
     obtain ⟨x21, h16, H⟩ := bnd H
     refine sn (nm_int h16) ?_
     iterate 6 refine sp ?_
     refine cd H (fun hb6 H => ?_) fun hb6 H => ?_
     · refine sp ?_
       have q0 := j1 H
       subst q0
       exact wq [] (InBlock.x rfl (Then.x r3))
     refine sp ?_
     exact wq [] (InBlock.n (Then.n ⟨n, ((IntKind.wrap .u64 (x15 - 1)), x21), Nat.lt_succ_self n, H, rfl, rfl⟩))
   refine sp ?_
   have q0 := j1 H
   subst q0
   exact wq [] (Then.x (Then.x r3))
 iterate 5 refine sp ?_
 obtain ⟨x22, h17, H⟩ := bnd H
 refine sn (nm_int h17) ?_
 refine sp ?_
 obtain ⟨x23, h18, H⟩ := bnd H
 refine sn (nm_int h18) ?_
 iterate 3 refine sp ?_
 obtain ⟨x24, h19, H⟩ := bnd H
 refine sn (nm_int h19) ?_
 iterate 5 refine sp ?_
 obtain ⟨h19, H⟩ := grd H
 obtain ⟨x25, h20, H⟩ := bnd H
 refine sn (nm_int h20) ?_
 iterate 6 refine sp ?_
 obtain ⟨x26, h21, H⟩ := bnd H
 refine sn (nm_int h21) ?_
 iterate 3 refine sp ?_
 refine WP.seq ?_
 refine sp ?_
 refine WP.cv (Cv.weak (E' := (((((((((Env.none.upd 2 (.lit (.int .u64 x7))).upd 8 (.lit (.int .u64 (IntKind.wrap .u64 x6)))).upd 9 (.lit (.int .u64 (shrI .u64 x7 32)))).upd 10 (.lit (.int .u64 (bits .and .u64 x7 4294967295)))).upd 14 (.lit (.int .u64 (bits .and .u64 x10 4294967295)))).upd 15 (.lit (.int .u64 x14))).upd 16 (.lit (.int .u64 (IntKind.wrap .u64 (x24 - x26))))).upd 17 (.lit (.int .u64 x24))).upd 18 (.lit (.int .u64 x25)))) (M' := Mem.nil) [] hnp ⟨rfl, trivial, by decide, rfl, trivial⟩ (LeE.u (LeE.u (LeE.u (LeE.u (LeE.u (LeE.u (LeE.u (LeE.u (LeE.u (LeE.none rfl rfl))))))))))) ?_
 obtain ⟨x27, H3, H⟩ := bnd H
 refine mo (.exit 2) ((((((Env.none.upd 2 (.lit (.int .u64 x7))).upd 8 (.lit (.int .u64 (IntKind.wrap .u64 x6)))).upd 14 (.lit (.int .u64 (bits .and .u64 x10 4294967295)))).upd 15 (.lit (.int .u64 x14))).upd 17 (.lit (.int .u64 x24))).upd 18 (.lit (.int .u64 x27))) Mem.nil ?_ ?_
 · refine WP.loop (β := Int × Int) (fun n b => g_mb_Div64_l1 k x7 x10 n b.1 b.2 = some x27) (fun b => (((((((((Env.none.upd 2 (.lit (.int .u64 x7))).upd 8 (.lit (.int .u64 (IntKind.wrap .u64 x6)))).upd 9 (.lit (.int .u64 (shrI .u64 x7 32)))).upd 10 (.lit (.int .u64 (bits .and .u64 x7 4294967295)))).upd 14 (.lit (.int .u64 (bits .and .u64 x10 4294967295)))).upd 15 (.lit (.int .u64 x14))).upd 16 (.lit (.int .u64 b.1))).upd 17 (.lit (.int .u64 x24))).upd 18 (.lit (.int .u64 b.2)))) (fun b => Mem.nil) k ((IntKind.wrap .u64 (x24 - x26)), x25) H3 rfl rfl ?_
   rintro n ⟨x28, x29⟩ H
   obtain _ | n := n
   · exact nf rfl H
   rw [g_mb_Div64_l1.eq_2] at H
   show WP _ _ _ _ (((((((((Env.none.upd 2 (.lit (.int .u64 x7))).upd 8 (.lit (.int .u64 (IntKind.wrap .u64 x6)))).upd 9 (.lit (.int .u64 (shrI .u64 x7 32)))).upd 10 (.lit (.int .u64 (bits .and .u64 x7 4294967295)))).upd 14 (.lit (.int .u64 (bits .and .u64 x10 4294967295)))).upd 15 (.lit (.int .u64 x14))).upd 16 (.lit (.int .u64 x28))).upd 17 (.lit (.int .u64 x24))).upd 18 (.lit (.int .u64 x29))) Mem.nil _
   refine WP.seq ?_
   refine WP.seq ?_
   obtain ⟨x30, H4, H⟩ := bnd H
   refine mo .normal ((((((((((Env.none.upd 2 (.lit (.int .u64 x7))).upd 8 (.lit (.int .u64 (IntKind.wrap .u64 x6)))).upd 9 (.lit (.int .u64 (shrI .u64 x7 32)))).upd 10 (.lit (.int .u64 (bits .and .u64 x7 4294967295)))).upd 14 (.lit (.int .u64 (bits .and .u64 x10 4294967295)))).upd 15 (.lit (.int .u64 x14))).upd 16 (.lit (.int .u64 x28))).upd 17 (.lit (.int .u64 x24))).upd 18 (.lit (.int .u64 x29))).upd 113 (.lit (.bool x30))) Mem.nil ?_ ?_
   · clear H
     have H := H4
     clear H4
     iterate 4 refine sp ?_
     refine ws 104 H (fun hb7 H => ?_) fun hb7 H => ?_
     · iterate 9 refine sp ?_
       refine WPL.nilW ?_
       have q0 := j1 H
       subst q0
       exact wq []
     iterate 2 refine sp ?_
     obtain ⟨x31, h22, H⟩ := bnd H
     refine sn (nm_int h22) ?_
     refine sp ?_
     obtain ⟨x32, h23, H⟩ := bnd H
     refine sn (nm_int h23) ?_
     refine sp ?_
     obtain ⟨x33, h24, H⟩ := bnd H
     refine sn (nm_int h24) ?_
     iterate 2 refine sp ?_
     refine WPL.nilW ?_
     have q0 := j1 H
     subst q0
     exact wq []
   iterate 2 refine sp ?_
   refine cd H (fun hb8 H => ?_) fun hb8 H => ?_
   · iterate 12 refine sp ?_
     obtain ⟨x34, h25, H⟩ := bnd H
     refine sn (nm_int h25) ?_
     iterate 6 refine sp ?_
     refine cd H (fun hb9 H => ?_) fun hb9 H => ?_
     · refine sp ?_
       have q0 := j1 H
       subst q0
       exact wq [] (InBlock.x rfl (Then.x r3))
     refine sp ?_
     exact wq [] (InBlock.n (Then.n ⟨n, (x34, (IntKind.wrap .u64 (x29 - 1))), Nat.lt_succ_self n, H, rfl, rfl⟩))
   refine sp ?_
   have q0 := j1 H
   subst q0
   exact wq [] (Then.x (Then.x r3))
 iterate 5 refine sp ?_
 obtain ⟨x35, h26, H⟩ := bnd H
 refine sn (nm_int h26) ?_
 iterate 3 refine sp ?_
 obtain ⟨x36, h27, H⟩ := bnd H
 refine sn (nm_int h27) ?_
 refine sp ?_
 obtain ⟨x37, h28, H⟩ := bnd H
 refine sn (nm_int h28) ?_
 iterate 3 refine sp ?_
 obtain ⟨x38, h29, H⟩ := bnd H
 refine sn (nm_int h29) ?_
 refine sp ?_
 obtain ⟨h29, H⟩ := grd H
 obtain ⟨x39, h30, H⟩ := bnd H
 refine WPL.qq (q_nm (q_shr rfl rfl h29) (nm_int h30)) ?_
 iterate 4 refine sp ?_
 obtain ⟨rfl, rfl⟩ := j2 H
 exact W.now (mb [])
end Go.Proofs.YthpcgknknpjpdaaGreatDoor.W
namespace Go.Proofs.YthpcgknknpjpdaaGreatDoor.W
open Go Go.Q Go.Proofs
set_option linter.unusedVariables false
set_option linter.unusedSimpArgs false
set_option maxRecDepth 100000
set_option maxHeartbeats 4000000
theorem s_dec_wide_by (k : Nat) (x1 : Int) (x2 : Int) (x3 : Int) (x4 : Int) (x5 : Int) (x6 : Int) (H : g_dec_wide_by k x1 x2 x3 = some (x4, x5, x6)) : Go.Q.Spec Tryz.prog 132 0 [.agg [.lit (.int .u64 x1), .lit (.int .u64 x2)], .lit (.int .u64 x3)] Mem.nil (fun o M => o = .ret (.tup [.agg [.lit (.int .u64 x5), .lit (.int .u64 x6)], .lit (.int .u64 x4)]) ∧ M = (Mem.nil.push (.cells 69 [.lit (.int .u64 x5), .lit (.int .u64 x6)]))) := by
 unfold g_dec_wide_by at H
 refine bo Tryz.func132 [(69, 2)] [.cell 4 69, .tmp 5] 28 fun cx hnp => ?_
 iterate 9 refine sp ?_
 obtain ⟨⟨x7, x8⟩, h1, H⟩ := bnd H
 refine WPL.c (rc [] [] 2 [] (s_mb_Div64 k 0 x1 x3 x7 x8 h1) (hargs := .ren rfl rfl (.ren rfl rfl (.ren rfl rfl .nil)))) rfl ?_
 iterate 11 refine sp ?_
 obtain ⟨⟨x9, x10⟩, h2, H⟩ := bnd H
 refine WPL.c (rc [] [] 2 [] (s_mb_Div64 k x8 x2 x3 x9 x10 h2) (hargs := .ren rfl rfl (.ren rfl rfl (.ren rfl rfl .nil)))) rfl ?_
 iterate 15 refine sp ?_
 obtain ⟨rfl, rfl, rfl⟩ := j3 H
 exact W.now (mb [1])
theorem s_mb_Mul64 (k : Nat) (x1 : Int) (x2 : Int) (x3 : Int) (H : g_mb_Mul64 k x1 x2 = some x3) : Go.Q.Spec Tryz.prog 121 0 [.lit (.int .u64 x1), .lit (.int .u64 x2)] Mem.nil (fun o M => o = .ret (.tup [.lit (.int .u64 x3), .lit (.int .u64 (IntKind.wrap .u64 (x1 * x2)))]) ∧ M = Mem.nil) := by
 unfold g_mb_Mul64 at H
 refine bo Tryz.func121 [] [.tmp 4, .tmp 5] 51 fun cx hnp => ?_
 iterate 27 refine sp ?_
 obtain ⟨x4, h1, H⟩ := bnd H
 refine sn (nm_int h1) ?_
 iterate 5 refine sp ?_
 obtain ⟨x5, h2, H⟩ := bnd H
 refine sn (nm_int h2) ?_
 iterate 2 refine sp ?_
 obtain ⟨x6, h3, H⟩ := bnd H
 refine sn (nm_int h3) ?_
 iterate 16 refine sp ?_
 obtain ⟨x7, h4, H⟩ := bnd H
 refine sn (nm_int h4) ?_
 obtain ⟨x8, h5, H⟩ := bnd H
 refine sn (nm_int h5) ?_
 iterate 5 refine sp ?_
 obtain ⟨x9, h6, H⟩ := bnd H
 refine sn (nm_int h6) ?_
 refine sp ?_
 obtain ⟨x10, h7, H⟩ := bnd H
 refine sn (nm_int h7) ?_
 iterate 2 refine sp ?_
 obtain ⟨x11, h8, H⟩ := bnd H
 refine sn (nm_int h8) ?_
 iterate 9 refine sp ?_
 have q0 := j1 H
 subst q0
 exact W.now (mb [])
theorem s_dec_wide_times (k : Nat) (x1 : Int) (x2 : Int) (x3 : Int) (x4 : Bool) (x5 : Int) (H : g_dec_wide_times k x1 x2 x3 = some (x4, x5)) : Go.Q.Spec Tryz.prog 93 0 [.agg [.lit (.int .u64 x1), .lit (.int .u64 x2)], .lit (.int .u64 x3)] Mem.nil (fun o M => o = .ret (.tup [.agg [.lit (.int .u64 x5), .lit (.int .u64 (IntKind.wrap .u64 (x2 * x3)))], .lit (.bool x4)]) ∧ M = (Mem.nil.push (.cells 69 [.lit (.int .u64 x5), .lit (.int .u64 (IntKind.wrap .u64 (x2 * x3)))]))) := by
 unfold g_dec_wide_times at H
 refine bo Tryz.func93 [(69, 2)] [.cell 4 69, .tmp 5] 39 fun cx hnp => ?_
 iterate 9 refine sp ?_
 obtain ⟨x6, h1, H⟩ := bnd H
 refine WPL.c (rc [] [] 2 [] (s_mb_Mul64 k x2 x3 x6 h1)) rfl ?_
 iterate 10 refine sp ?_
 obtain ⟨x7, h2, H⟩ := bnd H
 refine WPL.c (rc [] [] 2 [] (s_mb_Mul64 k x1 x3 x7 h2)) rfl ?_
 iterate 9 refine sp ?_
 refine WPL.qq (q_add64 ex139 rfl rfl rfl rfl rfl) ?_
 iterate 12 refine sp ?_
 obtain ⟨x8, h3, H⟩ := bnd H
 refine sn (nm_int h3) ?_
 iterate 5 refine sp ?_
 obtain ⟨rfl, rfl⟩ := j2 H
 exact W.now (mb [1])
theorem s_dec_wide_tens (k : Nat) (x1 : Int) (x2 : Int) (x3 : Int) (x4 : Bool) (x5 : Int) (x6 : Int) (H : g_dec_wide_tens k x1 x2 x3 = some (x4, x5, x6)) : Go.Q.Spec Tryz.prog 133 0 [.agg [.lit (.int .u64 x1), .lit (.int .u64 x2)], .lit (.int .i64 x3)] Mem.nil (fun o M => o = .ret (.tup [.agg [.lit (.int .u64 x5), .lit (.int .u64 x6)], .lit (.bool x4)]) ∧ M = (Mem.nil.push (.cells 69 [.lit (.int .u64 x5), .lit (.int .u64 x6)]))) := by
 unfold g_dec_wide_tens at H
 refine bo Tryz.func133 [(69, 2)] [.cell 4 69, .tmp 5] 28 fun cx hnp => ?_
 iterate 8 refine sp ?_
 refine WP.seq ?_
 iterate 4 refine sp ?_
 refine WP.cv (Cv.weak (E' := (((((Env.none.upd 1 (.lit (.int .i64 x3))).upd 2 (.ptr 0 0)).upd 4 (.ptr 1 0)).upd 6 (.lit (.bool true))).upd 7 (.lit (.int .i64 0)))) (M' := ((Mem.nil.push (.cells 69 [.lit (.int .u64 x1), .lit (.int .u64 x2)])).push (.cells 69 [.lit (.int .u64 0), .lit (.int .u64 0)]))) [0, 1] hnp ⟨rfl, AA2, by decide, rfl, trivial⟩ (LeE.u (LeE.u (LeE.u (LeE.u (LeE.u (LeE.none rfl rfl))))))) ?_
 obtain ⟨⟨x7, x8, x9⟩, H1, H⟩ := bnd H
 refine mo (.exit 0) (((Env.none.upd 2 (.ptr 0 0)).upd 4 (.ptr 1 0)).upd 6 (.lit (.bool x7))) ((Mem.nil.push (.cells 69 [.lit (.int .u64 x8), .lit (.int .u64 x9)])).push (.cells 69 [.lit (.int .u64 0), .lit (.int .u64 0)])) ?_ ?_
 · refine WP.loop (β := Bool × Int × Int × Int) (fun n b => g_dec_wide_tens_l0 k x3 n b.1 b.2.1 b.2.2.1 b.2.2.2 = some (x7, x8, x9)) (fun b => (((((Env.none.upd 1 (.lit (.int .i64 x3))).upd 2 (.ptr 0 0)).upd 4 (.ptr 1 0)).upd 6 (.lit (.bool b.1))).upd 7 (.lit (.int .i64 b.2.1)))) (fun b => ((Mem.nil.push (.cells 69 [.lit (.int .u64 b.2.2.1), .lit (.int .u64 b.2.2.2)])).push (.cells 69 [.lit (.int .u64 0), .lit (.int .u64 0)]))) k (true, 0, x1, x2) H1 rfl rfl ?_
   rintro n ⟨x10, x11, x12, x13⟩ H
   obtain _ | n := n
   · exact nf rfl H
   rw [g_dec_wide_tens_l0.eq_2] at H
   show WP _ _ _ _ (((((Env.none.upd 1 (.lit (.int .i64 x3))).upd 2 (.ptr 0 0)).upd 4 (.ptr 1 0)).upd 6 (.lit (.bool x10))).upd 7 (.lit (.int .i64 x11))) ((Mem.nil.push (.cells 69 [.lit (.int .u64 x12), .lit (.int .u64 x13)])).push (.cells 69 [.lit (.int .u64 0), .lit (.int .u64 0)])) _
   refine WP.seq ?_
   refine WP.seq ?_
   obtain ⟨x14, H2, H⟩ := bnd H
   refine mo .normal ((((((Env.none.upd 1 (.lit (.int .i64 x3))).upd 2 (.ptr 0 0)).upd 4 (.ptr 1 0)).upd 6 (.lit (.bool x10))).upd 7 (.lit (.int .i64 x11))).upd 18 (.lit (.bool x14))) ((Mem.nil.push (.cells 69 [.lit (.int .u64 x12), .lit (.int .u64 x13)])).push (.cells 69 [.lit (.int .u64 0), .lit (.int .u64 0)])) ?_ ?_
   · clear H
     have H := H2
     clear H2
     iterate 5 refine sp ?_
     refine ws 11 H (fun hb1 H => ?_) fun hb1 H => ?_
     · iterate 3 refine sp ?_
       refine ws 14 H (fun hb2 H => ?_) fun hb2 H => ?_
       · refine sp ?_
         obtain ⟨_, h1, H⟩ := bnd H
         refine WPL.cg rfl rfl (lb hb2) (rc [] [] 2 [] (s_dec_wide_zero k x12 x13 h1)) rfl ?_
         obtain ⟨x15, h2, H⟩ := bnd H
         refine sn (nm_bool h2) ?_
         refine sp ?_
         refine WPL.nilW ?_
         have q0 := j1 H
         subst q0
         exact wq [0, 1]
       iterate 4 refine sp ?_
       refine WPL.nilW ?_
       have q0 := j1 H
       subst q0
       exact wq [0, 1]
     iterate 7 refine sp ?_
     refine WPL.nilW ?_
     have q0 := j1 H
     subst q0
     exact wq [0, 1]
   iterate 2 refine sp ?_
   refine cd H (fun hb3 H => ?_) fun hb3 H => ?_
   · iterate 3 refine sp ?_
     refine WP.seq ?_
     iterate 3 refine sp ?_
     obtain ⟨⟨x16, x17⟩, h3, H⟩ := bnd H
     refine WPL.c (rc [] [2] 3 [] (s_dec_wide_times k x12 x13 10 x16 x17 h3)) rfl ?_
     iterate 5 refine sp ?_
     refine WPL.nilW ?_
     refine sp ?_
     refine InBlock.n ?_
     iterate 5 refine sp ?_
     refine WPL.nilW ?_
     exact wq [0, 1] (Then.n ⟨n, (x16, (IntKind.wrap .i64 (x11 + 1)), x17, (IntKind.wrap .u64 (x13 * 10))), Nat.lt_succ_self n, H, rfl, rfl⟩)
   refine sp ?_
   obtain ⟨rfl, rfl, rfl⟩ := j3 H
   exact wq [0, 1] (Then.x (Then.x r3))
 iterate 10 refine sp ?_
 obtain ⟨rfl, rfl, rfl⟩ := j3 H
 exact W.now (mb [1])
theorem s_dec_num_tell (k : Nat) (x1 : Bool) (x2 : Int) (x3 : Int) (x4 : Int) (x5 : Int) (x6 : Int) (x7 : Int) (H : g_dec_num_tell k x1 x2 x3 x4 = some (x5, x6, x7)) : Go.Q.Spec Tryz.prog 82 0 [.agg [.lit (.bool x1), .lit (.int .u64 x2), .lit (.int .u64 x3), .lit (.int .i64 x4)]] Mem.nil (fun o M => o = .ret (.tup [.agg [.lit (.int .i64 x6), .lit (.int .i64 x7)], .lit (.int .i64 x5)]) ∧ M = (Mem.nil.push (.cells 23 [.lit (.int .i64 x6), .lit (.int .i64 x7)]))) := by
 unfold g_dec_num_tell at H
 refine bo Tryz.func82 [(23, 2)] [.cell 2 23, .tmp 3] 89 fun cx hnp => ?_
 iterate 5 refine sp ?_
 refine WP.seq ?_
 iterate 3 refine sp ?_
 obtain ⟨_, h1, H⟩ := bnd H
 refine WPL.c (rc [] [] 2 [] (s_dec_wide_zero k x2 x3 h1)) rfl ?_
 refine sp ?_
 refine cd H (fun hb1 H => ?_) fun hb1 H => ?_
 · iterate 6 refine sp ?_
   obtain ⟨rfl, rfl, rfl⟩ := j3 H
   exact W.now (Then.r (mb [1]))
 iterate 3 refine sp ?_
 refine WP.seq ?_
 iterate 3 refine sp ?_
 obtain ⟨⟨x8, x9, x10⟩, h2, H⟩ := bnd H
 refine WPL.c (rc [] [2] 3 [] (s_dec_wide_by k x2 x3 10 x8 x9 x10 h2)) rfl ?_
 iterate 8 refine sp ?_
 refine WP.cv (Cv.weak (E' := ((((Env.none.upd 1 (.ptr 0 0)).upd 2 (.ptr 1 0)).upd 4 (.ptr 2 0)).upd 5 (.lit (.int .u64 x8)))) (M' := (((Mem.nil.push (.cells 71 [.lit (.bool x1), .lit (.int .u64 x2), .lit (.int .u64 x3), .lit (.int .i64 x4)])).push (.cells 23 [.lit (.int .i64 0), .lit (.int .i64 0)])).push (.cells 69 [.lit (.int .u64 x9), .lit (.int .u64 x10)]))) [0, 1, 3] hnp ⟨rfl, AA3, by decide, rfl, trivial⟩ (LeE.u (LeE.u (LeE.u (LeE.u (LeE.none rfl rfl)))))) ?_
 obtain ⟨⟨x11, x12, x13⟩, H1, H⟩ := bnd H
 refine mo (.exit 0) ((Env.none.upd 1 (.ptr 0 0)).upd 2 (.ptr 1 0)) ((Mem.nil.push (.cells 71 [.lit (.bool x1), .lit (.int .u64 x11), .lit (.int .u64 x12), .lit (.int .i64 x13)])).push (.cells 23 [.lit (.int .i64 0), .lit (.int .i64 0)])) ?_ ?_
 · refine WP.loop (β := Int × Int × Int × Int × Int × Int) (fun n b => g_dec_num_tell_l0 k n b.1 b.2.1 b.2.2.1 b.2.2.2.1 b.2.2.2.2.1 b.2.2.2.2.2 = some (x11, x12, x13)) (fun b => ((((Env.none.upd 1 (.ptr 0 0)).upd 2 (.ptr 1 0)).upd 4 (.ptr 2 0)).upd 5 (.lit (.int .u64 b.1)))) (fun b => (((Mem.nil.push (.cells 71 [.lit (.bool x1), .lit (.int .u64 b.2.1), .lit (.int .u64 b.2.2.1), .lit (.int .i64 b.2.2.2.1)])).push (.cells 23 [.lit (.int .i64 0), .lit (.int .i64 0)])).push (.cells 69 [.lit (.int .u64 b.2.2.2.2.1), .lit (.int .u64 b.2.2.2.2.2)]))) k (x8, x2, x3, x4, x9, x10) H1 rfl rfl ?_
   rintro n ⟨x14, x15, x16, x17, x18, x19⟩ H
   obtain _ | n := n
   · exact nf rfl H
   rw [g_dec_num_tell_l0.eq_2] at H
   show WP _ _ _ _ ((((Env.none.upd 1 (.ptr 0 0)).upd 2 (.ptr 1 0)).upd 4 (.ptr 2 0)).upd 5 (.lit (.int .u64 x14))) (((Mem.nil.push (.cells 71 [.lit (.bool x1), .lit (.int .u64 x15), .lit (.int .u64 x16), .lit (.int .i64 x17)])).push (.cells 23 [.lit (.int .i64 0), .lit (.int .i64 0)])).push (.cells 69 [.lit (.int .u64 x18), .lit (.int .u64 x19)])) _
   refine WP.seq ?_
   iterate 4 refine sp ?_
   refine cd H (fun hb2 H => ?_) fun hb2 H => ?_
   · iterate 3 refine sp ?_
     refine WP.seq ?_
     iterate 12 refine sp ?_
     refine WPL.nilW ?_
     refine sp ?_
     refine InBlock.n ?_
     refine sp ?_
     refine WP.seq ?_
     iterate 10 refine sp ?_
     obtain ⟨⟨x20, x21, x22⟩, h3, H⟩ := bnd H
     refine WPL.c (rc [] [4] 5 [] (s_dec_wide_by k x18 x19 10 x20 x21 x22 h3)) rfl ?_
     iterate 5 refine sp ?_
     refine WPL.nilW ?_
     exact wq [0, 1, 3] (Then.n ⟨n, (x20, x18, x19, (IntKind.wrap .i64 (x17 + 1)), x21, x22), Nat.lt_succ_self n, H, rfl, rfl⟩)
   refine sp ?_
   obtain ⟨rfl, rfl, rfl⟩ := j3 H
   exact wq [0, 1] (Then.x (Then.x r3))
 iterate 6 refine sp ?_
 refine WP.seq ?_
 obtain ⟨⟨x23, x24, x25, x26⟩, H2, H⟩ := bnd H
 refine mo .normal (((Env.none.upd 1 (.ptr 0 0)).upd 2 (.ptr 1 0)).upd 6 (.lit (.bool x23))) ((Mem.nil.push (.cells 71 [.lit (.bool x1), .lit (.int .u64 x24), .lit (.int .u64 x25), .lit (.int .i64 x26)])).push (.cells 23 [.lit (.int .i64 0), .lit (.int .i64 0)])) ?_ ?_
 · clear H
   have H := H2
   clear H2
   iterate 5 refine sp ?_
   refine cd H (fun hb3 H => ?_) fun hb3 H => ?_
   · iterate 6 refine sp ?_
     obtain ⟨x27, h4, H⟩ := bnd H
     refine sn (nm_int h4) ?_
     obtain ⟨⟨x28, x29, x30⟩, h4, H⟩ := bnd H
     refine WPL.c (rc [] [2] 3 [] (s_dec_wide_tens k x11 x12 x27 x28 x29 x30 h4)) rfl ?_
     iterate 7 refine sp ?_
     refine WP.seq ?_
     obtain ⟨x31, H3, H⟩ := bnd H
     refine mo .normal (((Env.none.upd 1 (.ptr 0 0)).upd 2 (.ptr 1 0)).upd 6 (.lit (.bool x31))) ((Mem.nil.push (.cells 71 [.lit (.bool x1), .lit (.int .u64 x29), .lit (.int .u64 x30), .lit (.int .i64 x13)])).push (.cells 23 [.lit (.int .i64 0), .lit (.int .i64 0)])) ?_ ?_
     · clear H
       have H := H3
       clear H3
       iterate 5 refine sp ?_
       refine cd H (fun hb4 H => ?_) fun hb4 H => ?_
       · iterate 2 refine sp ?_
         refine WPL.nilW ?_
         have q0 := j1 H
         subst q0
         exact wq [0, 1]
       refine sp ?_
       have q0 := j1 H
       subst q0
       exact wq [0, 1]
     iterate 5 refine sp ?_
     refine WPL.nilW ?_
     obtain ⟨rfl, rfl, rfl, rfl⟩ := j4 H
     exact wq [0, 1]
   refine sp ?_
   obtain ⟨rfl, rfl, rfl, rfl⟩ := j4 H
   exact wq [0, 1]
 iterate 5 refine sp ?_
 refine WP.seq ?_
 obtain ⟨x32, H4, H⟩ := bnd H
 refine mo .normal ((((Env.none.upd 1 (.ptr 0 0)).upd 2 (.ptr 1 0)).upd 6 (.lit (.bool x23))).upd 7 (.lit (.int .u64 x32))) ((Mem.nil.push (.cells 71 [.lit (.bool x1), .lit (.int .u64 x24), .lit (.int .u64 x25), .lit (.int .i64 x26)])).push (.cells 23 [.lit (.int .i64 0), .lit (.int .i64 0)])) ?_ ?_
 · clear H
   have H := H4
   clear H4
   iterate 4 refine sp ?_
   refine cd H (fun hb5 H => ?_) fun hb5 H => ?_
   · iterate 2 refine sp ?_
     obtain ⟨x33, h5, H⟩ := bnd H
     refine sn (nm_int h5) ?_
     refine sp ?_
     refine WPL.nilW ?_
     have q0 := j1 H
     subst q0
     exact wq [0, 1]
   refine sp ?_
   have q0 := j1 H
   subst q0
   exact wq [0, 1]
 iterate 2 refine sp ?_
 refine WP.seq ?_
 refine WP.seq ?_
 obtain ⟨x34, H5, H⟩ := bnd H
 refine mo .normal (((Env.none.upd 1 (.ptr 0 0)).upd 2 (.ptr 1 0)).upd 75 (.lit (.bool x34))) ((Mem.nil.push (.cells 71 [.lit (.bool x1), .lit (.int .u64 x24), .lit (.int .u64 x25), .lit (.int .i64 x26)])).push (.cells 23 [.lit (.int .i64 0), .lit (.int .i64 0)])) ?_ ?_
 · clear H
   have H := H5
   clear H5
   iterate 4 refine sp ?_
   refine ws 58 H (fun hb6 H => ?_) fun hb6 H => ?_
   · iterate 17 refine sp ?_
     refine WPL.nilW ?_
     have q0 := j1 H
     subst q0
     exact wq [0, 1]
   iterate 5 refine sp ?_
   refine ws 63 H (fun hb7 H => ?_) fun hb7 H => ?_
   · iterate 12 refine sp ?_
     refine WPL.nilW ?_
     have q0 := j1 H
     subst q0
     exact wq [0, 1]
   iterate 6 refine sp ?_
   refine ws 69 H (fun hb8 H => ?_) fun hb8 H => ?_
   · iterate 6 refine sp ?_
     refine WPL.nilW ?_
     have q0 := j1 H
     subst q0
     exact wq [0, 1]
   iterate 6 refine sp ?_
   refine WPL.nilW ?_
   have q0 := j1 H
   subst q0
   exact wq [0, 1]
 iterate 2 refine sp ?_
 refine cd H (fun hb9 H => ?_) fun hb9 H => ?_
 · iterate 6 refine sp ?_
   obtain ⟨rfl, rfl, rfl⟩ := j3 H
   exact W.now (Then.r (mb [1]))
 iterate 10 refine sp ?_
 refine WP.seq ?_
 obtain ⟨x35, H6, H⟩ := bnd H
 refine mo .normal (((Env.none.upd 1 (.ptr 0 0)).upd 2 (.ptr 1 0)).upd 8 (.lit (.int .i64 x35))) ((Mem.nil.push (.cells 71 [.lit (.bool x1), .lit (.int .u64 x24), .lit (.int .u64 x25), .lit (.int .i64 x26)])).push (.cells 23 [.lit (.int .i64 0), .lit (.int .i64 0)])) ?_ ?_
 · clear H
   have H := H6
   clear H6
   iterate 4 refine sp ?_
   refine cd H (fun hb10 H => ?_) fun hb10 H => ?_
   · iterate 2 refine sp ?_
     obtain ⟨x36, h6, H⟩ := bnd H
     refine sn (nm_int h6) ?_
     refine sp ?_
     refine WPL.nilW ?_
     have q0 := j1 H
     subst q0
     exact wq [0, 1]
   refine sp ?_
   have q0 := j1 H
   subst q0
   exact wq [0, 1]
 iterate 11 refine sp ?_
 obtain ⟨rfl, rfl, rfl⟩ := j3 H
 exact W.now (mb [1])
theorem s_dec_ranged (k : Nat) (x1 : (List S_api_Dec)) (x2 : Bool) (H : g_dec_ranged k x1 = some x2) : Go.Q.Spec Tryz.prog 83 0 [.ro (Rd.slice rdS_api_Dec) true x1] Mem.nil (fun o M => o = .ret (.lit (.bool x2)) ∧ M = Mem.nil) := by
 unfold g_dec_ranged at H
 refine bo Tryz.func83 [] [.tmp 2] 20 fun cx hnp => ?_
 iterate 3 refine sp ?_
 refine WP.seq ?_
 iterate 6 refine sp ?_
 refine WP.cv (Cv.weak (E' := (((Env.none.upd 5 (.ro (Rd.slice rdS_api_Dec) true x1)).upd 6 (.lit (.int .i64 ((List.length x1 : Nat) : Int)))).upd 7 (.lit (.int .i64 0)))) (M' := Mem.nil) [] hnp ⟨rfl, trivial, by decide, rfl, trivial⟩ (LeE.u (LeE.u (LeE.u (LeE.none rfl rfl))))) ?_
 obtain ⟨y1, H1, H⟩ := bnd H
 refine WP.monoW (Q := fun x E M => match (generalizing := false) y1 with | (Sum.inl _) => x = .ret ∧ E = (Env.none.upd 2 (.lit (.bool false))) ∧ M = Mem.nil | (Sum.inr _) => x = .exit 0 ∧ E = Env.none ∧ M = Mem.nil) ?_ ?_
 · refine WP.loop (β := Int) (fun n b => g_dec_ranged_l0 k x1 n b = some y1) (fun b => (((Env.none.upd 5 (.ro (Rd.slice rdS_api_Dec) true x1)).upd 6 (.lit (.int .i64 ((List.length x1 : Nat) : Int)))).upd 7 (.lit (.int .i64 b)))) (fun b => Mem.nil) k 0 H1 rfl rfl ?_
   rintro n x3 H
   obtain _ | n := n
   · exact nf rfl H
   rw [g_dec_ranged_l0.eq_2] at H
   show WP _ _ _ _ (((Env.none.upd 5 (.ro (Rd.slice rdS_api_Dec) true x1)).upd 6 (.lit (.int .i64 ((List.length x1 : Nat) : Int)))).upd 7 (.lit (.int .i64 x3))) Mem.nil _
   refine sp ?_
   obtain ⟨x4, h1, H⟩ := bnd H
   refine sn (nm_bool h1) ?_
   refine sp ?_
   refine WP.seq ?_
   refine cd H (fun hb1 H => ?_) fun hb1 H => ?_
   · iterate 3 refine sp ?_
     refine WP.seq ?_
     iterate 2 refine sp ?_
     obtain ⟨x5, h2, H⟩ := bnd H
     refine sp ?_
     refine WPL.qq (q_load_roag ag23 rfl rfl S_api_Dec.sp) ?_
     iterate 3 refine sp ?_
     refine WP.seq ?_
     obtain ⟨x6, H2, H⟩ := bnd H
     refine mo .normal ((((Env.none.upd 5 (.ro (Rd.slice rdS_api_Dec) true x1)).upd 6 (.lit (.int .i64 ((List.length x1 : Nat) : Int)))).upd 7 (.lit (.int .i64 x3))).upd 18 (.lit (.bool x6))) Mem.nil ?_ ?_
     · clear H
       have H := H2
       clear H2
       iterate 5 refine sp ?_
       refine ws 14 H (fun hb2 H => ?_) fun hb2 H => ?_
       · iterate 4 refine sp ?_
         refine WPL.nilW ?_
         have q0 := j1 H
         subst q0
         exact wq []
       iterate 4 refine sp ?_
       refine WPL.nilW ?_
       have q0 := j1 H
       subst q0
       exact wq []
     iterate 2 refine sp ?_
     refine cd H (fun hb3 H => ?_) fun hb3 H => ?_
     · iterate 4 refine sp ?_
       have q0 := j1 H
       subst q0
       exact wq [] (InBlock.r (Then.r (Then.r r3)))
     iterate 2 refine sp ?_
     refine InBlock.n ?_
     iterate 4 refine sp ?_
     refine WPL.nilW ?_
     exact wq [] (Then.n ⟨n, (IntKind.wrap .i64 (x3 + 1)), Nat.lt_succ_self n, H, rfl, rfl⟩)
   refine sp ?_
   have q0 := j1 H
   subst q0
   exact wq [] (Then.x (Then.x r3))
 rcases y1 with _ | _
 · rintro _ _ _ ⟨rfl, rfl, rfl⟩
   have q0 := j1 H
   subst q0
   exact W.now (InBlock.r (Then.r (mb [])))
 rintro _ _ _ ⟨rfl, rfl, rfl⟩
 iterate 7 refine sp ?_
 have q0 := j1 H
 subst q0
 exact W.now (mb [])
theorem s_dec_Right (k : Nat) (x1 : Int) (x2 : Int) (x3 : Bool) (H : g_dec_Right k x1 x2 = some x3) : Go.Q.Spec Tryz.prog 45 0 [.agg [.lit (.int .i64 x1), .lit (.int .i64 x2)]] Mem.nil (fun o M => o = .ret (.lit (.bool x3)) ∧ M = Mem.nil) := by
 unfold g_dec_Right at H
 refine bo Tryz.func45 [] [.tmp 2] 23 fun cx hnp => ?_
 iterate 6 refine sp ?_
 obtain ⟨x4, h1, H⟩ := bnd H
 refine WPL.c (rc [] [1] 2 [] (s_dec_of k x1 x2 x4 h1)) rfl ?_
 obtain ⟨⟨x5, x6, x7⟩, h2, H⟩ := bnd H
 refine WPL.c (rc [] [2] 3 [] (s_dec_num_tell k (decide (x1 < 0)) 0 x4 x2 x5 x6 x7 h2)) rfl ?_
 iterate 7 refine sp ?_
 refine WP.seq ?_
 obtain ⟨x8, H1, H⟩ := bnd H
 refine mo .normal (Env.none.upd 2 (.lit (.bool x8))) Mem.nil ?_ ?_
 · clear H
   have H := H1
   clear H1
   iterate 2 refine sp ?_
   refine WPL.d (d_buildSlice (ds := ([(⟨x1, x2⟩ : S_api_Dec)] : List S_api_Dec)) (R := rdS_api_Dec) li130 rfl rfl rfl rfl rfl (JoinRows.cons (l := [.lit (.int .i64 x1), .lit (.int .i64 x2)]) (Joins.via (Joins.cons Joins.sc (Joins.cons Joins.sc Joins.unit))) rfl JoinRows.nil) rfl rfl) rfl ?_
   obtain ⟨x9, h3, H⟩ := bnd H
   refine WPL.c (rc [] [] 5 [4] (s_dec_ranged k ([(⟨x1, x2⟩ : S_api_Dec)] : List S_api_Dec) x9 h3)) rfl ?_
   refine sp ?_
   refine ws 14 H (fun hb1 H => ?_) fun hb1 H => ?_
   · iterate 4 refine sp ?_
     refine ws 18 H (fun hb2 H => ?_) fun hb2 H => ?_
     · iterate 2 refine sp ?_
       obtain ⟨x10, h4, H⟩ := bnd H
       refine WPL.gq rfl (lb hb2) (q_nm (q_eqlAg (xs := [(.int .i64 x6), (.int .i64 x7)]) (ys := [(.int .i64 x1), (.int .i64 x2)]) (n := 9) rfl eg23 rfl rfl eq23) (nm_bool h4)) ?_
       iterate 2 refine sp ?_
       refine WPL.nilW ?_
       have q0 := j1 H
       subst q0
       exact wq []
     iterate 5 refine sp ?_
     refine WPL.nilW ?_
     have q0 := j1 H
     subst q0
     exact wq []
   iterate 9 refine sp ?_
   refine WPL.nilW ?_
   have q0 := j1 H
   subst q0
   exact wq []
 iterate 3 refine sp ?_
 have q0 := j1 H
 subst q0
 exact W.now (mb [])
theorem s_val_Of (k : Nat) (x1 : Int) (x2 : Int) (x3 : Int) (x4 : Int) (x5 : Int) (x6 : Int) (x7 : Int) (H : g_val_Of k x1 x2 x3 = some (x4, x5, x6, x7)) : Go.Q.Spec Tryz.prog 12 0 [.agg [.lit (.int .i64 x1), .lit (.int .i64 x2)], .lit (.int .i64 x3)] Mem.nil (fun o M => o = .ret (.agg [.lit (.int .i64 x4), .lit (.int .i64 x5), .lit (.int .i64 x6), .lit (.string (ByteArray.mk #[])), .lit (.bool false), .lit (.int .i64 x7)]) ∧ M = (Mem.nil.push (.cells 29 [.lit (.int .i64 x4), .lit (.int .i64 x5), .lit (.int .i64 x6), .lit (.string (ByteArray.mk #[])), .lit (.bool false), .lit (.int .i64 x7)]))) := by
 unfold g_val_Of at H
 refine bo Tryz.func12 [(29, 6)] [.cell 4 29] 20 fun cx hnp => ?_
 iterate 4 refine sp ?_
 refine WP.seq ?_
 iterate 6 refine sp ?_
 refine cd H (fun hb1 H => ?_) fun hb1 H => ?_
 · refine sp ?_
   obtain ⟨x8, h1, H⟩ := bnd H
   refine WPL.c (rc [] [2] 3 [] (s_val_Err k 1 x8 h1)) rfl ?_
   iterate 3 refine sp ?_
   obtain ⟨rfl, rfl, rfl, rfl⟩ := j4 H
   exact W.now (InBlock.r (Then.r (mb [1])))
 refine WP.seq ?_
 obtain ⟨x9, H1, H⟩ := bnd H
 refine mo .normal (((Env.none.upd 2 (.ptr 0 0)).upd 4 (.ptr 1 0)).upd 9 (.lit (.bool x9))) ((Mem.nil.push (.cells 23 [.lit (.int .i64 x1), .lit (.int .i64 x2)])).push (.cells 29 [.lit (.int .i64 0), .lit (.int .i64 0), .lit (.int .i64 0), .lit (.string (ByteArray.mk #[])), .lit (.bool false), .lit (.int .i64 0)])) ?_ ?_
 · clear H
   have H := H1
   clear H1
   iterate 4 refine sp ?_
   refine ws 12 H (fun hb2 H => ?_) fun hb2 H => ?_
   · iterate 5 refine sp ?_
     refine WPL.nilW ?_
     have q0 := j1 H
     subst q0
     exact wq [0, 1]
   refine sp ?_
   obtain ⟨x10, h2, H⟩ := bnd H
   refine WPL.cg rfl rfl (lb hb2) (rc [] [] 2 [] (s_dec_Right k x1 x2 x10 h2)) rfl ?_
   iterate 3 refine sp ?_
   refine WPL.nilW ?_
   have q0 := j1 H
   subst q0
   exact wq [0, 1]
 iterate 2 refine sp ?_
 refine cd H (fun hb3 H => ?_) fun hb3 H => ?_
 · refine sp ?_
   obtain ⟨x11, h3, H⟩ := bnd H
   refine WPL.c (rc [] [2] 3 [] (s_val_Err k 5 x11 h3)) rfl ?_
   iterate 3 refine sp ?_
   obtain ⟨rfl, rfl, rfl, rfl⟩ := j4 H
   exact W.now (InBlock.r (Then.r (mb [1])))
 iterate 2 refine sp ?_
 refine InBlock.n ?_
 iterate 7 refine sp ?_
 obtain ⟨rfl, rfl, rfl, rfl⟩ := j4 H
 exact W.now (mb [1])
end Go.Proofs.YthpcgknknpjpdaaGreatDoor.W
