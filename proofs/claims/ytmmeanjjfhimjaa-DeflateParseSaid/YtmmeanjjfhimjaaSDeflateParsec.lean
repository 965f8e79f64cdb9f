/- Texts joined: part 3 of what LDeflateParse stands on. -/
import Derived.Test.YtmmeanjjfhimjaaSDeflateParseb
import Derived.Test.YtmmeanjjfhimjaaProg
namespace Go.Proofs.Ytmmeanjjfhimjaa.W
open Go Go.Q Go.Proofs
set_option linter.unusedVariables false
set_option linter.unusedSimpArgs false
structure S_deflate_Item where
  fByte : Int
  fLen : Int
  fDist : Int
  deriving Inhabited, DecidableEq
def rdS_deflate_Item : Rd S_deflate_Item := Rd.via (Rd.pair (Rd.int .i64) (Rd.pair (Rd.int .i64) (Rd.pair (Rd.int .i64) Rd.unit))) fun x => (x.fByte, (x.fLen, (x.fDist, ())))
theorem S_deflate_Item.p0 {d : S_deflate_Item} : PartIs rdS_deflate_Item d 0 (Rd.int .i64) d.fByte := PartIs.via PartIs.here
theorem S_deflate_Item.p1 {d : S_deflate_Item} : PartIs rdS_deflate_Item d 1 (Rd.int .i64) d.fLen := PartIs.via (PartIs.there PartIs.here)
theorem S_deflate_Item.p2 {d : S_deflate_Item} : PartIs rdS_deflate_Item d 2 (Rd.int .i64) d.fDist := PartIs.via (PartIs.there (PartIs.there PartIs.here))
theorem S_deflate_Item.sp {b : Bool} {d : S_deflate_Item} : Splits rdS_deflate_Item b d [.lit (.int .i64 d.fByte), .lit (.int .i64 d.fLen), .lit (.int .i64 d.fDist)] := Splits.via (Splits.pair Splits.sc (Splits.pair Splits.sc (Splits.pair Splits.sc Splits.unit)))
structure S_inflate_run where
  fmany : Int
  flength : Int
  deriving Inhabited, DecidableEq
def rdS_inflate_run : Rd S_inflate_run := Rd.via (Rd.pair (Rd.int .i64) (Rd.pair (Rd.int .i64) Rd.unit)) fun x => (x.fmany, (x.flength, ()))
theorem S_inflate_run.p0 {d : S_inflate_run} : PartIs rdS_inflate_run d 0 (Rd.int .i64) d.fmany := PartIs.via PartIs.here
theorem S_inflate_run.p1 {d : S_inflate_run} : PartIs rdS_inflate_run d 1 (Rd.int .i64) d.flength := PartIs.via (PartIs.there PartIs.here)
theorem S_inflate_run.sp {b : Bool} {d : S_inflate_run} : Splits rdS_inflate_run b d [.lit (.int .i64 d.fmany), .lit (.int .i64 d.flength)] := Splits.via (Splits.pair Splits.sc (Splits.pair Splits.sc Splits.unit))
structure S_huff_coin where
  ffreq : Int
  fsyms : (List Int)
  deriving Inhabited, DecidableEq
def rdS_huff_coin : Rd S_huff_coin := Rd.via (Rd.pair (Rd.int .i64) (Rd.pair (Rd.slice (Rd.int .i64)) Rd.unit)) fun x => (x.ffreq, (x.fsyms, ()))
theorem S_huff_coin.p0 {d : S_huff_coin} : PartIs rdS_huff_coin d 0 (Rd.int .i64) d.ffreq := PartIs.via PartIs.here
theorem S_huff_coin.p1 {d : S_huff_coin} : PartIs rdS_huff_coin d 1 (Rd.slice (Rd.int .i64)) d.fsyms := PartIs.via (PartIs.there PartIs.here)
theorem S_huff_coin.sp {b : Bool} {d : S_huff_coin} : Splits rdS_huff_coin b d [.lit (.int .i64 d.ffreq), .ro (Rd.slice (Rd.int .i64)) b d.fsyms] := Splits.via (Splits.pair Splits.sc (Splits.pair (Splits.one rfl) Splits.unit))
structure S_quireref04_Item where
  fByte : Int
  fLen : Int
  fDist : Int
  deriving Inhabited, DecidableEq
def rdS_quireref04_Item : Rd S_quireref04_Item := Rd.via (Rd.pair (Rd.int .i64) (Rd.pair (Rd.int .i64) (Rd.pair (Rd.int .i64) Rd.unit))) fun x => (x.fByte, (x.fLen, (x.fDist, ())))
theorem S_quireref04_Item.p0 {d : S_quireref04_Item} : PartIs rdS_quireref04_Item d 0 (Rd.int .i64) d.fByte := PartIs.via PartIs.here
theorem S_quireref04_Item.p1 {d : S_quireref04_Item} : PartIs rdS_quireref04_Item d 1 (Rd.int .i64) d.fLen := PartIs.via (PartIs.there PartIs.here)
theorem S_quireref04_Item.p2 {d : S_quireref04_Item} : PartIs rdS_quireref04_Item d 2 (Rd.int .i64) d.fDist := PartIs.via (PartIs.there (PartIs.there PartIs.here))
theorem S_quireref04_Item.sp {b : Bool} {d : S_quireref04_Item} : Splits rdS_quireref04_Item b d [.lit (.int .i64 d.fByte), .lit (.int .i64 d.fLen), .lit (.int .i64 d.fDist)] := Splits.via (Splits.pair Splits.sc (Splits.pair Splits.sc (Splits.pair Splits.sc Splits.unit)))
def g_bits_NewWriter (k : Nat) : Option Unit := some ()
def g_bits_each (k : Nat) (x49 : Int) (x50 : Int) : Option Unit := some ()
def g_bits_Writer_Put_l0 (k : Nat) (x35 : Int) (x36 : Int) : Nat → Int → Int → (List Int) → Option (Int × (List Int))
  | 0, _, _, _ => none
  | n + 1, x377, x378, x379 => (bif (decide (x377 < x36)) then (bif (decide (0 ≤ x377)) then ((some (bits .and .u8 (IntKind.wrap .u8 (shrI .u32 x35 x377)) 1)).bind fun x477 => (((bif (decide ((Int.tmod x378 8) = 0)) then (bif (decide (((List.length x379) + (List.length ([0] : List Int))) * 1 ≤ 140737488355328)) then some (x379 ++ ([0] : List Int)) else none) else some x379) : Option (List Int)).bind fun x483 => ((some (IntKind.wrap .i64 (((List.length x483 : Nat) : Int) - 1))).bind fun x501 => ((ix x483 x501).bind fun x502 => (bif (decide (0 ≤ (Int.tmod x378 8))) then ((some (bits .or .u8 x502 (shlI .u8 x477 (Int.tmod x378 8)))).bind fun x504 => ((ix x483 x501).bind fun x505 => (g_bits_Writer_Put_l0 k x35 x36 n (IntKind.wrap .i64 (x377 + 1)) (IntKind.wrap .i64 (x378 + 1)) (List.set x483 (Int.toNat x501) x504)))) else none))))) else none) else some (x378, x379))
theorem g_bits_Writer_Put_l0_eqs : True := by have := @g_bits_Writer_Put_l0.eq_2; trivial
def g_bits_Writer_Put (k : Nat) (x35 : Int) (x36 : Int) (x37 : Int) : Option (Int × Int × (List Int)) := (((bif (decide (x36 < 0)) then some true else some (decide (32 < x36))) : Option Bool).bind fun x251 => (bif x251 then some (1, x37, ([] : List Int)) else ((g_bits_each k x35 x36).bind fun _ => ((g_bits_Writer_Put_l0 k x35 x36 k 0 x37 ([] : List Int)).bind fun (x442, x443) => some (0, x442, x443)))))
def g_bits_Writer_Align (k : Nat) (x511 : Int) (x512 : (List Int)) : Option Int := ((some (IntKind.wrap .i64 (8 * ((List.length x512 : Nat) : Int)))).bind fun x516 => some x516)
def g_bits_Writer_Put__b_l0 (k : Nat) (x519 : Int) (x520 : Int) : Nat → Int → Int → (List Int) → Option (Int × (List Int))
  | 0, _, _, _ => none
  | n + 1, x739, x740, x741 => (bif (decide (x739 < x520)) then (bif (decide (0 ≤ x739)) then ((some (bits .and .u8 (IntKind.wrap .u8 (shrI .u32 x519 x739)) 1)).bind fun x839 => (((bif (decide ((Int.tmod x740 8) = 0)) then (bif (decide (((List.length x741) + (List.length ([0] : List Int))) * 1 ≤ 140737488355328)) then some (x741 ++ ([0] : List Int)) else none) else some x741) : Option (List Int)).bind fun x845 => ((some (IntKind.wrap .i64 (((List.length x845 : Nat) : Int) - 1))).bind fun x863 => ((ix x845 x863).bind fun x864 => (bif (decide (0 ≤ (Int.tmod x740 8))) then ((some (bits .or .u8 x864 (shlI .u8 x839 (Int.tmod x740 8)))).bind fun x866 => ((ix x845 x863).bind fun x867 => (g_bits_Writer_Put__b_l0 k x519 x520 n (IntKind.wrap .i64 (x739 + 1)) (IntKind.wrap .i64 (x740 + 1)) (List.set x845 (Int.toNat x863) x866)))) else none))))) else none) else some (x740, x741))
theorem g_bits_Writer_Put__b_l0_eqs : True := by have := @g_bits_Writer_Put__b_l0.eq_2; trivial
def g_bits_Writer_Put__b (k : Nat) (x519 : Int) (x520 : Int) (x521 : Int) (x522 : (List Int)) : Option (Int × Int × (List Int)) := (((bif (decide (x520 < 0)) then some true else some (decide (32 < x520))) : Option Bool).bind fun x673 => (bif x673 then some (1, x521, x522) else ((g_bits_each k x519 x520).bind fun _ => ((g_bits_Writer_Put__b_l0 k x519 x520 k 0 x521 x522).bind fun (x804, x805) => some (0, x804, x805)))))
def g_bits_Writer_Bytes (k : Nat) (x879 : (List Int)) (x880 : Int) (x881 : (List Int)) : Option Int := (bif (decide (((List.length x881) + (List.length x879)) * 1 ≤ 140737488355328)) then ((some (IntKind.wrap .i64 (8 * ((List.length (x881 ++ x879) : Nat) : Int)))).bind fun x887 => some x887) else none)
def g_slices_Clone_byte_byte (k : Nat) (x1045 : List Int) : Option (List Int) := bif decide ((List.length ([] : List Int) + List.length x1045) * 1 ≤ 140737488355328) then some x1045 else none
def g_bits_Writer_Done (k : Nat) (x1042 : Int) (x1043 : (List Int)) : Option (List Int) := ((g_slices_Clone_byte_byte k x1043).bind fun x1051 => some x1051)
def g_deflate_stored_l0 (k : Nat) : Nat → (List Int) → Bool → Int → (List Int) → Option (Int × (List Int))
  | 0, _, _, _, _ => none
  | n + 1, x1160, x1161, x1162, x1163 => (((bif x1161 then some true else ((some (decide (0 < ((List.length x1160 : Nat) : Int)))).bind fun x1243 => some x1243)) : Option Bool).bind fun x1241 => (bif x1241 then ((some (if (65535 : Int) < ((List.length x1160 : Nat) : Int) then (65535 : Int) else ((List.length x1160 : Nat) : Int))).bind fun x1272 => ((((some (decide (x1272 = ((List.length x1160 : Nat) : Int)))).bind fun x1276 => (bif x1276 then some 1 else some 0)) : Option Int).bind fun x1275 => ((g_bits_Writer_Put__b k x1275 3 x1162 x1163).bind fun (x1280, x1281, x1282) => ((g_bits_Writer_Align k x1281 x1282).bind fun x1284 => ((g_bits_Writer_Put__b k (IntKind.wrap .u32 x1272) 16 x1284 x1282).bind fun (x1286, x1287, x1288) => ((some (bits .xor .u32 (if IntKind.signed .u32 then -1 else IntKind.max .u32) (IntKind.wrap .u32 x1272))).bind fun x1289 => ((g_bits_Writer_Put__b k x1289 16 x1287 x1288).bind fun (x1291, x1292, x1293) => (bif (decide (0 ≤ (0 : Int) ∧ (0 : Int) ≤ x1272 ∧ x1272 ≤ ((List.length x1160 : Nat) : Int))) then ((g_bits_Writer_Bytes k (List.drop (Int.toNat 0) (List.take (Int.toNat x1272) x1160)) x1292 x1293).bind fun x1296 => (bif (decide (0 ≤ (x1272 : Int) ∧ (x1272 : Int) ≤ ((List.length x1160 : Nat) : Int) ∧ ((List.length x1160 : Nat) : Int) ≤ ((List.length x1160 : Nat) : Int))) then (g_deflate_stored_l0 k n (List.drop (Int.toNat x1272) (List.take (Int.toNat ((List.length x1160 : Nat) : Int)) x1160)) false x1296 (x1293 ++ (List.drop (Int.toNat 0) (List.take (Int.toNat x1272) x1160)))) else none)) else none)))))))) else some (x1162, x1163)))
theorem g_deflate_stored_l0_eqs : True := by have := @g_deflate_stored_l0.eq_2; trivial
def g_deflate_stored (k : Nat) (x24 : (List Int)) : Option (List Int) := ((g_bits_NewWriter k).bind fun _ => ((g_deflate_stored_l0 k k x24 true 0 ([] : List Int)).bind fun (x1230, x1231) => ((g_bits_Writer_Done k x1230 x1231).bind fun x1300 => some x1300)))
def g_deflate_items (k : Nat) (x1307 : (List Int)) : Option Unit := some ()
def g_deflate_matcher_learn_l0 (k : Nat) (x1339 : Int) (x1340 : (List Int)) : Nat → Int → (List ((Int × Int × Int) × Int)) → (List Int) → Option (Int × (List ((Int × Int × Int) × Int)) × (List Int))
  | 0, _, _, _ => none
  | n + 1, x1517, x1518, x1519 => (((bif (decide (x1517 < x1339)) then ((some (decide ((IntKind.wrap .i64 (x1517 + 3)) ≤ ((List.length x1340 : Nat) : Int)))).bind fun x1596 => some x1596) else some false) : Option Bool).bind fun x1592 => (bif x1592 then (bif (decide (0 ≤ (x1517 : Int) ∧ (x1517 : Int) ≤ (IntKind.wrap .i64 (x1517 + 3)) ∧ (IntKind.wrap .i64 (x1517 + 3)) ≤ ((List.length x1340 : Nat) : Int))) then (bif (decide (3 ≤ List.length (List.drop (Int.toNat x1517) (List.take (Int.toNat (IntKind.wrap .i64 (x1517 + 3))) x1340)))) then ((some (mapGet x1518 ((List.getD (List.drop (Int.toNat x1517) (List.take (Int.toNat (IntKind.wrap .i64 (x1517 + 3))) x1340)) 0 (0 : Int)), (List.getD (List.drop (Int.toNat x1517) (List.take (Int.toNat (IntKind.wrap .i64 (x1517 + 3))) x1340)) 1 (0 : Int)), (List.getD (List.drop (Int.toNat x1517) (List.take (Int.toNat (IntKind.wrap .i64 (x1517 + 3))) x1340)) 2 (0 : Int))))).bind fun x1623 => (((bif (!(Option.isSome x1623)) then some (-1) else some (Option.getD x1623 (0 : Int))) : Option Int).bind fun x1626 => ((ix x1519 x1517).bind fun x1630 => (g_deflate_matcher_learn_l0 k x1339 x1340 n (IntKind.wrap .i64 (x1517 + 1)) (mapPut x1518 ((List.getD (List.drop (Int.toNat x1517) (List.take (Int.toNat (IntKind.wrap .i64 (x1517 + 3))) x1340)) 0 (0 : Int)), (List.getD (List.drop (Int.toNat x1517) (List.take (Int.toNat (IntKind.wrap .i64 (x1517 + 3))) x1340)) 1 (0 : Int)), (List.getD (List.drop (Int.toNat x1517) (List.take (Int.toNat (IntKind.wrap .i64 (x1517 + 3))) x1340)) 2 (0 : Int))) x1517) (List.set x1519 (Int.toNat x1517) x1626))))) else none) else none) else some (x1517, x1518, x1519)))
theorem g_deflate_matcher_learn_l0_eqs : True := by have := @g_deflate_matcher_learn_l0.eq_2; trivial
def g_deflate_matcher_learn (k : Nat) (x1339 : Int) (x1340 : (List Int)) (x1341 : Int) (x1342 : (List ((Int × Int × Int) × Int))) (x1343 : (List Int)) : Option (Int × (List ((Int × Int × Int) × Int)) × (List Int)) := ((g_deflate_matcher_learn_l0 k x1339 x1340 k x1341 x1342 x1343).bind fun (x1574, x1575, x1576) => some (x1574, x1575, x1576))
def g_deflate_matcher_longest_l1 (k : Nat) (x1329 : Int) (x1330 : (List Int)) (x2440 : Int) : Nat → Int → Option Int
  | 0, _ => none
  | n + 1, x2835 => (((bif (decide (x2835 < 258)) then ((some (decide ((IntKind.wrap .i64 (x1329 + x2835)) < ((List.length x1330 : Nat) : Int)))).bind fun x2931 => (bif x2931 then ((ix x1330 (IntKind.wrap .i64 (x2440 + x2835))).bind fun x2933 => ((ix x1330 (IntKind.wrap .i64 (x1329 + x2835))).bind fun x2934 => some (decide (x2933 = x2934)))) else some false)) else some false) : Option Bool).bind fun x2923 => (bif x2923 then (g_deflate_matcher_longest_l1 k x1329 x1330 x2440 n (IntKind.wrap .i64 (x2835 + 1))) else some x2835))
theorem g_deflate_matcher_longest_l1_eqs : True := by have := @g_deflate_matcher_longest_l1.eq_2; trivial
def g_deflate_matcher_longest_l0 (k : Nat) (x1329 : Int) (x1330 : (List Int)) (x2159 : (List Int)) : Nat → Int → Int → Int → Int → Option (Int × Int)
  | 0, _, _, _, _ => none
  | n + 1, x2440, x2441, x2442, x2443 => (bif (decide (x2443 < 32)) then (((bif (decide (x2440 < 0)) then some true else ((some (decide (32768 < (IntKind.wrap .i64 (x1329 - x2440))))).bind fun x2794 => some x2794)) : Option Bool).bind fun x2792 => (bif x2792 then some (x2441, x2442) else ((g_deflate_matcher_longest_l1 k x1329 x1330 x2440 k 0).bind fun x2886 => (((bif (decide (x2441 < x2886)) then some (x2886, (IntKind.wrap .i64 (x1329 - x2440))) else some (x2441, x2442)) : Option (Int × Int)).bind fun (x2939, x2940) => ((ix x2159 x2440).bind fun x2943 => (g_deflate_matcher_longest_l0 k x1329 x1330 x2159 n x2943 x2939 x2940 (IntKind.wrap .i64 (x2443 + 1)))))))) else some (x2441, x2442))
theorem g_deflate_matcher_longest_l0_eqs : True := by have := @g_deflate_matcher_longest_l0.eq_2; trivial
def g_deflate_matcher_longest (k : Nat) (x1329 : Int) (x1330 : (List Int)) (x1331 : Int) (x1332 : (List ((Int × Int × Int) × Int))) (x1333 : (List Int)) : Option (Int × Int × Int × (List ((Int × Int × Int) × Int)) × (List Int)) := ((some (decide (((List.length x1330 : Nat) : Int) < (IntKind.wrap .i64 (x1329 + 3))))).bind fun x2154 => (bif x2154 then some (0, 0, x1331, x1332, x1333) else ((g_deflate_matcher_learn k x1329 x1330 x1331 x1332 x1333).bind fun (x2157, x2158, x2159) => (bif (decide (0 ≤ (x1329 : Int) ∧ (x1329 : Int) ≤ (IntKind.wrap .i64 (x1329 + 3)) ∧ (IntKind.wrap .i64 (x1329 + 3)) ≤ ((List.length x1330 : Nat) : Int))) then (bif (decide (3 ≤ List.length (List.drop (Int.toNat x1329) (List.take (Int.toNat (IntKind.wrap .i64 (x1329 + 3))) x1330)))) then ((some (mapGet x2158 ((List.getD (List.drop (Int.toNat x1329) (List.take (Int.toNat (IntKind.wrap .i64 (x1329 + 3))) x1330)) 0 (0 : Int)), (List.getD (List.drop (Int.toNat x1329) (List.take (Int.toNat (IntKind.wrap .i64 (x1329 + 3))) x1330)) 1 (0 : Int)), (List.getD (List.drop (Int.toNat x1329) (List.take (Int.toNat (IntKind.wrap .i64 (x1329 + 3))) x1330)) 2 (0 : Int))))).bind fun x2170 => (bif (!(Option.isSome x2170)) then some (0, 0, x2157, x2158, x2159) else ((g_deflate_matcher_longest_l0 k x1329 x1330 x2159 k (Option.getD x2170 (0 : Int)) 0 0 0).bind fun (x2668, x2669) => some (x2668, x2669, x2157, x2158, x2159)))) else none) else none))))
def g_slices_AppendSeq_deflate_Item_deflate_Item_l0 (k : Nat) (x1312 : (List Int)) : Nat → Int → Int → (List ((Int × Int × Int) × Int)) → (List Int) → (List S_deflate_Item) → Option (List S_deflate_Item)
  | 0, _, _, _, _, _ => none
  | n + 1, x3113, x3114, x3115, x3116, x3117 => ((some (decide (x3113 < ((List.length x1312 : Nat) : Int)))).bind fun x3152 => (bif x3152 then ((ix x1312 x3113).bind fun x3154 => ((((g_deflate_matcher_longest k x3113 x1312 x3114 x3115 x3116).bind fun (x3170, x3171, x3172, x3173, x3174) => (bif (decide (3 ≤ x3170)) then some (x3170, x3172, x3173, x3174, 0, x3170, x3171) else some (1, x3172, x3173, x3174, (IntKind.wrap .i64 x3154), 0, 0))) : Option (Int × Int × (List ((Int × Int × Int) × Int)) × (List Int) × Int × Int × Int)).bind fun (x3162, x3163, x3164, x3165, x3166, x3167, x3168) => (bif (decide (((List.length x3117) + (List.length ([(⟨x3166, x3167, x3168⟩ : S_deflate_Item)] : List S_deflate_Item))) * 24 ≤ 140737488355328)) then (g_slices_AppendSeq_deflate_Item_deflate_Item_l0 k x1312 n (IntKind.wrap .i64 (x3113 + x3162)) x3163 x3164 x3165 (x3117 ++ ([(⟨x3166, x3167, x3168⟩ : S_deflate_Item)] : List S_deflate_Item))) else none))) else some x3117))
theorem g_slices_AppendSeq_deflate_Item_deflate_Item_l0_eqs : True := by have := @g_slices_AppendSeq_deflate_Item_deflate_Item_l0.eq_2; trivial
def g_slices_AppendSeq_deflate_Item_deflate_Item (k : Nat) (x1312 : (List Int)) : Option (List S_deflate_Item) := ((bif (decide (0 ≤ (((List.length x1312 : Nat) : Int) : Int) ∧ (((List.length x1312 : Nat) : Int) : Int) ≤ ((List.length x1312 : Nat) : Int) ∧ (8 : Int) * ((List.length x1312 : Nat) : Int) ≤ 281474976710656 ∧ (((List.length x1312 : Nat) : Int) : Int) ≤ 9223372036854775807)) then some () else none).bind fun _ => ((g_slices_AppendSeq_deflate_Item_deflate_Item_l0 k x1312 k 0 0 ([] : List ((Int × Int × Int) × Int)) (List.replicate (Int.toNat ((List.length x1312 : Nat) : Int)) (0 : Int)) ([] : List S_deflate_Item)).bind fun x3149 => some x3149))
def g_slices_Collect_deflate_Item (k : Nat) (x1310 : (List Int)) : Option (List S_deflate_Item) := ((g_slices_AppendSeq_deflate_Item_deflate_Item k x1310).bind fun x3186 => some x3186)
def g_deflate_Parse (k : Nat) (x1305 : (List Int)) : Option (List S_deflate_Item) := ((g_deflate_items k x1305).bind fun _ => ((g_slices_Collect_deflate_Item k x1305).bind fun x3192 => some x3192))
def g_inflate_laid_l1 (k : Nat) (x3306 : S_inflate_run) : Nat → Int → (List Int) → Option (List Int)
  | 0, _, _ => none
  | n + 1, x3310, x3311 => (bif (decide (x3310 < x3306.fmany)) then (bif (decide (((List.length x3311) + (List.length ([x3306.flength] : List Int))) * 8 ≤ 140737488355328)) then (g_inflate_laid_l1 k x3306 n (IntKind.wrap .i64 (x3310 + 1)) (x3311 ++ ([x3306.flength] : List Int))) else none) else some x3311)
theorem g_inflate_laid_l1_eqs : True := by have := @g_inflate_laid_l1.eq_2; trivial
def g_inflate_laid_l0 (k : Nat) (x3203 : (List S_inflate_run)) : Nat → Int → (List Int) → Option (List Int)
  | 0, _, _ => none
  | n + 1, x3286, x3287 => ((some (decide (x3286 < ((List.length x3203 : Nat) : Int)))).bind fun x3303 => (bif x3303 then ((ix x3203 x3286).bind fun x3306 => ((g_inflate_laid_l1 k x3306 k 0 x3287).bind fun x3315 => (g_inflate_laid_l0 k x3203 n (IntKind.wrap .i64 (x3286 + 1)) x3315))) else some x3287))
theorem g_inflate_laid_l0_eqs : True := by have := @g_inflate_laid_l0.eq_2; trivial
def g_inflate_laid (k : Nat) (x3203 : (List S_inflate_run)) : Option (List Int) := ((g_inflate_laid_l0 k x3203 k 0 ([] : List Int)).bind fun x3302 => some x3302)
def g_inflate_FixedLit (k : Nat) : Option (List Int) := ((g_inflate_laid k ([(⟨144, 8⟩ : S_inflate_run), (⟨112, 9⟩ : S_inflate_run), (⟨24, 7⟩ : S_inflate_run), (⟨8, 8⟩ : S_inflate_run)] : List S_inflate_run)).bind fun x3325 => some x3325)
def g_inflate_FixedDist (k : Nat) : Option (List Int) := ((g_inflate_laid k ([(⟨32, 5⟩ : S_inflate_run)] : List S_inflate_run)).bind fun x3333 => some x3333)
def g_huff_judged_l0 (k : Nat) (x3343 : (List Int)) : Nat → Int → Int → Int → Option (Unit ⊕ (Int × Int))
  | 0, _, _, _ => none
  | n + 1, x3483, x3484, x3485 => ((some (decide (x3485 < ((List.length x3343 : Nat) : Int)))).bind fun x3523 => (bif x3523 then ((((ix x3343 x3485).bind fun x3542 => (((bif (decide (x3542 < 0)) then some true else some (decide (15 < x3542))) : Option Bool).bind fun x3549 => (bif x3549 then some (Sum.inl ()) else (bif (decide (0 < x3542)) then (bif (decide (0 ≤ (IntKind.wrap .i64 (15 - x3542)))) then ((some (shlI .i64 1 (IntKind.wrap .i64 (15 - x3542)))).bind fun x3555 => some (Sum.inr ((IntKind.wrap .i64 (x3483 - x3555)), (IntKind.wrap .i64 (x3484 + 1))))) else none) else some (Sum.inr (x3483, x3484)))))) : Option (Unit ⊕ (Int × Int))).bind fun y3557 => match y3557 with | (Sum.inl _) => some (Sum.inl ()) | (Sum.inr (x3540, x3541)) => (g_huff_judged_l0 k x3343 n x3540 x3541 (IntKind.wrap .i64 (x3485 + 1)))) else some (Sum.inr (x3483, x3484))))
theorem g_huff_judged_l0_eqs : True := by have := @g_huff_judged_l0.eq_2; trivial
def g_huff_judged (k : Nat) (x3343 : (List Int)) : Option (Bool × Int) := ((some (decide (320 < ((List.length x3343 : Nat) : Int)))).bind fun x3446 => (bif x3446 then some (false, 1) else (((g_huff_judged_l0 k x3343 k 32768 0 0) : Option (Unit ⊕ (Int × Int))).bind fun y3559 => match y3559 with | (Sum.inl _) => some (false, 1) | (Sum.inr (x3521, x3522)) => (bif (decide (x3521 = 0)) then some (true, 0) else (((bif (decide (x3522 = 0)) then some (decide (x3522 = 0)) else (bif (decide (x3522 = 1)) then some (decide (x3521 = 16384)) else some false)) : Option Bool).bind fun x3571 => (bif x3571 then some (false, 0) else some (false, 11)))))))
def g_huff_of (k : Nat) (x3585 : (List Int)) (x3586 : Int) : Option Unit := some ()
def g_huff_Codes_l1 (k : Nat) (x3341 : (List Int)) (x3951 : Int) : Nat → Int → (List Int) → Int → Option (((List Int) × Int) ⊕ ((List Int) × Int))
  | 0, _, _, _ => none
  | n + 1, x4061, x4062, x4063 => ((some (decide (x4061 < ((List.length x3341 : Nat) : Int)))).bind fun x4095 => (bif x4095 then ((ix x3341 x4061).bind fun x4110 => (((bif (decide (x4110 = x3951)) then ((ix x4062 x4061).bind fun x4119 => some ((!true), (List.set x4062 (Int.toNat x4061) x4063), (IntKind.wrap .u32 (x4063 + 1)))) else some (false, x4062, x4063)) : Option (Bool × (List Int) × Int)).bind fun (x4114, x4115, x4116) => (bif x4114 then some (Sum.inl (x4115, x4116)) else (g_huff_Codes_l1 k x3341 x3951 n (IntKind.wrap .i64 (x4061 + 1)) x4115 x4116)))) else some (Sum.inr (x4062, x4063))))
theorem g_huff_Codes_l1_eqs : True := by have := @g_huff_Codes_l1.eq_2; trivial
def g_huff_Codes_l0 (k : Nat) (x3341 : (List Int)) : Nat → Int → (List Int) → Int → Option (List Int)
  | 0, _, _, _ => none
  | n + 1, x3951, x3952, x3953 => (bif (decide (x3951 ≤ 15)) then ((g_huff_of k x3341 x3951).bind fun _ => (((g_huff_Codes_l1 k x3341 x3951 k 0 x3952 (shlI .u32 x3953 1)) : Option (((List Int) × Int) ⊕ ((List Int) × Int))).bind fun y4123 => match y4123 with | (Sum.inl (x4091, x4092)) => (g_huff_Codes_l0 k x3341 n (IntKind.wrap .i64 (x3951 + 1)) x4091 x4092) | (Sum.inr (x4093, x4094)) => (g_huff_Codes_l0 k x3341 n (IntKind.wrap .i64 (x3951 + 1)) x4093 x4094))) else some x3952)
theorem g_huff_Codes_l0_eqs : True := by have := @g_huff_Codes_l0.eq_2; trivial
def g_huff_Codes (k : Nat) (x3341 : (List Int)) : Option ((List Int) × Int) := ((g_huff_judged k x3341).bind fun (x3809, x3810) => (bif (!decide (x3810 = 0)) then some (([] : List Int), x3810) else (bif (decide (0 ≤ (((List.length x3341 : Nat) : Int) : Int) ∧ (((List.length x3341 : Nat) : Int) : Int) ≤ ((List.length x3341 : Nat) : Int) ∧ (4 : Int) * ((List.length x3341 : Nat) : Int) ≤ 281474976710656 ∧ (((List.length x3341 : Nat) : Int) : Int) ≤ 9223372036854775807)) then ((g_huff_Codes_l0 k x3341 k 1 (List.replicate (Int.toNat ((List.length x3341 : Nat) : Int)) (0 : Int)) 0).bind fun x4025 => some (x4025, 0)) else none)))
def g_deflate_coded (k : Nat) (x3336 : (List Int)) (x3337 : (List Int)) (x3338 : Int) (x3339 : (List Int)) : Option ((List Int) × (List Int)) := ((g_huff_Codes k x3336).bind fun (x4134, x4135) => ((g_huff_Codes k x3337).bind fun (x4137, x4138) => some (x4134, x4137)))
def g_math_bits_ReverseBytes32 (k : Nat) (x4176 : Int) : Option Int := ((some (bits .and .u32 (shrI .u32 x4176 8) 16711935)).bind fun x4182 => ((some (shlI .u32 (bits .and .u32 x4176 16711935) 8)).bind fun x4183 => ((some (bits .or .u32 (shrI .u32 (bits .or .u32 x4182 x4183) 16) (shlI .u32 (bits .or .u32 x4182 x4183) 16))).bind fun x4184 => some x4184)))
def g_math_bits_Reverse32 (k : Nat) (x4167 : Int) : Option Int := ((some (bits .and .u32 (shrI .u32 x4167 1) 1431655765)).bind fun x4188 => ((some (shlI .u32 (bits .and .u32 x4167 1431655765) 1)).bind fun x4189 => ((some (bits .and .u32 (shrI .u32 (bits .or .u32 x4188 x4189) 2) 858993459)).bind fun x4190 => ((some (bits .and .u32 (bits .or .u32 x4188 x4189) 858993459)).bind fun x4191 => ((some (shrI .u32 (bits .or .u32 x4190 (shlI .u32 x4191 2)) 4)).bind fun x4192 => ((some (bits .and .u32 (bits .or .u32 x4190 (shlI .u32 x4191 2)) 252645135)).bind fun x4193 => ((some (bits .or .u32 (bits .and .u32 x4192 252645135) (shlI .u32 x4193 4))).bind fun x4194 => ((g_math_bits_ReverseBytes32 k x4194).bind fun x4196 => some x4196))))))))
def g_bits_Reverse (k : Nat) (x4162 : Int) (x4163 : Int) : Option Int := ((some (if (0 : Int) > x4163 then (0 : Int) else x4163)).bind fun x4203 => ((some (if (32 : Int) < x4203 then (32 : Int) else x4203)).bind fun x4204 => ((g_math_bits_Reverse32 k x4162).bind fun x4206 => ((some (IntKind.wrap .u64 (IntKind.wrap .i64 (32 - x4204)))).bind fun x4207 => (bif (decide (0 ≤ x4207)) then ((some (shrI .u64 (IntKind.wrap .u64 x4206) x4207)).bind fun x4209 => some (IntKind.wrap .u32 x4209)) else none)))))
def g_deflate_put (k : Nat) (x4157 : Int) (x4158 : Int) (x4159 : Int) (x4160 : (List Int)) : Option (Int × (List Int)) := ((g_bits_Reverse k x4157 x4158).bind fun x4219 => ((g_bits_Writer_Put__b k x4219 x4158 x4159 x4160).bind fun (x4221, x4222, x4223) => some (x4222, x4223)))
def g_inflate_Lit (k : Nat) (x4251 : Int) : Option (Int × Int × Bool) := (((bif (decide (x4251 < 257)) then some true else some (decide (285 < x4251))) : Option Bool).bind fun x4282 => (bif x4282 then some (0, 0, false) else (bif (decide (x4251 = 285)) then some (258, 0, true) else (bif (decide (x4251 < 265)) then some ((IntKind.wrap .i64 (x4251 - 254)), 0, true) else ((some (IntKind.wrap .i64 (Int.tdiv (IntKind.wrap .i64 (x4251 - 261)) 4))).bind fun x4288 => ((some (Int.tmod (IntKind.wrap .i64 (x4251 - 265)) 4)).bind fun x4289 => (bif (decide (0 ≤ x4288)) then ((some (shlI .i64 (IntKind.wrap .i64 (4 + x4289)) x4288)).bind fun x4291 => some ((IntKind.wrap .i64 (3 + x4291)), x4288, true)) else none)))))))
def g_deflate_symbol_l0 (k : Nat) (x4245 : Int) (x4247 : Int) : Nat → Int → Option ((Int × Int × Int) ⊕ Unit)
  | 0, _ => none
  | n + 1, x4339 => (bif (decide (x4245 < x4339)) then ((g_inflate_Lit k x4339).bind fun (x4363, x4364, x4365) => (bif (decide (x4363 ≤ x4247)) then some (Sum.inl (x4339, (IntKind.wrap .i64 (x4247 - x4363)), x4364)) else (g_deflate_symbol_l0 k x4245 x4247 n (IntKind.wrap .i64 (x4339 - 1))))) else some (Sum.inr ()))
theorem g_deflate_symbol_l0_eqs : True := by have := @g_deflate_symbol_l0.eq_2; trivial
def g_deflate_symbol (k : Nat) (x4245 : Int) (x4246 : Int) (x4247 : Int) : Option (Int × Int × Int) := (((g_deflate_symbol_l0 k x4245 x4247 k x4246) : Option ((Int × Int × Int) ⊕ Unit)).bind fun y4368 => match y4368 with | (Sum.inl (x4352, x4353, x4354)) => some (x4352, x4353, x4354) | (Sum.inr _) => ((g_inflate_Lit k x4245).bind fun (x4370, x4371, x4372) => some (x4245, (IntKind.wrap .i64 (x4247 - x4370)), x4371)))
def g_deflate_lit (k : Nat) (x4243 : Int) : Option (Int × Int × Int) := ((g_deflate_symbol k 257 285 x4243).bind fun (x4381, x4382, x4383) => some (x4381, x4382, x4383))
def g_inflate_Dist (k : Nat) (x4410 : Int) : Option (Int × Int × Bool) := (((bif (decide (x4410 < 0)) then some true else some (decide (29 < x4410))) : Option Bool).bind fun x4438 => (bif x4438 then some (0, 0, false) else (bif (decide (x4410 < 4)) then some ((IntKind.wrap .i64 (x4410 + 1)), 0, true) else ((some (IntKind.wrap .i64 ((IntKind.wrap .i64 (Int.tdiv x4410 2)) - 1))).bind fun x4443 => ((some (IntKind.wrap .i64 (2 + (Int.tmod x4410 2)))).bind fun x4444 => (bif (decide (0 ≤ x4443)) then ((some (IntKind.wrap .i64 (1 + (shlI .i64 x4444 x4443)))).bind fun x4446 => some (x4446, x4443, true)) else none))))))
def g_deflate_symbol__b_l0 (k : Nat) (x4404 : Int) (x4406 : Int) : Nat → Int → Option ((Int × Int × Int) ⊕ Unit)
  | 0, _ => none
  | n + 1, x4494 => (bif (decide (x4404 < x4494)) then ((g_inflate_Dist k x4494).bind fun (x4518, x4519, x4520) => (bif (decide (x4518 ≤ x4406)) then some (Sum.inl (x4494, (IntKind.wrap .i64 (x4406 - x4518)), x4519)) else (g_deflate_symbol__b_l0 k x4404 x4406 n (IntKind.wrap .i64 (x4494 - 1))))) else some (Sum.inr ()))
theorem g_deflate_symbol__b_l0_eqs : True := by have := @g_deflate_symbol__b_l0.eq_2; trivial
def g_deflate_symbol__b (k : Nat) (x4404 : Int) (x4405 : Int) (x4406 : Int) : Option (Int × Int × Int) := (((g_deflate_symbol__b_l0 k x4404 x4406 k x4405) : Option ((Int × Int × Int) ⊕ Unit)).bind fun y4523 => match y4523 with | (Sum.inl (x4507, x4508, x4509)) => some (x4507, x4508, x4509) | (Sum.inr _) => ((g_inflate_Dist k x4404).bind fun (x4525, x4526, x4527) => some (x4404, (IntKind.wrap .i64 (x4406 - x4525)), x4526)))
def g_deflate_dist (k : Nat) (x4402 : Int) : Option (Int × Int × Int) := ((g_deflate_symbol__b k 0 29 x4402).bind fun (x4536, x4537, x4538) => some (x4536, x4537, x4538))
def g_deflate_coder_all_l0 (k : Nat) (x4142 : (List S_deflate_Item)) (x4143 : (List Int)) (x4144 : (List Int)) (x4145 : (List Int)) (x4146 : (List Int)) : Nat → Int → Int → (List Int) → Option (Int × (List Int))
  | 0, _, _, _ => none
  | n + 1, x4885, x4886, x4887 => ((some (decide (x4885 < ((List.length x4142 : Nat) : Int)))).bind fun x5014 => (bif x5014 then ((((ix x4142 x4885).bind fun x5078 => (bif (decide (x5078.fLen = 0)) then ((ix x4145 x5078.fByte).bind fun x5096 => ((ix x4143 x5078.fByte).bind fun x5097 => ((g_deflate_put k x5096 x5097 x4886 x4887).bind fun (x5099, x5100) => some (x5099, x5100)))) else ((g_deflate_lit k x5078.fLen).bind fun (x5102, x5103, x5104) => ((ix x4145 x5102).bind fun x5110 => ((ix x4143 x5102).bind fun x5111 => ((g_deflate_put k x5110 x5111 x4886 x4887).bind fun (x5113, x5114) => ((g_bits_Writer_Put__b k (IntKind.wrap .u32 x5103) x5104 x5113 x5114).bind fun (x5116, x5117, x5118) => ((g_deflate_dist k x5078.fDist).bind fun (x5120, x5121, x5122) => ((ix x4146 x5120).bind fun x5128 => ((ix x4144 x5120).bind fun x5129 => ((g_deflate_put k x5128 x5129 x5117 x5118).bind fun (x5131, x5132) => ((g_bits_Writer_Put__b k (IntKind.wrap .u32 x5121) x5122 x5131 x5132).bind fun (x5134, x5135, x5136) => some (x5135, x5136))))))))))))) : Option (Int × (List Int))).bind fun (x5076, x5077) => (g_deflate_coder_all_l0 k x4142 x4143 x4144 x4145 x4146 n (IntKind.wrap .i64 (x4885 + 1)) x5076 x5077)) else some (x4886, x4887)))
theorem g_deflate_coder_all_l0_eqs : True := by have := @g_deflate_coder_all_l0.eq_2; trivial
def g_deflate_coder_all (k : Nat) (x4142 : (List S_deflate_Item)) (x4143 : (List Int)) (x4144 : (List Int)) (x4145 : (List Int)) (x4146 : (List Int)) (x4147 : Int) (x4148 : (List Int)) : Option (Int × (List Int)) := ((g_deflate_coder_all_l0 k x4142 x4143 x4144 x4145 x4146 k 0 x4147 x4148).bind fun (x5012, x5013) => ((ix x4145 256).bind fun x5144 => ((ix x4143 256).bind fun x5145 => ((g_deflate_put k x5144 x5145 x5012 x5013).bind fun (x5147, x5148) => some (x5147, x5148)))))
def g_deflate_fixed (k : Nat) (x3195 : (List S_deflate_Item)) : Option (List Int) := ((g_bits_NewWriter k).bind fun _ => ((g_bits_Writer_Put k 3 3 0).bind fun (x5157, x5158, x5159) => ((g_inflate_FixedLit k).bind fun x5161 => ((g_inflate_FixedDist k).bind fun x5163 => ((g_deflate_coded k x5161 x5163 x5158 x5159).bind fun (x5165, x5166) => ((g_deflate_coder_all k x3195 x5161 x5163 x5165 x5166 x5158 x5159).bind fun (x5168, x5169) => ((g_bits_Writer_Done k x5168 x5169).bind fun x5171 => some x5171)))))))
def g_cmp_isNaN_int (k : Nat) (x5469 : Int) : Option Unit := some ()
def g_cmp_Compare_int (k : Nat) (x5466 : Int) (x5467 : Int) : Option Int := ((g_cmp_isNaN_int k x5466).bind fun _ => ((g_cmp_isNaN_int k x5467).bind fun _ => (bif (!decide (x5466 = x5466)) then (bif (!decide (x5467 = x5467)) then some 0 else some (-1)) else (bif (!decide (x5467 = x5467)) then some 1 else (bif (decide (x5466 < x5467)) then some (-1) else (bif (decide (x5467 < x5466)) then some 1 else some 0))))))
def g_huff_Lengths_1 (k : Nat) (x5461 : Int) (x5462 : (List Int)) (x5463 : Int) (x5464 : (List Int)) : Option Int := ((g_cmp_Compare_int k x5461 x5463).bind fun x5504 => some x5504)
def g_slices_insertionSortCmpFunc_huff_coin_l1 (k : Nat) (x5443 : Int) : Nat → Int → (List S_huff_coin) → Option (List S_huff_coin)
  | 0, _, _ => none
  | n + 1, x6236, x6237 => (((bif (decide (x5443 < x6236)) then ((ix x6237 x6236).bind fun x6362 => ((ix x6237 (IntKind.wrap .i64 (x6236 - 1))).bind fun x6363 => ((g_huff_Lengths_1 k x6362.ffreq x6362.fsyms x6363.ffreq x6363.fsyms).bind fun x6365 => some (decide (x6365 < 0))))) else some false) : Option Bool).bind fun x6352 => (bif x6352 then ((ix x6237 (IntKind.wrap .i64 (x6236 - 1))).bind fun x6377 => ((ix x6237 x6236).bind fun x6378 => ((ix x6237 x6236).bind fun x6379 => ((ix (List.set x6237 (Int.toNat x6236) (⟨x6377.ffreq, x6377.fsyms⟩ : S_huff_coin)) (IntKind.wrap .i64 (x6236 - 1))).bind fun x6380 => (g_slices_insertionSortCmpFunc_huff_coin_l1 k x5443 n (IntKind.wrap .i64 (x6236 - 1)) (List.set (List.set x6237 (Int.toNat x6236) (⟨x6377.ffreq, x6377.fsyms⟩ : S_huff_coin)) (Int.toNat (IntKind.wrap .i64 (x6236 - 1))) (⟨x6378.ffreq, x6378.fsyms⟩ : S_huff_coin))))))) else some x6237))
theorem g_slices_insertionSortCmpFunc_huff_coin_l1_eqs : True := by have := @g_slices_insertionSortCmpFunc_huff_coin_l1.eq_2; trivial
def g_slices_insertionSortCmpFunc_huff_coin_l0 (k : Nat) (x5443 : Int) (x5444 : Int) : Nat → Int → (List S_huff_coin) → Option (List S_huff_coin)
  | 0, _, _ => none
  | n + 1, x6012, x6013 => (bif (decide (x6012 < x5444)) then ((g_slices_insertionSortCmpFunc_huff_coin_l1 k x5443 k x6012 x6013).bind fun x6309 => (g_slices_insertionSortCmpFunc_huff_coin_l0 k x5443 x5444 n (IntKind.wrap .i64 (x6012 + 1)) x6309)) else some x6013)
theorem g_slices_insertionSortCmpFunc_huff_coin_l0_eqs : True := by have := @g_slices_insertionSortCmpFunc_huff_coin_l0.eq_2; trivial
def g_slices_insertionSortCmpFunc_huff_coin (k : Nat) (x5443 : Int) (x5444 : Int) (x5445 : (List S_huff_coin)) : Option (List S_huff_coin) := ((g_slices_insertionSortCmpFunc_huff_coin_l0 k x5443 x5444 k (IntKind.wrap .i64 (x5443 + 1)) x5445).bind fun x6162 => some x6162)
def g_slices_swapRangeCmpFunc_huff_coin_l0 (k : Nat) (x6764 : Int) (x6765 : Int) (x6766 : Int) : Nat → Int → (List S_huff_coin) → Option (List S_huff_coin)
  | 0, _, _ => none
  | n + 1, x6819, x6820 => (bif (decide (x6819 < x6766)) then ((ix x6820 (IntKind.wrap .i64 (x6765 + x6819))).bind fun x6848 => ((ix x6820 (IntKind.wrap .i64 (x6764 + x6819))).bind fun x6849 => ((ix x6820 (IntKind.wrap .i64 (x6764 + x6819))).bind fun x6850 => ((ix (List.set x6820 (Int.toNat (IntKind.wrap .i64 (x6764 + x6819))) (⟨x6848.ffreq, x6848.fsyms⟩ : S_huff_coin)) (IntKind.wrap .i64 (x6765 + x6819))).bind fun x6851 => (g_slices_swapRangeCmpFunc_huff_coin_l0 k x6764 x6765 x6766 n (IntKind.wrap .i64 (x6819 + 1)) (List.set (List.set x6820 (Int.toNat (IntKind.wrap .i64 (x6764 + x6819))) (⟨x6848.ffreq, x6848.fsyms⟩ : S_huff_coin)) (Int.toNat (IntKind.wrap .i64 (x6765 + x6819))) (⟨x6849.ffreq, x6849.fsyms⟩ : S_huff_coin))))))) else some x6820)
theorem g_slices_swapRangeCmpFunc_huff_coin_l0_eqs : True := by have := @g_slices_swapRangeCmpFunc_huff_coin_l0.eq_2; trivial
def g_slices_swapRangeCmpFunc_huff_coin (k : Nat) (x6764 : Int) (x6765 : Int) (x6766 : Int) (x6767 : (List S_huff_coin)) : Option (List S_huff_coin) := ((g_slices_swapRangeCmpFunc_huff_coin_l0 k x6764 x6765 x6766 k 0 x6767).bind fun x6836 => some x6836)
def g_slices_rotateCmpFunc_huff_coin_l0 (k : Nat) (x6753 : Int) : Nat → Int → Int → (List S_huff_coin) → Option (Int × (List S_huff_coin))
  | 0, _, _, _ => none
  | n + 1, x6895, x6896, x6897 => (bif (!decide (x6895 = x6896)) then (bif (decide (x6896 < x6895)) then ((g_slices_swapRangeCmpFunc_huff_coin k (IntKind.wrap .i64 (x6753 - x6895)) x6753 x6896 x6897).bind fun x6912 => (g_slices_rotateCmpFunc_huff_coin_l0 k x6753 n (IntKind.wrap .i64 (x6895 - x6896)) x6896 x6912)) else ((some (IntKind.wrap .i64 ((IntKind.wrap .i64 (x6753 + x6896)) - x6895))).bind fun x6913 => ((g_slices_swapRangeCmpFunc_huff_coin k (IntKind.wrap .i64 (x6753 - x6895)) x6913 x6895 x6897).bind fun x6915 => (g_slices_rotateCmpFunc_huff_coin_l0 k x6753 n x6895 (IntKind.wrap .i64 (x6896 - x6895)) x6915)))) else some (x6895, x6897))
theorem g_slices_rotateCmpFunc_huff_coin_l0_eqs : True := by have := @g_slices_rotateCmpFunc_huff_coin_l0.eq_2; trivial
def g_slices_rotateCmpFunc_huff_coin (k : Nat) (x6752 : Int) (x6753 : Int) (x6754 : Int) (x6755 : (List S_huff_coin)) : Option (List S_huff_coin) := ((g_slices_rotateCmpFunc_huff_coin_l0 k x6753 k (IntKind.wrap .i64 (x6753 - x6752)) (IntKind.wrap .i64 (x6754 - x6753)) x6755).bind fun (x6906, x6907) => ((g_slices_swapRangeCmpFunc_huff_coin k (IntKind.wrap .i64 (x6753 - x6906)) x6753 x6906 x6907).bind fun x6918 => some x6918))
def g_slices_symMergeCmpFunc_huff_coin_l0 (k : Nat) (x6403 : Int) (x6406 : (List S_huff_coin)) : Nat → Int → Int → Option Int
  | 0, _, _ => none
  | n + 1, x7439, x7440 => (bif (decide (x7439 < x7440)) then ((some (IntKind.wrap .u64 (IntKind.wrap .i64 (x7439 + x7440)))).bind fun x7459 => ((ix x6406 (IntKind.wrap .i64 (shrI .u64 x7459 1))).bind fun x7466 => ((ix x6406 x6403).bind fun x7467 => ((g_huff_Lengths_1 k x7466.ffreq x7466.fsyms x7467.ffreq x7467.fsyms).bind fun x7469 => (bif (decide (x7469 < 0)) then ((some (IntKind.wrap .i64 ((IntKind.wrap .i64 (shrI .u64 x7459 1)) + 1))).bind fun x7471 => (g_slices_symMergeCmpFunc_huff_coin_l0 k x6403 x6406 n x7471 x7440)) else (g_slices_symMergeCmpFunc_huff_coin_l0 k x6403 x6406 n x7439 (IntKind.wrap .i64 (shrI .u64 x7459 1)))))))) else some x7439)
theorem g_slices_symMergeCmpFunc_huff_coin_l0_eqs : True := by have := @g_slices_symMergeCmpFunc_huff_coin_l0.eq_2; trivial
def g_slices_symMergeCmpFunc_huff_coin_l1 (k : Nat) (x7456 : Int) : Nat → Int → (List S_huff_coin) → Option (List S_huff_coin)
  | 0, _, _ => none
  | n + 1, x7490, x7491 => ((some (decide (x7490 < (IntKind.wrap .i64 (x7456 - 1))))).bind fun x7512 => (bif x7512 then ((ix x7491 (IntKind.wrap .i64 (x7490 + 1))).bind fun x7523 => ((ix x7491 x7490).bind fun x7524 => ((ix x7491 x7490).bind fun x7525 => ((ix (List.set x7491 (Int.toNat x7490) (⟨x7523.ffreq, x7523.fsyms⟩ : S_huff_coin)) (IntKind.wrap .i64 (x7490 + 1))).bind fun x7526 => (g_slices_symMergeCmpFunc_huff_coin_l1 k x7456 n (IntKind.wrap .i64 (x7490 + 1)) (List.set (List.set x7491 (Int.toNat x7490) (⟨x7523.ffreq, x7523.fsyms⟩ : S_huff_coin)) (Int.toNat (IntKind.wrap .i64 (x7490 + 1))) (⟨x7524.ffreq, x7524.fsyms⟩ : S_huff_coin))))))) else some x7491))
theorem g_slices_symMergeCmpFunc_huff_coin_l1_eqs : True := by have := @g_slices_symMergeCmpFunc_huff_coin_l1.eq_2; trivial
def g_slices_symMergeCmpFunc_huff_coin_l2 (k : Nat) (x6404 : Int) (x6406 : (List S_huff_coin)) : Nat → Int → Int → Option Int
  | 0, _, _ => none
  | n + 1, x7615, x7616 => (bif (decide (x7615 < x7616)) then ((some (IntKind.wrap .u64 (IntKind.wrap .i64 (x7615 + x7616)))).bind fun x7635 => ((ix x6406 x6404).bind fun x7642 => ((ix x6406 (IntKind.wrap .i64 (shrI .u64 x7635 1))).bind fun x7643 => ((g_huff_Lengths_1 k x7642.ffreq x7642.fsyms x7643.ffreq x7643.fsyms).bind fun x7645 => (bif (!(decide (x7645 < 0))) then ((some (IntKind.wrap .i64 ((IntKind.wrap .i64 (shrI .u64 x7635 1)) + 1))).bind fun x7647 => (g_slices_symMergeCmpFunc_huff_coin_l2 k x6404 x6406 n x7647 x7616)) else (g_slices_symMergeCmpFunc_huff_coin_l2 k x6404 x6406 n x7615 (IntKind.wrap .i64 (shrI .u64 x7635 1)))))))) else some x7615)
theorem g_slices_symMergeCmpFunc_huff_coin_l2_eqs : True := by have := @g_slices_symMergeCmpFunc_huff_coin_l2.eq_2; trivial
def g_slices_symMergeCmpFunc_huff_coin_l3 (k : Nat) (x7632 : Int) : Nat → Int → (List S_huff_coin) → Option (List S_huff_coin)
  | 0, _, _ => none
  | n + 1, x7664, x7665 => (bif (decide (x7632 < x7664)) then ((ix x7665 (IntKind.wrap .i64 (x7664 - 1))).bind fun x7693 => ((ix x7665 x7664).bind fun x7694 => ((ix x7665 x7664).bind fun x7695 => ((ix (List.set x7665 (Int.toNat x7664) (⟨x7693.ffreq, x7693.fsyms⟩ : S_huff_coin)) (IntKind.wrap .i64 (x7664 - 1))).bind fun x7696 => (g_slices_symMergeCmpFunc_huff_coin_l3 k x7632 n (IntKind.wrap .i64 (x7664 - 1)) (List.set (List.set x7665 (Int.toNat x7664) (⟨x7693.ffreq, x7693.fsyms⟩ : S_huff_coin)) (Int.toNat (IntKind.wrap .i64 (x7664 - 1))) (⟨x7694.ffreq, x7694.fsyms⟩ : S_huff_coin))))))) else some x7665)
theorem g_slices_symMergeCmpFunc_huff_coin_l3_eqs : True := by have := @g_slices_symMergeCmpFunc_huff_coin_l3.eq_2; trivial
def g_slices_symMergeCmpFunc_huff_coin_l4 (k : Nat) (x6406 : (List S_huff_coin)) (x7699 : Int) : Nat → Int → Int → Option Int
  | 0, _, _ => none
  | n + 1, x7725, x7726 => (bif (decide (x7725 < x7726)) then ((some (IntKind.wrap .u64 (IntKind.wrap .i64 (x7725 + x7726)))).bind fun x7748 => ((some (IntKind.wrap .i64 ((IntKind.wrap .i64 (x7699 - 1)) - (IntKind.wrap .i64 (shrI .u64 x7748 1))))).bind fun x7757 => ((ix x6406 x7757).bind fun x7758 => ((ix x6406 (IntKind.wrap .i64 (shrI .u64 x7748 1))).bind fun x7759 => ((g_huff_Lengths_1 k x7758.ffreq x7758.fsyms x7759.ffreq x7759.fsyms).bind fun x7761 => (bif (!(decide (x7761 < 0))) then ((some (IntKind.wrap .i64 ((IntKind.wrap .i64 (shrI .u64 x7748 1)) + 1))).bind fun x7763 => (g_slices_symMergeCmpFunc_huff_coin_l4 k x6406 x7699 n x7763 x7726)) else (g_slices_symMergeCmpFunc_huff_coin_l4 k x6406 x7699 n x7725 (IntKind.wrap .i64 (shrI .u64 x7748 1))))))))) else some x7725)
theorem g_slices_symMergeCmpFunc_huff_coin_l4_eqs : True := by have := @g_slices_symMergeCmpFunc_huff_coin_l4.eq_2; trivial
def h_slices_symMergeCmpFunc_huff_coin (rc6407 : Int → Int → Int → (List S_huff_coin) → Option (List S_huff_coin)) (k : Nat) (x6403 : Int) (x6404 : Int) (x6405 : Int) (x6406 : (List S_huff_coin)) : Option (List S_huff_coin) := ((some (decide ((IntKind.wrap .i64 (x6404 - x6403)) = 1))).bind fun x7422 => (bif x7422 then ((g_slices_symMergeCmpFunc_huff_coin_l0 k x6403 x6406 k x6404 x6405).bind fun x7456 => ((g_slices_symMergeCmpFunc_huff_coin_l1 k x7456 k x6403 x6406).bind fun x7509 => some x7509)) else ((some (decide ((IntKind.wrap .i64 (x6405 - x6404)) = 1))).bind fun x7598 => (bif x7598 then ((g_slices_symMergeCmpFunc_huff_coin_l2 k x6404 x6406 k x6403 x6404).bind fun x7632 => ((g_slices_symMergeCmpFunc_huff_coin_l3 k x7632 k x6404 x6406).bind fun x7681 => some x7681)) else ((some (IntKind.wrap .u64 (IntKind.wrap .i64 (x6403 + x6405)))).bind fun x7698 => ((some (IntKind.wrap .i64 ((IntKind.wrap .i64 (shrI .u64 x7698 1)) + x6404))).bind fun x7699 => ((((some (decide ((IntKind.wrap .i64 (shrI .u64 x7698 1)) < x6404))).bind fun x7704 => (bif x7704 then some ((IntKind.wrap .i64 (x7699 - x6405)), (IntKind.wrap .i64 (shrI .u64 x7698 1))) else some (x6403, x6404))) : Option (Int × Int)).bind fun (x7702, x7703) => ((g_slices_symMergeCmpFunc_huff_coin_l4 k x6406 x7699 k x7702 x7703).bind fun x7745 => (((((bif (decide (x7745 < x6404)) then ((some (decide (x6404 < (IntKind.wrap .i64 (x7699 - x7745))))).bind fun x7779 => some x7779) else some false) : Option Bool).bind fun x7777 => (bif x7777 then ((g_slices_rotateCmpFunc_huff_coin k x7745 x6404 (IntKind.wrap .i64 (x7699 - x7745)) x6406).bind fun x7783 => some x7783) else some x6406)) : Option (List S_huff_coin)).bind fun x7774 => (((((bif (decide (x6403 < x7745)) then ((some (decide (x7745 < (IntKind.wrap .i64 (shrI .u64 x7698 1))))).bind fun x7799 => some x7799) else some false) : Option Bool).bind fun x7797 => (bif x7797 then ((rc6407 x6403 x7745 (IntKind.wrap .i64 (shrI .u64 x7698 1)) x7774).bind fun x7803 => some x7803) else some x7774)) : Option (List S_huff_coin)).bind fun x7794 => ((((some (decide ((IntKind.wrap .i64 (shrI .u64 x7698 1)) < (IntKind.wrap .i64 (x7699 - x7745))))).bind fun x7809 => (bif x7809 then ((some (decide ((IntKind.wrap .i64 (x7699 - x7745)) < x6405))).bind fun x7811 => some x7811) else some false)) : Option Bool).bind fun x7808 => (bif x7808 then ((rc6407 (IntKind.wrap .i64 (shrI .u64 x7698 1)) (IntKind.wrap .i64 (x7699 - x7745)) x6405 x7794).bind fun x7815 => some x7815) else some x7794))))))))))))
def g_slices_symMergeCmpFunc_huff_coin : Nat → Int → Int → Int → (List S_huff_coin) → Option (List S_huff_coin)
  | 0, _, _, _, _ => none
  | k + 1, x6403, x6404, x6405, x6406 => h_slices_symMergeCmpFunc_huff_coin (g_slices_symMergeCmpFunc_huff_coin k) k x6403 x6404 x6405 x6406
def g_slices_stableCmpFunc_huff_coin_l0 (k : Nat) (x5438 : Int) : Nat → Int → Int → (List S_huff_coin) → Option (Int × (List S_huff_coin))
  | 0, _, _, _ => none
  | n + 1, x7879, x7880, x7881 => (bif (decide (x7880 ≤ x5438)) then ((g_slices_insertionSortCmpFunc_huff_coin k x7879 x7880 x7881).bind fun x7891 => (g_slices_stableCmpFunc_huff_coin_l0 k x5438 n x7880 (IntKind.wrap .i64 (x7880 + 20)) x7891)) else some (x7879, x7881))
theorem g_slices_stableCmpFunc_huff_coin_l0_eqs : True := by have := @g_slices_stableCmpFunc_huff_coin_l0.eq_2; trivial
def g_slices_stableCmpFunc_huff_coin_l2 (k : Nat) (x5438 : Int) (x7925 : Int) : Nat → Int → Int → (List S_huff_coin) → Option (Int × (List S_huff_coin))
  | 0, _, _, _ => none
  | n + 1, x7967, x7968, x7969 => (bif (decide (x7968 ≤ x5438)) then ((g_slices_symMergeCmpFunc_huff_coin k x7967 (IntKind.wrap .i64 (x7967 + x7925)) x7968 x7969).bind fun x7980 => ((some (IntKind.wrap .i64 (x7968 + (IntKind.wrap .i64 (2 * x7925))))).bind fun x7981 => (g_slices_stableCmpFunc_huff_coin_l2 k x5438 x7925 n x7968 x7981 x7980))) else some (x7967, x7969))
theorem g_slices_stableCmpFunc_huff_coin_l2_eqs : True := by have := @g_slices_stableCmpFunc_huff_coin_l2.eq_2; trivial
def g_slices_stableCmpFunc_huff_coin_l1 (k : Nat) (x5438 : Int) : Nat → Int → (List S_huff_coin) → Option (List S_huff_coin)
  | 0, _, _ => none
  | n + 1, x7925, x7926 => (bif (decide (x7925 < x5438)) then ((g_slices_stableCmpFunc_huff_coin_l2 k x5438 x7925 k 0 (IntKind.wrap .i64 (2 * x7925)) x7926).bind fun (x7975, x7976) => ((((some (decide ((IntKind.wrap .i64 (x7975 + x7925)) < x5438))).bind fun x7988 => (bif x7988 then ((g_slices_symMergeCmpFunc_huff_coin k x7975 (IntKind.wrap .i64 (x7975 + x7925)) x5438 x7976).bind fun x7991 => some x7991) else some x7976)) : Option (List S_huff_coin)).bind fun x7987 => (g_slices_stableCmpFunc_huff_coin_l1 k x5438 n (IntKind.wrap .i64 (x7925 * 2)) x7987))) else some x7926)
theorem g_slices_stableCmpFunc_huff_coin_l1_eqs : True := by have := @g_slices_stableCmpFunc_huff_coin_l1.eq_2; trivial
def g_slices_stableCmpFunc_huff_coin (k : Nat) (x5438 : Int) (x5439 : (List S_huff_coin)) : Option (List S_huff_coin) := ((g_slices_stableCmpFunc_huff_coin_l0 k x5438 k 0 20 x5439).bind fun (x7886, x7887) => ((g_slices_insertionSortCmpFunc_huff_coin k x7886 x5438 x7887).bind fun x7894 => ((g_slices_stableCmpFunc_huff_coin_l1 k x5438 k 20 x7894).bind fun x7957 => some x7957)))
def g_slices_SortStableFunc_huff_coin_huff_coin (k : Nat) (x5436 : (List S_huff_coin)) : Option (List S_huff_coin) := ((g_slices_stableCmpFunc_huff_coin k ((List.length x5436 : Nat) : Int) x5436).bind fun x7998 => some x7998)
def g_slices_Clone_huff_coin_huff_coin (k : Nat) (x8003 : List S_huff_coin) : Option (List S_huff_coin) := bif decide ((List.length ([] : List S_huff_coin) + List.length x8003) * 32 ≤ 140737488355328) then some x8003 else none
def g_slices_Grow_int_int (k : Nat) (x8056 : Int) : Option (Unit ⊕ (List Int)) := (bif (decide (x8056 < 0)) then some (Sum.inl ()) else ((((some (IntKind.wrap .i64 (x8056 - (IntKind.wrap .i64 (0 - 0))))).bind fun x8078 => (bif (decide (0 < x8078)) then (bif (decide (0 < (x8078 : Int) ∧ (x8078 : Int) * ((8 : Nat) : Int) ≤ 140737488355328)) then (bif (decide (0 ≤ (0 : Int) ∧ (0 : Int) ≤ ((List.length (List.replicate (Int.toNat x8078) (0 : Int)) : Nat) : Int))) then some (List.take (Int.toNat 0) (List.replicate (Int.toNat x8078) (0 : Int))) else none) else none) else some ([] : List Int))) : Option (List Int)).bind fun x8077 => some (Sum.inr x8077)))
def g_slices_Concat_int_int_l0 (k : Nat) (x8031 : (List (List Int))) : Nat → Int → Int → Option (Unit ⊕ Int)
  | 0, _, _ => none
  | n + 1, x8111, x8112 => ((some (decide (x8112 < ((List.length x8031 : Nat) : Int)))).bind fun x8123 => (bif x8123 then ((ix x8031 x8112).bind fun x8129 => ((some (IntKind.wrap .i64 (x8111 + ((List.length x8129 : Nat) : Int)))).bind fun x8130 => (bif (decide (x8130 < 0)) then some (Sum.inl ()) else (g_slices_Concat_int_int_l0 k x8031 n x8130 (IntKind.wrap .i64 (x8112 + 1)))))) else some (Sum.inr x8111)))
theorem g_slices_Concat_int_int_l0_eqs : True := by have := @g_slices_Concat_int_int_l0.eq_2; trivial
def g_slices_Concat_int_int_l1 (k : Nat) (x8031 : (List (List Int))) : Nat → Int → (List Int) → Option (List Int)
  | 0, _, _ => none
  | n + 1, x8142, x8143 => ((some (decide (x8142 < ((List.length x8031 : Nat) : Int)))).bind fun x8150 => (bif x8150 then ((ix x8031 x8142).bind fun x8153 => (bif (decide (((List.length x8143) + (List.length x8153)) * 8 ≤ 140737488355328)) then (g_slices_Concat_int_int_l1 k x8031 n (IntKind.wrap .i64 (x8142 + 1)) (x8143 ++ x8153)) else none)) else some x8143))
theorem g_slices_Concat_int_int_l1_eqs : True := by have := @g_slices_Concat_int_int_l1.eq_2; trivial
def g_slices_Concat_int_int (k : Nat) (x8031 : (List (List Int))) : Option (ByteArray ⊕ (List Int)) := (((g_slices_Concat_int_int_l0 k x8031 k 0 0) : Option (Unit ⊕ Int)).bind fun y8133 => match y8133 with | (Sum.inl _) => some (Sum.inl (ByteArray.mk #[108, 101, 110, 32, 111, 117, 116, 32, 111, 102, 32, 114, 97, 110, 103, 101])) | (Sum.inr x8122) => ((g_slices_Grow_int_int k x8122).bind fun y8136 => match y8136 with | (Sum.inl _) => some (Sum.inl (ByteArray.mk #[99, 97, 110, 110, 111, 116, 32, 98, 101, 32, 110, 101, 103, 97, 116, 105, 118, 101])) | (Sum.inr x8135) => ((g_slices_Concat_int_int_l1 k x8031 k 0 x8135).bind fun x8149 => some (Sum.inr x8149))))
def g_huff_Lengths_l0 (k : Nat) (x5297 : (List Int)) : Nat → Int → (List S_huff_coin) → Option (Unit ⊕ (List S_huff_coin))
  | 0, _, _ => none
  | n + 1, x8416, x8417 => ((some (decide (x8416 < ((List.length x5297 : Nat) : Int)))).bind fun x8451 => (bif x8451 then ((((ix x5297 x8416).bind fun x8468 => (((bif (decide (x8468 < 0)) then some true else some (decide (1073741824 < x8468))) : Option Bool).bind fun x8475 => (bif x8475 then some (Sum.inl ()) else (bif (decide (0 < x8468)) then (bif (decide (((List.length x8417) + (List.length ([(⟨x8468, ([x8416] : List Int)⟩ : S_huff_coin)] : List S_huff_coin))) * 32 ≤ 140737488355328)) then some (Sum.inr (x8417 ++ ([(⟨x8468, ([x8416] : List Int)⟩ : S_huff_coin)] : List S_huff_coin))) else none) else some (Sum.inr x8417))))) : Option (Unit ⊕ (List S_huff_coin))).bind fun y8482 => match y8482 with | (Sum.inl _) => some (Sum.inl ()) | (Sum.inr x8467) => (g_huff_Lengths_l0 k x5297 n (IntKind.wrap .i64 (x8416 + 1)) x8467)) else some (Sum.inr x8417)))
theorem g_huff_Lengths_l0_eqs : True := by have := @g_huff_Lengths_l0.eq_2; trivial
def g_huff_Lengths_l2 (k : Nat) (x8584 : (List S_huff_coin)) : Nat → Int → (List S_huff_coin) → Option (ByteArray ⊕ (List S_huff_coin))
  | 0, _, _ => none
  | n + 1, x8687, x8688 => ((some (decide ((IntKind.wrap .i64 (x8687 + 1)) < ((List.length x8584 : Nat) : Int)))).bind fun x8721 => (bif x8721 then ((ix x8584 x8687).bind fun x8737 => ((ix x8584 (IntKind.wrap .i64 (x8687 + 1))).bind fun x8738 => ((ix x8584 x8687).bind fun x8739 => ((ix x8584 (IntKind.wrap .i64 (x8687 + 1))).bind fun x8740 => ((some (IntKind.wrap .i64 (x8737.ffreq + x8738.ffreq))).bind fun x8741 => ((g_slices_Concat_int_int k ([x8739.fsyms, x8740.fsyms] : List (List Int))).bind fun y8745 => match y8745 with | (Sum.inl x8743) => some (Sum.inl x8743) | (Sum.inr x8744) => (bif (decide (((List.length x8688) + (List.length ([(⟨x8741, x8744⟩ : S_huff_coin)] : List S_huff_coin))) * 32 ≤ 140737488355328)) then (g_huff_Lengths_l2 k x8584 n (IntKind.wrap .i64 (x8687 + 2)) (x8688 ++ ([(⟨x8741, x8744⟩ : S_huff_coin)] : List S_huff_coin))) else none))))))) else some (Sum.inr x8688)))
theorem g_huff_Lengths_l2_eqs : True := by have := @g_huff_Lengths_l2.eq_2; trivial
def g_huff_Lengths_l1 (k : Nat) (x5298 : Int) (x8503 : (List S_huff_coin)) : Nat → Int → (List S_huff_coin) → Option (ByteArray ⊕ (List S_huff_coin))
  | 0, _, _ => none
  | n + 1, x8583, x8584 => (bif (decide (x8583 < x5298)) then ((g_slices_Clone_huff_coin_huff_coin k x8503).bind fun x8658 => (((g_huff_Lengths_l2 k x8584 k 0 x8658) : Option (ByteArray ⊕ (List S_huff_coin))).bind fun y8748 => match y8748 with | (Sum.inl x8717) => some (Sum.inl x8717) | (Sum.inr x8718) => ((g_slices_SortStableFunc_huff_coin_huff_coin k x8718).bind fun x8750 => (g_huff_Lengths_l1 k x5298 x8503 n (IntKind.wrap .i64 (x8583 + 1)) x8750)))) else some (Sum.inr x8584))
theorem g_huff_Lengths_l1_eqs : True := by have := @g_huff_Lengths_l1.eq_2; trivial
def g_huff_Lengths_l4 (k : Nat) (x8808 : S_huff_coin) : Nat → Int → (List Int) → Option (List Int)
  | 0, _, _ => none
  | n + 1, x8815, x8816 => ((some (decide (x8815 < ((List.length x8808.fsyms : Nat) : Int)))).bind fun x8824 => (bif x8824 then ((ix x8808.fsyms x8815).bind fun x8827 => ((ix x8816 x8827).bind fun x8828 => ((ix x8816 x8827).bind fun x8829 => (g_huff_Lengths_l4 k x8808 n (IntKind.wrap .i64 (x8815 + 1)) (List.set x8816 (Int.toNat x8827) (IntKind.wrap .i64 (x8828 + 1))))))) else some x8816))
theorem g_huff_Lengths_l4_eqs : True := by have := @g_huff_Lengths_l4.eq_2; trivial
def g_huff_Lengths_l3 (k : Nat) (x8503 : (List S_huff_coin)) (x8654 : (List S_huff_coin)) : Nat → Int → (List Int) → Option (List Int)
  | 0, _, _ => none
  | n + 1, x8776, x8777 => ((some (IntKind.wrap .i64 (2 * ((List.length x8503 : Nat) : Int)))).bind fun x8805 => ((some (decide (x8776 < (IntKind.wrap .i64 (x8805 - 2))))).bind fun x8806 => (bif x8806 then ((ix x8654 x8776).bind fun x8808 => ((g_huff_Lengths_l4 k x8808 k 0 x8777).bind fun x8823 => (g_huff_Lengths_l3 k x8503 x8654 n (IntKind.wrap .i64 (x8776 + 1)) x8823))) else some x8777)))
theorem g_huff_Lengths_l3_eqs : True := by have := @g_huff_Lengths_l3.eq_2; trivial
def g_huff_Lengths (k : Nat) (x5297 : (List Int)) (x5298 : Int) : Option (((List Int) × Int) ⊕ ByteArray) := ((((some (decide (320 < ((List.length x5297 : Nat) : Int)))).bind fun x8347 => (bif x8347 then some true else (bif (decide (x5298 < 1)) then some true else some (decide (15 < x5298))))) : Option Bool).bind fun x8346 => (bif x8346 then some (Sum.inl (([] : List Int), 1)) else (((g_huff_Lengths_l0 k x5297 k 0 ([] : List S_huff_coin)) : Option (Unit ⊕ (List S_huff_coin))).bind fun y8484 => match y8484 with | (Sum.inl _) => some (Sum.inl (([] : List Int), 1)) | (Sum.inr x8450) => (bif (decide (0 ≤ x5298)) then ((some (decide ((shlI .i64 1 x5298) < ((List.length x8450 : Nat) : Int)))).bind fun x8489 => (bif x8489 then some (Sum.inl (([] : List Int), 1)) else (bif (decide (0 ≤ (((List.length x5297 : Nat) : Int) : Int) ∧ (((List.length x5297 : Nat) : Int) : Int) ≤ ((List.length x5297 : Nat) : Int) ∧ (8 : Int) * ((List.length x5297 : Nat) : Int) ≤ 281474976710656 ∧ (((List.length x5297 : Nat) : Int) : Int) ≤ 9223372036854775807)) then ((some (decide (((List.length x8450 : Nat) : Int) = 1))).bind fun x8497 => (bif x8497 then ((ix x8450 0).bind fun x8499 => ((ix x8499.fsyms 0).bind fun x8500 => ((ix (List.replicate (Int.toNat ((List.length x5297 : Nat) : Int)) (0 : Int)) x8500).bind fun x8501 => some (Sum.inl ((List.set (List.replicate (Int.toNat ((List.length x5297 : Nat) : Int)) (0 : Int)) (Int.toNat x8500) 1), 0))))) else ((g_slices_SortStableFunc_huff_coin_huff_coin k x8450).bind fun x8503 => (((g_huff_Lengths_l1 k x5298 x8503 k 0 ([] : List S_huff_coin)) : Option (ByteArray ⊕ (List S_huff_coin))).bind fun y8752 => match y8752 with | (Sum.inl x8653) => some (Sum.inr x8653) | (Sum.inr x8654) => ((g_huff_Lengths_l3 k x8503 x8654 k 0 (List.replicate (Int.toNat ((List.length x5297 : Nat) : Int)) (0 : Int))).bind fun x8801 => some (Sum.inl (x8801, 0))))))) else none))) else none))))
def g_deflate_shorter_l0 (k : Nat) (x8843 : Int) : Nat → (List Int) → Option (List Int)
  | 0, _ => none
  | n + 1, x8921 => ((((some (decide (x8843 < ((List.length x8921 : Nat) : Int)))).bind fun x8963 => (bif x8963 then ((some (IntKind.wrap .i64 (((List.length x8921 : Nat) : Int) - 1))).bind fun x8965 => ((ix x8921 x8965).bind fun x8966 => some (decide (x8966 = 0)))) else some false)) : Option Bool).bind fun x8962 => (bif x8962 then ((some (IntKind.wrap .i64 (((List.length x8921 : Nat) : Int) - 1))).bind fun x8969 => (bif (decide (0 ≤ (0 : Int) ∧ (0 : Int) ≤ x8969 ∧ x8969 ≤ ((List.length x8921 : Nat) : Int))) then (g_deflate_shorter_l0 k x8843 n (List.drop (Int.toNat 0) (List.take (Int.toNat x8969) x8921))) else none)) else some x8921))
theorem g_deflate_shorter_l0_eqs : True := by have := @g_deflate_shorter_l0.eq_2; trivial
def g_deflate_shorter (k : Nat) (x8842 : (List Int)) (x8843 : Int) : Option (List Int) := ((g_deflate_shorter_l0 k x8843 k x8842).bind fun x8946 => some x8946)
def g_deflate_Lengths_2 (k : Nat) (x8986 : Int) (x8987 : (List Int)) : Option Int := ((((ix x8987 x8986).bind fun x9022 => (bif (decide (x9022 < 0)) then some true else ((ix x8987 x8986).bind fun x9024 => some (decide (15 < x9024))))) : Option Bool).bind fun x9021 => (bif x9021 then some 0 else ((ix x8987 x8986).bind fun x9027 => some x9027)))
def g_deflate_Lengths_1__b (k : Nat) (x9128 : Int) (x9129 : Int) (x9130 : (List Int)) (x9131 : (List Int)) : Option Unit := (bif (decide (((List.length x9130) + (List.length ([x9128] : List Int))) * 8 ≤ 140737488355328)) then (bif (decide (((List.length x9131) + (List.length ([x9129] : List Int))) * 8 ≤ 140737488355328)) then some () else none) else none)
def g_deflate_Lengths_l1 (k : Nat) (x8980 : (List Int)) (x9835 : Int) (x9946 : Int) : Nat → Int → Option Int
  | 0, _ => none
  | n + 1, x9969 => ((((some (decide ((IntKind.wrap .i64 (x9835 + x9969)) < ((List.length x8980 : Nat) : Int)))).bind fun x10009 => (bif x10009 then ((g_deflate_Lengths_2 k (IntKind.wrap .i64 (x9835 + x9969)) x8980).bind fun x10012 => some (decide (x10012 = x9946))) else some false)) : Option Bool).bind fun x10008 => (bif x10008 then (g_deflate_Lengths_l1 k x8980 x9835 x9946 n (IntKind.wrap .i64 (x9969 + 1))) else some x9969))
theorem g_deflate_Lengths_l1_eqs : True := by have := @g_deflate_Lengths_l1.eq_2; trivial
def g_deflate_Lengths_l0 (k : Nat) (x8980 : (List Int)) : Nat → Int → (List Int) → (List Int) → Option ((List Int) × (List Int))
  | 0, _, _, _ => none
  | n + 1, x9835, x9836, x9837 => ((some (decide (x9835 < ((List.length x8980 : Nat) : Int)))).bind fun x9943 => (bif x9943 then ((g_deflate_Lengths_2 k x9835 x8980).bind fun x9946 => ((g_deflate_Lengths_l1 k x8980 x9835 x9946 k 1).bind fun x9992 => (((((bif (decide (x9946 = 0)) then some (decide (11 ≤ x9992)) else some false) : Option Bool).bind fun x10042 => (bif x10042 then ((some (if (138 : Int) < x9992 then (138 : Int) else x9992)).bind fun x10046 => ((g_deflate_Lengths_1__b k 18 (IntKind.wrap .i64 (x10046 - 11)) x9836 x9837).bind fun _ => some (x10046, (x9836 ++ ([18] : List Int)), (x9837 ++ ([(IntKind.wrap .i64 (x10046 - 11))] : List Int))))) else (((bif (decide (x9946 = 0)) then some (decide (3 ≤ x9992)) else some false) : Option Bool).bind fun x10049 => (bif x10049 then ((g_deflate_Lengths_1__b k 17 (IntKind.wrap .i64 (x9992 - 3)) x9836 x9837).bind fun _ => some (x9992, (x9836 ++ ([17] : List Int)), (x9837 ++ ([(IntKind.wrap .i64 (x9992 - 3))] : List Int)))) else (((bif (!decide (x9946 = 0)) then some (decide (4 ≤ x9992)) else some false) : Option Bool).bind fun x10055 => (bif x10055 then ((some (if (7 : Int) < x9992 then (7 : Int) else x9992)).bind fun x10059 => ((g_deflate_Lengths_1__b k x9946 0 x9836 x9837).bind fun _ => ((g_deflate_Lengths_1__b k 16 (IntKind.wrap .i64 (x10059 - 4)) (x9836 ++ ([x9946] : List Int)) (x9837 ++ ([0] : List Int))).bind fun _ => some (x10059, ((x9836 ++ ([x9946] : List Int)) ++ ([16] : List Int)), ((x9837 ++ ([0] : List Int)) ++ ([(IntKind.wrap .i64 (x10059 - 4))] : List Int)))))) else ((g_deflate_Lengths_1__b k x9946 0 x9836 x9837).bind fun _ => some (1, (x9836 ++ ([x9946] : List Int)), (x9837 ++ ([0] : List Int)))))))))) : Option (Int × (List Int) × (List Int))).bind fun (x10038, x10039, x10040) => (g_deflate_Lengths_l0 k x8980 n (IntKind.wrap .i64 (x9835 + x10038)) x10039 x10040)))) else some (x9836, x9837)))
theorem g_deflate_Lengths_l0_eqs : True := by have := @g_deflate_Lengths_l0.eq_2; trivial
def g_deflate_Lengths (k : Nat) (x8980 : (List Int)) : Option ((List Int) × (List Int)) := ((g_deflate_Lengths_l0 k x8980 k 0 ([] : List Int) ([] : List Int)).bind fun (x9939, x9940) => some (x9939, x9940))
def g_huff_Full (k : Nat) (x10243 : (List Int)) : Option Bool := ((g_huff_judged k x10243).bind fun (x10250, x10251) => some x10250)
def g_deflate_row_l1 (k : Nat) (x10329 : (List Int)) : Nat → Int → Int → Option Int
  | 0, _, _ => none
  | n + 1, x10463, x10464 => ((some (decide (x10464 < ((List.length x10329 : Nat) : Int)))).bind fun x10475 => (bif x10475 then ((((ix x10329 x10464).bind fun x10481 => (bif (decide (0 < x10481)) then some (IntKind.wrap .i64 (x10463 + 1)) else some x10463)) : Option Int).bind fun x10480 => (g_deflate_row_l1 k x10329 n x10480 (IntKind.wrap .i64 (x10464 + 1)))) else some x10463))
theorem g_deflate_row_l1_eqs : True := by have := @g_deflate_row_l1.eq_2; trivial
def g_deflate_row_l0 (k : Nat) : Nat → Int → Int → (List Int) → Option (List Int)
  | 0, _, _, _ => none
  | n + 1, x10327, x10328, x10329 => (((bif (decide (x10328 < 2)) then ((some (decide (x10327 < ((List.length x10329 : Nat) : Int)))).bind fun x10419 => some x10419) else some false) : Option Bool).bind fun x10417 => (bif x10417 then ((((g_deflate_row_l1 k x10329 k 0 0).bind fun x10474 => (((bif (decide (x10474 < 2)) then ((ix x10329 x10327).bind fun x10489 => some (decide (x10489 = 0))) else some false) : Option Bool).bind fun x10487 => (bif x10487 then ((ix x10329 x10327).bind fun x10492 => some (x10474, (List.set x10329 (Int.toNat x10327) 1))) else some (x10474, x10329)))) : Option (Int × (List Int))).bind fun (x10452, x10453) => (g_deflate_row_l0 k n (IntKind.wrap .i64 (x10327 + 1)) x10452 x10453)) else some x10329))
theorem g_deflate_row_l0_eqs : True := by have := @g_deflate_row_l0.eq_2; trivial
def g_deflate_row (k : Nat) (x10085 : (List Int)) : Option (((List Int) × Bool × (List Int)) ⊕ ByteArray) := ((g_deflate_row_l0 k k 0 0 x10085).bind fun x10407 => ((g_huff_Lengths k x10407 7).bind fun y10499 => match y10499 with | (Sum.inl (x10496, x10497)) => ((g_huff_Full k x10496).bind fun x10501 => some (Sum.inl (x10496, x10501, x10407))) | (Sum.inr x10498) => some (Sum.inr x10498)))
def g_deflate_dynamic_l0 (k : Nat) (x5183 : (List S_deflate_Item)) : Nat → Int → (List Int) → (List Int) → Option ((List Int) × (List Int))
  | 0, _, _, _ => none
  | n + 1, x10687, x10688, x10689 => ((some (decide (x10687 < ((List.length x5183 : Nat) : Int)))).bind fun x10736 => (bif x10736 then ((((ix x5183 x10687).bind fun x10760 => (bif (decide (x10760.fLen = 0)) then ((ix x10688 x10760.fByte).bind fun x10765 => ((ix x10688 x10760.fByte).bind fun x10766 => some ((List.set x10688 (Int.toNat x10760.fByte) (IntKind.wrap .i64 (x10765 + 1))), x10689))) else ((g_deflate_lit k x10760.fLen).bind fun (x10768, x10769, x10770) => ((ix x10688 x10768).bind fun x10771 => ((ix x10688 x10768).bind fun x10772 => ((g_deflate_dist k x10760.fDist).bind fun (x10774, x10775, x10776) => ((ix x10689 x10774).bind fun x10777 => ((ix x10689 x10774).bind fun x10778 => some ((List.set x10688 (Int.toNat x10768) (IntKind.wrap .i64 (x10771 + 1))), (List.set x10689 (Int.toNat x10774) (IntKind.wrap .i64 (x10777 + 1)))))))))))) : Option ((List Int) × (List Int))).bind fun (x10758, x10759) => (g_deflate_dynamic_l0 k x5183 n (IntKind.wrap .i64 (x10687 + 1)) x10758 x10759)) else some (x10688, x10689)))
theorem g_deflate_dynamic_l0_eqs : True := by have := @g_deflate_dynamic_l0.eq_2; trivial
def g_deflate_dynamic_l1 (k : Nat) (x10800 : (List Int)) : Nat → Int → (List Int) → Option (List Int)
  | 0, _, _ => none
  | n + 1, x10809, x10810 => ((some (decide (x10809 < ((List.length x10800 : Nat) : Int)))).bind fun x10818 => (bif x10818 then ((ix x10800 x10809).bind fun x10821 => ((ix x10810 x10821).bind fun x10822 => ((ix x10810 x10821).bind fun x10823 => (g_deflate_dynamic_l1 k x10800 n (IntKind.wrap .i64 (x10809 + 1)) (List.set x10810 (Int.toNat x10821) (IntKind.wrap .i64 (x10822 + 1))))))) else some x10810))
theorem g_deflate_dynamic_l1_eqs : True := by have := @g_deflate_dynamic_l1.eq_2; trivial
def g_deflate_dynamic_l2 (k : Nat) (x10826 : (List Int)) : Nat → Int → Int → (List Int) → Option (Int × (List Int))
  | 0, _, _, _ => none
  | n + 1, x10858, x10859, x10860 => (bif (decide (x10858 < 19)) then (bif (decide (0 ≤ (x10858 : Int) ∧ (x10858 : Int) < 19)) then ((some (List.getD ([16, 17, 18, 0, 8, 7, 9, 6, 10, 5, 11, 4, 12, 3, 13, 2, 14, 1, 15] : List Int) (Int.toNat x10858) (0 : Int))).bind fun x10875 => ((ix x10826 x10875).bind fun x10876 => ((g_bits_Writer_Put__b k (IntKind.wrap .u32 x10876) 3 x10859 x10860).bind fun (x10878, x10879, x10880) => (g_deflate_dynamic_l2 k x10826 n (IntKind.wrap .i64 (x10858 + 1)) x10879 x10880)))) else none) else some (x10859, x10860))
theorem g_deflate_dynamic_l2_eqs : True := by have := @g_deflate_dynamic_l2.eq_2; trivial
def g_deflate_dynamic_l3 (k : Nat) (x10800 : (List Int)) (x10801 : (List Int)) (x10826 : (List Int)) (x10883 : (List Int)) : Nat → Int → Int → (List Int) → Option (Int × (List Int))
  | 0, _, _, _ => none
  | n + 1, x10913, x10914, x10915 => ((some (decide (x10913 < ((List.length x10800 : Nat) : Int)))).bind fun x10946 => (bif x10946 then ((ix x10800 x10913).bind fun x10949 => ((ix x10883 x10949).bind fun x10955 => ((ix x10826 x10949).bind fun x10956 => ((g_deflate_put k x10955 x10956 x10914 x10915).bind fun (x10958, x10959) => ((ix x10801 x10913).bind fun x10968 => (bif (decide (0 ≤ (x10949 : Int) ∧ (x10949 : Int) < 19)) then ((g_bits_Writer_Put__b k (IntKind.wrap .u32 x10968) (List.getD ([0, 0, 0, 0, 0, 0, 0, 0, 0, 0, 0, 0, 0, 0, 0, 0, 2, 3, 7] : List Int) (Int.toNat x10949) (0 : Int)) x10958 x10959).bind fun (x10971, x10972, x10973) => (g_deflate_dynamic_l3 k x10800 x10801 x10826 x10883 n (IntKind.wrap .i64 (x10913 + 1)) x10972 x10973)) else none)))))) else some (x10914, x10915)))
theorem g_deflate_dynamic_l3_eqs : True := by have := @g_deflate_dynamic_l3.eq_2; trivial
def g_deflate_dynamic (k : Nat) (x5183 : (List S_deflate_Item)) : Option (ByteArray ⊕ (List Int)) := ((bif (decide (0 ≤ (286 : Int) ∧ (286 : Int) ≤ 286 ∧ (8 : Int) * 286 ≤ 281474976710656 ∧ (286 : Int) ≤ 9223372036854775807)) then (bif (decide (0 ≤ (30 : Int) ∧ (30 : Int) ≤ 30 ∧ (8 : Int) * 30 ≤ 281474976710656 ∧ (30 : Int) ≤ 9223372036854775807)) then some () else none) else none).bind fun _ => ((ix (List.replicate (Int.toNat 286) (0 : Int)) 256).bind fun x10642 => ((g_deflate_dynamic_l0 k x5183 k 0 (List.set (List.replicate (Int.toNat 286) (0 : Int)) (Int.toNat 256) 1) (List.replicate (Int.toNat 30) (0 : Int))).bind fun (x10734, x10735) => ((g_huff_Lengths k x10734 15).bind fun y10785 => match y10785 with | (Sum.inl (x10782, x10783)) => ((g_huff_Lengths k x10735 15).bind fun y10790 => match y10790 with | (Sum.inl (x10787, x10788)) => ((g_deflate_shorter k x10782 257).bind fun x10792 => ((g_deflate_shorter k x10787 1).bind fun x10794 => ((g_slices_Concat_int_int k ([x10792, x10794] : List (List Int))).bind fun y10798 => match y10798 with | (Sum.inl x10796) => some (Sum.inl x10796) | (Sum.inr x10797) => ((g_deflate_Lengths k x10797).bind fun (x10800, x10801) => (bif (decide (0 ≤ (19 : Int) ∧ (19 : Int) ≤ 19 ∧ (8 : Int) * 19 ≤ 281474976710656 ∧ (19 : Int) ≤ 9223372036854775807)) then ((g_deflate_dynamic_l1 k x10800 k 0 (List.replicate (Int.toNat 19) (0 : Int))).bind fun x10817 => ((g_deflate_row k x10817).bind fun y10830 => match y10830 with | (Sum.inl (x10826, x10827, x10828)) => (bif (!x10827) then some (Sum.inr ([] : List Int)) else ((g_bits_NewWriter k).bind fun _ => ((g_bits_Writer_Put k 5 3 0).bind fun (x10835, x10836, x10837) => ((some (IntKind.wrap .i64 (((List.length x10792 : Nat) : Int) - 257))).bind fun x10838 => ((g_bits_Writer_Put__b k (IntKind.wrap .u32 x10838) 5 x10836 x10837).bind fun (x10840, x10841, x10842) => ((some (IntKind.wrap .i64 (((List.length x10794 : Nat) : Int) - 1))).bind fun x10843 => ((g_bits_Writer_Put__b k (IntKind.wrap .u32 x10843) 5 x10841 x10842).bind fun (x10845, x10846, x10847) => ((g_bits_Writer_Put__b k 15 4 x10846 x10847).bind fun (x10849, x10850, x10851) => ((g_deflate_dynamic_l2 k x10826 k 0 x10850 x10851).bind fun (x10870, x10871) => ((g_huff_Codes k x10826).bind fun (x10883, x10884) => ((g_deflate_dynamic_l3 k x10800 x10801 x10826 x10883 k 0 x10870 x10871).bind fun (x10944, x10945) => ((g_deflate_coded k x10792 x10794 x10944 x10945).bind fun (x10976, x10977) => ((g_deflate_coder_all k x5183 x10792 x10794 x10976 x10977 x10944 x10945).bind fun (x10979, x10980) => ((g_bits_Writer_Done k x10979 x10980).bind fun x10982 => some (Sum.inr x10982))))))))))))))) | (Sum.inr x10829) => some (Sum.inl x10829))) else none))))) | (Sum.inr x10789) => some (Sum.inl x10789)) | (Sum.inr x10784) => some (Sum.inl x10784)))))
def g_deflate_Deflate (k : Nat) (x7 : (List Int)) (x8 : Int) : Option (((List Int) × Int) ⊕ ByteArray) := (((bif (decide (x8 < 0)) then some true else some (decide (2 < x8))) : Option Bool).bind fun x11015 => (bif x11015 then some (Sum.inl (([] : List Int), 1)) else ((some (decide (1048576 < ((List.length x7 : Nat) : Int)))).bind fun x11021 => (bif x11021 then some (Sum.inl (([] : List Int), 3)) else ((g_deflate_stored k x7).bind fun x11024 => (bif (decide (x8 = 0)) then some (Sum.inl (x11024, 0)) else ((g_deflate_Parse k x7).bind fun x11028 => ((((g_deflate_fixed k x11028).bind fun x11035 => ((some (decide (((List.length x11035 : Nat) : Int) < ((List.length x11024 : Nat) : Int)))).bind fun x11036 => (bif x11036 then some x11035 else some x11024))) : Option (List Int)).bind fun x11033 => (((bif (decide (x8 = 2)) then ((g_deflate_dynamic k x11028).bind fun y11055 => match y11055 with | (Sum.inl x11053) => some (Sum.inl x11053) | (Sum.inr x11054) => (bif (decide (0 < List.length x11054)) then ((some (decide (((List.length x11054 : Nat) : Int) < ((List.length x11033 : Nat) : Int)))).bind fun x11059 => (bif x11059 then some (Sum.inr x11054) else some (Sum.inr x11033))) else none)) else some (Sum.inr x11033)) : Option (ByteArray ⊕ (List Int))).bind fun y11062 => match y11062 with | (Sum.inl x11049) => some (Sum.inr x11049) | (Sum.inr x11050) => some (Sum.inl (x11050, 0)))))))))))
def g_quirelaw01_Same (k : Nat) (x11069 : (List Int)) (x11070 : (List Int)) : Option Bool := ((some ((strOf x11069).toList == (strOf x11070).toList)).bind fun x11074 => some x11074)
def g_quirelaw04_alive (k : Nat) : Option (Bool ⊕ ByteArray) := ((g_deflate_Deflate k ([97] : List Int) 0).bind fun y11088 => match y11088 with | (Sum.inl (x11085, x11086)) => (((bif (decide (x11086 = 0)) then ((g_quirelaw01_Same k x11085 ([1, 1, 0, 254, 255, 97] : List Int)).bind fun x11095 => some x11095) else some false) : Option Bool).bind fun x11092 => some (Sum.inl x11092)) | (Sum.inr x11087) => some (Sum.inr x11087))
def g_quireref04_Unparse_l1 (k : Nat) (x14317 : S_quireref04_Item) : Nat → Int → (List Int) → Option (List Int)
  | 0, _, _ => none
  | n + 1, x14409, x14410 => (bif (decide (x14409 < x14317.fLen)) then ((some (IntKind.wrap .i64 (((List.length x14410 : Nat) : Int) - x14317.fDist))).bind fun x14419 => ((ix x14410 x14419).bind fun x14420 => (bif (decide (((List.length x14410) + (List.length ([x14420] : List Int))) * 1 ≤ 140737488355328)) then (g_quireref04_Unparse_l1 k x14317 n (IntKind.wrap .i64 (x14409 + 1)) (x14410 ++ ([x14420] : List Int))) else none))) else some x14410)
theorem g_quireref04_Unparse_l1_eqs : True := by have := @g_quireref04_Unparse_l1.eq_2; trivial
def g_quireref04_Unparse_l0 (k : Nat) (x13037 : (List S_quireref04_Item)) : Nat → Int → (List Int) → Option (Unit ⊕ (List Int))
  | 0, _, _ => none
  | n + 1, x13999, x14000 => ((some (decide (x13999 < ((List.length x13037 : Nat) : Int)))).bind fun x14213 => (bif x14213 then ((((ix x13037 x13999).bind fun x14317 => (bif (decide (x14317.fLen = 0)) then (((bif (decide (x14317.fByte < 0)) then some true else (bif (decide (255 < x14317.fByte)) then some true else (bif (!decide (x14317.fDist = 0)) then some true else ((some (decide (1048576 ≤ ((List.length x14000 : Nat) : Int)))).bind fun x14362 => some x14362)))) : Option Bool).bind fun x14358 => (bif x14358 then some (Sum.inl ()) else (bif (decide (((List.length x14000) + (List.length ([(IntKind.wrap .u8 x14317.fByte)] : List Int))) * 1 ≤ 140737488355328)) then some (Sum.inr (x14000 ++ ([(IntKind.wrap .u8 x14317.fByte)] : List Int))) else none))) else (((bif (!decide (x14317.fByte = 0)) then some true else (bif (decide (x14317.fLen < 3)) then some true else (bif (decide (258 < x14317.fLen)) then some true else (bif (decide (x14317.fDist < 1)) then some true else (bif (decide (32768 < x14317.fDist)) then some true else ((some (decide (((List.length x14000 : Nat) : Int) < x14317.fDist))).bind fun x14399 => (bif x14399 then some true else ((some (IntKind.wrap .i64 (1048576 - ((List.length x14000 : Nat) : Int)))).bind fun x14401 => some (decide (x14401 < x14317.fLen)))))))))) : Option Bool).bind fun x14393 => (bif x14393 then some (Sum.inl ()) else ((g_quireref04_Unparse_l1 k x14317 k 0 x14000).bind fun x14416 => some (Sum.inr x14416)))))) : Option (Unit ⊕ (List Int))).bind fun y14424 => match y14424 with | (Sum.inl _) => some (Sum.inl ()) | (Sum.inr x14316) => (g_quireref04_Unparse_l0 k x13037 n (IntKind.wrap .i64 (x13999 + 1)) x14316)) else some (Sum.inr x14000)))
theorem g_quireref04_Unparse_l0_eqs : True := by have := @g_quireref04_Unparse_l0.eq_2; trivial
def g_quireref04_Unparse (k : Nat) (x13037 : (List S_quireref04_Item)) : Option ((List Int) × Bool) := (((g_quireref04_Unparse_l0 k x13037 k 0 ([] : List Int)) : Option (Unit ⊕ (List Int))).bind fun y14426 => match y14426 with | (Sum.inl _) => some (([] : List Int), false) | (Sum.inr x14210) => some (x14210, true))
def g_deflate_Unparse_l1 (k : Nat) (x15028 : S_deflate_Item) : Nat → Int → (List Int) → Option (List Int)
  | 0, _, _ => none
  | n + 1, x15065, x15066 => (bif (decide (x15065 < x15028.fLen)) then ((some (IntKind.wrap .i64 (((List.length x15066 : Nat) : Int) - x15028.fDist))).bind fun x15075 => ((ix x15066 x15075).bind fun x15076 => (bif (decide (((List.length x15066) + (List.length ([x15076] : List Int))) * 1 ≤ 140737488355328)) then (g_deflate_Unparse_l1 k x15028 n (IntKind.wrap .i64 (x15065 + 1)) (x15066 ++ ([x15076] : List Int))) else none))) else some x15066)
theorem g_deflate_Unparse_l1_eqs : True := by have := @g_deflate_Unparse_l1.eq_2; trivial
def g_deflate_Unparse_l0 (k : Nat) (x14430 : (List S_deflate_Item)) : Nat → Int → (List Int) → Option (Unit ⊕ (List Int))
  | 0, _, _ => none
  | n + 1, x14877, x14878 => ((some (decide (x14877 < ((List.length x14430 : Nat) : Int)))).bind fun x14978 => (bif x14978 then ((((ix x14430 x14877).bind fun x15028 => (((bif (decide (x15028.fLen = 0)) then (bif (decide (0 ≤ x15028.fByte)) then (bif (decide (x15028.fByte < 256)) then (bif (decide (x15028.fDist = 0)) then ((some (decide (((List.length x14878 : Nat) : Int) < 1048576))).bind fun x15039 => some x15039) else some false) else some false) else some false) else some false) : Option Bool).bind fun x15034 => (bif x15034 then (bif (decide (((List.length x14878) + (List.length ([(IntKind.wrap .u8 x15028.fByte)] : List Int))) * 1 ≤ 140737488355328)) then some (Sum.inl (x14878 ++ ([(IntKind.wrap .u8 x15028.fByte)] : List Int))) else none) else (((bif (decide (x15028.fByte = 0)) then (bif (decide (3 ≤ x15028.fLen)) then (bif (decide (x15028.fLen ≤ 258)) then (bif (decide (1 ≤ x15028.fDist)) then ((some (if (((List.length x14878 : Nat) : Int) : Int) < 32768 then (((List.length x14878 : Nat) : Int) : Int) else 32768)).bind fun x15055 => (bif (decide (x15028.fDist ≤ x15055)) then ((some (IntKind.wrap .i64 (1048576 - ((List.length x14878 : Nat) : Int)))).bind fun x15057 => some (decide (x15028.fLen ≤ x15057))) else some false)) else some false) else some false) else some false) else some false) : Option Bool).bind fun x15050 => (bif x15050 then ((g_deflate_Unparse_l1 k x15028 k 0 x14878).bind fun x15072 => some (Sum.inl x15072)) else some (Sum.inr ())))))) : Option ((List Int) ⊕ Unit)).bind fun y15080 => match y15080 with | (Sum.inl x15027) => (g_deflate_Unparse_l0 k x14430 n (IntKind.wrap .i64 (x14877 + 1)) x15027) | (Sum.inr _) => some (Sum.inl ())) else some (Sum.inr x14878)))
theorem g_deflate_Unparse_l0_eqs : True := by have := @g_deflate_Unparse_l0.eq_2; trivial
def g_deflate_Unparse (k : Nat) (x14430 : (List S_deflate_Item)) : Option ((List Int) × Bool) := (((g_deflate_Unparse_l0 k x14430 k 0 ([] : List Int)) : Option (Unit ⊕ (List Int))).bind fun y15082 => match y15082 with | (Sum.inl _) => some (([] : List Int), false) | (Sum.inr x14977) => some (x14977, true))
def g_quirelaw04_DeflateParse_l0 (k : Nat) (x15413 : (List S_deflate_Item)) : Nat → Int → (List S_quireref04_Item) → Option (List S_quireref04_Item)
  | 0, _, _ => none
  | n + 1, x15438, x15439 => ((some (decide (x15438 < ((List.length x15413 : Nat) : Int)))).bind fun x15455 => (bif x15455 then ((ix x15413 x15438).bind fun x15461 => ((ix x15413 x15438).bind fun x15462 => ((ix x15413 x15438).bind fun x15463 => (bif (decide (((List.length x15439) + (List.length ([(⟨x15461.fByte, x15462.fLen, x15463.fDist⟩ : S_quireref04_Item)] : List S_quireref04_Item))) * 24 ≤ 140737488355328)) then (g_quirelaw04_DeflateParse_l0 k x15413 n (IntKind.wrap .i64 (x15438 + 1)) (x15439 ++ ([(⟨x15461.fByte, x15462.fLen, x15463.fDist⟩ : S_quireref04_Item)] : List S_quireref04_Item))) else none)))) else some x15439))
theorem g_quirelaw04_DeflateParse_l0_eqs : True := by have := @g_quirelaw04_DeflateParse_l0.eq_2; trivial
def g_quirelaw04_DeflateParse_l1 (k : Nat) (x15413 : (List S_deflate_Item)) : Nat → Int → Int → Option (Unit ⊕ Unit)
  | 0, _, _ => none
  | n + 1, x15656, x15657 => ((some (decide (x15657 < ((List.length x15413 : Nat) : Int)))).bind fun x15778 => (bif x15778 then ((((((ix x15413 x15657).bind fun x15884 => (bif (decide (0 < x15884.fLen)) then some true else ((ix x15413 (IntKind.wrap .i64 (x15657 - 1))).bind fun x15886 => (bif (decide (0 < x15886.fLen)) then some true else ((ix x15413 x15657).bind fun x15888 => ((ix x15413 (IntKind.wrap .i64 (x15657 - 1))).bind fun x15889 => some (!decide (x15888.fByte = x15889.fByte)))))))) : Option Bool).bind fun x15877 => (bif x15877 then some 1 else some (IntKind.wrap .i64 (x15656 + 1)))) : Option Int).bind fun x15864 => (bif (decide (4 < x15864)) then some (Sum.inl ()) else (g_quirelaw04_DeflateParse_l1 k x15413 n x15864 (IntKind.wrap .i64 (x15657 + 1))))) else some (Sum.inr ())))
theorem g_quirelaw04_DeflateParse_l1_eqs : True := by have := @g_quirelaw04_DeflateParse_l1.eq_2; trivial
def g_quirelaw04_DeflateParse (k : Nat) (x2 : (List Int)) : Option (Bool ⊕ ByteArray) := ((some (decide (65536 < ((List.length x2 : Nat) : Int)))).bind fun x15406 => (bif x15406 then ((g_quirelaw04_alive k).bind fun y15411 => match y15411 with | (Sum.inl x15409) => some (Sum.inl x15409) | (Sum.inr x15410) => some (Sum.inr x15410)) else ((g_deflate_Parse k x2).bind fun x15413 => ((g_quirelaw04_DeflateParse_l0 k x15413 k 0 ([] : List S_quireref04_Item)).bind fun x15452 => ((g_quireref04_Unparse k x15452).bind fun (x15467, x15468) => ((g_deflate_Unparse k x15413).bind fun (x15470, x15471) => (((bif (!x15468) then some (Sum.inl true) else (bif (!x15471) then some (Sum.inl true) else ((g_quirelaw01_Same k x15467 x2).bind fun x15524 => (bif (!x15524) then some (Sum.inl true) else ((g_quirelaw01_Same k x15470 x2).bind fun x15527 => (bif (!x15527) then some (Sum.inl true) else ((some (decide (((List.length x2 : Nat) : Int) < ((List.length x15413 : Nat) : Int)))).bind fun x15529 => (bif x15529 then some (Sum.inl true) else ((g_quirelaw04_alive k).bind fun y15534 => match y15534 with | (Sum.inl x15532) => some (Sum.inl (!x15532)) | (Sum.inr x15533) => some (Sum.inr x15533)))))))))) : Option (Bool ⊕ ByteArray)).bind fun y15536 => match y15536 with | (Sum.inl x15519) => (bif x15519 then some (Sum.inl false) else (((g_quirelaw04_DeflateParse_l1 k x15413 k 1 1) : Option (Unit ⊕ Unit)).bind fun y15895 => match y15895 with | (Sum.inl _) => some (Sum.inl false) | (Sum.inr _) => some (Sum.inl true))) | (Sum.inr x15520) => some (Sum.inr x15520))))))))
end Go.Proofs.Ytmmeanjjfhimjaa.W
namespace Go.Proofs.Ytmmeanjjfhimjaa.W
open Go Go.Q Go.Proofs
set_option linter.unusedVariables false
set_option linter.unusedSimpArgs false
end Go.Proofs.Ytmmeanjjfhimjaa.W
namespace Go.Proofs.Ytmmeanjjfhimjaa.W
open Go Go.Q Go.Proofs
set_option linter.unusedVariables false
set_option linter.unusedSimpArgs false
set_option maxRecDepth 100000
theorem mixed : Try.prog.follows .mixedOrders = true := rfl
theorem sz5 : SzIs Try.prog 5 1 := ⟨Try.t5, rfl, rfl⟩
theorem sl22 : SlIs Try.prog 22 5 1 := ⟨Try.underlying22, sz5⟩
theorem li22 : LitIs Try.prog 22 5 1 [.int .u8 0] := ⟨Try.underlying22, ⟨Try.t5, _, rfl, rfl, rfl, rfl⟩, by intro v hv; simp at hv; (try rcases hv with rfl | hv) <;> first | rfl | (subst hv; rfl) | simp_all [Value.oneCell']⟩
theorem bu101 : BuildIs Try.prog 101 (placeOf [(0, 1), (1, 1)]) [.slice none 0 0, .int .i64 0] := BuildIs.struct (it := Try.t101) rfl Try.underlying101 rfl rfl rfl (by intro v hv; simp only [List.mem_cons, List.not_mem_nil, or_false] at hv; (try rcases hv with rfl | rfl) <;> (subst_vars; rfl))
theorem fn23 : FnIs Try.prog 23 := ⟨_, Try.func23, rfl, by kernel_rfl⟩
theorem sc59 : Sc Try.prog 59 := ⟨_, Try.t59, Try.underlying59, rfl, rfl, trivial⟩
theorem fn52 : FnIs Try.prog 52 := ⟨_, Try.func52, rfl, by kernel_rfl⟩
theorem sc3 : Sc Try.prog 3 := ⟨_, Try.t3, Try.underlying3, rfl, rfl, trivial⟩
theorem sc50 : Sc Try.prog 50 := ⟨_, Try.t50, Try.underlying50, rfl, rfl, trivial⟩
theorem fi101_1 : FieldIs Try.prog 101 1 1 3 1 := ⟨_, _, Try.t3, Try.underlying101, rfl, rfl, rfl, rfl, rfl⟩
theorem fi101_0 : FieldIs Try.prog 101 0 0 22 1 := ⟨_, _, Try.t22, Try.underlying101, rfl, rfl, rfl, rfl, rfl⟩
theorem sc22 : Sc Try.prog 22 := ⟨_, Try.t22, Try.underlying22, rfl, rfl, trivial⟩
theorem ap22 : ApIs Try.prog 22 5 1 1 := ⟨Try.underlying22, ⟨Try.t5, _, rfl, rfl, rfl, rfl, rfl⟩, by decide, by decide⟩
theorem sz22 : SzIs Try.prog 22 1 := ⟨Try.t22, rfl, rfl⟩
theorem sc5 : Sc Try.prog 5 := ⟨_, Try.t5, Try.underlying5, rfl, rfl, trivial⟩
theorem sz3 : SzIs Try.prog 3 1 := ⟨Try.t3, rfl, rfl⟩
theorem fn24 : FnIs Try.prog 24 := ⟨_, Try.func24, rfl, by kernel_rfl⟩
theorem fn25 : FnIs Try.prog 25 := ⟨_, Try.func25, rfl, by kernel_rfl⟩
theorem fn26 : FnIs Try.prog 26 := ⟨_, Try.func26, rfl, by kernel_rfl⟩
theorem fn53 : FnIs Try.prog 53 := ⟨_, Try.func53, rfl, by kernel_rfl⟩
theorem fn27 : FnIs Try.prog 27 := ⟨_, Try.func27, rfl, by kernel_rfl⟩
theorem fn16 : FnIs Try.prog 16 := ⟨_, Try.func16, rfl, by kernel_rfl⟩
theorem fn22 : FnIs Try.prog 22 := ⟨_, Try.func22, rfl, by kernel_rfl⟩
theorem li66 : LitIs Try.prog 66 3 1 [.int .i64 0] := ⟨Try.underlying66, ⟨Try.t3, _, rfl, rfl, rfl, rfl⟩, by intro v hv; simp at hv; (try rcases hv with rfl | hv) <;> first | rfl | (subst hv; rfl) | simp_all [Value.oneCell']⟩
theorem by3 : ∃ i, Try.prog.info? 3 = some i ∧ i.bytes = 8 := ⟨Try.t3, rfl, rfl⟩
theorem bu97 : BuildIs Try.prog 97 (placeOf [(0, 1), (1, 1), (2, 1), (3, 1)]) [.slice none 0 0, .map none, .slice none 0 0, .int .i64 0] := BuildIs.struct (it := Try.t97) rfl Try.underlying97 rfl rfl rfl (by intro v hv; simp only [List.mem_cons, List.not_mem_nil, or_false] at hv; (try rcases hv with rfl | rfl | rfl | rfl) <;> (subst_vars; rfl))
theorem bu36 : BuildIs Try.prog 36 (placeOf [(0, 1), (1, 1), (2, 1)]) [.int .i64 0, .int .i64 0, .int .i64 0] := BuildIs.struct (it := Try.t36) rfl Try.underlying36 rfl rfl rfl (by intro v hv; simp only [List.mem_cons, List.not_mem_nil, or_false] at hv; (try rcases hv with rfl | rfl | rfl) <;> (subst_vars; rfl))
theorem ze36 : ZeroIs Try.prog 36 [.int .i64 0, .int .i64 0, .int .i64 0] := ⟨⟨Try.t36, _, rfl, rfl, rfl⟩, by intro v hv; simp only [List.mem_cons, List.not_mem_nil, or_false] at hv; (try rcases hv with rfl | rfl | rfl) <;> (subst_vars; rfl)⟩
theorem sz36 : SzIs Try.prog 36 3 := ⟨Try.t36, rfl, rfl⟩
theorem fi97_0 : FieldIs Try.prog 97 0 0 22 1 := ⟨_, _, Try.t22, Try.underlying97, rfl, rfl, rfl, rfl, rfl⟩
theorem fi97_3 : FieldIs Try.prog 97 3 3 3 1 := ⟨_, _, Try.t3, Try.underlying97, rfl, rfl, rfl, rfl, rfl⟩
theorem ar136 : ArIs Try.prog 136 5 3 1 := ⟨Try.underlying136, sz5⟩
theorem ag136 : Ag Try.prog 136 3 := ⟨_, Try.t136, Try.underlying136, rfl, rfl, trivial⟩
theorem ze136 : ZeroIs Try.prog 136 [.int .u8 0, .int .u8 0, .int .u8 0] := ⟨⟨Try.t136, _, rfl, rfl, rfl⟩, by intro v hv; simp only [List.mem_cons, List.not_mem_nil, or_false] at hv; (try rcases hv with rfl | rfl | rfl) <;> (subst_vars; rfl)⟩
theorem sz136 : SzIs Try.prog 136 3 := ⟨Try.t136, rfl, rfl⟩
theorem fi97_1 : FieldIs Try.prog 97 1 1 95 1 := ⟨_, _, Try.t95, Try.underlying97, rfl, rfl, rfl, rfl, rfl⟩
theorem sc95 : Sc Try.prog 95 := ⟨_, Try.t95, Try.underlying95, rfl, rfl, trivial⟩
theorem ko136 : KeyOk Try.prog 136 fk3 := keyOk_u8x3 Try.underlying136 Try.underlying5 sz5
theorem zv3 : ∀ w, (zeroValue 3).run Try.prog w = .ok ((Value.int .i64) (0 : Int)) w := zv_of ⟨Try.t3, rfl, rfl⟩
theorem fi97_2 : FieldIs Try.prog 97 2 2 66 1 := ⟨_, _, Try.t66, Try.underlying97, rfl, rfl, rfl, rfl, rfl⟩
theorem sc66 : Sc Try.prog 66 := ⟨_, Try.t66, Try.underlying66, rfl, rfl, trivial⟩
theorem sl66 : SlIs Try.prog 66 3 1 := ⟨Try.underlying66, sz3⟩
theorem fn77 : FnIs Try.prog 77 := ⟨_, Try.func77, rfl, by kernel_rfl⟩
theorem fn51 : FnIs Try.prog 51 := ⟨_, Try.func51, rfl, by kernel_rfl⟩
theorem ag36 : Ag Try.prog 36 3 := ⟨_, Try.t36, Try.underlying36, rfl, rfl, trivial⟩
theorem sc32 : Sc Try.prog 32 := ⟨_, Try.t32, Try.underlying32, rfl, rfl, trivial⟩
theorem li32 : LitIs Try.prog 32 36 3 [.int .i64 0, .int .i64 0, .int .i64 0] := ⟨Try.underlying32, ⟨Try.t36, _, rfl, rfl, rfl, rfl⟩, by intro v hv; simp at hv; (try rcases hv with rfl | hv) <;> first | rfl | (subst hv; rfl) | simp_all [Value.oneCell']⟩
theorem ap32 : ApIs Try.prog 32 36 3 24 := ⟨Try.underlying32, ⟨Try.t36, _, rfl, rfl, rfl, rfl, rfl⟩, by decide, by decide⟩
theorem sl32 : SlIs Try.prog 32 36 3 := ⟨Try.underlying32, sz36⟩
theorem sz32 : SzIs Try.prog 32 1 := ⟨Try.t32, rfl, rfl⟩
theorem fn49 : FnIs Try.prog 49 := ⟨_, Try.func49, rfl, by kernel_rfl⟩
theorem fn21 : FnIs Try.prog 21 := ⟨_, Try.func21, rfl, by kernel_rfl⟩
theorem fn13 : FnIs Try.prog 13 := ⟨_, Try.func13, rfl, by kernel_rfl⟩
theorem bu109 : BuildIs Try.prog 109 (placeOf [(0, 1), (1, 1)]) [.int .i64 0, .int .i64 0] := BuildIs.struct (it := Try.t109) rfl Try.underlying109 rfl rfl rfl (by intro v hv; simp only [List.mem_cons, List.not_mem_nil, or_false] at hv; (try rcases hv with rfl | rfl) <;> (subst_vars; rfl))
theorem sz109 : SzIs Try.prog 109 2 := ⟨Try.t109, rfl, rfl⟩
theorem li138 : LitIs Try.prog 138 109 2 [.int .i64 0, .int .i64 0] := ⟨Try.underlying138, ⟨Try.t109, _, rfl, rfl, rfl, rfl⟩, by intro v hv; simp at hv; (try rcases hv with rfl | hv) <;> first | rfl | (subst hv; rfl) | simp_all [Value.oneCell']⟩
theorem sl138 : SlIs Try.prog 138 109 2 := ⟨Try.underlying138, sz109⟩
theorem ag109 : Ag Try.prog 109 2 := ⟨_, Try.t109, Try.underlying109, rfl, rfl, trivial⟩
theorem ze109 : ZeroIs Try.prog 109 [.int .i64 0, .int .i64 0] := ⟨⟨Try.t109, _, rfl, rfl, rfl⟩, by intro v hv; simp only [List.mem_cons, List.not_mem_nil, or_false] at hv; (try rcases hv with rfl | rfl) <;> (subst_vars; rfl)⟩
theorem fi109_0 : FieldIs Try.prog 109 0 0 3 1 := ⟨_, _, Try.t3, Try.underlying109, rfl, rfl, rfl, rfl, rfl⟩
theorem fi109_1 : FieldIs Try.prog 109 1 1 3 1 := ⟨_, _, Try.t3, Try.underlying109, rfl, rfl, rfl, rfl, rfl⟩
theorem ap66 : ApIs Try.prog 66 3 1 8 := ⟨Try.underlying66, ⟨Try.t3, _, rfl, rfl, rfl, rfl, rfl⟩, by decide, by decide⟩
theorem fn54 : FnIs Try.prog 54 := ⟨_, Try.func54, rfl, by kernel_rfl⟩
theorem fn29 : FnIs Try.prog 29 := ⟨_, Try.func29, rfl, by kernel_rfl⟩
theorem fn30 : FnIs Try.prog 30 := ⟨_, Try.func30, rfl, by kernel_rfl⟩
theorem bu106 : BuildIs Try.prog 106 (placeOf [(0, 1), (1, 1), (2, 1), (3, 1), (4, 1)]) [.pointer none, .slice none 0 0, .slice none 0 0, .slice none 0 0, .slice none 0 0] := BuildIs.struct (it := Try.t106) rfl Try.underlying106 rfl rfl rfl (by intro v hv; simp only [List.mem_cons, List.not_mem_nil, or_false] at hv; (try rcases hv with rfl | rfl | rfl | rfl | rfl) <;> (subst_vars; rfl))
theorem fn66 : FnIs Try.prog 66 := ⟨_, Try.func66, rfl, by kernel_rfl⟩
theorem li80 : LitIs Try.prog 80 50 1 [.int .u32 0] := ⟨Try.underlying80, ⟨Try.t50, _, rfl, rfl, rfl, rfl⟩, by intro v hv; simp at hv; (try rcases hv with rfl | hv) <;> first | rfl | (subst hv; rfl) | simp_all [Value.oneCell']⟩
theorem by50 : ∃ i, Try.prog.info? 50 = some i ∧ i.bytes = 4 := ⟨Try.t50, rfl, rfl⟩
theorem ze80 : ZeroIs Try.prog 80 [.slice none 0 0] := ⟨⟨Try.t80, _, rfl, rfl, rfl⟩, by intro v hv; simp only [List.mem_cons, List.not_mem_nil, or_false] at hv; (try rcases hv with rfl) <;> (subst_vars; rfl)⟩
theorem sz80 : SzIs Try.prog 80 1 := ⟨Try.t80, rfl, rfl⟩
theorem ze50 : ZeroIs Try.prog 50 [.int .u32 0] := ⟨⟨Try.t50, _, rfl, rfl, rfl⟩, by intro v hv; simp only [List.mem_cons, List.not_mem_nil, or_false] at hv; (try rcases hv with rfl) <;> (subst_vars; rfl)⟩
theorem sz50 : SzIs Try.prog 50 1 := ⟨Try.t50, rfl, rfl⟩
theorem fn67 : FnIs Try.prog 67 := ⟨_, Try.func67, rfl, by kernel_rfl⟩
theorem sc80 : Sc Try.prog 80 := ⟨_, Try.t80, Try.underlying80, rfl, rfl, trivial⟩
theorem sl80 : SlIs Try.prog 80 50 1 := ⟨Try.underlying80, sz50⟩
theorem fn39 : FnIs Try.prog 39 := ⟨_, Try.func39, rfl, by kernel_rfl⟩
theorem fi106_3 : FieldIs Try.prog 106 3 3 80 1 := ⟨_, _, Try.t80, Try.underlying106, rfl, rfl, rfl, rfl, rfl⟩
theorem fi106_4 : FieldIs Try.prog 106 4 4 80 1 := ⟨_, _, Try.t80, Try.underlying106, rfl, rfl, rfl, rfl, rfl⟩
theorem fn28 : FnIs Try.prog 28 := ⟨_, Try.func28, rfl, by kernel_rfl⟩
theorem fi36_1 : FieldIs Try.prog 36 1 1 3 1 := ⟨_, _, Try.t3, Try.underlying36, rfl, rfl, rfl, rfl, rfl⟩
theorem fi106_0 : FieldIs Try.prog 106 0 0 59 1 := ⟨_, _, Try.t59, Try.underlying106, rfl, rfl, rfl, rfl, rfl⟩
theorem fi36_0 : FieldIs Try.prog 36 0 0 3 1 := ⟨_, _, Try.t3, Try.underlying36, rfl, rfl, rfl, rfl, rfl⟩
theorem fi106_1 : FieldIs Try.prog 106 1 1 66 1 := ⟨_, _, Try.t66, Try.underlying106, rfl, rfl, rfl, rfl, rfl⟩
theorem fn90 : FnIs Try.prog 90 := ⟨_, Try.func90, rfl, by kernel_rfl⟩
theorem fn82 : FnIs Try.prog 82 := ⟨_, Try.func82, rfl, by kernel_rfl⟩
theorem fn68 : FnIs Try.prog 68 := ⟨_, Try.func68, rfl, by kernel_rfl⟩
theorem fn40 : FnIs Try.prog 40 := ⟨_, Try.func40, rfl, by kernel_rfl⟩
theorem fn56 : FnIs Try.prog 56 := ⟨_, Try.func56, rfl, by kernel_rfl⟩
theorem fn55 : FnIs Try.prog 55 := ⟨_, Try.func55, rfl, by kernel_rfl⟩
theorem fn32 : FnIs Try.prog 32 := ⟨_, Try.func32, rfl, by kernel_rfl⟩
theorem fi36_2 : FieldIs Try.prog 36 2 2 3 1 := ⟨_, _, Try.t3, Try.underlying36, rfl, rfl, rfl, rfl, rfl⟩
theorem fn57 : FnIs Try.prog 57 := ⟨_, Try.func57, rfl, by kernel_rfl⟩
theorem fn33 : FnIs Try.prog 33 := ⟨_, Try.func33, rfl, by kernel_rfl⟩
theorem fi106_2 : FieldIs Try.prog 106 2 2 66 1 := ⟨_, _, Try.t66, Try.underlying106, rfl, rfl, rfl, rfl, rfl⟩
theorem fn31 : FnIs Try.prog 31 := ⟨_, Try.func31, rfl, by kernel_rfl⟩
theorem fn17 : FnIs Try.prog 17 := ⟨_, Try.func17, rfl, by kernel_rfl⟩
theorem bu114 : BuildIs Try.prog 114 (placeOf [(0, 1), (1, 1)]) [.int .i64 0, .slice none 0 0] := BuildIs.struct (it := Try.t114) rfl Try.underlying114 rfl rfl rfl (by intro v hv; simp only [List.mem_cons, List.not_mem_nil, or_false] at hv; (try rcases hv with rfl | rfl) <;> (subst_vars; rfl))
theorem sz114 : SzIs Try.prog 114 2 := ⟨Try.t114, rfl, rfl⟩
theorem li112 : LitIs Try.prog 112 114 2 [.int .i64 0, .slice none 0 0] := ⟨Try.underlying112, ⟨Try.t114, _, rfl, rfl, rfl, rfl⟩, by intro v hv; simp at hv; (try rcases hv with rfl | hv) <;> first | rfl | (subst hv; rfl) | simp_all [Value.oneCell']⟩
theorem ap112 : ApIs Try.prog 112 114 2 32 := ⟨Try.underlying112, ⟨Try.t114, _, rfl, rfl, rfl, rfl, rfl⟩, by decide, by decide⟩
theorem sl112 : SlIs Try.prog 112 114 2 := ⟨Try.underlying112, sz114⟩
theorem fi114_1 : FieldIs Try.prog 114 1 1 66 1 := ⟨_, _, Try.t66, Try.underlying114, rfl, rfl, rfl, rfl, rfl⟩
theorem ag114 : Ag Try.prog 114 2 := ⟨_, Try.t114, Try.underlying114, rfl, rfl, trivial⟩
theorem fi114_0 : FieldIs Try.prog 114 0 0 3 1 := ⟨_, _, Try.t3, Try.underlying114, rfl, rfl, rfl, rfl, rfl⟩
theorem fn79 : FnIs Try.prog 79 := ⟨_, Try.func79, rfl, by kernel_rfl⟩
theorem fn59 : FnIs Try.prog 59 := ⟨_, Try.func59, rfl, by kernel_rfl⟩
theorem fn58 : FnIs Try.prog 58 := ⟨_, Try.func58, rfl, by kernel_rfl⟩
theorem fn88 : FnIs Try.prog 88 := ⟨_, Try.func88, rfl, by kernel_rfl⟩
theorem fn94 : FnIs Try.prog 94 := ⟨_, Try.func94, rfl, by kernel_rfl⟩
theorem fn93 : FnIs Try.prog 93 := ⟨_, Try.func93, rfl, by kernel_rfl⟩
theorem fn89 : FnIs Try.prog 89 := ⟨_, Try.func89, rfl, by kernel_rfl⟩
theorem fn80 : FnIs Try.prog 80 := ⟨_, Try.func80, rfl, by kernel_rfl⟩
theorem fn60 : FnIs Try.prog 60 := ⟨_, Try.func60, rfl, by kernel_rfl⟩
theorem fn61 : FnIs Try.prog 61 := ⟨_, Try.func61, rfl, by kernel_rfl⟩
theorem sz66 : SzIs Try.prog 66 1 := ⟨Try.t66, rfl, rfl⟩
theorem li120 : LitIs Try.prog 120 66 1 [.slice none 0 0] := ⟨Try.underlying120, ⟨Try.t66, _, rfl, rfl, rfl, rfl⟩, by intro v hv; simp at hv; (try rcases hv with rfl | hv) <;> first | rfl | (subst hv; rfl) | simp_all [Value.oneCell']⟩
theorem sl120 : SlIs Try.prog 120 66 1 := ⟨Try.underlying120, sz66⟩
theorem cn9 : Conc Try.prog 9 := ⟨_, Try.underlying9, trivial⟩
theorem fn64 : FnIs Try.prog 64 := ⟨_, Try.func64, rfl, by kernel_rfl⟩
theorem fn37 : FnIs Try.prog 37 := ⟨_, Try.func37, rfl, by kernel_rfl⟩
theorem fn34 : FnIs Try.prog 34 := ⟨_, Try.func34, rfl, by kernel_rfl⟩
theorem fn35 : FnIs Try.prog 35 := ⟨_, Try.func35, rfl, by kernel_rfl⟩
theorem ze66 : ZeroIs Try.prog 66 [.slice none 0 0] := ⟨⟨Try.t66, _, rfl, rfl, rfl⟩, by intro v hv; simp only [List.mem_cons, List.not_mem_nil, or_false] at hv; (try rcases hv with rfl) <;> (subst_vars; rfl)⟩
theorem fn63 : FnIs Try.prog 63 := ⟨_, Try.func63, rfl, by kernel_rfl⟩
theorem fn62 : FnIs Try.prog 62 := ⟨_, Try.func62, rfl, by kernel_rfl⟩
theorem fn36 : FnIs Try.prog 36 := ⟨_, Try.func36, rfl, by kernel_rfl⟩
theorem fn65 : FnIs Try.prog 65 := ⟨_, Try.func65, rfl, by kernel_rfl⟩
theorem fn38 : FnIs Try.prog 38 := ⟨_, Try.func38, rfl, by kernel_rfl⟩
theorem bu79 : BuildIs Try.prog 79 (placeAt 1) [.int .i64 0, .int .i64 0, .int .i64 0, .int .i64 0, .int .i64 0, .int .i64 0, .int .i64 0, .int .i64 0, .int .i64 0, .int .i64 0, .int .i64 0, .int .i64 0, .int .i64 0, .int .i64 0, .int .i64 0, .int .i64 0, .int .i64 0, .int .i64 0, .int .i64 0] := BuildIs.array (it := Try.t79) (ie := Try.t3) rfl Try.underlying79 rfl rfl rfl rfl (fun v hv => List.all_eq_true.1 (show ([.int .i64 0, .int .i64 0, .int .i64 0, .int .i64 0, .int .i64 0, .int .i64 0, .int .i64 0, .int .i64 0, .int .i64 0, .int .i64 0, .int .i64 0, .int .i64 0, .int .i64 0, .int .i64 0, .int .i64 0, .int .i64 0, .int .i64 0, .int .i64 0, .int .i64 0] : List Value).all (fun v => v.oneCell') = true from rfl) v hv)
theorem ar79 : ArIs Try.prog 79 3 19 1 := ⟨Try.underlying79, sz3⟩
theorem ze79 : ZeroIs Try.prog 79 [.int .i64 0, .int .i64 0, .int .i64 0, .int .i64 0, .int .i64 0, .int .i64 0, .int .i64 0, .int .i64 0, .int .i64 0, .int .i64 0, .int .i64 0, .int .i64 0, .int .i64 0, .int .i64 0, .int .i64 0, .int .i64 0, .int .i64 0, .int .i64 0, .int .i64 0] := ⟨⟨Try.t79, _, rfl, rfl, rfl⟩, by intro v hv; simp only [List.mem_cons, List.not_mem_nil, or_false] at hv; (try rcases hv with rfl | rfl | rfl | rfl | rfl | rfl | rfl | rfl | rfl | rfl | rfl | rfl | rfl | rfl | rfl | rfl | rfl | rfl | rfl) <;> (subst_vars; rfl)⟩
theorem sz79 : SzIs Try.prog 79 19 := ⟨Try.t79, rfl, rfl⟩
theorem fn18 : FnIs Try.prog 18 := ⟨_, Try.func18, rfl, by kernel_rfl⟩
theorem fn7 : FnIs Try.prog 7 := ⟨_, Try.func7, rfl, by kernel_rfl⟩
theorem fn10 : FnIs Try.prog 10 := ⟨_, Try.func10, rfl, by kernel_rfl⟩
theorem fn8 : FnIs Try.prog 8 := ⟨_, Try.func8, rfl, by kernel_rfl⟩
theorem bu37 : BuildIs Try.prog 37 (placeOf [(0, 1), (1, 1), (2, 1)]) [.int .i64 0, .int .i64 0, .int .i64 0] := BuildIs.struct (it := Try.t37) rfl Try.underlying37 rfl rfl rfl (by intro v hv; simp only [List.mem_cons, List.not_mem_nil, or_false] at hv; (try rcases hv with rfl | rfl | rfl) <;> (subst_vars; rfl))
theorem sz37 : SzIs Try.prog 37 3 := ⟨Try.t37, rfl, rfl⟩
theorem li34 : LitIs Try.prog 34 37 3 [.int .i64 0, .int .i64 0, .int .i64 0] := ⟨Try.underlying34, ⟨Try.t37, _, rfl, rfl, rfl, rfl⟩, by intro v hv; simp at hv; (try rcases hv with rfl | hv) <;> first | rfl | (subst hv; rfl) | simp_all [Value.oneCell']⟩
theorem ap34 : ApIs Try.prog 34 37 3 24 := ⟨Try.underlying34, ⟨Try.t37, _, rfl, rfl, rfl, rfl, rfl⟩, by decide, by decide⟩
theorem sl34 : SlIs Try.prog 34 37 3 := ⟨Try.underlying34, sz37⟩
theorem ag37 : Ag Try.prog 37 3 := ⟨_, Try.t37, Try.underlying37, rfl, rfl, trivial⟩
theorem ze37 : ZeroIs Try.prog 37 [.int .i64 0, .int .i64 0, .int .i64 0] := ⟨⟨Try.t37, _, rfl, rfl, rfl⟩, by intro v hv; simp only [List.mem_cons, List.not_mem_nil, or_false] at hv; (try rcases hv with rfl | rfl | rfl) <;> (subst_vars; rfl)⟩
theorem fi37_1 : FieldIs Try.prog 37 1 1 3 1 := ⟨_, _, Try.t3, Try.underlying37, rfl, rfl, rfl, rfl, rfl⟩
theorem fi37_0 : FieldIs Try.prog 37 0 0 3 1 := ⟨_, _, Try.t3, Try.underlying37, rfl, rfl, rfl, rfl, rfl⟩
theorem fi37_2 : FieldIs Try.prog 37 2 2 3 1 := ⟨_, _, Try.t3, Try.underlying37, rfl, rfl, rfl, rfl, rfl⟩
theorem fn14 : FnIs Try.prog 14 := ⟨_, Try.func14, rfl, by kernel_rfl⟩
theorem fn15 : FnIs Try.prog 15 := ⟨_, Try.func15, rfl, by kernel_rfl⟩
end Go.Proofs.Ytmmeanjjfhimjaa.W
namespace Go.Proofs.Ytmmeanjjfhimjaa.W
open Go Go.Q Go.Proofs
set_option linter.unusedVariables false
set_option linter.unusedSimpArgs false
set_option maxRecDepth 100000 in
set_option maxHeartbeats 4000000 in
theorem s_bits_NewWriter (k : Nat) (H : g_bits_NewWriter k = some ()) : Go.Q.Spec Try.prog 23 0 [] Mem.nil (fun o M => o = .ret (.ptr 0 0) ∧ M = (Mem.nil.push (.cells 101 [.lit (.slice none 0 0), .lit (.int .i64 0)]))) := by
 unfold g_bits_NewWriter at H
 refine Go.Q.Spec.of_bodyR (az := []) (rs := [.tmp 0]) (nt := 3) Try.func23 rfl rfl (by intro t T h; simp at h) rfl rfl fun cx hnp => ?_
 refine WP.seq ?_
 refine WP.region ?_
 refine WPL.q (q_as (v := .lit _) rfl) rfl ?_
 refine WPL.nilW ?_
 refine W.now ?_
 refine Then.n ?_
 refine WP.seq ?_
 refine WP.region ?_
 refine WPL.q (q_build bu101 rfl) rfl ?_
 refine WPL.d (d_box rfl rfl) rfl ?_
 refine WPL.q (q_as (v := .ptr _ _) rfl) rfl ?_
 refine WPL.nilW ?_
 refine W.now ?_
 refine Then.n ?_
 refine WP.retW ?_
 exact W.now (BodyR.mkR trivial rfl [0] ⟨rfl, rfl⟩ ⟨rfl, ⟨trivial, .inr ⟨rfl, rfl, rfl⟩⟩, by decide, rfl, trivial⟩ rfl rfl)
set_option maxRecDepth 100000 in
set_option maxHeartbeats 4000000 in
theorem s_bits_each (k : Nat) (x49 : Int) (x50 : Int) (H : g_bits_each k x49 x50 = some ()) : Go.Q.Spec Try.prog 52 0 [.lit (.int .u32 x49), .lit (.int .i64 x50)] Mem.nil (fun o M => o = .ret (.fn 78 [.ptr 0 0, .ptr 1 0]) ∧ M = ((Mem.nil.push (.cells 3 [.lit (.int .i64 x50)])).push (.cells 50 [.lit (.int .u32 x49)]))) := by
 unfold g_bits_each at H
 refine Go.Q.Spec.of_bodyR (az := []) (rs := [.tmp 4]) (nt := 6) Try.func52 rfl rfl (by intro t T h; simp at h) rfl rfl fun cx hnp => ?_
 refine WP.seq ?_
 refine WP.region ?_
 refine WPL.d (d_box rfl rfl) rfl ?_
 refine WPL.d (d_box rfl rfl) rfl ?_
 refine WPL.q (q_as (v := .lit _) rfl) rfl ?_
 refine WPL.nilW ?_
 refine W.now ?_
 refine Then.n ?_
 refine WP.seq ?_
 refine WP.region ?_
 refine WPL.q (q_makeFunc) rfl ?_
 refine WPL.q (q_as (v := .fn _ _) rfl) rfl ?_
 refine WPL.nilW ?_
 refine W.now ?_
 refine Then.n ?_
 refine WP.retW ?_
 exact W.now (BodyR.mkR trivial rfl [1, 0] ⟨rfl, rfl⟩ ⟨rfl, ⟨⟨trivial, .inr ⟨rfl, rfl, rfl⟩⟩, .inr ⟨rfl, rfl, rfl⟩⟩, by decide, rfl, trivial⟩ rfl rfl)
set_option maxRecDepth 100000 in
set_option maxHeartbeats 4000000 in
theorem s_bits_Writer_Put (k : Nat) (x35 : Int) (x36 : Int) (x37 : Int) (x242 : Int) (x243 : Int) (x244 : (List Int)) (H : g_bits_Writer_Put k x35 x36 x37 = some (x242, x243, x244)) : Go.Q.Spec Try.prog 24 1 [.ptr 0 0, .lit (.int .u32 x35), .lit (.int .i64 x36)] (Mem.nil.push (.cells 101 [.lit (.slice none 0 0), .lit (.int .i64 x37)])) (fun o M => o = .ret (.lit (.int .i64 x242)) ∧ M = ((Mem.nil.push (.cells 101 [.whole 1, .lit (.int .i64 x243)])).push (.row 5 (Rd.int .u8) x244))) := by
 unfold g_bits_Writer_Put at H
 refine Go.Q.Spec.of_bodyR (az := []) (rs := [.tmp 6]) (nt := 65) Try.func24 rfl rfl (by intro t T h; simp at h) rfl rfl fun cx hnp => ?_
 refine WP.seq ?_
 refine WP.region ?_
 refine WPL.d (d_box rfl rfl) rfl ?_
 refine WPL.q (q_as (v := .lit (.int _ _)) rfl) rfl ?_
 refine WPL.nilW ?_
 refine W.now ?_
 refine Then.n ?_
 refine WP.seq ?_
 refine WP.seq ?_
 refine WP.region ?_
 refine WPL.q (q_load sc59 rfl rfl rfl) rfl ?_
 refine WPL.q (q_eqlp Try.underlying59 rfl) rfl ?_
 refine WPL.nilW ?_
 refine W.now ?_
 refine Then.n ?_
 refine WP.condF rfl ?_
 refine WP.skipW ?_
 refine W.now ?_
 refine Then.n ?_
 refine WP.seq ?_
 refine WP.seq ?_
 obtain ⟨x251, H252, H⟩ := bnd H
 refine WP.monoW (Q := fun x E M => x = .normal ∧ E = ((((Env.none.upd 1 (.lit (.int .u32 x35))).upd 2 (.lit (.int .i64 x36))).upd 3 (.ptr 1 0)).upd 16 (.lit (.bool x251))) ∧ M = ((Mem.nil.push (.cells 101 [.lit (.slice none 0 0), .lit (.int .i64 x37)])).push (.cells 59 [.ptr 0 0]))) ?_ ?_
 · clear H
   have H := H252
   clear H252
   refine WP.region ?_
   refine WPL.q (q_mv (v := .lit (.int _ _)) rfl) rfl ?_
   refine WPL.q (q_lss rfl rfl) rfl ?_
   refine WPL.q (q_mv (v := .lit (.bool _)) rfl) rfl ?_
   refine WPL.split (t := 13) (b := (decide (x36 < 0))) rfl (fun hb251 => ?_) (fun hb251 => ?_)
   · replace H := cnt hb251 H
     refine WPL.skipg (b' := true) rfl rfl (lb hb251) rfl rfl (.inl trivial) ?_
     refine WPL.skipg (b' := true) rfl rfl (lb hb251) rfl rfl (.inl trivial) ?_
     refine WPL.q (q_pickT (v := .lit (.bool _)) (lb hb251) rfl) rfl ?_
     refine WPL.nilW ?_
     have q0 := (Option.some.inj H)
     subst q0
     exact W.wk [0, 1] hnp ⟨rfl, rfl, rfl⟩ ⟨rfl, ⟨⟨trivial, .inr ⟨rfl, rfl, rfl⟩⟩, .inr ⟨rfl, rfl, rfl⟩⟩, by decide, rfl, ⟨trivial, rfl⟩⟩ (LeE.upd rfl rfl (LeE.upd rfl rfl (LeE.upd rfl rfl (LeE.upd rfl rfl (LeE.none rfl rfl))))) rfl
   replace H := cnf hb251 H
   refine WPL.qg rfl rfl (lb hb251) (q_mv (v := .lit (.int _ _)) rfl) rfl ?_
   refine WPL.qg rfl rfl (lb hb251) (q_gtr rfl rfl) rfl ?_
   refine WPL.q (q_pickF (v := .lit (.bool _)) (lb hb251) rfl) rfl ?_
   refine WPL.nilW ?_
   have q0 := (Option.some.inj H)
   subst q0
   exact W.wk [0, 1] hnp ⟨rfl, rfl, rfl⟩ ⟨rfl, ⟨⟨trivial, .inr ⟨rfl, rfl, rfl⟩⟩, .inr ⟨rfl, rfl, rfl⟩⟩, by decide, rfl, ⟨trivial, rfl⟩⟩ (LeE.upd rfl rfl (LeE.upd rfl rfl (LeE.upd rfl rfl (LeE.upd rfl rfl (LeE.none rfl rfl))))) rfl
 rintro _ _ _ ⟨rfl, rfl, rfl⟩
 refine W.now ?_
 refine Then.n ?_
 refine WP.cond (t := x251) rfl (fun hb253 => ?_) (fun hb253 => ?_)
 · replace H := cnt hb253 H
   refine WP.seq ?_
   refine WP.region ?_
   refine WPL.q (q_as (v := .lit (.int _ _)) rfl) rfl ?_
   refine WPL.nilW ?_
   refine W.now ?_
   refine Then.n ?_
   refine WP.retW ?_
   refine W.cv (Cv.virC 5 (Rd.int .u8) (N := 2) rfl rfl (i := 0) (off := 0) rfl rfl) rfl ?_
   have q0 := (Prod.mk.inj (Option.some.inj H)).1
   have q1 := (Prod.mk.inj (Prod.mk.inj (Option.some.inj H)).2).1
   have q2 := (Prod.mk.inj (Prod.mk.inj (Option.some.inj H)).2).2
   subst q0
   subst q1
   subst q2
   exact W.now (Then.r (BodyR.mkR trivial rfl [0, 2] ⟨rfl, rfl⟩ ⟨rfl, ⟨⟨trivial, .inr ⟨rfl, rfl, rfl⟩⟩, .inr ⟨rfl, rfl, rfl⟩⟩, by decide, rfl, ⟨trivial, rfl⟩⟩ rfl rfl))
 replace H := cnf hb253 H
 refine WP.skipW ?_
 refine W.now ?_
 refine Then.n ?_
 refine WP.seq ?_
 refine WP.seq ?_
 refine WP.region ?_
 refine WPL.q (q_mv (v := .lit (.int _ _)) rfl) rfl ?_
 refine WPL.q (q_mv (v := .lit (.int _ _)) rfl) rfl ?_
 obtain ⟨_, h254, H⟩ := bnd H
 refine WPL.c (runs_call (s := []) (t := [2, 3]) (N := 4) (bor := []) fn52 rfl (s_bits_each k x35 x36 h254) ⟨rfl, trivial, by decide, rfl, trivial⟩ rfl trivial (.ren rfl rfl (.ren rfl rfl .nil)) rfl ⟨⟨trivial, rfl⟩, rfl⟩ rfl) rfl ?_
 refine WPL.nilW ?_
 refine W.now ?_
 refine Then.n ?_
 refine WP.block ?_
 refine WP.cv (Cv.nullMark (N := 4) rfl rfl) ?_
 refine WP.range (nti := 19) (n := 5) rfl rfl Try.func78 rfl (by kernel_rfl) rfl rfl rfl rfl fun l_255 r_255 aC255 hp255 ha255 hb255 ht255 hs255 hf255 => ?_
 refine WP.seq ?_
 refine WP.region ?_
 refine WPL.q (q_load sc3 rfl rfl rfl) rfl ?_
 refine WPL.q (q_mv (v := .lit (.int _ _)) rfl) rfl ?_
 refine WPL.nilW ?_
 refine W.now ?_
 refine Then.n ?_
 refine WP.block ?_
 refine WP.cv (Cv.virC 5 (Rd.int .u8) (N := 7) rfl rfl (i := 0) (off := 0) rfl rfl) ?_
 refine WP.cv (Cv.weak (E' := (((((⟨fun _ => .any, [], [⟨aC255, (((Env.none.upd 3 (.ptr 3 0)).upd 19 (.fn 78 [.ptr 4 0, .ptr 2 0]))).v, [5, 6], some (7, l_255)⟩], []⟩ : Env).upd 0 (.lit (.func (.yield l_255) #[] #[]))).upd 2 (.ptr 2 0)).upd 5 (.lit (.int .i64 x36))).upd 6 (.lit (.int .i64 0)))) (M' := ((((((((Mem.nil.push (.cells 101 [.whole 1, .lit (.int .i64 x37)])).push (.row 5 (Rd.int .u8) ([] : List Int))).push (.cells 50 [.lit (.int .u32 x35)])).push (.cells 59 [.ptr 0 0])).push (.cells 3 [.lit (.int .i64 x36)])).push (.obj (Obj.deferred (some [])))).push (.bag)).push (.obj (lp r_255 .ready none)))) [0, 7, 3, 1, 2, 5, 4, 6] hnp ⟨rfl, ⟨⟨⟨⟨⟨⟨⟨⟨trivial, .inr ⟨rfl, rfl, rfl⟩⟩, .inr ⟨rfl, rfl, rfl⟩⟩, .inr ⟨rfl, rfl, rfl⟩⟩, .inr ⟨rfl, rfl, rfl⟩⟩, .inr ⟨rfl, rfl, rfl⟩⟩, .inr ⟨rfl, rfl, rfl⟩⟩, .inr ⟨rfl, rfl, rfl⟩⟩, .inr ⟨rfl, rfl, rfl⟩⟩, by decide, rfl, ⟨trivial, rfl⟩⟩ (LeE.upd rfl rfl (LeE.upd rfl rfl (LeE.upd rfl rfl (LeE.upd rfl rfl (LeE.noneD rfl rfl (.cons ⟨rfl, (LeV.upd rfl rfl (LeV.upd rfl rfl LeV.none)), rfl, rfl, rfl, rfl⟩ .nil))))))) ?_
 obtain ⟨⟨x442, x443⟩, H505, H⟩ := bnd H
 refine WP.monoW (Q := fun x E M => x = .exit 0 ∧ E = (⟨fun _ => .any, [], [⟨aC255, (((Env.none.upd 3 (.ptr 2 0)).upd 19 (.fn 78 [.ptr 3 0, .ptr 4 0]))).v, [5, 6], some (7, l_255)⟩], []⟩ : Env) ∧ M = ((((((((Mem.nil.push (.cells 101 [.whole 1, .lit (.int .i64 x442)])).push (.row 5 (Rd.int .u8) x443)).push (.cells 59 [.ptr 0 0])).push (.cells 3 [.lit (.int .i64 x36)])).push (.cells 50 [.lit (.int .u32 x35)])).push (.obj (Obj.deferred (some [])))).push (.bag)).push (.obj (lp r_255 .ready none)))) ?_ ?_
 · refine WP.loop (β := Int × Int × (List Int)) (fun n b => g_bits_Writer_Put_l0 k x35 x36 n b.1 b.2.1 b.2.2 = some (x442, x443)) (fun b => (((((⟨fun _ => .any, [], [⟨aC255, (((Env.none.upd 3 (.ptr 3 0)).upd 19 (.fn 78 [.ptr 4 0, .ptr 2 0]))).v, [5, 6], some (7, l_255)⟩], []⟩ : Env).upd 0 (.lit (.func (.yield l_255) #[] #[]))).upd 2 (.ptr 2 0)).upd 5 (.lit (.int .i64 x36))).upd 6 (.lit (.int .i64 b.1)))) (fun b => ((((((((Mem.nil.push (.cells 101 [.whole 1, .lit (.int .i64 b.2.1)])).push (.row 5 (Rd.int .u8) b.2.2)).push (.cells 50 [.lit (.int .u32 x35)])).push (.cells 59 [.ptr 0 0])).push (.cells 3 [.lit (.int .i64 x36)])).push (.obj (Obj.deferred (some [])))).push (.bag)).push (.obj (lp r_255 .ready none)))) k (0, x37, ([] : List Int)) H505 rfl rfl ?_
   rintro n ⟨x377, x378, x379⟩ H
   obtain _ | n := n
   · exact nf rfl H
   rw [g_bits_Writer_Put_l0.eq_2] at H
   show WP _ _ _ _ (((((⟨fun _ => .any, [], [⟨aC255, (((Env.none.upd 3 (.ptr 3 0)).upd 19 (.fn 78 [.ptr 4 0, .ptr 2 0]))).v, [5, 6], some (7, l_255)⟩], []⟩ : Env).upd 0 (.lit (.func (.yield l_255) #[] #[]))).upd 2 (.ptr 2 0)).upd 5 (.lit (.int .i64 x36))).upd 6 (.lit (.int .i64 x377))) ((((((((Mem.nil.push (.cells 101 [.whole 1, .lit (.int .i64 x378)])).push (.row 5 (Rd.int .u8) x379)).push (.cells 50 [.lit (.int .u32 x35)])).push (.cells 59 [.ptr 0 0])).push (.cells 3 [.lit (.int .i64 x36)])).push (.obj (Obj.deferred (some [])))).push (.bag)).push (.obj (lp r_255 .ready none))) _
   refine WP.seq ?_
   refine WP.region ?_
   refine WPL.q (q_lss rfl rfl) rfl ?_
   refine WPL.nilW ?_
   refine W.now ?_
   refine Then.n ?_
   refine WP.seq ?_
   refine WP.cond (t := (decide (x377 < x36))) rfl (fun hb444 => ?_) (fun hb444 => ?_)
   · replace H := cnt hb444 H
     refine WP.skipW ?_
     refine W.now ?_
     refine Then.n ?_
     refine WP.seq ?_
     refine WP.block ?_
     refine WP.seq ?_
     refine WP.region ?_
     refine WPL.q (q_mv (v := .lit (.int _ _)) rfl) rfl ?_
     refine WPL.q (q_as (v := .lit (.int _ _)) rfl) rfl ?_
     refine WPL.nilW ?_
     refine W.now ?_
     refine Then.n ?_
     refine WP.seq ?_
     refine WP.region ?_
     refine WPL.q (q_mv (v := .lit _) rfl) rfl ?_
     refine WPL.q (q_mv (v := .lit (.int _ _)) rfl) rfl ?_
     refine WPL.q (q_load sc50 rfl rfl rfl) rfl ?_
     refine WPL.q (q_mv (v := .lit (.int _ _)) rfl) rfl ?_
     obtain ⟨h475, H⟩ := grd H
     refine WPL.q (q_shr rfl rfl h475) rfl ?_
     refine WPL.q (q_conv Try.underlying50 Try.underlying5 rfl) rfl ?_
     obtain ⟨x477, h477, H⟩ := bnd H
     refine WPL.q (q_nm (q_and rfl rfl) (nm_int h477)) rfl ?_
     refine WPL.y rfl rfl rfl rfl hp255 ha255 hb255 ht255 hs255 hf255 rfl rfl rfl fun aI477 => ?_
     refine WP.region ?_
     refine WPL.q (q_as (v := .lit (.int _ _)) rfl) rfl ?_
     refine WPL.nilW ?_
     refine W.now ?_
     refine ⟨rfl, rfl, _, _, _, _, _, _, rfl, rfl, ?_⟩
     refine WP.block ?_
     refine WP.seq ?_
     obtain ⟨x483, H487, H⟩ := bnd H
     refine WP.monoW (Q := fun x E M => x = .normal ∧ E = ((((⟨fun _ => .any, [], [⟨aI477, (((((Env.none.upd 0 (.lit (.func (.yield l_255) #[] #[]))).upd 2 (.ptr 4 0)).upd 5 (.lit (.int .i64 x36))).upd 6 (.lit (.int .i64 x377)))).v, [], none⟩, ⟨aC255, (((Env.none.upd 3 (.ptr 2 0)).upd 19 (.fn 78 [.ptr 3 0, .ptr 4 0]))).v, [5, 6], some (7, l_255)⟩], []⟩ : Env).upd 3 (.ptr 2 0)).upd 8 (.lit (.int .u8 x477))).upd 19 (.fn 78 [.ptr 3 0, .ptr 4 0])) ∧ M = ((((((((Mem.nil.push (.cells 101 [.whole 1, .lit (.int .i64 x378)])).push (.row 5 (Rd.int .u8) x483)).push (.cells 59 [.ptr 0 0])).push (.cells 3 [.lit (.int .i64 x36)])).push (.cells 50 [.lit (.int .u32 x35)])).push (.obj (Obj.deferred (some [])))).push (.bag)).push (.obj (lp r_255 .busy none)))) ?_ ?_
     · clear H
       have H := H487
       clear H487
       refine WP.seq ?_
       refine WP.region ?_
       refine WPL.q (q_load sc59 rfl rfl rfl) rfl ?_
       refine WPL.q (q_nilCheck rfl) rfl ?_
       refine WPL.q (q_fieldAddr fi101_1 rfl rfl) rfl ?_
       refine WPL.q (q_load sc3 rfl rfl rfl) rfl ?_
       refine WPL.q (q_rem rfl rfl rfl) rfl ?_
       refine WPL.q (q_eql rfl rfl) rfl ?_
       refine WPL.nilW ?_
       refine W.now ?_
       refine Then.n ?_
       refine WP.cond (t := (decide ((Int.tmod x378 8) = 0))) rfl (fun hb483 => ?_) (fun hb483 => ?_)
       · replace H := cnt hb483 H
         refine WP.regionD' 10 [0, 3] [9] mixed rfl ?_
         refine WPD.take 0 rfl (by kernel_rfl) (q_load sc59 rfl rfl rfl) rfl rfl ?_
         refine WPD.take 1 rfl (by kernel_rfl) (q_load sc59 rfl rfl rfl) rfl rfl ?_
         refine WPD.takeT 2 rfl (by kernel_rfl) (q_nilCheck rfl) rfl ?_
         refine WPD.takeT 3 rfl (by kernel_rfl) (q_fieldAddr fi101_0 rfl rfl) rfl ?_
         refine WPD.take 4 rfl (by kernel_rfl) (q_load sc22 rfl rfl rfl) rfl rfl ?_
         refine WPD.eff 5 [0, 3] [9] rfl (by kernel_rfl) (Does.runs (d_buildSlice (ds := ([0] : List Int)) (R := (Rd.int .u8)) li22 rfl rfl rfl rfl rfl (JoinRows.cons1 Joins.sc rfl JoinRows.nil) rfl rfl)) rfl rfl ?_
         obtain ⟨h486, H⟩ := grd H
         refine WPD.eff 6 [0, 3] [9] rfl (by kernel_rfl) (Does.runs (d_append ap22 rfl rfl rfl rfl (src_row sl22 rfl rfl) h486 rfl)) rfl rfl ?_
         refine WPD.takeT 7 rfl (by kernel_rfl) (q_nilCheck rfl) rfl ?_
         refine WPD.takeT 8 rfl (by kernel_rfl) (q_fieldAddr fi101_0 rfl rfl) rfl ?_
         refine WPD.effS 9 [] [] rfl (by kernel_rfl) (s_store sz22 rfl rfl rfl rfl rfl) rfl ?_
         refine WPD.doneW (by kernel_rfl) ?_
         have q0 := (Option.some.inj H)
         subst q0
         exact W.wk [0, 9, 3, 4, 2, 5, 6, 7] hnp ⟨rfl, rfl, rfl⟩ ⟨rfl, ⟨⟨⟨⟨⟨⟨⟨⟨trivial, .inr ⟨rfl, rfl, rfl⟩⟩, .inr ⟨rfl, rfl, rfl⟩⟩, .inr ⟨rfl, rfl, rfl⟩⟩, .inr ⟨rfl, rfl, rfl⟩⟩, .inr ⟨rfl, rfl, rfl⟩⟩, .inr ⟨rfl, rfl, rfl⟩⟩, .inr ⟨rfl, rfl, rfl⟩⟩, .inr ⟨rfl, rfl, rfl⟩⟩, by decide, rfl, ⟨trivial, rfl⟩⟩ (LeE.upd rfl rfl (LeE.upd rfl rfl (LeE.upd rfl rfl (LeE.noneD rfl rfl (.cons ⟨rfl, (LeV.upd rfl rfl (LeV.upd rfl rfl (LeV.upd rfl rfl (LeV.upd rfl rfl LeV.none)))), rfl, rfl, rfl, rfl⟩ (.cons ⟨rfl, (LeV.upd rfl rfl (LeV.upd rfl rfl LeV.none)), rfl, rfl, rfl, rfl⟩ .nil)))))) rfl
       replace H := cnf hb483 H
       refine WP.skipW ?_
       have q0 := (Option.some.inj H)
       subst q0
       exact W.wk [0, 1, 3, 4, 2, 5, 6, 7] hnp ⟨rfl, rfl, rfl⟩ ⟨rfl, ⟨⟨⟨⟨⟨⟨⟨⟨trivial, .inr ⟨rfl, rfl, rfl⟩⟩, .inr ⟨rfl, rfl, rfl⟩⟩, .inr ⟨rfl, rfl, rfl⟩⟩, .inr ⟨rfl, rfl, rfl⟩⟩, .inr ⟨rfl, rfl, rfl⟩⟩, .inr ⟨rfl, rfl, rfl⟩⟩, .inr ⟨rfl, rfl, rfl⟩⟩, .inr ⟨rfl, rfl, rfl⟩⟩, by decide, rfl, ⟨trivial, rfl⟩⟩ (LeE.upd rfl rfl (LeE.upd rfl rfl (LeE.upd rfl rfl (LeE.noneD rfl rfl (.cons ⟨rfl, (LeV.upd rfl rfl (LeV.upd rfl rfl (LeV.upd rfl rfl (LeV.upd rfl rfl LeV.none)))), rfl, rfl, rfl, rfl⟩ (.cons ⟨rfl, (LeV.upd rfl rfl (LeV.upd rfl rfl LeV.none)), rfl, rfl, rfl, rfl⟩ .nil)))))) rfl
     rintro _ _ _ ⟨rfl, rfl, rfl⟩
     refine W.now ?_
     refine Then.n ?_
     refine WP.seq ?_
     refine WP.regionD' 22 [0, 1, 2] [21] mixed rfl ?_
     refine WPD.takeT 12 rfl (by kernel_rfl) (q_mv (v := .lit (.int _ _)) rfl) rfl ?_
     refine WPD.take 0 rfl (by kernel_rfl) (q_load sc59 rfl rfl rfl) rfl rfl ?_
     refine WPD.takeT 1 rfl (by kernel_rfl) (q_nilCheck rfl) rfl ?_
     refine WPD.takeT 2 rfl (by kernel_rfl) (q_fieldAddr fi101_0 rfl rfl) rfl ?_
     refine WPD.take 3 rfl (by kernel_rfl) (q_load sc22 rfl rfl rfl) rfl rfl ?_
     refine WPD.take 4 rfl (by kernel_rfl) (q_load sc59 rfl rfl rfl) rfl rfl ?_
     refine WPD.takeT 5 rfl (by kernel_rfl) (q_nilCheck rfl) rfl ?_
     refine WPD.takeT 6 rfl (by kernel_rfl) (q_fieldAddr fi101_0 rfl rfl) rfl ?_
     refine WPD.take 7 rfl (by kernel_rfl) (q_load sc22 rfl rfl rfl) rfl rfl ?_
     refine WPD.takeT 8 rfl (by kernel_rfl) (q_len_row sl22 rfl rfl) rfl ?_
     obtain ⟨x501, h501, H⟩ := bnd H
     refine WPD.takeT 9 rfl (by kernel_rfl) (q_nm (q_sub rfl rfl) (nm_int h501)) rfl ?_
     obtain ⟨x502, h502, H⟩ := bnd H
     refine WPD.takeT 10 rfl (by kernel_rfl) (q_index_row sl22 rfl rfl rfl (ixs h502)) rfl ?_
     refine WPD.take 11 rfl (by kernel_rfl) (q_load_row (j := (Int.toNat x501)) sc5 rfl rfl (ixj h502)) rfl rfl ?_
     refine WPD.take 13 rfl (by kernel_rfl) (q_load sc59 rfl rfl rfl) rfl rfl ?_
     refine WPD.takeT 14 rfl (by kernel_rfl) (q_nilCheck rfl) rfl ?_
     refine WPD.takeT 15 rfl (by kernel_rfl) (q_fieldAddr fi101_1 rfl rfl) rfl ?_
     refine WPD.take 16 rfl (by kernel_rfl) (q_load sc3 rfl rfl rfl) rfl rfl ?_
     refine WPD.takeT 17 rfl (by kernel_rfl) (q_rem rfl rfl rfl) rfl ?_
     obtain ⟨h502, H⟩ := grd H
     refine WPD.takeT 18 rfl (by kernel_rfl) (q_shl rfl rfl h502) rfl ?_
     obtain ⟨x504, h504, H⟩ := bnd H
     refine WPD.takeT 19 rfl (by kernel_rfl) (q_nm (q_or rfl rfl) (nm_int h504)) rfl ?_
     obtain ⟨x505, h505, H⟩ := bnd H
     refine WPD.takeT 20 rfl (by kernel_rfl) (q_index_row sl22 rfl rfl rfl (ixs h505)) rfl ?_
     refine WPD.effS 21 [] [] rfl (by kernel_rfl) (s_store_row (j := (Int.toNat x501)) (d := x504) sz5 rfl rfl rfl rfl Joins.sc (ixl h505)) rfl ?_
     refine WPD.doneW (by kernel_rfl) ?_
     refine W.now ?_
     refine Then.n ?_
     refine WP.region ?_
     refine WPL.q (q_load sc59 rfl rfl rfl) rfl ?_
     refine WPL.q (q_nilCheck rfl) rfl ?_
     refine WPL.q (q_fieldAddr fi101_1 rfl rfl) rfl ?_
     refine WPL.q (q_load sc3 rfl rfl rfl) rfl ?_
     refine WPL.q (q_add rfl rfl) rfl ?_
     refine WPL.q (q_nilCheck rfl) rfl ?_
     refine WPL.q (q_fieldAddr fi101_1 rfl rfl) rfl ?_
     refine WPL.s (s_store sz3 rfl rfl rfl rfl rfl) ?_
     refine WPL.nilW ?_
     refine W.now ?_
     refine InBlock.n ?_
     refine ⟨rfl, _, _, _, _, _, _, rfl, rfl, _, rfl, ?_⟩
     refine WPL.q (q_not rfl) rfl ?_
     refine WPL.nilW ?_
     refine W.now ?_
     refine Then.n ?_
     refine WP.condFB (t := (!true)) rfl rfl ?_
     refine WP.skipW ?_
     refine W.now ?_
     refine InBlock.n ?_
     refine Then.n ?_
     refine WP.region ?_
     refine WPL.q (q_add rfl rfl) rfl ?_
     refine WPL.q (q_mv (v := .lit (.int _ _)) rfl) rfl ?_
     refine WPL.nilW ?_
     exact W.wk [0, 1, 4, 2, 3, 5, 6, 7] hnp (Then.n ⟨n, ((IntKind.wrap .i64 (x377 + 1)), (IntKind.wrap .i64 (x378 + 1)), (List.set x483 (Int.toNat x501) x504)), Nat.lt_succ_self n, H, rfl, rfl⟩) ⟨rfl, ⟨⟨⟨⟨⟨⟨⟨⟨trivial, .inr ⟨rfl, rfl, rfl⟩⟩, .inr ⟨rfl, rfl, rfl⟩⟩, .inr ⟨rfl, rfl, rfl⟩⟩, .inr ⟨rfl, rfl, rfl⟩⟩, .inr ⟨rfl, rfl, rfl⟩⟩, .inr ⟨rfl, rfl, rfl⟩⟩, .inr ⟨rfl, rfl, rfl⟩⟩, .inr ⟨rfl, rfl, rfl⟩⟩, by decide, rfl, ⟨trivial, rfl⟩⟩ (LeE.upd rfl rfl (LeE.upd rfl rfl (LeE.upd rfl rfl (LeE.upd rfl rfl (LeE.noneD rfl rfl (.cons ⟨rfl, (LeV.upd rfl rfl (LeV.upd rfl rfl LeV.none)), rfl, rfl, rfl, rfl⟩ .nil)))))) rfl
   replace H := cnf hb444 H
   refine WP.exitW ?_
   have q0 := (Prod.mk.inj (Option.some.inj H)).1
   have q1 := (Prod.mk.inj (Option.some.inj H)).2
   subst q0
   subst q1
   exact W.wk [0, 1, 3, 4, 2, 5, 6, 7] hnp (Then.x (Then.x ⟨rfl, rfl, rfl⟩)) ⟨rfl, ⟨⟨⟨⟨⟨⟨⟨⟨trivial, .inr ⟨rfl, rfl, rfl⟩⟩, .inr ⟨rfl, rfl, rfl⟩⟩, .inr ⟨rfl, rfl, rfl⟩⟩, .inr ⟨rfl, rfl, rfl⟩⟩, .inr ⟨rfl, rfl, rfl⟩⟩, .inr ⟨rfl, rfl, rfl⟩⟩, .inr ⟨rfl, rfl, rfl⟩⟩, .inr ⟨rfl, rfl, rfl⟩⟩, by decide, rfl, ⟨trivial, rfl⟩⟩ (LeE.noneD rfl rfl (.cons ⟨rfl, (LeV.upd rfl rfl (LeV.upd rfl rfl LeV.none)), rfl, rfl, rfl, rfl⟩ .nil)) rfl
 rintro _ _ _ ⟨rfl, rfl, rfl⟩
 refine W.now ?_
 refine InBlock.x0 ?_
 refine ⟨trivial, _, _, _, _, rfl, _, _, rfl, (fun h => by cases h), ?_⟩
 refine W.cv (Cv.absorb (N := 8) (j := 5) (i := 6) rfl rfl rfl rfl) rfl ?_
 refine W.now ?_
 refine InBlock.n ?_
 refine Then.n ?_
 refine WP.seq ?_
 refine WP.region ?_
 refine WPL.q (q_as (v := .lit (.int _ _)) rfl) rfl ?_
 refine WPL.nilW ?_
 refine W.now ?_
 refine Then.n ?_
 refine WP.retW ?_
 have q0 := (Prod.mk.inj (Option.some.inj H)).1
 have q1 := (Prod.mk.inj (Prod.mk.inj (Option.some.inj H)).2).1
 have q2 := (Prod.mk.inj (Prod.mk.inj (Option.some.inj H)).2).2
 subst q0
 subst q1
 subst q2
 exact W.now (BodyR.mkR ⟨.inr rfl, trivial⟩ rfl [0, 1] ⟨rfl, rfl⟩ ⟨rfl, ⟨⟨trivial, .inr ⟨rfl, rfl, rfl⟩⟩, .inr ⟨rfl, rfl, rfl⟩⟩, by decide, rfl, ⟨trivial, rfl⟩⟩ rfl rfl)
set_option maxRecDepth 100000 in
set_option maxHeartbeats 4000000 in
theorem s_bits_Writer_Align (k : Nat) (x511 : Int) (x512 : (List Int)) (x515 : Int) (H : g_bits_Writer_Align k x511 x512 = some x515) : Go.Q.Spec Try.prog 25 1 [.ptr 0 0] ((Mem.nil.push (.cells 101 [.whole 1, .lit (.int .i64 x511)])).push (.row 5 (Rd.int .u8) x512)) (fun o M => o = .ret (.tup []) ∧ M = ((Mem.nil.push (.cells 101 [.whole 1, .lit (.int .i64 x515)])).push (.row 5 (Rd.int .u8) x512))) := by
 unfold g_bits_Writer_Align at H
 refine Go.Q.Spec.of_bodyR (az := []) (rs := []) (nt := 13) Try.func25 rfl rfl (by intro t T h; simp at h) rfl rfl fun cx hnp => ?_
 refine WP.seq ?_
 refine WP.region ?_
 refine WPL.q (q_mv (v := .ptr _ _) rfl) rfl ?_
 refine WPL.q (q_neqp Try.underlying59 rfl) rfl ?_
 refine WPL.nilW ?_
 refine W.now ?_
 refine Then.n ?_
 refine WP.condT rfl ?_
 refine WP.region ?_
 refine WPL.q (q_mv (v := .ptr _ _) rfl) rfl ?_
 refine WPL.q (q_mv (v := .ptr _ _) rfl) rfl ?_
 refine WPL.q (q_nilCheck rfl) rfl ?_
 refine WPL.q (q_fieldAddr fi101_0 rfl rfl) rfl ?_
 refine WPL.q (q_load sc22 rfl rfl rfl) rfl ?_
 refine WPL.q (q_len_row sl22 rfl rfl) rfl ?_
 obtain ⟨x516, h516, H⟩ := bnd H
 refine WPL.q (q_nm (q_mul rfl rfl) (nm_int h516)) rfl ?_
 refine WPL.q (q_nilCheck rfl) rfl ?_
 refine WPL.q (q_fieldAddr fi101_1 rfl rfl) rfl ?_
 refine WPL.s (s_store sz3 rfl rfl rfl rfl rfl) ?_
 refine WPL.nilW ?_
 have q0 := (Option.some.inj H)
 subst q0
 exact W.now (BodyR.mkN trivial rfl [0, 1] ⟨rfl, rfl⟩ ⟨rfl, ⟨⟨trivial, .inr ⟨rfl, rfl, rfl⟩⟩, .inr ⟨rfl, rfl, rfl⟩⟩, by decide, rfl, ⟨trivial, rfl⟩⟩ rfl rfl)
set_option maxRecDepth 100000 in
set_option maxHeartbeats 4000000 in
theorem s_bits_Writer_Put__b (k : Nat) (x519 : Int) (x520 : Int) (x521 : Int) (x522 : (List Int)) (x664 : Int) (x665 : Int) (x666 : (List Int)) (H : g_bits_Writer_Put__b k x519 x520 x521 x522 = some (x664, x665, x666)) : Go.Q.Spec Try.prog 24 1 [.ptr 0 0, .lit (.int .u32 x519), .lit (.int .i64 x520)] ((Mem.nil.push (.cells 101 [.whole 1, .lit (.int .i64 x521)])).push (.row 5 (Rd.int .u8) x522)) (fun o M => o = .ret (.lit (.int .i64 x664)) ∧ M = ((Mem.nil.push (.cells 101 [.whole 1, .lit (.int .i64 x665)])).push (.row 5 (Rd.int .u8) x666))) := by
 unfold g_bits_Writer_Put__b at H
 refine Go.Q.Spec.of_bodyR (az := []) (rs := [.tmp 6]) (nt := 65) Try.func24 rfl rfl (by intro t T h; simp at h) rfl rfl fun cx hnp => ?_
 refine WP.seq ?_
 refine WP.region ?_
 refine WPL.d (d_box rfl rfl) rfl ?_
 refine WPL.q (q_as (v := .lit (.int _ _)) rfl) rfl ?_
 refine WPL.nilW ?_
 refine W.now ?_
 refine Then.n ?_
 refine WP.seq ?_
 refine WP.seq ?_
 refine WP.region ?_
 refine WPL.q (q_load sc59 rfl rfl rfl) rfl ?_
 refine WPL.q (q_eqlp Try.underlying59 rfl) rfl ?_
 refine WPL.nilW ?_
 refine W.now ?_
 refine Then.n ?_
 refine WP.condF rfl ?_
 refine WP.skipW ?_
 refine W.now ?_
 refine Then.n ?_
 refine WP.seq ?_
 refine WP.seq ?_
 obtain ⟨x673, H674, H⟩ := bnd H
 refine WP.monoW (Q := fun x E M => x = .normal ∧ E = ((((Env.none.upd 1 (.lit (.int .u32 x519))).upd 2 (.lit (.int .i64 x520))).upd 3 (.ptr 2 0)).upd 16 (.lit (.bool x673))) ∧ M = (((Mem.nil.push (.cells 101 [.whole 1, .lit (.int .i64 x521)])).push (.row 5 (Rd.int .u8) x522)).push (.cells 59 [.ptr 0 0]))) ?_ ?_
 · clear H
   have H := H674
   clear H674
   refine WP.region ?_
   refine WPL.q (q_mv (v := .lit (.int _ _)) rfl) rfl ?_
   refine WPL.q (q_lss rfl rfl) rfl ?_
   refine WPL.q (q_mv (v := .lit (.bool _)) rfl) rfl ?_
   refine WPL.split (t := 13) (b := (decide (x520 < 0))) rfl (fun hb673 => ?_) (fun hb673 => ?_)
   · replace H := cnt hb673 H
     refine WPL.skipg (b' := true) rfl rfl (lb hb673) rfl rfl (.inl trivial) ?_
     refine WPL.skipg (b' := true) rfl rfl (lb hb673) rfl rfl (.inl trivial) ?_
     refine WPL.q (q_pickT (v := .lit (.bool _)) (lb hb673) rfl) rfl ?_
     refine WPL.nilW ?_
     have q0 := (Option.some.inj H)
     subst q0
     exact W.wk [0, 1, 2] hnp ⟨rfl, rfl, rfl⟩ ⟨rfl, ⟨⟨⟨trivial, .inr ⟨rfl, rfl, rfl⟩⟩, .inr ⟨rfl, rfl, rfl⟩⟩, .inr ⟨rfl, rfl, rfl⟩⟩, by decide, rfl, ⟨trivial, rfl⟩⟩ (LeE.upd rfl rfl (LeE.upd rfl rfl (LeE.upd rfl rfl (LeE.upd rfl rfl (LeE.none rfl rfl))))) rfl
   replace H := cnf hb673 H
   refine WPL.qg rfl rfl (lb hb673) (q_mv (v := .lit (.int _ _)) rfl) rfl ?_
   refine WPL.qg rfl rfl (lb hb673) (q_gtr rfl rfl) rfl ?_
   refine WPL.q (q_pickF (v := .lit (.bool _)) (lb hb673) rfl) rfl ?_
   refine WPL.nilW ?_
   have q0 := (Option.some.inj H)
   subst q0
   exact W.wk [0, 1, 2] hnp ⟨rfl, rfl, rfl⟩ ⟨rfl, ⟨⟨⟨trivial, .inr ⟨rfl, rfl, rfl⟩⟩, .inr ⟨rfl, rfl, rfl⟩⟩, .inr ⟨rfl, rfl, rfl⟩⟩, by decide, rfl, ⟨trivial, rfl⟩⟩ (LeE.upd rfl rfl (LeE.upd rfl rfl (LeE.upd rfl rfl (LeE.upd rfl rfl (LeE.none rfl rfl))))) rfl
 rintro _ _ _ ⟨rfl, rfl, rfl⟩
 refine W.now ?_
 refine Then.n ?_
 refine WP.cond (t := x673) rfl (fun hb675 => ?_) (fun hb675 => ?_)
 · replace H := cnt hb675 H
   refine WP.seq ?_
   refine WP.region ?_
   refine WPL.q (q_as (v := .lit (.int _ _)) rfl) rfl ?_
   refine WPL.nilW ?_
   refine W.now ?_
   refine Then.n ?_
   refine WP.retW ?_
   have q0 := (Prod.mk.inj (Option.some.inj H)).1
   have q1 := (Prod.mk.inj (Prod.mk.inj (Option.some.inj H)).2).1
   have q2 := (Prod.mk.inj (Prod.mk.inj (Option.some.inj H)).2).2
   subst q0
   subst q1
   subst q2
   exact W.now (Then.r (BodyR.mkR trivial rfl [0, 1] ⟨rfl, rfl⟩ ⟨rfl, ⟨⟨trivial, .inr ⟨rfl, rfl, rfl⟩⟩, .inr ⟨rfl, rfl, rfl⟩⟩, by decide, rfl, ⟨trivial, rfl⟩⟩ rfl rfl))
 replace H := cnf hb675 H
 refine WP.skipW ?_
 refine W.now ?_
 refine Then.n ?_
 refine WP.seq ?_
 refine WP.seq ?_
 refine WP.region ?_
 refine WPL.q (q_mv (v := .lit (.int _ _)) rfl) rfl ?_
 refine WPL.q (q_mv (v := .lit (.int _ _)) rfl) rfl ?_
 obtain ⟨_, h676, H⟩ := bnd H
 refine WPL.c (runs_call (s := []) (t := [3, 4]) (N := 5) (bor := []) fn52 rfl (s_bits_each k x519 x520 h676) ⟨rfl, trivial, by decide, rfl, trivial⟩ rfl trivial (.ren rfl rfl (.ren rfl rfl .nil)) rfl ⟨⟨trivial, rfl⟩, rfl⟩ rfl) rfl ?_
 refine WPL.nilW ?_
 refine W.now ?_
 refine Then.n ?_
 refine WP.block ?_
 refine WP.cv (Cv.nullMark (N := 5) rfl rfl) ?_
 refine WP.range (nti := 19) (n := 6) rfl rfl Try.func78 rfl (by kernel_rfl) rfl rfl rfl rfl fun l_677 r_677 aC677 hp677 ha677 hb677 ht677 hs677 hf677 => ?_
 refine WP.seq ?_
 refine WP.region ?_
 refine WPL.q (q_load sc3 rfl rfl rfl) rfl ?_
 refine WPL.q (q_mv (v := .lit (.int _ _)) rfl) rfl ?_
 refine WPL.nilW ?_
 refine W.now ?_
 refine Then.n ?_
 refine WP.block ?_
 refine WP.cv (Cv.weak (E' := (((((⟨fun _ => .any, [], [⟨aC677, (((Env.none.upd 3 (.ptr 3 0)).upd 19 (.fn 78 [.ptr 4 0, .ptr 2 0]))).v, [5, 6], some (7, l_677)⟩], []⟩ : Env).upd 0 (.lit (.func (.yield l_677) #[] #[]))).upd 2 (.ptr 2 0)).upd 5 (.lit (.int .i64 x520))).upd 6 (.lit (.int .i64 0)))) (M' := ((((((((Mem.nil.push (.cells 101 [.whole 1, .lit (.int .i64 x521)])).push (.row 5 (Rd.int .u8) x522)).push (.cells 50 [.lit (.int .u32 x519)])).push (.cells 59 [.ptr 0 0])).push (.cells 3 [.lit (.int .i64 x520)])).push (.obj (Obj.deferred (some [])))).push (.bag)).push (.obj (lp r_677 .ready none)))) [0, 1, 4, 2, 3, 6, 5, 7] hnp ⟨rfl, ⟨⟨⟨⟨⟨⟨⟨⟨trivial, .inr ⟨rfl, rfl, rfl⟩⟩, .inr ⟨rfl, rfl, rfl⟩⟩, .inr ⟨rfl, rfl, rfl⟩⟩, .inr ⟨rfl, rfl, rfl⟩⟩, .inr ⟨rfl, rfl, rfl⟩⟩, .inr ⟨rfl, rfl, rfl⟩⟩, .inr ⟨rfl, rfl, rfl⟩⟩, .inr ⟨rfl, rfl, rfl⟩⟩, by decide, rfl, ⟨trivial, rfl⟩⟩ (LeE.upd rfl rfl (LeE.upd rfl rfl (LeE.upd rfl rfl (LeE.upd rfl rfl (LeE.noneD rfl rfl (.cons ⟨rfl, (LeV.upd rfl rfl (LeV.upd rfl rfl LeV.none)), rfl, rfl, rfl, rfl⟩ .nil))))))) ?_
 obtain ⟨⟨x804, x805⟩, H867, H⟩ := bnd H
 refine WP.monoW (Q := fun x E M => x = .exit 0 ∧ E = (⟨fun _ => .any, [], [⟨aC677, (((Env.none.upd 3 (.ptr 2 0)).upd 19 (.fn 78 [.ptr 3 0, .ptr 4 0]))).v, [5, 6], some (7, l_677)⟩], []⟩ : Env) ∧ M = ((((((((Mem.nil.push (.cells 101 [.whole 1, .lit (.int .i64 x804)])).push (.row 5 (Rd.int .u8) x805)).push (.cells 59 [.ptr 0 0])).push (.cells 3 [.lit (.int .i64 x520)])).push (.cells 50 [.lit (.int .u32 x519)])).push (.obj (Obj.deferred (some [])))).push (.bag)).push (.obj (lp r_677 .ready none)))) ?_ ?_
 · refine WP.loop (β := Int × Int × (List Int)) (fun n b => g_bits_Writer_Put__b_l0 k x519 x520 n b.1 b.2.1 b.2.2 = some (x804, x805)) (fun b => (((((⟨fun _ => .any, [], [⟨aC677, (((Env.none.upd 3 (.ptr 3 0)).upd 19 (.fn 78 [.ptr 4 0, .ptr 2 0]))).v, [5, 6], some (7, l_677)⟩], []⟩ : Env).upd 0 (.lit (.func (.yield l_677) #[] #[]))).upd 2 (.ptr 2 0)).upd 5 (.lit (.int .i64 x520))).upd 6 (.lit (.int .i64 b.1)))) (fun b => ((((((((Mem.nil.push (.cells 101 [.whole 1, .lit (.int .i64 b.2.1)])).push (.row 5 (Rd.int .u8) b.2.2)).push (.cells 50 [.lit (.int .u32 x519)])).push (.cells 59 [.ptr 0 0])).push (.cells 3 [.lit (.int .i64 x520)])).push (.obj (Obj.deferred (some [])))).push (.bag)).push (.obj (lp r_677 .ready none)))) k (0, x521, x522) H867 rfl rfl ?_
   rintro n ⟨x739, x740, x741⟩ H
   obtain _ | n := n
   · exact nf rfl H
   rw [g_bits_Writer_Put__b_l0.eq_2] at H
   show WP _ _ _ _ (((((⟨fun _ => .any, [], [⟨aC677, (((Env.none.upd 3 (.ptr 3 0)).upd 19 (.fn 78 [.ptr 4 0, .ptr 2 0]))).v, [5, 6], some (7, l_677)⟩], []⟩ : Env).upd 0 (.lit (.func (.yield l_677) #[] #[]))).upd 2 (.ptr 2 0)).upd 5 (.lit (.int .i64 x520))).upd 6 (.lit (.int .i64 x739))) ((((((((Mem.nil.push (.cells 101 [.whole 1, .lit (.int .i64 x740)])).push (.row 5 (Rd.int .u8) x741)).push (.cells 50 [.lit (.int .u32 x519)])).push (.cells 59 [.ptr 0 0])).push (.cells 3 [.lit (.int .i64 x520)])).push (.obj (Obj.deferred (some [])))).push (.bag)).push (.obj (lp r_677 .ready none))) _
   refine WP.seq ?_
   refine WP.region ?_
   refine WPL.q (q_lss rfl rfl) rfl ?_
   refine WPL.nilW ?_
   refine W.now ?_
   refine Then.n ?_
   refine WP.seq ?_
   refine WP.cond (t := (decide (x739 < x520))) rfl (fun hb806 => ?_) (fun hb806 => ?_)
   · replace H := cnt hb806 H
     refine WP.skipW ?_
     refine W.now ?_
     refine Then.n ?_
     refine WP.seq ?_
     refine WP.block ?_
     refine WP.seq ?_
     refine WP.region ?_
     refine WPL.q (q_mv (v := .lit (.int _ _)) rfl) rfl ?_
     refine WPL.q (q_as (v := .lit (.int _ _)) rfl) rfl ?_
     refine WPL.nilW ?_
     refine W.now ?_
     refine Then.n ?_
     refine WP.seq ?_
     refine WP.region ?_
     refine WPL.q (q_mv (v := .lit _) rfl) rfl ?_
     refine WPL.q (q_mv (v := .lit (.int _ _)) rfl) rfl ?_
     refine WPL.q (q_load sc50 rfl rfl rfl) rfl ?_
     refine WPL.q (q_mv (v := .lit (.int _ _)) rfl) rfl ?_
     obtain ⟨h837, H⟩ := grd H
     refine WPL.q (q_shr rfl rfl h837) rfl ?_
     refine WPL.q (q_conv Try.underlying50 Try.underlying5 rfl) rfl ?_
     obtain ⟨x839, h839, H⟩ := bnd H
     refine WPL.q (q_nm (q_and rfl rfl) (nm_int h839)) rfl ?_
     refine WPL.y rfl rfl rfl rfl hp677 ha677 hb677 ht677 hs677 hf677 rfl rfl rfl fun aI839 => ?_
     refine WP.region ?_
     refine WPL.q (q_as (v := .lit (.int _ _)) rfl) rfl ?_
     refine WPL.nilW ?_
     refine W.now ?_
     refine ⟨rfl, rfl, _, _, _, _, _, _, rfl, rfl, ?_⟩
     refine WP.block ?_
     refine WP.seq ?_
     obtain ⟨x845, H849, H⟩ := bnd H
     refine WP.monoW (Q := fun x E M => x = .normal ∧ E = ((((⟨fun _ => .any, [], [⟨aI839, (((((Env.none.upd 0 (.lit (.func (.yield l_677) #[] #[]))).upd 2 (.ptr 4 0)).upd 5 (.lit (.int .i64 x520))).upd 6 (.lit (.int .i64 x739)))).v, [], none⟩, ⟨aC677, (((Env.none.upd 3 (.ptr 2 0)).upd 19 (.fn 78 [.ptr 3 0, .ptr 4 0]))).v, [5, 6], some (7, l_677)⟩], []⟩ : Env).upd 3 (.ptr 2 0)).upd 8 (.lit (.int .u8 x839))).upd 19 (.fn 78 [.ptr 3 0, .ptr 4 0])) ∧ M = ((((((((Mem.nil.push (.cells 101 [.whole 1, .lit (.int .i64 x740)])).push (.row 5 (Rd.int .u8) x845)).push (.cells 59 [.ptr 0 0])).push (.cells 3 [.lit (.int .i64 x520)])).push (.cells 50 [.lit (.int .u32 x519)])).push (.obj (Obj.deferred (some [])))).push (.bag)).push (.obj (lp r_677 .busy none)))) ?_ ?_
     · clear H
       have H := H849
       clear H849
       refine WP.seq ?_
       refine WP.region ?_
       refine WPL.q (q_load sc59 rfl rfl rfl) rfl ?_
       refine WPL.q (q_nilCheck rfl) rfl ?_
       refine WPL.q (q_fieldAddr fi101_1 rfl rfl) rfl ?_
       refine WPL.q (q_load sc3 rfl rfl rfl) rfl ?_
       refine WPL.q (q_rem rfl rfl rfl) rfl ?_
       refine WPL.q (q_eql rfl rfl) rfl ?_
       refine WPL.nilW ?_
       refine W.now ?_
       refine Then.n ?_
       refine WP.cond (t := (decide ((Int.tmod x740 8) = 0))) rfl (fun hb845 => ?_) (fun hb845 => ?_)
       · replace H := cnt hb845 H
         refine WP.regionD' 10 [0, 3] [9] mixed rfl ?_
         refine WPD.take 0 rfl (by kernel_rfl) (q_load sc59 rfl rfl rfl) rfl rfl ?_
         refine WPD.take 1 rfl (by kernel_rfl) (q_load sc59 rfl rfl rfl) rfl rfl ?_
         refine WPD.takeT 2 rfl (by kernel_rfl) (q_nilCheck rfl) rfl ?_
         refine WPD.takeT 3 rfl (by kernel_rfl) (q_fieldAddr fi101_0 rfl rfl) rfl ?_
         refine WPD.take 4 rfl (by kernel_rfl) (q_load sc22 rfl rfl rfl) rfl rfl ?_
         refine WPD.eff 5 [0, 3] [9] rfl (by kernel_rfl) (Does.runs (d_buildSlice (ds := ([0] : List Int)) (R := (Rd.int .u8)) li22 rfl rfl rfl rfl rfl (JoinRows.cons1 Joins.sc rfl JoinRows.nil) rfl rfl)) rfl rfl ?_
         obtain ⟨h848, H⟩ := grd H
         refine WPD.eff 6 [0, 3] [9] rfl (by kernel_rfl) (Does.runs (d_append ap22 rfl rfl rfl rfl (src_row sl22 rfl rfl) h848 rfl)) rfl rfl ?_
         refine WPD.takeT 7 rfl (by kernel_rfl) (q_nilCheck rfl) rfl ?_
         refine WPD.takeT 8 rfl (by kernel_rfl) (q_fieldAddr fi101_0 rfl rfl) rfl ?_
         refine WPD.effS 9 [] [] rfl (by kernel_rfl) (s_store sz22 rfl rfl rfl rfl rfl) rfl ?_
         refine WPD.doneW (by kernel_rfl) ?_
         have q0 := (Option.some.inj H)
         subst q0
         exact W.wk [0, 9, 3, 4, 2, 5, 6, 7] hnp ⟨rfl, rfl, rfl⟩ ⟨rfl, ⟨⟨⟨⟨⟨⟨⟨⟨trivial, .inr ⟨rfl, rfl, rfl⟩⟩, .inr ⟨rfl, rfl, rfl⟩⟩, .inr ⟨rfl, rfl, rfl⟩⟩, .inr ⟨rfl, rfl, rfl⟩⟩, .inr ⟨rfl, rfl, rfl⟩⟩, .inr ⟨rfl, rfl, rfl⟩⟩, .inr ⟨rfl, rfl, rfl⟩⟩, .inr ⟨rfl, rfl, rfl⟩⟩, by decide, rfl, ⟨trivial, rfl⟩⟩ (LeE.upd rfl rfl (LeE.upd rfl rfl (LeE.upd rfl rfl (LeE.noneD rfl rfl (.cons ⟨rfl, (LeV.upd rfl rfl (LeV.upd rfl rfl (LeV.upd rfl rfl (LeV.upd rfl rfl LeV.none)))), rfl, rfl, rfl, rfl⟩ (.cons ⟨rfl, (LeV.upd rfl rfl (LeV.upd rfl rfl LeV.none)), rfl, rfl, rfl, rfl⟩ .nil)))))) rfl
       replace H := cnf hb845 H
       refine WP.skipW ?_
       have q0 := (Option.some.inj H)
       subst q0
       exact W.wk [0, 1, 3, 4, 2, 5, 6, 7] hnp ⟨rfl, rfl, rfl⟩ ⟨rfl, ⟨⟨⟨⟨⟨⟨⟨⟨trivial, .inr ⟨rfl, rfl, rfl⟩⟩, .inr ⟨rfl, rfl, rfl⟩⟩, .inr ⟨rfl, rfl, rfl⟩⟩, .inr ⟨rfl, rfl, rfl⟩⟩, .inr ⟨rfl, rfl, rfl⟩⟩, .inr ⟨rfl, rfl, rfl⟩⟩, .inr ⟨rfl, rfl, rfl⟩⟩, .inr ⟨rfl, rfl, rfl⟩⟩, by decide, rfl, ⟨trivial, rfl⟩⟩ (LeE.upd rfl rfl (LeE.upd rfl rfl (LeE.upd rfl rfl (LeE.noneD rfl rfl (.cons ⟨rfl, (LeV.upd rfl rfl (LeV.upd rfl rfl (LeV.upd rfl rfl (LeV.upd rfl rfl LeV.none)))), rfl, rfl, rfl, rfl⟩ (.cons ⟨rfl, (LeV.upd rfl rfl (LeV.upd rfl rfl LeV.none)), rfl, rfl, rfl, rfl⟩ .nil)))))) rfl
     rintro _ _ _ ⟨rfl, rfl, rfl⟩
     refine W.now ?_
     refine Then.n ?_
     refine WP.seq ?_
     refine WP.regionD' 22 [0, 1, 2] [21] mixed rfl ?_
     refine WPD.takeT 12 rfl (by kernel_rfl) (q_mv (v := .lit (.int _ _)) rfl) rfl ?_
     refine WPD.take 0 rfl (by kernel_rfl) (q_load sc59 rfl rfl rfl) rfl rfl ?_
     refine WPD.takeT 1 rfl (by kernel_rfl) (q_nilCheck rfl) rfl ?_
     refine WPD.takeT 2 rfl (by kernel_rfl) (q_fieldAddr fi101_0 rfl rfl) rfl ?_
     refine WPD.take 3 rfl (by kernel_rfl) (q_load sc22 rfl rfl rfl) rfl rfl ?_
     refine WPD.take 4 rfl (by kernel_rfl) (q_load sc59 rfl rfl rfl) rfl rfl ?_
     refine WPD.takeT 5 rfl (by kernel_rfl) (q_nilCheck rfl) rfl ?_
     refine WPD.takeT 6 rfl (by kernel_rfl) (q_fieldAddr fi101_0 rfl rfl) rfl ?_
     refine WPD.take 7 rfl (by kernel_rfl) (q_load sc22 rfl rfl rfl) rfl rfl ?_
     refine WPD.takeT 8 rfl (by kernel_rfl) (q_len_row sl22 rfl rfl) rfl ?_
     obtain ⟨x863, h863, H⟩ := bnd H
     refine WPD.takeT 9 rfl (by kernel_rfl) (q_nm (q_sub rfl rfl) (nm_int h863)) rfl ?_
     obtain ⟨x864, h864, H⟩ := bnd H
     refine WPD.takeT 10 rfl (by kernel_rfl) (q_index_row sl22 rfl rfl rfl (ixs h864)) rfl ?_
     refine WPD.take 11 rfl (by kernel_rfl) (q_load_row (j := (Int.toNat x863)) sc5 rfl rfl (ixj h864)) rfl rfl ?_
     refine WPD.take 13 rfl (by kernel_rfl) (q_load sc59 rfl rfl rfl) rfl rfl ?_
     refine WPD.takeT 14 rfl (by kernel_rfl) (q_nilCheck rfl) rfl ?_
     refine WPD.takeT 15 rfl (by kernel_rfl) (q_fieldAddr fi101_1 rfl rfl) rfl ?_
     refine WPD.take 16 rfl (by kernel_rfl) (q_load sc3 rfl rfl rfl) rfl rfl ?_
     refine WPD.takeT 17 rfl (by kernel_rfl) (q_rem rfl rfl rfl) rfl ?_
     obtain ⟨h864, H⟩ := grd H
     refine WPD.takeT 18 rfl (by kernel_rfl) (q_shl rfl rfl h864) rfl ?_
     obtain ⟨x866, h866, H⟩ := bnd H
     refine WPD.takeT 19 rfl (by kernel_rfl) (q_nm (q_or rfl rfl) (nm_int h866)) rfl ?_
     obtain ⟨x867, h867, H⟩ := bnd H
     refine WPD.takeT 20 rfl (by kernel_rfl) (q_index_row sl22 rfl rfl rfl (ixs h867)) rfl ?_
     refine WPD.effS 21 [] [] rfl (by kernel_rfl) (s_store_row (j := (Int.toNat x863)) (d := x866) sz5 rfl rfl rfl rfl Joins.sc (ixl h867)) rfl ?_
     refine WPD.doneW (by kernel_rfl) ?_
     refine W.now ?_
     refine Then.n ?_
     refine WP.region ?_
     refine WPL.q (q_load sc59 rfl rfl rfl) rfl ?_
     refine WPL.q (q_nilCheck rfl) rfl ?_
     refine WPL.q (q_fieldAddr fi101_1 rfl rfl) rfl ?_
     refine WPL.q (q_load sc3 rfl rfl rfl) rfl ?_
     refine WPL.q (q_add rfl rfl) rfl ?_
     refine WPL.q (q_nilCheck rfl) rfl ?_
     refine WPL.q (q_fieldAddr fi101_1 rfl rfl) rfl ?_
     refine WPL.s (s_store sz3 rfl rfl rfl rfl rfl) ?_
     refine WPL.nilW ?_
     refine W.now ?_
     refine InBlock.n ?_
     refine ⟨rfl, _, _, _, _, _, _, rfl, rfl, _, rfl, ?_⟩
     refine WPL.q (q_not rfl) rfl ?_
     refine WPL.nilW ?_
     refine W.now ?_
     refine Then.n ?_
     refine WP.condFB (t := (!true)) rfl rfl ?_
     refine WP.skipW ?_
     refine W.now ?_
     refine InBlock.n ?_
     refine Then.n ?_
     refine WP.region ?_
     refine WPL.q (q_add rfl rfl) rfl ?_
     refine WPL.q (q_mv (v := .lit (.int _ _)) rfl) rfl ?_
     refine WPL.nilW ?_
     exact W.wk [0, 1, 4, 2, 3, 5, 6, 7] hnp (Then.n ⟨n, ((IntKind.wrap .i64 (x739 + 1)), (IntKind.wrap .i64 (x740 + 1)), (List.set x845 (Int.toNat x863) x866)), Nat.lt_succ_self n, H, rfl, rfl⟩) ⟨rfl, ⟨⟨⟨⟨⟨⟨⟨⟨trivial, .inr ⟨rfl, rfl, rfl⟩⟩, .inr ⟨rfl, rfl, rfl⟩⟩, .inr ⟨rfl, rfl, rfl⟩⟩, .inr ⟨rfl, rfl, rfl⟩⟩, .inr ⟨rfl, rfl, rfl⟩⟩, .inr ⟨rfl, rfl, rfl⟩⟩, .inr ⟨rfl, rfl, rfl⟩⟩, .inr ⟨rfl, rfl, rfl⟩⟩, by decide, rfl, ⟨trivial, rfl⟩⟩ (LeE.upd rfl rfl (LeE.upd rfl rfl (LeE.upd rfl rfl (LeE.upd rfl rfl (LeE.noneD rfl rfl (.cons ⟨rfl, (LeV.upd rfl rfl (LeV.upd rfl rfl LeV.none)), rfl, rfl, rfl, rfl⟩ .nil)))))) rfl
   replace H := cnf hb806 H
   refine WP.exitW ?_
   have q0 := (Prod.mk.inj (Option.some.inj H)).1
   have q1 := (Prod.mk.inj (Option.some.inj H)).2
   subst q0
   subst q1
   exact W.wk [0, 1, 3, 4, 2, 5, 6, 7] hnp (Then.x (Then.x ⟨rfl, rfl, rfl⟩)) ⟨rfl, ⟨⟨⟨⟨⟨⟨⟨⟨trivial, .inr ⟨rfl, rfl, rfl⟩⟩, .inr ⟨rfl, rfl, rfl⟩⟩, .inr ⟨rfl, rfl, rfl⟩⟩, .inr ⟨rfl, rfl, rfl⟩⟩, .inr ⟨rfl, rfl, rfl⟩⟩, .inr ⟨rfl, rfl, rfl⟩⟩, .inr ⟨rfl, rfl, rfl⟩⟩, .inr ⟨rfl, rfl, rfl⟩⟩, by decide, rfl, ⟨trivial, rfl⟩⟩ (LeE.noneD rfl rfl (.cons ⟨rfl, (LeV.upd rfl rfl (LeV.upd rfl rfl LeV.none)), rfl, rfl, rfl, rfl⟩ .nil)) rfl
 rintro _ _ _ ⟨rfl, rfl, rfl⟩
 refine W.now ?_
 refine InBlock.x0 ?_
 refine ⟨trivial, _, _, _, _, rfl, _, _, rfl, (fun h => by cases h), ?_⟩
 refine W.cv (Cv.absorb (N := 8) (j := 5) (i := 6) rfl rfl rfl rfl) rfl ?_
 refine W.now ?_
 refine InBlock.n ?_
 refine Then.n ?_
 refine WP.seq ?_
 refine WP.region ?_
 refine WPL.q (q_as (v := .lit (.int _ _)) rfl) rfl ?_
 refine WPL.nilW ?_
 refine W.now ?_
 refine Then.n ?_
 refine WP.retW ?_
 have q0 := (Prod.mk.inj (Option.some.inj H)).1
 have q1 := (Prod.mk.inj (Prod.mk.inj (Option.some.inj H)).2).1
 have q2 := (Prod.mk.inj (Prod.mk.inj (Option.some.inj H)).2).2
 subst q0
 subst q1
 subst q2
 exact W.now (BodyR.mkR ⟨.inr rfl, trivial⟩ rfl [0, 1] ⟨rfl, rfl⟩ ⟨rfl, ⟨⟨trivial, .inr ⟨rfl, rfl, rfl⟩⟩, .inr ⟨rfl, rfl, rfl⟩⟩, by decide, rfl, ⟨trivial, rfl⟩⟩ rfl rfl)
set_option maxRecDepth 100000 in
set_option maxHeartbeats 4000000 in
theorem s_bits_Writer_Bytes (k : Nat) (x879 : (List Int)) (x880 : Int) (x881 : (List Int)) (x885 : Int) (H : g_bits_Writer_Bytes k x879 x880 x881 = some x885) : Go.Q.Spec Try.prog 26 1 [.ptr 0 0, .ro (Rd.slice (Rd.int .u8)) true x879] ((Mem.nil.push (.cells 101 [.whole 1, .lit (.int .i64 x880)])).push (.row 5 (Rd.int .u8) x881)) (fun o M => o = .ret (.tup []) ∧ M = ((Mem.nil.push (.cells 101 [.whole 1, .lit (.int .i64 x885)])).push (.row 5 (Rd.int .u8) (x881 ++ x879)))) := by
 unfold g_bits_Writer_Bytes at H
 refine Go.Q.Spec.of_bodyR (az := []) (rs := []) (nt := 24) Try.func26 rfl rfl (by intro t T h; simp at h) rfl rfl fun cx hnp => ?_
 refine WP.seq ?_
 refine WP.region ?_
 refine WPL.q (q_mv (v := .ptr _ _) rfl) rfl ?_
 refine WPL.q (q_neqp Try.underlying59 rfl) rfl ?_
 refine WPL.nilW ?_
 refine W.now ?_
 refine Then.n ?_
 refine WP.condT rfl ?_
 refine WP.seq ?_
 refine WP.region ?_
 refine WPL.q (q_mv (v := .ptr _ _) rfl) rfl ?_
 refine WPL.q (q_mv (v := .ptr _ _) rfl) rfl ?_
 refine WPL.q (q_nilCheck rfl) rfl ?_
 refine WPL.q (q_fieldAddr fi101_0 rfl rfl) rfl ?_
 refine WPL.q (q_load sc22 rfl rfl rfl) rfl ?_
 refine WPL.q (q_mv (v := .ro _ _ _) rfl) rfl ?_
 obtain ⟨h885, H⟩ := grd H
 refine WPL.d (d_append ap22 rfl rfl rfl rfl (src_bor sl22 Rd.flat_sc rfl) h885 rfl) rfl ?_
 refine WPL.q (q_nilCheck rfl) rfl ?_
 refine WPL.q (q_fieldAddr fi101_0 rfl rfl) rfl ?_
 refine WPL.s (s_store sz22 rfl rfl rfl rfl rfl) ?_
 refine WPL.nilW ?_
 refine W.now ?_
 refine Then.n ?_
 refine WP.region ?_
 refine WPL.q (q_mv (v := .ptr _ _) rfl) rfl ?_
 refine WPL.q (q_mv (v := .ptr _ _) rfl) rfl ?_
 refine WPL.q (q_nilCheck rfl) rfl ?_
 refine WPL.q (q_fieldAddr fi101_0 rfl rfl) rfl ?_
 refine WPL.q (q_load sc22 rfl rfl rfl) rfl ?_
 refine WPL.q (q_len_row sl22 rfl rfl) rfl ?_
 obtain ⟨x887, h887, H⟩ := bnd H
 refine WPL.q (q_nm (q_mul rfl rfl) (nm_int h887)) rfl ?_
 refine WPL.q (q_nilCheck rfl) rfl ?_
 refine WPL.q (q_fieldAddr fi101_1 rfl rfl) rfl ?_
 refine WPL.s (s_store sz3 rfl rfl rfl rfl rfl) ?_
 refine WPL.nilW ?_
 have q0 := (Option.some.inj H)
 subst q0
 exact W.now (BodyR.mkN trivial rfl [0, 2] ⟨rfl, rfl⟩ ⟨rfl, ⟨⟨trivial, .inr ⟨rfl, rfl, rfl⟩⟩, .inr ⟨rfl, rfl, rfl⟩⟩, by decide, rfl, ⟨trivial, rfl⟩⟩ rfl rfl)
set_option maxRecDepth 100000 in
set_option maxHeartbeats 4000000 in
theorem s_slices_Clone_byte_byte (k : Nat) (x1045 : List Int) (x1046 : List Int) (H : g_slices_Clone_byte_byte k x1045 = some x1046) : Go.Q.Spec Try.prog 53 0 [.ro (Rd.slice (Rd.int .u8)) true x1045] Mem.nil (fun o M => o = .ret (.ro (Rd.slice (Rd.int .u8)) false x1046) ∧ M = Mem.nil) := by
  unfold g_slices_Clone_byte_byte at H
  obtain ⟨h, H⟩ := grd H
  have q0 := Option.some.inj H
  subst q0
  refine Go.Q.Spec.of_bodyR (az := []) (rs := [.tmp 2]) (nt := 8) Try.func53 rfl rfl (by intro t T h; simp at h) rfl rfl fun cx hnp => ?_
  refine WP.seq ?_
  refine WP.region ?_
  refine WPL.q (q_as (v := .lit _) rfl) rfl ?_
  refine WPL.nilW ?_
  refine W.now ?_
  refine Then.n ?_
  refine WP.seq ?_
  refine WP.seq ?_
  refine WP.region ?_
  refine WPL.q (q_mv (v := .ro _ _ _) rfl) rfl ?_
  refine WPL.eqlNil Try.underlying22 rfl rfl fun nb hnb => ?_
  refine WPL.nilW ?_
  refine W.now ?_
  refine Then.n ?_
  refine WP.cond (t := nb) rfl (fun hb => ?_) (fun hb => ?_)
  · have h0 := hnb hb
    subst h0
    refine WP.seq ?_
    refine WP.region ?_
    refine WPL.q (q_as (v := .lit _) rfl) rfl ?_
    refine WPL.nilW ?_
    refine W.now ?_
    refine Then.n ?_
    refine WP.retW ?_
    refine W.cv (Cv.nilRo (Rd.int .u8) false 2 rfl) rfl ?_
    refine W.now ?_
    refine Then.r ?_
    exact ⟨trivial, _, rfl, [], (.ro (Rd.slice (Rd.int .u8)) false ([] : List Int)), Mem.nil, ⟨rfl, trivial, by decide, rfl, trivial⟩, rfl, rfl, rfl, rfl⟩
  · refine WP.skipW ?_
    refine W.now ?_
    refine Then.n ?_
    refine WP.seq ?_
    refine WP.region ?_
    refine WPL.d (d_buildSlice (ds := ([] : List Int)) (R := (Rd.int .u8)) li22 rfl rfl rfl rfl rfl JoinRows.nil rfl rfl) rfl ?_
    refine WPL.q (q_mv (v := .ro _ _ _) rfl) rfl ?_
    refine WPL.d (d_append ap22 rfl rfl rfl rfl (src_bor sl22 Rd.flat_sc rfl) h rfl) rfl ?_
    refine WPL.q (q_as (v := .whole _) rfl) rfl ?_
    refine WPL.nilW ?_
    refine W.now ?_
    refine Then.n ?_
    refine WP.retW ?_
    refine W.cv (Cv.frzRow (i := 1) rfl rfl hnp rfl rfl) rfl ?_
    refine W.now ?_
    exact ⟨trivial, _, rfl, [], (.ro (Rd.slice (Rd.int .u8)) false x1045), Mem.nil, ⟨rfl, trivial, by decide, rfl, trivial⟩, rfl, rfl, rfl, rfl⟩
set_option maxRecDepth 100000 in
set_option maxHeartbeats 4000000 in
theorem s_bits_Writer_Done (k : Nat) (x1042 : Int) (x1043 : (List Int)) (x1049 : (List Int)) (H : g_bits_Writer_Done k x1042 x1043 = some x1049) : Go.Q.Spec Try.prog 27 1 [.ptr 0 0] ((Mem.nil.push (.cells 101 [.whole 1, .lit (.int .i64 x1042)])).push (.row 5 (Rd.int .u8) x1043)) (fun o M => o = .ret (.ro (Rd.slice (Rd.int .u8)) false x1049) ∧ M = ((Mem.nil.push (.cells 101 [.whole 1, .lit (.int .i64 x1042)])).push (.row 5 (Rd.int .u8) x1043))) := by
 unfold g_bits_Writer_Done at H
 refine Go.Q.Spec.of_bodyR (az := []) (rs := [.tmp 2]) (nt := 10) Try.func27 rfl rfl (by intro t T h; simp at h) rfl rfl fun cx hnp => ?_
 refine WP.seq ?_
 refine WP.region ?_
 refine WPL.q (q_as (v := .lit _) rfl) rfl ?_
 refine WPL.nilW ?_
 refine W.now ?_
 refine Then.n ?_
 refine WP.seq ?_
 refine WP.seq ?_
 refine WP.region ?_
 refine WPL.q (q_mv (v := .ptr _ _) rfl) rfl ?_
 refine WPL.q (q_eqlp Try.underlying59 rfl) rfl ?_
 refine WPL.nilW ?_
 refine W.now ?_
 refine Then.n ?_
 refine WP.condF rfl ?_
 refine WP.skipW ?_
 refine W.now ?_
 refine Then.n ?_
 refine WP.seq ?_
 refine WP.region ?_
 refine WPL.q (q_mv (v := .ptr _ _) rfl) rfl ?_
 refine WPL.q (q_nilCheck rfl) rfl ?_
 refine WPL.q (q_fieldAddr fi101_0 rfl rfl) rfl ?_
 refine WPL.q (q_load sc22 rfl rfl rfl) rfl ?_
 obtain ⟨x1051, h1049, H⟩ := bnd H
 refine WPL.c (runs_call (s := []) (t := []) (N := 2) (bor := [1]) fn53 rfl (s_slices_Clone_byte_byte k x1043 x1051 h1049) ⟨rfl, trivial, by decide, rfl, trivial⟩ rfl ⟨trivial, rfl, rfl, trivial⟩ (.row rfl rfl .nil) rfl trivial rfl) rfl ?_
 refine WPL.q (q_as (v := .ro _ _ _) rfl) rfl ?_
 refine WPL.nilW ?_
 refine W.now ?_
 refine Then.n ?_
 refine WP.retW ?_
 have q0 := (Option.some.inj H)
 subst q0
 exact W.now (BodyR.mkR trivial rfl [0, 1] ⟨rfl, rfl⟩ ⟨rfl, ⟨⟨trivial, .inr ⟨rfl, rfl, rfl⟩⟩, .inr ⟨rfl, rfl, rfl⟩⟩, by decide, rfl, ⟨trivial, rfl⟩⟩ rfl rfl)
set_option maxRecDepth 100000 in
set_option maxHeartbeats 4000000 in
theorem s_deflate_stored (k : Nat) (x24 : (List Int)) (x1054 : (List Int)) (H : g_deflate_stored k x24 = some x1054) : Go.Q.Spec Try.prog 16 0 [.ro (Rd.slice (Rd.int .u8)) true x24] Mem.nil (fun o M => o = .ret (.ro (Rd.slice (Rd.int .u8)) false x1054) ∧ M = Mem.nil) := by
 unfold g_deflate_stored at H
 refine Go.Q.Spec.of_bodyR (az := []) (rs := [.tmp 2]) (nt := 45) Try.func16 rfl rfl (by intro t T h; simp at h) rfl rfl fun cx hnp => ?_
 refine WP.seq ?_
 refine WP.region ?_
 refine WPL.q (q_as (v := .lit _) rfl) rfl ?_
 refine WPL.nilW ?_
 refine W.now ?_
 refine Then.n ?_
 refine WP.seq ?_
 refine WP.region ?_
 obtain ⟨_, h1054, H⟩ := bnd H
 refine WPL.c (runs_call (s := []) (t := [0]) (N := 1) (bor := []) fn23 rfl (s_bits_NewWriter k h1054) ⟨rfl, trivial, by decide, rfl, trivial⟩ rfl trivial .nil rfl ⟨trivial, rfl⟩ rfl) rfl ?_
 refine WPL.q (q_as (v := .ptr _ _) rfl) rfl ?_
 refine WPL.nilW ?_
 refine W.now ?_
 refine Then.n ?_
 refine WP.seq ?_
 refine WP.seq ?_
 refine WP.region ?_
 refine WPL.q (q_as (v := .lit (.bool _)) rfl) rfl ?_
 refine WPL.nilW ?_
 refine W.now ?_
 refine Then.n ?_
 refine WP.block ?_
 refine WP.cv (Cv.virC 5 (Rd.int .u8) (N := 1) rfl rfl (i := 0) (off := 0) rfl rfl) ?_
 refine WP.cv (Cv.weak (E' := (((Env.none.upd 0 (.ro (Rd.slice (Rd.int .u8)) true x24)).upd 3 (.ptr 0 0)).upd 4 (.lit (.bool true)))) (M' := ((Mem.nil.push (.cells 101 [.whole 1, .lit (.int .i64 0)])).push (.row 5 (Rd.int .u8) ([] : List Int)))) [0, 1] hnp ⟨rfl, ⟨⟨trivial, .inr ⟨rfl, rfl, rfl⟩⟩, .inr ⟨rfl, rfl, rfl⟩⟩, by decide, rfl, trivial⟩ (LeE.upd rfl rfl (LeE.upd rfl rfl (LeE.upd rfl rfl (LeE.none rfl rfl))))) ?_
 obtain ⟨⟨x1230, x1231⟩, H1297, H⟩ := bnd H
 refine WP.monoW (Q := fun x E M => x = .exit 0 ∧ E = (Env.none.upd 3 (.ptr 0 0)) ∧ M = ((Mem.nil.push (.cells 101 [.whole 1, .lit (.int .i64 x1230)])).push (.row 5 (Rd.int .u8) x1231))) ?_ ?_
 · refine WP.loop (β := (List Int) × Bool × Int × (List Int)) (fun n b => g_deflate_stored_l0 k n b.1 b.2.1 b.2.2.1 b.2.2.2 = some (x1230, x1231)) (fun b => (((Env.none.upd 0 (.ro (Rd.slice (Rd.int .u8)) true b.1)).upd 3 (.ptr 0 0)).upd 4 (.lit (.bool b.2.1)))) (fun b => ((Mem.nil.push (.cells 101 [.whole 1, .lit (.int .i64 b.2.2.1)])).push (.row 5 (Rd.int .u8) b.2.2.2))) k (x24, true, 0, ([] : List Int)) H1297 rfl rfl ?_
   rintro n ⟨x1160, x1161, x1162, x1163⟩ H
   obtain _ | n := n
   · exact nf rfl H
   rw [g_deflate_stored_l0.eq_2] at H
   show WP _ _ _ _ (((Env.none.upd 0 (.ro (Rd.slice (Rd.int .u8)) true x1160)).upd 3 (.ptr 0 0)).upd 4 (.lit (.bool x1161))) ((Mem.nil.push (.cells 101 [.whole 1, .lit (.int .i64 x1162)])).push (.row 5 (Rd.int .u8) x1163)) _
   refine WP.seq ?_
   refine WP.seq ?_
   obtain ⟨x1241, H1243, H⟩ := bnd H
   refine WP.monoW (Q := fun x E M => x = .normal ∧ E = (((Env.none.upd 0 (.ro (Rd.slice (Rd.int .u8)) true x1160)).upd 3 (.ptr 0 0)).upd 13 (.lit (.bool x1241))) ∧ M = ((Mem.nil.push (.cells 101 [.whole 1, .lit (.int .i64 x1162)])).push (.row 5 (Rd.int .u8) x1163))) ?_ ?_
   · clear H
     have H := H1243
     clear H1243
     refine WP.region ?_
     refine WPL.q (q_mv (v := .lit (.bool _)) rfl) rfl ?_
     refine WPL.q (q_mv (v := .lit (.bool _)) rfl) rfl ?_
     refine WPL.split (t := 9) (b := x1161) rfl (fun hb1241 => ?_) (fun hb1241 => ?_)
     · replace H := cnt hb1241 H
       refine WPL.skipg (b' := true) rfl rfl (lb hb1241) rfl rfl (.inl trivial) ?_
       refine WPL.skipg (b' := true) rfl rfl (lb hb1241) rfl rfl (.inl trivial) ?_
       refine WPL.skipg (b' := true) rfl rfl (lb hb1241) rfl rfl (.inl trivial) ?_
       refine WPL.q (q_pickT (v := .lit (.bool _)) (lb hb1241) rfl) rfl ?_
       refine WPL.nilW ?_
       have q0 := (Option.some.inj H)
       subst q0
       exact W.wk [0, 1] hnp ⟨rfl, rfl, rfl⟩ ⟨rfl, ⟨⟨trivial, .inr ⟨rfl, rfl, rfl⟩⟩, .inr ⟨rfl, rfl, rfl⟩⟩, by decide, rfl, trivial⟩ (LeE.upd rfl rfl (LeE.upd rfl rfl (LeE.upd rfl rfl (LeE.none rfl rfl)))) rfl
     replace H := cnf hb1241 H
     refine WPL.qg rfl rfl (lb hb1241) (q_mv (v := .ro _ _ _) rfl) rfl ?_
     refine WPL.qg rfl rfl (lb hb1241) (q_len_ro sl22 rfl) rfl ?_
     obtain ⟨x1243, h1243, H⟩ := bnd H
     refine WPL.qg rfl rfl (lb hb1241) (q_nm (q_gtr rfl rfl) (nm_bool h1243)) rfl ?_
     refine WPL.q (q_pickF (v := .lit (.bool _)) (lb hb1241) rfl) rfl ?_
     refine WPL.nilW ?_
     have q0 := (Option.some.inj H)
     subst q0
     exact W.wk [0, 1] hnp ⟨rfl, rfl, rfl⟩ ⟨rfl, ⟨⟨trivial, .inr ⟨rfl, rfl, rfl⟩⟩, .inr ⟨rfl, rfl, rfl⟩⟩, by decide, rfl, trivial⟩ (LeE.upd rfl rfl (LeE.upd rfl rfl (LeE.upd rfl rfl (LeE.none rfl rfl)))) rfl
   rintro _ _ _ ⟨rfl, rfl, rfl⟩
   refine W.now ?_
   refine Then.n ?_
   refine WP.cond (t := x1241) rfl (fun hb1244 => ?_) (fun hb1244 => ?_)
   · replace H := cnt hb1244 H
     refine WP.skipW ?_
     refine W.now ?_
     refine Then.n ?_
     refine WP.seq ?_
     refine WP.block ?_
     refine WP.seq ?_
     refine WP.region ?_
     refine WPL.q (q_mv (v := .ro _ _ _) rfl) rfl ?_
     refine WPL.q (q_len_ro sl22 rfl) rfl ?_
     obtain ⟨x1272, h1272, H⟩ := bnd H
     refine WPL.q (q_nm (q_min rfl rfl) (nm_int h1272)) rfl ?_
     refine WPL.q (q_as (v := .lit (.int _ _)) rfl) rfl ?_
     refine WPL.nilW ?_
     refine W.now ?_
     refine Then.n ?_
     refine WP.seq ?_
     refine WP.region ?_
     refine WPL.q (q_as (v := .lit (.int _ _)) rfl) rfl ?_
     refine WPL.nilW ?_
     refine W.now ?_
     refine Then.n ?_
     refine WP.seq ?_
     obtain ⟨x1275, H1277, H⟩ := bnd H
     refine WP.monoW (Q := fun x E M => x = .normal ∧ E = ((((Env.none.upd 0 (.ro (Rd.slice (Rd.int .u8)) true x1160)).upd 3 (.ptr 0 0)).upd 5 (.lit (.int .i64 x1272))).upd 6 (.lit (.int .u32 x1275))) ∧ M = ((Mem.nil.push (.cells 101 [.whole 1, .lit (.int .i64 x1162)])).push (.row 5 (Rd.int .u8) x1163))) ?_ ?_
     · clear H
       have H := H1277
       clear H1277
       refine WP.seq ?_
       refine WP.region ?_
       refine WPL.q (q_mv (v := .lit (.int _ _)) rfl) rfl ?_
       refine WPL.q (q_mv (v := .ro _ _ _) rfl) rfl ?_
       refine WPL.q (q_len_ro sl22 rfl) rfl ?_
       obtain ⟨x1276, h1276, H⟩ := bnd H
       refine WPL.q (q_nm (q_eql rfl rfl) (nm_bool h1276)) rfl ?_
       refine WPL.nilW ?_
       refine W.now ?_
       refine Then.n ?_
       refine WP.cond (t := x1276) rfl (fun hb1276 => ?_) (fun hb1276 => ?_)
       · replace H := cnt hb1276 H
         refine WP.region ?_
         refine WPL.q (q_as (v := .lit (.int _ _)) rfl) rfl ?_
         refine WPL.nilW ?_
         have q0 := (Option.some.inj H)
         subst q0
         exact W.wk [0, 1] hnp ⟨rfl, rfl, rfl⟩ ⟨rfl, ⟨⟨trivial, .inr ⟨rfl, rfl, rfl⟩⟩, .inr ⟨rfl, rfl, rfl⟩⟩, by decide, rfl, trivial⟩ (LeE.upd rfl rfl (LeE.upd rfl rfl (LeE.upd rfl rfl (LeE.upd rfl rfl (LeE.none rfl rfl))))) rfl
       replace H := cnf hb1276 H
       refine WP.skipW ?_
       have q0 := (Option.some.inj H)
       subst q0
       exact W.wk [0, 1] hnp ⟨rfl, rfl, rfl⟩ ⟨rfl, ⟨⟨trivial, .inr ⟨rfl, rfl, rfl⟩⟩, .inr ⟨rfl, rfl, rfl⟩⟩, by decide, rfl, trivial⟩ (LeE.upd rfl rfl (LeE.upd rfl rfl (LeE.upd rfl rfl (LeE.upd rfl rfl (LeE.none rfl rfl))))) rfl
     rintro _ _ _ ⟨rfl, rfl, rfl⟩
     refine W.now ?_
     refine Then.n ?_
     refine WP.seq ?_
     refine WP.region ?_
     refine WPL.q (q_mv (v := .ptr _ _) rfl) rfl ?_
     refine WPL.q (q_mv (v := .lit (.int _ _)) rfl) rfl ?_
     obtain ⟨⟨x1280, x1281, x1282⟩, h1278, H⟩ := bnd H
     refine WPL.c (runs_call (s := [0, 1]) (t := [0, 2]) (N := 3) (bor := []) fn24 rfl (s_bits_Writer_Put__b k x1275 3 x1162 x1163 x1280 x1281 x1282 h1278) ⟨rfl, ⟨⟨trivial, .inr ⟨rfl, rfl, rfl⟩⟩, .inr ⟨rfl, rfl, rfl⟩⟩, by decide, rfl, trivial⟩ rfl trivial (.ren rfl rfl (.ren rfl rfl (.ren rfl rfl .nil))) rfl ⟨⟨trivial, rfl⟩, rfl⟩ rfl) rfl ?_
     refine WPL.nilW ?_
     refine W.now ?_
     refine Then.n ?_
     refine WP.seq ?_
     refine WP.region ?_
     refine WPL.q (q_mv (v := .ptr _ _) rfl) rfl ?_
     obtain ⟨x1284, h1282, H⟩ := bnd H
     refine WPL.c (runs_call (s := [0, 2]) (t := [0, 3]) (N := 4) (bor := []) fn25 rfl (s_bits_Writer_Align k x1281 x1282 x1284 h1282) ⟨rfl, ⟨⟨trivial, .inr ⟨rfl, rfl, rfl⟩⟩, .inr ⟨rfl, rfl, rfl⟩⟩, by decide, rfl, trivial⟩ rfl trivial (.ren rfl rfl .nil) rfl ⟨⟨trivial, rfl⟩, rfl⟩ rfl) rfl ?_
     refine WPL.nilW ?_
     refine W.now ?_
     refine Then.n ?_
     refine WP.seq ?_
     refine WP.region ?_
     refine WPL.q (q_mv (v := .ptr _ _) rfl) rfl ?_
     refine WPL.q (q_mv (v := .lit (.int _ _)) rfl) rfl ?_
     refine WPL.q (q_conv Try.underlying3 Try.underlying50 rfl) rfl ?_
     obtain ⟨⟨x1286, x1287, x1288⟩, h1284, H⟩ := bnd H
     refine WPL.c (runs_call (s := [0, 3]) (t := [0, 4]) (N := 5) (bor := []) fn24 rfl (s_bits_Writer_Put__b k (IntKind.wrap .u32 x1272) 16 x1284 x1282 x1286 x1287 x1288 h1284) ⟨rfl, ⟨⟨trivial, .inr ⟨rfl, rfl, rfl⟩⟩, .inr ⟨rfl, rfl, rfl⟩⟩, by decide, rfl, trivial⟩ rfl trivial (.ren rfl rfl (.ren rfl rfl (.ren rfl rfl .nil))) rfl ⟨⟨trivial, rfl⟩, rfl⟩ rfl) rfl ?_
     refine WPL.nilW ?_
     refine W.now ?_
     refine Then.n ?_
     refine WP.seq ?_
     refine WP.region ?_
     refine WPL.q (q_mv (v := .ptr _ _) rfl) rfl ?_
     refine WPL.q (q_mv (v := .lit (.int _ _)) rfl) rfl ?_
     refine WPL.q (q_conv Try.underlying3 Try.underlying50 rfl) rfl ?_
     obtain ⟨x1289, h1289, H⟩ := bnd H
     refine WPL.q (q_nm (q_com rfl) (nm_int h1289)) rfl ?_
     obtain ⟨⟨x1291, x1292, x1293⟩, h1289, H⟩ := bnd H
     refine WPL.c (runs_call (s := [0, 4]) (t := [0, 5]) (N := 6) (bor := []) fn24 rfl (s_bits_Writer_Put__b k x1289 16 x1287 x1288 x1291 x1292 x1293 h1289) ⟨rfl, ⟨⟨trivial, .inr ⟨rfl, rfl, rfl⟩⟩, .inr ⟨rfl, rfl, rfl⟩⟩, by decide, rfl, trivial⟩ rfl trivial (.ren rfl rfl (.ren rfl rfl (.ren rfl rfl .nil))) rfl ⟨⟨trivial, rfl⟩, rfl⟩ rfl) rfl ?_
     refine WPL.nilW ?_
     refine W.now ?_
     refine Then.n ?_
     refine WP.seq ?_
     refine WP.region ?_
     refine WPL.q (q_mv (v := .ptr _ _) rfl) rfl ?_
     refine WPL.q (q_mv (v := .ro _ _ _) rfl) rfl ?_
     refine WPL.q (q_mv (v := .lit (.int _ _)) rfl) rfl ?_
     obtain ⟨h1293, H⟩ := grd H
     refine WPL.q (q_slice_ro (i := 0) (j := x1272) sl22 rfl rfl rfl ⟨_, rfl⟩ h1293) rfl ?_
     obtain ⟨x1296, h1294, H⟩ := bnd H
     refine WPL.c (runs_call (s := [0, 5]) (t := [0, 6]) (N := 7) (bor := []) fn26 rfl (s_bits_Writer_Bytes k (List.drop (Int.toNat 0) (List.take (Int.toNat x1272) x1160)) x1292 x1293 x1296 h1294) ⟨rfl, ⟨⟨trivial, .inr ⟨rfl, rfl, rfl⟩⟩, .inr ⟨rfl, rfl, rfl⟩⟩, by decide, rfl, trivial⟩ rfl trivial (.ren rfl rfl (.ren rfl rfl .nil)) rfl ⟨⟨trivial, rfl⟩, rfl⟩ rfl) rfl ?_
     refine WPL.nilW ?_
     refine W.now ?_
     refine Then.n ?_
     refine WP.region ?_
     refine WPL.q (q_mv (v := .ro _ _ _) rfl) rfl ?_
     refine WPL.q (q_mv (v := .lit (.int _ _)) rfl) rfl ?_
     obtain ⟨h1296, H⟩ := grd H
     refine WPL.q (q_slice_ro (i := x1272) (j := ((List.length x1160 : Nat) : Int)) sl22 rfl rfl ⟨_, rfl⟩ rfl h1296) rfl ?_
     refine WPL.q (q_as (v := .ro _ _ _) rfl) rfl ?_
     refine WPL.nilW ?_
     refine W.now ?_
     refine InBlock.n ?_
     refine Then.n ?_
     refine WP.region ?_
     refine WPL.q (q_as (v := .lit (.bool _)) rfl) rfl ?_
     refine WPL.nilW ?_
     exact W.wk [0, 6] hnp (Then.n ⟨n, ((List.drop (Int.toNat x1272) (List.take (Int.toNat ((List.length x1160 : Nat) : Int)) x1160)), false, x1296, (x1293 ++ (List.drop (Int.toNat 0) (List.take (Int.toNat x1272) x1160)))), Nat.lt_succ_self n, H, rfl, rfl⟩) ⟨rfl, ⟨⟨trivial, .inr ⟨rfl, rfl, rfl⟩⟩, .inr ⟨rfl, rfl, rfl⟩⟩, by decide, rfl, trivial⟩ (LeE.upd rfl rfl (LeE.upd rfl rfl (LeE.upd rfl rfl (LeE.none rfl rfl)))) rfl
   replace H := cnf hb1244 H
   refine WP.exitW ?_
   have q0 := (Prod.mk.inj (Option.some.inj H)).1
   have q1 := (Prod.mk.inj (Option.some.inj H)).2
   subst q0
   subst q1
   exact W.wk [0, 1] hnp (Then.x (Then.x ⟨rfl, rfl, rfl⟩)) ⟨rfl, ⟨⟨trivial, .inr ⟨rfl, rfl, rfl⟩⟩, .inr ⟨rfl, rfl, rfl⟩⟩, by decide, rfl, trivial⟩ (LeE.upd rfl rfl (LeE.none rfl rfl)) rfl
 rintro _ _ _ ⟨rfl, rfl, rfl⟩
 refine W.now ?_
 refine InBlock.x0 ?_
 refine Then.n ?_
 refine WP.seq ?_
 refine WP.region ?_
 refine WPL.q (q_mv (v := .ptr _ _) rfl) rfl ?_
 obtain ⟨x1300, h1298, H⟩ := bnd H
 refine WPL.c (runs_call (s := [0, 1]) (t := [0, 2]) (N := 3) (bor := []) fn27 rfl (s_bits_Writer_Done k x1230 x1231 x1300 h1298) ⟨rfl, ⟨⟨trivial, .inr ⟨rfl, rfl, rfl⟩⟩, .inr ⟨rfl, rfl, rfl⟩⟩, by decide, rfl, trivial⟩ rfl trivial (.ren rfl rfl .nil) rfl ⟨⟨trivial, rfl⟩, rfl⟩ rfl) rfl ?_
 refine WPL.q (q_as (v := .ro _ _ _) rfl) rfl ?_
 refine WPL.nilW ?_
 refine W.now ?_
 refine Then.n ?_
 refine WP.retW ?_
 have q0 := (Option.some.inj H)
 subst q0
 exact W.now (BodyR.mkR trivial rfl [] ⟨rfl, rfl⟩ ⟨rfl, trivial, by decide, rfl, trivial⟩ rfl rfl)
end Go.Proofs.Ytmmeanjjfhimjaa.W
