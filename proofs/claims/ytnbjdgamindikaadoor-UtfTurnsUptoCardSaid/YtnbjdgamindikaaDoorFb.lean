/- Facts of the program's types. -/
import Derived.Test.YtnbjdgamindikaaDoorProg
import Derived.Test.YtnbjdgamindikaaDoorFa
import Derived.Test.YtnbjdgamindikaaDoorQx
namespace Go.Proofs.YtnbjdgamindikaaDoor.W
open Go Go.Q Go.Proofs
set_option linter.unusedVariables false
set_option linter.unusedSimpArgs false
set_option maxRecDepth 100000
theorem mixed : Tryd.prog.follows .mixedOrders = true := rfl
theorem rowsA {m : Ro} : rows rdS_unicode_utf8_acceptRange m tabA vs1 := by
  have : ∀ l : List (Int × Int), rows rdS_unicode_utf8_acceptRange m (l.map fun p => ⟨p.1, p.2⟩) (l.flatMap fun p => [Value.int .u8 p.1, Value.int .u8 p.2]) := by
    intro l
    induction l with
    | nil => trivial
    | cons p l ih => exact ⟨⟨[_], [_], rfl, rfl, [_], [], rfl, rfl, rfl⟩, ih⟩
  exact this tab1
theorem fn42 : FnIs Tryd.prog 42 := ⟨_, Tryd.func42, rfl, by kernel_rfl⟩
theorem sz5 : SzIs Tryd.prog 5 1 := ⟨Tryd.t5, rfl, rfl⟩
theorem ar59 : ArIs Tryd.prog 59 5 256 1 := ⟨Tryd.underlying59, sz5⟩
theorem tb0 (m : Ro) : (Rd.array 256 (Rd.int .u8) (0 : Int)).ok m tab0 (tab0.map (Value.int .u8)) := array_rows (rows_ints _) rfl rfl
theorem sc5 : Sc Tryd.prog 5 := ⟨_, Tryd.t5, Tryd.underlying5, rfl, rfl, trivial⟩
theorem sz61 : SzIs Tryd.prog 61 2 := ⟨Tryd.t61, rfl, rfl⟩
theorem ar62 : ArIs Tryd.prog 62 61 16 2 := ⟨Tryd.underlying62, sz61⟩
theorem tb1 (m : Ro) : (Rd.array 16 rdS_unicode_utf8_acceptRange (default : S_unicode_utf8_acceptRange)).ok m tabA vs1 := array_rows (rowsA) rfl rfl
theorem ag61 : Ag Tryd.prog 61 2 := ⟨_, Tryd.t61, Tryd.underlying61, rfl, rfl, trivial⟩
theorem ze61 : ZeroIs Tryd.prog 61 [.int .u8 0, .int .u8 0] := ⟨⟨Tryd.t61, _, rfl, rfl, rfl⟩, by intro v hv; simp only [List.mem_cons, List.not_mem_nil, or_false] at hv; (try rcases hv with rfl | rfl) <;> (subst_vars; rfl)⟩
theorem fi61_0 : FieldIs Tryd.prog 61 0 0 5 1 := ⟨_, _, Tryd.t5, Tryd.underlying61, rfl, rfl, rfl, rfl, rfl⟩
theorem fi61_1 : FieldIs Tryd.prog 61 1 1 5 1 := ⟨_, _, Tryd.t5, Tryd.underlying61, rfl, rfl, rfl, rfl, rfl⟩
theorem fn28 : FnIs Tryd.prog 28 := ⟨_, Tryd.func28, rfl, by kernel_rfl⟩
theorem fn8 : FnIs Tryd.prog 8 := ⟨_, Tryd.func8, rfl, by kernel_rfl⟩
theorem fn43 : FnIs Tryd.prog 43 := ⟨_, Tryd.func43, rfl, by kernel_rfl⟩
theorem li47 : LitIs Tryd.prog 47 5 1 [.int .u8 0] := ⟨Tryd.underlying47, ⟨Tryd.t5, _, rfl, rfl, rfl, rfl⟩, by intro v hv; simp at hv; (try rcases hv with rfl | hv) <;> first | rfl | (subst hv; rfl) | simp_all [Value.oneCell']⟩
theorem fn41 : FnIs Tryd.prog 41 := ⟨_, Tryd.func41, rfl, by kernel_rfl⟩
theorem fn29 : FnIs Tryd.prog 29 := ⟨_, Tryd.func29, rfl, by kernel_rfl⟩
theorem fn9 : FnIs Tryd.prog 9 := ⟨_, Tryd.func9, rfl, by kernel_rfl⟩
theorem fn10 : FnIs Tryd.prog 10 := ⟨_, Tryd.func10, rfl, by kernel_rfl⟩
theorem fn11 : FnIs Tryd.prog 11 := ⟨_, Tryd.func11, rfl, by kernel_rfl⟩
theorem sz3 : SzIs Tryd.prog 3 1 := ⟨Tryd.t3, rfl, rfl⟩
theorem li26 : LitIs Tryd.prog 26 3 1 [.int .i64 0] := ⟨Tryd.underlying26, ⟨Tryd.t3, _, rfl, rfl, rfl, rfl⟩, by intro v hv; simp at hv; (try rcases hv with rfl | hv) <;> first | rfl | (subst hv; rfl) | simp_all [Value.oneCell']⟩
theorem ap26 : ApIs Tryd.prog 26 3 1 8 := ⟨Tryd.underlying26, ⟨Tryd.t3, _, rfl, rfl, rfl, rfl, rfl⟩, by decide, by decide⟩
theorem sl26 : SlIs Tryd.prog 26 3 1 := ⟨Tryd.underlying26, sz3⟩
theorem fn13 : FnIs Tryd.prog 13 := ⟨_, Tryd.func13, rfl, by kernel_rfl⟩
theorem fn14 : FnIs Tryd.prog 14 := ⟨_, Tryd.func14, rfl, by kernel_rfl⟩
theorem sc3 : Sc Tryd.prog 3 := ⟨_, Tryd.t3, Tryd.underlying3, rfl, rfl, trivial⟩
theorem fn12 : FnIs Tryd.prog 12 := ⟨_, Tryd.func12, rfl, by kernel_rfl⟩
theorem fn30 : FnIs Tryd.prog 30 := ⟨_, Tryd.func30, rfl, by kernel_rfl⟩
theorem fn15 : FnIs Tryd.prog 15 := ⟨_, Tryd.func15, rfl, by kernel_rfl⟩
theorem ze50 : ZeroIs Tryd.prog 50 [.pointer none, .slice none 0 0] := ⟨⟨Tryd.t50, _, rfl, rfl, rfl⟩, by intro v hv; simp only [List.mem_cons, List.not_mem_nil, or_false] at hv; (try rcases hv with rfl | rfl) <;> (subst_vars; rfl)⟩
theorem fi50_0 : FieldIs Tryd.prog 50 0 0 48 1 := ⟨_, _, Tryd.t48, Tryd.underlying50, rfl, rfl, rfl, rfl, rfl⟩
theorem sc48 : Sc Tryd.prog 48 := ⟨_, Tryd.t48, Tryd.underlying48, rfl, rfl, trivial⟩
theorem in50 : ∃ j, Tryd.prog.info? 50 = some j ∧ (j.size == 0) = false := ⟨Tryd.t50, rfl, rfl⟩
theorem ex55 : ExtIs Tryd.prog 55 Extern.AbiNoEscape.same := ⟨_, Tryd.func55, rfl, by kernel_rfl, by kernel_rfl, by kernel_rfl⟩
theorem te50 : ∃ j, Tryd.prog.info? 50 = some j := ⟨Tryd.t50, rfl⟩
theorem sz48 : SzIs Tryd.prog 48 1 := ⟨Tryd.t48, rfl, rfl⟩
theorem fn49 : FnIs Tryd.prog 49 := ⟨_, Tryd.func49, rfl, by kernel_rfl⟩
theorem fi50_1 : FieldIs Tryd.prog 50 1 1 47 1 := ⟨_, _, Tryd.t47, Tryd.underlying50, rfl, rfl, rfl, rfl, rfl⟩
theorem sc47 : Sc Tryd.prog 47 := ⟨_, Tryd.t47, Tryd.underlying47, rfl, rfl, trivial⟩
theorem sl47 : SlIs Tryd.prog 47 5 1 := ⟨Tryd.underlying47, sz5⟩
theorem ap47 : ApIs Tryd.prog 47 5 1 1 := ⟨Tryd.underlying47, ⟨Tryd.t5, _, rfl, rfl, rfl, rfl, rfl⟩, by decide, by decide⟩
theorem fn56 : FnIs Tryd.prog 56 := ⟨_, Tryd.func56, rfl, by kernel_rfl⟩
theorem fn50 : FnIs Tryd.prog 50 := ⟨_, Tryd.func50, rfl, by kernel_rfl⟩
theorem sz47 : SzIs Tryd.prog 47 1 := ⟨Tryd.t47, rfl, rfl⟩
theorem fn38 : FnIs Tryd.prog 38 := ⟨_, Tryd.func38, rfl, by kernel_rfl⟩
theorem fn39 : FnIs Tryd.prog 39 := ⟨_, Tryd.func39, rfl, by kernel_rfl⟩
theorem fn24 : FnIs Tryd.prog 24 := ⟨_, Tryd.func24, rfl, by kernel_rfl⟩
theorem fn45 : FnIs Tryd.prog 45 := ⟨_, Tryd.func45, rfl, by kernel_rfl⟩
theorem fn32 : FnIs Tryd.prog 32 := ⟨_, Tryd.func32, rfl, by kernel_rfl⟩
theorem sc9 : Sc Tryd.prog 9 := ⟨_, Tryd.t9, Tryd.underlying9, rfl, rfl, trivial⟩
theorem fn57 : FnIs Tryd.prog 57 := ⟨_, Tryd.func57, rfl, by kernel_rfl⟩
theorem fn52 : FnIs Tryd.prog 52 := ⟨_, Tryd.func52, rfl, by kernel_rfl⟩
theorem sc38 : Sc Tryd.prog 38 := ⟨_, Tryd.t38, Tryd.underlying38, rfl, rfl, trivial⟩
theorem sz9 : SzIs Tryd.prog 9 1 := ⟨Tryd.t9, rfl, rfl⟩
theorem li38 : LitIs Tryd.prog 38 9 1 [.string (ByteArray.mk #[])] := ⟨Tryd.underlying38, ⟨Tryd.t9, _, rfl, rfl, rfl, rfl⟩, by intro v hv; simp at hv; (try rcases hv with rfl | hv) <;> first | rfl | (subst hv; rfl) | simp_all [Value.oneCell']⟩
theorem ap38 : ApIs Tryd.prog 38 9 1 16 := ⟨Tryd.underlying38, ⟨Tryd.t9, _, rfl, rfl, rfl, rfl, rfl⟩, by decide, by decide⟩
theorem sl38 : SlIs Tryd.prog 38 9 1 := ⟨Tryd.underlying38, sz9⟩
theorem sz38 : SzIs Tryd.prog 38 1 := ⟨Tryd.t38, rfl, rfl⟩
theorem ex64 : ExtIs Tryd.prog 64 Extern.BytealgIndexByte.indexByte := ⟨_, Tryd.func64, rfl, by kernel_rfl, by kernel_rfl, by kernel_rfl⟩
theorem fn60 : FnIs Tryd.prog 60 := ⟨_, Tryd.func60, rfl, by kernel_rfl⟩
theorem fn58 : FnIs Tryd.prog 58 := ⟨_, Tryd.func58, rfl, by kernel_rfl⟩
theorem fn53 : FnIs Tryd.prog 53 := ⟨_, Tryd.func53, rfl, by kernel_rfl⟩
theorem fn44 : FnIs Tryd.prog 44 := ⟨_, Tryd.func44, rfl, by kernel_rfl⟩
theorem fn31 : FnIs Tryd.prog 31 := ⟨_, Tryd.func31, rfl, by kernel_rfl⟩
theorem fn34 : FnIs Tryd.prog 34 := ⟨_, Tryd.func34, rfl, by kernel_rfl⟩
theorem fn46 : FnIs Tryd.prog 46 := ⟨_, Tryd.func46, rfl, by kernel_rfl⟩
theorem fn33 : FnIs Tryd.prog 33 := ⟨_, Tryd.func33, rfl, by kernel_rfl⟩
theorem cn9 : Conc Tryd.prog 9 := ⟨_, Tryd.underlying9, trivial⟩
theorem ex59 : ExtIs Tryd.prog 59 (Extern.BytealgMakeNoZero.makeNoZero #[3] #[47]) := ⟨_, Tryd.func59, rfl, by kernel_rfl, by kernel_rfl, by kernel_rfl⟩
theorem fn54 : FnIs Tryd.prog 54 := ⟨_, Tryd.func54, rfl, by kernel_rfl⟩
theorem fn47 : FnIs Tryd.prog 47 := ⟨_, Tryd.func47, rfl, by kernel_rfl⟩
theorem fn48 : FnIs Tryd.prog 48 := ⟨_, Tryd.func48, rfl, by kernel_rfl⟩
theorem fn35 : FnIs Tryd.prog 35 := ⟨_, Tryd.func35, rfl, by kernel_rfl⟩
theorem fn17 : FnIs Tryd.prog 17 := ⟨_, Tryd.func17, rfl, by kernel_rfl⟩
theorem fn16 : FnIs Tryd.prog 16 := ⟨_, Tryd.func16, rfl, by kernel_rfl⟩
theorem fn36 : FnIs Tryd.prog 36 := ⟨_, Tryd.func36, rfl, by kernel_rfl⟩
theorem fn19 : FnIs Tryd.prog 19 := ⟨_, Tryd.func19, rfl, by kernel_rfl⟩
theorem fn18 : FnIs Tryd.prog 18 := ⟨_, Tryd.func18, rfl, by kernel_rfl⟩
theorem fn37 : FnIs Tryd.prog 37 := ⟨_, Tryd.func37, rfl, by kernel_rfl⟩
theorem fn20 : FnIs Tryd.prog 20 := ⟨_, Tryd.func20, rfl, by kernel_rfl⟩
theorem fn21 : FnIs Tryd.prog 21 := ⟨_, Tryd.func21, rfl, by kernel_rfl⟩
theorem fn22 : FnIs Tryd.prog 22 := ⟨_, Tryd.func22, rfl, by kernel_rfl⟩
theorem fn23 : FnIs Tryd.prog 23 := ⟨_, Tryd.func23, rfl, by kernel_rfl⟩
theorem fn27 : FnIs Tryd.prog 27 := ⟨_, Tryd.func27, rfl, by kernel_rfl⟩
theorem fn25 : FnIs Tryd.prog 25 := ⟨_, Tryd.func25, rfl, by kernel_rfl⟩
theorem fn40 : FnIs Tryd.prog 40 := ⟨_, Tryd.func40, rfl, by kernel_rfl⟩
theorem fn26 : FnIs Tryd.prog 26 := ⟨_, Tryd.func26, rfl, by kernel_rfl⟩
end Go.Proofs.YtnbjdgamindikaaDoor.W
