/- Facts of the program's types. -/
import Derived.Test.YticbhcccdfcogaaProg
import Derived.Test.YticbhcccdfcogaaFa
namespace Go.Proofs.Yticbhcccdfcogaa.W
open Go Go.Q Go.Proofs
set_option linter.unusedVariables false
set_option linter.unusedSimpArgs false
theorem mixed : Try.prog.follows .mixedOrders = true := rfl
theorem fn36 : FnIs Try.prog 36 := ⟨_, Try.func36, rfl, by kernel_rfl⟩
theorem fn32 : FnIs Try.prog 32 := ⟨_, Try.func32, rfl, by kernel_rfl⟩
theorem fn7 : FnIs Try.prog 7 := ⟨_, Try.func7, rfl, by kernel_rfl⟩
theorem fn8 : FnIs Try.prog 8 := ⟨_, Try.func8, rfl, by kernel_rfl⟩
theorem sz5 : SzIs Try.prog 5 1 := ⟨Try.t5, rfl, rfl⟩
theorem sl23 : SlIs Try.prog 23 5 1 := ⟨Try.underlying23, sz5⟩
theorem sc5 : Sc Try.prog 5 := ⟨_, Try.t5, Try.underlying5, rfl, rfl, trivial⟩
theorem fn9 : FnIs Try.prog 9 := ⟨_, Try.func9, rfl, by kernel_rfl⟩
theorem fn10 : FnIs Try.prog 10 := ⟨_, Try.func10, rfl, by kernel_rfl⟩
theorem bu57 : BuildIs Try.prog 57 (placeOf [(0, 1), (1, 1)]) [.slice none 0 0, .int .i64 0] := BuildIs.struct (it := Try.t57) rfl Try.underlying57 rfl rfl rfl (by intro v hv; simp only [List.mem_cons, List.not_mem_nil, or_false] at hv; (try rcases hv with rfl | rfl) <;> (subst_vars; rfl))
theorem fn12 : FnIs Try.prog 12 := ⟨_, Try.func12, rfl, by kernel_rfl⟩
theorem sc29 : Sc Try.prog 29 := ⟨_, Try.t29, Try.underlying29, rfl, rfl, trivial⟩
theorem fn33 : FnIs Try.prog 33 := ⟨_, Try.func33, rfl, by kernel_rfl⟩
theorem sc3 : Sc Try.prog 3 := ⟨_, Try.t3, Try.underlying3, rfl, rfl, trivial⟩
theorem sc22 : Sc Try.prog 22 := ⟨_, Try.t22, Try.underlying22, rfl, rfl, trivial⟩
theorem fi57_1 : FieldIs Try.prog 57 1 1 3 1 := ⟨_, _, Try.t3, Try.underlying57, rfl, rfl, rfl, rfl, rfl⟩
theorem fi57_0 : FieldIs Try.prog 57 0 0 23 1 := ⟨_, _, Try.t23, Try.underlying57, rfl, rfl, rfl, rfl, rfl⟩
theorem sc23 : Sc Try.prog 23 := ⟨_, Try.t23, Try.underlying23, rfl, rfl, trivial⟩
theorem li23 : LitIs Try.prog 23 5 1 [.int .u8 0] := ⟨Try.underlying23, ⟨Try.t5, _, rfl, rfl, rfl, rfl⟩, by intro v hv; simp at hv; (try rcases hv with rfl | hv) <;> first | rfl | (subst hv; rfl) | simp_all [Value.oneCell']⟩
theorem ap23 : ApIs Try.prog 23 5 1 1 := ⟨Try.underlying23, ⟨Try.t5, _, rfl, rfl, rfl, rfl, rfl⟩, by decide, by decide⟩
theorem sz23 : SzIs Try.prog 23 1 := ⟨Try.t23, rfl, rfl⟩
theorem sz3 : SzIs Try.prog 3 1 := ⟨Try.t3, rfl, rfl⟩
theorem fn13 : FnIs Try.prog 13 := ⟨_, Try.func13, rfl, by kernel_rfl⟩
theorem fn34 : FnIs Try.prog 34 := ⟨_, Try.func34, rfl, by kernel_rfl⟩
theorem fn15 : FnIs Try.prog 15 := ⟨_, Try.func15, rfl, by kernel_rfl⟩
theorem bu63 : BuildIs Try.prog 63 (placeOf [(0, 1), (1, 1)]) [.slice none 0 0, .int .i64 0] := BuildIs.struct (it := Try.t63) rfl Try.underlying63 rfl rfl rfl (by intro v hv; simp only [List.mem_cons, List.not_mem_nil, or_false] at hv; (try rcases hv with rfl | rfl) <;> (subst_vars; rfl))
theorem fn14 : FnIs Try.prog 14 := ⟨_, Try.func14, rfl, by kernel_rfl⟩
theorem fi63_0 : FieldIs Try.prog 63 0 0 23 1 := ⟨_, _, Try.t23, Try.underlying63, rfl, rfl, rfl, rfl, rfl⟩
theorem fi63_1 : FieldIs Try.prog 63 1 1 3 1 := ⟨_, _, Try.t3, Try.underlying63, rfl, rfl, rfl, rfl, rfl⟩
theorem fn17 : FnIs Try.prog 17 := ⟨_, Try.func17, rfl, by kernel_rfl⟩
theorem fn16 : FnIs Try.prog 16 := ⟨_, Try.func16, rfl, by kernel_rfl⟩
theorem fn11 : FnIs Try.prog 11 := ⟨_, Try.func11, rfl, by kernel_rfl⟩
theorem sz34 : SzIs Try.prog 34 4 := ⟨Try.t34, rfl, rfl⟩
theorem sl28 : SlIs Try.prog 28 34 4 := ⟨Try.underlying28, sz34⟩
theorem fi34_2 : FieldIs Try.prog 34 2 2 22 1 := ⟨_, _, Try.t22, Try.underlying34, rfl, rfl, rfl, rfl, rfl⟩
theorem fi34_1 : FieldIs Try.prog 34 1 1 3 1 := ⟨_, _, Try.t3, Try.underlying34, rfl, rfl, rfl, rfl, rfl⟩
theorem bu45 : BuildIs Try.prog 45 (placeOf [(0, 1)]) [.slice none 0 0] := BuildIs.struct (it := Try.t45) rfl Try.underlying45 rfl rfl rfl (by intro v hv; simp only [List.mem_cons, List.not_mem_nil, or_false] at hv; (try rcases hv with rfl) <;> (subst_vars; rfl))
theorem ag34 : Ag Try.prog 34 4 := ⟨_, Try.t34, Try.underlying34, rfl, rfl, trivial⟩
theorem ze34 : ZeroIs Try.prog 34 [.int .i64 0, .int .i64 0, .int .u32 0, .slice none 0 0] := ⟨⟨Try.t34, _, rfl, rfl, rfl⟩, by intro v hv; simp only [List.mem_cons, List.not_mem_nil, or_false] at hv; (try rcases hv with rfl | rfl | rfl | rfl) <;> (subst_vars; rfl)⟩
theorem fi34_0 : FieldIs Try.prog 34 0 0 3 1 := ⟨_, _, Try.t3, Try.underlying34, rfl, rfl, rfl, rfl, rfl⟩
theorem fi45_0 : FieldIs Try.prog 45 0 0 23 1 := ⟨_, _, Try.t23, Try.underlying45, rfl, rfl, rfl, rfl, rfl⟩
theorem fn18 : FnIs Try.prog 18 := ⟨_, Try.func18, rfl, by kernel_rfl⟩
theorem fn19 : FnIs Try.prog 19 := ⟨_, Try.func19, rfl, by kernel_rfl⟩
theorem fn20 : FnIs Try.prog 20 := ⟨_, Try.func20, rfl, by kernel_rfl⟩
theorem fi34_3 : FieldIs Try.prog 34 3 3 23 1 := ⟨_, _, Try.t23, Try.underlying34, rfl, rfl, rfl, rfl, rfl⟩
theorem fn21 : FnIs Try.prog 21 := ⟨_, Try.func21, rfl, by kernel_rfl⟩
theorem fn22 : FnIs Try.prog 22 := ⟨_, Try.func22, rfl, by kernel_rfl⟩
theorem fn23 : FnIs Try.prog 23 := ⟨_, Try.func23, rfl, by kernel_rfl⟩
theorem fn25 : FnIs Try.prog 25 := ⟨_, Try.func25, rfl, by kernel_rfl⟩
theorem fn24 : FnIs Try.prog 24 := ⟨_, Try.func24, rfl, by kernel_rfl⟩
theorem bu50 : BuildIs Try.prog 50 (placeOf [(0, 1), (1, 1)]) [.slice none 0 0, .int .i64 0] := BuildIs.struct (it := Try.t50) rfl Try.underlying50 rfl rfl rfl (by intro v hv; simp only [List.mem_cons, List.not_mem_nil, or_false] at hv; (try rcases hv with rfl | rfl) <;> (subst_vars; rfl))
theorem fi50_0 : FieldIs Try.prog 50 0 0 23 1 := ⟨_, _, Try.t23, Try.underlying50, rfl, rfl, rfl, rfl, rfl⟩
theorem fi50_1 : FieldIs Try.prog 50 1 1 3 1 := ⟨_, _, Try.t3, Try.underlying50, rfl, rfl, rfl, rfl, rfl⟩
theorem fn31 : FnIs Try.prog 31 := ⟨_, Try.func31, rfl, by kernel_rfl⟩
theorem fn35 : FnIs Try.prog 35 := ⟨_, Try.func35, rfl, by kernel_rfl⟩
theorem fn26 : FnIs Try.prog 26 := ⟨_, Try.func26, rfl, by kernel_rfl⟩
theorem fn27 : FnIs Try.prog 27 := ⟨_, Try.func27, rfl, by kernel_rfl⟩
theorem fn28 : FnIs Try.prog 28 := ⟨_, Try.func28, rfl, by kernel_rfl⟩
theorem fn29 : FnIs Try.prog 29 := ⟨_, Try.func29, rfl, by kernel_rfl⟩
theorem fn30 : FnIs Try.prog 30 := ⟨_, Try.func30, rfl, by kernel_rfl⟩
end Go.Proofs.Yticbhcccdfcogaa.W
