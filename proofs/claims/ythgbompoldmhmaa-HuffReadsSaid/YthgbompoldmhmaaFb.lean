/- Facts of the program's types. -/
import Derived.Test.YthgbompoldmhmaaProg
import Derived.Test.YthgbompoldmhmaaFa
import Derived.Test.YthgbompoldmhmaaQr
namespace Go.Proofs.Ythgbompoldmhmaa.W
open Go Go.Q Go.Proofs
set_option linter.unusedVariables false
set_option linter.unusedSimpArgs false
theorem mixed : Try.prog.follows .mixedOrders = true := rfl
theorem sz3 : SzIs Try.prog 3 1 := ⟨Try.t3, rfl, rfl⟩
theorem sl22 : SlIs Try.prog 22 3 1 := ⟨Try.underlying22, sz3⟩
theorem sc3 : Sc Try.prog 3 := ⟨_, Try.t3, Try.underlying3, rfl, rfl, trivial⟩
theorem fn32 : FnIs Try.prog 32 := ⟨_, Try.func32, rfl, by kernel_rfl⟩
theorem li32 : LitIs Try.prog 32 35 1 [.int .u32 0] := ⟨Try.underlying32, ⟨Try.t35, _, rfl, rfl, rfl, rfl⟩, by intro v hv; simp at hv; (try rcases hv with rfl | hv) <;> first | rfl | (subst hv; rfl) | simp_all [Value.oneCell']⟩
theorem by35 : ∃ i, Try.prog.info? 35 = some i ∧ i.bytes = 4 := ⟨Try.t35, rfl, rfl⟩
theorem ze32 : ZeroIs Try.prog 32 [.slice none 0 0] := ⟨⟨Try.t32, _, rfl, rfl, rfl⟩, by intro v hv; simp only [List.mem_cons, List.not_mem_nil, or_false] at hv; (try rcases hv with rfl) <;> (subst_vars; rfl)⟩
theorem sz32 : SzIs Try.prog 32 1 := ⟨Try.t32, rfl, rfl⟩
theorem ze35 : ZeroIs Try.prog 35 [.int .u32 0] := ⟨⟨Try.t35, _, rfl, rfl, rfl⟩, by intro v hv; simp only [List.mem_cons, List.not_mem_nil, or_false] at hv; (try rcases hv with rfl) <;> (subst_vars; rfl)⟩
theorem sz35 : SzIs Try.prog 35 1 := ⟨Try.t35, rfl, rfl⟩
theorem sc35 : Sc Try.prog 35 := ⟨_, Try.t35, Try.underlying35, rfl, rfl, trivial⟩
theorem fn33 : FnIs Try.prog 33 := ⟨_, Try.func33, rfl, by kernel_rfl⟩
theorem sc22 : Sc Try.prog 22 := ⟨_, Try.t22, Try.underlying22, rfl, rfl, trivial⟩
theorem sc32 : Sc Try.prog 32 := ⟨_, Try.t32, Try.underlying32, rfl, rfl, trivial⟩
theorem sl32 : SlIs Try.prog 32 35 1 := ⟨Try.underlying32, sz35⟩
theorem fn14 : FnIs Try.prog 14 := ⟨_, Try.func14, rfl, by kernel_rfl⟩
theorem li22 : LitIs Try.prog 22 3 1 [.int .i64 0] := ⟨Try.underlying22, ⟨Try.t3, _, rfl, rfl, rfl, rfl⟩, by intro v hv; simp at hv; (try rcases hv with rfl | hv) <;> first | rfl | (subst hv; rfl) | simp_all [Value.oneCell']⟩
theorem bu55 : BuildIs Try.prog 55 (placeOf [(0, 1), (1, 1)]) [.int .i64 0, .slice none 0 0] := BuildIs.struct (it := Try.t55) rfl Try.underlying55 rfl rfl rfl (by intro v hv; simp only [List.mem_cons, List.not_mem_nil, or_false] at hv; (try rcases hv with rfl | rfl) <;> (subst_vars; rfl))
theorem sz55 : SzIs Try.prog 55 2 := ⟨Try.t55, rfl, rfl⟩
theorem li53 : LitIs Try.prog 53 55 2 [.int .i64 0, .slice none 0 0] := ⟨Try.underlying53, ⟨Try.t55, _, rfl, rfl, rfl, rfl⟩, by intro v hv; simp at hv; (try rcases hv with rfl | hv) <;> first | rfl | (subst hv; rfl) | simp_all [Value.oneCell']⟩
theorem ap53 : ApIs Try.prog 53 55 2 32 := ⟨Try.underlying53, ⟨Try.t55, _, rfl, rfl, rfl, rfl, rfl⟩, by decide, by decide⟩
theorem sl53 : SlIs Try.prog 53 55 2 := ⟨Try.underlying53, sz55⟩
theorem by3 : ∃ i, Try.prog.info? 3 = some i ∧ i.bytes = 8 := ⟨Try.t3, rfl, rfl⟩
theorem fi55_1 : FieldIs Try.prog 55 1 1 22 1 := ⟨_, _, Try.t22, Try.underlying55, rfl, rfl, rfl, rfl, rfl⟩
theorem ag55 : Ag Try.prog 55 2 := ⟨_, Try.t55, Try.underlying55, rfl, rfl, trivial⟩
theorem fi55_0 : FieldIs Try.prog 55 0 0 3 1 := ⟨_, _, Try.t3, Try.underlying55, rfl, rfl, rfl, rfl, rfl⟩
theorem fn38 : FnIs Try.prog 38 := ⟨_, Try.func38, rfl, by kernel_rfl⟩
theorem fn26 : FnIs Try.prog 26 := ⟨_, Try.func26, rfl, by kernel_rfl⟩
theorem fn25 : FnIs Try.prog 25 := ⟨_, Try.func25, rfl, by kernel_rfl⟩
theorem fn43 : FnIs Try.prog 43 := ⟨_, Try.func43, rfl, by kernel_rfl⟩
theorem fn46 : FnIs Try.prog 46 := ⟨_, Try.func46, rfl, by kernel_rfl⟩
theorem fn45 : FnIs Try.prog 45 := ⟨_, Try.func45, rfl, by kernel_rfl⟩
theorem fn44 : FnIs Try.prog 44 := ⟨_, Try.func44, rfl, by kernel_rfl⟩
theorem fn39 : FnIs Try.prog 39 := ⟨_, Try.func39, rfl, by kernel_rfl⟩
theorem fn27 : FnIs Try.prog 27 := ⟨_, Try.func27, rfl, by kernel_rfl⟩
theorem fn28 : FnIs Try.prog 28 := ⟨_, Try.func28, rfl, by kernel_rfl⟩
theorem sz22 : SzIs Try.prog 22 1 := ⟨Try.t22, rfl, rfl⟩
theorem li83 : LitIs Try.prog 83 22 1 [.slice none 0 0] := ⟨Try.underlying83, ⟨Try.t22, _, rfl, rfl, rfl, rfl⟩, by intro v hv; simp at hv; (try rcases hv with rfl | hv) <;> first | rfl | (subst hv; rfl) | simp_all [Value.oneCell']⟩
theorem sl83 : SlIs Try.prog 83 22 1 := ⟨Try.underlying83, sz22⟩
theorem cn9 : Conc Try.prog 9 := ⟨_, Try.underlying9, trivial⟩
theorem ap22 : ApIs Try.prog 22 3 1 8 := ⟨Try.underlying22, ⟨Try.t3, _, rfl, rfl, rfl, rfl, rfl⟩, by decide, by decide⟩
theorem fn40 : FnIs Try.prog 40 := ⟨_, Try.func40, rfl, by kernel_rfl⟩
theorem fn29 : FnIs Try.prog 29 := ⟨_, Try.func29, rfl, by kernel_rfl⟩
theorem fn9 : FnIs Try.prog 9 := ⟨_, Try.func9, rfl, by kernel_rfl⟩
theorem fn10 : FnIs Try.prog 10 := ⟨_, Try.func10, rfl, by kernel_rfl⟩
theorem fn30 : FnIs Try.prog 30 := ⟨_, Try.func30, rfl, by kernel_rfl⟩
theorem fn11 : FnIs Try.prog 11 := ⟨_, Try.func11, rfl, by kernel_rfl⟩
theorem fn15 : FnIs Try.prog 15 := ⟨_, Try.func15, rfl, by kernel_rfl⟩
theorem fn16 : FnIs Try.prog 16 := ⟨_, Try.func16, rfl, by kernel_rfl⟩
theorem fn17 : FnIs Try.prog 17 := ⟨_, Try.func17, rfl, by kernel_rfl⟩
theorem fn18 : FnIs Try.prog 18 := ⟨_, Try.func18, rfl, by kernel_rfl⟩
theorem fn12 : FnIs Try.prog 12 := ⟨_, Try.func12, rfl, by kernel_rfl⟩
theorem ap38 : ApIs Try.prog 38 5 1 1 := ⟨Try.underlying38, ⟨Try.t5, _, rfl, rfl, rfl, rfl, rfl⟩, by decide, by decide⟩
theorem li38 : LitIs Try.prog 38 5 1 [.int .u8 0] := ⟨Try.underlying38, ⟨Try.t5, _, rfl, rfl, rfl, rfl⟩, by intro v hv; simp at hv; (try rcases hv with rfl | hv) <;> first | rfl | (subst hv; rfl) | simp_all [Value.oneCell']⟩
theorem sz5 : SzIs Try.prog 5 1 := ⟨Try.t5, rfl, rfl⟩
theorem sl38 : SlIs Try.prog 38 5 1 := ⟨Try.underlying38, sz5⟩
theorem fn34 : FnIs Try.prog 34 := ⟨_, Try.func34, rfl, by kernel_rfl⟩
theorem bu77 : BuildIs Try.prog 77 (placeOf [(0, 1), (1, 1)]) [.slice none 0 0, .int .i64 0] := BuildIs.struct (it := Try.t77) rfl Try.underlying77 rfl rfl rfl (by intro v hv; simp only [List.mem_cons, List.not_mem_nil, or_false] at hv; (try rcases hv with rfl | rfl) <;> (subst_vars; rfl))
theorem fn20 : FnIs Try.prog 20 := ⟨_, Try.func20, rfl, by kernel_rfl⟩
theorem fn21 : FnIs Try.prog 21 := ⟨_, Try.func21, rfl, by kernel_rfl⟩
theorem bu74 : BuildIs Try.prog 74 (placeOf [(0, 16), (16, 1)]) [.int .i64 0, .int .i64 0, .int .i64 0, .int .i64 0, .int .i64 0, .int .i64 0, .int .i64 0, .int .i64 0, .int .i64 0, .int .i64 0, .int .i64 0, .int .i64 0, .int .i64 0, .int .i64 0, .int .i64 0, .int .i64 0, .slice none 0 0] := BuildIs.struct (it := Try.t74) rfl Try.underlying74 rfl rfl rfl (by intro v hv; simp only [List.mem_cons, List.not_mem_nil, or_false] at hv; (try rcases hv with rfl | rfl | rfl | rfl | rfl | rfl | rfl | rfl | rfl | rfl | rfl | rfl | rfl | rfl | rfl | rfl | rfl) <;> (subst_vars; rfl))
theorem ze39 : ZeroIs Try.prog 39 [.pointer none] := ⟨⟨Try.t39, _, rfl, rfl, rfl⟩, by intro v hv; simp only [List.mem_cons, List.not_mem_nil, or_false] at hv; (try rcases hv with rfl) <;> (subst_vars; rfl)⟩
theorem sz39 : SzIs Try.prog 39 1 := ⟨Try.t39, rfl, rfl⟩
theorem ze3 : ZeroIs Try.prog 3 [.int .i64 0] := ⟨⟨Try.t3, _, rfl, rfl, rfl⟩, by intro v hv; simp only [List.mem_cons, List.not_mem_nil, or_false] at hv; (try rcases hv with rfl) <;> (subst_vars; rfl)⟩
theorem sc39 : Sc Try.prog 39 := ⟨_, Try.t39, Try.underlying39, rfl, rfl, trivial⟩
theorem fi74_0 : FieldIs Try.prog 74 0 0 72 16 := ⟨_, _, Try.t72, Try.underlying74, rfl, rfl, rfl, rfl, rfl⟩
theorem ar72 : ArIs Try.prog 72 3 16 1 := ⟨Try.underlying72, sz3⟩
theorem fi74_1 : FieldIs Try.prog 74 1 16 22 1 := ⟨_, _, Try.t22, Try.underlying74, rfl, rfl, rfl, rfl, rfl⟩
theorem fn19 : FnIs Try.prog 19 := ⟨_, Try.func19, rfl, by kernel_rfl⟩
theorem bu46 : BuildIs Try.prog 46 (placeOf [(0, 1), (1, 1)]) [.slice none 0 0, .int .i64 0] := BuildIs.struct (it := Try.t46) rfl Try.underlying46 rfl rfl rfl (by intro v hv; simp only [List.mem_cons, List.not_mem_nil, or_false] at hv; (try rcases hv with rfl | rfl) <;> (subst_vars; rfl))
theorem fi46_1 : FieldIs Try.prog 46 1 1 3 1 := ⟨_, _, Try.t3, Try.underlying46, rfl, rfl, rfl, rfl, rfl⟩
theorem fi46_0 : FieldIs Try.prog 46 0 0 38 1 := ⟨_, _, Try.t38, Try.underlying46, rfl, rfl, rfl, rfl, rfl⟩
theorem sc38 : Sc Try.prog 38 := ⟨_, Try.t38, Try.underlying38, rfl, rfl, trivial⟩
theorem fn24 : FnIs Try.prog 24 := ⟨_, Try.func24, rfl, by kernel_rfl⟩
theorem sc5 : Sc Try.prog 5 := ⟨_, Try.t5, Try.underlying5, rfl, rfl, trivial⟩
theorem fn42 : FnIs Try.prog 42 := ⟨_, Try.func42, rfl, by kernel_rfl⟩
theorem fn37 : FnIs Try.prog 37 := ⟨_, Try.func37, rfl, by kernel_rfl⟩
theorem fn22 : FnIs Try.prog 22 := ⟨_, Try.func22, rfl, by kernel_rfl⟩
theorem fi77_0 : FieldIs Try.prog 77 0 0 38 1 := ⟨_, _, Try.t38, Try.underlying77, rfl, rfl, rfl, rfl, rfl⟩
theorem fi77_1 : FieldIs Try.prog 77 1 1 3 1 := ⟨_, _, Try.t3, Try.underlying77, rfl, rfl, rfl, rfl, rfl⟩
theorem fn23 : FnIs Try.prog 23 := ⟨_, Try.func23, rfl, by kernel_rfl⟩
theorem ag77 : Ag Try.prog 77 2 := ⟨_, Try.t77, Try.underlying77, rfl, rfl, trivial⟩
theorem ze77 : ZeroIs Try.prog 77 [.slice none 0 0, .int .i64 0] := ⟨⟨Try.t77, _, rfl, rfl, rfl⟩, by intro v hv; simp only [List.mem_cons, List.not_mem_nil, or_false] at hv; (try rcases hv with rfl | rfl) <;> (subst_vars; rfl)⟩
theorem sz77 : SzIs Try.prog 77 2 := ⟨Try.t77, rfl, rfl⟩
theorem sz38 : SzIs Try.prog 38 1 := ⟨Try.t38, rfl, rfl⟩
theorem fn35 : FnIs Try.prog 35 := ⟨_, Try.func35, rfl, by kernel_rfl⟩
theorem fn36 : FnIs Try.prog 36 := ⟨_, Try.func36, rfl, by kernel_rfl⟩
theorem bu65 : BuildIs Try.prog 65 (placeOf [(0, 1), (1, 1)]) [.int .i64 0, .slice none 0 0] := BuildIs.struct (it := Try.t65) rfl Try.underlying65 rfl rfl rfl (by intro v hv; simp only [List.mem_cons, List.not_mem_nil, or_false] at hv; (try rcases hv with rfl | rfl) <;> (subst_vars; rfl))
theorem sz65 : SzIs Try.prog 65 2 := ⟨Try.t65, rfl, rfl⟩
theorem li63 : LitIs Try.prog 63 65 2 [.int .i64 0, .slice none 0 0] := ⟨Try.underlying63, ⟨Try.t65, _, rfl, rfl, rfl, rfl⟩, by intro v hv; simp at hv; (try rcases hv with rfl | hv) <;> first | rfl | (subst hv; rfl) | simp_all [Value.oneCell']⟩
theorem ap63 : ApIs Try.prog 63 65 2 32 := ⟨Try.underlying63, ⟨Try.t65, _, rfl, rfl, rfl, rfl, rfl⟩, by decide, by decide⟩
theorem sl63 : SlIs Try.prog 63 65 2 := ⟨Try.underlying63, sz65⟩
theorem fi65_0 : FieldIs Try.prog 65 0 0 3 1 := ⟨_, _, Try.t3, Try.underlying65, rfl, rfl, rfl, rfl, rfl⟩
theorem ag65 : Ag Try.prog 65 2 := ⟨_, Try.t65, Try.underlying65, rfl, rfl, trivial⟩
theorem fn31 : FnIs Try.prog 31 := ⟨_, Try.func31, rfl, by kernel_rfl⟩
theorem fi65_1 : FieldIs Try.prog 65 1 1 22 1 := ⟨_, _, Try.t22, Try.underlying65, rfl, rfl, rfl, rfl, rfl⟩
theorem fn13 : FnIs Try.prog 13 := ⟨_, Try.func13, rfl, by kernel_rfl⟩
end Go.Proofs.Ythgbompoldmhmaa.W
