/- Facts of the program's types. -/
import Derived.Test.YthgbompoldmhmabProg
import Derived.Test.YthgbompoldmhmabFa
import Derived.Test.YthgbompoldmhmabQr
namespace Go.Proofs.Ythgbompoldmhmab.W
open Go Go.Q Go.Proofs
set_option linter.unusedVariables false
set_option linter.unusedSimpArgs false
theorem mixed : Try.prog.follows .mixedOrders = true := rfl
theorem sz3 : SzIs Try.prog 3 1 := ⟨Try.t3, rfl, rfl⟩
theorem sl22 : SlIs Try.prog 22 3 1 := ⟨Try.underlying22, sz3⟩
theorem sc3 : Sc Try.prog 3 := ⟨_, Try.t3, Try.underlying3, rfl, rfl, trivial⟩
theorem fn14 : FnIs Try.prog 14 := ⟨_, Try.func14, rfl, by kernel_rfl⟩
theorem li23 : LitIs Try.prog 23 34 1 [.int .u32 0] := ⟨Try.underlying23, ⟨Try.t34, _, rfl, rfl, rfl, rfl⟩, by intro v hv; simp at hv; (try rcases hv with rfl | hv) <;> first | rfl | (subst hv; rfl) | simp_all [Value.oneCell']⟩
theorem by34 : ∃ i, Try.prog.info? 34 = some i ∧ i.bytes = 4 := ⟨Try.t34, rfl, rfl⟩
theorem ze23 : ZeroIs Try.prog 23 [.slice none 0 0] := ⟨⟨Try.t23, _, rfl, rfl, rfl⟩, by intro v hv; simp only [List.mem_cons, List.not_mem_nil, or_false] at hv; (try rcases hv with rfl) <;> (subst_vars; rfl)⟩
theorem sz23 : SzIs Try.prog 23 1 := ⟨Try.t23, rfl, rfl⟩
theorem ze34 : ZeroIs Try.prog 34 [.int .u32 0] := ⟨⟨Try.t34, _, rfl, rfl, rfl⟩, by intro v hv; simp only [List.mem_cons, List.not_mem_nil, or_false] at hv; (try rcases hv with rfl) <;> (subst_vars; rfl)⟩
theorem sz34 : SzIs Try.prog 34 1 := ⟨Try.t34, rfl, rfl⟩
theorem sc34 : Sc Try.prog 34 := ⟨_, Try.t34, Try.underlying34, rfl, rfl, trivial⟩
theorem fn15 : FnIs Try.prog 15 := ⟨_, Try.func15, rfl, by kernel_rfl⟩
theorem sc22 : Sc Try.prog 22 := ⟨_, Try.t22, Try.underlying22, rfl, rfl, trivial⟩
theorem sc23 : Sc Try.prog 23 := ⟨_, Try.t23, Try.underlying23, rfl, rfl, trivial⟩
theorem sl23 : SlIs Try.prog 23 34 1 := ⟨Try.underlying23, sz34⟩
theorem fn4 : FnIs Try.prog 4 := ⟨_, Try.func4, rfl, by kernel_rfl⟩
theorem bu52 : BuildIs Try.prog 52 (placeOf [(0, 16), (16, 1)]) [.int .i64 0, .int .i64 0, .int .i64 0, .int .i64 0, .int .i64 0, .int .i64 0, .int .i64 0, .int .i64 0, .int .i64 0, .int .i64 0, .int .i64 0, .int .i64 0, .int .i64 0, .int .i64 0, .int .i64 0, .int .i64 0, .slice none 0 0] := BuildIs.struct (it := Try.t52) rfl Try.underlying52 rfl rfl rfl (by intro v hv; simp only [List.mem_cons, List.not_mem_nil, or_false] at hv; (try rcases hv with rfl | rfl | rfl | rfl | rfl | rfl | rfl | rfl | rfl | rfl | rfl | rfl | rfl | rfl | rfl | rfl | rfl) <;> (subst_vars; rfl))
theorem ze27 : ZeroIs Try.prog 27 [.pointer none] := ⟨⟨Try.t27, _, rfl, rfl, rfl⟩, by intro v hv; simp only [List.mem_cons, List.not_mem_nil, or_false] at hv; (try rcases hv with rfl) <;> (subst_vars; rfl)⟩
theorem sz27 : SzIs Try.prog 27 1 := ⟨Try.t27, rfl, rfl⟩
theorem ze3 : ZeroIs Try.prog 3 [.int .i64 0] := ⟨⟨Try.t3, _, rfl, rfl, rfl⟩, by intro v hv; simp only [List.mem_cons, List.not_mem_nil, or_false] at hv; (try rcases hv with rfl) <;> (subst_vars; rfl)⟩
theorem sc27 : Sc Try.prog 27 := ⟨_, Try.t27, Try.underlying27, rfl, rfl, trivial⟩
theorem fi52_0 : FieldIs Try.prog 52 0 0 50 16 := ⟨_, _, Try.t50, Try.underlying52, rfl, rfl, rfl, rfl, rfl⟩
theorem ar50 : ArIs Try.prog 50 3 16 1 := ⟨Try.underlying50, sz3⟩
theorem fi52_1 : FieldIs Try.prog 52 1 16 22 1 := ⟨_, _, Try.t22, Try.underlying52, rfl, rfl, rfl, rfl, rfl⟩
theorem li22 : LitIs Try.prog 22 3 1 [.int .i64 0] := ⟨Try.underlying22, ⟨Try.t3, _, rfl, rfl, rfl, rfl⟩, by intro v hv; simp at hv; (try rcases hv with rfl | hv) <;> first | rfl | (subst hv; rfl) | simp_all [Value.oneCell']⟩
theorem ap22 : ApIs Try.prog 22 3 1 8 := ⟨Try.underlying22, ⟨Try.t3, _, rfl, rfl, rfl, rfl, rfl⟩, by decide, by decide⟩
theorem sz22 : SzIs Try.prog 22 1 := ⟨Try.t22, rfl, rfl⟩
theorem fn5 : FnIs Try.prog 5 := ⟨_, Try.func5, rfl, by kernel_rfl⟩
theorem bu71 : BuildIs Try.prog 71 (placeOf [(0, 1), (1, 1)]) [.int .i64 0, .slice none 0 0] := BuildIs.struct (it := Try.t71) rfl Try.underlying71 rfl rfl rfl (by intro v hv; simp only [List.mem_cons, List.not_mem_nil, or_false] at hv; (try rcases hv with rfl | rfl) <;> (subst_vars; rfl))
theorem sz71 : SzIs Try.prog 71 2 := ⟨Try.t71, rfl, rfl⟩
theorem li69 : LitIs Try.prog 69 71 2 [.int .i64 0, .slice none 0 0] := ⟨Try.underlying69, ⟨Try.t71, _, rfl, rfl, rfl, rfl⟩, by intro v hv; simp at hv; (try rcases hv with rfl | hv) <;> first | rfl | (subst hv; rfl) | simp_all [Value.oneCell']⟩
theorem ap69 : ApIs Try.prog 69 71 2 32 := ⟨Try.underlying69, ⟨Try.t71, _, rfl, rfl, rfl, rfl, rfl⟩, by decide, by decide⟩
theorem sl69 : SlIs Try.prog 69 71 2 := ⟨Try.underlying69, sz71⟩
theorem by3 : ∃ i, Try.prog.info? 3 = some i ∧ i.bytes = 8 := ⟨Try.t3, rfl, rfl⟩
theorem fi71_1 : FieldIs Try.prog 71 1 1 22 1 := ⟨_, _, Try.t22, Try.underlying71, rfl, rfl, rfl, rfl, rfl⟩
theorem ag71 : Ag Try.prog 71 2 := ⟨_, Try.t71, Try.underlying71, rfl, rfl, trivial⟩
theorem fi71_0 : FieldIs Try.prog 71 0 0 3 1 := ⟨_, _, Try.t3, Try.underlying71, rfl, rfl, rfl, rfl, rfl⟩
theorem fn30 : FnIs Try.prog 30 := ⟨_, Try.func30, rfl, by kernel_rfl⟩
theorem fn24 : FnIs Try.prog 24 := ⟨_, Try.func24, rfl, by kernel_rfl⟩
theorem fn23 : FnIs Try.prog 23 := ⟨_, Try.func23, rfl, by kernel_rfl⟩
theorem fn33 : FnIs Try.prog 33 := ⟨_, Try.func33, rfl, by kernel_rfl⟩
theorem fn36 : FnIs Try.prog 36 := ⟨_, Try.func36, rfl, by kernel_rfl⟩
theorem fn35 : FnIs Try.prog 35 := ⟨_, Try.func35, rfl, by kernel_rfl⟩
theorem fn34 : FnIs Try.prog 34 := ⟨_, Try.func34, rfl, by kernel_rfl⟩
theorem fn31 : FnIs Try.prog 31 := ⟨_, Try.func31, rfl, by kernel_rfl⟩
theorem fn25 : FnIs Try.prog 25 := ⟨_, Try.func25, rfl, by kernel_rfl⟩
theorem fn26 : FnIs Try.prog 26 := ⟨_, Try.func26, rfl, by kernel_rfl⟩
theorem li79 : LitIs Try.prog 79 22 1 [.slice none 0 0] := ⟨Try.underlying79, ⟨Try.t22, _, rfl, rfl, rfl, rfl⟩, by intro v hv; simp at hv; (try rcases hv with rfl | hv) <;> first | rfl | (subst hv; rfl) | simp_all [Value.oneCell']⟩
theorem sl79 : SlIs Try.prog 79 22 1 := ⟨Try.underlying79, sz22⟩
theorem cn9 : Conc Try.prog 9 := ⟨_, Try.underlying9, trivial⟩
theorem fn32 : FnIs Try.prog 32 := ⟨_, Try.func32, rfl, by kernel_rfl⟩
theorem fn27 : FnIs Try.prog 27 := ⟨_, Try.func27, rfl, by kernel_rfl⟩
theorem fn16 : FnIs Try.prog 16 := ⟨_, Try.func16, rfl, by kernel_rfl⟩
theorem fn6 : FnIs Try.prog 6 := ⟨_, Try.func6, rfl, by kernel_rfl⟩
theorem bu56 : BuildIs Try.prog 56 (placeOf [(0, 1), (1, 1)]) [.slice none 0 0, .int .i64 0] := BuildIs.struct (it := Try.t56) rfl Try.underlying56 rfl rfl rfl (by intro v hv; simp only [List.mem_cons, List.not_mem_nil, or_false] at hv; (try rcases hv with rfl | rfl) <;> (subst_vars; rfl))
theorem fn7 : FnIs Try.prog 7 := ⟨_, Try.func7, rfl, by kernel_rfl⟩
theorem fn29 : FnIs Try.prog 29 := ⟨_, Try.func29, rfl, by kernel_rfl⟩
theorem fn18 : FnIs Try.prog 18 := ⟨_, Try.func18, rfl, by kernel_rfl⟩
theorem fn9 : FnIs Try.prog 9 := ⟨_, Try.func9, rfl, by kernel_rfl⟩
theorem sc31 : Sc Try.prog 31 := ⟨_, Try.t31, Try.underlying31, rfl, rfl, trivial⟩
theorem fn17 : FnIs Try.prog 17 := ⟨_, Try.func17, rfl, by kernel_rfl⟩
theorem fi56_1 : FieldIs Try.prog 56 1 1 3 1 := ⟨_, _, Try.t3, Try.underlying56, rfl, rfl, rfl, rfl, rfl⟩
theorem fi56_0 : FieldIs Try.prog 56 0 0 38 1 := ⟨_, _, Try.t38, Try.underlying56, rfl, rfl, rfl, rfl, rfl⟩
theorem sc38 : Sc Try.prog 38 := ⟨_, Try.t38, Try.underlying38, rfl, rfl, trivial⟩
theorem sz5 : SzIs Try.prog 5 1 := ⟨Try.t5, rfl, rfl⟩
theorem li38 : LitIs Try.prog 38 5 1 [.int .u8 0] := ⟨Try.underlying38, ⟨Try.t5, _, rfl, rfl, rfl, rfl⟩, by intro v hv; simp at hv; (try rcases hv with rfl | hv) <;> first | rfl | (subst hv; rfl) | simp_all [Value.oneCell']⟩
theorem ap38 : ApIs Try.prog 38 5 1 1 := ⟨Try.underlying38, ⟨Try.t5, _, rfl, rfl, rfl, rfl, rfl⟩, by decide, by decide⟩
theorem sl38 : SlIs Try.prog 38 5 1 := ⟨Try.underlying38, sz5⟩
theorem sz38 : SzIs Try.prog 38 1 := ⟨Try.t38, rfl, rfl⟩
theorem sc5 : Sc Try.prog 5 := ⟨_, Try.t5, Try.underlying5, rfl, rfl, trivial⟩
theorem fn8 : FnIs Try.prog 8 := ⟨_, Try.func8, rfl, by kernel_rfl⟩
theorem fn19 : FnIs Try.prog 19 := ⟨_, Try.func19, rfl, by kernel_rfl⟩
theorem fn11 : FnIs Try.prog 11 := ⟨_, Try.func11, rfl, by kernel_rfl⟩
theorem bu64 : BuildIs Try.prog 64 (placeOf [(0, 1), (1, 1)]) [.slice none 0 0, .int .i64 0] := BuildIs.struct (it := Try.t64) rfl Try.underlying64 rfl rfl rfl (by intro v hv; simp only [List.mem_cons, List.not_mem_nil, or_false] at hv; (try rcases hv with rfl | rfl) <;> (subst_vars; rfl))
theorem fn10 : FnIs Try.prog 10 := ⟨_, Try.func10, rfl, by kernel_rfl⟩
theorem fn12 : FnIs Try.prog 12 := ⟨_, Try.func12, rfl, by kernel_rfl⟩
theorem fi64_0 : FieldIs Try.prog 64 0 0 38 1 := ⟨_, _, Try.t38, Try.underlying64, rfl, rfl, rfl, rfl, rfl⟩
theorem fi64_1 : FieldIs Try.prog 64 1 1 3 1 := ⟨_, _, Try.t3, Try.underlying64, rfl, rfl, rfl, rfl, rfl⟩
theorem fn13 : FnIs Try.prog 13 := ⟨_, Try.func13, rfl, by kernel_rfl⟩
theorem ag64 : Ag Try.prog 64 2 := ⟨_, Try.t64, Try.underlying64, rfl, rfl, trivial⟩
theorem ze64 : ZeroIs Try.prog 64 [.slice none 0 0, .int .i64 0] := ⟨⟨Try.t64, _, rfl, rfl, rfl⟩, by intro v hv; simp only [List.mem_cons, List.not_mem_nil, or_false] at hv; (try rcases hv with rfl | rfl) <;> (subst_vars; rfl)⟩
theorem sz64 : SzIs Try.prog 64 2 := ⟨Try.t64, rfl, rfl⟩
theorem fn20 : FnIs Try.prog 20 := ⟨_, Try.func20, rfl, by kernel_rfl⟩
theorem fn21 : FnIs Try.prog 21 := ⟨_, Try.func21, rfl, by kernel_rfl⟩
end Go.Proofs.Ythgbompoldmhmab.W
