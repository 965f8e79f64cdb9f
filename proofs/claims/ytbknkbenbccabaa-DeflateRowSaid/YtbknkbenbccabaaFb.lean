/- Facts of the program's types. -/
import Derived.Test.YtbknkbenbccabaaProg
import Derived.Test.YtbknkbenbccabaaFa
import Derived.Test.YtbknkbenbccabaaQt
namespace Go.Proofs.Ytbknkbenbccabaa.W
open Go Go.Q Go.Proofs
set_option linter.unusedVariables false
set_option linter.unusedSimpArgs false
set_option maxRecDepth 100000
theorem mixed : Try.prog.follows .mixedOrders = true := rfl
theorem ze32 : ZeroIs Try.prog 32 [.slice none 0 0] := ⟨⟨Try.t32, _, rfl, rfl, rfl⟩, by intro v hv; simp only [List.mem_cons, List.not_mem_nil, or_false] at hv; (try rcases hv with rfl) <;> (subst_vars; rfl)⟩
theorem sc32 : Sc Try.prog 32 := ⟨_, Try.t32, Try.underlying32, rfl, rfl, trivial⟩
theorem sz3 : SzIs Try.prog 3 1 := ⟨Try.t3, rfl, rfl⟩
theorem sl32 : SlIs Try.prog 32 3 1 := ⟨Try.underlying32, sz3⟩
theorem sc3 : Sc Try.prog 3 := ⟨_, Try.t3, Try.underlying3, rfl, rfl, trivial⟩
theorem fn26 : FnIs Try.prog 26 := ⟨_, Try.func26, rfl, by kernel_rfl⟩
theorem li32 : LitIs Try.prog 32 3 1 [.int .i64 0] := ⟨Try.underlying32, ⟨Try.t3, _, rfl, rfl, rfl, rfl⟩, by intro v hv; simp at hv; (try rcases hv with rfl | hv) <;> first | rfl | (subst hv; rfl) | simp_all [Value.oneCell']⟩
theorem ap32 : ApIs Try.prog 32 3 1 8 := ⟨Try.underlying32, ⟨Try.t3, _, rfl, rfl, rfl, rfl, rfl⟩, by decide, by decide⟩
theorem sz32 : SzIs Try.prog 32 1 := ⟨Try.t32, rfl, rfl⟩
theorem fn25 : FnIs Try.prog 25 := ⟨_, Try.func25, rfl, by kernel_rfl⟩
theorem fn15 : FnIs Try.prog 15 := ⟨_, Try.func15, rfl, by kernel_rfl⟩
theorem fn16 : FnIs Try.prog 16 := ⟨_, Try.func16, rfl, by kernel_rfl⟩
theorem sz5 : SzIs Try.prog 5 1 := ⟨Try.t5, rfl, rfl⟩
theorem li22 : LitIs Try.prog 22 5 1 [.int .u8 0] := ⟨Try.underlying22, ⟨Try.t5, _, rfl, rfl, rfl, rfl⟩, by intro v hv; simp at hv; (try rcases hv with rfl | hv) <;> first | rfl | (subst hv; rfl) | simp_all [Value.oneCell']⟩
theorem sl22 : SlIs Try.prog 22 5 1 := ⟨Try.underlying22, sz5⟩
theorem bu105 : BuildIs Try.prog 105 (placeOf [(0, 1), (1, 1)]) [.slice none 0 0, .int .i64 0] := BuildIs.struct (it := Try.t105) rfl Try.underlying105 rfl rfl rfl (by intro v hv; simp only [List.mem_cons, List.not_mem_nil, or_false] at hv; (try rcases hv with rfl | rfl) <;> (subst_vars; rfl))
theorem fn29 : FnIs Try.prog 29 := ⟨_, Try.func29, rfl, by kernel_rfl⟩
theorem sc67 : Sc Try.prog 67 := ⟨_, Try.t67, Try.underlying67, rfl, rfl, trivial⟩
theorem fn57 : FnIs Try.prog 57 := ⟨_, Try.func57, rfl, by kernel_rfl⟩
theorem sc57 : Sc Try.prog 57 := ⟨_, Try.t57, Try.underlying57, rfl, rfl, trivial⟩
theorem fi105_1 : FieldIs Try.prog 105 1 1 3 1 := ⟨_, _, Try.t3, Try.underlying105, rfl, rfl, rfl, rfl, rfl⟩
theorem fi105_0 : FieldIs Try.prog 105 0 0 22 1 := ⟨_, _, Try.t22, Try.underlying105, rfl, rfl, rfl, rfl, rfl⟩
theorem sc22 : Sc Try.prog 22 := ⟨_, Try.t22, Try.underlying22, rfl, rfl, trivial⟩
theorem ap22 : ApIs Try.prog 22 5 1 1 := ⟨Try.underlying22, ⟨Try.t5, _, rfl, rfl, rfl, rfl, rfl⟩, by decide, by decide⟩
theorem sz22 : SzIs Try.prog 22 1 := ⟨Try.t22, rfl, rfl⟩
theorem sc5 : Sc Try.prog 5 := ⟨_, Try.t5, Try.underlying5, rfl, rfl, trivial⟩
theorem fn30 : FnIs Try.prog 30 := ⟨_, Try.func30, rfl, by kernel_rfl⟩
theorem fn31 : FnIs Try.prog 31 := ⟨_, Try.func31, rfl, by kernel_rfl⟩
theorem fn32 : FnIs Try.prog 32 := ⟨_, Try.func32, rfl, by kernel_rfl⟩
theorem fn58 : FnIs Try.prog 58 := ⟨_, Try.func58, rfl, by kernel_rfl⟩
theorem fn33 : FnIs Try.prog 33 := ⟨_, Try.func33, rfl, by kernel_rfl⟩
theorem fn20 : FnIs Try.prog 20 := ⟨_, Try.func20, rfl, by kernel_rfl⟩
theorem fn9 : FnIs Try.prog 9 := ⟨_, Try.func9, rfl, by kernel_rfl⟩
theorem fn12 : FnIs Try.prog 12 := ⟨_, Try.func12, rfl, by kernel_rfl⟩
theorem fn10 : FnIs Try.prog 10 := ⟨_, Try.func10, rfl, by kernel_rfl⟩
theorem sz43 : SzIs Try.prog 43 3 := ⟨Try.t43, rfl, rfl⟩
theorem sl40 : SlIs Try.prog 40 43 3 := ⟨Try.underlying40, sz43⟩
theorem fi43_0 : FieldIs Try.prog 43 0 0 3 1 := ⟨_, _, Try.t3, Try.underlying43, rfl, rfl, rfl, rfl, rfl⟩
theorem fi43_1 : FieldIs Try.prog 43 1 1 3 1 := ⟨_, _, Try.t3, Try.underlying43, rfl, rfl, rfl, rfl, rfl⟩
theorem fi43_2 : FieldIs Try.prog 43 2 2 3 1 := ⟨_, _, Try.t3, Try.underlying43, rfl, rfl, rfl, rfl, rfl⟩
theorem bu42 : BuildIs Try.prog 42 (placeOf [(0, 1), (1, 1), (2, 1)]) [.int .i64 0, .int .i64 0, .int .i64 0] := BuildIs.struct (it := Try.t42) rfl Try.underlying42 rfl rfl rfl (by intro v hv; simp only [List.mem_cons, List.not_mem_nil, or_false] at hv; (try rcases hv with rfl | rfl | rfl) <;> (subst_vars; rfl))
theorem sz42 : SzIs Try.prog 42 3 := ⟨Try.t42, rfl, rfl⟩
theorem li38 : LitIs Try.prog 38 42 3 [.int .i64 0, .int .i64 0, .int .i64 0] := ⟨Try.underlying38, ⟨Try.t42, _, rfl, rfl, rfl, rfl⟩, by intro v hv; simp at hv; (try rcases hv with rfl | hv) <;> first | rfl | (subst hv; rfl) | simp_all [Value.oneCell']⟩
theorem ap38 : ApIs Try.prog 38 42 3 24 := ⟨Try.underlying38, ⟨Try.t42, _, rfl, rfl, rfl, rfl, rfl⟩, by decide, by decide⟩
theorem sl38 : SlIs Try.prog 38 42 3 := ⟨Try.underlying38, sz42⟩
theorem ag42 : Ag Try.prog 42 3 := ⟨_, Try.t42, Try.underlying42, rfl, rfl, trivial⟩
theorem ze42 : ZeroIs Try.prog 42 [.int .i64 0, .int .i64 0, .int .i64 0] := ⟨⟨Try.t42, _, rfl, rfl, rfl⟩, by intro v hv; simp only [List.mem_cons, List.not_mem_nil, or_false] at hv; (try rcases hv with rfl | rfl | rfl) <;> (subst_vars; rfl)⟩
theorem fi42_1 : FieldIs Try.prog 42 1 1 3 1 := ⟨_, _, Try.t3, Try.underlying42, rfl, rfl, rfl, rfl, rfl⟩
theorem fi42_0 : FieldIs Try.prog 42 0 0 3 1 := ⟨_, _, Try.t3, Try.underlying42, rfl, rfl, rfl, rfl, rfl⟩
theorem fi42_2 : FieldIs Try.prog 42 2 2 3 1 := ⟨_, _, Try.t3, Try.underlying42, rfl, rfl, rfl, rfl, rfl⟩
theorem fn19 : FnIs Try.prog 19 := ⟨_, Try.func19, rfl, by kernel_rfl⟩
theorem ag43 : Ag Try.prog 43 3 := ⟨_, Try.t43, Try.underlying43, rfl, rfl, trivial⟩
theorem ze43 : ZeroIs Try.prog 43 [.int .i64 0, .int .i64 0, .int .i64 0] := ⟨⟨Try.t43, _, rfl, rfl, rfl⟩, by intro v hv; simp only [List.mem_cons, List.not_mem_nil, or_false] at hv; (try rcases hv with rfl | rfl | rfl) <;> (subst_vars; rfl)⟩
theorem fn18 : FnIs Try.prog 18 := ⟨_, Try.func18, rfl, by kernel_rfl⟩
end Go.Proofs.Ytbknkbenbccabaa.W
