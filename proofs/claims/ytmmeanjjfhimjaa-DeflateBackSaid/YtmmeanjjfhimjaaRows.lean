/-
  No cell of these rows narrows 'for every input' (looked for: loops, veiled, ifaces, maps, wideKeys, modest, calm, conditions, laid).
  DERIVED. THE GIVEN ROWS OF THIS SEAT. 4 by the template 'for every input the law returns true; each argument reads behind the call as it read before'; 0 by the template 'total and deterministic' (their statements: YtmmeanjjfhimjaaTotals.lean).
  GIVEN WITH THE SEED: the statements are not yours to turn. If you find one false, say at which input.
  Laid BY PROGRAM, IN A SANDBOX (cutbox-rows.mjs): the forced cells as the released guide's own fill.sh prints them over the translation 6e78caef634daace… (all of the seat's roots in one cut). By AI agents, Wed Nov 11 2026. No macro, syntax, notation, axiom, sorry.
-/
import Derived.Test.YtmmeanjjfhimjaaChecked
import GoSem.Claim
import GoSem.ClaimJoined
import GoSem.ClaimMapViews
import Derived.JoinedTies
import Derived.KernelRfl
namespace Go.Proofs.Ytmmeanjjfhimjaa
/- THE CELL 'sum', in the pinned program and in every row, IS THE sha256 OF THE DUMP (.gsa) THAT YtmmeanjjfhimjaaProg.lean LOADS. Nothing in Lean hashes anything: it is a label: what it is worth is what the hold of that sum in a sandbox is worth. -/
noncomputable def Try.pinned : Pinned := { name := "ytmmeanjjfhimjaa", sum := "6e78caef634daacea3de57eb0eaf70244c0187a8ef8872d2b21e945ca4872bf2", checked := Try.checked }
namespace Rows
def none {H : Type} : Left H := { results := [], args := [] }

/-- 'quirelaw04.DeflateBack': WHATEVER THE INPUT: true; the input reads as it did. -/
def deflateBackSpec : ChangeSpec := { name := "deflateBack", fn := fun _ => fun
  | [d1, d2] => { results := [.lit (.bool true)], args := [d1, d2] }
  | _ => none }
def deflateBackRow : OpenClaim := { program := "ytmmeanjjfhimjaa", sum := "6e78caef634daacea3de57eb0eaf70244c0187a8ef8872d2b21e945ca4872bf2", func := "quire/quirelaw04.DeflateBack", spec := "deflateBack", unfollowed := true, recurses := true, plainKeys := false, apart := false }
def DeflateBackSaid : Prop := deflateBackRow.holds Try.pinned (OpenSpec.ofChange deflateBackSpec)

/-- ITS FALSE NEIGHBOUR: 'it returns false'. Refute it at one input. -/
def deflateBackWrong : ChangeSpec := { name := "deflateBack", fn := fun _ => fun
  | [d1, d2] => { results := [.lit (.bool false)], args := [d1, d2] }
  | _ => none }
def DeflateBackWrongFalsely : Prop := deflateBackRow.holds Try.pinned (OpenSpec.ofChange deflateBackWrong)

/-- 'quirelaw04.DeflateSmall': WHATEVER THE INPUT: true; the input reads as it did. -/
def deflateSmallSpec : ChangeSpec := { name := "deflateSmall", fn := fun _ => fun
  | [d1, d2] => { results := [.lit (.bool true)], args := [d1, d2] }
  | _ => none }
def deflateSmallRow : OpenClaim := { program := "ytmmeanjjfhimjaa", sum := "6e78caef634daacea3de57eb0eaf70244c0187a8ef8872d2b21e945ca4872bf2", func := "quire/quirelaw04.DeflateSmall", spec := "deflateSmall", unfollowed := true, recurses := true, plainKeys := false, apart := false }
def DeflateSmallSaid : Prop := deflateSmallRow.holds Try.pinned (OpenSpec.ofChange deflateSmallSpec)

/-- ITS FALSE NEIGHBOUR: 'it returns false'. Refute it at one input. -/
def deflateSmallWrong : ChangeSpec := { name := "deflateSmall", fn := fun _ => fun
  | [d1, d2] => { results := [.lit (.bool false)], args := [d1, d2] }
  | _ => none }
def DeflateSmallWrongFalsely : Prop := deflateSmallRow.holds Try.pinned (OpenSpec.ofChange deflateSmallWrong)

/-- 'quirelaw04.DeflateKinds': WHATEVER THE INPUT: true; the input reads as it did. -/
def deflateKindsSpec : ChangeSpec := { name := "deflateKinds", fn := fun _ => fun
  | [d1, d2] => { results := [.lit (.bool true)], args := [d1, d2] }
  | _ => none }
def deflateKindsRow : OpenClaim := { program := "ytmmeanjjfhimjaa", sum := "6e78caef634daacea3de57eb0eaf70244c0187a8ef8872d2b21e945ca4872bf2", func := "quire/quirelaw04.DeflateKinds", spec := "deflateKinds", unfollowed := true, recurses := true, plainKeys := false, apart := false }
def DeflateKindsSaid : Prop := deflateKindsRow.holds Try.pinned (OpenSpec.ofChange deflateKindsSpec)

/-- ITS FALSE NEIGHBOUR: 'it returns false'. Refute it at one input. -/
def deflateKindsWrong : ChangeSpec := { name := "deflateKinds", fn := fun _ => fun
  | [d1, d2] => { results := [.lit (.bool false)], args := [d1, d2] }
  | _ => none }
def DeflateKindsWrongFalsely : Prop := deflateKindsRow.holds Try.pinned (OpenSpec.ofChange deflateKindsWrong)

/-- 'quirelaw04.DeflateParse': WHATEVER THE INPUT: true; the input reads as it did. -/
def deflateParseSpec : ChangeSpec := { name := "deflateParse", fn := fun _ => fun
  | [d] => { results := [.lit (.bool true)], args := [d] }
  | _ => none }
def deflateParseRow : OpenClaim := { program := "ytmmeanjjfhimjaa", sum := "6e78caef634daacea3de57eb0eaf70244c0187a8ef8872d2b21e945ca4872bf2", func := "quire/quirelaw04.DeflateParse", spec := "deflateParse", unfollowed := true, recurses := true, plainKeys := false, apart := false }
def DeflateParseSaid : Prop := deflateParseRow.holds Try.pinned (OpenSpec.ofChange deflateParseSpec)

/-- ITS FALSE NEIGHBOUR: 'it returns false'. Refute it at one input. -/
def deflateParseWrong : ChangeSpec := { name := "deflateParse", fn := fun _ => fun
  | [d] => { results := [.lit (.bool false)], args := [d] }
  | _ => none }
def DeflateParseWrongFalsely : Prop := deflateParseRow.holds Try.pinned (OpenSpec.ofChange deflateParseWrong)

/- THE SECOND FORM. 'bulk': how many values and letters a reading holds, each counted each time it is reached (what is shared counts as often as it is met; a slice's spare places count too). A statement '..UptoSaid' is the law's where the arguments, and the package variables that the reading takes, are together of bulk at most 1048576: NARROWER than '..Said'. Prove '..Said' where nothing that the law and all that it calls make is longer than what came in: it says more and counts as full. Else prove '..UptoSaid'. A law counts once. -/
mutual
def uptoBulk {H : Type} : DataW H → Nat
  | .lit (.string bytes) => bytes.length + 1
  | .lit _ => 1
  | .nil => 1
  | .ptr d => uptoBulk d + 1
  | .slice elems spare => uptoBulkAll elems + uptoBulkAll spare + 1
  | .agg parts => uptoBulkAll parts + 1
  | .iface _ d => uptoBulk d + 1
  | .map entries => uptoBulkEntries entries + 1
  | .held _ => 1
def uptoBulkAll {H : Type} : List (DataW H) → Nat
  | [] => 0
  | d :: r => uptoBulk d + uptoBulkAll r
def uptoBulkEntries {H : Type} : List (Lit × DataW H) → Nat
  | [] => 0
  | x :: r => uptoBulkEntry x + uptoBulkEntries r
def uptoBulkEntry {H : Type} : Lit × DataW H → Nat
  | (.string bytes, d) => bytes.length + uptoBulk d + 1
  | (_, d) => uptoBulk d + 1
 end
def uptoSmall : (H : Type) → List (DataW H) → Bool := fun _ ds => decide (uptoBulkAll ds ≤ 1048576)
def OpenSpec.upto (s : _root_.Go.ChangeSpec) : _root_.Go.OpenSpec := { _root_.Go.OpenSpec.ofChange s with cond := some uptoSmall }

/-- 'quirelaw04.DeflateBack', WHERE WHAT IT READS IS OF BULK AT MOST 1048576: true; the input reads as it did. -/
def deflateBackUptoRow : OpenClaim := { program := "ytmmeanjjfhimjaa", sum := "6e78caef634daacea3de57eb0eaf70244c0187a8ef8872d2b21e945ca4872bf2", func := "quire/quirelaw04.DeflateBack", spec := "deflateBack", unfollowed := true, recurses := true, plainKeys := false, apart := false, narrowed := true }
def DeflateBackUptoSaid : Prop := deflateBackUptoRow.holds Try.pinned (OpenSpec.upto deflateBackSpec)

/-- 'quirelaw04.DeflateSmall', WHERE WHAT IT READS IS OF BULK AT MOST 1048576: true; the input reads as it did. -/
def deflateSmallUptoRow : OpenClaim := { program := "ytmmeanjjfhimjaa", sum := "6e78caef634daacea3de57eb0eaf70244c0187a8ef8872d2b21e945ca4872bf2", func := "quire/quirelaw04.DeflateSmall", spec := "deflateSmall", unfollowed := true, recurses := true, plainKeys := false, apart := false, narrowed := true }
def DeflateSmallUptoSaid : Prop := deflateSmallUptoRow.holds Try.pinned (OpenSpec.upto deflateSmallSpec)

/-- 'quirelaw04.DeflateKinds', WHERE WHAT IT READS IS OF BULK AT MOST 1048576: true; the input reads as it did. -/
def deflateKindsUptoRow : OpenClaim := { program := "ytmmeanjjfhimjaa", sum := "6e78caef634daacea3de57eb0eaf70244c0187a8ef8872d2b21e945ca4872bf2", func := "quire/quirelaw04.DeflateKinds", spec := "deflateKinds", unfollowed := true, recurses := true, plainKeys := false, apart := false, narrowed := true }
def DeflateKindsUptoSaid : Prop := deflateKindsUptoRow.holds Try.pinned (OpenSpec.upto deflateKindsSpec)

/-- 'quirelaw04.DeflateParse', WHERE WHAT IT READS IS OF BULK AT MOST 1048576: true; the input reads as it did. -/
def deflateParseUptoRow : OpenClaim := { program := "ytmmeanjjfhimjaa", sum := "6e78caef634daacea3de57eb0eaf70244c0187a8ef8872d2b21e945ca4872bf2", func := "quire/quirelaw04.DeflateParse", spec := "deflateParse", unfollowed := true, recurses := true, plainKeys := false, apart := false, narrowed := true }
def DeflateParseUptoSaid : Prop := deflateParseUptoRow.holds Try.pinned (OpenSpec.upto deflateParseSpec)

end Rows
end Go.Proofs.Ytmmeanjjfhimjaa
