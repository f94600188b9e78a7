/-
  No cell of these rows narrows 'for every input' (looked for: loops, veiled, ifaces, maps, wideKeys, modest, calm, conditions, laid).
  DERIVED. THE GIVEN ROWS OF THIS SEAT. 12 by the template 'for every input the law returns true; each argument reads behind the call as it read before'; 0 by the template 'total and deterministic' (their statements: YtaadjpdghikkmaaTotals.lean).
  GIVEN WITH THE SEED: the statements are not yours to turn. If you find one false, say at which input.
  Laid BY PROGRAM, IN A SANDBOX (cutbox-rows.mjs): the forced cells as the released guide's own fill.sh prints them over the translation 85c1dbcad52734c6… (all of the seat's roots in one cut). By AI agents, Wed Nov 11 2026. No macro, syntax, notation, axiom, sorry.
-/
import Derived.Test.YtaadjpdghikkmaaChecked
import GoSem.Claim
import GoSem.ClaimJoined
import GoSem.ClaimMapViews
import Derived.JoinedTies
import Derived.KernelRfl
namespace Go.Proofs.Ytaadjpdghikkmaa
/- THE CELL 'sum', in the pinned program and in every row, IS THE sha256 OF THE DUMP (.gsa) THAT YtaadjpdghikkmaaProg.lean LOADS. Nothing in Lean hashes anything: it is a label: what it is worth is what the hold of that sum in a sandbox is worth. -/
noncomputable def Try.pinned : Pinned := { name := "ytaadjpdghikkmaa", sum := "85c1dbcad52734c60ef2bf4e7ff425d3ab24424a6a0cbc7dceaba47ec1bd68d0", checked := Try.checked }
namespace Rows
def none {H : Type} : Left H := { results := [], args := [] }

/-- 'laws.FnExactGoodBox': WHATEVER THE INPUT: true; the input reads as it did. -/
def fnExactGoodBoxSpec : ChangeSpec := { name := "fnExactGoodBox", fn := fun _ => fun
  | [d] => { results := [.lit (.bool true)], args := [d] }
  | _ => none }
def fnExactGoodBoxRow : OpenClaim := { program := "ytaadjpdghikkmaa", sum := "85c1dbcad52734c60ef2bf4e7ff425d3ab24424a6a0cbc7dceaba47ec1bd68d0", func := "loop.example/g00333/laws.FnExactGoodBox", spec := "fnExactGoodBox", unfollowed := true, recurses := true, apart := false }
def FnExactGoodBoxSaid : Prop := fnExactGoodBoxRow.holds Try.pinned (OpenSpec.ofChange fnExactGoodBoxSpec)

/-- ITS FALSE NEIGHBOUR: 'it returns false'. Refute it at one input. -/
def fnExactGoodBoxWrong : ChangeSpec := { name := "fnExactGoodBox", fn := fun _ => fun
  | [d] => { results := [.lit (.bool false)], args := [d] }
  | _ => none }
def FnExactGoodBoxWrongFalsely : Prop := fnExactGoodBoxRow.holds Try.pinned (OpenSpec.ofChange fnExactGoodBoxWrong)

/-- 'laws.FnExactBoxCovers': WHATEVER THE INPUT: true; the input reads as it did. -/
def fnExactBoxCoversSpec : ChangeSpec := { name := "fnExactBoxCovers", fn := fun _ => fun
  | [d1, d2] => { results := [.lit (.bool true)], args := [d1, d2] }
  | _ => none }
def fnExactBoxCoversRow : OpenClaim := { program := "ytaadjpdghikkmaa", sum := "85c1dbcad52734c60ef2bf4e7ff425d3ab24424a6a0cbc7dceaba47ec1bd68d0", func := "loop.example/g00333/laws.FnExactBoxCovers", spec := "fnExactBoxCovers", unfollowed := true, recurses := true, apart := false }
def FnExactBoxCoversSaid : Prop := fnExactBoxCoversRow.holds Try.pinned (OpenSpec.ofChange fnExactBoxCoversSpec)

/-- ITS FALSE NEIGHBOUR: 'it returns false'. Refute it at one input. -/
def fnExactBoxCoversWrong : ChangeSpec := { name := "fnExactBoxCovers", fn := fun _ => fun
  | [d1, d2] => { results := [.lit (.bool false)], args := [d1, d2] }
  | _ => none }
def FnExactBoxCoversWrongFalsely : Prop := fnExactBoxCoversRow.holds Try.pinned (OpenSpec.ofChange fnExactBoxCoversWrong)

/-- 'laws.FnExactBoxHas': WHATEVER THE INPUT: true; the input reads as it did. -/
def fnExactBoxHasSpec : ChangeSpec := { name := "fnExactBoxHas", fn := fun _ => fun
  | [d1, d2] => { results := [.lit (.bool true)], args := [d1, d2] }
  | _ => none }
def fnExactBoxHasRow : OpenClaim := { program := "ytaadjpdghikkmaa", sum := "85c1dbcad52734c60ef2bf4e7ff425d3ab24424a6a0cbc7dceaba47ec1bd68d0", func := "loop.example/g00333/laws.FnExactBoxHas", spec := "fnExactBoxHas", unfollowed := true, recurses := true, apart := false }
def FnExactBoxHasSaid : Prop := fnExactBoxHasRow.holds Try.pinned (OpenSpec.ofChange fnExactBoxHasSpec)

/-- ITS FALSE NEIGHBOUR: 'it returns false'. Refute it at one input. -/
def fnExactBoxHasWrong : ChangeSpec := { name := "fnExactBoxHas", fn := fun _ => fun
  | [d1, d2] => { results := [.lit (.bool false)], args := [d1, d2] }
  | _ => none }
def FnExactBoxHasWrongFalsely : Prop := fnExactBoxHasRow.holds Try.pinned (OpenSpec.ofChange fnExactBoxHasWrong)

/-- 'laws.FnExactComposeNos': WHATEVER THE INPUT: true; the input reads as it did. -/
def fnExactComposeNosSpec : ChangeSpec := { name := "fnExactComposeNos", fn := fun _ => fun
  | [d1, d2] => { results := [.lit (.bool true)], args := [d1, d2] }
  | _ => none }
def fnExactComposeNosRow : OpenClaim := { program := "ytaadjpdghikkmaa", sum := "85c1dbcad52734c60ef2bf4e7ff425d3ab24424a6a0cbc7dceaba47ec1bd68d0", func := "loop.example/g00333/laws.FnExactComposeNos", spec := "fnExactComposeNos", unfollowed := true, recurses := true, apart := false }
def FnExactComposeNosSaid : Prop := fnExactComposeNosRow.holds Try.pinned (OpenSpec.ofChange fnExactComposeNosSpec)

/-- ITS FALSE NEIGHBOUR: 'it returns false'. Refute it at one input. -/
def fnExactComposeNosWrong : ChangeSpec := { name := "fnExactComposeNos", fn := fun _ => fun
  | [d1, d2] => { results := [.lit (.bool false)], args := [d1, d2] }
  | _ => none }
def FnExactComposeNosWrongFalsely : Prop := fnExactComposeNosRow.holds Try.pinned (OpenSpec.ofChange fnExactComposeNosWrong)

/-- 'laws.FnExactGoodProgram': WHATEVER THE INPUT: true; the input reads as it did. -/
def fnExactGoodProgramSpec : ChangeSpec := { name := "fnExactGoodProgram", fn := fun _ => fun
  | [d] => { results := [.lit (.bool true)], args := [d] }
  | _ => none }
def fnExactGoodProgramRow : OpenClaim := { program := "ytaadjpdghikkmaa", sum := "85c1dbcad52734c60ef2bf4e7ff425d3ab24424a6a0cbc7dceaba47ec1bd68d0", func := "loop.example/g00333/laws.FnExactGoodProgram", spec := "fnExactGoodProgram", apart := false }
def FnExactGoodProgramSaid : Prop := fnExactGoodProgramRow.holds Try.pinned (OpenSpec.ofChange fnExactGoodProgramSpec)

/-- ITS FALSE NEIGHBOUR: 'it returns false'. Refute it at one input. -/
def fnExactGoodProgramWrong : ChangeSpec := { name := "fnExactGoodProgram", fn := fun _ => fun
  | [d] => { results := [.lit (.bool false)], args := [d] }
  | _ => none }
def FnExactGoodProgramWrongFalsely : Prop := fnExactGoodProgramRow.holds Try.pinned (OpenSpec.ofChange fnExactGoodProgramWrong)

/-- 'laws.FnExactStepsOf': WHATEVER THE INPUT: true; the input reads as it did. -/
def fnExactStepsOfSpec : ChangeSpec := { name := "fnExactStepsOf", fn := fun _ => fun
  | [d] => { results := [.lit (.bool true)], args := [d] }
  | _ => none }
def fnExactStepsOfRow : OpenClaim := { program := "ytaadjpdghikkmaa", sum := "85c1dbcad52734c60ef2bf4e7ff425d3ab24424a6a0cbc7dceaba47ec1bd68d0", func := "loop.example/g00333/laws.FnExactStepsOf", spec := "fnExactStepsOf", apart := false }
def FnExactStepsOfSaid : Prop := fnExactStepsOfRow.holds Try.pinned (OpenSpec.ofChange fnExactStepsOfSpec)

/-- ITS FALSE NEIGHBOUR: 'it returns false'. Refute it at one input. -/
def fnExactStepsOfWrong : ChangeSpec := { name := "fnExactStepsOf", fn := fun _ => fun
  | [d] => { results := [.lit (.bool false)], args := [d] }
  | _ => none }
def FnExactStepsOfWrongFalsely : Prop := fnExactStepsOfRow.holds Try.pinned (OpenSpec.ofChange fnExactStepsOfWrong)

/-- 'laws.FnExactGoodFilter': WHATEVER THE INPUT: true; the input reads as it did. -/
def fnExactGoodFilterSpec : ChangeSpec := { name := "fnExactGoodFilter", fn := fun _ => fun
  | [d] => { results := [.lit (.bool true)], args := [d] }
  | _ => none }
def fnExactGoodFilterRow : OpenClaim := { program := "ytaadjpdghikkmaa", sum := "85c1dbcad52734c60ef2bf4e7ff425d3ab24424a6a0cbc7dceaba47ec1bd68d0", func := "loop.example/g00333/laws.FnExactGoodFilter", spec := "fnExactGoodFilter", unfollowed := true, recurses := true, apart := false }
def FnExactGoodFilterSaid : Prop := fnExactGoodFilterRow.holds Try.pinned (OpenSpec.ofChange fnExactGoodFilterSpec)

/-- ITS FALSE NEIGHBOUR: 'it returns false'. Refute it at one input. -/
def fnExactGoodFilterWrong : ChangeSpec := { name := "fnExactGoodFilter", fn := fun _ => fun
  | [d] => { results := [.lit (.bool false)], args := [d] }
  | _ => none }
def FnExactGoodFilterWrongFalsely : Prop := fnExactGoodFilterRow.holds Try.pinned (OpenSpec.ofChange fnExactGoodFilterWrong)

/-- 'laws.FnExactDepthOf': WHATEVER THE INPUT: true; the input reads as it did. -/
def fnExactDepthOfSpec : ChangeSpec := { name := "fnExactDepthOf", fn := fun _ => fun
  | [d] => { results := [.lit (.bool true)], args := [d] }
  | _ => none }
def fnExactDepthOfRow : OpenClaim := { program := "ytaadjpdghikkmaa", sum := "85c1dbcad52734c60ef2bf4e7ff425d3ab24424a6a0cbc7dceaba47ec1bd68d0", func := "loop.example/g00333/laws.FnExactDepthOf", spec := "fnExactDepthOf", unfollowed := true, recurses := true, apart := false }
def FnExactDepthOfSaid : Prop := fnExactDepthOfRow.holds Try.pinned (OpenSpec.ofChange fnExactDepthOfSpec)

/-- ITS FALSE NEIGHBOUR: 'it returns false'. Refute it at one input. -/
def fnExactDepthOfWrong : ChangeSpec := { name := "fnExactDepthOf", fn := fun _ => fun
  | [d] => { results := [.lit (.bool false)], args := [d] }
  | _ => none }
def FnExactDepthOfWrongFalsely : Prop := fnExactDepthOfRow.holds Try.pinned (OpenSpec.ofChange fnExactDepthOfWrong)

/-- 'laws.FnExactNotFilter': WHATEVER THE INPUT: true; the input reads as it did. -/
def fnExactNotFilterSpec : ChangeSpec := { name := "fnExactNotFilter", fn := fun _ => fun
  | [d] => { results := [.lit (.bool true)], args := [d] }
  | _ => none }
def fnExactNotFilterRow : OpenClaim := { program := "ytaadjpdghikkmaa", sum := "85c1dbcad52734c60ef2bf4e7ff425d3ab24424a6a0cbc7dceaba47ec1bd68d0", func := "loop.example/g00333/laws.FnExactNotFilter", spec := "fnExactNotFilter", unfollowed := true, recurses := true, apart := false }
def FnExactNotFilterSaid : Prop := fnExactNotFilterRow.holds Try.pinned (OpenSpec.ofChange fnExactNotFilterSpec)

/-- ITS FALSE NEIGHBOUR: 'it returns false'. Refute it at one input. -/
def fnExactNotFilterWrong : ChangeSpec := { name := "fnExactNotFilter", fn := fun _ => fun
  | [d] => { results := [.lit (.bool false)], args := [d] }
  | _ => none }
def FnExactNotFilterWrongFalsely : Prop := fnExactNotFilterRow.holds Try.pinned (OpenSpec.ofChange fnExactNotFilterWrong)

/-- 'laws.FnExactBothFilters': WHATEVER THE INPUT: true; the input reads as it did. -/
def fnExactBothFiltersSpec : ChangeSpec := { name := "fnExactBothFilters", fn := fun _ => fun
  | [d1, d2] => { results := [.lit (.bool true)], args := [d1, d2] }
  | _ => none }
def fnExactBothFiltersRow : OpenClaim := { program := "ytaadjpdghikkmaa", sum := "85c1dbcad52734c60ef2bf4e7ff425d3ab24424a6a0cbc7dceaba47ec1bd68d0", func := "loop.example/g00333/laws.FnExactBothFilters", spec := "fnExactBothFilters", unfollowed := true, recurses := true, apart := false }
def FnExactBothFiltersSaid : Prop := fnExactBothFiltersRow.holds Try.pinned (OpenSpec.ofChange fnExactBothFiltersSpec)

/-- ITS FALSE NEIGHBOUR: 'it returns false'. Refute it at one input. -/
def fnExactBothFiltersWrong : ChangeSpec := { name := "fnExactBothFilters", fn := fun _ => fun
  | [d1, d2] => { results := [.lit (.bool false)], args := [d1, d2] }
  | _ => none }
def FnExactBothFiltersWrongFalsely : Prop := fnExactBothFiltersRow.holds Try.pinned (OpenSpec.ofChange fnExactBothFiltersWrong)

/-- 'laws.FnExactFieldsBytes': WHATEVER THE INPUT: true; the input reads as it did. -/
def fnExactFieldsBytesSpec : ChangeSpec := { name := "fnExactFieldsBytes", fn := fun _ => fun
  | [d] => { results := [.lit (.bool true)], args := [d] }
  | _ => none }
def fnExactFieldsBytesRow : OpenClaim := { program := "ytaadjpdghikkmaa", sum := "85c1dbcad52734c60ef2bf4e7ff425d3ab24424a6a0cbc7dceaba47ec1bd68d0", func := "loop.example/g00333/laws.FnExactFieldsBytes", spec := "fnExactFieldsBytes", unfollowed := true, recurses := true, apart := false }
def FnExactFieldsBytesSaid : Prop := fnExactFieldsBytesRow.holds Try.pinned (OpenSpec.ofChange fnExactFieldsBytesSpec)

/-- ITS FALSE NEIGHBOUR: 'it returns false'. Refute it at one input. -/
def fnExactFieldsBytesWrong : ChangeSpec := { name := "fnExactFieldsBytes", fn := fun _ => fun
  | [d] => { results := [.lit (.bool false)], args := [d] }
  | _ => none }
def FnExactFieldsBytesWrongFalsely : Prop := fnExactFieldsBytesRow.holds Try.pinned (OpenSpec.ofChange fnExactFieldsBytesWrong)

/-- 'laws.FnExactReadFields': WHATEVER THE INPUT: true; the input reads as it did. -/
def fnExactReadFieldsSpec : ChangeSpec := { name := "fnExactReadFields", fn := fun _ => fun
  | [d] => { results := [.lit (.bool true)], args := [d] }
  | _ => none }
def fnExactReadFieldsRow : OpenClaim := { program := "ytaadjpdghikkmaa", sum := "85c1dbcad52734c60ef2bf4e7ff425d3ab24424a6a0cbc7dceaba47ec1bd68d0", func := "loop.example/g00333/laws.FnExactReadFields", spec := "fnExactReadFields", apart := false }
def FnExactReadFieldsSaid : Prop := fnExactReadFieldsRow.holds Try.pinned (OpenSpec.ofChange fnExactReadFieldsSpec)

/-- ITS FALSE NEIGHBOUR: 'it returns false'. Refute it at one input. -/
def fnExactReadFieldsWrong : ChangeSpec := { name := "fnExactReadFields", fn := fun _ => fun
  | [d] => { results := [.lit (.bool false)], args := [d] }
  | _ => none }
def FnExactReadFieldsWrongFalsely : Prop := fnExactReadFieldsRow.holds Try.pinned (OpenSpec.ofChange fnExactReadFieldsWrong)

/- THE SECOND FORM. 'bulk': how many values and letters a reading holds, each counted each time it is reached (what is shared counts as often as it is met; a slice's spare places count too). A statement '..UptoSaid' is the law's where the arguments, and the package variables that the reading takes, are together of bulk at most 1048576: NARROWER than '..Said'. Prove '..Said' where nothing that the law and all that it calls make is longer than what came in: it says more and counts as full. Else prove '..UptoSaid'. A law counts once. -/
mutual
def uptoBulk {H : Type} : DataW H → Nat
  | .lit (.string bytes) => bytes.length + 1
  | .lit _ => 1
  | .nil => 1
  | .ptr d => uptoBulk d + 1
  | .slice elems spare => uptoBulkAll elems + uptoBulkAll spare + 1
  | .agg parts => uptoBulkAll parts + 1
  | .iface _ d => uptoBulk d + 1
  | .map entries => uptoBulkEntries entries + 1
  | .held _ => 1
def uptoBulkAll {H : Type} : List (DataW H) → Nat
  | [] => 0
  | d :: r => uptoBulk d + uptoBulkAll r
def uptoBulkEntries {H : Type} : List (Lit × DataW H) → Nat
  | [] => 0
  | x :: r => uptoBulkEntry x + uptoBulkEntries r
def uptoBulkEntry {H : Type} : Lit × DataW H → Nat
  | (.string bytes, d) => bytes.length + uptoBulk d + 1
  | (_, d) => uptoBulk d + 1
 end
def uptoSmall : (H : Type) → List (DataW H) → Bool := fun _ ds => decide (uptoBulkAll ds ≤ 1048576)
def OpenSpec.upto (s : _root_.Go.ChangeSpec) : _root_.Go.OpenSpec := { _root_.Go.OpenSpec.ofChange s with cond := some uptoSmall }

/-- 'laws.FnExactGoodBox', WHERE WHAT IT READS IS OF BULK AT MOST 1048576: true; the input reads as it did. -/
def fnExactGoodBoxUptoRow : OpenClaim := { program := "ytaadjpdghikkmaa", sum := "85c1dbcad52734c60ef2bf4e7ff425d3ab24424a6a0cbc7dceaba47ec1bd68d0", func := "loop.example/g00333/laws.FnExactGoodBox", spec := "fnExactGoodBox", unfollowed := true, recurses := true, apart := false, narrowed := true }
def FnExactGoodBoxUptoSaid : Prop := fnExactGoodBoxUptoRow.holds Try.pinned (OpenSpec.upto fnExactGoodBoxSpec)

/-- 'laws.FnExactBoxCovers', WHERE WHAT IT READS IS OF BULK AT MOST 1048576: true; the input reads as it did. -/
def fnExactBoxCoversUptoRow : OpenClaim := { program := "ytaadjpdghikkmaa", sum := "85c1dbcad52734c60ef2bf4e7ff425d3ab24424a6a0cbc7dceaba47ec1bd68d0", func := "loop.example/g00333/laws.FnExactBoxCovers", spec := "fnExactBoxCovers", unfollowed := true, recurses := true, apart := false, narrowed := true }
def FnExactBoxCoversUptoSaid : Prop := fnExactBoxCoversUptoRow.holds Try.pinned (OpenSpec.upto fnExactBoxCoversSpec)

/-- 'laws.FnExactBoxHas', WHERE WHAT IT READS IS OF BULK AT MOST 1048576: true; the input reads as it did. -/
def fnExactBoxHasUptoRow : OpenClaim := { program := "ytaadjpdghikkmaa", sum := "85c1dbcad52734c60ef2bf4e7ff425d3ab24424a6a0cbc7dceaba47ec1bd68d0", func := "loop.example/g00333/laws.FnExactBoxHas", spec := "fnExactBoxHas", unfollowed := true, recurses := true, apart := false, narrowed := true }
def FnExactBoxHasUptoSaid : Prop := fnExactBoxHasUptoRow.holds Try.pinned (OpenSpec.upto fnExactBoxHasSpec)

/-- 'laws.FnExactComposeNos', WHERE WHAT IT READS IS OF BULK AT MOST 1048576: true; the input reads as it did. -/
def fnExactComposeNosUptoRow : OpenClaim := { program := "ytaadjpdghikkmaa", sum := "85c1dbcad52734c60ef2bf4e7ff425d3ab24424a6a0cbc7dceaba47ec1bd68d0", func := "loop.example/g00333/laws.FnExactComposeNos", spec := "fnExactComposeNos", unfollowed := true, recurses := true, apart := false, narrowed := true }
def FnExactComposeNosUptoSaid : Prop := fnExactComposeNosUptoRow.holds Try.pinned (OpenSpec.upto fnExactComposeNosSpec)

/-- 'laws.FnExactGoodProgram', WHERE WHAT IT READS IS OF BULK AT MOST 1048576: true; the input reads as it did. -/
def fnExactGoodProgramUptoRow : OpenClaim := { program := "ytaadjpdghikkmaa", sum := "85c1dbcad52734c60ef2bf4e7ff425d3ab24424a6a0cbc7dceaba47ec1bd68d0", func := "loop.example/g00333/laws.FnExactGoodProgram", spec := "fnExactGoodProgram", apart := false, narrowed := true }
def FnExactGoodProgramUptoSaid : Prop := fnExactGoodProgramUptoRow.holds Try.pinned (OpenSpec.upto fnExactGoodProgramSpec)

/-- 'laws.FnExactStepsOf', WHERE WHAT IT READS IS OF BULK AT MOST 1048576: true; the input reads as it did. -/
def fnExactStepsOfUptoRow : OpenClaim := { program := "ytaadjpdghikkmaa", sum := "85c1dbcad52734c60ef2bf4e7ff425d3ab24424a6a0cbc7dceaba47ec1bd68d0", func := "loop.example/g00333/laws.FnExactStepsOf", spec := "fnExactStepsOf", apart := false, narrowed := true }
def FnExactStepsOfUptoSaid : Prop := fnExactStepsOfUptoRow.holds Try.pinned (OpenSpec.upto fnExactStepsOfSpec)

/-- 'laws.FnExactGoodFilter', WHERE WHAT IT READS IS OF BULK AT MOST 1048576: true; the input reads as it did. -/
def fnExactGoodFilterUptoRow : OpenClaim := { program := "ytaadjpdghikkmaa", sum := "85c1dbcad52734c60ef2bf4e7ff425d3ab24424a6a0cbc7dceaba47ec1bd68d0", func := "loop.example/g00333/laws.FnExactGoodFilter", spec := "fnExactGoodFilter", unfollowed := true, recurses := true, apart := false, narrowed := true }
def FnExactGoodFilterUptoSaid : Prop := fnExactGoodFilterUptoRow.holds Try.pinned (OpenSpec.upto fnExactGoodFilterSpec)

/-- 'laws.FnExactDepthOf', WHERE WHAT IT READS IS OF BULK AT MOST 1048576: true; the input reads as it did. -/
def fnExactDepthOfUptoRow : OpenClaim := { program := "ytaadjpdghikkmaa", sum := "85c1dbcad52734c60ef2bf4e7ff425d3ab24424a6a0cbc7dceaba47ec1bd68d0", func := "loop.example/g00333/laws.FnExactDepthOf", spec := "fnExactDepthOf", unfollowed := true, recurses := true, apart := false, narrowed := true }
def FnExactDepthOfUptoSaid : Prop := fnExactDepthOfUptoRow.holds Try.pinned (OpenSpec.upto fnExactDepthOfSpec)

/-- 'laws.FnExactNotFilter', WHERE WHAT IT READS IS OF BULK AT MOST 1048576: true; the input reads as it did. -/
def fnExactNotFilterUptoRow : OpenClaim := { program := "ytaadjpdghikkmaa", sum := "85c1dbcad52734c60ef2bf4e7ff425d3ab24424a6a0cbc7dceaba47ec1bd68d0", func := "loop.example/g00333/laws.FnExactNotFilter", spec := "fnExactNotFilter", unfollowed := true, recurses := true, apart := false, narrowed := true }
def FnExactNotFilterUptoSaid : Prop := fnExactNotFilterUptoRow.holds Try.pinned (OpenSpec.upto fnExactNotFilterSpec)

/-- 'laws.FnExactBothFilters', WHERE WHAT IT READS IS OF BULK AT MOST 1048576: true; the input reads as it did. -/
def fnExactBothFiltersUptoRow : OpenClaim := { program := "ytaadjpdghikkmaa", sum := "85c1dbcad52734c60ef2bf4e7ff425d3ab24424a6a0cbc7dceaba47ec1bd68d0", func := "loop.example/g00333/laws.FnExactBothFilters", spec := "fnExactBothFilters", unfollowed := true, recurses := true, apart := false, narrowed := true }
def FnExactBothFiltersUptoSaid : Prop := fnExactBothFiltersUptoRow.holds Try.pinned (OpenSpec.upto fnExactBothFiltersSpec)

/-- 'laws.FnExactFieldsBytes', WHERE WHAT IT READS IS OF BULK AT MOST 1048576: true; the input reads as it did. -/
def fnExactFieldsBytesUptoRow : OpenClaim := { program := "ytaadjpdghikkmaa", sum := "85c1dbcad52734c60ef2bf4e7ff425d3ab24424a6a0cbc7dceaba47ec1bd68d0", func := "loop.example/g00333/laws.FnExactFieldsBytes", spec := "fnExactFieldsBytes", unfollowed := true, recurses := true, apart := false, narrowed := true }
def FnExactFieldsBytesUptoSaid : Prop := fnExactFieldsBytesUptoRow.holds Try.pinned (OpenSpec.upto fnExactFieldsBytesSpec)

/-- 'laws.FnExactReadFields', WHERE WHAT IT READS IS OF BULK AT MOST 1048576: true; the input reads as it did. -/
def fnExactReadFieldsUptoRow : OpenClaim := { program := "ytaadjpdghikkmaa", sum := "85c1dbcad52734c60ef2bf4e7ff425d3ab24424a6a0cbc7dceaba47ec1bd68d0", func := "loop.example/g00333/laws.FnExactReadFields", spec := "fnExactReadFields", apart := false, narrowed := true }
def FnExactReadFieldsUptoSaid : Prop := fnExactReadFieldsUptoRow.holds Try.pinned (OpenSpec.upto fnExactReadFieldsSpec)

end Rows
end Go.Proofs.Ytaadjpdghikkmaa
