/-
  No cell of these rows narrows 'for every input' (looked for: loops, veiled, ifaces, maps, wideKeys, modest, calm, conditions, laid).
  DERIVED. THE GIVEN ROWS OF THIS SEAT. 11 by the template 'for every input the law returns true; each argument reads behind the call as it read before'; 0 by the template 'total and deterministic' (their statements: YtobahkjbadamhaaTotals.lean).
  GIVEN WITH THE SEED: the statements are not yours to turn. If you find one false, say at which input.
  Laid BY PROGRAM, IN A SANDBOX (cutbox-rows.mjs): the forced cells as the released guide's own fill.sh prints them over the translation 9819209ed1cbd346… (all of the seat's roots in one cut). By AI agents, Wed Nov 11 2026. No macro, syntax, notation, axiom, sorry.
-/
import Derived.Test.YtobahkjbadamhaaChecked
import GoSem.Claim
import GoSem.ClaimJoined
import GoSem.ClaimMapViews
import Derived.JoinedTies
import Derived.KernelRfl
namespace Go.Proofs.Ytobahkjbadamhaa
/- THE CELL 'sum', in the pinned program and in every row, IS THE sha256 OF THE DUMP (.gsa) THAT YtobahkjbadamhaaProg.lean LOADS. Nothing in Lean hashes anything: it is a label: what it is worth is what the hold of that sum in a sandbox is worth. -/
noncomputable def Try.pinned : Pinned := { name := "ytobahkjbadamhaa", sum := "9819209ed1cbd34607dd62466569d85e4f84e22e0d3733bde6f55facd1639d4b", checked := Try.checked }
namespace Rows
def none {H : Type} : Left H := { results := [], args := [] }

/-- 'laws.FnExactSubSchema': WHATEVER THE INPUT: true; the input reads as it did. -/
def fnExactSubSchemaSpec : ChangeSpec := { name := "fnExactSubSchema", fn := fun _ => fun
  | [d1, d2] => { results := [.lit (.bool true)], args := [d1, d2] }
  | _ => none }
def fnExactSubSchemaRow : OpenClaim := { program := "ytobahkjbadamhaa", sum := "9819209ed1cbd34607dd62466569d85e4f84e22e0d3733bde6f55facd1639d4b", func := "loop.example/g00333/laws.FnExactSubSchema", spec := "fnExactSubSchema", unfollowed := true, recurses := true, apart := false }
def FnExactSubSchemaSaid : Prop := fnExactSubSchemaRow.holds Try.pinned (OpenSpec.ofChange fnExactSubSchemaSpec)

/-- ITS FALSE NEIGHBOUR: 'it returns false'. Refute it at one input. -/
def fnExactSubSchemaWrong : ChangeSpec := { name := "fnExactSubSchema", fn := fun _ => fun
  | [d1, d2] => { results := [.lit (.bool false)], args := [d1, d2] }
  | _ => none }
def FnExactSubSchemaWrongFalsely : Prop := fnExactSubSchemaRow.holds Try.pinned (OpenSpec.ofChange fnExactSubSchemaWrong)

/-- 'laws.FnExactJoinOf': WHATEVER THE INPUT: true; the input reads as it did. -/
def fnExactJoinOfSpec : ChangeSpec := { name := "fnExactJoinOf", fn := fun _ => fun
  | [d1, d2] => { results := [.lit (.bool true)], args := [d1, d2] }
  | _ => none }
def fnExactJoinOfRow : OpenClaim := { program := "ytobahkjbadamhaa", sum := "9819209ed1cbd34607dd62466569d85e4f84e22e0d3733bde6f55facd1639d4b", func := "loop.example/g00333/laws.FnExactJoinOf", spec := "fnExactJoinOf", unfollowed := true, recurses := true, apart := false }
def FnExactJoinOfSaid : Prop := fnExactJoinOfRow.holds Try.pinned (OpenSpec.ofChange fnExactJoinOfSpec)

/-- ITS FALSE NEIGHBOUR: 'it returns false'. Refute it at one input. -/
def fnExactJoinOfWrong : ChangeSpec := { name := "fnExactJoinOf", fn := fun _ => fun
  | [d1, d2] => { results := [.lit (.bool false)], args := [d1, d2] }
  | _ => none }
def FnExactJoinOfWrongFalsely : Prop := fnExactJoinOfRow.holds Try.pinned (OpenSpec.ofChange fnExactJoinOfWrong)

/-- 'laws.FnExactDefaultOf': WHATEVER THE INPUT: true; the input reads as it did. -/
def fnExactDefaultOfSpec : ChangeSpec := { name := "fnExactDefaultOf", fn := fun _ => fun
  | [d] => { results := [.lit (.bool true)], args := [d] }
  | _ => none }
def fnExactDefaultOfRow : OpenClaim := { program := "ytobahkjbadamhaa", sum := "9819209ed1cbd34607dd62466569d85e4f84e22e0d3733bde6f55facd1639d4b", func := "loop.example/g00333/laws.FnExactDefaultOf", spec := "fnExactDefaultOf", unfollowed := true, recurses := true, apart := false }
def FnExactDefaultOfSaid : Prop := fnExactDefaultOfRow.holds Try.pinned (OpenSpec.ofChange fnExactDefaultOfSpec)

/-- ITS FALSE NEIGHBOUR: 'it returns false'. Refute it at one input. -/
def fnExactDefaultOfWrong : ChangeSpec := { name := "fnExactDefaultOf", fn := fun _ => fun
  | [d] => { results := [.lit (.bool false)], args := [d] }
  | _ => none }
def FnExactDefaultOfWrongFalsely : Prop := fnExactDefaultOfRow.holds Try.pinned (OpenSpec.ofChange fnExactDefaultOfWrong)

/-- 'laws.FnExactFitsSchema': WHATEVER THE INPUT: true; the input reads as it did. -/
def fnExactFitsSchemaSpec : ChangeSpec := { name := "fnExactFitsSchema", fn := fun _ => fun
  | [d1, d2] => { results := [.lit (.bool true)], args := [d1, d2] }
  | _ => none }
def fnExactFitsSchemaRow : OpenClaim := { program := "ytobahkjbadamhaa", sum := "9819209ed1cbd34607dd62466569d85e4f84e22e0d3733bde6f55facd1639d4b", func := "loop.example/g00333/laws.FnExactFitsSchema", spec := "fnExactFitsSchema", unfollowed := true, recurses := true, apart := false }
def FnExactFitsSchemaSaid : Prop := fnExactFitsSchemaRow.holds Try.pinned (OpenSpec.ofChange fnExactFitsSchemaSpec)

/-- ITS FALSE NEIGHBOUR: 'it returns false'. Refute it at one input. -/
def fnExactFitsSchemaWrong : ChangeSpec := { name := "fnExactFitsSchema", fn := fun _ => fun
  | [d1, d2] => { results := [.lit (.bool false)], args := [d1, d2] }
  | _ => none }
def FnExactFitsSchemaWrongFalsely : Prop := fnExactFitsSchemaRow.holds Try.pinned (OpenSpec.ofChange fnExactFitsSchemaWrong)

/-- 'laws.FnExactNodesIn': WHATEVER THE INPUT: true; the input reads as it did. -/
def fnExactNodesInSpec : ChangeSpec := { name := "fnExactNodesIn", fn := fun _ => fun
  | [d1, d2] => { results := [.lit (.bool true)], args := [d1, d2] }
  | _ => none }
def fnExactNodesInRow : OpenClaim := { program := "ytobahkjbadamhaa", sum := "9819209ed1cbd34607dd62466569d85e4f84e22e0d3733bde6f55facd1639d4b", func := "loop.example/g00333/laws.FnExactNodesIn", spec := "fnExactNodesIn", unfollowed := true, recurses := true, apart := false }
def FnExactNodesInSaid : Prop := fnExactNodesInRow.holds Try.pinned (OpenSpec.ofChange fnExactNodesInSpec)

/-- ITS FALSE NEIGHBOUR: 'it returns false'. Refute it at one input. -/
def fnExactNodesInWrong : ChangeSpec := { name := "fnExactNodesIn", fn := fun _ => fun
  | [d1, d2] => { results := [.lit (.bool false)], args := [d1, d2] }
  | _ => none }
def FnExactNodesInWrongFalsely : Prop := fnExactNodesInRow.holds Try.pinned (OpenSpec.ofChange fnExactNodesInWrong)

/-- 'laws.FnExactIsValid': WHATEVER THE INPUT: true; the input reads as it did. -/
def fnExactIsValidSpec : ChangeSpec := { name := "fnExactIsValid", fn := fun _ => fun
  | [d1, d2] => { results := [.lit (.bool true)], args := [d1, d2] }
  | _ => none }
def fnExactIsValidRow : OpenClaim := { program := "ytobahkjbadamhaa", sum := "9819209ed1cbd34607dd62466569d85e4f84e22e0d3733bde6f55facd1639d4b", func := "loop.example/g00333/laws.FnExactIsValid", spec := "fnExactIsValid", unfollowed := true, recurses := true, apart := false }
def FnExactIsValidSaid : Prop := fnExactIsValidRow.holds Try.pinned (OpenSpec.ofChange fnExactIsValidSpec)

/-- ITS FALSE NEIGHBOUR: 'it returns false'. Refute it at one input. -/
def fnExactIsValidWrong : ChangeSpec := { name := "fnExactIsValid", fn := fun _ => fun
  | [d1, d2] => { results := [.lit (.bool false)], args := [d1, d2] }
  | _ => none }
def FnExactIsValidWrongFalsely : Prop := fnExactIsValidRow.holds Try.pinned (OpenSpec.ofChange fnExactIsValidWrong)

/-- 'laws.FnExactEncodeValue': WHATEVER THE INPUT: true; the input reads as it did. -/
def fnExactEncodeValueSpec : ChangeSpec := { name := "fnExactEncodeValue", fn := fun _ => fun
  | [d1, d2] => { results := [.lit (.bool true)], args := [d1, d2] }
  | _ => none }
def fnExactEncodeValueRow : OpenClaim := { program := "ytobahkjbadamhaa", sum := "9819209ed1cbd34607dd62466569d85e4f84e22e0d3733bde6f55facd1639d4b", func := "loop.example/g00333/laws.FnExactEncodeValue", spec := "fnExactEncodeValue", unfollowed := true, recurses := true, apart := false }
def FnExactEncodeValueSaid : Prop := fnExactEncodeValueRow.holds Try.pinned (OpenSpec.ofChange fnExactEncodeValueSpec)

/-- ITS FALSE NEIGHBOUR: 'it returns false'. Refute it at one input. -/
def fnExactEncodeValueWrong : ChangeSpec := { name := "fnExactEncodeValue", fn := fun _ => fun
  | [d1, d2] => { results := [.lit (.bool false)], args := [d1, d2] }
  | _ => none }
def FnExactEncodeValueWrongFalsely : Prop := fnExactEncodeValueRow.holds Try.pinned (OpenSpec.ofChange fnExactEncodeValueWrong)

/-- 'laws.FnExactGetPart': WHATEVER THE INPUT: true; the input reads as it did. -/
def fnExactGetPartSpec : ChangeSpec := { name := "fnExactGetPart", fn := fun _ => fun
  | [d1, d2, d3] => { results := [.lit (.bool true)], args := [d1, d2, d3] }
  | _ => none }
def fnExactGetPartRow : OpenClaim := { program := "ytobahkjbadamhaa", sum := "9819209ed1cbd34607dd62466569d85e4f84e22e0d3733bde6f55facd1639d4b", func := "loop.example/g00333/laws.FnExactGetPart", spec := "fnExactGetPart", unfollowed := true, recurses := true, apart := false }
def FnExactGetPartSaid : Prop := fnExactGetPartRow.holds Try.pinned (OpenSpec.ofChange fnExactGetPartSpec)

/-- ITS FALSE NEIGHBOUR: 'it returns false'. Refute it at one input. -/
def fnExactGetPartWrong : ChangeSpec := { name := "fnExactGetPart", fn := fun _ => fun
  | [d1, d2, d3] => { results := [.lit (.bool false)], args := [d1, d2, d3] }
  | _ => none }
def FnExactGetPartWrongFalsely : Prop := fnExactGetPartRow.holds Try.pinned (OpenSpec.ofChange fnExactGetPartWrong)

/-- 'laws.FnExactDecodeValue': WHATEVER THE INPUT: true; the input reads as it did. -/
def fnExactDecodeValueSpec : ChangeSpec := { name := "fnExactDecodeValue", fn := fun _ => fun
  | [d1, d2] => { results := [.lit (.bool true)], args := [d1, d2] }
  | _ => none }
def fnExactDecodeValueRow : OpenClaim := { program := "ytobahkjbadamhaa", sum := "9819209ed1cbd34607dd62466569d85e4f84e22e0d3733bde6f55facd1639d4b", func := "loop.example/g00333/laws.FnExactDecodeValue", spec := "fnExactDecodeValue", unfollowed := true, recurses := true, apart := false }
def FnExactDecodeValueSaid : Prop := fnExactDecodeValueRow.holds Try.pinned (OpenSpec.ofChange fnExactDecodeValueSpec)

/-- ITS FALSE NEIGHBOUR: 'it returns false'. Refute it at one input. -/
def fnExactDecodeValueWrong : ChangeSpec := { name := "fnExactDecodeValue", fn := fun _ => fun
  | [d1, d2] => { results := [.lit (.bool false)], args := [d1, d2] }
  | _ => none }
def FnExactDecodeValueWrongFalsely : Prop := fnExactDecodeValueRow.holds Try.pinned (OpenSpec.ofChange fnExactDecodeValueWrong)

/-- 'laws.FnExactDownTo': WHATEVER THE INPUT: true; the input reads as it did. -/
def fnExactDownToSpec : ChangeSpec := { name := "fnExactDownTo", fn := fun _ => fun
  | [d1, d2] => { results := [.lit (.bool true)], args := [d1, d2] }
  | _ => none }
def fnExactDownToRow : OpenClaim := { program := "ytobahkjbadamhaa", sum := "9819209ed1cbd34607dd62466569d85e4f84e22e0d3733bde6f55facd1639d4b", func := "loop.example/g00333/laws.FnExactDownTo", spec := "fnExactDownTo", unfollowed := true, recurses := true, apart := false }
def FnExactDownToSaid : Prop := fnExactDownToRow.holds Try.pinned (OpenSpec.ofChange fnExactDownToSpec)

/-- ITS FALSE NEIGHBOUR: 'it returns false'. Refute it at one input. -/
def fnExactDownToWrong : ChangeSpec := { name := "fnExactDownTo", fn := fun _ => fun
  | [d1, d2] => { results := [.lit (.bool false)], args := [d1, d2] }
  | _ => none }
def FnExactDownToWrongFalsely : Prop := fnExactDownToRow.holds Try.pinned (OpenSpec.ofChange fnExactDownToWrong)

/-- 'laws.FnExactDropsOf': WHATEVER THE INPUT: true; the input reads as it did. -/
def fnExactDropsOfSpec : ChangeSpec := { name := "fnExactDropsOf", fn := fun _ => fun
  | [d1, d2] => { results := [.lit (.bool true)], args := [d1, d2] }
  | _ => none }
def fnExactDropsOfRow : OpenClaim := { program := "ytobahkjbadamhaa", sum := "9819209ed1cbd34607dd62466569d85e4f84e22e0d3733bde6f55facd1639d4b", func := "loop.example/g00333/laws.FnExactDropsOf", spec := "fnExactDropsOf", unfollowed := true, recurses := true, apart := false }
def FnExactDropsOfSaid : Prop := fnExactDropsOfRow.holds Try.pinned (OpenSpec.ofChange fnExactDropsOfSpec)

/-- ITS FALSE NEIGHBOUR: 'it returns false'. Refute it at one input. -/
def fnExactDropsOfWrong : ChangeSpec := { name := "fnExactDropsOf", fn := fun _ => fun
  | [d1, d2] => { results := [.lit (.bool false)], args := [d1, d2] }
  | _ => none }
def FnExactDropsOfWrongFalsely : Prop := fnExactDropsOfRow.holds Try.pinned (OpenSpec.ofChange fnExactDropsOfWrong)

/- THE SECOND FORM. 'bulk': how many values and letters a reading holds, each counted each time it is reached (what is shared counts as often as it is met; a slice's spare places count too). A statement '..UptoSaid' is the law's where the arguments, and the package variables that the reading takes, are together of bulk at most 1048576: NARROWER than '..Said'. Prove '..Said' where nothing that the law and all that it calls make is longer than what came in: it says more and counts as full. Else prove '..UptoSaid'. A law counts once. -/
mutual
def uptoBulk {H : Type} : DataW H → Nat
  | .lit (.string bytes) => bytes.length + 1
  | .lit _ => 1
  | .nil => 1
  | .ptr d => uptoBulk d + 1
  | .slice elems spare => uptoBulkAll elems + uptoBulkAll spare + 1
  | .agg parts => uptoBulkAll parts + 1
  | .iface _ d => uptoBulk d + 1
  | .map entries => uptoBulkEntries entries + 1
  | .held _ => 1
def uptoBulkAll {H : Type} : List (DataW H) → Nat
  | [] => 0
  | d :: r => uptoBulk d + uptoBulkAll r
def uptoBulkEntries {H : Type} : List (Lit × DataW H) → Nat
  | [] => 0
  | x :: r => uptoBulkEntry x + uptoBulkEntries r
def uptoBulkEntry {H : Type} : Lit × DataW H → Nat
  | (.string bytes, d) => bytes.length + uptoBulk d + 1
  | (_, d) => uptoBulk d + 1
 end
def uptoSmall : (H : Type) → List (DataW H) → Bool := fun _ ds => decide (uptoBulkAll ds ≤ 1048576)
def OpenSpec.upto (s : _root_.Go.ChangeSpec) : _root_.Go.OpenSpec := { _root_.Go.OpenSpec.ofChange s with cond := some uptoSmall }

/-- 'laws.FnExactSubSchema', WHERE WHAT IT READS IS OF BULK AT MOST 1048576: true; the input reads as it did. -/
def fnExactSubSchemaUptoRow : OpenClaim := { program := "ytobahkjbadamhaa", sum := "9819209ed1cbd34607dd62466569d85e4f84e22e0d3733bde6f55facd1639d4b", func := "loop.example/g00333/laws.FnExactSubSchema", spec := "fnExactSubSchema", unfollowed := true, recurses := true, apart := false, narrowed := true }
def FnExactSubSchemaUptoSaid : Prop := fnExactSubSchemaUptoRow.holds Try.pinned (OpenSpec.upto fnExactSubSchemaSpec)

/-- 'laws.FnExactJoinOf', WHERE WHAT IT READS IS OF BULK AT MOST 1048576: true; the input reads as it did. -/
def fnExactJoinOfUptoRow : OpenClaim := { program := "ytobahkjbadamhaa", sum := "9819209ed1cbd34607dd62466569d85e4f84e22e0d3733bde6f55facd1639d4b", func := "loop.example/g00333/laws.FnExactJoinOf", spec := "fnExactJoinOf", unfollowed := true, recurses := true, apart := false, narrowed := true }
def FnExactJoinOfUptoSaid : Prop := fnExactJoinOfUptoRow.holds Try.pinned (OpenSpec.upto fnExactJoinOfSpec)

/-- 'laws.FnExactDefaultOf', WHERE WHAT IT READS IS OF BULK AT MOST 1048576: true; the input reads as it did. -/
def fnExactDefaultOfUptoRow : OpenClaim := { program := "ytobahkjbadamhaa", sum := "9819209ed1cbd34607dd62466569d85e4f84e22e0d3733bde6f55facd1639d4b", func := "loop.example/g00333/laws.FnExactDefaultOf", spec := "fnExactDefaultOf", unfollowed := true, recurses := true, apart := false, narrowed := true }
def FnExactDefaultOfUptoSaid : Prop := fnExactDefaultOfUptoRow.holds Try.pinned (OpenSpec.upto fnExactDefaultOfSpec)

/-- 'laws.FnExactFitsSchema', WHERE WHAT IT READS IS OF BULK AT MOST 1048576: true; the input reads as it did. -/
def fnExactFitsSchemaUptoRow : OpenClaim := { program := "ytobahkjbadamhaa", sum := "9819209ed1cbd34607dd62466569d85e4f84e22e0d3733bde6f55facd1639d4b", func := "loop.example/g00333/laws.FnExactFitsSchema", spec := "fnExactFitsSchema", unfollowed := true, recurses := true, apart := false, narrowed := true }
def FnExactFitsSchemaUptoSaid : Prop := fnExactFitsSchemaUptoRow.holds Try.pinned (OpenSpec.upto fnExactFitsSchemaSpec)

/-- 'laws.FnExactNodesIn', WHERE WHAT IT READS IS OF BULK AT MOST 1048576: true; the input reads as it did. -/
def fnExactNodesInUptoRow : OpenClaim := { program := "ytobahkjbadamhaa", sum := "9819209ed1cbd34607dd62466569d85e4f84e22e0d3733bde6f55facd1639d4b", func := "loop.example/g00333/laws.FnExactNodesIn", spec := "fnExactNodesIn", unfollowed := true, recurses := true, apart := false, narrowed := true }
def FnExactNodesInUptoSaid : Prop := fnExactNodesInUptoRow.holds Try.pinned (OpenSpec.upto fnExactNodesInSpec)

/-- 'laws.FnExactIsValid', WHERE WHAT IT READS IS OF BULK AT MOST 1048576: true; the input reads as it did. -/
def fnExactIsValidUptoRow : OpenClaim := { program := "ytobahkjbadamhaa", sum := "9819209ed1cbd34607dd62466569d85e4f84e22e0d3733bde6f55facd1639d4b", func := "loop.example/g00333/laws.FnExactIsValid", spec := "fnExactIsValid", unfollowed := true, recurses := true, apart := false, narrowed := true }
def FnExactIsValidUptoSaid : Prop := fnExactIsValidUptoRow.holds Try.pinned (OpenSpec.upto fnExactIsValidSpec)

/-- 'laws.FnExactEncodeValue', WHERE WHAT IT READS IS OF BULK AT MOST 1048576: true; the input reads as it did. -/
def fnExactEncodeValueUptoRow : OpenClaim := { program := "ytobahkjbadamhaa", sum := "9819209ed1cbd34607dd62466569d85e4f84e22e0d3733bde6f55facd1639d4b", func := "loop.example/g00333/laws.FnExactEncodeValue", spec := "fnExactEncodeValue", unfollowed := true, recurses := true, apart := false, narrowed := true }
def FnExactEncodeValueUptoSaid : Prop := fnExactEncodeValueUptoRow.holds Try.pinned (OpenSpec.upto fnExactEncodeValueSpec)

/-- 'laws.FnExactGetPart', WHERE WHAT IT READS IS OF BULK AT MOST 1048576: true; the input reads as it did. -/
def fnExactGetPartUptoRow : OpenClaim := { program := "ytobahkjbadamhaa", sum := "9819209ed1cbd34607dd62466569d85e4f84e22e0d3733bde6f55facd1639d4b", func := "loop.example/g00333/laws.FnExactGetPart", spec := "fnExactGetPart", unfollowed := true, recurses := true, apart := false, narrowed := true }
def FnExactGetPartUptoSaid : Prop := fnExactGetPartUptoRow.holds Try.pinned (OpenSpec.upto fnExactGetPartSpec)

/-- 'laws.FnExactDecodeValue', WHERE WHAT IT READS IS OF BULK AT MOST 1048576: true; the input reads as it did. -/
def fnExactDecodeValueUptoRow : OpenClaim := { program := "ytobahkjbadamhaa", sum := "9819209ed1cbd34607dd62466569d85e4f84e22e0d3733bde6f55facd1639d4b", func := "loop.example/g00333/laws.FnExactDecodeValue", spec := "fnExactDecodeValue", unfollowed := true, recurses := true, apart := false, narrowed := true }
def FnExactDecodeValueUptoSaid : Prop := fnExactDecodeValueUptoRow.holds Try.pinned (OpenSpec.upto fnExactDecodeValueSpec)

/-- 'laws.FnExactDownTo', WHERE WHAT IT READS IS OF BULK AT MOST 1048576: true; the input reads as it did. -/
def fnExactDownToUptoRow : OpenClaim := { program := "ytobahkjbadamhaa", sum := "9819209ed1cbd34607dd62466569d85e4f84e22e0d3733bde6f55facd1639d4b", func := "loop.example/g00333/laws.FnExactDownTo", spec := "fnExactDownTo", unfollowed := true, recurses := true, apart := false, narrowed := true }
def FnExactDownToUptoSaid : Prop := fnExactDownToUptoRow.holds Try.pinned (OpenSpec.upto fnExactDownToSpec)

/-- 'laws.FnExactDropsOf', WHERE WHAT IT READS IS OF BULK AT MOST 1048576: true; the input reads as it did. -/
def fnExactDropsOfUptoRow : OpenClaim := { program := "ytobahkjbadamhaa", sum := "9819209ed1cbd34607dd62466569d85e4f84e22e0d3733bde6f55facd1639d4b", func := "loop.example/g00333/laws.FnExactDropsOf", spec := "fnExactDropsOf", unfollowed := true, recurses := true, apart := false, narrowed := true }
def FnExactDropsOfUptoSaid : Prop := fnExactDropsOfUptoRow.holds Try.pinned (OpenSpec.upto fnExactDropsOfSpec)

end Rows
end Go.Proofs.Ytobahkjbadamhaa
