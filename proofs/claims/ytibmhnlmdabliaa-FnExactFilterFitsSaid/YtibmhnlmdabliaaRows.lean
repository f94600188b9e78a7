/-
  No cell of these rows narrows 'for every input' (looked for: loops, veiled, ifaces, maps, wideKeys, modest, calm, conditions, laid).
  DERIVED. THE GIVEN ROWS OF THIS SEAT. 12 by the template 'for every input the law returns true; each argument reads behind the call as it read before'; 0 by the template 'total and deterministic' (their statements: YtibmhnlmdabliaaTotals.lean).
  GIVEN WITH THE SEED: the statements are not yours to turn. If you find one false, say at which input.
  Laid BY PROGRAM, IN A SANDBOX (cutbox-rows.mjs): the forced cells as the released guide's own fill.sh prints them over the translation 94254b029a715cfa… (all of the seat's roots in one cut). By AI agents, Wed Nov 11 2026. No macro, syntax, notation, axiom, sorry.
-/
import Derived.Test.YtibmhnlmdabliaaChecked
import GoSem.Claim
import GoSem.ClaimJoined
import GoSem.ClaimMapViews
import Derived.JoinedTies
import Derived.KernelRfl
namespace Go.Proofs.Ytibmhnlmdabliaa
/- THE CELL 'sum', in the pinned program and in every row, IS THE sha256 OF THE DUMP (.gsa) THAT YtibmhnlmdabliaaProg.lean LOADS. Nothing in Lean hashes anything: it is a label: what it is worth is what the hold of that sum in a sandbox is worth. -/
noncomputable def Try.pinned : Pinned := { name := "ytibmhnlmdabliaa", sum := "94254b029a715cfa949af8f14c0c70157aaeae60d80619f8e647d7e6037b43a0", checked := Try.checked }
namespace Rows
def none {H : Type} : Left H := { results := [], args := [] }

/-- 'laws.FnExactBothFilters': WHATEVER THE INPUT: true; the input reads as it did. -/
def fnExactBothFiltersSpec : ChangeSpec := { name := "fnExactBothFilters", fn := fun _ => fun
  | [d1, d2] => { results := [.lit (.bool true)], args := [d1, d2] }
  | _ => none }
def fnExactBothFiltersRow : OpenClaim := { program := "ytibmhnlmdabliaa", sum := "94254b029a715cfa949af8f14c0c70157aaeae60d80619f8e647d7e6037b43a0", func := "loop.example/g00333/laws.FnExactBothFilters", spec := "fnExactBothFilters", unfollowed := true, recurses := true, apart := false }
def FnExactBothFiltersSaid : Prop := fnExactBothFiltersRow.holds Try.pinned (OpenSpec.ofChange fnExactBothFiltersSpec)

/-- ITS FALSE NEIGHBOUR: 'it returns false'. Refute it at one input. -/
def fnExactBothFiltersWrong : ChangeSpec := { name := "fnExactBothFilters", fn := fun _ => fun
  | [d1, d2] => { results := [.lit (.bool false)], args := [d1, d2] }
  | _ => none }
def FnExactBothFiltersWrongFalsely : Prop := fnExactBothFiltersRow.holds Try.pinned (OpenSpec.ofChange fnExactBothFiltersWrong)

/-- 'laws.FnExactCompileFilter': WHATEVER THE INPUT: true; the input reads as it did. -/
def fnExactCompileFilterSpec : ChangeSpec := { name := "fnExactCompileFilter", fn := fun _ => fun
  | [d] => { results := [.lit (.bool true)], args := [d] }
  | _ => none }
def fnExactCompileFilterRow : OpenClaim := { program := "ytibmhnlmdabliaa", sum := "94254b029a715cfa949af8f14c0c70157aaeae60d80619f8e647d7e6037b43a0", func := "loop.example/g00333/laws.FnExactCompileFilter", spec := "fnExactCompileFilter", unfollowed := true, recurses := true, apart := false }
def FnExactCompileFilterSaid : Prop := fnExactCompileFilterRow.holds Try.pinned (OpenSpec.ofChange fnExactCompileFilterSpec)

/-- ITS FALSE NEIGHBOUR: 'it returns false'. Refute it at one input. -/
def fnExactCompileFilterWrong : ChangeSpec := { name := "fnExactCompileFilter", fn := fun _ => fun
  | [d] => { results := [.lit (.bool false)], args := [d] }
  | _ => none }
def FnExactCompileFilterWrongFalsely : Prop := fnExactCompileFilterRow.holds Try.pinned (OpenSpec.ofChange fnExactCompileFilterWrong)

/-- 'laws.FnExactPeepholeOf': WHATEVER THE INPUT: true; the input reads as it did. -/
def fnExactPeepholeOfSpec : ChangeSpec := { name := "fnExactPeepholeOf", fn := fun _ => fun
  | [d] => { results := [.lit (.bool true)], args := [d] }
  | _ => none }
def fnExactPeepholeOfRow : OpenClaim := { program := "ytibmhnlmdabliaa", sum := "94254b029a715cfa949af8f14c0c70157aaeae60d80619f8e647d7e6037b43a0", func := "loop.example/g00333/laws.FnExactPeepholeOf", spec := "fnExactPeepholeOf", unfollowed := true, recurses := true, apart := false }
def FnExactPeepholeOfSaid : Prop := fnExactPeepholeOfRow.holds Try.pinned (OpenSpec.ofChange fnExactPeepholeOfSpec)

/-- ITS FALSE NEIGHBOUR: 'it returns false'. Refute it at one input. -/
def fnExactPeepholeOfWrong : ChangeSpec := { name := "fnExactPeepholeOf", fn := fun _ => fun
  | [d] => { results := [.lit (.bool false)], args := [d] }
  | _ => none }
def FnExactPeepholeOfWrongFalsely : Prop := fnExactPeepholeOfRow.holds Try.pinned (OpenSpec.ofChange fnExactPeepholeOfWrong)

/-- 'laws.FnExactSortFields': WHATEVER THE INPUT: true; the input reads as it did. -/
def fnExactSortFieldsSpec : ChangeSpec := { name := "fnExactSortFields", fn := fun _ => fun
  | [d] => { results := [.lit (.bool true)], args := [d] }
  | _ => none }
def fnExactSortFieldsRow : OpenClaim := { program := "ytibmhnlmdabliaa", sum := "94254b029a715cfa949af8f14c0c70157aaeae60d80619f8e647d7e6037b43a0", func := "loop.example/g00333/laws.FnExactSortFields", spec := "fnExactSortFields", unfollowed := true, recurses := true, apart := false }
def FnExactSortFieldsSaid : Prop := fnExactSortFieldsRow.holds Try.pinned (OpenSpec.ofChange fnExactSortFieldsSpec)

/-- ITS FALSE NEIGHBOUR: 'it returns false'. Refute it at one input. -/
def fnExactSortFieldsWrong : ChangeSpec := { name := "fnExactSortFields", fn := fun _ => fun
  | [d] => { results := [.lit (.bool false)], args := [d] }
  | _ => none }
def FnExactSortFieldsWrongFalsely : Prop := fnExactSortFieldsRow.holds Try.pinned (OpenSpec.ofChange fnExactSortFieldsWrong)

/-- 'laws.FnExactGoodSchema': WHATEVER THE INPUT: true; the input reads as it did. -/
def fnExactGoodSchemaSpec : ChangeSpec := { name := "fnExactGoodSchema", fn := fun _ => fun
  | [d] => { results := [.lit (.bool true)], args := [d] }
  | _ => none }
def fnExactGoodSchemaRow : OpenClaim := { program := "ytibmhnlmdabliaa", sum := "94254b029a715cfa949af8f14c0c70157aaeae60d80619f8e647d7e6037b43a0", func := "loop.example/g00333/laws.FnExactGoodSchema", spec := "fnExactGoodSchema", unfollowed := true, recurses := true, apart := false }
def FnExactGoodSchemaSaid : Prop := fnExactGoodSchemaRow.holds Try.pinned (OpenSpec.ofChange fnExactGoodSchemaSpec)

/-- ITS FALSE NEIGHBOUR: 'it returns false'. Refute it at one input. -/
def fnExactGoodSchemaWrong : ChangeSpec := { name := "fnExactGoodSchema", fn := fun _ => fun
  | [d] => { results := [.lit (.bool false)], args := [d] }
  | _ => none }
def FnExactGoodSchemaWrongFalsely : Prop := fnExactGoodSchemaRow.holds Try.pinned (OpenSpec.ofChange fnExactGoodSchemaWrong)

/-- 'laws.FnExactDeepOf': WHATEVER THE INPUT: true; the input reads as it did. -/
def fnExactDeepOfSpec : ChangeSpec := { name := "fnExactDeepOf", fn := fun _ => fun
  | [d] => { results := [.lit (.bool true)], args := [d] }
  | _ => none }
def fnExactDeepOfRow : OpenClaim := { program := "ytibmhnlmdabliaa", sum := "94254b029a715cfa949af8f14c0c70157aaeae60d80619f8e647d7e6037b43a0", func := "loop.example/g00333/laws.FnExactDeepOf", spec := "fnExactDeepOf", unfollowed := true, recurses := true, apart := false }
def FnExactDeepOfSaid : Prop := fnExactDeepOfRow.holds Try.pinned (OpenSpec.ofChange fnExactDeepOfSpec)

/-- ITS FALSE NEIGHBOUR: 'it returns false'. Refute it at one input. -/
def fnExactDeepOfWrong : ChangeSpec := { name := "fnExactDeepOf", fn := fun _ => fun
  | [d] => { results := [.lit (.bool false)], args := [d] }
  | _ => none }
def FnExactDeepOfWrongFalsely : Prop := fnExactDeepOfRow.holds Try.pinned (OpenSpec.ofChange fnExactDeepOfWrong)

/-- 'laws.FnExactPathOf': WHATEVER THE INPUT: true; the input reads as it did. -/
def fnExactPathOfSpec : ChangeSpec := { name := "fnExactPathOf", fn := fun _ => fun
  | [d1, d2] => { results := [.lit (.bool true)], args := [d1, d2] }
  | _ => none }
def fnExactPathOfRow : OpenClaim := { program := "ytibmhnlmdabliaa", sum := "94254b029a715cfa949af8f14c0c70157aaeae60d80619f8e647d7e6037b43a0", func := "loop.example/g00333/laws.FnExactPathOf", spec := "fnExactPathOf", unfollowed := true, recurses := true, apart := false }
def FnExactPathOfSaid : Prop := fnExactPathOfRow.holds Try.pinned (OpenSpec.ofChange fnExactPathOfSpec)

/-- ITS FALSE NEIGHBOUR: 'it returns false'. Refute it at one input. -/
def fnExactPathOfWrong : ChangeSpec := { name := "fnExactPathOf", fn := fun _ => fun
  | [d1, d2] => { results := [.lit (.bool false)], args := [d1, d2] }
  | _ => none }
def FnExactPathOfWrongFalsely : Prop := fnExactPathOfRow.holds Try.pinned (OpenSpec.ofChange fnExactPathOfWrong)

/-- 'laws.FnExactTypeAt': WHATEVER THE INPUT: true; the input reads as it did. -/
def fnExactTypeAtSpec : ChangeSpec := { name := "fnExactTypeAt", fn := fun _ => fun
  | [d1, d2] => { results := [.lit (.bool true)], args := [d1, d2] }
  | _ => none }
def fnExactTypeAtRow : OpenClaim := { program := "ytibmhnlmdabliaa", sum := "94254b029a715cfa949af8f14c0c70157aaeae60d80619f8e647d7e6037b43a0", func := "loop.example/g00333/laws.FnExactTypeAt", spec := "fnExactTypeAt", unfollowed := true, recurses := true, apart := false }
def FnExactTypeAtSaid : Prop := fnExactTypeAtRow.holds Try.pinned (OpenSpec.ofChange fnExactTypeAtSpec)

/-- ITS FALSE NEIGHBOUR: 'it returns false'. Refute it at one input. -/
def fnExactTypeAtWrong : ChangeSpec := { name := "fnExactTypeAt", fn := fun _ => fun
  | [d1, d2] => { results := [.lit (.bool false)], args := [d1, d2] }
  | _ => none }
def FnExactTypeAtWrongFalsely : Prop := fnExactTypeAtRow.holds Try.pinned (OpenSpec.ofChange fnExactTypeAtWrong)

/-- 'laws.FnExactIsSubtype': WHATEVER THE INPUT: true; the input reads as it did. -/
def fnExactIsSubtypeSpec : ChangeSpec := { name := "fnExactIsSubtype", fn := fun _ => fun
  | [d1, d2] => { results := [.lit (.bool true)], args := [d1, d2] }
  | _ => none }
def fnExactIsSubtypeRow : OpenClaim := { program := "ytibmhnlmdabliaa", sum := "94254b029a715cfa949af8f14c0c70157aaeae60d80619f8e647d7e6037b43a0", func := "loop.example/g00333/laws.FnExactIsSubtype", spec := "fnExactIsSubtype", unfollowed := true, recurses := true, apart := false }
def FnExactIsSubtypeSaid : Prop := fnExactIsSubtypeRow.holds Try.pinned (OpenSpec.ofChange fnExactIsSubtypeSpec)

/-- ITS FALSE NEIGHBOUR: 'it returns false'. Refute it at one input. -/
def fnExactIsSubtypeWrong : ChangeSpec := { name := "fnExactIsSubtype", fn := fun _ => fun
  | [d1, d2] => { results := [.lit (.bool false)], args := [d1, d2] }
  | _ => none }
def FnExactIsSubtypeWrongFalsely : Prop := fnExactIsSubtypeRow.holds Try.pinned (OpenSpec.ofChange fnExactIsSubtypeWrong)

/-- 'laws.FnExactCanRead': WHATEVER THE INPUT: true; the input reads as it did. -/
def fnExactCanReadSpec : ChangeSpec := { name := "fnExactCanRead", fn := fun _ => fun
  | [d1, d2] => { results := [.lit (.bool true)], args := [d1, d2] }
  | _ => none }
def fnExactCanReadRow : OpenClaim := { program := "ytibmhnlmdabliaa", sum := "94254b029a715cfa949af8f14c0c70157aaeae60d80619f8e647d7e6037b43a0", func := "loop.example/g00333/laws.FnExactCanRead", spec := "fnExactCanRead", unfollowed := true, recurses := true, apart := false }
def FnExactCanReadSaid : Prop := fnExactCanReadRow.holds Try.pinned (OpenSpec.ofChange fnExactCanReadSpec)

/-- ITS FALSE NEIGHBOUR: 'it returns false'. Refute it at one input. -/
def fnExactCanReadWrong : ChangeSpec := { name := "fnExactCanRead", fn := fun _ => fun
  | [d1, d2] => { results := [.lit (.bool false)], args := [d1, d2] }
  | _ => none }
def FnExactCanReadWrongFalsely : Prop := fnExactCanReadRow.holds Try.pinned (OpenSpec.ofChange fnExactCanReadWrong)

/-- 'laws.FnExactFieldsOf': WHATEVER THE INPUT: true; the input reads as it did. -/
def fnExactFieldsOfSpec : ChangeSpec := { name := "fnExactFieldsOf", fn := fun _ => fun
  | [d1, d2] => { results := [.lit (.bool true)], args := [d1, d2] }
  | _ => none }
def fnExactFieldsOfRow : OpenClaim := { program := "ytibmhnlmdabliaa", sum := "94254b029a715cfa949af8f14c0c70157aaeae60d80619f8e647d7e6037b43a0", func := "loop.example/g00333/laws.FnExactFieldsOf", spec := "fnExactFieldsOf", unfollowed := true, recurses := true, apart := false }
def FnExactFieldsOfSaid : Prop := fnExactFieldsOfRow.holds Try.pinned (OpenSpec.ofChange fnExactFieldsOfSpec)

/-- ITS FALSE NEIGHBOUR: 'it returns false'. Refute it at one input. -/
def fnExactFieldsOfWrong : ChangeSpec := { name := "fnExactFieldsOf", fn := fun _ => fun
  | [d1, d2] => { results := [.lit (.bool false)], args := [d1, d2] }
  | _ => none }
def FnExactFieldsOfWrongFalsely : Prop := fnExactFieldsOfRow.holds Try.pinned (OpenSpec.ofChange fnExactFieldsOfWrong)

/-- 'laws.FnExactFilterFits': WHATEVER THE INPUT: true; the input reads as it did. -/
def fnExactFilterFitsSpec : ChangeSpec := { name := "fnExactFilterFits", fn := fun _ => fun
  | [d1, d2] => { results := [.lit (.bool true)], args := [d1, d2] }
  | _ => none }
def fnExactFilterFitsRow : OpenClaim := { program := "ytibmhnlmdabliaa", sum := "94254b029a715cfa949af8f14c0c70157aaeae60d80619f8e647d7e6037b43a0", func := "loop.example/g00333/laws.FnExactFilterFits", spec := "fnExactFilterFits", unfollowed := true, recurses := true, apart := false }
def FnExactFilterFitsSaid : Prop := fnExactFilterFitsRow.holds Try.pinned (OpenSpec.ofChange fnExactFilterFitsSpec)

/-- ITS FALSE NEIGHBOUR: 'it returns false'. Refute it at one input. -/
def fnExactFilterFitsWrong : ChangeSpec := { name := "fnExactFilterFits", fn := fun _ => fun
  | [d1, d2] => { results := [.lit (.bool false)], args := [d1, d2] }
  | _ => none }
def FnExactFilterFitsWrongFalsely : Prop := fnExactFilterFitsRow.holds Try.pinned (OpenSpec.ofChange fnExactFilterFitsWrong)

/- THE SECOND FORM. 'bulk': how many values and letters a reading holds, each counted each time it is reached (what is shared counts as often as it is met; a slice's spare places count too). A statement '..UptoSaid' is the law's where the arguments, and the package variables that the reading takes, are together of bulk at most 1048576: NARROWER than '..Said'. Prove '..Said' where nothing that the law and all that it calls make is longer than what came in: it says more and counts as full. Else prove '..UptoSaid'. A law counts once. -/
mutual
def uptoBulk {H : Type} : DataW H → Nat
  | .lit (.string bytes) => bytes.length + 1
  | .lit _ => 1
  | .nil => 1
  | .ptr d => uptoBulk d + 1
  | .slice elems spare => uptoBulkAll elems + uptoBulkAll spare + 1
  | .agg parts => uptoBulkAll parts + 1
  | .iface _ d => uptoBulk d + 1
  | .map entries => uptoBulkEntries entries + 1
  | .held _ => 1
def uptoBulkAll {H : Type} : List (DataW H) → Nat
  | [] => 0
  | d :: r => uptoBulk d + uptoBulkAll r
def uptoBulkEntries {H : Type} : List (Lit × DataW H) → Nat
  | [] => 0
  | x :: r => uptoBulkEntry x + uptoBulkEntries r
def uptoBulkEntry {H : Type} : Lit × DataW H → Nat
  | (.string bytes, d) => bytes.length + uptoBulk d + 1
  | (_, d) => uptoBulk d + 1
 end
def uptoSmall : (H : Type) → List (DataW H) → Bool := fun _ ds => decide (uptoBulkAll ds ≤ 1048576)
def OpenSpec.upto (s : _root_.Go.ChangeSpec) : _root_.Go.OpenSpec := { _root_.Go.OpenSpec.ofChange s with cond := some uptoSmall }

/-- 'laws.FnExactBothFilters', WHERE WHAT IT READS IS OF BULK AT MOST 1048576: true; the input reads as it did. -/
def fnExactBothFiltersUptoRow : OpenClaim := { program := "ytibmhnlmdabliaa", sum := "94254b029a715cfa949af8f14c0c70157aaeae60d80619f8e647d7e6037b43a0", func := "loop.example/g00333/laws.FnExactBothFilters", spec := "fnExactBothFilters", unfollowed := true, recurses := true, apart := false, narrowed := true }
def FnExactBothFiltersUptoSaid : Prop := fnExactBothFiltersUptoRow.holds Try.pinned (OpenSpec.upto fnExactBothFiltersSpec)

/-- 'laws.FnExactCompileFilter', WHERE WHAT IT READS IS OF BULK AT MOST 1048576: true; the input reads as it did. -/
def fnExactCompileFilterUptoRow : OpenClaim := { program := "ytibmhnlmdabliaa", sum := "94254b029a715cfa949af8f14c0c70157aaeae60d80619f8e647d7e6037b43a0", func := "loop.example/g00333/laws.FnExactCompileFilter", spec := "fnExactCompileFilter", unfollowed := true, recurses := true, apart := false, narrowed := true }
def FnExactCompileFilterUptoSaid : Prop := fnExactCompileFilterUptoRow.holds Try.pinned (OpenSpec.upto fnExactCompileFilterSpec)

/-- 'laws.FnExactPeepholeOf', WHERE WHAT IT READS IS OF BULK AT MOST 1048576: true; the input reads as it did. -/
def fnExactPeepholeOfUptoRow : OpenClaim := { program := "ytibmhnlmdabliaa", sum := "94254b029a715cfa949af8f14c0c70157aaeae60d80619f8e647d7e6037b43a0", func := "loop.example/g00333/laws.FnExactPeepholeOf", spec := "fnExactPeepholeOf", unfollowed := true, recurses := true, apart := false, narrowed := true }
def FnExactPeepholeOfUptoSaid : Prop := fnExactPeepholeOfUptoRow.holds Try.pinned (OpenSpec.upto fnExactPeepholeOfSpec)

/-- 'laws.FnExactSortFields', WHERE WHAT IT READS IS OF BULK AT MOST 1048576: true; the input reads as it did. -/
def fnExactSortFieldsUptoRow : OpenClaim := { program := "ytibmhnlmdabliaa", sum := "94254b029a715cfa949af8f14c0c70157aaeae60d80619f8e647d7e6037b43a0", func := "loop.example/g00333/laws.FnExactSortFields", spec := "fnExactSortFields", unfollowed := true, recurses := true, apart := false, narrowed := true }
def FnExactSortFieldsUptoSaid : Prop := fnExactSortFieldsUptoRow.holds Try.pinned (OpenSpec.upto fnExactSortFieldsSpec)

/-- 'laws.FnExactGoodSchema', WHERE WHAT IT READS IS OF BULK AT MOST 1048576: true; the input reads as it did. -/
def fnExactGoodSchemaUptoRow : OpenClaim := { program := "ytibmhnlmdabliaa", sum := "94254b029a715cfa949af8f14c0c70157aaeae60d80619f8e647d7e6037b43a0", func := "loop.example/g00333/laws.FnExactGoodSchema", spec := "fnExactGoodSchema", unfollowed := true, recurses := true, apart := false, narrowed := true }
def FnExactGoodSchemaUptoSaid : Prop := fnExactGoodSchemaUptoRow.holds Try.pinned (OpenSpec.upto fnExactGoodSchemaSpec)

/-- 'laws.FnExactDeepOf', WHERE WHAT IT READS IS OF BULK AT MOST 1048576: true; the input reads as it did. -/
def fnExactDeepOfUptoRow : OpenClaim := { program := "ytibmhnlmdabliaa", sum := "94254b029a715cfa949af8f14c0c70157aaeae60d80619f8e647d7e6037b43a0", func := "loop.example/g00333/laws.FnExactDeepOf", spec := "fnExactDeepOf", unfollowed := true, recurses := true, apart := false, narrowed := true }
def FnExactDeepOfUptoSaid : Prop := fnExactDeepOfUptoRow.holds Try.pinned (OpenSpec.upto fnExactDeepOfSpec)

/-- 'laws.FnExactPathOf', WHERE WHAT IT READS IS OF BULK AT MOST 1048576: true; the input reads as it did. -/
def fnExactPathOfUptoRow : OpenClaim := { program := "ytibmhnlmdabliaa", sum := "94254b029a715cfa949af8f14c0c70157aaeae60d80619f8e647d7e6037b43a0", func := "loop.example/g00333/laws.FnExactPathOf", spec := "fnExactPathOf", unfollowed := true, recurses := true, apart := false, narrowed := true }
def FnExactPathOfUptoSaid : Prop := fnExactPathOfUptoRow.holds Try.pinned (OpenSpec.upto fnExactPathOfSpec)

/-- 'laws.FnExactTypeAt', WHERE WHAT IT READS IS OF BULK AT MOST 1048576: true; the input reads as it did. -/
def fnExactTypeAtUptoRow : OpenClaim := { program := "ytibmhnlmdabliaa", sum := "94254b029a715cfa949af8f14c0c70157aaeae60d80619f8e647d7e6037b43a0", func := "loop.example/g00333/laws.FnExactTypeAt", spec := "fnExactTypeAt", unfollowed := true, recurses := true, apart := false, narrowed := true }
def FnExactTypeAtUptoSaid : Prop := fnExactTypeAtUptoRow.holds Try.pinned (OpenSpec.upto fnExactTypeAtSpec)

/-- 'laws.FnExactIsSubtype', WHERE WHAT IT READS IS OF BULK AT MOST 1048576: true; the input reads as it did. -/
def fnExactIsSubtypeUptoRow : OpenClaim := { program := "ytibmhnlmdabliaa", sum := "94254b029a715cfa949af8f14c0c70157aaeae60d80619f8e647d7e6037b43a0", func := "loop.example/g00333/laws.FnExactIsSubtype", spec := "fnExactIsSubtype", unfollowed := true, recurses := true, apart := false, narrowed := true }
def FnExactIsSubtypeUptoSaid : Prop := fnExactIsSubtypeUptoRow.holds Try.pinned (OpenSpec.upto fnExactIsSubtypeSpec)

/-- 'laws.FnExactCanRead', WHERE WHAT IT READS IS OF BULK AT MOST 1048576: true; the input reads as it did. -/
def fnExactCanReadUptoRow : OpenClaim := { program := "ytibmhnlmdabliaa", sum := "94254b029a715cfa949af8f14c0c70157aaeae60d80619f8e647d7e6037b43a0", func := "loop.example/g00333/laws.FnExactCanRead", spec := "fnExactCanRead", unfollowed := true, recurses := true, apart := false, narrowed := true }
def FnExactCanReadUptoSaid : Prop := fnExactCanReadUptoRow.holds Try.pinned (OpenSpec.upto fnExactCanReadSpec)

/-- 'laws.FnExactFieldsOf', WHERE WHAT IT READS IS OF BULK AT MOST 1048576: true; the input reads as it did. -/
def fnExactFieldsOfUptoRow : OpenClaim := { program := "ytibmhnlmdabliaa", sum := "94254b029a715cfa949af8f14c0c70157aaeae60d80619f8e647d7e6037b43a0", func := "loop.example/g00333/laws.FnExactFieldsOf", spec := "fnExactFieldsOf", unfollowed := true, recurses := true, apart := false, narrowed := true }
def FnExactFieldsOfUptoSaid : Prop := fnExactFieldsOfUptoRow.holds Try.pinned (OpenSpec.upto fnExactFieldsOfSpec)

/-- 'laws.FnExactFilterFits', WHERE WHAT IT READS IS OF BULK AT MOST 1048576: true; the input reads as it did. -/
def fnExactFilterFitsUptoRow : OpenClaim := { program := "ytibmhnlmdabliaa", sum := "94254b029a715cfa949af8f14c0c70157aaeae60d80619f8e647d7e6037b43a0", func := "loop.example/g00333/laws.FnExactFilterFits", spec := "fnExactFilterFits", unfollowed := true, recurses := true, apart := false, narrowed := true }
def FnExactFilterFitsUptoSaid : Prop := fnExactFilterFitsUptoRow.holds Try.pinned (OpenSpec.upto fnExactFilterFitsSpec)

end Rows
end Go.Proofs.Ytibmhnlmdabliaa
