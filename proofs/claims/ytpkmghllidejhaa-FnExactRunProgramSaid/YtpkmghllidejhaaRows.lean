/-
  No cell of these rows narrows 'for every input' (looked for: loops, veiled, ifaces, maps, wideKeys, modest, calm, conditions, laid).
  DERIVED. THE GIVEN ROWS OF THIS SEAT. 11 by the template 'for every input the law returns true; each argument reads behind the call as it read before'; 0 by the template 'total and deterministic' (their statements: YtpkmghllidejhaaTotals.lean).
  GIVEN WITH THE SEED: the statements are not yours to turn. If you find one false, say at which input.
  Laid BY PROGRAM, IN A SANDBOX (cutbox-rows.mjs): the forced cells as the released guide's own fill.sh prints them over the translation 4f62dc7cccea732b… (all of the seat's roots in one cut). By AI agents, Wed Nov 11 2026. No macro, syntax, notation, axiom, sorry.
-/
import Derived.Test.YtpkmghllidejhaaChecked
import GoSem.Claim
import GoSem.ClaimJoined
import GoSem.ClaimMapViews
import Derived.JoinedTies
import Derived.KernelRfl
namespace Go.Proofs.Ytpkmghllidejhaa
/- THE CELL 'sum', in the pinned program and in every row, IS THE sha256 OF THE DUMP (.gsa) THAT YtpkmghllidejhaaProg.lean LOADS. Nothing in Lean hashes anything: it is a label: what it is worth is what the hold of that sum in a sandbox is worth. -/
noncomputable def Try.pinned : Pinned := { name := "ytpkmghllidejhaa", sum := "4f62dc7cccea732b82e58519a77b1065245fbd85bd2b93b3fbbd2bdfef31f62c", checked := Try.checked }
namespace Rows
def none {H : Type} : Left H := { results := [], args := [] }

/-- 'laws.FnExactSortFields': WHATEVER THE INPUT: true; the input reads as it did. -/
def fnExactSortFieldsSpec : ChangeSpec := { name := "fnExactSortFields", fn := fun _ => fun
  | [d] => { results := [.lit (.bool true)], args := [d] }
  | _ => none }
def fnExactSortFieldsRow : OpenClaim := { program := "ytpkmghllidejhaa", sum := "4f62dc7cccea732b82e58519a77b1065245fbd85bd2b93b3fbbd2bdfef31f62c", func := "loop.example/g00333/laws.FnExactSortFields", spec := "fnExactSortFields", unfollowed := true, recurses := true, apart := false }
def FnExactSortFieldsSaid : Prop := fnExactSortFieldsRow.holds Try.pinned (OpenSpec.ofChange fnExactSortFieldsSpec)

/-- ITS FALSE NEIGHBOUR: 'it returns false'. Refute it at one input. -/
def fnExactSortFieldsWrong : ChangeSpec := { name := "fnExactSortFields", fn := fun _ => fun
  | [d] => { results := [.lit (.bool false)], args := [d] }
  | _ => none }
def FnExactSortFieldsWrongFalsely : Prop := fnExactSortFieldsRow.holds Try.pinned (OpenSpec.ofChange fnExactSortFieldsWrong)

/-- 'laws.FnExactViewOf': WHATEVER THE INPUT: true; the input reads as it did. -/
def fnExactViewOfSpec : ChangeSpec := { name := "fnExactViewOf", fn := fun _ => fun
  | [d1, d2] => { results := [.lit (.bool true)], args := [d1, d2] }
  | _ => none }
def fnExactViewOfRow : OpenClaim := { program := "ytpkmghllidejhaa", sum := "4f62dc7cccea732b82e58519a77b1065245fbd85bd2b93b3fbbd2bdfef31f62c", func := "loop.example/g00333/laws.FnExactViewOf", spec := "fnExactViewOf", apart := false }
def FnExactViewOfSaid : Prop := fnExactViewOfRow.holds Try.pinned (OpenSpec.ofChange fnExactViewOfSpec)

/-- ITS FALSE NEIGHBOUR: 'it returns false'. Refute it at one input. -/
def fnExactViewOfWrong : ChangeSpec := { name := "fnExactViewOf", fn := fun _ => fun
  | [d1, d2] => { results := [.lit (.bool false)], args := [d1, d2] }
  | _ => none }
def FnExactViewOfWrongFalsely : Prop := fnExactViewOfRow.holds Try.pinned (OpenSpec.ofChange fnExactViewOfWrong)

/-- 'laws.FnExactPutView': WHATEVER THE INPUT: true; the input reads as it did. -/
def fnExactPutViewSpec : ChangeSpec := { name := "fnExactPutView", fn := fun _ => fun
  | [d1, d2, d3] => { results := [.lit (.bool true)], args := [d1, d2, d3] }
  | _ => none }
def fnExactPutViewRow : OpenClaim := { program := "ytpkmghllidejhaa", sum := "4f62dc7cccea732b82e58519a77b1065245fbd85bd2b93b3fbbd2bdfef31f62c", func := "loop.example/g00333/laws.FnExactPutView", spec := "fnExactPutView", unfollowed := true, recurses := true, apart := false }
def FnExactPutViewSaid : Prop := fnExactPutViewRow.holds Try.pinned (OpenSpec.ofChange fnExactPutViewSpec)

/-- ITS FALSE NEIGHBOUR: 'it returns false'. Refute it at one input. -/
def fnExactPutViewWrong : ChangeSpec := { name := "fnExactPutView", fn := fun _ => fun
  | [d1, d2, d3] => { results := [.lit (.bool false)], args := [d1, d2, d3] }
  | _ => none }
def FnExactPutViewWrongFalsely : Prop := fnExactPutViewRow.holds Try.pinned (OpenSpec.ofChange fnExactPutViewWrong)

/-- 'laws.FnExactCompileFilter': WHATEVER THE INPUT: true; the input reads as it did. -/
def fnExactCompileFilterSpec : ChangeSpec := { name := "fnExactCompileFilter", fn := fun _ => fun
  | [d] => { results := [.lit (.bool true)], args := [d] }
  | _ => none }
def fnExactCompileFilterRow : OpenClaim := { program := "ytpkmghllidejhaa", sum := "4f62dc7cccea732b82e58519a77b1065245fbd85bd2b93b3fbbd2bdfef31f62c", func := "loop.example/g00333/laws.FnExactCompileFilter", spec := "fnExactCompileFilter", unfollowed := true, recurses := true, apart := false }
def FnExactCompileFilterSaid : Prop := fnExactCompileFilterRow.holds Try.pinned (OpenSpec.ofChange fnExactCompileFilterSpec)

/-- ITS FALSE NEIGHBOUR: 'it returns false'. Refute it at one input. -/
def fnExactCompileFilterWrong : ChangeSpec := { name := "fnExactCompileFilter", fn := fun _ => fun
  | [d] => { results := [.lit (.bool false)], args := [d] }
  | _ => none }
def FnExactCompileFilterWrongFalsely : Prop := fnExactCompileFilterRow.holds Try.pinned (OpenSpec.ofChange fnExactCompileFilterWrong)

/-- 'laws.FnExactPeepholeOf': WHATEVER THE INPUT: true; the input reads as it did. -/
def fnExactPeepholeOfSpec : ChangeSpec := { name := "fnExactPeepholeOf", fn := fun _ => fun
  | [d] => { results := [.lit (.bool true)], args := [d] }
  | _ => none }
def fnExactPeepholeOfRow : OpenClaim := { program := "ytpkmghllidejhaa", sum := "4f62dc7cccea732b82e58519a77b1065245fbd85bd2b93b3fbbd2bdfef31f62c", func := "loop.example/g00333/laws.FnExactPeepholeOf", spec := "fnExactPeepholeOf", unfollowed := true, recurses := true, apart := false }
def FnExactPeepholeOfSaid : Prop := fnExactPeepholeOfRow.holds Try.pinned (OpenSpec.ofChange fnExactPeepholeOfSpec)

/-- ITS FALSE NEIGHBOUR: 'it returns false'. Refute it at one input. -/
def fnExactPeepholeOfWrong : ChangeSpec := { name := "fnExactPeepholeOf", fn := fun _ => fun
  | [d] => { results := [.lit (.bool false)], args := [d] }
  | _ => none }
def FnExactPeepholeOfWrongFalsely : Prop := fnExactPeepholeOfRow.holds Try.pinned (OpenSpec.ofChange fnExactPeepholeOfWrong)

/-- 'laws.FnExactMatches': WHATEVER THE INPUT: true; the input reads as it did. -/
def fnExactMatchesSpec : ChangeSpec := { name := "fnExactMatches", fn := fun _ => fun
  | [d1, d2] => { results := [.lit (.bool true)], args := [d1, d2] }
  | _ => none }
def fnExactMatchesRow : OpenClaim := { program := "ytpkmghllidejhaa", sum := "4f62dc7cccea732b82e58519a77b1065245fbd85bd2b93b3fbbd2bdfef31f62c", func := "loop.example/g00333/laws.FnExactMatches", spec := "fnExactMatches", unfollowed := true, recurses := true, apart := false }
def FnExactMatchesSaid : Prop := fnExactMatchesRow.holds Try.pinned (OpenSpec.ofChange fnExactMatchesSpec)

/-- ITS FALSE NEIGHBOUR: 'it returns false'. Refute it at one input. -/
def fnExactMatchesWrong : ChangeSpec := { name := "fnExactMatches", fn := fun _ => fun
  | [d1, d2] => { results := [.lit (.bool false)], args := [d1, d2] }
  | _ => none }
def FnExactMatchesWrongFalsely : Prop := fnExactMatchesRow.holds Try.pinned (OpenSpec.ofChange fnExactMatchesWrong)

/-- 'laws.FnExactRunProgram': WHATEVER THE INPUT: true; the input reads as it did. -/
def fnExactRunProgramSpec : ChangeSpec := { name := "fnExactRunProgram", fn := fun _ => fun
  | [d1, d2] => { results := [.lit (.bool true)], args := [d1, d2] }
  | _ => none }
def fnExactRunProgramRow : OpenClaim := { program := "ytpkmghllidejhaa", sum := "4f62dc7cccea732b82e58519a77b1065245fbd85bd2b93b3fbbd2bdfef31f62c", func := "loop.example/g00333/laws.FnExactRunProgram", spec := "fnExactRunProgram", unfollowed := true, recurses := true, apart := false }
def FnExactRunProgramSaid : Prop := fnExactRunProgramRow.holds Try.pinned (OpenSpec.ofChange fnExactRunProgramSpec)

/-- ITS FALSE NEIGHBOUR: 'it returns false'. Refute it at one input. -/
def fnExactRunProgramWrong : ChangeSpec := { name := "fnExactRunProgram", fn := fun _ => fun
  | [d1, d2] => { results := [.lit (.bool false)], args := [d1, d2] }
  | _ => none }
def FnExactRunProgramWrongFalsely : Prop := fnExactRunProgramRow.holds Try.pinned (OpenSpec.ofChange fnExactRunProgramWrong)

/-- 'laws.FnExactNosOf': WHATEVER THE INPUT: true; the input reads as it did. -/
def fnExactNosOfSpec : ChangeSpec := { name := "fnExactNosOf", fn := fun _ => fun
  | [d] => { results := [.lit (.bool true)], args := [d] }
  | _ => none }
def fnExactNosOfRow : OpenClaim := { program := "ytpkmghllidejhaa", sum := "4f62dc7cccea732b82e58519a77b1065245fbd85bd2b93b3fbbd2bdfef31f62c", func := "loop.example/g00333/laws.FnExactNosOf", spec := "fnExactNosOf", unfollowed := true, recurses := true, apart := false }
def FnExactNosOfSaid : Prop := fnExactNosOfRow.holds Try.pinned (OpenSpec.ofChange fnExactNosOfSpec)

/-- ITS FALSE NEIGHBOUR: 'it returns false'. Refute it at one input. -/
def fnExactNosOfWrong : ChangeSpec := { name := "fnExactNosOf", fn := fun _ => fun
  | [d] => { results := [.lit (.bool false)], args := [d] }
  | _ => none }
def FnExactNosOfWrongFalsely : Prop := fnExactNosOfRow.holds Try.pinned (OpenSpec.ofChange fnExactNosOfWrong)

/-- 'laws.FnExactGoodTerm': WHATEVER THE INPUT: true; the input reads as it did. -/
def fnExactGoodTermSpec : ChangeSpec := { name := "fnExactGoodTerm", fn := fun _ => fun
  | [d] => { results := [.lit (.bool true)], args := [d] }
  | _ => none }
def fnExactGoodTermRow : OpenClaim := { program := "ytpkmghllidejhaa", sum := "4f62dc7cccea732b82e58519a77b1065245fbd85bd2b93b3fbbd2bdfef31f62c", func := "loop.example/g00333/laws.FnExactGoodTerm", spec := "fnExactGoodTerm", recurses := true, apart := false }
def FnExactGoodTermSaid : Prop := fnExactGoodTermRow.holds Try.pinned (OpenSpec.ofChange fnExactGoodTermSpec)

/-- ITS FALSE NEIGHBOUR: 'it returns false'. Refute it at one input. -/
def fnExactGoodTermWrong : ChangeSpec := { name := "fnExactGoodTerm", fn := fun _ => fun
  | [d] => { results := [.lit (.bool false)], args := [d] }
  | _ => none }
def FnExactGoodTermWrongFalsely : Prop := fnExactGoodTermRow.holds Try.pinned (OpenSpec.ofChange fnExactGoodTermWrong)

/-- 'laws.FnExactIsInstance': WHATEVER THE INPUT: true; the input reads as it did. -/
def fnExactIsInstanceSpec : ChangeSpec := { name := "fnExactIsInstance", fn := fun _ => fun
  | [d1, d2] => { results := [.lit (.bool true)], args := [d1, d2] }
  | _ => none }
def fnExactIsInstanceRow : OpenClaim := { program := "ytpkmghllidejhaa", sum := "4f62dc7cccea732b82e58519a77b1065245fbd85bd2b93b3fbbd2bdfef31f62c", func := "loop.example/g00333/laws.FnExactIsInstance", spec := "fnExactIsInstance", unfollowed := true, recurses := true, apart := false }
def FnExactIsInstanceSaid : Prop := fnExactIsInstanceRow.holds Try.pinned (OpenSpec.ofChange fnExactIsInstanceSpec)

/-- ITS FALSE NEIGHBOUR: 'it returns false'. Refute it at one input. -/
def fnExactIsInstanceWrong : ChangeSpec := { name := "fnExactIsInstance", fn := fun _ => fun
  | [d1, d2] => { results := [.lit (.bool false)], args := [d1, d2] }
  | _ => none }
def FnExactIsInstanceWrongFalsely : Prop := fnExactIsInstanceRow.holds Try.pinned (OpenSpec.ofChange fnExactIsInstanceWrong)

/-- 'laws.FnExactApplyTo': WHATEVER THE INPUT: true; the input reads as it did. -/
def fnExactApplyToSpec : ChangeSpec := { name := "fnExactApplyTo", fn := fun _ => fun
  | [d1, d2] => { results := [.lit (.bool true)], args := [d1, d2] }
  | _ => none }
def fnExactApplyToRow : OpenClaim := { program := "ytpkmghllidejhaa", sum := "4f62dc7cccea732b82e58519a77b1065245fbd85bd2b93b3fbbd2bdfef31f62c", func := "loop.example/g00333/laws.FnExactApplyTo", spec := "fnExactApplyTo", unfollowed := true, recurses := true, apart := false }
def FnExactApplyToSaid : Prop := fnExactApplyToRow.holds Try.pinned (OpenSpec.ofChange fnExactApplyToSpec)

/-- ITS FALSE NEIGHBOUR: 'it returns false'. Refute it at one input. -/
def fnExactApplyToWrong : ChangeSpec := { name := "fnExactApplyTo", fn := fun _ => fun
  | [d1, d2] => { results := [.lit (.bool false)], args := [d1, d2] }
  | _ => none }
def FnExactApplyToWrongFalsely : Prop := fnExactApplyToRow.holds Try.pinned (OpenSpec.ofChange fnExactApplyToWrong)

/- THE SECOND FORM. 'bulk': how many values and letters a reading holds, each counted each time it is reached (what is shared counts as often as it is met; a slice's spare places count too). A statement '..UptoSaid' is the law's where the arguments, and the package variables that the reading takes, are together of bulk at most 1048576: NARROWER than '..Said'. Prove '..Said' where nothing that the law and all that it calls make is longer than what came in: it says more and counts as full. Else prove '..UptoSaid'. A law counts once. -/
mutual
def uptoBulk {H : Type} : DataW H → Nat
  | .lit (.string bytes) => bytes.length + 1
  | .lit _ => 1
  | .nil => 1
  | .ptr d => uptoBulk d + 1
  | .slice elems spare => uptoBulkAll elems + uptoBulkAll spare + 1
  | .agg parts => uptoBulkAll parts + 1
  | .iface _ d => uptoBulk d + 1
  | .map entries => uptoBulkEntries entries + 1
  | .held _ => 1
def uptoBulkAll {H : Type} : List (DataW H) → Nat
  | [] => 0
  | d :: r => uptoBulk d + uptoBulkAll r
def uptoBulkEntries {H : Type} : List (Lit × DataW H) → Nat
  | [] => 0
  | x :: r => uptoBulkEntry x + uptoBulkEntries r
def uptoBulkEntry {H : Type} : Lit × DataW H → Nat
  | (.string bytes, d) => bytes.length + uptoBulk d + 1
  | (_, d) => uptoBulk d + 1
 end
def uptoSmall : (H : Type) → List (DataW H) → Bool := fun _ ds => decide (uptoBulkAll ds ≤ 1048576)
def OpenSpec.upto (s : _root_.Go.ChangeSpec) : _root_.Go.OpenSpec := { _root_.Go.OpenSpec.ofChange s with cond := some uptoSmall }

/-- 'laws.FnExactSortFields', WHERE WHAT IT READS IS OF BULK AT MOST 1048576: true; the input reads as it did. -/
def fnExactSortFieldsUptoRow : OpenClaim := { program := "ytpkmghllidejhaa", sum := "4f62dc7cccea732b82e58519a77b1065245fbd85bd2b93b3fbbd2bdfef31f62c", func := "loop.example/g00333/laws.FnExactSortFields", spec := "fnExactSortFields", unfollowed := true, recurses := true, apart := false, narrowed := true }
def FnExactSortFieldsUptoSaid : Prop := fnExactSortFieldsUptoRow.holds Try.pinned (OpenSpec.upto fnExactSortFieldsSpec)

/-- 'laws.FnExactViewOf', WHERE WHAT IT READS IS OF BULK AT MOST 1048576: true; the input reads as it did. -/
def fnExactViewOfUptoRow : OpenClaim := { program := "ytpkmghllidejhaa", sum := "4f62dc7cccea732b82e58519a77b1065245fbd85bd2b93b3fbbd2bdfef31f62c", func := "loop.example/g00333/laws.FnExactViewOf", spec := "fnExactViewOf", apart := false, narrowed := true }
def FnExactViewOfUptoSaid : Prop := fnExactViewOfUptoRow.holds Try.pinned (OpenSpec.upto fnExactViewOfSpec)

/-- 'laws.FnExactPutView', WHERE WHAT IT READS IS OF BULK AT MOST 1048576: true; the input reads as it did. -/
def fnExactPutViewUptoRow : OpenClaim := { program := "ytpkmghllidejhaa", sum := "4f62dc7cccea732b82e58519a77b1065245fbd85bd2b93b3fbbd2bdfef31f62c", func := "loop.example/g00333/laws.FnExactPutView", spec := "fnExactPutView", unfollowed := true, recurses := true, apart := false, narrowed := true }
def FnExactPutViewUptoSaid : Prop := fnExactPutViewUptoRow.holds Try.pinned (OpenSpec.upto fnExactPutViewSpec)

/-- 'laws.FnExactCompileFilter', WHERE WHAT IT READS IS OF BULK AT MOST 1048576: true; the input reads as it did. -/
def fnExactCompileFilterUptoRow : OpenClaim := { program := "ytpkmghllidejhaa", sum := "4f62dc7cccea732b82e58519a77b1065245fbd85bd2b93b3fbbd2bdfef31f62c", func := "loop.example/g00333/laws.FnExactCompileFilter", spec := "fnExactCompileFilter", unfollowed := true, recurses := true, apart := false, narrowed := true }
def FnExactCompileFilterUptoSaid : Prop := fnExactCompileFilterUptoRow.holds Try.pinned (OpenSpec.upto fnExactCompileFilterSpec)

/-- 'laws.FnExactPeepholeOf', WHERE WHAT IT READS IS OF BULK AT MOST 1048576: true; the input reads as it did. -/
def fnExactPeepholeOfUptoRow : OpenClaim := { program := "ytpkmghllidejhaa", sum := "4f62dc7cccea732b82e58519a77b1065245fbd85bd2b93b3fbbd2bdfef31f62c", func := "loop.example/g00333/laws.FnExactPeepholeOf", spec := "fnExactPeepholeOf", unfollowed := true, recurses := true, apart := false, narrowed := true }
def FnExactPeepholeOfUptoSaid : Prop := fnExactPeepholeOfUptoRow.holds Try.pinned (OpenSpec.upto fnExactPeepholeOfSpec)

/-- 'laws.FnExactMatches', WHERE WHAT IT READS IS OF BULK AT MOST 1048576: true; the input reads as it did. -/
def fnExactMatchesUptoRow : OpenClaim := { program := "ytpkmghllidejhaa", sum := "4f62dc7cccea732b82e58519a77b1065245fbd85bd2b93b3fbbd2bdfef31f62c", func := "loop.example/g00333/laws.FnExactMatches", spec := "fnExactMatches", unfollowed := true, recurses := true, apart := false, narrowed := true }
def FnExactMatchesUptoSaid : Prop := fnExactMatchesUptoRow.holds Try.pinned (OpenSpec.upto fnExactMatchesSpec)

/-- 'laws.FnExactRunProgram', WHERE WHAT IT READS IS OF BULK AT MOST 1048576: true; the input reads as it did. -/
def fnExactRunProgramUptoRow : OpenClaim := { program := "ytpkmghllidejhaa", sum := "4f62dc7cccea732b82e58519a77b1065245fbd85bd2b93b3fbbd2bdfef31f62c", func := "loop.example/g00333/laws.FnExactRunProgram", spec := "fnExactRunProgram", unfollowed := true, recurses := true, apart := false, narrowed := true }
def FnExactRunProgramUptoSaid : Prop := fnExactRunProgramUptoRow.holds Try.pinned (OpenSpec.upto fnExactRunProgramSpec)

/-- 'laws.FnExactNosOf', WHERE WHAT IT READS IS OF BULK AT MOST 1048576: true; the input reads as it did. -/
def fnExactNosOfUptoRow : OpenClaim := { program := "ytpkmghllidejhaa", sum := "4f62dc7cccea732b82e58519a77b1065245fbd85bd2b93b3fbbd2bdfef31f62c", func := "loop.example/g00333/laws.FnExactNosOf", spec := "fnExactNosOf", unfollowed := true, recurses := true, apart := false, narrowed := true }
def FnExactNosOfUptoSaid : Prop := fnExactNosOfUptoRow.holds Try.pinned (OpenSpec.upto fnExactNosOfSpec)

/-- 'laws.FnExactGoodTerm', WHERE WHAT IT READS IS OF BULK AT MOST 1048576: true; the input reads as it did. -/
def fnExactGoodTermUptoRow : OpenClaim := { program := "ytpkmghllidejhaa", sum := "4f62dc7cccea732b82e58519a77b1065245fbd85bd2b93b3fbbd2bdfef31f62c", func := "loop.example/g00333/laws.FnExactGoodTerm", spec := "fnExactGoodTerm", recurses := true, apart := false, narrowed := true }
def FnExactGoodTermUptoSaid : Prop := fnExactGoodTermUptoRow.holds Try.pinned (OpenSpec.upto fnExactGoodTermSpec)

/-- 'laws.FnExactIsInstance', WHERE WHAT IT READS IS OF BULK AT MOST 1048576: true; the input reads as it did. -/
def fnExactIsInstanceUptoRow : OpenClaim := { program := "ytpkmghllidejhaa", sum := "4f62dc7cccea732b82e58519a77b1065245fbd85bd2b93b3fbbd2bdfef31f62c", func := "loop.example/g00333/laws.FnExactIsInstance", spec := "fnExactIsInstance", unfollowed := true, recurses := true, apart := false, narrowed := true }
def FnExactIsInstanceUptoSaid : Prop := fnExactIsInstanceUptoRow.holds Try.pinned (OpenSpec.upto fnExactIsInstanceSpec)

/-- 'laws.FnExactApplyTo', WHERE WHAT IT READS IS OF BULK AT MOST 1048576: true; the input reads as it did. -/
def fnExactApplyToUptoRow : OpenClaim := { program := "ytpkmghllidejhaa", sum := "4f62dc7cccea732b82e58519a77b1065245fbd85bd2b93b3fbbd2bdfef31f62c", func := "loop.example/g00333/laws.FnExactApplyTo", spec := "fnExactApplyTo", unfollowed := true, recurses := true, apart := false, narrowed := true }
def FnExactApplyToUptoSaid : Prop := fnExactApplyToUptoRow.holds Try.pinned (OpenSpec.upto fnExactApplyToSpec)

end Rows
end Go.Proofs.Ytpkmghllidejhaa
