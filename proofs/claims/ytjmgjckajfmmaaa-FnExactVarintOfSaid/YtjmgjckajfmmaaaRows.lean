/-
  No cell of these rows narrows 'for every input' (looked for: loops, veiled, ifaces, maps, wideKeys, modest, calm, conditions, laid).
  DERIVED. THE GIVEN ROWS OF THIS SEAT. 5 by the template 'for every input the law returns true; each argument reads behind the call as it read before'; 0 by the template 'total and deterministic' (their statements: YtjmgjckajfmmaaaTotals.lean).
  GIVEN WITH THE SEED: the statements are not yours to turn. If you find one false, say at which input.
  Laid BY PROGRAM, IN A SANDBOX (cutbox-rows.mjs): the forced cells as the released guide's own fill.sh prints them over the translation 81af6d4e7964b41a… (all of the seat's roots in one cut). By AI agents, Wed Nov 11 2026. No macro, syntax, notation, axiom, sorry.
-/
import Derived.Test.YtjmgjckajfmmaaaChecked
import GoSem.Claim
import GoSem.ClaimJoined
import GoSem.ClaimMapViews
import Derived.JoinedTies
import Derived.KernelRfl
namespace Go.Proofs.Ytjmgjckajfmmaaa
/- THE CELL 'sum', in the pinned program and in every row, IS THE sha256 OF THE DUMP (.gsa) THAT YtjmgjckajfmmaaaProg.lean LOADS. Nothing in Lean hashes anything: it is a label: what it is worth is what the hold of that sum in a sandbox is worth. -/
noncomputable def Try.pinned : Pinned := { name := "ytjmgjckajfmmaaa", sum := "81af6d4e7964b41a649debe22cb1bf2bc43081e45284dcecac8fae2798ce6805", checked := Try.checked }
namespace Rows
def none {H : Type} : Left H := { results := [], args := [] }

/-- 'laws.FnExactConstants': WHATEVER THE INPUT: true; the input reads as it did. -/
def fnExactConstantsSpec : ChangeSpec := { name := "fnExactConstants", fn := fun _ => fun
  | [] => { results := [.lit (.bool true)], args := [] }
  | _ => none }
def fnExactConstantsRow : OpenClaim := { program := "ytjmgjckajfmmaaa", sum := "81af6d4e7964b41a649debe22cb1bf2bc43081e45284dcecac8fae2798ce6805", func := "loop.example/g00333/laws.FnExactConstants", spec := "fnExactConstants", apart := false }
def FnExactConstantsSaid : Prop := fnExactConstantsRow.holds Try.pinned (OpenSpec.ofChange fnExactConstantsSpec)

/-- ITS FALSE NEIGHBOUR: 'it returns false'. Refute it at one input. -/
def fnExactConstantsWrong : ChangeSpec := { name := "fnExactConstants", fn := fun _ => fun
  | [] => { results := [.lit (.bool false)], args := [] }
  | _ => none }
def FnExactConstantsWrongFalsely : Prop := fnExactConstantsRow.holds Try.pinned (OpenSpec.ofChange fnExactConstantsWrong)

/-- 'laws.FnExactUnfoldNumber': WHATEVER THE INPUT: true; the input reads as it did. -/
def fnExactUnfoldNumberSpec : ChangeSpec := { name := "fnExactUnfoldNumber", fn := fun _ => fun
  | [d] => { results := [.lit (.bool true)], args := [d] }
  | _ => none }
def fnExactUnfoldNumberRow : OpenClaim := { program := "ytjmgjckajfmmaaa", sum := "81af6d4e7964b41a649debe22cb1bf2bc43081e45284dcecac8fae2798ce6805", func := "loop.example/g00333/laws.FnExactUnfoldNumber", spec := "fnExactUnfoldNumber", apart := false }
def FnExactUnfoldNumberSaid : Prop := fnExactUnfoldNumberRow.holds Try.pinned (OpenSpec.ofChange fnExactUnfoldNumberSpec)

/-- ITS FALSE NEIGHBOUR: 'it returns false'. Refute it at one input. -/
def fnExactUnfoldNumberWrong : ChangeSpec := { name := "fnExactUnfoldNumber", fn := fun _ => fun
  | [d] => { results := [.lit (.bool false)], args := [d] }
  | _ => none }
def FnExactUnfoldNumberWrongFalsely : Prop := fnExactUnfoldNumberRow.holds Try.pinned (OpenSpec.ofChange fnExactUnfoldNumberWrong)

/-- 'laws.FnExactFoldNumber': WHATEVER THE INPUT: true; the input reads as it did. -/
def fnExactFoldNumberSpec : ChangeSpec := { name := "fnExactFoldNumber", fn := fun _ => fun
  | [d] => { results := [.lit (.bool true)], args := [d] }
  | _ => none }
def fnExactFoldNumberRow : OpenClaim := { program := "ytjmgjckajfmmaaa", sum := "81af6d4e7964b41a649debe22cb1bf2bc43081e45284dcecac8fae2798ce6805", func := "loop.example/g00333/laws.FnExactFoldNumber", spec := "fnExactFoldNumber", apart := false }
def FnExactFoldNumberSaid : Prop := fnExactFoldNumberRow.holds Try.pinned (OpenSpec.ofChange fnExactFoldNumberSpec)

/-- ITS FALSE NEIGHBOUR: 'it returns false'. Refute it at one input. -/
def fnExactFoldNumberWrong : ChangeSpec := { name := "fnExactFoldNumber", fn := fun _ => fun
  | [d] => { results := [.lit (.bool false)], args := [d] }
  | _ => none }
def FnExactFoldNumberWrongFalsely : Prop := fnExactFoldNumberRow.holds Try.pinned (OpenSpec.ofChange fnExactFoldNumberWrong)

/-- 'laws.FnExactVarintOf': WHATEVER THE INPUT: true; the input reads as it did. -/
def fnExactVarintOfSpec : ChangeSpec := { name := "fnExactVarintOf", fn := fun _ => fun
  | [d] => { results := [.lit (.bool true)], args := [d] }
  | _ => none }
def fnExactVarintOfRow : OpenClaim := { program := "ytjmgjckajfmmaaa", sum := "81af6d4e7964b41a649debe22cb1bf2bc43081e45284dcecac8fae2798ce6805", func := "loop.example/g00333/laws.FnExactVarintOf", spec := "fnExactVarintOf", apart := false }
def FnExactVarintOfSaid : Prop := fnExactVarintOfRow.holds Try.pinned (OpenSpec.ofChange fnExactVarintOfSpec)

/-- ITS FALSE NEIGHBOUR: 'it returns false'. Refute it at one input. -/
def fnExactVarintOfWrong : ChangeSpec := { name := "fnExactVarintOf", fn := fun _ => fun
  | [d] => { results := [.lit (.bool false)], args := [d] }
  | _ => none }
def FnExactVarintOfWrongFalsely : Prop := fnExactVarintOfRow.holds Try.pinned (OpenSpec.ofChange fnExactVarintOfWrong)

/-- 'laws.FnExactTakeVarint': WHATEVER THE INPUT: true; the input reads as it did. -/
def fnExactTakeVarintSpec : ChangeSpec := { name := "fnExactTakeVarint", fn := fun _ => fun
  | [d1, d2] => { results := [.lit (.bool true)], args := [d1, d2] }
  | _ => none }
def fnExactTakeVarintRow : OpenClaim := { program := "ytjmgjckajfmmaaa", sum := "81af6d4e7964b41a649debe22cb1bf2bc43081e45284dcecac8fae2798ce6805", func := "loop.example/g00333/laws.FnExactTakeVarint", spec := "fnExactTakeVarint", apart := false }
def FnExactTakeVarintSaid : Prop := fnExactTakeVarintRow.holds Try.pinned (OpenSpec.ofChange fnExactTakeVarintSpec)

/-- ITS FALSE NEIGHBOUR: 'it returns false'. Refute it at one input. -/
def fnExactTakeVarintWrong : ChangeSpec := { name := "fnExactTakeVarint", fn := fun _ => fun
  | [d1, d2] => { results := [.lit (.bool false)], args := [d1, d2] }
  | _ => none }
def FnExactTakeVarintWrongFalsely : Prop := fnExactTakeVarintRow.holds Try.pinned (OpenSpec.ofChange fnExactTakeVarintWrong)

/- THE SECOND FORM. 'bulk': how many values and letters a reading holds, each counted each time it is reached (what is shared counts as often as it is met; a slice's spare places count too). A statement '..UptoSaid' is the law's where the arguments, and the package variables that the reading takes, are together of bulk at most 1048576: NARROWER than '..Said'. Prove '..Said' where nothing that the law and all that it calls make is longer than what came in: it says more and counts as full. Else prove '..UptoSaid'. A law counts once. -/
mutual
def uptoBulk {H : Type} : DataW H → Nat
  | .lit (.string bytes) => bytes.length + 1
  | .lit _ => 1
  | .nil => 1
  | .ptr d => uptoBulk d + 1
  | .slice elems spare => uptoBulkAll elems + uptoBulkAll spare + 1
  | .agg parts => uptoBulkAll parts + 1
  | .iface _ d => uptoBulk d + 1
  | .map entries => uptoBulkEntries entries + 1
  | .held _ => 1
def uptoBulkAll {H : Type} : List (DataW H) → Nat
  | [] => 0
  | d :: r => uptoBulk d + uptoBulkAll r
def uptoBulkEntries {H : Type} : List (Lit × DataW H) → Nat
  | [] => 0
  | x :: r => uptoBulkEntry x + uptoBulkEntries r
def uptoBulkEntry {H : Type} : Lit × DataW H → Nat
  | (.string bytes, d) => bytes.length + uptoBulk d + 1
  | (_, d) => uptoBulk d + 1
 end
def uptoSmall : (H : Type) → List (DataW H) → Bool := fun _ ds => decide (uptoBulkAll ds ≤ 1048576)
def OpenSpec.upto (s : _root_.Go.ChangeSpec) : _root_.Go.OpenSpec := { _root_.Go.OpenSpec.ofChange s with cond := some uptoSmall }

/-- 'laws.FnExactConstants', WHERE WHAT IT READS IS OF BULK AT MOST 1048576: true; the input reads as it did. -/
def fnExactConstantsUptoRow : OpenClaim := { program := "ytjmgjckajfmmaaa", sum := "81af6d4e7964b41a649debe22cb1bf2bc43081e45284dcecac8fae2798ce6805", func := "loop.example/g00333/laws.FnExactConstants", spec := "fnExactConstants", apart := false, narrowed := true }
def FnExactConstantsUptoSaid : Prop := fnExactConstantsUptoRow.holds Try.pinned (OpenSpec.upto fnExactConstantsSpec)

/-- 'laws.FnExactUnfoldNumber', WHERE WHAT IT READS IS OF BULK AT MOST 1048576: true; the input reads as it did. -/
def fnExactUnfoldNumberUptoRow : OpenClaim := { program := "ytjmgjckajfmmaaa", sum := "81af6d4e7964b41a649debe22cb1bf2bc43081e45284dcecac8fae2798ce6805", func := "loop.example/g00333/laws.FnExactUnfoldNumber", spec := "fnExactUnfoldNumber", apart := false, narrowed := true }
def FnExactUnfoldNumberUptoSaid : Prop := fnExactUnfoldNumberUptoRow.holds Try.pinned (OpenSpec.upto fnExactUnfoldNumberSpec)

/-- 'laws.FnExactFoldNumber', WHERE WHAT IT READS IS OF BULK AT MOST 1048576: true; the input reads as it did. -/
def fnExactFoldNumberUptoRow : OpenClaim := { program := "ytjmgjckajfmmaaa", sum := "81af6d4e7964b41a649debe22cb1bf2bc43081e45284dcecac8fae2798ce6805", func := "loop.example/g00333/laws.FnExactFoldNumber", spec := "fnExactFoldNumber", apart := false, narrowed := true }
def FnExactFoldNumberUptoSaid : Prop := fnExactFoldNumberUptoRow.holds Try.pinned (OpenSpec.upto fnExactFoldNumberSpec)

/-- 'laws.FnExactVarintOf', WHERE WHAT IT READS IS OF BULK AT MOST 1048576: true; the input reads as it did. -/
def fnExactVarintOfUptoRow : OpenClaim := { program := "ytjmgjckajfmmaaa", sum := "81af6d4e7964b41a649debe22cb1bf2bc43081e45284dcecac8fae2798ce6805", func := "loop.example/g00333/laws.FnExactVarintOf", spec := "fnExactVarintOf", apart := false, narrowed := true }
def FnExactVarintOfUptoSaid : Prop := fnExactVarintOfUptoRow.holds Try.pinned (OpenSpec.upto fnExactVarintOfSpec)

/-- 'laws.FnExactTakeVarint', WHERE WHAT IT READS IS OF BULK AT MOST 1048576: true; the input reads as it did. -/
def fnExactTakeVarintUptoRow : OpenClaim := { program := "ytjmgjckajfmmaaa", sum := "81af6d4e7964b41a649debe22cb1bf2bc43081e45284dcecac8fae2798ce6805", func := "loop.example/g00333/laws.FnExactTakeVarint", spec := "fnExactTakeVarint", apart := false, narrowed := true }
def FnExactTakeVarintUptoSaid : Prop := fnExactTakeVarintUptoRow.holds Try.pinned (OpenSpec.upto fnExactTakeVarintSpec)

end Rows
end Go.Proofs.Ytjmgjckajfmmaaa
