/-
  No cell of these rows narrows 'for every input' (looked for: loops, veiled, ifaces, maps, wideKeys, modest, calm, conditions, laid).
  DERIVED. THE GIVEN ROWS OF THIS SEAT. 7 by the template 'for every input the law returns true; each argument reads behind the call as it read before'; 0 by the template 'total and deterministic' (their statements: YtbjilpemckoioaaTotals.lean).
  GIVEN WITH THE SEED: the statements are not yours to turn. If you find one false, say at which input.
  Laid BY PROGRAM, IN A SANDBOX (cutbox-rows.mjs): the forced cells as the released guide's own fill.sh prints them over the translation 3580088919eff330… (all of the seat's roots in one cut). By AI agents, Wed Nov 11 2026. No macro, syntax, notation, axiom, sorry.
-/
import Derived.Test.YtbjilpemckoioaaChecked
import GoSem.Claim
import GoSem.ClaimJoined
import GoSem.ClaimMapViews
import Derived.JoinedTies
import Derived.KernelRfl
namespace Go.Proofs.Ytbjilpemckoioaa
/- THE CELL 'sum', in the pinned program and in every row, IS THE sha256 OF THE DUMP (.gsa) THAT YtbjilpemckoioaaProg.lean LOADS. Nothing in Lean hashes anything: it is a label: what it is worth is what the hold of that sum in a sandbox is worth. -/
noncomputable def Try.pinned : Pinned := { name := "ytbjilpemckoioaa", sum := "3580088919eff330a1571ed54f365bd5035f8ceafb040f96ae3b20fd50446e17", checked := Try.checked }
namespace Rows
def none {H : Type} : Left H := { results := [], args := [] }

/-- 'laws.FnExactGoodTerm': WHATEVER THE INPUT: true; the input reads as it did. -/
def fnExactGoodTermSpec : ChangeSpec := { name := "fnExactGoodTerm", fn := fun _ => fun
  | [d] => { results := [.lit (.bool true)], args := [d] }
  | _ => none }
def fnExactGoodTermRow : OpenClaim := { program := "ytbjilpemckoioaa", sum := "3580088919eff330a1571ed54f365bd5035f8ceafb040f96ae3b20fd50446e17", func := "loop.example/g00333/laws.FnExactGoodTerm", spec := "fnExactGoodTerm", recurses := true, apart := false }
def FnExactGoodTermSaid : Prop := fnExactGoodTermRow.holds Try.pinned (OpenSpec.ofChange fnExactGoodTermSpec)

/-- ITS FALSE NEIGHBOUR: 'it returns false'. Refute it at one input. -/
def fnExactGoodTermWrong : ChangeSpec := { name := "fnExactGoodTerm", fn := fun _ => fun
  | [d] => { results := [.lit (.bool false)], args := [d] }
  | _ => none }
def FnExactGoodTermWrongFalsely : Prop := fnExactGoodTermRow.holds Try.pinned (OpenSpec.ofChange fnExactGoodTermWrong)

/-- 'laws.FnExactIsInstance': WHATEVER THE INPUT: true; the input reads as it did. -/
def fnExactIsInstanceSpec : ChangeSpec := { name := "fnExactIsInstance", fn := fun _ => fun
  | [d1, d2] => { results := [.lit (.bool true)], args := [d1, d2] }
  | _ => none }
def fnExactIsInstanceRow : OpenClaim := { program := "ytbjilpemckoioaa", sum := "3580088919eff330a1571ed54f365bd5035f8ceafb040f96ae3b20fd50446e17", func := "loop.example/g00333/laws.FnExactIsInstance", spec := "fnExactIsInstance", unfollowed := true, recurses := true, apart := false }
def FnExactIsInstanceSaid : Prop := fnExactIsInstanceRow.holds Try.pinned (OpenSpec.ofChange fnExactIsInstanceSpec)

/-- ITS FALSE NEIGHBOUR: 'it returns false'. Refute it at one input. -/
def fnExactIsInstanceWrong : ChangeSpec := { name := "fnExactIsInstance", fn := fun _ => fun
  | [d1, d2] => { results := [.lit (.bool false)], args := [d1, d2] }
  | _ => none }
def FnExactIsInstanceWrongFalsely : Prop := fnExactIsInstanceRow.holds Try.pinned (OpenSpec.ofChange fnExactIsInstanceWrong)

/-- 'laws.FnExactApplyTo': WHATEVER THE INPUT: true; the input reads as it did. -/
def fnExactApplyToSpec : ChangeSpec := { name := "fnExactApplyTo", fn := fun _ => fun
  | [d1, d2] => { results := [.lit (.bool true)], args := [d1, d2] }
  | _ => none }
def fnExactApplyToRow : OpenClaim := { program := "ytbjilpemckoioaa", sum := "3580088919eff330a1571ed54f365bd5035f8ceafb040f96ae3b20fd50446e17", func := "loop.example/g00333/laws.FnExactApplyTo", spec := "fnExactApplyTo", unfollowed := true, recurses := true, apart := false }
def FnExactApplyToSaid : Prop := fnExactApplyToRow.holds Try.pinned (OpenSpec.ofChange fnExactApplyToSpec)

/-- ITS FALSE NEIGHBOUR: 'it returns false'. Refute it at one input. -/
def fnExactApplyToWrong : ChangeSpec := { name := "fnExactApplyTo", fn := fun _ => fun
  | [d1, d2] => { results := [.lit (.bool false)], args := [d1, d2] }
  | _ => none }
def FnExactApplyToWrongFalsely : Prop := fnExactApplyToRow.holds Try.pinned (OpenSpec.ofChange fnExactApplyToWrong)

/-- 'laws.FnExactPeepholeOf': WHATEVER THE INPUT: true; the input reads as it did. -/
def fnExactPeepholeOfSpec : ChangeSpec := { name := "fnExactPeepholeOf", fn := fun _ => fun
  | [d] => { results := [.lit (.bool true)], args := [d] }
  | _ => none }
def fnExactPeepholeOfRow : OpenClaim := { program := "ytbjilpemckoioaa", sum := "3580088919eff330a1571ed54f365bd5035f8ceafb040f96ae3b20fd50446e17", func := "loop.example/g00333/laws.FnExactPeepholeOf", spec := "fnExactPeepholeOf", unfollowed := true, recurses := true, apart := false }
def FnExactPeepholeOfSaid : Prop := fnExactPeepholeOfRow.holds Try.pinned (OpenSpec.ofChange fnExactPeepholeOfSpec)

/-- ITS FALSE NEIGHBOUR: 'it returns false'. Refute it at one input. -/
def fnExactPeepholeOfWrong : ChangeSpec := { name := "fnExactPeepholeOf", fn := fun _ => fun
  | [d] => { results := [.lit (.bool false)], args := [d] }
  | _ => none }
def FnExactPeepholeOfWrongFalsely : Prop := fnExactPeepholeOfRow.holds Try.pinned (OpenSpec.ofChange fnExactPeepholeOfWrong)

/-- 'laws.FnExactNosOf': WHATEVER THE INPUT: true; the input reads as it did. -/
def fnExactNosOfSpec : ChangeSpec := { name := "fnExactNosOf", fn := fun _ => fun
  | [d] => { results := [.lit (.bool true)], args := [d] }
  | _ => none }
def fnExactNosOfRow : OpenClaim := { program := "ytbjilpemckoioaa", sum := "3580088919eff330a1571ed54f365bd5035f8ceafb040f96ae3b20fd50446e17", func := "loop.example/g00333/laws.FnExactNosOf", spec := "fnExactNosOf", unfollowed := true, recurses := true, apart := false }
def FnExactNosOfSaid : Prop := fnExactNosOfRow.holds Try.pinned (OpenSpec.ofChange fnExactNosOfSpec)

/-- ITS FALSE NEIGHBOUR: 'it returns false'. Refute it at one input. -/
def fnExactNosOfWrong : ChangeSpec := { name := "fnExactNosOf", fn := fun _ => fun
  | [d] => { results := [.lit (.bool false)], args := [d] }
  | _ => none }
def FnExactNosOfWrongFalsely : Prop := fnExactNosOfRow.holds Try.pinned (OpenSpec.ofChange fnExactNosOfWrong)

/-- 'laws.FnExactPutView': WHATEVER THE INPUT: true; the input reads as it did. -/
def fnExactPutViewSpec : ChangeSpec := { name := "fnExactPutView", fn := fun _ => fun
  | [d1, d2, d3] => { results := [.lit (.bool true)], args := [d1, d2, d3] }
  | _ => none }
def fnExactPutViewRow : OpenClaim := { program := "ytbjilpemckoioaa", sum := "3580088919eff330a1571ed54f365bd5035f8ceafb040f96ae3b20fd50446e17", func := "loop.example/g00333/laws.FnExactPutView", spec := "fnExactPutView", unfollowed := true, recurses := true, apart := false }
def FnExactPutViewSaid : Prop := fnExactPutViewRow.holds Try.pinned (OpenSpec.ofChange fnExactPutViewSpec)

/-- ITS FALSE NEIGHBOUR: 'it returns false'. Refute it at one input. -/
def fnExactPutViewWrong : ChangeSpec := { name := "fnExactPutView", fn := fun _ => fun
  | [d1, d2, d3] => { results := [.lit (.bool false)], args := [d1, d2, d3] }
  | _ => none }
def FnExactPutViewWrongFalsely : Prop := fnExactPutViewRow.holds Try.pinned (OpenSpec.ofChange fnExactPutViewWrong)

/-- 'laws.FnExactSortFields': WHATEVER THE INPUT: true; the input reads as it did. -/
def fnExactSortFieldsSpec : ChangeSpec := { name := "fnExactSortFields", fn := fun _ => fun
  | [d] => { results := [.lit (.bool true)], args := [d] }
  | _ => none }
def fnExactSortFieldsRow : OpenClaim := { program := "ytbjilpemckoioaa", sum := "3580088919eff330a1571ed54f365bd5035f8ceafb040f96ae3b20fd50446e17", func := "loop.example/g00333/laws.FnExactSortFields", spec := "fnExactSortFields", unfollowed := true, recurses := true, apart := false }
def FnExactSortFieldsSaid : Prop := fnExactSortFieldsRow.holds Try.pinned (OpenSpec.ofChange fnExactSortFieldsSpec)

/-- ITS FALSE NEIGHBOUR: 'it returns false'. Refute it at one input. -/
def fnExactSortFieldsWrong : ChangeSpec := { name := "fnExactSortFields", fn := fun _ => fun
  | [d] => { results := [.lit (.bool false)], args := [d] }
  | _ => none }
def FnExactSortFieldsWrongFalsely : Prop := fnExactSortFieldsRow.holds Try.pinned (OpenSpec.ofChange fnExactSortFieldsWrong)

/- THE SECOND FORM. 'bulk': how many values and letters a reading holds, each counted each time it is reached (what is shared counts as often as it is met; a slice's spare places count too). A statement '..UptoSaid' is the law's where the arguments, and the package variables that the reading takes, are together of bulk at most 1048576: NARROWER than '..Said'. Prove '..Said' where nothing that the law and all that it calls make is longer than what came in: it says more and counts as full. Else prove '..UptoSaid'. A law counts once. -/
mutual
def uptoBulk {H : Type} : DataW H → Nat
  | .lit (.string bytes) => bytes.length + 1
  | .lit _ => 1
  | .nil => 1
  | .ptr d => uptoBulk d + 1
  | .slice elems spare => uptoBulkAll elems + uptoBulkAll spare + 1
  | .agg parts => uptoBulkAll parts + 1
  | .iface _ d => uptoBulk d + 1
  | .map entries => uptoBulkEntries entries + 1
  | .held _ => 1
def uptoBulkAll {H : Type} : List (DataW H) → Nat
  | [] => 0
  | d :: r => uptoBulk d + uptoBulkAll r
def uptoBulkEntries {H : Type} : List (Lit × DataW H) → Nat
  | [] => 0
  | x :: r => uptoBulkEntry x + uptoBulkEntries r
def uptoBulkEntry {H : Type} : Lit × DataW H → Nat
  | (.string bytes, d) => bytes.length + uptoBulk d + 1
  | (_, d) => uptoBulk d + 1
 end
def uptoSmall : (H : Type) → List (DataW H) → Bool := fun _ ds => decide (uptoBulkAll ds ≤ 1048576)
def OpenSpec.upto (s : _root_.Go.ChangeSpec) : _root_.Go.OpenSpec := { _root_.Go.OpenSpec.ofChange s with cond := some uptoSmall }

/-- 'laws.FnExactGoodTerm', WHERE WHAT IT READS IS OF BULK AT MOST 1048576: true; the input reads as it did. -/
def fnExactGoodTermUptoRow : OpenClaim := { program := "ytbjilpemckoioaa", sum := "3580088919eff330a1571ed54f365bd5035f8ceafb040f96ae3b20fd50446e17", func := "loop.example/g00333/laws.FnExactGoodTerm", spec := "fnExactGoodTerm", recurses := true, apart := false, narrowed := true }
def FnExactGoodTermUptoSaid : Prop := fnExactGoodTermUptoRow.holds Try.pinned (OpenSpec.upto fnExactGoodTermSpec)

/-- 'laws.FnExactIsInstance', WHERE WHAT IT READS IS OF BULK AT MOST 1048576: true; the input reads as it did. -/
def fnExactIsInstanceUptoRow : OpenClaim := { program := "ytbjilpemckoioaa", sum := "3580088919eff330a1571ed54f365bd5035f8ceafb040f96ae3b20fd50446e17", func := "loop.example/g00333/laws.FnExactIsInstance", spec := "fnExactIsInstance", unfollowed := true, recurses := true, apart := false, narrowed := true }
def FnExactIsInstanceUptoSaid : Prop := fnExactIsInstanceUptoRow.holds Try.pinned (OpenSpec.upto fnExactIsInstanceSpec)

/-- 'laws.FnExactApplyTo', WHERE WHAT IT READS IS OF BULK AT MOST 1048576: true; the input reads as it did. -/
def fnExactApplyToUptoRow : OpenClaim := { program := "ytbjilpemckoioaa", sum := "3580088919eff330a1571ed54f365bd5035f8ceafb040f96ae3b20fd50446e17", func := "loop.example/g00333/laws.FnExactApplyTo", spec := "fnExactApplyTo", unfollowed := true, recurses := true, apart := false, narrowed := true }
def FnExactApplyToUptoSaid : Prop := fnExactApplyToUptoRow.holds Try.pinned (OpenSpec.upto fnExactApplyToSpec)

/-- 'laws.FnExactPeepholeOf', WHERE WHAT IT READS IS OF BULK AT MOST 1048576: true; the input reads as it did. -/
def fnExactPeepholeOfUptoRow : OpenClaim := { program := "ytbjilpemckoioaa", sum := "3580088919eff330a1571ed54f365bd5035f8ceafb040f96ae3b20fd50446e17", func := "loop.example/g00333/laws.FnExactPeepholeOf", spec := "fnExactPeepholeOf", unfollowed := true, recurses := true, apart := false, narrowed := true }
def FnExactPeepholeOfUptoSaid : Prop := fnExactPeepholeOfUptoRow.holds Try.pinned (OpenSpec.upto fnExactPeepholeOfSpec)

/-- 'laws.FnExactNosOf', WHERE WHAT IT READS IS OF BULK AT MOST 1048576: true; the input reads as it did. -/
def fnExactNosOfUptoRow : OpenClaim := { program := "ytbjilpemckoioaa", sum := "3580088919eff330a1571ed54f365bd5035f8ceafb040f96ae3b20fd50446e17", func := "loop.example/g00333/laws.FnExactNosOf", spec := "fnExactNosOf", unfollowed := true, recurses := true, apart := false, narrowed := true }
def FnExactNosOfUptoSaid : Prop := fnExactNosOfUptoRow.holds Try.pinned (OpenSpec.upto fnExactNosOfSpec)

/-- 'laws.FnExactPutView', WHERE WHAT IT READS IS OF BULK AT MOST 1048576: true; the input reads as it did. -/
def fnExactPutViewUptoRow : OpenClaim := { program := "ytbjilpemckoioaa", sum := "3580088919eff330a1571ed54f365bd5035f8ceafb040f96ae3b20fd50446e17", func := "loop.example/g00333/laws.FnExactPutView", spec := "fnExactPutView", unfollowed := true, recurses := true, apart := false, narrowed := true }
def FnExactPutViewUptoSaid : Prop := fnExactPutViewUptoRow.holds Try.pinned (OpenSpec.upto fnExactPutViewSpec)

/-- 'laws.FnExactSortFields', WHERE WHAT IT READS IS OF BULK AT MOST 1048576: true; the input reads as it did. -/
def fnExactSortFieldsUptoRow : OpenClaim := { program := "ytbjilpemckoioaa", sum := "3580088919eff330a1571ed54f365bd5035f8ceafb040f96ae3b20fd50446e17", func := "loop.example/g00333/laws.FnExactSortFields", spec := "fnExactSortFields", unfollowed := true, recurses := true, apart := false, narrowed := true }
def FnExactSortFieldsUptoSaid : Prop := fnExactSortFieldsUptoRow.holds Try.pinned (OpenSpec.upto fnExactSortFieldsSpec)

end Rows
end Go.Proofs.Ytbjilpemckoioaa
