/- A region that draws its order, that only reads, and whose callees leave what was there as it was. -/
import Derived.Test.YtbjilpemckoioaaDoorBases
import Derived.Deep.QuietTactic
import Derived.BigQuiet
namespace Go.Proofs.YtbjilpemckoioaaDoor
open Go.RowKit
/-- A world in which all that lay in w is as it was. -/
structure BB (w : World) where
  v : World
  h : Below w.heap.size w v
instance (w : World) : Inhabited (BB w) := ⟨⟨w, Below.refl _ _⟩⟩
theorem wp_region_below {P : Program} {id : Nat} {Q : Exit → Act → World → Prop} {a : Act} {w : World} {l : List Oper} (hm : P.follows .mixedOrders = true) (hB : Region.lexB .any l.toArray = true)
    (h : wpQuiet P l.toArray (fun w' => ∃ p : BB w, w' = p.v) (fun a' => ∀ w', (∃ p : BB w, w' = p.v) → Q .normal a' w') l a) : (Code.region id l.toArray true).wp P Q a w :=
  wp_region_quiet (C := fun w' => ∃ p : BB w, w' = p.v) hm hB ⟨⟨w.drew, (Below.refl _ w).drew⟩, rfl⟩ (by simpa using h)
theorem callsB {P : Program} {f : FuncId} {args : Array Value} {w : World} {p : BB w} {v : Value}
    (h : Calls P f args p.v fun e w' => e = .returned v ∧ Below p.v.heap.size p.v w') : Calls P f args p.v fun e w'' => e = .returned v ∧ ∃ q : BB w, w'' = q.v :=
  h.mono fun _ _ ⟨he, hb⟩ => ⟨he, ⟨_, p.h.next hb⟩, rfl⟩
theorem cellB {w : World} {a : Addr} {v : Value} (h : w.cell? a = some v) (p : BB w) : p.v.cell? a = some v := keepCell p.h h
end Go.Proofs.YtbjilpemckoioaaDoor
