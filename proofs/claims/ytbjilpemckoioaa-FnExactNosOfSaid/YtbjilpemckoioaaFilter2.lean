/- NotFilter of the program and of the reference. -/
import Derived.Test.YtbjilpemckoioaaFilterS
import Derived.Test.YtbjilpemckoioaaBases
import Derived.Deep.RegionHeld3
import Derived.Deep.Cut
namespace Go.Proofs.Ytbjilpemckoioaa
open Go.RowKit
set_option linter.unusedVariables false
set_option maxRecDepth 100000

def wNot (a : Int) : DWant := ⟨8, 0, 0, ⟨#[]⟩, a, 0⟩
def notL (l : List DWant) : List DWant := l ++ [wNot ((l.length : Int) - 1)]
def notRB (l : List DWant) : Bool := goodFilter l && decide (l.length + 1 ≤ 20)
def notR (l : List DWant) : List DWant := if notRB l then notL l else []
theorem good_len {l : List DWant} (h : goodFilter l = true) : 1 ≤ l.length ∧ l.length ≤ 20 := by
  simp only [goodFilter, Bool.and_eq_true, decide_eq_true_eq] at h
  exact h.1.1
theorem DWant.enc_one (l : List DWant) : ∀ u ∈ (l.map DWant.enc).flatten, u.oneCell' = true := by
  intro u hu
  obtain ⟨r, hr, hu⟩ := List.mem_flatten.1 hu
  obtain ⟨x, _, rfl⟩ := List.mem_map.1 hr
  simp only [DWant.enc, List.mem_cons, List.not_mem_nil, or_false] at hu
  rcases hu with rfl | rfl | rfl | rfl | rfl | rfl <;> rfl
end Go.Proofs.Ytbjilpemckoioaa
