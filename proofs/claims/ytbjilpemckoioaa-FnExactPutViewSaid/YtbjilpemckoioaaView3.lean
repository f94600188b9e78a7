/- ViewOf, of the program and of the reference. -/
import Derived.Test.YtbjilpemckoioaaView2
import Derived.Test.YtbjilpemckoioaaViewM
import Derived.Test.YtbjilpemckoioaaFieldsW
namespace Go.Proofs.Ytbjilpemckoioaa
open Go.RowKit
set_option linter.unusedVariables false
set_option maxRecDepth 100000
def viewB (l : List UInt8) (nos : List Int) : Bool := rfB l && risB nos
def viewR (l : List UInt8) (nos : List Int) : List UInt8 := if viewB l nos then flat (pick nos true (rfF l)) else []
theorem pick_ok {nos : List Int} {q : Bool} {l : List DField} (h : ∀ x ∈ l, fieldB x = true) : ∀ x ∈ pick nos q l, fieldB x = true := fun x hx => h x (List.mem_filter.1 hx).1
theorem pick_good {l : List UInt8} (nos : List Int) (q : Bool) : fieldsB (pick nos q (rfF l)) = true := by
  have h1 := pick_len nos q (rfF l)
  have h2 := rfF_len l
  simp only [fieldsB, Bool.and_eq_true, decide_eq_true_eq, Bool.not_eq_true', List.any_eq_false]
  exact ⟨by omega, fun x hx => by simp [fieldBad, pick_ok (rfF_ok l) x hx]⟩
theorem pick_flat (l : List UInt8) (nos : List Int) (q : Bool) : (flat (pick nos q (rfF l))).length ≤ 400 := Nat.le_trans (flat_filter_le _ _) (rfF_flat l)
end Go.Proofs.Ytbjilpemckoioaa
