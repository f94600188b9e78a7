/- The bounds of numbers. -/
import Derived.Test.YtaadjpdghikkmaaWire
import Derived.Test.YtaadjpdghikkmaaSl
namespace Go.Proofs.Ytaadjpdghikkmaa
open Go.RowKit
set_option linter.unusedVariables false
set_option maxRecDepth 100000
def numB (n : Int) : Bool := decide (-1000000000 ≤ n ∧ n ≤ 1000000000)
theorem numberOK_i (n : Int) (w : World) : Calls Try.prog 130 #[.int .i64 n] w fun e w' => e = .returned (.bool (numB n)) ∧ w = w' := by
  go_enter Try.func130, Try.ntmps130
  go_wp2_with (go_at_call 81; refine (within_i _ _ _ _ (numB n) rfl).mono ?_; rintro e w' ⟨rfl, rfl⟩)
  go_ret
  exact ⟨rfl, rfl⟩
theorem number_s (n : Int) (w : World) : Calls Try.prog 114 #[.int .i64 n] w fun e w' => e = .returned (.bool (numB n)) ∧ w = w' := by
  go_enter Try.func114, Try.ntmps114
  go_wp2_with (go_at_call 60; refine (within_s _ _ _ _ (numB n) rfl).mono ?_; rintro e w' ⟨rfl, rfl⟩)
  go_ret
  exact ⟨rfl, rfl⟩
end Go.Proofs.Ytaadjpdghikkmaa
