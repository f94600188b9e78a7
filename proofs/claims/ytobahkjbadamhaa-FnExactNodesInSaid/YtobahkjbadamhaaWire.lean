/- The walks of the wire numbers: within, fold, unfold, varint, takeVarint, of the program and of the reference. -/
import Derived.Test.YtobahkjbadamhaaRows
import Derived.Test.YtobahkjbadamhaaBase
import Derived.Test.YtobahkjbadamhaaWireM
import Derived.Outline
namespace Go.Proofs.Ytobahkjbadamhaa
open Go.RowKit
set_option linter.unusedVariables false
set_option maxRecDepth 100000

def unf (n : Int) : Int := if n % 2 = 1 then -((n+1)/2) else n / 2
def fld (n : Int) : Int := if n < 0 then -2 * n - 1 else 2 * n
theorem unf1 (n : Int) (h0 : 0 ≤ n) (h1 : n ≤ 1000000000000) (h : (n % 2 == 1) = true) : wrap64 (-(n + 1).tdiv 2) = unf n := by
  have : n % 2 = 1 := by simpa using h
  have e : (n+1).tdiv 2 = (n+1)/2 := Int.tdiv_eq_ediv_of_nonneg (by omega)
  rw [e, IntWalk.wrap64_in _ (by omega), unf, if_pos this]
theorem unf0 (n : Int) (h : (n % 2 == 1) = false) : n / 2 = unf n := by
  have : ¬ n % 2 = 1 := by simpa using h
  rw [unf, if_neg this]
theorem unf1' (n : Int) (h0 : 0 ≤ n) (h1 : n ≤ 1000000000000) (h : (n % 2 == 0) = false) : wrap64 (-(n + 1).tdiv 2) = unf n :=
  unf1 n h0 h1 (by simp at h ⊢; omega)
theorem unf0' (n : Int) (h : (n % 2 == 0) = true) : n / 2 = unf n := unf0 n (by simp at h ⊢; omega)
theorem unf_bd (n : Int) (h0 : 0 ≤ n) (h1 : n ≤ 1000000000000) : -500000000000 ≤ unf n ∧ unf n ≤ 500000000000 := by
  unfold unf; split <;> omega

theorem unfold_i (n : Int) (w : World) (h0 : 0 ≤ n) (h1 : n ≤ 1000000000000) :
    Calls Try.prog 150 #[.int .i64 n] w fun e w' => e = .returned (.int .i64 (unf n)) ∧ w = w' := by
  go_enter Try.func150, Try.ntmps150
  go_wp2
  · go_ret
    exact ⟨ret_int (unf1 n h0 h1 ‹_›), rfl⟩
  · go_ret
    exact ⟨ret_int (unf0 n ‹_›), rfl⟩
theorem unfold_s (n : Int) (w : World) (h0 : 0 ≤ n) (h1 : n ≤ 1000000000000) :
    Calls Try.prog 134 #[.int .i64 n] w fun e w' => e = .returned (.int .i64 (unf n)) ∧ w = w' := by
  go_enter Try.func134, Try.ntmps134
  go_wp2
  · go_ret
    exact ⟨ret_int (unf0' n ‹_›), rfl⟩
  · go_ret
    exact ⟨ret_int (unf1' n h0 h1 ‹_›), rfl⟩

theorem fold_i (n : Int) (w : World) (h0 : -1000000000000 ≤ n) (h1 : n ≤ 1000000000000) :
    Calls Try.prog 142 #[.int .i64 n] w fun e w' => e = .returned (.int .i64 (fld n)) ∧ w = w' := by
  go_enter Try.func142, Try.ntmps142
  go_wp2
  · go_ret
    exact ⟨ret_int (by rw [fld, if_pos ‹_›]), rfl⟩
  · go_ret
    exact ⟨ret_int (by rw [fld, if_neg (by omega)]), rfl⟩
theorem fold_s (n : Int) (w : World) (h0 : -1000000000000 ≤ n) (h1 : n ≤ 1000000000000) :
    Calls Try.prog 119 #[.int .i64 n] w fun e w' => e = .returned (.int .i64 (fld n)) ∧ w = w' := by
  go_enter Try.func119, Try.ntmps119
  go_wp2
  · go_ret
    exact ⟨ret_int (by rw [fld, if_neg (by omega)]), rfl⟩
  · go_ret
    exact ⟨ret_int (by rw [fld, if_pos (by omega)]), rfl⟩

/-- 'within', with its answer as a name of its own. -/
theorem within_i (n lo hi : Int) (w : World) (b : Bool) (hb : decide (lo ≤ n ∧ n ≤ hi) = b) :
    Calls Try.prog 55 #[.int .i64 n, .int .i64 lo, .int .i64 hi] w fun e w' => e = .returned (.bool b) ∧ w = w' := by
  by_cases h1 : lo ≤ n
  · by_cases h2 : n ≤ hi
    · obtain rfl : b = true := by rw [← hb]; simp [h1, h2]
      go_enter Try.func55, Try.ntmps55
      go_wp2
      go_ret
      exact ⟨rfl, rfl⟩
    · obtain rfl : b = false := by rw [← hb]; simp [h2]
      go_enter Try.func55, Try.ntmps55
      go_wp2
      go_ret
      exact ⟨rfl, rfl⟩
  · obtain rfl : b = false := by rw [← hb]; simp [h1]
    go_enter Try.func55, Try.ntmps55
    go_wp2
    go_ret
    exact ⟨rfl, rfl⟩
theorem within_s (n lo hi : Int) (w : World) (b : Bool) (hb : decide (lo ≤ n ∧ n ≤ hi) = b) :
    Calls Try.prog 92 #[.int .i64 n, .int .i64 lo, .int .i64 hi] w fun e w' => e = .returned (.bool b) ∧ w = w' := by
  by_cases h1 : lo ≤ n
  · by_cases h2 : n ≤ hi
    · obtain rfl : b = true := by rw [← hb]; simp [h1, h2]
      go_enter Try.func92, Try.ntmps92
      go_wp2
      go_ret
      exact ⟨rfl, rfl⟩
    · obtain rfl : b = false := by rw [← hb]; simp [h2]
      go_enter Try.func92, Try.ntmps92
      go_wp2
      go_ret
      exact ⟨rfl, rfl⟩
  · obtain rfl : b = false := by rw [← hb]; simp [h1]
    go_enter Try.func92, Try.ntmps92
    go_wp2
    go_ret
    exact ⟨rfl, rfl⟩
end Go.Proofs.Ytobahkjbadamhaa
