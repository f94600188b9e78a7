/- Programs: the reference's test of an instruction. -/
import Derived.Test.YtbjilpemckoioaaProgram
namespace Go.Proofs.Ytbjilpemckoioaa
open Go.RowKit
set_option linter.unusedVariables false
set_option maxRecDepth 100000
set_option maxHeartbeats 1600000 in
theorem instr_s (c k no nu : Int) (t : ByteArray) (to i n : Int) (w : World) (hi0 : 0 ≤ i) (hi1 : i ≤ 1000000) (hn0 : 1 ≤ n) (hn1 : n ≤ 1000000) :
    Calls Try.prog 119 #[.agg #[.int .i64 c, .int .i64 k, .int .i64 no, .int .i64 nu, .string t, .int .i64 to], .int .i64 i, .int .i64 n] w (BoolPost (decide (instrSP c k no nu t to i n)) w) := by
  cases hnb : numB nu with
  | false =>
    have c1 := hd (fun w => number_s nu w)
    rw [hnb] at c1
    replace hnb := hd hnb
    go_enter Try.func119, Try.ntmps119
    go_wp2_with (first | (go_at_call 147; refine (c1.out _).mono ?_; rintro e w' ⟨rfl, rfl⟩))
    all_goals go_ret
    all_goals refine ⟨ret_bool ?_, below_a1 _⟩
    all_goals go_light
    all_goals replace hnb := hnb.out
    all_goals (rw [Bool.eq_iff_iff]; simp_all [instrSP, emptyS])
  | true =>
    have c1 := hd (fun w => number_s nu w)
    rw [hnb] at c1
    replace hnb := hd hnb
    by_cases h1 : c = 1 ∨ c = 2 ∨ c = 3 ∨ c = 4 ∨ c = 5
    · rcases h1 with h1 | h1 | h1 | h1 | h1
      all_goals
        subst h1
        go_enter Try.func119, Try.ntmps119
        go_wp2_with (first | (go_at_call 147; refine (c1.out _).mono ?_; rintro e w' ⟨rfl, rfl⟩) | (go_at_call 118; refine (within_s _ _ _ _ _ rfl).mono ?_; rintro e w' ⟨rfl, rfl⟩))
        all_goals go_ret
        all_goals refine ⟨ret_bool ?_, below_a1 _⟩
        all_goals go_light
        all_goals replace hnb := hnb.out
        all_goals (rw [Bool.eq_iff_iff]; simp_all [instrSP, emptyS]; try omega)
    · have g1 : (c == 1) = false := by simp; omega
      have g2 : (c == 2) = false := by simp; omega
      have g3 : (c == 3) = false := by simp; omega
      have g4 : (c == 4) = false := by simp; omega
      have g5 : (c == 5) = false := by simp; omega
      clear h1
      go_enter Try.func119, Try.ntmps119
      go_wp2_with (first | (go_at_call 147; refine (c1.out _).mono ?_; rintro e w' ⟨rfl, rfl⟩))
      all_goals go_ret
      all_goals refine ⟨ret_bool ?_, below_a1 _⟩
      all_goals go_light
      all_goals replace hnb := hnb.out
      all_goals (rw [Bool.eq_iff_iff]; simp_all [instrSP, emptyS]; try omega)
end Go.Proofs.Ytbjilpemckoioaa
