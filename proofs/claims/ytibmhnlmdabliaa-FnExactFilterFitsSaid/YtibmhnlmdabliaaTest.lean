/- testOK and wantOK, instrOK: what a test, a want, an instruction must be; of the program and of the reference. -/
import Derived.Test.YtibmhnlmdabliaaWire
import Derived.Test.YtibmhnlmdabliaaNum
import Derived.Test.YtibmhnlmdabliaaInstr
import Derived.Test.YtibmhnlmdabliaaWant
import Derived.Deep.Light
namespace Go.Proofs.Ytibmhnlmdabliaa
open Go.RowKit
set_option linter.unusedVariables false
set_option maxRecDepth 100000
def emptyS (s : ByteArray) : Bool := s.toList.isEmpty
def testB (kind num : Int) (text : ByteArray) : Bool :=
  if kind = 1 ∨ kind = 2 ∨ kind = 3 then numB num && emptyS text
  else if kind = 4 then decide (num = 0) && emptyS text
  else if kind = 5 then decide (num = 0) && decide ((text.size : Int) ≤ 30)
  else false
set_option maxHeartbeats 800000 in
theorem testOK_same (kind num : Int) (text : ByteArray) (w : World) : Calls Try.prog 147 #[.int .i64 kind, .int .i64 num, .string text] w fun e w' => e = .returned (.bool (testB kind num text)) ∧ w = w' := by
  have c1 := hd (fun w => numberOK_i num w)
  generalize hn : numB num = nb at *
  replace hn := hd hn
  go_enter Try.func147, Try.ntmps147
  go_wp2_with (go_at_call 153; refine (c1.out _).mono ?_; rintro e w' ⟨rfl, rfl⟩)
  all_goals go_ret
  all_goals refine ⟨ret_bool ?_, rfl⟩
  all_goals go_light
  all_goals replace hn := hn.out
  all_goals simp_all [testB, emptyS]
theorem testOK_i (kind num : Int) (text : ByteArray) (w : World) : Calls Try.prog 147 #[.int .i64 kind, .int .i64 num, .string text] w (BoolPost (testB kind num text) w) :=
  (testOK_same kind num text w).mono fun e w' h => ⟨h.1, h.2 ▸ Below.refl _ _⟩

def instrP (c k no nu : Int) (t : ByteArray) (to i n : Int) : Prop :=
  ((c = 5) ↔ (i = n - 1)) ∧
  ((c = 1 ∧ 1 ≤ no ∧ no ≤ 30 ∧ k = 0 ∧ nu = 0 ∧ emptyS t = true ∧ to = 0) ∨
   (c = 2 ∧ no = 0 ∧ to = 0 ∧ testB k nu t = true) ∨
   (c = 3 ∧ 0 ≤ nu ∧ nu ≤ 1 ∧ i + 1 ≤ to ∧ to ≤ n - 1 ∧ k = 0 ∧ no = 0 ∧ emptyS t = true) ∨
   ((c = 4 ∨ c = 5) ∧ k = 0 ∧ no = 0 ∧ nu = 0 ∧ emptyS t = true ∧ to = 0))
instance (c k no nu : Int) (t : ByteArray) (to i n : Int) : Decidable (instrP c k no nu t to i n) := by unfold instrP; infer_instance
def instrB (x : DInstr) (i n : Int) : Bool := decide (instrP x.code x.kind x.no x.num x.text x.to i n)
set_option maxHeartbeats 1600000 in
theorem instrOK_i (c k no nu : Int) (t : ByteArray) (to i n : Int) (w : World) (hi0 : 0 ≤ i) (hi1 : i ≤ 1000000) (hn0 : 1 ≤ n) (hn1 : n ≤ 1000000) :
    Calls Try.prog 126 #[.agg #[.int .i64 c, .int .i64 k, .int .i64 no, .int .i64 nu, .string t, .int .i64 to], .int .i64 i, .int .i64 n] w (BoolPost (decide (instrP c k no nu t to i n)) w) := by
  have c1 := hd (fun w => testOK_i k nu t w)
  by_cases h1 : c = 1
  · subst h1
    go_enter Try.func126, Try.ntmps126
    go_wp2_with (first | (go_at_call 103; refine (within_i _ _ _ _ _ rfl).mono ?_; rintro e w' ⟨rfl, rfl⟩) | (go_at_call 147; refine (c1.out _).mono ?_; rintro e w' ⟨rfl, hb⟩; replace hb := hd hb))
    all_goals go_ret
    all_goals refine ⟨ret_bool ?_, below_a1 _⟩
    all_goals go_light
    all_goals (rw [Bool.eq_iff_iff]; simp_all [instrP, emptyS]; try omega)
  by_cases h2 : c = 2
  · subst h2
    clear h1
    go_enter Try.func126, Try.ntmps126
    go_wp2_with (first | (go_at_call 103; refine (within_i _ _ _ _ _ rfl).mono ?_; rintro e w' ⟨rfl, rfl⟩) | (go_at_call 147; refine (c1.out _).mono ?_; rintro e w' ⟨rfl, hb⟩; replace hb := hd hb))
    all_goals go_ret
    all_goals refine ⟨ret_bool ?_, (by first | exact below_a1 _ | exact (below_a1 _).next hb.out)⟩
    all_goals go_light
    all_goals (rw [Bool.eq_iff_iff]; simp_all [instrP, emptyS]; try omega)
  by_cases h3 : c = 3
  · subst h3
    clear h1 h2
    go_enter Try.func126, Try.ntmps126
    go_wp2_with (first | (go_at_call 103; refine (within_i _ _ _ _ _ rfl).mono ?_; rintro e w' ⟨rfl, rfl⟩) | (go_at_call 147; refine (c1.out _).mono ?_; rintro e w' ⟨rfl, hb⟩; replace hb := hd hb))
    all_goals go_ret
    all_goals refine ⟨ret_bool ?_, below_a1 _⟩
    all_goals go_light
    all_goals (rw [Bool.eq_iff_iff]; simp_all [instrP, emptyS]; try omega)
  by_cases h4 : c = 4
  · subst h4
    clear h1 h2 h3
    go_enter Try.func126, Try.ntmps126
    go_wp2_with (first | (go_at_call 103; refine (within_i _ _ _ _ _ rfl).mono ?_; rintro e w' ⟨rfl, rfl⟩) | (go_at_call 147; refine (c1.out _).mono ?_; rintro e w' ⟨rfl, hb⟩; replace hb := hd hb))
    all_goals go_ret
    all_goals refine ⟨ret_bool ?_, below_a1 _⟩
    all_goals go_light
    all_goals (rw [Bool.eq_iff_iff]; simp_all [instrP, emptyS]; try omega)
  by_cases h5 : c = 5
  · subst h5
    clear h1 h2 h3 h4
    go_enter Try.func126, Try.ntmps126
    go_wp2_with (first | (go_at_call 103; refine (within_i _ _ _ _ _ rfl).mono ?_; rintro e w' ⟨rfl, rfl⟩) | (go_at_call 147; refine (c1.out _).mono ?_; rintro e w' ⟨rfl, hb⟩; replace hb := hd hb))
    all_goals go_ret
    all_goals refine ⟨ret_bool ?_, below_a1 _⟩
    all_goals go_light
    all_goals (rw [Bool.eq_iff_iff]; simp_all [instrP, emptyS]; try omega)
  · have g1 : (c == 1) = false := by simpa using h1
    have g2 : (c == 2) = false := by simpa using h2
    have g3 : (c == 3) = false := by simpa using h3
    have g4 : (c == 4) = false := by simpa using h4
    have g5 : (c == 5) = false := by simpa using h5
    clear h1 h2 h3 h4 h5
    go_enter Try.func126, Try.ntmps126
    go_wp2_with (first | (go_at_call 103; refine (within_i _ _ _ _ _ rfl).mono ?_; rintro e w' ⟨rfl, rfl⟩) | (go_at_call 147; refine (c1.out _).mono ?_; rintro e w' ⟨rfl, hb⟩; replace hb := hd hb))
    all_goals go_ret
    all_goals refine ⟨ret_bool ?_, below_a1 _⟩
    all_goals go_light
    all_goals (rw [Bool.eq_iff_iff]; simp_all [instrP, emptyS]; try omega)
end Go.Proofs.Ytibmhnlmdabliaa
