/- Programs: GoodProgram and StepsOf, of the program and of the reference. -/
import Derived.Test.YtbjilpemckoioaaRecs
import Derived.Deep.Cut
import Derived.Deep.Light
import Derived.Deep.RegionHeld3
namespace Go.Proofs.Ytbjilpemckoioaa
open Go.RowKit
set_option linter.unusedVariables false
set_option maxRecDepth 100000

def instrSP (c k no nu : Int) (t : ByteArray) (to i n : Int) : Prop :=
  numB nu = true ∧ (t.size : Int) ≤ 30 ∧
  ((c = 1 ∧ (1 ≤ no ∧ no ≤ 30) ∧ k = 0 ∧ nu = 0 ∧ emptyS t = true ∧ to = 0) ∨
   (c = 2 ∧ (1 ≤ k ∧ k ≤ 5) ∧ no = 0 ∧ to = 0 ∧ (k ≤ 3 ∨ nu = 0) ∧ (k = 5 ∨ emptyS t = true)) ∨
   (c = 3 ∧ no = 0 ∧ k = 0 ∧ emptyS t = true ∧ (0 ≤ nu ∧ nu ≤ 1) ∧ i < to ∧ to < n) ∨
   ((c = 4 ∨ c = 5) ∧ no = 0 ∧ k = 0 ∧ emptyS t = true ∧ nu = 0 ∧ to = 0 ∧ (c = 4 ↔ i < n - 1)))
instance (c k no nu : Int) (t : ByteArray) (to i n : Int) : Decidable (instrSP c k no nu t to i n) := by unfold instrSP; infer_instance

theorem size_empty {t : ByteArray} (h : emptyS t = true) : t.size = 0 := by
  rw [emptyS, List.isEmpty_iff] at h
  have h2 : t.data.toList = [] := by rw [← ByteArray.toList_eq]; exact h
  show t.data.size = 0
  have := congrArg List.length h2; simpa using this
theorem testB_iff (k nu : Int) (t : ByteArray) : testB k nu t = true ↔ ((1 ≤ k ∧ k ≤ 3 ∧ numB nu = true ∧ emptyS t = true) ∨ (k = 4 ∧ nu = 0 ∧ emptyS t = true) ∨ (k = 5 ∧ nu = 0 ∧ (t.size : Int) ≤ 30)) := by
  unfold testB
  by_cases h1 : k = 1 ∨ k = 2 ∨ k = 3
  · rw [if_pos h1, Bool.and_eq_true]
    constructor
    · rintro ⟨a, b⟩; exact .inl ⟨by omega, by omega, a, b⟩
    · rintro (⟨_, _, a, b⟩ | ⟨a, _⟩ | ⟨a, _⟩)
      · exact ⟨a, b⟩
      · omega
      · omega
  · rw [if_neg h1]
    by_cases h2 : k = 4
    · rw [if_pos h2, Bool.and_eq_true, decide_eq_true_eq]
      constructor
      · rintro ⟨a, b⟩; exact .inr (.inl ⟨h2, a, b⟩)
      · rintro (⟨_, _, a, b⟩ | ⟨_, a, b⟩ | ⟨a, _⟩)
        · omega
        · exact ⟨a, b⟩
        · omega
    · rw [if_neg h2]
      by_cases h3 : k = 5
      · rw [if_pos h3, Bool.and_eq_true, decide_eq_true_eq, decide_eq_true_eq]
        constructor
        · rintro ⟨a, b⟩; exact .inr (.inr ⟨h3, a, b⟩)
        · rintro (⟨_, _, a, b⟩ | ⟨_, a, b⟩ | ⟨_, a, b⟩)
          · omega
          · omega
          · exact ⟨a, b⟩
      · rw [if_neg h3]
        constructor
        · intro h; cases h
        · rintro (⟨_, _, a, b⟩ | ⟨_, a, b⟩ | ⟨_, a, b⟩) <;> omega
theorem instr_same (c k no nu : Int) (t : ByteArray) (to i n : Int) (h0 : 0 ≤ i) (h1 : i < n) :
    (instrSP c k no nu t to i n ∧ ¬ (i = n - 1 ∧ ¬ c = 5)) ↔ instrP c k no nu t to i n := by
  have he : emptyS t = true → (t.size : Int) = 0 := fun h => by rw [size_empty h]; rfl
  have hnz : nu = 0 → numB nu = true := fun h => by subst h; decide
  have hn01 : 0 ≤ nu ∧ nu ≤ 1 → numB nu = true := fun h => by simp [numB]; omega
  unfold instrSP instrP
  rw [testB_iff]
  generalize emptyS t = E at *
  generalize numB nu = B at *
  generalize (t.size : Int) = z at *
  have hcases : c = 1 ∨ c = 2 ∨ c = 3 ∨ c = 4 ∨ c = 5 ∨ (¬ c = 1 ∧ ¬ c = 2 ∧ ¬ c = 3 ∧ ¬ c = 4 ∧ ¬ c = 5) := by omega
  rcases hcases with rfl | rfl | rfl | rfl | rfl | ⟨g1, g2, g3, g4, g5⟩
  · cases E <;> cases B <;> simp at * <;> omega
  · cases E <;> cases B <;> simp at * <;> omega
  · cases E <;> cases B <;> simp at * <;> omega
  · cases E <;> cases B <;> simp at * <;> omega
  · cases E <;> cases B <;> simp at * <;> omega
  · simp [g1, g2, g3, g4, g5]

end Go.Proofs.Ytbjilpemckoioaa
