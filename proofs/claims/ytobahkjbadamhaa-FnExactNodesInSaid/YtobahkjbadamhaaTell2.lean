/- A part of a good tree of types is good as a whole: plain. -/
import Derived.Test.YtobahkjbadamhaaTell
import Derived.Test.YtobahkjbadamhaaSubM
namespace Go.Proofs.Ytobahkjbadamhaa
open Go.RowKit
set_option linter.unusedVariables false
theorem deepL_part {ps : List K} {p : K} (h : p ∈ ps) : deepK p ≤ deepL ps := by
  induction ps with
  | nil => cases h
  | cons q qs ih =>
    rw [deepL]
    rcases List.mem_cons.1 h with rfl | h
    · omega
    · have := ih h; omega
theorem up1_ge (o d : Int) : d ≤ up1 o d := by
  unfold up1
  split <;> omega
theorem in_le {s t : K} (h : InK s t) : countK s ≤ countK t ∧ deepK s ≤ deepK t := by
  induction h with
  | self t => exact ⟨Nat.le_refl _, Int.le_refl _⟩
  | part o nm no mu mo ps p s hp _ ih =>
    have h1 := count_part hp
    have h2 := deepL_part hp
    have h3 := up1_ge o (deepL ps)
    rw [countK, deepK]
    omega
theorem whole_good {s t : K} (h : goodK t) (hi : InK s t) (h5 : s.of = 5) : goodK (wholeK s) := by
  obtain ⟨_, _, hr, hd5, hc⟩ := h
  have hl := in_le hi
  have e1 : (wholeK s).of = 5 := by cases s; exact h5
  have e2 : deepK (wholeK s) = deepK s := by obtain ⟨o, nm, no, mu, mo, ps⟩ := s; rw [wholeK, deepK, deepK]
  have e3 : countK (wholeK s) = countK s := by obtain ⟨o, nm, no, mu, mo, ps⟩ := s; rw [wholeK, countK, countK]
  exact ⟨e1, by cases s; exact ⟨rfl, rfl, rfl⟩, whole_right (rightK.in hi hr), by omega, by omega⟩
mutual
/-- What two types have in common as types. -/
def joinK : K → K → Option K
  | .mk o nm no mu mo ps => fun b => if o = b.of then (if o = 4 then (joinH ps b).map (fun p => .mk o nm no (mu && b.must) (max mo b.most) [p]) else some (.mk o nm no (mu && b.must) (max mo b.most) (joinL ps b))) else none
def joinH : List K → K → Option K
  | [] => fun _ => none
  | x :: _ => fun b => match b.parts with
    | [] => none
    | y :: _ => joinK x y
def joinL : List K → K → List K
  | [] => fun _ => []
  | x :: xs => fun b => (match b.parts.find? (byNo x.no) with
    | none => []
    | some y => (joinK x y).toList) ++ joinL xs b
end
end Go.Proofs.Ytobahkjbadamhaa
