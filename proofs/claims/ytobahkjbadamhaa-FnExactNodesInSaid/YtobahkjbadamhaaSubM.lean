/- Whether each value of a type is one of another's: plain. -/
import Derived.Test.YtobahkjbadamhaaKindW
namespace Go.Proofs.Ytobahkjbadamhaa
open Go.RowKit
set_option linter.unusedVariables false
def byNo (n : Int) (x : K) : Bool := x.no == n
mutual
/-- b's and then a. -/
def subB : K → K → Bool
  | .mk o _ _ _ mo ps => fun a => (a.of == o) && !((o == 3) && decide (mo < a.most)) && (if o = 4 then subH ps a else subL ps a)
def subH : List K → K → Bool
  | [] => fun _ => true
  | y :: _ => fun a => match a.parts with
    | [] => true
    | x :: _ => subB y x
def subL : List K → K → Bool
  | [] => fun _ => true
  | y :: ys => fun a => (match a.parts.find? (byNo y.no) with
    | none => false
    | some x => !(y.must && !x.must) && subB y x) && subL ys a
end
def stepB (a y : K) : Bool := match a.parts.find? (byNo y.no) with
    | none => false
    | some x => !(y.must && !x.must) && subB y x
theorem subL_all (a : K) : ∀ ys : List K, subL ys a = ys.all (stepB a) := by
  intro ys
  induction ys with
  | nil => rw [subL]; rfl
  | cons y ys ih => rw [subL, List.all_cons, ← ih, stepB]
theorem subB_eq (a b : K) : subB b a = ((a.of == b.of) && !((b.of == 3) && decide (b.most < a.most)) && (if b.of = 4 then subH b.parts a else b.parts.all (stepB a))) := by
  obtain ⟨o, nm, no, mu, mo, ps⟩ := b
  show subB (.mk o nm no mu mo ps) a = ((a.of == o) && !((o == 3) && decide (mo < a.most)) && (if o = 4 then subH ps a else ps.all (stepB a)))
  rw [← subL_all, subB]
/-- The first part with a number. -/
def firstP (ps : List K) (no : Int) (j : Nat) : Prop := ∃ h : j < ps.length, ps[j].no = no ∧ ∀ i (hi : i < j), ps[i].no ≠ no
def noneP (ps : List K) (no : Int) : Prop := ∀ i (h : i < ps.length), ps[i].no ≠ no
theorem first_or (ps : List K) (no : Int) : (∃ j, firstP ps no j) ∨ noneP ps no := by
  induction ps with
  | nil => exact .inr (fun i h => by simp at h)
  | cons p ps ih =>
    by_cases hp : p.no = no
    · exact .inl ⟨0, by simp, hp, fun i hi => by omega⟩
    · rcases ih with ⟨j, h1, h2, h3⟩ | h
      · refine .inl ⟨j + 1, by simpa using h1, by simpa using h2, fun i hi => ?_⟩
        cases i with
        | zero => exact hp
        | succ i => simpa using h3 i (by omega)
      · refine .inr (fun i hi => ?_)
        cases i with
        | zero => exact hp
        | succ i => simpa using h i (by simpa using hi)
theorem find_first {ps : List K} {no : Int} {j : Nat} (h : firstP ps no j) : ps.find? (byNo no) = some (ps[j]'h.1) := by
  obtain ⟨h1, h2, h3⟩ := h
  rw [List.find?_eq_some_iff_getElem]
  exact ⟨by simp [byNo, h2], j, h1, rfl, fun i hi => by simp [byNo]; exact h3 i hi⟩
theorem find_none {ps : List K} {no : Int} (h : noneP ps no) : ps.find? (byNo no) = none := by
  rw [List.find?_eq_none]
  intro x hx
  obtain ⟨i, hi, rfl⟩ := List.getElem_of_mem hx
  simp [byNo]; exact h i hi
theorem step_first {a y : K} {j : Nat} (h : firstP a.parts y.no j) : stepB a y = (!(y.must && !(a.parts[j]'h.1).must) && subB y (a.parts[j]'h.1)) := by rw [stepB, find_first h]
theorem step_none {a y : K} (h : noneP a.parts y.no) : stepB a y = false := by rw [stepB, find_none h]
theorem fidx_first {α : Type} {p : α → Bool} {l : List α} {j : Nat} (hj : j < l.length) (h1 : p l[j] = true) (h2 : ∀ i (hi : i < j), p (l[i]'(by omega)) = false) : fidx p l = (j : Int) := fidx_hit hj (fun i hi hij => h2 i hij) h1
theorem right_most {t : K} (h : rightK t) (h3 : t.of ≠ 3) : t.most = 0 := by
  rcases h.ok.1 with ⟨_, g, _⟩ | ⟨g, _⟩ | ⟨_, g, _⟩ | ⟨_, g, _⟩
  · exact g
  · exact absurd g h3
  · exact g
  · exact g
theorem right_one {t : K} (h : rightK t) (h4 : t.of = 4) : ∃ x, t.parts = [x] := by
  rcases h.ok.1 with ⟨g, _⟩ | ⟨g, _⟩ | ⟨_, _, g⟩ | ⟨g, _⟩
  · omega
  · omega
  · match hp : t.parts, g with
    | [x], _ => exact ⟨x, rfl⟩
  · omega
theorem right_part {t p : K} (h : rightK t) (hp : p ∈ t.parts) : rightK p := h.ok.2.2 p hp
end Go.Proofs.Ytobahkjbadamhaa
