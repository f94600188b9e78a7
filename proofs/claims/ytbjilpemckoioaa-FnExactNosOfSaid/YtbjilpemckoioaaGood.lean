/- What the wants of a good filter are, each. -/
import Derived.Test.YtbjilpemckoioaaFilter2
namespace Go.Proofs.Ytbjilpemckoioaa
open Go.RowKit
set_option linter.unusedVariables false
def okAll (l : List DWant) : Prop := ∀ i (h : i < l.length), wantP l[i].kind l[i].no l[i].num l[i].text l[i].a l[i].b (i : Int)
theorem good_all {l : List DWant} (h : goodFilter l = true) : okAll l := by
  intro i hi
  simp only [goodFilter, Bool.and_eq_true, Bool.not_eq_true'] at h
  have := h.1.2
  rw [List.any_eq_false] at this
  have h2 := this (l[i], i) (by rw [← zi_get hi (by simpa using hi)]; exact List.getElem_mem _)
  simpa [wantBad] using h2
theorem want_cases {x : DWant} {i : Int} (h : wantP x.kind x.no x.num x.text x.a x.b i) : (x.kind = 6 ∧ 0 ≤ x.a ∧ x.a < x.b ∧ x.b < i) ∨ (x.kind = 7 ∧ 0 ≤ x.a ∧ x.a < x.b ∧ x.b < i) ∨ (x.kind = 8 ∧ 0 ≤ x.a ∧ x.a < i ∧ x.b = 0) ∨ (x.kind < 6 ∧ x.a = 0 ∧ x.b = 0) := by
  rcases h with ⟨h, _, _, _, h1, h2, h3⟩ | ⟨h, _, _, _, h1, h2⟩ | ⟨h1, h2, h3, _, h, h4, h5⟩
  · omega
  · omega
  · have : x.kind < 6 := by rcases (testB_iff _ _ _).1 h with h | h | h <;> omega
    omega
theorem good_uses {l : List DWant} (h : goodFilter l = true) : ∀ x ∈ (usesUpto l l.length).take (l.length - 1), x = 1 := by
  intro x hx
  simp only [goodFilter, Bool.and_eq_true, Bool.not_eq_true'] at h
  have := h.2
  rw [List.any_eq_false] at this
  simpa [notOne] using this x hx
end Go.Proofs.Ytbjilpemckoioaa
