/- The rows of a tree of types, in the order in which a schema holds them: plain. -/
import Derived.Test.YtobahkjbadamhaaKindG
namespace Go.Proofs.Ytobahkjbadamhaa
open Go.RowKit
set_option linter.unusedVariables false
mutual
def rowsK : K → Int → Nat → List DType
  | .mk o nm no mu mo ps => fun up q => ⟨o, nm, no, mu, up, mo⟩ :: rowsL ps q (q + 1)
def rowsL : List K → Nat → Nat → List DType
  | [] => fun _ _ => []
  | p :: ps => fun up q => rowsK p up q ++ rowsL ps up (q + countK p)
end
theorem rowsL_count : ∀ ps : List K, (∀ p ∈ ps, ∀ up q, (rowsK p up q).length = countK p) → ∀ up q, (rowsL ps up q).length = countL ps := by
  intro ps
  induction ps with
  | nil => intro _ up q; simp only [rowsL, countL, List.length_nil]
  | cons p ps ih =>
    intro h up q
    rw [rowsL, countL, List.length_append, h p (by simp), ih (fun p' hp' => h p' (by simp [hp']))]
theorem rows_count (t : K) : ∀ up q, (rowsK t up q).length = countK t := by
  refine K.ind (P := fun t => ∀ up q, (rowsK t up q).length = countK t) ?_ t
  intro o nm no mu mo ps ih up q
  rw [rowsK, countK, List.length_cons, rowsL_count ps ih]
  omega
def parL (l : List DType) (t : K) (up : Int) (q : Nat) : Prop := ∃ pre post, l = pre ++ rowsK t up q ++ post ∧ pre.length = q
theorem rowsL_enc {l : List DType} (a : Nat) : ∀ ps : List K, (∀ p ∈ ps, ∀ pre post up, l = pre ++ rowsK p up pre.length ++ post → enc l p pre.length (pre.length + countK p)) →
    ∀ pre post, l = pre ++ rowsL ps a pre.length ++ post → encL l ps a pre.length (pre.length + countL ps) := by
  intro ps
  induction ps with
  | nil => intro _ pre post _; rw [encL, countL]; rfl
  | cons p ps ih =>
    intro h pre post hl
    rw [rowsL] at hl
    rw [encL, countL]
    have h1 : l = pre ++ rowsK p a pre.length ++ (rowsL ps a (pre.length + countK p) ++ post) := by rw [hl]; simp
    have hlen : (pre ++ rowsK p (a : Int) pre.length).length = pre.length + countK p := by rw [List.length_append, rows_count]
    have h2 : l = (pre ++ rowsK p a pre.length) ++ rowsL ps a (pre ++ rowsK p (a : Int) pre.length).length ++ post := by rw [hlen, hl]; simp
    refine ⟨pre.length + countK p, ?_, h p (by simp) pre _ a h1, ?_⟩
    · obtain ⟨o, nm, no, mu, mo, qs⟩ := p
      rw [rowsK] at h1
      have hlt : pre.length < l.length := by rw [h1]; simp
      rw [U_at hlt]
      have : l[pre.length]? = some ⟨o, nm, no, mu, (a : Int), mo⟩ := by rw [h1]; simp
      rw [List.getElem?_eq_getElem hlt] at this
      rw [Option.some.inj this]
    · have := ih (fun p' hp' => h p' (by simp [hp'])) _ post h2
      rw [hlen, Nat.add_assoc] at this
      exact this
theorem rows_enc {l : List DType} (t : K) : rightK t → ∀ pre post up, l = pre ++ rowsK t up pre.length ++ post → enc l t pre.length (pre.length + countK t) := by
  refine K.ind (P := fun t => rightK t → ∀ pre post up, l = pre ++ rowsK t up pre.length ++ post → enc l t pre.length (pre.length + countK t)) ?_ t
  intro o nm no mu mo ps ih hr pre post up hl
  have hok := hr.ok
  rw [enc, countK]
  rw [rowsK] at hl
  refine ⟨⟨_, by rw [hl]; simp; rfl, rfl, rfl, rfl, rfl, rfl⟩, ?_, ?_⟩
  · rcases hok.1 with ⟨_, _, g⟩ | ⟨_, _, g⟩ | ⟨g, _⟩ | ⟨g, _⟩
    · exact .inr g
    · exact .inr g
    · exact .inl (holds_iff.2 (.inl g))
    · exact .inl (holds_iff.2 (.inr g))
  · have h2 : l = (pre ++ [⟨o, nm, no, mu, up, mo⟩]) ++ rowsL ps pre.length (pre ++ [(⟨o, nm, no, mu, up, mo⟩ : DType)]).length ++ post := by
      rw [hl]; simp
    have := rowsL_enc pre.length ps (fun p hp pre' post' up' h' => ih p hp (hok.2.2 p hp) pre' post' up' h') _ post h2
    simp only [List.length_append, List.length_singleton] at this
    rw [← Nat.add_assoc]
    exact this
theorem good_rows {t : K} (h : goodK t) : goodP (rowsK t (-1) 0) := by
  obtain ⟨h5, hb, hr, hd5, hc⟩ := h
  have hlen := rows_count t (-1) 0
  have he : enc (rowsK t (-1) 0) t 0 (rowsK t (-1) 0).length := by
    have := rows_enc (l := rowsK t (-1) 0) t hr [] [] (-1) (by simp)
    rw [hlen]
    simpa using this
  have h1 : 1 ≤ countK t := by obtain ⟨o, nm, no, mu, mo, ps⟩ := t; rw [countK]; omega
  have hu : U (rowsK t (-1) 0) 0 = -1 := by
    have hlt : 0 < (rowsK t (-1) 0).length := by omega
    rw [U_at hlt]
    obtain ⟨o, nm, no, mu, mo, ps⟩ := t
    simp [rowsK]
  exact ⟨flat_of_tree (by omega) hu he h5 hb hr, t, he, hd5⟩
theorem count_pos (t : K) : 1 ≤ countK t := by obtain ⟨o, nm, no, mu, mo, ps⟩ := t; rw [countK]; omega
/-- A type as a whole: without what it is as a part. -/
def wholeK : K → K
  | .mk o _ _ _ mo ps => .mk o ⟨#[]⟩ 0 false mo ps
theorem whole_right {t : K} (h : rightK t) : rightK (wholeK t) := by
  obtain ⟨o, nm, no, mu, mo, ps⟩ := t
  cases h with | mk _ _ _ _ _ _ h1 h2 h3 => exact .mk _ _ _ _ _ _ h1 h2 h3
end Go.Proofs.Ytobahkjbadamhaa
