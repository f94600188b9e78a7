/- What the laws on good schemas share; DeepOf of both sides. -/
import Derived.Test.YtobahkjbadamhaaKindV
namespace Go.Proofs.Ytobahkjbadamhaa
open Go.RowKit
set_option linter.unusedVariables false
set_option maxRecDepth 100000
theorem small_types {l : List DType} (h : SmallType 1048576 l.length l) : ∀ x ∈ l, x.name.size ≤ 1000000000000 := by
  intro x hx
  obtain ⟨i, hi, rfl⟩ := List.mem_iff_getElem.1 hx
  have := h i hi hi
  omega
theorem treeOf_uniq {l : List DType} {t t' : K} (h : treeOf l t) (h' : treeOf l t') : t = t' := Sb.uniq t 0 t' (enc_out h.1) (enc_out h'.1)
theorem good_len' {l : List DType} (h : goodP l) : 1 ≤ l.length ∧ l.length ≤ 30 := h.1.1
/-- The reference's tree of a good schema. -/
theorem root_s (l : List DType) (v : Value) (w : World) (hg : goodP l) (t : K) (ht : treeOf l t) (h : Sl w v 6 (l.map DType.enc)) :
    Calls Try.prog 51 #[.agg #[v], .int .i64 0] w (TreePost t w) := by
  have hn := good_len' hg
  rcases h.open with ⟨a1, c1, rfl, hrr⟩ | ⟨b1, o1, c, rfl, hrr, C⟩
  · exfalso; have : l = [] := by simpa using hrr
    subst this; simp at hn
  rw [List.length_map]
  exact tree_s l b1 o1 c (by omega) t 0 w (enc_out ht.1) C (by have := enc_count t _ _ ht.1; omega)
theorem deepR_ex (l : List DType) : ∃ r : Int, (∀ t, treeOf l t → goodP l → deepK t = r) ∧ (¬ goodP l → r = 0) := by
  by_cases h : goodP l
  · obtain ⟨t, ht⟩ := good_tree h
    exact ⟨deepK t, fun t' h' _ => by rw [treeOf_uniq h' ht], fun g => absurd h g⟩
  · exact ⟨0, fun t _ g => absurd g h, fun _ => rfl⟩
end Go.Proofs.Ytobahkjbadamhaa
