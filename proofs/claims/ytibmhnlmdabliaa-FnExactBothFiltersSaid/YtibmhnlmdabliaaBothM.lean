/- BothFilters: plain. -/
import Derived.Test.YtibmhnlmdabliaaGood
import Derived.Deep.RegionLaw
import Derived.IntWalk
namespace Go.Proofs.Ytibmhnlmdabliaa
open Go.RowKit
set_option linter.unusedVariables false
set_option maxRecDepth 100000
def shiftW (n : Int) (x : DWant) : DWant := ⟨x.kind, x.no, x.num, x.text, if 6 ≤ x.kind then x.a + n else x.a, if x.kind = 6 ∨ x.kind = 7 then x.b + n else x.b⟩
def wAnd (a b : Int) : DWant := ⟨6, 0, 0, ⟨#[]⟩, a, b⟩
def bothUp (f g : List DWant) (j : Nat) : List DWant := f ++ (g.take j).map (shiftW f.length)
def bothL (f g : List DWant) : List DWant := bothUp f g g.length ++ [wAnd ((f.length : Int) - 1) (((f.length + g.length : Nat) : Int) - 1)]
def bothB (f g : List DWant) : Bool := goodFilter f && goodFilter g && decide (f.length + g.length + 1 ≤ 20)
def bothR (f g : List DWant) : List DWant := if bothB f g then bothL f g else []
theorem bothUp_succ {f g : List DWant} {j : Nat} (h : j < g.length) : bothUp f g (j + 1) = bothUp f g j ++ [shiftW f.length g[j]] := by
  rw [bothUp, bothUp, List.take_succ_eq_append_getElem h, List.map_append, List.append_assoc]; rfl
theorem bothUp_len (f g : List DWant) (j : Nat) (h : j ≤ g.length) : (bothUp f g j).length = f.length + j := by
  rw [bothUp, List.length_append, List.length_map, List.length_take, Nat.min_eq_left h]
theorem bothR_bad {f g : List DWant} (h : bothB f g = false) : bothR f g = [] := by rw [bothR, h]; rfl
theorem bothR_len (f g : List DWant) : (bothR f g).length ≤ 1000000 := by
  rw [bothR]
  split
  · rename_i h
    simp only [bothB, Bool.and_eq_true, decide_eq_true_eq] at h
    rw [bothL, List.length_append, bothUp_len f g _ (Nat.le_refl _)]; simp; omega
  · simp
theorem rows_at {w : World} {a : Option Addr} {sz k : Nat} {rows : List (List Value)} (h : rows = [] ∨ ∃ b o, a = some ⟨b, o, none⟩ ∧ b < w.heap.size ∧ ∀ i r, rows[i]? = some r → ∀ j u, r[j]? = some u → w.cell? ⟨b, o + i * sz + j, none⟩ = some u) (hk : k < rows.length) :
    ∃ b o, a = some ⟨b, o, none⟩ ∧ Cells w b o sz rows := by
  rcases h with h | ⟨b, o, e, C⟩
  · rw [h] at hk; simp at hk
  · exact ⟨b, o, e, C⟩
end Go.Proofs.Ytibmhnlmdabliaa
