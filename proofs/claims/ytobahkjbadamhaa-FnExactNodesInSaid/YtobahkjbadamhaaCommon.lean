/- Small laws on memory that several groups share; of no program. -/
import Derived.Test.YtobahkjbadamhaaLawKit
import Derived.Deep.RegionHeld3
import Derived.Deep.Cut
namespace Go.Proofs.Ytobahkjbadamhaa
open Go.RowKit
set_option linter.unusedVariables false
theorem Cells.kept {w w' : World} {b o sz : Nat} {rows : List (List Value)} {row : Option Nat} (h : Cells w b o sz rows) (hg : w.grownBy w' row) (hne : some b ≠ row) : Cells w' b o sz rows :=
  ⟨Nat.lt_of_lt_of_le h.1 hg.size, fun i r hr j u hu => by rw [World.cell?_of_block (w := w) (hg.block b h.1 hne)]; exact h.2 i r hr j u hu⟩
theorem ownsRow_below {w w' : World} {B E sz n : Nat} {v : Value} {xs : List Value} (h : w.ownsRow B E sz v n xs) (hb : Below w.heap.size w w') : w'.ownsRow B E sz v n xs :=
  h.kept (below_grownBy hb none) (by cases v.ownBlock <;> simp)
def iV (n : Int) : Value := .int .i64 n
theorem iV_cell {us : List Int} {p : Nat} (h : p < us.length) : (us.map iV)[p]? = some (.int .i64 us[p]) := by simp [h, iV]
/-- A row of integers of the call's own, read to a length. -/
theorem Sl_prefix {w : World} {B E g n cap m c : Nat} {us : List Int} (h : w.ownsRow B E 1 (.slice (some ⟨g, 0, none⟩) n cap) n (us.map iV)) (hm : m ≤ us.length) : Sl w (.slice (some ⟨g, 0, none⟩) m c) 1 ((us.take m).map encI) := by
  have hl : us.length = n := by have := h.1; simpa using this
  refine ⟨_, c, by rw [List.length_map, List.length_take, Nat.min_eq_left hm], ?_⟩
  by_cases h0 : m = 0
  · left; subst h0; simp
  refine .inr ⟨g, 0, rfl, ?_, ?_⟩
  · exact (h.lt g rfl).2
  intro i r hr j u hu
  have hi : i < m := by have := (List.getElem?_eq_some_iff.1 hr).1; simp at this; omega
  rw [List.getElem?_map, List.getElem?_take_of_lt hi, List.getElem?_eq_getElem (by omega)] at hr
  simp at hr
  subst hr
  have hj : j = 0 := by have := (List.getElem?_eq_some_iff.1 hu).1; simp [encI] at this; exact this
  subst hj
  simp [encI] at hu
  subst hu
  rw [show 0 + i * 1 + 0 = i by omega, h.cellAt i (by omega), iV_cell (by omega)]
def IBPost (a : Int) (b : Bool) (w : World) (e : Ending) (w' : World) : Prop := e = .returned (.tuple #[.int .i64 a, .bool b]) ∧ Below w.heap.size w w'
end Go.Proofs.Ytobahkjbadamhaa
