/- What the laws' walks need on memory of the call's own: results that are slices, what lies apart. -/
import Derived.Test.YtobahkjbadamhaaSl
namespace Go.Proofs.Ytobahkjbadamhaa
open Go.RowKit
set_option linter.unusedVariables false

/-- A slice of the call's own in the block rb; or one without elements, wherever it points. -/
def OwnR (w : World) (B : Nat) (E : TypeId) (sz : Nat) (v : Value) (rows : List (List Value)) (rb : Option Nat) : Prop :=
  (rb = v.ownBlock ∧ Own w B E sz v rows) ∨ (rb = none ∧ rows = [] ∧ ∃ a c, v = .slice a 0 c)
theorem Own.r {w : World} {B E sz : Nat} {v : Value} {rows : List (List Value)} (h : Own w B E sz v rows) : OwnR w B E sz v rows v.ownBlock := .inl ⟨rfl, h⟩
theorem OwnR.sl {w : World} {B E sz : Nat} {v : Value} {rows : List (List Value)} {rb : Option Nat} (h : OwnR w B E sz v rows rb) : Sl w v sz rows := by
  rcases h with ⟨_, h⟩ | ⟨_, rfl, a, c, rfl⟩
  · exact h.sl
  · exact ⟨a, c, rfl, .inl rfl⟩
theorem OwnR.lt {w : World} {B E sz : Nat} {v : Value} {rows : List (List Value)} {rb : Option Nat} (h : OwnR w B E sz v rows rb) : ∀ g, rb = some g → B ≤ g ∧ g < w.heap.size := by
  intro g hg
  rcases h with ⟨rfl, h⟩ | ⟨rfl, _⟩
  · exact h.lt g hg
  · cases hg
theorem OwnR.kept {w w' : World} {B E sz : Nat} {v : Value} {rows : List (List Value)} {rb row : Option Nat} (h : OwnR w B E sz v rows rb) (hg : w.grownBy w' row) (hne : rb = none ∨ rb ≠ row) : OwnR w' B E sz v rows rb := by
  rcases h with ⟨rfl, h⟩ | h
  · exact .inl ⟨rfl, h.kept hg hne⟩
  · exact .inr h
theorem OwnR.below {w w' : World} {B E sz : Nat} {v : Value} {rows : List (List Value)} {rb : Option Nat} (h : OwnR w B E sz v rows rb) (hb : Below w.heap.size w w') : OwnR w' B E sz v rows rb :=
  h.kept (below_grownBy hb none) (by cases rb <;> simp)
/-- A slice of the call's own, and a bool. -/
def SlbPost (E : TypeId) (sz : Nat) (rows : List (List Value)) (b : Bool) (w : World) (e : Ending) (w' : World) : Prop :=
  ∃ v rb, e = .returned (.tuple #[v, .bool b]) ∧ OwnR w' w.heap.size E sz v rows rb ∧ Below w.heap.size w w'
/-- A struct of one slice of the call's own, and a bool. -/
def AggbPost (E : TypeId) (sz : Nat) (rows : List (List Value)) (b : Bool) (w : World) (e : Ending) (w' : World) : Prop :=
  ∃ v rb, e = .returned (.tuple #[.agg #[v], .bool b]) ∧ OwnR w' w.heap.size E sz v rows rb ∧ Below w.heap.size w w'
theorem apart {r1 r2 : Option Nat} {a b c d : Nat} (h1 : ∀ g, r1 = some g → a ≤ g ∧ g < b) (h2 : ∀ g, r2 = some g → c ≤ g ∧ g < d) (h : b ≤ c ∨ d ≤ a) : r1 = none ∨ r1 ≠ r2 := by
  cases hv : r1 with
  | none => exact .inl rfl
  | some g =>
    refine .inr fun e => ?_
    have := h1 g hv
    have := h2 g e.symm
    omega
theorem keepG {w w' : World} {r : Option Nat} {b lo hi : Nat} {v : Value} (hg : w.grownBy w' r) (h : w.cell? ⟨b, 0, none⟩ = some v) (n : ∀ g, r = some g → lo ≤ g ∧ g < hi) (hne : b < lo ∨ hi ≤ b) : w'.cell? ⟨b, 0, none⟩ = some v :=
  hg.cell h (fun e => by have := n b e.symm; omega)
theorem ownsRow_below0 {w w' : World} {B E sz n : Nat} {v : Value} {xs : List Value} (h : w.ownsRow B E sz v n xs) (hb : Below w.heap.size w w') : w'.ownsRow B E sz v n xs :=
  h.kept (below_grownBy hb none) (by cases v.ownBlock <;> simp)
theorem Own.nil {w : World} {B E sz : Nat} : Own w B E sz (.slice none 0 0) [] := ⟨by simp, [], World.ownsRow_nil _ _ _ _, Pre.zero⟩
theorem OwnR.nil {w : World} {B E sz : Nat} : OwnR w B E sz (.slice none 0 0) [] none := .inr ⟨rfl, rfl, none, 0, rfl⟩
end Go.Proofs.Ytobahkjbadamhaa
