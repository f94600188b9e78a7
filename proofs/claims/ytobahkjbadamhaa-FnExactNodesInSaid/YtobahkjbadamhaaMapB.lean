/- A map from strings to bools that the call makes: which names it holds; laws of no program. -/
import Derived.Test.YtobahkjbadamhaaApp
import Derived.Maps.OwnOps
import Derived.Maps.Views
import Derived.StringKeys
namespace Go.Proofs.Ytobahkjbadamhaa
open Go.RowKit Go.Maps Go.WideMaps
set_option linter.unusedVariables false

theorem plainElem_bool_inv {H : Type} {P : Program} {e : TypeId} (he : P.underlying e = some .bool) {v : Value} {z : DataW H × List MemPlace} (h : plainElem P e v = some z) : ∃ x, v = .bool x ∧ z = (.lit (.bool x), []) := by
  unfold plainElem at h
  rw [he] at h
  cases v <;> simp at h
  obtain rfl := h
  exact ⟨_, rfl, rfl⟩
/-- Block b is a map, of at most n entries, that holds true at these names. -/
def HasMap (P : Program) (k e : TypeId) (w : World) (b n : Nat) (names : List (List UInt8)) : Prop :=
  ∃ D : DataW Nat, w.ownsMap P k (plainElem P e) b n D ∧ IsMap D ∧ ∀ s : ByteArray, D.atKey (.string s.data.toList) (.lit (.bool false)) = .lit (.bool (decide (s.data.toList ∈ names)))
theorem HasMap.made (P : Program) (k e : TypeId) (w : World) : HasMap P k e (w.alloc (.map #[] 0)) w.heap.size 0 [] :=
  ⟨_, World.ownsMap_made w P k _, isMap_empty, fun s => by simp [DataW.atKey]⟩
theorem HasMap.kept {P : Program} {k e : TypeId} {w w' : World} {b n : Nat} {names : List (List UInt8)} {row : Option Nat} (h : HasMap P k e w b n names) (hg : w.grownBy w' row) (hne : some b ≠ row) : HasMap P k e w' b n names := by
  obtain ⟨D, h1, h2⟩ := h
  exact ⟨D, h1.kept hg hne, h2⟩
theorem HasMap.drew {P : Program} {k e : TypeId} {w : World} {b n : Nat} {names : List (List UInt8)} (h : HasMap P k e w b n names) : HasMap P k e w.drew b n names := by
  obtain ⟨D, h1, h2⟩ := h
  exact ⟨D, h1.drew, h2⟩
theorem HasMap.drewN {P : Program} {k e : TypeId} {b m : Nat} {names : List (List UInt8)} : ∀ (n : Nat) {w : World}, HasMap P k e w b m names → HasMap P k e (w.drewN n) b m names := by
  intro n
  induction n with
  | zero => intro w h; exact h
  | succ n ih => intro w h; first | exact ih h.drew | exact (ih h).drew
theorem HasMap.look {P : Program} {k e t : TypeId} {w : World} {b n : Nat} {names : List (List UInt8)} (h : HasMap P k e w b n names) (hk : P.underlying k = some .string) (he : P.underlying e = some .bool) (ht : P.underlying t = some (.map k e)) (hz : (zeroValue e).run P w = .ok (.bool false) w) {s : ByteArray} (hs : s.size ≤ maxLen) (c : Bool) (hc : decide (s.data.toList ∈ names) = c) :
    (Instr.lookup t (.map (some b)) (.string s) false).run P w = .ok (.bool c) w := by
  obtain ⟨D, h1, h2, h3⟩ := h
  obtain ⟨v, ps, hrun, hv⟩ := h1.lookup (string_keyed hk) ht hz (plainElem_bool he false) (keyOf_string_mk hk hs)
  obtain ⟨x, rfl, hx⟩ := plainElem_bool_inv he hv
  simp only [Prod.mk.injEq] at hx
  rw [h3 s] at hx
  have : x = c := by rw [← hc]; simpa using hx.1.symm
  rw [hrun, this]
theorem HasMap.put {P : Program} {k e : TypeId} {w : World} {b n : Nat} {names : List (List UInt8)} {D : DataW Nat} {s : ByteArray} (h : w.ownsMap P k (plainElem P e) b n (D.put (.string s.data.toList) (.lit (.bool true)))) (hD : IsMap D)
    (h3 : ∀ s : ByteArray, D.atKey (.string s.data.toList) (.lit (.bool false)) = .lit (.bool (decide (s.data.toList ∈ names)))) : HasMap P k e w b n (names ++ [s.data.toList]) := by
  refine ⟨_, h, hD.put _ _, fun u => ?_⟩
  by_cases hu : u.data.toList = s.data.toList
  · rw [hu, atKey_put_same hD (by trivial)]; simp
  · rw [atKey_put_other (by intro e; apply hu; simpa using e), h3 u]
    simp [hu]
end Go.Proofs.Ytobahkjbadamhaa
