/- The struct Type as data; the laws' helpers on it (sz, to, eq), on slices of it, on Schema. -/
import Derived.Test.YtbjilpemckoioaaDoorRows
import Derived.Test.YtbjilpemckoioaaDoorBases
import Derived.Outline
import Derived.Deep.RegionHeld3
namespace Go.Proofs.YtbjilpemckoioaaDoor
open Go.RowKit Go.ChangeShapes Go.WideShapes
set_option linter.unusedVariables false
set_option maxRecDepth 100000

structure DType where
  kind : Int
  name : ByteArray
  no : Int
  must : Bool
  up : Int
  most : Int
deriving Inhabited
def DType.enc (x : DType) : List Value := [.int .i64 x.kind, .string x.name, .int .i64 x.no, .bool x.must, .int .i64 x.up, .int .i64 x.most]
theorem DType.enc_len (l : List DType) : ∀ r ∈ l.map DType.enc, r.length = 6 := by
  intro r hr; obtain ⟨x, _, rfl⟩ := List.mem_map.1 hr; rfl
theorem DType.row (l : List DType) (k : Nat) (h : k < l.length) : (l.map DType.enc)[k]? = some (l[k].enc) := by simp [h]
/-- What every value that can be read is: its strings are not longer than Go allows. -/
def DType.ok (x : DType) : Prop := x.name.size ≤ maxLen
theorem Cells.rowType {w : World} {b o : Nat} (l : List DType) (k : Nat) (h : k < l.length) (C : Cells w b o 6 (l.map DType.enc)) :
    w.cell? ⟨b, o + k * 6, none⟩ = some (.int .i64 l[k].kind) ∧ w.cell? ⟨b, o + k * 6 + 1, none⟩ = some (.string l[k].name) ∧ w.cell? ⟨b, o + k * 6 + 2, none⟩ = some (.int .i64 l[k].no) ∧ w.cell? ⟨b, o + k * 6 + 3, none⟩ = some (.bool l[k].must) ∧ w.cell? ⟨b, o + k * 6 + 4, none⟩ = some (.int .i64 l[k].up) ∧ w.cell? ⟨b, o + k * 6 + 5, none⟩ = some (.int .i64 l[k].most) :=
  ⟨C.2 k _ (DType.row l k h) 0 _ rfl, C.2 k _ (DType.row l k h) 1 _ rfl, C.2 k _ (DType.row l k h) 2 _ rfl, C.2 k _ (DType.row l k h) 3 _ rfl, C.2 k _ (DType.row l k h) 4 _ rfl, C.2 k _ (DType.row l k h) 5 _ rfl⟩
def Sz1TypePost (n : Nat) (left : Int) (w : World) (e : Ending) (w' : World) : Prop :=
  ∃ r : Int, e = .returned (.int .i64 r) ∧ -1 ≤ r ∧ r ≤ left ∧ (0 ≤ r → (n : Int) + r ≤ left) ∧ Below w.heap.size w w'
/-- The strings of the first k. -/
def SmallType (left : Int) (k : Nat) (l : List DType) : Prop := ∀ i (h : i < l.length), i < k → (l[i].name.size : Int) ≤ left
def SzTypePost (l : List DType) (left : Int) (w : World) (e : Ending) (w' : World) : Prop :=
  ∃ r : Int, e = .returned (.int .i64 r) ∧ -1 ≤ r ∧ r ≤ left ∧ (0 ≤ r → (l.length : Int) ≤ left ∧ SmallType left l.length l) ∧ Below w.heap.size w w'
section
variable {H : Type} {enc : TypeId × Value → H} {w : World} {spare : Nat → Bool} {held : Bool}
end
end Go.Proofs.YtbjilpemckoioaaDoor
