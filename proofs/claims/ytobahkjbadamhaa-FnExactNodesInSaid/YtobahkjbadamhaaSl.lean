/- Slices of structs: what it is that a slice reads as a list of rows of cells; laws of no program. -/
import Derived.Test.YtobahkjbadamhaaBase
namespace Go.Proofs.Ytobahkjbadamhaa
open Go.RowKit
set_option linter.unusedVariables false

/-- A slice that reads as these rows (each the cells of one element). -/
def Sl (w : World) (v : Value) (sz : Nat) (rows : List (List Value)) : Prop :=
  ∃ a c, v = .slice a rows.length c ∧ (rows = [] ∨ ∃ b o, a = some ⟨b, o, none⟩ ∧ b < w.heap.size ∧ ∀ i r, rows[i]? = some r → ∀ j u, r[j]? = some u → w.cell? ⟨b, o + i * sz + j, none⟩ = some u)
theorem Sl.mono {w w' : World} {v : Value} {sz : Nat} {rows : List (List Value)} (h : Sl w v sz rows) (hb : Below w.heap.size w w') : Sl w' v sz rows := by
  obtain ⟨a, c, hv, h⟩ := h
  refine ⟨a, c, hv, h.imp id ?_⟩
  rintro ⟨b, o, ha, hlt, hc⟩
  exact ⟨b, o, ha, Nat.lt_of_lt_of_le hlt hb.size, fun i r hr j u hu => by rw [hb.cell hlt]; exact hc i r hr j u hu⟩
/-- What a slice's cells are, in one block. -/
def Cells (w : World) (b o sz : Nat) (rows : List (List Value)) : Prop := b < w.heap.size ∧ ∀ i r, rows[i]? = some r → ∀ j u, r[j]? = some u → w.cell? ⟨b, o + i * sz + j, none⟩ = some u
theorem Cells.mono {w w' : World} {b o sz : Nat} {rows : List (List Value)} (h : Cells w b o sz rows) (hb : Below w.heap.size w w') : Cells w' b o sz rows :=
  ⟨Nat.lt_of_lt_of_le h.1 hb.size, fun i r hr j u hu => by rw [hb.cell h.1]; exact h.2 i r hr j u hu⟩
theorem Sl.open {w : World} {v : Value} {sz : Nat} {rows : List (List Value)} (h : Sl w v sz rows) :
    (∃ a c, v = .slice a rows.length c ∧ rows = []) ∨ (∃ b o c, v = .slice (some ⟨b, o, none⟩) rows.length c ∧ rows ≠ [] ∧ Cells w b o sz rows) := by
  obtain ⟨a, c, hv, h⟩ := h
  by_cases hr : rows = []
  · exact .inl ⟨a, c, hv, hr⟩
  · rcases h with h | ⟨b, o, rfl, h⟩
    · exact absurd h hr
    · exact .inr ⟨b, o, c, hv, hr, h⟩
theorem keepCell {w w' : World} (hb : Below w.heap.size w w') {a : Addr} {v : Value} (h : w.cell? a = some v) : w'.cell? a = some v := by
  rw [hb.cell (World.block_lt_of_cell? w a h)]; exact h
theorem _root_.Go.RowKit.Below.drewL {w w' : World} (h : Below w.drew.heap.size w.drew w') : Below w.heap.size w w' := (Below.refl _ w).drew.trans h
theorem _root_.Go.RowKit.Below.allocL {w w' : World} {o : Obj} (h : Below (w.alloc o).heap.size (w.alloc o) w') : Below w.heap.size w w' :=
  ((Below.refl _ w).alloc (Nat.le_refl _) o).trans (h.mono (by simp))
/-- Two steps, each of which leaves alone what it found. -/
theorem _root_.Go.RowKit.Below.next {w w1 w2 : World} (h : Below w.heap.size w w1) (h2 : Below w1.heap.size w1 w2) : Below w.heap.size w w2 := h.trans (h2.mono h.size)
theorem below_a1 (w : World) {a : Obj} : Below w.heap.size w (w.alloc a) := (Below.refl _ _).alloc (Nat.le_refl _) _
theorem below_a2 (w : World) {a b : Obj} : Below w.heap.size w ((w.alloc a).alloc b) := (below_a1 w).next (below_a1 _)
theorem below_a3 (w : World) {a b c : Obj} : Below w.heap.size w (((w.alloc a).alloc b).alloc c) := (below_a2 w).next (below_a1 _)
theorem below_a4 (w : World) {a b c d : Obj} : Below w.heap.size w ((((w.alloc a).alloc b).alloc c).alloc d) := (below_a3 w).next (below_a1 _)
theorem below_a5 (w : World) {a b c d e : Obj} : Below w.heap.size w (((((w.alloc a).alloc b).alloc c).alloc d).alloc e) := (below_a4 w).next (below_a1 _)
/-- What a law's walk says: it returns true and writes nothing that was there. -/
def LawTrue (w : World) (e : Ending) (w' : World) : Prop := e = .returned (.bool true) ∧ Below w.heap.size w w'

/-- The first k rows lie in the cells xs. -/
def Pre (sz k : Nat) (rows : List (List Value)) (xs : List Value) : Prop := ∀ i r, i < k → rows[i]? = some r → ∀ j u, r[j]? = some u → xs[i * sz + j]? = some u
def setL (xs : List Value) (p : Nat) : List Value → List Value
  | [] => xs
  | u :: us => setL (xs.set p u) (p + 1) us
theorem setL_len (us : List Value) : ∀ xs p, (setL xs p us).length = xs.length := by
  induction us with
  | nil => intro xs p; rfl
  | cons u us ih => intro xs p; rw [setL, ih, List.length_set]
theorem setL_lt (us : List Value) : ∀ xs p i, i < p → (setL xs p us)[i]? = xs[i]? := by
  induction us with
  | nil => intro xs p i h; rfl
  | cons u us ih => intro xs p i h; rw [setL, ih _ _ _ (by omega), List.getElem?_set_ne (by omega)]
theorem setL_at (us : List Value) : ∀ xs p j, p + us.length ≤ xs.length → j < us.length → (setL xs p us)[p + j]? = us[j]? := by
  induction us with
  | nil => intro xs p j h hj; simp at hj
  | cons u us ih =>
    intro xs p j h hj
    rw [List.length_cons] at h hj
    rw [setL]
    cases j with
    | zero => rw [setL_lt _ _ _ _ (by omega), Nat.add_zero, List.getElem?_set_self (by omega)]; rfl
    | succ j =>
      rw [show p + (j + 1) = p + 1 + j by omega, ih _ _ _ (by rw [List.length_set]; omega) (by omega)]; rfl
theorem Pre.step {sz k : Nat} {rows : List (List Value)} {xs : List Value} {r : List Value} (h : Pre sz k rows xs) (hls : ∀ r ∈ rows, r.length = sz) (hr : rows[k]? = some r) (hx : k * sz + sz ≤ xs.length) :
    Pre sz (k + 1) rows (setL xs (k * sz) r) := by
  have hl := hls r (List.mem_of_getElem? hr)
  intro i r' hi hr' j u hu
  by_cases hik : i = k
  · subst hik
    rw [hr] at hr'; cases hr'
    have hj : j < r.length := (List.getElem?_eq_some_iff.1 hu).1
    rw [setL_at _ _ _ _ (by omega) hj]; exact hu
  · have hlt : i < k := by omega
    have h1 := h i r' hlt hr' j u hu
    have hj : j < r'.length := (List.getElem?_eq_some_iff.1 hu).1
    rw [hls r' (List.mem_of_getElem? hr')] at hj
    have h2 : (i + 1) * sz ≤ k * sz := Nat.mul_le_mul_right sz hlt
    rw [Nat.add_mul] at h2
    rw [setL_lt _ _ _ _ (by omega)]; exact h1
theorem Pre.zero {sz : Nat} {rows : List (List Value)} {xs : List Value} : Pre sz 0 rows xs := fun i r h => absurd h (by omega)

def setCells (w : World) (g p : Nat) : List Value → World
  | [] => w
  | u :: us => setCells (w.setCell ⟨g, p, none⟩ u) g (p + 1) us
theorem ownsRow_setCells {base e size g n cap : Nat} (us : List Value) : ∀ (w : World) (xs : List Value) (p : Nat), w.ownsRow base e size (.slice (some ⟨g, 0, none⟩) n cap) n xs →
    (setCells w g p us).ownsRow base e size (.slice (some ⟨g, 0, none⟩) n cap) n (setL xs p us) ∧ w.grownBy (setCells w g p us) (some g) := by
  induction us with
  | nil => intro w xs p h; exact ⟨h, grownBy_refl _ _⟩
  | cons u us ih =>
    intro w xs p h
    obtain ⟨h1, h2⟩ := h.stored p u
    obtain ⟨h3, h4⟩ := ih _ _ (p + 1) h1
    exact ⟨h3, grownBy_trans h2 h4 (.inl rfl)⟩

/-- A slice of the call's own (from block B on) that reads as these rows. -/
def Own (w : World) (B : Nat) (E : TypeId) (sz : Nat) (v : Value) (rows : List (List Value)) : Prop :=
  (∀ r ∈ rows, r.length = sz) ∧ ∃ xs, w.ownsRow B E sz v rows.length xs ∧ Pre sz rows.length rows xs
theorem Own.sl {w : World} {B E sz : Nat} {v : Value} {rows : List (List Value)} (h : Own w B E sz v rows) : Sl w v sz rows := by
  obtain ⟨hl, xs, ho, hp⟩ := h
  rcases ho.2 with ⟨rfl, hn⟩ | ⟨g, cap, cur, rfl, hb, hg, r⟩
  · exact ⟨none, 0, by rw [hn], .inl (List.eq_nil_of_length_eq_zero hn)⟩
  · refine ⟨_, cap, rfl, .inr ⟨g, 0, rfl, (Array.getElem?_eq_some_iff.1 hg).1, fun i r hr j u hu => ?_⟩⟩
    have hi : i < rows.length := (List.getElem?_eq_some_iff.1 hr).1
    have hj : j < r.length := (List.getElem?_eq_some_iff.1 hu).1
    have hr' : r.length = sz := hl r (List.mem_of_getElem? hr)
    have h2 : (i + 1) * sz ≤ rows.length * sz := Nat.mul_le_mul_right sz hi
    rw [Nat.add_mul] at h2
    rw [show 0 + i * sz + j = i * sz + j by omega, ho.cellAt _ (by omega)]
    exact hp i r hi hr j u hu
theorem Own.kept {w w' : World} {B E sz : Nat} {v : Value} {rows : List (List Value)} {row : Option Nat} (h : Own w B E sz v rows) (hg : w.grownBy w' row) (hne : v.ownBlock = none ∨ v.ownBlock ≠ row) : Own w' B E sz v rows := by
  obtain ⟨hl, xs, ho, hp⟩ := h
  exact ⟨hl, xs, ho.kept hg hne, hp⟩
theorem Own.below {w w' : World} {B E sz : Nat} {v : Value} {rows : List (List Value)} (h : Own w B E sz v rows) (hb : Below w.heap.size w w') : Own w' B E sz v rows :=
  h.kept (below_grownBy hb none) (by cases v.ownBlock <;> simp)
theorem Own.weaken {w : World} {B B' E sz : Nat} {v : Value} {rows : List (List Value)} (h : Own w B E sz v rows) (hB : B' ≤ B) : Own w B' E sz v rows := by
  obtain ⟨hl, xs, ho, hp⟩ := h
  refine ⟨hl, xs, ⟨ho.1, ?_⟩, hp⟩
  rcases ho.2 with h2 | ⟨g, cap, cur, h1, h2, h3⟩
  · exact .inl h2
  · exact .inr ⟨g, cap, cur, h1, Nat.le_trans hB h2, h3⟩
theorem grownBy_setCell (w : World) (a : Addr) (u : Value) : w.grownBy (w.setCell a u) (some a.block) :=
  ⟨rfl, rfl, rfl, by simp [World.setCell], fun k _ hk => Below.heap_setCell _ _ _ _ (fun e => hk (by rw [e]))⟩
theorem own_ne {v : Value} {B : Nat} {g : Nat} (h : ∀ k, v.ownBlock = some k → B < k) (hg : g ≤ B) : v.ownBlock = none ∨ v.ownBlock ≠ some g := by
  refine .inr fun e => ?_
  have := h g e; omega
theorem Own.lt {w : World} {B E sz : Nat} {v : Value} {rows : List (List Value)} (h : Own w B E sz v rows) : ∀ k, v.ownBlock = some k → B ≤ k ∧ k < w.heap.size := by
  obtain ⟨hl, xs, ho, hp⟩ := h; exact ho.lt
theorem Cells.at2 {w : World} {b o sz : Nat} {rows : List (List Value)} (h : Cells w b o sz rows) {i : Nat} {x0 x1 : Value} (hi : rows[i]? = some [x0, x1]) :
    w.cell? ⟨b, o + i * sz, none⟩ = some x0 ∧ w.cell? ⟨b, o + i * sz + 1, none⟩ = some x1 :=
  ⟨h.2 i _ hi 0 _ rfl, h.2 i _ hi 1 _ rfl⟩
def BoolPost (b : Bool) (w : World) (e : Ending) (w' : World) : Prop := e = .returned (.bool b) ∧ Below w.heap.size w w'
def IntPost (n : Int) (w : World) (e : Ending) (w' : World) : Prop := e = .returned (.int .i64 n) ∧ Below w.heap.size w w'
def encI (n : Int) : List Value := [.int .i64 n]
theorem Cells.rowI {w : World} {b o : Nat} (l : List Int) (k : Nat) (h : k < l.length) (C : Cells w b o 1 (l.map encI)) :
    w.cell? ⟨b, o + k, none⟩ = some (.int .i64 l[k]) := by
  have := C.2 k (encI l[k]) (by simp [h]) 0 _ rfl
  rw [Nat.mul_one, Nat.add_zero] at this; exact this
theorem encI_len (l : List Int) : ∀ r ∈ l.map encI, r.length = 1 := by
  intro r hr; obtain ⟨x, _, rfl⟩ := List.mem_map.1 hr; rfl

/-- The first place where p holds; -1 without one. -/
def fidx {α : Type} (p : α → Bool) (l : List α) : Int := if l.findIdx p < l.length then (l.findIdx p : Int) else -1
def fidx_from {α : Type} (p : α → Bool) (l : List α) (k : Nat) : Prop := ∀ i (h : i < l.length), i < k → p l[i] = false
theorem fidx_zero {α : Type} (p : α → Bool) (l : List α) : fidx_from p l 0 := fun i _ h0 => absurd h0 (by omega)
theorem fidx_step {α : Type} {p : α → Bool} {l : List α} {k : Nat} (hk : k < l.length) (h : fidx_from p l k) (hp : p l[k] = false) : fidx_from p l (k + 1) := by
  intro i hi hik
  by_cases e : i = k
  · subst e; exact hp
  · exact h i hi (by omega)
theorem fidx_hit {α : Type} {p : α → Bool} {l : List α} {k : Nat} (hk : k < l.length) (h : fidx_from p l k) (hp : p l[k] = true) : fidx p l = (k : Int) := by
  have : l.findIdx p = k := by
    rw [List.findIdx_eq hk]
    exact ⟨hp, fun j hj => h j (by omega) hj⟩
  rw [fidx, this, if_pos hk]
theorem fidx_none {α : Type} {p : α → Bool} {l : List α} {k : Nat} (hk : l.length ≤ k) (h : fidx_from p l k) : fidx p l = -1 := by
  rw [fidx, if_neg]
  intro hlt
  have h1 := List.findIdx_getElem (w := hlt)
  rw [h _ hlt (by omega)] at h1
  cases h1
theorem fidx_any {α : Type} (p : α → Bool) (l : List α) : 0 ≤ fidx p l ↔ l.any p = true := by
  rw [fidx, List.any_eq_true]
  constructor
  · intro h
    split at h
    · rename_i hlt; exact ⟨_, List.getElem_mem hlt, List.findIdx_getElem (w := hlt)⟩
    · omega
  · rintro ⟨x, hx, hp⟩
    rw [if_pos (List.findIdx_lt_length_of_exists ⟨x, hx, hp⟩)]
    omega
end Go.Proofs.Ytobahkjbadamhaa
