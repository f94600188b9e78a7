/- Appends to slices of structs of the call's own; laws of no program. -/
import Derived.Test.YtobahkjbadamhaaLawKit
namespace Go.Proofs.Ytobahkjbadamhaa
open Go.RowKit
set_option linter.unusedVariables false

theorem flatten_at {sz : Nat} : ∀ {rows : List (List Value)}, (∀ r ∈ rows, r.length = sz) → ∀ i r, rows[i]? = some r → ∀ j u, r[j]? = some u → rows.flatten[i * sz + j]? = some u := by
  intro rows
  induction rows with
  | nil => intro _ i r h; simp at h
  | cons r0 rows ih =>
    intro hl i r hr j u hu
    rw [List.flatten_cons]
    have h0 : r0.length = sz := hl r0 (by simp)
    cases i with
    | zero =>
      simp at hr; subst hr
      have hj := (List.getElem?_eq_some_iff.1 hu).1
      rw [Nat.zero_mul, Nat.zero_add, List.getElem?_append_left hj]; exact hu
    | succ i =>
      rw [List.getElem?_cons_succ] at hr
      have := ih (fun r h => hl r (by simp [h])) i r hr j u hu
      rw [Nat.add_mul, Nat.one_mul, List.getElem?_append_right (by omega), h0, show i * sz + sz + j - sz = i * sz + j by omega]; exact this
theorem flatten_len {sz : Nat} : ∀ {rows : List (List Value)}, (∀ r ∈ rows, r.length = sz) → rows.flatten.length = rows.length * sz := by
  intro rows
  induction rows with
  | nil => intro _; simp
  | cons r0 rows ih =>
    intro hl
    rw [List.flatten_cons, List.length_append, ih (fun r h => hl r (by simp [h])), hl r0 (by simp), List.length_cons, Nat.add_mul]; omega
theorem flatten_inv {sz : Nat} : ∀ {rows : List (List Value)}, (∀ r ∈ rows, r.length = sz) → ∀ p u, rows.flatten[p]? = some u → ∃ i r j, rows[i]? = some r ∧ r[j]? = some u ∧ p = i * sz + j := by
  intro rows
  induction rows with
  | nil => intro _ p u h; simp at h
  | cons r0 rows ih =>
    intro hl p u h
    rw [List.flatten_cons] at h
    have h0 : r0.length = sz := hl r0 (by simp)
    by_cases hp : p < r0.length
    · rw [List.getElem?_append_left hp] at h
      exact ⟨0, r0, p, by simp, h, by omega⟩
    · rw [List.getElem?_append_right (by omega)] at h
      obtain ⟨i, r, j, h1, h2, h3⟩ := ih (fun r h => hl r (by simp [h])) _ _ h
      exact ⟨i + 1, r, j, by simpa using h1, h2, by rw [Nat.add_mul]; omega⟩
theorem addr_add (b o k : Nat) : (⟨b, o, none⟩ : Addr).add k = ⟨b, o + k, none⟩ := by
  unfold Addr.add; split <;> simp_all
theorem Cells.flat {w : World} {b o sz : Nat} {rows : List (List Value)} (h : Cells w b o sz rows) (hl : ∀ r ∈ rows, r.length = sz) : ∀ p u, rows.flatten[p]? = some u → w.cell? ((⟨b, o, none⟩ : Addr).add p) = some u := by
  intro p u hp
  obtain ⟨i, r, j, h1, h2, rfl⟩ := flatten_inv hl p u hp
  rw [addr_add, ← Nat.add_assoc]
  exact h.2 i r h1 j u h2
theorem own_flat {w : World} {B E sz : Nat} {v : Value} {rows : List (List Value)} (h : Own w B E sz v rows) : w.ownsRow B E sz v rows.length rows.flatten := by
  obtain ⟨hl, xs, ho, hp⟩ := h
  have hlen : xs.length = rows.length * sz := ho.1
  have hx : xs = rows.flatten := by
    apply List.ext_getElem?
    intro p
    by_cases hlt : p < rows.length * sz
    · have h2 : p < rows.flatten.length := by rw [flatten_len hl]; exact hlt
      obtain ⟨u, hu⟩ : ∃ u, rows.flatten[p]? = some u := ⟨_, List.getElem?_eq_getElem h2⟩
      obtain ⟨i, r, j, h3, h4, h5⟩ := flatten_inv hl p u hu
      rw [hu, h5]
      exact hp i r (List.getElem?_eq_some_iff.1 h3).1 h3 j _ h4
    · rw [List.getElem?_eq_none (by omega), List.getElem?_eq_none (by rw [flatten_len hl]; omega)]
  rw [← hx]; exact ho
theorem own_mk {w : World} {B E sz : Nat} {v : Value} {rows : List (List Value)} (hl : ∀ r ∈ rows, r.length = sz) (h : w.ownsRow B E sz v rows.length rows.flatten) : Own w B E sz v rows :=
  ⟨hl, rows.flatten, h, fun i r _ hr j u hu => flatten_at hl i r hr j u hu⟩
theorem wpList_appOwn {P : Program} {w : World} {ops : Array Oper} {rest : List Oper} {o : Oper} {a : Act} {Q : Exit → Act → World → Prop} (hgd : o.guard = none) (s x : Operand) (t : TypeId)
    (ho : o.op = .call { callee := .builtin .append, args := #[s, x], argTypes := #[t, t] })
    (base : Nat) (e : TypeId) (i : TypeInfo) (z : Value) (size bytes : Nat) (ht : P.underlying t = some (.slice e)) (hi : P.info? e = some i) (hz : i.zero = some z)
    (hsize : i.size = size) (hby : i.bytes = bytes) (hzs : z.cells.size = size) (hsz : 0 < size)
    (v : Value) (rows rows2 : List (List Value)) (hs : a.eval s = v) (hown : Own w base e size v rows)
    (ad : Addr) (m c : Nat) (hm : rows2.length = m) (hx : a.eval x = .slice (some ad) m c) (hl2 : ∀ r ∈ rows2, r.length = size) (hnews : ∀ j u, rows2.flatten[j]? = some u → w.cell? (ad.add j) = some u) (h1 : ∀ u ∈ rows2.flatten, u.oneCell' = true)
    (hbytes : (rows.length + m) * bytes ≤ 140737488355328) (hb0 : 0 < bytes) (hbase : base ≤ w.heap.size)
    (h : ∀ v' w', Own w' base e size v' (rows ++ rows2) → w.grownBy w' v.ownBlock → (v'.ownBlock = v.ownBlock ∨ v'.ownBlock = some w.heap.size) → wpList P ops Q rest (a.put o.dst v') w') : wpList P ops Q (o :: rest) a w := by
  subst hm
  refine wpList_app hgd s x t ho base e i z size bytes ht hi hz hsize hby hzs hsz v rows.length rows.flatten hs (own_flat hown) ad rows2.length c rows2.flatten hx (flatten_len hl2) hnews h1 hbytes hb0 hbase ?_
  intro v' w' ho' hg hb
  refine h v' w' (own_mk ?_ ?_) hg hb
  · intro r hr
    rcases List.mem_append.1 hr with hr | hr
    · exact hown.1 r hr
    · exact hl2 r hr
  · rw [List.flatten_append, List.length_append]; exact ho'
/-- The same in a region that draws its order. -/
theorem step_appOwn {P : Program} {w : World} {ops : Array Oper} {o : Oper} {a : Act} {K : Act → World → Prop} {Q : Exit → Act → World → Prop} {E : Prop} (hgd : o.guard = none) (s x : Operand) (t : TypeId)
    (ho : o.op = .call { callee := .builtin .append, args := #[s, x], argTypes := #[t, t] })
    (base : Nat) (e : TypeId) (i : TypeInfo) (z : Value) (size bytes : Nat) (ht : P.underlying t = some (.slice e)) (hi : P.info? e = some i) (hz : i.zero = some z)
    (hsize : i.size = size) (hby : i.bytes = bytes) (hzs : z.cells.size = size) (hsz : 0 < size)
    (v : Value) (rows rows2 : List (List Value)) (hs : a.eval s = v) (hown : Own w base e size v rows)
    (ad : Addr) (m c : Nat) (hm : rows2.length = m) (hx : a.eval x = .slice (some ad) m c) (hl2 : ∀ r ∈ rows2, r.length = size) (hnews : ∀ j u, rows2.flatten[j]? = some u → w.cell? (ad.add j) = some u) (h1 : ∀ u ∈ rows2.flatten, u.oneCell' = true)
    (hbytes : (rows.length + m) * bytes ≤ 140737488355328) (hb0 : 0 < bytes) (hbase : base ≤ w.heap.size)
    (h : ∀ v' w', Own w' base e size v' (rows ++ rows2) → w.grownBy w' v.ownBlock → (v'.ownBlock = v.ownBlock ∨ v'.ownBlock = some w.heap.size) → K (a.put o.dst v') w') :
    if Region.wanted o (yielded ops a.tmps) = true then Oper.wp P o a w K Q else E := by
  have hw : Region.wanted o (yielded ops a.tmps) = true := by simp [Region.wanted, hgd]
  rw [if_pos hw]
  subst hm
  obtain ⟨v', w', hr, h2, h3, h4⟩ := app_own (P := P) w base t o.type e i z size bytes ht hi hz hsize hby hzs hsz v rows.length rows.flatten (own_flat hown) ad rows2.length c rows2.flatten (flatten_len hl2) hnews h1 hbytes hb0 hbase
  unfold Oper.wp execOp
  simp only [ho, resolve, invoke, builtin, Sem.run_bind, Sem.run_pure, Result.andThen_ok, List.map_toArray, List.map_cons, List.map_nil, hs, hx, hr]
  refine h v' w' (own_mk ?_ ?_) h3 h4
  · intro r hr
    rcases List.mem_append.1 hr with hr | hr
    · exact hown.1 r hr
    · exact hl2 r hr
  · rw [List.flatten_append, List.length_append]; exact h2
/-- The block that 'buildSlice' lays for one element. -/
theorem cells_new (W : World) (r : List Value) (E : TypeId) : ∀ j u, [r].flatten[j]? = some u → (W.alloc (.cells r.toArray E)).cell? ((⟨W.heap.size, 0, none⟩ : Addr).add j) = some u := by
  intro j u hu
  rw [addr_add]
  simp at hu
  rw [World.cell?, heap_alloc_new]
  simp [hu]
theorem one_row {r : List Value} {sz : Nat} (h : r.length = sz) : ∀ x ∈ [r], x.length = sz := by
  intro x hx; simp at hx; subst hx; exact h
theorem Own.grow {w w1 w2 : World} {B E sz : Nat} {v : Value} {rows : List (List Value)} (h : Own w2 B E sz v rows) : ∀ g, v.ownBlock = some g → B ≤ g := fun g hg => (h.lt g hg).1
/-- A slice of the call's own. -/
def OwnVPost (E : TypeId) (sz : Nat) (rows : List (List Value)) (w : World) (e : Ending) (w' : World) : Prop :=
  ∃ v, e = .returned v ∧ Own w' w.heap.size E sz v rows ∧ Below w.heap.size w w'
theorem own_made (w : World) (E sz : Nat) : Own (w.alloc (.cells #[] E)) w.heap.size E sz (.slice (some ⟨w.heap.size, 0, none⟩) 0 0) [] :=
  own_mk (by simp) (World.ownsRow_made w #[] 0 (Nat.le_refl _) (Nat.zero_le _) (by simp))
theorem below_made {w w' : World} {r : Option Nat} {o : Obj} (hg : (w.alloc o).grownBy w' r) (hr : ∀ g, r = some g → w.heap.size ≤ g) : Below w.heap.size w w' :=
  (below_a1 w).grown hg (by simp) hr
theorem ne_own {b g n c : Nat} (h : b ≠ g) : some b ≠ (Value.slice (some ⟨g, 0, none⟩) n c).ownBlock := fun e => h (Option.some.inj e)
theorem own_ge {B g n c : Nat} (h : B ≤ g) : ∀ k, (Value.slice (some ⟨g, 0, none⟩) n c).ownBlock = some k → B ≤ k := fun k hk => by cases hk; exact h
theorem own_snoc {α : Type} {enc : α → List Value} {w : World} {B E sz : Nat} {v : Value} {l : List α} {x : α} (h : Own w B E sz v (l.map enc ++ [enc x])) : Own w B E sz v ((l ++ [x]).map enc) := by
  rw [List.map_append]; exact h
/-- A block of one cell that can be written: a result's box. -/
def Box1 (w : World) (b : Nat) (v : Value) : Prop := w.cell? ⟨b, 0, none⟩ = some v ∧ w.frozen? ⟨b, 0, none⟩ = false
theorem Box1.lt {w : World} {b : Nat} {v : Value} (h : Box1 w b v) : b < w.heap.size := World.block_lt_of_cell? w _ h.1
theorem Box1.below {w w' : World} {b : Nat} {v : Value} (h : Box1 w b v) (hb : Below w.heap.size w w') : Box1 w' b v :=
  ⟨keepCell hb h.1, by rw [hb.frozen (p := ⟨b, 0, none⟩) h.lt]; exact h.2⟩
theorem Box1.grown {w w' : World} {b : Nat} {v : Value} {r : Option Nat} (h : Box1 w b v) (hg : w.grownBy w' r) (hne : some b ≠ r) : Box1 w' b v :=
  ⟨hg.cell h.1 hne, by rw [World.frozen?_of_block (hg.block b h.lt hne)]; exact h.2⟩
/-- A block of these cells that can be written. -/
def BoxN (w : World) (b : Nat) (cs : List Value) : Prop := (∀ j u, cs[j]? = some u → w.cell? ⟨b, j, none⟩ = some u) ∧ (∀ j, w.frozen? ⟨b, j, none⟩ = false) ∧ b < w.heap.size
theorem BoxN.below {w w' : World} {b : Nat} {cs : List Value} (h : BoxN w b cs) (hb : Below w.heap.size w w') : BoxN w' b cs :=
  ⟨fun j u hu => keepCell hb (h.1 j u hu), fun j => by rw [hb.frozen (p := ⟨b, j, none⟩) h.2.2]; exact h.2.1 j, Nat.lt_of_lt_of_le h.2.2 hb.size⟩
theorem BoxN.grown {w w' : World} {b : Nat} {cs : List Value} {r : Option Nat} (h : BoxN w b cs) (hg : w.grownBy w' r) (hne : some b ≠ r) : BoxN w' b cs :=
  ⟨fun j u hu => hg.cell (h.1 j u hu) hne, fun j => by rw [World.frozen?_of_block (hg.block b h.2.2 hne)]; exact h.2.1 j, Nat.lt_of_lt_of_le h.2.2 hg.size⟩
theorem BoxN.new (w : World) (r : List Value) (E : TypeId) : BoxN (w.alloc (.cells r.toArray E)) w.heap.size r := by
  refine ⟨fun j u hu => ?_, fun j => ?_, by simp⟩
  · have := cells_new w r E j u (by simpa using hu)
    rwa [addr_add, Nat.zero_add] at this
  · rw [World.frozen?, heap_alloc_new]; rfl
theorem BoxN.drew {w : World} {b : Nat} {cs : List Value} (h : BoxN w b cs) : BoxN w.drew b cs := h
theorem Box1.drew {w : World} {b : Nat} {v : Value} (h : Box1 w b v) : Box1 w.drew b v := h
end Go.Proofs.Ytobahkjbadamhaa
