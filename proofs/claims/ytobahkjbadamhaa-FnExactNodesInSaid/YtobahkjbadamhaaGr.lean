/- Slices of the call's own that grow from call to call; a store into one; laws of no program. -/
import Derived.Test.YtobahkjbadamhaaApp
namespace Go.Proofs.Ytobahkjbadamhaa
open Go.RowKit
set_option linter.unusedVariables false

theorem flatten_set {sz : Nat} (u : Value) (j : Nat) (hj : j < sz) : ∀ (rows : List (List Value)) (i : Nat) (r : List Value), (∀ r ∈ rows, r.length = sz) → rows[i]? = some r → rows.flatten.set (i * sz + j) u = (rows.set i (r.set j u)).flatten := by
  intro rows
  induction rows with
  | nil => intro i r _ h; simp at h
  | cons r0 rows ih =>
    intro i r hl h
    have h0 : r0.length = sz := hl r0 (by simp)
    cases i with
    | zero =>
      simp at h; subst h
      rw [List.flatten_cons, List.set_append_left _ _ (by omega), List.set_cons_zero, List.flatten_cons, Nat.zero_mul, Nat.zero_add]
    | succ i =>
      rw [List.getElem?_cons_succ] at h
      have := ih i r (fun r h => hl r (by simp [h])) h
      rw [List.flatten_cons, List.set_append_right _ _ (by rw [Nat.add_mul]; omega), List.set_cons_succ, List.flatten_cons, ← this]
      congr 2
      rw [Nat.add_mul, h0]; omega
/-- A store into one cell of a slice of the call's own. -/
theorem Own.store {w : World} {B E sz g n cap i j : Nat} {rows : List (List Value)} {r : List Value} (h : Own w B E sz (.slice (some ⟨g, 0, none⟩) n cap) rows) (hr : rows[i]? = some r) (hj : j < sz) (u : Value) :
    Own (w.setCell ⟨g, i * sz + j, none⟩ u) B E sz (.slice (some ⟨g, 0, none⟩) n cap) (rows.set i (r.set j u)) ∧ w.grownBy (w.setCell ⟨g, i * sz + j, none⟩ u) (some g) := by
  have hn : rows.length = n := by
    obtain ⟨a, c, hv, _⟩ := h.sl
    injection hv with _ h2 _; exact h2.symm
  have ho := own_flat h
  rw [hn] at ho
  obtain ⟨h1, h2⟩ := ho.stored (i * sz + j) u
  refine ⟨?_, h2⟩
  rw [flatten_set u j hj rows i r h.1 hr] at h1
  refine own_mk ?_ (by rw [List.length_set, hn]; exact h1)
  intro x hx
  rcases List.mem_or_eq_of_mem_set hx with hx | rfl
  · exact h.1 x hx
  · rw [List.length_set]; exact h.1 r (List.mem_of_getElem? hr)
/-- The same, told by what the cell held. -/
theorem Own.cell {w : World} {B E sz g n cap i j : Nat} {rows : List (List Value)} {r : List Value} {u : Value} (h : Own w B E sz (.slice (some ⟨g, 0, none⟩) n cap) rows) (hr : rows[i]? = some r) (hu : r[j]? = some u) :
    w.cell? ⟨g, i * sz + j, none⟩ = some u ∧ w.frozen? ⟨g, i * sz + j, none⟩ = false := by
  have hn : rows.length = n := by
    obtain ⟨a, c, hv, _⟩ := h.sl
    injection hv with _ h2 _; exact h2.symm
  have ho := own_flat h
  rw [hn] at ho
  have hfl := flatten_at h.1 i r hr j u hu
  have hlt := (List.getElem?_eq_some_iff.1 hfl).1
  rw [flatten_len h.1, hn] at hlt
  exact ⟨by rw [ho.cellAt _ hlt]; exact hfl, ho.frozenAt _⟩
theorem Own.addr {w : World} {B E sz : Nat} {v : Value} {rows : List (List Value)} (h : Own w B E sz v rows) (hne : rows ≠ []) : ∃ g c, v = .slice (some ⟨g, 0, none⟩) rows.length c ∧ B ≤ g ∧ g < w.heap.size := by
  obtain ⟨hl, xs, ho, hp⟩ := h
  rcases ho.2 with ⟨rfl, hn⟩ | ⟨g, cap, cur, rfl, hb, hg, r⟩
  · exact absurd (List.eq_nil_of_length_eq_zero hn) hne
  · exact ⟨g, cap, rfl, hb, (Array.getElem?_eq_some_iff.1 hg).1⟩
/-- From a slice of the call's own to another: in its row, or in a new block. -/
def Gr (w : World) (v : Value) (w' : World) (v' : Value) : Prop := w.grownBy w' v.ownBlock ∧ (v'.ownBlock = v.ownBlock ∨ ∀ g, v'.ownBlock = some g → w.heap.size ≤ g)
theorem Gr.refl (w : World) (v : Value) : Gr w v w v := ⟨grownBy_refl _ _, .inl rfl⟩
theorem Gr.trans {w w1 w2 : World} {v v1 v2 : Value} (h : Gr w v w1 v1) (h2 : Gr w1 v1 w2 v2) : Gr w v w2 v2 := by
  refine ⟨grownBy_trans h.1 h2.1 h.2, ?_⟩
  rcases h2.2 with e | e
  · rw [e]; exact h.2
  · exact .inr fun g hg => Nat.le_trans h.1.size (e g hg)
theorem Gr.of_below {w w1 : World} {v : Value} (h : Below w.heap.size w w1) : Gr w v w1 v := ⟨below_grownBy h _, .inl rfl⟩
theorem Gr.app {w w1 : World} {v v1 : Value} (hg : w.grownBy w1 v.ownBlock) (hv : v1.ownBlock = v.ownBlock ∨ v1.ownBlock = some w.heap.size) : Gr w v w1 v1 :=
  ⟨hg, hv.imp id fun e g hg => by rw [e] at hg; cases hg; exact Nat.le_refl _⟩
theorem Gr.kept {w w1 : World} {v v1 : Value} (h : Gr w v w1 v1) {a : Addr} {u : Value} (hc : w.cell? a = some u) (hne : v.ownBlock ≠ some a.block) : w1.cell? a = some u :=
  h.1.cell hc (fun e => hne e.symm)
theorem Gr.ne {w w1 : World} {v v1 : Value} (h : Gr w v w1 v1) {b : Nat} (hb : b < w.heap.size) (hne : v.ownBlock ≠ some b) : v1.ownBlock ≠ some b := by
  rcases h.2 with e | e
  · rw [e]; exact hne
  · intro hg; have := e b hg; omega
theorem Gr.below {w w1 : World} {v v1 : Value} {B : Nat} (h : Gr w v w1 v1) (hB : B ≤ w.heap.size) (hv : ∀ g, v.ownBlock = some g → B ≤ g) : Below B w w1 :=
  ⟨h.1.os, h.1.tape, h.1.output, h.1.size, fun k hk => h.1.block k (by omega) (fun e => by have := hv k e.symm; omega)⟩
theorem Own.no {w : World} {B E sz : Nat} {v : Value} {rows : List (List Value)} (h : Own w B E sz v rows) {b : Nat} (hb : b < B ∨ w.heap.size ≤ b) : v.ownBlock ≠ some b := by
  intro e; have := h.lt b e; omega
/-- The block that 'buildSlice' lays for two elements. -/
theorem cells_new2 (W : World) (r1 r2 : List Value) (E : TypeId) : ∀ j u, [r1, r2].flatten[j]? = some u → (W.alloc (.cells (r1 ++ r2).toArray E)).cell? ((⟨W.heap.size, 0, none⟩ : Addr).add j) = some u := by
  intro j u hu
  exact cells_new W (r1 ++ r2) E j u (by simpa using hu)
/-- A grown slice of the call's own. -/
def GrPost (B E sz : Nat) (rows : List (List Value)) (v : Value) (w : World) (e : Ending) (w' : World) : Prop :=
  ∃ v', e = .returned v' ∧ Own w' B E sz v' rows ∧ Gr w v w' v'
end Go.Proofs.Ytobahkjbadamhaa
