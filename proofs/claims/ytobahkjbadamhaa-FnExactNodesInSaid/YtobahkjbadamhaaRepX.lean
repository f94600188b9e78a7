/- Trees in memory by value: the cells of a tree's top are its own data, its parts' slice last; laws of no program. -/
import Derived.Test.YtobahkjbadamhaaRep
namespace Go.Proofs.Ytobahkjbadamhaa
open Go.RowKit
set_option linter.unusedVariables false
/-- The block that 'buildSlice' lays for one element, behind another new block. -/
theorem cells_new1 (W : World) (o : Obj) (r : List Value) (E : TypeId) : ∀ j u, [r].flatten[j]? = some u → ((W.alloc o).alloc (.cells r.toArray E)).cell? ((⟨W.heap.size + 1, 0, none⟩ : Addr).add j) = some u := by
  have := cells_new (W.alloc o) r E
  rwa [World.size_alloc] at this
/-- A slice of rows in blocks from lo to hi. -/
def XSl (sz : Nat) (w : World) (lo hi : Nat) (s : Value) (rows : List (List Value)) : Prop :=
  ∃ a c, s = .slice a rows.length c ∧ (rows = [] ∨ ∃ b, a = some ⟨b, 0, none⟩ ∧ (lo ≤ b ∧ b < hi) ∧ ∀ i r, rows[i]? = some r → ∀ j u, r[j]? = some u → w.cell? ⟨b, i * sz + j, none⟩ = some u)
mutual
/-- The cells of a tree: H tells its own data. -/
def RepX (H : K → List Value) (sz : Nat) (w : World) (lo hi : Nat) : K → List Value → Prop
  | .mk o nm no mu mo ps => fun r => ∃ (s : Value) (rows : List (List Value)), r = H (.mk o nm no mu mo []) ++ [s] ∧ XSl sz w lo hi s rows ∧ RepXs H sz w lo hi ps rows
def RepXs (H : K → List Value) (sz : Nat) (w : World) (lo hi : Nat) : List K → List (List Value) → Prop
  | [] => fun rs => rs = []
  | p :: ps => fun rs => ∃ r rs', rs = r :: rs' ∧ RepX H sz w lo hi p r ∧ RepXs H sz w lo hi ps rs'
end
theorem XSl.same {sz : Nat} {w w' : World} {lo hi lo' hi' : Nat} {s : Value} {rows : List (List Value)} (h : XSl sz w lo hi s rows) (hs : Same w w' lo hi) (h1 : lo' ≤ lo) (h2 : hi ≤ hi') : XSl sz w' lo' hi' s rows := by
  obtain ⟨a, c, e, h⟩ := h
  refine ⟨a, c, e, h.imp id ?_⟩
  rintro ⟨b, rfl, hb, hc⟩
  exact ⟨b, rfl, by omega, fun i r hr j u hu => by rw [hs b hb.1 hb.2]; exact hc i r hr j u hu⟩
theorem RepXs.same {H : K → List Value} {sz : Nat} {w w' : World} {lo hi lo' hi' : Nat} (hs : Same w w' lo hi) (h1 : lo' ≤ lo) (h2 : hi ≤ hi') : ∀ (ps : List K), (∀ p ∈ ps, ∀ v, RepX H sz w lo hi p v → RepX H sz w' lo' hi' p v) → ∀ vs, RepXs H sz w lo hi ps vs → RepXs H sz w' lo' hi' ps vs := by
  intro ps
  induction ps with
  | nil => intro _ vs h; rw [RepXs] at h ⊢; exact h
  | cons p ps ih =>
    intro hp vs h
    rw [RepXs] at h ⊢
    obtain ⟨v, vs', e, h3, h4⟩ := h
    exact ⟨v, vs', e, hp p (by simp) v h3, ih (fun q hq => hp q (by simp [hq])) vs' h4⟩
theorem RepX.same {H : K → List Value} {sz : Nat} {w w' : World} {lo hi lo' hi' : Nat} (hs : Same w w' lo hi) (h1 : lo' ≤ lo) (h2 : hi ≤ hi') (t : K) : ∀ v, RepX H sz w lo hi t v → RepX H sz w' lo' hi' t v := by
  refine K.ind (P := fun t => ∀ v, RepX H sz w lo hi t v → RepX H sz w' lo' hi' t v) ?_ t
  intro o nm no mu mo ps ih v h
  rw [RepX] at h ⊢
  obtain ⟨s, rows, e, h3, h4⟩ := h
  exact ⟨s, rows, e, h3.same hs h1 h2, RepXs.same hs h1 h2 ps ih rows h4⟩
theorem RepX.below {H : K → List Value} {sz : Nat} {w w' : World} {lo hi : Nat} {t : K} {v : List Value} (h : RepX H sz w lo hi t v) (hh : hi ≤ w.heap.size) (hb : Below w.heap.size w w') : RepX H sz w' lo hi t v := RepX.same (Same.below hb hh) (Nat.le_refl _) (Nat.le_refl _) t v h
theorem RepX.wide {H : K → List Value} {sz : Nat} {w : World} {lo hi lo' hi' : Nat} {t : K} {v : List Value} (h : RepX H sz w lo hi t v) (h1 : lo' ≤ lo) (h2 : hi ≤ hi') : RepX H sz w lo' hi' t v := RepX.same (fun _ _ _ _ => rfl) h1 h2 t v h
theorem RepXs.get {H : K → List Value} {sz : Nat} {w : World} {lo hi : Nat} : ∀ (ps : List K) (vs : List (List Value)), RepXs H sz w lo hi ps vs → vs.length = ps.length ∧ ∀ j (h : j < ps.length) (h' : j < vs.length), RepX H sz w lo hi ps[j] vs[j] := by
  intro ps
  induction ps with
  | nil => intro vs h; rw [RepXs] at h; subst h; exact ⟨rfl, fun j h => by simp at h⟩
  | cons p ps ih =>
    intro vs h
    rw [RepXs] at h
    obtain ⟨v, vs', rfl, h1, h2⟩ := h
    obtain ⟨h3, h4⟩ := ih vs' h2
    refine ⟨by simp [h3], fun j g g' => ?_⟩
    cases j with
    | zero => exact h1
    | succ j => exact h4 j (by simpa using g) (by simpa using g')
theorem RepXs.mk {H : K → List Value} {sz : Nat} {w : World} {lo hi : Nat} : ∀ (ps : List K) (vs : List (List Value)), vs.length = ps.length → (∀ j (h : j < ps.length) (h' : j < vs.length), RepX H sz w lo hi ps[j] vs[j]) → RepXs H sz w lo hi ps vs := by
  intro ps
  induction ps with
  | nil => intro vs h _; rw [RepXs]; exact List.eq_nil_of_length_eq_zero (by simpa using h)
  | cons p ps ih =>
    intro vs h hp
    cases vs with
    | nil => simp at h
    | cons v vs =>
      rw [RepXs]
      exact ⟨v, vs, rfl, hp 0 (by simp) (by simp), ih vs (by simpa using h) (fun j h1 h2 => hp (j + 1) (by simpa using h1) (by simpa using h2))⟩
/-- A tree's top alone. -/
def K.top (t : K) : K := .mk t.of t.name t.no t.must t.most []
/-- What the cells of a tree are. -/
theorem RepX.open {H : K → List Value} {sz : Nat} {w : World} {lo hi : Nat} {t : K} {r : List Value} (h : RepX H sz w lo hi t r) : ∃ (a : Option Addr) (c : Nat) (rows : List (List Value)), r = H t.top ++ [.slice a t.parts.length c] ∧
    XSl sz w lo hi (.slice a t.parts.length c) rows ∧ rows.length = t.parts.length ∧ ∀ j (h : j < t.parts.length) (h' : j < rows.length), RepX H sz w lo hi t.parts[j] rows[j] := by
  obtain ⟨o, nm, no, mu, mo, ps⟩ := t
  rw [RepX] at h
  obtain ⟨s, rows, e, h3, h4⟩ := h
  obtain ⟨g1, g2⟩ := RepXs.get ps rows h4
  obtain ⟨a, c, rfl, h3'⟩ := h3
  rw [g1] at e
  exact ⟨a, c, rows, e, ⟨a, c, by rw [g1]; rfl, h3'⟩, g1, g2⟩
theorem RepX.mk {H : K → List Value} {sz : Nat} {w : World} {lo hi : Nat} {t : K} {s : Value} {rows : List (List Value)} (h : XSl sz w lo hi s rows) (hp : RepXs H sz w lo hi t.parts rows) : RepX H sz w lo hi t (H t.top ++ [s]) := by
  obtain ⟨o, nm, no, mu, mo, ps⟩ := t
  rw [RepX]
  exact ⟨s, rows, rfl, h, hp⟩
theorem XSl.at {sz : Nat} {w : World} {lo hi n c : Nat} {a : Option Addr} {rows : List (List Value)} (h : XSl sz w lo hi (.slice a n c) rows) {j : Nat} (hj : j < rows.length) : ∃ b, a = some ⟨b, 0, none⟩ ∧ (lo ≤ b ∧ b < hi) ∧ ∀ i (h : i < rows.length) k u, rows[i][k]? = some u → w.cell? ⟨b, i * sz + k, none⟩ = some u := by
  obtain ⟨a', c', e, h⟩ := h
  cases e
  rcases h with h | ⟨b, rfl, hb, hc⟩
  · subst h; simp at hj
  · exact ⟨b, rfl, hb, fun i hi k u hu => hc i _ (List.getElem?_eq_getElem hi) k u hu⟩
theorem XSl.own {sz : Nat} {w : World} {B E hi : Nat} {s : Value} {rows : List (List Value)} (h : Own w B E sz s rows) (hs : ∀ g, s.ownBlock = some g → g < hi) : XSl sz w B hi s rows := by
  by_cases hn : rows = []
  · subst hn
    obtain ⟨a, c, e, _⟩ := h.sl
    exact ⟨a, c, e, .inl rfl⟩
  · obtain ⟨g, c, e, hg1, hg2⟩ := h.addr hn
    subst e
    refine ⟨_, c, rfl, .inr ⟨g, rfl, ⟨hg1, hs g rfl⟩, fun i r hr j u hu => (h.cell hr hu).1⟩⟩
/-- The parts of a tree that is being made: each in blocks of its own, from block b on, apart from the slice's own block. -/
def SepX (H : K → List Value) (sz : Nat) (w : World) (b : Nat) (s : Value) (ps : List K) (vs : List (List Value)) : Prop :=
  vs.length = ps.length ∧ ∀ i (h : i < ps.length) (h' : i < vs.length), ∃ lo hi, b ≤ lo ∧ hi ≤ w.heap.size ∧ (∀ g, s.ownBlock = some g → g < lo ∨ hi ≤ g) ∧ RepX H sz w lo hi ps[i] vs[i]
theorem SepX.nil {H : K → List Value} {sz : Nat} {w : World} {b : Nat} {s : Value} : SepX H sz w b s [] [] := ⟨rfl, fun i h => by simp at h⟩
theorem SepX.same {H : K → List Value} {sz : Nat} {w w' : World} {b : Nat} {s s' : Value} {ps : List K} {vs : List (List Value)} (h : SepX H sz w b s ps vs) (hz : w.heap.size ≤ w'.heap.size) (hs : ∀ lo hi, b ≤ lo → hi ≤ w.heap.size → (∀ g, s.ownBlock = some g → g < lo ∨ hi ≤ g) → Same w w' lo hi)
    (hs' : s'.ownBlock = s.ownBlock ∨ ∀ g, s'.ownBlock = some g → w.heap.size ≤ g) : SepX H sz w' b s' ps vs :=
  ⟨h.1, fun i h1 h2 => by
    obtain ⟨lo, hi, q1, q2, q3, q4⟩ := h.2 i h1 h2
    refine ⟨lo, hi, q1, Nat.le_trans q2 hz, fun g hg => ?_, RepX.same (hs lo hi q1 q2 q3) (Nat.le_refl _) (Nat.le_refl _) _ _ q4⟩
    rcases hs' with e | e
    · exact q3 g (by rw [← e]; exact hg)
    · have := e g hg; right; omega⟩
theorem SepX.below {H : K → List Value} {sz : Nat} {w w' : World} {b : Nat} {s : Value} {ps : List K} {vs : List (List Value)} (h : SepX H sz w b s ps vs) (hb : Below w.heap.size w w') : SepX H sz w' b s ps vs :=
  h.same hb.size (fun lo hi _ h2 _ => Same.below hb h2) (.inl rfl)
/-- A store into a block below all parts. -/
theorem SepX.set {H : K → List Value} {sz : Nat} {w : World} {b c k : Nat} {s : Value} {u : Value} {ps : List K} {vs : List (List Value)} (h : SepX H sz w b s ps vs) (hc : c < b) : SepX H sz (w.setCell ⟨c, k, none⟩ u) b s ps vs :=
  h.same (grownBy_setCell w ⟨c, k, none⟩ u).size (fun lo hi h1 h2 _ => Same.grown (grownBy_setCell w ⟨c, k, none⟩ u) h2 (fun g hg => by cases hg; left; show c < lo; omega)) (.inl rfl)
/-- The slice grew, all else stayed. -/
theorem SepX.grown {H : K → List Value} {sz : Nat} {w w' : World} {b : Nat} {s s' : Value} {ps : List K} {vs : List (List Value)} (h : SepX H sz w b s ps vs) (hg : Gr w s w' s') : SepX H sz w' b s' ps vs :=
  h.same hg.1.size (fun lo hi h1 h2 h3 => Same.grown hg.1 h2 h3) hg.2
theorem SepX.snoc {H : K → List Value} {sz : Nat} {w : World} {b lo hi : Nat} {s : Value} {ps : List K} {vs : List (List Value)} {p : K} {v : List Value} (h : SepX H sz w b s ps vs) (h1 : b ≤ lo) (h2 : hi ≤ w.heap.size) (h3 : ∀ g, s.ownBlock = some g → g < lo ∨ hi ≤ g) (hr : RepX H sz w lo hi p v) : SepX H sz w b s (ps ++ [p]) (vs ++ [v]) := by
  refine ⟨by simp [h.1], fun i g g' => ?_⟩
  by_cases hi' : i < ps.length
  · have hv : i < vs.length := by rw [h.1]; exact hi'
    rw [List.getElem_append_left hi', List.getElem_append_left hv]
    exact h.2 i hi' hv
  · have e : i = ps.length := by simp at g; omega
    subst e
    refine ⟨lo, hi, h1, h2, h3, ?_⟩
    rw [List.getElem_append_right (Nat.le_refl _), List.getElem_append_right (by rw [h.1]; exact Nat.le_refl _)]
    simpa [h.1] using hr
theorem SepX.rep {H : K → List Value} {sz : Nat} {w : World} {b B : Nat} {s : Value} {ps : List K} {vs : List (List Value)} (h : SepX H sz w b s ps vs) (hB : B ≤ b) : RepXs H sz w B w.heap.size ps vs :=
  RepXs.mk ps vs h.1 (fun j h1 h2 => by
    obtain ⟨lo, hi, q1, q2, _, q4⟩ := h.2 j h1 h2
    exact q4.wide (by omega) q2)
end Go.Proofs.Ytobahkjbadamhaa
