/- Trees of types in memory, by pointers; laws of no program. -/
import Derived.Test.YtobahkjbadamhaaKindG
import Derived.Test.YtobahkjbadamhaaGr
namespace Go.Proofs.Ytobahkjbadamhaa
open Go.RowKit
set_option linter.unusedVariables false

/-- A slice of one-cell elements in blocks from lo to hi, that reads as these values. -/
def PSl (w : World) (lo hi : Nat) (s : Value) (vs : List Value) : Prop :=
  ∃ a c, s = .slice a vs.length c ∧ (vs = [] ∨ ∃ b o, a = some ⟨b, o, none⟩ ∧ (lo ≤ b ∧ b < hi) ∧ ∀ i v, vs[i]? = some v → w.cell? ⟨b, o + i, none⟩ = some v)
mutual
/-- A pointer to a tree of types, all of it in blocks from lo to hi. -/
def RepP (w : World) (lo hi : Nat) : K → Value → Prop
  | .mk o nm no mu mo ps => fun v => ∃ (b : Nat) (s : Value) (vs : List Value), v = .pointer (some ⟨b, 0, none⟩) ∧ (lo ≤ b ∧ b < hi) ∧
      (w.cell? ⟨b, 0, none⟩ = some (.int .i64 o) ∧ w.cell? ⟨b, 1, none⟩ = some (.string nm) ∧ w.cell? ⟨b, 2, none⟩ = some (.int .i64 no) ∧ w.cell? ⟨b, 3, none⟩ = some (.bool mu) ∧ w.cell? ⟨b, 4, none⟩ = some (.int .i64 mo) ∧ w.cell? ⟨b, 5, none⟩ = some s) ∧
      PSl w lo hi s vs ∧ RepL w lo hi ps vs
def RepL (w : World) (lo hi : Nat) : List K → List Value → Prop
  | [] => fun vs => vs = []
  | p :: ps => fun vs => ∃ v vs', vs = v :: vs' ∧ RepP w lo hi p v ∧ RepL w lo hi ps vs'
end
/-- The blocks from lo to hi hold what they held. -/
def Same (w w' : World) (lo hi : Nat) : Prop := ∀ b, lo ≤ b → b < hi → ∀ o, w'.cell? ⟨b, o, none⟩ = w.cell? ⟨b, o, none⟩
theorem Same.below {w w' : World} {lo hi : Nat} (h : Below w.heap.size w w') (hh : hi ≤ w.heap.size) : Same w w' lo hi := fun b _ h2 o => h.cell (p := ⟨b, o, none⟩) (by show b < _; omega)
theorem Same.belowB {w w' : World} {lo hi B : Nat} (h : Below B w w') (hh : hi ≤ B) : Same w w' lo hi := fun b _ h2 o => h.cell (p := ⟨b, o, none⟩) (by show b < _; omega)
theorem Same.grown {w w' : World} {lo hi : Nat} {r : Option Nat} (h : w.grownBy w' r) (hh : hi ≤ w.heap.size) (hr : ∀ g, r = some g → g < lo ∨ hi ≤ g) : Same w w' lo hi :=
  fun b h1 h2 o => World.cell?_of_block (h.block b (by omega) (fun e => by have := hr b e.symm; omega))
theorem PSl.same {w w' : World} {lo hi lo' hi' : Nat} {s : Value} {vs : List Value} (h : PSl w lo hi s vs) (hs : Same w w' lo hi) (h1 : lo' ≤ lo) (h2 : hi ≤ hi') : PSl w' lo' hi' s vs := by
  obtain ⟨a, c, e, h⟩ := h
  refine ⟨a, c, e, h.imp id ?_⟩
  rintro ⟨b, o, rfl, hb, hc⟩
  exact ⟨b, o, rfl, by omega, fun i v hv => by rw [hs b hb.1 hb.2]; exact hc i v hv⟩
theorem RepL.same {w w' : World} {lo hi lo' hi' : Nat} (hs : Same w w' lo hi) (h1 : lo' ≤ lo) (h2 : hi ≤ hi') : ∀ (ps : List K), (∀ p ∈ ps, ∀ v, RepP w lo hi p v → RepP w' lo' hi' p v) → ∀ vs, RepL w lo hi ps vs → RepL w' lo' hi' ps vs := by
  intro ps
  induction ps with
  | nil => intro _ vs h; rw [RepL] at h ⊢; exact h
  | cons p ps ih =>
    intro hp vs h
    rw [RepL] at h ⊢
    obtain ⟨v, vs', e, h3, h4⟩ := h
    exact ⟨v, vs', e, hp p (by simp) v h3, ih (fun q hq => hp q (by simp [hq])) vs' h4⟩
theorem RepP.same {w w' : World} {lo hi lo' hi' : Nat} (hs : Same w w' lo hi) (h1 : lo' ≤ lo) (h2 : hi ≤ hi') (t : K) : ∀ v, RepP w lo hi t v → RepP w' lo' hi' t v := by
  refine K.ind (P := fun t => ∀ v, RepP w lo hi t v → RepP w' lo' hi' t v) ?_ t
  intro o nm no mu mo ps ih v h
  rw [RepP] at h ⊢
  obtain ⟨b, s, vs, e, hb, ⟨c0, c1, c2, c3, c4, c5⟩, h3, h4⟩ := h
  have g := hs b hb.1 hb.2
  exact ⟨b, s, vs, e, by omega, ⟨by rw [g]; exact c0, by rw [g]; exact c1, by rw [g]; exact c2, by rw [g]; exact c3, by rw [g]; exact c4, by rw [g]; exact c5⟩, h3.same hs h1 h2, RepL.same hs h1 h2 ps ih vs h4⟩
theorem RepP.below {w w' : World} {lo hi : Nat} {t : K} {v : Value} (h : RepP w lo hi t v) (hh : hi ≤ w.heap.size) (hb : Below w.heap.size w w') : RepP w' lo hi t v := RepP.same (Same.below hb hh) (Nat.le_refl _) (Nat.le_refl _) t v h
theorem RepP.wide {w : World} {lo hi lo' hi' : Nat} {t : K} {v : Value} (h : RepP w lo hi t v) (h1 : lo' ≤ lo) (h2 : hi ≤ hi') : RepP w lo' hi' t v := RepP.same (fun _ _ _ _ => rfl) h1 h2 t v h
theorem RepP.drew {w : World} {lo hi : Nat} {t : K} {v : Value} (h : RepP w lo hi t v) : RepP w.drew lo hi t v := RepP.same (w := w) (w' := w.drew) (fun _ _ _ _ => rfl) (Nat.le_refl _) (Nat.le_refl _) t v h
theorem RepL.get {w : World} {lo hi : Nat} : ∀ (ps : List K) (vs : List Value), RepL w lo hi ps vs → vs.length = ps.length ∧ ∀ j (h : j < ps.length) (h' : j < vs.length), RepP w lo hi ps[j] vs[j] := by
  intro ps
  induction ps with
  | nil => intro vs h; rw [RepL] at h; subst h; exact ⟨rfl, fun j h => by simp at h⟩
  | cons p ps ih =>
    intro vs h
    rw [RepL] at h
    obtain ⟨v, vs', rfl, h1, h2⟩ := h
    obtain ⟨h3, h4⟩ := ih vs' h2
    refine ⟨by simp [h3], fun j g g' => ?_⟩
    cases j with
    | zero => exact h1
    | succ j => exact h4 j (by simpa using g) (by simpa using g')
theorem RepL.snoc {w : World} {lo hi : Nat} {p : K} {v : Value} : ∀ (ps : List K) (vs : List Value), RepL w lo hi ps vs → RepP w lo hi p v → RepL w lo hi (ps ++ [p]) (vs ++ [v]) := by
  intro ps
  induction ps with
  | nil => intro vs h hp; rw [RepL] at h; subst h; rw [List.nil_append, List.nil_append, RepL]; exact ⟨v, [], rfl, hp, by rw [RepL]⟩
  | cons q ps ih =>
    intro vs h hp
    rw [RepL] at h
    obtain ⟨u, vs', rfl, h1, h2⟩ := h
    rw [List.cons_append, List.cons_append, RepL]
    exact ⟨u, vs' ++ [v], rfl, h1, ih vs' h2 hp⟩
theorem RepL.all {w w' : World} {lo hi lo' hi' : Nat} {ps : List K} {vs : List Value} (h : RepL w lo hi ps vs) (hs : Same w w' lo hi) (h1 : lo' ≤ lo) (h2 : hi ≤ hi') : RepL w' lo' hi' ps vs :=
  RepL.same hs h1 h2 ps (fun p _ v hv => RepP.same hs h1 h2 p v hv) vs h
/-- What a pointer to a tree holds. -/
theorem RepP.open {w : World} {lo hi : Nat} {t : K} {v : Value} (h : RepP w lo hi t v) : ∃ (b : Nat) (a : Option Addr) (c : Nat) (vs : List Value), v = .pointer (some ⟨b, 0, none⟩) ∧ (lo ≤ b ∧ b < hi) ∧
    w.cell? ⟨b, 0, none⟩ = some (.int .i64 t.of) ∧ w.cell? ⟨b, 1, none⟩ = some (.string t.name) ∧ w.cell? ⟨b, 2, none⟩ = some (.int .i64 t.no) ∧ w.cell? ⟨b, 3, none⟩ = some (.bool t.must) ∧ w.cell? ⟨b, 4, none⟩ = some (.int .i64 t.most) ∧ w.cell? ⟨b, 5, none⟩ = some (.slice a t.parts.length c) ∧
    PSl w lo hi (.slice a t.parts.length c) vs ∧ vs.length = t.parts.length ∧ ∀ j (h : j < t.parts.length) (h' : j < vs.length), RepP w lo hi t.parts[j] vs[j] := by
  obtain ⟨o, nm, no, mu, mo, ps⟩ := t
  rw [RepP] at h
  obtain ⟨b, s, vs, e, hb, ⟨c0, c1, c2, c3, c4, c5⟩, h3, h4⟩ := h
  obtain ⟨g1, g2⟩ := RepL.get ps vs h4
  obtain ⟨a, c, rfl, h3'⟩ := h3
  rw [g1] at c5
  exact ⟨b, a, c, vs, e, hb, c0, c1, c2, c3, c4, c5, ⟨a, c, by rw [g1]; rfl, h3'⟩, g1, g2⟩
theorem PSl.at {w : World} {lo hi n c : Nat} {a : Option Addr} {vs : List Value} (h : PSl w lo hi (.slice a n c) vs) {j : Nat} (hj : j < vs.length) : ∃ b o, a = some ⟨b, o, none⟩ ∧ (lo ≤ b ∧ b < hi) ∧ ∀ i (h : i < vs.length), w.cell? ⟨b, o + i, none⟩ = some vs[i] := by
  obtain ⟨a', c', e, h⟩ := h
  cases e
  rcases h with h | ⟨b, o, rfl, hb, hc⟩
  · subst h; simp at hj
  · exact ⟨b, o, rfl, hb, fun i hi => hc i _ (List.getElem?_eq_getElem hi)⟩
/-- A slice of pointers as a slice of rows. -/
def encV (v : Value) : List Value := [v]
theorem PSl.sl {w : World} {lo hi : Nat} {s : Value} {vs : List Value} (h : PSl w lo hi s vs) (hh : hi ≤ w.heap.size) : Sl w s 1 (vs.map encV) := by
  obtain ⟨a, c, rfl, h⟩ := h
  refine ⟨a, c, by rw [List.length_map], ?_⟩
  rcases h with rfl | ⟨b, o, rfl, hb, hc⟩
  · exact .inl rfl
  · refine .inr ⟨b, o, rfl, by omega, fun i r hr j u hu => ?_⟩
    rw [List.getElem?_map] at hr
    cases hx : vs[i]? with
    | none => rw [hx] at hr; simp at hr
    | some x =>
      rw [hx] at hr; simp [encV] at hr; subst hr
      have hj : j = 0 := by have := (List.getElem?_eq_some_iff.1 hu).1; simp at this; exact this
      subst hj; simp at hu; subst hu
      rw [Nat.mul_one, Nat.add_zero]; exact hc i x hx
theorem PSl.own {w : World} {B E hi : Nat} {s : Value} {vs : List Value} (h : Own w B E 1 s (vs.map encV)) (hs : ∀ g, s.ownBlock = some g → g < hi) : PSl w B hi s vs := by
  obtain ⟨hl, xs, ho, hp⟩ := h
  by_cases hn : vs = []
  · subst hn
    have h0 : Own w B E 1 s ([].map encV) := ⟨hl, xs, ho, hp⟩
    obtain ⟨a, c, e, _⟩ := h0.sl
    exact ⟨a, c, e, .inl rfl⟩
  · have h0 : Own w B E 1 s (vs.map encV) := ⟨hl, xs, ho, hp⟩
    obtain ⟨g, c, e, hg1, hg2⟩ := h0.addr (by simpa using hn)
    have hsl := h0.sl
    subst e
    obtain ⟨a', c', e', h3⟩ := hsl
    cases e'
    rw [List.length_map] at *
    refine ⟨_, c, rfl, .inr ⟨g, 0, rfl, ⟨hg1, hs g rfl⟩, fun i v hv => ?_⟩⟩
    rcases h3 with h3 | ⟨b, o, e, _, h3⟩
    · exact absurd (by simpa using h3) hn
    · cases e
      have := h3 i [v] (by rw [List.getElem?_map, hv]; rfl) 0 v rfl
      rwa [Nat.mul_one, Nat.add_zero] at this
theorem deepL_snoc (p : K) : ∀ ps : List K, deepL (ps ++ [p]) = max (deepL ps) (deepK p) := by
  intro ps
  induction ps with
  | nil =>
    have : 0 ≤ deepK p := by
      refine K.ind (P := fun p => 0 ≤ deepK p) ?_ p
      intro o nm no mu mo ps ih
      have : ∀ ps : List K, 0 ≤ deepL ps := by
        intro ps
        induction ps with
        | nil => rw [deepL]; exact Int.le_refl _
        | cons q qs ih => rw [deepL]; omega
      have := this ps
      rw [deepK, up1]; split <;> omega
    simp only [List.nil_append, deepL]; omega
  | cons q ps ih => rw [List.cons_append, deepL, deepL, ih]; omega
theorem deepL_nn : ∀ ps : List K, 0 ≤ deepL ps := by
  intro ps
  induction ps with
  | nil => rw [deepL]; exact Int.le_refl _
  | cons q qs ih => rw [deepL]; omega
theorem countL_snoc (p : K) : ∀ ps : List K, countL (ps ++ [p]) = countL ps + countK p := by
  intro ps
  induction ps with
  | nil => rw [List.nil_append, countL, countL, countL]; omega
  | cons q ps ih => rw [List.cons_append, countL, countL, ih]; omega
theorem countL_take {ps : List K} {j : Nat} (h : j < ps.length) : countL (ps.take (j + 1)) = countL (ps.take j) + countK ps[j] := by
  rw [List.take_succ_eq_append_getElem h, countL_snoc]
theorem countL_le (ps : List K) : ∀ j, countL (ps.take j) ≤ countL ps := by
  induction ps with
  | nil => intro j; simp
  | cons q ps ih =>
    intro j
    cases j with
    | zero => rw [List.take_zero, countL]; omega
    | succ j => rw [List.take_succ_cons, countL, countL]; have := ih j; omega
theorem deepL_take {ps : List K} {j : Nat} (h : j < ps.length) : deepL (ps.take (j + 1)) = max (deepL (ps.take j)) (deepK ps[j]) := by
  rw [List.take_succ_eq_append_getElem h, deepL_snoc]
theorem count_part {ps : List K} {p : K} (h : p ∈ ps) : countK p ≤ countL ps := by
  induction ps with
  | nil => cases h
  | cons q ps ih =>
    rw [countL]
    rcases List.mem_cons.1 h with rfl | h
    · omega
    · have := ih h; omega
theorem countK_pos (t : K) : 1 ≤ countK t := by obtain ⟨o, nm, no, mu, mo, ps⟩ := t; rw [countK]; omega
theorem len_count (ps : List K) : ps.length ≤ countL ps := by
  induction ps with
  | nil => rw [countL]; simp
  | cons q ps ih => rw [countL, List.length_cons]; have := countK_pos q; omega
theorem deepL_le (c : Int) : ∀ ps : List K, (∀ p ∈ ps, deepK p ≤ countK p) → deepL ps ≤ countL ps := by
  intro ps
  induction ps with
  | nil => intro _; rw [deepL, countL]; simp
  | cons q ps ih =>
    intro h
    have := h q (by simp)
    have := ih (fun p hp => h p (by simp [hp]))
    rw [deepL, countL]; omega
theorem deep_count (t : K) : deepK t ≤ countK t := by
  refine K.ind (P := fun t => deepK t ≤ countK t) ?_ t
  intro o nm no mu mo ps ih
  have := deepL_le 0 ps ih
  rw [deepK, countK, up1]; split <;> omega
theorem K.ind2 {P : K → Prop} (h : ∀ t, (∀ p ∈ t.parts, P p) → P t) (t : K) : P t := K.ind (P := P) (fun o nm no mu mo ps ih => h (.mk o nm no mu mo ps) ih) t
theorem K.eta (t : K) : K.mk t.of t.name t.no t.must t.most t.parts = t := by cases t; rfl
theorem deepK_eq (t : K) : deepK t = up1 t.of (deepL t.parts) := by cases t; rw [deepK]; rfl
theorem countK_eq (t : K) : countK t = 1 + countL t.parts := by cases t; rw [countK]; rfl
end Go.Proofs.Ytobahkjbadamhaa
