/- Trees of types, and what they are in a flat list of types; laws of no program. -/
import Derived.Test.YtobahkjbadamhaaType
namespace Go.Proofs.Ytobahkjbadamhaa
open Go.RowKit
set_option linter.unusedVariables false

/-- A type as a tree. -/
inductive K where
  | mk (of : Int) (name : ByteArray) (no : Int) (must : Bool) (most : Int) (parts : List K)
def K.of : K → Int | .mk o _ _ _ _ _ => o
def K.name : K → ByteArray | .mk _ n _ _ _ _ => n
def K.no : K → Int | .mk _ _ n _ _ _ => n
def K.must : K → Bool | .mk _ _ _ m _ _ => m
def K.most : K → Int | .mk _ _ _ _ m _ => m
def K.parts : K → List K | .mk _ _ _ _ _ p => p
theorem K.ind {P : K → Prop} (h : ∀ o nm no mu mo ps, (∀ p ∈ ps, P p) → P (.mk o nm no mu mo ps)) (t : K) : P t :=
  K.rec (motive_1 := P) (motive_2 := fun ps => ∀ p ∈ ps, P p) (fun o nm no mu mo ps ih => h o nm no mu mo ps ih) (fun p hp => by cases hp)
    (fun a l ha hl p hp => by rcases List.mem_cons.1 hp with rfl | hp; exact ha; exact hl p hp) t
def holdsB (k : Int) : Bool := k == 4 || k == 5
/-- Where a type lies; one ahead of none otherwise. -/
def U (l : List DType) (i : Nat) : Int := ((l[i]?).map (·.up)).getD (-2)
theorem U_at {l : List DType} {i : Nat} (h : i < l.length) : U l i = l[i].up := by simp [U, h]
theorem U_no {l : List DType} {i : Nat} (h : l.length ≤ i) : U l i = -2 := by simp [U, h]
theorem U_lt {l : List DType} {i a : Nat} (h : U l i = (a : Int)) : i < l.length := by
  by_cases hl : i < l.length
  · exact hl
  · rw [U_no (by omega)] at h; omega
/-- A type's own fields are those of a tree's top. -/
def top (x : DType) (o : Int) (nm : ByteArray) (no : Int) (mu : Bool) (mo : Int) : Prop := x.kind = o ∧ x.name = nm ∧ x.no = no ∧ x.must = mu ∧ x.most = mo
mutual
/-- From a place to another lie the types of a tree. -/
def enc (l : List DType) : K → Nat → Nat → Prop
  | .mk o nm no mu mo ps => fun a e => (∃ x, l[a]? = some x ∧ top x o nm no mu mo) ∧ (holdsB o = true ∨ ps = []) ∧ encL l ps a (a + 1) e
def encL (l : List DType) : List K → Nat → Nat → Nat → Prop
  | [] => fun _ e0 e => e = e0
  | p :: ps => fun a e0 e => ∃ e1, U l e0 = (a : Int) ∧ enc l p e0 e1 ∧ encL l ps a e1 e
end
def bdP (l : List DType) (a e : Nat) : Prop := a < e ∧ e ≤ l.length ∧ ∀ i, a < i → i < e → (a : Int) ≤ U l i ∧ U l i < i
theorem encL_bd {l : List DType} : ∀ ps : List K, (∀ p ∈ ps, ∀ a e, enc l p a e → bdP l a e) → ∀ a e0 e, encL l ps a e0 e → a < e0 → e0 ≤ l.length →
    e0 ≤ e ∧ e ≤ l.length ∧ ∀ i, e0 ≤ i → i < e → (U l i = (a : Int) ∨ (e0 : Int) ≤ U l i) ∧ U l i < i := by
  intro ps
  induction ps with
  | nil => intro _ a e0 e h ha hl; rw [encL] at h; subst h; exact ⟨Nat.le_refl _, hl, fun i h1 h2 => by omega⟩
  | cons p ps ih =>
    intro hp a e0 e h ha hl
    rw [encL] at h
    obtain ⟨e1, hu, h1, h2⟩ := h
    obtain ⟨b1, b2, b3⟩ := hp p (by simp) _ _ h1
    obtain ⟨c1, c2, c3⟩ := ih (fun q hq => hp q (by simp [hq])) _ _ _ h2 (by omega) b2
    refine ⟨by omega, c2, fun i hi1 hi2 => ?_⟩
    by_cases hi : i = e0
    · subst hi; exact ⟨.inl hu, by omega⟩
    by_cases hi3 : i < e1
    · have := b3 i (by omega) hi3; exact ⟨.inr this.1, this.2⟩
    · have := c3 i (by omega) hi2; exact ⟨by omega, this.2⟩
theorem enc_bd {l : List DType} (t : K) : ∀ a e, enc l t a e → bdP l a e := by
  refine K.ind (P := fun t => ∀ a e, enc l t a e → bdP l a e) ?_ t
  intro o nm no mu mo ps ih a e h
  rw [enc] at h
  obtain ⟨⟨x, hx, _⟩, _, h⟩ := h
  have ha : a < l.length := (List.getElem?_eq_some_iff.1 hx).1
  obtain ⟨c1, c2, c3⟩ := encL_bd ps ih a (a + 1) e h (by omega) (by omega)
  refine ⟨by omega, c2, fun i h1 h2 => ?_⟩
  have := c3 i (by omega) h2
  exact ⟨by omega, this.2⟩
theorem encL_bd' {l : List DType} {ps : List K} {a e0 e : Nat} (h : encL l ps a e0 e) (ha : a < e0) (hl : e0 ≤ l.length) :
    e0 ≤ e ∧ e ≤ l.length ∧ ∀ i, e0 ≤ i → i < e → (U l i = (a : Int) ∨ (e0 : Int) ≤ U l i) ∧ U l i < i := encL_bd ps (fun p _ => enc_bd p) a e0 e h ha hl
/-- The parts of a type, from a place on. -/
def seg (l : List DType) (a e0 : Nat) : List Nat := (List.range' e0 (l.length - e0)).filter (fun i => decide (U l i = (a : Int)))
def kidsOf (l : List DType) (a : Nat) : List Nat := seg l a (a + 1)
theorem seg_cons {l : List DType} {a e0 : Nat} (h : e0 < l.length) : seg l a e0 = if U l e0 = (a : Int) then e0 :: seg l a (e0 + 1) else seg l a (e0 + 1) := by
  rw [seg, show l.length - e0 = (l.length - (e0 + 1)) + 1 by omega, List.range'_succ, List.filter_cons]
  by_cases hu : U l e0 = (a : Int)
  · rw [if_pos hu, if_pos (by simpa using hu)]; rfl
  · rw [if_neg hu, if_neg (by simpa using hu)]; rfl
theorem seg_end {l : List DType} {a e0 : Nat} (h : l.length ≤ e0) : seg l a e0 = [] := by rw [seg, show l.length - e0 = 0 by omega]; rfl
theorem seg_skip {l : List DType} {a : Nat} : ∀ (n e0 : Nat), (∀ i, e0 ≤ i → i < e0 + n → U l i ≠ (a : Int)) → seg l a e0 = seg l a (e0 + n) := by
  intro n
  induction n with
  | zero => intro e0 _; rfl
  | succ n ih =>
    intro e0 h
    by_cases hl : e0 < l.length
    · rw [seg_cons hl, if_neg (h e0 (Nat.le_refl _) (by omega)), ih (e0 + 1) (fun i h1 h2 => h i (by omega) (by omega)), show e0 + 1 + n = e0 + (n + 1) by omega]
    · rw [seg_end (by omega), seg_end (by omega)]
theorem mem_seg {l : List DType} {a e0 i : Nat} : i ∈ seg l a e0 ↔ e0 ≤ i ∧ i < l.length ∧ U l i = (a : Int) := by
  rw [seg, List.mem_filter, List.mem_range'_1]
  constructor
  · rintro ⟨⟨h1, h2⟩, h3⟩; exact ⟨h1, by omega, by simpa using h3⟩
  · rintro ⟨h1, h2, h3⟩; exact ⟨⟨h1, by omega⟩, by simpa using h3⟩
/-- No type behind lies in a tree. -/
def Out (l : List DType) (a e : Nat) : Prop := ∀ i, e ≤ i → i < l.length → U l i < (a : Int) ∨ (e : Int) ≤ U l i
/-- A tree lies at a place, whole. -/
def Sb (l : List DType) (a : Nat) (t : K) : Prop := ∃ e, enc l t a e ∧ Out l a e
/-- Places of parts. -/
def Kd (l : List DType) (qs : List Nat) (ps : List K) : Prop := qs.length = ps.length ∧ ∀ j (h : j < qs.length) (h' : j < ps.length), Sb l qs[j] ps[j]
theorem Kd.nil {l : List DType} : Kd l [] [] := ⟨rfl, fun j h => by simp at h⟩
theorem Kd.cons {l : List DType} {q : Nat} {p : K} {qs : List Nat} {ps : List K} (h : Sb l q p) (hs : Kd l qs ps) : Kd l (q :: qs) (p :: ps) := by
  refine ⟨by simp [hs.1], fun j h1 h2 => ?_⟩
  cases j with
  | zero => exact h
  | succ j => exact hs.2 j (by simpa using h1) (by simpa using h2)
theorem encL_kids {l : List DType} : ∀ (ps : List K) (a e0 e : Nat), encL l ps a e0 e → a < e0 → e0 ≤ l.length → Out l a e → Kd l (seg l a e0) ps := by
  intro ps
  induction ps with
  | nil =>
    intro a e0 e h ha hl ho
    rw [encL] at h
    have : seg l a e0 = [] := by
      rw [List.eq_nil_iff_forall_not_mem]
      intro i hi
      obtain ⟨h1, h2, h3⟩ := mem_seg.1 hi
      rcases ho i (by omega) h2 with h | h <;> omega
    rw [this]; exact Kd.nil
  | cons p ps ih =>
    intro a e0 e h ha hl ho
    rw [encL] at h
    obtain ⟨e1, hu, h1, h2⟩ := h
    obtain ⟨b1, b2, b3⟩ := enc_bd p _ _ h1
    obtain ⟨c1, c2, c3⟩ := encL_bd' h2 (by omega) b2
    rw [seg_cons (by omega), if_pos hu, seg_skip (e1 - (e0 + 1)) (e0 + 1) (fun i hi1 hi2 => by have := (b3 i (by omega) (by omega)).1; omega), show e0 + 1 + (e1 - (e0 + 1)) = e1 by omega]
    refine Kd.cons ⟨e1, h1, ?_⟩ (ih a e1 e h2 (by omega) b2 ho)
    intro i hi1 hi2
    by_cases hi : i < e
    · have := (c3 i hi1 hi).1; omega
    · have := ho i (by omega) hi2; omega
theorem Sb.kids {l : List DType} {a : Nat} {o : Int} {nm : ByteArray} {no : Int} {mu : Bool} {mo : Int} {ps : List K} (h : Sb l a (.mk o nm no mu mo ps)) :
    (∃ ha : a < l.length, top l[a] o nm no mu mo) ∧ (holdsB o = true ∨ ps = []) ∧ Kd l (kidsOf l a) ps := by
  obtain ⟨e, h, ho⟩ := h
  rw [enc] at h
  obtain ⟨⟨x, hx, ht⟩, hh, h⟩ := h
  obtain ⟨ha, rfl⟩ := List.getElem?_eq_some_iff.1 hx
  exact ⟨⟨ha, ht⟩, hh, encL_kids ps a (a + 1) e h (by omega) (by omega) ho⟩
theorem Sb.uniq {l : List DType} (t : K) : ∀ a t', Sb l a t → Sb l a t' → t = t' := by
  refine K.ind (P := fun t => ∀ a t', Sb l a t → Sb l a t' → t = t') ?_ t
  intro o nm no mu mo ps ih a t' h h'
  obtain ⟨o', nm', no', mu', mo', ps'⟩ := t'
  obtain ⟨⟨_, k1, k2, k3, k4, k5⟩, _, g1, g2⟩ := h.kids
  obtain ⟨⟨_, k1', k2', k3', k4', k5'⟩, _, g1', g2'⟩ := h'.kids
  have hps : ps = ps' := by
    apply List.ext_getElem (by omega)
    intro j h1 h2
    exact ih _ (List.getElem_mem h1) _ _ (g2 j (by omega) h1) (g2' j (by omega) h2)
  subst hps
  rw [← k1, ← k2, ← k3, ← k4, ← k5, k1', k2', k3', k4', k5']
/-- One type lies around another, or is it. -/
inductive Anc (l : List DType) : Nat → Nat → Prop
  | refl (j : Nat) : Anc l j j
  | up (j p a : Nat) : U l j = (p : Int) → Anc l p a → Anc l j a
theorem Anc.one {l : List DType} {j a b : Nat} (h : Anc l j a) (hu : U l a = (b : Int)) : Anc l j b := by
  induction h with
  | refl j => exact .up j b b hu (.refl b)
  | up j p a h1 h2 ih => exact .up j p b h1 (ih hu)
def aroundP (l : List DType) (i : Nat) : Prop := ∃ q : Nat, U l i = (q : Int) ∧ Anc l (i - 1) q ∧ ∃ h : q < l.length, holdsB l[q].kind = true
def spP (l : List DType) (a e : Nat) : Prop := Anc l (e - 1) a ∧ ∀ i, a < i → i < e → aroundP l i
theorem encL_sp {l : List DType} : ∀ ps : List K, (∀ p ∈ ps, ∀ a e, enc l p a e → spP l a e) → ∀ a e0 e, encL l ps a e0 e → a < e0 → (ha : a < l.length) → (ps ≠ [] → holdsB l[a].kind = true) → Anc l (e0 - 1) a →
    Anc l (e - 1) a ∧ ∀ i, e0 ≤ i → i < e → aroundP l i := by
  intro ps
  induction ps with
  | nil => intro _ a e0 e h ha hl hh hA; rw [encL] at h; subst h; exact ⟨hA, fun i h1 h2 => by omega⟩
  | cons p ps ih =>
    intro hp a e0 e h ha hl hh hA
    rw [encL] at h
    obtain ⟨e1, hu, h1, h2⟩ := h
    obtain ⟨b1, b2⟩ := hp p (by simp) _ _ h1
    obtain ⟨c1, c2, c3⟩ := enc_bd p _ _ h1
    obtain ⟨d1, d2⟩ := ih (fun q hq => hp q (by simp [hq])) a e1 e h2 (by omega) hl (fun _ => hh (by simp)) (b1.one hu)
    refine ⟨d1, fun i h3 h4 => ?_⟩
    by_cases hi : i = e0
    · subst hi; exact ⟨a, hu, hA, hl, hh (by simp)⟩
    by_cases hi2 : i < e1
    · exact b2 i (by omega) hi2
    · exact d2 i (by omega) h4
theorem enc_sp {l : List DType} (t : K) : ∀ a e, enc l t a e → spP l a e := by
  refine K.ind (P := fun t => ∀ a e, enc l t a e → spP l a e) ?_ t
  intro o nm no mu mo ps ih a e h
  rw [enc] at h
  obtain ⟨⟨x, hx, ht⟩, hh, h⟩ := h
  obtain ⟨ha, rfl⟩ := List.getElem?_eq_some_iff.1 hx
  have := encL_sp ps ih a (a + 1) e h (by omega) ha (fun hn => by rw [ht.1]; exact hh.resolve_right hn) (by rw [Nat.add_sub_cancel]; exact .refl a)
  exact ⟨this.1, fun i h1 h2 => this.2 i (by omega) h2⟩
/-- Each place of a tree is the place of one of its own. -/
inductive InK : K → K → Prop
  | self (t : K) : InK t t
  | part (o : Int) (nm : ByteArray) (no : Int) (mu : Bool) (mo : Int) (ps : List K) (p s : K) : p ∈ ps → InK s p → InK s (.mk o nm no mu mo ps)
theorem encL_in {l : List DType} : ∀ ps : List K, (∀ p ∈ ps, ∀ a e, enc l p a e → Out l a e → ∀ i, a ≤ i → i < e → ∃ s, Sb l i s ∧ InK s p) → ∀ a e0 e, encL l ps a e0 e → a < e0 → e0 ≤ l.length → Out l a e →
    ∀ i, e0 ≤ i → i < e → ∃ s p, Sb l i s ∧ p ∈ ps ∧ InK s p := by
  intro ps
  induction ps with
  | nil => intro _ a e0 e h ha hl ho i h1 h2; rw [encL] at h; omega
  | cons p ps ih =>
    intro hp a e0 e h ha hl ho i h3 h4
    rw [encL] at h
    obtain ⟨e1, hu, h1, h2⟩ := h
    obtain ⟨b1, b2, b3⟩ := enc_bd p _ _ h1
    obtain ⟨c1, c2, c3⟩ := encL_bd' h2 (by omega) b2
    by_cases hi : i < e1
    · obtain ⟨s, s1, s2⟩ := hp p (by simp) _ _ h1 (fun k k1 k2 => by
        by_cases hk : k < e
        · have := (c3 k k1 hk).1; omega
        · have := ho k (by omega) k2; omega) i h3 hi
      exact ⟨s, p, s1, by simp, s2⟩
    · obtain ⟨s, q, s1, s2, s3⟩ := ih (fun q hq => hp q (by simp [hq])) a e1 e h2 (by omega) b2 ho i (by omega) h4
      exact ⟨s, q, s1, by simp [s2], s3⟩
theorem enc_in {l : List DType} (t : K) : ∀ a e, enc l t a e → Out l a e → ∀ i, a ≤ i → i < e → ∃ s, Sb l i s ∧ InK s t := by
  refine K.ind (P := fun t => ∀ a e, enc l t a e → Out l a e → ∀ i, a ≤ i → i < e → ∃ s, Sb l i s ∧ InK s t) ?_ t
  intro o nm no mu mo ps ih a e h ho i h1 h2
  by_cases hi : i = a
  · subst hi; exact ⟨_, ⟨e, h, ho⟩, .self _⟩
  rw [enc] at h
  obtain ⟨⟨x, hx, ht⟩, hh, h⟩ := h
  have ha := (List.getElem?_eq_some_iff.1 hx).1
  obtain ⟨s, p, s1, s2, s3⟩ := encL_in ps ih a (a + 1) e h (by omega) (by omega) ho i (by omega) h2
  exact ⟨s, s1, .part _ _ _ _ _ _ p s s2 s3⟩
/-- How deep a tree is, and how many its types. -/
def up1 (o : Int) (n : Int) : Int := if holdsB o then n + 1 else n
mutual
def deepK : K → Int
  | .mk o _ _ _ _ ps => up1 o (deepL ps)
def deepL : List K → Int
  | [] => 0
  | p :: ps => max (deepK p) (deepL ps)
end
mutual
def countK : K → Nat
  | .mk _ _ _ _ _ ps => 1 + countL ps
def countL : List K → Nat
  | [] => 0
  | p :: ps => countK p + countL ps
end
theorem encL_count {l : List DType} : ∀ ps : List K, (∀ p ∈ ps, ∀ a e, enc l p a e → e = a + countK p) → ∀ a e0 e, encL l ps a e0 e → e = e0 + countL ps := by
  intro ps
  induction ps with
  | nil => intro _ a e0 e h; rw [encL] at h; rw [countL]; omega
  | cons p ps ih =>
    intro hp a e0 e h
    rw [encL] at h
    obtain ⟨e1, hu, h1, h2⟩ := h
    have := hp p (by simp) _ _ h1
    have := ih (fun q hq => hp q (by simp [hq])) _ _ _ h2
    rw [countL]; omega
theorem enc_count {l : List DType} (t : K) : ∀ a e, enc l t a e → e = a + countK t := by
  refine K.ind (P := fun t => ∀ a e, enc l t a e → e = a + countK t) ?_ t
  intro o nm no mu mo ps ih a e h
  rw [enc] at h
  have := encL_count ps ih _ _ _ h.2.2
  rw [countK]; omega
end Go.Proofs.Ytobahkjbadamhaa
