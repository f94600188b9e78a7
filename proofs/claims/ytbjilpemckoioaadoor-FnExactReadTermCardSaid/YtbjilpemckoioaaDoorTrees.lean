/- Trees of types, and what they are in a flat list of types; laws of no program (with KindG, Tell, Rep, RepX). -/
import Derived.Test.YtbjilpemckoioaaDoorType
import Derived.Test.YtbjilpemckoioaaDoorBases
/- Trees of types, and what they are in a flat list of types; laws of no program. -/
namespace Go.Proofs.YtbjilpemckoioaaDoor
open Go.RowKit
set_option linter.unusedVariables false

/-- A type as a tree. -/
inductive K where
  | mk (of : Int) (name : ByteArray) (no : Int) (must : Bool) (most : Int) (parts : List K)
def K.of : K → Int | .mk o _ _ _ _ _ => o
def K.name : K → ByteArray | .mk _ n _ _ _ _ => n
def K.no : K → Int | .mk _ _ n _ _ _ => n
def K.must : K → Bool | .mk _ _ _ m _ _ => m
def K.most : K → Int | .mk _ _ _ _ m _ => m
def K.parts : K → List K | .mk _ _ _ _ _ p => p
theorem K.ind {P : K → Prop} (h : ∀ o nm no mu mo ps, (∀ p ∈ ps, P p) → P (.mk o nm no mu mo ps)) (t : K) : P t :=
  K.rec (motive_1 := P) (motive_2 := fun ps => ∀ p ∈ ps, P p) (fun o nm no mu mo ps ih => h o nm no mu mo ps ih) (fun p hp => by cases hp)
    (fun a l ha hl p hp => by rcases List.mem_cons.1 hp with rfl | hp; exact ha; exact hl p hp) t
def holdsB (k : Int) : Bool := k == 4 || k == 5
/-- Where a type lies; one ahead of none otherwise. -/
def U (l : List DType) (i : Nat) : Int := ((l[i]?).map (·.up)).getD (-2)
theorem U_at {l : List DType} {i : Nat} (h : i < l.length) : U l i = l[i].up := by simp [U, h]
theorem U_no {l : List DType} {i : Nat} (h : l.length ≤ i) : U l i = -2 := by simp [U, h]
theorem U_lt {l : List DType} {i a : Nat} (h : U l i = (a : Int)) : i < l.length := by
  by_cases hl : i < l.length
  · exact hl
  · rw [U_no (by omega)] at h; omega
/-- A type's own fields are those of a tree's top. -/
def top (x : DType) (o : Int) (nm : ByteArray) (no : Int) (mu : Bool) (mo : Int) : Prop := x.kind = o ∧ x.name = nm ∧ x.no = no ∧ x.must = mu ∧ x.most = mo
mutual
/-- From a place to another lie the types of a tree. -/
def enc (l : List DType) : K → Nat → Nat → Prop
  | .mk o nm no mu mo ps => fun a e => (∃ x, l[a]? = some x ∧ top x o nm no mu mo) ∧ (holdsB o = true ∨ ps = []) ∧ encL l ps a (a + 1) e
def encL (l : List DType) : List K → Nat → Nat → Nat → Prop
  | [] => fun _ e0 e => e = e0
  | p :: ps => fun a e0 e => ∃ e1, U l e0 = (a : Int) ∧ enc l p e0 e1 ∧ encL l ps a e1 e
end
def bdP (l : List DType) (a e : Nat) : Prop := a < e ∧ e ≤ l.length ∧ ∀ i, a < i → i < e → (a : Int) ≤ U l i ∧ U l i < i
theorem encL_bd {l : List DType} : ∀ ps : List K, (∀ p ∈ ps, ∀ a e, enc l p a e → bdP l a e) → ∀ a e0 e, encL l ps a e0 e → a < e0 → e0 ≤ l.length →
    e0 ≤ e ∧ e ≤ l.length ∧ ∀ i, e0 ≤ i → i < e → (U l i = (a : Int) ∨ (e0 : Int) ≤ U l i) ∧ U l i < i := by
  intro ps
  induction ps with
  | nil => intro _ a e0 e h ha hl; rw [encL] at h; subst h; exact ⟨Nat.le_refl _, hl, fun i h1 h2 => by omega⟩
  | cons p ps ih =>
    intro hp a e0 e h ha hl
    rw [encL] at h
    obtain ⟨e1, hu, h1, h2⟩ := h
    obtain ⟨b1, b2, b3⟩ := hp p (by simp) _ _ h1
    obtain ⟨c1, c2, c3⟩ := ih (fun q hq => hp q (by simp [hq])) _ _ _ h2 (by omega) b2
    refine ⟨by omega, c2, fun i hi1 hi2 => ?_⟩
    by_cases hi : i = e0
    · subst hi; exact ⟨.inl hu, by omega⟩
    by_cases hi3 : i < e1
    · have := b3 i (by omega) hi3; exact ⟨.inr this.1, this.2⟩
    · have := c3 i (by omega) hi2; exact ⟨by omega, this.2⟩
theorem enc_bd {l : List DType} (t : K) : ∀ a e, enc l t a e → bdP l a e := by
  refine K.ind (P := fun t => ∀ a e, enc l t a e → bdP l a e) ?_ t
  intro o nm no mu mo ps ih a e h
  rw [enc] at h
  obtain ⟨⟨x, hx, _⟩, _, h⟩ := h
  have ha : a < l.length := (List.getElem?_eq_some_iff.1 hx).1
  obtain ⟨c1, c2, c3⟩ := encL_bd ps ih a (a + 1) e h (by omega) (by omega)
  refine ⟨by omega, c2, fun i h1 h2 => ?_⟩
  have := c3 i (by omega) h2
  exact ⟨by omega, this.2⟩
theorem encL_bd' {l : List DType} {ps : List K} {a e0 e : Nat} (h : encL l ps a e0 e) (ha : a < e0) (hl : e0 ≤ l.length) :
    e0 ≤ e ∧ e ≤ l.length ∧ ∀ i, e0 ≤ i → i < e → (U l i = (a : Int) ∨ (e0 : Int) ≤ U l i) ∧ U l i < i := encL_bd ps (fun p _ => enc_bd p) a e0 e h ha hl
/-- The parts of a type, from a place on. -/
def seg (l : List DType) (a e0 : Nat) : List Nat := (List.range' e0 (l.length - e0)).filter (fun i => decide (U l i = (a : Int)))
def kidsOf (l : List DType) (a : Nat) : List Nat := seg l a (a + 1)
theorem seg_cons {l : List DType} {a e0 : Nat} (h : e0 < l.length) : seg l a e0 = if U l e0 = (a : Int) then e0 :: seg l a (e0 + 1) else seg l a (e0 + 1) := by
  rw [seg, show l.length - e0 = (l.length - (e0 + 1)) + 1 by omega, List.range'_succ, List.filter_cons]
  by_cases hu : U l e0 = (a : Int)
  · rw [if_pos hu, if_pos (by simpa using hu)]; rfl
  · rw [if_neg hu, if_neg (by simpa using hu)]; rfl
theorem seg_end {l : List DType} {a e0 : Nat} (h : l.length ≤ e0) : seg l a e0 = [] := by rw [seg, show l.length - e0 = 0 by omega]; rfl
theorem seg_skip {l : List DType} {a : Nat} : ∀ (n e0 : Nat), (∀ i, e0 ≤ i → i < e0 + n → U l i ≠ (a : Int)) → seg l a e0 = seg l a (e0 + n) := by
  intro n
  induction n with
  | zero => intro e0 _; rfl
  | succ n ih =>
    intro e0 h
    by_cases hl : e0 < l.length
    · rw [seg_cons hl, if_neg (h e0 (Nat.le_refl _) (by omega)), ih (e0 + 1) (fun i h1 h2 => h i (by omega) (by omega)), show e0 + 1 + n = e0 + (n + 1) by omega]
    · rw [seg_end (by omega), seg_end (by omega)]
theorem mem_seg {l : List DType} {a e0 i : Nat} : i ∈ seg l a e0 ↔ e0 ≤ i ∧ i < l.length ∧ U l i = (a : Int) := by
  rw [seg, List.mem_filter, List.mem_range'_1]
  constructor
  · rintro ⟨⟨h1, h2⟩, h3⟩; exact ⟨h1, by omega, by simpa using h3⟩
  · rintro ⟨h1, h2, h3⟩; exact ⟨⟨h1, by omega⟩, by simpa using h3⟩
/-- No type behind lies in a tree. -/
def Out (l : List DType) (a e : Nat) : Prop := ∀ i, e ≤ i → i < l.length → U l i < (a : Int) ∨ (e : Int) ≤ U l i
/-- A tree lies at a place, whole. -/
def Sb (l : List DType) (a : Nat) (t : K) : Prop := ∃ e, enc l t a e ∧ Out l a e
/-- Places of parts. -/
def Kd (l : List DType) (qs : List Nat) (ps : List K) : Prop := qs.length = ps.length ∧ ∀ j (h : j < qs.length) (h' : j < ps.length), Sb l qs[j] ps[j]
theorem Kd.nil {l : List DType} : Kd l [] [] := ⟨rfl, fun j h => by simp at h⟩
theorem Kd.cons {l : List DType} {q : Nat} {p : K} {qs : List Nat} {ps : List K} (h : Sb l q p) (hs : Kd l qs ps) : Kd l (q :: qs) (p :: ps) := by
  refine ⟨by simp [hs.1], fun j h1 h2 => ?_⟩
  cases j with
  | zero => exact h
  | succ j => exact hs.2 j (by simpa using h1) (by simpa using h2)
theorem encL_kids {l : List DType} : ∀ (ps : List K) (a e0 e : Nat), encL l ps a e0 e → a < e0 → e0 ≤ l.length → Out l a e → Kd l (seg l a e0) ps := by
  intro ps
  induction ps with
  | nil =>
    intro a e0 e h ha hl ho
    rw [encL] at h
    have : seg l a e0 = [] := by
      rw [List.eq_nil_iff_forall_not_mem]
      intro i hi
      obtain ⟨h1, h2, h3⟩ := mem_seg.1 hi
      rcases ho i (by omega) h2 with h | h <;> omega
    rw [this]; exact Kd.nil
  | cons p ps ih =>
    intro a e0 e h ha hl ho
    rw [encL] at h
    obtain ⟨e1, hu, h1, h2⟩ := h
    obtain ⟨b1, b2, b3⟩ := enc_bd p _ _ h1
    obtain ⟨c1, c2, c3⟩ := encL_bd' h2 (by omega) b2
    rw [seg_cons (by omega), if_pos hu, seg_skip (e1 - (e0 + 1)) (e0 + 1) (fun i hi1 hi2 => by have := (b3 i (by omega) (by omega)).1; omega), show e0 + 1 + (e1 - (e0 + 1)) = e1 by omega]
    refine Kd.cons ⟨e1, h1, ?_⟩ (ih a e1 e h2 (by omega) b2 ho)
    intro i hi1 hi2
    by_cases hi : i < e
    · have := (c3 i hi1 hi).1; omega
    · have := ho i (by omega) hi2; omega
theorem Sb.kids {l : List DType} {a : Nat} {o : Int} {nm : ByteArray} {no : Int} {mu : Bool} {mo : Int} {ps : List K} (h : Sb l a (.mk o nm no mu mo ps)) :
    (∃ ha : a < l.length, top l[a] o nm no mu mo) ∧ (holdsB o = true ∨ ps = []) ∧ Kd l (kidsOf l a) ps := by
  obtain ⟨e, h, ho⟩ := h
  rw [enc] at h
  obtain ⟨⟨x, hx, ht⟩, hh, h⟩ := h
  obtain ⟨ha, rfl⟩ := List.getElem?_eq_some_iff.1 hx
  exact ⟨⟨ha, ht⟩, hh, encL_kids ps a (a + 1) e h (by omega) (by omega) ho⟩
theorem Sb.uniq {l : List DType} (t : K) : ∀ a t', Sb l a t → Sb l a t' → t = t' := by
  refine K.ind (P := fun t => ∀ a t', Sb l a t → Sb l a t' → t = t') ?_ t
  intro o nm no mu mo ps ih a t' h h'
  obtain ⟨o', nm', no', mu', mo', ps'⟩ := t'
  obtain ⟨⟨_, k1, k2, k3, k4, k5⟩, _, g1, g2⟩ := h.kids
  obtain ⟨⟨_, k1', k2', k3', k4', k5'⟩, _, g1', g2'⟩ := h'.kids
  have hps : ps = ps' := by
    apply List.ext_getElem (by omega)
    intro j h1 h2
    exact ih _ (List.getElem_mem h1) _ _ (g2 j (by omega) h1) (g2' j (by omega) h2)
  subst hps
  rw [← k1, ← k2, ← k3, ← k4, ← k5, k1', k2', k3', k4', k5']
/-- One type lies around another, or is it. -/
inductive Anc (l : List DType) : Nat → Nat → Prop
  | refl (j : Nat) : Anc l j j
  | up (j p a : Nat) : U l j = (p : Int) → Anc l p a → Anc l j a
theorem Anc.one {l : List DType} {j a b : Nat} (h : Anc l j a) (hu : U l a = (b : Int)) : Anc l j b := by
  induction h with
  | refl j => exact .up j b b hu (.refl b)
  | up j p a h1 h2 ih => exact .up j p b h1 (ih hu)
def aroundP (l : List DType) (i : Nat) : Prop := ∃ q : Nat, U l i = (q : Int) ∧ Anc l (i - 1) q ∧ ∃ h : q < l.length, holdsB l[q].kind = true
def spP (l : List DType) (a e : Nat) : Prop := Anc l (e - 1) a ∧ ∀ i, a < i → i < e → aroundP l i
theorem encL_sp {l : List DType} : ∀ ps : List K, (∀ p ∈ ps, ∀ a e, enc l p a e → spP l a e) → ∀ a e0 e, encL l ps a e0 e → a < e0 → (ha : a < l.length) → (ps ≠ [] → holdsB l[a].kind = true) → Anc l (e0 - 1) a →
    Anc l (e - 1) a ∧ ∀ i, e0 ≤ i → i < e → aroundP l i := by
  intro ps
  induction ps with
  | nil => intro _ a e0 e h ha hl hh hA; rw [encL] at h; subst h; exact ⟨hA, fun i h1 h2 => by omega⟩
  | cons p ps ih =>
    intro hp a e0 e h ha hl hh hA
    rw [encL] at h
    obtain ⟨e1, hu, h1, h2⟩ := h
    obtain ⟨b1, b2⟩ := hp p (by simp) _ _ h1
    obtain ⟨c1, c2, c3⟩ := enc_bd p _ _ h1
    obtain ⟨d1, d2⟩ := ih (fun q hq => hp q (by simp [hq])) a e1 e h2 (by omega) hl (fun _ => hh (by simp)) (b1.one hu)
    refine ⟨d1, fun i h3 h4 => ?_⟩
    by_cases hi : i = e0
    · subst hi; exact ⟨a, hu, hA, hl, hh (by simp)⟩
    by_cases hi2 : i < e1
    · exact b2 i (by omega) hi2
    · exact d2 i (by omega) h4
theorem enc_sp {l : List DType} (t : K) : ∀ a e, enc l t a e → spP l a e := by
  refine K.ind (P := fun t => ∀ a e, enc l t a e → spP l a e) ?_ t
  intro o nm no mu mo ps ih a e h
  rw [enc] at h
  obtain ⟨⟨x, hx, ht⟩, hh, h⟩ := h
  obtain ⟨ha, rfl⟩ := List.getElem?_eq_some_iff.1 hx
  have := encL_sp ps ih a (a + 1) e h (by omega) ha (fun hn => by rw [ht.1]; exact hh.resolve_right hn) (by rw [Nat.add_sub_cancel]; exact .refl a)
  exact ⟨this.1, fun i h1 h2 => this.2 i (by omega) h2⟩
/-- Each place of a tree is the place of one of its own. -/
inductive InK : K → K → Prop
  | self (t : K) : InK t t
  | part (o : Int) (nm : ByteArray) (no : Int) (mu : Bool) (mo : Int) (ps : List K) (p s : K) : p ∈ ps → InK s p → InK s (.mk o nm no mu mo ps)
theorem encL_in {l : List DType} : ∀ ps : List K, (∀ p ∈ ps, ∀ a e, enc l p a e → Out l a e → ∀ i, a ≤ i → i < e → ∃ s, Sb l i s ∧ InK s p) → ∀ a e0 e, encL l ps a e0 e → a < e0 → e0 ≤ l.length → Out l a e →
    ∀ i, e0 ≤ i → i < e → ∃ s p, Sb l i s ∧ p ∈ ps ∧ InK s p := by
  intro ps
  induction ps with
  | nil => intro _ a e0 e h ha hl ho i h1 h2; rw [encL] at h; omega
  | cons p ps ih =>
    intro hp a e0 e h ha hl ho i h3 h4
    rw [encL] at h
    obtain ⟨e1, hu, h1, h2⟩ := h
    obtain ⟨b1, b2, b3⟩ := enc_bd p _ _ h1
    obtain ⟨c1, c2, c3⟩ := encL_bd' h2 (by omega) b2
    by_cases hi : i < e1
    · obtain ⟨s, s1, s2⟩ := hp p (by simp) _ _ h1 (fun k k1 k2 => by
        by_cases hk : k < e
        · have := (c3 k k1 hk).1; omega
        · have := ho k (by omega) k2; omega) i h3 hi
      exact ⟨s, p, s1, by simp, s2⟩
    · obtain ⟨s, q, s1, s2, s3⟩ := ih (fun q hq => hp q (by simp [hq])) a e1 e h2 (by omega) b2 ho i (by omega) h4
      exact ⟨s, q, s1, by simp [s2], s3⟩
theorem enc_in {l : List DType} (t : K) : ∀ a e, enc l t a e → Out l a e → ∀ i, a ≤ i → i < e → ∃ s, Sb l i s ∧ InK s t := by
  refine K.ind (P := fun t => ∀ a e, enc l t a e → Out l a e → ∀ i, a ≤ i → i < e → ∃ s, Sb l i s ∧ InK s t) ?_ t
  intro o nm no mu mo ps ih a e h ho i h1 h2
  by_cases hi : i = a
  · subst hi; exact ⟨_, ⟨e, h, ho⟩, .self _⟩
  rw [enc] at h
  obtain ⟨⟨x, hx, ht⟩, hh, h⟩ := h
  have ha := (List.getElem?_eq_some_iff.1 hx).1
  obtain ⟨s, p, s1, s2, s3⟩ := encL_in ps ih a (a + 1) e h (by omega) (by omega) ho i (by omega) h2
  exact ⟨s, s1, .part _ _ _ _ _ _ p s s2 s3⟩
/-- How deep a tree is, and how many its types. -/
def up1 (o : Int) (n : Int) : Int := if holdsB o then n + 1 else n
mutual
def deepK : K → Int
  | .mk o _ _ _ _ ps => up1 o (deepL ps)
def deepL : List K → Int
  | [] => 0
  | p :: ps => max (deepK p) (deepL ps)
end
mutual
def countK : K → Nat
  | .mk _ _ _ _ _ ps => 1 + countL ps
def countL : List K → Nat
  | [] => 0
  | p :: ps => countK p + countL ps
end
theorem encL_count {l : List DType} : ∀ ps : List K, (∀ p ∈ ps, ∀ a e, enc l p a e → e = a + countK p) → ∀ a e0 e, encL l ps a e0 e → e = e0 + countL ps := by
  intro ps
  induction ps with
  | nil => intro _ a e0 e h; rw [encL] at h; rw [countL]; omega
  | cons p ps ih =>
    intro hp a e0 e h
    rw [encL] at h
    obtain ⟨e1, hu, h1, h2⟩ := h
    have := hp p (by simp) _ _ h1
    have := ih (fun q hq => hp q (by simp [hq])) _ _ _ h2
    rw [countL]; omega
theorem enc_count {l : List DType} (t : K) : ∀ a e, enc l t a e → e = a + countK t := by
  refine K.ind (P := fun t => ∀ a e, enc l t a e → e = a + countK t) ?_ t
  intro o nm no mu mo ps ih a e h
  rw [enc] at h
  have := encL_count ps ih _ _ _ h.2.2
  rw [countK]; omega
end Go.Proofs.YtbjilpemckoioaaDoor
/- When a flat list of types is a good schema: as a list, and as a tree; laws of no program. -/
namespace Go.Proofs.YtbjilpemckoioaaDoor
open Go.RowKit
set_option linter.unusedVariables false

def nameP (s : ByteArray) : Prop := (∀ c ∈ s.data.toList, 97 ≤ c.toNat ∧ c.toNat ≤ 122) ∧ 1 ≤ s.size ∧ s.size ≤ 10
def okT (x : DType) : Prop := 1 ≤ x.kind ∧ x.kind ≤ 5 ∧ (x.kind = 3 → 0 ≤ x.most ∧ x.most ≤ 20) ∧ (x.kind ≠ 3 → x.most = 0)
def blankP (nm : ByteArray) (no : Int) (mu : Bool) : Prop := nm = ⟨#[]⟩ ∧ no = 0 ∧ mu = false
def ahead (l : List DType) (q i : Nat) (nm : ByteArray) (no : Int) : Prop := ∀ k, q < k → k < i → (hk : k < l.length) → U l k = (q : Int) → l[k].no < no ∧ l[k].name ≠ nm
def partP (l : List DType) (i : Nat) : Prop := ∃ (hi : i < l.length) (q : Nat) (hq : q < l.length), q < i ∧ l[i].up = (q : Int) ∧ holdsB l[q].kind = true ∧ Anc l (i - 1) q ∧
  (l[q].kind = 4 → blankP l[i].name l[i].no l[i].must) ∧ (l[q].kind ≠ 4 → nameP l[i].name ∧ (1 ≤ l[i].no ∧ l[i].no ≤ 30) ∧ ahead l q i l[i].name l[i].no)
def rootP (l : List DType) : Prop := ∃ h : 0 < l.length, l[0].kind = 5 ∧ l[0].up = -1 ∧ blankP l[0].name l[0].no l[0].must
def flatP (l : List DType) : Prop := (1 ≤ l.length ∧ l.length ≤ 30) ∧ rootP l ∧ (∀ i (h : i < l.length), okT l[i]) ∧ (∀ i, 0 < i → i < l.length → partP l i) ∧ ∀ i (h : i < l.length), l[i].kind = 4 → (kidsOf l i).length = 1

def risingK (ps : List K) : Prop := ∀ j (h : j < ps.length), (∀ i (hi : i < j), ps[i].name ≠ ps[j].name) ∧ ∀ i (hi : i + 1 = j), ps[i].no < ps[j].no
def partsOK (o mo : Int) (ps : List K) : Prop := ((o = 1 ∨ o = 2) ∧ mo = 0 ∧ ps = []) ∨ (o = 3 ∧ (0 ≤ mo ∧ mo ≤ 20) ∧ ps = []) ∨ (o = 4 ∧ mo = 0 ∧ ps.length = 1) ∨ (o = 5 ∧ mo = 0 ∧ risingK ps)
def partOf (o : Int) (p : K) : Prop := (o = 5 → nameP p.name ∧ 1 ≤ p.no ∧ p.no ≤ 30) ∧ (o ≠ 5 → blankP p.name p.no p.must)
inductive rightK : K → Prop
  | mk (o : Int) (nm : ByteArray) (no : Int) (mu : Bool) (mo : Int) (ps : List K) : partsOK o mo ps → (∀ p ∈ ps, partOf o p) → (∀ p ∈ ps, rightK p) → rightK (.mk o nm no mu mo ps)
theorem rightK.in {s t : K} (hi : InK s t) (h : rightK t) : rightK s := by
  induction hi with
  | self t => exact h
  | part o nm no mu mo ps p s hp _ ih => cases h with | mk _ _ _ _ _ _ _ _ h3 => exact ih (h3 p hp)
def goodK (t : K) : Prop := t.of = 5 ∧ blankP t.name t.no t.must ∧ rightK t ∧ deepK t ≤ 5 ∧ countK t ≤ 30
def goodP (l : List DType) : Prop := flatP l ∧ ∃ t, enc l t 0 l.length ∧ deepK t ≤ 5

theorem rising_lt {ps : List K} (h : risingK ps) : ∀ (d i : Nat) (hj : i + d + 1 < ps.length), (ps[i]'(by omega)).no < ps[i + d + 1].no := by
  intro d
  induction d with
  | zero => intro i hj; exact (h (i + 1) hj).2 i rfl
  | succ d ih =>
    intro i hj
    have h1 := ih i (by omega)
    have h2 := (h (i + (d + 1) + 1) hj).2 (i + d + 1) (by omega)
    omega
theorem rising_lt' {ps : List K} (h : risingK ps) (i j : Nat) (hij : i < j) (hj : j < ps.length) : (ps[i]'(by omega)).no < ps[j].no := by
  have := rising_lt h (j - i - 1) i (by omega)
  simpa [show i + (j - i - 1) + 1 = j by omega] using this
theorem holds_iff {k : Int} : holdsB k = true ↔ k = 4 ∨ k = 5 := by simp [holdsB]
theorem Sb.at {l : List DType} {a : Nat} {t : K} (h : Sb l a t) : ∃ ha : a < l.length, top l[a] t.of t.name t.no t.must t.most ∧ (holdsB t.of = true ∨ t.parts = []) ∧ Kd l (kidsOf l a) t.parts := by
  obtain ⟨o, nm, no, mu, mo, ps⟩ := t
  obtain ⟨⟨ha, h1⟩, h2, h3⟩ := h.kids
  exact ⟨ha, h1, h2, h3⟩
theorem seg_sorted (l : List DType) (a e0 : Nat) : (seg l a e0).Pairwise (· < ·) := by
  rw [seg]
  exact List.Pairwise.filter _ (List.pairwise_lt_range')
theorem seg_mono {l : List DType} {a e0 i j : Nat} (hij : i < j) (hj : j < (seg l a e0).length) : (seg l a e0)[i]'(by omega) < (seg l a e0)[j] :=
  List.pairwise_iff_getElem.1 (seg_sorted l a e0) i j (by omega) hj hij
theorem kids_mono {l : List DType} {a i j : Nat} (hij : i < j) (hj : j < (kidsOf l a).length) : (kidsOf l a)[i]'(by omega) < (kidsOf l a)[j] := seg_mono hij hj
theorem enc_out {l : List DType} {t : K} (h : enc l t 0 l.length) : Sb l 0 t := ⟨_, h, fun i h1 h2 => by omega⟩
theorem rightK.ok {t : K} (h : rightK t) : partsOK t.of t.most t.parts ∧ (∀ p ∈ t.parts, partOf t.of p) ∧ ∀ p ∈ t.parts, rightK p := by
  cases h with | mk _ _ _ _ _ _ h1 h2 h3 => exact ⟨h1, h2, h3⟩
theorem kid_of {l : List DType} {q i : Nat} (h : i ∈ kidsOf l q) : ∃ j, ∃ hj : j < (kidsOf l q).length, (kidsOf l q)[j] = i := by
  obtain ⟨j, hj, h⟩ := List.getElem_of_mem h
  exact ⟨j, hj, h⟩

theorem flat_of_tree {l : List DType} {t : K} (hn : 1 ≤ l.length ∧ l.length ≤ 30) (hu : U l 0 = -1) (h : enc l t 0 l.length) (h5 : t.of = 5) (hbl : blankP t.name t.no t.must) (hr : rightK t) : flatP l := by
  have hS := enc_out h
  obtain ⟨b1, b2, b3⟩ := enc_bd t _ _ h
  have all : ∀ i, i < l.length → ∃ s, Sb l i s ∧ rightK s := by
    intro i hi
    obtain ⟨s, h1, h2⟩ := enc_in t _ _ h (fun i h1 h2 => by omega) i (Nat.zero_le _) hi
    exact ⟨s, h1, hr.in h2⟩
  have hsp := (enc_sp t _ _ h).2
  refine ⟨hn, ?_, ?_, ?_, ?_⟩
  · obtain ⟨ha, ⟨k1, k2, k3, k4, k5⟩, _⟩ := hS.at
    refine ⟨ha, by rw [k1, h5], by rw [← U_at ha, hu], by rw [k2, k3, k4]; exact hbl⟩
  · intro i hi
    obtain ⟨s, s1, s2⟩ := all i hi
    obtain ⟨ha, ⟨k1, k2, k3, k4, k5⟩, _⟩ := s1.at
    have hp := s2.ok.1
    rw [← k1, ← k5] at hp
    rcases hp with ⟨h1, h2, _⟩ | ⟨h1, h2, _⟩ | ⟨h1, h2, _⟩ | ⟨h1, h2, _⟩
    · exact ⟨by omega, by omega, fun h => by omega, fun _ => h2⟩
    · exact ⟨by omega, by omega, fun h => h2, fun h => absurd h1 h⟩
    · exact ⟨by omega, by omega, fun h => by omega, fun _ => h2⟩
    · exact ⟨by omega, by omega, fun h => by omega, fun _ => h2⟩
  · intro i hi0 hi
    obtain ⟨q, hq, hA, hql, hh⟩ := hsp i hi0 hi
    obtain ⟨s, s1, s2⟩ := all q hql
    obtain ⟨ha, ⟨k1, k2, k3, k4, k5⟩, _, kd1, kd2⟩ := s1.at
    have hlt : q < i := by have := (b3 i hi0 hi).2; omega
    obtain ⟨j, hj, hji⟩ := kid_of (show i ∈ kidsOf l q from mem_seg.2 ⟨hlt, hi, hq⟩)
    have hj' : j < s.parts.length := by omega
    have hpj := kd2 j hj hj'
    rw [hji] at hpj
    obtain ⟨_, ⟨m1, m2, m3, m4, m5⟩, _⟩ := hpj.at
    have hpo := s2.ok.2.1 s.parts[j] (List.getElem_mem hj')
    rw [← k1, ] at hpo
    rw [holds_iff] at hh
    refine ⟨hi, q, hql, hlt, by rw [← U_at hi, hq], holds_iff.2 hh, hA, fun h4 => ?_, fun h4 => ?_⟩
    · rw [m2, m3, m4]; exact hpo.2 (by omega)
    · obtain ⟨n1, n2⟩ := hpo.1 (by omega)
      refine ⟨by rw [m2]; exact n1, by rw [m3]; exact n2, ?_⟩
      intro k hk1 hk2 hkl hku
      obtain ⟨j2, hj2, hji2⟩ := kid_of (show k ∈ kidsOf l q from mem_seg.2 ⟨hk1, hkl, hku⟩)
      have hlt2 : j2 < j := by
        by_cases hjj : j2 < j
        · exact hjj
        · by_cases hjj2 : j2 = j
          · subst hjj2; omega
          · have := kids_mono (l := l) (a := q) (i := j) (j := j2) (by omega) hj2
            rw [hji, hji2] at this
            omega
      have hpj2 := kd2 j2 hj2 (by omega)
      rw [hji2] at hpj2
      obtain ⟨_, ⟨r1, r2, r3, r4, r5⟩, _⟩ := hpj2.at
      have hris : risingK s.parts := by
        rcases s2.ok.1 with ⟨h1, _⟩ | ⟨h1, _⟩ | ⟨h1, _⟩ | ⟨_, _, h1⟩
        · omega
        · omega
        · omega
        · exact h1
      rw [m2, m3, r2, r3]
      exact ⟨rising_lt' hris j2 j hlt2 hj', (hris j hj').1 j2 hlt2⟩
  · intro i hi h4
    obtain ⟨s, s1, s2⟩ := all i hi
    obtain ⟨ha, ⟨k1, k2, k3, k4, k5⟩, _, kd1, kd2⟩ := s1.at
    rw [kd1]
    rcases s2.ok.1 with ⟨h1, _⟩ | ⟨h1, _⟩ | ⟨h1, _, h2⟩ | ⟨h1, _⟩
    · omega
    · omega
    · exact h2
    · omega
theorem tree_of_flat {l : List DType} (hf : flatP l) (t : K) : ∀ a, Sb l a t → rightK t := by
  refine K.ind (P := fun t => ∀ a, Sb l a t → rightK t) ?_ t
  intro o nm no mu mo ps ih a h
  obtain ⟨⟨ha, k1, k2, k3, k4, k5⟩, hh, kd1, kd2⟩ := h.kids
  obtain ⟨hn, hroot, hok, hpart, hone⟩ := hf
  have hkid : ∀ j (hj : j < ps.length), ∃ q, ∃ hq : q < l.length, a < q ∧ U l q = (a : Int) ∧ top l[q] ps[j].of ps[j].name ps[j].no ps[j].must ps[j].most ∧ (kidsOf l a)[j]'(by omega) = q := by
    intro j hj
    have hm := mem_seg.1 (show (kidsOf l a)[j]'(by omega) ∈ seg l a (a + 1) from List.getElem_mem _)
    obtain ⟨hq, ht, _⟩ := (kd2 j (by omega) hj).at
    exact ⟨_, hq, by omega, hm.2.2, ht, rfl⟩
  have hpt : ∀ j (hj : j < ps.length), holdsB o = true ∧ (o = 4 → blankP ps[j].name ps[j].no ps[j].must) ∧ (o ≠ 4 → nameP ps[j].name ∧ (1 ≤ ps[j].no ∧ ps[j].no ≤ 30) ∧ ∀ i (hi : i < j), ps[i].no < ps[j].no ∧ ps[i].name ≠ ps[j].name) := by
    intro j hj
    obtain ⟨q, hq, haq, hu, ⟨m1, m2, m3, m4, m5⟩, hqj⟩ := hkid j hj
    obtain ⟨hi, q2, hq2, hlt, hup, hho, hA, c1, c2⟩ := hpart q (by omega) hq
    have : q2 = a := by rw [U_at hq] at hu; omega
    subst this
    rw [k1] at hho c1 c2
    refine ⟨hho, fun h4 => by rw [← m2, ← m3, ← m4]; exact c1 h4, fun h4 => ?_⟩
    obtain ⟨d1, d2, d3⟩ := c2 h4
    refine ⟨by rw [← m2]; exact d1, by rw [← m3]; exact d2, fun i hij => ?_⟩
    obtain ⟨r, hr, har, hur, ⟨n1, n2, n3, n4, n5⟩, hrj⟩ := hkid i (by omega)
    have hlt2 : r < q := by
      have := kids_mono (l := l) (a := q2) hij (show j < (kidsOf l q2).length by omega)
      rw [hrj, hqj] at this; exact this
    have := d3 r har hlt2 hr hur
    rw [← m2, ← m3, ← n2, ← n3]; exact this
  have hok1 := hok a ha
  rw [okT, k1, k5] at hok1
  refine .mk _ _ _ _ _ _ ?_ ?_ ?_
  · rw [partsOK]
    obtain ⟨o1, o2, o3, o4⟩ := hok1
    by_cases hho : holdsB o = true
    · rw [holds_iff] at hho
      rcases hho with h4 | h5
      · exact .inr (.inr (.inl ⟨h4, o4 (by omega), by rw [← kd1]; exact hone a ha (by omega)⟩))
      · refine .inr (.inr (.inr ⟨h5, o4 (by omega), fun j hj => ?_⟩))
        have := ((hpt j hj).2.2 (by omega)).2.2
        exact ⟨fun i hi => (this i hi).2, fun i hi => (this i (by omega)).1⟩
    · have hps := hh.resolve_left hho
      have hne : o ≠ 4 ∧ o ≠ 5 := by rw [holds_iff] at hho; omega
      by_cases h3 : o = 3
      · exact .inr (.inl ⟨h3, o3 h3, hps⟩)
      · exact .inl ⟨by omega, o4 h3, hps⟩
  · intro p hp
    obtain ⟨j, hj, rfl⟩ := List.getElem_of_mem hp
    obtain ⟨g1, g2, g3⟩ := hpt j hj
    rw [holds_iff] at g1
    exact ⟨fun h5 => ⟨(g3 (by omega)).1, (g3 (by omega)).2.1⟩, fun h5 => g2 (by omega)⟩
  · intro p hp
    obtain ⟨j, hj, rfl⟩ := List.getElem_of_mem hp
    exact ih _ hp _ (kd2 j (by omega) hj)

/-- Nothing behind belongs to a tree that was read greedily. -/
def Stuck (l : List DType) (a e : Nat) : Prop := ∀ b, a ≤ b → Anc l (e - 1) b → (∃ h : b < l.length, holdsB l[b].kind = true) → U l e ≠ (b : Int)
def StuckA (l : List DType) (a e : Nat) : Prop := ∀ b, a < b → Anc l (e - 1) b → (∃ h : b < l.length, holdsB l[b].kind = true) → U l e ≠ (b : Int)
theorem Anc.le {l : List DType} {n j b : Nat} (hw : ∀ i, i ≤ n → U l i < (i : Int)) (h : Anc l j b) (hj : j ≤ n) : b ≤ j := by
  induction h with
  | refl j => exact Nat.le_refl _
  | up j p a h1 h2 ih => have := hw j hj; have := ih (by omega); omega
theorem Anc.two {l : List DType} {j b c : Nat} (h : Anc l j b) (h' : Anc l j c) : Anc l b c ∨ Anc l c b := by
  induction h with
  | refl j => exact .inl h'
  | up j p a h1 h2 ih =>
    cases h' with
    | refl => exact .inr (.up _ _ _ h1 h2)
    | up _ p' _ h1' h2' =>
      have : p' = p := by omega
      subst this
      exact ih h2'
theorem encL_snoc {l : List DType} : ∀ (ps : List K) (a e0 e : Nat) (p : K) (e' : Nat), encL l ps a e0 e → U l e = (a : Int) → enc l p e e' → encL l (ps ++ [p]) a e0 e' := by
  intro ps
  induction ps with
  | nil => intro a e0 e p e' h hu hp; rw [encL] at h; subst h; rw [List.nil_append, encL]; exact ⟨e', hu, hp, by rw [encL]⟩
  | cons q ps ih =>
    intro a e0 e p e' h hu hp
    rw [encL] at h
    obtain ⟨e1, h1, h2, h3⟩ := h
    rw [List.cons_append, encL]
    exact ⟨e1, h1, h2, ih _ _ _ _ _ h3 hu hp⟩
theorem parse {l : List DType} : ∀ (n a : Nat), l.length - a ≤ n → a < l.length → (∀ i, i ≤ a → U l i < (i : Int)) → ∃ t e, enc l t a e ∧ Stuck l a e := by
  intro n
  induction n with
  | zero => intro a h1 h2; omega
  | succ n ihn =>
    intro a hn ha hw
    have base : encL l [] a (a + 1) (a + 1) := by rw [encL]
    have hst0 : StuckA l a (a + 1) := by
      intro b hb hA _
      rw [Nat.add_sub_cancel] at hA
      have := hA.le hw (Nat.le_refl _); omega
    by_cases hh : holdsB l[a].kind = true
    · have loop : ∀ (m e : Nat) (ps : List K), l.length - e ≤ m → a < e → e ≤ l.length → encL l ps a (a + 1) e → StuckA l a e → ∃ ps' e', encL l ps' a (a + 1) e' ∧ StuckA l a e' ∧ U l e' ≠ (a : Int) := by
        intro m
        induction m with
        | zero =>
          intro e ps h1 h2 h3 h4 h5
          exact ⟨ps, e, h4, h5, by rw [U_no (by omega)]; omega⟩
        | succ m ihm =>
          intro e ps h1 h2 h3 h4 h5
          by_cases hu : U l e = (a : Int)
          · have hel := U_lt hu
            obtain ⟨c1, c2, c3⟩ := encL_bd' h4 (by omega) (by omega)
            have hw2 : ∀ i, i ≤ e → U l i < (i : Int) := by
              intro i hi
              by_cases h : i ≤ a
              · exact hw i h
              by_cases h' : i < e
              · exact (c3 i (by omega) h').2
              · have : i = e := by omega
                subst this; omega
            obtain ⟨t, e2, g1, g2⟩ := ihn e (by omega) hel hw2
            obtain ⟨d1, d2, d3⟩ := enc_bd t _ _ g1
            refine ihm e2 (ps ++ [t]) (by omega) (by omega) d2 (encL_snoc _ _ _ _ _ _ h4 hu g1) ?_
            intro b hb hA hho
            have hw3 : ∀ i, i ≤ e2 - 1 → U l i < (i : Int) := by
              intro i hi
              by_cases h : i ≤ e
              · exact hw2 i h
              · exact (d3 i (by omega) (by omega)).2
            by_cases hbe : e ≤ b
            · exact g2 b hbe hA hho
            · exfalso
              rcases hA.two (enc_sp t _ _ g1).1 with h | h
              · have := h.le hw3 (by have := hA.le hw3 (Nat.le_refl _); omega); omega
              · cases h with
                | refl => omega
                | up _ p _ q1 q2 =>
                  have : p = a := by omega
                  subst this
                  have := q2.le hw3 (by omega); omega
          · exact ⟨ps, e, h4, h5, hu⟩
      obtain ⟨ps, e, h1, h2, h3⟩ := loop (l.length - (a + 1)) (a + 1) [] (Nat.le_refl _) (by omega) (by omega) base hst0
      refine ⟨.mk l[a].kind l[a].name l[a].no l[a].must l[a].most ps, e, ?_, ?_⟩
      · rw [enc]; exact ⟨⟨l[a], List.getElem?_eq_getElem ha, rfl, rfl, rfl, rfl, rfl⟩, .inl hh, h1⟩
      · intro b hb hA hho
        by_cases hba : b = a
        · subst hba; exact h3
        · exact h2 b (by omega) hA hho
    · refine ⟨.mk l[a].kind l[a].name l[a].no l[a].must l[a].most [], a + 1, ?_, ?_⟩
      · rw [enc]; exact ⟨⟨l[a], List.getElem?_eq_getElem ha, rfl, rfl, rfl, rfl, rfl⟩, .inr rfl, base⟩
      · intro b hb hA hho
        by_cases hba : b = a
        · subst hba; exact absurd hho.2 hh
        · exact hst0 b (by omega) hA hho
/-- A list that is read greedily from its first type on: when it is a good schema. -/
theorem good_iff {l : List DType} {t : K} {e : Nat} (hn : 1 ≤ l.length ∧ l.length ≤ 30) (hu : U l 0 = -1) (h : enc l t 0 e) (hs : Stuck l 0 e) : (e = l.length ∧ goodK t) ↔ goodP l := by
  constructor
  · rintro ⟨rfl, h5, hb, hr, hd, hc⟩
    exact ⟨flat_of_tree hn hu h h5 hb hr, t, h, hd⟩
  · rintro ⟨hf, t', h', hd⟩
    have he : e = l.length := by
      obtain ⟨b1, b2, b3⟩ := enc_bd t _ _ h
      by_cases hlt : e < l.length
      · exfalso
        obtain ⟨hi, q, hq, h1, h2, h3, h4, _⟩ := hf.2.2.2.1 e (by omega) hlt
        exact hs q (Nat.zero_le _) h4 ⟨hq, h3⟩ (by rw [U_at hlt, h2])
      · omega
    subst he
    refine ⟨rfl, ?_⟩
    have : t = t' := Sb.uniq t 0 t' (enc_out h) (enc_out h')
    subst this
    obtain ⟨ha, ⟨k1, k2, k3, k4, k5⟩, _⟩ := (enc_out h).at
    obtain ⟨_, r1, r2, r3⟩ := hf.2.1
    refine ⟨by rw [← k1]; exact r1, by rw [← k2, ← k3, ← k4]; exact r3, tree_of_flat hf t 0 (enc_out h), hd, ?_⟩
    have := enc_count t _ _ h
    omega
end Go.Proofs.YtbjilpemckoioaaDoor
/- The rows of a tree of types, in the order in which a schema holds them: plain. -/
namespace Go.Proofs.YtbjilpemckoioaaDoor
open Go.RowKit
set_option linter.unusedVariables false
mutual
def rowsK : K → Int → Nat → List DType
  | .mk o nm no mu mo ps => fun up q => ⟨o, nm, no, mu, up, mo⟩ :: rowsL ps q (q + 1)
def rowsL : List K → Nat → Nat → List DType
  | [] => fun _ _ => []
  | p :: ps => fun up q => rowsK p up q ++ rowsL ps up (q + countK p)
end
theorem rowsL_count : ∀ ps : List K, (∀ p ∈ ps, ∀ up q, (rowsK p up q).length = countK p) → ∀ up q, (rowsL ps up q).length = countL ps := by
  intro ps
  induction ps with
  | nil => intro _ up q; simp only [rowsL, countL, List.length_nil]
  | cons p ps ih =>
    intro h up q
    rw [rowsL, countL, List.length_append, h p (by simp), ih (fun p' hp' => h p' (by simp [hp']))]
theorem rows_count (t : K) : ∀ up q, (rowsK t up q).length = countK t := by
  refine K.ind (P := fun t => ∀ up q, (rowsK t up q).length = countK t) ?_ t
  intro o nm no mu mo ps ih up q
  rw [rowsK, countK, List.length_cons, rowsL_count ps ih]
  omega
def parL (l : List DType) (t : K) (up : Int) (q : Nat) : Prop := ∃ pre post, l = pre ++ rowsK t up q ++ post ∧ pre.length = q
theorem rowsL_enc {l : List DType} (a : Nat) : ∀ ps : List K, (∀ p ∈ ps, ∀ pre post up, l = pre ++ rowsK p up pre.length ++ post → enc l p pre.length (pre.length + countK p)) →
    ∀ pre post, l = pre ++ rowsL ps a pre.length ++ post → encL l ps a pre.length (pre.length + countL ps) := by
  intro ps
  induction ps with
  | nil => intro _ pre post _; rw [encL, countL]; rfl
  | cons p ps ih =>
    intro h pre post hl
    rw [rowsL] at hl
    rw [encL, countL]
    have h1 : l = pre ++ rowsK p a pre.length ++ (rowsL ps a (pre.length + countK p) ++ post) := by rw [hl]; simp
    have hlen : (pre ++ rowsK p (a : Int) pre.length).length = pre.length + countK p := by rw [List.length_append, rows_count]
    have h2 : l = (pre ++ rowsK p a pre.length) ++ rowsL ps a (pre ++ rowsK p (a : Int) pre.length).length ++ post := by rw [hlen, hl]; simp
    refine ⟨pre.length + countK p, ?_, h p (by simp) pre _ a h1, ?_⟩
    · obtain ⟨o, nm, no, mu, mo, qs⟩ := p
      rw [rowsK] at h1
      have hlt : pre.length < l.length := by rw [h1]; simp
      rw [U_at hlt]
      have : l[pre.length]? = some ⟨o, nm, no, mu, (a : Int), mo⟩ := by rw [h1]; simp
      rw [List.getElem?_eq_getElem hlt] at this
      rw [Option.some.inj this]
    · have := ih (fun p' hp' => h p' (by simp [hp'])) _ post h2
      rw [hlen, Nat.add_assoc] at this
      exact this
theorem rows_enc {l : List DType} (t : K) : rightK t → ∀ pre post up, l = pre ++ rowsK t up pre.length ++ post → enc l t pre.length (pre.length + countK t) := by
  refine K.ind (P := fun t => rightK t → ∀ pre post up, l = pre ++ rowsK t up pre.length ++ post → enc l t pre.length (pre.length + countK t)) ?_ t
  intro o nm no mu mo ps ih hr pre post up hl
  have hok := hr.ok
  rw [enc, countK]
  rw [rowsK] at hl
  refine ⟨⟨_, by rw [hl]; simp; rfl, rfl, rfl, rfl, rfl, rfl⟩, ?_, ?_⟩
  · rcases hok.1 with ⟨_, _, g⟩ | ⟨_, _, g⟩ | ⟨g, _⟩ | ⟨g, _⟩
    · exact .inr g
    · exact .inr g
    · exact .inl (holds_iff.2 (.inl g))
    · exact .inl (holds_iff.2 (.inr g))
  · have h2 : l = (pre ++ [⟨o, nm, no, mu, up, mo⟩]) ++ rowsL ps pre.length (pre ++ [(⟨o, nm, no, mu, up, mo⟩ : DType)]).length ++ post := by
      rw [hl]; simp
    have := rowsL_enc pre.length ps (fun p hp pre' post' up' h' => ih p hp (hok.2.2 p hp) pre' post' up' h') _ post h2
    simp only [List.length_append, List.length_singleton] at this
    rw [← Nat.add_assoc]
    exact this
theorem good_rows {t : K} (h : goodK t) : goodP (rowsK t (-1) 0) := by
  obtain ⟨h5, hb, hr, hd5, hc⟩ := h
  have hlen := rows_count t (-1) 0
  have he : enc (rowsK t (-1) 0) t 0 (rowsK t (-1) 0).length := by
    have := rows_enc (l := rowsK t (-1) 0) t hr [] [] (-1) (by simp)
    rw [hlen]
    simpa using this
  have h1 : 1 ≤ countK t := by obtain ⟨o, nm, no, mu, mo, ps⟩ := t; rw [countK]; omega
  have hu : U (rowsK t (-1) 0) 0 = -1 := by
    have hlt : 0 < (rowsK t (-1) 0).length := by omega
    rw [U_at hlt]
    obtain ⟨o, nm, no, mu, mo, ps⟩ := t
    simp [rowsK]
  exact ⟨flat_of_tree (by omega) hu he h5 hb hr, t, he, hd5⟩
theorem count_pos (t : K) : 1 ≤ countK t := by obtain ⟨o, nm, no, mu, mo, ps⟩ := t; rw [countK]; omega
/-- A type as a whole: without what it is as a part. -/
def wholeK : K → K
  | .mk o _ _ _ mo ps => .mk o ⟨#[]⟩ 0 false mo ps
theorem whole_right {t : K} (h : rightK t) : rightK (wholeK t) := by
  obtain ⟨o, nm, no, mu, mo, ps⟩ := t
  cases h with | mk _ _ _ _ _ _ h1 h2 h3 => exact .mk _ _ _ _ _ _ h1 h2 h3
end Go.Proofs.YtbjilpemckoioaaDoor
/- Trees of types in memory, by pointers; laws of no program. -/
namespace Go.Proofs.YtbjilpemckoioaaDoor
open Go.RowKit
set_option linter.unusedVariables false

/-- A slice of one-cell elements in blocks from lo to hi, that reads as these values. -/
def PSl (w : World) (lo hi : Nat) (s : Value) (vs : List Value) : Prop :=
  ∃ a c, s = .slice a vs.length c ∧ (vs = [] ∨ ∃ b o, a = some ⟨b, o, none⟩ ∧ (lo ≤ b ∧ b < hi) ∧ ∀ i v, vs[i]? = some v → w.cell? ⟨b, o + i, none⟩ = some v)
mutual
/-- A pointer to a tree of types, all of it in blocks from lo to hi. -/
def RepP (w : World) (lo hi : Nat) : K → Value → Prop
  | .mk o nm no mu mo ps => fun v => ∃ (b : Nat) (s : Value) (vs : List Value), v = .pointer (some ⟨b, 0, none⟩) ∧ (lo ≤ b ∧ b < hi) ∧
      (w.cell? ⟨b, 0, none⟩ = some (.int .i64 o) ∧ w.cell? ⟨b, 1, none⟩ = some (.string nm) ∧ w.cell? ⟨b, 2, none⟩ = some (.int .i64 no) ∧ w.cell? ⟨b, 3, none⟩ = some (.bool mu) ∧ w.cell? ⟨b, 4, none⟩ = some (.int .i64 mo) ∧ w.cell? ⟨b, 5, none⟩ = some s) ∧
      PSl w lo hi s vs ∧ RepL w lo hi ps vs
def RepL (w : World) (lo hi : Nat) : List K → List Value → Prop
  | [] => fun vs => vs = []
  | p :: ps => fun vs => ∃ v vs', vs = v :: vs' ∧ RepP w lo hi p v ∧ RepL w lo hi ps vs'
end
/-- The blocks from lo to hi hold what they held. -/
def Same (w w' : World) (lo hi : Nat) : Prop := ∀ b, lo ≤ b → b < hi → ∀ o, w'.cell? ⟨b, o, none⟩ = w.cell? ⟨b, o, none⟩
theorem Same.below {w w' : World} {lo hi : Nat} (h : Below w.heap.size w w') (hh : hi ≤ w.heap.size) : Same w w' lo hi := fun b _ h2 o => h.cell (p := ⟨b, o, none⟩) (by show b < _; omega)
theorem Same.belowB {w w' : World} {lo hi B : Nat} (h : Below B w w') (hh : hi ≤ B) : Same w w' lo hi := fun b _ h2 o => h.cell (p := ⟨b, o, none⟩) (by show b < _; omega)
theorem Same.grown {w w' : World} {lo hi : Nat} {r : Option Nat} (h : w.grownBy w' r) (hh : hi ≤ w.heap.size) (hr : ∀ g, r = some g → g < lo ∨ hi ≤ g) : Same w w' lo hi :=
  fun b h1 h2 o => World.cell?_of_block (h.block b (by omega) (fun e => by have := hr b e.symm; omega))
theorem PSl.same {w w' : World} {lo hi lo' hi' : Nat} {s : Value} {vs : List Value} (h : PSl w lo hi s vs) (hs : Same w w' lo hi) (h1 : lo' ≤ lo) (h2 : hi ≤ hi') : PSl w' lo' hi' s vs := by
  obtain ⟨a, c, e, h⟩ := h
  refine ⟨a, c, e, h.imp id ?_⟩
  rintro ⟨b, o, rfl, hb, hc⟩
  exact ⟨b, o, rfl, by omega, fun i v hv => by rw [hs b hb.1 hb.2]; exact hc i v hv⟩
theorem RepL.same {w w' : World} {lo hi lo' hi' : Nat} (hs : Same w w' lo hi) (h1 : lo' ≤ lo) (h2 : hi ≤ hi') : ∀ (ps : List K), (∀ p ∈ ps, ∀ v, RepP w lo hi p v → RepP w' lo' hi' p v) → ∀ vs, RepL w lo hi ps vs → RepL w' lo' hi' ps vs := by
  intro ps
  induction ps with
  | nil => intro _ vs h; rw [RepL] at h ⊢; exact h
  | cons p ps ih =>
    intro hp vs h
    rw [RepL] at h ⊢
    obtain ⟨v, vs', e, h3, h4⟩ := h
    exact ⟨v, vs', e, hp p (by simp) v h3, ih (fun q hq => hp q (by simp [hq])) vs' h4⟩
theorem RepP.same {w w' : World} {lo hi lo' hi' : Nat} (hs : Same w w' lo hi) (h1 : lo' ≤ lo) (h2 : hi ≤ hi') (t : K) : ∀ v, RepP w lo hi t v → RepP w' lo' hi' t v := by
  refine K.ind (P := fun t => ∀ v, RepP w lo hi t v → RepP w' lo' hi' t v) ?_ t
  intro o nm no mu mo ps ih v h
  rw [RepP] at h ⊢
  obtain ⟨b, s, vs, e, hb, ⟨c0, c1, c2, c3, c4, c5⟩, h3, h4⟩ := h
  have g := hs b hb.1 hb.2
  exact ⟨b, s, vs, e, by omega, ⟨by rw [g]; exact c0, by rw [g]; exact c1, by rw [g]; exact c2, by rw [g]; exact c3, by rw [g]; exact c4, by rw [g]; exact c5⟩, h3.same hs h1 h2, RepL.same hs h1 h2 ps ih vs h4⟩
theorem RepP.below {w w' : World} {lo hi : Nat} {t : K} {v : Value} (h : RepP w lo hi t v) (hh : hi ≤ w.heap.size) (hb : Below w.heap.size w w') : RepP w' lo hi t v := RepP.same (Same.below hb hh) (Nat.le_refl _) (Nat.le_refl _) t v h
theorem RepP.wide {w : World} {lo hi lo' hi' : Nat} {t : K} {v : Value} (h : RepP w lo hi t v) (h1 : lo' ≤ lo) (h2 : hi ≤ hi') : RepP w lo' hi' t v := RepP.same (fun _ _ _ _ => rfl) h1 h2 t v h
theorem RepP.drew {w : World} {lo hi : Nat} {t : K} {v : Value} (h : RepP w lo hi t v) : RepP w.drew lo hi t v := RepP.same (w := w) (w' := w.drew) (fun _ _ _ _ => rfl) (Nat.le_refl _) (Nat.le_refl _) t v h
theorem RepL.get {w : World} {lo hi : Nat} : ∀ (ps : List K) (vs : List Value), RepL w lo hi ps vs → vs.length = ps.length ∧ ∀ j (h : j < ps.length) (h' : j < vs.length), RepP w lo hi ps[j] vs[j] := by
  intro ps
  induction ps with
  | nil => intro vs h; rw [RepL] at h; subst h; exact ⟨rfl, fun j h => by simp at h⟩
  | cons p ps ih =>
    intro vs h
    rw [RepL] at h
    obtain ⟨v, vs', rfl, h1, h2⟩ := h
    obtain ⟨h3, h4⟩ := ih vs' h2
    refine ⟨by simp [h3], fun j g g' => ?_⟩
    cases j with
    | zero => exact h1
    | succ j => exact h4 j (by simpa using g) (by simpa using g')
theorem RepL.snoc {w : World} {lo hi : Nat} {p : K} {v : Value} : ∀ (ps : List K) (vs : List Value), RepL w lo hi ps vs → RepP w lo hi p v → RepL w lo hi (ps ++ [p]) (vs ++ [v]) := by
  intro ps
  induction ps with
  | nil => intro vs h hp; rw [RepL] at h; subst h; rw [List.nil_append, List.nil_append, RepL]; exact ⟨v, [], rfl, hp, by rw [RepL]⟩
  | cons q ps ih =>
    intro vs h hp
    rw [RepL] at h
    obtain ⟨u, vs', rfl, h1, h2⟩ := h
    rw [List.cons_append, List.cons_append, RepL]
    exact ⟨u, vs' ++ [v], rfl, h1, ih vs' h2 hp⟩
theorem RepL.all {w w' : World} {lo hi lo' hi' : Nat} {ps : List K} {vs : List Value} (h : RepL w lo hi ps vs) (hs : Same w w' lo hi) (h1 : lo' ≤ lo) (h2 : hi ≤ hi') : RepL w' lo' hi' ps vs :=
  RepL.same hs h1 h2 ps (fun p _ v hv => RepP.same hs h1 h2 p v hv) vs h
/-- What a pointer to a tree holds. -/
theorem RepP.open {w : World} {lo hi : Nat} {t : K} {v : Value} (h : RepP w lo hi t v) : ∃ (b : Nat) (a : Option Addr) (c : Nat) (vs : List Value), v = .pointer (some ⟨b, 0, none⟩) ∧ (lo ≤ b ∧ b < hi) ∧
    w.cell? ⟨b, 0, none⟩ = some (.int .i64 t.of) ∧ w.cell? ⟨b, 1, none⟩ = some (.string t.name) ∧ w.cell? ⟨b, 2, none⟩ = some (.int .i64 t.no) ∧ w.cell? ⟨b, 3, none⟩ = some (.bool t.must) ∧ w.cell? ⟨b, 4, none⟩ = some (.int .i64 t.most) ∧ w.cell? ⟨b, 5, none⟩ = some (.slice a t.parts.length c) ∧
    PSl w lo hi (.slice a t.parts.length c) vs ∧ vs.length = t.parts.length ∧ ∀ j (h : j < t.parts.length) (h' : j < vs.length), RepP w lo hi t.parts[j] vs[j] := by
  obtain ⟨o, nm, no, mu, mo, ps⟩ := t
  rw [RepP] at h
  obtain ⟨b, s, vs, e, hb, ⟨c0, c1, c2, c3, c4, c5⟩, h3, h4⟩ := h
  obtain ⟨g1, g2⟩ := RepL.get ps vs h4
  obtain ⟨a, c, rfl, h3'⟩ := h3
  rw [g1] at c5
  exact ⟨b, a, c, vs, e, hb, c0, c1, c2, c3, c4, c5, ⟨a, c, by rw [g1]; rfl, h3'⟩, g1, g2⟩
theorem PSl.at {w : World} {lo hi n c : Nat} {a : Option Addr} {vs : List Value} (h : PSl w lo hi (.slice a n c) vs) {j : Nat} (hj : j < vs.length) : ∃ b o, a = some ⟨b, o, none⟩ ∧ (lo ≤ b ∧ b < hi) ∧ ∀ i (h : i < vs.length), w.cell? ⟨b, o + i, none⟩ = some vs[i] := by
  obtain ⟨a', c', e, h⟩ := h
  cases e
  rcases h with h | ⟨b, o, rfl, hb, hc⟩
  · subst h; simp at hj
  · exact ⟨b, o, rfl, hb, fun i hi => hc i _ (List.getElem?_eq_getElem hi)⟩
/-- A slice of pointers as a slice of rows. -/
def encV (v : Value) : List Value := [v]
theorem PSl.sl {w : World} {lo hi : Nat} {s : Value} {vs : List Value} (h : PSl w lo hi s vs) (hh : hi ≤ w.heap.size) : Sl w s 1 (vs.map encV) := by
  obtain ⟨a, c, rfl, h⟩ := h
  refine ⟨a, c, by rw [List.length_map], ?_⟩
  rcases h with rfl | ⟨b, o, rfl, hb, hc⟩
  · exact .inl rfl
  · refine .inr ⟨b, o, rfl, by omega, fun i r hr j u hu => ?_⟩
    rw [List.getElem?_map] at hr
    cases hx : vs[i]? with
    | none => rw [hx] at hr; simp at hr
    | some x =>
      rw [hx] at hr; simp [encV] at hr; subst hr
      have hj : j = 0 := by have := (List.getElem?_eq_some_iff.1 hu).1; simp at this; exact this
      subst hj; simp at hu; subst hu
      rw [Nat.mul_one, Nat.add_zero]; exact hc i x hx
theorem PSl.own {w : World} {B E hi : Nat} {s : Value} {vs : List Value} (h : Own w B E 1 s (vs.map encV)) (hs : ∀ g, s.ownBlock = some g → g < hi) : PSl w B hi s vs := by
  obtain ⟨hl, xs, ho, hp⟩ := h
  by_cases hn : vs = []
  · subst hn
    have h0 : Own w B E 1 s ([].map encV) := ⟨hl, xs, ho, hp⟩
    obtain ⟨a, c, e, _⟩ := h0.sl
    exact ⟨a, c, e, .inl rfl⟩
  · have h0 : Own w B E 1 s (vs.map encV) := ⟨hl, xs, ho, hp⟩
    obtain ⟨g, c, e, hg1, hg2⟩ := h0.addr (by simpa using hn)
    have hsl := h0.sl
    subst e
    obtain ⟨a', c', e', h3⟩ := hsl
    cases e'
    rw [List.length_map] at *
    refine ⟨_, c, rfl, .inr ⟨g, 0, rfl, ⟨hg1, hs g rfl⟩, fun i v hv => ?_⟩⟩
    rcases h3 with h3 | ⟨b, o, e, _, h3⟩
    · exact absurd (by simpa using h3) hn
    · cases e
      have := h3 i [v] (by rw [List.getElem?_map, hv]; rfl) 0 v rfl
      rwa [Nat.mul_one, Nat.add_zero] at this
theorem deepL_snoc (p : K) : ∀ ps : List K, deepL (ps ++ [p]) = max (deepL ps) (deepK p) := by
  intro ps
  induction ps with
  | nil =>
    have : 0 ≤ deepK p := by
      refine K.ind (P := fun p => 0 ≤ deepK p) ?_ p
      intro o nm no mu mo ps ih
      have : ∀ ps : List K, 0 ≤ deepL ps := by
        intro ps
        induction ps with
        | nil => rw [deepL]; exact Int.le_refl _
        | cons q qs ih => rw [deepL]; omega
      have := this ps
      rw [deepK, up1]; split <;> omega
    simp only [List.nil_append, deepL]; omega
  | cons q ps ih => rw [List.cons_append, deepL, deepL, ih]; omega
theorem deepL_nn : ∀ ps : List K, 0 ≤ deepL ps := by
  intro ps
  induction ps with
  | nil => rw [deepL]; exact Int.le_refl _
  | cons q qs ih => rw [deepL]; omega
theorem countL_snoc (p : K) : ∀ ps : List K, countL (ps ++ [p]) = countL ps + countK p := by
  intro ps
  induction ps with
  | nil => rw [List.nil_append, countL, countL, countL]; omega
  | cons q ps ih => rw [List.cons_append, countL, countL, ih]; omega
theorem countL_take {ps : List K} {j : Nat} (h : j < ps.length) : countL (ps.take (j + 1)) = countL (ps.take j) + countK ps[j] := by
  rw [List.take_succ_eq_append_getElem h, countL_snoc]
theorem countL_le (ps : List K) : ∀ j, countL (ps.take j) ≤ countL ps := by
  induction ps with
  | nil => intro j; simp
  | cons q ps ih =>
    intro j
    cases j with
    | zero => rw [List.take_zero, countL]; omega
    | succ j => rw [List.take_succ_cons, countL, countL]; have := ih j; omega
theorem deepL_take {ps : List K} {j : Nat} (h : j < ps.length) : deepL (ps.take (j + 1)) = max (deepL (ps.take j)) (deepK ps[j]) := by
  rw [List.take_succ_eq_append_getElem h, deepL_snoc]
theorem count_part {ps : List K} {p : K} (h : p ∈ ps) : countK p ≤ countL ps := by
  induction ps with
  | nil => cases h
  | cons q ps ih =>
    rw [countL]
    rcases List.mem_cons.1 h with rfl | h
    · omega
    · have := ih h; omega
theorem countK_pos (t : K) : 1 ≤ countK t := by obtain ⟨o, nm, no, mu, mo, ps⟩ := t; rw [countK]; omega
theorem len_count (ps : List K) : ps.length ≤ countL ps := by
  induction ps with
  | nil => rw [countL]; simp
  | cons q ps ih => rw [countL, List.length_cons]; have := countK_pos q; omega
theorem deepL_le (c : Int) : ∀ ps : List K, (∀ p ∈ ps, deepK p ≤ countK p) → deepL ps ≤ countL ps := by
  intro ps
  induction ps with
  | nil => intro _; rw [deepL, countL]; simp
  | cons q ps ih =>
    intro h
    have := h q (by simp)
    have := ih (fun p hp => h p (by simp [hp]))
    rw [deepL, countL]; omega
theorem deep_count (t : K) : deepK t ≤ countK t := by
  refine K.ind (P := fun t => deepK t ≤ countK t) ?_ t
  intro o nm no mu mo ps ih
  have := deepL_le 0 ps ih
  rw [deepK, countK, up1]; split <;> omega
theorem K.ind2 {P : K → Prop} (h : ∀ t, (∀ p ∈ t.parts, P p) → P t) (t : K) : P t := K.ind (P := P) (fun o nm no mu mo ps ih => h (.mk o nm no mu mo ps) ih) t
theorem K.eta (t : K) : K.mk t.of t.name t.no t.must t.most t.parts = t := by cases t; rfl
theorem deepK_eq (t : K) : deepK t = up1 t.of (deepL t.parts) := by cases t; rw [deepK]; rfl
theorem countK_eq (t : K) : countK t = 1 + countL t.parts := by cases t; rw [countK]; rfl
end Go.Proofs.YtbjilpemckoioaaDoor
/- Trees in memory by value: the cells of a tree's top are its own data, its parts' slice last; laws of no program. -/
namespace Go.Proofs.YtbjilpemckoioaaDoor
open Go.RowKit
set_option linter.unusedVariables false
/-- The block that 'buildSlice' lays for one element, behind another new block. -/
theorem cells_new1 (W : World) (o : Obj) (r : List Value) (E : TypeId) : ∀ j u, [r].flatten[j]? = some u → ((W.alloc o).alloc (.cells r.toArray E)).cell? ((⟨W.heap.size + 1, 0, none⟩ : Addr).add j) = some u := by
  have := cells_new (W.alloc o) r E
  rwa [World.size_alloc] at this
/-- A slice of rows in blocks from lo to hi. -/
def XSl (sz : Nat) (w : World) (lo hi : Nat) (s : Value) (rows : List (List Value)) : Prop :=
  ∃ a c, s = .slice a rows.length c ∧ (rows = [] ∨ ∃ b, a = some ⟨b, 0, none⟩ ∧ (lo ≤ b ∧ b < hi) ∧ ∀ i r, rows[i]? = some r → ∀ j u, r[j]? = some u → w.cell? ⟨b, i * sz + j, none⟩ = some u)
mutual
/-- The cells of a tree: H tells its own data. -/
def RepX (H : K → List Value) (sz : Nat) (w : World) (lo hi : Nat) : K → List Value → Prop
  | .mk o nm no mu mo ps => fun r => ∃ (s : Value) (rows : List (List Value)), r = H (.mk o nm no mu mo []) ++ [s] ∧ XSl sz w lo hi s rows ∧ RepXs H sz w lo hi ps rows
def RepXs (H : K → List Value) (sz : Nat) (w : World) (lo hi : Nat) : List K → List (List Value) → Prop
  | [] => fun rs => rs = []
  | p :: ps => fun rs => ∃ r rs', rs = r :: rs' ∧ RepX H sz w lo hi p r ∧ RepXs H sz w lo hi ps rs'
end
theorem XSl.same {sz : Nat} {w w' : World} {lo hi lo' hi' : Nat} {s : Value} {rows : List (List Value)} (h : XSl sz w lo hi s rows) (hs : Same w w' lo hi) (h1 : lo' ≤ lo) (h2 : hi ≤ hi') : XSl sz w' lo' hi' s rows := by
  obtain ⟨a, c, e, h⟩ := h
  refine ⟨a, c, e, h.imp id ?_⟩
  rintro ⟨b, rfl, hb, hc⟩
  exact ⟨b, rfl, by omega, fun i r hr j u hu => by rw [hs b hb.1 hb.2]; exact hc i r hr j u hu⟩
theorem RepXs.same {H : K → List Value} {sz : Nat} {w w' : World} {lo hi lo' hi' : Nat} (hs : Same w w' lo hi) (h1 : lo' ≤ lo) (h2 : hi ≤ hi') : ∀ (ps : List K), (∀ p ∈ ps, ∀ v, RepX H sz w lo hi p v → RepX H sz w' lo' hi' p v) → ∀ vs, RepXs H sz w lo hi ps vs → RepXs H sz w' lo' hi' ps vs := by
  intro ps
  induction ps with
  | nil => intro _ vs h; rw [RepXs] at h ⊢; exact h
  | cons p ps ih =>
    intro hp vs h
    rw [RepXs] at h ⊢
    obtain ⟨v, vs', e, h3, h4⟩ := h
    exact ⟨v, vs', e, hp p (by simp) v h3, ih (fun q hq => hp q (by simp [hq])) vs' h4⟩
theorem RepX.same {H : K → List Value} {sz : Nat} {w w' : World} {lo hi lo' hi' : Nat} (hs : Same w w' lo hi) (h1 : lo' ≤ lo) (h2 : hi ≤ hi') (t : K) : ∀ v, RepX H sz w lo hi t v → RepX H sz w' lo' hi' t v := by
  refine K.ind (P := fun t => ∀ v, RepX H sz w lo hi t v → RepX H sz w' lo' hi' t v) ?_ t
  intro o nm no mu mo ps ih v h
  rw [RepX] at h ⊢
  obtain ⟨s, rows, e, h3, h4⟩ := h
  exact ⟨s, rows, e, h3.same hs h1 h2, RepXs.same hs h1 h2 ps ih rows h4⟩
theorem RepX.below {H : K → List Value} {sz : Nat} {w w' : World} {lo hi : Nat} {t : K} {v : List Value} (h : RepX H sz w lo hi t v) (hh : hi ≤ w.heap.size) (hb : Below w.heap.size w w') : RepX H sz w' lo hi t v := RepX.same (Same.below hb hh) (Nat.le_refl _) (Nat.le_refl _) t v h
theorem RepX.wide {H : K → List Value} {sz : Nat} {w : World} {lo hi lo' hi' : Nat} {t : K} {v : List Value} (h : RepX H sz w lo hi t v) (h1 : lo' ≤ lo) (h2 : hi ≤ hi') : RepX H sz w lo' hi' t v := RepX.same (fun _ _ _ _ => rfl) h1 h2 t v h
theorem RepXs.get {H : K → List Value} {sz : Nat} {w : World} {lo hi : Nat} : ∀ (ps : List K) (vs : List (List Value)), RepXs H sz w lo hi ps vs → vs.length = ps.length ∧ ∀ j (h : j < ps.length) (h' : j < vs.length), RepX H sz w lo hi ps[j] vs[j] := by
  intro ps
  induction ps with
  | nil => intro vs h; rw [RepXs] at h; subst h; exact ⟨rfl, fun j h => by simp at h⟩
  | cons p ps ih =>
    intro vs h
    rw [RepXs] at h
    obtain ⟨v, vs', rfl, h1, h2⟩ := h
    obtain ⟨h3, h4⟩ := ih vs' h2
    refine ⟨by simp [h3], fun j g g' => ?_⟩
    cases j with
    | zero => exact h1
    | succ j => exact h4 j (by simpa using g) (by simpa using g')
theorem RepXs.mk {H : K → List Value} {sz : Nat} {w : World} {lo hi : Nat} : ∀ (ps : List K) (vs : List (List Value)), vs.length = ps.length → (∀ j (h : j < ps.length) (h' : j < vs.length), RepX H sz w lo hi ps[j] vs[j]) → RepXs H sz w lo hi ps vs := by
  intro ps
  induction ps with
  | nil => intro vs h _; rw [RepXs]; exact List.eq_nil_of_length_eq_zero (by simpa using h)
  | cons p ps ih =>
    intro vs h hp
    cases vs with
    | nil => simp at h
    | cons v vs =>
      rw [RepXs]
      exact ⟨v, vs, rfl, hp 0 (by simp) (by simp), ih vs (by simpa using h) (fun j h1 h2 => hp (j + 1) (by simpa using h1) (by simpa using h2))⟩
/-- A tree's top alone. -/
def K.top (t : K) : K := .mk t.of t.name t.no t.must t.most []
/-- What the cells of a tree are. -/
theorem RepX.open {H : K → List Value} {sz : Nat} {w : World} {lo hi : Nat} {t : K} {r : List Value} (h : RepX H sz w lo hi t r) : ∃ (a : Option Addr) (c : Nat) (rows : List (List Value)), r = H t.top ++ [.slice a t.parts.length c] ∧
    XSl sz w lo hi (.slice a t.parts.length c) rows ∧ rows.length = t.parts.length ∧ ∀ j (h : j < t.parts.length) (h' : j < rows.length), RepX H sz w lo hi t.parts[j] rows[j] := by
  obtain ⟨o, nm, no, mu, mo, ps⟩ := t
  rw [RepX] at h
  obtain ⟨s, rows, e, h3, h4⟩ := h
  obtain ⟨g1, g2⟩ := RepXs.get ps rows h4
  obtain ⟨a, c, rfl, h3'⟩ := h3
  rw [g1] at e
  exact ⟨a, c, rows, e, ⟨a, c, by rw [g1]; rfl, h3'⟩, g1, g2⟩
theorem RepX.mk {H : K → List Value} {sz : Nat} {w : World} {lo hi : Nat} {t : K} {s : Value} {rows : List (List Value)} (h : XSl sz w lo hi s rows) (hp : RepXs H sz w lo hi t.parts rows) : RepX H sz w lo hi t (H t.top ++ [s]) := by
  obtain ⟨o, nm, no, mu, mo, ps⟩ := t
  rw [RepX]
  exact ⟨s, rows, rfl, h, hp⟩
theorem XSl.at {sz : Nat} {w : World} {lo hi n c : Nat} {a : Option Addr} {rows : List (List Value)} (h : XSl sz w lo hi (.slice a n c) rows) {j : Nat} (hj : j < rows.length) : ∃ b, a = some ⟨b, 0, none⟩ ∧ (lo ≤ b ∧ b < hi) ∧ ∀ i (h : i < rows.length) k u, rows[i][k]? = some u → w.cell? ⟨b, i * sz + k, none⟩ = some u := by
  obtain ⟨a', c', e, h⟩ := h
  cases e
  rcases h with h | ⟨b, rfl, hb, hc⟩
  · subst h; simp at hj
  · exact ⟨b, rfl, hb, fun i hi k u hu => hc i _ (List.getElem?_eq_getElem hi) k u hu⟩
theorem XSl.own {sz : Nat} {w : World} {B E hi : Nat} {s : Value} {rows : List (List Value)} (h : Own w B E sz s rows) (hs : ∀ g, s.ownBlock = some g → g < hi) : XSl sz w B hi s rows := by
  by_cases hn : rows = []
  · subst hn
    obtain ⟨a, c, e, _⟩ := h.sl
    exact ⟨a, c, e, .inl rfl⟩
  · obtain ⟨g, c, e, hg1, hg2⟩ := h.addr hn
    subst e
    refine ⟨_, c, rfl, .inr ⟨g, rfl, ⟨hg1, hs g rfl⟩, fun i r hr j u hu => (h.cell hr hu).1⟩⟩
/-- The parts of a tree that is being made: each in blocks of its own, from block b on, apart from the slice's own block. -/
def SepX (H : K → List Value) (sz : Nat) (w : World) (b : Nat) (s : Value) (ps : List K) (vs : List (List Value)) : Prop :=
  vs.length = ps.length ∧ ∀ i (h : i < ps.length) (h' : i < vs.length), ∃ lo hi, b ≤ lo ∧ hi ≤ w.heap.size ∧ (∀ g, s.ownBlock = some g → g < lo ∨ hi ≤ g) ∧ RepX H sz w lo hi ps[i] vs[i]
theorem SepX.nil {H : K → List Value} {sz : Nat} {w : World} {b : Nat} {s : Value} : SepX H sz w b s [] [] := ⟨rfl, fun i h => by simp at h⟩
theorem SepX.same {H : K → List Value} {sz : Nat} {w w' : World} {b : Nat} {s s' : Value} {ps : List K} {vs : List (List Value)} (h : SepX H sz w b s ps vs) (hz : w.heap.size ≤ w'.heap.size) (hs : ∀ lo hi, b ≤ lo → hi ≤ w.heap.size → (∀ g, s.ownBlock = some g → g < lo ∨ hi ≤ g) → Same w w' lo hi)
    (hs' : s'.ownBlock = s.ownBlock ∨ ∀ g, s'.ownBlock = some g → w.heap.size ≤ g) : SepX H sz w' b s' ps vs :=
  ⟨h.1, fun i h1 h2 => by
    obtain ⟨lo, hi, q1, q2, q3, q4⟩ := h.2 i h1 h2
    refine ⟨lo, hi, q1, Nat.le_trans q2 hz, fun g hg => ?_, RepX.same (hs lo hi q1 q2 q3) (Nat.le_refl _) (Nat.le_refl _) _ _ q4⟩
    rcases hs' with e | e
    · exact q3 g (by rw [← e]; exact hg)
    · have := e g hg; right; omega⟩
theorem SepX.below {H : K → List Value} {sz : Nat} {w w' : World} {b : Nat} {s : Value} {ps : List K} {vs : List (List Value)} (h : SepX H sz w b s ps vs) (hb : Below w.heap.size w w') : SepX H sz w' b s ps vs :=
  h.same hb.size (fun lo hi _ h2 _ => Same.below hb h2) (.inl rfl)
/-- A store into a block below all parts. -/
theorem SepX.set {H : K → List Value} {sz : Nat} {w : World} {b c k : Nat} {s : Value} {u : Value} {ps : List K} {vs : List (List Value)} (h : SepX H sz w b s ps vs) (hc : c < b) : SepX H sz (w.setCell ⟨c, k, none⟩ u) b s ps vs :=
  h.same (grownBy_setCell w ⟨c, k, none⟩ u).size (fun lo hi h1 h2 _ => Same.grown (grownBy_setCell w ⟨c, k, none⟩ u) h2 (fun g hg => by cases hg; left; show c < lo; omega)) (.inl rfl)
/-- The slice grew, all else stayed. -/
theorem SepX.grown {H : K → List Value} {sz : Nat} {w w' : World} {b : Nat} {s s' : Value} {ps : List K} {vs : List (List Value)} (h : SepX H sz w b s ps vs) (hg : Gr w s w' s') : SepX H sz w' b s' ps vs :=
  h.same hg.1.size (fun lo hi h1 h2 h3 => Same.grown hg.1 h2 h3) hg.2
theorem SepX.snoc {H : K → List Value} {sz : Nat} {w : World} {b lo hi : Nat} {s : Value} {ps : List K} {vs : List (List Value)} {p : K} {v : List Value} (h : SepX H sz w b s ps vs) (h1 : b ≤ lo) (h2 : hi ≤ w.heap.size) (h3 : ∀ g, s.ownBlock = some g → g < lo ∨ hi ≤ g) (hr : RepX H sz w lo hi p v) : SepX H sz w b s (ps ++ [p]) (vs ++ [v]) := by
  refine ⟨by simp [h.1], fun i g g' => ?_⟩
  by_cases hi' : i < ps.length
  · have hv : i < vs.length := by rw [h.1]; exact hi'
    rw [List.getElem_append_left hi', List.getElem_append_left hv]
    exact h.2 i hi' hv
  · have e : i = ps.length := by simp at g; omega
    subst e
    refine ⟨lo, hi, h1, h2, h3, ?_⟩
    rw [List.getElem_append_right (Nat.le_refl _), List.getElem_append_right (by rw [h.1]; exact Nat.le_refl _)]
    simpa [h.1] using hr
theorem SepX.rep {H : K → List Value} {sz : Nat} {w : World} {b B : Nat} {s : Value} {ps : List K} {vs : List (List Value)} (h : SepX H sz w b s ps vs) (hB : B ≤ b) : RepXs H sz w B w.heap.size ps vs :=
  RepXs.mk ps vs h.1 (fun j h1 h2 => by
    obtain ⟨lo, hi, q1, q2, _, q4⟩ := h.2 j h1 h2
    exact q4.wide (by omega) q2)
end Go.Proofs.YtbjilpemckoioaaDoor
