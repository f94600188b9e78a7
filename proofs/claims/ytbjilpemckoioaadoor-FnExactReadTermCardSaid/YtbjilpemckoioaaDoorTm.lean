/- Terms as trees and as lists of cells; what a tree is in memory, behind pointers and by value: laws of no program. -/
import Derived.Test.YtbjilpemckoioaaDoorTrees
import Derived.Test.YtbjilpemckoioaaDoorCell
namespace Go.Proofs.YtbjilpemckoioaaDoor
open Go.RowKit
set_option linter.unusedVariables false
/-- A term: a variable, or a name and terms. -/
def tmK (v : Int) (nm : ByteArray) (ks : List K) : K := .mk v nm 0 false 0 ks
/-- So many terms, one behind the other. -/
def rdL (f : List DCell → Option (K × List DCell)) : Nat → List DCell → Option (List K × List DCell)
  | 0, l => some ([], l)
  | m + 1, l => (f l).bind (fun p => (rdL f m p.2).map (fun q => (p.1 :: q.1, q.2)))
theorem rdL_snoc (f : List DCell → Option (K × List DCell)) : ∀ m l, rdL f (m + 1) l = (rdL f m l).bind (fun q => (f q.2).map (fun p => (q.1 ++ [p.1], p.2))) := by
  intro m
  induction m with
  | zero =>
    intro l
    rw [rdL, rdL]
    cases hf : f l with
    | none => simp [hf]
    | some p => simp [rdL, hf]
  | succ m ih =>
    intro l
    rw [rdL]
    conv => rhs; rw [rdL]
    cases hf : f l with
    | none => rfl
    | some p =>
      simp only [Option.bind_some]
      rw [ih]
      cases hm : rdL f m p.2 with
      | none => rfl
      | some q =>
        simp only [Option.bind_some, Option.map_some]
        cases hq : f q.2 <;> simp
theorem rdL_stop {f : List DCell → Option (K × List DCell)} {j : Nat} {l : List DCell} (h : rdL f j l = none) : ∀ d, rdL f (j + d) l = none := by
  intro d
  induction d with
  | zero => exact h
  | succ d ih => rw [← Nat.add_assoc, rdL_snoc, ih]; rfl
def nameB (s : ByteArray) : Bool := s.data.toList.all (fun c => decide (97 ≤ c.toNat) && decide (c.toNat ≤ 122)) && (decide (1 ≤ s.size) && decide (s.size ≤ 10))
theorem nameB_iff {s : ByteArray} : nameB s = true ↔ nameP s := by
  rw [nameB, nameP, Bool.and_eq_true, Bool.and_eq_true, List.all_eq_true]
  constructor
  · rintro ⟨h, h1, h2⟩
    exact ⟨fun c hc => by have := h c hc; simpa using this, by simpa using h1, by simpa using h2⟩
  · rintro ⟨h, h1, h2⟩
    exact ⟨fun c hc => by have := h c hc; simpa using this, by simpa using h1, by simpa using h2⟩
def varC (x : DCell) : Bool := decide (1 ≤ x.var ∧ x.var ≤ 6) && (decide (x.name.size = 0) && decide (x.many = 0))
def nmC (x : DCell) : Bool := nameB x.name && (decide (x.name.size ≤ 4) && decide (0 ≤ x.many ∧ x.many ≤ 5))
/-- The term at the front of cells, and what is left. -/
def rdT : Nat → List DCell → Option (K × List DCell)
  | 0, _ => none
  | _ + 1, [] => none
  | n + 1, x :: r => if x.var = 0 then (if nmC x = true then (rdL (rdT n) x.many.toNat r).map (fun q => (tmK 0 x.name q.1, q.2)) else none) else (if varC x = true then some (tmK x.var ⟨#[]⟩ [], r) else none)
theorem rdT_nil (n : Nat) : rdT n [] = none := by cases n <;> rfl
theorem rdT_var {n : Nat} {x : DCell} {r : List DCell} (h : x.var ≠ 0) : rdT (n + 1) (x :: r) = if varC x = true then some (tmK x.var ⟨#[]⟩ [], r) else none := by rw [rdT, if_neg h]
theorem rdT_name {n : Nat} {x : DCell} {r : List DCell} (h : x.var = 0) : rdT (n + 1) (x :: r) = if nmC x = true then (rdL (rdT n) x.many.toNat r).map (fun q => (tmK 0 x.name q.1, q.2)) else none := by rw [rdT, if_pos h]
theorem rdL_drop {f : List DCell → Option (K × List DCell)} (hf : ∀ l t r, f l = some (t, r) → ∃ k, 0 < k ∧ k ≤ l.length ∧ r = l.drop k) : ∀ m l ks r, rdL f m l = some (ks, r) → ks.length = m ∧ ∃ k, k ≤ l.length ∧ r = l.drop k := by
  intro m
  induction m with
  | zero => intro l ks r h; rw [rdL] at h; cases h; exact ⟨rfl, 0, Nat.zero_le _, rfl⟩
  | succ m ih =>
    intro l ks r h
    rw [rdL] at h
    obtain ⟨p, hp, h⟩ := Option.bind_eq_some_iff.1 h
    obtain ⟨q, hq, h⟩ := Option.map_eq_some_iff.1 h
    cases h
    obtain ⟨k, h1, h2, h3⟩ := hf l p.1 p.2 hp
    obtain ⟨h4, k2, h5, h6⟩ := ih _ q.1 q.2 hq
    refine ⟨by simp [h4], k + k2, ?_, ?_⟩
    · rw [h3, List.length_drop] at h5; omega
    · rw [h6, h3, List.drop_drop]
theorem rdT_drop : ∀ n l t r, rdT n l = some (t, r) → ∃ k, 0 < k ∧ k ≤ l.length ∧ r = l.drop k := by
  intro n
  induction n with
  | zero => intro l t r h; rw [rdT] at h; cases h
  | succ n ih =>
    intro l t r h
    cases l with
    | nil => rw [rdT_nil] at h; cases h
    | cons x l =>
      by_cases hv : x.var = 0
      · rw [rdT_name hv] at h
        split at h
        · obtain ⟨q, hq, h⟩ := Option.map_eq_some_iff.1 h
          cases h
          obtain ⟨_, k, h1, h2⟩ := rdL_drop ih _ _ q.1 q.2 hq
          exact ⟨k + 1, by omega, by rw [List.length_cons]; omega, by rw [List.drop_succ_cons]; exact h2⟩
        · cases h
      · rw [rdT_var hv] at h
        split at h
        · cases h; exact ⟨1, by omega, by rw [List.length_cons]; omega, rfl⟩
        · cases h
theorem rdT_len {n : Nat} {l r : List DCell} {t : K} (h : rdT n l = some (t, r)) : r.length < l.length := by
  obtain ⟨k, h1, h2, rfl⟩ := rdT_drop n l t r h
  rw [List.length_drop]; omega
/-- How many cells a term took. -/
theorem rdL_count {f : List DCell → Option (K × List DCell)} (hf : ∀ l t r, f l = some (t, r) → countK t + r.length = l.length) : ∀ m l ks r, rdL f m l = some (ks, r) → countL ks + r.length = l.length := by
  intro m
  induction m with
  | zero => intro l ks r h; rw [rdL] at h; cases h; simp [countL]
  | succ m ih =>
    intro l ks r h
    rw [rdL] at h
    obtain ⟨p, hp, h⟩ := Option.bind_eq_some_iff.1 h
    obtain ⟨q, hq, h⟩ := Option.map_eq_some_iff.1 h
    cases h
    have h1 := hf l p.1 p.2 hp
    have h2 := ih _ q.1 q.2 hq
    rw [countL]; omega
theorem rdT_count : ∀ n l t r, rdT n l = some (t, r) → countK t + r.length = l.length := by
  intro n
  induction n with
  | zero => intro l t r h; rw [rdT] at h; cases h
  | succ n ih =>
    intro l t r h
    cases l with
    | nil => rw [rdT_nil] at h; cases h
    | cons x l =>
      by_cases hv : x.var = 0
      · rw [rdT_name hv] at h
        split at h
        · obtain ⟨q, hq, h⟩ := Option.map_eq_some_iff.1 h
          cases h
          have := rdL_count ih _ _ q.1 q.2 hq
          rw [tmK, countK, List.length_cons]; omega
        · cases h
      · rw [rdT_var hv] at h
        split at h
        · cases h; rw [tmK, countK, countL, List.length_cons]; omega
        · cases h
/-- The terms of good cells: variables from 1 to 6, names else. -/
inductive TmOk : K → Prop
  | var (v : Int) (h : 1 ≤ v ∧ v ≤ 6) : TmOk (tmK v ⟨#[]⟩ [])
  | app (nm : ByteArray) (ks : List K) (h : nameB nm = true) (h4 : nm.size ≤ 4) (h5 : ks.length ≤ 5) (hk : ∀ k ∈ ks, TmOk k) : TmOk (tmK 0 nm ks)
theorem rdL_ok {f : List DCell → Option (K × List DCell)} (hf : ∀ l t r, f l = some (t, r) → TmOk t) : ∀ m l ks r, rdL f m l = some (ks, r) → ∀ k ∈ ks, TmOk k := by
  intro m
  induction m with
  | zero => intro l ks r h; rw [rdL] at h; cases h; intro k hk; cases hk
  | succ m ih =>
    intro l ks r h
    rw [rdL] at h
    obtain ⟨p, hp, h⟩ := Option.bind_eq_some_iff.1 h
    obtain ⟨q, hq, h⟩ := Option.map_eq_some_iff.1 h
    cases h
    intro k hk
    rcases List.mem_cons.1 hk with rfl | hk
    · exact hf l p.1 p.2 hp
    · exact ih _ q.1 q.2 hq k hk
theorem rdT_ok : ∀ n l t r, rdT n l = some (t, r) → TmOk t := by
  intro n
  induction n with
  | zero => intro l t r h; rw [rdT] at h; cases h
  | succ n ih =>
    intro l t r h
    cases l with
    | nil => rw [rdT_nil] at h; cases h
    | cons x l =>
      by_cases hv : x.var = 0
      · rw [rdT_name hv] at h
        split at h
        · rename_i hn
          obtain ⟨q, hq, h⟩ := Option.map_eq_some_iff.1 h
          cases h
          rw [nmC, Bool.and_eq_true, Bool.and_eq_true] at hn
          obtain ⟨h1, h2, h3⟩ := hn
          have h2 := of_decide_eq_true h2
          have h3 := of_decide_eq_true h3
          have h4 := (rdL_drop (rdT_drop n) _ _ q.1 q.2 hq).1
          exact .app _ _ h1 h2 (by omega) (rdL_ok ih _ _ q.1 q.2 hq)
        · cases h
      · rw [rdT_var hv] at h
        split at h
        · rename_i hn
          cases h
          rw [varC, Bool.and_eq_true] at hn
          exact .var _ (of_decide_eq_true hn.1)
        · cases h
/-- A good term: all its cells. -/
def termT (l : List DCell) : Option K := if l.length ≤ 30 then (match rdT 30 l with | some (t, []) => some t | _ => none) else none
theorem termT_some {l : List DCell} {t : K} (h : termT l = some t) : l.length ≤ 30 ∧ rdT 30 l = some (t, []) := by
  rw [termT] at h
  split at h
  · refine ⟨by assumption, ?_⟩
    split at h
    · cases h; assumption
    · cases h
  · cases h
theorem termT_of {l : List DCell} {t : K} {r : List DCell} (hl : l.length ≤ 30) (h : rdT 30 l = some (t, r)) : termT l = if r = [] then some t else none := by
  rw [termT, if_pos hl, h]
  cases r <;> simp
theorem termT_no {l : List DCell} (hl : l.length ≤ 30) (h : rdT 30 l = none) : termT l = none := by
  rw [termT, if_pos hl, h]
theorem termT_long {l : List DCell} (hl : ¬ l.length ≤ 30) : termT l = none := by rw [termT, if_neg hl]
theorem termT_count {l : List DCell} {t : K} (h : termT l = some t) : countK t = l.length ∧ l.length ≤ 30 := by
  obtain ⟨h1, h2⟩ := termT_some h
  have := rdT_count _ _ _ _ h2
  rw [List.length_nil] at this
  exact ⟨by omega, h1⟩
/-- The blocks of a set hold what they held. -/
def SameS (w w' : World) (S : Nat → Prop) : Prop := ∀ b, S b → ∀ o, w'.cell? ⟨b, o, none⟩ = w.cell? ⟨b, o, none⟩
theorem SameS.refl (w : World) (S : Nat → Prop) : SameS w w S := fun _ _ _ => rfl
theorem SameS.below {w w' : World} {S : Nat → Prop} (h : Below w.heap.size w w') (hh : ∀ b, S b → b < w.heap.size) : SameS w w' S := fun b hb o => h.cell (p := ⟨b, o, none⟩) (by show b < _; exact hh b hb)
theorem SameS.belowB {w w' : World} {B : Nat} {S : Nat → Prop} (h : Below B w w') (hh : ∀ b, S b → b < B) : SameS w w' S := fun b hb o => h.cell (p := ⟨b, o, none⟩) (by show b < _; exact hh b hb)
theorem SameS.grown {w w' : World} {S : Nat → Prop} {r : Option Nat} (h : w.grownBy w' r) (hh : ∀ b, S b → b < w.heap.size) (hr : ∀ b, S b → some b ≠ r) : SameS w w' S :=
  fun b hb o => World.cell?_of_block (h.block b (hh b hb) (hr b hb))
def PSlS (w : World) (S : Nat → Prop) (s : Value) (vs : List Value) : Prop :=
  ∃ a c, s = .slice a vs.length c ∧ (vs = [] ∨ ∃ b, a = some ⟨b, 0, none⟩ ∧ S b ∧ ∀ i v, vs[i]? = some v → w.cell? ⟨b, i, none⟩ = some v)
mutual
/-- A pointer to a tree, all of it in blocks of a set; H tells a node's own cells. -/
def RepY (H : K → List Value) (w : World) (S : Nat → Prop) : K → Value → Prop
  | .mk o nm no mu mo ps => fun v => ∃ (b : Nat) (s : Value) (vs : List Value), v = .pointer (some ⟨b, 0, none⟩) ∧ S b ∧ (∀ j u, (H (.mk o nm no mu mo []) ++ [s])[j]? = some u → w.cell? ⟨b, j, none⟩ = some u) ∧ PSlS w S s vs ∧ RepYs H w S ps vs
def RepYs (H : K → List Value) (w : World) (S : Nat → Prop) : List K → List Value → Prop
  | [] => fun vs => vs = []
  | p :: ps => fun vs => ∃ v vs', vs = v :: vs' ∧ RepY H w S p v ∧ RepYs H w S ps vs'
end
theorem PSlS.same {w w' : World} {S S' : Nat → Prop} {s : Value} {vs : List Value} (h : PSlS w S s vs) (hs : SameS w w' S) (h1 : ∀ b, S b → S' b) : PSlS w' S' s vs := by
  obtain ⟨a, c, e, h⟩ := h
  refine ⟨a, c, e, h.imp id ?_⟩
  rintro ⟨b, rfl, hb, hc⟩
  exact ⟨b, rfl, h1 b hb, fun i v hv => by rw [hs b hb]; exact hc i v hv⟩
theorem RepYs.same {H : K → List Value} {w w' : World} {S S' : Nat → Prop} : ∀ (ps : List K), (∀ p ∈ ps, ∀ v, RepY H w S p v → RepY H w' S' p v) → ∀ vs, RepYs H w S ps vs → RepYs H w' S' ps vs := by
  intro ps
  induction ps with
  | nil => intro _ vs h; rw [RepYs] at h ⊢; exact h
  | cons p ps ih =>
    intro hp vs h
    rw [RepYs] at h ⊢
    obtain ⟨v, vs', e, h3, h4⟩ := h
    exact ⟨v, vs', e, hp p (by simp) v h3, ih (fun q hq => hp q (by simp [hq])) vs' h4⟩
theorem RepY.same {H : K → List Value} {w w' : World} {S S' : Nat → Prop} (hs : SameS w w' S) (h1 : ∀ b, S b → S' b) (t : K) : ∀ v, RepY H w S t v → RepY H w' S' t v := by
  refine K.ind (P := fun t => ∀ v, RepY H w S t v → RepY H w' S' t v) ?_ t
  intro o nm no mu mo ps ih v h
  rw [RepY] at h ⊢
  obtain ⟨b, s, vs, e, hb, hc, h3, h4⟩ := h
  exact ⟨b, s, vs, e, h1 b hb, fun j u hu => by rw [hs b hb]; exact hc j u hu, h3.same hs h1, RepYs.same ps ih vs h4⟩
theorem RepYs.all {H : K → List Value} {w w' : World} {S S' : Nat → Prop} {ps : List K} {vs : List Value} (h : RepYs H w S ps vs) (hs : SameS w w' S) (h1 : ∀ b, S b → S' b) : RepYs H w' S' ps vs :=
  RepYs.same ps (fun p _ v hv => RepY.same hs h1 p v hv) vs h
theorem RepYs.get {H : K → List Value} {w : World} {S : Nat → Prop} : ∀ (ps : List K) (vs : List Value), RepYs H w S ps vs → vs.length = ps.length ∧ ∀ j (h : j < ps.length) (h' : j < vs.length), RepY H w S ps[j] vs[j] := by
  intro ps
  induction ps with
  | nil => intro vs h; rw [RepYs] at h; subst h; exact ⟨rfl, fun j h => by simp at h⟩
  | cons p ps ih =>
    intro vs h
    rw [RepYs] at h
    obtain ⟨v, vs', rfl, h1, h2⟩ := h
    obtain ⟨h3, h4⟩ := ih vs' h2
    refine ⟨by simp [h3], fun j g g' => ?_⟩
    cases j with
    | zero => exact h1
    | succ j => exact h4 j (by simpa using g) (by simpa using g')
theorem RepYs.snoc {H : K → List Value} {w : World} {S : Nat → Prop} {p : K} {v : Value} : ∀ (ps : List K) (vs : List Value), RepYs H w S ps vs → RepY H w S p v → RepYs H w S (ps ++ [p]) (vs ++ [v]) := by
  intro ps
  induction ps with
  | nil => intro vs h hp; rw [RepYs] at h; subst h; rw [List.nil_append, List.nil_append, RepYs]; exact ⟨v, [], rfl, hp, by rw [RepYs]⟩
  | cons q ps ih =>
    intro vs h hp
    rw [RepYs] at h
    obtain ⟨u, vs', rfl, h1, h2⟩ := h
    rw [List.cons_append, List.cons_append, RepYs]
    exact ⟨u, vs' ++ [v], rfl, h1, ih vs' h2 hp⟩
theorem RepY.open {H : K → List Value} {w : World} {S : Nat → Prop} {t : K} {v : Value} (h : RepY H w S t v) : ∃ (b : Nat) (a : Option Addr) (c : Nat) (vs : List Value), v = .pointer (some ⟨b, 0, none⟩) ∧ S b ∧
    (∀ j u, (H t.top ++ [.slice a t.parts.length c])[j]? = some u → w.cell? ⟨b, j, none⟩ = some u) ∧ PSlS w S (.slice a t.parts.length c) vs ∧ vs.length = t.parts.length ∧ ∀ j (h : j < t.parts.length) (h' : j < vs.length), RepY H w S t.parts[j] vs[j] := by
  obtain ⟨o, nm, no, mu, mo, ps⟩ := t
  rw [RepY] at h
  obtain ⟨b, s, vs, e, hb, hc, h3, h4⟩ := h
  obtain ⟨g1, g2⟩ := RepYs.get ps vs h4
  obtain ⟨a, c, rfl, h3'⟩ := h3
  rw [g1] at hc
  exact ⟨b, a, c, vs, e, hb, hc, ⟨a, c, by rw [g1]; rfl, h3'⟩, g1, g2⟩
theorem RepY.mk {H : K → List Value} {w : World} {S : Nat → Prop} {t : K} {b : Nat} {s : Value} {vs : List Value} (hb : S b) (hc : ∀ j u, (H t.top ++ [s])[j]? = some u → w.cell? ⟨b, j, none⟩ = some u) (h : PSlS w S s vs) (hp : RepYs H w S t.parts vs) : RepY H w S t (.pointer (some ⟨b, 0, none⟩)) := by
  obtain ⟨o, nm, no, mu, mo, ps⟩ := t
  rw [RepY]
  exact ⟨b, s, vs, rfl, hb, hc, h, hp⟩
theorem PSlS.at {w : World} {S : Nat → Prop} {n c : Nat} {a : Option Addr} {vs : List Value} (h : PSlS w S (.slice a n c) vs) {j : Nat} (hj : j < vs.length) : ∃ b, a = some ⟨b, 0, none⟩ ∧ S b ∧ ∀ i (h : i < vs.length), w.cell? ⟨b, i, none⟩ = some vs[i] := by
  obtain ⟨a', c', e, h⟩ := h
  cases e
  rcases h with h | ⟨b, rfl, hb, hc⟩
  · subst h; simp at hj
  · exact ⟨b, rfl, hb, fun i hi => hc i _ (List.getElem?_eq_getElem hi)⟩
theorem PSlS.sl {w : World} {S : Nat → Prop} {s : Value} {vs : List Value} (h : PSlS w S s vs) (hh : ∀ b, S b → b < w.heap.size) : Sl w s 1 (vs.map encV) := by
  obtain ⟨a, c, rfl, h⟩ := h
  refine ⟨a, c, by rw [List.length_map], ?_⟩
  rcases h with rfl | ⟨b, rfl, hb, hc⟩
  · exact .inl rfl
  · refine .inr ⟨b, 0, rfl, hh b hb, fun i r hr j u hu => ?_⟩
    rw [List.getElem?_map] at hr
    cases hx : vs[i]? with
    | none => rw [hx] at hr; simp at hr
    | some x =>
      rw [hx] at hr; simp [encV] at hr; subst hr
      have hj : j = 0 := by have := (List.getElem?_eq_some_iff.1 hu).1; simp at this; exact this
      subst hj; simp at hu; subst hu
      rw [Nat.mul_one, Nat.add_zero, Nat.zero_add]; exact hc i x hx
theorem PSlS.own {w : World} {B E : Nat} {S : Nat → Prop} {s : Value} {vs : List Value} (h : Own w B E 1 s (vs.map encV)) (hs : ∀ g, s.ownBlock = some g → S g) : PSlS w S s vs := by
  by_cases hn : vs = []
  · subst hn
    obtain ⟨a, c, e, _⟩ := h.sl
    exact ⟨a, c, e, .inl rfl⟩
  · obtain ⟨g, c, e, hg1, hg2⟩ := h.addr (by simpa using hn)
    subst e
    rw [List.length_map] at h hs ⊢
    refine ⟨_, c, rfl, .inr ⟨g, rfl, hs g rfl, fun i v hv => ?_⟩⟩
    have := (h.cell (i := i) (j := 0) (r := [v]) (u := v) (by rw [List.getElem?_map, hv]; rfl) rfl).1
    rwa [Nat.mul_one, Nat.add_zero] at this
/-- Parts that are being gathered: in blocks of R, none of them the node's own block x or the slice's. -/
def SepY (H : K → List Value) (w : World) (R : Nat → Prop) (x : Nat) (s : Value) (ps : List K) (vs : List Value) : Prop :=
  ∃ S : Nat → Prop, (∀ b, S b → R b ∧ b < w.heap.size ∧ b ≠ x ∧ s.ownBlock ≠ some b) ∧ RepYs H w S ps vs
theorem SepY.nil {H : K → List Value} {w : World} {R : Nat → Prop} {x : Nat} {s : Value} : SepY H w R x s [] [] := ⟨fun _ => False, fun b h => h.elim, by rw [RepYs]⟩
theorem SepY.len {H : K → List Value} {w : World} {R : Nat → Prop} {x : Nat} {s : Value} {ps : List K} {vs : List Value} (h : SepY H w R x s ps vs) : vs.length = ps.length := by
  obtain ⟨S, _, h⟩ := h; exact (RepYs.get _ _ h).1
theorem SepY.grown {H : K → List Value} {w w' : World} {R : Nat → Prop} {x : Nat} {s s' : Value} {ps : List K} {vs : List Value} {r : Option Nat} (h : SepY H w R x s ps vs) (hg : w.grownBy w' r) (hr : r = none ∨ r = some x ∨ r = s.ownBlock) (hs : s'.ownBlock = s.ownBlock ∨ ∀ g, s'.ownBlock = some g → w.heap.size ≤ g) : SepY H w' R x s' ps vs := by
  obtain ⟨S, h1, h2⟩ := h
  have hn : ∀ b, S b → some b ≠ r := by
    intro b hb e
    obtain ⟨_, _, q1, q2⟩ := h1 b hb
    rcases hr with rfl | rfl | rfl
    · cases e
    · cases e; exact q1 rfl
    · exact q2 e.symm
  refine ⟨S, fun b hb => ?_, h2.all (SameS.grown hg (fun b hb => (h1 b hb).2.1) hn) (fun b hb => hb)⟩
  obtain ⟨q0, q1, q2, q3⟩ := h1 b hb
  refine ⟨q0, Nat.lt_of_lt_of_le q1 hg.size, q2, fun e => ?_⟩
  rcases hs with g | g
  · exact q3 (by rw [← g]; exact e)
  · have := g b e; omega
theorem SepY.below {H : K → List Value} {w w' : World} {R : Nat → Prop} {x : Nat} {s : Value} {ps : List K} {vs : List Value} (h : SepY H w R x s ps vs) (hb : Below w.heap.size w w') : SepY H w' R x s ps vs :=
  h.grown (below_grownBy hb none) (.inl rfl) (.inl rfl)
theorem SepY.snoc {H : K → List Value} {w : World} {R S : Nat → Prop} {x : Nat} {s : Value} {ps : List K} {vs : List Value} {p : K} {v : Value} (h : SepY H w R x s ps vs) (hp : RepY H w S p v) (hS : ∀ b, S b → R b ∧ b < w.heap.size ∧ b ≠ x ∧ s.ownBlock ≠ some b) : SepY H w R x s (ps ++ [p]) (vs ++ [v]) := by
  obtain ⟨S1, h1, h2⟩ := h
  refine ⟨fun b => S1 b ∨ S b, fun b hb => hb.elim (h1 b) (hS b), ?_⟩
  exact RepYs.snoc ps vs (h2.all (SameS.refl _ _) (fun b hb => .inl hb)) (RepY.same (SameS.refl _ _) (fun b hb => .inr hb) _ _ hp)
theorem SepY.rep {H : K → List Value} {w : World} {R : Nat → Prop} {x : Nat} {s : Value} {ps : List K} {vs : List Value} (h : SepY H w R x s ps vs) : RepYs H w (fun b => R b ∧ b < w.heap.size) ps vs := by
  obtain ⟨S, h1, h2⟩ := h
  exact h2.all (SameS.refl _ _) (fun b hb => ⟨(h1 b hb).1, (h1 b hb).2.1⟩)
def XSlS (sz : Nat) (w : World) (S : Nat → Prop) (s : Value) (rows : List (List Value)) : Prop :=
  ∃ a c, s = .slice a rows.length c ∧ (rows = [] ∨ ∃ b, a = some ⟨b, 0, none⟩ ∧ S b ∧ ∀ i r, rows[i]? = some r → ∀ j u, r[j]? = some u → w.cell? ⟨b, i * sz + j, none⟩ = some u)
mutual
/-- A tree by value, its parts in blocks of a set. -/
def RepZ (H : K → List Value) (sz : Nat) (w : World) (S : Nat → Prop) : K → List Value → Prop
  | .mk o nm no mu mo ps => fun r => ∃ (s : Value) (rows : List (List Value)), r = H (.mk o nm no mu mo []) ++ [s] ∧ XSlS sz w S s rows ∧ RepZs H sz w S ps rows
def RepZs (H : K → List Value) (sz : Nat) (w : World) (S : Nat → Prop) : List K → List (List Value) → Prop
  | [] => fun rs => rs = []
  | p :: ps => fun rs => ∃ r rs', rs = r :: rs' ∧ RepZ H sz w S p r ∧ RepZs H sz w S ps rs'
end
theorem XSlS.same {sz : Nat} {w w' : World} {S S' : Nat → Prop} {s : Value} {rows : List (List Value)} (h : XSlS sz w S s rows) (hs : SameS w w' S) (h1 : ∀ b, S b → S' b) : XSlS sz w' S' s rows := by
  obtain ⟨a, c, e, h⟩ := h
  refine ⟨a, c, e, h.imp id ?_⟩
  rintro ⟨b, rfl, hb, hc⟩
  exact ⟨b, rfl, h1 b hb, fun i r hr j u hu => by rw [hs b hb]; exact hc i r hr j u hu⟩
theorem RepZs.same {H : K → List Value} {sz : Nat} {w w' : World} {S S' : Nat → Prop} : ∀ (ps : List K), (∀ p ∈ ps, ∀ v, RepZ H sz w S p v → RepZ H sz w' S' p v) → ∀ vs, RepZs H sz w S ps vs → RepZs H sz w' S' ps vs := by
  intro ps
  induction ps with
  | nil => intro _ vs h; rw [RepZs] at h ⊢; exact h
  | cons p ps ih =>
    intro hp vs h
    rw [RepZs] at h ⊢
    obtain ⟨v, vs', e, h3, h4⟩ := h
    exact ⟨v, vs', e, hp p (by simp) v h3, ih (fun q hq => hp q (by simp [hq])) vs' h4⟩
theorem RepZ.same {H : K → List Value} {sz : Nat} {w w' : World} {S S' : Nat → Prop} (hs : SameS w w' S) (h1 : ∀ b, S b → S' b) (t : K) : ∀ v, RepZ H sz w S t v → RepZ H sz w' S' t v := by
  refine K.ind (P := fun t => ∀ v, RepZ H sz w S t v → RepZ H sz w' S' t v) ?_ t
  intro o nm no mu mo ps ih v h
  rw [RepZ] at h ⊢
  obtain ⟨s, rows, e, h3, h4⟩ := h
  exact ⟨s, rows, e, h3.same hs h1, RepZs.same ps ih rows h4⟩
theorem RepZs.all {H : K → List Value} {sz : Nat} {w w' : World} {S S' : Nat → Prop} {ps : List K} {vs : List (List Value)} (h : RepZs H sz w S ps vs) (hs : SameS w w' S) (h1 : ∀ b, S b → S' b) : RepZs H sz w' S' ps vs :=
  RepZs.same ps (fun p _ v hv => RepZ.same hs h1 p v hv) vs h
theorem RepZs.get {H : K → List Value} {sz : Nat} {w : World} {S : Nat → Prop} : ∀ (ps : List K) (vs : List (List Value)), RepZs H sz w S ps vs → vs.length = ps.length ∧ ∀ j (h : j < ps.length) (h' : j < vs.length), RepZ H sz w S ps[j] vs[j] := by
  intro ps
  induction ps with
  | nil => intro vs h; rw [RepZs] at h; subst h; exact ⟨rfl, fun j h => by simp at h⟩
  | cons p ps ih =>
    intro vs h
    rw [RepZs] at h
    obtain ⟨v, vs', rfl, h1, h2⟩ := h
    obtain ⟨h3, h4⟩ := ih vs' h2
    refine ⟨by simp [h3], fun j g g' => ?_⟩
    cases j with
    | zero => exact h1
    | succ j => exact h4 j (by simpa using g) (by simpa using g')
theorem RepZs.snoc {H : K → List Value} {sz : Nat} {w : World} {S : Nat → Prop} {p : K} {v : List Value} : ∀ (ps : List K) (vs : List (List Value)), RepZs H sz w S ps vs → RepZ H sz w S p v → RepZs H sz w S (ps ++ [p]) (vs ++ [v]) := by
  intro ps
  induction ps with
  | nil => intro vs h hp; rw [RepZs] at h; subst h; rw [List.nil_append, List.nil_append, RepZs]; exact ⟨v, [], rfl, hp, by rw [RepZs]⟩
  | cons q ps ih =>
    intro vs h hp
    rw [RepZs] at h
    obtain ⟨u, vs', rfl, h1, h2⟩ := h
    rw [List.cons_append, List.cons_append, RepZs]
    exact ⟨u, vs' ++ [v], rfl, h1, ih vs' h2 hp⟩
theorem RepZ.open {H : K → List Value} {sz : Nat} {w : World} {S : Nat → Prop} {t : K} {r : List Value} (h : RepZ H sz w S t r) : ∃ (a : Option Addr) (c : Nat) (rows : List (List Value)), r = H t.top ++ [.slice a t.parts.length c] ∧
    XSlS sz w S (.slice a t.parts.length c) rows ∧ rows.length = t.parts.length ∧ ∀ j (h : j < t.parts.length) (h' : j < rows.length), RepZ H sz w S t.parts[j] rows[j] := by
  obtain ⟨o, nm, no, mu, mo, ps⟩ := t
  rw [RepZ] at h
  obtain ⟨s, rows, e, h3, h4⟩ := h
  obtain ⟨g1, g2⟩ := RepZs.get ps rows h4
  obtain ⟨a, c, rfl, h3'⟩ := h3
  rw [g1] at e
  exact ⟨a, c, rows, e, ⟨a, c, by rw [g1]; rfl, h3'⟩, g1, g2⟩
theorem RepZ.mk {H : K → List Value} {sz : Nat} {w : World} {S : Nat → Prop} {t : K} {s : Value} {rows : List (List Value)} (h : XSlS sz w S s rows) (hp : RepZs H sz w S t.parts rows) : RepZ H sz w S t (H t.top ++ [s]) := by
  obtain ⟨o, nm, no, mu, mo, ps⟩ := t
  rw [RepZ]
  exact ⟨s, rows, rfl, h, hp⟩
theorem XSlS.at {sz : Nat} {w : World} {S : Nat → Prop} {n c : Nat} {a : Option Addr} {rows : List (List Value)} (h : XSlS sz w S (.slice a n c) rows) {j : Nat} (hj : j < rows.length) : ∃ b, a = some ⟨b, 0, none⟩ ∧ S b ∧ ∀ i (h : i < rows.length) k u, rows[i][k]? = some u → w.cell? ⟨b, i * sz + k, none⟩ = some u := by
  obtain ⟨a', c', e, h⟩ := h
  cases e
  rcases h with h | ⟨b, rfl, hb, hc⟩
  · subst h; simp at hj
  · exact ⟨b, rfl, hb, fun i hi k u hu => hc i _ (List.getElem?_eq_getElem hi) k u hu⟩
theorem XSlS.own {sz : Nat} {w : World} {B E : Nat} {S : Nat → Prop} {s : Value} {rows : List (List Value)} (h : Own w B E sz s rows) (hs : ∀ g, s.ownBlock = some g → S g) : XSlS sz w S s rows := by
  by_cases hn : rows = []
  · subst hn
    obtain ⟨a, c, e, _⟩ := h.sl
    exact ⟨a, c, e, .inl rfl⟩
  · obtain ⟨g, c, e, hg1, hg2⟩ := h.addr hn
    subst e
    exact ⟨_, c, rfl, .inr ⟨g, rfl, hs g rfl, fun i r hr j u hu => (h.cell hr hu).1⟩⟩
def SepZ (H : K → List Value) (sz : Nat) (w : World) (R : Nat → Prop) (x : Nat) (s : Value) (ps : List K) (vs : List (List Value)) : Prop :=
  ∃ S : Nat → Prop, (∀ b, S b → R b ∧ b < w.heap.size ∧ b ≠ x ∧ s.ownBlock ≠ some b) ∧ RepZs H sz w S ps vs
theorem SepZ.nil {H : K → List Value} {sz : Nat} {w : World} {R : Nat → Prop} {x : Nat} {s : Value} : SepZ H sz w R x s [] [] := ⟨fun _ => False, fun b h => h.elim, by rw [RepZs]⟩
theorem SepZ.len {H : K → List Value} {sz : Nat} {w : World} {R : Nat → Prop} {x : Nat} {s : Value} {ps : List K} {vs : List (List Value)} (h : SepZ H sz w R x s ps vs) : vs.length = ps.length := by
  obtain ⟨S, _, h⟩ := h; exact (RepZs.get _ _ h).1
theorem SepZ.grown {H : K → List Value} {sz : Nat} {w w' : World} {R : Nat → Prop} {x : Nat} {s s' : Value} {ps : List K} {vs : List (List Value)} {r : Option Nat} (h : SepZ H sz w R x s ps vs) (hg : w.grownBy w' r) (hr : r = none ∨ r = some x ∨ r = s.ownBlock) (hs : s'.ownBlock = s.ownBlock ∨ ∀ g, s'.ownBlock = some g → w.heap.size ≤ g) : SepZ H sz w' R x s' ps vs := by
  obtain ⟨S, h1, h2⟩ := h
  have hn : ∀ b, S b → some b ≠ r := by
    intro b hb e
    obtain ⟨_, _, q1, q2⟩ := h1 b hb
    rcases hr with rfl | rfl | rfl
    · cases e
    · cases e; exact q1 rfl
    · exact q2 e.symm
  refine ⟨S, fun b hb => ?_, h2.all (SameS.grown hg (fun b hb => (h1 b hb).2.1) hn) (fun b hb => hb)⟩
  obtain ⟨q0, q1, q2, q3⟩ := h1 b hb
  refine ⟨q0, Nat.lt_of_lt_of_le q1 hg.size, q2, fun e => ?_⟩
  rcases hs with g | g
  · exact q3 (by rw [← g]; exact e)
  · have := g b e; omega
theorem SepZ.below {H : K → List Value} {sz : Nat} {w w' : World} {R : Nat → Prop} {x : Nat} {s : Value} {ps : List K} {vs : List (List Value)} (h : SepZ H sz w R x s ps vs) (hb : Below w.heap.size w w') : SepZ H sz w' R x s ps vs :=
  h.grown (below_grownBy hb none) (.inl rfl) (.inl rfl)
theorem SepZ.snoc {H : K → List Value} {sz : Nat} {w : World} {R S : Nat → Prop} {x : Nat} {s : Value} {ps : List K} {vs : List (List Value)} {p : K} {v : List Value} (h : SepZ H sz w R x s ps vs) (hp : RepZ H sz w S p v) (hS : ∀ b, S b → R b ∧ b < w.heap.size ∧ b ≠ x ∧ s.ownBlock ≠ some b) : SepZ H sz w R x s (ps ++ [p]) (vs ++ [v]) := by
  obtain ⟨S1, h1, h2⟩ := h
  refine ⟨fun b => S1 b ∨ S b, fun b hb => hb.elim (h1 b) (hS b), ?_⟩
  exact RepZs.snoc ps vs (h2.all (SameS.refl _ _) (fun b hb => .inl hb)) (RepZ.same (SameS.refl _ _) (fun b hb => .inr hb) _ _ hp)
theorem SepZ.rep {H : K → List Value} {sz : Nat} {w : World} {R : Nat → Prop} {x : Nat} {s : Value} {ps : List K} {vs : List (List Value)} (h : SepZ H sz w R x s ps vs) : RepZs H sz w (fun b => R b ∧ b < w.heap.size) ps vs := by
  obtain ⟨S, h1, h2⟩ := h
  exact h2.all (SameS.refl _ _) (fun b hb => ⟨(h1 b hb).1, (h1 b hb).2.1⟩)
end Go.Proofs.YtbjilpemckoioaaDoor
