/- The code of a filter, and how long it is; plain. -/
import Derived.Test.YtibmhnlmdabliaaGood
import Derived.Test.YtibmhnlmdabliaaInstr
namespace Go.Proofs.Ytibmhnlmdabliaa
open Go.RowKit
set_option linter.unusedVariables false
def iSeek (no : Int) : DInstr := ⟨1, 0, no, 0, ⟨#[]⟩, 0⟩
def iTest (x : DWant) : DInstr := ⟨2, x.kind, 0, x.num, x.text, 0⟩
def iJump (n to : Int) : DInstr := ⟨3, 0, 0, n, ⟨#[]⟩, to⟩
def iFlip : DInstr := ⟨4, 0, 0, 0, ⟨#[]⟩, 0⟩
def iEnd : DInstr := ⟨5, 0, 0, 0, ⟨#[]⟩, 0⟩
def comp (l : List DWant) : Nat → Nat → List DInstr → List DInstr
  | 0, _, out => out
  | n + 1, k, out => match l[k]? with
    | none => out
    | some x => if x.kind = 8 then comp l n x.a.toNat out ++ [iFlip]
      else if x.kind = 6 ∨ x.kind = 7 then (comp l n x.b.toNat (comp l n x.a.toNat out ++ [iJump (x.kind - 6) 0])).set (comp l n x.a.toNat out).length (iJump (x.kind - 6) ((comp l n x.b.toNat (comp l n x.a.toNat out ++ [iJump (x.kind - 6) 0])).length : Int))
      else out ++ [iSeek x.no, iTest x]
theorem comp_at {l : List DWant} {n k : Nat} (h : k < l.length) (out : List DInstr) : comp l (n + 1) k out = if l[k].kind = 8 then comp l n l[k].a.toNat out ++ [iFlip]
      else if l[k].kind = 6 ∨ l[k].kind = 7 then (comp l n l[k].b.toNat (comp l n l[k].a.toNat out ++ [iJump (l[k].kind - 6) 0])).set (comp l n l[k].a.toNat out).length (iJump (l[k].kind - 6) ((comp l n l[k].b.toNat (comp l n l[k].a.toNat out ++ [iJump (l[k].kind - 6) 0])).length : Int))
      else out ++ [iSeek l[k].no, iTest l[k]] := by
  rw [comp, List.getElem?_eq_getElem h]
def own1 (x : DWant) : Int := if x.kind = 6 ∨ x.kind = 7 ∨ x.kind = 8 then 1 else 2
def sumP (f : Nat → Int) (ps : List Int) : Int := (ps.map fun p => f p.toNat).sum
def wt (l : List DWant) : Nat → Nat → Int
  | 0, _ => 0
  | n + 1, k => match l[k]? with
    | none => 0
    | some x => own1 x + sumP (wt l n) (partsL x)
theorem wt_at {l : List DWant} {n k : Nat} (h : k < l.length) : wt l (n + 1) k = own1 l[k] + sumP (wt l n) (partsL l[k]) := by rw [wt, List.getElem?_eq_getElem h]
theorem comp_len (l : List DWant) : ∀ (n k : Nat) (out : List DInstr), ((comp l n k out).length : Int) = out.length + wt l n k := by
  intro n
  induction n with
  | zero => intro k out; simp [comp, wt]
  | succ n ih =>
    intro k out
    cases hk : l[k]? with
    | none => simp [comp, wt, hk]
    | some x =>
      simp only [comp, wt, hk]
      by_cases h8 : x.kind = 8
      · have h1 : own1 x = 1 := by rw [own1, if_pos (by omega)]
        have h2 : partsL x = [x.a] := by rw [partsL, if_neg (by omega), if_pos h8]
        have := ih x.a.toNat out
        rw [if_pos h8, h1, h2, List.length_append, sumP]; simp; omega
      · by_cases h6 : x.kind = 6 ∨ x.kind = 7
        · have h1 : own1 x = 1 := by rw [own1, if_pos (by omega)]
          have h2 : partsL x = [x.a, x.b] := by rw [partsL, if_pos h6]
          have := ih x.a.toNat out
          have := ih x.b.toNat (comp l n x.a.toNat out ++ [iJump (x.kind - 6) 0])
          rw [if_neg h8, if_pos h6, h1, h2, List.length_set, sumP]
          rw [List.length_append] at this
          simp at this ⊢; omega
        · have h1 : own1 x = 2 := by rw [own1, if_neg (by omega)]
          have h2 : partsL x = [] := by rw [partsL, if_neg h6, if_neg h8]
          rw [if_neg h8, if_neg h6, h1, h2, sumP]; simp
theorem sumP_congr {f g : Nat → Int} {ps : List Int} (h : ∀ p ∈ ps, f p.toNat = g p.toNat) : sumP f ps = sumP g ps := by
  rw [sumP, sumP, List.map_congr_left h]
theorem wt_fuel {l : List DWant} (hok : okAll l) : ∀ i f, i < f → i < l.length → wt l f i = wt l (i + 1) i := by
  intro i
  induction i using Nat.strongRecOn with
  | _ i ih =>
    intro f hf hi
    obtain ⟨g, rfl⟩ : ∃ g, f = g + 1 := ⟨f - 1, by omega⟩
    rw [wt_at hi, wt_at hi]
    congr 1
    refine sumP_congr fun p hp => ?_
    obtain ⟨h0, h1⟩ := want_parts (hok i hi) p hp
    rw [ih p.toNat (by omega) g (by omega) (by omega), ih p.toNat (by omega) i (by omega) (by omega)]
def WT (l : List DWant) (k : Nat) : Int := wt l (k + 1) k
theorem WT_rec {l : List DWant} (hok : okAll l) {i : Nat} (h : i < l.length) : WT l i = own1 l[i] + sumP (WT l) (partsL l[i]) := by
  rw [WT, wt_at h]
  congr 1
  refine sumP_congr fun p hp => ?_
  obtain ⟨h0, h1⟩ := want_parts (hok i h) p hp
  rw [wt_fuel hok p.toNat i (by omega) (by omega)]; rfl
def dot (f : Nat → Int) : List Int → Nat → Int
  | [], _ => 0
  | x :: xs, j => x * f j + dot f xs (j + 1)
theorem dot_set {f : Nat → Int} : ∀ (u : List Int) (j p : Nat), p < u.length → dot f (u.set p (u.getD p 0 + 1)) j = dot f u j + f (j + p) := by
  intro u
  induction u with
  | nil => intro j p h; simp at h
  | cons x xs ih =>
    intro j p h
    cases p with
    | zero => simp [dot]; rw [Int.add_mul]; omega
    | succ p =>
      have := ih (j + 1) p (by simpa using h)
      simp [dot] at this ⊢
      rw [this, show j + 1 + p = j + (p + 1) by omega]; omega
theorem dot_incrs {f : Nat → Int} : ∀ (ps u : List Int), (∀ p ∈ ps, 0 ≤ p ∧ p < u.length) → dot f (incrs u ps) 0 = dot f u 0 + sumP f ps := by
  intro ps
  induction ps with
  | nil => intro u _; simp [incrs, sumP]
  | cons p ps ih =>
    intro u h
    have hp := h p (by simp)
    show dot f (incrs (incr u p) ps) 0 = _
    rw [ih _ (fun q hq => by rw [incr_len]; exact h q (by simp [hq])), incr, dot_set _ _ _ (by omega), sumP, sumP, Nat.zero_add, List.map_cons, List.sum_cons]; omega
theorem dot_zero {f : Nat → Int} : ∀ (n j : Nat), dot f (List.replicate n 0) j = 0 := by
  intro n
  induction n with
  | zero => intro j; rfl
  | succ n ih => intro j; rw [List.replicate_succ, dot, ih]; simp
def sumTo (f : Nat → Int) : Nat → Int
  | 0 => 0
  | n + 1 => sumTo f n + f n
theorem dot_uses {l : List DWant} (hok : okAll l) : ∀ k, k ≤ l.length → ∃ O : Int, O ≤ 2 * k ∧ dot (WT l) (usesUpto l k) 0 + O = sumTo (WT l) k := by
  intro k
  induction k with
  | zero => intro _; exact ⟨0, by omega, by rw [usesUpto]; simp [dot_zero, sumTo]⟩
  | succ k ih =>
    intro hk
    obtain ⟨O, h1, h2⟩ := ih (by omega)
    refine ⟨O + own1 l[k], ?_, ?_⟩
    · have : own1 l[k] ≤ 2 := by rw [own1]; split <;> omega
      omega
    · have hr := WT_rec hok (i := k) (by omega)
      rw [usesUpto_succ (by omega), dot_incrs _ _ (fun p hp => by rw [usesUpto_len]; have := want_parts (hok k (by omega)) p hp; omega), sumTo, ← h2, hr]; omega
theorem incrs_high : ∀ (ps u : List Int) (c : Nat), (∀ p ∈ ps, 0 ≤ p ∧ p < c) → ∀ j, c ≤ j → (incrs u ps)[j]? = u[j]? := by
  intro ps
  induction ps with
  | nil => intro u c _ j _; rfl
  | cons p ps ih =>
    intro u c h j hj
    have hp := h p (by simp)
    show (incrs (incr u p) ps)[j]? = _
    rw [ih _ c (fun q hq => h q (by simp [hq])) j hj, incr, List.getElem?_set_ne (by omega)]
theorem uses_high {l : List DWant} (hok : okAll l) : ∀ k, k ≤ l.length → ∀ j, k ≤ j + 1 → j < l.length → (usesUpto l k)[j]? = some 0 := by
  intro k
  induction k with
  | zero => intro _ j _ hj; simp [usesUpto, hj]
  | succ k ih =>
    intro hk j hj hjl
    rw [usesUpto_succ (by omega), incrs_high _ _ k (fun p hp => by have := want_parts (hok k (by omega)) p hp; omega) j (by omega)]
    exact ih (by omega) j (by omega) hjl
theorem dot_ones {f : Nat → Int} : ∀ (u : List Int) (j n : Nat), u.length = n + 1 → (∀ x ∈ u.take n, x = 1) → u[n]? = some 0 → dot f u j + sumTo f j = sumTo f (j + n) := by
  intro u
  induction u with
  | nil => intro j n h; simp at h
  | cons x xs ih =>
    intro j n hl h1 h0
    cases n with
    | zero =>
      have : xs = [] := by simpa using hl
      subst this
      simp at h0; subst h0
      simp [dot]
    | succ n =>
      have hx : x = 1 := h1 x (by simp)
      have := ih (j + 1) n (by simpa using hl) (fun y hy => h1 y (by simp [hy])) (by simpa using h0)
      rw [sumTo] at this
      rw [dot, hx, show j + (n + 1) = j + 1 + n by omega, ← this]; omega
theorem code_short {l : List DWant} (h : goodFilter l = true) : (comp l l.length (l.length - 1) []).length ≤ 40 := by
  have hok := good_all h
  obtain ⟨h1, h2⟩ := good_len h
  obtain ⟨O, g1, g2⟩ := dot_uses hok l.length (Nat.le_refl _)
  have g3 := dot_ones (f := WT l) (usesUpto l l.length) 0 (l.length - 1) (by rw [usesUpto_len]; omega) (good_uses h) (uses_high hok _ (Nat.le_refl _) _ (by omega) (by omega))
  have g4 : sumTo (WT l) l.length = sumTo (WT l) (l.length - 1) + WT l (l.length - 1) := by
    conv => lhs; rw [show l.length = l.length - 1 + 1 by omega]
    rfl
  have g5 := comp_len l l.length (l.length - 1) []
  rw [wt_fuel hok _ _ (by omega) (by omega)] at g5
  change _ = _ + WT l (l.length - 1) at g5
  simp [sumTo] at g3 g5
  omega
/-- However long: a bound without goodness. -/
theorem comp_bound (l : List DWant) : ∀ (n k : Nat) (out : List DInstr), (comp l n k out).length + 1 ≤ out.length + 2 ^ (n + 1) := by
  intro n
  induction n with
  | zero => intro k out; simp [comp]
  | succ n ih =>
    intro k out
    have hp : 1 ≤ 2 ^ n := Nat.one_le_two_pow
    have e1 : 2 ^ (n + 1) = 2 * 2 ^ n := by rw [Nat.pow_succ]; omega
    have e2 : 2 ^ (n + 1 + 1) = 2 * 2 ^ (n + 1) := by rw [Nat.pow_succ]; omega
    cases hk : l[k]? with
    | none => simp only [comp, hk]; omega
    | some x =>
      simp only [comp, hk]
      split
      · have := ih x.a.toNat out
        rw [List.length_append]; simp; omega
      · split
        · have h1 := ih x.a.toNat out
          have h2 := ih x.b.toNat (comp l n x.a.toNat out ++ [iJump (x.kind - 6) 0])
          rw [List.length_set]
          rw [List.length_append] at h2
          simp at h2
          omega
        · rw [List.length_append]; simp; omega
end Go.Proofs.Ytibmhnlmdabliaa
