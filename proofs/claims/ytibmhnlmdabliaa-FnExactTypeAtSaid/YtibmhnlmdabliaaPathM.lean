/- The path of a type: plain. -/
import Derived.Test.YtibmhnlmdabliaaKindW
namespace Go.Proofs.Ytibmhnlmdabliaa
open Go.RowKit
set_option linter.unusedVariables false
abbrev dotS : ByteArray := ⟨#[46]⟩
abbrev nilS : ByteArray := ⟨#[]⟩
theorem nil_app (a : ByteArray) : nilS ++ a = a := by rw [ByteArray.ext_iff]; simp [ByteArray.data_append]
theorem app_nil (a : ByteArray) : a ++ nilS = a := by rw [ByteArray.ext_iff]; simp [ByteArray.data_append]
theorem app_as (a b c : ByteArray) : a ++ b ++ c = a ++ (b ++ c) := by rw [ByteArray.ext_iff]; simp [ByteArray.data_append]
theorem app_dot (a b : ByteArray) : a ++ (dotS ++ b) ≠ nilS := by
  intro h
  have := congrArg (fun x : ByteArray => x.data.toList.length) h
  simp [ByteArray.data_append, dotS] at this
/-- Two paths as one. -/
noncomputable def J (p q : ByteArray) : ByteArray := @ite _ (p = nilS) (Classical.propDecidable _) q (@ite _ (q = nilS) (Classical.propDecidable _) p (p ++ (dotS ++ q)))
theorem J_nil (q : ByteArray) : J nilS q = q := by simp [J]
theorem J_nil' (p : ByteArray) : J p nilS = p := by by_cases h : p = nilS <;> simp [J, h]
theorem J_two {p q : ByteArray} (hp : p ≠ nilS) (hq : q ≠ nilS) : J p q = p ++ (dotS ++ q) := by simp [J, hp, hq]
theorem J_ne {p q : ByteArray} (hp : p ≠ nilS) : J p q ≠ nilS := by
  by_cases hq : q = nilS
  · rw [hq, J_nil']; exact hp
  · rw [J_two hp hq]; exact app_dot _ _
theorem J_as {p n q : ByteArray} (hn : n ≠ nilS) : J (J p n) q = J p (J n q) := by
  by_cases hp : p = nilS
  · rw [hp, J_nil, J_nil]
  · by_cases hq : q = nilS
    · rw [hq, J_nil', J_nil']
    · rw [J_two (J_ne hp) hq, J_two hn hq, J_two hp (app_dot _ _), J_two hp hn, app_as, app_as]
/-- The path of a type, if it is in messages alone. -/
noncomputable def pth (l : List DType) : Nat → Nat → Option ByteArray
  | 0, _ => none
  | n + 1, k => if k = 0 then some nilS else match l[k]? with
    | none => none
    | some x => if ((l[x.up.toNat]?).map (·.kind)).getD 0 = 5 then (pth l n x.up.toNat).map (fun p => J p x.name) else none
theorem pth_fuel {l : List DType} (hw : ∀ i, i < l.length → U l i < (i : Int)) (h0 : ∀ i, 0 < i → i < l.length → 0 ≤ U l i) : ∀ k n, k < n → k < l.length → pth l n k = pth l (k + 1) k := by
  intro k
  induction k using Nat.strongRecOn with
  | _ k ih =>
    intro n hn hk
    obtain ⟨m, rfl⟩ : ∃ m, n = m + 1 := ⟨n - 1, by omega⟩
    rw [pth, pth]
    by_cases hk0 : k = 0
    · rw [if_pos hk0, if_pos hk0]
    · rw [if_neg hk0, if_neg hk0, List.getElem?_eq_getElem hk]
      have h1 := hw k hk
      have h2 := h0 k (by omega) hk
      rw [U_at hk] at h1 h2
      simp only
      rw [ih l[k].up.toNat (by omega) m (by omega) (by omega), ih l[k].up.toNat (by omega) k (by omega) (by omega)]
noncomputable def PT (l : List DType) (k : Nat) : Option ByteArray := pth l (k + 1) k
theorem PT_zero (l : List DType) : PT l 0 = some nilS := by rw [PT, pth, if_pos rfl]
theorem good_par {l : List DType} (h : goodP l) {k : Nat} (hk0 : 0 < k) (hk : k < l.length) : ∃ q, ∃ hq : q < l.length, q < k ∧ l[k].up = (q : Int) ∧ (l[q].kind = 5 → l[k].name ≠ nilS) ∧ (l[q].kind = 5 → l[k].name.size ≤ 10) := by
  obtain ⟨hi, q, hq, h1, h2, _, _, _, h3⟩ := h.1.2.2.2.1 k hk0 hk
  refine ⟨q, hq, h1, h2, fun g e => ?_, fun g => (h3 (by omega)).1.2.2⟩
  have := (h3 (by omega)).1.2.1
  rw [e] at this
  simp [ByteArray.size] at this
theorem good_up' {l : List DType} (h : goodP l) : ∀ i, i < l.length → U l i < (i : Int) := preL_up ((flat_iff h.1.1).1 h.1).1 (Nat.le_refl _)
theorem PT_rec {l : List DType} (h : goodP l) {k q : Nat} (hk0 : 0 < k) (hk : k < l.length) (hq : q < l.length) (hqk : q < k) (hu : l[k].up = (q : Int)) : PT l k = if l[q].kind = 5 then (PT l q).map (fun p => J p l[k].name) else none := by
  have hw := good_up' h
  have h0 : ∀ i, 0 < i → i < l.length → 0 ≤ U l i := fun i g1 g2 => by
    obtain ⟨q, _, _, g3, _⟩ := good_par h g1 g2
    rw [U_at g2, g3]; omega
  rw [PT, pth, if_neg (by omega), List.getElem?_eq_getElem hk]
  simp only [hu, Int.toNat_natCast, List.getElem?_eq_getElem hq, Option.map_some, Option.getD_some]
  rw [pth_fuel hw h0 q k hqk hq]; rfl
theorem J_size (p q : ByteArray) : (J p q).size ≤ p.size + 1 + q.size := by
  by_cases hp : p = nilS
  · rw [hp, J_nil]; omega
  · by_cases hq : q = nilS
    · rw [hq, J_nil']; omega
    · rw [J_two hp hq, ByteArray.size_append, ByteArray.size_append]
      have : dotS.size = 1 := rfl
      omega
theorem PT_size {l : List DType} (h : goodP l) : ∀ k p, k < l.length → PT l k = some p → p.size ≤ 11 * k := by
  intro k
  induction k using Nat.strongRecOn with
  | _ k ih =>
    intro p hk hp
    by_cases hk0 : k = 0
    · subst hk0; rw [PT_zero] at hp; cases hp; exact Nat.zero_le _
    · obtain ⟨q, hq, hqk, hu, _, hsz⟩ := good_par h (show 0 < k by omega) hk
      rw [PT_rec h (by omega) hk hq hqk hu] at hp
      by_cases h5 : l[q].kind = 5
      · rw [if_pos h5] at hp
        cases hz : PT l q with
        | none => rw [hz] at hp; cases hp
        | some z =>
          rw [hz] at hp
          simp only [Option.map_some, Option.some.injEq] at hp
          have h1 := ih q hqk z hq hz
          have h2 := hsz h5
          have h3 := J_size z l[k].name
          rw [hp] at h3
          omega
      · rw [if_neg h5] at hp; cases hp
def PathPost (o : Option ByteArray) (w : World) (e : Ending) (w' : World) : Prop := e = .returned (.tuple #[.string (o.getD nilS), .bool o.isSome]) ∧ Below w.heap.size w w'
end Go.Proofs.Ytibmhnlmdabliaa
