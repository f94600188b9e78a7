/- NosOf: the numbers that a filter names, in plain words. -/
import Derived.Test.YtbjilpemckoioaaGood
import Derived.Test.YtbjilpemckoioaaReads
import Derived.Lib.SlicesCompact
namespace Go.Proofs.Ytbjilpemckoioaa
open Go.RowKit
set_option linter.unusedVariables false
/-- The numbers up to n that a want names, rising. -/
def nosTo (l : List DWant) (n : Nat) : List Int := ((List.range n).map (fun i : Nat => (i : Int) + 1)).filter (fun x => l.any (fun w => w.no == x))
def nosB (l : List DWant) : Bool := goodFilter l
def nosR (l : List DWant) : List Int := if goodFilter l = true then nosTo l 30 else []
theorem nosTo_zero (l : List DWant) : nosTo l 0 = [] := rfl
theorem nosTo_succ (l : List DWant) (n : Nat) : nosTo l (n + 1) = if l.any (fun w => w.no == (n : Int) + 1) = true then nosTo l n ++ [(n : Int) + 1] else nosTo l n := by
  rw [nosTo, List.range_succ, List.map_append, List.filter_append]
  by_cases h : l.any (fun w => w.no == (n : Int) + 1) = true
  · rw [if_pos h, nosTo]; simp [h]
  · rw [if_neg h, nosTo]; simp [h]
theorem mem_nosTo {l : List DWant} {n : Nat} {x : Int} : x ∈ nosTo l n ↔ (1 ≤ x ∧ x ≤ n) ∧ ∃ w ∈ l, w.no = x := by
  simp only [nosTo, List.mem_filter, List.mem_map, List.mem_range, List.any_eq_true, beq_iff_eq]
  constructor
  · rintro ⟨⟨i, hi, rfl⟩, w, hw, e⟩
    exact ⟨⟨by omega, by omega⟩, w, hw, e⟩
  · rintro ⟨⟨h1, h2⟩, w, hw, e⟩
    exact ⟨⟨(x - 1).toNat, by omega, by omega⟩, w, hw, e⟩
theorem nosTo_len (l : List DWant) (n : Nat) : (nosTo l n).length ≤ n := by
  have := List.length_filter_le (fun x => l.any (fun w => w.no == x)) ((List.range n).map (fun i : Nat => (i : Int) + 1))
  rw [List.length_map, List.length_range] at this
  exact this
theorem nosR_len (l : List DWant) : (nosR l).length ≤ 1000000 := by
  rw [nosR]; split
  · have := nosTo_len l 30; omega
  · simp
theorem nosTo_rise (l : List DWant) (n : Nat) : (nosTo l n).Pairwise (· < ·) := by
  rw [nosTo]
  refine List.Pairwise.filter _ ?_
  rw [List.pairwise_map]
  refine List.Pairwise.imp ?_ List.pairwise_lt_range
  intro a b h; omega
/-- What the inner loop holds behind j wants. -/
def nosIn (l : List DWant) (n j : Nat) : List Int := if (l.take j).any (fun w => w.no == (n : Int) + 1) = true then nosTo l n ++ [(n : Int) + 1] else nosTo l n
theorem nosIn_zero (l : List DWant) (n : Nat) : nosIn l n 0 = nosTo l n := by simp [nosIn]
theorem nosIn_end (l : List DWant) (n : Nat) : nosIn l n l.length = nosTo l (n + 1) := by rw [nosIn, List.take_length, nosTo_succ]
theorem nosIn_has (l : List DWant) (n j : Nat) : hasB (nosIn l n j) ((n : Int) + 1) = (l.take j).any (fun w => w.no == (n : Int) + 1) := by
  rw [nosIn]
  have h0 : hasB (nosTo l n) ((n : Int) + 1) = false := by
    rw [hasB, List.any_eq_false]
    intro x hx
    have := (mem_nosTo.1 hx).1
    simp [eqN]; omega
  split
  · rename_i h
    rw [h, hasB, List.any_append]
    simp [eqN]
  · rename_i h
    rw [h0]; simp at h ⊢; exact h
theorem nosIn_skip {l : List DWant} {n j : Nat} (hj : j < l.length) (h : l[j].no ≠ (n : Int) + 1) : nosIn l n (j + 1) = nosIn l n j := by
  rw [nosIn, nosIn, List.take_succ_eq_append_getElem hj, List.any_append]
  simp [h]
theorem nosIn_old {l : List DWant} {n j : Nat} (hj : j < l.length) (h : hasB (nosIn l n j) ((n : Int) + 1) = true) : nosIn l n (j + 1) = nosIn l n j := by
  rw [nosIn_has] at h
  rw [nosIn, nosIn, List.take_succ_eq_append_getElem hj, List.any_append, h]
  simp
theorem nosIn_new {l : List DWant} {n j : Nat} (hj : j < l.length) (h : l[j].no = (n : Int) + 1) (h2 : hasB (nosIn l n j) ((n : Int) + 1) = false) : nosIn l n (j + 1) = nosIn l n j ++ [(n : Int) + 1] := by
  rw [nosIn_has] at h2
  rw [nosIn, nosIn, List.take_succ_eq_append_getElem hj, List.any_append, h2]
  simp [h]
theorem nosIn_len (l : List DWant) (n j : Nat) (hn : n ≤ 30) : (nosIn l n j).length ≤ 31 := by
  have := nosTo_len l n
  rw [nosIn]; split
  · rw [List.length_append, List.length_singleton]; omega
  · omega
/-- The numbers as they stand in the wants. -/
def nosOf (l : List DWant) : List Int := (l.filter (fun w => decide (0 < w.no))).map (·.no)
theorem nosOf_pos {l : List DWant} {j : Nat} (hj : j < l.length) (h : 0 < l[j].no) : nosOf (l.take (j + 1)) = nosOf (l.take j) ++ [l[j].no] := by
  rw [List.take_succ_eq_append_getElem hj, nosOf, List.filter_append, List.map_append]
  simp [nosOf, h]
theorem nosOf_neg {l : List DWant} {j : Nat} (hj : j < l.length) (h : ¬ 0 < l[j].no) : nosOf (l.take (j + 1)) = nosOf (l.take j) := by
  rw [List.take_succ_eq_append_getElem hj, nosOf, List.filter_append, List.map_append]
  simp [nosOf, h]
theorem nosOf_len (l : List DWant) : (nosOf l).length ≤ l.length := by
  rw [nosOf, List.length_map]; exact List.length_filter_le _ _
theorem mem_nosOf {l : List DWant} {x : Int} : x ∈ nosOf l ↔ 0 < x ∧ ∃ w ∈ l, w.no = x := by
  simp only [nosOf, List.mem_map, List.mem_filter, decide_eq_true_eq]
  constructor
  · rintro ⟨w, ⟨h1, h2⟩, rfl⟩; exact ⟨h2, w, h1, rfl⟩
  · rintro ⟨h1, w, h2, rfl⟩; exact ⟨w, ⟨h2, h1⟩, rfl⟩
/-- Two rising lists of the same numbers are one. -/
theorem rise_uniq : ∀ {a b : List Int}, a.Pairwise (· < ·) → b.Pairwise (· < ·) → (∀ x, x ∈ a ↔ x ∈ b) → a = b := by
  intro a
  induction a with
  | nil =>
    intro b _ _ h
    cases b with
    | nil => rfl
    | cons y b => exact absurd ((h y).2 (by simp)) (by simp)
  | cons x a ih =>
    intro b ha hb h
    cases b with
    | nil => exact absurd ((h x).1 (by simp)) (by simp)
    | cons y b =>
      rw [List.pairwise_cons] at ha hb
      have hxy : x = y := by
        rcases List.mem_cons.1 ((h x).1 (by simp)) with e | e
        · exact e
        · rcases List.mem_cons.1 ((h y).2 (by simp)) with e2 | e2
          · exact e2.symm
          · have h1 := hb.1 x e
            have h2 := ha.1 y e2
            omega
      subst hxy
      congr 1
      refine ih ha.2 hb.2 (fun z => ?_)
      constructor
      · intro hz
        rcases List.mem_cons.1 ((h z).1 (by simp [hz])) with e | e
        · have := ha.1 z hz; omega
        · exact e
      · intro hz
        rcases List.mem_cons.1 ((h z).2 (by simp [hz])) with e | e
        · have := hb.1 z hz; omega
        · exact e
theorem getZ {zs : List Int} {j : Nat} (h : j < zs.length) : zs.toArray[j]! = zs[j] := by
  rw [getElem!_pos _ _ (by simpa using h)]; simp
/-- What is left of a sorted list where each number stays once. -/
theorem compact_upto {zs : List Int} (hs : zs.Pairwise (· ≤ ·)) : ∀ m, m ≤ zs.length → (Lib.compactUpTo zs.toArray m).Pairwise (· < ·) ∧ (∀ x, x ∈ Lib.compactUpTo zs.toArray m ↔ x ∈ zs.take m) := by
  intro m
  induction m with
  | zero => intro _; simp [Lib.compactUpTo]
  | succ m ih =>
    intro hm
    obtain ⟨h1, h2⟩ := ih (by omega)
    have hml : m < zs.length := by omega
    rw [Lib.compactUpTo_succ, List.take_succ_eq_append_getElem hml, getZ hml]
    cases hk : Lib.keeps zs.toArray m with
    | false =>
      have hk2 : ¬ (m = 0 ∨ zs.toArray[m]! ≠ zs.toArray[m - 1]!) := of_decide_eq_false hk
      have hm0 : m ≠ 0 := fun e => hk2 (.inl e)
      have he : zs[m] = zs[m - 1]'(by omega) := by
        have : zs.toArray[m]! = zs.toArray[m - 1]! := Classical.byContradiction fun e => hk2 (.inr e)
        rwa [getZ hml, getZ (show m - 1 < zs.length by omega)] at this
      simp only [Bool.false_eq_true, if_false, List.append_nil]
      refine ⟨h1, fun x => ?_⟩
      rw [h2, List.mem_append, List.mem_singleton]
      constructor
      · exact .inl
      · rintro (h | h)
        · exact h
        · subst h
          rw [he]
          exact List.mem_take_iff_getElem.2 ⟨m - 1, by omega, rfl⟩
    | true =>
      have hk2 : m = 0 ∨ zs.toArray[m]! ≠ zs.toArray[m - 1]! := of_decide_eq_true hk
      simp only [if_true]
      refine ⟨?_, fun x => by rw [List.mem_append, List.mem_append, h2]⟩
      rw [List.pairwise_append]
      refine ⟨h1, List.pairwise_singleton _ _, fun a ha b hb => ?_⟩
      rw [List.mem_singleton] at hb
      subst hb
      rw [h2] at ha
      obtain ⟨i, hi, rfl⟩ := List.mem_take_iff_getElem.1 ha
      have hi2 : i < m := by omega
      rcases hk2 with h0 | hne
      · omega
      · rw [getZ hml, getZ (show m - 1 < zs.length by omega)] at hne
        rw [List.pairwise_iff_getElem] at hs
        have h3 := hs (m - 1) m (by omega) hml (by omega)
        have h4 : zs[i] ≤ zs[m - 1]'(by omega) := by
          by_cases e : i = m - 1
          · subst e; exact Int.le_refl _
          · exact hs i (m - 1) (by omega) (by omega) (by omega)
        omega
theorem compact_sorted {zs : List Int} (hs : zs.Pairwise (· ≤ ·)) : (Lib.compact zs).Pairwise (· < ·) ∧ ∀ x, x ∈ Lib.compact zs ↔ x ∈ zs := by
  have := compact_upto hs zs.length (Nat.le_refl _)
  rw [List.take_length] at this
  exact this
theorem nos_same {l : List DWant} (h : goodFilter l = true) : Lib.compact ((nosOf l).mergeSort fun x y => decide (x ≤ y)) = nosTo l 30 := by
  have hs : ((nosOf l).mergeSort fun x y => decide (x ≤ y)).Pairwise (· ≤ ·) := by
    have := List.pairwise_mergeSort (le := fun x y : Int => decide (x ≤ y)) (by intro a b c; simp; omega) (by intro a b; simp; omega) (nosOf l)
    exact this.imp (by intro a b hab; simpa using hab)
  obtain ⟨h1, h2⟩ := compact_sorted hs
  refine rise_uniq h1 (nosTo_rise l 30) (fun x => ?_)
  rw [h2, List.mem_mergeSort, mem_nosOf, mem_nosTo]
  constructor
  · rintro ⟨h3, w, hw, rfl⟩
    refine ⟨⟨by omega, ?_⟩, w, hw, rfl⟩
    obtain ⟨i, hi, rfl⟩ := List.getElem_of_mem hw
    have := good_all h i hi
    unfold wantP at this
    omega
  · rintro ⟨⟨h3, _⟩, w, hw, rfl⟩
    exact ⟨by omega, w, hw, rfl⟩
theorem compact_nil : Lib.compact ([] : List Int) = [] := rfl
end Go.Proofs.Ytbjilpemckoioaa
