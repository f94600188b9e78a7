/- PeepholeOf: what it does to instructions, in plain words. -/
import Derived.Test.YtbjilpemckoioaaProgram3
namespace Go.Proofs.Ytbjilpemckoioaa
open Go.RowKit
set_option linter.unusedVariables false
def okPr (l : List DInstr) : Prop := ∀ i (h : i < l.length), instrP l[i].code l[i].kind l[i].no l[i].num l[i].text l[i].to (i : Int) (l.length : Int)
theorem good_okPr {l : List DInstr} (h : goodProg l = true) : okPr l ∧ 1 ≤ l.length ∧ l.length ≤ 60 := by
  simp only [goodProg, Bool.and_eq_true, Bool.not_eq_true', decide_eq_true_eq] at h
  refine ⟨fun i hi => ?_, h.1⟩
  have := h.2
  rw [List.any_eq_false] at this
  have h2 := this (l[i], i) (by rw [← zi_get hi (by simpa using hi)]; exact List.getElem_mem _)
  simpa [instrBad] using h2
def ledB (l : List DInstr) (a : Nat) : Bool := l.any (fun x => x.code == 3 && x.to == (a : Int))
def moveI (a m : Nat) (x : DInstr) : DInstr := if x.code = 3 ∧ (a : Int) < x.to then { x with to := x.to - m } else x
def cutL (l : List DInstr) (a m : Nat) : List DInstr := (l.take a ++ l.drop (a + m)).map (moveI a m)
def at0 (l : List DInstr) (i : Nat) : DInstr := l.getD i default
theorem at0_lt {l : List DInstr} {i : Nat} (h : i < l.length) : at0 l i = l[i] := by simp [at0, h]
theorem at0_ge {l : List DInstr} {i : Nat} (h : l.length ≤ i) : at0 l i = default := by simp [at0, h]
def isFlip (l : List DInstr) (i : Nat) : Bool := (at0 l i).code == 4 && ((at0 l (i + 1)).code == 4 && !ledB l (i + 1))
def isJump (l : List DInstr) (i : Nat) : Bool := (at0 l i).code == 3 && ((at0 l (at0 l i).to.toNat).code == 3 && (at0 l (at0 l i).to.toNat).num == (at0 l i).num)
def isSeek (l : List DInstr) (i : Nat) : Bool := (at0 l i).code == 1 && ((at0 l (i + 1)).code == 2 && ((at0 l (i + 2)).code == 1 && ((at0 l (i + 2)).no == (at0 l i).no && (!ledB l (i + 1) && !ledB l (i + 2)))))
def betterR (l : List DInstr) (i : Nat) : Option (List DInstr) :=
  if isFlip l i = true then some (cutL l i 2)
  else if isJump l i = true then some (l.set i { at0 l i with to := (at0 l (at0 l i).to.toNat).to })
  else if isSeek l i = true then some (cutL l (i + 2) 1)
  else none
theorem led_not {l : List DInstr} {a : Nat} (h : ledB l a = false) : ∀ x ∈ l, x.code = 3 → x.to ≠ (a : Int) := by
  intro x hx hc e
  rw [ledB, List.any_eq_false] at h
  exact h x hx (by simp [hc, e])
theorem cutL_len {l : List DInstr} {a m : Nat} (h : a + m ≤ l.length) : (cutL l a m).length = l.length - m := by
  rw [cutL, List.length_map, List.length_append, List.length_take, List.length_drop]; omega
/-- The old place of an instruction that stays. -/
theorem cutL_at {l : List DInstr} {a m j : Nat} (h : a + m ≤ l.length) (hj : j < l.length - m) : (cutL l a m)[j]'(by rw [cutL_len h]; exact hj) = moveI a m (if j < a then l[j]'(by omega) else l[j + m]'(by omega)) := by
  simp only [cutL, List.getElem_map]
  congr 1
  by_cases hja : j < a
  · rw [if_pos hja, List.getElem_append_left (by rw [List.length_take]; omega), List.getElem_take]
  · rw [if_neg hja, List.getElem_append_right (by rw [List.length_take]; omega), List.getElem_drop]
    congr 1
    rw [List.length_take]; omega
theorem cut_ok {l : List DInstr} {a m : Nat} (h : okPr l) (ha : a + m < l.length) (hm : 1 ≤ m) (hled : ∀ x ∈ l, x.code = 3 → ¬ ((a : Int) < x.to ∧ x.to < (a : Int) + m)) : okPr (cutL l a m) := by
  have hlen := cutL_len (l := l) (a := a) (m := m) (by omega)
  intro j hj
  rw [hlen] at hj
  rw [cutL_at (by omega) hj, hlen]
  have key : ∀ (i : Nat) (hi : i < l.length), ((j < a ∧ i = j) ∨ (a ≤ j ∧ i = j + m)) → instrP (moveI a m l[i]).code (moveI a m l[i]).kind (moveI a m l[i]).no (moveI a m l[i]).num (moveI a m l[i]).text (moveI a m l[i]).to (j : Int) ((l.length - m : Nat) : Int) := by
    intro i hi hij
    have h1 := h i hi
    have h2 := hled l[i] (List.getElem_mem hi)
    generalize l[i] = x at *
    rw [moveI]
    split
    · rename_i hc
      obtain ⟨hc1, hc2⟩ := hc
      have h3 := h2 hc1
      unfold instrP at h1 ⊢
      dsimp only
      obtain ⟨g1, g2⟩ := h1
      refine ⟨⟨fun e => by omega, fun e => by omega⟩, .inr (.inr (.inl ?_))⟩
      rcases g2 with g | g | g | g
      · omega
      · omega
      · refine ⟨hc1, g.2.1, g.2.2.1, by omega, by omega, g.2.2.2.2.2⟩
      · omega
    · rename_i hc
      unfold instrP at h1 ⊢
      obtain ⟨g1, g2⟩ := h1
      refine ⟨by omega, ?_⟩
      rcases g2 with g | g | g | g
      · exact .inl g
      · exact .inr (.inl g)
      · refine .inr (.inr (.inl ⟨g.1, g.2.1, g.2.2.1, ?_, ?_, g.2.2.2.2.2⟩))
        · have : ¬ ((a : Int) < x.to) := fun e => hc ⟨g.1, e⟩
          omega
        · have : ¬ ((a : Int) < x.to) := fun e => hc ⟨g.1, e⟩
          omega
      · exact .inr (.inr (.inr g))
  by_cases hja : j < a
  · simp only [if_pos hja]
    exact key j (by omega) (.inl ⟨hja, rfl⟩)
  · simp only [if_neg hja]
    exact key (j + m) (by omega) (.inr ⟨by omega, rfl⟩)
/-- How far the jumps may still be raised. -/
def sumTo : List DInstr → Nat
  | [] => 0
  | x :: l => (60 - x.to).toNat + sumTo l
theorem sumTo_le : ∀ {l : List DInstr}, (∀ x ∈ l, 0 ≤ x.to) → sumTo l ≤ 60 * l.length := by
  intro l
  induction l with
  | nil => intro _; simp [sumTo]
  | cons x l ih =>
    intro h
    have h1 := ih (fun y hy => h y (by simp [hy]))
    have h2 := h x (by simp)
    rw [sumTo, List.length_cons]; omega
theorem sumTo_set : ∀ {l : List DInstr} {i : Nat} {y : DInstr} (h : i < l.length), l[i].to < y.to → l[i].to < 60 → sumTo (l.set i y) < sumTo l := by
  intro l
  induction l with
  | nil => intro i y h; simp at h
  | cons x l ih =>
    intro i y h h1 h2
    cases i with
    | zero => rw [List.set_cons_zero, sumTo, sumTo]; simp only [List.getElem_cons_zero] at h1 h2; omega
    | succ i =>
      rw [List.set_cons_succ, sumTo, sumTo]
      have := ih (i := i) (y := y) (by simpa using h) (by simpa using h1) (by simpa using h2)
      omega
theorem ok_to {l : List DInstr} (h : okPr l) : ∀ x ∈ l, 0 ≤ x.to := by
  intro x hx
  obtain ⟨i, hi, rfl⟩ := List.getElem_of_mem hx
  have := h i hi
  unfold instrP at this
  omega
def meaP (l : List DInstr) : Nat := l.length * 10000 + sumTo l
theorem code_lt {l : List DInstr} {i : Nat} {c : Int} (h : (at0 l i).code = c) (hc : c ≠ 0) : ∃ hi : i < l.length, l[i].code = c := by
  by_cases hi : i < l.length
  · exact ⟨hi, by rw [at0_lt hi] at h; exact h⟩
  · rw [at0_ge (by omega)] at h
    exact absurd h.symm hc
theorem flip_use {l : List DInstr} {i : Nat} (h : isFlip l i = true) : (∃ h0 : i < l.length, l[i].code = 4) ∧ (∃ h1 : i + 1 < l.length, l[i + 1].code = 4) ∧ ledB l (i + 1) = false := by
  simp only [isFlip, Bool.and_eq_true, beq_iff_eq, Bool.not_eq_true'] at h
  exact ⟨code_lt h.1 (by decide), code_lt h.2.1 (by decide), h.2.2⟩
theorem jump_use {l : List DInstr} {i : Nat} (hok : okPr l) (h : isJump l i = true) : ∃ (h0 : i < l.length) (h1 : l[i].to.toNat < l.length), l[i].code = 3 ∧ l[l[i].to.toNat].code = 3 ∧ l[l[i].to.toNat].num = l[i].num ∧ (i : Int) < l[i].to := by
  simp only [isJump, Bool.and_eq_true, beq_iff_eq] at h
  obtain ⟨h0, h1⟩ := code_lt h.1 (by decide)
  rw [at0_lt h0] at h
  obtain ⟨h2, h3⟩ := code_lt h.2.1 (by decide)
  rw [at0_lt h2] at h
  have := hok i h0
  unfold instrP at this
  exact ⟨h0, h2, h1, h3, h.2.2, by omega⟩
theorem seek_use {l : List DInstr} {i : Nat} (h : isSeek l i = true) : (∃ h0 : i < l.length, l[i].code = 1) ∧ (∃ h1 : i + 1 < l.length, l[i + 1].code = 2) ∧ (∃ h2 : i + 2 < l.length, l[i + 2].code = 1) ∧ ledB l (i + 1) = false ∧ ledB l (i + 2) = false := by
  simp only [isSeek, Bool.and_eq_true, beq_iff_eq, Bool.not_eq_true'] at h
  exact ⟨code_lt h.1 (by decide), code_lt h.2.1 (by decide), code_lt h.2.2.1 (by decide), h.2.2.2.2⟩
theorem code_not_end {l : List DInstr} (h : okPr l) {i : Nat} (hi : i < l.length) (hc : l[i].code ≠ 5) : i + 1 < l.length := by
  have := h i hi
  unfold instrP at this
  omega
theorem cut2_led {l : List DInstr} {i : Nat} (h : ledB l (i + 1) = false) : ∀ x ∈ l, x.code = 3 → ¬ ((i : Int) < x.to ∧ x.to < (i : Int) + (2 : Nat)) := by
  intro x hx hc
  have := led_not h x hx hc
  omega
theorem cut1_led {l : List DInstr} {i : Nat} : ∀ x ∈ l, x.code = 3 → ¬ ((i : Int) < x.to ∧ x.to < (i : Int) + (1 : Nat)) := by
  intro x hx hc
  omega
/-- A step keeps a program good, and lowers a number. -/
theorem better_ok {l l' : List DInstr} {i : Nat} (h : okPr l) (hl : l.length ≤ 60) (hb : betterR l i = some l') : okPr l' ∧ l'.length ≤ l.length ∧ meaP l' < meaP l := by
  have hcut : ∀ a m, a + m < l.length → 1 ≤ m → (∀ x ∈ l, x.code = 3 → ¬ ((a : Int) < x.to ∧ x.to < (a : Int) + m)) → okPr (cutL l a m) ∧ (cutL l a m).length ≤ l.length ∧ meaP (cutL l a m) < meaP l := by
    intro a m h1 h2 h3
    have h4 := cut_ok h h1 h2 h3
    have h5 := cutL_len (l := l) (a := a) (m := m) (by omega)
    have h6 := sumTo_le (ok_to h4)
    refine ⟨h4, by omega, ?_⟩
    unfold meaP
    omega
  rw [betterR] at hb
  split at hb
  · rename_i hf
    cases hb
    obtain ⟨⟨h0, _⟩, ⟨h1, hc⟩, hled⟩ := flip_use hf
    have := code_not_end h h1 (by omega)
    exact hcut i 2 (by omega) (by omega) (cut2_led hled)
  · split at hb
    · rename_i hj
      cases hb
      obtain ⟨h0, h1, hc, hc1, hn, hlt⟩ := jump_use h hj
      have p0 := h i h0
      have p1 := h _ h1
      rw [at0_lt h0, at0_lt h1]
      have hset : ∀ (y : DInstr), y = { l[i] with to := l[l[i].to.toNat].to } → okPr (l.set i y) := by
        intro y hy j hj2
        rw [List.length_set] at hj2 ⊢
        rw [List.getElem_set]
        split
        · rename_i e
          subst e
          subst hy
          dsimp only
          unfold instrP at p0 p1 ⊢
          refine ⟨p0.1, .inr (.inr (.inl ⟨hc, by omega, by omega, by omega, by omega, ?_⟩))⟩
          rcases p0.2 with g | g | g | g
          · omega
          · omega
          · exact g.2.2.2.2.2
          · omega
        · exact h j hj2
      refine ⟨hset _ rfl, by rw [List.length_set]; exact Nat.le_refl _, ?_⟩
      unfold instrP at p0 p1
      have := sumTo_set (y := { l[i] with to := l[l[i].to.toNat].to }) h0 (by dsimp only; omega) (by omega)
      unfold meaP
      rw [List.length_set]
      omega
    · split at hb
      · rename_i hs
        cases hb
        obtain ⟨_, ⟨h1, hc1⟩, ⟨h2, hc2⟩, _⟩ := seek_use hs
        have := code_not_end h h2 (by omega)
        exact hcut (i + 2) 1 (by omega) (by omega) cut1_led
      · cases hb
/-- The rounds of the loop: so many of them, from instructions and a place to the end's. -/
inductive Ph : Nat → List DInstr → Nat → List DInstr → Prop
  | done (l : List DInstr) (i : Nat) (h : l.length ≤ i) : Ph 0 l i l
  | next (n : Nat) (l : List DInstr) (i : Nat) (r : List DInstr) (h : i < l.length) (hb : betterR l i = none) (hr : Ph n l (i + 1) r) : Ph (n + 1) l i r
  | step (n : Nat) (l : List DInstr) (i : Nat) (l' r : List DInstr) (h : i < l.length) (hb : betterR l i = some l') (hr : Ph n l' 0 r) : Ph (n + 1) l i r
theorem Ph.end {n : Nat} {l r : List DInstr} {i : Nat} (h : Ph n l i r) (hi : l.length ≤ i) : r = l := by
  cases h with
  | done => rfl
  | next _ _ _ _ h => omega
  | step _ _ _ _ _ h => omega
theorem Ph.none {n : Nat} {l r : List DInstr} {i : Nat} (h : Ph n l i r) (hi : i < l.length) (hb : betterR l i = none) : ∃ m, n = m + 1 ∧ Ph m l (i + 1) r := by
  cases h with
  | done _ _ h => omega
  | next n _ _ _ _ _ h => exact ⟨n, rfl, h⟩
  | step _ _ _ _ _ _ hb2 => rw [hb] at hb2; cases hb2
theorem Ph.some {n : Nat} {l l' r : List DInstr} {i : Nat} (h : Ph n l i r) (hi : i < l.length) (hb : betterR l i = some l') : ∃ m, n = m + 1 ∧ Ph m l' 0 r := by
  cases h with
  | done _ _ h => omega
  | next _ _ _ _ _ hb2 => rw [hb] at hb2; cases hb2
  | step n _ _ _ _ _ hb2 h => rw [hb] at hb2; cases hb2; exact ⟨n, rfl, h⟩
theorem ph_ex : ∀ (N : Nat) (l : List DInstr) (i : Nat), okPr l → l.length ≤ 60 → meaP l * 100 + (100 - i) ≤ N → ∃ n r, Ph n l i r ∧ r.length ≤ 60 := by
  intro N
  induction N with
  | zero =>
    intro l i _ hl h
    exact ⟨0, l, .done l i (by unfold meaP at h; omega), hl⟩
  | succ N ih =>
    intro l i hok hl h
    by_cases hi : i < l.length
    · cases hb : betterR l i with
      | none =>
        obtain ⟨n, r, h1, h2⟩ := ih l (i + 1) hok hl (by omega)
        exact ⟨n + 1, r, .next n l i r hi hb h1, h2⟩
      | some l' =>
        obtain ⟨h3, h4, h5⟩ := better_ok hok hl hb
        obtain ⟨n, r, h1, h2⟩ := ih l' 0 h3 (by omega) (by omega)
        exact ⟨n + 1, r, .step n l i l' r hi hb h1, h2⟩
    · exact ⟨0, l, .done l i (by omega), hl⟩
/-- What PeepholeOf tells of instructions. -/
def phP (l : List DInstr) (b : Bool) (r : List DInstr) : Prop := b = goodProg l ∧ (b = false → r = []) ∧ (b = true → ∃ n, Ph n l 0 r)
theorem phP_ex (l : List DInstr) : ∃ b r, phP l b r ∧ r.length ≤ 60 := by
  cases hg : goodProg l with
  | false => exact ⟨false, [], ⟨hg.symm, fun _ => rfl, fun h => by cases h⟩, by simp⟩
  | true =>
    obtain ⟨h1, h2, h3⟩ := good_okPr hg
    obtain ⟨n, r, h4, h5⟩ := ph_ex _ l 0 h1 h3 (Nat.le_refl _)
    exact ⟨true, r, ⟨hg.symm, (fun h => by cases h), fun _ => ⟨n, h4⟩⟩, h5⟩
end Go.Proofs.Ytbjilpemckoioaa
