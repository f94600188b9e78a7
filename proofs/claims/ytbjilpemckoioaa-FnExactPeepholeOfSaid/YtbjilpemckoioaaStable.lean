/- A sort that keeps the order of equals: lists, arrays and what the library's merges do to them, in plain words. -/
import Derived.Sort.Defs
import Derived.Sort.Lot0
import Derived.Sort.LotA
import Derived.Sort.WalkA
namespace Go.Proofs.Ytbjilpemckoioaa
open Go.Sort
set_option linter.unusedVariables false
section
variable {α : Type} (kf : α → Int)
/-- The same elements, and those of one key in the same order. -/
def SP (a b : List α) : Prop := ∀ k : Int, a.filter (fun x => kf x == k) = b.filter (fun x => kf x == k)
theorem SP.refl (a : List α) : SP kf a a := fun _ => rfl
variable {kf}
theorem SP.symm {a b : List α} (h : SP kf a b) : SP kf b a := fun k => (h k).symm
theorem SP.trans {a b c : List α} (h : SP kf a b) (h2 : SP kf b c) : SP kf a c := fun k => (h k).trans (h2 k)
theorem SP.app {a b c d : List α} (h : SP kf a b) (h2 : SP kf c d) : SP kf (a ++ c) (b ++ d) := fun k => by
  rw [List.filter_append, List.filter_append, h k, h2 k]
theorem SP.swap {a b : List α} (h : ∀ x ∈ a, ∀ y ∈ b, kf x ≠ kf y) : SP kf (a ++ b) (b ++ a) := fun k => by
  rw [List.filter_append, List.filter_append]
  by_cases hb : b.filter (fun x => kf x == k) = []
  · rw [hb]; simp
  · have ha : a.filter (fun x => kf x == k) = [] := by
      rw [List.filter_eq_nil_iff]
      intro x hx hxk
      apply hb
      rw [List.filter_eq_nil_iff]
      intro y hy hyk
      exact h x hx y hy (by rw [beq_iff_eq.1 hxk, beq_iff_eq.1 hyk])
    rw [ha]; simp
theorem SP.mem {a b : List α} (h : SP kf a b) {x : α} : x ∈ a ↔ x ∈ b := by
  have e := h (kf x)
  constructor
  · intro hx
    have : x ∈ a.filter (fun y => kf y == kf x) := List.mem_filter.2 ⟨hx, by simp⟩
    rw [e] at this
    exact (List.mem_filter.1 this).1
  · intro hx
    have : x ∈ b.filter (fun y => kf y == kf x) := List.mem_filter.2 ⟨hx, by simp⟩
    rw [← e] at this
    exact (List.mem_filter.1 this).1
def Rise (kf : α → Int) (l : List α) : Prop := l.Pairwise (fun x y => kf x ≤ kf y)
theorem SP.uniq : ∀ {a b : List α}, Rise kf a → Rise kf b → SP kf a b → a = b := by
  intro a
  induction a with
  | nil =>
    intro b _ _ h
    cases b with
    | nil => rfl
    | cons y b => exact absurd (h.mem (x := y) |>.2 (by simp)) (by simp)
  | cons x a ih =>
    intro b ha hb h
    cases b with
    | nil => exact absurd (h.mem (x := x) |>.1 (by simp)) (by simp)
    | cons y b =>
      have ha' := List.pairwise_cons.1 ha
      have hb' := List.pairwise_cons.1 hb
      have hxy : kf x = kf y := by
        have h1 : kf y ≤ kf x := by
          rcases List.mem_cons.1 (h.mem (x := x) |>.1 (by simp)) with e | e
          · rw [e]; exact Int.le_refl _
          · exact hb'.1 _ e
        have h2 : kf x ≤ kf y := by
          rcases List.mem_cons.1 (h.mem (x := y) |>.2 (by simp)) with e | e
          · rw [e]; exact Int.le_refl _
          · exact ha'.1 _ e
        omega
      have h0 := h (kf x)
      rw [List.filter_cons_of_pos (by simp), List.filter_cons_of_pos (by simp [hxy])] at h0
      injection h0 with e1 e2
      subst e1
      rw [ih ha'.2 hb'.2 fun k => ?_]
      by_cases hk : kf x = k
      · subst hk; exact e2
      · have h1 := h k
        rw [List.filter_cons_of_neg (by simpa using hk), List.filter_cons_of_neg (by simpa using hk)] at h1
        exact h1
/-- An element put behind all that are not above it. -/
def insS (kf : α → Int) (l : List α) (x : α) : List α := l.takeWhile (fun y => decide (kf y ≤ kf x)) ++ ([x] ++ l.dropWhile (fun y => decide (kf y ≤ kf x)))
theorem drop_above {l : List α} (hl : Rise kf l) (x : α) : ∀ y ∈ l.dropWhile (fun y => decide (kf y ≤ kf x)), kf x < kf y := by
  induction l with
  | nil => intro y hy; simp at hy
  | cons z l ih =>
    have h := List.pairwise_cons.1 hl
    by_cases hz : kf z ≤ kf x
    · rw [List.dropWhile_cons_of_pos (by simpa using hz)]; exact ih h.2
    · rw [List.dropWhile_cons_of_neg (by simpa using hz)]
      intro y hy
      rcases List.mem_cons.1 hy with e | e
      · rw [e]; omega
      · have := h.1 y e; omega
theorem take_below {l : List α} (x : α) : ∀ y ∈ l.takeWhile (fun y => decide (kf y ≤ kf x)), kf y ≤ kf x := by
  induction l with
  | nil => intro y hy; simp at hy
  | cons z l ih =>
    by_cases hz : kf z ≤ kf x
    · rw [List.takeWhile_cons_of_pos (by simpa using hz)]
      intro y hy
      rcases List.mem_cons.1 hy with e | e
      · rw [e]; exact hz
      · exact ih y e
    · rw [List.takeWhile_cons_of_neg (by simpa using hz)]
      intro y hy; simp at hy
theorem insS_rise {l : List α} (hl : Rise kf l) (x : α) : Rise kf (insS kf l x) := by
  have h1 := drop_above hl x
  have h2 := take_below (kf := kf) (l := l) x
  have h3 := List.takeWhile_append_dropWhile (p := fun y => decide (kf y ≤ kf x)) (l := l)
  unfold Rise at hl
  rw [← h3, List.pairwise_append] at hl
  unfold insS Rise
  rw [List.pairwise_append, List.pairwise_append]
  refine ⟨hl.1, ⟨List.pairwise_singleton _ _, hl.2.1, fun a ha b hb => ?_⟩, fun a ha b hb => ?_⟩
  · rw [List.mem_singleton.1 ha]; have := h1 b hb; omega
  · rcases List.mem_append.1 hb with hb | hb
    · rw [List.mem_singleton.1 hb]; exact h2 a ha
    · exact hl.2.2 a ha b hb
theorem insS_sp {l : List α} (hl : Rise kf l) (x : α) : SP kf (l ++ [x]) (insS kf l x) := by
  have h1 := drop_above hl x
  have h3 := List.takeWhile_append_dropWhile (p := fun y => decide (kf y ≤ kf x)) (l := l)
  have h4 : SP kf ((l.takeWhile (fun y => decide (kf y ≤ kf x)) ++ l.dropWhile (fun y => decide (kf y ≤ kf x))) ++ [x]) (insS kf l x) := by
    rw [List.append_assoc]
    exact (SP.refl kf _).app (SP.swap fun a ha b hb => by rw [List.mem_singleton.1 hb]; have := h1 a ha; omega)
  rw [h3] at h4
  exact h4
theorem insS_len (l : List α) (x : α) : (insS kf l x).length = l.length + 1 := by
  have h3 := congrArg List.length (List.takeWhile_append_dropWhile (p := fun y => decide (kf y ≤ kf x)) (l := l))
  rw [List.length_append] at h3
  unfold insS
  rw [List.length_append, List.length_append, List.length_singleton]; omega
/-- The list so far, sorted. -/
def sortS (kf : α → Int) (l : List α) : List α := l.foldl (insS kf) []
theorem sortS_snoc (l : List α) (x : α) : sortS kf (l ++ [x]) = insS kf (sortS kf l) x := by rw [sortS, List.foldl_append]; rfl
theorem snoc_ind {P : List α → Prop} (h0 : P []) (h1 : ∀ l x, P l → P (l ++ [x])) : ∀ l, P l := by
  intro l
  rw [← List.reverse_reverse l]
  induction l.reverse with
  | nil => exact h0
  | cons x l ih => rw [List.reverse_cons]; exact h1 _ x ih
theorem sortS_ok : ∀ l : List α, Rise kf (sortS kf l) ∧ SP kf l (sortS kf l) ∧ (sortS kf l).length = l.length := by
  refine snoc_ind ⟨List.Pairwise.nil, SP.refl kf _, rfl⟩ fun l x h => ?_
  rw [sortS_snoc]
  refine ⟨insS_rise h.1 x, (h.2.1.app (SP.refl kf _)).trans (insS_sp h.1 x), ?_⟩
  rw [insS_len, h.2.2, List.length_append, List.length_singleton]
theorem sortS_eq {l r : List α} (h1 : Rise kf r) (h2 : SP kf l r) : r = sortS kf l :=
  SP.uniq h1 (sortS_ok l).1 (h2.symm.trans (sortS_ok l).2.1)

end

/-! ### Arrays -/
section
variable {α : Type} [Inhabited α] {kf : α → Int}
def seg (d : Array α) (a n : Nat) : List α := (List.range' a n).map (fun i => d[i]!)
theorem seg_len (d : Array α) (a n : Nat) : (seg d a n).length = n := by simp [seg]
theorem seg_app (d : Array α) (a m n : Nat) : seg d a (m + n) = seg d a m ++ seg d (a + m) n := by
  rw [seg, seg, seg, ← List.map_append, List.range'_append_1]
theorem seg_ext {d d' : Array α} {a a' n : Nat} (h : ∀ t, t < n → d'[a' + t]! = d[a + t]!) : seg d' a' n = seg d a n := by
  refine List.ext_getElem (by simp [seg]) fun t h1 h2 => ?_
  rw [seg_len] at h1
  simp only [seg, List.getElem_map, List.getElem_range', Nat.one_mul]
  exact h t h1
theorem mem_seg {d : Array α} {a n : Nat} {x : α} : x ∈ seg d a n ↔ ∃ t, a ≤ t ∧ t < a + n ∧ d[t]! = x := by
  simp only [seg, List.mem_map, List.mem_range'_1]
  constructor
  · rintro ⟨t, ⟨h1, h2⟩, h3⟩; exact ⟨t, h1, h2, h3⟩
  · rintro ⟨t, h1, h2, h3⟩; exact ⟨t, ⟨h1, h2⟩, h3⟩
theorem seg_all (d : Array α) : seg d 0 d.size = d.toList := by
  refine List.ext_getElem (by simp [seg]) fun t h1 h2 => ?_
  rw [seg_len] at h1
  simp [seg, h1]
def Srt (kf : α → Int) (a b : Nat) (d : Array α) : Prop := ∀ i j, a ≤ i → i < j → j < b → kf d[i]! ≤ kf d[j]!
theorem Srt.le {a b : Nat} {d : Array α} (h : Srt kf a b d) {i j : Nat} (h1 : a ≤ i) (h2 : i ≤ j) (h3 : j < b) : kf d[i]! ≤ kf d[j]! := by
  rcases Nat.lt_or_ge i j with h4 | h4
  · exact h i j h1 h4 h3
  · rw [show i = j by omega]; exact Int.le_refl _
theorem Srt.rise {d : Array α} (h : Srt kf 0 d.size d) : Rise kf d.toList := by
  unfold Rise
  rw [List.pairwise_iff_getElem]
  intro i j hi hj hij
  have := h i j (Nat.zero_le _) hij (by simpa using hj)
  rw [Array.length_toList] at hi hj
  simpa [hi, hj] using this
theorem Srt.part {a b a' b' : Nat} {d : Array α} (h : Srt kf a b d) (h1 : a ≤ a') (h2 : b' ≤ b) : Srt kf a' b' d := fun i j g1 g2 g3 => h i j (by omega) g2 (by omega)
theorem Srt.one {a b : Nat} {d : Array α} (h : b ≤ a + 1) : Srt kf a b d := fun i j g1 g2 g3 => by omega
/-- What lies from a on, before b, was turned; equals keep their order. -/
def Turn (kf : α → Int) (a b : Nat) (d d' : Array α) : Prop := d'.size = d.size ∧ SP kf (seg d a (b - a)) (seg d' a (b - a)) ∧ ∀ t, t < a ∨ b ≤ t → d'[t]! = d[t]!
theorem Turn.refl (a b : Nat) (d : Array α) : Turn kf a b d d := ⟨rfl, SP.refl kf _, fun _ _ => rfl⟩
theorem Turn.trans {a b : Nat} {d d' d2 : Array α} (h : Turn kf a b d d') (h2 : Turn kf a b d' d2) : Turn kf a b d d2 :=
  ⟨h2.1.trans h.1, h.2.1.trans h2.2.1, fun t ht => (h2.2.2 t ht).trans (h.2.2 t ht)⟩
theorem Turn.widen {a b a' b' : Nat} {d d' : Array α} (h : Turn kf a b d d') (h1 : a' ≤ a) (hab : a ≤ b) (h2 : b ≤ b') : Turn kf a' b' d d' := by
  refine ⟨h.1, ?_, fun t ht => h.2.2 t (by omega)⟩
  have e : b' - a' = (a - a') + ((b - a) + (b' - b)) := by omega
  rw [e, seg_app, seg_app, seg_app d', seg_app d']
  rw [show a' + (a - a') = a by omega, show a + (b - a) = b by omega]
  rw [seg_ext (d := d) (d' := d') (a := a') (a' := a') (fun t ht => h.2.2 _ (by omega)), seg_ext (d := d) (d' := d') (a := b) (a' := b) (fun t ht => h.2.2 _ (by omega))]
  exact (SP.refl kf _).app (h.2.1.app (SP.refl kf _))
theorem Turn.mem {a b : Nat} {d d' : Array α} (h : Turn kf a b d d') {t : Nat} (h1 : a ≤ t) (h2 : t < b) : ∃ s, a ≤ s ∧ s < b ∧ d[s]! = d'[t]! := by
  have h3 : d'[t]! ∈ seg d' a (b - a) := mem_seg.2 ⟨t, h1, by omega, rfl⟩
  obtain ⟨s, g1, g2, g3⟩ := mem_seg.1 (h.2.1.mem.2 h3)
  exact ⟨s, g1, by omega, g3⟩
theorem swp_at (d : Array α) {i j : Nat} (hi : i < d.size) (hj : j < d.size) (k : Nat) : (swp d i j)[k]! = if k = j then d[i]! else if k = i then d[j]! else d[k]! := swp_get d hi hj k
theorem turn_swp {d : Array α} {i : Nat} (hi : i + 1 < d.size) (hne : kf d[i]! ≠ kf d[i + 1]!) : Turn kf i (i + 2) d (swp d i (i + 1)) := by
  have e := swp_at d (i := i) (j := i + 1) (by omega) hi
  refine ⟨size_swp d i (i + 1), ?_, fun t ht => by rw [e, if_neg (by omega), if_neg (by omega)]⟩
  have e1 : ∀ D : Array α, seg D i 2 = [D[i]!] ++ [D[i + 1]!] := fun D => by simp [seg, List.range']
  rw [show i + 2 - i = 2 by omega, e1, e1, e, e, if_neg (by omega), if_pos rfl, if_pos rfl]
  exact SP.swap fun x hx y hy => by rw [List.mem_singleton.1 hx, List.mem_singleton.1 hy]; exact hne
theorem swp_comm (d : Array α) {i j : Nat} (hi : i < d.size) (hj : j < d.size) : swp d i j = swp d j i := by
  refine Array.ext (by rw [size_swp, size_swp]) fun t h1 h2 => ?_
  have a := swp_at d hi hj t
  have b := swp_at d hj hi t
  rw [getElem!_pos (swp d i j) t h1] at a
  rw [getElem!_pos (swp d j i) t h2] at b
  rw [a, b]
  by_cases e1 : t = j
  · by_cases e2 : t = i
    · rw [if_pos e1, if_pos e2, ← e1, ← e2]
    · rw [if_pos e1, if_neg e2, if_pos e1]
  · by_cases e2 : t = i
    · rw [if_neg e1, if_pos e2, if_pos e2]
    · rw [if_neg e1, if_neg e2, if_neg e2, if_neg e1]
theorem turn_swp' {d : Array α} {i : Nat} (hi : i + 1 < d.size) (hne : kf d[i]! ≠ kf d[i + 1]!) : Turn kf i (i + 2) d (swp d (i + 1) i) := by
  rw [swp_comm d hi (by omega)]; exact turn_swp hi hne

/-! ### The library's insertion sort -/
variable {lt : α → α → Bool}
theorem insInner_turn (hlt : ∀ x y, lt x y = decide (kf x < kf y)) (a : Nat) : ∀ (j : Nat) (d : Array α), j < d.size → Turn kf a (j + 1) d (insInner lt a j d) := by
  intro j
  induction j with
  | zero => intro d _; rw [insInner]; exact Turn.refl _ _ _
  | succ j ih =>
    intro d hj
    rw [insInner]
    split
    · rename_i h
      simp only [Bool.and_eq_true, decide_eq_true_eq, hlt] at h
      have h1 := turn_swp' (kf := kf) (d := d) (i := j) hj (by have := h.2; omega)
      have h2 := ih (swp d (j + 1) j) (by rw [size_swp]; omega)
      exact (h1.widen (a' := a) (b' := j + 1 + 1) (by omega) (by omega) (by omega)).trans (h2.widen (Nat.le_refl _) (by omega) (by omega))
    · exact Turn.refl _ _ _
theorem insOuter_turn (hlt : ∀ x y, lt x y = decide (kf x < kf y)) (a b : Nat) : ∀ (n i : Nat) (d : Array α), b - i ≤ n → a ≤ i → b ≤ d.size → Turn kf a b d (insOuter lt a b i d) := by
  intro n
  induction n with
  | zero => intro i d h _ _; rw [insOuter_stop lt a b i d (by omega)]; exact Turn.refl _ _ _
  | succ n ih =>
    intro i d h ha hb
    by_cases hib : i < b
    · rw [insOuter_go lt a b i d hib]
      have h1 := insInner_turn hlt a i d (by omega)
      have h2 := ih (i + 1) (insInner lt a i d) (by omega) (by omega) (by rw [h1.1]; exact hb)
      exact (h1.widen (Nat.le_refl _) (by omega) (by omega)).trans h2
    · rw [insOuter_stop lt a b i d hib]; exact Turn.refl _ _ _
theorem ins_turn (hlt : ∀ x y, lt x y = decide (kf x < kf y)) {a b : Nat} {d : Array α} (hb : b ≤ d.size) : Turn kf a b d (insertionSort lt d a b) :=
  insOuter_turn hlt a b (b - (a + 1)) (a + 1) d (Nat.le_refl _) (by omega) hb
omit [Inhabited α] in
theorem swo_of (hlt : ∀ x y, lt x y = decide (kf x < kf y)) : SWO lt := by
  refine ⟨fun x => by rw [hlt]; simp, fun x y z h1 h2 => ?_, fun x y z h1 h2 => ?_⟩
  all_goals (simp only [hlt, decide_eq_true_eq, decide_eq_false_iff_not] at *; omega)

/-! ### swapRange, rotate -/
/-- n elements from x and n elements from y have changed places. -/
def SwR (x y n : Nat) (d d' : Array α) : Prop := d'.size = d.size ∧ (∀ s, s < n → d'[x + s]! = d[y + s]! ∧ d'[y + s]! = d[x + s]!) ∧ ∀ t, (t < x ∨ x + n ≤ t) → (t < y ∨ y + n ≤ t) → d'[t]! = d[t]!
theorem SwR.zero (x y : Nat) (d : Array α) : SwR x y 0 d d := ⟨rfl, fun s h => absurd h (by omega), fun _ _ _ => rfl⟩
theorem SwR.step {x y k n : Nat} {d dk : Array α} (h : SwR x y k d dk) (hk : k < n) (hxy : x + n ≤ y) (hy : y + n ≤ d.size) : SwR x y (k + 1) d (swp dk (x + k) (y + k)) := by
  have e := swp_at dk (i := x + k) (j := y + k) (by rw [h.1]; omega) (by rw [h.1]; omega)
  refine ⟨by rw [size_swp]; exact h.1, fun s hs => ?_, fun t h1 h2 => ?_⟩
  · by_cases hsk : s = k
    · subst hsk
      rw [e, e, if_neg (by omega), if_pos rfl, if_pos rfl]
      exact ⟨h.2.2 _ (by omega) (by omega), h.2.2 _ (by omega) (by omega)⟩
    · rw [e, e, if_neg (by omega), if_neg (by omega), if_neg (by omega), if_neg (by omega)]
      exact h.2.1 s (by omega)
  · rw [e, if_neg (by omega), if_neg (by omega)]
    exact h.2.2 t (by omega) (by omega)
/-- The parts of a, m, b have changed places. -/
def RotP (a m b : Nat) (d d' : Array α) : Prop := d'.size = d.size ∧ (∀ s, s < b - m → d'[a + s]! = d[m + s]!) ∧ (∀ s, s < m - a → d'[a + (b - m) + s]! = d[a + s]!) ∧ ∀ t, t < a ∨ b ≤ t → d'[t]! = d[t]!
/-- rotate's loop: what is still to be done. -/
def RotI (T : Nat → α) (m i j : Nat) (d : Array α) : Prop := i ≤ m ∧ m + j ≤ d.size ∧ (∀ s, s < j → T (m - i + s) = d[m + s]!) ∧ (∀ s, s < i → T (m - i + j + s) = d[m - i + s]!) ∧ ∀ t, t < m - i ∨ m + j ≤ t → T t = d[t]!
def rotT (d : Array α) (a m b t : Nat) : α := if t < a ∨ b ≤ t then d[t]! else if t < a + (b - m) then d[m + (t - a)]! else d[a + (t - a - (b - m))]!
theorem RotI.start {a m b : Nat} {d : Array α} (h1 : a ≤ m) (h2 : m ≤ b) (hb : b ≤ d.size) : RotI (rotT d a m b) m (m - a) (b - m) d := by
  refine ⟨by omega, by omega, fun s hs => ?_, fun s hs => ?_, fun t ht => ?_⟩
  · unfold rotT; rw [if_neg (by omega), if_pos (by omega)]; congr 1; omega
  · unfold rotT; rw [if_neg (by omega), if_neg (by omega)]; congr 1; omega
  · unfold rotT; rw [if_pos (by omega)]
theorem RotI.left {T : Nat → α} {m i j : Nat} {d d' : Array α} (h : RotI T m i j d) (hij : j < i) (hs : SwR (m - i) m j d d') : RotI T m (i - j) j d' := by
  obtain ⟨h1, h2, h3, h4, h5⟩ := h
  refine ⟨by omega, by rw [hs.1]; exact h2, fun s g => ?_, fun s g => ?_, fun t g => ?_⟩
  · rw [(hs.2.1 s g).2, show m - (i - j) + s = m - i + j + s by omega]
    exact h4 s (by omega)
  · rw [hs.2.2 _ (by omega) (by omega), show m - (i - j) + j + s = m - i + j + (j + s) by omega, show m - (i - j) + s = m - i + (j + s) by omega]
    exact h4 (j + s) (by omega)
  · by_cases g2 : m - i ≤ t ∧ t < m - i + j
    · have := (hs.2.1 (t - (m - i)) (by omega)).1
      rw [show m - i + (t - (m - i)) = t by omega] at this
      rw [this, ← h3 _ (by omega)]
      congr 1; omega
    · rw [hs.2.2 t (by omega) (by omega)]
      exact h5 t (by omega)
theorem RotI.right {T : Nat → α} {m i j : Nat} {d d' : Array α} (h : RotI T m i j d) (hij : i < j) (hs : SwR (m - i) (m + j - i) i d d') : RotI T m i (j - i) d' := by
  obtain ⟨h1, h2, h3, h4, h5⟩ := h
  refine ⟨h1, by rw [hs.1]; omega, fun s g => ?_, fun s g => ?_, fun t g => ?_⟩
  · rw [hs.2.2 _ (by omega) (by omega)]
    exact h3 s (by omega)
  · rw [(hs.2.1 s g).1, show m - i + (j - i) + s = m - i + (j - i + s) by omega, h3 _ (by omega)]
    congr 1; omega
  · by_cases g2 : m + j - i ≤ t ∧ t < m + j
    · have := (hs.2.1 (t - (m + j - i)) (by omega)).2
      rw [show m + j - i + (t - (m + j - i)) = t by omega] at this
      rw [this, ← h4 _ (by omega)]
      congr 1; omega
    · rw [hs.2.2 t (by omega) (by omega)]
      exact h5 t (by omega)
theorem RotI.stop {T : Nat → α} {m i : Nat} {d d' : Array α} (h : RotI T m i i d) (hs : SwR (m - i) m i d d') : ∀ t, d'[t]! = T t := by
  obtain ⟨h1, h2, h3, h4, h5⟩ := h
  intro t
  by_cases g1 : m - i ≤ t ∧ t < m
  · have := (hs.2.1 (t - (m - i)) (by omega)).1
    rw [show m - i + (t - (m - i)) = t by omega] at this
    rw [this, ← h3 _ (by omega)]
    congr 1; omega
  · by_cases g2 : m ≤ t ∧ t < m + i
    · have := (hs.2.1 (t - m) (by omega)).2
      rw [show m + (t - m) = t by omega] at this
      rw [this, ← h4 _ (by omega)]
      congr 1; omega
    · rw [hs.2.2 t (by omega) (by omega)]
      exact (h5 t (by omega)).symm
theorem rotP_of {a m b : Nat} {d d' : Array α} (h1 : a ≤ m) (h2 : m ≤ b) (hs : d'.size = d.size) (h : ∀ t, d'[t]! = rotT d a m b t) : RotP a m b d d' := by
  refine ⟨hs, fun s g => ?_, fun s g => ?_, fun t g => ?_⟩
  · rw [h]; unfold rotT; rw [if_neg (by omega), if_pos (by omega)]; congr 1; omega
  · rw [h]; unfold rotT; rw [if_neg (by omega), if_neg (by omega)]; congr 1; omega
  · rw [h]; unfold rotT; rw [if_pos (by omega)]
theorem RotP.none {a m b : Nat} (d : Array α) (h1 : a ≤ m) (h2 : m ≤ b) (h : a = m ∨ m = b) : RotP a m b d d := by
  refine ⟨rfl, fun s g => ?_, fun s g => ?_, fun t g => rfl⟩
  · rw [show a = m by omega]
  · rw [show a + (b - m) + s = a + s by omega]
theorem RotP.turn {a m b : Nat} {d d' : Array α} (h : RotP a m b d d') (h1 : a ≤ m) (h2 : m ≤ b) (hne : ∀ s t, a ≤ s → s < m → m ≤ t → t < b → kf d[s]! ≠ kf d[t]!) : Turn kf a b d d' := by
  refine ⟨h.1, ?_, h.2.2.2⟩
  rw [show seg d a (b - a) = seg d a (m - a) ++ seg d m (b - m) by rw [show b - a = (m - a) + (b - m) by omega, seg_app, show a + (m - a) = m by omega]]
  rw [show seg d' a (b - a) = seg d m (b - m) ++ seg d a (m - a) by
    rw [show b - a = (b - m) + (m - a) by omega, seg_app, seg_ext (d := d) (a := m) h.2.1, seg_ext (d := d) (a := a) h.2.2.1]]
  refine SP.swap fun x hx y hy => ?_
  obtain ⟨s, g1, g2, rfl⟩ := mem_seg.1 hx
  obtain ⟨t, g3, g4, rfl⟩ := mem_seg.1 hy
  exact hne s t g1 (by omega) g3 (by omega)

/-! ### symMerge -/
/-- Where the parts are to be cut. -/
structure SymCut (kf : α → Int) (a m b s e mid : Nat) (d : Array α) : Prop where
  h1 : a ≤ s
  h2 : s ≤ m
  h3 : m ≤ e
  h4 : e ≤ b
  h5 : s + (e - m) = mid
  hA : s = a ∨ e = b ∨ kf d[s - 1]! ≤ kf d[e]!
  hB : s = m ∨ e = m ∨ kf d[e - 1]! < kf d[s]!
theorem SymCut.first {a m b s e mid : Nat} {d d1 : Array α} (C : SymCut kf a m b s e mid d) (hA : Srt kf a m d) (hB : Srt kf m b d) (hr : RotP s m e d d1) : Srt kf a s d1 ∧ Srt kf s mid d1 ∧ Srt kf mid e d1 ∧ Srt kf e b d1 ∧ Turn kf s e d d1 := by
  obtain ⟨h1, h2, h3, h4, h5, gA, gB⟩ := C
  obtain ⟨r0, r1, r2, r3⟩ := hr
  have B1 : ∀ t, s ≤ t → t < mid → d1[t]! = d[m + (t - s)]! := fun t g1 g2 => by
    have := r1 (t - s) (by omega); rwa [show s + (t - s) = t by omega] at this
  have A2 : ∀ t, mid ≤ t → t < e → d1[t]! = d[s + (t - mid)]! := fun t g1 g2 => by
    have := r2 (t - mid) (by omega); rwa [show s + (e - m) + (t - mid) = t by omega] at this
  refine ⟨fun i j g1 g2 g3 => ?_, fun i j g1 g2 g3 => ?_, fun i j g1 g2 g3 => ?_, fun i j g1 g2 g3 => ?_, RotP.turn ⟨r0, r1, r2, r3⟩ h2 h3 fun t u g1 g2 g3 g4 => ?_⟩
  · rw [r3 i (by omega), r3 j (by omega)]; exact hA i j g1 g2 (by omega)
  · rw [B1 i (by omega) (by omega), B1 j (by omega) (by omega)]; exact hB _ _ (by omega) (by omega) (by omega)
  · rw [A2 i (by omega) (by omega), A2 j (by omega) (by omega)]; exact hA _ _ (by omega) (by omega) (by omega)
  · rw [r3 i (by omega), r3 j (by omega)]; exact hB i j (by omega) g2 g3
  · have k1 := hA.le (i := s) (j := t) (by omega) g1 g2
    have k2 := hB.le (i := u) (j := e - 1) (by omega) (by omega) (by omega)
    omega
theorem SymCut.done {a m b s e mid : Nat} {d d1 d2 d3 : Array α} (C : SymCut kf a m b s e mid d) (hA : Srt kf a m d) (hB : Srt kf m b d) (hr : RotP s m e d d1) (h2 : Turn kf a mid d1 d2) (s2 : Srt kf a mid d2) (h3 : Turn kf mid b d2 d3) (s3 : Srt kf mid b d3) : Turn kf a b d d3 ∧ Srt kf a b d3 := by
  obtain ⟨_, _, _, _, ht⟩ := C.first hA hB hr
  obtain ⟨g1, g2, g3, g4, g5, gA, gB⟩ := C
  obtain ⟨r0, r1, r2, r3⟩ := hr
  refine ⟨((ht.widen g1 (by omega) g4).trans (h2.widen (Nat.le_refl _) (by omega) (by omega))).trans (h3.widen (by omega) (by omega) (Nat.le_refl _)), fun i j k1 k2 k3 => ?_⟩
  by_cases c1 : j < mid
  · rw [h3.2.2 i (by omega), h3.2.2 j (by omega)]; exact s2 i j k1 k2 c1
  by_cases c2 : mid ≤ i
  · exact s3 i j c2 k2 k3
  obtain ⟨i', p1, p2, p3⟩ := h2.mem (t := i) k1 (by omega)
  obtain ⟨j', q1, q2, q3⟩ := h3.mem (t := j) (by omega) k3
  rw [h3.2.2 i (by omega), ← p3, ← q3, h2.2.2 j' (by omega)]
  have B1 : ∀ t, s ≤ t → t < mid → d1[t]! = d[m + (t - s)]! := fun t g1 g2 => by
    have := r1 (t - s) (by omega); rwa [show s + (t - s) = t by omega] at this
  have A2 : ∀ t, mid ≤ t → t < e → d1[t]! = d[s + (t - mid)]! := fun t g1 g2 => by
    have := r2 (t - mid) (by omega); rwa [show s + (e - m) + (t - mid) = t by omega] at this
  by_cases ci : i' < s
  · rw [r3 i' (by omega)]
    by_cases cj : j' < e
    · rw [A2 j' q1 cj]; exact hA _ _ (by omega) (by omega) (by omega)
    · rw [r3 j' (by omega)]
      have k4 := hA.le (i := i') (j := s - 1) (by omega) (by omega) (by omega)
      have k5 := hB.le (i := e) (j := j') (by omega) (by omega) (by omega)
      omega
  · rw [B1 i' (by omega) p2]
    by_cases cj : j' < e
    · rw [A2 j' q1 cj]
      have k4 := hB.le (i := m + (i' - s)) (j := e - 1) (by omega) (by omega) (by omega)
      have k5 := hA.le (i := s) (j := s + (j' - mid)) (by omega) (by omega) (by omega)
      omega
    · rw [r3 j' (by omega)]; exact hB _ _ (by omega) (by omega) (by omega)
/-- The search for the cut: what its loop keeps. -/
def CutI (kf : α → Int) (lo hi p st r : Nat) (d : Array α) : Prop := lo ≤ st ∧ st ≤ r ∧ r ≤ hi ∧ (st = lo ∨ kf d[st - 1]! ≤ kf d[p - (st - 1)]!) ∧ (r = hi ∨ kf d[p - r]! < kf d[r]!)
theorem CutI.up {lo hi p st r c : Nat} {d : Array α} (h : CutI kf lo hi p st r d) (h1 : st ≤ c) (h2 : c < r) (hc : kf d[c]! ≤ kf d[p - c]!) : CutI kf lo hi p (c + 1) r d :=
  ⟨by have := h.1; omega, h2, h.2.2.1, .inr (by rw [Nat.add_sub_cancel]; exact hc), h.2.2.2.2⟩
theorem CutI.down {lo hi p st r c : Nat} {d : Array α} (h : CutI kf lo hi p st r d) (h1 : st ≤ c) (h2 : c < r) (hc : kf d[p - c]! < kf d[c]!) : CutI kf lo hi p st c d :=
  ⟨h.1, h1, by have := h.2.2.1; omega, h.2.2.2.1, .inr hc⟩
theorem CutI.cut {a m b mid lo hi st : Nat} {d : Array α} (ha : a < m) (hb : m < b) (hm : mid = (a + b) / 2) (hlo : (mid < m ∧ lo = mid + m - b ∧ hi = mid) ∨ (m ≤ mid ∧ lo = a ∧ hi = m)) (h : CutI kf lo hi (mid + m - 1) st st d) : SymCut kf a m b st (mid + m - st) mid d := by
  obtain ⟨h1, h2, h3, h4, h5⟩ := h
  refine ⟨by omega, by omega, by omega, by omega, by omega, ?_, ?_⟩
  · rcases h4 with h4 | h4
    · omega
    · by_cases e : st = a
      · exact .inl e
      · refine .inr (.inr ?_)
        rw [show mid + m - 1 - (st - 1) = mid + m - st by omega] at h4
        exact h4
  · rcases h5 with h5 | h5
    · omega
    · refine .inr (.inr ?_)
      rw [show mid + m - 1 - st = mid + m - st - 1 by omega] at h5
      exact h5

/-- One element alone on the left: the search for its place. -/
def UpI (kf : α → Int) (a m b i j : Nat) (d : Array α) : Prop := m ≤ i ∧ i ≤ j ∧ j ≤ b ∧ (∀ t, m ≤ t → t < i → kf d[t]! < kf d[a]!) ∧ ∀ t, j ≤ t → t < b → kf d[a]! ≤ kf d[t]!
theorem UpI.start {a m b : Nat} {d : Array α} (h : m ≤ b) : UpI kf a m b m b d := ⟨Nat.le_refl _, h, Nat.le_refl _, fun t _ _ => by omega, fun t _ _ => by omega⟩
theorem UpI.up {a m b i j h : Nat} {d : Array α} (H : UpI kf a m b i j d) (hS : Srt kf m b d) (h1 : i ≤ h) (h2 : h < j) (hc : kf d[h]! < kf d[a]!) : UpI kf a m b (h + 1) j d := by
  obtain ⟨g1, g2, g3, g4, g5⟩ := H
  exact ⟨by omega, h2, g3, fun t k1 k2 => by have := hS.le (i := t) (j := h) k1 (by omega) (by omega); omega, g5⟩
theorem UpI.down {a m b i j h : Nat} {d : Array α} (H : UpI kf a m b i j d) (hS : Srt kf m b d) (h1 : i ≤ h) (h2 : h < j) (hc : ¬ kf d[h]! < kf d[a]!) : UpI kf a m b i h d := by
  obtain ⟨g1, g2, g3, g4, g5⟩ := H
  exact ⟨g1, h1, by omega, g4, fun t k1 k2 => by have := hS.le (i := h) (j := t) (by omega) k1 k2; omega⟩
def UpK (kf : α → Int) (a b k : Nat) (d dk : Array α) : Prop := Turn kf a b d dk ∧ (∀ t, a ≤ t → t < k → dk[t]! = d[t + 1]!) ∧ dk[k]! = d[a]! ∧ ∀ t, k < t → dk[t]! = d[t]!
theorem UpK.start (a b : Nat) (d : Array α) : UpK kf a b a d d := ⟨Turn.refl _ _ _, fun t _ _ => by omega, rfl, fun _ _ => rfl⟩
theorem UpK.step {a m b i k : Nat} {d dk : Array α} (h : UpK kf a b k d dk) (hm : m = a + 1) (H : UpI kf a m b i i d) (hb : b ≤ d.size) (hak : a ≤ k) (hk : k + 1 < i) : UpK kf a b (k + 1) d (swp dk k (k + 1)) := by
  obtain ⟨h1, h2, h3, h4⟩ := h
  have hib := H.2.2.1
  have e := swp_at dk (i := k) (j := k + 1) (by rw [h1.1]; omega) (by rw [h1.1]; omega)
  have hlt := H.2.2.2.1 (k + 1) (by omega) (by omega)
  have ht := turn_swp (kf := kf) (d := dk) (i := k) (by rw [h1.1]; omega) (by rw [h3, h4 (k + 1) (by omega)]; omega)
  refine ⟨h1.trans (ht.widen hak (by omega) (by omega)), fun t k1 k2 => ?_, ?_, fun t k1 => ?_⟩
  · rw [e, if_neg (by omega)]
    by_cases c : t = k
    · rw [if_pos c, h4 (k + 1) (by omega), c]
    · rw [if_neg c]; exact h2 t k1 (by omega)
  · rw [e, if_pos rfl]; exact h3
  · rw [e, if_neg (by omega), if_neg (by omega)]; exact h4 t (by omega)
theorem UpK.done {a m b i k : Nat} {d dk : Array α} (h : UpK kf a b k d dk) (hm : m = a + 1) (H : UpI kf a m b i i d) (hS : Srt kf m b d) (hak : a ≤ k) (hk : k + 1 = i) : Srt kf a b dk := by
  obtain ⟨h1, h2, h3, h4⟩ := h
  intro p q k1 k2 k3
  by_cases c1 : p < k
  · rw [h2 p k1 c1]
    by_cases c2 : q < k
    · rw [h2 q (by omega) c2]; exact hS.le (by omega) (by omega) (by have := H.2.2.1; omega)
    · by_cases c3 : q = k
      · rw [c3, h3]; have := H.2.2.2.1 (p + 1) (by omega) (by omega); omega
      · rw [h4 q (by omega)]; exact hS.le (by omega) (by omega) k3
  · by_cases c2 : p = k
    · rw [c2, h3, h4 q (by omega)]; exact H.2.2.2.2 q (by omega) k3
    · rw [h4 p (by omega), h4 q (by omega)]; exact hS.le (by omega) (by omega) k3
/-- One element alone on the right. -/
def DnI (kf : α → Int) (a m i j : Nat) (d : Array α) : Prop := a ≤ i ∧ i ≤ j ∧ j ≤ m ∧ (∀ t, a ≤ t → t < i → kf d[t]! ≤ kf d[m]!) ∧ ∀ t, j ≤ t → t < m → kf d[m]! < kf d[t]!
theorem DnI.start {a m : Nat} {d : Array α} (h : a ≤ m) : DnI kf a m a m d := ⟨Nat.le_refl _, h, Nat.le_refl _, fun t _ _ => by omega, fun t _ _ => by omega⟩
theorem DnI.up {a m i j h : Nat} {d : Array α} (H : DnI kf a m i j d) (hS : Srt kf a m d) (h1 : i ≤ h) (h2 : h < j) (hc : ¬ kf d[m]! < kf d[h]!) : DnI kf a m (h + 1) j d := by
  obtain ⟨g1, g2, g3, g4, g5⟩ := H
  exact ⟨by omega, h2, g3, fun t k1 k2 => by have := hS.le (i := t) (j := h) k1 (by omega) (by omega); omega, g5⟩
theorem DnI.down {a m i j h : Nat} {d : Array α} (H : DnI kf a m i j d) (hS : Srt kf a m d) (h1 : i ≤ h) (h2 : h < j) (hc : kf d[m]! < kf d[h]!) : DnI kf a m i h d := by
  obtain ⟨g1, g2, g3, g4, g5⟩ := H
  exact ⟨g1, h1, by omega, g4, fun t k1 k2 => by have := hS.le (i := h) (j := t) (by omega) k1 k2; omega⟩
def DnK (kf : α → Int) (a m b k : Nat) (d dk : Array α) : Prop := Turn kf a b d dk ∧ (∀ t, t < k → dk[t]! = d[t]!) ∧ dk[k]! = d[m]! ∧ (∀ t, k < t → t ≤ m → dk[t]! = d[t - 1]!) ∧ ∀ t, m < t → dk[t]! = d[t]!
theorem DnK.start (a m b : Nat) (d : Array α) : DnK kf a m b m d d := ⟨Turn.refl _ _ _, fun _ _ => rfl, rfl, fun t _ _ => by omega, fun _ _ => rfl⟩
theorem DnK.step {a m b i k : Nat} {d dk : Array α} (h : DnK kf a m b (k + 1) d dk) (hb : m < b) (hz : b ≤ d.size) (H : DnI kf a m i i d) (hk : i ≤ k) (hkm : k < m) : DnK kf a m b k d (swp dk (k + 1) k) := by
  obtain ⟨h1, h2, h3, h4, h5⟩ := h
  have hai := H.1
  have e := swp_at dk (i := k + 1) (j := k) (by rw [h1.1]; omega) (by rw [h1.1]; omega)
  have hlt := H.2.2.2.2 k hk hkm
  have ht := turn_swp' (kf := kf) (d := dk) (i := k) (by rw [h1.1]; omega) (by rw [h3, h2 k (by omega)]; omega)
  refine ⟨h1.trans (ht.widen (by omega) (by omega) (by omega)), fun t k1 => ?_, ?_, fun t k1 k2 => ?_, fun t k1 => ?_⟩
  · rw [e, if_neg (by omega), if_neg (by omega)]; exact h2 t (by omega)
  · rw [e, if_pos rfl]; exact h3
  · rw [e, if_neg (by omega)]
    by_cases c : t = k + 1
    · rw [if_pos c, h2 k (by omega), c, Nat.add_sub_cancel]
    · rw [if_neg c]; exact h4 t (by omega) k2
  · rw [e, if_neg (by omega), if_neg (by omega)]; exact h5 t k1
theorem DnK.done {a m b k : Nat} {d dk : Array α} (h : DnK kf a m b k d dk) (hb : b = m + 1) (H : DnI kf a m k k d) (hS : Srt kf a m d) : Srt kf a b dk := by
  obtain ⟨h1, h2, h3, h4, h5⟩ := h
  have hkm := H.2.2.1
  have hak := H.1
  intro p q k1 k2 k3
  by_cases c1 : q < k
  · rw [h2 p (by omega), h2 q c1]; exact hS p q k1 k2 (by omega)
  · by_cases c2 : q = k
    · rw [c2, h3, h2 p (by omega)]; exact H.2.2.2.1 p k1 (by omega)
    · rw [h4 q (by omega) (by omega)]
      by_cases c3 : p < k
      · rw [h2 p c3]; exact hS.le k1 (by omega) (by omega)
      · by_cases c4 : p = k
        · rw [c4, h3]; have := H.2.2.2.2 (q - 1) (by omega) (by omega); omega
        · rw [h4 p (by omega) (by omega)]; exact hS.le (by omega) (by omega) (by omega)
end
end Go.Proofs.Ytbjilpemckoioaa
