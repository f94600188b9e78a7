/- What a want must be: plain. -/
import Derived.Test.YtbjilpemckoioaaProgram3
namespace Go.Proofs.Ytbjilpemckoioaa
set_option linter.unusedVariables false

def wantP (k no nu : Int) (t : ByteArray) (a b i : Int) : Prop :=
  ((k = 6 ∨ k = 7) ∧ no = 0 ∧ nu = 0 ∧ emptyS t = true ∧ 0 ≤ a ∧ a < b ∧ b < i) ∨
  (k = 8 ∧ no = 0 ∧ nu = 0 ∧ emptyS t = true ∧ (0 ≤ a ∧ a ≤ i - 1) ∧ b = 0) ∨
  (¬ k = 6 ∧ ¬ k = 7 ∧ ¬ k = 8 ∧ (1 ≤ no ∧ no ≤ 30) ∧ testB k nu t = true ∧ a = 0 ∧ b = 0)
instance (k no nu : Int) (t : ByteArray) (a b i : Int) : Decidable (wantP k no nu t a b i) := by unfold wantP; infer_instance
def wantSP (k no nu : Int) (t : ByteArray) (a b i : Int) : Prop :=
  ((1 ≤ k ∧ k ≤ 5) ↔ ¬ no = 0) ∧ (0 ≤ no ∧ no ≤ 30) ∧ (t.size : Int) ≤ 30 ∧ numB nu = true ∧ ¬ (3 < k ∧ ¬ nu = 0) ∧ ¬ (¬ k = 5 ∧ ¬ emptyS t = true) ∧
  (((1 ≤ k ∧ k ≤ 5) ∧ a = 0 ∧ b = 0) ∨ (¬ (1 ≤ k ∧ k ≤ 5) ∧ k = 8 ∧ 0 ≤ a ∧ a < i ∧ b = 0) ∨ (¬ (1 ≤ k ∧ k ≤ 5) ∧ ¬ k = 8 ∧ (6 ≤ k ∧ k ≤ 7) ∧ 0 ≤ a ∧ a < b ∧ b < i))
instance (k no nu : Int) (t : ByteArray) (a b i : Int) : Decidable (wantSP k no nu t a b i) := by unfold wantSP; infer_instance
theorem want_same (k no nu : Int) (t : ByteArray) (a b i : Int) : wantSP k no nu t a b i ↔ wantP k no nu t a b i := by
  have he : emptyS t = true → (t.size : Int) = 0 := fun h => by rw [size_empty h]; rfl
  have hnz : nu = 0 → numB nu = true := fun h => by subst h; decide
  unfold wantSP wantP
  rw [testB_iff]
  generalize emptyS t = E at *
  generalize numB nu = B at *
  generalize (t.size : Int) = z at *
  have hcases : k = 1 ∨ k = 2 ∨ k = 3 ∨ k = 4 ∨ k = 5 ∨ k = 6 ∨ k = 7 ∨ k = 8 ∨ (k < 1 ∨ 8 < k) := by omega
  rcases hcases with rfl | rfl | rfl | rfl | rfl | rfl | rfl | rfl | g
  · cases E <;> cases B <;> simp at * <;> omega
  · cases E <;> cases B <;> simp at * <;> omega
  · cases E <;> cases B <;> simp at * <;> omega
  · cases E <;> cases B <;> simp at * <;> omega
  · cases E <;> cases B <;> simp at * <;> omega
  · cases E <;> cases B <;> simp at * <;> omega
  · cases E <;> cases B <;> simp at * <;> omega
  · cases E <;> cases B <;> simp at * <;> omega
  · cases E <;> cases B <;> simp at * <;> omega

def partsL (x : DWant) : List Int := if x.kind = 6 ∨ x.kind = 7 then [x.a, x.b] else if x.kind = 8 then [x.a] else []
def incr (u : List Int) (p : Int) : List Int := u.set p.toNat (u.getD p.toNat 0 + 1)
def incrs (u : List Int) (ps : List Int) : List Int := ps.foldl incr u
def usesUpto (l : List DWant) (k : Nat) : List Int := (l.take k).foldl (fun u x => incrs u (partsL x)) (List.replicate l.length 0)
def wantBad (x : DWant × Nat) : Bool := !decide (wantP x.1.kind x.1.no x.1.num x.1.text x.1.a x.1.b (x.2 : Int))
def notOne (n : Int) : Bool := !(n == 1)
def goodFilter (l : List DWant) : Bool := decide (1 ≤ l.length ∧ l.length ≤ 20) && !l.zipIdx.any wantBad && !((usesUpto l l.length).take (l.length - 1)).any notOne
theorem incr_len (u : List Int) (p : Int) : (incr u p).length = u.length := by simp [incr]
theorem incrs_len (ps : List Int) : ∀ u, (incrs u ps).length = u.length := by
  induction ps with
  | nil => intro u; rfl
  | cons p ps ih => intro u; show (incrs (incr u p) ps).length = _; rw [ih, incr_len]
theorem usesUpto_succ {l : List DWant} {k : Nat} (h : k < l.length) : usesUpto l (k + 1) = incrs (usesUpto l k) (partsL l[k]) := by
  unfold usesUpto
  rw [List.take_succ_eq_append_getElem h, List.foldl_append]; rfl
theorem usesUpto_len (l : List DWant) (k : Nat) : (usesUpto l k).length = l.length := by
  unfold usesUpto
  generalize hm : l.length = m
  have : ∀ (xs : List DWant) (u : List Int), (xs.foldl (fun u x => incrs u (partsL x)) u).length = u.length := by
    intro xs
    induction xs with
    | nil => intro u; rfl
    | cons x xs ih => intro u; rw [List.foldl_cons, ih, incrs_len]
  rw [this]; simp
def bdd (c : Int) (u : List Int) : Prop := ∀ x ∈ u, 0 ≤ x ∧ x ≤ c
theorem bdd_incr {c : Int} {u : List Int} (h : bdd c u) (h0 : 0 ≤ c) (p : Int) : bdd (c + 1) (incr u p) := by
  intro x hx
  rcases List.mem_or_eq_of_mem_set hx with hx | rfl
  · have := h x hx; omega
  · by_cases hp : p.toNat < u.length
    · have := h (u.getD p.toNat 0) (by rw [List.getD_eq_getElem?_getD, List.getElem?_eq_getElem hp]; exact List.getElem_mem _)
      omega
    · rw [List.getD_eq_getElem?_getD, List.getElem?_eq_none (by omega)]; simp; omega
theorem bdd_mono {c d : Int} {u : List Int} (h : bdd c u) (hcd : c ≤ d) : bdd d u := fun x hx => by have := h x hx; omega
theorem bdd_zero (n : Nat) : bdd 0 (List.replicate n 0) := by
  intro x hx; have := List.eq_of_mem_replicate hx; omega
theorem want_parts {x : DWant} {i : Int} (h : wantP x.kind x.no x.num x.text x.a x.b i) : ∀ p ∈ partsL x, 0 ≤ p ∧ p < i := by
  intro p hp
  unfold partsL at hp
  rcases h with ⟨h1, _, _, _, h2, h3, h4⟩ | ⟨h1, _, _, _, h2, _⟩ | ⟨h1, h2, h3, _⟩
  · rw [if_pos h1] at hp; simp at hp; omega
  · rw [if_neg (by omega), if_pos h1] at hp; simp at hp; omega
  · rw [if_neg (by omega), if_neg h3] at hp; simp at hp
theorem parts_len (x : DWant) : (partsL x).length ≤ 2 := by
  unfold partsL; split
  · simp
  · split <;> simp
end Go.Proofs.Ytbjilpemckoioaa
