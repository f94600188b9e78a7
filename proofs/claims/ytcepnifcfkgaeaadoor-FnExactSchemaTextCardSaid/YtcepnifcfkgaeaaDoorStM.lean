/- The text of a type: plain. -/
import Derived.Test.YtcepnifcfkgaeaaDoorKindQVW
import Derived.Lib.Join
import Derived.Lib.ItoaNum
namespace Go.Proofs.YtcepnifcfkgaeaaDoor
open Go.RowKit
set_option linter.unusedVariables false
/-- The digits of a small number. -/
def digN (n : Int) : List UInt8 := Lib.decDigits n.toNat
theorem digN_len {n : Int} (h : n < 100) : (digN n).length ≤ 2 := by
  rw [digN]
  by_cases h1 : n.toNat < 10
  · rw [Lib.decDigits_one h1]; simp
  · rw [Lib.decDigits_two h1 (by omega)]; simp
mutual
/-- The text of a type. -/
def stK : K → List UInt8
  | .mk o nm no mu mo ps => if o = 1 then [110, 117, 109] else if o = 2 then [116, 101, 120, 116] else if o = 3 then [101, 110, 117, 109, 40] ++ digN mo ++ [41] else if o = 4 then [91] ++ stH ps ++ [93] else [123] ++ Lib.join (stP ps) [44] ++ [125]
def stH : List K → List UInt8
  | [] => []
  | p :: ps => stK p
def stP : List K → List (List UInt8)
  | [] => []
  | p :: ps => (p.name.data.toList ++ [58] ++ digN p.no ++ (if p.must = true then [33] else []) ++ [32] ++ stK p) :: stP ps
end
def pcH (p : K) : List UInt8 := p.name.data.toList ++ [58] ++ digN p.no
def pcM (p : K) : List UInt8 := pcH p ++ (if p.must = true then [33] else [])
/-- A field's text. -/
def pcK (p : K) : List UInt8 := pcM p ++ [32] ++ stK p
theorem stP_map : ∀ ps : List K, stP ps = ps.map pcK := by
  intro ps
  induction ps with
  | nil => rw [stP]; rfl
  | cons p ps ih => rw [stP, ih]; rfl
theorem stK_eq (t : K) : stK t = if t.of = 1 then [110, 117, 109] else if t.of = 2 then [116, 101, 120, 116] else if t.of = 3 then [101, 110, 117, 109, 40] ++ digN t.most ++ [41] else if t.of = 4 then [91] ++ stH t.parts ++ [93] else [123] ++ Lib.join (t.parts.map pcK) [44] ++ [125] := by
  cases t; rw [stK, stP_map]; rfl
theorem stH_one {ps : List K} (h : ps.length = 1) : stH ps = stK (ps[0]'(by omega)) := by
  match ps, h with
  | [p], _ => rw [stH]; rfl
theorem rightK.partS {t p : K} (h : rightK t) (hp : p ∈ t.parts) : rightK p := by
  cases h with | mk o nm no mu mo ps h1 h2 h3 => exact h3 p hp
theorem rightK.okS {t : K} (h : rightK t) : partsOK t.of t.most t.parts := by
  cases h with | mk o nm no mu mo ps h1 h2 h3 => exact h1
theorem rightK.partOfS {t p : K} (h : rightK t) (hp : p ∈ t.parts) : partOf t.of p := by
  cases h with | mk o nm no mu mo ps h1 h2 h3 => exact h2 p hp
theorem pcM_len {p : K} (h : partOf 5 p) : (pcM p).length ≤ 14 := by
  obtain ⟨h1, h2, h3⟩ := h.1 rfl
  have h4 := h1.2.2
  have h5 := digN_len (n := p.no) (by omega)
  have h6 : p.name.data.toList.length = p.name.size := rfl
  rw [pcM, pcH]
  simp only [List.length_append, List.length_cons, List.length_nil]
  split <;> simp <;> omega
theorem lens_cons (x : List UInt8) (xs : List (List UInt8)) : Lib.lens (x :: xs) = x.length + Lib.lens xs := by simp [Lib.lens]
theorem pcs_len {o : Int} : ∀ {ps : List K}, (∀ p ∈ ps, partOf 5 p) → (∀ p ∈ ps, (stK p).length + 20 ≤ 40 * countK p) → Lib.lens (ps.map pcK) + 4 * ps.length ≤ 40 * countL ps := by
  intro ps
  induction ps with
  | nil => intro _ _; simp [Lib.lens, countL]
  | cons p ps ih =>
    intro h1 h2
    have a1 := pcM_len (h1 p (by simp))
    have a2 := h2 p (by simp)
    have a3 := ih (fun q hq => h1 q (by simp [hq])) (fun q hq => h2 q (by simp [hq]))
    rw [List.map_cons, lens_cons, countL, List.length_cons, pcK]
    simp only [List.length_append, List.length_cons, List.length_nil]
    omega
theorem join_le {ps : List K} {n : Nat} (h : Lib.lens (ps.map pcK) + 4 * ps.length ≤ n) : (Lib.join (ps.map pcK) [44]).length ≤ n := by
  cases ps with
  | nil => simp [Lib.join_nil]
  | cons p ps =>
    rw [List.map_cons] at h ⊢
    rw [Lib.join_length]
    simp only [List.length_cons, List.length_nil, List.length_map] at h ⊢
    omega
theorem stK_len (t : K) : rightK t → (stK t).length + 20 ≤ 40 * countK t := by
  refine K.ind2 (P := fun t => rightK t → (stK t).length + 20 ≤ 40 * countK t) ?_ t
  intro t ih h
  have hc := countK_eq t
  rw [stK_eq]
  rcases h.okS with ⟨ho, -, -⟩ | ⟨ho, hm, -⟩ | ⟨ho, -, h1⟩ | ⟨ho, -, -⟩
  · rcases ho with ho | ho
    · rw [if_pos ho]; simp; omega
    · rw [if_neg (by omega), if_pos ho]; simp; omega
  · rw [if_neg (by omega), if_neg (by omega), if_pos ho]
    have := digN_len (n := t.most) (by omega)
    simp only [List.length_append, List.length_cons, List.length_nil]
    omega
  · rw [if_neg (by omega), if_neg (by omega), if_neg (by omega), if_pos ho, stH_one h1]
    have hp : t.parts[0]'(by omega) ∈ t.parts := List.getElem_mem _
    have := ih _ hp (h.partS hp)
    have := count_part hp
    simp only [List.length_append, List.length_cons, List.length_nil]
    omega
  · rw [if_neg (by omega), if_neg (by omega), if_neg (by omega), if_neg (by omega)]
    have h1 := pcs_len (o := 5) (ps := t.parts) (fun p hp => by have := h.partOfS hp; rwa [ho] at this) (fun p hp => ih p hp (h.partS hp))
    have h2 := join_le h1
    simp only [List.length_append, List.length_cons, List.length_nil]
    omega
theorem jn_first {xs : List (List UInt8)} {x : List UInt8} (h : xs[0]? = some x) : Lib.join (xs.take 1) [44] = x := by
  cases xs with
  | nil => simp at h
  | cons y r => simp at h; subst h; simp [Lib.join_one]
theorem jn_next {xs : List (List UInt8)} {x : List UInt8} {k : Nat} (hk : 0 < k) (h : xs[k]? = some x) : Lib.join (xs.take (k + 1)) [44] = Lib.join (xs.take k) [44] ++ ([44] ++ x) := by
  cases xs with
  | nil => simp at h
  | cons y r =>
    cases k with
    | zero => omega
    | succ k =>
      rw [List.take_succ_cons, List.take_succ_cons, Lib.join_cons, Lib.join_cons, Lib.joinTail_take_succ _ r k x (by simpa using h)]
      simp [List.append_assoc]
theorem jn_len {xs : List (List UInt8)} (k : Nat) : (Lib.join (xs.take k) [44]).length ≤ Lib.lens (xs.take k) + k := by
  cases xs with
  | nil => simp [Lib.join_nil]
  | cons y r =>
    cases k with
    | zero => simp [Lib.join_nil]
    | succ k =>
      rw [List.take_succ_cons, Lib.join_length, List.length_take, List.length_cons, List.length_nil]
      omega
end Go.Proofs.YtcepnifcfkgaeaaDoor
