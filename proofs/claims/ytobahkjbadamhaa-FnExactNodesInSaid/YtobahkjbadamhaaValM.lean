/- Values as trees: their rows; the least value of a type; plain. -/
import Derived.Test.YtobahkjbadamhaaTypes
import Derived.Test.YtobahkjbadamhaaNode
import Derived.Test.YtobahkjbadamhaaRepX
namespace Go.Proofs.Ytobahkjbadamhaa
open Go.RowKit
set_option linter.unusedVariables false
theorem DNode.enc_one (l : List DNode) : ∀ u ∈ (l.map DNode.enc).flatten, u.oneCell' = true := by
  intro u hu
  obtain ⟨r, hr, hu⟩ := List.mem_flatten.1 hu
  obtain ⟨x, _, rfl⟩ := List.mem_map.1 hr
  simp only [DNode.enc, List.mem_cons, List.not_mem_nil, or_false] at hu
  rcases hu with rfl | rfl | rfl | rfl | rfl <;> rfl
/-- The node of a value's top: the tree holds the number in 'most', the text in 'name', whether it is many in 'must'. -/
def tN (x : DType) : DNode := ⟨x.most, x.name, x.no, x.up, x.must⟩
def HV (t : K) : List Value := [.int .i64 t.most, .string t.name, .int .i64 t.no, .bool t.must]
def topV (t : K) (up : Int) : DNode := ⟨t.most, t.name, t.no, up, t.must⟩
def rowsV (t : K) (up : Int) (q : Nat) : List DNode := (rowsK t up q).map tN
theorem rowsV_eq (t : K) (up : Int) (q : Nat) : rowsV t up q = topV t up :: (rowsL t.parts q (q + 1)).map tN := by rw [rowsV, rowsK_eq]; rfl
theorem rowsV_len (t : K) (up : Int) (q : Nat) : (rowsV t up q).length = countK t := by rw [rowsV, List.length_map, rows_count]
def upToV (out : List DNode) (x : DNode) (ps : List K) (j : Nat) : List DNode := out ++ x :: (rowsL (ps.take j) out.length (out.length + 1)).map tN
theorem upToV_zero (out : List DNode) (x : DNode) (ps : List K) : upToV out x ps 0 = out ++ [x] := by rw [upToV, List.take_zero, rowsL]; rfl
theorem upToV_len (out : List DNode) (x : DNode) (ps : List K) (j : Nat) : (upToV out x ps j).length = out.length + 1 + countL (ps.take j) := by rw [upToV, List.length_append, List.length_cons, List.length_map, rowsL_len]; omega
theorem upToV_step {ps : List K} {j : Nat} (h : j < ps.length) (out : List DNode) (x : DNode) : upToV out x ps (j + 1) = upToV out x ps j ++ rowsV ps[j] out.length (upToV out x ps j).length := by
  rw [upToV_len, upToV, rowsL_take h, upToV, List.append_assoc, List.cons_append, List.map_append]; rfl
theorem upToV_end (out : List DNode) (t : K) (up : Int) : upToV out (topV t up) t.parts t.parts.length = out ++ rowsV t up out.length := by rw [upToV, List.take_length, rowsV_eq]
theorem map_snocN (l : List DNode) (x : DNode) : l.map DNode.enc ++ [x.enc] = (l ++ [x]).map DNode.enc := by rw [List.map_append]; rfl
mutual
/-- The least value of a type. -/
def leastK : K → Int → K
  | .mk o _ _ _ _ ps => fun no => .mk (if holdsB o then 5 else 1) ⟨#[]⟩ no (holdsB o) 0 (if o = 5 then leastL ps else [])
def leastL : List K → List K
  | [] => []
  | p :: ps => if p.must then leastK p p.no :: leastL ps else leastL ps
end
theorem leastL_snoc (p : K) : ∀ ps : List K, leastL (ps ++ [p]) = leastL ps ++ if p.must then [leastK p p.no] else [] := by
  intro ps
  induction ps with
  | nil => rw [List.nil_append, leastL]; simp only [leastL]; split <;> simp
  | cons x xs ih => rw [List.cons_append, leastL, leastL, ih]; split <;> simp
theorem leastL_take {ps : List K} {j : Nat} (h : j < ps.length) : leastL (ps.take (j + 1)) = leastL (ps.take j) ++ if ps[j].must then [leastK ps[j] ps[j].no] else [] := by
  rw [List.take_succ_eq_append_getElem h, leastL_snoc]
theorem least_count (t : K) : ∀ no, countK (leastK t no) ≤ countK t := by
  refine K.ind (P := fun t => ∀ no, countK (leastK t no) ≤ countK t) ?_ t
  intro o nm no0 mu mo ps ih no
  have hL : countL (leastL ps) ≤ countL ps := by
    clear no
    induction ps with
    | nil => rw [leastL]; exact Nat.le_refl _
    | cons x xs ihx =>
      have h1 := ih x (by simp) x.no
      have h2 := ihx (fun p hp => ih p (by simp [hp]))
      rw [leastL]
      split
      · rw [countL, countL]; omega
      · rw [countL]; omega
  rw [leastK, countK, countK]
  split
  · omega
  · rw [countL]; omega
theorem leastL_le (ps : List K) : countL (leastL ps) ≤ countL ps := by
  induction ps with
  | nil => rw [leastL]; exact Nat.le_refl _
  | cons x xs ihx =>
    have h1 := least_count x x.no
    rw [leastL]
    split
    · rw [countL, countL]; omega
    · rw [countL]; omega
/-- A tree with another number. -/
def withNo : K → Int → K
  | .mk o nm _ mu mo ps => fun n => .mk o nm n mu mo ps
theorem least_no (t : K) (n m : Int) : withNo (leastK t n) m = leastK t m := by cases t; rfl
theorem least_top (t : K) (no up : Int) : topV (leastK t no) up = ⟨0, ⟨#[]⟩, no, up, holdsB t.of⟩ := by cases t; rfl
theorem least_parts (t : K) (no : Int) : (leastK t no).parts = if t.of = 5 then leastL t.parts else [] := by cases t; rfl
theorem least_parts5 {t : K} (h : t.of = 5) (no : Int) : (leastK t no).parts = leastL t.parts := by rw [least_parts, if_pos h]
theorem least_partsN {t : K} (h : t.of ≠ 5) (no : Int) : (leastK t no).parts = [] := by rw [least_parts, if_neg h]
/-- A tree in memory with another number: one cell is another. -/
theorem RepX.withNo {w : World} {lo hi : Nat} {t : K} {a : Value} {b : Value} {n : Int} {d : Value} {s : Value} (h : RepX HV 5 w lo hi t [a, b, .int .i64 n, d, s]) (m : Int) : RepX HV 5 w lo hi (withNo t m) [a, b, .int .i64 m, d, s] := by
  obtain ⟨o, nm, no, mu, mo, ps⟩ := t
  rw [RepX] at h
  obtain ⟨s', rows, e, h3, h4⟩ := h
  simp [HV, K.most, K.name, K.no, K.must] at e
  obtain ⟨rfl, rfl, rfl, rfl, rfl⟩ := e
  show RepX HV 5 w lo hi (.mk o nm m mu mo ps) _
  rw [RepX]
  exact ⟨_, rows, rfl, h3, h4⟩
theorem RepX.openV {w : World} {lo hi : Nat} {t : K} {r : List Value} (h : RepX HV 5 w lo hi t r) : ∃ (a : Option Addr) (c : Nat) (rows : List (List Value)), r = [.int .i64 t.most, .string t.name, .int .i64 t.no, .bool t.must, .slice a t.parts.length c] ∧
    XSl 5 w lo hi (.slice a t.parts.length c) rows ∧ rows.length = t.parts.length ∧ ∀ j (h : j < t.parts.length) (h' : j < rows.length), RepX HV 5 w lo hi t.parts[j] rows[j] := h.open
/-- A tree by value, in blocks of the call's own. -/
def XPost (H : K → List Value) (sz : Nat) (t : K) (w : World) (e : Ending) (w' : World) : Prop := ∃ r : List Value, e = .returned (.agg r.toArray) ∧ RepX H sz w' w.heap.size w'.heap.size t r ∧ Below w.heap.size w w'
end Go.Proofs.Ytobahkjbadamhaa
