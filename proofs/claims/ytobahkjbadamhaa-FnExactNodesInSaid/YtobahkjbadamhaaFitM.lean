/- Whether a value fits a type: on trees; plain. -/
import Derived.Test.YtobahkjbadamhaaValM
import Derived.Test.YtobahkjbadamhaaNum
import Derived.Test.YtobahkjbadamhaaSubM
namespace Go.Proofs.Ytobahkjbadamhaa
open Go.RowKit
set_option linter.unusedVariables false
/-- A node as a row of a tree. -/
def nT (x : DNode) : DType := ⟨if x.many then 5 else 1, x.text, x.no, x.many, x.up, x.num⟩
def trees (l : List DNode) : List DType := l.map nT
theorem trees_len (l : List DNode) : (trees l).length = l.length := List.length_map ..
theorem trees_at {l : List DNode} {i : Nat} (h : i < l.length) (h' : i < (trees l).length) : (trees l)[i] = nT l[i] := by simp [trees]
theorem UN_at {l : List DNode} {i : Nat} (h : i < l.length) : U (trees l) i = l[i].up := by
  rw [U_at (by rw [trees_len]; exact h), trees_at h]; rfl
theorem UN_no {l : List DNode} {i : Nat} (h : l.length ≤ i) : U (trees l) i = -2 := U_no (by rw [trees_len]; exact h)
def leafB (o mo : Int) (v : K) : Bool := !v.must && (if o = 2 then (v.most == 0) && decide (v.name.size ≤ 30) else if o = 3 then decide (0 ≤ v.most ∧ v.most ≤ mo) && v.name.toList.isEmpty else numB v.most && v.name.toList.isEmpty)
mutual
/-- Whether a value's tree fits a type. -/
def fitsB : K → K → Bool
  | .mk o _ _ _ mo ps => fun v => if holdsB o then v.must && (v.most == 0) && v.name.toList.isEmpty && (if o = 4 then fitsH ps v.parts else mergeB ps v.parts) else leafB o mo v
def fitsH : List K → List K → Bool
  | [] => fun _ => false
  | p :: _ => fun vs => vs.all (fun v => (v.no == 0) && fitsB p v)
def mergeB : List K → List K → Bool
  | [] => fun vs => vs.isEmpty
  | p :: ps => fun vs => match vs with
    | [] => !p.must && mergeB ps []
    | v :: vs' => if v.no = p.no then fitsB p v && mergeB ps vs' else !p.must && mergeB ps (v :: vs')
end
theorem fitsB_eq (t v : K) : fitsB t v = if holdsB t.of then v.must && (v.most == 0) && v.name.toList.isEmpty && (if t.of = 4 then fitsH t.parts v.parts else mergeB t.parts v.parts) else leafB t.of t.most v := by
  cases t; rw [fitsB]; rfl
theorem fitsH_one (p : K) (vs : List K) : fitsH [p] vs = vs.all (fun v => (v.no == 0) && fitsB p v) := by rw [fitsH]
theorem merge_nil (vs : List K) : mergeB [] vs = vs.isEmpty := by rw [mergeB]
theorem merge_none (p : K) (ps : List K) : mergeB (p :: ps) [] = (!p.must && mergeB ps []) := by rw [mergeB]
theorem merge_eq {p v : K} (h : v.no = p.no) (ps vs : List K) : mergeB (p :: ps) (v :: vs) = (fitsB p v && mergeB ps vs) := by rw [mergeB]; simp [h]
theorem merge_ne {p v : K} (h : v.no ≠ p.no) (ps vs : List K) : mergeB (p :: ps) (v :: vs) = (!p.must && mergeB ps (v :: vs)) := by rw [mergeB]; simp [h]
/-- What the nodes of a tree are at its top. -/
theorem encV_top {l : List DNode} {v : K} {a e : Nat} (h : enc (trees l) v a e) : ∃ ha : a < l.length, l[a].num = v.most ∧ l[a].text = v.name ∧ l[a].no = v.no ∧ l[a].many = v.must ∧ (v.must = true ∨ v.parts = []) := by
  obtain ⟨o, nm, no, mu, mo, ps⟩ := v
  rw [enc] at h
  obtain ⟨⟨x, hx, k0, k1, k2, k3, k4⟩, hh, _⟩ := h
  obtain ⟨ha, rfl⟩ := List.getElem?_eq_some_iff.1 hx
  have hal : a < l.length := by rw [trees_len] at ha; exact ha
  rw [trees_at hal] at k0 k1 k2 k3 k4
  refine ⟨hal, k4, k1, k2, k3, ?_⟩
  rcases hh with hh | hh
  · left
    show mu = true
    rw [← k3]
    show l[a].many = true
    by_cases hm : l[a].many = true
    · exact hm
    · exfalso
      rw [← k0] at hh
      simp [nT, hm, holdsB] at hh
  · exact .inr hh
theorem encV_holds {l : List DNode} {v : K} {a e : Nat} (h : enc (trees l) v a e) (hm : v.must = true) : ∃ h : a < (trees l).length, holdsB (trees l)[a].kind = true := by
  obtain ⟨ha, _, _, _, h3, _⟩ := encV_top h
  refine ⟨by rw [trees_len]; exact ha, ?_⟩
  rw [trees_at ha]
  simp [nT, h3, hm, holdsB]
theorem encV_kids {l : List DNode} {v : K} {a e : Nat} (h : enc (trees l) v a e) : encL (trees l) v.parts a (a + 1) e := by
  cases v; rw [enc] at h; exact h.2.2
end Go.Proofs.Ytobahkjbadamhaa
