/- Values as trees: their rows; the least value of a type; plain (with FitM, MergeM). -/
import Derived.Test.YtobahkjbadamhaaSchemas
import Derived.Test.YtobahkjbadamhaaNode
import Derived.Test.YtobahkjbadamhaaTrees
import Derived.Test.YtobahkjbadamhaaBases
import Derived.Test.YtobahkjbadamhaaSubMI
/- Values as trees: their rows; the least value of a type; plain. -/
namespace Go.Proofs.Ytobahkjbadamhaa
open Go.RowKit
set_option linter.unusedVariables false
theorem DNode.enc_one (l : List DNode) : ∀ u ∈ (l.map DNode.enc).flatten, u.oneCell' = true := by
  intro u hu
  obtain ⟨r, hr, hu⟩ := List.mem_flatten.1 hu
  obtain ⟨x, _, rfl⟩ := List.mem_map.1 hr
  simp only [DNode.enc, List.mem_cons, List.not_mem_nil, or_false] at hu
  rcases hu with rfl | rfl | rfl | rfl | rfl <;> rfl
/-- The node of a value's top: the tree holds the number in 'most', the text in 'name', whether it is many in 'must'. -/
def tN (x : DType) : DNode := ⟨x.most, x.name, x.no, x.up, x.must⟩
def HV (t : K) : List Value := [.int .i64 t.most, .string t.name, .int .i64 t.no, .bool t.must]
def topV (t : K) (up : Int) : DNode := ⟨t.most, t.name, t.no, up, t.must⟩
def rowsV (t : K) (up : Int) (q : Nat) : List DNode := (rowsK t up q).map tN
theorem rowsV_eq (t : K) (up : Int) (q : Nat) : rowsV t up q = topV t up :: (rowsL t.parts q (q + 1)).map tN := by rw [rowsV, rowsK_eq]; rfl
theorem rowsV_len (t : K) (up : Int) (q : Nat) : (rowsV t up q).length = countK t := by rw [rowsV, List.length_map, rows_count]
def upToV (out : List DNode) (x : DNode) (ps : List K) (j : Nat) : List DNode := out ++ x :: (rowsL (ps.take j) out.length (out.length + 1)).map tN
theorem upToV_zero (out : List DNode) (x : DNode) (ps : List K) : upToV out x ps 0 = out ++ [x] := by rw [upToV, List.take_zero, rowsL]; rfl
theorem upToV_len (out : List DNode) (x : DNode) (ps : List K) (j : Nat) : (upToV out x ps j).length = out.length + 1 + countL (ps.take j) := by rw [upToV, List.length_append, List.length_cons, List.length_map, rowsL_len]; omega
theorem upToV_step {ps : List K} {j : Nat} (h : j < ps.length) (out : List DNode) (x : DNode) : upToV out x ps (j + 1) = upToV out x ps j ++ rowsV ps[j] out.length (upToV out x ps j).length := by
  rw [upToV_len, upToV, rowsL_take h, upToV, List.append_assoc, List.cons_append, List.map_append]; rfl
theorem upToV_end (out : List DNode) (t : K) (up : Int) : upToV out (topV t up) t.parts t.parts.length = out ++ rowsV t up out.length := by rw [upToV, List.take_length, rowsV_eq]
theorem map_snocN (l : List DNode) (x : DNode) : l.map DNode.enc ++ [x.enc] = (l ++ [x]).map DNode.enc := by rw [List.map_append]; rfl
mutual
/-- The least value of a type. -/
def leastK : K → Int → K
  | .mk o _ _ _ _ ps => fun no => .mk (if holdsB o then 5 else 1) ⟨#[]⟩ no (holdsB o) 0 (if o = 5 then leastL ps else [])
def leastL : List K → List K
  | [] => []
  | p :: ps => if p.must then leastK p p.no :: leastL ps else leastL ps
end
theorem leastL_snoc (p : K) : ∀ ps : List K, leastL (ps ++ [p]) = leastL ps ++ if p.must then [leastK p p.no] else [] := by
  intro ps
  induction ps with
  | nil => rw [List.nil_append, leastL]; simp only [leastL]; split <;> simp
  | cons x xs ih => rw [List.cons_append, leastL, leastL, ih]; split <;> simp
theorem leastL_take {ps : List K} {j : Nat} (h : j < ps.length) : leastL (ps.take (j + 1)) = leastL (ps.take j) ++ if ps[j].must then [leastK ps[j] ps[j].no] else [] := by
  rw [List.take_succ_eq_append_getElem h, leastL_snoc]
theorem least_count (t : K) : ∀ no, countK (leastK t no) ≤ countK t := by
  refine K.ind (P := fun t => ∀ no, countK (leastK t no) ≤ countK t) ?_ t
  intro o nm no0 mu mo ps ih no
  have hL : countL (leastL ps) ≤ countL ps := by
    clear no
    induction ps with
    | nil => rw [leastL]; exact Nat.le_refl _
    | cons x xs ihx =>
      have h1 := ih x (by simp) x.no
      have h2 := ihx (fun p hp => ih p (by simp [hp]))
      rw [leastL]
      split
      · rw [countL, countL]; omega
      · rw [countL]; omega
  rw [leastK, countK, countK]
  split
  · omega
  · rw [countL]; omega
theorem leastL_le (ps : List K) : countL (leastL ps) ≤ countL ps := by
  induction ps with
  | nil => rw [leastL]; exact Nat.le_refl _
  | cons x xs ihx =>
    have h1 := least_count x x.no
    rw [leastL]
    split
    · rw [countL, countL]; omega
    · rw [countL]; omega
/-- A tree with another number. -/
def withNo : K → Int → K
  | .mk o nm _ mu mo ps => fun n => .mk o nm n mu mo ps
theorem least_no (t : K) (n m : Int) : withNo (leastK t n) m = leastK t m := by cases t; rfl
theorem least_top (t : K) (no up : Int) : topV (leastK t no) up = ⟨0, ⟨#[]⟩, no, up, holdsB t.of⟩ := by cases t; rfl
theorem least_parts (t : K) (no : Int) : (leastK t no).parts = if t.of = 5 then leastL t.parts else [] := by cases t; rfl
theorem least_parts5 {t : K} (h : t.of = 5) (no : Int) : (leastK t no).parts = leastL t.parts := by rw [least_parts, if_pos h]
theorem least_partsN {t : K} (h : t.of ≠ 5) (no : Int) : (leastK t no).parts = [] := by rw [least_parts, if_neg h]
/-- A tree in memory with another number: one cell is another. -/
theorem RepX.withNo {w : World} {lo hi : Nat} {t : K} {a : Value} {b : Value} {n : Int} {d : Value} {s : Value} (h : RepX HV 5 w lo hi t [a, b, .int .i64 n, d, s]) (m : Int) : RepX HV 5 w lo hi (withNo t m) [a, b, .int .i64 m, d, s] := by
  obtain ⟨o, nm, no, mu, mo, ps⟩ := t
  rw [RepX] at h
  obtain ⟨s', rows, e, h3, h4⟩ := h
  simp [HV, K.most, K.name, K.no, K.must] at e
  obtain ⟨rfl, rfl, rfl, rfl, rfl⟩ := e
  show RepX HV 5 w lo hi (.mk o nm m mu mo ps) _
  rw [RepX]
  exact ⟨_, rows, rfl, h3, h4⟩
theorem RepX.openV {w : World} {lo hi : Nat} {t : K} {r : List Value} (h : RepX HV 5 w lo hi t r) : ∃ (a : Option Addr) (c : Nat) (rows : List (List Value)), r = [.int .i64 t.most, .string t.name, .int .i64 t.no, .bool t.must, .slice a t.parts.length c] ∧
    XSl 5 w lo hi (.slice a t.parts.length c) rows ∧ rows.length = t.parts.length ∧ ∀ j (h : j < t.parts.length) (h' : j < rows.length), RepX HV 5 w lo hi t.parts[j] rows[j] := h.open
/-- A tree by value, in blocks of the call's own. -/
def XPost (H : K → List Value) (sz : Nat) (t : K) (w : World) (e : Ending) (w' : World) : Prop := ∃ r : List Value, e = .returned (.agg r.toArray) ∧ RepX H sz w' w.heap.size w'.heap.size t r ∧ Below w.heap.size w w'
end Go.Proofs.Ytobahkjbadamhaa
/- Whether a value fits a type: on trees; plain. -/
namespace Go.Proofs.Ytobahkjbadamhaa
open Go.RowKit
set_option linter.unusedVariables false
/-- A node as a row of a tree. -/
def nT (x : DNode) : DType := ⟨if x.many then 5 else 1, x.text, x.no, x.many, x.up, x.num⟩
def trees (l : List DNode) : List DType := l.map nT
theorem trees_len (l : List DNode) : (trees l).length = l.length := List.length_map ..
theorem trees_at {l : List DNode} {i : Nat} (h : i < l.length) (h' : i < (trees l).length) : (trees l)[i] = nT l[i] := by simp [trees]
theorem UN_at {l : List DNode} {i : Nat} (h : i < l.length) : U (trees l) i = l[i].up := by
  rw [U_at (by rw [trees_len]; exact h), trees_at h]; rfl
theorem UN_no {l : List DNode} {i : Nat} (h : l.length ≤ i) : U (trees l) i = -2 := U_no (by rw [trees_len]; exact h)
def leafB (o mo : Int) (v : K) : Bool := !v.must && (if o = 2 then (v.most == 0) && decide (v.name.size ≤ 30) else if o = 3 then decide (0 ≤ v.most ∧ v.most ≤ mo) && v.name.toList.isEmpty else numB v.most && v.name.toList.isEmpty)
mutual
/-- Whether a value's tree fits a type. -/
def fitsB : K → K → Bool
  | .mk o _ _ _ mo ps => fun v => if holdsB o then v.must && (v.most == 0) && v.name.toList.isEmpty && (if o = 4 then fitsH ps v.parts else mergeB ps v.parts) else leafB o mo v
def fitsH : List K → List K → Bool
  | [] => fun _ => false
  | p :: _ => fun vs => vs.all (fun v => (v.no == 0) && fitsB p v)
def mergeB : List K → List K → Bool
  | [] => fun vs => vs.isEmpty
  | p :: ps => fun vs => match vs with
    | [] => !p.must && mergeB ps []
    | v :: vs' => if v.no = p.no then fitsB p v && mergeB ps vs' else !p.must && mergeB ps (v :: vs')
end
theorem fitsB_eq (t v : K) : fitsB t v = if holdsB t.of then v.must && (v.most == 0) && v.name.toList.isEmpty && (if t.of = 4 then fitsH t.parts v.parts else mergeB t.parts v.parts) else leafB t.of t.most v := by
  cases t; rw [fitsB]; rfl
theorem fitsH_one (p : K) (vs : List K) : fitsH [p] vs = vs.all (fun v => (v.no == 0) && fitsB p v) := by rw [fitsH]
theorem merge_nil (vs : List K) : mergeB [] vs = vs.isEmpty := by rw [mergeB]
theorem merge_none (p : K) (ps : List K) : mergeB (p :: ps) [] = (!p.must && mergeB ps []) := by rw [mergeB]
theorem merge_eq {p v : K} (h : v.no = p.no) (ps vs : List K) : mergeB (p :: ps) (v :: vs) = (fitsB p v && mergeB ps vs) := by rw [mergeB]; simp [h]
theorem merge_ne {p v : K} (h : v.no ≠ p.no) (ps vs : List K) : mergeB (p :: ps) (v :: vs) = (!p.must && mergeB ps (v :: vs)) := by rw [mergeB]; simp [h]
/-- What the nodes of a tree are at its top. -/
theorem encV_top {l : List DNode} {v : K} {a e : Nat} (h : enc (trees l) v a e) : ∃ ha : a < l.length, l[a].num = v.most ∧ l[a].text = v.name ∧ l[a].no = v.no ∧ l[a].many = v.must ∧ (v.must = true ∨ v.parts = []) := by
  obtain ⟨o, nm, no, mu, mo, ps⟩ := v
  rw [enc] at h
  obtain ⟨⟨x, hx, k0, k1, k2, k3, k4⟩, hh, _⟩ := h
  obtain ⟨ha, rfl⟩ := List.getElem?_eq_some_iff.1 hx
  have hal : a < l.length := by rw [trees_len] at ha; exact ha
  rw [trees_at hal] at k0 k1 k2 k3 k4
  refine ⟨hal, k4, k1, k2, k3, ?_⟩
  rcases hh with hh | hh
  · left
    show mu = true
    rw [← k3]
    show l[a].many = true
    by_cases hm : l[a].many = true
    · exact hm
    · exfalso
      rw [← k0] at hh
      simp [nT, hm, holdsB] at hh
  · exact .inr hh
theorem encV_holds {l : List DNode} {v : K} {a e : Nat} (h : enc (trees l) v a e) (hm : v.must = true) : ∃ h : a < (trees l).length, holdsB (trees l)[a].kind = true := by
  obtain ⟨ha, _, _, _, h3, _⟩ := encV_top h
  refine ⟨by rw [trees_len]; exact ha, ?_⟩
  rw [trees_at ha]
  simp [nT, h3, hm, holdsB]
theorem encV_kids {l : List DNode} {v : K} {a e : Nat} (h : enc (trees l) v a e) : encL (trees l) v.parts a (a + 1) e := by
  cases v; rw [enc] at h; exact h.2.2
end Go.Proofs.Ytobahkjbadamhaa
/- Whether a value's parts fit those of a message: by numbers; plain. -/
namespace Go.Proofs.Ytobahkjbadamhaa
open Go.RowKit
set_option linter.unusedVariables false
def risesK (l : List K) : Prop := l.Pairwise (fun x y => x.no < y.no)
theorem rises_of {l : List K} (h : ∀ i (h1 : i + 1 < l.length), l[i].no < l[i + 1].no) : risesK l := by
  have hlt : ∀ d i (h1 : i + d + 1 < l.length), l[i].no < l[i + d + 1].no := by
    intro d
    induction d with
    | zero => intro i h1; exact h i h1
    | succ d ih => intro i h1; have a := ih i (by omega); have b := h (i + d + 1) (by omega); exact Int.lt_trans a b
  unfold risesK
  rw [List.pairwise_iff_getElem]
  intro i j hi hj hij
  have := hlt (j - i - 1) i (by omega)
  have e : i + (j - i - 1) + 1 = j := by omega
  simpa [e] using this
theorem risesK.at {l : List K} (h : risesK l) {i : Nat} (h1 : i + 1 < l.length) : l[i].no < l[i + 1].no := by
  unfold risesK at h
  rw [List.pairwise_iff_getElem] at h
  exact h i (i + 1) (by omega) h1 (by omega)
def mustP (ps vs : List K) : Prop := ∀ y ∈ ps, y.must = true → ∃ x ∈ vs, x.no = y.no
def foundP (ps vs : List K) : Prop := ∀ v ∈ vs, ∃ y ∈ ps, y.no = v.no ∧ fitsB y v = true
theorem merge_iff : ∀ (ps vs : List K), risesK ps → (mergeB ps vs = true ↔ risesK vs ∧ foundP ps vs ∧ mustP ps vs) := by
  intro ps
  induction ps with
  | nil =>
    intro vs _
    rw [merge_nil]
    cases vs with
    | nil => simp [risesK, foundP, mustP]
    | cons v vs =>
      simp only [List.isEmpty_cons]
      constructor
      · intro h; cases h
      · rintro ⟨_, h, _⟩
        obtain ⟨y, hy, _⟩ := h v (by simp)
        cases hy
  | cons p ps ih =>
    intro vs hr
    obtain ⟨hp, hps⟩ := List.pairwise_cons.1 hr
    cases vs with
    | nil =>
      rw [merge_none, Bool.and_eq_true, ih [] hps]
      constructor
      · rintro ⟨h1, _, _, h3⟩
        refine ⟨List.Pairwise.nil, fun v hv => by simp at hv, fun y hy hm => ?_⟩
        rcases List.mem_cons.1 hy with rfl | hy
        · rw [hm] at h1; simp at h1
        · exact h3 y hy hm
      · rintro ⟨_, _, h3⟩
        refine ⟨?_, List.Pairwise.nil, fun v hv => by simp at hv, fun y hy hm => h3 y (by simp [hy]) hm⟩
        cases hm : p.must with
        | false => rfl
        | true => obtain ⟨x, hx, _⟩ := h3 p (by simp) hm; simp at hx
    | cons v vs =>
      by_cases hno : v.no = p.no
      · rw [merge_eq hno, Bool.and_eq_true, ih vs hps]
        constructor
        · rintro ⟨h0, h1, h2, h3⟩
          refine ⟨List.pairwise_cons.2 ⟨fun x hx => ?_, h1⟩, fun x hx => ?_, fun y hy hm => ?_⟩
          · obtain ⟨y, hy, e, _⟩ := h2 x hx
            have := hp y hy
            omega
          · rcases List.mem_cons.1 hx with rfl | hx
            · exact ⟨p, by simp, hno.symm, h0⟩
            · obtain ⟨y, hy, e, f⟩ := h2 x hx
              exact ⟨y, by simp [hy], e, f⟩
          · rcases List.mem_cons.1 hy with rfl | hy
            · exact ⟨v, by simp, hno⟩
            · obtain ⟨x, hx, e⟩ := h3 y hy hm
              exact ⟨x, by simp [hx], e⟩
        · rintro ⟨h1, h2, h3⟩
          obtain ⟨h1a, h1b⟩ := List.pairwise_cons.1 h1
          refine ⟨?_, h1b, fun x hx => ?_, fun y hy hm => ?_⟩
          · obtain ⟨y, hy, e, f⟩ := h2 v (by simp)
            rcases List.mem_cons.1 hy with rfl | hy
            · exact f
            · have := hp y hy; omega
          · obtain ⟨y, hy, e, f⟩ := h2 x (by simp [hx])
            rcases List.mem_cons.1 hy with rfl | hy
            · have := h1a x hx; omega
            · exact ⟨y, hy, e, f⟩
          · obtain ⟨x, hx, e⟩ := h3 y (by simp [hy]) hm
            rcases List.mem_cons.1 hx with rfl | hx
            · have := hp y hy; omega
            · exact ⟨x, hx, e⟩
      · rw [merge_ne hno, Bool.and_eq_true, ih (v :: vs) hps]
        constructor
        · rintro ⟨h0, h1, h2, h3⟩
          refine ⟨h1, fun x hx => ?_, fun y hy hm => ?_⟩
          · obtain ⟨y, hy, e, f⟩ := h2 x hx
            exact ⟨y, by simp [hy], e, f⟩
          · rcases List.mem_cons.1 hy with rfl | hy
            · rw [hm] at h0; simp at h0
            · exact h3 y hy hm
        · rintro ⟨h1, h2, h3⟩
          obtain ⟨h1a, h1b⟩ := List.pairwise_cons.1 h1
          have hgt : ∀ x ∈ v :: vs, p.no < x.no := by
            have hv : p.no < v.no := by
              obtain ⟨y, hy, e, _⟩ := h2 v (by simp)
              rcases List.mem_cons.1 hy with rfl | hy
              · exact absurd e.symm hno
              · have := hp y hy; omega
            intro x hx
            rcases List.mem_cons.1 hx with rfl | hx
            · exact hv
            · have := h1a x hx; omega
          refine ⟨?_, h1, fun x hx => ?_, fun y hy hm => h3 y (by simp [hy]) hm⟩
          · cases hm : p.must with
            | false => rfl
            | true => obtain ⟨x, hx, e⟩ := h3 p (by simp) hm; have := hgt x hx; omega
          · obtain ⟨y, hy, e, f⟩ := h2 x hx
            rcases List.mem_cons.1 hy with rfl | hy
            · have := hgt x hx; omega
            · exact ⟨y, hy, e, f⟩
def mustsB (ps vs : List K) : Bool := ps.all (fun y => !y.must || vs.any (fun x => x.no == y.no))
theorem musts_iff (ps vs : List K) : mustsB ps vs = true ↔ mustP ps vs := by
  simp only [mustsB, mustP, List.all_eq_true, Bool.or_eq_true, Bool.not_eq_true', List.any_eq_true, beq_iff_eq]
  constructor
  · intro h y hy hm
    rcases h y hy with h | h
    · rw [hm] at h; cases h
    · exact h
  · intro h y hy
    cases hm : y.must with
    | false => exact .inl rfl
    | true => exact .inr (h y hy hm)
theorem right_rises {t : K} (h : rightK t) (h5 : t.of = 5) : risesK t.parts := by
  rcases h.ok.1 with h1 | h1 | h1 | h1
  · omega
  · omega
  · omega
  · unfold risesK
    rw [List.pairwise_iff_getElem]
    intro i j hi hj hij
    exact rising_lt' h1.2.2 i j hij hj
theorem right_holds {t : K} (hr : rightK t) : t.of = 1 ∨ t.of = 2 ∨ t.of = 3 ∨ t.of = 4 ∨ t.of = 5 := by
  rcases hr.ok.1 with h1 | h1 | h1 | h1 <;> omega
theorem found_at {ps vs : List K} (h : foundP ps vs) (hp : risesK ps) {x : K} (hx : x ∈ vs) : ∃ j, ∃ hf : firstP ps x.no j, fitsB (ps[j]'hf.1) x = true := by
  obtain ⟨y, hy, e, hfit⟩ := h x hx
  obtain ⟨j, hj, rfl⟩ := List.getElem_of_mem hy
  refine ⟨j, ⟨hj, e, fun i hi => ?_⟩, hfit⟩
  have := List.pairwise_iff_getElem.1 hp i j (by omega) hj hi
  omega
end Go.Proofs.Ytobahkjbadamhaa
