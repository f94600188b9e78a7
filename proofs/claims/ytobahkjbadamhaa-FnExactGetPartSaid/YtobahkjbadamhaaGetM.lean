/- GetPart: the part of a value, in plain words. -/
import Derived.Test.YtobahkjbadamhaaFits3
import Derived.Test.YtobahkjbadamhaaSubMI
namespace Go.Proofs.Ytobahkjbadamhaa
open Go.RowKit
set_option linter.unusedVariables false
/-- A type moved from a tree at a to one at q. -/
def shT (a q : Nat) (x : DType) : DType := { x with up := x.up - a + q }
def rowsAt (L : List DType) (t : K) (a e : Nat) : Prop := ∀ (up : Int) (q : Nat), ∃ h : a < L.length, rowsK t up q = { L[a] with up := up } :: ((L.drop (a + 1)).take (e - (a + 1))).map (shT a q)
theorem encL_rows {L : List DType} (a : Nat) : ∀ ps : List K, (∀ p ∈ ps, ∀ a' e, enc L p a' e → rowsAt L p a' e) → ∀ e0 e (q : Nat), encL L ps a e0 e → a < e0 → e0 ≤ L.length → rowsL ps q (q + (e0 - a)) = ((L.drop e0).take (e - e0)).map (shT a q) := by
  intro ps
  induction ps with
  | nil =>
    intro _ e0 e q h _ _
    rw [encL] at h
    subst h
    rw [rowsL, Nat.sub_self, List.take_zero]; rfl
  | cons p ps ih =>
    intro hp e0 e q h ha hl
    rw [encL] at h
    obtain ⟨e1, hu, h1, h2⟩ := h
    obtain ⟨b1, b2, b3⟩ := enc_bd p _ _ h1
    obtain ⟨c1, c2, c3⟩ := encL_bd' h2 (by omega) b2
    have hc := enc_count p _ _ h1
    have hi := ih (fun r hr => hp r (by simp [hr])) e1 e q h2 (by omega) b2
    obtain ⟨g1, g2⟩ := hp p (by simp) _ _ h1 (q : Int) (q + (e0 - a))
    rw [show p :: ps = [] ++ p :: ps from rfl] at *
    have hrl : rowsL (p :: ps) q (q + (e0 - a)) = rowsK p q (q + (e0 - a)) ++ rowsL ps q (q + (e0 - a) + countK p) := by rw [rowsL]
    rw [List.nil_append, hrl, show q + (e0 - a) + countK p = q + (e1 - a) by omega, hi, g2]
    have h3 : (L.drop e0).take (e - e0) = (L.drop e0).take (e1 - e0) ++ (L.drop e1).take (e - e1) := by
      have h4 : (L.drop e0).drop (e1 - e0) = L.drop e1 := by rw [List.drop_drop]; congr 1; omega
      rw [← h4, ← List.take_add]; congr 1; omega
    rw [h3, List.map_append]
    congr 1
    have h5 : (L.drop e0).take (e1 - e0) = L[e0] :: (L.drop (e0 + 1)).take (e1 - (e0 + 1)) := by
      rw [List.drop_eq_getElem_cons g1, show e1 - e0 = (e1 - (e0 + 1)) + 1 by omega, List.take_succ_cons]
    rw [h5, List.map_cons]
    rw [U_at g1] at hu
    congr 1
    · show ({ L[e0] with up := (q : Int) } : DType) = { L[e0] with up := L[e0].up - a + q }
      exact congrArg (fun z : Int => ({ L[e0] with up := z } : DType)) (by rw [hu]; omega)
    · apply List.map_congr_left
      intro x _
      rw [shT, shT]
      congr 1
      omega
theorem enc_rows {L : List DType} (t : K) : ∀ a e, enc L t a e → rowsAt L t a e := by
  refine K.ind (P := fun t => ∀ a e, enc L t a e → rowsAt L t a e) ?_ t
  intro o nm no mu mo ps ih a e h up q
  rw [enc] at h
  obtain ⟨⟨x, hx, hk0, hk1, hk2, hk3, hk4⟩, _, hL⟩ := h
  obtain ⟨ha, rfl⟩ := List.getElem?_eq_some_iff.1 hx
  refine ⟨ha, ?_⟩
  rw [rowsK]
  show (⟨o, nm, no, mu, up, mo⟩ : DType) :: rowsL ps q (q + 1) = _
  have := encL_rows a ps ih (a + 1) e q hL (by omega) (by omega)
  rw [show a + 1 - a = 1 by omega] at this
  rw [this]
  congr 1
  cases hLa : L[a] with
  | mk k n o2 m u mm =>
    rw [hLa] at hk0 hk1 hk2 hk3 hk4
    dsimp only at hk0 hk1 hk2 hk3 hk4 ⊢
    rw [hk0, hk1, hk2, hk3, hk4]
theorem tN_nT (x : DNode) : tN (nT x) = x := by cases x; rfl
def shN (a : Nat) (x : DNode) : DNode := { x with up := x.up - a }
/-- The nodes of a part, as a value of their own. -/
def segN (l : List DNode) (a e : Nat) : List DNode := ((l.drop a).take 1).map (fun x => { x with no := 0, up := -1 }) ++ ((l.drop (a + 1)).take (e - (a + 1))).map (shN a)
theorem withNo_mk (o : Int) (nm : ByteArray) (n : Int) (mu : Bool) (mo : Int) (ps : List K) (m : Int) : withNo (.mk o nm n mu mo ps) m = .mk o nm m mu mo ps := rfl
theorem seg_rows {l : List DNode} {v : K} {a e : Nat} (h : enc (trees l) v a e) : rowsV (withNo v 0) (-1) 0 = segN l a e := by
  obtain ⟨g1, g2⟩ := enc_rows v _ _ h (-1) 0
  rw [trees_len] at g1
  have h1 : rowsK (withNo v 0) (-1) 0 = { nT l[a] with no := 0, up := -1 } :: (((trees l).drop (a + 1)).take (e - (a + 1))).map (shT a 0) := by
    have h2 := rowsK_eq v (-1) 0
    rw [g2] at h2
    injection h2 with h3 h4
    rw [rowsK_eq, show (withNo v 0).parts = v.parts from by cases v; rfl, ← h4]
    congr 1
    obtain ⟨o, nm, no, mu, mo, ps⟩ := v
    rw [trees_at g1 (by rw [trees_len]; exact g1)] at h3
    rw [withNo_mk]
    cases hn : nT l[a] with
    | mk k n o2 m u mm =>
      rw [hn] at h3
      dsimp only [K.of, K.name, K.no, K.must, K.most] at h3 ⊢
      injection h3 with q0 q1 q2 q3 q4 q5
      subst q0; subst q1; subst q3; subst q5
      rfl
  rw [rowsV, h1, segN, List.map_cons, List.drop_eq_getElem_cons g1, List.take_succ_cons, List.take_zero, List.map_cons, List.map_nil, List.cons_append, List.nil_append]
  congr 1
  rw [trees, ← List.map_drop, ← List.map_take, List.map_map, List.map_map]
  apply List.map_congr_left
  intro x _
  cases x with
  | mk n t o u m =>
    simp only [Function.comp, nT, shT, tN, shN]
    congr 1
    omega
theorem Sb.enc {L : List DType} {a : Nat} {t : K} (h : Sb L a t) : ∃ e, enc L t a e ∧ Out L a e := h
/-- What GetPart asks. -/
def getC (ln : List DNode) (l : List DType) (no : Int) : Prop :=
  ∃ t v j i, treeOf l t ∧ goodP l ∧ headP ln ∧ enc (trees ln) v 0 ln.length ∧ fitsB t v = true ∧ (∃ hj : firstP t.parts no j, (t.parts[j]'hj.1).of = 5) ∧ firstP v.parts no i
def getP (ln : List DNode) (l : List DType) (no : Int) (b : Bool) (r : List DNode) : Prop :=
  (b = true ↔ getC ln l no) ∧ (b = false → r = []) ∧ (b = true → ∃ v i, ∃ h : firstP v.parts no i, enc (trees ln) v 0 ln.length ∧ r = rowsV (withNo (v.parts[i]'h.1) 0) (-1) 0)
theorem head_len {ln : List DNode} (h : headP ln) : 1 ≤ ln.length ∧ ln.length ≤ 40 := h.1
theorem countN {ln : List DNode} {v : K} (h : enc (trees ln) v 0 ln.length) : countK v = ln.length := by
  have := enc_count v _ _ h; omega
theorem getP_ex (ln : List DNode) (l : List DType) (no : Int) : ∃ b r, getP ln l no b r ∧ r.length ≤ 40 := by
  by_cases h : getC ln l no
  · obtain ⟨t, v, j, i, h1, h2, h3, h4, h5, h6, h7⟩ := h
    refine ⟨true, rowsV (withNo (v.parts[i]'h7.1) 0) (-1) 0, ⟨⟨fun _ => ⟨t, v, j, i, h1, h2, h3, h4, h5, h6, h7⟩, fun _ => rfl⟩, (fun e => by cases e), fun _ => ⟨v, i, h7, h4, rfl⟩⟩, ?_⟩
    rw [rowsV_len]
    have g1 := countN h4
    have g2 := count_part (List.getElem_mem h7.1)
    have g3 := countK_eq v
    have g4 : countK (withNo (v.parts[i]'h7.1) 0) = countK (v.parts[i]'h7.1) := by
      generalize v.parts[i]'h7.1 = x
      obtain ⟨o, nm, n, mu, mo, ps⟩ := x
      rw [withNo_mk, countK, countK]
    have := h3.1
    omega
  · exact ⟨false, [], ⟨⟨(fun e => by cases e), fun e => absurd e h⟩, fun _ => rfl, (fun e => by cases e)⟩, by simp⟩
theorem encN_uniq {ln : List DNode} {v v' : K} (h : enc (trees ln) v 0 ln.length) (h' : enc (trees ln) v' 0 ln.length) : v = v' := by
  rw [← trees_len ln] at h h'
  exact Sb.uniq v 0 v' (enc_out h) (enc_out h')
/-- The place of a part. -/
theorem kid_at {ln : List DNode} {v : K} (h : enc (trees ln) v 0 ln.length) {i : Nat} (hi : i < v.parts.length) : ∃ a e : Nat, enc (trees ln) v.parts[i] a e ∧ Out (trees ln) a e ∧ ∃ hk : i < (kidsOf (trees ln) 0).length, (kidsOf (trees ln) 0)[i] = a := by
  rw [← trees_len ln] at h
  obtain ⟨_, _, _, hK⟩ := (enc_out h).at
  have hk : i < (kidsOf (trees ln) 0).length := by rw [hK.1]; exact hi
  obtain ⟨e, g1, g2⟩ := hK.2 i hk hi
  exact ⟨_, e, g1, g2, hk, rfl⟩
def upIs (no : Int) (x : DNode) : Bool := x.up == 0 && x.no == no
theorem kid_no {ln : List DNode} {v : K} {a e : Nat} (h : enc (trees ln) v a e) : ∃ ha : a < ln.length, ln[a].no = v.no := by
  obtain ⟨ha, _, _, h2, _⟩ := encV_top h
  exact ⟨ha, h2⟩
theorem kid_ix {ln : List DNode} {v : K} (h : enc (trees ln) v 0 ln.length) {b : Nat} (hb0 : 0 < b) (hb : b < ln.length) (hu : ln[b].up = 0) : ∃ j, ∃ hj : j < v.parts.length, (∃ hk : j < (kidsOf (trees ln) 0).length, (kidsOf (trees ln) 0)[j] = b) ∧ ln[b].no = (v.parts[j]).no := by
  have hm : b ∈ kidsOf (trees ln) 0 := mem_seg.2 ⟨by omega, by rw [trees_len]; exact hb, by rw [UN_at hb, hu]; rfl⟩
  obtain ⟨j, hj, e⟩ := kid_of hm
  have hj2 : j < v.parts.length := by
    rw [← trees_len ln] at h
    obtain ⟨_, _, _, hK⟩ := (enc_out h).at
    rw [← hK.1]; exact hj
  obtain ⟨a, e2, g1, _, hk, g3⟩ := kid_at h hj2
  obtain ⟨ha, g4⟩ := kid_no g1
  have : a = b := by rw [← g3, e]
  subst this
  exact ⟨j, hj2, ⟨hj, e⟩, g4⟩
/-- The first node of a number in the top. -/
theorem first_node {ln : List DNode} {v : K} (hh : headP ln) (h : enc (trees ln) v 0 ln.length) {no : Int} {i : Nat} (hf : firstP v.parts no i) : ∃ a e : Nat, fidx (upIs no) ln = (a : Int) ∧ enc (trees ln) (v.parts[i]'hf.1) a e ∧ Out (trees ln) a e ∧ 0 < a ∧ a < ln.length := by
  obtain ⟨a, e, h1, h2, hk, h3⟩ := kid_at h hf.1
  obtain ⟨ha, h4⟩ := kid_no h1
  have hu : a ∈ kidsOf (trees ln) 0 := by rw [← h3]; exact List.getElem_mem _
  obtain ⟨m1, m2, m3⟩ := mem_seg.1 hu
  rw [UN_at ha] at m3
  refine ⟨a, e, ?_, h1, h2, by omega, ha⟩
  refine fidx_hit ha ?_ (by simp [upIs, m3, h4, hf.2.1])
  intro b hb hba
  cases hq : upIs no ln[b] with
  | false => rfl
  | true =>
    exfalso
    simp only [upIs, Bool.and_eq_true, beq_iff_eq] at hq
    have hb0 : 0 < b := by
      by_cases e0 : b = 0
      · subst e0
        have := (hh.up (by omega)).1
        omega
      · omega
    obtain ⟨j, hj, ⟨hjk, g1⟩, g2⟩ := kid_ix h hb0 hb hq.1
    by_cases hji : j < i
    · exact hf.2.2 j hji (by rw [← g2]; exact hq.2)
    · by_cases e0 : i = j
      · subst e0; omega
      · have := kids_mono (show i < j by omega) hjk
        omega
theorem none_node {ln : List DNode} {v : K} (hh : headP ln) (h : enc (trees ln) v 0 ln.length) {no : Int} (hf : noneP v.parts no) : fidx (upIs no) ln = -1 := by
  refine fidx_none (k := ln.length) (Nat.le_refl _) ?_
  intro b hb _
  cases hq : upIs no ln[b] with
  | false => rfl
  | true =>
    exfalso
    simp only [upIs, Bool.and_eq_true, beq_iff_eq] at hq
    have hb0 : 0 < b := by
      by_cases e0 : b = 0
      · subst e0
        have := (hh.up (by omega)).1
        omega
      · omega
    obtain ⟨j, hj, _, g2⟩ := kid_ix h hb0 hb hq.1
    exact hf j hj (by rw [← g2]; exact hq.2)
theorem first_uniq {ps : List K} {no : Int} {i j : Nat} (h : firstP ps no i) (h' : firstP ps no j) : i = j := by
  by_cases h1 : i < j
  · exact absurd h.2.1 (h'.2.2 i h1)
  · by_cases h2 : j < i
    · exact absurd h'.2.1 (h.2.2 j h2)
    · omega
/-- A part that is there fits its type. -/
theorem part_fit {t v : K} (ht : rightK t) (h5 : t.of = 5) (hf : fitsB t v = true) {no : Int} {i j : Nat} (hi : firstP v.parts no i) (hj : firstP t.parts no j) : fitsB (t.parts[j]'hj.1) (v.parts[i]'hi.1) = true := by
  rw [fitsB_eq, show holdsB t.of = true by rw [h5]; rfl, if_pos rfl, h5, if_neg (by decide)] at hf
  simp only [Bool.and_eq_true] at hf
  obtain ⟨_, h2, _⟩ := (merge_iff _ _ (right_rises ht h5)).1 hf.2
  obtain ⟨k, hk, h3⟩ := found_at h2 (right_rises ht h5) (List.getElem_mem hi.1)
  rw [hi.2.1] at hk
  have := first_uniq hk hj
  subst this
  exact h3
end Go.Proofs.Ytobahkjbadamhaa
