/- A good schema as a tree: good, kindOf, GoodSchema of the program. -/
import Derived.Test.YtobahkjbadamhaaKindD
namespace Go.Proofs.Ytobahkjbadamhaa
open Go.RowKit
set_option linter.unusedVariables false
set_option maxRecDepth 100000
set_option maxHeartbeats 1600000 in
theorem good_i (t : K) (v : Value) (w : World) (lo hi : Nat) (hh : hi ≤ w.heap.size) (hc : countK t ≤ 1000000) (hnm : nmOK t) (h : RepP w lo hi t v) (r : Bool) (hr : r = true ↔ goodK t) :
    Calls Try.prog 99 #[v] w (BoolPost r w) := by
  obtain ⟨rr, hrr⟩ := boolOf (rightK t)
  have cr := hd (right_i t v w lo hi hh hc hnm h rr hrr)
  have cd := hd (fun w' (hb : Below w.heap.size w w') => deep_i t v w' lo hi (Nat.le_trans hh hb.size) hc (h.below hh hb))
  have cc := hd (fun w' (hb : Below w.heap.size w w') => count_i t v w' lo hi (Nat.le_trans hh hb.size) hc (h.below hh hb))
  obtain ⟨b, a, c, vs, rfl, hb, c0, c1, c2, c3, c4, c5, hS, hl, hg⟩ := h.open
  have hz := hd (show r = ((t.of == 5) && t.name.toList.isEmpty && (t.no == 0) && !t.must && rr && decide (deepK t ≤ 5) && decide ((countK t : Int) ≤ 30)) by
    rw [Bool.eq_iff_iff, hr, goodK, blankP]
    simp only [Bool.and_eq_true, beq_iff_eq, emp_iff, Bool.not_eq_true', decide_eq_true_eq, hrr]
    constructor
    · rintro ⟨g1, ⟨g2, g3, g4⟩, g5, g6, g7⟩; exact ⟨⟨⟨⟨⟨⟨g1, g2⟩, g3⟩, g4⟩, g5⟩, g6⟩, by omega⟩
    · rintro ⟨⟨⟨⟨⟨⟨g1, g2⟩, g3⟩, g4⟩, g5⟩, g6⟩, g7⟩; exact ⟨g1, ⟨g2, g3, g4⟩, g5, g6, by omega⟩)
  clear hr hrr c4 c5 hS hl hg h hnm
  generalize t.of = o at *
  generalize t.name = nm at *
  generalize t.no = no at *
  generalize t.must = mu at *
  generalize deepK t = d at *
  generalize (countK t : Int) = n at *
  cases h1 : (o == 5) with
  | false =>
    go_enter Try.func99, Try.ntmps99
    go_wp2_with fail
    go_ret
    exact ⟨by rw [hz.out, h1]; rfl, Below.refl _ _⟩
  | true =>
    cases h2 : nm.toList.isEmpty with
    | false =>
      go_enter Try.func99, Try.ntmps99
      go_wp2_with fail
      go_ret
      exact ⟨by rw [hz.out, h1, h2]; rfl, Below.refl _ _⟩
    | true =>
      cases h3 : (no == 0) with
      | false =>
        go_enter Try.func99, Try.ntmps99
        go_wp2_with fail
        go_ret
        exact ⟨by rw [hz.out, h1, h2, h3]; rfl, Below.refl _ _⟩
      | true =>
        cases mu with
        | true =>
          go_enter Try.func99, Try.ntmps99
          go_wp2_with fail
          go_ret
          exact ⟨by rw [hz.out, h1, h2, h3]; rfl, Below.refl _ _⟩
        | false =>
          cases rr with
          | false =>
            go_enter Try.func99, Try.ntmps99
            go_wp2_with fail
            refine cr.out.mono ?_
            rintro e w2 ⟨rfl, hb2⟩
            replace hb2 := hd hb2
            go_wp2_with fail
            go_ret
            exact ⟨by rw [hz.out, h1, h2, h3]; rfl, hb2.out⟩
          | true =>
            cases h5 : decide (d ≤ 5) with
            | false =>
              replace h5 := hd h5
              have h5b : ¬ d ≤ 5 := by have := h5.out; simpa using this
              go_enter Try.func99, Try.ntmps99
              go_wp2_with fail
              refine cr.out.mono ?_
              rintro e w2 ⟨rfl, hb2⟩
              replace hb2 := hd hb2
              go_wp2_with fail
              refine (cd.out _ hb2.out).mono ?_
              rintro e w3 ⟨rfl, hb3⟩
              have hB3 := hd (hb2.out.next hb3)
              clear hb3
              go_wp2_with fail
              go_ret
              exact ⟨by rw [hz.out, h1, h2, h3, h5.out]; rfl, hB3.out⟩
            | true =>
              replace h5 := hd h5
              have h5b : d ≤ 5 := by have := h5.out; simpa using this
              go_enter Try.func99, Try.ntmps99
              go_wp2_with fail
              refine cr.out.mono ?_
              rintro e w2 ⟨rfl, hb2⟩
              replace hb2 := hd hb2
              go_wp2_with fail
              refine (cd.out _ hb2.out).mono ?_
              rintro e w3 ⟨rfl, hb3⟩
              have hB3 := hd (hb2.out.next hb3)
              clear hb3
              go_wp2_with fail
              refine (cc.out _ hB3.out).mono ?_
              rintro e w4 ⟨rfl, hb4⟩
              have hB4 := hd (hB3.out.next hb4)
              clear hb4
              go_wp2_with fail
              go_ret
              exact ⟨by rw [hz.out, h1, h2, h3, h5.out]; rfl, hB4.out⟩
/-- A good schema's tree. -/
def treeOf (l : List DType) (t : K) : Prop := enc l t 0 l.length ∧ goodK t
theorem good_tree {l : List DType} (h : goodP l) : ∃ t, treeOf l t := by
  obtain ⟨hf, t, he, hd⟩ := h
  have hn := hf.1
  obtain ⟨h0, h1, h2, h3⟩ := hf.2.1
  obtain ⟨t2, e2, g1, g2⟩ := parse l.length 0 (by omega) h0 (fun i hi => by have : i = 0 := by omega
                                                                            subst this; rw [U_at h0, h2]; omega)
  obtain ⟨rfl, hg⟩ := (good_iff hn (by rw [U_at h0, h2]) g1 g2).2 ⟨hf, t, he, hd⟩
  exact ⟨t2, g1, hg⟩
theorem tree_good {l : List DType} {t : K} (h : treeOf l t) (h0 : ∃ h : 0 < l.length, l[0].up = -1) (hn : l.length ≤ 30) : goodP l := by
  obtain ⟨h1, h2, h3, h4, h5, h6⟩ := h
  obtain ⟨g, g2⟩ := h0
  exact ⟨flat_of_tree ⟨by omega, hn⟩ (by rw [U_at g, g2]) h1 h2 h3 h4, t, h1, h5⟩
theorem names_ok {l : List DType} (hs : ∀ x ∈ l, x.name.size ≤ 1000000000000) {t : K} {a e : Nat} (h : enc l t a e) : nmOK t := by
  have key : ∀ t : K, ∀ a e, enc l t a e → t.name.size ≤ 1000000000000 := by
    intro t a e h
    obtain ⟨o, nm, no, mu, mo, ps⟩ := t
    rw [enc] at h
    obtain ⟨⟨x, hx, ht⟩, _⟩ := h
    show nm.size ≤ _
    rw [← ht.2.1]; exact hs x (List.mem_of_getElem? hx)
  have sub : ∀ s t : K, InK s t → ∀ a e, enc l t a e → ∃ a' e', enc l s a' e' := by
    intro s t hi
    induction hi with
    | self t => intro a e h; exact ⟨a, e, h⟩
    | part o nm no mu mo ps p s hp _ ih =>
      intro a e h
      rw [enc] at h
      have hL := h.2.2
      have : ∀ (qs : List K) (e0 e : Nat), p ∈ qs → encL l qs a e0 e → ∃ a' e', enc l p a' e' := by
        intro qs
        induction qs with
        | nil => intro e0 e hp; cases hp
        | cons q qs ihq =>
          intro e0 e hp h
          rw [encL] at h
          obtain ⟨e1, _, g1, g2⟩ := h
          rcases List.mem_cons.1 hp with rfl | hp
          · exact ⟨_, _, g1⟩
          · exact ihq _ _ hp g2
      obtain ⟨a', e', g⟩ := this ps _ _ hp hL
      exact ih a' e' g
  intro s hs2
  obtain ⟨a', e', g⟩ := sub s t hs2 a e h
  exact key s a' e' g
def KoPost (l : List DType) (r : Bool) (w : World) (e : Ending) (w' : World) : Prop :=
  if r then ∃ t v, e = .returned v ∧ treeOf l t ∧ RepP w' w.heap.size w'.heap.size t v ∧ Below w.heap.size w w' else e = .returned (.pointer none) ∧ Below w.heap.size w w'
theorem KoPost_t {l : List DType} {w w' : World} {e : Ending} (h : KoPost l true w e w') : ∃ t v, e = .returned v ∧ treeOf l t ∧ RepP w' w.heap.size w'.heap.size t v ∧ Below w.heap.size w w' := h
theorem KoPost_f {l : List DType} {w w' : World} {e : Ending} (h : KoPost l false w e w') : e = .returned (.pointer none) ∧ Below w.heap.size w w' := h
set_option maxHeartbeats 1600000 in
theorem kindOf_i (l : List DType) (v : Value) (w : World) (hl : l.length ≤ 1000000000000) (hs : ∀ x ∈ l, x.name.size ≤ 1000000000000) (h : Sl w v 6 (l.map DType.enc)) (r : Bool) (hr : r = true ↔ goodP l) :
    Calls Try.prog 63 #[.agg #[v]] w (KoPost l r w) := by
  by_cases hn : 1 ≤ l.length ∧ l.length ≤ 30
  · rcases h.open with ⟨a1, c1, rfl, hrr⟩ | ⟨b1, o1, c0, rfl, hrr, C⟩
    · exfalso; have : l = [] := by simpa using hrr
      subst this; simp at hn
    clear h hrr
    obtain ⟨hn1, hn2⟩ := hn
    have h0 : 0 < l.length := by omega
    simp only [List.length_map]
    have hC := hd C
    obtain ⟨f0, f1, f2, f3, f4, f5⟩ := Cells.rowType l 0 h0 C
    rw [Nat.zero_mul, Nat.add_zero] at f4
    have q0 : ∀ o, (w.alloc o).cell? ⟨b1, o1 + 4, none⟩ = some (.int .i64 l[0].up) := fun o => keepCell (below_a1 w) f4
    have cw := hd (fun w => within_i (l.length : Int) 1 30 w true (by simp; omega))
    have hh0 : (0 : Int) < (l.length : Int) := by omega
    by_cases hu : l[0].up = -1
    · have hU : U l 0 = -1 := by rw [U_at h0, hu]
      obtain ⟨t, e, g1, g2⟩ := parse l.length 0 (by omega) h0 (fun i hi => by have : i = 0 := by omega
                                                                              subst this; rw [hU]; omega)
      have hiff := good_iff ⟨hn1, hn2⟩ hU g1 g2
      have hbd := enc_bd t _ _ g1
      have hec := enc_count t _ _ g1
      have hnm := names_ok hs g1
      have ck := hd (fun w' (hb : Below w.heap.size w w') => kindFrom_i l b1 o1 c0 (by omega) t 0 e w' g1 g2 (hC.out.mono hb))
      have hug : (l[0].up != -1) = false := by simpa using hu
      have hel : e ≤ l.length := hbd.2.1
      obtain ⟨rg, hrg⟩ := boolOf (goodK t)
      have cg := hd (fun v w lo hi hh h => good_i t v w lo hi hh (by omega) hnm h rg hrg)
      replace g1 := hd g1
      rw [hu] at q0
      clear f0 f1 f2 f3 f4 f5 hbd hec hnm C g2 hU hu hug
      replace hiff := hd hiff
      by_cases he : e = l.length
      · subst he
        have hz := hd (show r = rg by rw [Bool.eq_iff_iff, hr, hrg, ← hiff.out]; simp)
        replace hrg := hd hrg
        clear hr
        cases rg with
        | true =>
          go_enter Try.func63, Try.ntmps63
          go_wp2_with fail
          refine (cw.out _).mono ?_
          rintro e w' ⟨rfl, rfl⟩
          go_wp2_with fail
          have ck2 := ck.out _ (below_a1 w (a := .cells #[.slice (some ⟨b1, o1, none⟩) l.length c0] 28))
          refine ck2.mono ?_
          rintro e w2 ⟨vp, rfl, hrp, hb2⟩
          have q1 := keepCell hb2 (show World.cell? _ ⟨w.heap.size, 0, none⟩ = some (.slice (some ⟨b1, o1, none⟩) l.length c0) by go_simp)
          have hB := hd ((below_a1 w).next hb2)
          have cg2 := hd (cg.out _ w2 _ _ (Nat.le_refl _) hrp)
          obtain ⟨bp, _, _, _, rfl, _⟩ := hrp.open
          have hrp := hd hrp
          clear hb2 ck2
          go_wp2_with fail
          refine cg2.out.mono ?_
          rintro e w3 ⟨rfl, hb3⟩
          have hB3 := hd (hB.out.next hb3)
          have hrp3 := hd (RepP.same (Same.below hb3 (Nat.le_refl _)) (by simp) hb3.size t _ hrp.out : RepP w3 w.heap.size w3.heap.size t _)
          clear hb3
          go_wp2_with fail
          go_ret
          show KoPost _ _ _ _ _
          rw [hz.out]
          exact ⟨t, _, rfl, ⟨g1.out, hrg.out.1 trivial⟩, hrp3.out, hB3.out⟩
        | false =>
          go_enter Try.func63, Try.ntmps63
          go_wp2_with fail
          refine (cw.out _).mono ?_
          rintro e w' ⟨rfl, rfl⟩
          go_wp2_with fail
          have ck2 := ck.out _ (below_a1 w (a := .cells #[.slice (some ⟨b1, o1, none⟩) l.length c0] 28))
          refine ck2.mono ?_
          rintro e w2 ⟨vp, rfl, hrp, hb2⟩
          have q1 := keepCell hb2 (show World.cell? _ ⟨w.heap.size, 0, none⟩ = some (.slice (some ⟨b1, o1, none⟩) l.length c0) by go_simp)
          have hB := hd ((below_a1 w).next hb2)
          have cg2 := hd (cg.out _ w2 _ _ (Nat.le_refl _) hrp)
          obtain ⟨bp, _, _, _, rfl, _⟩ := hrp.open
          clear hb2 ck2 hrp
          go_wp2_with fail
          refine cg2.out.mono ?_
          rintro e w3 ⟨rfl, hb3⟩
          have hB3 := hd (hB.out.next hb3)
          clear hb3
          go_wp2_with fail
          go_ret
          show KoPost _ _ _ _ _
          rw [hz.out]
          exact ⟨rfl, hB3.out⟩
      · have hz := hd (show r = false by
          rw [← Bool.not_eq_true, hr, ← hiff.out]; rintro ⟨g, _⟩; exact he g)
        have heI : ((e : Int) != (l.length : Int)) = true := by simp; omega
        clear hr
        go_enter Try.func63, Try.ntmps63
        go_wp2_with fail
        refine (cw.out _).mono ?_
        rintro e w' ⟨rfl, rfl⟩
        go_wp2_with fail
        have ck2 := ck.out _ (below_a1 w (a := .cells #[.slice (some ⟨b1, o1, none⟩) l.length c0] 28))
        refine ck2.mono ?_
        rintro e w2 ⟨vp, rfl, hrp, hb2⟩
        have q1 := keepCell hb2 (show World.cell? _ ⟨w.heap.size, 0, none⟩ = some (.slice (some ⟨b1, o1, none⟩) l.length c0) by go_simp)
        have hB := hd ((below_a1 w).next hb2)
        obtain ⟨bp, _, _, _, rfl, _⟩ := hrp.open
        clear hb2 ck2 hrp
        go_wp2_with fail
        go_ret
        show KoPost _ _ _ _ _
        rw [hz.out]
        exact ⟨rfl, hB.out⟩
    · have hz := hd (show r = false by
        rw [← Bool.not_eq_true, hr]; rintro ⟨hf, _⟩
        obtain ⟨_, _, h, _⟩ := hf.2.1
        exact hu h)
      have hug : (l[0].up != -1) = true := by simpa using hu
      clear hr f0 f1 f2 f3 f5 hu C
      go_enter Try.func63, Try.ntmps63
      go_wp2_with fail
      refine (cw.out _).mono ?_
      rintro e w' ⟨rfl, rfl⟩
      go_wp2_with fail
      go_ret
      show KoPost _ _ _ _ _
      rw [hz.out]
      exact ⟨rfl, below_a1 _⟩
  · have hz := hd (show r = false by
      rw [← Bool.not_eq_true, hr]; rintro ⟨hf, _⟩
      exact hn hf.1)
    have cw := hd (fun w => within_i (l.length : Int) 1 30 w false (by simp; omega))
    obtain ⟨a1, c1, rfl, _⟩ := h
    simp only [List.length_map]
    clear hr
    go_enter Try.func63, Try.ntmps63
    go_wp2_with fail
    refine (cw.out _).mono ?_
    rintro e w' ⟨rfl, rfl⟩
    go_wp2_with fail
    go_ret
    show KoPost _ _ _ _ _
    rw [hz.out]
    exact ⟨rfl, below_a1 _⟩
set_option maxHeartbeats 1600000 in
theorem GoodSchema_i (l : List DType) (v : Value) (w : World) (hl : l.length ≤ 1000000000000) (hs : ∀ x ∈ l, x.name.size ≤ 1000000000000) (h : Sl w v 6 (l.map DType.enc)) (r : Bool) (hr : r = true ↔ goodP l) :
    Calls Try.prog 54 #[.agg #[v]] w (BoolPost r w) := by
  have ck := hd (fun w' (hb : Below w.heap.size w w') => kindOf_i l v w' hl hs (h.mono hb) r hr)
  obtain ⟨a1, c1, rfl, _⟩ := h
  simp only [List.length_map] at ck ⊢
  clear hr
  go_enter Try.func54, Try.ntmps54
  go_wp2_with fail
  refine (ck.out _ (below_a1 _)).mono ?_
  intro e w2 hp
  cases r with
  | true =>
    obtain ⟨t, vp, rfl, ht, hrp, hb2⟩ := KoPost_t hp
    obtain ⟨bp, _, _, _, rfl, _⟩ := hrp.open
    have hB := hd ((below_a1 w).next hb2)
    clear hp hb2 hrp
    go_wp2_with fail
    go_ret
    exact ⟨rfl, hB.out⟩
  | false =>
    obtain ⟨rfl, hb2⟩ := KoPost_f hp
    have hB := hd ((below_a1 w).next hb2)
    clear hp hb2
    go_wp2_with fail
    go_ret
    exact ⟨rfl, hB.out⟩
end Go.Proofs.Ytobahkjbadamhaa
