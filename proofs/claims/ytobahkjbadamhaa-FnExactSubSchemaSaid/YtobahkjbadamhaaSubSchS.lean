/- SubSchema of the reference. -/
import Derived.Test.YtobahkjbadamhaaSubSch
namespace Go.Proofs.Ytobahkjbadamhaa
open Go.RowKit
set_option linter.unusedVariables false
set_option maxRecDepth 100000
theorem whole_rep {w : World} {lo hi : Nat} {t : K} {r : List Value} (h : RepT w lo hi t r) : ∃ (a : Option Addr) (c : Nat), r = [.int .i64 t.of, .string t.name, .int .i64 t.no, .bool t.must, .int .i64 t.most, .slice a t.parts.length c] ∧ RepT w lo hi (wholeK t) [.int .i64 t.of, .string ⟨#[]⟩, .int .i64 0, .bool false, .int .i64 t.most, .slice a t.parts.length c] := by
  obtain ⟨a, c, rows, e, hS, hl, hg⟩ := h.open
  refine ⟨a, c, e, ?_⟩
  obtain ⟨o, nm, no, mu, mo, ps⟩ := t
  rw [wholeK, RepT]
  exact ⟨_, rows, rfl, hS, RepTs.mk ps rows hl hg⟩
set_option maxHeartbeats 3200000 in
theorem SubSchema_s (l : List DType) (k : Int) (v : Value) (w : World) (hl : l.length ≤ 1000000000) (hs : ∀ x ∈ l, x.name.size ≤ 1000000000000) (h : Sl w v 6 (l.map DType.enc)) (b : Bool) (r : List DType) (hr : subP l k b r) :
    Calls Try.prog 15 #[.agg #[v], .int .i64 k] w (AggbPost 71 6 (r.map DType.enc) b w) := by
  obtain ⟨g, hg⟩ := boolOf (goodP l)
  have cg := hd (fun w' (hbb : Below w.heap.size w w') => GoodSchema_s l v w' (by omega) hs (h.mono hbb) g hg)
  obtain ⟨a1, c1, rfl, hrr⟩ := h
  have hrr := hd hrr
  simp only [List.length_map] at cg ⊢
  cases g with
  | false =>
    have hbf := hd (nb hr.1 (fun q => absurd (hg.2 q.1) (by simp)))
    have hrf := hd (hr.2.2 hbf.out)
    clear hr hg
    go_enter Try.func15, Try.ntmps15
    go_wp2_with fail
    refine (cg.out _ (below_a2 _)).mono ?_
    rintro e w2 ⟨rfl, hb2⟩
    have hx2 := Box1.below (b := w.heap.size + 1) (v := .slice none 0 0) ⟨by go_simp, by go_simp⟩ hb2
    have Q1 := hx2.1; have Q2 := hx2.2
    have hB := hd ((below_a2 w).next hb2)
    clear hb2 hx2
    go_wp2_with fail
    refine bodyPost_ret (v := .tuple #[.agg #[.slice none 0 0], .bool false]) (by simp [results, Try.results15, go_sem, Q1]) rfl ⟨_, none, by rw [hbf.out], by rw [hrf.out]; exact OwnR.nil, ?_⟩
    exact hB.out.setCell (by simp) _
  | true =>
    by_cases hk0 : k < 0
    · have hbf := hd (nb hr.1 (fun q => by have := q.2.1; omega))
      have hrf := hd (hr.2.2 hbf.out)
      clear hr hg
      go_enter Try.func15, Try.ntmps15
      go_wp2_with fail
      refine (cg.out _ (below_a2 _)).mono ?_
      rintro e w2 ⟨rfl, hb2⟩
      have hx2 := Box1.below (b := w.heap.size + 1) (v := .slice none 0 0) ⟨by go_simp, by go_simp⟩ hb2
      have Q1 := hx2.1; have Q2 := hx2.2
      have hB := hd ((below_a2 w).next hb2)
      clear hb2 hx2
      go_wp2_with fail
      refine bodyPost_ret (v := .tuple #[.agg #[.slice none 0 0], .bool false]) (by simp [results, Try.results15, go_sem, Q1]) rfl ⟨_, none, by rw [hbf.out], by rw [hrf.out]; exact OwnR.nil, ?_⟩
      exact hB.out.setCell (by simp) _
    · by_cases hkl : (l.length : Int) ≤ k
      · have hbf := hd (nb hr.1 (fun q => by have := q.2.2.1; omega))
        have hrf := hd (hr.2.2 hbf.out)
        clear hr hg
        go_enter Try.func15, Try.ntmps15
        go_wp2_with fail
        refine (cg.out _ (below_a2 _)).mono ?_
        rintro e w2 ⟨rfl, hb2⟩
        have q := keepCell hb2 (show World.cell? _ ⟨w.heap.size, 0, none⟩ = some (.slice a1 l.length c1) by go_simp)
        have hx2 := Box1.below (b := w.heap.size + 1) (v := .slice none 0 0) ⟨by go_simp, by go_simp⟩ hb2
        have Q1 := hx2.1; have Q2 := hx2.2
        have hB := hd ((below_a2 w).next hb2)
        clear hb2 hx2
        go_wp2_with fail
        refine bodyPost_ret (v := .tuple #[.agg #[.slice none 0 0], .bool false]) (by simp [results, Try.results15, go_sem, Q1]) rfl ⟨_, none, by rw [hbf.out], by rw [hrf.out]; exact OwnR.nil, ?_⟩
        exact hB.out.setCell (by simp) _
      · obtain ⟨j, rfl⟩ := Int.eq_ofNat_of_zero_le (show 0 ≤ k by omega)
        have hjl : j < l.length := by omega
        have hjI : (j : Int) < (l.length : Int) := by omega
        have hk0' : ¬ (j : Int) < 0 := by omega
        have hkl' : ¬ (l.length : Int) ≤ (j : Int) := by omega
        obtain ⟨b1, o1, rfl, C1⟩ := rows_at hrr.out (k := j) (by rw [List.length_map]; exact hjl)
        by_cases h5 : l[j].kind = 5
        · have hbt := hd (show b = true from hr.1.2 ⟨hg.1 rfl, by omega, by omega, by simpa using hjl, by simpa using h5⟩)
          obtain ⟨j', t, e, hj', _, _, hgp, hS, he, hst, hw, hrr2, hct⟩ := subP_true (by rw [← hbt.out]; exact hr)
          obtain rfl : j = j' := by omega
          have hrt := hd hrr2
          have C := hd C1
          have hn := good_len' hgp
          have ck := hd (fun w' (hb : Below w.heap.size w w') => tree_s l b1 o1 c1 (by omega) t j w' hS (C.out.mono hb) (by omega))
          have hw := hd hw
          obtain ⟨f0, f1, f2, f3, f4, f5⟩ := Cells.rowType l j hjl C1
          rw [h5] at f0
          clear hr hg hk0 hkl hj' hrr2 hgp hS he hst C1 h5 hrr f1 f2 f3 f4 f5 hct hn
          go_enter Try.func15, Try.ntmps15
          go_wp2_with fail
          refine (cg.out _ (below_a2 _)).mono ?_
          rintro e2 w2 ⟨rfl, hb2⟩
          have q := keepCell hb2 (show World.cell? _ ⟨w.heap.size, 0, none⟩ = some (.slice (some ⟨b1, o1, none⟩) l.length c1) by go_simp)
          have hx2 := hd (Box1.below (b := w.heap.size + 1) (v := .slice none 0 0) ⟨by go_simp, by go_simp⟩ hb2)
          have hB := hd ((below_a2 w).next hb2)
          have f02 := keepCell hB.out f0
          have hz2 : w.heap.size + 2 ≤ w2.heap.size := by have := hb2.size; simpa using this
          clear hb2 f0
          go_wp2_with fail
          refine (ck.out _ hB.out).mono ?_
          rintro e4 w4 ⟨rr, rfl, hrp, hb4⟩
          obtain ⟨sa, sc, rfl, hrw⟩ := whole_rep hrp
          have hx4 := hd (hx2.out.below hb4)
          have hB4 := hd (hB.out.next hb4)
          have hb4z := hb4.size
          have cs := hd (fun w' (hb : Below w4.heap.size w4 w') => tell_s (wholeK t) _ w' _ _ hb.size hw.out (hrw.below (Nat.le_refl _) hb))
          have hxa := hd (fun o => hx4.out.below (below_a1 w4 (a := o)))
          have hBa := hd (fun o => hB4.out.next (below_a1 w4 (a := o)))
          clear hb4 hrp hrw q f02
          generalize t.parts.length = tpn at *
          generalize t.of = to at *
          generalize t.name = tn at *
          generalize t.no = tno at *
          generalize t.must = tmu at *
          generalize t.most = tmo at *
          go_wp2_with fail
          refine (cs.out _ (below_a1 _)).mono ?_
          rintro e6 w6 ⟨v6, rb6, rfl, ho6, hb6⟩
          have hx6 := hd ((hxa.out _).below hb6)
          have hB6 := hd ((hBa.out _).next hb6)
          rw [← hrt.out] at ho6
          obtain ⟨a6, c6, rfl, hjk⟩ := ho6.sl
          clear hjk
          simp only [List.length_map] at ho6 ⊢
          have Q1 := hx6.out.1; have Q2 := hx6.out.2
          replace ho6 := hd ho6
          clear hb6
          go_wp2_with fail
          refine bodyPost_ret (v := .tuple #[.agg #[.slice a6 r.length c6], .bool true]) (by simp [results, Try.results15, go_sem, Q1]) rfl ?_
          rw [hbt.out]
          exact AggbPost.of (rb := rb6) (ownR_store ho6.out (by first | omega | (simp; omega)) (by first | omega | (simp; omega))) (hB6.out.setCell (by simp) _)
        · have hbf := hd (nb hr.1 (fun q => h5 (by obtain ⟨_, _, _, hh, q5⟩ := q; simpa using q5)))
          have hrf := hd (hr.2.2 hbf.out)
          obtain ⟨f0, f1, f2, f3, f4, f5⟩ := Cells.rowType l j hjl C1
          have h5b : (l[j].kind != 5) = true := by simpa using h5
          generalize l[j].kind = kk at *
          clear hr hg hk0 hkl C1 h5 hrr f1 f2 f3 f4 f5
          go_enter Try.func15, Try.ntmps15
          go_wp2_with fail
          refine (cg.out _ (below_a2 _)).mono ?_
          rintro e2 w2 ⟨rfl, hb2⟩
          have q := keepCell hb2 (show World.cell? _ ⟨w.heap.size, 0, none⟩ = some (.slice (some ⟨b1, o1, none⟩) l.length c1) by go_simp)
          have hx2 := hd (Box1.below (b := w.heap.size + 1) (v := .slice none 0 0) ⟨by go_simp, by go_simp⟩ hb2)
          have hB := hd ((below_a2 w).next hb2)
          have f02 := keepCell hB.out f0
          have Q1 := hx2.out.1; have Q2 := hx2.out.2
          clear hb2 f0
          go_wp2_with fail
          refine bodyPost_ret (v := .tuple #[.agg #[.slice none 0 0], .bool false]) (by simp [results, Try.results15, go_sem, Q1]) rfl ⟨_, none, by rw [hbf.out], by rw [hrf.out]; exact OwnR.nil, ?_⟩
          exact hB.out.setCell (by simp) _
end Go.Proofs.Ytobahkjbadamhaa
