/- NotFilter of the reference. -/
import Derived.Test.YtaadjpdghikkmaaNotF
namespace Go.Proofs.Ytaadjpdghikkmaa
open Go.RowKit
set_option linter.unusedVariables false
set_option maxRecDepth 100000

set_option maxHeartbeats 1600000 in
theorem NotFilter_s (l : List DWant) (v : Value) (w : World) (hl : l.length ≤ 1000000000) (h : Sl w v 6 (l.map DWant.enc)) (b : Bool) (hb : notRB l = b) (r : List DWant) (hr : notR l = r) :
    Calls Try.prog 44 #[.agg #[v]] w (AggbPost 107 6 (r.map DWant.enc) b w) := by
  obtain ⟨g, hg⟩ : ∃ g, goodFilter l = g := ⟨_, rfl⟩
  have c1 := hd (fun v w h => GoodFilter_s l v w (by omega) h g hg)
  have hS := hd h
  by_cases hgn : goodFilter l = true ∧ l.length + 1 ≤ 20
  · obtain ⟨hg2, hn3⟩ := hgn
    obtain rfl : g = true := by rw [← hg, hg2]
    obtain ⟨hn1, hn2⟩ := good_len hg
    have hbt := hd (show b = true by rw [← hb, notRB, hg]; simpa using hn3)
    have hrt := hd (show r = notL l by rw [← hr, notR, hb, hbt.out]; rfl)
    rcases h.open with ⟨a1, c1, rfl, hrr⟩ | ⟨b1, o1, c0, rfl, hrr, C1⟩
    · exfalso; have : l = [] := by simpa using hrr
      subst this; simp at hn1
    clear hb hr hg h hrr hg2
    simp only [List.length_map] at hS ⊢
    have hne : ((l.length : Int) == 20) = false := by simp; omega
    have hn1I : (1 : Int) ≤ l.length := by omega
    obtain ⟨i0, hi, hz0, hz1, hz2⟩ := info_parts infoWant
    have Hi := hd hi; have Hz0 := hd hz0; have Hz1 := hd hz1; have Hz2 := hd hz2
    clear hi hz0 hz1 hz2
    have hone := hd (DWant.enc_one [wNot ((l.length : Int) - 1)])
    have honl := hd (DWant.enc_one l)
    have hls := hd (DWant.enc_len l)
    have hrows := hd (show l.map DWant.enc ++ [(wNot ((l.length : Int) - 1)).enc] = (notL l).map DWant.enc by simp [notL])
    have hlen := hd (show ((notL l).map DWant.enc).length = l.length + 1 by simp [notL])
    go_enter Try.func44, Try.ntmps44
    go_wp2_with fail
    refine (c1.out _ _ (hS.out.mono (below_a2 _))).mono ?_
    rintro e w2 ⟨rfl, hb2⟩
    have q0 := keepCell hb2 (show World.cell? _ ⟨w.heap.size, 0, none⟩ = some (.slice (some ⟨b1, o1, none⟩) l.length c0) by go_simp)
    have hx2 := hd (Box1.below (b := w.heap.size + 1) (v := .slice none 0 0) ⟨by go_simp, by go_simp⟩ hb2)
    have hB := hd ((below_a2 w).next hb2)
    have hz2 : w.heap.size + 1 < w2.heap.size := by have := hb2.size; simp at this; omega
    have q0a := fun o => keepCell (below_a1 w2 (a := o)) q0
    clear hb2
    have hC := hd ((C1.mono (hB.out.next (below_a1 w2 (a := .cells #[] 107)))).flat hls.out)
    go_wp2_with (first
      | (at_builtin; refine wpList_appOwn rfl (.tmp 16) (.tmp 18) 62 rfl w2.heap.size 107 i0 _ 6 56 Try.underlying62 Hi.out Hz0.out Hz1.out Hz2.out rfl (by decide) _ [] (l.map DWant.enc) rfl (own_made w2 107 6) ⟨b1, o1, none⟩ l.length c0 (by rw [List.length_map]) rfl hls.out hC.out honl.out (by simp; omega) (by decide) (by simp) ?_; intro v3 w3 ho3 hg3 hv3; have hx3 := hd ((hx2.out.below (below_a1 _)).grown hg3 (ne_own (by omega))); have hB3 := hd ((hB.out.next (below_a1 _)).grown hg3 (by simp; omega) (own_ge (by omega))); have hsz3 : w2.heap.size ≤ w3.heap.size := Nat.le_trans (by simp) hg3.size; rw [List.nil_append] at ho3; replace ho3 := hd ho3; clear hg3 hv3 q0a)
      | (at_builtin; refine wpList_appOwn rfl (.tmp 19) (.tmp 23) 62 rfl w2.heap.size 107 i0 _ 6 56 Try.underlying62 Hi.out Hz0.out Hz1.out Hz2.out rfl (by decide) _ (l.map DWant.enc) [(wNot ((l.length : Int) - 1)).enc] rfl (ho3.out.below (below_a1 _)) ⟨w3.heap.size, 0, none⟩ 1 1 rfl rfl (one_row rfl) (cells_new _ _ _) hone.out (by rw [List.length_map]; omega) (by decide) (by simp; omega) ?_; intro v4 w4 ho4 hg4 hv4; have hx4 := hd ((hx3.out.below (below_a1 _)).grown hg4 (by intro e; have := (ho3.out.lt _ e.symm).1; omega)); have hB4 := hd ((hB3.out.next (below_a1 _)).grown hg4 (by simp; omega) (by intro g hg; have := (ho3.out.lt g hg).1; omega)); rw [hrows.out] at ho4; obtain ⟨a4, c4, rfl, _⟩ := ho4.sl; rw [hlen.out] at ho4 ⊢; have Q1 := hx4.out.1; have Q2 := hx4.out.2; replace ho4 := hd ho4; clear hg4 hv4))
    refine bodyPost_ret (v := .tuple #[.agg #[.slice a4 (l.length + 1) c4], .bool true]) (by simp [results, Try.results44, go_sem, Q1]) rfl ⟨.slice a4 (l.length + 1) c4, (Value.slice a4 (l.length + 1) c4).ownBlock, by rw [hbt.out], ?_, ?_⟩
    · rw [hrt.out]; exact (((ho4.out.weaken (by omega)).kept (grownBy_setCell _ _ _) (own_ne (B := w.heap.size + 1) (fun k hk => by have := (ho4.out.lt k hk).1; omega) (Nat.le_refl _))).r)
    · exact hB4.out.setCell (by simp) _
  · have hbf := hd (show b = false by rw [← hb, notRB, Bool.eq_false_iff]; intro e; simp only [Bool.and_eq_true, decide_eq_true_eq] at e; exact hgn e)
    have hrf := hd (show r = [] by rw [← hr]; exact notR_bad (by rw [hb, hbf.out]))
    obtain ⟨a0, c0, rfl, _⟩ := h
    simp only [List.length_map] at hS ⊢
    have hcase : g = false ∨ (g = true ∧ l.length = 20) := by
      cases g with
      | false => exact .inl rfl
      | true => have := (good_len hg).2; exact .inr ⟨rfl, by have : ¬ l.length + 1 ≤ 20 := fun h => hgn ⟨hg, h⟩; omega⟩
    replace hgn := hd hgn
    replace hg := hd hg
    rcases hcase with rfl | ⟨rfl, h20⟩
    · clear hb hr
      go_enter Try.func44, Try.ntmps44
      go_wp2_with fail
      refine (c1.out _ _ (hS.out.mono (below_a2 _))).mono ?_
      rintro e w2 ⟨rfl, hb2⟩
      have hx2 := Box1.below (b := w.heap.size + 1) (v := .slice none 0 0) ⟨by go_simp, by go_simp⟩ hb2
      have Q1 := hx2.1; have Q2 := hx2.2
      have hB := hd ((below_a2 w).next hb2)
      clear hb2 hx2
      go_wp2_with fail
      refine bodyPost_ret (v := .tuple #[.agg #[.slice none 0 0], .bool false]) (by simp [results, Try.results44, go_sem, Q1]) rfl ⟨_, none, by rw [hbf.out], by rw [hrf.out]; exact OwnR.nil, ?_⟩
      exact hB.out.setCell (by simp) _
    · have hne : ((l.length : Int) == 20) = true := by simp; omega
      clear hb hr h20
      go_enter Try.func44, Try.ntmps44
      go_wp2_with fail
      refine (c1.out _ _ (hS.out.mono (below_a2 _))).mono ?_
      rintro e w2 ⟨rfl, hb2⟩
      have hx2 := Box1.below (b := w.heap.size + 1) (v := .slice none 0 0) ⟨by go_simp, by go_simp⟩ hb2
      have Q1 := hx2.1; have Q2 := hx2.2
      have hB := hd ((below_a2 w).next hb2)
      clear hb2 hx2
      go_wp2_with fail
      refine bodyPost_ret (v := .tuple #[.agg #[.slice none 0 0], .bool false]) (by simp [results, Try.results44, go_sem, Q1]) rfl ⟨_, none, by rw [hbf.out], by rw [hrf.out]; exact OwnR.nil, ?_⟩
      exact hB.out.setCell (by simp) _
end Go.Proofs.Ytaadjpdghikkmaa
