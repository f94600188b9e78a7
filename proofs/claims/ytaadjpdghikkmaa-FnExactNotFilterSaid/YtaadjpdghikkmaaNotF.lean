/- NotFilter of the program and of the reference. -/
import Derived.Test.YtaadjpdghikkmaaFilter2
import Derived.Deep.RegionLaw
import Derived.IntWalk
namespace Go.Proofs.Ytaadjpdghikkmaa
open Go.RowKit
set_option linter.unusedVariables false
set_option maxRecDepth 100000

theorem notR_len (l : List DWant) : (notR l).length ≤ 1000000 := by
  rw [notR]
  split
  · rename_i h
    simp only [notRB, Bool.and_eq_true, decide_eq_true_eq] at h
    simp [notL]; omega
  · simp
theorem notR_bad {l : List DWant} (h : notRB l = false) : notR l = [] := by rw [notR, h]; rfl
set_option maxHeartbeats 1600000 in
theorem NotFilter_i (l : List DWant) (v : Value) (w : World) (hl : l.length ≤ 1000000000) (h : Sl w v 6 (l.map DWant.enc)) (b : Bool) (hb : notRB l = b) (r : List DWant) (hr : notR l = r) :
    Calls Try.prog 45 #[.agg #[v]] w (AggbPost 107 6 (r.map DWant.enc) b w) := by
  obtain ⟨g, hg⟩ : ∃ g, goodFilter l = g := ⟨_, rfl⟩
  have c1 := hd (fun v w h => GoodFilter_i l v w (by omega) h g hg)
  have hS := hd h
  obtain ⟨a0, c0, rfl, _⟩ := h
  simp only [List.length_map] at hS ⊢
  cases g with
  | false =>
    have hbf := hd (show b = false by rw [← hb, notRB, hg]; rfl)
    have hrf := hd (show r = [] by rw [← hr]; exact notR_bad (by rw [hb, hbf.out]))
    clear hb hr hg
    go_enter Try.func45, Try.ntmps45
    go_wp2_with fail
    refine (c1.out _ _ (hS.out.mono (below_a2 _))).mono ?_
    rintro e w2 ⟨rfl, hb2⟩
    have q1 := keepCell hb2 (show World.cell? _ ⟨w.heap.size + 1, 0, none⟩ = some (.slice none 0 0) by go_simp)
    have r1 : w2.frozen? ⟨w.heap.size + 1, 0, none⟩ = false := by rw [hb2.frozen (by simp)]; go_simp
    have hB := hd ((below_a2 w).next hb2)
    have hz2 : w.heap.size + 1 < w2.heap.size := by have := hb2.size; simp at this; omega
    clear hb2
    go_wp2_with fail
    refine bodyPost_ret (v := .tuple #[.agg #[.slice none 0 0], .bool false]) (by simp [results, Try.results45, go_sem, q1]) rfl ⟨_, none, by rw [hbf.out], by rw [hrf.out]; exact OwnR.nil, ?_⟩
    exact hB.out.setCell (by simp) _
  | true =>
    obtain ⟨hn1, hn2⟩ := good_len hg
    have hn1I : (1 : Int) ≤ l.length := by omega
    have hbt := hd (show b = decide (l.length + 1 ≤ 20) by rw [← hb, notRB, hg]; rfl)
    have hrt := hd (show r = if b then notL l else [] by rw [← hr, notR, hb])
    clear hb hr hg
    obtain ⟨i0, hi, hz0, hz1, hz2⟩ := info_parts infoWant
    have Hi := hd hi; have Hz0 := hd hz0; have Hz1 := hd hz1; have Hz2 := hd hz2
    clear hi hz0 hz1 hz2
    have hw1 : IntKind.i64.wrap ((l.length : Int) - 1) = (l.length : Int) - 1 := IntWalk.i64_in _ (by omega)
    have hone := hd (DWant.enc_one [wNot ((l.length : Int) - 1)])
    have hrl : (l.map DWant.enc).length ≤ 1000 := by rw [List.length_map]; omega
    have hrows := hd (show l.map DWant.enc ++ [(wNot ((l.length : Int) - 1)).enc] = (notL l).map DWant.enc by simp [notL])
    have hlen := hd (show ((notL l).map DWant.enc).length = l.length + 1 by simp [notL])
    by_cases hn3 : l.length + 1 ≤ 20
    · have cF := hd (fun a c w => filterOf_i a (l.length + 1) c w (by omega) true (by simpa using hn3))
      have hbt2 := hd (show b = true by rw [hbt.out]; simpa using hn3)
      have hrt2 := hd (show r = notL l by rw [hrt.out, hbt2.out]; rfl)
      clear hbt hrt
      go_enter Try.func45, Try.ntmps45
      go_wp2_with fail
      refine (c1.out _ _ (hS.out.mono (below_a2 _))).mono ?_
      rintro e w2 ⟨rfl, hb2⟩
      have q0 := keepCell hb2 (show World.cell? _ ⟨w.heap.size, 0, none⟩ = some (.slice a0 l.length c0) by go_simp)
      have hx2 := hd (Box1.below (b := w.heap.size + 1) (v := .slice none 0 0) ⟨by go_simp, by go_simp⟩ hb2)
      have hB := hd ((below_a2 w).next hb2)
      have hz2 : w.heap.size + 1 < w2.heap.size := by have := hb2.size; simp at this; omega
      clear hb2
      have q0a := fun o => keepCell (below_a1 w2 (a := o)) q0
      go_wp2_with fail
      go_region_law (first
        | (go_simp; go_at_call 94; refine (clone_Want l _ _ hl (by first | exact hS.out.mono hB.out.drew | exact hS.out.mono (hB.out.next (below_a1 _)).drew | exact hS.out.mono hB.out)).mono ?_; rintro e w3 ⟨v3, rfl, ho3, hb3⟩; have k0 := keepCell (a := ⟨w.heap.size, 0, none⟩) (v := .slice a0 l.length c0) hb3 (by first | exact q0 | exact keepCell (below_a1 _) q0); have hsz3 : w2.heap.size ≤ w3.heap.size := (by first | exact hb3.size | exact Nat.le_trans (by simp) hb3.size); have hx3 := hd (Box1.below (show Box1 _ _ _ from (by first | exact hx2.out | exact hx2.out.below (below_a1 _).drew)) hb3); have hB3 := hd ((by first | exact hB.out.drew.next hb3 | exact (hB.out.next (below_a1 _)).drew.next hb3) : Below w.heap.size w w3); replace ho3 := hd (ho3.weaken (B' := w2.heap.size) (by first | omega | exact Nat.le_refl _ | (simp; done) | (simp; omega))); replace hb3 := hd hb3)
        | (refine step_appOwn (by rfl) _ _ _ (by rfl) w2.heap.size 107 i0 _ 6 56 Try.underlying62 Hi.out Hz0.out Hz1.out Hz2.out (by rfl) (by decide) _ (l.map DWant.enc) [(wNot ((l.length : Int) - 1)).enc] (by rfl) (by first | exact ho3.out.below (below_a1 _) | exact ho3.out) _ 1 _ (by rfl) (by rfl) (one_row rfl) (by first | exact cells_new _ _ _ | exact fun j u hu => keepCell hb3.out (show World.cell? _ _ = _ from cells_new w2 _ _ j u hu)) hone.out (by omega) (by decide) (by first | omega | exact Nat.le_refl _ | (simp; done) | (simp; omega)) ?_; intro v4 w4 ho4 hg4 hv4; have hx4 := hd (Box1.grown (show Box1 _ _ _ from (by first | exact hx3.out.below (below_a1 _) | exact hx3.out)) hg4 (by intro e; have := (ho3.out.lt _ e.symm).1; omega)); have hB4 := hd (Below.grown (by first | exact hB3.out.next (below_a1 _) | exact hB3.out : Below w.heap.size w _) hg4 (by first | omega | exact Nat.le_refl _ | (simp; done) | (simp; omega)) (by intro g hg; have := (ho3.out.lt g hg).1; omega)); rw [hrows.out] at ho4; replace ho4 := hd ho4; clear hg4 hv4)
        | (go_simp; go_at_call 93; obtain ⟨a4, c4, rfl, _⟩ := ho4.out.sl; rw [hlen.out] at ho4 ⊢; refine (cF.out a4 c4 w4).mono ?_; rintro e w5 ⟨rfl, hb5⟩; have hx5 := hd (hx4.out.below hb5); have hB5 := hd (hB4.out.next hb5); have ho5 := hd (ho4.out.below hb5); have Q1 := hx5.out.1; have Q2 := hx5.out.2; clear hb5))
      all_goals go_wp2_with fail
      all_goals
        refine bodyPost_ret (v := .tuple #[.agg #[.slice a4 (l.length + 1) c4], .bool true]) (by simp [results, Try.results45, go_sem, Q1]) rfl ⟨.slice a4 (l.length + 1) c4, (Value.slice a4 (l.length + 1) c4).ownBlock, by rw [hbt2.out], ?_, ?_⟩
        · rw [hrt2.out]; exact (((ho5.out.weaken (by omega)).kept (grownBy_setCell _ _ _) (own_ne (B := w.heap.size + 1) (fun k hk => by have := (ho5.out.lt k hk).1; omega) (Nat.le_refl _))).r)
        · exact hB5.out.setCell (by simp) _
    · have cF := hd (fun a c w => filterOf_i a (l.length + 1) c w (by omega) false (by simpa using hn3))
      have hbt2 := hd (show b = false by rw [hbt.out]; simpa using hn3)
      have hrt2 := hd (show r = [] by rw [hrt.out, hbt2.out]; rfl)
      clear hbt hrt
      go_enter Try.func45, Try.ntmps45
      go_wp2_with fail
      refine (c1.out _ _ (hS.out.mono (below_a2 _))).mono ?_
      rintro e w2 ⟨rfl, hb2⟩
      have q0 := keepCell hb2 (show World.cell? _ ⟨w.heap.size, 0, none⟩ = some (.slice a0 l.length c0) by go_simp)
      have hx2 := hd (Box1.below (b := w.heap.size + 1) (v := .slice none 0 0) ⟨by go_simp, by go_simp⟩ hb2)
      have hB := hd ((below_a2 w).next hb2)
      have hz2 : w.heap.size + 1 < w2.heap.size := by have := hb2.size; simp at this; omega
      clear hb2
      have q0a := fun o => keepCell (below_a1 w2 (a := o)) q0
      go_wp2_with fail
      go_region_law (first
        | (go_simp; go_at_call 94; refine (clone_Want l _ _ hl (by first | exact hS.out.mono hB.out.drew | exact hS.out.mono (hB.out.next (below_a1 _)).drew | exact hS.out.mono hB.out)).mono ?_; rintro e w3 ⟨v3, rfl, ho3, hb3⟩; have k0 := keepCell (a := ⟨w.heap.size, 0, none⟩) (v := .slice a0 l.length c0) hb3 (by first | exact q0 | exact keepCell (below_a1 _) q0); have hsz3 : w2.heap.size ≤ w3.heap.size := (by first | exact hb3.size | exact Nat.le_trans (by simp) hb3.size); have hx3 := hd (Box1.below (show Box1 _ _ _ from (by first | exact hx2.out | exact hx2.out.below (below_a1 _).drew)) hb3); have hB3 := hd ((by first | exact hB.out.drew.next hb3 | exact (hB.out.next (below_a1 _)).drew.next hb3) : Below w.heap.size w w3); replace ho3 := hd (ho3.weaken (B' := w2.heap.size) (by first | omega | exact Nat.le_refl _ | (simp; done) | (simp; omega))); replace hb3 := hd hb3)
        | (refine step_appOwn (by rfl) _ _ _ (by rfl) w2.heap.size 107 i0 _ 6 56 Try.underlying62 Hi.out Hz0.out Hz1.out Hz2.out (by rfl) (by decide) _ (l.map DWant.enc) [(wNot ((l.length : Int) - 1)).enc] (by rfl) (by first | exact ho3.out.below (below_a1 _) | exact ho3.out) _ 1 _ (by rfl) (by rfl) (one_row rfl) (by first | exact cells_new _ _ _ | exact fun j u hu => keepCell hb3.out (show World.cell? _ _ = _ from cells_new w2 _ _ j u hu)) hone.out (by omega) (by decide) (by first | omega | exact Nat.le_refl _ | (simp; done) | (simp; omega)) ?_; intro v4 w4 ho4 hg4 hv4; have hx4 := hd (Box1.grown (show Box1 _ _ _ from (by first | exact hx3.out.below (below_a1 _) | exact hx3.out)) hg4 (by intro e; have := (ho3.out.lt _ e.symm).1; omega)); have hB4 := hd (Below.grown (by first | exact hB3.out.next (below_a1 _) | exact hB3.out : Below w.heap.size w _) hg4 (by first | omega | exact Nat.le_refl _ | (simp; done) | (simp; omega)) (by intro g hg; have := (ho3.out.lt g hg).1; omega)); rw [hrows.out] at ho4; replace ho4 := hd ho4; clear hg4 hv4)
        | (go_simp; go_at_call 93; obtain ⟨a4, c4, rfl, _⟩ := ho4.out.sl; rw [hlen.out] at ho4 ⊢; refine (cF.out a4 c4 w4).mono ?_; rintro e w5 ⟨rfl, hb5⟩; have hx5 := hd (hx4.out.below hb5); have hB5 := hd (hB4.out.next hb5); have ho5 := hd (ho4.out.below hb5); have Q1 := hx5.out.1; have Q2 := hx5.out.2; clear hb5))
      all_goals go_wp2_with fail
      all_goals
        refine bodyPost_ret (v := .tuple #[.agg #[.slice none 0 0], .bool false]) (by simp [results, Try.results45, go_sem, Q1]) rfl ⟨.slice none 0 0, none, by rw [hbt2.out], by rw [hrt2.out]; exact OwnR.nil, ?_⟩
        exact hB5.out.setCell (by simp) _
end Go.Proofs.Ytaadjpdghikkmaa
