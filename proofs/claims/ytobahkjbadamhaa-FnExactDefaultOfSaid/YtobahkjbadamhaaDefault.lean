/- DefaultOf of both sides. -/
import Derived.Test.YtobahkjbadamhaaDefS
import Derived.Test.YtobahkjbadamhaaLeast
namespace Go.Proofs.Ytobahkjbadamhaa
open Go.RowKit
set_option linter.unusedVariables false
set_option maxRecDepth 100000
def defP (l : List DType) (b : Bool) (r : List DNode) : Prop := (b = true ↔ goodP l) ∧ (∀ t, treeOf l t → goodP l → r = rowsV (leastK t 0) (-1) 0) ∧ (¬ goodP l → r = [])
theorem defP_ex (l : List DType) : ∃ b r, defP l b r ∧ r.length ≤ 30 := by
  by_cases h : goodP l
  · obtain ⟨t, ht⟩ := good_tree h
    refine ⟨true, rowsV (leastK t 0) (-1) 0, ⟨by simp [h], fun t' h' _ => by rw [treeOf_uniq h' ht], fun g => absurd h g⟩, ?_⟩
    rw [rowsV_len]
    exact Nat.le_trans (least_count t 0) (good_small ht.2)
  · exact ⟨false, [], ⟨by simp [h], fun t _ g => absurd g h, fun _ => rfl⟩, by simp⟩
set_option maxHeartbeats 3200000 in
theorem DefaultOf_i (l : List DType) (v : Value) (w : World) (hl : l.length ≤ 1000000000) (hs : ∀ x ∈ l, x.name.size ≤ 1000000000000) (h : Sl w v 6 (l.map DType.enc)) (b : Bool) (r : List DNode) (hr : defP l b r) :
    Calls Try.prog 24 #[.agg #[v]] w (AggbPost 113 5 (r.map DNode.enc) b w) := by
  have ck := hd (fun w' (hbb : Below w.heap.size w w') => kindOf_i l v w' (by omega) hs (h.mono hbb) b hr.1)
  obtain ⟨a1, c1, rfl, _⟩ := h
  simp only [List.length_map] at ck ⊢
  replace hr := hd hr
  go_enter Try.func24, Try.ntmps24
  go_wp2_with fail
  refine (ck.out _ (below_a2 _)).mono ?_
  intro e w2 hp
  cases b with
  | true =>
    obtain ⟨t, vp, rfl, ht, hrp, hb2⟩ := KoPost_t hp
    have hg := hr.out.1.1 rfl
    have hsm := good_small ht.2
    have hrt := hd (hr.out.2.1 t ht hg)
    have cd := hd (least_i t vp [] (.slice none 0 0) 0 (-1) w2 _ _ w2.heap.size (Nat.le_refl _) (Nat.le_refl _) (by simp; omega) hrp Own.nil)
    obtain ⟨bp, _, _, _, rfl, hjk⟩ := hrp.open
    simp only [List.nil_append, List.length_nil] at cd
    rw [← hrt.out] at cd
    have hx2 := hd (Box1.below (b := w.heap.size + 1) (v := .slice none 0 0) ⟨by go_simp, by go_simp⟩ hb2)
    have hB := hd ((below_a2 w).next hb2)
    have hz2 : w.heap.size + 2 ≤ w2.heap.size := by have := hb2.size; simp at this; omega
    clear hp hb2 hrp ht hg hjk
    go_wp2_with fail
    refine cd.out.mono ?_
    rintro e w3 ⟨v3, rfl, ho3, hG3⟩
    have hB23 := hd (hG3.below (B := w2.heap.size) (Nat.le_refl _) (by intro g hg; cases hg))
    have hx3 := hd (hx2.out.below hB23.out)
    have hB3 := hd (hB.out.next hB23.out)
    obtain ⟨a3, c3, rfl, hjk⟩ := ho3.sl
    clear hjk
    simp only [List.length_map] at ho3 ⊢
    have Q1 := hx3.out.1; have Q2 := hx3.out.2
    replace ho3 := hd ho3
    clear hG3
    go_wp2_with fail
    exact bodyPost_ret (v := .tuple #[.agg #[.slice a3 r.length c3], .bool true]) (by simp [results, Try.results24, go_sem, Q1]) rfl (AggbPost.of (rb := (Value.slice a3 r.length c3).ownBlock) (ownR_store ho3.out.r (by omega) (by omega)) (hB3.out.setCell (by simp) _))
  | false =>
    obtain ⟨rfl, hb2⟩ := KoPost_f hp
    have hrf := hd (hr.out.2.2 (fun g => absurd (hr.out.1.2 g) (by simp)))
    have hx2 := Box1.below (b := w.heap.size + 1) (v := .slice none 0 0) ⟨by go_simp, by go_simp⟩ hb2
    have Q1 := hx2.1; have Q2 := hx2.2
    have hB := hd ((below_a2 w).next hb2)
    clear hp hb2 hx2
    go_wp2_with fail
    refine bodyPost_ret (v := .tuple #[.agg #[.slice none 0 0], .bool false]) (by simp [results, Try.results24, go_sem, Q1]) rfl ⟨_, none, rfl, by rw [hrf.out]; exact OwnR.nil, ?_⟩
    exact hB.out.setCell (by simp) _
set_option maxHeartbeats 3200000 in
theorem DefaultOf_s (l : List DType) (v : Value) (w : World) (hl : l.length ≤ 1000000000) (hs : ∀ x ∈ l, x.name.size ≤ 1000000000000) (h : Sl w v 6 (l.map DType.enc)) (b : Bool) (r : List DNode) (hr : defP l b r) :
    Calls Try.prog 23 #[.agg #[v]] w (AggbPost 113 5 (r.map DNode.enc) b w) := by
  have cg := hd (fun w' (hbb : Below w.heap.size w w') => GoodSchema_s l v w' (by omega) hs (h.mono hbb) b hr.1)
  have ct := hd (fun w' (hbb : Below w.heap.size w w') (hg : goodP l) t ht => root_s l v w' hg t ht (h.mono hbb))
  obtain ⟨a1, c1, rfl, _⟩ := h
  simp only [List.length_map] at cg ct ⊢
  replace hr := hd hr
  cases b with
  | true =>
    have hg := hr.out.1.1 rfl
    obtain ⟨t, ht⟩ := good_tree hg
    have hsm := good_small ht.2
    have hrt := hd (hr.out.2.1 t ht hg)
    have hlc := least_count t 0
    have ct := hd (fun w' (hbb : Below w.heap.size w w') => ct.out w' hbb hg t ht)
    have cd := hd (fun r w lo hi hh hR => default_s t r w lo hi hh (by omega) hR)
    have co := hd (fun r w lo hi hh hR => ofV_s (leastK t 0) r w lo hi hh (by omega) hR)
    rw [← hrt.out] at co
    clear ht hg hlc
    generalize leastK t 0 = T at *
    go_enter Try.func23, Try.ntmps23
    go_wp2_with fail
    refine (cg.out _ (below_a2 _)).mono ?_
    rintro e w2 ⟨rfl, hb2⟩
    have q := keepCell hb2 (show World.cell? _ ⟨w.heap.size, 0, none⟩ = some (.slice a1 l.length c1) by go_simp)
    have hx2 := hd (Box1.below (b := w.heap.size + 1) (v := .slice none 0 0) ⟨by go_simp, by go_simp⟩ hb2)
    have hB := hd ((below_a2 w).next hb2)
    have hz2 : w.heap.size + 2 ≤ w2.heap.size := by have := hb2.size; simp at this; omega
    clear hb2
    go_wp2_with fail
    refine (ct.out _ hB.out).mono ?_
    rintro e w3 ⟨rt, rfl, hrt3, hb3⟩
    have cd3 := hd (cd.out rt w3 _ _ (Nat.le_refl _) hrt3)
    obtain ⟨_, _, _, rfl, hjk⟩ := hrt3.open
    have hB3 := hd (hB.out.next hb3)
    have hx3 := hd (hx2.out.below hb3)
    have hz3 := hb3.size
    clear hb3 hrt3 hjk
    go_wp2_with fail
    refine cd3.out.mono ?_
    rintro e w4 ⟨rv, rfl, hr4, hb4⟩
    have co4 := hd (co.out rv w4 _ _ (Nat.le_refl _) hr4)
    obtain ⟨_, _, _, rfl, hjk⟩ := hr4.openV
    have hB4 := hd (hB3.out.next hb4)
    have hx4 := hd (hx3.out.below hb4)
    have hz4 := hb4.size
    clear hb4 hr4 hjk
    go_wp2_with fail
    refine co4.out.mono ?_
    rintro e w5 ⟨v5, rb5, rfl, ho5, hb5⟩
    have hB5 := hd (hB4.out.next hb5)
    have hx5 := hd (hx4.out.below hb5)
    obtain ⟨a5, c5, rfl, hjk⟩ := ho5.sl
    clear hjk hb5
    simp only [List.length_map] at ho5 ⊢
    have Q1 := hx5.out.1; have Q2 := hx5.out.2
    replace ho5 := hd ho5
    go_wp2_with fail
    exact bodyPost_ret (v := .tuple #[.agg #[.slice a5 r.length c5], .bool true]) (by simp [results, Try.results23, go_sem, Q1]) rfl (AggbPost.of (rb := rb5) (ownR_store ho5.out (by omega) (by omega)) (hB5.out.setCell (by simp) _))
  | false =>
    have hrf := hd (hr.out.2.2 (fun g => absurd (hr.out.1.2 g) (by simp)))
    go_enter Try.func23, Try.ntmps23
    go_wp2_with fail
    refine (cg.out _ (below_a2 _)).mono ?_
    rintro e w2 ⟨rfl, hb2⟩
    have hx2 := Box1.below (b := w.heap.size + 1) (v := .slice none 0 0) ⟨by go_simp, by go_simp⟩ hb2
    have Q1 := hx2.1; have Q2 := hx2.2
    have hB := hd ((below_a2 w).next hb2)
    clear hb2 hx2
    go_wp2_with fail
    refine bodyPost_ret (v := .tuple #[.agg #[.slice none 0 0], .bool false]) (by simp [results, Try.results23, go_sem, Q1]) rfl ⟨_, none, rfl, by rw [hrf.out]; exact OwnR.nil, ?_⟩
    exact hB.out.setCell (by simp) _
end Go.Proofs.Ytobahkjbadamhaa
