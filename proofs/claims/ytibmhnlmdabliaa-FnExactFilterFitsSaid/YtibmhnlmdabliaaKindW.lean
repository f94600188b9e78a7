/- What the laws on good schemas share; DeepOf of both sides. -/
import Derived.Test.YtibmhnlmdabliaaKindV
namespace Go.Proofs.Ytibmhnlmdabliaa
open Go.RowKit
set_option linter.unusedVariables false
set_option maxRecDepth 100000
theorem small_types {l : List DType} (h : SmallType 1048576 l.length l) : ∀ x ∈ l, x.name.size ≤ 1000000000000 := by
  intro x hx
  obtain ⟨i, hi, rfl⟩ := List.mem_iff_getElem.1 hx
  have := h i hi hi
  omega
theorem treeOf_uniq {l : List DType} {t t' : K} (h : treeOf l t) (h' : treeOf l t') : t = t' := Sb.uniq t 0 t' (enc_out h.1) (enc_out h'.1)
theorem good_len' {l : List DType} (h : goodP l) : 1 ≤ l.length ∧ l.length ≤ 30 := h.1.1
/-- The reference's tree of a good schema. -/
theorem root_s (l : List DType) (v : Value) (w : World) (hg : goodP l) (t : K) (ht : treeOf l t) (h : Sl w v 6 (l.map DType.enc)) :
    Calls Try.prog 97 #[.agg #[v], .int .i64 0] w (TreePost t w) := by
  have hn := good_len' hg
  rcases h.open with ⟨a1, c1, rfl, hrr⟩ | ⟨b1, o1, c, rfl, hrr, C⟩
  · exfalso; have : l = [] := by simpa using hrr
    subst this; simp at hn
  rw [List.length_map]
  exact tree_s l b1 o1 c (by omega) t 0 w (enc_out ht.1) C (by have := enc_count t _ _ ht.1; omega)
theorem deepR_ex (l : List DType) : ∃ r : Int, (∀ t, treeOf l t → goodP l → deepK t = r) ∧ (¬ goodP l → r = 0) := by
  by_cases h : goodP l
  · obtain ⟨t, ht⟩ := good_tree h
    exact ⟨deepK t, fun t' h' _ => by rw [treeOf_uniq h' ht], fun g => absurd h g⟩
  · exact ⟨0, fun t _ g => absurd g h, fun _ => rfl⟩
set_option maxHeartbeats 1600000 in
theorem DeepOf_i (l : List DType) (v : Value) (w : World) (hl : l.length ≤ 1000000000000) (hs : ∀ x ∈ l, x.name.size ≤ 1000000000000) (h : Sl w v 6 (l.map DType.enc)) (b : Bool) (hb : b = true ↔ goodP l) (r : Int) (hr : (∀ t, treeOf l t → goodP l → deepK t = r) ∧ (¬ goodP l → r = 0)) :
    Calls Try.prog 44 #[.agg #[v]] w (IBPost r b w) := by
  have ck := hd (fun w' (hbb : Below w.heap.size w w') => kindOf_i l v w' hl hs (h.mono hbb) b hb)
  obtain ⟨a1, c1, rfl, _⟩ := h
  simp only [List.length_map] at ck ⊢
  replace hr := hd hr
  replace hb := hd hb
  go_enter Try.func44, Try.ntmps44
  go_wp2_with fail
  refine (ck.out _ (below_a1 _)).mono ?_
  intro e w2 hp
  cases b with
  | true =>
    obtain ⟨t, vp, rfl, ht, hrp, hb2⟩ := KoPost_t hp
    have hg := hb.out.1 rfl
    have hn := good_len' hg
    have hct := enc_count t _ _ ht.1
    have hrt := hd (hr.out.1 t ht hg)
    have cd := hd (deep_i t vp w2 _ _ (Nat.le_refl _) (by omega) hrp)
    obtain ⟨bp, _, _, _, rfl, _⟩ := hrp.open
    have hB := hd ((below_a1 w).next hb2)
    clear hp hb2 hrp ht hg hn hct
    generalize deepK t = d at *
    go_wp2_with fail
    refine cd.out.mono ?_
    rintro e w3 ⟨rfl, hb3⟩
    have hB3 := hd (hB.out.next hb3)
    clear hb3
    go_wp2_with fail
    go_ret2
    exact ⟨by rw [hrt.out]; try rfl, hB3.out⟩
  | false =>
    obtain ⟨rfl, hb2⟩ := KoPost_f hp
    have hrt := hd (hr.out.2 (fun g => absurd (hb.out.2 g) (by simp)))
    have hB := hd ((below_a1 w).next hb2)
    clear hp hb2
    go_wp2_with fail
    go_ret2
    exact ⟨by rw [hrt.out]; try rfl, hB.out⟩
set_option maxHeartbeats 1600000 in
theorem DeepOf_s (l : List DType) (v : Value) (w : World) (hl : l.length ≤ 1000000000000) (hs : ∀ x ∈ l, x.name.size ≤ 1000000000000) (h : Sl w v 6 (l.map DType.enc)) (b : Bool) (hb : b = true ↔ goodP l) (r : Int) (hr : (∀ t, treeOf l t → goodP l → deepK t = r) ∧ (¬ goodP l → r = 0)) :
    Calls Try.prog 43 #[.agg #[v]] w (IBPost r b w) := by
  have cg := hd (fun w' (hbb : Below w.heap.size w w') => GoodSchema_s l v w' hl hs (h.mono hbb) b hb)
  have ct := hd (fun w' (hbb : Below w.heap.size w w') (hg : goodP l) t ht => root_s l v w' hg t ht (h.mono hbb))
  obtain ⟨a1, c1, rfl, _⟩ := h
  simp only [List.length_map] at cg ct ⊢
  replace hr := hd hr
  replace hb := hd hb
  cases b with
  | true =>
    have hg := hb.out.1 rfl
    obtain ⟨t, ht⟩ := good_tree hg
    have hn := good_len' hg
    have hct := enc_count t _ _ ht.1
    have hrt := hd (hr.out.1 t ht hg)
    have ct := hd (fun w' (hbb : Below w.heap.size w w') => ct.out w' hbb hg t ht)
    have cd := hd (fun r w lo hi hh hR => deep_s t r w lo hi hh (by omega) hR)
    clear ht hg hn hct
    generalize deepK t = d at *
    go_enter Try.func43, Try.ntmps43
    go_wp2_with fail
    refine (cg.out _ (below_a1 _)).mono ?_
    rintro e w2 ⟨rfl, hb2⟩
    have q := keepCell hb2 (show World.cell? _ ⟨w.heap.size, 0, none⟩ = some (.slice a1 l.length c1) by go_simp)
    have hB := hd ((below_a1 w).next hb2)
    clear hb2
    go_wp2_with fail
    refine (ct.out _ hB.out).mono ?_
    rintro e w3 ⟨rt, rfl, hrt3, hb3⟩
    have cd3 := hd (cd.out rt w3 _ _ (Nat.le_refl _) hrt3)
    have hB3 := hd (hB.out.next hb3)
    clear hb3 hrt3
    go_wp2_with fail
    refine cd3.out.mono ?_
    rintro e w4 ⟨rfl, hb4⟩
    have hB4 := hd (hB3.out.next hb4)
    clear hb4
    go_wp2_with fail
    go_ret2
    exact ⟨by rw [hrt.out]; try rfl, hB4.out⟩
  | false =>
    have hrt := hd (hr.out.2 (fun g => absurd (hb.out.2 g) (by simp)))
    go_enter Try.func43, Try.ntmps43
    go_wp2_with fail
    refine (cg.out _ (below_a1 _)).mono ?_
    rintro e w2 ⟨rfl, hb2⟩
    have hB := hd ((below_a1 w).next hb2)
    clear hb2
    go_wp2_with fail
    go_ret2
    exact ⟨by rw [hrt.out]; try rfl, hB.out⟩
end Go.Proofs.Ytibmhnlmdabliaa
