/- The walk of the law FnExactBoxHas: it returns true and writes nothing that was there. -/
import Derived.Test.YtaadjpdghikkmaaBoxHas
import Derived.Deep.RegionHeld3
import Derived.Deep.Cut
import Derived.Deep.CutBlock
namespace Go.Proofs.Ytaadjpdghikkmaa
open Go.RowKit
set_option linter.unusedVariables false
set_option maxRecDepth 100000
set_option maxHeartbeats 4000000 in
theorem law_BoxHas (l0 : List DSide) (v0 : Value) (l1 : List Int) (v1 : Value) (w : World) (hlm0 : l0.length ≤ maxLen) (h0 : Sl w v0 2 (l0.map DSide.enc)) (hlm1 : l1.length ≤ maxLen) (h1 : Sl w v1 1 (l1.map encI)) :
    Calls Try.prog 5 #[.agg #[v0], v1] w (LawTrue w) := by
  unfold maxLen at *
  have hS0 := hd h0
  obtain ⟨a0, c0, rfl, _⟩ := h0
  have hS1 := hd h1
  obtain ⟨a1, c1, rfl, _⟩ := h1
  simp only [List.length_map] at *
  obtain ⟨r, hr⟩ : ∃ r, bhR l0 l1 = r := ⟨_, rfl⟩
  replace hr := hd hr
  obtain ⟨R0, R1⟩ := r
  by_cases hc1 : (1048576 : Int) < (l1.length : Int)
  · go_enter Try.func5, Try.ntmps5
    go_wp2_with fail
    go_ret
    exact ⟨rfl, below_a1 _⟩
  have hl1 : l1.length ≤ 1048576 := by omega
  go_enter Try.func5, Try.ntmps5
  go_wp2_with fail
  refine (szBox l0 _ _ _ (by omega) (by omega) hlm0 (hS0.out.mono (below_a1 _))).mono ?_
  rintro e w1 ⟨r0, rfl, hr00, hr10, hr20, hb1⟩
  have q0' := keepCell hb1 (show _ = some (.slice a0 l0.length c0) from (by go_simp : World.cell? _ ⟨w.heap.size, 0, none⟩ = _))
  have q0 := q0'
  clear q0'
  have hB' := hd ((below_a1 _).next hb1)
  have hB := hB'
  clear hB' hb1
  by_cases hn0 : r0 < 0
  · go_wp2_with fail
    go_ret
    exact ⟨rfl, hB.out⟩
  have hl0 : l0.length ≤ 1048576 := by have := hr20 (by omega); omega
  have hn0' : 0 ≤ r0 := by omega
  clear hr20 hn0 hlm0
  go_wp2_with fail
  refine (toBox l0 _ _ (by omega) (hS0.out.mono hB.out)).mono ?_
  rintro e ws0 ⟨zs0, rfl, hos0, hbs0⟩
  obtain ⟨azs0, czs0, rfl, _⟩ := hos0.sl
  rw [List.length_map] at hos0 ⊢
  have hos0 := hd hos0
  have q0' := keepCell hbs0 q0
  clear q0
  have q0 := q0'
  clear q0'
  have hB' := hd (hB.out.next hbs0)
  clear hB
  have hB := hB'
  clear hB'
  clear hbs0
  go_wp2_with fail
  refine (toIntS l1 _ _ (by omega) (hS1.out.mono hB.out)).mono ?_
  rintro e ws1 ⟨zs1, rfl, hos1, hbs1⟩
  obtain ⟨azs1, czs1, rfl, _⟩ := hos1.sl
  rw [List.length_map] at hos1 ⊢
  have hos1 := hd hos1
  have q0' := keepCell hbs1 q0
  clear q0
  have q0 := q0'
  clear q0'
  have hos0' := hd (hos0.out.below hbs1)
  clear hos0
  have hos0 := hos0'
  clear hos0'
  have hB' := hd (hB.out.next hbs1)
  clear hB
  have hB := hB'
  clear hB'
  clear hbs1
  go_wp2_with fail
  refine (BoxHas_s l0 l1 _ _ _ (by omega) (by omega) hos0.out.sl hos1.out.sl (R0, R1) hr.out).mono ?_
  rintro e w3 ⟨rfl, hb3⟩
  have q0' := keepCell hb3 q0
  clear q0
  have q0 := q0'
  clear q0'
  have hB' := hd (hB.out.next hb3)
  clear hB
  have hB := hB'
  clear hB'
  clear hb3 hos0 hos1
  go_wp2_with fail
  refine (toBox l0 _ _ (by omega) (hS0.out.mono hB.out)).mono ?_
  rintro e wx0 ⟨zx0, rfl, hox0, hbx0⟩
  obtain ⟨azx0, czx0, rfl, _⟩ := hox0.sl
  rw [List.length_map] at hox0 ⊢
  have hox0 := hd hox0
  have q0' := keepCell hbx0 q0
  clear q0
  have q0 := q0'
  clear q0'
  have hB' := hd (hB.out.next hbx0)
  clear hB
  have hB := hB'
  clear hB'
  clear hbx0
  go_upto_region 9 with (fail)
  have hal := below_a1 wx0 (a := .cells #[.slice azx0 l0.length czx0] 29)
  have q0' := keepCell hal q0
  clear q0
  have q0 := q0'
  clear q0'
  have hox0' := hd (hox0.out.below hal)
  clear hox0
  have hox0 := hox0'
  clear hox0'
  have hB' := hd (hB.out.next hal)
  clear hB
  have hB := hB'
  clear hB'
  have qx0 : (wx0.alloc (.cells #[.slice azx0 l0.length czx0] 29)).cell? ⟨wx0.heap.size, 0, none⟩ = some (.slice azx0 l0.length czx0) := by go_simp
  clear hal
  generalize wx0.alloc (.cells #[.slice azx0 l0.length czx0] 29) = wy0 at q0 qx0 hox0 hB ⊢
  go_wp2_with fail
  refine (toIntS l1 _ _ (by omega) (hS1.out.mono hB.out)).mono ?_
  rintro e wx1 ⟨zx1, rfl, hox1, hbx1⟩
  obtain ⟨azx1, czx1, rfl, _⟩ := hox1.sl
  rw [List.length_map] at hox1 ⊢
  have hox1 := hd hox1
  have q0' := keepCell hbx1 q0
  clear q0
  have q0 := q0'
  clear q0'
  have qx0' := keepCell hbx1 qx0
  clear qx0
  have qx0 := qx0'
  clear qx0'
  have hox0' := hd (hox0.out.below hbx1)
  clear hox0
  have hox0 := hox0'
  clear hox0'
  have hB' := hd (hB.out.next hbx1)
  clear hB
  have hB := hB'
  clear hB'
  clear hbx1
  go_wp2_with fail
  refine (BoxHas_i l0 l1 _ _ _ (by omega) (by omega) hox0.out.sl hox1.out.sl (R0, R1) hr.out).mono ?_
  rintro e w6 ⟨rfl, hb6⟩
  have q0' := keepCell hb6 q0
  clear q0
  have q0 := q0'
  clear q0'
  have qx0' := keepCell hb6 qx0
  clear qx0
  have qx0 := qx0'
  clear qx0'
  have hox0' := hd (hox0.out.below hb6)
  clear hox0
  have hox0 := hox0'
  clear hox0'
  have hox1' := hd (hox1.out.below hb6)
  clear hox1
  have hox1 := hox1'
  clear hox1'
  have hB' := hd (hB.out.next hb6)
  clear hB
  have hB := hB'
  clear hB'
  clear hb6
  go_wp2_with fail
  go_region_held3 (fun w' => w'.cell? ⟨w.heap.size, 0, none⟩ = some (.slice a0 l0.length c0) ∧ w'.cell? ⟨wx0.heap.size, 0, none⟩ = some (.slice azx0 l0.length czx0))
    (first | go_keep | (go_split_ands; (repeat' apply And.intro) <;> first | exact keepCell hb8 (by assumption) | exact keepCell hb9 (by assumption)))
    (first
      | (go_at_call 17; refine (toBox l0 _ _ (by omega) (hS0.out.mono hB.out.drew)).mono ?_; rintro e w8 ⟨v8, rfl, ho8, hb8⟩)
      | (go_at_call 19; refine (eqBox l0 _ _ _ (by omega) (Own.below (hox0.out.below (Below.refl _ _).drew) hb8).sl ho8.sl).mono ?_; rintro e w9 ⟨rfl, hb9⟩))
  have hb10 := (Below.refl _ _).drew.trans (hb8.next hb9)
  have q0' := keepCell hb10 q0
  clear q0
  have q0 := q0'
  clear q0'
  have qx0' := keepCell hb10 qx0
  clear qx0
  have qx0 := qx0'
  clear qx0'
  have hox0' := hd (hox0.out.below hb10)
  clear hox0
  have hox0 := hox0'
  clear hox0'
  have hox1' := hd (hox1.out.below hb10)
  clear hox1
  have hox1 := hox1'
  clear hox1'
  have hB' := hd (hB.out.next hb10)
  clear hB
  have hB := hB'
  clear hB'
  clear hb8 hb9 ho8 hb10
  go_wp2_with fail
  refine (toIntS l1 _ _ (by omega) (hS1.out.mono hB.out)).mono ?_
  rintro e w8 ⟨v8, rfl, ho8, hb8⟩
  have q0' := keepCell hb8 q0
  clear q0
  have q0 := q0'
  clear q0'
  have qx0' := keepCell hb8 qx0
  clear qx0
  have qx0 := qx0'
  clear qx0'
  have hox0' := hd (hox0.out.below hb8)
  clear hox0
  have hox0 := hox0'
  clear hox0'
  have hox1' := hd (hox1.out.below hb8)
  clear hox1
  have hox1 := hox1'
  clear hox1'
  have hB' := hd (hB.out.next hb8)
  clear hB
  have hB := hB'
  clear hB'
  replace ho8 := hd ho8
  clear hb8
  go_wp2_with fail
  refine (eqIntS l1 _ _ _ (by omega) hox1.out.sl ho8.out.sl).mono ?_
  rintro e w9 ⟨rfl, hb9⟩
  have q0' := keepCell hb9 q0
  clear q0
  have q0 := q0'
  clear q0'
  have qx0' := keepCell hb9 qx0
  clear qx0
  have qx0 := qx0'
  clear qx0'
  have hox0' := hd (hox0.out.below hb9)
  clear hox0
  have hox0 := hox0'
  clear hox0'
  have hox1' := hd (hox1.out.below hb9)
  clear hox1
  have hox1 := hox1'
  clear hox1'
  have hB' := hd (hB.out.next hb9)
  clear hB
  have hB := hB'
  clear hB'
  clear hb9 ho8
  go_wp2_with fail
  go_ret
  exact ⟨rfl, hB.out⟩
end Go.Proofs.Ytaadjpdghikkmaa
