/- The walk of the law FnExactSchemaText: it returns true and writes nothing that was there. -/
import Derived.Test.YtcepnifcfkgaeaaDoorSchemaText
import Derived.Deep.RegionHeld3
import Derived.Deep.Cut
import Derived.Deep.CutBlock
namespace Go.Proofs.YtcepnifcfkgaeaaDoor
open Go.RowKit
set_option linter.unusedVariables false
set_option maxRecDepth 100000
set_option maxHeartbeats 4000000 in
theorem law_SchemaText (l0 : List DType) (v0 : Value) (w : World) (hlm0 : l0.length ≤ maxLen) (h0 : Sl w v0 6 (l0.map DType.enc)) (hok0 : ∀ x ∈ l0, DType.ok x) :
    Calls Tryd.prog 3 #[.agg #[v0]] w (LawTrue w) := by
  unfold maxLen at *
  have hS0 := hd h0
  obtain ⟨a0, c0, rfl, _⟩ := h0
  have hok0 := hd hok0
  simp only [List.length_map] at *
  obtain ⟨r, b, hr⟩ := sxP_ex l0
  replace hr := hd hr
  go_enter Tryd.func3, Tryd.ntmps3
  go_wp2_with fail
  refine (szSchema l0 _ _ _ (by omega) (by omega) hlm0 hok0.out (hS0.out.mono (below_a1 _))).mono ?_
  rintro e w1 ⟨r0, rfl, hr00, hr10, hr20, hb1⟩
  have q0' := keepCell hb1 (show _ = some (.slice a0 l0.length c0) from (by go_simp : World.cell? _ ⟨w.heap.size, 0, none⟩ = _))
  have q0 := q0'
  clear q0'
  have hB' := hd ((below_a1 _).next hb1)
  have hB := hB'
  clear hB' hb1
  by_cases hn0 : r0 < 0
  · go_wp2_with fail
    go_ret
    exact ⟨rfl, hB.out⟩
  have hl0 : l0.length ≤ 1048576 := by have := hr20 (by omega); omega
  have hn0' : 0 ≤ r0 := by omega
  have hsm0 := hd (hr20 hn0').2
  clear hr20 hn0 hlm0
  go_wp2_with fail
  refine (toSchema l0 _ _ (by omega) (hS0.out.mono hB.out)).mono ?_
  rintro e ws0 ⟨zs0, rfl, hos0, hbs0⟩
  obtain ⟨azs0, czs0, rfl, _⟩ := hos0.sl
  rw [List.length_map] at hos0 ⊢
  have hos0 := hd hos0
  have q0' := keepCell hbs0 q0
  clear q0
  have q0 := q0'
  clear q0'
  have hB' := hd (hB.out.next hbs0)
  clear hB
  have hB := hB'
  clear hB'
  clear hbs0
  go_wp2_with fail
  refine (SchemaText_s l0 _ _ (by omega) (small_types hsm0.out) hos0.out.sl r b hr.out).mono ?_
  rintro e w3 ⟨rfl, hb3⟩
  have q0' := keepCell hb3 q0
  clear q0
  have q0 := q0'
  clear q0'
  have hB' := hd (hB.out.next hb3)
  clear hB
  have hB := hB'
  clear hB'
  clear hb3 hos0
  go_wp2_with fail
  refine (toSchema l0 _ _ (by omega) (hS0.out.mono hB.out)).mono ?_
  rintro e wx0 ⟨zx0, rfl, hox0, hbx0⟩
  obtain ⟨azx0, czx0, rfl, _⟩ := hox0.sl
  rw [List.length_map] at hox0 ⊢
  have hox0 := hd hox0
  have q0' := keepCell hbx0 q0
  clear q0
  have q0 := q0'
  clear q0'
  have hB' := hd (hB.out.next hbx0)
  clear hB
  have hB := hB'
  clear hB'
  clear hbx0
  go_upto_region 7 with (fail)
  have hal := below_a1 wx0 (a := .cells #[.slice azx0 l0.length czx0] 30)
  have q0' := keepCell hal q0
  clear q0
  have q0 := q0'
  clear q0'
  have hox0' := hd (hox0.out.below hal)
  clear hox0
  have hox0 := hox0'
  clear hox0'
  have hB' := hd (hB.out.next hal)
  clear hB
  have hB := hB'
  clear hB'
  have qx0 : (wx0.alloc (.cells #[.slice azx0 l0.length czx0] 30)).cell? ⟨wx0.heap.size, 0, none⟩ = some (.slice azx0 l0.length czx0) := by go_simp
  clear hal
  generalize wx0.alloc (.cells #[.slice azx0 l0.length czx0] 30) = wy0 at q0 qx0 hox0 hB ⊢
  go_wp2_with fail
  refine (SchemaText_i l0 _ _ (by omega) (small_types hsm0.out) hox0.out.sl r b hr.out).mono ?_
  rintro e w6 ⟨rfl, hb6⟩
  have q0' := keepCell hb6 q0
  clear q0
  have q0 := q0'
  clear q0'
  have qx0' := keepCell hb6 qx0
  clear qx0
  have qx0 := qx0'
  clear qx0'
  have hox0' := hd (hox0.out.below hb6)
  clear hox0
  have hox0 := hox0'
  clear hox0'
  have hB' := hd (hB.out.next hb6)
  clear hB
  have hB := hB'
  clear hB'
  clear hb6
  go_wp2_with fail
  go_region_held3 (fun w' => w'.cell? ⟨w.heap.size, 0, none⟩ = some (.slice a0 l0.length c0) ∧ w'.cell? ⟨wx0.heap.size, 0, none⟩ = some (.slice azx0 l0.length czx0))
    (first | go_keep | (go_split_ands; (repeat' apply And.intro) <;> first | exact keepCell hb8 (by assumption) | exact keepCell hb9 (by assumption)))
    (first
      | (go_at_call 6; refine (toSchema l0 _ _ (by omega) (hS0.out.mono hB.out.drew)).mono ?_; rintro e w8 ⟨v8, rfl, ho8, hb8⟩)
      | (go_at_call 8; refine (eqSchema l0 _ _ _ (by omega) (Own.below (hox0.out.below (Below.refl _ _).drew) hb8).sl ho8.sl).mono ?_; rintro e w9 ⟨rfl, hb9⟩))
  have hb10 := (Below.refl _ _).drew.trans (hb8.next hb9)
  have q0' := keepCell hb10 q0
  clear q0
  have q0 := q0'
  clear q0'
  have qx0' := keepCell hb10 qx0
  clear qx0
  have qx0 := qx0'
  clear qx0'
  have hox0' := hd (hox0.out.below hb10)
  clear hox0
  have hox0 := hox0'
  clear hox0'
  have hB' := hd (hB.out.next hb10)
  clear hB
  have hB := hB'
  clear hB'
  clear hb8 hb9 ho8 hb10
  go_wp2_with fail
  go_ret
  exact ⟨rfl, hB.out⟩
end Go.Proofs.YtcepnifcfkgaeaaDoor
