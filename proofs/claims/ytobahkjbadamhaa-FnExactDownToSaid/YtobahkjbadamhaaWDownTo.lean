/- The walk of the law FnExactDownTo: it returns true and writes nothing that was there. -/
import Derived.Test.YtobahkjbadamhaaDownM
import Derived.Deep.RegionHeld3
import Derived.Deep.Cut
import Derived.Deep.CutBlock
namespace Go.Proofs.Ytobahkjbadamhaa
open Go.RowKit
set_option linter.unusedVariables false
set_option maxRecDepth 100000
set_option maxHeartbeats 4000000 in
theorem law_DownTo (s0 : ByteArray) (l1 : List DType) (v1 : Value) (w : World) (hlm0 : s0.size ≤ maxLen) (hlm1 : l1.length ≤ maxLen) (h1 : Sl w v1 6 (l1.map DType.enc)) (hok1 : ∀ x ∈ l1, DType.ok x) :
    Calls Try.prog 12 #[.string s0, .agg #[v1]] w (LawTrue w) := by
  unfold maxLen at *
  have hS1 := hd h1
  obtain ⟨a1, c1, rfl, _⟩ := h1
  have hok1 := hd hok1
  simp only [List.length_map] at *
  obtain ⟨b, z, hb, hz4⟩ := downP_ex l1 s0
  replace hb := hd hb
  by_cases hc0 : (1048576 : Int) < (s0.size : Int)
  · go_enter Try.func12, Try.ntmps12
    go_wp2_with fail
    go_ret
    exact ⟨rfl, below_a1 _⟩
  have hl0 : s0.size ≤ 1048576 := by omega
  go_enter Try.func12, Try.ntmps12
  go_wp2_with fail
  refine (szSchema l1 _ _ _ (by omega) (by omega) hlm1 hok1.out (hS1.out.mono (below_a1 _))).mono ?_
  rintro e w1 ⟨r1, rfl, hr01, hr11, hr21, hb1⟩
  have q1' := keepCell hb1 (show _ = some (.slice a1 l1.length c1) from (by go_simp : World.cell? _ ⟨w.heap.size, 0, none⟩ = _))
  have q1 := q1'
  clear q1'
  have hB' := hd ((below_a1 _).next hb1)
  have hB := hB'
  clear hB' hb1
  by_cases hn1 : r1 < 0
  · go_wp2_with fail
    go_ret
    exact ⟨rfl, hB.out⟩
  have hl1 : l1.length ≤ 1048576 := by have := hr21 (by omega); omega
  have hn1' : 0 ≤ r1 := by omega
  have hsm1 := hd (hr21 hn1').2
  clear hr21 hn1 hlm1
  go_wp2_with fail
  refine (toSchema l1 _ _ (by omega) (hS1.out.mono hB.out)).mono ?_
  rintro e ws1 ⟨zs1, rfl, hos1, hbs1⟩
  obtain ⟨azs1, czs1, rfl, _⟩ := hos1.sl
  rw [List.length_map] at hos1 ⊢
  have hos1 := hd hos1
  have q1' := keepCell hbs1 q1
  clear q1
  have q1 := q1'
  clear q1'
  have hB' := hd (hB.out.next hbs1)
  clear hB
  have hB := hB'
  clear hB'
  clear hbs1
  go_wp2_with fail
  refine (DownTo_s s0 l1 _ _ (by omega) (small_types hsm1.out) hos1.out.sl b z hb.out).mono ?_
  rintro e w3 ⟨rfl, hb3⟩
  have q1' := keepCell hb3 q1
  clear q1
  have q1 := q1'
  clear q1'
  have hB' := hd (hB.out.next hb3)
  clear hB
  have hB := hB'
  clear hB'
  clear hb3 hos1
  go_wp2_with fail
  refine (toSchema l1 _ _ (by omega) (hS1.out.mono hB.out)).mono ?_
  rintro e wx1 ⟨zx1, rfl, hox1, hbx1⟩
  obtain ⟨azx1, czx1, rfl, _⟩ := hox1.sl
  rw [List.length_map] at hox1 ⊢
  have hox1 := hd hox1
  have q1' := keepCell hbx1 q1
  clear q1
  have q1 := q1'
  clear q1'
  have hB' := hd (hB.out.next hbx1)
  clear hB
  have hB := hB'
  clear hB'
  clear hbx1
  go_upto_region 9 with (fail)
  have hal := below_a1 wx1 (a := .cells #[.slice azx1 l1.length czx1] 28)
  have q1' := keepCell hal q1
  clear q1
  have q1 := q1'
  clear q1'
  have hox1' := hd (hox1.out.below hal)
  clear hox1
  have hox1 := hox1'
  clear hox1'
  have hB' := hd (hB.out.next hal)
  clear hB
  have hB := hB'
  clear hB'
  have qx1 : (wx1.alloc (.cells #[.slice azx1 l1.length czx1] 28)).cell? ⟨wx1.heap.size, 0, none⟩ = some (.slice azx1 l1.length czx1) := by go_simp
  clear hal
  generalize wx1.alloc (.cells #[.slice azx1 l1.length czx1] 28) = wy1 at q1 qx1 hox1 hB ⊢
  go_wp2_with fail
  refine (DownTo_i s0 l1 _ _ (by omega) (small_types hsm1.out) hox1.out.sl b z hb.out).mono ?_
  rintro e w6 ⟨rfl, hb6⟩
  have q1' := keepCell hb6 q1
  clear q1
  have q1 := q1'
  clear q1'
  have qx1' := keepCell hb6 qx1
  clear qx1
  have qx1 := qx1'
  clear qx1'
  have hox1' := hd (hox1.out.below hb6)
  clear hox1
  have hox1 := hox1'
  clear hox1'
  have hB' := hd (hB.out.next hb6)
  clear hB
  have hB := hB'
  clear hB'
  clear hb6
  go_wp2_with fail
  go_region_held3 (fun w' => w'.cell? ⟨w.heap.size, 0, none⟩ = some (.slice a1 l1.length c1) ∧ w'.cell? ⟨wx1.heap.size, 0, none⟩ = some (.slice azx1 l1.length czx1))
    (first | go_keep | (go_split_ands; (repeat' apply And.intro) <;> first | exact keepCell hb8 (by assumption) | exact keepCell hb9 (by assumption)))
    (first
      | (go_at_call 16; refine (toSchema l1 _ _ (by omega) (hS1.out.mono hB.out.drew)).mono ?_; rintro e w8 ⟨v8, rfl, ho8, hb8⟩)
      | (go_at_call 18; refine (eqSchema l1 _ _ _ (by omega) (Own.below (hox1.out.below (Below.refl _ _).drew) hb8).sl ho8.sl).mono ?_; rintro e w9 ⟨rfl, hb9⟩))
  have hb10 := (Below.refl _ _).drew.trans (hb8.next hb9)
  have q1' := keepCell hb10 q1
  clear q1
  have q1 := q1'
  clear q1'
  have qx1' := keepCell hb10 qx1
  clear qx1
  have qx1 := qx1'
  clear qx1'
  have hox1' := hd (hox1.out.below hb10)
  clear hox1
  have hox1 := hox1'
  clear hox1'
  have hB' := hd (hB.out.next hb10)
  clear hB
  have hB := hB'
  clear hB'
  clear hb8 hb9 ho8 hb10
  go_wp2_with fail
  go_ret
  exact ⟨rfl, hB.out⟩
end Go.Proofs.Ytobahkjbadamhaa
