/- The walk of the law FnExactIsInstance: it returns true and writes nothing that was there. -/
import Derived.Test.YtbjilpemckoioaaIsInS
import Derived.Deep.RegionHeld3
import Derived.Deep.Cut
import Derived.Deep.CutBlock
namespace Go.Proofs.Ytbjilpemckoioaa
open Go.RowKit
set_option linter.unusedVariables false
set_option maxRecDepth 100000
set_option maxHeartbeats 4000000 in
theorem law_IsInstance (l0 : List DCell) (v0 : Value) (l1 : List DCell) (v1 : Value) (w : World) (hlm0 : l0.length ≤ maxLen) (h0 : Sl w v0 3 (l0.map DCell.enc)) (hok0 : ∀ x ∈ l0, DCell.ok x) (hlm1 : l1.length ≤ maxLen) (h1 : Sl w v1 3 (l1.map DCell.enc)) (hok1 : ∀ x ∈ l1, DCell.ok x) :
    Calls Try.prog 4 #[.agg #[v0], .agg #[v1]] w (LawTrue w) := by
  unfold maxLen at *
  have hS0 := hd h0
  obtain ⟨a0, c0, rfl, _⟩ := h0
  have hok0 := hd hok0
  have hS1 := hd h1
  obtain ⟨a1, c1, rfl, _⟩ := h1
  have hok1 := hd hok1
  simp only [List.length_map] at *
  obtain ⟨r, hr⟩ : ∃ r, isInst l0 l1 = r := ⟨_, rfl⟩
  replace hr := hd hr
  obtain ⟨R0, R1⟩ := r
  go_enter Try.func4, Try.ntmps4
  go_wp2_with fail
  refine (szTerm l0 _ _ _ (by omega) (by omega) hlm0 hok0.out (hS0.out.mono (below_a2 _))).mono ?_
  rintro e w1 ⟨r0, rfl, hr00, hr10, hr20, hb1⟩
  have q0' := keepCell hb1 (show _ = some (.slice a0 l0.length c0) from (by go_simp : World.cell? _ ⟨w.heap.size, 0, none⟩ = _))
  have q0 := q0'
  clear q0'
  have q1' := keepCell hb1 (show _ = some (.slice a1 l1.length c1) from (by go_simp : World.cell? _ ⟨w.heap.size + 1, 0, none⟩ = _))
  have q1 := q1'
  clear q1'
  have hB' := hd ((below_a2 _).next hb1)
  have hB := hB'
  clear hB' hb1
  by_cases hn0 : r0 < 0
  · go_wp2_with fail
    go_ret
    exact ⟨rfl, hB.out⟩
  have hl0 : l0.length ≤ 1048576 := by have := hr20 (by omega); omega
  have hn0' : 0 ≤ r0 := by omega
  have hsm0 := hd (hr20 hn0').2
  clear hr20 hn0 hlm0
  go_wp2_with fail
  refine (szTerm l1 _ _ _ (by omega) (by omega) hlm1 hok1.out (hS1.out.mono hB.out)).mono ?_
  rintro e w1 ⟨r1, rfl, hr01, hr11, hr21, hb1⟩
  have q0' := keepCell hb1 q0
  clear q0
  have q0 := q0'
  clear q0'
  have q1' := keepCell hb1 q1
  clear q1
  have q1 := q1'
  clear q1'
  have hB' := hd (hB.out.next hb1)
  clear hB
  have hB := hB'
  clear hB' hb1
  by_cases hn1 : r1 < 0
  · go_wp2_with fail
    go_ret
    exact ⟨rfl, hB.out⟩
  have hl1 : l1.length ≤ 1048576 := by have := hr21 (by omega); omega
  have hn1' : 0 ≤ r1 := by omega
  have hsm1 := hd (hr21 hn1').2
  clear hr21 hn1 hlm1
  go_wp2_with fail
  go_region_held3 (fun w' => w'.cell? ⟨w.heap.size, 0, none⟩ = some (.slice a0 l0.length c0) ∧ w'.cell? ⟨w.heap.size + 1, 0, none⟩ = some (.slice a1 l1.length c1))
    (first | go_keep | (go_split_ands; (repeat' apply And.intro) <;> first | exact keepCell hbA (by assumption) | exact keepCell hbB (by assumption) | exact keepCell hb3 (by assumption)))
    (first
      | (go_at_call 12; refine (toTerm l0 _ _ (by omega) (by first | exact hS0.out.mono hB.out.drew | exact hS0.out.mono (hB.out.drew.next hbB))).mono ?_; rintro e wA ⟨zA, rfl, hoA, hbA⟩; obtain ⟨azA, czA, rfl, _⟩ := hoA.sl; rw [List.length_map] at hoA ⊢)
      | (go_at_call 12; refine (toTerm l1 _ _ (by omega) (by first | exact hS1.out.mono hB.out.drew | exact hS1.out.mono (hB.out.drew.next hbA))).mono ?_; rintro e wB ⟨zB, rfl, hoB, hbB⟩; obtain ⟨azB, czB, rfl, _⟩ := hoB.sl; rw [List.length_map] at hoB ⊢)
      | (go_at_call 15; refine (IsInstance_s l0 l1 _ _ _ (by omega) (by omega) (small_cells (by omega) hsm0.out) (small_cells (by omega) hsm1.out) (by first | exact (hoA.below hbB).sl | exact hoA.sl) (by first | exact (hoB.below hbA).sl | exact hoB.sl) (R0, R1) hr.out).mono ?_; rintro e w3 ⟨rfl, hb3⟩))
  all_goals
    have hbz : Below w1.heap.size w1 w3 := by first | exact (((Below.refl _ _).drew.next hbA).next hbB).next hb3 | exact (((Below.refl _ _).drew.next hbB).next hbA).next hb3
    have q0' := keepCell hbz q0
    clear q0
    have q0 := q0'
    clear q0'
    have q1' := keepCell hbz q1
    clear q1
    have q1 := q1'
    clear q1'
    have hB' := hd (hB.out.next hbz)
    clear hB
    have hB := hB'
    clear hB'
    clear hbA hbB hb3 hbz hoA hoB
    go_wp2_with fail
    refine (toTerm l0 _ _ (by omega) (hS0.out.mono hB.out)).mono ?_
    rintro e wx0 ⟨zx0, rfl, hox0, hbx0⟩
    obtain ⟨azx0, czx0, rfl, _⟩ := hox0.sl
    rw [List.length_map] at hox0 ⊢
    have hox0 := hd hox0
    have q0' := keepCell hbx0 q0
    clear q0
    have q0 := q0'
    clear q0'
    have q1' := keepCell hbx0 q1
    clear q1
    have q1 := q1'
    clear q1'
    have hB' := hd (hB.out.next hbx0)
    clear hB
    have hB := hB'
    clear hB'
    clear hbx0
    go_upto_region 10 with (fail)
    have hal := below_a1 wx0 (a := .cells #[.slice azx0 l0.length czx0] 29)
    have q0' := keepCell hal q0
    clear q0
    have q0 := q0'
    clear q0'
    have q1' := keepCell hal q1
    clear q1
    have q1 := q1'
    clear q1'
    have hox0' := hd (hox0.out.below hal)
    clear hox0
    have hox0 := hox0'
    clear hox0'
    have hB' := hd (hB.out.next hal)
    clear hB
    have hB := hB'
    clear hB'
    have qx0 : (wx0.alloc (.cells #[.slice azx0 l0.length czx0] 29)).cell? ⟨wx0.heap.size, 0, none⟩ = some (.slice azx0 l0.length czx0) := by go_simp
    clear hal
    generalize wx0.alloc (.cells #[.slice azx0 l0.length czx0] 29) = wy0 at q0 q1 qx0 hox0 hB ⊢
    go_wp2_with fail
    refine (toTerm l1 _ _ (by omega) (hS1.out.mono hB.out)).mono ?_
    rintro e wx1 ⟨zx1, rfl, hox1, hbx1⟩
    obtain ⟨azx1, czx1, rfl, _⟩ := hox1.sl
    rw [List.length_map] at hox1 ⊢
    have hox1 := hd hox1
    have q0' := keepCell hbx1 q0
    clear q0
    have q0 := q0'
    clear q0'
    have q1' := keepCell hbx1 q1
    clear q1
    have q1 := q1'
    clear q1'
    have qx0' := keepCell hbx1 qx0
    clear qx0
    have qx0 := qx0'
    clear qx0'
    have hox0' := hd (hox0.out.below hbx1)
    clear hox0
    have hox0 := hox0'
    clear hox0'
    have hB' := hd (hB.out.next hbx1)
    clear hB
    have hB := hB'
    clear hB'
    clear hbx1
    go_upto_region 11 with (fail)
    have hal := below_a1 wx1 (a := .cells #[.slice azx1 l1.length czx1] 29)
    have q0' := keepCell hal q0
    clear q0
    have q0 := q0'
    clear q0'
    have q1' := keepCell hal q1
    clear q1
    have q1 := q1'
    clear q1'
    have qx0' := keepCell hal qx0
    clear qx0
    have qx0 := qx0'
    clear qx0'
    have hox0' := hd (hox0.out.below hal)
    clear hox0
    have hox0 := hox0'
    clear hox0'
    have hox1' := hd (hox1.out.below hal)
    clear hox1
    have hox1 := hox1'
    clear hox1'
    have hB' := hd (hB.out.next hal)
    clear hB
    have hB := hB'
    clear hB'
    have qx1 : (wx1.alloc (.cells #[.slice azx1 l1.length czx1] 29)).cell? ⟨wx1.heap.size, 0, none⟩ = some (.slice azx1 l1.length czx1) := by go_simp
    clear hal
    generalize wx1.alloc (.cells #[.slice azx1 l1.length czx1] 29) = wy1 at q0 q1 qx0 qx1 hox0 hox1 hB ⊢
    go_wp2_with fail
    refine (IsInstance_i l0 l1 _ _ _ (by omega) (by omega) (small_cells (by omega) hsm0.out) (small_cells (by omega) hsm1.out) (by intro a n c e; cases e; exact Own.cap hox0.out) (by intro a n c e; cases e; exact Own.cap hox1.out) hox0.out.sl hox1.out.sl (R0, R1) hr.out).mono ?_
    rintro e w6 ⟨rfl, hb6⟩
    have q0' := keepCell hb6 q0
    clear q0
    have q0 := q0'
    clear q0'
    have q1' := keepCell hb6 q1
    clear q1
    have q1 := q1'
    clear q1'
    have qx0' := keepCell hb6 qx0
    clear qx0
    have qx0 := qx0'
    clear qx0'
    have qx1' := keepCell hb6 qx1
    clear qx1
    have qx1 := qx1'
    clear qx1'
    have hox0' := hd (hox0.out.below hb6)
    clear hox0
    have hox0 := hox0'
    clear hox0'
    have hox1' := hd (hox1.out.below hb6)
    clear hox1
    have hox1 := hox1'
    clear hox1'
    have hB' := hd (hB.out.next hb6)
    clear hB
    have hB := hB'
    clear hB'
    clear hb6
    go_wp2_with fail
    go_region_held3 (fun w' => w'.cell? ⟨w.heap.size, 0, none⟩ = some (.slice a0 l0.length c0) ∧ w'.cell? ⟨wx0.heap.size, 0, none⟩ = some (.slice azx0 l0.length czx0))
      (first | go_keep | (go_split_ands; (repeat' apply And.intro) <;> first | exact keepCell hb8 (by assumption) | exact keepCell hb9 (by assumption)))
      (first
        | (go_at_call 12; refine (toTerm l0 _ _ (by omega) (hS0.out.mono hB.out.drew)).mono ?_; rintro e w8 ⟨v8, rfl, ho8, hb8⟩)
        | (go_at_call 14; refine (eqTerm l0 _ _ _ (by omega) (Own.below (hox0.out.below (Below.refl _ _).drew) hb8).sl ho8.sl).mono ?_; rintro e w9 ⟨rfl, hb9⟩))
    have hb10 := (Below.refl _ _).drew.trans (hb8.next hb9)
    have q0' := keepCell hb10 q0
    clear q0
    have q0 := q0'
    clear q0'
    have q1' := keepCell hb10 q1
    clear q1
    have q1 := q1'
    clear q1'
    have qx0' := keepCell hb10 qx0
    clear qx0
    have qx0 := qx0'
    clear qx0'
    have qx1' := keepCell hb10 qx1
    clear qx1
    have qx1 := qx1'
    clear qx1'
    have hox0' := hd (hox0.out.below hb10)
    clear hox0
    have hox0 := hox0'
    clear hox0'
    have hox1' := hd (hox1.out.below hb10)
    clear hox1
    have hox1 := hox1'
    clear hox1'
    have hB' := hd (hB.out.next hb10)
    clear hB
    have hB := hB'
    clear hB'
    clear hb8 hb9 ho8 hb10
    go_wp2_with fail
    go_region_held3 (fun w' => w'.cell? ⟨w.heap.size + 1, 0, none⟩ = some (.slice a1 l1.length c1) ∧ w'.cell? ⟨wx1.heap.size, 0, none⟩ = some (.slice azx1 l1.length czx1))
      (first | go_keep | (go_split_ands; (repeat' apply And.intro) <;> first | exact keepCell hb8 (by assumption) | exact keepCell hb9 (by assumption)))
      (first
        | (go_at_call 12; refine (toTerm l1 _ _ (by omega) (hS1.out.mono hB.out.drew)).mono ?_; rintro e w8 ⟨v8, rfl, ho8, hb8⟩)
        | (go_at_call 14; refine (eqTerm l1 _ _ _ (by omega) (Own.below (hox1.out.below (Below.refl _ _).drew) hb8).sl ho8.sl).mono ?_; rintro e w9 ⟨rfl, hb9⟩))
    have hb10 := (Below.refl _ _).drew.trans (hb8.next hb9)
    have q0' := keepCell hb10 q0
    clear q0
    have q0 := q0'
    clear q0'
    have q1' := keepCell hb10 q1
    clear q1
    have q1 := q1'
    clear q1'
    have qx0' := keepCell hb10 qx0
    clear qx0
    have qx0 := qx0'
    clear qx0'
    have qx1' := keepCell hb10 qx1
    clear qx1
    have qx1 := qx1'
    clear qx1'
    have hox0' := hd (hox0.out.below hb10)
    clear hox0
    have hox0 := hox0'
    clear hox0'
    have hox1' := hd (hox1.out.below hb10)
    clear hox1
    have hox1 := hox1'
    clear hox1'
    have hB' := hd (hB.out.next hb10)
    clear hB
    have hB := hB'
    clear hB'
    clear hb8 hb9 ho8 hb10
    go_wp2_with fail
    go_ret
    exact ⟨rfl, hB.out⟩
end Go.Proofs.Ytbjilpemckoioaa
