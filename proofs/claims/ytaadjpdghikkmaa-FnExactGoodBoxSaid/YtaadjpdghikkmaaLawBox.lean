import Derived.Test.YtaadjpdghikkmaaBox
namespace Go.Proofs.Ytaadjpdghikkmaa
open Go.RowKit
set_option linter.unusedVariables false
set_option maxRecDepth 100000
set_option maxHeartbeats 800000 in
theorem law_GoodBox (l : List DSide) (v : Value) (w : World) (hlm : l.length ≤ maxLen) (h : Sl w v 2 (l.map DSide.enc)) :
    Calls Try.prog 3 #[.agg #[v]] w (LawTrue w) := by
  have hS := hd h
  obtain ⟨b, hb⟩ : ∃ b, goodBox l = b := ⟨_, rfl⟩
  have hb := hd hb
  obtain ⟨a, c, rfl, _⟩ := h
  simp only [List.length_map] at hS ⊢
  go_enter Try.func3, Try.ntmps3
  go_wp2_with fail
  refine (szBox l _ _ _ (by omega) (by omega) hlm (hS.out.mono (below_a1 _))).mono ?_
  rintro e w1 ⟨r, rfl, hr0, hr1, hr2, hb1⟩
  have q1 : w1.cell? ⟨w.heap.size, 0, none⟩ = some (.slice a l.length c) := keepCell hb1 (by go_simp)
  have hB1 := hd ((below_a1 w).next hb1)
  clear hb1
  by_cases hn : r < 0
  · go_wp2_with fail
    go_ret
    exact ⟨rfl, hB1.out⟩
  have hl : l.length ≤ 1048576 := by have := hr2 (by omega); omega
  have hn' : 0 ≤ r := by omega
  clear hr2 hn hlm
  go_wp2_with fail
  refine (toBox l _ _ (by omega) (hS.out.mono hB1.out)).mono ?_
  rintro e w2 ⟨v2, rfl, ho2, hb2⟩
  have q2 := keepCell hb2 q1
  have hB2 := hd (hB1.out.next hb2)
  have ho2 := hd ho2
  clear hb2 q1
  go_wp2_with fail
  refine (GoodBox_s l _ _ (by omega) ho2.out.sl b hb.out).mono ?_
  rintro e w3 ⟨rfl, hb3⟩
  have q3 := keepCell hb3 q2
  have hB3 := hd (hB2.out.next hb3)
  clear hb3 q2 ho2
  go_wp2_with fail
  refine (toBox l _ _ (by omega) (hS.out.mono hB3.out)).mono ?_
  rintro e w4 ⟨v4, rfl, ho4, hb4⟩
  obtain ⟨a4, c4, rfl, _⟩ := ho4.sl
  rw [List.length_map] at ho4 ⊢
  have q4 := keepCell hb4 q3
  have hB4 := hd (hB3.out.next hb4)
  have ho4 := hd ho4
  clear hb4 q3
  go_wp2_with fail
  have ho5 := hd (ho4.out.below (below_a1 _ (a := .cells #[.slice a4 l.length c4] 29)))
  have q5 : (w4.alloc (.cells #[.slice a4 l.length c4] 29)).cell? ⟨w4.heap.size, 0, none⟩ = some (.slice a4 l.length c4) := by go_simp
  have q6 := keepCell (below_a1 _ (a := .cells #[.slice a4 l.length c4] 29)) q4
  have hB5 := hd (hB4.out.next (below_a1 _ (a := .cells #[.slice a4 l.length c4] 29)))
  refine (GoodBox_i l _ _ (by omega) ho5.out.sl b hb.out).mono ?_
  rintro e w6 ⟨rfl, hb6⟩
  have q7 := keepCell hb6 q5
  have q8 := keepCell hb6 q6
  have ho7 := hd (ho5.out.below hb6)
  have hB6 := hd (hB5.out.next hb6)
  clear hb6 q5 q6 ho5 ho4 hB5 q4
  go_wp2_with fail
  go_region_held3 (fun w' => w'.cell? ⟨w.heap.size, 0, none⟩ = some (.slice a l.length c) ∧ w'.cell? ⟨w4.heap.size, 0, none⟩ = some (.slice a4 l.length c4))
    (first | go_keep | (go_split_ands; (repeat' apply And.intro) <;> first | exact keepCell hb8 (by assumption) | exact keepCell hb9 (by assumption)))
    (first
      | (go_at_call 17; refine (toBox l _ _ (by omega) (hS.out.mono hB6.out.drew)).mono ?_; rintro e w8 ⟨v8, rfl, ho8, hb8⟩)
      | (go_at_call 19; refine (eqBox l _ _ _ (by omega) (Own.below (ho7.out.below (Below.refl _ _).drew) hb8).sl ho8.sl).mono ?_; rintro e w9 ⟨rfl, hb9⟩))
  have hB9 := hd ((hB6.out.next ((Below.refl _ _).drew.trans hb8)).next hb9)
  clear hb8 hb9 ho8
  go_wp2_with fail
  go_ret
  exact ⟨rfl, hB9.out⟩
end Go.Proofs.Ytaadjpdghikkmaa
