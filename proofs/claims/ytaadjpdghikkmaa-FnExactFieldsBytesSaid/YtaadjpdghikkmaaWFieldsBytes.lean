/- The walk of the law FnExactFieldsBytes: it returns true and writes nothing that was there. -/
import Derived.Test.YtaadjpdghikkmaaFields5
import Derived.Deep.RegionHeld3
import Derived.Deep.Cut
import Derived.Deep.CutBlock
namespace Go.Proofs.Ytaadjpdghikkmaa
open Go.RowKit
set_option linter.unusedVariables false
set_option maxRecDepth 100000
set_option maxHeartbeats 4000000 in
theorem law_FieldsBytes (l0 : List DField) (v0 : Value) (w : World) (hlm0 : l0.length ≤ maxLen) (h0 : Sl w v0 4 (l0.map DField.enc)) (hok0 : ∀ x ∈ l0, DField.ok x) :
    Calls Try.prog 13 #[v0] w (LawTrue w) := by
  unfold maxLen at *
  have hS0 := hd h0
  obtain ⟨a0, c0, rfl, _⟩ := h0
  have hok0 := hd hok0
  simp only [List.length_map] at *
  obtain ⟨b, hb⟩ : ∃ b, fieldsRB l0 = b := ⟨_, rfl⟩
  obtain ⟨r, hr⟩ : ∃ r, fieldsR l0 = r := ⟨_, rfl⟩
  replace hb := hd hb
  replace hr := hd hr
  go_enter Try.func13, Try.ntmps13
  go_wp2_with fail
  refine (szFieldS l0 _ _ _ (by omega) (by omega) hlm0 hok0.out (hS0.out.mono (Below.refl _ _))).mono ?_
  rintro e w1 ⟨r0, rfl, hr00, hr10, hr20, hb1⟩
  have hB' := hd ((Below.refl _ _).next hb1)
  have hB := hB'
  clear hB' hb1
  by_cases hn0 : r0 < 0
  · go_wp2_with fail
    go_ret
    exact ⟨rfl, hB.out⟩
  have hl0 : l0.length ≤ 1048576 := by have := hr20 (by omega); omega
  have hn0' : 0 ≤ r0 := by omega
  have hsm0 := hd (hr20 hn0').2
  clear hr20 hn0 hlm0
  go_wp2_with fail
  refine (toFieldS l0 _ _ (by omega) (hS0.out.mono hB.out)).mono ?_
  rintro e ws0 ⟨zs0, rfl, hos0, hbs0⟩
  obtain ⟨azs0, czs0, rfl, _⟩ := hos0.sl
  rw [List.length_map] at hos0 ⊢
  have hos0 := hd hos0
  have hB' := hd (hB.out.next hbs0)
  clear hB
  have hB := hB'
  clear hB'
  clear hbs0
  go_wp2_with fail
  refine (FieldsBytes_s l0 _ _ (by omega) (small_all hsm0.out) hos0.out.sl b hb.out r hr.out).mono ?_
  rintro e w3 ⟨rfl, hb3⟩
  have hB' := hd (hB.out.next hb3)
  clear hB
  have hB := hB'
  clear hB'
  clear hb3 hos0
  go_wp2_with fail
  refine (toFieldS l0 _ _ (by omega) (hS0.out.mono hB.out)).mono ?_
  rintro e wx0 ⟨zx0, rfl, hox0, hbx0⟩
  obtain ⟨azx0, czx0, rfl, _⟩ := hox0.sl
  rw [List.length_map] at hox0 ⊢
  have hox0 := hd hox0
  have hB' := hd (hB.out.next hbx0)
  clear hB
  have hB := hB'
  clear hB'
  clear hbx0
  go_wp2_with fail
  refine (FieldsBytes_i l0 _ _ (by omega) (small_all hsm0.out) hox0.out.sl b hb.out r hr.out).mono ?_
  rintro e w6 ⟨rfl, hb6⟩
  have hox0' := hd (hox0.out.below hb6)
  clear hox0
  have hox0 := hox0'
  clear hox0'
  have hB' := hd (hB.out.next hb6)
  clear hB
  have hB := hB'
  clear hB'
  clear hb6
  go_wp2_with fail
  refine (toFieldS l0 _ _ (by omega) (hS0.out.mono hB.out)).mono ?_
  rintro e w8 ⟨v8, rfl, ho8, hb8⟩
  have hox0' := hd (hox0.out.below hb8)
  clear hox0
  have hox0 := hox0'
  clear hox0'
  have hB' := hd (hB.out.next hb8)
  clear hB
  have hB := hB'
  clear hB'
  replace ho8 := hd ho8
  clear hb8
  go_wp2_with fail
  refine (eqFieldS l0 _ _ _ (by omega) hox0.out.sl ho8.out.sl).mono ?_
  rintro e w9 ⟨rfl, hb9⟩
  have hox0' := hd (hox0.out.below hb9)
  clear hox0
  have hox0 := hox0'
  clear hox0'
  have hB' := hd (hB.out.next hb9)
  clear hB
  have hB := hB'
  clear hB'
  clear hb9 ho8
  go_wp2_with fail
  go_ret
  exact ⟨rfl, hB.out⟩
end Go.Proofs.Ytaadjpdghikkmaa
