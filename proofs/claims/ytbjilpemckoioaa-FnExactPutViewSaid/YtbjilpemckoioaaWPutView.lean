/- The walk of the law FnExactPutView: it returns true and writes nothing that was there. -/
import Derived.Test.YtbjilpemckoioaaPut2
import Derived.Deep.RegionHeld3
import Derived.Deep.Cut
import Derived.Deep.CutBlock
namespace Go.Proofs.Ytbjilpemckoioaa
open Go.RowKit
set_option linter.unusedVariables false
set_option maxRecDepth 100000
set_option maxHeartbeats 4000000 in
theorem law_PutView (s0 : ByteArray) (l1 : List Int) (v1 : Value) (s2 : ByteArray) (w : World) (hlm0 : s0.size ≤ maxLen) (hlm1 : l1.length ≤ maxLen) (h1 : Sl w v1 1 (l1.map encI)) (hlm2 : s2.size ≤ maxLen) :
    Calls Try.prog 8 #[.string s0, v1, .string s2] w (LawTrue w) := by
  unfold maxLen at *
  have hS1 := hd h1
  obtain ⟨a1, c1, rfl, _⟩ := h1
  simp only [List.length_map] at *
  obtain ⟨b, hb⟩ : ∃ b, putB s0.data.toList s2.data.toList l1 = b := ⟨_, rfl⟩
  obtain ⟨r, hr⟩ : ∃ r, putR s0.data.toList s2.data.toList l1 = r := ⟨_, rfl⟩
  replace hb := hd hb
  replace hr := hd hr
  by_cases hc0 : (1048576 : Int) < (s0.size : Int)
  · go_enter Try.func8, Try.ntmps8
    go_wp2_with fail
    go_ret
    exact ⟨rfl, Below.refl _ _⟩
  have hl0 : s0.size ≤ 1048576 := by omega
  by_cases hc1 : (1048576 : Int) < (l1.length : Int)
  · go_enter Try.func8, Try.ntmps8
    go_wp2_with fail
    go_ret
    exact ⟨rfl, Below.refl _ _⟩
  have hl1 : l1.length ≤ 1048576 := by omega
  by_cases hc2 : (1048576 : Int) < (s2.size : Int)
  · go_enter Try.func8, Try.ntmps8
    go_wp2_with fail
    go_ret
    exact ⟨rfl, Below.refl _ _⟩
  have hl2 : s2.size ≤ 1048576 := by omega
  go_enter Try.func8, Try.ntmps8
  go_wp2_with fail
  have hB := hd (Below.refl w.heap.size w)
  refine (toIntS l1 _ _ (by omega) (hS1.out.mono hB.out)).mono ?_
  rintro e ws1 ⟨zs1, rfl, hos1, hbs1⟩
  obtain ⟨azs1, czs1, rfl, _⟩ := hos1.sl
  rw [List.length_map] at hos1 ⊢
  have hos1 := hd hos1
  have hB' := hd (hB.out.next hbs1)
  clear hB
  have hB := hB'
  clear hB'
  clear hbs1
  go_wp2_with fail
  refine (PutView_s s0 l1 s2 _ _ (by omega) (by omega) (by omega) hos1.out.sl b hb.out r hr.out).mono ?_
  rintro e w3 ⟨rfl, hb3⟩
  have hB' := hd (hB.out.next hb3)
  clear hB
  have hB := hB'
  clear hB'
  clear hb3 hos1
  go_wp2_with fail
  refine (toIntS l1 _ _ (by omega) (hS1.out.mono hB.out)).mono ?_
  rintro e wx1 ⟨zx1, rfl, hox1, hbx1⟩
  obtain ⟨azx1, czx1, rfl, _⟩ := hox1.sl
  rw [List.length_map] at hox1 ⊢
  have hox1 := hd hox1
  have hB' := hd (hB.out.next hbx1)
  clear hB
  have hB := hB'
  clear hB'
  clear hbx1
  go_wp2_with fail
  refine (PutView_i s0 l1 s2 _ _ (by omega) (by omega) (by omega) hox1.out.sl b hb.out r hr.out).mono ?_
  rintro e w6 ⟨rfl, hb6⟩
  have hox1' := hd (hox1.out.below hb6)
  clear hox1
  have hox1 := hox1'
  clear hox1'
  have hB' := hd (hB.out.next hb6)
  clear hB
  have hB := hB'
  clear hB'
  clear hb6
  go_wp2_with fail
  refine (toIntS l1 _ _ (by omega) (hS1.out.mono hB.out)).mono ?_
  rintro e w8 ⟨v8, rfl, ho8, hb8⟩
  have hox1' := hd (hox1.out.below hb8)
  clear hox1
  have hox1 := hox1'
  clear hox1'
  have hB' := hd (hB.out.next hb8)
  clear hB
  have hB := hB'
  clear hB'
  replace ho8 := hd ho8
  clear hb8
  go_wp2_with fail
  refine (eqIntS l1 _ _ _ (by omega) hox1.out.sl ho8.out.sl).mono ?_
  rintro e w9 ⟨rfl, hb9⟩
  have hox1' := hd (hox1.out.below hb9)
  clear hox1
  have hox1 := hox1'
  clear hox1'
  have hB' := hd (hB.out.next hb9)
  clear hB
  have hB := hB'
  clear hB'
  clear hb9 ho8
  go_wp2_with fail
  go_ret
  exact ⟨rfl, hB.out⟩
end Go.Proofs.Ytbjilpemckoioaa
