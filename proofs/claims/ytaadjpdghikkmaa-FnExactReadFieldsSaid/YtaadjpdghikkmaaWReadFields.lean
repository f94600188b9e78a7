/- The walk of the law FnExactReadFields: it returns true and writes nothing that was there. -/
import Derived.Test.YtaadjpdghikkmaaRead4
import Derived.Test.YtaadjpdghikkmaaMField
import Derived.Test.YtaadjpdghikkmaaLawKit
import Derived.Deep.RegionHeld3
import Derived.Deep.Cut
import Derived.Deep.CutBlock
namespace Go.Proofs.Ytaadjpdghikkmaa
open Go.RowKit
set_option linter.unusedVariables false
set_option maxRecDepth 100000
set_option maxHeartbeats 8000000 in
theorem law_ReadFields (s0 : ByteArray) (w : World) (hlm0 : s0.size ≤ maxLen) :
    Calls Try.prog 14 #[.string s0] w (LawTrue w) := by
  unfold maxLen at *
  by_cases hc0 : (1048576 : Int) < (s0.size : Int)
  · go_enter Try.func14, Try.ntmps14
    go_wp2_with fail
    go_ret
    exact ⟨rfl, Below.refl _ _⟩
  have hl0 : s0.size ≤ 1048576 := by omega
  obtain ⟨b, hb⟩ : ∃ b, readB s0.data.toList = b := ⟨_, rfl⟩
  obtain ⟨r, hr⟩ : ∃ r, readFs s0.data.toList = r := ⟨_, rfl⟩
  replace hb := hd hb
  replace hr := hd hr
  have hrl : r.length ≤ 1000000 := by rw [← hr.out]; exact Nat.le_trans (readFs_len _) (by omega)
  go_enter Try.func14, Try.ntmps14
  go_wp2_with fail
  have hB := hd (Below.refl w.heap.size w)
  have hz00 := Nat.le_refl w.heap.size
  refine (ReadFields_s s0 _ (by omega) b hb.out r hr.out).mono ?_
  rintro e wW ⟨zW, rbW, rfl, hoW, hbW⟩
  obtain ⟨aW, cW, rfl, _⟩ := hoW.sl
  rw [List.length_map] at hoW ⊢
  have nW := hd hoW.lt
  have hoW := hd hoW
  have hz1 := hbW.size
  have hB' := hd (hB.out.next hbW)
  clear hB
  have hB := hB'
  clear hB'
  clear hbW
  go_wp2_with fail
  refine (ReadFields_i s0 _ (by omega) b hb.out r hr.out).mono ?_
  rintro e wG ⟨zG, rbG, rfl, hoG, hbG⟩
  obtain ⟨aG, cG, rfl, _⟩ := hoG.sl
  rw [List.length_map] at hoG ⊢
  have nG := hd hoG.lt
  have hoG := hd hoG
  have hoW' := hd (hoW.out.below hbG)
  clear hoW
  have hoW := hoW'
  clear hoW'
  have hz2 := hbG.size
  have hB' := hd (hB.out.next hbG)
  clear hB
  have hB := hB'
  clear hB'
  clear hbG
  go_wp2_with fail
  refine (eqFieldS r _ _ _ (by omega) hoG.out.sl hoW.out.sl).mono ?_
  rintro e we ⟨rfl, hbe⟩
  have hoW' := hd (hoW.out.below hbe)
  clear hoW
  have hoW := hoW'
  clear hoW'
  have hoG' := hd (hoG.out.below hbe)
  clear hoG
  have hoG := hoG'
  clear hoG'
  have hz3 := hbe.size
  have hB' := hd (hB.out.next hbe)
  clear hB
  have hB := hB'
  clear hB'
  clear hbe
  go_wp2_with fail
  refine (markFieldR _ _ r.length (by rw [List.length_map]) _ _ 1 _ (by omega) (by omega) (by omega) hoG.out).mono ?_
  rintro e wmG ⟨rfl, hoH, hgG⟩
  have hoW' := hd (hoW.out.kept hgG (apart nW.out nG.out (by omega)))
  clear hoW
  have hoW := hoW'
  clear hoW'
  have hz4 := hgG.size
  have hB' := hd (hB.out.grown hgG (by have := hB.out.size; omega) (by intro g e; have := nG.out g e; omega))
  clear hB
  have hB := hB'
  clear hB'
  clear hoG hgG
  have hoH := hd hoH
  have nH := hd hoH.out.lt
  have hm0 : ¬ 1 + 4 * (r.length : Int) < 0 := by omega
  go_wp2_with fail
  refine (heldField _ r.length 1 _ (by omega) (by omega) (by omega) hoH.out.sl).mono ?_
  rintro e wh ⟨rfl, hbh⟩
  have hoW' := hd (hoW.out.below hbh)
  clear hoW
  have hoW := hoW'
  clear hoW'
  have hoH' := hd (hoH.out.below hbh)
  clear hoH
  have hoH := hoH'
  clear hoH'
  have hz5 := hbh.size
  have hB' := hd (hB.out.next hbh)
  clear hB
  have hB := hB'
  clear hB'
  clear hbh
  go_wp2_with fail
  refine (ReadFields_i s0 _ (by omega) b hb.out r hr.out).mono ?_
  rintro e wJ ⟨zJ, rbJ, rfl, hoJ, hbJ⟩
  obtain ⟨aJ, cJ, rfl, _⟩ := hoJ.sl
  rw [List.length_map] at hoJ ⊢
  have nJ := hd hoJ.lt
  have hoJ := hd hoJ
  have hoW' := hd (hoW.out.below hbJ)
  clear hoW
  have hoW := hoW'
  clear hoW'
  have hoH' := hd (hoH.out.below hbJ)
  clear hoH
  have hoH := hoH'
  clear hoH'
  have hz6 := hbJ.size
  have hB' := hd (hB.out.next hbJ)
  clear hB
  have hB := hB'
  clear hB'
  clear hbJ
  go_wp2_with fail
  refine (eqFieldS r _ _ _ (by omega) hoJ.out.sl hoW.out.sl).mono ?_
  rintro e we ⟨rfl, hbe⟩
  have hoW' := hd (hoW.out.below hbe)
  clear hoW
  have hoW := hoW'
  clear hoW'
  have hoH' := hd (hoH.out.below hbe)
  clear hoH
  have hoH := hoH'
  clear hoH'
  have hoJ' := hd (hoJ.out.below hbe)
  clear hoJ
  have hoJ := hoJ'
  clear hoJ'
  have hz7 := hbe.size
  have hB' := hd (hB.out.next hbe)
  clear hB
  have hB := hB'
  clear hB'
  clear hbe
  go_wp2_with fail
  refine (heldField _ r.length 1 _ (by omega) (by omega) (by omega) hoH.out.sl).mono ?_
  rintro e wh ⟨rfl, hbh⟩
  have hoW' := hd (hoW.out.below hbh)
  clear hoW
  have hoW := hoW'
  clear hoW'
  have hoH' := hd (hoH.out.below hbh)
  clear hoH
  have hoH := hoH'
  clear hoH'
  have hoJ' := hd (hoJ.out.below hbh)
  clear hoJ
  have hoJ := hoJ'
  clear hoJ'
  have hz8 := hbh.size
  have hB' := hd (hB.out.next hbh)
  clear hB
  have hB := hB'
  clear hB'
  clear hbh
  go_wp2_with fail
  go_ret
  exact ⟨rfl, hB.out⟩
end Go.Proofs.Ytaadjpdghikkmaa
