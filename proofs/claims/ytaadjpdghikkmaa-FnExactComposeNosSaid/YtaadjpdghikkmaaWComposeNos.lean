/- The walk of the law FnExactComposeNos: it returns true and writes nothing that was there. -/
import Derived.Test.YtaadjpdghikkmaaComp2
import Derived.Test.YtaadjpdghikkmaaMarkInt
import Derived.Test.YtaadjpdghikkmaaLawKit
import Derived.Deep.RegionHeld3
import Derived.Deep.Cut
import Derived.Deep.CutBlock
namespace Go.Proofs.Ytaadjpdghikkmaa
open Go.RowKit
set_option linter.unusedVariables false
set_option maxRecDepth 100000
set_option maxHeartbeats 8000000 in
theorem law_ComposeNos (l0 : List Int) (v0 : Value) (l1 : List Int) (v1 : Value) (w : World) (hlm0 : l0.length ≤ maxLen) (h0 : Sl w v0 1 (l0.map encI)) (hlm1 : l1.length ≤ maxLen) (h1 : Sl w v1 1 (l1.map encI)) :
    Calls Try.prog 6 #[v0, v1] w (LawTrue w) := by
  unfold maxLen at *
  have hS0 := hd h0
  obtain ⟨a0, c0, rfl, _⟩ := h0
  have hS1 := hd h1
  obtain ⟨a1, c1, rfl, _⟩ := h1
  simp only [List.length_map] at *
  by_cases hc0 : (1048576 : Int) < (l0.length : Int)
  · go_enter Try.func6, Try.ntmps6
    go_wp2_with fail
    go_ret
    exact ⟨rfl, Below.refl _ _⟩
  have hl0 : l0.length ≤ 1048576 := by omega
  by_cases hc1 : (1048576 : Int) < (l1.length : Int)
  · go_enter Try.func6, Try.ntmps6
    go_wp2_with fail
    go_ret
    exact ⟨rfl, Below.refl _ _⟩
  have hl1 : l1.length ≤ 1048576 := by omega
  obtain ⟨b, hb⟩ : ∃ b, compB l0 l1 = b := ⟨_, rfl⟩
  obtain ⟨r, hr⟩ : ∃ r, compR l0 l1 = r := ⟨_, rfl⟩
  replace hb := hd hb
  replace hr := hd hr
  have hrl : r.length ≤ 1048576 := by rw [← hr.out]; exact Nat.le_trans (compR_len l0 l1) (by omega)
  go_enter Try.func6, Try.ntmps6
  go_wp2_with fail
  have hB := hd (Below.refl w.heap.size w)
  have hz00 := Nat.le_refl w.heap.size
  refine (toIntS l0 _ _ (by omega) (hS0.out.mono hB.out)).mono ?_
  rintro e ws0 ⟨zs0, rfl, hos0, hbs0⟩
  obtain ⟨as0, cs0, rfl, _⟩ := hos0.sl
  rw [List.length_map] at hos0 ⊢
  have ns0 := hd hos0.lt
  have hos0 := hd hos0
  have hz1 := hbs0.size
  have hB' := hd (hB.out.next hbs0)
  clear hB
  have hB := hB'
  clear hB'
  clear hbs0
  go_wp2_with fail
  refine (toIntS l1 _ _ (by omega) (hS1.out.mono hB.out)).mono ?_
  rintro e ws1 ⟨zs1, rfl, hos1, hbs1⟩
  obtain ⟨as1, cs1, rfl, _⟩ := hos1.sl
  rw [List.length_map] at hos1 ⊢
  have ns1 := hd hos1.lt
  have hos1 := hd hos1
  have hos0' := hd (hos0.out.below hbs1)
  clear hos0
  have hos0 := hos0'
  clear hos0'
  have hz2 := hbs1.size
  have hB' := hd (hB.out.next hbs1)
  clear hB
  have hB := hB'
  clear hB'
  clear hbs1
  go_wp2_with fail
  refine (ComposeNos_s l0 l1 _ _ _ (by omega) (by omega) hos0.out.sl hos1.out.sl b hb.out r hr.out).mono ?_
  rintro e wW ⟨zW, rbW, rfl, hoW, hbW⟩
  obtain ⟨aW, cW, rfl, _⟩ := hoW.sl
  rw [List.length_map] at hoW ⊢
  have nW := hd hoW.lt
  have hoW := hd hoW
  clear hos0
  clear hos1
  have hz3 := hbW.size
  have hB' := hd (hB.out.next hbW)
  clear hB
  have hB := hB'
  clear hB'
  clear hbW
  go_wp2_with fail
  refine (toIntS l0 _ _ (by omega) (hS0.out.mono hB.out)).mono ?_
  rintro e wx0 ⟨zx0, rfl, hox0, hbx0⟩
  obtain ⟨ax0, cx0, rfl, _⟩ := hox0.sl
  rw [List.length_map] at hox0 ⊢
  have nx0 := hd hox0.lt
  have hox0 := hd hox0
  have hoW' := hd (hoW.out.below hbx0)
  clear hoW
  have hoW := hoW'
  clear hoW'
  have hz4 := hbx0.size
  have hB' := hd (hB.out.next hbx0)
  clear hB
  have hB := hB'
  clear hB'
  clear hbx0
  go_wp2_with fail
  refine (toIntS l1 _ _ (by omega) (hS1.out.mono hB.out)).mono ?_
  rintro e wx1 ⟨zx1, rfl, hox1, hbx1⟩
  obtain ⟨ax1, cx1, rfl, _⟩ := hox1.sl
  rw [List.length_map] at hox1 ⊢
  have nx1 := hd hox1.lt
  have hox1 := hd hox1
  have hoW' := hd (hoW.out.below hbx1)
  clear hoW
  have hoW := hoW'
  clear hoW'
  have hox0' := hd (hox0.out.below hbx1)
  clear hox0
  have hox0 := hox0'
  clear hox0'
  have hz5 := hbx1.size
  have hB' := hd (hB.out.next hbx1)
  clear hB
  have hB := hB'
  clear hB'
  clear hbx1
  go_wp2_with fail
  refine (ComposeNos_i l0 l1 _ _ _ (by omega) (by omega) hox0.out.sl hox1.out.sl b hb.out r hr.out).mono ?_
  rintro e wG ⟨zG, rbG, rfl, hoG, hbG⟩
  obtain ⟨aG, cG, rfl, _⟩ := hoG.sl
  rw [List.length_map] at hoG ⊢
  have nG := hd hoG.lt
  have hoG := hd hoG
  have hoW' := hd (hoW.out.below hbG)
  clear hoW
  have hoW := hoW'
  clear hoW'
  have hox0' := hd (hox0.out.below hbG)
  clear hox0
  have hox0 := hox0'
  clear hox0'
  have hox1' := hd (hox1.out.below hbG)
  clear hox1
  have hox1 := hox1'
  clear hox1'
  have hz6 := hbG.size
  have hB' := hd (hB.out.next hbG)
  clear hB
  have hB := hB'
  clear hB'
  clear hbG
  go_wp2_with fail
  refine (eqIntS r _ _ _ (by omega) hoG.out.sl hoW.out.sl).mono ?_
  rintro e we ⟨rfl, hbe⟩
  have hoW' := hd (hoW.out.below hbe)
  clear hoW
  have hoW := hoW'
  clear hoW'
  have hox0' := hd (hox0.out.below hbe)
  clear hox0
  have hox0 := hox0'
  clear hox0'
  have hox1' := hd (hox1.out.below hbe)
  clear hox1
  have hox1 := hox1'
  clear hox1'
  have hoG' := hd (hoG.out.below hbe)
  clear hoG
  have hoG := hoG'
  clear hoG'
  have hz7 := hbe.size
  have hB' := hd (hB.out.next hbe)
  clear hB
  have hB := hB'
  clear hB'
  clear hbe
  go_wp2_with fail
  refine (toIntS l0 _ _ (by omega) (hS0.out.mono hB.out)).mono ?_
  rintro e w8 ⟨v8, rfl, ho8, hb8⟩
  have hoW' := hd (hoW.out.below hb8)
  clear hoW
  have hoW := hoW'
  clear hoW'
  have hox0' := hd (hox0.out.below hb8)
  clear hox0
  have hox0 := hox0'
  clear hox0'
  have hox1' := hd (hox1.out.below hb8)
  clear hox1
  have hox1 := hox1'
  clear hox1'
  have hoG' := hd (hoG.out.below hb8)
  clear hoG
  have hoG := hoG'
  clear hoG'
  have hz8 := hb8.size
  have hB' := hd (hB.out.next hb8)
  clear hB
  have hB := hB'
  clear hB'
  replace ho8 := hd ho8
  clear hb8
  go_wp2_with fail
  refine (eqIntS l0 _ _ _ (by omega) hox0.out.sl ho8.out.sl).mono ?_
  rintro e w9 ⟨rfl, hb9⟩
  have hoW' := hd (hoW.out.below hb9)
  clear hoW
  have hoW := hoW'
  clear hoW'
  have hox0' := hd (hox0.out.below hb9)
  clear hox0
  have hox0 := hox0'
  clear hox0'
  have hox1' := hd (hox1.out.below hb9)
  clear hox1
  have hox1 := hox1'
  clear hox1'
  have hoG' := hd (hoG.out.below hb9)
  clear hoG
  have hoG := hoG'
  clear hoG'
  have hz9 := hb9.size
  have hB' := hd (hB.out.next hb9)
  clear hB
  have hB := hB'
  clear hB'
  clear hb9 ho8
  go_wp2_with fail
  refine (toIntS l1 _ _ (by omega) (hS1.out.mono hB.out)).mono ?_
  rintro e w8 ⟨v8, rfl, ho8, hb8⟩
  have hoW' := hd (hoW.out.below hb8)
  clear hoW
  have hoW := hoW'
  clear hoW'
  have hox0' := hd (hox0.out.below hb8)
  clear hox0
  have hox0 := hox0'
  clear hox0'
  have hox1' := hd (hox1.out.below hb8)
  clear hox1
  have hox1 := hox1'
  clear hox1'
  have hoG' := hd (hoG.out.below hb8)
  clear hoG
  have hoG := hoG'
  clear hoG'
  have hz10 := hb8.size
  have hB' := hd (hB.out.next hb8)
  clear hB
  have hB := hB'
  clear hB'
  replace ho8 := hd ho8
  clear hb8
  go_wp2_with fail
  refine (eqIntS l1 _ _ _ (by omega) hox1.out.sl ho8.out.sl).mono ?_
  rintro e w9 ⟨rfl, hb9⟩
  have hoW' := hd (hoW.out.below hb9)
  clear hoW
  have hoW := hoW'
  clear hoW'
  have hox0' := hd (hox0.out.below hb9)
  clear hox0
  have hox0 := hox0'
  clear hox0'
  have hox1' := hd (hox1.out.below hb9)
  clear hox1
  have hox1 := hox1'
  clear hox1'
  have hoG' := hd (hoG.out.below hb9)
  clear hoG
  have hoG := hoG'
  clear hoG'
  have hz11 := hb9.size
  have hB' := hd (hB.out.next hb9)
  clear hB
  have hB := hB'
  clear hB'
  clear hb9 ho8
  go_wp2_with fail
  refine (markI _ _ l0.length (by rw [List.length_map]) _ 1 _ (by omega) (by omega) (by omega) hox0.out).mono ?_
  rintro e wm0 ⟨rfl, hom0, hgm0⟩
  have hoW' := hd (hoW.out.kept hgm0 (apart nW.out nx0.out (by omega)))
  clear hoW
  have hoW := hoW'
  clear hoW'
  have hox1' := hd (hox1.out.kept hgm0 (apart nx1.out nx0.out (by omega)))
  clear hox1
  have hox1 := hox1'
  clear hox1'
  have hoG' := hd (hoG.out.kept hgm0 (apart nG.out nx0.out (by omega)))
  clear hoG
  have hoG := hoG'
  clear hoG'
  have hz12 := hgm0.size
  have hB' := hd (hB.out.grown hgm0 (by have := hB.out.size; omega) (by intro g e; have := nx0.out g e; omega))
  clear hB
  have hB := hB'
  clear hB'
  clear hgm0 hom0 hox0
  have hk00 : 1 ≤ 1 + (l0.length : Int) := by omega
  have hk10 : 1 + (l0.length : Int) ≤ 100000000 := by omega
  generalize 1 + (l0.length : Int) = K0 at hk00 hk10 ⊢
  go_wp2_with fail
  refine (markI _ _ l1.length (by rw [List.length_map]) _ K0 _ (by omega) (by omega) (by omega) hox1.out).mono ?_
  rintro e wm1 ⟨rfl, hom1, hgm1⟩
  have hoW' := hd (hoW.out.kept hgm1 (apart nW.out nx1.out (by omega)))
  clear hoW
  have hoW := hoW'
  clear hoW'
  have hoG' := hd (hoG.out.kept hgm1 (apart nG.out nx1.out (by omega)))
  clear hoG
  have hoG := hoG'
  clear hoG'
  have hz13 := hgm1.size
  have hB' := hd (hB.out.grown hgm1 (by have := hB.out.size; omega) (by intro g e; have := nx1.out g e; omega))
  clear hB
  have hB := hB'
  clear hB'
  clear hgm1 hom1 hox1
  have hk01 : 1 ≤ K0 + (l1.length : Int) := by omega
  have hk11 : K0 + (l1.length : Int) ≤ 200000000 := by omega
  generalize K0 + (l1.length : Int) = K1 at hk01 hk11 ⊢
  go_wp2_with fail
  refine (eqIntS r _ _ _ (by omega) hoG.out.sl hoW.out.sl).mono ?_
  rintro e we ⟨rfl, hbe⟩
  have hoW' := hd (hoW.out.below hbe)
  clear hoW
  have hoW := hoW'
  clear hoW'
  have hoG' := hd (hoG.out.below hbe)
  clear hoG
  have hoG := hoG'
  clear hoG'
  have hz14 := hbe.size
  have hB' := hd (hB.out.next hbe)
  clear hB
  have hB := hB'
  clear hB'
  clear hbe
  go_wp2_with fail
  refine (markIR _ _ r.length (by rw [List.length_map]) _ _ 1 _ (by omega) (by omega) (by omega) hoG.out).mono ?_
  rintro e wmG ⟨rfl, hoH, hgG⟩
  have hoW' := hd (hoW.out.kept hgG (apart nW.out nG.out (by omega)))
  clear hoW
  have hoW := hoW'
  clear hoW'
  have hz15 := hgG.size
  have hB' := hd (hB.out.grown hgG (by have := hB.out.size; omega) (by intro g e; have := nG.out g e; omega))
  clear hB
  have hB := hB'
  clear hB'
  clear hoG hgG
  have hoH := hd hoH
  have nH := hd hoH.out.lt
  have hm0 : ¬ 1 + (r.length : Int) < 0 := by omega
  go_wp2_with fail
  refine (heldI _ r.length 1 _ (by omega) (by omega) (by omega) hoH.out.sl).mono ?_
  rintro e wh ⟨rfl, hbh⟩
  have hoW' := hd (hoW.out.below hbh)
  clear hoW
  have hoW := hoW'
  clear hoW'
  have hoH' := hd (hoH.out.below hbh)
  clear hoH
  have hoH := hoH'
  clear hoH'
  have hz16 := hbh.size
  have hB' := hd (hB.out.next hbh)
  clear hB
  have hB := hB'
  clear hB'
  clear hbh
  go_wp2_with fail
  refine (toIntS l0 _ _ (by omega) (hS0.out.mono hB.out)).mono ?_
  rintro e wt0 ⟨zt0, rfl, hot0, hbt0⟩
  obtain ⟨at0, ct0, rfl, _⟩ := hot0.sl
  rw [List.length_map] at hot0 ⊢
  have nt0 := hd hot0.lt
  have hot0 := hd hot0
  have hoW' := hd (hoW.out.below hbt0)
  clear hoW
  have hoW := hoW'
  clear hoW'
  have hoH' := hd (hoH.out.below hbt0)
  clear hoH
  have hoH := hoH'
  clear hoH'
  have hz17 := hbt0.size
  have hB' := hd (hB.out.next hbt0)
  clear hB
  have hB := hB'
  clear hB'
  clear hbt0
  go_wp2_with fail
  refine (toIntS l1 _ _ (by omega) (hS1.out.mono hB.out)).mono ?_
  rintro e wt1 ⟨zt1, rfl, hot1, hbt1⟩
  obtain ⟨at1, ct1, rfl, _⟩ := hot1.sl
  rw [List.length_map] at hot1 ⊢
  have nt1 := hd hot1.lt
  have hot1 := hd hot1
  have hoW' := hd (hoW.out.below hbt1)
  clear hoW
  have hoW := hoW'
  clear hoW'
  have hoH' := hd (hoH.out.below hbt1)
  clear hoH
  have hoH := hoH'
  clear hoH'
  have hot0' := hd (hot0.out.below hbt1)
  clear hot0
  have hot0 := hot0'
  clear hot0'
  have hz18 := hbt1.size
  have hB' := hd (hB.out.next hbt1)
  clear hB
  have hB := hB'
  clear hB'
  clear hbt1
  go_wp2_with fail
  refine (ComposeNos_i l0 l1 _ _ _ (by omega) (by omega) hot0.out.sl hot1.out.sl b hb.out r hr.out).mono ?_
  rintro e wJ ⟨zJ, rbJ, rfl, hoJ, hbJ⟩
  obtain ⟨aJ, cJ, rfl, _⟩ := hoJ.sl
  rw [List.length_map] at hoJ ⊢
  have nJ := hd hoJ.lt
  have hoJ := hd hoJ
  clear hot0
  clear hot1
  have hoW' := hd (hoW.out.below hbJ)
  clear hoW
  have hoW := hoW'
  clear hoW'
  have hoH' := hd (hoH.out.below hbJ)
  clear hoH
  have hoH := hoH'
  clear hoH'
  have hz19 := hbJ.size
  have hB' := hd (hB.out.next hbJ)
  clear hB
  have hB := hB'
  clear hB'
  clear hbJ
  go_wp2_with fail
  refine (eqIntS r _ _ _ (by omega) hoJ.out.sl hoW.out.sl).mono ?_
  rintro e we ⟨rfl, hbe⟩
  have hoW' := hd (hoW.out.below hbe)
  clear hoW
  have hoW := hoW'
  clear hoW'
  have hoH' := hd (hoH.out.below hbe)
  clear hoH
  have hoH := hoH'
  clear hoH'
  have hoJ' := hd (hoJ.out.below hbe)
  clear hoJ
  have hoJ := hoJ'
  clear hoJ'
  have hz20 := hbe.size
  have hB' := hd (hB.out.next hbe)
  clear hB
  have hB := hB'
  clear hB'
  clear hbe
  go_wp2_with fail
  refine (heldI _ r.length 1 _ (by omega) (by omega) (by omega) hoH.out.sl).mono ?_
  rintro e wh ⟨rfl, hbh⟩
  have hoW' := hd (hoW.out.below hbh)
  clear hoW
  have hoW := hoW'
  clear hoW'
  have hoH' := hd (hoH.out.below hbh)
  clear hoH
  have hoH := hoH'
  clear hoH'
  have hoJ' := hd (hoJ.out.below hbh)
  clear hoJ
  have hoJ := hoJ'
  clear hoJ'
  have hz21 := hbh.size
  have hB' := hd (hB.out.next hbh)
  clear hB
  have hB := hB'
  clear hB'
  clear hbh
  go_wp2_with fail
  go_ret
  exact ⟨rfl, hB.out⟩
end Go.Proofs.Ytaadjpdghikkmaa
