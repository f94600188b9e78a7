/- The walk of the law FnExactSortFields: it returns true and writes nothing that was there. -/
import Derived.Test.YtbjilpemckoioaaSortF
import Derived.Test.YtbjilpemckoioaaHField
import Derived.Test.YtbjilpemckoioaaMField
import Derived.Test.YtbjilpemckoioaaBases
import Derived.Deep.RegionHeld3
import Derived.Deep.Cut
import Derived.Deep.CutBlock
namespace Go.Proofs.Ytbjilpemckoioaa
open Go.RowKit
set_option linter.unusedVariables false
set_option maxRecDepth 100000
theorem box_new (w : World) (v : Value) (E : TypeId) : Box1 (w.alloc (.cells #[v] E)) w.heap.size v := ⟨by go_simp, by go_simp⟩
theorem alloc_swap {w : World} {o p : Obj} {a : Nat} {u : Value} (h : (w.alloc o).cell? ⟨a, 0, none⟩ = some u) (ha : a < w.heap.size) : (w.alloc p).cell? ⟨a, 0, none⟩ = some u := by
  rw [(below_a1 w).cell ha] at h ⊢; exact h
theorem keepSet {w : World} {a b o : Nat} {u v : Value} (h : w.cell? ⟨a, 0, none⟩ = some u) (hne : a ≠ b) : (w.setCell ⟨b, o, none⟩ v).cell? ⟨a, 0, none⟩ = some u :=
  (grownBy_setCell w ⟨b, o, none⟩ v).cell h (by simpa using hne)
theorem ownR_weaken {w : World} {B B2 E sz : Nat} {v : Value} {rows : List (List Value)} {rb : Option Nat} (h : OwnR w B E sz v rows rb) (hB : B2 ≤ B) : OwnR w B2 E sz v rows rb := by
  rcases h with ⟨h1, h⟩ | h
  · exact .inl ⟨h1, h.weaken hB⟩
  · exact .inr h
set_option maxHeartbeats 8000000 in
theorem law_SortFields (l0 : List DField) (v0 : Value) (w : World) (hlm0 : l0.length ≤ maxLen) (h0 : Sl w v0 4 (l0.map DField.enc)) (hok0 : ∀ x ∈ l0, DField.ok x) :
    Calls Try.prog 9 #[v0] w (LawTrue w) := by
  unfold maxLen at *
  have hS0 := hd h0
  obtain ⟨a0, c0, rfl, _⟩ := h0
  have hok0 := hd hok0
  simp only [List.length_map] at *
  go_enter Try.func9, Try.ntmps9
  go_wp2_with fail
  refine (szFieldS l0 _ _ _ (by omega) (by omega) hlm0 hok0.out (hS0.out.mono (Below.refl _ _))).mono ?_
  rintro e w1 ⟨r0, rfl, hr00, hr10, hr20, hb1⟩
  have hB := hd ((Below.refl _ _).next hb1)
  have hz0 := hb1.size
  have hz00 := hz0
  clear hz0 hb1
  by_cases hn0 : r0 < 0
  · go_wp2_with fail
    go_ret
    exact ⟨rfl, hB.out⟩
  have hl0 : l0.length ≤ 1048576 := by have := hr20 (by omega); omega
  have hn0' : 0 ≤ r0 := by omega
  have hsm0 := hd (hr20 hn0').2
  clear hr20 hn0 hlm0
  go_wp2_with fail
  obtain ⟨b, hb⟩ : ∃ b, fieldsB l0 = b := ⟨_, rfl⟩
  obtain ⟨r, hr⟩ : ∃ r, (if b = true then sortS fnoF l0 else []) = r := ⟨_, rfl⟩
  have hrl : r.length ≤ 1048576 := by rw [← hr]; split; (rw [(sortS_ok l0).2.2]; omega); simp
  replace hb := hd hb
  replace hr := hd hr
  refine (toFieldS l0 _ _ (by omega) (hS0.out.mono hB.out)).mono ?_
  rintro e ws0 ⟨zs0, rfl, hos0, hbs0⟩
  obtain ⟨as0, cs0, rfl, _⟩ := hos0.sl
  rw [List.length_map] at hos0 ⊢
  have ns0 := hd hos0.lt
  have hos0 := hd hos0
  have hz1 := hbs0.size
  have hB' := hd (hB.out.next hbs0)
  clear hB
  have hB := hB'
  clear hB'
  clear hbs0
  go_wp2_with fail
  refine (SortFields_s l0 _ _ (by omega) hos0.out.sl b hb.out r hr.out).mono ?_
  rintro e wW ⟨zW, rbW, rfl, hoW, hbW⟩
  obtain ⟨aW, cW, rfl, _⟩ := hoW.sl
  rw [List.length_map] at hoW ⊢
  have nW := hd hoW.lt
  have hoW := hd hoW
  clear hos0
  have hz2 := hbW.size
  have hB' := hd (hB.out.next hbW)
  clear hB
  have hB := hB'
  clear hB'
  clear hbW
  go_wp2_with fail
  refine (toFieldS l0 _ _ (by omega) (hS0.out.mono hB.out)).mono ?_
  rintro e wx0 ⟨zx0, rfl, hox0, hbx0⟩
  obtain ⟨ax0, cx0, rfl, _⟩ := hox0.sl
  rw [List.length_map] at hox0 ⊢
  have nx0 := hd hox0.lt
  have hox0 := hd hox0
  have hoW' := hd (hoW.out.below hbx0)
  clear hoW
  have hoW := hoW'
  clear hoW'
  have hz3 := hbx0.size
  have hB' := hd (hB.out.next hbx0)
  clear hB
  have hB := hB'
  clear hB'
  clear hbx0
  go_wp2_with fail
  refine (SortFields_i l0 _ _ (by omega) hox0.out.sl b hb.out r hr.out).mono ?_
  rintro e wG ⟨zG, rbG, rfl, hoG, hbG⟩
  obtain ⟨aG, cG, rfl, _⟩ := hoG.sl
  rw [List.length_map] at hoG ⊢
  have nG := hd hoG.lt
  have hoG := hd hoG
  have hoW' := hd (hoW.out.below hbG)
  clear hoW
  have hoW := hoW'
  clear hoW'
  have hox0' := hd (hox0.out.below hbG)
  clear hox0
  have hox0 := hox0'
  clear hox0'
  have hz4 := hbG.size
  have hB' := hd (hB.out.next hbG)
  clear hB
  have hB := hB'
  clear hB'
  clear hbG
  go_wp2_with fail
  refine (eqFieldS r _ _ _ (by omega) hoG.out.sl hoW.out.sl).mono ?_
  rintro e we ⟨rfl, hbe⟩
  have hoW' := hd (hoW.out.below hbe)
  clear hoW
  have hoW := hoW'
  clear hoW'
  have hox0' := hd (hox0.out.below hbe)
  clear hox0
  have hox0 := hox0'
  clear hox0'
  have hoG' := hd (hoG.out.below hbe)
  clear hoG
  have hoG := hoG'
  clear hoG'
  have hz5 := hbe.size
  have hB' := hd (hB.out.next hbe)
  clear hB
  have hB := hB'
  clear hB'
  clear hbe
  go_wp2_with fail
  refine (toFieldS l0 _ _ (by omega) (hS0.out.mono hB.out)).mono ?_
  rintro e w8 ⟨v8, rfl, ho8, hb8⟩
  have hoW' := hd (hoW.out.below hb8)
  clear hoW
  have hoW := hoW'
  clear hoW'
  have hox0' := hd (hox0.out.below hb8)
  clear hox0
  have hox0 := hox0'
  clear hox0'
  have hoG' := hd (hoG.out.below hb8)
  clear hoG
  have hoG := hoG'
  clear hoG'
  have hz6 := hb8.size
  have hB' := hd (hB.out.next hb8)
  clear hB
  have hB := hB'
  clear hB'
  replace ho8 := hd ho8
  clear hb8
  go_wp2_with fail
  refine (eqFieldS l0 _ _ _ (by omega) hox0.out.sl ho8.out.sl).mono ?_
  rintro e w9 ⟨rfl, hb9⟩
  have hoW' := hd (hoW.out.below hb9)
  clear hoW
  have hoW := hoW'
  clear hoW'
  have hox0' := hd (hox0.out.below hb9)
  clear hox0
  have hox0 := hox0'
  clear hox0'
  have hoG' := hd (hoG.out.below hb9)
  clear hoG
  have hoG := hoG'
  clear hoG'
  have hz7 := hb9.size
  have hB' := hd (hB.out.next hb9)
  clear hB
  have hB := hB'
  clear hB'
  clear hb9 ho8
  go_wp2_with fail
  refine (markField _ _ l0.length (by rw [List.length_map]) _ 1 _ (by omega) (by omega) (by omega) hox0.out).mono ?_
  rintro e wm0 ⟨rfl, hom0, hgm0⟩
  have hoW' := hd (hoW.out.kept hgm0 (apart nW.out nx0.out (by omega)))
  clear hoW
  have hoW := hoW'
  clear hoW'
  have hoG' := hd (hoG.out.kept hgm0 (apart nG.out nx0.out (by omega)))
  clear hoG
  have hoG := hoG'
  clear hoG'
  have hz8 := hgm0.size
  have hB' := hd (hB.out.grown hgm0 (by have := hB.out.size; omega) (by intro g e; have := nx0.out g e; omega))
  clear hB
  have hB := hB'
  clear hB'
  clear hgm0 hom0 hox0
  have hk00 : 1 ≤ 1 + 4 * (l0.length : Int) := by omega
  have hk10 : 1 + 4 * (l0.length : Int) ≤ 100000000 := by omega
  generalize 1 + 4 * (l0.length : Int) = K0 at hk00 hk10 ⊢
  go_wp2_with fail
  refine (eqFieldS r _ _ _ (by omega) hoG.out.sl hoW.out.sl).mono ?_
  rintro e we ⟨rfl, hbe⟩
  have hoW' := hd (hoW.out.below hbe)
  clear hoW
  have hoW := hoW'
  clear hoW'
  have hoG' := hd (hoG.out.below hbe)
  clear hoG
  have hoG := hoG'
  clear hoG'
  have hz9 := hbe.size
  have hB' := hd (hB.out.next hbe)
  clear hB
  have hB := hB'
  clear hB'
  clear hbe
  go_wp2_with fail
  refine (markFieldR _ _ r.length (by rw [List.length_map]) _ _ 1 _ (by omega) (by omega) (by omega) hoG.out).mono ?_
  rintro e wmG ⟨rfl, hoH, hgG⟩
  have hoW' := hd (hoW.out.kept hgG (apart nW.out nG.out (by omega)))
  clear hoW
  have hoW := hoW'
  clear hoW'
  have hz10 := hgG.size
  have hB' := hd (hB.out.grown hgG (by have := hB.out.size; omega) (by intro g e; have := nG.out g e; omega))
  clear hB
  have hB := hB'
  clear hB'
  clear hoG hgG
  have hoH := hd hoH
  have nH := hd hoH.out.lt
  have hm0 : ¬ 1 + 4 * (r.length : Int) < 0 := by omega
  go_wp2_with fail
  refine (heldField _ r.length 1 _ (by omega) (by omega) (by omega) hoH.out.sl).mono ?_
  rintro e wh ⟨rfl, hbh⟩
  have hoW' := hd (hoW.out.below hbh)
  clear hoW
  have hoW := hoW'
  clear hoW'
  have hoH' := hd (hoH.out.below hbh)
  clear hoH
  have hoH := hoH'
  clear hoH'
  have hz11 := hbh.size
  have hB' := hd (hB.out.next hbh)
  clear hB
  have hB := hB'
  clear hB'
  clear hbh
  go_wp2_with fail
  refine (toFieldS l0 _ _ (by omega) (hS0.out.mono hB.out)).mono ?_
  rintro e wt0 ⟨zt0, rfl, hot0, hbt0⟩
  obtain ⟨at0, ct0, rfl, _⟩ := hot0.sl
  rw [List.length_map] at hot0 ⊢
  have nt0 := hd hot0.lt
  have hot0 := hd hot0
  have hoW' := hd (hoW.out.below hbt0)
  clear hoW
  have hoW := hoW'
  clear hoW'
  have hoH' := hd (hoH.out.below hbt0)
  clear hoH
  have hoH := hoH'
  clear hoH'
  have hz12 := hbt0.size
  have hB' := hd (hB.out.next hbt0)
  clear hB
  have hB := hB'
  clear hB'
  clear hbt0
  go_wp2_with fail
  refine (SortFields_i l0 _ _ (by omega) hot0.out.sl b hb.out r hr.out).mono ?_
  rintro e wJ ⟨zJ, rbJ, rfl, hoJ, hbJ⟩
  obtain ⟨aJ, cJ, rfl, _⟩ := hoJ.sl
  rw [List.length_map] at hoJ ⊢
  have nJ := hd hoJ.lt
  have hoJ := hd hoJ
  clear hot0
  have hoW' := hd (hoW.out.below hbJ)
  clear hoW
  have hoW := hoW'
  clear hoW'
  have hoH' := hd (hoH.out.below hbJ)
  clear hoH
  have hoH := hoH'
  clear hoH'
  have hz13 := hbJ.size
  have hB' := hd (hB.out.next hbJ)
  clear hB
  have hB := hB'
  clear hB'
  clear hbJ
  go_wp2_with fail
  refine (eqFieldS r _ _ _ (by omega) hoJ.out.sl hoW.out.sl).mono ?_
  rintro e we ⟨rfl, hbe⟩
  have hoW' := hd (hoW.out.below hbe)
  clear hoW
  have hoW := hoW'
  clear hoW'
  have hoH' := hd (hoH.out.below hbe)
  clear hoH
  have hoH := hoH'
  clear hoH'
  have hoJ' := hd (hoJ.out.below hbe)
  clear hoJ
  have hoJ := hoJ'
  clear hoJ'
  have hz14 := hbe.size
  have hB' := hd (hB.out.next hbe)
  clear hB
  have hB := hB'
  clear hB'
  clear hbe
  go_wp2_with fail
  refine (heldField _ r.length 1 _ (by omega) (by omega) (by omega) hoH.out.sl).mono ?_
  rintro e wh ⟨rfl, hbh⟩
  have hoW' := hd (hoW.out.below hbh)
  clear hoW
  have hoW := hoW'
  clear hoW'
  have hoH' := hd (hoH.out.below hbh)
  clear hoH
  have hoH := hoH'
  clear hoH'
  have hoJ' := hd (hoJ.out.below hbh)
  clear hoJ
  have hoJ := hoJ'
  clear hoJ'
  have hz15 := hbh.size
  have hB' := hd (hB.out.next hbh)
  clear hB
  have hB := hB'
  clear hB'
  clear hbh
  go_wp2_with fail
  go_ret
  exact ⟨rfl, hB.out⟩
end Go.Proofs.Ytbjilpemckoioaa
