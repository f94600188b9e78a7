/- The walk of the law FnExactDropsOf: it returns true and writes nothing that was there. -/
import Derived.Test.YtobahkjbadamhaaDrops
import Derived.Test.YtobahkjbadamhaaMType
import Derived.Test.YtobahkjbadamhaaMarkInt
import Derived.Test.YtobahkjbadamhaaBases
import Derived.Deep.RegionHeld3
import Derived.Deep.Cut
import Derived.Deep.CutBlock
namespace Go.Proofs.Ytobahkjbadamhaa
open Go.RowKit
set_option linter.unusedVariables false
set_option maxRecDepth 100000
theorem box_new (w : World) (v : Value) (E : TypeId) : Box1 (w.alloc (.cells #[v] E)) w.heap.size v := ⟨by go_simp, by go_simp⟩
theorem alloc_swap {w : World} {o p : Obj} {a : Nat} {u : Value} (h : (w.alloc o).cell? ⟨a, 0, none⟩ = some u) (ha : a < w.heap.size) : (w.alloc p).cell? ⟨a, 0, none⟩ = some u := by
  rw [(below_a1 w).cell ha] at h ⊢; exact h
theorem keepSet {w : World} {a b o : Nat} {u v : Value} (h : w.cell? ⟨a, 0, none⟩ = some u) (hne : a ≠ b) : (w.setCell ⟨b, o, none⟩ v).cell? ⟨a, 0, none⟩ = some u :=
  (grownBy_setCell w ⟨b, o, none⟩ v).cell h (by simpa using hne)
theorem ownR_weaken {w : World} {B B2 E sz : Nat} {v : Value} {rows : List (List Value)} {rb : Option Nat} (h : OwnR w B E sz v rows rb) (hB : B2 ≤ B) : OwnR w B2 E sz v rows rb := by
  rcases h with ⟨h1, h⟩ | h
  · exact .inl ⟨h1, h.weaken hB⟩
  · exact .inr h
set_option maxHeartbeats 8000000 in
theorem law_DropsOf (s0 : ByteArray) (l1 : List DType) (v1 : Value) (w : World) (hlm0 : s0.size ≤ maxLen) (hlm1 : l1.length ≤ maxLen) (h1 : Sl w v1 6 (l1.map DType.enc)) (hok1 : ∀ x ∈ l1, DType.ok x) :
    Calls Try.prog 13 #[.string s0, .agg #[v1]] w (LawTrue w) := by
  unfold maxLen at *
  have hS1 := hd h1
  obtain ⟨a1, c1, rfl, _⟩ := h1
  have hok1 := hd hok1
  simp only [List.length_map] at *
  by_cases hc0 : (1048576 : Int) < (s0.size : Int)
  · go_enter Try.func13, Try.ntmps13
    go_wp2_with fail
    go_ret
    exact ⟨rfl, below_a1 _⟩
  have hl0 : s0.size ≤ 1048576 := by omega
  go_enter Try.func13, Try.ntmps13
  go_wp2_with fail
  refine (szSchema l1 _ _ _ (by omega) (by omega) hlm1 hok1.out (hS1.out.mono (below_a1 _))).mono ?_
  rintro e w1 ⟨r1, rfl, hr01, hr11, hr21, hb1⟩
  have q1 := keepCell hb1 (show _ = some (.slice a1 l1.length c1) from (by go_simp : World.cell? _ ⟨w.heap.size, 0, none⟩ = _))
  have hB := hd ((below_a1 _).next hb1)
  have hz0 := hb1.size
  have hz00 : w.heap.size + 1 ≤ w1.heap.size := by simp at hz0; omega
  clear hz0 hb1
  by_cases hn1 : r1 < 0
  · go_wp2_with fail
    go_ret
    exact ⟨rfl, hB.out⟩
  have hl1 : l1.length ≤ 1048576 := by have := hr21 (by omega); omega
  have hn1' : 0 ≤ r1 := by omega
  have hsm1 := hd (hr21 hn1').2
  clear hr21 hn1 hlm1
  go_wp2_with fail
  obtain ⟨b, r, hr, hr40⟩ := dropsP_ex l1 s0
  replace hr := hd hr
  have hrl : r.length ≤ 1048576 := by omega
  refine (toSchema l1 _ _ (by omega) (hS1.out.mono hB.out)).mono ?_
  rintro e ws1 ⟨zs1, rfl, hos1, hbs1⟩
  obtain ⟨as1, cs1, rfl, _⟩ := hos1.sl
  rw [List.length_map] at hos1 ⊢
  have ns1 := hd hos1.lt
  have hos1 := hd hos1
  have q1' := keepCell hbs1 q1
  clear q1
  have q1 := q1'
  clear q1'
  have hz1 := hbs1.size
  have hB' := hd (hB.out.next hbs1)
  clear hB
  have hB := hB'
  clear hB'
  clear hbs1
  go_wp2_with fail
  refine (DropsOf_s s0 l1 _ _ (by omega) (small_types hsm1.out) hos1.out.sl b r hr.out).mono ?_
  rintro e wW ⟨zW, rbW, rfl, hoW, hbW⟩
  obtain ⟨aW, cW, rfl, _⟩ := hoW.sl
  rw [List.length_map] at hoW ⊢
  have nW := hd hoW.lt
  have hoW := hd hoW
  clear hos1
  have q1' := keepCell hbW q1
  clear q1
  have q1 := q1'
  clear q1'
  have hz2 := hbW.size
  have hB' := hd (hB.out.next hbW)
  clear hB
  have hB := hB'
  clear hB'
  clear hbW
  go_wp2_with fail
  refine (toSchema l1 _ _ (by omega) (hS1.out.mono hB.out)).mono ?_
  rintro e wx1 ⟨zx1, rfl, hox1, hbx1⟩
  obtain ⟨ax1, cx1, rfl, _⟩ := hox1.sl
  rw [List.length_map] at hox1 ⊢
  have nx1 := hd hox1.lt
  have hox1 := hd hox1
  have q1' := keepCell hbx1 q1
  clear q1
  have q1 := q1'
  clear q1'
  have hoW' := hd (hoW.out.below hbx1)
  clear hoW
  have hoW := hoW'
  clear hoW'
  have hz3 := hbx1.size
  have hB' := hd (hB.out.next hbx1)
  clear hB
  have hB := hB'
  clear hB'
  clear hbx1
  go_upto_region 9 with (fail)
  have hal := below_a1 wx1 (a := .cells #[.slice ax1 l1.length cx1] 28)
  have q1' := keepCell hal q1
  clear q1
  have q1 := q1'
  clear q1'
  have hoW' := hd (hoW.out.below hal)
  clear hoW
  have hoW := hoW'
  clear hoW'
  have hox1' := hd (hox1.out.below hal)
  clear hox1
  have hox1 := hox1'
  clear hox1'
  have hz4 := hal.size
  have hB' := hd (hB.out.next hal)
  clear hB
  have hB := hB'
  clear hB'
  have hzzx1 : wx1.heap.size + 1 ≤ (wx1.alloc (.cells #[.slice ax1 l1.length cx1] 28)).heap.size := by simp
  have qbx1 : (wx1.alloc (.cells #[.slice ax1 l1.length cx1] 28)).cell? ⟨wx1.heap.size, 0, none⟩ = some (.slice ax1 l1.length cx1) := by go_simp
  clear hal
  generalize wx1.alloc (.cells #[.slice ax1 l1.length cx1] 28) = yx1 at q1 qbx1 hoW hox1 hB hz4 hzzx1 ⊢
  go_wp2_with fail
  refine (DropsOf_i s0 l1 _ _ (by omega) (small_types hsm1.out) hox1.out.sl b r hr.out).mono ?_
  rintro e wG ⟨zG, rbG, rfl, hoG, hbG⟩
  obtain ⟨aG, cG, rfl, _⟩ := hoG.sl
  rw [List.length_map] at hoG ⊢
  have nG := hd hoG.lt
  have hoG := hd hoG
  have q1' := keepCell hbG q1
  clear q1
  have q1 := q1'
  clear q1'
  have qbx1' := keepCell hbG qbx1
  clear qbx1
  have qbx1 := qbx1'
  clear qbx1'
  have hoW' := hd (hoW.out.below hbG)
  clear hoW
  have hoW := hoW'
  clear hoW'
  have hox1' := hd (hox1.out.below hbG)
  clear hox1
  have hox1 := hox1'
  clear hox1'
  have hz5 := hbG.size
  have hB' := hd (hB.out.next hbG)
  clear hB
  have hB := hB'
  clear hB'
  clear hbG
  go_wp2_with fail
  refine (eqIntS r _ _ _ (by omega) hoG.out.sl hoW.out.sl).mono ?_
  rintro e we ⟨rfl, hbe⟩
  have q1' := keepCell hbe q1
  clear q1
  have q1 := q1'
  clear q1'
  have qbx1' := keepCell hbe qbx1
  clear qbx1
  have qbx1 := qbx1'
  clear qbx1'
  have hoW' := hd (hoW.out.below hbe)
  clear hoW
  have hoW := hoW'
  clear hoW'
  have hox1' := hd (hox1.out.below hbe)
  clear hox1
  have hox1 := hox1'
  clear hox1'
  have hoG' := hd (hoG.out.below hbe)
  clear hoG
  have hoG := hoG'
  clear hoG'
  have hz6 := hbe.size
  have hB' := hd (hB.out.next hbe)
  clear hB
  have hB := hB'
  clear hB'
  clear hbe
  go_wp2_with fail
  go_region_held3 (fun w' => w'.cell? ⟨w.heap.size, 0, none⟩ = some (.slice a1 l1.length c1) ∧ w'.cell? ⟨wx1.heap.size, 0, none⟩ = some (.slice ax1 l1.length cx1))
    (first | go_keep | (go_split_ands; (repeat' apply And.intro) <;> first | exact keepCell hb8 (by assumption) | exact keepCell hb9 (by assumption)))
    (first
      | (go_at_call 16; refine (toSchema l1 _ _ (by omega) (hS1.out.mono hB.out.drew)).mono ?_; rintro e w8 ⟨v8, rfl, ho8, hb8⟩)
      | (go_at_call 18; refine (eqSchema l1 _ _ _ (by omega) (Own.below (hox1.out.below (Below.refl _ _).drew) hb8).sl ho8.sl).mono ?_; rintro e w9 ⟨rfl, hb9⟩))
  have hb10 := (Below.refl _ _).drew.trans (hb8.next hb9)
  have q1' := keepCell hb10 q1
  clear q1
  have q1 := q1'
  clear q1'
  have qbx1' := keepCell hb10 qbx1
  clear qbx1
  have qbx1 := qbx1'
  clear qbx1'
  have hoW' := hd (hoW.out.below hb10)
  clear hoW
  have hoW := hoW'
  clear hoW'
  have hox1' := hd (hox1.out.below hb10)
  clear hox1
  have hox1 := hox1'
  clear hox1'
  have hoG' := hd (hoG.out.below hb10)
  clear hoG
  have hoG := hoG'
  clear hoG'
  have hz7 := hb10.size
  have hB' := hd (hB.out.next hb10)
  clear hB
  have hB := hB'
  clear hB'
  clear hb8 hb9 ho8 hb10
  go_wp2_with fail
  refine (markSchema _ _ l1.length (by rw [List.length_map]) _ 1 _ (by omega) (by omega) (by omega) hox1.out).mono ?_
  rintro e wm1 ⟨rfl, hom1, hgm1⟩
  have q1' := keepG hgm1 q1 nx1.out (by omega)
  clear q1
  have q1 := q1'
  clear q1'
  have qbx1' := keepG hgm1 qbx1 nx1.out (by omega)
  clear qbx1
  have qbx1 := qbx1'
  clear qbx1'
  have hoW' := hd (hoW.out.kept hgm1 (apart nW.out nx1.out (by omega)))
  clear hoW
  have hoW := hoW'
  clear hoW'
  have hoG' := hd (hoG.out.kept hgm1 (apart nG.out nx1.out (by omega)))
  clear hoG
  have hoG := hoG'
  clear hoG'
  have hz8 := hgm1.size
  have hB' := hd (hB.out.grown hgm1 (by have := hB.out.size; omega) (by intro g e; have := nx1.out g e; omega))
  clear hB
  have hB := hB'
  clear hB'
  clear qbx1
  clear hgm1 hom1 hox1
  have hk01 : 1 ≤ 1 + 6 * (l1.length : Int) := by omega
  have hk11 : 1 + 6 * (l1.length : Int) ≤ 100000000 := by omega
  generalize 1 + 6 * (l1.length : Int) = K1 at hk01 hk11 ⊢
  go_wp2_with fail
  refine (eqIntS r _ _ _ (by omega) hoG.out.sl hoW.out.sl).mono ?_
  rintro e we ⟨rfl, hbe⟩
  have q1' := keepCell hbe q1
  clear q1
  have q1 := q1'
  clear q1'
  have hoW' := hd (hoW.out.below hbe)
  clear hoW
  have hoW := hoW'
  clear hoW'
  have hoG' := hd (hoG.out.below hbe)
  clear hoG
  have hoG := hoG'
  clear hoG'
  have hz9 := hbe.size
  have hB' := hd (hB.out.next hbe)
  clear hB
  have hB := hB'
  clear hB'
  clear hbe
  go_wp2_with fail
  refine (markIR _ _ r.length (by rw [List.length_map]) _ _ 1 _ (by omega) (by omega) (by omega) hoG.out).mono ?_
  rintro e wmG ⟨rfl, hoH, hgG⟩
  have q1' := keepG hgG q1 nG.out (by omega)
  clear q1
  have q1 := q1'
  clear q1'
  have hoW' := hd (hoW.out.kept hgG (apart nW.out nG.out (by omega)))
  clear hoW
  have hoW := hoW'
  clear hoW'
  have hz10 := hgG.size
  have hB' := hd (hB.out.grown hgG (by have := hB.out.size; omega) (by intro g e; have := nG.out g e; omega))
  clear hB
  have hB := hB'
  clear hB'
  clear hoG hgG
  have hoH := hd hoH
  have nH := hd hoH.out.lt
  have hm0 : ¬ 1 + (r.length : Int) < 0 := by omega
  go_wp2_with fail
  refine (heldI _ r.length 1 _ (by omega) (by omega) (by omega) hoH.out.sl).mono ?_
  rintro e wh ⟨rfl, hbh⟩
  have q1' := keepCell hbh q1
  clear q1
  have q1 := q1'
  clear q1'
  have hoW' := hd (hoW.out.below hbh)
  clear hoW
  have hoW := hoW'
  clear hoW'
  have hoH' := hd (hoH.out.below hbh)
  clear hoH
  have hoH := hoH'
  clear hoH'
  have hz11 := hbh.size
  have hB' := hd (hB.out.next hbh)
  clear hB
  have hB := hB'
  clear hB'
  clear hbh
  go_wp2_with fail
  refine (toSchema l1 _ _ (by omega) (hS1.out.mono hB.out)).mono ?_
  rintro e wt1 ⟨zt1, rfl, hot1, hbt1⟩
  obtain ⟨at1, ct1, rfl, _⟩ := hot1.sl
  rw [List.length_map] at hot1 ⊢
  have nt1 := hd hot1.lt
  have hot1 := hd hot1
  have q1' := keepCell hbt1 q1
  clear q1
  have q1 := q1'
  clear q1'
  have hoW' := hd (hoW.out.below hbt1)
  clear hoW
  have hoW := hoW'
  clear hoW'
  have hoH' := hd (hoH.out.below hbt1)
  clear hoH
  have hoH := hoH'
  clear hoH'
  have hz12 := hbt1.size
  have hB' := hd (hB.out.next hbt1)
  clear hB
  have hB := hB'
  clear hB'
  clear hbt1
  go_wp2_with fail
  refine (DropsOf_i s0 l1 _ _ (by omega) (small_types hsm1.out) hot1.out.sl b r hr.out).mono ?_
  rintro e wJ ⟨zJ, rbJ, rfl, hoJ, hbJ⟩
  obtain ⟨aJ, cJ, rfl, _⟩ := hoJ.sl
  rw [List.length_map] at hoJ ⊢
  have nJ := hd hoJ.lt
  have hoJ := hd hoJ
  clear hot1
  have q1' := keepCell hbJ q1
  clear q1
  have q1 := q1'
  clear q1'
  have hoW' := hd (hoW.out.below hbJ)
  clear hoW
  have hoW := hoW'
  clear hoW'
  have hoH' := hd (hoH.out.below hbJ)
  clear hoH
  have hoH := hoH'
  clear hoH'
  have hz13 := hbJ.size
  have hB' := hd (hB.out.next hbJ)
  clear hB
  have hB := hB'
  clear hB'
  clear hbJ
  go_wp2_with fail
  refine (eqIntS r _ _ _ (by omega) hoJ.out.sl hoW.out.sl).mono ?_
  rintro e we ⟨rfl, hbe⟩
  have q1' := keepCell hbe q1
  clear q1
  have q1 := q1'
  clear q1'
  have hoW' := hd (hoW.out.below hbe)
  clear hoW
  have hoW := hoW'
  clear hoW'
  have hoH' := hd (hoH.out.below hbe)
  clear hoH
  have hoH := hoH'
  clear hoH'
  have hoJ' := hd (hoJ.out.below hbe)
  clear hoJ
  have hoJ := hoJ'
  clear hoJ'
  have hz14 := hbe.size
  have hB' := hd (hB.out.next hbe)
  clear hB
  have hB := hB'
  clear hB'
  clear hbe
  go_wp2_with fail
  refine (heldI _ r.length 1 _ (by omega) (by omega) (by omega) hoH.out.sl).mono ?_
  rintro e wh ⟨rfl, hbh⟩
  have q1' := keepCell hbh q1
  clear q1
  have q1 := q1'
  clear q1'
  have hoW' := hd (hoW.out.below hbh)
  clear hoW
  have hoW := hoW'
  clear hoW'
  have hoH' := hd (hoH.out.below hbh)
  clear hoH
  have hoH := hoH'
  clear hoH'
  have hoJ' := hd (hoJ.out.below hbh)
  clear hoJ
  have hoJ := hoJ'
  clear hoJ'
  have hz15 := hbh.size
  have hB' := hd (hB.out.next hbh)
  clear hB
  have hB := hB'
  clear hB'
  clear hbh
  go_wp2_with fail
  go_ret
  exact ⟨rfl, hB.out⟩
end Go.Proofs.Ytobahkjbadamhaa
